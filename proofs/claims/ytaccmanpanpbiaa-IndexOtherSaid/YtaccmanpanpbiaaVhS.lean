import Derived.Test.YtaccmanpanpbiaaVhP
/- Code inside a function: numbers that the function has made may be told anew. -/
set_option linter.unusedVariables false
set_option linter.unusedSimpArgs false
namespace Go.Vh
variable {P : Program} {N : Nat} {ρ : Option Nat} {n0 : Nat}

/-! ### Other numbers -/
mutual
def ren (κ : Nat → Nat) : AVal → AVal
  | .ptr i o => .ptr (κ i) o
  | .slice i o l => .slice (κ i) o l
  | .view i o l => .view (κ i) o l
  | .map i => .map (κ i)
  | .func f a b => .func f (rens κ a) (rens κ b)
  | .yield i => .yield (κ i)
  | .agg l => .agg (rens κ l)
  | .tuple l => .tuple (rens κ l)
  | .undef => .undef
  | .raw v => .raw v
  | .int k n => .int k n
  | .bool b => .bool b
  | .str s => .str s
  | .nilSlice => .nilSlice
  | .row n cs => .row n cs
  | .rptr cs o => .rptr cs o
def rens (κ : Nat → Nat) : List AVal → List AVal
  | [] => []
  | v :: l => ren κ v :: rens κ l
end
def PMap.via (φ : PMap) (κ : Nat → Nat) : PMap := ⟨fun i => φ (κ i), φ.z⟩
mutual
theorem VRel_ren {φ : PMap} {κ : Nat → Nat} : ∀ (v : AVal) (c : Value), VRel φ (ren κ v) c ↔ VRel (φ.via κ) v c
  | .undef, _ => by simp [ren, VRel]
  | .raw _, _ => by simp [ren, VRel]
  | .int _ _, _ => by simp [ren, VRel]
  | .bool _, _ => by simp [ren, VRel]
  | .str _, _ => by simp [ren, VRel]
  | .nilSlice, _ => by simp [ren, VRel]
  | .ptr i off, _ => by simp [ren, VRel, PMap.via]
  | .slice i off len, _ => by simp [ren, VRel, PMap.via]
  | .view i off len, _ => by simp [ren, VRel, PMap.via]
  | .map i, _ => by simp [ren, VRel, PMap.via]
  | .yield i, _ => by simp [ren, VRel, PMap.via]
  | .row n cs, _ => by simp only [ren, VRel]; exact Iff.rfl
  | .rptr cs o, _ => by simp only [ren, VRel]; exact Iff.rfl
  | .func f as bs, c => by
    simp only [ren, VRel]
    constructor
    · rintro ⟨cs, ds, h, h1, h2⟩; exact ⟨cs, ds, h, (VRels_ren as cs).1 h1, (VRels_ren bs ds).1 h2⟩
    · rintro ⟨cs, ds, h, h1, h2⟩; exact ⟨cs, ds, h, (VRels_ren as cs).2 h1, (VRels_ren bs ds).2 h2⟩
  | .agg as, c => by
    simp only [ren, VRel]
    constructor
    · rintro ⟨cs, h, h1⟩; exact ⟨cs, h, (VRels_ren as cs).1 h1⟩
    · rintro ⟨cs, h, h1⟩; exact ⟨cs, h, (VRels_ren as cs).2 h1⟩
  | .tuple as, c => by
    simp only [ren, VRel]
    constructor
    · rintro ⟨cs, h, h1⟩; exact ⟨cs, h, (VRels_ren as cs).1 h1⟩
    · rintro ⟨cs, h, h1⟩; exact ⟨cs, h, (VRels_ren as cs).2 h1⟩
theorem VRels_ren {φ : PMap} {κ : Nat → Nat} : ∀ (vs : List AVal) (cs : List Value), VRels φ (rens κ vs) cs ↔ VRels (φ.via κ) vs cs
  | [], cs => by simp [rens, VRels]
  | v :: vs, [] => by simp [rens, VRels]
  | v :: vs, c :: cs => by rw [rens, VRels_cons, VRels_cons, VRel_ren v c, VRels_ren vs cs]
end
theorem rens_length (κ : Nat → Nat) : ∀ l : List AVal, (rens κ l).length = l.length
  | [] => rfl
  | v :: l => by simp [rens, rens_length κ l]
theorem rens_get (κ : Nat → Nat) : ∀ (l : List AVal) (j : Nat), (rens κ l)[j]? = (l[j]?).map (ren κ)
  | [], j => by simp [rens]
  | v :: l, 0 => by simp [rens]
  | v :: l, j + 1 => by simp [rens, rens_get κ l j]
theorem rens_map (κ : Nat → Nat) (l : List AVal) : rens κ l = l.map (ren κ) := by
  induction l with
  | nil => rfl
  | cons v l ih => simp [rens, ih]
def renM (κ : Nat → Nat) (l : List (AVal × AVal)) : List (AVal × AVal) := l.map fun p => (ren κ p.1, ren κ p.2)
theorem MRels_ren {φ : PMap} {κ : Nat → Nat} : ∀ (l : List (AVal × AVal)) (es : List MapEntry), MRels φ (renM κ l) es ↔ MRels (φ.via κ) l es
  | [], es => by simp [renM, MRels]
  | (k, v) :: l, es => by
    simp only [renM, List.map_cons, MRels]
    constructor
    · rintro ⟨e, es', h, h1, h2, h3⟩; exact ⟨e, es', h, (VRel_ren k _).1 h1, (VRel_ren v _).1 h2, (MRels_ren l es').1 h3⟩
    · rintro ⟨e, es', h, h1, h2, h3⟩; exact ⟨e, es', h, (VRel_ren k _).2 h1, (VRel_ren v _).2 h2, (MRels_ren l es').2 h3⟩
def renE (κ : Nat → Nat) (e : Env) : Env := fun t => ren κ (e t)
theorem ERel_ren {φ : PMap} {κ : Nat → Nat} {e : Env} {tmps : Array Value} : ERel φ N (renE κ e) tmps → ERel (φ.via κ) N e tmps := by
  rintro ⟨h1, h2⟩
  refine ⟨h1, fun t => ?_⟩
  rcases h2 t with h | h
  · exact .inl ((VRel_ren _ _).1 h)
  · right
    unfold renE at h
    cases he : e t <;> rw [he] at h <;> simp [ren] at h ⊢
def renB (κ : Nat → Nat) : ABlk → ABlk
  | .dead => .dead
  | .cells es cs => .cells es (rens κ cs)
  | .ro es cs => .ro es (rens κ cs)
  | .map es => .map (renM κ es)
  | .loop r => .loop { r with env := renE κ r.env }
/-- A block that is told of block h: it, nothing, or its cells to be read. -/
def BSub (κ : Nat → Nat) (g h : ABlk) : Prop := h = renB κ g ∨ (g = .dead ∨ ∃ es, g = .ro es [] ∧ ∃ cs, h = .ro es cs ∨ h = .cells es cs) ∨ ∃ es cs, g = .ro es cs ∧ h = .cells es (rens κ cs)
theorem BSub.rw_eq {κ : Nat → Nat} {g h : ABlk} (hs : BSub κ g h) (hg : g.rw) : h = renB κ g := by
  rcases hs with h1 | (rfl | ⟨es, rfl, _⟩) | ⟨es, cs, rfl, _⟩
  · exact h1
  · exact hg.elim
  · exact hg.elim
  · exact hg.elim
theorem renB_rw {κ : Nat → Nat} {g : ABlk} : (renB κ g).rw ↔ g.rw := by cases g <;> simp [renB, ABlk.rw]
theorem renB_live {κ : Nat → Nat} {g : ABlk} : (renB κ g).live ↔ g.live := by
  cases g with
  | ro es cs => cases cs <;> simp [renB, ABlk.live, rens]
  | _ => simp [renB, ABlk.live]
theorem BSub.live {κ : Nat → Nat} {g h : ABlk} (hs : BSub κ g h) (hg : g.live) : h.live := by
  rcases hs with h1 | (rfl | ⟨es, rfl, _⟩) | ⟨es, cs, rfl, h1⟩
  · rw [h1]; exact renB_live.2 hg
  · exact hg.elim
  · exact absurd rfl hg
  · rw [h1]; trivial
theorem BRel_ren {φ : PMap} {κ : Nat → Nat} {w : World} {b : BI} {g : ABlk} (h : BRel φ w b (renB κ g)) : BRel (φ.via κ) w b g := by
  cases g with
  | dead => trivial
  | cells es cs =>
    obtain ⟨h1, arr, elem, h2, h3, h4, h5⟩ := h
    rw [rens_length] at h4 h5
    exact ⟨h1, arr, elem, h2, h3, h4, (VRels_ren _ _).1 h5⟩
  | ro es cs =>
    refine ⟨h.1, fun j v hv => ?_⟩
    obtain ⟨c, hc, hr⟩ := h.2 j (ren κ v) (by rw [rens_get, hv]; rfl)
    exact ⟨c, hc, (VRel_ren _ _).1 hr⟩
  | map es =>
    obtain ⟨ents, clock, h1, h2⟩ := h
    exact ⟨ents, clock, h1, (MRels_ren _ _).1 h2⟩
  | loop r =>
    obtain ⟨l, h1, h2, h3, h4, h5⟩ := h
    exact ⟨l, h1, h2, h3, ERel_ren h4, h5⟩
theorem BRel_sub {φ : PMap} {κ : Nat → Nat} {w : World} {b : BI} {g h : ABlk} (hs : BSub κ g h) (hb : BRel φ w b h) : BRel (φ.via κ) w b g := by
  rcases hs with rfl | (rfl | ⟨es, rfl, cs, rfl | rfl⟩) | ⟨es, cs, rfl, rfl⟩
  · exact BRel_ren hb
  · trivial
  · exact ⟨hb.1, fun j v hv => by simp at hv⟩
  · exact ⟨hb.1, fun j v hv => by simp at hv⟩
  · obtain ⟨h1, arr, elem, h2, h3, h4, h5⟩ := hb
    refine ⟨h1, fun j v hv => ?_⟩
    have hv' : (rens κ cs)[j]? = some (ren κ v) := by rw [rens_get, hv]; rfl
    obtain ⟨c, hc, hr⟩ := VRels_get h5 hv'
    have hj : j < (rens κ cs).length := (List.getElem?_eq_some_iff.1 hv').1
    rw [List.getElem?_take, if_pos hj, List.getElem?_drop, Array.getElem?_toList] at hc
    exact ⟨c, by simp only [World.cell?, h2]; exact hc, (VRel_ren _ _).1 hr⟩

/-- G tells of some blocks of H, under other numbers but for those before n0. -/
structure Emb (n0 : Nat) (κ : Nat → Nat) (G H : AHeap) : Prop where
  fix : ∀ i, i < n0 → κ i = i
  ver : ∀ i, i < n0 → G.ver i = H.ver i
  keep : ∀ i, i < n0 → (H.f i).live → (G.f i).live
  le : n0 ≤ G.n
  out : ∀ i, G.n ≤ i → H.n ≤ κ i
  blk : ∀ i, i < G.n → κ i < H.n ∧ BSub κ (G.f i) (H.f (κ i))
  inj : ∀ i j, i < G.n → j < G.n → i ≠ j → (G.f i).rw → (G.f j).live → κ i ≠ κ j
theorem Rel.lt_n {φ : PMap} {H : AHeap} {w : World} (hR : Rel φ H w) {i : Nat} {b : BI} (h : φ i = some b) : i < H.n := by
  rcases Nat.lt_or_ge i H.n with h' | h'
  · exact h'
  · rw [hR.dom i h'] at h; cases h
theorem Rel.sub {φ : PMap} {G H : AHeap} {w : World} {κ : Nat → Nat} (hR : Rel φ H w) (hE : Emb n0 κ G H) : Rel (φ.via κ) G w := by
  have lt : ∀ {i b}, φ (κ i) = some b → i < G.n := fun {i b} h => by
    rcases Nat.lt_or_ge i G.n with h' | h'
    · exact h'
    · have := hR.dom _ (hE.out i h'); rw [this] at h; cases h
  refine ⟨fun i hi => hR.dom _ (hE.out i hi), fun i hi => hR.has _ (hE.blk i hi).1, fun i b hb => BRel_sub (hE.blk i (lt hb)).2 (hR.blk _ b hb), fun i j b c hb hc hij hrw hlv => ?_, fun i b hb hrw => ?_, fun k o hz => ?_⟩
  · have hi := hE.blk i (lt hb)
    have hj := hE.blk j (lt hc)
    exact hR.inj _ _ b c hb hc (hE.inj i j (lt hb) (lt hc) hij hrw hlv) (by rw [hi.2.rw_eq hrw]; exact renB_rw.2 hrw) (hj.2.live hlv)
  · have hi := hE.blk i (lt hb)
    exact hR.lt _ b hb (by rw [hi.2.rw_eq hrw]; exact renB_rw.2 hrw)
  · obtain ⟨z1, z2, z3⟩ := hR.fz k o hz
    exact ⟨z1, fun i b hb hrw => z2 _ b hb (by rw [(hE.blk i (lt hb)).2.rw_eq hrw]; exact renB_rw.2 hrw), z3⟩
theorem Own.sub {φ : PMap} {G H : AHeap} {w : World} {κ : Nat → Nat} (hR : Rel φ H w) (hE : Emb n0 κ G H) {k : Nat} (h : Own (φ.via κ) G k) : Own φ H k := by
  obtain ⟨i, b, hb, hrw, hk⟩ := h
  have hi : i < G.n := (hR.sub hE).lt_n hb
  exact ⟨κ i, b, hb, by rw [(hE.blk i hi).2.rw_eq hrw]; exact renB_rw.2 hrw, hk⟩
theorem Ext.sub {φ0 φ : PMap} {H0 G H : AHeap} {w0 w : World} {κ : Nat → Nat} (hX : Ext φ0 H0 w0 φ H w) (hR : Rel φ H w) (h0 : H0.n = n0) (hd : ∀ i, n0 ≤ i → φ0 i = none) (hE : Emb n0 κ G H) : Ext φ0 H0 w0 (φ.via κ) G w := by
  have lt : ∀ {i b}, φ0 i = some b → i < n0 := fun {i b} h => by
    rcases Nat.lt_or_ge i n0 with h' | h'
    · exact h'
    · rw [hd i h'] at h; cases h
  refine ⟨⟨fun i b hb => ?_, hX.le.z⟩, hX.size, hX.keep, fun k hk => hX.own k (hk.sub hR hE), hX.os, hX.tape, hX.output, by rw [h0]; exact hE.le, fun i b hb => ?_, fun i b hb hl hv => ?_, hX.zown⟩
  · show φ (κ i) = some b
    rw [hE.fix i (lt hb)]; exact hX.le i b hb
  · rw [hE.ver i (lt hb)]; exact hX.ver i b hb
  · rw [hE.ver i (lt hb)] at hv
    obtain ⟨h1, h2⟩ := hX.same i b hb hl hv
    exact ⟨hE.keep i (lt hb) h1, h2⟩

/-! ### Code within a function -/
def CWF (P : Program) (N : Nat) (ρ : Option Nat) (n0 : Nat) (c : Code) (e : Env) (H : AHeap) (K : Exit → Env → AHeap → Prop) : Prop :=
  ∀ B φ0 H0 w0 φ w (a : Act), H0.n = n0 → (∀ i, n0 ≤ i → φ0 i = none) → Rel φ H w → ERel φ N e a.tmps → GoodMarks B φ H w a.defers → B ≤ w0.heap.size → Ext φ0 H0 w0 φ H w → c.wpIn (fence ρ) 0 P (XPost N B φ0 H0 w0 K) a w
theorem CW.within {c : Code} {e : Env} {H : AHeap} {K : Exit → Env → AHeap → Prop} (h : CW P N ρ c e H K) : CWF P N ρ n0 c e H K :=
  fun B φ0 H0 w0 φ w a _ _ hR hE hM hB hX => wpIn_mono (h B φ w a hR hE hM (Nat.le_trans hB hX.size)) fun x a' w' hx => hx.trans hX
theorem CWF.mono {c : Code} {e : Env} {H : AHeap} {K K' : Exit → Env → AHeap → Prop} (h : CWF P N ρ n0 c e H K) (hk : ∀ x e H, K x e H → K' x e H) : CWF P N ρ n0 c e H K' :=
  fun B φ0 H0 w0 φ w a h0 hd hR hE hM hB hX => wpIn_mono (h B φ0 H0 w0 φ w a h0 hd hR hE hM hB hX) fun x a' w' ⟨φ', e', H', h1, h2, h3, h4, h5⟩ => ⟨φ', e', H', h1, h2, h3, h4, hk _ _ _ h5⟩
/-- What lives on is told anew. -/
theorem CWF.gc {c : Code} {e e' : Env} {G H : AHeap} {K : Exit → Env → AHeap → Prop} {κ : Nat → Nat} (hE : Emb n0 κ G H) (he : ∀ t, e t = ren κ (e' t) ∨ e' t = .undef) (h : CWF P N ρ n0 c e' G K) : CWF P N ρ n0 c e H K := by
  intro B φ0 H0 w0 φ w a h0 hd hR hER hM hB hX
  refine h B φ0 H0 w0 _ w a h0 hd (hR.sub hE) ⟨hER.1, fun t => ?_⟩ ⟨fun d hd' => ?_, hM.2⟩ hB (hX.sub hR h0 hd hE)
  · rcases he t with h1 | h1
    · have := hER.get t
      rw [h1] at this
      exact .inl ((VRel_ren _ _).1 this)
    · exact .inr h1
  · obtain ⟨r, h1, h2, h3, h4⟩ := hM.1 d hd'
    exact ⟨r, h1, h2, fun ho => h3 (ho.sub hR hE), h4⟩
theorem CWF.seq {c d : Code} {e : Env} {H : AHeap} {K : Exit → Env → AHeap → Prop} (h : CWF P N ρ n0 c e H fun x e H => match x with | .normal => CWF P N ρ n0 d e H K | x => K x e H) : CWF P N ρ n0 (.seq c d) e H K := by
  intro B φ0 H0 w0 φ w a h0 hd hR hE hM hB hX
  refine wpIn_seq (wpIn_mono (h B φ0 H0 w0 φ w a h0 hd hR hE hM hB hX) fun x a' w' hx => ?_)
  obtain ⟨φ', e', H', h1, h2, h3, h4, h5⟩ := hx
  cases x with
  | normal => exact h5 B φ0 H0 w0 φ' w' a' h0 hd h1 h2 h4 hB h3
  | _ => exact ⟨φ', e', H', h1, h2, h3, h4, h5⟩
theorem CWF.cond {c : Operand} {x y : Code} {e : Env} {H : AHeap} {K : Exit → Env → AHeap → Prop} {t : Bool} (hc : evalA e c = .bool t) (h : if t = true then CWF P N ρ n0 x e H K else CWF P N ρ n0 y e H K) : CWF P N ρ n0 (.cond c x y) e H K := by
  intro B φ0 H0 w0 φ w a h0 hd hR hE hM hB hX
  have hr := evalA_rel hE c
  rw [hc] at hr
  have hr' : a.eval c = .bool t := hr
  refine wpIn_cond hr' ?_
  cases t with
  | true => exact h B φ0 H0 w0 φ w a h0 hd hR hE hM hB hX
  | false => exact h B φ0 H0 w0 φ w a h0 hd hR hE hM hB hX
theorem CWF.block {id : Nat} {c : Code} {e : Env} {H : AHeap} {K : Exit → Env → AHeap → Prop} (h : CWF P N ρ n0 c e H fun x e H => match x with | .exit i => (if i = id then K .normal e H else K (.exit i) e H) | x => K x e H) : CWF P N ρ n0 (.block id c) e H K := by
  intro B φ0 H0 w0 φ w a h0 hd hR hE hM hB hX
  refine wpIn_block (wpIn_mono (h B φ0 H0 w0 φ w a h0 hd hR hE hM hB hX) fun x a' w' hx => ?_)
  obtain ⟨φ', e', H', h1, h2, h3, h4, h5⟩ := hx
  cases x with
  | exit i =>
    simp only [Exit.inBlock]
    split
    · rename_i hi; simp only [hi, if_true] at h5; exact ⟨φ', e', H', h1, h2, h3, h4, h5⟩
    · rename_i hi; simp only [hi, if_false] at h5; exact ⟨φ', e', H', h1, h2, h3, h4, h5⟩
  | _ => exact ⟨φ', e', H', h1, h2, h3, h4, h5⟩
/-- A loop: an invariant with a number that every round lowers. -/
theorem CWF.loop {c : Code} {e : Env} {H : AHeap} {K : Exit → Env → AHeap → Prop} (I : Nat → Env → AHeap → Prop) {m : Nat} (hI0 : I m e H)
    (round : ∀ m e H, I m e H → CWF P N ρ n0 c e H fun x e' H' => match x with | .normal => (∃ m', m' < m ∧ I m' e' H') | x => K x e' H') : CWF P N ρ n0 (.loop c) e H K := by
  intro B φ0 H0 w0 φ w a h0 hd hR hE hM hB hX b k cs hro hb hr
  have key : ∀ (m : Nat) e H φ1 w1 (a1 : Act), I m e H → Rel φ1 H w1 → ERel φ1 N e a1.tmps → GoodMarks B φ1 H w1 a1.defers → Ext φ0 H0 w0 φ1 H w1 →
      ∃ x a' w', XPost N B φ0 H0 w0 K x a' w' ∧ ArrivesIn (Machine.fenced P (fence ρ)) P (lone (b.atR a1 (.code c :: .inLoop c :: k)) cs w1) b k cs x a' w' := by
    intro m
    induction m using Nat.strongRecOn with
    | _ m ih =>
      intro e H φ1 w1 a1 hI hR hE hM hX
      obtain ⟨x, a2, w2, hq, harr⟩ := round m e H hI B φ0 H0 w0 φ1 w1 a1 h0 hd hR hE hM hB hX b (.inLoop c :: k) cs hro hb hr
      obtain ⟨φ2, e2, H2, g1, g2, g3, g4, g5⟩ := hq
      cases x with
      | normal =>
        obtain ⟨m', hlt, hI'⟩ := g5
        obtain ⟨x3, a3, w3, hq3, harr3⟩ := ih m' hlt e2 H2 φ2 w2 a2 hI' g1 g2 g4 g3
        exact ⟨x3, a3, w3, hq3, .of_steps (StepsIn.trans harr (.one (fenced_calm hb hr rfl) stepR_inLoop)) harr3⟩
      | exit id => exact ⟨_, a2, w2, ⟨φ2, e2, H2, g1, g2, g3, g4, g5⟩, .pass (x := .inLoop c) rfl (fun _ _ => .inl (by simp)) harr⟩
      | goto l => exact ⟨_, a2, w2, ⟨φ2, e2, H2, g1, g2, g3, g4, g5⟩, .pass (x := .inLoop c) rfl (fun _ _ => .inl (by simp)) harr⟩
      | ret => exact ⟨_, a2, w2, ⟨φ2, e2, H2, g1, g2, g3, g4, g5⟩, .pass (x := .inLoop c) rfl (fun _ _ => .inl (by simp)) harr⟩
      | panic ch => exact ⟨_, a2, w2, ⟨φ2, e2, H2, g1, g2, g3, g4, g5⟩, .pass (x := .inLoop c) rfl (fun _ _ => .inl (by simp)) harr⟩
      | outgrown => exact ⟨_, a2, w2, ⟨φ2, e2, H2, g1, g2, g3, g4, g5⟩, .pass (x := .inLoop c) rfl (fun _ _ => .inl (by simp)) harr⟩
  obtain ⟨x, a', w', hq, harr⟩ := key m e H φ w a hI0 hR hE hM hX
  exact ⟨x, a', w', hq, .of_steps (.one (fenced_calm hb hr rfl) stepR_loop) harr⟩
/-- **A function's contract, from its body.** -/
theorem CallW.of_bodyG {f : FuncId} {fn : Func} {c : Code} {args : List AVal} {H : AHeap} {K : AVal → AHeap → Prop} (hf : P.funcs[f]? = some fn) (hb : fn.body = some c) (hlen : args.length ≤ fn.ntmps)
    (h : CWF P fn.ntmps none H.n c (env0 args) H fun x e H' => (x = .normal ∨ x = .ret) ∧ ∃ v, resA P e H' fn.results.toList = some v ∧ K v H') : CallW P f args H K := by
  intro φ w cargs hR ha
  refine callsIn_wide.1 (callsIn_of_wp_marks (F := fence none) (n := 0) hf hb trivial ?_)
  have hal := VRels_length ha
  rw [Array.length_toList] at hal
  have hE : ERel φ fn.ntmps (env0 args) (cargs ++ Array.replicate (fn.ntmps - cargs.size) Go.undef) := by
    refine ⟨by simp; omega, fun t => ?_⟩
    by_cases ht : t < args.length
    · left
      have hv : args[t]? = some args[t] := List.getElem?_eq_getElem ht
      obtain ⟨c, hc, hr⟩ := VRels_get ha hv
      have : env0 args t = args[t] := by simp [env0, ht]
      rw [this]
      have hc' : cargs[t]? = some c := by simpa using hc
      rw [Array.getD_eq_getD_getElem?, Array.getElem?_append_left (by omega), hc']
      exact hr
    · right
      simp [env0, Nat.not_lt.1 ht]
  refine wpIn_mono (h w.heap.size φ H w φ w { tmps := cargs ++ Array.replicate (fn.ntmps - cargs.size) Go.undef, defers := [] } rfl (fun i hi => hR.dom i hi) hR hE (GoodMarks.nil _ _ _ _) (Nat.le_refl _) (Ext.refl _ _ _)) fun x a' w' hx => ?_
  obtain ⟨φ', e', H', h1, h2, h3, h4, h5, v, hv, hK⟩ := hx
  have := leaves (P := P) (N := fn.ntmps) (R := CallPost φ H w K) hv (fun c w'' hc hR'' hX'' => ⟨c, v, _, H', rfl, hc, hR'', hX'', hK⟩) a'.defers w' h1 h2 h3 h4
  rcases h5 with rfl | rfl
  · exact this
  · exact this
/-- **A function's contract, from its body; the result is told by numbers of one's own choice.** -/
theorem CallW.of_bodyF {f : FuncId} {fn : Func} {c : Code} {args : List AVal} {H : AHeap} {K : AVal → AHeap → Prop} (hf : P.funcs[f]? = some fn) (hb : fn.body = some c) (hlen : args.length ≤ fn.ntmps)
    (h : CWF P fn.ntmps none H.n c (env0 args) H fun x e H' => (x = .normal ∨ x = .ret) ∧ ∃ v, resA P e H' fn.results.toList = some v ∧ ∃ κ v' G, Emb H.n κ G H' ∧ v = ren κ v' ∧ K v' G) : CallW P f args H K := by
  intro φ w cargs hR ha
  refine callsIn_wide.1 (callsIn_of_wp_marks (F := fence none) (n := 0) hf hb trivial ?_)
  have hal := VRels_length ha
  rw [Array.length_toList] at hal
  have hE : ERel φ fn.ntmps (env0 args) (cargs ++ Array.replicate (fn.ntmps - cargs.size) Go.undef) := by
    refine ⟨by simp; omega, fun t => ?_⟩
    by_cases ht : t < args.length
    · left
      have hv : args[t]? = some args[t] := List.getElem?_eq_getElem ht
      obtain ⟨c, hc, hr⟩ := VRels_get ha hv
      have : env0 args t = args[t] := by simp [env0, ht]
      rw [this]
      have hc' : cargs[t]? = some c := by simpa using hc
      rw [Array.getD_eq_getD_getElem?, Array.getElem?_append_left (by omega), hc']
      exact hr
    · right
      simp [env0, Nat.not_lt.1 ht]
  refine wpIn_mono (h w.heap.size φ H w φ w { tmps := cargs ++ Array.replicate (fn.ntmps - cargs.size) Go.undef, defers := [] } rfl (fun i hi => hR.dom i hi) hR hE (GoodMarks.nil _ _ _ _) (Nat.le_refl _) (Ext.refl _ _ _)) fun x a' w' hx => ?_
  obtain ⟨φ', e', H', h1, h2, h3, h4, h5, v, hv, κ, v', G, hEmb, rfl, hK⟩ := hx
  have := leaves (P := P) (N := fn.ntmps) (R := CallPost φ H w K) hv (fun c w'' hc hR'' hX'' => ⟨c, v', _, G, rfl, (VRel_ren _ _).1 hc, hR''.sub hEmb, hX''.sub hR'' rfl (fun i hi => hR.dom i hi) hEmb, hK⟩) a'.defers w' h1 h2 h3 h4
  rcases h5 with rfl | rfl
  · exact this
  · exact this
mutual
theorem ren_id : ∀ v : AVal, ren (fun i => i) v = v
  | .undef | .raw _ | .int _ _ | .bool _ | .str _ | .nilSlice | .ptr _ _ | .slice _ _ _ | .view _ _ _ | .map _ | .yield _ | .row _ _ | .rptr _ _ => by simp [ren]
  | .func f a b => by simp [ren, rens_id a, rens_id b]
  | .agg l => by simp [ren, rens_id l]
  | .tuple l => by simp [ren, rens_id l]
theorem rens_id : ∀ l : List AVal, rens (fun i => i) l = l
  | [] => rfl
  | v :: l => by simp [rens, ren_id v, rens_id l]
end
theorem renB_id (g : ABlk) : renB (fun i => i) g = g := by
  cases g with
  | map es => simp [renB, renM, ren_id]
  | loop r =>
    have : renE (fun i => i) r.env = r.env := funext fun t => ren_id _
    simp [renB, this]
  | _ => simp [renB, rens_id]
theorem Emb.id {H : AHeap} (h : n0 ≤ H.n) : Emb n0 (fun i => i) H H :=
  ⟨fun _ _ => rfl, fun _ _ => rfl, fun _ _ h => h, h, fun _ h => h, fun i hi => ⟨hi, .inl (renB_id _).symm⟩, fun _ _ _ _ h _ _ => h⟩
end Go.Vh
