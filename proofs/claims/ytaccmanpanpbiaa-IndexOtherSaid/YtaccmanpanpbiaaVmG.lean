import Derived.Test.YtaccmanpanpbiaaVmA
/- The executor, at regions whose order is open: all orders are carried out and held against the first. -/
set_option linter.unusedVariables false
set_option linter.unusedSimpArgs false
namespace Go.Vh
open Go.Vk
variable {P : Program} {N : Nat} {ρ : Option Nat}

/-! ### Loops let be -/
def maskH (H : AHeap) : AHeap := ⟨H.n, fun i => match H.f i with | .loop _ => .dead | b => b, H.ver⟩
def unmaskH (H G : AHeap) : AHeap := ⟨G.n, fun i => match Nat.blt i H.n with
  | true => (match H.f i with | .loop r => .loop r | _ => G.f i)
  | false => G.f i, G.ver⟩
theorem mask_f {H : AHeap} {i : Nat} : ((maskH H).f i = H.f i ∧ ∀ r, H.f i ≠ .loop r) ∨ ∃ r, H.f i = .loop r ∧ (maskH H).f i = .dead := by
  unfold maskH
  dsimp only
  cases H.f i <;> simp
theorem unmask_f {H G : AHeap} (i : Nat) : (∃ r, i < H.n ∧ H.f i = .loop r ∧ (unmaskH H G).f i = .loop r) ∨ ((unmaskH H G).f i = G.f i ∧ (i < H.n → ∀ r, H.f i ≠ .loop r)) := by
  unfold unmaskH
  dsimp only
  cases hb : Nat.blt i H.n with
  | true =>
    have hi : i < H.n := Nat.le_of_ble_eq_true hb
    dsimp only
    cases hH : H.f i <;> simp [hi]
  | false =>
    refine .inr ⟨rfl, fun hi => ?_⟩
    have : Nat.blt i H.n = true := Nat.ble_eq_true_of_le hi
    rw [hb] at this; cases this
theorem Rel.mask {φ : PMap} {H : AHeap} {w : World} (h : Rel φ H w) : Rel φ (maskH H) w := by
  have hrw : ∀ {i}, ((maskH H).f i).rw → (H.f i).rw := fun {i} hi => by
    rcases mask_f (H := H) (i := i) with ⟨h1, _⟩ | ⟨r, h1, h2⟩
    · rwa [h1] at hi
    · rw [h2] at hi; exact hi.elim
  have hlv : ∀ {i}, ((maskH H).f i).live → (H.f i).live := fun {i} hi => by
    rcases mask_f (H := H) (i := i) with ⟨h1, _⟩ | ⟨r, h1, h2⟩
    · rwa [h1] at hi
    · rw [h2] at hi; exact hi.elim
  refine ⟨h.dom, h.has, fun i b hb => ?_, fun i j b c hb hc hij h1 h2 => h.inj i j b c hb hc hij (hrw h1) (hlv h2), fun i b hb h1 => h.lt i b hb (hrw h1), fun k o hz => ?_⟩
  · rcases mask_f (H := H) (i := i) with ⟨h1, _⟩ | ⟨r, h1, h2⟩
    · rw [h1]; exact h.blk i b hb
    · rw [h2]; trivial
  · obtain ⟨z1, z2, z3⟩ := h.fz k o hz
    exact ⟨z1, fun i b hb h1 => z2 i b hb (hrw h1), z3⟩
theorem Own.mask {φ : PMap} {H : AHeap} {k : Nat} (h : Own φ (maskH H) k) : Own φ H k := by
  obtain ⟨i, b, hb, hrw, hk⟩ := h
  refine ⟨i, b, hb, ?_, hk⟩
  rcases mask_f (H := H) (i := i) with ⟨h1, _⟩ | ⟨r, h1, h2⟩
  · rwa [h1] at hrw
  · rw [h2] at hrw; exact hrw.elim
theorem CW.mask {c : Code} {e : Env} {H : AHeap} {K : Exit → Env → AHeap → Prop}
    (h : CW P N ρ c e (maskH H) fun x e' G => ∃ κ e1 G1, EmbL H.n κ G1 G ∧ (∀ t, e' t = ren κ (e1 t) ∨ e1 t = .undef) ∧ K x e1 (unmaskH H G1)) : CW P N ρ c e H K := by
  intro B φ w a hR hE hM hB
  have hMm : GoodMarks B φ (maskH H) w a.defers := ⟨fun d hd => by
    obtain ⟨r, h1, h2, h3, h4⟩ := hM.1 d hd
    exact ⟨r, h1, h2, fun ho => h3 ho.mask, h4⟩, hM.2⟩
  refine wpIn_mono (h B φ w a hR.mask hE hMm hB) fun x a' w' hx => ?_
  obtain ⟨φ1, e', G, g1, g2, g3, g4, κ, e1, G1, hEm, hen, hK⟩ := hx
  -- told by other numbers
  have k1 : Rel (φ1.via κ) G1 w' := g1.sub hEm.to0
  have k2 : ERel (φ1.via κ) N e1 a'.tmps := ⟨g2.1, fun t => by
    rcases hen t with h1 | h1
    · have := g2.get t
      rw [h1] at this
      exact .inl ((VRel_ren _ _).1 this)
    · exact .inr h1⟩
  have k3 : Ext φ (maskH H) w (φ1.via κ) G1 w' := g3.subL g1 rfl hR.dom hEm
  have k4 : GoodMarks B (φ1.via κ) G1 w' a'.defers := ⟨fun d hd => by
    obtain ⟨r, h1, h2, h3, h4⟩ := g4.1 d hd
    exact ⟨r, h1, h2, fun ho => h3 (ho.sub g1 hEm.to0), h4⟩, g4.2⟩
  clear g1 g2 g3 g4 hen
  generalize φ1.via κ = φ' at k1 k2 k3 k4
  -- the loops are as they were
  have loopB : ∀ i b, φ i = some b → ∀ r, H.f i = .loop r → ¬ Own φ (maskH H) b.blk := by
    rintro i b hb r hr ⟨j, c, hc, hrw, hk⟩
    have hij : i ≠ j := by
      rintro rfl
      rcases mask_f (H := H) (i := i) with ⟨h1, h2⟩ | ⟨r, h1, h2⟩
      · exact h2 r hr
      · rw [h2] at hrw; exact hrw
    have hj : (H.f j).rw := by
      rcases mask_f (H := H) (i := j) with ⟨h1, h2⟩ | ⟨r, h1, h2⟩
      · rwa [h1] at hrw
      · rw [h2] at hrw; exact hrw.elim
    exact hR.inj i j b c hb hc hij (by rw [hr]; trivial) (by cases hf : H.f j <;> rw [hf] at hj <;> first | exact hj.elim | trivial) hk.symm
  have loopK : ∀ i b, φ i = some b → ∀ r, H.f i = .loop r → b.blk < w.heap.size ∧ w'.heap[b.blk]? = w.heap[b.blk]? ∧ ∃ l, w'.heap[b.blk]? = some (.loop l) ∧ LRel φ' r l := by
    intro i b hb r hr
    have hlt := hR.lt i b hb (by rw [hr]; trivial)
    have hk := k3.keep b.blk hlt (loopB i b hb r hr)
    have hbl := hR.blk i b hb
    rw [hr] at hbl
    have hbl' : BRel φ' w' b (.loop r) := hbl.kept k3.le fun _ => hk
    exact ⟨hlt, hk, hbl'⟩
  have hφ : ∀ i b, φ' i = some b → i < H.n → φ i = some b := fun i b hb hi => by
    obtain ⟨c, hc⟩ := hR.has i hi
    have := k3.le.m i c hc
    rw [this] at hb
    cases hb; exact hc
  have apart : ∀ i b, φ' i = some b → ∀ r, i < H.n → H.f i = .loop r → ∀ j c, φ' j = some c → (G1.f j).live → b.blk ≠ c.blk ∨ ∃ r', j < H.n ∧ H.f j = .loop r' := by
    intro i b hb r hi hr j c hc hl
    obtain ⟨h1, h2, l, h3, h4⟩ := loopK i b (hφ i b hb hi) r hr
    have hbl := k1.blk j c hc
    by_cases hjl : ∃ r', j < H.n ∧ H.f j = .loop r'
    · exact .inr hjl
    left
    intro hbc
    by_cases hrw : (G1.f j).rw
    · rcases k3.own c.blk ⟨j, c, hc, hrw, rfl⟩ with ho | ho
      · exact loopB i b (hφ i b hb hi) r hr (hbc ▸ ho)
      · omega
    · cases hf : G1.f j with
      | ro es cs =>
        rw [hf] at hbl hl
        cases cs with
        | nil => exact hl rfl
        | cons v vs =>
          obtain ⟨x, hx, _⟩ := hbl.2 0 v rfl
          simp only [World.cell?, ← hbc, h3] at hx
          cases hx
      | dead => rw [hf] at hl; exact hl
      | _ => rw [hf] at hrw; exact hrw trivial
  refine ⟨φ', e1, unmaskH H G1, ⟨k1.dom, k1.has, fun i b hb => ?_, fun i j b c hb hc hij h1 h2 => ?_, fun i b hb h1 => ?_, fun k o hz => ?_⟩, k2, ⟨k3.le, k3.size, fun k hk hn => k3.keep k hk fun ho => hn ho.mask, fun k hk => ?_, k3.os, k3.tape, k3.output, k3.num, k3.ver, fun i b hb hl hv => ?_, fun k o hz => ?_⟩, ⟨fun d hd => ?_, k4.2⟩, hK⟩
  · rcases unmask_f (H := H) (G := G1) i with ⟨r, h1, h2, h3⟩ | ⟨h1, h2⟩
    · rw [h3]
      exact (loopK i b (hφ i b hb h1) r h2).2.2
    · rw [h1]; exact k1.blk i b hb
  · rcases unmask_f (H := H) (G := G1) i with ⟨r, i1, i2, i3⟩ | ⟨i1, i2⟩
    · rcases unmask_f (H := H) (G := G1) j with ⟨r', j1, j2, j3⟩ | ⟨j1, j2⟩
      · exact hR.inj i j b c (hφ i b hb i1) (hφ j c hc j1) hij (by rw [i2]; trivial) (by rw [j2]; trivial)
      · rw [j1] at h2
        rcases apart i b hb r i1 i2 j c hc h2 with h | ⟨r', h3, h4⟩
        · exact h
        · exact absurd h4 (j2 h3 r')
    · rcases unmask_f (H := H) (G := G1) j with ⟨r', j1, j2, j3⟩ | ⟨j1, j2⟩
      · rw [i1] at h1
        have hli : (G1.f i).live := by cases hf : G1.f i <;> rw [hf] at h1 <;> first | exact h1.elim | trivial
        rcases apart j c hc r' j1 j2 i b hb hli with h | ⟨r, h3, h4⟩
        · exact h.symm
        · exact absurd h4 (i2 h3 r)
      · rw [i1] at h1
        rw [j1] at h2
        exact k1.inj i j b c hb hc hij h1 h2
  · rcases unmask_f (H := H) (G := G1) i with ⟨r, i1, i2, i3⟩ | ⟨i1, i2⟩
    · exact Nat.lt_of_lt_of_le (loopK i b (hφ i b hb i1) r i2).1 k3.size
    · rw [i1] at h1; exact k1.lt i b hb h1
  · obtain ⟨z1, z2, z3⟩ := k1.fz k o hz
    refine ⟨z1, fun i b hb h1 => ?_, z3⟩
    rcases unmask_f (H := H) (G := G1) i with ⟨r, i1, i2, i3⟩ | ⟨i1, i2⟩
    · rintro rfl
      obtain ⟨_, _, l, h3, _⟩ := loopK i b (hφ i b hb i1) r i2
      obtain ⟨arr, el, fr, ho⟩ := z3
      rw [h3, ho] at z1
      cases z1
    · rw [i1] at h1; exact z2 i b hb h1
  · obtain ⟨i, b, hb, hrw, rfl⟩ := hk
    rcases unmask_f (H := H) (G := G1) i with ⟨r, i1, i2, i3⟩ | ⟨i1, i2⟩
    · exact .inl ⟨i, b, hφ i b hb i1, by rw [i2]; trivial, rfl⟩
    · rw [i1] at hrw
      rcases k3.own b.blk ⟨i, b, hb, hrw, rfl⟩ with h | h
      · exact .inl h.mask
      · exact .inr h
  · have hi := hR.lt_n hb
    rcases unmask_f (H := H) (G := G1) i with ⟨r, i1, i2, i3⟩ | ⟨i1, i2⟩
    · exact ⟨by rw [i3]; trivial, (loopK i b hb r i2).2.1⟩
    · rw [i1]
      refine k3.same i b hb ?_ hv
      rcases mask_f (H := H) (i := i) with ⟨m1, _⟩ | ⟨r, m1, m2⟩
      · rwa [m1]
      · exact absurd m1 (i2 hi r)
  · rcases k3.zown k o hz with h | h | h
    · exact .inl h
    · exact .inr (.inl h.mask)
    · exact .inr (.inr h)
  · obtain ⟨r, h1, h2, h3, h4⟩ := k4.1 d hd
    refine ⟨r, h1, h2, ?_, h4⟩
    rintro ⟨i, b, hb, hrw, rfl⟩
    rcases unmask_f (H := H) (G := G1) i with ⟨r', i1, i2, i3⟩ | ⟨i1, i2⟩
    · obtain ⟨_, _, l, h5, _⟩ := loopK i b (hφ i b hb i1) r' i2
      rw [h5] at h2; cases h2
    · rw [i1] at hrw
      exact h3 ⟨i, b, hb, hrw, rfl⟩

/-! ### One order held against another -/
theorem natBeq {a b : Nat} : (Nat.beq a b = true) = (a = b) := propext ⟨Nat.eq_of_beq_eq_true, fun h => by rw [h]; exact Nat.beq_refl b⟩
def kap (n0 : Nat) (ks : List Nat) (m : Nat) (i : Nat) : Nat := match Nat.blt i n0 with
  | true => i
  | false => (ks[i - n0]?).getD (m + i)
theorem kap_lo {n0 : Nat} {ks : List Nat} {m i : Nat} (h : i < n0) : kap n0 ks m i = i := by
  unfold kap
  rw [show Nat.blt i n0 = true from Nat.ble_eq_true_of_le h]
theorem kap_hi {n0 : Nat} {ks : List Nat} {m i : Nat} (h : n0 ≤ i) : kap n0 ks m i = (ks[i - n0]?).getD (m + i) := by
  unfold kap
  cases hb : Nat.blt i n0 with
  | true => have : i < n0 := Nat.le_of_ble_eq_true hb; omega
  | false => rfl
def sameW : Nat → Value → Value → Bool
  | _, .nilIface, .nilIface => true
  | _, .nilFunc, .nilFunc => true
  | _, .pointer none, .pointer none => true
  | _, .map none, .map none => true
  | _, .int k n, .int k' n' => decide (k = k') && decide (n = n')
  | _, .bool b, .bool b' => decide (b = b')
  | n + 1, .iface t v, .iface t' v' => Nat.beq t t' && sameW n v v'
  | _, _, _ => false
theorem sameW_eq : ∀ (n : Nat) (v v' : Value), sameW n v v' = true → v' = v := by
  intro n
  induction n with
  | zero =>
    intro v v' h
    unfold sameW at h
    split at h <;> simp_all
  | succ n ih =>
    intro v v' h
    unfold sameW at h
    split at h <;> simp_all
    rename_i h1
    exact ih _ _ (by first | exact h1 | exact h1.2 | exact h.2 | exact h)
mutual
def sameV (κ : Nat → Nat) : AVal → AVal → Bool
  | .undef, .undef => true
  | .raw v, .raw v' => sameW 3 v v'
  | .int k n, .int k' n' => decide (k = k') && decide (n = n')
  | .bool b, .bool b' => decide (b = b')
  | .str s, .str s' => decide (s = s')
  | .ptr i o, .ptr j p => Nat.beq (κ i) j && Nat.beq o p
  | .slice i o l, .slice j p q => Nat.beq (κ i) j && (Nat.beq o p && Nat.beq l q)
  | .view i o l, .view j p q => Nat.beq (κ i) j && (Nat.beq o p && Nat.beq l q)
  | .nilSlice, .nilSlice => true
  | .map i, .map j => Nat.beq (κ i) j
  | .func f a b, .func g c d => Nat.beq f g && (sameVs κ a c && sameVs κ b d)
  | .yield i, .yield j => Nat.beq (κ i) j
  | .agg l, .agg l' => sameVs κ l l'
  | .tuple l, .tuple l' => sameVs κ l l'
  | .row n l, .row n' l' => Nat.beq n n' && sameVs (fun i => i) l l'
  | .rptr l n, .rptr l' n' => Nat.beq n n' && sameVs (fun i => i) l l'
  | _, _ => false
def sameVs (κ : Nat → Nat) : List AVal → List AVal → Bool
  | [], [] => true
  | v :: l, v' :: l' => sameV κ v v' && sameVs κ l l'
  | _, _ => false
end
mutual
theorem sameV_eq {κ : Nat → Nat} : ∀ (v v' : AVal), sameV κ v v' = true → v' = ren κ v
  | .undef, v', h => by cases v' <;> simp_all [sameV, ren]
  | .raw v, v', h => by
    cases v' <;> simp only [sameV, Bool.false_eq_true] at h
    simp only [ren]; rw [sameW_eq _ _ _ h]
  | .int k n, v', h => by cases v' <;> simp_all [sameV, ren]
  | .bool b, v', h => by cases v' <;> simp_all [sameV, ren]
  | .str s, v', h => by cases v' <;> simp_all [sameV, ren]
  | .ptr i o, v', h => by cases v' <;> simp_all [sameV, ren]
  | .slice i o l, v', h => by cases v' <;> simp_all [sameV, ren]
  | .view i o l, v', h => by cases v' <;> simp_all [sameV, ren]
  | .nilSlice, v', h => by cases v' <;> simp_all [sameV, ren]
  | .map i, v', h => by cases v' <;> simp_all [sameV, ren]
  | .yield i, v', h => by cases v' <;> simp_all [sameV, ren]
  | .row n cs, v', h => by
    cases v' <;> simp only [sameV, Bool.false_eq_true, Bool.and_eq_true, natBeq] at h
    obtain ⟨rfl, h1⟩ := h
    simp only [ren]
    rw [sameVs_eq _ _ h1, rens_id]
  | .rptr cs o, v', h => by
    cases v' <;> simp only [sameV, Bool.false_eq_true, Bool.and_eq_true, natBeq] at h
    obtain ⟨rfl, h1⟩ := h
    simp only [ren]
    rw [sameVs_eq _ _ h1, rens_id]
  | .func f a b, v', h => by
    cases v' <;> simp only [sameV, Bool.false_eq_true, Bool.and_eq_true, natBeq] at h
    obtain ⟨rfl, h1, h2⟩ := h
    simp only [ren]
    rw [sameVs_eq _ _ h1, sameVs_eq _ _ h2]
  | .agg l, v', h => by
    cases v' <;> simp only [sameV, Bool.false_eq_true] at h
    simp only [ren]; rw [sameVs_eq _ _ h]
  | .tuple l, v', h => by
    cases v' <;> simp only [sameV, Bool.false_eq_true] at h
    simp only [ren]; rw [sameVs_eq _ _ h]
theorem sameVs_eq {κ : Nat → Nat} : ∀ (l l' : List AVal), sameVs κ l l' = true → l' = rens κ l
  | [], l', h => by cases l' <;> simp_all [sameVs, rens]
  | v :: l, l', h => by
    cases l' <;> simp only [sameVs, Bool.false_eq_true, Bool.and_eq_true] at h
    simp only [rens]
    rw [sameV_eq _ _ h.1, sameVs_eq _ _ h.2]
end
def sameM (κ : Nat → Nat) : List (AVal × AVal) → List (AVal × AVal) → Bool
  | [], [] => true
  | (k, v) :: l, (k', v') :: l' => sameV κ k k' && (sameV κ v v' && sameM κ l l')
  | _, _ => false
theorem sameM_eq {κ : Nat → Nat} : ∀ (l l' : List (AVal × AVal)), sameM κ l l' = true → l' = renM κ l
  | [], l', h => by cases l' <;> simp_all [sameM, renM]
  | (k, v) :: l, l', h => by
    rcases l' with _ | ⟨⟨k', v'⟩, l'⟩ <;> simp only [sameM, Bool.false_eq_true, Bool.and_eq_true] at h
    have := sameM_eq _ _ h.2.2
    rw [sameV_eq _ _ h.1, sameV_eq _ _ h.2.1, this]
    rfl
def sameB (κ : Nat → Nat) : ABlk → ABlk → Bool
  | .dead, .dead => true
  | .cells es cs, .cells es' cs' => Nat.beq es es' && sameVs κ cs cs'
  | .ro es cs, .ro es' cs' => Nat.beq es es' && sameVs κ cs cs'
  | .map l, .map l' => sameM κ l l'
  | _, _ => false
theorem sameB_eq {κ : Nat → Nat} (b b' : ABlk) (h : sameB κ b b' = true) : b' = renB κ b := by
  cases b <;> cases b' <;> simp only [sameB, Bool.false_eq_true, Bool.and_eq_true, natBeq] at h
  · rfl
  · obtain ⟨rfl, h⟩ := h; rw [sameVs_eq _ _ h]; rfl
  · obtain ⟨rfl, h⟩ := h; rw [sameVs_eq _ _ h]; rfl
  · rw [sameM_eq _ _ h]; rfl
def allB (p : Nat → Bool) : Nat → Nat → Bool
  | _, 0 => true
  | i, n + 1 => p i && allB p (i + 1) n
theorem allB_at {p : Nat → Bool} : ∀ (n i : Nat), allB p i n = true → ∀ j, i ≤ j → j < i + n → p j = true
  | 0, i, h, j, h1, h2 => by omega
  | n + 1, i, h, j, h1, h2 => by
    simp only [allB, Bool.and_eq_true] at h
    rcases Nat.eq_or_lt_of_le h1 with rfl | h3
    · exact h.1
    · exact allB_at n (i + 1) h.2 j h3 (by omega)
def allL (p : Nat → Bool) : List Nat → Bool
  | [] => true
  | k :: l => p k && allL p l
theorem allL_at {p : Nat → Bool} : ∀ (l : List Nat), allL p l = true → ∀ k ∈ l, p k = true
  | [], _, k, hk => by cases hk
  | k :: l, h, k', hk => by
    simp only [allL, Bool.and_eq_true] at h
    rcases List.mem_cons.1 hk with rfl | hk
    · exact h.1
    · exact allL_at l h.2 k' hk
def nodupB : List Nat → Bool
  | [] => true
  | k :: l => allL (fun j => !(Nat.beq k j)) l && nodupB l
theorem nodupB_nodup : ∀ (l : List Nat), nodupB l = true → l.Nodup
  | [], _ => List.nodup_nil
  | k :: l, h => by
    simp only [nodupB, Bool.and_eq_true] at h
    refine List.nodup_cons.2 ⟨fun hk => ?_, nodupB_nodup l h.2⟩
    have := allL_at _ h.1 k hk
    simp at this
def undefB : AVal → Bool
  | .undef => true
  | _ => false
theorem undefB_eq {v : AVal} (h : undefB v = true) : v = .undef := by cases v <;> simp_all [undefB]
/-- The end (e2, H) of one order tells the same as the end (e1, G) of the first; the numbers before n0 stay. -/
def alikeB (N n0 : Nat) (ks : List Nat) (e1 : Env) (G : AHeap) (e2 : Env) (H : AHeap) : Bool :=
  Nat.ble n0 G.n && (Nat.beq (n0 + ks.length) G.n && (Nat.ble n0 H.n && (nodupB ks && (allL (fun k => Nat.ble n0 k && Nat.blt k H.n) ks &&
  (allB (fun i => Nat.beq (G.ver i) (H.ver i)) 0 n0 && (allB (fun i => sameB (kap n0 ks H.n) (G.f i) (H.f (kap n0 ks H.n i))) 0 G.n && allB (fun t => undefB (e1 t) || sameV (kap n0 ks H.n) (e1 t) (e2 t)) 0 N))))))
def truncE (N : Nat) (e : Env) : Env := fun t => match Nat.blt t N with
  | true => e t
  | false => .undef
theorem alikeB_emb {N n0 : Nat} {ks : List Nat} {e1 e2 : Env} {G H : AHeap} (h : alikeB N n0 ks e1 G e2 H = true) : EmbL n0 (kap n0 ks H.n) G H ∧ ∀ t, e2 t = ren (kap n0 ks H.n) (truncE N e1 t) ∨ truncE N e1 t = .undef := by
  simp only [alikeB, Bool.and_eq_true, natBeq] at h
  obtain ⟨h1, h2, h3, h4, h5, h6, h7, h8⟩ := h
  have h1 := Nat.le_of_ble_eq_true h1
  have h3 := Nat.le_of_ble_eq_true h3
  have hks : ∀ k ∈ ks, n0 ≤ k ∧ k < H.n := fun k hk => by
    have := allL_at _ h5 k hk
    simp only [Bool.and_eq_true] at this
    exact ⟨Nat.le_of_ble_eq_true this.1, Nat.le_of_ble_eq_true this.2⟩
  have hget : ∀ i, n0 ≤ i → i < G.n → ∃ k, ks[i - n0]? = some k ∧ kap n0 ks H.n i = k ∧ n0 ≤ k ∧ k < H.n := fun i hi hi2 => by
    have hl : i - n0 < ks.length := by omega
    refine ⟨ks[i - n0], List.getElem?_eq_getElem hl, ?_, hks _ (List.getElem_mem hl)⟩
    rw [kap_hi hi, List.getElem?_eq_getElem hl]; rfl
  have hblk : ∀ i, i < G.n → H.f (kap n0 ks H.n i) = renB (kap n0 ks H.n) (G.f i) := fun i hi => sameB_eq _ _ (allB_at _ _ h7 i (Nat.zero_le _) (by omega))
  refine ⟨⟨fun i hi => kap_lo hi, fun i hi => .inl ⟨?_, fun hl => ?_⟩, h1, fun i hi => ?_, fun i hi => ⟨?_, .inl (hblk i hi)⟩, fun i j hi hj hij _ _ => ?_⟩, fun t => ?_⟩
  · exact Nat.eq_of_beq_eq_true (allB_at _ _ h6 i (Nat.zero_le _) (by omega))
  · have := hblk i (by omega)
    rw [kap_lo hi] at this
    rw [this] at hl
    exact renB_live.1 hl
  · rw [kap_hi (by omega), List.getElem?_eq_none (by omega)]
    show H.n ≤ H.n + i
    omega
  · rcases Nat.lt_or_ge i n0 with h | h
    · rw [kap_lo h]; omega
    · obtain ⟨k, _, hk, _, hk2⟩ := hget i h hi
      rw [hk]; exact hk2
  · rcases Nat.lt_or_ge i n0 with hi0 | hi0 <;> rcases Nat.lt_or_ge j n0 with hj0 | hj0
    · rw [kap_lo hi0, kap_lo hj0]; exact hij
    · obtain ⟨k, _, hk, hk1, _⟩ := hget j hj0 hj
      rw [kap_lo hi0, hk]; omega
    · obtain ⟨k, _, hk, hk1, _⟩ := hget i hi0 hi
      rw [kap_lo hj0, hk]; omega
    · obtain ⟨k, hk0, hk, hk1, _⟩ := hget i hi0 hi
      obtain ⟨k', hk0', hk', hk1', _⟩ := hget j hj0 hj
      rw [hk, hk']
      rintro rfl
      have hnd := nodupB_nodup ks h4
      have hl : i - n0 < ks.length := (List.getElem?_eq_some_iff.1 hk0).1
      have := (List.getElem?_inj hl hnd).1 (hk0.trans hk0'.symm)
      omega
  · unfold truncE
    cases hb : Nat.blt t N with
    | false => exact .inr rfl
    | true =>
      have := allB_at _ _ h8 t (Nat.zero_le _) (by have : t < N := Nat.le_of_ble_eq_true hb; omega)
      simp only [Bool.or_eq_true] at this
      rcases this with h | h
      · exact .inr (undefB_eq h)
      · exact .inl (sameV_eq _ _ h)

/-! ### All orders -/
def takeX (P : Program) (ops : Array Oper) (o : Oper) (e : Env) (H : AHeap) : Option (AVal × List Nat) := match takeP P ops o e H with
  | some v => some (v, [])
  | none => match loadNum o e with
    | some j => match takeL P ops [j] o e H with
      | some v => some (v, [j])
      | none => none
    | none => match takeL P ops [] o e H with
      | some v => some (v, [])
      | none => none
theorem takeX_sound {ops : Array Oper} {held : List Nat} {o : Oper} {e : Env} {H : AHeap} {v : AVal} {l : List Nat} (h : takeX P ops o e H = some (v, l)) (hl : ∀ j ∈ l, j ∈ held) : takeA P ops held o e H = some v := by
  unfold takeX at h
  unfold takeA
  split at h
  · rename_i v' hv; cases h; rw [hv]
  · rename_i hv
    rw [hv]
    split at h
    · rename_i j hj
      split at h
      · rename_i v' hl'
        cases h
        exact takeL_held hj (hl j (List.mem_singleton.2 rfl)) hl'
      · cases h
    · rename_i hj
      split at h
      · rename_i v' hl'
        cases h
        dsimp only
        unfold takeL at hl' ⊢
        split at hl'
        · rename_i t x hg hop
          split at hl'
          · rename_i i off ti hx ht
            simp only [loadNum, hop, hx] at hj
            cases hj
          · exact hl'
          · cases hl'
        · cases hl'
      · cases h
abbrev Trace := List (Nat × Nat × Nat)
def xtree (P : Program) (call : Caller) (N : Nat) (ops : Array Oper) : PTree → Trace → Env → AHeap → Option (List (Env × AHeap × Trace) × List Nat × List (AHeap × AHeap))
  | .done, tr, e, H => some ([(e, H, tr)], [], [])
  | .take i t, tr, e, H => match ops[i]? with
    | some o => match takeX P ops o e H with
      | some (v, l) => forceV v fun v => match xtree P call N ops t tr (put? e o.dst v) H with
        | some (es, lds, ps) => some (es, l ++ lds, ps)
        | none => none
      | none => none
    | none => none
  | .one i chk t, tr, e, H => match ops[i]? with
    | some o => match xop P call ops o e H with
      | some (e1, H1) => match xtree P call N ops t ((i, H.n, H1.n) :: tr) e1 H1 with
        | some (es, lds, ps) => match chk with
          | true => some (es, lds, (H, H1) :: ps)
          | false => some (es, lds, ps)
        | none => none
      | none => none
    | none => none
  | .two a b, tr, e, H => match xtree P call N ops a tr e H with
    | some (es, lds, ps) => match xtree P call N ops b tr e H with
      | some (es', lds', ps') => some (es ++ es', lds ++ lds', ps ++ ps')
      | none => none
    | none => none
theorem xtree_sound {call : Caller} (hc : Caller.ok P call) {ops : Array Oper} {held : List Nat} {K : Env → AHeap → Prop} : ∀ (t : PTree) (tr : Trace) (e : Env) (H : AHeap) (es : List (Env × AHeap × Trace)) (lds : List Nat) (ps : List (AHeap × AHeap)),
    xtree P call N ops t tr e H = some (es, lds, ps) → (∀ j ∈ lds, j ∈ held) → (∀ p ∈ ps, ∀ j ∈ held, p.2.ver j = p.1.ver j) → (∀ x ∈ es, K x.1 x.2.1) → wtree P ops held t e H K
  | .done, tr, e, H, es, lds, ps, h, _, _, hk => by
    cases h
    exact hk _ (List.mem_singleton.2 rfl)
  | .take i t, tr, e, H, es, lds, ps, h, h1, h2, hk => by
    simp only [xtree] at h
    simp only [wtree]
    split at h
    · rename_i o ho
      split at h
      · rename_i v l hv
        rw [forceV_eq] at h
        split at h
        · rename_i es2 lds2 ps2 hx
          cases h
          exact ⟨o, v, ho, takeX_sound hv fun j hj => h1 j (List.mem_append_left _ hj), xtree_sound hc t tr _ H _ lds2 _ hx (fun j hj => h1 j (List.mem_append_right _ hj)) h2 hk⟩
        · cases h
      · cases h
    · cases h
  | .one i chk t, tr, e, H, es, lds, ps, h, h1, h2, hk => by
    simp only [xtree] at h
    simp only [wtree]
    split at h
    · rename_i o ho
      split at h
      · rename_i e1 H1 hx
        split at h
        · rename_i es2 lds2 ps2 hx2
          refine ⟨o, ho, ?_⟩
          split at h
          · cases h
            exact xopP_sound hc hx ⟨fun _ j hj => h2 (H, H1) (List.mem_cons_self ..) j hj, xtree_sound hc t _ e1 H1 _ _ _ hx2 h1 (fun p hp => h2 p (List.mem_cons_of_mem _ hp)) hk⟩
          · rename_i hck
            cases h
            exact xopP_sound hc hx ⟨fun hs => (by cases hs), xtree_sound hc t _ e1 H1 _ _ _ hx2 h1 h2 hk⟩
        · cases h
      · cases h
    · cases h
  | .two a b, tr, e, H, es, lds, ps, h, h1, h2, hk => by
    simp only [xtree] at h
    simp only [wtree]
    split at h
    · rename_i es1 lds1 ps1 hx1
      split at h
      · rename_i es2 lds2 ps2 hx2
        cases h
        exact ⟨xtree_sound hc a tr e H _ _ _ hx1 (fun j hj => h1 j (List.mem_append_left _ hj)) (fun p hp => h2 p (List.mem_append_left _ hp)) (fun x hx => hk x (List.mem_append_left _ hx)),
          xtree_sound hc b tr e H _ _ _ hx2 (fun j hj => h1 j (List.mem_append_right _ hj)) (fun p hp => h2 p (List.mem_append_right _ hp)) (fun x hx => hk x (List.mem_append_right _ hx))⟩
      · cases h
    · cases h
/-- Where a number that the first order made lies in another. -/
def findT (tr : Trace) (i : Nat) : Nat := match tr with
  | [] => 0
  | (j, a, _) :: l => match Nat.beq j i with
    | true => a
    | false => findT l i
def numT (tr tr' : Trace) (k : Nat) : Nat := match tr with
  | [] => 0
  | (i, a, b) :: l => match Nat.ble a k && Nat.blt k b with
    | true => findT tr' i + (k - a)
    | false => numT l tr' k
def ksT (tr tr' : Trace) : Nat → Nat → List Nat
  | _, 0 => []
  | k, n + 1 => forceN (numT tr tr' k) fun q => q :: ksT tr tr' (k + 1) n
def xdrawT (P : Program) (call : Caller) (N : Nat) (ops : Array Oper) (e : Env) (H0 : AHeap) : Option (Env × AHeap) :=
  match okOps N ops, treeOf N ops with
  | true, some t => match xtree P call N ops t [] (memo N e) (maskH H0).memo with
    | some (x :: xs, lds, ps) => match lds.all (fun i => decide (i < H0.n) && liveB ((maskH H0).f i)) && (ps.all (fun p => sameVer lds p.1 p.2) && (x :: xs).all (fun y => alikeB N H0.n (ksT x.2.2 y.2.2 H0.n (x.2.1.n - H0.n)) x.1 x.2.1 y.1 y.2.1)) with
      | true => some (truncE N x.1, unmaskH H0 x.2.1)
      | false => none
    | _ => none
  | _, _ => none
theorem xdrawT_sound {call : Caller} (hc : Caller.ok P call) (hm : P.follows .mixedOrders = true) {id : Nat} {ops : Array Oper} {e e' : Env} {H H' : AHeap} (h : xdrawT P call N ops e H = some (e', H')) : CW P N ρ (.region id ops true) e H (Same .normal e' H') := by
  unfold xdrawT at h
  split at h
  · rename_i t hok ht
    rw [memo_eq, AHeap.memo_eq] at h
    split at h
    · rename_i x xs lds ps hx
      split at h
      · rename_i hck
        cases h
        simp only [Bool.and_eq_true, List.all_eq_true, decide_eq_true_eq, sameVer, beq_iff_eq] at hck
        obtain ⟨c1, c2, c3⟩ := hck
        refine CW.mask (CW.draw lds (offsOf ops) hm hok (fun i hi => ⟨(c1 i hi).1, liveB_live (c1 i hi).2⟩) (AnyW.tree _ _ e (maskH H) t ht (xtree_sound hc t [] e (maskH H) _ lds ps hx (fun j hj => hj) c2 fun y hy => ?_)))
        obtain ⟨a1, a2⟩ := alikeB_emb (c3 y hy)
        exact ⟨_, _, x.2.1, a1, a2, rfl, rfl, rfl⟩
      · cases h
    · cases h
  · cases h
def xplan3 (P : Program) (call : Caller) (ops : Array Oper) : List PStep → Env → AHeap → Option (Env × AHeap × List Nat × List (AHeap × AHeap))
  | [], e, H => some (e, H, [], [])
  | s :: l, e, H => match s.take with
    | true => match takeX P ops s.o e H with
      | some (v, k) => forceV v fun v => match xplan3 P call ops l (put? e s.o.dst v) H with
        | some (e', H', lds, ps) => some (e', H', k ++ lds, ps)
        | none => none
      | none => none
    | false => match xop P call ops s.o e H with
      | some (e1, H1) => match xplan3 P call ops l e1 H1 with
        | some (e', H', lds, ps) => match s.chk with
          | true => some (e', H', lds, (H, H1) :: ps)
          | false => some (e', H', lds, ps)
        | none => none
      | none => none
theorem xplan3_sound {call : Caller} (hc : Caller.ok P call) {ops : Array Oper} {held : List Nat} {K : Env → AHeap → Prop} : ∀ (l : List PStep) (e e' : Env) (H H' : AHeap) (lds : List Nat) (ps : List (AHeap × AHeap)), xplan3 P call ops l e H = some (e', H', lds, ps) →
    (∀ j ∈ lds, j ∈ held) → (∀ p ∈ ps, ∀ j ∈ held, p.2.ver j = p.1.ver j) → K e' H' → wplan P ops held l e H K
  | [], e, e', H, H', lds, ps, h, _, _, hk => by cases h; exact hk
  | s :: l, e, e', H, H', lds, ps, h, h1, h2, hk => by
    simp only [xplan3] at h
    simp only [wplan]
    split at h
    · rename_i ht
      rw [if_pos ht]
      split at h
      · rename_i v k hv
        rw [forceV_eq] at h
        split at h
        · rename_i e2 H2 lds2 ps2 hx
          cases h
          rw [takeX_sound hv fun j hj => h1 j (List.mem_append_left _ hj)]
          exact xplan3_sound hc l _ _ H _ lds2 _ hx (fun j hj => h1 j (List.mem_append_right _ hj)) h2 hk
        · cases h
      · cases h
    · rename_i ht
      rw [if_neg (by rw [ht]; simp)]
      split at h
      · rename_i e1 H1 hx
        split at h
        · rename_i e2 H2 lds2 ps2 hx2
          split at h
          · cases h
            exact xopP_sound hc hx ⟨fun _ j hj => h2 (H, H1) (List.mem_cons_self ..) j hj, xplan3_sound hc l e1 _ H1 _ _ _ hx2 h1 (fun p hp => h2 p (List.mem_cons_of_mem _ hp)) hk⟩
          · rename_i hck
            cases h
            exact xopP_sound hc hx ⟨fun hs => (by rw [hck] at hs; cases hs), xplan3_sound hc l e1 _ H1 _ _ _ hx2 h1 h2 hk⟩
        · cases h
      · cases h
def xdrawP3 (P : Program) (call : Caller) (N : Nat) (ops : Array Oper) (pl : List PStep) (e : Env) (H : AHeap) : Option (Env × AHeap) :=
  match okOps N ops with
  | true => match xplan3 P call ops pl e H with
    | some (e', H', lds, ps) => match lds.all (fun i => decide (i < H.n) && liveB (H.f i)) && ps.all (fun p => sameVer lds p.1 p.2) with
      | true => some (e', H')
      | false => none
    | none => none
  | false => none
def xdraw3 (P : Program) (call : Caller) (N : Nat) (ops : Array Oper) (e : Env) (H : AHeap) : Option (Env × AHeap) :=
  match planOf N ops with
  | some pl => xdrawP3 P call N ops pl e H
  | none => xdrawT P call N ops e H
theorem xdraw3_sound {call : Caller} (hc : Caller.ok P call) (hm : P.follows .mixedOrders = true) {id : Nat} {ops : Array Oper} {e e' : Env} {H H' : AHeap} (h : xdraw3 P call N ops e H = some (e', H')) : CW P N ρ (.region id ops true) e H (Same .normal e' H') := by
  unfold xdraw3 at h
  split at h
  · rename_i pl hp
    unfold xdrawP3 at h
    split at h
    · rename_i hok
      split at h
      · rename_i e2 H2 lds ps hx
        split at h
        · rename_i hck
          cases h
          simp only [Bool.and_eq_true, List.all_eq_true, decide_eq_true_eq, sameVer, beq_iff_eq] at hck
          exact CW.plan lds hm hok (fun i hi => ⟨(hck.1 i hi).1, liveB_live (hck.1 i hi).2⟩) hp (xplan3_sound hc pl _ _ _ _ lds ps hx (fun j hj => hj) hck.2 ⟨rfl, rfl, rfl⟩)
        · cases h
      · cases h
    · cases h
  · exact xdrawT_sound hc hm h

/-! ### Rows out of own blocks, as a function -/
def partC (es off n : Nat) (cs : List AVal) : Option (List AVal) := match Nat.ble (off + n * es) cs.length with
  | true => match clos ((cs.drop off).take (n * es)) with
    | true => some ((cs.drop off).take (n * es))
    | false => none
  | false => none
def orL (ks ls : List Nat) : List Nat := match ks with
  | [] => ls
  | k :: ks => match (orL ks ls).contains k with
    | true => orL ks ls
    | false => k :: orL ks ls
theorem orL_l {k : Nat} : ∀ {ks ls : List Nat}, k ∈ ks → k ∈ orL ks ls
  | j :: ks, ls, h => by
    unfold orL
    rcases List.mem_cons.1 h with rfl | h
    · split
      · rename_i hc; simpa using hc
      · exact List.mem_cons_self ..
    · have := orL_l (ls := ls) h
      split
      · exact this
      · exact List.mem_cons_of_mem _ this
theorem orL_r {k : Nat} : ∀ {ks ls : List Nat}, k ∈ ls → k ∈ orL ks ls
  | [], ls, h => h
  | j :: ks, ls, h => by
    unfold orL
    have := orL_r (ks := ks) h
    split
    · exact this
    · exact List.mem_cons_of_mem _ this
mutual
def frzV (H : AHeap) : AVal → Option (AVal × List Nat)
  | .slice i off n => match Nat.beq n 0 with
    | true => some (.row 0 [], [])
    | false => match H.f i with
      | .cells es cs => match partC es off n cs with
        | some l => some (.row n l, [i])
        | none => none
      | _ => none
  | .nilSlice => some (.row 0 [], [])
  | .agg l => match frzVs H l with
    | some (m, ks) => some (.agg m, ks)
    | none => none
  | .tuple l => match frzVs H l with
    | some (m, ks) => some (.tuple m, ks)
    | none => none
  | .int k n => some (.int k n, [])
  | .bool b => some (.bool b, [])
  | .str s => some (.str s, [])
  | .row n l => some (.row n l, [])
  | _ => none
def frzVs (H : AHeap) : List AVal → Option (List AVal × List Nat)
  | [] => some ([], [])
  | v :: l => match frzV H v with
    | some (u, ks) => match frzVs H l with
      | some (m, ls) => some (u :: m, orL ks ls)
      | none => none
    | none => none
end
mutual
theorem frzV_frz {H : AHeap} : ∀ (v u : AVal) (ks ls : List Nat), frzV H v = some (u, ks) → (∀ k ∈ ks, k ∈ ls) → Frz H ls v u ∧ clo u = true
  | .slice i off n, u, ks, ls, h, hl => by
    simp only [frzV] at h
    split at h
    · rename_i hn
      rw [natBeq] at hn
      subst hn; cases h
      exact ⟨.slice0, rfl⟩
    · split at h
      · rename_i es cs hf
        split at h
        · rename_i l hp
          cases h
          unfold partC at hp
          split at hp
          · rename_i hle
            split at hp
            · rename_i hc
              cases hp
              exact ⟨.slice (by simpa using hl i (List.mem_singleton.2 rfl)) hf (Nat.le_of_ble_eq_true hle) (.same hc), rfl⟩
            · cases hp
          · cases hp
        · cases h
      · cases h
  | .nilSlice, u, ks, ls, h, hl => by cases h; exact ⟨.nil, rfl⟩
  | .agg l, u, ks, ls, h, hl => by
    simp only [frzV] at h
    split at h
    · rename_i m ks' hm
      cases h
      obtain ⟨h1, h2⟩ := frzVs_frz l m ks ls hm hl
      exact ⟨.agg h1, h2⟩
    · cases h
  | .tuple l, u, ks, ls, h, hl => by
    simp only [frzV] at h
    split at h
    · rename_i m ks' hm
      cases h
      obtain ⟨h1, h2⟩ := frzVs_frz l m ks ls hm hl
      exact ⟨.tuple h1, h2⟩
    · cases h
  | .int k n, u, ks, ls, h, hl => by cases h; exact ⟨.same rfl, rfl⟩
  | .bool b, u, ks, ls, h, hl => by cases h; exact ⟨.same rfl, rfl⟩
  | .str s, u, ks, ls, h, hl => by cases h; exact ⟨.same rfl, rfl⟩
  | .row n l, u, ks, ls, h, hl => by cases h; exact ⟨.same rfl, rfl⟩
  | .undef, u, ks, ls, h, hl | .raw _, u, ks, ls, h, hl | .ptr _ _, u, ks, ls, h, hl | .view _ _ _, u, ks, ls, h, hl | .map _, u, ks, ls, h, hl | .func _ _ _, u, ks, ls, h, hl | .yield _, u, ks, ls, h, hl | .rptr _ _, u, ks, ls, h, hl => by simp [frzV] at h
theorem frzVs_frz {H : AHeap} : ∀ (l m : List AVal) (ks ls : List Nat), frzVs H l = some (m, ks) → (∀ k ∈ ks, k ∈ ls) → FrzL H ls l m ∧ clos m = true
  | [], m, ks, ls, h, hl => by cases h; exact ⟨.same rfl, rfl⟩
  | v :: l, m, ks, ls, h, hl => by
    simp only [frzVs] at h
    split at h
    · rename_i u k1 hu
      split at h
      · rename_i m' k2 hm
        cases h
        obtain ⟨h1, h2⟩ := frzV_frz v u k1 ls hu fun k hk => hl k (orL_l hk)
        obtain ⟨h3, h4⟩ := frzVs_frz l m' k2 ls hm fun k hk => hl k (orL_r hk)
        exact ⟨.cons h1 h3, by simp only [clos, h2, h4, Bool.and_self]⟩
      · cases h
    · cases h
end
theorem frzL_A {H : AHeap} {ks : List Nat} : ∀ {l m : List AVal}, FrzL H ks l m → FrzA H ks l m
  | [], m, h => by cases h; exact .nil
  | v :: l, m, h => by
    cases h with
    | same hc =>
      have : ∀ l : List AVal, FrzA H ks l l := fun l => by induction l with | nil => exact .nil | cons v l ih => exact .keep ih
      exact this _
    | cons h1 h2 => exact .frz h1 (frzL_A h2)
/-- What is known of closed calls. -/
abbrev Tab := List (FuncId × List AVal × AVal)
def Known (P : Program) (p : FuncId × List AVal × AVal) : Prop := hasBody P p.1 = true ∧ noRefs p.2.1 = true ∧ ∀ H, CallW P p.1 p.2.1 H fun v H' => H' = H ∧ v = p.2.2
def lookT3 (f : FuncId) (args : List AVal) : Tab → Option AVal
  | [] => none
  | (g, as, v) :: l => match Nat.beq f g with
    | true => match sameVs (fun i => i) args as with
      | true => some v
      | false => lookT3 f args l
    | false => lookT3 f args l
theorem lookT3_mem {f : FuncId} {args : List AVal} {v : AVal} : ∀ {l : Tab}, lookT3 f args l = some v → (f, args, v) ∈ l
  | (g, as, u) :: l, h => by
    simp only [lookT3] at h
    split at h
    · rename_i hf
      split at h
      · rename_i ha
        cases h
        rw [natBeq] at hf
        subst hf
        rw [sameVs_eq _ _ ha, rens_id]
        exact List.mem_cons_self ..
      · exact List.mem_cons_of_mem _ (lookT3_mem h)
    · exact List.mem_cons_of_mem _ (lookT3_mem h)
def lookC (tab : Tab) (f : FuncId) (args : List AVal) (H : AHeap) : Option (AVal × AHeap) := match tab with
  | [] => none
  | t :: tab => match (t :: tab).any fun p => Nat.beq f p.1 with
    | false => none
    | true => match frzVs H args with
      | some (us, ks) => match ksCells H ks with
        | true => match lookT3 f us (t :: tab) with
          | some v => match plain v with
            | true => some (v, H)
            | false => some (v, killL H ks)
          | none => none
        | false => none
      | none => none
theorem lookC_sound {tab : Tab} (ht : ∀ p ∈ tab, Known P p) {f : FuncId} {args : List AVal} {H H' : AHeap} {v : AVal} (h : lookC tab f args H = some (v, H')) : hasBody P f = true ∧ CallW P f args H fun v1 H1 => v1 = v ∧ H1 = H' := by
  unfold lookC at h
  split at h
  · cases h
  · rename_i t tab'
    split at h
    · cases h
    · split at h
      · rename_i us ks hu
        split at h
        · rename_i hk
          split at h
          · rename_i u hl
            obtain ⟨h1, h2, h3⟩ := ht _ (lookT3_mem hl)
            obtain ⟨g1, g2⟩ := frzVs_frz _ _ _ ks hu fun k h => h
            refine ⟨h1, ?_⟩
            split at h
            · rename_i hp
              cases h
              exact (CallW.argsB (K := fun u => u = v) ⟨ks, hk, frzL_A g1⟩ h2 (fun u hu => by rw [hu]; exact hp) h3).mono fun v1 H1 h => ⟨h.2, h.1⟩
            · cases h
              exact CallW.argsF ks hk (frzL_A g1) ((h3 _).mono fun v1 H1 h => ⟨h.2, h.1⟩)
          · cases h
        · cases h
      · cases h

/-! ### Code and calls -/
def xc3 (P : Program) (call : Caller) (N : Nat) (top : Bool) : Nat → Code → Env → AHeap → Option (Exit × Env × AHeap)
  | 0, _, _, _ => none
  | k + 1, c, e, H => match c with
    | .skip => some (.normal, e, H)
    | .label _ => some (.normal, e, H)
    | .seq a b => match xc3 P call N top k a e H with
      | some (x, e', H') => match x with
        | .normal => xc3 P call N top k b e' H'
        | x => some (x, e', H')
      | none => none
    | .cond c a b => match evalA e c with
      | .bool t => match t with
        | true => xc3 P call N top k a e H
        | false => xc3 P call N top k b e H
      | _ => none
    | .block id c => match xc3 P call N top k c e H with
      | some (x, e', H') => match x with
        | .exit i => if i = id then some (.normal, e', H') else some (.exit i, e', H')
        | x => some (x, e', H')
      | none => none
    | .region id ops draw => match draw with
      | true => (xdraw3 P (onlyF call) N ops e H).map fun r => (.normal, r.1, r.2)
      | false => if okOps N ops then (xops P call ops ops.toList e H).map fun r => (.normal, r.1, r.2) else none
    | .exit id => some (.exit id, e, H)
    | .goto id => some (.goto id, e, H)
    | .ret => some (.ret, e, H)
    | .loop c => xloop (fun e H => xc3 P call N top k c e H) N 100000 (memo N e) H.memo
    | .scope c => match xc3 P call N top k c e H with
      | some r => xscope (fun c e H => xc3 P call N top k c (memo N e) H.memo) c 100000 r
      | none => none
    | .rangeFunc g ps a b => match top with
      | true => match evalA e g with
        | .func f as bs => match call (.func f as bs) [.yield H.n] (H.alloc (.loop ⟨memo N e, N, ps.toList, a, b, none, .ready⟩)) with
          | some (_, G) => match G.f H.n with
            | .loop r => match r.state with
              | .busy => none
              | _ => match r.pending with
                | none => some (.normal, e, G.set H.n (.loop { r with state := .exhausted }))
                | some c => xc3 P call N top k c e (G.set H.n (.loop { r with state := .exhausted }))
            | _ => none
          | none => none
        | _ => none
      | false => none
    | .refuse _ => none
theorem xc3_sound {call : Caller} (hc : Caller.ok2 P call) (hm : P.follows .mixedOrders = true) {top : Bool} (htop : top = true → ρ = none) : ∀ (k : Nat) (c : Code) (e : Env) (H : AHeap) (x : Exit) (e' : Env) (H' : AHeap), xc3 P call N top k c e H = some (x, e', H') → ∀ n0, CWF P N ρ n0 c e H (Same x e' H')
  | 0, c, e, H, x, e', H', h, n0 => by cases h
  | k + 1, c, e, H, x, e', H', h, n0 => by
    have ih := fun c e H x e' H' h => xc3_sound hc hm htop k c e H x e' H' h
    unfold xc3 at h
    cases c with
    | skip => cases h; exact CW.within (CW.skip ⟨rfl, rfl, rfl⟩)
    | label _ => cases h; exact CW.within (CW.label ⟨rfl, rfl, rfl⟩)
    | exit _ => cases h; exact CW.within (CW.exit ⟨rfl, rfl, rfl⟩)
    | goto _ => cases h; exact CW.within (CW.goto ⟨rfl, rfl, rfl⟩)
    | ret => cases h; exact CW.within (CW.ret ⟨rfl, rfl, rfl⟩)
    | seq a b =>
      dsimp only at h
      split at h
      · rename_i x1 e1 H1 h1
        refine CWF.seq ((ih a e H x1 e1 H1 h1 n0).mono ?_)
        rintro x2 e2 H2 ⟨rfl, rfl, rfl⟩
        cases x2 with
        | normal => exact ih b _ _ x e' H' h n0
        | _ => cases h; exact ⟨rfl, rfl, rfl⟩
      · cases h
    | cond g a b =>
      dsimp only at h
      split at h
      · rename_i t ht
        refine CWF.cond ht ?_
        cases t with
        | true => exact ih a e H x e' H' h n0
        | false => exact ih b e H x e' H' h n0
      · cases h
    | block id c =>
      dsimp only at h
      split at h
      · rename_i x1 e1 H1 h1
        refine CWF.block ((ih c e H x1 e1 H1 h1 n0).mono ?_)
        rintro x2 e2 H2 ⟨rfl, rfl, rfl⟩
        cases x2 with
        | exit i =>
          dsimp only at h ⊢
          split at h <;> rename_i hi <;> cases h
          · rw [if_pos hi]; exact ⟨rfl, rfl, rfl⟩
          · rw [if_neg hi]; exact ⟨rfl, rfl, rfl⟩
        | _ => cases h; exact ⟨rfl, rfl, rfl⟩
      · cases h
    | region id ops draw =>
      cases draw with
      | true =>
        dsimp only at h
        cases hx : xdraw3 P (onlyF call) N ops e H with
        | none => rw [hx] at h; cases h
        | some r =>
          rw [hx] at h
          cases h
          exact CW.within (xdraw3_sound (onlyF_ok hc) hm hx)
      | false =>
        dsimp only at h
        split at h
        · rename_i hok
          cases hx : xops P call ops ops.toList e H with
          | none => rw [hx] at h; cases h
          | some r =>
            rw [hx] at h
            cases h
            exact CW.within (CW.region hok (xops_sound2 hc _ _ _ _ _ hx ⟨rfl, rfl, rfl⟩))
        · cases h
    | loop c =>
      dsimp only at h
      rw [memo_eq, AHeap.memo_eq] at h
      refine CWF.loop (fun m e1 H1 => xloop (fun e H => xc3 P call N top k c e H) N m e1 H1 = some (x, e', H')) h fun m e1 H1 hI => ?_
      cases m with
      | zero => cases hI
      | succ m =>
        simp only [xloop] at hI
        split at hI
        · rename_i x2 e2 H2 h2
          refine (ih c e1 H1 x2 e2 H2 h2 n0).mono ?_
          rintro x3 e3 H3 ⟨rfl, rfl, rfl⟩
          cases x3 with
          | normal =>
            dsimp only at hI
            rw [memo_eq, AHeap.memo_eq] at hI
            exact ⟨m, Nat.lt_succ_self m, hI⟩
          | _ => cases hI; exact ⟨rfl, rfl, rfl⟩
        · cases hI
    | scope c =>
      dsimp only at h
      split at h
      · rename_i r hr
        obtain ⟨x1, e1, H1⟩ := r
        have hrun : (fun c e H => xc3 P call N top k c (memo N e) H.memo) = fun c e H => xc3 P call N top k c e H := by
          funext c e H; rw [memo_eq, AHeap.memo_eq]
        rw [hrun] at h
        have post : ∀ (mo : Option Nat) n x1 e1 H1, (∀ q, mo = some q → n ≤ q) → xscope (fun c e H => xc3 P call N top k c e H) c n (x1, e1, H1) = some (x, e', H') →
            scopePost c (fun l m e H => ∃ rest r, findLabel c l = some rest ∧ xc3 P call N top k rest e H = some r ∧ xscope (fun c e H => xc3 P call N top k c e H) c m r = some (x, e', H')) mo (Same x e' H') x1 e1 H1 := by
          intro mo n x1 e1 H1 hq h
          unfold xscope at h
          cases x1 with
          | goto l =>
            dsimp only at h
            split at h
            · rename_i rest hl
              split at h
              · cases h
              · rename_i n
                split at h
                · rename_i r hr
                  exact .inl ⟨rest, n, hl, fun q hmq => by have := hq q hmq; omega, rest, r, hl, hr, h⟩
                · cases h
            · rename_i hl
              cases h
              exact .inr ⟨hl, rfl, rfl, rfl⟩
          | _ => cases h; exact ⟨rfl, rfl, rfl⟩
        refine CWF.scope (fun l m e H => ∃ rest r, findLabel c l = some rest ∧ xc3 P call N top k rest e H = some r ∧ xscope (fun c e H => xc3 P call N top k c e H) c m r = some (x, e', H')) ((ih c e H x1 e1 H1 hr n0).mono ?_) ?_
        · rintro x2 e2 H2 ⟨rfl, rfl, rfl⟩
          exact post none _ _ _ _ (fun q h => by cases h) h
        · rintro l m e2 H2 rest hl ⟨rest', ⟨x3, e3, H3⟩, hl', hrr, hs⟩
          rw [hl] at hl'
          cases hl'
          refine (ih rest e2 H2 x3 e3 H3 hrr n0).mono ?_
          rintro x4 e4 H4 ⟨rfl, rfl, rfl⟩
          exact post (some m) m _ _ _ (fun q h => by cases h; exact Nat.le_refl _) hs
      · cases h
    | rangeFunc g ps a b =>
      dsimp only at h
      cases top with
      | false => cases h
      | true =>
        obtain rfl := htop rfl
        dsimp only at h
        split at h
        · rename_i f as bs hg
          rw [memo_eq] at h
          split at h
          · rename_i v G hcall
            obtain ⟨hb, hW⟩ := hc _ _ _ _ _ hcall
            refine CWF.range (e' := e) hg hb (fun t => .inl rfl) (hW.mono ?_)
            rintro v1 H1 ⟨rfl, rfl⟩
            split at h
            · rename_i r hr
              refine ⟨r, hr, ?_, ?_⟩
              · split at h
                · cases h
                · rename_i hnb; split <;> simp_all
              · split at h
                · cases h
                · split at h
                  · rename_i hp
                    rw [hp]
                    cases h
                    exact ⟨rfl, rfl, by rw [hp]⟩
                  · rename_i c hp
                    rw [hp]
                    dsimp only
                    exact ih c _ _ _ _ _ (by rw [hp] at h; exact h) n0
            · cases h
          · cases h
        · cases h
    | refuse _ => cases h
def xcall3 (P : Program) (tab : Tab) : Nat → Caller
  | 0, _, _, _ => none
  | d + 1, fv, args, H => match fv with
    | .func f as bs => match lookC tab f (as ++ args ++ bs) H with
     | some r => some r
     | none => match P.funcs[f]? with
      | some fn => match fn.body with
        | some c => if hasBody P f && decide ((as ++ args ++ bs).length ≤ fn.ntmps) then
            match xc3 P (xcall3 P tab d) fn.ntmps true 1000 c (memo fn.ntmps (env0 (as ++ args ++ bs))) H.memo with
            | some (x, e', H') => match x with
              | .normal | .ret => (match resA P e' H' fn.results.toList with
                | some v => forceV v fun v => some (v, H')
                | none => none)
              | _ => none
            | none => none
          else none
        | none => none
      | none => none
    | .yield i => match H.f i with
      | .loop r => match r.state with
        | .ready => if decide (r.params.length = args.length) && r.params.all (fun p => decide (p < r.ntmps)) then
            match xc3 P (xcall3 P tab d) r.ntmps false 1000 r.assign (memo r.ntmps (putPs r.env r.params args)) H.memo with
            | some (x, e1, H1) => match x with
              | .normal => match H1.f i with
                | .loop r1 => match r1.state with
                  | .ready => match xc3 P (xcall3 P tab d) r.ntmps false 1000 r.body (memo r.ntmps e1) (H1.set i (.loop { r1 with state := .busy })).memo with
                    | some (x2, _, H2) => if decide (H.n ≤ H2.n) then match H2.f i with
                      | .loop r2 => match x2 with
                        | .normal => some (.bool true, H2.set i (.loop { r2 with state := .ready, pending := none }))
                        | .ret => some (.bool false, H2.set i (.loop { r2 with state := .done, pending := some .ret }))
                        | .exit id => some (.bool false, H2.set i (.loop { r2 with state := .done, pending := some (.exit id) }))
                        | .goto l => some (.bool false, H2.set i (.loop { r2 with state := .done, pending := some (.goto l) }))
                        | _ => none
                      | _ => none
                      else none
                    | none => none
                  | _ => none
                | _ => none
              | _ => none
            | none => none
          else none
        | _ => none
      | _ => none
    | _ => none
theorem xcall3_sound (hm : P.follows .mixedOrders = true) {tab : Tab} (ht : ∀ p ∈ tab, Known P p) : ∀ d : Nat, Caller.ok2 P (xcall3 P tab d)
  | 0 => by intro fv args H v H' h; cases h
  | d + 1 => by
    have ih := xcall3_sound hm ht d
    intro fv args H v H' h
    simp only [xcall3] at h
    split at h
    · rename_i f as bs
      split at h
      · rename_i r hr
        cases h
        exact lookC_sound ht hr
      split at h
      · rename_i fn hf
        split at h
        · rename_i c hb
          split at h
          · rename_i hck
            simp only [Bool.and_eq_true, decide_eq_true_eq] at hck
            rw [memo_eq, AHeap.memo_eq] at h
            split at h
            · rename_i x e1 H1 hx
              refine ⟨hck.1, CallW.of_bodyG hf hb hck.2 ((xc3_sound (ρ := none) ih hm (fun _ => rfl) 1000 c _ _ _ _ _ hx H.n).mono ?_)⟩
              rintro x2 e2 H2 ⟨rfl, rfl, rfl⟩
              split at h
              · split at h
                · rename_i v' hv
                  rw [forceV_eq] at h
                  cases h
                  exact ⟨.inl rfl, _, hv, rfl, rfl⟩
                · cases h
              · split at h
                · rename_i v' hv
                  rw [forceV_eq] at h
                  cases h
                  exact ⟨.inr rfl, _, hv, rfl, rfl⟩
                · cases h
              · cases h
            · cases h
          · cases h
        · cases h
      · cases h
    · rename_i i
      split at h
      · rename_i r hr
        split at h
        · rename_i hrs
          split at h
          · rename_i hck
            simp only [Bool.and_eq_true, decide_eq_true_eq, List.all_eq_true] at hck
            rw [memo_eq, AHeap.memo_eq] at h
            split at h
            · rename_i x e1 H1 hx
              split at h
              · split at h
                · rename_i r1 hr1
                  split at h
                  · rename_i hrs1
                    rw [memo_eq, AHeap.memo_eq] at h
                    split at h
                    · rename_i x2 e2 H2 hx2
                      split at h
                      · rename_i hle
                        simp only [decide_eq_true_eq] at hle
                        split at h
                        · rename_i r2 hr2
                          show RoundW P i args H _
                          refine RoundW.of hr hrs hck.1 hck.2 fun ρ => (xc3_sound (ρ := ρ) ih hm (fun h => by cases h) 1000 _ _ _ _ _ _ hx H.n).mono ?_
                          rintro x3 e3 H3 ⟨rfl, rfl, rfl⟩
                          refine ⟨rfl, r1, hr1, hrs1, (xc3_sound (ρ := ρ) ih hm (fun h => by cases h) 1000 _ _ _ _ _ _ hx2 H.n).mono ?_⟩
                          rintro x4 e4 H4 ⟨rfl, rfl, rfl⟩
                          refine ⟨r2, hr2, ?_⟩
                          split at h
                          · cases h; exact ⟨fun i => i, _, _, Emb.id hle, (ren_id _).symm, rfl, rfl⟩
                          · cases h; exact ⟨fun i => i, _, _, Emb.id hle, (ren_id _).symm, rfl, rfl⟩
                          · cases h; exact ⟨fun i => i, _, _, Emb.id hle, (ren_id _).symm, rfl, rfl⟩
                          · cases h; exact ⟨fun i => i, _, _, Emb.id hle, (ren_id _).symm, rfl, rfl⟩
                          · cases h
                        · cases h
                      · cases h
                    · cases h
                  · cases h
                · cases h
              · cases h
            · cases h
          · cases h
        · cases h
      · cases h
    · cases h
/-- The call, carried out; its result told without numbers. -/
def runT (P : Program) (tab : Tab) (f : FuncId) (args : List AVal) (v : AVal) : Bool := match xcall3 P tab 40 (.func f [] []) args emptyH with
  | some (u, H) => match frzV H u with
    | some (u', ks) => ksCells H ks && (noRefs args && sameV (fun i => i) u' v)
    | none => false
  | none => false
theorem known_run (hm : P.follows .mixedOrders = true) {tab : Tab} (ht : ∀ p ∈ tab, Known P p) {f : FuncId} {args : List AVal} {v : AVal} (h : runT P tab f args v = true) : Known P (f, args, v) := by
  unfold runT at h
  split at h
  · rename_i u H hx
    split at h
    · rename_i u' ks hu
      simp only [Bool.and_eq_true] at h
      obtain ⟨hk, hn, hv⟩ := h
      obtain ⟨h1, h2⟩ := xcall3_sound hm ht 40 _ _ _ _ _ hx
      obtain ⟨g1, g2⟩ := frzV_frz _ _ _ ks hu fun k h => h
      have := sameV_eq _ _ hv
      rw [ren_id] at this
      subst this
      refine ⟨h1, hn, fun H0 => ?_⟩
      rw [List.nil_append, List.append_nil] at h2
      exact CallW.pure (h2.mono fun v1 H1 ⟨e1, e2⟩ => by subst e1; subst e2; exact ⟨ks, _, hk, g1, g2, rfl⟩) hn H0
    · cases h
  · cases h
end Go.Vh
