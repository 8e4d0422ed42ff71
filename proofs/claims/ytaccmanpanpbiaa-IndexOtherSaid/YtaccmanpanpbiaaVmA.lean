import Derived.Test.YtaccmanpanpbiaaVkI
/- Rows as values: own blocks that nothing will write any more; what operations give. -/
set_option linter.unusedVariables false
set_option linter.unusedSimpArgs false
namespace Go.Vk
open Go.Vh
variable {P : Program} {N : Nat} {ρ : Option Nat} {n0 : Nat}

/-! ### Values without numbers -/
mutual
def clo : AVal → Bool
  | .int _ _ | .bool _ | .str _ | .nilSlice | .row _ _ => true
  | .agg l | .tuple l => clos l
  | _ => false
def clos : List AVal → Bool
  | [] => true
  | v :: l => clo v && clos l
end
mutual
theorem clo_Z {φ : PMap} : ∀ (v : AVal) (c : Value), clo v = true → VRel φ v c → ZRel φ.z v c
  | .int _ _, _, _, h => by simpa [ZRel, VRel] using h
  | .bool _, _, _, h => by simpa [ZRel, VRel] using h
  | .str _, _, _, h => by simpa [ZRel, VRel] using h
  | .nilSlice, _, _, h => by simpa [ZRel, VRel] using h
  | .row n cs, _, _, h => by rw [VRel] at h; exact h
  | .agg as, _, hc, h => by
    simp only [ZRel, VRel] at *
    obtain ⟨cs, h1, h2⟩ := h
    exact ⟨cs, h1, clos_Z as cs (by simpa [clo] using hc) h2⟩
  | .tuple as, _, hc, h => by
    simp only [ZRel, VRel] at *
    obtain ⟨cs, h1, h2⟩ := h
    exact ⟨cs, h1, clos_Z as cs (by simpa [clo] using hc) h2⟩
  | .undef, _, hc, _ => by simp [clo] at hc
  | .raw _, _, hc, _ => by simp [clo] at hc
  | .ptr _ _, _, hc, _ => by simp [clo] at hc
  | .slice _ _ _, _, hc, _ => by simp [clo] at hc
  | .view _ _ _, _, hc, _ => by simp [clo] at hc
  | .map _, _, hc, _ => by simp [clo] at hc
  | .func _ _ _, _, hc, _ => by simp [clo] at hc
  | .yield _, _, hc, _ => by simp [clo] at hc
  | .rptr _ _, _, hc, _ => by simp [clo] at hc
theorem clos_Z {φ : PMap} : ∀ (vs : List AVal) (cs : List Value), clos vs = true → VRels φ vs cs → ZRels φ.z vs cs
  | [], cs, _, h => by simpa [ZRels, VRels] using h
  | v :: vs, cs, hc, h => by
    simp only [clos, Bool.and_eq_true] at hc
    simp only [ZRels, VRels] at *
    obtain ⟨c, cs', h1, h2, h3⟩ := h
    exact ⟨c, cs', h1, clo_Z v c hc.1 h2, clos_Z vs cs' hc.2 h3⟩
end
theorem clos_append {l m : List AVal} : clos (l ++ m) = (clos l && clos m) := by
  induction l with
  | nil => rfl
  | cons v l ih => simp [clos, ih, Bool.and_assoc]
theorem clos_all {l : List AVal} (h : ∀ v ∈ l, clo v = true) : clos l = true := by
  induction l with
  | nil => rfl
  | cons v l ih =>
    simp only [clos, Bool.and_eq_true]
    exact ⟨h v (List.mem_cons_self ..), ih fun u hu => h u (List.mem_cons_of_mem _ hu)⟩
theorem clos_ints (l : List Int) : clos (ints l) = true := clos_all fun v hv => by
  obtain ⟨x, _, rfl⟩ := List.mem_map.1 hv; rfl
theorem clos_bls (l : List Bool) : clos (bls l) = true := clos_all fun v hv => by
  obtain ⟨x, _, rfl⟩ := List.mem_map.1 hv; rfl
mutual
theorem clo_noRef : ∀ (v : AVal), clo v = true → noRef v = true
  | .int _ _, _ | .bool _, _ | .str _, _ | .nilSlice, _ | .row _ _, _ => rfl
  | .agg as, h => by simp only [noRef]; exact clos_noRefs as (by simpa [clo] using h)
  | .tuple as, h => by simp only [noRef]; exact clos_noRefs as (by simpa [clo] using h)
  | .undef, hc | .raw _, hc | .ptr _ _, hc | .slice _ _ _, hc | .view _ _ _, hc | .map _, hc | .func _ _ _, hc | .yield _, hc | .rptr _ _, hc => by simp [clo] at hc
theorem clos_noRefs : ∀ (vs : List AVal), clos vs = true → noRefs vs = true
  | [], _ => rfl
  | v :: vs, h => by
    simp only [clos, noRefs, Bool.and_eq_true] at *
    exact ⟨clo_noRef v h.1, clos_noRefs vs h.2⟩
end

/-! ### Blocks that are given up -/
def killL (H : AHeap) : List Nat → AHeap
  | [] => H
  | k :: ks => killL (H.set k .dead) ks
def cellsB : ABlk → Bool
  | .cells _ _ => true
  | _ => false
def ksCells (H : AHeap) : List Nat → Bool
  | [] => true
  | k :: ks => cellsB (H.f k) && !ks.contains k && ksCells H ks
theorem rel_frz1 {φ : PMap} {H : AHeap} {w : World} (hR : Rel φ H w) {i es : Nat} {cs : List AVal} (hf : H.f i = .cells es cs) :
    ∃ z, Rel ⟨φ.m, z⟩ (H.set i .dead) w ∧ Ext φ H w ⟨φ.m, z⟩ (H.set i .dead) w ∧ ∀ b, φ i = some b → z b.blk = w.heap[b.blk]? := by
  obtain ⟨h1, h2⟩ := rel_kill hR i
  cases hb : φ i with
  | none => exact ⟨φ.z, h1, h2, fun b hb' => by cases hb'⟩
  | some b =>
    have hB := hR.blk i b hb
    rw [hf] at hB
    obtain ⟨hes, arr, elem, hw, h3, h4, h5⟩ := hB
    have hrw : (H.f i).rw := by rw [hf]; trivial
    have hle : ZLe φ.z (fun k => if k = b.blk then w.heap[b.blk]? else φ.z k) := by
      intro k o hk
      dsimp only
      split
      · rename_i he; rw [← he]; exact (hR.fz k o hk).1
      · exact hk
    refine ⟨fun k => if k = b.blk then w.heap[b.blk]? else φ.z k, ⟨h1.dom, h1.has, fun j c hc => (h1.blk j c hc).kept ⟨fun _ _ h => h, hle⟩ fun _ => rfl, h1.inj, h1.lt, fun k o hk => ?_⟩, ⟨⟨fun _ _ h => h, hle⟩, h2.size, h2.keep, h2.own, rfl, rfl, rfl, h2.num, h2.ver, h2.same, fun k o hk => ?_⟩, fun c hc => ?_⟩
    · dsimp only at hk
      split at hk
      · rename_i he
        subst he
        refine ⟨hk, fun j c hc hcr => ?_, ?_⟩
        · intro hcb
          have hji : j ≠ i := by
            intro he; subst he
            rw [set_f, if_pos rfl] at hcr; exact hcr
          rw [set_f, if_neg hji] at hcr
          exact hR.inj i j b c hb hc (Ne.symm hji) hrw hcr.live hcb.symm
        · rw [hw] at hk; cases hk; exact ⟨_, _, _, rfl⟩
      · exact h1.fz k o hk
    · dsimp only at hk
      split at hk
      · rename_i he
        exact .inr (.inl ⟨i, b, hb, hrw, he.symm⟩)
      · exact .inl hk
    · cases hc
      exact if_pos rfl
theorem rel_frz {w : World} : ∀ (ks : List Nat) {φ : PMap} {H : AHeap}, Rel φ H w → ksCells H ks = true →
    ∃ z, Rel ⟨φ.m, z⟩ (killL H ks) w ∧ Ext φ H w ⟨φ.m, z⟩ (killL H ks) w ∧ ∀ i ∈ ks, ∀ b, φ i = some b → z b.blk = w.heap[b.blk]?
  | [], φ, H, hR, _ => ⟨φ.z, hR, Ext.refl _ _ _, fun i hi => nomatch hi⟩
  | k :: ks, φ, H, hR, hk => by
    simp only [ksCells, Bool.and_eq_true, Bool.not_eq_true'] at hk
    obtain ⟨⟨hk1, hk2⟩, hk3⟩ := hk
    obtain ⟨es, cs, hf⟩ : ∃ es cs, H.f k = .cells es cs := by
      cases hf : H.f k <;> rw [hf] at hk1 <;> first | exact ⟨_, _, rfl⟩ | cases hk1
    obtain ⟨z1, a1, a2, a3⟩ := rel_frz1 hR hf
    have hk3' : ksCells (H.set k .dead) ks = true := by
      clear a1 a2 a3
      induction ks with
      | nil => rfl
      | cons j ks ih =>
        simp only [ksCells, Bool.and_eq_true, Bool.not_eq_true', List.contains_cons, Bool.or_eq_false_iff] at hk3 hk2 ⊢
        have hjk : j ≠ k := fun he => by rw [he] at hk2; simp at hk2
        exact ⟨⟨by rw [set_f, if_neg hjk]; exact hk3.1.1, hk3.1.2⟩, ih hk3.2 hk2.2⟩
    obtain ⟨z2, b1, b2, b3⟩ := rel_frz ks a1 hk3'
    refine ⟨z2, b1, a2.trans b2, fun i hi b hb => ?_⟩
    rcases List.mem_cons.1 hi with rfl | hi
    · have h1 := a3 b hb
      have h2 : ∃ o, w.heap[b.blk]? = some o := by
        have hB := hR.blk i b hb
        rw [hf] at hB
        obtain ⟨_, arr, elem, hw, _⟩ := hB
        exact ⟨_, hw⟩
      obtain ⟨o, h2⟩ := h2
      rw [h2] at h1 ⊢
      exact b2.le.z _ _ h1
    · exact b3 i hi b hb
mutual
/-- A value told without numbers, once the blocks ks are given up. -/
inductive Frz (H : AHeap) (ks : List Nat) : AVal → AVal → Prop
  | slice {i off n es : Nat} {cs cs' : List AVal} : ks.contains i = true → H.f i = .cells es cs → off + n * es ≤ cs.length → FrzL H ks ((cs.drop off).take (n * es)) cs' → Frz H ks (.slice i off n) (.row n cs')
  | view {i off n es : Nat} {cs cs' : List AVal} : ks.contains i = true → H.f i = .cells es cs → off + n * es ≤ cs.length → FrzL H ks ((cs.drop off).take (n * es)) cs' → Frz H ks (.view i off n) (.row n cs')
  | slice0 {i off : Nat} {cs : List AVal} : Frz H ks (.slice i off 0) (.row 0 cs)
  | view0 {i off : Nat} {cs : List AVal} : Frz H ks (.view i off 0) (.row 0 cs)
  | nil {cs : List AVal} : Frz H ks .nilSlice (.row 0 cs)
  | agg {l m : List AVal} : FrzL H ks l m → Frz H ks (.agg l) (.agg m)
  | tuple {l m : List AVal} : FrzL H ks l m → Frz H ks (.tuple l) (.tuple m)
  | same {v : AVal} : clo v = true → Frz H ks v v
inductive FrzL (H : AHeap) (ks : List Nat) : List AVal → List AVal → Prop
  | same {l : List AVal} : clos l = true → FrzL H ks l l
  | cons {v u : AVal} {l m : List AVal} : Frz H ks v u → FrzL H ks l m → FrzL H ks (v :: l) (u :: m)
end
mutual
theorem Frz.rel {φ : PMap} {H : AHeap} {w : World} {ks : List Nat} {z : ZMap} (hR : Rel φ H w) (hz : ZLe φ.z z) (hks : ∀ i ∈ ks, ∀ b, φ i = some b → z b.blk = w.heap[b.blk]?) : ∀ {v u : AVal} {c : Value}, Frz H ks v u → VRel φ v c → ZRel z u c
  | _, _, c, .same h, hv => ZRel_mono hz _ _ (clo_Z _ _ h hv)
  | _, _, c, .nil, hv => by rw [ZRel]; exact .inl ⟨rfl, hv⟩
  | _, _, c, .agg h, hv => by
    simp only [ZRel, VRel] at *
    obtain ⟨cs, h1, h2⟩ := hv
    exact ⟨cs, h1, h.rel hR hz hks h2⟩
  | _, _, c, .tuple h, hv => by
    simp only [ZRel, VRel] at *
    obtain ⟨cs, h1, h2⟩ := hv
    exact ⟨cs, h1, h.rel hR hz hks h2⟩
  | _, _, c, .slice (i := i) (off := off) (n := n) (es := es) (cs := cs) (cs' := cs') hi hf hle h, hv => by
    obtain ⟨b, cap, ad, hb, rfl, hlc, hcap⟩ := hv
    rw [ZRel]
    refine .inr ⟨cap, ad, rfl, hlc, fun hn => (by rw [(hcap hn).1]), fun hn => ?_⟩
    obtain ⟨rfl, _⟩ := hcap (by omega)
    have hB := hR.blk i b hb
    rw [hf] at hB
    obtain ⟨hes, arr, elem, hw, h3, h4, h5⟩ := hB
    have hzb := hks i (by simpa using hi) b hb
    rw [hw] at hzb
    refine ⟨arr, elem, (0, 0), _, hzb, h.rel hR hz hks (VRels_take (VRels_drop h5 off) (n * es)), fun j c hc => ?_⟩
    rw [List.getElem?_take] at hc
    split at hc
    · rw [List.getElem?_drop, List.getElem?_take] at hc
      split at hc
      · rw [List.getElem?_drop, Array.getElem?_toList] at hc
        rw [show b.base + off + j = b.base + (off + j) by omega]
        exact hc
      · cases hc
    · cases hc
  | _, _, c, .view (i := i) (off := off) (n := n) (es := es) (cs := cs) (cs' := cs') hi hf hle h, hv => by
    have go : VRel φ (.slice i off n) c → ZRel z (.row n cs') c := fun hv => by
      obtain ⟨b, cap, ad, hb, rfl, hlc, hcap⟩ := hv
      rw [ZRel]
      refine .inr ⟨cap, ad, rfl, hlc, fun hn => (by rw [(hcap hn).1]), fun hn => ?_⟩
      obtain ⟨rfl, _⟩ := hcap (by omega)
      have hB := hR.blk i b hb
      rw [hf] at hB
      obtain ⟨hes, arr, elem, hw, h3, h4, h5⟩ := hB
      have hzb := hks i (by simpa using hi) b hb
      rw [hw] at hzb
      refine ⟨arr, elem, (0, 0), _, hzb, h.rel hR hz hks (VRels_take (VRels_drop h5 off) (n * es)), fun j c hc => ?_⟩
      rw [List.getElem?_take] at hc
      split at hc
      · rw [List.getElem?_drop, List.getElem?_take] at hc
        split at hc
        · rw [List.getElem?_drop, Array.getElem?_toList] at hc
          rw [show b.base + off + j = b.base + (off + j) by omega]
          exact hc
        · cases hc
      · cases hc
    rcases view_cases hv with ⟨h0, rfl⟩ | hv
    · subst h0; rw [ZRel]; exact .inl ⟨rfl, rfl⟩
    · exact go hv
  | _, _, c, .slice0, hv => by
    obtain ⟨b, cap, ad, hb, rfl, hlc, hcap⟩ := hv
    rw [ZRel]
    exact .inr ⟨cap, ad, rfl, hlc, fun hn => (by rw [(hcap hn).1]), fun hn => absurd hn (Nat.lt_irrefl 0)⟩
  | _, _, c, .view0, hv => by
    rcases view_cases hv with ⟨_, rfl⟩ | hv
    · rw [ZRel]; exact .inl ⟨rfl, rfl⟩
    obtain ⟨b, cap, ad, hb, rfl, hlc, hcap⟩ := hv
    rw [ZRel]
    exact .inr ⟨cap, ad, rfl, hlc, fun hn => (by rw [(hcap hn).1]), fun hn => absurd hn (Nat.lt_irrefl 0)⟩
theorem FrzL.rel {φ : PMap} {H : AHeap} {w : World} {ks : List Nat} {z : ZMap} (hR : Rel φ H w) (hz : ZLe φ.z z) (hks : ∀ i ∈ ks, ∀ b, φ i = some b → z b.blk = w.heap[b.blk]?) : ∀ {l m : List AVal} {cs : List Value}, FrzL H ks l m → VRels φ l cs → ZRels z m cs
  | _, _, cs, .same h, hv => ZRels_mono hz _ _ (clos_Z _ _ h hv)
  | _, _, cs, .cons h1 h2, hv => by
    simp only [ZRels, VRels] at *
    obtain ⟨c, cs', e, a, b⟩ := hv
    exact ⟨c, cs', e, h1.rel hR hz hks a, h2.rel hR hz hks b⟩
end
/-- An argument: as it was, or told without numbers. -/
inductive FrzA (H : AHeap) (ks : List Nat) : List AVal → List AVal → Prop
  | nil : FrzA H ks [] []
  | keep {v : AVal} {l m : List AVal} : FrzA H ks l m → FrzA H ks (v :: l) (v :: m)
  | frz {v u : AVal} {l m : List AVal} : Frz H ks v u → FrzA H ks l m → FrzA H ks (v :: l) (u :: m)
theorem FrzA.rel {φ : PMap} {H : AHeap} {w : World} {ks : List Nat} {z : ZMap} (hR : Rel φ H w) (hz : ZLe φ.z z) (hks : ∀ i ∈ ks, ∀ b, φ i = some b → z b.blk = w.heap[b.blk]?) {l m : List AVal} (h : FrzA H ks l m) : ∀ {cs : List Value}, VRels φ l cs → VRels ⟨φ.m, z⟩ m cs := by
  induction h with
  | nil => intro cs h; exact h
  | keep h ih =>
    intro cs hv
    simp only [VRels] at *
    obtain ⟨c, cs', e, a, b⟩ := hv
    exact ⟨c, cs', e, VRel_mono (φ := φ) (ψ := ⟨φ.m, z⟩) ⟨fun _ _ h => h, hz⟩ _ _ a, ih b⟩
  | frz h1 h ih =>
    intro cs hv
    simp only [VRels] at *
    obtain ⟨c, cs', e, a, b⟩ := hv
    exact ⟨c, cs', e, ZRel_rel (φ := ⟨φ.m, z⟩) _ _ (h1.rel hR hz hks a), ih b⟩
/-- A result told without numbers. -/
theorem _root_.Go.Vh.CallW.frzR {f : FuncId} {args : List AVal} {H : AHeap} {K : AVal → AHeap → Prop} (h : CallW P f args H fun v H' => ∃ ks u, ksCells H' ks = true ∧ Frz H' ks v u ∧ K u (killL H' ks)) : CallW P f args H K := by
  intro φ w cargs hR ha
  refine (h φ w cargs hR ha).mono ?_
  rintro e w' ⟨cv, v, φ', H', rfl, h1, h2, h3, ks, u, hk, hf, hK⟩
  obtain ⟨z, a1, a2, a3⟩ := rel_frz ks h2 hk
  exact ⟨cv, u, ⟨φ'.m, z⟩, killL H' ks, rfl, ZRel_rel (φ := ⟨φ'.m, z⟩) _ _ (hf.rel h2 a2.le.z a3 h1), a1, h3.trans a2, hK⟩
/-- A function of values without numbers: its contract at the empty heap holds at every heap. -/
theorem _root_.Go.Vh.CallW.pure {f : FuncId} {args : List AVal} {K : AVal → Prop} (h : CallW P f args emptyH fun v H' => ∃ ks u, ksCells H' ks = true ∧ Frz H' ks v u ∧ clo u = true ∧ K u) (ha : noRefs args = true) (H : AHeap) : CallW P f args H fun v H' => H' = H ∧ K v :=
  (CallW.closed (K := fun v => clo v = true ∧ K v) (CallW.frzR (h.mono fun v H' ⟨ks, u, h1, h2, h3, h4⟩ => ⟨ks, u, h1, h2, h3, h4⟩)) ha (fun v h => clo_noRef v h.1) H).mono fun v H' h => ⟨h.1, h.2.2⟩
/-- A call some of whose arguments are given up. -/
theorem _root_.Go.Vh.CallW.argsF {f : FuncId} {args args' : List AVal} {H : AHeap} {K : AVal → AHeap → Prop} (ks : List Nat) (hk : ksCells H ks = true) (hf : FrzA H ks args args') (h : CallW P f args' (killL H ks) K) : CallW P f args H K := by
  intro φ w cargs hR ha
  obtain ⟨z, a1, a2, a3⟩ := rel_frz ks hR hk
  refine (h ⟨φ.m, z⟩ w cargs a1 (hf.rel hR a2.le.z a3 ha)).mono ?_
  rintro e w' ⟨cv, v, φ', H', rfl, h1, h2, h3, h4⟩
  exact ⟨cv, v, φ', H', rfl, h1, h2, a2.trans h3, h4⟩
def updL (e : Env) : List (Nat × AVal) → Env
  | [] => e
  | p :: l => fun t => if t = p.1 then p.2 else updL e l t
/-- Within code: blocks are given up; some of what lives on is told without numbers. -/
theorem CWF.frz {c : Code} {e : Env} {H : AHeap} {K : Exit → Env → AHeap → Prop} (ks : List Nat) (el : List (Nat × AVal)) (hk : ksCells H ks = true) (hf : ∀ p ∈ el, Frz H ks (e p.1) p.2) (h : CWF P N ρ n0 c (updL e el) (killL H ks) K) : CWF P N ρ n0 c e H K := by
  intro B φ0 H0 w0 φ w a h0 hd hR hER hM hB hX
  obtain ⟨z, a1, a2, a3⟩ := rel_frz ks hR hk
  refine h B φ0 H0 w0 ⟨φ.m, z⟩ w a h0 hd a1 ⟨hER.1, fun t => ?_⟩ (hM.ext a2) hB (hX.trans a2)
  clear h
  induction el with
  | nil =>
    rcases hER.2 t with h | h
    · exact .inl (VRel_mono (φ := φ) (ψ := ⟨φ.m, z⟩) ⟨fun _ _ h => h, a2.le.z⟩ _ _ h)
    · exact .inr h
  | cons p l ih =>
    show VRel _ (if t = p.1 then p.2 else updL e l t) _ ∨ (if t = p.1 then p.2 else updL e l t) = _
    split
    · rename_i he
      subst he
      have := hf p (List.mem_cons_self ..)
      exact .inl (ZRel_rel (φ := ⟨φ.m, z⟩) _ _ (this.rel hR a2.le.z a3 (hER.get _)))
    · exact ih fun q hq => hf q (List.mem_cons_of_mem _ hq)
theorem CodeS.frz {cuts : List Nat} (ks : List Nat) (el : List (Nat × AVal)) {c : Code} {e : Env} {H : AHeap} {K : Exit → Env → AHeap → Prop} (hok : okCode N c = true) (hk : ksCells H ks = true) (hf : ∀ p ∈ el, Frz H ks (e p.1) p.2) (h : sc P N ρ n0 cuts c (updL e el) (killL H ks) K) : CodeS P N ρ n0 c e H K :=
  ⟨CWF.frz ks el hk hf (sc_sound c _ _ _ hok h)⟩

/-! ### What operations give -/
theorem Gets.ixR {t e : TypeId} {n es : Nat} {cs : List AVal} {k : IntKind} {j : Int} {A : AVal → Prop} (hu : P.underlying t = some (.slice e)) (hes : elemSize P t = some es) (h0 : 0 ≤ j) (h1 : j < n) (hA : A (.rptr cs (j.toNat * es))) : Gets (ixA P t (.row n cs) (.int k j)) A :=
  ⟨⟨_, by simp only [ixA, hu, rindexA, hes]; rw [if_pos ⟨h0, h1⟩], hA⟩⟩
theorem Gets.ixR1 {t e : TypeId} {n j : Nat} {cs : List AVal} {k : IntKind} {A : AVal → Prop} (hu : P.underlying t = some (.slice e)) (hes : elemSize P t = some 1) (h1 : j < n) (hA : A (.rptr cs j)) : Gets (ixA P t (.row n cs) (.int k (j : Int))) A :=
  Gets.ixR hu hes (by omega) (by omega) (by rw [Int.toNat_natCast, Nat.mul_one]; exact hA)
theorem Gets.ixRI {t e : TypeId} {n : Nat} {j : Int} {cs : List AVal} {k : IntKind} {A : AVal → Prop} (hu : P.underlying t = some (.slice e)) (hes : elemSize P t = some 1) (h0 : 0 ≤ j) (h1 : j < n) (hA : A (.rptr cs j.toNat)) : Gets (ixA P t (.row n cs) (.int k j)) A :=
  Gets.ixR hu hes h0 h1 (by rw [Nat.mul_one]; exact hA)
theorem Gets.ixRE {t e : TypeId} {n j es : Nat} {cs : List AVal} {k : IntKind} {A : AVal → Prop} (hu : P.underlying t = some (.slice e)) (hes : elemSize P t = some es) (h1 : j < n) (hA : A (.rptr cs (j * es))) : Gets (ixA P t (.row n cs) (.int k (j : Int))) A :=
  Gets.ixR hu hes (by omega) (by omega) (by rw [Int.toNat_natCast]; exact hA)
theorem Gets.ldR {H : AHeap} {t : TypeId} {ti : TI} {cs : List AVal} {off : Nat} {v : AVal} {A : AVal → Prop} (ht : tinfo P t = some ti) (hv : rload ti cs off = some v) (hA : A v) : Gets (loadA P H t (.rptr cs off)) A :=
  ⟨⟨_, by simp only [loadA, ht, hv], hA⟩⟩
theorem ints_get {l : List Int} {j : Nat} (h : j < l.length) : (ints l)[j]? = some (.int .i64 (l.getD j 0)) := by rw [ints, List.getElem?_map, getD_get (d := 0) h]; rfl
theorem bls_get {l : List Bool} {j : Nat} (h : j < l.length) : (bls l)[j]? = some (.bool (l.getD j false)) := by rw [bls, List.getElem?_map, getD_get (d := false) h]; rfl
theorem Gets.ldRI {H : AHeap} {t : TypeId} {l : List Int} {off : Nat} {A : AVal → Prop} (ht : tinfo P t = some tiI) (h : off < l.length) (hA : A (.int .i64 (l.getD off 0))) : Gets (loadA P H t (.rptr (ints l) off)) A :=
  Gets.ldR ht (by show (ints l)[off]? = _; exact ints_get h) hA
theorem Gets.ldRB {H : AHeap} {t : TypeId} {l : List Bool} {off : Nat} {A : AVal → Prop} (ht : tinfo P t = some tiB) (h : off < l.length) (hA : A (.bool (l.getD off false))) : Gets (loadA P H t (.rptr (bls l) off)) A :=
  Gets.ldR ht (by show (bls l)[off]? = _; exact bls_get h) hA
/-- A row of numbers. -/
def rI (l : List Int) : AVal := .row l.length (ints l)
def rB (l : List Bool) : AVal := .row l.length (bls l)
/-- A row of rows. -/
def rR (l : List AVal) : AVal := .row l.length l
theorem Gets.ldRR {H : AHeap} {t : TypeId} {ti : TI} {l : List AVal} {off : Nat} {v : AVal} {A : AVal → Prop} (ht : tinfo P t = some ti) (hag : ti.agg = false) (h : l[off]? = some v) (hA : A v) : Gets (loadA P H t (.rptr l off)) A :=
  Gets.ldR ht (by unfold rload; rw [hag]; exact h) hA
theorem Gets.sliceR {H : AHeap} {t e : TypeId} {ti : TI} {n : Nat} {cs : List AVal} {lo hi : Option AVal} {l h : Nat} {A : AVal → Prop} (hu : P.underlying t = some (.slice e)) (hT : sliceT P t = some ti) (h1 : boundA 0 lo = some (l : Int)) (h2 : boundA n hi = some (h : Int)) (hl : l ≤ h) (hh : h ≤ n)
    (hA : A (.row (h - l) ((cs.drop (l * ti.size)).take ((h - l) * ti.size)))) : Gets (asliceV P H t (.row n cs) lo hi) A :=
  ⟨⟨_, by simp only [asliceV, hu, hT, h1, h2]; rw [if_pos ⟨by omega, by omega, by omega⟩]; rfl, hA⟩⟩
theorem ints_part (l : List Int) (a n : Nat) : ((ints l).drop a).take n = ints ((l.drop a).take n) := by rw [ints, ints, List.map_take, List.map_drop]
theorem Gets.loR {H : AHeap} {t e : TypeId} {ti : TI} {n k : Nat} {l : List Int} {A : AVal → Prop} (hu : P.underlying t = some (.slice e)) (hT : sliceT P t = some ti) (hsz : ti.size = 1) (hn : n = l.length) (hk : k ≤ n) (hA : A (.row (n - k) (ints (l.drop k)))) : Gets (asliceV P H t (.row n (ints l)) (some (.int .i64 (k : Int))) none) A :=
  Gets.sliceR (l := k) (h := n) hu hT rfl rfl hk (Nat.le_refl _) (by
    rw [hsz, ints_part, Nat.mul_one, Nat.mul_one, List.take_of_length_le (by rw [List.length_drop]; omega)]; exact hA)
theorem Gets.hiR {H : AHeap} {t e : TypeId} {ti : TI} {n k : Nat} {l : List Int} {A : AVal → Prop} (hu : P.underlying t = some (.slice e)) (hT : sliceT P t = some ti) (hsz : ti.size = 1) (hk : k ≤ n) (hA : A (.row k (ints (l.take k)))) : Gets (asliceV P H t (.row n (ints l)) none (some (.int .i64 (k : Int)))) A :=
  Gets.sliceR (l := 0) (h := k) hu hT rfl rfl (Nat.zero_le _) hk (by
    rw [hsz, ints_part, Nat.zero_mul, List.drop_zero, Nat.sub_zero, Nat.mul_one]; exact hA)
theorem src_row {H : AHeap} {n : Nat} {l : List Int} (hn : n = l.length) : srcA H 1 (.row n (ints l)) = some (ints l, n) := by
  show (if (ints l).length = n * 1 then _ else _) = _
  rw [if_pos (by rw [ints, List.length_map]; omega)]
end Go.Vk

/- Statements whose order is open and whose operations leave the memory as it is: one order tells of all. -/
set_option linter.unusedVariables false
set_option linter.unusedSimpArgs false
namespace Go.Vk
open Go.Vh
variable {P : Program} {N : Nat} {ρ : Option Nat} {n0 : Nat}

theorem map_congrA {e e' : Env} {l : List Operand} (h : ∀ x ∈ l, evalA e x = evalA e' x) : l.map (evalA e) = l.map (evalA e') := List.map_congr_left h
theorem parts_congrA {e e' : Env} {l : List (Nat × Operand)} (h : ∀ x ∈ l.map (·.2), evalA e x = evalA e' x) : (l.map fun p => (p.1, evalA e p.2)) = l.map fun p => (p.1, evalA e' p.2) :=
  List.map_congr_left fun p hp => by rw [h p.2 (List.mem_map_of_mem hp)]
theorem opt_congrA {e e' : Env} {o : Option Operand} (h : ∀ x ∈ o.toArray, evalA e x = evalA e' x) : o.map (evalA e) = o.map (evalA e') := by
  cases o with
  | none => rfl
  | some x => simp [h x (by simp)]
theorem wgoP_congr {o : Op} {e e' : Env} {H : AHeap} {K : AVal → AHeap → Prop} (h : ∀ x ∈ o.operands, evalA e x = evalA e' x) : wgoP P o e H K → wgoP P o e' H K := by
  cases o with
  | call c =>
    obtain ⟨cal, args, ts⟩ := c
    simp only [Op.operands, Call.operands] at h
    have ha : args.toList.map (evalA e) = args.toList.map (evalA e') := map_congrA fun x hx => h x (by simp at hx ⊢; exact .inr hx)
    cases cal with
    | value f =>
      have hf := h f (by simp)
      simp only [wgoP, ha, hf]; exact id
    | builtin b => simp only [wgoP, astep, apure, amem, ha]; exact id
    | invoke r m => simp only [wgoP, astep, apure, amem]; exact id
  | move x => have h1 := h x (by simp [Op.operands]); simp only [wgoP, astep, apure, amem, h1]; exact id
  | assign x => have h1 := h x (by simp [Op.operands]); simp only [wgoP, astep, apure, amem, h1]; exact id
  | box t x => have h1 := h x (by simp [Op.operands]); simp only [wgoP, astep, apure, amem, h1]; exact id
  | load t x => have h1 := h x (by simp [Op.operands]); simp only [wgoP, astep, apure, amem, h1]; exact id
  | nilCheck x => have h1 := h x (by simp [Op.operands]); simp only [wgoP, astep, apure, amem, h1]; exact id
  | unOp op t x => have h1 := h x (by simp [Op.operands]); simp only [wgoP, astep, apure, amem, h1]; exact id
  | convert s d x => have h1 := h x (by simp [Op.operands]); simp only [wgoP, astep, apure, amem, h1]; exact id
  | fieldAddr t x f => have h1 := h x (by simp [Op.operands]); simp only [wgoP, astep, apure, amem, h1]; exact id
  | field t x f => have h1 := h x (by simp [Op.operands]); simp only [wgoP, astep, apure, amem, h1]; exact id
  | extract x i => have h1 := h x (by simp [Op.operands]); simp only [wgoP, astep, apure, amem, h1]; exact id
  | pick c a b =>
    have h1 := h c (by simp [Op.operands]); have h2 := h a (by simp [Op.operands]); have h3 := h b (by simp [Op.operands])
    simp only [wgoP, astep, apure, amem, h1, h2, h3]; exact id
  | build t ps =>
    have h1 : (ps.toList.map fun p => (p.1, evalA e p.2)) = ps.toList.map fun p => (p.1, evalA e' p.2) := parts_congrA fun x hx => h x (by simpa [Op.operands] using hx)
    simp only [wgoP, astep, apure, amem, h1]; exact id
  | buildSlice t n ps =>
    have h1 : (ps.toList.map fun p => (p.1, evalA e p.2)) = ps.toList.map fun p => (p.1, evalA e' p.2) := parts_congrA fun x hx => h x (by simpa [Op.operands] using hx)
    simp only [wgoP, astep, apure, amem, h1]; exact id
  | store t x y => have h1 := h x (by simp [Op.operands]); have h2 := h y (by simp [Op.operands]); simp only [wgoP, astep, apure, amem, h1, h2]; exact id
  | binOp op t x y yt => have h1 := h x (by simp [Op.operands]); have h2 := h y (by simp [Op.operands]); simp only [wgoP, astep, apure, amem, h1, h2]; exact id
  | makeSlice t x y => have h1 := h x (by simp [Op.operands]); have h2 := h y (by simp [Op.operands]); simp only [wgoP, astep, apure, amem, h1, h2]; exact id
  | indexAddr t x y => have h1 := h x (by simp [Op.operands]); have h2 := h y (by simp [Op.operands]); simp only [wgoP, astep, apure, amem, h1, h2]; exact id
  | index t x y => have h1 := h x (by simp [Op.operands]); have h2 := h y (by simp [Op.operands]); simp only [wgoP, astep, apure, amem, h1, h2]; exact id
  | lookup t x y ok => have h1 := h x (by simp [Op.operands]); have h2 := h y (by simp [Op.operands]); simp only [wgoP, astep, apure, amem, h1, h2]; exact id
  | makeFunc fn as bs =>
    have h1 : as.toList.map (evalA e) = as.toList.map (evalA e') := map_congrA fun x hx => h x (by simp [Op.operands] at hx ⊢; exact .inl hx)
    have h2 : bs.toList.map (evalA e) = bs.toList.map (evalA e') := map_congrA fun x hx => h x (by simp [Op.operands] at hx ⊢; exact .inr hx)
    cases fn <;> (simp only [wgoP, astep, apure, amem, h1, h2]; exact id)
  | slice t x lo hi mx =>
    have h1 := h x (by simp [Op.operands])
    have h2 : lo.map (evalA e) = lo.map (evalA e') := opt_congrA fun y hy => h y (by simp [Op.operands] at hy ⊢; simp [hy])
    have h3 : hi.map (evalA e) = hi.map (evalA e') := opt_congrA fun y hy => h y (by simp [Op.operands] at hy ⊢; simp [hy])
    cases mx <;> (simp only [wgoP, astep, apure, amem, h1, h2, h3]; exact id)
  | mapUpdate t m k v => have h1 := h m (by simp [Op.operands]); have h2 := h k (by simp [Op.operands]); have h3 := h v (by simp [Op.operands]); simp only [wgoP, astep, apure, amem, h1, h2, h3]; exact id
  | insert t m k v => have h1 := h m (by simp [Op.operands]); have h2 := h k (by simp [Op.operands]); have h3 := h v (by simp [Op.operands]); simp only [wgoP, astep, apure, amem, h1, h2, h3]; exact id
  | makeMap t r => cases r <;> (simp only [wgoP, astep, apure, amem]; exact id)
  | makeInterface t x => have h1 := h x (by simp [Op.operands]); simp only [wgoP, astep, apure, amem, h1]; exact id
  | typeAssert x t want ok => have h1 := h x (by simp [Op.operands]); cases ok <;> (simp only [wgoP, astep, apure, amem, h1]; exact id)
  | _ => simp only [wgoP, astep, apure, amem]; exact id

/-- An operation that leaves the memory as it is, and what it gives. -/
def pval (P : Program) (ops : Array Oper) (o : Oper) (e : Env) (H : AHeap) (v : AVal) : Prop :=
  match guardOk ops o e with
  | some true => ∀ K : AVal → AHeap → Prop, K v H → wgoP P o.op e H K
  | some false => v = .tuple []
  | none => False
theorem pval_wopP {ops : Array Oper} {o : Oper} {e : Env} {H : AHeap} {v : AVal} (h : pval P ops o e H v) {K : Env → AHeap → Prop} (hk : K (put? e o.dst v) H) : wopP P ops o e H K := by
  unfold pval at h
  cases hg : guardOk ops o e with
  | none => rw [hg] at h; exact h.elim
  | some g =>
    rw [hg] at h
    refine wopP_of_guard hg ?_
    cases g with
    | true => rw [if_pos rfl]; exact h _ hk
    | false => rw [if_neg (by simp)]; rw [← show v = .tuple [] from h]; exact hk
theorem evalA_looks {ops : Array Oper} {o : Oper} {e e' : Env} (h : ∀ t ∈ o.looksAt ops, e t = e' t) : ∀ x ∈ o.op.operands, evalA e x = evalA e' x := by
  intro x hx
  cases x with
  | tmp t =>
    refine h t ?_
    unfold Oper.looksAt
    refine List.mem_append.2 (.inl (List.mem_filterMap.2 ⟨.tmp t, by simpa using hx, rfl⟩))
  | _ => rfl
theorem guard_looks {ops : Array Oper} {o : Oper} {e e' : Env} (h : ∀ t ∈ o.looksAt ops, e t = e' t) : guardOk ops o e = guardOk ops o e' := by
  unfold guardOk
  cases hg : o.guard with
  | none => rfl
  | some g =>
    obtain ⟨j, want⟩ := g
    dsimp only
    cases hs : gslot ops j with
    | none => rfl
    | some t =>
      have : e t = e' t := h t (by
        unfold Oper.looksAt
        rw [hg]
        refine List.mem_append.2 (.inr ?_)
        unfold gslot at hs
        dsimp only
        rw [hs]; simp)
      dsimp only
      rw [this]
theorem pval_congr {ops : Array Oper} {o : Oper} {e e' : Env} {H : AHeap} {v : AVal} (h : ∀ t ∈ o.looksAt ops, e t = e' t) (hp : pval P ops o e H v) : pval P ops o e' H v := by
  unfold pval at *
  rw [← guard_looks h]
  split at hp
  · exact fun K hk => wgoP_congr (evalA_looks h) (hp K hk)
  · exact hp
  · exact hp
/-- A run of operations one after the other. -/
inductive PRun (P : Program) (ops : Array Oper) (H : AHeap) : List Oper → Env → Env → List AVal → Prop
  | nil {e : Env} : PRun P ops H [] e e []
  | cons {o : Oper} {os : List Oper} {e eF : Env} {v : AVal} {vs : List AVal} : pval P ops o e H v → PRun P ops H os (put? e o.dst v) eF vs → PRun P ops H (o :: os) e eF (v :: vs)
/-- Which operations write other temporaries, wait for none behind them, and wait for all that they look at. -/
def pureOps (N : Nat) (ops : Array Oper) : Bool :=
  (List.range ops.size).all fun i => match ops[i]? with
    | none => false
    | some o => okOper N o && o.after.all (fun ed => !Region.binds .any ed || Nat.blt ed.on i) && (List.range ops.size).all (fun j => match ops[j]? with
      | none => false
      | some p => match p.dst with
        | none => true
        | some d => (j == i || o.dst != some d) && (!(o.looksAt ops).contains d || o.after.any fun ed => Region.binds .any ed && ed.on == j))
structure PureOps (N : Nat) (ops : Array Oper) : Prop where
  ok : ∀ (i : Nat) (o : Oper), ops[i]? = some o → okOper N o = true
  lt : ∀ (i : Nat) (o : Oper), ops[i]? = some o → ∀ ed ∈ o.after, Region.binds .any ed = true → ed.on < i
  inj : ∀ (i j : Nat) (o p : Oper) (d : Tmp), ops[i]? = some o → ops[j]? = some p → o.dst = some d → p.dst = some d → i = j
  dep : ∀ (i j : Nat) (o p : Oper) (d : Tmp), ops[i]? = some o → ops[j]? = some p → p.dst = some d → d ∈ o.looksAt ops → ∃ ed ∈ o.after, Region.binds .any ed = true ∧ ed.on = j
theorem pureOps_spec {ops : Array Oper} (h : pureOps N ops = true) : PureOps N ops := by
  unfold pureOps at h
  rw [List.all_eq_true] at h
  have key : ∀ (i : Nat) (o : Oper), ops[i]? = some o → okOper N o = true ∧ (∀ ed ∈ o.after, Region.binds .any ed = true → ed.on < i) ∧ ∀ (j : Nat) (p : Oper) (d : Tmp), ops[j]? = some p → p.dst = some d → (j = i ∨ o.dst ≠ some d) ∧ (d ∈ o.looksAt ops → ∃ ed ∈ o.after, Region.binds .any ed = true ∧ ed.on = j) := by
    intro i o hi
    have h1 := h i (by rw [List.mem_range]; exact (Array.getElem?_eq_some_iff.1 hi).1)
    rw [hi] at h1
    simp only [Bool.and_eq_true] at h1
    obtain ⟨⟨h1, h2⟩, h3⟩ := h1
    refine ⟨h1, fun ed he hb => ?_, fun j p d hj hd => ?_⟩
    · have := Array.all_eq_true_iff_forall_mem.1 h2 ed he
      rw [hb] at this
      simp only [Bool.not_true, Bool.false_or] at this
      exact Nat.le_of_ble_eq_true this
    · rw [List.all_eq_true] at h3
      have := h3 j (by rw [List.mem_range]; exact (Array.getElem?_eq_some_iff.1 hj).1)
      rw [hj] at this
      dsimp only at this
      rw [hd] at this
      simp only [Bool.and_eq_true, Bool.or_eq_true, beq_iff_eq, bne_iff_ne, ne_eq, Bool.not_eq_true'] at this
      refine ⟨this.1, fun hm => ?_⟩
      rcases this.2 with h4 | h4
      · have : (o.looksAt ops).contains d = true := by simpa using hm
        rw [h4] at this; cases this
      · obtain ⟨ed, he, hb⟩ := Array.any_eq_true'.1 h4
        simp only [Bool.and_eq_true, beq_iff_eq] at hb
        exact ⟨ed, he, hb⟩
  refine ⟨fun i o hi => (key i o hi).1, fun i o hi => (key i o hi).2.1, fun i j o p d hi hj ho hp => ?_, fun i j o p d hi hj hd hm => ((key i o hi).2.2 j p d hj hd).2 hm⟩
  rcases ((key i o hi).2.2 j p d hj hp).1 with h1 | h1
  · exact h1.symm
  · exact absurd ho h1
/-- The environment once some operations have come up. -/
def EnvAt (ops : Array Oper) (val : Nat → AVal) (e0 : Env) (L : Nat → Bool) (e : Env) : Prop :=
  ∀ t, (∀ i o, ops[i]? = some o → L i = true → o.dst = some t → e t = val i) ∧ ((∀ i o, ops[i]? = some o → L i = true → o.dst ≠ some t) → e t = e0 t)
theorem EnvAt.unique {ops : Array Oper} {val : Nat → AVal} {e0 e e' : Env} {L : Nat → Bool} (h : EnvAt ops val e0 L e) (h' : EnvAt ops val e0 L e') : e = e' := by
  funext t
  by_cases hx : ∃ i o, ops[i]? = some o ∧ L i = true ∧ o.dst = some t
  · obtain ⟨i, o, h1, h2, h3⟩ := hx
    rw [(h t).1 i o h1 h2 h3, (h' t).1 i o h1 h2 h3]
  · have hn : ∀ i o, ops[i]? = some o → L i = true → o.dst ≠ some t := fun i o h1 h2 h3 => hx ⟨i, o, h1, h2, h3⟩
    rw [(h t).2 hn, (h' t).2 hn]
theorem EnvAt.put {ops : Array Oper} (hp : PureOps N ops) {val : Nat → AVal} {e0 e : Env} {L L' : Nat → Bool} {i : Nat} {o : Oper} (h : EnvAt ops val e0 L e) (hi : ops[i]? = some o) (hL : ∀ j, L' j = (L j || j == i)) : EnvAt ops val e0 L' (put? e o.dst (val i)) := by
  intro t
  cases hd : o.dst with
  | none =>
    refine ⟨fun j p hj hl hpd => ?_, fun hn => (h t).2 fun j p hj hl => hn j p hj (by rw [hL, hl]; rfl)⟩
    rw [hL] at hl
    rcases Bool.or_eq_true_iff.1 hl with h1 | h1
    · exact (h t).1 j p hj h1 hpd
    · have : j = i := by simpa using h1
      subst this
      rw [hi] at hj; cases hj
      rw [hd] at hpd; cases hpd
  | some d =>
    by_cases ht : t = d
    · subst ht
      have he : put? e (some t) (val i) t = val i := by simp [put?, upd]
      refine ⟨fun j p hj hl hpd => ?_, fun hn => absurd hd (hn i o hi (by rw [hL]; simp))⟩
      rw [he, hp.inj i j o p t hi hj hd hpd]
    · have he : put? e (some d) (val i) t = e t := by simp [put?, upd, ht]
      rw [he]
      refine ⟨fun j p hj hl hpd => ?_, fun hn => (h t).2 fun j p hj hl => hn j p hj (by rw [hL, hl]; rfl)⟩
      rw [hL] at hl
      rcases Bool.or_eq_true_iff.1 hl with h1 | h1
      · exact (h t).1 j p hj h1 hpd
      · have : j = i := by simpa using h1
        subst this
        rw [hi] at hj; cases hj
        rw [hd] at hpd; cases hpd
        exact absurd rfl ht
/-- What the run in the order of the text tells. -/
theorem PRun.spec {ops : Array Oper} (hp : PureOps N ops) {H : AHeap} {e0 : Env} (val : Nat → AVal) : ∀ (os : List Oper) (k : Nat) (e eF : Env) (vs : List AVal), PRun P ops H os e eF vs → os = ops.toList.drop k → (∀ j v, vs[j]? = some v → val (k + j) = v) → EnvAt ops val e0 (fun i => decide (i < k)) e →
    EnvAt ops val e0 (fun i => decide (i < ops.size)) eF ∧ ∀ i o, k ≤ i → ops[i]? = some o → ∃ e', EnvAt ops val e0 (fun j => decide (j < i)) e' ∧ pval P ops o e' H (val i)
  | [], k, e, eF, vs, h, hos, hv, hE => by
    cases h
    have hk : ops.size ≤ k := by
      have := congrArg List.length hos
      simp at this; omega
    refine ⟨fun t => ⟨fun i o hi hl hd => (hE t).1 i o hi (by have := (Array.getElem?_eq_some_iff.1 hi).1; simp; omega) hd, fun hn => (hE t).2 fun i o hi hl => hn i o hi (by have := (Array.getElem?_eq_some_iff.1 hi).1; simp; omega)⟩, fun i o hki hi => ?_⟩
    have := (Array.getElem?_eq_some_iff.1 hi).1
    omega
  | o :: os, k, e, eF, vs, h, hos, hv, hE => by
    cases h with
    | cons hpv hrun =>
      rename_i v vs
      have hk : ops[k]? = some o := by
        have := congrArg (fun l => l[0]?) hos
        simpa [List.getElem?_drop] using this.symm
      have hvk : val k = v := by have := hv 0 v rfl; simpa using this
      have hE' := EnvAt.put (L' := fun i => decide (i < k + 1)) hp hE hk (fun j => by
        rw [Bool.eq_iff_iff]
        simp only [decide_eq_true_eq, Bool.or_eq_true, beq_iff_eq]
        omega)
      rw [hvk] at hE'
      have hdrop : os = ops.toList.drop (k + 1) := by
        have := congrArg List.tail hos
        simpa using this
      obtain ⟨g1, g2⟩ := PRun.spec hp val os (k + 1) _ eF vs hrun hdrop (fun j u hu => by have := hv (j + 1) u (by simpa using hu); rwa [show k + 1 + j = k + (j + 1) by omega]) hE'
      refine ⟨g1, fun i p hki hi => ?_⟩
      rcases Nat.lt_or_ge k i with h1 | h1
      · exact g2 i p h1 hi
      · obtain rfl : i = k := by omega
        rw [hk] at hi; cases hi
        exact ⟨e, hE, by rw [hvk]; exact hpv⟩
theorem getD_setB {L : Array Bool} {i j : Nat} (hi : i < L.size) : (L.setIfInBounds i true).getD j false = (L.getD j false || j == i) := by
  by_cases h : i = j
  · subst h; simp [hi]
  · rw [getD_set_ne false h]
    have : (j == i) = false := by simp [Ne.symm h]
    rw [this, Bool.or_false]
theorem AnyW.pure {ops : Array Oper} (hp : PureOps N ops) {H : AHeap} {e0 eF : Env} (val : Nat → AVal) (hF : EnvAt ops val e0 (fun i => decide (i < ops.size)) eF) (hval : ∀ i o, ops[i]? = some o → ∃ e', EnvAt ops val e0 (fun j => decide (j < i)) e' ∧ pval P ops o e' H (val i)) {K : Env → AHeap → Prop} (hK : K eF H) :
    ∀ (fuel : Nat) (L : Array Bool) (e : Env), L.size = ops.size → EnvAt ops val e0 (fun i => L.getD i false) e → (L.toList.countP (· == false)) ≤ fuel → AnyW P N ops [] [] fuel L e H K := by
  intro fuel
  have done : ∀ (L : Array Bool) (e : Env) (fuel : Nat), L.size = ops.size → EnvAt ops val e0 (fun i => L.getD i false) e → Region.ready .any ops L = [] → AnyW P N ops [] [] fuel L e H K := by
    intro L e fuel hs hE hr
    have all : ∀ i, i < ops.size → L.getD i false = true := by
      intro i
      induction i using Nat.strongRecOn with
      | _ i ih =>
        intro hi
        cases hl : L.getD i false with
        | true => rfl
        | false =>
          exfalso
          have hm : i ∈ Region.ready .any ops L := by
            rw [mem_ready]
            refine ⟨?_, ops[i], Array.getElem?_eq_getElem hi, fun ed he hb => ?_⟩
            · have hiL : i < L.size := by omega
              simpa [hiL] using hl
            · have := hp.lt i _ (Array.getElem?_eq_getElem hi) ed he hb
              exact ih ed.on this (by omega)
          rw [hr] at hm; cases hm
    have : e = eF := EnvAt.unique (L := fun i => decide (i < ops.size)) (fun t => ⟨fun i o hi hl hd => (hE t).1 i o hi (all i (Array.getElem?_eq_some_iff.1 hi).1) hd, fun hn => (hE t).2 fun i o hi hl => hn i o hi (by have := (Array.getElem?_eq_some_iff.1 hi).1; simpa using this)⟩) hF
    subst this
    exact AnyW.done hr hK
  induction fuel with
  | zero =>
    intro L e hs hE hc
    refine done L e 0 hs hE ?_
    cases hr : Region.ready .any ops L with
    | nil => rfl
    | cons r rs =>
      exfalso
      have hm : r ∈ Region.ready .any ops L := by rw [hr]; exact List.mem_cons_self ..
      obtain ⟨h1, o, ho, _⟩ := mem_ready.1 hm
      have hr : r < L.size := by have := (Array.getElem?_eq_some_iff.1 ho).1; omega
      have : 0 < L.toList.countP (· == false) := List.countP_pos_iff.2 ⟨L[r], by simp, by simpa [hr] using h1⟩
      omega
  | succ fuel ih =>
    intro L e hs hE hc
    cases hr : Region.ready .any ops L with
    | nil => exact done L e _ hs hE hr
    | cons r rs =>
      refine AnyW.all (r :: rs) hr (by simp) fun i hi => ?_
      have hm : i ∈ Region.ready .any ops L := by rw [hr]; exact hi
      obtain ⟨h1, o, ho, hd⟩ := mem_ready.1 hm
      have hiL : i < L.size := by have := (Array.getElem?_eq_some_iff.1 ho).1; omega
      have h1' : L.getD i false = false := by simpa [hiL] using h1
      obtain ⟨e', hE', hpv⟩ := hval i o ho
      refine ⟨o, ho, hp.ok i o ho, pval_wopP (pval_congr (e := e') (fun t ht => ?_) hpv) ⟨(fun _ j hj => nomatch hj), ih _ _ (by simp [hs]) (EnvAt.put hp hE ho fun j => getD_setB hiL) ?_⟩⟩
      · by_cases hx : ∃ (j : Nat) (p : Oper), ops[j]? = some p ∧ p.dst = some t
        · obtain ⟨j, p, hj, hpd⟩ := hx
          obtain ⟨ed, hed, hb, rfl⟩ := hp.dep i j o p t ho hj hpd ht
          rw [(hE' t).1 _ p hj (by have := hp.lt i o ho ed hed hb; simpa using this) hpd, (hE t).1 _ p hj (hd ed hed hb) hpd]
        · have hn : ∀ (j : Nat) (p : Oper), ops[j]? = some p → p.dst ≠ some t := fun j p h1 h2 => hx ⟨j, p, h1, h2⟩
          rw [(hE' t).2 fun j p hj _ => hn j p hj, (hE t).2 fun j p hj _ => hn j p hj]
      · have : (L.setIfInBounds i true).toList.countP (· == false) + 1 = L.toList.countP (· == false) := by
          rw [Array.toList_setIfInBounds]
          have hlt : i < L.toList.length := by simpa using hiL
          have := List.countP_set (p := (· == false)) (l := L.toList) (a := true) hlt
          have hLi : L.toList[i] = false := by simpa [hiL] using h1'
          rw [this, if_pos (by rw [hLi]; rfl), if_neg (by simp)]
          have hpos : 0 < L.toList.countP (· == false) := List.countP_pos_iff.2 ⟨L.toList[i], List.getElem_mem hlt, by rw [hLi]; rfl⟩
          omega
        omega
theorem CodeS.drawPure {id : Nat} {ops : Array Oper} {e : Env} {H : AHeap} {K : Exit → Env → AHeap → Prop} (hm : P.follows .mixedOrders = true) (hok : (okOps N ops && pureOps N ops) = true) (h : ∃ eF vs, PRun P ops H ops.toList e eF vs ∧ K .normal eF H) : CodeS P N ρ n0 (.region id ops true) e H K := by
  simp only [Bool.and_eq_true] at hok
  obtain ⟨eF, vs, hr, hK⟩ := h
  have hp := pureOps_spec hok.2
  obtain ⟨g1, g2⟩ := PRun.spec hp (e0 := e) (fun i => vs.getD i .undef) ops.toList 0 e eF vs hr rfl (fun j v hv => by simp [List.getD_eq_getElem?_getD, hv]) (fun t => ⟨fun i o hi hl hd => by simp at hl, fun _ => rfl⟩)
  refine ⟨CW.within (CW.draw [] [] hm hok.1 (fun i hi => nomatch hi) (AnyW.pure hp _ g1 (fun i o hi => g2 i o (Nat.zero_le _) hi) hK ops.size _ e (by simp) (fun t => ⟨fun i o hi hl hd => ?_, fun _ => rfl⟩) ?_))⟩
  · exfalso
    have := (Array.getElem?_eq_some_iff.1 hi).1
    simp [this] at hl
  · simp [List.countP_replicate]

/-! ### The run over symbols -/
/-- A call of a function that leaves the memory as it is. -/
structure CallV (P : Program) (fv : AVal) (args : List AVal) (H : AHeap) (k : AVal → Prop) : Prop where
  call : ∃ r, wcallP P fv args H (fun v H' => H' = H ∧ v = r) ∧ k r
theorem CallV.of {f : FuncId} {as bs args l : List AVal} {H : AHeap} {r : AVal} {k : AVal → Prop} (hb : hasBody P f = true) (h : CallW P f l H fun v H' => H' = H ∧ v = r) (hl : as ++ args ++ bs = l) (hk : k r) : CallV P (.func f as bs) args H k :=
  ⟨r, ⟨hb, hl ▸ h⟩, hk⟩
noncomputable def spv (P : Program) (op : Op) (e : Env) (H : AHeap) (k : AVal → Prop) : Prop :=
  match op with
  | .call ⟨.value f, args, _⟩ => seqV (evalA e f) fun f => seqL (args.toList.map (evalA e)) fun args => CallV P f args H k
  | .call ⟨.builtin b, args, ts⟩ => seqL (args.toList.map (evalA e)) fun l => Gets (apureB P b ts.toList l) k
  | .load t x => seqV (evalA e x) fun x => Gets (loadA P H t x) k
  | .lookup t x ix ok => seqV (evalA e x) fun x => seqV (evalA e ix) fun ix => Gets (alookup P H t x ix ok) k
  | .convert s d x => seqV (evalA e x) fun x => Gets (aconv P s d x) k
  | op => match pureKind op with
    | true => sgo P op e H fun v _ => k v
    | false => False
theorem spv_sound {op : Op} {e : Env} {H : AHeap} {k : AVal → Prop} (h : spv P op e H k) : ∃ v, (∀ K : AVal → AHeap → Prop, K v H → wgoP P op e H K) ∧ k v := by
  have go : ∀ {o : Op} {v : AVal}, (∀ f args ts, o ≠ .call ⟨.value f, args, ts⟩) → astep P o e H = some (v, H) → ∀ K : AVal → AHeap → Prop, K v H → wgoP P o e H K := by
    intro o v hno hst K hK
    unfold wgoP
    split
    · exact absurd rfl (hno _ _ _)
    · rw [hst]; exact hK
  unfold spv at h
  split at h
  · rename_i f args ts
    rw [seqV_eq, seqL_eq] at h
    obtain ⟨r, h1, h2⟩ := h.call
    exact ⟨r, fun K hK => wcallP_mono h1 fun v H' hv => by obtain ⟨rfl, rfl⟩ := hv; exact hK, h2⟩
  · rename_i b args ts
    rw [seqL_eq] at h
    obtain ⟨v, hv, hk⟩ := h.got
    exact ⟨v, go (fun _ _ _ he => by cases he) (by simp only [astep, apure, hv]), hk⟩
  · rename_i t x
    rw [seqV_eq] at h
    obtain ⟨v, hv, hk⟩ := h.got
    refine ⟨v, go (fun _ _ _ he => by cases he) ?_, hk⟩
    simp only [astep, apure, amem]
    unfold loadA at hv
    split at hv
    · rename_i hx ht; rw [hx, ht]; simp only [hv, Option.map_some]
    · rename_i hx ht; rw [hx, ht]; simp only [hv, Option.map_some]
    · cases hv
  · rename_i t x ix ok
    rw [seqV_eq, seqV_eq] at h
    obtain ⟨v, hv, hk⟩ := h.got
    exact ⟨v, go (fun _ _ _ he => by cases he) (by simp only [astep, apure, amem, hv, Option.map_some]), hk⟩
  · rename_i s d x
    rw [seqV_eq] at h
    obtain ⟨v, hv, hk⟩ := h.got
    exact ⟨v, go (fun _ _ _ he => by cases he) (by simp only [astep, apure, hv]), hk⟩
  · rename_i hno hb hl hlo hcv
    split at h
    · rename_i hp
      rcases sgo_go h with ⟨f, args, ts, ho, hc⟩ | ⟨v, H', hst, hk⟩
      · exact absurd ho (hno f args ts)
      · have hst' := astep_pure hp (fun b args ts he => hb b args ts he) (fun s d x he => hcv s d x he) hst
        exact ⟨v, go hno (by simp only [astep, hst']), hk⟩
    · exact h.elim
noncomputable def spvG (P : Program) (ops : Array Oper) (o : Oper) (e : Env) (H : AHeap) (k : AVal → Prop) : Prop :=
  match o.guard with
  | none => spv P o.op e H k
  | some (j, want) => match gslot ops j with
    | some t => match e t with
      | .bool b => fork (b == want) (spv P o.op e H k) (k (.tuple []))
      | .tuple _ => k (.tuple [])
      | _ => False
    | none => False
theorem spvG_sound {ops : Array Oper} {o : Oper} {e : Env} {H : AHeap} {k : AVal → Prop} (h : spvG P ops o e H k) : ∃ v, pval P ops o e H v ∧ k v := by
  rcases hgd : o.guard with _ | ⟨j, want⟩
  · simp only [spvG, hgd] at h
    obtain ⟨v, h1, h2⟩ := spv_sound h
    exact ⟨v, by unfold pval; simp only [guardOk, hgd]; exact h1, h2⟩
  · simp only [spvG, hgd] at h
    split at h
    · rename_i t ht
      split at h
      · rename_i b hb
        have h := fork_iff.1 h
        have hg : guardOk ops o e = some (b == want) := by simp only [guardOk, hgd, ht, hb]
        cases hbw : (b == want) with
        | true =>
          rw [hbw] at h hg
          obtain ⟨v, h1, h2⟩ := spv_sound (by simpa using h)
          exact ⟨v, by unfold pval; simp only [hg]; exact h1, h2⟩
        | false =>
          rw [hbw] at h hg
          exact ⟨.tuple [], by unfold pval; simp only [hg], by simpa using h⟩
      · rename_i l hb
        have hg : guardOk ops o e = some false := by simp only [guardOk, hgd, ht, hb]
        exact ⟨.tuple [], by unfold pval; simp only [hg], h⟩
      · exact h.elim
    · exact h.elim
noncomputable def spures (P : Program) (ops : Array Oper) (os : List Oper) : Env → AHeap → (Env → Prop) → Prop :=
  List.rec (motive := fun _ => Env → AHeap → (Env → Prop) → Prop) (fun e H K => K e) (fun o _ r e H K => spvG P ops o e H fun v => putK e o.dst v fun e => r e H K) os
theorem spures_sound {ops : Array Oper} {H : AHeap} {K : Env → Prop} : ∀ (os : List Oper) (e : Env), spures P ops os e H K → ∃ eF vs, PRun P ops H os e eF vs ∧ K eF
  | [], e, h => ⟨e, [], .nil, h⟩
  | o :: os, e, h => by
    obtain ⟨v, h1, h2⟩ := spvG_sound (show spvG P ops o e H (fun v => putK e o.dst v fun e => spures P ops os e H K) from h)
    rw [putK_eq] at h2
    obtain ⟨eF, vs, h3, h4⟩ := spures_sound os _ h2
    exact ⟨eF, v :: vs, .cons h1 h3, h4⟩
/-- **A statement whose order is open, all of whose operations leave the memory as it is.** -/
theorem CodeS.drawP {id : Nat} {ops : Array Oper} {e : Env} {H : AHeap} {K : Exit → Env → AHeap → Prop} (hm : P.follows .mixedOrders = true) (hok : (okOps N ops && pureOps N ops) = true) (h : spures P ops ops.toList e H fun e => K .normal e H) : CodeS P N ρ n0 (.region id ops true) e H K :=
  CodeS.drawPure hm hok (spures_sound _ _ h)
end Go.Vk

/- What a claim reads of an argument, as rows. -/
set_option linter.unusedVariables false
set_option linter.unusedSimpArgs false
namespace Go.Vk
open Go.Vh
variable {P : Program} {HH : Type} {enc : TypeId × Value → HH}

def zAll (w : World) : ZMap := fun k => match w.heap[k]? with
  | some (.cells a e f) => some (.cells a e f)
  | _ => none
theorem zAll_ok {w : World} : ∀ k o, zAll w k = some o → w.heap[k]? = some o ∧ ∃ arr el fr, o = .cells arr el fr := by
  intro k o h
  unfold zAll at h
  split at h
  · rename_i a e f hw; cases h; exact ⟨hw, _, _, _, rfl⟩
  · cases h
theorem zAll_of {w : World} {k : Nat} {a : Array Value} {e : TypeId} {f : Nat × Nat} (h : w.heap[k]? = some (.cells a e f)) : zAll w k = some (.cells a e f) := by
  unfold zAll; rw [h]
/-- What a value of a type looks like. -/
def RShape (P : Program) : Nat → TypeId → List AVal → Prop
  | 0, _, _ => False
  | n + 1, t, avs => match P.underlying t with
    | some (.int k) => ∃ m, avs = [.int k m] ∧ (Lit.int k m).wf = true
    | some .bool => ∃ b, avs = [.bool b]
    | some .string => ∃ s : ByteArray, avs = [.str s] ∧ s.size ≤ maxLen
    | some (.slice e) => ∃ len cells, avs = [.row len cells] ∧ cells.length = len * P.cellsOf e ∧ (len ≤ maxLen ∧ len * P.bytesOf e ≤ reachBytes) ∧ ∀ j, j < len → RShape P n e ((cells.drop (j * P.cellsOf e)).take (P.cellsOf e))
    | some (.struct fs) => avs.length = P.cellsOf t ∧ ∀ (i : Nat) (f : Field), fs[i]? = some f → RShape P n f.type ((avs.drop f.offset).take (P.cellsOf f.type))
    | _ => False
theorem ZRels_append {z : ZMap} : ∀ {vs us : List AVal} {cs ds : List Value}, ZRels z vs cs → ZRels z us ds → ZRels z (vs ++ us) (cs ++ ds)
  | [], us, cs, ds, h, h' => by rw [show cs = [] from h]; exact h'
  | v :: vs, us, cs, ds, h, h' => by
    simp only [ZRels] at h
    obtain ⟨c, cs', rfl, h1, h2⟩ := h
    exact ⟨c, cs' ++ ds, rfl, h1, ZRels_append h2 h'⟩
def OpensR (P : Program) (w : World) (n : Nat) (t : TypeId) (cs : List Value) : Prop := ∃ avs, ZRels (zAll w) avs cs ∧ RShape P n t avs
theorem open_elemsR {w : World} {n : Nat} {e : TypeId} {es : Nat} (a : Addr) (len : Nat) (h : ∀ j, j < len → ∃ cs, w.cells? 0 (a.add (j * es)) es = some cs ∧ OpensR P w n e cs) :
    ∃ (cells : List AVal) (l : List Value), ZRels (zAll w) cells l ∧ cells.length = len * es ∧ (∀ (q : Nat) c, l[q]? = some c → w.cell? (a.add q) = some c) ∧ ∀ j, j < len → RShape P n e ((cells.drop (j * es)).take es) := by
  induction len with
  | zero => exact ⟨[], [], by simp [ZRels], by simp, by simp, fun j hj => absurd hj (Nat.not_lt_zero j)⟩
  | succ len ih =>
    obtain ⟨cells, l, h1, h2, h3, h4⟩ := ih (fun j hj => h j (Nat.lt_succ_of_lt hj))
    obtain ⟨cs, hcs, avs, g1, g2⟩ := h len (Nat.lt_succ_self len)
    obtain ⟨hl, hc⟩ := cells_get hcs
    have hal : avs.length = es := by rw [← ZRels_length g1]; exact hl
    have hll := ZRels_length h1
    refine ⟨cells ++ avs, l ++ cs, ZRels_append h1 g1, by rw [List.length_append, h2, hal, Nat.succ_mul], fun q c hq => ?_, fun j hj => ?_⟩
    · rcases Nat.lt_or_ge q l.length with hlt | hge
      · rw [List.getElem?_append_left hlt] at hq
        exact h3 q c hq
      · rw [List.getElem?_append_right hge] at hq
        have hq' : q - l.length < es := by have := (List.getElem?_eq_some_iff.1 hq).1; omega
        have := hc _ hq'
        rw [hq] at this
        rw [← this]
        congr 1
        show a.add q = (a.add (len * es)).add (q - l.length)
        rw [add_add']
        congr 1
        omega
    · rcases Nat.lt_succ_iff_lt_or_eq.1 hj with hj | rfl
      · have hb : j * es + es ≤ cells.length := by
          rw [h2, ← Nat.succ_mul]; exact Nat.mul_le_mul_right _ hj
        have : ((cells ++ avs).drop (j * es)).take es = (cells.drop (j * es)).take es := by
          rw [List.drop_append_of_le_length (by omega), List.take_append_of_le_length (by rw [List.length_drop]; omega)]
        rw [this]
        exact h4 j hj
      · have : ((cells ++ avs).drop (j * es)).take es = avs := by
          rw [← h2, List.drop_left, List.take_of_length_le (by omega)]
        rw [this]
        exact g2
theorem open_fieldsR {w : World} {n : Nat} (ok : TypeId → Bool) (cs : List Value) : ∀ (fs : List Field) (k z : Nat), fieldsT P ok fs k z = true → cs.length = z → (∀ f ∈ fs, OpensR P w n f.type ((cs.drop f.offset).take (P.cellsOf f.type))) →
    ∃ avs : List AVal, ZRels (zAll w) avs (cs.drop k) ∧ ∀ f ∈ fs, k ≤ f.offset ∧ RShape P n f.type ((avs.drop (f.offset - k)).take (P.cellsOf f.type))
  | [], k, z, hf, hz, _ => by
    simp only [fieldsT, beq_iff_eq] at hf
    refine ⟨[], ?_, fun f h => by cases h⟩
    show cs.drop k = []
    rw [List.drop_eq_nil_iff]
    omega
  | f :: fs, k, z, hf, hz, h => by
    simp only [fieldsT, Bool.and_eq_true, beq_iff_eq] at hf
    obtain ⟨⟨hfo, hfk⟩, hfs⟩ := hf
    obtain ⟨av1, h5, h6⟩ := h f (List.mem_cons_self ..)
    obtain ⟨av2, g5, g6⟩ := open_fieldsR ok cs fs (k + P.cellsOf f.type) z hfs hz (fun f' hf' => h f' (List.mem_cons_of_mem _ hf'))
    rw [hfo] at h5
    have hsum : ∀ (fs : List Field) (k z : Nat), fieldsT P ok fs k z = true → k ≤ z := by
      intro fs
      induction fs with
      | nil => intro k z h; simp only [fieldsT, beq_iff_eq] at h; omega
      | cons f fs ih =>
        intro k z h
        simp only [fieldsT, Bool.and_eq_true, beq_iff_eq] at h
        have := ih _ _ h.2
        omega
    have hle := hsum _ _ _ hfs
    have hl1 : av1.length = P.cellsOf f.type := by
      rw [← ZRels_length h5, List.length_take, List.length_drop]; omega
    refine ⟨av1 ++ av2, ?_, fun f' hf' => ?_⟩
    · have e : cs.drop k = (cs.drop k).take (P.cellsOf f.type) ++ cs.drop (k + P.cellsOf f.type) := by
        rw [← List.drop_drop, List.take_append_drop]
      rw [e]
      exact ZRels_append h5 g5
    · rcases List.mem_cons.1 hf' with rfl | hm
      · refine ⟨by omega, ?_⟩
        rw [hfo, Nat.sub_self, List.drop_zero, List.take_append_of_le_length (by omega), List.take_of_length_le (by omega)]
        exact h6
      · obtain ⟨a1, a2⟩ := g6 f' hm
        refine ⟨by omega, ?_⟩
        have : (av1 ++ av2).drop (f'.offset - k) = av2.drop (f'.offset - (k + P.cellsOf f.type)) := by
          rw [List.drop_append, List.drop_eq_nil_of_le (by omega), List.nil_append]
          congr 1
          omega
        rw [this]
        exact a2
theorem open_valR {w : World} : ∀ (n : Nat) (t : TypeId) (cs : List Value) (fuel : Nat) (x : DataW HH × List MemPlace), okT P n t = true → DataW.trod enc P w 0 (fun _ => true) true fuel t cs = some x → (∀ m ∈ x.1.weights P t, m ≤ reachBytes) → OpensR P w n t cs
  | 0, t, cs, fuel, x, hok, _, _ => by cases hok
  | n + 1, t, cs, fuel, x, hok, h, hz => by
    unfold okT at hok
    split at hok
    · rename_i k hu
      obtain ⟨m, rfl, _, hw⟩ := DataW.trod_int hu h
      exact ⟨[.int k m], by simp [ZRels, ZRel], by unfold RShape; rw [hu]; exact ⟨m, rfl, hw⟩⟩
    · rename_i hu
      obtain ⟨b, rfl, _⟩ := DataW.trod_bool hu h
      exact ⟨[.bool b], by simp [ZRels, ZRel], by unfold RShape; rw [hu]; exact ⟨b, rfl⟩⟩
    · rename_i hu
      obtain ⟨s, rfl, _, hs⟩ := DataW.trod_string hu h
      exact ⟨[.str s], by simp [ZRels, ZRel], by unfold RShape; rw [hu]; exact ⟨s, rfl, hs⟩⟩
    · rename_i e hu
      simp only [Bool.and_eq_true, decide_eq_true_eq] at hok
      rcases DataW.trod_slice hu h with ⟨rfl, _⟩ | ⟨a, len, cap, elems, rest, m, _, rfl, hxe, _, hlc, hcm, hel, hcell, hsp, _⟩
      · refine ⟨[.row 0 []], by simp [ZRels, ZRel], ?_⟩
        unfold RShape
        rw [hu]
        exact ⟨0, [], rfl, by simp, ⟨Nat.zero_le _, by rw [Nat.zero_mul]; exact Nat.zero_le _⟩, fun j hj => absurd hj (Nat.not_lt_zero j)⟩
      · obtain ⟨hrl, hrest⟩ := hsp rfl
        have elem : ∀ j, j < len → ∃ cs', w.cells? 0 (a.add (j * P.cellsOf e)) (P.cellsOf e) = some cs' ∧ OpensR P w n e cs' := by
          intro j hj
          have := hcell j hj
          rw [List.getElem?_eq_getElem (by omega)] at this
          obtain ⟨cs', h1, h2⟩ := Option.bind_eq_some_iff.1 this
          exact ⟨cs', h1, open_valR n e cs' m _ hok.2 h2 fun q hq => hz q (by
            rw [hxe]
            simp only [DataW.weights, hu, List.mem_cons, List.mem_append]
            exact .inr (.inl (weightsAll_mem (List.mem_map.2 ⟨_, List.getElem_mem (by omega), rfl⟩) q hq)))⟩
        obtain ⟨cells, l, g1, g2, g3, g4⟩ := open_elemsR a len elem
        have hll := ZRels_length g1
        have spot : 0 < cap → a.spot = none := by
          intro hc
          have first : ∃ c, w.cell? a = some c := by
            rcases Nat.eq_zero_or_pos len with h0 | h0
            · have := hrest 0 (by omega)
              rw [List.getElem?_eq_getElem (by omega)] at this
              obtain ⟨cs', h1, _⟩ := Option.bind_eq_some_iff.1 this
              obtain ⟨hl, hc⟩ := cells_get h1
              have := hc 0 hok.1
              rw [h0] at this
              simp only [Nat.zero_add, Nat.zero_mul, add_add', Nat.add_zero] at this
              rw [List.getElem?_eq_getElem (by omega)] at this
              exact ⟨_, by simpa [Addr.add] using this⟩
            · obtain ⟨cs', h1, _⟩ := elem 0 h0
              obtain ⟨hl, hc⟩ := cells_get h1
              have := hc 0 hok.1
              simp only [Nat.zero_mul, add_add', Nat.add_zero] at this
              rw [List.getElem?_eq_getElem (by omega)] at this
              exact ⟨_, by simpa [Addr.add] using this⟩
          obtain ⟨c, hc⟩ := first
          unfold World.cell? at hc
          split at hc
          · split at hc
            · cases hc
            · rename_i hs; simpa using hs
          · cases hc
        have hzr : 0 < len → a.spot = none ∧ ∃ (arr : Array Value) (el : TypeId) (fr : Nat × Nat), zAll w a.block = some (.cells arr el fr) ∧ ∀ (j : Nat) c, l[j]? = some c → arr[a.off + j]? = some c := by
          intro hn
          have hpos : 0 < l.length := by
            rw [hll, g2]; exact Nat.mul_pos hn hok.1
          have h0 := g3 0 l[0] (List.getElem?_eq_getElem hpos)
          have ha0 : a.add 0 = a := by simp [Addr.add]
          rw [ha0] at h0
          unfold World.cell? at h0
          split at h0
          · rename_i arr el fr hw
            split at h0
            · cases h0
            · rename_i hs
              have hs : a.spot = none := by simpa using hs
              refine ⟨hs, arr, el, fr, zAll_of hw, fun j c hj => ?_⟩
              have := g3 j c hj
              rw [add_at' a j hs] at this
              unfold World.cell? at this
              simp only [hw] at this
              simpa using this
          · cases h0
        refine ⟨[.row len cells], ?_, ?_⟩
        · refine ⟨_, [], rfl, ?_, rfl⟩
          rw [ZRel]
          refine .inr ⟨cap, a, rfl, hlc, spot, fun hn => ?_⟩
          obtain ⟨h1, arr, el, fr, h2, h3⟩ := hzr hn
          exact ⟨arr, el, fr, l, h2, g1, h3⟩
        · unfold RShape
          rw [hu]
          have hbig : (elems.length + rest.length) * P.bytesOf e ≤ reachBytes := hz _ (by
            rw [hxe]
            simp only [DataW.weights, hu, List.length_map, List.mem_cons]
            exact .inl trivial)
          have hlb : len * P.bytesOf e ≤ reachBytes := Nat.le_trans (Nat.mul_le_mul_right _ (by omega)) hbig
          exact ⟨len, cells, rfl, g2, ⟨by omega, hlb⟩, fun j hj => g4 j hj⟩
    · rename_i fs hu
      obtain ⟨xs, m, _, hxe, hl, hxs, hf⟩ := DataW.trod_struct hu h
      obtain ⟨avs, g5, g6⟩ := open_fieldsR (n := n) (okT P n) cs fs.toList 0 (P.cellsOf t) hok hl (fun f hfm => by
        obtain ⟨i, hi⟩ := List.getElem?_of_mem hfm
        rw [Array.getElem?_toList] at hi
        have := hf i f hi
        have hlt : i < xs.length := by rw [hxs]; exact (Array.getElem?_eq_some_iff.1 hi).1
        rw [List.getElem?_eq_getElem hlt] at this
        exact open_valR n f.type _ m _ (fieldsT_mem _ _ _ hok f hfm) this fun q hq => hz q (by
          rw [hxe]
          simp only [DataW.weights, hu]
          exact DataW.weights_mem_each (j := i) (t := f.type) (by rw [List.getElem?_map, Array.getElem?_toList, hi]; rfl) (by rw [List.getElem?_map, List.getElem?_eq_getElem hlt]; rfl) q hq))
      refine ⟨avs, by simpa using g5, ?_⟩
      unfold RShape
      rw [hu]
      refine ⟨by rw [← ZRels_length g5, List.drop_zero]; exact hl, fun i f hi => ?_⟩
      have := (g6 f (by rw [← Array.getElem?_toList] at hi; exact List.mem_of_getElem? hi)).2
      rwa [Nat.sub_zero] at this
    · cases hok
theorem open_argR {w : World} {r : Reach} {b0 n fuel : Nat} {t : TypeId} {v : Value} {x : DataW HH × List MemPlace} (hok : okT P n t = true) (hval : Value.okWide P w r b0 t v) (h : DataW.trod enc P w 0 (fun _ => true) true fuel t v.cells.toList = some x) (hz : ∀ m ∈ x.1.weights P t, m ≤ reachBytes) :
    ∃ avs : List AVal, VRel (pm0 (zAll w)) (argOf P t avs) v ∧ RShape P n t avs := by
  obtain ⟨avs, h5, h6⟩ := open_valR n t _ fuel x hok h hz
  have h5 : VRels (pm0 (zAll w)) avs v.cells.toList := ZRels_rels (φ := pm0 (zAll w)) _ _ h5
  refine ⟨avs, ?_, h6⟩
  have one : (∃ u, v.cells = #[u] ∧ v = u ∧ (∀ fs, P.underlying t ≠ some (.struct fs))) ∨ (∃ fs cs, P.underlying t = some (.struct fs) ∧ v = .agg cs) := by
    cases n with
    | zero => cases hok
    | succ n =>
      unfold okT at hok
      split at hok
      · rename_i k hu; obtain ⟨m, rfl⟩ := WideShapes.okWide_int hu hval; exact .inl ⟨_, rfl, rfl, by rw [hu]; simp⟩
      · rename_i hu; obtain ⟨m, rfl⟩ := WideShapes.okWide_bool hu hval; exact .inl ⟨_, rfl, rfl, by rw [hu]; simp⟩
      · rename_i hu; obtain ⟨m, rfl⟩ := WideShapes.okWide_string hu hval; exact .inl ⟨_, rfl, rfl, by rw [hu]; simp⟩
      · rename_i e hu; obtain ⟨a, len, cap, rfl⟩ := WideShapes.okWide_slice hu hval; exact .inl ⟨_, rfl, rfl, by rw [hu]; simp⟩
      · rename_i fs hu; obtain ⟨cs, rfl, _⟩ := WideShapes.okWide_struct hu hval; exact .inr ⟨fs, cs, hu, rfl⟩
      · cases hok
  unfold argOf
  rcases one with ⟨u, hc, rfl, hns⟩ | ⟨fs, cs, hu, rfl⟩
  · rw [hc] at h5
    have hl := VRels_length h5
    cases avs with
    | nil => simp at hl
    | cons av rest =>
      have h5' := (VRels_cons.1 h5).1
      split
      · rename_i fs hu; exact absurd hu (hns fs)
      · exact h5'
  · rw [hu]
    exact ⟨cs.toList, by simp, by simpa [Value.cells] using h5⟩
/-! ### Shapes told as lists -/
theorem RShape.int {n : Nat} {t : TypeId} {avs : List AVal} (h : RShape P n t avs) (hu : P.underlying t = some (.int .i64)) : ∃ m, avs = [.int .i64 m] ∧ -9223372036854775808 ≤ m ∧ m ≤ 9223372036854775807 := by
  cases n with
  | zero => exact h.elim
  | succ n =>
    unfold RShape at h
    rw [hu] at h
    obtain ⟨m, rfl, hm⟩ := h
    simp only [Lit.wf, Bool.and_eq_true, decide_eq_true_eq] at hm
    exact ⟨m, rfl, hm⟩
theorem RShape.str {n : Nat} {t : TypeId} {avs : List AVal} (h : RShape P n t avs) (hu : P.underlying t = some .string) : ∃ s : ByteArray, avs = [.str s] ∧ s.size ≤ maxLen := by
  cases n with
  | zero => exact h.elim
  | succ n => unfold RShape at h; rw [hu] at h; exact h
theorem RShape.ints {n : Nat} {t e : TypeId} {avs : List AVal} (h : RShape P n t avs) (hu : P.underlying t = some (.slice e)) (he : P.underlying e = some (.int .i64)) (hc : P.cellsOf e = 1) (hb : P.bytesOf e = 8) :
    ∃ l, avs = [rI l] ∧ (∀ x ∈ l, -9223372036854775808 ≤ x ∧ x ≤ 9223372036854775807) ∧ l.length ≤ 1152921504606846976 := by
  cases n with
  | zero => exact h.elim
  | succ n =>
    unfold RShape at h
    rw [hu] at h
    obtain ⟨len, cells, rfl, h1, h20, h3⟩ := h
    have h2 := h20.2
    clear h20
    rw [hc, Nat.mul_one] at h1
    rw [hb] at h2
    have key : ∀ j, j < len → ∃ m, cells[j]? = some (.int .i64 m) ∧ -9223372036854775808 ≤ m ∧ m ≤ 9223372036854775807 := by
      intro j hj
      obtain ⟨m, hm, hr⟩ := (h3 j hj).int he
      rw [hc, Nat.mul_one] at hm
      refine ⟨m, ?_, hr⟩
      have := congrArg (fun l => l[0]?) hm
      simpa [List.getElem?_take, List.getElem?_drop] using this
    have : ∃ l : List Int, cells = Vh.ints l ∧ ∀ x ∈ l, -9223372036854775808 ≤ x ∧ x ≤ 9223372036854775807 := by
      clear h2 h3
      induction cells generalizing len with
      | nil => exact ⟨[], rfl, by simp⟩
      | cons c cells ih =>
        obtain ⟨m, hm, hr⟩ := key 0 (by simp at h1; omega)
        simp at hm; subst hm
        obtain ⟨l, rfl, hl⟩ := ih (len - 1) (by simp at h1; omega) (fun j hj => by simpa using key (j + 1) (by omega))
        exact ⟨m :: l, rfl, fun x hx => by
          rcases List.mem_cons.1 hx with rfl | hx
          · exact hr
          · exact hl x hx⟩
    obtain ⟨l, rfl, hl⟩ := this
    have hlen : len = l.length := by rw [← h1, Vh.ints, List.length_map]
    subst hlen
    have h2 : l.length * 8 ≤ 0x7ffffffff000 := h2
    exact ⟨l, rfl, hl, by omega⟩
/-- A row, told as a block to be read. -/
theorem row_ro {φ : PMap} {H : AHeap} {w : World} (hR : Rel φ H w) {n es : Nat} {cs : List AVal} {c : Value} (hl : cs.length = n * es) (h : VRel φ (.row n cs) c) :
    ∃ b : BI, BRel φ w b (.ro es cs) ∧ ∀ (ψ : PMap) i, ψ i = some b → VRel ψ (.view i 0 n) c := by
  have h' := h
  rw [VRel, ZRel] at h
  rcases h with ⟨rfl, rfl⟩ | ⟨cap, ad, rfl, hlc, hsp, hz⟩
  · refine ⟨⟨0, 0, es, 0⟩, ⟨rfl, fun j v hv => ?_⟩, fun ψ i hi => ⟨_, hi, .inl ⟨rfl, rfl⟩⟩⟩
    have := List.eq_nil_of_length_eq_zero (by omega : cs.length = 0)
    subst this; simp at hv
  · refine ⟨⟨ad.block, ad.off, es, cap * es⟩, ⟨rfl, fun j v hv => ?_⟩, fun ψ i hi => ⟨_, hi, .inr ⟨cap, ad, rfl, hlc, fun hc => ⟨?_, by show 0 + cap * es ≤ cap * es; omega⟩⟩⟩⟩
    · have hj := (List.getElem?_eq_some_iff.1 hv).1
      have hn : 0 < n := by
        rcases Nat.eq_zero_or_pos n with h0 | h0
        · rw [h0, Nat.zero_mul] at hl; omega
        · exact h0
      obtain ⟨arr, el, fr, l, h1, h2, h3⟩ := hz hn
      exact zrow_at hR.hasZ (o := ad.off) ⟨arr, el, fr, l, h1, h2, h3⟩ hv
    · have := hsp hc
      obtain ⟨ab, ao, asp⟩ := ad
      dsimp only at this
      subst this
      rfl
end Go.Vk

/- Contracts over blocks to be read, told over rows. -/
set_option linter.unusedVariables false
set_option linter.unusedSimpArgs false
namespace Go.Vk
open Go.Vh
variable {P : Program}
/-- A result that is told without numbers. -/
def ToldR (K : AVal → Prop) (v : AVal) (H' : AHeap) : Prop := ∃ ks u, ksCells H' ks = true ∧ Frz H' ks v u ∧ clo u = true ∧ K u
theorem ToldR.clo {K : AVal → Prop} {v : AVal} {H' : AHeap} (h : clo v = true) (hk : K v) : ToldR K v H' := ⟨[], v, rfl, .same h, h, hk⟩
theorem _root_.Go.Vh.CallW.viaRos {f : FuncId} {args rargs : List AVal} {G : AHeap} {K : AVal → Prop} (h : CallW P f args G (ToldR K)) (hN : NoRw G) (hr : noRefs rargs = true) (hsub : ∀ φ w cs, Rel φ emptyH w → VRels φ rargs cs → ∃ ψ : PMap, ψ.z = φ.z ∧ Rel ψ G w ∧ VRels ψ args cs) (H : AHeap) :
    CallW P f rargs H fun v H' => H' = H ∧ K v := by
  refine (CallW.closed (K := fun v => Vk.clo v = true ∧ K v) ?_ hr (fun v h => clo_noRef v h.1) H).mono fun v H' h => ⟨h.1, h.2.2⟩
  intro φ w cargs hR ha
  obtain ⟨ψ, hz, hRG, hag⟩ := hsub φ w _ hR ha
  have hno : ∀ k, ¬ Own ψ G k := by rintro k ⟨i, b, _, hrw, _⟩; exact hN i hrw
  refine (h ψ w cargs hRG hag).mono ?_
  rintro e w' ⟨cv, v, φ', H', rfl, h1, h2, h3, ks, u, hk, hf, hc, hK⟩
  obtain ⟨z, a1, a2, a3⟩ := rel_frz ks h2 hk
  obtain ⟨b1, b2⟩ := keepRel hR a1 (h3.trans a2) hz hno
  exact ⟨cv, u, ⟨φ.m, z⟩, emptyH, rfl, ZRel_rel (φ := ⟨φ.m, z⟩) _ _ (hf.rel h2 a2.le.z a3 h1), b1, b2, hc, hK⟩
theorem roStep {φ : PMap} {H : AHeap} {w : World} (hR : Rel φ H w) (hN : NoRw H) {l : List Int} {c : Value} (h : VRel φ (rI l) c) :
    ∃ b, Rel (φ.ext H.n b) (H.alloc (.ro 1 (ints l))) w ∧ NoRw (H.alloc (.ro 1 (ints l))) ∧ PLe φ (φ.ext H.n b) ∧ VRel (φ.ext H.n b) (.view H.n 0 l.length) c := by
  obtain ⟨b, hb, hv⟩ := row_ro hR (es := 1) (by rw [ints, List.length_map, Nat.mul_one]) h
  have hle := PMap.ext_le (hR.dom H.n (Nat.le_refl _)) b
  obtain ⟨h1, _, h3⟩ := rel_ro hR hN b 1 (ints l) (hb.kept hle fun _ => rfl)
  exact ⟨b, h1, h3, hle, hv _ _ (PMap.ext_same _ _ _)⟩
def ros (ls : List (List Int)) : AHeap := emptyH.allocs (ls.map fun l => .ro 1 (ints l))
theorem roSteps {w : World} : ∀ (ls : List (List Int)) {φ : PMap} {H : AHeap} (cs : List Value), Rel φ H w → NoRw H → VRels φ (ls.map rI) cs →
    ∃ ψ : PMap, ψ.z = φ.z ∧ Rel ψ (H.allocs (ls.map fun l => .ro 1 (ints l))) w ∧ NoRw (H.allocs (ls.map fun l => .ro 1 (ints l))) ∧ PLe φ ψ ∧ ∀ (j : Nat) l c, ls[j]? = some l → cs[j]? = some c → VRel ψ (.view (H.n + j) 0 l.length) c
  | [], φ, H, cs, hR, hN, _ => ⟨φ, rfl, hR, hN, PLe.refl _, fun j l c h => by simp at h⟩
  | l :: ls, φ, H, cs, hR, hN, h => by
    cases cs with
    | nil => simp [VRels] at h
    | cons c cs =>
      obtain ⟨h1, h2⟩ := VRels_cons.1 h
      obtain ⟨b, a1, a2, a3, a4⟩ := roStep hR hN h1
      obtain ⟨ψ, b1, b2, b3, b4, b5⟩ := roSteps ls cs a1 a2 (VRels_mono a3 _ _ h2)
      refine ⟨ψ, b1.trans rfl, b2, b3, a3.trans b4, fun j m d hj hd => ?_⟩
      cases j with
      | zero =>
        simp at hj hd
        subst hj; subst hd
        exact VRel_mono b4 _ _ a4
      | succ j =>
        have := b5 j m d (by simpa using hj) (by simpa using hd)
        rw [alloc_n, show H.n + 1 + j = H.n + (j + 1) by omega] at this
        exact this
/-- Arguments made of rows of numbers and of values without numbers. -/
inductive RowA : List (List Int) → Nat → List AVal → List AVal → Prop
  | nil {k : Nat} : RowA [] k [] []
  | val {ls : List (List Int)} {k : Nat} {v : AVal} {as bs : List AVal} : noRef v = true → RowA ls k as bs → RowA ls k (v :: as) (v :: bs)
  | row {ls : List (List Int)} {k : Nat} {l : List Int} {as bs : List AVal} : RowA ls (k + 1) as bs → RowA (l :: ls) k (.view k 0 l.length :: as) (rI l :: bs)
  | agg {ls ms : List (List Int)} {k k' : Nat} {vs us as bs : List AVal} : RowA ls k vs us → k' = k + ls.length → RowA ms k' as bs → RowA (ls ++ ms) k (.agg vs :: as) (.agg us :: bs)
theorem RowA.rel {φ : PMap} : ∀ {ls : List (List Int)} {k : Nat} {as bs : List AVal}, RowA ls k as bs → ∀ {cs : List Value}, VRels φ bs cs → ∃ ds, VRels φ (ls.map rI) ds ∧ ∀ ψ, PLe φ ψ → (∀ (j : Nat) l d, ls[j]? = some l → ds[j]? = some d → VRel ψ (.view (k + j) 0 l.length) d) → VRels ψ as cs
  | _, _, _, _, .nil, cs, h => ⟨[], by simp [VRels], fun ψ _ _ => by rw [VRels_nil.1 h]; simp [VRels]⟩
  | _, _, _, _, .val hv ht, cs, h => by
    cases cs with
    | nil => simp [VRels] at h
    | cons c cs =>
      obtain ⟨h1, h2⟩ := VRels_cons.1 h
      obtain ⟨ds, g1, g2⟩ := ht.rel h2
      exact ⟨ds, g1, fun ψ hle hj => VRels_cons.2 ⟨VRel_mono hle _ _ h1, g2 ψ hle hj⟩⟩
  | _, _, _, _, .row (k := k) ht, cs, h => by
    cases cs with
    | nil => simp [VRels] at h
    | cons c cs =>
      obtain ⟨h1, h2⟩ := VRels_cons.1 h
      obtain ⟨ds, g1, g2⟩ := ht.rel h2
      refine ⟨c :: ds, VRels_cons.2 ⟨h1, g1⟩, fun ψ hle hj => VRels_cons.2 ⟨by have := hj 0 _ c rfl rfl; rwa [Nat.add_zero] at this, g2 ψ hle fun j l d hl hd => ?_⟩⟩
      have := hj (j + 1) l d (by simpa using hl) (by simpa using hd)
      rwa [show k + (j + 1) = k + 1 + j by omega] at this
  | _, _, _, _, .agg (ls := ls) (ms := ms) (k := k) ha rfl ht, cs, h => by
    cases cs with
    | nil => simp [VRels] at h
    | cons c cs =>
      obtain ⟨h1, h2⟩ := VRels_cons.1 h
      obtain ⟨es, rfl, h3⟩ := h1
      obtain ⟨ds, g1, g2⟩ := ha.rel h3
      obtain ⟨fs, f1, f2⟩ := ht.rel h2
      have hdl : ds.length = ls.length := by rw [VRels_length g1, List.length_map]
      refine ⟨ds ++ fs, by rw [List.map_append]; exact VRels_append g1 f1, fun ψ hle hj => VRels_cons.2 ⟨⟨es, rfl, g2 ψ hle fun j l d hl hd => ?_⟩, f2 ψ hle fun j l d hl hd => ?_⟩⟩
      · exact hj j l d (by rw [List.getElem?_append_left (List.getElem?_eq_some_iff.1 hl).1]; exact hl) (by rw [List.getElem?_append_left (List.getElem?_eq_some_iff.1 hd).1]; exact hd)
      · have := hj (ls.length + j) l d (by rw [List.getElem?_append_right (by omega)]; simpa using hl) (by rw [List.getElem?_append_right (by omega), hdl]; simpa using hd)
        rwa [show k + (ls.length + j) = k + ls.length + j by omega] at this
theorem RowA.noRef : ∀ {ls : List (List Int)} {k : Nat} {as bs : List AVal}, RowA ls k as bs → noRefs bs = true
  | _, _, _, _, .nil => rfl
  | _, _, _, _, .val hv ht => by simp only [noRefs, hv, ht.noRef, Bool.and_self]
  | _, _, _, _, .row ht => by simp only [noRefs, rI, Vh.noRef, ht.noRef, Bool.and_self]
  | _, _, _, _, .agg ha _ ht => by simp only [noRefs, Vh.noRef, ha.noRef, ht.noRef, Bool.and_self]
/-- **A contract over rows, from one over blocks to be read.** -/
theorem _root_.Go.Vh.CallW.toRows {f : FuncId} {args rargs : List AVal} {ls : List (List Int)} {G : AHeap} {K : AVal → Prop} (h : CallW P f args G (ToldR K)) (hG : G = ros ls) (ha : RowA ls 0 args rargs) (H : AHeap) : CallW P f rargs H fun v H' => H' = H ∧ K v := by
  subst hG
  have hN : NoRw (ros ls) := by
    have : ∀ (bs : List ABlk) (H : AHeap), NoRw H → (∀ b ∈ bs, ¬ b.rw) → NoRw (H.allocs bs) := by
      intro bs
      induction bs with
      | nil => intro H h _; exact h
      | cons b bs ih =>
        intro H h hb
        refine ih _ (fun i => ?_) fun c hc => hb c (List.mem_cons_of_mem _ hc)
        rw [alloc_f]
        split
        · exact hb b (List.mem_cons_self ..)
        · exact h i
    exact this _ _ (fun i h => h) fun b hb => by obtain ⟨l, _, rfl⟩ := List.mem_map.1 hb; exact fun h => h
  refine h.viaRos hN ha.noRef (fun φ w cs hR hv => ?_) H
  obtain ⟨ds, g1, g2⟩ := ha.rel hv
  obtain ⟨ψ, b1, b2, _, b4, b5⟩ := roSteps ls ds hR (fun i h => h) g1
  exact ⟨ψ, b1, b2, g2 ψ b4 fun j l d hl hd => by have := b5 j l d hl hd; exact this⟩
theorem ToldR.int {K : AVal → Prop} {k : IntKind} {n : Int} {H' : AHeap} (hk : K (.int k n)) : ToldR K (.int k n) H' := .clo rfl hk
theorem IsB.told {p : Prop} {v : AVal} {H' : AHeap} (h : IsB v p) : ToldR (fun v => IsB v p) v H' := .clo (by cases h <;> rfl) h
open Classical in
theorem IsB.eq {p : Prop} {v : AVal} (h : IsB v p) : v = .bool (decide p) := by
  cases h with
  | t h => rw [decide_eq_true h]
  | f h => rw [decide_eq_false h]
theorem frz_vw {H' : AHeap} {ks : List Nat} {i n : Nat} {l : List Int} (hi : ks.contains i = true) (hf : H'.f i = vB l) (hn : n ≤ l.length) : Frz H' ks (.view i 0 n) (.row n (ints (l.take n))) := by
  cases l with
  | nil => obtain rfl : n = 0 := by simpa using hn
           exact .view0
  | cons x l => exact .view hi hf (by rw [Nat.zero_add, Nat.mul_one, ints, List.length_map]; exact hn) (by rw [Nat.mul_one, List.drop_zero, ints, ← List.map_take]; exact .same (clos_ints _))
/-- Rows that a call has made. -/
theorem frz_vB {H' : AHeap} {ks : List Nat} {i n : Nat} {l : List Int} (hi : ks.contains i = true) (hf : H'.f i = .cells 1 (ints l)) (hn : n ≤ l.length) : Frz H' ks (.slice i 0 n) (.row n (ints (l.take n))) :=
  .slice hi hf (by rw [Nat.zero_add, Nat.mul_one, ints, List.length_map]; exact hn) (by rw [Nat.mul_one, List.drop_zero, ints, ← List.map_take]; exact .same (clos_ints _))
theorem frzI {H : AHeap} {ks : List Nat} {i n : Nat} {l : List Int} (hi : ks.contains i = true) (hf : H.f i = .cells 1 (ints l)) (hn : n = l.length) : Frz H ks (.slice i 0 n) (rI l) := by
  subst hn
  have := frz_vB hi hf (Nat.le_refl _)
  rwa [List.take_length] at this
theorem frzP {H : AHeap} {ks : List Nat} {i off n : Nat} {l : List Int} (hi : ks.contains i = true) (hf : H.f i = .cells 1 (ints l)) (hn : off + n ≤ l.length) : Frz H ks (.slice i off n) (rI ((l.drop off).take n)) := by
  have e : rI ((l.drop off).take n) = .row n (ints ((l.drop off).take n)) := by
    unfold rI
    rw [List.length_take, List.length_drop, Nat.min_eq_left (by omega)]
  rw [e]
  exact .slice hi hf (by rw [Nat.mul_one, ints, List.length_map]; exact hn) (by rw [Nat.mul_one, ints_part]; exact .same (clos_ints _))
/-- A row that grows from nothing: its value and its block, by its length. -/
def acc (k : Nat) : Nat → AVal
  | 0 => .nilSlice
  | n + 1 => .slice k 0 (n + 1)
def accB (l : List Int) : Nat → ABlk
  | 0 => .ro 1 []
  | _ + 1 => .cells 1 (ints l)
theorem Gets.slcO {H : AHeap} {t e : TypeId} {ti : TI} {i n es : Nat} {cs : List AVal} {lo hi : Option AVal} {l h : Nat} {A : AVal → Prop} (hu : P.underlying t = some (.slice e)) (hT : sliceT P t = some ti) (hsz : ti.size = es) (hf : H.f i = .cells es cs) (h1 : boundA 0 lo = some (l : Int)) (h2 : boundA n hi = some (h : Int)) (hl : l ≤ h) (hh : h ≤ n)
    (hA : A (.slice i (0 + l * es) (h - l))) : Gets (asliceV P H t (.slice i 0 n) lo hi) A := by
  refine ⟨⟨_, ?_, hA⟩⟩
  simp only [asliceV, aslice, hu, hT, h1, h2, hf]
  rw [if_pos ⟨by omega, by omega, by omega, hsz.symm⟩]
  rfl
end Go.Vk

/- Calls that only look at own rows; two rows that grow from nothing. -/
set_option linter.unusedVariables false
set_option linter.unusedSimpArgs false
namespace Go.Vk
open Go.Vh
variable {P : Program}
mutual
/-- Numbers, truth values, strings. -/
def plain : AVal → Bool
  | .int _ _ | .bool _ | .str _ => true
  | .tuple l | .agg l => plains l
  | _ => false
def plains : List AVal → Bool
  | [] => true
  | v :: l => plain v && plains l
end
mutual
theorem plain_rel {φ ψ : PMap} : ∀ (v : AVal) (c : Value), plain v = true → VRel φ v c → VRel ψ v c
  | .int _ _, _, _, h => by simpa [VRel] using h
  | .bool _, _, _, h => by simpa [VRel] using h
  | .str _, _, _, h => by simpa [VRel] using h
  | .agg as, _, hn, h => by
    simp only [VRel] at *
    obtain ⟨cs, rfl, h1⟩ := h
    exact ⟨cs, rfl, plains_rel as cs (by simpa [plain] using hn) h1⟩
  | .tuple as, _, hn, h => by
    simp only [VRel] at *
    obtain ⟨cs, rfl, h1⟩ := h
    exact ⟨cs, rfl, plains_rel as cs (by simpa [plain] using hn) h1⟩
  | .undef, _, hn, _ | .raw _, _, hn, _ | .nilSlice, _, hn, _ | .ptr _ _, _, hn, _ | .slice _ _ _, _, hn, _ | .view _ _ _, _, hn, _ | .map _, _, hn, _ | .func _ _ _, _, hn, _ | .yield _, _, hn, _ | .row _ _, _, hn, _ | .rptr _ _, _, hn, _ => by simp [plain] at hn
theorem plains_rel {φ ψ : PMap} : ∀ (vs : List AVal) (cs : List Value), plains vs = true → VRels φ vs cs → VRels ψ vs cs
  | [], cs, _, hv => by simpa [VRels] using hv
  | v :: vs, [], _, hv => by simp [VRels] at hv
  | v :: vs, c :: cs, hn, hv => by
    simp only [plains, Bool.and_eq_true] at hn
    exact VRels_cons.2 ⟨plain_rel v c hn.1 (VRels_cons.1 hv).1, plains_rel vs cs hn.2 (VRels_cons.1 hv).2⟩
end
/-- A call that looks at own rows, and hands back numbers and the like: the rows stay one's own. -/
theorem _root_.Go.Vh.CallW.argsB {f : FuncId} {args args' : List AVal} {H : AHeap} {K : AVal → Prop} (hex : ∃ ks, ksCells H ks = true ∧ FrzA H ks args args') (ha : noRefs args' = true) (hk : ∀ v, K v → plain v = true) (h : ∀ H', CallW P f args' H' fun v G => G = H' ∧ K v) : CallW P f args H fun v H' => H' = H ∧ K v := by
  obtain ⟨ks, hks, hf⟩ := hex
  intro φ w cargs hR hargs
  obtain ⟨z, a1, a2, a3⟩ := rel_frz ks hR hks
  have b1 : VRels (pm0 z) args' cargs.toList := VRels_noRef (φ := ⟨φ.m, z⟩) (ψ := pm0 z) (fun _ _ h => h) _ _ ha (hf.rel hR a2.le.z a3 hargs)
  refine (h emptyH (pm0 z) w cargs (rel_empty fun k o hz => ⟨(a1.fz k o hz).1, (a1.fz k o hz).2.2⟩) b1).mono ?_
  rintro e w' ⟨cv, v, φ', H', rfl, h1, h2, h3, rfl, hK⟩
  have hkeep : ∀ k, k < w.heap.size → w'.heap[k]? = w.heap[k]? := fun k hk => h3.keep k hk not_own_empty
  exact ⟨cv, v, φ, H, rfl, plain_rel v cv (hk v hK) h1, ⟨hR.dom, hR.has, fun i b hb => (hR.blk i b hb).kept (PLe.refl φ) fun hl => hkeep _ (hR.lt_live hb hl), hR.inj, fun i b hb hl => Nat.lt_of_lt_of_le (hR.lt i b hb hl) h3.size, fun k o hz => ⟨(hkeep k (Array.getElem?_eq_some_iff.1 (hR.fz k o hz).1).1).trans (hR.fz k o hz).1, (hR.fz k o hz).2⟩⟩,
    ⟨PLe.refl φ, h3.size, fun k hk _ => hkeep k hk, fun k hk => .inl hk, h3.os, h3.tape, h3.output, Nat.le_refl _, fun _ _ _ => Nat.le_refl _, fun i b hb hl _ => ⟨hl, hkeep _ (hR.lt_live hb hl)⟩, fun _ _ h => .inl h⟩, rfl, hK⟩
/-- The blocks of two rows that grow from nothing. -/
theorem acc_ks {H : AHeap} {i j : Nat} {A B : List Int} (hij : i ≠ j) (hi : H.f i = accB A A.length) (hj : H.f j = accB B B.length) : ∃ ks, ksCells H ks = true ∧ (A.length ≠ 0 → ks.contains i = true) ∧ (B.length ≠ 0 → ks.contains j = true) := by
  have hc : ∀ {i A}, H.f i = accB A A.length → A.length ≠ 0 → cellsB (H.f i) = true := fun {i A} h hn => by
    rw [h]; cases A with
    | nil => exact absurd rfl hn
    | cons x l => rfl
  by_cases ha : A.length = 0 <;> by_cases hb : B.length = 0
  · exact ⟨[], rfl, fun h => absurd ha h, fun h => absurd hb h⟩
  · exact ⟨[j], by simp [ksCells, hc hj hb], fun h => absurd ha h, fun _ => by simp⟩
  · exact ⟨[i], by simp [ksCells, hc hi ha], fun _ => by simp, fun h => absurd hb h⟩
  · exact ⟨[i, j], by simp [ksCells, hc hi ha, hc hj hb, hij], fun _ => by simp, fun _ => by simp⟩
end Go.Vk

/- Rows of structs of five whole numbers, as values; maps with such keys. -/
set_option linter.unusedVariables false
set_option linter.unusedSimpArgs false
namespace Go.Vk
open Go.Vh
variable {P : Program}
/-- Such a struct, as a value. -/
def kvE (e : Edg) : AVal := .agg [.int .i64 e.fr, .int .i64 e.to, .int .i64 e.care, .int .i64 e.bits, .int .i64 e.marks]
/-- A row of them. -/
def rE (es : List Edg) : AVal := .row es.length (ints (flat es))
abbrev kkE : KeyK := .flat [.int .i64, .int .i64, .int .i64, .int .i64, .int .i64]
theorem edg_ext (a b : Edg) : a = b ↔ a.fr = b.fr ∧ a.to = b.to ∧ a.care = b.care ∧ a.bits = b.bits ∧ a.marks = b.marks := by
  cases a; cases b; simp
theorem keyE : KeyOk kkE kvE := ⟨fun a => rfl, fun a b => by
  simp only [keyEq, kvE, fitsL, fitsS, aeqL, aeqS, if_true, Bool.and_self, Bool.and_true, Option.some.injEq, beqI, edg_ext]
  by_cases h1 : a.fr = b.fr <;> by_cases h2 : a.to = b.to <;> by_cases h3 : a.care = b.care <;> by_cases h4 : a.bits = b.bits <;> by_cases h5 : a.marks = b.marks <;> simp [h1, h2, h3, h4, h5], fun _ _ => rfl⟩
theorem ints_flat_length (es : List Edg) : (ints (flat es)).length = es.length * 5 := by rw [ints, List.length_map, flat_length]
theorem edg_cells {es : List Edg} {j : Nat} (h : j < es.length) : ((ints (flat es)).drop (j * 5)).take 5 = ints (es.getD j default).l := by
  have : ((ints (flat es)).drop (j * 5)).take 5 = ints (((flat es).drop (j * 5)).take 5) := by simp [ints, List.map_take, List.map_drop]
  rw [this, flat_drop, List.drop_eq_getElem_cons h, List.getD_eq_getElem?_getD, List.getElem?_eq_getElem h]
  rfl
/-- One of them, out of a row. -/
theorem Gets.ldRE {H : AHeap} {t : TypeId} {ti : TI} {off j : Nat} {es : List Edg} {A : AVal → Prop} (ht : tinfo P t = some ti) (hag : ti.agg = true) (hsz : ti.size = 5) (ho : off = j * 5) (h : j < es.length) (hA : A (kvE (es.getD j default))) : Gets (loadA P H t (.rptr (ints (flat es)) off)) A := by
  subst ho
  refine Gets.ldR ht ?_ hA
  unfold rload
  rw [hag, if_pos rfl, hsz, if_pos (by rw [ints_flat_length]; omega), edg_cells h]
  rfl
/-- One field of one, out of a row. -/
theorem Gets.ldRF {H : AHeap} {t : TypeId} {off j f : Nat} {x : Int} {es : List Edg} {A : AVal → Prop} (ht : tinfo P t = some tiI) (ho : off = j * 5 + f) (h : j < es.length) (hx : (es.getD j default).l[f]? = some x) (hA : A (.int .i64 x)) : Gets (loadA P H t (.rptr (ints (flat es)) off)) A := by
  subst ho
  have hf : f < 5 := (List.getElem?_eq_some_iff.1 hx).1
  refine Gets.ldR ht ?_ hA
  show (ints (flat es))[j * 5 + f]? = _
  rw [ints, List.getElem?_map, flat_get es j f h hf]
  rw [List.getD_eq_getElem?_getD, List.getElem?_eq_getElem h] at hx
  exact congrArg _ hx
/-- One more behind a row of one's own. -/
theorem Gets.appE1 {H : AHeap} {t tx : TypeId} {ti : TI} {d : TypeDesc} {i j m : Nat} {l : List Edg} {x : Edg} {A : AVal × AHeap → Prop} (ht : sliceT P t = some ti) (hd : P.underlying tx = some d) (hr : rowD d = true) (hsz : ti.size = 5) (hz : ti.zero.length = 5) (hb : ti.bytes ≤ 4096)
    (hi : H.f i = .cells 5 (ints (flat l))) (hx : H.f j = .cells 5 (ints x.l)) (hl : m = l.length) (hm : m < 4294967296) (hA : A (.slice H.n 0 (m + 1), (H.set i .dead).alloc (.cells 5 (ints (flat (l ++ [x])))))) :
    Gets (builtA P H .append [t, tx] [.slice i 0 m, .slice j 0 1]) A := by
  subst hl
  refine Gets.appG (n := 1) (xs := ints x.l) ht hd hr hsz hz hb hi ?_ (by rw [ints_flat_length]; omega) (by omega) rfl ?_
  · simp [srcA, hx, ints, Edg.l]
  · have : (ints (flat l)).take (l.length * 5) ++ ints x.l = ints (flat (l ++ [x])) := by rw [List.take_of_length_le (by rw [ints_flat_length]; omega), flat_append]; simp [ints, flat]
    rw [this]; exact hA
theorem Gets.appE0 {H : AHeap} {t tx : TypeId} {ti : TI} {d : TypeDesc} {j : Nat} {x : Edg} {A : AVal × AHeap → Prop} (ht : sliceT P t = some ti) (hd : P.underlying tx = some d) (hr : rowD d = true) (hsz : ti.size = 5) (hz : ti.zero.length = 5) (hb : ti.bytes ≤ 4096)
    (hx : H.f j = .cells 5 (ints x.l)) (hA : A (.slice H.n 0 1, H.alloc (.cells 5 (ints (flat [x]))))) : Gets (builtA P H .append [t, tx] [.nilSlice, .slice j 0 1]) A := by
  refine ⟨⟨_, ?_, hA⟩⟩
  simp only [builtA, apureB, amemB, app2 hd hr, aappend, ht, hd]
  have hs : srcA H 5 (.slice j 0 1) = some (ints x.l, 1) := by simp [srcA, hx, ints, Edg.l]
  rw [if_pos ⟨hr, hb, by rw [hz, hsz]⟩]
  simp only [hsz, hs]
  rw [if_neg (by decide), if_pos (by decide)]
  simp [flat, ints]
theorem frzE {H : AHeap} {ks : List Nat} {i n : Nat} {l : List Edg} (hi : ks.contains i = true) (hf : H.f i = .cells 5 (ints (flat l))) (hn : n = l.length) : Frz H ks (.slice i 0 n) (rE l) := by
  subst hn
  exact .slice hi hf (by rw [ints_flat_length]; omega) (by rw [List.drop_zero, List.take_of_length_le (by rw [ints_flat_length]; omega)]; exact .same (clos_ints _))
/-! ### Arguments -/
theorem RShape.flat {n : Nat} {t : TypeId} {avs : List AVal} (hf : flatI P t = true) (h : RShape P n t avs) : ∃ l : List Int, avs = Vh.ints l ∧ l.length = P.cellsOf t ∧ ∀ x ∈ l, fits64 x := by
  unfold flatI at hf
  split at hf
  · rename_i fs hu
    simp only [Bool.and_eq_true, beq_iff_eq, List.all_eq_true, List.mem_range] at hf
    obtain ⟨hsz, hall⟩ := hf
    cases n with
    | zero => exact h.elim
    | succ n =>
      unfold RShape at h
      rw [hu] at h
      obtain ⟨hl, hsh⟩ := h
      have : ∃ l : List Int, avs = Vh.ints l ∧ ∀ x ∈ l, fits64 x := ints_of fun j v hv => by
        have hj : j < fs.size := by have := (List.getElem?_eq_some_iff.1 hv).1; omega
        have ha := hall j hj
        cases hfj : fs[j]? with
        | none => rw [hfj] at ha; cases ha
        | some f =>
          rw [hfj] at ha
          simp only [Bool.and_eq_true, beq_iff_eq] at ha
          obtain ⟨⟨ho, hk⟩, hc⟩ := ha
          have hs := hsh j f hfj
          rw [ho, hc] at hs
          cases n with
          | zero => exact hs.elim
          | succ n =>
            unfold RShape at hs
            split at hk
            · rename_i hfu
              rw [hfu] at hs
              obtain ⟨m, hm, hw⟩ := hs
              have := take_one hm
              rw [hv] at this
              cases this
              exact ⟨m, rfl, wf_i64 hw⟩
            · cases hk
      obtain ⟨l, rfl, hx⟩ := this
      exact ⟨l, rfl, by rw [← hl, ints_length], hx⟩
  · cases hf
/-- A row of edges. -/
theorem RShape.edges {n : Nat} {t e : TypeId} {avs : List AVal} (h : RShape P n t avs) (hu : P.underlying t = some (.slice e)) (hf : flatI P e = true) (hc : P.cellsOf e = 5) (hb : P.bytesOf e = 40) :
    ∃ es : List Edg, avs = [rE es] ∧ (∀ e ∈ es, ∀ x ∈ e.l, fits64 x) ∧ es.length ≤ 4611686018427387904 := by
  cases n with
  | zero => exact h.elim
  | succ n =>
    unfold RShape at h
    rw [hu] at h
    obtain ⟨len, cells, rfl, h1, h20, h3⟩ := h
    have h2 := h20.2
    rw [hb] at h2
    rw [hc] at h1
    have key : ∃ l : List Int, cells = Vh.ints l ∧ ∀ x ∈ l, fits64 x := ints_of fun q v hv => by
      have hq : q < len * 5 := by have := (List.getElem?_eq_some_iff.1 hv).1; omega
      have hj : q / 5 < len := by omega
      have hx := h3 _ hj
      rw [hc] at hx
      obtain ⟨l, hl', _, hx⟩ := RShape.flat hf hx
      have : ((cells.drop (q / 5 * 5)).take 5)[q % 5]? = some v := by
        rw [List.getElem?_take, if_pos (Nat.mod_lt _ (by decide)), List.getElem?_drop, Nat.mul_comm, Nat.div_add_mod]
        exact hv
      rw [hl', Vh.ints_get] at this
      cases hg : l[q % 5]? with
      | none => rw [hg] at this; cases this
      | some m =>
        rw [hg] at this
        cases this
        exact ⟨m, rfl, hx m (List.mem_of_getElem? hg)⟩
    obtain ⟨l, rfl, hx⟩ := key
    rw [ints_length] at h1
    obtain ⟨es, rfl, rfl⟩ := flat_of len l h1
    have h2 : es.length * 40 ≤ 0x7ffffffff000 := h2
    exact ⟨es, rfl, fun e he x hxe => hx x (List.mem_flatMap.2 ⟨e, he, hxe⟩), by omega⟩
end Go.Vk
