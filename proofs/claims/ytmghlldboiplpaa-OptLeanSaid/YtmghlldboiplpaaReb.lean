/- A circuit made anew: in plain words. -/
import Derived.Test.YtmghlldboiplpaaMak
set_option linter.unusedVariables false
set_option linter.unusedSimpArgs false
namespace Go.Proofs.Ytmghlldboiplpaa
open Go Go.Vh Go.Vk Go.Proofs
/-- What the variables become, and the gates, after the first gates. -/
def Cir.made (c : Cir) (of0 : List Nat) (nb : Nat) : Nat → List Nat × List (Int × Int)
  | 0 => (of0, [])
  | k + 1 => ((Cir.made c of0 nb k).1 ++ [(mkN nb (Cir.made c of0 nb k).2 (litN (Cir.made c of0 nb k).1 (c.gates.getD k (0, 0)).1) (litN (Cir.made c of0 nb k).1 (c.gates.getD k (0, 0)).2)).1], (mkN nb (Cir.made c of0 nb k).2 (litN (Cir.made c of0 nb k).1 (c.gates.getD k (0, 0)).1) (litN (Cir.made c of0 nb k).1 (c.gates.getD k (0, 0)).2)).2)
/-- What is told of the first variables. -/
structure OfOk (c : Cir) (of0 : List Nat) (nb : Nat) : Prop where
  n : of0.length = c.nv
  b : ∀ v, v < c.nv → of0.getD v 0 / 2 < nb
  z : 0 < nb
structure MadeOk (c : Cir) (nb k : Nat) (st : List Nat × List (Int × Int)) : Prop where
  n : st.1.length = c.nv + k
  b : ∀ v, v < c.nv + k → st.1.getD v 0 / 2 < nb + st.2.length
  g : GsOk nb st.2
  l : st.2.length ≤ k
theorem litN_top {c : Cir} {nb k : Nat} {st : List Nat × List (Int × Int)} (h : MadeOk c nb k st) {l : Int} (hl : (l / 2).toNat < c.nv + k) : litN st.1 l / 2 < nb + st.2.length := by
  rw [litN_div]; exact h.b _ hl
theorem made_ok {c : Cir} {of0 : List Nat} {nb : Nat} (hg : ∀ k, k < c.gates.length → ((c.gates.getD k (0, 0)).1 / 2).toNat < c.nv + k ∧ ((c.gates.getD k (0, 0)).2 / 2).toNat < c.nv + k) (h0 : OfOk c of0 nb) : ∀ k, k ≤ c.gates.length → MadeOk c nb k (c.made of0 nb k)
  | 0, _ => ⟨h0.n, fun v hv => Nat.lt_of_lt_of_le (h0.b v hv) (Nat.le_add_right _ _), ⟨fun k hk => absurd hk (Nat.not_lt_zero _), fun j k _ hk => absurd hk (Nat.not_lt_zero _)⟩, Nat.le_refl _⟩
  | k + 1, hk => by
    have ih := made_ok hg h0 k (by omega)
    obtain ⟨g1, g2⟩ := hg k (by omega)
    obtain ⟨m1, ⟨t, m2, m3⟩, m4⟩ := mkN_ok ih.g _ _ (litN_top ih g1) (litN_top ih g2) h0.z
    rw [Cir.made]
    refine ⟨?_, fun v hv => ?_, m1, ?_⟩
    · dsimp only; rw [List.length_append, ih.n]; rfl
    · dsimp only
      rcases Nat.lt_or_ge v (c.nv + k) with a | a
      · rw [getD_app _ _ _ (by rw [ih.n]; exact a), m2, List.length_append]
        have := ih.b v a
        omega
      · obtain rfl : v = (c.made of0 nb k).1.length := by rw [ih.n]; omega
        rw [getD_snoc]
        exact m4
    · dsimp only
      rw [m2, List.length_append]
      have := ih.l
      omega
theorem made_pre {c : Cir} {of0 : List Nat} {nb : Nat} (hg : ∀ k, k < c.gates.length → ((c.gates.getD k (0, 0)).1 / 2).toNat < c.nv + k ∧ ((c.gates.getD k (0, 0)).2 / 2).toNat < c.nv + k) (h0 : OfOk c of0 nb) (k : Nat) : ∀ m, k + m ≤ c.gates.length → (∃ t, (c.made of0 nb (k + m)).2 = (c.made of0 nb k).2 ++ t) ∧ ∀ v, v < c.nv + k → (c.made of0 nb (k + m)).1.getD v 0 = (c.made of0 nb k).1.getD v 0
  | 0, _ => ⟨⟨[], (List.append_nil _).symm⟩, fun v _ => rfl⟩
  | m + 1, hm => by
    obtain ⟨⟨t, e⟩, ih⟩ := made_pre hg h0 k m (by omega)
    have ok := made_ok hg h0 (k + m) (by omega)
    obtain ⟨g1, g2⟩ := hg (k + m) (by omega)
    obtain ⟨m1, ⟨t', m2, m3⟩, m4⟩ := mkN_ok ok.g _ _ (litN_top ok g1) (litN_top ok g2) h0.z
    rw [← Nat.add_assoc, Cir.made]
    refine ⟨⟨t ++ t', ?_⟩, fun v hv => ?_⟩
    · dsimp only
      rw [m2, e, List.append_assoc]
    · dsimp only
      rw [getD_app _ _ _ (by rw [ok.n]; omega)]
      exact ih v hv
def Cir.rebOf (c : Cir) (of0 : List Nat) (nb : Nat) : List Nat := (c.made of0 nb c.gates.length).1
def Cir.reb (c : Cir) (of0 : List Nat) (keep : List Nat) : Cir := ⟨c.inp, keep.map fun k => (litN (c.rebOf of0 (c.inp.toNat + keep.length + 1)) (c.latch.getD k 0) : Nat), (c.made of0 (c.inp.toNat + keep.length + 1) c.gates.length).2, c.out.map fun l => (litN (c.rebOf of0 (c.inp.toNat + keep.length + 1)) l : Nat)⟩
theorem reb_nv (c : Cir) (of0 keep : List Nat) : (c.reb of0 keep).nv = c.inp.toNat + keep.length + 1 := by simp [Cir.reb, Cir.nv]
theorem root_below {c : Cir} (ho : c.Ok) {l : Int} (h : l ∈ c.latch ++ c.out) : (l / 2).toNat < c.nv + c.gates.length := by
  rcases (good_root ho h).2 with a | ⟨k, k1, k2, _⟩ <;> omega
theorem reb_ok {c : Cir} (ho : c.Ok) {of0 keep : List Nat} (h0 : OfOk c of0 (c.inp.toNat + keep.length + 1)) (hk : keep.length ≤ c.latch.length) (hk2 : ∀ k ∈ keep, k < c.latch.length) : (c.reb of0 keep).Ok ∧ (c.reb of0 keep).Norm := by
  have ok := made_ok (ok_below ho) h0 c.gates.length (Nat.le_refl _)
  have hs := ho.s
  have hz := hs.1
  have e1 : (c.reb of0 keep).latch.length = keep.length := by simp [Cir.reb]
  have e2 : (c.reb of0 keep).out.length = c.out.length := by simp [Cir.reb]
  have e3 : (c.reb of0 keep).inp = c.inp := rfl
  have e4 : (c.reb of0 keep).gates = (c.made of0 (c.inp.toNat + keep.length + 1) c.gates.length).2 := rfl
  have el := ok.l
  have root : ∀ l, l ∈ c.latch ++ c.out → inR (c.reb of0 keep).most (litN (c.rebOf of0 (c.inp.toNat + keep.length + 1)) l : Nat) := fun l hl => by
    have := litN_top ok (root_below ho hl)
    unfold inR Cir.most Cir.vars
    rw [e1, e3, e4]
    show (0 : Int) ≤ (litN (c.made of0 (c.inp.toNat + keep.length + 1) c.gates.length).1 l : Nat) ∧ ((litN (c.made of0 (c.inp.toNat + keep.length + 1) c.gates.length).1 l : Nat) : Int) ≤ _
    omega
  refine ⟨⟨?_, ?_, ?_, ?_⟩, fun k hk => ?_, fun j k hjk hk => ?_⟩
  · unfold Cir.Small at hs ⊢
    rw [e1, e2, e3, e4]
    omega
  · intro x hx
    obtain ⟨k, hk, rfl⟩ := List.mem_map.1 hx
    exact root _ (List.mem_append_left _ (getD_memL (hk2 k hk)))
  · intro x hx
    obtain ⟨l, hl, rfl⟩ := List.mem_map.1 hx
    exact root l (List.mem_append_right _ hl)
  · intro k hk
    rw [e4] at hk
    have := ok.g.f k hk
    unfold Cir.GateOk inR Cir.own
    rw [e1, e3, e4]
    omega
  · rw [e4] at hk ⊢
    have := ok.g.f k hk
    exact ⟨this.1, this.2.1, this.2.2.1⟩
  · rw [e4] at hk ⊢
    exact ok.g.d j k hjk hk
/-- What is made anew tells the same. -/
theorem reb_sem {c : Cir} (ho : c.Ok) {of0 keep : List Nat} (h0 : OfOk c of0 (c.inp.toNat + keep.length + 1)) (hk : keep.length ≤ c.latch.length) (hk2 : ∀ k ∈ keep, k < c.latch.length) (i s s' : Nat) (hb : ∀ v, v < c.nv → litW ((c.reb of0 keep).vals i s') (of0.getD v 0) = (vals0 c i s).getD v false) : ∀ n, n ≤ c.gates.length → ∀ v, v < c.nv + n → litW ((c.reb of0 keep).vals i s') ((c.rebOf of0 (c.inp.toNat + keep.length + 1)).getD v 0) = (c.vals i s).getD v false
  | 0, _, v, hv => by
    have := (made_pre (ok_below ho) h0 0 c.gates.length (by omega)).2 v hv
    rw [Nat.zero_add] at this
    rw [Cir.rebOf, this, vals_base c i s hv]
    exact hb v hv
  | n + 1, hn, v, hv => by
    rcases Nat.lt_or_ge v (c.nv + n) with a | a
    · exact reb_sem ho h0 hk hk2 i s s' hb n (by omega) v a
    · obtain rfl : v = c.nv + n := by omega
      have ih := reb_sem ho h0 hk hk2 i s s' hb n (by omega)
      have okn := made_ok (ok_below ho) h0 n (by omega)
      have pre1 := made_pre (ok_below ho) h0 (n + 1) (c.gates.length - (n + 1)) (by omega)
      have pre0 := made_pre (ok_below ho) h0 n (c.gates.length - n) (by omega)
      rw [show n + 1 + (c.gates.length - (n + 1)) = c.gates.length by omega] at pre1
      rw [show n + (c.gates.length - n) = c.gates.length by omega] at pre0
      have hbel := ok_below ho n (by omega)
      have rok := (reb_ok ho h0 hk hk2).1
      have hw0 : ((c.reb of0 keep).vals i s').getD 0 false = false := by
        rw [vals_base _ _ _ (by rw [reb_nv]; omega)]
        rfl
      rw [vals_gate (ok_below ho) i s (by omega), Cir.rebOf, pre1.2 (c.nv + n) (by omega), Cir.made]
      dsimp only
      rw [show c.nv + n = (c.made of0 (c.inp.toNat + keep.length + 1) n).1.length from okn.n.symm, getD_snoc]
      rw [mkN_lit (gsF := (c.reb of0 keep).gates) _ _ hw0 (fun j hj => by
        rw [← reb_nv c of0 keep]
        exact vals_gate (ok_below rok) i s' hj) (by
        have := pre1.1
        rwa [Cir.made] at this)]
      have hl : ∀ l : Int, (l / 2).toNat < c.nv + n → litW ((c.reb of0 keep).vals i s') (litN (c.made of0 (c.inp.toNat + keep.length + 1) n).1 l) = lit (c.vals i s) l := fun l hl => by
        rw [litN_lit]
        have := ih _ hl
        rw [Cir.rebOf, pre0.2 _ hl] at this
        rw [this]
        rfl
      rw [hl _ hbel.1, hl _ hbel.2]
theorem reb_lit {c : Cir} (ho : c.Ok) {of0 keep : List Nat} (h0 : OfOk c of0 (c.inp.toNat + keep.length + 1)) (hk : keep.length ≤ c.latch.length) (hk2 : ∀ k ∈ keep, k < c.latch.length) (i s s' : Nat) (hb : ∀ v, v < c.nv → litW ((c.reb of0 keep).vals i s') (of0.getD v 0) = (vals0 c i s).getD v false) {l : Int} (hl : l ∈ c.latch ++ c.out) : lit ((c.reb of0 keep).vals i s') (litN (c.rebOf of0 (c.inp.toNat + keep.length + 1)) l : Nat) = lit (c.vals i s) l := by
  rw [lit_nat, litN_lit, reb_sem ho h0 hk hk2 i s s' hb c.gates.length (Nat.le_refl _) _ (root_below ho hl)]
  rfl
theorem reb_outv {c : Cir} (ho : c.Ok) {of0 keep : List Nat} (h0 : OfOk c of0 (c.inp.toNat + keep.length + 1)) (hk : keep.length ≤ c.latch.length) (hk2 : ∀ k ∈ keep, k < c.latch.length) (i s s' : Nat) (hb : ∀ v, v < c.nv → litW ((c.reb of0 keep).vals i s') (of0.getD v 0) = (vals0 c i s).getD v false) : (c.reb of0 keep).outv i s' = c.outv i s := by
  unfold Cir.outv
  rw [show (c.reb of0 keep).out.length = c.out.length by simp [Cir.reb]]
  refine packN_congr _ fun j hj => ?_
  show lit _ ((c.out.map _).getD j 0) = _
  rw [getD_map _ c.out 0 0 hj]
  exact reb_lit ho h0 hk hk2 i s s' hb (List.mem_append_right _ (getD_memL hj))
/-- A latch that was kept. -/
theorem reb_nxt {c : Cir} (ho : c.Ok) {of0 keep : List Nat} (h0 : OfOk c of0 (c.inp.toNat + keep.length + 1)) (hk : keep.length ≤ c.latch.length) (hk2 : ∀ k ∈ keep, k < c.latch.length) (i s s' : Nat) (hb : ∀ v, v < c.nv → litW ((c.reb of0 keep).vals i s') (of0.getD v 0) = (vals0 c i s).getD v false) {j : Nat} (hj : j < keep.length) : ((c.reb of0 keep).nxt i s').testBit j = (c.nxt i s).testBit (keep.getD j 0) := by
  unfold Cir.nxt
  have hkj : keep.getD j 0 < c.latch.length := hk2 _ (getD_memL hj)
  rw [packN_bit, packN_bit, decide_eq_true hkj, show (c.reb of0 keep).latch.length = keep.length by simp [Cir.reb], decide_eq_true hj, Bool.true_and, Bool.true_and]
  show lit _ ((keep.map _).getD j 0) = _
  rw [getD_map _ keep 0 0 hj]
  exact reb_lit ho h0 hk hk2 i s s' hb (List.mem_append_left _ (getD_memL hkj))
end Go.Proofs.Ytmghlldboiplpaa
