/- Gates made anew, by their literals: in plain words. -/
import Derived.Test.YtmghlldboiplpaaSem
set_option linter.unusedVariables false
set_option linter.unusedSimpArgs false
namespace Go.Proofs.Ytmghlldboiplpaa
open Go Go.Vh Go.Vk Go.Proofs
/-- A literal, by what the variables become. -/
def litN (of : List Nat) (l : Int) : Nat := of.getD (l / 2).toNat 0 ^^^ (l % 2).toNat
def litW (w : List Bool) (n : Nat) : Bool := w.getD (n / 2) false != (n % 2 == 1)
theorem lit_nat (w : List Bool) (n : Nat) : lit w (n : Int) = litW w n := by
  unfold lit litW
  rw [show ((n : Int) / 2).toNat = n / 2 by omega]
  congr 1
  rw [Bool.eq_iff_iff]
  simp only [beq_iff_eq]
  omega
theorem xor_one (x : Nat) : x ^^^ 1 = if x % 2 = 0 then x + 1 else x - 1 := by
  refine Nat.eq_of_testBit_eq fun i => ?_
  rw [Nat.testBit_xor]
  rcases i with _ | i
  · rw [Nat.testBit_zero, Nat.testBit_zero]
    split
    · rename_i e
      rw [Nat.testBit_zero, decide_eq_false (show ¬ x % 2 = 1 by omega), decide_eq_true (show (x + 1) % 2 = 1 by omega)]; rfl
    · rename_i e
      rw [Nat.testBit_zero, decide_eq_true (show x % 2 = 1 by omega), decide_eq_false (show ¬ (x - 1) % 2 = 1 by omega)]; rfl
  · rw [Nat.testBit_succ 1 i, show 1 / 2 = 0 from rfl, Nat.zero_testBit, Bool.xor_false]
    split
    · rw [Nat.testBit_succ, Nat.testBit_succ, show (x + 1) / 2 = x / 2 by omega]
    · rw [Nat.testBit_succ, Nat.testBit_succ, show (x - 1) / 2 = x / 2 by omega]
theorem litN_div (of : List Nat) (l : Int) : litN of l / 2 = of.getD (l / 2).toNat 0 / 2 := by
  unfold litN
  generalize of.getD (l / 2).toNat 0 = x
  rcases (show (l % 2).toNat = 0 ∨ (l % 2).toNat = 1 by omega) with h | h <;> rw [h]
  · rw [Nat.xor_zero]
  · rw [xor_one]; split <;> omega
theorem litN_lit (w : List Bool) (of : List Nat) (l : Int) : litW w (litN of l) = (litW w (of.getD (l / 2).toNat 0) != (l % 2 == 1)) := by
  have hd := litN_div of l
  unfold litW
  rw [hd]
  unfold litN
  generalize of.getD (l / 2).toNat 0 = x
  rcases (show (l % 2).toNat = 0 ∨ (l % 2).toNat = 1 by omega) with h | h
  · rw [h, Nat.xor_zero, show (l % 2 == 1) = false by rw [beq_eq_false_iff_ne]; omega, Bool.bne_false]
  · rw [h, xor_one, show (l % 2 == 1) = true by rw [beq_iff_eq]; omega, Bool.bne_true]
    split
    · rename_i e
      rw [show ((x + 1) % 2 == 1) = true by rw [beq_iff_eq]; omega, show (x % 2 == 1) = false by rw [beq_eq_false_iff_ne]; omega]
      cases w.getD (x / 2) false <;> rfl
    · rename_i e
      rw [show ((x - 1) % 2 == 1) = false by rw [beq_eq_false_iff_ne]; omega, show (x % 2 == 1) = true by rw [beq_iff_eq]; omega]
      cases w.getD (x / 2) false <;> rfl
/-- A gate, or what stands for it. -/
def mkN (nb : Nat) (gs : List (Int × Int)) (a b : Nat) : Nat × List (Int × Int) :=
  if min a b = 0 ∨ (min a b / 2 = max a b / 2 ∧ min a b ≠ max a b) then (0, gs)
  else if min a b = 1 ∨ min a b = max a b then (max a b, gs)
  else if (((min a b : Nat) : Int), ((max a b : Nat) : Int)) ∈ gs then (2 * (nb + gs.idxOf (((min a b : Nat) : Int), ((max a b : Nat) : Int))), gs)
  else (2 * (nb + gs.length), gs ++ [(((min a b : Nat) : Int), ((max a b : Nat) : Int))])
/-- Gates in their right form. -/
structure GsOk (nb : Nat) (gs : List (Int × Int)) : Prop where
  f : ∀ k, k < gs.length → 2 ≤ (gs.getD k (0, 0)).1 ∧ (gs.getD k (0, 0)).1 < (gs.getD k (0, 0)).2 ∧ (gs.getD k (0, 0)).1 / 2 ≠ (gs.getD k (0, 0)).2 / 2 ∧ ((gs.getD k (0, 0)).2 / 2).toNat < nb + k
  d : ∀ j k, j < k → k < gs.length → gs.getD j (0, 0) ≠ gs.getD k (0, 0)
theorem getD_app {α : Type} (l m : List α) (d : α) {k : Nat} (h : k < l.length) : (l ++ m).getD k d = l.getD k d := by
  rw [List.getD_eq_getElem?_getD, List.getElem?_append_left h, ← List.getD_eq_getElem?_getD]
theorem getD_snoc {α : Type} (l : List α) (x d : α) : (l ++ [x]).getD l.length d = x := by
  rw [List.getD_eq_getElem?_getD, List.getElem?_append_right (Nat.le_refl _), Nat.sub_self]; rfl
theorem mem_getDP {l : List (Int × Int)} {x : Int × Int} : x ∈ l ↔ ∃ k, k < l.length ∧ l.getD k (0, 0) = x := by
  constructor
  · intro h
    obtain ⟨k, hk, e⟩ := List.getElem_of_mem h
    exact ⟨k, hk, by rw [List.getD_eq_getElem?_getD, List.getElem?_eq_getElem hk]; exact e⟩
  · rintro ⟨k, hk, rfl⟩
    exact getD_memL hk
theorem mkN_ok {nb : Nat} {gs : List (Int × Int)} (h : GsOk nb gs) (a b : Nat) (ha : a / 2 < nb + gs.length) (hb : b / 2 < nb + gs.length) (h0 : 0 < nb) : GsOk nb (mkN nb gs a b).2 ∧ (∃ t, (mkN nb gs a b).2 = gs ++ t ∧ t.length ≤ 1) ∧ (mkN nb gs a b).1 / 2 < nb + (mkN nb gs a b).2.length := by
  unfold mkN
  split
  · exact ⟨h, ⟨[], (List.append_nil _).symm, by simp⟩, by dsimp only; omega⟩
  rename_i n1
  split
  · exact ⟨h, ⟨[], (List.append_nil _).symm, by simp⟩, by dsimp only; omega⟩
  rename_i n2
  split
  · rename_i hm
    have := List.idxOf_lt_length_of_mem hm
    exact ⟨h, ⟨[], (List.append_nil _).symm, by simp⟩, by dsimp only; omega⟩
  rename_i hm
  refine ⟨⟨fun k hk => ?_, fun j k hjk hk => ?_⟩, ⟨_, rfl, by simp⟩, ?_⟩
  · rw [List.length_append, List.length_singleton] at hk
    rcases Nat.lt_or_ge k gs.length with a | a
    · rw [getD_app _ _ _ a]; exact h.f k a
    · obtain rfl : k = gs.length := by omega
      rw [getD_snoc]
      dsimp only
      omega
  · rw [List.length_append, List.length_singleton] at hk
    rcases Nat.lt_or_ge k gs.length with a | a
    · rw [getD_app _ _ _ a, getD_app _ _ _ (Nat.lt_trans hjk a)]; exact h.d j k hjk a
    · obtain rfl : k = gs.length := by omega
      rw [getD_snoc, getD_app _ _ _ hjk]
      intro e
      exact hm (mem_getDP.2 ⟨j, hjk, e⟩)
  · dsimp only
    rw [List.length_append, List.length_singleton]
    omega
/-- What is made tells both. -/
theorem mkN_lit {nb : Nat} {gs gsF : List (Int × Int)} {w : List Bool} (a b : Nat) (hw0 : w.getD 0 false = false) (hF : ∀ j, j < gsF.length → w.getD (nb + j) false = (lit w (gsF.getD j (0, 0)).1 && lit w (gsF.getD j (0, 0)).2)) (hpre : ∃ t, gsF = (mkN nb gs a b).2 ++ t) : litW w (mkN nb gs a b).1 = (litW w a && litW w b) := by
  have hmm : (litW w a && litW w b) = (litW w (min a b) && litW w (max a b)) := by
    rcases Nat.le_total a b with h | h
    · rw [Nat.min_eq_left h, Nat.max_eq_right h]
    · rw [Nat.min_eq_right h, Nat.max_eq_left h, Bool.and_comm]
  rw [hmm]
  clear hmm
  unfold mkN at hpre ⊢
  generalize min a b = x at *
  generalize max a b = y at *
  have hz : litW w 0 = false := by unfold litW; rw [show 0 / 2 = 0 from rfl, hw0]; rfl
  have gate : ∀ j, j < gsF.length → gsF.getD j (0, 0) = ((x : Int), (y : Int)) → litW w (2 * (nb + j)) = (litW w x && litW w y) := fun j hj e => by
    have := hF j hj
    rw [e, lit_nat, lit_nat] at this
    rw [← this]
    unfold litW
    rw [show 2 * (nb + j) / 2 = nb + j by omega, show (2 * (nb + j) % 2 == 1) = false by rw [beq_eq_false_iff_ne]; omega, Bool.bne_false]
  split
  · rename_i h
    rw [hz]
    rcases h with rfl | ⟨h1, h2⟩
    · rw [hz]; rfl
    · unfold litW
      rw [h1]
      have : (x % 2 == 1) = !(y % 2 == 1) := by
        rw [Bool.eq_iff_iff]
        simp only [beq_iff_eq, Bool.not_eq_true', beq_eq_false_iff_ne]
        omega
      rw [this]
      cases w.getD (y / 2) false <;> cases (y % 2 == 1) <;> rfl
  rename_i n1
  rw [if_neg n1] at hpre
  split
  · rename_i h
    rcases h with rfl | rfl
    · have : litW w 1 = true := by unfold litW; rw [show 1 / 2 = 0 from rfl, hw0]; rfl
      rw [this, Bool.true_and]
    · rw [Bool.and_self]
  rename_i n2
  rw [if_neg n2] at hpre
  split
  · rename_i hm
    rw [if_pos hm] at hpre
    obtain ⟨t, rfl⟩ := hpre
    have hl := List.idxOf_lt_length_of_mem hm
    refine gate _ (by dsimp only; rw [List.length_append]; omega) ?_
    dsimp only
    rw [getD_app _ _ _ hl, List.getD_eq_getElem?_getD, List.getElem?_eq_getElem hl]
    exact List.getElem_idxOf hl
  · rename_i hm
    rw [if_neg hm] at hpre
    obtain ⟨t, rfl⟩ := hpre
    refine gate _ (by simp only [List.length_append, List.length_singleton]; omega) ?_
    dsimp only
    rw [getD_app _ _ _ (by simp), getD_snoc]
end Go.Proofs.Ytmghlldboiplpaa
