/- IndexDual: the law. -/
import Derived.Test.YtljedopidipabaaIrf
import Derived.Test.YtljedopidipabaaIaw
-- VkG VkH VmA
set_option linter.unusedVariables false
set_option linter.unusedSimpArgs false
set_option maxRecDepth 100000
set_option maxHeartbeats 4000000
namespace Go.Proofs.Ytljedopidipabaa
open Go Go.Vh Go.Vk Go.Proofs
theorem dualA_len (a : Au) (hf : a.Fits) : (dualA a).1.start.length ≤ 4611686018427387904 ∧ (dualA a).1.es.length ≤ 4611686018427387904 := by
  have h1 := hf.ns
  have h2 := hf.ne
  have e : errA.start.length ≤ 4611686018427387904 ∧ errA.es.length ≤ 4611686018427387904 := ⟨Nat.zero_le _, Nat.zero_le _⟩
  have u : (dualU a (a.marks + 1)).start.length ≤ 4611686018427387904 ∧ (dualU a (a.marks + 1)).es.length ≤ 4611686018427387904 := ⟨h1, by show (a.es.map _).length ≤ _; rw [List.length_map]; exact h2⟩
  have g : (dualG a).start.length ≤ 4611686018427387904 ∧ (dualG a).es.length ≤ 4611686018427387904 := ⟨h1, by show (a.es.map _).length ≤ _; rw [List.length_map]; exact h2⟩
  unfold dualA
  split
  · split
    · exact ⟨h1, h2⟩
    · split
      · exact ⟨h1, h2⟩
      · split
        · exact ⟨h1, h2⟩
        · split
          · exact ⟨h1, h2⟩
          · split
            · dsimp only
              split
              · exact e
              · exact u
            · split
              · exact e
              · exact g
  · exact e
theorem law3c (a : Au) (hf : a.Fits) : CallW Try.prog 3 [a.rv] emptyH fun r _ => r = .bool true := by
  have l1 := dualA_len a hf
  have c1 := fun H => dualR a hf H
  have c2 := fun H => dualRr a hf H
  have c3 := fun H => maxR a hf H
  have c4 := fun H => maxRr a hf H
  obtain ⟨b, e, hb⟩ : ∃ b e, dualA a = (b, e) := ⟨_, _, rfl⟩
  obtain ⟨c, g, hc⟩ : ∃ c g, maxA a = (c, g) := ⟨_, _, rfl⟩
  rw [hb] at l1 c1 c2
  rw [hc] at c3 c4
  dsimp only at l1 c1 c2 c3 c4
  refine CallW.symK (cuts := []) Try.func3 rfl (by kernel_rfl) ?_
  conv => whnf
  repeat' first
    | ((with_reducible refine Gets.shrN ?_ ?_); (· omega); conv => whnf)
    | ((with_reducible refine Gets.andOne ?_ ?_); (· first | omega | exact Nat.lt_of_le_of_lt (Nat.shiftRight_le _ _) (by omega)); conv => whnf)
    | ((with_reducible refine Gets.shlN ?_ ?_); (· omega); conv => whnf)
    | ((with_reducible refine Gets.shlI ?_ ?_ ?_); (· omega); (· omega); conv => whnf)
    | ((with_reducible refine Gets.quoI ?_ ?_ ?_ ?_); (· omega); (· omega); (· omega); conv => whnf)
    | ((with_reducible refine Gets.remN ?_ ?_ ?_); (· omega); (· omega); conv => whnf)
    | ((with_reducible refine Fork.bit (fun _ => ?_) (fun _ => ?_)) <;> (conv => whnf))
    | ((with_reducible refine Gets.addI ?_ ?_ ?_); (· omega); (· omega); conv => whnf)
    | ((with_reducible refine Gets.subI ?_ ?_ ?_); (· omega); (· omega); conv => whnf)
    | ((with_reducible refine Gets.mulI ?_ ?_ ?_); (· omega); (· omega); conv => whnf)
    | (refine Gets.of _ rfl ?_; conv => whnf)
    | (refine Gets.ix1v rfl rfl (by omega) ?_; conv => whnf)
    | (refine Gets.ix1 rfl rfl (by omega) ?_; conv => whnf)
    | (refine Gets.ixIv rfl rfl (by omega) (by omega) ?_; conv => whnf)
    | (refine Gets.ixI rfl rfl (by omega) (by omega) ?_; conv => whnf)
    | (refine Gets.ixEv (es := 2) rfl rfl (by omega) ?_; conv => whnf)
    | (refine Gets.ixE (es := 2) rfl rfl (by omega) ?_; conv => whnf)
    | (refine Gets.ldP (ti := tiP) rfl rfl rfl (by first | rfl | assumption) (by first | omega | exact Nat.le_of_ble_eq_true rfl) ?_; conv => whnf)
    | (refine Gets.ldI rfl (by first | rfl | assumption) (by first | omega | exact Nat.le_of_ble_eq_true rfl) ?_; conv => whnf)
    | (refine Gets.ldB rfl (by first | rfl | assumption) (by first | omega | exact Nat.le_of_ble_eq_true rfl) ?_; conv => whnf)
    | (refine Gets.ixR1 rfl rfl (by omega) ?_; conv => whnf)
    | (refine Gets.ixRI rfl rfl (by omega) (by omega) ?_; conv => whnf)
    | (refine Gets.ldRI rfl (by first | omega | exact Nat.le_of_ble_eq_true rfl) ?_; conv => whnf)
    | (refine Gets.ldRB rfl (by first | omega | exact Nat.le_of_ble_eq_true rfl) ?_; conv => whnf)
    | (refine Chk.mk (by repeat first | exact .nil | refine .cons rfl ?_) ?_; conv => whnf)
    | (refine Alls.mk ?_ ?_ <;> conv => whnf)
    | (refine Gets.stA rfl rfl rfl rfl (by simp only [List.all_cons, List.all_nil, oI_sc, oP_sc, oN_sc, Bool.and_true, Bool.true_and] <;> rfl) ?_; conv => whnf)
    | (refine seqL1_of ?_; conv => whnf)
    | (refine seqV_of ?_; conv => whnf)
    | (refine seq1_of ?_; conv => whnf)
    | (refine seq0_of ?_; conv => whnf)
    | (refine Fork.yesR rfl ?_; conv => whnf)
    | (refine Fork.noR rfl ?_; conv => whnf)
    | (refine Fork.dec (fun _ => ?_) (fun _ => ?_) <;> first | (exfalso; omega) | (conv => whnf))
    | (refine Fork.eqI (fun _ => ?_) (fun _ => ?_) <;> first | (exfalso; omega) | (conv => whnf))
    | (refine Fork.neI (fun _ => ?_) (fun _ => ?_) <;> first | (exfalso; omega) | (conv => whnf))
    | (refine Fork.any (fun _ => ?_) (fun _ => ?_) <;> (conv => whnf))
  refine CallS.of (by kernel_rfl) ((fewA [a] (by rintro x hx; rcases List.mem_cons.1 hx with rfl | hx; exact hf; cases hx) (by simp) 100 300 40 (by decide) (by decide) _).argsF [1] rfl (.keep (.keep (.keep (.frz (.slice (es := 6) (cs := acells [a]) rfl rfl (Nat.le_refl 6) (.same rfl)) .nil))))) rfl ?_
  rintro _ _ ⟨rfl, hq | hq⟩
  all_goals conv => whnf
  all_goals
    repeat' first
      | ((with_reducible refine Gets.shrN ?_ ?_); (· omega); conv => whnf)
      | ((with_reducible refine Gets.andOne ?_ ?_); (· first | omega | exact Nat.lt_of_le_of_lt (Nat.shiftRight_le _ _) (by omega)); conv => whnf)
      | ((with_reducible refine Gets.shlN ?_ ?_); (· omega); conv => whnf)
      | ((with_reducible refine Gets.shlI ?_ ?_ ?_); (· omega); (· omega); conv => whnf)
      | ((with_reducible refine Gets.quoI ?_ ?_ ?_ ?_); (· omega); (· omega); (· omega); conv => whnf)
      | ((with_reducible refine Gets.remN ?_ ?_ ?_); (· omega); (· omega); conv => whnf)
      | ((with_reducible refine Fork.bit (fun _ => ?_) (fun _ => ?_)) <;> (conv => whnf))
      | ((with_reducible refine Gets.addI ?_ ?_ ?_); (· omega); (· omega); conv => whnf)
      | ((with_reducible refine Gets.subI ?_ ?_ ?_); (· omega); (· omega); conv => whnf)
      | ((with_reducible refine Gets.mulI ?_ ?_ ?_); (· omega); (· omega); conv => whnf)
      | (refine Gets.of _ rfl ?_; conv => whnf)
      | (refine Gets.ix1v rfl rfl (by omega) ?_; conv => whnf)
      | (refine Gets.ix1 rfl rfl (by omega) ?_; conv => whnf)
      | (refine Gets.ixIv rfl rfl (by omega) (by omega) ?_; conv => whnf)
      | (refine Gets.ixI rfl rfl (by omega) (by omega) ?_; conv => whnf)
      | (refine Gets.ixEv (es := 2) rfl rfl (by omega) ?_; conv => whnf)
      | (refine Gets.ixE (es := 2) rfl rfl (by omega) ?_; conv => whnf)
      | (refine Gets.ldP (ti := tiP) rfl rfl rfl (by first | rfl | assumption) (by first | omega | exact Nat.le_of_ble_eq_true rfl) ?_; conv => whnf)
      | (refine Gets.ldI rfl (by first | rfl | assumption) (by first | omega | exact Nat.le_of_ble_eq_true rfl) ?_; conv => whnf)
      | (refine Gets.ldB rfl (by first | rfl | assumption) (by first | omega | exact Nat.le_of_ble_eq_true rfl) ?_; conv => whnf)
      | (refine Gets.ixR1 rfl rfl (by omega) ?_; conv => whnf)
      | (refine Gets.ixRI rfl rfl (by omega) (by omega) ?_; conv => whnf)
      | (refine Gets.ldRI rfl (by first | omega | exact Nat.le_of_ble_eq_true rfl) ?_; conv => whnf)
      | (refine Gets.ldRB rfl (by first | omega | exact Nat.le_of_ble_eq_true rfl) ?_; conv => whnf)
      | (refine Chk.mk (by repeat first | exact .nil | refine .cons rfl ?_) ?_; conv => whnf)
      | (refine Alls.mk ?_ ?_ <;> conv => whnf)
      | (refine Gets.stA rfl rfl rfl rfl (by simp only [List.all_cons, List.all_nil, oI_sc, oP_sc, oN_sc, Bool.and_true, Bool.true_and] <;> rfl) ?_; conv => whnf)
      | (refine seqL1_of ?_; conv => whnf)
      | (refine seqV_of ?_; conv => whnf)
      | (refine seq1_of ?_; conv => whnf)
      | (refine seq0_of ?_; conv => whnf)
      | (refine Fork.yesR rfl ?_; conv => whnf)
      | (refine Fork.noR rfl ?_; conv => whnf)
      | (refine Fork.dec (fun _ => ?_) (fun _ => ?_) <;> first | (exfalso; omega) | (conv => whnf))
      | (refine Fork.eqI (fun _ => ?_) (fun _ => ?_) <;> first | (exfalso; omega) | (conv => whnf))
      | (refine Fork.neI (fun _ => ?_) (fun _ => ?_) <;> first | (exfalso; omega) | (conv => whnf))
      | (refine Fork.any (fun _ => ?_) (fun _ => ?_) <;> (conv => whnf))
  rotate_left
  · refine CallS.of (by kernel_rfl) (awake _) rfl ?_
    rintro _ _ ⟨rfl, rfl⟩
    conv => whnf
    repeat' first
      | ((with_reducible refine Gets.shrN ?_ ?_); (· omega); conv => whnf)
      | ((with_reducible refine Gets.andOne ?_ ?_); (· first | omega | exact Nat.lt_of_le_of_lt (Nat.shiftRight_le _ _) (by omega)); conv => whnf)
      | ((with_reducible refine Gets.shlN ?_ ?_); (· omega); conv => whnf)
      | ((with_reducible refine Gets.shlI ?_ ?_ ?_); (· omega); (· omega); conv => whnf)
      | ((with_reducible refine Gets.quoI ?_ ?_ ?_ ?_); (· omega); (· omega); (· omega); conv => whnf)
      | ((with_reducible refine Gets.remN ?_ ?_ ?_); (· omega); (· omega); conv => whnf)
      | ((with_reducible refine Fork.bit (fun _ => ?_) (fun _ => ?_)) <;> (conv => whnf))
      | ((with_reducible refine Gets.addI ?_ ?_ ?_); (· omega); (· omega); conv => whnf)
      | ((with_reducible refine Gets.subI ?_ ?_ ?_); (· omega); (· omega); conv => whnf)
      | ((with_reducible refine Gets.mulI ?_ ?_ ?_); (· omega); (· omega); conv => whnf)
      | (refine Gets.of _ rfl ?_; conv => whnf)
      | (refine Gets.ix1v rfl rfl (by omega) ?_; conv => whnf)
      | (refine Gets.ix1 rfl rfl (by omega) ?_; conv => whnf)
      | (refine Gets.ixIv rfl rfl (by omega) (by omega) ?_; conv => whnf)
      | (refine Gets.ixI rfl rfl (by omega) (by omega) ?_; conv => whnf)
      | (refine Gets.ixEv (es := 2) rfl rfl (by omega) ?_; conv => whnf)
      | (refine Gets.ixE (es := 2) rfl rfl (by omega) ?_; conv => whnf)
      | (refine Gets.ldP (ti := tiP) rfl rfl rfl (by first | rfl | assumption) (by first | omega | exact Nat.le_of_ble_eq_true rfl) ?_; conv => whnf)
      | (refine Gets.ldI rfl (by first | rfl | assumption) (by first | omega | exact Nat.le_of_ble_eq_true rfl) ?_; conv => whnf)
      | (refine Gets.ldB rfl (by first | rfl | assumption) (by first | omega | exact Nat.le_of_ble_eq_true rfl) ?_; conv => whnf)
      | (refine Gets.ixR1 rfl rfl (by omega) ?_; conv => whnf)
      | (refine Gets.ixRI rfl rfl (by omega) (by omega) ?_; conv => whnf)
      | (refine Gets.ldRI rfl (by first | omega | exact Nat.le_of_ble_eq_true rfl) ?_; conv => whnf)
      | (refine Gets.ldRB rfl (by first | omega | exact Nat.le_of_ble_eq_true rfl) ?_; conv => whnf)
      | (refine Chk.mk (by repeat first | exact .nil | refine .cons rfl ?_) ?_; conv => whnf)
      | (refine Alls.mk ?_ ?_ <;> conv => whnf)
      | (refine Gets.stA rfl rfl rfl rfl (by simp only [List.all_cons, List.all_nil, oI_sc, oP_sc, oN_sc, Bool.and_true, Bool.true_and] <;> rfl) ?_; conv => whnf)
      | (refine seqL1_of ?_; conv => whnf)
      | (refine seqV_of ?_; conv => whnf)
      | (refine seq1_of ?_; conv => whnf)
      | (refine seq0_of ?_; conv => whnf)
      | (refine Fork.yesR rfl ?_; conv => whnf)
      | (refine Fork.noR rfl ?_; conv => whnf)
      | (refine Fork.dec (fun _ => ?_) (fun _ => ?_) <;> first | (exfalso; omega) | (conv => whnf))
      | (refine Fork.eqI (fun _ => ?_) (fun _ => ?_) <;> first | (exfalso; omega) | (conv => whnf))
      | (refine Fork.neI (fun _ => ?_) (fun _ => ?_) <;> first | (exfalso; omega) | (conv => whnf))
      | (refine Fork.any (fun _ => ?_) (fun _ => ?_) <;> (conv => whnf))
  refine CallS.of (by kernel_rfl) (c1 _) rfl ?_
  rintro _ _ ⟨rfl, rfl⟩
  conv => whnf
  repeat' first
    | ((refine Gets.stA rfl rfl rfl rfl (by rfl) ?_); conv => whnf)
    | ((with_reducible refine Gets.shrN ?_ ?_); (· omega); conv => whnf)
    | ((with_reducible refine Gets.andOne ?_ ?_); (· first | omega | exact Nat.lt_of_le_of_lt (Nat.shiftRight_le _ _) (by omega)); conv => whnf)
    | ((with_reducible refine Gets.shlN ?_ ?_); (· omega); conv => whnf)
    | ((with_reducible refine Gets.shlI ?_ ?_ ?_); (· omega); (· omega); conv => whnf)
    | ((with_reducible refine Gets.quoI ?_ ?_ ?_ ?_); (· omega); (· omega); (· omega); conv => whnf)
    | ((with_reducible refine Gets.remN ?_ ?_ ?_); (· omega); (· omega); conv => whnf)
    | ((with_reducible refine Fork.bit (fun _ => ?_) (fun _ => ?_)) <;> (conv => whnf))
    | ((with_reducible refine Gets.addI ?_ ?_ ?_); (· omega); (· omega); conv => whnf)
    | ((with_reducible refine Gets.subI ?_ ?_ ?_); (· omega); (· omega); conv => whnf)
    | ((with_reducible refine Gets.mulI ?_ ?_ ?_); (· omega); (· omega); conv => whnf)
    | (refine Gets.of _ rfl ?_; conv => whnf)
    | (refine Gets.ix1v rfl rfl (by omega) ?_; conv => whnf)
    | (refine Gets.ix1 rfl rfl (by omega) ?_; conv => whnf)
    | (refine Gets.ixIv rfl rfl (by omega) (by omega) ?_; conv => whnf)
    | (refine Gets.ixI rfl rfl (by omega) (by omega) ?_; conv => whnf)
    | (refine Gets.ixEv (es := 2) rfl rfl (by omega) ?_; conv => whnf)
    | (refine Gets.ixE (es := 2) rfl rfl (by omega) ?_; conv => whnf)
    | (refine Gets.ldP (ti := tiP) rfl rfl rfl (by first | rfl | assumption) (by first | omega | exact Nat.le_of_ble_eq_true rfl) ?_; conv => whnf)
    | (refine Gets.ldI rfl (by first | rfl | assumption) (by first | omega | exact Nat.le_of_ble_eq_true rfl) ?_; conv => whnf)
    | (refine Gets.ldB rfl (by first | rfl | assumption) (by first | omega | exact Nat.le_of_ble_eq_true rfl) ?_; conv => whnf)
    | (refine Gets.ixR1 rfl rfl (by omega) ?_; conv => whnf)
    | (refine Gets.ixRI rfl rfl (by omega) (by omega) ?_; conv => whnf)
    | (refine Gets.ldRI rfl (by first | omega | exact Nat.le_of_ble_eq_true rfl) ?_; conv => whnf)
    | (refine Gets.ldRB rfl (by first | omega | exact Nat.le_of_ble_eq_true rfl) ?_; conv => whnf)
    | (refine Chk.mk (by repeat first | exact .nil | refine .cons rfl ?_) ?_; conv => whnf)
    | (refine Alls.mk ?_ ?_ <;> conv => whnf)
    | (refine Gets.stA rfl rfl rfl rfl (by simp only [List.all_cons, List.all_nil, oI_sc, oP_sc, oN_sc, Bool.and_true, Bool.true_and] <;> rfl) ?_; conv => whnf)
    | (refine seqL1_of ?_; conv => whnf)
    | (refine seqV_of ?_; conv => whnf)
    | (refine seq1_of ?_; conv => whnf)
    | (refine seq0_of ?_; conv => whnf)
    | (refine Fork.yesR rfl ?_; conv => whnf)
    | (refine Fork.noR rfl ?_; conv => whnf)
    | (refine Fork.dec (fun _ => ?_) (fun _ => ?_) <;> first | (exfalso; omega) | (conv => whnf))
    | (refine Fork.eqI (fun _ => ?_) (fun _ => ?_) <;> first | (exfalso; omega) | (conv => whnf))
    | (refine Fork.neI (fun _ => ?_) (fun _ => ?_) <;> first | (exfalso; omega) | (conv => whnf))
    | (refine Fork.any (fun _ => ?_) (fun _ => ?_) <;> (conv => whnf))
  refine CallS.of (by kernel_rfl) (c2 _) rfl ?_
  rintro _ _ ⟨rfl, rfl⟩
  conv => whnf
  repeat' first
    | ((refine Gets.stA rfl rfl rfl rfl (by rfl) ?_); conv => whnf)
    | ((with_reducible refine Gets.shrN ?_ ?_); (· omega); conv => whnf)
    | ((with_reducible refine Gets.andOne ?_ ?_); (· first | omega | exact Nat.lt_of_le_of_lt (Nat.shiftRight_le _ _) (by omega)); conv => whnf)
    | ((with_reducible refine Gets.shlN ?_ ?_); (· omega); conv => whnf)
    | ((with_reducible refine Gets.shlI ?_ ?_ ?_); (· omega); (· omega); conv => whnf)
    | ((with_reducible refine Gets.quoI ?_ ?_ ?_ ?_); (· omega); (· omega); (· omega); conv => whnf)
    | ((with_reducible refine Gets.remN ?_ ?_ ?_); (· omega); (· omega); conv => whnf)
    | ((with_reducible refine Fork.bit (fun _ => ?_) (fun _ => ?_)) <;> (conv => whnf))
    | ((with_reducible refine Gets.addI ?_ ?_ ?_); (· omega); (· omega); conv => whnf)
    | ((with_reducible refine Gets.subI ?_ ?_ ?_); (· omega); (· omega); conv => whnf)
    | ((with_reducible refine Gets.mulI ?_ ?_ ?_); (· omega); (· omega); conv => whnf)
    | (refine Gets.of _ rfl ?_; conv => whnf)
    | (refine Gets.ix1v rfl rfl (by omega) ?_; conv => whnf)
    | (refine Gets.ix1 rfl rfl (by omega) ?_; conv => whnf)
    | (refine Gets.ixIv rfl rfl (by omega) (by omega) ?_; conv => whnf)
    | (refine Gets.ixI rfl rfl (by omega) (by omega) ?_; conv => whnf)
    | (refine Gets.ixEv (es := 2) rfl rfl (by omega) ?_; conv => whnf)
    | (refine Gets.ixE (es := 2) rfl rfl (by omega) ?_; conv => whnf)
    | (refine Gets.ldP (ti := tiP) rfl rfl rfl (by first | rfl | assumption) (by first | omega | exact Nat.le_of_ble_eq_true rfl) ?_; conv => whnf)
    | (refine Gets.ldI rfl (by first | rfl | assumption) (by first | omega | exact Nat.le_of_ble_eq_true rfl) ?_; conv => whnf)
    | (refine Gets.ldB rfl (by first | rfl | assumption) (by first | omega | exact Nat.le_of_ble_eq_true rfl) ?_; conv => whnf)
    | (refine Gets.ixR1 rfl rfl (by omega) ?_; conv => whnf)
    | (refine Gets.ixRI rfl rfl (by omega) (by omega) ?_; conv => whnf)
    | (refine Gets.ldRI rfl (by first | omega | exact Nat.le_of_ble_eq_true rfl) ?_; conv => whnf)
    | (refine Gets.ldRB rfl (by first | omega | exact Nat.le_of_ble_eq_true rfl) ?_; conv => whnf)
    | (refine Chk.mk (by repeat first | exact .nil | refine .cons rfl ?_) ?_; conv => whnf)
    | (refine Alls.mk ?_ ?_ <;> conv => whnf)
    | (refine Gets.stA rfl rfl rfl rfl (by simp only [List.all_cons, List.all_nil, oI_sc, oP_sc, oN_sc, Bool.and_true, Bool.true_and] <;> rfl) ?_; conv => whnf)
    | (refine seqL1_of ?_; conv => whnf)
    | (refine seqV_of ?_; conv => whnf)
    | (refine seq1_of ?_; conv => whnf)
    | (refine seq0_of ?_; conv => whnf)
    | (refine Fork.yesR rfl ?_; conv => whnf)
    | (refine Fork.noR rfl ?_; conv => whnf)
    | (refine Fork.dec (fun _ => ?_) (fun _ => ?_) <;> first | (exfalso; omega) | (conv => whnf))
    | (refine Fork.eqI (fun _ => ?_) (fun _ => ?_) <;> first | (exfalso; omega) | (conv => whnf))
    | (refine Fork.neI (fun _ => ?_) (fun _ => ?_) <;> first | (exfalso; omega) | (conv => whnf))
    | (refine Fork.any (fun _ => ?_) (fun _ => ?_) <;> (conv => whnf))
  refine CallS.of (by kernel_rfl) (c3 _) rfl ?_
  rintro _ _ ⟨rfl, rfl⟩
  conv => whnf
  repeat' first
    | ((with_reducible refine Gets.shrN ?_ ?_); (· omega); conv => whnf)
    | ((with_reducible refine Gets.andOne ?_ ?_); (· first | omega | exact Nat.lt_of_le_of_lt (Nat.shiftRight_le _ _) (by omega)); conv => whnf)
    | ((with_reducible refine Gets.shlN ?_ ?_); (· omega); conv => whnf)
    | ((with_reducible refine Gets.shlI ?_ ?_ ?_); (· omega); (· omega); conv => whnf)
    | ((with_reducible refine Gets.quoI ?_ ?_ ?_ ?_); (· omega); (· omega); (· omega); conv => whnf)
    | ((with_reducible refine Gets.remN ?_ ?_ ?_); (· omega); (· omega); conv => whnf)
    | ((with_reducible refine Fork.bit (fun _ => ?_) (fun _ => ?_)) <;> (conv => whnf))
    | ((with_reducible refine Gets.addI ?_ ?_ ?_); (· omega); (· omega); conv => whnf)
    | ((with_reducible refine Gets.subI ?_ ?_ ?_); (· omega); (· omega); conv => whnf)
    | ((with_reducible refine Gets.mulI ?_ ?_ ?_); (· omega); (· omega); conv => whnf)
    | (refine Gets.of _ rfl ?_; conv => whnf)
    | (refine Gets.ix1v rfl rfl (by omega) ?_; conv => whnf)
    | (refine Gets.ix1 rfl rfl (by omega) ?_; conv => whnf)
    | (refine Gets.ixIv rfl rfl (by omega) (by omega) ?_; conv => whnf)
    | (refine Gets.ixI rfl rfl (by omega) (by omega) ?_; conv => whnf)
    | (refine Gets.ixEv (es := 2) rfl rfl (by omega) ?_; conv => whnf)
    | (refine Gets.ixE (es := 2) rfl rfl (by omega) ?_; conv => whnf)
    | (refine Gets.ldP (ti := tiP) rfl rfl rfl (by first | rfl | assumption) (by first | omega | exact Nat.le_of_ble_eq_true rfl) ?_; conv => whnf)
    | (refine Gets.ldI rfl (by first | rfl | assumption) (by first | omega | exact Nat.le_of_ble_eq_true rfl) ?_; conv => whnf)
    | (refine Gets.ldB rfl (by first | rfl | assumption) (by first | omega | exact Nat.le_of_ble_eq_true rfl) ?_; conv => whnf)
    | (refine Gets.ixR1 rfl rfl (by omega) ?_; conv => whnf)
    | (refine Gets.ixRI rfl rfl (by omega) (by omega) ?_; conv => whnf)
    | (refine Gets.ldRI rfl (by first | omega | exact Nat.le_of_ble_eq_true rfl) ?_; conv => whnf)
    | (refine Gets.ldRB rfl (by first | omega | exact Nat.le_of_ble_eq_true rfl) ?_; conv => whnf)
    | (refine Chk.mk (by repeat first | exact .nil | refine .cons rfl ?_) ?_; conv => whnf)
    | (refine Alls.mk ?_ ?_ <;> conv => whnf)
    | (refine Gets.stA rfl rfl rfl rfl (by simp only [List.all_cons, List.all_nil, oI_sc, oP_sc, oN_sc, Bool.and_true, Bool.true_and] <;> rfl) ?_; conv => whnf)
    | (refine seqL1_of ?_; conv => whnf)
    | (refine seqV_of ?_; conv => whnf)
    | (refine seq1_of ?_; conv => whnf)
    | (refine seq0_of ?_; conv => whnf)
    | (refine Fork.yesR rfl ?_; conv => whnf)
    | (refine Fork.noR rfl ?_; conv => whnf)
    | (refine Fork.dec (fun _ => ?_) (fun _ => ?_) <;> first | (exfalso; omega) | (conv => whnf))
    | (refine Fork.eqI (fun _ => ?_) (fun _ => ?_) <;> first | (exfalso; omega) | (conv => whnf))
    | (refine Fork.neI (fun _ => ?_) (fun _ => ?_) <;> first | (exfalso; omega) | (conv => whnf))
    | (refine Fork.any (fun _ => ?_) (fun _ => ?_) <;> (conv => whnf))
  refine CallS.of (by kernel_rfl) (c4 _) rfl ?_
  rintro _ _ ⟨rfl, rfl⟩
  conv => whnf
  repeat' first
    | ((with_reducible refine Gets.shrN ?_ ?_); (· omega); conv => whnf)
    | ((with_reducible refine Gets.andOne ?_ ?_); (· first | omega | exact Nat.lt_of_le_of_lt (Nat.shiftRight_le _ _) (by omega)); conv => whnf)
    | ((with_reducible refine Gets.shlN ?_ ?_); (· omega); conv => whnf)
    | ((with_reducible refine Gets.shlI ?_ ?_ ?_); (· omega); (· omega); conv => whnf)
    | ((with_reducible refine Gets.quoI ?_ ?_ ?_ ?_); (· omega); (· omega); (· omega); conv => whnf)
    | ((with_reducible refine Gets.remN ?_ ?_ ?_); (· omega); (· omega); conv => whnf)
    | ((with_reducible refine Fork.bit (fun _ => ?_) (fun _ => ?_)) <;> (conv => whnf))
    | ((with_reducible refine Gets.addI ?_ ?_ ?_); (· omega); (· omega); conv => whnf)
    | ((with_reducible refine Gets.subI ?_ ?_ ?_); (· omega); (· omega); conv => whnf)
    | ((with_reducible refine Gets.mulI ?_ ?_ ?_); (· omega); (· omega); conv => whnf)
    | (refine Gets.of _ rfl ?_; conv => whnf)
    | (refine Gets.ix1v rfl rfl (by omega) ?_; conv => whnf)
    | (refine Gets.ix1 rfl rfl (by omega) ?_; conv => whnf)
    | (refine Gets.ixIv rfl rfl (by omega) (by omega) ?_; conv => whnf)
    | (refine Gets.ixI rfl rfl (by omega) (by omega) ?_; conv => whnf)
    | (refine Gets.ixEv (es := 2) rfl rfl (by omega) ?_; conv => whnf)
    | (refine Gets.ixE (es := 2) rfl rfl (by omega) ?_; conv => whnf)
    | (refine Gets.ldP (ti := tiP) rfl rfl rfl (by first | rfl | assumption) (by first | omega | exact Nat.le_of_ble_eq_true rfl) ?_; conv => whnf)
    | (refine Gets.ldI rfl (by first | rfl | assumption) (by first | omega | exact Nat.le_of_ble_eq_true rfl) ?_; conv => whnf)
    | (refine Gets.ldB rfl (by first | rfl | assumption) (by first | omega | exact Nat.le_of_ble_eq_true rfl) ?_; conv => whnf)
    | (refine Gets.ixR1 rfl rfl (by omega) ?_; conv => whnf)
    | (refine Gets.ixRI rfl rfl (by omega) (by omega) ?_; conv => whnf)
    | (refine Gets.ldRI rfl (by first | omega | exact Nat.le_of_ble_eq_true rfl) ?_; conv => whnf)
    | (refine Gets.ldRB rfl (by first | omega | exact Nat.le_of_ble_eq_true rfl) ?_; conv => whnf)
    | (refine Chk.mk (by repeat first | exact .nil | refine .cons rfl ?_) ?_; conv => whnf)
    | (refine Alls.mk ?_ ?_ <;> conv => whnf)
    | (refine Gets.stA rfl rfl rfl rfl (by simp only [List.all_cons, List.all_nil, oI_sc, oP_sc, oN_sc, Bool.and_true, Bool.true_and] <;> rfl) ?_; conv => whnf)
    | (refine seqL1_of ?_; conv => whnf)
    | (refine seqV_of ?_; conv => whnf)
    | (refine seq1_of ?_; conv => whnf)
    | (refine seq0_of ?_; conv => whnf)
    | (refine Fork.yesR rfl ?_; conv => whnf)
    | (refine Fork.noR rfl ?_; conv => whnf)
    | (refine Fork.dec (fun _ => ?_) (fun _ => ?_) <;> first | (exfalso; omega) | (conv => whnf))
    | (refine Fork.eqI (fun _ => ?_) (fun _ => ?_) <;> first | (exfalso; omega) | (conv => whnf))
    | (refine Fork.neI (fun _ => ?_) (fun _ => ?_) <;> first | (exfalso; omega) | (conv => whnf))
    | (refine Fork.any (fun _ => ?_) (fun _ => ?_) <;> (conv => whnf))
  all_goals first | (rename_i h; exact absurd rfl h) | skip
  refine CallS.of (by kernel_rfl) (sameT b l1.1 l1.2 _) rfl ?_
  rintro _ _ ⟨rfl, rfl⟩
  conv => whnf
  repeat' first
    | ((with_reducible refine Gets.shrN ?_ ?_); (· omega); conv => whnf)
    | ((with_reducible refine Gets.andOne ?_ ?_); (· first | omega | exact Nat.lt_of_le_of_lt (Nat.shiftRight_le _ _) (by omega)); conv => whnf)
    | ((with_reducible refine Gets.shlN ?_ ?_); (· omega); conv => whnf)
    | ((with_reducible refine Gets.shlI ?_ ?_ ?_); (· omega); (· omega); conv => whnf)
    | ((with_reducible refine Gets.quoI ?_ ?_ ?_ ?_); (· omega); (· omega); (· omega); conv => whnf)
    | ((with_reducible refine Gets.remN ?_ ?_ ?_); (· omega); (· omega); conv => whnf)
    | ((with_reducible refine Fork.bit (fun _ => ?_) (fun _ => ?_)) <;> (conv => whnf))
    | ((with_reducible refine Gets.addI ?_ ?_ ?_); (· omega); (· omega); conv => whnf)
    | ((with_reducible refine Gets.subI ?_ ?_ ?_); (· omega); (· omega); conv => whnf)
    | ((with_reducible refine Gets.mulI ?_ ?_ ?_); (· omega); (· omega); conv => whnf)
    | (refine Gets.of _ rfl ?_; conv => whnf)
    | (refine Gets.ix1v rfl rfl (by omega) ?_; conv => whnf)
    | (refine Gets.ix1 rfl rfl (by omega) ?_; conv => whnf)
    | (refine Gets.ixIv rfl rfl (by omega) (by omega) ?_; conv => whnf)
    | (refine Gets.ixI rfl rfl (by omega) (by omega) ?_; conv => whnf)
    | (refine Gets.ixEv (es := 2) rfl rfl (by omega) ?_; conv => whnf)
    | (refine Gets.ixE (es := 2) rfl rfl (by omega) ?_; conv => whnf)
    | (refine Gets.ldP (ti := tiP) rfl rfl rfl (by first | rfl | assumption) (by first | omega | exact Nat.le_of_ble_eq_true rfl) ?_; conv => whnf)
    | (refine Gets.ldI rfl (by first | rfl | assumption) (by first | omega | exact Nat.le_of_ble_eq_true rfl) ?_; conv => whnf)
    | (refine Gets.ldB rfl (by first | rfl | assumption) (by first | omega | exact Nat.le_of_ble_eq_true rfl) ?_; conv => whnf)
    | (refine Gets.ixR1 rfl rfl (by omega) ?_; conv => whnf)
    | (refine Gets.ixRI rfl rfl (by omega) (by omega) ?_; conv => whnf)
    | (refine Gets.ldRI rfl (by first | omega | exact Nat.le_of_ble_eq_true rfl) ?_; conv => whnf)
    | (refine Gets.ldRB rfl (by first | omega | exact Nat.le_of_ble_eq_true rfl) ?_; conv => whnf)
    | (refine Chk.mk (by repeat first | exact .nil | refine .cons rfl ?_) ?_; conv => whnf)
    | (refine Alls.mk ?_ ?_ <;> conv => whnf)
    | (refine Gets.stA rfl rfl rfl rfl (by simp only [List.all_cons, List.all_nil, oI_sc, oP_sc, oN_sc, Bool.and_true, Bool.true_and] <;> rfl) ?_; conv => whnf)
    | (refine seqL1_of ?_; conv => whnf)
    | (refine seqV_of ?_; conv => whnf)
    | (refine seq1_of ?_; conv => whnf)
    | (refine seq0_of ?_; conv => whnf)
    | (refine Fork.yesR rfl ?_; conv => whnf)
    | (refine Fork.noR rfl ?_; conv => whnf)
    | (refine Fork.dec (fun _ => ?_) (fun _ => ?_) <;> first | (exfalso; omega) | (conv => whnf))
    | (refine Fork.eqI (fun _ => ?_) (fun _ => ?_) <;> first | (exfalso; omega) | (conv => whnf))
    | (refine Fork.neI (fun _ => ?_) (fun _ => ?_) <;> first | (exfalso; omega) | (conv => whnf))
    | (refine Fork.any (fun _ => ?_) (fun _ => ?_) <;> (conv => whnf))
  all_goals first | (rename_i h; exact absurd rfl h) | skip
  refine CallS.of (by kernel_rfl) (awake _) rfl ?_
  rintro _ _ ⟨rfl, rfl⟩
  conv => whnf
  repeat' first
    | ((with_reducible refine Gets.shrN ?_ ?_); (· omega); conv => whnf)
    | ((with_reducible refine Gets.andOne ?_ ?_); (· first | omega | exact Nat.lt_of_le_of_lt (Nat.shiftRight_le _ _) (by omega)); conv => whnf)
    | ((with_reducible refine Gets.shlN ?_ ?_); (· omega); conv => whnf)
    | ((with_reducible refine Gets.shlI ?_ ?_ ?_); (· omega); (· omega); conv => whnf)
    | ((with_reducible refine Gets.quoI ?_ ?_ ?_ ?_); (· omega); (· omega); (· omega); conv => whnf)
    | ((with_reducible refine Gets.remN ?_ ?_ ?_); (· omega); (· omega); conv => whnf)
    | ((with_reducible refine Fork.bit (fun _ => ?_) (fun _ => ?_)) <;> (conv => whnf))
    | ((with_reducible refine Gets.addI ?_ ?_ ?_); (· omega); (· omega); conv => whnf)
    | ((with_reducible refine Gets.subI ?_ ?_ ?_); (· omega); (· omega); conv => whnf)
    | ((with_reducible refine Gets.mulI ?_ ?_ ?_); (· omega); (· omega); conv => whnf)
    | (refine Gets.of _ rfl ?_; conv => whnf)
    | (refine Gets.ix1v rfl rfl (by omega) ?_; conv => whnf)
    | (refine Gets.ix1 rfl rfl (by omega) ?_; conv => whnf)
    | (refine Gets.ixIv rfl rfl (by omega) (by omega) ?_; conv => whnf)
    | (refine Gets.ixI rfl rfl (by omega) (by omega) ?_; conv => whnf)
    | (refine Gets.ixEv (es := 2) rfl rfl (by omega) ?_; conv => whnf)
    | (refine Gets.ixE (es := 2) rfl rfl (by omega) ?_; conv => whnf)
    | (refine Gets.ldP (ti := tiP) rfl rfl rfl (by first | rfl | assumption) (by first | omega | exact Nat.le_of_ble_eq_true rfl) ?_; conv => whnf)
    | (refine Gets.ldI rfl (by first | rfl | assumption) (by first | omega | exact Nat.le_of_ble_eq_true rfl) ?_; conv => whnf)
    | (refine Gets.ldB rfl (by first | rfl | assumption) (by first | omega | exact Nat.le_of_ble_eq_true rfl) ?_; conv => whnf)
    | (refine Gets.ixR1 rfl rfl (by omega) ?_; conv => whnf)
    | (refine Gets.ixRI rfl rfl (by omega) (by omega) ?_; conv => whnf)
    | (refine Gets.ldRI rfl (by first | omega | exact Nat.le_of_ble_eq_true rfl) ?_; conv => whnf)
    | (refine Gets.ldRB rfl (by first | omega | exact Nat.le_of_ble_eq_true rfl) ?_; conv => whnf)
    | (refine Chk.mk (by repeat first | exact .nil | refine .cons rfl ?_) ?_; conv => whnf)
    | (refine Alls.mk ?_ ?_ <;> conv => whnf)
    | (refine Gets.stA rfl rfl rfl rfl (by simp only [List.all_cons, List.all_nil, oI_sc, oP_sc, oN_sc, Bool.and_true, Bool.true_and] <;> rfl) ?_; conv => whnf)
    | (refine seqL1_of ?_; conv => whnf)
    | (refine seqV_of ?_; conv => whnf)
    | (refine seq1_of ?_; conv => whnf)
    | (refine seq0_of ?_; conv => whnf)
    | (refine Fork.yesR rfl ?_; conv => whnf)
    | (refine Fork.noR rfl ?_; conv => whnf)
    | (refine Fork.dec (fun _ => ?_) (fun _ => ?_) <;> first | (exfalso; omega) | (conv => whnf))
    | (refine Fork.eqI (fun _ => ?_) (fun _ => ?_) <;> first | (exfalso; omega) | (conv => whnf))
    | (refine Fork.neI (fun _ => ?_) (fun _ => ?_) <;> first | (exfalso; omega) | (conv => whnf))
    | (refine Fork.any (fun _ => ?_) (fun _ => ?_) <;> (conv => whnf))
  rfl
theorem rshape_int {n : Nat} {avs : List AVal} (h : RShape Try.prog n 3 avs) : ∃ m, avs = [.int .i64 m] ∧ argOf Try.prog 3 avs = .int .i64 m ∧ -9223372036854775808 ≤ m ∧ m ≤ 9223372036854775807 := by
  obtain ⟨m, rfl, hm⟩ := h.int Try.underlying3
  exact ⟨m, rfl, by unfold argOf; rw [Try.underlying3]; rfl, hm⟩
theorem rshape_ints {n : Nat} {avs : List AVal} (h : RShape Try.prog n 22 avs) : ∃ l, avs = [rI l] ∧ (∀ x ∈ l, -9223372036854775808 ≤ x ∧ x ≤ 9223372036854775807) ∧ l.length ≤ 1152921504606846976 := h.ints Try.underlying22 Try.underlying3 (by kernel_rfl) (by kernel_rfl)
theorem rshape_aut {n : Nat} {avs : List AVal} (h : RShape Try.prog n 25 avs) : ∃ a : Au, argOf Try.prog 25 avs = a.rv ∧ a.Fits := by
  have e0 : argOf Try.prog 25 avs = .agg avs := by unfold argOf; rw [Try.underlying25]
  rw [e0]
  cases n with
  | zero => exact h.elim
  | succ n =>
    unfold RShape at h
    rw [Try.underlying25] at h
    obtain ⟨hl, hf⟩ := h
    have hc : Try.prog.cellsOf 25 = 6 := by kernel_rfl
    have c22 : Try.prog.cellsOf 22 = 1 := by kernel_rfl
    have c23 : Try.prog.cellsOf 23 = 1 := by kernel_rfl
    have c3 : Try.prog.cellsOf 3 = 1 := by kernel_rfl
    rw [hc] at hl
    rcases avs with _ | ⟨x0, _ | ⟨x1, _ | ⟨x2, _ | ⟨x3, _ | ⟨x4, _ | ⟨x5, _ | ⟨x6, avs⟩⟩⟩⟩⟩⟩⟩
    case cons.cons.cons.cons.cons.cons.nil =>
      have g0 : RShape Try.prog n 3 ((([x0, x1, x2, x3, x4, x5] : List AVal).drop 0).take (Try.prog.cellsOf 3)) := hf 0 _ rfl
      have g1 : RShape Try.prog n 3 ((([x0, x1, x2, x3, x4, x5] : List AVal).drop 1).take (Try.prog.cellsOf 3)) := hf 1 _ rfl
      have g2 : RShape Try.prog n 22 ((([x0, x1, x2, x3, x4, x5] : List AVal).drop 2).take (Try.prog.cellsOf 22)) := hf 2 _ rfl
      have g3 : RShape Try.prog n 3 ((([x0, x1, x2, x3, x4, x5] : List AVal).drop 3).take (Try.prog.cellsOf 3)) := hf 3 _ rfl
      have g4 : RShape Try.prog n 3 ((([x0, x1, x2, x3, x4, x5] : List AVal).drop 4).take (Try.prog.cellsOf 3)) := hf 4 _ rfl
      have g5 : RShape Try.prog n 23 ((([x0, x1, x2, x3, x4, x5] : List AVal).drop 5).take (Try.prog.cellsOf 23)) := hf 5 _ rfl
      rw [c3] at g0 g1 g3 g4
      rw [c22] at g2
      rw [c23] at g5
      obtain ⟨p, e0, _⟩ := rshape_int g0
      obtain ⟨s, e1, _⟩ := rshape_int g1
      obtain ⟨l, e2, _, b2⟩ := rshape_ints g2
      obtain ⟨k, e3, _⟩ := rshape_int g3
      obtain ⟨m, e4, _⟩ := rshape_int g4
      obtain ⟨es, e5, b5, c5⟩ := g5.edges Try.underlying23 (by kernel_rfl) (by kernel_rfl) (by kernel_rfl)
      cases e0; cases e1; cases e2; cases e3; cases e4; cases e5
      exact ⟨⟨p, s, l, k, m, es⟩, rfl, ⟨Nat.le_trans b2 (by decide), c5, b5⟩⟩
    all_goals (simp only [List.length_cons, List.length_nil] at hl; omega)
theorem law3 : ∀ a1, RShape Try.prog 4 25 a1 → CallW Try.prog 3 [argOf Try.prog 25 a1] emptyH fun r _ => r = .bool true := by
  intro a1 h1
  obtain ⟨a, e1, hf⟩ := rshape_aut h1
  rw [e1]
  exact law3c a hf
end Go.Proofs.Ytljedopidipabaa
