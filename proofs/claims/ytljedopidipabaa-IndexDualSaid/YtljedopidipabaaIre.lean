/- Dual, of the reference. -/
import Derived.Test.YtljedopidipabaaIdv
-- VkG VkH VmA
set_option linter.unusedVariables false
set_option linter.unusedSimpArgs false
set_option maxRecDepth 100000
set_option maxHeartbeats 4000000
namespace Go.Proofs.Ytljedopidipabaa
open Go Go.Vh Go.Vk Go.Proofs
def genR (M : Nat) : Nat → Int
  | 0 => 0
  | k + 1 => if M.testBit k = true then bitsA .or .i64 (bitsA .or .i64 (genR M k) (shlA .i64 2 (2 * (k : Int)))) ((2 ^ (2 * (k : Int)).toNat : Nat) : Int) else bitsA .or .i64 (genR M k) (shlA .i64 2 (2 * (k : Int)))
def dualM (kind marks : Int) (M : Nat) : Int := if kind = 5 then upI M else if kind = 1 then genR M marks.toNat else M
def genN (M : Nat) : Nat → Nat
  | 0 => 0
  | k + 1 => genN M k ||| ((M >>> k % 2 ||| 2) <<< (2 * k))
theorem shl4 {x k : Nat} (hx : x < 4) (hk : k < 20) : x <<< (2 * k) < 2 ^ (2 * (k + 1)) := by
  rw [Nat.shiftLeft_eq, show 2 * (k + 1) = 2 + 2 * k by omega, Nat.pow_add]
  exact Nat.mul_lt_mul_of_pos_right hx (Nat.pow_pos (by decide))
theorem or2_lt (b : Nat) (hb : b < 2) : b ||| 2 < 4 := Nat.or_lt_two_pow (n := 2) (by omega) (by omega)
theorem genN_lt (M : Nat) : ∀ k, k ≤ 20 → genN M k < 2 ^ (2 * k)
  | 0, _ => by show 0 < 1; omega
  | k + 1, h => by
    have ih := genN_lt M k (by omega)
    have h1 : genN M k < 2 ^ (2 * (k + 1)) := Nat.lt_of_lt_of_le ih (Nat.pow_le_pow_right (by decide) (by omega))
    exact Nat.or_lt_two_pow h1 (shl4 (or2_lt _ (Nat.mod_lt _ (by decide))) (by omega))
theorem p63 {x k : Nat} (h : x < 2 ^ (2 * (k + 1))) (hk : k < 20) : x < 2 ^ 63 := Nat.lt_of_lt_of_le h (Nat.pow_le_pow_right (by decide) (by omega))
theorem shlK {x k : Nat} (hx : x < 4) (hk : k < 20) : shlA .i64 (x : Int) (2 * (k : Int)) = ((x <<< (2 * k) : Nat) : Int) := by
  have h := p63 (shl4 hx hk) hk
  unfold shlA
  rw [show min (2 * (k : Int)).toNat (IntKind.bits .i64) = 2 * k from by show min (2 * (k : Int)).toNat 64 = 2 * k; omega, ← wrap_i64n h]
  congr 1
  rw [Nat.shiftLeft_eq]
  push_cast
  rfl
theorem genP_N (M : Nat) : ∀ k, k ≤ 20 → genP M k = ((genN M k : Nat) : Int)
  | 0, _ => rfl
  | k + 1, h => by
    have hb : M >>> k % 2 < 2 := Nat.mod_lt _ (by decide)
    have h2 := or2_lt _ hb
    have h1 : genN M k < 2 ^ 63 := Nat.lt_of_lt_of_le (genN_lt M k (by omega)) (Nat.pow_le_pow_right (by decide) (by omega))
    rw [genP, genP_N M k (by omega), show (2 : Int) = ((2 : Nat) : Int) from rfl, Vh.orI (by omega) (by omega), show ((2 : Nat) : Int) * (k : Int) = 2 * (k : Int) from rfl, shlK h2 (by omega), Vh.orI h1 (p63 (shl4 h2 (by omega)) (by omega))]
    rfl
theorem genR_N (M : Nat) : ∀ k, k ≤ 20 → genR M k = ((genN M k : Nat) : Int)
  | 0, _ => rfl
  | k + 1, h => by
    have hb : M >>> k % 2 < 2 := Nat.mod_lt _ (by decide)
    have h1 : genN M k < 2 ^ 63 := Nat.lt_of_lt_of_le (genN_lt M k (by omega)) (Nat.pow_le_pow_right (by decide) (by omega))
    have h3 : genN M k < 2 ^ (2 * (k + 1)) := Nat.lt_of_lt_of_le (genN_lt M k (by omega)) (Nat.pow_le_pow_right (by decide) (by omega))
    have e2 : shlA .i64 2 (2 * (k : Int)) = (((2 : Nat) <<< (2 * k) : Nat) : Int) := shlK (x := 2) (by omega) (by omega)
    have e1 : 2 ^ (2 * (k : Int)).toNat = (1 : Nat) <<< (2 * k) := by rw [Nat.shiftLeft_eq, Nat.one_mul, show (2 * (k : Int)).toNat = 2 * k by omega]
    have q2 := shl4 (x := 2) (k := k) (by omega) (by omega)
    have q1 := shl4 (x := 1) (k := k) (by omega) (by omega)
    rw [genR, genR_N M k (by omega), e1, e2, Vh.orI h1 (p63 q2 (by omega))]
    show _ = ((genN M k ||| ((M >>> k % 2 ||| 2) <<< (2 * k)) : Nat) : Int)
    cases ht : M.testBit k with
    | true =>
      have hb1 : M >>> k % 2 = 1 := by have := (tb1 (n := M) (i := k)).2 ht; omega
      rw [if_pos rfl, Vh.orI (p63 (Nat.or_lt_two_pow h3 q2) (by omega)) (p63 q1 (by omega)), hb1, Nat.or_assoc, ← Nat.shiftLeft_or_distrib]
      rfl
    | false =>
      have hb0 : M >>> k % 2 = 0 := by have := (tb0 (n := M) (i := k)).2 ht; omega
      rw [if_neg Bool.false_ne_true, hb0]
      rfl
theorem dual18 (kind marks : Int) (M : Nat) (h0 : 0 ≤ marks) (h1 : marks ≤ 40) (hk : kind = 1 → marks ≤ 20) (hM : M < 1099511627776) (H : AHeap) : CallW Try.prog 18 [.int .i64 kind, .int .i64 marks, .int .i64 (M : Int)] H fun v H' => H' = H ∧ v = .int .i64 (dualM kind marks M) := by
  refine CallW.pure ?_ rfl H
  refine CallW.symK (cuts := []) Try.func18 rfl (by kernel_rfl) ?_
  conv => whnf
  repeat' first
    | ((with_reducible refine Gets.shrN ?_ ?_); (· omega); conv => whnf)
    | ((with_reducible refine Gets.andOne ?_ ?_); (· first | omega | exact Nat.lt_of_le_of_lt (Nat.shiftRight_le _ _) (by omega)); conv => whnf)
    | ((with_reducible refine Gets.shlN ?_ ?_); (· omega); conv => whnf)
    | ((with_reducible refine Gets.shlI ?_ ?_ ?_); (· omega); (· omega); conv => whnf)
    | ((with_reducible refine Gets.quoI ?_ ?_ ?_ ?_); (· omega); (· omega); (· omega); conv => whnf)
    | ((with_reducible refine Gets.remN ?_ ?_ ?_); (· omega); (· omega); conv => whnf)
    | ((with_reducible refine Fork.bit (fun _ => ?_) (fun _ => ?_)) <;> (conv => whnf))
    | ((with_reducible refine Gets.addI ?_ ?_ ?_); (· omega); (· omega); conv => whnf)
    | ((with_reducible refine Gets.subI ?_ ?_ ?_); (· omega); (· omega); conv => whnf)
    | ((with_reducible refine Gets.mulI ?_ ?_ ?_); (· omega); (· omega); conv => whnf)
    | (refine Gets.of _ rfl ?_; conv => whnf)
    | (refine Gets.ix1v rfl rfl (by omega) ?_; conv => whnf)
    | (refine Gets.ix1 rfl rfl (by omega) ?_; conv => whnf)
    | (refine Gets.ixIv rfl rfl (by omega) (by omega) ?_; conv => whnf)
    | (refine Gets.ixI rfl rfl (by omega) (by omega) ?_; conv => whnf)
    | (refine Gets.ixEv (es := 2) rfl rfl (by omega) ?_; conv => whnf)
    | (refine Gets.ixE (es := 2) rfl rfl (by omega) ?_; conv => whnf)
    | (refine Gets.ldP (ti := tiP) rfl rfl rfl (by first | rfl | assumption) (by first | omega | exact Nat.le_of_ble_eq_true rfl) ?_; conv => whnf)
    | (refine Gets.ldI rfl (by first | rfl | assumption) (by first | omega | exact Nat.le_of_ble_eq_true rfl) ?_; conv => whnf)
    | (refine Gets.ldB rfl (by first | rfl | assumption) (by first | omega | exact Nat.le_of_ble_eq_true rfl) ?_; conv => whnf)
    | (refine Gets.ixR1 rfl rfl (by omega) ?_; conv => whnf)
    | (refine Gets.ixRI rfl rfl (by omega) (by omega) ?_; conv => whnf)
    | (refine Gets.ldRI rfl (by first | omega | exact Nat.le_of_ble_eq_true rfl) ?_; conv => whnf)
    | (refine Gets.ldRB rfl (by first | omega | exact Nat.le_of_ble_eq_true rfl) ?_; conv => whnf)
    | (refine Chk.mk (by repeat first | exact .nil | refine .cons rfl ?_) ?_; conv => whnf)
    | (refine Alls.mk ?_ ?_ <;> conv => whnf)
    | (refine Gets.stA rfl rfl rfl rfl (by simp only [List.all_cons, List.all_nil, oI_sc, oP_sc, oN_sc, Bool.and_true, Bool.true_and] <;> rfl) ?_; conv => whnf)
    | (refine seqL1_of ?_; conv => whnf)
    | (refine seqV_of ?_; conv => whnf)
    | (refine seq1_of ?_; conv => whnf)
    | (refine seq0_of ?_; conv => whnf)
    | (refine Fork.yesR rfl ?_; conv => whnf)
    | (refine Fork.noR rfl ?_; conv => whnf)
    | (refine Fork.dec (fun _ => ?_) (fun _ => ?_) <;> first | (exfalso; omega) | (conv => whnf))
    | (refine Fork.eqI (fun _ => ?_) (fun _ => ?_) <;> first | (exfalso; omega) | (conv => whnf))
    | (refine Fork.neI (fun _ => ?_) (fun _ => ?_) <;> first | (exfalso; omega) | (conv => whnf))
    | (refine Fork.any (fun _ => ?_) (fun _ => ?_) <;> (conv => whnf))
  · unfold dualM
    rw [if_pos (show kind = 5 by omega)]
    exact ⟨[], _, rfl, .same rfl, rfl, rfl⟩
  · unfold dualM
    rw [if_neg (show ¬ kind = 5 by omega), if_pos (show kind = 1 by omega)]
    refine CodeS.loopGK (cuts := []) (σ := Nat) (fun k => [(2, .int .i64 (M : Int)), (7, .int .i64 (genR M k)), (17, .int .i64 marks), (18, .int .i64 (k : Int))]) (fun _ => emptyH) (fun k => (k : Int) ≤ marks) (fun k => marks.toNat - k) 0 (renL [] 0) (by kernel_rfl) h0 ⟨rfl, rfl, rfl, rfl, trivial⟩ (EmbL.litsN [] rfl rfl rfl rfl .nil .nil) ?_
    intro k hk1
    rcases Int.lt_or_le (k : Int) marks with hkl | hkl
    · conv => whnf
      repeat' first
        | ((with_reducible refine Gets.shrN ?_ ?_); (· omega); conv => whnf)
        | ((with_reducible refine Gets.andOne ?_ ?_); (· first | omega | exact Nat.lt_of_le_of_lt (Nat.shiftRight_le _ _) (by omega)); conv => whnf)
        | ((with_reducible refine Gets.shlN ?_ ?_); (· omega); conv => whnf)
        | ((with_reducible refine Gets.shlI ?_ ?_ ?_); (· omega); (· omega); conv => whnf)
        | ((with_reducible refine Gets.quoI ?_ ?_ ?_ ?_); (· omega); (· omega); (· omega); conv => whnf)
        | ((with_reducible refine Gets.remN ?_ ?_ ?_); (· omega); (· omega); conv => whnf)
        | ((with_reducible refine Fork.bit (fun _ => ?_) (fun _ => ?_)) <;> (conv => whnf))
        | ((with_reducible refine Gets.addI ?_ ?_ ?_); (· omega); (· omega); conv => whnf)
        | ((with_reducible refine Gets.subI ?_ ?_ ?_); (· omega); (· omega); conv => whnf)
        | ((with_reducible refine Gets.mulI ?_ ?_ ?_); (· omega); (· omega); conv => whnf)
        | (refine Gets.of _ rfl ?_; conv => whnf)
        | (refine Gets.ix1v rfl rfl (by omega) ?_; conv => whnf)
        | (refine Gets.ix1 rfl rfl (by omega) ?_; conv => whnf)
        | (refine Gets.ixIv rfl rfl (by omega) (by omega) ?_; conv => whnf)
        | (refine Gets.ixI rfl rfl (by omega) (by omega) ?_; conv => whnf)
        | (refine Gets.ixEv (es := 2) rfl rfl (by omega) ?_; conv => whnf)
        | (refine Gets.ixE (es := 2) rfl rfl (by omega) ?_; conv => whnf)
        | (refine Gets.ldP (ti := tiP) rfl rfl rfl (by first | rfl | assumption) (by first | omega | exact Nat.le_of_ble_eq_true rfl) ?_; conv => whnf)
        | (refine Gets.ldI rfl (by first | rfl | assumption) (by first | omega | exact Nat.le_of_ble_eq_true rfl) ?_; conv => whnf)
        | (refine Gets.ldB rfl (by first | rfl | assumption) (by first | omega | exact Nat.le_of_ble_eq_true rfl) ?_; conv => whnf)
        | (refine Gets.ixR1 rfl rfl (by omega) ?_; conv => whnf)
        | (refine Gets.ixRI rfl rfl (by omega) (by omega) ?_; conv => whnf)
        | (refine Gets.ldRI rfl (by first | omega | exact Nat.le_of_ble_eq_true rfl) ?_; conv => whnf)
        | (refine Gets.ldRB rfl (by first | omega | exact Nat.le_of_ble_eq_true rfl) ?_; conv => whnf)
        | (refine Chk.mk (by repeat first | exact .nil | refine .cons rfl ?_) ?_; conv => whnf)
        | (refine Alls.mk ?_ ?_ <;> conv => whnf)
        | (refine Gets.stA rfl rfl rfl rfl (by simp only [List.all_cons, List.all_nil, oI_sc, oP_sc, oN_sc, Bool.and_true, Bool.true_and] <;> rfl) ?_; conv => whnf)
        | (refine seqL1_of ?_; conv => whnf)
        | (refine seqV_of ?_; conv => whnf)
        | (refine seq1_of ?_; conv => whnf)
        | (refine seq0_of ?_; conv => whnf)
        | (refine Fork.yesR rfl ?_; conv => whnf)
        | (refine Fork.noR rfl ?_; conv => whnf)
        | (refine Fork.dec (fun _ => ?_) (fun _ => ?_) <;> first | (exfalso; omega) | (conv => whnf))
        | (refine Fork.eqI (fun _ => ?_) (fun _ => ?_) <;> first | (exfalso; omega) | (conv => whnf))
        | (refine Fork.neI (fun _ => ?_) (fun _ => ?_) <;> first | (exfalso; omega) | (conv => whnf))
        | (refine Fork.any (fun _ => ?_) (fun _ => ?_) <;> (conv => whnf))
      · rename_i ht
        refine ⟨k + 1, renL [] 0, by omega, by omega, ⟨rfl, ?_, rfl, rfl, trivial⟩, EmbL.litsN [] rfl rfl rfl rfl .nil .nil⟩
        refine (congrArg (AVal.int .i64) ?_ : AVal.int .i64 _ = AVal.int .i64 _)
        rw [genR, if_pos ht]
      · rename_i ht
        refine ⟨k + 1, renL [] 0, by omega, by omega, ⟨rfl, ?_, rfl, rfl, trivial⟩, EmbL.litsN [] rfl rfl rfl rfl .nil .nil⟩
        refine (congrArg (AVal.int .i64) ?_ : AVal.int .i64 _ = AVal.int .i64 _)
        rw [genR, if_neg (by rw [ht]; exact Bool.false_ne_true)]
    · obtain rfl : k = marks.toNat := by omega
      conv => whnf
      repeat' first
        | ((with_reducible refine Gets.shrN ?_ ?_); (· omega); conv => whnf)
        | ((with_reducible refine Gets.andOne ?_ ?_); (· first | omega | exact Nat.lt_of_le_of_lt (Nat.shiftRight_le _ _) (by omega)); conv => whnf)
        | ((with_reducible refine Gets.shlN ?_ ?_); (· omega); conv => whnf)
        | ((with_reducible refine Gets.shlI ?_ ?_ ?_); (· omega); (· omega); conv => whnf)
        | ((with_reducible refine Gets.quoI ?_ ?_ ?_ ?_); (· omega); (· omega); (· omega); conv => whnf)
        | ((with_reducible refine Gets.remN ?_ ?_ ?_); (· omega); (· omega); conv => whnf)
        | ((with_reducible refine Fork.bit (fun _ => ?_) (fun _ => ?_)) <;> (conv => whnf))
        | ((with_reducible refine Gets.addI ?_ ?_ ?_); (· omega); (· omega); conv => whnf)
        | ((with_reducible refine Gets.subI ?_ ?_ ?_); (· omega); (· omega); conv => whnf)
        | ((with_reducible refine Gets.mulI ?_ ?_ ?_); (· omega); (· omega); conv => whnf)
        | (refine Gets.of _ rfl ?_; conv => whnf)
        | (refine Gets.ix1v rfl rfl (by omega) ?_; conv => whnf)
        | (refine Gets.ix1 rfl rfl (by omega) ?_; conv => whnf)
        | (refine Gets.ixIv rfl rfl (by omega) (by omega) ?_; conv => whnf)
        | (refine Gets.ixI rfl rfl (by omega) (by omega) ?_; conv => whnf)
        | (refine Gets.ixEv (es := 2) rfl rfl (by omega) ?_; conv => whnf)
        | (refine Gets.ixE (es := 2) rfl rfl (by omega) ?_; conv => whnf)
        | (refine Gets.ldP (ti := tiP) rfl rfl rfl (by first | rfl | assumption) (by first | omega | exact Nat.le_of_ble_eq_true rfl) ?_; conv => whnf)
        | (refine Gets.ldI rfl (by first | rfl | assumption) (by first | omega | exact Nat.le_of_ble_eq_true rfl) ?_; conv => whnf)
        | (refine Gets.ldB rfl (by first | rfl | assumption) (by first | omega | exact Nat.le_of_ble_eq_true rfl) ?_; conv => whnf)
        | (refine Gets.ixR1 rfl rfl (by omega) ?_; conv => whnf)
        | (refine Gets.ixRI rfl rfl (by omega) (by omega) ?_; conv => whnf)
        | (refine Gets.ldRI rfl (by first | omega | exact Nat.le_of_ble_eq_true rfl) ?_; conv => whnf)
        | (refine Gets.ldRB rfl (by first | omega | exact Nat.le_of_ble_eq_true rfl) ?_; conv => whnf)
        | (refine Chk.mk (by repeat first | exact .nil | refine .cons rfl ?_) ?_; conv => whnf)
        | (refine Alls.mk ?_ ?_ <;> conv => whnf)
        | (refine Gets.stA rfl rfl rfl rfl (by simp only [List.all_cons, List.all_nil, oI_sc, oP_sc, oN_sc, Bool.and_true, Bool.true_and] <;> rfl) ?_; conv => whnf)
        | (refine seqL1_of ?_; conv => whnf)
        | (refine seqV_of ?_; conv => whnf)
        | (refine seq1_of ?_; conv => whnf)
        | (refine seq0_of ?_; conv => whnf)
        | (refine Fork.yesR rfl ?_; conv => whnf)
        | (refine Fork.noR rfl ?_; conv => whnf)
        | (refine Fork.dec (fun _ => ?_) (fun _ => ?_) <;> first | (exfalso; omega) | (conv => whnf))
        | (refine Fork.eqI (fun _ => ?_) (fun _ => ?_) <;> first | (exfalso; omega) | (conv => whnf))
        | (refine Fork.neI (fun _ => ?_) (fun _ => ?_) <;> first | (exfalso; omega) | (conv => whnf))
        | (refine Fork.any (fun _ => ?_) (fun _ => ?_) <;> (conv => whnf))
      exact ⟨[], _, rfl, .same rfl, rfl, rfl⟩
  · unfold dualM
    rw [if_neg (show ¬ kind = 5 by omega), if_neg (show ¬ kind = 1 by omega)]
    exact ⟨[], _, rfl, .same rfl, rfl, rfl⟩
end Go.Proofs.Ytljedopidipabaa
