/- Max, of the program and of the reference. -/
import Derived.Test.YtljedopidipabaaItp
-- VkG VkH VmA
set_option linter.unusedVariables false
set_option linter.unusedSimpArgs false
set_option maxRecDepth 100000
set_option maxHeartbeats 4000000
namespace Go.Proofs.Ytljedopidipabaa
open Go Go.Vh Go.Vk Go.Proofs
theorem mod_succ (M k : Nat) : M % 2 ^ (k + 1) = M % 2 ^ k + (if M.testBit k = true then 2 ^ k else 0) := by
  rw [Nat.mod_pow_succ, Nat.testBit_eq_decide_div_mod_eq]
  rcases Nat.mod_two_eq_zero_or_one (M / 2 ^ k) with h | h <;> simp [h]
theorem bl_bit {M k : Nat} (h : M.testBit k = true) : bl (M % 2 ^ (k + 1)) = k + 1 := by
  have e := mod_succ M k
  rw [if_pos h] at e
  have h1 := Nat.mod_lt M (Nat.pow_pos (n := k) (by decide : 0 < 2))
  have h2 : 0 < 2 ^ k := Nat.pow_pos (by decide)
  have hn : M % 2 ^ (k + 1) ≠ 0 := by omega
  have a := (Nat.le_log2 hn).2 (show 2 ^ k ≤ M % 2 ^ (k + 1) by omega)
  have b := (Nat.log2_lt hn).2 (show M % 2 ^ (k + 1) < 2 ^ (k + 1) from Nat.mod_lt _ (Nat.pow_pos (by decide)))
  unfold bl
  rw [if_neg hn]
  omega
theorem bl_nobit {M k : Nat} (h : M.testBit k = false) : bl (M % 2 ^ (k + 1)) = bl (M % 2 ^ k) := by
  rw [mod_succ, h]; rfl
theorem bl_mod_le (M k : Nat) : bl (M % 2 ^ k) ≤ k := bl_lt (Nat.mod_lt _ (Nat.pow_pos (by decide)))
/-- The greatest mark of edges. -/
def topL : List Edg → Int
  | [] => -1
  | e :: l => max ((bl e.marks.toNat : Int) - 1) (topL l)
def topJ (a : Au) : Nat → Int
  | 0 => -1
  | j + 1 => max (topJ a j) ((bl (a.es.getD j default).marks.toNat : Int) - 1)
theorem topJ_b (a : Au) (h : ∀ j, j < a.es.length → bl (a.es.getD j default).marks.toNat ≤ 40) : ∀ j, j ≤ a.es.length → -1 ≤ topJ a j ∧ topJ a j ≤ 40 := by
  intro j
  induction j with
  | zero => intro _; exact ⟨Int.le_refl _, by show (-1 : Int) ≤ 40; omega⟩
  | succ j ih =>
    intro hj
    have := ih (by omega)
    have := h j hj
    show -1 ≤ max (topJ a j) _ ∧ max (topJ a j) _ ≤ 40
    omega
open Classical in
noncomputable def maxA (a : Au) : Int × Int := if a.Ok then if a.kind = 5 then (topJ a a.es.length, 0) else (0, 7) else (0, 1)
theorem amm_max (a b : Int) : amm true a b = max a b := by
  simp only [amm, if_true]
  split <;> omega
/-- The value of an edge whose marks are a number. -/
def kvM (e : Edg) (M : Nat) : AVal := .agg [.int .i64 e.fr, .int .i64 e.to, .int .i64 e.care, .int .i64 e.bits, .int .i64 (M : Int)]
theorem Gets.ldREM {P : Program} {H : AHeap} {t : TypeId} {ti : TI} {off j : Nat} {es : List Edg} {M : Nat} {A : AVal → Prop} (ht : tinfo P t = some ti) (hag : ti.agg = true) (hsz : ti.size = 5) (ho : off = j * 5) (h : j < es.length) (hM : (es.getD j default).marks = (M : Int)) (hA : A (kvM (es.getD j default) M)) : Gets (loadA P H t (.rptr (ints (flat es)) off)) A :=
  Gets.ldRE ht hag hsz ho h (by have : kvE (es.getD j default) = kvM (es.getD j default) M := by unfold kvE kvM; rw [hM]
                                rw [this]; exact hA)
theorem Au.Ok.mark {a : Au} (h : a.Ok) {j : Nat} (hj : j < a.es.length) : ∃ M : Nat, (a.es.getD j default).marks = (M : Int) ∧ M < 2 ^ a.marks.toNat ∧ M < 1099511627776 ∧ bl M ≤ 40 := by
  obtain ⟨_, _, _, _, _, _, _, h1, h2⟩ := h.eg j hj
  obtain ⟨M, hM⟩ := Int.eq_ofNat_of_zero_le h1
  rw [hM] at h2
  have h3 : M < 2 ^ a.marks.toNat := Int.ofNat_lt.1 h2
  have h4 : 2 ^ a.marks.toNat ≤ 2 ^ 40 := Nat.pow_le_pow_right (by decide) (by have := h.mo.2.1; omega)
  exact ⟨M, hM, h3, by omega, bl_lt (by omega)⟩
theorem maxR (a : Au) (hf : a.Fits) (H : AHeap) : CallW Try.prog 8 [a.rv] H fun v H' => H' = H ∧ v = .tuple [.int .i64 (maxA a).1, .int .i64 (maxA a).2] := by
  refine CallW.pure ?_ rfl H
  refine CallW.symK (cuts := []) Try.func8 rfl (by kernel_rfl) ?_
  conv => whnf
  repeat' first
    | ((with_reducible refine Gets.shrN ?_ ?_); (· omega); conv => whnf)
    | ((with_reducible refine Gets.andOne ?_ ?_); (· first | omega | exact Nat.lt_of_le_of_lt (Nat.shiftRight_le _ _) (by omega)); conv => whnf)
    | ((with_reducible refine Gets.shlN ?_ ?_); (· omega); conv => whnf)
    | ((with_reducible refine Gets.shlI ?_ ?_ ?_); (· omega); (· omega); conv => whnf)
    | ((with_reducible refine Gets.quoI ?_ ?_ ?_ ?_); (· omega); (· omega); (· omega); conv => whnf)
    | ((with_reducible refine Gets.remN ?_ ?_ ?_); (· omega); (· omega); conv => whnf)
    | ((with_reducible refine Fork.bit (fun _ => ?_) (fun _ => ?_)) <;> (conv => whnf))
    | ((with_reducible refine Gets.addI ?_ ?_ ?_); (· omega); (· omega); conv => whnf)
    | ((with_reducible refine Gets.subI ?_ ?_ ?_); (· omega); (· omega); conv => whnf)
    | ((with_reducible refine Gets.mulI ?_ ?_ ?_); (· omega); (· omega); conv => whnf)
    | (refine Gets.of _ rfl ?_; conv => whnf)
    | (refine Gets.ix1v rfl rfl (by omega) ?_; conv => whnf)
    | (refine Gets.ix1 rfl rfl (by omega) ?_; conv => whnf)
    | (refine Gets.ixIv rfl rfl (by omega) (by omega) ?_; conv => whnf)
    | (refine Gets.ixI rfl rfl (by omega) (by omega) ?_; conv => whnf)
    | (refine Gets.ixEv (es := 2) rfl rfl (by omega) ?_; conv => whnf)
    | (refine Gets.ixE (es := 2) rfl rfl (by omega) ?_; conv => whnf)
    | (refine Gets.ldP (ti := tiP) rfl rfl rfl (by first | rfl | assumption) (by first | omega | exact Nat.le_of_ble_eq_true rfl) ?_; conv => whnf)
    | (refine Gets.ldI rfl (by first | rfl | assumption) (by first | omega | exact Nat.le_of_ble_eq_true rfl) ?_; conv => whnf)
    | (refine Gets.ldB rfl (by first | rfl | assumption) (by first | omega | exact Nat.le_of_ble_eq_true rfl) ?_; conv => whnf)
    | (refine Gets.ixR1 rfl rfl (by omega) ?_; conv => whnf)
    | (refine Gets.ixRI rfl rfl (by omega) (by omega) ?_; conv => whnf)
    | (refine Gets.ldRI rfl (by first | omega | exact Nat.le_of_ble_eq_true rfl) ?_; conv => whnf)
    | (refine Gets.ldRB rfl (by first | omega | exact Nat.le_of_ble_eq_true rfl) ?_; conv => whnf)
    | (refine Chk.mk (by repeat first | exact .nil | refine .cons rfl ?_) ?_; conv => whnf)
    | (refine Alls.mk ?_ ?_ <;> conv => whnf)
    | (refine Gets.stA rfl rfl rfl rfl (by simp only [List.all_cons, List.all_nil, oI_sc, oP_sc, oN_sc, Bool.and_true, Bool.true_and] <;> rfl) ?_; conv => whnf)
    | (refine seqL1_of ?_; conv => whnf)
    | (refine seqV_of ?_; conv => whnf)
    | (refine seq1_of ?_; conv => whnf)
    | (refine seq0_of ?_; conv => whnf)
    | (refine Fork.yesR rfl ?_; conv => whnf)
    | (refine Fork.noR rfl ?_; conv => whnf)
    | (refine Fork.dec (fun _ => ?_) (fun _ => ?_) <;> first | (exfalso; omega) | (conv => whnf))
    | (refine Fork.eqI (fun _ => ?_) (fun _ => ?_) <;> first | (exfalso; omega) | (conv => whnf))
    | (refine Fork.neI (fun _ => ?_) (fun _ => ?_) <;> first | (exfalso; omega) | (conv => whnf))
    | (refine Fork.any (fun _ => ?_) (fun _ => ?_) <;> (conv => whnf))
  refine CallS.of (by kernel_rfl) (validA a hf _) rfl ?_
  rintro _ _ ⟨rfl, hk | hk⟩
  rotate_left
  · rw [maxA, if_neg hk]
    conv => whnf
    repeat' first
      | ((with_reducible refine Gets.shrN ?_ ?_); (· omega); conv => whnf)
      | ((with_reducible refine Gets.andOne ?_ ?_); (· first | omega | exact Nat.lt_of_le_of_lt (Nat.shiftRight_le _ _) (by omega)); conv => whnf)
      | ((with_reducible refine Gets.shlN ?_ ?_); (· omega); conv => whnf)
      | ((with_reducible refine Gets.shlI ?_ ?_ ?_); (· omega); (· omega); conv => whnf)
      | ((with_reducible refine Gets.quoI ?_ ?_ ?_ ?_); (· omega); (· omega); (· omega); conv => whnf)
      | ((with_reducible refine Gets.remN ?_ ?_ ?_); (· omega); (· omega); conv => whnf)
      | ((with_reducible refine Fork.bit (fun _ => ?_) (fun _ => ?_)) <;> (conv => whnf))
      | ((with_reducible refine Gets.addI ?_ ?_ ?_); (· omega); (· omega); conv => whnf)
      | ((with_reducible refine Gets.subI ?_ ?_ ?_); (· omega); (· omega); conv => whnf)
      | ((with_reducible refine Gets.mulI ?_ ?_ ?_); (· omega); (· omega); conv => whnf)
      | (refine Gets.of _ rfl ?_; conv => whnf)
      | (refine Gets.ix1v rfl rfl (by omega) ?_; conv => whnf)
      | (refine Gets.ix1 rfl rfl (by omega) ?_; conv => whnf)
      | (refine Gets.ixIv rfl rfl (by omega) (by omega) ?_; conv => whnf)
      | (refine Gets.ixI rfl rfl (by omega) (by omega) ?_; conv => whnf)
      | (refine Gets.ixEv (es := 2) rfl rfl (by omega) ?_; conv => whnf)
      | (refine Gets.ixE (es := 2) rfl rfl (by omega) ?_; conv => whnf)
      | (refine Gets.ldP (ti := tiP) rfl rfl rfl (by first | rfl | assumption) (by first | omega | exact Nat.le_of_ble_eq_true rfl) ?_; conv => whnf)
      | (refine Gets.ldI rfl (by first | rfl | assumption) (by first | omega | exact Nat.le_of_ble_eq_true rfl) ?_; conv => whnf)
      | (refine Gets.ldB rfl (by first | rfl | assumption) (by first | omega | exact Nat.le_of_ble_eq_true rfl) ?_; conv => whnf)
      | (refine Gets.ixR1 rfl rfl (by omega) ?_; conv => whnf)
      | (refine Gets.ixRI rfl rfl (by omega) (by omega) ?_; conv => whnf)
      | (refine Gets.ldRI rfl (by first | omega | exact Nat.le_of_ble_eq_true rfl) ?_; conv => whnf)
      | (refine Gets.ldRB rfl (by first | omega | exact Nat.le_of_ble_eq_true rfl) ?_; conv => whnf)
      | (refine Chk.mk (by repeat first | exact .nil | refine .cons rfl ?_) ?_; conv => whnf)
      | (refine Alls.mk ?_ ?_ <;> conv => whnf)
      | (refine Gets.stA rfl rfl rfl rfl (by simp only [List.all_cons, List.all_nil, oI_sc, oP_sc, oN_sc, Bool.and_true, Bool.true_and] <;> rfl) ?_; conv => whnf)
      | (refine seqL1_of ?_; conv => whnf)
      | (refine seqV_of ?_; conv => whnf)
      | (refine seq1_of ?_; conv => whnf)
      | (refine seq0_of ?_; conv => whnf)
      | (refine Fork.yesR rfl ?_; conv => whnf)
      | (refine Fork.noR rfl ?_; conv => whnf)
      | (refine Fork.dec (fun _ => ?_) (fun _ => ?_) <;> first | (exfalso; omega) | (conv => whnf))
      | (refine Fork.eqI (fun _ => ?_) (fun _ => ?_) <;> first | (exfalso; omega) | (conv => whnf))
      | (refine Fork.neI (fun _ => ?_) (fun _ => ?_) <;> first | (exfalso; omega) | (conv => whnf))
      | (refine Fork.any (fun _ => ?_) (fun _ => ?_) <;> (conv => whnf))
    exact ⟨[], _, rfl, .same rfl, rfl, rfl⟩
  have hne := hk.ne
  rw [maxA, if_pos hk]
  conv => whnf
  repeat' first
    | ((with_reducible refine Gets.shrN ?_ ?_); (· omega); conv => whnf)
    | ((with_reducible refine Gets.andOne ?_ ?_); (· first | omega | exact Nat.lt_of_le_of_lt (Nat.shiftRight_le _ _) (by omega)); conv => whnf)
    | ((with_reducible refine Gets.shlN ?_ ?_); (· omega); conv => whnf)
    | ((with_reducible refine Gets.shlI ?_ ?_ ?_); (· omega); (· omega); conv => whnf)
    | ((with_reducible refine Gets.quoI ?_ ?_ ?_ ?_); (· omega); (· omega); (· omega); conv => whnf)
    | ((with_reducible refine Gets.remN ?_ ?_ ?_); (· omega); (· omega); conv => whnf)
    | ((with_reducible refine Fork.bit (fun _ => ?_) (fun _ => ?_)) <;> (conv => whnf))
    | ((with_reducible refine Gets.addI ?_ ?_ ?_); (· omega); (· omega); conv => whnf)
    | ((with_reducible refine Gets.subI ?_ ?_ ?_); (· omega); (· omega); conv => whnf)
    | ((with_reducible refine Gets.mulI ?_ ?_ ?_); (· omega); (· omega); conv => whnf)
    | (refine Gets.of _ rfl ?_; conv => whnf)
    | (refine Gets.ix1v rfl rfl (by omega) ?_; conv => whnf)
    | (refine Gets.ix1 rfl rfl (by omega) ?_; conv => whnf)
    | (refine Gets.ixIv rfl rfl (by omega) (by omega) ?_; conv => whnf)
    | (refine Gets.ixI rfl rfl (by omega) (by omega) ?_; conv => whnf)
    | (refine Gets.ixEv (es := 2) rfl rfl (by omega) ?_; conv => whnf)
    | (refine Gets.ixE (es := 2) rfl rfl (by omega) ?_; conv => whnf)
    | (refine Gets.ldP (ti := tiP) rfl rfl rfl (by first | rfl | assumption) (by first | omega | exact Nat.le_of_ble_eq_true rfl) ?_; conv => whnf)
    | (refine Gets.ldI rfl (by first | rfl | assumption) (by first | omega | exact Nat.le_of_ble_eq_true rfl) ?_; conv => whnf)
    | (refine Gets.ldB rfl (by first | rfl | assumption) (by first | omega | exact Nat.le_of_ble_eq_true rfl) ?_; conv => whnf)
    | (refine Gets.ixR1 rfl rfl (by omega) ?_; conv => whnf)
    | (refine Gets.ixRI rfl rfl (by omega) (by omega) ?_; conv => whnf)
    | (refine Gets.ldRI rfl (by first | omega | exact Nat.le_of_ble_eq_true rfl) ?_; conv => whnf)
    | (refine Gets.ldRB rfl (by first | omega | exact Nat.le_of_ble_eq_true rfl) ?_; conv => whnf)
    | (refine Chk.mk (by repeat first | exact .nil | refine .cons rfl ?_) ?_; conv => whnf)
    | (refine Alls.mk ?_ ?_ <;> conv => whnf)
    | (refine Gets.stA rfl rfl rfl rfl (by simp only [List.all_cons, List.all_nil, oI_sc, oP_sc, oN_sc, Bool.and_true, Bool.true_and] <;> rfl) ?_; conv => whnf)
    | (refine seqL1_of ?_; conv => whnf)
    | (refine seqV_of ?_; conv => whnf)
    | (refine seq1_of ?_; conv => whnf)
    | (refine seq0_of ?_; conv => whnf)
    | (refine Fork.yesR rfl ?_; conv => whnf)
    | (refine Fork.noR rfl ?_; conv => whnf)
    | (refine Fork.dec (fun _ => ?_) (fun _ => ?_) <;> first | (exfalso; omega) | (conv => whnf))
    | (refine Fork.eqI (fun _ => ?_) (fun _ => ?_) <;> first | (exfalso; omega) | (conv => whnf))
    | (refine Fork.neI (fun _ => ?_) (fun _ => ?_) <;> first | (exfalso; omega) | (conv => whnf))
    | (refine Fork.any (fun _ => ?_) (fun _ => ?_) <;> (conv => whnf))
  · rw [if_neg (show ¬ a.kind = 5 by assumption)]
    exact ⟨[], _, rfl, .same rfl, rfl, rfl⟩
  rw [if_pos (show a.kind = 5 by omega)]
  have hb := topJ_b a fun j hj => by obtain ⟨M, h1, _, _, h4⟩ := hk.mark hj; rw [h1]; exact h4
  refine CodeS.loopGK (cuts := []) (σ := Nat) (fun j => [(4, .int .i64 (topJ a j)), (16, rE a.es), (17, .int .i64 (a.es.length : Int)), (18, .int .i64 (j : Int))]) (fun _ => emptyH) (fun j => j ≤ a.es.length) (fun j => a.es.length - j) 0 (renL [] 1) (by kernel_rfl) (Nat.zero_le _) ⟨rfl, rfl, rfl, rfl, trivial⟩ (EmbL.litsN [] rfl rfl rfl rfl .nil .nil) ?_
  intro j hj
  have hbj := hb j hj
  rcases Nat.lt_or_ge j a.es.length with hjl | hjl
  · obtain ⟨M, hM, hM1, hM2, hM3⟩ := hk.mark hjl
    have hnx : topJ a (j + 1) = max (topJ a j) ((bl M : Int) - 1) := by show max _ _ = _; rw [hM]; rfl
    conv => whnf
    repeat' first
      | ((refine Gets.ixRE (es := 5) rfl (by kernel_rfl) (by omega) ?_); conv => whnf)
      | ((refine Gets.ldREM rfl rfl rfl rfl hjl hM ?_); conv => whnf)
      | ((with_reducible refine Gets.shrN ?_ ?_); (· omega); conv => whnf)
      | ((with_reducible refine Gets.andOne ?_ ?_); (· first | omega | exact Nat.lt_of_le_of_lt (Nat.shiftRight_le _ _) (by omega)); conv => whnf)
      | ((with_reducible refine Gets.shlN ?_ ?_); (· omega); conv => whnf)
      | ((with_reducible refine Gets.shlI ?_ ?_ ?_); (· omega); (· omega); conv => whnf)
      | ((with_reducible refine Gets.quoI ?_ ?_ ?_ ?_); (· omega); (· omega); (· omega); conv => whnf)
      | ((with_reducible refine Gets.remN ?_ ?_ ?_); (· omega); (· omega); conv => whnf)
      | ((with_reducible refine Fork.bit (fun _ => ?_) (fun _ => ?_)) <;> (conv => whnf))
      | ((with_reducible refine Gets.addI ?_ ?_ ?_); (· omega); (· omega); conv => whnf)
      | ((with_reducible refine Gets.subI ?_ ?_ ?_); (· omega); (· omega); conv => whnf)
      | ((with_reducible refine Gets.mulI ?_ ?_ ?_); (· omega); (· omega); conv => whnf)
      | (refine Gets.of _ rfl ?_; conv => whnf)
      | (refine Gets.ix1v rfl rfl (by omega) ?_; conv => whnf)
      | (refine Gets.ix1 rfl rfl (by omega) ?_; conv => whnf)
      | (refine Gets.ixIv rfl rfl (by omega) (by omega) ?_; conv => whnf)
      | (refine Gets.ixI rfl rfl (by omega) (by omega) ?_; conv => whnf)
      | (refine Gets.ixEv (es := 2) rfl rfl (by omega) ?_; conv => whnf)
      | (refine Gets.ixE (es := 2) rfl rfl (by omega) ?_; conv => whnf)
      | (refine Gets.ldP (ti := tiP) rfl rfl rfl (by first | rfl | assumption) (by first | omega | exact Nat.le_of_ble_eq_true rfl) ?_; conv => whnf)
      | (refine Gets.ldI rfl (by first | rfl | assumption) (by first | omega | exact Nat.le_of_ble_eq_true rfl) ?_; conv => whnf)
      | (refine Gets.ldB rfl (by first | rfl | assumption) (by first | omega | exact Nat.le_of_ble_eq_true rfl) ?_; conv => whnf)
      | (refine Gets.ixR1 rfl rfl (by omega) ?_; conv => whnf)
      | (refine Gets.ixRI rfl rfl (by omega) (by omega) ?_; conv => whnf)
      | (refine Gets.ldRI rfl (by first | omega | exact Nat.le_of_ble_eq_true rfl) ?_; conv => whnf)
      | (refine Gets.ldRB rfl (by first | omega | exact Nat.le_of_ble_eq_true rfl) ?_; conv => whnf)
      | (refine Chk.mk (by repeat first | exact .nil | refine .cons rfl ?_) ?_; conv => whnf)
      | (refine Alls.mk ?_ ?_ <;> conv => whnf)
      | (refine Gets.stA rfl rfl rfl rfl (by simp only [List.all_cons, List.all_nil, oI_sc, oP_sc, oN_sc, Bool.and_true, Bool.true_and] <;> rfl) ?_; conv => whnf)
      | (refine seqL1_of ?_; conv => whnf)
      | (refine seqV_of ?_; conv => whnf)
      | (refine seq1_of ?_; conv => whnf)
      | (refine seq0_of ?_; conv => whnf)
      | (refine Fork.yesR rfl ?_; conv => whnf)
      | (refine Fork.noR rfl ?_; conv => whnf)
      | (refine Fork.dec (fun _ => ?_) (fun _ => ?_) <;> first | (exfalso; omega) | (conv => whnf))
      | (refine Fork.eqI (fun _ => ?_) (fun _ => ?_) <;> first | (exfalso; omega) | (conv => whnf))
      | (refine Fork.neI (fun _ => ?_) (fun _ => ?_) <;> first | (exfalso; omega) | (conv => whnf))
      | (refine Fork.any (fun _ => ?_) (fun _ => ?_) <;> (conv => whnf))
    refine CallS.of (by kernel_rfl) (top19 M hM2 _) rfl ?_
    rintro _ _ ⟨rfl, rfl⟩
    conv => whnf
    repeat' first
      | ((with_reducible refine Gets.shrN ?_ ?_); (· omega); conv => whnf)
      | ((with_reducible refine Gets.andOne ?_ ?_); (· first | omega | exact Nat.lt_of_le_of_lt (Nat.shiftRight_le _ _) (by omega)); conv => whnf)
      | ((with_reducible refine Gets.shlN ?_ ?_); (· omega); conv => whnf)
      | ((with_reducible refine Gets.shlI ?_ ?_ ?_); (· omega); (· omega); conv => whnf)
      | ((with_reducible refine Gets.quoI ?_ ?_ ?_ ?_); (· omega); (· omega); (· omega); conv => whnf)
      | ((with_reducible refine Gets.remN ?_ ?_ ?_); (· omega); (· omega); conv => whnf)
      | ((with_reducible refine Fork.bit (fun _ => ?_) (fun _ => ?_)) <;> (conv => whnf))
      | ((with_reducible refine Gets.addI ?_ ?_ ?_); (· omega); (· omega); conv => whnf)
      | ((with_reducible refine Gets.subI ?_ ?_ ?_); (· omega); (· omega); conv => whnf)
      | ((with_reducible refine Gets.mulI ?_ ?_ ?_); (· omega); (· omega); conv => whnf)
      | (refine Gets.of _ rfl ?_; conv => whnf)
      | (refine Gets.ix1v rfl rfl (by omega) ?_; conv => whnf)
      | (refine Gets.ix1 rfl rfl (by omega) ?_; conv => whnf)
      | (refine Gets.ixIv rfl rfl (by omega) (by omega) ?_; conv => whnf)
      | (refine Gets.ixI rfl rfl (by omega) (by omega) ?_; conv => whnf)
      | (refine Gets.ixEv (es := 2) rfl rfl (by omega) ?_; conv => whnf)
      | (refine Gets.ixE (es := 2) rfl rfl (by omega) ?_; conv => whnf)
      | (refine Gets.ldP (ti := tiP) rfl rfl rfl (by first | rfl | assumption) (by first | omega | exact Nat.le_of_ble_eq_true rfl) ?_; conv => whnf)
      | (refine Gets.ldI rfl (by first | rfl | assumption) (by first | omega | exact Nat.le_of_ble_eq_true rfl) ?_; conv => whnf)
      | (refine Gets.ldB rfl (by first | rfl | assumption) (by first | omega | exact Nat.le_of_ble_eq_true rfl) ?_; conv => whnf)
      | (refine Gets.ixR1 rfl rfl (by omega) ?_; conv => whnf)
      | (refine Gets.ixRI rfl rfl (by omega) (by omega) ?_; conv => whnf)
      | (refine Gets.ldRI rfl (by first | omega | exact Nat.le_of_ble_eq_true rfl) ?_; conv => whnf)
      | (refine Gets.ldRB rfl (by first | omega | exact Nat.le_of_ble_eq_true rfl) ?_; conv => whnf)
      | (refine Chk.mk (by repeat first | exact .nil | refine .cons rfl ?_) ?_; conv => whnf)
      | (refine Alls.mk ?_ ?_ <;> conv => whnf)
      | (refine Gets.stA rfl rfl rfl rfl (by simp only [List.all_cons, List.all_nil, oI_sc, oP_sc, oN_sc, Bool.and_true, Bool.true_and] <;> rfl) ?_; conv => whnf)
      | (refine seqL1_of ?_; conv => whnf)
      | (refine seqV_of ?_; conv => whnf)
      | (refine seq1_of ?_; conv => whnf)
      | (refine seq0_of ?_; conv => whnf)
      | (refine Fork.yesR rfl ?_; conv => whnf)
      | (refine Fork.noR rfl ?_; conv => whnf)
      | (refine Fork.dec (fun _ => ?_) (fun _ => ?_) <;> first | (exfalso; omega) | (conv => whnf))
      | (refine Fork.eqI (fun _ => ?_) (fun _ => ?_) <;> first | (exfalso; omega) | (conv => whnf))
      | (refine Fork.neI (fun _ => ?_) (fun _ => ?_) <;> first | (exfalso; omega) | (conv => whnf))
      | (refine Fork.any (fun _ => ?_) (fun _ => ?_) <;> (conv => whnf))
    refine ⟨j + 1, renL [] 1, hjl, by show a.es.length - (j + 1) < _; omega, ⟨?_, rfl, rfl, rfl, trivial⟩, EmbL.litsN [] rfl rfl rfl rfl .nil .nil⟩
    rw [hnx]
    show AVal.int .i64 _ = AVal.int .i64 _
    rw [amm_max]
  · obtain rfl : j = a.es.length := by omega
    conv => whnf
    repeat' first
      | ((with_reducible refine Gets.shrN ?_ ?_); (· omega); conv => whnf)
      | ((with_reducible refine Gets.andOne ?_ ?_); (· first | omega | exact Nat.lt_of_le_of_lt (Nat.shiftRight_le _ _) (by omega)); conv => whnf)
      | ((with_reducible refine Gets.shlN ?_ ?_); (· omega); conv => whnf)
      | ((with_reducible refine Gets.shlI ?_ ?_ ?_); (· omega); (· omega); conv => whnf)
      | ((with_reducible refine Gets.quoI ?_ ?_ ?_ ?_); (· omega); (· omega); (· omega); conv => whnf)
      | ((with_reducible refine Gets.remN ?_ ?_ ?_); (· omega); (· omega); conv => whnf)
      | ((with_reducible refine Fork.bit (fun _ => ?_) (fun _ => ?_)) <;> (conv => whnf))
      | ((with_reducible refine Gets.addI ?_ ?_ ?_); (· omega); (· omega); conv => whnf)
      | ((with_reducible refine Gets.subI ?_ ?_ ?_); (· omega); (· omega); conv => whnf)
      | ((with_reducible refine Gets.mulI ?_ ?_ ?_); (· omega); (· omega); conv => whnf)
      | (refine Gets.of _ rfl ?_; conv => whnf)
      | (refine Gets.ix1v rfl rfl (by omega) ?_; conv => whnf)
      | (refine Gets.ix1 rfl rfl (by omega) ?_; conv => whnf)
      | (refine Gets.ixIv rfl rfl (by omega) (by omega) ?_; conv => whnf)
      | (refine Gets.ixI rfl rfl (by omega) (by omega) ?_; conv => whnf)
      | (refine Gets.ixEv (es := 2) rfl rfl (by omega) ?_; conv => whnf)
      | (refine Gets.ixE (es := 2) rfl rfl (by omega) ?_; conv => whnf)
      | (refine Gets.ldP (ti := tiP) rfl rfl rfl (by first | rfl | assumption) (by first | omega | exact Nat.le_of_ble_eq_true rfl) ?_; conv => whnf)
      | (refine Gets.ldI rfl (by first | rfl | assumption) (by first | omega | exact Nat.le_of_ble_eq_true rfl) ?_; conv => whnf)
      | (refine Gets.ldB rfl (by first | rfl | assumption) (by first | omega | exact Nat.le_of_ble_eq_true rfl) ?_; conv => whnf)
      | (refine Gets.ixR1 rfl rfl (by omega) ?_; conv => whnf)
      | (refine Gets.ixRI rfl rfl (by omega) (by omega) ?_; conv => whnf)
      | (refine Gets.ldRI rfl (by first | omega | exact Nat.le_of_ble_eq_true rfl) ?_; conv => whnf)
      | (refine Gets.ldRB rfl (by first | omega | exact Nat.le_of_ble_eq_true rfl) ?_; conv => whnf)
      | (refine Chk.mk (by repeat first | exact .nil | refine .cons rfl ?_) ?_; conv => whnf)
      | (refine Alls.mk ?_ ?_ <;> conv => whnf)
      | (refine Gets.stA rfl rfl rfl rfl (by simp only [List.all_cons, List.all_nil, oI_sc, oP_sc, oN_sc, Bool.and_true, Bool.true_and] <;> rfl) ?_; conv => whnf)
      | (refine seqL1_of ?_; conv => whnf)
      | (refine seqV_of ?_; conv => whnf)
      | (refine seq1_of ?_; conv => whnf)
      | (refine seq0_of ?_; conv => whnf)
      | (refine Fork.yesR rfl ?_; conv => whnf)
      | (refine Fork.noR rfl ?_; conv => whnf)
      | (refine Fork.dec (fun _ => ?_) (fun _ => ?_) <;> first | (exfalso; omega) | (conv => whnf))
      | (refine Fork.eqI (fun _ => ?_) (fun _ => ?_) <;> first | (exfalso; omega) | (conv => whnf))
      | (refine Fork.neI (fun _ => ?_) (fun _ => ?_) <;> first | (exfalso; omega) | (conv => whnf))
      | (refine Fork.any (fun _ => ?_) (fun _ => ?_) <;> (conv => whnf))
    exact ⟨[], _, rfl, .same rfl, rfl, rfl⟩
theorem maxRr (a : Au) (hf : a.Fits) (H : AHeap) : CallW Try.prog 9 [a.rv] H fun v H' => H' = H ∧ v = .tuple [.int .i64 (maxA a).1, .int .i64 (maxA a).2] := by
  refine CallW.pure ?_ rfl H
  refine CallW.symK (cuts := []) Try.func9 rfl (by kernel_rfl) ?_
  conv => whnf
  repeat' first
    | ((with_reducible refine Gets.shrN ?_ ?_); (· omega); conv => whnf)
    | ((with_reducible refine Gets.andOne ?_ ?_); (· first | omega | exact Nat.lt_of_le_of_lt (Nat.shiftRight_le _ _) (by omega)); conv => whnf)
    | ((with_reducible refine Gets.shlN ?_ ?_); (· omega); conv => whnf)
    | ((with_reducible refine Gets.shlI ?_ ?_ ?_); (· omega); (· omega); conv => whnf)
    | ((with_reducible refine Gets.quoI ?_ ?_ ?_ ?_); (· omega); (· omega); (· omega); conv => whnf)
    | ((with_reducible refine Gets.remN ?_ ?_ ?_); (· omega); (· omega); conv => whnf)
    | ((with_reducible refine Fork.bit (fun _ => ?_) (fun _ => ?_)) <;> (conv => whnf))
    | ((with_reducible refine Gets.addI ?_ ?_ ?_); (· omega); (· omega); conv => whnf)
    | ((with_reducible refine Gets.subI ?_ ?_ ?_); (· omega); (· omega); conv => whnf)
    | ((with_reducible refine Gets.mulI ?_ ?_ ?_); (· omega); (· omega); conv => whnf)
    | (refine Gets.of _ rfl ?_; conv => whnf)
    | (refine Gets.ix1v rfl rfl (by omega) ?_; conv => whnf)
    | (refine Gets.ix1 rfl rfl (by omega) ?_; conv => whnf)
    | (refine Gets.ixIv rfl rfl (by omega) (by omega) ?_; conv => whnf)
    | (refine Gets.ixI rfl rfl (by omega) (by omega) ?_; conv => whnf)
    | (refine Gets.ixEv (es := 2) rfl rfl (by omega) ?_; conv => whnf)
    | (refine Gets.ixE (es := 2) rfl rfl (by omega) ?_; conv => whnf)
    | (refine Gets.ldP (ti := tiP) rfl rfl rfl (by first | rfl | assumption) (by first | omega | exact Nat.le_of_ble_eq_true rfl) ?_; conv => whnf)
    | (refine Gets.ldI rfl (by first | rfl | assumption) (by first | omega | exact Nat.le_of_ble_eq_true rfl) ?_; conv => whnf)
    | (refine Gets.ldB rfl (by first | rfl | assumption) (by first | omega | exact Nat.le_of_ble_eq_true rfl) ?_; conv => whnf)
    | (refine Gets.ixR1 rfl rfl (by omega) ?_; conv => whnf)
    | (refine Gets.ixRI rfl rfl (by omega) (by omega) ?_; conv => whnf)
    | (refine Gets.ldRI rfl (by first | omega | exact Nat.le_of_ble_eq_true rfl) ?_; conv => whnf)
    | (refine Gets.ldRB rfl (by first | omega | exact Nat.le_of_ble_eq_true rfl) ?_; conv => whnf)
    | (refine Chk.mk (by repeat first | exact .nil | refine .cons rfl ?_) ?_; conv => whnf)
    | (refine Alls.mk ?_ ?_ <;> conv => whnf)
    | (refine Gets.stA rfl rfl rfl rfl (by simp only [List.all_cons, List.all_nil, oI_sc, oP_sc, oN_sc, Bool.and_true, Bool.true_and] <;> rfl) ?_; conv => whnf)
    | (refine seqL1_of ?_; conv => whnf)
    | (refine seqV_of ?_; conv => whnf)
    | (refine seq1_of ?_; conv => whnf)
    | (refine seq0_of ?_; conv => whnf)
    | (refine Fork.yesR rfl ?_; conv => whnf)
    | (refine Fork.noR rfl ?_; conv => whnf)
    | (refine Fork.dec (fun _ => ?_) (fun _ => ?_) <;> first | (exfalso; omega) | (conv => whnf))
    | (refine Fork.eqI (fun _ => ?_) (fun _ => ?_) <;> first | (exfalso; omega) | (conv => whnf))
    | (refine Fork.neI (fun _ => ?_) (fun _ => ?_) <;> first | (exfalso; omega) | (conv => whnf))
    | (refine Fork.any (fun _ => ?_) (fun _ => ?_) <;> (conv => whnf))
  refine CallS.of (by kernel_rfl) (validAr a hf _) rfl ?_
  rintro _ _ ⟨rfl, hk | hk⟩
  rotate_left
  · rw [maxA, if_neg hk]
    conv => whnf
    repeat' first
      | ((with_reducible refine Gets.shrN ?_ ?_); (· omega); conv => whnf)
      | ((with_reducible refine Gets.andOne ?_ ?_); (· first | omega | exact Nat.lt_of_le_of_lt (Nat.shiftRight_le _ _) (by omega)); conv => whnf)
      | ((with_reducible refine Gets.shlN ?_ ?_); (· omega); conv => whnf)
      | ((with_reducible refine Gets.shlI ?_ ?_ ?_); (· omega); (· omega); conv => whnf)
      | ((with_reducible refine Gets.quoI ?_ ?_ ?_ ?_); (· omega); (· omega); (· omega); conv => whnf)
      | ((with_reducible refine Gets.remN ?_ ?_ ?_); (· omega); (· omega); conv => whnf)
      | ((with_reducible refine Fork.bit (fun _ => ?_) (fun _ => ?_)) <;> (conv => whnf))
      | ((with_reducible refine Gets.addI ?_ ?_ ?_); (· omega); (· omega); conv => whnf)
      | ((with_reducible refine Gets.subI ?_ ?_ ?_); (· omega); (· omega); conv => whnf)
      | ((with_reducible refine Gets.mulI ?_ ?_ ?_); (· omega); (· omega); conv => whnf)
      | (refine Gets.of _ rfl ?_; conv => whnf)
      | (refine Gets.ix1v rfl rfl (by omega) ?_; conv => whnf)
      | (refine Gets.ix1 rfl rfl (by omega) ?_; conv => whnf)
      | (refine Gets.ixIv rfl rfl (by omega) (by omega) ?_; conv => whnf)
      | (refine Gets.ixI rfl rfl (by omega) (by omega) ?_; conv => whnf)
      | (refine Gets.ixEv (es := 2) rfl rfl (by omega) ?_; conv => whnf)
      | (refine Gets.ixE (es := 2) rfl rfl (by omega) ?_; conv => whnf)
      | (refine Gets.ldP (ti := tiP) rfl rfl rfl (by first | rfl | assumption) (by first | omega | exact Nat.le_of_ble_eq_true rfl) ?_; conv => whnf)
      | (refine Gets.ldI rfl (by first | rfl | assumption) (by first | omega | exact Nat.le_of_ble_eq_true rfl) ?_; conv => whnf)
      | (refine Gets.ldB rfl (by first | rfl | assumption) (by first | omega | exact Nat.le_of_ble_eq_true rfl) ?_; conv => whnf)
      | (refine Gets.ixR1 rfl rfl (by omega) ?_; conv => whnf)
      | (refine Gets.ixRI rfl rfl (by omega) (by omega) ?_; conv => whnf)
      | (refine Gets.ldRI rfl (by first | omega | exact Nat.le_of_ble_eq_true rfl) ?_; conv => whnf)
      | (refine Gets.ldRB rfl (by first | omega | exact Nat.le_of_ble_eq_true rfl) ?_; conv => whnf)
      | (refine Chk.mk (by repeat first | exact .nil | refine .cons rfl ?_) ?_; conv => whnf)
      | (refine Alls.mk ?_ ?_ <;> conv => whnf)
      | (refine Gets.stA rfl rfl rfl rfl (by simp only [List.all_cons, List.all_nil, oI_sc, oP_sc, oN_sc, Bool.and_true, Bool.true_and] <;> rfl) ?_; conv => whnf)
      | (refine seqL1_of ?_; conv => whnf)
      | (refine seqV_of ?_; conv => whnf)
      | (refine seq1_of ?_; conv => whnf)
      | (refine seq0_of ?_; conv => whnf)
      | (refine Fork.yesR rfl ?_; conv => whnf)
      | (refine Fork.noR rfl ?_; conv => whnf)
      | (refine Fork.dec (fun _ => ?_) (fun _ => ?_) <;> first | (exfalso; omega) | (conv => whnf))
      | (refine Fork.eqI (fun _ => ?_) (fun _ => ?_) <;> first | (exfalso; omega) | (conv => whnf))
      | (refine Fork.neI (fun _ => ?_) (fun _ => ?_) <;> first | (exfalso; omega) | (conv => whnf))
      | (refine Fork.any (fun _ => ?_) (fun _ => ?_) <;> (conv => whnf))
    exact ⟨[], _, rfl, .same rfl, rfl, rfl⟩
  have hne := hk.ne
  have hm0 := hk.mo.1
  have hm1 := hk.mo.2.1
  rw [maxA, if_pos hk]
  conv => whnf
  repeat' first
    | ((with_reducible refine Gets.shrN ?_ ?_); (· omega); conv => whnf)
    | ((with_reducible refine Gets.andOne ?_ ?_); (· first | omega | exact Nat.lt_of_le_of_lt (Nat.shiftRight_le _ _) (by omega)); conv => whnf)
    | ((with_reducible refine Gets.shlN ?_ ?_); (· omega); conv => whnf)
    | ((with_reducible refine Gets.shlI ?_ ?_ ?_); (· omega); (· omega); conv => whnf)
    | ((with_reducible refine Gets.quoI ?_ ?_ ?_ ?_); (· omega); (· omega); (· omega); conv => whnf)
    | ((with_reducible refine Gets.remN ?_ ?_ ?_); (· omega); (· omega); conv => whnf)
    | ((with_reducible refine Fork.bit (fun _ => ?_) (fun _ => ?_)) <;> (conv => whnf))
    | ((with_reducible refine Gets.addI ?_ ?_ ?_); (· omega); (· omega); conv => whnf)
    | ((with_reducible refine Gets.subI ?_ ?_ ?_); (· omega); (· omega); conv => whnf)
    | ((with_reducible refine Gets.mulI ?_ ?_ ?_); (· omega); (· omega); conv => whnf)
    | (refine Gets.of _ rfl ?_; conv => whnf)
    | (refine Gets.ix1v rfl rfl (by omega) ?_; conv => whnf)
    | (refine Gets.ix1 rfl rfl (by omega) ?_; conv => whnf)
    | (refine Gets.ixIv rfl rfl (by omega) (by omega) ?_; conv => whnf)
    | (refine Gets.ixI rfl rfl (by omega) (by omega) ?_; conv => whnf)
    | (refine Gets.ixEv (es := 2) rfl rfl (by omega) ?_; conv => whnf)
    | (refine Gets.ixE (es := 2) rfl rfl (by omega) ?_; conv => whnf)
    | (refine Gets.ldP (ti := tiP) rfl rfl rfl (by first | rfl | assumption) (by first | omega | exact Nat.le_of_ble_eq_true rfl) ?_; conv => whnf)
    | (refine Gets.ldI rfl (by first | rfl | assumption) (by first | omega | exact Nat.le_of_ble_eq_true rfl) ?_; conv => whnf)
    | (refine Gets.ldB rfl (by first | rfl | assumption) (by first | omega | exact Nat.le_of_ble_eq_true rfl) ?_; conv => whnf)
    | (refine Gets.ixR1 rfl rfl (by omega) ?_; conv => whnf)
    | (refine Gets.ixRI rfl rfl (by omega) (by omega) ?_; conv => whnf)
    | (refine Gets.ldRI rfl (by first | omega | exact Nat.le_of_ble_eq_true rfl) ?_; conv => whnf)
    | (refine Gets.ldRB rfl (by first | omega | exact Nat.le_of_ble_eq_true rfl) ?_; conv => whnf)
    | (refine Chk.mk (by repeat first | exact .nil | refine .cons rfl ?_) ?_; conv => whnf)
    | (refine Alls.mk ?_ ?_ <;> conv => whnf)
    | (refine Gets.stA rfl rfl rfl rfl (by simp only [List.all_cons, List.all_nil, oI_sc, oP_sc, oN_sc, Bool.and_true, Bool.true_and] <;> rfl) ?_; conv => whnf)
    | (refine seqL1_of ?_; conv => whnf)
    | (refine seqV_of ?_; conv => whnf)
    | (refine seq1_of ?_; conv => whnf)
    | (refine seq0_of ?_; conv => whnf)
    | (refine Fork.yesR rfl ?_; conv => whnf)
    | (refine Fork.noR rfl ?_; conv => whnf)
    | (refine Fork.dec (fun _ => ?_) (fun _ => ?_) <;> first | (exfalso; omega) | (conv => whnf))
    | (refine Fork.eqI (fun _ => ?_) (fun _ => ?_) <;> first | (exfalso; omega) | (conv => whnf))
    | (refine Fork.neI (fun _ => ?_) (fun _ => ?_) <;> first | (exfalso; omega) | (conv => whnf))
    | (refine Fork.any (fun _ => ?_) (fun _ => ?_) <;> (conv => whnf))
  · rw [if_neg (show ¬ a.kind = 5 by assumption)]
    exact ⟨[], _, rfl, .same rfl, rfl, rfl⟩
  rw [if_pos (show a.kind = 5 by omega)]
  have hb := topJ_b a fun j hj => by obtain ⟨M, h1, _, _, h4⟩ := hk.mark hj; rw [h1]; exact h4
  refine CodeS.loopGK (cuts := []) (σ := Nat) (fun j => [(1, .ptr 0 0), (4, .int .i64 (topJ a j)), (17, rE a.es), (18, .int .i64 (a.es.length : Int)), (19, .int .i64 (j : Int))]) (fun _ => emptyH.alloc (.cells 1 [.int .i64 a.props, .int .i64 a.states, rI a.start, .int .i64 a.kind, .int .i64 a.marks, rE a.es])) (fun j => j ≤ a.es.length) (fun j => a.es.length - j) 0 (renL [0] 1) (by kernel_rfl) (Nat.zero_le _) ⟨rfl, rfl, rfl, rfl, rfl, trivial⟩ (EmbL.litsN [0] rfl rfl rfl rfl .nil (.cons ⟨rfl, .inl rfl⟩ .nil)) ?_
  intro j hj
  have hbj := hb j hj
  rcases Nat.lt_or_ge j a.es.length with hjl | hjl
  · obtain ⟨M, hM, hM1, hM2, hM3⟩ := hk.mark hjl
    have hnx : topJ a (j + 1) = max (topJ a j) ((bl M : Int) - 1) := by show max _ _ = _; rw [hM]; rfl
    conv => whnf
    repeat' first
      | ((refine Gets.ixRE (es := 5) rfl (by kernel_rfl) (by omega) ?_); conv => whnf)
      | ((refine Gets.ldREM rfl rfl rfl rfl hjl hM ?_); conv => whnf)
      | ((with_reducible refine Gets.shrN ?_ ?_); (· omega); conv => whnf)
      | ((with_reducible refine Gets.andOne ?_ ?_); (· first | omega | exact Nat.lt_of_le_of_lt (Nat.shiftRight_le _ _) (by omega)); conv => whnf)
      | ((with_reducible refine Gets.shlN ?_ ?_); (· omega); conv => whnf)
      | ((with_reducible refine Gets.shlI ?_ ?_ ?_); (· omega); (· omega); conv => whnf)
      | ((with_reducible refine Gets.quoI ?_ ?_ ?_ ?_); (· omega); (· omega); (· omega); conv => whnf)
      | ((with_reducible refine Gets.remN ?_ ?_ ?_); (· omega); (· omega); conv => whnf)
      | ((with_reducible refine Fork.bit (fun _ => ?_) (fun _ => ?_)) <;> (conv => whnf))
      | ((with_reducible refine Gets.addI ?_ ?_ ?_); (· omega); (· omega); conv => whnf)
      | ((with_reducible refine Gets.subI ?_ ?_ ?_); (· omega); (· omega); conv => whnf)
      | ((with_reducible refine Gets.mulI ?_ ?_ ?_); (· omega); (· omega); conv => whnf)
      | (refine Gets.of _ rfl ?_; conv => whnf)
      | (refine Gets.ix1v rfl rfl (by omega) ?_; conv => whnf)
      | (refine Gets.ix1 rfl rfl (by omega) ?_; conv => whnf)
      | (refine Gets.ixIv rfl rfl (by omega) (by omega) ?_; conv => whnf)
      | (refine Gets.ixI rfl rfl (by omega) (by omega) ?_; conv => whnf)
      | (refine Gets.ixEv (es := 2) rfl rfl (by omega) ?_; conv => whnf)
      | (refine Gets.ixE (es := 2) rfl rfl (by omega) ?_; conv => whnf)
      | (refine Gets.ldP (ti := tiP) rfl rfl rfl (by first | rfl | assumption) (by first | omega | exact Nat.le_of_ble_eq_true rfl) ?_; conv => whnf)
      | (refine Gets.ldI rfl (by first | rfl | assumption) (by first | omega | exact Nat.le_of_ble_eq_true rfl) ?_; conv => whnf)
      | (refine Gets.ldB rfl (by first | rfl | assumption) (by first | omega | exact Nat.le_of_ble_eq_true rfl) ?_; conv => whnf)
      | (refine Gets.ixR1 rfl rfl (by omega) ?_; conv => whnf)
      | (refine Gets.ixRI rfl rfl (by omega) (by omega) ?_; conv => whnf)
      | (refine Gets.ldRI rfl (by first | omega | exact Nat.le_of_ble_eq_true rfl) ?_; conv => whnf)
      | (refine Gets.ldRB rfl (by first | omega | exact Nat.le_of_ble_eq_true rfl) ?_; conv => whnf)
      | (refine Chk.mk (by repeat first | exact .nil | refine .cons rfl ?_) ?_; conv => whnf)
      | (refine Alls.mk ?_ ?_ <;> conv => whnf)
      | (refine Gets.stA rfl rfl rfl rfl (by simp only [List.all_cons, List.all_nil, oI_sc, oP_sc, oN_sc, Bool.and_true, Bool.true_and] <;> rfl) ?_; conv => whnf)
      | (refine seqL1_of ?_; conv => whnf)
      | (refine seqV_of ?_; conv => whnf)
      | (refine seq1_of ?_; conv => whnf)
      | (refine seq0_of ?_; conv => whnf)
      | (refine Fork.yesR rfl ?_; conv => whnf)
      | (refine Fork.noR rfl ?_; conv => whnf)
      | (refine Fork.dec (fun _ => ?_) (fun _ => ?_) <;> first | (exfalso; omega) | (conv => whnf))
      | (refine Fork.eqI (fun _ => ?_) (fun _ => ?_) <;> first | (exfalso; omega) | (conv => whnf))
      | (refine Fork.neI (fun _ => ?_) (fun _ => ?_) <;> first | (exfalso; omega) | (conv => whnf))
      | (refine Fork.any (fun _ => ?_) (fun _ => ?_) <;> (conv => whnf))
    refine CodeS.loopGK (cuts := []) (σ := Nat) (fun k => [(1, .ptr 0 0), (4, .int .i64 (max (topJ a j) ((bl (M % 2 ^ k) : Int) - 1))), (6, .ptr 1 0), (17, rE a.es), (18, .int .i64 (a.es.length : Int)), (19, .int .i64 (j : Int)), (24, .int .i64 a.marks), (25, .int .i64 (k : Int))]) (fun _ => (emptyH.alloc (.cells 1 [.int .i64 a.props, .int .i64 a.states, rI a.start, .int .i64 a.kind, .int .i64 a.marks, rE a.es])).alloc (.cells 1 [.int .i64 (a.es.getD j default).fr, .int .i64 (a.es.getD j default).to, .int .i64 (a.es.getD j default).care, .int .i64 (a.es.getD j default).bits, .int .i64 (M : Int)])) (fun k => (k : Int) ≤ a.marks) (fun k => a.marks.toNat - k) 0 (renL [0, 1] 2) (by kernel_rfl) hm0 ⟨rfl, ?_, rfl, rfl, rfl, rfl, rfl, rfl, trivial⟩ (EmbL.litsN [0, 1] rfl rfl rfl rfl .nil (.cons ⟨rfl, .inl rfl⟩ (.cons ⟨rfl, .inl rfl⟩ .nil))) ?_
    · have h0 : max (topJ a j) ((bl (M % 2 ^ 0) : Int) - 1) = topJ a j := by
        have e : bl (M % 2 ^ 0) = 0 := by rw [Nat.pow_zero, Nat.mod_one]; rfl
        rw [e]; omega
      rw [h0]; rfl
    intro k hk1
    have hbk := bl_mod_le M k
    rcases Int.lt_or_le (k : Int) a.marks with hkl | hkl
    · conv => whnf
      repeat' first
        | ((with_reducible refine Gets.shrN ?_ ?_); (· omega); conv => whnf)
        | ((with_reducible refine Gets.andOne ?_ ?_); (· first | omega | exact Nat.lt_of_le_of_lt (Nat.shiftRight_le _ _) (by omega)); conv => whnf)
        | ((with_reducible refine Gets.shlN ?_ ?_); (· omega); conv => whnf)
        | ((with_reducible refine Gets.shlI ?_ ?_ ?_); (· omega); (· omega); conv => whnf)
        | ((with_reducible refine Gets.quoI ?_ ?_ ?_ ?_); (· omega); (· omega); (· omega); conv => whnf)
        | ((with_reducible refine Gets.remN ?_ ?_ ?_); (· omega); (· omega); conv => whnf)
        | ((with_reducible refine Fork.bit (fun _ => ?_) (fun _ => ?_)) <;> (conv => whnf))
        | ((with_reducible refine Gets.addI ?_ ?_ ?_); (· omega); (· omega); conv => whnf)
        | ((with_reducible refine Gets.subI ?_ ?_ ?_); (· omega); (· omega); conv => whnf)
        | ((with_reducible refine Gets.mulI ?_ ?_ ?_); (· omega); (· omega); conv => whnf)
        | (refine Gets.of _ rfl ?_; conv => whnf)
        | (refine Gets.ix1v rfl rfl (by omega) ?_; conv => whnf)
        | (refine Gets.ix1 rfl rfl (by omega) ?_; conv => whnf)
        | (refine Gets.ixIv rfl rfl (by omega) (by omega) ?_; conv => whnf)
        | (refine Gets.ixI rfl rfl (by omega) (by omega) ?_; conv => whnf)
        | (refine Gets.ixEv (es := 2) rfl rfl (by omega) ?_; conv => whnf)
        | (refine Gets.ixE (es := 2) rfl rfl (by omega) ?_; conv => whnf)
        | (refine Gets.ldP (ti := tiP) rfl rfl rfl (by first | rfl | assumption) (by first | omega | exact Nat.le_of_ble_eq_true rfl) ?_; conv => whnf)
        | (refine Gets.ldI rfl (by first | rfl | assumption) (by first | omega | exact Nat.le_of_ble_eq_true rfl) ?_; conv => whnf)
        | (refine Gets.ldB rfl (by first | rfl | assumption) (by first | omega | exact Nat.le_of_ble_eq_true rfl) ?_; conv => whnf)
        | (refine Gets.ixR1 rfl rfl (by omega) ?_; conv => whnf)
        | (refine Gets.ixRI rfl rfl (by omega) (by omega) ?_; conv => whnf)
        | (refine Gets.ldRI rfl (by first | omega | exact Nat.le_of_ble_eq_true rfl) ?_; conv => whnf)
        | (refine Gets.ldRB rfl (by first | omega | exact Nat.le_of_ble_eq_true rfl) ?_; conv => whnf)
        | (refine Chk.mk (by repeat first | exact .nil | refine .cons rfl ?_) ?_; conv => whnf)
        | (refine Alls.mk ?_ ?_ <;> conv => whnf)
        | (refine Gets.stA rfl rfl rfl rfl (by simp only [List.all_cons, List.all_nil, oI_sc, oP_sc, oN_sc, Bool.and_true, Bool.true_and] <;> rfl) ?_; conv => whnf)
        | (refine seqL1_of ?_; conv => whnf)
        | (refine seqV_of ?_; conv => whnf)
        | (refine seq1_of ?_; conv => whnf)
        | (refine seq0_of ?_; conv => whnf)
        | (refine Fork.yesR rfl ?_; conv => whnf)
        | (refine Fork.noR rfl ?_; conv => whnf)
        | (refine Fork.dec (fun _ => ?_) (fun _ => ?_) <;> first | (exfalso; omega) | (conv => whnf))
        | (refine Fork.eqI (fun _ => ?_) (fun _ => ?_) <;> first | (exfalso; omega) | (conv => whnf))
        | (refine Fork.neI (fun _ => ?_) (fun _ => ?_) <;> first | (exfalso; omega) | (conv => whnf))
        | (refine Fork.any (fun _ => ?_) (fun _ => ?_) <;> (conv => whnf))
      · rename_i ht
        refine ⟨k + 1, renL [0, 1] 2, by omega, by omega, ⟨rfl, ?_, rfl, rfl, rfl, rfl, rfl, rfl, trivial⟩, EmbL.litsN [0, 1] rfl rfl rfl rfl .nil (.cons ⟨rfl, .inl rfl⟩ (.cons ⟨rfl, .inl rfl⟩ .nil))⟩
        rw [bl_bit ht]
        refine (congrArg (AVal.int .i64) ?_ : AVal.int .i64 _ = AVal.int .i64 _)
        rw [amm_max]; omega
      · rename_i ht
        refine ⟨k + 1, renL [0, 1] 2, by omega, by omega, ⟨rfl, ?_, rfl, rfl, rfl, rfl, rfl, rfl, trivial⟩, EmbL.litsN [0, 1] rfl rfl rfl rfl .nil (.cons ⟨rfl, .inl rfl⟩ (.cons ⟨rfl, .inl rfl⟩ .nil))⟩
        rw [bl_nobit (by simpa using ht)]
        rfl
    · obtain rfl : k = a.marks.toNat := by omega
      conv => whnf
      repeat' first
        | ((with_reducible refine Gets.shrN ?_ ?_); (· omega); conv => whnf)
        | ((with_reducible refine Gets.andOne ?_ ?_); (· first | omega | exact Nat.lt_of_le_of_lt (Nat.shiftRight_le _ _) (by omega)); conv => whnf)
        | ((with_reducible refine Gets.shlN ?_ ?_); (· omega); conv => whnf)
        | ((with_reducible refine Gets.shlI ?_ ?_ ?_); (· omega); (· omega); conv => whnf)
        | ((with_reducible refine Gets.quoI ?_ ?_ ?_ ?_); (· omega); (· omega); (· omega); conv => whnf)
        | ((with_reducible refine Gets.remN ?_ ?_ ?_); (· omega); (· omega); conv => whnf)
        | ((with_reducible refine Fork.bit (fun _ => ?_) (fun _ => ?_)) <;> (conv => whnf))
        | ((with_reducible refine Gets.addI ?_ ?_ ?_); (· omega); (· omega); conv => whnf)
        | ((with_reducible refine Gets.subI ?_ ?_ ?_); (· omega); (· omega); conv => whnf)
        | ((with_reducible refine Gets.mulI ?_ ?_ ?_); (· omega); (· omega); conv => whnf)
        | (refine Gets.of _ rfl ?_; conv => whnf)
        | (refine Gets.ix1v rfl rfl (by omega) ?_; conv => whnf)
        | (refine Gets.ix1 rfl rfl (by omega) ?_; conv => whnf)
        | (refine Gets.ixIv rfl rfl (by omega) (by omega) ?_; conv => whnf)
        | (refine Gets.ixI rfl rfl (by omega) (by omega) ?_; conv => whnf)
        | (refine Gets.ixEv (es := 2) rfl rfl (by omega) ?_; conv => whnf)
        | (refine Gets.ixE (es := 2) rfl rfl (by omega) ?_; conv => whnf)
        | (refine Gets.ldP (ti := tiP) rfl rfl rfl (by first | rfl | assumption) (by first | omega | exact Nat.le_of_ble_eq_true rfl) ?_; conv => whnf)
        | (refine Gets.ldI rfl (by first | rfl | assumption) (by first | omega | exact Nat.le_of_ble_eq_true rfl) ?_; conv => whnf)
        | (refine Gets.ldB rfl (by first | rfl | assumption) (by first | omega | exact Nat.le_of_ble_eq_true rfl) ?_; conv => whnf)
        | (refine Gets.ixR1 rfl rfl (by omega) ?_; conv => whnf)
        | (refine Gets.ixRI rfl rfl (by omega) (by omega) ?_; conv => whnf)
        | (refine Gets.ldRI rfl (by first | omega | exact Nat.le_of_ble_eq_true rfl) ?_; conv => whnf)
        | (refine Gets.ldRB rfl (by first | omega | exact Nat.le_of_ble_eq_true rfl) ?_; conv => whnf)
        | (refine Chk.mk (by repeat first | exact .nil | refine .cons rfl ?_) ?_; conv => whnf)
        | (refine Alls.mk ?_ ?_ <;> conv => whnf)
        | (refine Gets.stA rfl rfl rfl rfl (by simp only [List.all_cons, List.all_nil, oI_sc, oP_sc, oN_sc, Bool.and_true, Bool.true_and] <;> rfl) ?_; conv => whnf)
        | (refine seqL1_of ?_; conv => whnf)
        | (refine seqV_of ?_; conv => whnf)
        | (refine seq1_of ?_; conv => whnf)
        | (refine seq0_of ?_; conv => whnf)
        | (refine Fork.yesR rfl ?_; conv => whnf)
        | (refine Fork.noR rfl ?_; conv => whnf)
        | (refine Fork.dec (fun _ => ?_) (fun _ => ?_) <;> first | (exfalso; omega) | (conv => whnf))
        | (refine Fork.eqI (fun _ => ?_) (fun _ => ?_) <;> first | (exfalso; omega) | (conv => whnf))
        | (refine Fork.neI (fun _ => ?_) (fun _ => ?_) <;> first | (exfalso; omega) | (conv => whnf))
        | (refine Fork.any (fun _ => ?_) (fun _ => ?_) <;> (conv => whnf))
      refine ⟨j + 1, renL [0] 2, hjl, by show a.es.length - (j + 1) < _; omega, ⟨rfl, ?_, rfl, rfl, rfl, trivial⟩, EmbL.litsN [0] rfl rfl rfl rfl .nil (.cons ⟨rfl, .inl rfl⟩ .nil)⟩
      rw [hnx, Nat.mod_eq_of_lt hM1]
      rfl
  · obtain rfl : j = a.es.length := by omega
    conv => whnf
    repeat' first
      | ((with_reducible refine Gets.shrN ?_ ?_); (· omega); conv => whnf)
      | ((with_reducible refine Gets.andOne ?_ ?_); (· first | omega | exact Nat.lt_of_le_of_lt (Nat.shiftRight_le _ _) (by omega)); conv => whnf)
      | ((with_reducible refine Gets.shlN ?_ ?_); (· omega); conv => whnf)
      | ((with_reducible refine Gets.shlI ?_ ?_ ?_); (· omega); (· omega); conv => whnf)
      | ((with_reducible refine Gets.quoI ?_ ?_ ?_ ?_); (· omega); (· omega); (· omega); conv => whnf)
      | ((with_reducible refine Gets.remN ?_ ?_ ?_); (· omega); (· omega); conv => whnf)
      | ((with_reducible refine Fork.bit (fun _ => ?_) (fun _ => ?_)) <;> (conv => whnf))
      | ((with_reducible refine Gets.addI ?_ ?_ ?_); (· omega); (· omega); conv => whnf)
      | ((with_reducible refine Gets.subI ?_ ?_ ?_); (· omega); (· omega); conv => whnf)
      | ((with_reducible refine Gets.mulI ?_ ?_ ?_); (· omega); (· omega); conv => whnf)
      | (refine Gets.of _ rfl ?_; conv => whnf)
      | (refine Gets.ix1v rfl rfl (by omega) ?_; conv => whnf)
      | (refine Gets.ix1 rfl rfl (by omega) ?_; conv => whnf)
      | (refine Gets.ixIv rfl rfl (by omega) (by omega) ?_; conv => whnf)
      | (refine Gets.ixI rfl rfl (by omega) (by omega) ?_; conv => whnf)
      | (refine Gets.ixEv (es := 2) rfl rfl (by omega) ?_; conv => whnf)
      | (refine Gets.ixE (es := 2) rfl rfl (by omega) ?_; conv => whnf)
      | (refine Gets.ldP (ti := tiP) rfl rfl rfl (by first | rfl | assumption) (by first | omega | exact Nat.le_of_ble_eq_true rfl) ?_; conv => whnf)
      | (refine Gets.ldI rfl (by first | rfl | assumption) (by first | omega | exact Nat.le_of_ble_eq_true rfl) ?_; conv => whnf)
      | (refine Gets.ldB rfl (by first | rfl | assumption) (by first | omega | exact Nat.le_of_ble_eq_true rfl) ?_; conv => whnf)
      | (refine Gets.ixR1 rfl rfl (by omega) ?_; conv => whnf)
      | (refine Gets.ixRI rfl rfl (by omega) (by omega) ?_; conv => whnf)
      | (refine Gets.ldRI rfl (by first | omega | exact Nat.le_of_ble_eq_true rfl) ?_; conv => whnf)
      | (refine Gets.ldRB rfl (by first | omega | exact Nat.le_of_ble_eq_true rfl) ?_; conv => whnf)
      | (refine Chk.mk (by repeat first | exact .nil | refine .cons rfl ?_) ?_; conv => whnf)
      | (refine Alls.mk ?_ ?_ <;> conv => whnf)
      | (refine Gets.stA rfl rfl rfl rfl (by simp only [List.all_cons, List.all_nil, oI_sc, oP_sc, oN_sc, Bool.and_true, Bool.true_and] <;> rfl) ?_; conv => whnf)
      | (refine seqL1_of ?_; conv => whnf)
      | (refine seqV_of ?_; conv => whnf)
      | (refine seq1_of ?_; conv => whnf)
      | (refine seq0_of ?_; conv => whnf)
      | (refine Fork.yesR rfl ?_; conv => whnf)
      | (refine Fork.noR rfl ?_; conv => whnf)
      | (refine Fork.dec (fun _ => ?_) (fun _ => ?_) <;> first | (exfalso; omega) | (conv => whnf))
      | (refine Fork.eqI (fun _ => ?_) (fun _ => ?_) <;> first | (exfalso; omega) | (conv => whnf))
      | (refine Fork.neI (fun _ => ?_) (fun _ => ?_) <;> first | (exfalso; omega) | (conv => whnf))
      | (refine Fork.any (fun _ => ?_) (fun _ => ?_) <;> (conv => whnf))
    exact ⟨[], _, rfl, .same rfl, rfl, rfl⟩
end Go.Proofs.Ytljedopidipabaa
