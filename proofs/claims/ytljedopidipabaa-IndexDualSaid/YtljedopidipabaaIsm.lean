/- Same, Few. -/
import Derived.Test.YtljedopidipabaaIcp
-- VkG VkH VmA
set_option linter.unusedVariables false
set_option linter.unusedSimpArgs false
set_option maxRecDepth 100000
set_option maxHeartbeats 4000000
namespace Go.Proofs.Ytljedopidipabaa
open Go Go.Vh Go.Vk Go.Proofs
theorem aeq_edge {P : Program} {t : TypeId} {fs : Array Field} (hu : P.underlying t = some (.struct fs)) (hd : flatD P t = some [.int .i64, .int .i64, .int .i64, .int .i64, .int .i64]) (hg : P.eqGuardType P.depth t = false) (a b : Edg) :
    aeqBin P .eql t (kvE a) (kvE b) = some (.bool (decide (a = b))) ∧ aeqBin P .neq t (kvE a) (kvE b) = some (.bool (!decide (a = b))) := by
  have e : aeqGo P t (kvE a) (kvE b) = some (decide (a = b)) := by
    simp only [kvE, aeqGo, hu, hd, hg]
    simp only [aeqL, aeqS, edg_ext, beqI]
    by_cases h1 : a.fr = b.fr <;> by_cases h2 : a.to = b.to <;> by_cases h3 : a.care = b.care <;> by_cases h4 : a.bits = b.bits <;> by_cases h5 : a.marks = b.marks <;> simp [h1, h2, h3, h4, h5] <;> rfl
  simp only [aeqBin, e, Option.map_some, and_self]
theorem listT (l : List Int) (hl : l.length ≤ 4611686018427387904) (H : AHeap) : CallW Try.prog 20 [rI l, rI l] H fun v H' => H' = H ∧ v = .bool true :=
  (listR l l hl hl H).mono fun v H' h => ⟨h.1, by
    obtain ⟨_, h | h⟩ := h
    · rfl
    · exact absurd rfl h⟩
/-- An automaton is the same as itself. -/
theorem sameT (u : Au) (hns : u.start.length ≤ 4611686018427387904) (hne : u.es.length ≤ 4611686018427387904) (H : AHeap) : CallW Try.prog 10 [u.rv, u.rv] H fun v H' => H' = H ∧ v = .bool true := by
  refine CallW.pure ?_ rfl H
  refine CallW.symK (cuts := []) Try.func10 rfl (by kernel_rfl) ?_
  conv => whnf
  repeat' first
    | ((with_reducible refine Gets.shrN ?_ ?_); (· omega); conv => whnf)
    | ((with_reducible refine Gets.andOne ?_ ?_); (· first | omega | exact Nat.lt_of_le_of_lt (Nat.shiftRight_le _ _) (by omega)); conv => whnf)
    | ((with_reducible refine Gets.shlN ?_ ?_); (· omega); conv => whnf)
    | ((with_reducible refine Gets.shlI ?_ ?_ ?_); (· omega); (· omega); conv => whnf)
    | ((with_reducible refine Gets.quoI ?_ ?_ ?_ ?_); (· omega); (· omega); (· omega); conv => whnf)
    | ((with_reducible refine Gets.remN ?_ ?_ ?_); (· omega); (· omega); conv => whnf)
    | ((with_reducible refine Fork.bit (fun _ => ?_) (fun _ => ?_)) <;> (conv => whnf))
    | ((with_reducible refine Gets.addI ?_ ?_ ?_); (· omega); (· omega); conv => whnf)
    | ((with_reducible refine Gets.subI ?_ ?_ ?_); (· omega); (· omega); conv => whnf)
    | ((with_reducible refine Gets.mulI ?_ ?_ ?_); (· omega); (· omega); conv => whnf)
    | (refine Gets.of _ rfl ?_; conv => whnf)
    | (refine Gets.ix1v rfl rfl (by omega) ?_; conv => whnf)
    | (refine Gets.ix1 rfl rfl (by omega) ?_; conv => whnf)
    | (refine Gets.ixIv rfl rfl (by omega) (by omega) ?_; conv => whnf)
    | (refine Gets.ixI rfl rfl (by omega) (by omega) ?_; conv => whnf)
    | (refine Gets.ixEv (es := 2) rfl rfl (by omega) ?_; conv => whnf)
    | (refine Gets.ixE (es := 2) rfl rfl (by omega) ?_; conv => whnf)
    | (refine Gets.ldP (ti := tiP) rfl rfl rfl (by first | rfl | assumption) (by first | omega | exact Nat.le_of_ble_eq_true rfl) ?_; conv => whnf)
    | (refine Gets.ldI rfl (by first | rfl | assumption) (by first | omega | exact Nat.le_of_ble_eq_true rfl) ?_; conv => whnf)
    | (refine Gets.ldB rfl (by first | rfl | assumption) (by first | omega | exact Nat.le_of_ble_eq_true rfl) ?_; conv => whnf)
    | (refine Gets.ixR1 rfl rfl (by omega) ?_; conv => whnf)
    | (refine Gets.ixRI rfl rfl (by omega) (by omega) ?_; conv => whnf)
    | (refine Gets.ldRI rfl (by first | omega | exact Nat.le_of_ble_eq_true rfl) ?_; conv => whnf)
    | (refine Gets.ldRB rfl (by first | omega | exact Nat.le_of_ble_eq_true rfl) ?_; conv => whnf)
    | (refine Chk.mk (by repeat first | exact .nil | refine .cons rfl ?_) ?_; conv => whnf)
    | (refine Alls.mk ?_ ?_ <;> conv => whnf)
    | (refine Gets.stA rfl rfl rfl rfl (by simp only [List.all_cons, List.all_nil, oI_sc, oP_sc, oN_sc, Bool.and_true, Bool.true_and] <;> rfl) ?_; conv => whnf)
    | (refine seqL1_of ?_; conv => whnf)
    | (refine seqV_of ?_; conv => whnf)
    | (refine seq1_of ?_; conv => whnf)
    | (refine seq0_of ?_; conv => whnf)
    | (refine Fork.yesR rfl ?_; conv => whnf)
    | (refine Fork.noR rfl ?_; conv => whnf)
    | (refine Fork.dec (fun _ => ?_) (fun _ => ?_) <;> first | (exfalso; omega) | (conv => whnf))
    | (refine Fork.eqI (fun _ => ?_) (fun _ => ?_) <;> first | (exfalso; omega) | (conv => whnf))
    | (refine Fork.neI (fun _ => ?_) (fun _ => ?_) <;> first | (exfalso; omega) | (conv => whnf))
    | (refine Fork.any (fun _ => ?_) (fun _ => ?_) <;> (conv => whnf))
  all_goals first | (rename_i h; exact absurd rfl h) | skip
  refine CallS.of (by kernel_rfl) (listT u.start hns _) rfl ?_
  rintro _ _ ⟨rfl, rfl⟩
  conv => whnf
  repeat' first
    | ((with_reducible refine Gets.shrN ?_ ?_); (· omega); conv => whnf)
    | ((with_reducible refine Gets.andOne ?_ ?_); (· first | omega | exact Nat.lt_of_le_of_lt (Nat.shiftRight_le _ _) (by omega)); conv => whnf)
    | ((with_reducible refine Gets.shlN ?_ ?_); (· omega); conv => whnf)
    | ((with_reducible refine Gets.shlI ?_ ?_ ?_); (· omega); (· omega); conv => whnf)
    | ((with_reducible refine Gets.quoI ?_ ?_ ?_ ?_); (· omega); (· omega); (· omega); conv => whnf)
    | ((with_reducible refine Gets.remN ?_ ?_ ?_); (· omega); (· omega); conv => whnf)
    | ((with_reducible refine Fork.bit (fun _ => ?_) (fun _ => ?_)) <;> (conv => whnf))
    | ((with_reducible refine Gets.addI ?_ ?_ ?_); (· omega); (· omega); conv => whnf)
    | ((with_reducible refine Gets.subI ?_ ?_ ?_); (· omega); (· omega); conv => whnf)
    | ((with_reducible refine Gets.mulI ?_ ?_ ?_); (· omega); (· omega); conv => whnf)
    | (refine Gets.of _ rfl ?_; conv => whnf)
    | (refine Gets.ix1v rfl rfl (by omega) ?_; conv => whnf)
    | (refine Gets.ix1 rfl rfl (by omega) ?_; conv => whnf)
    | (refine Gets.ixIv rfl rfl (by omega) (by omega) ?_; conv => whnf)
    | (refine Gets.ixI rfl rfl (by omega) (by omega) ?_; conv => whnf)
    | (refine Gets.ixEv (es := 2) rfl rfl (by omega) ?_; conv => whnf)
    | (refine Gets.ixE (es := 2) rfl rfl (by omega) ?_; conv => whnf)
    | (refine Gets.ldP (ti := tiP) rfl rfl rfl (by first | rfl | assumption) (by first | omega | exact Nat.le_of_ble_eq_true rfl) ?_; conv => whnf)
    | (refine Gets.ldI rfl (by first | rfl | assumption) (by first | omega | exact Nat.le_of_ble_eq_true rfl) ?_; conv => whnf)
    | (refine Gets.ldB rfl (by first | rfl | assumption) (by first | omega | exact Nat.le_of_ble_eq_true rfl) ?_; conv => whnf)
    | (refine Gets.ixR1 rfl rfl (by omega) ?_; conv => whnf)
    | (refine Gets.ixRI rfl rfl (by omega) (by omega) ?_; conv => whnf)
    | (refine Gets.ldRI rfl (by first | omega | exact Nat.le_of_ble_eq_true rfl) ?_; conv => whnf)
    | (refine Gets.ldRB rfl (by first | omega | exact Nat.le_of_ble_eq_true rfl) ?_; conv => whnf)
    | (refine Chk.mk (by repeat first | exact .nil | refine .cons rfl ?_) ?_; conv => whnf)
    | (refine Alls.mk ?_ ?_ <;> conv => whnf)
    | (refine Gets.stA rfl rfl rfl rfl (by simp only [List.all_cons, List.all_nil, oI_sc, oP_sc, oN_sc, Bool.and_true, Bool.true_and] <;> rfl) ?_; conv => whnf)
    | (refine seqL1_of ?_; conv => whnf)
    | (refine seqV_of ?_; conv => whnf)
    | (refine seq1_of ?_; conv => whnf)
    | (refine seq0_of ?_; conv => whnf)
    | (refine Fork.yesR rfl ?_; conv => whnf)
    | (refine Fork.noR rfl ?_; conv => whnf)
    | (refine Fork.dec (fun _ => ?_) (fun _ => ?_) <;> first | (exfalso; omega) | (conv => whnf))
    | (refine Fork.eqI (fun _ => ?_) (fun _ => ?_) <;> first | (exfalso; omega) | (conv => whnf))
    | (refine Fork.neI (fun _ => ?_) (fun _ => ?_) <;> first | (exfalso; omega) | (conv => whnf))
    | (refine Fork.any (fun _ => ?_) (fun _ => ?_) <;> (conv => whnf))
  all_goals first | (rename_i h; exact absurd rfl h) | skip
  refine CodeS.loopSK (cuts := []) (σ := Nat) (fun j => [(2, .ptr 0 0), (3, .ptr 1 0), (51, .int .i64 (u.es.length : Int)), (52, .int .i64 (j : Int))]) (fun _ => (emptyH.alloc (.cells 1 [.int .i64 u.props, .int .i64 u.states, rI u.start, .int .i64 u.kind, .int .i64 u.marks, rE u.es])).alloc (.cells 1 [.int .i64 u.props, .int .i64 u.states, rI u.start, .int .i64 u.kind, .int .i64 u.marks, rE u.es])) (fun j => j ≤ u.es.length) (fun j => u.es.length - j) 0 (by kernel_rfl) (Nat.zero_le _) ⟨rfl, rfl, rfl, rfl, trivial⟩ rfl ?_
  intro j hj
  rcases Nat.lt_or_ge j u.es.length with hjl | hjl
  · conv => whnf
    repeat' first
      | ((with_reducible refine Gets.shrN ?_ ?_); (· omega); conv => whnf)
      | ((with_reducible refine Gets.andOne ?_ ?_); (· first | omega | exact Nat.lt_of_le_of_lt (Nat.shiftRight_le _ _) (by omega)); conv => whnf)
      | ((with_reducible refine Gets.shlN ?_ ?_); (· omega); conv => whnf)
      | ((with_reducible refine Gets.shlI ?_ ?_ ?_); (· omega); (· omega); conv => whnf)
      | ((with_reducible refine Gets.quoI ?_ ?_ ?_ ?_); (· omega); (· omega); (· omega); conv => whnf)
      | ((with_reducible refine Gets.remN ?_ ?_ ?_); (· omega); (· omega); conv => whnf)
      | ((with_reducible refine Fork.bit (fun _ => ?_) (fun _ => ?_)) <;> (conv => whnf))
      | ((with_reducible refine Gets.addI ?_ ?_ ?_); (· omega); (· omega); conv => whnf)
      | ((with_reducible refine Gets.subI ?_ ?_ ?_); (· omega); (· omega); conv => whnf)
      | ((with_reducible refine Gets.mulI ?_ ?_ ?_); (· omega); (· omega); conv => whnf)
      | (refine Gets.of _ rfl ?_; conv => whnf)
      | (refine Gets.ix1v rfl rfl (by omega) ?_; conv => whnf)
      | (refine Gets.ix1 rfl rfl (by omega) ?_; conv => whnf)
      | (refine Gets.ixIv rfl rfl (by omega) (by omega) ?_; conv => whnf)
      | (refine Gets.ixI rfl rfl (by omega) (by omega) ?_; conv => whnf)
      | (refine Gets.ixEv (es := 2) rfl rfl (by omega) ?_; conv => whnf)
      | (refine Gets.ixE (es := 2) rfl rfl (by omega) ?_; conv => whnf)
      | (refine Gets.ldP (ti := tiP) rfl rfl rfl (by first | rfl | assumption) (by first | omega | exact Nat.le_of_ble_eq_true rfl) ?_; conv => whnf)
      | (refine Gets.ldI rfl (by first | rfl | assumption) (by first | omega | exact Nat.le_of_ble_eq_true rfl) ?_; conv => whnf)
      | (refine Gets.ldB rfl (by first | rfl | assumption) (by first | omega | exact Nat.le_of_ble_eq_true rfl) ?_; conv => whnf)
      | (refine Gets.ixR1 rfl rfl (by omega) ?_; conv => whnf)
      | (refine Gets.ixRI rfl rfl (by omega) (by omega) ?_; conv => whnf)
      | (refine Gets.ldRI rfl (by first | omega | exact Nat.le_of_ble_eq_true rfl) ?_; conv => whnf)
      | (refine Gets.ldRB rfl (by first | omega | exact Nat.le_of_ble_eq_true rfl) ?_; conv => whnf)
      | (refine Chk.mk (by repeat first | exact .nil | refine .cons rfl ?_) ?_; conv => whnf)
      | (refine Alls.mk ?_ ?_ <;> conv => whnf)
      | (refine Gets.stA rfl rfl rfl rfl (by simp only [List.all_cons, List.all_nil, oI_sc, oP_sc, oN_sc, Bool.and_true, Bool.true_and] <;> rfl) ?_; conv => whnf)
      | (refine seqL1_of ?_; conv => whnf)
      | (refine seqV_of ?_; conv => whnf)
      | (refine seq1_of ?_; conv => whnf)
      | (refine seq0_of ?_; conv => whnf)
      | (refine Fork.yesR rfl ?_; conv => whnf)
      | (refine Fork.noR rfl ?_; conv => whnf)
      | (refine Fork.dec (fun _ => ?_) (fun _ => ?_) <;> first | (exfalso; omega) | (conv => whnf))
      | (refine Fork.eqI (fun _ => ?_) (fun _ => ?_) <;> first | (exfalso; omega) | (conv => whnf))
      | (refine Fork.neI (fun _ => ?_) (fun _ => ?_) <;> first | (exfalso; omega) | (conv => whnf))
      | (refine Fork.any (fun _ => ?_) (fun _ => ?_) <;> (conv => whnf))
    refine CodeS.drawP (by kernel_rfl) (by kernel_rfl) ?_
    conv => whnf
    repeat' first
      | ((refine Gets.ixRE (es := 5) rfl (by kernel_rfl) (by omega) ?_); conv => whnf)
      | ((refine Gets.ldRE rfl rfl rfl rfl hjl ?_); conv => whnf)
      | ((with_reducible refine Gets.shrN ?_ ?_); (· omega); conv => whnf)
      | ((with_reducible refine Gets.andOne ?_ ?_); (· first | omega | exact Nat.lt_of_le_of_lt (Nat.shiftRight_le _ _) (by omega)); conv => whnf)
      | ((with_reducible refine Gets.shlN ?_ ?_); (· omega); conv => whnf)
      | ((with_reducible refine Gets.shlI ?_ ?_ ?_); (· omega); (· omega); conv => whnf)
      | ((with_reducible refine Gets.quoI ?_ ?_ ?_ ?_); (· omega); (· omega); (· omega); conv => whnf)
      | ((with_reducible refine Gets.remN ?_ ?_ ?_); (· omega); (· omega); conv => whnf)
      | ((with_reducible refine Fork.bit (fun _ => ?_) (fun _ => ?_)) <;> (conv => whnf))
      | ((with_reducible refine Gets.addI ?_ ?_ ?_); (· omega); (· omega); conv => whnf)
      | ((with_reducible refine Gets.subI ?_ ?_ ?_); (· omega); (· omega); conv => whnf)
      | ((with_reducible refine Gets.mulI ?_ ?_ ?_); (· omega); (· omega); conv => whnf)
      | (refine Gets.of _ rfl ?_; conv => whnf)
      | (refine Gets.ix1v rfl rfl (by omega) ?_; conv => whnf)
      | (refine Gets.ix1 rfl rfl (by omega) ?_; conv => whnf)
      | (refine Gets.ixIv rfl rfl (by omega) (by omega) ?_; conv => whnf)
      | (refine Gets.ixI rfl rfl (by omega) (by omega) ?_; conv => whnf)
      | (refine Gets.ixEv (es := 2) rfl rfl (by omega) ?_; conv => whnf)
      | (refine Gets.ixE (es := 2) rfl rfl (by omega) ?_; conv => whnf)
      | (refine Gets.ldP (ti := tiP) rfl rfl rfl (by first | rfl | assumption) (by first | omega | exact Nat.le_of_ble_eq_true rfl) ?_; conv => whnf)
      | (refine Gets.ldI rfl (by first | rfl | assumption) (by first | omega | exact Nat.le_of_ble_eq_true rfl) ?_; conv => whnf)
      | (refine Gets.ldB rfl (by first | rfl | assumption) (by first | omega | exact Nat.le_of_ble_eq_true rfl) ?_; conv => whnf)
      | (refine Gets.ixR1 rfl rfl (by omega) ?_; conv => whnf)
      | (refine Gets.ixRI rfl rfl (by omega) (by omega) ?_; conv => whnf)
      | (refine Gets.ldRI rfl (by first | omega | exact Nat.le_of_ble_eq_true rfl) ?_; conv => whnf)
      | (refine Gets.ldRB rfl (by first | omega | exact Nat.le_of_ble_eq_true rfl) ?_; conv => whnf)
      | (refine Chk.mk (by repeat first | exact .nil | refine .cons rfl ?_) ?_; conv => whnf)
      | (refine Alls.mk ?_ ?_ <;> conv => whnf)
      | (refine Gets.stA rfl rfl rfl rfl (by simp only [List.all_cons, List.all_nil, oI_sc, oP_sc, oN_sc, Bool.and_true, Bool.true_and] <;> rfl) ?_; conv => whnf)
      | (refine seqL1_of ?_; conv => whnf)
      | (refine seqV_of ?_; conv => whnf)
      | (refine seq1_of ?_; conv => whnf)
      | (refine seq0_of ?_; conv => whnf)
      | (refine Fork.yesR rfl ?_; conv => whnf)
      | (refine Fork.noR rfl ?_; conv => whnf)
      | (refine Fork.dec (fun _ => ?_) (fun _ => ?_) <;> first | (exfalso; omega) | (conv => whnf))
      | (refine Fork.eqI (fun _ => ?_) (fun _ => ?_) <;> first | (exfalso; omega) | (conv => whnf))
      | (refine Fork.neI (fun _ => ?_) (fun _ => ?_) <;> first | (exfalso; omega) | (conv => whnf))
      | (refine Fork.any (fun _ => ?_) (fun _ => ?_) <;> (conv => whnf))
    have hq := (aeq_edge (P := Try.prog) Try.underlying42 (by kernel_rfl) (by kernel_rfl) (u.es.getD j default) (u.es.getD j default)).2
    rw [decide_eq_true rfl] at hq
    dsimp only [kvE] at hq
    rw [hq]
    conv => whnf
    repeat' first
      | ((with_reducible refine Gets.shrN ?_ ?_); (· omega); conv => whnf)
      | ((with_reducible refine Gets.andOne ?_ ?_); (· first | omega | exact Nat.lt_of_le_of_lt (Nat.shiftRight_le _ _) (by omega)); conv => whnf)
      | ((with_reducible refine Gets.shlN ?_ ?_); (· omega); conv => whnf)
      | ((with_reducible refine Gets.shlI ?_ ?_ ?_); (· omega); (· omega); conv => whnf)
      | ((with_reducible refine Gets.quoI ?_ ?_ ?_ ?_); (· omega); (· omega); (· omega); conv => whnf)
      | ((with_reducible refine Gets.remN ?_ ?_ ?_); (· omega); (· omega); conv => whnf)
      | ((with_reducible refine Fork.bit (fun _ => ?_) (fun _ => ?_)) <;> (conv => whnf))
      | ((with_reducible refine Gets.addI ?_ ?_ ?_); (· omega); (· omega); conv => whnf)
      | ((with_reducible refine Gets.subI ?_ ?_ ?_); (· omega); (· omega); conv => whnf)
      | ((with_reducible refine Gets.mulI ?_ ?_ ?_); (· omega); (· omega); conv => whnf)
      | (refine Gets.of _ rfl ?_; conv => whnf)
      | (refine Gets.ix1v rfl rfl (by omega) ?_; conv => whnf)
      | (refine Gets.ix1 rfl rfl (by omega) ?_; conv => whnf)
      | (refine Gets.ixIv rfl rfl (by omega) (by omega) ?_; conv => whnf)
      | (refine Gets.ixI rfl rfl (by omega) (by omega) ?_; conv => whnf)
      | (refine Gets.ixEv (es := 2) rfl rfl (by omega) ?_; conv => whnf)
      | (refine Gets.ixE (es := 2) rfl rfl (by omega) ?_; conv => whnf)
      | (refine Gets.ldP (ti := tiP) rfl rfl rfl (by first | rfl | assumption) (by first | omega | exact Nat.le_of_ble_eq_true rfl) ?_; conv => whnf)
      | (refine Gets.ldI rfl (by first | rfl | assumption) (by first | omega | exact Nat.le_of_ble_eq_true rfl) ?_; conv => whnf)
      | (refine Gets.ldB rfl (by first | rfl | assumption) (by first | omega | exact Nat.le_of_ble_eq_true rfl) ?_; conv => whnf)
      | (refine Gets.ixR1 rfl rfl (by omega) ?_; conv => whnf)
      | (refine Gets.ixRI rfl rfl (by omega) (by omega) ?_; conv => whnf)
      | (refine Gets.ldRI rfl (by first | omega | exact Nat.le_of_ble_eq_true rfl) ?_; conv => whnf)
      | (refine Gets.ldRB rfl (by first | omega | exact Nat.le_of_ble_eq_true rfl) ?_; conv => whnf)
      | (refine Chk.mk (by repeat first | exact .nil | refine .cons rfl ?_) ?_; conv => whnf)
      | (refine Alls.mk ?_ ?_ <;> conv => whnf)
      | (refine Gets.stA rfl rfl rfl rfl (by simp only [List.all_cons, List.all_nil, oI_sc, oP_sc, oN_sc, Bool.and_true, Bool.true_and] <;> rfl) ?_; conv => whnf)
      | (refine seqL1_of ?_; conv => whnf)
      | (refine seqV_of ?_; conv => whnf)
      | (refine seq1_of ?_; conv => whnf)
      | (refine seq0_of ?_; conv => whnf)
      | (refine Fork.yesR rfl ?_; conv => whnf)
      | (refine Fork.noR rfl ?_; conv => whnf)
      | (refine Fork.dec (fun _ => ?_) (fun _ => ?_) <;> first | (exfalso; omega) | (conv => whnf))
      | (refine Fork.eqI (fun _ => ?_) (fun _ => ?_) <;> first | (exfalso; omega) | (conv => whnf))
      | (refine Fork.neI (fun _ => ?_) (fun _ => ?_) <;> first | (exfalso; omega) | (conv => whnf))
      | (refine Fork.any (fun _ => ?_) (fun _ => ?_) <;> (conv => whnf))
    exact ⟨j + 1, hjl, by show u.es.length - (j + 1) < _; omega, ⟨rfl, rfl, rfl, rfl, trivial⟩, rfl⟩
  · obtain rfl : j = u.es.length := by omega
    conv => whnf
    repeat' first
      | ((with_reducible refine Gets.shrN ?_ ?_); (· omega); conv => whnf)
      | ((with_reducible refine Gets.andOne ?_ ?_); (· first | omega | exact Nat.lt_of_le_of_lt (Nat.shiftRight_le _ _) (by omega)); conv => whnf)
      | ((with_reducible refine Gets.shlN ?_ ?_); (· omega); conv => whnf)
      | ((with_reducible refine Gets.shlI ?_ ?_ ?_); (· omega); (· omega); conv => whnf)
      | ((with_reducible refine Gets.quoI ?_ ?_ ?_ ?_); (· omega); (· omega); (· omega); conv => whnf)
      | ((with_reducible refine Gets.remN ?_ ?_ ?_); (· omega); (· omega); conv => whnf)
      | ((with_reducible refine Fork.bit (fun _ => ?_) (fun _ => ?_)) <;> (conv => whnf))
      | ((with_reducible refine Gets.addI ?_ ?_ ?_); (· omega); (· omega); conv => whnf)
      | ((with_reducible refine Gets.subI ?_ ?_ ?_); (· omega); (· omega); conv => whnf)
      | ((with_reducible refine Gets.mulI ?_ ?_ ?_); (· omega); (· omega); conv => whnf)
      | (refine Gets.of _ rfl ?_; conv => whnf)
      | (refine Gets.ix1v rfl rfl (by omega) ?_; conv => whnf)
      | (refine Gets.ix1 rfl rfl (by omega) ?_; conv => whnf)
      | (refine Gets.ixIv rfl rfl (by omega) (by omega) ?_; conv => whnf)
      | (refine Gets.ixI rfl rfl (by omega) (by omega) ?_; conv => whnf)
      | (refine Gets.ixEv (es := 2) rfl rfl (by omega) ?_; conv => whnf)
      | (refine Gets.ixE (es := 2) rfl rfl (by omega) ?_; conv => whnf)
      | (refine Gets.ldP (ti := tiP) rfl rfl rfl (by first | rfl | assumption) (by first | omega | exact Nat.le_of_ble_eq_true rfl) ?_; conv => whnf)
      | (refine Gets.ldI rfl (by first | rfl | assumption) (by first | omega | exact Nat.le_of_ble_eq_true rfl) ?_; conv => whnf)
      | (refine Gets.ldB rfl (by first | rfl | assumption) (by first | omega | exact Nat.le_of_ble_eq_true rfl) ?_; conv => whnf)
      | (refine Gets.ixR1 rfl rfl (by omega) ?_; conv => whnf)
      | (refine Gets.ixRI rfl rfl (by omega) (by omega) ?_; conv => whnf)
      | (refine Gets.ldRI rfl (by first | omega | exact Nat.le_of_ble_eq_true rfl) ?_; conv => whnf)
      | (refine Gets.ldRB rfl (by first | omega | exact Nat.le_of_ble_eq_true rfl) ?_; conv => whnf)
      | (refine Chk.mk (by repeat first | exact .nil | refine .cons rfl ?_) ?_; conv => whnf)
      | (refine Alls.mk ?_ ?_ <;> conv => whnf)
      | (refine Gets.stA rfl rfl rfl rfl (by simp only [List.all_cons, List.all_nil, oI_sc, oP_sc, oN_sc, Bool.and_true, Bool.true_and] <;> rfl) ?_; conv => whnf)
      | (refine seqL1_of ?_; conv => whnf)
      | (refine seqV_of ?_; conv => whnf)
      | (refine seq1_of ?_; conv => whnf)
      | (refine seq0_of ?_; conv => whnf)
      | (refine Fork.yesR rfl ?_; conv => whnf)
      | (refine Fork.noR rfl ?_; conv => whnf)
      | (refine Fork.dec (fun _ => ?_) (fun _ => ?_) <;> first | (exfalso; omega) | (conv => whnf))
      | (refine Fork.eqI (fun _ => ?_) (fun _ => ?_) <;> first | (exfalso; omega) | (conv => whnf))
      | (refine Fork.neI (fun _ => ?_) (fun _ => ?_) <;> first | (exfalso; omega) | (conv => whnf))
      | (refine Fork.any (fun _ => ?_) (fun _ => ?_) <;> (conv => whnf))
    exact ⟨[], _, rfl, .same rfl, rfl, rfl⟩
/-- Rows of automata. -/
def acells (l : List Au) : List AVal := l.flatMap fun a => [.int .i64 a.props, .int .i64 a.states, rI a.start, .int .i64 a.kind, .int .i64 a.marks, rE a.es]
def rAs (l : List Au) : AVal := .row l.length (acells l)
theorem acells_length (l : List Au) : (acells l).length = l.length * 6 := by
  induction l with
  | nil => rfl
  | cons a l ih => show (_ ++ acells l).length = _; rw [List.length_append, ih]; simp; omega
theorem acells_get : ∀ (l : List Au) (j : Nat) (h : j < l.length), AVal.agg (((acells l).drop (j * 6)).take 6) = l[j].rv
  | [], j, h => absurd h (Nat.not_lt_zero j)
  | a :: l, 0, h => rfl
  | a :: l, j + 1, h => by
    have := acells_get l j (by simpa using h)
    rw [show (j + 1) * 6 = j * 6 + 6 by omega]
    exact this
/-- Small enough. -/
def Au.Few (s e m : Int) (a : Au) : Prop := (a.es.length : Int) ≤ e ∧ (a.start.length : Int) ≤ s + 1000 ∧ (a.Ok → a.states ≤ s ∧ a.marks ≤ m)
theorem fewA (l : List Au) (hf : ∀ a ∈ l, a.Fits) (hn : l.length ≤ 1000) (s e m : Int) (h0 : 0 ≤ s) (h1 : s ≤ 100000) (H : AHeap) : CallW Try.prog 4 [.int .i64 s, .int .i64 e, .int .i64 m, rAs l] H fun v H' => H' = H ∧ IsB v (∀ a ∈ l, a.Few s e m) := by
  refine CallW.pure ?_ rfl H
  refine CallW.symK (cuts := []) Try.func4 rfl (by kernel_rfl) ?_
  conv => whnf
  repeat' first
    | ((with_reducible refine Gets.shrN ?_ ?_); (· omega); conv => whnf)
    | ((with_reducible refine Gets.andOne ?_ ?_); (· first | omega | exact Nat.lt_of_le_of_lt (Nat.shiftRight_le _ _) (by omega)); conv => whnf)
    | ((with_reducible refine Gets.shlN ?_ ?_); (· omega); conv => whnf)
    | ((with_reducible refine Gets.shlI ?_ ?_ ?_); (· omega); (· omega); conv => whnf)
    | ((with_reducible refine Gets.quoI ?_ ?_ ?_ ?_); (· omega); (· omega); (· omega); conv => whnf)
    | ((with_reducible refine Gets.remN ?_ ?_ ?_); (· omega); (· omega); conv => whnf)
    | ((with_reducible refine Fork.bit (fun _ => ?_) (fun _ => ?_)) <;> (conv => whnf))
    | ((with_reducible refine Gets.addI ?_ ?_ ?_); (· omega); (· omega); conv => whnf)
    | ((with_reducible refine Gets.subI ?_ ?_ ?_); (· omega); (· omega); conv => whnf)
    | ((with_reducible refine Gets.mulI ?_ ?_ ?_); (· omega); (· omega); conv => whnf)
    | (refine Gets.of _ rfl ?_; conv => whnf)
    | (refine Gets.ix1v rfl rfl (by omega) ?_; conv => whnf)
    | (refine Gets.ix1 rfl rfl (by omega) ?_; conv => whnf)
    | (refine Gets.ixIv rfl rfl (by omega) (by omega) ?_; conv => whnf)
    | (refine Gets.ixI rfl rfl (by omega) (by omega) ?_; conv => whnf)
    | (refine Gets.ixEv (es := 2) rfl rfl (by omega) ?_; conv => whnf)
    | (refine Gets.ixE (es := 2) rfl rfl (by omega) ?_; conv => whnf)
    | (refine Gets.ldP (ti := tiP) rfl rfl rfl (by first | rfl | assumption) (by first | omega | exact Nat.le_of_ble_eq_true rfl) ?_; conv => whnf)
    | (refine Gets.ldI rfl (by first | rfl | assumption) (by first | omega | exact Nat.le_of_ble_eq_true rfl) ?_; conv => whnf)
    | (refine Gets.ldB rfl (by first | rfl | assumption) (by first | omega | exact Nat.le_of_ble_eq_true rfl) ?_; conv => whnf)
    | (refine Gets.ixR1 rfl rfl (by omega) ?_; conv => whnf)
    | (refine Gets.ixRI rfl rfl (by omega) (by omega) ?_; conv => whnf)
    | (refine Gets.ldRI rfl (by first | omega | exact Nat.le_of_ble_eq_true rfl) ?_; conv => whnf)
    | (refine Gets.ldRB rfl (by first | omega | exact Nat.le_of_ble_eq_true rfl) ?_; conv => whnf)
    | (refine Chk.mk (by repeat first | exact .nil | refine .cons rfl ?_) ?_; conv => whnf)
    | (refine Alls.mk ?_ ?_ <;> conv => whnf)
    | (refine Gets.stA rfl rfl rfl rfl (by simp only [List.all_cons, List.all_nil, oI_sc, oP_sc, oN_sc, Bool.and_true, Bool.true_and] <;> rfl) ?_; conv => whnf)
    | (refine seqL1_of ?_; conv => whnf)
    | (refine seqV_of ?_; conv => whnf)
    | (refine seq1_of ?_; conv => whnf)
    | (refine seq0_of ?_; conv => whnf)
    | (refine Fork.yesR rfl ?_; conv => whnf)
    | (refine Fork.noR rfl ?_; conv => whnf)
    | (refine Fork.dec (fun _ => ?_) (fun _ => ?_) <;> first | (exfalso; omega) | (conv => whnf))
    | (refine Fork.eqI (fun _ => ?_) (fun _ => ?_) <;> first | (exfalso; omega) | (conv => whnf))
    | (refine Fork.neI (fun _ => ?_) (fun _ => ?_) <;> first | (exfalso; omega) | (conv => whnf))
    | (refine Fork.any (fun _ => ?_) (fun _ => ?_) <;> (conv => whnf))
  refine CodeS.loopGK (cuts := []) (σ := Nat) (fun j => [(0, .int .i64 s), (1, .int .i64 e), (2, .int .i64 m), (11, rAs l), (12, .int .i64 (l.length : Int)), (13, .int .i64 (j : Int))]) (fun _ => emptyH) (fun j => j ≤ l.length ∧ ∀ k (h : k < l.length), k < j → l[k].Few s e m) (fun j => l.length - j) 0 (renL [] 0) (by kernel_rfl) ⟨Nat.zero_le _, fun k _ hk => by omega⟩ ⟨rfl, rfl, rfl, rfl, rfl, rfl, trivial⟩ (EmbL.litsN [] rfl rfl rfl rfl .nil .nil) ?_
  rintro j ⟨g1, g2⟩
  rcases Nat.lt_or_ge j l.length with hj | hj
  · have hfj := hf _ (List.getElem_mem hj)
    have b1 := hfj.ns
    have b2 := hfj.ne
    have hl := acells_length l
    have hno : ¬ l[j].Few s e m → ¬ ∀ a ∈ l, a.Few s e m := fun h h' => h (h' _ (List.getElem_mem hj))
    have hnext : l[j].Few s e m → ∀ k (h : k < l.length), k < j + 1 → l[k].Few s e m := fun h' k h hk => by
      rcases Nat.lt_or_ge k j with h1 | h1
      · exact g2 k h h1
      · obtain rfl : k = j := by omega
        exact h'
    conv => whnf
    repeat' first
      | ((refine Gets.ixRE (es := 6) rfl rfl hj ?_); conv => whnf)
      | ((refine Gets.ldR (v := l[j].rv) rfl (by show (if j * 6 + 6 ≤ (acells l).length then some (AVal.agg (((acells l).drop (j * 6)).take 6)) else none) = _; rw [if_pos (by omega), acells_get l j hj]) ?_); conv => whnf)
      | ((with_reducible refine Gets.shrN ?_ ?_); (· omega); conv => whnf)
      | ((with_reducible refine Gets.andOne ?_ ?_); (· first | omega | exact Nat.lt_of_le_of_lt (Nat.shiftRight_le _ _) (by omega)); conv => whnf)
      | ((with_reducible refine Gets.shlN ?_ ?_); (· omega); conv => whnf)
      | ((with_reducible refine Gets.shlI ?_ ?_ ?_); (· omega); (· omega); conv => whnf)
      | ((with_reducible refine Gets.quoI ?_ ?_ ?_ ?_); (· omega); (· omega); (· omega); conv => whnf)
      | ((with_reducible refine Gets.remN ?_ ?_ ?_); (· omega); (· omega); conv => whnf)
      | ((with_reducible refine Fork.bit (fun _ => ?_) (fun _ => ?_)) <;> (conv => whnf))
      | ((with_reducible refine Gets.addI ?_ ?_ ?_); (· omega); (· omega); conv => whnf)
      | ((with_reducible refine Gets.subI ?_ ?_ ?_); (· omega); (· omega); conv => whnf)
      | ((with_reducible refine Gets.mulI ?_ ?_ ?_); (· omega); (· omega); conv => whnf)
      | (refine Gets.of _ rfl ?_; conv => whnf)
      | (refine Gets.ix1v rfl rfl (by omega) ?_; conv => whnf)
      | (refine Gets.ix1 rfl rfl (by omega) ?_; conv => whnf)
      | (refine Gets.ixIv rfl rfl (by omega) (by omega) ?_; conv => whnf)
      | (refine Gets.ixI rfl rfl (by omega) (by omega) ?_; conv => whnf)
      | (refine Gets.ixEv (es := 2) rfl rfl (by omega) ?_; conv => whnf)
      | (refine Gets.ixE (es := 2) rfl rfl (by omega) ?_; conv => whnf)
      | (refine Gets.ldP (ti := tiP) rfl rfl rfl (by first | rfl | assumption) (by first | omega | exact Nat.le_of_ble_eq_true rfl) ?_; conv => whnf)
      | (refine Gets.ldI rfl (by first | rfl | assumption) (by first | omega | exact Nat.le_of_ble_eq_true rfl) ?_; conv => whnf)
      | (refine Gets.ldB rfl (by first | rfl | assumption) (by first | omega | exact Nat.le_of_ble_eq_true rfl) ?_; conv => whnf)
      | (refine Gets.ixR1 rfl rfl (by omega) ?_; conv => whnf)
      | (refine Gets.ixRI rfl rfl (by omega) (by omega) ?_; conv => whnf)
      | (refine Gets.ldRI rfl (by first | omega | exact Nat.le_of_ble_eq_true rfl) ?_; conv => whnf)
      | (refine Gets.ldRB rfl (by first | omega | exact Nat.le_of_ble_eq_true rfl) ?_; conv => whnf)
      | (refine Chk.mk (by repeat first | exact .nil | refine .cons rfl ?_) ?_; conv => whnf)
      | (refine Alls.mk ?_ ?_ <;> conv => whnf)
      | (refine Gets.stA rfl rfl rfl rfl (by simp only [List.all_cons, List.all_nil, oI_sc, oP_sc, oN_sc, Bool.and_true, Bool.true_and] <;> rfl) ?_; conv => whnf)
      | (refine seqL1_of ?_; conv => whnf)
      | (refine seqV_of ?_; conv => whnf)
      | (refine seq1_of ?_; conv => whnf)
      | (refine seq0_of ?_; conv => whnf)
      | (refine Fork.yesR rfl ?_; conv => whnf)
      | (refine Fork.noR rfl ?_; conv => whnf)
      | (refine Fork.dec (fun _ => ?_) (fun _ => ?_) <;> first | (exfalso; omega) | (conv => whnf))
      | (refine Fork.eqI (fun _ => ?_) (fun _ => ?_) <;> first | (exfalso; omega) | (conv => whnf))
      | (refine Fork.neI (fun _ => ?_) (fun _ => ?_) <;> first | (exfalso; omega) | (conv => whnf))
      | (refine Fork.any (fun _ => ?_) (fun _ => ?_) <;> (conv => whnf))
    any_goals first | exact ⟨[], _, rfl, .same rfl, rfl, .f (hno fun h => by unfold Au.Few at h; omega)⟩ | skip
    refine CallS.of (by kernel_rfl) (validAr l[j] hfj _) rfl ?_
    rintro _ _ ⟨rfl, hk | hk⟩
    all_goals conv => whnf
    all_goals
      repeat' first
        | ((with_reducible refine Gets.shrN ?_ ?_); (· omega); conv => whnf)
        | ((with_reducible refine Gets.andOne ?_ ?_); (· first | omega | exact Nat.lt_of_le_of_lt (Nat.shiftRight_le _ _) (by omega)); conv => whnf)
        | ((with_reducible refine Gets.shlN ?_ ?_); (· omega); conv => whnf)
        | ((with_reducible refine Gets.shlI ?_ ?_ ?_); (· omega); (· omega); conv => whnf)
        | ((with_reducible refine Gets.quoI ?_ ?_ ?_ ?_); (· omega); (· omega); (· omega); conv => whnf)
        | ((with_reducible refine Gets.remN ?_ ?_ ?_); (· omega); (· omega); conv => whnf)
        | ((with_reducible refine Fork.bit (fun _ => ?_) (fun _ => ?_)) <;> (conv => whnf))
        | ((with_reducible refine Gets.addI ?_ ?_ ?_); (· omega); (· omega); conv => whnf)
        | ((with_reducible refine Gets.subI ?_ ?_ ?_); (· omega); (· omega); conv => whnf)
        | ((with_reducible refine Gets.mulI ?_ ?_ ?_); (· omega); (· omega); conv => whnf)
        | (refine Gets.of _ rfl ?_; conv => whnf)
        | (refine Gets.ix1v rfl rfl (by omega) ?_; conv => whnf)
        | (refine Gets.ix1 rfl rfl (by omega) ?_; conv => whnf)
        | (refine Gets.ixIv rfl rfl (by omega) (by omega) ?_; conv => whnf)
        | (refine Gets.ixI rfl rfl (by omega) (by omega) ?_; conv => whnf)
        | (refine Gets.ixEv (es := 2) rfl rfl (by omega) ?_; conv => whnf)
        | (refine Gets.ixE (es := 2) rfl rfl (by omega) ?_; conv => whnf)
        | (refine Gets.ldP (ti := tiP) rfl rfl rfl (by first | rfl | assumption) (by first | omega | exact Nat.le_of_ble_eq_true rfl) ?_; conv => whnf)
        | (refine Gets.ldI rfl (by first | rfl | assumption) (by first | omega | exact Nat.le_of_ble_eq_true rfl) ?_; conv => whnf)
        | (refine Gets.ldB rfl (by first | rfl | assumption) (by first | omega | exact Nat.le_of_ble_eq_true rfl) ?_; conv => whnf)
        | (refine Gets.ixR1 rfl rfl (by omega) ?_; conv => whnf)
        | (refine Gets.ixRI rfl rfl (by omega) (by omega) ?_; conv => whnf)
        | (refine Gets.ldRI rfl (by first | omega | exact Nat.le_of_ble_eq_true rfl) ?_; conv => whnf)
        | (refine Gets.ldRB rfl (by first | omega | exact Nat.le_of_ble_eq_true rfl) ?_; conv => whnf)
        | (refine Chk.mk (by repeat first | exact .nil | refine .cons rfl ?_) ?_; conv => whnf)
        | (refine Alls.mk ?_ ?_ <;> conv => whnf)
        | (refine Gets.stA rfl rfl rfl rfl (by simp only [List.all_cons, List.all_nil, oI_sc, oP_sc, oN_sc, Bool.and_true, Bool.true_and] <;> rfl) ?_; conv => whnf)
        | (refine seqL1_of ?_; conv => whnf)
        | (refine seqV_of ?_; conv => whnf)
        | (refine seq1_of ?_; conv => whnf)
        | (refine seq0_of ?_; conv => whnf)
        | (refine Fork.yesR rfl ?_; conv => whnf)
        | (refine Fork.noR rfl ?_; conv => whnf)
        | (refine Fork.dec (fun _ => ?_) (fun _ => ?_) <;> first | (exfalso; omega) | (conv => whnf))
        | (refine Fork.eqI (fun _ => ?_) (fun _ => ?_) <;> first | (exfalso; omega) | (conv => whnf))
        | (refine Fork.neI (fun _ => ?_) (fun _ => ?_) <;> first | (exfalso; omega) | (conv => whnf))
        | (refine Fork.any (fun _ => ?_) (fun _ => ?_) <;> (conv => whnf))
    all_goals first
      | exact ⟨[], _, rfl, .same rfl, rfl, .f (hno fun h => by have := h.2.2 hk; omega)⟩
      | exact ⟨j + 1, renL [] 1, ⟨hj, hnext ⟨by omega, by omega, fun h => by first | exact absurd h hk | omega⟩⟩, by show l.length - (j + 1) < _; omega, ⟨rfl, rfl, rfl, rfl, rfl, rfl, trivial⟩, EmbL.litsN [] rfl rfl rfl rfl .nil .nil⟩
  · conv => whnf
    repeat' first
      | ((with_reducible refine Gets.shrN ?_ ?_); (· omega); conv => whnf)
      | ((with_reducible refine Gets.andOne ?_ ?_); (· first | omega | exact Nat.lt_of_le_of_lt (Nat.shiftRight_le _ _) (by omega)); conv => whnf)
      | ((with_reducible refine Gets.shlN ?_ ?_); (· omega); conv => whnf)
      | ((with_reducible refine Gets.shlI ?_ ?_ ?_); (· omega); (· omega); conv => whnf)
      | ((with_reducible refine Gets.quoI ?_ ?_ ?_ ?_); (· omega); (· omega); (· omega); conv => whnf)
      | ((with_reducible refine Gets.remN ?_ ?_ ?_); (· omega); (· omega); conv => whnf)
      | ((with_reducible refine Fork.bit (fun _ => ?_) (fun _ => ?_)) <;> (conv => whnf))
      | ((with_reducible refine Gets.addI ?_ ?_ ?_); (· omega); (· omega); conv => whnf)
      | ((with_reducible refine Gets.subI ?_ ?_ ?_); (· omega); (· omega); conv => whnf)
      | ((with_reducible refine Gets.mulI ?_ ?_ ?_); (· omega); (· omega); conv => whnf)
      | (refine Gets.of _ rfl ?_; conv => whnf)
      | (refine Gets.ix1v rfl rfl (by omega) ?_; conv => whnf)
      | (refine Gets.ix1 rfl rfl (by omega) ?_; conv => whnf)
      | (refine Gets.ixIv rfl rfl (by omega) (by omega) ?_; conv => whnf)
      | (refine Gets.ixI rfl rfl (by omega) (by omega) ?_; conv => whnf)
      | (refine Gets.ixEv (es := 2) rfl rfl (by omega) ?_; conv => whnf)
      | (refine Gets.ixE (es := 2) rfl rfl (by omega) ?_; conv => whnf)
      | (refine Gets.ldP (ti := tiP) rfl rfl rfl (by first | rfl | assumption) (by first | omega | exact Nat.le_of_ble_eq_true rfl) ?_; conv => whnf)
      | (refine Gets.ldI rfl (by first | rfl | assumption) (by first | omega | exact Nat.le_of_ble_eq_true rfl) ?_; conv => whnf)
      | (refine Gets.ldB rfl (by first | rfl | assumption) (by first | omega | exact Nat.le_of_ble_eq_true rfl) ?_; conv => whnf)
      | (refine Gets.ixR1 rfl rfl (by omega) ?_; conv => whnf)
      | (refine Gets.ixRI rfl rfl (by omega) (by omega) ?_; conv => whnf)
      | (refine Gets.ldRI rfl (by first | omega | exact Nat.le_of_ble_eq_true rfl) ?_; conv => whnf)
      | (refine Gets.ldRB rfl (by first | omega | exact Nat.le_of_ble_eq_true rfl) ?_; conv => whnf)
      | (refine Chk.mk (by repeat first | exact .nil | refine .cons rfl ?_) ?_; conv => whnf)
      | (refine Alls.mk ?_ ?_ <;> conv => whnf)
      | (refine Gets.stA rfl rfl rfl rfl (by simp only [List.all_cons, List.all_nil, oI_sc, oP_sc, oN_sc, Bool.and_true, Bool.true_and] <;> rfl) ?_; conv => whnf)
      | (refine seqL1_of ?_; conv => whnf)
      | (refine seqV_of ?_; conv => whnf)
      | (refine seq1_of ?_; conv => whnf)
      | (refine seq0_of ?_; conv => whnf)
      | (refine Fork.yesR rfl ?_; conv => whnf)
      | (refine Fork.noR rfl ?_; conv => whnf)
      | (refine Fork.dec (fun _ => ?_) (fun _ => ?_) <;> first | (exfalso; omega) | (conv => whnf))
      | (refine Fork.eqI (fun _ => ?_) (fun _ => ?_) <;> first | (exfalso; omega) | (conv => whnf))
      | (refine Fork.neI (fun _ => ?_) (fun _ => ?_) <;> first | (exfalso; omega) | (conv => whnf))
      | (refine Fork.any (fun _ => ?_) (fun _ => ?_) <;> (conv => whnf))
    exact ⟨[], _, rfl, .same rfl, rfl, .t fun w hw => by
      obtain ⟨k, hk, rfl⟩ := List.getElem_of_mem hw
      exact g2 k hk (by omega)⟩
end Go.Proofs.Ytljedopidipabaa
