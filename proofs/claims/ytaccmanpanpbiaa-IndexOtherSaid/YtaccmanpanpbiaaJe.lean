/- The ways of a kind, all of them; what is good for a kind. -/
import Derived.Test.YtaccmanpanpbiaaJd
-- VkG VkH VmA
set_option linter.unusedVariables false
set_option linter.unusedSimpArgs false
set_option maxRecDepth 100000
set_option maxHeartbeats 4000000
namespace Go.Proofs.Ytaccmanpanpbiaa
open Go Go.Vh Go.Vk Go.Vn Go.Proofs
open Classical
def WaysT (kind : Int) (mk : Nat) (yes : Bool) : Prop := CallW Try.prog 89 [.int .i64 kind, .int .i64 (mk : Int), .bool yes] emptyH fun v H' => ∃ ks u, ksCells H' ks = true ∧ Frz H' ks v u ∧ clo u = true ∧ u = rK cls (waysL kind mk yes)
theorem topL_next (mk r n : Nat) : topL mk r (n + 1) = topL mk r n ++ if n % 2 = r then [topP mk n] else [] := by
  unfold topL
  rw [List.range_succ, List.filter_append, List.map_append]
  congr 1
  by_cases h : n % 2 = r
  · rw [if_pos h, List.filter_cons, if_pos (decide_eq_true h)]; rfl
  · rw [if_neg h, List.filter_cons, if_neg (by simpa using h)]; rfl
theorem topL_len (mk r n : Nat) : (topL mk r n).length ≤ n := by
  unfold topL
  rw [List.length_map]
  exact Nat.le_trans (List.length_filter_le _ _) (by rw [List.length_range]; exact Nat.le_refl _)
theorem ways_a (mk : Nat) (hm : mk ≤ 40) : WaysT 0 mk true := by
  unfold WaysT
  refine CallW.symK (cuts := []) Try.func89 rfl (by kernel_rfl) ?_
  conv => whnf
  repeat' first | ((refine Gets.ones (by omega) ?_); conv => whnf) | ((with_reducible refine Gets.shlN ?_ ?_); (· omega); conv => whnf) | (refine Fork.yesR rfl ?_; conv => whnf)
  exact ⟨[0], _, rfl, frzK recC (l := [⟨0, 1⟩]) rfl rfl rfl, rfl, rfl⟩
theorem ways_b (mk : Nat) (hm : mk ≤ 40) : WaysT 0 mk false := by
  unfold WaysT
  refine CallW.symK (cuts := []) Try.func89 rfl (by kernel_rfl) ?_
  conv => whnf
  repeat' first | ((refine Gets.ones (by omega) ?_); conv => whnf) | ((with_reducible refine Gets.shlN ?_ ?_); (· omega); conv => whnf) | (refine Fork.yesR rfl ?_; conv => whnf) | (refine Fork.noR rfl ?_; conv => whnf)
  exact ⟨[0], _, rfl, frzK recC (l := [⟨1, 0⟩]) rfl rfl rfl, rfl, rfl⟩
theorem ways_c (mk : Nat) (hm : mk ≤ 40) : WaysT 2 mk true := by
  unfold WaysT
  refine CallW.symK (cuts := []) Try.func89 rfl (by kernel_rfl) ?_
  conv => whnf
  repeat' first | ((refine Gets.ones (by omega) ?_); conv => whnf) | ((with_reducible refine Gets.shlN ?_ ?_); (· omega); conv => whnf) | (refine Fork.yesR rfl ?_; conv => whnf) | (refine Fork.noR rfl ?_; conv => whnf)
  exact ⟨[0], _, rfl, frzK recC (l := [⟨1, 0⟩]) rfl rfl rfl, rfl, rfl⟩
theorem ways_d (mk : Nat) (hm : mk ≤ 40) : WaysT 2 mk false := by
  unfold WaysT
  refine CallW.symK (cuts := []) Try.func89 rfl (by kernel_rfl) ?_
  conv => whnf
  repeat' first | ((refine Gets.ones (by omega) ?_); conv => whnf) | ((with_reducible refine Gets.shlN ?_ ?_); (· omega); conv => whnf) | (refine Fork.yesR rfl ?_; conv => whnf) | (refine Fork.noR rfl ?_; conv => whnf)
  exact ⟨[0], _, rfl, frzK recC (l := [⟨0, 1⟩]) rfl rfl rfl, rfl, rfl⟩
theorem ways_e (mk : Nat) (hm : mk ≤ 40) : WaysT 1 mk true := by
  unfold WaysT
  refine CallW.symK (cuts := []) Try.func89 rfl (by kernel_rfl) ?_
  conv => whnf
  repeat' first | ((refine Gets.ones (by omega) ?_); conv => whnf) | ((with_reducible refine Gets.shlN ?_ ?_); (· omega); conv => whnf) | (refine Fork.yesR rfl ?_; conv => whnf) | (refine Fork.noR rfl ?_; conv => whnf)
  exact ⟨[0], _, rfl, frzK recC (l := [⟨0, 2 ^ mk - 1⟩]) rfl rfl rfl, rfl, rfl⟩
theorem ways_f (mk : Nat) (hm : mk ≤ 40) : WaysT 1 mk false := by
  unfold WaysT
  refine CallW.symK (cuts := []) Try.func89 rfl (by kernel_rfl) ?_
  conv => whnf
  repeat' first | ((refine Gets.ones (by omega) ?_); conv => whnf) | ((with_reducible refine Gets.shlN ?_ ?_); (· omega); conv => whnf) | (refine Fork.yesR rfl ?_; conv => whnf) | (refine Fork.noR rfl ?_; conv => whnf)
  refine CodeS.loopGK (cuts := []) (σ := Nat × List Cl) (fun s => [(8, gK 0 cls s.2), (33, .int .i64 (mk : Int)), (34, .int .i64 (s.1 : Int))]) (fun s => gH 2 cls s.2) (fun s => s.1 ≤ mk ∧ noneL s.1 = s.2) (fun s => mk - s.1) (0, []) (renL [] 0) (by kernel_rfl) ⟨Nat.zero_le _, rfl⟩ ⟨rfl, rfl, rfl, trivial⟩ (EmbL.litsN [] rfl rfl rfl rfl .nil .nil) ?_
  rintro ⟨p, acc⟩ ⟨hp, hacc⟩
  dsimp only at hp hacc ⊢
  have hal : acc.length = p := by rw [← hacc, noneL, List.length_map, List.length_range]
  rcases Nat.lt_or_ge p mk with hpl | hpl
  · have hnx := range_next noneP p
    rw [show (List.range p).map noneP = acc from hacc] at hnx
    rcases acc with _ | ⟨x, acc⟩
    · conv => whnf
      repeat' first | ((refine Gets.appK0 recC (by decide) (x := noneP p) rfl rfl rfl rfl rfl (by decide) rfl ?_); conv => whnf) | ((with_reducible refine Gets.shlN ?_ ?_); (· omega); conv => whnf) | ((with_reducible refine Gets.addI ?_ ?_ ?_); (· omega); (· omega); conv => whnf) | (refine Fork.dec (fun _ => ?_) (fun _ => ?_) <;> first | (exfalso; omega) | (conv => whnf))
      exact ⟨(p + 1, [noneP p]), renL [1] 2, ⟨by omega, hnx⟩, by show mk - (p + 1) < _; omega, ⟨rfl, rfl, rfl, trivial⟩, EmbL.litsN [1] rfl rfl rfl rfl .nil (.cons ⟨rfl, .inl rfl⟩ .nil)⟩
    · have e2 : (x :: (acc ++ [noneP p])).length = (x :: acc).length + 1 := by simp
      conv => whnf
      repeat' first | ((refine Gets.appK1 recC (by decide) (l := x :: acc) (x := noneP p) rfl rfl rfl rfl rfl (by decide) rfl rfl rfl (by omega) ?_); conv => whnf) | ((with_reducible refine Gets.shlN ?_ ?_); (· omega); conv => whnf) | ((with_reducible refine Gets.addI ?_ ?_ ?_); (· omega); (· omega); conv => whnf) | (refine Fork.dec (fun _ => ?_) (fun _ => ?_) <;> first | (exfalso; omega) | (conv => whnf))
      exact ⟨(p + 1, x :: acc ++ [noneP p]), renL [2] 3, ⟨by omega, hnx⟩, by show mk - (p + 1) < _; omega, ⟨by first | exact congrArg (AVal.slice 2 0) e2 | exact congrArg (AVal.slice 2 0) e2.symm, rfl, rfl, trivial⟩, EmbL.litsN [2] rfl rfl rfl rfl .nil (.cons ⟨rfl, .cellsI⟩ .nil)⟩
  · obtain rfl : p = mk := by omega
    have e : waysL 1 p false = acc := hacc
    rw [e]
    rcases acc with _ | ⟨x, acc⟩
    · conv => whnf
      repeat' (refine Fork.dec (fun _ => ?_) (fun _ => ?_) <;> first | (exfalso; omega) | (conv => whnf))
      exact ⟨[], _, rfl, .nil, rfl, rfl⟩
    · conv => whnf
      repeat' (refine Fork.dec (fun _ => ?_) (fun _ => ?_) <;> first | (exfalso; omega) | (conv => whnf))
      exact ⟨[0], _, rfl, frzK recC (l := x :: acc) rfl rfl rfl, rfl, rfl⟩
theorem ways_g (mk : Nat) (hm : mk ≤ 40) : WaysT 3 mk true := by
  unfold WaysT
  refine CallW.symK (cuts := []) Try.func89 rfl (by kernel_rfl) ?_
  conv => whnf
  repeat' first | ((refine Gets.ones (by omega) ?_); conv => whnf) | ((with_reducible refine Gets.shlN ?_ ?_); (· omega); conv => whnf) | (refine Fork.yesR rfl ?_; conv => whnf) | (refine Fork.noR rfl ?_; conv => whnf)
  refine CallS.of (by kernel_rfl) (someR mk hm _) rfl ?_
  rintro _ _ ⟨rfl, rfl⟩
  conv => whnf
  skip
  exact ⟨[], _, rfl, .same rfl, rfl, rfl⟩
theorem ways_h (mk : Nat) (hm : mk ≤ 40) : WaysT 4 mk false := by
  unfold WaysT
  refine CallW.symK (cuts := []) Try.func89 rfl (by kernel_rfl) ?_
  conv => whnf
  repeat' first | ((refine Gets.ones (by omega) ?_); conv => whnf) | ((with_reducible refine Gets.shlN ?_ ?_); (· omega); conv => whnf) | (refine Fork.yesR rfl ?_; conv => whnf) | (refine Fork.noR rfl ?_; conv => whnf)
  refine CallS.of (by kernel_rfl) (someR mk hm _) rfl ?_
  rintro _ _ ⟨rfl, rfl⟩
  conv => whnf
  skip
  exact ⟨[], _, rfl, .same rfl, rfl, rfl⟩
theorem ways_i (mk : Nat) (hm : mk ≤ 40) : WaysT 3 mk false := by
  unfold WaysT
  refine CallW.symK (cuts := []) Try.func89 rfl (by kernel_rfl) ?_
  conv => whnf
  repeat' first | ((refine Gets.ones (by omega) ?_); conv => whnf) | ((with_reducible refine Gets.shlN ?_ ?_); (· omega); conv => whnf) | (refine Fork.yesR rfl ?_; conv => whnf) | (refine Fork.noR rfl ?_; conv => whnf)
  refine CallS.of (by kernel_rfl) (eachR mk hm _) rfl ?_
  rintro _ _ ⟨rfl, rfl⟩
  conv => whnf
  skip
  exact ⟨[], _, rfl, .same rfl, rfl, rfl⟩
theorem ways_j (mk : Nat) (hm : mk ≤ 40) : WaysT 4 mk true := by
  unfold WaysT
  refine CallW.symK (cuts := []) Try.func89 rfl (by kernel_rfl) ?_
  conv => whnf
  repeat' first | ((refine Gets.ones (by omega) ?_); conv => whnf) | ((with_reducible refine Gets.shlN ?_ ?_); (· omega); conv => whnf) | (refine Fork.yesR rfl ?_; conv => whnf) | (refine Fork.noR rfl ?_; conv => whnf)
  refine CallS.of (by kernel_rfl) (eachR mk hm _) rfl ?_
  rintro _ _ ⟨rfl, rfl⟩
  conv => whnf
  skip
  exact ⟨[], _, rfl, .same rfl, rfl, rfl⟩
theorem ways_k (kind : Int) (hk : kind < 0 ∨ 4 < kind) (mk : Nat) (hm : mk ≤ 40) : WaysT kind mk true := by
  unfold WaysT
  refine CallW.symK (cuts := []) Try.func89 rfl (by kernel_rfl) ?_
  conv => whnf
  repeat' first | ((refine Gets.ones (by omega) ?_); conv => whnf) | ((with_reducible refine Gets.shlN ?_ ?_); (· omega); conv => whnf) | (refine Fork.dec (fun _ => ?_) (fun _ => ?_) <;> first | (exfalso; omega) | (conv => whnf))
  refine CodeS.loopGK (cuts := []) (σ := Nat × List Cl) (fun s => [(1, .int .i64 (mk : Int)), (2, .bool true), (10, gK 0 cls s.2), (63, .int .i64 (mk : Int)), (64, .int .i64 (s.1 : Int))]) (fun s => gH 2 cls s.2) (fun s => s.1 ≤ mk ∧ [] ++ topL mk 0 s.1 = s.2) (fun s => mk - s.1) (0, []) (if 0 = 0 then renL [] 0 else renL [1] 2) (by kernel_rfl) ⟨Nat.zero_le _, rfl⟩ ⟨rfl, rfl, rfl, rfl, rfl, trivial⟩ (by first | exact EmbL.litsN [] rfl rfl rfl rfl .nil .nil | exact EmbL.litsN [1] rfl rfl rfl rfl .nil (.cons ⟨rfl, .inl rfl⟩ .nil)) ?_
  rintro ⟨p, acc⟩ ⟨hp, hacc⟩
  dsimp only at hp hacc ⊢
  have hal : acc.length ≤ p + 1 := by
    have := topL_len mk 0 p
    rw [← hacc, List.length_append]; simp; omega
  rcases Nat.lt_or_ge p mk with hpl | hpl
  · have hnx := topL_next mk 0 p
    have hmod : (p : Int) % 2 = ((p % 2 : Nat) : Int) := by omega
    have hlt2 := Nat.mod_lt p (show 0 < 2 by decide)
    have hpre : [] ++ topL mk 0 (p + 1) = acc ++ if p % 2 = 0 then [topP mk p] else [] := by rw [hnx, ← List.append_assoc, hacc]
    have hab := aboveR p mk hm hpl
    by_cases hpr : p % 2 = 0
    · rw [if_pos hpr] at hpre
      rcases acc with _ | ⟨x, acc⟩
      · conv => whnf
        repeat' first | ((with_reducible refine Gets.remN ?_ ?_ ?_); (· omega); (· omega); conv => whnf) | (refine Fork.yesR rfl ?_; conv => whnf) | (refine Fork.dec (fun _ => ?_) (fun _ => ?_) <;> first | (exfalso; omega) | (conv => whnf))
        all_goals first | (exfalso; omega) | skip
        refine CodeS.drawT [] (.take 0 (.take 1 (.take 2 (.take 4 (.take 5 (.one 3 true (.take 6 (.one 7 true (.one 8 true (.take 9 .done)))))))))) mixed (by kernel_rfl) .nil ?_
        conv => whnf
        repeat' ((with_reducible refine Gets.shlN ?_ ?_); (· omega); conv => whnf)
        refine CallPS.of (by kernel_rfl) (hab _) rfl ?_
        rintro _ _ ⟨rfl, rfl⟩
        conv => whnf
        repeat' first | ((refine Gets.appK0 recC (by decide) (x := topP mk p) rfl rfl rfl rfl rfl (by decide) rfl ?_); conv => whnf) | ((with_reducible refine Gets.addI ?_ ?_ ?_); (· omega); (· omega); conv => whnf) | (refine Chk.mk (by repeat first | exact .nil | refine .cons rfl ?_) ?_; conv => whnf)
        exact ⟨(p + 1, [topP mk p]), renL [1] 2, ⟨by omega, hpre⟩, by show mk - (p + 1) < _; omega, ⟨rfl, rfl, rfl, rfl, rfl, trivial⟩, EmbL.litsN [1] rfl rfl rfl rfl .nil (.cons ⟨rfl, .inl rfl⟩ .nil)⟩
      · have e2 : (x :: (acc ++ [topP mk p])).length = (x :: acc).length + 1 := by simp
        conv => whnf
        repeat' first | ((with_reducible refine Gets.remN ?_ ?_ ?_); (· omega); (· omega); conv => whnf) | (refine Fork.yesR rfl ?_; conv => whnf) | (refine Fork.dec (fun _ => ?_) (fun _ => ?_) <;> first | (exfalso; omega) | (conv => whnf))
        all_goals first | (exfalso; omega) | skip
        refine CodeS.drawT [] (.take 0 (.take 1 (.take 2 (.take 4 (.take 5 (.one 3 true (.take 6 (.one 7 true (.one 8 true (.take 9 .done)))))))))) mixed (by kernel_rfl) .nil ?_
        conv => whnf
        repeat' ((with_reducible refine Gets.shlN ?_ ?_); (· omega); conv => whnf)
        refine CallPS.of (by kernel_rfl) (hab _) rfl ?_
        rintro _ _ ⟨rfl, rfl⟩
        conv => whnf
        repeat' first | ((refine Gets.appK1 recC (by decide) (l := x :: acc) (x := topP mk p) rfl rfl rfl rfl rfl (by decide) rfl rfl rfl (by omega) ?_); conv => whnf) | ((with_reducible refine Gets.addI ?_ ?_ ?_); (· omega); (· omega); conv => whnf) | (refine Chk.mk (by repeat first | exact .nil | refine .cons rfl ?_) ?_; conv => whnf)
        exact ⟨(p + 1, x :: acc ++ [topP mk p]), renL [2] 3, ⟨by omega, hpre⟩, by show mk - (p + 1) < _; omega, ⟨rfl, rfl, by first | exact congrArg (AVal.slice 2 0) e2 | exact congrArg (AVal.slice 2 0) e2.symm, rfl, rfl, trivial⟩, EmbL.litsN [2] rfl rfl rfl rfl .nil (.cons ⟨rfl, .cellsI⟩ .nil)⟩
    · rw [if_neg hpr, List.append_nil] at hpre
      rcases acc with _ | ⟨x, acc⟩
      · conv => whnf
        repeat' first | ((with_reducible refine Gets.remN ?_ ?_ ?_); (· omega); (· omega); conv => whnf) | ((with_reducible refine Gets.addI ?_ ?_ ?_); (· omega); (· omega); conv => whnf) | (refine Fork.noR rfl ?_; conv => whnf) | (refine Fork.dec (fun _ => ?_) (fun _ => ?_) <;> first | (exfalso; omega) | (conv => whnf))
        all_goals first | (exfalso; omega) | skip
        exact ⟨(p + 1, []), renL [] 0, ⟨by omega, hpre⟩, by show mk - (p + 1) < _; omega, ⟨rfl, rfl, rfl, rfl, rfl, trivial⟩, EmbL.litsN [] rfl rfl rfl rfl .nil .nil⟩
      · conv => whnf
        repeat' first | ((with_reducible refine Gets.remN ?_ ?_ ?_); (· omega); (· omega); conv => whnf) | ((with_reducible refine Gets.addI ?_ ?_ ?_); (· omega); (· omega); conv => whnf) | (refine Fork.noR rfl ?_; conv => whnf) | (refine Fork.dec (fun _ => ?_) (fun _ => ?_) <;> first | (exfalso; omega) | (conv => whnf))
        all_goals first | (exfalso; omega) | skip
        exact ⟨(p + 1, x :: acc), renL [0] 1, ⟨by omega, hpre⟩, by show mk - (p + 1) < _; omega, ⟨rfl, rfl, rfl, rfl, rfl, trivial⟩, EmbL.litsN [0] rfl rfl rfl rfl .nil (.cons ⟨rfl, .cellsI⟩ .nil)⟩
  · obtain rfl : p = mk := by omega
    have e : waysL kind p true = acc := by
      rw [← hacc]
      unfold waysL
      rw [if_neg (by omega), if_neg (by omega), if_neg (by omega)]; rfl
    rw [e]
    rcases acc with _ | ⟨x, acc⟩
    · conv => whnf
      repeat' (refine Fork.dec (fun _ => ?_) (fun _ => ?_) <;> first | (exfalso; omega) | (conv => whnf))
      exact ⟨[], _, rfl, .nil, rfl, rfl⟩
    · conv => whnf
      repeat' (refine Fork.dec (fun _ => ?_) (fun _ => ?_) <;> first | (exfalso; omega) | (conv => whnf))
      exact ⟨[0], _, rfl, frzK recC (l := x :: acc) rfl rfl rfl, rfl, rfl⟩
theorem ways_l (kind : Int) (hk : kind < 0 ∨ 4 < kind) (mk : Nat) (hm : mk ≤ 40) : WaysT kind mk false := by
  unfold WaysT
  refine CallW.symK (cuts := []) Try.func89 rfl (by kernel_rfl) ?_
  conv => whnf
  repeat' first | ((refine Gets.ones (by omega) ?_); conv => whnf) | ((refine Gets.appK0 recC (by decide) (x := ⟨2 ^ mk - 1, 0⟩) rfl rfl rfl rfl rfl (by decide) rfl ?_); conv => whnf) | ((with_reducible refine Gets.shlN ?_ ?_); (· omega); conv => whnf) | (refine Fork.dec (fun _ => ?_) (fun _ => ?_) <;> first | (exfalso; omega) | (conv => whnf))
  refine CodeS.loopGK (cuts := []) (σ := Nat × List Cl) (fun s => [(1, .int .i64 (mk : Int)), (2, .bool false), (10, gK 0 cls s.2), (63, .int .i64 (mk : Int)), (64, .int .i64 (s.1 : Int))]) (fun s => gH 2 cls s.2) (fun s => s.1 ≤ mk ∧ [(⟨2 ^ mk - 1, 0⟩ : Cl)] ++ topL mk 1 s.1 = s.2) (fun s => mk - s.1) (0, [(⟨2 ^ mk - 1, 0⟩ : Cl)]) (if 1 = 0 then renL [] 0 else renL [1] 2) (by kernel_rfl) ⟨Nat.zero_le _, rfl⟩ ⟨rfl, rfl, rfl, rfl, rfl, trivial⟩ (by first | exact EmbL.litsN [] rfl rfl rfl rfl .nil .nil | exact EmbL.litsN [1] rfl rfl rfl rfl .nil (.cons ⟨rfl, .inl rfl⟩ .nil)) ?_
  rintro ⟨p, acc⟩ ⟨hp, hacc⟩
  dsimp only at hp hacc ⊢
  have hal : acc.length ≤ p + 1 := by
    have := topL_len mk 1 p
    rw [← hacc, List.length_append]; simp; omega
  rcases Nat.lt_or_ge p mk with hpl | hpl
  · have hnx := topL_next mk 1 p
    have hmod : (p : Int) % 2 = ((p % 2 : Nat) : Int) := by omega
    have hlt2 := Nat.mod_lt p (show 0 < 2 by decide)
    have hpre : [(⟨2 ^ mk - 1, 0⟩ : Cl)] ++ topL mk 1 (p + 1) = acc ++ if p % 2 = 1 then [topP mk p] else [] := by rw [hnx, ← List.append_assoc, hacc]
    have hab := aboveR p mk hm hpl
    by_cases hpr : p % 2 = 1
    · rw [if_pos hpr] at hpre
      rcases acc with _ | ⟨x, acc⟩
      · conv => whnf
        repeat' first | ((with_reducible refine Gets.remN ?_ ?_ ?_); (· omega); (· omega); conv => whnf) | (refine Fork.yesR rfl ?_; conv => whnf) | (refine Fork.dec (fun _ => ?_) (fun _ => ?_) <;> first | (exfalso; omega) | (conv => whnf))
        all_goals first | (exfalso; omega) | skip
        refine CodeS.drawT [] (.take 0 (.take 1 (.take 2 (.take 4 (.take 5 (.one 3 true (.take 6 (.one 7 true (.one 8 true (.take 9 .done)))))))))) mixed (by kernel_rfl) .nil ?_
        conv => whnf
        repeat' ((with_reducible refine Gets.shlN ?_ ?_); (· omega); conv => whnf)
        refine CallPS.of (by kernel_rfl) (hab _) rfl ?_
        rintro _ _ ⟨rfl, rfl⟩
        conv => whnf
        repeat' first | ((refine Gets.appK0 recC (by decide) (x := topP mk p) rfl rfl rfl rfl rfl (by decide) rfl ?_); conv => whnf) | ((with_reducible refine Gets.addI ?_ ?_ ?_); (· omega); (· omega); conv => whnf) | (refine Chk.mk (by repeat first | exact .nil | refine .cons rfl ?_) ?_; conv => whnf)
        exact ⟨(p + 1, [topP mk p]), renL [1] 2, ⟨by omega, hpre⟩, by show mk - (p + 1) < _; omega, ⟨rfl, rfl, rfl, rfl, rfl, trivial⟩, EmbL.litsN [1] rfl rfl rfl rfl .nil (.cons ⟨rfl, .inl rfl⟩ .nil)⟩
      · have e2 : (x :: (acc ++ [topP mk p])).length = (x :: acc).length + 1 := by simp
        conv => whnf
        repeat' first | ((with_reducible refine Gets.remN ?_ ?_ ?_); (· omega); (· omega); conv => whnf) | (refine Fork.yesR rfl ?_; conv => whnf) | (refine Fork.dec (fun _ => ?_) (fun _ => ?_) <;> first | (exfalso; omega) | (conv => whnf))
        all_goals first | (exfalso; omega) | skip
        refine CodeS.drawT [] (.take 0 (.take 1 (.take 2 (.take 4 (.take 5 (.one 3 true (.take 6 (.one 7 true (.one 8 true (.take 9 .done)))))))))) mixed (by kernel_rfl) .nil ?_
        conv => whnf
        repeat' ((with_reducible refine Gets.shlN ?_ ?_); (· omega); conv => whnf)
        refine CallPS.of (by kernel_rfl) (hab _) rfl ?_
        rintro _ _ ⟨rfl, rfl⟩
        conv => whnf
        repeat' first | ((refine Gets.appK1 recC (by decide) (l := x :: acc) (x := topP mk p) rfl rfl rfl rfl rfl (by decide) rfl rfl rfl (by omega) ?_); conv => whnf) | ((with_reducible refine Gets.addI ?_ ?_ ?_); (· omega); (· omega); conv => whnf) | (refine Chk.mk (by repeat first | exact .nil | refine .cons rfl ?_) ?_; conv => whnf)
        exact ⟨(p + 1, x :: acc ++ [topP mk p]), renL [2] 3, ⟨by omega, hpre⟩, by show mk - (p + 1) < _; omega, ⟨rfl, rfl, by first | exact congrArg (AVal.slice 2 0) e2 | exact congrArg (AVal.slice 2 0) e2.symm, rfl, rfl, trivial⟩, EmbL.litsN [2] rfl rfl rfl rfl .nil (.cons ⟨rfl, .cellsI⟩ .nil)⟩
    · rw [if_neg hpr, List.append_nil] at hpre
      rcases acc with _ | ⟨x, acc⟩
      · conv => whnf
        repeat' first | ((with_reducible refine Gets.remN ?_ ?_ ?_); (· omega); (· omega); conv => whnf) | ((with_reducible refine Gets.addI ?_ ?_ ?_); (· omega); (· omega); conv => whnf) | (refine Fork.noR rfl ?_; conv => whnf) | (refine Fork.dec (fun _ => ?_) (fun _ => ?_) <;> first | (exfalso; omega) | (conv => whnf))
        all_goals first | (exfalso; omega) | skip
        exact ⟨(p + 1, []), renL [] 0, ⟨by omega, hpre⟩, by show mk - (p + 1) < _; omega, ⟨rfl, rfl, rfl, rfl, rfl, trivial⟩, EmbL.litsN [] rfl rfl rfl rfl .nil .nil⟩
      · conv => whnf
        repeat' first | ((with_reducible refine Gets.remN ?_ ?_ ?_); (· omega); (· omega); conv => whnf) | ((with_reducible refine Gets.addI ?_ ?_ ?_); (· omega); (· omega); conv => whnf) | (refine Fork.noR rfl ?_; conv => whnf) | (refine Fork.dec (fun _ => ?_) (fun _ => ?_) <;> first | (exfalso; omega) | (conv => whnf))
        all_goals first | (exfalso; omega) | skip
        exact ⟨(p + 1, x :: acc), renL [0] 1, ⟨by omega, hpre⟩, by show mk - (p + 1) < _; omega, ⟨rfl, rfl, rfl, rfl, rfl, trivial⟩, EmbL.litsN [0] rfl rfl rfl rfl .nil (.cons ⟨rfl, .cellsI⟩ .nil)⟩
  · obtain rfl : p = mk := by omega
    have e : waysL kind p false = acc := by
      rw [← hacc]
      unfold waysL
      rw [if_neg (by omega), if_neg (by omega), if_neg (by omega)]; rfl
    rw [e]
    rcases acc with _ | ⟨x, acc⟩
    · conv => whnf
      repeat' (refine Fork.dec (fun _ => ?_) (fun _ => ?_) <;> first | (exfalso; omega) | (conv => whnf))
      exact ⟨[], _, rfl, .nil, rfl, rfl⟩
    · conv => whnf
      repeat' (refine Fork.dec (fun _ => ?_) (fun _ => ?_) <;> first | (exfalso; omega) | (conv => whnf))
      exact ⟨[0], _, rfl, frzK recC (l := x :: acc) rfl rfl rfl, rfl, rfl⟩
theorem waysR (kind : Int) (mk : Nat) (yes : Bool) (hm : mk ≤ 40) (H : AHeap) : CallW Try.prog 89 [.int .i64 kind, .int .i64 (mk : Int), .bool yes] H fun v H' => H' = H ∧ v = rK cls (waysL kind mk yes) := by
  refine CallW.pure ?_ rfl H
  by_cases h0 : kind = 0
  · subst h0; cases yes; exact ways_b mk hm; exact ways_a mk hm
  by_cases h1 : kind = 1
  · subst h1; cases yes; exact ways_f mk hm; exact ways_e mk hm
  by_cases h2 : kind = 2
  · subst h2; cases yes; exact ways_d mk hm; exact ways_c mk hm
  by_cases h3 : kind = 3
  · subst h3; cases yes; exact ways_i mk hm; exact ways_g mk hm
  by_cases h4 : kind = 4
  · subst h4; cases yes; exact ways_h mk hm; exact ways_j mk hm
  cases yes
  · exact ways_l kind (by omega) mk hm
  · exact ways_k kind (by omega) mk hm
end Go.Proofs.Ytaccmanpanpbiaa

/- Good of the reference: from which nodes an accepted path starts. -/
-- VkG VkH VmA
set_option linter.unusedVariables false
set_option linter.unusedSimpArgs false
set_option maxRecDepth 100000
set_option maxHeartbeats 4000000
namespace Go.Proofs.Ytaccmanpanpbiaa
open Go Go.Vh Go.Vk Go.Vn Go.Proofs
open Classical
theorem inC_one {c : Cl} (h : c.never < 2 ^ 62 ∧ c.again < 2 ^ 62) : InC (oneC c) := ⟨h.1, h.2, (by decide : 0 < 2 ^ 62), (by decide : 0 < 2 ^ 62)⟩
theorem strG_cyc (arcs : List Arc) (mk : Nat) (n : Nat) : (List.range n).map (strG arcs ((mk + 1) / 2) fun _ => false) = (List.range n).map fun i => decide (CycP arcs (fun I _ => AccK 4 mk I) i) := by
  refine List.map_congr_left fun x hx => ?_
  unfold strG
  rw [Bool.false_or]
  rfl
theorem accK_ways (kind : Int) (mk : Nat) : (fun I (_ : Nat) => AccK kind mk I) = fun I _ => SatL (waysL kind mk true) I := by
  funext I J
  apply propext
  rw [satL_ways]; simp
def GoodT (kind : Int) (mk n : Nat) (arcs : List Arc) : Prop := ∀ H : AHeap, CallW Try.prog 79 [.int .i64 (n : Int), rA arcs, .int .i64 kind, .int .i64 (mk : Int)] H fun v H' => H' = H ∧ v = rB (liveL n arcs fun I _ => AccK kind mk I)
theorem fr_bls {b : ABlk} {κ : Nat → Nat} {l : List Bool} (h : b = renB κ (.cells 1 (bls l))) : b = .cells 1 (bls l) := h.trans (clean_bls 1 l κ)
theorem goodR4 (mk n : Nat) (arcs : List Arc) (hm : mk ≤ 40) (hi : InR n arcs) : GoodT 4 mk n arcs := by
  have hn1 := hi.n1
  have hl1 := hi.len
  intro H
  refine CallW.pure ?_ rfl H
  refine CallW.symK (cuts := []) Try.func79 rfl (by kernel_rfl) ?_
  conv => whnf
  repeat' first | ((refine Gets.makeB (k := 1) rfl rfl (by decide) rfl (by decide) (by omega) (by omega) ?_); conv => whnf) | (refine Fork.yesR rfl ?_; conv => whnf)
  rw [Int.toNat_natCast, Nat.mul_one]
  have hst := strR mk (by omega) (arcs.length + 1) n arcs (fun _ => false) (Nat.lt_succ_self _) hi
  unfold StrT at hst
  rw [range_map_const, strG_cyc] at hst
  refine CallS.of (by kernel_rfl) (hst.frameQ [0] rfl (.cons ⟨rfl, .cellsB⟩ .nil) (by rintro _ _ ⟨_, _, rfl⟩; exact .cons (.inr rfl) .nil)) rfl ?_
  rintro _ _ ⟨_, _, ⟨rfl, w, rfl⟩, rfl, rfl⟩
  conv => whnf
  skip
  refine CallS.of (by kernel_rfl) (turnedR arcs hl1 _) rfl ?_
  rintro _ _ ⟨rfl, rfl⟩
  conv => whnf
  skip
  have hr := reachR n (arcs.map turn) (fun i => decide (CycP arcs (fun I _ => AccK 4 mk I) i)) nlC hi.turn ⟨by decide, by decide, by decide, by decide⟩
  refine CallS.of (by kernel_rfl) ((hr _).argsF [0] rfl (.keep (.keep (.frz (frzBl (i := 0) (l := (List.range n).map fun i => decide (CycP arcs (fun I _ => AccK 4 mk I) i)) (by simp) rfl (fr_bls rfl)) (.keep .nil))))) rfl ?_
  rintro _ _ ⟨rfl, rfl⟩
  conv => whnf
  skip
  refine ⟨[], _, rfl, .same rfl, rfl, ?_⟩
  rw [← goodL_live hi]; rfl
theorem goodRw (kind : Int) (hk : kind ≠ 4) (mk n : Nat) (arcs : List Arc) (hm : mk ≤ 40) (hi : InR n arcs) : GoodT kind mk n arcs := by
  have hn1 := hi.n1
  have hl1 := hi.len
  intro H
  rw [accK_ways]
  have hlt := waysL_lt kind true hm
  have hle := waysL_length kind true hm
  have hp : 2 ^ ((mk + 1) / 2) ≤ 2 ^ 20 := Nat.pow_le_pow_right (by decide) (by omega)
  have hw := waysR kind mk true hm
  generalize waysL kind mk true = X at hlt hle hw
  refine CallW.pure ?_ rfl H
  refine CallW.symK (cuts := []) Try.func79 rfl (by kernel_rfl) ?_
  conv => whnf
  repeat' (refine Fork.dec (fun _ => ?_) (fun _ => ?_) <;> first | (exfalso; omega) | (conv => whnf))
  refine CallS.of (by kernel_rfl) (hw _) rfl ?_
  rintro _ _ ⟨rfl, rfl⟩
  conv => whnf
  repeat' (refine Gets.of _ rfl ?_; conv => whnf)
  refine CodeS.loopGK (cuts := []) (σ := Nat × List Cond) (fun s => [(0, .int .i64 (n : Int)), (1, rA arcs), (10, gK 0 prs s.2), (30, rK cls X), (31, .int .i64 (X.length : Int)), (32, .int .i64 (s.1 : Int))]) (fun s => gH 4 prs s.2) (fun s => s.1 ≤ X.length ∧ (X.take s.1).map oneC = s.2) (fun s => X.length - s.1) (0, []) (renL [] 0) (by kernel_rfl) ⟨Nat.zero_le _, rfl⟩ ⟨rfl, rfl, rfl, rfl, rfl, rfl, trivial⟩ (EmbL.litsN [] rfl rfl rfl rfl .nil .nil) ?_
  rintro ⟨j, acc⟩ ⟨hj, hacc⟩
  dsimp only at hj hacc ⊢
  have hal : acc.length = j := by rw [← hacc, List.length_map, List.length_take, Nat.min_eq_left hj]
  rcases Nat.lt_or_ge j X.length with hjl | hjl
  · obtain ⟨c, hc⟩ := getE hjl
    have hnx := take_map (f := oneC) hc
    rw [hacc] at hnx
    rcases acc with _ | ⟨x, acc⟩
    · conv => whnf
      repeat' first | ((refine Gets.ixRE (es := 2) rfl (by kernel_rfl) (by omega) ?_); conv => whnf) | ((refine Gets.ldRK recC rfl rfl rfl rfl hc ?_); conv => whnf) | ((refine Gets.appK0 recP (by decide) (x := oneC c) rfl rfl rfl rfl rfl (by decide) rfl ?_); conv => whnf) | ((with_reducible refine Gets.addI ?_ ?_ ?_); (· omega); (· omega); conv => whnf) | (refine Gets.of _ rfl ?_; conv => whnf) | (refine Fork.dec (fun _ => ?_) (fun _ => ?_) <;> first | (exfalso; omega) | (conv => whnf))
      exact ⟨(j + 1, [oneC c]), renL [2] 3, ⟨hjl, hnx⟩, by show X.length - (j + 1) < _; omega, ⟨rfl, rfl, rfl, rfl, rfl, rfl, trivial⟩, EmbL.litsN [2] rfl rfl rfl rfl .nil (.cons ⟨rfl, .inl rfl⟩ .nil)⟩
    · have e2 : (x :: (acc ++ [oneC c])).length = (x :: acc).length + 1 := by simp
      conv => whnf
      repeat' first | ((refine Gets.ixRE (es := 2) rfl (by kernel_rfl) (by omega) ?_); conv => whnf) | ((refine Gets.ldRK recC rfl rfl rfl rfl hc ?_); conv => whnf) | ((refine Gets.appK1 recP (by decide) (l := x :: acc) (x := oneC c) rfl rfl rfl rfl rfl (by decide) rfl rfl rfl (by omega) ?_); conv => whnf) | ((with_reducible refine Gets.addI ?_ ?_ ?_); (· omega); (· omega); conv => whnf) | (refine Gets.of _ rfl ?_; conv => whnf) | (refine Fork.dec (fun _ => ?_) (fun _ => ?_) <;> first | (exfalso; omega) | (conv => whnf))
      exact ⟨(j + 1, x :: acc ++ [oneC c]), renL [3] 4, ⟨hjl, hnx⟩, by show X.length - (j + 1) < _; omega, ⟨rfl, rfl, by first | exact congrArg (AVal.slice 3 0) e2 | exact congrArg (AVal.slice 3 0) e2.symm, rfl, rfl, rfl, trivial⟩, EmbL.litsN [3] rfl rfl rfl rfl .nil (.cons ⟨rfl, .cellsI⟩ .nil)⟩
  · obtain rfl : j = X.length := by omega
    rw [List.take_length] at hacc
    have hgb := goodBothR (cyclesR partsR) reachR n arcs acc hi (by omega) (fun c hc => by
      rw [← hacc] at hc
      obtain ⟨d, hd, rfl⟩ := List.mem_map.1 hc
      exact inC_one (hlt d hd))
    have e : goodL n arcs (anyC arcs acc) = liveL n arcs fun I _ => SatL X I := by
      rw [← goodL_live hi, ← hacc]
      congr 1
      funext i
      exact anyC_one arcs X i
    rw [e] at hgb
    rcases acc with _ | ⟨x, acc⟩
    · conv => whnf
      repeat' (refine Fork.dec (fun _ => ?_) (fun _ => ?_) <;> first | (exfalso; omega) | (conv => whnf))
      refine CallS.of (by kernel_rfl) ((hgb _).argsF [] rfl (.keep (.keep (.frz (show Frz _ _ AVal.nilSlice (.row 0 (ints (fl prs []))) from .nil) .nil)))) rfl ?_
      rintro _ _ ⟨rfl, rfl⟩
      conv => whnf
      skip
      exact ⟨[], _, rfl, .same rfl, rfl, rfl⟩
    · conv => whnf
      repeat' (refine Fork.dec (fun _ => ?_) (fun _ => ?_) <;> first | (exfalso; omega) | (conv => whnf))
      refine CallS.of (by kernel_rfl) ((hgb _).argsF [0] rfl (.keep (.keep (.frz (show Frz _ _ (AVal.slice 0 0 (x :: acc).length) (rK prs (x :: acc)) from frzK recP (l := x :: acc) rfl rfl rfl) .nil)))) rfl ?_
      rintro _ _ ⟨rfl, rfl⟩
      conv => whnf
      skip
      exact ⟨[], _, rfl, .same rfl, rfl, rfl⟩
theorem goodR (kind : Int) (mk n : Nat) (arcs : List Arc) (hm : mk ≤ 40) (hi : InR n arcs) : GoodT kind mk n arcs := by
  by_cases h : kind = 4
  · subst h; exact goodR4 mk n arcs hm hi
  · exact goodRw kind h mk n arcs hm hi
end Go.Proofs.Ytaccmanpanpbiaa

/- Is of the reference: whether an automaton has a word. -/
-- VkG VkH VmA
set_option linter.unusedVariables false
set_option linter.unusedSimpArgs false
set_option maxRecDepth 100000
set_option maxHeartbeats 4000000
namespace Go.Proofs.Ytaccmanpanpbiaa
open Go Go.Vh Go.Vk Go.Vn Go.Proofs
open Classical
def sysE : Vn.Sys Edg := ⟨fun e => e.fr.toNat, fun e => e.to.toNat, fun e => e.marks.toNat⟩
/-- The automaton has the word: a run goes on for ever by the same edges again and again, and is accepted. -/
def HasW (a : Au) (w : Wo) : Prop := Lasso sysE a.es (fun e p => readsB e (w.let p) = true) (fun s => (s : Int) ∈ a.start) (AccK a.kind a.marks.toNat)
def mkArc (w : Wo) (e : Edg) (k : Nat) : Arc := ⟨e.fr.toNat * w.n + k, e.to.toNat * w.n + fol w.stem.length w.loop.length k, e.marks.toNat, 0⟩
def rowArcs (w : Wo) (e : Edg) (m : Nat) : List Arc := ((List.range m).filter fun k => readsB e (w.at k)).map (mkArc w e)
def isArcs (a : Au) (w : Wo) : List Arc := a.es.flatMap fun e => rowArcs w e w.n
theorem rowArcs_next (w : Wo) (e : Edg) (m : Nat) : rowArcs w e (m + 1) = rowArcs w e m ++ if readsB e (w.at m) = true then [mkArc w e m] else [] := by
  unfold rowArcs
  rw [List.range_succ, List.filter_append, List.map_append]
  congr 1
  by_cases h : readsB e (w.at m) = true
  · rw [if_pos h, List.filter_cons, if_pos h]; rfl
  · rw [if_neg h, List.filter_cons, if_neg h]; rfl
theorem rowArcs_len (w : Wo) (e : Edg) (m : Nat) : (rowArcs w e m).length ≤ m := by
  unfold rowArcs
  rw [List.length_map]
  exact Nat.le_trans (List.length_filter_le _ _) (by rw [List.length_range]; exact Nat.le_refl _)
theorem flatMap_len {α β : Type} {f : α → List β} {n : Nat} (h : ∀ x, (f x).length ≤ n) : ∀ l : List α, (l.flatMap f).length ≤ l.length * n
  | [] => by simp
  | x :: l => by
    have := flatMap_len h l
    have := h x
    rw [List.flatMap_cons, List.length_append, List.length_cons, Nat.succ_mul]; omega
theorem isArcs_len (w : Wo) (l : List Edg) : (l.flatMap fun e => rowArcs w e w.n).length ≤ l.length * w.n := flatMap_len (fun e => rowArcs_len w e w.n) l
theorem isArcs_prod (a : Au) (w : Wo) : IsProd sysE a.es (fun e k => readsB e (w.at k) = true) w.stem.length w.loop.length (isArcs a w) := by
  intro x
  unfold isArcs rowArcs
  rw [List.mem_flatMap]
  constructor
  · rintro ⟨e, he, hx⟩
    obtain ⟨k, hk, rfl⟩ := List.mem_map.1 hx
    obtain ⟨h1, h2⟩ := List.mem_filter.1 hk
    exact ⟨e, k, he, List.mem_range.1 h1, h2, rfl⟩
  · rintro ⟨e, k, he, hk, hr, rfl⟩
    exact ⟨e, he, List.mem_map.2 ⟨k, List.mem_filter.2 ⟨List.mem_range.2 hk, hr⟩, rfl⟩⟩
theorem ix_self {st lp k : Nat} (h : k < st + lp) : ix st lp k = k := by
  unfold ix
  split
  · rfl
  · rw [Nat.mod_eq_of_lt (by omega)]; omega
theorem let_at {w : Wo} {k : Nat} (h : k < w.n) : w.let k = w.at k := by
  unfold Wo.let
  rw [ix_self h]
theorem fol_lt {st lp k : Nat} (hl : 0 < lp) (h : k < st + lp) : fol st lp k < st + lp := by
  unfold fol
  split <;> omega
/-- What an automaton's edges are, in small numbers. -/
structure SmE (S : Nat) (e : Edg) : Prop where
  f0 : 0 ≤ e.fr
  f1 : e.fr.toNat < S
  t0 : 0 ≤ e.to
  t1 : e.to.toNat < S
  m0 : 0 ≤ e.marks
  m1 : e.marks.toNat < 2 ^ 62
theorem Au.Ok.sm {a : Au} (h : a.Ok) : ∀ e ∈ a.es, SmE a.states.toNat e := by
  intro e he
  obtain ⟨j, hj, rfl⟩ := List.getElem_of_mem he
  have h1 := h.eg j hj
  rw [List.getD_eq_getElem?_getD, List.getElem?_eq_getElem hj] at h1
  have h1 : a.EdgeOk a.es[j] := h1
  obtain ⟨h2, h3, h4, h5, _, _, _, h6, h7⟩ := h1
  have h8 := h.s0
  have h9 : (2 ^ a.marks.toNat : Nat) ≤ 2 ^ 40 := Nat.pow_le_pow_right (by decide) (by have := h.mo.1; have := h.mo.2.1; omega)
  exact ⟨h2, by omega, h4, by omega, h6, by omega⟩
theorem node_lt {f n S k : Nat} (hf : f < S) (hk : k < n) : f * n + k < S * n := by
  have := Nat.mul_le_mul_right n hf
  rw [Nat.succ_mul] at this
  omega
theorem isArcs_in {a : Au} {w : Wo} (hp : 0 < w.loop.length) (hs : ∀ e ∈ a.es, SmE a.states.toNat e) (h1 : a.states.toNat * w.n ≤ 1073741824) (h2 : a.es.length * w.n ≤ 1073741824) : InR (a.states.toNat * w.n) (isArcs a w) := by
  have key : ∀ x ∈ isArcs a w, ∃ e k, e ∈ a.es ∧ k < w.n ∧ x = mkArc w e k := fun x hx => by
    obtain ⟨e, k, he, hk, _, rfl⟩ := (isArcs_prod a w x).1 hx
    exact ⟨e, k, he, hk, rfl⟩
  refine ⟨h1, Nat.le_trans (isArcs_len w a.es) h2, fun x hx => ?_, fun x hx => ?_, fun x hx => ?_⟩ <;> obtain ⟨e, k, he, hk, rfl⟩ := key x hx
  · exact node_lt (hs e he).f1 hk
  · exact node_lt (hs e he).t1 (fol_lt hp hk)
  · exact ⟨(hs e he).m1, by show 0 < 2 ^ 62; decide⟩
theorem arc_cells {A B m : Nat} {x : Int} (h : ((m : Nat) : Int) = x) : ABlk.cells 4 [.int .i64 ((A : Nat) : Int), .int .i64 ((B : Nat) : Int), .int .i64 x, .int .i64 0] = .cells 4 (ints (acs ⟨A, B, m, 0⟩)) := by subst h; rfl
theorem hasW_iff (a : Au) (w : Wo) (hp : 0 < w.loop.length) : HasW a w ↔ ∃ s : Nat, (s : Int) ∈ a.start ∧ LiveP (isArcs a w) (fun I _ => AccK a.kind a.marks.toNat I) (s * w.n) := by
  have h := lasso_iff (start := fun s => (s : Int) ∈ a.start) (ok := AccK a.kind a.marks.toNat) hp (isArcs_prod a w)
  exact h.symm
/-- The two boxes, and the arcs that grow behind them. -/
def isB (a : Au) (w : Wo) : AHeap := (emptyH.alloc (.cells 1 [.int .i64 a.props, .int .i64 a.states, rI a.start, .int .i64 a.kind, .int .i64 a.marks, rE a.es])).alloc (.cells 1 [rI w.stem, rI w.loop])
def isH (a : Au) (w : Wo) (l : List Arc) : AHeap := match l with
  | [] => isB a w
  | x :: l => (isB a w).alloc (.cells 4 (ints (fl acs (x :: l))))
def isG (a : Au) (w : Wo) (e : Edg) (l : List Arc) : AHeap := match l with
  | [] => (isB a w).alloc (.cells 1 (ints e.l))
  | x :: l => ((isB a w).alloc (.cells 1 (ints e.l))).alloc (.cells 4 (ints (fl acs (x :: l))))
theorem isAW (a : Au) (w : Wo) (hf : w.Fits) (hm0 : 0 ≤ a.marks) (hm : a.marks ≤ 40) (hs0 : 0 ≤ a.states) (hs : ∀ e ∈ a.es, SmE a.states.toNat e) (hst : ∀ s ∈ a.start, 0 ≤ s ∧ s < a.states) (hsl : a.start.length ≤ 1073741824) (hel : a.es.length ≤ 1073741824) (h1 : a.states.toNat * w.n ≤ 1073741824) (h2 : a.es.length * w.n ≤ 1073741824) (hn : w.n ≤ 1073741824) (H : AHeap) :
    CallW Try.prog 23 [a.rv, w.rv] H fun v H' => H' = H ∧ v = .bool (decide (HasW a w)) := by
  have hpos := hf.pos
  have hwn : w.stem.length + w.loop.length = w.n := rfl
  have hin := isArcs_in (w := w) hpos hs h1 h2
  refine CallW.pure ?_ rfl H
  refine CallW.symK (cuts := []) Try.func23 rfl (by kernel_rfl) ?_
  conv => whnf
  repeat' (refine Gets.of _ rfl ?_; conv => whnf)
  refine CallS.of (by kernel_rfl) (placesR w hf _) rfl ?_
  rintro _ _ ⟨rfl, rfl⟩
  conv => whnf
  repeat' (refine Gets.of _ rfl ?_; conv => whnf)
  refine CodeS.loopGK (cuts := []) (σ := Nat × List Arc) (fun s => [(2, .ptr 0 0), (3, .ptr 1 0), (5, .int .i64 (w.n : Int)), (6, gK 2 acs s.2), (16, rE a.es), (17, .int .i64 (a.es.length : Int)), (18, .int .i64 (s.1 : Int))]) (fun s => isH a w s.2) (fun s => s.1 ≤ a.es.length ∧ ((a.es.take s.1).flatMap fun e => rowArcs w e w.n) = s.2) (fun s => a.es.length - s.1) (0, []) (renL [0, 1] 2) (by kernel_rfl) ⟨Nat.zero_le _, rfl⟩ ⟨rfl, rfl, rfl, rfl, rfl, rfl, rfl, trivial⟩ (EmbL.litsN [0, 1] rfl rfl rfl rfl .nil (.cons ⟨rfl, .inl rfl⟩ (.cons ⟨rfl, .inl rfl⟩ .nil))) ?_
  rintro ⟨j, acc⟩ ⟨hj, hacc⟩
  dsimp only at hj hacc ⊢
  have hal : acc.length ≤ j * w.n := by
    rw [← hacc]
    refine Nat.le_trans (isArcs_len w _) (Nat.mul_le_mul_right _ ?_)
    rw [List.length_take]; omega
  rcases Nat.lt_or_ge j a.es.length with hjl | hjl
  · obtain ⟨e, he⟩ := getE hjl
    have hem := List.mem_of_getElem? he
    have hse := hs e hem
    have hnx := flat_next (f := fun e => rowArcs w e w.n) he
    rw [hacc] at hnx
    have hal2 : acc.length + w.n ≤ 1073741824 := by
      have : (j + 1) * w.n ≤ a.es.length * w.n := Nat.mul_le_mul_right _ hjl
      rw [Nat.succ_mul] at this
      omega
    have hedge : a.es.getD j default = e := by rw [List.getD_eq_getElem?_getD, he]; rfl
    have hff := node_lt (n := w.n) (k := w.n - 1) hse.f1 (by omega)
    have htt := node_lt (n := w.n) (k := w.n - 1) hse.t1 (by omega)
    have e1 : e.fr * (w.n : Int) = ((e.fr.toNat * w.n : Nat) : Int) := by rw [Int.natCast_mul, Int.toNat_of_nonneg hse.f0]
    have e2 : e.to * (w.n : Int) = ((e.to.toNat * w.n : Nat) : Int) := by rw [Int.natCast_mul, Int.toNat_of_nonneg hse.t0]
    have e3 : e.marks = ((e.marks.toNat : Nat) : Int) := (Int.toNat_of_nonneg hse.m0).symm
    have em := Int.toNat_of_nonneg hse.m0
    obtain ⟨acc0, hacc0⟩ : ∃ acc0, acc0 = acc := ⟨_, rfl⟩
    rcases acc with _ | ⟨x0, acc⟩
    · conv => whnf
      repeat' first | ((refine Gets.ixRE (es := 5) rfl (by kernel_rfl) (by omega) ?_); conv => whnf) | ((refine Gets.ldRE rfl rfl rfl rfl hjl ?_); conv => whnf) | (refine Gets.of _ rfl ?_; conv => whnf) | (refine Fork.dec (fun _ => ?_) (fun _ => ?_) <;> first | (exfalso; omega) | (conv => whnf))
      rw [hedge]
      refine CodeS.loopGK (cuts := []) (σ := Nat × List Arc) (fun s => [(2, .ptr 0 0), (3, .ptr 1 0), (5, .int .i64 (w.n : Int)), (6, gK 3 acs s.2), (8, .ptr 2 0), (16, rE a.es), (17, .int .i64 (a.es.length : Int)), (18, .int .i64 (j : Int)), (22, .int .i64 (w.n : Int)), (23, .int .i64 (s.1 : Int))]) (fun s => isG a w e s.2) (fun s => s.1 ≤ w.n ∧ acc0 ++ rowArcs w e s.1 = s.2) (fun s => w.n - s.1) (0, acc0) (renL [0, 1, 2] 3) (by kernel_rfl) ⟨Nat.zero_le _, by show acc0 ++ [] = _; rw [List.append_nil]⟩ (by rw [hacc0]; exact ⟨rfl, rfl, rfl, rfl, rfl, rfl, rfl, rfl, rfl, rfl, trivial⟩) (by rw [hacc0]; exact EmbL.litsN [0, 1, 2] rfl rfl rfl rfl .nil (.cons ⟨rfl, .inl rfl⟩ (.cons ⟨rfl, .inl rfl⟩ (.cons ⟨rfl, .inl rfl⟩ .nil)))) ?_
      rintro ⟨k, ac⟩ ⟨hk, hac⟩
      dsimp only at hk hac ⊢
      rw [← hacc0] at hal hal2 hnx
      have hacl : ac.length ≤ acc0.length + k := by
        have := rowArcs_len w e k
        rw [← hac, List.length_append]; omega
      rcases Nat.lt_or_ge k w.n with hkl | hkl
      · have hrn := rowArcs_next w e k
        have hrn2 : acc0 ++ rowArcs w e (k + 1) = ac ++ if readsB e (w.at k) = true then [mkArc w e k] else [] := by rw [hrn, ← List.append_assoc, hac]
        have hrd := readsR e (w.let k)
        rw [let_at hkl] at hrd
        have hlet := lettersR w hf k (by omega)
        rw [let_at hkl] at hlet
        have hfo := fol_lt hpos hkl
        cases hr : readsB e (w.at k) with
        | true =>
          rw [hr] at hrd hrn2
          rw [if_pos rfl] at hrn2
          rcases ac with _ | ⟨x, ac⟩
          · conv => whnf
            repeat' (refine Fork.dec (fun _ => ?_) (fun _ => ?_) <;> first | (exfalso; omega) | (conv => whnf))
            refine CodeS.drawP (by kernel_rfl) (by kernel_rfl) ?_
            conv => whnf
            repeat' (refine Gets.of _ rfl ?_; conv => whnf)
            refine CallV.of (by kernel_rfl) (hlet _) rfl ?_
            conv => whnf
            skip
            refine CallV.of (by kernel_rfl) (hrd _) rfl ?_
            conv => whnf
            skip
            refine CodeS.drawT [1, 2] (.take 0 (.take 1 (.take 2 (.take 3 (.take 4 (.take 5 (.take 6 (.take 7 (.take 8 (.take 9 (.take 10 (.take 11 (.take 12 (.take 15 (.take 16 (.one 13 true (.take 14 (.take 17 (.one 18 true (.one 19 true (.take 20 .done))))))))))))))))))))) mixed (by kernel_rfl) (.cons ⟨rfl, trivial⟩ (.cons ⟨rfl, trivial⟩ .nil)) ?_
            conv => whnf
            repeat' first | ((refine Gets.mulE e1 (by omega) (by omega) ?_); conv => whnf) | ((refine Gets.mulE e2 (by omega) (by omega) ?_); conv => whnf) | ((refine Gets.addE (c := ((e.fr.toNat * w.n + k : Nat) : Int)) rfl (by omega) (by omega) ?_); conv => whnf) | (refine Gets.of _ rfl ?_; conv => whnf)
            refine CallPS.of (by kernel_rfl) (followR w hf k hkl _) rfl ?_
            rintro _ _ ⟨rfl, rfl⟩
            conv => whnf
            repeat' first | ((refine Gets.addE (c := ((e.to.toNat * w.n + fol w.stem.length w.loop.length k : Nat) : Int)) rfl (by omega) (by omega) ?_); conv => whnf) | ((refine Gets.appK0 recA (by decide) (x := mkArc w e k) rfl rfl rfl rfl rfl (by decide) (arc_cells em) ?_); conv => whnf) | ((with_reducible refine Gets.addI ?_ ?_ ?_); (· omega); (· omega); conv => whnf) | (refine Chk.mk (by repeat first | exact .nil | refine .cons rfl ?_) ?_; conv => whnf)
            exact ⟨(k + 1, [mkArc w e k]), renL [0, 1, 2, 4] 5, ⟨hkl, hrn2⟩, by show w.n - (k + 1) < _; omega, ⟨rfl, rfl, rfl, rfl, rfl, rfl, rfl, rfl, rfl, rfl, trivial⟩, EmbL.litsN [0, 1, 2, 4] rfl rfl rfl rfl .nil (.cons ⟨rfl, .inl rfl⟩ (.cons ⟨rfl, .inl rfl⟩ (.cons ⟨rfl, .inl rfl⟩ (.cons ⟨rfl, .inl rfl⟩ .nil))))⟩
          · have e9 : (x :: (ac ++ [mkArc w e k])).length = (x :: ac).length + 1 := by simp
            conv => whnf
            repeat' (refine Fork.dec (fun _ => ?_) (fun _ => ?_) <;> first | (exfalso; omega) | (conv => whnf))
            refine CodeS.drawP (by kernel_rfl) (by kernel_rfl) ?_
            conv => whnf
            repeat' (refine Gets.of _ rfl ?_; conv => whnf)
            refine CallV.of (by kernel_rfl) (hlet _) rfl ?_
            conv => whnf
            skip
            refine CallV.of (by kernel_rfl) (hrd _) rfl ?_
            conv => whnf
            skip
            refine CodeS.drawT [1, 2] (.take 0 (.take 1 (.take 2 (.take 3 (.take 4 (.take 5 (.take 6 (.take 7 (.take 8 (.take 9 (.take 10 (.take 11 (.take 12 (.take 15 (.take 16 (.one 13 true (.take 14 (.take 17 (.one 18 true (.one 19 true (.take 20 .done))))))))))))))))))))) mixed (by kernel_rfl) (.cons ⟨rfl, trivial⟩ (.cons ⟨rfl, trivial⟩ .nil)) ?_
            conv => whnf
            repeat' first | ((refine Gets.mulE e1 (by omega) (by omega) ?_); conv => whnf) | ((refine Gets.mulE e2 (by omega) (by omega) ?_); conv => whnf) | ((refine Gets.addE (c := ((e.fr.toNat * w.n + k : Nat) : Int)) rfl (by omega) (by omega) ?_); conv => whnf) | (refine Gets.of _ rfl ?_; conv => whnf)
            refine CallPS.of (by kernel_rfl) (followR w hf k hkl _) rfl ?_
            rintro _ _ ⟨rfl, rfl⟩
            conv => whnf
            repeat' first | ((refine Gets.addE (c := ((e.to.toNat * w.n + fol w.stem.length w.loop.length k : Nat) : Int)) rfl (by omega) (by omega) ?_); conv => whnf) | ((refine Gets.appK1 recA (by decide) (l := x :: ac) (x := mkArc w e k) rfl rfl rfl rfl rfl (by decide) rfl (arc_cells em) rfl (by omega) ?_); conv => whnf) | ((with_reducible refine Gets.addI ?_ ?_ ?_); (· omega); (· omega); conv => whnf) | (refine Chk.mk (by repeat first | exact .nil | refine .cons rfl ?_) ?_; conv => whnf)
            exact ⟨(k + 1, x :: ac ++ [mkArc w e k]), renL [0, 1, 2, 5] 6, ⟨hkl, hrn2⟩, by show w.n - (k + 1) < _; omega, ⟨rfl, rfl, rfl, by first | exact congrArg (AVal.slice 5 0) e9 | exact congrArg (AVal.slice 5 0) e9.symm, rfl, rfl, rfl, rfl, rfl, rfl, trivial⟩, EmbL.litsN [0, 1, 2, 5] rfl rfl rfl rfl .nil (.cons ⟨rfl, .inl rfl⟩ (.cons ⟨rfl, .inl rfl⟩ (.cons ⟨rfl, .inl rfl⟩ (.cons ⟨rfl, .cellsI⟩ .nil))))⟩
        | false =>
          rw [hr] at hrd hrn2
          rw [if_neg (by decide), List.append_nil] at hrn2
          rcases ac with _ | ⟨x, ac⟩
          · conv => whnf
            repeat' (refine Fork.dec (fun _ => ?_) (fun _ => ?_) <;> first | (exfalso; omega) | (conv => whnf))
            refine CodeS.drawP (by kernel_rfl) (by kernel_rfl) ?_
            conv => whnf
            repeat' (refine Gets.of _ rfl ?_; conv => whnf)
            refine CallV.of (by kernel_rfl) (hlet _) rfl ?_
            conv => whnf
            skip
            refine CallV.of (by kernel_rfl) (hrd _) rfl ?_
            conv => whnf
            repeat' ((with_reducible refine Gets.addI ?_ ?_ ?_); (· omega); (· omega); conv => whnf)
            exact ⟨(k + 1, []), renL [0, 1, 2] 3, ⟨hkl, hrn2⟩, by show w.n - (k + 1) < _; omega, ⟨rfl, rfl, rfl, rfl, rfl, rfl, rfl, rfl, rfl, rfl, trivial⟩, EmbL.litsN [0, 1, 2] rfl rfl rfl rfl .nil (.cons ⟨rfl, .inl rfl⟩ (.cons ⟨rfl, .inl rfl⟩ (.cons ⟨rfl, .inl rfl⟩ .nil)))⟩
          · conv => whnf
            repeat' (refine Fork.dec (fun _ => ?_) (fun _ => ?_) <;> first | (exfalso; omega) | (conv => whnf))
            refine CodeS.drawP (by kernel_rfl) (by kernel_rfl) ?_
            conv => whnf
            repeat' (refine Gets.of _ rfl ?_; conv => whnf)
            refine CallV.of (by kernel_rfl) (hlet _) rfl ?_
            conv => whnf
            skip
            refine CallV.of (by kernel_rfl) (hrd _) rfl ?_
            conv => whnf
            repeat' ((with_reducible refine Gets.addI ?_ ?_ ?_); (· omega); (· omega); conv => whnf)
            exact ⟨(k + 1, x :: ac), renL [0, 1, 2, 3] 4, ⟨hkl, hrn2⟩, by show w.n - (k + 1) < _; omega, ⟨rfl, rfl, rfl, rfl, rfl, rfl, rfl, rfl, rfl, rfl, trivial⟩, EmbL.litsN [0, 1, 2, 3] rfl rfl rfl rfl .nil (.cons ⟨rfl, .inl rfl⟩ (.cons ⟨rfl, .inl rfl⟩ (.cons ⟨rfl, .inl rfl⟩ (.cons ⟨rfl, .cellsI⟩ .nil))))⟩
      · obtain rfl : k = w.n := by omega
        rw [hac] at hnx
        rcases ac with _ | ⟨x, ac⟩
        · conv => whnf
          repeat' first | ((with_reducible refine Gets.addI ?_ ?_ ?_); (· omega); (· omega); conv => whnf) | (refine Fork.dec (fun _ => ?_) (fun _ => ?_) <;> first | (exfalso; omega) | (conv => whnf))
          exact ⟨(j + 1, []), renL [0, 1] 3, ⟨hjl, hnx⟩, by show a.es.length - (j + 1) < _; omega, ⟨rfl, rfl, rfl, rfl, rfl, rfl, rfl, trivial⟩, EmbL.litsN [0, 1] rfl rfl rfl rfl .nil (.cons ⟨rfl, .inl rfl⟩ (.cons ⟨rfl, .inl rfl⟩ .nil))⟩
        · conv => whnf
          repeat' first | ((with_reducible refine Gets.addI ?_ ?_ ?_); (· omega); (· omega); conv => whnf) | (refine Fork.dec (fun _ => ?_) (fun _ => ?_) <;> first | (exfalso; omega) | (conv => whnf))
          exact ⟨(j + 1, x :: ac), renL [0, 1, 3] 4, ⟨hjl, hnx⟩, by show a.es.length - (j + 1) < _; omega, ⟨rfl, rfl, rfl, rfl, rfl, rfl, rfl, trivial⟩, EmbL.litsN [0, 1, 3] rfl rfl rfl rfl .nil (.cons ⟨rfl, .inl rfl⟩ (.cons ⟨rfl, .inl rfl⟩ (.cons ⟨rfl, .cellsI⟩ .nil)))⟩
    · conv => whnf
      repeat' first | ((refine Gets.ixRE (es := 5) rfl (by kernel_rfl) (by omega) ?_); conv => whnf) | ((refine Gets.ldRE rfl rfl rfl rfl hjl ?_); conv => whnf) | (refine Gets.of _ rfl ?_; conv => whnf) | (refine Fork.dec (fun _ => ?_) (fun _ => ?_) <;> first | (exfalso; omega) | (conv => whnf))
      rw [hedge]
      refine CodeS.loopGK (cuts := []) (σ := Nat × List Arc) (fun s => [(2, .ptr 0 0), (3, .ptr 1 0), (5, .int .i64 (w.n : Int)), (6, gK 3 acs s.2), (8, .ptr 2 0), (16, rE a.es), (17, .int .i64 (a.es.length : Int)), (18, .int .i64 (j : Int)), (22, .int .i64 (w.n : Int)), (23, .int .i64 (s.1 : Int))]) (fun s => isG a w e s.2) (fun s => s.1 ≤ w.n ∧ acc0 ++ rowArcs w e s.1 = s.2) (fun s => w.n - s.1) (0, acc0) (renL [0, 1, 3, 2] 4) (by kernel_rfl) ⟨Nat.zero_le _, by show acc0 ++ [] = _; rw [List.append_nil]⟩ (by rw [hacc0]; exact ⟨rfl, rfl, rfl, rfl, rfl, rfl, rfl, rfl, rfl, rfl, trivial⟩) (by rw [hacc0]; exact EmbL.litsN [0, 1, 3, 2] rfl rfl rfl rfl .nil (.cons ⟨rfl, .inl rfl⟩ (.cons ⟨rfl, .inl rfl⟩ (.cons ⟨rfl, .inl rfl⟩ (.cons ⟨rfl, .cellsI⟩ .nil))))) ?_
      rintro ⟨k, ac⟩ ⟨hk, hac⟩
      dsimp only at hk hac ⊢
      rw [← hacc0] at hal hal2 hnx
      have hacl : ac.length ≤ acc0.length + k := by
        have := rowArcs_len w e k
        rw [← hac, List.length_append]; omega
      rcases Nat.lt_or_ge k w.n with hkl | hkl
      · have hrn := rowArcs_next w e k
        have hrn2 : acc0 ++ rowArcs w e (k + 1) = ac ++ if readsB e (w.at k) = true then [mkArc w e k] else [] := by rw [hrn, ← List.append_assoc, hac]
        have hrd := readsR e (w.let k)
        rw [let_at hkl] at hrd
        have hlet := lettersR w hf k (by omega)
        rw [let_at hkl] at hlet
        have hfo := fol_lt hpos hkl
        cases hr : readsB e (w.at k) with
        | true =>
          rw [hr] at hrd hrn2
          rw [if_pos rfl] at hrn2
          rcases ac with _ | ⟨x, ac⟩
          · conv => whnf
            repeat' (refine Fork.dec (fun _ => ?_) (fun _ => ?_) <;> first | (exfalso; omega) | (conv => whnf))
            refine CodeS.drawP (by kernel_rfl) (by kernel_rfl) ?_
            conv => whnf
            repeat' (refine Gets.of _ rfl ?_; conv => whnf)
            refine CallV.of (by kernel_rfl) (hlet _) rfl ?_
            conv => whnf
            skip
            refine CallV.of (by kernel_rfl) (hrd _) rfl ?_
            conv => whnf
            skip
            refine CodeS.drawT [1, 2] (.take 0 (.take 1 (.take 2 (.take 3 (.take 4 (.take 5 (.take 6 (.take 7 (.take 8 (.take 9 (.take 10 (.take 11 (.take 12 (.take 15 (.take 16 (.one 13 true (.take 14 (.take 17 (.one 18 true (.one 19 true (.take 20 .done))))))))))))))))))))) mixed (by kernel_rfl) (.cons ⟨rfl, trivial⟩ (.cons ⟨rfl, trivial⟩ .nil)) ?_
            conv => whnf
            repeat' first | ((refine Gets.mulE e1 (by omega) (by omega) ?_); conv => whnf) | ((refine Gets.mulE e2 (by omega) (by omega) ?_); conv => whnf) | ((refine Gets.addE (c := ((e.fr.toNat * w.n + k : Nat) : Int)) rfl (by omega) (by omega) ?_); conv => whnf) | (refine Gets.of _ rfl ?_; conv => whnf)
            refine CallPS.of (by kernel_rfl) (followR w hf k hkl _) rfl ?_
            rintro _ _ ⟨rfl, rfl⟩
            conv => whnf
            repeat' first | ((refine Gets.addE (c := ((e.to.toNat * w.n + fol w.stem.length w.loop.length k : Nat) : Int)) rfl (by omega) (by omega) ?_); conv => whnf) | ((refine Gets.appK0 recA (by decide) (x := mkArc w e k) rfl rfl rfl rfl rfl (by decide) (arc_cells em) ?_); conv => whnf) | ((with_reducible refine Gets.addI ?_ ?_ ?_); (· omega); (· omega); conv => whnf) | (refine Chk.mk (by repeat first | exact .nil | refine .cons rfl ?_) ?_; conv => whnf)
            exact ⟨(k + 1, [mkArc w e k]), renL [0, 1, 2, 4] 5, ⟨hkl, hrn2⟩, by show w.n - (k + 1) < _; omega, ⟨rfl, rfl, rfl, rfl, rfl, rfl, rfl, rfl, rfl, rfl, trivial⟩, EmbL.litsN [0, 1, 2, 4] rfl rfl rfl rfl .nil (.cons ⟨rfl, .inl rfl⟩ (.cons ⟨rfl, .inl rfl⟩ (.cons ⟨rfl, .inl rfl⟩ (.cons ⟨rfl, .inl rfl⟩ .nil))))⟩
          · have e9 : (x :: (ac ++ [mkArc w e k])).length = (x :: ac).length + 1 := by simp
            conv => whnf
            repeat' (refine Fork.dec (fun _ => ?_) (fun _ => ?_) <;> first | (exfalso; omega) | (conv => whnf))
            refine CodeS.drawP (by kernel_rfl) (by kernel_rfl) ?_
            conv => whnf
            repeat' (refine Gets.of _ rfl ?_; conv => whnf)
            refine CallV.of (by kernel_rfl) (hlet _) rfl ?_
            conv => whnf
            skip
            refine CallV.of (by kernel_rfl) (hrd _) rfl ?_
            conv => whnf
            skip
            refine CodeS.drawT [1, 2] (.take 0 (.take 1 (.take 2 (.take 3 (.take 4 (.take 5 (.take 6 (.take 7 (.take 8 (.take 9 (.take 10 (.take 11 (.take 12 (.take 15 (.take 16 (.one 13 true (.take 14 (.take 17 (.one 18 true (.one 19 true (.take 20 .done))))))))))))))))))))) mixed (by kernel_rfl) (.cons ⟨rfl, trivial⟩ (.cons ⟨rfl, trivial⟩ .nil)) ?_
            conv => whnf
            repeat' first | ((refine Gets.mulE e1 (by omega) (by omega) ?_); conv => whnf) | ((refine Gets.mulE e2 (by omega) (by omega) ?_); conv => whnf) | ((refine Gets.addE (c := ((e.fr.toNat * w.n + k : Nat) : Int)) rfl (by omega) (by omega) ?_); conv => whnf) | (refine Gets.of _ rfl ?_; conv => whnf)
            refine CallPS.of (by kernel_rfl) (followR w hf k hkl _) rfl ?_
            rintro _ _ ⟨rfl, rfl⟩
            conv => whnf
            repeat' first | ((refine Gets.addE (c := ((e.to.toNat * w.n + fol w.stem.length w.loop.length k : Nat) : Int)) rfl (by omega) (by omega) ?_); conv => whnf) | ((refine Gets.appK1 recA (by decide) (l := x :: ac) (x := mkArc w e k) rfl rfl rfl rfl rfl (by decide) rfl (arc_cells em) rfl (by omega) ?_); conv => whnf) | ((with_reducible refine Gets.addI ?_ ?_ ?_); (· omega); (· omega); conv => whnf) | (refine Chk.mk (by repeat first | exact .nil | refine .cons rfl ?_) ?_; conv => whnf)
            exact ⟨(k + 1, x :: ac ++ [mkArc w e k]), renL [0, 1, 2, 5] 6, ⟨hkl, hrn2⟩, by show w.n - (k + 1) < _; omega, ⟨rfl, rfl, rfl, by first | exact congrArg (AVal.slice 5 0) e9 | exact congrArg (AVal.slice 5 0) e9.symm, rfl, rfl, rfl, rfl, rfl, rfl, trivial⟩, EmbL.litsN [0, 1, 2, 5] rfl rfl rfl rfl .nil (.cons ⟨rfl, .inl rfl⟩ (.cons ⟨rfl, .inl rfl⟩ (.cons ⟨rfl, .inl rfl⟩ (.cons ⟨rfl, .cellsI⟩ .nil))))⟩
        | false =>
          rw [hr] at hrd hrn2
          rw [if_neg (by decide), List.append_nil] at hrn2
          rcases ac with _ | ⟨x, ac⟩
          · conv => whnf
            repeat' (refine Fork.dec (fun _ => ?_) (fun _ => ?_) <;> first | (exfalso; omega) | (conv => whnf))
            refine CodeS.drawP (by kernel_rfl) (by kernel_rfl) ?_
            conv => whnf
            repeat' (refine Gets.of _ rfl ?_; conv => whnf)
            refine CallV.of (by kernel_rfl) (hlet _) rfl ?_
            conv => whnf
            skip
            refine CallV.of (by kernel_rfl) (hrd _) rfl ?_
            conv => whnf
            repeat' ((with_reducible refine Gets.addI ?_ ?_ ?_); (· omega); (· omega); conv => whnf)
            exact ⟨(k + 1, []), renL [0, 1, 2] 3, ⟨hkl, hrn2⟩, by show w.n - (k + 1) < _; omega, ⟨rfl, rfl, rfl, rfl, rfl, rfl, rfl, rfl, rfl, rfl, trivial⟩, EmbL.litsN [0, 1, 2] rfl rfl rfl rfl .nil (.cons ⟨rfl, .inl rfl⟩ (.cons ⟨rfl, .inl rfl⟩ (.cons ⟨rfl, .inl rfl⟩ .nil)))⟩
          · conv => whnf
            repeat' (refine Fork.dec (fun _ => ?_) (fun _ => ?_) <;> first | (exfalso; omega) | (conv => whnf))
            refine CodeS.drawP (by kernel_rfl) (by kernel_rfl) ?_
            conv => whnf
            repeat' (refine Gets.of _ rfl ?_; conv => whnf)
            refine CallV.of (by kernel_rfl) (hlet _) rfl ?_
            conv => whnf
            skip
            refine CallV.of (by kernel_rfl) (hrd _) rfl ?_
            conv => whnf
            repeat' ((with_reducible refine Gets.addI ?_ ?_ ?_); (· omega); (· omega); conv => whnf)
            exact ⟨(k + 1, x :: ac), renL [0, 1, 2, 3] 4, ⟨hkl, hrn2⟩, by show w.n - (k + 1) < _; omega, ⟨rfl, rfl, rfl, rfl, rfl, rfl, rfl, rfl, rfl, rfl, trivial⟩, EmbL.litsN [0, 1, 2, 3] rfl rfl rfl rfl .nil (.cons ⟨rfl, .inl rfl⟩ (.cons ⟨rfl, .inl rfl⟩ (.cons ⟨rfl, .inl rfl⟩ (.cons ⟨rfl, .cellsI⟩ .nil))))⟩
      · obtain rfl : k = w.n := by omega
        rw [hac] at hnx
        rcases ac with _ | ⟨x, ac⟩
        · conv => whnf
          repeat' first | ((with_reducible refine Gets.addI ?_ ?_ ?_); (· omega); (· omega); conv => whnf) | (refine Fork.dec (fun _ => ?_) (fun _ => ?_) <;> first | (exfalso; omega) | (conv => whnf))
          exact ⟨(j + 1, []), renL [0, 1] 3, ⟨hjl, hnx⟩, by show a.es.length - (j + 1) < _; omega, ⟨rfl, rfl, rfl, rfl, rfl, rfl, rfl, trivial⟩, EmbL.litsN [0, 1] rfl rfl rfl rfl .nil (.cons ⟨rfl, .inl rfl⟩ (.cons ⟨rfl, .inl rfl⟩ .nil))⟩
        · conv => whnf
          repeat' first | ((with_reducible refine Gets.addI ?_ ?_ ?_); (· omega); (· omega); conv => whnf) | (refine Fork.dec (fun _ => ?_) (fun _ => ?_) <;> first | (exfalso; omega) | (conv => whnf))
          exact ⟨(j + 1, x :: ac), renL [0, 1, 3] 4, ⟨hjl, hnx⟩, by show a.es.length - (j + 1) < _; omega, ⟨rfl, rfl, rfl, rfl, rfl, rfl, rfl, trivial⟩, EmbL.litsN [0, 1, 3] rfl rfl rfl rfl .nil (.cons ⟨rfl, .inl rfl⟩ (.cons ⟨rfl, .inl rfl⟩ (.cons ⟨rfl, .cellsI⟩ .nil)))⟩
  · obtain rfl : j = a.es.length := by omega
    rw [List.take_length] at hacc
    have hacc : isArcs a w = acc := hacc
    have hg := goodR a.kind a.marks.toNat (a.states.toNat * w.n) (isArcs a w) (by omega) hin
    unfold GoodT at hg
    have e1 : a.states * (w.n : Int) = ((a.states.toNat * w.n : Nat) : Int) := by rw [Int.natCast_mul, Int.toNat_of_nonneg hs0]
    rw [Int.toNat_of_nonneg hm0] at hg
    have hw := hasW_iff a w hpos
    have hlen := liveL_length (a.states.toNat * w.n) (isArcs a w) fun I _ => AccK a.kind a.marks.toNat I
    have hget : ∀ x, x < a.states.toNat * w.n → _ := fun x hx => liveL_get (arcs := isArcs a w) (ok := fun I _ => AccK a.kind a.marks.toNat I) hx
    rw [hacc] at hg hw hlen hget
    generalize liveL (a.states.toNat * w.n) acc (fun I _ => AccK a.kind a.marks.toNat I) = G at hg hlen hget
    rcases acc with _ | ⟨x, acc⟩
    · conv => whnf
      repeat' first | ((refine Gets.mulE e1 (by omega) (by omega) ?_); conv => whnf) | (refine Gets.of _ rfl ?_; conv => whnf) | (refine Fork.dec (fun _ => ?_) (fun _ => ?_) <;> first | (exfalso; omega) | (conv => whnf))
      refine CallS.of (by kernel_rfl) ((hg _).argsF [] rfl (.keep (.frz (show Frz _ _ AVal.nilSlice (.row 0 (ints (fl acs []))) from .nil) (.keep (.keep .nil))))) rfl ?_
      rintro _ _ ⟨rfl, rfl⟩
      conv => whnf
      repeat' (refine Gets.of _ rfl ?_; conv => whnf)
      refine CodeS.loopGK (cuts := []) (σ := Nat) (fun i => [(5, .int .i64 (w.n : Int)), (10, rB G), (64, rI a.start), (65, .int .i64 (a.start.length : Int)), (66, .int .i64 (i : Int))]) (fun _ => emptyH) (fun i => i ≤ a.start.length ∧ ∀ i', i' < i → ∀ s, a.start[i']? = some s → G[s.toNat * w.n]? = some false) (fun i => a.start.length - i) 0 (renL [] 2) (by kernel_rfl) ⟨Nat.zero_le _, fun i' h => absurd h (Nat.not_lt_zero _)⟩ ⟨rfl, rfl, rfl, rfl, rfl, trivial⟩ (EmbL.litsN [] rfl rfl rfl rfl .nil .nil) ?_
      rintro i ⟨hi, hno⟩
      rcases Nat.lt_or_ge i a.start.length with hil | hil
      · obtain ⟨s, hsi⟩ := getE hil
        have hsm := List.mem_of_getElem? hsi
        obtain ⟨hs1, hs2⟩ := hst s hsm
        have hx : s.toNat * w.n < a.states.toNat * w.n := by
          have := node_lt (n := w.n) (k := 0) (show s.toNat < a.states.toNat by omega) (by omega)
          rwa [Nat.add_zero] at this
        have e2 : s * (w.n : Int) = ((s.toNat * w.n : Nat) : Int) := by rw [Int.natCast_mul, Int.toNat_of_nonneg hs1]
        have hb := hget _ hx
        cases hd : decide (LiveP _ _ (s.toNat * w.n)) with
        | true =>
          rw [hd] at hb
          conv => whnf
          repeat' first | ((refine Gets.ldRIv rfl hsi ?_); conv => whnf) | ((refine Gets.mulE e2 (by omega) (by omega) ?_); conv => whnf) | ((refine Gets.ldRBv rfl hb ?_); conv => whnf) | (refine Gets.ixR1 rfl rfl (by omega) ?_; conv => whnf) | (refine Fork.dec (fun _ => ?_) (fun _ => ?_) <;> first | (exfalso; omega) | (conv => whnf))
          exact ⟨[], _, rfl, .same rfl, rfl, congrArg AVal.bool (decide_eq_true (hw.2 ⟨s.toNat, by rw [Int.toNat_of_nonneg hs1]; exact hsm, of_decide_eq_true hd⟩)).symm⟩
        | false =>
          rw [hd] at hb
          conv => whnf
          repeat' first | ((refine Gets.ldRIv rfl hsi ?_); conv => whnf) | ((refine Gets.mulE e2 (by omega) (by omega) ?_); conv => whnf) | ((refine Gets.ldRBv rfl hb ?_); conv => whnf) | ((with_reducible refine Gets.addI ?_ ?_ ?_); (· omega); (· omega); conv => whnf) | (refine Gets.ixR1 rfl rfl (by omega) ?_; conv => whnf) | (refine Fork.dec (fun _ => ?_) (fun _ => ?_) <;> first | (exfalso; omega) | (conv => whnf))
          refine ⟨i + 1, renL [] 0, ⟨hil, ?_⟩, by show a.start.length - (i + 1) < _; omega, ⟨rfl, rfl, rfl, rfl, rfl, trivial⟩, EmbL.litsN [] rfl rfl rfl rfl .nil .nil⟩
          intro i' hi' s' hs'
          rcases Nat.lt_or_ge i' i with h | h
          · exact hno i' h s' hs'
          · obtain rfl : i' = i := by omega
            rw [hsi] at hs'; cases hs'; exact hb
      · obtain rfl : i = a.start.length := by omega
        conv => whnf
        repeat' (refine Fork.dec (fun _ => ?_) (fun _ => ?_) <;> first | (exfalso; omega) | (conv => whnf))
        refine ⟨[], _, rfl, .same rfl, rfl, congrArg AVal.bool (decide_eq_false fun h => ?_).symm⟩
        obtain ⟨s, hs3, hs4⟩ := hw.1 h
        obtain ⟨i, hi2⟩ := List.getElem?_of_mem hs3
        have hi3 := (List.getElem?_eq_some_iff.1 hi2).1
        obtain ⟨hs1, hs2⟩ := hst _ hs3
        have hx : s * w.n < a.states.toNat * w.n := by
          have := node_lt (n := w.n) (k := 0) (show s < a.states.toNat by omega) (by omega)
          rwa [Nat.add_zero] at this
        have h5 := hno i hi3 _ hi2
        rw [Int.toNat_natCast, hget _ hx, decide_eq_true hs4] at h5
        cases h5
    · conv => whnf
      repeat' first | ((refine Gets.mulE e1 (by omega) (by omega) ?_); conv => whnf) | (refine Gets.of _ rfl ?_; conv => whnf) | (refine Fork.dec (fun _ => ?_) (fun _ => ?_) <;> first | (exfalso; omega) | (conv => whnf))
      refine CallS.of (by kernel_rfl) ((hg _).argsF [2] rfl (.keep (.frz (show Frz _ _ (AVal.slice 2 0 (x :: acc).length) (rA (x :: acc)) from frzK recA (l := x :: acc) rfl rfl rfl) (.keep (.keep .nil))))) rfl ?_
      rintro _ _ ⟨rfl, rfl⟩
      conv => whnf
      repeat' (refine Gets.of _ rfl ?_; conv => whnf)
      refine CodeS.loopGK (cuts := []) (σ := Nat) (fun i => [(5, .int .i64 (w.n : Int)), (10, rB G), (64, rI a.start), (65, .int .i64 (a.start.length : Int)), (66, .int .i64 (i : Int))]) (fun _ => emptyH) (fun i => i ≤ a.start.length ∧ ∀ i', i' < i → ∀ s, a.start[i']? = some s → G[s.toNat * w.n]? = some false) (fun i => a.start.length - i) 0 (renL [] 3) (by kernel_rfl) ⟨Nat.zero_le _, fun i' h => absurd h (Nat.not_lt_zero _)⟩ ⟨rfl, rfl, rfl, rfl, rfl, trivial⟩ (EmbL.litsN [] rfl rfl rfl rfl .nil .nil) ?_
      rintro i ⟨hi, hno⟩
      rcases Nat.lt_or_ge i a.start.length with hil | hil
      · obtain ⟨s, hsi⟩ := getE hil
        have hsm := List.mem_of_getElem? hsi
        obtain ⟨hs1, hs2⟩ := hst s hsm
        have hx : s.toNat * w.n < a.states.toNat * w.n := by
          have := node_lt (n := w.n) (k := 0) (show s.toNat < a.states.toNat by omega) (by omega)
          rwa [Nat.add_zero] at this
        have e2 : s * (w.n : Int) = ((s.toNat * w.n : Nat) : Int) := by rw [Int.natCast_mul, Int.toNat_of_nonneg hs1]
        have hb := hget _ hx
        cases hd : decide (LiveP _ _ (s.toNat * w.n)) with
        | true =>
          rw [hd] at hb
          conv => whnf
          repeat' first | ((refine Gets.ldRIv rfl hsi ?_); conv => whnf) | ((refine Gets.mulE e2 (by omega) (by omega) ?_); conv => whnf) | ((refine Gets.ldRBv rfl hb ?_); conv => whnf) | (refine Gets.ixR1 rfl rfl (by omega) ?_; conv => whnf) | (refine Fork.dec (fun _ => ?_) (fun _ => ?_) <;> first | (exfalso; omega) | (conv => whnf))
          exact ⟨[], _, rfl, .same rfl, rfl, congrArg AVal.bool (decide_eq_true (hw.2 ⟨s.toNat, by rw [Int.toNat_of_nonneg hs1]; exact hsm, of_decide_eq_true hd⟩)).symm⟩
        | false =>
          rw [hd] at hb
          conv => whnf
          repeat' first | ((refine Gets.ldRIv rfl hsi ?_); conv => whnf) | ((refine Gets.mulE e2 (by omega) (by omega) ?_); conv => whnf) | ((refine Gets.ldRBv rfl hb ?_); conv => whnf) | ((with_reducible refine Gets.addI ?_ ?_ ?_); (· omega); (· omega); conv => whnf) | (refine Gets.ixR1 rfl rfl (by omega) ?_; conv => whnf) | (refine Fork.dec (fun _ => ?_) (fun _ => ?_) <;> first | (exfalso; omega) | (conv => whnf))
          refine ⟨i + 1, renL [] 0, ⟨hil, ?_⟩, by show a.start.length - (i + 1) < _; omega, ⟨rfl, rfl, rfl, rfl, rfl, trivial⟩, EmbL.litsN [] rfl rfl rfl rfl .nil .nil⟩
          intro i' hi' s' hs'
          rcases Nat.lt_or_ge i' i with h | h
          · exact hno i' h s' hs'
          · obtain rfl : i' = i := by omega
            rw [hsi] at hs'; cases hs'; exact hb
      · obtain rfl : i = a.start.length := by omega
        conv => whnf
        repeat' (refine Fork.dec (fun _ => ?_) (fun _ => ?_) <;> first | (exfalso; omega) | (conv => whnf))
        refine ⟨[], _, rfl, .same rfl, rfl, congrArg AVal.bool (decide_eq_false fun h => ?_).symm⟩
        obtain ⟨s, hs3, hs4⟩ := hw.1 h
        obtain ⟨i, hi2⟩ := List.getElem?_of_mem hs3
        have hi3 := (List.getElem?_eq_some_iff.1 hi2).1
        obtain ⟨hs1, hs2⟩ := hst _ hs3
        have hx : s * w.n < a.states.toNat * w.n := by
          have := node_lt (n := w.n) (k := 0) (show s < a.states.toNat by omega) (by omega)
          rwa [Nat.add_zero] at this
        have h5 := hno i hi3 _ hi2
        rw [Int.toNat_natCast, hget _ hx, decide_eq_true hs4] at h5
        cases h5
end Go.Proofs.Ytaccmanpanpbiaa
