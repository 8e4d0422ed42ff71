/- ProdFree: the law over arguments of every shape. -/
import Derived.Test.YtbbpjgeehafkfaaPla
import Derived.Test.YtbbpjgeehafkfaaAwa
-- VkG VkH VmA
set_option linter.unusedVariables false
set_option linter.unusedSimpArgs false
set_option maxRecDepth 100000
set_option maxHeartbeats 4000000
namespace Go.Proofs.Ytbbpjgeehafkfaa
open Go Go.Vh Go.Vk Go.Proofs
theorem rshape_int {n : Nat} {avs : List AVal} (h : RShape Try.prog n 3 avs) : ∃ m, avs = [.int .i64 m] ∧ argOf Try.prog 3 avs = .int .i64 m ∧ -9223372036854775808 ≤ m ∧ m ≤ 9223372036854775807 := by
  obtain ⟨m, rfl, hm⟩ := h.int Try.underlying3
  exact ⟨m, rfl, by unfold argOf; rw [Try.underlying3]; rfl, hm⟩
theorem rshape_ints {n : Nat} {avs : List AVal} (h : RShape Try.prog n 22 avs) : ∃ l, avs = [rI l] ∧ (∀ x ∈ l, -9223372036854775808 ≤ x ∧ x ≤ 9223372036854775807) ∧ l.length ≤ 1152921504606846976 := h.ints Try.underlying22 Try.underlying3 (by kernel_rfl) (by kernel_rfl)
theorem rshape_aut {n : Nat} {avs : List AVal} (h : RShape Try.prog n 25 avs) : ∃ a : Au, argOf Try.prog 25 avs = a.rv ∧ a.Fits := by
  have e0 : argOf Try.prog 25 avs = .agg avs := by unfold argOf; rw [Try.underlying25]
  rw [e0]
  cases n with
  | zero => exact h.elim
  | succ n =>
    unfold RShape at h
    rw [Try.underlying25] at h
    obtain ⟨hl, hf⟩ := h
    have hc : Try.prog.cellsOf 25 = 6 := by kernel_rfl
    have c22 : Try.prog.cellsOf 22 = 1 := by kernel_rfl
    have c23 : Try.prog.cellsOf 23 = 1 := by kernel_rfl
    have c3 : Try.prog.cellsOf 3 = 1 := by kernel_rfl
    rw [hc] at hl
    rcases avs with _ | ⟨x0, _ | ⟨x1, _ | ⟨x2, _ | ⟨x3, _ | ⟨x4, _ | ⟨x5, _ | ⟨x6, avs⟩⟩⟩⟩⟩⟩⟩
    case cons.cons.cons.cons.cons.cons.nil =>
      have g0 : RShape Try.prog n 3 ((([x0, x1, x2, x3, x4, x5] : List AVal).drop 0).take (Try.prog.cellsOf 3)) := hf 0 _ rfl
      have g1 : RShape Try.prog n 3 ((([x0, x1, x2, x3, x4, x5] : List AVal).drop 1).take (Try.prog.cellsOf 3)) := hf 1 _ rfl
      have g2 : RShape Try.prog n 22 ((([x0, x1, x2, x3, x4, x5] : List AVal).drop 2).take (Try.prog.cellsOf 22)) := hf 2 _ rfl
      have g3 : RShape Try.prog n 3 ((([x0, x1, x2, x3, x4, x5] : List AVal).drop 3).take (Try.prog.cellsOf 3)) := hf 3 _ rfl
      have g4 : RShape Try.prog n 3 ((([x0, x1, x2, x3, x4, x5] : List AVal).drop 4).take (Try.prog.cellsOf 3)) := hf 4 _ rfl
      have g5 : RShape Try.prog n 23 ((([x0, x1, x2, x3, x4, x5] : List AVal).drop 5).take (Try.prog.cellsOf 23)) := hf 5 _ rfl
      rw [c3] at g0 g1 g3 g4
      rw [c22] at g2
      rw [c23] at g5
      obtain ⟨p, e0, _⟩ := rshape_int g0
      obtain ⟨s, e1, _⟩ := rshape_int g1
      obtain ⟨l, e2, _, b2⟩ := rshape_ints g2
      obtain ⟨k, e3, _⟩ := rshape_int g3
      obtain ⟨m, e4, _⟩ := rshape_int g4
      obtain ⟨es, e5, b5, c5⟩ := g5.edges Try.underlying23 (by kernel_rfl) (by kernel_rfl) (by kernel_rfl)
      cases e0; cases e1; cases e2; cases e3; cases e4; cases e5
      exact ⟨⟨p, s, l, k, m, es⟩, rfl, ⟨Nat.le_trans b2 (by decide), c5, b5⟩⟩
    all_goals (simp only [List.length_cons, List.length_nil] at hl; omega)
theorem law3 : ∀ a1 a2 a3, RShape Try.prog 4 25 a1 → RShape Try.prog 4 3 a2 → RShape Try.prog 4 3 a3 → CallW Try.prog 3 [argOf Try.prog 25 a1, argOf Try.prog 3 a2, argOf Try.prog 3 a3] emptyH fun r _ => r = .bool true := by
  intro a1 a2 a3 h1 h2 h3
  obtain ⟨a, e1, hf⟩ := rshape_aut h1
  obtain ⟨i, _, e2, _⟩ := rshape_int h2
  obtain ⟨n, _, e3, _⟩ := rshape_int h3
  rw [e1, e2, e3]
  exact law3c awake8 a hf i n
end Go.Proofs.Ytbbpjgeehafkfaa
