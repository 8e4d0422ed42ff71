/- The example check of the laws: the functions on one small automaton each, carried out. -/
import Derived.Test.YtaccmanpanpbiaaProg
import Derived.Test.YtaccmanpanpbiaaVmG
import Derived.Test.YtaccmanpanpbiaaJn
set_option linter.unusedVariables false
set_option maxRecDepth 100000
namespace Go.Proofs.Ytaccmanpanpbiaa
open Go Go.Vh Go.Vk Go.Proofs
theorem mixedW : Try.prog.follows .mixedOrders = true := by kernel_rfl
def zi (n : Int) : AVal := .int .i64 n
def zI (l : List Int) : AVal := .row l.length (l.map zi)
def tA (kind marks : Int) (es : List Int) (n : Nat) : AVal := .agg [zi 1, zi 1, zI [0], zi kind, zi marks, .row n (es.map zi)]
def ok1 (v : AVal) : AVal := .tuple [v, zi 0]
def tA0 : AVal := tA 0 1 [0, 0, 1, 1, 1, 0, 0, 1, 0, 0] 2
def tD : AVal := tA 2 1 [0, 0, 1, 1, 1, 0, 0, 1, 0, 0] 2
def tP : AVal := tA 5 3 [0, 0, 1, 1, 4, 0, 0, 1, 0, 2] 2
def tC : AVal := tA 5 4 [0, 0, 1, 1, 9, 0, 0, 1, 0, 5] 2
abbrev KN := Known Try.prog
def t1 : Tab := [(38, [tA0], ok1 tA0), (132, [tA0], ok1 tA0)]
def t2 : Tab := [(61, [tA0], ok1 tP), (67, [tP], ok1 tP)]
def t3 : Tab := [(127, [], tA0), (69, [tA0], ok1 tD), (62, [tA0], ok1 tC), (18, [tC], .bool true), (23, [tC, .agg [zI [], zI [0, 1]]], .bool false), (23, [tC, .agg [zI [1], zI [0]]], .bool true)]
theorem no_tab : ∀ p ∈ ([] : Tab), KN p := fun _ h => nomatch h
theorem k1 : KN (127, [], tA0) := known_run mixedW no_tab (by kernel_rfl)
theorem k2 : KN (69, [tA0], ok1 tD) := known_run mixedW no_tab (by kernel_rfl)
theorem k3 : KN (38, [tA0], ok1 tA0) := known_run mixedW no_tab (by kernel_rfl)
theorem k4 : KN (132, [tA0], ok1 tA0) := known_run mixedW no_tab (by kernel_rfl)
theorem t1_ok : ∀ p ∈ t1, KN p := by
  intro p hp
  simp only [t1, List.mem_cons, List.not_mem_nil, or_false] at hp
  rcases hp with rfl | rfl
  · exact k3
  · exact k4
theorem k5 : KN (61, [tA0], ok1 tP) := known_run mixedW t1_ok (by kernel_rfl)
theorem k6 : KN (67, [tP], ok1 tP) := known_run mixedW no_tab (by kernel_rfl)
theorem t2_ok : ∀ p ∈ t2, KN p := by
  intro p hp
  simp only [t2, List.mem_cons, List.not_mem_nil, or_false] at hp
  rcases hp with rfl | rfl
  · exact k5
  · exact k6
theorem k7 : KN (62, [tA0], ok1 tC) := known_run mixedW t2_ok (by kernel_rfl)
theorem k8 : KN (18, [tC], .bool true) := known_run mixedW no_tab (by kernel_rfl)
theorem k9 : KN (23, [tC, .agg [zI [], zI [0, 1]]], .bool false) := known_run mixedW no_tab (by kernel_rfl)
theorem k10 : KN (23, [tC, .agg [zI [1], zI [0]]], .bool true) := known_run mixedW no_tab (by kernel_rfl)
theorem t3_ok : ∀ p ∈ t3, KN p := by
  intro p hp
  simp only [t3, List.mem_cons, List.not_mem_nil, or_false] at hp
  rcases hp with rfl | rfl | rfl | rfl | rfl | rfl
  · exact k1
  · exact k2
  · exact k7
  · exact k8
  · exact k9
  · exact k10
theorem awakeK : KN (60, [], .bool true) := known_run mixedW t3_ok (by kernel_rfl)
theorem awake (H : AHeap) : CallW Try.prog 60 [] H fun v H' => H' = H ∧ v = .bool true := awakeK.2.2 H
end Go.Proofs.Ytaccmanpanpbiaa

/- IndexOther: the law. -/
-- VkG VkH VmA
set_option linter.unusedVariables false
set_option linter.unusedSimpArgs false
set_option maxRecDepth 100000
set_option maxHeartbeats 4000000
namespace Go.Proofs.Ytaccmanpanpbiaa
open Go Go.Vh Go.Vk Go.Vn Go.Proofs
open Classical
theorem few11R (a : Au) (hf : a.Fits) (w : Wd) (hw : w.Fits) (H : AHeap) : CallW Try.prog 59 [a.rv, w.rv] H fun v H' => H' = H ∧ IsB v (a.Few 6 30 6 ∧ w.stem.length + w.loop.length ≤ 16) := by
  refine CallW.pure ?_ rfl H
  refine CallW.symK (cuts := []) Try.func59 rfl (by kernel_rfl) ?_
  conv => whnf
  repeat' (refine Gets.of _ rfl ?_; conv => whnf)
  refine CallS.of (by kernel_rfl) ((fewA [a] (oneF hf) (by simp) 6 30 6 (by decide) (by decide) _).argsF [2] rfl (.keep (.keep (.keep (.frz (.slice (es := 6) (cs := acells [a]) rfl rfl (Nat.le_refl 6) (.same rfl)) .nil))))) rfl ?_
  rintro _ _ ⟨rfl, hq | hq⟩
  all_goals conv => whnf
  all_goals
    repeat' (refine Gets.of _ rfl ?_; conv => whnf)
  · refine CallS.of (by kernel_rfl) ((fewR [w] (oneW hw) (by simp) 16 _).argsF [3] rfl (.keep (.frz (.slice (es := 2) (cs := wcells [w]) rfl rfl (Nat.le_refl 2) (.same rfl)) .nil))) rfl ?_
    rintro _ _ ⟨rfl, hr | hr⟩
    all_goals conv => whnf
    all_goals
      skip
    · exact ⟨[], _, rfl, .same rfl, rfl, .t ⟨hq a (List.mem_singleton.2 rfl), by have := hr w (List.mem_singleton.2 rfl); omega⟩⟩
    · exact ⟨[], _, rfl, .same rfl, rfl, .f fun h => hr fun x hx => by rw [List.mem_singleton.1 hx]; omega⟩
  · exact ⟨[], _, rfl, .same rfl, rfl, .f fun h => hq fun x hx => by rw [List.mem_singleton.1 hx]; exact h.1⟩
theorem law15 (a : Au) (hf : a.Fits) (w : Wd) (hw : w.Fits) : CallW Try.prog 15 [a.rv, w.rv] emptyH fun r _ => r = .bool true := by
  refine CallW.symK (cuts := []) Try.func15 rfl (by kernel_rfl) ?_
  conv => whnf
  repeat' (refine Gets.of _ rfl ?_; conv => whnf)
  refine CallS.of (by kernel_rfl) (few11R a hf w hw _) rfl ?_
  rintro _ _ ⟨rfl, hq | hq⟩
  rotate_left
  · conv => whnf
    skip
    refine CallS.of (by kernel_rfl) (awake _) rfl ?_
    rintro _ _ ⟨rfl, rfl⟩
    conv => whnf
    skip
  conv => whnf
  repeat' (refine Gets.of _ rfl ?_; conv => whnf)
  refine CallS.of (by kernel_rfl) (validAr a hf _) rfl ?_
  rintro _ _ ⟨rfl, hk | hk⟩
  rotate_left
  · conv => whnf
    skip
    refine CallS.of (by kernel_rfl) (awake _) rfl ?_
    rintro _ _ ⟨rfl, rfl⟩
    conv => whnf
    skip
  conv => whnf
  repeat' (refine Gets.of _ rfl ?_; conv => whnf)
  refine CallS.of (by kernel_rfl) (oneR a hk _) rfl ?_
  rintro _ _ ⟨rfl, h1 | h1⟩
  rotate_left
  · conv => whnf
    skip
    refine CallS.of (by kernel_rfl) (awake _) rfl ?_
    rintro _ _ ⟨rfl, rfl⟩
    conv => whnf
    skip
  conv => whnf
  repeat' (refine Gets.of _ rfl ?_; conv => whnf)
  refine CallS.of (by kernel_rfl) (whR a hk _) rfl ?_
  rintro _ _ ⟨rfl, h2 | h2⟩
  rotate_left
  · conv => whnf
    skip
    refine CallS.of (by kernel_rfl) (awake _) rfl ?_
    rintro _ _ ⟨rfl, rfl⟩
    conv => whnf
    skip
  conv => whnf
  repeat' (refine Gets.of _ rfl ?_; conv => whnf)
  refine CallS.of (by kernel_rfl) (validRr w hw a.props _) rfl ?_
  rintro _ _ ⟨rfl, hv | hv⟩
  rotate_left
  · conv => whnf
    skip
    refine CallS.of (by kernel_rfl) (awake _) rfl ?_
    rintro _ _ ⟨rfl, rfl⟩
    conv => whnf
    skip
  obtain ⟨b, hb, ⟨hbk, hbf⟩, hot⟩ := dual_other hf hk (hq.1.2.2 hk).2 h1 h2
  have c1 := fun H => dualR a hf H
  rw [hb] at c1
  dsimp only at c1
  have hm := hv.m
  have c2 := fun H => isL a a hk (.refl hk) w (wo_fits hv) (by omega) H
  have c3 := fun H => isL b b hbk (.refl hbk) w (wo_fits hv) (by omega) H
  have c4 := validAr b hbf
  have hot := hot w hv
  have hne : decide (HasW b w.wo) = !decide (HasW a w.wo) := by
    by_cases h : HasW a w.wo
    · rw [decide_eq_true h, decide_eq_false (fun hb => hot.1 hb h)]; rfl
    · rw [decide_eq_false h, decide_eq_true (hot.2 h)]; rfl
  rw [hne] at c3
  generalize decide (HasW a w.wo) = x at c2 c3
  conv => whnf
  repeat' (refine Gets.of _ rfl ?_; conv => whnf)
  refine CallS.of (by kernel_rfl) (c1 _) rfl ?_
  rintro _ _ ⟨rfl, rfl⟩
  conv => whnf
  repeat' ((refine Gets.stA rfl rfl rfl rfl (by rfl) ?_); conv => whnf)
  refine CodeS.drawP (by kernel_rfl) (by kernel_rfl) ?_
  conv => whnf
  repeat' first | (refine Gets.of _ rfl ?_; conv => whnf) | (refine Fork.yesR rfl ?_; conv => whnf)
  have c4 : ∀ H, CallW Try.prog 18 [b.rv] H fun v H' => H' = H ∧ v = .bool true := fun H => (c4 H).mono fun v H' h => ⟨h.1, by
    obtain ⟨_, h | h⟩ := h
    · rfl
    · exact absurd hbk h⟩
  refine CallV.of (by kernel_rfl) (c4 _) rfl ?_
  conv => whnf
  repeat' (refine Gets.of _ rfl ?_; conv => whnf)
  refine CallV.of (by kernel_rfl) (c2 _) rfl ?_
  conv => whnf
  repeat' (refine Gets.of _ rfl ?_; conv => whnf)
  refine CallV.of (by kernel_rfl) (c3 _) rfl ?_
  cases x
  all_goals
    conv => whnf
    repeat' (refine Fork.yesR rfl ?_; conv => whnf)
  all_goals
    refine CallV.of (by kernel_rfl) (awake _) rfl ?_
    conv => whnf
    skip
  all_goals rfl
end Go.Proofs.Ytaccmanpanpbiaa

/- IndexOther: the law over arguments of every shape. -/
-- VkG VkH VmA
set_option linter.unusedVariables false
set_option linter.unusedSimpArgs false
set_option maxRecDepth 100000
set_option maxHeartbeats 4000000
namespace Go.Proofs.Ytaccmanpanpbiaa
open Go Go.Vh Go.Vk Go.Proofs
theorem rshape_int {n : Nat} {avs : List AVal} (h : RShape Try.prog n 3 avs) : ∃ m, avs = [.int .i64 m] ∧ argOf Try.prog 3 avs = .int .i64 m ∧ -9223372036854775808 ≤ m ∧ m ≤ 9223372036854775807 := by
  obtain ⟨m, rfl, hm⟩ := h.int Try.underlying3
  exact ⟨m, rfl, by unfold argOf; rw [Try.underlying3]; rfl, hm⟩
theorem rshape_ints {n : Nat} {avs : List AVal} (h : RShape Try.prog n 22 avs) : ∃ l, avs = [rI l] ∧ (∀ x ∈ l, -9223372036854775808 ≤ x ∧ x ≤ 9223372036854775807) ∧ l.length ≤ 1152921504606846976 := h.ints Try.underlying22 Try.underlying3 (by kernel_rfl) (by kernel_rfl)
theorem rshape_aut {n : Nat} {avs : List AVal} (h : RShape Try.prog n 25 avs) : ∃ a : Au, argOf Try.prog 25 avs = a.rv ∧ a.Fits := by
  have e0 : argOf Try.prog 25 avs = .agg avs := by unfold argOf; rw [Try.underlying25]
  rw [e0]
  cases n with
  | zero => exact h.elim
  | succ n =>
    unfold RShape at h
    rw [Try.underlying25] at h
    obtain ⟨hl, hf⟩ := h
    have hc : Try.prog.cellsOf 25 = 6 := by kernel_rfl
    have c22 : Try.prog.cellsOf 22 = 1 := by kernel_rfl
    have c23 : Try.prog.cellsOf 23 = 1 := by kernel_rfl
    have c3 : Try.prog.cellsOf 3 = 1 := by kernel_rfl
    rw [hc] at hl
    rcases avs with _ | ⟨x0, _ | ⟨x1, _ | ⟨x2, _ | ⟨x3, _ | ⟨x4, _ | ⟨x5, _ | ⟨x6, avs⟩⟩⟩⟩⟩⟩⟩
    case cons.cons.cons.cons.cons.cons.nil =>
      have g0 : RShape Try.prog n 3 ((([x0, x1, x2, x3, x4, x5] : List AVal).drop 0).take (Try.prog.cellsOf 3)) := hf 0 _ rfl
      have g1 : RShape Try.prog n 3 ((([x0, x1, x2, x3, x4, x5] : List AVal).drop 1).take (Try.prog.cellsOf 3)) := hf 1 _ rfl
      have g2 : RShape Try.prog n 22 ((([x0, x1, x2, x3, x4, x5] : List AVal).drop 2).take (Try.prog.cellsOf 22)) := hf 2 _ rfl
      have g3 : RShape Try.prog n 3 ((([x0, x1, x2, x3, x4, x5] : List AVal).drop 3).take (Try.prog.cellsOf 3)) := hf 3 _ rfl
      have g4 : RShape Try.prog n 3 ((([x0, x1, x2, x3, x4, x5] : List AVal).drop 4).take (Try.prog.cellsOf 3)) := hf 4 _ rfl
      have g5 : RShape Try.prog n 23 ((([x0, x1, x2, x3, x4, x5] : List AVal).drop 5).take (Try.prog.cellsOf 23)) := hf 5 _ rfl
      rw [c3] at g0 g1 g3 g4
      rw [c22] at g2
      rw [c23] at g5
      obtain ⟨p, e0, _⟩ := rshape_int g0
      obtain ⟨s, e1, _⟩ := rshape_int g1
      obtain ⟨l, e2, _, b2⟩ := rshape_ints g2
      obtain ⟨k, e3, _⟩ := rshape_int g3
      obtain ⟨m, e4, _⟩ := rshape_int g4
      obtain ⟨es, e5, b5, c5⟩ := g5.edges Try.underlying23 (by kernel_rfl) (by kernel_rfl) (by kernel_rfl)
      cases e0; cases e1; cases e2; cases e3; cases e4; cases e5
      exact ⟨⟨p, s, l, k, m, es⟩, rfl, ⟨Nat.le_trans b2 (by decide), c5, b5⟩⟩
    all_goals (simp only [List.length_cons, List.length_nil] at hl; omega)
theorem rshape_word {n : Nat} {avs : List AVal} (h : RShape Try.prog n 27 avs) : ∃ w : Wd, argOf Try.prog 27 avs = w.rv ∧ w.Fits := by
  have e0 : argOf Try.prog 27 avs = .agg avs := by unfold argOf; rw [Try.underlying27]
  rw [e0]
  cases n with
  | zero => exact h.elim
  | succ n =>
    unfold RShape at h
    rw [Try.underlying27] at h
    obtain ⟨hl, hf⟩ := h
    have hc : Try.prog.cellsOf 27 = 2 := by kernel_rfl
    have c22 : Try.prog.cellsOf 22 = 1 := by kernel_rfl
    rw [hc] at hl
    rcases avs with _ | ⟨x0, _ | ⟨x1, _ | ⟨x2, avs⟩⟩⟩
    case cons.cons.nil =>
      have g0 : RShape Try.prog n 22 ((([x0, x1] : List AVal).drop 0).take (Try.prog.cellsOf 22)) := hf 0 _ rfl
      have g1 : RShape Try.prog n 22 ((([x0, x1] : List AVal).drop 1).take (Try.prog.cellsOf 22)) := hf 1 _ rfl
      rw [c22] at g0 g1
      obtain ⟨stem, e1, _, b1⟩ := rshape_ints g0
      obtain ⟨loop, e2, _, b2⟩ := rshape_ints g1
      cases e1; cases e2
      exact ⟨⟨stem, loop⟩, rfl, ⟨b1, b2⟩⟩
    all_goals (simp only [List.length_cons, List.length_nil] at hl; omega)
theorem law15r : ∀ a1 a2, RShape Try.prog 4 25 a1 → RShape Try.prog 4 27 a2 → CallW Try.prog 15 [argOf Try.prog 25 a1, argOf Try.prog 27 a2] emptyH fun r _ => r = .bool true := by
  intro a1 a2 h1 h2
  obtain ⟨a, e1, hf⟩ := rshape_aut h1
  obtain ⟨w, e2, hw⟩ := rshape_word h2
  rw [e1, e2]
  exact law15 a hf w hw
end Go.Proofs.Ytaccmanpanpbiaa
