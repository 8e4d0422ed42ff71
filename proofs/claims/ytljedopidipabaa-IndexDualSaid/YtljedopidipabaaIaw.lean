/- The example check of the laws: the functions on one small automaton each, carried out. -/
import Derived.Test.YtljedopidipabaaProg
import Derived.Test.YtljedopidipabaaVmG
set_option linter.unusedVariables false
set_option maxRecDepth 100000
namespace Go.Proofs.Ytljedopidipabaa
open Go Go.Vh Go.Vk Go.Proofs
theorem mixedW : Try.prog.follows .mixedOrders = true := by kernel_rfl
def zi (n : Int) : AVal := .int .i64 n
def zI (l : List Int) : AVal := .row l.length (l.map zi)
def tA (kind marks : Int) (es : List Int) (n : Nat) : AVal := .agg [zi 1, zi 1, zI [0], zi kind, zi marks, .row n (es.map zi)]
def ok1 (v : AVal) : AVal := .tuple [v, zi 0]
def tA0 : AVal := tA 0 1 [0, 0, 1, 1, 1, 0, 0, 1, 0, 0] 2
def tD : AVal := tA 2 1 [0, 0, 1, 1, 1, 0, 0, 1, 0, 0] 2
def tP : AVal := tA 5 3 [0, 0, 1, 1, 4, 0, 0, 1, 0, 2] 2
def tC : AVal := tA 5 4 [0, 0, 1, 1, 9, 0, 0, 1, 0, 5] 2
abbrev KN := Known Try.prog
def t1 : Tab := [(34, [tA0], ok1 tA0), (38, [tA0], ok1 tA0)]
def t2 : Tab := [(22, [tA0], ok1 tP), (23, [tP], ok1 tP)]
def t3 : Tab := [(12, [], tA0), (6, [tA0], ok1 tD), (13, [tA0], ok1 tC), (11, [tC], .bool true), (14, [tC, .agg [zI [], zI [0, 1]]], .bool false), (14, [tC, .agg [zI [1], zI [0]]], .bool true)]
theorem no_tab : ∀ p ∈ ([] : Tab), KN p := fun _ h => nomatch h
theorem k1 : KN (12, [], tA0) := known_run mixedW no_tab (by kernel_rfl)
theorem k2 : KN (6, [tA0], ok1 tD) := known_run mixedW no_tab (by kernel_rfl)
theorem k3 : KN (34, [tA0], ok1 tA0) := known_run mixedW no_tab (by kernel_rfl)
theorem k4 : KN (38, [tA0], ok1 tA0) := known_run mixedW no_tab (by kernel_rfl)
theorem t1_ok : ∀ p ∈ t1, KN p := by
  intro p hp
  simp only [t1, List.mem_cons, List.not_mem_nil, or_false] at hp
  rcases hp with rfl | rfl
  · exact k3
  · exact k4
theorem k5 : KN (22, [tA0], ok1 tP) := known_run mixedW t1_ok (by kernel_rfl)
theorem k6 : KN (23, [tP], ok1 tP) := known_run mixedW no_tab (by kernel_rfl)
theorem t2_ok : ∀ p ∈ t2, KN p := by
  intro p hp
  simp only [t2, List.mem_cons, List.not_mem_nil, or_false] at hp
  rcases hp with rfl | rfl
  · exact k5
  · exact k6
theorem k7 : KN (13, [tA0], ok1 tC) := known_run mixedW t2_ok (by kernel_rfl)
theorem k8 : KN (11, [tC], .bool true) := known_run mixedW no_tab (by kernel_rfl)
theorem k9 : KN (14, [tC, .agg [zI [], zI [0, 1]]], .bool false) := known_run mixedW no_tab (by kernel_rfl)
theorem k10 : KN (14, [tC, .agg [zI [1], zI [0]]], .bool true) := known_run mixedW no_tab (by kernel_rfl)
theorem t3_ok : ∀ p ∈ t3, KN p := by
  intro p hp
  simp only [t3, List.mem_cons, List.not_mem_nil, or_false] at hp
  rcases hp with rfl | rfl | rfl | rfl | rfl | rfl
  · exact k1
  · exact k2
  · exact k7
  · exact k8
  · exact k9
  · exact k10
theorem awakeK : KN (5, [], .bool true) := known_run mixedW t3_ok (by kernel_rfl)
theorem awake (H : AHeap) : CallW Try.prog 5 [] H fun v H' => H' = H ∧ v = .bool true := awakeK.2.2 H
end Go.Proofs.Ytljedopidipabaa
