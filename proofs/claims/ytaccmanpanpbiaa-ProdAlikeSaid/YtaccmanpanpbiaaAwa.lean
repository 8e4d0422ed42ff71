/- The example check of the laws: the functions on one small automaton each, carried out. -/
import Derived.Test.YtaccmanpanpbiaaProg
import Derived.Test.YtaccmanpanpbiaaVmG
set_option linter.unusedVariables false
set_option maxRecDepth 100000
namespace Go.Proofs.Ytaccmanpanpbiaa
open Go Go.Vh Go.Vk Go.Proofs
theorem mixedW : Try.prog.follows .mixedOrders = true := by kernel_rfl
def zi (n : Int) : AVal := .int .i64 n
def zI (l : List Int) : AVal := .row l.length (l.map zi)
def tA (kind marks : Int) (es : List Int) (n : Nat) : AVal := .agg [zi 1, zi 1, zI [0], zi kind, zi marks, .row n (es.map zi)]
def tA1 : AVal := tA 0 1 [0, 0, 1, 1, 1, 0, 0, 1, 0, 0] 2
def tA0 : AVal := tA 0 1 [0, 0, 1, 0, 1, 0, 0, 1, 1, 0] 2
def tM : AVal := tA 1 2 [0, 0, 1, 1, 1, 0, 0, 1, 0, 2] 2
def tab1 : Tab := [(71, [zi 1], tA1), (71, [zi 0], tA0), (28, [tA1, tA0], .tuple [tM, zi 0]), (18, [tM], .bool true), (23, [tM, .agg [zI [], zI [0, 1]]], .bool true), (23, [tM, .agg [zI [], zI [1]]], .bool false)]
theorem kn1 : Known Try.prog (71, [zi 1], tA1) := known_run mixedW (tab := []) (fun _ h => nomatch h) (by kernel_rfl)
theorem kn2 : Known Try.prog (71, [zi 0], tA0) := known_run mixedW (tab := []) (fun _ h => nomatch h) (by kernel_rfl)
theorem kn3 : Known Try.prog (28, [tA1, tA0], .tuple [tM, zi 0]) := known_run mixedW (tab := []) (fun _ h => nomatch h) (by kernel_rfl)
theorem kn4 : Known Try.prog (18, [tM], .bool true) := known_run mixedW (tab := []) (fun _ h => nomatch h) (by kernel_rfl)
theorem kn5 : Known Try.prog (23, [tM, .agg [zI [], zI [0, 1]]], .bool true) := known_run mixedW (tab := []) (fun _ h => nomatch h) (by kernel_rfl)
theorem kn6 : Known Try.prog (23, [tM, .agg [zI [], zI [1]]], .bool false) := known_run mixedW (tab := []) (fun _ h => nomatch h) (by kernel_rfl)
theorem tab1_ok : ∀ p ∈ tab1, Known Try.prog p := by
  intro p hp
  simp only [tab1, List.mem_cons, List.not_mem_nil, or_false] at hp
  rcases hp with rfl | rfl | rfl | rfl | rfl | rfl
  · exact kn1
  · exact kn2
  · exact kn3
  · exact kn4
  · exact kn5
  · exact kn6
theorem awake8k : Known Try.prog (19, [], .bool true) := known_run mixedW tab1_ok (by kernel_rfl)
theorem awake8 (H : AHeap) : CallW Try.prog 19 [] H fun v H' => H' = H ∧ v = .bool true := awake8k.2.2 H
end Go.Proofs.Ytaccmanpanpbiaa
