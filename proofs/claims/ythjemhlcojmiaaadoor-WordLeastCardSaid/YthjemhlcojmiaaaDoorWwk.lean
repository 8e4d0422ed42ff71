/- The example check. -/
import Derived.Test.YthjemhlcojmiaaaDoorProg
import Derived.Test.YthjemhlcojmiaaaDoorVhZc
set_option linter.unusedVariables false
set_option maxRecDepth 100000
namespace Go.Proofs.YthjemhlcojmiaaaDoor
open Go Go.Vh Go.Proofs
theorem mixed : Tryd.prog.follows .mixedOrders = true := by kernel_rfl
theorem awake9 (H : AHeap) : CallW Tryd.prog 9 [] H fun v H' => H' = H ∧ v = .bool true :=
  CallW.of_run2 mixed 30 (by kernel_rfl) rfl rfl H
end Go.Proofs.YthjemhlcojmiaaaDoor
