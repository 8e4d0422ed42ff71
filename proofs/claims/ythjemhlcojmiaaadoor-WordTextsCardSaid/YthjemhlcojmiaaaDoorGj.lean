/- Numbers written in decimal. -/
import Derived.Test.YthjemhlcojmiaaaDoorGi
-- VkG VkH VmA
set_option linter.unusedVariables false
set_option linter.unusedSimpArgs false
set_option maxRecDepth 100000
set_option maxHeartbeats 4000000
namespace Go.Proofs.YthjemhlcojmiaaaDoor
open Go Go.Vh Go.Vk Go.Proofs
/-- The digits of a number below 100. -/
def dig (x : Nat) : List Nat := if x < 10 then [48 + x] else [48 + x / 10, 48 + x % 10]
/-- Bytes as a text. -/
def txt (l : List Nat) : ByteArray := ⟨(l.map UInt8.ofNat).toArray⟩
theorem digits0 (H : AHeap) : CallW Tryd.prog 42 [.int .i64 0] H fun v H' => H' = H ∧ v = .str (txt (dig 0)) := (CallW.of_run mixed 30 (by kernel_rfl) rfl rfl H)
theorem small0 (H : AHeap) : CallW Tryd.prog 65 [.int .i64 0] H fun v H' => H' = H ∧ v = .str (txt (dig 0)) := (CallW.of_run mixed 30 (by kernel_rfl) rfl rfl H)
theorem digits1 (H : AHeap) : CallW Tryd.prog 42 [.int .i64 1] H fun v H' => H' = H ∧ v = .str (txt (dig 1)) := (CallW.of_run mixed 30 (by kernel_rfl) rfl rfl H)
theorem small1 (H : AHeap) : CallW Tryd.prog 65 [.int .i64 1] H fun v H' => H' = H ∧ v = .str (txt (dig 1)) := (CallW.of_run mixed 30 (by kernel_rfl) rfl rfl H)
theorem digits2 (H : AHeap) : CallW Tryd.prog 42 [.int .i64 2] H fun v H' => H' = H ∧ v = .str (txt (dig 2)) := (CallW.of_run mixed 30 (by kernel_rfl) rfl rfl H)
theorem small2 (H : AHeap) : CallW Tryd.prog 65 [.int .i64 2] H fun v H' => H' = H ∧ v = .str (txt (dig 2)) := (CallW.of_run mixed 30 (by kernel_rfl) rfl rfl H)
theorem digits3 (H : AHeap) : CallW Tryd.prog 42 [.int .i64 3] H fun v H' => H' = H ∧ v = .str (txt (dig 3)) := (CallW.of_run mixed 30 (by kernel_rfl) rfl rfl H)
theorem small3 (H : AHeap) : CallW Tryd.prog 65 [.int .i64 3] H fun v H' => H' = H ∧ v = .str (txt (dig 3)) := (CallW.of_run mixed 30 (by kernel_rfl) rfl rfl H)
theorem digits4 (H : AHeap) : CallW Tryd.prog 42 [.int .i64 4] H fun v H' => H' = H ∧ v = .str (txt (dig 4)) := (CallW.of_run mixed 30 (by kernel_rfl) rfl rfl H)
theorem small4 (H : AHeap) : CallW Tryd.prog 65 [.int .i64 4] H fun v H' => H' = H ∧ v = .str (txt (dig 4)) := (CallW.of_run mixed 30 (by kernel_rfl) rfl rfl H)
theorem digits5 (H : AHeap) : CallW Tryd.prog 42 [.int .i64 5] H fun v H' => H' = H ∧ v = .str (txt (dig 5)) := (CallW.of_run mixed 30 (by kernel_rfl) rfl rfl H)
theorem small5 (H : AHeap) : CallW Tryd.prog 65 [.int .i64 5] H fun v H' => H' = H ∧ v = .str (txt (dig 5)) := (CallW.of_run mixed 30 (by kernel_rfl) rfl rfl H)
theorem digits6 (H : AHeap) : CallW Tryd.prog 42 [.int .i64 6] H fun v H' => H' = H ∧ v = .str (txt (dig 6)) := (CallW.of_run mixed 30 (by kernel_rfl) rfl rfl H)
theorem small6 (H : AHeap) : CallW Tryd.prog 65 [.int .i64 6] H fun v H' => H' = H ∧ v = .str (txt (dig 6)) := (CallW.of_run mixed 30 (by kernel_rfl) rfl rfl H)
theorem digits7 (H : AHeap) : CallW Tryd.prog 42 [.int .i64 7] H fun v H' => H' = H ∧ v = .str (txt (dig 7)) := (CallW.of_run mixed 30 (by kernel_rfl) rfl rfl H)
theorem small7 (H : AHeap) : CallW Tryd.prog 65 [.int .i64 7] H fun v H' => H' = H ∧ v = .str (txt (dig 7)) := (CallW.of_run mixed 30 (by kernel_rfl) rfl rfl H)
theorem digits8 (H : AHeap) : CallW Tryd.prog 42 [.int .i64 8] H fun v H' => H' = H ∧ v = .str (txt (dig 8)) := (CallW.of_run mixed 30 (by kernel_rfl) rfl rfl H)
theorem small8 (H : AHeap) : CallW Tryd.prog 65 [.int .i64 8] H fun v H' => H' = H ∧ v = .str (txt (dig 8)) := (CallW.of_run mixed 30 (by kernel_rfl) rfl rfl H)
theorem digits9 (H : AHeap) : CallW Tryd.prog 42 [.int .i64 9] H fun v H' => H' = H ∧ v = .str (txt (dig 9)) := (CallW.of_run mixed 30 (by kernel_rfl) rfl rfl H)
theorem small9 (H : AHeap) : CallW Tryd.prog 65 [.int .i64 9] H fun v H' => H' = H ∧ v = .str (txt (dig 9)) := (CallW.of_run mixed 30 (by kernel_rfl) rfl rfl H)
theorem digits10 (H : AHeap) : CallW Tryd.prog 42 [.int .i64 10] H fun v H' => H' = H ∧ v = .str (txt (dig 10)) := (CallW.of_run mixed 30 (by kernel_rfl) rfl rfl H)
theorem small10 (H : AHeap) : CallW Tryd.prog 65 [.int .i64 10] H fun v H' => H' = H ∧ v = .str (txt (dig 10)) := (CallW.of_run mixed 30 (by kernel_rfl) rfl rfl H)
theorem digits11 (H : AHeap) : CallW Tryd.prog 42 [.int .i64 11] H fun v H' => H' = H ∧ v = .str (txt (dig 11)) := (CallW.of_run mixed 30 (by kernel_rfl) rfl rfl H)
theorem small11 (H : AHeap) : CallW Tryd.prog 65 [.int .i64 11] H fun v H' => H' = H ∧ v = .str (txt (dig 11)) := (CallW.of_run mixed 30 (by kernel_rfl) rfl rfl H)
theorem digits12 (H : AHeap) : CallW Tryd.prog 42 [.int .i64 12] H fun v H' => H' = H ∧ v = .str (txt (dig 12)) := (CallW.of_run mixed 30 (by kernel_rfl) rfl rfl H)
theorem small12 (H : AHeap) : CallW Tryd.prog 65 [.int .i64 12] H fun v H' => H' = H ∧ v = .str (txt (dig 12)) := (CallW.of_run mixed 30 (by kernel_rfl) rfl rfl H)
theorem digits13 (H : AHeap) : CallW Tryd.prog 42 [.int .i64 13] H fun v H' => H' = H ∧ v = .str (txt (dig 13)) := (CallW.of_run mixed 30 (by kernel_rfl) rfl rfl H)
theorem small13 (H : AHeap) : CallW Tryd.prog 65 [.int .i64 13] H fun v H' => H' = H ∧ v = .str (txt (dig 13)) := (CallW.of_run mixed 30 (by kernel_rfl) rfl rfl H)
theorem digits14 (H : AHeap) : CallW Tryd.prog 42 [.int .i64 14] H fun v H' => H' = H ∧ v = .str (txt (dig 14)) := (CallW.of_run mixed 30 (by kernel_rfl) rfl rfl H)
theorem small14 (H : AHeap) : CallW Tryd.prog 65 [.int .i64 14] H fun v H' => H' = H ∧ v = .str (txt (dig 14)) := (CallW.of_run mixed 30 (by kernel_rfl) rfl rfl H)
theorem digits15 (H : AHeap) : CallW Tryd.prog 42 [.int .i64 15] H fun v H' => H' = H ∧ v = .str (txt (dig 15)) := (CallW.of_run mixed 30 (by kernel_rfl) rfl rfl H)
theorem small15 (H : AHeap) : CallW Tryd.prog 65 [.int .i64 15] H fun v H' => H' = H ∧ v = .str (txt (dig 15)) := (CallW.of_run mixed 30 (by kernel_rfl) rfl rfl H)
theorem digits16 (H : AHeap) : CallW Tryd.prog 42 [.int .i64 16] H fun v H' => H' = H ∧ v = .str (txt (dig 16)) := (CallW.of_run mixed 30 (by kernel_rfl) rfl rfl H)
theorem small16 (H : AHeap) : CallW Tryd.prog 65 [.int .i64 16] H fun v H' => H' = H ∧ v = .str (txt (dig 16)) := (CallW.of_run mixed 30 (by kernel_rfl) rfl rfl H)
theorem digits17 (H : AHeap) : CallW Tryd.prog 42 [.int .i64 17] H fun v H' => H' = H ∧ v = .str (txt (dig 17)) := (CallW.of_run mixed 30 (by kernel_rfl) rfl rfl H)
theorem small17 (H : AHeap) : CallW Tryd.prog 65 [.int .i64 17] H fun v H' => H' = H ∧ v = .str (txt (dig 17)) := (CallW.of_run mixed 30 (by kernel_rfl) rfl rfl H)
theorem digits18 (H : AHeap) : CallW Tryd.prog 42 [.int .i64 18] H fun v H' => H' = H ∧ v = .str (txt (dig 18)) := (CallW.of_run mixed 30 (by kernel_rfl) rfl rfl H)
theorem small18 (H : AHeap) : CallW Tryd.prog 65 [.int .i64 18] H fun v H' => H' = H ∧ v = .str (txt (dig 18)) := (CallW.of_run mixed 30 (by kernel_rfl) rfl rfl H)
theorem digits19 (H : AHeap) : CallW Tryd.prog 42 [.int .i64 19] H fun v H' => H' = H ∧ v = .str (txt (dig 19)) := (CallW.of_run mixed 30 (by kernel_rfl) rfl rfl H)
theorem small19 (H : AHeap) : CallW Tryd.prog 65 [.int .i64 19] H fun v H' => H' = H ∧ v = .str (txt (dig 19)) := (CallW.of_run mixed 30 (by kernel_rfl) rfl rfl H)
theorem digits20 (H : AHeap) : CallW Tryd.prog 42 [.int .i64 20] H fun v H' => H' = H ∧ v = .str (txt (dig 20)) := (CallW.of_run mixed 30 (by kernel_rfl) rfl rfl H)
theorem small20 (H : AHeap) : CallW Tryd.prog 65 [.int .i64 20] H fun v H' => H' = H ∧ v = .str (txt (dig 20)) := (CallW.of_run mixed 30 (by kernel_rfl) rfl rfl H)
theorem digits21 (H : AHeap) : CallW Tryd.prog 42 [.int .i64 21] H fun v H' => H' = H ∧ v = .str (txt (dig 21)) := (CallW.of_run mixed 30 (by kernel_rfl) rfl rfl H)
theorem small21 (H : AHeap) : CallW Tryd.prog 65 [.int .i64 21] H fun v H' => H' = H ∧ v = .str (txt (dig 21)) := (CallW.of_run mixed 30 (by kernel_rfl) rfl rfl H)
theorem digits22 (H : AHeap) : CallW Tryd.prog 42 [.int .i64 22] H fun v H' => H' = H ∧ v = .str (txt (dig 22)) := (CallW.of_run mixed 30 (by kernel_rfl) rfl rfl H)
theorem small22 (H : AHeap) : CallW Tryd.prog 65 [.int .i64 22] H fun v H' => H' = H ∧ v = .str (txt (dig 22)) := (CallW.of_run mixed 30 (by kernel_rfl) rfl rfl H)
theorem digits23 (H : AHeap) : CallW Tryd.prog 42 [.int .i64 23] H fun v H' => H' = H ∧ v = .str (txt (dig 23)) := (CallW.of_run mixed 30 (by kernel_rfl) rfl rfl H)
theorem small23 (H : AHeap) : CallW Tryd.prog 65 [.int .i64 23] H fun v H' => H' = H ∧ v = .str (txt (dig 23)) := (CallW.of_run mixed 30 (by kernel_rfl) rfl rfl H)
theorem digits24 (H : AHeap) : CallW Tryd.prog 42 [.int .i64 24] H fun v H' => H' = H ∧ v = .str (txt (dig 24)) := (CallW.of_run mixed 30 (by kernel_rfl) rfl rfl H)
theorem small24 (H : AHeap) : CallW Tryd.prog 65 [.int .i64 24] H fun v H' => H' = H ∧ v = .str (txt (dig 24)) := (CallW.of_run mixed 30 (by kernel_rfl) rfl rfl H)
theorem digits25 (H : AHeap) : CallW Tryd.prog 42 [.int .i64 25] H fun v H' => H' = H ∧ v = .str (txt (dig 25)) := (CallW.of_run mixed 30 (by kernel_rfl) rfl rfl H)
theorem small25 (H : AHeap) : CallW Tryd.prog 65 [.int .i64 25] H fun v H' => H' = H ∧ v = .str (txt (dig 25)) := (CallW.of_run mixed 30 (by kernel_rfl) rfl rfl H)
theorem digits26 (H : AHeap) : CallW Tryd.prog 42 [.int .i64 26] H fun v H' => H' = H ∧ v = .str (txt (dig 26)) := (CallW.of_run mixed 30 (by kernel_rfl) rfl rfl H)
theorem small26 (H : AHeap) : CallW Tryd.prog 65 [.int .i64 26] H fun v H' => H' = H ∧ v = .str (txt (dig 26)) := (CallW.of_run mixed 30 (by kernel_rfl) rfl rfl H)
theorem digits27 (H : AHeap) : CallW Tryd.prog 42 [.int .i64 27] H fun v H' => H' = H ∧ v = .str (txt (dig 27)) := (CallW.of_run mixed 30 (by kernel_rfl) rfl rfl H)
theorem small27 (H : AHeap) : CallW Tryd.prog 65 [.int .i64 27] H fun v H' => H' = H ∧ v = .str (txt (dig 27)) := (CallW.of_run mixed 30 (by kernel_rfl) rfl rfl H)
theorem digits28 (H : AHeap) : CallW Tryd.prog 42 [.int .i64 28] H fun v H' => H' = H ∧ v = .str (txt (dig 28)) := (CallW.of_run mixed 30 (by kernel_rfl) rfl rfl H)
theorem small28 (H : AHeap) : CallW Tryd.prog 65 [.int .i64 28] H fun v H' => H' = H ∧ v = .str (txt (dig 28)) := (CallW.of_run mixed 30 (by kernel_rfl) rfl rfl H)
theorem digits29 (H : AHeap) : CallW Tryd.prog 42 [.int .i64 29] H fun v H' => H' = H ∧ v = .str (txt (dig 29)) := (CallW.of_run mixed 30 (by kernel_rfl) rfl rfl H)
theorem small29 (H : AHeap) : CallW Tryd.prog 65 [.int .i64 29] H fun v H' => H' = H ∧ v = .str (txt (dig 29)) := (CallW.of_run mixed 30 (by kernel_rfl) rfl rfl H)
theorem digits30 (H : AHeap) : CallW Tryd.prog 42 [.int .i64 30] H fun v H' => H' = H ∧ v = .str (txt (dig 30)) := (CallW.of_run mixed 30 (by kernel_rfl) rfl rfl H)
theorem small30 (H : AHeap) : CallW Tryd.prog 65 [.int .i64 30] H fun v H' => H' = H ∧ v = .str (txt (dig 30)) := (CallW.of_run mixed 30 (by kernel_rfl) rfl rfl H)
theorem digits31 (H : AHeap) : CallW Tryd.prog 42 [.int .i64 31] H fun v H' => H' = H ∧ v = .str (txt (dig 31)) := (CallW.of_run mixed 30 (by kernel_rfl) rfl rfl H)
theorem small31 (H : AHeap) : CallW Tryd.prog 65 [.int .i64 31] H fun v H' => H' = H ∧ v = .str (txt (dig 31)) := (CallW.of_run mixed 30 (by kernel_rfl) rfl rfl H)
theorem digits32 (H : AHeap) : CallW Tryd.prog 42 [.int .i64 32] H fun v H' => H' = H ∧ v = .str (txt (dig 32)) := (CallW.of_run mixed 30 (by kernel_rfl) rfl rfl H)
theorem small32 (H : AHeap) : CallW Tryd.prog 65 [.int .i64 32] H fun v H' => H' = H ∧ v = .str (txt (dig 32)) := (CallW.of_run mixed 30 (by kernel_rfl) rfl rfl H)
theorem digits33 (H : AHeap) : CallW Tryd.prog 42 [.int .i64 33] H fun v H' => H' = H ∧ v = .str (txt (dig 33)) := (CallW.of_run mixed 30 (by kernel_rfl) rfl rfl H)
theorem small33 (H : AHeap) : CallW Tryd.prog 65 [.int .i64 33] H fun v H' => H' = H ∧ v = .str (txt (dig 33)) := (CallW.of_run mixed 30 (by kernel_rfl) rfl rfl H)
theorem digits34 (H : AHeap) : CallW Tryd.prog 42 [.int .i64 34] H fun v H' => H' = H ∧ v = .str (txt (dig 34)) := (CallW.of_run mixed 30 (by kernel_rfl) rfl rfl H)
theorem small34 (H : AHeap) : CallW Tryd.prog 65 [.int .i64 34] H fun v H' => H' = H ∧ v = .str (txt (dig 34)) := (CallW.of_run mixed 30 (by kernel_rfl) rfl rfl H)
theorem digits35 (H : AHeap) : CallW Tryd.prog 42 [.int .i64 35] H fun v H' => H' = H ∧ v = .str (txt (dig 35)) := (CallW.of_run mixed 30 (by kernel_rfl) rfl rfl H)
theorem small35 (H : AHeap) : CallW Tryd.prog 65 [.int .i64 35] H fun v H' => H' = H ∧ v = .str (txt (dig 35)) := (CallW.of_run mixed 30 (by kernel_rfl) rfl rfl H)
theorem digits36 (H : AHeap) : CallW Tryd.prog 42 [.int .i64 36] H fun v H' => H' = H ∧ v = .str (txt (dig 36)) := (CallW.of_run mixed 30 (by kernel_rfl) rfl rfl H)
theorem small36 (H : AHeap) : CallW Tryd.prog 65 [.int .i64 36] H fun v H' => H' = H ∧ v = .str (txt (dig 36)) := (CallW.of_run mixed 30 (by kernel_rfl) rfl rfl H)
theorem digits37 (H : AHeap) : CallW Tryd.prog 42 [.int .i64 37] H fun v H' => H' = H ∧ v = .str (txt (dig 37)) := (CallW.of_run mixed 30 (by kernel_rfl) rfl rfl H)
theorem small37 (H : AHeap) : CallW Tryd.prog 65 [.int .i64 37] H fun v H' => H' = H ∧ v = .str (txt (dig 37)) := (CallW.of_run mixed 30 (by kernel_rfl) rfl rfl H)
theorem digits38 (H : AHeap) : CallW Tryd.prog 42 [.int .i64 38] H fun v H' => H' = H ∧ v = .str (txt (dig 38)) := (CallW.of_run mixed 30 (by kernel_rfl) rfl rfl H)
theorem small38 (H : AHeap) : CallW Tryd.prog 65 [.int .i64 38] H fun v H' => H' = H ∧ v = .str (txt (dig 38)) := (CallW.of_run mixed 30 (by kernel_rfl) rfl rfl H)
theorem digits39 (H : AHeap) : CallW Tryd.prog 42 [.int .i64 39] H fun v H' => H' = H ∧ v = .str (txt (dig 39)) := (CallW.of_run mixed 30 (by kernel_rfl) rfl rfl H)
theorem small39 (H : AHeap) : CallW Tryd.prog 65 [.int .i64 39] H fun v H' => H' = H ∧ v = .str (txt (dig 39)) := (CallW.of_run mixed 30 (by kernel_rfl) rfl rfl H)
theorem digits40 (H : AHeap) : CallW Tryd.prog 42 [.int .i64 40] H fun v H' => H' = H ∧ v = .str (txt (dig 40)) := (CallW.of_run mixed 30 (by kernel_rfl) rfl rfl H)
theorem small40 (H : AHeap) : CallW Tryd.prog 65 [.int .i64 40] H fun v H' => H' = H ∧ v = .str (txt (dig 40)) := (CallW.of_run mixed 30 (by kernel_rfl) rfl rfl H)
theorem digits41 (H : AHeap) : CallW Tryd.prog 42 [.int .i64 41] H fun v H' => H' = H ∧ v = .str (txt (dig 41)) := (CallW.of_run mixed 30 (by kernel_rfl) rfl rfl H)
theorem small41 (H : AHeap) : CallW Tryd.prog 65 [.int .i64 41] H fun v H' => H' = H ∧ v = .str (txt (dig 41)) := (CallW.of_run mixed 30 (by kernel_rfl) rfl rfl H)
theorem digits42 (H : AHeap) : CallW Tryd.prog 42 [.int .i64 42] H fun v H' => H' = H ∧ v = .str (txt (dig 42)) := (CallW.of_run mixed 30 (by kernel_rfl) rfl rfl H)
theorem small42 (H : AHeap) : CallW Tryd.prog 65 [.int .i64 42] H fun v H' => H' = H ∧ v = .str (txt (dig 42)) := (CallW.of_run mixed 30 (by kernel_rfl) rfl rfl H)
theorem digits43 (H : AHeap) : CallW Tryd.prog 42 [.int .i64 43] H fun v H' => H' = H ∧ v = .str (txt (dig 43)) := (CallW.of_run mixed 30 (by kernel_rfl) rfl rfl H)
theorem small43 (H : AHeap) : CallW Tryd.prog 65 [.int .i64 43] H fun v H' => H' = H ∧ v = .str (txt (dig 43)) := (CallW.of_run mixed 30 (by kernel_rfl) rfl rfl H)
theorem digits44 (H : AHeap) : CallW Tryd.prog 42 [.int .i64 44] H fun v H' => H' = H ∧ v = .str (txt (dig 44)) := (CallW.of_run mixed 30 (by kernel_rfl) rfl rfl H)
theorem small44 (H : AHeap) : CallW Tryd.prog 65 [.int .i64 44] H fun v H' => H' = H ∧ v = .str (txt (dig 44)) := (CallW.of_run mixed 30 (by kernel_rfl) rfl rfl H)
theorem digits45 (H : AHeap) : CallW Tryd.prog 42 [.int .i64 45] H fun v H' => H' = H ∧ v = .str (txt (dig 45)) := (CallW.of_run mixed 30 (by kernel_rfl) rfl rfl H)
theorem small45 (H : AHeap) : CallW Tryd.prog 65 [.int .i64 45] H fun v H' => H' = H ∧ v = .str (txt (dig 45)) := (CallW.of_run mixed 30 (by kernel_rfl) rfl rfl H)
theorem digits46 (H : AHeap) : CallW Tryd.prog 42 [.int .i64 46] H fun v H' => H' = H ∧ v = .str (txt (dig 46)) := (CallW.of_run mixed 30 (by kernel_rfl) rfl rfl H)
theorem small46 (H : AHeap) : CallW Tryd.prog 65 [.int .i64 46] H fun v H' => H' = H ∧ v = .str (txt (dig 46)) := (CallW.of_run mixed 30 (by kernel_rfl) rfl rfl H)
theorem digits47 (H : AHeap) : CallW Tryd.prog 42 [.int .i64 47] H fun v H' => H' = H ∧ v = .str (txt (dig 47)) := (CallW.of_run mixed 30 (by kernel_rfl) rfl rfl H)
theorem small47 (H : AHeap) : CallW Tryd.prog 65 [.int .i64 47] H fun v H' => H' = H ∧ v = .str (txt (dig 47)) := (CallW.of_run mixed 30 (by kernel_rfl) rfl rfl H)
theorem digits48 (H : AHeap) : CallW Tryd.prog 42 [.int .i64 48] H fun v H' => H' = H ∧ v = .str (txt (dig 48)) := (CallW.of_run mixed 30 (by kernel_rfl) rfl rfl H)
theorem small48 (H : AHeap) : CallW Tryd.prog 65 [.int .i64 48] H fun v H' => H' = H ∧ v = .str (txt (dig 48)) := (CallW.of_run mixed 30 (by kernel_rfl) rfl rfl H)
theorem digits49 (H : AHeap) : CallW Tryd.prog 42 [.int .i64 49] H fun v H' => H' = H ∧ v = .str (txt (dig 49)) := (CallW.of_run mixed 30 (by kernel_rfl) rfl rfl H)
theorem small49 (H : AHeap) : CallW Tryd.prog 65 [.int .i64 49] H fun v H' => H' = H ∧ v = .str (txt (dig 49)) := (CallW.of_run mixed 30 (by kernel_rfl) rfl rfl H)
theorem digits50 (H : AHeap) : CallW Tryd.prog 42 [.int .i64 50] H fun v H' => H' = H ∧ v = .str (txt (dig 50)) := (CallW.of_run mixed 30 (by kernel_rfl) rfl rfl H)
theorem small50 (H : AHeap) : CallW Tryd.prog 65 [.int .i64 50] H fun v H' => H' = H ∧ v = .str (txt (dig 50)) := (CallW.of_run mixed 30 (by kernel_rfl) rfl rfl H)
theorem digits51 (H : AHeap) : CallW Tryd.prog 42 [.int .i64 51] H fun v H' => H' = H ∧ v = .str (txt (dig 51)) := (CallW.of_run mixed 30 (by kernel_rfl) rfl rfl H)
theorem small51 (H : AHeap) : CallW Tryd.prog 65 [.int .i64 51] H fun v H' => H' = H ∧ v = .str (txt (dig 51)) := (CallW.of_run mixed 30 (by kernel_rfl) rfl rfl H)
theorem digits52 (H : AHeap) : CallW Tryd.prog 42 [.int .i64 52] H fun v H' => H' = H ∧ v = .str (txt (dig 52)) := (CallW.of_run mixed 30 (by kernel_rfl) rfl rfl H)
theorem small52 (H : AHeap) : CallW Tryd.prog 65 [.int .i64 52] H fun v H' => H' = H ∧ v = .str (txt (dig 52)) := (CallW.of_run mixed 30 (by kernel_rfl) rfl rfl H)
theorem digits53 (H : AHeap) : CallW Tryd.prog 42 [.int .i64 53] H fun v H' => H' = H ∧ v = .str (txt (dig 53)) := (CallW.of_run mixed 30 (by kernel_rfl) rfl rfl H)
theorem small53 (H : AHeap) : CallW Tryd.prog 65 [.int .i64 53] H fun v H' => H' = H ∧ v = .str (txt (dig 53)) := (CallW.of_run mixed 30 (by kernel_rfl) rfl rfl H)
theorem digits54 (H : AHeap) : CallW Tryd.prog 42 [.int .i64 54] H fun v H' => H' = H ∧ v = .str (txt (dig 54)) := (CallW.of_run mixed 30 (by kernel_rfl) rfl rfl H)
theorem small54 (H : AHeap) : CallW Tryd.prog 65 [.int .i64 54] H fun v H' => H' = H ∧ v = .str (txt (dig 54)) := (CallW.of_run mixed 30 (by kernel_rfl) rfl rfl H)
theorem digits55 (H : AHeap) : CallW Tryd.prog 42 [.int .i64 55] H fun v H' => H' = H ∧ v = .str (txt (dig 55)) := (CallW.of_run mixed 30 (by kernel_rfl) rfl rfl H)
theorem small55 (H : AHeap) : CallW Tryd.prog 65 [.int .i64 55] H fun v H' => H' = H ∧ v = .str (txt (dig 55)) := (CallW.of_run mixed 30 (by kernel_rfl) rfl rfl H)
theorem digits56 (H : AHeap) : CallW Tryd.prog 42 [.int .i64 56] H fun v H' => H' = H ∧ v = .str (txt (dig 56)) := (CallW.of_run mixed 30 (by kernel_rfl) rfl rfl H)
theorem small56 (H : AHeap) : CallW Tryd.prog 65 [.int .i64 56] H fun v H' => H' = H ∧ v = .str (txt (dig 56)) := (CallW.of_run mixed 30 (by kernel_rfl) rfl rfl H)
theorem digits57 (H : AHeap) : CallW Tryd.prog 42 [.int .i64 57] H fun v H' => H' = H ∧ v = .str (txt (dig 57)) := (CallW.of_run mixed 30 (by kernel_rfl) rfl rfl H)
theorem small57 (H : AHeap) : CallW Tryd.prog 65 [.int .i64 57] H fun v H' => H' = H ∧ v = .str (txt (dig 57)) := (CallW.of_run mixed 30 (by kernel_rfl) rfl rfl H)
theorem digits58 (H : AHeap) : CallW Tryd.prog 42 [.int .i64 58] H fun v H' => H' = H ∧ v = .str (txt (dig 58)) := (CallW.of_run mixed 30 (by kernel_rfl) rfl rfl H)
theorem small58 (H : AHeap) : CallW Tryd.prog 65 [.int .i64 58] H fun v H' => H' = H ∧ v = .str (txt (dig 58)) := (CallW.of_run mixed 30 (by kernel_rfl) rfl rfl H)
theorem digits59 (H : AHeap) : CallW Tryd.prog 42 [.int .i64 59] H fun v H' => H' = H ∧ v = .str (txt (dig 59)) := (CallW.of_run mixed 30 (by kernel_rfl) rfl rfl H)
theorem small59 (H : AHeap) : CallW Tryd.prog 65 [.int .i64 59] H fun v H' => H' = H ∧ v = .str (txt (dig 59)) := (CallW.of_run mixed 30 (by kernel_rfl) rfl rfl H)
theorem digits60 (H : AHeap) : CallW Tryd.prog 42 [.int .i64 60] H fun v H' => H' = H ∧ v = .str (txt (dig 60)) := (CallW.of_run mixed 30 (by kernel_rfl) rfl rfl H)
theorem small60 (H : AHeap) : CallW Tryd.prog 65 [.int .i64 60] H fun v H' => H' = H ∧ v = .str (txt (dig 60)) := (CallW.of_run mixed 30 (by kernel_rfl) rfl rfl H)
theorem digits61 (H : AHeap) : CallW Tryd.prog 42 [.int .i64 61] H fun v H' => H' = H ∧ v = .str (txt (dig 61)) := (CallW.of_run mixed 30 (by kernel_rfl) rfl rfl H)
theorem small61 (H : AHeap) : CallW Tryd.prog 65 [.int .i64 61] H fun v H' => H' = H ∧ v = .str (txt (dig 61)) := (CallW.of_run mixed 30 (by kernel_rfl) rfl rfl H)
theorem digits62 (H : AHeap) : CallW Tryd.prog 42 [.int .i64 62] H fun v H' => H' = H ∧ v = .str (txt (dig 62)) := (CallW.of_run mixed 30 (by kernel_rfl) rfl rfl H)
theorem small62 (H : AHeap) : CallW Tryd.prog 65 [.int .i64 62] H fun v H' => H' = H ∧ v = .str (txt (dig 62)) := (CallW.of_run mixed 30 (by kernel_rfl) rfl rfl H)
theorem digits63 (H : AHeap) : CallW Tryd.prog 42 [.int .i64 63] H fun v H' => H' = H ∧ v = .str (txt (dig 63)) := (CallW.of_run mixed 30 (by kernel_rfl) rfl rfl H)
theorem small63 (H : AHeap) : CallW Tryd.prog 65 [.int .i64 63] H fun v H' => H' = H ∧ v = .str (txt (dig 63)) := (CallW.of_run mixed 30 (by kernel_rfl) rfl rfl H)
theorem digitsR : ∀ (x : Nat) (hx : x < 64) (H : AHeap), CallW Tryd.prog 42 [.int .i64 (x : Int)] H fun v H' => H' = H ∧ v = .str (txt (dig x))
  | 0, _, H => digits0 H | 1, _, H => digits1 H | 2, _, H => digits2 H | 3, _, H => digits3 H | 4, _, H => digits4 H | 5, _, H => digits5 H | 6, _, H => digits6 H | 7, _, H => digits7 H
  | 8, _, H => digits8 H | 9, _, H => digits9 H | 10, _, H => digits10 H | 11, _, H => digits11 H | 12, _, H => digits12 H | 13, _, H => digits13 H | 14, _, H => digits14 H | 15, _, H => digits15 H
  | 16, _, H => digits16 H | 17, _, H => digits17 H | 18, _, H => digits18 H | 19, _, H => digits19 H | 20, _, H => digits20 H | 21, _, H => digits21 H | 22, _, H => digits22 H | 23, _, H => digits23 H
  | 24, _, H => digits24 H | 25, _, H => digits25 H | 26, _, H => digits26 H | 27, _, H => digits27 H | 28, _, H => digits28 H | 29, _, H => digits29 H | 30, _, H => digits30 H | 31, _, H => digits31 H
  | 32, _, H => digits32 H | 33, _, H => digits33 H | 34, _, H => digits34 H | 35, _, H => digits35 H | 36, _, H => digits36 H | 37, _, H => digits37 H | 38, _, H => digits38 H | 39, _, H => digits39 H
  | 40, _, H => digits40 H | 41, _, H => digits41 H | 42, _, H => digits42 H | 43, _, H => digits43 H | 44, _, H => digits44 H | 45, _, H => digits45 H | 46, _, H => digits46 H | 47, _, H => digits47 H
  | 48, _, H => digits48 H | 49, _, H => digits49 H | 50, _, H => digits50 H | 51, _, H => digits51 H | 52, _, H => digits52 H | 53, _, H => digits53 H | 54, _, H => digits54 H | 55, _, H => digits55 H
  | 56, _, H => digits56 H | 57, _, H => digits57 H | 58, _, H => digits58 H | 59, _, H => digits59 H | 60, _, H => digits60 H | 61, _, H => digits61 H | 62, _, H => digits62 H | 63, _, H => digits63 H
  | x + 64, h, _ => absurd h (by omega)
theorem smallR : ∀ (x : Nat) (hx : x < 64) (H : AHeap), CallW Tryd.prog 65 [.int .i64 (x : Int)] H fun v H' => H' = H ∧ v = .str (txt (dig x))
  | 0, _, H => small0 H | 1, _, H => small1 H | 2, _, H => small2 H | 3, _, H => small3 H | 4, _, H => small4 H | 5, _, H => small5 H | 6, _, H => small6 H | 7, _, H => small7 H
  | 8, _, H => small8 H | 9, _, H => small9 H | 10, _, H => small10 H | 11, _, H => small11 H | 12, _, H => small12 H | 13, _, H => small13 H | 14, _, H => small14 H | 15, _, H => small15 H
  | 16, _, H => small16 H | 17, _, H => small17 H | 18, _, H => small18 H | 19, _, H => small19 H | 20, _, H => small20 H | 21, _, H => small21 H | 22, _, H => small22 H | 23, _, H => small23 H
  | 24, _, H => small24 H | 25, _, H => small25 H | 26, _, H => small26 H | 27, _, H => small27 H | 28, _, H => small28 H | 29, _, H => small29 H | 30, _, H => small30 H | 31, _, H => small31 H
  | 32, _, H => small32 H | 33, _, H => small33 H | 34, _, H => small34 H | 35, _, H => small35 H | 36, _, H => small36 H | 37, _, H => small37 H | 38, _, H => small38 H | 39, _, H => small39 H
  | 40, _, H => small40 H | 41, _, H => small41 H | 42, _, H => small42 H | 43, _, H => small43 H | 44, _, H => small44 H | 45, _, H => small45 H | 46, _, H => small46 H | 47, _, H => small47 H
  | 48, _, H => small48 H | 49, _, H => small49 H | 50, _, H => small50 H | 51, _, H => small51 H | 52, _, H => small52 H | 53, _, H => small53 H | 54, _, H => small54 H | 55, _, H => small55 H
  | 56, _, H => small56 H | 57, _, H => small57 H | 58, _, H => small58 H | 59, _, H => small59 H | 60, _, H => small60 H | 61, _, H => small61 H | 62, _, H => small62 H | 63, _, H => small63 H
  | x + 64, h, _ => absurd h (by omega)
end Go.Proofs.YthjemhlcojmiaaaDoor

/- Print: words written as texts. -/
-- VkG VkH VmA
set_option linter.unusedVariables false
set_option linter.unusedSimpArgs false
set_option maxRecDepth 100000
set_option maxHeartbeats 4000000
namespace Go.Proofs.YthjemhlcojmiaaaDoor
open Go Go.Vh Go.Vk Go.Proofs
theorem txt_append (l m : List Nat) : txt l ++ txt m = txt (l ++ m) := by
  have h : (txt l ++ txt m).data = (txt (l ++ m)).data := by
    rw [ByteArray.data_append]
    unfold txt
    simp
  cases h1 : txt l ++ txt m
  cases h2 : txt (l ++ m)
  rw [h1, h2] at h
  simpa using h
theorem txt_size (l : List Nat) : (txt l).size = l.length := by
  show (l.map UInt8.ofNat).toArray.size = _
  simp
theorem Gets.catT {l m : List Nat} {A : AVal → Prop} (h : l.length + m.length ≤ 4294967296) (hA : A (.str (txt (l ++ m)))) : Gets (abin .add (.str (txt l)) (.str (txt m))) A := by
  refine ⟨⟨_, ?_, hA⟩⟩
  show (if (txt l).size + (txt m).size ≤ 4294967296 then some (AVal.str (txt l ++ txt m)) else none) = _
  rw [if_pos (by rw [txt_size, txt_size]; exact h), txt_append]
theorem Gets.catC {l m : List Nat} {c : ByteArray} {A : AVal → Prop} (hc : c = txt m) (h : l.length + m.length ≤ 4294967296) (hA : A (.str (txt (l ++ m)))) : Gets (abin .add (.str (txt l)) (.str c)) A := by
  subst hc; exact Gets.catT h hA
/-- Letters written one after the other, a space behind each. -/
def pw (xs : List Int) : List Nat := xs.flatMap fun x => dig x.toNat ++ [32]
theorem dig_len (x : Nat) : 1 ≤ (dig x).length ∧ (dig x).length ≤ 2 := by unfold dig; split <;> exact ⟨by simp, by simp⟩
theorem pw_append (a b : List Int) : pw (a ++ b) = pw a ++ pw b := by unfold pw; rw [List.flatMap_append]
theorem pw_one (x : Int) : pw [x] = dig x.toNat ++ [32] := by unfold pw; simp
theorem pw_len : ∀ l : List Int, (pw l).length ≤ 3 * l.length
  | [] => Nat.zero_le _
  | x :: l => by
    have h1 := pw_len l
    have h2 := (dig_len x.toNat).2
    rw [show x :: l = [x] ++ l from rfl, pw_append, pw_one, List.length_append, List.length_append, List.length_append]
    simp only [List.length_cons, List.length_nil]
    omega
theorem pw_next {l : List Int} {j : Nat} (h : j < l.length) : pw (l.take (j + 1)) = pw (l.take j) ++ (dig (l.getD j 0).toNat ++ [32]) := by
  rw [List.take_succ_eq_append_getElem h, pw_append, pw_one]
  congr 3
  rw [List.getD_eq_getElem?_getD, List.getElem?_eq_getElem h]; rfl
theorem pw_take (l : List Int) (j : Nat) : (pw (l.take j)).length ≤ 3 * l.length := by
  have := pw_len (l.take j)
  rw [List.length_take] at this
  omega
def printB (w : Wd) : List Nat := pw w.stem ++ [40, 32] ++ pw w.loop ++ [41]
open Classical in
noncomputable def printW (w : Wd) : List Nat × Int := if w.Ok 6 then (printB w, 0) else ([], 1)
theorem letter_nat {x : Int} (h : inL 6 x) : x = ((x.toNat : Nat) : Int) ∧ x.toNat < 64 := by
  have := inL_lt h (by decide) (by decide)
  exact ⟨by omega, by omega⟩
theorem digitsX {x : Int} (h : inL 6 x) (H : AHeap) : CallW Tryd.prog 42 [.int .i64 x] H fun v H' => H' = H ∧ v = .str (txt (dig x.toNat)) := by
  obtain ⟨h1, h2⟩ := letter_nat h
  have := digitsR x.toNat h2 H
  rw [← h1] at this
  exact this
theorem printRr (w : Wd) (hf : w.Fits) (H : AHeap) : CallW Tryd.prog 15 [w.rv] H fun v H' => H' = H ∧ v = .tuple [.str (txt (printW w).1), .int .i64 (printW w).2] := by
  refine CallW.pure ?_ rfl H
  refine CallW.symK (cuts := []) Tryd.func15 rfl (by kernel_rfl) ?_
  conv => whnf
  repeat' (refine Gets.of _ rfl ?_; conv => whnf)
  refine CallS.of (by kernel_rfl) (isR w hf _) rfl ?_
  rintro _ _ ⟨rfl, hp | hp⟩
  rotate_left
  · conv => whnf
    skip
    have e : printW w = ([], 1) := if_neg hp
    rw [e]
    exact ⟨[], _, rfl, .same rfl, rfl, rfl⟩
  have e : printW w = (printB w, 0) := if_pos hp
  rw [e]
  clear e
  have hm := hp.m
  conv => whnf
  repeat' (refine Gets.of _ rfl ?_; conv => whnf)
  refine CodeS.loopSK (cuts := []) (σ := Nat) (fun j => [(1, .ptr 0 0), (4, .str (txt (pw (w.stem.take j)))), (13, rI w.stem), (14, .int .i64 (w.stem.length : Int)), (15, .int .i64 (j : Int))]) (fun _ => emptyH.alloc (.cells 1 [rI w.stem, rI w.loop])) (fun j => j ≤ w.stem.length) (fun j => w.stem.length - j) 0 (by kernel_rfl) (Nat.zero_le _) ⟨rfl, rfl, rfl, rfl, rfl, trivial⟩ rfl ?_
  intro j hj
  have hpl := pw_take w.stem j
  rcases Nat.lt_or_ge j w.stem.length with hjl | hjl
  · have hd := (dig_len (w.stem.getD j 0).toNat).2
    conv => whnf
    repeat' first | (refine Gets.ixR1 rfl rfl (by omega) ?_; conv => whnf) | (refine Gets.ldRI rfl (by first | omega | exact Nat.le_of_ble_eq_true rfl) ?_; conv => whnf) | (refine Fork.dec (fun _ => ?_) (fun _ => ?_) <;> first | (exfalso; omega) | (conv => whnf))
    refine CallS.of (by kernel_rfl) (digitsX (hp.s _ (getD_mem hjl)) _) rfl ?_
    rintro _ _ ⟨rfl, rfl⟩
    conv => whnf
    repeat' first | ((refine Gets.catT (l := pw (w.stem.take j)) (m := dig (w.stem.getD j 0).toNat ++ [32]) (by rw [List.length_append]; simp only [List.length_cons, List.length_nil]; omega) ?_); conv => whnf) | ((refine Gets.catC (l := dig (w.stem.getD j 0).toNat) (m := [32]) rfl (by simp only [List.length_cons, List.length_nil]; omega) ?_); conv => whnf) | ((with_reducible refine Gets.addI ?_ ?_ ?_); (· omega); (· omega); conv => whnf)
    exact ⟨j + 1, hjl, by show w.stem.length - (j + 1) < _; omega, ⟨rfl, (by rw [pw_next hjl]; rfl), rfl, rfl, rfl, trivial⟩, rfl⟩
  · obtain rfl : j = w.stem.length := by omega
    rw [List.take_length] at hpl ⊢
    conv => whnf
    repeat' first | ((refine Gets.catC (l := pw w.stem) (m := [40, 32]) rfl (by simp only [List.length_cons, List.length_nil]; omega) ?_); conv => whnf) | (refine Gets.of _ rfl ?_; conv => whnf) | (refine Fork.dec (fun _ => ?_) (fun _ => ?_) <;> first | (exfalso; omega) | (conv => whnf))
    refine CodeS.loopSK (cuts := []) (σ := Nat) (fun j => [(4, .str (txt (pw w.stem ++ [40, 32] ++ pw (w.loop.take j)))), (28, rI w.loop), (29, .int .i64 (w.loop.length : Int)), (30, .int .i64 (j : Int))]) (fun _ => emptyH.alloc (.cells 1 [rI w.stem, rI w.loop])) (fun j => j ≤ w.loop.length) (fun j => w.loop.length - j) 0 (by kernel_rfl) (Nat.zero_le _) ⟨(by show AVal.str (txt (pw w.stem ++ [40, 32])) = AVal.str (txt (pw w.stem ++ [40, 32] ++ [])); rw [List.append_nil]), rfl, rfl, rfl, trivial⟩ rfl ?_
    intro j hj
    have hpm := pw_take w.loop j
    rcases Nat.lt_or_ge j w.loop.length with hjl | hjl
    · have hd := (dig_len (w.loop.getD j 0).toNat).2
      conv => whnf
      repeat' first | (refine Gets.ixR1 rfl rfl (by omega) ?_; conv => whnf) | (refine Gets.ldRI rfl (by first | omega | exact Nat.le_of_ble_eq_true rfl) ?_; conv => whnf) | (refine Fork.dec (fun _ => ?_) (fun _ => ?_) <;> first | (exfalso; omega) | (conv => whnf))
      refine CallS.of (by kernel_rfl) (digitsX (hp.l _ (getD_mem hjl)) _) rfl ?_
      rintro _ _ ⟨rfl, rfl⟩
      conv => whnf
      repeat' first | ((refine Gets.catT (l := pw w.stem ++ [40, 32] ++ pw (w.loop.take j)) (m := dig (w.loop.getD j 0).toNat ++ [32]) (by simp only [List.length_append, List.length_cons, List.length_nil]; omega) ?_); conv => whnf) | ((refine Gets.catC (l := dig (w.loop.getD j 0).toNat) (m := [32]) rfl (by simp only [List.length_cons, List.length_nil]; omega) ?_); conv => whnf) | ((with_reducible refine Gets.addI ?_ ?_ ?_); (· omega); (· omega); conv => whnf)
      exact ⟨j + 1, hjl, by show w.loop.length - (j + 1) < _; omega, ⟨(by show AVal.str (txt (pw w.stem ++ [40, 32] ++ pw (w.loop.take j) ++ (dig (w.loop.getD j 0).toNat ++ [32]))) = AVal.str (txt (pw w.stem ++ [40, 32] ++ pw (w.loop.take (j + 1)))); rw [pw_next hjl]; simp only [List.append_assoc]), rfl, rfl, rfl, trivial⟩, rfl⟩
    · obtain rfl : j = w.loop.length := by omega
      rw [List.take_length] at hpm ⊢
      conv => whnf
      repeat' first | ((refine Gets.catC (l := pw w.stem ++ [40, 32] ++ pw w.loop) (m := [41]) rfl (by simp only [List.length_append, List.length_cons, List.length_nil]; omega) ?_); conv => whnf) | (refine Fork.dec (fun _ => ?_) (fun _ => ?_) <;> first | (exfalso; omega) | (conv => whnf))
      exact ⟨[], _, rfl, .same rfl, rfl, rfl⟩
end Go.Proofs.YthjemhlcojmiaaaDoor

/- What is printed is read again (plain). -/
-- VkG VkH VmA
set_option linter.unusedVariables false
set_option linter.unusedSimpArgs false
set_option maxRecDepth 100000
set_option maxHeartbeats 4000000
namespace Go.Proofs.YthjemhlcojmiaaaDoor
open Go Go.Vh Go.Vk Go.Proofs
theorem bts_txt {l : List Nat} (h : ∀ c ∈ l, c < 256) : bts (txt l) = l := by
  unfold bts txt
  show ((l.map UInt8.ofNat).toArray.toList).map UInt8.toNat = l
  rw [List.toList_toArray, List.map_map]
  conv => rhs; rw [← List.map_id l]
  apply List.map_congr_left
  intro c hc
  have := h c hc
  show (UInt8.ofNat c).toNat = c
  rw [UInt8.toNat_ofNat']
  exact Nat.mod_eq_of_lt (by omega)
theorem take_dig {x : Nat} (hx : x < 64) (r : List Nat) : takeNum (dig x ++ 32 :: r) 0 = (x, 32 :: r) := by
  have end32 : ∀ n, takeNum (32 :: r) n = (n, 32 :: r) := fun n => by unfold takeNum; rw [if_neg (by omega)]
  unfold dig
  split
  · show takeNum ((48 + x) :: 32 :: r) 0 = _
    rw [takeNum, if_pos (by omega), end32]
    congr 1
    omega
  · show takeNum ((48 + x / 10) :: (48 + x % 10) :: 32 :: r) 0 = _
    rw [takeNum, if_pos (by omega), takeNum, if_pos (by omega), end32]
    congr 1
    omega
theorem dig_head (x : Nat) (hx : x < 64) : ∃ c r, dig x = c :: r ∧ 48 ≤ c ∧ c ≤ 57 := by
  unfold dig
  split
  · exact ⟨_, _, rfl, by omega, by omega⟩
  · exact ⟨_, _, rfl, by omega, by omega⟩
theorem parse_dig {x : Nat} (hx : x < 64) (r : List Nat) {p : Nat} (hp : p < 2) (st lo : List Int) : parseL (dig x ++ [32] ++ r) p st lo = if p = 0 then parseL r p (st ++ [(x : Int)]) lo else parseL r p st (lo ++ [(x : Int)]) := by
  have ht := take_dig hx r
  obtain ⟨c, d, hd, h1, h2⟩ := dig_head x hx
  rw [List.append_assoc, show [32] ++ r = 32 :: r from rfl]
  rw [hd] at ht ⊢
  rw [List.cons_append] at ht ⊢
  rw [parse_num ⟨h1, h2⟩ hp ht]
  rw [parse_space, parse_space]
theorem parse_pw0 : ∀ (xs : List Int) (r : List Nat) (st lo : List Int), (∀ x ∈ xs, inL 6 x) → parseL (pw xs ++ r) 0 st lo = parseL r 0 (st ++ xs) lo
  | [], r, st, lo, _ => by rw [show pw [] = [] from rfl, List.nil_append, List.append_nil]
  | x :: xs, r, st, lo, h => by
    obtain ⟨h1, h2⟩ := letter_nat (h x (List.mem_cons_self ..))
    rw [show x :: xs = [x] ++ xs from rfl, pw_append, pw_one, List.append_assoc, parse_dig h2 _ (by decide), if_pos rfl, parse_pw0 xs r _ lo (fun y hy => h y (List.mem_cons_of_mem _ hy)), ← h1, List.append_assoc]
theorem parse_pw1 : ∀ (xs : List Int) (r : List Nat) (st lo : List Int), (∀ x ∈ xs, inL 6 x) → parseL (pw xs ++ r) 1 st lo = parseL r 1 st (lo ++ xs)
  | [], r, st, lo, _ => by rw [show pw [] = [] from rfl, List.nil_append, List.append_nil]
  | x :: xs, r, st, lo, h => by
    obtain ⟨h1, h2⟩ := letter_nat (h x (List.mem_cons_self ..))
    rw [show x :: xs = [x] ++ xs from rfl, pw_append, pw_one, List.append_assoc, parse_dig h2 _ (by decide), if_neg (by decide), parse_pw1 xs r st _ (fun y hy => h y (List.mem_cons_of_mem _ hy)), ← h1, List.append_assoc]
theorem dig_byte {x : Nat} (hx : x < 64) : ∀ c ∈ dig x, c < 256 := by
  unfold dig
  split
  · intro c hc
    simp only [List.mem_cons, List.not_mem_nil, or_false] at hc
    omega
  · intro c hc
    simp only [List.mem_cons, List.not_mem_nil, or_false] at hc
    omega
theorem pw_byte {xs : List Int} (h : ∀ x ∈ xs, inL 6 x) : ∀ c ∈ pw xs, c < 256 := by
  intro c hc
  unfold pw at hc
  obtain ⟨x, hx, hc⟩ := List.mem_flatMap.1 hc
  rcases List.mem_append.1 hc with hc | hc
  · exact dig_byte (letter_nat (h x hx)).2 c hc
  · simp only [List.mem_cons, List.not_mem_nil, or_false] at hc
    omega
theorem print_byte {w : Wd} (h : w.Ok 6) : ∀ c ∈ printB w, c < 256 := by
  intro c hc
  unfold printB at hc
  simp only [List.mem_append] at hc
  rcases hc with ((hc | hc) | hc) | hc
  · exact pw_byte h.s c hc
  · simp only [List.mem_cons, List.not_mem_nil, or_false] at hc
    omega
  · exact pw_byte h.l c hc
  · simp only [List.mem_cons, List.not_mem_nil, or_false] at hc
    omega
theorem print_len {w : Wd} (h : w.Ok 6) : (printB w).length ≤ 603 := by
  have h1 := pw_len w.stem
  have h2 := pw_len w.loop
  have hm := h.m
  unfold printB
  simp only [List.length_append, List.length_cons, List.length_nil]
  omega
theorem parse_print {w : Wd} (h : w.Ok 6) : parseW (txt (printB w)) = (w, 0) := by
  have hl := print_len h
  have e : parseL (printB w) 0 [] [] = some (2, w.stem, w.loop) := by
    unfold printB
    rw [List.append_assoc, List.append_assoc, parse_pw0 _ _ _ _ h.s, List.nil_append]
    show parseL (40 :: 32 :: (pw w.loop ++ [41])) 0 w.stem [] = _
    rw [parse_br (by decide) (.inl ⟨rfl, rfl⟩), parse_space, parse_pw1 _ _ _ _ h.l, List.nil_append, parse_br (by decide) (.inr ⟨rfl, rfl⟩), parseL]
  unfold parseW
  rw [if_neg (by rw [txt_size]; omega), bts_txt (print_byte h), e]
  exact endW_ok h
end Go.Proofs.YthjemhlcojmiaaaDoor
