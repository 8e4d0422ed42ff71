/- Lists held against each other; what the laws of this layer share. -/
import Derived.Test.YtmghlldboiplpaaCir
import Derived.Test.YtmghlldboiplpaaVkF
set_option linter.unusedVariables false
set_option linter.unusedSimpArgs false
set_option maxRecDepth 100000
set_option maxHeartbeats 1000000
namespace Go.Proofs.Ytmghlldboiplpaa
open Go Go.Vh Go.Vk Go.Proofs
def rangeOf : Code → Option (Code × Code)
  | .rangeFunc _ _ a b => some (a, b)
  | .seq a b => match rangeOf a with
    | some x => some x
    | none => rangeOf b
  | .block _ c => rangeOf c
  | _ => none
theorem list18 (l m : List Int) (hl : l.length ≤ 4294967296) (hm : m.length ≤ 4294967296) (H : AHeap) (hn : 1 < H.n) (h0 : l ≠ [] → (H.f 0).cs = ints l) (h1 : m ≠ [] → (H.f 1).cs = ints m) : CallW Try.prog 18 [.view 0 0 l.length, .view 1 0 m.length] H fun v H' => H' = H ∧ IsB v (l = m) := by
  refine CallW.symK (cuts := []) Try.func18 rfl (by kernel_rfl) ?_
  conv => whnf
  repeat' first | (refine Gets.of _ rfl ?_; conv => whnf) | (refine Fork.neI (fun _ => ?_) (fun _ => ?_) <;> first | (exfalso; omega) | (conv => whnf))
  · exact ⟨rfl, .f fun h => by subst h; omega⟩
  have hlen : l.length = m.length := by omega
  refine CodeS.loopSK (cuts := []) (σ := Nat) (fun j => [(0, .view 0 0 l.length), (1, .view 1 0 m.length), (12, .int .i64 l.length), (13, .int .i64 j)]) (fun _ => H) (fun j => j ≤ l.length ∧ ∀ k, k < j → l.getD k 0 = m.getD k 0) (fun j => l.length - j) 0 (by kernel_rfl) ⟨Nat.zero_le _, fun k hk => by omega⟩ ⟨rfl, rfl, rfl, rfl, trivial⟩ rfl ?_
  rintro j ⟨g1, g2⟩
  conv => whnf
  repeat' (refine Fork.dec (fun _ => ?_) (fun _ => ?_) <;> first | (exfalso; omega) | (conv => whnf))
  · have e0 := h0 (List.ne_nil_of_length_pos (by omega))
    have e1 := h1 (List.ne_nil_of_length_pos (by omega))
    refine CodeS.drawT [0, 1] (.take 0 (.take 1 (.take 2 (.take 3 (.take 4 (.take 5 (.take 6 (.take 7 (.take 8 .done))))))))) mixed (by kernel_rfl) (.cons ⟨Nat.ble_eq_true_of_le (by omega), live_of_ints e0 (by omega)⟩ (.cons ⟨Nat.ble_eq_true_of_le hn, live_of_ints e1 (by omega)⟩ .nil)) ?_
    conv => whnf
    repeat' first | ((refine Gets.ldI rfl e0 (by omega) ?_); conv => whnf) | ((refine Gets.ldI rfl e1 (by omega) ?_); conv => whnf) | ((with_reducible refine Gets.addI ?_ ?_ ?_); (· omega); (· omega); conv => whnf) | (refine Gets.ix1v rfl rfl (by omega) ?_; conv => whnf) | (refine Fork.neI (fun _ => ?_) (fun _ => ?_) <;> first | (exfalso; omega) | (conv => whnf))
    · exact ⟨rfl, .f fun h => by subst h; rename_i h; exact h rfl⟩
    · exact ⟨j + 1, ⟨by omega, lt_succ_all g2 (by assumption)⟩, by omega, ⟨rfl, rfl, rfl, rfl, trivial⟩, rfl⟩
  · refine ⟨rfl, .t (List.ext_getElem hlen fun k h1 h2 => ?_)⟩
    have := g2 k (by omega)
    rw [List.getD_eq_getElem?_getD, List.getD_eq_getElem?_getD, List.getElem?_eq_getElem h1, List.getElem?_eq_getElem h2] at this
    exact this
def Cir.Few (c : Cir) (a b : Int) : Prop := ((c.latch.length : Int) ≤ a ∨ (24 < (c.latch.length : Int) ∧ (c.latch.length : Int) ≤ 30)) ∧ ((c.gates.length : Int) ≤ b ∨ (20000 < (c.gates.length : Int) ∧ (c.gates.length : Int) ≤ 20010)) ∧ (c.out.length : Int) ≤ 30
theorem awake9 (H : AHeap) : CallW Try.prog 9 [] H fun v H' => H' = H ∧ v = .bool true :=
  CallW.of_run2 mixed 30 (by kernel_rfl) rfl rfl H
end Go.Proofs.Ytmghlldboiplpaa
