/- opt.same: the variables as they are, and all latches. -/
import Derived.Test.YtmghlldboiplpaaUsw
set_option linter.unusedVariables false
set_option linter.unusedSimpArgs false
set_option maxRecDepth 100000
set_option maxHeartbeats 1000000
namespace Go.Proofs.Ytmghlldboiplpaa
open Go Go.Vh Go.Vk Go.Proofs
def evens (n : Nat) : List Nat := (List.range n).map fun v => 2 * v
theorem evens_succ (n : Nat) : evens (n + 1) = evens n ++ [2 * n] := by simp [evens, List.range_succ]
theorem evens_length (n : Nat) : (evens n).length = n := by simp [evens]
theorem same30 (c : Cir) (ho : c.Ok) : CallW Try.prog 30 [c.av 0 1 2] c.heap fun v H' => v = .tuple [.slice 3 0 c.nv, oN 4 (List.range c.latch.length)] ∧ H' = (c.heap.alloc (.cells 1 (nats (evens c.nv)))).alloc (oNB (List.range c.latch.length)) := by
  obtain ⟨a1, a2, a3, a4, a5⟩ := ho.s
  have hnv : (c.nv : Int) = c.inp + c.latch.length + 1 := by unfold Cir.nv; omega
  refine CallW.symRK (cuts := []) Try.func30 rfl (by kernel_rfl) ?_
  conv => whnf
  repeat' first | ((with_reducible refine Gets.addI ?_ ?_ ?_); (· omega); (· omega); conv => whnf) | (refine Gets.of _ rfl ?_; conv => whnf)
  rw [← hnv]
  refine CodeS.loopGK (cuts := []) (σ := Nat) (fun j => [(1, .ptr 3 0), (2, oN 4 (evens j)), (3, .nilSlice), (12, .int .i64 c.nv), (13, .int .i64 j)]) (fun j => (c.heap.alloc c.box).alloc (oNB (evens j))) (fun j => j ≤ c.nv) (fun j => c.nv - j) 0 (renL [0, 1, 2, 3, 0] 4) (by kernel_rfl) (Nat.zero_le _) ⟨rfl, rfl, rfl, rfl, rfl, trivial⟩ (EmbL.lits [0, 1, 2, 3, 0] rfl rfl rfl rfl (.cons ⟨rfl, .inl ⟨rfl, fun h => h⟩⟩ (.cons ⟨rfl, .inl ⟨rfl, fun h => h⟩⟩ (.cons ⟨rfl, .inl ⟨rfl, fun h => h⟩⟩ .nil))) (.cons ⟨rfl, .roI⟩ (.cons ⟨rfl, .roI⟩ (.cons ⟨rfl, .roI⟩ (.cons ⟨rfl, .inl rfl⟩ (.cons ⟨rfl, .gone⟩ .nil)))))) ?_
  intro j g1
  have hs := evens_succ j
  have hal := evens_length j
  generalize hacc : evens j = acc at *
  rcases acc with _ | ⟨y, acc⟩
  all_goals conv => whnf
  all_goals
    repeat' first | ((refine Gets.appNat (l := y :: acc) (x := 2 * j) rfl rfl rfl rfl rfl (by decide) rfl rfl rfl (by omega) ?_); conv => whnf) | ((with_reducible refine Gets.addI ?_ ?_ ?_); (· omega); (· omega); conv => whnf) | ((with_reducible refine Gets.mulI ?_ ?_ ?_); (· omega); (· omega); conv => whnf) | (refine Gets.of _ rfl ?_; conv => whnf) | (refine Fork.dec (fun _ => ?_) (fun _ => ?_) <;> first | (exfalso; omega) | (conv => whnf))
  · refine ⟨j + 1, renL [0, 1, 2, 3, 6] 7, by omega, by omega, ⟨rfl, by rw [hs]; rfl, rfl, rfl, rfl, trivial⟩, ?_⟩
    rw [hs]
    exact EmbL.litsN [0, 1, 2, 3, 6] rfl rfl rfl rfl (.cons ⟨rfl, .inl ⟨rfl, fun h => h⟩⟩ (.cons ⟨rfl, .inl ⟨rfl, fun h => h⟩⟩ (.cons ⟨rfl, .inl ⟨rfl, fun h => h⟩⟩ .nil))) (.cons ⟨rfl, .roI⟩ (.cons ⟨rfl, .roI⟩ (.cons ⟨rfl, .roI⟩ (.cons ⟨rfl, .inl rfl⟩ (.cons ⟨rfl, .inl rfl⟩ .nil)))))
  · exfalso
    simp only [List.length_nil] at hal
    omega
  · refine ⟨j + 1, renL [0, 1, 2, 3, 6] 7, by omega, by omega, ⟨rfl, ?_, rfl, rfl, rfl, trivial⟩, ?_⟩
    · rw [hs]; show AVal.slice 6 0 _ = AVal.slice 6 0 _; simp
    · rw [hs]
      exact EmbL.litsN [0, 1, 2, 3, 6] rfl rfl rfl rfl (.cons ⟨rfl, .inl ⟨rfl, fun h => h⟩⟩ (.cons ⟨rfl, .inl ⟨rfl, fun h => h⟩⟩ (.cons ⟨rfl, .inl ⟨rfl, fun h => h⟩⟩ .nil))) (.cons ⟨rfl, .roI⟩ (.cons ⟨rfl, .roI⟩ (.cons ⟨rfl, .roI⟩ (.cons ⟨rfl, .inl rfl⟩ (.cons ⟨rfl, .cellsN rfl⟩ .nil)))))
  · obtain rfl : j = c.nv := by omega
    refine CodeS.loopGK (cuts := []) (σ := Nat) (fun k => [(2, .slice 4 0 (evens c.nv).length), (3, oN 5 (List.range k)), (24, .int .i64 c.latch.length), (25, .int .i64 k)]) (fun k => ((c.heap.alloc c.box).alloc (.cells 1 (nats (evens c.nv)))).alloc (oNB (List.range k))) (fun k => k ≤ c.latch.length) (fun k => c.latch.length - k) 0 (renL [0, 1, 2, 3, 4, 0] 5) (by kernel_rfl) (Nat.zero_le _) ⟨by rw [hacc]; rfl, rfl, rfl, rfl, trivial⟩ (EmbL.lits [0, 1, 2, 3, 4, 0] rfl rfl rfl rfl (.cons ⟨rfl, .inl ⟨rfl, fun h => h⟩⟩ (.cons ⟨rfl, .inl ⟨rfl, fun h => h⟩⟩ (.cons ⟨rfl, .inl ⟨rfl, fun h => h⟩⟩ .nil))) (.cons ⟨rfl, .roI⟩ (.cons ⟨rfl, .roI⟩ (.cons ⟨rfl, .roI⟩ (.cons ⟨rfl, .inl rfl⟩ (.cons ⟨rfl, .cellsN (by rw [hacc])⟩ (.cons ⟨rfl, .gone⟩ .nil))))))) ?_
    intro k g2
    have hs2 : List.range (k + 1) = List.range k ++ [k] := List.range_succ
    have hal2 : (List.range k).length = k := List.length_range
    generalize hacc2 : List.range k = acc2 at *
    rcases acc2 with _ | ⟨y2, acc2⟩
    all_goals conv => whnf
    all_goals
      repeat' first | ((refine Gets.appNat (l := y2 :: acc2) (x := k) rfl rfl rfl rfl rfl (by decide) rfl rfl rfl (by omega) ?_); conv => whnf) | ((with_reducible refine Gets.addI ?_ ?_ ?_); (· omega); (· omega); conv => whnf) | (refine Gets.of _ rfl ?_; conv => whnf) | (refine Fork.dec (fun _ => ?_) (fun _ => ?_) <;> first | (exfalso; omega) | (conv => whnf))
    · refine ⟨k + 1, renL [0, 1, 2, 3, 4, 7] 8, by omega, by omega, ⟨rfl, by rw [hs2]; rfl, rfl, rfl, trivial⟩, ?_⟩
      rw [hs2]
      exact EmbL.litsN [0, 1, 2, 3, 4, 7] rfl rfl rfl rfl (.cons ⟨rfl, .inl ⟨rfl, fun h => h⟩⟩ (.cons ⟨rfl, .inl ⟨rfl, fun h => h⟩⟩ (.cons ⟨rfl, .inl ⟨rfl, fun h => h⟩⟩ .nil))) (.cons ⟨rfl, .roI⟩ (.cons ⟨rfl, .roI⟩ (.cons ⟨rfl, .roI⟩ (.cons ⟨rfl, .inl rfl⟩ (.cons ⟨rfl, .cellsN rfl⟩ (.cons ⟨rfl, .inl rfl⟩ .nil))))))
    · obtain rfl : k = c.latch.length := by omega
      rw [hacc2]
      rw [evens_length]
      exact ⟨renL [0, 1, 2, 4, 0] 6, .tuple [.slice 3 0 c.nv, oN 4 []], (c.heap.alloc (.cells 1 (nats (evens c.nv)))).alloc (oNB []), EmbL.lits [0, 1, 2, 4, 0] rfl rfl rfl rfl (.cons ⟨rfl, .inl ⟨rfl, fun h => h⟩⟩ (.cons ⟨rfl, .inl ⟨rfl, fun h => h⟩⟩ (.cons ⟨rfl, .inl ⟨rfl, fun h => h⟩⟩ .nil))) (.cons ⟨rfl, .roI⟩ (.cons ⟨rfl, .roI⟩ (.cons ⟨rfl, .roI⟩ (.cons ⟨rfl, .cellsN rfl⟩ (.cons ⟨rfl, .gone⟩ .nil))))), rfl, rfl, rfl⟩
    · refine ⟨k + 1, renL [0, 1, 2, 3, 4, 7] 8, by omega, by omega, ⟨rfl, ?_, rfl, rfl, trivial⟩, ?_⟩
      · rw [hs2]; show AVal.slice 7 0 _ = AVal.slice 7 0 _; simp
      · rw [hs2]
        exact EmbL.litsN [0, 1, 2, 3, 4, 7] rfl rfl rfl rfl (.cons ⟨rfl, .inl ⟨rfl, fun h => h⟩⟩ (.cons ⟨rfl, .inl ⟨rfl, fun h => h⟩⟩ (.cons ⟨rfl, .inl ⟨rfl, fun h => h⟩⟩ .nil))) (.cons ⟨rfl, .roI⟩ (.cons ⟨rfl, .roI⟩ (.cons ⟨rfl, .roI⟩ (.cons ⟨rfl, .inl rfl⟩ (.cons ⟨rfl, .cellsN rfl⟩ (.cons ⟨rfl, .cellsN rfl⟩ .nil))))))
    · obtain rfl : k = c.latch.length := by omega
      rw [hacc2]
      rw [evens_length]
      exact ⟨renL [0, 1, 2, 4, 5] 6, .tuple [.slice 3 0 c.nv, oN 4 (y2 :: acc2)], (c.heap.alloc (.cells 1 (nats (evens c.nv)))).alloc (oNB (y2 :: acc2)), EmbL.litsN [0, 1, 2, 4, 5] rfl rfl rfl rfl (.cons ⟨rfl, .inl ⟨rfl, fun h => h⟩⟩ (.cons ⟨rfl, .inl ⟨rfl, fun h => h⟩⟩ (.cons ⟨rfl, .inl ⟨rfl, fun h => h⟩⟩ .nil))) (.cons ⟨rfl, .roI⟩ (.cons ⟨rfl, .roI⟩ (.cons ⟨rfl, .roI⟩ (.cons ⟨rfl, .cellsN rfl⟩ (.cons ⟨rfl, .cellsN rfl⟩ .nil))))), rfl, rfl, rfl⟩
end Go.Proofs.Ytmghlldboiplpaa
