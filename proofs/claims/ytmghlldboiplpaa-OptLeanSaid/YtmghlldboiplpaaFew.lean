/- Few: how many latches, gates and outputs a circuit has. -/
import Derived.Test.YtmghlldboiplpaaLst
import Derived.Test.YtmghlldboiplpaaVal
set_option linter.unusedVariables false
set_option linter.unusedSimpArgs false
set_option maxRecDepth 100000
set_option maxHeartbeats 1000000
namespace Go.Proofs.Ytmghlldboiplpaa
open Go Go.Vh Go.Vk Go.Proofs
def Cir.box4 (c : Cir) : ABlk := .ro 4 [.int .i64 c.inp, .view 0 0 c.latch.length, .view 1 0 c.gates.length, .view 2 0 c.out.length]
theorem few8 (c : Cir) (hf : c.Fits) (a b : Int) : CallW Try.prog 8 [.int .i64 a, .int .i64 b, .slice 3 0 1] (c.heap.alloc c.box4) fun v _ => IsB v (c.Few a b) := by
  obtain ⟨⟨a1, a2⟩, b1, b2, b3⟩ := hf
  refine CallW.symK (cuts := []) Try.func8 rfl (by kernel_rfl) ?_
  conv => whnf
  repeat' (refine Gets.of _ rfl ?_; conv => whnf)
  refine CodeS.loopGK (cuts := []) (σ := Nat) (fun j => [(0, .int .i64 a), (1, .int .i64 b), (11, .slice 3 0 1), (12, .int .i64 1), (13, .int .i64 j)]) (fun _ => c.heap.alloc c.box4) (fun j => j ≤ 1 ∧ (j = 1 → c.Few a b)) (fun j => 1 - j) 0 (renL [0, 1, 2, 3] 4) (by kernel_rfl) ⟨Nat.zero_le _, fun h => by omega⟩ ⟨rfl, rfl, rfl, rfl, rfl, trivial⟩ (EmbL.litsN [0, 1, 2, 3] rfl rfl rfl rfl (.cons ⟨rfl, .inl ⟨rfl, fun h => h⟩⟩ (.cons ⟨rfl, .inl ⟨rfl, fun h => h⟩⟩ (.cons ⟨rfl, .inl ⟨rfl, fun h => h⟩⟩ (.cons ⟨rfl, .inl ⟨rfl, fun h => h⟩⟩ .nil)))) (.cons ⟨rfl, .roI⟩ (.cons ⟨rfl, .roI⟩ (.cons ⟨rfl, .roI⟩ (.cons ⟨rfl, .inl rfl⟩ .nil))))) ?_
  rintro j ⟨g1, g2⟩
  rcases j with _ | _ | j
  · conv => whnf
    repeat' first | (refine Gets.of _ rfl ?_; conv => whnf) | (refine Fork.dec (fun _ => ?_) (fun _ => ?_) <;> first | (exfalso; omega) | (conv => whnf))
    refine CodeS.drawT [4] (.take 0 (.take 1 (.take 2 (.take 3 (.take 4 (.take 5 (.take 6 (.take 7 .done)))))))) mixed (by kernel_rfl) (.cons ⟨rfl, trivial⟩ .nil) ?_
    conv => whnf
    repeat' first | ((with_reducible refine Gets.addI ?_ ?_ ?_); (· omega); (· omega); conv => whnf) | (refine Gets.of _ rfl ?_; conv => whnf) | (refine Fork.dec (fun _ => ?_) (fun _ => ?_) <;> first | (exfalso; omega) | (conv => whnf))
    all_goals first
      | (exact .f fun h => by unfold Cir.Few at h; omega)
      | (exact ⟨1, renL [0, 1, 2, 3] 5, ⟨Nat.le_refl _, fun _ => by unfold Cir.Few; omega⟩, by omega, ⟨rfl, rfl, rfl, rfl, rfl, trivial⟩, EmbL.litsN [0, 1, 2, 3] rfl rfl rfl rfl (.cons ⟨rfl, .inl ⟨rfl, fun h => h⟩⟩ (.cons ⟨rfl, .inl ⟨rfl, fun h => h⟩⟩ (.cons ⟨rfl, .inl ⟨rfl, fun h => h⟩⟩ (.cons ⟨rfl, .inl ⟨rfl, fun h => h⟩⟩ .nil)))) (.cons ⟨rfl, .roI⟩ (.cons ⟨rfl, .roI⟩ (.cons ⟨rfl, .roI⟩ (.cons ⟨rfl, .inl rfl⟩ .nil))))⟩)
  · conv => whnf
    repeat' (refine Fork.dec (fun _ => ?_) (fun _ => ?_) <;> first | (exfalso; omega) | (conv => whnf))
    exact .t (g2 rfl)
  · omega
theorem few8c (c : Cir) (hf : c.Fits) (a b : Int) (H : AHeap) (hn : Nat.ble 5 H.n = true) (h0 : H.f 0 = .ro 1 (ints c.latch)) (h1 : H.f 1 = .ro 2 (ints (pflat c.gates))) (h2 : H.f 2 = .ro 1 (ints c.out)) (h4 : H.f 4 = .cells 4 [.int .i64 c.inp, .view 0 0 c.latch.length, .view 1 0 c.gates.length, .view 2 0 c.out.length]) :
    CallW Try.prog 8 [.int .i64 a, .int .i64 b, .slice 4 0 1] H fun v H' => H' = H ∧ IsB v (c.Few a b) := by
  have hn := Nat.le_of_ble_eq_true hn
  refine (few8 c hf a b).readsL IsB.noRef [0, 1, 2, 4] rfl (.cons ⟨Nat.ble_eq_true_of_le (show 1 ≤ H.n by omega), rfl, ?_⟩ (.cons ⟨Nat.ble_eq_true_of_le (show 2 ≤ H.n by omega), rfl, ?_⟩ (.cons ⟨Nat.ble_eq_true_of_le (show 3 ≤ H.n by omega), rfl, ?_⟩ (.cons ⟨Nat.ble_eq_true_of_le (show 5 ≤ H.n by omega), rfl, ?_⟩ .nil))))
  · show BSub _ _ (H.f 0); rw [h0]; exact .roI
  · show BSub _ _ (H.f 1); rw [h1]; exact .roI
  · show BSub _ _ (H.f 2); rw [h2]; exact .roI
  · show BSub _ _ (H.f 4); rw [h4]; exact .inr (.inr ⟨4, _, rfl, rfl⟩)
end Go.Proofs.Ytmghlldboiplpaa
