/- The period of a row. -/
import Derived.Test.YthjemhlcojmiaaaDoorWnf
import Derived.Test.YthjemhlcojmiaaaDoorWcc
-- VkG VkH
set_option linter.unusedVariables false
set_option linter.unusedSimpArgs false
set_option maxRecDepth 100000
set_option maxHeartbeats 1000000
namespace Go.Proofs.YthjemhlcojmiaaaDoor
open Go Go.Vh Go.Vk Go.Proofs
theorem isPer_self {l : List Int} (hl : 0 < l.length) (h : ∀ q, 0 < q → q < l.length → ¬ Pd l q) : IsPer l l.length := ⟨hl, Nat.le_refl _, pd_self l, h⟩
theorem period57 (l : List Int) (h0 : 0 < l.length) (hl : l.length ≤ 4294967296) : CallW Tryd.prog 57 [.view 0 0 l.length] (emptyH.alloc (.ro 1 (ints l))) fun v _ => v = .int .i64 (per l : Int) := by
  refine CallW.symK (cuts := []) Tryd.func57 rfl (by kernel_rfl) ?_
  conv => whnf
  skip
  refine CodeS.scope0 (cuts := []) (by kernel_rfl) ?_
  conv => whnf
  skip
  refine CodeS.loopSK (cuts := []) (σ := Nat) (fun p => [(0, .view 0 0 l.length), (3, .int .i64 (p : Int))]) (fun _ => emptyH.alloc (.ro 1 (ints l))) (fun p => 0 < p ∧ p ≤ l.length ∧ ∀ q, 0 < q → q < p → ¬ Pd l q) (fun p => l.length - p) 1 (by kernel_rfl) ⟨by decide, h0, fun q h1 h2 => by omega⟩ ⟨rfl, rfl, trivial⟩ rfl ?_
  rintro p ⟨g1, g2, g3⟩
  conv => whnf
  repeat' first | ((with_reducible refine Gets.remN ?_ ?_ ?_); (· omega); (· omega); conv => whnf) | ((with_reducible refine Gets.addI ?_ ?_ ?_); (· omega); (· omega); conv => whnf) | (refine Gets.of _ rfl ?_; conv => whnf) | (refine Fork.dec (fun _ => ?_) (fun _ => ?_) <;> first | (exfalso; omega) | (conv => whnf)) | (refine Fork.neI (fun _ => ?_) (fun _ => ?_) <;> first | (exfalso; omega) | (conv => whnf))
  · rename_i hm
    have e : (l.length : Int) % (p : Int) = ((l.length % p : Nat) : Int) := rfl
    exact ⟨p + 1, ⟨by omega, by omega, fun q h1 h2 => by
      rcases Nat.lt_or_ge q p with a | a
      · exact g3 q h1 a
      · rw [show q = p by omega]; intro h; exact hm (by rw [e, h.1]; rfl)⟩, by omega, ⟨rfl, rfl, trivial⟩, rfl⟩
  · rename_i hm
    have e : (l.length : Int) % (p : Int) = ((l.length % p : Nat) : Int) := rfl
    have hm' : l.length % p = 0 := by rw [e] at hm; omega
    refine CodeS.loopSK (cuts := []) (σ := Nat) (fun j => [(0, .view 0 0 l.length), (3, .int .i64 (p : Int)), (4, .int .i64 (j : Int))]) (fun _ => emptyH.alloc (.ro 1 (ints l))) (fun j => p ≤ j ∧ j ≤ l.length ∧ ∀ i, p ≤ i → i < j → l.getD i 0 = l.getD (i - p) 0) (fun j => l.length - j) p (by kernel_rfl) ⟨Nat.le_refl _, g2, fun i h1 h2 => by omega⟩ ⟨rfl, rfl, rfl, trivial⟩ rfl ?_
    rintro j ⟨k1, k2, k3⟩
    rcases Nat.lt_or_ge j l.length with hj | hj
    · conv => whnf
      repeat' first | (refine Gets.of _ rfl ?_; conv => whnf) | (refine Fork.dec (fun _ => ?_) (fun _ => ?_) <;> first | (exfalso; omega) | (conv => whnf))
      refine CodeS.drawT [0] (.take 0 (.take 1 (.take 2 (.take 3 (.take 4 (.take 5 (.take 6 (.take 7 (.take 8 (.take 9 (.take 10 .done))))))))))) mixed (by kernel_rfl) (.cons ⟨rfl, live_of_ints rfl (by omega)⟩ .nil) ?_
      conv => whnf
      repeat' first | ((with_reducible refine Gets.addI ?_ ?_ ?_); (· omega); (· omega); conv => whnf) | ((with_reducible refine Gets.subI ?_ ?_ ?_); (· omega); (· omega); conv => whnf) | (refine Gets.ix1v rfl rfl (by omega) ?_; conv => whnf) | (refine Gets.ixIv rfl rfl (by omega) (by omega) ?_; conv => whnf) | (refine Gets.ldI rfl (by first | rfl | assumption) (by first | omega | exact Nat.le_of_ble_eq_true rfl) ?_; conv => whnf) | (refine Fork.neI (fun _ => ?_) (fun _ => ?_) <;> first | (exfalso; omega) | (conv => whnf))
      · rename_i hne
        exact ⟨p + 1, ⟨by omega, by omega, fun q h1 h2 => by
          rcases Nat.lt_or_ge q p with a | a
          · exact g3 q h1 a
          · rw [show q = p by omega]; intro h; exact hne (by have := h.2 j k1 hj; rw [this]; congr 1; omega)⟩, by omega, ⟨rfl, rfl, trivial⟩, rfl⟩
      · rename_i he
        exact ⟨j + 1, ⟨by omega, by omega, fun i h1 h2 => by
          rcases Nat.lt_or_ge i j with a | a
          · exact k3 i h1 a
          · rw [show i = j by omega, he]; congr 1; omega⟩, by omega, ⟨rfl, rfl, rfl, trivial⟩, rfl⟩
    · conv => whnf
      repeat' first | (refine Gets.of _ rfl ?_; conv => whnf) | (refine Fork.dec (fun _ => ?_) (fun _ => ?_) <;> first | (exfalso; omega) | (conv => whnf))
      rw [per_eq ⟨g1, g2, ⟨hm', fun i h1 h2 => k3 i h1 (by omega)⟩, g3⟩]
  · rw [per_eq (isPer_self h0 fun q h1 h2 => g3 q h1 (by omega))]
theorem period57a (l : List Int) (h0 : 0 < l.length) (hl : l.length ≤ 4294967296) {H : AHeap} {i : Nat} (hi : At H 1 (ints l) i) : CallW Tryd.prog 57 [.view i 0 l.length] H fun v H' => H' = H ∧ v = .int .i64 (per l : Int) :=
  (period57 l h0 hl).readsAt (by rintro _ rfl; rfl) [i] rfl (.cons ⟨_, _, rfl, hi⟩ .nil)
end Go.Proofs.YthjemhlcojmiaaaDoor
