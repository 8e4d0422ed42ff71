/- Loops, as the reference makes them. -/
import Derived.Test.YthjemhlcojmiaaaDoorWfr
-- VkG VkH
set_option linter.unusedVariables false
set_option linter.unusedSimpArgs false
set_option maxRecDepth 100000
set_option maxHeartbeats 1000000
namespace Go.Proofs.YthjemhlcojmiaaaDoor
open Go Go.Vh Go.Vk Go.Proofs
/-- A row so many times. -/
def rep (l : List Int) : Nat → List Int
  | 0 => []
  | k + 1 => rep l k ++ l
theorem rep_length (l : List Int) : ∀ k, (rep l k).length = k * l.length
  | 0 => by simp [rep]
  | k + 1 => by rw [rep, List.length_append, rep_length l k, Nat.succ_mul]
open Classical in
noncomputable def outL (w : Wd) (k : Int) : Pw × Int := if w.Ok 6 then (if k < 1 then (⟨w.stem, 0, []⟩, 6) else if 200 < (w.stem.length : Int) + k * (w.loop.length : Int) then (⟨w.stem, 0, []⟩, 3) else (⟨w.stem, w.stem.length, rep w.loop k.toNat⟩, 0)) else (⟨w.stem, 0, []⟩, 1)
def Makes1 (w : Wd) (X : Pw × Int) (v : AVal) (H' : AHeap) : Prop := v = .tuple [X.1.av 0 2, .int .i64 X.2] ∧ H' = (wh w.stem w.loop).alloc (vB X.1.loop)
theorem loops25 (w : Wd) (hf : w.Fits) (k : Int) (hk : k ≤ 9223372036854775807) (hk' : -9223372036854775808 ≤ k) : CallW Tryd.prog 25 [w.av 0 1, .int .i64 k] (wh w.stem w.loop) (Makes1 w (outL w k)) := by
  unfold Makes1
  refine CallW.tells ?_
  refine CallW.symRK (cuts := []) Tryd.func25 rfl (by kernel_rfl) ?_
  conv => whnf
  repeat' (refine Gets.of _ rfl ?_; conv => whnf)
  refine CallS.of (by kernel_rfl) (is41a w hf (.roB rfl rfl) (.roB rfl rfl)) rfl ?_
  rintro _ _ ⟨rfl, hp | hp⟩
  all_goals conv => whnf
  all_goals unfold outL
  · rw [if_pos hp]
    have hm := hp.m
    have h0 := hp.p
    rcases (by omega : k < 1 ∨ 1 ≤ k) with hk0 | hk0
    · repeat' first | (refine Gets.of _ rfl ?_; conv => whnf) | (refine Fork.dec (fun _ => ?_) (fun _ => ?_) <;> first | (exfalso; omega) | (conv => whnf))
      rw [if_pos hk0]
      exact ⟨renL [0, 1, 2] 4, .tuple [.agg [.nilSlice, .nilSlice], .int .i64 6], (wh w.stem w.loop).alloc (vB []), EmbL.litsN [0, 1, 2] rfl rfl rfl rfl (.cons ⟨rfl, .inl ⟨rfl, fun h => h⟩⟩ (.cons ⟨rfl, .inl ⟨rfl, fun h => h⟩⟩ .nil)) (.cons ⟨rfl, .roI⟩ (.cons ⟨rfl, .roI⟩ (.cons ⟨rfl, .roEc⟩ .nil))), rfl, _, ⟨rfl, rfl⟩, Tells.tup (.cons (Tells.agg (.cons (Tells.nilView rfl) (.cons (Tells.nilView rfl) .nil))) (.cons (Tells.refl _ _) .nil))⟩
    · rw [if_neg (by omega)]
      have hkl := Int.mul_le_mul_of_nonneg_left (c := k) (a := 1) (b := (w.loop.length : Int)) (by omega) (by omega)
      obtain ⟨n, rfl⟩ : ∃ n : Nat, k = (n : Int) := ⟨k.toNat, by omega⟩
      rw [show ((n : Int)).toNat = n from rfl]
      rcases Nat.lt_or_ge 200 n with hn | hn
      · rw [if_pos (by omega)]
        repeat' first | (refine Gets.of _ rfl ?_; conv => whnf) | (refine Fork.dec (fun _ => ?_) (fun _ => ?_) <;> first | (exfalso; omega) | (conv => whnf))
        exact ⟨renL [0, 1, 2] 4, .tuple [.agg [.nilSlice, .nilSlice], .int .i64 3], (wh w.stem w.loop).alloc (vB []), EmbL.litsN [0, 1, 2] rfl rfl rfl rfl (.cons ⟨rfl, .inl ⟨rfl, fun h => h⟩⟩ (.cons ⟨rfl, .inl ⟨rfl, fun h => h⟩⟩ .nil)) (.cons ⟨rfl, .roI⟩ (.cons ⟨rfl, .roI⟩ (.cons ⟨rfl, .roEc⟩ .nil))), rfl, _, ⟨rfl, rfl⟩, Tells.tup (.cons (Tells.agg (.cons (Tells.nilView rfl) (.cons (Tells.nilView rfl) .nil))) (.cons (Tells.refl _ _) .nil))⟩
      · have hkr := Int.mul_le_mul_of_nonneg_right (c := (w.loop.length : Int)) (a := (n : Int)) (b := 200) (by omega) (by omega)
        repeat' first | ((with_reducible refine Gets.addI ?_ ?_ ?_); (· omega); (· omega); conv => whnf) | ((with_reducible refine Gets.mulI ?_ ?_ ?_); (· omega); (· omega); conv => whnf) | (refine Gets.of _ rfl ?_; conv => whnf) | (refine Fork.dec (fun _ => ?_) (fun _ => ?_) <;> first | (exfalso; omega) | (conv => whnf))
        · rw [if_pos (by omega)]
          exact ⟨renL [0, 1, 2] 4, .tuple [.agg [.nilSlice, .nilSlice], .int .i64 3], (wh w.stem w.loop).alloc (vB []), EmbL.litsN [0, 1, 2] rfl rfl rfl rfl (.cons ⟨rfl, .inl ⟨rfl, fun h => h⟩⟩ (.cons ⟨rfl, .inl ⟨rfl, fun h => h⟩⟩ .nil)) (.cons ⟨rfl, .roI⟩ (.cons ⟨rfl, .roI⟩ (.cons ⟨rfl, .roEc⟩ .nil))), rfl, _, ⟨rfl, rfl⟩, Tells.tup (.cons (Tells.agg (.cons (Tells.nilView rfl) (.cons (Tells.nilView rfl) .nil))) (.cons (Tells.refl _ _) .nil))⟩
        · rw [if_neg (show ¬ (200 < (w.stem.length : Int) + (n : Int) * (w.loop.length : Int)) by omega)]
          have hn40 : n * w.loop.length ≤ 200 * 200 := Nat.mul_le_mul hn (by omega)
          refine CodeS.loopGK (cuts := []) (σ := Nat) (fun i => [(2, .ptr 2 0), (4, .ptr 3 0), (6, .ptr 4 0), (35, .int .i64 (n : Int)), (36, .int .i64 (i : Int))]) (fun i => match i with
            | 0 => (((wh w.stem w.loop).alloc (.cells 1 [.view 0 0 w.stem.length, .view 1 0 w.loop.length])).alloc (.cells 1 [.nilSlice, .nilSlice])).alloc (.cells 1 [.view 0 0 w.stem.length, .nilSlice])
            | i + 1 => ((((wh w.stem w.loop).alloc (.cells 1 [.view 0 0 w.stem.length, .view 1 0 w.loop.length])).alloc (.cells 1 [.nilSlice, .nilSlice])).alloc (.cells 1 [.view 0 0 w.stem.length, .slice 5 0 (rep w.loop (i + 1)).length])).alloc (.cells 1 (ints (rep w.loop (i + 1))))) (fun i => i ≤ n) (fun i => n - i) 0 (renL [0, 1, 2, 3, 4] 5) (by kernel_rfl) (Nat.zero_le _) ⟨rfl, rfl, rfl, rfl, rfl, trivial⟩ (EmbL.litsN [0, 1, 2, 3, 4] rfl rfl rfl rfl (.cons ⟨rfl, .inl ⟨rfl, fun h => h⟩⟩ (.cons ⟨rfl, .inl ⟨rfl, fun h => h⟩⟩ .nil)) (.cons ⟨rfl, .roI⟩ (.cons ⟨rfl, .roI⟩ (.cons ⟨rfl, .inl rfl⟩ (.cons ⟨rfl, .inl rfl⟩ (.cons ⟨rfl, .inl rfl⟩ .nil)))))) ?_
          intro i g1
          rcases i with _ | i
          · conv => whnf
            repeat' first | ((refine Gets.appNilS (ti := tiI) (n := w.loop.length) (xs := ints w.loop) rfl rfl rfl rfl rfl (by decide) ((src_at rfl (.inl ⟨1, rfl, rfl⟩)).2) h0 (by omega) ?_); conv => whnf) | ((refine Gets.stS (ti := tiS) rfl rfl rfl rfl rfl rfl ?_); conv => whnf) | ((with_reducible refine Gets.addI ?_ ?_ ?_); (· omega); (· omega); conv => whnf) | (refine Gets.of _ rfl ?_; conv => whnf) | (refine Fork.dec (fun _ => ?_) (fun _ => ?_) <;> first | (exfalso; omega) | (conv => whnf))
            exact ⟨1, renL [0, 1, 2, 3, 4, 5] 6, by omega, by omega, ⟨rfl, rfl, rfl, rfl, rfl, trivial⟩, EmbL.litsN [0, 1, 2, 3, 4, 5] rfl rfl rfl rfl (.cons ⟨rfl, .inl ⟨rfl, fun h => h⟩⟩ (.cons ⟨rfl, .inl ⟨rfl, fun h => h⟩⟩ .nil)) (.cons ⟨rfl, .roI⟩ (.cons ⟨rfl, .roI⟩ (.cons ⟨rfl, .inl rfl⟩ (.cons ⟨rfl, .inl rfl⟩ (.cons ⟨rfl, .inl rfl⟩ (.cons ⟨rfl, .cellsI⟩ .nil))))))⟩
          · rcases Nat.lt_or_ge (i + 1) n with hi | hi
            · conv => whnf
              repeat' first | (refine Gets.of _ rfl ?_; conv => whnf) | (refine Fork.dec (fun _ => ?_) (fun _ => ?_) <;> first | (exfalso; omega) | (conv => whnf))
              have hle : (i + 2) * w.loop.length ≤ n * w.loop.length := Nat.mul_le_mul_right _ (by omega)
              have hr1 := rep_length w.loop (i + 1)
              have hr2 := rep_length w.loop (i + 2)
              have hap : (rep w.loop (i + 1)).length + w.loop.length = (rep w.loop (i + 2)).length := (List.length_append ..).symm
              refine Gets.appSrc (ti := tiI) (l := rep w.loop (i + 1)) (xs := w.loop) (m := (rep w.loop (i + 1)).length) (n := w.loop.length) rfl rfl rfl rfl rfl (by decide) (Nat.le_refl _) ((src_at rfl (.inl ⟨1, rfl, rfl⟩)).2) rfl (by omega) ?_
              rw [List.take_length, hap]
              conv => whnf
              repeat' first | ((refine Gets.stS (ti := tiS) rfl rfl rfl rfl rfl rfl ?_); conv => whnf) | ((with_reducible refine Gets.addI ?_ ?_ ?_); (· omega); (· omega); conv => whnf)
              exact ⟨i + 2, renL [0, 1, 2, 3, 4, 6] 7, by omega, by omega, ⟨rfl, rfl, rfl, rfl, rfl, trivial⟩, EmbL.litsN [0, 1, 2, 3, 4, 6] rfl rfl rfl rfl (.cons ⟨rfl, .inl ⟨rfl, fun h => h⟩⟩ (.cons ⟨rfl, .inl ⟨rfl, fun h => h⟩⟩ .nil)) (.cons ⟨rfl, .roI⟩ (.cons ⟨rfl, .roI⟩ (.cons ⟨rfl, .inl rfl⟩ (.cons ⟨rfl, .inl rfl⟩ (.cons ⟨rfl, .inl rfl⟩ (.cons ⟨rfl, .cellsI⟩ .nil))))))⟩
            · obtain rfl : n = i + 1 := by omega
              conv => whnf
              repeat' first | (refine Gets.of _ rfl ?_; conv => whnf) | (refine Fork.dec (fun _ => ?_) (fun _ => ?_) <;> first | (exfalso; omega) | (conv => whnf))
              exact ⟨renL [0, 1, 5] 6, .tuple [.agg [.view 0 0 w.stem.length, .slice 2 0 (rep w.loop (i + 1)).length], .int .i64 0], (wh w.stem w.loop).alloc (vB (rep w.loop (i + 1))), EmbL.litsN [0, 1, 5] rfl rfl rfl rfl (.cons ⟨rfl, .inl ⟨rfl, fun h => h⟩⟩ (.cons ⟨rfl, .inl ⟨rfl, fun h => h⟩⟩ .nil)) (.cons ⟨rfl, .roI⟩ (.cons ⟨rfl, .roI⟩ (.cons ⟨rfl, .vC rfl⟩ .nil))), rfl, _, ⟨rfl, rfl⟩, Tells.tup (.cons (Tells.agg (.cons (Tells.refl _ _) (.cons Tells.sliceView .nil))) (.cons (Tells.refl _ _) .nil))⟩
  · rw [if_neg hp]
    repeat' (refine Gets.of _ rfl ?_; conv => whnf)
    exact ⟨renL [0, 1, 2] 4, .tuple [.agg [.nilSlice, .nilSlice], .int .i64 1], (wh w.stem w.loop).alloc (vB []), EmbL.litsN [0, 1, 2] rfl rfl rfl rfl (.cons ⟨rfl, .inl ⟨rfl, fun h => h⟩⟩ (.cons ⟨rfl, .inl ⟨rfl, fun h => h⟩⟩ .nil)) (.cons ⟨rfl, .roI⟩ (.cons ⟨rfl, .roI⟩ (.cons ⟨rfl, .roEc⟩ .nil))), rfl, _, ⟨rfl, rfl⟩, Tells.tup (.cons (Tells.agg (.cons (Tells.nilView rfl) (.cons (Tells.nilView rfl) .nil))) (.cons (Tells.refl _ _) .nil))⟩
end Go.Proofs.YthjemhlcojmiaaaDoor
