/- The rest of a word. -/
import Derived.Test.YthjemhlcojmiaaaDoorWdc
-- VkG VkH
set_option linter.unusedVariables false
set_option linter.unusedSimpArgs false
set_option maxRecDepth 100000
set_option maxHeartbeats 1000000
namespace Go.Proofs.YthjemhlcojmiaaaDoor
open Go Go.Vh Go.Vk Go.Proofs
def turn (l : List Int) (r : Nat) : List Int := l.drop r ++ l.take r
theorem turn_length (l : List Int) (r : Nat) : (turn l r).length = l.length := by
  unfold turn
  rw [List.length_append, List.length_drop, List.length_take]
  omega
theorem turn_parts (l : List Int) (r : Nat) : (l.drop r).take (l.length - r) ++ (l.drop 0).take r = turn l r := by
  unfold turn
  rw [List.take_of_length_le (by rw [List.length_drop]; exact Nat.le_refl _), List.drop_zero]
noncomputable def restP (w : Wd) (k : Nat) : Pw := if k ≤ w.stem.length then nfP (w.stem.drop k) w.loop else nfP [] (turn w.loop ((k - w.stem.length) % w.loop.length))
theorem rest46 (w : Wd) (h : w.Ok 6) (k : Nat) (hk : k ≤ 9223372036854775807) : CallW Tryd.prog 46 [w.av 0 1, .int .i64 (k : Int)] (wh w.stem w.loop) fun v H' => v = (restP w k).av 2 3 ∧ H' = ((wh w.stem w.loop).alloc (vB (restP w k).full)).alloc (vB (restP w k).loop) := by
  have hs := h.s32
  have hl := h.l32
  have h0 := h.p
  refine CallW.symRK (cuts := []) Tryd.func46 rfl (by kernel_rfl) ?_
  conv => whnf
  repeat' first | ((with_reducible refine Gets.remN ?_ ?_ ?_); (· omega); (· omega); conv => whnf) | ((with_reducible refine Gets.subI ?_ ?_ ?_); (· omega); (· omega); conv => whnf) | (refine Gets.of _ rfl ?_; conv => whnf) | (refine Fork.dec (fun _ => ?_) (fun _ => ?_) <;> first | (exfalso; omega) | (conv => whnf))
  · refine CodeS.drawT [2] (.take 0 (.take 1 (.take 2 (.take 3 (.take 4 (.take 5 (.take 6 (.one 7 true (.one 8 false .done))))))))) mixed (by kernel_rfl) (.cons ⟨rfl, trivial⟩ .nil) ?_
    conv => whnf
    repeat' first | ((refine Gets.sliceLoW (k := k) rfl rfl rfl ⟨_, .inl rfl⟩ (by omega) ?_); conv => whnf) | (refine Gets.of _ rfl ?_; conv => whnf)
    refine CallPS.of (by kernel_rfl) (mkAt (norm44 w.stem w.loop k (by omega) hs h0 hl) (.roB rfl rfl) (.roB rfl rfl)) rfl ?_
    rintro _ _ ⟨rfl, rfl⟩
    have e : restP w k = nfP (w.stem.drop k) w.loop := if_pos (by omega)
    rw [e]
    conv => whnf
    repeat' first | (refine Gets.of _ rfl ?_; conv => whnf) | (refine Chk.mk (by repeat first | exact .nil | refine .cons rfl ?_) ?_; conv => whnf)
    exact ⟨renL [0, 1, 4, 5] 6, (nfP (w.stem.drop k) w.loop).av 2 3, ((wh w.stem w.loop).alloc (vB (nfP (w.stem.drop k) w.loop).full)).alloc (vB (nfP (w.stem.drop k) w.loop).loop), EmbL.litsN [0, 1, 4, 5] rfl rfl rfl rfl (.cons ⟨rfl, .inl ⟨rfl, fun h => h⟩⟩ (.cons ⟨rfl, .inl ⟨rfl, fun h => h⟩⟩ .nil)) (.cons ⟨rfl, .roI⟩ (.cons ⟨rfl, .roI⟩ (.cons ⟨rfl, .vS rfl⟩ (.cons ⟨rfl, .vS rfl⟩ .nil)))), rfl, rfl, rfl⟩
  · have hmod := Nat.mod_lt (k - w.stem.length) h0
    have er : ((k : Int) - (w.stem.length : Int)) % (w.loop.length : Int) = (((k - w.stem.length) % w.loop.length : Nat) : Int) := by rw [show (k : Int) - (w.stem.length : Int) = ((k - w.stem.length : Nat) : Int) by omega]; rfl
    have e : restP w k = nfP [] (turn w.loop ((k - w.stem.length) % w.loop.length)) := if_neg (by omega)
    rw [e, er]
    obtain ⟨r, hr⟩ : ∃ r, r = (k - w.stem.length) % w.loop.length := ⟨_, rfl⟩
    rw [← hr] at hmod ⊢
    have hlen := turn_length w.loop r
    refine CodeS.drawT [2] (.take 1 (.take 2 (.take 3 (.take 4 (.take 6 (.take 7 (.take 8 (.take 9 (.one 0 true (.one 5 true (.one 10 true (.take 11 (.one 12 true (.one 13 false .done)))))))))))))) mixed (by kernel_rfl) (.cons ⟨rfl, trivial⟩ .nil) ?_
    conv => whnf
    repeat' first | ((refine Gets.sliceLoW (k := r) rfl rfl rfl ⟨_, .inl rfl⟩ (by omega) ?_); conv => whnf) | ((refine Gets.sliceHiW (k := r) rfl rfl rfl ⟨_, .inl rfl⟩ (by omega) ?_); conv => whnf) | (refine Gets.of _ rfl ?_; conv => whnf) | (refine Chk.mk (by repeat first | exact .nil | refine .cons rfl ?_) ?_; conv => whnf)
    refine Gets.appSrc (ti := tiI) (l := []) (xs := (w.loop.drop r).take (w.loop.length - r)) (m := 0) (n := w.loop.length - r) rfl rfl rfl rfl rfl (by decide) (Nat.le_refl _) (src_part (by omega) (.inl rfl)).2 rfl (by omega) ?_
    rw [show [].take 0 ++ (w.loop.drop r).take (w.loop.length - r) = (w.loop.drop r).take (w.loop.length - r) from rfl, show 0 + (w.loop.length - r) = w.loop.length - r by omega]
    conv => whnf
    repeat' (refine Chk.mk (by repeat first | exact .nil | refine .cons rfl ?_) ?_; conv => whnf)
    refine Gets.appSrc (ti := tiI) (l := (w.loop.drop r).take (w.loop.length - r)) (xs := (w.loop.drop 0).take r) (m := w.loop.length - r) (n := r) rfl rfl rfl rfl rfl (by decide) (by rw [List.length_take, List.length_drop]; omega) (src_part (by omega) (.inl rfl)).2 rfl (by omega) ?_
    rw [show ((w.loop.drop r).take (w.loop.length - r)).take (w.loop.length - r) = (w.loop.drop r).take (w.loop.length - r) by rw [List.take_take, Nat.min_self], turn_parts, show w.loop.length - r + r = (turn w.loop r).length by omega]
    conv => whnf
    repeat' (refine Chk.mk (by repeat first | exact .nil | refine .cons rfl ?_) ?_; conv => whnf)
    refine CallPS.of (by kernel_rfl) ((mkAt (norm44 [] (turn w.loop r) 0 (Nat.zero_le _) (by decide) (by omega) (by omega)) (i := 0) (Spare.at ⟨rfl, _, .inl rfl⟩) (.celB rfl rfl)).argsT (.cons (Tells.agg (.cons (Tells.nilView rfl) (.cons Tells.sliceView .nil))) .nil)) rfl ?_
    rintro _ _ ⟨rfl, rfl⟩
    conv => whnf
    repeat' first | (refine Gets.of _ rfl ?_; conv => whnf) | (refine Chk.mk (by repeat first | exact .nil | refine .cons rfl ?_) ?_; conv => whnf)
    exact ⟨renL [0, 1, 7, 8] 9, (nfP [] (turn w.loop r)).av 2 3, ((wh w.stem w.loop).alloc (vB [])).alloc (vB (nfP [] (turn w.loop r)).loop), EmbL.litsN [0, 1, 7, 8] rfl rfl rfl rfl (.cons ⟨rfl, .inl ⟨rfl, fun h => h⟩⟩ (.cons ⟨rfl, .inl ⟨rfl, fun h => h⟩⟩ .nil)) (.cons ⟨rfl, .roI⟩ (.cons ⟨rfl, .roI⟩ (.cons ⟨rfl, .roE⟩ (.cons ⟨rfl, .vS rfl⟩ .nil)))), rfl, rfl, rfl⟩
open Classical in
noncomputable def outF (w : Wd) (k : Int) : Pw × Int := if w.Ok 6 then (if k < 0 then (errP, 6) else (restP w k.toNat, 0)) else (errP, 1)
theorem from22 (w : Wd) (hf : w.Fits) (k : Int) (hk : k ≤ 9223372036854775807) : CallW Tryd.prog 22 [w.av 0 1, .int .i64 k] (wh w.stem w.loop) (Makes w (outF w k)) := by
  unfold Makes
  refine CallW.tells ?_
  refine CallW.symRK (cuts := []) Tryd.func22 rfl (by kernel_rfl) ?_
  conv => whnf
  repeat' (refine Gets.of _ rfl ?_; conv => whnf)
  refine CallS.of (by kernel_rfl) (valid26a w hf 6 (.roB rfl rfl) (.roB rfl rfl)) rfl ?_
  rintro _ _ ⟨rfl, hp | hp⟩
  all_goals conv => whnf
  all_goals unfold outF
  · rw [if_pos hp]
    have hs := hp.s32
    have hl := hp.l32
    have h0 := hp.p
    rcases (by omega : k < 0 ∨ 0 ≤ k) with hk0 | hk0
    · repeat' first | (refine Gets.of _ rfl ?_; conv => whnf) | (refine Fork.dec (fun _ => ?_) (fun _ => ?_) <;> first | (exfalso; omega) | (conv => whnf))
      rw [if_pos hk0]
      exact ⟨renL [0, 1, 2, 3] 4, .tuple [.agg [.nilSlice, .nilSlice], .int .i64 6], ((wh w.stem w.loop).alloc (vB [])).alloc (vB []), EmbL.litsN [0, 1, 2, 3] rfl rfl rfl rfl (.cons ⟨rfl, .inl ⟨rfl, fun h => h⟩⟩ (.cons ⟨rfl, .inl ⟨rfl, fun h => h⟩⟩ .nil)) (.cons ⟨rfl, .roI⟩ (.cons ⟨rfl, .roI⟩ (.cons ⟨rfl, .roEc⟩ (.cons ⟨rfl, .roEc⟩ .nil)))), rfl, _, ⟨rfl, rfl⟩, Tells.tup (.cons (Tells.agg (.cons (Tells.nilView rfl) (.cons (Tells.nilView rfl) .nil))) (.cons (Tells.refl _ _) .nil))⟩
    · obtain ⟨n, rfl⟩ : ∃ n : Nat, k = (n : Int) := ⟨k.toNat, by omega⟩
      rw [if_neg (by omega), show ((n : Int)).toNat = n from rfl]
      repeat' first | ((with_reducible refine Gets.remN ?_ ?_ ?_); (· omega); (· omega); conv => whnf) | ((with_reducible refine Gets.subI ?_ ?_ ?_); (· omega); (· omega); conv => whnf) | (refine Gets.of _ rfl ?_; conv => whnf) | (refine Fork.noR rfl ?_; conv => whnf) | (refine Fork.dec (fun _ => ?_) (fun _ => ?_) <;> first | (exfalso; omega) | (conv => whnf))
      · refine CodeS.drawT [2] (.take 0 (.take 1 (.take 2 (.take 3 (.take 4 (.take 5 (.take 6 (.one 7 true (.one 8 false (.take 9 .done)))))))))) mixed (by kernel_rfl) (.cons ⟨rfl, trivial⟩ .nil) ?_
        conv => whnf
        repeat' first | ((refine Gets.sliceLoW (k := n) rfl rfl rfl ⟨_, .inl rfl⟩ (by omega) ?_); conv => whnf) | (refine Gets.of _ rfl ?_; conv => whnf)
        refine CallPS.of (by kernel_rfl) (mkAt (normal36 w.stem w.loop n (by omega) hs h0 hl) (.roB rfl rfl) (.roB rfl rfl)) rfl ?_
        rintro _ _ ⟨rfl, rfl⟩
        have e : restP w n = nfP (w.stem.drop n) w.loop := if_pos (by omega)
        rw [e]
        conv => whnf
        repeat' first | (refine Gets.of _ rfl ?_; conv => whnf) | (refine Chk.mk (by repeat first | exact .nil | refine .cons rfl ?_) ?_; conv => whnf)
        exact ⟨renL [0, 1, 4, 5] 6, .tuple [(nfP (w.stem.drop n) w.loop).av 2 3, .int .i64 0], ((wh w.stem w.loop).alloc (vB (nfP (w.stem.drop n) w.loop).full)).alloc (vB (nfP (w.stem.drop n) w.loop).loop), EmbL.litsN [0, 1, 4, 5] rfl rfl rfl rfl (.cons ⟨rfl, .inl ⟨rfl, fun h => h⟩⟩ (.cons ⟨rfl, .inl ⟨rfl, fun h => h⟩⟩ .nil)) (.cons ⟨rfl, .roI⟩ (.cons ⟨rfl, .roI⟩ (.cons ⟨rfl, .vS rfl⟩ (.cons ⟨rfl, .vS rfl⟩ .nil)))), rfl, _, ⟨rfl, rfl⟩, Tells.refl _ _⟩
      · have hmod := Nat.mod_lt (n - w.stem.length) h0
        have er : ((n : Int) - (w.stem.length : Int)) % (w.loop.length : Int) = (((n - w.stem.length) % w.loop.length : Nat) : Int) := by rw [show (n : Int) - (w.stem.length : Int) = ((n - w.stem.length : Nat) : Int) by omega]; rfl
        have e : restP w n = nfP [] (turn w.loop ((n - w.stem.length) % w.loop.length)) := if_neg (by omega)
        rw [e, er]
        obtain ⟨r, hr⟩ : ∃ r, r = (n - w.stem.length) % w.loop.length := ⟨_, rfl⟩
        rw [← hr] at hmod ⊢
        have hlen := turn_length w.loop r
        refine CodeS.drawT [2] (.take 0 (.take 1 (.take 2 (.take 3 (.take 4 (.take 5 (.take 6 (.take 7 (.one 8 true (.one 9 true (.take 10 (.one 11 true (.one 12 false (.take 13 .done)))))))))))))) mixed (by kernel_rfl) (.cons ⟨rfl, trivial⟩ .nil) ?_
        conv => whnf
        repeat' first | ((refine Gets.sliceLoW (k := r) rfl rfl rfl ⟨_, .inl rfl⟩ (by omega) ?_); conv => whnf) | ((refine Gets.sliceHiW (k := r) rfl rfl rfl ⟨_, .inl rfl⟩ (by omega) ?_); conv => whnf) | (refine Gets.of _ rfl ?_; conv => whnf) | (refine Chk.mk (by repeat first | exact .nil | refine .cons rfl ?_) ?_; conv => whnf)
        refine CallPS.of (by kernel_rfl) ((concatV w.loop w.loop r (w.loop.length - r) 0 r (by omega) (by omega) (by omega) (by omega)).frameQ [1, 1, 4] rfl (.cons ⟨rfl, .roI⟩ (.cons ⟨rfl, .roI⟩ (.cons ⟨rfl, .roCs rfl⟩ .nil))) (by rintro _ _ ⟨rfl, rfl⟩; repeat first | exact .nil | refine .cons (by first | exact .inr rfl | exact .inl rfl | exact .inr (fresh_oN _) | exact .inr (fresh_oP _) | exact .inr (fresh_oI _)) ?_)) rfl ?_
        rintro _ _ ⟨_, _, ⟨rfl, rfl⟩, rfl, rfl⟩
        rw [turn_parts, show w.loop.length - r + r = (turn w.loop r).length by omega]
        conv => whnf
        repeat' (refine Chk.mk (by repeat first | exact .nil | refine .cons rfl ?_) ?_; conv => whnf)
        refine CallPS.of (by kernel_rfl) ((mkAt (normal36 [] (turn w.loop r) 0 (Nat.zero_le _) (by decide) (by omega) (by omega)) (i := 0) (j := 5) (Spare.at ⟨rfl, _, .inl rfl⟩) (At.renC rfl rfl)).argsT (.cons (Tells.agg (.cons (Tells.nilView rfl) (.cons Tells.sliceView .nil))) .nil)) rfl ?_
        rintro _ _ ⟨rfl, rfl⟩
        conv => whnf
        repeat' first | (refine Gets.of _ rfl ?_; conv => whnf) | (refine Chk.mk (by repeat first | exact .nil | refine .cons rfl ?_) ?_; conv => whnf)
        exact ⟨renL [0, 1, 6, 7] 8, .tuple [(nfP [] (turn w.loop r)).av 2 3, .int .i64 0], ((wh w.stem w.loop).alloc (vB [])).alloc (vB (nfP [] (turn w.loop r)).loop), EmbL.litsN [0, 1, 6, 7] rfl rfl rfl rfl (.cons ⟨rfl, .inl ⟨rfl, fun h => h⟩⟩ (.cons ⟨rfl, .inl ⟨rfl, fun h => h⟩⟩ .nil)) (.cons ⟨rfl, .roI⟩ (.cons ⟨rfl, .roI⟩ (.cons ⟨rfl, .roE⟩ (.cons ⟨rfl, .vS rfl⟩ .nil)))), rfl, _, ⟨rfl, rfl⟩, Tells.refl _ _⟩
  · rw [if_neg hp]
    repeat' (refine Gets.of _ rfl ?_; conv => whnf)
    exact ⟨renL [0, 1, 2, 3] 4, .tuple [.agg [.nilSlice, .nilSlice], .int .i64 1], ((wh w.stem w.loop).alloc (vB [])).alloc (vB []), EmbL.litsN [0, 1, 2, 3] rfl rfl rfl rfl (.cons ⟨rfl, .inl ⟨rfl, fun h => h⟩⟩ (.cons ⟨rfl, .inl ⟨rfl, fun h => h⟩⟩ .nil)) (.cons ⟨rfl, .roI⟩ (.cons ⟨rfl, .roI⟩ (.cons ⟨rfl, .roEc⟩ (.cons ⟨rfl, .roEc⟩ .nil)))), rfl, _, ⟨rfl, rfl⟩, Tells.tup (.cons (Tells.agg (.cons (Tells.nilView rfl) (.cons (Tells.nilView rfl) .nil))) (.cons (Tells.refl _ _) .nil))⟩
theorem from23 (w : Wd) (hf : w.Fits) (k : Int) (hk : k ≤ 9223372036854775807) : CallW Tryd.prog 23 [w.av 0 1, .int .i64 k] (wh w.stem w.loop) (Makes w (outF w k)) := by
  unfold Makes
  refine CallW.tells ?_
  refine CallW.symRK (cuts := []) Tryd.func23 rfl (by kernel_rfl) ?_
  conv => whnf
  repeat' (refine Gets.of _ rfl ?_; conv => whnf)
  refine CallS.of (by kernel_rfl) (is41a w hf (.roB rfl rfl) (.roB rfl rfl)) rfl ?_
  rintro _ _ ⟨rfl, hp | hp⟩
  all_goals conv => whnf
  all_goals unfold outF
  · rw [if_pos hp]
    have hs := hp.s32
    have hl := hp.l32
    have h0 := hp.p
    rcases (by omega : k < 0 ∨ 0 ≤ k) with hk0 | hk0
    · repeat' first | (refine Gets.of _ rfl ?_; conv => whnf) | (refine Fork.dec (fun _ => ?_) (fun _ => ?_) <;> first | (exfalso; omega) | (conv => whnf))
      rw [if_pos hk0]
      exact ⟨renL [0, 1, 2, 3] 4, .tuple [.agg [.nilSlice, .nilSlice], .int .i64 6], ((wh w.stem w.loop).alloc (vB [])).alloc (vB []), EmbL.litsN [0, 1, 2, 3] rfl rfl rfl rfl (.cons ⟨rfl, .inl ⟨rfl, fun h => h⟩⟩ (.cons ⟨rfl, .inl ⟨rfl, fun h => h⟩⟩ .nil)) (.cons ⟨rfl, .roI⟩ (.cons ⟨rfl, .roI⟩ (.cons ⟨rfl, .roEc⟩ (.cons ⟨rfl, .roEc⟩ .nil)))), rfl, _, ⟨rfl, rfl⟩, Tells.tup (.cons (Tells.agg (.cons (Tells.nilView rfl) (.cons (Tells.nilView rfl) .nil))) (.cons (Tells.refl _ _) .nil))⟩
    · obtain ⟨n, rfl⟩ : ∃ n : Nat, k = (n : Int) := ⟨k.toNat, by omega⟩
      rw [if_neg (by omega), show ((n : Int)).toNat = n from rfl]
      repeat' first | (refine Gets.of _ rfl ?_; conv => whnf) | (refine Fork.noR rfl ?_; conv => whnf)
      refine CallS.of (by kernel_rfl) (mkAt (rest46 w hp n (by omega)) (.roB rfl rfl) (.roB rfl rfl)) rfl ?_
      rintro _ _ ⟨rfl, rfl⟩
      conv => whnf
      repeat' (refine Gets.of _ rfl ?_; conv => whnf)
      exact ⟨renL [0, 1, 4, 5] 6, .tuple [(restP w n).av 2 3, .int .i64 0], ((wh w.stem w.loop).alloc (vB (restP w n).full)).alloc (vB (restP w n).loop), EmbL.litsN [0, 1, 4, 5] rfl rfl rfl rfl (.cons ⟨rfl, .inl ⟨rfl, fun h => h⟩⟩ (.cons ⟨rfl, .inl ⟨rfl, fun h => h⟩⟩ .nil)) (.cons ⟨rfl, .roI⟩ (.cons ⟨rfl, .roI⟩ (.cons ⟨rfl, .vS rfl⟩ (.cons ⟨rfl, .vS rfl⟩ .nil)))), rfl, _, ⟨rfl, rfl⟩, Tells.refl _ _⟩
  · rw [if_neg hp]
    repeat' (refine Gets.of _ rfl ?_; conv => whnf)
    exact ⟨renL [0, 1, 2, 3] 4, .tuple [.agg [.nilSlice, .nilSlice], .int .i64 1], ((wh w.stem w.loop).alloc (vB [])).alloc (vB []), EmbL.litsN [0, 1, 2, 3] rfl rfl rfl rfl (.cons ⟨rfl, .inl ⟨rfl, fun h => h⟩⟩ (.cons ⟨rfl, .inl ⟨rfl, fun h => h⟩⟩ .nil)) (.cons ⟨rfl, .roI⟩ (.cons ⟨rfl, .roI⟩ (.cons ⟨rfl, .roEc⟩ (.cons ⟨rfl, .roEc⟩ .nil)))), rfl, _, ⟨rfl, rfl⟩, Tells.tup (.cons (Tells.agg (.cons (Tells.nilView rfl) (.cons (Tells.nilView rfl) .nil))) (.cons (Tells.refl _ _) .nil))⟩
end Go.Proofs.YthjemhlcojmiaaaDoor
