/- Split, as the reference has it. -/
import Derived.Test.YthjemhlcojmiaaaDoorGh
-- VkG VkH VmA
set_option linter.unusedVariables false
set_option linter.unusedSimpArgs false
set_option maxRecDepth 100000
set_option maxHeartbeats 20000000
namespace Go.Proofs.YthjemhlcojmiaaaDoor
open Go Go.Vh Go.Vk Go.Proofs
def hU (w : Wd) (A B C D : List Int) (a b : Nat) : AHeap := ((((((emptyH.alloc (.cells 1 [rI w.stem, rI w.loop])).alloc (.cells 1 [acc 3 a, acc 4 b])).alloc (.cells 1 [acc 5 a, acc 6 b])).alloc (accB A a)).alloc (accB B b)).alloc (accB C a)).alloc (accB D b)
open Classical in
theorem splitRr (w : Wd) (hf : w.Fits) (n : Int) (hn : -9223372036854775808 ≤ n ∧ n ≤ 9223372036854775807) (H : AHeap) : CallW Tryd.prog 34 [w.rv, .int .i64 n] H fun r H' => H' = H ∧ r = .tuple [(splitW w n).1.rv, (splitW w n).2.1.rv, .int .i64 (splitW w n).2.2] := by
  refine CallW.pure ?_ rfl H
  refine CallW.symK (cuts := []) Tryd.func34 rfl (by kernel_rfl) ?_
  conv => whnf
  repeat' (refine Gets.of _ rfl ?_; conv => whnf)
  refine CallS.of (by kernel_rfl) (isR w hf _) rfl ?_
  rintro _ _ ⟨rfl, hp | hp⟩
  rotate_left
  · conv => whnf
    skip
    have e : splitW w n = (errW, errW, 1) := if_neg hp
    rw [e]
    refine CodeS.drawT [1] (.take 0 (.two (.one 1 true (.one 2 false (.one 3 false (.take 4 .done)))) (.one 2 false (.one 1 false (.one 3 false (.take 4 .done)))))) mixed (by kernel_rfl) (.cons ⟨rfl, trivial⟩ .nil) ?_
    conv => whnf
    repeat' first | (refine Gets.of _ rfl ?_; conv => whnf) | (refine Chk.mk (by repeat first | exact .nil | refine .cons rfl ?_) ?_; conv => whnf) | (refine Alls.mk ?_ ?_ <;> conv => whnf)
    all_goals exact errT2 1
  have e0 : splitW w n = if n < 0 ∨ 6 < n then (errW, errW, 6) else (nf (mapW (modF n.toNat) w), nf (mapW (divF n.toNat) w), 0) := if_pos hp
  by_cases hb : n < 0 ∨ 6 < n
  · have e : splitW w n = (errW, errW, 6) := by rw [e0]; exact if_pos hb
    rw [e]
    conv => whnf
    repeat' (refine Fork.dec (fun _ => ?_) (fun _ => ?_) <;> first | (exfalso; omega) | (conv => whnf))
    all_goals
      refine CodeS.drawT [1] (.take 0 (.two (.one 1 true (.one 2 false (.one 3 false (.take 4 .done)))) (.one 2 false (.one 1 false (.one 3 false (.take 4 .done)))))) mixed (by kernel_rfl) (.cons ⟨rfl, trivial⟩ .nil) ?_
      conv => whnf
      repeat' first | (refine Gets.of _ rfl ?_; conv => whnf) | (refine Chk.mk (by repeat first | exact .nil | refine .cons rfl ?_) ?_; conv => whnf) | (refine Alls.mk ?_ ?_ <;> conv => whnf)
    all_goals exact errT2 6
  have e : splitW w n = (nf (mapW (modF n.toNat) w), nf (mapW (divF n.toNat) w), 0) := by rw [e0]; exact if_neg hb
  rw [e]
  clear e e0
  obtain ⟨n, rfl⟩ : ∃ n' : Nat, n = (n' : Int) := ⟨n.toNat, by omega⟩
  rw [Int.toNat_natCast]
  have hm := hp.m
  have h0 := hp.p
  have hq : 0 < 2 ^ n := Nat.two_pow_pos n
  have hq6 : (2 ^ n : Nat) ≤ 64 := Nat.le_trans (Nat.pow_le_pow_right (by decide) (show n ≤ 6 by omega)) (by decide)
  conv => whnf
  repeat' first | (refine Gets.of _ rfl ?_; conv => whnf) | (refine Fork.noR rfl ?_; conv => whnf) | (refine Fork.dec (fun _ => ?_) (fun _ => ?_) <;> first | (exfalso; omega) | (conv => whnf))
  refine CodeS.loopGK (cuts := []) (σ := Nat) (fun k => [(1, .int .i64 (n : Int)), (2, .ptr 0 0), (4, .ptr 1 0), (5, .ptr 2 0), (27, rI w.stem), (28, .int .i64 (w.stem.length : Int)), (29, .int .i64 (k : Int))]) (fun k => hU w ((w.stem.take k).map (modF n)) [] ((w.stem.take k).map (divF n)) [] k 0) (fun k => k ≤ w.stem.length) (fun k => w.stem.length - k) 0 (renL [0, 1, 2, 0, 0, 0, 0] 3) (by kernel_rfl) (Nat.zero_le _) ⟨rfl, rfl, rfl, rfl, rfl, rfl, rfl, trivial⟩ (EmbL.lits [0, 1, 2, 0, 0, 0, 0] rfl rfl rfl rfl .nil (.cons ⟨rfl, .inl rfl⟩ (.cons ⟨rfl, .inl rfl⟩ (.cons ⟨rfl, .inl rfl⟩ (.cons ⟨rfl, .roEc⟩ (.cons ⟨rfl, .roEc⟩ (.cons ⟨rfl, .roEc⟩ (.cons ⟨rfl, .roEc⟩ .nil)))))))) ?_
  intro k hk
  rcases Nat.lt_or_ge k w.stem.length with hkl | hkl
  · have hx := inL_lt (hp.s _ (getD_mem hkl)) (by decide) (by decide)
    rcases k with _ | k
    · conv => whnf
      repeat' first | (refine Gets.ixR1 rfl rfl (by omega) ?_; conv => whnf) | (refine Gets.ldRI rfl (by first | omega | exact Nat.le_of_ble_eq_true rfl) ?_; conv => whnf) | (refine Fork.dec (fun _ => ?_) (fun _ => ?_) <;> first | (exfalso; omega) | (conv => whnf))
      refine CodeS.drawT [1, 2] (.take 0 (.take 1 (.take 2 (.take 3 (.take 4 (.take 5 (.take 8 (.take 10 (.take 11 (.take 12 (.two (.one 6 true (.two (.one 7 true (.take 15 (.two (.one 9 true (.one 13 true (.one 14 true (.one 16 false (.take 17 (.one 18 false .done)))))) (.one 13 true (.one 9 true (.one 14 true (.one 16 false (.take 17 (.one 18 false .done))))))))) (.two (.one 9 true (.two (.one 7 true (.take 15 (.one 13 true (.one 14 true (.one 16 false (.take 17 (.one 18 false .done))))))) (.one 13 true (.one 7 true (.take 15 (.one 14 true (.one 16 false (.take 17 (.one 18 false .done))))))))) (.one 13 true (.two (.one 7 true (.take 15 (.one 9 true (.one 14 true (.one 16 false (.take 17 (.one 18 false .done))))))) (.one 9 true (.one 7 true (.take 15 (.one 14 true (.one 16 false (.take 17 (.one 18 false .done)))))))))))) (.two (.one 9 true (.two (.one 6 true (.two (.one 7 true (.take 15 (.one 13 true (.one 14 true (.one 16 false (.take 17 (.one 18 false .done))))))) (.one 13 true (.one 7 true (.take 15 (.one 14 true (.one 16 false (.take 17 (.one 18 false .done))))))))) (.one 13 true (.one 6 true (.one 7 true (.take 15 (.one 14 true (.one 16 false (.take 17 (.one 18 false .done)))))))))) (.one 13 true (.two (.one 6 true (.two (.one 7 true (.take 15 (.one 9 true (.one 14 true (.one 16 false (.take 17 (.one 18 false .done))))))) (.one 9 true (.one 7 true (.take 15 (.one 14 true (.one 16 false (.take 17 (.one 18 false .done))))))))) (.one 9 true (.one 6 true (.one 7 true (.take 15 (.one 14 true (.one 16 false (.take 17 (.one 18 false .done)))))))))))))))))))))) mixed (by kernel_rfl) (.cons ⟨rfl, trivial⟩ (.cons ⟨rfl, trivial⟩ .nil)) ?_
      conv => whnf
      repeat' first | ((refine Gets.shlN (by omega) ?_); conv => whnf) | ((refine Gets.shrI hx.1 (by omega) ?_); conv => whnf) | ((refine Gets.appNilS (ti := tiI) (n := 1) (xs := ints [modF n (w.stem.getD 0 0)]) rfl rfl rfl rfl rfl (by decide) ((src_at (xs := [modF n (w.stem.getD 0 0)]) (n := 1) rfl (.inr rfl)).1) (by decide) (by decide) ?_); conv => whnf) | ((refine Gets.appNilS (ti := tiI) (n := 1) (xs := ints [divF n (w.stem.getD 0 0)]) rfl rfl rfl rfl rfl (by decide) ((src_at (xs := [divF n (w.stem.getD 0 0)]) (n := 1) rfl (.inr rfl)).1) (by decide) (by decide) ?_); conv => whnf) | ((refine Gets.stS (ti := tiS) rfl rfl rfl rfl rfl rfl ?_); conv => whnf) | ((with_reducible refine Gets.remN ?_ ?_ ?_); (· omega); (· omega); conv => whnf) | ((with_reducible refine Gets.addI ?_ ?_ ?_); (· omega); (· omega); conv => whnf) | (refine Gets.of _ rfl ?_; conv => whnf) | (refine Chk.mk (by repeat first | exact .nil | refine .cons rfl ?_) ?_; conv => whnf) | (refine Alls.mk ?_ ?_ <;> conv => whnf)
      · exact ⟨1, renL [0, 1, 2, 8, 4, 10, 6] 11, hkl, (by show w.stem.length - 1 < w.stem.length - 0; omega), ⟨rfl, rfl, rfl, rfl, rfl, rfl, rfl, trivial⟩, EmbL.litsN [0, 1, 2, 8, 4, 10, 6] rfl rfl rfl rfl .nil (.cons ⟨rfl, .inl rfl⟩ (.cons ⟨rfl, .acc2 rfl rfl⟩ (.cons ⟨rfl, .acc2 rfl rfl⟩ (.cons ⟨rfl, .cellsIe (take_map_one _ _ hkl)⟩ (.cons ⟨rfl, .inl rfl⟩ (.cons ⟨rfl, .cellsIe (take_map_one _ _ hkl)⟩ (.cons ⟨rfl, .inl rfl⟩ .nil)))))))⟩
      · exact ⟨1, renL [0, 1, 2, 8, 4, 10, 6] 11, hkl, (by show w.stem.length - 1 < w.stem.length - 0; omega), ⟨rfl, rfl, rfl, rfl, rfl, rfl, rfl, trivial⟩, EmbL.litsN [0, 1, 2, 8, 4, 10, 6] rfl rfl rfl rfl .nil (.cons ⟨rfl, .inl rfl⟩ (.cons ⟨rfl, .acc2 rfl rfl⟩ (.cons ⟨rfl, .acc2 rfl rfl⟩ (.cons ⟨rfl, .cellsIe (take_map_one _ _ hkl)⟩ (.cons ⟨rfl, .inl rfl⟩ (.cons ⟨rfl, .cellsIe (take_map_one _ _ hkl)⟩ (.cons ⟨rfl, .inl rfl⟩ .nil)))))))⟩
      · exact ⟨1, renL [0, 1, 2, 8, 4, 10, 6] 11, hkl, (by show w.stem.length - 1 < w.stem.length - 0; omega), ⟨rfl, rfl, rfl, rfl, rfl, rfl, rfl, trivial⟩, EmbL.litsN [0, 1, 2, 8, 4, 10, 6] rfl rfl rfl rfl .nil (.cons ⟨rfl, .inl rfl⟩ (.cons ⟨rfl, .acc2 rfl rfl⟩ (.cons ⟨rfl, .acc2 rfl rfl⟩ (.cons ⟨rfl, .cellsIe (take_map_one _ _ hkl)⟩ (.cons ⟨rfl, .inl rfl⟩ (.cons ⟨rfl, .cellsIe (take_map_one _ _ hkl)⟩ (.cons ⟨rfl, .inl rfl⟩ .nil)))))))⟩
      · exact ⟨1, renL [0, 1, 2, 9, 4, 10, 6] 11, hkl, (by show w.stem.length - 1 < w.stem.length - 0; omega), ⟨rfl, rfl, rfl, rfl, rfl, rfl, rfl, trivial⟩, EmbL.litsN [0, 1, 2, 9, 4, 10, 6] rfl rfl rfl rfl .nil (.cons ⟨rfl, .inl rfl⟩ (.cons ⟨rfl, .acc2 rfl rfl⟩ (.cons ⟨rfl, .acc2 rfl rfl⟩ (.cons ⟨rfl, .cellsIe (take_map_one _ _ hkl)⟩ (.cons ⟨rfl, .inl rfl⟩ (.cons ⟨rfl, .cellsIe (take_map_one _ _ hkl)⟩ (.cons ⟨rfl, .inl rfl⟩ .nil)))))))⟩
      · exact ⟨1, renL [0, 1, 2, 9, 4, 10, 6] 11, hkl, (by show w.stem.length - 1 < w.stem.length - 0; omega), ⟨rfl, rfl, rfl, rfl, rfl, rfl, rfl, trivial⟩, EmbL.litsN [0, 1, 2, 9, 4, 10, 6] rfl rfl rfl rfl .nil (.cons ⟨rfl, .inl rfl⟩ (.cons ⟨rfl, .acc2 rfl rfl⟩ (.cons ⟨rfl, .acc2 rfl rfl⟩ (.cons ⟨rfl, .cellsIe (take_map_one _ _ hkl)⟩ (.cons ⟨rfl, .inl rfl⟩ (.cons ⟨rfl, .cellsIe (take_map_one _ _ hkl)⟩ (.cons ⟨rfl, .inl rfl⟩ .nil)))))))⟩
      · exact ⟨1, renL [0, 1, 2, 9, 4, 10, 6] 11, hkl, (by show w.stem.length - 1 < w.stem.length - 0; omega), ⟨rfl, rfl, rfl, rfl, rfl, rfl, rfl, trivial⟩, EmbL.litsN [0, 1, 2, 9, 4, 10, 6] rfl rfl rfl rfl .nil (.cons ⟨rfl, .inl rfl⟩ (.cons ⟨rfl, .acc2 rfl rfl⟩ (.cons ⟨rfl, .acc2 rfl rfl⟩ (.cons ⟨rfl, .cellsIe (take_map_one _ _ hkl)⟩ (.cons ⟨rfl, .inl rfl⟩ (.cons ⟨rfl, .cellsIe (take_map_one _ _ hkl)⟩ (.cons ⟨rfl, .inl rfl⟩ .nil)))))))⟩
      · exact ⟨1, renL [0, 1, 2, 8, 4, 10, 6] 11, hkl, (by show w.stem.length - 1 < w.stem.length - 0; omega), ⟨rfl, rfl, rfl, rfl, rfl, rfl, rfl, trivial⟩, EmbL.litsN [0, 1, 2, 8, 4, 10, 6] rfl rfl rfl rfl .nil (.cons ⟨rfl, .inl rfl⟩ (.cons ⟨rfl, .acc2 rfl rfl⟩ (.cons ⟨rfl, .acc2 rfl rfl⟩ (.cons ⟨rfl, .cellsIe (take_map_one _ _ hkl)⟩ (.cons ⟨rfl, .inl rfl⟩ (.cons ⟨rfl, .cellsIe (take_map_one _ _ hkl)⟩ (.cons ⟨rfl, .inl rfl⟩ .nil)))))))⟩
      · exact ⟨1, renL [0, 1, 2, 9, 4, 10, 6] 11, hkl, (by show w.stem.length - 1 < w.stem.length - 0; omega), ⟨rfl, rfl, rfl, rfl, rfl, rfl, rfl, trivial⟩, EmbL.litsN [0, 1, 2, 9, 4, 10, 6] rfl rfl rfl rfl .nil (.cons ⟨rfl, .inl rfl⟩ (.cons ⟨rfl, .acc2 rfl rfl⟩ (.cons ⟨rfl, .acc2 rfl rfl⟩ (.cons ⟨rfl, .cellsIe (take_map_one _ _ hkl)⟩ (.cons ⟨rfl, .inl rfl⟩ (.cons ⟨rfl, .cellsIe (take_map_one _ _ hkl)⟩ (.cons ⟨rfl, .inl rfl⟩ .nil)))))))⟩
      · exact ⟨1, renL [0, 1, 2, 9, 4, 10, 6] 11, hkl, (by show w.stem.length - 1 < w.stem.length - 0; omega), ⟨rfl, rfl, rfl, rfl, rfl, rfl, rfl, trivial⟩, EmbL.litsN [0, 1, 2, 9, 4, 10, 6] rfl rfl rfl rfl .nil (.cons ⟨rfl, .inl rfl⟩ (.cons ⟨rfl, .acc2 rfl rfl⟩ (.cons ⟨rfl, .acc2 rfl rfl⟩ (.cons ⟨rfl, .cellsIe (take_map_one _ _ hkl)⟩ (.cons ⟨rfl, .inl rfl⟩ (.cons ⟨rfl, .cellsIe (take_map_one _ _ hkl)⟩ (.cons ⟨rfl, .inl rfl⟩ .nil)))))))⟩
      · exact ⟨1, renL [0, 1, 2, 9, 4, 10, 6] 11, hkl, (by show w.stem.length - 1 < w.stem.length - 0; omega), ⟨rfl, rfl, rfl, rfl, rfl, rfl, rfl, trivial⟩, EmbL.litsN [0, 1, 2, 9, 4, 10, 6] rfl rfl rfl rfl .nil (.cons ⟨rfl, .inl rfl⟩ (.cons ⟨rfl, .acc2 rfl rfl⟩ (.cons ⟨rfl, .acc2 rfl rfl⟩ (.cons ⟨rfl, .cellsIe (take_map_one _ _ hkl)⟩ (.cons ⟨rfl, .inl rfl⟩ (.cons ⟨rfl, .cellsIe (take_map_one _ _ hkl)⟩ (.cons ⟨rfl, .inl rfl⟩ .nil)))))))⟩
      · exact ⟨1, renL [0, 1, 2, 9, 4, 10, 6] 11, hkl, (by show w.stem.length - 1 < w.stem.length - 0; omega), ⟨rfl, rfl, rfl, rfl, rfl, rfl, rfl, trivial⟩, EmbL.litsN [0, 1, 2, 9, 4, 10, 6] rfl rfl rfl rfl .nil (.cons ⟨rfl, .inl rfl⟩ (.cons ⟨rfl, .acc2 rfl rfl⟩ (.cons ⟨rfl, .acc2 rfl rfl⟩ (.cons ⟨rfl, .cellsIe (take_map_one _ _ hkl)⟩ (.cons ⟨rfl, .inl rfl⟩ (.cons ⟨rfl, .cellsIe (take_map_one _ _ hkl)⟩ (.cons ⟨rfl, .inl rfl⟩ .nil)))))))⟩
      · exact ⟨1, renL [0, 1, 2, 9, 4, 10, 6] 11, hkl, (by show w.stem.length - 1 < w.stem.length - 0; omega), ⟨rfl, rfl, rfl, rfl, rfl, rfl, rfl, trivial⟩, EmbL.litsN [0, 1, 2, 9, 4, 10, 6] rfl rfl rfl rfl .nil (.cons ⟨rfl, .inl rfl⟩ (.cons ⟨rfl, .acc2 rfl rfl⟩ (.cons ⟨rfl, .acc2 rfl rfl⟩ (.cons ⟨rfl, .cellsIe (take_map_one _ _ hkl)⟩ (.cons ⟨rfl, .inl rfl⟩ (.cons ⟨rfl, .cellsIe (take_map_one _ _ hkl)⟩ (.cons ⟨rfl, .inl rfl⟩ .nil)))))))⟩
    · conv => whnf
      repeat' first | (refine Gets.ixR1 rfl rfl (by omega) ?_; conv => whnf) | (refine Gets.ldRI rfl (by first | omega | exact Nat.le_of_ble_eq_true rfl) ?_; conv => whnf) | (refine Fork.dec (fun _ => ?_) (fun _ => ?_) <;> first | (exfalso; omega) | (conv => whnf))
      refine CodeS.drawT [1, 2] (.take 0 (.take 1 (.take 2 (.take 3 (.take 4 (.take 5 (.take 8 (.take 10 (.take 11 (.take 12 (.two (.one 6 true (.two (.one 7 true (.take 15 (.two (.one 9 true (.one 13 true (.one 14 true (.one 16 false (.take 17 (.one 18 false .done)))))) (.one 13 true (.one 9 true (.one 14 true (.one 16 false (.take 17 (.one 18 false .done))))))))) (.two (.one 9 true (.two (.one 7 true (.take 15 (.one 13 true (.one 14 true (.one 16 false (.take 17 (.one 18 false .done))))))) (.one 13 true (.one 7 true (.take 15 (.one 14 true (.one 16 false (.take 17 (.one 18 false .done))))))))) (.one 13 true (.two (.one 7 true (.take 15 (.one 9 true (.one 14 true (.one 16 false (.take 17 (.one 18 false .done))))))) (.one 9 true (.one 7 true (.take 15 (.one 14 true (.one 16 false (.take 17 (.one 18 false .done)))))))))))) (.two (.one 9 true (.two (.one 6 true (.two (.one 7 true (.take 15 (.one 13 true (.one 14 true (.one 16 false (.take 17 (.one 18 false .done))))))) (.one 13 true (.one 7 true (.take 15 (.one 14 true (.one 16 false (.take 17 (.one 18 false .done))))))))) (.one 13 true (.one 6 true (.one 7 true (.take 15 (.one 14 true (.one 16 false (.take 17 (.one 18 false .done)))))))))) (.one 13 true (.two (.one 6 true (.two (.one 7 true (.take 15 (.one 9 true (.one 14 true (.one 16 false (.take 17 (.one 18 false .done))))))) (.one 9 true (.one 7 true (.take 15 (.one 14 true (.one 16 false (.take 17 (.one 18 false .done))))))))) (.one 9 true (.one 6 true (.one 7 true (.take 15 (.one 14 true (.one 16 false (.take 17 (.one 18 false .done)))))))))))))))))))))) mixed (by kernel_rfl) (.cons ⟨rfl, trivial⟩ (.cons ⟨rfl, trivial⟩ .nil)) ?_
      conv => whnf
      repeat' first | ((refine Gets.shlN (by omega) ?_); conv => whnf) | ((refine Gets.shrI hx.1 (by omega) ?_); conv => whnf) | ((refine Gets.appSrc (ti := tiI) (l := (w.stem.take (k + 1)).map (modF n)) (xs := [modF n (w.stem.getD (k + 1) 0)]) (m := k + 1) (n := 1) rfl rfl rfl rfl rfl (by decide) (by rw [List.length_map, List.length_take]; omega) ((src_at (xs := [modF n (w.stem.getD (k + 1) 0)]) (n := 1) rfl (.inr rfl)).1) rfl (by omega) ?_); conv => whnf) | ((refine Gets.appSrc (ti := tiI) (l := (w.stem.take (k + 1)).map (divF n)) (xs := [divF n (w.stem.getD (k + 1) 0)]) (m := k + 1) (n := 1) rfl rfl rfl rfl rfl (by decide) (by rw [List.length_map, List.length_take]; omega) ((src_at (xs := [divF n (w.stem.getD (k + 1) 0)]) (n := 1) rfl (.inr rfl)).1) rfl (by omega) ?_); conv => whnf) | ((refine Gets.stS (ti := tiS) rfl rfl rfl rfl rfl rfl ?_); conv => whnf) | ((with_reducible refine Gets.remN ?_ ?_ ?_); (· omega); (· omega); conv => whnf) | ((with_reducible refine Gets.addI ?_ ?_ ?_); (· omega); (· omega); conv => whnf) | (refine Gets.of _ rfl ?_; conv => whnf) | (refine Chk.mk (by repeat first | exact .nil | refine .cons rfl ?_) ?_; conv => whnf) | (refine Alls.mk ?_ ?_ <;> conv => whnf)
      · exact ⟨k + 2, renL [0, 1, 2, 8, 4, 10, 6] 11, hkl, (by show w.stem.length - (k + 2) < w.stem.length - (k + 1); omega), ⟨rfl, rfl, rfl, rfl, rfl, rfl, rfl, trivial⟩, EmbL.litsN [0, 1, 2, 8, 4, 10, 6] rfl rfl rfl rfl .nil (.cons ⟨rfl, .inl rfl⟩ (.cons ⟨rfl, .acc2 rfl rfl⟩ (.cons ⟨rfl, .acc2 rfl rfl⟩ (.cons ⟨rfl, .cellsIe (take_map_next _ _ hkl)⟩ (.cons ⟨rfl, .inl rfl⟩ (.cons ⟨rfl, .cellsIe (take_map_next _ _ hkl)⟩ (.cons ⟨rfl, .inl rfl⟩ .nil)))))))⟩
      · exact ⟨k + 2, renL [0, 1, 2, 8, 4, 10, 6] 11, hkl, (by show w.stem.length - (k + 2) < w.stem.length - (k + 1); omega), ⟨rfl, rfl, rfl, rfl, rfl, rfl, rfl, trivial⟩, EmbL.litsN [0, 1, 2, 8, 4, 10, 6] rfl rfl rfl rfl .nil (.cons ⟨rfl, .inl rfl⟩ (.cons ⟨rfl, .acc2 rfl rfl⟩ (.cons ⟨rfl, .acc2 rfl rfl⟩ (.cons ⟨rfl, .cellsIe (take_map_next _ _ hkl)⟩ (.cons ⟨rfl, .inl rfl⟩ (.cons ⟨rfl, .cellsIe (take_map_next _ _ hkl)⟩ (.cons ⟨rfl, .inl rfl⟩ .nil)))))))⟩
      · exact ⟨k + 2, renL [0, 1, 2, 8, 4, 10, 6] 11, hkl, (by show w.stem.length - (k + 2) < w.stem.length - (k + 1); omega), ⟨rfl, rfl, rfl, rfl, rfl, rfl, rfl, trivial⟩, EmbL.litsN [0, 1, 2, 8, 4, 10, 6] rfl rfl rfl rfl .nil (.cons ⟨rfl, .inl rfl⟩ (.cons ⟨rfl, .acc2 rfl rfl⟩ (.cons ⟨rfl, .acc2 rfl rfl⟩ (.cons ⟨rfl, .cellsIe (take_map_next _ _ hkl)⟩ (.cons ⟨rfl, .inl rfl⟩ (.cons ⟨rfl, .cellsIe (take_map_next _ _ hkl)⟩ (.cons ⟨rfl, .inl rfl⟩ .nil)))))))⟩
      · exact ⟨k + 2, renL [0, 1, 2, 9, 4, 10, 6] 11, hkl, (by show w.stem.length - (k + 2) < w.stem.length - (k + 1); omega), ⟨rfl, rfl, rfl, rfl, rfl, rfl, rfl, trivial⟩, EmbL.litsN [0, 1, 2, 9, 4, 10, 6] rfl rfl rfl rfl .nil (.cons ⟨rfl, .inl rfl⟩ (.cons ⟨rfl, .acc2 rfl rfl⟩ (.cons ⟨rfl, .acc2 rfl rfl⟩ (.cons ⟨rfl, .cellsIe (take_map_next _ _ hkl)⟩ (.cons ⟨rfl, .inl rfl⟩ (.cons ⟨rfl, .cellsIe (take_map_next _ _ hkl)⟩ (.cons ⟨rfl, .inl rfl⟩ .nil)))))))⟩
      · exact ⟨k + 2, renL [0, 1, 2, 9, 4, 10, 6] 11, hkl, (by show w.stem.length - (k + 2) < w.stem.length - (k + 1); omega), ⟨rfl, rfl, rfl, rfl, rfl, rfl, rfl, trivial⟩, EmbL.litsN [0, 1, 2, 9, 4, 10, 6] rfl rfl rfl rfl .nil (.cons ⟨rfl, .inl rfl⟩ (.cons ⟨rfl, .acc2 rfl rfl⟩ (.cons ⟨rfl, .acc2 rfl rfl⟩ (.cons ⟨rfl, .cellsIe (take_map_next _ _ hkl)⟩ (.cons ⟨rfl, .inl rfl⟩ (.cons ⟨rfl, .cellsIe (take_map_next _ _ hkl)⟩ (.cons ⟨rfl, .inl rfl⟩ .nil)))))))⟩
      · exact ⟨k + 2, renL [0, 1, 2, 9, 4, 10, 6] 11, hkl, (by show w.stem.length - (k + 2) < w.stem.length - (k + 1); omega), ⟨rfl, rfl, rfl, rfl, rfl, rfl, rfl, trivial⟩, EmbL.litsN [0, 1, 2, 9, 4, 10, 6] rfl rfl rfl rfl .nil (.cons ⟨rfl, .inl rfl⟩ (.cons ⟨rfl, .acc2 rfl rfl⟩ (.cons ⟨rfl, .acc2 rfl rfl⟩ (.cons ⟨rfl, .cellsIe (take_map_next _ _ hkl)⟩ (.cons ⟨rfl, .inl rfl⟩ (.cons ⟨rfl, .cellsIe (take_map_next _ _ hkl)⟩ (.cons ⟨rfl, .inl rfl⟩ .nil)))))))⟩
      · exact ⟨k + 2, renL [0, 1, 2, 8, 4, 10, 6] 11, hkl, (by show w.stem.length - (k + 2) < w.stem.length - (k + 1); omega), ⟨rfl, rfl, rfl, rfl, rfl, rfl, rfl, trivial⟩, EmbL.litsN [0, 1, 2, 8, 4, 10, 6] rfl rfl rfl rfl .nil (.cons ⟨rfl, .inl rfl⟩ (.cons ⟨rfl, .acc2 rfl rfl⟩ (.cons ⟨rfl, .acc2 rfl rfl⟩ (.cons ⟨rfl, .cellsIe (take_map_next _ _ hkl)⟩ (.cons ⟨rfl, .inl rfl⟩ (.cons ⟨rfl, .cellsIe (take_map_next _ _ hkl)⟩ (.cons ⟨rfl, .inl rfl⟩ .nil)))))))⟩
      · exact ⟨k + 2, renL [0, 1, 2, 9, 4, 10, 6] 11, hkl, (by show w.stem.length - (k + 2) < w.stem.length - (k + 1); omega), ⟨rfl, rfl, rfl, rfl, rfl, rfl, rfl, trivial⟩, EmbL.litsN [0, 1, 2, 9, 4, 10, 6] rfl rfl rfl rfl .nil (.cons ⟨rfl, .inl rfl⟩ (.cons ⟨rfl, .acc2 rfl rfl⟩ (.cons ⟨rfl, .acc2 rfl rfl⟩ (.cons ⟨rfl, .cellsIe (take_map_next _ _ hkl)⟩ (.cons ⟨rfl, .inl rfl⟩ (.cons ⟨rfl, .cellsIe (take_map_next _ _ hkl)⟩ (.cons ⟨rfl, .inl rfl⟩ .nil)))))))⟩
      · exact ⟨k + 2, renL [0, 1, 2, 9, 4, 10, 6] 11, hkl, (by show w.stem.length - (k + 2) < w.stem.length - (k + 1); omega), ⟨rfl, rfl, rfl, rfl, rfl, rfl, rfl, trivial⟩, EmbL.litsN [0, 1, 2, 9, 4, 10, 6] rfl rfl rfl rfl .nil (.cons ⟨rfl, .inl rfl⟩ (.cons ⟨rfl, .acc2 rfl rfl⟩ (.cons ⟨rfl, .acc2 rfl rfl⟩ (.cons ⟨rfl, .cellsIe (take_map_next _ _ hkl)⟩ (.cons ⟨rfl, .inl rfl⟩ (.cons ⟨rfl, .cellsIe (take_map_next _ _ hkl)⟩ (.cons ⟨rfl, .inl rfl⟩ .nil)))))))⟩
      · exact ⟨k + 2, renL [0, 1, 2, 9, 4, 10, 6] 11, hkl, (by show w.stem.length - (k + 2) < w.stem.length - (k + 1); omega), ⟨rfl, rfl, rfl, rfl, rfl, rfl, rfl, trivial⟩, EmbL.litsN [0, 1, 2, 9, 4, 10, 6] rfl rfl rfl rfl .nil (.cons ⟨rfl, .inl rfl⟩ (.cons ⟨rfl, .acc2 rfl rfl⟩ (.cons ⟨rfl, .acc2 rfl rfl⟩ (.cons ⟨rfl, .cellsIe (take_map_next _ _ hkl)⟩ (.cons ⟨rfl, .inl rfl⟩ (.cons ⟨rfl, .cellsIe (take_map_next _ _ hkl)⟩ (.cons ⟨rfl, .inl rfl⟩ .nil)))))))⟩
      · exact ⟨k + 2, renL [0, 1, 2, 9, 4, 10, 6] 11, hkl, (by show w.stem.length - (k + 2) < w.stem.length - (k + 1); omega), ⟨rfl, rfl, rfl, rfl, rfl, rfl, rfl, trivial⟩, EmbL.litsN [0, 1, 2, 9, 4, 10, 6] rfl rfl rfl rfl .nil (.cons ⟨rfl, .inl rfl⟩ (.cons ⟨rfl, .acc2 rfl rfl⟩ (.cons ⟨rfl, .acc2 rfl rfl⟩ (.cons ⟨rfl, .cellsIe (take_map_next _ _ hkl)⟩ (.cons ⟨rfl, .inl rfl⟩ (.cons ⟨rfl, .cellsIe (take_map_next _ _ hkl)⟩ (.cons ⟨rfl, .inl rfl⟩ .nil)))))))⟩
      · exact ⟨k + 2, renL [0, 1, 2, 9, 4, 10, 6] 11, hkl, (by show w.stem.length - (k + 2) < w.stem.length - (k + 1); omega), ⟨rfl, rfl, rfl, rfl, rfl, rfl, rfl, trivial⟩, EmbL.litsN [0, 1, 2, 9, 4, 10, 6] rfl rfl rfl rfl .nil (.cons ⟨rfl, .inl rfl⟩ (.cons ⟨rfl, .acc2 rfl rfl⟩ (.cons ⟨rfl, .acc2 rfl rfl⟩ (.cons ⟨rfl, .cellsIe (take_map_next _ _ hkl)⟩ (.cons ⟨rfl, .inl rfl⟩ (.cons ⟨rfl, .cellsIe (take_map_next _ _ hkl)⟩ (.cons ⟨rfl, .inl rfl⟩ .nil)))))))⟩
  · obtain rfl : k = w.stem.length := by omega
    rw [List.take_length]
    conv => whnf
    repeat' first | (refine Gets.of _ rfl ?_; conv => whnf) | (refine Fork.dec (fun _ => ?_) (fun _ => ?_) <;> first | (exfalso; omega) | (conv => whnf))
    refine CodeS.loopGK (cuts := []) (σ := Nat) (fun k => [(1, .int .i64 (n : Int)), (4, .ptr 1 0), (5, .ptr 2 0), (52, rI w.loop), (53, .int .i64 (w.loop.length : Int)), (54, .int .i64 (k : Int))]) (fun k => hU w (w.stem.map (modF n)) ((w.loop.take k).map (modF n)) (w.stem.map (divF n)) ((w.loop.take k).map (divF n)) w.stem.length k) (fun k => k ≤ w.loop.length) (fun k => w.loop.length - k) 0 (renL [0, 1, 2, 3, 4, 5, 6] 7) (by kernel_rfl) (Nat.zero_le _) ⟨rfl, rfl, rfl, rfl, rfl, rfl, trivial⟩ (EmbL.litsN [0, 1, 2, 3, 4, 5, 6] rfl rfl rfl rfl .nil (.cons ⟨rfl, .inl rfl⟩ (.cons ⟨rfl, .acc2 rfl rfl⟩ (.cons ⟨rfl, .acc2 rfl rfl⟩ (.cons ⟨rfl, .accS⟩ (.cons ⟨rfl, .inl rfl⟩ (.cons ⟨rfl, .accS⟩ (.cons ⟨rfl, .inl rfl⟩ .nil)))))))) ?_
    intro k hk
    rcases Nat.lt_or_ge k w.loop.length with hkl | hkl
    · have hx := inL_lt (hp.l _ (getD_mem hkl)) (by decide) (by decide)
      rcases k with _ | k
      · conv => whnf
        repeat' first | (refine Gets.ixR1 rfl rfl (by omega) ?_; conv => whnf) | (refine Gets.ldRI rfl (by first | omega | exact Nat.le_of_ble_eq_true rfl) ?_; conv => whnf) | (refine Fork.dec (fun _ => ?_) (fun _ => ?_) <;> first | (exfalso; omega) | (conv => whnf))
        refine CodeS.drawT [1, 2] (.take 0 (.take 1 (.take 2 (.take 3 (.take 4 (.take 5 (.take 8 (.take 10 (.take 11 (.take 12 (.two (.one 6 true (.two (.one 7 true (.take 15 (.two (.one 9 true (.one 13 true (.one 14 true (.one 16 false (.take 17 (.one 18 false .done)))))) (.one 13 true (.one 9 true (.one 14 true (.one 16 false (.take 17 (.one 18 false .done))))))))) (.two (.one 9 true (.two (.one 7 true (.take 15 (.one 13 true (.one 14 true (.one 16 false (.take 17 (.one 18 false .done))))))) (.one 13 true (.one 7 true (.take 15 (.one 14 true (.one 16 false (.take 17 (.one 18 false .done))))))))) (.one 13 true (.two (.one 7 true (.take 15 (.one 9 true (.one 14 true (.one 16 false (.take 17 (.one 18 false .done))))))) (.one 9 true (.one 7 true (.take 15 (.one 14 true (.one 16 false (.take 17 (.one 18 false .done)))))))))))) (.two (.one 9 true (.two (.one 6 true (.two (.one 7 true (.take 15 (.one 13 true (.one 14 true (.one 16 false (.take 17 (.one 18 false .done))))))) (.one 13 true (.one 7 true (.take 15 (.one 14 true (.one 16 false (.take 17 (.one 18 false .done))))))))) (.one 13 true (.one 6 true (.one 7 true (.take 15 (.one 14 true (.one 16 false (.take 17 (.one 18 false .done)))))))))) (.one 13 true (.two (.one 6 true (.two (.one 7 true (.take 15 (.one 9 true (.one 14 true (.one 16 false (.take 17 (.one 18 false .done))))))) (.one 9 true (.one 7 true (.take 15 (.one 14 true (.one 16 false (.take 17 (.one 18 false .done))))))))) (.one 9 true (.one 6 true (.one 7 true (.take 15 (.one 14 true (.one 16 false (.take 17 (.one 18 false .done)))))))))))))))))))))) mixed (by kernel_rfl) (.cons ⟨rfl, trivial⟩ (.cons ⟨rfl, trivial⟩ .nil)) ?_
        conv => whnf
        repeat' first | ((refine Gets.shlN (by omega) ?_); conv => whnf) | ((refine Gets.shrI hx.1 (by omega) ?_); conv => whnf) | ((refine Gets.appNilS (ti := tiI) (n := 1) (xs := ints [modF n (w.loop.getD 0 0)]) rfl rfl rfl rfl rfl (by decide) ((src_at (xs := [modF n (w.loop.getD 0 0)]) (n := 1) rfl (.inr rfl)).1) (by decide) (by decide) ?_); conv => whnf) | ((refine Gets.appNilS (ti := tiI) (n := 1) (xs := ints [divF n (w.loop.getD 0 0)]) rfl rfl rfl rfl rfl (by decide) ((src_at (xs := [divF n (w.loop.getD 0 0)]) (n := 1) rfl (.inr rfl)).1) (by decide) (by decide) ?_); conv => whnf) | ((refine Gets.stS (ti := tiS) rfl rfl rfl rfl rfl rfl ?_); conv => whnf) | ((with_reducible refine Gets.remN ?_ ?_ ?_); (· omega); (· omega); conv => whnf) | ((with_reducible refine Gets.addI ?_ ?_ ?_); (· omega); (· omega); conv => whnf) | (refine Gets.of _ rfl ?_; conv => whnf) | (refine Chk.mk (by repeat first | exact .nil | refine .cons rfl ?_) ?_; conv => whnf) | (refine Alls.mk ?_ ?_ <;> conv => whnf)
        · exact ⟨1, renL [0, 1, 2, 3, 8, 5, 10] 11, hkl, (by show w.loop.length - 1 < w.loop.length - 0; omega), ⟨rfl, rfl, rfl, rfl, rfl, rfl, trivial⟩, EmbL.litsN [0, 1, 2, 3, 8, 5, 10] rfl rfl rfl rfl .nil (.cons ⟨rfl, .inl rfl⟩ (.cons ⟨rfl, .acc2 rfl rfl⟩ (.cons ⟨rfl, .acc2 rfl rfl⟩ (.cons ⟨rfl, .accS⟩ (.cons ⟨rfl, .cellsIe (take_map_one _ _ hkl)⟩ (.cons ⟨rfl, .accS⟩ (.cons ⟨rfl, .cellsIe (take_map_one _ _ hkl)⟩ .nil)))))))⟩
        · exact ⟨1, renL [0, 1, 2, 3, 8, 5, 10] 11, hkl, (by show w.loop.length - 1 < w.loop.length - 0; omega), ⟨rfl, rfl, rfl, rfl, rfl, rfl, trivial⟩, EmbL.litsN [0, 1, 2, 3, 8, 5, 10] rfl rfl rfl rfl .nil (.cons ⟨rfl, .inl rfl⟩ (.cons ⟨rfl, .acc2 rfl rfl⟩ (.cons ⟨rfl, .acc2 rfl rfl⟩ (.cons ⟨rfl, .accS⟩ (.cons ⟨rfl, .cellsIe (take_map_one _ _ hkl)⟩ (.cons ⟨rfl, .accS⟩ (.cons ⟨rfl, .cellsIe (take_map_one _ _ hkl)⟩ .nil)))))))⟩
        · exact ⟨1, renL [0, 1, 2, 3, 8, 5, 10] 11, hkl, (by show w.loop.length - 1 < w.loop.length - 0; omega), ⟨rfl, rfl, rfl, rfl, rfl, rfl, trivial⟩, EmbL.litsN [0, 1, 2, 3, 8, 5, 10] rfl rfl rfl rfl .nil (.cons ⟨rfl, .inl rfl⟩ (.cons ⟨rfl, .acc2 rfl rfl⟩ (.cons ⟨rfl, .acc2 rfl rfl⟩ (.cons ⟨rfl, .accS⟩ (.cons ⟨rfl, .cellsIe (take_map_one _ _ hkl)⟩ (.cons ⟨rfl, .accS⟩ (.cons ⟨rfl, .cellsIe (take_map_one _ _ hkl)⟩ .nil)))))))⟩
        · exact ⟨1, renL [0, 1, 2, 3, 9, 5, 10] 11, hkl, (by show w.loop.length - 1 < w.loop.length - 0; omega), ⟨rfl, rfl, rfl, rfl, rfl, rfl, trivial⟩, EmbL.litsN [0, 1, 2, 3, 9, 5, 10] rfl rfl rfl rfl .nil (.cons ⟨rfl, .inl rfl⟩ (.cons ⟨rfl, .acc2 rfl rfl⟩ (.cons ⟨rfl, .acc2 rfl rfl⟩ (.cons ⟨rfl, .accS⟩ (.cons ⟨rfl, .cellsIe (take_map_one _ _ hkl)⟩ (.cons ⟨rfl, .accS⟩ (.cons ⟨rfl, .cellsIe (take_map_one _ _ hkl)⟩ .nil)))))))⟩
        · exact ⟨1, renL [0, 1, 2, 3, 9, 5, 10] 11, hkl, (by show w.loop.length - 1 < w.loop.length - 0; omega), ⟨rfl, rfl, rfl, rfl, rfl, rfl, trivial⟩, EmbL.litsN [0, 1, 2, 3, 9, 5, 10] rfl rfl rfl rfl .nil (.cons ⟨rfl, .inl rfl⟩ (.cons ⟨rfl, .acc2 rfl rfl⟩ (.cons ⟨rfl, .acc2 rfl rfl⟩ (.cons ⟨rfl, .accS⟩ (.cons ⟨rfl, .cellsIe (take_map_one _ _ hkl)⟩ (.cons ⟨rfl, .accS⟩ (.cons ⟨rfl, .cellsIe (take_map_one _ _ hkl)⟩ .nil)))))))⟩
        · exact ⟨1, renL [0, 1, 2, 3, 9, 5, 10] 11, hkl, (by show w.loop.length - 1 < w.loop.length - 0; omega), ⟨rfl, rfl, rfl, rfl, rfl, rfl, trivial⟩, EmbL.litsN [0, 1, 2, 3, 9, 5, 10] rfl rfl rfl rfl .nil (.cons ⟨rfl, .inl rfl⟩ (.cons ⟨rfl, .acc2 rfl rfl⟩ (.cons ⟨rfl, .acc2 rfl rfl⟩ (.cons ⟨rfl, .accS⟩ (.cons ⟨rfl, .cellsIe (take_map_one _ _ hkl)⟩ (.cons ⟨rfl, .accS⟩ (.cons ⟨rfl, .cellsIe (take_map_one _ _ hkl)⟩ .nil)))))))⟩
        · exact ⟨1, renL [0, 1, 2, 3, 8, 5, 10] 11, hkl, (by show w.loop.length - 1 < w.loop.length - 0; omega), ⟨rfl, rfl, rfl, rfl, rfl, rfl, trivial⟩, EmbL.litsN [0, 1, 2, 3, 8, 5, 10] rfl rfl rfl rfl .nil (.cons ⟨rfl, .inl rfl⟩ (.cons ⟨rfl, .acc2 rfl rfl⟩ (.cons ⟨rfl, .acc2 rfl rfl⟩ (.cons ⟨rfl, .accS⟩ (.cons ⟨rfl, .cellsIe (take_map_one _ _ hkl)⟩ (.cons ⟨rfl, .accS⟩ (.cons ⟨rfl, .cellsIe (take_map_one _ _ hkl)⟩ .nil)))))))⟩
        · exact ⟨1, renL [0, 1, 2, 3, 9, 5, 10] 11, hkl, (by show w.loop.length - 1 < w.loop.length - 0; omega), ⟨rfl, rfl, rfl, rfl, rfl, rfl, trivial⟩, EmbL.litsN [0, 1, 2, 3, 9, 5, 10] rfl rfl rfl rfl .nil (.cons ⟨rfl, .inl rfl⟩ (.cons ⟨rfl, .acc2 rfl rfl⟩ (.cons ⟨rfl, .acc2 rfl rfl⟩ (.cons ⟨rfl, .accS⟩ (.cons ⟨rfl, .cellsIe (take_map_one _ _ hkl)⟩ (.cons ⟨rfl, .accS⟩ (.cons ⟨rfl, .cellsIe (take_map_one _ _ hkl)⟩ .nil)))))))⟩
        · exact ⟨1, renL [0, 1, 2, 3, 9, 5, 10] 11, hkl, (by show w.loop.length - 1 < w.loop.length - 0; omega), ⟨rfl, rfl, rfl, rfl, rfl, rfl, trivial⟩, EmbL.litsN [0, 1, 2, 3, 9, 5, 10] rfl rfl rfl rfl .nil (.cons ⟨rfl, .inl rfl⟩ (.cons ⟨rfl, .acc2 rfl rfl⟩ (.cons ⟨rfl, .acc2 rfl rfl⟩ (.cons ⟨rfl, .accS⟩ (.cons ⟨rfl, .cellsIe (take_map_one _ _ hkl)⟩ (.cons ⟨rfl, .accS⟩ (.cons ⟨rfl, .cellsIe (take_map_one _ _ hkl)⟩ .nil)))))))⟩
        · exact ⟨1, renL [0, 1, 2, 3, 9, 5, 10] 11, hkl, (by show w.loop.length - 1 < w.loop.length - 0; omega), ⟨rfl, rfl, rfl, rfl, rfl, rfl, trivial⟩, EmbL.litsN [0, 1, 2, 3, 9, 5, 10] rfl rfl rfl rfl .nil (.cons ⟨rfl, .inl rfl⟩ (.cons ⟨rfl, .acc2 rfl rfl⟩ (.cons ⟨rfl, .acc2 rfl rfl⟩ (.cons ⟨rfl, .accS⟩ (.cons ⟨rfl, .cellsIe (take_map_one _ _ hkl)⟩ (.cons ⟨rfl, .accS⟩ (.cons ⟨rfl, .cellsIe (take_map_one _ _ hkl)⟩ .nil)))))))⟩
        · exact ⟨1, renL [0, 1, 2, 3, 9, 5, 10] 11, hkl, (by show w.loop.length - 1 < w.loop.length - 0; omega), ⟨rfl, rfl, rfl, rfl, rfl, rfl, trivial⟩, EmbL.litsN [0, 1, 2, 3, 9, 5, 10] rfl rfl rfl rfl .nil (.cons ⟨rfl, .inl rfl⟩ (.cons ⟨rfl, .acc2 rfl rfl⟩ (.cons ⟨rfl, .acc2 rfl rfl⟩ (.cons ⟨rfl, .accS⟩ (.cons ⟨rfl, .cellsIe (take_map_one _ _ hkl)⟩ (.cons ⟨rfl, .accS⟩ (.cons ⟨rfl, .cellsIe (take_map_one _ _ hkl)⟩ .nil)))))))⟩
        · exact ⟨1, renL [0, 1, 2, 3, 9, 5, 10] 11, hkl, (by show w.loop.length - 1 < w.loop.length - 0; omega), ⟨rfl, rfl, rfl, rfl, rfl, rfl, trivial⟩, EmbL.litsN [0, 1, 2, 3, 9, 5, 10] rfl rfl rfl rfl .nil (.cons ⟨rfl, .inl rfl⟩ (.cons ⟨rfl, .acc2 rfl rfl⟩ (.cons ⟨rfl, .acc2 rfl rfl⟩ (.cons ⟨rfl, .accS⟩ (.cons ⟨rfl, .cellsIe (take_map_one _ _ hkl)⟩ (.cons ⟨rfl, .accS⟩ (.cons ⟨rfl, .cellsIe (take_map_one _ _ hkl)⟩ .nil)))))))⟩
      · conv => whnf
        repeat' first | (refine Gets.ixR1 rfl rfl (by omega) ?_; conv => whnf) | (refine Gets.ldRI rfl (by first | omega | exact Nat.le_of_ble_eq_true rfl) ?_; conv => whnf) | (refine Fork.dec (fun _ => ?_) (fun _ => ?_) <;> first | (exfalso; omega) | (conv => whnf))
        refine CodeS.drawT [1, 2] (.take 0 (.take 1 (.take 2 (.take 3 (.take 4 (.take 5 (.take 8 (.take 10 (.take 11 (.take 12 (.two (.one 6 true (.two (.one 7 true (.take 15 (.two (.one 9 true (.one 13 true (.one 14 true (.one 16 false (.take 17 (.one 18 false .done)))))) (.one 13 true (.one 9 true (.one 14 true (.one 16 false (.take 17 (.one 18 false .done))))))))) (.two (.one 9 true (.two (.one 7 true (.take 15 (.one 13 true (.one 14 true (.one 16 false (.take 17 (.one 18 false .done))))))) (.one 13 true (.one 7 true (.take 15 (.one 14 true (.one 16 false (.take 17 (.one 18 false .done))))))))) (.one 13 true (.two (.one 7 true (.take 15 (.one 9 true (.one 14 true (.one 16 false (.take 17 (.one 18 false .done))))))) (.one 9 true (.one 7 true (.take 15 (.one 14 true (.one 16 false (.take 17 (.one 18 false .done)))))))))))) (.two (.one 9 true (.two (.one 6 true (.two (.one 7 true (.take 15 (.one 13 true (.one 14 true (.one 16 false (.take 17 (.one 18 false .done))))))) (.one 13 true (.one 7 true (.take 15 (.one 14 true (.one 16 false (.take 17 (.one 18 false .done))))))))) (.one 13 true (.one 6 true (.one 7 true (.take 15 (.one 14 true (.one 16 false (.take 17 (.one 18 false .done)))))))))) (.one 13 true (.two (.one 6 true (.two (.one 7 true (.take 15 (.one 9 true (.one 14 true (.one 16 false (.take 17 (.one 18 false .done))))))) (.one 9 true (.one 7 true (.take 15 (.one 14 true (.one 16 false (.take 17 (.one 18 false .done))))))))) (.one 9 true (.one 6 true (.one 7 true (.take 15 (.one 14 true (.one 16 false (.take 17 (.one 18 false .done)))))))))))))))))))))) mixed (by kernel_rfl) (.cons ⟨rfl, trivial⟩ (.cons ⟨rfl, trivial⟩ .nil)) ?_
        conv => whnf
        repeat' first | ((refine Gets.shlN (by omega) ?_); conv => whnf) | ((refine Gets.shrI hx.1 (by omega) ?_); conv => whnf) | ((refine Gets.appSrc (ti := tiI) (l := (w.loop.take (k + 1)).map (modF n)) (xs := [modF n (w.loop.getD (k + 1) 0)]) (m := k + 1) (n := 1) rfl rfl rfl rfl rfl (by decide) (by rw [List.length_map, List.length_take]; omega) ((src_at (xs := [modF n (w.loop.getD (k + 1) 0)]) (n := 1) rfl (.inr rfl)).1) rfl (by omega) ?_); conv => whnf) | ((refine Gets.appSrc (ti := tiI) (l := (w.loop.take (k + 1)).map (divF n)) (xs := [divF n (w.loop.getD (k + 1) 0)]) (m := k + 1) (n := 1) rfl rfl rfl rfl rfl (by decide) (by rw [List.length_map, List.length_take]; omega) ((src_at (xs := [divF n (w.loop.getD (k + 1) 0)]) (n := 1) rfl (.inr rfl)).1) rfl (by omega) ?_); conv => whnf) | ((refine Gets.stS (ti := tiS) rfl rfl rfl rfl rfl rfl ?_); conv => whnf) | ((with_reducible refine Gets.remN ?_ ?_ ?_); (· omega); (· omega); conv => whnf) | ((with_reducible refine Gets.addI ?_ ?_ ?_); (· omega); (· omega); conv => whnf) | (refine Gets.of _ rfl ?_; conv => whnf) | (refine Chk.mk (by repeat first | exact .nil | refine .cons rfl ?_) ?_; conv => whnf) | (refine Alls.mk ?_ ?_ <;> conv => whnf)
        · exact ⟨k + 2, renL [0, 1, 2, 3, 8, 5, 10] 11, hkl, (by show w.loop.length - (k + 2) < w.loop.length - (k + 1); omega), ⟨rfl, rfl, rfl, rfl, rfl, rfl, trivial⟩, EmbL.litsN [0, 1, 2, 3, 8, 5, 10] rfl rfl rfl rfl .nil (.cons ⟨rfl, .inl rfl⟩ (.cons ⟨rfl, .acc2 rfl rfl⟩ (.cons ⟨rfl, .acc2 rfl rfl⟩ (.cons ⟨rfl, .accS⟩ (.cons ⟨rfl, .cellsIe (take_map_next _ _ hkl)⟩ (.cons ⟨rfl, .accS⟩ (.cons ⟨rfl, .cellsIe (take_map_next _ _ hkl)⟩ .nil)))))))⟩
        · exact ⟨k + 2, renL [0, 1, 2, 3, 8, 5, 10] 11, hkl, (by show w.loop.length - (k + 2) < w.loop.length - (k + 1); omega), ⟨rfl, rfl, rfl, rfl, rfl, rfl, trivial⟩, EmbL.litsN [0, 1, 2, 3, 8, 5, 10] rfl rfl rfl rfl .nil (.cons ⟨rfl, .inl rfl⟩ (.cons ⟨rfl, .acc2 rfl rfl⟩ (.cons ⟨rfl, .acc2 rfl rfl⟩ (.cons ⟨rfl, .accS⟩ (.cons ⟨rfl, .cellsIe (take_map_next _ _ hkl)⟩ (.cons ⟨rfl, .accS⟩ (.cons ⟨rfl, .cellsIe (take_map_next _ _ hkl)⟩ .nil)))))))⟩
        · exact ⟨k + 2, renL [0, 1, 2, 3, 8, 5, 10] 11, hkl, (by show w.loop.length - (k + 2) < w.loop.length - (k + 1); omega), ⟨rfl, rfl, rfl, rfl, rfl, rfl, trivial⟩, EmbL.litsN [0, 1, 2, 3, 8, 5, 10] rfl rfl rfl rfl .nil (.cons ⟨rfl, .inl rfl⟩ (.cons ⟨rfl, .acc2 rfl rfl⟩ (.cons ⟨rfl, .acc2 rfl rfl⟩ (.cons ⟨rfl, .accS⟩ (.cons ⟨rfl, .cellsIe (take_map_next _ _ hkl)⟩ (.cons ⟨rfl, .accS⟩ (.cons ⟨rfl, .cellsIe (take_map_next _ _ hkl)⟩ .nil)))))))⟩
        · exact ⟨k + 2, renL [0, 1, 2, 3, 9, 5, 10] 11, hkl, (by show w.loop.length - (k + 2) < w.loop.length - (k + 1); omega), ⟨rfl, rfl, rfl, rfl, rfl, rfl, trivial⟩, EmbL.litsN [0, 1, 2, 3, 9, 5, 10] rfl rfl rfl rfl .nil (.cons ⟨rfl, .inl rfl⟩ (.cons ⟨rfl, .acc2 rfl rfl⟩ (.cons ⟨rfl, .acc2 rfl rfl⟩ (.cons ⟨rfl, .accS⟩ (.cons ⟨rfl, .cellsIe (take_map_next _ _ hkl)⟩ (.cons ⟨rfl, .accS⟩ (.cons ⟨rfl, .cellsIe (take_map_next _ _ hkl)⟩ .nil)))))))⟩
        · exact ⟨k + 2, renL [0, 1, 2, 3, 9, 5, 10] 11, hkl, (by show w.loop.length - (k + 2) < w.loop.length - (k + 1); omega), ⟨rfl, rfl, rfl, rfl, rfl, rfl, trivial⟩, EmbL.litsN [0, 1, 2, 3, 9, 5, 10] rfl rfl rfl rfl .nil (.cons ⟨rfl, .inl rfl⟩ (.cons ⟨rfl, .acc2 rfl rfl⟩ (.cons ⟨rfl, .acc2 rfl rfl⟩ (.cons ⟨rfl, .accS⟩ (.cons ⟨rfl, .cellsIe (take_map_next _ _ hkl)⟩ (.cons ⟨rfl, .accS⟩ (.cons ⟨rfl, .cellsIe (take_map_next _ _ hkl)⟩ .nil)))))))⟩
        · exact ⟨k + 2, renL [0, 1, 2, 3, 9, 5, 10] 11, hkl, (by show w.loop.length - (k + 2) < w.loop.length - (k + 1); omega), ⟨rfl, rfl, rfl, rfl, rfl, rfl, trivial⟩, EmbL.litsN [0, 1, 2, 3, 9, 5, 10] rfl rfl rfl rfl .nil (.cons ⟨rfl, .inl rfl⟩ (.cons ⟨rfl, .acc2 rfl rfl⟩ (.cons ⟨rfl, .acc2 rfl rfl⟩ (.cons ⟨rfl, .accS⟩ (.cons ⟨rfl, .cellsIe (take_map_next _ _ hkl)⟩ (.cons ⟨rfl, .accS⟩ (.cons ⟨rfl, .cellsIe (take_map_next _ _ hkl)⟩ .nil)))))))⟩
        · exact ⟨k + 2, renL [0, 1, 2, 3, 8, 5, 10] 11, hkl, (by show w.loop.length - (k + 2) < w.loop.length - (k + 1); omega), ⟨rfl, rfl, rfl, rfl, rfl, rfl, trivial⟩, EmbL.litsN [0, 1, 2, 3, 8, 5, 10] rfl rfl rfl rfl .nil (.cons ⟨rfl, .inl rfl⟩ (.cons ⟨rfl, .acc2 rfl rfl⟩ (.cons ⟨rfl, .acc2 rfl rfl⟩ (.cons ⟨rfl, .accS⟩ (.cons ⟨rfl, .cellsIe (take_map_next _ _ hkl)⟩ (.cons ⟨rfl, .accS⟩ (.cons ⟨rfl, .cellsIe (take_map_next _ _ hkl)⟩ .nil)))))))⟩
        · exact ⟨k + 2, renL [0, 1, 2, 3, 9, 5, 10] 11, hkl, (by show w.loop.length - (k + 2) < w.loop.length - (k + 1); omega), ⟨rfl, rfl, rfl, rfl, rfl, rfl, trivial⟩, EmbL.litsN [0, 1, 2, 3, 9, 5, 10] rfl rfl rfl rfl .nil (.cons ⟨rfl, .inl rfl⟩ (.cons ⟨rfl, .acc2 rfl rfl⟩ (.cons ⟨rfl, .acc2 rfl rfl⟩ (.cons ⟨rfl, .accS⟩ (.cons ⟨rfl, .cellsIe (take_map_next _ _ hkl)⟩ (.cons ⟨rfl, .accS⟩ (.cons ⟨rfl, .cellsIe (take_map_next _ _ hkl)⟩ .nil)))))))⟩
        · exact ⟨k + 2, renL [0, 1, 2, 3, 9, 5, 10] 11, hkl, (by show w.loop.length - (k + 2) < w.loop.length - (k + 1); omega), ⟨rfl, rfl, rfl, rfl, rfl, rfl, trivial⟩, EmbL.litsN [0, 1, 2, 3, 9, 5, 10] rfl rfl rfl rfl .nil (.cons ⟨rfl, .inl rfl⟩ (.cons ⟨rfl, .acc2 rfl rfl⟩ (.cons ⟨rfl, .acc2 rfl rfl⟩ (.cons ⟨rfl, .accS⟩ (.cons ⟨rfl, .cellsIe (take_map_next _ _ hkl)⟩ (.cons ⟨rfl, .accS⟩ (.cons ⟨rfl, .cellsIe (take_map_next _ _ hkl)⟩ .nil)))))))⟩
        · exact ⟨k + 2, renL [0, 1, 2, 3, 9, 5, 10] 11, hkl, (by show w.loop.length - (k + 2) < w.loop.length - (k + 1); omega), ⟨rfl, rfl, rfl, rfl, rfl, rfl, trivial⟩, EmbL.litsN [0, 1, 2, 3, 9, 5, 10] rfl rfl rfl rfl .nil (.cons ⟨rfl, .inl rfl⟩ (.cons ⟨rfl, .acc2 rfl rfl⟩ (.cons ⟨rfl, .acc2 rfl rfl⟩ (.cons ⟨rfl, .accS⟩ (.cons ⟨rfl, .cellsIe (take_map_next _ _ hkl)⟩ (.cons ⟨rfl, .accS⟩ (.cons ⟨rfl, .cellsIe (take_map_next _ _ hkl)⟩ .nil)))))))⟩
        · exact ⟨k + 2, renL [0, 1, 2, 3, 9, 5, 10] 11, hkl, (by show w.loop.length - (k + 2) < w.loop.length - (k + 1); omega), ⟨rfl, rfl, rfl, rfl, rfl, rfl, trivial⟩, EmbL.litsN [0, 1, 2, 3, 9, 5, 10] rfl rfl rfl rfl .nil (.cons ⟨rfl, .inl rfl⟩ (.cons ⟨rfl, .acc2 rfl rfl⟩ (.cons ⟨rfl, .acc2 rfl rfl⟩ (.cons ⟨rfl, .accS⟩ (.cons ⟨rfl, .cellsIe (take_map_next _ _ hkl)⟩ (.cons ⟨rfl, .accS⟩ (.cons ⟨rfl, .cellsIe (take_map_next _ _ hkl)⟩ .nil)))))))⟩
        · exact ⟨k + 2, renL [0, 1, 2, 3, 9, 5, 10] 11, hkl, (by show w.loop.length - (k + 2) < w.loop.length - (k + 1); omega), ⟨rfl, rfl, rfl, rfl, rfl, rfl, trivial⟩, EmbL.litsN [0, 1, 2, 3, 9, 5, 10] rfl rfl rfl rfl .nil (.cons ⟨rfl, .inl rfl⟩ (.cons ⟨rfl, .acc2 rfl rfl⟩ (.cons ⟨rfl, .acc2 rfl rfl⟩ (.cons ⟨rfl, .accS⟩ (.cons ⟨rfl, .cellsIe (take_map_next _ _ hkl)⟩ (.cons ⟨rfl, .accS⟩ (.cons ⟨rfl, .cellsIe (take_map_next _ _ hkl)⟩ .nil)))))))⟩
    · obtain rfl : k = w.loop.length := by omega
      rw [List.take_length]
      obtain ⟨t, ht⟩ : ∃ t, w.loop.length = t + 1 := ⟨w.loop.length - 1, by omega⟩
      have go : ∀ (g : Int → Int) H, CallW Tryd.prog 44 [(mapW g w).rv] H fun r H' => H' = H ∧ r = (nf (mapW g w)).rv := fun g H => nfRr (mapW g w) (by show (w.stem.map g).length ≤ _; rw [List.length_map]; omega) (by show 0 < (w.loop.map g).length; rw [List.length_map]; omega) (by show (w.loop.map g).length ≤ _; rw [List.length_map]; omega) H
      have hS : ∀ g : Int → Int, w.stem.length = (w.stem.map g).length := fun g => (List.length_map ..).symm
      have hL : ∀ g : Int → Int, t + 1 = (w.loop.map g).length := fun g => by rw [List.length_map, ht]
      rw [ht]
      generalize hs : w.stem.length = s at hS hm
      have key : ∀ {H ks g i j}, (s ≠ 0 → List.contains ks i = true) → List.contains ks j = true → H.f i = accB (w.stem.map g) s → H.f j = .cells 1 (ints (w.loop.map g)) → FrzA H ks [.agg [acc i s, .slice j 0 (t + 1)]] [(mapW g w).rv] := fun {H ks g i j} h1 h2 h3 h4 =>
        .frz (.agg (.cons (frz_acc h1 h3 (hS g)) (.cons (frzI h2 h4 (hL g)) (.same rfl)))) .nil
      rcases s with _ | s
      · conv => whnf
        repeat' (refine Fork.dec (fun _ => ?_) (fun _ => ?_) <;> first | (exfalso; omega) | (conv => whnf))
        refine CodeS.drawT [1, 2] (.take 0 (.two (.one 1 true (.one 2 true (.one 3 true (.one 4 false (.one 5 false (.take 6 .done)))))) (.one 2 true (.one 1 true (.one 3 true (.one 4 false (.one 5 false (.take 6 .done)))))))) mixed (by kernel_rfl) (.cons ⟨rfl, trivial⟩ (.cons ⟨rfl, trivial⟩ .nil)) ?_
        conv => whnf
        repeat' first | ((refine CallPS.of (by kernel_rfl) ((go (modF n) _).argsF [4] rfl (key (g := modF n) (i := 3) (j := 4) (fun h => absurd rfl h) rfl rfl rfl)) rfl ?_; rintro _ _ ⟨rfl, rfl⟩); conv => whnf) | ((refine CallPS.of (by kernel_rfl) ((go (divF n) _).argsF [6] rfl (key (g := divF n) (i := 5) (j := 6) (fun h => absurd rfl h) rfl rfl rfl)) rfl ?_; rintro _ _ ⟨rfl, rfl⟩); conv => whnf) | (refine Gets.of _ rfl ?_; conv => whnf) | (refine Chk.mk (by repeat first | exact .nil | refine .cons rfl ?_) ?_; conv => whnf) | (refine Alls.mk ?_ ?_ <;> conv => whnf)
        all_goals exact ⟨[], _, rfl, .same rfl, rfl, rfl⟩
      · conv => whnf
        repeat' (refine Fork.dec (fun _ => ?_) (fun _ => ?_) <;> first | (exfalso; omega) | (conv => whnf))
        refine CodeS.drawT [1, 2] (.take 0 (.two (.one 1 true (.one 2 true (.one 3 true (.one 4 false (.one 5 false (.take 6 .done)))))) (.one 2 true (.one 1 true (.one 3 true (.one 4 false (.one 5 false (.take 6 .done)))))))) mixed (by kernel_rfl) (.cons ⟨rfl, trivial⟩ (.cons ⟨rfl, trivial⟩ .nil)) ?_
        conv => whnf
        repeat' first | ((refine CallPS.of (by kernel_rfl) ((go (modF n) _).argsF [3, 4] rfl (key (g := modF n) (i := 3) (j := 4) (fun h => rfl) rfl rfl rfl)) rfl ?_; rintro _ _ ⟨rfl, rfl⟩); conv => whnf) | ((refine CallPS.of (by kernel_rfl) ((go (divF n) _).argsF [5, 6] rfl (key (g := divF n) (i := 5) (j := 6) (fun h => rfl) rfl rfl rfl)) rfl ?_; rintro _ _ ⟨rfl, rfl⟩); conv => whnf) | (refine Gets.of _ rfl ?_; conv => whnf) | (refine Chk.mk (by repeat first | exact .nil | refine .cons rfl ?_) ?_; conv => whnf) | (refine Alls.mk ?_ ?_ <;> conv => whnf)
        all_goals exact ⟨[], _, rfl, .same rfl, rfl, rfl⟩
end Go.Proofs.YthjemhlcojmiaaaDoor

/- Words in a row; how many letters; arguments as words. -/
-- VkG VkH VmA
set_option linter.unusedVariables false
set_option linter.unusedSimpArgs false
set_option maxRecDepth 100000
set_option maxHeartbeats 4000000
namespace Go.Proofs.YthjemhlcojmiaaaDoor
open Go Go.Vh Go.Vk Go.Proofs
/-- Words in a row. -/
def wcells (ws : List Wd) : List AVal := ws.flatMap fun w => [rI w.stem, rI w.loop]
def rWs (ws : List Wd) : AVal := .row ws.length (wcells ws)
theorem wcells_length (ws : List Wd) : (wcells ws).length = ws.length * 2 := by
  induction ws with
  | nil => rfl
  | cons w ws ih => show (_ ++ wcells ws).length = _; rw [List.length_append, ih]; simp; omega
theorem wcells_get : ∀ (ws : List Wd) (j : Nat) (h : j < ws.length), ((wcells ws).drop (j * 2)).take 2 = [rI ws[j].stem, rI ws[j].loop]
  | [], j, h => absurd h (Nat.not_lt_zero j)
  | w :: ws, 0, h => rfl
  | w :: ws, j + 1, h => by
    have := wcells_get ws j (by simpa using h)
    rw [show (j + 1) * 2 = j * 2 + 2 by omega]
    exact this
theorem fewR (ws : List Wd) (hf : ∀ w ∈ ws, w.Fits) (hn : ws.length ≤ 1000) (a : Int) (H : AHeap) : CallW Tryd.prog 8 [.int .i64 a, rWs ws] H fun v H' => H' = H ∧ IsB v (∀ w ∈ ws, (w.stem.length : Int) + w.loop.length ≤ a) := by
  refine CallW.pure ?_ rfl H
  refine CallW.symK (cuts := []) Tryd.func8 rfl (by kernel_rfl) ?_
  conv => whnf
  repeat' (refine Gets.of _ rfl ?_; conv => whnf)
  refine CodeS.loopGK (cuts := []) (σ := Nat) (fun j => [(0, .int .i64 a), (7, rWs ws), (8, .int .i64 (ws.length : Int)), (9, .int .i64 (j : Int))]) (fun _ => emptyH) (fun j => j ≤ ws.length ∧ ∀ k (h : k < ws.length), k < j → (ws[k].stem.length : Int) + ws[k].loop.length ≤ a) (fun j => ws.length - j) 0 (renL [] 0) (by kernel_rfl) ⟨Nat.zero_le _, fun k _ hk => by omega⟩ ⟨rfl, rfl, rfl, rfl, trivial⟩ (EmbL.litsN [] rfl rfl rfl rfl .nil .nil) ?_
  rintro j ⟨g1, g2⟩
  rcases Nat.lt_or_ge j ws.length with hj | hj
  · obtain ⟨b1, b2⟩ := hf _ (List.getElem_mem hj)
    have hl := wcells_length ws
    conv => whnf
    repeat' first | ((refine Gets.ixRE (es := 2) rfl rfl hj ?_); conv => whnf) | ((refine Gets.ldR (v := .agg [rI ws[j].stem, rI ws[j].loop]) rfl (by show (if j * 2 + 2 ≤ (wcells ws).length then some (AVal.agg (((wcells ws).drop (j * 2)).take 2)) else none) = _; rw [if_pos (by omega), wcells_get ws j hj]) ?_); conv => whnf) | ((with_reducible refine Gets.addI ?_ ?_ ?_); (· omega); (· omega); conv => whnf) | (refine Gets.of _ rfl ?_; conv => whnf) | (refine Fork.dec (fun _ => ?_) (fun _ => ?_) <;> first | (exfalso; omega) | (conv => whnf))
    · exact ⟨[], _, rfl, .same rfl, rfl, .f fun h => by have := h _ (List.getElem_mem hj); omega⟩
    · exact ⟨j + 1, renL [] 1, ⟨hj, fun k h hk => by
        rcases Nat.lt_or_ge k j with h1 | h1
        · exact g2 k h h1
        · obtain rfl : k = j := by omega
          omega⟩, by show ws.length - (j + 1) < _; omega, ⟨rfl, rfl, rfl, rfl, trivial⟩, EmbL.litsN [] rfl rfl rfl rfl .nil .nil⟩
  · conv => whnf
    repeat' (refine Fork.dec (fun _ => ?_) (fun _ => ?_) <;> first | (exfalso; omega) | (conv => whnf))
    exact ⟨[], _, rfl, .same rfl, rfl, .t fun w hw => by
      obtain ⟨k, hk, rfl⟩ := List.getElem_of_mem hw
      exact g2 k hk (by omega)⟩
theorem SameR.uniq {u v : Wd} {b b' : Bool} {e e' : Int} (h : SameR u v b e) (h' : SameR u v b' e') : b' = b ∧ e' = e := by
  rcases h with ⟨h1, h2, h3⟩ | ⟨h1, h2, h3⟩ <;> rcases h' with ⟨g1, g2, g3⟩ | ⟨g1, g2, g3⟩
  · exact ⟨by rw [h2, g2], by rw [h3, g3]⟩
  · exact absurd g1 h1
  · exact absurd h1 g1
  · refine ⟨?_, by rw [h2, g2]⟩
    rw [Bool.eq_iff_iff]
    exact g3.trans h3.symm
theorem isT (u : Wd) (hu : u.Sz) (e : Int) (H : AHeap) : CallW Tryd.prog 18 [u.rv, .int .i64 e, u.rv, .int .i64 e] H fun r H' => H' = H ∧ r = .bool true :=
  (isRw u u hu hu e e H).mono fun r H' h => ⟨h.1, by
    obtain ⟨_, h | h⟩ := h
    · rfl
    · exact absurd ⟨rfl, rfl⟩ h⟩
theorem errW_sz : errW.Sz := ⟨Nat.zero_le _, Nat.zero_le _⟩
theorem nf_sz {w : Wd} (h0 : 0 < w.loop.length) (hs : w.stem.length ≤ 4294967296) (hl : w.loop.length ≤ 4294967296) : (nf w).Sz := by
  obtain ⟨h1, _, h2, _⟩ := nf_lens h0
  exact ⟨by omega, by omega⟩
theorem shortW_sz {w : Wd} (h0 : 0 < w.loop.length) (hs : w.stem.length ≤ 4294967296) (hl : w.loop.length ≤ 4294967296) : (shortW w).1.Sz := by
  unfold shortW
  split
  · exact errW_sz
  · exact nf_sz h0 hs hl
theorem aheadW_sz {l : List Int} {w : Wd} (hl : l.length ≤ 1000) : (aheadW l w).1.Sz := by
  unfold aheadW
  split
  · rename_i h
    have hm := h.1.m
    exact shortW_sz h.1.p (by show (l ++ w.stem).length ≤ _; rw [List.length_append]; omega) (by show w.loop.length ≤ _; omega)
  · exact errW_sz
theorem mixW_sz {u v : Wd} {n m : Int} : (mixW u v n m).1.Sz := by
  unfold mixW
  split
  · exact errW_sz
  · split
    · rename_i h
      have a := h.1.m
      have b := h.2.m
      have h1 : u.loop.length * v.loop.length ≤ 200 * 200 := Nat.mul_le_mul (by omega) (by omega)
      have h2 : 0 < u.loop.length * v.loop.length := Nat.mul_pos h.1.p h.2.p
      exact shortW_sz (by show 0 < ((List.range _).map _).length; rw [List.length_map, List.length_range]; exact h2) (by show ((List.range _).map _).length ≤ _; rw [List.length_map, List.length_range]; omega) (by show ((List.range _).map _).length ≤ _; rw [List.length_map, List.length_range]; omega)
    · exact errW_sz
theorem mapW_sz {w : Wd} (hw : w.Ok 6) (g : Int → Int) : (nf (mapW g w)).Sz := by
  have hm := hw.m
  exact nf_sz (by show 0 < (w.loop.map g).length; rw [List.length_map]; exact hw.p) (by show (w.stem.map g).length ≤ _; rw [List.length_map]; omega) (by show (w.loop.map g).length ≤ _; rw [List.length_map]; omega)
theorem splitW_sz {w : Wd} {n : Int} : (splitW w n).1.Sz ∧ (splitW w n).2.1.Sz := by
  unfold splitW
  split
  · rename_i h
    split
    · exact ⟨errW_sz, errW_sz⟩
    · exact ⟨mapW_sz h _, mapW_sz h _⟩
  · exact ⟨errW_sz, errW_sz⟩
theorem rshape_int {n : Nat} {avs : List AVal} (h : RShape Tryd.prog n 3 avs) : ∃ m, argOf Tryd.prog 3 avs = .int .i64 m ∧ -9223372036854775808 ≤ m ∧ m ≤ 9223372036854775807 := by
  obtain ⟨m, rfl, hm⟩ := h.int Tryd.underlying3
  exact ⟨m, by unfold argOf; rw [Tryd.underlying3]; rfl, hm⟩
theorem rshape_ints {n : Nat} {avs : List AVal} (h : RShape Tryd.prog n 22 avs) : ∃ l, avs = [rI l] ∧ (∀ x ∈ l, -9223372036854775808 ≤ x ∧ x ≤ 9223372036854775807) ∧ l.length ≤ 1152921504606846976 := h.ints Tryd.underlying22 Tryd.underlying3 (by kernel_rfl) (by kernel_rfl)
theorem rshape_word {n : Nat} {avs : List AVal} (h : RShape Tryd.prog n 24 avs) : ∃ w : Wd, argOf Tryd.prog 24 avs = w.rv ∧ w.Fits := by
  have e0 : argOf Tryd.prog 24 avs = .agg avs := by unfold argOf; rw [Tryd.underlying24]
  rw [e0]
  cases n with
  | zero => exact h.elim
  | succ n =>
    unfold RShape at h
    rw [Tryd.underlying24] at h
    obtain ⟨hl, hf⟩ := h
    have hc : Tryd.prog.cellsOf 24 = 2 := by kernel_rfl
    have c22 : Tryd.prog.cellsOf 22 = 1 := by kernel_rfl
    rw [hc] at hl
    rcases avs with _ | ⟨x0, _ | ⟨x1, _ | ⟨x2, avs⟩⟩⟩
    case cons.cons.nil =>
      have g0 : RShape Tryd.prog n 22 ((([x0, x1] : List AVal).drop 0).take (Tryd.prog.cellsOf 22)) := hf 0 _ rfl
      have g1 : RShape Tryd.prog n 22 ((([x0, x1] : List AVal).drop 1).take (Tryd.prog.cellsOf 22)) := hf 1 _ rfl
      rw [c22] at g0 g1
      obtain ⟨stem, e1, _, b1⟩ := rshape_ints g0
      obtain ⟨loop, e2, _, b2⟩ := rshape_ints g1
      cases e1; cases e2
      exact ⟨⟨stem, loop⟩, rfl, ⟨b1, b2⟩⟩
    all_goals (simp only [List.length_cons, List.length_nil] at hl; omega)
end Go.Proofs.YthjemhlcojmiaaaDoor

/- WordJoins: the law. -/
-- VkG VkH VmA
set_option linter.unusedVariables false
set_option linter.unusedSimpArgs false
set_option maxRecDepth 100000
set_option maxHeartbeats 4000000
namespace Go.Proofs.YthjemhlcojmiaaaDoor
open Go Go.Vh Go.Vk Go.Proofs
theorem law6c (a b : Wd) (ha : a.Fits) (hb : b.Fits) (l : List Int) (n m : Int) (hl : l.length ≤ 1152921504606846976) (hn : -9223372036854775808 ≤ n ∧ n ≤ 9223372036854775807) (hm : -9223372036854775808 ≤ m ∧ m ≤ 9223372036854775807) : CallW Tryd.prog 6 [a.rv, b.rv, rI l, .int .i64 n, .int .i64 m] emptyH fun v _ => v = .bool true := by
  refine CallW.symK (cuts := []) Tryd.func6 rfl (by kernel_rfl) ?_
  conv => whnf
  repeat' (refine Gets.of _ rfl ?_; conv => whnf)
  refine CallS.of (by kernel_rfl) ((fewR [a, b] (by rintro w hw; rcases List.mem_cons.1 hw with rfl | hw; exact ha; rcases List.mem_cons.1 hw with rfl | hw; exact hb; cases hw) (by simp) 300 _).argsF [2] rfl (.keep (.frz (.slice (es := 2) (cs := wcells [a, b]) rfl rfl (Nat.le_refl 4) (.same rfl)) .nil))) rfl ?_
  rintro _ _ ⟨rfl, hw | hw⟩
  all_goals conv => whnf
  all_goals
    repeat' first | (refine Gets.of _ rfl ?_; conv => whnf) | (refine Fork.dec (fun _ => ?_) (fun _ => ?_) <;> first | (exfalso; omega) | (conv => whnf))
  · refine CallS.of (by kernel_rfl) (awake9 _) rfl ?_
    rintro _ _ ⟨rfl, rfl⟩
    conv => whnf
    skip
  rotate_left
  · refine CallS.of (by kernel_rfl) (awake9 _) rfl ?_
    rintro _ _ ⟨rfl, rfl⟩
    conv => whnf
    skip
  have hl1 : l.length ≤ 1000 := by omega
  refine CallS.of (by kernel_rfl) (sameR a b ha hb _) rfl ?_
  rintro _ _ ⟨rfl, s, e, rfl, hs⟩
  conv => whnf
  repeat' (refine Gets.of _ rfl ?_; conv => whnf)
  refine CallS.of (by kernel_rfl) (sameRr a b ha hb _) rfl ?_
  rintro _ _ ⟨rfl, s', e', rfl, hs'⟩
  obtain ⟨rfl, rfl⟩ := hs.uniq hs'
  clear hs hs'
  conv => whnf
  repeat' (refine Gets.of _ rfl ?_; conv => whnf)
  refine CallS.of (by kernel_rfl) (aheadR l a hl1 ha _) rfl ?_
  rintro _ _ ⟨rfl, rfl⟩
  conv => whnf
  repeat' (refine Gets.of _ rfl ?_; conv => whnf)
  refine CallS.of (by kernel_rfl) (aheadRr l a hl1 ha _) rfl ?_
  rintro _ _ ⟨rfl, rfl⟩
  conv => whnf
  repeat' (refine Gets.of _ rfl ?_; conv => whnf)
  refine CallS.of (by kernel_rfl) (mixR a b n m ha hb hn hm _) rfl ?_
  rintro _ _ ⟨rfl, rfl⟩
  conv => whnf
  repeat' (refine Gets.of _ rfl ?_; conv => whnf)
  refine CallS.of (by kernel_rfl) (mixRr a b n m ha hb hn hm _) rfl ?_
  rintro _ _ ⟨rfl, rfl⟩
  conv => whnf
  repeat' (refine Gets.of _ rfl ?_; conv => whnf)
  refine CallS.of (by kernel_rfl) (splitR a ha n hn _) rfl ?_
  rintro _ _ ⟨rfl, rfl⟩
  conv => whnf
  repeat' (refine Gets.of _ rfl ?_; conv => whnf)
  refine CallS.of (by kernel_rfl) (splitRr a ha n hn _) rfl ?_
  rintro _ _ ⟨rfl, rfl⟩
  conv => whnf
  repeat' first | (refine Gets.of _ rfl ?_; conv => whnf) | (refine Fork.dec (fun _ => ?_) (fun _ => ?_) <;> first | (exfalso; omega) | (conv => whnf))
  refine CallS.of (by kernel_rfl) (isT _ (aheadW_sz hl1) (aheadW l a).2 _) rfl ?_
  rintro _ _ ⟨rfl, rfl⟩
  conv => whnf
  repeat' (refine Gets.of _ rfl ?_; conv => whnf)
  refine CallS.of (by kernel_rfl) (isT _ (mixW_sz) (mixW a b n m).2 _) rfl ?_
  rintro _ _ ⟨rfl, rfl⟩
  conv => whnf
  repeat' (refine Gets.of _ rfl ?_; conv => whnf)
  refine CallS.of (by kernel_rfl) (isT _ (splitW_sz.1) (splitW a n).2.2 _) rfl ?_
  rintro _ _ ⟨rfl, rfl⟩
  conv => whnf
  repeat' (refine Gets.of _ rfl ?_; conv => whnf)
  refine CallS.of (by kernel_rfl) (isT _ (splitW_sz.2) (splitW a n).2.2 _) rfl ?_
  rintro _ _ ⟨rfl, rfl⟩
  conv => whnf
  skip
  refine CallS.of (by kernel_rfl) (awake9 _) rfl ?_
  rintro _ _ ⟨rfl, rfl⟩
  conv => whnf
  skip
  all_goals first | rfl | (rename_i h; exact absurd rfl h) | skip
theorem law6 : ∀ (avs0 avs1 avs2 avs3 avs4 : List AVal), RShape Tryd.prog 4 24 avs0 → RShape Tryd.prog 4 24 avs1 → RShape Tryd.prog 4 22 avs2 → RShape Tryd.prog 4 3 avs3 → RShape Tryd.prog 4 3 avs4 → CallW Tryd.prog 6 [argOf Tryd.prog 24 avs0, argOf Tryd.prog 24 avs1, argOf Tryd.prog 22 avs2, argOf Tryd.prog 3 avs3, argOf Tryd.prog 3 avs4] emptyH fun v _ => v = .bool true := by
  intro avs0 avs1 avs2 avs3 avs4 h0 h1 h2 h3 h4
  obtain ⟨a, e0, ha⟩ := rshape_word h0
  obtain ⟨b, e1, hb⟩ := rshape_word h1
  obtain ⟨l, rfl, _, hl⟩ := rshape_ints h2
  obtain ⟨n, e3, hn⟩ := rshape_int h3
  obtain ⟨m, e4, hm⟩ := rshape_int h4
  have e2 : argOf Tryd.prog 22 [rI l] = rI l := by unfold argOf; rw [Tryd.underlying22]; rfl
  rw [e0, e1, e2, e3, e4]
  exact law6c a b ha hb l n m hl hn hm
end Go.Proofs.YthjemhlcojmiaaaDoor
