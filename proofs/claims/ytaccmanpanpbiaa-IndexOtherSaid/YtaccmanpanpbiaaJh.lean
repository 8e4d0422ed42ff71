/- The reference's normal form. -/
import Derived.Test.YtaccmanpanpbiaaJg
import Derived.Test.YtaccmanpanpbiaaJf
import Derived.Test.YtaccmanpanpbiaaVmA
-- VkG VkH
set_option linter.unusedVariables false
set_option linter.unusedSimpArgs false
set_option maxRecDepth 100000
set_option maxHeartbeats 1000000
namespace Go.Proofs.Ytaccmanpanpbiaa
open Go Go.Vh Go.Vk Go.Proofs
theorem norm44 (s l : List Int) (k : Nat) (hk : k ≤ s.length) (hs : s.length ≤ 4294967296) (h0 : 0 < l.length) (hl : l.length ≤ 4294967296) : CallW Try.prog 26 [.agg [.view 0 k (s.length - k), .view 1 0 l.length]] (wh s l)
    fun v H' => v = (nfP (s.drop k) l).av 2 3 ∧ H' = ((wh s l).alloc (vB (s.drop k))).alloc (vB (nfP (s.drop k) l).loop) := by
  obtain ⟨S, hSe⟩ : ∃ S, S = s.drop k := ⟨_, rfl⟩
  have hSl : S.length = s.length - k := by rw [hSe, List.length_drop]
  rw [← hSe]
  have hS32 : S.length ≤ 4294967296 := by omega
  have hSx : (s.drop k).take (s.length - k) = S := by rw [← hSl, ← hSe]; exact List.take_of_length_le (Nat.le_refl _)
  refine CallW.tells ?_
  refine CallW.symRK (cuts := []) Try.func26 rfl (by kernel_rfl) ?_
  conv => whnf
  repeat' (refine Gets.of _ rfl ?_; conv => whnf)
  refine CodeS.loopGK (cuts := []) (σ := Nat) (fun p => [(1, .ptr 2 0), (2, .ptr 3 0), (3, .view 1 0 l.length), (4, .int .i64 (p : Int))]) (fun _ => ((wh s l).alloc (.cells 1 [.view 0 k (s.length - k), .view 1 0 l.length])).alloc (.cells 1 [.nilSlice, .nilSlice])) (fun p => 0 < p ∧ p ≤ l.length ∧ ∀ q, 0 < q → q < p → ¬ Pd l q) (fun p => l.length - p) 1 (renL [0, 1, 2, 3] 4) (by kernel_rfl) ⟨by decide, h0, fun q h1 h2 => by omega⟩ ⟨rfl, rfl, rfl, rfl, trivial⟩ (EmbL.litsN [0, 1, 2, 3] rfl rfl rfl rfl (.cons ⟨rfl, .inl ⟨rfl, fun h => h⟩⟩ (.cons ⟨rfl, .inl ⟨rfl, fun h => h⟩⟩ .nil)) (.cons ⟨rfl, .roI⟩ (.cons ⟨rfl, .roI⟩ (.cons ⟨rfl, .inl rfl⟩ (.cons ⟨rfl, .inl rfl⟩ .nil))))) ?_
  rintro p ⟨g1, g2, g3⟩
  have e : (l.length : Int) % (p : Int) = ((l.length % p : Nat) : Int) := rfl
  conv => whnf
  repeat' first | ((with_reducible refine Gets.remN ?_ ?_ ?_); (· omega); (· omega); conv => whnf) | ((with_reducible refine Gets.addI ?_ ?_ ?_); (· omega); (· omega); conv => whnf) | (refine Gets.of _ rfl ?_; conv => whnf) | (refine Fork.dec (fun _ => ?_) (fun _ => ?_) <;> first | (exfalso; omega) | (conv => whnf)) | (refine Fork.neI (fun _ => ?_) (fun _ => ?_) <;> first | (exfalso; omega) | (conv => whnf))
  · rename_i hm
    exact ⟨p + 1, renL [0, 1, 2, 3] 4, ⟨by omega, by omega, fun q h1 h2 => by
      rcases Nat.lt_or_ge q p with a | a
      · exact g3 q h1 a
      · rw [show q = p by omega]; intro h; exact hm (by rw [e, h.1]; rfl)⟩, by omega, ⟨rfl, rfl, rfl, rfl, trivial⟩, EmbL.litsN [0, 1, 2, 3] rfl rfl rfl rfl (.cons ⟨rfl, .inl ⟨rfl, fun h => h⟩⟩ (.cons ⟨rfl, .inl ⟨rfl, fun h => h⟩⟩ .nil)) (.cons ⟨rfl, .roI⟩ (.cons ⟨rfl, .roI⟩ (.cons ⟨rfl, .inl rfl⟩ (.cons ⟨rfl, .inl rfl⟩ .nil))))⟩
  · rename_i hm
    have hm' : l.length % p = 0 := by rw [e] at hm; omega
    refine CodeS.loopGK (cuts := []) (σ := Nat × Bool) (fun x => [(1, .ptr 2 0), (2, .ptr 3 0), (3, .view 1 0 l.length), (4, .int .i64 (p : Int)), (5, .bool x.2), (23, .int .i64 l.length), (24, .int .i64 (x.1 : Int))]) (fun _ => ((wh s l).alloc (.cells 1 [.view 0 k (s.length - k), .view 1 0 l.length])).alloc (.cells 1 [.nilSlice, .nilSlice])) (fun x => x.1 ≤ l.length ∧ (x.2 = true ↔ ∀ i, i < x.1 → l.getD i 0 = l.getD (i % p) 0)) (fun x => l.length - x.1) (0, true) (renL [0, 1, 2, 3] 4) (by kernel_rfl) ⟨Nat.zero_le _, fun _ i hi => by omega, fun _ => rfl⟩ ⟨rfl, rfl, rfl, rfl, rfl, rfl, rfl, trivial⟩ (EmbL.litsN [0, 1, 2, 3] rfl rfl rfl rfl (.cons ⟨rfl, .inl ⟨rfl, fun h => h⟩⟩ (.cons ⟨rfl, .inl ⟨rfl, fun h => h⟩⟩ .nil)) (.cons ⟨rfl, .roI⟩ (.cons ⟨rfl, .roI⟩ (.cons ⟨rfl, .inl rfl⟩ (.cons ⟨rfl, .inl rfl⟩ .nil))))) ?_
    rintro ⟨j, b⟩ ⟨k1, k2⟩
    dsimp only at k1 k2
    have hmj := Nat.mod_lt j g1
    rcases Nat.lt_or_ge j l.length with hj | hj
    · have e3 : (j : Int) % (p : Int) = ((j % p : Nat) : Int) := rfl
      cases b
      · conv => whnf
        repeat' (refine Fork.dec (fun _ => ?_) (fun _ => ?_) <;> first | (exfalso; omega) | (conv => whnf))
        refine CodeS.drawT [] (.take 0 (.take 1 (.take 2 (.take 3 (.take 4 (.take 5 (.take 6 (.take 7 (.take 8 (.take 9 (.take 10 (.take 11 (.take 12 (.take 13 (.take 14 .done))))))))))))))) mixed (by kernel_rfl) .nil ?_
        conv => whnf
        repeat' ((with_reducible refine Gets.addI ?_ ?_ ?_); (· omega); (· omega); conv => whnf)
        exact ⟨(j + 1, false), renL [0, 1, 2, 3] 4, ⟨by omega, fun h => (by cases h), fun h => k2.2 fun i hi => h i (by omega)⟩, by omega, ⟨rfl, rfl, rfl, rfl, rfl, rfl, rfl, trivial⟩, EmbL.litsN [0, 1, 2, 3] rfl rfl rfl rfl (.cons ⟨rfl, .inl ⟨rfl, fun h => h⟩⟩ (.cons ⟨rfl, .inl ⟨rfl, fun h => h⟩⟩ .nil)) (.cons ⟨rfl, .roI⟩ (.cons ⟨rfl, .roI⟩ (.cons ⟨rfl, .inl rfl⟩ (.cons ⟨rfl, .inl rfl⟩ .nil))))⟩
      · conv => whnf
        repeat' (refine Fork.dec (fun _ => ?_) (fun _ => ?_) <;> first | (exfalso; omega) | (conv => whnf))
        refine CodeS.drawT [1] (.take 0 (.take 1 (.take 2 (.take 3 (.take 4 (.take 5 (.take 6 (.take 7 (.take 8 (.take 9 (.take 10 (.take 11 (.take 12 (.take 13 (.take 14 .done))))))))))))))) mixed (by kernel_rfl) (.cons ⟨rfl, live_of_ints rfl h0⟩ .nil) ?_
        conv => whnf
        repeat' first | ((with_reducible refine Gets.remN ?_ ?_ ?_); (· omega); (· omega); conv => whnf) | (refine Gets.ix1v rfl rfl (by omega) ?_; conv => whnf) | (refine Gets.ldI rfl (by first | rfl | assumption) (by first | omega | exact Nat.le_of_ble_eq_true rfl) ?_; conv => whnf)
        rw [e3]
        repeat' first | ((with_reducible refine Gets.addI ?_ ?_ ?_); (· omega); (· omega); conv => whnf) | (refine Gets.ix1v rfl rfl (by omega) ?_; conv => whnf) | (refine Gets.ldI rfl (by first | rfl | assumption) (by first | omega | exact Nat.le_of_ble_eq_true rfl) ?_; conv => whnf) | (refine Fork.dec (fun _ => ?_) (fun _ => ?_) <;> first | (exfalso; omega) | (conv => whnf))
        · rename_i he
          exact ⟨(j + 1, true), renL [0, 1, 2, 3] 4, ⟨by omega, fun _ => lt_succ_all (k2.1 rfl) he, fun _ => rfl⟩, by omega, ⟨rfl, rfl, rfl, rfl, rfl, rfl, rfl, trivial⟩, EmbL.litsN [0, 1, 2, 3] rfl rfl rfl rfl (.cons ⟨rfl, .inl ⟨rfl, fun h => h⟩⟩ (.cons ⟨rfl, .inl ⟨rfl, fun h => h⟩⟩ .nil)) (.cons ⟨rfl, .roI⟩ (.cons ⟨rfl, .roI⟩ (.cons ⟨rfl, .inl rfl⟩ (.cons ⟨rfl, .inl rfl⟩ .nil))))⟩
        · rename_i he
          exact ⟨(j + 1, false), renL [0, 1, 2, 3] 4, ⟨by omega, fun h => (by cases h), fun h => absurd (h j (by omega)) he⟩, by omega, ⟨rfl, rfl, rfl, rfl, rfl, rfl, rfl, trivial⟩, EmbL.litsN [0, 1, 2, 3] rfl rfl rfl rfl (.cons ⟨rfl, .inl ⟨rfl, fun h => h⟩⟩ (.cons ⟨rfl, .inl ⟨rfl, fun h => h⟩⟩ .nil)) (.cons ⟨rfl, .roI⟩ (.cons ⟨rfl, .roI⟩ (.cons ⟨rfl, .inl rfl⟩ (.cons ⟨rfl, .inl rfl⟩ .nil))))⟩
    · cases b
      · conv => whnf
        repeat' first | ((with_reducible refine Gets.addI ?_ ?_ ?_); (· omega); (· omega); conv => whnf) | (refine Fork.dec (fun _ => ?_) (fun _ => ?_) <;> first | (exfalso; omega) | (conv => whnf))
        exact ⟨p + 1, renL [0, 1, 2, 3] 4, ⟨by omega, by omega, fun q h1 h2 => by
          rcases Nat.lt_or_ge q p with a | a
          · exact g3 q h1 a
          · rw [show q = p by omega]; intro h; exact absurd (k2.2 fun i hi => h.mod g1 i (by omega)) (by decide)⟩, by omega, ⟨rfl, rfl, rfl, rfl, trivial⟩, EmbL.litsN [0, 1, 2, 3] rfl rfl rfl rfl (.cons ⟨rfl, .inl ⟨rfl, fun h => h⟩⟩ (.cons ⟨rfl, .inl ⟨rfl, fun h => h⟩⟩ .nil)) (.cons ⟨rfl, .roI⟩ (.cons ⟨rfl, .roI⟩ (.cons ⟨rfl, .inl rfl⟩ (.cons ⟨rfl, .inl rfl⟩ .nil))))⟩
      · conv => whnf
        repeat' first | ((refine Gets.sliceHiV (k := p) rfl rfl rfl rfl g2 ?_); conv => whnf) | (refine Gets.of _ rfl ?_; conv => whnf) | (refine Fork.dec (fun _ => ?_) (fun _ => ?_) <;> first | (exfalso; omega) | (conv => whnf))
        have hq : per l = p := per_eq ⟨g1, g2, pd_of_mod g1 hm' fun i hi => k2.1 rfl i (by omega), g3⟩
        unfold nfP
        rw [hq]
        obtain ⟨T, hTe⟩ : ∃ T, T = l.take p := ⟨_, rfl⟩
        have hT : T.length = p := by rw [hTe, List.length_take]; omega
        have hT0 : 0 < T.length := by omega
        have hT32 : T.length ≤ 4294967296 := by omega
        have hTx : (l.drop 0).take p = T := hTe.symm
        rw [← hTe]
        refine Gets.appSrc (ti := tiI) (l := []) (xs := (s.drop k).take (s.length - k)) (m := 0) (n := s.length - k) rfl rfl rfl rfl rfl (by decide) (Nat.le_refl _) (src_part (by omega) (.inl rfl)).2 rfl (by omega) ?_
        rw [hSx, show 0 + (s.length - k) = S.length by omega, show [].take 0 ++ S = S from rfl]
        conv => whnf
        skip
        refine Gets.appSrc (ti := tiI) (l := []) (xs := (l.drop 0).take p) (m := 0) (n := p) rfl rfl rfl rfl rfl (by decide) (Nat.le_refl _) (src_part (by omega) (.inl rfl)).2 rfl (by omega) ?_
        rw [hTx, show 0 + p = T.length by omega, show [].take 0 ++ T = T from rfl, ← hT]
        conv => whnf
        skip
        refine CodeS.loopGK (cuts := []) (σ := Nat) (fun t => [(2, .ptr 2 0), (3, .slice 4 0 T.length), (7, .slice 3 0 (S.length - t))]) (fun t => (((wh s l).alloc (.cells 1 [.nilSlice, .nilSlice])).alloc (.cells 1 (ints S))).alloc (.cells 1 (ints (rot T (t % T.length))))) (fun t => t ≤ S.length ∧ ∀ u, u < t → Mt S T u) (fun t => S.length - t) 0 (renL [0, 1, 3, 5, 7] 8) (by kernel_rfl) ⟨Nat.zero_le _, fun u hu => by omega⟩ ⟨rfl, rfl, rfl, trivial⟩ (EmbL.litsN [0, 1, 3, 5, 7] rfl rfl rfl rfl (.cons ⟨rfl, .inl ⟨rfl, fun h => h⟩⟩ (.cons ⟨rfl, .inl ⟨rfl, fun h => h⟩⟩ .nil)) (.cons ⟨rfl, .roI⟩ (.cons ⟨rfl, .roI⟩ (.cons ⟨rfl, .inl rfl⟩ (.cons ⟨rfl, .cellsI⟩ (.cons ⟨rfl, .cellsIe (by rw [Nat.zero_mod, rot_zero])⟩ .nil)))))) ?_
        rintro t ⟨k1, k2⟩
        have hmt := Nat.mod_lt t hT0
        have hR := rot_length T (t % T.length)
        have rl := rot_last (l := T) hmt
        have rs := rot_step (l := T) hmt
        rw [Nat.mod_add_mod] at rs
        have e4 : (T.length : Int) - 1 = ((T.length - 1 : Nat) : Int) := by omega
        rcases Nat.lt_or_ge t S.length with ht | ht
        · have e5 : (((S.length - t : Nat) : Int) - 1) = ((S.length - (t + 1) : Nat) : Int) := by omega
          conv => whnf
          skip
          refine CodeS.drawT [3, 4] (.take 0 (.take 1 (.take 2 (.take 3 (.take 4 (.take 5 (.take 6 (.take 7 (.take 8 (.take 9 (.take 10 (.take 11 (.take 12 (.take 13 (.take 14 (.take 15 (.take 16 (.take 17 .done)))))))))))))))))) mixed (by kernel_rfl) (.cons ⟨rfl, live_of_ints rfl (by omega)⟩ (.cons ⟨rfl, live_of_ints rfl (by omega)⟩ .nil)) ?_
          conv => whnf
          repeat' first | ((with_reducible refine Gets.subI ?_ ?_ ?_); (· omega); (· omega); conv => whnf) | (refine Gets.of _ rfl ?_; conv => whnf) | (refine Gets.ixI rfl rfl (by omega) (by omega) ?_; conv => whnf) | (refine Gets.ldI rfl (by first | rfl | assumption) (by first | omega | exact Nat.le_of_ble_eq_true rfl) ?_; conv => whnf) | (refine Fork.dec (fun _ => ?_) (fun _ => ?_) <;> first | (exfalso; omega) | (conv => whnf))
          · rename_i he
            rw [e4]
            repeat' ((refine Gets.sliceHi (k := T.length - 1) rfl rfl rfl rfl (by omega) ?_); conv => whnf)
            refine Gets.appSrc (ti := tiI) (l := [(rot T (t % T.length)).getD (T.length - 1) 0]) (xs := ((rot T (t % T.length)).drop 0).take (T.length - 1)) (m := 1) (n := T.length - 1) rfl rfl rfl rfl rfl (by decide) (Nat.le_refl _) (src_part (by omega) (.inr rfl)).1 rfl (by omega) ?_
            rw [show [(rot T (t % T.length)).getD (T.length - 1) 0].take 1 ++ ((rot T (t % T.length)).drop 0).take (T.length - 1) = rot T ((t + 1) % T.length) from rs, show 1 + (T.length - 1) = T.length by omega]
            conv => whnf
            repeat' first | ((with_reducible refine Gets.subI ?_ ?_ ?_); (· omega); (· omega); conv => whnf) | (refine Gets.of _ rfl ?_; conv => whnf)
            rw [e5]
            repeat' ((refine Gets.sliceHi (k := S.length - (t + 1)) rfl rfl rfl rfl (by omega) ?_); conv => whnf)
            exact ⟨t + 1, renL [0, 1, 2, 3, 6] 7, ⟨by omega, lt_succ_all k2 (by
              unfold Mt
              rw [← rl, show S.length - 1 - t = (((S.length - t : Nat) : Int) - 1).toNat by omega, he, show ((T.length : Int) - 1).toNat = T.length - 1 by omega])⟩, by omega, ⟨rfl, rfl, rfl, trivial⟩, EmbL.litsN [0, 1, 2, 3, 6] rfl rfl rfl rfl (.cons ⟨rfl, .inl ⟨rfl, fun h => h⟩⟩ (.cons ⟨rfl, .inl ⟨rfl, fun h => h⟩⟩ .nil)) (.cons ⟨rfl, .roI⟩ (.cons ⟨rfl, .roI⟩ (.cons ⟨rfl, .inl rfl⟩ (.cons ⟨rfl, .cellsI⟩ (.cons ⟨rfl, .cellsI⟩ .nil)))))⟩
          · rename_i he
            have hc : IsCut S T t := ⟨k1, k2, .inr (by
              unfold Mt
              rw [← rl, show S.length - 1 - t = (((S.length - t : Nat) : Int) - 1).toNat by omega, show T.length - 1 = ((T.length : Int) - 1).toNat by omega]; exact he)⟩
            rw [cut_eq hc]
            exact ⟨renL [0, 1, 3, 4] 5, .agg [.slice 2 0 (S.length - t), .slice 3 0 T.length], ((wh s l).alloc (vB S)).alloc (vB (rot T (t % T.length))), EmbL.litsN [0, 1, 3, 4] rfl rfl rfl rfl (.cons ⟨rfl, .inl ⟨rfl, fun h => h⟩⟩ (.cons ⟨rfl, .inl ⟨rfl, fun h => h⟩⟩ .nil)) (.cons ⟨rfl, .roI⟩ (.cons ⟨rfl, .roI⟩ (.cons ⟨rfl, .vC rfl⟩ (.cons ⟨rfl, .vC rfl⟩ .nil)))), rfl, _, ⟨rfl, rfl⟩, Tells.agg (.cons Tells.sliceView (.cons (by rw [hR]; exact Tells.sliceView) .nil))⟩
        · have hc : IsCut S T t := ⟨k1, k2, .inl (by omega)⟩
          conv => whnf
          skip
          refine CodeS.drawT [] (.take 0 (.take 1 (.take 2 (.take 3 (.take 4 (.take 5 (.take 6 (.take 7 (.take 8 (.take 9 (.take 10 (.take 11 (.take 12 (.take 13 (.take 14 (.take 15 (.take 16 (.take 17 .done)))))))))))))))))) mixed (by kernel_rfl) .nil ?_
          conv => whnf
          repeat' first | (refine Gets.of _ rfl ?_; conv => whnf) | (refine Fork.dec (fun _ => ?_) (fun _ => ?_) <;> first | (exfalso; omega) | (conv => whnf))
          rw [cut_eq hc]
          exact ⟨renL [0, 1, 3, 4] 5, .agg [.slice 2 0 (S.length - t), .slice 3 0 T.length], ((wh s l).alloc (vB S)).alloc (vB (rot T (t % T.length))), EmbL.litsN [0, 1, 3, 4] rfl rfl rfl rfl (.cons ⟨rfl, .inl ⟨rfl, fun h => h⟩⟩ (.cons ⟨rfl, .inl ⟨rfl, fun h => h⟩⟩ .nil)) (.cons ⟨rfl, .roI⟩ (.cons ⟨rfl, .roI⟩ (.cons ⟨rfl, .vC rfl⟩ (.cons ⟨rfl, .vC rfl⟩ .nil)))), rfl, _, ⟨rfl, rfl⟩, Tells.agg (.cons Tells.sliceView (.cons (by rw [hR]; exact Tells.sliceView) .nil))⟩
  · obtain rfl : p = l.length := by omega
    have hq : per l = l.length := per_eq (isPer_self h0 g3)
    unfold nfP
    rw [hq]
    obtain ⟨T, hTe⟩ : ∃ T, T = l.take l.length := ⟨_, rfl⟩
    have hT : T.length = l.length := by rw [hTe, List.length_take]; omega
    have hT0 : 0 < T.length := by omega
    have hT32 : T.length ≤ 4294967296 := by omega
    have hTx : (l.drop 0).take l.length = T := hTe.symm
    rw [← hTe]
    refine Gets.appSrc (ti := tiI) (l := []) (xs := (s.drop k).take (s.length - k)) (m := 0) (n := s.length - k) rfl rfl rfl rfl rfl (by decide) (Nat.le_refl _) (src_part (by omega) (.inl rfl)).2 rfl (by omega) ?_
    rw [hSx, show 0 + (s.length - k) = S.length by omega, show [].take 0 ++ S = S from rfl]
    conv => whnf
    skip
    refine Gets.appSrc (ti := tiI) (l := []) (xs := (l.drop 0).take l.length) (m := 0) (n := l.length) rfl rfl rfl rfl rfl (by decide) (Nat.le_refl _) (src_part (by omega) (.inl rfl)).2 rfl (by omega) ?_
    rw [hTx, show 0 + l.length = T.length by omega, show [].take 0 ++ T = T from rfl, ← hT]
    conv => whnf
    skip
    refine CodeS.loopGK (cuts := []) (σ := Nat) (fun t => [(2, .ptr 2 0), (3, .slice 4 0 T.length), (7, .slice 3 0 (S.length - t))]) (fun t => (((wh s l).alloc (.cells 1 [.nilSlice, .nilSlice])).alloc (.cells 1 (ints S))).alloc (.cells 1 (ints (rot T (t % T.length))))) (fun t => t ≤ S.length ∧ ∀ u, u < t → Mt S T u) (fun t => S.length - t) 0 (renL [0, 1, 3, 5, 7] 8) (by kernel_rfl) ⟨Nat.zero_le _, fun u hu => by omega⟩ ⟨rfl, rfl, rfl, trivial⟩ (EmbL.litsN [0, 1, 3, 5, 7] rfl rfl rfl rfl (.cons ⟨rfl, .inl ⟨rfl, fun h => h⟩⟩ (.cons ⟨rfl, .inl ⟨rfl, fun h => h⟩⟩ .nil)) (.cons ⟨rfl, .roI⟩ (.cons ⟨rfl, .roI⟩ (.cons ⟨rfl, .inl rfl⟩ (.cons ⟨rfl, .cellsI⟩ (.cons ⟨rfl, .cellsIe (by rw [Nat.zero_mod, rot_zero])⟩ .nil)))))) ?_
    rintro t ⟨k1, k2⟩
    have hmt := Nat.mod_lt t hT0
    have hR := rot_length T (t % T.length)
    have rl := rot_last (l := T) hmt
    have rs := rot_step (l := T) hmt
    rw [Nat.mod_add_mod] at rs
    have e4 : (T.length : Int) - 1 = ((T.length - 1 : Nat) : Int) := by omega
    rcases Nat.lt_or_ge t S.length with ht | ht
    · have e5 : (((S.length - t : Nat) : Int) - 1) = ((S.length - (t + 1) : Nat) : Int) := by omega
      conv => whnf
      skip
      refine CodeS.drawT [3, 4] (.take 0 (.take 1 (.take 2 (.take 3 (.take 4 (.take 5 (.take 6 (.take 7 (.take 8 (.take 9 (.take 10 (.take 11 (.take 12 (.take 13 (.take 14 (.take 15 (.take 16 (.take 17 .done)))))))))))))))))) mixed (by kernel_rfl) (.cons ⟨rfl, live_of_ints rfl (by omega)⟩ (.cons ⟨rfl, live_of_ints rfl (by omega)⟩ .nil)) ?_
      conv => whnf
      repeat' first | ((with_reducible refine Gets.subI ?_ ?_ ?_); (· omega); (· omega); conv => whnf) | (refine Gets.of _ rfl ?_; conv => whnf) | (refine Gets.ixI rfl rfl (by omega) (by omega) ?_; conv => whnf) | (refine Gets.ldI rfl (by first | rfl | assumption) (by first | omega | exact Nat.le_of_ble_eq_true rfl) ?_; conv => whnf) | (refine Fork.dec (fun _ => ?_) (fun _ => ?_) <;> first | (exfalso; omega) | (conv => whnf))
      · rename_i he
        rw [e4]
        repeat' ((refine Gets.sliceHi (k := T.length - 1) rfl rfl rfl rfl (by omega) ?_); conv => whnf)
        refine Gets.appSrc (ti := tiI) (l := [(rot T (t % T.length)).getD (T.length - 1) 0]) (xs := ((rot T (t % T.length)).drop 0).take (T.length - 1)) (m := 1) (n := T.length - 1) rfl rfl rfl rfl rfl (by decide) (Nat.le_refl _) (src_part (by omega) (.inr rfl)).1 rfl (by omega) ?_
        rw [show [(rot T (t % T.length)).getD (T.length - 1) 0].take 1 ++ ((rot T (t % T.length)).drop 0).take (T.length - 1) = rot T ((t + 1) % T.length) from rs, show 1 + (T.length - 1) = T.length by omega]
        conv => whnf
        repeat' first | ((with_reducible refine Gets.subI ?_ ?_ ?_); (· omega); (· omega); conv => whnf) | (refine Gets.of _ rfl ?_; conv => whnf)
        rw [e5]
        repeat' ((refine Gets.sliceHi (k := S.length - (t + 1)) rfl rfl rfl rfl (by omega) ?_); conv => whnf)
        exact ⟨t + 1, renL [0, 1, 2, 3, 6] 7, ⟨by omega, lt_succ_all k2 (by
          unfold Mt
          rw [← rl, show S.length - 1 - t = (((S.length - t : Nat) : Int) - 1).toNat by omega, he, show ((T.length : Int) - 1).toNat = T.length - 1 by omega])⟩, by omega, ⟨rfl, rfl, rfl, trivial⟩, EmbL.litsN [0, 1, 2, 3, 6] rfl rfl rfl rfl (.cons ⟨rfl, .inl ⟨rfl, fun h => h⟩⟩ (.cons ⟨rfl, .inl ⟨rfl, fun h => h⟩⟩ .nil)) (.cons ⟨rfl, .roI⟩ (.cons ⟨rfl, .roI⟩ (.cons ⟨rfl, .inl rfl⟩ (.cons ⟨rfl, .cellsI⟩ (.cons ⟨rfl, .cellsI⟩ .nil)))))⟩
      · rename_i he
        have hc : IsCut S T t := ⟨k1, k2, .inr (by
          unfold Mt
          rw [← rl, show S.length - 1 - t = (((S.length - t : Nat) : Int) - 1).toNat by omega, show T.length - 1 = ((T.length : Int) - 1).toNat by omega]; exact he)⟩
        rw [cut_eq hc]
        exact ⟨renL [0, 1, 3, 4] 5, .agg [.slice 2 0 (S.length - t), .slice 3 0 T.length], ((wh s l).alloc (vB S)).alloc (vB (rot T (t % T.length))), EmbL.litsN [0, 1, 3, 4] rfl rfl rfl rfl (.cons ⟨rfl, .inl ⟨rfl, fun h => h⟩⟩ (.cons ⟨rfl, .inl ⟨rfl, fun h => h⟩⟩ .nil)) (.cons ⟨rfl, .roI⟩ (.cons ⟨rfl, .roI⟩ (.cons ⟨rfl, .vC rfl⟩ (.cons ⟨rfl, .vC rfl⟩ .nil)))), rfl, _, ⟨rfl, rfl⟩, Tells.agg (.cons Tells.sliceView (.cons (by rw [hR]; exact Tells.sliceView) .nil))⟩
    · have hc : IsCut S T t := ⟨k1, k2, .inl (by omega)⟩
      conv => whnf
      skip
      refine CodeS.drawT [] (.take 0 (.take 1 (.take 2 (.take 3 (.take 4 (.take 5 (.take 6 (.take 7 (.take 8 (.take 9 (.take 10 (.take 11 (.take 12 (.take 13 (.take 14 (.take 15 (.take 16 (.take 17 .done)))))))))))))))))) mixed (by kernel_rfl) .nil ?_
      conv => whnf
      repeat' first | (refine Gets.of _ rfl ?_; conv => whnf) | (refine Fork.dec (fun _ => ?_) (fun _ => ?_) <;> first | (exfalso; omega) | (conv => whnf))
      rw [cut_eq hc]
      exact ⟨renL [0, 1, 3, 4] 5, .agg [.slice 2 0 (S.length - t), .slice 3 0 T.length], ((wh s l).alloc (vB S)).alloc (vB (rot T (t % T.length))), EmbL.litsN [0, 1, 3, 4] rfl rfl rfl rfl (.cons ⟨rfl, .inl ⟨rfl, fun h => h⟩⟩ (.cons ⟨rfl, .inl ⟨rfl, fun h => h⟩⟩ .nil)) (.cons ⟨rfl, .roI⟩ (.cons ⟨rfl, .roI⟩ (.cons ⟨rfl, .vC rfl⟩ (.cons ⟨rfl, .vC rfl⟩ .nil)))), rfl, _, ⟨rfl, rfl⟩, Tells.agg (.cons Tells.sliceView (.cons (by rw [hR]; exact Tells.sliceView) .nil))⟩
end Go.Proofs.Ytaccmanpanpbiaa

/- What is known of the functions on words that deciding words needs, told over rows. -/
-- VkG VkH VmA
set_option linter.unusedVariables false
set_option linter.unusedSimpArgs false
set_option maxRecDepth 100000
set_option maxHeartbeats 1000000
namespace Go.Proofs.Ytaccmanpanpbiaa
open Go Go.Vh Go.Vk Go.Proofs
/-- A word as a value. -/
def Wd.rv (w : Wd) : AVal := .agg [rI w.stem, rI w.loop]
theorem rowA_word (w : Wd) {k : Nat} {ls : List (List Int)} {xs ys : List AVal} (h : RowA ls (k + 2) xs ys) : RowA (w.stem :: w.loop :: ls) k (w.av k (k + 1) :: xs) (w.rv :: ys) :=
  .agg (ls := [w.stem, w.loop]) (.row (.row .nil)) rfl h
theorem told_word {G : AHeap} {a b : List Int} {n : Nat} (hn : n ≤ a.length) : ∃ ks, ksCells ((G.alloc (vB a)).alloc (vB b)) ks = true ∧ Frz ((G.alloc (vB a)).alloc (vB b)) ks (.agg [.view G.n 0 n, .view (G.n + 1) 0 b.length]) (.agg [.row n (ints (a.take n)), .row b.length (ints b)]) := by
  have f0 : ((G.alloc (vB a)).alloc (vB b)).f G.n = vB a := by rw [alloc_f, alloc_n, if_neg (by omega), alloc_f, if_pos rfl]
  have f1 : ((G.alloc (vB a)).alloc (vB b)).f (G.n + 1) = vB b := by rw [alloc_f, alloc_n, if_pos rfl]
  generalize (G.alloc (vB a)).alloc (vB b) = H at f0 f1
  have one : ∀ {ks i n l}, ks.contains i = true ∨ l = [] → H.f i = vB l → n ≤ l.length → Frz H ks (.view i 0 n) (.row n (ints (l.take n))) := fun {ks i n l} h hf hn => by
    rcases h with h | rfl
    · exact frz_vw h hf hn
    · obtain rfl : n = 0 := by simpa using hn
      exact .view0
  have key : ∀ ks, (ks.contains G.n = true ∨ a = []) → (ks.contains (G.n + 1) = true ∨ b = []) → Frz H ks (.agg [.view G.n 0 n, .view (G.n + 1) 0 b.length]) (.agg [.row n (ints (a.take n)), .row b.length (ints b)]) := fun ks h1 h2 => by
    have := one h2 f1 (Nat.le_refl _)
    rw [List.take_length] at this
    exact .agg (.cons (one h1 f0 hn) (.cons this (.same rfl)))
  have hc : ∀ {i l}, H.f i = vB l → l ≠ [] → cellsB (H.f i) = true := fun {i l} h hl => by
    rw [h]; cases l with
    | nil => exact absurd rfl hl
    | cons x l => rfl
  have hne : ([] : List Nat).contains G.n = false := rfl
  by_cases ha : a = [] <;> by_cases hb : b = []
  · exact ⟨[], rfl, key _ (.inr ha) (.inr hb)⟩
  · exact ⟨[G.n + 1], by simp [ksCells, hc f1 hb], key _ (.inr ha) (.inl (by simp))⟩
  · exact ⟨[G.n], by simp [ksCells, hc f0 ha], key _ (.inl (by simp)) (.inr hb)⟩
  · exact ⟨[G.n, G.n + 1], by simp [ksCells, hc f0 ha, hc f1 hb], key _ (.inl (by simp)) (.inl (by simp))⟩
theorem row_take {a : List Int} {n : Nat} (hn : n ≤ a.length) : AVal.row n (ints (a.take n)) = rI (a.take n) := by
  unfold rI
  rw [List.length_take, Nat.min_eq_left hn]
/-- A function that makes a word. -/
theorem toldP {P : Program} {f : FuncId} {args : List AVal} {s l : List Int} {X : Pw} (h : CallW P f args (wh s l) fun v H' => v = X.av 2 3 ∧ H' = ((wh s l).alloc (vB X.full)).alloc (vB X.loop)) (hX : X.n ≤ X.full.length) : CallW P f args (wh s l) (ToldR fun v => v = X.wd.rv) :=
  h.mono fun v H' hv => by
    obtain ⟨rfl, rfl⟩ := hv
    obtain ⟨ks, h1, h2⟩ := told_word (G := wh s l) (a := X.full) (b := X.loop) hX
    refine ⟨ks, _, h1, h2, rfl, ?_⟩
    rw [row_take hX]; rfl
theorem ros2 (w : Wd) : w.heap = ros [w.stem, w.loop] := rfl
def errW : Wd := ⟨[], []⟩
theorem nfP_n (s l : List Int) : (nfP s l).n ≤ (nfP s l).full.length := Nat.sub_le _ _
theorem nfRr (w : Wd) (hs : w.stem.length ≤ 4294967296) (h0 : 0 < w.loop.length) (hl : w.loop.length ≤ 4294967296) (H : AHeap) : CallW Try.prog 26 [w.rv] H fun v H' => H' = H ∧ v = (nf w).rv := by
  have h := (toldP (norm44 w.stem w.loop 0 (Nat.zero_le _) hs h0 hl) (nfP_n _ _)).toRows (ros2 w) (rowA_word w .nil) H
  rw [List.drop_zero, nfP_wd] at h
  exact h
theorem validRr (w : Wd) (hf : w.Fits) (n : Int) (H : AHeap) : CallW Try.prog 21 [w.rv, .int .i64 n] H fun v H' => H' = H ∧ IsB v (w.Ok n) :=
  ((valid27 w hf n).mono fun v H' h => h.told).toRows (ros2 w) (rowA_word w (.val rfl .nil)) H
theorem isR (w : Wd) (hf : w.Fits) (H : AHeap) : CallW Try.prog 75 [w.rv] H fun v H' => H' = H ∧ IsB v (w.Ok 6) := by
  refine CallW.pure ?_ rfl H
  refine CallW.symK (cuts := []) Try.func75 rfl (by kernel_rfl) ?_
  conv => whnf
  repeat' (refine Gets.of _ rfl ?_; conv => whnf)
  refine CallS.of (by kernel_rfl) (validRr w hf 6 _) rfl ?_
  rintro _ _ ⟨rfl, hp | hp⟩
  all_goals conv => whnf
  all_goals
    skip
  · exact ⟨[], _, rfl, .same rfl, rfl, .t hp⟩
  · exact ⟨[], _, rfl, .same rfl, rfl, .f hp⟩
theorem Gets.shrI {k' : IntKind} {x : Int} {i : Nat} {A : AVal → Prop} (h0 : 0 ≤ x) (hi : i < 64) (hA : A (.int .i64 (x / ((2 ^ i : Nat) : Int)))) : Gets (abin .shr (.int .i64 x) (.int k' (i : Int))) A := by
  obtain ⟨n, rfl⟩ : ∃ n : Nat, x = (n : Int) := ⟨x.toNat, by omega⟩
  refine Gets.shrN hi ?_
  rw [Nat.shiftRight_eq_div_pow]
  exact hA
theorem Gets.andM {x : Int} {i : Nat} {A : AVal → Prop} (h0 : 0 ≤ x) (h1 : x < 64) (hi : i ≤ 6) (hA : A (.int .i64 (x % ((2 ^ i : Nat) : Int)))) : Gets (abin .and (.int .i64 x) (.int .i64 (((2 ^ i : Nat) : Int) - 1))) A := by
  obtain ⟨n, rfl⟩ : ∃ n : Nat, x = (n : Int) := ⟨x.toNat, by omega⟩
  have hp : (2 ^ i : Nat) ≤ 64 := Nat.le_trans (Nat.pow_le_pow_right (by decide) hi) (by decide)
  have hq : 0 < 2 ^ i := Nat.two_pow_pos i
  refine ⟨⟨_, rfl, ?_⟩⟩
  rw [show ((2 ^ i : Nat) : Int) - 1 = ((2 ^ i - 1 : Nat) : Int) by omega, andI (by omega) (by omega), Nat.and_two_pow_sub_one_eq_mod]
  exact hA
/-- A word all of whose letters are changed. -/
def mapW (g : Int → Int) (w : Wd) : Wd := ⟨w.stem.map g, w.loop.map g⟩
def modF (n : Nat) (x : Int) : Int := x % ((2 ^ n : Nat) : Int)
def divF (n : Nat) (x : Int) : Int := x / ((2 ^ n : Nat) : Int)
theorem take_succ_map (g : Int → Int) (l : List Int) {k : Nat} (hk : k < l.length) : (l.take (k + 1)).map g = (l.take k).map g ++ [g (l.getD k 0)] := by
  rw [List.take_succ_eq_append_getElem hk, List.map_append]
  simp [List.getD_eq_getElem?_getD, List.getElem?_eq_getElem hk]
theorem take_map_next (g : Int → Int) (l : List Int) {k : Nat} (hk : k + 1 < l.length) : (l.take (k + 2)).map g = ((l.take (k + 1)).map g).take (k + 1) ++ [g (l.getD (k + 1) 0)] := by
  rw [take_succ_map g _ hk]
  congr 1
  rw [List.take_of_length_le (l := (l.take (k + 1)).map g) (by rw [List.length_map, List.length_take]; omega)]
theorem take_map_one (g : Int → Int) (l : List Int) (hk : 0 < l.length) : (l.take 1).map g = [g (l.getD 0 0)] := by
  rw [take_succ_map g _ hk]; rfl
theorem inL_lt {n x : Int} (h : inL n x) (h0 : 0 ≤ n) (h6 : n ≤ 6) : 0 ≤ x ∧ x < 64 := by
  have := pow6 h0 h6
  have h1 := h.1
  have h2 := h.2
  omega
theorem ren_acc (κ : Nat → Nat) (k n : Nat) : ren κ (acc k n) = acc (κ k) n := by cases n <;> rfl
theorem _root_.Go.Vh.BSub.acc2 {κ : Nat → Nat} {i i' j j' a b : Nat} (h1 : κ i = i') (h2 : κ j = j') : BSub κ (.cells 1 [acc i a, acc j b]) (.cells 1 [acc i' a, acc j' b]) := by
  subst h1; subst h2
  refine .inl ?_
  show _ = ABlk.cells 1 [ren κ (acc i a), ren κ (acc j b)]
  rw [ren_acc, ren_acc]
theorem renB_accB (κ : Nat → Nat) (l : List Int) (n : Nat) : renB κ (accB l n) = accB l n := by
  cases n with
  | zero => rfl
  | succ n => show ABlk.cells 1 (rens κ (ints l)) = _; rw [rens_ints]; rfl
theorem _root_.Go.Vh.BSub.accS {κ : Nat → Nat} {l : List Int} {n : Nat} : BSub κ (accB l n) (accB l n) := .inl (renB_accB _ _ _).symm
theorem frz_acc {H : AHeap} {ks : List Nat} {i n : Nat} {l : List Int} (h : n ≠ 0 → ks.contains i = true) (hf : H.f i = accB l n) (hn : n = l.length) : Frz H ks (acc i n) (rI l) := by
  cases n with
  | zero => obtain rfl : l = [] := List.eq_nil_of_length_eq_zero hn.symm
            exact .nil (cs := [])
  | succ n => exact frzI (h (by simp)) hf hn
/-- Words in a row. -/
def wcells (ws : List Wd) : List AVal := ws.flatMap fun w => [rI w.stem, rI w.loop]
def rWs (ws : List Wd) : AVal := .row ws.length (wcells ws)
theorem wcells_length (ws : List Wd) : (wcells ws).length = ws.length * 2 := by
  induction ws with
  | nil => rfl
  | cons w ws ih => show (_ ++ wcells ws).length = _; rw [List.length_append, ih]; simp; omega
theorem wcells_get : ∀ (ws : List Wd) (j : Nat) (h : j < ws.length), ((wcells ws).drop (j * 2)).take 2 = [rI ws[j].stem, rI ws[j].loop]
  | [], j, h => absurd h (Nat.not_lt_zero j)
  | w :: ws, 0, h => rfl
  | w :: ws, j + 1, h => by
    have := wcells_get ws j (by simpa using h)
    rw [show (j + 1) * 2 = j * 2 + 2 by omega]
    exact this
theorem fewR (ws : List Wd) (hf : ∀ w ∈ ws, w.Fits) (hn : ws.length ≤ 1000) (a : Int) (H : AHeap) : CallW Try.prog 17 [.int .i64 a, rWs ws] H fun v H' => H' = H ∧ IsB v (∀ w ∈ ws, (w.stem.length : Int) + w.loop.length ≤ a) := by
  refine CallW.pure ?_ rfl H
  refine CallW.symK (cuts := []) Try.func17 rfl (by kernel_rfl) ?_
  conv => whnf
  repeat' (refine Gets.of _ rfl ?_; conv => whnf)
  refine CodeS.loopGK (cuts := []) (σ := Nat) (fun j => [(0, .int .i64 a), (7, rWs ws), (8, .int .i64 (ws.length : Int)), (9, .int .i64 (j : Int))]) (fun _ => emptyH) (fun j => j ≤ ws.length ∧ ∀ k (h : k < ws.length), k < j → (ws[k].stem.length : Int) + ws[k].loop.length ≤ a) (fun j => ws.length - j) 0 (renL [] 0) (by kernel_rfl) ⟨Nat.zero_le _, fun k _ hk => by omega⟩ ⟨rfl, rfl, rfl, rfl, trivial⟩ (EmbL.litsN [] rfl rfl rfl rfl .nil .nil) ?_
  rintro j ⟨g1, g2⟩
  rcases Nat.lt_or_ge j ws.length with hj | hj
  · obtain ⟨b1, b2⟩ := hf _ (List.getElem_mem hj)
    have hl := wcells_length ws
    conv => whnf
    repeat' first | ((refine Gets.ixRE (es := 2) rfl rfl hj ?_); conv => whnf) | ((refine Gets.ldR (v := .agg [rI ws[j].stem, rI ws[j].loop]) rfl (by show (if j * 2 + 2 ≤ (wcells ws).length then some (AVal.agg (((wcells ws).drop (j * 2)).take 2)) else none) = _; rw [if_pos (by omega), wcells_get ws j hj]) ?_); conv => whnf) | ((with_reducible refine Gets.addI ?_ ?_ ?_); (· omega); (· omega); conv => whnf) | (refine Gets.of _ rfl ?_; conv => whnf) | (refine Fork.dec (fun _ => ?_) (fun _ => ?_) <;> first | (exfalso; omega) | (conv => whnf))
    · exact ⟨[], _, rfl, .same rfl, rfl, .f fun h => by have := h _ (List.getElem_mem hj); omega⟩
    · exact ⟨j + 1, renL [] 1, ⟨hj, fun k h hk => by
        rcases Nat.lt_or_ge k j with h1 | h1
        · exact g2 k h h1
        · obtain rfl : k = j := by omega
          omega⟩, by show ws.length - (j + 1) < _; omega, ⟨rfl, rfl, rfl, rfl, trivial⟩, EmbL.litsN [] rfl rfl rfl rfl .nil .nil⟩
  · conv => whnf
    repeat' (refine Fork.dec (fun _ => ?_) (fun _ => ?_) <;> first | (exfalso; omega) | (conv => whnf))
    exact ⟨[], _, rfl, .same rfl, rfl, .t fun w hw => by
      obtain ⟨k, hk, rfl⟩ := List.getElem_of_mem hw
      exact g2 k hk (by omega)⟩
open Classical in
noncomputable def splitW (w : Wd) (n : Int) : Wd × Wd × Int := if w.Ok 6 then (if n < 0 ∨ 6 < n then (errW, errW, 6) else (nf (mapW (modF n.toNat) w), nf (mapW (divF n.toNat) w), 0)) else (errW, errW, 1)
theorem errT2 (e : Int) {H : AHeap} : ToldR (fun v => v = .tuple [errW.rv, errW.rv, .int .i64 e]) (.tuple [.agg [.nilSlice, .nilSlice], .agg [.nilSlice, .nilSlice], .int .i64 e]) H :=
  ⟨[], _, rfl, .tuple (.cons (.agg (.cons (.nil (cs := [])) (.cons (.nil (cs := [])) (.same rfl)))) (.cons (.agg (.cons (.nil (cs := [])) (.cons (.nil (cs := [])) (.same rfl)))) (.cons (.same rfl) (.same rfl)))), rfl, rfl⟩
end Go.Proofs.Ytaccmanpanpbiaa
