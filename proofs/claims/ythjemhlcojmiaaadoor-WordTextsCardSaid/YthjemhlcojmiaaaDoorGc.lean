/- The program's normal form. -/
import Derived.Test.YthjemhlcojmiaaaDoorGb
-- VkG VkH
set_option linter.unusedVariables false
set_option linter.unusedSimpArgs false
set_option maxRecDepth 100000
set_option maxHeartbeats 1000000
namespace Go.Proofs.YthjemhlcojmiaaaDoor
open Go Go.Vh Go.Vk Go.Proofs
/-- A word whose stem is the first part of a row. -/
structure Pw where
  full : List Int
  n : Nat
  loop : List Int
noncomputable def nfP (S l : List Int) : Pw := ⟨S, S.length - cut S (l.take (per l)), rot (l.take (per l)) (cut S (l.take (per l)) % per l)⟩
def Pw.av (x : Pw) (i j : Nat) : AVal := .agg [.view i 0 x.n, .view j 0 x.loop.length]
def Pw.wd (x : Pw) : Wd := ⟨x.full.take x.n, x.loop⟩
theorem nfP_wd (S l : List Int) : (nfP S l).wd = nf ⟨S, l⟩ := rfl
def wh (s l : List Int) : AHeap := (emptyH.alloc (.ro 1 (ints s))).alloc (.ro 1 (ints l))
theorem rot_parts (T : List Int) (r : Nat) : (T.drop (T.length - r)).take (T.length - (T.length - r)) ++ (T.drop 0).take (T.length - r) = rot T r := by
  unfold rot
  rw [List.take_of_length_le (by rw [List.length_drop]; exact Nat.le_refl _), List.drop_zero]
theorem normal36 (s l : List Int) (k : Nat) (hk : k ≤ s.length) (hs : s.length ≤ 4294967296) (h0 : 0 < l.length) (hl : l.length ≤ 4294967296) : CallW Tryd.prog 36 [.agg [.view 0 k (s.length - k), .view 1 0 l.length]] (wh s l)
    fun v H' => v = (nfP (s.drop k) l).av 2 3 ∧ H' = ((wh s l).alloc (vB (s.drop k))).alloc (vB (nfP (s.drop k) l).loop) := by
  have hper := per_is h0
  refine CallW.tells ?_
  refine CallW.symRK (cuts := []) Tryd.func36 rfl (by kernel_rfl) ?_
  conv => whnf
  repeat' (refine Gets.of _ rfl ?_; conv => whnf)
  refine CallS.of (by kernel_rfl) (clone47a s k (s.length - k) (by omega) (by omega) (.roB rfl rfl)) rfl ?_
  rintro _ _ ⟨rfl, rfl⟩
  rw [show (s.drop k).take (s.length - k) = s.drop k from List.take_of_length_le (by rw [List.length_drop]; exact Nat.le_refl _)]
  conv => whnf
  skip
  refine CodeS.drawT [2] (.take 0 (.take 1 (.take 2 (.take 3 (.one 4 true (.take 5 (.one 6 true (.take 7 .done)))))))) mixed (by kernel_rfl) (.cons ⟨rfl, trivial⟩ .nil) ?_
  conv => whnf
  repeat' (refine Gets.of _ rfl ?_; conv => whnf)
  refine CallPS.of (by kernel_rfl) (period57a l h0 hl (.roB rfl rfl)) rfl ?_
  rintro _ _ ⟨rfl, rfl⟩
  conv => whnf
  repeat' first | ((refine Gets.sliceHiV (k := per l) rfl rfl rfl rfl hper.2.1 ?_); conv => whnf) | (refine Chk.mk (by repeat first | exact .nil | refine .cons rfl ?_) ?_; conv => whnf)
  refine CallPS.of (by kernel_rfl) (clone47a l 0 (per l) (by have := hper.2.1; omega) (by have := hper.2.1; omega) (.roB rfl rfl)) rfl ?_
  rintro _ _ ⟨rfl, rfl⟩
  have hT : (l.take (per l)).length = per l := per_take h0
  have hT0 : 0 < (l.take (per l)).length := by rw [hT]; exact hper.1
  rw [show (l.drop 0).take (per l) = l.take (per l) from rfl, vB_ne hT0]
  have hpl : per l ≤ l.length := hper.2.1
  unfold nfP
  obtain ⟨T, hTe⟩ : ∃ T, T = l.take (per l) := ⟨_, rfl⟩
  rw [← hTe] at hT hT0 ⊢
  rw [← hT] at hpl ⊢
  clear hper
  obtain ⟨S, hSe⟩ : ∃ S, S = s.drop k := ⟨_, rfl⟩
  have hSl : S.length = s.length - k := by rw [hSe, List.length_drop]
  rw [← hSe, ← hSl]
  have hS32 : S.length ≤ 4294967296 := by omega
  have hT32 : T.length ≤ 4294967296 := by omega
  conv => whnf
  repeat' (refine Chk.mk (by repeat first | exact .nil | refine .cons rfl ?_) ?_; conv => whnf)
  refine CodeS.loopGK (cuts := []) (σ := Nat) (fun t => [(2, .ptr 2 0), (3, .view 3 0 (S.length - t)), (4, .view 4 0 T.length), (5, .int .i64 ((t % T.length : Nat) : Int))]) (fun _ => (((wh s l).alloc (.cells 1 [.nilSlice, .nilSlice])).alloc (vB S)).alloc (.cells 1 (ints T))) (fun t => t ≤ S.length ∧ ∀ u, u < t → Mt S T u) (fun t => S.length - t) 0 (renL [0, 1, 3, 4, 5] 6) (by kernel_rfl) ⟨Nat.zero_le _, fun u hu => by omega⟩ ⟨rfl, rfl, rfl, by rw [Nat.zero_mod]; rfl, trivial⟩ (EmbL.litsN [0, 1, 3, 4, 5] rfl rfl rfl rfl (.cons ⟨rfl, .inl ⟨rfl, fun h => h⟩⟩ (.cons ⟨rfl, .inl ⟨rfl, fun h => h⟩⟩ .nil)) (.cons ⟨rfl, .roI⟩ (.cons ⟨rfl, .roI⟩ (.cons ⟨rfl, .inl rfl⟩ (.cons ⟨rfl, .vS rfl⟩ (.cons ⟨rfl, .cellsI⟩ .nil)))))) ?_
  rintro t ⟨g1, g2⟩
  have hmt := Nat.mod_lt t hT0
  rcases Nat.lt_or_ge t S.length with ht | ht
  · rw [vB_ne (l := S) (by omega)]
    conv => whnf
    skip
    refine CodeS.drawT [3, 4] (.take 0 (.take 1 (.take 2 (.take 3 (.take 4 (.take 5 (.take 6 (.take 7 (.take 8 (.take 9 (.take 10 (.take 11 (.take 12 (.take 13 (.take 14 (.take 15 (.take 16 (.take 17 (.take 18 (.take 19 (.take 20 (.take 21 (.take 22 (.take 23 .done)))))))))))))))))))))))) mixed (by kernel_rfl) (.cons ⟨rfl, live_of_ints rfl (by omega)⟩ (.cons ⟨rfl, live_of_ints rfl (by omega)⟩ .nil)) ?_
    conv => whnf
    repeat' first | ((with_reducible refine Gets.remN ?_ ?_ ?_); (· omega); (· omega); conv => whnf) | ((with_reducible refine Gets.subI ?_ ?_ ?_); (· omega); (· omega); conv => whnf) | ((with_reducible refine Gets.mulI ?_ ?_ ?_); (· omega); (· omega); conv => whnf) | (refine Gets.of _ rfl ?_; conv => whnf) | (refine Gets.ixIv rfl rfl (by omega) (by omega) ?_; conv => whnf) | (refine Gets.ldI rfl (by first | rfl | assumption) (by first | omega | exact Nat.le_of_ble_eq_true rfl) ?_; conv => whnf) | (refine Fork.dec (fun _ => ?_) (fun _ => ?_) <;> first | (exfalso; omega) | (conv => whnf))
    have e : (2 * (T.length : Int) - 1 - ((t % T.length : Nat) : Int)) % (T.length : Int) = ((T.length - 1 - t % T.length : Nat) : Int) := by
      rw [show 2 * (T.length : Int) - 1 - ((t % T.length : Nat) : Int) = ((T.length - 1 - t % T.length : Nat) : Int) + (T.length : Int) by omega, Int.add_emod_right]
      exact Int.emod_eq_of_lt (by omega) (by omega)
    rw [e]
    have e1 : (((S.length - t : Nat) : Int) - 1) = ((S.length - (t + 1) : Nat) : Int) := by omega
    have e2 : (((t % T.length : Nat) : Int) + 1) % (T.length : Int) = (((t + 1) % T.length : Nat) : Int) := by
      rw [show (t + 1) % T.length = (t % T.length + 1) % T.length from (Nat.mod_add_mod _ _ _).symm]; rfl
    rw [e1]
    repeat' first | ((with_reducible refine Gets.subI ?_ ?_ ?_); (· omega); (· omega); conv => whnf) | (refine Gets.of _ rfl ?_; conv => whnf) | (refine Gets.ix1v rfl rfl (by omega) ?_; conv => whnf) | (refine Gets.ldI rfl (by first | rfl | assumption) (by first | omega | exact Nat.le_of_ble_eq_true rfl) ?_; conv => whnf) | (refine Fork.dec (fun _ => ?_) (fun _ => ?_) <;> first | (exfalso; omega) | (conv => whnf))
    · rename_i he
      rw [e1]
      repeat' first | ((refine Gets.sliceHiW (k := S.length - (t + 1)) rfl rfl rfl ⟨_, .inr rfl⟩ (by omega) ?_); conv => whnf) | ((with_reducible refine Gets.remN ?_ ?_ ?_); (· omega); (· omega); conv => whnf) | ((with_reducible refine Gets.addI ?_ ?_ ?_); (· omega); (· omega); conv => whnf) | (refine Gets.of _ rfl ?_; conv => whnf)
      rw [e2]
      conv => whnf
      skip
      exact ⟨t + 1, renL [0, 1, 2, 3, 4] 5, ⟨by omega, lt_succ_all g2 (by
        unfold Mt
        rw [show S.length - 1 - t = (((S.length - (t + 1) : Nat) : Int)).toNat by omega]; exact he)⟩, by omega, ⟨rfl, rfl, rfl, rfl, trivial⟩, EmbL.litsN [0, 1, 2, 3, 4] rfl rfl rfl rfl (.cons ⟨rfl, .inl ⟨rfl, fun h => h⟩⟩ (.cons ⟨rfl, .inl ⟨rfl, fun h => h⟩⟩ .nil)) (.cons ⟨rfl, .roI⟩ (.cons ⟨rfl, .roI⟩ (.cons ⟨rfl, .inl rfl⟩ (.cons ⟨rfl, .cellsI⟩ (.cons ⟨rfl, .cellsI⟩ .nil)))))⟩
    · rename_i he
      have hc : IsCut S T t := ⟨g1, g2, .inr (by
        unfold Mt
        rw [show S.length - 1 - t = (((S.length - (t + 1) : Nat) : Int)).toNat by omega]; exact he)⟩
      conv => whnf
      skip
      have hcut := cut_eq hc
      have hpT : per l = T.length := hT.symm
      have hbk : ((T.length : Int) - ((t % T.length : Nat) : Int)) = ((T.length - t % T.length : Nat) : Int) := by omega
      rw [hbk]
      refine CodeS.drawT [] (.take 0 (.take 1 (.take 2 (.take 3 (.take 4 (.take 5 (.take 6 (.one 7 true (.one 8 true (.take 9 (.one 10 false .done))))))))))) mixed (by kernel_rfl) .nil ?_
      conv => whnf
      repeat' first | ((refine Gets.sliceLoW (k := T.length - t % T.length) rfl rfl rfl ⟨_, .inr rfl⟩ (by omega) ?_); conv => whnf) | ((refine Gets.sliceHiW (k := T.length - t % T.length) rfl rfl rfl ⟨_, .inr rfl⟩ (by omega) ?_); conv => whnf) | (refine Chk.mk (by repeat first | exact .nil | refine .cons rfl ?_) ?_; conv => whnf)
      refine CallPS.of (by kernel_rfl) ((concatV T T (T.length - t % T.length) (T.length - (T.length - t % T.length)) 0 (T.length - t % T.length) (by omega) (by omega) (by omega) (by omega)).frameQ [4, 4, 5] rfl (.cons ⟨rfl, .roCells⟩ (.cons ⟨rfl, .roCells⟩ (.cons ⟨rfl, .roCs rfl⟩ .nil))) (by rintro _ _ ⟨rfl, rfl⟩; repeat first | exact .nil | refine .cons (by first | exact .inr rfl | exact .inl rfl | exact .inr (fresh_oN _) | exact .inr (fresh_oP _) | exact .inr (fresh_oI _)) ?_)) rfl ?_
      rintro _ _ ⟨_, _, ⟨rfl, rfl⟩, rfl, rfl⟩
      rw [rot_parts T (t % T.length), show T.length - (T.length - t % T.length) + (T.length - t % T.length) = T.length by omega, hcut]
      conv => whnf
      repeat' first | (refine Gets.of _ rfl ?_; conv => whnf) | (refine Chk.mk (by repeat first | exact .nil | refine .cons rfl ?_) ?_; conv => whnf)
      exact ⟨renL [0, 1, 3, 6] 7, .agg [.view 2 0 (S.length - t), .slice 3 0 T.length], ((wh s l).alloc (.cells 1 (ints S))).alloc (vB (rot T (t % T.length))), EmbL.litsN [0, 1, 3, 6] rfl rfl rfl rfl (.cons ⟨rfl, .inl ⟨rfl, fun h => h⟩⟩ (.cons ⟨rfl, .inl ⟨rfl, fun h => h⟩⟩ .nil)) (.cons ⟨rfl, .roI⟩ (.cons ⟨rfl, .roI⟩ (.cons ⟨rfl, .cellsI⟩ (.cons ⟨rfl, .vCr rfl⟩ .nil)))), rfl, _, ⟨rfl, rfl⟩, Tells.agg (.cons (Tells.refl _ _) (.cons (by rw [rot_length]; exact Tells.sliceView) .nil))⟩
  · have hc : IsCut S T t := ⟨g1, g2, .inl (by omega)⟩
    conv => whnf
    refine CodeS.drawT [] (.take 0 (.take 1 (.take 2 (.take 3 (.take 4 (.take 5 (.take 6 (.take 7 (.take 8 (.take 9 (.take 10 (.take 11 (.take 12 (.take 13 (.take 14 (.take 15 (.take 16 (.take 17 (.take 18 (.take 19 (.take 20 (.take 21 (.take 22 (.take 23 .done)))))))))))))))))))))))) mixed (by kernel_rfl) .nil ?_
    conv => whnf
    repeat' first | ((with_reducible refine Gets.subI ?_ ?_ ?_); (· omega); (· omega); conv => whnf) | (refine Gets.of _ rfl ?_; conv => whnf) | (refine Fork.dec (fun _ => ?_) (fun _ => ?_) <;> first | (exfalso; omega) | (conv => whnf))
    conv => whnf
    skip
    have hcut := cut_eq hc
    have hpT : per l = T.length := hT.symm
    have hbk : ((T.length : Int) - ((t % T.length : Nat) : Int)) = ((T.length - t % T.length : Nat) : Int) := by omega
    rw [hbk]
    refine CodeS.drawT [] (.take 0 (.take 1 (.take 2 (.take 3 (.take 4 (.take 5 (.take 6 (.one 7 true (.one 8 true (.take 9 (.one 10 false .done))))))))))) mixed (by kernel_rfl) .nil ?_
    conv => whnf
    repeat' first | ((refine Gets.sliceLoW (k := T.length - t % T.length) rfl rfl rfl ⟨_, .inr rfl⟩ (by omega) ?_); conv => whnf) | ((refine Gets.sliceHiW (k := T.length - t % T.length) rfl rfl rfl ⟨_, .inr rfl⟩ (by omega) ?_); conv => whnf) | (refine Chk.mk (by repeat first | exact .nil | refine .cons rfl ?_) ?_; conv => whnf)
    refine CallPS.of (by kernel_rfl) ((concatV T T (T.length - t % T.length) (T.length - (T.length - t % T.length)) 0 (T.length - t % T.length) (by omega) (by omega) (by omega) (by omega)).frameQ [4, 4, 5] rfl (.cons ⟨rfl, .roCells⟩ (.cons ⟨rfl, .roCells⟩ (.cons ⟨rfl, .roCs rfl⟩ .nil))) (by rintro _ _ ⟨rfl, rfl⟩; repeat first | exact .nil | refine .cons (by first | exact .inr rfl | exact .inl rfl | exact .inr (fresh_oN _) | exact .inr (fresh_oP _) | exact .inr (fresh_oI _)) ?_)) rfl ?_
    rintro _ _ ⟨_, _, ⟨rfl, rfl⟩, rfl, rfl⟩
    rw [rot_parts T (t % T.length), show T.length - (T.length - t % T.length) + (T.length - t % T.length) = T.length by omega, hcut]
    conv => whnf
    repeat' first | (refine Gets.of _ rfl ?_; conv => whnf) | (refine Chk.mk (by repeat first | exact .nil | refine .cons rfl ?_) ?_; conv => whnf)
    exact ⟨renL [0, 1, 3, 6] 7, .agg [.view 2 0 (S.length - t), .slice 3 0 T.length], ((wh s l).alloc (vB S)).alloc (vB (rot T (t % T.length))), EmbL.litsN [0, 1, 3, 6] rfl rfl rfl rfl (.cons ⟨rfl, .inl ⟨rfl, fun h => h⟩⟩ (.cons ⟨rfl, .inl ⟨rfl, fun h => h⟩⟩ .nil)) (.cons ⟨rfl, .roI⟩ (.cons ⟨rfl, .roI⟩ (.cons ⟨rfl, .vS rfl⟩ (.cons ⟨rfl, .vCr rfl⟩ .nil)))), rfl, _, ⟨rfl, rfl⟩, Tells.agg (.cons (Tells.refl _ _) (.cons (by rw [rot_length]; exact Tells.sliceView) .nil))⟩
end Go.Proofs.YthjemhlcojmiaaaDoor

/- The reference's normal form. -/
-- VkG VkH
set_option linter.unusedVariables false
set_option linter.unusedSimpArgs false
set_option maxRecDepth 100000
set_option maxHeartbeats 1000000
namespace Go.Proofs.YthjemhlcojmiaaaDoor
open Go Go.Vh Go.Vk Go.Proofs
theorem norm44 (s l : List Int) (k : Nat) (hk : k ≤ s.length) (hs : s.length ≤ 4294967296) (h0 : 0 < l.length) (hl : l.length ≤ 4294967296) : CallW Tryd.prog 44 [.agg [.view 0 k (s.length - k), .view 1 0 l.length]] (wh s l)
    fun v H' => v = (nfP (s.drop k) l).av 2 3 ∧ H' = ((wh s l).alloc (vB (s.drop k))).alloc (vB (nfP (s.drop k) l).loop) := by
  obtain ⟨S, hSe⟩ : ∃ S, S = s.drop k := ⟨_, rfl⟩
  have hSl : S.length = s.length - k := by rw [hSe, List.length_drop]
  rw [← hSe]
  have hS32 : S.length ≤ 4294967296 := by omega
  have hSx : (s.drop k).take (s.length - k) = S := by rw [← hSl, ← hSe]; exact List.take_of_length_le (Nat.le_refl _)
  refine CallW.tells ?_
  refine CallW.symRK (cuts := []) Tryd.func44 rfl (by kernel_rfl) ?_
  conv => whnf
  repeat' (refine Gets.of _ rfl ?_; conv => whnf)
  refine CodeS.loopGK (cuts := []) (σ := Nat) (fun p => [(1, .ptr 2 0), (2, .ptr 3 0), (3, .view 1 0 l.length), (4, .int .i64 (p : Int))]) (fun _ => ((wh s l).alloc (.cells 1 [.view 0 k (s.length - k), .view 1 0 l.length])).alloc (.cells 1 [.nilSlice, .nilSlice])) (fun p => 0 < p ∧ p ≤ l.length ∧ ∀ q, 0 < q → q < p → ¬ Pd l q) (fun p => l.length - p) 1 (renL [0, 1, 2, 3] 4) (by kernel_rfl) ⟨by decide, h0, fun q h1 h2 => by omega⟩ ⟨rfl, rfl, rfl, rfl, trivial⟩ (EmbL.litsN [0, 1, 2, 3] rfl rfl rfl rfl (.cons ⟨rfl, .inl ⟨rfl, fun h => h⟩⟩ (.cons ⟨rfl, .inl ⟨rfl, fun h => h⟩⟩ .nil)) (.cons ⟨rfl, .roI⟩ (.cons ⟨rfl, .roI⟩ (.cons ⟨rfl, .inl rfl⟩ (.cons ⟨rfl, .inl rfl⟩ .nil))))) ?_
  rintro p ⟨g1, g2, g3⟩
  have e : (l.length : Int) % (p : Int) = ((l.length % p : Nat) : Int) := rfl
  conv => whnf
  repeat' first | ((with_reducible refine Gets.remN ?_ ?_ ?_); (· omega); (· omega); conv => whnf) | ((with_reducible refine Gets.addI ?_ ?_ ?_); (· omega); (· omega); conv => whnf) | (refine Gets.of _ rfl ?_; conv => whnf) | (refine Fork.dec (fun _ => ?_) (fun _ => ?_) <;> first | (exfalso; omega) | (conv => whnf)) | (refine Fork.neI (fun _ => ?_) (fun _ => ?_) <;> first | (exfalso; omega) | (conv => whnf))
  · rename_i hm
    exact ⟨p + 1, renL [0, 1, 2, 3] 4, ⟨by omega, by omega, fun q h1 h2 => by
      rcases Nat.lt_or_ge q p with a | a
      · exact g3 q h1 a
      · rw [show q = p by omega]; intro h; exact hm (by rw [e, h.1]; rfl)⟩, by omega, ⟨rfl, rfl, rfl, rfl, trivial⟩, EmbL.litsN [0, 1, 2, 3] rfl rfl rfl rfl (.cons ⟨rfl, .inl ⟨rfl, fun h => h⟩⟩ (.cons ⟨rfl, .inl ⟨rfl, fun h => h⟩⟩ .nil)) (.cons ⟨rfl, .roI⟩ (.cons ⟨rfl, .roI⟩ (.cons ⟨rfl, .inl rfl⟩ (.cons ⟨rfl, .inl rfl⟩ .nil))))⟩
  · rename_i hm
    have hm' : l.length % p = 0 := by rw [e] at hm; omega
    refine CodeS.loopGK (cuts := []) (σ := Nat × Bool) (fun x => [(1, .ptr 2 0), (2, .ptr 3 0), (3, .view 1 0 l.length), (4, .int .i64 (p : Int)), (5, .bool x.2), (23, .int .i64 l.length), (24, .int .i64 (x.1 : Int))]) (fun _ => ((wh s l).alloc (.cells 1 [.view 0 k (s.length - k), .view 1 0 l.length])).alloc (.cells 1 [.nilSlice, .nilSlice])) (fun x => x.1 ≤ l.length ∧ (x.2 = true ↔ ∀ i, i < x.1 → l.getD i 0 = l.getD (i % p) 0)) (fun x => l.length - x.1) (0, true) (renL [0, 1, 2, 3] 4) (by kernel_rfl) ⟨Nat.zero_le _, fun _ i hi => by omega, fun _ => rfl⟩ ⟨rfl, rfl, rfl, rfl, rfl, rfl, rfl, trivial⟩ (EmbL.litsN [0, 1, 2, 3] rfl rfl rfl rfl (.cons ⟨rfl, .inl ⟨rfl, fun h => h⟩⟩ (.cons ⟨rfl, .inl ⟨rfl, fun h => h⟩⟩ .nil)) (.cons ⟨rfl, .roI⟩ (.cons ⟨rfl, .roI⟩ (.cons ⟨rfl, .inl rfl⟩ (.cons ⟨rfl, .inl rfl⟩ .nil))))) ?_
    rintro ⟨j, b⟩ ⟨k1, k2⟩
    dsimp only at k1 k2
    have hmj := Nat.mod_lt j g1
    rcases Nat.lt_or_ge j l.length with hj | hj
    · have e3 : (j : Int) % (p : Int) = ((j % p : Nat) : Int) := rfl
      cases b
      · conv => whnf
        repeat' (refine Fork.dec (fun _ => ?_) (fun _ => ?_) <;> first | (exfalso; omega) | (conv => whnf))
        refine CodeS.drawT [] (.take 0 (.take 1 (.take 2 (.take 3 (.take 4 (.take 5 (.take 6 (.take 7 (.take 8 (.take 9 (.take 10 (.take 11 (.take 12 (.take 13 (.take 14 .done))))))))))))))) mixed (by kernel_rfl) .nil ?_
        conv => whnf
        repeat' ((with_reducible refine Gets.addI ?_ ?_ ?_); (· omega); (· omega); conv => whnf)
        exact ⟨(j + 1, false), renL [0, 1, 2, 3] 4, ⟨by omega, fun h => (by cases h), fun h => k2.2 fun i hi => h i (by omega)⟩, by omega, ⟨rfl, rfl, rfl, rfl, rfl, rfl, rfl, trivial⟩, EmbL.litsN [0, 1, 2, 3] rfl rfl rfl rfl (.cons ⟨rfl, .inl ⟨rfl, fun h => h⟩⟩ (.cons ⟨rfl, .inl ⟨rfl, fun h => h⟩⟩ .nil)) (.cons ⟨rfl, .roI⟩ (.cons ⟨rfl, .roI⟩ (.cons ⟨rfl, .inl rfl⟩ (.cons ⟨rfl, .inl rfl⟩ .nil))))⟩
      · conv => whnf
        repeat' (refine Fork.dec (fun _ => ?_) (fun _ => ?_) <;> first | (exfalso; omega) | (conv => whnf))
        refine CodeS.drawT [1] (.take 0 (.take 1 (.take 2 (.take 3 (.take 4 (.take 5 (.take 6 (.take 7 (.take 8 (.take 9 (.take 10 (.take 11 (.take 12 (.take 13 (.take 14 .done))))))))))))))) mixed (by kernel_rfl) (.cons ⟨rfl, live_of_ints rfl h0⟩ .nil) ?_
        conv => whnf
        repeat' first | ((with_reducible refine Gets.remN ?_ ?_ ?_); (· omega); (· omega); conv => whnf) | (refine Gets.ix1v rfl rfl (by omega) ?_; conv => whnf) | (refine Gets.ldI rfl (by first | rfl | assumption) (by first | omega | exact Nat.le_of_ble_eq_true rfl) ?_; conv => whnf)
        rw [e3]
        repeat' first | ((with_reducible refine Gets.addI ?_ ?_ ?_); (· omega); (· omega); conv => whnf) | (refine Gets.ix1v rfl rfl (by omega) ?_; conv => whnf) | (refine Gets.ldI rfl (by first | rfl | assumption) (by first | omega | exact Nat.le_of_ble_eq_true rfl) ?_; conv => whnf) | (refine Fork.dec (fun _ => ?_) (fun _ => ?_) <;> first | (exfalso; omega) | (conv => whnf))
        · rename_i he
          exact ⟨(j + 1, true), renL [0, 1, 2, 3] 4, ⟨by omega, fun _ => lt_succ_all (k2.1 rfl) he, fun _ => rfl⟩, by omega, ⟨rfl, rfl, rfl, rfl, rfl, rfl, rfl, trivial⟩, EmbL.litsN [0, 1, 2, 3] rfl rfl rfl rfl (.cons ⟨rfl, .inl ⟨rfl, fun h => h⟩⟩ (.cons ⟨rfl, .inl ⟨rfl, fun h => h⟩⟩ .nil)) (.cons ⟨rfl, .roI⟩ (.cons ⟨rfl, .roI⟩ (.cons ⟨rfl, .inl rfl⟩ (.cons ⟨rfl, .inl rfl⟩ .nil))))⟩
        · rename_i he
          exact ⟨(j + 1, false), renL [0, 1, 2, 3] 4, ⟨by omega, fun h => (by cases h), fun h => absurd (h j (by omega)) he⟩, by omega, ⟨rfl, rfl, rfl, rfl, rfl, rfl, rfl, trivial⟩, EmbL.litsN [0, 1, 2, 3] rfl rfl rfl rfl (.cons ⟨rfl, .inl ⟨rfl, fun h => h⟩⟩ (.cons ⟨rfl, .inl ⟨rfl, fun h => h⟩⟩ .nil)) (.cons ⟨rfl, .roI⟩ (.cons ⟨rfl, .roI⟩ (.cons ⟨rfl, .inl rfl⟩ (.cons ⟨rfl, .inl rfl⟩ .nil))))⟩
    · cases b
      · conv => whnf
        repeat' first | ((with_reducible refine Gets.addI ?_ ?_ ?_); (· omega); (· omega); conv => whnf) | (refine Fork.dec (fun _ => ?_) (fun _ => ?_) <;> first | (exfalso; omega) | (conv => whnf))
        exact ⟨p + 1, renL [0, 1, 2, 3] 4, ⟨by omega, by omega, fun q h1 h2 => by
          rcases Nat.lt_or_ge q p with a | a
          · exact g3 q h1 a
          · rw [show q = p by omega]; intro h; exact absurd (k2.2 fun i hi => h.mod g1 i (by omega)) (by decide)⟩, by omega, ⟨rfl, rfl, rfl, rfl, trivial⟩, EmbL.litsN [0, 1, 2, 3] rfl rfl rfl rfl (.cons ⟨rfl, .inl ⟨rfl, fun h => h⟩⟩ (.cons ⟨rfl, .inl ⟨rfl, fun h => h⟩⟩ .nil)) (.cons ⟨rfl, .roI⟩ (.cons ⟨rfl, .roI⟩ (.cons ⟨rfl, .inl rfl⟩ (.cons ⟨rfl, .inl rfl⟩ .nil))))⟩
      · conv => whnf
        repeat' first | ((refine Gets.sliceHiV (k := p) rfl rfl rfl rfl g2 ?_); conv => whnf) | (refine Gets.of _ rfl ?_; conv => whnf) | (refine Fork.dec (fun _ => ?_) (fun _ => ?_) <;> first | (exfalso; omega) | (conv => whnf))
        have hq : per l = p := per_eq ⟨g1, g2, pd_of_mod g1 hm' fun i hi => k2.1 rfl i (by omega), g3⟩
        unfold nfP
        rw [hq]
        obtain ⟨T, hTe⟩ : ∃ T, T = l.take p := ⟨_, rfl⟩
        have hT : T.length = p := by rw [hTe, List.length_take]; omega
        have hT0 : 0 < T.length := by omega
        have hT32 : T.length ≤ 4294967296 := by omega
        have hTx : (l.drop 0).take p = T := hTe.symm
        rw [← hTe]
        refine Gets.appSrc (ti := tiI) (l := []) (xs := (s.drop k).take (s.length - k)) (m := 0) (n := s.length - k) rfl rfl rfl rfl rfl (by decide) (Nat.le_refl _) (src_part (by omega) (.inl rfl)).2 rfl (by omega) ?_
        rw [hSx, show 0 + (s.length - k) = S.length by omega, show [].take 0 ++ S = S from rfl]
        conv => whnf
        skip
        refine Gets.appSrc (ti := tiI) (l := []) (xs := (l.drop 0).take p) (m := 0) (n := p) rfl rfl rfl rfl rfl (by decide) (Nat.le_refl _) (src_part (by omega) (.inl rfl)).2 rfl (by omega) ?_
        rw [hTx, show 0 + p = T.length by omega, show [].take 0 ++ T = T from rfl, ← hT]
        conv => whnf
        skip
        refine CodeS.loopGK (cuts := []) (σ := Nat) (fun t => [(2, .ptr 2 0), (3, .slice 4 0 T.length), (7, .slice 3 0 (S.length - t))]) (fun t => (((wh s l).alloc (.cells 1 [.nilSlice, .nilSlice])).alloc (.cells 1 (ints S))).alloc (.cells 1 (ints (rot T (t % T.length))))) (fun t => t ≤ S.length ∧ ∀ u, u < t → Mt S T u) (fun t => S.length - t) 0 (renL [0, 1, 3, 5, 7] 8) (by kernel_rfl) ⟨Nat.zero_le _, fun u hu => by omega⟩ ⟨rfl, rfl, rfl, trivial⟩ (EmbL.litsN [0, 1, 3, 5, 7] rfl rfl rfl rfl (.cons ⟨rfl, .inl ⟨rfl, fun h => h⟩⟩ (.cons ⟨rfl, .inl ⟨rfl, fun h => h⟩⟩ .nil)) (.cons ⟨rfl, .roI⟩ (.cons ⟨rfl, .roI⟩ (.cons ⟨rfl, .inl rfl⟩ (.cons ⟨rfl, .cellsI⟩ (.cons ⟨rfl, .cellsIe (by rw [Nat.zero_mod, rot_zero])⟩ .nil)))))) ?_
        rintro t ⟨k1, k2⟩
        have hmt := Nat.mod_lt t hT0
        have hR := rot_length T (t % T.length)
        have rl := rot_last (l := T) hmt
        have rs := rot_step (l := T) hmt
        rw [Nat.mod_add_mod] at rs
        have e4 : (T.length : Int) - 1 = ((T.length - 1 : Nat) : Int) := by omega
        rcases Nat.lt_or_ge t S.length with ht | ht
        · have e5 : (((S.length - t : Nat) : Int) - 1) = ((S.length - (t + 1) : Nat) : Int) := by omega
          conv => whnf
          skip
          refine CodeS.drawT [3, 4] (.take 0 (.take 1 (.take 2 (.take 3 (.take 4 (.take 5 (.take 6 (.take 7 (.take 8 (.take 9 (.take 10 (.take 11 (.take 12 (.take 13 (.take 14 (.take 15 (.take 16 (.take 17 .done)))))))))))))))))) mixed (by kernel_rfl) (.cons ⟨rfl, live_of_ints rfl (by omega)⟩ (.cons ⟨rfl, live_of_ints rfl (by omega)⟩ .nil)) ?_
          conv => whnf
          repeat' first | ((with_reducible refine Gets.subI ?_ ?_ ?_); (· omega); (· omega); conv => whnf) | (refine Gets.of _ rfl ?_; conv => whnf) | (refine Gets.ixI rfl rfl (by omega) (by omega) ?_; conv => whnf) | (refine Gets.ldI rfl (by first | rfl | assumption) (by first | omega | exact Nat.le_of_ble_eq_true rfl) ?_; conv => whnf) | (refine Fork.dec (fun _ => ?_) (fun _ => ?_) <;> first | (exfalso; omega) | (conv => whnf))
          · rename_i he
            rw [e4]
            repeat' ((refine Gets.sliceHi (k := T.length - 1) rfl rfl rfl rfl (by omega) ?_); conv => whnf)
            refine Gets.appSrc (ti := tiI) (l := [(rot T (t % T.length)).getD (T.length - 1) 0]) (xs := ((rot T (t % T.length)).drop 0).take (T.length - 1)) (m := 1) (n := T.length - 1) rfl rfl rfl rfl rfl (by decide) (Nat.le_refl _) (src_part (by omega) (.inr rfl)).1 rfl (by omega) ?_
            rw [show [(rot T (t % T.length)).getD (T.length - 1) 0].take 1 ++ ((rot T (t % T.length)).drop 0).take (T.length - 1) = rot T ((t + 1) % T.length) from rs, show 1 + (T.length - 1) = T.length by omega]
            conv => whnf
            repeat' first | ((with_reducible refine Gets.subI ?_ ?_ ?_); (· omega); (· omega); conv => whnf) | (refine Gets.of _ rfl ?_; conv => whnf)
            rw [e5]
            repeat' ((refine Gets.sliceHi (k := S.length - (t + 1)) rfl rfl rfl rfl (by omega) ?_); conv => whnf)
            exact ⟨t + 1, renL [0, 1, 2, 3, 6] 7, ⟨by omega, lt_succ_all k2 (by
              unfold Mt
              rw [← rl, show S.length - 1 - t = (((S.length - t : Nat) : Int) - 1).toNat by omega, he, show ((T.length : Int) - 1).toNat = T.length - 1 by omega])⟩, by omega, ⟨rfl, rfl, rfl, trivial⟩, EmbL.litsN [0, 1, 2, 3, 6] rfl rfl rfl rfl (.cons ⟨rfl, .inl ⟨rfl, fun h => h⟩⟩ (.cons ⟨rfl, .inl ⟨rfl, fun h => h⟩⟩ .nil)) (.cons ⟨rfl, .roI⟩ (.cons ⟨rfl, .roI⟩ (.cons ⟨rfl, .inl rfl⟩ (.cons ⟨rfl, .cellsI⟩ (.cons ⟨rfl, .cellsI⟩ .nil)))))⟩
          · rename_i he
            have hc : IsCut S T t := ⟨k1, k2, .inr (by
              unfold Mt
              rw [← rl, show S.length - 1 - t = (((S.length - t : Nat) : Int) - 1).toNat by omega, show T.length - 1 = ((T.length : Int) - 1).toNat by omega]; exact he)⟩
            rw [cut_eq hc]
            exact ⟨renL [0, 1, 3, 4] 5, .agg [.slice 2 0 (S.length - t), .slice 3 0 T.length], ((wh s l).alloc (vB S)).alloc (vB (rot T (t % T.length))), EmbL.litsN [0, 1, 3, 4] rfl rfl rfl rfl (.cons ⟨rfl, .inl ⟨rfl, fun h => h⟩⟩ (.cons ⟨rfl, .inl ⟨rfl, fun h => h⟩⟩ .nil)) (.cons ⟨rfl, .roI⟩ (.cons ⟨rfl, .roI⟩ (.cons ⟨rfl, .vC rfl⟩ (.cons ⟨rfl, .vC rfl⟩ .nil)))), rfl, _, ⟨rfl, rfl⟩, Tells.agg (.cons Tells.sliceView (.cons (by rw [hR]; exact Tells.sliceView) .nil))⟩
        · have hc : IsCut S T t := ⟨k1, k2, .inl (by omega)⟩
          conv => whnf
          skip
          refine CodeS.drawT [] (.take 0 (.take 1 (.take 2 (.take 3 (.take 4 (.take 5 (.take 6 (.take 7 (.take 8 (.take 9 (.take 10 (.take 11 (.take 12 (.take 13 (.take 14 (.take 15 (.take 16 (.take 17 .done)))))))))))))))))) mixed (by kernel_rfl) .nil ?_
          conv => whnf
          repeat' first | (refine Gets.of _ rfl ?_; conv => whnf) | (refine Fork.dec (fun _ => ?_) (fun _ => ?_) <;> first | (exfalso; omega) | (conv => whnf))
          rw [cut_eq hc]
          exact ⟨renL [0, 1, 3, 4] 5, .agg [.slice 2 0 (S.length - t), .slice 3 0 T.length], ((wh s l).alloc (vB S)).alloc (vB (rot T (t % T.length))), EmbL.litsN [0, 1, 3, 4] rfl rfl rfl rfl (.cons ⟨rfl, .inl ⟨rfl, fun h => h⟩⟩ (.cons ⟨rfl, .inl ⟨rfl, fun h => h⟩⟩ .nil)) (.cons ⟨rfl, .roI⟩ (.cons ⟨rfl, .roI⟩ (.cons ⟨rfl, .vC rfl⟩ (.cons ⟨rfl, .vC rfl⟩ .nil)))), rfl, _, ⟨rfl, rfl⟩, Tells.agg (.cons Tells.sliceView (.cons (by rw [hR]; exact Tells.sliceView) .nil))⟩
  · obtain rfl : p = l.length := by omega
    have hq : per l = l.length := per_eq (isPer_self h0 g3)
    unfold nfP
    rw [hq]
    obtain ⟨T, hTe⟩ : ∃ T, T = l.take l.length := ⟨_, rfl⟩
    have hT : T.length = l.length := by rw [hTe, List.length_take]; omega
    have hT0 : 0 < T.length := by omega
    have hT32 : T.length ≤ 4294967296 := by omega
    have hTx : (l.drop 0).take l.length = T := hTe.symm
    rw [← hTe]
    refine Gets.appSrc (ti := tiI) (l := []) (xs := (s.drop k).take (s.length - k)) (m := 0) (n := s.length - k) rfl rfl rfl rfl rfl (by decide) (Nat.le_refl _) (src_part (by omega) (.inl rfl)).2 rfl (by omega) ?_
    rw [hSx, show 0 + (s.length - k) = S.length by omega, show [].take 0 ++ S = S from rfl]
    conv => whnf
    skip
    refine Gets.appSrc (ti := tiI) (l := []) (xs := (l.drop 0).take l.length) (m := 0) (n := l.length) rfl rfl rfl rfl rfl (by decide) (Nat.le_refl _) (src_part (by omega) (.inl rfl)).2 rfl (by omega) ?_
    rw [hTx, show 0 + l.length = T.length by omega, show [].take 0 ++ T = T from rfl, ← hT]
    conv => whnf
    skip
    refine CodeS.loopGK (cuts := []) (σ := Nat) (fun t => [(2, .ptr 2 0), (3, .slice 4 0 T.length), (7, .slice 3 0 (S.length - t))]) (fun t => (((wh s l).alloc (.cells 1 [.nilSlice, .nilSlice])).alloc (.cells 1 (ints S))).alloc (.cells 1 (ints (rot T (t % T.length))))) (fun t => t ≤ S.length ∧ ∀ u, u < t → Mt S T u) (fun t => S.length - t) 0 (renL [0, 1, 3, 5, 7] 8) (by kernel_rfl) ⟨Nat.zero_le _, fun u hu => by omega⟩ ⟨rfl, rfl, rfl, trivial⟩ (EmbL.litsN [0, 1, 3, 5, 7] rfl rfl rfl rfl (.cons ⟨rfl, .inl ⟨rfl, fun h => h⟩⟩ (.cons ⟨rfl, .inl ⟨rfl, fun h => h⟩⟩ .nil)) (.cons ⟨rfl, .roI⟩ (.cons ⟨rfl, .roI⟩ (.cons ⟨rfl, .inl rfl⟩ (.cons ⟨rfl, .cellsI⟩ (.cons ⟨rfl, .cellsIe (by rw [Nat.zero_mod, rot_zero])⟩ .nil)))))) ?_
    rintro t ⟨k1, k2⟩
    have hmt := Nat.mod_lt t hT0
    have hR := rot_length T (t % T.length)
    have rl := rot_last (l := T) hmt
    have rs := rot_step (l := T) hmt
    rw [Nat.mod_add_mod] at rs
    have e4 : (T.length : Int) - 1 = ((T.length - 1 : Nat) : Int) := by omega
    rcases Nat.lt_or_ge t S.length with ht | ht
    · have e5 : (((S.length - t : Nat) : Int) - 1) = ((S.length - (t + 1) : Nat) : Int) := by omega
      conv => whnf
      skip
      refine CodeS.drawT [3, 4] (.take 0 (.take 1 (.take 2 (.take 3 (.take 4 (.take 5 (.take 6 (.take 7 (.take 8 (.take 9 (.take 10 (.take 11 (.take 12 (.take 13 (.take 14 (.take 15 (.take 16 (.take 17 .done)))))))))))))))))) mixed (by kernel_rfl) (.cons ⟨rfl, live_of_ints rfl (by omega)⟩ (.cons ⟨rfl, live_of_ints rfl (by omega)⟩ .nil)) ?_
      conv => whnf
      repeat' first | ((with_reducible refine Gets.subI ?_ ?_ ?_); (· omega); (· omega); conv => whnf) | (refine Gets.of _ rfl ?_; conv => whnf) | (refine Gets.ixI rfl rfl (by omega) (by omega) ?_; conv => whnf) | (refine Gets.ldI rfl (by first | rfl | assumption) (by first | omega | exact Nat.le_of_ble_eq_true rfl) ?_; conv => whnf) | (refine Fork.dec (fun _ => ?_) (fun _ => ?_) <;> first | (exfalso; omega) | (conv => whnf))
      · rename_i he
        rw [e4]
        repeat' ((refine Gets.sliceHi (k := T.length - 1) rfl rfl rfl rfl (by omega) ?_); conv => whnf)
        refine Gets.appSrc (ti := tiI) (l := [(rot T (t % T.length)).getD (T.length - 1) 0]) (xs := ((rot T (t % T.length)).drop 0).take (T.length - 1)) (m := 1) (n := T.length - 1) rfl rfl rfl rfl rfl (by decide) (Nat.le_refl _) (src_part (by omega) (.inr rfl)).1 rfl (by omega) ?_
        rw [show [(rot T (t % T.length)).getD (T.length - 1) 0].take 1 ++ ((rot T (t % T.length)).drop 0).take (T.length - 1) = rot T ((t + 1) % T.length) from rs, show 1 + (T.length - 1) = T.length by omega]
        conv => whnf
        repeat' first | ((with_reducible refine Gets.subI ?_ ?_ ?_); (· omega); (· omega); conv => whnf) | (refine Gets.of _ rfl ?_; conv => whnf)
        rw [e5]
        repeat' ((refine Gets.sliceHi (k := S.length - (t + 1)) rfl rfl rfl rfl (by omega) ?_); conv => whnf)
        exact ⟨t + 1, renL [0, 1, 2, 3, 6] 7, ⟨by omega, lt_succ_all k2 (by
          unfold Mt
          rw [← rl, show S.length - 1 - t = (((S.length - t : Nat) : Int) - 1).toNat by omega, he, show ((T.length : Int) - 1).toNat = T.length - 1 by omega])⟩, by omega, ⟨rfl, rfl, rfl, trivial⟩, EmbL.litsN [0, 1, 2, 3, 6] rfl rfl rfl rfl (.cons ⟨rfl, .inl ⟨rfl, fun h => h⟩⟩ (.cons ⟨rfl, .inl ⟨rfl, fun h => h⟩⟩ .nil)) (.cons ⟨rfl, .roI⟩ (.cons ⟨rfl, .roI⟩ (.cons ⟨rfl, .inl rfl⟩ (.cons ⟨rfl, .cellsI⟩ (.cons ⟨rfl, .cellsI⟩ .nil)))))⟩
      · rename_i he
        have hc : IsCut S T t := ⟨k1, k2, .inr (by
          unfold Mt
          rw [← rl, show S.length - 1 - t = (((S.length - t : Nat) : Int) - 1).toNat by omega, show T.length - 1 = ((T.length : Int) - 1).toNat by omega]; exact he)⟩
        rw [cut_eq hc]
        exact ⟨renL [0, 1, 3, 4] 5, .agg [.slice 2 0 (S.length - t), .slice 3 0 T.length], ((wh s l).alloc (vB S)).alloc (vB (rot T (t % T.length))), EmbL.litsN [0, 1, 3, 4] rfl rfl rfl rfl (.cons ⟨rfl, .inl ⟨rfl, fun h => h⟩⟩ (.cons ⟨rfl, .inl ⟨rfl, fun h => h⟩⟩ .nil)) (.cons ⟨rfl, .roI⟩ (.cons ⟨rfl, .roI⟩ (.cons ⟨rfl, .vC rfl⟩ (.cons ⟨rfl, .vC rfl⟩ .nil)))), rfl, _, ⟨rfl, rfl⟩, Tells.agg (.cons Tells.sliceView (.cons (by rw [hR]; exact Tells.sliceView) .nil))⟩
    · have hc : IsCut S T t := ⟨k1, k2, .inl (by omega)⟩
      conv => whnf
      skip
      refine CodeS.drawT [] (.take 0 (.take 1 (.take 2 (.take 3 (.take 4 (.take 5 (.take 6 (.take 7 (.take 8 (.take 9 (.take 10 (.take 11 (.take 12 (.take 13 (.take 14 (.take 15 (.take 16 (.take 17 .done)))))))))))))))))) mixed (by kernel_rfl) .nil ?_
      conv => whnf
      repeat' first | (refine Gets.of _ rfl ?_; conv => whnf) | (refine Fork.dec (fun _ => ?_) (fun _ => ?_) <;> first | (exfalso; omega) | (conv => whnf))
      rw [cut_eq hc]
      exact ⟨renL [0, 1, 3, 4] 5, .agg [.slice 2 0 (S.length - t), .slice 3 0 T.length], ((wh s l).alloc (vB S)).alloc (vB (rot T (t % T.length))), EmbL.litsN [0, 1, 3, 4] rfl rfl rfl rfl (.cons ⟨rfl, .inl ⟨rfl, fun h => h⟩⟩ (.cons ⟨rfl, .inl ⟨rfl, fun h => h⟩⟩ .nil)) (.cons ⟨rfl, .roI⟩ (.cons ⟨rfl, .roI⟩ (.cons ⟨rfl, .vC rfl⟩ (.cons ⟨rfl, .vC rfl⟩ .nil)))), rfl, _, ⟨rfl, rfl⟩, Tells.agg (.cons Tells.sliceView (.cons (by rw [hR]; exact Tells.sliceView) .nil))⟩
end Go.Proofs.YthjemhlcojmiaaaDoor
