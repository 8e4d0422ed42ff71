/- Mix. -/
import Derived.Test.YthjemhlcojmiaaaDoorGg
-- VkG VkH VmA
set_option linter.unusedVariables false
set_option linter.unusedSimpArgs false
set_option maxRecDepth 100000
set_option maxHeartbeats 1000000
namespace Go.Proofs.YthjemhlcojmiaaaDoor
open Go Go.Vh Go.Vk Go.Proofs
def hM (u v : Wd) : AHeap := ((emptyH.alloc (.cells 1 [rI u.stem, rI u.loop])).alloc (.cells 1 [rI v.stem, rI v.loop])).alloc (.cells 1 [.nilSlice, .nilSlice])
theorem map_range_succ (f : Nat → Int) (k : Nat) : (List.range (k + 1)).map f = (List.range k).map f ++ [f k] := by rw [List.range_succ, List.map_append]; rfl
theorem map_range_take (f : Nat → Int) {k n : Nat} (h : k ≤ n) : ((List.range n).map f).take k = (List.range k).map f := by
  rw [← List.map_take, List.take_range, Nat.min_eq_left h]
theorem mixF_le {u v : Wd} {n : Nat} {m : Int} (hu : u.Ok n) (hv : v.Ok m) (h6 : (n : Int) ≤ 6) (m0 : 0 ≤ m) (m6 : m ≤ 6) (k : Nat) : (0 ≤ u.lt k ∧ u.lt k < 64) ∧ (0 ≤ v.lt k ∧ v.lt k < 64) ∧ 0 ≤ v.lt k * ((2 ^ n : Nat) : Int) ∧ v.lt k * ((2 ^ n : Nat) : Int) ≤ 4096 := by
  have a := inL_lt (lt_inL hu k) (by omega) h6
  have b := inL_lt (lt_inL hv k) m0 m6
  have hp : (2 ^ n : Nat) ≤ 64 := Nat.le_trans (Nat.pow_le_pow_right (by decide) (show n ≤ 6 by omega)) (by decide)
  refine ⟨a, b, Int.mul_nonneg b.1 (Int.natCast_nonneg _), ?_⟩
  generalize 2 ^ n = q at hp
  have := Int.mul_le_mul (a := v.lt k) (b := (q : Int)) (c := 64) (d := 64) (by omega) (by omega) (by omega) (by decide)
  omega
open Classical in
theorem mixR (u v : Wd) (n m : Int) (hu : u.Fits) (hv : v.Fits) (hn : -9223372036854775808 ≤ n ∧ n ≤ 9223372036854775807) (hm : -9223372036854775808 ≤ m ∧ m ≤ 9223372036854775807) (H : AHeap) : CallW Tryd.prog 31 [u.rv, v.rv, .int .i64 n, .int .i64 m] H fun r H' => H' = H ∧ r = .tuple [(mixW u v n m).1.rv, .int .i64 (mixW u v n m).2] := by
  refine CallW.pure ?_ rfl H
  by_cases hb : n < 0 ∨ m < 0 ∨ 6 < n ∨ 6 < m ∨ 6 < n + m
  · have e : mixW u v n m = (errW, 6) := if_pos hb
    rw [e]
    refine CallW.symK (cuts := []) Tryd.func31 rfl (by kernel_rfl) ?_
    conv => whnf
    repeat' first | ((with_reducible refine Gets.subI ?_ ?_ ?_); (· omega); (· omega); conv => whnf) | (refine Gets.of _ rfl ?_; conv => whnf) | (refine Fork.dec (fun _ => ?_) (fun _ => ?_) <;> first | (exfalso; omega) | (conv => whnf))
    all_goals exact errT 6
  obtain ⟨n, rfl⟩ : ∃ n' : Nat, n = (n' : Int) := ⟨n.toNat, by omega⟩
  have e0 : mixW u v n m = if u.Ok n ∧ v.Ok m then shortW (mixWd u v n (u.loop.length * v.loop.length)) else (errW, 1) := by
    unfold mixW; rw [if_neg hb]; simp only [Int.toNat_natCast]
  refine CallW.symK (cuts := []) Tryd.func31 rfl (by kernel_rfl) ?_
  conv => whnf
  repeat' first | ((with_reducible refine Gets.subI ?_ ?_ ?_); (· omega); (· omega); conv => whnf) | (refine Gets.of _ rfl ?_; conv => whnf) | (refine Fork.noR rfl ?_; conv => whnf) | (refine Fork.dec (fun _ => ?_) (fun _ => ?_) <;> first | (exfalso; omega) | (conv => whnf))
  refine CallS.of (by kernel_rfl) (validR u hu n _) rfl ?_
  rintro _ _ ⟨rfl, hp | hp⟩
  all_goals conv => whnf
  all_goals
    repeat' (refine Gets.of _ rfl ?_; conv => whnf)
  rotate_left
  · rw [e0, if_neg fun h => hp h.1]
    exact errT 1
  refine CallS.of (by kernel_rfl) (validR v hv m _) rfl ?_
  rintro _ _ ⟨rfl, hq | hq⟩
  all_goals conv => whnf
  all_goals
    repeat' first | ((refine Gets.maxN ?_); conv => whnf) | (refine Gets.of _ rfl ?_; conv => whnf)
  rotate_left
  · rw [e0, if_neg fun h => hq h.2]
    exact errT 1
  have hpm := hp.m
  have hqm := hq.m
  have hpp := hp.p
  have hqp := hq.p
  refine CodeS.loopSK (cuts := []) (σ := Nat) (fun c => [(2, .int .i64 n), (4, .ptr 0 0), (5, .ptr 1 0), (8, .ptr 2 0), (10, .int .i64 ((max u.stem.length v.stem.length : Nat) : Int)), (11, .int .i64 ((c * u.loop.length : Nat) : Int))]) (fun _ => hM u v) (fun c => 1 ≤ c ∧ c ≤ v.loop.length) (fun c => v.loop.length - c) 1 (by kernel_rfl) ⟨Nat.le_refl _, hqp⟩ ⟨rfl, rfl, rfl, rfl, rfl, (by show AVal.int .i64 (u.loop.length : Int) = AVal.int .i64 ((1 * u.loop.length : Nat) : Int); rw [Nat.one_mul]), trivial⟩ rfl ?_
  rintro c ⟨c1, c2⟩
  have hcl : c * u.loop.length ≤ 200 * 200 := Nat.mul_le_mul (by omega) (by omega)
  have hcp : 1 * 1 ≤ c * u.loop.length := Nat.mul_le_mul c1 hpp
  conv => whnf
  repeat' first | ((with_reducible refine Gets.remN ?_ ?_ ?_); (· omega); (· omega); conv => whnf) | ((with_reducible refine Gets.addI ?_ ?_ ?_); (· omega); (· omega); conv => whnf) | (refine Gets.of _ rfl ?_; conv => whnf) | (refine Fork.neI (fun _ => ?_) (fun _ => ?_) <;> first | (exfalso; omega) | (conv => whnf))
  · rename_i hne
    have hc3 : c < v.loop.length := by
      rcases Nat.lt_or_ge c v.loop.length with h | h
      · exact h
      · obtain rfl : c = v.loop.length := by omega
        refine absurd ?_ hne
        show (((v.loop.length * u.loop.length : Nat) : Int)) % (v.loop.length : Int) = 0
        rw [← Int.natCast_emod, Nat.mul_mod_right]; rfl
    exact ⟨c + 1, ⟨by omega, hc3⟩, by show v.loop.length - (c + 1) < _; omega, ⟨rfl, rfl, rfl, rfl, rfl, (by show AVal.int .i64 (((c * u.loop.length : Nat) : Int) + (u.loop.length : Int)) = AVal.int .i64 (((c + 1) * u.loop.length : Nat) : Int); rw [Nat.succ_mul]; rfl), trivial⟩, rfl⟩
  rename_i heq
  have hd : v.loop.length ∣ c * u.loop.length := by
    have h1 : (((c * u.loop.length : Nat) : Int)) % (v.loop.length : Int) = 0 := heq
    rw [← Int.natCast_emod] at h1
    exact Nat.dvd_of_mod_eq_zero (by omega)
  have e1 : mixW u v n m = shortW (mixWd u v n (c * u.loop.length)) := by rw [e0, if_pos ⟨hp, hq⟩, short_mix hpp hqp hcp (Nat.dvd_mul_left _ _) hd]
  rw [e1]
  clear e0 e1 heq
  generalize hS : max u.stem.length v.stem.length = S
  generalize hL : c * u.loop.length = L at hcl hcp hd
  have hSm : S ≤ 200 := by omega
  refine CodeS.loopGK (cuts := []) (σ := Nat) (fun k => [(2, .int .i64 n), (4, .ptr 0 0), (5, .ptr 1 0), (8, .ptr 2 0), (10, .int .i64 (S : Int)), (12, acc 3 k), (65, .int .i64 ((S + L : Nat) : Int)), (66, .int .i64 (k : Int))]) (fun k => (hM u v).alloc (accB ((List.range k).map (mixF u v n)) k)) (fun k => k ≤ S + L) (fun k => S + L - k) 0 (renL [0, 1, 2, 0] 3) (by kernel_rfl) (Nat.zero_le _) ⟨rfl, rfl, rfl, rfl, rfl, rfl, rfl, rfl, trivial⟩ (EmbL.lits [0, 1, 2, 0] rfl rfl rfl rfl .nil (.cons ⟨rfl, .inl rfl⟩ (.cons ⟨rfl, .inl rfl⟩ (.cons ⟨rfl, .inl rfl⟩ (.cons ⟨rfl, .roEc⟩ .nil))))) ?_
  intro k hk
  obtain ⟨x1, x2, x3, x4⟩ := mixF_le hp hq (by omega) (by omega) (by omega) k
  rcases Nat.lt_or_ge k (S + L) with hkl | hkl
  · rcases k with _ | k
    · conv => whnf
      repeat' (refine Fork.dec (fun _ => ?_) (fun _ => ?_) <;> first | (exfalso; omega) | (conv => whnf))
      refine CodeS.drawT [0, 1] (.take 0 (.take 1 (.take 2 (.take 4 (.take 5 (.take 7 (.one 3 true (.one 6 true (.take 8 (.take 9 (.one 10 true (.one 11 true (.take 12 .done))))))))))))) mixed (by kernel_rfl) (.cons ⟨rfl, trivial⟩ (.cons ⟨rfl, trivial⟩ .nil)) ?_
      conv => whnf
      repeat' (refine Gets.of _ rfl ?_; conv => whnf)
      refine CallPS.of (by kernel_rfl) (atR u hu hpp 0 (by omega) _) rfl ?_
      rintro _ _ ⟨rfl, rfl⟩
      conv => whnf
      repeat' (refine Chk.mk (by repeat first | exact .nil | refine .cons rfl ?_) ?_; conv => whnf)
      refine CallPS.of (by kernel_rfl) (atR v hv hqp 0 (by omega) _) rfl ?_
      rintro _ _ ⟨rfl, rfl⟩
      conv => whnf
      repeat' first | ((refine Gets.shlM (by omega) x2.1 x2.2 ?_); conv => whnf) | ((with_reducible refine Gets.addI ?_ ?_ ?_); (· omega); (· omega); conv => whnf) | (refine Gets.of _ rfl ?_; conv => whnf) | (refine Chk.mk (by repeat first | exact .nil | refine .cons rfl ?_) ?_; conv => whnf)
      exact ⟨1, renL [0, 1, 2, 5] 6, by omega, by show S + L - 1 < S + L - 0; omega, ⟨rfl, rfl, rfl, rfl, rfl, rfl, rfl, rfl, trivial⟩, EmbL.litsN [0, 1, 2, 5] rfl rfl rfl rfl .nil (.cons ⟨rfl, .inl rfl⟩ (.cons ⟨rfl, .inl rfl⟩ (.cons ⟨rfl, .inl rfl⟩ (.cons ⟨rfl, .cellsIe rfl⟩ .nil))))⟩
    · conv => whnf
      repeat' (refine Fork.dec (fun _ => ?_) (fun _ => ?_) <;> first | (exfalso; omega) | (conv => whnf))
      refine CodeS.drawT [0, 1] (.take 0 (.take 1 (.take 2 (.take 4 (.take 5 (.take 7 (.one 3 true (.one 6 true (.take 8 (.take 9 (.one 10 true (.one 11 true (.take 12 .done))))))))))))) mixed (by kernel_rfl) (.cons ⟨rfl, trivial⟩ (.cons ⟨rfl, trivial⟩ .nil)) ?_
      conv => whnf
      repeat' (refine Gets.of _ rfl ?_; conv => whnf)
      refine CallPS.of (by kernel_rfl) (atR u hu hpp (k + 1) (by omega) _) rfl ?_
      rintro _ _ ⟨rfl, rfl⟩
      conv => whnf
      repeat' (refine Chk.mk (by repeat first | exact .nil | refine .cons rfl ?_) ?_; conv => whnf)
      refine CallPS.of (by kernel_rfl) (atR v hv hqp (k + 1) (by omega) _) rfl ?_
      rintro _ _ ⟨rfl, rfl⟩
      conv => whnf
      repeat' first | ((refine Gets.shlM (by omega) x2.1 x2.2 ?_); conv => whnf) | ((refine Gets.appSrc (ti := tiI) (l := (List.range (k + 1)).map (mixF u v n)) (xs := [mixF u v n (k + 1)]) (m := k + 1) (n := 1) rfl rfl rfl rfl rfl (by decide) (by simp) ((src_at (xs := [mixF u v n (k + 1)]) (n := 1) rfl (.inr rfl)).1) rfl (by omega) ?_); conv => whnf) | ((with_reducible refine Gets.addI ?_ ?_ ?_); (· omega); (· omega); conv => whnf) | (refine Chk.mk (by repeat first | exact .nil | refine .cons rfl ?_) ?_; conv => whnf)
      exact ⟨k + 2, renL [0, 1, 2, 5] 6, by omega, by show S + L - (k + 2) < S + L - (k + 1); omega, ⟨rfl, rfl, rfl, rfl, rfl, rfl, rfl, rfl, trivial⟩, EmbL.litsN [0, 1, 2, 5] rfl rfl rfl rfl .nil (.cons ⟨rfl, .inl rfl⟩ (.cons ⟨rfl, .inl rfl⟩ (.cons ⟨rfl, .inl rfl⟩ (.cons ⟨rfl, .cellsIe (by rw [map_range_succ _ (k + 1), List.take_of_length_le (by simp)])⟩ .nil))))⟩
  · obtain rfl : k = S + L := by omega
    obtain ⟨t, ht⟩ : ∃ t, S + L = t + 1 := ⟨S + L - 1, by omega⟩
    rw [ht]
    conv => whnf
    repeat' (refine Fork.dec (fun _ => ?_) (fun _ => ?_) <;> first | (exfalso; omega) | (conv => whnf))
    refine CodeS.drawT [] (.take 0 (.take 1 (.take 2 (.take 3 (.take 4 (.take 5 (.take 6 (.one 7 true (.take 8 (.take 9 (.one 10 false (.take 11 .done)))))))))))) mixed (by kernel_rfl) .nil ?_
    conv => whnf
    repeat' first | ((refine Gets.sliceHi (k := S) rfl rfl rfl rfl (by omega) ?_); conv => whnf) | ((refine Gets.sliceLo (k := S) rfl rfl rfl rfl (by omega) ?_); conv => whnf)
    have eA : rI ((((List.range (t + 1)).map (mixF u v n)).drop 0).take S) = rI (mixWd u v n L).stem := by rw [List.drop_zero, map_range_take _ (by omega)]; unfold mixWd; rw [hS]
    have eB : rI ((((List.range (t + 1)).map (mixF u v n)).drop S).take (t + 1 - S)) = rI (mixWd u v n L).loop := by
      have : (((List.range (t + 1)).map (mixF u v n)).drop S).take (t + 1 - S) = (mixWd u v n L).loop := by
        unfold mixWd
        rw [hS]
        apply List.ext_getElem
        · simp; omega
        · intro i h1 h2; simp
      rw [this]
    refine CallPS.of (by kernel_rfl) ((fitR (mixWd u v n L) (by show ((List.range _).map _).length ≤ _; rw [List.length_map, List.length_range]; omega) (by show 0 < ((List.range _).map _).length; rw [List.length_map, List.length_range]; omega) (by show ((List.range _).map _).length ≤ _; rw [List.length_map, List.length_range]; omega) _).argsF [3] rfl (.frz (.agg (.cons (eA ▸ frzP rfl rfl (by simp; omega)) (.cons (eB ▸ frzP rfl rfl (by simp; omega)) (.same rfl)))) .nil)) rfl ?_
    rintro _ _ ⟨rfl, rfl⟩
    conv => whnf
    repeat' first | (refine Gets.of _ rfl ?_; conv => whnf) | (refine Chk.mk (by repeat first | exact .nil | refine .cons rfl ?_) ?_; conv => whnf)
    all_goals exact ⟨[], _, rfl, .same rfl, rfl, rfl⟩
end Go.Proofs.YthjemhlcojmiaaaDoor

/- Mix, as the reference has it. -/
-- VkG VkH VmA
set_option linter.unusedVariables false
set_option linter.unusedSimpArgs false
set_option maxRecDepth 100000
set_option maxHeartbeats 1000000
namespace Go.Proofs.YthjemhlcojmiaaaDoor
open Go Go.Vh Go.Vk Go.Proofs
theorem ren_acc (κ : Nat → Nat) (k n : Nat) : ren κ (acc k n) = acc (κ k) n := by cases n <;> rfl
theorem acc_sc {k n : Nat} : (acc k n).scalar = true := by cases n <;> rfl
theorem _root_.Go.Vh.BSub.acc2 {κ : Nat → Nat} {i i' j j' a b : Nat} (h1 : κ i = i') (h2 : κ j = j') : BSub κ (.cells 1 [acc i a, acc j b]) (.cells 1 [acc i' a, acc j' b]) := by
  subst h1; subst h2
  refine .inl ?_
  show _ = ABlk.cells 1 [ren κ (acc i a), ren κ (acc j b)]
  rw [ren_acc, ren_acc]
theorem renB_accB (κ : Nat → Nat) (l : List Int) (n : Nat) : renB κ (accB l n) = accB l n := by
  cases n with
  | zero => rfl
  | succ n => show ABlk.cells 1 (rens κ (ints l)) = _; rw [rens_ints]; rfl
theorem _root_.Go.Vh.BSub.accS {κ : Nat → Nat} {l : List Int} {n : Nat} : BSub κ (accB l n) (accB l n) := .inl (renB_accB _ _ _).symm
theorem frz_acc {H : AHeap} {ks : List Nat} {i n : Nat} {l : List Int} (h : n ≠ 0 → ks.contains i = true) (hf : H.f i = accB l n) (hn : n = l.length) : Frz H ks (acc i n) (rI l) := by
  cases n with
  | zero => obtain rfl : l = [] := List.eq_nil_of_length_eq_zero hn.symm
            exact .nil (cs := [])
  | succ n => exact frzI (h (by simp)) hf hn
def hN (u v : Wd) (A B : List Int) (a b : Nat) : AHeap := (((hM u v).alloc (.cells 1 [acc 4 a, acc 5 b])).alloc (accB A a)).alloc (accB B b)
open Classical in
theorem mixRr (u v : Wd) (n m : Int) (hu : u.Fits) (hv : v.Fits) (hn : -9223372036854775808 ≤ n ∧ n ≤ 9223372036854775807) (hm : -9223372036854775808 ≤ m ∧ m ≤ 9223372036854775807) (H : AHeap) : CallW Tryd.prog 32 [u.rv, v.rv, .int .i64 n, .int .i64 m] H fun r H' => H' = H ∧ r = .tuple [(mixW u v n m).1.rv, .int .i64 (mixW u v n m).2] := by
  refine CallW.pure ?_ rfl H
  by_cases hb : n < 0 ∨ m < 0 ∨ 6 < n ∨ 6 < m ∨ 6 < n + m
  · have e : mixW u v n m = (errW, 6) := if_pos hb
    rw [e]
    refine CallW.symK (cuts := []) Tryd.func32 rfl (by kernel_rfl) ?_
    conv => whnf
    repeat' first | ((with_reducible refine Gets.addI ?_ ?_ ?_); (· omega); (· omega); conv => whnf) | (refine Gets.of _ rfl ?_; conv => whnf) | (refine Fork.dec (fun _ => ?_) (fun _ => ?_) <;> first | (exfalso; omega) | (conv => whnf))
    all_goals exact errT 6
  obtain ⟨n, rfl⟩ : ∃ n' : Nat, n = (n' : Int) := ⟨n.toNat, by omega⟩
  have e0 : mixW u v n m = if u.Ok n ∧ v.Ok m then shortW (mixWd u v n (u.loop.length * v.loop.length)) else (errW, 1) := by
    unfold mixW; rw [if_neg hb]; simp only [Int.toNat_natCast]
  refine CallW.symK (cuts := []) Tryd.func32 rfl (by kernel_rfl) ?_
  conv => whnf
  repeat' first | ((with_reducible refine Gets.addI ?_ ?_ ?_); (· omega); (· omega); conv => whnf) | (refine Gets.of _ rfl ?_; conv => whnf) | (refine Fork.noR rfl ?_; conv => whnf) | (refine Fork.dec (fun _ => ?_) (fun _ => ?_) <;> first | (exfalso; omega) | (conv => whnf))
  refine CallS.of (by kernel_rfl) (validRr u hu n _) rfl ?_
  rintro _ _ ⟨rfl, hp | hp⟩
  all_goals conv => whnf
  all_goals
    repeat' (refine Gets.of _ rfl ?_; conv => whnf)
  rotate_left
  · rw [e0, if_neg fun h => hp h.1]
    exact errT 1
  refine CallS.of (by kernel_rfl) (validRr v hv m _) rfl ?_
  rintro _ _ ⟨rfl, hq | hq⟩
  rotate_left
  · conv => whnf
    repeat' (refine Gets.of _ rfl ?_; conv => whnf)
    rw [e0, if_neg fun h => hq h.2]
    exact errT 1
  have hpm := hp.m
  have hqm := hq.m
  have hpp := hp.p
  have hqp := hq.p
  have hcl : u.loop.length * v.loop.length ≤ 200 * 200 := Nat.mul_le_mul (by omega) (by omega)
  have hcp : 1 * 1 ≤ u.loop.length * v.loop.length := Nat.mul_le_mul hpp hqp
  have hcI : ((u.loop.length : Int) * (v.loop.length : Int)) = ((u.loop.length * v.loop.length : Nat) : Int) := rfl
  conv => whnf
  repeat' first | ((refine Gets.maxN ?_); conv => whnf) | ((with_reducible refine Gets.addI ?_ ?_ ?_); (· omega); (· omega); conv => whnf) | ((with_reducible refine Gets.mulI ?_ ?_ ?_); (· omega); (· omega); conv => whnf) | (refine Gets.of _ rfl ?_; conv => whnf)
  have e1 : mixW u v n m = shortW (mixWd u v n (u.loop.length * v.loop.length)) := by rw [e0]; exact if_pos ⟨hp, hq⟩
  rw [e1]
  clear e0 e1
  generalize hS : max u.stem.length v.stem.length = S
  rw [hcI]
  generalize hL : u.loop.length * v.loop.length = L at hcl hcp hcI
  have hSm : S ≤ 200 := by omega
  refine CodeS.loopGK (cuts := []) (σ := Nat × Nat) (fun k => [(2, .int .i64 n), (4, .ptr 0 0), (5, .ptr 1 0), (8, .ptr 2 0), (10, .int .i64 (S : Int)), (11, .ptr 3 0), (61, .int .i64 ((S + L : Nat) : Int)), (62, .int .i64 ((k.1 + k.2 : Nat) : Int))]) (fun k => hN u v ((List.range k.1).map (mixF u v n)) ((List.range k.2).map fun j => mixF u v n (S + j)) k.1 k.2) (fun k => (k.1 ≤ S ∧ k.2 = 0) ∨ (k.1 = S ∧ k.2 ≤ L)) (fun k => S + L - (k.1 + k.2)) (0, 0) (renL [0, 1, 2, 3, 0, 0] 4) (by kernel_rfl) (.inl ⟨Nat.zero_le _, rfl⟩) ⟨rfl, rfl, rfl, rfl, rfl, rfl, rfl, rfl, trivial⟩ (EmbL.lits [0, 1, 2, 3, 0, 0] rfl rfl rfl rfl .nil (.cons ⟨rfl, .inl rfl⟩ (.cons ⟨rfl, .inl rfl⟩ (.cons ⟨rfl, .inl rfl⟩ (.cons ⟨rfl, .inl rfl⟩ (.cons ⟨rfl, .roEc⟩ (.cons ⟨rfl, .roEc⟩ .nil))))))) ?_
  rintro ⟨a, b⟩ hab
  dsimp only at hab
  obtain ⟨x1, x2, x3, x4⟩ := mixF_le hp hq (by omega) (by omega) (by omega) (a + b)
  rcases Nat.lt_or_ge (a + b) (S + L) with hkl | hkl
  · have step : ∀ {Q : Prop}, (a < S ∧ b = 0 → Q) → (a = S → Q) → Q := fun {Q} h1 h2 => by
      rcases hab with ⟨h, h'⟩ | ⟨h, h'⟩
      · rcases Nat.lt_or_ge a S with h3 | h3
        · exact h1 ⟨h3, h'⟩
        · exact h2 (by omega)
      · exact h2 h
    refine step ?_ ?_
    · rintro ⟨ha, rfl⟩
      rcases a with _ | a
      · conv => whnf
        repeat' (refine Fork.dec (fun _ => ?_) (fun _ => ?_) <;> first | (exfalso; omega) | (conv => whnf))
        refine CodeS.drawT [0, 1] (.take 0 (.take 1 (.take 3 (.take 4 (.take 6 (.one 2 true (.one 5 true (.take 7 (.take 8 (.take 9 .done)))))))))) mixed (by kernel_rfl) (.cons ⟨rfl, trivial⟩ (.cons ⟨rfl, trivial⟩ .nil)) ?_
        conv => whnf
        repeat' (refine Gets.of _ rfl ?_; conv => whnf)
        refine CallPS.of (by kernel_rfl) (atRr u hu hpp (0 + 0) (by omega) _) rfl ?_
        rintro _ _ ⟨rfl, rfl⟩
        conv => whnf
        repeat' (refine Chk.mk (by repeat first | exact .nil | refine .cons rfl ?_) ?_; conv => whnf)
        refine CallPS.of (by kernel_rfl) (atRr v hv hqp (0 + 0) (by omega) _) rfl ?_
        rintro _ _ ⟨rfl, rfl⟩
        conv => whnf
        repeat' first | ((refine Gets.shlM (by omega) x2.1 x2.2 ?_); conv => whnf) | ((refine Gets.appNilS (ti := tiI) (n := 1) (xs := ints [mixF u v n (0 + 0)]) rfl rfl rfl rfl rfl (by decide) ((src_at (xs := [mixF u v n (0 + 0)]) (n := 1) rfl (.inr rfl)).1) (by decide) (by decide) ?_); conv => whnf) | ((refine Gets.stS (ti := tiS) rfl rfl rfl rfl rfl rfl ?_); conv => whnf) | ((with_reducible refine Gets.addI ?_ ?_ ?_); (· omega); (· omega); conv => whnf) | (refine Gets.of _ rfl ?_; conv => whnf) | (refine Chk.mk (by repeat first | exact .nil | refine .cons rfl ?_) ?_; conv => whnf) | (refine Fork.dec (fun _ => ?_) (fun _ => ?_) <;> first | (exfalso; omega) | (conv => whnf))
        exact ⟨(1, 0), renL [0, 1, 2, 3, 7, 5] 8, .inl ⟨ha, rfl⟩, by show S + L - 1 < S + L - 0; omega, ⟨rfl, rfl, rfl, rfl, rfl, rfl, rfl, rfl, trivial⟩, EmbL.litsN [0, 1, 2, 3, 7, 5] rfl rfl rfl rfl .nil (.cons ⟨rfl, .inl rfl⟩ (.cons ⟨rfl, .inl rfl⟩ (.cons ⟨rfl, .inl rfl⟩ (.cons ⟨rfl, .acc2 rfl rfl⟩ (.cons ⟨rfl, .cellsIe (l := (List.range 1).map (mixF u v n)) (l' := [mixF u v n (0 + 0)]) rfl⟩ (.cons ⟨rfl, .inl rfl⟩ .nil))))))⟩
      · conv => whnf
        repeat' (refine Fork.dec (fun _ => ?_) (fun _ => ?_) <;> first | (exfalso; omega) | (conv => whnf))
        refine CodeS.drawT [0, 1] (.take 0 (.take 1 (.take 3 (.take 4 (.take 6 (.one 2 true (.one 5 true (.take 7 (.take 8 (.take 9 .done)))))))))) mixed (by kernel_rfl) (.cons ⟨rfl, trivial⟩ (.cons ⟨rfl, trivial⟩ .nil)) ?_
        conv => whnf
        repeat' (refine Gets.of _ rfl ?_; conv => whnf)
        refine CallPS.of (by kernel_rfl) (atRr u hu hpp (a + 1 + 0) (by omega) _) rfl ?_
        rintro _ _ ⟨rfl, rfl⟩
        conv => whnf
        repeat' (refine Chk.mk (by repeat first | exact .nil | refine .cons rfl ?_) ?_; conv => whnf)
        refine CallPS.of (by kernel_rfl) (atRr v hv hqp (a + 1 + 0) (by omega) _) rfl ?_
        rintro _ _ ⟨rfl, rfl⟩
        conv => whnf
        repeat' first | ((refine Gets.shlM (by omega) x2.1 x2.2 ?_); conv => whnf) | ((refine Gets.appSrc (ti := tiI) (l := (List.range (a + 1)).map (mixF u v n)) (xs := [mixF u v n (a + 1)]) (m := a + 1) (n := 1) rfl rfl rfl rfl rfl (by decide) (by simp) ((src_at (xs := [mixF u v n (a + 1)]) (n := 1) rfl (.inr rfl)).1) rfl (by omega) ?_); conv => whnf) | ((refine Gets.stS (ti := tiS) rfl rfl rfl rfl rfl rfl ?_); conv => whnf) | ((with_reducible refine Gets.addI ?_ ?_ ?_); (· omega); (· omega); conv => whnf) | (refine Gets.of _ rfl ?_; conv => whnf) | (refine Chk.mk (by repeat first | exact .nil | refine .cons rfl ?_) ?_; conv => whnf) | (refine Fork.dec (fun _ => ?_) (fun _ => ?_) <;> first | (exfalso; omega) | (conv => whnf))
        exact ⟨(a + 2, 0), renL [0, 1, 2, 3, 7, 5] 8, .inl ⟨ha, rfl⟩, by show S + L - (a + 2 + 0) < S + L - (a + 1 + 0); omega, ⟨rfl, rfl, rfl, rfl, rfl, rfl, rfl, rfl, trivial⟩, EmbL.litsN [0, 1, 2, 3, 7, 5] rfl rfl rfl rfl .nil (.cons ⟨rfl, .inl rfl⟩ (.cons ⟨rfl, .inl rfl⟩ (.cons ⟨rfl, .inl rfl⟩ (.cons ⟨rfl, .acc2 rfl rfl⟩ (.cons ⟨rfl, .cellsIe (by rw [map_range_succ _ (a + 1), List.take_of_length_le (by simp)])⟩ (.cons ⟨rfl, .inl rfl⟩ .nil))))))⟩
    · rintro rfl
      clear step
      rcases b with _ | b
      · conv => whnf
        repeat' (refine Fork.dec (fun _ => ?_) (fun _ => ?_) <;> first | (exfalso; omega) | (conv => whnf))
        refine CodeS.drawT [0, 1] (.take 0 (.take 1 (.take 3 (.take 4 (.take 6 (.one 2 true (.one 5 true (.take 7 (.take 8 (.take 9 .done)))))))))) mixed (by kernel_rfl) (.cons ⟨rfl, trivial⟩ (.cons ⟨rfl, trivial⟩ .nil)) ?_
        conv => whnf
        repeat' (refine Gets.of _ rfl ?_; conv => whnf)
        refine CallPS.of (by kernel_rfl) (atRr u hu hpp (a + 0) (by omega) _) rfl ?_
        rintro _ _ ⟨rfl, rfl⟩
        conv => whnf
        repeat' (refine Chk.mk (by repeat first | exact .nil | refine .cons rfl ?_) ?_; conv => whnf)
        refine CallPS.of (by kernel_rfl) (atRr v hv hqp (a + 0) (by omega) _) rfl ?_
        rintro _ _ ⟨rfl, rfl⟩
        conv => whnf
        repeat' first | ((refine Gets.shlM (by omega) x2.1 x2.2 ?_); conv => whnf) | ((refine Gets.appNilS (ti := tiI) (n := 1) (xs := ints [mixF u v n (a + 0)]) rfl rfl rfl rfl rfl (by decide) ((src_at (xs := [mixF u v n (a + 0)]) (n := 1) rfl (.inr rfl)).1) (by decide) (by decide) ?_); conv => whnf) | ((refine Gets.stS (ti := tiS) rfl rfl rfl rfl rfl rfl ?_); conv => whnf) | ((with_reducible refine Gets.addI ?_ ?_ ?_); (· omega); (· omega); conv => whnf) | (refine Gets.of _ rfl ?_; conv => whnf) | (refine Chk.mk (by repeat first | exact .nil | refine .cons rfl ?_) ?_; conv => whnf) | (refine Fork.dec (fun _ => ?_) (fun _ => ?_) <;> first | (exfalso; omega) | (conv => whnf))
        exact ⟨(a, 1), renL [0, 1, 2, 3, 4, 7] 8, .inr ⟨rfl, by show 1 ≤ L; omega⟩, by show a + L - (a + 1) < a + L - (a + 0); omega, ⟨rfl, rfl, rfl, rfl, rfl, rfl, rfl, rfl, trivial⟩, EmbL.litsN [0, 1, 2, 3, 4, 7] rfl rfl rfl rfl .nil (.cons ⟨rfl, .inl rfl⟩ (.cons ⟨rfl, .inl rfl⟩ (.cons ⟨rfl, .inl rfl⟩ (.cons ⟨rfl, .acc2 rfl rfl⟩ (.cons ⟨rfl, .accS⟩ (.cons ⟨rfl, .cellsIe rfl⟩ .nil))))))⟩
      · conv => whnf
        repeat' (refine Fork.dec (fun _ => ?_) (fun _ => ?_) <;> first | (exfalso; omega) | (conv => whnf))
        refine CodeS.drawT [0, 1] (.take 0 (.take 1 (.take 3 (.take 4 (.take 6 (.one 2 true (.one 5 true (.take 7 (.take 8 (.take 9 .done)))))))))) mixed (by kernel_rfl) (.cons ⟨rfl, trivial⟩ (.cons ⟨rfl, trivial⟩ .nil)) ?_
        conv => whnf
        repeat' (refine Gets.of _ rfl ?_; conv => whnf)
        refine CallPS.of (by kernel_rfl) (atRr u hu hpp (a + (b + 1)) (by omega) _) rfl ?_
        rintro _ _ ⟨rfl, rfl⟩
        conv => whnf
        repeat' (refine Chk.mk (by repeat first | exact .nil | refine .cons rfl ?_) ?_; conv => whnf)
        refine CallPS.of (by kernel_rfl) (atRr v hv hqp (a + (b + 1)) (by omega) _) rfl ?_
        rintro _ _ ⟨rfl, rfl⟩
        conv => whnf
        repeat' first | ((refine Gets.shlM (by omega) x2.1 x2.2 ?_); conv => whnf) | ((refine Gets.appSrc (ti := tiI) (l := (List.range (b + 1)).map fun j => mixF u v n (a + j)) (xs := [mixF u v n (a + (b + 1))]) (m := b + 1) (n := 1) rfl rfl rfl rfl rfl (by decide) (by simp) ((src_at (xs := [mixF u v n (a + (b + 1))]) (n := 1) rfl (.inr rfl)).1) rfl (by omega) ?_); conv => whnf) | ((refine Gets.stS (ti := tiS) rfl rfl rfl rfl rfl rfl ?_); conv => whnf) | ((with_reducible refine Gets.addI ?_ ?_ ?_); (· omega); (· omega); conv => whnf) | (refine Gets.of _ rfl ?_; conv => whnf) | (refine Chk.mk (by repeat first | exact .nil | refine .cons rfl ?_) ?_; conv => whnf) | (refine Fork.dec (fun _ => ?_) (fun _ => ?_) <;> first | (exfalso; omega) | (conv => whnf))
        exact ⟨(a, b + 2), renL [0, 1, 2, 3, 4, 7] 8, .inr ⟨rfl, by show b + 2 ≤ L; omega⟩, by show a + L - (a + (b + 2)) < a + L - (a + (b + 1)); omega, ⟨rfl, rfl, rfl, rfl, rfl, rfl, rfl, rfl, trivial⟩, EmbL.litsN [0, 1, 2, 3, 4, 7] rfl rfl rfl rfl .nil (.cons ⟨rfl, .inl rfl⟩ (.cons ⟨rfl, .inl rfl⟩ (.cons ⟨rfl, .inl rfl⟩ (.cons ⟨rfl, .acc2 rfl rfl⟩ (.cons ⟨rfl, .accS⟩ (.cons ⟨rfl, .cellsIe (by rw [map_range_succ _ (b + 1), List.take_of_length_le (by simp)])⟩ .nil))))))⟩
  · obtain ⟨rfl, rfl⟩ : a = S ∧ b = L := by omega
    obtain ⟨t, rfl⟩ : ∃ t, b = t + 1 := ⟨b - 1, by omega⟩
    conv => whnf
    repeat' first | (refine Gets.of _ rfl ?_; conv => whnf) | (refine seq0_of ?_; conv => whnf) | (refine Fork.dec (fun _ => ?_) (fun _ => ?_) <;> first | (exfalso; omega) | (conv => whnf))
    have key : ∀ ks, (a ≠ 0 → ks.contains 4 = true) → ks.contains 5 = true → FrzA (hN u v ((List.range a).map (mixF u v n)) ((List.range (t + 1)).map fun j => mixF u v n (a + j)) a (t + 1)) ks [.agg [acc 4 a, .slice 5 0 (t + 1)]] [(mixWd u v n (t + 1)).rv] := fun ks h1 h2 => by
      have e : mixWd u v n (t + 1) = ⟨(List.range a).map (mixF u v n), (List.range (t + 1)).map fun j => mixF u v n (a + j)⟩ := by unfold mixWd; rw [hS]
      rw [e]
      exact .frz (.agg (.cons (frz_acc h1 rfl (by simp)) (.cons (frzI h2 rfl (by simp)) (.same rfl)))) .nil
    have go : ∀ H, CallW Tryd.prog 53 [(mixWd u v n (t + 1)).rv] H fun r H' => H' = H ∧ r = .tuple [(shortW (mixWd u v n (t + 1))).1.rv, .int .i64 (shortW (mixWd u v n (t + 1))).2] := fun H => shortR (mixWd u v n (t + 1)) (by show ((List.range _).map _).length ≤ _; rw [List.length_map, List.length_range]; omega) (by show 0 < ((List.range _).map _).length; rw [List.length_map, List.length_range]; omega) (by show ((List.range _).map _).length ≤ _; rw [List.length_map, List.length_range]; omega) H
    rcases a with _ | a
    · refine CallS.of (by kernel_rfl) ((go _).argsF [5] rfl (key [5] (fun h => absurd rfl h) rfl)) rfl ?_
      rintro _ _ ⟨rfl, rfl⟩
      conv => whnf
      repeat' (refine Gets.of _ rfl ?_; conv => whnf)
      exact ⟨[], _, rfl, .same rfl, rfl, rfl⟩
    · refine CallS.of (by kernel_rfl) ((go _).argsF [4, 5] rfl (key [4, 5] (fun h => rfl) rfl)) rfl ?_
      rintro _ _ ⟨rfl, rfl⟩
      conv => whnf
      repeat' (refine Gets.of _ rfl ?_; conv => whnf)
      exact ⟨[], _, rfl, .same rfl, rfl, rfl⟩
end Go.Proofs.YthjemhlcojmiaaaDoor

/- Split. -/
-- VkG VkH VmA
set_option linter.unusedVariables false
set_option linter.unusedSimpArgs false
set_option maxRecDepth 100000
set_option maxHeartbeats 1000000
namespace Go.Proofs.YthjemhlcojmiaaaDoor
open Go Go.Vh Go.Vk Go.Proofs
theorem Gets.shrI {k' : IntKind} {x : Int} {i : Nat} {A : AVal → Prop} (h0 : 0 ≤ x) (hi : i < 64) (hA : A (.int .i64 (x / ((2 ^ i : Nat) : Int)))) : Gets (abin .shr (.int .i64 x) (.int k' (i : Int))) A := by
  obtain ⟨n, rfl⟩ : ∃ n : Nat, x = (n : Int) := ⟨x.toNat, by omega⟩
  refine Gets.shrN hi ?_
  rw [Nat.shiftRight_eq_div_pow]
  exact hA
theorem Gets.andM {x : Int} {i : Nat} {A : AVal → Prop} (h0 : 0 ≤ x) (h1 : x < 64) (hi : i ≤ 6) (hA : A (.int .i64 (x % ((2 ^ i : Nat) : Int)))) : Gets (abin .and (.int .i64 x) (.int .i64 (((2 ^ i : Nat) : Int) - 1))) A := by
  obtain ⟨n, rfl⟩ : ∃ n : Nat, x = (n : Int) := ⟨x.toNat, by omega⟩
  have hp : (2 ^ i : Nat) ≤ 64 := Nat.le_trans (Nat.pow_le_pow_right (by decide) hi) (by decide)
  have hq : 0 < 2 ^ i := Nat.two_pow_pos i
  refine ⟨⟨_, rfl, ?_⟩⟩
  rw [show ((2 ^ i : Nat) : Int) - 1 = ((2 ^ i - 1 : Nat) : Int) by omega, andI (by omega) (by omega), Nat.and_two_pow_sub_one_eq_mod]
  exact hA
/-- A word all of whose letters are changed. -/
def mapW (g : Int → Int) (w : Wd) : Wd := ⟨w.stem.map g, w.loop.map g⟩
def modF (n : Nat) (x : Int) : Int := x % ((2 ^ n : Nat) : Int)
def divF (n : Nat) (x : Int) : Int := x / ((2 ^ n : Nat) : Int)
theorem split2 (n : Nat) (hn : n ≤ 6) (x : Int) (h0 : 0 ≤ x) (h1 : x < 64) (H : AHeap) (i : Nat) (hf : (H.f i).cs = ints [(n : Int)]) : CallW Tryd.prog 55 [.int .i64 x, .ptr i 0] H fun v H' => H' = H ∧ v = .int .i64 (modF n x) := by
  have hp : (2 ^ n : Nat) ≤ 64 := Nat.le_trans (Nat.pow_le_pow_right (by decide) hn) (by decide)
  have hq : 0 < 2 ^ n := Nat.two_pow_pos n
  refine CallW.symK (cuts := []) Tryd.func55 rfl (by kernel_rfl) ?_
  conv => whnf
  repeat' first | ((refine Gets.ld1 rfl rfl hf ?_); conv => whnf) | ((refine Gets.shlN (by omega) ?_); conv => whnf) | ((refine Gets.andM h0 h1 hn ?_); conv => whnf) | ((with_reducible refine Gets.subI ?_ ?_ ?_); (· omega); (· omega); conv => whnf)
  exact ⟨rfl, rfl⟩
theorem split3 (n : Nat) (hn : n ≤ 6) (x : Int) (h0 : 0 ≤ x) (h1 : x < 64) (H : AHeap) (i : Nat) (hf : (H.f i).cs = ints [(n : Int)]) : CallW Tryd.prog 56 [.int .i64 x, .ptr i 0] H fun v H' => H' = H ∧ v = .int .i64 (divF n x) := by
  refine CallW.symK (cuts := []) Tryd.func56 rfl (by kernel_rfl) ?_
  conv => whnf
  repeat' first | ((refine Gets.ld1 rfl rfl hf ?_); conv => whnf) | ((refine Gets.shrI h0 (by omega) ?_); conv => whnf)
  exact ⟨rfl, rfl⟩
/-- What Split$1 reads: the word and the number. -/
def hS (w : Wd) (n : Int) : AHeap := (emptyH.alloc (.ro 1 [rI w.stem, rI w.loop])).alloc (.ro 1 (ints [n]))
def hT (w : Wd) (n : Int) (A B : List Int) (a b : Nat) : AHeap := ((((hS w n).alloc (.cells 1 [.nilSlice, .nilSlice])).alloc (.cells 1 [acc 4 a, acc 5 b])).alloc (accB A a)).alloc (accB B b)
theorem take_succ_map (g : Int → Int) (l : List Int) {k : Nat} (hk : k < l.length) : (l.take (k + 1)).map g = (l.take k).map g ++ [g (l.getD k 0)] := by
  rw [List.take_succ_eq_append_getElem hk, List.map_append]
  simp [List.getD_eq_getElem?_getD, List.getElem?_eq_getElem hk]
theorem take_map_next (g : Int → Int) (l : List Int) {k : Nat} (hk : k + 1 < l.length) : (l.take (k + 2)).map g = ((l.take (k + 1)).map g).take (k + 1) ++ [g (l.getD (k + 1) 0)] := by
  rw [take_succ_map g _ hk]
  congr 1
  rw [List.take_of_length_le (l := (l.take (k + 1)).map g) (by rw [List.length_map, List.length_take]; omega)]
theorem take_map_one (g : Int → Int) (l : List Int) (hk : 0 < l.length) : (l.take 1).map g = [g (l.getD 0 0)] := by
  rw [take_succ_map g _ hk]; rfl
theorem part54 (f : FuncId) (hbf : hasBody Tryd.prog f = true) (g : Int → Int) (w : Wd) (n : Int) (hw : w.Ok 6) (hg : ∀ x, 0 ≤ x → x < 64 → ∀ H : AHeap, (H.f 1).cs = ints [n] → CallW Tryd.prog f [.int .i64 x, .ptr 1 0] H fun v H' => H' = H ∧ v = .int .i64 (g x)) :
    CallW Tryd.prog 54 [.func f [] [.ptr 1 0], .ptr 0 0] (hS w n) fun v _ => clo v = true ∧ v = (nf (mapW g w)).rv := by
  have hm := hw.m
  have h0 := hw.p
  refine CallW.frzR ?_
  refine CallW.symK (cuts := []) Tryd.func54 rfl (by kernel_rfl) ?_
  conv => whnf
  repeat' (refine Gets.of _ rfl ?_; conv => whnf)
  refine CodeS.loopGK (cuts := []) (σ := Nat) (fun k => [(0, .func f [] [.ptr 1 0]), (1, .ptr 0 0), (3, .ptr 2 0), (4, .ptr 3 0), (10, rI w.stem), (11, .int .i64 (w.stem.length : Int)), (12, .int .i64 (k : Int))]) (fun k => hT w n ((w.stem.take k).map g) [] k 0) (fun k => k ≤ w.stem.length) (fun k => w.stem.length - k) 0 (renL [0, 1, 2, 3, 0, 0] 4) (by kernel_rfl) (Nat.zero_le _) ⟨rfl, rfl, rfl, rfl, rfl, rfl, rfl, trivial⟩ (EmbL.lits [0, 1, 2, 3, 0, 0] rfl rfl rfl rfl (.cons ⟨rfl, .inl ⟨rfl, fun h => h⟩⟩ (.cons ⟨rfl, .inl ⟨rfl, fun h => h⟩⟩ .nil)) (.cons ⟨rfl, .inl rfl⟩ (.cons ⟨rfl, .inl rfl⟩ (.cons ⟨rfl, .inl rfl⟩ (.cons ⟨rfl, .inl rfl⟩ (.cons ⟨rfl, .roE⟩ (.cons ⟨rfl, .roE⟩ .nil))))))) ?_
  intro k hk
  rcases Nat.lt_or_ge k w.stem.length with hkl | hkl
  · have hx := inL_lt (hw.s _ (getD_mem hkl)) (by decide) (by decide)
    rcases k with _ | k
    · conv => whnf
      repeat' first | (refine Gets.ixR1 rfl rfl (by omega) ?_; conv => whnf) | (refine Gets.ldRI rfl (by first | omega | exact Nat.le_of_ble_eq_true rfl) ?_; conv => whnf) | (refine Fork.dec (fun _ => ?_) (fun _ => ?_) <;> first | (exfalso; omega) | (conv => whnf))
      refine CodeS.drawT [3] (.take 0 (.take 1 (.take 2 (.take 3 (.one 4 true (.one 5 true (.one 6 true (.take 7 (.one 8 false .done))))))))) mixed (by kernel_rfl) (.cons ⟨rfl, trivial⟩ .nil) ?_
      conv => whnf
      repeat' (refine Gets.of _ rfl ?_; conv => whnf)
      refine CallPS.of hbf (hg (w.stem.getD 0 0) hx.1 hx.2 _ rfl) rfl ?_
      rintro _ _ ⟨rfl, rfl⟩
      conv => whnf
      repeat' first | ((refine Gets.appNilS (ti := tiI) (n := 1) (xs := ints [g (w.stem.getD 0 0)]) rfl rfl rfl rfl rfl (by decide) ((src_at (xs := [g (w.stem.getD 0 0)]) (n := 1) rfl (.inr rfl)).1) (by decide) (by decide) ?_); conv => whnf) | ((refine Gets.stS (ti := tiS) rfl rfl rfl rfl rfl rfl ?_); conv => whnf) | ((with_reducible refine Gets.addI ?_ ?_ ?_); (· omega); (· omega); conv => whnf) | (refine Chk.mk (by repeat first | exact .nil | refine .cons rfl ?_) ?_; conv => whnf)
      exact ⟨1, renL [0, 1, 2, 3, 7, 5] 8, hkl, by show w.stem.length - 1 < w.stem.length - 0; omega, ⟨rfl, rfl, rfl, rfl, rfl, rfl, rfl, trivial⟩, EmbL.litsN [0, 1, 2, 3, 7, 5] rfl rfl rfl rfl (.cons ⟨rfl, .inl ⟨rfl, fun h => h⟩⟩ (.cons ⟨rfl, .inl ⟨rfl, fun h => h⟩⟩ .nil)) (.cons ⟨rfl, .inl rfl⟩ (.cons ⟨rfl, .inl rfl⟩ (.cons ⟨rfl, .inl rfl⟩ (.cons ⟨rfl, .acc2 rfl rfl⟩ (.cons ⟨rfl, .cellsIe (take_map_one g _ hkl)⟩ (.cons ⟨rfl, .inl rfl⟩ .nil))))))⟩
    · conv => whnf
      repeat' first | (refine Gets.ixR1 rfl rfl (by omega) ?_; conv => whnf) | (refine Gets.ldRI rfl (by first | omega | exact Nat.le_of_ble_eq_true rfl) ?_; conv => whnf) | (refine Fork.dec (fun _ => ?_) (fun _ => ?_) <;> first | (exfalso; omega) | (conv => whnf))
      refine CodeS.drawT [3] (.take 0 (.take 1 (.take 2 (.take 3 (.one 4 true (.one 5 true (.one 6 true (.take 7 (.one 8 false .done))))))))) mixed (by kernel_rfl) (.cons ⟨rfl, trivial⟩ .nil) ?_
      conv => whnf
      repeat' (refine Gets.of _ rfl ?_; conv => whnf)
      refine CallPS.of hbf (hg (w.stem.getD (k + 1) 0) hx.1 hx.2 _ rfl) rfl ?_
      rintro _ _ ⟨rfl, rfl⟩
      conv => whnf
      repeat' first | ((refine Gets.appSrc (ti := tiI) (l := (w.stem.take (k + 1)).map g) (xs := [g (w.stem.getD (k + 1) 0)]) (m := k + 1) (n := 1) rfl rfl rfl rfl rfl (by decide) (by rw [List.length_map, List.length_take]; omega) ((src_at (xs := [g (w.stem.getD (k + 1) 0)]) (n := 1) rfl (.inr rfl)).1) rfl (by omega) ?_); conv => whnf) | ((refine Gets.stS (ti := tiS) rfl rfl rfl rfl rfl rfl ?_); conv => whnf) | ((with_reducible refine Gets.addI ?_ ?_ ?_); (· omega); (· omega); conv => whnf) | (refine Chk.mk (by repeat first | exact .nil | refine .cons rfl ?_) ?_; conv => whnf)
      exact ⟨k + 2, renL [0, 1, 2, 3, 7, 5] 8, hkl, by show w.stem.length - (k + 2) < w.stem.length - (k + 1); omega, ⟨rfl, rfl, rfl, rfl, rfl, rfl, rfl, trivial⟩, EmbL.litsN [0, 1, 2, 3, 7, 5] rfl rfl rfl rfl (.cons ⟨rfl, .inl ⟨rfl, fun h => h⟩⟩ (.cons ⟨rfl, .inl ⟨rfl, fun h => h⟩⟩ .nil)) (.cons ⟨rfl, .inl rfl⟩ (.cons ⟨rfl, .inl rfl⟩ (.cons ⟨rfl, .inl rfl⟩ (.cons ⟨rfl, .acc2 rfl rfl⟩ (.cons ⟨rfl, .cellsIe (take_map_next g _ hkl)⟩ (.cons ⟨rfl, .inl rfl⟩ .nil))))))⟩
  · obtain rfl : k = w.stem.length := by omega
    rw [List.take_length]
    conv => whnf
    repeat' first | (refine Gets.of _ rfl ?_; conv => whnf) | (refine Fork.dec (fun _ => ?_) (fun _ => ?_) <;> first | (exfalso; omega) | (conv => whnf))
    refine CodeS.loopGK (cuts := []) (σ := Nat) (fun k => [(0, .func f [] [.ptr 1 0]), (3, .ptr 2 0), (4, .ptr 3 0), (26, rI w.loop), (27, .int .i64 (w.loop.length : Int)), (28, .int .i64 (k : Int))]) (fun k => hT w n (w.stem.map g) ((w.loop.take k).map g) w.stem.length k) (fun k => k ≤ w.loop.length) (fun k => w.loop.length - k) 0 (renL [0, 1, 2, 3, 4, 5] 6) (by kernel_rfl) (Nat.zero_le _) ⟨rfl, rfl, rfl, rfl, rfl, rfl, trivial⟩ (EmbL.litsN [0, 1, 2, 3, 4, 5] rfl rfl rfl rfl (.cons ⟨rfl, .inl ⟨rfl, fun h => h⟩⟩ (.cons ⟨rfl, .inl ⟨rfl, fun h => h⟩⟩ .nil)) (.cons ⟨rfl, .inl rfl⟩ (.cons ⟨rfl, .inl rfl⟩ (.cons ⟨rfl, .inl rfl⟩ (.cons ⟨rfl, .acc2 rfl rfl⟩ (.cons ⟨rfl, .accS⟩ (.cons ⟨rfl, .inl rfl⟩ .nil))))))) ?_
    intro k hk
    rcases Nat.lt_or_ge k w.loop.length with hkl | hkl
    · have hx := inL_lt (hw.l _ (getD_mem hkl)) (by decide) (by decide)
      rcases k with _ | k
      · conv => whnf
        repeat' first | (refine Gets.ixR1 rfl rfl (by omega) ?_; conv => whnf) | (refine Gets.ldRI rfl (by first | omega | exact Nat.le_of_ble_eq_true rfl) ?_; conv => whnf) | (refine Fork.dec (fun _ => ?_) (fun _ => ?_) <;> first | (exfalso; omega) | (conv => whnf))
        refine CodeS.drawT [3] (.take 0 (.take 1 (.take 2 (.take 3 (.one 4 true (.one 5 true (.one 6 true (.take 7 (.one 8 false .done))))))))) mixed (by kernel_rfl) (.cons ⟨rfl, trivial⟩ .nil) ?_
        conv => whnf
        repeat' (refine Gets.of _ rfl ?_; conv => whnf)
        refine CallPS.of hbf (hg (w.loop.getD 0 0) hx.1 hx.2 _ rfl) rfl ?_
        rintro _ _ ⟨rfl, rfl⟩
        conv => whnf
        repeat' first | ((refine Gets.appNilS (ti := tiI) (n := 1) (xs := ints [g (w.loop.getD 0 0)]) rfl rfl rfl rfl rfl (by decide) ((src_at (xs := [g (w.loop.getD 0 0)]) (n := 1) rfl (.inr rfl)).1) (by decide) (by decide) ?_); conv => whnf) | ((refine Gets.stS (ti := tiS) rfl rfl rfl rfl rfl rfl ?_); conv => whnf) | ((with_reducible refine Gets.addI ?_ ?_ ?_); (· omega); (· omega); conv => whnf) | (refine Chk.mk (by repeat first | exact .nil | refine .cons rfl ?_) ?_; conv => whnf)
        exact ⟨1, renL [0, 1, 2, 3, 4, 7] 8, hkl, by show w.loop.length - 1 < w.loop.length - 0; omega, ⟨rfl, rfl, rfl, rfl, rfl, rfl, trivial⟩, EmbL.litsN [0, 1, 2, 3, 4, 7] rfl rfl rfl rfl (.cons ⟨rfl, .inl ⟨rfl, fun h => h⟩⟩ (.cons ⟨rfl, .inl ⟨rfl, fun h => h⟩⟩ .nil)) (.cons ⟨rfl, .inl rfl⟩ (.cons ⟨rfl, .inl rfl⟩ (.cons ⟨rfl, .inl rfl⟩ (.cons ⟨rfl, .acc2 rfl rfl⟩ (.cons ⟨rfl, .accS⟩ (.cons ⟨rfl, .cellsIe (take_map_one g _ hkl)⟩ .nil))))))⟩
      · conv => whnf
        repeat' first | (refine Gets.ixR1 rfl rfl (by omega) ?_; conv => whnf) | (refine Gets.ldRI rfl (by first | omega | exact Nat.le_of_ble_eq_true rfl) ?_; conv => whnf) | (refine Fork.dec (fun _ => ?_) (fun _ => ?_) <;> first | (exfalso; omega) | (conv => whnf))
        refine CodeS.drawT [3] (.take 0 (.take 1 (.take 2 (.take 3 (.one 4 true (.one 5 true (.one 6 true (.take 7 (.one 8 false .done))))))))) mixed (by kernel_rfl) (.cons ⟨rfl, trivial⟩ .nil) ?_
        conv => whnf
        repeat' (refine Gets.of _ rfl ?_; conv => whnf)
        refine CallPS.of hbf (hg (w.loop.getD (k + 1) 0) hx.1 hx.2 _ rfl) rfl ?_
        rintro _ _ ⟨rfl, rfl⟩
        conv => whnf
        repeat' first | ((refine Gets.appSrc (ti := tiI) (l := (w.loop.take (k + 1)).map g) (xs := [g (w.loop.getD (k + 1) 0)]) (m := k + 1) (n := 1) rfl rfl rfl rfl rfl (by decide) (by rw [List.length_map, List.length_take]; omega) ((src_at (xs := [g (w.loop.getD (k + 1) 0)]) (n := 1) rfl (.inr rfl)).1) rfl (by omega) ?_); conv => whnf) | ((refine Gets.stS (ti := tiS) rfl rfl rfl rfl rfl rfl ?_); conv => whnf) | ((with_reducible refine Gets.addI ?_ ?_ ?_); (· omega); (· omega); conv => whnf) | (refine Chk.mk (by repeat first | exact .nil | refine .cons rfl ?_) ?_; conv => whnf)
        exact ⟨k + 2, renL [0, 1, 2, 3, 4, 7] 8, hkl, by show w.loop.length - (k + 2) < w.loop.length - (k + 1); omega, ⟨rfl, rfl, rfl, rfl, rfl, rfl, trivial⟩, EmbL.litsN [0, 1, 2, 3, 4, 7] rfl rfl rfl rfl (.cons ⟨rfl, .inl ⟨rfl, fun h => h⟩⟩ (.cons ⟨rfl, .inl ⟨rfl, fun h => h⟩⟩ .nil)) (.cons ⟨rfl, .inl rfl⟩ (.cons ⟨rfl, .inl rfl⟩ (.cons ⟨rfl, .inl rfl⟩ (.cons ⟨rfl, .acc2 rfl rfl⟩ (.cons ⟨rfl, .accS⟩ (.cons ⟨rfl, .cellsIe (take_map_next g _ hkl)⟩ .nil))))))⟩
    · obtain rfl : k = w.loop.length := by omega
      rw [List.take_length]
      obtain ⟨t, ht⟩ : ∃ t, w.loop.length = t + 1 := ⟨w.loop.length - 1, by omega⟩
      have hS : (w.stem.map g).length = w.stem.length := List.length_map ..
      have hL : (w.loop.map g).length = t + 1 := by rw [List.length_map, ht]
      rw [ht]
      generalize hs : w.stem.length = s at hS hm
      conv => whnf
      repeat' first | (refine Gets.of _ rfl ?_; conv => whnf) | (refine seq0_of ?_; conv => whnf) | (refine Fork.dec (fun _ => ?_) (fun _ => ?_) <;> first | (exfalso; omega) | (conv => whnf))
      have key : ∀ ks, (s ≠ 0 → ks.contains 4 = true) → ks.contains 5 = true → FrzA (hT w n (w.stem.map g) (w.loop.map g) s (t + 1)) ks [.agg [acc 4 s, .slice 5 0 (t + 1)]] [(mapW g w).rv] := fun ks h1 h2 =>
        .frz (.agg (.cons (frz_acc h1 rfl hS.symm) (.cons (frzI h2 rfl hL.symm) (.same rfl)))) .nil
      have go : ∀ H, CallW Tryd.prog 36 [(mapW g w).rv] H fun r H' => H' = H ∧ r = (nf (mapW g w)).rv := fun H => nfR (mapW g w) (by show (w.stem.map g).length ≤ _; omega) (by show 0 < (w.loop.map g).length; omega) (by show (w.loop.map g).length ≤ _; omega) H
      rcases s with _ | s
      · refine CallS.of (by kernel_rfl) ((go _).argsF [5] rfl (key [5] (fun h => absurd rfl h) rfl)) rfl ?_
        rintro _ _ ⟨rfl, rfl⟩
        conv => whnf
        repeat' (refine Gets.of _ rfl ?_; conv => whnf)
        exact ⟨[], _, rfl, .same rfl, rfl, rfl⟩
      · refine CallS.of (by kernel_rfl) ((go _).argsF [4, 5] rfl (key [4, 5] (fun h => rfl) rfl)) rfl ?_
        rintro _ _ ⟨rfl, rfl⟩
        conv => whnf
        repeat' (refine Gets.of _ rfl ?_; conv => whnf)
        exact ⟨[], _, rfl, .same rfl, rfl, rfl⟩
/-- The same, wherever the word and the number lie. -/
theorem part54a (f : FuncId) (hbf : hasBody Tryd.prog f = true) (g : Int → Int) (w : Wd) (n : Int) (hw : w.Ok 6) (hg : ∀ x, 0 ≤ x → x < 64 → ∀ H : AHeap, (H.f 1).cs = ints [n] → CallW Tryd.prog f [.int .i64 x, .ptr 1 0] H fun v H' => H' = H ∧ v = .int .i64 (g x)) {H : AHeap} (h2 : Nat.ble 2 H.n = true) (h0 : H.f 0 = .cells 1 [rI w.stem, rI w.loop]) (h1 : H.f 1 = .cells 1 (ints [n])) :
    CallW Tryd.prog 54 [.func f [] [.ptr 1 0], .ptr 0 0] H fun v H' => H' = H ∧ v = (nf (mapW g w)).rv := by
  have hn : 2 ≤ H.n := Nat.le_of_ble_eq_true h2
  refine ((part54 f hbf g w n hw hg).readsL (fun v h => clo_noRef v h.1) [0, 1] rfl (.cons ⟨Nat.ble_eq_true_of_le (show 1 ≤ H.n by omega), rfl, ?_⟩ (.cons ⟨Nat.ble_eq_true_of_le (show 2 ≤ H.n by omega), rfl, ?_⟩ .nil))).mono fun v H' h => ⟨h.1, h.2.2⟩
  · show BSub _ (.ro 1 [rI w.stem, rI w.loop]) (H.f 0)
    rw [h0]; exact .roCs rfl
  · show BSub _ (.ro 1 (ints [n])) (H.f 1)
    rw [h1]; exact .roCs rfl
open Classical in
noncomputable def splitW (w : Wd) (n : Int) : Wd × Wd × Int := if w.Ok 6 then (if n < 0 ∨ 6 < n then (errW, errW, 6) else (nf (mapW (modF n.toNat) w), nf (mapW (divF n.toNat) w), 0)) else (errW, errW, 1)
theorem errT2 (e : Int) {H : AHeap} : ToldR (fun v => v = .tuple [errW.rv, errW.rv, .int .i64 e]) (.tuple [.agg [.nilSlice, .nilSlice], .agg [.nilSlice, .nilSlice], .int .i64 e]) H :=
  ⟨[], _, rfl, .tuple (.cons (.agg (.cons (.nil (cs := [])) (.cons (.nil (cs := [])) (.same rfl)))) (.cons (.agg (.cons (.nil (cs := [])) (.cons (.nil (cs := [])) (.same rfl)))) (.cons (.same rfl) (.same rfl)))), rfl, rfl⟩
open Classical in
theorem splitR (w : Wd) (hf : w.Fits) (n : Int) (hn : -9223372036854775808 ≤ n ∧ n ≤ 9223372036854775807) (H : AHeap) : CallW Tryd.prog 33 [w.rv, .int .i64 n] H fun r H' => H' = H ∧ r = .tuple [(splitW w n).1.rv, (splitW w n).2.1.rv, .int .i64 (splitW w n).2.2] := by
  refine CallW.pure ?_ rfl H
  refine CallW.symK (cuts := []) Tryd.func33 rfl (by kernel_rfl) ?_
  conv => whnf
  repeat' (refine Gets.of _ rfl ?_; conv => whnf)
  refine CallS.of (by kernel_rfl) (validR w hf 6 _) rfl ?_
  rintro _ _ ⟨rfl, hp | hp⟩
  rotate_left
  · conv => whnf
    repeat' (refine Gets.of _ rfl ?_; conv => whnf)
    have e : splitW w n = (errW, errW, 1) := if_neg hp
    rw [e]
    exact errT2 1
  have e0 : splitW w n = if n < 0 ∨ 6 < n then (errW, errW, 6) else (nf (mapW (modF n.toNat) w), nf (mapW (divF n.toNat) w), 0) := if_pos hp
  by_cases hb : n < 0 ∨ 6 < n
  · have e : splitW w n = (errW, errW, 6) := by rw [e0]; exact if_pos hb
    rw [e]
    conv => whnf
    repeat' first | (refine Gets.of _ rfl ?_; conv => whnf) | (refine Fork.dec (fun _ => ?_) (fun _ => ?_) <;> first | (exfalso; omega) | (conv => whnf))
    all_goals exact errT2 6
  have e : splitW w n = (nf (mapW (modF n.toNat) w), nf (mapW (divF n.toNat) w), 0) := by rw [e0]; exact if_neg hb
  rw [e]
  obtain ⟨n, rfl⟩ : ∃ n' : Nat, n = (n' : Int) := ⟨n.toNat, by omega⟩
  rw [Int.toNat_natCast]
  conv => whnf
  repeat' first | (refine Gets.of _ rfl ?_; conv => whnf) | (refine Fork.noR rfl ?_; conv => whnf) | (refine Fork.dec (fun _ => ?_) (fun _ => ?_) <;> first | (exfalso; omega) | (conv => whnf))
  refine CallS.of (by kernel_rfl) (part54a 55 (by kernel_rfl) (modF n) w n hp (fun x a b H hf => split2 n (by omega) x a b H 1 hf) rfl rfl rfl) rfl ?_
  rintro _ _ ⟨rfl, rfl⟩
  conv => whnf
  skip
  refine CallS.of (by kernel_rfl) (part54a 56 (by kernel_rfl) (divF n) w n hp (fun x a b H hf => split3 n (by omega) x a b H 1 hf) rfl rfl rfl) rfl ?_
  rintro _ _ ⟨rfl, rfl⟩
  conv => whnf
  repeat' (refine Gets.of _ rfl ?_; conv => whnf)
  exact ⟨[], _, rfl, .same rfl, rfl, rfl⟩
end Go.Proofs.YthjemhlcojmiaaaDoor
