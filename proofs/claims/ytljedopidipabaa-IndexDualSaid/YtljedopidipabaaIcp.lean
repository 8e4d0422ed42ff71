/- Clone, Copy, Widen, Same. -/
import Derived.Test.YtljedopidipabaaIva
-- VkG VkH VmA
set_option linter.unusedVariables false
set_option linter.unusedSimpArgs false
set_option maxRecDepth 100000
set_option maxHeartbeats 4000000
namespace Go.Proofs.Ytljedopidipabaa
open Go Go.Vh Go.Vk Go.Proofs
theorem _root_.Go.Vh.CallW.nilOrK {P : Program} {f : FuncId} {i off n : Nat} {rest : List AVal} {H : AHeap} {K : AVal → AHeap → Prop} (h1 : CallW P f (.slice i off n :: rest) H K) (h2 : n = 0 → CallW P f (.nilSlice :: rest) H K) : CallW P f (.view i off n :: rest) H K :=
  CallW.viewsOr h1 h2 fun φ w cs hR hv => by
    cases cs with
    | nil => simp [VRels] at hv
    | cons c cs =>
      obtain ⟨a, b⟩ := VRels_cons.1 hv
      obtain ⟨bi, hb, ⟨h0, h⟩ | ⟨cap, ad, h3, h4, h5⟩⟩ := a
      · exact .inr ⟨h0, VRels_cons.2 ⟨h, b⟩⟩
      · exact .inl (VRels_cons.2 ⟨⟨bi, cap, ad, hb, h3, h4, h5⟩, b⟩)
theorem cloneR (l : List Int) (hl : l.length ≤ 4294967296) (H : AHeap) : CallW Try.prog 30 [rI l] H fun v H' => H' = H ∧ v = rI l := by
  rcases l with _ | ⟨x, l⟩
  · refine CallW.toRows (ls := [[]]) (args := [.view 0 0 0]) (G := ros [[]]) (K := fun v => v = rI []) ?_ rfl (.row .nil) H
    refine CallW.nilOrK ?_ fun _ => ?_
    · refine CallW.symK (cuts := []) Try.func30 rfl (by kernel_rfl) ?_
      conv => whnf
      repeat' first | (refine Gets.of _ rfl ?_; conv => whnf) | (refine Fork.noR rfl ?_; conv => whnf)
      exact ⟨[], rI [], rfl, .slice0, rfl, rfl⟩
    · refine CallW.symK (cuts := []) Try.func30 rfl (by kernel_rfl) ?_
      conv => whnf
      repeat' (refine Fork.yesR rfl ?_; conv => whnf)
      exact ⟨[], rI [], rfl, .nil, rfl, rfl⟩
  · have h0 : (x :: l).length ≠ 0 := by simp
    refine CallW.pure ?_ rfl H
    refine CallW.symK (cuts := []) Try.func30 rfl (by kernel_rfl) ?_
    conv => whnf
    repeat' (refine Fork.noR rfl ?_; conv => whnf)
    refine Gets.appSrc (ti := tiI) (l := []) (xs := x :: l) (m := 0) (n := (x :: l).length) rfl rfl rfl rfl rfl (by decide) (Nat.le_refl _) (src_row rfl) rfl (by omega) ?_
    conv => whnf
    skip
    exact ⟨[1], rI (x :: l), rfl, frzI rfl rfl (by omega), rfl, rfl⟩
theorem Gets.copyR {P : Program} {H : AHeap} {t tx : TypeId} {ti : TI} {i n es : Nat} {l m : List Int} {A : AVal × AHeap → Prop} (ht : sliceT P t = some ti) (hsz : ti.size = es) (hi : H.f i = .cells es (ints m)) (hl : l.length = n * es) (hm : m.length = n * es)
    (hA : A (.int .i64 (n : Int), H.set i (.cells es (ints l)))) : Gets (builtA P H .copy [t, tx] [.slice i 0 n, .row n (ints l)]) A := by
  refine ⟨⟨_, ?_, hA⟩⟩
  have hsrc : srcA H es (.row n (ints l)) = some (ints l, n) := by simp only [srcA, ints_length, hl, if_true]
  have htk : (ints l).take (min n n * es) = ints l := List.take_of_length_le (by rw [ints_length, hl, Nat.min_self]; exact Nat.le_refl _)
  simp only [builtA, apureB, amemB, acopy, ht, hsz, hsrc, hi, if_true, htk, AHeap.store, ints_length, hl, hm, Nat.zero_add, Nat.le_refl, true_and]
  have hsc : (ints l).all AVal.scalar = true := nums_scalar _ _
  rw [if_pos hsc, Option.map_some, Nat.min_self]
  congr 4
  rw [List.take_zero, List.nil_append, List.drop_eq_nil_of_le (by rw [ints_length, hm]; exact Nat.le_refl _), List.append_nil]
theorem copyA (a : Au) (hns : a.start.length ≤ 4294967296) (hne : a.es.length ≤ 4294967296) (H : AHeap) : CallW Try.prog 16 [a.rv] H fun v H' => H' = H ∧ v = a.rv := by
  refine CallW.pure ?_ rfl H
  refine CallW.symK (cuts := []) Try.func16 rfl (by kernel_rfl) ?_
  conv => whnf
  repeat' (refine Gets.of _ rfl ?_; conv => whnf)
  refine CallS.of (by kernel_rfl) (cloneR a.start hns _) rfl ?_
  rintro _ _ ⟨rfl, rfl⟩
  conv => whnf
  repeat' first | ((refine Gets.makeE (k := 5) rfl rfl (by decide) rfl (by decide) (by omega) (by omega) ?_); conv => whnf) | ((refine Gets.copyR (es := 5) (l := flat a.es) rfl rfl rfl (flat_length _) List.length_replicate ?_); conv => whnf) | ((refine Gets.stS rfl rfl rfl rfl rfl rfl ?_); conv => whnf) | (refine Gets.of _ rfl ?_; conv => whnf)
  exact ⟨[3], a.rv, rfl, .agg (.cons (.same rfl) (.cons (.same rfl) (.cons (.same rfl) (.cons (.same rfl) (.cons (.same rfl) (.cons (frzE rfl rfl rfl) (.same rfl))))))), rfl, rfl⟩
def errA : Au := ⟨0, 0, [], 0, 0, []⟩
theorem errE (e : Int) {H : AHeap} : ToldR (fun v => v = .tuple [errA.rv, .int .i64 e]) (.tuple [.agg [.int .i64 0, .int .i64 0, .nilSlice, .int .i64 0, .int .i64 0, .nilSlice], .int .i64 e]) H :=
  ⟨[], _, rfl, .tuple (.cons (.agg (.cons (.same rfl) (.cons (.same rfl) (.cons .nil (.cons (.same rfl) (.cons (.same rfl) (.cons .nil (.same rfl)))))))) (.same rfl)), rfl, rfl⟩
theorem start_len {a : Au} (h : a.Ok) : a.start.length ≤ 3000 := by
  have key : ∀ j : Nat, j < a.start.length → (j : Int) ≤ a.start.getD j 0 := by
    intro j
    induction j with
    | zero => intro hj; exact (h.st 0 hj).1
    | succ j ih =>
      intro hj
      have h1 := ih (by omega)
      have h2 := (h.st (j + 1) hj).2.2 (by omega)
      rw [show j + 1 - 1 = j from rfl] at h2
      omega
  rcases Nat.eq_zero_or_pos a.start.length with h0 | h0
  · omega
  · have h1 := key (a.start.length - 1) (by omega)
    have h2 := (h.st (a.start.length - 1) (by omega)).2.1
    have h3 := h.s1
    omega
/-- Equal lists. -/
theorem listR (l m : List Int) (hl : l.length ≤ 4611686018427387904) (hm : m.length ≤ 4611686018427387904) (H : AHeap) : CallW Try.prog 20 [rI l, rI m] H fun v H' => H' = H ∧ IsB v (l = m) := by
  refine CallW.pure ?_ rfl H
  refine CallW.symK (cuts := []) Try.func20 rfl (by kernel_rfl) ?_
  conv => whnf
  repeat' first | (refine Gets.of _ rfl ?_; conv => whnf) | (refine Fork.neI (fun _ => ?_) (fun _ => ?_) <;> first | (exfalso; omega) | (conv => whnf))
  · exact ⟨[], _, rfl, .same rfl, rfl, .f (fun h => by subst h; omega)⟩
  refine CodeS.loopSK (cuts := []) (σ := Nat) (fun j => [(0, rI l), (1, rI m), (12, .int .i64 (l.length : Int)), (13, .int .i64 (j : Int))]) (fun _ => emptyH) (fun j => j ≤ l.length ∧ ∀ j', j' < j → l.getD j' 0 = m.getD j' 0) (fun j => l.length - j) 0 (by kernel_rfl) ⟨Nat.zero_le _, fun j' h => absurd h (Nat.not_lt_zero _)⟩ ⟨rfl, rfl, rfl, rfl, trivial⟩ rfl ?_
  rintro j ⟨hj, hall⟩
  rcases Nat.lt_or_ge j l.length with hjl | hjl
  · have hnext : l.getD j 0 = m.getD j 0 → ∀ j', j' < j + 1 → l.getD j' 0 = m.getD j' 0 := fun h j' hj' => by
      rcases Nat.lt_or_ge j' j with h1 | h1
      · exact hall j' h1
      · obtain rfl : j' = j := by omega
        exact h
    conv => whnf
    repeat' (refine Fork.dec (fun _ => ?_) (fun _ => ?_) <;> first | (exfalso; omega) | (conv => whnf))
    refine CodeS.drawP (by kernel_rfl) (by kernel_rfl) ?_
    conv => whnf
    repeat' first | ((with_reducible refine Gets.addI ?_ ?_ ?_); (· omega); (· omega); conv => whnf) | (refine Gets.ixR1 rfl rfl (by omega) ?_; conv => whnf) | (refine Gets.ldRI rfl (by first | omega | exact Nat.le_of_ble_eq_true rfl) ?_; conv => whnf) | (refine Fork.neI (fun _ => ?_) (fun _ => ?_) <;> first | (exfalso; omega) | (conv => whnf))
    all_goals first
      | exact ⟨[], _, rfl, .same rfl, rfl, .f (fun h => by subst h; rename_i g; exact absurd rfl g)⟩
      | exact ⟨j + 1, ⟨hjl, hnext (by omega)⟩, by show l.length - (j + 1) < _; omega, ⟨rfl, rfl, rfl, rfl, trivial⟩, rfl⟩
  · obtain rfl : j = l.length := by omega
    conv => whnf
    repeat' (refine Fork.dec (fun _ => ?_) (fun _ => ?_) <;> first | (exfalso; omega) | (conv => whnf))
    refine ⟨[], _, rfl, .same rfl, rfl, .t (List.ext_getElem (by omega) fun j' h1 h2 => ?_)⟩
    have := hall j' h1
    rwa [List.getD_eq_getElem?_getD, List.getD_eq_getElem?_getD, List.getElem?_eq_getElem h1, List.getElem?_eq_getElem h2] at this
end Go.Proofs.Ytljedopidipabaa
