/- Loops, as the program makes them. -/
import Derived.Test.YthjemhlcojmiaaaDoorWlo
-- VkG VkH
set_option linter.unusedVariables false
set_option linter.unusedSimpArgs false
set_option maxRecDepth 100000
set_option maxHeartbeats 1000000
namespace Go.Proofs.YthjemhlcojmiaaaDoor
open Go Go.Vh Go.Vk Go.Proofs
/-- The first letters of a loop that goes on and on. -/
def cyc (l : List Int) : Nat → List Int
  | 0 => []
  | k + 1 => cyc l k ++ [l.getD (k % l.length) 0]
theorem cyc_length (l : List Int) : ∀ k, (cyc l k).length = k
  | 0 => rfl
  | k + 1 => by rw [cyc, List.length_append, cyc_length l k]; rfl
theorem cyc_rep (l : List Int) (h0 : 0 < l.length) : ∀ k, cyc l (k * l.length) = rep l k
  | 0 => by rw [Nat.zero_mul]; rfl
  | k + 1 => by
    have : ∀ j, j ≤ l.length → cyc l (k * l.length + j) = rep l k ++ l.take j := by
      intro j
      induction j with
      | zero => intro _; rw [Nat.add_zero, cyc_rep l h0 k]; simp
      | succ j ih =>
        intro hj
        rw [← Nat.add_assoc, cyc, ih (by omega), List.append_assoc]
        congr 1
        rw [show (k * l.length + j) % l.length = j by rw [Nat.add_comm, Nat.add_mul_mod_self_right]; exact Nat.mod_eq_of_lt (by omega), List.getD_eq_getElem?_getD, List.getElem?_eq_getElem (by omega), List.take_add_one, List.getElem?_eq_getElem (by omega)]
        rfl
    rw [Nat.succ_mul, this _ (Nat.le_refl _), List.take_length]
    rfl
theorem all48 (l : List Int) : CallW Tryd.prog 48 [.agg [.nilSlice, .view 0 0 l.length]] (emptyH.alloc (.ro 1 (ints l))) fun v H' => v = .func 60 [] [.ptr 1 0] ∧ H' = (emptyH.alloc (.ro 1 (ints l))).alloc (.cells 1 [.nilSlice, .view 0 0 l.length]) := by
  refine CallW.symK (cuts := []) Tryd.func48 rfl (by kernel_rfl) ?_
  conv => whnf
  skip
  exact ⟨rfl, rfl⟩
def rangeOf : Code → Option (Code × Code)
  | .rangeFunc _ _ a b => some (a, b)
  | .seq a b => match rangeOf a with
    | some x => some x
    | none => rangeOf b
  | .block _ c => rangeOf c
  | _ => none
noncomputable def code24 : Code × Code := ((Tryd.f24.body.bind rangeOf)).getD (.skip, .skip)
noncomputable def loop24 : ALoop := ⟨envOf [(2, .ptr 2 0), (3, .ptr 3 0), (4, .ptr 4 0), (6, .ptr 6 0)], 51, [34], code24.1, code24.2, none, .ready⟩
/-- The memory when the range begins. -/
noncomputable def A0 (w : Wd) (n : Nat) : AHeap := ⟨9, fun i => match i with
  | 2 => .cells 1 [.view 0 0 w.stem.length, .view 1 0 w.loop.length] | 3 => .cells 1 [.int .i64 (n : Int)] | 4 => .cells 1 [.nilSlice, .nilSlice] | 5 => vB w.stem | 6 => .cells 1 [.view 5 0 w.stem.length, .nilSlice] | 7 => .cells 1 [.nilSlice, .view 1 0 w.loop.length] | 8 => .loop loop24
  | i => (wh w.stem w.loop).f i, fun _ => 0⟩
/-- Between two letters. -/
noncomputable def A1 (w : Wd) (n : Nat) (acc : List Int) (v : Nat) : AHeap := ⟨10, fun i => match i with
  | 6 => .cells 1 [.view 5 0 w.stem.length, .slice 9 0 acc.length] | 9 => .cells 1 (ints acc)
  | i => (A0 w n).f i, fun i => match i with | 6 => v | 8 => v | _ => 0⟩
/-- At the end. -/
noncomputable def A2 (w : Wd) (n : Nat) (acc : List Int) (v : Nat) : AHeap := ⟨10, fun i => match i with
  | 8 => .loop { loop24 with pending := some (.exit 0), state := .done }
  | i => (A1 w n acc v).f i, (A1 w n acc v).ver⟩
noncomputable def AS (w : Wd) (n : Nat) (v : Nat) : Nat → AHeap
  | 0 => A0 w n
  | i + 1 => A1 w n (cyc w.loop (i + 1)) v
theorem all60 (w : Wd) (hp : w.Ok 6) (n : Nat) (h1 : 1 ≤ n) (hn : n ≤ 200) : CallW Tryd.prog 60 [.yield 8, .ptr 7 0] (A0 w n) fun v H' => v = .tuple [] ∧ ∃ v', H' = A2 w n (rep w.loop n) v' := by
  have hm := hp.m
  have h0 := hp.p
  have hkl : 1 * w.loop.length ≤ n * w.loop.length := Nat.mul_le_mul_right _ h1
  have hkr : n * w.loop.length ≤ 200 * w.loop.length := Nat.mul_le_mul_right _ hn
  have hki : (n : Int) * (w.loop.length : Int) = ((n * w.loop.length : Nat) : Int) := rfl
  refine CallW.symRK (cuts := []) Tryd.func60 rfl (by kernel_rfl) ?_
  conv => whnf
  repeat' (refine Gets.of _ rfl ?_; conv => whnf)
  refine CodeS.loopSK (cuts := []) (σ := Unit) (fun _ => [(0, .yield 8), (1, .ptr 7 0), (7, .nilSlice), (8, .int .i64 0), (9, .int .i64 0)]) (fun _ => A0 w n) (fun _ => True) (fun _ => 0) () (by kernel_rfl) trivial ⟨rfl, rfl, rfl, rfl, rfl, trivial⟩ rfl ?_
  rintro _ _
  conv => whnf
  repeat' (refine Fork.noR rfl ?_; conv => whnf)
  refine CodeS.loopGK (cuts := []) (σ := Nat × Nat) (fun s => [(0, .yield 8), (1, .ptr 7 0), (5, .int .i64 ((s.1 % w.loop.length : Nat) : Int))]) (fun s => AS w n s.2 s.1) (fun s => s.1 ≤ n * w.loop.length) (fun s => n * w.loop.length + 1 - s.1) (0, 0) (renL [0, 1, 2, 3, 4, 5, 6, 7, 8] 9) (by kernel_rfl) (Nat.zero_le _) ⟨rfl, rfl, by rw [Nat.zero_mod]; rfl, trivial⟩ (EmbL.litsN [0, 1, 2, 3, 4, 5, 6, 7, 8] rfl rfl rfl rfl (.cons ⟨rfl, .inl ⟨rfl, fun h => h⟩⟩ (.cons ⟨rfl, .inl ⟨rfl, fun h => h⟩⟩ (.cons ⟨rfl, .inl ⟨rfl, fun h => h⟩⟩ (.cons ⟨rfl, .inl ⟨rfl, fun h => h⟩⟩ (.cons ⟨rfl, .inl ⟨rfl, fun h => h⟩⟩ (.cons ⟨rfl, .inl ⟨rfl, fun h => h⟩⟩ (.cons ⟨rfl, .inl ⟨rfl, fun h => h⟩⟩ (.cons ⟨rfl, .inl ⟨rfl, fun h => h⟩⟩ (.cons ⟨rfl, .inl ⟨rfl, fun h => h⟩⟩ .nil))))))))) (.cons ⟨rfl, .roI⟩ (.cons ⟨rfl, .roI⟩ (.cons ⟨rfl, .inl rfl⟩ (.cons ⟨rfl, .inl rfl⟩ (.cons ⟨rfl, .inl rfl⟩ (.cons ⟨rfl, .vS rfl⟩ (.cons ⟨rfl, .inl rfl⟩ (.cons ⟨rfl, .inl rfl⟩ (.cons ⟨rfl, .loopE rfl⟩ .nil)))))))))) ?_
  rintro ⟨i, v⟩ g1
  dsimp only at g1 ⊢
  have hmod := Nat.mod_lt i h0
  have e6 : (((i % w.loop.length : Nat) : Int) + 1) % (w.loop.length : Int) = (((i + 1) % w.loop.length : Nat) : Int) := by
    rw [show (i + 1) % w.loop.length = (i % w.loop.length + 1) % w.loop.length from (Nat.mod_add_mod _ _ _).symm]; rfl
  rcases i with _ | i
  · conv => whnf
    repeat' first | (refine Gets.of _ rfl ?_; conv => whnf) | (refine Gets.ix1v rfl rfl (by omega) ?_; conv => whnf) | (refine Gets.ldI rfl (by first | rfl | assumption) (by first | omega | exact Nat.le_of_ble_eq_true rfl) ?_; conv => whnf)
    refine CallS.roundRK (cuts := []) (r := loop24) rfl rfl (by kernel_rfl) ?_
    intro ρ
    conv => whnf
    skip
    refine ⟨loop24, rfl, rfl, ?_⟩
    conv => whnf
    repeat' first | ((refine Gets.stS (ti := tiS) rfl rfl rfl rfl rfl rfl ?_); conv => whnf) | ((with_reducible refine Gets.mulI ?_ ?_ ?_); (· omega); (· omega); conv => whnf) | (refine Gets.of _ rfl ?_; conv => whnf) | (refine Fork.dec (fun _ => ?_) (fun _ => ?_) <;> first | (exfalso; omega) | (conv => whnf))
    refine ⟨_, rfl, fun i => i, .bool true, _, EmbL.id (Nat.le_of_ble_eq_true rfl), rfl, ?_⟩
    conv => whnf
    repeat' first | ((with_reducible refine Gets.remN ?_ ?_ ?_); (· omega); (· omega); conv => whnf) | ((with_reducible refine Gets.addI ?_ ?_ ?_); (· omega); (· omega); conv => whnf) | (refine Gets.of _ rfl ?_; conv => whnf)
    rw [e6]
    skip
    exact ⟨(1, 3), renL [0, 1, 2, 3, 4, 5, 6, 7, 8, 10] 11, by show 1 ≤ _; omega, by show _ - 1 < _ - 0; omega, ⟨rfl, rfl, rfl, trivial⟩, EmbL.litsN [0, 1, 2, 3, 4, 5, 6, 7, 8, 10] rfl rfl rfl rfl (.cons ⟨rfl, .inl ⟨rfl, fun h => h⟩⟩ (.cons ⟨rfl, .inl ⟨rfl, fun h => h⟩⟩ (.cons ⟨rfl, .inl ⟨rfl, fun h => h⟩⟩ (.cons ⟨rfl, .inl ⟨rfl, fun h => h⟩⟩ (.cons ⟨rfl, .inl ⟨rfl, fun h => h⟩⟩ (.cons ⟨rfl, .inl ⟨rfl, fun h => h⟩⟩ (.cons ⟨rfl, .inr (Nat.le_of_ble_eq_true rfl)⟩ (.cons ⟨rfl, .inl ⟨rfl, fun h => h⟩⟩ (.cons ⟨rfl, .inr (Nat.le_of_ble_eq_true rfl)⟩ .nil))))))))) (.cons ⟨rfl, .roI⟩ (.cons ⟨rfl, .roI⟩ (.cons ⟨rfl, .inl rfl⟩ (.cons ⟨rfl, .inl rfl⟩ (.cons ⟨rfl, .inl rfl⟩ (.cons ⟨rfl, .vS rfl⟩ (.cons ⟨rfl, .inl rfl⟩ (.cons ⟨rfl, .inl rfl⟩ (.cons ⟨rfl, .loopE rfl⟩ (.cons ⟨rfl, .cellsI⟩ .nil))))))))))⟩
  · have hcl := cyc_length w.loop (i + 1)
    have hcs : cyc w.loop (i + 2) = cyc w.loop (i + 1) ++ [w.loop.getD ((i + 1) % w.loop.length) 0] := rfl
    conv => whnf
    repeat' first | (refine Gets.of _ rfl ?_; conv => whnf) | (refine Gets.ix1v rfl rfl (by omega) ?_; conv => whnf) | (refine Gets.ldI rfl (by first | rfl | assumption) (by first | omega | exact Nat.le_of_ble_eq_true rfl) ?_; conv => whnf)
    refine CallS.roundRK (cuts := []) (r := loop24) rfl rfl (by kernel_rfl) ?_
    intro ρ
    conv => whnf
    skip
    refine ⟨loop24, rfl, rfl, ?_⟩
    rcases (by omega : i + 1 = n * w.loop.length ∨ i + 1 < n * w.loop.length) with hi | hi
    · conv => whnf
      repeat' first | ((with_reducible refine Gets.mulI ?_ ?_ ?_); (· omega); (· omega); conv => whnf) | (refine Gets.of _ rfl ?_; conv => whnf) | (refine Fork.dec (fun _ => ?_) (fun _ => ?_) <;> first | (exfalso; omega) | (conv => whnf))
      refine ⟨_, rfl, ?_⟩
      conv => whnf
      skip
      have hrep : cyc w.loop (i + 1) = rep w.loop n := by rw [hi, cyc_rep _ h0]
      refine ⟨fun i => i, .bool false, _, EmbL.id (Nat.le_of_ble_eq_true rfl), rfl, ?_⟩
      conv => whnf
      skip
      rw [← hrep]
      exact ⟨renL [0, 1, 2, 3, 4, 5, 6, 7, 8, 9] 10, .tuple [], A2 w n (cyc w.loop (i + 1)) (v + 3), EmbL.litsN [0, 1, 2, 3, 4, 5, 6, 7, 8, 9] rfl rfl rfl rfl (.cons ⟨rfl, .inl ⟨rfl, fun h => h⟩⟩ (.cons ⟨rfl, .inl ⟨rfl, fun h => h⟩⟩ (.cons ⟨rfl, .inl ⟨rfl, fun h => h⟩⟩ (.cons ⟨rfl, .inl ⟨rfl, fun h => h⟩⟩ (.cons ⟨rfl, .inl ⟨rfl, fun h => h⟩⟩ (.cons ⟨rfl, .inl ⟨rfl, fun h => h⟩⟩ (.cons ⟨rfl, .inr (by first | exact verLt (v := v) (k := 0) (m := 3) rfl rfl | exact verLt (v := v) (k := 1) (m := 3) rfl rfl | exact verLt (v := v) (k := 2) (m := 3) rfl rfl)⟩ (.cons ⟨rfl, .inl ⟨rfl, fun h => h⟩⟩ (.cons ⟨rfl, .inr (by first | exact verLt (v := v) (k := 0) (m := 3) rfl rfl | exact verLt (v := v) (k := 1) (m := 3) rfl rfl | exact verLt (v := v) (k := 2) (m := 3) rfl rfl)⟩ .nil))))))))) (.cons ⟨rfl, .roI⟩ (.cons ⟨rfl, .roI⟩ (.cons ⟨rfl, .inl rfl⟩ (.cons ⟨rfl, .inl rfl⟩ (.cons ⟨rfl, .inl rfl⟩ (.cons ⟨rfl, .vS rfl⟩ (.cons ⟨rfl, .inl rfl⟩ (.cons ⟨rfl, .inl rfl⟩ (.cons ⟨rfl, .loopE rfl⟩ (.cons ⟨rfl, .cellsIe (l := cyc w.loop (i + 1)) (l' := cyc w.loop (i + 1)) rfl⟩ .nil)))))))))), rfl, rfl, v + 3, rfl⟩
    · conv => whnf
      repeat' first | ((with_reducible refine Gets.mulI ?_ ?_ ?_); (· omega); (· omega); conv => whnf) | (refine Gets.of _ rfl ?_; conv => whnf) | (refine Fork.dec (fun _ => ?_) (fun _ => ?_) <;> first | (exfalso; omega) | (conv => whnf))
      refine Gets.appSrc (ti := tiI) (l := cyc w.loop (i + 1)) (xs := [w.loop.getD ((i + 1) % w.loop.length) 0]) (m := (cyc w.loop (i + 1)).length) (n := 1) rfl rfl rfl rfl rfl (by decide) (Nat.le_refl _) ((src_at (xs := [w.loop.getD ((i + 1) % w.loop.length) 0]) (n := 1) rfl (.inr rfl)).1) rfl (by omega) ?_
      rw [List.take_length, ← hcs, show (cyc w.loop (i + 1)).length + 1 = (cyc w.loop (i + 2)).length by rw [hcl, cyc_length]]
      conv => whnf
      repeat' ((refine Gets.stS (ti := tiS) rfl rfl rfl rfl rfl rfl ?_); conv => whnf)
      refine ⟨_, rfl, fun i => i, .bool true, _, EmbL.id (Nat.le_of_ble_eq_true rfl), rfl, ?_⟩
      conv => whnf
      repeat' first | ((with_reducible refine Gets.remN ?_ ?_ ?_); (· omega); (· omega); conv => whnf) | ((with_reducible refine Gets.addI ?_ ?_ ?_); (· omega); (· omega); conv => whnf) | (refine Gets.of _ rfl ?_; conv => whnf)
      rw [e6]
      skip
      exact ⟨(i + 2, v + 3), renL [0, 1, 2, 3, 4, 5, 6, 7, 8, 11] 12, by show i + 2 ≤ _; omega, by show _ - (i + 2) < _ - (i + 1); omega, ⟨rfl, rfl, rfl, trivial⟩, EmbL.litsN [0, 1, 2, 3, 4, 5, 6, 7, 8, 11] rfl rfl rfl rfl (.cons ⟨rfl, .inl ⟨rfl, fun h => h⟩⟩ (.cons ⟨rfl, .inl ⟨rfl, fun h => h⟩⟩ (.cons ⟨rfl, .inl ⟨rfl, fun h => h⟩⟩ (.cons ⟨rfl, .inl ⟨rfl, fun h => h⟩⟩ (.cons ⟨rfl, .inl ⟨rfl, fun h => h⟩⟩ (.cons ⟨rfl, .inl ⟨rfl, fun h => h⟩⟩ (.cons ⟨rfl, .inr (by first | exact verLt (v := v) (k := 0) (m := 3) rfl rfl | exact verLt (v := v) (k := 1) (m := 3) rfl rfl | exact verLt (v := v) (k := 2) (m := 3) rfl rfl)⟩ (.cons ⟨rfl, .inl ⟨rfl, fun h => h⟩⟩ (.cons ⟨rfl, .inr (by first | exact verLt (v := v) (k := 0) (m := 3) rfl rfl | exact verLt (v := v) (k := 1) (m := 3) rfl rfl | exact verLt (v := v) (k := 2) (m := 3) rfl rfl)⟩ .nil))))))))) (.cons ⟨rfl, .roI⟩ (.cons ⟨rfl, .roI⟩ (.cons ⟨rfl, .inl rfl⟩ (.cons ⟨rfl, .inl rfl⟩ (.cons ⟨rfl, .inl rfl⟩ (.cons ⟨rfl, .vS rfl⟩ (.cons ⟨rfl, .inl rfl⟩ (.cons ⟨rfl, .inl rfl⟩ (.cons ⟨rfl, .loopE rfl⟩ (.cons ⟨rfl, .cellsIe (l := cyc w.loop (i + 2)) (l' := cyc w.loop (i + 2)) rfl⟩ .nil))))))))))⟩
theorem _root_.Go.Vh.BSub.toVm {κ κ' : Nat → Nat} {l : List Int} : BSub κ (vB l) (match (vB l).rwB with | true => renB κ' (vB l) | false => vB l) := by
  cases l with
  | nil => exact .vS (l := []) (l' := []) rfl
  | cons x l => exact .toV (l := x :: l)
open Classical in
noncomputable def outK (w : Wd) (k : Int) : Pw × Int := if w.Ok 6 then (if k < 1 then (errP, 6) else if 200 < (w.stem.length : Int) + k * (w.loop.length : Int) then (errP, 3) else (⟨w.stem, w.stem.length, rep w.loop k.toNat⟩, 0)) else (errP, 1)
theorem loops24 (w : Wd) (hf : w.Fits) (k : Int) (hk : k ≤ 9223372036854775807) (hk' : -9223372036854775808 ≤ k) : CallW Tryd.prog 24 [w.av 0 1, .int .i64 k] (wh w.stem w.loop) (Makes w (outK w k)) := by
  unfold Makes
  refine CallW.tells ?_
  refine CallW.symRK (cuts := []) Tryd.func24 rfl (by kernel_rfl) ?_
  conv => whnf
  repeat' (refine Gets.of _ rfl ?_; conv => whnf)
  refine CallS.of (by kernel_rfl) (valid26a w hf 6 (.roB rfl rfl) (.roB rfl rfl)) rfl ?_
  rintro _ _ ⟨rfl, hp | hp⟩
  all_goals conv => whnf
  all_goals unfold outK
  · rw [if_pos hp]
    have hm := hp.m
    have h0 := hp.p
    rcases (by omega : k < 1 ∨ 1 ≤ k) with hk0 | hk0
    · repeat' first | (refine Gets.of _ rfl ?_; conv => whnf) | (refine Fork.dec (fun _ => ?_) (fun _ => ?_) <;> first | (exfalso; omega) | (conv => whnf))
      rw [if_pos hk0]
      exact ⟨renL [0, 1, 2, 4] 5, .tuple [.agg [.nilSlice, .nilSlice], .int .i64 6], ((wh w.stem w.loop).alloc (vB [])).alloc (vB []), EmbL.litsN [0, 1, 2, 4] rfl rfl rfl rfl (.cons ⟨rfl, .inl ⟨rfl, fun h => h⟩⟩ (.cons ⟨rfl, .inl ⟨rfl, fun h => h⟩⟩ .nil)) (.cons ⟨rfl, .roI⟩ (.cons ⟨rfl, .roI⟩ (.cons ⟨rfl, .roEc⟩ (.cons ⟨rfl, .roEc⟩ .nil)))), rfl, _, ⟨rfl, rfl⟩, Tells.tup (.cons (Tells.agg (.cons (Tells.nilView rfl) (.cons (Tells.nilView rfl) .nil))) (.cons (Tells.refl _ _) .nil))⟩
    · rw [if_neg (by omega)]
      obtain ⟨n, rfl⟩ : ∃ n : Nat, k = (n : Int) := ⟨k.toNat, by omega⟩
      rw [show ((n : Int)).toNat = n from rfl]
      have hdi : (200 - (w.stem.length : Int)) / (w.loop.length : Int) = (((200 - w.stem.length) / w.loop.length : Nat) : Int) := by rw [show (200 : Int) - (w.stem.length : Int) = ((200 - w.stem.length : Nat) : Int) by omega]; rfl
      have hdv : (200 - w.stem.length) / w.loop.length < n ↔ 200 - w.stem.length < n * w.loop.length := Nat.div_lt_iff_lt_mul h0
      repeat' first | (refine Gets.of _ rfl ?_; conv => whnf) | (refine Fork.dec (fun _ => ?_) (fun _ => ?_) <;> first | (exfalso; omega) | (conv => whnf))
      refine CodeS.drawT [2, 3] (.take 0 (.take 1 (.take 2 (.take 3 (.take 4 (.take 5 (.take 6 (.take 7 (.take 8 (.take 9 .done)))))))))) mixed (by kernel_rfl) (.cons ⟨rfl, trivial⟩ (.cons ⟨rfl, trivial⟩ .nil)) ?_
      conv => whnf
      repeat' first | ((with_reducible refine Gets.quoI ?_ ?_ ?_ ?_); (· omega); (· omega); (· omega); conv => whnf) | ((with_reducible refine Gets.subI ?_ ?_ ?_); (· omega); (· omega); conv => whnf) | (refine Gets.of _ rfl ?_; conv => whnf) | (refine Fork.dec (fun _ => ?_) (fun _ => ?_) <;> first | (exfalso; omega) | (conv => whnf))
      · rename_i hgt
        rw [hdi] at hgt
        rw [if_pos (show 200 < (w.stem.length : Int) + (n : Int) * (w.loop.length : Int) by have := hdv.1 (by omega); omega)]
        exact ⟨renL [0, 1, 2, 4] 5, .tuple [.agg [.nilSlice, .nilSlice], .int .i64 3], ((wh w.stem w.loop).alloc (vB [])).alloc (vB []), EmbL.litsN [0, 1, 2, 4] rfl rfl rfl rfl (.cons ⟨rfl, .inl ⟨rfl, fun h => h⟩⟩ (.cons ⟨rfl, .inl ⟨rfl, fun h => h⟩⟩ .nil)) (.cons ⟨rfl, .roI⟩ (.cons ⟨rfl, .roI⟩ (.cons ⟨rfl, .roEc⟩ (.cons ⟨rfl, .roEc⟩ .nil)))), rfl, _, ⟨rfl, rfl⟩, Tells.tup (.cons (Tells.agg (.cons (Tells.nilView rfl) (.cons (Tells.nilView rfl) .nil))) (.cons (Tells.refl _ _) .nil))⟩
      · rename_i hgt
        rw [hdi] at hgt
        have hle : n * w.loop.length ≤ 200 - w.stem.length := Nat.le_of_not_lt fun h => hgt (by have := hdv.2 h; omega)
        have hnm : n * 1 ≤ n * w.loop.length := Nat.mul_le_mul_left _ h0
        rw [if_neg (show ¬ 200 < (w.stem.length : Int) + (n : Int) * (w.loop.length : Int) by omega)]
        refine CallS.of (by kernel_rfl) (clone47a w.stem 0 w.stem.length (by omega) (by omega) (.roB rfl rfl)) rfl ?_
        rintro _ _ ⟨rfl, rfl⟩
        rw [show (w.stem.drop 0).take w.stem.length = w.stem by rw [List.drop_zero, List.take_length]]
        conv => whnf
        repeat' (refine Gets.of _ rfl ?_; conv => whnf)
        refine CallS.of (by kernel_rfl) ((all48 w.loop).frameQ [1] rfl (.cons ⟨rfl, .roI⟩ .nil) (by rintro _ _ ⟨rfl, rfl⟩; repeat first | exact .nil | refine .cons (by first | exact .inr rfl | exact .inl rfl | exact .inr (fresh_oN _) | exact .inr (fresh_oP _) | exact .inr (fresh_oI _)) ?_)) rfl ?_
        rintro _ _ ⟨_, _, ⟨rfl, rfl⟩, rfl, rfl⟩
        conv => whnf
        skip
        refine CodeS.rangeK (cuts := []) [(2, .ptr 2 0), (3, .ptr 3 0), (4, .ptr 4 0), (6, .ptr 6 0)] (f := 60) («as» := []) (bs := [.ptr 7 0]) rfl (by kernel_rfl) ⟨rfl, rfl, rfl, rfl, trivial⟩ ((all60 w hp n (by omega) (by omega)).frameQ [0, 1, 2, 3, 4, 5, 6, 7, 8] rfl (.cons ⟨rfl, .roI⟩ (.cons ⟨rfl, .roI⟩ (.cons ⟨rfl, .inl rfl⟩ (.cons ⟨rfl, .inl rfl⟩ (.cons ⟨rfl, .inl rfl⟩ (.cons ⟨rfl, .vS rfl⟩ (.cons ⟨rfl, .inl rfl⟩ (.cons ⟨rfl, .inl rfl⟩ (.cons ⟨rfl, .loopE rfl⟩ .nil))))))))) ?_) rfl ?_
        · rintro _ _ ⟨rfl, v', rfl⟩
          repeat first | exact .nil | refine .cons (by first | exact .inr rfl | exact .inl rfl | exact .inr (fresh_vB _)) ?_
        rintro _ _ ⟨_, _, ⟨rfl, v', rfl⟩, rfl, rfl⟩
        refine ⟨_, rfl, trivial, ?_⟩
        refine ⟨by kernel_rfl, ?_⟩
        conv => whnf
        repeat' (refine Gets.of _ rfl ?_; conv => whnf)
        exact ⟨renL [0, 1, 5, 9] 10, .tuple [.agg [.view 2 0 w.stem.length, .slice 3 0 (rep w.loop n).length], .int .i64 0], ((wh w.stem w.loop).alloc (vB w.stem)).alloc (vB (rep w.loop n)), EmbL.litsN [0, 1, 5, 9] rfl rfl rfl rfl (.cons ⟨rfl, .inl ⟨rfl, fun h => h⟩⟩ (.cons ⟨rfl, .inl ⟨rfl, fun h => h⟩⟩ .nil)) (.cons ⟨rfl, .roI⟩ (.cons ⟨rfl, .roI⟩ (.cons ⟨rfl, .toVm⟩ (.cons ⟨rfl, .vCr rfl⟩ .nil)))), rfl, _, ⟨rfl, rfl⟩, Tells.tup (.cons (Tells.agg (.cons (Tells.refl _ _) (.cons Tells.sliceView .nil))) (.cons (Tells.refl _ _) .nil))⟩
  · rw [if_neg hp]
    repeat' (refine Gets.of _ rfl ?_; conv => whnf)
    exact ⟨renL [0, 1, 2, 4] 5, .tuple [.agg [.nilSlice, .nilSlice], .int .i64 1], ((wh w.stem w.loop).alloc (vB [])).alloc (vB []), EmbL.litsN [0, 1, 2, 4] rfl rfl rfl rfl (.cons ⟨rfl, .inl ⟨rfl, fun h => h⟩⟩ (.cons ⟨rfl, .inl ⟨rfl, fun h => h⟩⟩ .nil)) (.cons ⟨rfl, .roI⟩ (.cons ⟨rfl, .roI⟩ (.cons ⟨rfl, .roEc⟩ (.cons ⟨rfl, .roEc⟩ .nil)))), rfl, _, ⟨rfl, rfl⟩, Tells.tup (.cons (Tells.agg (.cons (Tells.nilView rfl) (.cons (Tells.nilView rfl) .nil))) (.cons (Tells.refl _ _) .nil))⟩
end Go.Proofs.YthjemhlcojmiaaaDoor
