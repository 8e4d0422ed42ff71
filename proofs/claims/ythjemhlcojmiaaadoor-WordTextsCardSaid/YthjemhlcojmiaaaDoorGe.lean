/- Loops, as the program makes them. -/
import Derived.Test.YthjemhlcojmiaaaDoorGd
import Derived.Test.YthjemhlcojmiaaaDoorVhU
-- VkG VkH
set_option linter.unusedVariables false
set_option linter.unusedSimpArgs false
set_option maxRecDepth 100000
set_option maxHeartbeats 1000000
namespace Go.Proofs.YthjemhlcojmiaaaDoor
open Go Go.Vh Go.Vk Go.Proofs
/-- The first letters of a loop that goes on and on. -/
def cyc (l : List Int) : Nat → List Int
  | 0 => []
  | k + 1 => cyc l k ++ [l.getD (k % l.length) 0]
theorem cyc_length (l : List Int) : ∀ k, (cyc l k).length = k
  | 0 => rfl
  | k + 1 => by rw [cyc, List.length_append, cyc_length l k]; rfl
theorem cyc_rep (l : List Int) (h0 : 0 < l.length) : ∀ k, cyc l (k * l.length) = rep l k
  | 0 => by rw [Nat.zero_mul]; rfl
  | k + 1 => by
    have : ∀ j, j ≤ l.length → cyc l (k * l.length + j) = rep l k ++ l.take j := by
      intro j
      induction j with
      | zero => intro _; rw [Nat.add_zero, cyc_rep l h0 k]; simp
      | succ j ih =>
        intro hj
        rw [← Nat.add_assoc, cyc, ih (by omega), List.append_assoc]
        congr 1
        rw [show (k * l.length + j) % l.length = j by rw [Nat.add_comm, Nat.add_mul_mod_self_right]; exact Nat.mod_eq_of_lt (by omega), List.getD_eq_getElem?_getD, List.getElem?_eq_getElem (by omega), List.take_add_one, List.getElem?_eq_getElem (by omega)]
        rfl
    rw [Nat.succ_mul, this _ (Nat.le_refl _), List.take_length]
    rfl
theorem all48 (l : List Int) : CallW Tryd.prog 48 [.agg [.nilSlice, .view 0 0 l.length]] (emptyH.alloc (.ro 1 (ints l))) fun v H' => v = .func 60 [] [.ptr 1 0] ∧ H' = (emptyH.alloc (.ro 1 (ints l))).alloc (.cells 1 [.nilSlice, .view 0 0 l.length]) := by
  refine CallW.symK (cuts := []) Tryd.func48 rfl (by kernel_rfl) ?_
  conv => whnf
  skip
  exact ⟨rfl, rfl⟩
def rangeOf : Code → Option (Code × Code)
  | .rangeFunc _ _ a b => some (a, b)
  | .seq a b => match rangeOf a with
    | some x => some x
    | none => rangeOf b
  | .block _ c => rangeOf c
  | _ => none
noncomputable def code24 : Code × Code := ((Tryd.f24.body.bind rangeOf)).getD (.skip, .skip)
noncomputable def loop24 : ALoop := ⟨envOf [(2, .ptr 2 0), (3, .ptr 3 0), (4, .ptr 4 0), (6, .ptr 6 0)], 51, [34], code24.1, code24.2, none, .ready⟩
/-- The memory when the range begins. -/
noncomputable def A0 (w : Wd) (n : Nat) : AHeap := ⟨9, fun i => match i with
  | 2 => .cells 1 [.view 0 0 w.stem.length, .view 1 0 w.loop.length] | 3 => .cells 1 [.int .i64 (n : Int)] | 4 => .cells 1 [.nilSlice, .nilSlice] | 5 => vB w.stem | 6 => .cells 1 [.view 5 0 w.stem.length, .nilSlice] | 7 => .cells 1 [.nilSlice, .view 1 0 w.loop.length] | 8 => .loop loop24
  | i => (wh w.stem w.loop).f i, fun _ => 0⟩
/-- Between two letters. -/
noncomputable def A1 (w : Wd) (n : Nat) (acc : List Int) (v : Nat) : AHeap := ⟨10, fun i => match i with
  | 6 => .cells 1 [.view 5 0 w.stem.length, .slice 9 0 acc.length] | 9 => .cells 1 (ints acc)
  | i => (A0 w n).f i, fun i => match i with | 6 => v | 8 => v | _ => 0⟩
/-- At the end. -/
noncomputable def A2 (w : Wd) (n : Nat) (acc : List Int) (v : Nat) : AHeap := ⟨10, fun i => match i with
  | 8 => .loop { loop24 with pending := some (.exit 0), state := .done }
  | i => (A1 w n acc v).f i, (A1 w n acc v).ver⟩
noncomputable def AS (w : Wd) (n : Nat) (v : Nat) : Nat → AHeap
  | 0 => A0 w n
  | i + 1 => A1 w n (cyc w.loop (i + 1)) v
theorem all60 (w : Wd) (hp : w.Ok 6) (n : Nat) (h1 : 1 ≤ n) (hn : n ≤ 200) : CallW Tryd.prog 60 [.yield 8, .ptr 7 0] (A0 w n) fun v H' => v = .tuple [] ∧ ∃ v', H' = A2 w n (rep w.loop n) v' := by
  have hm := hp.m
  have h0 := hp.p
  have hkl : 1 * w.loop.length ≤ n * w.loop.length := Nat.mul_le_mul_right _ h1
  have hkr : n * w.loop.length ≤ 200 * w.loop.length := Nat.mul_le_mul_right _ hn
  have hki : (n : Int) * (w.loop.length : Int) = ((n * w.loop.length : Nat) : Int) := rfl
  refine CallW.symRK (cuts := []) Tryd.func60 rfl (by kernel_rfl) ?_
  conv => whnf
  repeat' (refine Gets.of _ rfl ?_; conv => whnf)
  refine CodeS.loopSK (cuts := []) (σ := Unit) (fun _ => [(0, .yield 8), (1, .ptr 7 0), (7, .nilSlice), (8, .int .i64 0), (9, .int .i64 0)]) (fun _ => A0 w n) (fun _ => True) (fun _ => 0) () (by kernel_rfl) trivial ⟨rfl, rfl, rfl, rfl, rfl, trivial⟩ rfl ?_
  rintro _ _
  conv => whnf
  repeat' (refine Fork.noR rfl ?_; conv => whnf)
  refine CodeS.loopGK (cuts := []) (σ := Nat × Nat) (fun s => [(0, .yield 8), (1, .ptr 7 0), (5, .int .i64 ((s.1 % w.loop.length : Nat) : Int))]) (fun s => AS w n s.2 s.1) (fun s => s.1 ≤ n * w.loop.length) (fun s => n * w.loop.length + 1 - s.1) (0, 0) (renL [0, 1, 2, 3, 4, 5, 6, 7, 8] 9) (by kernel_rfl) (Nat.zero_le _) ⟨rfl, rfl, by rw [Nat.zero_mod]; rfl, trivial⟩ (EmbL.litsN [0, 1, 2, 3, 4, 5, 6, 7, 8] rfl rfl rfl rfl (.cons ⟨rfl, .inl ⟨rfl, fun h => h⟩⟩ (.cons ⟨rfl, .inl ⟨rfl, fun h => h⟩⟩ (.cons ⟨rfl, .inl ⟨rfl, fun h => h⟩⟩ (.cons ⟨rfl, .inl ⟨rfl, fun h => h⟩⟩ (.cons ⟨rfl, .inl ⟨rfl, fun h => h⟩⟩ (.cons ⟨rfl, .inl ⟨rfl, fun h => h⟩⟩ (.cons ⟨rfl, .inl ⟨rfl, fun h => h⟩⟩ (.cons ⟨rfl, .inl ⟨rfl, fun h => h⟩⟩ (.cons ⟨rfl, .inl ⟨rfl, fun h => h⟩⟩ .nil))))))))) (.cons ⟨rfl, .roI⟩ (.cons ⟨rfl, .roI⟩ (.cons ⟨rfl, .inl rfl⟩ (.cons ⟨rfl, .inl rfl⟩ (.cons ⟨rfl, .inl rfl⟩ (.cons ⟨rfl, .vS rfl⟩ (.cons ⟨rfl, .inl rfl⟩ (.cons ⟨rfl, .inl rfl⟩ (.cons ⟨rfl, .loopE rfl⟩ .nil)))))))))) ?_
  rintro ⟨i, v⟩ g1
  dsimp only at g1 ⊢
  have hmod := Nat.mod_lt i h0
  have e6 : (((i % w.loop.length : Nat) : Int) + 1) % (w.loop.length : Int) = (((i + 1) % w.loop.length : Nat) : Int) := by
    rw [show (i + 1) % w.loop.length = (i % w.loop.length + 1) % w.loop.length from (Nat.mod_add_mod _ _ _).symm]; rfl
  rcases i with _ | i
  · conv => whnf
    repeat' first | (refine Gets.of _ rfl ?_; conv => whnf) | (refine Gets.ix1v rfl rfl (by omega) ?_; conv => whnf) | (refine Gets.ldI rfl (by first | rfl | assumption) (by first | omega | exact Nat.le_of_ble_eq_true rfl) ?_; conv => whnf)
    refine CallS.roundRK (cuts := []) (r := loop24) rfl rfl (by kernel_rfl) ?_
    intro ρ
    conv => whnf
    skip
    refine ⟨loop24, rfl, rfl, ?_⟩
    conv => whnf
    repeat' first | ((refine Gets.stS (ti := tiS) rfl rfl rfl rfl rfl rfl ?_); conv => whnf) | ((with_reducible refine Gets.mulI ?_ ?_ ?_); (· omega); (· omega); conv => whnf) | (refine Gets.of _ rfl ?_; conv => whnf) | (refine Fork.dec (fun _ => ?_) (fun _ => ?_) <;> first | (exfalso; omega) | (conv => whnf))
    refine ⟨_, rfl, fun i => i, .bool true, _, EmbL.id (Nat.le_of_ble_eq_true rfl), rfl, ?_⟩
    conv => whnf
    repeat' first | ((with_reducible refine Gets.remN ?_ ?_ ?_); (· omega); (· omega); conv => whnf) | ((with_reducible refine Gets.addI ?_ ?_ ?_); (· omega); (· omega); conv => whnf) | (refine Gets.of _ rfl ?_; conv => whnf)
    rw [e6]
    skip
    exact ⟨(1, 3), renL [0, 1, 2, 3, 4, 5, 6, 7, 8, 10] 11, by show 1 ≤ _; omega, by show _ - 1 < _ - 0; omega, ⟨rfl, rfl, rfl, trivial⟩, EmbL.litsN [0, 1, 2, 3, 4, 5, 6, 7, 8, 10] rfl rfl rfl rfl (.cons ⟨rfl, .inl ⟨rfl, fun h => h⟩⟩ (.cons ⟨rfl, .inl ⟨rfl, fun h => h⟩⟩ (.cons ⟨rfl, .inl ⟨rfl, fun h => h⟩⟩ (.cons ⟨rfl, .inl ⟨rfl, fun h => h⟩⟩ (.cons ⟨rfl, .inl ⟨rfl, fun h => h⟩⟩ (.cons ⟨rfl, .inl ⟨rfl, fun h => h⟩⟩ (.cons ⟨rfl, .inr (Nat.le_of_ble_eq_true rfl)⟩ (.cons ⟨rfl, .inl ⟨rfl, fun h => h⟩⟩ (.cons ⟨rfl, .inr (Nat.le_of_ble_eq_true rfl)⟩ .nil))))))))) (.cons ⟨rfl, .roI⟩ (.cons ⟨rfl, .roI⟩ (.cons ⟨rfl, .inl rfl⟩ (.cons ⟨rfl, .inl rfl⟩ (.cons ⟨rfl, .inl rfl⟩ (.cons ⟨rfl, .vS rfl⟩ (.cons ⟨rfl, .inl rfl⟩ (.cons ⟨rfl, .inl rfl⟩ (.cons ⟨rfl, .loopE rfl⟩ (.cons ⟨rfl, .cellsI⟩ .nil))))))))))⟩
  · have hcl := cyc_length w.loop (i + 1)
    have hcs : cyc w.loop (i + 2) = cyc w.loop (i + 1) ++ [w.loop.getD ((i + 1) % w.loop.length) 0] := rfl
    conv => whnf
    repeat' first | (refine Gets.of _ rfl ?_; conv => whnf) | (refine Gets.ix1v rfl rfl (by omega) ?_; conv => whnf) | (refine Gets.ldI rfl (by first | rfl | assumption) (by first | omega | exact Nat.le_of_ble_eq_true rfl) ?_; conv => whnf)
    refine CallS.roundRK (cuts := []) (r := loop24) rfl rfl (by kernel_rfl) ?_
    intro ρ
    conv => whnf
    skip
    refine ⟨loop24, rfl, rfl, ?_⟩
    rcases (by omega : i + 1 = n * w.loop.length ∨ i + 1 < n * w.loop.length) with hi | hi
    · conv => whnf
      repeat' first | ((with_reducible refine Gets.mulI ?_ ?_ ?_); (· omega); (· omega); conv => whnf) | (refine Gets.of _ rfl ?_; conv => whnf) | (refine Fork.dec (fun _ => ?_) (fun _ => ?_) <;> first | (exfalso; omega) | (conv => whnf))
      refine ⟨_, rfl, ?_⟩
      conv => whnf
      skip
      have hrep : cyc w.loop (i + 1) = rep w.loop n := by rw [hi, cyc_rep _ h0]
      refine ⟨fun i => i, .bool false, _, EmbL.id (Nat.le_of_ble_eq_true rfl), rfl, ?_⟩
      conv => whnf
      skip
      rw [← hrep]
      exact ⟨renL [0, 1, 2, 3, 4, 5, 6, 7, 8, 9] 10, .tuple [], A2 w n (cyc w.loop (i + 1)) (v + 3), EmbL.litsN [0, 1, 2, 3, 4, 5, 6, 7, 8, 9] rfl rfl rfl rfl (.cons ⟨rfl, .inl ⟨rfl, fun h => h⟩⟩ (.cons ⟨rfl, .inl ⟨rfl, fun h => h⟩⟩ (.cons ⟨rfl, .inl ⟨rfl, fun h => h⟩⟩ (.cons ⟨rfl, .inl ⟨rfl, fun h => h⟩⟩ (.cons ⟨rfl, .inl ⟨rfl, fun h => h⟩⟩ (.cons ⟨rfl, .inl ⟨rfl, fun h => h⟩⟩ (.cons ⟨rfl, .inr (by first | exact verLt (v := v) (k := 0) (m := 3) rfl rfl | exact verLt (v := v) (k := 1) (m := 3) rfl rfl | exact verLt (v := v) (k := 2) (m := 3) rfl rfl)⟩ (.cons ⟨rfl, .inl ⟨rfl, fun h => h⟩⟩ (.cons ⟨rfl, .inr (by first | exact verLt (v := v) (k := 0) (m := 3) rfl rfl | exact verLt (v := v) (k := 1) (m := 3) rfl rfl | exact verLt (v := v) (k := 2) (m := 3) rfl rfl)⟩ .nil))))))))) (.cons ⟨rfl, .roI⟩ (.cons ⟨rfl, .roI⟩ (.cons ⟨rfl, .inl rfl⟩ (.cons ⟨rfl, .inl rfl⟩ (.cons ⟨rfl, .inl rfl⟩ (.cons ⟨rfl, .vS rfl⟩ (.cons ⟨rfl, .inl rfl⟩ (.cons ⟨rfl, .inl rfl⟩ (.cons ⟨rfl, .loopE rfl⟩ (.cons ⟨rfl, .cellsIe (l := cyc w.loop (i + 1)) (l' := cyc w.loop (i + 1)) rfl⟩ .nil)))))))))), rfl, rfl, v + 3, rfl⟩
    · conv => whnf
      repeat' first | ((with_reducible refine Gets.mulI ?_ ?_ ?_); (· omega); (· omega); conv => whnf) | (refine Gets.of _ rfl ?_; conv => whnf) | (refine Fork.dec (fun _ => ?_) (fun _ => ?_) <;> first | (exfalso; omega) | (conv => whnf))
      refine Gets.appSrc (ti := tiI) (l := cyc w.loop (i + 1)) (xs := [w.loop.getD ((i + 1) % w.loop.length) 0]) (m := (cyc w.loop (i + 1)).length) (n := 1) rfl rfl rfl rfl rfl (by decide) (Nat.le_refl _) ((src_at (xs := [w.loop.getD ((i + 1) % w.loop.length) 0]) (n := 1) rfl (.inr rfl)).1) rfl (by omega) ?_
      rw [List.take_length, ← hcs, show (cyc w.loop (i + 1)).length + 1 = (cyc w.loop (i + 2)).length by rw [hcl, cyc_length]]
      conv => whnf
      repeat' ((refine Gets.stS (ti := tiS) rfl rfl rfl rfl rfl rfl ?_); conv => whnf)
      refine ⟨_, rfl, fun i => i, .bool true, _, EmbL.id (Nat.le_of_ble_eq_true rfl), rfl, ?_⟩
      conv => whnf
      repeat' first | ((with_reducible refine Gets.remN ?_ ?_ ?_); (· omega); (· omega); conv => whnf) | ((with_reducible refine Gets.addI ?_ ?_ ?_); (· omega); (· omega); conv => whnf) | (refine Gets.of _ rfl ?_; conv => whnf)
      rw [e6]
      skip
      exact ⟨(i + 2, v + 3), renL [0, 1, 2, 3, 4, 5, 6, 7, 8, 11] 12, by show i + 2 ≤ _; omega, by show _ - (i + 2) < _ - (i + 1); omega, ⟨rfl, rfl, rfl, trivial⟩, EmbL.litsN [0, 1, 2, 3, 4, 5, 6, 7, 8, 11] rfl rfl rfl rfl (.cons ⟨rfl, .inl ⟨rfl, fun h => h⟩⟩ (.cons ⟨rfl, .inl ⟨rfl, fun h => h⟩⟩ (.cons ⟨rfl, .inl ⟨rfl, fun h => h⟩⟩ (.cons ⟨rfl, .inl ⟨rfl, fun h => h⟩⟩ (.cons ⟨rfl, .inl ⟨rfl, fun h => h⟩⟩ (.cons ⟨rfl, .inl ⟨rfl, fun h => h⟩⟩ (.cons ⟨rfl, .inr (by first | exact verLt (v := v) (k := 0) (m := 3) rfl rfl | exact verLt (v := v) (k := 1) (m := 3) rfl rfl | exact verLt (v := v) (k := 2) (m := 3) rfl rfl)⟩ (.cons ⟨rfl, .inl ⟨rfl, fun h => h⟩⟩ (.cons ⟨rfl, .inr (by first | exact verLt (v := v) (k := 0) (m := 3) rfl rfl | exact verLt (v := v) (k := 1) (m := 3) rfl rfl | exact verLt (v := v) (k := 2) (m := 3) rfl rfl)⟩ .nil))))))))) (.cons ⟨rfl, .roI⟩ (.cons ⟨rfl, .roI⟩ (.cons ⟨rfl, .inl rfl⟩ (.cons ⟨rfl, .inl rfl⟩ (.cons ⟨rfl, .inl rfl⟩ (.cons ⟨rfl, .vS rfl⟩ (.cons ⟨rfl, .inl rfl⟩ (.cons ⟨rfl, .inl rfl⟩ (.cons ⟨rfl, .loopE rfl⟩ (.cons ⟨rfl, .cellsIe (l := cyc w.loop (i + 2)) (l' := cyc w.loop (i + 2)) rfl⟩ .nil))))))))))⟩
theorem _root_.Go.Vh.BSub.toVm {κ κ' : Nat → Nat} {l : List Int} : BSub κ (vB l) (match (vB l).rwB with | true => renB κ' (vB l) | false => vB l) := by
  cases l with
  | nil => exact .vS (l := []) (l' := []) rfl
  | cons x l => exact .toV (l := x :: l)
open Classical in
noncomputable def outK (w : Wd) (k : Int) : Pw × Int := if w.Ok 6 then (if k < 1 then (errP, 6) else if 200 < (w.stem.length : Int) + k * (w.loop.length : Int) then (errP, 3) else (⟨w.stem, w.stem.length, rep w.loop k.toNat⟩, 0)) else (errP, 1)
theorem loops24 (w : Wd) (hf : w.Fits) (k : Int) (hk : k ≤ 9223372036854775807) (hk' : -9223372036854775808 ≤ k) : CallW Tryd.prog 24 [w.av 0 1, .int .i64 k] (wh w.stem w.loop) (Makes w (outK w k)) := by
  unfold Makes
  refine CallW.tells ?_
  refine CallW.symRK (cuts := []) Tryd.func24 rfl (by kernel_rfl) ?_
  conv => whnf
  repeat' (refine Gets.of _ rfl ?_; conv => whnf)
  refine CallS.of (by kernel_rfl) (valid26a w hf 6 (.roB rfl rfl) (.roB rfl rfl)) rfl ?_
  rintro _ _ ⟨rfl, hp | hp⟩
  all_goals conv => whnf
  all_goals unfold outK
  · rw [if_pos hp]
    have hm := hp.m
    have h0 := hp.p
    rcases (by omega : k < 1 ∨ 1 ≤ k) with hk0 | hk0
    · repeat' first | (refine Gets.of _ rfl ?_; conv => whnf) | (refine Fork.dec (fun _ => ?_) (fun _ => ?_) <;> first | (exfalso; omega) | (conv => whnf))
      rw [if_pos hk0]
      exact ⟨renL [0, 1, 2, 4] 5, .tuple [.agg [.nilSlice, .nilSlice], .int .i64 6], ((wh w.stem w.loop).alloc (vB [])).alloc (vB []), EmbL.litsN [0, 1, 2, 4] rfl rfl rfl rfl (.cons ⟨rfl, .inl ⟨rfl, fun h => h⟩⟩ (.cons ⟨rfl, .inl ⟨rfl, fun h => h⟩⟩ .nil)) (.cons ⟨rfl, .roI⟩ (.cons ⟨rfl, .roI⟩ (.cons ⟨rfl, .roEc⟩ (.cons ⟨rfl, .roEc⟩ .nil)))), rfl, _, ⟨rfl, rfl⟩, Tells.tup (.cons (Tells.agg (.cons (Tells.nilView rfl) (.cons (Tells.nilView rfl) .nil))) (.cons (Tells.refl _ _) .nil))⟩
    · rw [if_neg (by omega)]
      obtain ⟨n, rfl⟩ : ∃ n : Nat, k = (n : Int) := ⟨k.toNat, by omega⟩
      rw [show ((n : Int)).toNat = n from rfl]
      have hdi : (200 - (w.stem.length : Int)) / (w.loop.length : Int) = (((200 - w.stem.length) / w.loop.length : Nat) : Int) := by rw [show (200 : Int) - (w.stem.length : Int) = ((200 - w.stem.length : Nat) : Int) by omega]; rfl
      have hdv : (200 - w.stem.length) / w.loop.length < n ↔ 200 - w.stem.length < n * w.loop.length := Nat.div_lt_iff_lt_mul h0
      repeat' first | (refine Gets.of _ rfl ?_; conv => whnf) | (refine Fork.dec (fun _ => ?_) (fun _ => ?_) <;> first | (exfalso; omega) | (conv => whnf))
      refine CodeS.drawT [2, 3] (.take 0 (.take 1 (.take 2 (.take 3 (.take 4 (.take 5 (.take 6 (.take 7 (.take 8 (.take 9 .done)))))))))) mixed (by kernel_rfl) (.cons ⟨rfl, trivial⟩ (.cons ⟨rfl, trivial⟩ .nil)) ?_
      conv => whnf
      repeat' first | ((with_reducible refine Gets.quoI ?_ ?_ ?_ ?_); (· omega); (· omega); (· omega); conv => whnf) | ((with_reducible refine Gets.subI ?_ ?_ ?_); (· omega); (· omega); conv => whnf) | (refine Gets.of _ rfl ?_; conv => whnf) | (refine Fork.dec (fun _ => ?_) (fun _ => ?_) <;> first | (exfalso; omega) | (conv => whnf))
      · rename_i hgt
        rw [hdi] at hgt
        rw [if_pos (show 200 < (w.stem.length : Int) + (n : Int) * (w.loop.length : Int) by have := hdv.1 (by omega); omega)]
        exact ⟨renL [0, 1, 2, 4] 5, .tuple [.agg [.nilSlice, .nilSlice], .int .i64 3], ((wh w.stem w.loop).alloc (vB [])).alloc (vB []), EmbL.litsN [0, 1, 2, 4] rfl rfl rfl rfl (.cons ⟨rfl, .inl ⟨rfl, fun h => h⟩⟩ (.cons ⟨rfl, .inl ⟨rfl, fun h => h⟩⟩ .nil)) (.cons ⟨rfl, .roI⟩ (.cons ⟨rfl, .roI⟩ (.cons ⟨rfl, .roEc⟩ (.cons ⟨rfl, .roEc⟩ .nil)))), rfl, _, ⟨rfl, rfl⟩, Tells.tup (.cons (Tells.agg (.cons (Tells.nilView rfl) (.cons (Tells.nilView rfl) .nil))) (.cons (Tells.refl _ _) .nil))⟩
      · rename_i hgt
        rw [hdi] at hgt
        have hle : n * w.loop.length ≤ 200 - w.stem.length := Nat.le_of_not_lt fun h => hgt (by have := hdv.2 h; omega)
        have hnm : n * 1 ≤ n * w.loop.length := Nat.mul_le_mul_left _ h0
        rw [if_neg (show ¬ 200 < (w.stem.length : Int) + (n : Int) * (w.loop.length : Int) by omega)]
        refine CallS.of (by kernel_rfl) (clone47a w.stem 0 w.stem.length (by omega) (by omega) (.roB rfl rfl)) rfl ?_
        rintro _ _ ⟨rfl, rfl⟩
        rw [show (w.stem.drop 0).take w.stem.length = w.stem by rw [List.drop_zero, List.take_length]]
        conv => whnf
        repeat' (refine Gets.of _ rfl ?_; conv => whnf)
        refine CallS.of (by kernel_rfl) ((all48 w.loop).frameQ [1] rfl (.cons ⟨rfl, .roI⟩ .nil) (by rintro _ _ ⟨rfl, rfl⟩; repeat first | exact .nil | refine .cons (by first | exact .inr rfl | exact .inl rfl | exact .inr (fresh_oN _) | exact .inr (fresh_oP _) | exact .inr (fresh_oI _)) ?_)) rfl ?_
        rintro _ _ ⟨_, _, ⟨rfl, rfl⟩, rfl, rfl⟩
        conv => whnf
        skip
        refine CodeS.rangeK (cuts := []) [(2, .ptr 2 0), (3, .ptr 3 0), (4, .ptr 4 0), (6, .ptr 6 0)] (f := 60) («as» := []) (bs := [.ptr 7 0]) rfl (by kernel_rfl) ⟨rfl, rfl, rfl, rfl, trivial⟩ ((all60 w hp n (by omega) (by omega)).frameQ [0, 1, 2, 3, 4, 5, 6, 7, 8] rfl (.cons ⟨rfl, .roI⟩ (.cons ⟨rfl, .roI⟩ (.cons ⟨rfl, .inl rfl⟩ (.cons ⟨rfl, .inl rfl⟩ (.cons ⟨rfl, .inl rfl⟩ (.cons ⟨rfl, .vS rfl⟩ (.cons ⟨rfl, .inl rfl⟩ (.cons ⟨rfl, .inl rfl⟩ (.cons ⟨rfl, .loopE rfl⟩ .nil))))))))) ?_) rfl ?_
        · rintro _ _ ⟨rfl, v', rfl⟩
          repeat first | exact .nil | refine .cons (by first | exact .inr rfl | exact .inl rfl | exact .inr (fresh_vB _)) ?_
        rintro _ _ ⟨_, _, ⟨rfl, v', rfl⟩, rfl, rfl⟩
        refine ⟨_, rfl, trivial, ?_⟩
        refine ⟨by kernel_rfl, ?_⟩
        conv => whnf
        repeat' (refine Gets.of _ rfl ?_; conv => whnf)
        exact ⟨renL [0, 1, 5, 9] 10, .tuple [.agg [.view 2 0 w.stem.length, .slice 3 0 (rep w.loop n).length], .int .i64 0], ((wh w.stem w.loop).alloc (vB w.stem)).alloc (vB (rep w.loop n)), EmbL.litsN [0, 1, 5, 9] rfl rfl rfl rfl (.cons ⟨rfl, .inl ⟨rfl, fun h => h⟩⟩ (.cons ⟨rfl, .inl ⟨rfl, fun h => h⟩⟩ .nil)) (.cons ⟨rfl, .roI⟩ (.cons ⟨rfl, .roI⟩ (.cons ⟨rfl, .toVm⟩ (.cons ⟨rfl, .vCr rfl⟩ .nil)))), rfl, _, ⟨rfl, rfl⟩, Tells.tup (.cons (Tells.agg (.cons (Tells.refl _ _) (.cons Tells.sliceView .nil))) (.cons (Tells.refl _ _) .nil))⟩
  · rw [if_neg hp]
    repeat' (refine Gets.of _ rfl ?_; conv => whnf)
    exact ⟨renL [0, 1, 2, 4] 5, .tuple [.agg [.nilSlice, .nilSlice], .int .i64 1], ((wh w.stem w.loop).alloc (vB [])).alloc (vB []), EmbL.litsN [0, 1, 2, 4] rfl rfl rfl rfl (.cons ⟨rfl, .inl ⟨rfl, fun h => h⟩⟩ (.cons ⟨rfl, .inl ⟨rfl, fun h => h⟩⟩ .nil)) (.cons ⟨rfl, .roI⟩ (.cons ⟨rfl, .roI⟩ (.cons ⟨rfl, .roEc⟩ (.cons ⟨rfl, .roEc⟩ .nil)))), rfl, _, ⟨rfl, rfl⟩, Tells.tup (.cons (Tells.agg (.cons (Tells.nilView rfl) (.cons (Tells.nilView rfl) .nil))) (.cons (Tells.refl _ _) .nil))⟩
end Go.Proofs.YthjemhlcojmiaaaDoor

/- Words as arguments; how many letters. -/
-- VkG VkH
set_option linter.unusedVariables false
set_option linter.unusedSimpArgs false
set_option maxRecDepth 100000
set_option maxHeartbeats 1000000
namespace Go.Proofs.YthjemhlcojmiaaaDoor
open Go Go.Vh Go.Vk Go.Proofs
theorem wf_i64 {m : Int} (h : (Lit.int .i64 m).wf = true) : fits64 m := by
  simp only [Lit.wf, Bool.and_eq_true, decide_eq_true_eq] at h
  exact h
theorem shape_int {H : AHeap} {n : Nat} {avs : List AVal} (h : Shape Tryd.prog H n 3 avs) : ∃ m, avs = [.int .i64 m] ∧ fits64 m := by
  cases n with
  | zero => exact h.elim
  | succ n =>
    unfold Shape at h
    rw [Tryd.underlying3] at h
    obtain ⟨m, rfl, hm⟩ := h
    exact ⟨m, rfl, wf_i64 hm⟩
theorem shape_ints {H : AHeap} {n : Nat} {avs : List AVal} (h : Shape Tryd.prog H n 22 avs) : ∃ i l, avs = [.view i 0 l.length] ∧ i < H.n ∧ H.f i = .ro 1 (ints l) ∧ (∀ x ∈ l, fits64 x) ∧ l.length ≤ 1152921504606846976 := by
  cases n with
  | zero => exact h.elim
  | succ n =>
    unfold Shape at h
    rw [Tryd.underlying22] at h
    obtain ⟨i, len, cells, rfl, h1, h2, h3, ⟨_, h4⟩, h5⟩ := h
    have hc : Tryd.prog.cellsOf 3 = 1 := by kernel_rfl
    have hb : Tryd.prog.bytesOf 3 = 8 := by kernel_rfl
    obtain ⟨l, rfl, rfl, hx⟩ := Shape.ints (by exact Tryd.underlying3) hc h3 h5
    rw [hc] at h2
    rw [hb] at h4
    have h4 : l.length * 8 ≤ 0x7ffffffff000 := h4
    exact ⟨i, l, rfl, h1, h2, hx, by omega⟩
theorem shape_word {H : AHeap} {n : Nat} {avs : List AVal} (h : Shape Tryd.prog H n 24 avs) : ∃ (w : Wd) (i j : Nat), argOf Tryd.prog 24 avs = w.av i j ∧ w.Fits ∧ (i < H.n ∧ H.f i = .ro 1 (ints w.stem)) ∧ (j < H.n ∧ H.f j = .ro 1 (ints w.loop)) := by
  have e0 : argOf Tryd.prog 24 avs = .agg avs := by unfold argOf; rw [Tryd.underlying24]
  rw [e0]
  cases n with
  | zero => exact h.elim
  | succ n =>
    unfold Shape at h
    rw [Tryd.underlying24] at h
    obtain ⟨hl, hf⟩ := h
    have hc : Tryd.prog.cellsOf 24 = 2 := by kernel_rfl
    have c22 : Tryd.prog.cellsOf 22 = 1 := by kernel_rfl
    rw [hc] at hl
    rcases avs with _ | ⟨x0, _ | ⟨x1, _ | ⟨x2, avs⟩⟩⟩
    case cons.cons.nil =>
      have g0 : Shape Tryd.prog H n 22 ((([x0, x1] : List AVal).drop 0).take (Tryd.prog.cellsOf 22)) := hf 0 _ rfl
      have g1 : Shape Tryd.prog H n 22 ((([x0, x1] : List AVal).drop 1).take (Tryd.prog.cellsOf 22)) := hf 1 _ rfl
      rw [c22] at g0 g1
      obtain ⟨i, stem, e1, a1, a2, a3, b1⟩ := shape_ints g0
      obtain ⟨k, loop, e3, f1, f2, f3, b3⟩ := shape_ints g1
      cases e1; cases e3
      exact ⟨⟨stem, loop⟩, i, k, rfl, ⟨b1, b3⟩, ⟨a1, a2⟩, ⟨f1, f2⟩⟩
    all_goals (simp only [List.length_cons, List.length_nil] at hl; omega)
theorem lift_word {f : FuncId} {w : Wd} {rest : List AVal} {K : AVal → Prop} {H : AHeap} {i j : Nat} (h : CallW Tryd.prog f (w.av 0 1 :: rest) (wh w.stem w.loop) fun v _ => K v) (hk : ∀ v, K v → noRef v = true) (hr : ∀ κ, rens κ rest = rest)
    (hi : i < H.n ∧ H.f i = .ro 1 (ints w.stem)) (hj : j < H.n ∧ H.f j = .ro 1 (ints w.loop)) : CallW Tryd.prog f (w.av i j :: rest) H fun v _ => K v := by
  have := rdAt h hk (.ro hi.1 hi.2) (.ro hj.1 hj.2)
  have e : rens (fk [i, j] H.n) (w.av 0 1 :: rest) = w.av i j :: rest := by
    show ren _ (w.av 0 1) :: rens _ rest = _
    rw [hr]
    rfl
  rw [e] at this
  exact this.mono fun v G h => h.2
def Wd.box2 (w : Wd) : ABlk := .ro 2 [.view 0 0 w.stem.length, .view 1 0 w.loop.length]
theorem few8 (w : Wd) (hf : w.Fits) (a : Int) : CallW Tryd.prog 8 [.int .i64 a, .slice 2 0 1] ((wh w.stem w.loop).alloc w.box2) fun v _ => IsB v ((w.stem.length : Int) + w.loop.length ≤ a) := by
  obtain ⟨b1, b2⟩ := hf
  refine CallW.symK (cuts := []) Tryd.func8 rfl (by kernel_rfl) ?_
  conv => whnf
  repeat' (refine Gets.of _ rfl ?_; conv => whnf)
  refine CodeS.loopGK (cuts := []) (σ := Nat) (fun j => [(0, .int .i64 a), (7, .slice 2 0 1), (8, .int .i64 1), (9, .int .i64 j)]) (fun _ => (wh w.stem w.loop).alloc w.box2) (fun j => j ≤ 1 ∧ (j = 1 → (w.stem.length : Int) + w.loop.length ≤ a)) (fun j => 1 - j) 0 (renL [0, 1, 2] 3) (by kernel_rfl) ⟨Nat.zero_le _, fun h => by omega⟩ ⟨rfl, rfl, rfl, rfl, trivial⟩ (EmbL.litsN [0, 1, 2] rfl rfl rfl rfl (.cons ⟨rfl, .inl ⟨rfl, fun h => h⟩⟩ (.cons ⟨rfl, .inl ⟨rfl, fun h => h⟩⟩ (.cons ⟨rfl, .inl ⟨rfl, fun h => h⟩⟩ .nil))) (.cons ⟨rfl, .roI⟩ (.cons ⟨rfl, .roI⟩ (.cons ⟨rfl, .inl rfl⟩ .nil)))) ?_
  rintro j ⟨g1, g2⟩
  rcases j with _ | _ | j
  · conv => whnf
    repeat' first | ((with_reducible refine Gets.addI ?_ ?_ ?_); (· omega); (· omega); conv => whnf) | (refine Gets.of _ rfl ?_; conv => whnf) | (refine Fork.yesR rfl ?_; conv => whnf) | (refine Fork.dec (fun _ => ?_) (fun _ => ?_) <;> first | (exfalso; omega) | (conv => whnf))
    · exact .f fun h => by omega
    · exact ⟨1, renL [0, 1, 2] 4, ⟨Nat.le_refl _, fun _ => by omega⟩, by omega, ⟨rfl, rfl, rfl, rfl, trivial⟩, EmbL.litsN [0, 1, 2] rfl rfl rfl rfl (.cons ⟨rfl, .inl ⟨rfl, fun h => h⟩⟩ (.cons ⟨rfl, .inl ⟨rfl, fun h => h⟩⟩ (.cons ⟨rfl, .inl ⟨rfl, fun h => h⟩⟩ .nil))) (.cons ⟨rfl, .roI⟩ (.cons ⟨rfl, .roI⟩ (.cons ⟨rfl, .inl rfl⟩ .nil)))⟩
  · conv => whnf
    repeat' (refine Fork.noR rfl ?_; conv => whnf)
    exact .t (g2 rfl)
  · omega
end Go.Proofs.YthjemhlcojmiaaaDoor

/- WordForms: the law. -/
-- VkG VkH
set_option linter.unusedVariables false
set_option linter.unusedSimpArgs false
set_option maxRecDepth 100000
set_option maxHeartbeats 1000000
namespace Go.Proofs.YthjemhlcojmiaaaDoor
open Go Go.Vh Go.Vk Go.Proofs
theorem nfP_sz {S l : List Int} (hS : S.length ≤ 4294967296) (hl : l.length ≤ 4294967296) : (nfP S l).Sz := by
  refine ⟨Nat.sub_le _ _, hS, ?_⟩
  show (rot _ _).length ≤ _
  rw [rot_length, List.length_take]
  omega
theorem errP_sz : errP.Sz := ⟨Nat.le_refl _, Nat.zero_le _, Nat.zero_le _⟩
theorem outN_sz (w : Wd) : (outN w).1.Sz := by
  unfold outN
  split
  · rename_i h; exact nfP_sz h.s32 h.l32
  · exact errP_sz
theorem restP_sz {w : Wd} (h : w.Ok 6) (k : Nat) : (restP w k).Sz := by
  have h1 := h.s32
  have h2 := h.l32
  unfold restP
  split
  · exact nfP_sz (by rw [List.length_drop]; omega) h2
  · exact nfP_sz (by decide) (by rw [turn_length]; exact h2)
theorem outF_sz (w : Wd) (k : Int) : (outF w k).1.Sz := by
  unfold outF
  split
  · rename_i h
    split
    · exact errP_sz
    · exact restP_sz h _
  · exact errP_sz
theorem rep_sz {w : Wd} (h : w.Ok 6) {k : Int} (h1 : ¬ k < 1) (h2 : ¬ 200 < (w.stem.length : Int) + k * (w.loop.length : Int)) : (rep w.loop k.toNat).length ≤ 4294967296 := by
  obtain ⟨n, rfl⟩ : ∃ n : Nat, k = (n : Int) := ⟨k.toNat, by omega⟩
  rw [rep_length, show ((n : Int)).toNat = n from rfl]
  have e : (n : Int) * (w.loop.length : Int) = ((n * w.loop.length : Nat) : Int) := rfl
  rw [e] at h2
  omega
theorem outK_sz (w : Wd) (k : Int) : (outK w k).1.Sz := by
  unfold outK
  split
  · rename_i h
    split
    · exact errP_sz
    · rename_i h1
      split
      · exact errP_sz
      · rename_i h2
        exact ⟨Nat.le_refl _, h.s32, rep_sz h h1 h2⟩
  · exact errP_sz
theorem outL_sz (w : Wd) (hw : w.stem.length ≤ 4294967296) (k : Int) : (outL w k).1.Sz := by
  unfold outL
  split
  · rename_i h
    split
    · exact ⟨Nat.zero_le _, hw, Nat.zero_le _⟩
    · rename_i h1
      split
      · exact ⟨Nat.zero_le _, hw, Nat.zero_le _⟩
      · rename_i h2
        exact ⟨Nat.le_refl _, hw, rep_sz h h1 h2⟩
  · exact ⟨Nat.zero_le _, hw, Nat.zero_le _⟩
theorem outL_full (w : Wd) (k : Int) : (outL w k).1.full = w.stem := by
  unfold outL
  split
  · split
    · rfl
    · split <;> rfl
  · rfl
theorem outKL (w : Wd) (k : Int) : (outK w k).2 = (outL w k).2 ∧ (outK w k).1.wd = (outL w k).1.wd := by
  unfold outK outL
  split
  · split
    · exact ⟨rfl, by simp [Pw.wd, errP]⟩
    · split
      · exact ⟨rfl, by simp [Pw.wd, errP]⟩
      · exact ⟨rfl, rfl⟩
  · exact ⟨rfl, by simp [Pw.wd, errP]⟩
theorem mkAt1 {P : Program} {f : FuncId} {args : List AVal} {s l b : List Int} {v0 : AVal} (h : CallW P f args (wh s l) fun v H' => v = v0 ∧ H' = (wh s l).alloc (vB b)) {H : AHeap} {i j : Nat} (hi : At H 1 (ints s) i) (hj : At H 1 (ints l) j) :
    CallW P f (rens (fk [i, j] H.n) args) H fun v H' => v = ren (fk [i, j] H.n) v0 ∧ H' = H.alloc (vB b) := by
  refine (CallW.allocsAt (K := fun v bs => v = v0 ∧ bs = [vB b]) (h.mono ?_) [i, j] rfl (.cons ⟨_, _, rfl, hi⟩ (.cons ⟨_, _, rfl, hj⟩ .nil))).mono ?_
  · rintro _ _ ⟨rfl, rfl⟩; exact ⟨[vB b], rfl, by simp [vB_fresh], rfl, rfl⟩
  · rintro _ _ ⟨_, _, ⟨rfl, rfl⟩, rfl, rfl⟩
    exact ⟨rfl, by show H.alloc (renB _ (vB _)) = _; rw [renB_vB]⟩
theorem mkM {P : Program} {f : FuncId} {args : List AVal} {w : Wd} {X : Pw × Int} (h : CallW P f args (wh w.stem w.loop) (Makes w X)) {H : AHeap} {i j : Nat} (hi : At H 1 (ints w.stem) i) (hj : At H 1 (ints w.loop) j) :
    CallW P f (rens (fk [i, j] H.n) args) H fun v H' => v = .tuple [X.1.av H.n (H.n + 1), .int .i64 X.2] ∧ H' = (H.alloc (vB X.1.full)).alloc (vB X.1.loop) :=
  mkAt (v0 := .tuple [X.1.av 2 3, .int .i64 X.2]) h hi hj
theorem mkM1 {P : Program} {f : FuncId} {args : List AVal} {w : Wd} {X : Pw × Int} (h : CallW P f args (wh w.stem w.loop) (Makes1 w X)) {H : AHeap} {i j : Nat} (hi : At H 1 (ints w.stem) i) (hj : At H 1 (ints w.loop) j) :
    CallW P f (rens (fk [i, j] H.n) args) H fun v H' => v = .tuple [X.1.av i H.n, .int .i64 X.2] ∧ H' = H.alloc (vB X.1.loop) :=
  mkAt1 (v0 := .tuple [X.1.av 0 2, .int .i64 X.2]) h hi hj
theorem CodeS.canon {P : Program} {N n0 : Nat} {ρ : Option Nat} (cuts : List Nat) (el : List (Nat × AVal)) (G : AHeap) (κ : Nat → Nat) {c : Code} {e : Env} {H : AHeap} {K : Exit → Env → AHeap → Prop} (hok : okCode N c = true) (hk : keepsR κ el e) (hE : EmbL n0 κ G H)
    (h : sc P N ρ n0 cuts c (envOf el) G K) : CodeS P N ρ n0 c e H K := ⟨CWF.gcL hE (keepsR_spec _ hk) (sc_sound c _ _ _ hok h)⟩
def lw5 (w : Wd) : AHeap := ⟨3, fun i => match i with
  | 2 => .cells 1 [.view 0 0 w.stem.length, .view 1 0 w.loop.length]
  | i => (wh w.stem w.loop).f i, fun _ => 0⟩
def lw7 (w : Wd) (N : Pw) : AHeap := ⟨9, fun i => match i with
  | 3 => vB N.full | 4 => vB N.loop | 5 => .cells 1 [.view 3 0 N.n, .view 4 0 N.loop.length] | 6 => vB N.full | 7 => vB N.loop | 8 => .cells 1 [.view 6 0 N.n, .view 7 0 N.loop.length]
  | i => (lw5 w).f i, fun _ => 0⟩
def lw9 (w : Wd) (N F : Pw) : AHeap := ⟨15, fun i => match i with
  | 9 => vB F.full | 10 => vB F.loop | 11 => .cells 1 [.view 9 0 F.n, .view 10 0 F.loop.length] | 12 => vB F.full | 13 => vB F.loop | 14 => .cells 1 [.view 12 0 F.n, .view 13 0 F.loop.length]
  | i => (lw7 w N).f i, fun _ => 0⟩
def lw11 (w : Wd) (N F X Y : Pw) : AHeap := ⟨20, fun i => match i with
  | 15 => vB X.full | 16 => vB X.loop | 17 => .cells 1 [.view 15 0 X.n, .view 16 0 X.loop.length] | 18 => vB Y.loop | 19 => .cells 1 [.view 0 0 Y.n, .view 18 0 Y.loop.length]
  | i => (lw9 w N F).f i, fun _ => 0⟩
theorem law5c (w : Wd) (hf : w.Fits) (n k : Int) (hn : fits64 n) (hk : fits64 k) : CallW Tryd.prog 5 [w.av 0 1, .int .i64 n, .int .i64 k] (wh w.stem w.loop) fun v _ => v = .bool true := by
  obtain ⟨k1, k2⟩ := hk
  have h10 := normal10 w hf
  have h21 := normal21 w hf
  have zN := outN_sz w
  generalize outN w = N at h10 h21 zN
  have h22 := from22 w hf k k2
  have h23 := from23 w hf k k2
  have zF := outF_sz w k
  generalize outF w k = F at h22 h23 zF
  have h24 := loops24 w hf k k2 k1
  have h25 := loops25 w hf k k2 k1
  have zK := outK_sz w k
  have zL := fun h => outL_sz w h k
  have fL := outL_full w k
  obtain ⟨eKL, wKL⟩ := outKL w k
  generalize outK w k = X at h24 zK eKL wKL
  generalize outL w k = Y at h25 zL fL eKL wKL
  have h19 : ∀ {H : AHeap} {i j : Nat}, At H 1 (ints w.stem) i → At H 1 (ints w.loop) j → CallW Tryd.prog 19 [w.av i j, .int .i64 k] H fun v H' => H' = H ∧ v = .tuple [.int .i64 (outA w k).1, .int .i64 (outA w k).2] := fun a b => at19a w hf k k2 a b
  have h20 : ∀ {H : AHeap} {i j : Nat}, At H 1 (ints w.stem) i → At H 1 (ints w.loop) j → CallW Tryd.prog 20 [w.av i j, .int .i64 k] H fun v H' => H' = H ∧ v = .tuple [.int .i64 (outA w k).1, .int .i64 (outA w k).2] := fun a b => at20a w hf k k2 a b
  generalize outA w k = A at h19 h20
  obtain ⟨A1, A2⟩ := A
  obtain ⟨N1, N2⟩ := N
  obtain ⟨F1, F2⟩ := F
  obtain ⟨X1, X2⟩ := X
  obtain ⟨Y1, Y2⟩ := Y
  dsimp only at h19 h20 zN zF zK zL fL eKL wKL
  refine CallW.symK (cuts := [5, 7, 9, 11]) Tryd.func5 rfl (by kernel_rfl) ?_
  conv => whnf
  repeat' (refine Gets.of _ rfl ?_; conv => whnf)
  refine CallS.of (by kernel_rfl) ((few8 w hf 300).readsL IsB.noRef [0, 1, 3] rfl (.cons ⟨rfl, rfl, .roI⟩ (.cons ⟨rfl, rfl, .roI⟩ (.cons ⟨rfl, rfl, .roCs rfl⟩ .nil)))) rfl ?_
  rintro _ _ ⟨rfl, hw | hw⟩
  all_goals conv => whnf
  all_goals
    repeat' (refine Gets.of _ rfl ?_; conv => whnf)
  rotate_left
  · refine CallS.of (by kernel_rfl) (awake9 _) rfl ?_
    rintro _ _ ⟨rfl, rfl⟩
    conv => whnf
    skip
  refine CallS.of (by kernel_rfl) (h19 (.roB rfl rfl) (.roB rfl rfl)) rfl ?_
  rintro _ _ ⟨rfl, rfl⟩
  conv => whnf
  repeat' (refine Gets.of _ rfl ?_; conv => whnf)
  refine CallS.of (by kernel_rfl) (h20 (.roB rfl rfl) (.roB rfl rfl)) rfl ?_
  rintro _ _ ⟨rfl, rfl⟩
  conv => whnf
  skip
  refine CodeS.canon [7, 9, 11] [(1, .int .i64 n), (2, .int .i64 k), (3, .ptr 2 0), (6, .bool false), (7, .int .i64 A1), (8, .int .i64 A2), (9, .int .i64 A1), (10, .int .i64 A2)] (lw5 w) (renL [0, 1, 2] 4) (by kernel_rfl) ⟨rfl, rfl, rfl, rfl, rfl, rfl, rfl, rfl, trivial⟩ (EmbL.litsN [0, 1, 2] rfl rfl rfl rfl (.cons ⟨rfl, .inl ⟨rfl, fun h => h⟩⟩ (.cons ⟨rfl, .inl ⟨rfl, fun h => h⟩⟩ .nil)) (.cons ⟨rfl, .roI⟩ (.cons ⟨rfl, .roI⟩ (.cons ⟨rfl, .inl rfl⟩ .nil)))) ?_
  conv => whnf
  repeat' (refine Gets.of _ rfl ?_; conv => whnf)
  refine CallS.of (by kernel_rfl) (mkM h10 (.roB rfl rfl) (.roB rfl rfl)) rfl ?_
  rintro _ _ ⟨rfl, rfl⟩
  conv => whnf
  repeat' (refine Gets.of _ rfl ?_; conv => whnf)
  refine CallS.of (by kernel_rfl) (mkM h21 (.roB rfl rfl) (.roB rfl rfl)) rfl ?_
  rintro _ _ ⟨rfl, rfl⟩
  conv => whnf
  repeat' (refine Gets.of _ rfl ?_; conv => whnf)
  refine CodeS.canon [9, 11] [(1, .int .i64 n), (2, .int .i64 k), (3, .ptr 2 0), (6, .bool false), (7, .int .i64 A1), (8, .int .i64 A2), (9, .int .i64 A1), (10, .int .i64 A2), (11, .ptr 5 0), (12, .int .i64 N2), (13, .ptr 8 0), (14, .int .i64 N2)] (lw7 w N1) (renL [0, 1, 2, 3, 4, 5, 6, 7, 8] 9) (by kernel_rfl) ⟨rfl, rfl, rfl, rfl, rfl, rfl, rfl, rfl, rfl, rfl, rfl, rfl, trivial⟩ (EmbL.litsN [0, 1, 2, 3, 4, 5, 6, 7, 8] rfl rfl rfl rfl (.cons ⟨rfl, .inl ⟨rfl, fun h => h⟩⟩ (.cons ⟨rfl, .inl ⟨rfl, fun h => h⟩⟩ .nil)) (.cons ⟨rfl, .roI⟩ (.cons ⟨rfl, .roI⟩ (.cons ⟨rfl, .inl rfl⟩ (.cons ⟨rfl, .vS rfl⟩ (.cons ⟨rfl, .vS rfl⟩ (.cons ⟨rfl, .inl rfl⟩ (.cons ⟨rfl, .vS rfl⟩ (.cons ⟨rfl, .vS rfl⟩ (.cons ⟨rfl, .inl rfl⟩ .nil)))))))))) ?_
  conv => whnf
  repeat' (refine Gets.of _ rfl ?_; conv => whnf)
  refine CallS.of (by kernel_rfl) (mkM h22 (.roB rfl rfl) (.roB rfl rfl)) rfl ?_
  rintro _ _ ⟨rfl, rfl⟩
  conv => whnf
  repeat' (refine Gets.of _ rfl ?_; conv => whnf)
  refine CallS.of (by kernel_rfl) (mkM h23 (.roB rfl rfl) (.roB rfl rfl)) rfl ?_
  rintro _ _ ⟨rfl, rfl⟩
  conv => whnf
  repeat' (refine Gets.of _ rfl ?_; conv => whnf)
  refine CodeS.canon [11] [(1, .int .i64 n), (2, .int .i64 k), (3, .ptr 2 0), (6, .bool false), (7, .int .i64 A1), (8, .int .i64 A2), (9, .int .i64 A1), (10, .int .i64 A2), (11, .ptr 5 0), (12, .int .i64 N2), (13, .ptr 8 0), (14, .int .i64 N2), (15, .ptr 11 0), (16, .int .i64 F2), (17, .ptr 14 0), (18, .int .i64 F2)] (lw9 w N1 F1) (renL [0, 1, 2, 3, 4, 5, 6, 7, 8, 9, 10, 11, 12, 13, 14] 15) (by kernel_rfl) ⟨rfl, rfl, rfl, rfl, rfl, rfl, rfl, rfl, rfl, rfl, rfl, rfl, rfl, rfl, rfl, rfl, trivial⟩ (EmbL.litsN [0, 1, 2, 3, 4, 5, 6, 7, 8, 9, 10, 11, 12, 13, 14] rfl rfl rfl rfl (.cons ⟨rfl, .inl ⟨rfl, fun h => h⟩⟩ (.cons ⟨rfl, .inl ⟨rfl, fun h => h⟩⟩ .nil)) (.cons ⟨rfl, .roI⟩ (.cons ⟨rfl, .roI⟩ (.cons ⟨rfl, .inl rfl⟩ (.cons ⟨rfl, .vS rfl⟩ (.cons ⟨rfl, .vS rfl⟩ (.cons ⟨rfl, .inl rfl⟩ (.cons ⟨rfl, .vS rfl⟩ (.cons ⟨rfl, .vS rfl⟩ (.cons ⟨rfl, .inl rfl⟩ (.cons ⟨rfl, .vS rfl⟩ (.cons ⟨rfl, .vS rfl⟩ (.cons ⟨rfl, .inl rfl⟩ (.cons ⟨rfl, .vS rfl⟩ (.cons ⟨rfl, .vS rfl⟩ (.cons ⟨rfl, .inl rfl⟩ .nil)))))))))))))))) ?_
  conv => whnf
  repeat' (refine Gets.of _ rfl ?_; conv => whnf)
  refine CallS.of (by kernel_rfl) (mkM h24 (.roB rfl rfl) (.roB rfl rfl)) rfl ?_
  rintro _ _ ⟨rfl, rfl⟩
  conv => whnf
  repeat' (refine Gets.of _ rfl ?_; conv => whnf)
  refine CallS.of (by kernel_rfl) (mkM1 h25 (.roB rfl rfl) (.roB rfl rfl)) rfl ?_
  rintro _ _ ⟨rfl, rfl⟩
  conv => whnf
  repeat' (refine Gets.of _ rfl ?_; conv => whnf)
  refine CodeS.canon [] [(1, .int .i64 n), (2, .int .i64 k), (3, .ptr 2 0), (6, .bool false), (7, .int .i64 A1), (8, .int .i64 A2), (9, .int .i64 A1), (10, .int .i64 A2), (11, .ptr 5 0), (12, .int .i64 N2), (13, .ptr 8 0), (14, .int .i64 N2), (15, .ptr 11 0), (16, .int .i64 F2), (17, .ptr 14 0), (18, .int .i64 F2), (19, .ptr 17 0), (20, .int .i64 X2), (21, .ptr 19 0), (22, .int .i64 Y2)] (lw11 w N1 F1 X1 Y1) (renL [0, 1, 2, 3, 4, 5, 6, 7, 8, 9, 10, 11, 12, 13, 14, 15, 16, 17, 18, 19] 20) (by kernel_rfl) ⟨rfl, rfl, rfl, rfl, rfl, rfl, rfl, rfl, rfl, rfl, rfl, rfl, rfl, rfl, rfl, rfl, rfl, rfl, rfl, rfl, trivial⟩ (EmbL.litsN [0, 1, 2, 3, 4, 5, 6, 7, 8, 9, 10, 11, 12, 13, 14, 15, 16, 17, 18, 19] rfl rfl rfl rfl (.cons ⟨rfl, .inl ⟨rfl, fun h => h⟩⟩ (.cons ⟨rfl, .inl ⟨rfl, fun h => h⟩⟩ .nil)) (.cons ⟨rfl, .roI⟩ (.cons ⟨rfl, .roI⟩ (.cons ⟨rfl, .inl rfl⟩ (.cons ⟨rfl, .vS rfl⟩ (.cons ⟨rfl, .vS rfl⟩ (.cons ⟨rfl, .inl rfl⟩ (.cons ⟨rfl, .vS rfl⟩ (.cons ⟨rfl, .vS rfl⟩ (.cons ⟨rfl, .inl rfl⟩ (.cons ⟨rfl, .vS rfl⟩ (.cons ⟨rfl, .vS rfl⟩ (.cons ⟨rfl, .inl rfl⟩ (.cons ⟨rfl, .vS rfl⟩ (.cons ⟨rfl, .vS rfl⟩ (.cons ⟨rfl, .inl rfl⟩ (.cons ⟨rfl, .vS rfl⟩ (.cons ⟨rfl, .vS rfl⟩ (.cons ⟨rfl, .inl rfl⟩ (.cons ⟨rfl, .vS rfl⟩ (.cons ⟨rfl, .inl rfl⟩ .nil))))))))))))))))))))) ?_
  conv => whnf
  skip
  refine CodeS.drawT [2, 5, 8, 11, 14, 17, 19] (.take 0 (.take 1 (.take 3 (.take 4 (.one 2 true (.one 5 true (.take 6 (.take 7 (.take 8 (.take 9 (.take 10 (.take 11 (.take 12 (.take 13 (.take 14 (.take 15 (.take 16 (.take 17 (.take 18 (.take 19 (.take 20 (.take 21 (.one 22 true (.take 23 (.take 24 (.take 25 (.take 26 (.take 27 (.take 28 (.one 29 true (.take 30 (.take 31 (.take 32 (.take 33 (.take 34 (.take 35 (.one 36 true (.take 37 (.take 38 (.one 39 true (.take 40 (.take 41 .done)))))))))))))))))))))))))))))))))))))))))) mixed (by kernel_rfl) (.cons ⟨rfl, trivial⟩ (.cons ⟨rfl, trivial⟩ (.cons ⟨rfl, trivial⟩ (.cons ⟨rfl, trivial⟩ (.cons ⟨rfl, trivial⟩ (.cons ⟨rfl, trivial⟩ (.cons ⟨rfl, trivial⟩ .nil))))))) ?_
  conv => whnf
  repeat' (refine Gets.of _ rfl ?_; conv => whnf)
  refine CallPS.of (by kernel_rfl) (valid26a w hf n (.roB rfl rfl) (.roB rfl rfl)) rfl ?_
  rintro _ _ ⟨rfl, hp | hp⟩
  all_goals conv => whnf
  all_goals
    repeat' (refine Chk.mk (by repeat first | exact .nil | refine .cons rfl ?_) ?_; conv => whnf)
    refine CallPS.of (by kernel_rfl) (valid27a w hf n (.roB rfl rfl) (.roB rfl rfl)) rfl ?_
    rintro _ _ ⟨rfl, hq | hq⟩
    all_goals first | (exact absurd hp hq) | (exact absurd hq hp) | (conv => whnf)
    repeat' first | (refine Gets.of _ rfl ?_; conv => whnf) | (refine Chk.mk (by repeat first | exact .nil | refine .cons rfl ?_) ?_; conv => whnf) | (refine Fork.yesR rfl ?_; conv => whnf) | (refine Fork.dec (fun _ => ?_) (fun _ => ?_) <;> first | (exfalso; omega) | (conv => whnf))
    refine CallPS.of (by kernel_rfl) (is18q N1 N1 zN zN N2 N2 ⟨.vB rfl rfl, .vB rfl rfl⟩ ⟨.vB rfl rfl, .vB rfl rfl⟩) rfl ?_
    rintro _ _ ⟨rfl, hr | hr⟩
    all_goals first | (exact absurd ⟨rfl, rfl⟩ hr) | (conv => whnf)
    repeat' first | (refine Gets.of _ rfl ?_; conv => whnf) | (refine Chk.mk (by repeat first | exact .nil | refine .cons rfl ?_) ?_; conv => whnf)
    refine CallPS.of (by kernel_rfl) (is18q F1 F1 zF zF F2 F2 ⟨.vB rfl rfl, .vB rfl rfl⟩ ⟨.vB rfl rfl, .vB rfl rfl⟩) rfl ?_
    rintro _ _ ⟨rfl, hs | hs⟩
    all_goals first | (exact absurd ⟨rfl, rfl⟩ hs) | (conv => whnf)
    repeat' first | (refine Gets.of _ rfl ?_; conv => whnf) | (refine Chk.mk (by repeat first | exact .nil | refine .cons rfl ?_) ?_; conv => whnf)
    refine CallPS.of (by kernel_rfl) (is18q X1 Y1 zK (zL (by omega)) X2 Y2 ⟨.vB rfl rfl, .vB rfl rfl⟩ ⟨by rw [fL]; exact .roB rfl rfl, .vB rfl rfl⟩) rfl ?_
    rintro _ _ ⟨rfl, ht | ht⟩
    all_goals first | (exact absurd ⟨eKL, wKL⟩ ht) | (conv => whnf)
    repeat' (refine Chk.mk (by repeat first | exact .nil | refine .cons rfl ?_) ?_; conv => whnf)
    refine CallPS.of (by kernel_rfl) (awake9 _) rfl ?_
    rintro _ _ ⟨rfl, rfl⟩
    conv => whnf
    repeat' (refine Chk.mk (by repeat first | exact .nil | refine .cons rfl ?_) ?_; conv => whnf)
    rfl
theorem law5 : ∀ (H : AHeap) (avs0 avs1 avs2 : List AVal), NoRw H → Shape Tryd.prog H 4 24 avs0 → Shape Tryd.prog H 4 3 avs1 → Shape Tryd.prog H 4 3 avs2 → CallW Tryd.prog 5 [argOf Tryd.prog 24 avs0, argOf Tryd.prog 3 avs1, argOf Tryd.prog 3 avs2] H fun v _ => v = .bool true := by
  intro H avs0 avs1 avs2 hN h0 h1 h2
  obtain ⟨w, i, j, e, hf, a1, a2⟩ := shape_word h0
  obtain ⟨m, rfl, hm⟩ := shape_int h1
  obtain ⟨n, rfl, hn⟩ := shape_int h2
  rw [e]
  have e1 : argOf Tryd.prog 3 [.int .i64 m] = .int .i64 m := by unfold argOf; rw [Tryd.underlying3]; rfl
  have e2 : argOf Tryd.prog 3 [.int .i64 n] = .int .i64 n := by unfold argOf; rw [Tryd.underlying3]; rfl
  rw [e1, e2]
  exact lift_word (rest := [.int .i64 m, .int .i64 n]) (law5c w hf m n hm hn) (by rintro v rfl; rfl) (fun _ => rfl) a1 a2
end Go.Proofs.YthjemhlcojmiaaaDoor
