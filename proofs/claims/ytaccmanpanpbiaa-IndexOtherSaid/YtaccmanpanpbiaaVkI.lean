import Derived.Test.YtaccmanpanpbiaaVkH
/- Rows of which it is not told whether they are nil, in blocks of their own. -/
set_option linter.unusedVariables false
set_option linter.unusedSimpArgs false
namespace Go.Vk
open Go.Vh
variable {P : Program}
def vB : List Int → ABlk
  | [] => .ro 1 []
  | x :: l => .cells 1 (ints (x :: l))
theorem fresh_vB (l : List Int) : freshB (vB l) = true := by cases l <;> rfl
theorem vB_fresh {l : List Int} : (vB l).fresh := by cases l <;> simp [vB, ABlk.fresh]
theorem renB_vB (κ : Nat → Nat) (l : List Int) : renB κ (vB l) = vB l := by
  cases l with
  | nil => rfl
  | cons x l => show ABlk.cells 1 (rens κ (ints _)) = _; rw [rens_ints]; rfl
theorem At.vB {H : AHeap} {k : Nat} {l : List Int} (h : Nat.blt k H.n = true) (hf : H.f k = vB l) : At H 1 (ints l) k := by
  cases l with
  | nil => exact .ro (l := []) (Nat.le_of_ble_eq_true h) hf
  | cons x l => exact .cells (Nat.le_of_ble_eq_true h) hf
theorem At.vBr {H : AHeap} {k : Nat} {l : List Int} {κ' : Nat → Nat} (h : Nat.blt k H.n = true) (hf : H.f k = renB κ' (Vk.vB l)) : At H 1 (ints l) k := .vB h (hf.trans (renB_vB _ _))
theorem At.roB {H : AHeap} {es : Nat} {l : List Int} {k : Nat} (h : Nat.blt k H.n = true) (hf : H.f k = .ro es (ints l)) : At H es (ints l) k := .ro (Nat.le_of_ble_eq_true h) hf
theorem At.celB {H : AHeap} {es : Nat} {l : List Int} {k : Nat} (h : Nat.blt k H.n = true) (hf : H.f k = .cells es (ints l)) : At H es (ints l) k := .cells (Nat.le_of_ble_eq_true h) hf
theorem _root_.Go.Vh.BSub.vS {κ : Nat → Nat} {l l' : List Int} (h : l = l') : BSub κ (vB l) (vB l') := by subst h; exact .same (renB_vB _ _)
theorem _root_.Go.Vh.BSub.toV {κ κ' : Nat → Nat} {l : List Int} : BSub κ (vB l) (renB κ' (vB l)) := by rw [renB_vB]; exact .vS rfl
theorem _root_.Go.Vh.BSub.vC {κ : Nat → Nat} {l l' : List Int} (h : l = l') : BSub κ (vB l) (.cells 1 (ints l')) := by
  subst h
  cases l with
  | nil => exact .roEc
  | cons x l => exact .cellsI
theorem _root_.Go.Vh.BSub.vCr {κ κ' : Nat → Nat} {l l' : List Int} (h : l = l') : BSub κ (vB l) (.cells 1 (rens κ' (ints l'))) := by rw [rens_ints]; exact .vC h
theorem _root_.Go.Vh.BSub.vE {κ : Nat → Nat} {l : List Int} {cs : List AVal} (h : l = []) : BSub κ (vB l) (.ro 1 cs) := by subst h; exact .roE
theorem _root_.Go.Vh.BSub.roV {κ : Nat → Nat} {l : List Int} : BSub κ (.ro 1 (ints l)) (vB l) := (At.vB (H := ⟨1, fun _ => vB l, fun _ => 0⟩) (k := 0) rfl rfl).blk κ
theorem _root_.Go.Vh.BSub.roVr {κ κ' : Nat → Nat} {l : List Int} : BSub κ (.ro 1 (ints l)) (renB κ' (vB l)) := by rw [renB_vB]; exact .roV
theorem _root_.Go.Vh.BSub.roCe {κ : Nat → Nat} {l l' : List Int} (h : l = l') : BSub κ (.ro 1 (ints l)) (.cells 1 (ints l')) := by subst h; exact .roCells
/-! ### Rows behind rows -/
theorem src_at {H : AHeap} {j n : Nat} {xs : List Int} (hn : xs.length = n) (hx : (∃ es, es = 1 ∧ H.f j = .ro es (ints xs)) ∨ H.f j = .cells 1 (ints xs)) : srcA H 1 (.slice j 0 n) = some (ints xs, n) ∧ srcA H 1 (.view j 0 n) = some (ints xs, n) := by
  subst hn
  have hl : (ints xs).length = xs.length := nums_length _ _
  rcases hx with ⟨_, rfl, hx⟩ | hx
  all_goals
    constructor <;> (simp only [srcA, hx, hl, List.drop_zero, Nat.zero_add, Nat.mul_one, Nat.le_refl, and_self, if_true]; rw [List.take_of_length_le (by rw [hl]; exact Nat.le_refl _)])
/-- A part of a row. -/
theorem src_part {H : AHeap} {j off n : Nat} {xs : List Int} (hn : off + n ≤ xs.length) (hx : H.f j = .ro 1 (ints xs) ∨ H.f j = .cells 1 (ints xs)) : srcA H 1 (.slice j off n) = some (ints ((xs.drop off).take n), n) ∧ srcA H 1 (.view j off n) = some (ints ((xs.drop off).take n), n) := by
  have hl : (ints xs).length = xs.length := nums_length _ _
  have e : ((ints xs).drop off).take n = ints ((xs.drop off).take n) := by simp [ints, List.map_drop, List.map_take]
  rcases hx with hx | hx
  all_goals
    constructor <;> (simp only [srcA, hx, hl, Nat.mul_one, true_and, if_pos hn, e])
theorem Gets.appSrc {H : AHeap} {t tx : TypeId} {ti : TI} {d : TypeDesc} {i m n : Nat} {x : AVal} {l xs : List Int} {A : AVal × AHeap → Prop} (ht : sliceT P t = some ti) (hd : P.underlying tx = some d) (hr : rowD d = true) (hsz : ti.size = 1) (hz : ti.zero.length = 1) (hb : ti.bytes ≤ 4096)
    (hm : m ≤ l.length) (hx : srcA H 1 x = some (ints xs, n)) (hf : H.f i = .cells 1 (ints l)) (hl : m + n ≤ 4294967296)
    (hA : A (.slice H.n 0 (m + n), (H.set i .dead).alloc (.cells 1 (ints (l.take m ++ xs))))) : Gets (builtA P H .append [t, tx] [.slice i 0 m, x]) A :=
  Gets.appG ht hd hr hsz hz hb hf hx (by rw [ints, List.length_map]; omega) hl (nums_scalar _ _) (by
    have : (ints l).take (m * 1) ++ ints xs = ints (l.take m ++ xs) := by rw [Nat.mul_one]; simp [ints, List.map_take]
    rw [this]; exact hA)
theorem Gets.appNil0 {H : AHeap} {t tx : TypeId} {ti : TI} {d : TypeDesc} {x : AVal} {xs : List AVal} {A : AVal × AHeap → Prop} (ht : sliceT P t = some ti) (hd : P.underlying tx = some d) (hr : rowD d = true) (hsz : ti.size = 1) (hz : ti.zero.length = 1) (hb : ti.bytes ≤ 4096)
    (hx : srcA H 1 x = some (xs, 0)) (hA : A (.nilSlice, H)) : Gets (builtA P H .append [t, tx] [.nilSlice, x]) A := by
  refine ⟨⟨_, ?_, hA⟩⟩
  simp only [builtA, apureB, amemB, app2 hd hr, aappend, ht, hd]
  rw [if_pos ⟨hr, hb, by rw [hz, hsz]⟩]
  simp only [hsz, hx, if_true]
theorem Gets.appNilS {H : AHeap} {t tx : TypeId} {ti : TI} {d : TypeDesc} {n : Nat} {x : AVal} {xs : List AVal} {A : AVal × AHeap → Prop} (ht : sliceT P t = some ti) (hd : P.underlying tx = some d) (hr : rowD d = true) (hsz : ti.size = 1) (hz : ti.zero.length = 1) (hb : ti.bytes ≤ 4096)
    (hx : srcA H 1 x = some (xs, n)) (hn : 0 < n) (hl : n ≤ 4294967296) (hA : A (.slice H.n 0 n, H.alloc (.cells 1 xs))) : Gets (builtA P H .append [t, tx] [.nilSlice, x]) A := by
  refine ⟨⟨_, ?_, hA⟩⟩
  simp only [builtA, apureB, amemB, app2 hd hr, aappend, ht, hd]
  rw [if_pos ⟨hr, hb, by rw [hz, hsz]⟩]
  simp only [hsz, hx]
  rw [if_neg (by omega), if_pos hl]
/-- So many zeros behind nil. -/
theorem Gets.appZ {H : AHeap} {t tx : TypeId} {ti : TI} {kd k : IntKind} {n : Int} {A : AVal × AHeap → Prop} (ht : sliceT P t = some ti) (hd : P.underlying tx = some (.int kd)) (hz : ti.zero = [.int .i64 0]) (hsz : ti.size = 1) (hb : ti.bytes ≤ 4096) (h0 : 0 < n) (h1 : n ≤ 4294967296)
    (hA : A (.slice H.n 0 n.toNat, H.alloc (.cells 1 (ints (List.replicate n.toNat 0))))) : Gets (builtA P H .append [t, tx] [.nilSlice, .int k n]) A := by
  refine ⟨⟨_, ?_, hA⟩⟩
  simp only [builtA, apureB, amemB, aappend2, aappendZ, ht, hd]
  rw [if_pos ⟨h0, h1, hb, by rw [hz, hsz]; rfl, by rw [hz]; decide⟩]
  simp only [hz, hsz, Nat.mul_one, zerosA_one]
  congr 4
  simp [ints]
/-- A contract for a view, from one for a slice and one for nil. -/
theorem _root_.Go.Vh.CallW.nilOr {f : FuncId} {i n : Nat} {rest : List AVal} {H : AHeap} {K : AVal → AHeap → Prop} (h1 : CallW P f (.slice i 0 n :: rest) H K) (h2 : n = 0 → CallW P f (.nilSlice :: rest) H K) : CallW P f (.view i 0 n :: rest) H K :=
  CallW.viewsOr h1 h2 fun φ w cs hR hv => by
    cases cs with
    | nil => simp [VRels] at hv
    | cons c cs =>
      obtain ⟨a, b⟩ := VRels_cons.1 hv
      obtain ⟨bi, hb, ⟨h0, h⟩ | ⟨cap, ad, h3, h4, h5⟩⟩ := a
      · exact .inr ⟨h0, VRels_cons.2 ⟨h, b⟩⟩
      · exact .inl (VRels_cons.2 ⟨⟨bi, cap, ad, hb, h3, h4, h5⟩, b⟩)
variable {N : Nat} {ρ : Option Nat} {n0 : Nat}
/-- A scope whose labels nothing jumps to. -/
theorem CodeS.scope0 {cuts : List Nat} {c : Code} {e : Env} {H : AHeap} {K : Exit → Env → AHeap → Prop} (hok : okCode N c = true) (h : sc P N ρ n0 cuts c e H fun x e H => match x with
    | .goto _ => False
    | x => K x e H) : CodeS P N ρ n0 (.scope c) e H K := by
  refine ⟨CWF.scope (fun _ _ _ _ => False) ((sc_sound c _ _ _ hok h).mono ?_) (fun _ _ _ _ _ _ h => h.elim)⟩
  intro x e' H' hx
  cases x with
  | goto l => exact hx.elim
  | _ => exact hx
end Go.Vk
