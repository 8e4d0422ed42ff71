import Derived.Test.YtaccmanpanpbiaaVhU
import Derived.Test.YtaccmanpanpbiaaVhR
/- Rows of whole numbers. -/
set_option linter.unusedVariables false
set_option linter.unusedSimpArgs false
namespace Go.Vh
variable {P : Program}
/-- Whole numbers as cells. -/
def ints (l : List Int) : List AVal := l.map (AVal.int .i64)
theorem ints_length (l : List Int) : (ints l).length = l.length := by simp [ints]
theorem ints_get (l : List Int) (j : Nat) : (ints l)[j]? = (l[j]?).map (AVal.int .i64) := by simp [ints]
theorem rens_ints (κ : Nat → Nat) (l : List Int) : rens κ (ints l) = ints l := by
  induction l with
  | nil => rfl
  | cons a l ih => simp only [ints, List.map_cons, rens, ren] at ih ⊢; rw [ih]
def fits64 (n : Int) : Prop := -9223372036854775808 ≤ n ∧ n ≤ 9223372036854775807
theorem wf_i64 {n : Int} (h : (Lit.int .i64 n).wf = true) : fits64 n := by
  simp only [Lit.wf, Bool.and_eq_true, decide_eq_true_eq] at h
  have h1 : IntKind.min .i64 = -9223372036854775808 := by decide
  have h2 : IntKind.max .i64 = 9223372036854775807 := by decide
  rw [h1, h2] at h
  exact h
/-- A list of which each element is a whole number. -/
theorem ints_of {cells : List AVal} (h : ∀ (j : Nat) (v : AVal), cells[j]? = some v → ∃ n, v = AVal.int .i64 n ∧ fits64 n) : ∃ l : List Int, cells = ints l ∧ ∀ x ∈ l, fits64 x := by
  induction cells with
  | nil => exact ⟨[], rfl, by simp⟩
  | cons v cells ih =>
    obtain ⟨n, rfl, hn⟩ := h 0 v rfl
    obtain ⟨l, rfl, hl⟩ := ih fun j u hu => h (j + 1) u (by simpa using hu)
    exact ⟨n :: l, rfl, fun x hx => by
      rcases List.mem_cons.1 hx with rfl | hx
      · exact hn
      · exact hl x hx⟩
theorem take_one {α : Type} {l : List α} {j : Nat} {v : α} (h : (l.drop j).take 1 = [v]) : l[j]? = some v := by
  have : ((l.drop j).take 1)[0]? = some v := by rw [h]; rfl
  rw [List.getElem?_take, if_pos (by decide), List.getElem?_drop] at this
  simpa using this
theorem Shape.ints {H : AHeap} {n len : Nat} {e : TypeId} {cells : List AVal} (hu : P.underlying e = some (.int .i64)) (hc : P.cellsOf e = 1) (hl : cells.length = len * P.cellsOf e) (h : ∀ j, j < len → Shape P H n e ((cells.drop (j * P.cellsOf e)).take (P.cellsOf e))) :
    ∃ l : List Int, cells = Vh.ints l ∧ l.length = len ∧ ∀ x ∈ l, fits64 x := by
  rw [hc, Nat.mul_one] at hl
  have : ∃ l : List Int, cells = Vh.ints l ∧ ∀ x ∈ l, fits64 x := ints_of fun j v hv => by
    have hj : j < len := by have := (List.getElem?_eq_some_iff.1 hv).1; omega
    have hs := h j hj
    rw [hc, Nat.mul_one] at hs
    cases n with
    | zero => exact hs.elim
    | succ n =>
      unfold Shape at hs
      rw [hu] at hs
      obtain ⟨m, hm, hw⟩ := hs
      have := take_one hm
      rw [hv] at this
      cases this
      exact ⟨m, rfl, wf_i64 hw⟩
  obtain ⟨l, rfl, hx⟩ := this
  exact ⟨l, rfl, by rw [← hl, ints_length], hx⟩
/-- A struct of whole numbers. -/
def flatI (P : Program) (t : TypeId) : Bool :=
  match P.underlying t with
  | some (.struct fs) => fs.size == P.cellsOf t && (List.range fs.size).all fun i => match fs[i]? with
    | some f => f.offset == i && (match P.underlying f.type with | some (.int .i64) => true | _ => false) && P.cellsOf f.type == 1
    | none => false
  | _ => false
theorem Shape.flat {H : AHeap} {n : Nat} {t : TypeId} {avs : List AVal} (hf : flatI P t = true) (h : Shape P H n t avs) : ∃ l : List Int, avs = Vh.ints l ∧ l.length = P.cellsOf t ∧ ∀ x ∈ l, fits64 x := by
  unfold flatI at hf
  split at hf
  · rename_i fs hu
    simp only [Bool.and_eq_true, beq_iff_eq, List.all_eq_true, List.mem_range] at hf
    obtain ⟨hsz, hall⟩ := hf
    cases n with
    | zero => exact h.elim
    | succ n =>
      unfold Shape at h
      rw [hu] at h
      obtain ⟨hl, hsh⟩ := h
      have : ∃ l : List Int, avs = Vh.ints l ∧ ∀ x ∈ l, fits64 x := ints_of fun j v hv => by
        have hj : j < fs.size := by have := (List.getElem?_eq_some_iff.1 hv).1; omega
        have ha := hall j hj
        cases hfj : fs[j]? with
        | none => rw [hfj] at ha; cases ha
        | some f =>
          rw [hfj] at ha
          simp only [Bool.and_eq_true, beq_iff_eq] at ha
          obtain ⟨⟨ho, hk⟩, hc⟩ := ha
          have hs := hsh j f hfj
          rw [ho, hc] at hs
          cases n with
          | zero => exact hs.elim
          | succ n =>
            unfold Shape at hs
            split at hk
            · rename_i hfu
              rw [hfu] at hs
              obtain ⟨m, hm, hw⟩ := hs
              have := take_one hm
              rw [hv] at this
              cases this
              exact ⟨m, rfl, wf_i64 hw⟩
            · cases hk
      obtain ⟨l, rfl, hx⟩ := this
      exact ⟨l, rfl, by rw [← hl, ints_length], hx⟩
  · cases hf
/-- A row of structs of whole numbers: its cells are whole numbers. -/
theorem Shape.flats {H : AHeap} {n len : Nat} {e : TypeId} {cells : List AVal} (hf : flatI P e = true) (hl : cells.length = len * P.cellsOf e) (h : ∀ j, j < len → Shape P H n e ((cells.drop (j * P.cellsOf e)).take (P.cellsOf e))) :
    ∃ l : List Int, cells = Vh.ints l ∧ l.length = len * P.cellsOf e ∧ ∀ x ∈ l, fits64 x := by
  have : ∃ l : List Int, cells = Vh.ints l ∧ ∀ x ∈ l, fits64 x := ints_of fun q v hv => by
    have hq : q < len * P.cellsOf e := by have := (List.getElem?_eq_some_iff.1 hv).1; omega
    have hpos : 0 < P.cellsOf e := by
      rcases Nat.eq_zero_or_pos (P.cellsOf e) with h0 | h0
      · rw [h0] at hq; omega
      · exact h0
    have hj : q / P.cellsOf e < len := by rw [Nat.div_lt_iff_lt_mul hpos]; exact hq
    obtain ⟨l, hl', _, hx⟩ := (h _ hj).flat hf
    have hr : q % P.cellsOf e < P.cellsOf e := Nat.mod_lt _ hpos
    have : ((cells.drop (q / P.cellsOf e * P.cellsOf e)).take (P.cellsOf e))[q % P.cellsOf e]? = some v := by
      rw [List.getElem?_take, if_pos hr, List.getElem?_drop, Nat.mul_comm, Nat.div_add_mod]
      exact hv
    rw [hl', ints_get] at this
    cases hg : l[q % P.cellsOf e]? with
    | none => rw [hg] at this; cases this
    | some m =>
      rw [hg] at this
      cases this
      exact ⟨m, rfl, hx m (List.mem_of_getElem? hg)⟩
  obtain ⟨l, rfl, hx⟩ := this
  exact ⟨l, rfl, by rw [← hl, ints_length], hx⟩
/-! ### Reading -/
theorem Gets.ixV {t e : TypeId} {i o n es : Nat} {k : IntKind} {j : Int} {A : AVal → Prop} (hu : P.underlying t = some (.slice e)) (hes : elemSize P t = some es) (h0 : 0 ≤ j) (h1 : j < n) (hA : A (.ptr i (o + j.toNat * es))) : Gets (ixA P t (.view i o n) (.int k j)) A :=
  ⟨⟨_, by simp only [ixA, hu, aindexAddr, hes]; rw [if_pos ⟨h0, h1⟩], hA⟩⟩
theorem Gets.ixS {t e : TypeId} {i o n es : Nat} {k : IntKind} {j : Int} {A : AVal → Prop} (hu : P.underlying t = some (.slice e)) (hes : elemSize P t = some es) (h0 : 0 ≤ j) (h1 : j < n) (hA : A (.ptr i (o + j.toNat * es))) : Gets (ixA P t (.slice i o n) (.int k j)) A :=
  ⟨⟨_, by simp only [ixA, hu, aindexAddr, hes]; rw [if_pos ⟨h0, h1⟩], hA⟩⟩
/-- A whole number out of a row. -/
theorem Gets.loadI {H : AHeap} {t : TypeId} {ti : TI} {i off : Nat} {l : List Int} {A : AVal → Prop} (ht : tinfo P t = some ti) (hag : ti.agg = false) (hf : (H.f i).cs = ints l) (h : off < l.length) (hA : A (.int .i64 l[off])) : Gets (loadA P H t (.ptr i off)) A :=
  ⟨⟨_, by simp only [loadA, ht, AHeap.load, hag, Bool.false_eq_true, if_false, hf, ints_get, List.getElem?_eq_getElem h, Option.map_some], hA⟩⟩
/-- A struct of five whole numbers out of a row. -/
theorem take5 (l : List Int) (off : Nat) (h : off + 5 ≤ l.length) : (l.drop off).take 5 = [l[off], l[off + 1], l[off + 2], l[off + 3], l[off + 4]] := by
  rw [List.drop_eq_getElem_cons (by omega), List.drop_eq_getElem_cons (by omega), List.drop_eq_getElem_cons (by omega), List.drop_eq_getElem_cons (by omega), List.drop_eq_getElem_cons (by omega)]
  rfl
theorem Gets.load5 {H : AHeap} {t : TypeId} {ti : TI} {i off : Nat} {l : List Int} {A : AVal → Prop} (ht : tinfo P t = some ti) (hag : ti.agg = true) (hsz : ti.size = 5) (hf : (H.f i).cs = ints l) (h : off + 5 ≤ l.length)
    (hA : A (.agg [.int .i64 l[off], .int .i64 l[off + 1], .int .i64 l[off + 2], .int .i64 l[off + 3], .int .i64 l[off + 4]])) : Gets (loadA P H t (.ptr i off)) A := by
  refine ⟨⟨_, ?_, hA⟩⟩
  simp only [loadA, ht, AHeap.load, hag, if_true, hsz, hf, ints_length, if_pos h]
  congr 2
  have : ((ints l).drop off).take 5 = ints ((l.drop off).take 5) := by simp [ints, List.map_take, List.map_drop]
  rw [this, take5 l off h]
  rfl
end Go.Vh
