/- The states that can be reached, as the program finds them. -/
import Derived.Test.YtdahmcgncpoliaaVhZb
import Derived.Test.YtdahmcgncpoliaaRch
import Derived.Test.YtdahmcgncpoliaaAwh
set_option linter.unusedVariables false
set_option linter.unusedSimpArgs false
set_option maxRecDepth 100000
namespace Go.Proofs.Ytdahmcgncpoliaa
open Go Go.Vh Go.Proofs
def rangeOf : Code → Option (Code × Code)
  | .rangeFunc _ _ a b => some (a, b)
  | .seq a b => match rangeOf a with
    | some x => some x
    | none => rangeOf b
  | .block _ c => rangeOf c
  | _ => none
noncomputable def code19 : Code × Code := ((Try.f19.body.bind rangeOf)).getD (.skip, .skip)
noncomputable def loop19 : ALoop := ⟨envOf [(4, .ptr 4 0)], 19, [14], code19.1, code19.2, none, .ready⟩
theorem loop19_ren {κ : Nat → Nat} (h : κ 4 = 4) : renB κ (.loop loop19) = .loop loop19 := by
  have : renE κ loop19.env = loop19.env := by
    funext t
    show ren κ (envOf [(4, .ptr 4 0)] t) = envOf [(4, .ptr 4 0)] t
    simp only [envOf]
    split
    · rw [ren, h]
    · rfl
  show ABlk.loop { loop19 with env := renE κ loop19.env } = _
  rw [this]
noncomputable def Au.F0 (a : Au) (out : List Bool) : AHeap := (((((a.heap.alloc a.boxS).alloc (.cells 1 (bls out))).alloc (.cells 1 [.slice 3 0 a.states.toNat])).alloc a.boxS).alloc (.loop loop19))
noncomputable def Au.F (a : Au) (out : List Bool) (ver : Nat → Nat) : AHeap := ⟨7, (a.F0 out).f, ver⟩
noncomputable def Au.FB (a : Au) (out : List Bool) (rows : List (List Int)) (seen : List Bool) (stk : List Int) (ver : Nat → Nat) : AHeap := (((a.F out ver).alloc (.cells 1 (rowVg (fun t => 10 + t) 1 rows))).alloc (.cells 1 (bls seen))).alloc (.cells 1 (ints stk))
noncomputable def Au.FR (a : Au) (out : List Bool) (rows : List (List Int)) (seen : List Bool) (stk : List Int) (ver : Nat → Nat) : AHeap := rowsAt (a.FB out rows seen stk ver) 1 rows
def Au.ks (S : Nat) : List Nat := [0, 1, 2, 3, 4, 5, 6, 7, 8 + S, 9 + S]
/-- As the rows lie behind: told anew. -/
theorem Au.FR_emb {a : Au} {out : List Bool} {rows : List (List Int)} {seen : List Bool} {stk : List Int} {H : AHeap} (i8 i9 : Nat) (g : Nat → Nat) {m : Nat} (hm : H.n = m) (h7 : 7 < i8 ∧ i8 < m) (h9 : 7 < i9 ∧ i9 < m) (hne : i8 ≠ i9) (hg : ∀ t, t < rows.length → 7 < g t ∧ g t < m ∧ g t ≠ i8 ∧ g t ≠ i9) (hgi : ∀ s t, s ≠ t → g s ≠ g t)
    (f0 : ∀ i, i < 7 → H.f i = (a.F0 out).f i) (f7 : H.f 7 = .cells 1 (rowVg g 1 rows)) (f8 : H.f i8 = .cells 1 (bls seen)) (f9 : H.f i9 = .cells 1 (ints stk)) (fr : ∀ t x l, rows[t]? = some (x :: l) → H.f (g t) = .cells 1 (ints (x :: l))) :
    Emb 7 (rk [0, 1, 2, 3, 4, 5, 6, 7, i8, i9] g rows.length m) (a.FR out rows seen stk H.ver) H := by
  refine Emb.rows (G := a.FB out rows seen stk H.ver) (rows := rows) [0, 1, 2, 3, 4, 5, 6, 7, i8, i9] g hm rfl (by show 7 ≤ 10; decide) (by simp; omega) (fun i hi => ?_) (fun i k hk => ?_) (fun s hs => (hg s hs).2.1) (fun s x l h => ?_) (fun s t x l y m h h' hst => hgi s t hst)
  · refine ⟨?_, rfl, ?_⟩
    · rcases i with _ | _ | _ | _ | _ | _ | _ | i <;> first | rfl | omega
    · rw [f0 i hi]
      rcases i with _ | _ | _ | _ | _ | _ | _ | i <;> first | exact fun h => h | omega
  · have hk4 : rk [0, 1, 2, 3, 4, 5, 6, 7, i8, i9] g rows.length m 4 = 4 := rfl
    rcases i with _ | _ | _ | _ | _ | _ | _ | _ | _ | _ | i
    · cases hk; exact ⟨by omega, by rw [f0 0 (by decide)]; exact .roI⟩
    · cases hk; exact ⟨by omega, by rw [f0 1 (by decide)]; exact .roI⟩
    · cases hk; exact ⟨by omega, by rw [f0 2 (by decide)]; exact .inl rfl⟩
    · cases hk; exact ⟨by omega, by rw [f0 3 (by decide)]; exact .cellsB⟩
    · cases hk; exact ⟨by omega, by rw [f0 4 (by decide)]; exact .inl rfl⟩
    · cases hk; exact ⟨by omega, by rw [f0 5 (by decide)]; exact .inl rfl⟩
    · cases hk; exact ⟨by omega, by rw [f0 6 (by decide)]; exact .inl (loop19_ren hk4).symm⟩
    · cases hk
      refine ⟨by omega, ?_⟩
      rw [f7]
      refine .inl ?_
      show _ = renB _ (.cells 1 (rowVg (fun t => 10 + t) 1 rows))
      rw [renB, rens_rowVg]
      congr 1
      refine rowVg_congr fun t x l ht => ?_
      have := (List.getElem?_eq_some_iff.1 ht).1
      exact (rk_row (ks := [0, 1, 2, 3, 4, 5, 6, 7, i8, i9]) (m := m) this).symm
    · cases hk; exact ⟨h7.2, by rw [f8]; exact .cellsB⟩
    · cases hk; exact ⟨h9.2, by rw [f9]; exact .cellsI⟩
    · simp at hk
  · have hs := (List.getElem?_eq_some_iff.1 h).1
    have := hg s hs
    exact ⟨by simp; omega, fr s x l h⟩
end Go.Proofs.Ytdahmcgncpoliaa
