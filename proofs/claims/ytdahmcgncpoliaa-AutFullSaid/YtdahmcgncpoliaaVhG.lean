/- Rows: made, cut, appended to, copied. -/
import Derived.Test.YtdahmcgncpoliaaVhF
set_option linter.unusedVariables false
set_option linter.unusedSimpArgs false
namespace Go.Vh
variable {P : Program}

theorem row_new {φ : PMap} {H : AHeap} {w : World} (hR : Rel φ H w) (elem : TypeId) (arr : Array Value) (cs : List AVal) (es : Nat) (hl : cs.length ≤ arr.size) (h : VRels φ cs (arr.toList.take cs.length)) :
    ∃ φ' w', (newRow elem arr).run P w = .ok ⟨w.heap.size, 0, none⟩ w' ∧ Rel φ' (H.alloc (.cells es cs)) w' ∧ Ext φ H w φ' (H.alloc (.cells es cs)) w' ∧ φ' H.n = some ⟨w.heap.size, 0, es, arr.size⟩ := by
  have hx := rel_new hR (.cells arr elem) (.cells es cs) trivial es arr.size ⟨rfl, arr, elem, by simp, by simp, hl, by simpa using VRels_mono (PMap.ext_le (hR.dom H.n (Nat.le_refl _)) _) _ _ h⟩
  exact ⟨_, { w with heap := w.heap.push (.cells arr elem) }, by simp [newRow, newObj, Sem.run, Sem.run_bind, Result.andThen], hx.1, hx.2, PMap.ext_same _ _ _⟩

def aalloc (P : Program) (H : AHeap) (t : TypeId) : Option (AVal × AHeap) := (tinfo P t).map fun ti => (.ptr H.n 0, H.alloc (.cells 1 ti.zero))
theorem fine_alloc {φ : PMap} {H H' : AHeap} {w : World} (hR : Rel φ H w) {t : TypeId} {v : AVal} (h : aalloc P H t = some (v, H')) : Fine P φ H w (Instr.alloc t true (.tuple #[])) v H' := by
  unfold aalloc at h
  cases ht : tinfo P t with
  | none => simp [ht] at h
  | some ti =>
    simp only [ht, Option.map_some, Option.some.injEq, Prod.mk.injEq] at h
    obtain ⟨rfl, rfl⟩ := h
    obtain ⟨inf, d, z, hi, hd, hz, hsz, hby, hag, hze⟩ := tinfo_spec ht
    have hlen : ti.zero.length = z.cells.size := by rw [hze]; simp
    obtain ⟨φ', w', hrun, hR', hE, hφ⟩ := row_new (P := P) hR t z.cells ti.zero 1 (by rw [hlen]; exact Nat.le_refl _) (by rw [hlen, ← Array.length_toList, List.take_length, hze]; exact absS_rels φ _)
    refine ⟨.pointer (some ⟨w.heap.size, 0, none⟩), w', φ', ?_, ⟨_, hφ, rfl⟩, hR', hE⟩
    simp [Instr.alloc, Sem.run_bind, run_zeroValue' hi hz, Result.andThen, newVar, hrun]
def abox (H : AHeap) (x : AVal) : Option (AVal × AHeap) := x.cells.map fun l => (.ptr H.n 0, H.alloc (.cells 1 l))
theorem fine_box {φ : PMap} {H H' : AHeap} {w : World} (hR : Rel φ H w) {t : TypeId} {x v : AVal} {c : Value} (hx : VRel φ x c) (h : abox H x = some (v, H')) : Fine P φ H w (Instr.box t c) v H' := by
  unfold abox at h
  cases hc : x.cells with
  | none => simp [hc] at h
  | some l =>
    simp only [hc, Option.map_some, Option.some.injEq, Prod.mk.injEq] at h
    obtain ⟨rfl, rfl⟩ := h
    have hcl := cells_rel hc hx
    have hlen := VRels_length hcl
    rw [Array.length_toList] at hlen
    obtain ⟨φ', w', hrun, hR', hE, hφ⟩ := row_new (P := P) hR t c.cells l 1 (by omega) (by rw [← hlen, ← Array.length_toList, List.take_length]; exact hcl)
    refine ⟨.pointer (some ⟨w.heap.size, 0, none⟩), w', φ', ?_, ⟨_, hφ, rfl⟩, hR', hE⟩
    simp [Instr.box, Sem.run_bind, Result.andThen, newVar, hrun]

/-! ### Literals -/
def fillA (place : Nat → Option (Nat × Nat)) (cells : List AVal) : List (Nat × AVal) → Option (List AVal)
  | [] => some cells
  | (i, v) :: r => match place i, v.cells with
    | some (off, size), some l => if l.length = size ∧ off + size ≤ cells.length then fillA place (cells.take off ++ l ++ cells.drop (off + size)) r else none
    | _, _ => none
theorem foldl_set : ∀ (l : List Value) (k off : Nat) (cells : Array Value), off + k + l.length ≤ cells.size →
    ((l.zipIdx k).foldl (fun cs (c, j) => cs.setIfInBounds (off + j) c) cells).toList = cells.toList.take (off + k) ++ l ++ cells.toList.drop (off + k + l.length)
  | [], k, off, cells, _ => by simp
  | v :: l, k, off, cells, h => by
    simp only [List.length_cons] at h
    rw [List.zipIdx_cons, List.foldl_cons, foldl_set l (k + 1) off _ (by simp; omega)]
    simp only [Array.toList_setIfInBounds, List.length_cons]
    apply List.ext_getElem?
    intro q
    simp only [List.getElem?_append, List.length_append, List.length_take, List.length_set, List.length_cons, List.getElem?_take, List.getElem?_drop, List.getElem?_set, Array.length_toList, List.getElem?_cons]
    repeat' split
    all_goals first | rfl | omega | (congr 1; omega) | (exfalso; omega) | skip
theorem fill_run {φ : PMap} {place : Nat → Option (Nat × Nat)} : ∀ (ps : List (Nat × AVal)) (qs : List (Nat × Value)) (cells : List AVal) (arr : Array Value) (r : List AVal), ps.map (·.1) = qs.map (·.1) → VRels φ (ps.map (·.2)) (qs.map (·.2)) → VRels φ cells arr.toList → fillA place cells ps = some r →
    ∃ arr', Instr.fill place arr qs = some arr' ∧ VRels φ r arr'.toList ∧ arr'.size = arr.size
  | [], qs, cells, arr, r, h1, h2, h3, h => by
    obtain rfl : qs = [] := by cases qs <;> simp_all
    cases h
    exact ⟨arr, rfl, h3, rfl⟩
  | (i, v) :: ps, [], _, _, _, h1, _, _, _ => by simp at h1
  | (i, v) :: ps, (j, c) :: qs, cells, arr, r, h1, h2, h3, h => by
    simp only [List.map_cons, List.cons.injEq] at h1
    obtain ⟨rfl, h1⟩ := h1
    simp only [List.map_cons] at h2
    have hv := (VRels_cons.1 h2).1
    simp only [fillA] at h
    cases hp : place i with
    | none => simp [hp] at h
    | some os =>
      obtain ⟨off, size⟩ := os
      cases hc : v.cells with
      | none => simp [hp, hc] at h
      | some l =>
        simp only [hp, hc] at h
        split at h
        · rename_i hcond
          obtain ⟨hl, hle⟩ := hcond
          have hcl := cells_rel hc hv
          have hlen := VRels_length hcl
          rw [Array.length_toList] at hlen
          have h3l := VRels_length h3
          rw [Array.length_toList] at h3l
          have hsz : c.cells.size = size := by omega
          have hfold := foldl_set c.cells.toList 0 off arr (by rw [Array.length_toList]; omega)
          have hzip : c.cells.zipIdx.foldl (fun cs (c, j) => cs.setIfInBounds (off + j) c) arr = (c.cells.toList.zipIdx 0).foldl (fun cs (c, j) => cs.setIfInBounds (off + j) c) arr := by
            rw [← Array.foldl_toList, Array.toList_zipIdx]
          rw [← hzip] at hfold
          simp only [Nat.add_zero, Array.length_toList, hsz] at hfold
          have h4 : VRels φ (cells.take off ++ l ++ cells.drop (off + size)) (c.cells.zipIdx.foldl (fun cs (c, j) => cs.setIfInBounds (off + j) c) arr).toList := by
            rw [hfold]
            exact VRels_append (VRels_append (VRels_take h3 _) hcl) (VRels_drop h3 _)
          obtain ⟨arr', ha, hr, hs⟩ := fill_run ps qs _ _ r h1 (VRels_cons.1 h2).2 h4 h
          refine ⟨arr', ?_, hr, ?_⟩
          · simp only [Instr.fill, hp]
            rw [if_neg (by simp [hsz]; omega)]
            exact ha
          · rw [hs, ← Array.length_toList, hfold]
            simp [hsz]; omega
        · cases h

def placesA (P : Program) : List Field → Option (List (Nat × Nat))
  | [] => some []
  | f :: fs => match P.info? f.type, placesA P fs with
    | some i, some r => some ((f.offset, i.size) :: r)
    | _, _ => none
theorem places_run (w : World) : ∀ (fs : List Field) (l : List (Nat × Nat)), placesA P fs = some l → (fs.mapM (fun f => (do pure (f.offset, ← sizeOf f.type) : Sem (Nat × Nat)))).run P w = .ok l w
  | [], l, h => by cases h; rfl
  | f :: fs, l, h => by
    simp only [placesA] at h
    cases hi : P.info? f.type with
    | none => simp [hi] at h
    | some i =>
      cases hp : placesA P fs with
      | none => simp [hi, hp] at h
      | some r =>
        simp only [hi, hp, Option.some.injEq] at h
        subst h
        have ih := places_run w fs r hp
        simp only [List.mapM_cons, Sem.run_bind, run_sizeOf' hi, Result.andThen, Sem.run_pure, ih]
def abuild (P : Program) (t : TypeId) (ps : List (Nat × AVal)) : Option AVal :=
  match tinfo P t, P.underlying t with
  | some ti, some (.struct fs) => match placesA P fs.toList with
    | some l => (fillA (fun i => l[i]?) ti.zero ps).map .agg
    | none => none
  | some ti, some (.array _ e) => match P.info? e with
    | some i => (fillA (fun j => some (j * i.size, i.size)) ti.zero ps).map .agg
    | none => none
  | _, _ => none
theorem pure_build {φ : PMap} {t : TypeId} {ps : List (Nat × AVal)} {qs : Array (Nat × Value)} {v : AVal} (h1 : ps.map (·.1) = qs.toList.map (·.1)) (h2 : VRels φ (ps.map (·.2)) (qs.toList.map (·.2))) (h : abuild P t ps = some v) :
    PureTo P φ (Instr.build t qs) v := by
  unfold abuild at h
  split at h
  · rename_i ti fs ht hu
    obtain ⟨inf, d, z, hi, hd, hz, hsz, hby, hag, hze⟩ := tinfo_spec ht
    split at h
    · rename_i l hl
      cases hf : fillA (fun i => l[i]?) ti.zero ps with
      | none => simp [hf] at h
      | some r =>
        simp only [hf, Option.map_some, Option.some.injEq] at h
        subst h
        obtain ⟨arr', ha, hr, _⟩ := fill_run (φ := φ) ps qs.toList ti.zero z.cells r h1 h2 (by rw [hze]; exact absS_rels φ _) hf
        refine ⟨.agg arr', fun w => ?_, arr'.toList, by simp, hr⟩
        have hpl := places_run w fs.toList l hl
        have hmap : (fs.mapM (fun f => (do pure (f.offset, ← sizeOf f.type) : Sem (Nat × Nat)))).run P w = .ok l.toArray w := by
          rw [Array.mapM_eq_mapM_toList, Sem.run_map]
          rw [hpl]; rfl
        unfold Instr.build
        simp only [Sem.run_bind, run_zeroValue' hi hz, Result.andThen, run_underlying' hu, hmap]
        have : (fun (i : Nat) => l.toArray[i]?) = fun (i : Nat) => l[i]? := by funext i; simp
        simp only [this, ha]
        rfl
    · cases h
  · rename_i ti m e ht hu
    obtain ⟨inf, d, z, hi, hd, hz, hsz, hby, hag, hze⟩ := tinfo_spec ht
    split at h
    · rename_i i hie
      cases hf : fillA (fun j => some (j * i.size, i.size)) ti.zero ps with
      | none => simp [hf] at h
      | some r =>
        simp only [hf, Option.map_some, Option.some.injEq] at h
        subst h
        obtain ⟨arr', ha, hr, _⟩ := fill_run (φ := φ) ps qs.toList ti.zero z.cells r h1 h2 (by rw [hze]; exact absS_rels φ _) hf
        refine ⟨.agg arr', fun w => ?_, arr'.toList, by simp, hr⟩
        unfold Instr.build
        simp only [Sem.run_bind, run_zeroValue' hi hz, Result.andThen, run_underlying' hu, run_sizeOf' hie, ha]
        rfl
    · cases h
  · cases h
end Go.Vh
