import Derived.Test.YtaccmanpanpbiaaVhA
/- The model carries out an operation as astep says. -/
set_option linter.unusedVariables false
set_option linter.unusedSimpArgs false
namespace Go.Vh
variable {P : Program}

theorem map_fst (l : List (Nat × Operand)) (f : Operand → AVal) (g : Operand → Value) : (l.map fun p => (p.1, f p.2)).map (·.1) = (l.map fun p => (p.1, g p.2)).map (·.1) := by simp
theorem bound_rel {φ : PMap} {N : Nat} {e : Env} {a : Act} (h : ERel φ N e a.tmps) (x : Option Operand) : BoundRel φ (x.map (evalA e)) (x.map a.eval) := by
  cases x with
  | none => trivial
  | some x => exact evalA_rel h x
theorem opt_pair {α β : Type} {x : Option α} {H H' : β} {v : α} (h : x.map (·, H) = some (v, H')) : x = some v ∧ H' = H := by
  cases x with
  | none => cases h
  | some y => cases h; exact ⟨rfl, rfl⟩
theorem opt_unit {β : Type} {x : Option β} {H' : β} {v u : AVal} (h : x.map (u, ·) = some (v, H')) : x = some H' ∧ v = u := by
  cases x with
  | none => cases h
  | some y => cases h; exact ⟨rfl, rfl⟩
/-- What looks at no memory comes to its value in every world. -/
theorem apure_run {φ : PMap} {H : AHeap} {w0 : World} {N : Nat} {e : Env} {a : Act} (hR : Rel φ H w0) (hE : ERel φ N e a.tmps) {o : Oper} {v : AVal} (h : apure P o.op e H = some v) : ∃ c, (∀ w, (execOp a.eval o).run P w = .ok (.value c) w) ∧ VRel φ v c := by
  have of : ∀ {s : Sem Value} {u : AVal}, PureTo P φ s u → execOp a.eval o = (do pure (.value (← s))) → ∃ c, (∀ w, (execOp a.eval o).run P w = .ok (.value c) w) ∧ VRel φ u c := by
    rintro s u ⟨c, hc, hr⟩ he
    exact ⟨c, fun w => by rw [he]; simp [Sem.run_bind, hc, Result.andThen], hr⟩
  unfold apure at h
  split at h
  · rename_i x ho
    cases h
    exact ⟨a.eval x, fun w => by simp [execOp, ho], evalA_rel hE x⟩
  · rename_i x ho
    cases h
    exact ⟨a.eval x, fun w => by simp [execOp, ho], evalA_rel hE x⟩
  · rename_i c x y ho
    split at h
    · rename_i t hc
      cases h
      have hcr := evalA_rel hE c
      rw [hc] at hcr
      have hcv : a.eval c = .bool t := hcr
      exact ⟨if t then a.eval x else a.eval y, fun w => by simp [execOp, ho, hcv, asBool, Sem.run_bind, Result.andThen], pickA_rel (evalA_rel hE x) (evalA_rel hE y)⟩
    · cases h
  · rename_i t ps ho
    refine of (pure_build (qs := ps.map fun (i, x) => (i, a.eval x)) ?_ ?_ h) (by simp [execOp, ho])
    · simp
    · simpa using parts_rel hE ps.toList
  · rename_i x ho
    split at h
    · rename_i i off hx
      cases h
      have hr := evalA_rel hE x
      rw [hx] at hr
      have hr' := hr
      obtain ⟨b, hb, hc⟩ := hr
      exact ⟨a.eval x, fun w => by simp [execOp, ho, hc], hr'⟩
    · rename_i f as bs hx
      cases h
      have hr := evalA_rel hE x
      rw [hx] at hr
      have hr' := hr
      obtain ⟨cs, ds, hc, _⟩ := hr
      exact ⟨a.eval x, fun w => by simp [execOp, ho, hc], hr'⟩
    · rename_i i hx
      cases h
      have hr := evalA_rel hE x
      rw [hx] at hr
      have hr' := hr
      obtain ⟨b, hb, hc⟩ := hr
      exact ⟨a.eval x, fun w => by simp [execOp, ho, hc], hr'⟩
    · rename_i cs i hx
      cases h
      have hr := evalA_rel hE x
      rw [hx] at hr
      have hr' := hr
      obtain ⟨blk, b, hc, hb⟩ := hr
      exact ⟨a.eval x, fun w => by simp [execOp, ho, hc], hr'⟩
    · cases h
  · rename_i op t x y yt ho
    split at h
    · rename_i u hu
      cases h
      exact of (aeqBin_run (P := P) (ox := x) (oy := y) (evalA_rel hE x) (evalA_rel hE y) hu) (by simp [execOp, ho])
    · obtain ⟨c, hc, hr, hsc, hni⟩ := abin_run (P := P) (t := t) (evalA_rel hE x) (evalA_rel hE y) h
      refine of (s := do eqGuard op t x y (a.eval x) (a.eval y); binOp op t (a.eval x) (a.eval y)) ⟨c, fun w => ?_, hr⟩ (by simp [execOp, ho])
      rw [Sem.run_bind, run_eqGuard_scalar w hsc (.inl hni)]
      exact hc w
  · rename_i op t x ho
    exact of (aun_run (P := P) (evalA_rel hE x) h) (by simp [execOp, ho])
  · rename_i src dst x ho
    unfold aconv at h
    split at h
    · rename_i ds k k' n hs hd hx
      cases h
      have hr := evalA_rel hE x
      rw [hx] at hr
      have hc : a.eval x = .int k' n := hr
      refine of (s := convert src dst (a.eval x)) ⟨.int k (k.wrap n), fun w => ?_, rfl⟩ (by simp only [execOp, ho])
      rw [hc]
      unfold convert
      simp only [Sem.run_bind, run_underlying' hs, run_underlying' hd, Result.andThen]
      rfl
    · cases h
  · rename_i f as bs ho
    cases h
    exact ⟨.func (.func f) (as.map a.eval) (bs.map a.eval), fun w => by simp [execOp, ho, Instr.makeFunc], as.toList.map a.eval, bs.toList.map a.eval, by rw [← Array.toList_map, ← Array.toList_map, Array.toArray_toList, Array.toArray_toList], evals_rel hE _, evals_rel hE _⟩
  · rename_i t x lo hi ho
    exact of (pure_sliceV hR (evalA_rel hE x) (bound_rel hE lo) (bound_rel hE hi) h) (by simp [execOp, ho])
  · rename_i s x f ho
    split at h
    · rename_i i off k hx hk
      cases h
      exact of (pure_fieldAt hk (by rw [← hx]; exact evalA_rel hE x)) (by simp [execOp, ho])
    · rename_i cs off k hx hk
      cases h
      exact of (pure_fieldAtR hk (by rw [← hx]; exact evalA_rel hE x)) (by simp [execOp, ho])
    · cases h
  · rename_i s x f ho
    exact of (pure_field (evalA_rel hE x) h) (by simp [execOp, ho])
  · rename_i t x ix ho
    split at h
    · rename_i el i off n hu hx
      exact of (pure_indexAt (x := .slice i off n) (by rw [← hx]; exact evalA_rel hE x) (evalA_rel hE ix) h (fun _ _ _ _ => ⟨_, hu⟩) (fun _ _ he => by cases he)) (by simp [execOp, ho])
    · rename_i el i off n hu hx
      have hv : VRel φ (.view i off n) (a.eval x) := by rw [← hx]; exact evalA_rel hE x
      have hs : VRel φ (.slice i off n) (a.eval x) := by
        rcases view_cases hv with ⟨rfl, _⟩ | hs
        · exfalso
          unfold aindexAddr at h
          split at h
          · rename_i hxx _
            cases hxx
            split at h
            · omega
            · cases h
          · rename_i hxx _; cases hxx
          · cases h
        · exact hs
      exact of (pure_indexAt (x := .slice i off n) hs (evalA_rel hE ix) h (fun _ _ _ _ => ⟨_, hu⟩) (fun _ _ he => by cases he)) (by simp [execOp, ho])
    · rename_i el n cs hu hx
      exact of (pure_indexAtR (by rw [← hx]; exact evalA_rel hE x) (evalA_rel hE ix) h hu) (by simp [execOp, ho])
    · rename_i n el i off hu hx
      exact of (pure_indexAt (x := .ptr i off) (by rw [← hx]; exact evalA_rel hE x) (evalA_rel hE ix) h (fun _ _ _ he => by cases he) (fun _ _ _ => ⟨_, _, hu⟩)) (by simp [execOp, ho])
    · cases h
  · rename_i t x ix ho
    exact of (pure_index (evalA_rel hE x) (evalA_rel hE ix) h) (by simp [execOp, ho])
  · rename_i x i ho
    split at h
    · rename_i l hx
      exact of (pure_extract (by rw [← hx]; exact evalA_rel hE x) h) (by simp [execOp, ho])
    · cases h
  · rename_i b args ts ho
    have hargs : VRels φ (args.toList.map (evalA e)) (args.map a.eval).toList := by rw [Array.toList_map]; exact evals_rel hE args.toList
    have hb : ∀ s, (∀ consts, builtin b ts o.type consts (args.map a.eval) = (do pure (.value (← s)))) → execOp a.eval o = (do pure (.value (← s))) := fun s hs => by
      simp only [execOp, ho, resolve, pure_bind, invoke]
      exact hs _
    unfold apureB at h
    split at h
    · rename_i t x hts hl
      rw [hl] at hargs
      obtain ⟨c, r, hc, h1, h2⟩ := hargs
      obtain rfl : r = [] := h2
      have ec : args.map a.eval = #[c] := by rw [← Array.toArray_toList (xs := args.map a.eval), hc]
      have et : ts = #[t] := by rw [← Array.toArray_toList (xs := ts), hts]
      refine of (pure_len (ty := o.type) h1 h) (hb _ fun consts => ?_)
      rw [ec, et]; rfl
    · rename_i t x hts hl
      rw [hl] at hargs
      obtain ⟨c, r, hc, h1, h2⟩ := hargs
      obtain rfl : r = [] := h2
      have ec : args.map a.eval = #[c] := by rw [← Array.toArray_toList (xs := args.map a.eval), hc]
      have et : ts = #[t] := by rw [← Array.toArray_toList (xs := ts), hts]
      refine of (pure_cap (ty := o.type) h1 h) (hb _ fun consts => ?_)
      rw [ec, et]; rfl
    · refine of (s := Builtin.min_ ts o.type (args.map a.eval)) (pure_minmax (ts := ts) (ty := o.type) false hargs h) (hb _ fun consts => rfl)
    · refine of (s := Builtin.max_ ts o.type (args.map a.eval)) (pure_minmax (ts := ts) (ty := o.type) true hargs h) (hb _ fun consts => rfl)
    · cases h
  · rename_i t x ho
    exact of (iface_run (evalA_rel hE x) h) (by simp [execOp, ho])
  · rename_i x t want ho
    exact of (assert_run (t := t) (evalA_rel hE x) h) (by simp [execOp, ho])
  · cases h
theorem amem_run {φ : PMap} {H H' : AHeap} {w : World} {N : Nat} {e : Env} {a : Act} (hR : Rel φ H w) (hE : ERel φ N e a.tmps) {o : Oper} {v : AVal} (h : amem P o.op e H = some (v, H')) : StepOk P φ H w a o v H' := by
  unfold amem at h
  split at h
  · rename_i t ho
    exact StepOk.of_fine (fine_alloc hR h) (by simp [execOp, ho])
  · rename_i t x ho
    exact StepOk.of_fine (fine_box (t := t) hR (evalA_rel hE x) h) (by simp [execOp, ho])
  · rename_i t n ps ho
    refine StepOk.of_fine (fine_buildSlice (qs := ps.map fun (i, x) => (i, a.eval x)) hR ?_ ?_ h) (by simp [execOp, ho])
    · simp
    · simpa using parts_rel hE ps.toList
  · rename_i t x ho
    split at h
    · rename_i i off ti hx ht
      obtain ⟨hv, rfl⟩ := opt_pair h
      exact StepOk.of_fine (fine_load hR ht (by rw [← hx]; exact evalA_rel hE x) hv) (by simp [execOp, ho])
    · rename_i cs off ti hx ht
      obtain ⟨hv, rfl⟩ := opt_pair h
      exact StepOk.of_fine (fine_loadR hR ht (by rw [← hx]; exact evalA_rel hE x) hv) (by simp [execOp, ho])
    · cases h
  · rename_i t x y ho
    split at h
    · rename_i i off l ti hx hc ht
      split at h
      · rename_i hl
        obtain ⟨hst, rfl⟩ := opt_unit h
        exact StepOk.of_unit (fine_store hR ht (by rw [← hx]; exact evalA_rel hE x) (evalA_rel hE y) hc hl hst) (by simp [execOp, ho])
      · cases h
    · cases h
  · rename_i t ho
    cases h
    have hx := rel_new hR (.map #[] 0) (.map []) trivial 0 0 ⟨#[], 0, by simp, rfl⟩
    refine ⟨.value (.map (some w.heap.size)), .map (some w.heap.size), _, _, ?_, .inl rfl, ⟨_, PMap.ext_same _ _ _, rfl⟩, hx.1, hx.2⟩
    simp [execOp, ho, Instr.makeMap, newObj, Sem.run, Sem.run_bind, Result.andThen]
  · rename_i t l c ho
    exact StepOk.of_fine (fine_makeSlice hR (evalA_rel hE l) (evalA_rel hE c) h) (by simp [execOp, ho])
  · rename_i t x k ok ho
    obtain ⟨hv, rfl⟩ := opt_pair h
    exact StepOk.of_fine (fine_lookup hR (evalA_rel hE x) (evalA_rel hE k) hv) (by simp [execOp, ho])
  · rename_i t m k x ho
    obtain ⟨hst, rfl⟩ := opt_unit h
    exact StepOk.of_unit (fine_mapPut hR (evalA_rel hE m) (evalA_rel hE k) (evalA_rel hE x) hst) (by simp [execOp, ho])
  · rename_i t m k x ho
    obtain ⟨hst, rfl⟩ := opt_unit h
    exact StepOk.of_unit (fine_mapPut hR (evalA_rel hE m) (evalA_rel hE k) (evalA_rel hE x) hst) (by simp [execOp, ho])
  · rename_i b args ts ho
    have hargs : VRels φ (args.toList.map (evalA e)) (args.map a.eval).toList := by rw [Array.toList_map]; exact evals_rel hE args.toList
    have hb : ∀ s, (∀ consts, builtin b ts o.type consts (args.map a.eval) = (do pure (.value (← s)))) → execOp a.eval o = (do pure (.value (← s))) := fun s hs => by
      simp only [execOp, ho, resolve, pure_bind, invoke]
      exact hs _
    unfold amemB at h
    split at h
    · rename_i t x hts hl
      rw [hl] at hargs
      obtain ⟨c, r, hc, h1, h2⟩ := hargs
      obtain rfl : r = [] := h2
      have ec : args.map a.eval = #[c] := by rw [← Array.toArray_toList (xs := args.map a.eval), hc]
      have et : ts = #[t] := by rw [← Array.toArray_toList (xs := ts), hts]
      obtain ⟨hv, rfl⟩ := opt_pair h
      have hl : alen P H' t x = some v ∨ alenP P t x ≠ none := by
        unfold alen
        cases hp : alenP P t x with
        | none => exact .inl hv
        | some u => exact .inr (by simp)
      rcases hl with hl | hl
      · refine StepOk.of_fine (fine_len (ty := o.type) hR h1 hl) (hb _ fun consts => ?_)
        rw [ec, et]; rfl
      · unfold alenM at hv
        unfold alenP at hl
        split at hv
        · rename_i k el hu
          simp [hu] at hl
        · cases hv
    · rename_i t tx s x hts hl
      rw [hl] at hargs
      obtain ⟨c, r, hc, h1, c2, r2, rfl, h2, h3⟩ := hargs
      obtain rfl : r2 = [] := h3
      have ec : args.map a.eval = #[c, c2] := by rw [← Array.toArray_toList (xs := args.map a.eval), hc]
      have et : ts = #[t, tx] := by rw [← Array.toArray_toList (xs := ts), hts]
      refine StepOk.of_fine (fine_append2 (ty := o.type) hR h1 h2 h) (hb _ fun consts => ?_)
      rw [ec, et]; rfl
    · rename_i t tx d x hts hl
      rw [hl] at hargs
      obtain ⟨c, r, hc, h1, c2, r2, rfl, h2, h3⟩ := hargs
      obtain rfl : r2 = [] := h3
      have ec : args.map a.eval = #[c, c2] := by rw [← Array.toArray_toList (xs := args.map a.eval), hc]
      have et : ts = #[t, tx] := by rw [← Array.toArray_toList (xs := ts), hts]
      refine StepOk.of_fine (fine_copy (tx := tx) (ty := o.type) hR h1 h2 h) (hb _ fun consts => ?_)
      rw [ec, et]; rfl
    · cases h
  · rename_i s d x ho
    obtain ⟨hv, rfl⟩ := opt_pair h
    exact StepOk.of_fine (fine_convS hR (evalA_rel hE x) hv) (by simp only [execOp, ho])
  · cases h
theorem astep_run {φ : PMap} {H H' : AHeap} {w : World} {N : Nat} {e : Env} {a : Act} (hR : Rel φ H w) (hE : ERel φ N e a.tmps) {o : Oper} {v : AVal} (h : astep P o.op e H = some (v, H')) : StepOk P φ H w a o v H' := by
  unfold astep at h
  split at h
  · rename_i u hu
    cases h
    obtain ⟨c, hc, hr⟩ := apure_run hR hE hu
    exact StepOk.of_value hR (hc w) hr
  · exact amem_run hR hE h
end Go.Vh
