/- Deterministic, of the reference. -/
import Derived.Test.YtdahmcgncpoliaaBy
set_option linter.unusedVariables false
set_option linter.unusedSimpArgs false
set_option maxRecDepth 100000
namespace Go.Proofs.Ytdahmcgncpoliaa
open Go Go.Vh Go.Proofs
def clashB (e f : Edg) : Bool := bitsA .and .i64 e.bits f.care == bitsA .and .i64 f.bits e.care
/-- The edges ahead of one, of its state. -/
def Au.ahead (a : Au) (j s : Nat) : List Edg := (a.es.take j).filter fun f => f.fr.toNat == s
def Au.byE (a : Au) (j : Nat) : List (List Int) := (List.range a.states.toNat).map fun s => flat (a.ahead j s)
theorem Au.byE_length (a : Au) (j : Nat) : (a.byE j).length = a.states.toNat := by simp [Au.byE]
theorem Au.byE_get (a : Au) {j s : Nat} (h : s < a.states.toNat) : (a.byE j)[s]? = some (flat (a.ahead j s)) := by simp [Au.byE, h]
theorem Au.ahead_len (a : Au) (j s : Nat) : (a.ahead j s).length ≤ j := by
  unfold Au.ahead
  exact Nat.le_trans (List.length_filter_le _ _) (by simp; omega)
theorem Au.byE_succ (a : Au) {j : Nat} (h : j < a.es.length) : a.byE (j + 1) = (a.byE j).set a.es[j].fr.toNat (flat (a.ahead j a.es[j].fr.toNat) ++ (a.es[j]).l) := by
  apply List.ext_getElem?
  intro s
  rw [List.getElem?_set, a.byE_length]
  by_cases hs : s < a.states.toNat
  · rw [a.byE_get hs, a.byE_get hs]
    unfold Au.ahead
    rw [List.take_succ_eq_append_getElem h, List.filter_append]
    by_cases he : a.es[j].fr.toNat = s
    · subst he
      rw [if_pos rfl, if_pos hs, flat_append]
      simp [flat]
    · rw [if_neg he]
      simp [he]
  · have h1 : (a.byE (j + 1))[s]? = none := by rw [List.getElem?_eq_none]; rw [a.byE_length]; omega
    have h2 : (a.byE j)[s]? = none := by rw [List.getElem?_eq_none]; rw [a.byE_length]; omega
    rw [h1, h2]
    split
    · split
      · omega
      · rfl
    · rfl
def Au.Apar (a : Au) (j : Nat) : Prop := ∀ i, (h : i < a.es.length) → i < j → ∀ f ∈ a.ahead i a.es[i].fr.toNat, clashB a.es[i] f = false
theorem Au.drop4 (a : Au) (es : Nat) (e : Edg) (rows : List (List Int)) (z : ABlk) (x : ABlk) : Emb 2 (rk [0, 1, 2, 3, 4] (fun s => 5 + s) rows.length (6 + rows.length)) (rowsAt (a.g4 es e rows) es rows) (((rowsAt (a.g4 es e rows) es rows).alloc z).set (5 + rows.length) x) := by
  have hn5 : (rowsAt (a.g4 es e rows) es rows).n = 5 + rows.length := rfl
  generalize hH : AHeap.set _ _ _ = H1
  have hHn : H1.n = 6 + rows.length := by rw [← hH]; show 5 + rows.length + 1 = _; omega
  have hHf : ∀ i, i < 5 + rows.length → H1.f i = (rowsAt (a.g4 es e rows) es rows).f i := by
    intro i hi
    rw [← hH, set_f, if_neg (by omega), alloc_f, hn5, if_neg (by omega)]
  have hHv : ∀ i, i < 4 → H1.ver i = 0 := by
    intro i hi
    rw [← hH, set_ver, if_neg (by omega), alloc_ver]
    rfl
  refine Emb.rows (G := a.g4 es e rows) (rows := rows) [0, 1, 2, 3, 4] (fun s => 5 + s) hHn rfl (by show 2 ≤ 5; decide) (by decide) (fun i hi => ?_) (fun i k hk => ?_) (fun s hs => by show 5 + s < _; omega) (fun s x l h => ?_) (fun s t x l y m h h' hst => by omega)
  · rcases i with _ | _ | i
    · exact ⟨rfl, (hHv 0 (by decide)).symm, by rw [hHf 0 (by omega)]; exact fun h => h⟩
    · exact ⟨rfl, (hHv 1 (by decide)).symm, by rw [hHf 1 (by omega)]; exact fun h => h⟩
    · omega
  · rcases i with _ | _ | _ | _ | _ | i
    · cases hk; exact ⟨by omega, by rw [hHf 0 (by omega)]; exact .roI⟩
    · cases hk; exact ⟨by omega, by rw [hHf 1 (by omega)]; exact .roI⟩
    · cases hk; exact ⟨by omega, by rw [hHf 2 (by omega)]; exact .inl rfl⟩
    · cases hk
      refine ⟨by omega, ?_⟩
      rw [hHf 3 (by omega)]
      refine .inl ?_
      show ABlk.cells 1 (rowVg _ es rows) = renB _ (.cells 1 (rowVg _ es rows))
      rw [renB, rens_rowVg]
      congr 1
      refine rowVg_congr fun s x l h => ?_
      have hs : s < rows.length := (List.getElem?_eq_some_iff.1 h).1
      exact (rk_row (ks := [0, 1, 2, 3, 4]) hs).symm
    · cases hk; exact ⟨by omega, by rw [hHf 4 (by omega)]; exact .inl rfl⟩
    · simp at hk
  · have hs : s < rows.length := (List.getElem?_eq_some_iff.1 h).1
    refine ⟨by simp; omega, ?_⟩
    rw [hHf _ (by omega)]
    show (if 5 + s < 5 then _ else rowBlk es rows[5 + s - 5]?) = _
    rw [if_neg (by omega), Nat.add_sub_cancel_left, h]
    rfl
theorem Au.init3 (a : Au) (es : Nat) (n : Nat) {H : AHeap} (hH : H = a.heap3.alloc (.cells 1 (List.replicate n .nilSlice))) : Emb 2 (rk [0, 1, 2, 3] (fun _ => 0) n 4) (rowsAt (a.g3 es 4 (List.replicate n [])) es (List.replicate n [])) H := by
  subst hH
  have hnil : ∀ (s : Nat) (x : Int) (l : List Int), (List.replicate n ([] : List Int))[s]? ≠ some (x :: l) := by
    intro s x l h
    rw [List.getElem?_replicate] at h
    split at h <;> cases h
  have := Emb.rows (n0 := 2) (es := es) (H := a.heap3.alloc (.cells 1 (List.replicate n .nilSlice))) (G := a.g3 es 4 (List.replicate n [])) (rows := List.replicate n []) [0, 1, 2, 3] (fun _ => 0) (m := 4) rfl rfl (by show 2 ≤ 4; decide) (by decide) (fun i hi => ?_) (fun i k hk => ?_) (fun s hs => by show 0 < 4; decide) (fun s x l h => absurd h (hnil s x l)) (fun s t x l y m h => absurd h (hnil s x l))
  · rwa [List.length_replicate] at this
  · rcases i with _ | _ | i
    · exact ⟨rfl, rfl, fun h => h⟩
    · exact ⟨rfl, rfl, fun h => h⟩
    · omega
  · rcases i with _ | _ | _ | _ | i
    · cases hk; exact ⟨by show 0 < 4; decide, .roI⟩
    · cases hk; exact ⟨by show 1 < 4; decide, .roI⟩
    · cases hk; exact ⟨by show 2 < 4; decide, .inl rfl⟩
    · cases hk
      refine ⟨by show 3 < 4; decide, .inl ?_⟩
      show ABlk.cells 1 _ = renB _ (.cells 1 (rowVg _ es (List.replicate n [])))
      rw [renB, rens_rowVg, rowVg_nils]
    · simp at hk
theorem Au.stored (a : Au) (es : Nat) (e : Edg) (rows : List (List Int)) (s : Nat) (r : List Int) (z nb : ABlk) (H' : AHeap) (h' : (r = [] ∧ H' = (rowsAt (a.g4 es e rows) es rows).alloc z) ∨ (r ≠ [] ∧ H' = ((rowsAt (a.g4 es e rows) es rows).alloc z).set (5 + s) .dead)) :
    (H'.alloc nb).f 3 = .cells 1 (rowVg (fun t => 5 + t) es rows) ∧ H'.ver 3 = 0 ∧ H'.ver 4 = 0 := by
  have hn5 : (rowsAt (a.g4 es e rows) es rows).n = 5 + rows.length := rfl
  rcases h' with ⟨_, rfl⟩ | ⟨_, rfl⟩
  · refine ⟨?_, rfl, rfl⟩
    rw [alloc_f, if_neg (by show ¬ 3 = 5 + rows.length + 1; omega), alloc_f, hn5, if_neg (by omega)]
    rfl
  · refine ⟨?_, ?_, ?_⟩
    · rw [alloc_f, if_neg (by show ¬ 3 = 5 + rows.length + 1; omega), set_f, if_neg (by omega), alloc_f, hn5, if_neg (by omega)]
      rfl
    · rw [set_ver, if_neg (by omega)]; rfl
    · rw [set_ver, if_neg (by omega)]; rfl
theorem apart57 (a : Au) (hf : a.Fits) (ho : a.Ok) : CallW Try.prog 57 [a.av] a.heap fun v _ => ∃ b, v = .bool b ∧ (b = true ↔ a.Apar a.es.length) := by
  obtain ⟨hh, hs, he⟩ := ho
  have hs0 := hh.2.2.1
  have hs1 := hh.2.2.2.1
  have hne := hh.2.2.2.2.2.2.2
  refine CallW.sym Try.func57 rfl (by kernel_rfl) ?_
  conv => whnf
  iterate 1 (refine Gets.of _ rfl ?_; conv => whnf)
  refine Gets.makeRows (ti := ⟨1, 24, false, [.nilSlice]⟩) (by kernel_rfl) rfl rfl (by decide) hs0 (by omega) ?_
  conv => whnf
  iterate 2 (refine Gets.of _ rfl ?_; conv => whnf)
  refine CodeS.loopG (σ := Nat) (fun j => [(1, .ptr 2 0), (2, .bool false), (3, .slice 3 0 a.states.toNat), (12, .view 1 0 a.es.length), (13, .int .i64 a.es.length), (14, .int .i64 j)]) (fun j => rowsAt (a.g3 5 4 (a.byE j)) 5 (a.byE j)) (fun j => j ≤ a.es.length ∧ a.Apar j) (fun j => a.es.length - j) 0 (rk [0, 1, 2, 3] (fun _ => 0) a.states.toNat 4) (by kernel_rfl)
    ⟨Nat.zero_le _, fun i _ h => absurd h (Nat.not_lt_zero _)⟩ ⟨rfl, rfl, rfl, rfl, rfl, rfl, trivial⟩ ?_ ?_
  · have h0 : a.byE 0 = List.replicate a.states.toNat [] := by
      apply List.ext_getElem?
      intro s
      rw [List.getElem?_replicate]
      split
      · rename_i h; rw [a.byE_get h]; rfl
      · rw [List.getElem?_eq_none (by rw [a.byE_length]; omega)]
    rw [h0]
    exact a.init3 5 _ rfl
  rintro j ⟨g1, g2⟩
  conv => whnf
  refine Fork.mk (fun hc => ?_) (fun hc => ?_)
  all_goals conv => whnf
  · have hc : j < a.es.length := by simp at hc; omega
    refine Gets.ixV (es := 5) rfl (by kernel_rfl) (by omega) (by omega) ?_
    conv => whnf
    refine Gets.loadE (j := j) (es := a.es) (ti := ⟨5, 40, true, [.int .i64 0, .int .i64 0, .int .i64 0, .int .i64 0, .int .i64 0]⟩) (by kernel_rfl) rfl rfl rfl (by simp) hc ?_
    have hok := he _ (List.getElem_mem hc)
    have hsucc := a.byE_succ hc
    generalize hee : a.es[j] = e at hok hsucc
    have hf0 := hok.1
    have hf1 := hok.2.1
    conv => whnf
    have hb := a.byE_length j
    have hrow := a.byE_get (j := j) (s := e.fr.toNat) (by omega)
    have hal := a.ahead_len j e.fr.toNat
    have hap : ∀ f ∈ a.ahead j e.fr.toNat, (clashB e f = false) ↔ (clashB a.es[j] f = false) := fun f _ => by rw [hee]
    generalize hfs : a.ahead j e.fr.toNat = fs at hrow hal hsucc hap
    generalize hrows : a.byE j = rows at hb hrow hsucc
    have hlt : e.fr.toNat < rows.length := by omega
    refine Gets.storeAll (es := 1) (cs := [.int .i64 0, .int .i64 0, .int .i64 0, .int .i64 0, .int .i64 0]) (ti := ⟨5, 40, true, [.int .i64 0, .int .i64 0, .int .i64 0, .int .i64 0, .int .i64 0]⟩) (by kernel_rfl) rfl rfl (by simp only [alloc_f, if_true]; rfl) rfl ?_
    have hpull := a.pull 5 e rows (.cells 1 ((TI.mk 5 40 true [.int .i64 0, .int .i64 0, .int .i64 0, .int .i64 0, .int .i64 0]).zero))
    conv => whnf
    generalize hH : AHeap.set _ _ _ = H1
    have hE : Emb 2 (rk [0, 1, 2, 3, 4 + rows.length] (fun s => 4 + s) rows.length (5 + rows.length)) (rowsAt (a.g4 5 e rows) 5 rows) H1 := by rw [← hH]; exact a.pull 5 e rows _
    have hn : (rowsAt (a.g3 5 4 rows) 5 rows).n = 4 + rows.length := rfl
    have hHe : H1.f (rowsAt (a.g3 5 4 rows) 5 rows).n = .cells 1 (Edg.cs e) := by rw [← hH, set_f, if_pos rfl]; rfl
    have hH3 : H1.f 3 = .cells 1 (rowVg (fun s => 4 + s) 5 rows) := by rw [← hH, set_f, hn, if_neg (by omega), alloc_f, hn, if_neg (by omega)]; rfl
    clear hpull hH
    refine Gets.loadAt (j := 0) (v := .int .i64 e.fr) (ti := ⟨1, 8, false, [.int .i64 0]⟩) (by kernel_rfl) rfl rfl (by rw [hHe]; rfl) ?_
    conv => whnf
    refine Gets.ixS (es := 1) rfl (by kernel_rfl) hf0 (by omega) ?_
    conv => whnf
    refine Gets.loadAt (j := e.fr.toNat) (v := rowV (4 + e.fr.toNat) 5 (flat fs)) (ti := ⟨1, 24, false, [.nilSlice]⟩) (by kernel_rfl) rfl (by simp) (by rw [hH3]; exact (rowVg_get _ _ _ _).trans (congrArg (Option.map _) hrow)) ?_
    have hfsl : (flat fs).length / 5 = fs.length := by rw [flat_length, Nat.mul_div_cancel _ (by decide)]
    have hrowf : flat fs ≠ [] → (rowsAt (a.g4 5 e rows) 5 rows).f (5 + e.fr.toNat) = .cells 5 (ints (flat fs)) := by
      intro hne
      show (if 5 + e.fr.toNat < 5 then _ else rowBlk 5 rows[5 + e.fr.toNat - 5]?) = _
      rw [if_neg (by omega), Nat.add_sub_cancel_left, hrow]
      cases hq : flat fs with
      | nil => exact absurd hq hne
      | cons x l => rfl
    have hk5 : rk [0, 1, 2, 3, 4 + rows.length] (fun s => 4 + s) rows.length (5 + rows.length) (5 + e.fr.toNat) = 4 + e.fr.toNat := rk_row (ks := [0, 1, 2, 3, 4 + rows.length]) hlt
    have hk6 : rk [0, 1, 2, 3, 4] (fun s => 5 + s) rows.length (6 + rows.length) (5 + e.fr.toNat) = 5 + e.fr.toNat := rk_row (ks := [0, 1, 2, 3, 4]) hlt
    have hw : IntKind.wrap .i64 ((j : Int) + 1) = ((j + 1 : Nat) : Int) := by rw [wrap_i64 (by omega) (by omega)]; rfl
    rcases hfl : flat fs with _ | ⟨x, l⟩
    all_goals
      conv => whnf
      refine Gets.of _ rfl ?_
      conv => whnf
      refine CodeS.loopG (σ := Nat) (fun k => [(1, .ptr 2 0), (2, .bool false), (3, .slice 3 0 a.states.toNat), (5, .ptr 4 0), (12, .view 1 0 a.es.length), (13, .int .i64 a.es.length), (14, .int .i64 j), (22, rowV (5 + e.fr.toNat) 5 (flat fs)), (23, .int .i64 fs.length), (24, .int .i64 k)]) (fun k => rowsAt (a.g4 5 e rows) 5 rows) (fun k => k ≤ fs.length ∧ ∀ k' (h : k' < fs.length), k' < k → clashB e fs[k'] = false) (fun k => fs.length - k) 0 (rk [0, 1, 2, 3, 4 + rows.length] (fun s => 4 + s) rows.length (5 + rows.length)) (by kernel_rfl)
        ⟨Nat.zero_le _, fun k' _ h => absurd h (Nat.not_lt_zero _)⟩ ⟨rfl, rfl, rfl, rfl, rfl, rfl, rfl, by rw [ren_rowV, hk5, hfl]; rfl, by rw [← hfsl, hfl]; rfl, rfl, trivial⟩ hE ?_
      rintro k ⟨q1, q2⟩
      rw [hfl]
      conv => whnf
      refine Fork.mk (fun hc2 => ?_) (fun hc2 => ?_)
      all_goals conv => whnf
    · exfalso
      simp at hc2
      rw [← hfsl, hfl] at hc2
      simp at hc2
    rotate_left 1
    · have hc2 : k < fs.length := by simp at hc2; omega
      refine Gets.ixS (es := 5) rfl (by kernel_rfl) (by omega) (by rw [← hfl, hfsl]; omega) ?_
      conv => whnf
      refine Gets.loadE (j := k) (es := fs) (ti := ⟨5, 40, true, [.int .i64 0, .int .i64 0, .int .i64 0, .int .i64 0, .int .i64 0]⟩) (by kernel_rfl) rfl rfl (by rw [hrowf (by rw [hfl]; simp)]; rfl) (by simp) hc2 ?_
      have hq := q2 k hc2
      generalize hfe : fs[k] = f
      conv => whnf
      refine Gets.storeAll (es := 1) (cs := [.int .i64 0, .int .i64 0, .int .i64 0, .int .i64 0, .int .i64 0]) (ti := ⟨5, 40, true, [.int .i64 0, .int .i64 0, .int .i64 0, .int .i64 0, .int .i64 0]⟩) (by kernel_rfl) rfl rfl (by simp only [alloc_f, if_true]; rfl) rfl ?_
      conv => whnf
      generalize hH : AHeap.set _ _ _ = H2
      have hE2 : Emb 2 (rk [0, 1, 2, 3, 4] (fun s => 5 + s) rows.length (6 + rows.length)) (rowsAt (a.g4 5 e rows) 5 rows) H2 := by rw [← hH]; exact a.drop4 5 e rows _ _
      have hn2 : (rowsAt (a.g4 5 e rows) 5 rows).n = 5 + rows.length := rfl
      have hHf : H2.f (rowsAt (a.g4 5 e rows) 5 rows).n = .cells 1 (Edg.cs f) := by rw [← hH, set_f, if_pos rfl]; rfl
      have hH4 : H2.f 4 = .cells 1 (Edg.cs e) := by rw [← hH, set_f, hn2, if_neg (by omega), alloc_f, hn2, if_neg (by omega)]; rfl
      refine Gets.loadAt (j := 3) (v := .int .i64 e.bits) (ti := ⟨1, 8, false, [.int .i64 0]⟩) (by kernel_rfl) rfl rfl (by rw [hH4]; rfl) ?_
      conv => whnf
      refine Gets.loadAt (j := 2) (v := .int .i64 f.care) (ti := ⟨1, 8, false, [.int .i64 0]⟩) (by kernel_rfl) rfl rfl (by rw [hHf]; rfl) ?_
      conv => whnf
      refine Gets.loadAt (j := 3) (v := .int .i64 f.bits) (ti := ⟨1, 8, false, [.int .i64 0]⟩) (by kernel_rfl) rfl rfl (by rw [hHf]; rfl) ?_
      conv => whnf
      refine Gets.loadAt (j := 2) (v := .int .i64 e.care) (ti := ⟨1, 8, false, [.int .i64 0]⟩) (by kernel_rfl) rfl rfl (by rw [hH4]; rfl) ?_
      conv => whnf
      refine Fork.mk (fun hcl => ?_) (fun hcl => ?_)
      all_goals conv => whnf
      · refine ⟨_, rfl, ?_⟩
        simp only [Bool.false_eq_true, false_iff]
        intro hA
        have := hA j hc hc f (by rw [hee, hfs, ← hfe]; exact List.getElem_mem hc2)
        rw [hee] at this
        exact absurd hcl (by rw [show (bitsA .and .i64 e.bits f.care == bitsA .and .i64 f.bits e.care) = clashB e f from rfl, this]; simp)
      · have hwk : IntKind.wrap .i64 ((k : Int) + 1) = ((k + 1 : Nat) : Int) := by rw [wrap_i64 (by omega) (by omega)]; rfl
        refine ⟨k + 1, rk [0, 1, 2, 3, 4] (fun s => 5 + s) rows.length (6 + rows.length), ⟨by omega, fun k' h1 h2 => ?_⟩, by omega, ⟨rfl, rfl, rfl, rfl, rfl, rfl, rfl, by rw [ren_rowV, hk6]; rfl, rfl, congrArg (AVal.int .i64) hwk, trivial⟩, hE2⟩
        rcases Nat.lt_or_ge k' k with h3 | h3
        · exact q2 k' h1 h3
        · obtain rfl : k' = k := by omega
          rw [hfe]; exact hcl
    all_goals
      have hke : k = fs.length := by simp at hc2; omega
      have hall : ∀ f ∈ fs, clashB e f = false := by
        intro f hf
        obtain ⟨i, hi, rfl⟩ := List.getElem_of_mem hf
        exact q2 i hi (by omega)
      refine CodeS.drawI [3, 4] [(0, true, false), (1, true, false), (2, true, false), (3, true, false), (4, true, false), (5, true, false), (6, true, false), (7, true, false), (8, true, false), (9, false, true), (10, false, true), (11, true, false), (12, false, false)] mixed (by kernel_rfl)
        (.cons ⟨Nat.ble_eq_true_of_le (by show 4 ≤ 5 + rows.length; omega), trivial⟩ (.cons ⟨Nat.ble_eq_true_of_le (by show 5 ≤ 5 + rows.length; omega), trivial⟩ .nil)) ?_
      conv => whnf
      iterate 2 (refine Gets.of _ rfl ?_; conv => whnf)
      refine Gets.ixS (es := 1) rfl (by kernel_rfl) hf0 (by omega) ?_
      conv => whnf
      refine Gets.loadAt (j := e.fr.toNat) (v := rowV (5 + e.fr.toNat) 5 (flat fs)) (ti := ⟨1, 24, false, [.nilSlice]⟩) (by kernel_rfl) rfl (by simp) ((rowVg_get _ _ _ _).trans (congrArg (Option.map _) hrow)) ?_
      rw [hfl]
      conv => whnf
      refine Gets.of _ rfl ?_
      conv => whnf
      refine ⟨fun _ i hi => rfl, ?_⟩
      conv => whnf
      first
        | refine Gets.appendRow (es := 5) (b := 5 + e.fr.toNat) (r := []) (y := e.fr) (x := [e.to, e.care, e.bits, e.marks]) (ti := ⟨5, 40, true, [.int .i64 0, .int .i64 0, .int .i64 0, .int .i64 0, .int .i64 0]⟩) (d := .slice 54) (by kernel_rfl) (by kernel_rfl) rfl rfl rfl (by decide) (by decide) rfl (if_pos rfl) (fun h => absurd rfl h) ⟨0, rfl, by decide⟩ ?_
        | refine Gets.appendRow (es := 5) (b := 5 + e.fr.toNat) (r := x :: l) (y := e.fr) (x := [e.to, e.care, e.bits, e.marks]) (ti := ⟨5, 40, true, [.int .i64 0, .int .i64 0, .int .i64 0, .int .i64 0, .int .i64 0]⟩) (d := .slice 54) (by kernel_rfl) (by kernel_rfl) rfl rfl rfl (by decide) (by decide) rfl (if_pos rfl) (fun h => (if_neg (by show ¬ 5 + e.fr.toNat = 5 + rows.length; omega)).trans (by rw [hrowf (by rw [hfl]; simp), hfl])) ⟨fs.length, by rw [← hfl, flat_length], by omega⟩ ?_
      intro H' h'
      obtain ⟨s1, s3, s4⟩ := a.stored 5 e rows e.fr.toNat _ _ (.cells 5 (ints (flat fs ++ [e.fr, e.to, e.care, e.bits, e.marks]))) H' h'
      rw [hfl] at s1
      conv => whnf
      refine ⟨fun _ i hi => ?_, ?_⟩
      · simp only [List.mem_cons, List.not_mem_nil, or_false] at hi
        rcases hi with rfl | rfl
        · exact s3
        · exact s4
      conv => whnf
      refine Gets.ixS (es := 1) rfl (by kernel_rfl) hf0 (by omega) ?_
      conv => whnf
      refine Gets.storeAt (j := e.fr.toNat) (ti := ⟨1, 24, false, [.nilSlice]⟩) (by kernel_rfl) rfl rfl rfl s1 (by simp) (by rw [rowVg_length]; exact hlt) ?_
      conv => whnf
      refine ⟨(fun h => by cases h), ?_⟩
      conv => whnf
      have hsucc' : a.byE (j + 1) = rows.set e.fr.toNat (flat fs ++ [e.fr, e.to, e.care, e.bits, e.marks]) := hsucc
      refine ⟨j + 1, rk [0, 1, 2, 3] (fun t => if t = e.fr.toNat then 5 + rows.length + 1 else 5 + t) rows.length (7 + rows.length), ⟨by omega, fun i h1 h2 f hf => ?_⟩, by omega, ⟨rfl, rfl, rfl, rfl, rfl, congrArg (AVal.int .i64) hw, trivial⟩, ?_⟩
      · rcases Nat.lt_or_ge i j with h3 | h3
        · exact g2 i h1 h3 f hf
        · obtain rfl : i = j := by omega
          rw [hee] at hf ⊢
          rw [hfs] at hf
          exact hall f hf
      · rw [hsucc', hfl]
        exact a.push 5 e rows e.fr.toNat hlt _ _ _ _ H' h'
  · have hje : j = a.es.length := by simp at hc; omega
    subst hje
    exact ⟨_, rfl, by simp only [true_iff]; exact g2⟩
end Go.Proofs.Ytdahmcgncpoliaa
