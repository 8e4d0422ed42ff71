/- The edges of each state. -/
import Derived.Test.YtdahmcgncpoliaaVhZ
import Derived.Test.YtdahmcgncpoliaaDet
set_option linter.unusedVariables false
set_option linter.unusedSimpArgs false
set_option maxRecDepth 100000
namespace Go.Proofs.Ytdahmcgncpoliaa
open Go Go.Vh Go.Proofs
def Au.frN (a : Au) (i : Nat) : Nat := match a.es[i]? with
  | some e => e.fr.toNat
  | none => 0
def Au.byN (a : Au) : Nat → List (List Int)
  | 0 => List.replicate a.states.toNat []
  | j + 1 => (a.byN j).set (a.frN j) ((a.byN j).getD (a.frN j) [] ++ [(j : Int)])
theorem Au.byN_length (a : Au) : ∀ j, (a.byN j).length = a.states.toNat
  | 0 => by simp [Au.byN]
  | j + 1 => by simp [Au.byN, a.byN_length j]
/-- The rows behind the automaton, its box and the list of rows. -/
def Au.g3 (a : Au) (es b : Nat) (rows : List (List Int)) : AHeap := a.heap3.alloc (.cells 1 (rowVg (fun s => b + s) es rows))
def Edg.cs (e : Edg) : List AVal := [.int .i64 e.fr, .int .i64 e.to, .int .i64 e.care, .int .i64 e.bits, .int .i64 e.marks]
def Au.g4 (a : Au) (es : Nat) (e : Edg) (rows : List (List Int)) : AHeap := (a.g3 es 5 rows).alloc (.cells 1 (Edg.cs e))
/-- A new struct behind the rows gets a number ahead of them. -/
theorem Au.pull (a : Au) (es : Nat) (e : Edg) (rows : List (List Int)) (z : ABlk) : Emb 2 (rk [0, 1, 2, 3, 4 + rows.length] (fun s => 4 + s) rows.length (5 + rows.length)) (rowsAt (a.g4 es e rows) es rows) (((rowsAt (a.g3 es 4 rows) es rows).alloc z).set (4 + rows.length) (.cells 1 (Edg.cs e))) := by
  have hn4 : (rowsAt (a.g3 es 4 rows) es rows).n = 4 + rows.length := rfl
  generalize hH : AHeap.set _ _ _ = H1
  have hHn : H1.n = 5 + rows.length := by rw [← hH]; show 4 + rows.length + 1 = _; omega
  have hHf : ∀ i, i ≠ 4 + rows.length → H1.f i = (rowsAt (a.g3 es 4 rows) es rows).f i := by
    intro i hi
    rw [← hH, set_f, if_neg hi, alloc_f, hn4, if_neg hi]
  have hHe : H1.f (4 + rows.length) = .cells 1 (Edg.cs e) := by
    rw [← hH, set_f, if_pos rfl]
  have hHv : ∀ i, i < 4 → H1.ver i = 0 := by
    intro i hi
    rw [← hH, set_ver, if_neg (by show i ≠ 4 + rows.length; omega), alloc_ver]
    rfl
  refine Emb.rows (G := a.g4 es e rows) (rows := rows) [0, 1, 2, 3, 4 + rows.length] (fun s => 4 + s) hHn rfl (by show 2 ≤ 5; decide) (by simp; omega) (fun i hi => ?_) (fun i k hk => ?_) (fun s hs => by show 4 + s < _; omega) (fun s x l h => ?_) (fun s t x l y m h h' hst => by omega)
  · have hi : i < 2 := hi
    rcases i with _ | _ | i
    · exact ⟨rfl, (hHv 0 (by decide)).symm, by rw [hHf 0 (by omega)]; exact fun h => h⟩
    · exact ⟨rfl, (hHv 1 (by decide)).symm, by rw [hHf 1 (by omega)]; exact fun h => h⟩
    · omega
  · rcases i with _ | _ | _ | _ | _ | i
    · cases hk; exact ⟨by omega, by rw [hHf 0 (by omega)]; exact .roI⟩
    · cases hk; exact ⟨by omega, by rw [hHf 1 (by omega)]; exact .roI⟩
    · cases hk; exact ⟨by omega, by rw [hHf 2 (by omega)]; exact .inl rfl⟩
    · cases hk
      refine ⟨by omega, ?_⟩
      rw [hHf 3 (by omega)]
      refine .inl ?_
      show ABlk.cells 1 (rowVg _ es rows) = renB _ (.cells 1 (rowVg _ es rows))
      rw [renB, rens_rowVg]
      congr 1
      refine rowVg_congr fun s x l h => ?_
      have hs : s < rows.length := (List.getElem?_eq_some_iff.1 h).1
      exact (rk_row (ks := [0, 1, 2, 3, 4 + rows.length]) hs).symm
    · cases hk; exact ⟨by omega, by rw [hHe]; exact .inl rfl⟩
    · simp at hk
  · have hs : s < rows.length := (List.getElem?_eq_some_iff.1 h).1
    refine ⟨by simp; omega, ?_⟩
    rw [hHf _ (by omega)]
    show (if 4 + s < 4 then _ else rowBlk es rows[4 + s - 4]?) = _
    rw [if_neg (by omega), Nat.add_sub_cancel_left, h]
    rfl
theorem set_row {rows : List (List Int)} {s : Nat} {r : List Int} (hs : s < rows.length) (t : Nat) : (rows.set s r)[t]? = if t = s then some r else rows[t]? := by
  rw [List.getElem?_set]
  by_cases h : s = t
  · subst h; simp [hs]
  · rw [if_neg h, if_neg (fun h' => h h'.symm)]
/-- A row with one more element behind it; what is not needed any more is forgotten. -/
theorem Au.push (a : Au) (es : Nat) (e : Edg) (rows : List (List Int)) (s : Nat) (hs : s < rows.length) (r : List Int) (y : Int) (l : List Int) (z : ABlk) (H' : AHeap) (hH' : (r = [] ∧ H' = (rowsAt (a.g4 es e rows) es rows).alloc z) ∨ (r ≠ [] ∧ H' = ((rowsAt (a.g4 es e rows) es rows).alloc z).set (5 + s) .dead)) :
    Emb 2 (rk [0, 1, 2, 3] (fun t => if t = s then (5 + rows.length + 1) else 5 + t) rows.length (7 + rows.length)) (rowsAt (a.g3 es 4 (rows.set s (y :: l))) es (rows.set s (y :: l)))
      ((H'.alloc (.cells es (ints (y :: l)))).set 3 (.cells 1 ((rowVg (fun t => 5 + t) es rows).set s (.slice ((5 + rows.length + 1)) 0 ((y :: l).length / es))))) := by
  have hn5 : (rowsAt (a.g4 es e rows) es rows).n = 5 + rows.length := rfl
  have hn' : H'.n = (5 + rows.length + 1) := by rcases hH' with ⟨_, rfl⟩ | ⟨_, rfl⟩ <;> (rfl)
  have hf' : ∀ i, i < 5 + rows.length → i ≠ 5 + s → H'.f i = (rowsAt (a.g4 es e rows) es rows).f i := by
    intro i h1 h2
    rcases hH' with ⟨_, rfl⟩ | ⟨_, rfl⟩
    · rw [alloc_f, hn5, if_neg (by omega)]
    · rw [set_f, if_neg h2, alloc_f, hn5, if_neg (by omega)]
  have hv' : ∀ i, i < 4 → H'.ver i = 0 := by
    intro i h1
    rcases hH' with ⟨_, rfl⟩ | ⟨_, rfl⟩
    · rfl
    · rw [set_ver, if_neg (by omega)]; rfl
  generalize hH : AHeap.set _ _ _ = H3
  have hHn : H3.n = 7 + rows.length := by rw [← hH]; show H'.n + 1 = _; omega
  have hHf : ∀ i, i < 5 + rows.length → i ≠ 3 → i ≠ 5 + s → H3.f i = (rowsAt (a.g4 es e rows) es rows).f i := by
    intro i h1 h2 h3
    rw [← hH, set_f, if_neg h2, alloc_f, hn', if_neg (by omega), hf' i h1 h3]
  have hH3 : H3.f 3 = .cells 1 ((rowVg (fun t => 5 + t) es rows).set s (.slice ((5 + rows.length + 1)) 0 ((y :: l).length / es))) := by rw [← hH, set_f, if_pos rfl]
  have hHw : H3.f ((5 + rows.length + 1)) = .cells es (ints (y :: l)) := by rw [← hH, set_f, if_neg (by omega), alloc_f, hn', if_pos rfl]
  have hHv : ∀ i, i < 3 → H3.ver i = 0 := by
    intro i hi
    rw [← hH, set_ver, if_neg (by omega), alloc_ver, hv' i (by omega)]
  have hlen : (rows.set s (y :: l)).length = rows.length := by simp
  have := Emb.rows (n0 := 2) (es := es) (G := a.g3 es 4 (rows.set s (y :: l))) (H := H3) (rows := rows.set s (y :: l)) [0, 1, 2, 3] (fun t => if t = s then (5 + rows.length + 1) else 5 + t) hHn rfl (by show 2 ≤ 4; decide) (by decide) (fun i hi => ?_) (fun i k hk => ?_) (fun t ht => ?_) (fun t x m h => ?_) (fun t u x m y' m' h h' htu => ?_)
  · rwa [hlen] at this
  · rcases i with _ | _ | i
    · exact ⟨rfl, (hHv 0 (by decide)).symm, by rw [hHf 0 (by omega) (by omega) (by omega)]; exact fun h => h⟩
    · exact ⟨rfl, (hHv 1 (by decide)).symm, by rw [hHf 1 (by omega) (by omega) (by omega)]; exact fun h => h⟩
    · omega
  · rw [hlen]
    rcases i with _ | _ | _ | _ | i
    · cases hk; exact ⟨by omega, by rw [hHf 0 (by omega) (by omega) (by omega)]; exact .roI⟩
    · cases hk; exact ⟨by omega, by rw [hHf 1 (by omega) (by omega) (by omega)]; exact .roI⟩
    · cases hk; exact ⟨by omega, by rw [hHf 2 (by omega) (by omega) (by omega)]; exact .inl rfl⟩
    · cases hk
      refine ⟨by omega, ?_⟩
      rw [hH3]
      refine .inl ?_
      show _ = renB _ (.cells 1 (rowVg _ es (rows.set s (y :: l))))
      rw [renB, rens_rowVg, rowVg_set]
      congr 1
      refine rowVg_congr fun t x m h => ?_
      have ht : t < rows.length := by have := (List.getElem?_eq_some_iff.1 h).1; rwa [hlen] at this
      exact (rk_row (ks := [0, 1, 2, 3]) (g := fun t => if t = s then (5 + rows.length + 1) else 5 + t) ht).symm
    · simp at hk
  · rw [hlen] at ht
    split <;> omega
  · have ht : t < rows.length := by have := (List.getElem?_eq_some_iff.1 h).1; rwa [hlen] at this
    refine ⟨by simp; split <;> omega, ?_⟩
    rw [set_row hs] at h
    split
    · rename_i hts
      rw [if_pos hts] at h
      cases h
      exact hHw
    · rename_i hts
      rw [if_neg hts] at h
      rw [hHf _ (by omega) (by omega) (by omega)]
      show (if 5 + t < 5 then _ else rowBlk es rows[5 + t - 5]?) = _
      rw [if_neg (by omega), Nat.add_sub_cancel_left, h]
      rfl
  · have ht : t < rows.length := by have := (List.getElem?_eq_some_iff.1 h).1; rwa [hlen] at this
    have hu : u < rows.length := by have := (List.getElem?_eq_some_iff.1 h').1; rwa [hlen] at this
    split <;> split <;> omega
theorem Au.byN_row (a : Au) : ∀ j s, ((a.byN j).getD s []).length ≤ j
  | 0, s => by
    rw [Au.byN, List.getD_eq_getElem?_getD, List.getElem?_replicate]
    split <;> simp
  | j + 1, s => by
    have h1 := a.byN_row j s
    have h2 := a.byN_row j (a.frN j)
    rw [Au.byN, List.getD_eq_getElem?_getD, List.getElem?_set]
    rw [List.getD_eq_getElem?_getD] at h1
    split
    · split
      · simp only [Option.getD_some, List.length_append, List.length_singleton]; omega
      · simp
    · omega
theorem Au.pop (a : Au) (es : Nat) (rows : List (List Int)) : Emb 2 (rk [0, 1, 3] (fun s => 4 + s) rows.length (4 + rows.length)) (rowsAt (a.heap.alloc (.cells 1 (rowVg (fun s => 3 + s) es rows))) es rows) (rowsAt (a.g3 es 4 rows) es rows) := by
  refine Emb.rows (G := a.heap.alloc (.cells 1 (rowVg (fun s => 3 + s) es rows))) (rows := rows) [0, 1, 3] (fun s => 4 + s) rfl rfl (by show 2 ≤ 3; decide) (by decide) (fun i hi => ?_) (fun i k hk => ?_) (fun s hs => by show 4 + s < _; omega) (fun s x l h => ?_) (fun s t x l y m h h' hst => by omega)
  · rcases i with _ | _ | i
    · exact ⟨rfl, rfl, fun h => h⟩
    · exact ⟨rfl, rfl, fun h => h⟩
    · omega
  · rcases i with _ | _ | _ | i
    · cases hk; exact ⟨by omega, .roI⟩
    · cases hk; exact ⟨by omega, .roI⟩
    · cases hk
      refine ⟨by omega, .inl ?_⟩
      show ABlk.cells 1 (rowVg _ es rows) = renB _ (.cells 1 (rowVg _ es rows))
      rw [renB, rens_rowVg]
      congr 1
      refine rowVg_congr fun s x l h => ?_
      have hs : s < rows.length := (List.getElem?_eq_some_iff.1 h).1
      exact (rk_row (ks := [0, 1, 3]) hs).symm
    · simp at hk
  · have hs : s < rows.length := (List.getElem?_eq_some_iff.1 h).1
    refine ⟨by simp; omega, ?_⟩
    show (if 4 + s < 4 then _ else rowBlk es rows[4 + s - 4]?) = _
    rw [if_neg (by omega), Nat.add_sub_cancel_left, h]
    rfl
theorem by42 (a : Au) (hf : a.Fits) (ho : a.Ok) : CallW Try.prog 42 [a.av] a.heap fun v G => v = .slice 2 0 a.states.toNat ∧ G = rowsAt (a.heap.alloc (.cells 1 (rowVg (fun s => 3 + s) 1 (a.byN a.es.length)))) 1 (a.byN a.es.length) := by
  obtain ⟨hh, hs, he⟩ := ho
  have hs0 := hh.2.2.1
  have hs1 := hh.2.2.2.1
  have hne := hh.2.2.2.2.2.2.2
  refine CallW.symR Try.func42 rfl (by kernel_rfl) ?_
  conv => whnf
  iterate 1 (refine Gets.of _ rfl ?_; conv => whnf)
  refine Gets.makeRows (ti := ⟨1, 24, false, [.nilSlice]⟩) (by kernel_rfl) rfl rfl (by decide) hs0 (by omega) ?_
  conv => whnf
  iterate 2 (refine Gets.of _ rfl ?_; conv => whnf)
  refine CodeS.loopG (σ := Nat) (fun j => [(1, .ptr 2 0), (2, .nilSlice), (3, .slice 3 0 a.states.toNat), (10, .view 1 0 a.es.length), (11, .int .i64 a.es.length), (12, .int .i64 j)]) (fun j => rowsAt (a.g3 1 4 (a.byN j)) 1 (a.byN j)) (fun j => j ≤ a.es.length) (fun j => a.es.length - j) 0 (rk [0, 1, 2, 3] (fun _ => 0) (a.byN 0).length 4) (by kernel_rfl)
    (Nat.zero_le _) ⟨rfl, rfl, rfl, rfl, rfl, rfl, trivial⟩ ?_ ?_
  · have hnil : ∀ (s : Nat) (x : Int) (l : List Int), (a.byN 0)[s]? ≠ some (x :: l) := by
      intro s x l h
      rw [Au.byN, List.getElem?_replicate] at h
      split at h <;> cases h
    refine Emb.rows (G := a.g3 1 4 (a.byN 0)) (rows := a.byN 0) [0, 1, 2, 3] (fun _ => 0) rfl rfl (by show 2 ≤ 4; decide) (by decide) (fun i hi => ?_) (fun i k hk => ?_) (fun s hs => by show 0 < 4; decide) (fun s x l h => absurd h (hnil s x l)) (fun s t x l y m h => absurd h (hnil s x l))
    · have hi : i < 2 := hi
      rcases i with _ | _ | i
      · exact ⟨rfl, rfl, fun h => h⟩
      · exact ⟨rfl, rfl, fun h => h⟩
      · omega
    · rcases i with _ | _ | _ | _ | i
      · cases hk; exact ⟨by show 0 < 4; decide, .roI⟩
      · cases hk; exact ⟨by show 1 < 4; decide, .roI⟩
      · cases hk; exact ⟨by show 2 < 4; decide, .inl rfl⟩
      · cases hk
        refine ⟨by show 3 < 4; decide, .inl ?_⟩
        show ABlk.cells 1 _ = renB _ (.cells 1 (rowVg _ 1 (List.replicate a.states.toNat [])))
        rw [renB, rens_rowVg, rowVg_nils]
      · simp at hk
  intro j g1
  conv => whnf
  refine Fork.mk (fun hc => ?_) (fun hc => ?_)
  all_goals conv => whnf
  · have hc : j < a.es.length := by simp at hc; omega
    refine Gets.ixV (es := 5) rfl (by kernel_rfl) (by omega) (by omega) ?_
    conv => whnf
    refine Gets.loadE (j := j) (es := a.es) (ti := ⟨5, 40, true, [.int .i64 0, .int .i64 0, .int .i64 0, .int .i64 0, .int .i64 0]⟩) (by kernel_rfl) rfl rfl rfl (by simp) hc ?_
    have hok := he _ (List.getElem_mem hc)
    generalize hee : a.es[j] = e at hok
    have hf0 := hok.1
    have hf1 := hok.2.1
    have hfr : a.frN j = e.fr.toNat := by unfold Au.frN; rw [List.getElem?_eq_getElem hc, hee]
    conv => whnf
    have hb := a.byN_length j
    have hrl := a.byN_row j e.fr.toNat
    generalize hrows : a.byN j = rows at hb hrl
    refine Gets.storeAll (es := 1) (cs := [.int .i64 0, .int .i64 0, .int .i64 0, .int .i64 0, .int .i64 0]) (ti := ⟨5, 40, true, [.int .i64 0, .int .i64 0, .int .i64 0, .int .i64 0, .int .i64 0]⟩) (by kernel_rfl) rfl rfl (by simp only [alloc_f, if_true]; rfl) rfl ?_
    conv => whnf
    refine CodeS.gc (G := rowsAt (a.g4 1 e rows) 1 rows) (κ := rk [0, 1, 2, 3, 4 + rows.length] (fun s => 4 + s) rows.length (5 + rows.length))
      [(1, .ptr 2 0), (2, .nilSlice), (3, .slice 3 0 a.states.toNat), (4, .int .i64 j), (5, .ptr 4 0), (10, .view 1 0 a.es.length), (11, .int .i64 a.es.length), (12, .int .i64 j)] ⟨rfl, rfl, rfl, rfl, rfl, rfl, rfl, rfl, trivial⟩ (a.pull 1 e rows _) ?_
    refine CodeS.drawI [3, 4] [(0, true, false), (1, true, false), (2, true, false), (3, true, false), (4, true, false), (5, true, false), (6, true, false), (7, true, false), (8, true, false), (9, false, true), (10, false, true), (11, true, false), (12, false, false)] mixed (by kernel_rfl)
      (.cons ⟨Nat.ble_eq_true_of_le (by show 4 ≤ 5 + rows.length; omega), trivial⟩ (.cons ⟨Nat.ble_eq_true_of_le (by show 5 ≤ 5 + rows.length; omega), trivial⟩ .nil)) ?_
    conv => whnf
    iterate 2 (refine Gets.of _ rfl ?_; conv => whnf)
    refine Gets.ixS (es := 1) rfl (by kernel_rfl) hf0 (by omega) ?_
    have hlt : e.fr.toNat < rows.length := by omega
    have hget : rows[e.fr.toNat]? = some (rows.getD e.fr.toNat []) := by rw [List.getD_eq_getElem?_getD, List.getElem?_eq_getElem hlt]; rfl
    have hrow := (rowVg_get (fun s => 5 + s) 1 rows e.fr.toNat).trans (congrArg (Option.map _) hget)
    conv => whnf
    refine Gets.loadAt (j := e.fr.toNat) (v := rowV (5 + e.fr.toNat) 1 (rows.getD e.fr.toNat [])) (ti := ⟨1, 24, false, [.nilSlice]⟩) (by kernel_rfl) rfl (by simp) hrow ?_
    have hrowf : rows.getD e.fr.toNat [] ≠ [] → (rowsAt (a.g4 1 e rows) 1 rows).f (5 + e.fr.toNat) = .cells 1 (ints (rows.getD e.fr.toNat [])) := by
      intro hne
      show (if 5 + e.fr.toNat < 5 then _ else rowBlk 1 rows[5 + e.fr.toNat - 5]?) = _
      rw [if_neg (by omega), Nat.add_sub_cancel_left, hget]
      cases hq : rows.getD e.fr.toNat [] with
      | nil => exact absurd hq hne
      | cons x l => rfl
    generalize rows.getD e.fr.toNat [] = r at hget hrow hrl hrowf
    have hw : IntKind.wrap .i64 ((j : Int) + 1) = ((j + 1 : Nat) : Int) := by rw [wrap_i64 (by omega) (by omega)]; rfl
    have hnext : a.byN (j + 1) = rows.set e.fr.toNat (r ++ [(j : Int)]) := by
      rw [Au.byN, hfr, hrows]
      congr 2
      rw [List.getD_eq_getElem?_getD, hget]; rfl
    have hstore : ∀ H', (r = [] ∧ H' = (rowsAt (a.g4 1 e rows) 1 rows).alloc (.cells 1 (ints [(j : Int)]))) ∨ (r ≠ [] ∧ H' = ((rowsAt (a.g4 1 e rows) 1 rows).alloc (.cells 1 (ints [(j : Int)]))).set (5 + e.fr.toNat) .dead) → (H'.alloc (.cells 1 (ints (r ++ [(j : Int)])))).f 3 = .cells 1 (rowVg (fun t => 5 + t) 1 rows) ∧ H'.n = 5 + rows.length + 1 ∧ H'.ver 3 = 0 ∧ H'.ver 4 = 0 := by
      rintro H' (⟨_, rfl⟩ | ⟨_, rfl⟩)
      · refine ⟨?_, rfl, rfl, rfl⟩
        rw [alloc_f, if_neg (by show ¬ 3 = 5 + rows.length + 1; omega), alloc_f, if_neg (by show ¬ 3 = 5 + rows.length; omega)]
        rfl
      · refine ⟨?_, rfl, ?_, ?_⟩
        · rw [alloc_f, if_neg (by show ¬ 3 = 5 + rows.length + 1; omega), set_f, if_neg (by omega), alloc_f, if_neg (by show ¬ 3 = 5 + rows.length; omega)]
          rfl
        · rw [set_ver, if_neg (by omega)]; rfl
        · rw [set_ver, if_neg (by omega)]; rfl
    rcases r with _ | ⟨x, r⟩
    all_goals
      conv => whnf
      refine ⟨fun _ i hi => rfl, ?_⟩
      conv => whnf
    · refine Gets.appendRow (es := 1) (b := 5 + e.fr.toNat) (r := []) (y := (j : Int)) (x := []) (ti := ⟨1, 8, false, [.int .i64 0]⟩) (d := .slice 3) (by kernel_rfl) (by kernel_rfl) rfl rfl rfl (by decide) (by decide) rfl (if_pos rfl) (fun h => absurd rfl h) ⟨0, rfl, by decide⟩ ?_
      intro H' h'
      obtain ⟨s1, s2, s3, s4⟩ := hstore H' h'
      conv => whnf
      refine ⟨fun _ i hi => ?_, ?_⟩
      · simp only [List.mem_cons, List.not_mem_nil, or_false] at hi
        rcases hi with rfl | rfl
        · exact s3
        · exact s4
      conv => whnf
      refine Gets.ixS (es := 1) rfl (by kernel_rfl) hf0 (by omega) ?_
      conv => whnf
      refine Gets.storeAt (j := e.fr.toNat) (ti := ⟨1, 24, false, [.nilSlice]⟩) (by kernel_rfl) rfl rfl rfl s1 (by simp) (by rw [rowVg_length]; exact hlt) ?_
      conv => whnf
      refine ⟨(fun h => by cases h), ?_⟩
      conv => whnf
      refine ⟨j + 1, rk [0, 1, 2, 3] (fun t => if t = e.fr.toNat then 5 + rows.length + 1 else 5 + t) rows.length (7 + rows.length), by omega, by omega, ⟨rfl, rfl, rfl, rfl, rfl, congrArg (AVal.int .i64) hw, trivial⟩, ?_⟩
      rw [hnext]
      exact a.push 1 e rows e.fr.toNat hlt _ _ _ _ H' h'
    · refine Gets.appendRow (es := 1) (b := 5 + e.fr.toNat) (r := x :: r) (y := (j : Int)) (x := []) (ti := ⟨1, 8, false, [.int .i64 0]⟩) (d := .slice 3) (by kernel_rfl) (by kernel_rfl) rfl rfl rfl (by decide) (by decide) rfl (if_pos rfl) (fun h => (if_neg (by show ¬ 5 + e.fr.toNat = 5 + rows.length; omega)).trans (hrowf h)) ⟨(x :: r).length, by omega, by omega⟩ ?_
      intro H' h'
      obtain ⟨s1, s2, s3, s4⟩ := hstore H' h'
      conv => whnf
      refine ⟨fun _ i hi => ?_, ?_⟩
      · simp only [List.mem_cons, List.not_mem_nil, or_false] at hi
        rcases hi with rfl | rfl
        · exact s3
        · exact s4
      conv => whnf
      refine Gets.ixS (es := 1) rfl (by kernel_rfl) hf0 (by omega) ?_
      conv => whnf
      refine Gets.storeAt (j := e.fr.toNat) (ti := ⟨1, 24, false, [.nilSlice]⟩) (by kernel_rfl) rfl rfl rfl s1 (by simp) (by rw [rowVg_length]; exact hlt) ?_
      conv => whnf
      refine ⟨(fun h => by cases h), ?_⟩
      conv => whnf
      refine ⟨j + 1, rk [0, 1, 2, 3] (fun t => if t = e.fr.toNat then 5 + rows.length + 1 else 5 + t) rows.length (7 + rows.length), by omega, by omega, ⟨rfl, rfl, rfl, rfl, rfl, congrArg (AVal.int .i64) hw, trivial⟩, ?_⟩
      rw [hnext]
      exact a.push 1 e rows e.fr.toNat hlt _ _ _ _ H' h'
  · have hje : j = a.es.length := by simp at hc; omega
    subst hje
    exact ⟨_, .slice 2 0 a.states.toNat, _, a.pop 1 _, rfl, rfl, rfl⟩
end Go.Proofs.Ytdahmcgncpoliaa
