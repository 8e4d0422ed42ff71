/- Room for not accepting. -/
import Derived.Test.YtdahmcgncpoliaaCpy
set_option linter.unusedVariables false
set_option linter.unusedSimpArgs false
set_option maxRecDepth 100000
namespace Go.Proofs.Ytdahmcgncpoliaa
open Go Go.Vh Go.Proofs
def allM (a : Au) : Nat := maskN ⟨0, 0, 0, 0, 0⟩ (2 ^ a.props.toNat)
def zero32 : List AVal := [.int .i64 0, .int .i64 0, .nilSlice, .int .i64 0, .int .i64 0, .nilSlice]
/-- What lies about in Fill. -/
def Au.FH (a : Au) (E : List Edg) (n : Nat) (marks states : Int) : AHeap := ((((((a.heap.alloc a.boxS).alloc (.cells 1 zero32)).alloc (.cells 1 (u64s (a.ms a.es.length)))).alloc (.cells 1 (ints a.start))).alloc (.cells 5 (ints (flat E)))).alloc (.cells 1 [.int .i64 a.props, .int .i64 states, .slice 5 0 a.start.length, .int .i64 a.kind, .int .i64 marks, .slice 6 0 n])).alloc (.cells 1 (nums .u64 [(allM a : Int)]))
def mark1 (e : Edg) : Edg := ⟨e.fr, e.to, e.care, e.bits, 1⟩
def Au.rfE (a : Au) : List Edg := if a.kind = 1 ∧ a.marks = 0 then a.es.map mark1 else a.es
def Au.rfM (a : Au) : Int := if a.kind = 1 ∧ a.marks = 0 then 1 else if a.kind = 4 ∧ a.marks = 0 then 2 else a.marks
theorem FH_set7 (a : Au) (E : List Edg) (n : Nat) (m m' st : Int) : (fun j => if j = 7 then ABlk.cells 1 [.int .i64 a.props, .int .i64 st, .slice 5 0 a.start.length, .int .i64 a.kind, .int .i64 m', .slice 6 0 n] else (a.FH E n m st).f j) = (a.FH E n m' st).f := by
  funext j
  show (if j = 7 then _ else (if j = 8 then _ else if j = 7 then _ else if j = 6 then _ else if j = 5 then _ else if j = 4 then _ else if j = 3 then _ else if j = 2 then _ else a.heap.f j)) = (if j = 8 then _ else if j = 7 then _ else if j = 6 then _ else if j = 5 then _ else if j = 4 then _ else if j = 3 then _ else if j = 2 then _ else a.heap.f j)
  by_cases h : j = 7
  · subst h; rfl
  · rw [if_neg h, if_neg h, if_neg h]
theorem Gets.storeF5 {H : AHeap} {i off j : Nat} {x : Int} {E : List Edg} {A : AHeap → Prop} (hf : H.f i = .cells 5 (ints (flat E))) (ho : off = j * 5 + 4) (h : j < E.length) (hA : A (H.set i (.cells 5 (ints ((flat E).set (j * 5 + 4) x))))) : Gets (storeA Try.prog H 3 (.ptr i off) (.int .i64 x)) A :=
  Gets.storeN (k := .i64) (l := flat E) (ti := ⟨1, 8, false, [.int .i64 0]⟩) (by kernel_rfl) rfl hf ho (by rw [flat_length]; omega) hA
theorem flat_mark (E : List Edg) (j : Nat) (h : j < E.length) : (flat E).set (j * 5 + 4) 1 = flat (E.set j (mark1 E[j])) := by
  have h1 : E = E.take j ++ E[j] :: E.drop (j + 1) := by rw [← List.drop_eq_getElem_cons h, List.take_append_drop]
  have h2 : E.set j (mark1 E[j]) = E.take j ++ mark1 E[j] :: E.drop (j + 1) := by rw [List.set_eq_take_append_cons_drop, if_pos h]
  have h3 : flat E = flat (E.take j) ++ (E[j].l ++ flat (E.drop (j + 1))) := by
    have : flat (E.take j ++ E[j] :: E.drop (j + 1)) = flat (E.take j) ++ (E[j].l ++ flat (E.drop (j + 1))) := by rw [flat_append]; rfl
    rw [← h1] at this
    exact this
  rw [h2, flat_append, h3, List.set_append_right _ _ (by rw [flat_length, List.length_take]; omega)]
  congr 1
  rw [flat_length, List.length_take, show j * 5 + 4 - min j E.length * 5 = 4 by omega, List.set_append_left _ _ (by show 4 < 5; decide)]
  rfl
def markTo (es : List Edg) (j : Nat) : List Edg := (es.take j).map mark1 ++ es.drop j
theorem markTo_length (es : List Edg) (j : Nat) : (markTo es j).length = es.length := by simp [markTo]; omega
theorem markTo_succ (es : List Edg) (j : Nat) (h : j < es.length) : (markTo es j).set j (mark1 ((markTo es j)[j]'(by rw [markTo_length]; exact h))) = markTo es (j + 1) := by
  have hg : (markTo es j)[j]'(by rw [markTo_length]; exact h) = es[j] := by
    unfold markTo
    rw [List.getElem_append_right (by simp; omega)]
    simp [List.length_take, Nat.min_eq_left (Nat.le_of_lt h)]
  rw [hg]
  unfold markTo
  rw [List.set_append_right _ _ (by simp; omega), List.length_map, List.length_take, Nat.min_eq_left (Nat.le_of_lt h), Nat.sub_self, List.drop_eq_getElem_cons h, List.set_cons_zero, List.take_succ_eq_append_getElem h, List.map_append]
  simp
theorem FH_closed (a : Au) (E : List Edg) (n : Nat) (m st : Int) (ver : Nat → Nat) : Closed ⟨9, (a.FH E n m st).f, ver⟩ := by
  intro i hi κ hκ
  have hi : i < 9 := hi
  have k0 : κ 0 = 0 := hκ 0 (by show 0 < 9; omega)
  have k1 : κ 1 = 1 := hκ 1 (by show 1 < 9; omega)
  have k5 : κ 5 = 5 := hκ 5 (by show 5 < 9; omega)
  have k6 : κ 6 = 6 := hκ 6 (by show 6 < 9; omega)
  rcases i with _ | _ | _ | _ | _ | _ | _ | _ | _ | i
  · show renB κ (.ro 1 (ints a.start)) = .ro 1 (ints a.start); rw [renB, rens_ints]
  · show renB κ (.ro 5 (ints (flat a.es))) = .ro 5 (ints (flat a.es)); rw [renB, rens_ints]
  · show renB κ a.boxS = a.boxS; simp [Au.boxS, renB, rens, ren, k0, k1]
  · rfl
  · show renB κ (.cells 1 (u64s _)) = .cells 1 (u64s _); rw [renB, u64s, rens_nums]
  · show renB κ (.cells 1 (ints a.start)) = .cells 1 (ints a.start); rw [renB, rens_ints]
  · show renB κ (.cells 5 (ints (flat E))) = .cells 5 (ints (flat E)); rw [renB, rens_ints]
  · show renB κ (.cells 1 [.int .i64 a.props, .int .i64 st, .slice 5 0 a.start.length, .int .i64 a.kind, .int .i64 m, .slice 6 0 n]) = .cells 1 [.int .i64 a.props, .int .i64 st, .slice 5 0 a.start.length, .int .i64 a.kind, .int .i64 m, .slice 6 0 n]
    simp [renB, rens, ren, k5, k6]
  · rfl
  · omega
theorem refuse55 (a : Au) (st : Int) (hne : a.es.length ≤ 40000) (H : AHeap) (hn : H.n = 9) (hf : ∀ i, i < 9 → H.f i = (a.FH a.es a.es.length a.marks st).f i) : CallW Try.prog 55 [.ptr 7 0] H fun v G => v = .tuple [] ∧ G.n = 9 ∧ (∀ i, i < 9 → G.f i = (a.FH a.rfE a.es.length a.rfM st).f i) ∧ ∀ i, i < 2 → G.ver i = H.ver i := by
  have f7 : H.f 7 = .cells 1 [.int .i64 a.props, .int .i64 st, .slice 5 0 a.start.length, .int .i64 a.kind, .int .i64 a.marks, .slice 6 0 a.es.length] := hf 7 (by decide)
  refine CallW.sym Try.func55 rfl (by kernel_rfl) ?_
  conv => whnf
  refine Gets.loadAt (j := 3) (v := .int .i64 a.kind) (ti := ⟨1, 8, false, [.int .i64 0]⟩) (by kernel_rfl) rfl rfl (by rw [f7]; rfl) ?_
  conv => whnf
  have other : ¬ (a.kind = 1 ∧ a.marks = 0) → a.rfE = a.es ∧ a.rfM = if a.kind = 4 ∧ a.marks = 0 then 2 else a.marks := fun h => ⟨if_neg h, if_neg h⟩
  refine Fork.mk (fun h1 => ?_) (fun h1 => ?_)
  all_goals conv => whnf
  · refine Gets.loadAt (j := 4) (v := .int .i64 a.marks) (ti := ⟨1, 8, false, [.int .i64 0]⟩) (by kernel_rfl) rfl rfl (by rw [f7]; rfl) ?_
    conv => whnf
    refine Fork.mk (fun h2 => ?_) (fun h2 => ?_)
    all_goals conv => whnf
    · simp only [beq_iff_eq] at h1 h2
      refine Gets.storeAt (j := 4) (ti := ⟨1, 8, false, [.int .i64 0]⟩) (by kernel_rfl) rfl rfl rfl f7 rfl (by show 4 < 6; decide) ?_
      conv => whnf
      refine Gets.loadAt (j := 5) (v := .slice 6 0 a.es.length) (ti := ⟨1, 24, false, [.nilSlice]⟩) (by kernel_rfl) rfl rfl (by rw [set_f, if_pos rfl]; rfl) ?_
      conv => whnf
      iterate 1 (refine Gets.of _ rfl ?_; conv => whnf)
      have hpre : ∀ (j : Nat) (H' : AHeap), H'.n = 9 → (∀ i, i < 9 → H'.f i = (a.FH (markTo a.es j) a.es.length 1 st).f i) → (∀ i, i < H.n → (if i = 7 then H.ver 7 + 1 else if i = 6 then H.ver 6 + j else H.ver i) = H'.ver i) → Emb H.n (preK 9 9) ⟨9, (a.FH (markTo a.es j) a.es.length 1 st).f, fun i => if i = 7 then H.ver 7 + 1 else if i = 6 then H.ver 6 + j else H.ver i⟩ H' := by
        intro j H' e1 e2 e3
        have := Emb.pre (n0 := H.n) (FH_closed a (markTo a.es j) a.es.length 1 st (fun i => if i = 7 then H.ver 7 + 1 else if i = 6 then H.ver 6 + j else H.ver i)) (H := H') (by show 9 ≤ H'.n; omega) (by show H.n ≤ 9; omega) e2 e3
        rw [e1] at this
        exact this
      refine CodeS.loopG (σ := Nat) (fun j => [(0, .ptr 7 0), (23, .int .i64 a.es.length), (24, .int .i64 j)]) (fun j => ⟨9, (a.FH (markTo a.es j) a.es.length 1 st).f, fun i => if i = 7 then H.ver 7 + 1 else if i = 6 then H.ver 6 + j else H.ver i⟩) (fun j => j ≤ a.es.length) (fun j => a.es.length - j) 0 (preK 9 9) (by kernel_rfl)
        (Nat.zero_le _) ⟨rfl, rfl, rfl, trivial⟩ (hpre 0 _ hn (fun i hi => ?_) (fun i hi => ?_)) ?_
      · have hm : markTo a.es 0 = a.es := by simp [markTo]
        rw [hm, ← FH_set7 a a.es a.es.length a.marks 1 st, set_f, hf i hi]
        rfl
      · rw [set_ver]
        by_cases h7 : i = 7
        · subst h7; simp
        · rw [if_neg h7, if_neg h7]
          split
          · rename_i h6; rw [h6]; rfl
          · rfl
      intro j g1
      conv => whnf
      refine Fork.mk (fun hc => ?_) (fun hc => ?_)
      all_goals conv => whnf
      · have hc : j < a.es.length := by simp at hc; omega
        iterate 1 (refine Gets.of _ rfl ?_; conv => whnf)
        refine Gets.ixS (es := 5) rfl (by kernel_rfl) (by omega) (by omega) ?_
        conv => whnf
        have hlm := markTo_length a.es j
        refine Gets.storeF5 (j := j) (E := markTo a.es j) rfl (by show 0 + (j : Int).toNat * 5 + 4 = _; rw [Int.toNat_natCast]; omega) (by omega) ?_
        conv => whnf
        have hw : IntKind.wrap .i64 ((j : Int) + 1) = ((j + 1 : Nat) : Int) := by rw [wrap_i64 (by omega) (by omega)]; rfl
        have hfm : (flat (markTo a.es j)).set (j * 5 + 4) 1 = flat (markTo a.es (j + 1)) := by rw [flat_mark _ _ (by omega), markTo_succ a.es j hc]
        refine ⟨j + 1, preK 9 9, by omega, by omega, ⟨rfl, rfl, congrArg (AVal.int .i64) hw, trivial⟩, hpre (j + 1) _ rfl (fun i hi => ?_) (fun i hi => ?_)⟩
        · rw [set_f]
          by_cases h6 : i = 6
          · subst h6
            rw [if_pos rfl, hfm]
            rfl
          · rw [if_neg h6]
            rcases i with _ | _ | _ | _ | _ | _ | _ | _ | _ | i
            all_goals first | rfl | omega
        · rw [set_ver]
          by_cases h6 : i = 6
          · subst h6; rfl
          · show (if i = 7 then H.ver 7 + 1 else if i = 6 then H.ver 6 + (j + 1) else H.ver i) = (if i = 6 then _ else (if i = 7 then H.ver 7 + 1 else if i = 6 then H.ver 6 + j else H.ver i))
            simp only [h6, if_false]
      · have hj : j = a.es.length := by simp at hc; omega
        subst hj
        have e1 : a.rfE = markTo a.es a.es.length := by unfold Au.rfE markTo; rw [if_pos ⟨h1, h2⟩]; simp
        have e2 : a.rfM = 1 := if_pos ⟨h1, h2⟩
        rw [e1, e2]
        refine ⟨rfl, rfl, fun i _ => rfl, fun i hi => ?_⟩
        show (if i = 7 then _ else if i = 6 then _ else H.ver i) = H.ver i
        rw [if_neg (by omega), if_neg (by omega)]
    · simp only [beq_iff_eq] at h1
      simp only [beq_eq_false_iff_ne, ne_eq] at h2
      obtain ⟨e1, e2⟩ := other (fun h => h2 h.2)
      refine Gets.loadAt (j := 3) (v := .int .i64 a.kind) (ti := ⟨1, 8, false, [.int .i64 0]⟩) (by kernel_rfl) rfl rfl (by rw [f7]; rfl) ?_
      conv => whnf
      refine Fork.mk (fun h3 => ?_) (fun h3 => ?_)
      · simp only [beq_iff_eq] at h3; omega
      conv => whnf
      rw [e1, e2, if_neg (fun h => h2 h.2)]
      exact ⟨rfl, hn, hf, fun _ _ => rfl⟩
  · simp only [beq_eq_false_iff_ne, ne_eq] at h1
    obtain ⟨e1, e2⟩ := other (fun h => h1 h.1)
    refine Gets.loadAt (j := 3) (v := .int .i64 a.kind) (ti := ⟨1, 8, false, [.int .i64 0]⟩) (by kernel_rfl) rfl rfl (by rw [f7]; rfl) ?_
    conv => whnf
    refine Fork.mk (fun h3 => ?_) (fun h3 => ?_)
    all_goals conv => whnf
    · simp only [beq_iff_eq] at h3
      refine Gets.loadAt (j := 4) (v := .int .i64 a.marks) (ti := ⟨1, 8, false, [.int .i64 0]⟩) (by kernel_rfl) rfl rfl (by rw [f7]; rfl) ?_
      conv => whnf
      refine Fork.mk (fun h4 => ?_) (fun h4 => ?_)
      all_goals conv => whnf
      · simp only [beq_iff_eq] at h4
        refine Gets.storeAt (j := 4) (ti := ⟨1, 8, false, [.int .i64 0]⟩) (by kernel_rfl) rfl rfl rfl f7 rfl (by show 4 < 6; decide) ?_
        conv => whnf
        rw [e1, e2, if_pos ⟨h3, h4⟩, ← FH_set7 a a.es a.es.length a.marks 2 st]
        refine ⟨rfl, hn, fun i hi => ?_, fun i hi => by rw [set_ver, if_neg (by omega)]⟩
        rw [set_f, hf i hi]
        rfl
      · simp only [beq_eq_false_iff_ne, ne_eq] at h4
        rw [e1, e2, if_neg (fun h => h4 h.2)]
        exact ⟨rfl, hn, hf, fun _ _ => rfl⟩
    · simp only [beq_eq_false_iff_ne, ne_eq] at h3
      rw [e1, e2, if_neg (fun h => h3 h.1)]
      exact ⟨rfl, hn, hf, fun _ _ => rfl⟩
end Go.Proofs.Ytdahmcgncpoliaa
