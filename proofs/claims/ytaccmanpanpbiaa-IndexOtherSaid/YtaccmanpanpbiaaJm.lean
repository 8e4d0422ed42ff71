/- Deterministic automata, as the reference tells them. -/
import Derived.Test.YtaccmanpanpbiaaJe
import Derived.Test.YtaccmanpanpbiaaVnA
import Derived.Test.YtaccmanpanpbiaaJk
-- VkG VkH VmA
set_option linter.unusedVariables false
set_option linter.unusedSimpArgs false
set_option maxRecDepth 100000
set_option maxHeartbeats 4000000
namespace Go.Proofs.Ytaccmanpanpbiaa
open Go Go.Vh Go.Vk Go.Vn Go.Proofs
open Classical
theorem recE : Rec Edg.l 5 := ⟨fun _ => rfl⟩
def meetsB (e f : Edg) : Bool := decide (bitsA .and .i64 e.bits f.care = bitsA .and .i64 f.bits e.care)
/-- No edge has a letter in common with an earlier one of the same state. -/
def AptN (l : List Edg) : Prop := ∀ (j i : Nat) (e f : Edg), l[j]? = some e → l[i]? = some f → i < j → f.fr.toNat = e.fr.toNat → meetsB e f = false
theorem aptN_next {l : List Edg} {j : Nat} {e : Edg} (he : l[j]? = some e) (h : AptN (l.take j)) (hno : ∀ f ∈ (l.take j).filter (fun f => decide (f.fr.toNat = e.fr.toNat)), meetsB e f = false) : AptN (l.take (j + 1)) := by
  have hj : j < l.length := (List.getElem?_eq_some_iff.1 he).1
  have hlen : (l.take (j + 1)).length = j + 1 := by rw [List.length_take]; omega
  intro a b x y hx hy hba hxy
  have ha : a < j + 1 := by have := (List.getElem?_eq_some_iff.1 hx).1; omega
  have hb : b < j := by omega
  rw [List.getElem?_take_of_lt (by omega)] at hy
  rcases Nat.lt_or_ge a j with h1 | h1
  · rw [List.getElem?_take_of_lt (by omega)] at hx
    exact h a b x y (by rw [List.getElem?_take_of_lt h1]; exact hx) (by rw [List.getElem?_take_of_lt hb]; exact hy) hba hxy
  · obtain rfl : a = j := by omega
    rw [List.getElem?_take_of_lt (by omega), he] at hx
    cases hx
    exact hno y (List.mem_filter.2 ⟨List.mem_of_getElem? (i := b) (by rw [List.getElem?_take_of_lt hb]; exact hy), decide_eq_true hxy⟩)
theorem aptN_no {l : List Edg} {j : Nat} {e f : Edg} (he : l[j]? = some e) (hf : f ∈ (l.take j).filter (fun f => decide (f.fr.toNat = e.fr.toNat))) (hm : meetsB e f = true) : ¬ AptN l := by
  intro h
  obtain ⟨h1, h2⟩ := List.mem_filter.1 hf
  obtain ⟨i, hi⟩ := List.getElem?_of_mem h1
  have hlt := (List.getElem?_eq_some_iff.1 hi).1
  rw [List.length_take] at hlt
  rw [List.getElem?_take_of_lt (by omega)] at hi
  rw [h j i e f he hi (by omega) (of_decide_eq_true h2)] at hm
  cases hm
def bxA (a : Au) : ABlk := .cells 1 [.int .i64 a.props, .int .i64 a.states, rI a.start, .int .i64 a.kind, .int .i64 a.marks, rE a.es]
theorem clean_bxA (a : Au) : Vk.Clean (bxA a) := fun κ => by
  unfold bxA
  rw [renB]
  rfl
theorem noRef_aut (a : Au) : noRef a.rv = true := rfl
theorem apartR (a : Au) (hs0 : 0 ≤ a.states) (hs1 : a.states ≤ 1073741824) (hel : a.es.length ≤ 1073741824) (hs : ∀ e ∈ a.es, SmE a.states.toNat e) (H : AHeap) : CallW Try.prog 84 [a.rv] H fun v H' => H' = H ∧ IsB v (AptN a.es) := by
  refine CallW.pure ?_ rfl H
  have hA := clean_dead
  have hB := clean_bxA a
  obtain ⟨S, hS⟩ : ∃ S, S = a.states.toNat := ⟨_, rfl⟩
  have hS2 : a.states = (S : Int) := by omega
  rw [← hS] at hs
  refine CallW.symK (cuts := [2, 5]) Try.func84 rfl (by kernel_rfl) ?_
  conv => whnf
  repeat' first | ((refine Gets.makeRows (ti := ⟨1, 24, false, [.nilSlice]⟩) (by kernel_rfl) rfl rfl (by decide) (by omega) (by omega) ?_); conv => whnf) | (refine Gets.of _ rfl ?_; conv => whnf)
  refine CodeS.re [5] [(1, .ptr 1 0), (3, .slice 2 0 S)] (rowsAt (G3 .dead (bxA a) 5 3 (groupN Edg.l (fun e => e.fr.toNat) [] S)) 5 (groupN Edg.l (fun e => e.fr.toNat) [] S)) (rk [0, 0, 1] (fun _ => 0) S 2) (by kernel_rfl) ⟨rfl, congrArg (AVal.slice 1 0) hS.symm, trivial⟩ (by rw [group_nil, hS]; exact nest_start1 hB 5 _) ?_
  conv => whnf
  repeat' (refine Gets.of _ rfl ?_; conv => whnf)
  refine CodeS.loopGK (cuts := [5]) (σ := Nat) (fun j => [(3, .slice 2 0 S), (12, rE a.es), (13, .int .i64 (a.es.length : Int)), (14, .int .i64 (j : Int))]) (fun j => rowsAt (G3 .dead (bxA a) 5 3 (groupN Edg.l (fun e => e.fr.toNat) (a.es.take j) S)) 5 (groupN Edg.l (fun e => e.fr.toNat) (a.es.take j) S)) (fun j => j ≤ a.es.length ∧ AptN (a.es.take j)) (fun j => a.es.length - j) 0 (rk [0, 1, 2] (fun s => 3 + s) S (3 + S)) (by kernel_rfl) ⟨Nat.zero_le _, fun j i e f h => by simp at h⟩ ⟨rfl, rfl, rfl, rfl, trivial⟩ (nest_id clean_dead hB 5 _ (group_len ..)) ?_
  rintro j ⟨hj, hap⟩
  rcases Nat.lt_or_ge j a.es.length with hjl | hjl
  · obtain ⟨e, he⟩ := getE hjl
    have hse := hs e (List.mem_of_getElem? he)
    have hedge : a.es.getD j default = e := by rw [List.getD_eq_getElem?_getD, he]; rfl
    have hnx := group_next (f := Edg.l) (key := fun e : Edg => e.fr.toNat) (S := S) he hse.f1
    have hgl := group_len Edg.l (fun e : Edg => e.fr.toNat) (a.es.take j) S
    have hgg := group_get (f := Edg.l) (key := fun e : Edg => e.fr.toNat) (l := a.es.take j) hse.f1
    have hno := fun f => aptN_no (f := f) he
    have hyes := aptN_next he hap
    have hml : ((a.es.take j).filter fun f => decide (f.fr.toNat = e.fr.toNat)).length ≤ j := Nat.le_trans (List.length_filter_le _ _) (by rw [List.length_take]; omega)
    generalize (a.es.take j).filter (fun f => decide (f.fr.toNat = e.fr.toNat)) = m at hnx hgg hno hyes hml
    generalize groupN Edg.l (fun e : Edg => e.fr.toNat) (a.es.take j) S = rows at hnx hgl hgg
    have hrl : (fl Edg.l m).length = m.length * 5 := fl_length recE m
    have hdiv : (fl Edg.l m).length / 5 = m.length := by rw [hrl]; omega
    conv => whnf
    repeat' first | ((refine Gets.ixRE (es := 5) rfl (by kernel_rfl) (by omega) ?_); conv => whnf) | ((refine Gets.ldRE rfl rfl rfl rfl hjl ?_); conv => whnf) | (refine Fork.dec (fun _ => ?_) (fun _ => ?_) <;> first | (exfalso; omega) | (conv => whnf))
    rw [hedge]
    refine Gets.storeAll (es := 1) (cs := [.int .i64 0, .int .i64 0, .int .i64 0, .int .i64 0, .int .i64 0]) (ti := ⟨5, 40, true, [.int .i64 0, .int .i64 0, .int .i64 0, .int .i64 0, .int .i64 0]⟩) (by kernel_rfl) rfl rfl (by simp only [alloc_f, if_true]; rfl) rfl ?_
    conv => whnf
    obtain ⟨fr, to, care, bits, marks⟩ := e
    obtain ⟨fr, rfl⟩ := Int.eq_ofNat_of_zero_le (show 0 ≤ fr from hse.f0)
    have hfr : fr < S := hse.f1
    have hz := clean_ints 1 (Edg.l ⟨(fr : Int), to, care, bits, marks⟩)
    refine CodeS.re [] [(3, .slice 2 0 S), (5, .ptr 3 0), (12, rE a.es), (13, .int .i64 (a.es.length : Int)), (14, .int .i64 (j : Int))] (rowsAt (G4 .dead (bxA a) 5 rows (.cells 1 (ints (Edg.l ⟨(fr : Int), to, care, bits, marks⟩)))) 5 rows) (rk [0, 1, 2, 3 + rows.length] (fun s => 3 + s) rows.length (4 + rows.length)) (by kernel_rfl) ⟨rfl, rfl, rfl, rfl, rfl, trivial⟩ (nest_pull clean_dead hB hz 5 rows _) ?_
    have hrow := (rowVg_get (fun s => 4 + s) 5 rows fr).trans (congrArg (Option.map _) hgg)
    conv => whnf
    repeat' first | (refine Gets.of _ rfl ?_; conv => whnf) | (refine Gets.ix1 rfl rfl (by omega) ?_; conv => whnf)
    refine Gets.loadAt (j := fr) (v := rowV (4 + fr) 5 (fl Edg.l m)) (ti := ⟨1, 24, false, [.nilSlice]⟩) (by kernel_rfl) rfl rfl hrow ?_
    conv => whnf
    repeat' first | ((refine Gets.lenRow rfl ?_); conv => whnf) | (refine seqV_of ?_; conv => whnf)
    refine CodeS.loopGK (cuts := []) (σ := Nat) (fun k => [(3, .slice 2 0 S), (5, .ptr 3 0), (12, rE a.es), (13, .int .i64 (a.es.length : Int)), (14, .int .i64 (j : Int)), (22, rowV (4 + fr) 5 (fl Edg.l m)), (23, .int .i64 (m.length : Int)), (24, .int .i64 (k : Int))]) (fun k => rowsAt (G4 .dead (bxA a) 5 rows (.cells 1 (ints (Edg.l ⟨(fr : Int), to, care, bits, marks⟩)))) 5 rows) (fun k => k ≤ m.length ∧ ∀ f ∈ m.take k, meetsB ⟨(fr : Int), to, care, bits, marks⟩ f = false) (fun k => m.length - k) 0 (rk [0, 1, 2, 3] (fun s => 4 + s) rows.length (4 + rows.length)) (by kernel_rfl) ⟨Nat.zero_le _, fun f h => by simp at h⟩ ⟨rfl, rfl, rfl, rfl, rfl, keep_row (by rw [hgl]; exact hfr), congrArg (fun n : Nat => AVal.int .i64 (n : Int)) hdiv, rfl, trivial⟩ (nest_id4 clean_dead hB hz 5 rows) ?_
    rintro k ⟨hk, hkn⟩
    rcases Nat.lt_or_ge k m.length with hkl | hkl
    · obtain ⟨f, hf⟩ := getE hkl
      have hfm := List.mem_of_getElem? hf
      have hne : fl Edg.l m ≠ [] := fun h => by rw [h] at hrl; simp at hrl; omega
      have hno := hno f hfm
      have htk : m.take (k + 1) = m.take k ++ [f] := by
        obtain ⟨_, rfl⟩ := List.getElem?_eq_some_iff.1 hf
        exact List.take_succ_eq_append_getElem hkl
      obtain ⟨f1, f2, f3, f4, f5⟩ := f
      conv => whnf
      repeat' first | ((refine Gets.ixRow (es' := 5) rfl (by kernel_rfl) (by omega) (by omega) ?_); conv => whnf) | ((refine Gets.loadR recE (j := k) (l := m) rfl rfl rfl (congrArg ABlk.cs (nest_row hgg hne)) (by simp) hf ?_); conv => whnf) | (refine seqV_of ?_; conv => whnf) | (refine Fork.dec (fun _ => ?_) (fun _ => ?_) <;> first | (exfalso; omega) | (conv => whnf))
      refine Gets.storeAll (es := 1) (cs := [.int .i64 0, .int .i64 0, .int .i64 0, .int .i64 0, .int .i64 0]) (ti := ⟨5, 40, true, [.int .i64 0, .int .i64 0, .int .i64 0, .int .i64 0, .int .i64 0]⟩) (by kernel_rfl) rfl rfl (by simp only [alloc_f, if_true]; rfl) rfl ?_
      conv => whnf
      repeat' first | ((refine Gets.ldIv (l := Edg.l ⟨(fr : Int), to, care, bits, marks⟩) rfl (congrArg ABlk.cs nest_at3) rfl ?_); conv => whnf) | ((refine Gets.ldIv (l := Edg.l ⟨f1, f2, f3, f4, f5⟩) rfl (congrArg ABlk.cs nest_atN) rfl ?_); conv => whnf) | ((with_reducible refine Gets.addI ?_ ?_ ?_); (· omega); (· omega); conv => whnf) | (refine Gets.of _ rfl ?_; conv => whnf) | (refine Fork.dec (fun _ => ?_) (fun _ => ?_) <;> first | (exfalso; omega) | (conv => whnf))
      · rename_i h
        exact ⟨[], _, rfl, .same rfl, rfl, .f (hno (decide_eq_true h))⟩
      · rename_i h
        refine ⟨k + 1, rk [0, 1, 2, 3] (fun s => 4 + s) rows.length (5 + rows.length), ⟨hkl, fun x hx => ?_⟩, by omega, ⟨rfl, rfl, rfl, rfl, rfl, keep_row (by rw [hgl]; exact hfr), rfl, rfl, trivial⟩, nest_same clean_dead hB hz 5 rows _ _⟩
        rw [htk] at hx
        rcases List.mem_append.1 hx with hx | hx
        · exact hkn x hx
        · rw [List.mem_singleton.1 hx]; exact decide_eq_false h
    · obtain rfl : k = m.length := by omega
      rw [List.take_length] at hkn
      have hap2 := hyes hkn
      conv => whnf
      repeat' (refine Fork.dec (fun _ => ?_) (fun _ => ?_) <;> first | (exfalso; omega) | (conv => whnf))
      have hb2 : 3 ≤ 4 + rows.length := by omega
      have hb3 : 4 ≤ 4 + rows.length := by omega
      refine CodeS.drawT [2, 3] (.take 0 (.take 1 (.take 2 (.take 3 (.take 4 (.take 5 (.take 6 (.take 7 (.take 8 (.one 9 true (.one 10 true (.take 11 (.one 12 false .done))))))))))))) mixed (by kernel_rfl) (.cons ⟨Nat.ble_eq_true_of_le hb2, trivial⟩ (.cons ⟨Nat.ble_eq_true_of_le hb3, trivial⟩ .nil)) ?_
      conv => whnf
      have hlt : fr < rows.length := by omega
      repeat' first | (refine Gets.of _ rfl ?_; conv => whnf) | (refine Gets.ix1 rfl rfl (by omega) ?_; conv => whnf)
      refine Gets.loadAt (j := fr) (v := rowV (4 + fr) 5 (fl Edg.l m)) (ti := ⟨1, 24, false, [.nilSlice]⟩) (by kernel_rfl) rfl rfl hrow ?_
      have hrowf : fl Edg.l m ≠ [] → (rowsAt (G4 .dead (bxA a) 5 rows (.cells 1 (ints (Edg.l ⟨(fr : Int), to, care, bits, marks⟩)))) 5 rows).f (4 + fr) = .cells 5 (ints (fl Edg.l m)) := nest_row hgg
      have hrow2 := hrow
      generalize fl Edg.l m = r at hnx hrowf hrl hrow2
      rcases r with _ | ⟨x, r⟩
      all_goals
        conv => whnf
        repeat' first | (refine Gets.of _ rfl ?_; conv => whnf) | (refine Chk.mk (by repeat first | exact .nil | refine .cons rfl ?_) ?_; conv => whnf)
      · refine Gets.appendRow (es := 5) (b := 4 + fr) (r := []) (y := (fr : Int)) (x := [to, care, bits, marks]) (ti := ⟨5, 40, true, [.int .i64 0, .int .i64 0, .int .i64 0, .int .i64 0, .int .i64 0]⟩) (d := .slice 49) (by kernel_rfl) (by kernel_rfl) rfl rfl rfl (by decide) (by decide) rfl (if_pos rfl) (fun h => absurd rfl h) ⟨0, rfl, by decide⟩ ?_
        intro H' h'
        obtain ⟨s1, s2, s3, s4⟩ := nest_store h'
        conv => whnf
        refine Chk.mk (.cons s3 (.cons s4 .nil)) ?_
        conv => whnf
        repeat' (refine Gets.ix1 rfl rfl (by omega) ?_; conv => whnf)
        refine Gets.storeAt (j := fr) (ti := ⟨1, 24, false, [.nilSlice]⟩) (by kernel_rfl) rfl rfl rfl s1 rfl (by rw [rowVg_length]; exact hlt) ?_
        conv => whnf
        repeat' ((with_reducible refine Gets.addI ?_ ?_ ?_); (· omega); (· omega); conv => whnf)
        refine ⟨j + 1, rk [0, 1, 2] (fun t => if t = fr then 4 + rows.length + 1 else 4 + t) S (6 + rows.length), ⟨hjl, hap2⟩, by omega, ⟨rfl, rfl, rfl, rfl, trivial⟩, ?_⟩
        rw [hnx, ← hgl]
        exact nest_push clean_dead hB 5 rows _ fr hlt _ _ _ _ H' h'
      · refine Gets.appendRow (es := 5) (b := 4 + fr) (r := x :: r) (y := (fr : Int)) (x := [to, care, bits, marks]) (ti := ⟨5, 40, true, [.int .i64 0, .int .i64 0, .int .i64 0, .int .i64 0, .int .i64 0]⟩) (d := .slice 49) (by kernel_rfl) (by kernel_rfl) rfl rfl rfl (by decide) (by decide) rfl (if_pos rfl) (fun h => (if_neg (by show ¬ 4 + fr = 4 + rows.length; omega)).trans (hrowf h)) ⟨m.length, hrl, by omega⟩ ?_
        intro H' h'
        obtain ⟨s1, s2, s3, s4⟩ := nest_store h'
        conv => whnf
        refine Chk.mk (.cons s3 (.cons s4 .nil)) ?_
        conv => whnf
        repeat' (refine Gets.ix1 rfl rfl (by omega) ?_; conv => whnf)
        refine Gets.storeAt (j := fr) (ti := ⟨1, 24, false, [.nilSlice]⟩) (by kernel_rfl) rfl rfl rfl s1 rfl (by rw [rowVg_length]; exact hlt) ?_
        conv => whnf
        repeat' ((with_reducible refine Gets.addI ?_ ?_ ?_); (· omega); (· omega); conv => whnf)
        refine ⟨j + 1, rk [0, 1, 2] (fun t => if t = fr then 4 + rows.length + 1 else 4 + t) S (6 + rows.length), ⟨hjl, hap2⟩, by omega, ⟨rfl, rfl, rfl, rfl, trivial⟩, ?_⟩
        rw [hnx, ← hgl]
        exact nest_push clean_dead hB 5 rows _ fr hlt _ _ _ _ H' h'
  · obtain rfl : j = a.es.length := by omega
    rw [List.take_length] at hap
    conv => whnf
    repeat' (refine Fork.dec (fun _ => ?_) (fun _ => ?_) <;> first | (exfalso; omega) | (conv => whnf))
    exact ⟨[], _, rfl, .same rfl, rfl, .t hap⟩
end Go.Proofs.Ytaccmanpanpbiaa

/- Complete automata, as the reference tells them. -/
-- VkG VkH VmA
set_option linter.unusedVariables false
set_option linter.unusedSimpArgs false
set_option maxRecDepth 100000
set_option maxHeartbeats 4000000
namespace Go.Proofs.Ytaccmanpanpbiaa
open Go Go.Vh Go.Vk Go.Vn Go.Proofs
open Classical
def matB (S : Nat) (T : Nat → Nat → Bool) : List Bool := (List.range (S * 64)).map fun q => T (q / 64) (q % 64)
theorem matB_length (S : Nat) (T : Nat → Nat → Bool) : (matB S T).length = S * 64 := by simp [matB]
theorem matB_get {S s l : Nat} (T : Nat → Nat → Bool) (hs : s < S) (hl : l < 64) : (matB S T)[s * 64 + l]? = some (T s l) := by
  unfold matB
  rw [List.getElem?_map, List.getElem?_range (by omega)]
  rw [Option.map_some, show (s * 64 + l) / 64 = s by omega, show (s * 64 + l) % 64 = l by omega]
theorem matB_congr {S : Nat} {T U : Nat → Nat → Bool} (h : ∀ s l, s < S → l < 64 → T s l = U s l) : matB S T = matB S U := by
  unfold matB
  apply List.map_congr_left
  intro q hq
  exact h _ _ (by have := List.mem_range.1 hq; omega) (by omega)
theorem matB_set {S s l : Nat} (T : Nat → Nat → Bool) (b : Bool) (hs : s < S) (hl : l < 64) : (matB S T).set (s * 64 + l) b = matB S fun s' l' => if s' = s ∧ l' = l then b else T s' l' := by
  apply List.ext_getElem?
  intro q
  rw [List.getElem?_set, matB_length]
  unfold matB
  rw [List.getElem?_map, List.getElem?_map]
  by_cases hq : q < S * 64
  · rw [List.getElem?_range hq, Option.map_some, Option.map_some]
    dsimp only
    by_cases h : s * 64 + l = q
    · subst h
      rw [if_pos rfl, if_pos hq, if_pos ⟨by omega, by omega⟩]
    · rw [if_neg h, if_neg (by omega)]
  · rw [if_neg (by omega), List.getElem?_eq_none (by simp; omega)]
    rfl
def Au.thr (a : Au) (j s l : Nat) : Bool := decide (l < 2 ^ a.props.toNat) && (a.es.take j).any fun f => f.fr.toNat == s && readsB f (l : Int)
def Au.thrP (a : Au) (j : Nat) (e : Edg) (k s l : Nat) : Bool := a.thr j s l || (decide (s = e.fr.toNat) && decide (l < k) && readsB e (l : Int))
/-- Each state has an edge for each letter. -/
def Au.WholeP (a : Au) : Prop := ∀ s : Nat, s < a.states.toNat → ∀ l : Nat, l < 2 ^ a.props.toNat → ∃ e ∈ a.es, e.fr.toNat = s ∧ readsB e (l : Int) = true
theorem Gets.ldBm {P : Program} {H : AHeap} {t : TypeId} {i off : Nat} {l : List Bool} {b : Bool} {A : AVal → Prop} (ht : tinfo P t = some tiB) (hf : (H.f i).cs = bls l) (ho : l[off]? = some b) (hA : A (.bool b)) : Gets (loadA P H t (.ptr i off)) A := Gets.ldBv ht hf ho hA
/-- The box, and the table behind it. -/
def whH (a : Au) (T : Nat → Nat → Bool) : AHeap := (emptyH.alloc (bxA a)).alloc (.cells 64 (bls (matB a.states.toNat T)))
theorem wholeR (a : Au) (hp0 : 0 ≤ a.props) (hp6 : a.props ≤ 6) (hs0 : 0 ≤ a.states) (hs1 : a.states ≤ 1000000) (hel : a.es.length ≤ 1073741824) (hs : ∀ e ∈ a.es, SmE a.states.toNat e) (H : AHeap) : CallW Try.prog 34 [a.rv] H fun v H' => H' = H ∧ IsB v a.WholeP := by
  have h64 : 2 ^ a.props.toNat ≤ 64 := Nat.le_trans (Nat.pow_le_pow_right (by decide) (show a.props.toNat ≤ 6 by omega)) (by decide)
  refine CallW.pure ?_ rfl H
  refine CallW.symK (cuts := []) Try.func34 rfl (by kernel_rfl) ?_
  conv => whnf
  repeat' first | ((refine Gets.makeB (k := 64) (ti := ⟨64, 64, true, List.replicate 64 (.bool false)⟩) (by kernel_rfl) rfl (by decide) rfl (by decide) hs0 (by omega) ?_); conv => whnf) | (refine Gets.of _ rfl ?_; conv => whnf)
  have hz : matB a.states.toNat (a.thr 0) = List.replicate (a.states.toNat * 64) false := by
    apply List.ext_getElem?
    intro q
    unfold matB Au.thr
    rw [List.getElem?_map, List.getElem?_replicate]
    by_cases hq : q < a.states.toNat * 64
    · rw [List.getElem?_range hq, if_pos hq]; simp
    · rw [List.getElem?_eq_none (by simp; omega), if_neg hq]; rfl
  refine CodeS.loopGK (cuts := []) (σ := Nat) (fun j => [(1, .ptr 0 0), (3, .slice 1 0 a.states.toNat), (14, rE a.es), (15, .int .i64 (a.es.length : Int)), (16, .int .i64 (j : Int))]) (fun j => whH a (a.thr j)) (fun j => j ≤ a.es.length) (fun j => a.es.length - j) 0 (renL [0, 1] 2) (by kernel_rfl) (Nat.zero_le _) ⟨rfl, rfl, rfl, rfl, rfl, trivial⟩ (EmbL.litsN [0, 1] rfl rfl rfl rfl .nil (.cons ⟨rfl, .inl rfl⟩ (.cons ⟨rfl, ?_⟩ .nil))) ?_
  · exact .cellsBe hz
  intro j hj
  rcases Nat.lt_or_ge j a.es.length with hc | hc
  · have hse := hs _ (List.getElem_mem hc)
    have he : a.es[j]? = some a.es[j] := List.getElem?_eq_getElem hc
    have hedge : a.es.getD j default = a.es[j] := by rw [List.getD_eq_getElem?_getD, he]; rfl
    have hsucc : ∀ s l, a.thr (j + 1) s l = (a.thr j s l || (decide (l < 2 ^ a.props.toNat) && (a.es[j].fr.toNat == s && readsB a.es[j] (l : Int)))) := by
      intro s l
      unfold Au.thr
      rw [List.take_succ_eq_append_getElem hc, List.any_append, Bool.and_or_distrib_left]
      simp
    conv => whnf
    repeat' first | ((refine Gets.ixRE (es := 5) rfl (by kernel_rfl) (by omega) ?_); conv => whnf) | ((refine Gets.ldRE rfl rfl rfl rfl hc ?_); conv => whnf) | ((refine Gets.shlP hp0 (by omega) ?_); conv => whnf) | (refine Gets.of _ rfl ?_; conv => whnf) | (refine Fork.dec (fun _ => ?_) (fun _ => ?_) <;> first | (exfalso; omega) | (conv => whnf))
    rw [hedge]
    generalize a.es[j] = e at hse hsucc
    have hlt := hse.f1
    have hf0 := hse.f0
    refine CodeS.loopGK (cuts := []) (σ := Nat) (fun k => [(1, .ptr 0 0), (3, .slice 1 0 a.states.toNat), (5, .ptr 2 0), (14, rE a.es), (15, .int .i64 (a.es.length : Int)), (16, .int .i64 (j : Int)), (22, .int .i64 ((2 ^ a.props.toNat : Nat) : Int)), (23, .int .i64 (k : Int))]) (fun k => (whH a (a.thrP j e k)).alloc (.cells 1 (ints e.l))) (fun k => k ≤ 2 ^ a.props.toNat) (fun k => 2 ^ a.props.toNat - k) 0 (renL [0, 1, 2] 3) (by kernel_rfl) (Nat.zero_le _) ⟨rfl, rfl, rfl, rfl, rfl, rfl, rfl, rfl, trivial⟩ (EmbL.litsN [0, 1, 2] rfl rfl rfl rfl .nil (.cons ⟨rfl, .inl rfl⟩ (.cons ⟨rfl, ?_⟩ (.cons ⟨rfl, .inl rfl⟩ .nil)))) ?_
    · exact .cellsBe (matB_congr (U := a.thr j) fun s l _ _ => by simp [Au.thrP])
    intro k hk
    rcases Nat.lt_or_ge k (2 ^ a.props.toNat) with hk2 | hk2
    · have hget := matB_get (S := a.states.toNat) (a.thrP j e k) hlt (show k < 64 by omega)
      have hml := matB_length a.states.toNat (a.thrP j e k)
      have hnext : (matB a.states.toNat (a.thrP j e k)).set (e.fr.toNat * 64 + k) (a.thrP j e k e.fr.toNat k || readsB e (k : Int)) = matB a.states.toNat (a.thrP j e (k + 1)) := by
        rw [matB_set _ _ hlt (by omega)]
        refine matB_congr fun s l _ _ => ?_
        unfold Au.thrP
        by_cases hsl : s = e.fr.toNat ∧ l = k
        · obtain ⟨rfl, rfl⟩ := hsl
          rw [if_pos ⟨rfl, rfl⟩]; simp
        · rw [if_neg hsl]
          by_cases h1 : s = e.fr.toNat
          · have h2 : l ≠ k := fun h => hsl ⟨h1, h⟩
            have : (l < k + 1) = (l < k) := by apply propext; omega
            simp [h1, this]
          · simp [h1]
      have hrd := readsR e (k : Int)
      generalize readsB e (k : Int) = br at hnext hrd
      generalize a.thrP j e k e.fr.toNat k = bt at hget hnext
      cases bt <;> cases br
      all_goals
        conv => whnf
        repeat' (refine Fork.dec (fun _ => ?_) (fun _ => ?_) <;> first | (exfalso; omega) | (conv => whnf))
        refine CodeS.drawT [1, 2] (.take 0 (.take 1 (.take 2 (.take 3 (.take 4 (.take 5 (.take 6 (.take 7 (.take 8 (.take 9 (.take 10 (.take 11 (.take 12 (.take 13 (.take 16 (.one 14 true (.take 15 (.take 17 (.one 18 false .done))))))))))))))))))) mixed (by kernel_rfl) (.cons ⟨rfl, trivial⟩ (.cons ⟨rfl, trivial⟩ .nil)) ?_
        conv => whnf
        repeat' first | ((refine Gets.ixS (es := 64) rfl (by kernel_rfl) hf0 (by omega) ?_); conv => whnf) | ((refine Gets.ixArr (n := 64) (e := 4) (es := 1) (by kernel_rfl) (by kernel_rfl) (by omega) (by omega) ?_); conv => whnf) | ((refine Gets.loadB (j := e.fr.toNat * 64 + k) (ti := ⟨1, 1, false, [.bool false]⟩) (by kernel_rfl) rfl rfl (by first|omega|simp) hget ?_); conv => whnf) | ((refine CallPS.of (by kernel_rfl) (hrd _) rfl ?_; rintro _ _ ⟨rfl, rfl⟩); conv => whnf) | ((refine Gets.storeB (j := e.fr.toNat * 64 + k) (es := 64) (l := matB a.states.toNat (a.thrP j e k)) (ti := ⟨1, 1, false, [.bool false]⟩) (by kernel_rfl) rfl rfl (by first|omega|simp) (by rw [hml]; omega) ?_); conv => whnf) | ((with_reducible refine Gets.addI ?_ ?_ ?_); (· omega); (· omega); conv => whnf) | (refine Gets.of _ rfl ?_; conv => whnf) | (refine Chk.mk (by repeat first | exact .nil | refine .cons rfl ?_) ?_; conv => whnf)
      all_goals exact ⟨k + 1, renL [0, 1, 2] 3, by omega, by omega, ⟨rfl, rfl, rfl, rfl, rfl, rfl, rfl, rfl, trivial⟩, EmbL.litsN [0, 1, 2] rfl rfl rfl rfl .nil (.cons ⟨rfl, .inl rfl⟩ (.cons ⟨rfl, .cellsBe hnext.symm⟩ (.cons ⟨rfl, .inl rfl⟩ .nil)))⟩
    · obtain rfl : k = 2 ^ a.props.toNat := by omega
      conv => whnf
      repeat' first | ((with_reducible refine Gets.addI ?_ ?_ ?_); (· omega); (· omega); conv => whnf) | (refine Fork.dec (fun _ => ?_) (fun _ => ?_) <;> first | (exfalso; omega) | (conv => whnf))
      refine ⟨j + 1, renL [0, 1] 3, hc, by omega, ⟨rfl, rfl, rfl, rfl, rfl, trivial⟩, EmbL.litsN [0, 1] rfl rfl rfl rfl .nil (.cons ⟨rfl, .inl rfl⟩ (.cons ⟨rfl, .cellsBe (matB_congr fun s l _ _ => ?_)⟩ .nil))⟩
      rw [hsucc]
      unfold Au.thrP
      by_cases h1 : s = e.fr.toNat
      · subst h1; simp
      · have h2 : ¬ e.fr.toNat = s := fun h => h1 h.symm
        simp [h1, h2]
  · obtain rfl : j = a.es.length := by omega
    have hthr : ∀ s l, a.thr a.es.length s l = true ↔ l < 2 ^ a.props.toNat ∧ ∃ f ∈ a.es, f.fr.toNat = s ∧ readsB f (l : Int) = true := by
      intro s l
      unfold Au.thr
      rw [List.take_length, Bool.and_eq_true, decide_eq_true_eq, List.any_eq_true]
      simp
    have hlen := matB_length a.states.toNat (a.thr a.es.length)
    conv => whnf
    repeat' first | (refine Gets.of _ rfl ?_; conv => whnf) | (refine Fork.dec (fun _ => ?_) (fun _ => ?_) <;> first | (exfalso; omega) | (conv => whnf))
    refine CodeS.loopGK (cuts := []) (σ := Nat) (fun s => [(1, .ptr 0 0), (46, .slice 1 0 a.states.toNat), (47, .int .i64 (a.states.toNat : Int)), (48, .int .i64 (s : Int))]) (fun s => whH a (a.thr a.es.length)) (fun s => s ≤ a.states.toNat ∧ ∀ t, t < s → ∀ l, l < 2 ^ a.props.toNat → a.thr a.es.length t l = true) (fun s => a.states.toNat - s) 0 (renL [0, 1] 2) (by kernel_rfl) ⟨Nat.zero_le _, fun t h => absurd h (Nat.not_lt_zero _)⟩ ⟨rfl, rfl, rfl, rfl, trivial⟩ (EmbL.litsN [0, 1] rfl rfl rfl rfl .nil (.cons ⟨rfl, .inl rfl⟩ (.cons ⟨rfl, .cellsB⟩ .nil))) ?_
    rintro s ⟨q1, q2⟩
    rcases Nat.lt_or_ge s a.states.toNat with hc | hc
    · have hrg : ∀ l, l < 64 → (((matB a.states.toNat (a.thr a.es.length)).drop (s * 64)).take 64)[l]? = some (a.thr a.es.length s l) := by
        intro l hl
        rw [List.getElem?_take, if_pos hl, List.getElem?_drop]
        exact matB_get _ hc hl
      have hrl : (((matB a.states.toNat (a.thr a.es.length)).drop (s * 64)).take 64).length = 64 := by rw [List.length_take, List.length_drop, hlen]; omega
      conv => whnf
      repeat' first | ((refine Gets.ixE (es := 64) rfl (by kernel_rfl) hc ?_); conv => whnf) | (refine Fork.dec (fun _ => ?_) (fun _ => ?_) <;> first | (exfalso; omega) | (conv => whnf))
      refine Gets.loadArr (j := s * 64) (k := 64) (l := matB a.states.toNat (a.thr a.es.length)) (ti := ⟨64, 64, true, List.replicate 64 (.bool false)⟩) (by kernel_rfl) rfl rfl rfl (by first|omega|simp) (by rw [hlen]; omega) ?_
      generalize ((matB a.states.toNat (a.thr a.es.length)).drop (s * 64)).take 64 = row at hrg hrl
      conv => whnf
      refine seqL0_of ?_
      refine Gets.storeAll (es := 1) (cs := bls (List.replicate 64 false)) (ti := ⟨64, 64, true, List.replicate 64 (.bool false)⟩) (by kernel_rfl) (by rw [bls_length, hrl]) (bls_scalar _) rfl (by rw [bls_length, bls_length, hrl]; rfl) ?_
      conv => whnf
      repeat' first | ((refine Gets.shlP hp0 (by omega) ?_); conv => whnf) | (refine Gets.of _ rfl ?_; conv => whnf)
      refine CodeS.loopGK (cuts := []) (σ := Nat) (fun l => [(1, .ptr 0 0), (8, .ptr 2 0), (46, .slice 1 0 a.states.toNat), (47, .int .i64 (a.states.toNat : Int)), (48, .int .i64 (s : Int)), (54, .int .i64 ((2 ^ a.props.toNat : Nat) : Int)), (55, .int .i64 (l : Int))]) (fun l => (whH a (a.thr a.es.length)).alloc (.cells 1 (bls row))) (fun l => l ≤ 2 ^ a.props.toNat ∧ ∀ m, m < l → a.thr a.es.length s m = true) (fun l => 2 ^ a.props.toNat - l) 0 (renL [0, 1, 2] 3) (by kernel_rfl) ⟨Nat.zero_le _, fun t h => absurd h (Nat.not_lt_zero _)⟩ ⟨rfl, rfl, rfl, rfl, rfl, rfl, rfl, trivial⟩ (EmbL.litsN [0, 1, 2] rfl rfl rfl rfl .nil (.cons ⟨rfl, .inl rfl⟩ (.cons ⟨rfl, .cellsB⟩ (.cons ⟨rfl, .cellsB⟩ .nil)))) ?_
      rintro l ⟨q3, q4⟩
      rcases Nat.lt_or_ge l (2 ^ a.props.toNat) with hl | hl
      · have hg := hrg l (by omega)
        cases hb : a.thr a.es.length s l
        · rw [hb] at hg
          conv => whnf
          repeat' first | ((refine Gets.ixArr (n := 64) (e := 4) (es := 1) (by kernel_rfl) (by kernel_rfl) (by omega) (by omega) ?_); conv => whnf) | ((refine Gets.loadB (j := l) (l := row) (ti := ⟨1, 1, false, [.bool false]⟩) (by kernel_rfl) rfl rfl (by first|omega|simp) hg ?_); conv => whnf) | (refine Fork.dec (fun _ => ?_) (fun _ => ?_) <;> first | (exfalso; omega) | (conv => whnf))
          refine ⟨[], _, rfl, .same rfl, rfl, .f fun hW => ?_⟩
          have := (hthr s l).2 ⟨hl, hW s hc l hl⟩
          rw [hb] at this
          cases this
        · rw [hb] at hg
          conv => whnf
          repeat' first | ((refine Gets.ixArr (n := 64) (e := 4) (es := 1) (by kernel_rfl) (by kernel_rfl) (by omega) (by omega) ?_); conv => whnf) | ((refine Gets.loadB (j := l) (l := row) (ti := ⟨1, 1, false, [.bool false]⟩) (by kernel_rfl) rfl rfl (by first|omega|simp) hg ?_); conv => whnf) | ((with_reducible refine Gets.addI ?_ ?_ ?_); (· omega); (· omega); conv => whnf) | (refine Fork.dec (fun _ => ?_) (fun _ => ?_) <;> first | (exfalso; omega) | (conv => whnf))
          refine ⟨l + 1, renL [0, 1, 2] 3, ⟨by omega, fun m hm => ?_⟩, by omega, ⟨rfl, rfl, rfl, rfl, rfl, rfl, rfl, trivial⟩, EmbL.litsN [0, 1, 2] rfl rfl rfl rfl .nil (.cons ⟨rfl, .inl rfl⟩ (.cons ⟨rfl, .cellsB⟩ (.cons ⟨rfl, .cellsB⟩ .nil)))⟩
          rcases Nat.lt_or_ge m l with h | h
          · exact q4 m h
          · obtain rfl : m = l := by omega
            exact hb
      · obtain rfl : l = 2 ^ a.props.toNat := by omega
        conv => whnf
        repeat' first | ((with_reducible refine Gets.addI ?_ ?_ ?_); (· omega); (· omega); conv => whnf) | (refine Fork.dec (fun _ => ?_) (fun _ => ?_) <;> first | (exfalso; omega) | (conv => whnf))
        refine ⟨s + 1, renL [0, 1] 3, ⟨by omega, fun t ht m hm => ?_⟩, by omega, ⟨rfl, rfl, rfl, rfl, trivial⟩, EmbL.litsN [0, 1] rfl rfl rfl rfl .nil (.cons ⟨rfl, .inl rfl⟩ (.cons ⟨rfl, .cellsB⟩ .nil))⟩
        rcases Nat.lt_or_ge t s with h | h
        · exact q2 t h m hm
        · obtain rfl : t = s := by omega
          exact q4 m hm
    · obtain rfl : s = a.states.toNat := by omega
      conv => whnf
      repeat' (refine Fork.dec (fun _ => ?_) (fun _ => ?_) <;> first | (exfalso; omega) | (conv => whnf))
      exact ⟨[], _, rfl, .same rfl, rfl, .t fun t ht l hl => ((hthr t l).1 (q2 t ht l hl)).2⟩
/-- Deterministic. -/
def Au.OneP (a : Au) : Prop := a.start.length = 1 ∧ AptN a.es
theorem oneR (a : Au) (hk : a.Ok) (H : AHeap) : CallW Try.prog 31 [a.rv] H fun v H' => H' = H ∧ IsB v a.OneP := by
  have h1 := hk.s0
  have h2 := hk.s1
  have h3 := hk.ne
  have h4 := start_len hk
  refine CallW.pure ?_ rfl H
  refine CallW.symK (cuts := []) Try.func31 rfl (by kernel_rfl) ?_
  conv => whnf
  repeat' first | (refine Gets.of _ rfl ?_; conv => whnf) | (refine Fork.dec (fun _ => ?_) (fun _ => ?_) <;> first | (exfalso; omega) | (conv => whnf))
  · refine CallS.of (by kernel_rfl) (apartR a h1 (by omega) (by omega) hk.sm _) rfl ?_
    rintro _ _ ⟨rfl, hq | hq⟩
    all_goals conv => whnf
    all_goals
      skip
    · exact ⟨[], _, rfl, .same rfl, rfl, .t ⟨by omega, hq⟩⟩
    · exact ⟨[], _, rfl, .same rfl, rfl, .f fun h => hq h.2⟩
  · exact ⟨[], _, rfl, .same rfl, rfl, .f fun h => by have := h.1; omega⟩
theorem whR (a : Au) (hk : a.Ok) (H : AHeap) : CallW Try.prog 34 [a.rv] H fun v H' => H' = H ∧ IsB v a.WholeP :=
  wholeR a hk.p0 hk.p6 hk.s0 (by have := hk.s1; omega) (by have := hk.ne; omega) hk.sm H
end Go.Proofs.Ytaccmanpanpbiaa

/- Runs of deterministic, complete automata: there is one, and its marks decide. Plain. -/
-- VkG VkH VmA
set_option linter.unusedVariables false
set_option linter.unusedSimpArgs false
set_option maxRecDepth 100000
set_option maxHeartbeats 4000000
namespace Go.Proofs.Ytaccmanpanpbiaa
open Go Go.Vh Go.Vk Go.Vn Go.Proofs
open Classical
theorem pigeon : ∀ (N : Nat) (f : Nat → Nat), (∀ i, i ≤ N → f i < N) → ∃ i j, i < j ∧ j ≤ N ∧ f i = f j
  | 0, f, h => absurd (h 0 (Nat.le_refl 0)) (Nat.not_lt_zero _)
  | N + 1, f, h => by
    by_cases hx : ∃ i, i ≤ N ∧ f i = f (N + 1)
    · obtain ⟨i, hi, he⟩ := hx
      exact ⟨i, N + 1, by omega, Nat.le_refl _, he⟩
    · obtain ⟨i, j, h1, h2, h3⟩ := pigeon N (fun i => if f i = N then f (N + 1) else f i) fun i hi => by
        have hne : f i ≠ f (N + 1) := fun he => hx ⟨i, hi, he⟩
        have h4 := h i (by omega)
        have h5 := h (N + 1) (Nat.le_refl _)
        show (if f i = N then f (N + 1) else f i) < N
        split <;> omega
      refine ⟨i, j, h1, by omega, ?_⟩
      have ni : f i ≠ f (N + 1) := fun he => hx ⟨i, by omega, he⟩
      have nj : f j ≠ f (N + 1) := fun he => hx ⟨j, by omega, he⟩
      have h3 : (if f i = N then f (N + 1) else f i) = (if f j = N then f (N + 1) else f j) := h3
      split at h3 <;> split at h3 <;> first | omega | exact absurd h3.symm (by assumption) | exact absurd h3 (by assumption)
/-- In a graph in which it always goes on, a circle can be reached. -/
theorem circle {arcs : List Arc} {M : Nat} (h : ∀ x, x < M → ∃ a ∈ arcs, a.fr = x ∧ a.to < M) {x0 : Nat} (h0 : x0 < M) : ∃ j, Vn.Reach (· ∈ arcs) x0 j ∧ ∃ l, l ≠ [] ∧ Path (· ∈ arcs) j l j := by
  have hx : ∀ x, ∃ y, x < M → y < M ∧ ∃ a ∈ arcs, a.fr = x ∧ a.to = y := fun x => by
    by_cases hx : x < M
    · obtain ⟨a, h1, h2, h3⟩ := h x hx
      exact ⟨a.to, fun _ => ⟨h3, a, h1, h2, rfl⟩⟩
    · exact ⟨0, fun h => absurd h hx⟩
  have hnx := fun x => Classical.choose_spec (hx x)
  generalize (fun x => Classical.choose (hx x)) = nx at hnx
  obtain ⟨f, hf0, hfs⟩ : ∃ f : Nat → Nat, f 0 = x0 ∧ ∀ i, f (i + 1) = Classical.choose (hx (f i)) := ⟨fun n => Nat.rec x0 (fun _ x => Classical.choose (hx x)) n, rfl, fun i => rfl⟩
  have hlt : ∀ i, f i < M := fun i => by
    induction i with
    | zero => rw [hf0]; exact h0
    | succ i ih => rw [hfs]; exact (Classical.choose_spec (hx (f i)) ih).1
  have hpath : ∀ i d, ∃ l, l.length = d ∧ Path (· ∈ arcs) (f i) l (f (i + d)) := fun i d => by
    induction d with
    | zero => exact ⟨[], rfl, .nil _⟩
    | succ d ih =>
      obtain ⟨l, h1, h2⟩ := ih
      obtain ⟨_, a, h3, h4, h5⟩ := Classical.choose_spec (hx (f (i + d))) (hlt _)
      refine ⟨l ++ [a], by simp [h1], h2.append ?_⟩
      have := Path.one (S := (· ∈ arcs)) h3
      rw [h4, h5, ← hfs] at this
      exact this
  obtain ⟨i, j, hij, _, he⟩ := pigeon M f fun i _ => hlt i
  obtain ⟨l0, _, p0⟩ := hpath 0 i
  obtain ⟨l, h1, p1⟩ := hpath i (j - i)
  rw [show i + (j - i) = j by omega, ← he] at p1
  rw [hf0, Nat.zero_add] at p0
  exact ⟨f i, ⟨l0, p0⟩, l, fun h => by rw [h] at h1; simp at h1; omega, p1⟩
/-- A run that goes round, told by its parts. -/
def IsLas (es : List Edg) (Q : Edg → Nat → Prop) (start : Nat → Prop) (s : Nat) (u : List Edg) (q : Nat) (v : List Edg) : Prop := start s ∧ v ≠ [] ∧ Run sysE es Q s 0 u q ∧ ∀ m, Run sysE es Q q (u.length + m * v.length) v q
theorem run_mks {g : Edg → Nat} {es : List Edg} {Q : Edg → Nat → Prop} {s p t : Nat} {l : List Edg} (h : Run ⟨sysE.fr, sysE.to, g⟩ es Q s p l t) : Run sysE es Q s p l t := by
  have := Run.map (Y := (⟨sysE.fr, sysE.to, g⟩ : Vn.Sys Edg)) (Z := sysE) (es := es) (fs := es) (Q := Q) (R := Q) id (fun e he => ⟨he, rfl, rfl, fun p hq => hq⟩) h
  rwa [List.map_id] at this
theorem run_mks' {g : Edg → Nat} {es : List Edg} {Q : Edg → Nat → Prop} {s p t : Nat} {l : List Edg} (h : Run sysE es Q s p l t) : Run ⟨sysE.fr, sysE.to, g⟩ es Q s p l t := by
  have := Run.map (Y := sysE) (Z := (⟨sysE.fr, sysE.to, g⟩ : Vn.Sys Edg)) (es := es) (fs := es) (Q := Q) (R := Q) id (fun e he => ⟨he, rfl, rfl, fun p hq => hq⟩) h
  rwa [List.map_id] at this
theorem lasso_las {g : Edg → Nat} {es : List Edg} {Q : Edg → Nat → Prop} {start ok : Nat → Prop} : Lasso ⟨sysE.fr, sysE.to, g⟩ es Q start ok ↔ ∃ s u q v, IsLas es Q start s u q v ∧ ok (marksE ⟨sysE.fr, sysE.to, g⟩ v) := by
  constructor
  · rintro ⟨s, u, q, v, h1, h2, h3, h4, h5⟩
    exact ⟨s, u, q, v, ⟨h1, h2, run_mks h3, fun m => run_mks (h4 m)⟩, h5⟩
  · rintro ⟨s, u, q, v, ⟨h1, h2, h3, h4⟩, h5⟩
    exact ⟨s, u, q, v, h1, h2, run_mks' h3, fun m => run_mks' (h4 m), h5⟩
/-- At most one edge goes on. -/
def Det (es : List Edg) (Q : Edg → Nat → Prop) : Prop := ∀ e ∈ es, ∀ f ∈ es, ∀ p, e.fr.toNat = f.fr.toNat → Q e p → Q f p → e = f
theorem det_run {es : List Edg} {Q : Edg → Nat → Prop} (hd : Det es Q) {s p t : Nat} {l : List Edg} (h : Run sysE es Q s p l t) : ∀ {t' : Nat} {l' : List Edg}, Run sysE es Q s p l' t' → l.length ≤ l'.length → l = l'.take l.length := by
  induction h with
  | nil s p => intro t' l' _ _; rfl
  | @cons e p l t he hq hp ih =>
    intro t' l' h' hl
    generalize hs : sysE.fr e = s0 at h'
    cases h' with
    | nil _ _ => simp at hl
    | @cons f _ l' _ hf hq' hp' =>
      have hef : e = f := hd e he f hf p hs hq hq'
      subst hef
      rw [List.length_cons, List.take_succ_cons, ← ih hp' (by simpa using hl)]
theorem times_get {v : List Edg} {k i : Nat} (hi : i < v.length) : (times v (k + 1))[k * v.length + i]? = v[i]? := by
  rw [times, List.getElem?_append_right (by rw [times_length]; omega), times_length, Nat.add_sub_cancel_left]
theorem times_mem {v : List Edg} {x : Edg} : ∀ m, x ∈ times v m → x ∈ v
  | 0, h => by cases h
  | m + 1, h => by
    rcases List.mem_append.1 h with h | h
    · exact times_mem m h
    · exact h
/-- What comes again and again in the one comes again and again in the other. -/
theorem las_sub {es : List Edg} {Q : Edg → Nat → Prop} {s u q v u' q' v'} (hd : Det es Q) (h : Run sysE es Q s 0 u q) (hv : ∀ m, Run sysE es Q q (u.length + m * v.length) v q) (h' : Run sysE es Q s 0 u' q') (hne : v' ≠ []) (hv' : ∀ m, Run sysE es Q q' (u'.length + m * v'.length) v' q') {x : Edg} (hx : x ∈ v) : x ∈ v' := by
  obtain ⟨i, hi⟩ := List.getElem?_of_mem hx
  have hiv := (List.getElem?_eq_some_iff.1 hi).1
  have hv0 : 0 < v'.length := List.length_pos_iff.2 hne
  have r0 := times_run (p := u.length) hv 0 (u'.length + 1)
  rw [Nat.zero_mul, Nat.add_zero] at r0
  have r1 : Run sysE es Q s 0 (u ++ times v (u'.length + 1)) q := h.append (by rw [Nat.zero_add]; exact r0)
  have r2 := times_run (p := u'.length) hv' 0 (u ++ times v (u'.length + 1)).length
  rw [Nat.zero_mul, Nat.add_zero] at r2
  have r3 : Run sysE es Q s 0 (u' ++ times v' (u ++ times v (u'.length + 1)).length) q' := h'.append (by rw [Nat.zero_add]; exact r2)
  have hlen : ∀ n, n ≤ (u' ++ times v' n).length := fun n => by
    rw [List.length_append, times_length]
    have := Nat.mul_le_mul_left n hv0
    omega
  have he := det_run hd r1 r3 (hlen _)
  have hat : (u ++ times v (u'.length + 1))[u.length + (u'.length * v.length + i)]? = some x := by
    rw [List.getElem?_append_right (by omega), Nat.add_sub_cancel_left, times_get hiv, hi]
  have hlt := (List.getElem?_eq_some_iff.1 hat).1
  rw [he, List.getElem?_take_of_lt hlt, List.getElem?_append_right (by
    have := Nat.mul_le_mul_left u'.length (show 1 ≤ v.length by omega)
    omega)] at hat
  exact times_mem _ (List.mem_of_getElem? hat)
theorem marksE_bit {Y : Vn.Sys Edg} (l : List Edg) (b : Nat) : (marksE Y l).testBit b = true ↔ ∃ e ∈ l, (Y.mks e).testBit b = true := by
  induction l with
  | nil => simp [marksE]
  | cons e l ih =>
    show (Y.mks e ||| marksE Y l).testBit b = true ↔ _
    rw [Nat.testBit_or, Bool.or_eq_true, ih]
    simp
theorem marksE_set {Y : Vn.Sys Edg} {l m : List Edg} (h : ∀ e, e ∈ l ↔ e ∈ m) : marksE Y l = marksE Y m := by
  apply Nat.eq_of_testBit_eq
  intro b
  rw [Bool.eq_iff_iff, marksE_bit, marksE_bit]
  constructor
  · rintro ⟨e, he, hb⟩; exact ⟨e, (h e).1 he, hb⟩
  · rintro ⟨e, he, hb⟩; exact ⟨e, (h e).2 he, hb⟩
/-- Two ways of marking the edges, and two ways of accepting, one the opposite of the other. -/
theorem las_other {es : List Edg} {Q : Edg → Nat → Prop} {start ok ok' : Nat → Prop} {g g' : Edg → Nat} (hd : Det es Q) (hst : ∀ s t, start s → start t → s = t) (hex : ∃ s u q v, IsLas es Q start s u q v)
    (hok : ∀ v : List Edg, v ≠ [] → (∀ e ∈ v, e ∈ es) → (ok' (marksE ⟨sysE.fr, sysE.to, g'⟩ v) ↔ ¬ ok (marksE ⟨sysE.fr, sysE.to, g⟩ v))) : Lasso ⟨sysE.fr, sysE.to, g'⟩ es Q start ok' ↔ ¬ Lasso ⟨sysE.fr, sysE.to, g⟩ es Q start ok := by
  have hin : ∀ {s p t : Nat} {l : List Edg}, Run sysE es Q s p l t → ∀ e ∈ l, e ∈ es := by
    intro s p t l h
    induction h with
    | nil _ _ => intro e he; cases he
    | cons he _ _ ih =>
      intro e h
      rcases List.mem_cons.1 h with rfl | h
      · exact he
      · exact ih e h
  have hsame : ∀ {s u q v s' u' q' v'}, IsLas es Q start s u q v → IsLas es Q start s' u' q' v' → ∀ e, e ∈ v ↔ e ∈ v' := by
    rintro s u q v s' u' q' v' ⟨a1, a2, a3, a4⟩ ⟨b1, b2, b3, b4⟩ e
    obtain rfl := hst s s' a1 b1
    exact ⟨fun h => las_sub hd a3 a4 b3 b2 b4 h, fun h => las_sub hd b3 b4 a3 a2 a4 h⟩
  rw [lasso_las, lasso_las]
  constructor
  · rintro ⟨s, u, q, v, h1, h2⟩ ⟨s', u', q', v', h3, h4⟩
    have h5 := hok v h1.2.1 (hin (h1.2.2.2 0))
    rw [marksE_set (hsame h1 h3)] at h5 h2
    rw [marksE_set (Y := ⟨sysE.fr, sysE.to, g⟩) (hsame h1 h3)] at h5
    exact h5.1 h2 h4
  · intro hn
    obtain ⟨s, u, q, v, h1⟩ := hex
    exact ⟨s, u, q, v, h1, (hok v h1.2.1 (hin (h1.2.2.2 0))).2 fun h => hn ⟨s, u, q, v, h1, h⟩⟩
/-! ### Automata -/
theorem det_of {a : Au} (hf : a.Fits) (hk : a.Ok) (ha : AptN a.es) {w : Wd} (hw : w.Ok a.props) : Det a.es fun e p => readsB e (w.wo.let p) = true := by
  intro e he f hf2 p hs h1 h2
  obtain ⟨l, e1, _, hl⟩ := inL_nat (lt_in hw p) hk.p6
  rw [wo_lt hw.p, e1] at h1 h2
  have h6 : a.props.toNat ≤ 6 := by have := hk.p6; omega
  obtain ⟨c, b, hd⟩ := ok_edn hf hk he
  obtain ⟨c', b', hd'⟩ := ok_edn hf hk hf2
  have h64 : (2 ^ a.props.toNat : Nat) ≤ 64 := Nat.le_trans (Nat.pow_le_pow_right (by decide) h6) (by decide)
  have hc := hd.hc
  have hc' := hd'.hc
  rw [reads_nat hd h6 hl] at h1
  rw [reads_nat hd' h6 hl] at h2
  have g1 := of_decide_eq_true h1
  have g2 := of_decide_eq_true h2
  have hb : b ≤ c := by rw [← g1]; exact Nat.and_le_right
  have hb' : b' ≤ c' := by rw [← g2]; exact Nat.and_le_right
  have key : ∀ {x y : Edg} {cx bx cy by' : Nat}, x.care = (cx : Int) → x.bits = (bx : Int) → y.care = (cy : Int) → y.bits = (by' : Int) → cx < 64 → bx < 64 → cy < 64 → by' < 64 → l &&& cx = bx → l &&& cy = by' → meetsB x y = true := by
    intro x y cx bx cy by' x1 x2 y1 y2 l1 l2 l3 l4 q1 q2
    unfold meetsB
    rw [x1, x2, y1, y2, Vh.andI (by omega) (by omega), Vh.andI (by omega) (by omega)]
    refine decide_eq_true (congrArg Int.ofNat ?_)
    rw [← q1, ← q2, Nat.and_assoc, Nat.and_assoc, Nat.and_comm cx cy]
  obtain ⟨i, hi⟩ := List.getElem?_of_mem he
  obtain ⟨j, hj⟩ := List.getElem?_of_mem hf2
  rcases Nat.lt_trichotomy i j with h | h | h
  · have := ha j i f e hj hi h hs
    rw [key hd'.ec hd'.eb hd.ec hd.eb (by omega) (by omega) (by omega) (by omega) g2 g1] at this
    cases this
  · subst h; rw [hi] at hj; exact Option.some.inj hj
  · have := ha i j e f hi hj h hs.symm
    rw [key hd.ec hd.eb hd'.ec hd'.eb (by omega) (by omega) (by omega) (by omega) g1 g2] at this
    cases this
theorem start_in2 {a : Au} (h : a.Ok) (s : Nat) (hs : (s : Int) ∈ a.start) : s < a.states.toNat := by
  obtain ⟨j, hj, he⟩ := List.getElem_of_mem hs
  have := h.st j hj
  unfold Au.StartOk at this
  rw [List.getD_eq_getElem?_getD, List.getElem?_eq_getElem hj] at this
  have h2 : a.start[j] < a.states := this.2.1
  omega
theorem run_ex {a : Au} (hk : a.Ok) (hs : ∃ s : Nat, (s : Int) ∈ a.start) (hwh : a.WholeP) {w : Wd} (hw : w.Ok a.props) : ∃ s u q v, IsLas a.es (fun e p => readsB e (w.wo.let p) = true) (fun s => (s : Int) ∈ a.start) s u q v := by
  obtain ⟨s, hs⟩ := hs
  have hst := start_in2 hk s hs
  have hp : 0 < w.wo.loop.length := hw.p
  have hn : 0 < w.wo.n := by show 0 < w.wo.stem.length + w.wo.loop.length; omega
  have hP := isArcs_prod a w.wo
  have htot : ∀ x, x < a.states.toNat * w.wo.n → ∃ y ∈ isArcs a w.wo, y.fr = x ∧ y.to < a.states.toNat * w.wo.n := by
    intro x hx
    have hk1 := Nat.mod_lt x hn
    have hq : x / w.wo.n < a.states.toNat := (Nat.div_lt_iff_lt_mul hn).2 hx
    have hl : inL a.props (w.wo.at (x % w.wo.n)) := by
      rw [← let_at hk1, wo_lt hw.p]; exact lt_in hw _
    obtain ⟨l, e1, l1, _⟩ := inL_nat hl hk.p6
    obtain ⟨e, he, h1, h2⟩ := hwh _ hq l l1
    refine ⟨mkArc w.wo e (x % w.wo.n), (hP _).2 ⟨e, _, he, hk1, by show readsB e (w.wo.at _) = true; rw [e1]; exact h2, rfl⟩, ?_, ?_⟩
    · show e.fr.toNat * w.wo.n + x % w.wo.n = x
      rw [h1, Nat.mul_comm]
      exact Nat.div_add_mod x w.wo.n
    · exact node_lt (hk.sm e he).t1 (fol_lt hp hk1)
  have hx0 : s * w.wo.n < a.states.toNat * w.wo.n := by
    have := node_lt (n := w.wo.n) (k := 0) hst hn
    rwa [Nat.add_zero] at this
  obtain ⟨j, hr, l, hl, hc⟩ := circle htot hx0
  obtain ⟨s, u, q, v, h1, h2, h3, h4, _⟩ := (lasso_iff (Y := sysE) (start := fun s => (s : Int) ∈ a.start) (ok := fun _ => True) hp hP).1 ⟨s, hs, j, hr, l, hl, hc, trivial⟩
  exact ⟨s, u, q, v, h1, h2, h3, h4⟩
end Go.Proofs.Ytaccmanpanpbiaa
