/- Words. -/
import Derived.Test.YtdahmcgncpoliaaOut
set_option linter.unusedVariables false
set_option linter.unusedSimpArgs false
set_option maxRecDepth 100000
namespace Go.Proofs.Ytdahmcgncpoliaa
open Go Go.Vh Go.Proofs
def isLet (n : Int) (x : Int) : Prop := 0 ≤ x ∧ x < 2 ^ n.toNat
def hl (l : List Int) : AHeap := emptyH.alloc (.ro 1 (ints l))
def hl2 (l : List Int) (n : Int) : AHeap := (hl l).alloc (.cells 1 [.int .i64 n])
theorem bad82 (l : List Int) (n x : Int) (h0 : 0 ≤ n) (h6 : n ≤ 6) : CallW Try.prog 82 [.int .i64 x, .ptr 1 0] (hl2 l n) fun v H' => H' = hl2 l n ∧ ∃ b, v = .bool b ∧ (b = true ↔ ¬ isLet n x) := by
  refine CallW.sym Try.func82 rfl (by kernel_rfl) ?_
  conv => whnf
  refine Fork.mk (fun h => ?_) (fun h => ?_)
  all_goals conv => whnf
  · refine ⟨rfl, true, rfl, ?_⟩
    simp at h; simp [isLet]; omega
  refine Gets.of _ rfl ?_
  conv => whnf
  refine Gets.shl h0 ?_
  rw [shl_one h0 (by omega)]
  conv => whnf
  simp only [decide_eq_false_iff_not] at h
  refine Fork.mk (fun h => ?_) (fun h => ?_)
  all_goals conv => whnf
  · refine ⟨rfl, true, rfl, ?_⟩
    simp only [decide_eq_true_eq] at h; simp only [isLet, true_iff]; omega
  · refine ⟨rfl, false, rfl, ?_⟩
    simp only [decide_eq_false_iff_not] at h; simp only [isLet, Bool.false_eq_true, false_iff]; omega
theorem index90 (l : List Int) (n : Int) (h0 : 0 ≤ n) (h6 : n ≤ 6) (hll : l.length ≤ 4294967296) : CallW Try.prog 90 [.view 0 0 l.length, .func 82 [] [.ptr 1 0]] (hl2 l n) fun v H' => H' = hl2 l n ∧ ∃ k, v = .int .i64 k ∧ (0 ≤ k ↔ ¬ ∀ x ∈ l, isLet n x) := by
  refine CallW.sym Try.func90 rfl (by kernel_rfl) ?_
  conv => whnf
  refine Gets.of _ rfl ?_
  conv => whnf
  refine CodeS.loopS (σ := Nat) (fun j => [(0, .view 0 0 l.length), (1, .func 82 [] [.ptr 1 0]), (4, .int .i64 0), (7, .int .i64 l.length), (8, .int .i64 j)]) (fun _ => _) (fun j => j ≤ l.length ∧ ∀ x ∈ l.take j, isLet n x) (fun j => l.length - j) 0 (by kernel_rfl) ⟨Nat.zero_le _, by simp⟩ ⟨rfl, rfl, rfl, rfl, rfl, trivial⟩ rfl ?_
  rintro j ⟨g1, g2⟩
  conv => whnf
  refine Fork.mk (fun hc => ?_) (fun hc => ?_)
  all_goals conv => whnf
  · have hc : j < l.length := by simp at hc; omega
    refine Gets.ixV (es := 1) rfl (by kernel_rfl) (by omega) (by omega) ?_
    conv => whnf
    refine Gets.loadN (j := j) (k := .i64) (l := l) (x := l[j]) (ti := ⟨1, 8, false, [.int .i64 0]⟩) (by kernel_rfl) rfl rfl (by simp) (List.getElem?_eq_getElem hc) ?_
    conv => whnf
    refine CallS.of (by kernel_rfl) (bad82 l n l[j] h0 h6) rfl ?_
    rintro _ _ ⟨rfl, b, rfl, hb⟩
    cases b <;> conv => whnf
    · have hw : IntKind.wrap .i64 ((j : Int) + 1) = ((j + 1 : Nat) : Int) := by rw [wrap_i64 (by omega) (by omega)]; rfl
      refine ⟨j + 1, ⟨by omega, fun x hx => ?_⟩, by omega, ⟨rfl, rfl, rfl, rfl, congrArg (AVal.int .i64) hw, trivial⟩, rfl⟩
      rw [List.take_succ_eq_append_getElem hc] at hx
      rcases List.mem_append.1 hx with hx | hx
      · exact g2 x hx
      · obtain rfl := List.mem_singleton.1 hx
        exact Classical.byContradiction fun h => by have := hb.2 h; cases this
    · refine ⟨rfl, _, rfl, ?_⟩
      constructor
      · intro _ h; exact hb.1 rfl (h _ (List.getElem_mem hc))
      · intro _; omega
  · refine ⟨rfl, _, rfl, ?_⟩
    constructor
    · intro h; exact absurd h (by decide)
    · intro h
      exact absurd (fun x hx => g2 x (by rw [List.take_of_length_le (by simp at hc; omega)]; exact hx)) h
theorem contains81 (l : List Int) (n : Int) (h0 : 0 ≤ n) (h6 : n ≤ 6) (hll : l.length ≤ 4294967296) : CallW Try.prog 81 [.view 0 0 l.length, .func 82 [] [.ptr 1 0]] (hl2 l n) fun v H' => H' = hl2 l n ∧ ∃ b, v = .bool b ∧ (b = true ↔ ¬ ∀ x ∈ l, isLet n x) := by
  refine CallW.sym Try.func81 rfl (by kernel_rfl) ?_
  conv => whnf
  refine CallS.of (by kernel_rfl) (index90 l n h0 h6 hll) rfl ?_
  rintro _ _ ⟨rfl, k, rfl, hk⟩
  conv => whnf
  refine Fork.mk (fun h => ?_) (fun h => ?_)
  all_goals conv => whnf
  · exact ⟨rfl, true, rfl, by simp only [decide_eq_true_eq] at h; simp only [true_iff]; exact hk.1 h⟩
  · exact ⟨rfl, false, rfl, by simp only [decide_eq_false_iff_not] at h; simp only [Bool.false_eq_true, false_iff]; exact fun h' => h (hk.2 h')⟩
theorem letters64 (l : List Int) (n : Int) (h0 : 0 ≤ n) (h6 : n ≤ 6) (hll : l.length ≤ 4294967296) : CallW Try.prog 64 [.view 0 0 l.length, .int .i64 n] (hl l) fun v _ => ∃ b, v = .bool b ∧ (b = true ↔ ∀ x ∈ l, isLet n x) := by
  refine CallW.sym Try.func64 rfl (by kernel_rfl) ?_
  conv => whnf
  refine CallS.of (by kernel_rfl) (contains81 l n h0 h6 hll) rfl ?_
  rintro _ _ ⟨rfl, b, rfl, hb⟩
  cases b <;> conv => whnf
  · exact ⟨true, rfl, by simp at hb; simp; exact hb⟩
  · exact ⟨false, rfl, by simp at hb; simp; exact hb⟩
/-- The same wherever the list lies. -/
theorem letters64c (l : List Int) (n : Int) (h0 : 0 ≤ n) (h6 : n ≤ 6) (hll : l.length ≤ 4294967296) (i : Nat) (H : AHeap) (hi : i < H.n) (hf : H.f i = .ro 1 (ints l)) : CallW Try.prog 64 [.view i 0 l.length, .int .i64 n] H fun v H' => H' = H ∧ ∃ b, v = .bool b ∧ (b = true ↔ ∀ x ∈ l, isLet n x) :=
  CallW.reads (H := H) (letters64 l n h0 h6 hll) (by rintro v ⟨b, rfl, _⟩; rfl) (fun j => match j with | 0 => i | j + 1 => H.n + j) (fun j hj => by
    have hj : j < 1 := hj
    obtain rfl : j = 0 := by omega
    exact ⟨hi, fun h => h, by show BSub _ (.ro 1 (ints l)) (H.f i); rw [hf]; exact .roI⟩) (fun j hj => by
    have hj : 1 ≤ j := hj
    obtain ⟨k, rfl⟩ : ∃ k, j = k + 1 := ⟨j - 1, by omega⟩
    exact Nat.le_add_right _ _)
structure Wd where
  stem : List Int
  loop : List Int
def Wd.avAt (w : Wd) (i j : Nat) : AVal := .agg [.view i 0 w.stem.length, .view j 0 w.loop.length]
def Wd.heap (w : Wd) : AHeap := (hl w.stem).alloc (.ro 1 (ints w.loop))
structure Wd.Fits (w : Wd) : Prop where
  ns : w.stem.length ≤ 4294967296
  nl : w.loop.length ≤ 4294967296
def Wd.Ok (w : Wd) (n : Int) : Prop := 0 ≤ n ∧ n ≤ 6 ∧ w.loop ≠ [] ∧ w.stem.length + w.loop.length ≤ 200 ∧ (∀ x ∈ w.stem, isLet n x) ∧ ∀ x ∈ w.loop, isLet n x
theorem wvalid41 (w : Wd) (hw : w.Fits) (n : Int) : CallW Try.prog 41 [w.avAt 0 1, .int .i64 n] w.heap fun v _ => ∃ b, v = .bool b ∧ (b = true ↔ w.Ok n) := by
  have h1 := hw.ns
  have h2 := hw.nl
  have hsum : IntKind.wrap .i64 ((w.stem.length : Int) + w.loop.length) = w.stem.length + w.loop.length := wrap_i64 (by omega) (by omega)
  refine CallW.sym Try.func41 rfl (by kernel_rfl) ?_
  conv => whnf
  repeat' first
    | (refine Fork.mk (fun h => ?_) (fun h => ?_) <;> conv => whnf)
    | (refine Gets.of _ rfl ?_; conv => whnf)
  iterate 6
    · refine ⟨false, rfl, ?_⟩
      simp only [decide_eq_true_eq, decide_eq_false_iff_not, Bool.false_eq_true, false_iff, beq_iff_eq, beq_eq_false_iff_ne, ne_eq, hsum] at *
      rintro ⟨x1, x2, x3, x4, _⟩
      have := List.length_pos_iff.2 x3
      omega
  rw [hsum] at *
  simp only [decide_eq_true_eq, decide_eq_false_iff_not, beq_eq_false_iff_ne, ne_eq] at *
  refine CallS.of (by kernel_rfl) (letters64c w.stem n (by omega) (by omega) h1 0 _ (Nat.le_of_ble_eq_true rfl) rfl) rfl ?_
  rintro _ _ ⟨rfl, b, rfl, hb⟩
  cases b <;> conv => whnf
  · exact ⟨false, rfl, by simp only [Bool.false_eq_true, false_iff] at hb ⊢; rintro ⟨_, _, _, _, x, _⟩; exact hb x⟩
  refine Gets.of _ rfl ?_
  conv => whnf
  refine CallS.of (by kernel_rfl) (letters64c w.loop n (by omega) (by omega) h2 1 _ (Nat.le_of_ble_eq_true rfl) rfl) rfl ?_
  rintro _ _ ⟨rfl, b', rfl, hb'⟩
  cases b' <;> conv => whnf
  · exact ⟨false, rfl, by simp only [Bool.false_eq_true, false_iff] at hb' ⊢; rintro ⟨_, _, _, _, _, x⟩; exact hb' x⟩
  · refine ⟨true, rfl, ?_⟩
    simp only [true_iff] at hb hb' ⊢
    exact ⟨by omega, by omega, List.ne_nil_of_length_pos (by omega), by omega, hb, hb'⟩
/-! ### The reference -/
theorem letter52 (x n : Int) (h0 : 0 ≤ n) (h6 : n ≤ 6) : CallW Try.prog 52 [.int .i64 x, .int .i64 n] emptyH fun v _ => ∃ b, v = .bool b ∧ (b = true ↔ isLet n x) := by
  refine CallW.sym Try.func52 rfl (by kernel_rfl) ?_
  conv => whnf
  refine Fork.mk (fun h => ?_) (fun h => ?_)
  all_goals conv => whnf
  · refine Gets.shl h0 ?_
    rw [shl_one h0 (by omega)]
    conv => whnf
    simp only [decide_eq_true_eq] at h
    refine Fork.mk (fun h => ?_) (fun h => ?_)
    all_goals conv => whnf
    · exact ⟨true, rfl, by simp only [decide_eq_true_eq] at h; simp only [isLet, true_iff]; omega⟩
    · exact ⟨false, rfl, by simp only [decide_eq_false_iff_not] at h; simp only [isLet, Bool.false_eq_true, false_iff]; omega⟩
  · exact ⟨false, rfl, by simp only [decide_eq_false_iff_not] at h; simp only [isLet, Bool.false_eq_true, false_iff]; omega⟩
theorem letter52c (x n : Int) (h0 : 0 ≤ n) (h6 : n ≤ 6) (H : AHeap) : CallW Try.prog 52 [.int .i64 x, .int .i64 n] H fun v H' => H' = H ∧ ∃ b, v = .bool b ∧ (b = true ↔ isLet n x) :=
  CallW.closed (letter52 x n h0 h6) rfl (by rintro v ⟨b, rfl, _⟩; rfl) H
theorem wvalid33 (w : Wd) (hw : w.Fits) (n : Int) : CallW Try.prog 33 [w.avAt 0 1, .int .i64 n] w.heap fun v _ => ∃ b, v = .bool b ∧ (b = true ↔ w.Ok n) := by
  have h1 := hw.ns
  have h2 := hw.nl
  have hsum : IntKind.wrap .i64 ((w.stem.length : Int) + w.loop.length) = w.stem.length + w.loop.length := wrap_i64 (by omega) (by omega)
  refine CallW.sym Try.func33 rfl (by kernel_rfl) ?_
  conv => whnf
  repeat' first
    | (refine Fork.mk (fun h => ?_) (fun h => ?_) <;> conv => whnf)
    | (refine Gets.of _ rfl ?_; conv => whnf)
  iterate 4
    · refine ⟨false, rfl, ?_⟩
      simp only [decide_eq_true_eq, decide_eq_false_iff_not, Bool.false_eq_true, false_iff, beq_iff_eq, beq_eq_false_iff_ne, ne_eq, hsum] at *
      rintro ⟨x1, x2, x3, x4, _⟩
      have := List.length_pos_iff.2 x3
      omega
  rw [hsum] at *
  simp only [decide_eq_true_eq, decide_eq_false_iff_not, beq_eq_false_iff_ne, ne_eq] at *
  refine CodeS.drawI [2] [(1, true, false), (2, true, false), (4, true, false), (5, true, false), (8, true, false), (0, false, true), (3, false, true), (6, false, true), (7, true, false)] mixed (by kernel_rfl) (.cons ⟨rfl, trivial⟩ .nil) ?_
  conv => whnf
  iterate 2 (refine Gets.of _ rfl ?_; conv => whnf)
  refine ⟨fun _ i hi => rfl, ?_⟩
  conv => whnf
  refine Gets.appendV (k := .i64) (l := []) (xs := w.stem) (ti := ⟨1, 8, false, [.int .i64 0]⟩) (d := .slice 3) (by kernel_rfl) (by kernel_rfl) rfl rfl rfl (by decide) rfl rfl rfl rfl (by simp; omega) ?_
  conv => whnf
  refine ⟨fun _ i hi => by simp at hi; subst hi; rfl, ?_⟩
  conv => whnf
  refine Gets.appendV (k := .i64) (l := w.stem) (xs := w.loop) (ti := ⟨1, 8, false, [.int .i64 0]⟩) (d := .slice 3) (by kernel_rfl) (by kernel_rfl) rfl rfl rfl (by decide) (by simp) rfl rfl rfl (by omega) ?_
  conv => whnf
  refine ⟨fun _ i hi => by simp at hi; subst hi; rfl, ?_⟩
  conv => whnf
  refine Gets.of _ rfl ?_
  conv => whnf
  refine CodeS.loopG (σ := Nat) (fun j => [(1, .int .i64 n), (4, .bool false), (35, .slice 2 0 (w.stem ++ w.loop).length), (36, .int .i64 (w.stem ++ w.loop).length), (37, .int .i64 j)]) (fun j => w.heap.alloc (.cells 1 (ints (w.stem ++ w.loop)))) (fun j => j ≤ (w.stem ++ w.loop).length ∧ ∀ x ∈ (w.stem ++ w.loop).take j, isLet n x) (fun j => (w.stem ++ w.loop).length - j) 0 (renL [0, 1, 5] 6) (by kernel_rfl)
    ⟨Nat.zero_le _, by simp⟩ ⟨rfl, rfl, by rw [List.length_append]; rfl, by rw [List.length_append]; rfl, rfl, trivial⟩ ?_ ?_
  · exact Emb.lits [0, 1, 5] rfl rfl rfl rfl (.cons ⟨rfl, rfl, fun h => h⟩ (.cons ⟨rfl, rfl, fun h => h⟩ .nil)) (.cons ⟨rfl, .roI⟩ (.cons ⟨rfl, .roI⟩ (.cons ⟨rfl, .cellsK⟩ .nil)))
  generalize hll : w.stem ++ w.loop = ll
  have hlen : ll.length ≤ 200 := by rw [← hll, List.length_append]; omega
  rintro j ⟨g1, g2⟩
  conv => whnf
  refine Fork.mk (fun hc => ?_) (fun hc => ?_)
  all_goals conv => whnf
  · have hc : j < ll.length := by simp at hc; omega
    refine Gets.ixS (es := 1) rfl (by kernel_rfl) (by omega) (by omega) ?_
    conv => whnf
    refine Gets.loadN (j := j) (k := .i64) (l := ll) (x := ll[j]) (ti := ⟨1, 8, false, [.int .i64 0]⟩) (by kernel_rfl) rfl rfl (by simp) (List.getElem?_eq_getElem hc) ?_
    conv => whnf
    refine CallS.of (by kernel_rfl) (letter52c ll[j] n (by omega) (by omega) _) rfl ?_
    rintro _ _ ⟨rfl, b, rfl, hb⟩
    cases b <;> conv => whnf
    · refine ⟨false, rfl, ?_⟩
      simp only [Bool.false_eq_true, false_iff] at hb ⊢
      rintro ⟨_, _, _, _, x1, x2⟩
      have : ll[j] ∈ w.stem ++ w.loop := by rw [hll]; exact List.getElem_mem hc
      rcases List.mem_append.1 this with h | h
      · exact hb (x1 _ h)
      · exact hb (x2 _ h)
    · have hw : IntKind.wrap .i64 ((j : Int) + 1) = ((j + 1 : Nat) : Int) := by rw [wrap_i64 (by omega) (by omega)]; rfl
      refine ⟨j + 1, renL [0, 1, 2] 3, ⟨by omega, fun x hx => ?_⟩, by omega, ⟨rfl, rfl, rfl, rfl, congrArg (AVal.int .i64) hw, trivial⟩, Emb.lits [0, 1, 2] rfl rfl rfl rfl (.cons ⟨rfl, rfl, fun h => h⟩ (.cons ⟨rfl, rfl, fun h => h⟩ .nil)) (.cons ⟨rfl, .roI⟩ (.cons ⟨rfl, .roI⟩ (.cons ⟨rfl, .cellsI⟩ .nil)))⟩
      rw [List.take_succ_eq_append_getElem hc] at hx
      rcases List.mem_append.1 hx with hx | hx
      · exact g2 x hx
      · obtain rfl := List.mem_singleton.1 hx
        exact hb.1 rfl
  · refine ⟨true, rfl, ?_⟩
    simp only [true_iff]
    have hall : ∀ x ∈ w.stem ++ w.loop, isLet n x := fun x hx => g2 x (by rw [hll] at hx; rw [List.take_of_length_le (by simp at hc; omega)]; exact hx)
    exact ⟨by omega, by omega, List.ne_nil_of_length_pos (by omega), by omega, fun x hx => hall x (List.mem_append_left _ hx), fun x hx => hall x (List.mem_append_right _ hx)⟩
def Wd.at (w : Wd) (k : Nat) : Int := if k < w.stem.length then w.stem.getD k 0 else w.loop.getD ((k - w.stem.length) % w.loop.length) 0
theorem getD_some {l : List Int} {j : Nat} (h : j < l.length) : l[j]? = some (l.getD j 0) := by rw [List.getD_eq_getElem?_getD, List.getElem?_eq_getElem h]; rfl
theorem letter44 (w : Wd) (hw : w.Fits) (hne : w.loop ≠ []) (k : Nat) (hk : k ≤ 4294967296) : CallW Try.prog 44 [w.avAt 0 1, .int .i64 k] w.heap fun v _ => v = .int .i64 (w.at k) := by
  have h1 := hw.ns
  have h2 := hw.nl
  have h3 := List.length_pos_iff.2 hne
  refine CallW.sym Try.func44 rfl (by kernel_rfl) ?_
  conv => whnf
  iterate 2 (refine Gets.of _ rfl ?_; conv => whnf)
  refine Fork.mk (fun hc => ?_) (fun hc => ?_)
  all_goals conv => whnf
  · have hc : k < w.stem.length := by simp at hc; omega
    refine Gets.of _ rfl ?_
    conv => whnf
    refine Gets.ixV (es := 1) rfl (by kernel_rfl) (by omega) (by omega) ?_
    conv => whnf
    refine Gets.loadN (j := k) (k := .i64) (l := w.stem) (x := w.stem.getD k 0) (ti := ⟨1, 8, false, [.int .i64 0]⟩) (by kernel_rfl) rfl rfl (by simp) (getD_some hc) ?_
    conv => whnf
    exact congrArg (AVal.int .i64) (by rw [Wd.at, if_pos hc])
  · have hc : ¬ k < w.stem.length := by simp at hc; omega
    obtain ⟨x, l, hxl⟩ : ∃ x l, w.loop = x :: l := by cases hq : w.loop with | nil => exact absurd hq hne | cons x l => exact ⟨x, l, rfl⟩
    refine CodeS.drawI [1, 2] (takes 14) mixed (by kernel_rfl) (.cons ⟨rfl, by show (ABlk.ro 1 (ints w.loop)).live; rw [hxl]; simp [ABlk.live, ints]⟩ (.cons ⟨rfl, trivial⟩ .nil)) ?_
    conv => whnf
    iterate 3 (refine Gets.of _ rfl ?_; conv => whnf)
    have hw1 : IntKind.wrap .i64 ((k : Int) - w.stem.length) = ((k - w.stem.length : Nat) : Int) := by rw [wrap_i64 (by omega) (by omega)]; omega
    iterate 2 (refine Gets.of _ rfl ?_; conv => whnf)
    rw [hw1]
    refine Gets.remN (by omega) (by omega) ?_
    conv => whnf
    have hm : ((k - w.stem.length : Nat) : Int) % (w.loop.length : Int) = (((k - w.stem.length) % w.loop.length : Nat) : Int) := by omega
    rw [hm]
    have hlt := Nat.mod_lt (k - w.stem.length) h3
    refine Gets.ixV (es := 1) rfl (by kernel_rfl) (by omega) (by omega) ?_
    conv => whnf
    refine Gets.loadN (j := (k - w.stem.length) % w.loop.length) (k := .i64) (l := w.loop) (x := w.loop.getD ((k - w.stem.length) % w.loop.length) 0) (ti := ⟨1, 8, false, [.int .i64 0]⟩) (by kernel_rfl) rfl rfl (by rw [Int.toNat_natCast]; omega) (getD_some hlt) ?_
    conv => whnf
    exact congrArg (AVal.int .i64) (by rw [Wd.at, if_neg hc])
end Go.Proofs.Ytdahmcgncpoliaa
