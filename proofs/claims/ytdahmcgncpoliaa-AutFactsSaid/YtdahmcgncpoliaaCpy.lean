/- Copies. -/
import Derived.Test.YtdahmcgncpoliaaWho
import Derived.Test.YtdahmcgncpoliaaWrd
set_option linter.unusedVariables false
set_option linter.unusedSimpArgs false
set_option maxRecDepth 100000
namespace Go.Proofs.Ytdahmcgncpoliaa
open Go Go.Vh Go.Proofs
/-- As a.av; its Start is no nil. -/
def Au.avS (a : Au) : AVal := .agg [.int .i64 a.props, .int .i64 a.states, .slice 0 0 a.start.length, .int .i64 a.kind, .int .i64 a.marks, .view 1 0 a.es.length]
def Au.boxS (a : Au) : ABlk := .cells 1 [.int .i64 a.props, .int .i64 a.states, .slice 0 0 a.start.length, .int .i64 a.kind, .int .i64 a.marks, .view 1 0 a.es.length]
theorem avS_view (a : Au) {φ : PMap} {c : Value} (h : VRel φ a.avS c) : VRel φ a.av c := by
  obtain ⟨cs, rfl, h⟩ := h
  refine ⟨cs, rfl, ?_⟩
  simp only [VRels] at h ⊢
  obtain ⟨c0, cs0, rfl, h0, c1, cs1, rfl, h1, c2, cs2, rfl, h2, h3⟩ := h
  exact ⟨c0, _, rfl, h0, c1, _, rfl, h1, c2, _, rfl, view_of_slice h2, h3⟩
theorem avS_views (a : Au) (l : List AVal) {φ : PMap} {cs : List Value} (h : VRels φ (a.avS :: l) cs) : VRels φ (a.av :: l) cs := by
  simp only [VRels] at h ⊢
  obtain ⟨c, cs', rfl, h1, h2⟩ := h
  exact ⟨c, cs', rfl, avS_view a h1, h2⟩
/-- A copy of a row that is no nil. -/
theorem clone67 (l : List Int) (hll : l.length ≤ 4294967296) : CallA Try.prog 67 [.slice 0 0 l.length] (hl l) fun v bs => v = .slice 1 0 l.length ∧ bs = [.cells 1 (ints l)] := by
  refine (CallW.symR (K := fun v G => v = .slice 1 0 l.length ∧ G = (hl l).alloc (.cells 1 (ints l))) Try.func67 rfl (by kernel_rfl) ?_).mono ?_
  · conv => whnf
    refine Fork.mk (fun h => absurd h (by decide)) (fun _ => ?_)
    conv => whnf
    have hsrc : srcA ((hl l).alloc (.cells 1 [])) 1 (.slice 0 0 l.length) = some (ints l, l.length) := by
      show (if 1 = 1 ∧ 0 + l.length * 1 ≤ (ints l).length then some (((ints l).drop 0).take (l.length * 1), l.length) else none) = _
      rw [if_pos ⟨rfl, by rw [ints_length]; omega⟩, List.drop_zero, Nat.mul_one, List.take_of_length_le (by rw [ints_length]; exact Nat.le_refl _)]
    refine ⟨⟨(.slice 2 0 l.length, (((hl l).alloc (.cells 1 [])).set 1 .dead).alloc (.cells 1 (ints l))), ?_, ?_⟩⟩
    · have ht : sliceT Try.prog 29 = some ⟨1, 8, false, [.int .i64 0]⟩ := by kernel_rfl
      have hu : Try.prog.underlying 29 = some (.slice 3) := by kernel_rfl
      show builtA Try.prog ((hl l).alloc (.cells 1 [])) .append [29, 29] [.slice 1 0 0, .slice 0 0 l.length] = _
      simp only [builtA, apureB, amemB, aappend, ht, hu]
      rw [if_pos ⟨rfl, by decide, rfl⟩, hsrc]
      show (if 1 = 1 ∧ 0 + 0 * 1 ≤ ([] : List AVal).length ∧ 0 + l.length ≤ 4294967296 ∧ (ints l).all AVal.scalar = true then some (AVal.slice 2 0 (0 + l.length), (((hl l).alloc (.cells 1 [])).set 1 .dead).alloc (.cells 1 ((([] : List AVal).drop 0).take (0 * 1) ++ ints l))) else none) = _
      rw [if_pos ⟨rfl, by decide, by omega, nums_scalar _ _⟩, Nat.zero_add]
      rfl
    conv => whnf
    exact ⟨renL [0, 2] 3, .slice 1 0 l.length, (hl l).alloc (.cells 1 (ints l)), Emb.lits [0, 2] rfl rfl rfl rfl (.cons ⟨rfl, rfl, fun h => h⟩ .nil) (.cons ⟨rfl, .roI⟩ (.cons ⟨rfl, .cellsI⟩ .nil)), rfl, rfl, rfl⟩
  · rintro v G ⟨rfl, rfl⟩
    exact ⟨[_], rfl, by simp [ABlk.fresh], rfl, rfl⟩
theorem clone67c (l : List Int) (hll : l.length ≤ 4294967296) (i : Nat) (H : AHeap) (hi : Nat.blt i H.n = true) (hf : H.f i = .ro 1 (ints l)) : CallW Try.prog 67 [.slice i 0 l.length] H fun v H' => v = .slice H.n 0 l.length ∧ H' = H.alloc (.cells 1 (ints l)) := by
  have hi := Nat.le_of_ble_eq_true hi
  refine (CallA.frame (H := H) (clone67 l hll) (fun j => match j with | 0 => i | j + 1 => H.n + j) (fun j hj => ?_) (fun j hj => ?_)).mono ?_
  · have hj : j < 1 := hj
    obtain rfl : j = 0 := by omega
    exact ⟨hi, fun h => h, by show BSub _ (.ro 1 (ints l)) (H.f i); rw [hf]; exact .roI⟩
  · have hj : 1 ≤ j := hj
    obtain ⟨k, rfl⟩ : ∃ k, j = k + 1 := ⟨j - 1, by omega⟩
    rfl
  · rintro v H' ⟨v', bs, ⟨rfl, rfl⟩, rfl, rfl⟩
    refine ⟨rfl, ?_⟩
    show H.alloc (renB _ (.cells 1 (ints l))) = _
    rw [renB, rens_ints]
theorem every49 (p : Int) (h0 : 0 ≤ p) (h6 : p ≤ 6) : CallW Try.prog 49 [.int .i64 p] emptyH fun v _ => v = .int .u64 (maskN ⟨0, 0, 0, 0, 0⟩ (2 ^ p.toNat) : Nat) := by
  refine CallW.sym Try.func49 rfl (by kernel_rfl) ?_
  conv => whnf
  refine CallS.of (by kernel_rfl) (letters46i ⟨0, 0, 0, 0, 0⟩ p h0 h6 _) rfl ?_
  rintro _ _ ⟨rfl, rfl⟩
  conv => whnf
theorem every49c (p : Int) (h0 : 0 ≤ p) (h6 : p ≤ 6) (H : AHeap) : CallW Try.prog 49 [.int .i64 p] H fun v H' => H' = H ∧ v = .int .u64 (maskN ⟨0, 0, 0, 0, 0⟩ (2 ^ p.toNat) : Nat) :=
  CallW.closed (every49 p h0 h6) rfl (by rintro _ rfl; rfl) H
def sinkI (kind : Int) : Int := if kind = 2 then 1 else if kind = 4 then 2 else 0
theorem sink56 (kind : Int) : CallW Try.prog 56 [.int .i64 kind] emptyH fun v _ => v = .int .i64 (sinkI kind) := by
  refine CallW.sym Try.func56 rfl (by kernel_rfl) ?_
  conv => whnf
  refine Fork.mk (fun h => ?_) (fun h => ?_)
  all_goals conv => whnf
  · simp only [beq_iff_eq] at h; subst h; rfl
  refine Fork.mk (fun h' => ?_) (fun h' => ?_)
  all_goals conv => whnf
  · simp only [beq_iff_eq] at h'; subst h'; rfl
  · simp only [beq_eq_false_iff_ne, ne_eq] at h h'
    exact congrArg (AVal.int .i64) (by unfold sinkI; rw [if_neg h, if_neg h'])
theorem sink56c (kind : Int) (H : AHeap) : CallW Try.prog 56 [.int .i64 kind] H fun v H' => H' = H ∧ v = .int .i64 (sinkI kind) :=
  CallW.closed (sink56 kind) rfl (by rintro _ rfl; rfl) H
/-! ### Is there another number? -/
def hu2 (l : List Nat) (x : Nat) : AHeap := (emptyH.alloc (.ro 1 (u64s l))).alloc (.ro 1 (nums .u64 [(x : Int)]))
theorem ne54 (l : List Nat) (x y : Nat) : CallW Try.prog 54 [.int .u64 (y : Int), .ptr 1 0] (hu2 l x) fun v H' => H' = hu2 l x ∧ ∃ b, v = .bool b ∧ (b = true ↔ y ≠ x) := by
  refine CallW.sym Try.func54 rfl (by kernel_rfl) ?_
  conv => whnf
  iterate 1 (refine Gets.of _ rfl ?_; conv => whnf)
  refine Fork.mk (fun h => ?_) (fun h => ?_)
  all_goals conv => whnf
  · exact ⟨rfl, true, rfl, by simp only [bne_iff_ne, ne_eq] at h; simp only [true_iff]; exact fun h' => h (by rw [h'])⟩
  · exact ⟨rfl, false, rfl, by simp only [bne_eq_false_iff_eq] at h; simp only [Bool.false_eq_true, false_iff]; exact fun h' => h' (by omega)⟩
theorem index65 (l : List Nat) (x : Nat) (hll : l.length ≤ 4294967296) : CallW Try.prog 65 [.slice 0 0 l.length, .func 54 [] [.ptr 1 0]] (hu2 l x) fun v H' => H' = hu2 l x ∧ ∃ k, v = .int .i64 k ∧ (0 ≤ k ↔ ∃ y ∈ l, y ≠ x) := by
  refine CallW.sym Try.func65 rfl (by kernel_rfl) ?_
  conv => whnf
  refine Gets.of _ rfl ?_
  conv => whnf
  refine CodeS.loopS (σ := Nat) (fun j => [(0, .slice 0 0 l.length), (1, .func 54 [] [.ptr 1 0]), (4, .int .i64 0), (7, .int .i64 l.length), (8, .int .i64 j)]) (fun _ => _) (fun j => j ≤ l.length ∧ ∀ y ∈ l.take j, y = x) (fun j => l.length - j) 0 (by kernel_rfl) ⟨Nat.zero_le _, by simp⟩ ⟨rfl, rfl, rfl, rfl, rfl, trivial⟩ rfl ?_
  rintro j ⟨g1, g2⟩
  conv => whnf
  refine Fork.mk (fun hc => ?_) (fun hc => ?_)
  all_goals conv => whnf
  · have hc : j < l.length := by simp at hc; omega
    refine Gets.ixS (es := 1) rfl (by kernel_rfl) (by omega) (by omega) ?_
    conv => whnf
    refine Gets.loadN (j := j) (k := .u64) (l := l.map Int.ofNat) (x := (l[j] : Nat)) (ti := ⟨1, 8, false, [.int .u64 0]⟩) (by kernel_rfl) rfl rfl (by simp) (by rw [List.getElem?_map, List.getElem?_eq_getElem hc]; rfl) ?_
    conv => whnf
    refine CallS.of (by kernel_rfl) (ne54 l x l[j]) rfl ?_
    rintro _ _ ⟨rfl, b, rfl, hb⟩
    cases b <;> conv => whnf
    · have hw : IntKind.wrap .i64 ((j : Int) + 1) = ((j + 1 : Nat) : Int) := by rw [wrap_i64 (by omega) (by omega)]; rfl
      refine ⟨j + 1, ⟨by omega, fun y hy => ?_⟩, by omega, ⟨rfl, rfl, rfl, rfl, congrArg (AVal.int .i64) hw, trivial⟩, rfl⟩
      rw [List.take_succ_eq_append_getElem hc] at hy
      rcases List.mem_append.1 hy with hy | hy
      · exact g2 y hy
      · obtain rfl := List.mem_singleton.1 hy
        exact Classical.byContradiction fun h => by have := hb.2 h; cases this
    · exact ⟨rfl, _, rfl, ⟨fun _ => ⟨_, List.getElem_mem hc, hb.1 rfl⟩, fun _ => by omega⟩⟩
  · refine ⟨rfl, _, rfl, ⟨fun h => absurd h (by decide), ?_⟩⟩
    rintro ⟨y, hy, hne⟩
    exact absurd (g2 y (by rw [List.take_of_length_le (by simp at hc; omega)]; exact hy)) hne
theorem contains47 (l : List Nat) (x : Nat) (hll : l.length ≤ 4294967296) : CallW Try.prog 47 [.slice 0 0 l.length, .func 54 [] [.ptr 1 0]] (hu2 l x) fun v _ => ∃ b, v = .bool b ∧ (b = true ↔ ∃ y ∈ l, y ≠ x) := by
  refine CallW.sym Try.func47 rfl (by kernel_rfl) ?_
  conv => whnf
  refine CallS.of (by kernel_rfl) (index65 l x hll) rfl ?_
  rintro _ _ ⟨rfl, k, rfl, hk⟩
  conv => whnf
  refine Fork.mk (fun h => ?_) (fun h => ?_)
  all_goals conv => whnf
  · exact ⟨true, rfl, by simp only [decide_eq_true_eq] at h; simp only [true_iff]; exact hk.1 h⟩
  · exact ⟨false, rfl, by simp only [decide_eq_false_iff_not] at h; simp only [Bool.false_eq_true, false_iff]; exact fun h' => h (hk.2 h')⟩
theorem contains47c (l : List Nat) (x : Nat) (hll : l.length ≤ 4294967296) (i j : Nat) (H : AHeap) (hi : Nat.blt i H.n = true) (hj : Nat.blt j H.n = true) (h1 : H.f i = .cells 1 (u64s l)) (h2 : H.f j = .cells 1 (nums .u64 [(x : Int)])) : CallW Try.prog 47 [.slice i 0 l.length, .func 54 [] [.ptr j 0]] H fun v H' => H' = H ∧ ∃ b, v = .bool b ∧ (b = true ↔ ∃ y ∈ l, y ≠ x) := by
  have hi := Nat.le_of_ble_eq_true hi
  have hj := Nat.le_of_ble_eq_true hj
  exact CallW.reads (H := H) (contains47 l x hll) (by rintro v ⟨b, rfl, _⟩; rfl) (renL [i, j] H.n) (fun k hk => by
    have hk : k < 2 := hk
    rcases k with _ | _ | k
    · exact ⟨hi, fun h => h, .inr (.inr ⟨1, u64s l, rfl, by show H.f i = _; rw [h1, u64s, rens_nums]⟩)⟩
    · exact ⟨hj, fun h => h, .inr (.inr ⟨1, nums .u64 [(x : Int)], rfl, by show H.f j = _; rw [h2, rens_nums]⟩)⟩
    · omega) (fun k hk => by
    have hk : 2 ≤ k := hk
    show H.n ≤ (([i, j] : List Nat)[k]?).getD (H.n + k)
    rw [List.getElem?_eq_none (by show 2 ≤ k; exact hk)]
    show H.n ≤ H.n + k
    omega)
/-! ### Copy -/
theorem copy53 (a : Au) (hs : a.start.length ≤ 40000) (hne : a.es.length ≤ 40000) : CallA Try.prog 53 [a.avS] a.heap fun v bs => v = .agg [.int .i64 a.props, .int .i64 a.states, .slice 2 0 a.start.length, .int .i64 a.kind, .int .i64 a.marks, .slice 3 0 a.es.length] ∧ bs = [.cells 1 (ints a.start), .cells 5 (ints (flat a.es))] := by
  refine (CallW.symR (K := fun v G => v = .agg [.int .i64 a.props, .int .i64 a.states, .slice 2 0 a.start.length, .int .i64 a.kind, .int .i64 a.marks, .slice 3 0 a.es.length] ∧ G = (a.heap.alloc (.cells 1 (ints a.start))).alloc (.cells 5 (ints (flat a.es)))) Try.func53 rfl (by kernel_rfl) ?_).mono ?_
  · conv => whnf
    iterate 3 (refine Gets.of _ rfl ?_; conv => whnf)
    refine CallS.of (by kernel_rfl) (clone67c a.start (by omega) 0 _ rfl rfl) rfl ?_
    rintro _ _ ⟨rfl, rfl⟩
    conv => whnf
    iterate 3 (refine Gets.of _ rfl ?_; conv => whnf)
    refine Gets.makeE (k := 5) (ti := ⟨5, 40, true, [.int .i64 0, .int .i64 0, .int .i64 0, .int .i64 0, .int .i64 0]⟩) (by kernel_rfl) rfl (by decide) rfl (by decide) (by omega) (by omega) ?_
    conv => whnf
    iterate 3 (refine Gets.of _ rfl ?_; conv => whnf)
    refine Gets.copyV (es := 5) (ti := ⟨5, 40, true, [.int .i64 0, .int .i64 0, .int .i64 0, .int .i64 0, .int .i64 0]⟩) (n := a.es.length) (l := flat a.es) (by kernel_rfl) rfl rfl rfl (flat_length _) (by rw [List.length_replicate]; simp) ?_
    conv => whnf
    iterate 2 (refine Gets.of _ rfl ?_; conv => whnf)
    rw [Int.toNat_natCast]
    refine ⟨renL [0, 1, 5, 6] 7, _, _, ?_, ?_, rfl, rfl⟩
    · exact Emb.lits [0, 1, 5, 6] rfl rfl rfl rfl (.cons ⟨rfl, rfl, fun h => h⟩ (.cons ⟨rfl, rfl, fun h => h⟩ .nil)) (.cons ⟨rfl, .roI⟩ (.cons ⟨rfl, .roI⟩ (.cons ⟨rfl, .cellsI⟩ (.cons ⟨rfl, .cellsI⟩ .nil))))
    · rfl
  · rintro v G ⟨rfl, rfl⟩
    exact ⟨[_, _], rfl, by simp [ABlk.fresh], rfl, rfl⟩
theorem copy53c (a : Au) (hs : a.start.length ≤ 40000) (hne : a.es.length ≤ 40000) (H : AHeap) (hn : Nat.ble 2 H.n = true) (h0 : H.f 0 = .ro 1 (ints a.start)) (h1 : H.f 1 = .ro 5 (ints (flat a.es))) :
    CallW Try.prog 53 [a.avS] H fun v H' => v = .agg [.int .i64 a.props, .int .i64 a.states, .slice H.n 0 a.start.length, .int .i64 a.kind, .int .i64 a.marks, .slice (H.n + 1) 0 a.es.length] ∧ H' = (H.alloc (.cells 1 (ints a.start))).alloc (.cells 5 (ints (flat a.es))) := by
  refine (frame2 (copy53 a hs hne) H hn h0 h1 rfl).mono ?_
  rintro v H' ⟨v', bs, ⟨rfl, rfl⟩, rfl, rfl⟩
  refine ⟨rfl, ?_⟩
  show (H.alloc (renB _ (.cells 1 (ints a.start)))).alloc (renB _ (.cells 5 (ints (flat a.es)))) = _
  rw [renB, renB, rens_ints, rens_ints]
/-! ### With a Start that is no nil -/
theorem valid23s (a : Au) (hf : a.Fits) (H : AHeap) (hn : Nat.ble 2 H.n = true) (h0 : H.f 0 = .ro 1 (ints a.start)) (h1 : H.f 1 = .ro 5 (ints (flat a.es))) : CallW Try.prog 23 [a.avS] H fun v H' => H' = H ∧ ∃ b, v = .bool b ∧ (b = true ↔ a.Ok) :=
  (valid23c a hf H hn h0 h1).views fun φ w cs hR h => avS_views a [] h
theorem single45s (a : Au) (hf : a.Fits) (ho : a.Ok) (H : AHeap) (hn : Nat.ble 2 H.n = true) (h0 : H.f 0 = .ro 1 (ints a.start)) (h1 : H.f 1 = .ro 5 (ints (flat a.es))) :
    CallW Try.prog 45 [a.avS] H fun v H' => (v = .tuple [.nilSlice, .bool false] ∧ ¬ a.Sep a.es.length ∧ H' = H) ∨ (v = .tuple [.slice H.n 0 a.states.toNat, .bool true] ∧ a.Sep a.es.length ∧ H' = H.alloc (.cells 1 (u64s (a.ms a.es.length)))) :=
  (single45c a hf ho H hn h0 h1).views fun φ w cs hR h => avS_views a [] h
end Go.Proofs.Ytdahmcgncpoliaa
