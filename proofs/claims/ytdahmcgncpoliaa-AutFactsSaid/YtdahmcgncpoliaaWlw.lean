/- The law AutWalks. -/
import Derived.Test.YtdahmcgncpoliaaAwl
import Derived.Test.YtdahmcgncpoliaaLaw
import Derived.Test.YtdahmcgncpoliaaAcc
set_option linter.unusedVariables false
set_option linter.unusedSimpArgs false
set_option maxRecDepth 100000
namespace Go.Proofs.Ytdahmcgncpoliaa
open Go Go.Vh Go.Proofs
def Au.cs (a : Au) : List AVal := [.int .i64 a.props, .int .i64 a.states, .view 0 0 a.start.length, .int .i64 a.kind, .int .i64 a.marks, .view 1 0 a.es.length]
def Au.heapF (a : Au) : AHeap := a.heap.alloc (.ro 6 a.cs)
structure Au.Fits0 (a : Au) : Prop where
  start : ∀ x ∈ a.start, fits64 x
  es : ∀ e ∈ a.es, ∀ x ∈ e.l, fits64 x
theorem few11 (a : Au) (hf : a.Fits0) : CallW Try.prog 11 [.int .i64 40, .int .i64 300, .int .i64 40, .slice 2 0 1] a.heapF fun v _ => ∃ b, v = .bool b ∧ (b = true → a.Fits) := by
  refine CallW.sym Try.func11 rfl (by kernel_rfl) ?_
  conv => whnf
  iterate 1 (refine Gets.of _ rfl ?_; conv => whnf)
  refine CodeS.loopG (σ := Nat) (fun j => [(0, .int .i64 40), (1, .int .i64 300), (2, .int .i64 40), (8, .bool false), (11, .slice 2 0 1), (12, .int .i64 1), (13, .int .i64 j)]) (fun _ => a.heapF) (fun j => j ≤ 1 ∧ (j = 1 → a.Fits)) (fun j => 1 - j) 0 (renL [0, 1, 2] 3) (by kernel_rfl) ⟨by decide, fun h => by cases h⟩ ⟨rfl, rfl, rfl, rfl, rfl, rfl, rfl, trivial⟩ ?_ ?_
  · exact Emb.lits [0, 1, 2] rfl rfl rfl rfl (.cons ⟨rfl, rfl, fun h => h⟩ (.cons ⟨rfl, rfl, fun h => h⟩ (.cons ⟨rfl, rfl, fun h => h⟩ .nil))) (.cons ⟨rfl, .roI⟩ (.cons ⟨rfl, .roI⟩ (.cons ⟨rfl, .inl rfl⟩ .nil)))
  rintro j ⟨hj, hj2⟩
  rcases j with _ | _ | j
  · conv => whnf
    refine Fork.mk (fun _ => ?_) (fun h => absurd h (by decide))
    conv => whnf
    iterate 5 (refine Gets.of _ rfl ?_; conv => whnf)
    refine Fork.mk (fun h => ?_) (fun k1 => ?_)
    all_goals conv => whnf
    · exact ⟨_, rfl, fun h => by cases h⟩
    iterate 2 (refine Gets.of _ rfl ?_; conv => whnf)
    refine Fork.mk (fun h => ?_) (fun k2 => ?_)
    all_goals conv => whnf
    · exact ⟨_, rfl, fun h => by cases h⟩
    have hF : a.Fits := by
      have e1 : IntKind.wrap .i64 (40 + 1000) = 1040 := by decide
      simp only [decide_eq_false_iff_not, e1] at k1 k2
      exact ⟨by omega, by omega, hf.start, hf.es⟩
    have hE : ∀ z, Emb 3 (renL [0, 1, 2] 4) a.heapF ((a.heapF.alloc z)) := fun z => Emb.lits [0, 1, 2] rfl rfl rfl rfl (.cons ⟨rfl, rfl, fun h => h⟩ (.cons ⟨rfl, rfl, fun h => h⟩ (.cons ⟨rfl, rfl, fun h => h⟩ .nil))) (.cons ⟨rfl, .roI⟩ (.cons ⟨rfl, .roI⟩ (.cons ⟨rfl, .inl rfl⟩ .nil)))
    iterate 1 (refine Gets.of _ rfl ?_; conv => whnf)
    refine CallS.of (by kernel_rfl) (valid24c a hF _ rfl rfl rfl) rfl ?_
    rintro _ _ ⟨rfl, b, rfl, hb⟩
    cases b <;> conv => whnf
    · exact ⟨1, renL [0, 1, 2] 4, ⟨by decide, fun _ => hF⟩, by decide, ⟨rfl, rfl, rfl, rfl, rfl, rfl, rfl, trivial⟩, Emb.lits [0, 1, 2] rfl rfl rfl rfl (.cons ⟨rfl, rfl, fun h => h⟩ (.cons ⟨rfl, rfl, fun h => h⟩ (.cons ⟨rfl, rfl, fun h => h⟩ .nil))) (.cons ⟨rfl, .roI⟩ (.cons ⟨rfl, .roI⟩ (.cons ⟨rfl, .inl rfl⟩ .nil)))⟩
    iterate 1 (refine Gets.of _ rfl ?_; conv => whnf)
    refine Fork.mk (fun h => ?_) (fun k3 => ?_)
    all_goals conv => whnf
    · exact ⟨_, rfl, fun h => by cases h⟩
    iterate 1 (refine Gets.of _ rfl ?_; conv => whnf)
    refine Fork.mk (fun h => ?_) (fun k4 => ?_)
    all_goals conv => whnf
    · exact ⟨_, rfl, fun h => by cases h⟩
    exact ⟨1, renL [0, 1, 2] 4, ⟨by decide, fun _ => hF⟩, by decide, ⟨rfl, rfl, rfl, rfl, rfl, rfl, rfl, trivial⟩, Emb.lits [0, 1, 2] rfl rfl rfl rfl (.cons ⟨rfl, rfl, fun h => h⟩ (.cons ⟨rfl, rfl, fun h => h⟩ (.cons ⟨rfl, rfl, fun h => h⟩ .nil))) (.cons ⟨rfl, .roI⟩ (.cons ⟨rfl, .roI⟩ (.cons ⟨rfl, .inl rfl⟩ .nil)))⟩
  · conv => whnf
    refine Fork.mk (fun h => absurd h (by decide)) (fun _ => ?_)
    conv => whnf
    exact ⟨_, rfl, fun _ => hj2 rfl⟩
  · omega
def Wd.heapF (w : Wd) : AHeap := w.heap.alloc (.ro 2 [.view 0 0 w.stem.length, .view 1 0 w.loop.length])
theorem few12 (w : Wd) (h1 : w.stem.length ≤ 2 ^ 60) (h2 : w.loop.length ≤ 2 ^ 60) : CallW Try.prog 12 [.int .i64 40, .slice 2 0 1] w.heapF fun v _ => ∃ b, v = .bool b ∧ (b = true → w.Fits) := by
  refine CallW.sym Try.func12 rfl (by kernel_rfl) ?_
  conv => whnf
  iterate 1 (refine Gets.of _ rfl ?_; conv => whnf)
  refine CodeS.loopG (σ := Nat) (fun j => [(0, .int .i64 40), (4, .bool false), (7, .slice 2 0 1), (8, .int .i64 1), (9, .int .i64 j)]) (fun _ => w.heapF) (fun j => j ≤ 1 ∧ (j = 1 → w.Fits)) (fun j => 1 - j) 0 (renL [0, 1, 2] 3) (by kernel_rfl) ⟨by decide, fun h => by cases h⟩ ⟨rfl, rfl, rfl, rfl, rfl, trivial⟩ ?_ ?_
  · exact Emb.lits [0, 1, 2] rfl rfl rfl rfl (.cons ⟨rfl, rfl, fun h => h⟩ (.cons ⟨rfl, rfl, fun h => h⟩ (.cons ⟨rfl, rfl, fun h => h⟩ .nil))) (.cons ⟨rfl, .roI⟩ (.cons ⟨rfl, .roI⟩ (.cons ⟨rfl, .inl rfl⟩ .nil)))
  rintro j ⟨hj, hj2⟩
  rcases j with _ | _ | j
  · conv => whnf
    refine Fork.mk (fun _ => ?_) (fun h => absurd h (by decide))
    conv => whnf
    repeat' (refine Gets.of _ rfl ?_; conv => whnf)
    refine Fork.mk (fun h => ?_) (fun k1 => ?_)
    all_goals conv => whnf
    · exact ⟨_, rfl, fun h => by cases h⟩
    have hF : w.Fits := by
      rw [wrap_i64 (by omega) (by omega)] at k1
      simp only [decide_eq_false_iff_not] at k1
      exact ⟨by omega, by omega⟩
    exact ⟨1, renL [0, 1, 2] 4, ⟨by decide, fun _ => hF⟩, by decide, ⟨rfl, rfl, rfl, rfl, rfl, trivial⟩, Emb.lits [0, 1, 2] rfl rfl rfl rfl (.cons ⟨rfl, rfl, fun h => h⟩ (.cons ⟨rfl, rfl, fun h => h⟩ (.cons ⟨rfl, rfl, fun h => h⟩ .nil))) (.cons ⟨rfl, .roI⟩ (.cons ⟨rfl, .roI⟩ (.cons ⟨rfl, .inl rfl⟩ .nil)))⟩
  · conv => whnf
    refine Fork.mk (fun h => absurd h (by decide)) (fun _ => ?_)
    conv => whnf
    exact ⟨_, rfl, fun _ => hj2 rfl⟩
  · omega
theorem few11c (a : Au) (hf : a.Fits0) (H : AHeap) (i : Nat) (hn : Nat.ble 2 H.n = true) (hi : Nat.blt i H.n = true) (h0 : H.f 0 = .ro 1 (ints a.start)) (h1 : H.f 1 = .ro 5 (ints (flat a.es))) (h2 : H.f i = .cells 6 a.cs) :
    CallW Try.prog 11 [.int .i64 40, .int .i64 300, .int .i64 40, .slice i 0 1] H fun v H' => H' = H ∧ ∃ b, v = .bool b ∧ (b = true → a.Fits) := by
  have hn := Nat.le_of_ble_eq_true hn
  have hi := Nat.le_of_ble_eq_true hi
  exact CallW.reads (H := H) (few11 a hf) (by rintro v ⟨b, rfl, _⟩; rfl) (renL [0, 1, i] H.n) (fun j hj => by
    have hj : j < 3 := hj
    rcases j with _ | _ | _ | j
    · exact ⟨by show 0 < H.n; omega, fun h => h, by show BSub _ (.ro 1 (ints a.start)) (H.f 0); rw [h0]; exact .roI⟩
    · exact ⟨by show 1 < H.n; omega, fun h => h, by show BSub _ (.ro 5 (ints (flat a.es))) (H.f 1); rw [h1]; exact .roI⟩
    · exact ⟨by show i < H.n; omega, fun h => h, .inr (.inr ⟨6, a.cs, rfl, by show H.f i = _; rw [h2]; rfl⟩)⟩
    · omega) (fun j hj => by
    have hj : 3 ≤ j := hj
    show H.n ≤ (([0, 1, i] : List Nat)[j]?).getD (H.n + j)
    rw [List.getElem?_eq_none (by show 3 ≤ j; exact hj)]
    show H.n ≤ H.n + j
    omega)
theorem few12c (w : Wd) (w1 : w.stem.length ≤ 2 ^ 60) (w2 : w.loop.length ≤ 2 ^ 60) (H : AHeap) (i : Nat) (hn : Nat.ble 4 H.n = true) (hi : Nat.blt i H.n = true) (h2 : H.f 2 = .ro 1 (ints w.stem)) (h3 : H.f 3 = .ro 1 (ints w.loop)) (hc : H.f i = .cells 2 [.view 2 0 w.stem.length, .view 3 0 w.loop.length]) :
    CallW Try.prog 12 [.int .i64 40, .slice i 0 1] H fun v H' => H' = H ∧ ∃ b, v = .bool b ∧ (b = true → w.Fits) := by
  have hn := Nat.le_of_ble_eq_true hn
  have hi := Nat.le_of_ble_eq_true hi
  exact CallW.reads (H := H) (few12 w w1 w2) (by rintro v ⟨b, rfl, _⟩; rfl) (renL [2, 3, i] H.n) (fun j hj => by
    have hj : j < 3 := hj
    rcases j with _ | _ | _ | j
    · exact ⟨by show 2 < H.n; omega, fun h => h, by show BSub _ (.ro 1 (ints w.stem)) (H.f 2); rw [h2]; exact .roI⟩
    · exact ⟨by show 3 < H.n; omega, fun h => h, by show BSub _ (.ro 1 (ints w.loop)) (H.f 3); rw [h3]; exact .roI⟩
    · exact ⟨by show i < H.n; omega, fun h => h, .inr (.inr ⟨2, _, rfl, by show H.f i = _; rw [hc]; rfl⟩)⟩
    · omega) (fun j hj => by
    have hj : 3 ≤ j := hj
    show H.n ≤ (([2, 3, i] : List Nat)[j]?).getD (H.n + j)
    rw [List.getElem?_eq_none (by show 3 ≤ j; exact hj)]
    show H.n ≤ H.n + j
    omega)
/-- As read2, with the word. -/
theorem read4 {f : FuncId} {args : List AVal} {a : Au} {w : Wd} {K : AVal → Prop} (h : CallW Try.prog f args (a.heapW w) fun v _ => K v) (hk : ∀ v, K v → noRef v = true) (H : AHeap) (hn : Nat.ble 4 H.n = true) (h0 : H.f 0 = .ro 1 (ints a.start)) (h1 : H.f 1 = .ro 5 (ints (flat a.es))) (h2 : H.f 2 = .ro 1 (ints w.stem)) (h3 : H.f 3 = .ro 1 (ints w.loop)) (ha : rens (renL [0, 1, 2, 3] H.n) args = args) :
    CallW Try.prog f args H fun v H' => H' = H ∧ K v := by
  have hn := Nat.le_of_ble_eq_true hn
  have := CallW.reads (H := H) h hk (renL [0, 1, 2, 3] H.n) (fun i hi => by
    have hi : i < 4 := hi
    rcases i with _ | _ | _ | _ | i
    · exact ⟨by show 0 < H.n; omega, fun h => h, by show BSub _ (.ro 1 (ints a.start)) (H.f 0); rw [h0]; exact .roI⟩
    · exact ⟨by show 1 < H.n; omega, fun h => h, by show BSub _ (.ro 5 (ints (flat a.es))) (H.f 1); rw [h1]; exact .roI⟩
    · exact ⟨by show 2 < H.n; omega, fun h => h, by show BSub _ (.ro 1 (ints w.stem)) (H.f 2); rw [h2]; exact .roI⟩
    · exact ⟨by show 3 < H.n; omega, fun h => h, by show BSub _ (.ro 1 (ints w.loop)) (H.f 3); rw [h3]; exact .roI⟩
    · omega) (fun i hi => by
    have hi : 4 ≤ i := hi
    show H.n ≤ (([0, 1, 2, 3] : List Nat)[i]?).getD (H.n + i)
    rw [List.getElem?_eq_none (by show 4 ≤ i; exact hi)]
    show H.n ≤ H.n + i
    omega)
  rwa [ha] at this
theorem law4c (a : Au) (hf : a.Fits0) (w : Wd) (w1 : w.stem.length ≤ 2 ^ 60) (w2 : w.loop.length ≤ 2 ^ 60) : CallW Try.prog 4 [a.av, w.avAt 2 3] (a.heapW w) fun v _ => v = .bool true := by
  refine CallW.sym Try.func4 rfl (by kernel_rfl) ?_
  conv => whnf
  iterate 1 (refine Gets.of _ rfl ?_; conv => whnf)
  refine CallS.of (by kernel_rfl) (few11c a hf _ 6 rfl rfl rfl rfl rfl) rfl ?_
  rintro _ _ ⟨rfl, b, rfl, hb⟩
  cases b <;> conv => whnf
  · refine CallS.of (by kernel_rfl) (awake10 _) rfl ?_
    rintro _ _ ⟨rfl, rfl⟩
    conv => whnf
  have hF := hb rfl
  clear hb
  iterate 1 (refine Gets.of _ rfl ?_; conv => whnf)
  refine CallS.of (by kernel_rfl) (few12c w w1 w2 _ 7 rfl rfl rfl rfl rfl) rfl ?_
  rintro _ _ ⟨rfl, b, rfl, hb⟩
  cases b <;> conv => whnf
  · refine CallS.of (by kernel_rfl) (awake10 _) rfl ?_
    rintro _ _ ⟨rfl, rfl⟩
    conv => whnf
  have hW := hb rfl
  clear hb
  iterate 2 (refine Gets.of _ rfl ?_; conv => whnf)
  refine CallS.of (by kernel_rfl) (read4 (walk13 a hF w hW) (by rintro v ⟨_, _, _, rfl, _⟩; rfl) _ rfl rfl rfl rfl rfl rfl) rfl ?_
  rintro _ _ ⟨rfl, inf, dead, e, rfl, h1⟩
  conv => whnf
  iterate 2 (refine Gets.of _ rfl ?_; conv => whnf)
  refine CallS.of (by kernel_rfl) (read4 (rwalk14 a hF w hW) (by rintro v ⟨_, _, _, rfl, _⟩; rfl) _ rfl rfl rfl rfl rfl rfl) rfl ?_
  rintro _ _ ⟨rfl, inf', dead', e', rfl, h2⟩
  obtain ⟨rfl, rfl, rfl⟩ := a.walk_same hF w h1 h2
  clear h1 h2
  conv => whnf
  refine Fork.mk (fun _ => ?_) (fun h => by simp at h)
  conv => whnf
  refine Fork.mk (fun _ => ?_) (fun h => by simp at h)
  conv => whnf
  refine Fork.mk (fun _ => ?_) (fun h => by simp at h)
  conv => whnf
  refine CallS.of (by kernel_rfl) (awake10 _) rfl ?_
  rintro _ _ ⟨rfl, rfl⟩
  conv => whnf
  rfl
/-! ### Arguments -/
theorem shape_int {H : AHeap} {n : Nat} {avs : List AVal} (h : Shape Try.prog H n 3 avs) : ∃ m, avs = [.int .i64 m] ∧ fits64 m := by
  cases n with
  | zero => exact h.elim
  | succ n =>
    unfold Shape at h
    rw [Try.underlying3] at h
    obtain ⟨m, rfl, hm⟩ := h
    exact ⟨m, rfl, wf_i64 hm⟩
theorem shape_ints {H : AHeap} {n : Nat} {avs : List AVal} (h : Shape Try.prog H n 29 avs) : ∃ i l, avs = [.view i 0 l.length] ∧ i < H.n ∧ H.f i = .ro 1 (ints l) ∧ (∀ x ∈ l, fits64 x) ∧ l.length ≤ 2 ^ 60 := by
  cases n with
  | zero => exact h.elim
  | succ n =>
    unfold Shape at h
    rw [Try.underlying29] at h
    obtain ⟨i, len, cells, rfl, h1, h2, h3, ⟨_, h4⟩, h5⟩ := h
    have hc : Try.prog.cellsOf 3 = 1 := by kernel_rfl
    have hb : Try.prog.bytesOf 3 = 8 := by kernel_rfl
    obtain ⟨l, rfl, rfl, hx⟩ := Shape.ints (by exact Try.underlying3) hc h3 h5
    rw [hc] at h2
    rw [hb] at h4
    have h4 : l.length * 8 ≤ 0x7ffffffff000 := h4
    exact ⟨i, l, rfl, h1, h2, hx, by omega⟩
theorem flat_mem {es : List Edg} {e : Edg} (he : e ∈ es) {x : Int} (hx : x ∈ e.l) : x ∈ flat es := List.mem_flatMap.2 ⟨e, he, hx⟩
theorem shape_edges {H : AHeap} {n : Nat} {avs : List AVal} (h : Shape Try.prog H n 30 avs) : ∃ i es, avs = [.view i 0 es.length] ∧ i < H.n ∧ H.f i = .ro 5 (ints (flat es)) ∧ ∀ e ∈ es, ∀ x ∈ e.l, fits64 x := by
  cases n with
  | zero => exact h.elim
  | succ n =>
    unfold Shape at h
    rw [Try.underlying30] at h
    obtain ⟨i, len, cells, rfl, h1, h2, h3, _, h5⟩ := h
    have hc : Try.prog.cellsOf 54 = 5 := by kernel_rfl
    obtain ⟨l, rfl, hl, hx⟩ := Shape.flats (by kernel_rfl) h3 h5
    rw [hc] at hl h2
    obtain ⟨es, rfl, rfl⟩ := flat_of len l hl
    exact ⟨i, es, rfl, h1, h2, fun e he x hxe => hx x (flat_mem he hxe)⟩
theorem shape_aut {H : AHeap} {n : Nat} {avs : List AVal} (h : Shape Try.prog H n 32 avs) : ∃ (a : Au) (i j : Nat), avs = [.int .i64 a.props, .int .i64 a.states, .view i 0 a.start.length, .int .i64 a.kind, .int .i64 a.marks, .view j 0 a.es.length] ∧ i < H.n ∧ j < H.n ∧ H.f i = .ro 1 (ints a.start) ∧ H.f j = .ro 5 (ints (flat a.es)) ∧ a.Fits0 := by
  cases n with
  | zero => exact h.elim
  | succ n =>
    unfold Shape at h
    rw [Try.underlying32] at h
    obtain ⟨hl, hf⟩ := h
    have hc : Try.prog.cellsOf 32 = 6 := by kernel_rfl
    have c3 : Try.prog.cellsOf 3 = 1 := by kernel_rfl
    have c29 : Try.prog.cellsOf 29 = 1 := by kernel_rfl
    have c30 : Try.prog.cellsOf 30 = 1 := by kernel_rfl
    rw [hc] at hl
    rcases avs with _ | ⟨x0, _ | ⟨x1, _ | ⟨x2, _ | ⟨x3, _ | ⟨x4, _ | ⟨x5, _ | ⟨x6, avs⟩⟩⟩⟩⟩⟩⟩
    case cons.cons.cons.cons.cons.cons.nil =>
      have g0 : Shape Try.prog H n 3 ((([x0, x1, x2, x3, x4, x5] : List AVal).drop 0).take (Try.prog.cellsOf 3)) := hf 0 _ rfl
      have g1 : Shape Try.prog H n 3 ((([x0, x1, x2, x3, x4, x5] : List AVal).drop 1).take (Try.prog.cellsOf 3)) := hf 1 _ rfl
      have g2 : Shape Try.prog H n 29 ((([x0, x1, x2, x3, x4, x5] : List AVal).drop 2).take (Try.prog.cellsOf 29)) := hf 2 _ rfl
      have g3 : Shape Try.prog H n 3 ((([x0, x1, x2, x3, x4, x5] : List AVal).drop 3).take (Try.prog.cellsOf 3)) := hf 3 _ rfl
      have g4 : Shape Try.prog H n 3 ((([x0, x1, x2, x3, x4, x5] : List AVal).drop 4).take (Try.prog.cellsOf 3)) := hf 4 _ rfl
      have g5 : Shape Try.prog H n 30 ((([x0, x1, x2, x3, x4, x5] : List AVal).drop 5).take (Try.prog.cellsOf 30)) := hf 5 _ rfl
      rw [c3] at g0 g1 g3 g4
      rw [c29] at g2
      rw [c30] at g5
      obtain ⟨props, e0, _⟩ := shape_int g0
      obtain ⟨states, e1, _⟩ := shape_int g1
      obtain ⟨i, start, e2, a1, a2, a3, _⟩ := shape_ints g2
      obtain ⟨kind, e3, _⟩ := shape_int g3
      obtain ⟨marks, e4, _⟩ := shape_int g4
      obtain ⟨j, es, e5, b1, b2, b3⟩ := shape_edges g5
      cases e0; cases e1; cases e2; cases e3; cases e4; cases e5
      exact ⟨⟨props, states, kind, marks, start, es⟩, i, j, rfl, a1, b1, a2, b2, ⟨a3, b3⟩⟩
    all_goals (simp only [List.length_cons, List.length_nil] at hl; omega)
theorem shape_word {H : AHeap} {n : Nat} {avs : List AVal} (h : Shape Try.prog H n 34 avs) : ∃ (w : Wd) (i j : Nat), avs = [.view i 0 w.stem.length, .view j 0 w.loop.length] ∧ i < H.n ∧ j < H.n ∧ H.f i = .ro 1 (ints w.stem) ∧ H.f j = .ro 1 (ints w.loop) ∧ w.stem.length ≤ 2 ^ 60 ∧ w.loop.length ≤ 2 ^ 60 := by
  cases n with
  | zero => exact h.elim
  | succ n =>
    unfold Shape at h
    rw [Try.underlying34] at h
    obtain ⟨hl, hf⟩ := h
    have hc : Try.prog.cellsOf 34 = 2 := by kernel_rfl
    have c29 : Try.prog.cellsOf 29 = 1 := by kernel_rfl
    rw [hc] at hl
    rcases avs with _ | ⟨x0, _ | ⟨x1, _ | ⟨x2, avs⟩⟩⟩
    case cons.cons.nil =>
      have g0 : Shape Try.prog H n 29 ((([x0, x1] : List AVal).drop 0).take (Try.prog.cellsOf 29)) := hf 0 _ rfl
      have g1 : Shape Try.prog H n 29 ((([x0, x1] : List AVal).drop 1).take (Try.prog.cellsOf 29)) := hf 1 _ rfl
      rw [c29] at g0 g1
      obtain ⟨i, stem, e0, a1, a2, _, a3⟩ := shape_ints g0
      obtain ⟨j, loop, e1, b1, b2, _, b3⟩ := shape_ints g1
      cases e0; cases e1
      exact ⟨⟨stem, loop⟩, i, j, rfl, a1, b1, a2, b2, a3, b3⟩
    all_goals (simp only [List.length_cons, List.length_nil] at hl; omega)
theorem law4 : ∀ (H : AHeap) (avs0 avs1 : List AVal), NoRw H → Shape Try.prog H 4 32 avs0 → Shape Try.prog H 4 34 avs1 → CallW Try.prog 4 [argOf Try.prog 32 avs0, argOf Try.prog 34 avs1] H fun v _ => v = .bool true := by
  intro H avs0 avs1 hN h0 h1
  obtain ⟨a, i0, i1, rfl, a1, a2, a3, a4, hf⟩ := shape_aut h0
  obtain ⟨w, i2, i3, rfl, b1, b2, b3, b4, w1, w2⟩ := shape_word h1
  have e0 : ∀ l, argOf Try.prog 32 l = .agg l := fun l => by unfold argOf; rw [Try.underlying32]
  have e1 : ∀ l, argOf Try.prog 34 l = .agg l := fun l => by unfold argOf; rw [Try.underlying34]
  rw [e0, e1]
  have := CallW.reads (H := H) (law4c a hf w w1 w2) (by rintro v rfl; rfl) (renL [i0, i1, i2, i3] H.n) (fun i hi => by
    have hi : i < 4 := hi
    rcases i with _ | _ | _ | _ | i
    · exact ⟨a1, fun h => h, by show BSub _ (.ro 1 (ints a.start)) (H.f i0); rw [a3]; exact .roI⟩
    · exact ⟨a2, fun h => h, by show BSub _ (.ro 5 (ints (flat a.es))) (H.f i1); rw [a4]; exact .roI⟩
    · exact ⟨b1, fun h => h, by show BSub _ (.ro 1 (ints w.stem)) (H.f i2); rw [b3]; exact .roI⟩
    · exact ⟨b2, fun h => h, by show BSub _ (.ro 1 (ints w.loop)) (H.f i3); rw [b4]; exact .roI⟩
    · omega) (fun i hi => by
    have hi : 4 ≤ i := hi
    show H.n ≤ (([i0, i1, i2, i3] : List Nat)[i]?).getD (H.n + i)
    rw [List.getElem?_eq_none (by show 4 ≤ i; exact hi)]
    show H.n ≤ H.n + i
    omega)
  exact this.mono fun v H' h => h.2
end Go.Proofs.Ytdahmcgncpoliaa
