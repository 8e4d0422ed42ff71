/- Walk, of the reference. -/
import Derived.Test.YtdahmcgncpoliaaWrd
set_option linter.unusedVariables false
set_option linter.unusedSimpArgs false
set_option maxRecDepth 100000
namespace Go.Proofs.Ytdahmcgncpoliaa
open Go Go.Vh Go.Proofs
/-- A function of the word alone, wherever the word lies. -/
theorem readW {f : FuncId} {args args' : List AVal} {w : Wd} {K : AVal → Prop} (h : CallW Try.prog f args w.heap fun v _ => K v) (hk : ∀ v, K v → noRef v = true) (H : AHeap) (hn : Nat.ble 4 H.n = true) (h2 : H.f 2 = .ro 1 (ints w.stem)) (h3 : H.f 3 = .ro 1 (ints w.loop)) (ha : rens (renL [2, 3] H.n) args = args') :
    CallW Try.prog f args' H fun v H' => H' = H ∧ K v := by
  have hn := Nat.le_of_ble_eq_true hn
  have := CallW.reads (H := H) h hk (renL [2, 3] H.n) (fun i hi => by
    have hi : i < 2 := hi
    rcases i with _ | _ | i
    · exact ⟨by show 2 < H.n; omega, fun h => h, by show BSub _ (.ro 1 (ints w.stem)) (H.f 2); rw [h2]; exact .roI⟩
    · exact ⟨by show 3 < H.n; omega, fun h => h, by show BSub _ (.ro 1 (ints w.loop)) (H.f 3); rw [h3]; exact .roI⟩
    · omega) (fun i hi => by
    have hi : 2 ≤ i := hi
    show H.n ≤ (([2, 3] : List Nat)[i]?).getD (H.n + i)
    rw [List.getElem?_eq_none (by show 2 ≤ i; exact hi)]
    show H.n ≤ H.n + i
    omega)
  rwa [ha] at this
theorem wvalid33c (w : Wd) (hw : w.Fits) (n : Int) (H : AHeap) (hn : Nat.ble 4 H.n = true) (h2 : H.f 2 = .ro 1 (ints w.stem)) (h3 : H.f 3 = .ro 1 (ints w.loop)) : CallW Try.prog 33 [w.avAt 2 3, .int .i64 n] H fun v H' => H' = H ∧ ∃ b, v = .bool b ∧ (b = true ↔ w.Ok n) :=
  readW (wvalid33 w hw n) (by rintro v ⟨b, rfl, _⟩; rfl) H hn h2 h3 rfl
theorem wvalid41c (w : Wd) (hw : w.Fits) (n : Int) (H : AHeap) (hn : Nat.ble 4 H.n = true) (h2 : H.f 2 = .ro 1 (ints w.stem)) (h3 : H.f 3 = .ro 1 (ints w.loop)) : CallW Try.prog 41 [w.avAt 2 3, .int .i64 n] H fun v H' => H' = H ∧ ∃ b, v = .bool b ∧ (b = true ↔ w.Ok n) :=
  readW (wvalid41 w hw n) (by rintro v ⟨b, rfl, _⟩; rfl) H hn h2 h3 rfl
theorem letter44c (w : Wd) (hw : w.Fits) (hne : w.loop ≠ []) (k : Nat) (hk : k ≤ 4294967296) (H : AHeap) (hn : Nat.ble 4 H.n = true) (h2 : H.f 2 = .ro 1 (ints w.stem)) (h3 : H.f 3 = .ro 1 (ints w.loop)) : CallW Try.prog 44 [w.avAt 2 3, .int .i64 k] H fun v H' => H' = H ∧ v = .int .i64 (w.at k) :=
  readW (letter44 w hw hne k hk) (by rintro v rfl; rfl) H hn h2 h3 rfl
theorem out32c (a : Au) (hf : a.Fits) (s l : Int) (hne : a.es.length ≤ 40000) (H : AHeap) (hn : Nat.ble 2 H.n = true) (h0 : H.f 0 = .ro 1 (ints a.start)) (h1 : H.f 1 = .ro 5 (ints (flat a.es))) :
    CallW Try.prog 32 [a.av, .int .i64 s, .int .i64 l] H fun v H' => (a.outs s l a.es.length = [] ∧ v = .nilSlice ∧ H' = H) ∨ (a.outs s l a.es.length ≠ [] ∧ v = .slice H.n 0 (a.outs s l a.es.length).length ∧ H' = H.alloc (.cells 1 (ints (a.outs s l a.es.length)))) := by
  refine (frame2 (a := a) (K := fun v bs => (a.outs s l a.es.length = [] ∧ v = .nilSlice ∧ bs = []) ∨ (a.outs s l a.es.length ≠ [] ∧ v = .slice 2 0 (a.outs s l a.es.length).length ∧ bs = [.cells 1 (ints (a.outs s l a.es.length))])) ((out32 a hf s l hne).mono ?_) H hn h0 h1 rfl).mono ?_
  · rintro v G (⟨h2, rfl, rfl⟩ | ⟨h2, rfl, rfl⟩)
    · exact ⟨[], rfl, by simp, .inl ⟨h2, rfl, rfl⟩⟩
    · exact ⟨[_], rfl, by simp [ABlk.fresh], .inr ⟨h2, rfl, rfl⟩⟩
  · rintro v G ⟨v', bs, (⟨h2, rfl, rfl⟩ | ⟨h2, rfl, rfl⟩), rfl, rfl⟩
    · exact .inl ⟨h2, rfl, rfl⟩
    · refine .inr ⟨h2, rfl, ?_⟩
      show H.alloc (renB _ (.cells 1 (ints _))) = _
      rw [renB, rens_ints]
def Au.heapW (a : Au) (w : Wd) : AHeap := (a.heap.alloc (.ro 1 (ints w.stem))).alloc (.ro 1 (ints w.loop))
def Wd.box (w : Wd) : ABlk := .cells 1 [.view 2 0 w.stem.length, .view 3 0 w.loop.length]
theorem Au.outs_mem (a : Au) (s l : Int) : ∀ j, ∀ i ∈ a.outs s l j, ∃ k : Nat, i = k ∧ k < j ∧ k < a.es.length
  | 0, i, h => by simp [Au.outs] at h
  | j + 1, i, h => by
    have ih := a.outs_mem s l j
    simp only [Au.outs] at h
    split at h
    · rename_i e he
      split at h
      · rcases List.mem_append.1 h with h | h
        · obtain ⟨k, rfl, h1, h2⟩ := ih i h; exact ⟨k, rfl, by omega, h2⟩
        · obtain rfl := List.mem_singleton.1 h
          exact ⟨j, rfl, by omega, (List.getElem?_eq_some_iff.1 he).1⟩
      · obtain ⟨k, rfl, h1, h2⟩ := ih i h; exact ⟨k, rfl, by omega, h2⟩
    · obtain ⟨k, rfl, h1, h2⟩ := ih i h; exact ⟨k, rfl, by omega, h2⟩
/-- The edge that is taken. -/
def Au.hit (a : Au) (s l : Int) : Option Edg := match a.outs s l a.es.length with
  | [] => none
  | i :: _ => a.es[i.toNat]?
def Au.rRun (a : Au) (w : Wd) (first : Nat) : Nat → Option (Int × Int)
  | 0 => some (a.start.getD 0 0, 0)
  | k + 1 => match a.rRun w first k with
    | none => none
    | some (s, inf) => match a.hit s (w.at k) with
      | none => none
      | some e => some (e.to, if first ≤ k then bitsA .or .i64 inf e.marks else inf)
def Au.first (a : Au) (w : Wd) : Nat := w.stem.length + a.states.toNat * w.loop.length
def Au.total (a : Au) (w : Wd) : Nat := a.first w + a.states.toNat * w.loop.length
def Au.One (a : Au) : Prop := a.start.length = 1 ∧ a.Apar a.es.length
def Au.RefW (a : Au) (w : Wd) (inf : Int) (dead : Bool) (e : Int) : Prop :=
  (¬ a.Ok ∧ inf = 0 ∧ dead = false ∧ e = 1) ∨ (a.Ok ∧ ¬ a.One ∧ inf = 0 ∧ dead = false ∧ e = 7) ∨ (a.Ok ∧ a.One ∧ ¬ w.Ok a.props ∧ inf = 0 ∧ dead = false ∧ e = 2) ∨
    (a.Ok ∧ a.One ∧ w.Ok a.props ∧ ((a.rRun w (a.first w) (a.total w) = none ∧ inf = 0 ∧ dead = true ∧ e = 0) ∨ (∃ s, a.rRun w (a.first w) (a.total w) = some (s, inf) ∧ dead = false ∧ e = 0)))
theorem Au.rRun_none (a : Au) (w : Wd) (first : Nat) {k : Nat} (h : a.rRun w first k = none) : ∀ d, a.rRun w first (k + d) = none
  | 0 => h
  | d + 1 => by rw [← Nat.add_assoc, Au.rRun, a.rRun_none w first h d]
theorem rwalk14 (a : Au) (hf : a.Fits) (w : Wd) (hw : w.Fits) : CallW Try.prog 14 [a.av, w.avAt 2 3] (a.heapW w) fun v _ => ∃ inf dead e, v = .tuple [.int .i64 inf, .bool dead, .int .i64 e] ∧ a.RefW w inf dead e := by
  refine CallW.sym Try.func14 rfl (by kernel_rfl) ?_
  conv => whnf
  iterate 1 (refine Gets.of _ rfl ?_; conv => whnf)
  refine CallS.of (by kernel_rfl) (valid24c a hf _ rfl rfl rfl) rfl ?_
  rintro _ _ ⟨rfl, b, rfl, hb⟩
  cases b <;> conv => whnf
  · exact ⟨_, _, _, rfl, .inl ⟨fun h => absurd (hb.2 h) (by simp), rfl, rfl, rfl⟩⟩
  have ho := hb.1 rfl
  clear hb
  refine Gets.of _ rfl ?_
  conv => whnf
  refine CallS.of (by kernel_rfl) (one29c a hf ho _ rfl rfl rfl) rfl ?_
  rintro _ _ ⟨rfl, b, rfl, hb⟩
  cases b <;> conv => whnf
  · exact ⟨_, _, _, rfl, .inr (.inl ⟨ho, fun h => absurd (hb.2 h) (by simp), rfl, rfl, rfl⟩)⟩
  have h1 : a.One := hb.1 rfl
  clear hb
  iterate 2 (refine Gets.of _ rfl ?_; conv => whnf)
  refine CallS.of (by kernel_rfl) (wvalid33c w hw a.props _ rfl rfl rfl) rfl ?_
  rintro _ _ ⟨rfl, b, rfl, hb⟩
  cases b <;> conv => whnf
  · exact ⟨_, _, _, rfl, .inr (.inr (.inl ⟨ho, h1, fun h => absurd (hb.2 h) (by simp), rfl, rfl, rfl⟩))⟩
  have hwo : w.Ok a.props := hb.1 rfl
  clear hb
  iterate 1 (refine Gets.of _ rfl ?_; conv => whnf)
  have hs1 := h1.1
  refine Gets.ixV (es := 1) rfl (by kernel_rfl) (by decide) (by omega) ?_
  conv => whnf
  refine Gets.loadN (j := 0) (k := .i64) (l := a.start) (x := a.start.getD 0 0) (ti := ⟨1, 8, false, [.int .i64 0]⟩) (by kernel_rfl) rfl rfl (by simp) (getD_some (by omega)) ?_
  conv => whnf
  iterate 5 (refine Gets.of _ rfl ?_; conv => whnf)
  have hst0 := ho.1.2.2.1
  have hst1 := ho.1.2.2.2.1
  have hne := ho.1.2.2.2.2.2.2.2
  have hwl := hwo.2.2.2.1
  have hwne := hwo.2.2.1
  have hSL : a.states.toNat * w.loop.length ≤ 3000 * 200 := Nat.mul_le_mul (by omega) (by omega)
  have hmul : IntKind.wrap .i64 (a.states * w.loop.length) = ((a.states.toNat * w.loop.length : Nat) : Int) := by
    have e : a.states * (w.loop.length : Int) = ((a.states.toNat * w.loop.length : Nat) : Int) := by
      rw [Int.natCast_mul, Int.toNat_of_nonneg hst0]
    rw [e, wrap_i64 (by omega) (by omega)]
  have hfirst : IntKind.wrap .i64 ((w.stem.length : Int) + IntKind.wrap .i64 (a.states * w.loop.length)) = (a.first w : Int) := by
    rw [hmul, wrap_i64 (by omega) (by omega)]; unfold Au.first; omega
  have htotal : IntKind.wrap .i64 ((a.first w : Int) + IntKind.wrap .i64 (a.states * w.loop.length)) = (a.total w : Int) := by
    rw [hmul, wrap_i64 (by unfold Au.first; omega) (by unfold Au.first; omega)]; unfold Au.total; omega
  have htot : a.total w ≤ 2000000 := by unfold Au.total Au.first; omega
  refine CodeS.loopG (σ := Nat × Int × Int) (fun x => [(2, .ptr 4 0), (3, .ptr 5 0), (4, .int .i64 x.2.2), (5, .bool false), (6, .int .i64 0), (7, .int .i64 x.2.1), (8, .int .i64 w.loop.length), (9, .int .i64 (a.first w : Nat)), (10, .int .i64 x.1)]) (fun x => ((a.heapW w).alloc a.box).alloc w.box) (fun x => x.1 ≤ a.total w ∧ a.rRun w (a.first w) x.1 = some (x.2.1, x.2.2)) (fun x => a.total w - x.1) (0, a.start.getD 0 0, 0) (renL [0, 1, 2, 3, 4, 5] 6) (by kernel_rfl)
    ⟨Nat.zero_le _, rfl⟩ ⟨rfl, rfl, rfl, rfl, rfl, rfl, rfl, congrArg (AVal.int .i64) hfirst, rfl, trivial⟩ ?_ ?_
  · exact Emb.lits [0, 1, 2, 3, 4, 5] rfl rfl rfl rfl (.cons ⟨rfl, rfl, fun h => h⟩ (.cons ⟨rfl, rfl, fun h => h⟩ (.cons ⟨rfl, rfl, fun h => h⟩ (.cons ⟨rfl, rfl, fun h => h⟩ .nil)))) (.cons ⟨rfl, .roI⟩ (.cons ⟨rfl, .roI⟩ (.cons ⟨rfl, .roI⟩ (.cons ⟨rfl, .roI⟩ (.cons ⟨rfl, .inl rfl⟩ (.cons ⟨rfl, .inl rfl⟩ .nil))))))
  rintro ⟨k, s, inf⟩ ⟨g1, g2⟩
  dsimp only at g1 g2
  conv => whnf
  iterate 1 (refine Gets.of _ rfl ?_; conv => whnf)
  rw [htotal]
  refine Fork.mk (fun hc => ?_) (fun hc => ?_)
  all_goals conv => whnf
  · have hc : k < a.total w := by simp at hc; omega
    refine CodeS.drawI [4, 5] [(0, true, false), (1, true, false), (2, true, false), (3, true, false), (4, false, true), (5, false, true), (6, true, false)] mixed (by kernel_rfl) (.cons ⟨rfl, trivial⟩ (.cons ⟨rfl, trivial⟩ .nil)) ?_
    conv => whnf
    iterate 2 (refine Gets.of _ rfl ?_; conv => whnf)
    refine CallPS.of (by kernel_rfl) (letter44c w hw hwne k (by omega) _ rfl rfl rfl) rfl ?_
    rintro _ _ ⟨rfl, rfl⟩
    conv => whnf
    refine ⟨fun _ i hi => rfl, ?_⟩
    conv => whnf
    refine CallPS.of (by kernel_rfl) (out32c a hf s (w.at k) hne _ rfl rfl rfl) rfl ?_
    have hmem := a.outs_mem s (w.at k) a.es.length
    have hhit : a.hit s (w.at k) = match a.outs s (w.at k) a.es.length with
      | [] => none
      | i :: _ => a.es[i.toNat]? := rfl
    generalize a.outs s (w.at k) a.es.length = os at hmem hhit
    rintro v H' (⟨rfl, rfl, rfl⟩ | ⟨hos, rfl, rfl⟩)
    · conv => whnf
      refine ⟨fun _ i hi => rfl, ?_⟩
      conv => whnf
      iterate 1 (refine Gets.of _ rfl ?_; conv => whnf)
      refine Fork.mk (fun h => ?_) (fun h => absurd h (by decide))
      conv => whnf
      refine ⟨_, _, _, rfl, .inr (.inr (.inr ⟨ho, h1, hwo, .inl ⟨?_, rfl, rfl, rfl⟩⟩))⟩
      have hnone : a.rRun w (a.first w) (k + 1) = none := by simp only [Au.rRun, g2, hhit]
      have := a.rRun_none w (a.first w) hnone (a.total w - (k + 1))
      rwa [show k + 1 + (a.total w - (k + 1)) = a.total w by omega] at this
    · obtain ⟨i, os, rfl⟩ : ∃ i l, os = i :: l := by cases os with | nil => exact absurd rfl hos | cons i l => exact ⟨i, l, rfl⟩
      obtain ⟨i, rfl, hi1, hi2⟩ := hmem i (by simp)
      have hhit : a.hit s (w.at k) = some a.es[i] := by rw [hhit]; exact List.getElem?_eq_getElem hi2
      generalize hee : a.es[i] = e at hhit
      have hel : a.es[i].l[4]? = some e.marks := by rw [hee]; rfl
      have hel1 : a.es[i].l[1]? = some e.to := by rw [hee]; rfl
      have hlive : (ABlk.ro 5 (ints (flat a.es))).live := by
        intro h
        have := congrArg List.length h
        rw [ints_length, flat_length] at this
        simp only [List.length_nil] at this
        omega
      conv => whnf
      refine ⟨fun _ i hi => rfl, ?_⟩
      conv => whnf
      iterate 1 (refine Gets.of _ rfl ?_; conv => whnf)
      refine Fork.mk (fun h => absurd h (by simp; omega)) (fun h => ?_)
      conv => whnf
      have hrun : a.rRun w (a.first w) (k + 1) = some (e.to, if a.first w ≤ k then bitsA .or .i64 inf e.marks else inf) := by simp only [Au.rRun, g2, hhit]
      have hwk : IntKind.wrap .i64 ((k : Int) + 1) = ((k + 1 : Nat) : Int) := by rw [wrap_i64 (by omega) (by omega)]; rfl
      have hE : Emb 4 (renL [0, 1, 2, 3, 4, 5] 7) (((a.heapW w).alloc a.box).alloc w.box) ((((a.heapW w).alloc a.box).alloc w.box).alloc (.cells 1 (ints ((i : Int) :: os)))) :=
        Emb.lits [0, 1, 2, 3, 4, 5] rfl rfl rfl rfl (.cons ⟨rfl, rfl, fun h => h⟩ (.cons ⟨rfl, rfl, fun h => h⟩ (.cons ⟨rfl, rfl, fun h => h⟩ (.cons ⟨rfl, rfl, fun h => h⟩ .nil)))) (.cons ⟨rfl, .roI⟩ (.cons ⟨rfl, .roI⟩ (.cons ⟨rfl, .roI⟩ (.cons ⟨rfl, .roI⟩ (.cons ⟨rfl, .inl rfl⟩ (.cons ⟨rfl, .inl rfl⟩ .nil))))))
      refine Fork.mk (fun h => ?_) (fun h => ?_)
      all_goals conv => whnf
      · have hle : a.first w ≤ k := by simp at h; omega
        rw [if_pos hle] at hrun
        refine CodeS.drawI [1, 4, 6] (takes 11) mixed (by kernel_rfl) (.cons ⟨rfl, hlive⟩ (.cons ⟨rfl, trivial⟩ (.cons ⟨rfl, trivial⟩ .nil))) ?_
        conv => whnf
        iterate 1 (refine Gets.of _ rfl ?_; conv => whnf)
        refine Gets.ixS (es := 1) rfl (by kernel_rfl) (by decide) (by simp) ?_
        conv => whnf
        iterate 1 (refine Gets.of _ rfl ?_; conv => whnf)
        refine Gets.ixV (es := 5) rfl (by kernel_rfl) (by omega) (by omega) ?_
        conv => whnf
        refine Gets.loadF (j := i) (f := 4) (es := a.es) (ti := ⟨1, 8, false, [.int .i64 0]⟩) (by kernel_rfl) rfl rfl (by show 0 + (i : Int).toNat * 5 + 4 = _; rw [Int.toNat_natCast]; omega) hi2 hel ?_
        conv => whnf
        refine CodeS.drawI [1, 4, 6] (takes 9) mixed (by kernel_rfl) (.cons ⟨rfl, hlive⟩ (.cons ⟨rfl, trivial⟩ (.cons ⟨rfl, trivial⟩ .nil))) ?_
        conv => whnf
        iterate 1 (refine Gets.of _ rfl ?_; conv => whnf)
        refine Gets.ixS (es := 1) rfl (by kernel_rfl) (by decide) (by simp) ?_
        conv => whnf
        iterate 1 (refine Gets.of _ rfl ?_; conv => whnf)
        refine Gets.ixV (es := 5) rfl (by kernel_rfl) (by omega) (by omega) ?_
        conv => whnf
        refine Gets.loadF (j := i) (f := 1) (es := a.es) (ti := ⟨1, 8, false, [.int .i64 0]⟩) (by kernel_rfl) rfl rfl (by show 0 + (i : Int).toNat * 5 + 1 = _; rw [Int.toNat_natCast]; omega) hi2 hel1 ?_
        conv => whnf
        exact ⟨(k + 1, e.to, _), _, ⟨by show k + 1 ≤ _; omega, hrun⟩, by show _ - (k + 1) < _ - k; omega, ⟨rfl, rfl, rfl, rfl, rfl, rfl, rfl, rfl, congrArg (AVal.int .i64) hwk, trivial⟩, hE⟩
      · have hle : ¬ a.first w ≤ k := by simp at h; omega
        rw [if_neg hle] at hrun
        refine CodeS.drawI [1, 4, 6] (takes 9) mixed (by kernel_rfl) (.cons ⟨rfl, hlive⟩ (.cons ⟨rfl, trivial⟩ (.cons ⟨rfl, trivial⟩ .nil))) ?_
        conv => whnf
        iterate 1 (refine Gets.of _ rfl ?_; conv => whnf)
        refine Gets.ixS (es := 1) rfl (by kernel_rfl) (by decide) (by simp) ?_
        conv => whnf
        iterate 1 (refine Gets.of _ rfl ?_; conv => whnf)
        refine Gets.ixV (es := 5) rfl (by kernel_rfl) (by omega) (by omega) ?_
        conv => whnf
        refine Gets.loadF (j := i) (f := 1) (es := a.es) (ti := ⟨1, 8, false, [.int .i64 0]⟩) (by kernel_rfl) rfl rfl (by show 0 + (i : Int).toNat * 5 + 1 = _; rw [Int.toNat_natCast]; omega) hi2 hel1 ?_
        conv => whnf
        exact ⟨(k + 1, e.to, _), _, ⟨by show k + 1 ≤ _; omega, hrun⟩, by show _ - (k + 1) < _ - k; omega, ⟨rfl, rfl, rfl, rfl, rfl, rfl, rfl, rfl, congrArg (AVal.int .i64) hwk, trivial⟩, hE⟩
  · have hk : k = a.total w := by simp at hc; omega
    subst hk
    exact ⟨_, _, _, rfl, .inr (.inr (.inr ⟨ho, h1, hwo, .inr ⟨s, g2, rfl, rfl⟩⟩))⟩
end Go.Proofs.Ytdahmcgncpoliaa
