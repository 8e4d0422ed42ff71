/- The law AutFull. -/
import Derived.Test.YtdahmcgncpoliaaPlo
import Derived.Test.YtdahmcgncpoliaaAwh
import Derived.Test.YtdahmcgncpoliaaWlw
set_option linter.unusedVariables false
set_option linter.unusedSimpArgs false
set_option maxRecDepth 100000
namespace Go.Vh
variable {P : Program}
/-- A heap with a block of which nothing is known: a slice that may be nil can be told as one that lies there. -/
def ghostH : AHeap := emptyH.alloc (.ro 5 [])
theorem rel_ghost (w : World) : Rel (fun i => if i = 0 then some ⟨0, 0, 5, 0⟩ else none) ghostH w := by
  refine ⟨fun i hi => ?_, fun i hi => ?_, fun i b h => ?_, fun i j b c h1 h2 hne hrw _ => ?_, fun i b h hrw => ?_⟩
  · have hi : 1 ≤ i := hi
    exact if_neg (by omega)
  · have hi : i < 1 := hi
    exact ⟨_, if_pos (by omega)⟩
  · by_cases h0 : i = 0
    · subst h0
      simp only [if_true, Option.some.injEq] at h
      subst h
      exact ⟨rfl, fun j v hv => by simp at hv⟩
    · rw [if_neg h0] at h; cases h
  · by_cases h0 : i = 0
    · subst h0; exact hrw.elim
    · rw [if_neg h0] at h1; cases h1
  · by_cases h0 : i = 0
    · subst h0; exact hrw.elim
    · rw [if_neg h0] at h; cases h
theorem CallW.ghost {f : FuncId} {args : List AVal} {K : AVal → Prop} (h : CallW P f args ghostH fun v _ => K v) (ha : noRefs args = true) (hk : ∀ v, K v → noRef v = true) (H : AHeap) : CallW P f args H fun v H' => H' = H ∧ K v := by
  intro φ w cargs hR hargs
  refine (h _ w cargs (rel_ghost w) (VRels_noRef _ _ ha hargs)).mono ?_
  rintro e w' ⟨cv, v, φ', H', rfl, h1, h2, h3, h4⟩
  have hno : ∀ k, ¬ Own (fun i => if i = 0 then some ⟨0, 0, 5, 0⟩ else none) ghostH k := by
    rintro k ⟨i, b, hi, hrw, _⟩
    by_cases h0 : i = 0
    · subst h0; exact hrw.elim
    · have hi : (if i = 0 then some (⟨0, 0, 5, 0⟩ : BI) else none) = some b := hi
      rw [if_neg h0] at hi; cases hi
  have hkeep : ∀ k, k < w.heap.size → w'.heap[k]? = w.heap[k]? := fun k hk => h3.keep k hk (hno k)
  have hR' : Rel φ H w' := ⟨hR.dom, hR.has, fun i b hb => (hR.blk i b hb).kept (PLe.refl φ) fun hl => hkeep _ (hR.lt_live hb hl), hR.inj, fun i b hb hl => Nat.lt_of_lt_of_le (hR.lt i b hb hl) h3.size⟩
  exact ⟨cv, v, φ, H, rfl, VRel_noRef v cv (hk v h4) h1, hR', ⟨PLe.refl φ, h3.size, fun k hk _ => hkeep k hk, fun k hk => .inl hk, h3.os, h3.tape, h3.output, Nat.le_refl _, fun _ _ _ => Nat.le_refl _, fun i b hb hl _ => ⟨hl, hkeep _ (hR.lt_live hb hl)⟩⟩, rfl, h4⟩
theorem VRel_sv {φ : PMap} {i o n : Nat} {c : Value} (h : VRel φ (.slice i o n) c) : VRel φ (.view i o n) c := by
  obtain ⟨b, cap, ad, h1, h2, h3, h4⟩ := h
  exact ⟨b, h1, .inr ⟨cap, ad, h2, h3, h4⟩⟩
theorem VRel_nv {φ : PMap} {i : Nat} {b : BI} (hb : φ i = some b) {c : Value} (h : VRel φ .nilSlice c) : VRel φ (.view i 0 0) c := ⟨b, hb, .inl ⟨rfl, h⟩⟩
/-- What a result may be said to be. -/
theorem CallW.rviews {f : FuncId} {args : List AVal} {H : AHeap} {K K' : AVal → AHeap → Prop} (h : CallW P f args H K) (hv : ∀ v G, K v G → ∃ v', K' v' G ∧ ∀ (φ : PMap) (w : World) (c : Value), Rel φ G w → VRel φ v c → VRel φ v' c) : CallW P f args H K' := by
  intro φ w cargs hR ha
  refine (h φ w cargs hR ha).mono ?_
  rintro e w' ⟨cv, v, φ', H', rfl, h1, h2, h3, h4⟩
  obtain ⟨v', hk, hvv⟩ := hv v H' h4
  exact ⟨cv, v', φ', H', rfl, hvv φ' w' cv h2 h1, h2, h3, hk⟩
theorem ren_zero (κ : Nat → Nat) (es : Nat) (l : List Int) : renB κ (rowBlk es (some l)) = rowBlk es (some l) := by
  cases l with
  | nil => rfl
  | cons x l => show renB κ (.cells es (ints (x :: l))) = _; rw [renB, rens_ints]; rfl
end Go.Vh
namespace Go.Proofs.Ytdahmcgncpoliaa
open Go Go.Vh Go.Proofs
theorem wide36a (q : Wp) (h0 : 0 ≤ q.props) (h6 : q.props ≤ 6) (s0 : 0 ≤ q.states) (s1 : q.states ≤ 3000) (hg : 0 < q.gap) :
    CallA Try.prog 36 [.int .i64 q.kind, .int .i64 q.marks, .int .i64 q.props, .int .i64 q.states, .int .i64 q.gap] emptyH fun v bs => v = .agg [.int .i64 q.props, .int .i64 q.states, .slice 0 0 1, .int .i64 q.kind, .int .i64 q.marks, rowV 1 5 (flat (q.all q.states.toNat))] ∧ bs = [.cells 1 (ints [0]), rowBlk 5 (some (flat (q.all q.states.toNat)))] := by
  refine (wide36 q h0 h6 s0 s1 hg).mono ?_
  rintro v G ⟨rfl, rfl⟩
  refine ⟨_, rowsAt_allocs _ _ _ _ (fun _ _ => rfl), fun b hb => ?_, rfl, rfl⟩
  rcases List.mem_cons.1 hb with rfl | hb
  · trivial
  · obtain ⟨r, _, rfl⟩ := List.mem_map.1 hb
    cases r <;> trivial
theorem wide36g (q : Wp) (h0 : 0 ≤ q.props) (h6 : q.props ≤ 6) (s0 : 0 ≤ q.states) (s1 : q.states ≤ 3000) (hg : 0 < q.gap) (H : AHeap) :
    CallW Try.prog 36 [.int .i64 q.kind, .int .i64 q.marks, .int .i64 q.props, .int .i64 q.states, .int .i64 q.gap] H fun v G => v = .agg [.int .i64 q.props, .int .i64 q.states, .slice H.n 0 1, .int .i64 q.kind, .int .i64 q.marks, rowV (H.n + 1) 5 (flat (q.all q.states.toNat))] ∧ G = (H.alloc (.cells 1 (ints [0]))).alloc (rowBlk 5 (some (flat (q.all q.states.toNat)))) := by
  refine (CallA.frame (H := H) (wide36a q h0 h6 s0 s1 hg) (fun i => H.n + i) (fun i hi => absurd hi (Nat.not_lt_zero i)) (fun i _ => rfl)).mono ?_
  rintro v G ⟨v', bs, ⟨rfl, rfl⟩, rfl, rfl⟩
  refine ⟨?_, ?_⟩
  · simp only [ren, rens, ren_rowV]
    rfl
  · show (H.alloc (renB _ (.cells 1 (ints [0])))).alloc (renB _ (rowBlk 5 (some (flat (q.all q.states.toNat))))) = _
    rw [ren_zero, renB, rens_ints]
theorem fill27a (a : Au) (hf : a.Fits) (ho : a.Ok) (hsep : a.Sep a.es.length) (hst : a.start.length = 1) (hinc : ∃ y ∈ a.ms a.es.length, y ≠ allM a) :
    CallA Try.prog 27 [a.avS] a.heap fun v bs => (v = .tuple [.agg zero32, .int .i64 3] ∧ bs = [] ∧ (a.states = 3000 ∨ 40000 < a.outE.length)) ∨
      (v = .tuple [.agg [.int .i64 a.props, .int .i64 (a.states + 1), .slice 2 0 1, .int .i64 a.kind, .int .i64 a.rfM, .slice 3 0 a.outE.length], .int .i64 0] ∧ bs = [.cells 1 (ints a.start), .cells 5 (ints (flat a.outE))] ∧ a.states ≠ 3000 ∧ a.outE.length ≤ 40000) := by
  refine (fill27 a hf ho hsep hst hinc).mono ?_
  rintro v G (⟨rfl, rfl, h⟩ | ⟨rfl, rfl, h⟩)
  · exact ⟨[], rfl, (fun b hb => by cases hb), .inl ⟨rfl, rfl, h⟩⟩
  · exact ⟨[_, _], rfl, by simp [ABlk.fresh], .inr ⟨rfl, rfl, h⟩⟩
def Wp.at (q : Wp) (k : Nat) (B : ABlk) : Prop := (k = 0 ∧ flat (q.all q.states.toNat) = []) ∨ (k = 2 ∧ B = .cells 5 (ints (flat (q.all q.states.toNat))))
theorem wide36v (q : Wp) (h0 : 0 ≤ q.props) (h6 : q.props ≤ 6) (s0 : 0 ≤ q.states) (s1 : q.states ≤ 3000) (hg : 0 < q.gap) :
    CallW Try.prog 36 [.int .i64 q.kind, .int .i64 q.marks, .int .i64 q.props, .int .i64 q.states, .int .i64 q.gap] ghostH fun v G => ∃ k B, v = .agg [.int .i64 q.props, .int .i64 q.states, .slice 1 0 1, .int .i64 q.kind, .int .i64 q.marks, .view k 0 (q.all q.states.toNat).length] ∧ G = (ghostH.alloc (.cells 1 (ints [0]))).alloc B ∧ q.at k B := by
  refine CallW.rviews (wide36g q h0 h6 s0 s1 hg ghostH) ?_
  rintro _ _ ⟨rfl, rfl⟩
  have hfl : (flat (q.all q.states.toNat)).length = (q.all q.states.toNat).length * 5 := flat_length _
  cases hfe : flat (q.all q.states.toNat) with
  | nil =>
    have hl : (q.all q.states.toNat).length = 0 := by rw [hfe, List.length_nil] at hfl; omega
    refine ⟨_, ⟨0, _, rfl, rfl, .inl ⟨rfl, hfe⟩⟩, ?_⟩
    intro φ w c hR hv
    obtain ⟨b, hb⟩ := hR.has 0 (by show 0 < 3; decide)
    rw [hl]
    obtain ⟨ds, rfl, hv⟩ := hv
    refine ⟨ds, rfl, ?_⟩
    obtain ⟨c0, l0, rfl, g0, c1, l1, rfl, g1, c2, l2, rfl, g2, c3, l3, rfl, g3, c4, l4, rfl, g4, c5, l5, rfl, g5, hv⟩ := hv
    exact ⟨_, _, rfl, g0, _, _, rfl, g1, _, _, rfl, g2, _, _, rfl, g3, _, _, rfl, g4, _, _, rfl, VRel_nv hb g5, hv⟩
  | cons x l =>
    have hl : rowV 2 5 (x :: l) = .slice 2 0 (q.all q.states.toNat).length := by
      show AVal.slice 2 0 ((x :: l).length / 5) = _
      rw [← hfe, hfl, Nat.mul_div_cancel _ (by decide)]
    rw [show ghostH.n + 1 = 2 from rfl, hl]
    refine ⟨_, ⟨2, _, rfl, rfl, .inr ⟨rfl, by rw [hfe]; rfl⟩⟩, ?_⟩
    intro φ w c hR hv
    obtain ⟨ds, rfl, hv⟩ := hv
    refine ⟨ds, rfl, ?_⟩
    obtain ⟨c0, l0, rfl, g0, c1, l1, rfl, g1, c2, l2, rfl, g2, c3, l3, rfl, g3, c4, l4, rfl, g4, c5, l5, rfl, g5, hv⟩ := hv
    exact ⟨_, _, rfl, g0, _, _, rfl, g1, _, _, rfl, g2, _, _, rfl, g3, _, _, rfl, g4, _, _, rfl, VRel_sv g5, hv⟩
theorem Wp.fill {q : Wp} (h : q.Ok) (H : AHeap) (k : Nat) (B : ABlk) (hkB : q.at k B) (hn : Nat.ble 3 H.n = true) (f0 : H.f 0 = .ro 5 []) (f1 : H.f 1 = .cells 1 (ints [0])) (f2 : H.f 2 = B) :
    CallW Try.prog 27 [.agg [.int .i64 q.props, .int .i64 q.states, .slice 1 0 1, .int .i64 q.kind, .int .i64 q.marks, .view k 0 (q.all q.states.toNat).length]] H fun v G =>
      (v = .tuple [.agg zero32, .int .i64 3] ∧ G = H ∧ (q.states = 3000 ∨ 40000 < q.au.outE.length)) ∨
      (v = .tuple [.agg [.int .i64 q.props, .int .i64 (q.states + 1), .slice H.n 0 1, .int .i64 q.kind, .int .i64 q.au.rfM, .slice (H.n + 1) 0 q.au.outE.length], .int .i64 0] ∧ G = (H.alloc (.cells 1 (ints [0]))).alloc (.cells 5 (ints (flat q.au.outE))) ∧ q.states ≠ 3000 ∧ q.au.outE.length ≤ 40000) := by
  have hn := Nat.le_of_ble_eq_true hn
  have hk : k < H.n := by rcases hkB with ⟨rfl, _⟩ | ⟨rfl, _⟩ <;> omega
  have hb : BSub (fun i => if i = 0 then 1 else if i = 1 then k else H.n + (i - 2)) (.ro 5 (ints (flat (q.all q.states.toNat)))) (H.f k) := by
    rcases hkB with ⟨rfl, he⟩ | ⟨rfl, he⟩
    · rw [f0, he]; exact .inl rfl
    · rw [f2, he]; exact .inr (.inr ⟨5, _, rfl, by rw [rens_ints]⟩)
  have := CallA.frame (H := H) (fill27a q.au (Wp.fits h) (Wp.aok h) (Wp.sep h) rfl (Wp.inc h)) (fun i => if i = 0 then 1 else if i = 1 then k else H.n + (i - 2)) (fun i hi => by
    have hi : i < 2 := hi
    rcases i with _ | _ | i
    · exact ⟨by show 1 < H.n; omega, fun h => h, by show BSub _ (.ro 1 (ints [0])) (H.f 1); rw [f1]; exact .inr (.inr ⟨1, _, rfl, by rw [rens_ints]⟩)⟩
    · exact ⟨hk, fun h => h, hb⟩
    · omega) (fun i hi => by
    have hi : 2 ≤ i := hi
    show (if i = 0 then 1 else if i = 1 then k else H.n + (i - 2)) = H.n + (i - 2)
    rw [if_neg (by omega), if_neg (by omega)])
  refine CallW.mono this ?_
  rintro v G ⟨v', bs, ⟨rfl, rfl, h1⟩ | ⟨rfl, rfl, h1⟩, rfl, rfl⟩
  · exact .inl ⟨rfl, rfl, h1⟩
  · refine .inr ⟨rfl, ?_, h1⟩
    show (H.alloc (renB _ (.cells 1 (ints [0])))).alloc (renB _ (.cells 5 (ints (flat q.au.outE)))) = _
    rw [renB, renB, rens_ints, rens_ints]
/-- What was shown of an automaton that came in holds of one that was made. -/
theorem readS {f : FuncId} {b : Au} {K : AVal → Prop} (h : CallW Try.prog f [b.av] b.heap fun v _ => K v) (hk : ∀ v, K v → noRef v = true) (H : AHeap) (i j : Nat) (hi : Nat.blt i H.n = true) (hj : Nat.blt j H.n = true) (fi : H.f i = .cells 1 (ints b.start)) (fj : H.f j = .cells 5 (ints (flat b.es))) :
    CallW Try.prog f [.agg [.int .i64 b.props, .int .i64 b.states, .slice i 0 b.start.length, .int .i64 b.kind, .int .i64 b.marks, .slice j 0 b.es.length]] H fun v H' => H' = H ∧ K v := by
  have hi := Nat.le_of_ble_eq_true hi
  have hj := Nat.le_of_ble_eq_true hj
  have := CallW.reads (H := H) h hk (renL [i, j] H.n) (fun k hk => by
    have hk : k < 2 := hk
    rcases k with _ | _ | k
    · exact ⟨hi, fun h => h, by show BSub _ (.ro 1 (ints b.start)) (H.f i); rw [fi]; exact .inr (.inr ⟨1, _, rfl, by rw [rens_ints]⟩)⟩
    · exact ⟨hj, fun h => h, by show BSub _ (.ro 5 (ints (flat b.es))) (H.f j); rw [fj]; exact .inr (.inr ⟨5, _, rfl, by rw [rens_ints]⟩)⟩
    · omega) (fun k hk => by
    have hk : 2 ≤ k := hk
    show H.n ≤ (([i, j] : List Nat)[k]?).getD (H.n + k)
    rw [List.getElem?_eq_none (by show 2 ≤ k; exact hk)]
    show H.n ≤ H.n + k
    omega)
  refine CallW.views this ?_
  intro φ w cs hR hv
  obtain ⟨c, cs, rfl, ⟨ds, rfl, hv⟩, h2⟩ := hv
  refine ⟨_, _, rfl, ⟨ds, rfl, ?_⟩, h2⟩
  obtain ⟨c0, l0, rfl, g0, c1, l1, rfl, g1, c2, l2, rfl, g2, c3, l3, rfl, g3, c4, l4, rfl, g4, c5, l5, rfl, g5, hv⟩ := hv
  exact ⟨_, _, rfl, g0, _, _, rfl, g1, _, _, rfl, VRel_sv g2, _, _, rfl, g3, _, _, rfl, g4, _, _, rfl, VRel_sv g5, hv⟩
theorem law7g (kind marks props states gap : Int) (hg63 : fits64 gap) : CallW Try.prog 7 [.int .i64 kind, .int .i64 marks, .int .i64 props, .int .i64 states, .int .i64 gap] ghostH fun v _ => v = .bool true := by
  refine CallW.sym Try.func7 rfl (by kernel_rfl) ?_
  conv => whnf
  refine Fork.mk (fun _ => ?_) (fun k0 => ?_)
  all_goals conv => whnf
  · refine CallS.of (by kernel_rfl) (awake10 _) rfl ?_
    rintro _ _ ⟨rfl, rfl⟩
    conv => whnf
  refine Fork.mk (fun _ => ?_) (fun k5 => ?_)
  all_goals conv => whnf
  · refine CallS.of (by kernel_rfl) (awake10 _) rfl ?_
    rintro _ _ ⟨rfl, rfl⟩
    conv => whnf
  refine CallS.of (by kernel_rfl) (marks35 kind marks _) rfl ?_
  rintro _ _ ⟨rfl, b, rfl, hmo⟩
  cases b <;> conv => whnf
  · refine CallS.of (by kernel_rfl) (awake10 _) rfl ?_
    rintro _ _ ⟨rfl, rfl⟩
    conv => whnf
  refine Fork.mk (fun _ => ?_) (fun p0 => ?_)
  all_goals conv => whnf
  · refine CallS.of (by kernel_rfl) (awake10 _) rfl ?_
    rintro _ _ ⟨rfl, rfl⟩
    conv => whnf
  refine Fork.mk (fun _ => ?_) (fun p6 => ?_)
  all_goals conv => whnf
  · refine CallS.of (by kernel_rfl) (awake10 _) rfl ?_
    rintro _ _ ⟨rfl, rfl⟩
    conv => whnf
  refine Fork.mk (fun _ => ?_) (fun s1 => ?_)
  all_goals conv => whnf
  · refine CallS.of (by kernel_rfl) (awake10 _) rfl ?_
    rintro _ _ ⟨rfl, rfl⟩
    conv => whnf
  refine Fork.mk (fun _ => ?_) (fun s3 => ?_)
  all_goals conv => whnf
  · refine CallS.of (by kernel_rfl) (awake10 _) rfl ?_
    rintro _ _ ⟨rfl, rfl⟩
    conv => whnf
  refine Fork.mk (fun _ => ?_) (fun g0 => ?_)
  all_goals conv => whnf
  · refine CallS.of (by kernel_rfl) (awake10 _) rfl ?_
    rintro _ _ ⟨rfl, rfl⟩
    conv => whnf
  simp only [decide_eq_false_iff_not, gt_iff_lt] at k0 k5 p0 p6 s1 s3 g0
  refine CallS.of (by kernel_rfl) (wide36v ⟨kind, marks, props, states, gap⟩ (by show 0 ≤ props; omega) (by show props ≤ 6; omega) (by show 0 ≤ states; omega) (by show states ≤ 3000; omega) (by show 0 < gap; omega)) rfl ?_
  rintro _ _ ⟨k, B, rfl, rfl, hkB⟩
  generalize hq : (⟨kind, marks, props, states, gap⟩ : Wp) = q at hkB ⊢
  have e1 : kind = q.kind := by rw [← hq]
  have e2 : marks = q.marks := by rw [← hq]
  have e3 : props = q.props := by rw [← hq]
  have e4 : states = q.states := by rw [← hq]
  have e5 : gap = q.gap := by rw [← hq]
  subst e1 e2 e3 e4 e5
  clear hq
  have hmok := hmo.1 rfl
  clear hmo
  conv => whnf
  repeat (refine Gets.of _ rfl ?_; conv => whnf)
  refine Fork.mk (fun _ => ?_) (fun hlen => ?_)
  all_goals conv => whnf
  · refine CallS.of (by kernel_rfl) (awake10 _) rfl ?_
    rintro _ _ ⟨rfl, rfl⟩
    conv => whnf
  simp only [decide_eq_false_iff_not, gt_iff_lt] at hlen
  have hok : q.Ok := ⟨by omega, by omega, by omega, by omega, by omega, by omega, hmok, by omega, by omega⟩
  repeat (refine Gets.of _ rfl ?_; conv => whnf)
  refine CallS.of (by kernel_rfl) (Wp.fill hok _ k B hkB rfl rfl rfl rfl) rfl ?_
  obtain ⟨m, hm, hmc⟩ := Wp.missing hok hg63.2
  obtain ⟨hc1, hc2⟩ := Wp.cases hok hmc
  have hcl := Wp.cnt_le (q := q) q.states.toNat
  have hP := pow6 (show q.props.toNat ≤ 6 by omega)
  have hsh := shlP (show 0 ≤ q.props by omega) (show q.props ≤ 6 by omega)
  have hP0 : 0 < 2 ^ q.props.toNat := Nat.two_pow_pos _
  have hw1 : IntKind.wrap .i64 (((q.all q.states.toNat).length : Int) + m) = ((q.all q.states.toNat).length : Int) + m := wrap_i64 (by omega) (by omega)
  have hw2 : IntKind.wrap .i64 (((q.all q.states.toNat).length : Int) + m + 1) = ((q.all q.states.toNat).length : Int) + m + 1 := wrap_i64 (by omega) (by omega)
  have hw3 : IntKind.wrap .i64 (((q.all q.states.toNat).length : Int) + m + (2 ^ q.props.toNat : Nat)) = ((q.all q.states.toNat).length : Int) + m + (2 ^ q.props.toNat : Nat) := wrap_i64 (by omega) (by omega)
  rintro v G (⟨rfl, rfl, hf⟩ | ⟨rfl, rfl, hf⟩)
  all_goals conv => whnf
  all_goals repeat (refine Gets.of _ rfl ?_; conv => whnf)
  all_goals refine Gets.quo (by omega) ?_
  all_goals rw [hm]
  all_goals conv => whnf
  all_goals refine Fork.mk (fun h1 => ?_) (fun h1 => ?_)
  all_goals conv => whnf
  all_goals simp only [beq_iff_eq, beq_eq_false_iff_ne, ne_eq] at h1
  · refine Fork.mk (fun _ => ?_) (fun h => absurd h (by decide))
    conv => whnf
    refine CallS.of (by kernel_rfl) (awake10 _) rfl ?_
    rintro _ _ ⟨rfl, rfl⟩
    conv => whnf
    rfl
  · repeat (refine Gets.of _ rfl ?_; conv => whnf)
    rw [hw1, hw2]
    refine Fork.mk (fun h2 => ?_) (fun h2 => ?_)
    all_goals conv => whnf
    · refine Fork.mk (fun _ => ?_) (fun h => absurd h (by decide))
      conv => whnf
      refine CallS.of (by kernel_rfl) (awake10 _) rfl ?_
      rintro _ _ ⟨rfl, rfl⟩
      conv => whnf
      rfl
    · simp only [decide_eq_false_iff_not, gt_iff_lt] at h2
      refine CodeS.drawI [3] (takes 14) mixed (by kernel_rfl) (.cons ⟨rfl, trivial⟩ .nil) ?_
      conv => whnf
      repeat (refine Gets.of _ rfl ?_; conv => whnf)
      refine Gets.shl (by omega) ?_
      rw [hsh]
      conv => whnf
      rw [hw1, hw3]
      refine Fork.mk (fun h3 => ?_) (fun h3 => ?_)
      all_goals conv => whnf
      · refine Fork.mk (fun _ => ?_) (fun h => absurd h (by decide))
        conv => whnf
        refine CallS.of (by kernel_rfl) (awake10 _) rfl ?_
        rintro _ _ ⟨rfl, rfl⟩
        conv => whnf
      · simp only [decide_eq_false_iff_not, gt_iff_lt] at h3
        have := hc2 h1 (by omega) (by omega)
        rcases hf with h | h <;> omega
  · exact absurd h1 hf.1
  · repeat (refine Gets.of _ rfl ?_; conv => whnf)
    rw [hw1, hw2]
    refine Fork.mk (fun h2 => ?_) (fun h2 => ?_)
    all_goals conv => whnf
    · simp only [decide_eq_true_eq, gt_iff_lt] at h2
      rcases hc1 (.inr h2) with h | h <;> omega
    simp only [decide_eq_false_iff_not, gt_iff_lt] at h2
    refine CodeS.drawI [3] (takes 14) mixed (by kernel_rfl) (.cons ⟨rfl, trivial⟩ .nil) ?_
    conv => whnf
    repeat (refine Gets.of _ rfl ?_; conv => whnf)
    refine Gets.shl (by omega) ?_
    rw [hsh]
    conv => whnf
    rw [hw1, hw3]
    have hV := readS (valid24 q.bu (Wp.bfits hok hf.2)) (by rintro v ⟨_, rfl, _⟩; rfl)
    have hW := readS (whole30 q.bu (Wp.bfits hok hf.2) (Wp.bok hok hf.1 hf.2)) (by rintro v ⟨_, rfl, _⟩; rfl)
    have hw4 : IntKind.wrap .i64 (q.states + 1) = q.states + 1 := wrap_i64 (by omega) (by omega)
    refine Fork.mk (fun h3 => ?_) (fun h3 => ?_)
    all_goals conv => whnf
    all_goals try (refine Fork.mk (fun h => absurd h (by decide)) (fun _ => ?_); conv => whnf)
    all_goals refine Fork.mk (fun _ => ?_) (fun h => absurd h (by decide))
    all_goals conv => whnf
    all_goals repeat (refine Gets.of _ rfl ?_; conv => whnf)
    all_goals refine CallS.of (by kernel_rfl) (hV _ 4 5 rfl rfl rfl rfl) rfl ?_
    all_goals rintro _ _ ⟨rfl, b, rfl, hb⟩
    all_goals rw [hb.2 (Wp.bok hok hf.1 hf.2)]
    all_goals conv => whnf
    all_goals repeat (refine Gets.of _ rfl ?_; conv => whnf)
    all_goals rw [hw4]
    all_goals refine Fork.mk (fun _ => ?_) (fun h => by simp at h)
    all_goals conv => whnf
    all_goals repeat (refine Gets.of _ rfl ?_; conv => whnf)
    all_goals refine CallS.of (by kernel_rfl) (hW _ 4 5 rfl rfl rfl rfl) rfl ?_
    all_goals rintro _ _ ⟨rfl, b, rfl, hb⟩
    all_goals rw [hb.2 (Wp.bwhole hok)]
    all_goals conv => whnf
    all_goals refine CallS.of (by kernel_rfl) (awake10 _) rfl ?_
    all_goals rintro _ _ ⟨rfl, rfl⟩
    all_goals conv => whnf
    all_goals rfl
theorem law7 : ∀ (H : AHeap) (avs0 avs1 avs2 avs3 avs4 : List AVal), NoRw H → Shape Try.prog H 4 3 avs0 → Shape Try.prog H 4 3 avs1 → Shape Try.prog H 4 3 avs2 → Shape Try.prog H 4 3 avs3 → Shape Try.prog H 4 3 avs4 → CallW Try.prog 7 [argOf Try.prog 3 avs0, argOf Try.prog 3 avs1, argOf Try.prog 3 avs2, argOf Try.prog 3 avs3, argOf Try.prog 3 avs4] H fun v _ => v = .bool true := by
  intro H avs0 avs1 avs2 avs3 avs4 hN h0 h1 h2 h3 h4
  obtain ⟨kind, rfl, _⟩ := shape_int h0
  obtain ⟨marks, rfl, _⟩ := shape_int h1
  obtain ⟨props, rfl, _⟩ := shape_int h2
  obtain ⟨states, rfl, _⟩ := shape_int h3
  obtain ⟨gap, rfl, hg⟩ := shape_int h4
  have e : ∀ m, argOf Try.prog 3 [.int .i64 m] = .int .i64 m := fun m => by unfold argOf; rw [Try.underlying3]; rfl
  rw [e, e, e, e, e]
  exact (CallW.ghost (law7g kind marks props states gap hg) rfl (by rintro v rfl; rfl) H).mono fun v _ h => h.2
end Go.Proofs.Ytdahmcgncpoliaa
