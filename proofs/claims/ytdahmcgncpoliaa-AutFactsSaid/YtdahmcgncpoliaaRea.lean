/- Reach, of the program. -/
import Derived.Test.YtdahmcgncpoliaaFnw
set_option linter.unusedVariables false
set_option linter.unusedSimpArgs false
set_option maxRecDepth 100000
namespace Go.Proofs.Ytdahmcgncpoliaa
open Go Go.Vh Go.Proofs
/-- As a.av; its Start is nil. -/
def Au.avN (a : Au) : AVal := .agg [.int .i64 a.props, .int .i64 a.states, .nilSlice, .int .i64 a.kind, .int .i64 a.marks, .view 1 0 a.es.length]
def Au.boxN (a : Au) : ABlk := .cells 1 [.int .i64 a.props, .int .i64 a.states, .nilSlice, .int .i64 a.kind, .int .i64 a.marks, .view 1 0 a.es.length]
theorem av_cases (a : Au) (l : List AVal) {φ : PMap} {cs : List Value} (h : VRels φ (a.av :: l) cs) : VRels φ (a.avS :: l) cs ∨ (a.start = [] ∧ VRels φ (a.avN :: l) cs) := by
  obtain ⟨c, cs', rfl, ⟨ds, rfl, hv⟩, h2⟩ := h
  obtain ⟨c0, l0, rfl, g0, c1, l1, rfl, g1, c2, l2, rfl, g2, hv⟩ := hv
  obtain ⟨b, hb, hc⟩ := g2
  rcases hc with ⟨h0, rfl⟩ | ⟨cap, ad, rfl, h3, h4⟩
  · exact .inr ⟨List.length_eq_zero_iff.1 h0, _, _, rfl, ⟨_, rfl, _, _, rfl, g0, _, _, rfl, g1, _, _, rfl, rfl, hv⟩, h2⟩
  · exact .inl ⟨_, _, rfl, ⟨_, rfl, _, _, rfl, g0, _, _, rfl, g1, _, _, rfl, ⟨b, cap, ad, hb, rfl, h3, h4⟩, hv⟩, h2⟩
theorem avN_views (a : Au) (hst : a.start = []) (l : List AVal) {φ : PMap} {b : BI} (hb : φ 0 = some b) {cs : List Value} (h : VRels φ (a.avN :: l) cs) : VRels φ (a.av :: l) cs := by
  obtain ⟨c, cs', rfl, ⟨ds, rfl, hv⟩, h2⟩ := h
  obtain ⟨c0, l0, rfl, g0, c1, l1, rfl, g1, c2, l2, rfl, g2, hv⟩ := hv
  refine ⟨_, _, rfl, ⟨_, rfl, _, _, rfl, g0, _, _, rfl, g1, _, _, rfl, ?_, hv⟩, h2⟩
  rw [hst]
  exact VRel_nv hb g2
theorem found50s (a : Au) : CallW Try.prog 50 [a.avS] a.heap fun v G => v = .func 66 [] [.ptr 2 0] ∧ G = a.heap.alloc a.boxS := by
  refine CallW.sym Try.func50 rfl (by kernel_rfl) ?_
  conv => whnf
  exact ⟨rfl, rfl⟩
theorem found50n (a : Au) : CallW Try.prog 50 [a.avN] a.heap fun v G => v = .func 66 [] [.ptr 2 0] ∧ G = a.heap.alloc a.boxN := by
  refine CallW.sym Try.func50 rfl (by kernel_rfl) ?_
  conv => whnf
  exact ⟨rfl, rfl⟩
theorem found50sc (a : Au) (H : AHeap) (hn : Nat.ble 2 H.n = true) (h0 : H.f 0 = .ro 1 (ints a.start)) (h1 : H.f 1 = .ro 5 (ints (flat a.es))) : CallW Try.prog 50 [a.avS] H fun v G => v = .func 66 [] [.ptr H.n 0] ∧ G = H.alloc a.boxS := by
  have hA : CallA Try.prog 50 [a.avS] a.heap fun v bs => v = .func 66 [] [.ptr 2 0] ∧ bs = [a.boxS] := (found50s a).mono fun v G ⟨h1, h2⟩ => ⟨[a.boxS], h2, by simp [ABlk.fresh, Au.boxS], h1, rfl⟩
  refine (frame2 hA H hn h0 h1 rfl).mono ?_
  rintro v G ⟨v', bs, ⟨rfl, rfl⟩, rfl, rfl⟩
  exact ⟨rfl, rfl⟩
theorem found50nc (a : Au) (H : AHeap) (hn : Nat.ble 2 H.n = true) (h0 : H.f 0 = .ro 1 (ints a.start)) (h1 : H.f 1 = .ro 5 (ints (flat a.es))) : CallW Try.prog 50 [a.avN] H fun v G => v = .func 66 [] [.ptr H.n 0] ∧ G = H.alloc a.boxN := by
  have hA : CallA Try.prog 50 [a.avN] a.heap fun v bs => v = .func 66 [] [.ptr 2 0] ∧ bs = [a.boxN] := (found50n a).mono fun v G ⟨h1, h2⟩ => ⟨[a.boxN], h2, by simp [ABlk.fresh, Au.boxN], h1, rfl⟩
  refine (frame2 hA H hn h0 h1 rfl).mono ?_
  rintro v G ⟨v', bs, ⟨rfl, rfl⟩, rfl, rfl⟩
  exact ⟨rfl, rfl⟩
theorem Au.F_eq {a : Au} {out : List Bool} {H : AHeap} (hn : H.n = 7) (h : ∀ i, i < 7 → H.f i = (a.F0 out).f i) (hd : ∀ i, 7 ≤ i → H.f i = .dead) : H = a.F out H.ver := by
  obtain ⟨n, f, ver⟩ := H
  cases hn
  show (⟨7, f, ver⟩ : AHeap) = ⟨7, (a.F0 out).f, ver⟩
  congr 1
  funext i
  rcases Nat.lt_or_ge i 7 with h1 | h1
  · exact h i h1
  · have h2 := a.F_dead out ver i h1
    have h2 : (a.F0 out).f i = .dead := h2
    rw [h2]
    exact hd i h1
theorem reach19s (a : Au) (hf : a.Fits) : CallW Try.prog 19 [a.avS] a.heap fun v G => ∃ bs, a.ReachK 2 v bs ∧ G = a.heap.allocs bs := by
  refine CallW.symR Try.func19 rfl (by kernel_rfl) ?_
  conv => whnf
  repeat (refine Gets.of _ rfl ?_; conv => whnf)
  refine CallS.of (by kernel_rfl) (valid23s a hf _ rfl rfl rfl) rfl ?_
  rintro _ _ ⟨rfl, b, rfl, hb⟩
  cases b <;> conv => whnf
  · exact ⟨renL [0, 1] 3, .tuple [.nilSlice, .int .i64 1], a.heap, Emb.lits [0, 1] rfl rfl rfl rfl (.cons ⟨rfl, rfl, fun h => h⟩ (.cons ⟨rfl, rfl, fun h => h⟩ .nil)) (.cons ⟨rfl, .roI⟩ (.cons ⟨rfl, .roI⟩ .nil)), rfl, [], .inl ⟨fun h => absurd (hb.2 h) (by simp), rfl, rfl⟩, rfl⟩
  have ho := hb.1 rfl
  have hs0 := ho.1.2.2.1
  have hs1 := ho.1.2.2.2.1
  repeat (refine Gets.of _ rfl ?_; conv => whnf)
  refine Gets.makeB (k := 1) (ti := ⟨1, 1, false, [.bool false]⟩) (by kernel_rfl) rfl (by decide) rfl (by decide) hs0 (by omega) ?_
  rw [Nat.mul_one]
  conv => whnf
  repeat (refine Gets.of _ rfl ?_; conv => whnf)
  refine CallS.of (by kernel_rfl) (found50sc a _ rfl rfl rfl) rfl ?_
  rintro _ _ ⟨rfl, rfl⟩
  conv => whnf
  refine CodeS.range [(4, .ptr 4 0)] (f := 66) («as» := []) (bs := [.ptr 5 0]) (K' := fun v G => v = .tuple [] ∧ ∃ out ver', G = a.F out ver' ∧ a.IsRch out ∧ ∀ i, i < 3 → ver' i = 0) rfl (by kernel_rfl) ⟨rfl, trivial⟩ ?_ rfl ?_
  · have key : ∀ HR : AHeap, HR.n = 7 → (∀ i, i < 7 → HR.f i = (a.F0 (List.replicate a.states.toNat false)).f i) → (∀ i, 7 ≤ i → HR.f i = .dead) → (∀ i, i < 3 → HR.ver i = 0) → CallW Try.prog 66 [.yield 6, .ptr 5 0] HR fun v G => v = .tuple [] ∧ ∃ out ver', G = a.F out ver' ∧ a.IsRch out ∧ ∀ i, i < 3 → ver' i = 0 := by
      intro HR k1 k2 k3 k4
      rw [Au.F_eq k1 k2 k3]
      exact (found66 a hf ho _).mono fun v G ⟨h1, out, ver', h2, h3, h4⟩ => ⟨h1, out, ver', h2, h3, fun i hi => by rw [h4 i hi, k4 i hi]⟩
    refine key _ rfl (fun i hi => ?_) (fun i hi => ?_) (fun i hi => ?_)
    · rcases i with _ | _ | _ | _ | _ | _ | _ | i <;> first | rfl | omega
    · rw [alloc_f, if_neg (by show ¬ i = 6; omega), alloc_f, if_neg (by show ¬ i = 5; omega), set_f, if_neg (by show ¬ i = 4; omega), alloc_f, if_neg (by show ¬ i = 4; omega)]
      show (if i = 3 then _ else if i = 2 then _ else if i = 1 then _ else if i = 0 then _ else ABlk.dead) = _
      rw [if_neg (by omega), if_neg (by omega), if_neg (by omega), if_neg (by omega)]
    · rcases i with _ | _ | _ | i <;> first | rfl | omega
  · rintro _ _ ⟨rfl, out, ver', rfl, hrch, hv⟩
    refine ⟨loop19, rfl, trivial, ?_⟩
    conv => whnf
    repeat (refine Gets.of _ rfl ?_; conv => whnf)
    refine ⟨renL [0, 1, 3] 7, .tuple [.slice 2 0 a.states.toNat, .int .i64 0], a.heap.alloc (.cells 1 (bls out)), Emb.lits [0, 1, 3] rfl rfl rfl rfl (.cons ⟨rfl, ?_, fun h => h⟩ (.cons ⟨rfl, ?_, fun h => h⟩ .nil)) (.cons ⟨rfl, .roI⟩ (.cons ⟨rfl, .roI⟩ (.cons ⟨rfl, .cellsB⟩ .nil))), rfl, [.cells 1 (bls out)], .inr ⟨ho, out, hrch, rfl, rfl⟩, rfl⟩
    · exact (hv 0 (by decide)).symm
    · exact (hv 1 (by decide)).symm
/-! ### With a Start that is nil -/
theorem clone67n : CallW Try.prog 67 [.nilSlice] emptyH fun v _ => v = .nilSlice := by
  refine CallW.sym Try.func67 rfl (by kernel_rfl) ?_
  conv => whnf
  refine Fork.mk (fun _ => ?_) (fun h => absurd h (by decide))
  conv => whnf
theorem clone67nc (H : AHeap) : CallW Try.prog 67 [.nilSlice] H fun v H' => H' = H ∧ v = .nilSlice :=
  CallW.closed clone67n rfl (by rintro _ rfl; rfl) H
noncomputable def Au.F0N (a : Au) (out : List Bool) : AHeap := (((((a.heap.alloc a.boxN).alloc (.cells 1 (bls out))).alloc (.cells 1 [.slice 3 0 a.states.toNat])).alloc a.boxN).alloc (.loop loop19))
noncomputable def Au.FN (a : Au) (out : List Bool) (ver : Nat → Nat) : AHeap := ⟨7, (a.F0N out).f, ver⟩
theorem Au.FN_dead (a : Au) (out : List Bool) (ver : Nat → Nat) (i : Nat) (hi : 7 ≤ i) : (a.FN out ver).f i = .dead := by
  show (if i = 6 then _ else if i = 5 then _ else if i = 4 then _ else if i = 3 then _ else if i = 2 then _ else if i = 1 then _ else if i = 0 then _ else ABlk.dead) = _
  rw [if_neg (by omega), if_neg (by omega), if_neg (by omega), if_neg (by omega), if_neg (by omega), if_neg (by omega), if_neg (by omega)]
theorem Au.FN_closed (a : Au) (out : List Bool) (ver : Nat → Nat) : Closed (a.FN out ver) := by
  intro i hi κ hκ
  have hi : i < 7 := hi
  have k : ∀ i, i < 7 → κ i = i := fun i h => hκ i h
  rcases i with _ | _ | _ | _ | _ | _ | _ | i
  · show renB κ (.ro 1 (ints a.start)) = _; rw [renB, rens_ints]; rfl
  · show renB κ (.ro 5 (ints (flat a.es))) = _; rw [renB, rens_ints]; rfl
  · show renB κ a.boxN = a.boxN; simp [Au.boxN, renB, rens, ren, k]
  · show renB κ (.cells 1 (bls out)) = _; rw [renB, rens_bls]; rfl
  · show renB κ (.cells 1 [.slice 3 0 a.states.toNat]) = .cells 1 [.slice 3 0 a.states.toNat]; simp [renB, rens, ren, k]
  · show renB κ a.boxN = a.boxN; simp [Au.boxN, renB, rens, ren, k]
  · exact loop19_ren (k 4 (by decide))
  · omega
theorem Au.rch_none {a : Au} (hst : a.start = []) {t : Nat} : ¬ a.Rch t := by
  intro h
  induction h with
  | start hx => rw [hst] at hx; cases hx
  | step _ _ ih => exact ih
theorem found66n (a : Au) (hf : a.Fits) (ho : a.Ok) (hst : a.start = []) (ver : Nat → Nat) : CallW Try.prog 66 [.yield 6, .ptr 5 0] (a.FN (List.replicate a.states.toNat false) ver) fun v G => v = .tuple [] ∧ ∃ out ver', G = a.FN out ver' ∧ a.IsRch out ∧ ∀ i, i < 3 → ver' i = ver i := by
  have hs0 := ho.1.2.2.1
  have hs1 := ho.1.2.2.2.1
  refine CallW.symR Try.func66 rfl (by kernel_rfl) ?_
  rw [show (a.FN (List.replicate a.states.toNat false) ver).n = 7 from rfl]
  conv => whnf
  repeat (refine Gets.of _ rfl ?_; conv => whnf)
  refine CallS.of (by kernel_rfl) ((by42c a hf ho _ rfl rfl rfl (fun i hi => a.FN_dead _ ver i hi)).views fun φ w cs hR h => by
    obtain ⟨b, hb⟩ := hR.has 0 (by show 0 < 7; decide)
    exact avN_views a hst [] hb h) rfl ?_
  rintro _ _ ⟨rfl, rfl⟩
  generalize hrows : a.byN a.es.length = rows
  conv => whnf
  repeat (refine Gets.of _ rfl ?_; conv => whnf)
  refine Gets.makeB (k := 1) (ti := ⟨1, 1, false, [.bool false]⟩) (by kernel_rfl) rfl (by decide) rfl (by decide) hs0 (by omega) ?_
  rw [Nat.mul_one]
  generalize hH1 : rowsAt ((a.FN (List.replicate a.states.toNat false) ver).alloc (.cells 1 (rowVg (fun s => (a.FN (List.replicate a.states.toNat false) ver).n + 1 + s) 1 rows))) 1 rows = H1
  have n1 : H1.n = 8 + rows.length := by rw [← hH1]; rfl
  have v1 : H1.ver = ver := by rw [← hH1]; rfl
  have f1 : ∀ i, i < 7 → H1.f i = (a.F0N (List.replicate a.states.toNat false)).f i := by
    intro i hi
    rw [← hH1]
    show (if i < 8 then (if i = 7 then _ else (a.F0N (List.replicate a.states.toNat false)).f i) else _) = _
    rw [if_pos (by omega), if_neg (by omega)]
  clear hH1
  conv => whnf
  refine Gets.loadAt (j := 2) (v := .nilSlice) (ti := ⟨1, 24, false, [.nilSlice]⟩) (by kernel_rfl) rfl rfl (by rw [alloc_f, if_neg (by omega), f1 5 (by decide)]; rfl) ?_
  conv => whnf
  refine CallS.of (by kernel_rfl) (clone67nc _) rfl ?_
  rintro _ _ ⟨rfl, rfl⟩
  conv => whnf
  repeat (refine Gets.of _ rfl ?_; conv => whnf)
  have hE : Emb 7 (preK 7 (H1.n + 1)) (a.FN (List.replicate a.states.toNat false) ver) (H1.alloc (.cells 1 (bls (List.replicate a.states.toNat false)))) :=
    Emb.pre (n0 := 7) (G := a.FN (List.replicate a.states.toNat false) ver) (H := H1.alloc (.cells 1 (bls (List.replicate a.states.toNat false)))) (a.FN_closed _ ver) (by show 7 ≤ H1.n + 1; omega) (by show 7 ≤ 7; decide) (fun i hi => by have hi : i < 7 := hi; rw [alloc_f, if_neg (by omega), f1 i hi]; rfl) (fun i hi => by show ver i = H1.ver i; rw [v1])
  refine CodeS.loopG (σ := Unit) (fun _ => [(0, .yield 6), (1, .ptr 5 0), (5, .nilSlice), (20, .nilSlice), (21, .int .i64 0), (22, .int .i64 0)]) (fun _ => a.FN (List.replicate a.states.toNat false) ver) (fun _ => True) (fun _ => 0) () (preK 7 (H1.n + 1)) (by kernel_rfl)
    trivial ⟨rfl, rfl, rfl, rfl, rfl, rfl, trivial⟩ hE ?_
  rintro _ _
  conv => whnf
  refine Fork.mk (fun h => absurd h (by decide)) (fun _ => ?_)
  conv => whnf
  refine CodeS.loopG (σ := Unit) (fun _ => [(0, .yield 6), (1, .ptr 5 0), (5, .nilSlice)]) (fun _ => a.FN (List.replicate a.states.toNat false) ver) (fun _ => True) (fun _ => 0) () (fun i => i) (by kernel_rfl)
    trivial ⟨rfl, rfl, rfl, trivial⟩ (Emb.id (by show 7 ≤ 7; decide)) ?_
  rintro _ _
  conv => whnf
  repeat (refine Gets.of _ rfl ?_; conv => whnf)
  refine Fork.mk (fun h => absurd h (by decide)) (fun _ => ?_)
  conv => whnf
  refine ⟨fun i => i, .tuple [], a.FN (List.replicate a.states.toNat false) ver, Emb.id (by show 7 ≤ 7; decide), rfl, rfl, _, ver, rfl, ⟨List.length_replicate, fun t ht => ⟨fun h => ?_, fun h => absurd h (Au.rch_none hst)⟩⟩, fun _ _ => rfl⟩
  rw [List.getElem?_replicate] at h
  split at h <;> simp at h
theorem Au.FN_eq {a : Au} {out : List Bool} {H : AHeap} (hn : H.n = 7) (h : ∀ i, i < 7 → H.f i = (a.F0N out).f i) (hd : ∀ i, 7 ≤ i → H.f i = .dead) : H = a.FN out H.ver := by
  obtain ⟨n, f, ver⟩ := H
  cases hn
  show (⟨7, f, ver⟩ : AHeap) = ⟨7, (a.F0N out).f, ver⟩
  congr 1
  funext i
  rcases Nat.lt_or_ge i 7 with h1 | h1
  · exact h i h1
  · have h2 := a.FN_dead out ver i h1
    have h2 : (a.F0N out).f i = .dead := h2
    rw [h2]
    exact hd i h1
theorem reach19n (a : Au) (hf : a.Fits) (hst : a.start = []) : CallW Try.prog 19 [a.avN] a.heap fun v G => ∃ bs, a.ReachK 2 v bs ∧ G = a.heap.allocs bs := by
  refine CallW.symR Try.func19 rfl (by kernel_rfl) ?_
  conv => whnf
  repeat (refine Gets.of _ rfl ?_; conv => whnf)
  refine CallS.of (by kernel_rfl) ((valid23c a hf _ rfl rfl rfl).views fun φ w cs hR h => by
    obtain ⟨b, hb⟩ := hR.has 0 (by show 0 < 3; decide)
    exact avN_views a hst [] hb h) rfl ?_
  rintro _ _ ⟨rfl, b, rfl, hb⟩
  cases b <;> conv => whnf
  · exact ⟨renL [0, 1] 3, .tuple [.nilSlice, .int .i64 1], a.heap, Emb.lits [0, 1] rfl rfl rfl rfl (.cons ⟨rfl, rfl, fun h => h⟩ (.cons ⟨rfl, rfl, fun h => h⟩ .nil)) (.cons ⟨rfl, .roI⟩ (.cons ⟨rfl, .roI⟩ .nil)), rfl, [], .inl ⟨fun h => absurd (hb.2 h) (by simp), rfl, rfl⟩, rfl⟩
  have ho := hb.1 rfl
  have hs0 := ho.1.2.2.1
  have hs1 := ho.1.2.2.2.1
  repeat (refine Gets.of _ rfl ?_; conv => whnf)
  refine Gets.makeB (k := 1) (ti := ⟨1, 1, false, [.bool false]⟩) (by kernel_rfl) rfl (by decide) rfl (by decide) hs0 (by omega) ?_
  rw [Nat.mul_one]
  conv => whnf
  repeat (refine Gets.of _ rfl ?_; conv => whnf)
  refine CallS.of (by kernel_rfl) (found50nc a _ rfl rfl rfl) rfl ?_
  rintro _ _ ⟨rfl, rfl⟩
  conv => whnf
  refine CodeS.range [(4, .ptr 4 0)] (f := 66) («as» := []) (bs := [.ptr 5 0]) (K' := fun v G => v = .tuple [] ∧ ∃ out ver', G = a.FN out ver' ∧ a.IsRch out ∧ ∀ i, i < 3 → ver' i = 0) rfl (by kernel_rfl) ⟨rfl, trivial⟩ ?_ rfl ?_
  · have key : ∀ HR : AHeap, HR.n = 7 → (∀ i, i < 7 → HR.f i = (a.F0N (List.replicate a.states.toNat false)).f i) → (∀ i, 7 ≤ i → HR.f i = .dead) → (∀ i, i < 3 → HR.ver i = 0) → CallW Try.prog 66 [.yield 6, .ptr 5 0] HR fun v G => v = .tuple [] ∧ ∃ out ver', G = a.FN out ver' ∧ a.IsRch out ∧ ∀ i, i < 3 → ver' i = 0 := by
      intro HR k1 k2 k3 k4
      rw [Au.FN_eq k1 k2 k3]
      exact (found66n a hf ho hst _).mono fun v G ⟨h1, out, ver', h2, h3, h4⟩ => ⟨h1, out, ver', h2, h3, fun i hi => by rw [h4 i hi, k4 i hi]⟩
    refine key _ rfl (fun i hi => ?_) (fun i hi => ?_) (fun i hi => ?_)
    · rcases i with _ | _ | _ | _ | _ | _ | _ | i <;> first | rfl | omega
    · rw [alloc_f, if_neg (by show ¬ i = 6; omega), alloc_f, if_neg (by show ¬ i = 5; omega), set_f, if_neg (by show ¬ i = 4; omega), alloc_f, if_neg (by show ¬ i = 4; omega)]
      show (if i = 3 then _ else if i = 2 then _ else if i = 1 then _ else if i = 0 then _ else ABlk.dead) = _
      rw [if_neg (by omega), if_neg (by omega), if_neg (by omega), if_neg (by omega)]
    · rcases i with _ | _ | _ | i <;> first | rfl | omega
  · rintro _ _ ⟨rfl, out, ver', rfl, hrch, hv⟩
    refine ⟨loop19, rfl, trivial, ?_⟩
    conv => whnf
    repeat (refine Gets.of _ rfl ?_; conv => whnf)
    refine ⟨renL [0, 1, 3] 7, .tuple [.slice 2 0 a.states.toNat, .int .i64 0], a.heap.alloc (.cells 1 (bls out)), Emb.lits [0, 1, 3] rfl rfl rfl rfl (.cons ⟨rfl, ?_, fun h => h⟩ (.cons ⟨rfl, ?_, fun h => h⟩ .nil)) (.cons ⟨rfl, .roI⟩ (.cons ⟨rfl, .roI⟩ (.cons ⟨rfl, .cellsB⟩ .nil))), rfl, [.cells 1 (bls out)], .inr ⟨ho, out, hrch, rfl, rfl⟩, rfl⟩
    · exact (hv 0 (by decide)).symm
    · exact (hv 1 (by decide)).symm
theorem reach19 (a : Au) (hf : a.Fits) : CallW Try.prog 19 [a.av] a.heap fun v G => ∃ bs, a.ReachK 2 v bs ∧ G = a.heap.allocs bs :=
  CallW.viewsOr (reach19s a hf) (fun hst => reach19n a hf hst) fun φ w cs hR h => av_cases a [] h
theorem reach19c (a : Au) (hf : a.Fits) (H : AHeap) (hn : Nat.ble 2 H.n = true) (h0 : H.f 0 = .ro 1 (ints a.start)) (h1 : H.f 1 = .ro 5 (ints (flat a.es))) :
    CallW Try.prog 19 [a.av] H fun v G => ∃ bs, a.ReachK H.n v bs ∧ G = H.allocs bs := reachK_frame a (reach19 a hf) H hn h0 h1
end Go.Proofs.Ytdahmcgncpoliaa
