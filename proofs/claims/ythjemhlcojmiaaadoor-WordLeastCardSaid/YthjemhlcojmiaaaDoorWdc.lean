/- Words whose stem is a part of a row, held against each other; Normal and At. -/
import Derived.Test.YthjemhlcojmiaaaDoorWnr
import Derived.Test.YthjemhlcojmiaaaDoorWdb
-- VkG VkH
set_option linter.unusedVariables false
set_option linter.unusedSimpArgs false
set_option maxRecDepth 100000
set_option maxHeartbeats 1000000
namespace Go.Proofs.YthjemhlcojmiaaaDoor
open Go Go.Vh Go.Vk Go.Proofs
theorem list38p (l m : List Int) (n k : Nat) (hn : n ≤ l.length) (hk : k ≤ m.length) (hl : l.length ≤ 4294967296) (hm : m.length ≤ 4294967296) : CallW Tryd.prog 38 [.view 0 0 n, .view 1 0 k] (wh l m) fun v _ => IsB v (l.take n = m.take k) := by
  refine CallW.symK (cuts := []) Tryd.func38 rfl (by kernel_rfl) ?_
  conv => whnf
  repeat' first | (refine Gets.of _ rfl ?_; conv => whnf) | (refine Fork.neI (fun _ => ?_) (fun _ => ?_) <;> first | (exfalso; omega) | (conv => whnf))
  · exact .f fun h => by have := congrArg List.length h; rw [List.length_take, List.length_take] at this; omega
  have hlen : n = k := by omega
  subst hlen
  refine CodeS.loopSK (cuts := []) (σ := Nat) (fun j => [(0, .view 0 0 n), (1, .view 1 0 n), (12, .int .i64 n), (13, .int .i64 j)]) (fun _ => wh l m) (fun j => j ≤ n ∧ ∀ k, k < j → l.getD k 0 = m.getD k 0) (fun j => n - j) 0 (by kernel_rfl) ⟨Nat.zero_le _, fun k hk => by omega⟩ ⟨rfl, rfl, rfl, rfl, trivial⟩ rfl ?_
  rintro j ⟨g1, g2⟩
  rcases Nat.lt_or_ge j n with hj | hj
  · conv => whnf
    repeat' (refine Fork.dec (fun _ => ?_) (fun _ => ?_) <;> first | (exfalso; omega) | (conv => whnf))
    refine CodeS.drawT [0, 1] (.take 0 (.take 1 (.take 2 (.take 3 (.take 4 (.take 5 (.take 6 (.take 7 (.take 8 .done))))))))) mixed (by kernel_rfl) (.cons ⟨rfl, live_of_ints rfl (by omega)⟩ (.cons ⟨rfl, live_of_ints rfl (by omega)⟩ .nil)) ?_
    conv => whnf
    repeat' first | ((with_reducible refine Gets.addI ?_ ?_ ?_); (· omega); (· omega); conv => whnf) | (refine Gets.ix1v rfl rfl (by omega) ?_; conv => whnf) | (refine Gets.ldI rfl (by first | rfl | assumption) (by first | omega | exact Nat.le_of_ble_eq_true rfl) ?_; conv => whnf) | (refine Fork.neI (fun _ => ?_) (fun _ => ?_) <;> first | (exfalso; omega) | (conv => whnf))
    · rename_i hne
      refine .f fun h => hne ?_
      have := congrArg (fun x => x.getD j 0) h
      simp only [List.getD_eq_getElem?_getD, List.getElem?_take, hj, if_true] at this
      rw [List.getD_eq_getElem?_getD, List.getD_eq_getElem?_getD]
      exact this
    · exact ⟨j + 1, ⟨by omega, lt_succ_all g2 (by assumption)⟩, by omega, ⟨rfl, rfl, rfl, rfl, trivial⟩, rfl⟩
  · conv => whnf
    repeat' (refine Fork.dec (fun _ => ?_) (fun _ => ?_) <;> first | (exfalso; omega) | (conv => whnf))
    refine .t (List.ext_getElem (by rw [List.length_take, List.length_take]; omega) fun k h1 h2 => ?_)
    rw [List.length_take] at h1 h2
    have := g2 k (by omega)
    rw [List.getD_eq_getElem?_getD, List.getD_eq_getElem?_getD, List.getElem?_eq_getElem (by omega), List.getElem?_eq_getElem (by omega)] at this
    rw [List.getElem_take, List.getElem_take]
    exact this
theorem list38q (l m : List Int) (n k : Nat) (hn : n ≤ l.length) (hk : k ≤ m.length) (hl : l.length ≤ 4294967296) (hm : m.length ≤ 4294967296) {H : AHeap} {i j : Nat} (hi : At H 1 (ints l) i) (hj : At H 1 (ints m) j) : CallW Tryd.prog 38 [.view i 0 n, .view j 0 k] H fun v H' => H' = H ∧ IsB v (l.take n = m.take k) :=
  (list38p l m n k hn hk hl hm).readsAt IsB.noRef [i, j] rfl (.cons ⟨_, _, rfl, hi⟩ (.cons ⟨_, _, rfl, hj⟩ .nil))
structure Pw.Sz (x : Pw) : Prop where
  n : x.n ≤ x.full.length
  s : x.full.length ≤ 4294967296
  l : x.loop.length ≤ 4294967296
structure Pw.In (x : Pw) (H : AHeap) (i j : Nat) : Prop where
  s : At H 1 (ints x.full) i
  l : At H 1 (ints x.loop) j
def p4 (a b : Pw) : AHeap := ((wh a.full a.loop).alloc (.ro 1 (ints b.full))).alloc (.ro 1 (ints b.loop))
theorem written13p (a b : Pw) (ha : a.Sz) (hb : b.Sz) : CallW Tryd.prog 13 [a.av 0 1, b.av 2 3] (p4 a b) fun v _ => IsB v (a.wd = b.wd) := by
  refine CallW.symK (cuts := []) Tryd.func13 rfl (by kernel_rfl) ?_
  conv => whnf
  repeat' (refine Gets.of _ rfl ?_; conv => whnf)
  refine CallS.of (by kernel_rfl) (list38q a.full b.full a.n b.n ha.n hb.n ha.s hb.s (.roB rfl rfl) (.roB rfl rfl)) rfl ?_
  rintro _ _ ⟨rfl, hp | hp⟩
  all_goals conv => whnf
  all_goals
    repeat' (refine Gets.of _ rfl ?_; conv => whnf)
  · refine CallS.of (by kernel_rfl) (list38a a.loop b.loop ha.l hb.l (.roB rfl rfl) (.roB rfl rfl)) rfl ?_
    rintro _ _ ⟨rfl, hq | hq⟩
    all_goals conv => whnf
    all_goals
      skip
    · exact .t (wd_ext.2 ⟨hp, hq⟩)
    · exact .f fun h => hq (wd_ext.1 h).2
  · exact .f fun h => hp (wd_ext.1 h).1
theorem written13q (a b : Pw) (ha : a.Sz) (hb : b.Sz) {H : AHeap} {i j k l : Nat} (h1 : a.In H i j) (h2 : b.In H k l) : CallW Tryd.prog 13 [a.av i j, b.av k l] H fun v H' => H' = H ∧ IsB v (a.wd = b.wd) :=
  (written13p a b ha hb).readsAt IsB.noRef [i, j, k, l] rfl (.cons ⟨_, _, rfl, h1.s⟩ (.cons ⟨_, _, rfl, h1.l⟩ (.cons ⟨_, _, rfl, h2.s⟩ (.cons ⟨_, _, rfl, h2.l⟩ .nil))))
theorem is18p (a b : Pw) (ha : a.Sz) (hb : b.Sz) (e f : Int) : CallW Tryd.prog 18 [a.av 0 1, .int .i64 e, b.av 2 3, .int .i64 f] (p4 a b) fun v _ => IsB v (e = f ∧ a.wd = b.wd) := by
  refine CallW.symK (cuts := []) Tryd.func18 rfl (by kernel_rfl) ?_
  conv => whnf
  repeat' first | (refine Gets.of _ rfl ?_; conv => whnf) | (refine Fork.dec (fun _ => ?_) (fun _ => ?_) <;> first | (exfalso; omega) | (conv => whnf))
  · refine CallS.of (by kernel_rfl) (written13q a b ha hb ⟨.roB rfl rfl, .roB rfl rfl⟩ ⟨.roB rfl rfl, .roB rfl rfl⟩) rfl ?_
    rintro _ _ ⟨rfl, hp | hp⟩
    all_goals conv => whnf
    all_goals
      skip
    · exact .t ⟨by assumption, hp⟩
    · exact .f fun h => hp h.2
  · exact .f fun h => by have := h.1; omega
theorem is18q (a b : Pw) (ha : a.Sz) (hb : b.Sz) (e f : Int) {H : AHeap} {i j k l : Nat} (h1 : a.In H i j) (h2 : b.In H k l) : CallW Tryd.prog 18 [a.av i j, .int .i64 e, b.av k l, .int .i64 f] H fun v H' => H' = H ∧ IsB v (e = f ∧ a.wd = b.wd) :=
  (is18p a b ha hb e f).readsAt IsB.noRef [i, j, k, l] rfl (.cons ⟨_, _, rfl, h1.s⟩ (.cons ⟨_, _, rfl, h1.l⟩ (.cons ⟨_, _, rfl, h2.s⟩ (.cons ⟨_, _, rfl, h2.l⟩ .nil))))
/-- A function that makes two rows, wherever the rows are that it reads. -/
theorem mkAt {P : Program} {f : FuncId} {args : List AVal} {s l a b : List Int} {v0 : AVal} (h : CallW P f args (wh s l) fun v H' => v = v0 ∧ H' = ((wh s l).alloc (vB a)).alloc (vB b)) {H : AHeap} {i j : Nat} (hi : At H 1 (ints s) i) (hj : At H 1 (ints l) j) :
    CallW P f (rens (fk [i, j] H.n) args) H fun v H' => v = ren (fk [i, j] H.n) v0 ∧ H' = (H.alloc (vB a)).alloc (vB b) := by
  refine (CallW.allocsAt (K := fun v bs => v = v0 ∧ bs = [vB a, vB b]) (h.mono ?_) [i, j] rfl (.cons ⟨_, _, rfl, hi⟩ (.cons ⟨_, _, rfl, hj⟩ .nil))).mono ?_
  · rintro _ _ ⟨rfl, rfl⟩; exact ⟨[vB a, vB b], rfl, by simp [vB_fresh], rfl, rfl⟩
  · rintro _ _ ⟨_, _, ⟨rfl, rfl⟩, rfl, rfl⟩
    exact ⟨rfl, by show (H.alloc (renB _ (vB _))).alloc (renB _ (vB _)) = _; rw [renB_vB, renB_vB]⟩
/-- A function that only reads a word, wherever its rows are. -/
theorem rdAt {P : Program} {f : FuncId} {args : List AVal} {s l : List Int} {K : AVal → Prop} (h : CallW P f args (wh s l) fun v _ => K v) (hk : ∀ v, K v → noRef v = true) {H : AHeap} {i j : Nat} (hi : At H 1 (ints s) i) (hj : At H 1 (ints l) j) :
    CallW P f (rens (fk [i, j] H.n) args) H fun v H' => H' = H ∧ K v :=
  h.readsAt hk [i, j] rfl (.cons ⟨_, _, rfl, hi⟩ (.cons ⟨_, _, rfl, hj⟩ .nil))
theorem valid26a (w : Wd) (hf : w.Fits) (n : Int) {H : AHeap} {i j : Nat} (hi : At H 1 (ints w.stem) i) (hj : At H 1 (ints w.loop) j) : CallW Tryd.prog 26 [w.av i j, .int .i64 n] H fun v H' => H' = H ∧ IsB v (w.Ok n) := rdAt (valid26 w hf n) IsB.noRef hi hj
theorem valid27a (w : Wd) (hf : w.Fits) (n : Int) {H : AHeap} {i j : Nat} (hi : At H 1 (ints w.stem) i) (hj : At H 1 (ints w.loop) j) : CallW Tryd.prog 27 [w.av i j, .int .i64 n] H fun v H' => H' = H ∧ IsB v (w.Ok n) := rdAt (valid27 w hf n) IsB.noRef hi hj
theorem is41 (w : Wd) (hf : w.Fits) : CallW Tryd.prog 41 [w.av 0 1] (wh w.stem w.loop) fun v _ => IsB v (w.Ok 6) := by
  refine CallW.symK (cuts := []) Tryd.func41 rfl (by kernel_rfl) ?_
  conv => whnf
  repeat' (refine Gets.of _ rfl ?_; conv => whnf)
  refine CallS.of (by kernel_rfl) (valid27a w hf 6 (.roB rfl rfl) (.roB rfl rfl)) rfl ?_
  rintro _ _ ⟨rfl, hp | hp⟩
  all_goals conv => whnf
  all_goals
    skip
  · exact .t hp
  · exact .f hp
theorem is41a (w : Wd) (hf : w.Fits) {H : AHeap} {i j : Nat} (hi : At H 1 (ints w.stem) i) (hj : At H 1 (ints w.loop) j) : CallW Tryd.prog 41 [w.av i j] H fun v H' => H' = H ∧ IsB v (w.Ok 6) := rdAt (is41 w hf) IsB.noRef hi hj
theorem wd_take (s : List Int) : (s.drop 0).take (s.length - 0) = s := by simp
theorem Wd.Ok.s32 {w : Wd} {n : Int} (h : w.Ok n) : w.stem.length ≤ 4294967296 := by have := h.m; omega
theorem Wd.Ok.l32 {w : Wd} {n : Int} (h : w.Ok n) : w.loop.length ≤ 4294967296 := by have := h.m; omega
def errP : Pw := ⟨[], 0, []⟩
open Classical in
noncomputable def outN (w : Wd) : Pw × Int := if w.Ok 6 then (nfP w.stem w.loop, 0) else (errP, 1)
/-- What a function answers that makes a word. -/
def Makes (w : Wd) (X : Pw × Int) (v : AVal) (H' : AHeap) : Prop := v = .tuple [X.1.av 2 3, .int .i64 X.2] ∧ H' = ((wh w.stem w.loop).alloc (vB X.1.full)).alloc (vB X.1.loop)
theorem normal10 (w : Wd) (hf : w.Fits) : CallW Tryd.prog 10 [w.av 0 1] (wh w.stem w.loop) (Makes w (outN w)) := by
  unfold Makes
  refine CallW.tells ?_
  refine CallW.symRK (cuts := []) Tryd.func10 rfl (by kernel_rfl) ?_
  conv => whnf
  repeat' (refine Gets.of _ rfl ?_; conv => whnf)
  refine CallS.of (by kernel_rfl) (valid26a w hf 6 (.roB rfl rfl) (.roB rfl rfl)) rfl ?_
  rintro _ _ ⟨rfl, hp | hp⟩
  all_goals conv => whnf
  all_goals
    repeat' (refine Gets.of _ rfl ?_; conv => whnf)
  · unfold outN
    rw [if_pos hp]
    refine CallS.of (by kernel_rfl) (mkAt (normal36 w.stem w.loop 0 (Nat.zero_le _) hp.s32 hp.p hp.l32) (.roB rfl rfl) (.roB rfl rfl)) rfl ?_
    rintro _ _ ⟨rfl, rfl⟩
    conv => whnf
    repeat' (refine Gets.of _ rfl ?_; conv => whnf)
    exact ⟨renL [0, 1, 4, 5] 6, .tuple [(nfP w.stem w.loop).av 2 3, .int .i64 0], ((wh w.stem w.loop).alloc (vB (nfP w.stem w.loop).full)).alloc (vB (nfP w.stem w.loop).loop), EmbL.litsN [0, 1, 4, 5] rfl rfl rfl rfl (.cons ⟨rfl, .inl ⟨rfl, fun h => h⟩⟩ (.cons ⟨rfl, .inl ⟨rfl, fun h => h⟩⟩ .nil)) (.cons ⟨rfl, .roI⟩ (.cons ⟨rfl, .roI⟩ (.cons ⟨rfl, .vS rfl⟩ (.cons ⟨rfl, .vS rfl⟩ .nil)))), rfl, _, ⟨rfl, rfl⟩, Tells.refl _ _⟩
  · unfold outN
    rw [if_neg hp]
    exact ⟨renL [0, 1, 2, 3] 4, .tuple [.agg [.nilSlice, .nilSlice], .int .i64 1], ((wh w.stem w.loop).alloc (vB [])).alloc (vB []), EmbL.litsN [0, 1, 2, 3] rfl rfl rfl rfl (.cons ⟨rfl, .inl ⟨rfl, fun h => h⟩⟩ (.cons ⟨rfl, .inl ⟨rfl, fun h => h⟩⟩ .nil)) (.cons ⟨rfl, .roI⟩ (.cons ⟨rfl, .roI⟩ (.cons ⟨rfl, .roEc⟩ (.cons ⟨rfl, .roEc⟩ .nil)))), rfl, _, ⟨rfl, rfl⟩, Tells.tup (.cons (Tells.agg (.cons (Tells.nilView rfl) (.cons (Tells.nilView rfl) .nil))) (.cons (Tells.refl _ _) .nil))⟩
theorem normal21 (w : Wd) (hf : w.Fits) : CallW Tryd.prog 21 [w.av 0 1] (wh w.stem w.loop) (Makes w (outN w)) := by
  unfold Makes
  refine CallW.tells ?_
  refine CallW.symRK (cuts := []) Tryd.func21 rfl (by kernel_rfl) ?_
  conv => whnf
  repeat' (refine Gets.of _ rfl ?_; conv => whnf)
  refine CallS.of (by kernel_rfl) (is41a w hf (.roB rfl rfl) (.roB rfl rfl)) rfl ?_
  rintro _ _ ⟨rfl, hp | hp⟩
  all_goals conv => whnf
  all_goals
    repeat' (refine Gets.of _ rfl ?_; conv => whnf)
  · unfold outN
    rw [if_pos hp]
    refine CallS.of (by kernel_rfl) (mkAt (norm44 w.stem w.loop 0 (Nat.zero_le _) hp.s32 hp.p hp.l32) (.roB rfl rfl) (.roB rfl rfl)) rfl ?_
    rintro _ _ ⟨rfl, rfl⟩
    conv => whnf
    repeat' (refine Gets.of _ rfl ?_; conv => whnf)
    exact ⟨renL [0, 1, 4, 5] 6, .tuple [(nfP w.stem w.loop).av 2 3, .int .i64 0], ((wh w.stem w.loop).alloc (vB (nfP w.stem w.loop).full)).alloc (vB (nfP w.stem w.loop).loop), EmbL.litsN [0, 1, 4, 5] rfl rfl rfl rfl (.cons ⟨rfl, .inl ⟨rfl, fun h => h⟩⟩ (.cons ⟨rfl, .inl ⟨rfl, fun h => h⟩⟩ .nil)) (.cons ⟨rfl, .roI⟩ (.cons ⟨rfl, .roI⟩ (.cons ⟨rfl, .vS rfl⟩ (.cons ⟨rfl, .vS rfl⟩ .nil)))), rfl, _, ⟨rfl, rfl⟩, Tells.refl _ _⟩
  · unfold outN
    rw [if_neg hp]
    exact ⟨renL [0, 1, 2, 3] 4, .tuple [.agg [.nilSlice, .nilSlice], .int .i64 1], ((wh w.stem w.loop).alloc (vB [])).alloc (vB []), EmbL.litsN [0, 1, 2, 3] rfl rfl rfl rfl (.cons ⟨rfl, .inl ⟨rfl, fun h => h⟩⟩ (.cons ⟨rfl, .inl ⟨rfl, fun h => h⟩⟩ .nil)) (.cons ⟨rfl, .roI⟩ (.cons ⟨rfl, .roI⟩ (.cons ⟨rfl, .roEc⟩ (.cons ⟨rfl, .roEc⟩ .nil)))), rfl, _, ⟨rfl, rfl⟩, Tells.tup (.cons (Tells.agg (.cons (Tells.nilView rfl) (.cons (Tells.nilView rfl) .nil))) (.cons (Tells.refl _ _) .nil))⟩
open Classical in
noncomputable def outA (w : Wd) (k : Int) : Int × Int := if w.Ok 6 then (if k < 0 then (0, 6) else (w.lt k.toNat, 0)) else (0, 1)
theorem at43a (w : Wd) (hf : w.Fits) (hl : 0 < w.loop.length) (k : Nat) (hk : k ≤ 9223372036854775807) {H : AHeap} {i j : Nat} (hi : At H 1 (ints w.stem) i) (hj : At H 1 (ints w.loop) j) : CallW Tryd.prog 43 [w.av i j, .int .i64 (k : Int)] H fun v H' => H' = H ∧ v = .int .i64 (w.lt k) := rdAt (at43 w hf hl k hk) (by rintro _ rfl; rfl) hi hj
theorem letters12a (w : Wd) (hf : w.Fits) (hl : 0 < w.loop.length) (k : Nat) (hk : k ≤ 9223372036854775807) {H : AHeap} {i j : Nat} (hi : At H 1 (ints w.stem) i) (hj : At H 1 (ints w.loop) j) : CallW Tryd.prog 12 [w.av i j, .int .i64 (k : Int)] H fun v H' => H' = H ∧ v = .int .i64 (w.lt k) := rdAt (letters12 w hf hl k hk) (by rintro _ rfl; rfl) hi hj
theorem at19 (w : Wd) (hf : w.Fits) (k : Int) (hk : k ≤ 9223372036854775807) : CallW Tryd.prog 19 [w.av 0 1, .int .i64 k] (wh w.stem w.loop) fun v _ => v = .tuple [.int .i64 (outA w k).1, .int .i64 (outA w k).2] := by
  refine CallW.symK (cuts := []) Tryd.func19 rfl (by kernel_rfl) ?_
  conv => whnf
  repeat' (refine Gets.of _ rfl ?_; conv => whnf)
  refine CallS.of (by kernel_rfl) (valid26a w hf 6 (.roB rfl rfl) (.roB rfl rfl)) rfl ?_
  rintro _ _ ⟨rfl, hp | hp⟩
  all_goals conv => whnf
  all_goals unfold outA
  · rw [if_pos hp]
    repeat' first | (refine Gets.of _ rfl ?_; conv => whnf) | (refine Fork.dec (fun _ => ?_) (fun _ => ?_) <;> first | (exfalso; omega) | (conv => whnf))
    · rw [if_pos (by assumption)]
    · rename_i h
      rw [if_neg h]
      obtain ⟨n, rfl⟩ : ∃ n : Nat, k = (n : Int) := ⟨k.toNat, by omega⟩
      refine CallS.of (by kernel_rfl) (at43a w hf hp.p n (by omega) (.roB rfl rfl) (.roB rfl rfl)) rfl ?_
      rintro _ _ ⟨rfl, rfl⟩
      conv => whnf
      skip
      rfl
  · rw [if_neg hp]
    skip
theorem at19a (w : Wd) (hf : w.Fits) (k : Int) (hk : k ≤ 9223372036854775807) {H : AHeap} {i j : Nat} (hi : At H 1 (ints w.stem) i) (hj : At H 1 (ints w.loop) j) : CallW Tryd.prog 19 [w.av i j, .int .i64 k] H fun v H' => H' = H ∧ v = .tuple [.int .i64 (outA w k).1, .int .i64 (outA w k).2] := rdAt (at19 w hf k hk) (by rintro _ rfl; rfl) hi hj
theorem at20 (w : Wd) (hf : w.Fits) (k : Int) (hk : k ≤ 9223372036854775807) : CallW Tryd.prog 20 [w.av 0 1, .int .i64 k] (wh w.stem w.loop) fun v _ => v = .tuple [.int .i64 (outA w k).1, .int .i64 (outA w k).2] := by
  refine CallW.symK (cuts := []) Tryd.func20 rfl (by kernel_rfl) ?_
  conv => whnf
  repeat' (refine Gets.of _ rfl ?_; conv => whnf)
  refine CallS.of (by kernel_rfl) (is41a w hf (.roB rfl rfl) (.roB rfl rfl)) rfl ?_
  rintro _ _ ⟨rfl, hp | hp⟩
  all_goals conv => whnf
  all_goals unfold outA
  · rw [if_pos hp]
    repeat' first | (refine Gets.of _ rfl ?_; conv => whnf) | (refine Fork.dec (fun _ => ?_) (fun _ => ?_) <;> first | (exfalso; omega) | (conv => whnf))
    · rw [if_pos (by assumption)]
    · rename_i h
      rw [if_neg h]
      obtain ⟨n, rfl⟩ : ∃ n : Nat, k = (n : Int) := ⟨k.toNat, by omega⟩
      refine CallS.of (by kernel_rfl) (letters12a w hf hp.p n (by omega) (.roB rfl rfl) (.roB rfl rfl)) rfl ?_
      rintro _ _ ⟨rfl, rfl⟩
      conv => whnf
      skip
      rfl
  · rw [if_neg hp]
    skip
theorem at20a (w : Wd) (hf : w.Fits) (k : Int) (hk : k ≤ 9223372036854775807) {H : AHeap} {i j : Nat} (hi : At H 1 (ints w.stem) i) (hj : At H 1 (ints w.loop) j) : CallW Tryd.prog 20 [w.av i j, .int .i64 k] H fun v H' => H' = H ∧ v = .tuple [.int .i64 (outA w k).1, .int .i64 (outA w k).2] := rdAt (at20 w hf k hk) (by rintro _ rfl; rfl) hi hj
end Go.Proofs.YthjemhlcojmiaaaDoor
