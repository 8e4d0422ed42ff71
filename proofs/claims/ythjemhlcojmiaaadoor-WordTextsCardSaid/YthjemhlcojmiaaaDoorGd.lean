/- Words whose stem is a part of a row, held against each other; Normal and At. -/
import Derived.Test.YthjemhlcojmiaaaDoorGc
import Derived.Test.YthjemhlcojmiaaaDoorGb
-- VkG VkH
set_option linter.unusedVariables false
set_option linter.unusedSimpArgs false
set_option maxRecDepth 100000
set_option maxHeartbeats 1000000
namespace Go.Proofs.YthjemhlcojmiaaaDoor
open Go Go.Vh Go.Vk Go.Proofs
theorem list38p (l m : List Int) (n k : Nat) (hn : n ≤ l.length) (hk : k ≤ m.length) (hl : l.length ≤ 4294967296) (hm : m.length ≤ 4294967296) : CallW Tryd.prog 38 [.view 0 0 n, .view 1 0 k] (wh l m) fun v _ => IsB v (l.take n = m.take k) := by
  refine CallW.symK (cuts := []) Tryd.func38 rfl (by kernel_rfl) ?_
  conv => whnf
  repeat' first | (refine Gets.of _ rfl ?_; conv => whnf) | (refine Fork.neI (fun _ => ?_) (fun _ => ?_) <;> first | (exfalso; omega) | (conv => whnf))
  · exact .f fun h => by have := congrArg List.length h; rw [List.length_take, List.length_take] at this; omega
  have hlen : n = k := by omega
  subst hlen
  refine CodeS.loopSK (cuts := []) (σ := Nat) (fun j => [(0, .view 0 0 n), (1, .view 1 0 n), (12, .int .i64 n), (13, .int .i64 j)]) (fun _ => wh l m) (fun j => j ≤ n ∧ ∀ k, k < j → l.getD k 0 = m.getD k 0) (fun j => n - j) 0 (by kernel_rfl) ⟨Nat.zero_le _, fun k hk => by omega⟩ ⟨rfl, rfl, rfl, rfl, trivial⟩ rfl ?_
  rintro j ⟨g1, g2⟩
  rcases Nat.lt_or_ge j n with hj | hj
  · conv => whnf
    repeat' (refine Fork.dec (fun _ => ?_) (fun _ => ?_) <;> first | (exfalso; omega) | (conv => whnf))
    refine CodeS.drawT [0, 1] (.take 0 (.take 1 (.take 2 (.take 3 (.take 4 (.take 5 (.take 6 (.take 7 (.take 8 .done))))))))) mixed (by kernel_rfl) (.cons ⟨rfl, live_of_ints rfl (by omega)⟩ (.cons ⟨rfl, live_of_ints rfl (by omega)⟩ .nil)) ?_
    conv => whnf
    repeat' first | ((with_reducible refine Gets.addI ?_ ?_ ?_); (· omega); (· omega); conv => whnf) | (refine Gets.ix1v rfl rfl (by omega) ?_; conv => whnf) | (refine Gets.ldI rfl (by first | rfl | assumption) (by first | omega | exact Nat.le_of_ble_eq_true rfl) ?_; conv => whnf) | (refine Fork.neI (fun _ => ?_) (fun _ => ?_) <;> first | (exfalso; omega) | (conv => whnf))
    · rename_i hne
      refine .f fun h => hne ?_
      have := congrArg (fun x => x.getD j 0) h
      simp only [List.getD_eq_getElem?_getD, List.getElem?_take, hj, if_true] at this
      rw [List.getD_eq_getElem?_getD, List.getD_eq_getElem?_getD]
      exact this
    · exact ⟨j + 1, ⟨by omega, lt_succ_all g2 (by assumption)⟩, by omega, ⟨rfl, rfl, rfl, rfl, trivial⟩, rfl⟩
  · conv => whnf
    repeat' (refine Fork.dec (fun _ => ?_) (fun _ => ?_) <;> first | (exfalso; omega) | (conv => whnf))
    refine .t (List.ext_getElem (by rw [List.length_take, List.length_take]; omega) fun k h1 h2 => ?_)
    rw [List.length_take] at h1 h2
    have := g2 k (by omega)
    rw [List.getD_eq_getElem?_getD, List.getD_eq_getElem?_getD, List.getElem?_eq_getElem (by omega), List.getElem?_eq_getElem (by omega)] at this
    rw [List.getElem_take, List.getElem_take]
    exact this
theorem list38q (l m : List Int) (n k : Nat) (hn : n ≤ l.length) (hk : k ≤ m.length) (hl : l.length ≤ 4294967296) (hm : m.length ≤ 4294967296) {H : AHeap} {i j : Nat} (hi : At H 1 (ints l) i) (hj : At H 1 (ints m) j) : CallW Tryd.prog 38 [.view i 0 n, .view j 0 k] H fun v H' => H' = H ∧ IsB v (l.take n = m.take k) :=
  (list38p l m n k hn hk hl hm).readsAt IsB.noRef [i, j] rfl (.cons ⟨_, _, rfl, hi⟩ (.cons ⟨_, _, rfl, hj⟩ .nil))
structure Pw.Sz (x : Pw) : Prop where
  n : x.n ≤ x.full.length
  s : x.full.length ≤ 4294967296
  l : x.loop.length ≤ 4294967296
structure Pw.In (x : Pw) (H : AHeap) (i j : Nat) : Prop where
  s : At H 1 (ints x.full) i
  l : At H 1 (ints x.loop) j
def p4 (a b : Pw) : AHeap := ((wh a.full a.loop).alloc (.ro 1 (ints b.full))).alloc (.ro 1 (ints b.loop))
theorem written13p (a b : Pw) (ha : a.Sz) (hb : b.Sz) : CallW Tryd.prog 13 [a.av 0 1, b.av 2 3] (p4 a b) fun v _ => IsB v (a.wd = b.wd) := by
  refine CallW.symK (cuts := []) Tryd.func13 rfl (by kernel_rfl) ?_
  conv => whnf
  repeat' (refine Gets.of _ rfl ?_; conv => whnf)
  refine CallS.of (by kernel_rfl) (list38q a.full b.full a.n b.n ha.n hb.n ha.s hb.s (.roB rfl rfl) (.roB rfl rfl)) rfl ?_
  rintro _ _ ⟨rfl, hp | hp⟩
  all_goals conv => whnf
  all_goals
    repeat' (refine Gets.of _ rfl ?_; conv => whnf)
  · refine CallS.of (by kernel_rfl) (list38a a.loop b.loop ha.l hb.l (.roB rfl rfl) (.roB rfl rfl)) rfl ?_
    rintro _ _ ⟨rfl, hq | hq⟩
    all_goals conv => whnf
    all_goals
      skip
    · exact .t (wd_ext.2 ⟨hp, hq⟩)
    · exact .f fun h => hq (wd_ext.1 h).2
  · exact .f fun h => hp (wd_ext.1 h).1
theorem written13q (a b : Pw) (ha : a.Sz) (hb : b.Sz) {H : AHeap} {i j k l : Nat} (h1 : a.In H i j) (h2 : b.In H k l) : CallW Tryd.prog 13 [a.av i j, b.av k l] H fun v H' => H' = H ∧ IsB v (a.wd = b.wd) :=
  (written13p a b ha hb).readsAt IsB.noRef [i, j, k, l] rfl (.cons ⟨_, _, rfl, h1.s⟩ (.cons ⟨_, _, rfl, h1.l⟩ (.cons ⟨_, _, rfl, h2.s⟩ (.cons ⟨_, _, rfl, h2.l⟩ .nil))))
theorem is18p (a b : Pw) (ha : a.Sz) (hb : b.Sz) (e f : Int) : CallW Tryd.prog 18 [a.av 0 1, .int .i64 e, b.av 2 3, .int .i64 f] (p4 a b) fun v _ => IsB v (e = f ∧ a.wd = b.wd) := by
  refine CallW.symK (cuts := []) Tryd.func18 rfl (by kernel_rfl) ?_
  conv => whnf
  repeat' first | (refine Gets.of _ rfl ?_; conv => whnf) | (refine Fork.dec (fun _ => ?_) (fun _ => ?_) <;> first | (exfalso; omega) | (conv => whnf))
  · refine CallS.of (by kernel_rfl) (written13q a b ha hb ⟨.roB rfl rfl, .roB rfl rfl⟩ ⟨.roB rfl rfl, .roB rfl rfl⟩) rfl ?_
    rintro _ _ ⟨rfl, hp | hp⟩
    all_goals conv => whnf
    all_goals
      skip
    · exact .t ⟨by assumption, hp⟩
    · exact .f fun h => hp h.2
  · exact .f fun h => by have := h.1; omega
theorem is18q (a b : Pw) (ha : a.Sz) (hb : b.Sz) (e f : Int) {H : AHeap} {i j k l : Nat} (h1 : a.In H i j) (h2 : b.In H k l) : CallW Tryd.prog 18 [a.av i j, .int .i64 e, b.av k l, .int .i64 f] H fun v H' => H' = H ∧ IsB v (e = f ∧ a.wd = b.wd) :=
  (is18p a b ha hb e f).readsAt IsB.noRef [i, j, k, l] rfl (.cons ⟨_, _, rfl, h1.s⟩ (.cons ⟨_, _, rfl, h1.l⟩ (.cons ⟨_, _, rfl, h2.s⟩ (.cons ⟨_, _, rfl, h2.l⟩ .nil))))
/-- A function that makes two rows, wherever the rows are that it reads. -/
theorem mkAt {P : Program} {f : FuncId} {args : List AVal} {s l a b : List Int} {v0 : AVal} (h : CallW P f args (wh s l) fun v H' => v = v0 ∧ H' = ((wh s l).alloc (vB a)).alloc (vB b)) {H : AHeap} {i j : Nat} (hi : At H 1 (ints s) i) (hj : At H 1 (ints l) j) :
    CallW P f (rens (fk [i, j] H.n) args) H fun v H' => v = ren (fk [i, j] H.n) v0 ∧ H' = (H.alloc (vB a)).alloc (vB b) := by
  refine (CallW.allocsAt (K := fun v bs => v = v0 ∧ bs = [vB a, vB b]) (h.mono ?_) [i, j] rfl (.cons ⟨_, _, rfl, hi⟩ (.cons ⟨_, _, rfl, hj⟩ .nil))).mono ?_
  · rintro _ _ ⟨rfl, rfl⟩; exact ⟨[vB a, vB b], rfl, by simp [vB_fresh], rfl, rfl⟩
  · rintro _ _ ⟨_, _, ⟨rfl, rfl⟩, rfl, rfl⟩
    exact ⟨rfl, by show (H.alloc (renB _ (vB _))).alloc (renB _ (vB _)) = _; rw [renB_vB, renB_vB]⟩
/-- A function that only reads a word, wherever its rows are. -/
theorem rdAt {P : Program} {f : FuncId} {args : List AVal} {s l : List Int} {K : AVal → Prop} (h : CallW P f args (wh s l) fun v _ => K v) (hk : ∀ v, K v → noRef v = true) {H : AHeap} {i j : Nat} (hi : At H 1 (ints s) i) (hj : At H 1 (ints l) j) :
    CallW P f (rens (fk [i, j] H.n) args) H fun v H' => H' = H ∧ K v :=
  h.readsAt hk [i, j] rfl (.cons ⟨_, _, rfl, hi⟩ (.cons ⟨_, _, rfl, hj⟩ .nil))
theorem valid26a (w : Wd) (hf : w.Fits) (n : Int) {H : AHeap} {i j : Nat} (hi : At H 1 (ints w.stem) i) (hj : At H 1 (ints w.loop) j) : CallW Tryd.prog 26 [w.av i j, .int .i64 n] H fun v H' => H' = H ∧ IsB v (w.Ok n) := rdAt (valid26 w hf n) IsB.noRef hi hj
theorem valid27a (w : Wd) (hf : w.Fits) (n : Int) {H : AHeap} {i j : Nat} (hi : At H 1 (ints w.stem) i) (hj : At H 1 (ints w.loop) j) : CallW Tryd.prog 27 [w.av i j, .int .i64 n] H fun v H' => H' = H ∧ IsB v (w.Ok n) := rdAt (valid27 w hf n) IsB.noRef hi hj
theorem is41 (w : Wd) (hf : w.Fits) : CallW Tryd.prog 41 [w.av 0 1] (wh w.stem w.loop) fun v _ => IsB v (w.Ok 6) := by
  refine CallW.symK (cuts := []) Tryd.func41 rfl (by kernel_rfl) ?_
  conv => whnf
  repeat' (refine Gets.of _ rfl ?_; conv => whnf)
  refine CallS.of (by kernel_rfl) (valid27a w hf 6 (.roB rfl rfl) (.roB rfl rfl)) rfl ?_
  rintro _ _ ⟨rfl, hp | hp⟩
  all_goals conv => whnf
  all_goals
    skip
  · exact .t hp
  · exact .f hp
theorem is41a (w : Wd) (hf : w.Fits) {H : AHeap} {i j : Nat} (hi : At H 1 (ints w.stem) i) (hj : At H 1 (ints w.loop) j) : CallW Tryd.prog 41 [w.av i j] H fun v H' => H' = H ∧ IsB v (w.Ok 6) := rdAt (is41 w hf) IsB.noRef hi hj
theorem wd_take (s : List Int) : (s.drop 0).take (s.length - 0) = s := by simp
theorem Wd.Ok.s32 {w : Wd} {n : Int} (h : w.Ok n) : w.stem.length ≤ 4294967296 := by have := h.m; omega
theorem Wd.Ok.l32 {w : Wd} {n : Int} (h : w.Ok n) : w.loop.length ≤ 4294967296 := by have := h.m; omega
def errP : Pw := ⟨[], 0, []⟩
open Classical in
noncomputable def outN (w : Wd) : Pw × Int := if w.Ok 6 then (nfP w.stem w.loop, 0) else (errP, 1)
/-- What a function answers that makes a word. -/
def Makes (w : Wd) (X : Pw × Int) (v : AVal) (H' : AHeap) : Prop := v = .tuple [X.1.av 2 3, .int .i64 X.2] ∧ H' = ((wh w.stem w.loop).alloc (vB X.1.full)).alloc (vB X.1.loop)
theorem normal10 (w : Wd) (hf : w.Fits) : CallW Tryd.prog 10 [w.av 0 1] (wh w.stem w.loop) (Makes w (outN w)) := by
  unfold Makes
  refine CallW.tells ?_
  refine CallW.symRK (cuts := []) Tryd.func10 rfl (by kernel_rfl) ?_
  conv => whnf
  repeat' (refine Gets.of _ rfl ?_; conv => whnf)
  refine CallS.of (by kernel_rfl) (valid26a w hf 6 (.roB rfl rfl) (.roB rfl rfl)) rfl ?_
  rintro _ _ ⟨rfl, hp | hp⟩
  all_goals conv => whnf
  all_goals
    repeat' (refine Gets.of _ rfl ?_; conv => whnf)
  · unfold outN
    rw [if_pos hp]
    refine CallS.of (by kernel_rfl) (mkAt (normal36 w.stem w.loop 0 (Nat.zero_le _) hp.s32 hp.p hp.l32) (.roB rfl rfl) (.roB rfl rfl)) rfl ?_
    rintro _ _ ⟨rfl, rfl⟩
    conv => whnf
    repeat' (refine Gets.of _ rfl ?_; conv => whnf)
    exact ⟨renL [0, 1, 4, 5] 6, .tuple [(nfP w.stem w.loop).av 2 3, .int .i64 0], ((wh w.stem w.loop).alloc (vB (nfP w.stem w.loop).full)).alloc (vB (nfP w.stem w.loop).loop), EmbL.litsN [0, 1, 4, 5] rfl rfl rfl rfl (.cons ⟨rfl, .inl ⟨rfl, fun h => h⟩⟩ (.cons ⟨rfl, .inl ⟨rfl, fun h => h⟩⟩ .nil)) (.cons ⟨rfl, .roI⟩ (.cons ⟨rfl, .roI⟩ (.cons ⟨rfl, .vS rfl⟩ (.cons ⟨rfl, .vS rfl⟩ .nil)))), rfl, _, ⟨rfl, rfl⟩, Tells.refl _ _⟩
  · unfold outN
    rw [if_neg hp]
    exact ⟨renL [0, 1, 2, 3] 4, .tuple [.agg [.nilSlice, .nilSlice], .int .i64 1], ((wh w.stem w.loop).alloc (vB [])).alloc (vB []), EmbL.litsN [0, 1, 2, 3] rfl rfl rfl rfl (.cons ⟨rfl, .inl ⟨rfl, fun h => h⟩⟩ (.cons ⟨rfl, .inl ⟨rfl, fun h => h⟩⟩ .nil)) (.cons ⟨rfl, .roI⟩ (.cons ⟨rfl, .roI⟩ (.cons ⟨rfl, .roEc⟩ (.cons ⟨rfl, .roEc⟩ .nil)))), rfl, _, ⟨rfl, rfl⟩, Tells.tup (.cons (Tells.agg (.cons (Tells.nilView rfl) (.cons (Tells.nilView rfl) .nil))) (.cons (Tells.refl _ _) .nil))⟩
theorem normal21 (w : Wd) (hf : w.Fits) : CallW Tryd.prog 21 [w.av 0 1] (wh w.stem w.loop) (Makes w (outN w)) := by
  unfold Makes
  refine CallW.tells ?_
  refine CallW.symRK (cuts := []) Tryd.func21 rfl (by kernel_rfl) ?_
  conv => whnf
  repeat' (refine Gets.of _ rfl ?_; conv => whnf)
  refine CallS.of (by kernel_rfl) (is41a w hf (.roB rfl rfl) (.roB rfl rfl)) rfl ?_
  rintro _ _ ⟨rfl, hp | hp⟩
  all_goals conv => whnf
  all_goals
    repeat' (refine Gets.of _ rfl ?_; conv => whnf)
  · unfold outN
    rw [if_pos hp]
    refine CallS.of (by kernel_rfl) (mkAt (norm44 w.stem w.loop 0 (Nat.zero_le _) hp.s32 hp.p hp.l32) (.roB rfl rfl) (.roB rfl rfl)) rfl ?_
    rintro _ _ ⟨rfl, rfl⟩
    conv => whnf
    repeat' (refine Gets.of _ rfl ?_; conv => whnf)
    exact ⟨renL [0, 1, 4, 5] 6, .tuple [(nfP w.stem w.loop).av 2 3, .int .i64 0], ((wh w.stem w.loop).alloc (vB (nfP w.stem w.loop).full)).alloc (vB (nfP w.stem w.loop).loop), EmbL.litsN [0, 1, 4, 5] rfl rfl rfl rfl (.cons ⟨rfl, .inl ⟨rfl, fun h => h⟩⟩ (.cons ⟨rfl, .inl ⟨rfl, fun h => h⟩⟩ .nil)) (.cons ⟨rfl, .roI⟩ (.cons ⟨rfl, .roI⟩ (.cons ⟨rfl, .vS rfl⟩ (.cons ⟨rfl, .vS rfl⟩ .nil)))), rfl, _, ⟨rfl, rfl⟩, Tells.refl _ _⟩
  · unfold outN
    rw [if_neg hp]
    exact ⟨renL [0, 1, 2, 3] 4, .tuple [.agg [.nilSlice, .nilSlice], .int .i64 1], ((wh w.stem w.loop).alloc (vB [])).alloc (vB []), EmbL.litsN [0, 1, 2, 3] rfl rfl rfl rfl (.cons ⟨rfl, .inl ⟨rfl, fun h => h⟩⟩ (.cons ⟨rfl, .inl ⟨rfl, fun h => h⟩⟩ .nil)) (.cons ⟨rfl, .roI⟩ (.cons ⟨rfl, .roI⟩ (.cons ⟨rfl, .roEc⟩ (.cons ⟨rfl, .roEc⟩ .nil)))), rfl, _, ⟨rfl, rfl⟩, Tells.tup (.cons (Tells.agg (.cons (Tells.nilView rfl) (.cons (Tells.nilView rfl) .nil))) (.cons (Tells.refl _ _) .nil))⟩
open Classical in
noncomputable def outA (w : Wd) (k : Int) : Int × Int := if w.Ok 6 then (if k < 0 then (0, 6) else (w.lt k.toNat, 0)) else (0, 1)
theorem at43a (w : Wd) (hf : w.Fits) (hl : 0 < w.loop.length) (k : Nat) (hk : k ≤ 9223372036854775807) {H : AHeap} {i j : Nat} (hi : At H 1 (ints w.stem) i) (hj : At H 1 (ints w.loop) j) : CallW Tryd.prog 43 [w.av i j, .int .i64 (k : Int)] H fun v H' => H' = H ∧ v = .int .i64 (w.lt k) := rdAt (at43 w hf hl k hk) (by rintro _ rfl; rfl) hi hj
theorem letters12a (w : Wd) (hf : w.Fits) (hl : 0 < w.loop.length) (k : Nat) (hk : k ≤ 9223372036854775807) {H : AHeap} {i j : Nat} (hi : At H 1 (ints w.stem) i) (hj : At H 1 (ints w.loop) j) : CallW Tryd.prog 12 [w.av i j, .int .i64 (k : Int)] H fun v H' => H' = H ∧ v = .int .i64 (w.lt k) := rdAt (letters12 w hf hl k hk) (by rintro _ rfl; rfl) hi hj
theorem at19 (w : Wd) (hf : w.Fits) (k : Int) (hk : k ≤ 9223372036854775807) : CallW Tryd.prog 19 [w.av 0 1, .int .i64 k] (wh w.stem w.loop) fun v _ => v = .tuple [.int .i64 (outA w k).1, .int .i64 (outA w k).2] := by
  refine CallW.symK (cuts := []) Tryd.func19 rfl (by kernel_rfl) ?_
  conv => whnf
  repeat' (refine Gets.of _ rfl ?_; conv => whnf)
  refine CallS.of (by kernel_rfl) (valid26a w hf 6 (.roB rfl rfl) (.roB rfl rfl)) rfl ?_
  rintro _ _ ⟨rfl, hp | hp⟩
  all_goals conv => whnf
  all_goals unfold outA
  · rw [if_pos hp]
    repeat' first | (refine Gets.of _ rfl ?_; conv => whnf) | (refine Fork.dec (fun _ => ?_) (fun _ => ?_) <;> first | (exfalso; omega) | (conv => whnf))
    · rw [if_pos (by assumption)]
    · rename_i h
      rw [if_neg h]
      obtain ⟨n, rfl⟩ : ∃ n : Nat, k = (n : Int) := ⟨k.toNat, by omega⟩
      refine CallS.of (by kernel_rfl) (at43a w hf hp.p n (by omega) (.roB rfl rfl) (.roB rfl rfl)) rfl ?_
      rintro _ _ ⟨rfl, rfl⟩
      conv => whnf
      skip
      rfl
  · rw [if_neg hp]
    skip
theorem at19a (w : Wd) (hf : w.Fits) (k : Int) (hk : k ≤ 9223372036854775807) {H : AHeap} {i j : Nat} (hi : At H 1 (ints w.stem) i) (hj : At H 1 (ints w.loop) j) : CallW Tryd.prog 19 [w.av i j, .int .i64 k] H fun v H' => H' = H ∧ v = .tuple [.int .i64 (outA w k).1, .int .i64 (outA w k).2] := rdAt (at19 w hf k hk) (by rintro _ rfl; rfl) hi hj
theorem at20 (w : Wd) (hf : w.Fits) (k : Int) (hk : k ≤ 9223372036854775807) : CallW Tryd.prog 20 [w.av 0 1, .int .i64 k] (wh w.stem w.loop) fun v _ => v = .tuple [.int .i64 (outA w k).1, .int .i64 (outA w k).2] := by
  refine CallW.symK (cuts := []) Tryd.func20 rfl (by kernel_rfl) ?_
  conv => whnf
  repeat' (refine Gets.of _ rfl ?_; conv => whnf)
  refine CallS.of (by kernel_rfl) (is41a w hf (.roB rfl rfl) (.roB rfl rfl)) rfl ?_
  rintro _ _ ⟨rfl, hp | hp⟩
  all_goals conv => whnf
  all_goals unfold outA
  · rw [if_pos hp]
    repeat' first | (refine Gets.of _ rfl ?_; conv => whnf) | (refine Fork.dec (fun _ => ?_) (fun _ => ?_) <;> first | (exfalso; omega) | (conv => whnf))
    · rw [if_pos (by assumption)]
    · rename_i h
      rw [if_neg h]
      obtain ⟨n, rfl⟩ : ∃ n : Nat, k = (n : Int) := ⟨k.toNat, by omega⟩
      refine CallS.of (by kernel_rfl) (letters12a w hf hp.p n (by omega) (.roB rfl rfl) (.roB rfl rfl)) rfl ?_
      rintro _ _ ⟨rfl, rfl⟩
      conv => whnf
      skip
      rfl
  · rw [if_neg hp]
    skip
theorem at20a (w : Wd) (hf : w.Fits) (k : Int) (hk : k ≤ 9223372036854775807) {H : AHeap} {i j : Nat} (hi : At H 1 (ints w.stem) i) (hj : At H 1 (ints w.loop) j) : CallW Tryd.prog 20 [w.av i j, .int .i64 k] H fun v H' => H' = H ∧ v = .tuple [.int .i64 (outA w k).1, .int .i64 (outA w k).2] := rdAt (at20 w hf k hk) (by rintro _ rfl; rfl) hi hj
end Go.Proofs.YthjemhlcojmiaaaDoor

/- The rest of a word. -/
-- VkG VkH
set_option linter.unusedVariables false
set_option linter.unusedSimpArgs false
set_option maxRecDepth 100000
set_option maxHeartbeats 1000000
namespace Go.Proofs.YthjemhlcojmiaaaDoor
open Go Go.Vh Go.Vk Go.Proofs
def turn (l : List Int) (r : Nat) : List Int := l.drop r ++ l.take r
theorem turn_length (l : List Int) (r : Nat) : (turn l r).length = l.length := by
  unfold turn
  rw [List.length_append, List.length_drop, List.length_take]
  omega
theorem turn_parts (l : List Int) (r : Nat) : (l.drop r).take (l.length - r) ++ (l.drop 0).take r = turn l r := by
  unfold turn
  rw [List.take_of_length_le (by rw [List.length_drop]; exact Nat.le_refl _), List.drop_zero]
noncomputable def restP (w : Wd) (k : Nat) : Pw := if k ≤ w.stem.length then nfP (w.stem.drop k) w.loop else nfP [] (turn w.loop ((k - w.stem.length) % w.loop.length))
theorem rest46 (w : Wd) (h : w.Ok 6) (k : Nat) (hk : k ≤ 9223372036854775807) : CallW Tryd.prog 46 [w.av 0 1, .int .i64 (k : Int)] (wh w.stem w.loop) fun v H' => v = (restP w k).av 2 3 ∧ H' = ((wh w.stem w.loop).alloc (vB (restP w k).full)).alloc (vB (restP w k).loop) := by
  have hs := h.s32
  have hl := h.l32
  have h0 := h.p
  refine CallW.symRK (cuts := []) Tryd.func46 rfl (by kernel_rfl) ?_
  conv => whnf
  repeat' first | ((with_reducible refine Gets.remN ?_ ?_ ?_); (· omega); (· omega); conv => whnf) | ((with_reducible refine Gets.subI ?_ ?_ ?_); (· omega); (· omega); conv => whnf) | (refine Gets.of _ rfl ?_; conv => whnf) | (refine Fork.dec (fun _ => ?_) (fun _ => ?_) <;> first | (exfalso; omega) | (conv => whnf))
  · refine CodeS.drawT [2] (.take 0 (.take 1 (.take 2 (.take 3 (.take 4 (.take 5 (.take 6 (.one 7 true (.one 8 false .done))))))))) mixed (by kernel_rfl) (.cons ⟨rfl, trivial⟩ .nil) ?_
    conv => whnf
    repeat' first | ((refine Gets.sliceLoW (k := k) rfl rfl rfl ⟨_, .inl rfl⟩ (by omega) ?_); conv => whnf) | (refine Gets.of _ rfl ?_; conv => whnf)
    refine CallPS.of (by kernel_rfl) (mkAt (norm44 w.stem w.loop k (by omega) hs h0 hl) (.roB rfl rfl) (.roB rfl rfl)) rfl ?_
    rintro _ _ ⟨rfl, rfl⟩
    have e : restP w k = nfP (w.stem.drop k) w.loop := if_pos (by omega)
    rw [e]
    conv => whnf
    repeat' first | (refine Gets.of _ rfl ?_; conv => whnf) | (refine Chk.mk (by repeat first | exact .nil | refine .cons rfl ?_) ?_; conv => whnf)
    exact ⟨renL [0, 1, 4, 5] 6, (nfP (w.stem.drop k) w.loop).av 2 3, ((wh w.stem w.loop).alloc (vB (nfP (w.stem.drop k) w.loop).full)).alloc (vB (nfP (w.stem.drop k) w.loop).loop), EmbL.litsN [0, 1, 4, 5] rfl rfl rfl rfl (.cons ⟨rfl, .inl ⟨rfl, fun h => h⟩⟩ (.cons ⟨rfl, .inl ⟨rfl, fun h => h⟩⟩ .nil)) (.cons ⟨rfl, .roI⟩ (.cons ⟨rfl, .roI⟩ (.cons ⟨rfl, .vS rfl⟩ (.cons ⟨rfl, .vS rfl⟩ .nil)))), rfl, rfl, rfl⟩
  · have hmod := Nat.mod_lt (k - w.stem.length) h0
    have er : ((k : Int) - (w.stem.length : Int)) % (w.loop.length : Int) = (((k - w.stem.length) % w.loop.length : Nat) : Int) := by rw [show (k : Int) - (w.stem.length : Int) = ((k - w.stem.length : Nat) : Int) by omega]; rfl
    have e : restP w k = nfP [] (turn w.loop ((k - w.stem.length) % w.loop.length)) := if_neg (by omega)
    rw [e, er]
    obtain ⟨r, hr⟩ : ∃ r, r = (k - w.stem.length) % w.loop.length := ⟨_, rfl⟩
    rw [← hr] at hmod ⊢
    have hlen := turn_length w.loop r
    refine CodeS.drawT [2] (.take 1 (.take 2 (.take 3 (.take 4 (.take 6 (.take 7 (.take 8 (.take 9 (.one 0 true (.one 5 true (.one 10 true (.take 11 (.one 12 true (.one 13 false .done)))))))))))))) mixed (by kernel_rfl) (.cons ⟨rfl, trivial⟩ .nil) ?_
    conv => whnf
    repeat' first | ((refine Gets.sliceLoW (k := r) rfl rfl rfl ⟨_, .inl rfl⟩ (by omega) ?_); conv => whnf) | ((refine Gets.sliceHiW (k := r) rfl rfl rfl ⟨_, .inl rfl⟩ (by omega) ?_); conv => whnf) | (refine Gets.of _ rfl ?_; conv => whnf) | (refine Chk.mk (by repeat first | exact .nil | refine .cons rfl ?_) ?_; conv => whnf)
    refine Gets.appSrc (ti := tiI) (l := []) (xs := (w.loop.drop r).take (w.loop.length - r)) (m := 0) (n := w.loop.length - r) rfl rfl rfl rfl rfl (by decide) (Nat.le_refl _) (src_part (by omega) (.inl rfl)).2 rfl (by omega) ?_
    rw [show [].take 0 ++ (w.loop.drop r).take (w.loop.length - r) = (w.loop.drop r).take (w.loop.length - r) from rfl, show 0 + (w.loop.length - r) = w.loop.length - r by omega]
    conv => whnf
    repeat' (refine Chk.mk (by repeat first | exact .nil | refine .cons rfl ?_) ?_; conv => whnf)
    refine Gets.appSrc (ti := tiI) (l := (w.loop.drop r).take (w.loop.length - r)) (xs := (w.loop.drop 0).take r) (m := w.loop.length - r) (n := r) rfl rfl rfl rfl rfl (by decide) (by rw [List.length_take, List.length_drop]; omega) (src_part (by omega) (.inl rfl)).2 rfl (by omega) ?_
    rw [show ((w.loop.drop r).take (w.loop.length - r)).take (w.loop.length - r) = (w.loop.drop r).take (w.loop.length - r) by rw [List.take_take, Nat.min_self], turn_parts, show w.loop.length - r + r = (turn w.loop r).length by omega]
    conv => whnf
    repeat' (refine Chk.mk (by repeat first | exact .nil | refine .cons rfl ?_) ?_; conv => whnf)
    refine CallPS.of (by kernel_rfl) ((mkAt (norm44 [] (turn w.loop r) 0 (Nat.zero_le _) (by decide) (by omega) (by omega)) (i := 0) (Spare.at ⟨rfl, _, .inl rfl⟩) (.celB rfl rfl)).argsT (.cons (Tells.agg (.cons (Tells.nilView rfl) (.cons Tells.sliceView .nil))) .nil)) rfl ?_
    rintro _ _ ⟨rfl, rfl⟩
    conv => whnf
    repeat' first | (refine Gets.of _ rfl ?_; conv => whnf) | (refine Chk.mk (by repeat first | exact .nil | refine .cons rfl ?_) ?_; conv => whnf)
    exact ⟨renL [0, 1, 7, 8] 9, (nfP [] (turn w.loop r)).av 2 3, ((wh w.stem w.loop).alloc (vB [])).alloc (vB (nfP [] (turn w.loop r)).loop), EmbL.litsN [0, 1, 7, 8] rfl rfl rfl rfl (.cons ⟨rfl, .inl ⟨rfl, fun h => h⟩⟩ (.cons ⟨rfl, .inl ⟨rfl, fun h => h⟩⟩ .nil)) (.cons ⟨rfl, .roI⟩ (.cons ⟨rfl, .roI⟩ (.cons ⟨rfl, .roE⟩ (.cons ⟨rfl, .vS rfl⟩ .nil)))), rfl, rfl, rfl⟩
open Classical in
noncomputable def outF (w : Wd) (k : Int) : Pw × Int := if w.Ok 6 then (if k < 0 then (errP, 6) else (restP w k.toNat, 0)) else (errP, 1)
theorem from22 (w : Wd) (hf : w.Fits) (k : Int) (hk : k ≤ 9223372036854775807) : CallW Tryd.prog 22 [w.av 0 1, .int .i64 k] (wh w.stem w.loop) (Makes w (outF w k)) := by
  unfold Makes
  refine CallW.tells ?_
  refine CallW.symRK (cuts := []) Tryd.func22 rfl (by kernel_rfl) ?_
  conv => whnf
  repeat' (refine Gets.of _ rfl ?_; conv => whnf)
  refine CallS.of (by kernel_rfl) (valid26a w hf 6 (.roB rfl rfl) (.roB rfl rfl)) rfl ?_
  rintro _ _ ⟨rfl, hp | hp⟩
  all_goals conv => whnf
  all_goals unfold outF
  · rw [if_pos hp]
    have hs := hp.s32
    have hl := hp.l32
    have h0 := hp.p
    rcases (by omega : k < 0 ∨ 0 ≤ k) with hk0 | hk0
    · repeat' first | (refine Gets.of _ rfl ?_; conv => whnf) | (refine Fork.dec (fun _ => ?_) (fun _ => ?_) <;> first | (exfalso; omega) | (conv => whnf))
      rw [if_pos hk0]
      exact ⟨renL [0, 1, 2, 3] 4, .tuple [.agg [.nilSlice, .nilSlice], .int .i64 6], ((wh w.stem w.loop).alloc (vB [])).alloc (vB []), EmbL.litsN [0, 1, 2, 3] rfl rfl rfl rfl (.cons ⟨rfl, .inl ⟨rfl, fun h => h⟩⟩ (.cons ⟨rfl, .inl ⟨rfl, fun h => h⟩⟩ .nil)) (.cons ⟨rfl, .roI⟩ (.cons ⟨rfl, .roI⟩ (.cons ⟨rfl, .roEc⟩ (.cons ⟨rfl, .roEc⟩ .nil)))), rfl, _, ⟨rfl, rfl⟩, Tells.tup (.cons (Tells.agg (.cons (Tells.nilView rfl) (.cons (Tells.nilView rfl) .nil))) (.cons (Tells.refl _ _) .nil))⟩
    · obtain ⟨n, rfl⟩ : ∃ n : Nat, k = (n : Int) := ⟨k.toNat, by omega⟩
      rw [if_neg (by omega), show ((n : Int)).toNat = n from rfl]
      repeat' first | ((with_reducible refine Gets.remN ?_ ?_ ?_); (· omega); (· omega); conv => whnf) | ((with_reducible refine Gets.subI ?_ ?_ ?_); (· omega); (· omega); conv => whnf) | (refine Gets.of _ rfl ?_; conv => whnf) | (refine Fork.noR rfl ?_; conv => whnf) | (refine Fork.dec (fun _ => ?_) (fun _ => ?_) <;> first | (exfalso; omega) | (conv => whnf))
      · refine CodeS.drawT [2] (.take 0 (.take 1 (.take 2 (.take 3 (.take 4 (.take 5 (.take 6 (.one 7 true (.one 8 false (.take 9 .done)))))))))) mixed (by kernel_rfl) (.cons ⟨rfl, trivial⟩ .nil) ?_
        conv => whnf
        repeat' first | ((refine Gets.sliceLoW (k := n) rfl rfl rfl ⟨_, .inl rfl⟩ (by omega) ?_); conv => whnf) | (refine Gets.of _ rfl ?_; conv => whnf)
        refine CallPS.of (by kernel_rfl) (mkAt (normal36 w.stem w.loop n (by omega) hs h0 hl) (.roB rfl rfl) (.roB rfl rfl)) rfl ?_
        rintro _ _ ⟨rfl, rfl⟩
        have e : restP w n = nfP (w.stem.drop n) w.loop := if_pos (by omega)
        rw [e]
        conv => whnf
        repeat' first | (refine Gets.of _ rfl ?_; conv => whnf) | (refine Chk.mk (by repeat first | exact .nil | refine .cons rfl ?_) ?_; conv => whnf)
        exact ⟨renL [0, 1, 4, 5] 6, .tuple [(nfP (w.stem.drop n) w.loop).av 2 3, .int .i64 0], ((wh w.stem w.loop).alloc (vB (nfP (w.stem.drop n) w.loop).full)).alloc (vB (nfP (w.stem.drop n) w.loop).loop), EmbL.litsN [0, 1, 4, 5] rfl rfl rfl rfl (.cons ⟨rfl, .inl ⟨rfl, fun h => h⟩⟩ (.cons ⟨rfl, .inl ⟨rfl, fun h => h⟩⟩ .nil)) (.cons ⟨rfl, .roI⟩ (.cons ⟨rfl, .roI⟩ (.cons ⟨rfl, .vS rfl⟩ (.cons ⟨rfl, .vS rfl⟩ .nil)))), rfl, _, ⟨rfl, rfl⟩, Tells.refl _ _⟩
      · have hmod := Nat.mod_lt (n - w.stem.length) h0
        have er : ((n : Int) - (w.stem.length : Int)) % (w.loop.length : Int) = (((n - w.stem.length) % w.loop.length : Nat) : Int) := by rw [show (n : Int) - (w.stem.length : Int) = ((n - w.stem.length : Nat) : Int) by omega]; rfl
        have e : restP w n = nfP [] (turn w.loop ((n - w.stem.length) % w.loop.length)) := if_neg (by omega)
        rw [e, er]
        obtain ⟨r, hr⟩ : ∃ r, r = (n - w.stem.length) % w.loop.length := ⟨_, rfl⟩
        rw [← hr] at hmod ⊢
        have hlen := turn_length w.loop r
        refine CodeS.drawT [2] (.take 0 (.take 1 (.take 2 (.take 3 (.take 4 (.take 5 (.take 6 (.take 7 (.one 8 true (.one 9 true (.take 10 (.one 11 true (.one 12 false (.take 13 .done)))))))))))))) mixed (by kernel_rfl) (.cons ⟨rfl, trivial⟩ .nil) ?_
        conv => whnf
        repeat' first | ((refine Gets.sliceLoW (k := r) rfl rfl rfl ⟨_, .inl rfl⟩ (by omega) ?_); conv => whnf) | ((refine Gets.sliceHiW (k := r) rfl rfl rfl ⟨_, .inl rfl⟩ (by omega) ?_); conv => whnf) | (refine Gets.of _ rfl ?_; conv => whnf) | (refine Chk.mk (by repeat first | exact .nil | refine .cons rfl ?_) ?_; conv => whnf)
        refine CallPS.of (by kernel_rfl) ((concatV w.loop w.loop r (w.loop.length - r) 0 r (by omega) (by omega) (by omega) (by omega)).frameQ [1, 1, 4] rfl (.cons ⟨rfl, .roI⟩ (.cons ⟨rfl, .roI⟩ (.cons ⟨rfl, .roCs rfl⟩ .nil))) (by rintro _ _ ⟨rfl, rfl⟩; repeat first | exact .nil | refine .cons (by first | exact .inr rfl | exact .inl rfl | exact .inr (fresh_oN _) | exact .inr (fresh_oP _) | exact .inr (fresh_oI _)) ?_)) rfl ?_
        rintro _ _ ⟨_, _, ⟨rfl, rfl⟩, rfl, rfl⟩
        rw [turn_parts, show w.loop.length - r + r = (turn w.loop r).length by omega]
        conv => whnf
        repeat' (refine Chk.mk (by repeat first | exact .nil | refine .cons rfl ?_) ?_; conv => whnf)
        refine CallPS.of (by kernel_rfl) ((mkAt (normal36 [] (turn w.loop r) 0 (Nat.zero_le _) (by decide) (by omega) (by omega)) (i := 0) (j := 5) (Spare.at ⟨rfl, _, .inl rfl⟩) (At.renC rfl rfl)).argsT (.cons (Tells.agg (.cons (Tells.nilView rfl) (.cons Tells.sliceView .nil))) .nil)) rfl ?_
        rintro _ _ ⟨rfl, rfl⟩
        conv => whnf
        repeat' first | (refine Gets.of _ rfl ?_; conv => whnf) | (refine Chk.mk (by repeat first | exact .nil | refine .cons rfl ?_) ?_; conv => whnf)
        exact ⟨renL [0, 1, 6, 7] 8, .tuple [(nfP [] (turn w.loop r)).av 2 3, .int .i64 0], ((wh w.stem w.loop).alloc (vB [])).alloc (vB (nfP [] (turn w.loop r)).loop), EmbL.litsN [0, 1, 6, 7] rfl rfl rfl rfl (.cons ⟨rfl, .inl ⟨rfl, fun h => h⟩⟩ (.cons ⟨rfl, .inl ⟨rfl, fun h => h⟩⟩ .nil)) (.cons ⟨rfl, .roI⟩ (.cons ⟨rfl, .roI⟩ (.cons ⟨rfl, .roE⟩ (.cons ⟨rfl, .vS rfl⟩ .nil)))), rfl, _, ⟨rfl, rfl⟩, Tells.refl _ _⟩
  · rw [if_neg hp]
    repeat' (refine Gets.of _ rfl ?_; conv => whnf)
    exact ⟨renL [0, 1, 2, 3] 4, .tuple [.agg [.nilSlice, .nilSlice], .int .i64 1], ((wh w.stem w.loop).alloc (vB [])).alloc (vB []), EmbL.litsN [0, 1, 2, 3] rfl rfl rfl rfl (.cons ⟨rfl, .inl ⟨rfl, fun h => h⟩⟩ (.cons ⟨rfl, .inl ⟨rfl, fun h => h⟩⟩ .nil)) (.cons ⟨rfl, .roI⟩ (.cons ⟨rfl, .roI⟩ (.cons ⟨rfl, .roEc⟩ (.cons ⟨rfl, .roEc⟩ .nil)))), rfl, _, ⟨rfl, rfl⟩, Tells.tup (.cons (Tells.agg (.cons (Tells.nilView rfl) (.cons (Tells.nilView rfl) .nil))) (.cons (Tells.refl _ _) .nil))⟩
theorem from23 (w : Wd) (hf : w.Fits) (k : Int) (hk : k ≤ 9223372036854775807) : CallW Tryd.prog 23 [w.av 0 1, .int .i64 k] (wh w.stem w.loop) (Makes w (outF w k)) := by
  unfold Makes
  refine CallW.tells ?_
  refine CallW.symRK (cuts := []) Tryd.func23 rfl (by kernel_rfl) ?_
  conv => whnf
  repeat' (refine Gets.of _ rfl ?_; conv => whnf)
  refine CallS.of (by kernel_rfl) (is41a w hf (.roB rfl rfl) (.roB rfl rfl)) rfl ?_
  rintro _ _ ⟨rfl, hp | hp⟩
  all_goals conv => whnf
  all_goals unfold outF
  · rw [if_pos hp]
    have hs := hp.s32
    have hl := hp.l32
    have h0 := hp.p
    rcases (by omega : k < 0 ∨ 0 ≤ k) with hk0 | hk0
    · repeat' first | (refine Gets.of _ rfl ?_; conv => whnf) | (refine Fork.dec (fun _ => ?_) (fun _ => ?_) <;> first | (exfalso; omega) | (conv => whnf))
      rw [if_pos hk0]
      exact ⟨renL [0, 1, 2, 3] 4, .tuple [.agg [.nilSlice, .nilSlice], .int .i64 6], ((wh w.stem w.loop).alloc (vB [])).alloc (vB []), EmbL.litsN [0, 1, 2, 3] rfl rfl rfl rfl (.cons ⟨rfl, .inl ⟨rfl, fun h => h⟩⟩ (.cons ⟨rfl, .inl ⟨rfl, fun h => h⟩⟩ .nil)) (.cons ⟨rfl, .roI⟩ (.cons ⟨rfl, .roI⟩ (.cons ⟨rfl, .roEc⟩ (.cons ⟨rfl, .roEc⟩ .nil)))), rfl, _, ⟨rfl, rfl⟩, Tells.tup (.cons (Tells.agg (.cons (Tells.nilView rfl) (.cons (Tells.nilView rfl) .nil))) (.cons (Tells.refl _ _) .nil))⟩
    · obtain ⟨n, rfl⟩ : ∃ n : Nat, k = (n : Int) := ⟨k.toNat, by omega⟩
      rw [if_neg (by omega), show ((n : Int)).toNat = n from rfl]
      repeat' first | (refine Gets.of _ rfl ?_; conv => whnf) | (refine Fork.noR rfl ?_; conv => whnf)
      refine CallS.of (by kernel_rfl) (mkAt (rest46 w hp n (by omega)) (.roB rfl rfl) (.roB rfl rfl)) rfl ?_
      rintro _ _ ⟨rfl, rfl⟩
      conv => whnf
      repeat' (refine Gets.of _ rfl ?_; conv => whnf)
      exact ⟨renL [0, 1, 4, 5] 6, .tuple [(restP w n).av 2 3, .int .i64 0], ((wh w.stem w.loop).alloc (vB (restP w n).full)).alloc (vB (restP w n).loop), EmbL.litsN [0, 1, 4, 5] rfl rfl rfl rfl (.cons ⟨rfl, .inl ⟨rfl, fun h => h⟩⟩ (.cons ⟨rfl, .inl ⟨rfl, fun h => h⟩⟩ .nil)) (.cons ⟨rfl, .roI⟩ (.cons ⟨rfl, .roI⟩ (.cons ⟨rfl, .vS rfl⟩ (.cons ⟨rfl, .vS rfl⟩ .nil)))), rfl, _, ⟨rfl, rfl⟩, Tells.refl _ _⟩
  · rw [if_neg hp]
    repeat' (refine Gets.of _ rfl ?_; conv => whnf)
    exact ⟨renL [0, 1, 2, 3] 4, .tuple [.agg [.nilSlice, .nilSlice], .int .i64 1], ((wh w.stem w.loop).alloc (vB [])).alloc (vB []), EmbL.litsN [0, 1, 2, 3] rfl rfl rfl rfl (.cons ⟨rfl, .inl ⟨rfl, fun h => h⟩⟩ (.cons ⟨rfl, .inl ⟨rfl, fun h => h⟩⟩ .nil)) (.cons ⟨rfl, .roI⟩ (.cons ⟨rfl, .roI⟩ (.cons ⟨rfl, .roEc⟩ (.cons ⟨rfl, .roEc⟩ .nil)))), rfl, _, ⟨rfl, rfl⟩, Tells.tup (.cons (Tells.agg (.cons (Tells.nilView rfl) (.cons (Tells.nilView rfl) .nil))) (.cons (Tells.refl _ _) .nil))⟩
end Go.Proofs.YthjemhlcojmiaaaDoor

/- Loops, as the reference makes them. -/
-- VkG VkH
set_option linter.unusedVariables false
set_option linter.unusedSimpArgs false
set_option maxRecDepth 100000
set_option maxHeartbeats 1000000
namespace Go.Proofs.YthjemhlcojmiaaaDoor
open Go Go.Vh Go.Vk Go.Proofs
/-- A row so many times. -/
def rep (l : List Int) : Nat → List Int
  | 0 => []
  | k + 1 => rep l k ++ l
theorem rep_length (l : List Int) : ∀ k, (rep l k).length = k * l.length
  | 0 => by simp [rep]
  | k + 1 => by rw [rep, List.length_append, rep_length l k, Nat.succ_mul]
open Classical in
noncomputable def outL (w : Wd) (k : Int) : Pw × Int := if w.Ok 6 then (if k < 1 then (⟨w.stem, 0, []⟩, 6) else if 200 < (w.stem.length : Int) + k * (w.loop.length : Int) then (⟨w.stem, 0, []⟩, 3) else (⟨w.stem, w.stem.length, rep w.loop k.toNat⟩, 0)) else (⟨w.stem, 0, []⟩, 1)
def Makes1 (w : Wd) (X : Pw × Int) (v : AVal) (H' : AHeap) : Prop := v = .tuple [X.1.av 0 2, .int .i64 X.2] ∧ H' = (wh w.stem w.loop).alloc (vB X.1.loop)
theorem loops25 (w : Wd) (hf : w.Fits) (k : Int) (hk : k ≤ 9223372036854775807) (hk' : -9223372036854775808 ≤ k) : CallW Tryd.prog 25 [w.av 0 1, .int .i64 k] (wh w.stem w.loop) (Makes1 w (outL w k)) := by
  unfold Makes1
  refine CallW.tells ?_
  refine CallW.symRK (cuts := []) Tryd.func25 rfl (by kernel_rfl) ?_
  conv => whnf
  repeat' (refine Gets.of _ rfl ?_; conv => whnf)
  refine CallS.of (by kernel_rfl) (is41a w hf (.roB rfl rfl) (.roB rfl rfl)) rfl ?_
  rintro _ _ ⟨rfl, hp | hp⟩
  all_goals conv => whnf
  all_goals unfold outL
  · rw [if_pos hp]
    have hm := hp.m
    have h0 := hp.p
    rcases (by omega : k < 1 ∨ 1 ≤ k) with hk0 | hk0
    · repeat' first | (refine Gets.of _ rfl ?_; conv => whnf) | (refine Fork.dec (fun _ => ?_) (fun _ => ?_) <;> first | (exfalso; omega) | (conv => whnf))
      rw [if_pos hk0]
      exact ⟨renL [0, 1, 2] 4, .tuple [.agg [.nilSlice, .nilSlice], .int .i64 6], (wh w.stem w.loop).alloc (vB []), EmbL.litsN [0, 1, 2] rfl rfl rfl rfl (.cons ⟨rfl, .inl ⟨rfl, fun h => h⟩⟩ (.cons ⟨rfl, .inl ⟨rfl, fun h => h⟩⟩ .nil)) (.cons ⟨rfl, .roI⟩ (.cons ⟨rfl, .roI⟩ (.cons ⟨rfl, .roEc⟩ .nil))), rfl, _, ⟨rfl, rfl⟩, Tells.tup (.cons (Tells.agg (.cons (Tells.nilView rfl) (.cons (Tells.nilView rfl) .nil))) (.cons (Tells.refl _ _) .nil))⟩
    · rw [if_neg (by omega)]
      have hkl := Int.mul_le_mul_of_nonneg_left (c := k) (a := 1) (b := (w.loop.length : Int)) (by omega) (by omega)
      obtain ⟨n, rfl⟩ : ∃ n : Nat, k = (n : Int) := ⟨k.toNat, by omega⟩
      rw [show ((n : Int)).toNat = n from rfl]
      rcases Nat.lt_or_ge 200 n with hn | hn
      · rw [if_pos (by omega)]
        repeat' first | (refine Gets.of _ rfl ?_; conv => whnf) | (refine Fork.dec (fun _ => ?_) (fun _ => ?_) <;> first | (exfalso; omega) | (conv => whnf))
        exact ⟨renL [0, 1, 2] 4, .tuple [.agg [.nilSlice, .nilSlice], .int .i64 3], (wh w.stem w.loop).alloc (vB []), EmbL.litsN [0, 1, 2] rfl rfl rfl rfl (.cons ⟨rfl, .inl ⟨rfl, fun h => h⟩⟩ (.cons ⟨rfl, .inl ⟨rfl, fun h => h⟩⟩ .nil)) (.cons ⟨rfl, .roI⟩ (.cons ⟨rfl, .roI⟩ (.cons ⟨rfl, .roEc⟩ .nil))), rfl, _, ⟨rfl, rfl⟩, Tells.tup (.cons (Tells.agg (.cons (Tells.nilView rfl) (.cons (Tells.nilView rfl) .nil))) (.cons (Tells.refl _ _) .nil))⟩
      · have hkr := Int.mul_le_mul_of_nonneg_right (c := (w.loop.length : Int)) (a := (n : Int)) (b := 200) (by omega) (by omega)
        repeat' first | ((with_reducible refine Gets.addI ?_ ?_ ?_); (· omega); (· omega); conv => whnf) | ((with_reducible refine Gets.mulI ?_ ?_ ?_); (· omega); (· omega); conv => whnf) | (refine Gets.of _ rfl ?_; conv => whnf) | (refine Fork.dec (fun _ => ?_) (fun _ => ?_) <;> first | (exfalso; omega) | (conv => whnf))
        · rw [if_pos (by omega)]
          exact ⟨renL [0, 1, 2] 4, .tuple [.agg [.nilSlice, .nilSlice], .int .i64 3], (wh w.stem w.loop).alloc (vB []), EmbL.litsN [0, 1, 2] rfl rfl rfl rfl (.cons ⟨rfl, .inl ⟨rfl, fun h => h⟩⟩ (.cons ⟨rfl, .inl ⟨rfl, fun h => h⟩⟩ .nil)) (.cons ⟨rfl, .roI⟩ (.cons ⟨rfl, .roI⟩ (.cons ⟨rfl, .roEc⟩ .nil))), rfl, _, ⟨rfl, rfl⟩, Tells.tup (.cons (Tells.agg (.cons (Tells.nilView rfl) (.cons (Tells.nilView rfl) .nil))) (.cons (Tells.refl _ _) .nil))⟩
        · rw [if_neg (show ¬ (200 < (w.stem.length : Int) + (n : Int) * (w.loop.length : Int)) by omega)]
          have hn40 : n * w.loop.length ≤ 200 * 200 := Nat.mul_le_mul hn (by omega)
          refine CodeS.loopGK (cuts := []) (σ := Nat) (fun i => [(2, .ptr 2 0), (4, .ptr 3 0), (6, .ptr 4 0), (35, .int .i64 (n : Int)), (36, .int .i64 (i : Int))]) (fun i => match i with
            | 0 => (((wh w.stem w.loop).alloc (.cells 1 [.view 0 0 w.stem.length, .view 1 0 w.loop.length])).alloc (.cells 1 [.nilSlice, .nilSlice])).alloc (.cells 1 [.view 0 0 w.stem.length, .nilSlice])
            | i + 1 => ((((wh w.stem w.loop).alloc (.cells 1 [.view 0 0 w.stem.length, .view 1 0 w.loop.length])).alloc (.cells 1 [.nilSlice, .nilSlice])).alloc (.cells 1 [.view 0 0 w.stem.length, .slice 5 0 (rep w.loop (i + 1)).length])).alloc (.cells 1 (ints (rep w.loop (i + 1))))) (fun i => i ≤ n) (fun i => n - i) 0 (renL [0, 1, 2, 3, 4] 5) (by kernel_rfl) (Nat.zero_le _) ⟨rfl, rfl, rfl, rfl, rfl, trivial⟩ (EmbL.litsN [0, 1, 2, 3, 4] rfl rfl rfl rfl (.cons ⟨rfl, .inl ⟨rfl, fun h => h⟩⟩ (.cons ⟨rfl, .inl ⟨rfl, fun h => h⟩⟩ .nil)) (.cons ⟨rfl, .roI⟩ (.cons ⟨rfl, .roI⟩ (.cons ⟨rfl, .inl rfl⟩ (.cons ⟨rfl, .inl rfl⟩ (.cons ⟨rfl, .inl rfl⟩ .nil)))))) ?_
          intro i g1
          rcases i with _ | i
          · conv => whnf
            repeat' first | ((refine Gets.appNilS (ti := tiI) (n := w.loop.length) (xs := ints w.loop) rfl rfl rfl rfl rfl (by decide) ((src_at rfl (.inl ⟨1, rfl, rfl⟩)).2) h0 (by omega) ?_); conv => whnf) | ((refine Gets.stS (ti := tiS) rfl rfl rfl rfl rfl rfl ?_); conv => whnf) | ((with_reducible refine Gets.addI ?_ ?_ ?_); (· omega); (· omega); conv => whnf) | (refine Gets.of _ rfl ?_; conv => whnf) | (refine Fork.dec (fun _ => ?_) (fun _ => ?_) <;> first | (exfalso; omega) | (conv => whnf))
            exact ⟨1, renL [0, 1, 2, 3, 4, 5] 6, by omega, by omega, ⟨rfl, rfl, rfl, rfl, rfl, trivial⟩, EmbL.litsN [0, 1, 2, 3, 4, 5] rfl rfl rfl rfl (.cons ⟨rfl, .inl ⟨rfl, fun h => h⟩⟩ (.cons ⟨rfl, .inl ⟨rfl, fun h => h⟩⟩ .nil)) (.cons ⟨rfl, .roI⟩ (.cons ⟨rfl, .roI⟩ (.cons ⟨rfl, .inl rfl⟩ (.cons ⟨rfl, .inl rfl⟩ (.cons ⟨rfl, .inl rfl⟩ (.cons ⟨rfl, .cellsI⟩ .nil))))))⟩
          · rcases Nat.lt_or_ge (i + 1) n with hi | hi
            · conv => whnf
              repeat' first | (refine Gets.of _ rfl ?_; conv => whnf) | (refine Fork.dec (fun _ => ?_) (fun _ => ?_) <;> first | (exfalso; omega) | (conv => whnf))
              have hle : (i + 2) * w.loop.length ≤ n * w.loop.length := Nat.mul_le_mul_right _ (by omega)
              have hr1 := rep_length w.loop (i + 1)
              have hr2 := rep_length w.loop (i + 2)
              have hap : (rep w.loop (i + 1)).length + w.loop.length = (rep w.loop (i + 2)).length := (List.length_append ..).symm
              refine Gets.appSrc (ti := tiI) (l := rep w.loop (i + 1)) (xs := w.loop) (m := (rep w.loop (i + 1)).length) (n := w.loop.length) rfl rfl rfl rfl rfl (by decide) (Nat.le_refl _) ((src_at rfl (.inl ⟨1, rfl, rfl⟩)).2) rfl (by omega) ?_
              rw [List.take_length, hap]
              conv => whnf
              repeat' first | ((refine Gets.stS (ti := tiS) rfl rfl rfl rfl rfl rfl ?_); conv => whnf) | ((with_reducible refine Gets.addI ?_ ?_ ?_); (· omega); (· omega); conv => whnf)
              exact ⟨i + 2, renL [0, 1, 2, 3, 4, 6] 7, by omega, by omega, ⟨rfl, rfl, rfl, rfl, rfl, trivial⟩, EmbL.litsN [0, 1, 2, 3, 4, 6] rfl rfl rfl rfl (.cons ⟨rfl, .inl ⟨rfl, fun h => h⟩⟩ (.cons ⟨rfl, .inl ⟨rfl, fun h => h⟩⟩ .nil)) (.cons ⟨rfl, .roI⟩ (.cons ⟨rfl, .roI⟩ (.cons ⟨rfl, .inl rfl⟩ (.cons ⟨rfl, .inl rfl⟩ (.cons ⟨rfl, .inl rfl⟩ (.cons ⟨rfl, .cellsI⟩ .nil))))))⟩
            · obtain rfl : n = i + 1 := by omega
              conv => whnf
              repeat' first | (refine Gets.of _ rfl ?_; conv => whnf) | (refine Fork.dec (fun _ => ?_) (fun _ => ?_) <;> first | (exfalso; omega) | (conv => whnf))
              exact ⟨renL [0, 1, 5] 6, .tuple [.agg [.view 0 0 w.stem.length, .slice 2 0 (rep w.loop (i + 1)).length], .int .i64 0], (wh w.stem w.loop).alloc (vB (rep w.loop (i + 1))), EmbL.litsN [0, 1, 5] rfl rfl rfl rfl (.cons ⟨rfl, .inl ⟨rfl, fun h => h⟩⟩ (.cons ⟨rfl, .inl ⟨rfl, fun h => h⟩⟩ .nil)) (.cons ⟨rfl, .roI⟩ (.cons ⟨rfl, .roI⟩ (.cons ⟨rfl, .vC rfl⟩ .nil))), rfl, _, ⟨rfl, rfl⟩, Tells.tup (.cons (Tells.agg (.cons (Tells.refl _ _) (.cons Tells.sliceView .nil))) (.cons (Tells.refl _ _) .nil))⟩
  · rw [if_neg hp]
    repeat' (refine Gets.of _ rfl ?_; conv => whnf)
    exact ⟨renL [0, 1, 2] 4, .tuple [.agg [.nilSlice, .nilSlice], .int .i64 1], (wh w.stem w.loop).alloc (vB []), EmbL.litsN [0, 1, 2] rfl rfl rfl rfl (.cons ⟨rfl, .inl ⟨rfl, fun h => h⟩⟩ (.cons ⟨rfl, .inl ⟨rfl, fun h => h⟩⟩ .nil)) (.cons ⟨rfl, .roI⟩ (.cons ⟨rfl, .roI⟩ (.cons ⟨rfl, .roEc⟩ .nil))), rfl, _, ⟨rfl, rfl⟩, Tells.tup (.cons (Tells.agg (.cons (Tells.nilView rfl) (.cons (Tells.nilView rfl) .nil))) (.cons (Tells.refl _ _) .nil))⟩
end Go.Proofs.YthjemhlcojmiaaaDoor
