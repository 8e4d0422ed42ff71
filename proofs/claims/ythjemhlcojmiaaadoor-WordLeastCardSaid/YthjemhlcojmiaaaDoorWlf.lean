/- WordForms: the law. -/
import Derived.Test.YthjemhlcojmiaaaDoorWsh
-- VkG VkH
set_option linter.unusedVariables false
set_option linter.unusedSimpArgs false
set_option maxRecDepth 100000
set_option maxHeartbeats 1000000
namespace Go.Proofs.YthjemhlcojmiaaaDoor
open Go Go.Vh Go.Vk Go.Proofs
theorem nfP_sz {S l : List Int} (hS : S.length ≤ 4294967296) (hl : l.length ≤ 4294967296) : (nfP S l).Sz := by
  refine ⟨Nat.sub_le _ _, hS, ?_⟩
  show (rot _ _).length ≤ _
  rw [rot_length, List.length_take]
  omega
theorem errP_sz : errP.Sz := ⟨Nat.le_refl _, Nat.zero_le _, Nat.zero_le _⟩
theorem outN_sz (w : Wd) : (outN w).1.Sz := by
  unfold outN
  split
  · rename_i h; exact nfP_sz h.s32 h.l32
  · exact errP_sz
theorem restP_sz {w : Wd} (h : w.Ok 6) (k : Nat) : (restP w k).Sz := by
  have h1 := h.s32
  have h2 := h.l32
  unfold restP
  split
  · exact nfP_sz (by rw [List.length_drop]; omega) h2
  · exact nfP_sz (by decide) (by rw [turn_length]; exact h2)
theorem outF_sz (w : Wd) (k : Int) : (outF w k).1.Sz := by
  unfold outF
  split
  · rename_i h
    split
    · exact errP_sz
    · exact restP_sz h _
  · exact errP_sz
theorem rep_sz {w : Wd} (h : w.Ok 6) {k : Int} (h1 : ¬ k < 1) (h2 : ¬ 200 < (w.stem.length : Int) + k * (w.loop.length : Int)) : (rep w.loop k.toNat).length ≤ 4294967296 := by
  obtain ⟨n, rfl⟩ : ∃ n : Nat, k = (n : Int) := ⟨k.toNat, by omega⟩
  rw [rep_length, show ((n : Int)).toNat = n from rfl]
  have e : (n : Int) * (w.loop.length : Int) = ((n * w.loop.length : Nat) : Int) := rfl
  rw [e] at h2
  omega
theorem outK_sz (w : Wd) (k : Int) : (outK w k).1.Sz := by
  unfold outK
  split
  · rename_i h
    split
    · exact errP_sz
    · rename_i h1
      split
      · exact errP_sz
      · rename_i h2
        exact ⟨Nat.le_refl _, h.s32, rep_sz h h1 h2⟩
  · exact errP_sz
theorem outL_sz (w : Wd) (hw : w.stem.length ≤ 4294967296) (k : Int) : (outL w k).1.Sz := by
  unfold outL
  split
  · rename_i h
    split
    · exact ⟨Nat.zero_le _, hw, Nat.zero_le _⟩
    · rename_i h1
      split
      · exact ⟨Nat.zero_le _, hw, Nat.zero_le _⟩
      · rename_i h2
        exact ⟨Nat.le_refl _, hw, rep_sz h h1 h2⟩
  · exact ⟨Nat.zero_le _, hw, Nat.zero_le _⟩
theorem outL_full (w : Wd) (k : Int) : (outL w k).1.full = w.stem := by
  unfold outL
  split
  · split
    · rfl
    · split <;> rfl
  · rfl
theorem outKL (w : Wd) (k : Int) : (outK w k).2 = (outL w k).2 ∧ (outK w k).1.wd = (outL w k).1.wd := by
  unfold outK outL
  split
  · split
    · exact ⟨rfl, by simp [Pw.wd, errP]⟩
    · split
      · exact ⟨rfl, by simp [Pw.wd, errP]⟩
      · exact ⟨rfl, rfl⟩
  · exact ⟨rfl, by simp [Pw.wd, errP]⟩
theorem mkAt1 {P : Program} {f : FuncId} {args : List AVal} {s l b : List Int} {v0 : AVal} (h : CallW P f args (wh s l) fun v H' => v = v0 ∧ H' = (wh s l).alloc (vB b)) {H : AHeap} {i j : Nat} (hi : At H 1 (ints s) i) (hj : At H 1 (ints l) j) :
    CallW P f (rens (fk [i, j] H.n) args) H fun v H' => v = ren (fk [i, j] H.n) v0 ∧ H' = H.alloc (vB b) := by
  refine (CallW.allocsAt (K := fun v bs => v = v0 ∧ bs = [vB b]) (h.mono ?_) [i, j] rfl (.cons ⟨_, _, rfl, hi⟩ (.cons ⟨_, _, rfl, hj⟩ .nil))).mono ?_
  · rintro _ _ ⟨rfl, rfl⟩; exact ⟨[vB b], rfl, by simp [vB_fresh], rfl, rfl⟩
  · rintro _ _ ⟨_, _, ⟨rfl, rfl⟩, rfl, rfl⟩
    exact ⟨rfl, by show H.alloc (renB _ (vB _)) = _; rw [renB_vB]⟩
theorem mkM {P : Program} {f : FuncId} {args : List AVal} {w : Wd} {X : Pw × Int} (h : CallW P f args (wh w.stem w.loop) (Makes w X)) {H : AHeap} {i j : Nat} (hi : At H 1 (ints w.stem) i) (hj : At H 1 (ints w.loop) j) :
    CallW P f (rens (fk [i, j] H.n) args) H fun v H' => v = .tuple [X.1.av H.n (H.n + 1), .int .i64 X.2] ∧ H' = (H.alloc (vB X.1.full)).alloc (vB X.1.loop) :=
  mkAt (v0 := .tuple [X.1.av 2 3, .int .i64 X.2]) h hi hj
theorem mkM1 {P : Program} {f : FuncId} {args : List AVal} {w : Wd} {X : Pw × Int} (h : CallW P f args (wh w.stem w.loop) (Makes1 w X)) {H : AHeap} {i j : Nat} (hi : At H 1 (ints w.stem) i) (hj : At H 1 (ints w.loop) j) :
    CallW P f (rens (fk [i, j] H.n) args) H fun v H' => v = .tuple [X.1.av i H.n, .int .i64 X.2] ∧ H' = H.alloc (vB X.1.loop) :=
  mkAt1 (v0 := .tuple [X.1.av 0 2, .int .i64 X.2]) h hi hj
theorem CodeS.canon {P : Program} {N n0 : Nat} {ρ : Option Nat} (cuts : List Nat) (el : List (Nat × AVal)) (G : AHeap) (κ : Nat → Nat) {c : Code} {e : Env} {H : AHeap} {K : Exit → Env → AHeap → Prop} (hok : okCode N c = true) (hk : keepsR κ el e) (hE : EmbL n0 κ G H)
    (h : sc P N ρ n0 cuts c (envOf el) G K) : CodeS P N ρ n0 c e H K := ⟨CWF.gcL hE (keepsR_spec _ hk) (sc_sound c _ _ _ hok h)⟩
def lw5 (w : Wd) : AHeap := ⟨3, fun i => match i with
  | 2 => .cells 1 [.view 0 0 w.stem.length, .view 1 0 w.loop.length]
  | i => (wh w.stem w.loop).f i, fun _ => 0⟩
def lw7 (w : Wd) (N : Pw) : AHeap := ⟨9, fun i => match i with
  | 3 => vB N.full | 4 => vB N.loop | 5 => .cells 1 [.view 3 0 N.n, .view 4 0 N.loop.length] | 6 => vB N.full | 7 => vB N.loop | 8 => .cells 1 [.view 6 0 N.n, .view 7 0 N.loop.length]
  | i => (lw5 w).f i, fun _ => 0⟩
def lw9 (w : Wd) (N F : Pw) : AHeap := ⟨15, fun i => match i with
  | 9 => vB F.full | 10 => vB F.loop | 11 => .cells 1 [.view 9 0 F.n, .view 10 0 F.loop.length] | 12 => vB F.full | 13 => vB F.loop | 14 => .cells 1 [.view 12 0 F.n, .view 13 0 F.loop.length]
  | i => (lw7 w N).f i, fun _ => 0⟩
def lw11 (w : Wd) (N F X Y : Pw) : AHeap := ⟨20, fun i => match i with
  | 15 => vB X.full | 16 => vB X.loop | 17 => .cells 1 [.view 15 0 X.n, .view 16 0 X.loop.length] | 18 => vB Y.loop | 19 => .cells 1 [.view 0 0 Y.n, .view 18 0 Y.loop.length]
  | i => (lw9 w N F).f i, fun _ => 0⟩
theorem law5c (w : Wd) (hf : w.Fits) (n k : Int) (hn : fits64 n) (hk : fits64 k) : CallW Tryd.prog 5 [w.av 0 1, .int .i64 n, .int .i64 k] (wh w.stem w.loop) fun v _ => v = .bool true := by
  obtain ⟨k1, k2⟩ := hk
  have h10 := normal10 w hf
  have h21 := normal21 w hf
  have zN := outN_sz w
  generalize outN w = N at h10 h21 zN
  have h22 := from22 w hf k k2
  have h23 := from23 w hf k k2
  have zF := outF_sz w k
  generalize outF w k = F at h22 h23 zF
  have h24 := loops24 w hf k k2 k1
  have h25 := loops25 w hf k k2 k1
  have zK := outK_sz w k
  have zL := fun h => outL_sz w h k
  have fL := outL_full w k
  obtain ⟨eKL, wKL⟩ := outKL w k
  generalize outK w k = X at h24 zK eKL wKL
  generalize outL w k = Y at h25 zL fL eKL wKL
  have h19 : ∀ {H : AHeap} {i j : Nat}, At H 1 (ints w.stem) i → At H 1 (ints w.loop) j → CallW Tryd.prog 19 [w.av i j, .int .i64 k] H fun v H' => H' = H ∧ v = .tuple [.int .i64 (outA w k).1, .int .i64 (outA w k).2] := fun a b => at19a w hf k k2 a b
  have h20 : ∀ {H : AHeap} {i j : Nat}, At H 1 (ints w.stem) i → At H 1 (ints w.loop) j → CallW Tryd.prog 20 [w.av i j, .int .i64 k] H fun v H' => H' = H ∧ v = .tuple [.int .i64 (outA w k).1, .int .i64 (outA w k).2] := fun a b => at20a w hf k k2 a b
  generalize outA w k = A at h19 h20
  obtain ⟨A1, A2⟩ := A
  obtain ⟨N1, N2⟩ := N
  obtain ⟨F1, F2⟩ := F
  obtain ⟨X1, X2⟩ := X
  obtain ⟨Y1, Y2⟩ := Y
  dsimp only at h19 h20 zN zF zK zL fL eKL wKL
  refine CallW.symK (cuts := [5, 7, 9, 11]) Tryd.func5 rfl (by kernel_rfl) ?_
  conv => whnf
  repeat' (refine Gets.of _ rfl ?_; conv => whnf)
  refine CallS.of (by kernel_rfl) ((few8 w hf 300).readsL IsB.noRef [0, 1, 3] rfl (.cons ⟨rfl, rfl, .roI⟩ (.cons ⟨rfl, rfl, .roI⟩ (.cons ⟨rfl, rfl, .roCs rfl⟩ .nil)))) rfl ?_
  rintro _ _ ⟨rfl, hw | hw⟩
  all_goals conv => whnf
  all_goals
    repeat' (refine Gets.of _ rfl ?_; conv => whnf)
  rotate_left
  · refine CallS.of (by kernel_rfl) (awake9 _) rfl ?_
    rintro _ _ ⟨rfl, rfl⟩
    conv => whnf
    skip
  refine CallS.of (by kernel_rfl) (h19 (.roB rfl rfl) (.roB rfl rfl)) rfl ?_
  rintro _ _ ⟨rfl, rfl⟩
  conv => whnf
  repeat' (refine Gets.of _ rfl ?_; conv => whnf)
  refine CallS.of (by kernel_rfl) (h20 (.roB rfl rfl) (.roB rfl rfl)) rfl ?_
  rintro _ _ ⟨rfl, rfl⟩
  conv => whnf
  skip
  refine CodeS.canon [7, 9, 11] [(1, .int .i64 n), (2, .int .i64 k), (3, .ptr 2 0), (6, .bool false), (7, .int .i64 A1), (8, .int .i64 A2), (9, .int .i64 A1), (10, .int .i64 A2)] (lw5 w) (renL [0, 1, 2] 4) (by kernel_rfl) ⟨rfl, rfl, rfl, rfl, rfl, rfl, rfl, rfl, trivial⟩ (EmbL.litsN [0, 1, 2] rfl rfl rfl rfl (.cons ⟨rfl, .inl ⟨rfl, fun h => h⟩⟩ (.cons ⟨rfl, .inl ⟨rfl, fun h => h⟩⟩ .nil)) (.cons ⟨rfl, .roI⟩ (.cons ⟨rfl, .roI⟩ (.cons ⟨rfl, .inl rfl⟩ .nil)))) ?_
  conv => whnf
  repeat' (refine Gets.of _ rfl ?_; conv => whnf)
  refine CallS.of (by kernel_rfl) (mkM h10 (.roB rfl rfl) (.roB rfl rfl)) rfl ?_
  rintro _ _ ⟨rfl, rfl⟩
  conv => whnf
  repeat' (refine Gets.of _ rfl ?_; conv => whnf)
  refine CallS.of (by kernel_rfl) (mkM h21 (.roB rfl rfl) (.roB rfl rfl)) rfl ?_
  rintro _ _ ⟨rfl, rfl⟩
  conv => whnf
  repeat' (refine Gets.of _ rfl ?_; conv => whnf)
  refine CodeS.canon [9, 11] [(1, .int .i64 n), (2, .int .i64 k), (3, .ptr 2 0), (6, .bool false), (7, .int .i64 A1), (8, .int .i64 A2), (9, .int .i64 A1), (10, .int .i64 A2), (11, .ptr 5 0), (12, .int .i64 N2), (13, .ptr 8 0), (14, .int .i64 N2)] (lw7 w N1) (renL [0, 1, 2, 3, 4, 5, 6, 7, 8] 9) (by kernel_rfl) ⟨rfl, rfl, rfl, rfl, rfl, rfl, rfl, rfl, rfl, rfl, rfl, rfl, trivial⟩ (EmbL.litsN [0, 1, 2, 3, 4, 5, 6, 7, 8] rfl rfl rfl rfl (.cons ⟨rfl, .inl ⟨rfl, fun h => h⟩⟩ (.cons ⟨rfl, .inl ⟨rfl, fun h => h⟩⟩ .nil)) (.cons ⟨rfl, .roI⟩ (.cons ⟨rfl, .roI⟩ (.cons ⟨rfl, .inl rfl⟩ (.cons ⟨rfl, .vS rfl⟩ (.cons ⟨rfl, .vS rfl⟩ (.cons ⟨rfl, .inl rfl⟩ (.cons ⟨rfl, .vS rfl⟩ (.cons ⟨rfl, .vS rfl⟩ (.cons ⟨rfl, .inl rfl⟩ .nil)))))))))) ?_
  conv => whnf
  repeat' (refine Gets.of _ rfl ?_; conv => whnf)
  refine CallS.of (by kernel_rfl) (mkM h22 (.roB rfl rfl) (.roB rfl rfl)) rfl ?_
  rintro _ _ ⟨rfl, rfl⟩
  conv => whnf
  repeat' (refine Gets.of _ rfl ?_; conv => whnf)
  refine CallS.of (by kernel_rfl) (mkM h23 (.roB rfl rfl) (.roB rfl rfl)) rfl ?_
  rintro _ _ ⟨rfl, rfl⟩
  conv => whnf
  repeat' (refine Gets.of _ rfl ?_; conv => whnf)
  refine CodeS.canon [11] [(1, .int .i64 n), (2, .int .i64 k), (3, .ptr 2 0), (6, .bool false), (7, .int .i64 A1), (8, .int .i64 A2), (9, .int .i64 A1), (10, .int .i64 A2), (11, .ptr 5 0), (12, .int .i64 N2), (13, .ptr 8 0), (14, .int .i64 N2), (15, .ptr 11 0), (16, .int .i64 F2), (17, .ptr 14 0), (18, .int .i64 F2)] (lw9 w N1 F1) (renL [0, 1, 2, 3, 4, 5, 6, 7, 8, 9, 10, 11, 12, 13, 14] 15) (by kernel_rfl) ⟨rfl, rfl, rfl, rfl, rfl, rfl, rfl, rfl, rfl, rfl, rfl, rfl, rfl, rfl, rfl, rfl, trivial⟩ (EmbL.litsN [0, 1, 2, 3, 4, 5, 6, 7, 8, 9, 10, 11, 12, 13, 14] rfl rfl rfl rfl (.cons ⟨rfl, .inl ⟨rfl, fun h => h⟩⟩ (.cons ⟨rfl, .inl ⟨rfl, fun h => h⟩⟩ .nil)) (.cons ⟨rfl, .roI⟩ (.cons ⟨rfl, .roI⟩ (.cons ⟨rfl, .inl rfl⟩ (.cons ⟨rfl, .vS rfl⟩ (.cons ⟨rfl, .vS rfl⟩ (.cons ⟨rfl, .inl rfl⟩ (.cons ⟨rfl, .vS rfl⟩ (.cons ⟨rfl, .vS rfl⟩ (.cons ⟨rfl, .inl rfl⟩ (.cons ⟨rfl, .vS rfl⟩ (.cons ⟨rfl, .vS rfl⟩ (.cons ⟨rfl, .inl rfl⟩ (.cons ⟨rfl, .vS rfl⟩ (.cons ⟨rfl, .vS rfl⟩ (.cons ⟨rfl, .inl rfl⟩ .nil)))))))))))))))) ?_
  conv => whnf
  repeat' (refine Gets.of _ rfl ?_; conv => whnf)
  refine CallS.of (by kernel_rfl) (mkM h24 (.roB rfl rfl) (.roB rfl rfl)) rfl ?_
  rintro _ _ ⟨rfl, rfl⟩
  conv => whnf
  repeat' (refine Gets.of _ rfl ?_; conv => whnf)
  refine CallS.of (by kernel_rfl) (mkM1 h25 (.roB rfl rfl) (.roB rfl rfl)) rfl ?_
  rintro _ _ ⟨rfl, rfl⟩
  conv => whnf
  repeat' (refine Gets.of _ rfl ?_; conv => whnf)
  refine CodeS.canon [] [(1, .int .i64 n), (2, .int .i64 k), (3, .ptr 2 0), (6, .bool false), (7, .int .i64 A1), (8, .int .i64 A2), (9, .int .i64 A1), (10, .int .i64 A2), (11, .ptr 5 0), (12, .int .i64 N2), (13, .ptr 8 0), (14, .int .i64 N2), (15, .ptr 11 0), (16, .int .i64 F2), (17, .ptr 14 0), (18, .int .i64 F2), (19, .ptr 17 0), (20, .int .i64 X2), (21, .ptr 19 0), (22, .int .i64 Y2)] (lw11 w N1 F1 X1 Y1) (renL [0, 1, 2, 3, 4, 5, 6, 7, 8, 9, 10, 11, 12, 13, 14, 15, 16, 17, 18, 19] 20) (by kernel_rfl) ⟨rfl, rfl, rfl, rfl, rfl, rfl, rfl, rfl, rfl, rfl, rfl, rfl, rfl, rfl, rfl, rfl, rfl, rfl, rfl, rfl, trivial⟩ (EmbL.litsN [0, 1, 2, 3, 4, 5, 6, 7, 8, 9, 10, 11, 12, 13, 14, 15, 16, 17, 18, 19] rfl rfl rfl rfl (.cons ⟨rfl, .inl ⟨rfl, fun h => h⟩⟩ (.cons ⟨rfl, .inl ⟨rfl, fun h => h⟩⟩ .nil)) (.cons ⟨rfl, .roI⟩ (.cons ⟨rfl, .roI⟩ (.cons ⟨rfl, .inl rfl⟩ (.cons ⟨rfl, .vS rfl⟩ (.cons ⟨rfl, .vS rfl⟩ (.cons ⟨rfl, .inl rfl⟩ (.cons ⟨rfl, .vS rfl⟩ (.cons ⟨rfl, .vS rfl⟩ (.cons ⟨rfl, .inl rfl⟩ (.cons ⟨rfl, .vS rfl⟩ (.cons ⟨rfl, .vS rfl⟩ (.cons ⟨rfl, .inl rfl⟩ (.cons ⟨rfl, .vS rfl⟩ (.cons ⟨rfl, .vS rfl⟩ (.cons ⟨rfl, .inl rfl⟩ (.cons ⟨rfl, .vS rfl⟩ (.cons ⟨rfl, .vS rfl⟩ (.cons ⟨rfl, .inl rfl⟩ (.cons ⟨rfl, .vS rfl⟩ (.cons ⟨rfl, .inl rfl⟩ .nil))))))))))))))))))))) ?_
  conv => whnf
  skip
  refine CodeS.drawT [2, 5, 8, 11, 14, 17, 19] (.take 0 (.take 1 (.take 3 (.take 4 (.one 2 true (.one 5 true (.take 6 (.take 7 (.take 8 (.take 9 (.take 10 (.take 11 (.take 12 (.take 13 (.take 14 (.take 15 (.take 16 (.take 17 (.take 18 (.take 19 (.take 20 (.take 21 (.one 22 true (.take 23 (.take 24 (.take 25 (.take 26 (.take 27 (.take 28 (.one 29 true (.take 30 (.take 31 (.take 32 (.take 33 (.take 34 (.take 35 (.one 36 true (.take 37 (.take 38 (.one 39 true (.take 40 (.take 41 .done)))))))))))))))))))))))))))))))))))))))))) mixed (by kernel_rfl) (.cons ⟨rfl, trivial⟩ (.cons ⟨rfl, trivial⟩ (.cons ⟨rfl, trivial⟩ (.cons ⟨rfl, trivial⟩ (.cons ⟨rfl, trivial⟩ (.cons ⟨rfl, trivial⟩ (.cons ⟨rfl, trivial⟩ .nil))))))) ?_
  conv => whnf
  repeat' (refine Gets.of _ rfl ?_; conv => whnf)
  refine CallPS.of (by kernel_rfl) (valid26a w hf n (.roB rfl rfl) (.roB rfl rfl)) rfl ?_
  rintro _ _ ⟨rfl, hp | hp⟩
  all_goals conv => whnf
  all_goals
    repeat' (refine Chk.mk (by repeat first | exact .nil | refine .cons rfl ?_) ?_; conv => whnf)
    refine CallPS.of (by kernel_rfl) (valid27a w hf n (.roB rfl rfl) (.roB rfl rfl)) rfl ?_
    rintro _ _ ⟨rfl, hq | hq⟩
    all_goals first | (exact absurd hp hq) | (exact absurd hq hp) | (conv => whnf)
    repeat' first | (refine Gets.of _ rfl ?_; conv => whnf) | (refine Chk.mk (by repeat first | exact .nil | refine .cons rfl ?_) ?_; conv => whnf) | (refine Fork.yesR rfl ?_; conv => whnf) | (refine Fork.dec (fun _ => ?_) (fun _ => ?_) <;> first | (exfalso; omega) | (conv => whnf))
    refine CallPS.of (by kernel_rfl) (is18q N1 N1 zN zN N2 N2 ⟨.vB rfl rfl, .vB rfl rfl⟩ ⟨.vB rfl rfl, .vB rfl rfl⟩) rfl ?_
    rintro _ _ ⟨rfl, hr | hr⟩
    all_goals first | (exact absurd ⟨rfl, rfl⟩ hr) | (conv => whnf)
    repeat' first | (refine Gets.of _ rfl ?_; conv => whnf) | (refine Chk.mk (by repeat first | exact .nil | refine .cons rfl ?_) ?_; conv => whnf)
    refine CallPS.of (by kernel_rfl) (is18q F1 F1 zF zF F2 F2 ⟨.vB rfl rfl, .vB rfl rfl⟩ ⟨.vB rfl rfl, .vB rfl rfl⟩) rfl ?_
    rintro _ _ ⟨rfl, hs | hs⟩
    all_goals first | (exact absurd ⟨rfl, rfl⟩ hs) | (conv => whnf)
    repeat' first | (refine Gets.of _ rfl ?_; conv => whnf) | (refine Chk.mk (by repeat first | exact .nil | refine .cons rfl ?_) ?_; conv => whnf)
    refine CallPS.of (by kernel_rfl) (is18q X1 Y1 zK (zL (by omega)) X2 Y2 ⟨.vB rfl rfl, .vB rfl rfl⟩ ⟨by rw [fL]; exact .roB rfl rfl, .vB rfl rfl⟩) rfl ?_
    rintro _ _ ⟨rfl, ht | ht⟩
    all_goals first | (exact absurd ⟨eKL, wKL⟩ ht) | (conv => whnf)
    repeat' (refine Chk.mk (by repeat first | exact .nil | refine .cons rfl ?_) ?_; conv => whnf)
    refine CallPS.of (by kernel_rfl) (awake9 _) rfl ?_
    rintro _ _ ⟨rfl, rfl⟩
    conv => whnf
    repeat' (refine Chk.mk (by repeat first | exact .nil | refine .cons rfl ?_) ?_; conv => whnf)
    rfl
theorem law5 : ∀ (H : AHeap) (avs0 avs1 avs2 : List AVal), NoRw H → Shape Tryd.prog H 4 24 avs0 → Shape Tryd.prog H 4 3 avs1 → Shape Tryd.prog H 4 3 avs2 → CallW Tryd.prog 5 [argOf Tryd.prog 24 avs0, argOf Tryd.prog 3 avs1, argOf Tryd.prog 3 avs2] H fun v _ => v = .bool true := by
  intro H avs0 avs1 avs2 hN h0 h1 h2
  obtain ⟨w, i, j, e, hf, a1, a2⟩ := shape_word h0
  obtain ⟨m, rfl, hm⟩ := shape_int h1
  obtain ⟨n, rfl, hn⟩ := shape_int h2
  rw [e]
  have e1 : argOf Tryd.prog 3 [.int .i64 m] = .int .i64 m := by unfold argOf; rw [Tryd.underlying3]; rfl
  have e2 : argOf Tryd.prog 3 [.int .i64 n] = .int .i64 n := by unfold argOf; rw [Tryd.underlying3]; rfl
  rw [e1, e2]
  exact lift_word (rest := [.int .i64 m, .int .i64 n]) (law5c w hf m n hm hn) (by rintro v rfl; rfl) (fun _ => rfl) a1 a2
end Go.Proofs.YthjemhlcojmiaaaDoor
