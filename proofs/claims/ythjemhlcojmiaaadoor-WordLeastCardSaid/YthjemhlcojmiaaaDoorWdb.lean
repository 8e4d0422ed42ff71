/- Valid, as the reference tells it; the letter at a position; words held against each other. -/
import Derived.Test.YthjemhlcojmiaaaDoorWda
-- VkG VkH
set_option linter.unusedVariables false
set_option linter.unusedSimpArgs false
set_option maxRecDepth 100000
set_option maxHeartbeats 1000000
namespace Go.Proofs.YthjemhlcojmiaaaDoor
open Go Go.Vh Go.Vk Go.Proofs
theorem letter50 (n x : Int) (h0 : 0 ≤ n) (h6 : n ≤ 6) (H : AHeap) : CallW Tryd.prog 50 [.int .i64 x, .int .i64 n] H fun v H' => H' = H ∧ IsB v (inL n x) := by
  have h64 := pow6 h0 h6
  refine CallW.symK (cuts := []) Tryd.func50 rfl (by kernel_rfl) ?_
  conv => whnf
  repeat' first | ((with_reducible refine Gets.shlI ?_ ?_ ?_); (· omega); (· omega); conv => whnf) | (refine Fork.dec (fun _ => ?_) (fun _ => ?_) <;> first | (exfalso; omega) | (conv => whnf))
  all_goals refine ⟨rfl, ?_⟩
  · exact .t ⟨by omega, by omega⟩
  · exact .f fun h => by have := h.2; omega
  · exact .f fun h => by have := h.1; omega
theorem valid27 (w : Wd) (hf : w.Fits) (n : Int) : CallW Tryd.prog 27 [w.av 0 1, .int .i64 n] w.heap fun v _ => IsB v (w.Ok n) := by
  obtain ⟨b1, b2⟩ := hf
  refine CallW.symK (cuts := []) Tryd.func27 rfl (by kernel_rfl) ?_
  conv => whnf
  repeat' first | ((with_reducible refine Gets.addI ?_ ?_ ?_); (· omega); (· omega); conv => whnf) | (refine Gets.of _ rfl ?_; conv => whnf) | (refine Fork.dec (fun _ => ?_) (fun _ => ?_) <;> first | (exfalso; omega) | (conv => whnf))
  iterate 4
    · exact .f fun h => by have := h.a; have := h.b; have := h.p; have := h.m; omega
  refine CodeS.drawT [2] (.take 1 (.take 2 (.take 4 (.take 5 (.take 8 (.one 0 true (.one 3 true (.one 6 true (.take 7 .done))))))))) mixed (by kernel_rfl) (.cons ⟨rfl, trivial⟩ .nil) ?_
  conv => whnf
  repeat' first | ((refine Gets.appSrc (ti := tiI) (l := []) (xs := w.stem) (m := 0) (n := w.stem.length) rfl rfl rfl rfl rfl (by decide) (Nat.zero_le _) ((src_at rfl (.inl ⟨1, rfl, rfl⟩)).2) rfl (by omega) ?_); conv => whnf) | (refine Gets.of _ rfl ?_; conv => whnf) | (refine Chk.mk (by repeat first | exact .nil | refine .cons rfl ?_) ?_; conv => whnf)
  refine Gets.appSrc (ti := tiI) (l := [].take 0 ++ w.stem) (xs := w.loop) (m := 0 + w.stem.length) (n := w.loop.length) rfl rfl rfl rfl rfl (by decide) (by simp) ((src_at rfl (.inl ⟨1, rfl, rfl⟩)).2) rfl (by omega) ?_
  have hro : 0 + w.stem.length + w.loop.length = (w.stem ++ w.loop).length := by rw [Nat.zero_add, List.length_append]
  have hrl : ([].take 0 ++ w.stem).take (0 + w.stem.length) ++ w.loop = w.stem ++ w.loop := by simp
  rw [hro, hrl]
  have hlen : (w.stem ++ w.loop).length ≤ 200 := by rw [List.length_append]; omega
  have hok : (∀ x ∈ w.stem ++ w.loop, inL n x) ↔ w.Ok n := by
    constructor
    · exact fun h => ⟨by omega, by omega, by omega, by omega, fun x hx => h x (List.mem_append_left _ hx), fun x hx => h x (List.mem_append_right _ hx)⟩
    · intro h x hx
      rcases List.mem_append.1 hx with hx | hx
      · exact h.s x hx
      · exact h.l x hx
  generalize w.stem ++ w.loop = l at *
  conv => whnf
  repeat' first | (refine Gets.of _ rfl ?_; conv => whnf) | (refine Chk.mk (by repeat first | exact .nil | refine .cons rfl ?_) ?_; conv => whnf)
  refine CodeS.loopGK (cuts := []) (σ := Nat) (fun j => [(1, .int .i64 n), (35, .slice 2 0 l.length), (36, .int .i64 l.length), (37, .int .i64 j)]) (fun _ => w.heap.alloc (.cells 1 (ints l))) (fun j => j ≤ l.length ∧ ∀ k, k < j → inL n (l.getD k 0)) (fun j => l.length - j) 0 (renL [0, 1, 5] 6) (by kernel_rfl) ⟨Nat.zero_le _, fun k hk => by omega⟩ ⟨rfl, rfl, rfl, rfl, trivial⟩ (EmbL.litsN [0, 1, 5] rfl rfl rfl rfl (.cons ⟨rfl, .inl ⟨rfl, fun h => h⟩⟩ (.cons ⟨rfl, .inl ⟨rfl, fun h => h⟩⟩ .nil)) (.cons ⟨rfl, .roI⟩ (.cons ⟨rfl, .roI⟩ (.cons ⟨rfl, .cellsI⟩ .nil)))) ?_
  rintro j ⟨g1, g2⟩
  conv => whnf
  repeat' first | (refine Gets.ix1 rfl rfl (by omega) ?_; conv => whnf) | (refine Gets.ldI rfl (by first | rfl | assumption) (by first | omega | exact Nat.le_of_ble_eq_true rfl) ?_; conv => whnf) | (refine Fork.dec (fun _ => ?_) (fun _ => ?_) <;> first | (exfalso; omega) | (conv => whnf))
  · refine CallS.of (by kernel_rfl) (letter50 n (l.getD j 0) (by omega) (by omega) _) rfl ?_
    rintro _ _ ⟨rfl, hp | hp⟩
    all_goals conv => whnf
    all_goals
      repeat' ((with_reducible refine Gets.addI ?_ ?_ ?_); (· omega); (· omega); conv => whnf)
    · exact ⟨j + 1, renL [0, 1, 2] 3, ⟨by omega, lt_succ_all g2 hp⟩, by omega, ⟨rfl, rfl, rfl, rfl, trivial⟩, EmbL.litsN [0, 1, 2] rfl rfl rfl rfl (.cons ⟨rfl, .inl ⟨rfl, fun h => h⟩⟩ (.cons ⟨rfl, .inl ⟨rfl, fun h => h⟩⟩ .nil)) (.cons ⟨rfl, .roI⟩ (.cons ⟨rfl, .roI⟩ (.cons ⟨rfl, .cellsI⟩ .nil)))⟩
    · exact .f fun h => hp (hok.2 h _ (getD_mem (by omega)))
  · exact .t (hok.1 (all_getD.2 fun k hk => g2 k (by omega)))
/-- The letter at a position. -/
def Wd.lt (w : Wd) (k : Nat) : Int := if k < w.stem.length then w.stem.getD k 0 else w.loop.getD ((k - w.stem.length) % w.loop.length) 0
theorem at43 (w : Wd) (hf : w.Fits) (hl : 0 < w.loop.length) (k : Nat) (hk : k ≤ 9223372036854775807) : CallW Tryd.prog 43 [w.av 0 1, .int .i64 (k : Int)] w.heap fun v _ => v = .int .i64 (w.lt k) := by
  obtain ⟨b1, b2⟩ := hf
  refine CallW.symK (cuts := []) Tryd.func43 rfl (by kernel_rfl) ?_
  conv => whnf
  repeat' first | (refine Gets.of _ rfl ?_; conv => whnf) | (refine Gets.ix1v rfl rfl (by omega) ?_; conv => whnf) | (refine Gets.ldI rfl (by first | rfl | assumption) (by first | omega | exact Nat.le_of_ble_eq_true rfl) ?_; conv => whnf) | (refine Fork.dec (fun _ => ?_) (fun _ => ?_) <;> first | (exfalso; omega) | (conv => whnf))
  · unfold Wd.lt
    rw [if_pos (by omega)]
  · have hmod := Nat.mod_lt (k - w.stem.length) hl
    refine CodeS.drawT [2, 1] (.take 0 (.take 1 (.take 2 (.take 3 (.take 4 (.take 5 (.take 6 (.take 7 (.take 8 (.take 9 (.take 10 (.take 11 (.take 12 (.take 13 .done)))))))))))))) mixed (by kernel_rfl) (.cons ⟨rfl, trivial⟩ (.cons ⟨rfl, live_of_ints rfl hl⟩ .nil)) ?_
    conv => whnf
    repeat' first | ((with_reducible refine Gets.remN ?_ ?_ ?_); (· omega); (· omega); conv => whnf) | ((with_reducible refine Gets.subI ?_ ?_ ?_); (· omega); (· omega); conv => whnf) | (refine Gets.of _ rfl ?_; conv => whnf)
    rw [show ((k : Int) - (w.stem.length : Int)) % (w.loop.length : Int) = (((k - w.stem.length) % w.loop.length : Nat) : Int) by rw [show (k : Int) - (w.stem.length : Int) = ((k - w.stem.length : Nat) : Int) by omega]; rfl]
    repeat' first | (refine Gets.ix1v rfl rfl (by omega) ?_; conv => whnf) | (refine Gets.ldI rfl (by first | rfl | assumption) (by first | omega | exact Nat.le_of_ble_eq_true rfl) ?_; conv => whnf)
    unfold Wd.lt
    rw [if_neg (by omega)]
theorem letters12 (w : Wd) (hf : w.Fits) (hl : 0 < w.loop.length) (k : Nat) (hk : k ≤ 9223372036854775807) : CallW Tryd.prog 12 [w.av 0 1, .int .i64 (k : Int)] w.heap fun v _ => v = .int .i64 (w.lt k) := by
  obtain ⟨b1, b2⟩ := hf
  refine CallW.symK (cuts := []) Tryd.func12 rfl (by kernel_rfl) ?_
  conv => whnf
  repeat' first | (refine Gets.of _ rfl ?_; conv => whnf) | (refine Gets.ix1v rfl rfl (by omega) ?_; conv => whnf) | (refine Gets.ldI rfl (by first | rfl | assumption) (by first | omega | exact Nat.le_of_ble_eq_true rfl) ?_; conv => whnf) | (refine Fork.dec (fun _ => ?_) (fun _ => ?_) <;> first | (exfalso; omega) | (conv => whnf))
  · unfold Wd.lt
    rw [if_pos (by omega)]
  · have hmod := Nat.mod_lt (k - w.stem.length) hl
    refine CodeS.drawT [2, 1] (.take 0 (.take 1 (.take 2 (.take 3 (.take 4 (.take 5 (.take 6 (.take 7 (.take 8 (.take 9 (.take 10 (.take 11 (.take 12 (.take 13 .done)))))))))))))) mixed (by kernel_rfl) (.cons ⟨rfl, trivial⟩ (.cons ⟨rfl, live_of_ints rfl hl⟩ .nil)) ?_
    conv => whnf
    repeat' first | ((with_reducible refine Gets.remN ?_ ?_ ?_); (· omega); (· omega); conv => whnf) | ((with_reducible refine Gets.subI ?_ ?_ ?_); (· omega); (· omega); conv => whnf) | (refine Gets.of _ rfl ?_; conv => whnf)
    rw [show ((k : Int) - (w.stem.length : Int)) % (w.loop.length : Int) = (((k - w.stem.length) % w.loop.length : Nat) : Int) by rw [show (k : Int) - (w.stem.length : Int) = ((k - w.stem.length : Nat) : Int) by omega]; rfl]
    repeat' first | (refine Gets.ix1v rfl rfl (by omega) ?_; conv => whnf) | (refine Gets.ldI rfl (by first | rfl | assumption) (by first | omega | exact Nat.le_of_ble_eq_true rfl) ?_; conv => whnf)
    unfold Wd.lt
    rw [if_neg (by omega)]
theorem list38 (l m : List Int) (hl : l.length ≤ 4294967296) (hm : m.length ≤ 4294967296) : CallW Tryd.prog 38 [.view 0 0 l.length, .view 1 0 m.length] ((emptyH.alloc (.ro 1 (ints l))).alloc (.ro 1 (ints m))) fun v _ => IsB v (l = m) := by
  refine CallW.symK (cuts := []) Tryd.func38 rfl (by kernel_rfl) ?_
  conv => whnf
  repeat' first | (refine Gets.of _ rfl ?_; conv => whnf) | (refine Fork.neI (fun _ => ?_) (fun _ => ?_) <;> first | (exfalso; omega) | (conv => whnf))
  · exact .f fun h => by subst h; omega
  have hlen : l.length = m.length := by omega
  refine CodeS.loopSK (cuts := []) (σ := Nat) (fun j => [(0, .view 0 0 l.length), (1, .view 1 0 m.length), (12, .int .i64 l.length), (13, .int .i64 j)]) (fun _ => (emptyH.alloc (.ro 1 (ints l))).alloc (.ro 1 (ints m))) (fun j => j ≤ l.length ∧ ∀ k, k < j → l.getD k 0 = m.getD k 0) (fun j => l.length - j) 0 (by kernel_rfl) ⟨Nat.zero_le _, fun k hk => by omega⟩ ⟨rfl, rfl, rfl, rfl, trivial⟩ rfl ?_
  rintro j ⟨g1, g2⟩
  rcases Nat.lt_or_ge j l.length with hj | hj
  · conv => whnf
    repeat' (refine Fork.dec (fun _ => ?_) (fun _ => ?_) <;> first | (exfalso; omega) | (conv => whnf))
    refine CodeS.drawT [0, 1] (.take 0 (.take 1 (.take 2 (.take 3 (.take 4 (.take 5 (.take 6 (.take 7 (.take 8 .done))))))))) mixed (by kernel_rfl) (.cons ⟨rfl, live_of_ints rfl (by omega)⟩ (.cons ⟨rfl, live_of_ints rfl (by omega)⟩ .nil)) ?_
    conv => whnf
    repeat' first | ((with_reducible refine Gets.addI ?_ ?_ ?_); (· omega); (· omega); conv => whnf) | (refine Gets.ix1v rfl rfl (by omega) ?_; conv => whnf) | (refine Gets.ldI rfl (by first | rfl | assumption) (by first | omega | exact Nat.le_of_ble_eq_true rfl) ?_; conv => whnf) | (refine Fork.neI (fun _ => ?_) (fun _ => ?_) <;> first | (exfalso; omega) | (conv => whnf))
    · exact .f fun h => by subst h; rename_i h; exact h rfl
    · exact ⟨j + 1, ⟨by omega, lt_succ_all g2 (by assumption)⟩, by omega, ⟨rfl, rfl, rfl, rfl, trivial⟩, rfl⟩
  · conv => whnf
    repeat' (refine Fork.dec (fun _ => ?_) (fun _ => ?_) <;> first | (exfalso; omega) | (conv => whnf))
    refine .t (List.ext_getElem hlen fun k h1 h2 => ?_)
    have := g2 k (by omega)
    rw [List.getD_eq_getElem?_getD, List.getD_eq_getElem?_getD, List.getElem?_eq_getElem h1, List.getElem?_eq_getElem h2] at this
    exact this
theorem list38a (l m : List Int) (hl : l.length ≤ 4294967296) (hm : m.length ≤ 4294967296) {H : AHeap} {i j : Nat} (hi : At H 1 (ints l) i) (hj : At H 1 (ints m) j) : CallW Tryd.prog 38 [.view i 0 l.length, .view j 0 m.length] H fun v H' => H' = H ∧ IsB v (l = m) :=
  (list38 l m hl hm).readsAt IsB.noRef [i, j] rfl (.cons ⟨_, _, rfl, hi⟩ (.cons ⟨_, _, rfl, hj⟩ .nil))
def h4 (a b : Wd) : AHeap := (a.heap.alloc (.ro 1 (ints b.stem))).alloc (.ro 1 (ints b.loop))
structure Wd.Sz (w : Wd) : Prop where
  s : w.stem.length ≤ 4294967296
  l : w.loop.length ≤ 4294967296
theorem wd_ext {a b : Wd} : a = b ↔ a.stem = b.stem ∧ a.loop = b.loop := by
  constructor
  · rintro rfl; exact ⟨rfl, rfl⟩
  · rintro ⟨h1, h2⟩; cases a; cases b; cases h1; cases h2; rfl
theorem written13 (a b : Wd) (ha : a.Sz) (hb : b.Sz) : CallW Tryd.prog 13 [a.av 0 1, b.av 2 3] (h4 a b) fun v _ => IsB v (a = b) := by
  refine CallW.symK (cuts := []) Tryd.func13 rfl (by kernel_rfl) ?_
  conv => whnf
  repeat' (refine Gets.of _ rfl ?_; conv => whnf)
  refine CallS.of (by kernel_rfl) (list38a a.stem b.stem ha.s hb.s (.roB rfl rfl) (.roB rfl rfl)) rfl ?_
  rintro _ _ ⟨rfl, hp | hp⟩
  all_goals conv => whnf
  all_goals
    repeat' (refine Gets.of _ rfl ?_; conv => whnf)
  · refine CallS.of (by kernel_rfl) (list38a a.loop b.loop ha.l hb.l (.roB rfl rfl) (.roB rfl rfl)) rfl ?_
    rintro _ _ ⟨rfl, hq | hq⟩
    all_goals conv => whnf
    all_goals
      skip
    · exact .t (wd_ext.2 ⟨hp, hq⟩)
    · exact .f fun h => hq (wd_ext.1 h).2
  · exact .f fun h => hp (wd_ext.1 h).1
/-- The rows of a word are told at those numbers. -/
structure Wd.In (w : Wd) (H : AHeap) (i j : Nat) : Prop where
  s : At H 1 (ints w.stem) i
  l : At H 1 (ints w.loop) j
theorem Wd.In.all {w : Wd} {H : AHeap} {i j : Nat} (h : w.In H i j) : AllQ (fun m => ∃ es cs, w.heap.f m = .ro es cs ∧ At H es cs (fk [i, j] H.n m)) 0 w.heap.n := .cons ⟨_, _, rfl, h.s⟩ (.cons ⟨_, _, rfl, h.l⟩ .nil)
theorem written13a (a b : Wd) (ha : a.Sz) (hb : b.Sz) {H : AHeap} {i j k l : Nat} (h1 : a.In H i j) (h2 : b.In H k l) : CallW Tryd.prog 13 [a.av i j, b.av k l] H fun v H' => H' = H ∧ IsB v (a = b) :=
  (written13 a b ha hb).readsAt IsB.noRef [i, j, k, l] rfl (.cons ⟨_, _, rfl, h1.s⟩ (.cons ⟨_, _, rfl, h1.l⟩ (.cons ⟨_, _, rfl, h2.s⟩ (.cons ⟨_, _, rfl, h2.l⟩ .nil))))
theorem is18 (a b : Wd) (ha : a.Sz) (hb : b.Sz) (e f : Int) : CallW Tryd.prog 18 [a.av 0 1, .int .i64 e, b.av 2 3, .int .i64 f] (h4 a b) fun v _ => IsB v (e = f ∧ a = b) := by
  refine CallW.symK (cuts := []) Tryd.func18 rfl (by kernel_rfl) ?_
  conv => whnf
  repeat' first | (refine Gets.of _ rfl ?_; conv => whnf) | (refine Fork.dec (fun _ => ?_) (fun _ => ?_) <;> first | (exfalso; omega) | (conv => whnf))
  · refine CallS.of (by kernel_rfl) (written13a a b ha hb ⟨.roB rfl rfl, .roB rfl rfl⟩ ⟨.roB rfl rfl, .roB rfl rfl⟩) rfl ?_
    rintro _ _ ⟨rfl, hp | hp⟩
    all_goals conv => whnf
    all_goals
      skip
    · exact .t ⟨by assumption, hp⟩
    · exact .f fun h => hp h.2
  · exact .f fun h => by have := h.1; omega
theorem is18a (a b : Wd) (ha : a.Sz) (hb : b.Sz) (e f : Int) {H : AHeap} {i j k l : Nat} (h1 : a.In H i j) (h2 : b.In H k l) : CallW Tryd.prog 18 [a.av i j, .int .i64 e, b.av k l, .int .i64 f] H fun v H' => H' = H ∧ IsB v (e = f ∧ a = b) :=
  (is18 a b ha hb e f).readsAt IsB.noRef [i, j, k, l] rfl (.cons ⟨_, _, rfl, h1.s⟩ (.cons ⟨_, _, rfl, h1.l⟩ (.cons ⟨_, _, rfl, h2.s⟩ (.cons ⟨_, _, rfl, h2.l⟩ .nil))))
end Go.Proofs.YthjemhlcojmiaaaDoor
