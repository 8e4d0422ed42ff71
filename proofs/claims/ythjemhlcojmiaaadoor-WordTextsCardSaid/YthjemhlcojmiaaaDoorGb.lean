/- Valid, as the reference tells it; the letter at a position; words held against each other. -/
import Derived.Test.YthjemhlcojmiaaaDoorGa
-- VkG VkH
set_option linter.unusedVariables false
set_option linter.unusedSimpArgs false
set_option maxRecDepth 100000
set_option maxHeartbeats 1000000
namespace Go.Proofs.YthjemhlcojmiaaaDoor
open Go Go.Vh Go.Vk Go.Proofs
theorem letter50 (n x : Int) (h0 : 0 ≤ n) (h6 : n ≤ 6) (H : AHeap) : CallW Tryd.prog 50 [.int .i64 x, .int .i64 n] H fun v H' => H' = H ∧ IsB v (inL n x) := by
  have h64 := pow6 h0 h6
  refine CallW.symK (cuts := []) Tryd.func50 rfl (by kernel_rfl) ?_
  conv => whnf
  repeat' first | ((with_reducible refine Gets.shlI ?_ ?_ ?_); (· omega); (· omega); conv => whnf) | (refine Fork.dec (fun _ => ?_) (fun _ => ?_) <;> first | (exfalso; omega) | (conv => whnf))
  all_goals refine ⟨rfl, ?_⟩
  · exact .t ⟨by omega, by omega⟩
  · exact .f fun h => by have := h.2; omega
  · exact .f fun h => by have := h.1; omega
theorem valid27 (w : Wd) (hf : w.Fits) (n : Int) : CallW Tryd.prog 27 [w.av 0 1, .int .i64 n] w.heap fun v _ => IsB v (w.Ok n) := by
  obtain ⟨b1, b2⟩ := hf
  refine CallW.symK (cuts := []) Tryd.func27 rfl (by kernel_rfl) ?_
  conv => whnf
  repeat' first | ((with_reducible refine Gets.addI ?_ ?_ ?_); (· omega); (· omega); conv => whnf) | (refine Gets.of _ rfl ?_; conv => whnf) | (refine Fork.dec (fun _ => ?_) (fun _ => ?_) <;> first | (exfalso; omega) | (conv => whnf))
  iterate 4
    · exact .f fun h => by have := h.a; have := h.b; have := h.p; have := h.m; omega
  refine CodeS.drawT [2] (.take 1 (.take 2 (.take 4 (.take 5 (.take 8 (.one 0 true (.one 3 true (.one 6 true (.take 7 .done))))))))) mixed (by kernel_rfl) (.cons ⟨rfl, trivial⟩ .nil) ?_
  conv => whnf
  repeat' first | ((refine Gets.appSrc (ti := tiI) (l := []) (xs := w.stem) (m := 0) (n := w.stem.length) rfl rfl rfl rfl rfl (by decide) (Nat.zero_le _) ((src_at rfl (.inl ⟨1, rfl, rfl⟩)).2) rfl (by omega) ?_); conv => whnf) | (refine Gets.of _ rfl ?_; conv => whnf) | (refine Chk.mk (by repeat first | exact .nil | refine .cons rfl ?_) ?_; conv => whnf)
  refine Gets.appSrc (ti := tiI) (l := [].take 0 ++ w.stem) (xs := w.loop) (m := 0 + w.stem.length) (n := w.loop.length) rfl rfl rfl rfl rfl (by decide) (by simp) ((src_at rfl (.inl ⟨1, rfl, rfl⟩)).2) rfl (by omega) ?_
  have hro : 0 + w.stem.length + w.loop.length = (w.stem ++ w.loop).length := by rw [Nat.zero_add, List.length_append]
  have hrl : ([].take 0 ++ w.stem).take (0 + w.stem.length) ++ w.loop = w.stem ++ w.loop := by simp
  rw [hro, hrl]
  have hlen : (w.stem ++ w.loop).length ≤ 200 := by rw [List.length_append]; omega
  have hok : (∀ x ∈ w.stem ++ w.loop, inL n x) ↔ w.Ok n := by
    constructor
    · exact fun h => ⟨by omega, by omega, by omega, by omega, fun x hx => h x (List.mem_append_left _ hx), fun x hx => h x (List.mem_append_right _ hx)⟩
    · intro h x hx
      rcases List.mem_append.1 hx with hx | hx
      · exact h.s x hx
      · exact h.l x hx
  generalize w.stem ++ w.loop = l at *
  conv => whnf
  repeat' first | (refine Gets.of _ rfl ?_; conv => whnf) | (refine Chk.mk (by repeat first | exact .nil | refine .cons rfl ?_) ?_; conv => whnf)
  refine CodeS.loopGK (cuts := []) (σ := Nat) (fun j => [(1, .int .i64 n), (35, .slice 2 0 l.length), (36, .int .i64 l.length), (37, .int .i64 j)]) (fun _ => w.heap.alloc (.cells 1 (ints l))) (fun j => j ≤ l.length ∧ ∀ k, k < j → inL n (l.getD k 0)) (fun j => l.length - j) 0 (renL [0, 1, 5] 6) (by kernel_rfl) ⟨Nat.zero_le _, fun k hk => by omega⟩ ⟨rfl, rfl, rfl, rfl, trivial⟩ (EmbL.litsN [0, 1, 5] rfl rfl rfl rfl (.cons ⟨rfl, .inl ⟨rfl, fun h => h⟩⟩ (.cons ⟨rfl, .inl ⟨rfl, fun h => h⟩⟩ .nil)) (.cons ⟨rfl, .roI⟩ (.cons ⟨rfl, .roI⟩ (.cons ⟨rfl, .cellsI⟩ .nil)))) ?_
  rintro j ⟨g1, g2⟩
  conv => whnf
  repeat' first | (refine Gets.ix1 rfl rfl (by omega) ?_; conv => whnf) | (refine Gets.ldI rfl (by first | rfl | assumption) (by first | omega | exact Nat.le_of_ble_eq_true rfl) ?_; conv => whnf) | (refine Fork.dec (fun _ => ?_) (fun _ => ?_) <;> first | (exfalso; omega) | (conv => whnf))
  · refine CallS.of (by kernel_rfl) (letter50 n (l.getD j 0) (by omega) (by omega) _) rfl ?_
    rintro _ _ ⟨rfl, hp | hp⟩
    all_goals conv => whnf
    all_goals
      repeat' ((with_reducible refine Gets.addI ?_ ?_ ?_); (· omega); (· omega); conv => whnf)
    · exact ⟨j + 1, renL [0, 1, 2] 3, ⟨by omega, lt_succ_all g2 hp⟩, by omega, ⟨rfl, rfl, rfl, rfl, trivial⟩, EmbL.litsN [0, 1, 2] rfl rfl rfl rfl (.cons ⟨rfl, .inl ⟨rfl, fun h => h⟩⟩ (.cons ⟨rfl, .inl ⟨rfl, fun h => h⟩⟩ .nil)) (.cons ⟨rfl, .roI⟩ (.cons ⟨rfl, .roI⟩ (.cons ⟨rfl, .cellsI⟩ .nil)))⟩
    · exact .f fun h => hp (hok.2 h _ (getD_mem (by omega)))
  · exact .t (hok.1 (all_getD.2 fun k hk => g2 k (by omega)))
/-- The letter at a position. -/
def Wd.lt (w : Wd) (k : Nat) : Int := if k < w.stem.length then w.stem.getD k 0 else w.loop.getD ((k - w.stem.length) % w.loop.length) 0
theorem at43 (w : Wd) (hf : w.Fits) (hl : 0 < w.loop.length) (k : Nat) (hk : k ≤ 9223372036854775807) : CallW Tryd.prog 43 [w.av 0 1, .int .i64 (k : Int)] w.heap fun v _ => v = .int .i64 (w.lt k) := by
  obtain ⟨b1, b2⟩ := hf
  refine CallW.symK (cuts := []) Tryd.func43 rfl (by kernel_rfl) ?_
  conv => whnf
  repeat' first | (refine Gets.of _ rfl ?_; conv => whnf) | (refine Gets.ix1v rfl rfl (by omega) ?_; conv => whnf) | (refine Gets.ldI rfl (by first | rfl | assumption) (by first | omega | exact Nat.le_of_ble_eq_true rfl) ?_; conv => whnf) | (refine Fork.dec (fun _ => ?_) (fun _ => ?_) <;> first | (exfalso; omega) | (conv => whnf))
  · unfold Wd.lt
    rw [if_pos (by omega)]
  · have hmod := Nat.mod_lt (k - w.stem.length) hl
    refine CodeS.drawT [2, 1] (.take 0 (.take 1 (.take 2 (.take 3 (.take 4 (.take 5 (.take 6 (.take 7 (.take 8 (.take 9 (.take 10 (.take 11 (.take 12 (.take 13 .done)))))))))))))) mixed (by kernel_rfl) (.cons ⟨rfl, trivial⟩ (.cons ⟨rfl, live_of_ints rfl hl⟩ .nil)) ?_
    conv => whnf
    repeat' first | ((with_reducible refine Gets.remN ?_ ?_ ?_); (· omega); (· omega); conv => whnf) | ((with_reducible refine Gets.subI ?_ ?_ ?_); (· omega); (· omega); conv => whnf) | (refine Gets.of _ rfl ?_; conv => whnf)
    rw [show ((k : Int) - (w.stem.length : Int)) % (w.loop.length : Int) = (((k - w.stem.length) % w.loop.length : Nat) : Int) by rw [show (k : Int) - (w.stem.length : Int) = ((k - w.stem.length : Nat) : Int) by omega]; rfl]
    repeat' first | (refine Gets.ix1v rfl rfl (by omega) ?_; conv => whnf) | (refine Gets.ldI rfl (by first | rfl | assumption) (by first | omega | exact Nat.le_of_ble_eq_true rfl) ?_; conv => whnf)
    unfold Wd.lt
    rw [if_neg (by omega)]
theorem letters12 (w : Wd) (hf : w.Fits) (hl : 0 < w.loop.length) (k : Nat) (hk : k ≤ 9223372036854775807) : CallW Tryd.prog 12 [w.av 0 1, .int .i64 (k : Int)] w.heap fun v _ => v = .int .i64 (w.lt k) := by
  obtain ⟨b1, b2⟩ := hf
  refine CallW.symK (cuts := []) Tryd.func12 rfl (by kernel_rfl) ?_
  conv => whnf
  repeat' first | (refine Gets.of _ rfl ?_; conv => whnf) | (refine Gets.ix1v rfl rfl (by omega) ?_; conv => whnf) | (refine Gets.ldI rfl (by first | rfl | assumption) (by first | omega | exact Nat.le_of_ble_eq_true rfl) ?_; conv => whnf) | (refine Fork.dec (fun _ => ?_) (fun _ => ?_) <;> first | (exfalso; omega) | (conv => whnf))
  · unfold Wd.lt
    rw [if_pos (by omega)]
  · have hmod := Nat.mod_lt (k - w.stem.length) hl
    refine CodeS.drawT [2, 1] (.take 0 (.take 1 (.take 2 (.take 3 (.take 4 (.take 5 (.take 6 (.take 7 (.take 8 (.take 9 (.take 10 (.take 11 (.take 12 (.take 13 .done)))))))))))))) mixed (by kernel_rfl) (.cons ⟨rfl, trivial⟩ (.cons ⟨rfl, live_of_ints rfl hl⟩ .nil)) ?_
    conv => whnf
    repeat' first | ((with_reducible refine Gets.remN ?_ ?_ ?_); (· omega); (· omega); conv => whnf) | ((with_reducible refine Gets.subI ?_ ?_ ?_); (· omega); (· omega); conv => whnf) | (refine Gets.of _ rfl ?_; conv => whnf)
    rw [show ((k : Int) - (w.stem.length : Int)) % (w.loop.length : Int) = (((k - w.stem.length) % w.loop.length : Nat) : Int) by rw [show (k : Int) - (w.stem.length : Int) = ((k - w.stem.length : Nat) : Int) by omega]; rfl]
    repeat' first | (refine Gets.ix1v rfl rfl (by omega) ?_; conv => whnf) | (refine Gets.ldI rfl (by first | rfl | assumption) (by first | omega | exact Nat.le_of_ble_eq_true rfl) ?_; conv => whnf)
    unfold Wd.lt
    rw [if_neg (by omega)]
theorem list38 (l m : List Int) (hl : l.length ≤ 4294967296) (hm : m.length ≤ 4294967296) : CallW Tryd.prog 38 [.view 0 0 l.length, .view 1 0 m.length] ((emptyH.alloc (.ro 1 (ints l))).alloc (.ro 1 (ints m))) fun v _ => IsB v (l = m) := by
  refine CallW.symK (cuts := []) Tryd.func38 rfl (by kernel_rfl) ?_
  conv => whnf
  repeat' first | (refine Gets.of _ rfl ?_; conv => whnf) | (refine Fork.neI (fun _ => ?_) (fun _ => ?_) <;> first | (exfalso; omega) | (conv => whnf))
  · exact .f fun h => by subst h; omega
  have hlen : l.length = m.length := by omega
  refine CodeS.loopSK (cuts := []) (σ := Nat) (fun j => [(0, .view 0 0 l.length), (1, .view 1 0 m.length), (12, .int .i64 l.length), (13, .int .i64 j)]) (fun _ => (emptyH.alloc (.ro 1 (ints l))).alloc (.ro 1 (ints m))) (fun j => j ≤ l.length ∧ ∀ k, k < j → l.getD k 0 = m.getD k 0) (fun j => l.length - j) 0 (by kernel_rfl) ⟨Nat.zero_le _, fun k hk => by omega⟩ ⟨rfl, rfl, rfl, rfl, trivial⟩ rfl ?_
  rintro j ⟨g1, g2⟩
  rcases Nat.lt_or_ge j l.length with hj | hj
  · conv => whnf
    repeat' (refine Fork.dec (fun _ => ?_) (fun _ => ?_) <;> first | (exfalso; omega) | (conv => whnf))
    refine CodeS.drawT [0, 1] (.take 0 (.take 1 (.take 2 (.take 3 (.take 4 (.take 5 (.take 6 (.take 7 (.take 8 .done))))))))) mixed (by kernel_rfl) (.cons ⟨rfl, live_of_ints rfl (by omega)⟩ (.cons ⟨rfl, live_of_ints rfl (by omega)⟩ .nil)) ?_
    conv => whnf
    repeat' first | ((with_reducible refine Gets.addI ?_ ?_ ?_); (· omega); (· omega); conv => whnf) | (refine Gets.ix1v rfl rfl (by omega) ?_; conv => whnf) | (refine Gets.ldI rfl (by first | rfl | assumption) (by first | omega | exact Nat.le_of_ble_eq_true rfl) ?_; conv => whnf) | (refine Fork.neI (fun _ => ?_) (fun _ => ?_) <;> first | (exfalso; omega) | (conv => whnf))
    · exact .f fun h => by subst h; rename_i h; exact h rfl
    · exact ⟨j + 1, ⟨by omega, lt_succ_all g2 (by assumption)⟩, by omega, ⟨rfl, rfl, rfl, rfl, trivial⟩, rfl⟩
  · conv => whnf
    repeat' (refine Fork.dec (fun _ => ?_) (fun _ => ?_) <;> first | (exfalso; omega) | (conv => whnf))
    refine .t (List.ext_getElem hlen fun k h1 h2 => ?_)
    have := g2 k (by omega)
    rw [List.getD_eq_getElem?_getD, List.getD_eq_getElem?_getD, List.getElem?_eq_getElem h1, List.getElem?_eq_getElem h2] at this
    exact this
theorem list38a (l m : List Int) (hl : l.length ≤ 4294967296) (hm : m.length ≤ 4294967296) {H : AHeap} {i j : Nat} (hi : At H 1 (ints l) i) (hj : At H 1 (ints m) j) : CallW Tryd.prog 38 [.view i 0 l.length, .view j 0 m.length] H fun v H' => H' = H ∧ IsB v (l = m) :=
  (list38 l m hl hm).readsAt IsB.noRef [i, j] rfl (.cons ⟨_, _, rfl, hi⟩ (.cons ⟨_, _, rfl, hj⟩ .nil))
def h4 (a b : Wd) : AHeap := (a.heap.alloc (.ro 1 (ints b.stem))).alloc (.ro 1 (ints b.loop))
structure Wd.Sz (w : Wd) : Prop where
  s : w.stem.length ≤ 4294967296
  l : w.loop.length ≤ 4294967296
theorem wd_ext {a b : Wd} : a = b ↔ a.stem = b.stem ∧ a.loop = b.loop := by
  constructor
  · rintro rfl; exact ⟨rfl, rfl⟩
  · rintro ⟨h1, h2⟩; cases a; cases b; cases h1; cases h2; rfl
theorem written13 (a b : Wd) (ha : a.Sz) (hb : b.Sz) : CallW Tryd.prog 13 [a.av 0 1, b.av 2 3] (h4 a b) fun v _ => IsB v (a = b) := by
  refine CallW.symK (cuts := []) Tryd.func13 rfl (by kernel_rfl) ?_
  conv => whnf
  repeat' (refine Gets.of _ rfl ?_; conv => whnf)
  refine CallS.of (by kernel_rfl) (list38a a.stem b.stem ha.s hb.s (.roB rfl rfl) (.roB rfl rfl)) rfl ?_
  rintro _ _ ⟨rfl, hp | hp⟩
  all_goals conv => whnf
  all_goals
    repeat' (refine Gets.of _ rfl ?_; conv => whnf)
  · refine CallS.of (by kernel_rfl) (list38a a.loop b.loop ha.l hb.l (.roB rfl rfl) (.roB rfl rfl)) rfl ?_
    rintro _ _ ⟨rfl, hq | hq⟩
    all_goals conv => whnf
    all_goals
      skip
    · exact .t (wd_ext.2 ⟨hp, hq⟩)
    · exact .f fun h => hq (wd_ext.1 h).2
  · exact .f fun h => hp (wd_ext.1 h).1
/-- The rows of a word are told at those numbers. -/
structure Wd.In (w : Wd) (H : AHeap) (i j : Nat) : Prop where
  s : At H 1 (ints w.stem) i
  l : At H 1 (ints w.loop) j
theorem Wd.In.all {w : Wd} {H : AHeap} {i j : Nat} (h : w.In H i j) : AllQ (fun m => ∃ es cs, w.heap.f m = .ro es cs ∧ At H es cs (fk [i, j] H.n m)) 0 w.heap.n := .cons ⟨_, _, rfl, h.s⟩ (.cons ⟨_, _, rfl, h.l⟩ .nil)
theorem written13a (a b : Wd) (ha : a.Sz) (hb : b.Sz) {H : AHeap} {i j k l : Nat} (h1 : a.In H i j) (h2 : b.In H k l) : CallW Tryd.prog 13 [a.av i j, b.av k l] H fun v H' => H' = H ∧ IsB v (a = b) :=
  (written13 a b ha hb).readsAt IsB.noRef [i, j, k, l] rfl (.cons ⟨_, _, rfl, h1.s⟩ (.cons ⟨_, _, rfl, h1.l⟩ (.cons ⟨_, _, rfl, h2.s⟩ (.cons ⟨_, _, rfl, h2.l⟩ .nil))))
theorem is18 (a b : Wd) (ha : a.Sz) (hb : b.Sz) (e f : Int) : CallW Tryd.prog 18 [a.av 0 1, .int .i64 e, b.av 2 3, .int .i64 f] (h4 a b) fun v _ => IsB v (e = f ∧ a = b) := by
  refine CallW.symK (cuts := []) Tryd.func18 rfl (by kernel_rfl) ?_
  conv => whnf
  repeat' first | (refine Gets.of _ rfl ?_; conv => whnf) | (refine Fork.dec (fun _ => ?_) (fun _ => ?_) <;> first | (exfalso; omega) | (conv => whnf))
  · refine CallS.of (by kernel_rfl) (written13a a b ha hb ⟨.roB rfl rfl, .roB rfl rfl⟩ ⟨.roB rfl rfl, .roB rfl rfl⟩) rfl ?_
    rintro _ _ ⟨rfl, hp | hp⟩
    all_goals conv => whnf
    all_goals
      skip
    · exact .t ⟨by assumption, hp⟩
    · exact .f fun h => hp h.2
  · exact .f fun h => by have := h.1; omega
theorem is18a (a b : Wd) (ha : a.Sz) (hb : b.Sz) (e f : Int) {H : AHeap} {i j k l : Nat} (h1 : a.In H i j) (h2 : b.In H k l) : CallW Tryd.prog 18 [a.av i j, .int .i64 e, b.av k l, .int .i64 f] H fun v H' => H' = H ∧ IsB v (e = f ∧ a = b) :=
  (is18 a b ha hb e f).readsAt IsB.noRef [i, j, k, l] rfl (.cons ⟨_, _, rfl, h1.s⟩ (.cons ⟨_, _, rfl, h1.l⟩ (.cons ⟨_, _, rfl, h2.s⟩ (.cons ⟨_, _, rfl, h2.l⟩ .nil))))
end Go.Proofs.YthjemhlcojmiaaaDoor

/- Rows made of rows: Clone, Grow, Concat. -/
-- VkG VkH
set_option linter.unusedVariables false
set_option linter.unusedSimpArgs false
set_option maxRecDepth 100000
set_option maxHeartbeats 1000000
namespace Go.Proofs.YthjemhlcojmiaaaDoor
open Go Go.Vh Go.Vk Go.Proofs
theorem _root_.Go.Vh.CallW.nilOrK {P : Program} {f : FuncId} {i off n : Nat} {rest : List AVal} {H : AHeap} {K : AVal → AHeap → Prop} (h1 : CallW P f (.slice i off n :: rest) H K) (h2 : n = 0 → CallW P f (.nilSlice :: rest) H K) : CallW P f (.view i off n :: rest) H K :=
  CallW.viewsOr h1 h2 fun φ w cs hR hv => by
    cases cs with
    | nil => simp [VRels] at hv
    | cons c cs =>
      obtain ⟨a, b⟩ := VRels_cons.1 hv
      obtain ⟨bi, hb, ⟨h0, h⟩ | ⟨cap, ad, h3, h4, h5⟩⟩ := a
      · exact .inr ⟨h0, VRels_cons.2 ⟨h, b⟩⟩
      · exact .inl (VRels_cons.2 ⟨⟨bi, cap, ad, hb, h3, h4, h5⟩, b⟩)
theorem vB_ne {l : List Int} (h : 0 < l.length) : vB l = .cells 1 (ints l) := by
  cases l with
  | nil => simp at h
  | cons x l => rfl
theorem vB_or (l : List Int) : ∃ cs, vB l = .ro 1 cs ∨ vB l = .cells 1 cs := by
  cases l with
  | nil => exact ⟨_, .inl rfl⟩
  | cons x l => exact ⟨_, .inr rfl⟩
theorem Gets.sliceHiW {P : Program} {H : AHeap} {t e : TypeId} {ti : TI} {i n k : Nat} {A : AVal → Prop} (hu : P.underlying t = some (.slice e)) (ht : sliceT P t = some ti) (hsz : ti.size = 1) (hf : ∃ cs, H.f i = .ro 1 cs ∨ H.f i = .cells 1 cs) (hk : k ≤ n) (hA : A (.view i 0 k)) : Gets (asliceV P H t (.view i 0 n) none (some (.int .i64 (k : Int)))) A := by
  refine ⟨⟨_, ?_, hA⟩⟩
  obtain ⟨cs, hf | hf⟩ := hf
  all_goals
    simp only [asliceV, aslice, hu, ht, boundA, hf]
    rw [if_pos ⟨by omega, by omega, by omega, hsz.symm⟩]
    simp
theorem Gets.sliceLoW {P : Program} {H : AHeap} {t e : TypeId} {ti : TI} {i n k : Nat} {A : AVal → Prop} (hu : P.underlying t = some (.slice e)) (ht : sliceT P t = some ti) (hsz : ti.size = 1) (hf : ∃ cs, H.f i = .ro 1 cs ∨ H.f i = .cells 1 cs) (hk : k ≤ n) (hA : A (.view i k (n - k))) : Gets (asliceV P H t (.view i 0 n) (some (.int .i64 (k : Int))) none) A := by
  refine ⟨⟨_, ?_, hA⟩⟩
  obtain ⟨cs, hf | hf⟩ := hf
  all_goals
    simp only [asliceV, aslice, hu, ht, boundA, hf]
    rw [if_pos ⟨by omega, by omega, by omega, hsz.symm⟩]
    simp [hsz]
theorem _root_.Go.Vh.BSub.roCs {κ : Nat → Nat} {es : Nat} {cs cs' : List AVal} (h : cs' = rens κ cs) : BSub κ (.ro es cs) (.cells es cs') := by subst h; exact .inr (.inr ⟨es, cs, rfl, rfl⟩)
theorem clone47t (l : List Int) (k p : Nat) (hp : k + p ≤ l.length) (hl : p ≤ 4294967296) : CallW Tryd.prog 47 [.view 0 k p] (emptyH.alloc (.ro 1 (ints l))) fun v H' => v = .view 1 0 p ∧ H' = (emptyH.alloc (.ro 1 (ints l))).alloc (vB ((l.drop k).take p)) := by
  have hlen : 0 + p = p := Nat.zero_add _
  refine CallW.tells (CallW.nilOrK ?_ fun h0 => ?_)
  · refine CallW.symRK (cuts := []) Tryd.func47 rfl (by kernel_rfl) ?_
    conv => whnf
    repeat' (refine Fork.noR rfl ?_; conv => whnf)
    all_goals first | (rename_i h; exact absurd h (by decide)) | skip
    refine Gets.appSrc (ti := tiI) (l := []) (xs := (l.drop k).take p) (m := 0) (n := p) rfl rfl rfl rfl rfl (by decide) (Nat.le_refl _) (src_part hp (.inl rfl)).1 rfl (by omega) ?_
    rw [hlen]
    conv => whnf
    skip
    exact ⟨renL [0, 2] 3, .slice 1 0 p, (emptyH.alloc (.ro 1 (ints l))).alloc (vB ((l.drop k).take p)), EmbL.litsN [0, 2] rfl rfl rfl rfl (.cons ⟨rfl, .inl ⟨rfl, fun h => h⟩⟩ .nil) (.cons ⟨rfl, .roI⟩ (.cons ⟨rfl, .vC rfl⟩ .nil)), rfl, .view 1 0 p, ⟨rfl, rfl⟩, Tells.sliceView⟩
  · subst h0
    refine CallW.symRK (cuts := []) Tryd.func47 rfl (by kernel_rfl) ?_
    conv => whnf
    repeat' (refine Fork.yesR rfl ?_; conv => whnf)
    all_goals first | (rename_i h; exact absurd h (by decide)) | skip
    cases l with
    | nil => exact ⟨renL [0, 0] 1, .nilSlice, (emptyH.alloc (.ro 1 (ints []))).alloc (vB []), EmbL.lits [0, 0] rfl rfl rfl rfl (.cons ⟨rfl, .inl ⟨rfl, fun h => h⟩⟩ .nil) (.cons ⟨rfl, .roI⟩ (.cons ⟨rfl, .roE⟩ .nil)), rfl, .view 1 0 0, ⟨rfl, rfl⟩, Tells.nilView (by rfl)⟩
    | cons x l => exact ⟨renL [0, 0] 1, .nilSlice, (emptyH.alloc (.ro 1 (ints (x :: l)))).alloc (vB []), EmbL.lits [0, 0] rfl rfl rfl rfl (.cons ⟨rfl, .inl ⟨rfl, fun h => h⟩⟩ .nil) (.cons ⟨rfl, .roI⟩ (.cons ⟨rfl, .roE⟩ .nil)), rfl, .view 1 0 0, ⟨rfl, rfl⟩, Tells.nilView (by rfl)⟩
theorem clone47a (l : List Int) (k p : Nat) (hp : k + p ≤ l.length) (hl : p ≤ 4294967296) {H : AHeap} {i : Nat} (hi : At H 1 (ints l) i) : CallW Tryd.prog 47 [.view i k p] H fun v H' => v = .view H.n 0 p ∧ H' = H.alloc (vB ((l.drop k).take p)) := by
  refine (CallW.allocsAt (K := fun v bs => v = .view 1 0 p ∧ bs = [vB ((l.drop k).take p)]) ((clone47t l k p hp hl).mono ?_) [i] rfl (.cons ⟨_, _, rfl, hi⟩ .nil)).mono ?_
  · rintro _ _ ⟨rfl, rfl⟩; exact ⟨[vB ((l.drop k).take p)], rfl, by simp [vB_fresh], rfl, rfl⟩
  · rintro _ _ ⟨_, _, ⟨rfl, rfl⟩, rfl, rfl⟩
    exact ⟨rfl, by show H.alloc (renB _ (vB _)) = _; rw [renB_vB]⟩
theorem grow59 (n : Int) (h0 : 0 < n) (h1 : n ≤ 4294967296) : CallW Tryd.prog 59 [.nilSlice, .int .i64 n] emptyH fun v H' => v = .slice 0 0 0 ∧ H' = emptyH.alloc (.cells 1 (ints (List.replicate n.toNat 0))) := by
  refine CallW.symRK (cuts := []) Tryd.func59 rfl (by kernel_rfl) ?_
  conv => whnf
  repeat' first | ((refine Gets.appZ (ti := tiI) rfl rfl rfl rfl (by decide) (by omega) (by omega) ?_); conv => whnf) | ((refine Gets.sliceHi (k := 0) rfl rfl rfl rfl (Nat.zero_le _) ?_); conv => whnf) | ((with_reducible refine Gets.subI ?_ ?_ ?_); (· omega); (· omega); conv => whnf) | (refine Gets.of _ rfl ?_; conv => whnf) | (refine Fork.dec (fun _ => ?_) (fun _ => ?_) <;> first | (exfalso; omega) | (conv => whnf))
  rw [show n - (0 - 0) = n by omega]
  exact ⟨renL [0] 1, .slice 0 0 0, _, EmbL.litsN [0] rfl rfl rfl rfl .nil (.cons ⟨rfl, .cellsI⟩ .nil), rfl, rfl, rfl⟩
def cc3 (l m : List Int) : AHeap := (emptyH.alloc (.ro 1 (ints l))).alloc (.ro 1 (ints m))
def HconcatS (l m : List Int) (o1 n1 o2 n2 : Nat) : AHeap := (cc3 l m).alloc (.ro 1 [.slice 0 o1 n1, .slice 1 o2 n2])
theorem concatS (l m : List Int) (o1 n1 o2 n2 : Nat) (h1 : o1 + n1 ≤ l.length) (h2 : o2 + n2 ≤ m.length) (h0 : 0 < n1 + n2) (hl : n1 + n2 ≤ 4294967296) : CallW Tryd.prog 45 [.slice 2 0 2] (HconcatS l m o1 n1 o2 n2) fun v H' => v = .slice 3 0 (n1 + n2) ∧ H' = (HconcatS l m o1 n1 o2 n2).alloc (.cells 1 (ints ((l.drop o1).take n1 ++ (m.drop o2).take n2))) := by
  refine CallW.symRK (cuts := []) Tryd.func45 rfl (by kernel_rfl) ?_
  conv => whnf
  repeat' (refine Gets.of _ rfl ?_; conv => whnf)
  refine CodeS.loopSK (cuts := []) (σ := Nat × Nat) (fun p => [(0, .slice 2 0 2), (3, .int .i64 (p.2 : Int)), (9, .slice 2 0 2), (10, .int .i64 2), (11, .int .i64 (p.1 : Int))]) (fun _ => HconcatS l m o1 n1 o2 n2) (fun p => (p.1 = 0 ∧ p.2 = 0) ∨ (p.1 = 1 ∧ p.2 = n1) ∨ (p.1 = 2 ∧ p.2 = n1 + n2)) (fun p => 2 - p.1) (0, 0) (by kernel_rfl) (.inl ⟨rfl, rfl⟩) ⟨rfl, rfl, rfl, rfl, rfl, trivial⟩ rfl ?_
  rintro ⟨j, s⟩ hj
  dsimp only at hj
  rcases hj with ⟨rfl, rfl⟩ | ⟨rfl, rfl⟩ | ⟨rfl, rfl⟩
  · conv => whnf
    repeat' first | ((with_reducible refine Gets.addI ?_ ?_ ?_); (· omega); (· omega); conv => whnf) | (refine Gets.of _ rfl ?_; conv => whnf) | (refine Fork.yesR rfl ?_; conv => whnf) | (refine Fork.noR rfl ?_; conv => whnf)
    exact ⟨(1, n1), .inr (.inl ⟨rfl, rfl⟩), (by show 2 - 1 < 2 - 0; decide), ⟨rfl, (by show AVal.int .i64 (((0:Nat):Int) + (n1:Int)) = AVal.int .i64 ((n1:Nat):Int); congr 1; omega), rfl, rfl, rfl, trivial⟩, rfl⟩
  · conv => whnf
    repeat' first | ((with_reducible refine Gets.addI ?_ ?_ ?_); (· omega); (· omega); conv => whnf) | (refine Gets.of _ rfl ?_; conv => whnf) | (refine Fork.yesR rfl ?_; conv => whnf) | (refine Fork.noR rfl ?_; conv => whnf)
    exact ⟨(2, s + n2), .inr (.inr ⟨rfl, rfl⟩), (by show 2 - 2 < 2 - 1; decide), ⟨rfl, (by show AVal.int .i64 (((s:Nat):Int) + (n2:Int)) = AVal.int .i64 ((s + n2:Nat):Int); congr 1), rfl, rfl, rfl, trivial⟩, rfl⟩
  · conv => whnf
    repeat' (refine Fork.noR rfl ?_; conv => whnf)
    refine CallS.of (by kernel_rfl) ((grow59 ((n1 + n2 : Nat) : Int) (by omega) (by omega)).frameQ [] rfl .nil (by rintro _ _ ⟨rfl, rfl⟩; repeat first | exact .nil | refine .cons (by first | exact .inr rfl | exact .inl rfl | exact .inr (fresh_oN _) | exact .inr (fresh_oP _) | exact .inr (fresh_oI _)) ?_)) rfl ?_
    rintro _ _ ⟨_, _, ⟨rfl, rfl⟩, rfl, rfl⟩
    rw [show ((n1 + n2 : Nat) : Int).toNat = n1 + n2 from rfl]
    conv => whnf
    repeat' (refine Gets.of _ rfl ?_; conv => whnf)
    refine CodeS.loopGK (cuts := []) (σ := Nat × Nat × List Int) (fun p => [(6, .slice 3 0 p.2.1), (25, .slice 2 0 2), (26, .int .i64 2), (27, .int .i64 (p.1 : Int))]) (fun p => (HconcatS l m o1 n1 o2 n2).alloc (.cells 1 (ints p.2.2))) (fun p => (p.1 = 0 ∧ p.2.1 = 0 ∧ p.2.2 = List.replicate (n1 + n2) 0) ∨ (p.1 = 1 ∧ p.2.1 = n1 ∧ p.2.2 = (l.drop o1).take n1) ∨ (p.1 = 2 ∧ p.2.1 = n1 + n2 ∧ p.2.2 = (l.drop o1).take n1 ++ (m.drop o2).take n2)) (fun p => 2 - p.1) (0, 0, List.replicate (n1 + n2) 0) (renL [0, 1, 2, 3] 4) (by kernel_rfl) (.inl ⟨rfl, rfl, rfl⟩) ⟨rfl, rfl, rfl, rfl, trivial⟩ (EmbL.litsN [0, 1, 2, 3] rfl rfl rfl rfl (.cons ⟨rfl, .inl ⟨rfl, fun h => h⟩⟩ (.cons ⟨rfl, .inl ⟨rfl, fun h => h⟩⟩ (.cons ⟨rfl, .inl ⟨rfl, fun h => h⟩⟩ .nil))) (.cons ⟨rfl, .roI⟩ (.cons ⟨rfl, .roI⟩ (.cons ⟨rfl, .inl rfl⟩ (.cons ⟨rfl, .cellsIr⟩ .nil))))) ?_
    rintro ⟨j, s, b⟩ hj
    dsimp only at hj
    rcases hj with ⟨rfl, rfl, rfl⟩ | ⟨rfl, rfl, rfl⟩ | ⟨rfl, rfl, rfl⟩
    · conv => whnf
      repeat' first | (refine Gets.of _ rfl ?_; conv => whnf) | (refine Fork.yesR rfl ?_; conv => whnf)
      refine Gets.appSrc (ti := tiI) (l := List.replicate (n1 + n2) 0) (xs := (l.drop o1).take n1) (m := 0) (n := n1) rfl rfl rfl rfl rfl (by decide) (Nat.zero_le _) (src_part h1 (.inl rfl)).1 rfl (by omega) ?_
      rw [show (List.replicate (n1 + n2) (0 : Int)).take 0 ++ (l.drop o1).take n1 = (l.drop o1).take n1 from rfl, show 0 + n1 = n1 from Nat.zero_add _]
      conv => whnf
      repeat' ((with_reducible refine Gets.addI ?_ ?_ ?_); (· omega); (· omega); conv => whnf)
      exact ⟨(1, n1, _), renL [0, 1, 2, 4] 5, .inr (.inl ⟨rfl, rfl, rfl⟩), (by show 2 - 1 < 2 - 0; decide), ⟨rfl, rfl, rfl, rfl, trivial⟩, EmbL.litsN [0, 1, 2, 4] rfl rfl rfl rfl (.cons ⟨rfl, .inl ⟨rfl, fun h => h⟩⟩ (.cons ⟨rfl, .inl ⟨rfl, fun h => h⟩⟩ (.cons ⟨rfl, .inl ⟨rfl, fun h => h⟩⟩ .nil))) (.cons ⟨rfl, .roI⟩ (.cons ⟨rfl, .roI⟩ (.cons ⟨rfl, .inl rfl⟩ (.cons ⟨rfl, .cellsI⟩ .nil))))⟩
    · conv => whnf
      repeat' first | (refine Gets.of _ rfl ?_; conv => whnf) | (refine Fork.yesR rfl ?_; conv => whnf)
      refine Gets.appSrc (ti := tiI) (l := (l.drop o1).take s) (xs := (m.drop o2).take n2) (m := s) (n := n2) rfl rfl rfl rfl rfl (by decide) (by rw [List.length_take, List.length_drop]; omega) (src_part h2 (.inl rfl)).1 rfl (by omega) ?_
      rw [show ((l.drop o1).take s).take s = (l.drop o1).take s by rw [List.take_take, Nat.min_self]]
      conv => whnf
      repeat' ((with_reducible refine Gets.addI ?_ ?_ ?_); (· omega); (· omega); conv => whnf)
      exact ⟨(2, s + n2, _), renL [0, 1, 2, 4] 5, .inr (.inr ⟨rfl, rfl, rfl⟩), (by show 2 - 2 < 2 - 1; decide), ⟨rfl, rfl, rfl, rfl, trivial⟩, EmbL.litsN [0, 1, 2, 4] rfl rfl rfl rfl (.cons ⟨rfl, .inl ⟨rfl, fun h => h⟩⟩ (.cons ⟨rfl, .inl ⟨rfl, fun h => h⟩⟩ (.cons ⟨rfl, .inl ⟨rfl, fun h => h⟩⟩ .nil))) (.cons ⟨rfl, .roI⟩ (.cons ⟨rfl, .roI⟩ (.cons ⟨rfl, .inl rfl⟩ (.cons ⟨rfl, .cellsI⟩ .nil))))⟩
    · conv => whnf
      repeat' (refine Fork.noR rfl ?_; conv => whnf)
      exact ⟨renL [0, 1, 2, 3] 4, .slice 3 0 (n1 + n2), _, EmbL.litsN [0, 1, 2, 3] rfl rfl rfl rfl (.cons ⟨rfl, .inl ⟨rfl, fun h => h⟩⟩ (.cons ⟨rfl, .inl ⟨rfl, fun h => h⟩⟩ (.cons ⟨rfl, .inl ⟨rfl, fun h => h⟩⟩ .nil))) (.cons ⟨rfl, .roI⟩ (.cons ⟨rfl, .roI⟩ (.cons ⟨rfl, .inl rfl⟩ (.cons ⟨rfl, .cellsI⟩ .nil)))), rfl, rfl, rfl⟩
def HconcatV (l m : List Int) (o1 n1 o2 n2 : Nat) : AHeap := (cc3 l m).alloc (.ro 1 [.view 0 o1 n1, .view 1 o2 n2])
theorem concatV (l m : List Int) (o1 n1 o2 n2 : Nat) (h1 : o1 + n1 ≤ l.length) (h2 : o2 + n2 ≤ m.length) (h0 : 0 < n1 + n2) (hl : n1 + n2 ≤ 4294967296) : CallW Tryd.prog 45 [.slice 2 0 2] (HconcatV l m o1 n1 o2 n2) fun v H' => v = .slice 3 0 (n1 + n2) ∧ H' = (HconcatV l m o1 n1 o2 n2).alloc (.cells 1 (ints ((l.drop o1).take n1 ++ (m.drop o2).take n2))) := by
  refine CallW.symRK (cuts := []) Tryd.func45 rfl (by kernel_rfl) ?_
  conv => whnf
  repeat' (refine Gets.of _ rfl ?_; conv => whnf)
  refine CodeS.loopSK (cuts := []) (σ := Nat × Nat) (fun p => [(0, .slice 2 0 2), (3, .int .i64 (p.2 : Int)), (9, .slice 2 0 2), (10, .int .i64 2), (11, .int .i64 (p.1 : Int))]) (fun _ => HconcatV l m o1 n1 o2 n2) (fun p => (p.1 = 0 ∧ p.2 = 0) ∨ (p.1 = 1 ∧ p.2 = n1) ∨ (p.1 = 2 ∧ p.2 = n1 + n2)) (fun p => 2 - p.1) (0, 0) (by kernel_rfl) (.inl ⟨rfl, rfl⟩) ⟨rfl, rfl, rfl, rfl, rfl, trivial⟩ rfl ?_
  rintro ⟨j, s⟩ hj
  dsimp only at hj
  rcases hj with ⟨rfl, rfl⟩ | ⟨rfl, rfl⟩ | ⟨rfl, rfl⟩
  · conv => whnf
    repeat' first | ((with_reducible refine Gets.addI ?_ ?_ ?_); (· omega); (· omega); conv => whnf) | (refine Gets.of _ rfl ?_; conv => whnf) | (refine Fork.yesR rfl ?_; conv => whnf) | (refine Fork.noR rfl ?_; conv => whnf)
    exact ⟨(1, n1), .inr (.inl ⟨rfl, rfl⟩), (by show 2 - 1 < 2 - 0; decide), ⟨rfl, (by show AVal.int .i64 (((0:Nat):Int) + (n1:Int)) = AVal.int .i64 ((n1:Nat):Int); congr 1; omega), rfl, rfl, rfl, trivial⟩, rfl⟩
  · conv => whnf
    repeat' first | ((with_reducible refine Gets.addI ?_ ?_ ?_); (· omega); (· omega); conv => whnf) | (refine Gets.of _ rfl ?_; conv => whnf) | (refine Fork.yesR rfl ?_; conv => whnf) | (refine Fork.noR rfl ?_; conv => whnf)
    exact ⟨(2, s + n2), .inr (.inr ⟨rfl, rfl⟩), (by show 2 - 2 < 2 - 1; decide), ⟨rfl, (by show AVal.int .i64 (((s:Nat):Int) + (n2:Int)) = AVal.int .i64 ((s + n2:Nat):Int); congr 1), rfl, rfl, rfl, trivial⟩, rfl⟩
  · conv => whnf
    repeat' (refine Fork.noR rfl ?_; conv => whnf)
    refine CallS.of (by kernel_rfl) ((grow59 ((n1 + n2 : Nat) : Int) (by omega) (by omega)).frameQ [] rfl .nil (by rintro _ _ ⟨rfl, rfl⟩; repeat first | exact .nil | refine .cons (by first | exact .inr rfl | exact .inl rfl | exact .inr (fresh_oN _) | exact .inr (fresh_oP _) | exact .inr (fresh_oI _)) ?_)) rfl ?_
    rintro _ _ ⟨_, _, ⟨rfl, rfl⟩, rfl, rfl⟩
    rw [show ((n1 + n2 : Nat) : Int).toNat = n1 + n2 from rfl]
    conv => whnf
    repeat' (refine Gets.of _ rfl ?_; conv => whnf)
    refine CodeS.loopGK (cuts := []) (σ := Nat × Nat × List Int) (fun p => [(6, .slice 3 0 p.2.1), (25, .slice 2 0 2), (26, .int .i64 2), (27, .int .i64 (p.1 : Int))]) (fun p => (HconcatV l m o1 n1 o2 n2).alloc (.cells 1 (ints p.2.2))) (fun p => (p.1 = 0 ∧ p.2.1 = 0 ∧ p.2.2 = List.replicate (n1 + n2) 0) ∨ (p.1 = 1 ∧ p.2.1 = n1 ∧ p.2.2 = (l.drop o1).take n1) ∨ (p.1 = 2 ∧ p.2.1 = n1 + n2 ∧ p.2.2 = (l.drop o1).take n1 ++ (m.drop o2).take n2)) (fun p => 2 - p.1) (0, 0, List.replicate (n1 + n2) 0) (renL [0, 1, 2, 3] 4) (by kernel_rfl) (.inl ⟨rfl, rfl, rfl⟩) ⟨rfl, rfl, rfl, rfl, trivial⟩ (EmbL.litsN [0, 1, 2, 3] rfl rfl rfl rfl (.cons ⟨rfl, .inl ⟨rfl, fun h => h⟩⟩ (.cons ⟨rfl, .inl ⟨rfl, fun h => h⟩⟩ (.cons ⟨rfl, .inl ⟨rfl, fun h => h⟩⟩ .nil))) (.cons ⟨rfl, .roI⟩ (.cons ⟨rfl, .roI⟩ (.cons ⟨rfl, .inl rfl⟩ (.cons ⟨rfl, .cellsIr⟩ .nil))))) ?_
    rintro ⟨j, s, b⟩ hj
    dsimp only at hj
    rcases hj with ⟨rfl, rfl, rfl⟩ | ⟨rfl, rfl, rfl⟩ | ⟨rfl, rfl, rfl⟩
    · conv => whnf
      repeat' first | (refine Gets.of _ rfl ?_; conv => whnf) | (refine Fork.yesR rfl ?_; conv => whnf)
      refine Gets.appSrc (ti := tiI) (l := List.replicate (n1 + n2) 0) (xs := (l.drop o1).take n1) (m := 0) (n := n1) rfl rfl rfl rfl rfl (by decide) (Nat.zero_le _) (src_part h1 (.inl rfl)).2 rfl (by omega) ?_
      rw [show (List.replicate (n1 + n2) (0 : Int)).take 0 ++ (l.drop o1).take n1 = (l.drop o1).take n1 from rfl, show 0 + n1 = n1 from Nat.zero_add _]
      conv => whnf
      repeat' ((with_reducible refine Gets.addI ?_ ?_ ?_); (· omega); (· omega); conv => whnf)
      exact ⟨(1, n1, _), renL [0, 1, 2, 4] 5, .inr (.inl ⟨rfl, rfl, rfl⟩), (by show 2 - 1 < 2 - 0; decide), ⟨rfl, rfl, rfl, rfl, trivial⟩, EmbL.litsN [0, 1, 2, 4] rfl rfl rfl rfl (.cons ⟨rfl, .inl ⟨rfl, fun h => h⟩⟩ (.cons ⟨rfl, .inl ⟨rfl, fun h => h⟩⟩ (.cons ⟨rfl, .inl ⟨rfl, fun h => h⟩⟩ .nil))) (.cons ⟨rfl, .roI⟩ (.cons ⟨rfl, .roI⟩ (.cons ⟨rfl, .inl rfl⟩ (.cons ⟨rfl, .cellsI⟩ .nil))))⟩
    · conv => whnf
      repeat' first | (refine Gets.of _ rfl ?_; conv => whnf) | (refine Fork.yesR rfl ?_; conv => whnf)
      refine Gets.appSrc (ti := tiI) (l := (l.drop o1).take s) (xs := (m.drop o2).take n2) (m := s) (n := n2) rfl rfl rfl rfl rfl (by decide) (by rw [List.length_take, List.length_drop]; omega) (src_part h2 (.inl rfl)).2 rfl (by omega) ?_
      rw [show ((l.drop o1).take s).take s = (l.drop o1).take s by rw [List.take_take, Nat.min_self]]
      conv => whnf
      repeat' ((with_reducible refine Gets.addI ?_ ?_ ?_); (· omega); (· omega); conv => whnf)
      exact ⟨(2, s + n2, _), renL [0, 1, 2, 4] 5, .inr (.inr ⟨rfl, rfl, rfl⟩), (by show 2 - 2 < 2 - 1; decide), ⟨rfl, rfl, rfl, rfl, trivial⟩, EmbL.litsN [0, 1, 2, 4] rfl rfl rfl rfl (.cons ⟨rfl, .inl ⟨rfl, fun h => h⟩⟩ (.cons ⟨rfl, .inl ⟨rfl, fun h => h⟩⟩ (.cons ⟨rfl, .inl ⟨rfl, fun h => h⟩⟩ .nil))) (.cons ⟨rfl, .roI⟩ (.cons ⟨rfl, .roI⟩ (.cons ⟨rfl, .inl rfl⟩ (.cons ⟨rfl, .cellsI⟩ .nil))))⟩
    · conv => whnf
      repeat' (refine Fork.noR rfl ?_; conv => whnf)
      exact ⟨renL [0, 1, 2, 3] 4, .slice 3 0 (n1 + n2), _, EmbL.litsN [0, 1, 2, 3] rfl rfl rfl rfl (.cons ⟨rfl, .inl ⟨rfl, fun h => h⟩⟩ (.cons ⟨rfl, .inl ⟨rfl, fun h => h⟩⟩ (.cons ⟨rfl, .inl ⟨rfl, fun h => h⟩⟩ .nil))) (.cons ⟨rfl, .roI⟩ (.cons ⟨rfl, .roI⟩ (.cons ⟨rfl, .inl rfl⟩ (.cons ⟨rfl, .cellsI⟩ .nil)))), rfl, rfl, rfl⟩
end Go.Proofs.YthjemhlcojmiaaaDoor

/- The period of a row. -/
-- VkG VkH
set_option linter.unusedVariables false
set_option linter.unusedSimpArgs false
set_option maxRecDepth 100000
set_option maxHeartbeats 1000000
namespace Go.Proofs.YthjemhlcojmiaaaDoor
open Go Go.Vh Go.Vk Go.Proofs
theorem isPer_self {l : List Int} (hl : 0 < l.length) (h : ∀ q, 0 < q → q < l.length → ¬ Pd l q) : IsPer l l.length := ⟨hl, Nat.le_refl _, pd_self l, h⟩
theorem period57 (l : List Int) (h0 : 0 < l.length) (hl : l.length ≤ 4294967296) : CallW Tryd.prog 57 [.view 0 0 l.length] (emptyH.alloc (.ro 1 (ints l))) fun v _ => v = .int .i64 (per l : Int) := by
  refine CallW.symK (cuts := []) Tryd.func57 rfl (by kernel_rfl) ?_
  conv => whnf
  skip
  refine CodeS.scope0 (cuts := []) (by kernel_rfl) ?_
  conv => whnf
  skip
  refine CodeS.loopSK (cuts := []) (σ := Nat) (fun p => [(0, .view 0 0 l.length), (3, .int .i64 (p : Int))]) (fun _ => emptyH.alloc (.ro 1 (ints l))) (fun p => 0 < p ∧ p ≤ l.length ∧ ∀ q, 0 < q → q < p → ¬ Pd l q) (fun p => l.length - p) 1 (by kernel_rfl) ⟨by decide, h0, fun q h1 h2 => by omega⟩ ⟨rfl, rfl, trivial⟩ rfl ?_
  rintro p ⟨g1, g2, g3⟩
  conv => whnf
  repeat' first | ((with_reducible refine Gets.remN ?_ ?_ ?_); (· omega); (· omega); conv => whnf) | ((with_reducible refine Gets.addI ?_ ?_ ?_); (· omega); (· omega); conv => whnf) | (refine Gets.of _ rfl ?_; conv => whnf) | (refine Fork.dec (fun _ => ?_) (fun _ => ?_) <;> first | (exfalso; omega) | (conv => whnf)) | (refine Fork.neI (fun _ => ?_) (fun _ => ?_) <;> first | (exfalso; omega) | (conv => whnf))
  · rename_i hm
    have e : (l.length : Int) % (p : Int) = ((l.length % p : Nat) : Int) := rfl
    exact ⟨p + 1, ⟨by omega, by omega, fun q h1 h2 => by
      rcases Nat.lt_or_ge q p with a | a
      · exact g3 q h1 a
      · rw [show q = p by omega]; intro h; exact hm (by rw [e, h.1]; rfl)⟩, by omega, ⟨rfl, rfl, trivial⟩, rfl⟩
  · rename_i hm
    have e : (l.length : Int) % (p : Int) = ((l.length % p : Nat) : Int) := rfl
    have hm' : l.length % p = 0 := by rw [e] at hm; omega
    refine CodeS.loopSK (cuts := []) (σ := Nat) (fun j => [(0, .view 0 0 l.length), (3, .int .i64 (p : Int)), (4, .int .i64 (j : Int))]) (fun _ => emptyH.alloc (.ro 1 (ints l))) (fun j => p ≤ j ∧ j ≤ l.length ∧ ∀ i, p ≤ i → i < j → l.getD i 0 = l.getD (i - p) 0) (fun j => l.length - j) p (by kernel_rfl) ⟨Nat.le_refl _, g2, fun i h1 h2 => by omega⟩ ⟨rfl, rfl, rfl, trivial⟩ rfl ?_
    rintro j ⟨k1, k2, k3⟩
    rcases Nat.lt_or_ge j l.length with hj | hj
    · conv => whnf
      repeat' first | (refine Gets.of _ rfl ?_; conv => whnf) | (refine Fork.dec (fun _ => ?_) (fun _ => ?_) <;> first | (exfalso; omega) | (conv => whnf))
      refine CodeS.drawT [0] (.take 0 (.take 1 (.take 2 (.take 3 (.take 4 (.take 5 (.take 6 (.take 7 (.take 8 (.take 9 (.take 10 .done))))))))))) mixed (by kernel_rfl) (.cons ⟨rfl, live_of_ints rfl (by omega)⟩ .nil) ?_
      conv => whnf
      repeat' first | ((with_reducible refine Gets.addI ?_ ?_ ?_); (· omega); (· omega); conv => whnf) | ((with_reducible refine Gets.subI ?_ ?_ ?_); (· omega); (· omega); conv => whnf) | (refine Gets.ix1v rfl rfl (by omega) ?_; conv => whnf) | (refine Gets.ixIv rfl rfl (by omega) (by omega) ?_; conv => whnf) | (refine Gets.ldI rfl (by first | rfl | assumption) (by first | omega | exact Nat.le_of_ble_eq_true rfl) ?_; conv => whnf) | (refine Fork.neI (fun _ => ?_) (fun _ => ?_) <;> first | (exfalso; omega) | (conv => whnf))
      · rename_i hne
        exact ⟨p + 1, ⟨by omega, by omega, fun q h1 h2 => by
          rcases Nat.lt_or_ge q p with a | a
          · exact g3 q h1 a
          · rw [show q = p by omega]; intro h; exact hne (by have := h.2 j k1 hj; rw [this]; congr 1; omega)⟩, by omega, ⟨rfl, rfl, trivial⟩, rfl⟩
      · rename_i he
        exact ⟨j + 1, ⟨by omega, by omega, fun i h1 h2 => by
          rcases Nat.lt_or_ge i j with a | a
          · exact k3 i h1 a
          · rw [show i = j by omega, he]; congr 1; omega⟩, by omega, ⟨rfl, rfl, rfl, trivial⟩, rfl⟩
    · conv => whnf
      repeat' first | (refine Gets.of _ rfl ?_; conv => whnf) | (refine Fork.dec (fun _ => ?_) (fun _ => ?_) <;> first | (exfalso; omega) | (conv => whnf))
      rw [per_eq ⟨g1, g2, ⟨hm', fun i h1 h2 => k3 i h1 (by omega)⟩, g3⟩]
  · rw [per_eq (isPer_self h0 fun q h1 h2 => g3 q h1 (by omega))]
theorem period57a (l : List Int) (h0 : 0 < l.length) (hl : l.length ≤ 4294967296) {H : AHeap} {i : Nat} (hi : At H 1 (ints l) i) : CallW Tryd.prog 57 [.view i 0 l.length] H fun v H' => H' = H ∧ v = .int .i64 (per l : Int) :=
  (period57 l h0 hl).readsAt (by rintro _ rfl; rfl) [i] rfl (.cons ⟨_, _, rfl, hi⟩ .nil)
end Go.Proofs.YthjemhlcojmiaaaDoor
