/- The example check. -/
import Derived.Test.YtaccmanpanpbiaaProg
import Derived.Test.YtaccmanpanpbiaaJe
import Derived.Test.YtaccmanpanpbiaaVhZc
import Derived.Test.YtaccmanpanpbiaaVkI
set_option linter.unusedVariables false
set_option maxRecDepth 100000
namespace Go.Proofs.Ytaccmanpanpbiaa
open Go Go.Vh Go.Proofs
end Go.Proofs.Ytaccmanpanpbiaa

/- Words: what they are, and when they are valid. -/
-- VkG VkH
set_option linter.unusedVariables false
set_option linter.unusedSimpArgs false
set_option maxRecDepth 100000
set_option maxHeartbeats 1000000
namespace Go.Proofs.Ytaccmanpanpbiaa
open Go Go.Vh Go.Vk Go.Proofs
structure Wd where
  stem : List Int
  loop : List Int
def Wd.av (w : Wd) (i j : Nat) : AVal := .agg [.view i 0 w.stem.length, .view j 0 w.loop.length]
def Wd.heap (w : Wd) : AHeap := (emptyH.alloc (.ro 1 (ints w.stem))).alloc (.ro 1 (ints w.loop))
/-- The sizes that memory allows. -/
structure Wd.Fits (w : Wd) : Prop where
  s : w.stem.length ≤ 1152921504606846976
  l : w.loop.length ≤ 1152921504606846976
def inL (n x : Int) : Prop := 0 ≤ x ∧ x < ((2 ^ n.toNat : Nat) : Int)
structure Wd.Ok (w : Wd) (n : Int) : Prop where
  a : 0 ≤ n
  b : n ≤ 6
  p : 0 < w.loop.length
  m : w.stem.length + w.loop.length ≤ 200
  s : ∀ x ∈ w.stem, inL n x
  l : ∀ x ∈ w.loop, inL n x
theorem pow6 {n : Int} (h0 : 0 ≤ n) (h6 : n ≤ 6) : (2 ^ n.toNat : Nat) ≤ 64 := Nat.le_trans (Nat.pow_le_pow_right (by decide) (show n.toNat ≤ 6 by omega)) (by decide)
def Wd.box (w : Wd) : ABlk := .cells 1 [.view 0 0 w.stem.length, .view 1 0 w.loop.length]
theorem roW (w : Wd) (H : AHeap) (hn : Nat.ble 2 H.n = true) (h0 : H.f 0 = .ro 1 (ints w.stem)) (h1 : H.f 1 = .ro 1 (ints w.loop)) : AllQ (fun i => Nat.blt (fk [0, 1] H.n i) H.n = true ∧ (w.heap.f i).rwB = false ∧ BSub (fk [0, 1] H.n) (w.heap.f i) (H.f (fk [0, 1] H.n i))) 0 w.heap.n := by
  have hn := Nat.le_of_ble_eq_true hn
  refine .cons ⟨Nat.ble_eq_true_of_le (show 1 ≤ H.n by omega), rfl, ?_⟩ (.cons ⟨Nat.ble_eq_true_of_le (show 2 ≤ H.n by omega), rfl, ?_⟩ .nil)
  · show BSub _ _ (H.f 0); rw [h0]; exact .roI
  · show BSub _ _ (H.f 1); rw [h1]; exact .roI
/-! ### Rows in which something is found -/
/-- What a function over the numbers of a row finds. -/
def Finds (f : FuncId) (cap : List AVal) (H : AHeap) (l : List Int) (p : Int → Prop) : Prop := ∀ x ∈ l, CallW Try.prog f (.int .i64 x :: cap) H fun v H' => H' = H ∧ IsB v (p x)
theorem getD_mem {l : List Int} {j : Nat} (h : j < l.length) : l.getD j 0 ∈ l := by rw [List.getD_eq_getElem?_getD, List.getElem?_eq_getElem h]; exact List.getElem_mem _
theorem mem_getD {l : List Int} {x : Int} (h : x ∈ l) : ∃ j, j < l.length ∧ l.getD j 0 = x := by
  obtain ⟨k, hk, rfl⟩ := List.getElem_of_mem h
  exact ⟨k, hk, by rw [List.getD_eq_getElem?_getD, List.getElem?_eq_getElem hk]; rfl⟩
theorem index64 {f : FuncId} {cap : List AVal} {H : AHeap} {l : List Int} {p : Int → Prop} (hb : hasBody Try.prog f = true) (h : Finds f cap H l p) (i : Nat) (hf : (H.f i).cs = ints l) (hl : l.length ≤ 1152921504606846976) :
    CallW Try.prog 164 [.view i 0 l.length, .func f [] cap] H fun v H' => H' = H ∧ ∃ k : Int, v = .int .i64 k ∧ ((k = -1 ∧ ∀ x ∈ l, ¬ p x) ∨ (0 ≤ k ∧ k < l.length ∧ p (l.getD k.toNat 0) ∧ ∀ j : Nat, j < k.toNat → ¬ p (l.getD j 0))) := by
  refine CallW.symK (cuts := []) Try.func164 rfl (by kernel_rfl) ?_
  conv => whnf
  repeat' (refine Gets.of _ rfl ?_; conv => whnf)
  refine CodeS.loopSK (cuts := []) (σ := Nat) (fun j => [(0, .view i 0 l.length), (1, .func f [] cap), (7, .int .i64 l.length), (8, .int .i64 j)]) (fun _ => H) (fun j => j ≤ l.length ∧ ∀ k, k < j → ¬ p (l.getD k 0)) (fun j => l.length - j) 0 (by kernel_rfl) ⟨Nat.zero_le _, fun k hk => by omega⟩ ⟨rfl, rfl, rfl, rfl, trivial⟩ rfl ?_
  rintro j ⟨g1, g2⟩
  conv => whnf
  repeat' first | (refine Gets.ix1v rfl rfl (by omega) ?_; conv => whnf) | (refine Gets.ldI rfl (by first | rfl | assumption) (by first | omega | exact Nat.le_of_ble_eq_true rfl) ?_; conv => whnf) | (refine seqL1_of ?_; conv => whnf) | (refine Fork.dec (fun _ => ?_) (fun _ => ?_) <;> first | (exfalso; omega) | (conv => whnf))
  · refine CallS.of hb (h (l.getD j 0) (getD_mem (by omega))) rfl ?_
    rintro _ _ ⟨rfl, hp | hp⟩
    all_goals conv => whnf
    repeat' ((with_reducible refine Gets.addI ?_ ?_ ?_); (· omega); (· omega); conv => whnf)
    · exact ⟨rfl, _, rfl, .inr ⟨by omega, by omega, by rwa [Int.toNat_natCast], fun k hk => g2 k (by omega)⟩⟩
    · refine ⟨j + 1, ⟨by omega, lt_succ_all g2 hp⟩, by omega, ⟨rfl, rfl, rfl, rfl, trivial⟩, rfl⟩
  · exact ⟨rfl, -1, rfl, .inl ⟨rfl, fun x hx => by obtain ⟨k, hk, rfl⟩ := mem_getD hx; exact g2 k (by omega)⟩⟩
theorem contains61 {f : FuncId} {cap : List AVal} {H : AHeap} {l : List Int} {p : Int → Prop} (hb : hasBody Try.prog f = true) (h : Finds f cap H l p) (i : Nat) (hf : (H.f i).cs = ints l) (hl : l.length ≤ 1152921504606846976) :
    CallW Try.prog 109 [.view i 0 l.length, .func f [] cap] H fun v H' => H' = H ∧ IsB v (∃ x ∈ l, p x) := by
  refine CallW.symK (cuts := []) Try.func109 rfl (by kernel_rfl) ?_
  conv => whnf
  repeat' (refine seqL1_of ?_; conv => whnf)
  refine CallS.of (by kernel_rfl) (index64 hb h i hf hl) rfl ?_
  rintro _ _ ⟨rfl, k, rfl, hk⟩
  conv => whnf
  repeat' (refine Fork.dec (fun _ => ?_) (fun _ => ?_) <;> first | (exfalso; omega) | (conv => whnf))
  all_goals refine ⟨rfl, ?_⟩
  · rcases hk with ⟨rfl, _⟩ | ⟨h1, h2, h3, _⟩
    · omega
    · exact .t ⟨_, getD_mem (by omega), h3⟩
  · rcases hk with ⟨rfl, h1⟩ | ⟨h1, h2, h3, _⟩
    · exact .f fun ⟨x, hx, hp⟩ => h1 x hx hp
    · omega
/-! ### The program's Valid -/
theorem letter62 (n x : Int) (h0 : 0 ≤ n) (h6 : n ≤ 6) (H : AHeap) (i : Nat) (hf : (H.f i).cs = ints [n]) : CallW Try.prog 195 [.int .i64 x, .ptr i 0] H fun v H' => H' = H ∧ IsB v (¬ inL n x) := by
  have h64 := pow6 h0 h6
  refine CallW.symK (cuts := []) Try.func195 rfl (by kernel_rfl) ?_
  conv => whnf
  repeat' first | ((refine Gets.ld1 rfl rfl hf ?_); conv => whnf) | ((with_reducible refine Gets.shlI ?_ ?_ ?_); (· omega); (· omega); conv => whnf) | (refine Fork.dec (fun _ => ?_) (fun _ => ?_) <;> first | (exfalso; omega) | (conv => whnf))
  all_goals refine ⟨rfl, ?_⟩
  · exact .t fun h => by have := h.1; omega
  · exact .t fun h => by have := h.2; omega
  · exact .f fun h => h ⟨by omega, by omega⟩
theorem letters49 (n : Int) (h0 : 0 ≤ n) (h6 : n ≤ 6) (l : List Int) (hl : l.length ≤ 1152921504606846976) : CallW Try.prog 170 [.view 0 0 l.length, .int .i64 n] (emptyH.alloc (.ro 1 (ints l))) fun v _ => IsB v (∀ x ∈ l, inL n x) := by
  refine CallW.symK (cuts := []) Try.func170 rfl (by kernel_rfl) ?_
  conv => whnf
  skip
  refine CallS.of (by kernel_rfl) (contains61 (f := 195) (by kernel_rfl) (fun x hx => letter62 n x h0 h6 _ 1 rfl) 0 rfl hl) rfl ?_
  rintro _ _ ⟨rfl, hp | hp⟩
  all_goals conv => whnf
  all_goals
    skip
  · exact .f fun h => by obtain ⟨x, hx, hn⟩ := hp; exact hn (h x hx)
  · exact .t fun x hx => Classical.byContradiction fun h => hp ⟨x, hx, h⟩
theorem letters49a (n : Int) (h0 : 0 ≤ n) (h6 : n ≤ 6) (l : List Int) (hl : l.length ≤ 1152921504606846976) {H : AHeap} {i : Nat} (hi : At H 1 (ints l) i) : CallW Try.prog 170 [.view i 0 l.length, .int .i64 n] H fun v H' => H' = H ∧ IsB v (∀ x ∈ l, inL n x) :=
  (letters49 n h0 h6 l hl).readsAt IsB.noRef [i] rfl (.cons ⟨_, _, rfl, hi⟩ .nil)
theorem valid26 (w : Wd) (hf : w.Fits) (n : Int) : CallW Try.prog 118 [w.av 0 1, .int .i64 n] w.heap fun v _ => IsB v (w.Ok n) := by
  obtain ⟨b1, b2⟩ := hf
  refine CallW.symK (cuts := []) Try.func118 rfl (by kernel_rfl) ?_
  conv => whnf
  repeat' first | ((with_reducible refine Gets.addI ?_ ?_ ?_); (· omega); (· omega); conv => whnf) | (refine Gets.of _ rfl ?_; conv => whnf) | (refine Fork.dec (fun _ => ?_) (fun _ => ?_) <;> first | (exfalso; omega) | (conv => whnf))
  iterate 6
    · exact .f fun h => by have := h.a; have := h.b; have := h.p; have := h.m; omega
  refine CallS.of (by kernel_rfl) (letters49a n (by omega) (by omega) w.stem b1 (.roB rfl rfl)) rfl ?_
  rintro _ _ ⟨rfl, hp | hp⟩
  all_goals conv => whnf
  all_goals
    repeat' (refine Gets.of _ rfl ?_; conv => whnf)
  · refine CallS.of (by kernel_rfl) (letters49a n (by omega) (by omega) w.loop b2 (.roB rfl rfl)) rfl ?_
    rintro _ _ ⟨rfl, hq | hq⟩
    all_goals conv => whnf
    all_goals
      skip
    · exact .t ⟨by omega, by omega, by omega, by omega, hp, hq⟩
    · exact .f fun h => hq h.l
  · exact .f fun h => hp h.s
end Go.Proofs.Ytaccmanpanpbiaa

/- Valid, as the reference tells it; the letter at a position; words held against each other. -/
-- VkG VkH
set_option linter.unusedVariables false
set_option linter.unusedSimpArgs false
set_option maxRecDepth 100000
set_option maxHeartbeats 1000000
namespace Go.Proofs.Ytaccmanpanpbiaa
open Go Go.Vh Go.Vk Go.Proofs
theorem letter50 (n x : Int) (h0 : 0 ≤ n) (h6 : n ≤ 6) (H : AHeap) : CallW Try.prog 74 [.int .i64 x, .int .i64 n] H fun v H' => H' = H ∧ IsB v (inL n x) := by
  have h64 := pow6 h0 h6
  refine CallW.symK (cuts := []) Try.func74 rfl (by kernel_rfl) ?_
  conv => whnf
  repeat' first | ((with_reducible refine Gets.shlI ?_ ?_ ?_); (· omega); (· omega); conv => whnf) | (refine Fork.dec (fun _ => ?_) (fun _ => ?_) <;> first | (exfalso; omega) | (conv => whnf))
  all_goals refine ⟨rfl, ?_⟩
  · exact .t ⟨by omega, by omega⟩
  · exact .f fun h => by have := h.2; omega
  · exact .f fun h => by have := h.1; omega
theorem valid27 (w : Wd) (hf : w.Fits) (n : Int) : CallW Try.prog 21 [w.av 0 1, .int .i64 n] w.heap fun v _ => IsB v (w.Ok n) := by
  obtain ⟨b1, b2⟩ := hf
  refine CallW.symK (cuts := []) Try.func21 rfl (by kernel_rfl) ?_
  conv => whnf
  repeat' first | ((with_reducible refine Gets.addI ?_ ?_ ?_); (· omega); (· omega); conv => whnf) | (refine Gets.of _ rfl ?_; conv => whnf) | (refine Fork.dec (fun _ => ?_) (fun _ => ?_) <;> first | (exfalso; omega) | (conv => whnf))
  iterate 4
    · exact .f fun h => by have := h.a; have := h.b; have := h.p; have := h.m; omega
  refine CodeS.drawT [2] (.take 1 (.take 2 (.take 4 (.take 5 (.take 8 (.one 0 true (.one 3 true (.one 6 true (.take 7 .done))))))))) mixed (by kernel_rfl) (.cons ⟨rfl, trivial⟩ .nil) ?_
  conv => whnf
  repeat' first | ((refine Gets.appSrc (ti := tiI) (l := []) (xs := w.stem) (m := 0) (n := w.stem.length) rfl rfl rfl rfl rfl (by decide) (Nat.zero_le _) ((src_at rfl (.inl ⟨1, rfl, rfl⟩)).2) rfl (by omega) ?_); conv => whnf) | (refine Gets.of _ rfl ?_; conv => whnf) | (refine Chk.mk (by repeat first | exact .nil | refine .cons rfl ?_) ?_; conv => whnf)
  refine Gets.appSrc (ti := tiI) (l := [].take 0 ++ w.stem) (xs := w.loop) (m := 0 + w.stem.length) (n := w.loop.length) rfl rfl rfl rfl rfl (by decide) (by simp) ((src_at rfl (.inl ⟨1, rfl, rfl⟩)).2) rfl (by omega) ?_
  have hro : 0 + w.stem.length + w.loop.length = (w.stem ++ w.loop).length := by rw [Nat.zero_add, List.length_append]
  have hrl : ([].take 0 ++ w.stem).take (0 + w.stem.length) ++ w.loop = w.stem ++ w.loop := by simp
  rw [hro, hrl]
  have hlen : (w.stem ++ w.loop).length ≤ 200 := by rw [List.length_append]; omega
  have hok : (∀ x ∈ w.stem ++ w.loop, inL n x) ↔ w.Ok n := by
    constructor
    · exact fun h => ⟨by omega, by omega, by omega, by omega, fun x hx => h x (List.mem_append_left _ hx), fun x hx => h x (List.mem_append_right _ hx)⟩
    · intro h x hx
      rcases List.mem_append.1 hx with hx | hx
      · exact h.s x hx
      · exact h.l x hx
  generalize w.stem ++ w.loop = l at *
  conv => whnf
  repeat' first | (refine Gets.of _ rfl ?_; conv => whnf) | (refine Chk.mk (by repeat first | exact .nil | refine .cons rfl ?_) ?_; conv => whnf)
  refine CodeS.loopGK (cuts := []) (σ := Nat) (fun j => [(1, .int .i64 n), (35, .slice 2 0 l.length), (36, .int .i64 l.length), (37, .int .i64 j)]) (fun _ => w.heap.alloc (.cells 1 (ints l))) (fun j => j ≤ l.length ∧ ∀ k, k < j → inL n (l.getD k 0)) (fun j => l.length - j) 0 (renL [0, 1, 5] 6) (by kernel_rfl) ⟨Nat.zero_le _, fun k hk => by omega⟩ ⟨rfl, rfl, rfl, rfl, trivial⟩ (EmbL.litsN [0, 1, 5] rfl rfl rfl rfl (.cons ⟨rfl, .inl ⟨rfl, fun h => h⟩⟩ (.cons ⟨rfl, .inl ⟨rfl, fun h => h⟩⟩ .nil)) (.cons ⟨rfl, .roI⟩ (.cons ⟨rfl, .roI⟩ (.cons ⟨rfl, .cellsI⟩ .nil)))) ?_
  rintro j ⟨g1, g2⟩
  conv => whnf
  repeat' first | (refine Gets.ix1 rfl rfl (by omega) ?_; conv => whnf) | (refine Gets.ldI rfl (by first | rfl | assumption) (by first | omega | exact Nat.le_of_ble_eq_true rfl) ?_; conv => whnf) | (refine Fork.dec (fun _ => ?_) (fun _ => ?_) <;> first | (exfalso; omega) | (conv => whnf))
  · refine CallS.of (by kernel_rfl) (letter50 n (l.getD j 0) (by omega) (by omega) _) rfl ?_
    rintro _ _ ⟨rfl, hp | hp⟩
    all_goals conv => whnf
    all_goals
      repeat' ((with_reducible refine Gets.addI ?_ ?_ ?_); (· omega); (· omega); conv => whnf)
    · exact ⟨j + 1, renL [0, 1, 2] 3, ⟨by omega, lt_succ_all g2 hp⟩, by omega, ⟨rfl, rfl, rfl, rfl, trivial⟩, EmbL.litsN [0, 1, 2] rfl rfl rfl rfl (.cons ⟨rfl, .inl ⟨rfl, fun h => h⟩⟩ (.cons ⟨rfl, .inl ⟨rfl, fun h => h⟩⟩ .nil)) (.cons ⟨rfl, .roI⟩ (.cons ⟨rfl, .roI⟩ (.cons ⟨rfl, .cellsI⟩ .nil)))⟩
    · exact .f fun h => hp (hok.2 h _ (getD_mem (by omega)))
  · exact .t (hok.1 (all_getD.2 fun k hk => g2 k (by omega)))
/-- The letter at a position. -/
def Wd.lt (w : Wd) (k : Nat) : Int := if k < w.stem.length then w.stem.getD k 0 else w.loop.getD ((k - w.stem.length) % w.loop.length) 0
theorem at43 (w : Wd) (hf : w.Fits) (hl : 0 < w.loop.length) (k : Nat) (hk : k ≤ 9223372036854775807) : CallW Try.prog 173 [w.av 0 1, .int .i64 (k : Int)] w.heap fun v _ => v = .int .i64 (w.lt k) := by
  obtain ⟨b1, b2⟩ := hf
  refine CallW.symK (cuts := []) Try.func173 rfl (by kernel_rfl) ?_
  conv => whnf
  repeat' first | (refine Gets.of _ rfl ?_; conv => whnf) | (refine Gets.ix1v rfl rfl (by omega) ?_; conv => whnf) | (refine Gets.ldI rfl (by first | rfl | assumption) (by first | omega | exact Nat.le_of_ble_eq_true rfl) ?_; conv => whnf) | (refine Fork.dec (fun _ => ?_) (fun _ => ?_) <;> first | (exfalso; omega) | (conv => whnf))
  · unfold Wd.lt
    rw [if_pos (by omega)]
  · have hmod := Nat.mod_lt (k - w.stem.length) hl
    refine CodeS.drawT [2, 1] (.take 0 (.take 1 (.take 2 (.take 3 (.take 4 (.take 5 (.take 6 (.take 7 (.take 8 (.take 9 (.take 10 (.take 11 (.take 12 (.take 13 .done)))))))))))))) mixed (by kernel_rfl) (.cons ⟨rfl, trivial⟩ (.cons ⟨rfl, live_of_ints rfl hl⟩ .nil)) ?_
    conv => whnf
    repeat' first | ((with_reducible refine Gets.remN ?_ ?_ ?_); (· omega); (· omega); conv => whnf) | ((with_reducible refine Gets.subI ?_ ?_ ?_); (· omega); (· omega); conv => whnf) | (refine Gets.of _ rfl ?_; conv => whnf)
    rw [show ((k : Int) - (w.stem.length : Int)) % (w.loop.length : Int) = (((k - w.stem.length) % w.loop.length : Nat) : Int) by rw [show (k : Int) - (w.stem.length : Int) = ((k - w.stem.length : Nat) : Int) by omega]; rfl]
    repeat' first | (refine Gets.ix1v rfl rfl (by omega) ?_; conv => whnf) | (refine Gets.ldI rfl (by first | rfl | assumption) (by first | omega | exact Nat.le_of_ble_eq_true rfl) ?_; conv => whnf)
    unfold Wd.lt
    rw [if_neg (by omega)]
theorem letters12 (w : Wd) (hf : w.Fits) (hl : 0 < w.loop.length) (k : Nat) (hk : k ≤ 9223372036854775807) : CallW Try.prog 25 [w.av 0 1, .int .i64 (k : Int)] w.heap fun v _ => v = .int .i64 (w.lt k) := by
  obtain ⟨b1, b2⟩ := hf
  refine CallW.symK (cuts := []) Try.func25 rfl (by kernel_rfl) ?_
  conv => whnf
  repeat' first | (refine Gets.of _ rfl ?_; conv => whnf) | (refine Gets.ix1v rfl rfl (by omega) ?_; conv => whnf) | (refine Gets.ldI rfl (by first | rfl | assumption) (by first | omega | exact Nat.le_of_ble_eq_true rfl) ?_; conv => whnf) | (refine Fork.dec (fun _ => ?_) (fun _ => ?_) <;> first | (exfalso; omega) | (conv => whnf))
  · unfold Wd.lt
    rw [if_pos (by omega)]
  · have hmod := Nat.mod_lt (k - w.stem.length) hl
    refine CodeS.drawT [2, 1] (.take 0 (.take 1 (.take 2 (.take 3 (.take 4 (.take 5 (.take 6 (.take 7 (.take 8 (.take 9 (.take 10 (.take 11 (.take 12 (.take 13 .done)))))))))))))) mixed (by kernel_rfl) (.cons ⟨rfl, trivial⟩ (.cons ⟨rfl, live_of_ints rfl hl⟩ .nil)) ?_
    conv => whnf
    repeat' first | ((with_reducible refine Gets.remN ?_ ?_ ?_); (· omega); (· omega); conv => whnf) | ((with_reducible refine Gets.subI ?_ ?_ ?_); (· omega); (· omega); conv => whnf) | (refine Gets.of _ rfl ?_; conv => whnf)
    rw [show ((k : Int) - (w.stem.length : Int)) % (w.loop.length : Int) = (((k - w.stem.length) % w.loop.length : Nat) : Int) by rw [show (k : Int) - (w.stem.length : Int) = ((k - w.stem.length : Nat) : Int) by omega]; rfl]
    repeat' first | (refine Gets.ix1v rfl rfl (by omega) ?_; conv => whnf) | (refine Gets.ldI rfl (by first | rfl | assumption) (by first | omega | exact Nat.le_of_ble_eq_true rfl) ?_; conv => whnf)
    unfold Wd.lt
    rw [if_neg (by omega)]
theorem list38 (l m : List Int) (hl : l.length ≤ 4294967296) (hm : m.length ≤ 4294967296) : CallW Try.prog 99 [.view 0 0 l.length, .view 1 0 m.length] ((emptyH.alloc (.ro 1 (ints l))).alloc (.ro 1 (ints m))) fun v _ => IsB v (l = m) := by
  refine CallW.symK (cuts := []) Try.func99 rfl (by kernel_rfl) ?_
  conv => whnf
  repeat' first | (refine Gets.of _ rfl ?_; conv => whnf) | (refine Fork.neI (fun _ => ?_) (fun _ => ?_) <;> first | (exfalso; omega) | (conv => whnf))
  · exact .f fun h => by subst h; omega
  have hlen : l.length = m.length := by omega
  refine CodeS.loopSK (cuts := []) (σ := Nat) (fun j => [(0, .view 0 0 l.length), (1, .view 1 0 m.length), (12, .int .i64 l.length), (13, .int .i64 j)]) (fun _ => (emptyH.alloc (.ro 1 (ints l))).alloc (.ro 1 (ints m))) (fun j => j ≤ l.length ∧ ∀ k, k < j → l.getD k 0 = m.getD k 0) (fun j => l.length - j) 0 (by kernel_rfl) ⟨Nat.zero_le _, fun k hk => by omega⟩ ⟨rfl, rfl, rfl, rfl, trivial⟩ rfl ?_
  rintro j ⟨g1, g2⟩
  rcases Nat.lt_or_ge j l.length with hj | hj
  · conv => whnf
    repeat' (refine Fork.dec (fun _ => ?_) (fun _ => ?_) <;> first | (exfalso; omega) | (conv => whnf))
    refine CodeS.drawT [0, 1] (.take 0 (.take 1 (.take 2 (.take 3 (.take 4 (.take 5 (.take 6 (.take 7 (.take 8 .done))))))))) mixed (by kernel_rfl) (.cons ⟨rfl, live_of_ints rfl (by omega)⟩ (.cons ⟨rfl, live_of_ints rfl (by omega)⟩ .nil)) ?_
    conv => whnf
    repeat' first | ((with_reducible refine Gets.addI ?_ ?_ ?_); (· omega); (· omega); conv => whnf) | (refine Gets.ix1v rfl rfl (by omega) ?_; conv => whnf) | (refine Gets.ldI rfl (by first | rfl | assumption) (by first | omega | exact Nat.le_of_ble_eq_true rfl) ?_; conv => whnf) | (refine Fork.neI (fun _ => ?_) (fun _ => ?_) <;> first | (exfalso; omega) | (conv => whnf))
    · exact .f fun h => by subst h; rename_i h; exact h rfl
    · exact ⟨j + 1, ⟨by omega, lt_succ_all g2 (by assumption)⟩, by omega, ⟨rfl, rfl, rfl, rfl, trivial⟩, rfl⟩
  · conv => whnf
    repeat' (refine Fork.dec (fun _ => ?_) (fun _ => ?_) <;> first | (exfalso; omega) | (conv => whnf))
    refine .t (List.ext_getElem hlen fun k h1 h2 => ?_)
    have := g2 k (by omega)
    rw [List.getD_eq_getElem?_getD, List.getD_eq_getElem?_getD, List.getElem?_eq_getElem h1, List.getElem?_eq_getElem h2] at this
    exact this
theorem list38a (l m : List Int) (hl : l.length ≤ 4294967296) (hm : m.length ≤ 4294967296) {H : AHeap} {i j : Nat} (hi : At H 1 (ints l) i) (hj : At H 1 (ints m) j) : CallW Try.prog 99 [.view i 0 l.length, .view j 0 m.length] H fun v H' => H' = H ∧ IsB v (l = m) :=
  (list38 l m hl hm).readsAt IsB.noRef [i, j] rfl (.cons ⟨_, _, rfl, hi⟩ (.cons ⟨_, _, rfl, hj⟩ .nil))
def h4 (a b : Wd) : AHeap := (a.heap.alloc (.ro 1 (ints b.stem))).alloc (.ro 1 (ints b.loop))
structure Wd.Sz (w : Wd) : Prop where
  s : w.stem.length ≤ 4294967296
  l : w.loop.length ≤ 4294967296
theorem wd_ext {a b : Wd} : a = b ↔ a.stem = b.stem ∧ a.loop = b.loop := by
  constructor
  · rintro rfl; exact ⟨rfl, rfl⟩
  · rintro ⟨h1, h2⟩; cases a; cases b; cases h1; cases h2; rfl
theorem written13 (a b : Wd) (ha : a.Sz) (hb : b.Sz) : CallW Try.prog 54 [a.av 0 1, b.av 2 3] (h4 a b) fun v _ => IsB v (a = b) := by
  refine CallW.symK (cuts := []) Try.func54 rfl (by kernel_rfl) ?_
  conv => whnf
  repeat' (refine Gets.of _ rfl ?_; conv => whnf)
  refine CallS.of (by kernel_rfl) (list38a a.stem b.stem ha.s hb.s (.roB rfl rfl) (.roB rfl rfl)) rfl ?_
  rintro _ _ ⟨rfl, hp | hp⟩
  all_goals conv => whnf
  all_goals
    repeat' (refine Gets.of _ rfl ?_; conv => whnf)
  · refine CallS.of (by kernel_rfl) (list38a a.loop b.loop ha.l hb.l (.roB rfl rfl) (.roB rfl rfl)) rfl ?_
    rintro _ _ ⟨rfl, hq | hq⟩
    all_goals conv => whnf
    all_goals
      skip
    · exact .t (wd_ext.2 ⟨hp, hq⟩)
    · exact .f fun h => hq (wd_ext.1 h).2
  · exact .f fun h => hp (wd_ext.1 h).1
/-- The rows of a word are told at those numbers. -/
structure Wd.In (w : Wd) (H : AHeap) (i j : Nat) : Prop where
  s : At H 1 (ints w.stem) i
  l : At H 1 (ints w.loop) j
theorem Wd.In.all {w : Wd} {H : AHeap} {i j : Nat} (h : w.In H i j) : AllQ (fun m => ∃ es cs, w.heap.f m = .ro es cs ∧ At H es cs (fk [i, j] H.n m)) 0 w.heap.n := .cons ⟨_, _, rfl, h.s⟩ (.cons ⟨_, _, rfl, h.l⟩ .nil)
theorem written13a (a b : Wd) (ha : a.Sz) (hb : b.Sz) {H : AHeap} {i j k l : Nat} (h1 : a.In H i j) (h2 : b.In H k l) : CallW Try.prog 54 [a.av i j, b.av k l] H fun v H' => H' = H ∧ IsB v (a = b) :=
  (written13 a b ha hb).readsAt IsB.noRef [i, j, k, l] rfl (.cons ⟨_, _, rfl, h1.s⟩ (.cons ⟨_, _, rfl, h1.l⟩ (.cons ⟨_, _, rfl, h2.s⟩ (.cons ⟨_, _, rfl, h2.l⟩ .nil))))
end Go.Proofs.Ytaccmanpanpbiaa

/- The normal form of a word: in plain words. -/
set_option linter.unusedVariables false
set_option linter.unusedSimpArgs false
namespace Go.Proofs.Ytaccmanpanpbiaa
open Go Go.Vh Go.Vk Go.Proofs
/-- A list is several times its first p elements. -/
def Pd (l : List Int) (p : Nat) : Prop := l.length % p = 0 ∧ ∀ i, p ≤ i → i < l.length → l.getD i 0 = l.getD (i - p) 0
theorem Pd.mod {l : List Int} {p : Nat} (h : Pd l p) (hp : 0 < p) : ∀ i, i < l.length → l.getD i 0 = l.getD (i % p) 0 := by
  intro i
  induction i using Nat.strongRecOn with
  | ind i ih =>
    intro hi
    rcases Nat.lt_or_ge i p with a | a
    · rw [Nat.mod_eq_of_lt a]
    · rw [h.2 i a hi, ih (i - p) (by omega) (by omega), Nat.mod_eq_sub_mod a]
theorem pd_of_mod {l : List Int} {p : Nat} (hp : 0 < p) (h0 : l.length % p = 0) (h : ∀ i, i < l.length → l.getD i 0 = l.getD (i % p) 0) : Pd l p := by
  refine ⟨h0, fun i h1 h2 => ?_⟩
  rw [h i h2, h (i - p) (by omega), Nat.mod_eq_sub_mod h1]
/-- The least length of a list that a list is several times. -/
def IsPer (l : List Int) (p : Nat) : Prop := 0 < p ∧ p ≤ l.length ∧ Pd l p ∧ ∀ q, 0 < q → q < p → ¬ Pd l q
theorem pd_self (l : List Int) : Pd l l.length := ⟨Nat.mod_self _, fun i h1 h2 => by omega⟩
theorem IsPer.unique {l : List Int} {p q : Nat} (h : IsPer l p) (g : IsPer l q) : p = q := by
  rcases Nat.lt_trichotomy p q with a | a | a
  · exact absurd h.2.2.1 (g.2.2.2 p h.1 a)
  · exact a
  · exact absurd g.2.2.1 (h.2.2.2 q g.1 a)
theorem isPer_ex {l : List Int} (hl : 0 < l.length) : ∃ p, IsPer l p := by
  have : ∀ n, n ≤ l.length → (∃ p, IsPer l p) ∨ ∀ q, 0 < q → q ≤ n → ¬ Pd l q := by
    intro n
    induction n with
    | zero => exact fun _ => .inr fun q h1 h2 => by omega
    | succ n ih =>
      intro hn
      rcases ih (by omega) with h | h
      · exact .inl h
      · by_cases hp : Pd l (n + 1)
        · exact .inl ⟨n + 1, by omega, hn, hp, fun q h1 h2 => h q h1 (by omega)⟩
        · refine .inr fun q h1 h2 => ?_
          rcases Nat.lt_or_ge q (n + 1) with a | a
          · exact h q h1 (by omega)
          · rw [show q = n + 1 by omega]; exact hp
  rcases this l.length (Nat.le_refl _) with h | h
  · exact h
  · exact absurd (pd_self l) (h _ hl (Nat.le_refl _))
noncomputable def per (l : List Int) : Nat := if h : 0 < l.length then Classical.choose (isPer_ex h) else 0
theorem per_is {l : List Int} (hl : 0 < l.length) : IsPer l (per l) := by
  unfold per
  rw [dif_pos hl]
  exact Classical.choose_spec (isPer_ex hl)
theorem per_eq {l : List Int} {p : Nat} (h : IsPer l p) : per l = p := (per_is (Nat.lt_of_lt_of_le h.1 h.2.1)).unique h
/-- The last letters of a stem that the loop tells as well. -/
def Mt (s l : List Int) (t : Nat) : Prop := s.getD (s.length - 1 - t) 0 = l.getD (l.length - 1 - t % l.length) 0
def IsCut (s l : List Int) (t : Nat) : Prop := t ≤ s.length ∧ (∀ u, u < t → Mt s l u) ∧ (t = s.length ∨ ¬ Mt s l t)
theorem IsCut.unique {s l : List Int} {t u : Nat} (h : IsCut s l t) (g : IsCut s l u) : t = u := by
  rcases Nat.lt_trichotomy t u with a | a | a
  · rcases h.2.2 with b | b
    · have := g.1; omega
    · exact absurd (g.2.1 t a) b
  · exact a
  · rcases g.2.2 with b | b
    · have := h.1; omega
    · exact absurd (h.2.1 u a) b
theorem isCut_ex (s l : List Int) : ∃ t, IsCut s l t := by
  have : ∀ n, n ≤ s.length → (∃ t, IsCut s l t) ∨ ∀ u, u < n → Mt s l u := by
    intro n
    induction n with
    | zero => exact fun _ => .inr fun u h => by omega
    | succ n ih =>
      intro hn
      rcases ih (by omega) with h | h
      · exact .inl h
      · by_cases hp : Mt s l n
        · refine .inr fun u hu => ?_
          rcases Nat.lt_or_ge u n with a | a
          · exact h u a
          · rw [show u = n by omega]; exact hp
        · exact .inl ⟨n, by omega, h, .inr hp⟩
  rcases this s.length (Nat.le_refl _) with h | h
  · exact h
  · exact ⟨s.length, Nat.le_refl _, h, .inl rfl⟩
noncomputable def cut (s l : List Int) : Nat := Classical.choose (isCut_ex s l)
theorem cut_is (s l : List Int) : IsCut s l (cut s l) := Classical.choose_spec (isCut_ex s l)
theorem cut_eq {s l : List Int} {t : Nat} (h : IsCut s l t) : cut s l = t := (cut_is s l).unique h
/-- A list turned to the right. -/
def rot (l : List Int) (k : Nat) : List Int := l.drop (l.length - k) ++ l.take (l.length - k)
theorem rot_length (l : List Int) (k : Nat) : (rot l k).length = l.length := by
  unfold rot
  rw [List.length_append, List.length_drop, List.length_take]
  omega
theorem rot_zero (l : List Int) : rot l 0 = l := by simp [rot]
theorem rot_full (l : List Int) : rot l l.length = l := by simp [rot]
/-- The last one of a turned list. -/
theorem rot_last {l : List Int} {k : Nat} (hk : k < l.length) : (rot l k).getD (l.length - 1) 0 = l.getD (l.length - 1 - k) 0 := by
  unfold rot
  rw [List.getD_eq_getElem?_getD, List.getElem?_append_right (by rw [List.length_drop]; omega), List.length_drop, List.getElem?_take, if_pos (by omega), ← List.getD_eq_getElem?_getD]
  congr 1
  omega
/-- One step more. -/
theorem rot_step {l : List Int} {k : Nat} (hk : k < l.length) : (rot l k).getD (l.length - 1) 0 :: (rot l k).take (l.length - 1) = rot l ((k + 1) % l.length) := by
  rw [rot_last hk]
  have e : rot l (k + 1) = l.getD (l.length - 1 - k) 0 :: (rot l k).take (l.length - 1) := by
    unfold rot
    have h1 : l.length - (k + 1) < l.length := by omega
    rw [List.drop_eq_getElem_cons h1, List.cons_append, show l.length - (k + 1) + 1 = l.length - k by omega]
    congr 1
    · rw [List.getD_eq_getElem?_getD, List.getElem?_eq_getElem (by omega)]
      simp only [Option.getD_some]
      congr 1
      omega
    · have h2 : (l.drop (l.length - k)).take (l.length - 1) = l.drop (l.length - k) := List.take_of_length_le (by rw [List.length_drop]; omega)
      rw [List.take_append, h2, List.length_drop, List.take_take]
      congr 2
      omega
  rcases Nat.lt_or_ge (k + 1) l.length with a | a
  · rw [Nat.mod_eq_of_lt a, e]
  · have : k + 1 = l.length := by omega
    rw [this, Nat.mod_self, rot_zero, ← e, this, rot_full]
noncomputable def nf (w : Wd) : Wd := ⟨w.stem.take (w.stem.length - cut w.stem (w.loop.take (per w.loop))), rot (w.loop.take (per w.loop)) (cut w.stem (w.loop.take (per w.loop)) % per w.loop)⟩
theorem per_take {l : List Int} (hl : 0 < l.length) : (l.take (per l)).length = per l := by
  have := (per_is hl).2.1
  rw [List.length_take]
  omega
theorem nf_lens {w : Wd} (hl : 0 < w.loop.length) : (nf w).stem.length ≤ w.stem.length ∧ (nf w).loop.length = per w.loop ∧ (nf w).loop.length ≤ w.loop.length ∧ 0 < (nf w).loop.length := by
  have h := per_is hl
  have e : (nf w).loop.length = per w.loop := by
    unfold nf
    dsimp only
    rw [rot_length, per_take hl]
  refine ⟨?_, e, ?_, ?_⟩
  · unfold nf; dsimp only; rw [List.length_take]; omega
  · rw [e]; exact h.2.1
  · rw [e]; exact h.1
end Go.Proofs.Ytaccmanpanpbiaa
