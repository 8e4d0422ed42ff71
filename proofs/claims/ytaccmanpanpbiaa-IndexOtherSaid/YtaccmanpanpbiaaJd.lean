/- What streett finds, component by component. Plain. -/
import Derived.Test.YtaccmanpanpbiaaJc
import Derived.Test.YtaccmanpanpbiaaVnA
set_option linter.unusedVariables false
set_option linter.unusedSimpArgs false
namespace Go.Proofs.Ytaccmanpanpbiaa
open Go Go.Vh Go.Vk Go.Vn Go.Proofs
open Classical
/-- Of the first p pairs the second marks that a set has without the first ones. -/
def badN (I : Nat) : Nat → Nat
  | 0 => 0
  | p + 1 => if I.testBit (2 * p + 1) = true ∧ I.testBit (2 * p) = false then badN I p ||| 2 ^ (2 * p + 1) else badN I p
theorem badN_bad (I : Nat) : ∀ p, Bad p I (badN I p)
  | 0 => fun b => ⟨fun h => (by rw [badN, Nat.zero_testBit] at h; cases h), fun h => (by obtain ⟨q, hq, _⟩ := h; exact absurd hq (Nat.not_lt_zero q))⟩
  | p + 1 => fun b => by
    have ih := badN_bad I p b
    unfold badN
    by_cases h : I.testBit (2 * p + 1) = true ∧ I.testBit (2 * p) = false
    · rw [if_pos h, Nat.testBit_or, Bool.or_eq_true, ih, Nat.testBit_two_pow, decide_eq_true_iff]
      constructor
      · rintro (⟨q, h1, h2⟩ | h1)
        · exact ⟨q, by omega, h2⟩
        · exact ⟨p, by omega, h1.symm, h⟩
      · rintro ⟨q, h1, h2, h3⟩
        rcases Nat.lt_or_ge q p with hq | hq
        · exact .inl ⟨q, hq, h2, h3⟩
        · obtain rfl : q = p := by omega
          exact .inr h2.symm
    · rw [if_neg h, ih]
      constructor
      · rintro ⟨q, h1, h2⟩; exact ⟨q, by omega, h2⟩
      · rintro ⟨q, h1, h2, h3⟩
        rcases Nat.lt_or_ge q p with hq | hq
        · exact ⟨q, hq, h2, h3⟩
        · obtain rfl : q = p := by omega
          exact absurd h3 h
theorem badN_lt (I : Nat) : ∀ p, badN I p < 2 ^ (2 * p)
  | 0 => Nat.one_pos
  | p + 1 => by
    have ih := badN_lt I p
    have h1 : 2 ^ (2 * (p + 1)) = 2 ^ (2 * p) * 4 := by rw [Nat.mul_add, Nat.pow_add]
    unfold badN
    split
    · refine Nat.or_lt_two_pow ?_ ?_
      · rw [h1]; omega
      · exact Nat.pow_lt_pow_right (by decide) (by omega)
    · rw [h1]; omega
theorem badN_zero : ∀ p, badN 0 p = 0
  | 0 => rfl
  | p + 1 => by
    unfold badN
    rw [if_neg (by rw [Nat.zero_testBit]; exact fun h => Bool.false_ne_true h.1)]
    exact badN_zero p
theorem pair_iff (I p : Nat) : (I >>> (2 * p)) &&& 3 = 2 ↔ I.testBit (2 * p + 1) = true ∧ I.testBit (2 * p) = false := by
  have hb : ∀ i, ((I >>> (2 * p)) &&& 3).testBit i = (I.testBit (2 * p + i) && (3 : Nat).testBit i) := fun i => by
    rw [Nat.testBit_and, Nat.testBit_shiftRight]
  constructor
  · intro h
    have h0 := hb 0
    have h1 := hb 1
    rw [h] at h0 h1
    have a0 : (2 : Nat).testBit 0 = false := rfl
    have a1 : (2 : Nat).testBit 1 = true := rfl
    have b0 : (3 : Nat).testBit 0 = true := rfl
    have b1 : (3 : Nat).testBit 1 = true := rfl
    rw [a0, b0, Bool.and_true] at h0
    rw [a1, b1, Bool.and_true] at h1
    exact ⟨h1.symm, h0.symm⟩
  · rintro ⟨h1, h0⟩
    apply Nat.eq_of_testBit_eq
    intro i
    rw [hb]
    rcases i with _ | _ | i
    · rw [Nat.add_zero, h0]; rfl
    · rw [h1]; rfl
    · have e3 : (3 : Nat).testBit (i + 1 + 1) = false := Nat.testBit_lt_two_pow (by
        have : 2 ^ 2 ≤ 2 ^ (i + 1 + 1) := Nat.pow_le_pow_right (by decide) (by omega)
        omega)
      have e2 : (2 : Nat).testBit (i + 1 + 1) = false := Nat.testBit_lt_two_pow (by
        have : 2 ^ 2 ≤ 2 ^ (i + 1 + 1) := Nat.pow_le_pow_right (by decide) (by omega)
        omega)
      rw [e3, e2, Bool.and_false]
/-- The arcs without some marks. -/
def offL (l : List Arc) (m : Nat) : List Arc := l.filter fun a => decide (a.marks &&& m = 0)
theorem offL_mem {l : List Arc} {m : Nat} {a : Arc} : a ∈ offL l m ↔ a ∈ l ∧ Off a.marks m := by
  unfold offL
  rw [List.mem_filter, decide_eq_true_iff, off_iff]
theorem offL_next {l : List Arc} {m j : Nat} {a : Arc} (h : l[j]? = some a) : offL (l.take (j + 1)) m = offL (l.take j) m ++ (if a.marks &&& m = 0 then [a] else []) := by
  obtain ⟨hj, rfl⟩ := List.getElem?_eq_some_iff.1 h
  unfold offL
  rw [List.take_succ_eq_append_getElem hj, List.filter_append]
  congr 1
  by_cases h0 : (l[j]).marks &&& m = 0
  · rw [if_pos h0, List.filter_cons, if_pos (decide_eq_true h0)]; rfl
  · rw [if_neg h0, List.filter_cons, if_neg (fun h => h0 (of_decide_eq_true h))]; rfl
theorem offL_short {l : List Arc} {m np : Nat} (hb : Bad np (marksOf l) m) (h0 : m ≠ 0) : (offL l m).length < l.length := by
  obtain ⟨b, hb1⟩ : ∃ b, m.testBit b = true := by
    apply Classical.byContradiction
    intro hn
    apply h0
    apply Nat.eq_of_testBit_eq
    intro b
    rw [Nat.zero_testBit]
    cases hc : m.testBit b with
    | false => rfl
    | true => exact absurd ⟨b, hc⟩ hn
  obtain ⟨p, hp, rfl, h1, _⟩ := (hb b).1 hb1
  obtain ⟨a, ha, ha2⟩ := (marksOf_bit l _).1 h1
  have hna : ¬ (fun a : Arc => decide (a.marks &&& m = 0)) a = true := fun h => by
    have h := off_iff.2 (of_decide_eq_true h) _ ha2
    rw [h] at hb1; cases hb1
  refine Nat.lt_of_le_of_ne (List.length_filter_le _ _) fun he => hna ?_
  exact List.length_filter_eq_length_iff.1 he a ha
/-- What is found. -/
noncomputable def strG (arcs : List Arc) (np : Nat) (g : Nat → Bool) (x : Nat) : Bool := g x || decide (CycleS (· ∈ arcs) np x)
noncomputable def strJ (arcs : List Arc) (np : Nat) (g : Nat → Bool) (of : List Nat) (k x : Nat) : Bool := g x || decide (∃ j, j < k ∧ of[x]? = some j ∧ CycleS (· ∈ arcs) np x)
theorem strJ_zero (arcs : List Arc) (np : Nat) (g : Nat → Bool) (of : List Nat) : strJ arcs np g of 0 = g := by
  funext x
  unfold strJ
  rw [decide_eq_false (by rintro ⟨j, hj, _⟩; exact absurd hj (Nat.not_lt_zero j)), Bool.or_false]
theorem free_nl {arcs : List Arc} {a : Arc} : nlC.Free arcs a ↔ a ∈ arcs :=
  ⟨fun h => h.1, fun h => ⟨h, off_iff.2 (Nat.and_zero _), off_iff.2 (Nat.and_zero _)⟩⟩
theorem free_nl' {arcs : List Arc} : nlC.Free arcs = (· ∈ arcs) := funext fun a => propext free_nl
theorem strJ_all {n np : Nat} {arcs : List Arc} {g : Nat → Bool} {of : List Nat} {W : List (List Arc)} (hP : Parts n arcs nlC of W) : (List.range n).map (strJ arcs np g of W.length) = (List.range n).map (strG arcs np g) := by
  refine List.map_congr_left fun x hx => ?_
  have hin : x < of.length := by rw [hP.len]; exact List.mem_range.1 hx
  have hk : of[x]? = some of[x] := List.getElem?_eq_getElem hin
  unfold strJ strG
  congr 2
  apply propext
  exact ⟨fun ⟨j, _, _, h⟩ => h, fun h => ⟨_, hP.lt x _ hk, hk, h⟩⟩
theorem strJ_next {n np k : Nat} {arcs : List Arc} {g : Nat → Bool} {of : List Nat} {W : List (List Arc)} (hP : Parts n arcs nlC of W) {l : List Arc} (hl : W[k]? = some l) {x : Nat} (hx : x < n) :
    strJ arcs np g of (k + 1) x = (strJ arcs np g of k x || (decide (l ≠ [] ∧ badN (marksOf l) np = 0 ∧ of[x]? = some k) || decide (badN (marksOf l) np ≠ 0 ∧ CycleS (· ∈ offL l (badN (marksOf l) np)) np x))) := by
  have hbad := badN_bad (marksOf l) np
  generalize badN (marksOf l) np = m at hbad
  have hin : x < of.length := by rw [hP.len]; exact hx
  have hk : of[x]? = some of[x] := List.getElem?_eq_getElem hin
  unfold strJ
  rw [Bool.or_assoc, ← Bool.decide_or, ← Bool.decide_or]
  congr 2
  apply propext
  have hfr : CycleS (fun a => a ∈ l ∧ Off a.marks m) np x ↔ CycleS (· ∈ offL l m) np x := by
    have : (fun a => a ∈ l ∧ Off a.marks m) = (· ∈ offL l m) := funext fun a => propext offL_mem.symm
    rw [this]
  by_cases hxk : of[x]? = some k
  · have hc := cycleS_iff (n := np) (fun a => hP.mem x k l hxk hl a) hbad
    rw [free_nl', hfr] at hc
    constructor
    · rintro ⟨j, h1, h2, h3⟩
      rw [hxk] at h2; cases h2
      rcases hc.1 h3 with ⟨h4, h5⟩ | h4
      · exact .inr (.inl ⟨h4, h5, hxk⟩)
      · exact .inr (.inr h4)
    · rintro (⟨j, h1, h2, h3⟩ | ⟨h1, h2, h3⟩ | h1)
      · exact ⟨j, by omega, h2, h3⟩
      · exact ⟨k, Nat.lt_succ_self k, hxk, hc.2 (.inl ⟨h1, h2⟩)⟩
      · exact ⟨k, Nat.lt_succ_self k, hxk, hc.2 (.inr h1)⟩
  · constructor
    · rintro ⟨j, h1, h2, h3⟩
      refine .inl ⟨j, ?_, h2, h3⟩
      rcases Nat.lt_or_ge j k with h | h
      · exact h
      · obtain rfl : j = k := by omega
        exact absurd h2 hxk
    · rintro (⟨j, h1, h2, h3⟩ | ⟨h1, h2, h3⟩ | ⟨h1, h2⟩)
      · exact ⟨j, by omega, h2, h3⟩
      · exact absurd h3 hxk
      · exfalso
        obtain ⟨q, hq, hp, _⟩ := h2
        cases hp with
        | nil _ => exact hq rfl
        | cons ha _ => exact hxk (hP.own k l hl _ (offL_mem.1 ha).1)
theorem strJ_c {n np k : Nat} {arcs : List Arc} {g : Nat → Bool} {of : List Nat} {W : List (List Arc)} (hP : Parts n arcs nlC of W) {l : List Arc} (hl : W[k]? = some l) (h : badN (marksOf l) np ≠ 0) :
    (List.range n).map (strJ arcs np g of (k + 1)) = (List.range n).map (strG (offL l (badN (marksOf l) np)) np (strJ arcs np g of k)) := by
  refine List.map_congr_left fun x hx => ?_
  rw [strJ_next hP hl (List.mem_range.1 hx)]
  unfold strG
  congr 1
  rw [decide_eq_false (fun h' => h h'.2.1), Bool.false_or]
  congr 1
  exact propext ⟨fun h' => h'.2, fun h' => ⟨h, h'⟩⟩
theorem strJ_b {n np k : Nat} {arcs : List Arc} {g : Nat → Bool} {of : List Nat} {W : List (List Arc)} (hP : Parts n arcs nlC of W) {l : List Arc} (hl : W[k]? = some l) (h : badN (marksOf l) np = 0) (h0 : l = []) :
    (List.range n).map (strJ arcs np g of (k + 1)) = (List.range n).map (strJ arcs np g of k) := by
  refine List.map_congr_left fun x hx => ?_
  have e1 : decide (l ≠ [] ∧ badN (marksOf l) np = 0 ∧ of[x]? = some k) = false := decide_eq_false fun h' => h'.1 h0
  have e2 : decide (badN (marksOf l) np ≠ 0 ∧ CycleS (· ∈ offL l (badN (marksOf l) np)) np x) = false := decide_eq_false fun h' => h'.1 h
  rw [strJ_next hP hl (List.mem_range.1 hx), e1, e2, Bool.or_false, Bool.or_false]
theorem strJ_a {n np k : Nat} {arcs : List Arc} {g : Nat → Bool} {of : List Nat} {W : List (List Arc)} (hP : Parts n arcs nlC of W) {l : List Arc} (hl : W[k]? = some l) (h : badN (marksOf l) np = 0) (h0 : l ≠ []) {x j : Nat} (hx : x < n) (hj : of[x]? = some j) :
    strJ arcs np g of (k + 1) x = (strJ arcs np g of k x || decide (j = k)) := by
  have e2 : decide (badN (marksOf l) np ≠ 0 ∧ CycleS (· ∈ offL l (badN (marksOf l) np)) np x) = false := decide_eq_false fun h' => h'.1 h
  rw [strJ_next hP hl hx, e2, Bool.or_false]
  congr 2
  rw [hj]
  exact propext ⟨fun h' => Option.some.inj h'.2.2, fun h' => ⟨h0, h, by rw [h']⟩⟩
end Go.Proofs.Ytaccmanpanpbiaa

/- streett of the reference: what it writes into the row it is given. -/
-- VkG VkH VmA
set_option linter.unusedVariables false
set_option linter.unusedSimpArgs false
set_option maxRecDepth 100000
set_option maxHeartbeats 4000000
namespace Go.Proofs.Ytaccmanpanpbiaa
open Go Go.Vh Go.Vk Go.Vn Go.Proofs
open Classical
/-- A row of truth values, written so many times. -/
def bvH (l : List Bool) (v : Nat) : AHeap := ⟨1, fun i => match i with | 0 => .cells 1 (bls l) | i => emptyH.f i, fun i => match i with | 0 => v | _ => 0⟩
theorem shl2 {l : Nat} (h : l < 62) : shlA .i64 2 (l : Int) = ((2 ^ (l + 1) : Nat) : Int) := by
  have h2 : 2 ^ (l + 1) < 2 ^ 63 := Nat.pow_lt_pow_right (by decide) (by omega)
  unfold shlA
  rw [show min (l : Int).toNat (IntKind.bits .i64) = l from by show min (l : Int).toNat 64 = l; omega]
  have e : (2 : Int) * 2 ^ l = ((2 ^ (l + 1) : Nat) : Int) := by rw [Nat.pow_succ, Nat.mul_comm]; simp
  rw [e]
  exact wrap_i64n h2
/-- A row of arcs that grows from nothing behind it. -/
def bvK (b : List Bool) (v : Nat) (l : List Arc) : AHeap := match l with
  | [] => bvH b v
  | x :: l => (bvH b v).alloc (.cells 4 (ints (fl acs (x :: l))))
def StrT (mk : Nat) (n : Nat) (arcs : List Arc) (g : Nat → Bool) : Prop := CallW Try.prog 144 [.int .i64 (n : Int), rA arcs, .int .i64 (mk : Int), .slice 0 0 n] (bvH ((List.range n).map g) 0) fun v H' => v = .tuple [] ∧ ∃ k, H' = bvH ((List.range n).map (strG arcs ((mk + 1) / 2) g)) k
theorem strR (mk : Nat) (hmk : mk ≤ 60) : ∀ (N n : Nat) (arcs : List Arc) (g : Nat → Bool), arcs.length < N → InR n arcs → StrT mk n arcs g := by
  intro N
  induction N with
  | zero => intro n arcs g h; exact absurd h (Nat.not_lt_zero _)
  | succ N ih =>
  intro n arcs g hlen hi
  have hn1 := hi.n1
  have hl1 := hi.len
  obtain ⟨of, W, hP, hcall⟩ := partsR n arcs nlC hi ⟨by decide, by decide, by decide, by decide⟩
  have hwn := hP.wn
  have hol := hP.len
  unfold StrT
  refine CallW.symRK (cuts := [30]) Try.func144 rfl (by kernel_rfl) ?_
  conv => whnf
  skip
  refine CallS.of (by kernel_rfl) (hcall _) rfl ?_
  rintro _ _ ⟨rfl, rfl⟩
  conv => whnf
  repeat' (refine Gets.of _ rfl ?_; conv => whnf)
  refine CodeS.loopGK (cuts := [30]) (σ := Nat × Nat) (fun s => [(0, .int .i64 (n : Int)), (2, .int .i64 (mk : Int)), (3, .slice 0 0 n), (8, rI (of.map Int.ofNat)), (28, rR (W.map rA)), (29, .int .i64 (W.length : Int)), (30, .int .i64 (s.1 : Int))]) (fun s => bvH ((List.range n).map (strJ arcs ((mk + 1) / 2) g of s.1)) s.2) (fun s => s.1 ≤ W.length) (fun s => W.length - s.1) (0, 1) (renL [0] 1) (by kernel_rfl) (Nat.zero_le _) ⟨rfl, rfl, rfl, rfl, rfl, congrArg (fun n : Nat => AVal.int .i64 (n : Int)) (List.length_map ..), rfl, trivial⟩ (EmbL.litsN [0] rfl rfl rfl rfl (.cons ⟨rfl, .inr Nat.zero_lt_one⟩ .nil) (.cons ⟨rfl, .cellsBe (by rw [strJ_zero])⟩ .nil)) ?_
  rintro ⟨j, v⟩ hj
  have hj : j ≤ W.length := hj
  have hwl : (W.map rA).length = W.length := List.length_map ..
  dsimp only
  rcases Nat.lt_or_ge j W.length with hjl | hjl
  · obtain ⟨l, hlj⟩ := getE hjl
    have hlm : l ∈ W := List.mem_of_getElem? hlj
    have hls := hP.sz l hlm
    have hmks : ∀ a ∈ l, a.marks < 2 ^ 62 ∧ a.other < 2 ^ 62 := fun a ha => hi.mks a (hP.sub l hlm a ha)
    have hrow : (W.map rA)[j]? = some (rA l) := by rw [List.getElem?_map, hlj]; rfl
    conv => whnf
    repeat' first | ((refine Gets.ldRR rfl rfl hrow ?_); conv => whnf) | (refine Gets.of _ rfl ?_; conv => whnf) | (refine Gets.ixR1 rfl rfl (by omega) ?_; conv => whnf) | (refine Fork.dec (fun _ => ?_) (fun _ => ?_) <;> first | (exfalso; omega) | (conv => whnf))
    have hH : ∀ i, i ≤ l.length → marksOf (l.take i) < 2 ^ 62 := fun i _ => marksOf_lt fun a ha => (hmks a (List.mem_of_mem_take ha)).1
    refine CodeS.loopGK (cuts := [30]) (σ := Nat) (fun i => [(0, .int .i64 (n : Int)), (2, .int .i64 (mk : Int)), (3, .slice 0 0 n), (8, rI (of.map Int.ofNat)), (10, .int .i64 (j : Int)), (11, rA l), (12, .int .i64 ((marksOf (l.take i) : Nat) : Int)), (28, rR (W.map rA)), (29, .int .i64 (W.length : Int)), (30, .int .i64 (j : Int)), (35, rA l), (36, .int .i64 (l.length : Int)), (37, .int .i64 (i : Int))]) (fun _ => bvH ((List.range n).map (strJ arcs ((mk + 1) / 2) g of j)) v) (fun i => i ≤ l.length) (fun i => l.length - i) 0 (renL [0] 1) (by kernel_rfl) (Nat.zero_le _) ⟨rfl, rfl, rfl, rfl, rfl, rfl, rfl, rfl, rfl, rfl, rfl, rfl, rfl, trivial⟩ (EmbL.litsN [0] rfl rfl rfl rfl (.cons ⟨rfl, .inl ⟨rfl, fun h => h⟩⟩ .nil) (.cons ⟨rfl, .cellsB⟩ .nil)) ?_
    intro i hil
    rcases Nat.lt_or_ge i l.length with hix | hix
    · obtain ⟨x, hx⟩ := getE hix
      have hxm := hmks x (List.mem_of_getElem? hx)
      have hb := hH i hil
      have htk : l.take (i + 1) = l.take i ++ [x] := by
        obtain ⟨_, rfl⟩ := List.getElem?_eq_some_iff.1 hx
        exact List.take_succ_eq_append_getElem hix
      conv => whnf
      repeat' first | ((refine Gets.ixRE (es := 4) rfl (by kernel_rfl) (by omega) ?_); conv => whnf) | ((refine Gets.ldRK recA rfl rfl rfl rfl hx ?_); conv => whnf) | ((with_reducible refine Gets.addI ?_ ?_ ?_); (· omega); (· omega); conv => whnf) | (refine Gets.of _ rfl ?_; conv => whnf) | (refine Fork.dec (fun _ => ?_) (fun _ => ?_) <;> first | (exfalso; omega) | (conv => whnf))
      refine ⟨i + 1, renL [0] 2, hix, by show l.length - (i + 1) < _; omega, ⟨rfl, rfl, rfl, rfl, rfl, rfl, ?_, rfl, rfl, rfl, rfl, rfl, rfl, trivial⟩, EmbL.litsN [0] rfl rfl rfl rfl (.cons ⟨rfl, .inl ⟨rfl, fun h => h⟩⟩ .nil) (.cons ⟨rfl, .cellsB⟩ .nil)⟩
      rw [htk, marksOf_snoc]
      exact congrArg (AVal.int .i64) (Vh.orI (m := marksOf (l.take i)) (n := x.marks) (by omega) (by omega))
    obtain rfl : i = l.length := by omega
    have hb := hH l.length (Nat.le_refl _)
    rw [List.take_length] at hb ⊢
    have hI : ∃ I, I = marksOf l := ⟨_, rfl⟩
    obtain ⟨I, hI⟩ := hI
    rw [← hI] at hb ⊢
    conv => whnf
    repeat' (refine Fork.dec (fun _ => ?_) (fun _ => ?_) <;> first | (exfalso; omega) | (conv => whnf))
    have hbl := badN_lt I
    refine CodeS.loopGK (cuts := [30]) (σ := Nat) (fun p => [(0, .int .i64 (n : Int)), (2, .int .i64 (mk : Int)), (3, .slice 0 0 n), (8, rI (of.map Int.ofNat)), (10, .int .i64 (j : Int)), (11, rA l), (12, .int .i64 (I : Int)), (15, .int .i64 ((badN I p : Nat) : Int)), (16, .int .i64 ((2 * p : Nat) : Int)), (28, rR (W.map rA)), (29, .int .i64 (W.length : Int)), (30, .int .i64 (j : Int))]) (fun _ => bvH ((List.range n).map (strJ arcs ((mk + 1) / 2) g of j)) v) (fun p => 2 * p ≤ mk + 1) (fun p => mk + 2 - 2 * p) 0 (renL [0] 1) (by kernel_rfl) (Nat.zero_le _) ⟨rfl, rfl, rfl, rfl, rfl, rfl, rfl, rfl, rfl, rfl, rfl, rfl, trivial⟩ (EmbL.litsN [0] rfl rfl rfl rfl (.cons ⟨rfl, .inl ⟨rfl, fun h => h⟩⟩ .nil) (.cons ⟨rfl, .cellsB⟩ .nil)) ?_
    intro p hp
    have hbp := hbl p
    rcases Nat.lt_or_ge (2 * p) mk with hpm | hpm
    · have hsh : I >>> (2 * p) ≤ I := Nat.shiftRight_le ..
      have hand := Vh.andI (m := I >>> (2 * p)) (n := 3) (by omega) (by decide)
      have hpi := pair_iff I p
      have hp2 : 2 ^ (2 * p) * 2 = 2 ^ (2 * p + 1) := (Nat.pow_succ ..).symm
      have hp3 : 2 ^ (2 * p + 1) ≤ 2 ^ 61 := Nat.pow_le_pow_right (by decide) (by omega)
      conv => whnf
      repeat' first | ((with_reducible refine Gets.shrN ?_ ?_); (· omega); conv => whnf) | ((with_reducible refine Gets.addI ?_ ?_ ?_); (· omega); (· omega); conv => whnf) | (refine Gets.of _ rfl ?_; conv => whnf) | (refine Fork.dec (fun _ => ?_) (fun _ => ?_) <;> first | (exfalso; omega) | (conv => whnf))
      · rename_i h0
        have hc := hpi.1 (by rw [show ((3 : Nat) : Int) = 3 from rfl] at hand; rw [hand] at h0; omega)
        refine ⟨p + 1, renL [0] 1, by omega, by omega, ⟨rfl, rfl, rfl, rfl, rfl, rfl, rfl, ?_, ?_, rfl, rfl, rfl, trivial⟩, EmbL.litsN [0] rfl rfl rfl rfl (.cons ⟨rfl, .inl ⟨rfl, fun h => h⟩⟩ .nil) (.cons ⟨rfl, .cellsB⟩ .nil)⟩
        · rw [badN, if_pos hc]
          refine Eq.trans ?_ (congrArg (AVal.int .i64) (Vh.orI (m := badN I p) (n := 2 ^ (2 * p + 1)) (by omega) (by omega)))
          have e2 := shl2 (l := 2 * p) (by omega)
          rw [← e2]; rfl
        · rfl
      · rename_i h0
        have hc : ¬ (I.testBit (2 * p + 1) = true ∧ I.testBit (2 * p) = false) := fun h => h0 (by rw [show ((3 : Nat) : Int) = 3 from rfl] at hand; rw [hand, hpi.2 h]; rfl)
        refine ⟨p + 1, renL [0] 1, by omega, by omega, ⟨rfl, rfl, rfl, rfl, rfl, rfl, rfl, by rw [badN, if_neg hc]; rfl, rfl, rfl, rfl, rfl, trivial⟩, EmbL.litsN [0] rfl rfl rfl rfl (.cons ⟨rfl, .inl ⟨rfl, fun h => h⟩⟩ .nil) (.cons ⟨rfl, .cellsB⟩ .nil)⟩
    obtain rfl : p = (mk + 1) / 2 := by omega
    have hp4 : 2 ^ (2 * ((mk + 1) / 2)) ≤ 2 ^ 61 := Nat.pow_le_pow_right (by decide) (by omega)
    have hz : l.length ≠ 0 ∨ badN I ((mk + 1) / 2) = 0 := by
      rcases l with _ | ⟨a, l⟩
      · right; rw [hI]; exact badN_zero _
      · left; simp
    generalize hm : badN I ((mk + 1) / 2) = m at hbp hz
    rw [hI] at hm
    conv => whnf
    repeat' first | ((with_reducible refine Gets.addI ?_ ?_ ?_); (· omega); (· omega); conv => whnf) | (refine Gets.of _ rfl ?_; conv => whnf) | (refine Fork.dec (fun _ => ?_) (fun _ => ?_) <;> first | (exfalso; omega) | (conv => whnf))
    · rename_i hl0 hm0
      have hfine : l ≠ [] := fun he => by rw [he] at hl0; exact absurd hl0 (by decide)
      have hm0 : badN (marksOf l) ((mk + 1) / 2) = 0 := by omega
      have hofl : (of.map Int.ofNat).length = n := by rw [List.length_map, hol]
      refine CodeS.loopGK (cuts := [30]) (σ := Nat × Nat) (fun s => [(0, .int .i64 (n : Int)), (2, .int .i64 (mk : Int)), (3, .slice 0 0 n), (8, rI (of.map Int.ofNat)), (10, .int .i64 (j : Int)), (11, rA l), (15, .int .i64 (m : Int)), (28, rR (W.map rA)), (29, .int .i64 (W.length : Int)), (30, .int .i64 (j : Int)), (68, .int .i64 (n : Int)), (69, .int .i64 (s.1 : Int))]) (fun s => bvH (gl2 n (strJ arcs ((mk + 1) / 2) g of (j + 1)) (strJ arcs ((mk + 1) / 2) g of j) s.1) s.2) (fun s => s.1 ≤ n) (fun s => n - s.1) (0, v + 1) (renL [0] 1) (by kernel_rfl) (Nat.zero_le _) ⟨rfl, rfl, rfl, rfl, rfl, rfl, rfl, rfl, rfl, rfl, congrArg (fun n : Nat => AVal.int .i64 (n : Int)) hofl, rfl, trivial⟩ (EmbL.litsN [0] rfl rfl rfl rfl (.cons ⟨rfl, .inr (Nat.lt_succ_self _)⟩ .nil) (.cons ⟨rfl, .cellsBe gl2_zero⟩ .nil)) ?_
      rintro ⟨i, v⟩ hin
      have hin : i ≤ n := hin
      dsimp only
      rcases Nat.lt_or_ge i n with hil | hil
      · obtain ⟨k, hki⟩ := getE (l := of) (j := i) (by omega)
        have hki2 : (of.map Int.ofNat)[i]? = some (k : Int) := by rw [List.getElem?_map, hki]; rfl
        have hqi : (gl2 n (strJ arcs ((mk + 1) / 2) g of (j + 1)) (strJ arcs ((mk + 1) / 2) g of j) i)[i]? = some (strJ arcs ((mk + 1) / 2) g of j i) := by rw [gl2_get hil, if_neg (Nat.lt_irrefl i)]
        have hset := gl2_set (p := strJ arcs ((mk + 1) / 2) g of (j + 1)) (q := strJ arcs ((mk + 1) / 2) g of j) hil
        have hbl := gl2_length n (strJ arcs ((mk + 1) / 2) g of (j + 1)) (strJ arcs ((mk + 1) / 2) g of j) i
        rw [strJ_a hP hlj hm0 hfine hil hki] at hset
        generalize strJ arcs ((mk + 1) / 2) g of j i = b1 at hqi hset
        rcases b1 with _ | _ <;> by_cases hkj : k = j
        all_goals first | rw [decide_eq_true hkj] at hset | rw [decide_eq_false hkj] at hset
        all_goals
          conv => whnf
          repeat' first | ((refine Gets.ldRIv rfl hki2 ?_); conv => whnf) | ((refine Gets.ldBv rfl rfl hqi ?_); conv => whnf) | ((refine Gets.stB rfl rfl (by rw [hbl]; exact hil) ?_); conv => whnf) | ((with_reducible refine Gets.addI ?_ ?_ ?_); (· omega); (· omega); conv => whnf) | (refine Gets.ix1 rfl rfl (by omega) ?_; conv => whnf) | (refine Gets.ixR1 rfl rfl (by omega) ?_; conv => whnf) | (refine Fork.dec (fun _ => ?_) (fun _ => ?_) <;> first | (exfalso; omega) | (conv => whnf))
        all_goals exact ⟨(i + 1, v + 2), renL [0] 1, hil, by show n - (i + 1) < n - i; omega, ⟨rfl, rfl, rfl, rfl, rfl, rfl, rfl, rfl, rfl, rfl, rfl, rfl, trivial⟩, EmbL.litsN [0] rfl rfl rfl rfl (.cons ⟨rfl, .inr (Nat.lt_succ_self _)⟩ .nil) (.cons ⟨rfl, .cellsBe hset.symm⟩ .nil)⟩
      obtain rfl : i = n := by omega
      conv => whnf
      repeat' first | ((with_reducible refine Gets.addI ?_ ?_ ?_); (· omega); (· omega); conv => whnf) | (refine Fork.dec (fun _ => ?_) (fun _ => ?_) <;> first | (exfalso; omega) | (conv => whnf))
      exact ⟨(j + 1, v + 1), renL [0] 1, hjl, by show W.length - (j + 1) < _; omega, ⟨rfl, rfl, rfl, rfl, rfl, rfl, rfl, trivial⟩, EmbL.litsN [0] rfl rfl rfl rfl (.cons ⟨rfl, .inr (Nat.lt_succ_self _)⟩ .nil) (.cons ⟨rfl, .cellsBe gl2_all.symm⟩ .nil)⟩
    · rename_i hl0 hm0
      have hm1 : badN (marksOf l) ((mk + 1) / 2) ≠ 0 := by omega
      have hshort := offL_short (badN_bad (marksOf l) ((mk + 1) / 2)) hm1
      have hsj := strJ_c (g := g) hP hlj hm1
      rw [hm] at hshort hsj
      have hfree : InR n (offL l m) := ⟨hn1, by omega, fun a ha => hi.fr a (hP.sub l hlm a (offL_mem.1 ha).1), fun a ha => hi.to a (hP.sub l hlm a (offL_mem.1 ha).1), fun a ha => hmks a (offL_mem.1 ha).1⟩
      have hih := ih n (offL l m) (strJ arcs ((mk + 1) / 2) g of j) (by omega) hfree
      unfold StrT at hih
      refine CodeS.loopGK (cuts := [30]) (σ := Nat × List Arc) (fun s => [(0, .int .i64 (n : Int)), (2, .int .i64 (mk : Int)), (3, .slice 0 0 n), (8, rI (of.map Int.ofNat)), (15, .int .i64 (m : Int)), (18, gK 1 acs s.2), (28, rR (W.map rA)), (29, .int .i64 (W.length : Int)), (30, .int .i64 (j : Int)), (90, rA l), (91, .int .i64 (l.length : Int)), (92, .int .i64 (s.1 : Int))]) (fun s => bvK ((List.range n).map (strJ arcs ((mk + 1) / 2) g of j)) v s.2) (fun s => s.1 ≤ l.length ∧ offL (l.take s.1) m = s.2) (fun s => l.length - s.1) (0, []) (renL [0] 1) (by kernel_rfl) ⟨Nat.zero_le _, rfl⟩ ⟨rfl, rfl, rfl, rfl, rfl, rfl, rfl, rfl, rfl, rfl, rfl, rfl, trivial⟩ (EmbL.litsN [0] rfl rfl rfl rfl (.cons ⟨rfl, .inl ⟨rfl, fun h => h⟩⟩ .nil) (.cons ⟨rfl, .cellsB⟩ .nil)) ?_
      rintro ⟨i, acc⟩ ⟨hil, hacc⟩
      dsimp only at hil hacc ⊢
      have hal : acc.length ≤ i := by
        rw [← hacc]
        exact Nat.le_trans (List.length_filter_le _ _) (by rw [List.length_take]; omega)
      rcases Nat.lt_or_ge i l.length with hix | hix
      · obtain ⟨a, ha⟩ := getE hix
        have ham := hmks a (List.mem_of_getElem? ha)
        have hnx := offL_next (m := m) ha
        have hand := Vh.andI (m := a.marks) (n := m) (by omega) (by omega)
        rw [hacc] at hnx
        rcases acc with _ | ⟨x, acc⟩
        · conv => whnf
          repeat' first | ((refine Gets.ixRE (es := 4) rfl (by kernel_rfl) (by omega) ?_); conv => whnf) | ((refine Gets.ldRK recA rfl rfl rfl rfl ha ?_); conv => whnf) | ((refine Gets.appK0 recA (by decide) (x := a) rfl rfl rfl rfl rfl (by decide) rfl ?_); conv => whnf) | ((with_reducible refine Gets.addI ?_ ?_ ?_); (· omega); (· omega); conv => whnf) | (refine Gets.of _ rfl ?_; conv => whnf) | (refine Fork.dec (fun _ => ?_) (fun _ => ?_) <;> first | (exfalso; omega) | (conv => whnf))
          · rename_i h0
            rw [if_pos (by rw [hand] at h0; omega)] at hnx
            exact ⟨(i + 1, [a]), renL [0, 3] 4, ⟨hix, hnx⟩, by show l.length - (i + 1) < _; omega, ⟨rfl, rfl, rfl, rfl, rfl, rfl, rfl, rfl, rfl, rfl, rfl, rfl, trivial⟩, EmbL.litsN [0, 3] rfl rfl rfl rfl (.cons ⟨rfl, .inl ⟨rfl, fun h => h⟩⟩ .nil) (.cons ⟨rfl, .cellsB⟩ (.cons ⟨rfl, .inl rfl⟩ .nil))⟩
          · rename_i h0
            rw [if_neg (fun h => h0 (by rw [hand, h]; rfl)), List.append_nil] at hnx
            exact ⟨(i + 1, []), renL [0] 2, ⟨hix, hnx⟩, by show l.length - (i + 1) < _; omega, ⟨rfl, rfl, rfl, rfl, rfl, rfl, rfl, rfl, rfl, rfl, rfl, rfl, trivial⟩, EmbL.litsN [0] rfl rfl rfl rfl (.cons ⟨rfl, .inl ⟨rfl, fun h => h⟩⟩ .nil) (.cons ⟨rfl, .cellsB⟩ .nil)⟩
        · have e2 : (x :: (acc ++ [a])).length = (x :: acc).length + 1 := by simp
          conv => whnf
          repeat' first | ((refine Gets.ixRE (es := 4) rfl (by kernel_rfl) (by omega) ?_); conv => whnf) | ((refine Gets.ldRK recA rfl rfl rfl rfl ha ?_); conv => whnf) | ((refine Gets.appK1 recA (by decide) (l := x :: acc) (x := a) rfl rfl rfl rfl rfl (by decide) rfl rfl rfl (by omega) ?_); conv => whnf) | ((with_reducible refine Gets.addI ?_ ?_ ?_); (· omega); (· omega); conv => whnf) | (refine Gets.of _ rfl ?_; conv => whnf) | (refine Fork.dec (fun _ => ?_) (fun _ => ?_) <;> first | (exfalso; omega) | (conv => whnf))
          · rename_i h0
            rw [if_pos (by rw [hand] at h0; omega)] at hnx
            exact ⟨(i + 1, x :: acc ++ [a]), renL [0, 4] 5, ⟨hix, hnx⟩, by show l.length - (i + 1) < _; omega, ⟨rfl, rfl, rfl, rfl, rfl, by first | exact congrArg (AVal.slice 4 0) e2 | exact congrArg (AVal.slice 4 0) e2.symm, rfl, rfl, rfl, rfl, rfl, rfl, trivial⟩, EmbL.litsN [0, 4] rfl rfl rfl rfl (.cons ⟨rfl, .inl ⟨rfl, fun h => h⟩⟩ .nil) (.cons ⟨rfl, .cellsB⟩ (.cons ⟨rfl, .cellsI⟩ .nil))⟩
          · rename_i h0
            rw [if_neg (fun h => h0 (by rw [hand, h]; rfl)), List.append_nil] at hnx
            exact ⟨(i + 1, x :: acc), renL [0, 1] 3, ⟨hix, hnx⟩, by show l.length - (i + 1) < _; omega, ⟨rfl, rfl, rfl, rfl, rfl, rfl, rfl, rfl, rfl, rfl, rfl, rfl, trivial⟩, EmbL.litsN [0, 1] rfl rfl rfl rfl (.cons ⟨rfl, .inl ⟨rfl, fun h => h⟩⟩ .nil) (.cons ⟨rfl, .cellsB⟩ (.cons ⟨rfl, .cellsI⟩ .nil))⟩
      obtain rfl : i = l.length := by omega
      rw [List.take_length] at hacc
      rcases acc with _ | ⟨x, acc⟩
      · conv => whnf
        repeat' (refine Fork.dec (fun _ => ?_) (fun _ => ?_) <;> first | (exfalso; omega) | (conv => whnf))
        rw [hacc] at hih hsj
        refine CallS.of (by kernel_rfl) ((hih.frameQ [0] rfl (.cons ⟨rfl, .cellsB⟩ .nil) (by rintro _ _ ⟨_, _, rfl⟩; exact .cons (.inr rfl) .nil)).argsF [] rfl (.keep (.frz (show Frz _ _ AVal.nilSlice (.row 0 (ints (fl acs []))) from .nil) (.keep (.keep .nil))))) rfl ?_
        rintro _ _ ⟨_, _, ⟨rfl, w, rfl⟩, rfl, rfl⟩
        conv => whnf
        repeat' ((with_reducible refine Gets.addI ?_ ?_ ?_); (· omega); (· omega); conv => whnf)
        refine ⟨(j + 1, v + w + 1) , renL [0] 1, hjl, by show W.length - (j + 1) < _; omega, ⟨rfl, rfl, rfl, rfl, rfl, rfl, rfl, trivial⟩, EmbL.litsN [0] rfl rfl rfl rfl (.cons ⟨rfl, .inr ?_⟩ .nil) (.cons ⟨rfl, ?_⟩ .nil)⟩
        · show v + (w - 0) < v + w + 1
          omega
        · show BSub _ (.cells 1 (bls ((List.range n).map (strJ arcs ((mk + 1) / 2) g of (j + 1))))) (.cells 1 (rens _ (bls _)))
          rw [hsj]
          exact .cellsBr
      · conv => whnf
        repeat' (refine Fork.dec (fun _ => ?_) (fun _ => ?_) <;> first | (exfalso; omega) | (conv => whnf))
        rw [hacc] at hih hsj
        refine CallS.of (by kernel_rfl) ((hih.frameQ [0] rfl (.cons ⟨rfl, .cellsB⟩ .nil) (by rintro _ _ ⟨_, _, rfl⟩; exact .cons (.inr rfl) .nil)).argsF [1] rfl (.keep (.frz (show Frz _ _ (AVal.slice 1 0 (x :: acc).length) (rA (x :: acc)) from frzK recA (l := x :: acc) rfl rfl rfl) (.keep (.keep .nil))))) rfl ?_
        rintro _ _ ⟨_, _, ⟨rfl, w, rfl⟩, rfl, rfl⟩
        conv => whnf
        repeat' ((with_reducible refine Gets.addI ?_ ?_ ?_); (· omega); (· omega); conv => whnf)
        refine ⟨(j + 1, v + w + 1) , renL [0] 2, hjl, by show W.length - (j + 1) < _; omega, ⟨rfl, rfl, rfl, rfl, rfl, rfl, rfl, trivial⟩, EmbL.litsN [0] rfl rfl rfl rfl (.cons ⟨rfl, .inr ?_⟩ .nil) (.cons ⟨rfl, ?_⟩ .nil)⟩
        · show v + (w - 0) < v + w + 1
          omega
        · show BSub _ (.cells 1 (bls ((List.range n).map (strJ arcs ((mk + 1) / 2) g of (j + 1))))) (.cells 1 (rens _ (bls _)))
          rw [hsj]
          exact .cellsBr
    · rename_i hl0 hm0
      have hm0 : badN (marksOf l) ((mk + 1) / 2) = 0 := by omega
      exact ⟨(j + 1, v + 1), renL [0] 1, hjl, by show W.length - (j + 1) < _; omega, ⟨rfl, rfl, rfl, rfl, rfl, rfl, rfl, trivial⟩, EmbL.litsN [0] rfl rfl rfl rfl (.cons ⟨rfl, .inr (Nat.lt_succ_self _)⟩ .nil) (.cons ⟨rfl, .cellsBe (strJ_b hP hlj hm0 (List.eq_nil_of_length_eq_zero (by omega)))⟩ .nil)⟩
  obtain rfl : j = W.length := by omega
  conv => whnf
  repeat' (refine Fork.dec (fun _ => ?_) (fun _ => ?_) <;> first | (exfalso; omega) | (conv => whnf))
  exact ⟨renL [0] 1, .tuple [], bvH ((List.range n).map (strG arcs ((mk + 1) / 2) g)) (v + 1), EmbL.litsN [0] rfl rfl rfl rfl (.cons ⟨rfl, .inr (Nat.lt_succ_self _)⟩ .nil) (.cons ⟨rfl, .cellsBe (strJ_all hP).symm⟩ .nil), rfl, rfl, v + 1, rfl⟩
end Go.Proofs.Ytaccmanpanpbiaa

/- From which nodes a path starts that goes round an accepted circle. Plain. -/
set_option linter.unusedVariables false
set_option linter.unusedSimpArgs false
namespace Go.Proofs.Ytaccmanpanpbiaa
open Go Go.Vh Go.Vk Go.Vn Go.Proofs
open Classical
/-- A circle at a node whose marks are right. -/
def CycP (arcs : List Arc) (ok : Nat → Nat → Prop) (i : Nat) : Prop := ∃ l, l ≠ [] ∧ Path (· ∈ arcs) i l i ∧ ok (marksOf l) (otherOf l)
def LiveP (arcs : List Arc) (ok : Nat → Nat → Prop) (x : Nat) : Prop := ∃ j, Vn.Reach (· ∈ arcs) x j ∧ CycP arcs ok j
noncomputable def liveL (n : Nat) (arcs : List Arc) (ok : Nat → Nat → Prop) : List Bool := (List.range n).map fun x => decide (LiveP arcs ok x)
theorem off_marksOf {l : List Arc} {m : Nat} : Off (marksOf l) m ↔ ∀ a ∈ l, Off a.marks m := by
  constructor
  · intro h a ha b hb; exact h b ((marksOf_bit l b).2 ⟨a, ha, hb⟩)
  · intro h b hb
    obtain ⟨a, ha, hb⟩ := (marksOf_bit l b).1 hb
    exact h a ha b hb
theorem off_otherOf {l : List Arc} {m : Nat} : Off (otherOf l) m ↔ ∀ a ∈ l, Off a.other m := by
  constructor
  · intro h a ha b hb; exact h b ((otherOf_bit l b).2 ⟨a, ha, hb⟩)
  · intro h b hb
    obtain ⟨a, ha, hb⟩ := (otherOf_bit l b).1 hb
    exact h a ha b hb
theorem cycle_sat {arcs : List Arc} {c : Cond} {i : Nat} : Cycle arcs c i ↔ CycP arcs (fun I J => (Off I c.never ∧ Sub c.again I) ∧ (Off J c.never2 ∧ Sub c.again2 J)) i := by
  constructor
  · rintro ⟨l, h0, h1, h2, h3⟩
    exact ⟨l, h0, h1.mono fun a _ h => h.1, ⟨off_marksOf.2 fun a ha => (h1.all a ha).2.1, h2⟩, ⟨off_otherOf.2 fun a ha => (h1.all a ha).2.2, h3⟩⟩
  · rintro ⟨l, h0, h1, ⟨h2, h3⟩, ⟨h4, h5⟩⟩
    exact ⟨l, h0, h1.mono fun a ha h => ⟨h, off_marksOf.1 h2 a ha, off_otherOf.1 h4 a ha⟩, h3, h5⟩
def oneC (c : Cl) : Cond := ⟨c.never, c.again, 0, 0⟩
def twoC (c d : Cl) : Cond := ⟨c.never, c.again, d.never, d.again⟩
def bothC (X Y : List Cl) : List Cond := X.flatMap fun c => Y.map (twoC c)
theorem anyC_one (arcs : List Arc) (X : List Cl) (i : Nat) : anyC arcs (X.map oneC) i = decide (CycP arcs (fun I _ => SatL X I) i) := by
  unfold anyC
  congr 1
  apply propext
  constructor
  · rintro ⟨c, hc, h⟩
    obtain ⟨d, hd, rfl⟩ := List.mem_map.1 hc
    obtain ⟨l, h0, h1, h2, _⟩ := cycle_sat.1 h
    exact ⟨l, h0, h1, d, hd, h2⟩
  · rintro ⟨l, h0, h1, d, hd, h2⟩
    exact ⟨oneC d, List.mem_map.2 ⟨d, hd, rfl⟩, cycle_sat.2 ⟨l, h0, h1, h2, off_zero _, sub_zero _⟩⟩
theorem anyC_two (arcs : List Arc) (X Y : List Cl) (i : Nat) : anyC arcs (bothC X Y) i = decide (CycP arcs (fun I J => SatL X I ∧ SatL Y J) i) := by
  unfold anyC
  congr 1
  apply propext
  constructor
  · rintro ⟨c, hc, h⟩
    obtain ⟨d, hd, hc⟩ := List.mem_flatMap.1 hc
    obtain ⟨e, he, rfl⟩ := List.mem_map.1 hc
    obtain ⟨l, h0, h1, h2, h3⟩ := cycle_sat.1 h
    exact ⟨l, h0, h1, ⟨d, hd, h2⟩, ⟨e, he, h3⟩⟩
  · rintro ⟨l, h0, h1, ⟨d, hd, h2⟩, ⟨e, he, h3⟩⟩
    exact ⟨twoC d e, List.mem_flatMap.2 ⟨d, hd, List.mem_map.2 ⟨e, he, rfl⟩⟩, cycle_sat.2 ⟨l, h0, h1, h2, h3⟩⟩
theorem cycP_in {n : Nat} {arcs : List Arc} {ok : Nat → Nat → Prop} (hi : InR n arcs) {i : Nat} (h : CycP arcs ok i) : i < n := by
  obtain ⟨l, h0, h1, _⟩ := h
  cases h1 with
  | nil _ => exact absurd rfl h0
  | cons ha _ => exact hi.fr _ ha
theorem goodL_live {n : Nat} {arcs : List Arc} {ok : Nat → Nat → Prop} (hi : InR n arcs) : goodL n arcs (fun i => decide (CycP arcs ok i)) = liveL n arcs ok := by
  unfold goodL liveL reachL
  refine List.map_congr_left fun x hx => ?_
  unfold reachB
  congr 1
  apply propext
  have e : ∀ j, Vn.Reach (nlC.Free (arcs.map turn)) j x ↔ Vn.Reach (· ∈ arcs) x j := fun j => by
    rw [reach_turn, free_nl']
  constructor
  · rintro ⟨j, _, h1, h2⟩
    exact ⟨j, (e j).1 h2, of_decide_eq_true h1⟩
  · rintro ⟨j, h1, h2⟩
    exact ⟨j, cycP_in hi h2, decide_eq_true h2, (e j).2 h1⟩
theorem liveL_congr {n : Nat} {arcs : List Arc} {ok ok' : Nat → Nat → Prop} (h : ∀ l : List Arc, (∀ a ∈ l, a ∈ arcs) → (ok (marksOf l) (otherOf l) ↔ ok' (marksOf l) (otherOf l))) : liveL n arcs ok = liveL n arcs ok' := by
  unfold liveL
  refine List.map_congr_left fun x hx => ?_
  congr 1
  apply propext
  constructor
  · rintro ⟨j, h1, l, h2, h3, h4⟩; exact ⟨j, h1, l, h2, h3, (h l h3.all).1 h4⟩
  · rintro ⟨j, h1, l, h2, h3, h4⟩; exact ⟨j, h1, l, h2, h3, (h l h3.all).2 h4⟩
theorem liveL_get {n : Nat} {arcs : List Arc} {ok : Nat → Nat → Prop} {x : Nat} (h : x < n) : (liveL n arcs ok)[x]? = some (decide (LiveP arcs ok x)) := by
  simp [liveL, h]
theorem liveL_length (n : Nat) (arcs : List Arc) (ok : Nat → Nat → Prop) : (liveL n arcs ok).length = n := by simp [liveL]
end Go.Proofs.Ytaccmanpanpbiaa

/- The ways of a kind, as the reference lists them. -/
-- VkG VkH VmA
set_option linter.unusedVariables false
set_option linter.unusedSimpArgs false
set_option maxRecDepth 100000
set_option maxHeartbeats 4000000
namespace Go.Proofs.Ytaccmanpanpbiaa
open Go Go.Vh Go.Vk Go.Vn Go.Proofs
def cls (c : Cl) : List Int := [c.never, c.again]
theorem recC : Rec cls 2 := ⟨fun _ => rfl⟩
theorem range_next {α : Type} (f : Nat → α) (n : Nat) : (List.range (n + 1)).map f = (List.range n).map f ++ [f n] := by
  rw [List.range_succ, List.map_append]; rfl
theorem someR (mk : Nat) (hm : mk ≤ 40) (H : AHeap) : CallW Try.prog 154 [.int .i64 (mk : Int)] H fun v H' => H' = H ∧ v = rK cls (someL ((mk + 1) / 2)) := by
  refine CallW.pure ?_ rfl H
  refine CallW.symK (cuts := []) Try.func154 rfl (by kernel_rfl) ?_
  conv => whnf
  skip
  refine CodeS.loopGK (cuts := []) (σ := Nat × List Cl) (fun s => [(0, .int .i64 (mk : Int)), (3, gK 0 cls s.2), (4, .int .i64 ((2 * s.1 : Nat) : Int))]) (fun s => gH 2 cls s.2) (fun s => 2 * s.1 ≤ mk + 1 ∧ someL s.1 = s.2) (fun s => mk + 2 - 2 * s.1) (0, []) (renL [] 0) (by kernel_rfl) ⟨Nat.zero_le _, rfl⟩ ⟨rfl, rfl, rfl, trivial⟩ (EmbL.litsN [] rfl rfl rfl rfl .nil .nil) ?_
  rintro ⟨p, acc⟩ ⟨hp, hacc⟩
  dsimp only at hp hacc ⊢
  have hal : acc.length = p := by rw [← hacc, someL, List.length_map, List.length_range]
  rcases Nat.lt_or_ge (2 * p) mk with hpl | hpl
  · have hnx := range_next someP p
    rw [show (List.range p).map someP = acc from hacc] at hnx
    rcases acc with _ | ⟨x, acc⟩
    · conv => whnf
      repeat' (refine Fork.dec (fun _ => ?_) (fun _ => ?_) <;> first | (exfalso; omega) | (conv => whnf))
      refine CodeS.drawT [] (.take 0 (.take 1 (.take 2 (.take 3 (.take 4 (.take 5 (.one 6 true (.one 7 true (.take 8 .done))))))))) mixed (by kernel_rfl) .nil ?_
      conv => whnf
      repeat' first | ((refine Gets.shl2 (by omega) ?_); conv => whnf) | ((refine Gets.appK0 recC (by decide) (x := someP p) rfl rfl rfl rfl rfl (by decide) rfl ?_); conv => whnf) | ((with_reducible refine Gets.shlN ?_ ?_); (· omega); conv => whnf) | ((with_reducible refine Gets.addI ?_ ?_ ?_); (· omega); (· omega); conv => whnf) | (refine Chk.mk (by repeat first | exact .nil | refine .cons rfl ?_) ?_; conv => whnf)
      exact ⟨(p + 1, [someP p]), renL [1] 2, ⟨by omega, hnx⟩, by show mk + 2 - 2 * (p + 1) < _; omega, ⟨rfl, rfl, rfl, trivial⟩, EmbL.litsN [1] rfl rfl rfl rfl .nil (.cons ⟨rfl, .inl rfl⟩ .nil)⟩
    · have e2 : (x :: (acc ++ [someP p])).length = (x :: acc).length + 1 := by simp
      conv => whnf
      repeat' (refine Fork.dec (fun _ => ?_) (fun _ => ?_) <;> first | (exfalso; omega) | (conv => whnf))
      refine CodeS.drawT [] (.take 0 (.take 1 (.take 2 (.take 3 (.take 4 (.take 5 (.one 6 true (.one 7 true (.take 8 .done))))))))) mixed (by kernel_rfl) .nil ?_
      conv => whnf
      repeat' first | ((refine Gets.shl2 (by omega) ?_); conv => whnf) | ((refine Gets.appK1 recC (by decide) (l := x :: acc) (x := someP p) rfl rfl rfl rfl rfl (by decide) rfl rfl rfl (by omega) ?_); conv => whnf) | ((with_reducible refine Gets.shlN ?_ ?_); (· omega); conv => whnf) | ((with_reducible refine Gets.addI ?_ ?_ ?_); (· omega); (· omega); conv => whnf) | (refine Chk.mk (by repeat first | exact .nil | refine .cons rfl ?_) ?_; conv => whnf)
      exact ⟨(p + 1, x :: acc ++ [someP p]), renL [2] 3, ⟨by omega, hnx⟩, by show mk + 2 - 2 * (p + 1) < _; omega, ⟨rfl, by first | exact congrArg (AVal.slice 2 0) e2 | exact congrArg (AVal.slice 2 0) e2.symm, rfl, trivial⟩, EmbL.litsN [2] rfl rfl rfl rfl .nil (.cons ⟨rfl, .cellsI⟩ .nil)⟩
  · obtain rfl : p = (mk + 1) / 2 := by omega
    rw [hacc]
    rcases acc with _ | ⟨x, acc⟩
    · conv => whnf
      repeat' (refine Fork.dec (fun _ => ?_) (fun _ => ?_) <;> first | (exfalso; omega) | (conv => whnf))
      exact ⟨[], _, rfl, .nil, rfl, rfl⟩
    · conv => whnf
      repeat' (refine Fork.dec (fun _ => ?_) (fun _ => ?_) <;> first | (exfalso; omega) | (conv => whnf))
      exact ⟨[0], _, rfl, frzK recC (l := x :: acc) rfl rfl rfl, rfl, rfl⟩
theorem eachL_pos (p : Nat) : 0 < (eachL p).length := by rw [eachL_length]; exact Nat.two_pow_pos p
theorem flat_next {α β : Type} {f : α → List β} {l : List α} {j : Nat} {x : α} (h : l[j]? = some x) : (l.take (j + 1)).flatMap f = (l.take j).flatMap f ++ f x := by
  obtain ⟨hj, rfl⟩ := List.getElem?_eq_some_iff.1 h
  rw [List.take_succ_eq_append_getElem hj, List.flatMap_append]; simp
theorem flatP_len (p : Nat) (l : List Cl) : (l.flatMap (eachP p)).length = 2 * l.length := by
  induction l with
  | nil => rfl
  | cons c l ih => rw [List.flatMap_cons, List.length_append, ih, List.length_cons]; show 2 + _ = _; omega
/-- A row, and one that grows behind it. -/
def gH1 (l acc : List Cl) : AHeap := match acc with
  | [] => emptyH.alloc (.cells 2 (ints (fl cls l)))
  | x :: acc => (emptyH.alloc (.cells 2 (ints (fl cls l)))).alloc (.cells 2 (ints (fl cls (x :: acc))))
theorem eachR (mk : Nat) (hm : mk ≤ 40) (H : AHeap) : CallW Try.prog 155 [.int .i64 (mk : Int)] H fun v H' => H' = H ∧ v = rK cls (eachL ((mk + 1) / 2)) := by
  refine CallW.pure ?_ rfl H
  refine CallW.symK (cuts := []) Try.func155 rfl (by kernel_rfl) ?_
  conv => whnf
  skip
  refine CodeS.loopGK (cuts := []) (σ := Nat) (fun p => [(0, .int .i64 (mk : Int)), (3, .slice 0 0 (eachL p).length), (4, .int .i64 ((2 * p : Nat) : Int))]) (fun p => emptyH.alloc (.cells 2 (ints (fl cls (eachL p))))) (fun p => 2 * p ≤ mk + 1) (fun p => mk + 2 - 2 * p) 0 (renL [0] 1) (by kernel_rfl) (Nat.zero_le _) ⟨rfl, rfl, rfl, trivial⟩ (EmbL.litsN [0] rfl rfl rfl rfl .nil (.cons ⟨rfl, .inl rfl⟩ .nil)) ?_
  intro p hp
  have hpos := eachL_pos p
  have hlen := eachL_length p
  rcases Nat.lt_or_ge (2 * p) mk with hpl | hpl
  · have hp20 : 2 ^ p ≤ 2 ^ 20 := Nat.pow_le_pow_right (by decide) (by omega)
    have hp40 : 2 ^ (2 * p) * 2 = 2 ^ (2 * p + 1) := (Nat.pow_succ ..).symm
    have hp41 : 2 ^ (2 * p + 1) ≤ 2 ^ 41 := Nat.pow_le_pow_right (by decide) (by omega)
    have hlt := eachL_lt p
    have hnext : eachL (p + 1) = (eachL p).flatMap (eachP p) := rfl
    generalize eachL p = l at hpos hlen hlt hnext
    conv => whnf
    repeat' first | (refine Gets.of _ rfl ?_; conv => whnf) | (refine Fork.dec (fun _ => ?_) (fun _ => ?_) <;> first | (exfalso; omega) | (conv => whnf))
    refine CodeS.loopGK (cuts := []) (σ := Nat × List Cl) (fun s => [(0, .int .i64 (mk : Int)), (4, .int .i64 ((2 * p : Nat) : Int)), (5, gK 1 cls s.2), (15, .slice 0 0 l.length), (16, .int .i64 (l.length : Int)), (17, .int .i64 (s.1 : Int))]) (fun s => gH1 l s.2) (fun s => s.1 ≤ l.length ∧ (l.take s.1).flatMap (eachP p) = s.2) (fun s => l.length - s.1) (0, []) (renL [0] 1) (by kernel_rfl) ⟨Nat.zero_le _, rfl⟩ ⟨rfl, rfl, rfl, rfl, rfl, rfl, trivial⟩ (EmbL.litsN [0] rfl rfl rfl rfl .nil (.cons ⟨rfl, .cellsI⟩ .nil)) ?_
    rintro ⟨j, acc⟩ ⟨hj, hacc⟩
    dsimp only at hj hacc ⊢
    have hal : acc.length = 2 * j := by rw [← hacc, flatP_len, List.length_take, Nat.min_eq_left hj]
    rcases Nat.lt_or_ge j l.length with hjl | hjl
    · obtain ⟨c, hc⟩ := getE hjl
      have hcl := hlt c (List.mem_of_getElem? hc)
      have hnx := flat_next (f := eachP p) hc
      rw [hacc] at hnx
      rcases acc with _ | ⟨x, acc⟩
      · conv => whnf
        repeat' first | ((refine Gets.ixE (es := 2) rfl (by kernel_rfl) hjl ?_); conv => whnf) | ((refine Gets.loadR recC (j := j) (l := l) rfl rfl rfl rfl rfl hc ?_); conv => whnf) | (refine Gets.of _ rfl ?_; conv => whnf) | (refine Fork.dec (fun _ => ?_) (fun _ => ?_) <;> first | (exfalso; omega) | (conv => whnf))
        refine CodeS.drawT [1] (.take 0 (.take 1 (.take 2 (.take 3 (.take 4 (.take 5 (.take 6 (.take 7 (.take 8 (.take 9 (.take 10 (.take 11 (.take 12 (.take 13 (.take 14 (.take 15 (.take 16 (.one 17 true (.one 18 true (.take 19 .done)))))))))))))))))))) mixed (by kernel_rfl) (.cons ⟨rfl, trivial⟩ .nil) ?_
        conv => whnf
        repeat' first | ((refine Gets.shl2 (by omega) ?_); conv => whnf) | ((refine Gets.orN (m := c.never) (by omega) (by omega) ?_); conv => whnf) | ((refine Gets.orN (m := c.again) (by omega) (by omega) ?_); conv => whnf) | ((refine Gets.appKs0 recC (by decide) (xs := eachP p c) rfl rfl rfl rfl rfl (by decide) rfl rfl (by decide) (by decide) ?_); conv => whnf) | ((with_reducible refine Gets.shlN ?_ ?_); (· omega); conv => whnf) | ((with_reducible refine Gets.addI ?_ ?_ ?_); (· omega); (· omega); conv => whnf) | (refine Gets.of _ rfl ?_; conv => whnf) | (refine Chk.mk (by repeat first | exact .nil | refine .cons rfl ?_) ?_; conv => whnf)
        exact ⟨(j + 1, eachP p c), renL [0, 3] 4, ⟨hjl, hnx⟩, by show l.length - (j + 1) < _; omega, ⟨rfl, rfl, rfl, rfl, rfl, rfl, trivial⟩, EmbL.litsN [0, 3] rfl rfl rfl rfl .nil (.cons ⟨rfl, .cellsI⟩ (.cons ⟨rfl, .inl rfl⟩ .nil))⟩
      · have e2 : (x :: (acc ++ eachP p c)).length = (x :: acc).length + 2 := by simp [eachP]
        conv => whnf
        repeat' first | ((refine Gets.ixE (es := 2) rfl (by kernel_rfl) hjl ?_); conv => whnf) | ((refine Gets.loadR recC (j := j) (l := l) rfl rfl rfl rfl rfl hc ?_); conv => whnf) | (refine Gets.of _ rfl ?_; conv => whnf) | (refine Fork.dec (fun _ => ?_) (fun _ => ?_) <;> first | (exfalso; omega) | (conv => whnf))
        refine CodeS.drawT [2] (.take 0 (.take 1 (.take 2 (.take 3 (.take 4 (.take 5 (.take 6 (.take 7 (.take 8 (.take 9 (.take 10 (.take 11 (.take 12 (.take 13 (.take 14 (.take 15 (.take 16 (.one 17 true (.one 18 true (.take 19 .done)))))))))))))))))))) mixed (by kernel_rfl) (.cons ⟨rfl, trivial⟩ .nil) ?_
        conv => whnf
        repeat' first | ((refine Gets.shl2 (by omega) ?_); conv => whnf) | ((refine Gets.orN (m := c.never) (by omega) (by omega) ?_); conv => whnf) | ((refine Gets.orN (m := c.again) (by omega) (by omega) ?_); conv => whnf) | ((refine Gets.appKs1 recC (by decide) (l := x :: acc) (xs := eachP p c) rfl rfl rfl rfl rfl (by decide) rfl rfl rfl rfl (by omega) ?_); conv => whnf) | ((with_reducible refine Gets.shlN ?_ ?_); (· omega); conv => whnf) | ((with_reducible refine Gets.addI ?_ ?_ ?_); (· omega); (· omega); conv => whnf) | (refine Gets.of _ rfl ?_; conv => whnf) | (refine Chk.mk (by repeat first | exact .nil | refine .cons rfl ?_) ?_; conv => whnf)
        exact ⟨(j + 1, x :: acc ++ eachP p c), renL [0, 4] 5, ⟨hjl, hnx⟩, by show l.length - (j + 1) < _; omega, ⟨rfl, rfl, by first | exact congrArg (AVal.slice 4 0) e2 | exact congrArg (AVal.slice 4 0) e2.symm, rfl, rfl, rfl, trivial⟩, EmbL.litsN [0, 4] rfl rfl rfl rfl .nil (.cons ⟨rfl, .cellsI⟩ (.cons ⟨rfl, .cellsI⟩ .nil))⟩
    · obtain rfl : j = l.length := by omega
      rw [List.take_length, ← hnext] at hacc
      rcases acc with _ | ⟨x, acc⟩
      · exfalso
        have := eachL_pos (p + 1)
        rw [hacc] at this
        exact absurd this (by decide)
      · conv => whnf
        repeat' first | ((with_reducible refine Gets.addI ?_ ?_ ?_); (· omega); (· omega); conv => whnf) | (refine Fork.dec (fun _ => ?_) (fun _ => ?_) <;> first | (exfalso; omega) | (conv => whnf))
        exact ⟨p + 1, renL [1] 2, by omega, by omega, ⟨rfl, congrArg (AVal.slice 1 0) (congrArg List.length hacc).symm, rfl, trivial⟩, EmbL.litsN [1] rfl rfl rfl rfl .nil (.cons ⟨rfl, .cellsIe (by rw [hacc])⟩ .nil)⟩
  · obtain rfl : p = (mk + 1) / 2 := by omega
    conv => whnf
    repeat' (refine Fork.dec (fun _ => ?_) (fun _ => ?_) <;> first | (exfalso; omega) | (conv => whnf))
    exact ⟨[0], _, rfl, frzK recC rfl rfl rfl, rfl, rfl⟩
theorem aboveR (m mk : Nat) (hmk : mk ≤ 40) (hm : m < mk) (H : AHeap) : CallW Try.prog 156 [.int .i64 (m : Int), .int .i64 (mk : Int)] H fun v H' => H' = H ∧ v = .int .i64 ((aboveN m mk : Nat) : Int) := by
  have h1 : 2 ^ mk ≤ 2 ^ 40 := Nat.pow_le_pow_right (by decide) hmk
  have h2 : 2 ^ (m + 1) ≤ 2 ^ 41 := Nat.pow_le_pow_right (by decide) (by omega)
  refine CallW.pure ?_ rfl H
  refine CallW.symK (cuts := []) Try.func156 rfl (by kernel_rfl) ?_
  conv => whnf
  skip
  refine CodeS.drawP (by kernel_rfl) (by kernel_rfl) ?_
  conv => whnf
  repeat' first | ((refine Gets.ones (by omega) ?_); conv => whnf) | ((refine Gets.shlN (i := m + 1) (by omega) ?_); conv => whnf) | ((refine Gets.minN2 (by omega) (by omega) ?_); conv => whnf) | ((with_reducible refine Gets.shlN ?_ ?_); (· omega); conv => whnf) | ((with_reducible refine Gets.addI ?_ ?_ ?_); (· omega); (· omega); conv => whnf)
  exact ⟨[], _, rfl, .same rfl, rfl, rfl⟩
end Go.Proofs.Ytaccmanpanpbiaa
