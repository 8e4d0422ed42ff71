import Derived.Test.YtaccmanpanpbiaaVmA
/- Graphs with marks: closed paths, and where they lie. Plain: no program in sight. -/
namespace Go.Vn
structure Arc where
  fr : Nat
  to : Nat
  marks : Nat
  other : Nat
  deriving DecidableEq, Inhabited
inductive Path (S : Arc → Prop) : Nat → List Arc → Nat → Prop
  | nil (i : Nat) : Path S i [] i
  | cons {a : Arc} {l : List Arc} {j : Nat} : S a → Path S a.to l j → Path S a.fr (a :: l) j
theorem Path.mono {S T : Arc → Prop} {i j : Nat} {l : List Arc} (h : Path S i l j) (hs : ∀ a ∈ l, S a → T a) : Path T i l j := by
  induction h with
  | nil i => exact .nil i
  | cons ha hp ih => exact .cons (hs _ (List.mem_cons_self ..) ha) (ih fun a h => hs a (List.mem_cons_of_mem _ h))
theorem Path.append {S : Arc → Prop} {i j k : Nat} {l m : List Arc} (h : Path S i l j) (h' : Path S j m k) : Path S i (l ++ m) k := by
  induction h with
  | nil i => exact h'
  | cons ha hp ih => exact .cons ha (ih h')
theorem Path.all {S : Arc → Prop} {i j : Nat} {l : List Arc} (h : Path S i l j) : ∀ a ∈ l, S a := by
  induction h with
  | nil i => intro a ha; cases ha
  | cons ha hp ih => intro a h; rcases List.mem_cons.1 h with rfl | h; exact ha; exact ih a h
theorem Path.split {S : Arc → Prop} {i j : Nat} {l m : List Arc} (h : Path S i (l ++ m) j) : ∃ k, Path S i l k ∧ Path S k m j := by
  induction l generalizing i with
  | nil => exact ⟨i, .nil i, h⟩
  | cons a l ih =>
    cases h with
    | cons ha hp =>
      obtain ⟨k, h1, h2⟩ := ih hp
      exact ⟨k, .cons ha h1, h2⟩
theorem Path.one {S : Arc → Prop} {a : Arc} (h : S a) : Path S a.fr [a] a.to := .cons h (.nil _)
theorem Path.nil_eq {S : Arc → Prop} {i j : Nat} (h : Path S i [] j) : i = j := by cases h; rfl
def Reach (S : Arc → Prop) (i j : Nat) : Prop := ∃ l, Path S i l j
theorem Reach.refl (S : Arc → Prop) (i : Nat) : Reach S i i := ⟨[], .nil i⟩
theorem Reach.trans {S : Arc → Prop} {i j k : Nat} (h : Reach S i j) (h' : Reach S j k) : Reach S i k := by
  obtain ⟨l, h⟩ := h
  obtain ⟨m, h'⟩ := h'
  exact ⟨l ++ m, h.append h'⟩
theorem Reach.mono {S T : Arc → Prop} {i j : Nat} (h : Reach S i j) (hs : ∀ a, S a → T a) : Reach T i j := by
  obtain ⟨l, h⟩ := h
  exact ⟨l, h.mono fun a _ => hs a⟩
theorem Reach.step {S : Arc → Prop} {a : Arc} (h : S a) : Reach S a.fr a.to := ⟨[a], .one h⟩
/-- The same component. -/
def Comp (S : Arc → Prop) (i j : Nat) : Prop := Reach S i j ∧ Reach S j i
theorem Comp.refl (S : Arc → Prop) (i : Nat) : Comp S i i := ⟨.refl S i, .refl S i⟩
theorem Comp.symm {S : Arc → Prop} {i j : Nat} (h : Comp S i j) : Comp S j i := ⟨h.2, h.1⟩
theorem Comp.trans {S : Arc → Prop} {i j k : Nat} (h : Comp S i j) (h' : Comp S j k) : Comp S i k := ⟨h.1.trans h'.1, h'.2.trans h.2⟩
/-- The arcs within the component of a node. -/
def Within (S : Arc → Prop) (i : Nat) (a : Arc) : Prop := S a ∧ Comp S i a.fr ∧ Comp S i a.to
/-- The arcs of a closed path lie within the component. -/
theorem Path.within {S : Arc → Prop} {i : Nat} {l : List Arc} (h : Path S i l i) : ∀ a ∈ l, Within S i a := by
  intro a ha
  obtain ⟨u, v, rfl⟩ := List.append_of_mem ha
  obtain ⟨k, h1, h2⟩ := h.split
  cases h2 with
  | cons hs hp =>
    exact ⟨hs, ⟨⟨u, h1⟩, ⟨a :: v, .cons hs hp⟩⟩, ⟨⟨u ++ [a], h1.append (.one hs)⟩, ⟨v, hp⟩⟩⟩
/-- There is a closed path through as many arcs of the component as one likes. -/
theorem closed_through {S : Arc → Prop} {i : Nat} : ∀ (L : List Arc), (∀ a ∈ L, Within S i a) → ∃ l, Path S i l i ∧ (∀ a ∈ L, a ∈ l) ∧ (L ≠ [] → l ≠ [])
  | [], _ => ⟨[], .nil i, fun a h => (by cases h), fun h => absurd rfl h⟩
  | a :: L, h => by
    obtain ⟨l, h1, h2, _⟩ := closed_through L fun b hb => h b (List.mem_cons_of_mem _ hb)
    obtain ⟨hs, ⟨⟨u, hu⟩, _⟩, ⟨_, ⟨v, hv⟩⟩⟩ := h a (List.mem_cons_self ..)
    refine ⟨l ++ (u ++ (a :: v)), h1.append (hu.append (.cons hs hv)), fun b hb => ?_, fun _ he => ?_⟩
    · rcases List.mem_cons.1 hb with rfl | hb
      · simp
      · exact List.mem_append_left _ (h2 b hb)
    · have : a ∈ l ++ (u ++ (a :: v)) := by simp
      rw [he] at this; cases this
def marksOf (l : List Arc) : Nat := l.foldr (fun a m => a.marks ||| m) 0
def otherOf (l : List Arc) : Nat := l.foldr (fun a m => a.other ||| m) 0
theorem marksOf_bit (l : List Arc) (b : Nat) : (marksOf l).testBit b = true ↔ ∃ a ∈ l, a.marks.testBit b = true := by
  induction l with
  | nil => simp [marksOf]
  | cons a l ih =>
    show (a.marks ||| marksOf l).testBit b = true ↔ _
    rw [Nat.testBit_or, Bool.or_eq_true, ih]
    simp
theorem otherOf_bit (l : List Arc) (b : Nat) : (otherOf l).testBit b = true ↔ ∃ a ∈ l, a.other.testBit b = true := by
  induction l with
  | nil => simp [otherOf]
  | cons a l ih =>
    show (a.other ||| otherOf l).testBit b = true ↔ _
    rw [Nat.testBit_or, Bool.or_eq_true, ih]
    simp
/-- All bits of m are bits of n. -/
def Sub (m n : Nat) : Prop := ∀ b, m.testBit b = true → n.testBit b = true
/-- No bit of both. -/
def Off (m n : Nat) : Prop := ∀ b, m.testBit b = true → n.testBit b = false
theorem off_iff {m n : Nat} : Off m n ↔ m &&& n = 0 := by
  constructor
  · intro h
    apply Nat.eq_of_testBit_eq
    intro b
    rw [Nat.testBit_and, Nat.zero_testBit]
    cases hm : m.testBit b with
    | false => rfl
    | true => rw [h b hm]; rfl
  · intro h b hb
    have : (m &&& n).testBit b = false := by rw [h, Nat.zero_testBit]
    rw [Nat.testBit_and, hb, Bool.true_and] at this
    exact this
theorem marksOf_sub {l m : List Arc} (h : ∀ a ∈ l, a ∈ m) : Sub (marksOf l) (marksOf m) := fun b hb => by
  obtain ⟨a, ha, hb⟩ := (marksOf_bit l b).1 hb
  exact (marksOf_bit m b).2 ⟨a, h a ha, hb⟩
theorem otherOf_sub {l m : List Arc} (h : ∀ a ∈ l, a ∈ m) : Sub (otherOf l) (otherOf m) := fun b hb => by
  obtain ⟨a, ha, hb⟩ := (otherOf_bit l b).1 hb
  exact (otherOf_bit m b).2 ⟨a, h a ha, hb⟩
theorem Sub.trans {m n k : Nat} (h : Sub m n) (h' : Sub n k) : Sub m k := fun b hb => h' b (h b hb)
/-- A condition: no mark of never, all marks of again; of the marks, and of the others. -/
structure Cond where
  never : Nat
  again : Nat
  never2 : Nat
  again2 : Nat
def Cond.Free (c : Cond) (arcs : List Arc) (a : Arc) : Prop := a ∈ arcs ∧ Off a.marks c.never ∧ Off a.other c.never2
/-- A closed path at i that satisfies the condition. -/
def Cycle (arcs : List Arc) (c : Cond) (i : Nat) : Prop := ∃ l, l ≠ [] ∧ Path (c.Free arcs) i l i ∧ Sub c.again (marksOf l) ∧ Sub c.again2 (otherOf l)
/-- What the components tell. -/
theorem cycle_iff (arcs : List Arc) (c : Cond) (i : Nat) (L : List Arc) (hL : ∀ a, a ∈ L ↔ Within (c.Free arcs) i a) : Cycle arcs c i ↔ L ≠ [] ∧ Sub c.again (marksOf L) ∧ Sub c.again2 (otherOf L) := by
  constructor
  · rintro ⟨l, h0, h1, h2, h3⟩
    have hin : ∀ a ∈ l, a ∈ L := fun a ha => (hL a).2 (h1.within a ha)
    refine ⟨fun he => ?_, h2.trans (marksOf_sub hin), h3.trans (otherOf_sub hin)⟩
    cases l with
    | nil => exact h0 rfl
    | cons a l => have := hin a (List.mem_cons_self ..); rw [he] at this; cases this
  · rintro ⟨h0, h1, h2⟩
    obtain ⟨l, k1, k2, k3⟩ := closed_through L fun a ha => (hL a).1 ha
    exact ⟨l, k3 h0, k1, h1.trans (marksOf_sub k2), h2.trans (otherOf_sub k2)⟩

/-! ### Streett -/
/-- Of each of the first n pairs: the first mark, or not the second. -/
def Str (n I : Nat) : Prop := ∀ p, p < n → I.testBit (2 * p + 1) = true → I.testBit (2 * p) = true
def CycleS (S : Arc → Prop) (n : Nat) (i : Nat) : Prop := ∃ l, l ≠ [] ∧ Path S i l i ∧ Str n (marksOf l)
/-- The pairs of which a set has the second mark alone, as second marks. -/
def Bad (n I m : Nat) : Prop := ∀ b, m.testBit b = true ↔ ∃ p, p < n ∧ b = 2 * p + 1 ∧ I.testBit (2 * p + 1) = true ∧ I.testBit (2 * p) = false
theorem str_bad {n I m : Nat} (h : Bad n I m) : Str n I ↔ m = 0 := by
  constructor
  · intro hs
    apply Nat.eq_of_testBit_eq
    intro b
    rw [Nat.zero_testBit]
    cases hb : m.testBit b with
    | false => rfl
    | true =>
      obtain ⟨p, hp, _, h1, h2⟩ := (h b).1 hb
      rw [hs p hp h1] at h2; cases h2
  · intro h0 p hp h1
    cases h2 : I.testBit (2 * p) with
    | true => rfl
    | false =>
      have := (h (2 * p + 1)).2 ⟨p, hp, rfl, h1, h2⟩
      rw [h0, Nat.zero_testBit] at this; cases this
theorem cycleS_iff {S : Arc → Prop} {n i m : Nat} {L : List Arc} (hL : ∀ a, a ∈ L ↔ Within S i a) (hm : Bad n (marksOf L) m) :
    CycleS S n i ↔ (L ≠ [] ∧ m = 0) ∨ (m ≠ 0 ∧ CycleS (fun a => a ∈ L ∧ Off a.marks m) n i) := by
  constructor
  · rintro ⟨l, h0, h1, h2⟩
    have hin : ∀ a ∈ l, a ∈ L := fun a ha => (hL a).2 (h1.within a ha)
    by_cases hz : m = 0
    · left
      refine ⟨fun he => ?_, hz⟩
      cases l with
      | nil => exact h0 rfl
      | cons a l => have := hin a (List.mem_cons_self ..); rw [he] at this; cases this
    · right
      refine ⟨hz, l, h0, h1.mono fun a ha _ => ⟨hin a ha, fun b hb => ?_⟩, h2⟩
      cases hmb : m.testBit b with
      | false => rfl
      | true =>
        obtain ⟨p, hp, rfl, _, h4⟩ := (hm b).1 hmb
        have h5 := h2 p hp ((marksOf_bit l _).2 ⟨a, ha, hb⟩)
        have h6 := marksOf_sub hin _ h5
        rw [h4] at h6; cases h6
  · rintro (⟨h0, hz⟩ | ⟨_, l, h0, h1, h2⟩)
    · obtain ⟨l, k1, k2, k3⟩ := closed_through L fun a ha => (hL a).1 ha
      have hs : ∀ a ∈ l, a ∈ L := fun a ha => (hL a).2 (k1.within a ha)
      refine ⟨l, k3 h0, k1, fun p hp h1 => ?_⟩
      have e1 := marksOf_sub hs _ h1
      exact marksOf_sub k2 _ ((str_bad hm).2 hz p hp e1)
    · exact ⟨l, h0, h1.mono fun a _ ha => ((hL a).1 ha.1).1, h2⟩
end Go.Vn

/- Runs over words that come round: the graph of an automaton and a word. Plain. -/
set_option linter.unusedVariables false
namespace Go.Vn
/-- The place of a position: the stem once, the loop again and again. -/
def ix (st lp p : Nat) : Nat := if p < st then p else st + (p - st) % lp
def fol (st lp k : Nat) : Nat := if k + 1 = st + lp then st else k + 1
theorem ix_lt {st lp p : Nat} (h : 0 < lp) : ix st lp p < st + lp := by
  unfold ix
  split
  · omega
  · have := Nat.mod_lt (p - st) h; omega
theorem ix_zero {st lp : Nat} (h : 0 < lp) : ix st lp 0 = 0 := by
  unfold ix
  split
  · rfl
  · have : st = 0 := by omega
    subst this
    simp
theorem ix_succ {st lp : Nat} (h : 0 < lp) (p : Nat) : ix st lp (p + 1) = fol st lp (ix st lp p) := by
  unfold ix fol
  by_cases h1 : p + 1 < st
  · rw [if_pos h1, if_pos (show p < st by omega), if_neg (by omega)]
  · rw [if_neg h1]
    by_cases h2 : p < st
    · rw [if_pos h2]
      have : p + 1 - st = 0 := by omega
      rw [this, Nat.zero_mod, if_neg (by omega)]; omega
    · rw [if_neg h2, show p + 1 - st = (p - st) + 1 by omega]
      have hm := Nat.mod_lt (p - st) h
      by_cases h3 : (p - st) % lp + 1 = lp
      · have e : (p - st + 1) % lp = 0 := by
          have := Nat.div_add_mod (p - st) lp
          rw [show p - st + 1 = 0 + lp * ((p - st) / lp + 1) by rw [Nat.mul_add]; omega, Nat.add_mul_mod_self_left, Nat.zero_mod]
        rw [e, if_pos (by omega)]; omega
      · have e : (p - st + 1) % lp = (p - st) % lp + 1 := by
          have := Nat.div_add_mod (p - st) lp
          rw [show p - st + 1 = (p - st) % lp + 1 + lp * ((p - st) / lp) by omega, Nat.add_mul_mod_self_left, Nat.mod_eq_of_lt (by omega)]
        rw [e, if_neg (by omega)]; omega
theorem ix_add {st lp p q : Nat} (h : 0 < lp) (he : ix st lp p = ix st lp q) : ∀ x, ix st lp (p + x) = ix st lp (q + x)
  | 0 => he
  | x + 1 => by rw [← Nat.add_assoc, ← Nat.add_assoc, ix_succ h, ix_succ h, ix_add h he x]
theorem ix_mul {st lp p d : Nat} (h : 0 < lp) (he : ix st lp (p + d) = ix st lp p) : ∀ m, ix st lp (p + m * d) = ix st lp p
  | 0 => by rw [Nat.zero_mul, Nat.add_zero]
  | m + 1 => by
    rw [Nat.succ_mul, show p + (m * d + d) = p + d + m * d by omega, ix_add h he (m * d)]
    exact ix_mul h he m
theorem ix_far {st lp p d : Nat} (h : st ≤ p) : ix st lp (p + lp * d) = ix st lp p := by
  unfold ix
  rw [if_neg (by omega), if_neg (by omega), show p + lp * d - st = p - st + lp * d by omega, Nat.add_mul_mod_self_left]

/-- Edges of whatever make. -/
structure Sys (α : Type) where
  fr : α → Nat
  to : α → Nat
  mks : α → Nat
variable {α : Type} (Y : Sys α)
/-- A run from a state at a position; Q e p: the edge reads what stands at position p. -/
inductive Run (es : List α) (Q : α → Nat → Prop) : Nat → Nat → List α → Nat → Prop
  | nil (s p : Nat) : Run es Q s p [] s
  | cons {e : α} {p : Nat} {l : List α} {t : Nat} : e ∈ es → Q e p → Run es Q (Y.to e) (p + 1) l t → Run es Q (Y.fr e) p (e :: l) t
variable {Y}
theorem Run.append {es : List α} {Q : α → Nat → Prop} {s p t r : Nat} {l m : List α} (h : Run Y es Q s p l t) (h' : Run Y es Q t (p + l.length) m r) : Run Y es Q s p (l ++ m) r := by
  induction h with
  | nil s p => exact h'
  | cons he hq hp ih =>
    refine .cons he hq (ih ?_)
    rwa [List.length_cons, show ∀ a b : Nat, a + (b + 1) = a + 1 + b by intros; omega] at h'
theorem Run.shift {es : List α} {Q : α → Nat → Prop} {s t : Nat} {l : List α} {p : Nat} (h : Run Y es Q s p l t) : ∀ {q : Nat}, (∀ x e, Q e (p + x) → Q e (q + x)) → Run Y es Q s q l t := by
  induction h with
  | nil s p => intro q _; exact .nil s q
  | @cons e p l t he hq hp ih =>
    intro q hx
    refine .cons he (hx 0 e hq) (ih fun x e h => ?_)
    have := hx (x + 1) e (by rwa [show p + (x + 1) = p + 1 + x by omega])
    rwa [show q + (x + 1) = q + 1 + x by omega] at this
theorem Run.map {β : Type} {Z : Sys β} {es : List α} {fs : List β} {Q : α → Nat → Prop} {R : β → Nat → Prop} (f : α → β) (hf : ∀ e ∈ es, f e ∈ fs ∧ Z.fr (f e) = Y.fr e ∧ Z.to (f e) = Y.to e ∧ ∀ p, Q e p → R (f e) p) {s p t : Nat} {l : List α} (h : Run Y es Q s p l t) : Run Z fs R s p (l.map f) t := by
  induction h with
  | nil s p => exact .nil s p
  | @cons e p l t he hq hp ih =>
    obtain ⟨h1, h2, h3, h4⟩ := hf e he
    rw [← h2]
    refine .cons h1 (h4 p hq) ?_
    rw [h3]
    exact ih
def marksE (Y : Sys α) (l : List α) : Nat := l.foldr (fun e m => Y.mks e ||| m) 0
theorem marksE_append (l m : List α) : marksE Y (l ++ m) = marksE Y l ||| marksE Y m := by
  induction l with
  | nil => show _ = 0 ||| _; rw [Nat.zero_or]; rfl
  | cons e l ih => show Y.mks e ||| marksE Y (l ++ m) = _; rw [ih, ← Nat.or_assoc]; rfl
theorem marksE_map {β : Type} {Z : Sys β} (f : α → β) (l : List α) (h : ∀ e ∈ l, Z.mks (f e) = Y.mks e) : marksE Z (l.map f) = marksE Y l := by
  induction l with
  | nil => rfl
  | cons e l ih =>
    show Z.mks (f e) ||| marksE Z (l.map f) = Y.mks e ||| marksE Y l
    rw [h e (List.mem_cons_self ..), ih fun e he => h e (List.mem_cons_of_mem _ he)]
/-- A run goes on for ever by the same edges again and again, and their marks are right. -/
def Lasso (Y : Sys α) (es : List α) (Q : α → Nat → Prop) (start : Nat → Prop) (ok : Nat → Prop) : Prop :=
  ∃ s u q v, start s ∧ v ≠ [] ∧ Run Y es Q s 0 u q ∧ (∀ m, Run Y es Q q (u.length + m * v.length) v q) ∧ ok (marksE Y v)
/-- Edges told by others: every run of the ones is a run of the others. -/
theorem Lasso.map {β : Type} {Z : Sys β} {es : List α} {fs : List β} {Q : α → Nat → Prop} {R : β → Nat → Prop} {start ok : Nat → Prop} (f : α → β)
    (hf : ∀ e ∈ es, f e ∈ fs ∧ Z.fr (f e) = Y.fr e ∧ Z.to (f e) = Y.to e ∧ ∀ p, Q e p → R (f e) p) (hm : ∀ e, Z.mks (f e) = Y.mks e) (h : Lasso Y es Q start ok) : Lasso Z fs R start ok := by
  obtain ⟨s, u, q, v, h1, h2, h3, h4, h5⟩ := h
  refine ⟨s, u.map f, q, v.map f, h1, fun h => h2 (List.map_eq_nil_iff.1 h), h3.map f hf, fun m => ?_, by rw [marksE_map f v fun e _ => hm e]; exact h5⟩
  rw [List.length_map, List.length_map]
  exact (h4 m).map f hf
/-- The graph: node s * n + k is state s at place k. -/
def IsProd (Y : Sys α) (es : List α) (R : α → Nat → Prop) (st lp : Nat) (arcs : List Arc) : Prop :=
  ∀ a, a ∈ arcs ↔ ∃ e k, e ∈ es ∧ k < st + lp ∧ R e k ∧ a = ⟨Y.fr e * (st + lp) + k, Y.to e * (st + lp) + fol st lp k, Y.mks e, 0⟩
theorem node_inj {n s t i j : Nat} (hi : i < n) (hj : j < n) (h : s * n + i = t * n + j) : s = t ∧ i = j := by
  have hn : 0 < n := by omega
  have h1 : (s * n + i) / n = s := by rw [Nat.mul_comm, Nat.mul_add_div hn, Nat.div_eq_of_lt hi, Nat.add_zero]
  have h2 : (t * n + j) / n = t := by rw [Nat.mul_comm, Nat.mul_add_div hn, Nat.div_eq_of_lt hj, Nat.add_zero]
  have : s = t := by rw [← h1, ← h2, h]
  subst this
  exact ⟨rfl, by omega⟩
theorem run_of_path {es : List α} {R : α → Nat → Prop} {st lp : Nat} {arcs : List Arc} (hl : 0 < lp) (hP : IsProd Y es R st lp arcs) {i j : Nat} {l : List Arc} (h : Path (· ∈ arcs) i l j) :
    ∀ {s p : Nat}, i = s * (st + lp) + ix st lp p → ∃ m t, Run Y es (fun e q => R e (ix st lp q)) s p m t ∧ j = t * (st + lp) + ix st lp (p + m.length) ∧ m.length = l.length ∧ marksE Y m = marksOf l := by
  induction h with
  | nil i => intro s p hi; exact ⟨[], s, .nil s p, hi, rfl, rfl⟩
  | @cons a l j ha hp ih =>
    intro s p hi
    obtain ⟨e, k, he, hk, hr, rfl⟩ := (hP a).1 ha
    obtain ⟨h1, h2⟩ := node_inj hk (ix_lt hl) hi
    subst h1; subst h2
    obtain ⟨m, t, g1, g2, g3, g4⟩ := ih (s := Y.to e) (p := p + 1) (by rw [ix_succ hl])
    refine ⟨e :: m, t, .cons he hr g1, ?_, by simp [g3], ?_⟩
    · rw [g2, List.length_cons, show p + 1 + m.length = p + (m.length + 1) by omega]
    · show Y.mks e ||| marksE Y m = Y.mks e ||| marksOf l
      rw [g4]
theorem path_of_run {es : List α} {R : α → Nat → Prop} {st lp : Nat} {arcs : List Arc} (hl : 0 < lp) (hP : IsProd Y es R st lp arcs) {s p t : Nat} {m : List α} (h : Run Y es (fun e q => R e (ix st lp q)) s p m t) :
    ∃ l, Path (· ∈ arcs) (s * (st + lp) + ix st lp p) l (t * (st + lp) + ix st lp (p + m.length)) ∧ m.length = l.length ∧ marksE Y m = marksOf l := by
  induction h with
  | nil s p => exact ⟨[], .nil _, rfl, rfl⟩
  | @cons e p m t he hq hp ih =>
    obtain ⟨l, h1, h2, h3⟩ := ih
    have ha := (hP _).2 ⟨e, ix st lp p, he, ix_lt hl, hq, rfl⟩
    rw [ix_succ hl, show p + 1 + m.length = p + (m.length + 1) by omega] at h1
    refine ⟨_, .cons ha h1, by simp [h2], ?_⟩
    show Y.mks e ||| marksE Y m = Y.mks e ||| marksOf l
    rw [h3]
/-- A list, so many times. -/
def times (v : List α) : Nat → List α
  | 0 => []
  | m + 1 => times v m ++ v
theorem times_length (v : List α) : ∀ m, (times v m).length = m * v.length
  | 0 => by simp [times]
  | m + 1 => by rw [times, List.length_append, times_length v m, Nat.succ_mul]
theorem times_marks (v : List α) : ∀ m, 0 < m → marksE Y (times v m) = marksE Y v
  | 0, h => absurd h (Nat.lt_irrefl 0)
  | 1, _ => by show marksE Y ([] ++ v) = _; rw [List.nil_append]
  | m + 2, _ => by rw [times, marksE_append, times_marks v (m + 1) (Nat.succ_pos m), Nat.or_self]
theorem times_run {es : List α} {Q : α → Nat → Prop} {q p : Nat} {v : List α} (h : ∀ m, Run Y es Q q (p + m * v.length) v q) (A : Nat) : ∀ m, Run Y es Q q (p + A * v.length) (times v m) q
  | 0 => .nil _ _
  | m + 1 => by
    refine (times_run h A m).append ?_
    have := h (A + m)
    rwa [Nat.add_mul, ← Nat.add_assoc, ← times_length v m] at this
/-- **The graph of an automaton and a word that comes round: a closed path that can be reached is a run that goes on for ever.** -/
theorem lasso_iff {es : List α} {R : α → Nat → Prop} {st lp : Nat} {arcs : List Arc} {start ok : Nat → Prop} (hl : 0 < lp) (hP : IsProd Y es R st lp arcs) :
    (∃ s, start s ∧ ∃ j, Reach (· ∈ arcs) (s * (st + lp)) j ∧ ∃ l, l ≠ [] ∧ Path (· ∈ arcs) j l j ∧ ok (marksOf l)) ↔ Lasso Y es (fun e q => R e (ix st lp q)) start ok := by
  constructor
  · rintro ⟨s, hs, j, ⟨l0, h0⟩, l, hne, h1, hok⟩
    obtain ⟨u, q, a1, a2, a3, a4⟩ := run_of_path (Y := Y) hl hP h0 (s := s) (p := 0) (by rw [ix_zero hl, Nat.add_zero])
    rw [Nat.zero_add] at a2
    obtain ⟨v, t, b1, b2, b3, b4⟩ := run_of_path (Y := Y) hl hP h1 (s := q) (p := u.length) a2
    rw [a2] at b2
    obtain ⟨c1, c2⟩ := node_inj (ix_lt hl) (ix_lt hl) b2
    subst c1
    refine ⟨s, u, q, v, hs, fun he => hne (List.eq_nil_of_length_eq_zero (by rw [← b3, he]; rfl)), a1, fun m => ?_, by rw [b4]; exact hok⟩
    refine b1.shift fun x e hr => ?_
    have e1 := ix_mul hl c2.symm m
    have := ix_add hl e1 x
    show R e (ix st lp (u.length + m * v.length + x))
    rw [this]; exact hr
  · rintro ⟨s, u, q, v, hs, hne, h1, h2, hok⟩
    have hv : 0 < v.length := List.length_pos_iff.2 hne
    have r1 := times_run (p := u.length) h2 0 st
    rw [Nat.zero_mul, Nat.add_zero] at r1
    have r2 : Run Y es (fun e q => R e (ix st lp q)) s 0 (u ++ times v st) q := h1.append (by rw [Nat.zero_add]; exact r1)
    have r3 := times_run (p := u.length) h2 st lp
    obtain ⟨l0, p1, _, _⟩ := path_of_run hl hP r2
    obtain ⟨l, p2, p3, p4⟩ := path_of_run hl hP r3
    rw [ix_zero hl, Nat.add_zero, Nat.zero_add, List.length_append, times_length] at p1
    rw [times_length] at p2 p3
    have hfar : ix st lp (u.length + st * v.length + lp * v.length) = ix st lp (u.length + st * v.length) := ix_far (by
      have : st * 1 ≤ st * v.length := Nat.mul_le_mul_left _ hv
      omega)
    rw [hfar] at p2
    refine ⟨s, hs, _, ⟨l0, p1⟩, l, fun he => ?_, p2, by rw [← p4, times_marks v lp hl]; exact hok⟩
    rw [he] at p3
    have : lp * v.length = 0 := p3
    have := Nat.mul_pos hl hv
    omega
end Go.Vn

/- Rows of records of numbers, of any make. -/
set_option linter.unusedVariables false
set_option linter.unusedSimpArgs false
namespace Go.Vk
open Go.Vh
variable {P : Program} {α : Type}
/-- Records of k numbers. -/
structure Rec (f : α → List Int) (k : Nat) : Prop where
  len : ∀ x, (f x).length = k
def fl (f : α → List Int) (l : List α) : List Int := l.flatMap f
def rK (f : α → List Int) (l : List α) : AVal := .row l.length (ints (fl f l))
def kvK (f : α → List Int) (x : α) : AVal := .agg (ints (f x))
variable {f : α → List Int} {k : Nat}
theorem fl_append (l m : List α) : fl f (l ++ m) = fl f l ++ fl f m := List.flatMap_append
theorem fl_length (hr : Rec f k) (l : List α) : (fl f l).length = l.length * k := by
  induction l with
  | nil => simp [fl]
  | cons a l ih => show (f a ++ fl f l).length = _; rw [List.length_append, ih, hr.len, List.length_cons, Nat.succ_mul]; omega
theorem ints_fl_length (hr : Rec f k) (l : List α) : (ints (fl f l)).length = l.length * k := by rw [ints, List.length_map, fl_length hr]
theorem fl_cells (hr : Rec f k) : ∀ {l : List α} {j : Nat} {x : α}, l[j]? = some x → ((fl f l).drop (j * k)).take k = f x
  | [], j, x, h => by simp at h
  | a :: l, 0, x, h => by
    obtain rfl : a = x := by simpa using h
    rw [Nat.zero_mul, List.drop_zero]
    show (f a ++ fl f l).take k = f a
    exact (List.take_append_of_le_length (by rw [hr.len]; exact Nat.le_refl _)).trans (List.take_of_length_le (by rw [hr.len]; exact Nat.le_refl _))
  | a :: l, j + 1, x, h => by
    have := fl_cells hr (l := l) (j := j) (x := x) (by simpa using h)
    have e : (fl f (a :: l)).drop ((j + 1) * k) = (fl f l).drop (j * k) := by
      show (f a ++ fl f l).drop _ = _
      rw [List.drop_append, List.drop_of_length_le (by rw [hr.len, Nat.succ_mul]; omega), List.nil_append, hr.len, Nat.succ_mul, Nat.add_sub_cancel]
    rw [e]; exact this
theorem ints_fl_cells (hr : Rec f k) {l : List α} {j : Nat} {x : α} (h : l[j]? = some x) : ((ints (fl f l)).drop (j * k)).take k = ints (f x) := by
  have : ((ints (fl f l)).drop (j * k)).take k = ints (((fl f l).drop (j * k)).take k) := by simp [ints, List.map_take, List.map_drop]
  rw [this, fl_cells hr h]
/-- A record out of a row. -/
theorem Gets.ldRK (hr : Rec f k) {H : AHeap} {t : TypeId} {ti : TI} {off j : Nat} {l : List α} {x : α} {A : AVal → Prop} (ht : tinfo P t = some ti) (hag : ti.agg = true) (hsz : ti.size = k) (ho : off = j * k) (h : l[j]? = some x) (hA : A (kvK f x)) : Gets (loadA P H t (.rptr (ints (fl f l)) off)) A := by
  subst ho
  refine Gets.ldR ht ?_ hA
  have hj : j < l.length := (List.getElem?_eq_some_iff.1 h).1
  unfold rload
  rw [hag, if_pos rfl, hsz, if_pos (by
    rw [ints_fl_length hr]
    have := Nat.mul_le_mul_right k hj
    rw [Nat.succ_mul] at this
    exact this), ints_fl_cells hr h]
  rfl
/-- One more record behind a row of one's own. -/
theorem Gets.appK1 (hr : Rec f k) (hk : 0 < k) {H : AHeap} {t tx : TypeId} {ti : TI} {d : TypeDesc} {i j m : Nat} {l : List α} {x : α} {A : AVal × AHeap → Prop} (ht : sliceT P t = some ti) (hd : P.underlying tx = some d) (hrow : rowD d = true) (hsz : ti.size = k) (hz : ti.zero.length = k) (hb : ti.bytes ≤ 4096)
    (hi : H.f i = .cells k (ints (fl f l))) (hx : H.f j = .cells k (ints (f x))) (hl : m = l.length) (hm : m < 4294967296) (hA : A (.slice H.n 0 (m + 1), (H.set i .dead).alloc (.cells k (ints (fl f (l ++ [x])))))) :
    Gets (builtA P H .append [t, tx] [.slice i 0 m, .slice j 0 1]) A := by
  subst hl
  refine Gets.appG (n := 1) (xs := ints (f x)) ht hd hrow hsz hz hb hi ?_ (by rw [ints_fl_length hr]; omega) (by omega) (nums_scalar _ _) ?_
  · have hl1 : (ints (f x)).length = k := by rw [ints, List.length_map, hr.len]
    simp only [srcA, hx, Nat.one_mul, Nat.zero_add, hl1, Nat.le_refl, and_self, if_true, List.drop_zero]
    rw [List.take_of_length_le (by rw [hl1]; exact Nat.le_refl _)]
  · have : (ints (fl f l)).take (l.length * k) ++ ints (f x) = ints (fl f (l ++ [x])) := by
      rw [List.take_of_length_le (by rw [ints_fl_length hr]; exact Nat.le_refl _), fl_append]; simp [ints, fl]
    rw [this]; exact hA
theorem Gets.appK0 (hr : Rec f k) (hk : 0 < k) {H : AHeap} {t tx : TypeId} {ti : TI} {d : TypeDesc} {j : Nat} {x : α} {A : AVal × AHeap → Prop} (ht : sliceT P t = some ti) (hd : P.underlying tx = some d) (hrow : rowD d = true) (hsz : ti.size = k) (hz : ti.zero.length = k) (hb : ti.bytes ≤ 4096)
    (hx : H.f j = .cells k (ints (f x))) (hA : A (.slice H.n 0 1, H.alloc (.cells k (ints (fl f [x]))))) : Gets (builtA P H .append [t, tx] [.nilSlice, .slice j 0 1]) A := by
  refine ⟨⟨_, ?_, hA⟩⟩
  simp only [builtA, apureB, amemB, app2 hd hrow, aappend, ht, hd]
  have hl1 : (ints (f x)).length = k := by rw [ints, List.length_map, hr.len]
  have hs : srcA H k (.slice j 0 1) = some (ints (f x), 1) := by
    simp only [srcA, hx, Nat.one_mul, Nat.zero_add, hl1, Nat.le_refl, and_self, if_true, List.drop_zero]
    rw [List.take_of_length_le (by rw [hl1]; exact Nat.le_refl _)]
  rw [if_pos ⟨hrow, hb, by rw [hz, hsz]⟩]
  simp only [hsz, hs]
  rw [if_neg (by decide), if_pos (by decide)]
  simp [fl, ints]
theorem frzK (hr : Rec f k) {H : AHeap} {ks : List Nat} {i n : Nat} {l : List α} (hi : ks.contains i = true) (hf : H.f i = .cells k (ints (fl f l))) (hn : n = l.length) : Frz H ks (.slice i 0 n) (rK f l) := by
  subst hn
  exact .slice hi hf (by rw [ints_fl_length hr]; omega) (by rw [List.drop_zero, List.take_of_length_le (by rw [ints_fl_length hr]; omega)]; exact .same (clos_ints _))
/-- A row of records that grows from nothing. -/
def gK (i : Nat) (f : α → List Int) (l : List α) : AVal := match l with
  | [] => .nilSlice
  | x :: l => .slice i 0 (x :: l).length
def gKB (k : Nat) (f : α → List Int) (l : List α) : ABlk := match l with
  | [] => .ro 1 []
  | x :: l => .cells k (ints (fl f (x :: l)))
/-! ### Bits that are not of another -/
def minusN (m n : Nat) : Nat := m ^^^ (m &&& n)
theorem minusN_bit (m n i : Nat) : (minusN m n).testBit i = (m.testBit i && !n.testBit i) := by
  unfold minusN
  rw [Nat.testBit_xor, Nat.testBit_and]
  cases m.testBit i <;> cases n.testBit i <;> rfl
theorem minusN_lt {m n k : Nat} (h : m < 2 ^ k) : minusN m n < 2 ^ k := Nat.xor_lt_two_pow h (Nat.lt_of_le_of_lt Nat.and_le_left h)
theorem minusI {m n : Nat} (hm : m < 2 ^ 63) (hn : n < 2 ^ 63) : bitsA .andNot .i64 (m : Int) (n : Int) = ((minusN m n : Nat) : Int) := by
  show IntKind.wrap .i64 ((BitVec.ofInt 64 (m : Int) &&& ~~~(BitVec.ofInt 64 (n : Int))).toNat : Int) = _
  have e : (BitVec.ofInt 64 (m : Int) &&& ~~~(BitVec.ofInt 64 (n : Int))).toNat = minusN m n := by
    apply Nat.eq_of_testBit_eq
    intro i
    rw [minusN_bit, BitVec.testBit_toNat]
    by_cases hi : i < 64
    · simp only [BitVec.getLsbD_and, BitVec.getLsbD_not, hi, decide_true, Bool.true_and, ofInt_nat, BitVec.getLsbD_ofNat]
    · have h1 : m.testBit i = false := Nat.testBit_lt_two_pow (Nat.lt_of_lt_of_le hm (Nat.pow_le_pow_right (by decide) (by omega)))
      rw [BitVec.getLsbD_of_ge _ _ (by omega), h1]; rfl
  rw [e, wrap_i64n (minusN_lt hm)]
theorem minus_zero {m n : Nat} : minusN m n = 0 ↔ Go.Vn.Sub m n := by
  constructor
  · intro h b hb
    have := minusN_bit m n b
    rw [h, Nat.zero_testBit, hb, Bool.true_and] at this
    cases hn : n.testBit b with
    | true => rfl
    | false => rw [hn] at this; cases this
  · intro h
    apply Nat.eq_of_testBit_eq
    intro b
    rw [minusN_bit, Nat.zero_testBit]
    cases hm : m.testBit b with
    | false => rfl
    | true => rw [h b hm]; rfl
/-! ### A row of truth values that is made anew from the front -/
def bl2 (n : Nat) (p q : Nat → Bool) (i : Nat) : List Bool := (List.range n).map fun x => if x < i then p x else q x
theorem bl2_length (n : Nat) (p q : Nat → Bool) (i : Nat) : (bl2 n p q i).length = n := by simp [bl2]
theorem bl2_get {n : Nat} {p q : Nat → Bool} {i x : Nat} (h : x < n) : (bl2 n p q i)[x]? = some (if x < i then p x else q x) := by
  simp [bl2, h]
theorem bl2_set {n : Nat} {p q : Nat → Bool} {i : Nat} (h : i < n) : (bl2 n p q i).set i (p i) = bl2 n p q (i + 1) := by
  apply List.ext_getElem?
  intro x
  rw [List.getElem?_set, bl2_length]
  by_cases hx : i = x
  · subst hx
    rw [if_pos rfl, if_pos h, bl2_get h, if_pos (by omega)]
  · rw [if_neg hx]
    rcases Nat.lt_or_ge x n with hn | hn
    · rw [bl2_get hn, bl2_get hn]
      congr 1
      by_cases h1 : x < i
      · rw [if_pos h1, if_pos (by omega)]
      · rw [if_neg h1, if_neg (by omega)]
    · rw [List.getElem?_eq_none (by rw [bl2_length]; exact hn), List.getElem?_eq_none (by rw [bl2_length]; exact hn)]
theorem bl2_zero {n : Nat} {p q : Nat → Bool} : bl2 n p q 0 = (List.range n).map q := by
  unfold bl2
  exact List.map_congr_left fun x _ => if_neg (Nat.not_lt_zero x)
theorem bl2_all {n : Nat} {p q : Nat → Bool} : bl2 n p q n = (List.range n).map p := by
  unfold bl2
  exact List.map_congr_left fun x hx => if_pos (List.mem_range.1 hx)
end Go.Vk

/- Rows that grow within a row of rows, behind two blocks and the row of rows. -/
set_option linter.unusedVariables false
set_option linter.unusedSimpArgs false
namespace Go.Vk
open Go.Vh
variable {P : Program}
/-- A block that names no number. -/
def Clean (A : ABlk) : Prop := ∀ κ : Nat → Nat, renB κ A = A
theorem clean_ints (es : Nat) (l : List Int) : Clean (.cells es (ints l)) := fun κ => by rw [renB, rens_ints]
theorem clean_bls (es : Nat) (l : List Bool) : Clean (.cells es (bls l)) := fun κ => by
  rw [renB, rens_map]
  congr 1
  show (bls l).map (ren κ) = bls l
  rw [bls, List.map_map]; rfl
def G3 (A B : ABlk) (es b : Nat) (rows : List (List Int)) : AHeap := ((emptyH.alloc A).alloc B).alloc (.cells 1 (rowVg (fun s => b + s) es rows))
def G4 (A B : ABlk) (es : Nat) (rows : List (List Int)) (z : ABlk) : AHeap := (G3 A B es 4 rows).alloc z
theorem G3_0 (A B : ABlk) (es b : Nat) (rows : List (List Int)) : (G3 A B es b rows).f 0 = A := rfl
theorem G3_1 (A B : ABlk) (es b : Nat) (rows : List (List Int)) : (G3 A B es b rows).f 1 = B := rfl
theorem G3_2 (A B : ABlk) (es b : Nat) (rows : List (List Int)) : (G3 A B es b rows).f 2 = .cells 1 (rowVg (fun s => b + s) es rows) := rfl
variable {A B z : ABlk} (hA : Clean A) (hB : Clean B)
theorem rows_at {G : AHeap} {es : Nat} {rows : List (List Int)} {s : Nat} {x : Int} {l : List Int} (h : rows[s]? = some (x :: l)) : (rowsAt G es rows).f (G.n + s) = .cells es (ints (x :: l)) := by
  show (if G.n + s < G.n then _ else rowBlk es rows[G.n + s - G.n]?) = _
  rw [if_neg (by omega), Nat.add_sub_cancel_left, h]; rfl
/-- A new block behind the rows gets a number ahead of them. -/
theorem nest_pull (hA : Clean A) (hB : Clean B) (hz : Clean z) (es : Nat) (rows : List (List Int)) (z0 : ABlk) : EmbL 0 (rk [0, 1, 2, 3 + rows.length] (fun s => 3 + s) rows.length (4 + rows.length)) (rowsAt (G4 A B es rows z) es rows) (((rowsAt (G3 A B es 3 rows) es rows).alloc z0).set (3 + rows.length) z) := by
  have hn4 : (rowsAt (G3 A B es 3 rows) es rows).n = 3 + rows.length := rfl
  generalize hH : AHeap.set _ _ _ = H1
  have hHn : H1.n = 4 + rows.length := by rw [← hH]; show 3 + rows.length + 1 = _; omega
  have hHf : ∀ i, i ≠ 3 + rows.length → H1.f i = (rowsAt (G3 A B es 3 rows) es rows).f i := by
    intro i hi
    rw [← hH, set_f, if_neg hi, alloc_f, hn4, if_neg hi]
  have hHe : H1.f (3 + rows.length) = z := by rw [← hH, set_f, if_pos rfl]
  refine (Emb.rows (n0 := 0) (G := G4 A B es rows z) (rows := rows) [0, 1, 2, 3 + rows.length] (fun s => 3 + s) hHn rfl (Nat.zero_le _) (by simp; omega) (fun i hi => absurd hi (Nat.not_lt_zero i)) (fun i k hk => ?_) (fun s hs => by show 3 + s < _; omega) (fun s x l h => ?_) (fun s t x l y m h h' hst => by omega)).toL
  · rcases i with _ | _ | _ | _ | i
    · cases hk; exact ⟨by omega, by rw [hHf 0 (by omega)]; exact .inl (hA _).symm⟩
    · cases hk; exact ⟨by omega, by rw [hHf 1 (by omega)]; exact .inl (hB _).symm⟩
    · cases hk
      refine ⟨by omega, ?_⟩
      rw [hHf 2 (by omega)]
      refine .inl ?_
      show ABlk.cells 1 (rowVg _ es rows) = renB _ (.cells 1 (rowVg _ es rows))
      rw [renB, rens_rowVg]
      congr 1
      refine rowVg_congr fun s x l h => ?_
      have hs : s < rows.length := (List.getElem?_eq_some_iff.1 h).1
      exact (rk_row (ks := [0, 1, 2, 3 + rows.length]) hs).symm
    · cases hk; exact ⟨by omega, by rw [hHe]; exact .inl (hz _).symm⟩
    · simp at hk
  · have hs : s < rows.length := (List.getElem?_eq_some_iff.1 h).1
    refine ⟨by simp; omega, ?_⟩
    rw [hHf _ (by omega)]
    exact rows_at (G := G3 A B es 3 rows) h
/-- The block ahead of the rows is forgotten. -/
theorem nest_pop (hA : Clean A) (hB : Clean B) (es : Nat) (rows : List (List Int)) (z : ABlk) : EmbL 0 (rk [0, 1, 2] (fun s => 4 + s) rows.length (4 + rows.length)) (rowsAt (G3 A B es 3 rows) es rows) (rowsAt (G4 A B es rows z) es rows) := by
  refine (Emb.rows (n0 := 0) (G := G3 A B es 3 rows) (H := rowsAt (G4 A B es rows z) es rows) (rows := rows) [0, 1, 2] (fun s => 4 + s) (m := 4 + rows.length) rfl rfl (Nat.zero_le _) (by decide) (fun i hi => absurd hi (Nat.not_lt_zero i)) (fun i k hk => ?_) (fun s hs => by show 4 + s < _; omega) (fun s x l h => ?_) (fun s t x l y m h h' hst => by omega)).toL
  · rcases i with _ | _ | _ | i
    · cases hk; exact ⟨by omega, .inl (hA _).symm⟩
    · cases hk; exact ⟨by omega, .inl (hB _).symm⟩
    · cases hk
      refine ⟨by omega, .inl ?_⟩
      show ABlk.cells 1 (rowVg _ es rows) = renB _ (.cells 1 (rowVg _ es rows))
      rw [renB, rens_rowVg]
      congr 1
      refine rowVg_congr fun s x l h => ?_
      have hs : s < rows.length := (List.getElem?_eq_some_iff.1 h).1
      exact (rk_row (ks := [0, 1, 2]) hs).symm
    · simp at hk
  · refine ⟨by simp; omega, ?_⟩
    exact rows_at (G := G4 A B es rows z) h
theorem set_rowN {rows : List (List Int)} {s : Nat} {r : List Int} (hs : s < rows.length) (t : Nat) : (rows.set s r)[t]? = if t = s then some r else rows[t]? := by
  rw [List.getElem?_set]
  by_cases h : s = t
  · subst h; simp [hs]
  · rw [if_neg h, if_neg (fun h' => h h'.symm)]
/-- A row with more behind it; the block ahead of the rows, and what was put behind, are forgotten. -/
theorem nest_push (hA : Clean A) (hB : Clean B) (es : Nat) (rows : List (List Int)) (z : ABlk) (s : Nat) (hs : s < rows.length) (r : List Int) (y : Int) (l : List Int) (z1 : ABlk) (H' : AHeap) (hH' : (r = [] ∧ H' = (rowsAt (G4 A B es rows z) es rows).alloc z1) ∨ (r ≠ [] ∧ H' = ((rowsAt (G4 A B es rows z) es rows).alloc z1).set (4 + s) .dead)) :
    EmbL 0 (rk [0, 1, 2] (fun t => if t = s then 4 + rows.length + 1 else 4 + t) rows.length (6 + rows.length)) (rowsAt (G3 A B es 3 (rows.set s (y :: l))) es (rows.set s (y :: l)))
      ((H'.alloc (.cells es (ints (y :: l)))).set 2 (.cells 1 ((rowVg (fun t => 4 + t) es rows).set s (.slice (4 + rows.length + 1) 0 ((y :: l).length / es))))) := by
  have hn5 : (rowsAt (G4 A B es rows z) es rows).n = 4 + rows.length := rfl
  have hn' : H'.n = 4 + rows.length + 1 := by rcases hH' with ⟨_, rfl⟩ | ⟨_, rfl⟩ <;> rfl
  have hf' : ∀ i, i < 4 + rows.length → i ≠ 4 + s → H'.f i = (rowsAt (G4 A B es rows z) es rows).f i := by
    intro i h1 h2
    rcases hH' with ⟨_, rfl⟩ | ⟨_, rfl⟩
    · rw [alloc_f, hn5, if_neg (by omega)]
    · rw [set_f, if_neg h2, alloc_f, hn5, if_neg (by omega)]
  generalize hH : AHeap.set _ _ _ = H3
  have hHn : H3.n = 6 + rows.length := by rw [← hH]; show H'.n + 1 = _; omega
  have hHf : ∀ i, i < 4 + rows.length → i ≠ 2 → i ≠ 4 + s → H3.f i = (rowsAt (G4 A B es rows z) es rows).f i := by
    intro i h1 h2 h3
    rw [← hH, set_f, if_neg h2, alloc_f, hn', if_neg (by omega), hf' i h1 h3]
  have hH2 : H3.f 2 = .cells 1 ((rowVg (fun t => 4 + t) es rows).set s (.slice (4 + rows.length + 1) 0 ((y :: l).length / es))) := by rw [← hH, set_f, if_pos rfl]
  have hHw : H3.f (4 + rows.length + 1) = .cells es (ints (y :: l)) := by rw [← hH, set_f, if_neg (by omega), alloc_f, hn', if_pos rfl]
  have hlen : (rows.set s (y :: l)).length = rows.length := by simp
  have := (Emb.rows (n0 := 0) (es := es) (G := G3 A B es 3 (rows.set s (y :: l))) (H := H3) (rows := rows.set s (y :: l)) [0, 1, 2] (fun t => if t = s then 4 + rows.length + 1 else 4 + t) hHn rfl (Nat.zero_le _) (by decide) (fun i hi => absurd hi (Nat.not_lt_zero i)) (fun i k hk => ?_) (fun t ht => ?_) (fun t x m h => ?_) (fun t u x m y' m' h h' htu => ?_)).toL
  · rwa [hlen] at this
  · rw [hlen]
    rcases i with _ | _ | _ | i
    · cases hk; exact ⟨by omega, by rw [hHf 0 (by omega) (by omega) (by omega)]; exact .inl (hA _).symm⟩
    · cases hk; exact ⟨by omega, by rw [hHf 1 (by omega) (by omega) (by omega)]; exact .inl (hB _).symm⟩
    · cases hk
      refine ⟨by omega, ?_⟩
      rw [hH2]
      refine .inl ?_
      show _ = renB _ (.cells 1 (rowVg _ es (rows.set s (y :: l))))
      rw [renB, rens_rowVg, rowVg_set]
      congr 1
      refine rowVg_congr fun t x m h => ?_
      have ht : t < rows.length := by have := (List.getElem?_eq_some_iff.1 h).1; rwa [hlen] at this
      exact (rk_row (ks := [0, 1, 2]) (g := fun t => if t = s then 4 + rows.length + 1 else 4 + t) ht).symm
    · simp at hk
  · rw [hlen] at ht
    split <;> omega
  · have ht : t < rows.length := by have := (List.getElem?_eq_some_iff.1 h).1; rwa [hlen] at this
    refine ⟨by simp; split <;> omega, ?_⟩
    rw [set_rowN hs] at h
    split
    · rename_i hts
      rw [if_pos hts] at h
      cases h
      exact hHw
    · rename_i hts
      rw [if_neg hts] at h
      rw [hHf _ (by omega) (by omega) (by omega)]
      exact rows_at (G := G4 A B es rows z) h
  · have ht : t < rows.length := by have := (List.getElem?_eq_some_iff.1 h).1; rwa [hlen] at this
    have hu : u < rows.length := by have := (List.getElem?_eq_some_iff.1 h').1; rwa [hlen] at this
    split <;> split <;> omega
/-- The start: rows that are all empty. -/
theorem nest_start (hA : Clean A) (hB : Clean B) (es n : Nat) : EmbL 0 (rk [0, 1, 2] (fun _ => 0) n 3) (rowsAt (G3 A B es 3 (List.replicate n [])) es (List.replicate n [])) (((emptyH.alloc A).alloc B).alloc (.cells 1 (List.replicate n .nilSlice))) := by
  have hnil : ∀ (s : Nat) (x : Int) (l : List Int), (List.replicate n ([] : List Int))[s]? ≠ some (x :: l) := by
    intro s x l h
    rw [List.getElem?_replicate] at h
    split at h <;> cases h
  have := (Emb.rows (n0 := 0) (es := es) (G := G3 A B es 3 (List.replicate n [])) (H := ((emptyH.alloc A).alloc B).alloc (.cells 1 (List.replicate n .nilSlice))) (rows := List.replicate n []) [0, 1, 2] (fun _ => 0) (m := 3) rfl rfl (Nat.zero_le _) (by decide) (fun i hi => absurd hi (Nat.not_lt_zero i)) (fun i k hk => ?_) (fun s hs => by show 0 < 3; decide) (fun s x l h => absurd h (hnil s x l)) (fun s t x l y m h => absurd h (hnil s x l))).toL
  · rwa [List.length_replicate] at this
  · rcases i with _ | _ | _ | i
    · cases hk; exact ⟨by decide, .inl (hA _).symm⟩
    · cases hk; exact ⟨by decide, .inl (hB _).symm⟩
    · cases hk
      refine ⟨by decide, .inl ?_⟩
      show ABlk.cells 1 _ = renB _ (.cells 1 (rowVg _ es (List.replicate n [])))
      rw [renB, rens_rowVg]
      congr 1
      apply List.ext_getElem?
      intro s
      rw [rowVg_get, List.getElem?_replicate, List.getElem?_replicate]
      split <;> rfl
    · simp at hk
/-! ### The whole told as a row of rows -/
/-- The numbers of the rows that are not empty. -/
def ksN (rows : List (List Int)) : Nat → Nat → List Nat
  | _, 0 => []
  | s, m + 1 => match rows[s]? with
    | some (_ :: _) => (3 + s) :: ksN rows (s + 1) m
    | _ => ksN rows (s + 1) m
theorem ksN_mem {rows : List (List Int)} {k : Nat} : ∀ (m s : Nat), k ∈ ksN rows s m → ∃ t x l, s ≤ t ∧ k = 3 + t ∧ rows[t]? = some (x :: l)
  | 0, s, h => by cases h
  | m + 1, s, h => by
    unfold ksN at h
    split at h
    · rename_i x l hr
      rcases List.mem_cons.1 h with rfl | h
      · exact ⟨s, x, l, Nat.le_refl s, rfl, hr⟩
      · obtain ⟨t, y, l', h1, h2, h3⟩ := ksN_mem m (s + 1) h
        exact ⟨t, y, l', by omega, h2, h3⟩
    · obtain ⟨t, y, l', h1, h2, h3⟩ := ksN_mem m (s + 1) h
      exact ⟨t, y, l', by omega, h2, h3⟩
theorem ksN_all {rows : List (List Int)} {t : Nat} {x : Int} {l : List Int} (hr : rows[t]? = some (x :: l)) : ∀ (m s : Nat), s ≤ t → t < s + m → 3 + t ∈ ksN rows s m
  | 0, s, h1, h2 => by omega
  | m + 1, s, h1, h2 => by
    unfold ksN
    rcases Nat.eq_or_lt_of_le h1 with rfl | h3
    · rw [hr]; exact List.mem_cons_self ..
    · have := ksN_all hr m (s + 1) h3 (by omega)
      split
      · exact List.mem_cons_of_mem _ this
      · exact this
theorem ksN_cells {H : AHeap} {es : Nat} {rows : List (List Int)} (h : ∀ t x l, rows[t]? = some (x :: l) → H.f (3 + t) = .cells es (ints (x :: l))) : ∀ (m s : Nat), ksCells H (ksN rows s m) = true
  | 0, s => rfl
  | m + 1, s => by
    unfold ksN
    split
    · rename_i x l hr
      simp only [ksCells, Bool.and_eq_true]
      refine ⟨⟨by rw [h s x l hr]; rfl, ?_⟩, ksN_cells h m (s + 1)⟩
      cases hc : (ksN rows (s + 1) m).contains (3 + s) with
      | false => rfl
      | true =>
        have hm : 3 + s ∈ ksN rows (s + 1) m := by simpa using hc
        obtain ⟨t, _, _, h1, h2, _⟩ := ksN_mem m (s + 1) hm
        omega
    · exact ksN_cells h m (s + 1)
/-- A row of rows of records of es numbers. -/
def rN (es : Nat) (rows : List (List Int)) : AVal := rR (rows.map fun l => .row (l.length / es) (ints l))
theorem frz_nest (A B : ABlk) {es : Nat} (hes : 0 < es) {rows : List (List Int)} (hd : ∀ l ∈ rows, l.length % es = 0) {n : Nat} (hn : n = rows.length) :
    ksCells (rowsAt (G3 A B es 3 rows) es rows) (2 :: ksN rows 0 rows.length) = true ∧ Frz (rowsAt (G3 A B es 3 rows) es rows) (2 :: ksN rows 0 rows.length) (.slice 2 0 n) (rN es rows) := by
  subst hn
  have hrow : ∀ t x l, rows[t]? = some (x :: l) → (rowsAt (G3 A B es 3 rows) es rows).f (3 + t) = .cells es (ints (x :: l)) := fun t x l h => rows_at (G := G3 A B es 3 rows) h
  have h2 : (rowsAt (G3 A B es 3 rows) es rows).f 2 = .cells 1 (rowVg (fun s => 3 + s) es rows) := rfl
  constructor
  · simp only [ksCells, Bool.and_eq_true]
    refine ⟨⟨by rw [h2]; rfl, ?_⟩, ksN_cells hrow _ _⟩
    cases hc : (ksN rows 0 rows.length).contains 2 with
    | false => rfl
    | true =>
      have hm : 2 ∈ ksN rows 0 rows.length := by simpa using hc
      obtain ⟨t, _, _, _, h, _⟩ := ksN_mem _ _ hm
      omega
  · have key : ∀ (L : List AVal) (M : List AVal), L.length = M.length → (∀ (t : Nat) v u, L[t]? = some v → M[t]? = some u → Frz (rowsAt (G3 A B es 3 rows) es rows) (2 :: ksN rows 0 rows.length) v u) → FrzL (rowsAt (G3 A B es 3 rows) es rows) (2 :: ksN rows 0 rows.length) L M := by
      intro L
      induction L with
      | nil => intro M h _; cases M with
        | nil => exact .same rfl
        | cons _ _ => simp at h
      | cons v L ih =>
        intro M h hf
        cases M with
        | nil => simp at h
        | cons u M => exact .cons (hf 0 v u rfl rfl) (ih M (by simpa using h) fun t v u h1 h2 => hf (t + 1) v u (by simpa using h1) (by simpa using h2))
    have hfl := key (rowVg (fun s => 3 + s) es rows) (rows.map fun l => .row (l.length / es) (ints l)) (by rw [rowVg_length, List.length_map]) fun t v u h1 h2 => by
      rw [rowVg_get] at h1
      rw [List.getElem?_map] at h2
      cases hr : rows[t]? with
      | none => rw [hr] at h1; cases h1
      | some l =>
        rw [hr] at h1 h2
        cases h1; cases h2
        cases l with
        | nil => show Frz _ _ .nilSlice (.row (0 / es) (ints [])); rw [Nat.zero_div]; exact .nil
        | cons x l =>
          have ht : t < rows.length := (List.getElem?_eq_some_iff.1 hr).1
          have hm : 3 + t ∈ ksN rows 0 rows.length := ksN_all hr _ _ (Nat.zero_le _) (by omega)
          have hlen : (x :: l).length / es * es = (x :: l).length := Nat.div_mul_cancel (Nat.dvd_of_mod_eq_zero (hd _ (List.mem_of_getElem? hr)))
          exact .slice (es := es) (cs := ints (x :: l)) (by simpa using .inr hm) (hrow t x l hr) (by rw [Nat.zero_add, hlen, ints, List.length_map]; exact Nat.le_refl _) (by rw [List.drop_zero, hlen, List.take_of_length_le (by rw [ints, List.length_map]; exact Nat.le_refl _)]; exact .same (clos_ints _))
    have e : rN es rows = .row rows.length (rows.map fun l => .row (l.length / es) (ints l)) := by unfold rN rR; rw [List.length_map]
    rw [e]
    exact .slice (es := 1) (by simp) h2 (by rw [rowVg_length]; omega) (by rw [List.drop_zero, List.take_of_length_le (by rw [rowVg_length]; omega)]; exact hfl)
theorem killL_n : ∀ (ks : List Nat) (H : AHeap), (killL H ks).n = H.n
  | [], H => rfl
  | k :: ks, H => by show (killL (H.set k .dead) ks).n = H.n; rw [killL_n ks]; rfl
theorem killL_f {i : Nat} : ∀ (ks : List Nat) (H : AHeap), i ∉ ks → (killL H ks).f i = H.f i
  | [], H, _ => rfl
  | k :: ks, H, h => by
    show (killL (H.set k .dead) ks).f i = H.f i
    rw [killL_f ks _ fun hm => h (List.mem_cons_of_mem _ hm), set_f, if_neg fun he => h (by rw [he]; exact List.mem_cons_self ..)]
/-- The rows are told as a value; one block is kept. -/
theorem nest_keep (A B : ABlk) (hB : Clean B) (es : Nat) (rows : List (List Int)) : EmbL 0 (renL [1] (3 + rows.length)) (emptyH.alloc B) (killL (rowsAt (G3 A B es 3 rows) es rows) (2 :: ksN rows 0 rows.length)) := by
  have h1 : (1 : Nat) ∉ 2 :: ksN rows 0 rows.length := by
    intro h
    rcases List.mem_cons.1 h with h | h
    · omega
    · obtain ⟨t, _, _, _, h, _⟩ := ksN_mem _ _ h
      omega
  refine EmbL.litsN [1] (by rw [killL_n]; rfl) rfl rfl rfl .nil (.cons ⟨Nat.ble_eq_true_of_le (by show 2 ≤ 3 + rows.length; omega), ?_⟩ .nil)
  rw [show renL [1] (3 + rows.length) 0 = 1 from rfl, killL_f _ _ h1]
  exact .inl (hB _).symm
variable {N n0 : Nat} {ρ : Option Nat}
theorem CodeS.frzRe (cuts : List Nat) (ks : List Nat) (el0 el : List (Nat × AVal)) (G : AHeap) (κ : Nat → Nat) {c : Code} {e : Env} {H : AHeap} {K : Exit → Env → AHeap → Prop} (hok : okCode N c = true) (hks : ksCells H ks = true) (hf : ∀ p ∈ el0, Frz H ks (e p.1) p.2) (hk : keepsR κ el (updL e el0)) (hE : EmbL n0 κ G (killL H ks))
    (h : sc P N ρ n0 cuts c (envOf el) G K) : CodeS P N ρ n0 c e H K := ⟨CWF.frz ks el0 hks hf (CWF.gcL hE (keepsR_spec _ hk) (sc_sound c _ _ _ hok h))⟩
end Go.Vk

/- How kinds accept, and conditions in disjunctive normal form. Plain. -/
set_option linter.unusedVariables false
set_option linter.unusedSimpArgs false
namespace Go.Vn
open Go.Vk
/-- How a kind with so many marks accepts what is met again and again. -/
def AccK (kind : Int) (mk I : Nat) : Prop :=
  if kind = 0 then I.testBit 0 = true
  else if kind = 1 then ∀ b, b < mk → I.testBit b = true
  else if kind = 2 then I.testBit 0 = false
  else if kind = 3 then ¬ Str ((mk + 1) / 2) I
  else if kind = 4 then Str ((mk + 1) / 2) I
  else ∃ m, m < mk ∧ m % 2 = 0 ∧ I.testBit m = true ∧ ∀ b, m < b → b < mk → I.testBit b = false
structure Cl where
  never : Nat
  again : Nat
  deriving DecidableEq, Inhabited
def Cl.Sat (c : Cl) (I : Nat) : Prop := Off I c.never ∧ Sub c.again I
def SatL (l : List Cl) (I : Nat) : Prop := ∃ c ∈ l, c.Sat I
theorem off_pow {I b : Nat} : Off I (2 ^ b) ↔ I.testBit b = false := by
  constructor
  · intro h
    cases hb : I.testBit b with
    | false => rfl
    | true => have := h b hb; rw [Nat.testBit_two_pow_self] at this; cases this
  · intro h c hc
    rw [Nat.testBit_two_pow, decide_eq_false_iff_not]
    rintro rfl
    rw [h] at hc; cases hc
theorem sub_pow {I b : Nat} : Sub (2 ^ b) I ↔ I.testBit b = true := by
  constructor
  · intro h; exact h b (Nat.testBit_two_pow_self ..)
  · intro h c hc
    rw [Nat.testBit_two_pow, decide_eq_true_iff] at hc
    rw [← hc]; exact h
theorem off_zero (I : Nat) : Off I 0 := off_iff.2 (Nat.and_zero _)
theorem sub_zero (I : Nat) : Sub 0 I := fun b hb => by rw [Nat.zero_testBit] at hb; cases hb
theorem off_or {I m n : Nat} : Off I (m ||| n) ↔ Off I m ∧ Off I n := by
  constructor
  · intro h
    refine ⟨fun b hb => ?_, fun b hb => ?_⟩ <;> have := h b hb <;> rw [Nat.testBit_or, Bool.or_eq_false_iff] at this
    · exact this.1
    · exact this.2
  · rintro ⟨h1, h2⟩ b hb
    rw [Nat.testBit_or, h1 b hb, h2 b hb]; rfl
theorem sub_or {I m n : Nat} : Sub (m ||| n) I ↔ Sub m I ∧ Sub n I := by
  constructor
  · intro h
    refine ⟨fun b hb => h b ?_, fun b hb => h b ?_⟩ <;> rw [Nat.testBit_or, hb]
    · rfl
    · exact Bool.or_true _
  · rintro ⟨h1, h2⟩ b hb
    rw [Nat.testBit_or, Bool.or_eq_true] at hb
    rcases hb with hb | hb
    · exact h1 b hb
    · exact h2 b hb
theorem sub_ones {I mk : Nat} : Sub (2 ^ mk - 1) I ↔ ∀ b, b < mk → I.testBit b = true := by
  constructor
  · intro h b hb; exact h b (by rw [Nat.testBit_two_pow_sub_one]; exact decide_eq_true hb)
  · intro h b hb
    rw [Nat.testBit_two_pow_sub_one, decide_eq_true_iff] at hb
    exact h b hb
theorem off_ones {I mk : Nat} : Off I (2 ^ mk - 1) ↔ ∀ b, b < mk → I.testBit b = false := by
  constructor
  · intro h b hb
    cases hc : I.testBit b with
    | false => rfl
    | true => have := h b hc; rw [Nat.testBit_two_pow_sub_one, decide_eq_false_iff_not] at this; exact absurd hb this
  · intro h b hb
    rw [Nat.testBit_two_pow_sub_one, decide_eq_false_iff_not]
    intro hlt
    rw [h b hlt] at hb; cases hb
/-- Some pair. -/
def someP (p : Nat) : Cl := ⟨2 ^ (2 * p), 2 ^ (2 * p + 1)⟩
def someL (n : Nat) : List Cl := (List.range n).map someP
theorem satL_some (n I : Nat) : SatL (someL n) I ↔ ¬ Str n I := by
  constructor
  · rintro ⟨c, hc, h1, h2⟩ hs
    obtain ⟨p, hp, rfl⟩ := List.mem_map.1 hc
    have h1 : I.testBit (2 * p) = false := off_pow.1 h1
    have h2 : I.testBit (2 * p + 1) = true := sub_pow.1 h2
    rw [hs p (List.mem_range.1 hp) h2] at h1; cases h1
  · intro h
    apply Classical.byContradiction
    intro hn
    apply h
    intro p hp h1
    cases h2 : I.testBit (2 * p) with
    | true => rfl
    | false => exact absurd ⟨someP p, List.mem_map.2 ⟨p, List.mem_range.2 hp, rfl⟩, off_pow.2 h2, sub_pow.2 h1⟩ hn
/-- Each pair. -/
def eachP (p : Nat) (c : Cl) : List Cl := [⟨c.never ||| 2 ^ (2 * p + 1), c.again⟩, ⟨c.never, c.again ||| 2 ^ (2 * p)⟩]
def eachL : Nat → List Cl
  | 0 => [⟨0, 0⟩]
  | p + 1 => (eachL p).flatMap (eachP p)
theorem satL_each (n I : Nat) : SatL (eachL n) I ↔ Str n I := by
  induction n with
  | zero => exact ⟨fun _ p hp => absurd hp (Nat.not_lt_zero p), fun _ => ⟨⟨0, 0⟩, List.mem_singleton.2 rfl, off_zero I, sub_zero I⟩⟩
  | succ n ih =>
    have hs : Str (n + 1) I ↔ Str n I ∧ (I.testBit (2 * n + 1) = true → I.testBit (2 * n) = true) := by
      constructor
      · intro h; exact ⟨fun p hp => h p (by omega), h n (Nat.lt_succ_self n)⟩
      · rintro ⟨h1, h2⟩ p hp
        rcases Nat.lt_or_ge p n with h | h
        · exact h1 p h
        · obtain rfl : p = n := by omega
          exact h2
    rw [hs, ← ih]
    constructor
    · rintro ⟨c, hc, h1, h2⟩
      obtain ⟨d, hd, hc⟩ := List.mem_flatMap.1 hc
      rcases List.mem_cons.1 hc with rfl | hc
      · obtain ⟨h3, h4⟩ := off_or.1 h1
        exact ⟨⟨d, hd, h3, h2⟩, fun h => by rw [off_pow.1 h4] at h; cases h⟩
      · rw [List.mem_singleton] at hc
        subst hc
        obtain ⟨h3, h4⟩ := sub_or.1 h2
        exact ⟨⟨d, hd, h1, h3⟩, fun _ => sub_pow.1 h4⟩
    · rintro ⟨⟨d, hd, h1, h2⟩, h3⟩
      cases hb : I.testBit (2 * n + 1) with
      | false => exact ⟨_, List.mem_flatMap.2 ⟨d, hd, List.mem_cons_self ..⟩, off_or.2 ⟨h1, off_pow.2 hb⟩, h2⟩
      | true => exact ⟨_, List.mem_flatMap.2 ⟨d, hd, List.mem_cons_of_mem _ (List.mem_singleton.2 rfl)⟩, h1, sub_or.2 ⟨h2, sub_pow.2 (h3 hb)⟩⟩
theorem eachL_length (n : Nat) : (eachL n).length = 2 ^ n := by
  induction n with
  | zero => rfl
  | succ n ih =>
    have : ∀ l : List Cl, (l.flatMap (eachP n)).length = 2 * l.length := fun l => by
      induction l with
      | nil => rfl
      | cons c l ih => rw [List.flatMap_cons, List.length_append, ih, List.length_cons]; show 2 + _ = _; omega
    rw [eachL, this, ih, Nat.pow_succ]; omega
/-- The marks above one. -/
def aboveN (m mk : Nat) : Nat := minusN (2 ^ mk - 1) (2 ^ (m + 1) - 1)
theorem off_above {I m mk : Nat} : Off I (aboveN m mk) ↔ ∀ b, m < b → b < mk → I.testBit b = false := by
  have hb : ∀ b, (aboveN m mk).testBit b = (decide (b < mk) && !decide (b < m + 1)) := fun b => by
    rw [aboveN, minusN_bit, Nat.testBit_two_pow_sub_one, Nat.testBit_two_pow_sub_one]
  constructor
  · intro h b h1 h2
    cases hc : I.testBit b with
    | false => rfl
    | true =>
      have := h b hc
      rw [hb, decide_eq_true h2, decide_eq_false (by omega)] at this
      cases this
  · intro h b hc
    rw [hb]
    by_cases h1 : b < mk
    · by_cases h2 : b < m + 1
      · rw [decide_eq_true h2]; simp
      · rw [h b (by omega) h1] at hc; cases hc
    · rw [decide_eq_false h1]; rfl
def topP (mk m : Nat) : Cl := ⟨aboveN m mk, 2 ^ m⟩
/-- The greatest mark is even, or odd. -/
def topL (mk r n : Nat) : List Cl := ((List.range n).filter fun m => decide (m % 2 = r)).map (topP mk)
theorem satL_top (mk r I : Nat) : SatL (topL mk r mk) I ↔ ∃ m, m < mk ∧ m % 2 = r ∧ I.testBit m = true ∧ ∀ b, m < b → b < mk → I.testBit b = false := by
  constructor
  · rintro ⟨c, hc, h1, h2⟩
    obtain ⟨m, hm, rfl⟩ := List.mem_map.1 hc
    obtain ⟨h3, h4⟩ := List.mem_filter.1 hm
    exact ⟨m, List.mem_range.1 h3, of_decide_eq_true h4, sub_pow.1 h2, off_above.1 h1⟩
  · rintro ⟨m, h1, h2, h3, h4⟩
    exact ⟨topP mk m, List.mem_map.2 ⟨m, List.mem_filter.2 ⟨List.mem_range.2 h1, decide_eq_true h2⟩, rfl⟩, off_above.2 h4, sub_pow.2 h3⟩
def noneP (m : Nat) : Cl := ⟨2 ^ m, 0⟩
def noneL (n : Nat) : List Cl := (List.range n).map noneP
/-- A kind's condition, or the other one, as ways. -/
def waysL (kind : Int) (mk : Nat) (yes : Bool) : List Cl :=
  if kind = 0 ∨ kind = 2 then (if yes = decide (kind = 0) then [⟨0, 1⟩] else [⟨1, 0⟩])
  else if kind = 1 then (if yes = true then [⟨0, 2 ^ mk - 1⟩] else noneL mk)
  else if kind = 3 ∨ kind = 4 then (if yes = decide (kind = 3) then someL ((mk + 1) / 2) else eachL ((mk + 1) / 2))
  else (if yes = true then [] else [⟨2 ^ mk - 1, 0⟩]) ++ topL mk (if yes = true then 0 else 1) mk
theorem satL_one {c : Cl} {I : Nat} : SatL [c] I ↔ c.Sat I := ⟨fun ⟨d, hd, h⟩ => by rw [← List.mem_singleton.1 hd]; exact h, fun h => ⟨c, List.mem_singleton.2 rfl, h⟩⟩
theorem satL_append {l m : List Cl} {I : Nat} : SatL (l ++ m) I ↔ SatL l I ∨ SatL m I := by
  constructor
  · rintro ⟨c, hc, h⟩
    rcases List.mem_append.1 hc with hc | hc
    · exact .inl ⟨c, hc, h⟩
    · exact .inr ⟨c, hc, h⟩
  · rintro (⟨c, hc, h⟩ | ⟨c, hc, h⟩)
    · exact ⟨c, List.mem_append_left _ hc, h⟩
    · exact ⟨c, List.mem_append_right _ hc, h⟩
theorem satL_none (mk I : Nat) : SatL (noneL mk) I ↔ ¬ ∀ b, b < mk → I.testBit b = true := by
  constructor
  · rintro ⟨c, hc, h1, _⟩ h
    obtain ⟨m, hm, rfl⟩ := List.mem_map.1 hc
    have h1 : I.testBit m = false := off_pow.1 h1
    rw [h m (List.mem_range.1 hm)] at h1; cases h1
  · intro h
    apply Classical.byContradiction
    intro hn
    apply h
    intro b hb
    cases hc : I.testBit b with
    | true => rfl
    | false => exact absurd ⟨noneP b, List.mem_map.2 ⟨b, List.mem_range.2 hb, rfl⟩, off_pow.2 hc, sub_zero I⟩ hn
/-- The greatest mark of a set, or there is none. -/
theorem top_or (I : Nat) : ∀ mk, (∀ b, b < mk → I.testBit b = false) ∨ ∃ m, m < mk ∧ I.testBit m = true ∧ ∀ b, m < b → b < mk → I.testBit b = false
  | 0 => .inl fun b hb => absurd hb (Nat.not_lt_zero b)
  | mk + 1 => by
    cases hc : I.testBit mk with
    | true => exact .inr ⟨mk, Nat.lt_succ_self mk, hc, fun b h1 h2 => by omega⟩
    | false =>
      rcases top_or I mk with h | ⟨m, h1, h2, h3⟩
      · left
        intro b hb
        rcases Nat.lt_or_ge b mk with h4 | h4
        · exact h b h4
        · obtain rfl : b = mk := by omega
          exact hc
      · refine .inr ⟨m, by omega, h2, fun b h4 h5 => ?_⟩
        rcases Nat.lt_or_ge b mk with h6 | h6
        · exact h3 b h4 h6
        · obtain rfl : b = mk := by omega
          exact hc
theorem top_uniq {I mk m m' : Nat} (h1 : m < mk) (h2 : I.testBit m = true) (h3 : ∀ b, m < b → b < mk → I.testBit b = false) (h1' : m' < mk) (h2' : I.testBit m' = true) (h3' : ∀ b, m' < b → b < mk → I.testBit b = false) : m = m' := by
  rcases Nat.lt_trichotomy m m' with h | h | h
  · rw [h3 m' h h1'] at h2'; cases h2'
  · exact h
  · rw [h3' m h h1] at h2; cases h2
/-- **The ways of a kind are how it accepts; those of its opposite, how it does not.** -/
theorem satL_ways (kind : Int) (mk : Nat) (yes : Bool) (I : Nat) : SatL (waysL kind mk yes) I ↔ (AccK kind mk I ↔ yes = true) := by
  have z0 : Cl.Sat ⟨0, 1⟩ I ↔ I.testBit 0 = true := by
    show Off I 0 ∧ Sub (2 ^ 0) I ↔ _
    rw [sub_pow]; exact ⟨fun h => h.2, fun h => ⟨off_zero I, h⟩⟩
  have z1 : Cl.Sat ⟨1, 0⟩ I ↔ I.testBit 0 = false := by
    show Off I (2 ^ 0) ∧ Sub 0 I ↔ _
    rw [off_pow]; exact ⟨fun h => h.1, fun h => ⟨h, sub_zero I⟩⟩
  unfold waysL AccK
  by_cases h0 : kind = 0
  · subst h0
    rw [if_pos (.inl rfl), if_pos rfl]
    cases yes
    · rw [if_neg (by decide), satL_one, z1]; cases I.testBit 0 <;> simp
    · rw [if_pos (by decide), satL_one, z0]; simp
  by_cases h2 : kind = 2
  · subst h2
    rw [if_pos (.inr rfl), if_neg (show ¬ (2 : Int) = 0 by decide), if_neg (show ¬ (2 : Int) = 1 by decide), if_pos rfl]
    cases yes
    · rw [if_pos (by decide), satL_one, z0]; cases I.testBit 0 <;> simp
    · rw [if_neg (by decide), satL_one, z1]; simp
  rw [if_neg (by omega), if_neg h0]
  by_cases h1 : kind = 1
  · subst h1
    rw [if_pos rfl, if_pos rfl]
    cases yes
    · rw [if_neg (by decide), satL_none]; simp
    · rw [if_pos rfl, satL_one]
      show Off I 0 ∧ Sub (2 ^ mk - 1) I ↔ _
      rw [sub_ones]
      exact ⟨fun h => ⟨fun _ => rfl, fun _ => h.2⟩, fun h => ⟨off_zero I, h.2 rfl⟩⟩
  rw [if_neg h1, if_neg h1, if_neg h2]
  by_cases h3 : kind = 3
  · subst h3
    rw [if_pos (.inl rfl), if_pos rfl]
    cases yes
    · rw [if_neg (by decide), satL_each]; simp
    · rw [if_pos (by decide), satL_some]; simp
  by_cases h4 : kind = 4
  · subst h4
    rw [if_pos (.inr rfl), if_neg (show ¬ (4 : Int) = 3 by decide), if_pos rfl]
    cases yes
    · rw [if_pos (by decide), satL_some]; simp
    · rw [if_neg (by decide), satL_each]; simp
  rw [if_neg (by omega), if_neg h3, if_neg h4, satL_append]
  cases yes
  · rw [if_neg (by decide), if_neg (by decide), satL_one, satL_top]
    show (Off I (2 ^ mk - 1) ∧ Sub 0 I) ∨ _ ↔ _
    rw [off_ones]
    constructor
    · rintro (⟨h, _⟩ | ⟨m, g1, g2, g3, g4⟩)
      · refine ⟨fun ⟨m, g1, _, g3, _⟩ => ?_, fun h => by cases h⟩
        rw [h m g1] at g3; cases g3
      · refine ⟨fun ⟨m', g1', g2', g3', g4'⟩ => ?_, fun h => by cases h⟩
        have := top_uniq g1 g3 g4 g1' g3' g4'
        omega
    · intro h
      rcases top_or I mk with h5 | ⟨m, g1, g2, g3⟩
      · exact .inl ⟨h5, sub_zero I⟩
      · rcases Nat.mod_two_eq_zero_or_one m with h6 | h6
        · exact absurd (h.1 ⟨m, g1, h6, g2, g3⟩) (by decide)
        · exact .inr ⟨m, g1, h6, g2, g3⟩
  · rw [if_pos rfl, if_pos rfl, satL_top]
    constructor
    · rintro (⟨c, hc, _⟩ | h)
      · cases hc
      · exact ⟨fun _ => rfl, fun _ => h⟩
    · intro h; exact .inr (h.2 rfl)
/-- The ways are small numbers. -/
theorem pow_le60 {m k : Nat} (h : m ≤ k) : 2 ^ m ≤ 2 ^ k := Nat.pow_le_pow_right (by decide) h
theorem eachL_lt : ∀ (n : Nat) (c : Cl), c ∈ eachL n → c.never < 2 ^ (2 * n) ∧ c.again < 2 ^ (2 * n)
  | 0, c, h => by
    rw [List.mem_singleton.1 h]; exact ⟨by decide, by decide⟩
  | n + 1, c, h => by
    obtain ⟨d, hd, hc⟩ := List.mem_flatMap.1 h
    obtain ⟨h1, h2⟩ := eachL_lt n d hd
    have e1 : 2 ^ (2 * n) ≤ 2 ^ (2 * (n + 1)) := pow_le60 (by omega)
    have e2 : 2 ^ (2 * n) < 2 ^ (2 * (n + 1)) := Nat.pow_lt_pow_right (by decide) (by omega)
    have e3 : 2 ^ (2 * n + 1) < 2 ^ (2 * (n + 1)) := Nat.pow_lt_pow_right (by decide) (by omega)
    rcases List.mem_cons.1 hc with rfl | hc
    · exact ⟨Nat.or_lt_two_pow (by omega) e3, by show d.again < _; omega⟩
    · rw [List.mem_singleton] at hc
      subst hc
      exact ⟨by show d.never < _; omega, Nat.or_lt_two_pow (by omega) e2⟩
theorem waysL_lt (kind : Int) {mk : Nat} (yes : Bool) (hm : mk ≤ 40) : ∀ c ∈ waysL kind mk yes, c.never < 2 ^ 62 ∧ c.again < 2 ^ 62 := by
  have e1 : 2 ^ mk ≤ 2 ^ 40 := pow_le60 hm
  have hsome : ∀ c ∈ someL ((mk + 1) / 2), c.never < 2 ^ 62 ∧ c.again < 2 ^ 62 := fun c hc => by
    obtain ⟨p, hp, rfl⟩ := List.mem_map.1 hc
    have hp := List.mem_range.1 hp
    exact ⟨Nat.pow_lt_pow_right (by decide) (by omega), Nat.pow_lt_pow_right (by decide) (by omega)⟩
  have heach : ∀ c ∈ eachL ((mk + 1) / 2), c.never < 2 ^ 62 ∧ c.again < 2 ^ 62 := fun c hc => by
    have h := eachL_lt _ c hc
    have e2 : 2 ^ (2 * ((mk + 1) / 2)) ≤ 2 ^ 42 := pow_le60 (by omega)
    omega
  have htop : ∀ r, ∀ c ∈ topL mk r mk, c.never < 2 ^ 62 ∧ c.again < 2 ^ 62 := fun r c hc => by
    obtain ⟨m, hm1, rfl⟩ := List.mem_map.1 hc
    have hm2 := List.mem_range.1 (List.mem_filter.1 hm1).1
    refine ⟨minusN_lt (by omega), Nat.pow_lt_pow_right (by decide) (by omega)⟩
  have hnone : ∀ c ∈ noneL mk, c.never < 2 ^ 62 ∧ c.again < 2 ^ 62 := fun c hc => by
    obtain ⟨p, hp, rfl⟩ := List.mem_map.1 hc
    have hp := List.mem_range.1 hp
    exact ⟨Nat.pow_lt_pow_right (by decide) (by omega), by show 0 < _; decide⟩
  intro c hc
  unfold waysL at hc
  split at hc
  · split at hc <;> (rw [List.mem_singleton.1 hc]; exact ⟨by decide, by decide⟩)
  · split at hc
    · split at hc
      · rw [List.mem_singleton.1 hc]; exact ⟨by show 0 < 2 ^ 62; decide, by show 2 ^ mk - 1 < _; omega⟩
      · exact hnone c hc
    · split at hc
      · split at hc
        · exact hsome c hc
        · exact heach c hc
      · rcases List.mem_append.1 hc with hc | hc
        · split at hc
          · cases hc
          · rw [List.mem_singleton.1 hc]; exact ⟨by show 2 ^ mk - 1 < _; omega, by show 0 < 2 ^ 62; decide⟩
        · exact htop _ c hc
theorem waysL_length (kind : Int) {mk : Nat} (yes : Bool) (hm : mk ≤ 40) : (waysL kind mk yes).length ≤ 2 ^ ((mk + 1) / 2) + 41 := by
  have hp : (mk + 1) / 2 < 2 ^ ((mk + 1) / 2) := Nat.lt_two_pow_self
  have hf : ∀ r, (topL mk r mk).length ≤ mk := fun r => by
    unfold topL
    rw [List.length_map]
    exact Nat.le_trans (List.length_filter_le _ _) (by rw [List.length_range]; exact Nat.le_refl _)
  unfold waysL
  split
  · split <;> simp
  · split
    · split
      · simp
      · unfold noneL; rw [List.length_map, List.length_range]; omega
    · split
      · split
        · unfold someL; rw [List.length_map, List.length_range]; omega
        · rw [eachL_length]; omega
      · rw [List.length_append]
        have h1 : (if yes = true then ([] : List Cl) else [⟨2 ^ mk - 1, 0⟩]).length ≤ 1 := by split <;> simp
        have h2 := hf (if yes = true then 0 else 1)
        omega
end Go.Vn

/- Rows of records: several put behind at once. -/
set_option linter.unusedVariables false
set_option linter.unusedSimpArgs false
namespace Go.Vk
open Go.Vh
variable {P : Program} {α : Type} {f : α → List Int} {k : Nat}
/-- Some more records behind a row of one's own. -/
theorem Gets.appKs1 (hr : Rec f k) (hk : 0 < k) {H : AHeap} {t tx : TypeId} {ti : TI} {d : TypeDesc} {i j m n : Nat} {l xs : List α} {A : AVal × AHeap → Prop} (ht : sliceT P t = some ti) (hd : P.underlying tx = some d) (hrow : rowD d = true) (hsz : ti.size = k) (hz : ti.zero.length = k) (hb : ti.bytes ≤ 4096)
    (hi : H.f i = .cells k (ints (fl f l))) (hx : H.f j = .cells k (ints (fl f xs))) (hl : m = l.length) (hn : n = xs.length) (hm : m + n ≤ 4294967296) (hA : A (.slice H.n 0 (m + n), (H.set i .dead).alloc (.cells k (ints (fl f (l ++ xs)))))) :
    Gets (builtA P H .append [t, tx] [.slice i 0 m, .slice j 0 n]) A := by
  subst hl; subst hn
  refine Gets.appG (n := xs.length) (xs := ints (fl f xs)) ht hd hrow hsz hz hb hi ?_ (by rw [ints_fl_length hr]; omega) (by omega) (nums_scalar _ _) ?_
  · simp only [srcA, hx, Nat.zero_add, ints_fl_length hr, Nat.le_refl, and_self, if_true, List.drop_zero]
    rw [List.take_of_length_le (by rw [ints_fl_length hr]; exact Nat.le_refl _)]
  · have : (ints (fl f l)).take (l.length * k) ++ ints (fl f xs) = ints (fl f (l ++ xs)) := by
      rw [List.take_of_length_le (by rw [ints_fl_length hr]; exact Nat.le_refl _), fl_append]; simp [ints, fl]
    rw [this]; exact hA
theorem Gets.appKs0 (hr : Rec f k) (hk : 0 < k) {H : AHeap} {t tx : TypeId} {ti : TI} {d : TypeDesc} {j n : Nat} {xs : List α} {A : AVal × AHeap → Prop} (ht : sliceT P t = some ti) (hd : P.underlying tx = some d) (hrow : rowD d = true) (hsz : ti.size = k) (hz : ti.zero.length = k) (hb : ti.bytes ≤ 4096)
    (hx : H.f j = .cells k (ints (fl f xs))) (hn : n = xs.length) (h0 : 0 < n) (h1 : n ≤ 4294967296) (hA : A (.slice H.n 0 n, H.alloc (.cells k (ints (fl f xs))))) : Gets (builtA P H .append [t, tx] [.nilSlice, .slice j 0 n]) A := by
  subst hn
  refine ⟨⟨_, ?_, hA⟩⟩
  simp only [builtA, apureB, amemB, app2 hd hrow, aappend, ht, hd]
  have hs : srcA H k (.slice j 0 xs.length) = some (ints (fl f xs), xs.length) := by
    simp only [srcA, hx, Nat.zero_add, ints_fl_length hr, Nat.le_refl, and_self, if_true, List.drop_zero]
    rw [List.take_of_length_le (by rw [ints_fl_length hr]; exact Nat.le_refl _)]
  rw [if_pos ⟨hrow, hb, by rw [hz, hsz]⟩]
  simp only [hsz, hs]
  rw [if_neg (by omega), if_pos h1]
/-- A record out of a row of one's own. -/
theorem Gets.loadR (hr : Rec f k) {H : AHeap} {t : TypeId} {ti : TI} {i off j : Nat} {l : List α} {x : α} {A : AVal → Prop} (ht : tinfo P t = some ti) (hag : ti.agg = true) (hsz : ti.size = k) (hf : (H.f i).cs = ints (fl f l)) (ho : off = j * k) (h : l[j]? = some x) (hA : A (kvK f x)) : Gets (loadA P H t (.ptr i off)) A := by
  subst ho
  refine ⟨⟨_, ?_, hA⟩⟩
  have hj : j < l.length := (List.getElem?_eq_some_iff.1 h).1
  have hlt : j * k + k ≤ l.length * k := by
    have := Nat.mul_le_mul_right k hj
    rwa [Nat.succ_mul] at this
  simp only [loadA, ht, AHeap.load, hag, if_true, hsz, hf, ints_fl_length hr]
  rw [if_pos hlt, ints_fl_cells hr h]
  rfl
theorem shl2N {l : Nat} (h : l < 62) : shlA .i64 2 (l : Int) = ((2 ^ (l + 1) : Nat) : Int) := by
  have h2 : 2 ^ (l + 1) < 2 ^ 63 := Nat.pow_lt_pow_right (by decide) (by omega)
  unfold shlA
  rw [show min (l : Int).toNat (IntKind.bits .i64) = l from by show min (l : Int).toNat 64 = l; omega]
  have e : (2 : Int) * 2 ^ l = ((2 ^ (l + 1) : Nat) : Int) := by rw [Nat.pow_succ, Nat.mul_comm]; simp
  rw [e]
  exact wrap_i64n h2
theorem Gets.shl2 {k' : IntKind} {i : Nat} {A : AVal → Prop} (hi : i < 62) (hA : A (.int .i64 ((2 ^ (i + 1) : Nat) : Int))) : Gets (abin .shl (.int .i64 2) (.int k' (i : Int))) A := by
  refine Gets.shl (by omega) ?_
  rw [shl2N hi]; exact hA
theorem Gets.ones {n : Nat} {A : AVal → Prop} (hn : n < 63) (hA : A (.int .i64 ((2 ^ n - 1 : Nat) : Int))) : Gets (abin .sub (.int .i64 ((2 ^ n : Nat) : Int)) (.int .i64 1)) A := by
  have h1 : 2 ^ n < 2 ^ 63 := Nat.pow_lt_pow_right (by decide) hn
  have h2 : 0 < 2 ^ n := Nat.two_pow_pos n
  refine Gets.subE (c := ((2 ^ n - 1 : Nat) : Int)) (by omega) (by omega) (by omega) hA
theorem Gets.minN2 {m n : Nat} {A : AVal → Prop} (hm : m < 2 ^ 63) (hn : n < 2 ^ 63) (hA : A (.int .i64 ((minusN m n : Nat) : Int))) : Gets (abin .andNot (.int .i64 (m : Int)) (.int .i64 (n : Int))) A :=
  ⟨⟨_, rfl, by rw [minusI hm hn]; exact hA⟩⟩
theorem Gets.andN {m n : Nat} {A : AVal → Prop} (hm : m < 2 ^ 63) (hn : n < 2 ^ 63) (hA : A (.int .i64 ((m &&& n : Nat) : Int))) : Gets (abin .and (.int .i64 (m : Int)) (.int .i64 (n : Int))) A :=
  ⟨⟨_, rfl, by rw [Vh.andI hm hn]; exact hA⟩⟩
end Go.Vk

/- Records put into rows by their keys; the memory while such rows grow. -/
set_option linter.unusedVariables false
set_option linter.unusedSimpArgs false
namespace Go.Vk
open Go.Vh
variable {P : Program} {α : Type} {f : α → List Int} {k : Nat}
def groupN (f : α → List Int) (key : α → Nat) (l : List α) (S : Nat) : List (List Int) := (List.range S).map fun s => fl f (l.filter fun x => decide (key x = s))
theorem group_len (f : α → List Int) (key : α → Nat) (l : List α) (S : Nat) : (groupN f key l S).length = S := by simp [groupN]
theorem group_get {f : α → List Int} {key : α → Nat} {l : List α} {S s : Nat} (h : s < S) : (groupN f key l S)[s]? = some (fl f (l.filter fun x => decide (key x = s))) := by simp [groupN, h]
theorem group_getD {f : α → List Int} {key : α → Nat} {l : List α} {S s : Nat} (h : s < S) : (groupN f key l S).getD s [] = fl f (l.filter fun x => decide (key x = s)) := by
  rw [List.getD_eq_getElem?_getD, group_get h]; rfl
theorem group_nil (f : α → List Int) (key : α → Nat) (S : Nat) : groupN f key [] S = List.replicate S [] := by
  unfold groupN
  rw [show (fun s => fl f (([] : List α).filter fun x => decide (key x = s))) = fun _ => [] from rfl, List.map_const']; simp
theorem group_snoc {f : α → List Int} {key : α → Nat} {l : List α} {x : α} {S : Nat} (h : key x < S) : groupN f key (l ++ [x]) S = (groupN f key l S).set (key x) (fl f (l.filter fun y => decide (key y = key x)) ++ f x) := by
  apply List.ext_getElem?
  intro s
  rw [List.getElem?_set, group_len]
  rcases Nat.lt_or_ge s S with hs | hs
  · rw [group_get hs, List.filter_append, fl_append]
    by_cases he : key x = s
    · subst he
      rw [if_pos rfl, if_pos hs, List.filter_cons, if_pos (decide_eq_true rfl)]
      simp [fl]
    · rw [if_neg he, List.filter_cons, if_neg (by simpa using he), group_get hs]
      simp [fl]
  · rw [List.getElem?_eq_none (by rw [group_len]; exact hs)]
    by_cases he : key x = s
    · omega
    · rw [if_neg he, List.getElem?_eq_none (by rw [group_len]; exact hs)]
theorem group_next {f : α → List Int} {key : α → Nat} {l : List α} {j : Nat} {x : α} {S : Nat} (hx : l[j]? = some x) (h : key x < S) : groupN f key (l.take (j + 1)) S = (groupN f key (l.take j) S).set (key x) (fl f ((l.take j).filter fun y => decide (key y = key x)) ++ f x) := by
  obtain ⟨hj, rfl⟩ := List.getElem?_eq_some_iff.1 hx
  rw [List.take_succ_eq_append_getElem hj, group_snoc h]
variable {A B z : ABlk}
/-- A block more behind the rows is forgotten. -/
theorem nest_same (hA : Clean A) (hB : Clean B) (hz : Clean z) (es : Nat) (rows : List (List Int)) (z0 z1 : ABlk) : EmbL 0 (rk [0, 1, 2, 3] (fun s => 4 + s) rows.length (5 + rows.length)) (rowsAt (G4 A B es rows z) es rows) (((rowsAt (G4 A B es rows z) es rows).alloc z0).set (4 + rows.length) z1) := by
  have hn4 : (rowsAt (G4 A B es rows z) es rows).n = 4 + rows.length := rfl
  generalize hH : AHeap.set _ _ _ = H1
  have hHn : H1.n = 5 + rows.length := by rw [← hH]; show 4 + rows.length + 1 = _; omega
  have hHf : ∀ i, i ≠ 4 + rows.length → H1.f i = (rowsAt (G4 A B es rows z) es rows).f i := by
    intro i hi
    rw [← hH, set_f, if_neg hi, alloc_f, hn4, if_neg hi]
  refine (Emb.rows (n0 := 0) (G := G4 A B es rows z) (rows := rows) [0, 1, 2, 3] (fun s => 4 + s) hHn rfl (Nat.zero_le _) (by decide) (fun i hi => absurd hi (Nat.not_lt_zero i)) (fun i k hk => ?_) (fun s hs => by show 4 + s < _; omega) (fun s x l h => ?_) (fun s t x l y m h h' hst => by omega)).toL
  · rcases i with _ | _ | _ | _ | i
    · cases hk; exact ⟨by omega, by rw [hHf 0 (by omega)]; exact .inl (hA _).symm⟩
    · cases hk; exact ⟨by omega, by rw [hHf 1 (by omega)]; exact .inl (hB _).symm⟩
    · cases hk
      refine ⟨by omega, ?_⟩
      rw [hHf 2 (by omega)]
      refine .inl ?_
      show ABlk.cells 1 (rowVg _ es rows) = renB _ (.cells 1 (rowVg _ es rows))
      rw [renB, rens_rowVg]
      congr 1
      refine rowVg_congr fun s x l h => ?_
      have hs : s < rows.length := (List.getElem?_eq_some_iff.1 h).1
      exact (rk_row (ks := [0, 1, 2, 3]) hs).symm
    · cases hk; exact ⟨by omega, by rw [hHf 3 (by omega)]; exact .inl (hz _).symm⟩
    · simp at hk
  · have hs : s < rows.length := (List.getElem?_eq_some_iff.1 h).1
    refine ⟨by simp; omega, ?_⟩
    rw [hHf _ (by omega)]
    exact rows_at (G := G4 A B es rows z) h
theorem keep_row {fr es n m : Nat} {r : List Int} (h : fr < n) : rowV (4 + fr) es r = ren (rk [0, 1, 2, 3] (fun s => 4 + s) n m) (rowV (4 + fr) es r) := by
  rw [ren_rowV]
  exact congrArg (fun k => rowV k es r) (rk_row (ks := [0, 1, 2, 3]) (g := fun s => 4 + s) h).symm
theorem nest_at3 {es : Nat} {rows : List (List Int)} {z0 z1 : ABlk} : (((rowsAt (G4 A B es rows z) es rows).alloc z0).set (4 + rows.length) z1).f 3 = z := by
  rw [set_f, if_neg (by omega), alloc_f, if_neg (by show ¬ 3 = 4 + rows.length; omega)]; rfl
theorem nest_atN {es : Nat} {rows : List (List Int)} {z0 z1 : ABlk} : (((rowsAt (G4 A B es rows z) es rows).alloc z0).set (4 + rows.length) z1).f (4 + rows.length) = z1 := by
  rw [set_f, if_pos rfl]
/-- The memory as it is. -/
theorem nest_id (hA : Clean A) (hB : Clean B) (es : Nat) (rows : List (List Int)) {n : Nat} (hn : rows.length = n) : EmbL 0 (rk [0, 1, 2] (fun s => 3 + s) n (3 + n)) (rowsAt (G3 A B es 3 rows) es rows) (rowsAt (G3 A B es 3 rows) es rows) := by
  subst hn
  refine (Emb.rows (n0 := 0) (G := G3 A B es 3 rows) (H := rowsAt (G3 A B es 3 rows) es rows) (rows := rows) [0, 1, 2] (fun s => 3 + s) (m := 3 + rows.length) rfl rfl (Nat.zero_le _) (by decide) (fun i hi => absurd hi (Nat.not_lt_zero i)) (fun i k hk => ?_) (fun s hs => by show 3 + s < _; omega) (fun s x l h => ?_) (fun s t x l y m h h' hst => by omega)).toL
  · rcases i with _ | _ | _ | i
    · cases hk; exact ⟨by omega, .inl (hA _).symm⟩
    · cases hk; exact ⟨by omega, .inl (hB _).symm⟩
    · cases hk
      refine ⟨by omega, .inl ?_⟩
      show ABlk.cells 1 (rowVg _ es rows) = renB _ (.cells 1 (rowVg _ es rows))
      rw [renB, rens_rowVg]
      congr 1
      refine rowVg_congr fun s x l h => ?_
      have hs : s < rows.length := (List.getElem?_eq_some_iff.1 h).1
      exact (rk_row (ks := [0, 1, 2]) hs).symm
    · simp at hk
  · refine ⟨by simp; omega, ?_⟩
    exact rows_at (G := G3 A B es 3 rows) h
/-- The memory as it is. -/
theorem nest_id4 (hA : Clean A) (hB : Clean B) (hz : Clean z) (es : Nat) (rows : List (List Int)) : EmbL 0 (rk [0, 1, 2, 3] (fun s => 4 + s) rows.length (4 + rows.length)) (rowsAt (G4 A B es rows z) es rows) (rowsAt (G4 A B es rows z) es rows) := by
  refine (Emb.rows (n0 := 0) (G := G4 A B es rows z) (H := rowsAt (G4 A B es rows z) es rows) (rows := rows) [0, 1, 2, 3] (fun s => 4 + s) (m := 4 + rows.length) rfl rfl (Nat.zero_le _) (by decide) (fun i hi => absurd hi (Nat.not_lt_zero i)) (fun i k hk => ?_) (fun s hs => by show 4 + s < _; omega) (fun s x l h => ?_) (fun s t x l y m h h' hst => by omega)).toL
  · rcases i with _ | _ | _ | _ | i
    · cases hk; exact ⟨by omega, .inl (hA _).symm⟩
    · cases hk; exact ⟨by omega, .inl (hB _).symm⟩
    · cases hk
      refine ⟨by omega, .inl ?_⟩
      show ABlk.cells 1 (rowVg _ es rows) = renB _ (.cells 1 (rowVg _ es rows))
      rw [renB, rens_rowVg]
      congr 1
      refine rowVg_congr fun s x l h => ?_
      have hs : s < rows.length := (List.getElem?_eq_some_iff.1 h).1
      exact (rk_row (ks := [0, 1, 2, 3]) hs).symm
    · cases hk; exact ⟨by omega, .inl (hz _).symm⟩
    · simp at hk
  · refine ⟨by simp; omega, ?_⟩
    exact rows_at (G := G4 A B es rows z) h
/-- What the memory says once a row has grown. -/
theorem nest_store {es : Nat} {rows : List (List Int)} {s : Nat} {r : List Int} {z1 b : ABlk} {H' : AHeap} (h' : (r = [] ∧ H' = (rowsAt (G4 A B es rows z) es rows).alloc z1) ∨ (r ≠ [] ∧ H' = ((rowsAt (G4 A B es rows z) es rows).alloc z1).set (4 + s) .dead)) :
    (H'.alloc b).f 2 = .cells 1 (rowVg (fun t => 4 + t) es rows) ∧ H'.n = 4 + rows.length + 1 ∧ H'.ver 2 = 0 ∧ H'.ver 3 = 0 := by
  rcases h' with ⟨_, rfl⟩ | ⟨_, rfl⟩
  · refine ⟨?_, rfl, rfl, rfl⟩
    rw [alloc_f, if_neg (by show ¬ 2 = 4 + rows.length + 1; omega), alloc_f, if_neg (by show ¬ 2 = 4 + rows.length; omega)]
    rfl
  · refine ⟨?_, rfl, ?_, ?_⟩
    · rw [alloc_f, if_neg (by show ¬ 2 = 4 + rows.length + 1; omega), set_f, if_neg (by omega), alloc_f, if_neg (by show ¬ 2 = 4 + rows.length; omega)]
      rfl
    · rw [set_ver, if_neg (by omega)]; rfl
    · rw [set_ver, if_neg (by omega)]; rfl
theorem nest_row {es : Nat} {rows : List (List Int)} {s : Nat} {r : List Int} (h : rows[s]? = some r) (hr : r ≠ []) : (rowsAt (G4 A B es rows z) es rows).f (4 + s) = .cells es (ints r) := by
  cases r with
  | nil => exact absurd rfl hr
  | cons x l => exact rows_at (G := G4 A B es rows z) h
/-- The start: rows that are all empty, behind one block. -/
theorem nest_start1 (hB : Clean B) (es n : Nat) : EmbL 0 (rk [0, 0, 1] (fun _ => 0) n 2) (rowsAt (G3 .dead B es 3 (List.replicate n [])) es (List.replicate n [])) ((emptyH.alloc B).alloc (.cells 1 (List.replicate n .nilSlice))) := by
  have hnil : ∀ (s : Nat) (x : Int) (l : List Int), (List.replicate n ([] : List Int))[s]? ≠ some (x :: l) := by
    intro s x l h
    rw [List.getElem?_replicate] at h
    split at h <;> cases h
  have := (Emb.rowsD (n0 := 0) (es := es) (G := G3 .dead B es 3 (List.replicate n [])) (H := (emptyH.alloc B).alloc (.cells 1 (List.replicate n .nilSlice))) (rows := List.replicate n []) [0, 0, 1] (fun _ => 0) (m := 2) rfl rfl (Nat.zero_le _) ?_ (fun i hi => absurd hi (Nat.not_lt_zero i)) (fun i k hk => ?_) (fun s hs => by show 0 < 2; decide) (fun s x l h => absurd h (hnil s x l)) (fun s t x l y m h => absurd h (hnil s x l))).toL
  · rwa [List.length_replicate] at this
  · intro i j k h1 h2 hij
    rcases i with _ | _ | _ | i <;> rcases j with _ | _ | _ | j <;> simp at h1 h2 <;> first | exact .inl rfl | exact .inr rfl | omega
  · rcases i with _ | _ | _ | i
    · cases hk; exact ⟨by decide, .inr (.inl (.inl rfl))⟩
    · cases hk; exact ⟨by decide, .inl (hB _).symm⟩
    · cases hk
      refine ⟨by decide, .inl ?_⟩
      show ABlk.cells 1 _ = renB _ (.cells 1 (rowVg _ es (List.replicate n [])))
      rw [renB, rens_rowVg]
      congr 1
      apply List.ext_getElem?
      intro s
      rw [rowVg_get, List.getElem?_replicate, List.getElem?_replicate]
      split <;> rfl
    · simp at hk
theorem clean_dead : Clean .dead := fun κ => rfl
theorem clean_clos (es : Nat) {cs : List AVal} (h : ∀ κ : Nat → Nat, rens κ cs = cs) : Clean (.cells es cs) := fun κ => by rw [renB, h]
theorem clean_ro (es : Nat) : Clean (.ro es []) := fun κ => rfl
end Go.Vk
