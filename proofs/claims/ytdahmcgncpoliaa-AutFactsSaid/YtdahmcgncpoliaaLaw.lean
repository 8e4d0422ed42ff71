/- What Walk computes: the program and the reference agree. -/
import Derived.Test.YtdahmcgncpoliaaAwk
set_option linter.unusedVariables false
set_option linter.unusedSimpArgs false
namespace Go.Proofs.Ytdahmcgncpoliaa
open Go Go.Vh Go.Proofs
theorem iff_nots {p q : Prop} : (¬ p ↔ ¬ q) ↔ (p ↔ q) := by
  by_cases hp : p <;> by_cases hq : q <;> simp [hp, hq]
/-! ### Letters in common -/
theorem readsB_nat {e : Edg} {c x b : Nat} (hc : e.care = c) (hx : e.bits = x) (hc1 : c < 2 ^ 63) (hb1 : b < 2 ^ 63) : readsB e b = true ↔ b &&& c = x := by
  unfold readsB
  rw [hc, hx, andI hb1 hc1]
  simp only [beq_iff_eq]
  omega
theorem clashB_nat {e f : Edg} {c x c' x' : Nat} (hc : e.care = c) (hx : e.bits = x) (hc' : f.care = c') (hx' : f.bits = x') (h1 : c < 2 ^ 63) (h2 : x < 2 ^ 63) (h3 : c' < 2 ^ 63) (h4 : x' < 2 ^ 63) : clashB e f = true ↔ x &&& c' = x' &&& c := by
  unfold clashB
  rw [hc, hx, hc', hx', andI h2 h3, andI h4 h1]
  simp only [beq_iff_eq]
  omega
theorem common_iff {c x c' x' p : Nat} (hx : x &&& c = x) (hx' : x' &&& c' = x') (hc : c < 2 ^ p) (hc' : c' < 2 ^ p) : (∃ b, b < 2 ^ p ∧ b &&& c = x ∧ b &&& c' = x') ↔ x &&& c' = x' &&& c := by
  constructor
  · rintro ⟨b, _, rfl, rfl⟩
    rw [Nat.and_assoc, Nat.and_assoc, Nat.and_comm c c']
  · intro h
    have bx : ∀ i, (x.testBit i && c.testBit i) = x.testBit i := fun i => by rw [← Nat.testBit_and, hx]
    have bx' : ∀ i, (x'.testBit i && c'.testBit i) = x'.testBit i := fun i => by rw [← Nat.testBit_and, hx']
    have bh : ∀ i, (x.testBit i && c'.testBit i) = (x'.testBit i && c.testBit i) := fun i => by rw [← Nat.testBit_and, ← Nat.testBit_and, h]
    have lx : x < 2 ^ p := by rw [← hx]; exact Nat.lt_of_le_of_lt Nat.and_le_right hc
    have lx' : x' < 2 ^ p := by rw [← hx']; exact Nat.lt_of_le_of_lt Nat.and_le_right hc'
    refine ⟨x ||| x', Nat.or_lt_two_pow lx lx', ?_, ?_⟩
    · apply Nat.eq_of_testBit_eq
      intro i
      have h1 := bx i; have h2 := bx' i; have h3 := bh i
      rw [Nat.testBit_and, Nat.testBit_or]
      cases hx1 : x.testBit i <;> cases hx2 : x'.testBit i <;> cases hc1 : c.testBit i <;> cases hc2 : c'.testBit i <;> simp_all
    · apply Nat.eq_of_testBit_eq
      intro i
      have h1 := bx i; have h2 := bx' i; have h3 := bh i
      rw [Nat.testBit_and, Nat.testBit_or]
      cases hx1 : x.testBit i <;> cases hx2 : x'.testBit i <;> cases hc1 : c.testBit i <;> cases hc2 : c'.testBit i <;> simp_all
structure EdgeN (a : Au) (e : Edg) (p c x : Nat) : Prop where
  pe : a.props = p
  p6 : p ≤ 6
  care : e.care = c
  bits : e.bits = x
  lt : c < 2 ^ p
  sub : x &&& c = x
theorem edgeN {a : Au} (hf : a.Fits) (ho : a.Ok) {e : Edg} (he : e ∈ a.es) : ∃ p c x, EdgeN a e p c x := by
  obtain ⟨h1, h2, h3, h4, h5, h6, h7, h8, h9⟩ := ho.2.2 e he
  have hp0 := ho.1.1
  have hp6 := ho.1.2.1
  have hlt := pow_le40 (show a.props ≤ 40 by omega)
  have hfit := hf.es e he e.bits (by simp [Edg.l])
  have hb0 := andNot_nonneg hfit h5 (by omega) h7
  obtain ⟨p, hp⟩ := Int.eq_ofNat_of_zero_le hp0
  obtain ⟨c, hc⟩ := Int.eq_ofNat_of_zero_le h5
  obtain ⟨x, hx⟩ := Int.eq_ofNat_of_zero_le hb0
  have hcl : c < 2 ^ p := by
    rw [hc, hp, Int.toNat_natCast] at h6
    exact_mod_cast h6
  have hc63 : c < 2 ^ 63 := Nat.lt_of_lt_of_le hcl (Nat.pow_le_pow_right (by decide) (by omega))
  have hx63 : x < 2 ^ 63 := by unfold fits64 at hfit; omega
  rw [hc, hx] at h7
  exact ⟨p, c, x, hp, by omega, hc, hx, hcl, andNotI hx63 hc63 h7⟩
theorem mask_clash {a : Au} (hf : a.Fits) (ho : a.Ok) {e f : Edg} (he : e ∈ a.es) (hfm : f ∈ a.es) : maskN f (2 ^ a.props.toNat) &&& maskN e (2 ^ a.props.toNat) = 0 ↔ clashB e f = false := by
  obtain ⟨p, c, x, E⟩ := edgeN hf ho he
  obtain ⟨p', c', x', F⟩ := edgeN hf ho hfm
  obtain rfl : p' = p := by have := E.pe; have := F.pe; omega
  have hp : a.props.toNat = p' := by rw [E.pe]; rfl
  rw [hp]
  have h64 := pow6 E.p6
  have hle : 2 ^ p' ≤ 2 ^ 63 := Nat.pow_le_pow_right (by decide) (by have := E.p6; omega)
  have xlt : x < 2 ^ p' := by rw [← E.sub]; exact Nat.lt_of_le_of_lt Nat.and_le_right E.lt
  have xlt' : x' < 2 ^ p' := by rw [← F.sub]; exact Nat.lt_of_le_of_lt Nat.and_le_right F.lt
  have hE := E.lt
  have hF := F.lt
  have h1 : (maskN f (2 ^ p') &&& maskN e (2 ^ p') ≠ 0) ↔ clashB e f = true := by
    rw [and_ne_zero, clashB_nat E.care E.bits F.care F.bits (by omega) (by omega) (by omega) (by omega), ← common_iff E.sub F.sub E.lt F.lt]
    constructor
    · rintro ⟨i, hi1, hi2⟩
      rw [maskN_bit, Bool.and_eq_true, decide_eq_true_eq] at hi1 hi2
      exact ⟨i, hi1.1, (readsB_nat E.care E.bits (by omega) (by omega)).1 hi2.2, (readsB_nat F.care F.bits (by omega) (by omega)).1 hi1.2⟩
    · rintro ⟨b, hb, h1, h2⟩
      refine ⟨b, ?_, ?_⟩
      · rw [maskN_bit, Bool.and_eq_true, decide_eq_true_eq]; exact ⟨hb, (readsB_nat F.care F.bits (by omega) (by omega)).2 h2⟩
      · rw [maskN_bit, Bool.and_eq_true, decide_eq_true_eq]; exact ⟨hb, (readsB_nat E.care E.bits (by omega) (by omega)).2 h1⟩
  refine ⟨fun h => ?_, fun h => Classical.byContradiction fun hn => ?_⟩
  · cases hc : clashB e f with
    | false => rfl
    | true => exact absurd h (h1.2 hc)
  · have := h1.1 hn
    rw [h] at this
    cases this
theorem Au.ms_bit (a : Au) (hfr : ∀ e ∈ a.es, 0 ≤ e.fr ∧ e.fr < a.states) : ∀ j, j ≤ a.es.length → ∀ t b, ((a.ms j).getD t 0).testBit b = true ↔ ∃ f ∈ a.ahead j t, (maskN f (2 ^ a.props.toNat)).testBit b = true
  | 0, _, t, b => by
    simp only [Au.ms, Au.ahead, List.take_zero, List.foldl_nil, List.filter_nil, List.not_mem_nil, false_and, exists_false, iff_false]
    rw [List.getD_eq_getElem?_getD, List.getElem?_replicate]
    split <;> simp
  | j + 1, hj, t, b => by
    have ih := a.ms_bit hfr j (by omega) t b
    have hlt : j < a.es.length := by omega
    have hfrj := hfr _ (List.getElem_mem hlt)
    have hah : a.ahead (j + 1) t = a.ahead j t ++ if a.es[j].fr.toNat = t then [a.es[j]] else [] := by
      unfold Au.ahead
      rw [List.take_succ_eq_append_getElem hlt, List.filter_append]
      congr 1
      by_cases h : a.es[j].fr.toNat = t <;> simp [h]
    rw [a.ms_succ hlt, hah, msStep]
    by_cases h : a.es[j].fr.toNat = t
    · rw [h, if_pos rfl, List.getD_eq_getElem?_getD, List.getElem?_set, if_pos rfl, if_pos (by rw [a.ms_length]; omega)]
      simp only [Option.getD_some, Nat.testBit_or, Bool.or_eq_true, List.mem_append, List.mem_singleton, ih]
      constructor
      · rintro (⟨f, h1, h2⟩ | h2)
        · exact ⟨f, .inl h1, h2⟩
        · exact ⟨_, .inr rfl, h2⟩
      · rintro ⟨f, h1 | rfl, h2⟩
        · exact .inl ⟨f, h1, h2⟩
        · exact .inr h2
    · rw [if_neg h, List.append_nil, ← ih, List.getD_eq_getElem?_getD, List.getElem?_set, if_neg h, ← List.getD_eq_getElem?_getD]
theorem Au.sep_iff (a : Au) (hf : a.Fits) (ho : a.Ok) : a.Sep a.es.length ↔ a.Apar a.es.length := by
  have hfr : ∀ e ∈ a.es, 0 ≤ e.fr ∧ e.fr < a.states := fun e he => ⟨(ho.2.2 e he).1, (ho.2.2 e he).2.1⟩
  have key : ∀ i (h : i < a.es.length), (a.ms i).getD a.es[i].fr.toNat 0 &&& maskN a.es[i] (2 ^ a.props.toNat) = 0 ↔ ∀ f ∈ a.ahead i a.es[i].fr.toNat, clashB a.es[i] f = false := by
    intro i h
    have hmem : ∀ f ∈ a.ahead i a.es[i].fr.toNat, f ∈ a.es := fun f hf => List.mem_of_mem_take (List.mem_filter.1 hf).1
    rw [← iff_nots, ← ne_eq, and_ne_zero]
    constructor
    · rintro ⟨b, h1, h2⟩ hall
      obtain ⟨f, hf1, hf2⟩ := (a.ms_bit hfr i (by omega) _ b).1 h1
      have := (mask_clash hf ho (List.getElem_mem h) (hmem f hf1)).2 (hall f hf1)
      exact (and_ne_zero.2 ⟨b, hf2, h2⟩) this
    · intro hn
      have hn := Classical.not_forall.1 hn
      obtain ⟨f, hn⟩ := hn
      have hn := Classical.not_imp.1 hn
      obtain ⟨hf1, hn⟩ := hn
      have hne : maskN f (2 ^ a.props.toNat) &&& maskN a.es[i] (2 ^ a.props.toNat) ≠ 0 := fun h0 => hn ((mask_clash hf ho (List.getElem_mem h) (hmem f hf1)).1 h0)
      obtain ⟨b, h1, h2⟩ := and_ne_zero.1 hne
      exact ⟨b, (a.ms_bit hfr i (by omega) _ b).2 ⟨f, hf1, h1⟩, h2⟩
  constructor
  · intro h i h1 h2 f hf'
    exact (key i h1).1 (h i h1 h2) f hf'
  · intro h i h1 h2
    exact (key i h1).2 (h i h1 h2)
/-! ### The edge that is taken -/
def Au.hitJ (a : Au) (s l : Int) (j : Nat) : Option Edg := match a.outs s l j with
  | [] => none
  | i :: _ => a.es[i.toNat]?
theorem Au.nxt_append (a : Au) (l : Int) (j : Nat) (hj : j < a.es.length) : ∀ r : List Int, a.nxt l (r ++ [(j : Int)]) = match a.nxt l r with
    | some e => some e
    | none => if readsB a.es[j] l = true then some a.es[j] else none
  | [] => by simp only [List.nil_append, Au.nxt, Int.toNat_natCast, List.getElem?_eq_getElem hj]
  | i :: r => by
    simp only [List.cons_append, Au.nxt]
    cases a.es[i.toNat]? with
    | none => exact a.nxt_append l j hj r
    | some e =>
      dsimp only
      split
      · rfl
      · exact a.nxt_append l j hj r
theorem Au.hitJ_eq (a : Au) (ho : a.Ok) (s l : Int) (hs : 0 ≤ s) : ∀ j, j ≤ a.es.length → a.hitJ s l j = a.nxt l ((a.byN j).getD s.toNat [])
  | 0, _ => by
    have : (a.byN 0).getD s.toNat [] = [] := by
      rw [Au.byN, List.getD_eq_getElem?_getD, List.getElem?_replicate]; split <;> rfl
    rw [this]
    rfl
  | j + 1, hj => by
    have ih := a.hitJ_eq ho s l hs j (by omega)
    have hlt : j < a.es.length := by omega
    have hge := List.getElem?_eq_getElem hlt
    have hok := ho.2.2 _ (List.getElem_mem hlt)
    have hfr : a.frN j = a.es[j].fr.toNat := by unfold Au.frN; rw [hge]
    have hmem := a.outs_mem s l j
    have h1 : a.hitJ s l (j + 1) = match a.hitJ s l j with
      | some e => some e
      | none => if goesB a.es[j] s l = true then some a.es[j] else none := by
      unfold Au.hitJ
      simp only [Au.outs, hge]
      cases ho : a.outs s l j with
      | nil => cases hg : goesB a.es[j] s l <;> simp [hge]
      | cons i r =>
        obtain ⟨k, hk, _, hk2⟩ := hmem i (by rw [ho]; simp)
        subst hk
        cases hg : goesB a.es[j] s l <;> simp [List.getElem?_eq_getElem hk2]
    have h2 : (a.byN (j + 1)).getD s.toNat [] = if a.es[j].fr = s then (a.byN j).getD s.toNat [] ++ [(j : Int)] else (a.byN j).getD s.toNat [] := by
      rw [Au.byN, hfr, List.getD_eq_getElem?_getD, List.getElem?_set]
      by_cases h : a.es[j].fr = s
      · subst h
        rw [if_pos rfl, if_pos rfl, if_pos (by rw [a.byN_length]; have := hok.2.1; omega)]
        rfl
      · rw [if_neg (by have := hok.1; omega), if_neg h, ← List.getD_eq_getElem?_getD]
    rw [h1, h2, ih]
    by_cases h : a.es[j].fr = s
    · rw [if_pos h, a.nxt_append l j hlt]
      have hg : goesB a.es[j] s l = readsB a.es[j] l := by unfold goesB; rw [h]; simp
      rw [hg]
    · rw [if_neg h]
      have hg : goesB a.es[j] s l = false := by unfold goesB; simp [h]
      rw [hg]
      cases a.nxt l ((a.byN j).getD s.toNat []) <;> simp
theorem Au.hit_go (a : Au) (ho : a.Ok) (s l : Int) (hs : 0 ≤ s) : a.hit s l = a.go s l := a.hitJ_eq ho s l hs a.es.length (Nat.le_refl _)
/-! ### Marks -/
def isN (x : Int) : Prop := 0 ≤ x ∧ x < 2 ^ 40
def bitN (x : Int) (b : Nat) : Bool := x.toNat.testBit b
theorem or_isN {x y : Int} (hx : isN x) (hy : isN y) : isN (bitsA .or .i64 x y) ∧ ∀ b, bitN (bitsA .or .i64 x y) b = (bitN x b || bitN y b) := by
  obtain ⟨n, rfl⟩ := Int.eq_ofNat_of_zero_le hx.1
  obtain ⟨m, rfl⟩ := Int.eq_ofNat_of_zero_le hy.1
  have hn : n < 2 ^ 40 := by have := hx.2; omega
  have hm : m < 2 ^ 40 := by have := hy.2; omega
  have := Nat.or_lt_two_pow hn hm
  rw [orI (by omega) (by omega)]
  refine ⟨⟨by omega, by omega⟩, fun b => ?_⟩
  unfold bitN
  rw [Int.toNat_natCast, Int.toNat_natCast, Int.toNat_natCast, Nat.testBit_or]
theorem orAll_isN : ∀ (l : List Int) (m : Int), isN m → (∀ x ∈ l, isN x) → isN (orAll m l) ∧ ∀ b, bitN (orAll m l) b = true ↔ bitN m b = true ∨ ∃ x ∈ l, bitN x b = true
  | [], m, hm, _ => ⟨hm, fun b => by simp [orAll]⟩
  | x :: l, m, hm, h => by
    obtain ⟨h1, h2⟩ := or_isN hm (h x (by simp))
    obtain ⟨h3, h4⟩ := orAll_isN l _ h1 fun y hy => h y (by simp [hy])
    refine ⟨h3, fun b => ?_⟩
    show bitN (orAll (bitsA .or .i64 m x) l) b = true ↔ _
    rw [h4, h2]
    simp only [Bool.or_eq_true, List.mem_cons, exists_eq_or_imp, or_assoc]
theorem isN_ext {x y : Int} (hx : isN x) (hy : isN y) (h : ∀ b, bitN x b = true ↔ bitN y b = true) : x = y := by
  have : x.toNat = y.toNat := by
    apply Nat.eq_of_testBit_eq
    intro b
    have := h b
    unfold bitN at this
    cases h1 : x.toNat.testBit b <;> cases h2 : y.toNat.testBit b <;> simp_all
  have := hx.1; have := hy.1
  omega
theorem isN_zero : isN 0 := ⟨by decide, by decide⟩
/-! ### Runs -/
def Au.path (a : Au) (s : Int) : List Int → Option (Int × List Int)
  | [] => some (s, [])
  | x :: xs => match a.go s x with
    | none => none
    | some e => match a.path e.to xs with
      | none => none
      | some (s', l) => some (s', e.marks :: l)
theorem Au.tRun_path (a : Au) : ∀ (xs : List Int) (s m : Int), a.tRun s m xs = (a.path s xs).map fun p => (p.1, orAll m p.2)
  | [], s, m => rfl
  | x :: xs, s, m => by
    simp only [Au.tRun, Au.path]
    cases a.go s x with
    | none => rfl
    | some e =>
      dsimp only
      rw [a.tRun_path xs]
      cases a.path e.to xs with
      | none => rfl
      | some p => rfl
theorem Au.sRun_path (a : Au) : ∀ (xs : List Int) (s : Int), a.sRun s xs = (a.path s xs).map (·.1)
  | [], s => rfl
  | x :: xs, s => by
    simp only [Au.sRun, Au.path]
    cases a.go s x with
    | none => rfl
    | some e =>
      dsimp only
      rw [a.sRun_path xs]
      cases a.path e.to xs with
      | none => rfl
      | some p => rfl
def Au.In (a : Au) (s : Int) : Prop := 0 ≤ s ∧ s < a.states
theorem Au.path_in (a : Au) (ho : a.Ok) : ∀ (xs : List Int) (s s' : Int) (l : List Int), a.In s → a.path s xs = some (s', l) → a.In s' ∧ ∀ x ∈ l, isN x
  | [], s, s', l, hs, h => by
    simp only [Au.path, Option.some.injEq, Prod.mk.injEq] at h
    obtain ⟨rfl, rfl⟩ := h
    exact ⟨hs, by simp⟩
  | x :: xs, s, s', l, hs, h => by
    simp only [Au.path] at h
    cases hg : a.go s x with
    | none => rw [hg] at h; cases h
    | some e =>
      rw [hg] at h
      dsimp only at h
      obtain ⟨g1, g2, g3⟩ := a.go_ok ho hg
      cases hp : a.path e.to xs with
      | none => rw [hp] at h; cases h
      | some p =>
        obtain ⟨s1, l1⟩ := p
        rw [hp] at h
        simp only [Option.some.injEq, Prod.mk.injEq] at h
        obtain ⟨rfl, rfl⟩ := h
        obtain ⟨k1, k2⟩ := a.path_in ho xs e.to s1 l1 ⟨g1, g2⟩ hp
        refine ⟨k1, fun y hy => ?_⟩
        rcases List.mem_cons.1 hy with rfl | hy
        · have hm := (ho.2.2 e g3).2.2.2.2.2.2.2
          have := pow_le40 (show a.marks ≤ 40 from ho.1.2.2.2.2.2.2.1.2.1)
          exact ⟨hm.1, by omega⟩
        · exact k2 y hy
/-- A stretch of the reference's run. -/
theorem Au.rSeg (a : Au) (ho : a.Ok) (w : Wd) (first : Nat) : ∀ (xs : List Int) (k : Nat) (s inf : Int), a.In s → a.rRun w first k = some (s, inf) → (∀ i (h : i < xs.length), w.at (k + i) = xs[i]) → (first ≤ k ∨ k + xs.length ≤ first) →
    a.rRun w first (k + xs.length) = (a.path s xs).map fun p => (p.1, if first ≤ k then orAll inf p.2 else inf)
  | [], k, s, inf, hs, h, _, _ => by
    rw [List.length_nil, Nat.add_zero, h]
    simp [Au.path, orAll]
  | x :: xs, k, s, inf, hs, h, hw, hk => by
    have hx : w.at k = x := hw 0 (by simp)
    have h1 : a.rRun w first (k + 1) = match a.go s x with
      | none => none
      | some e => some (e.to, if first ≤ k then bitsA .or .i64 inf e.marks else inf) := by
      rw [Au.rRun, h]
      dsimp only
      rw [hx, a.hit_go ho s x hs.1]
      cases a.go s x <;> rfl
    rw [List.length_cons, show k + (xs.length + 1) = k + 1 + xs.length by omega]
    simp only [Au.path]
    cases hg : a.go s x with
    | none =>
      rw [hg] at h1
      rw [a.rRun_none w first h1]
      rfl
    | some e =>
      rw [hg] at h1
      dsimp only at h1 ⊢
      obtain ⟨g1, g2, _⟩ := a.go_ok ho hg
      rw [List.length_cons] at hk
      have ih := a.rSeg ho w first xs (k + 1) e.to _ ⟨g1, g2⟩ h1 (fun i hi => by
        have := hw (i + 1) (by simp; omega)
        rw [show k + 1 + i = k + (i + 1) by omega, this]
        simp) (by omega)
      rw [ih]
      cases hp : a.path e.to xs with
      | none => rfl
      | some p =>
        obtain ⟨s1, l1⟩ := p
        simp only [Option.map_some]
        by_cases hle : first ≤ k
        · rw [if_pos (by omega), if_pos hle, if_pos hle]; rfl
        · rw [if_neg hle, if_neg hle]
          cases xs with
          | nil =>
            simp only [Au.path, Option.some.injEq, Prod.mk.injEq] at hp
            obtain ⟨_, rfl⟩ := hp
            split <;> rfl
          | cons y ys => rw [if_neg (by simp at hk; omega)]
/-! ### Turns -/
def Au.tP (a : Au) (loop : List Int) (s0 : Int) (t : Nat) : Option (List Int) := match a.tS loop s0 t with
  | none => none
  | some s => (a.path s loop).map (·.2)
theorem Au.tS_succ (a : Au) (loop : List Int) (s0 : Int) (t : Nat) : a.tS loop s0 (t + 1) = match a.tS loop s0 t with
    | none => none
    | some s => (a.path s loop).map (·.1) := by
  simp only [Au.tS]
  cases a.tS loop s0 t with
  | none => rfl
  | some s =>
    dsimp only
    rw [a.tRun_path]
    cases a.path s loop <;> rfl
theorem Au.tM_eq (a : Au) (loop : List Int) (s0 : Int) (t : Nat) : a.tM loop s0 t = (a.tP loop s0 t).map (orAll 0) := by
  simp only [Au.tM, Au.tP]
  cases a.tS loop s0 t with
  | none => rfl
  | some s =>
    dsimp only
    rw [a.tRun_path]
    cases a.path s loop <;> rfl
theorem Au.tS_none (a : Au) (loop : List Int) (s0 : Int) {t : Nat} (h : a.tS loop s0 t = none) : ∀ d, a.tS loop s0 (t + d) = none
  | 0 => h
  | d + 1 => by rw [← Nat.add_assoc, a.tS_succ, a.tS_none loop s0 h d]
theorem Au.tS_in (a : Au) (ho : a.Ok) (loop : List Int) {s0 : Int} (h0 : a.In s0) : ∀ (t : Nat) (s : Int), a.tS loop s0 t = some s → a.In s
  | 0, s, h => by cases h; exact h0
  | t + 1, s, h => by
    rw [a.tS_succ] at h
    cases ht : a.tS loop s0 t with
    | none => rw [ht] at h; cases h
    | some s1 =>
      rw [ht] at h
      dsimp only at h
      cases hp : a.path s1 loop with
      | none => rw [hp] at h; cases h
      | some p =>
        obtain ⟨s2, l⟩ := p
        rw [hp] at h
        cases h
        exact (a.path_in ho loop s1 s2 l (a.tS_in ho loop h0 t s1 ht) hp).1
theorem Wd.at_stem (w : Wd) {i : Nat} (h : i < w.stem.length) : w.at i = w.stem[i] := by
  rw [Wd.at, if_pos h, List.getD_eq_getElem?_getD, List.getElem?_eq_getElem h]; rfl
theorem Wd.at_loop (w : Wd) (q : Nat) {i : Nat} (h : i < w.loop.length) : w.at (w.stem.length + q * w.loop.length + i) = w.loop[i] := by
  rw [Wd.at, if_neg (by omega), show w.stem.length + q * w.loop.length + i - w.stem.length = i + w.loop.length * q by rw [Nat.mul_comm]; omega, Nat.add_mul_mod_self_left, Nat.mod_eq_of_lt h, List.getD_eq_getElem?_getD, List.getElem?_eq_getElem h]; rfl
/-- The reference's run, by turns: ahead of what it collects. -/
theorem Au.rTurns (a : Au) (ho : a.Ok) (w : Wd) {s0 : Int} (h0 : a.In s0) (hst : a.rRun w (a.first w) w.stem.length = some (s0, 0)) : ∀ q, q ≤ a.states.toNat → a.rRun w (a.first w) (w.stem.length + q * w.loop.length) = (a.tS w.loop s0 q).map fun s => (s, 0)
  | 0, _ => by rw [Nat.zero_mul, Nat.add_zero, hst]; rfl
  | q + 1, hq => by
    have ih := a.rTurns ho w h0 hst q (by omega)
    have hle : w.stem.length + q * w.loop.length + w.loop.length ≤ a.first w := by
      unfold Au.first
      have := Nat.mul_le_mul_right w.loop.length hq
      rw [Nat.add_mul, Nat.one_mul] at this
      omega
    rw [show w.stem.length + (q + 1) * w.loop.length = w.stem.length + q * w.loop.length + w.loop.length by rw [Nat.add_mul, Nat.one_mul]; omega, a.tS_succ]
    cases ht : a.tS w.loop s0 q with
    | none =>
      rw [ht] at ih
      exact a.rRun_none w _ ih _
    | some s =>
      rw [ht] at ih
      have := a.rSeg ho w (a.first w) w.loop _ s 0 (a.tS_in ho w.loop h0 q s ht) ih (fun i hi => w.at_loop q hi) (.inr hle)
      rw [this]
      dsimp only
      cases hp : a.path s w.loop with
      | none => rfl
      | some p =>
        obtain ⟨s1, l⟩ := p
        simp only [Option.map_some, Option.some.injEq, Prod.mk.injEq, true_and]
        split
        · rename_i hle2
          have hl0 : w.loop = [] := List.eq_nil_of_length_eq_zero (by omega)
          rw [hl0] at hp
          simp only [Au.path, Option.some.injEq, Prod.mk.injEq] at hp
          rw [← hp.2]; rfl
        · rfl
/-- And while it collects. -/
theorem Au.rColl (a : Au) (ho : a.Ok) (w : Wd) {s0 : Int} (h0 : a.In s0) (hst : a.rRun w (a.first w) w.stem.length = some (s0, 0)) : ∀ r, (a.tS w.loop s0 (a.states.toNat + r) = none → a.rRun w (a.first w) (a.first w + r * w.loop.length) = none) ∧
    ∀ s, a.tS w.loop s0 (a.states.toNat + r) = some s → ∃ inf, a.rRun w (a.first w) (a.first w + r * w.loop.length) = some (s, inf) ∧ isN inf ∧ ∀ b, bitN inf b = true ↔ ∃ i, a.states.toNat ≤ i ∧ i < a.states.toNat + r ∧ ∃ l, a.tP w.loop s0 i = some l ∧ ∃ x ∈ l, bitN x b = true
  | 0 => by
    have := a.rTurns ho w h0 hst a.states.toNat (Nat.le_refl _)
    rw [show w.stem.length + a.states.toNat * w.loop.length = a.first w from rfl] at this
    rw [Nat.zero_mul, Nat.add_zero, Nat.add_zero, this]
    refine ⟨fun h => by rw [h]; rfl, fun s h => ⟨0, by rw [h]; rfl, isN_zero, fun b => ?_⟩⟩
    constructor
    · intro h; simp [bitN] at h
    · rintro ⟨i, h1, h2, _⟩; omega
  | r + 1 => by
    obtain ⟨ih1, ih2⟩ := a.rColl ho w h0 hst r
    have he : a.first w + (r + 1) * w.loop.length = a.first w + r * w.loop.length + w.loop.length := by rw [Nat.add_mul, Nat.one_mul]; omega
    have hat : ∀ i (h : i < w.loop.length), w.at (a.first w + r * w.loop.length + i) = w.loop[i] := fun i hi => by
      have := w.at_loop (a.states.toNat + r) hi
      rwa [show w.stem.length + (a.states.toNat + r) * w.loop.length + i = a.first w + r * w.loop.length + i by unfold Au.first; rw [Nat.add_mul]; omega] at this
    rw [he, ← Nat.add_assoc, a.tS_succ]
    cases ht : a.tS w.loop s0 (a.states.toNat + r) with
    | none =>
      refine ⟨fun _ => a.rRun_none w _ (ih1 ht) _, fun s h => (by cases h)⟩
    | some s =>
      obtain ⟨inf, h1, h2, h3⟩ := ih2 s ht
      have hs := a.tS_in ho w.loop h0 _ s ht
      have hseg := a.rSeg ho w (a.first w) w.loop _ s inf hs h1 hat (.inl (by omega))
      dsimp only
      rw [hseg]
      cases hp : a.path s w.loop with
      | none => exact ⟨fun _ => rfl, fun s h => (by cases h)⟩
      | some p =>
        obtain ⟨s1, l⟩ := p
        refine ⟨fun h => (by cases h), fun s' h => ?_⟩
        cases h
        obtain ⟨_, hl⟩ := a.path_in ho w.loop s s1 l hs hp
        obtain ⟨k1, k2⟩ := orAll_isN l inf h2 hl
        refine ⟨orAll inf l, by simp only [Option.map_some]; rw [if_pos (by omega)], k1, fun b => ?_⟩
        have htp : a.tP w.loop s0 (a.states.toNat + r) = some l := by simp only [Au.tP, ht, hp, Option.map_some]
        rw [k2, h3]
        constructor
        · rintro (⟨i, i1, i2, i3⟩ | hx)
          · exact ⟨i, i1, by omega, i3⟩
          · exact ⟨_, by omega, by omega, l, htp, hx⟩
        · rintro ⟨i, i1, i2, l', i3, i4⟩
          rcases Nat.lt_or_ge i (a.states.toNat + r) with h | h
          · exact .inl ⟨i, i1, h, l', i3, i4⟩
          · obtain rfl : i = a.states.toNat + r := by omega
            rw [htp] at i3
            cases i3
            exact .inr i4
/-! ### The end -/
theorem Au.walk_same (a : Au) (hf : a.Fits) (w : Wd) {inf inf' : Int} {dead dead' : Bool} {e e' : Int} (h : a.AutW w inf dead e) (h' : a.RefW w inf' dead' e') : inf = inf' ∧ dead = dead' ∧ e = e' := by
  have hone : a.Ok → ((a.Sep a.es.length ∧ a.start.length = 1) ↔ a.One) := fun ho => by
    unfold Au.One
    rw [a.sep_iff hf ho]
    exact And.comm
  rcases h with ⟨h1, rfl, rfl, rfl⟩ | ⟨h1, h2, rfl, rfl, rfl⟩ | ⟨h1, h2, h3, rfl, rfl, rfl⟩ | ⟨h1, h2, h3, rfl, h4⟩
  · rcases h' with ⟨_, rfl, rfl, rfl⟩ | ⟨k1, _⟩ | ⟨k1, _⟩ | ⟨k1, _⟩
    · exact ⟨rfl, rfl, rfl⟩
    all_goals exact absurd k1 h1
  · rw [hone h1] at h2
    rcases h' with ⟨k1, _⟩ | ⟨_, _, rfl, rfl, rfl⟩ | ⟨_, k2, _⟩ | ⟨_, k2, _⟩
    · exact absurd h1 k1
    · exact ⟨rfl, rfl, rfl⟩
    all_goals exact absurd k2 h2
  · rw [hone h1] at h2
    rcases h' with ⟨k1, _⟩ | ⟨_, k2, _⟩ | ⟨_, _, _, rfl, rfl, rfl⟩ | ⟨_, _, k3, _⟩
    · exact absurd h1 k1
    · exact absurd h2 k2
    · exact ⟨rfl, rfl, rfl⟩
    · exact absurd k3 h3
  have hst1 := h2.2
  rw [hone h1] at h2
  rcases h' with ⟨k1, _⟩ | ⟨_, k2, _⟩ | ⟨_, _, k3, _⟩ | ⟨_, _, _, h5⟩
  · exact absurd h1 k1
  · exact absurd h2 k2
  · exact absurd h3 k3
  have hso := h1.2.1 0 (by omega)
  have hin0 : a.In (a.start.getD 0 0) := ⟨hso.1, hso.2.1⟩
  have hS : 1 ≤ a.states.toNat := by have := hin0.1; have := hin0.2; omega
  have hL : 1 ≤ w.loop.length := List.length_pos_iff.2 h3.2.2.1
  have hSL : 1 ≤ a.states.toNat * w.loop.length := Nat.mul_pos hS hL
  have hfirst : ¬ a.first w ≤ 0 := by unfold Au.first; omega
  have hseg := a.rSeg h1 w (a.first w) w.stem 0 _ 0 hin0 rfl (fun i hi => by rw [Nat.zero_add]; exact w.at_stem hi) (.inr (by unfold Au.first; omega))
  rw [Nat.zero_add] at hseg
  have hst : a.rRun w (a.first w) w.stem.length = (a.sRun (a.start.getD 0 0) w.stem).map fun s => (s, 0) := by
    rw [hseg, a.sRun_path]
    cases a.path (a.start.getD 0 0) w.stem with
    | none => rfl
    | some p => simp only [Option.map_some]; rw [if_neg hfirst]
  have htot : a.total w = a.first w + a.states.toNat * w.loop.length := rfl
  rcases h4 with ⟨g1, rfl, rfl⟩ | ⟨s0, g1, g2⟩
  · rw [g1] at hst
    have hnone := a.rRun_none w (a.first w) hst (a.total w - w.stem.length)
    rw [show w.stem.length + (a.total w - w.stem.length) = a.total w by rw [htot]; unfold Au.first; omega] at hnone
    rcases h5 with ⟨_, rfl, rfl, rfl⟩ | ⟨s, q1, _⟩
    · exact ⟨rfl, rfl, rfl⟩
    · rw [hnone] at q1; cases q1
  rw [g1] at hst
  have hin : a.In s0 := by
    rw [a.sRun_path] at g1
    cases hp : a.path (a.start.getD 0 0) w.stem with
    | none => rw [hp] at g1; cases g1
    | some p =>
      obtain ⟨s1, l⟩ := p
      rw [hp] at g1
      cases g1
      exact (a.path_in h1 _ _ _ _ hin0 hp).1
  obtain ⟨c1, c2⟩ := a.rColl h1 w hin hst a.states.toNat
  rw [← htot] at c1 c2
  rcases g2 with ⟨t, s, d1, d2, d3, rfl, rfl⟩ | ⟨hs, ms, s, k, hist, d2, d3, rfl, rfl⟩
  · have hn : a.tS w.loop s0 (t + 1) = none := by simp only [Au.tS, d1, d2, Option.map_none]
    have := a.tS_none w.loop s0 hn (a.states.toNat + a.states.toNat - (t + 1))
    rw [show t + 1 + (a.states.toNat + a.states.toNat - (t + 1)) = a.states.toNat + a.states.toNat by omega] at this
    have hnone := c1 this
    rcases h5 with ⟨_, rfl, rfl, rfl⟩ | ⟨s, q1, _⟩
    · exact ⟨rfl, rfl, rfl⟩
    · rw [hnone] at q1; cases q1
  have hT := nodup_le a.states.toNat hs hist.nodup (fun x hx => by have := hist.ok x hx; omega)
  generalize hTe : hs.length = T at *
  have hkT : a.tS w.loop s0 T = a.tS w.loop s0 k := by rw [hist.sat k (by omega), d3, ← hTe, hist.now]
  have per : ∀ n, a.tS w.loop s0 (T + n) = a.tS w.loop s0 (k + n) := by
    intro n
    induction n with
    | zero => exact hkT
    | succ n ih => rw [← Nat.add_assoc, ← Nat.add_assoc, a.tS_succ, a.tS_succ, ih]
  have hdef : ∀ i, ∃ s, a.tS w.loop s0 i = some s := by
    intro i
    induction i using Nat.strongRecOn with
    | ind i ih =>
      rcases Nat.lt_or_ge i T with h | h
      · exact ⟨hs[i]'(by omega), by rw [hist.sat i (by omega)]; exact List.getElem?_eq_getElem _⟩
      · have := per (i - T)
        rw [show T + (i - T) = i by omega] at this
        rw [this]
        exact ih _ (by omega)
  have hdefP : ∀ i, ∃ l, a.tP w.loop s0 i = some l ∧ ∀ x ∈ l, isN x := by
    intro i
    obtain ⟨s1, hs1⟩ := hdef i
    obtain ⟨s2, hs2⟩ := hdef (i + 1)
    rw [a.tS_succ, hs1] at hs2
    dsimp only at hs2
    cases hp : a.path s1 w.loop with
    | none => rw [hp] at hs2; cases hs2
    | some p =>
      obtain ⟨s3, l⟩ := p
      exact ⟨l, by simp only [Au.tP, hs1, hp, Option.map_some], (a.path_in h1 _ _ _ _ (a.tS_in h1 w.loop hin i s1 hs1) hp).2⟩
  have perP : ∀ n, a.tP w.loop s0 (T + n) = a.tP w.loop s0 (k + n) := fun n => by unfold Au.tP; rw [per n]
  have perQ : ∀ q i, k ≤ i → a.tP w.loop s0 (i + (T - k) * q) = a.tP w.loop s0 i := by
    intro q
    induction q with
    | zero => intro i _; rw [Nat.mul_zero, Nat.add_zero]
    | succ q ih =>
      intro i hi
      rw [← ih i hi]
      have := perP (i + (T - k) * q - k)
      rwa [show T + (i + (T - k) * q - k) = i + (T - k) * (q + 1) by rw [Nat.mul_succ]; omega, show k + (i + (T - k) * q - k) = i + (T - k) * q by omega] at this
  obtain ⟨sx, hsx⟩ := hdef (a.states.toNat + a.states.toNat)
  obtain ⟨inf2, e1, e2, e3⟩ := c2 sx hsx
  rcases h5 with ⟨q1, _⟩ | ⟨s', q1, rfl, rfl⟩
  · rw [e1] at q1; cases q1
  rw [e1] at q1
  cases q1
  refine ⟨?_, rfl, rfl⟩
  have hmsi : ∀ i, i < T → ∃ l, a.tP w.loop s0 i = some l ∧ ms[i]? = some (orAll 0 l) ∧ ∀ x ∈ l, isN x := by
    intro i hi
    obtain ⟨l, hl, hl2⟩ := hdefP i
    have := hist.ms i (by omega)
    rw [a.tM_eq, hl] at this
    exact ⟨l, hl, this.symm, hl2⟩
  have hmsN : ∀ x ∈ ms.drop k, isN x := by
    intro x hx
    obtain ⟨i, hi, rfl⟩ := List.getElem_of_mem (List.mem_of_mem_drop hx)
    obtain ⟨l, _, h2, h3⟩ := hmsi i (by rw [← hTe, ← hist.len]; exact hi)
    rw [List.getElem?_eq_getElem hi] at h2
    have h2 : ms[i] = orAll 0 l := by simpa using h2
    rw [h2]
    exact (orAll_isN l 0 isN_zero h3).1
  obtain ⟨f1, f2⟩ := orAll_isN (ms.drop k) 0 isN_zero hmsN
  refine isN_ext f1 e2 fun b => ?_
  rw [f2, e3]
  constructor
  · rintro (h | ⟨x, hx, hxb⟩)
    · simp [bitN] at h
    · obtain ⟨j, hj, rfl⟩ := List.getElem_of_mem hx
      rw [List.getElem_drop] at hxb
      rw [List.length_drop] at hj
      have hjT : k + j < T := by rw [← hTe, ← hist.len]; omega
      obtain ⟨l, g3, g4, g5⟩ := hmsi (k + j) hjT
      rw [List.getElem?_eq_getElem (by rw [hist.len]; omega)] at g4
      have g4 : ms[k + j]'(by rw [hist.len]; omega) = orAll 0 l := by simpa using g4
      rw [g4] at hxb
      have hxb := ((orAll_isN l 0 isN_zero g5).2 b).1 hxb
      have hxb : ∃ x ∈ l, bitN x b = true := by
        rcases hxb with h | h
        · simp [bitN] at h
        · exact h
      have hd : 0 < T - k := by omega
      have hm := Nat.div_add_mod (a.states.toNat - (k + j) + (T - k) - 1) (T - k)
      have hml := Nat.mod_lt (a.states.toNat - (k + j) + (T - k) - 1) hd
      generalize (a.states.toNat - (k + j) + (T - k) - 1) / (T - k) = q at hm
      generalize (a.states.toNat - (k + j) + (T - k) - 1) % (T - k) = r at hm hml
      have hp := perQ q (k + j) (by omega)
      generalize (T - k) * q = dq at hm hp
      exact ⟨k + j + dq, by omega, by omega, l, by rw [hp]; exact g3, hxb⟩
  · rintro ⟨i, i1, i2, l, i3, x, i4, i5⟩
    right
    have hd : 0 < T - k := by omega
    have hm := Nat.div_add_mod (i - k) (T - k)
    have hml := Nat.mod_lt (i - k) hd
    generalize (i - k) / (T - k) = q at hm
    generalize (i - k) % (T - k) = r at hm hml
    have hp := perQ q (k + r) (by omega)
    rw [show k + r + (T - k) * q = i by omega, i3] at hp
    obtain ⟨l', g3, g4, g5⟩ := hmsi (k + r) (by omega)
    rw [← hp] at g3
    cases g3
    have hlen : k + r < ms.length := by rw [hist.len, hTe]; omega
    rw [List.getElem?_eq_getElem hlen] at g4
    have g4 : ms[k + r] = orAll 0 l := by simpa using g4
    refine ⟨ms[k + r], ?_, ?_⟩
    · have : (ms.drop k)[r]? = some ms[k + r] := by rw [List.getElem?_drop, List.getElem?_eq_getElem hlen]
      exact List.mem_of_getElem? this
    · rw [g4]
      exact ((orAll_isN l 0 isN_zero g5).2 b).2 (.inr ⟨x, i4, i5⟩)
end Go.Proofs.Ytdahmcgncpoliaa
