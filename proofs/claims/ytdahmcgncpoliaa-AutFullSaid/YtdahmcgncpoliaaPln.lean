/- The law AutFull, in plain words. -/
import Derived.Test.YtdahmcgncpoliaaWid
import Derived.Test.YtdahmcgncpoliaaLaw
set_option linter.unusedVariables false
set_option linter.unusedSimpArgs false
namespace Go.Proofs.Ytdahmcgncpoliaa
open Go Go.Vh Go.Proofs
structure Wp.Ok (q : Wp) : Prop where
  p0 : 0 ≤ q.props
  p6 : q.props ≤ 6
  s1 : 1 ≤ q.states
  s3 : q.states ≤ 3000
  k0 : 0 ≤ q.kind
  k5 : q.kind ≤ 5
  mok : MarksOk q.kind q.marks
  g0 : 0 < q.gap
  ne : (q.all q.states.toNat).length ≤ 40000
def Wp.au (q : Wp) : Au := ⟨q.props, q.states, q.kind, q.marks, [0], q.all q.states.toNat⟩
theorem low_and {p x : Nat} (h : x < 2 ^ p) : x &&& (2 ^ p - 1) = x := by rw [Nat.and_two_pow_sub_one_eq_mod, Nat.mod_eq_of_lt h]
theorem andNot_low {p x : Nat} (hp : p ≤ 6) (h : x < 2 ^ p) : bitsA .andNot .i64 (x : Int) (((2 ^ p : Nat) : Int) - 1) = 0 := by
  have h64 := pow6 hp
  have hpos : 0 < 2 ^ p := Nat.two_pow_pos p
  have e : (((2 ^ p : Nat) : Int) - 1) = ((2 ^ p - 1 : Nat) : Int) := by omega
  rw [e]
  have hb : (BitVec.ofInt 64 (x : Int) &&& ~~~(BitVec.ofInt 64 ((2 ^ p - 1 : Nat) : Int))) = 0#64 := by
    apply BitVec.eq_of_getLsbD_eq
    intro i hi
    simp only [BitVec.getLsbD_and, BitVec.getLsbD_not, ofInt_nat, BitVec.getLsbD_ofNat, BitVec.getLsbD_zero, hi, decide_true, Bool.true_and]
    have := congrArg (fun n => n.testBit i) (low_and h)
    simp only [Nat.testBit_and] at this
    cases h1 : x.testBit i <;> cases h2 : (2 ^ p - 1).testBit i <;> simp_all
  show IntKind.wrap .i64 ((BitVec.ofInt 64 (x : Int) &&& ~~~(BitVec.ofInt 64 ((2 ^ p - 1 : Nat) : Int))).toNat : Int) = 0
  rw [hb]
  decide
theorem reads_low {p : Nat} (hp : p ≤ 6) {e : Edg} {l b : Nat} (hc : e.care = ((2 ^ p : Nat) : Int) - 1) (hb : e.bits = (l : Int)) (h : b < 2 ^ p) : readsB e b = true ↔ b = l := by
  have h64 := pow6 hp
  have hpos : 0 < 2 ^ p := Nat.two_pow_pos p
  rw [readsB_nat (c := 2 ^ p - 1) (x := l) (by rw [hc]; omega) hb (by omega) (by omega), low_and h]
theorem Wp.mem_row {q : Wp} {s k : Nat} {e : Edg} : e ∈ q.row s k ↔ ∃ l, l < k ∧ q.goes s l = true ∧ e = q.edge s l := by
  unfold Wp.row
  simp only [List.mem_map, List.mem_filter, List.mem_range]
  constructor
  · rintro ⟨l, ⟨h1, h2⟩, rfl⟩; exact ⟨l, h1, h2, rfl⟩
  · rintro ⟨l, h1, h2, rfl⟩; exact ⟨l, ⟨h1, h2⟩, rfl⟩
theorem Wp.mem_all {q : Wp} {n : Nat} {e : Edg} : e ∈ q.all n ↔ ∃ s l, s < n ∧ l < 2 ^ q.props.toNat ∧ q.goes s l = true ∧ e = q.edge s l := by
  unfold Wp.all
  simp only [List.mem_flatMap, List.mem_range, Wp.mem_row]
  constructor
  · rintro ⟨s, h1, l, h2, h3, rfl⟩; exact ⟨s, l, h1, h2, h3, rfl⟩
  · rintro ⟨s, l, h1, h2, h3, rfl⟩; exact ⟨s, h1, l, h2, h3, rfl⟩
theorem Wp.fits {q : Wp} (h : q.Ok) : q.au.Fits := by
  have h64 := pow6 (show q.props.toNat ≤ 6 by have := h.p6; omega)
  refine ⟨by show 1 ≤ _; decide, by show (q.all q.states.toNat).length ≤ _; have := h.ne; omega, ?_, ?_⟩
  · intro x hx
    have hx : x ∈ ([0] : List Int) := hx
    simp at hx; subst hx; exact ⟨by decide, by decide⟩
  · intro e he x hx
    obtain ⟨s, l, h1, h2, h3, rfl⟩ := Wp.mem_all.1 he
    have := h.s3
    simp only [Edg.l, Wp.edge, List.mem_cons, List.not_mem_nil, or_false] at hx
    unfold fits64
    rcases hx with rfl | rfl | rfl | rfl | rfl <;> omega
theorem marks_pos {m : Int} : (0 : Int) < 2 ^ m.toNat := Int.pow_pos (by decide)
theorem pow_cast (p : Nat) : ((2 ^ p : Nat) : Int) = 2 ^ p := by simp
theorem Wp.aok {q : Wp} (h : q.Ok) : q.au.Ok := by
  have h64 := pow6 (show q.props.toNat ≤ 6 by have := h.p6; omega)
  have hs1 := h.s1
  refine ⟨⟨h.p0, h.p6, by show 0 ≤ q.states; omega, h.s3, h.k0, h.k5, h.mok, h.ne⟩, fun j hj => ?_, fun e he => ?_⟩
  · have hj : j < 1 := hj
    obtain rfl : j = 0 := by omega
    exact ⟨Int.le_refl _, by show (0 : Int) < q.states; omega, fun h => absurd h (Nat.lt_irrefl _)⟩
  · obtain ⟨s, l, h1, h2, h3, rfl⟩ := Wp.mem_all.1 he
    have hp : (((2 ^ q.props.toNat : Nat) : Int) - 1) < 2 ^ q.props.toNat := by rw [pow_cast]; omega
    have hpos : 0 < 2 ^ q.props.toNat := Nat.two_pow_pos _
    refine ⟨by show (0 : Int) ≤ (s : Int); omega, by show (s : Int) < q.states; omega, by show (0 : Int) ≤ (s : Int); omega, by show (s : Int) < q.states; omega, by show (0 : Int) ≤ ((2 ^ q.props.toNat : Nat) : Int) - 1; omega, hp, andNot_low (by have := h.p6; omega) h2, Int.le_refl _, marks_pos⟩
/-- An edge of a state and one ahead of it have different letters. -/
theorem Wp.pairs (q : Wp) : ∀ n, (q.all n).Pairwise fun f e => f.fr = e.fr → f.bits ≠ e.bits
  | 0 => by simp [Wp.all]
  | n + 1 => by
    rw [q.all_succ, List.pairwise_append]
    refine ⟨q.pairs n, ?_, ?_⟩
    · unfold Wp.row
      rw [List.pairwise_map]
      refine List.Pairwise.imp ?_ (List.Pairwise.filter _ (List.pairwise_lt_range (n := 2 ^ q.props.toNat)))
      intro a b hab _ h
      have h : (a : Int) = (b : Int) := h
      omega
    · intro f hf e he h
      obtain ⟨s, l, h1, _, _, rfl⟩ := Wp.mem_all.1 hf
      obtain ⟨l', _, _, rfl⟩ := Wp.mem_row.1 he
      have h : (s : Int) = (n : Int) := h
      omega
theorem Wp.apar {q : Wp} (h : q.Ok) : q.au.Apar q.au.es.length := by
  have hp6 : q.props.toNat ≤ 6 := by have := h.p6; omega
  have h64 := pow6 hp6
  have hpos : 0 < 2 ^ q.props.toNat := Nat.two_pow_pos _
  intro i hi _ f hf
  have hi : i < (q.all q.states.toNat).length := hi
  unfold Au.ahead at hf
  obtain ⟨hft, hfr⟩ := List.mem_filter.1 hf
  obtain ⟨j, hj, rfl⟩ := List.getElem_of_mem hft
  rw [List.getElem_take]
  rw [List.getElem_take] at hfr
  rw [List.length_take] at hj
  have hj2 : j < (q.all q.states.toNat).length := by have : j < min i q.au.es.length := hj; show j < q.au.es.length; omega
  have hp := List.pairwise_iff_getElem.1 (q.pairs q.states.toNat) j i hj2 hi (by omega)
  obtain ⟨s, l, h1, h2, _, e1⟩ := Wp.mem_all.1 (List.getElem_mem hi)
  obtain ⟨s', l', h1', h2', _, e2⟩ := Wp.mem_all.1 (List.getElem_mem hj2)
  show clashB (q.all q.states.toNat)[i] (q.all q.states.toNat)[j] = false
  have hfr : ((q.all q.states.toNat)[j].fr.toNat == (q.all q.states.toNat)[i].fr.toNat) = true := hfr
  rw [e1, e2] at hfr hp ⊢
  have hss : s' = s := by simpa [Wp.edge] using hfr
  subst hss
  have hne : l' ≠ l := fun h => hp rfl (by show (l' : Int) = (l : Int); rw [h])
  cases hc : clashB (q.edge s' l) (q.edge s' l') with
  | false => rfl
  | true =>
    exfalso
    have hcare : ∀ x, (q.edge s' x).care = ((2 ^ q.props.toNat - 1 : Nat) : Int) := fun x => by show ((2 ^ q.props.toNat : Nat) : Int) - 1 = _; omega
    have := (clashB_nat (hcare l) (show (q.edge s' l).bits = (l : Int) from rfl) (hcare l') (show (q.edge s' l').bits = (l' : Int) from rfl) (by omega) (by omega) (by omega) (by omega)).1 hc
    rw [low_and h2, low_and h2'] at this
    exact hne this.symm
theorem Wp.sep {q : Wp} (h : q.Ok) : q.au.Sep q.au.es.length := (q.au.sep_iff (Wp.fits h) (Wp.aok h)).2 (Wp.apar h)
theorem Wp.msbit {q : Wp} (h : q.Ok) {s b : Nat} (hs : s < q.states.toNat) : ((q.au.ms q.au.es.length).getD s 0).testBit b = (decide (b < 2 ^ q.props.toNat) && q.goes s b) := by
  have hp6 : q.props.toNat ≤ 6 := by have := h.p6; omega
  have hok := Wp.aok h
  have hfr : ∀ e ∈ q.au.es, 0 ≤ e.fr ∧ e.fr < q.au.states := fun e he => ⟨(hok.2.2 e he).1, (hok.2.2 e he).2.1⟩
  have key := q.au.ms_bit hfr q.au.es.length (Nat.le_refl _) s b
  have h2 : (∃ f ∈ q.au.ahead q.au.es.length s, (maskN f (2 ^ q.au.props.toNat)).testBit b = true) ↔ (b < 2 ^ q.props.toNat ∧ q.goes s b = true) := by
    unfold Au.ahead
    rw [List.take_length]
    constructor
    · rintro ⟨f, hf, hb⟩
      obtain ⟨hf1, hf2⟩ := List.mem_filter.1 hf
      obtain ⟨s', l, h1, h2, h3, rfl⟩ := Wp.mem_all.1 hf1
      rw [maskN_bit, Bool.and_eq_true, decide_eq_true_eq] at hb
      have hbl := (reads_low hp6 rfl rfl hb.1).1 hb.2
      have hss : s' = s := by simpa [Wp.edge] using hf2
      subst hss hbl
      exact ⟨hb.1, h3⟩
    · rintro ⟨h1, h2⟩
      refine ⟨q.edge s b, List.mem_filter.2 ⟨Wp.mem_all.2 ⟨s, b, hs, h1, h2, rfl⟩, by simp [Wp.edge]⟩, ?_⟩
      rw [maskN_bit, Bool.and_eq_true, decide_eq_true_eq]
      exact ⟨h1, (reads_low hp6 rfl rfl h1).2 rfl⟩
  rw [h2] at key
  cases hl : ((q.au.ms q.au.es.length).getD s 0).testBit b <;> cases hr : (decide (b < 2 ^ q.props.toNat) && q.goes s b) <;> simp_all
theorem Wp.inc {q : Wp} (h : q.Ok) : ∃ y ∈ q.au.ms q.au.es.length, y ≠ allM q.au := by
  have hs1 := h.s1
  have hlen : 0 < (q.au.ms q.au.es.length).length := by rw [Au.ms_length]; show 0 < q.states.toNat; omega
  refine ⟨(q.au.ms q.au.es.length)[0], List.getElem_mem hlen, fun he => ?_⟩
  have hb := Wp.msbit h (s := 0) (b := 0) (by omega)
  rw [List.getD_eq_getElem?_getD, List.getElem?_eq_getElem hlen, Option.getD_some, he] at hb
  have hall : (allM q.au).testBit 0 = true := by
    unfold allM
    rw [maskN_bit, Bool.and_eq_true, decide_eq_true_eq]
    exact ⟨Nat.two_pow_pos _, by decide⟩
  rw [hall] at hb
  have hg : q.goes 0 0 = false := by simp [Wp.goes]
  rw [hg] at hb
  simp at hb
end Go.Proofs.Ytdahmcgncpoliaa
