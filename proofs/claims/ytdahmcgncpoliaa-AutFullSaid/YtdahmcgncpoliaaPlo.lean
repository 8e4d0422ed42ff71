/- The law AutFull, in plain words: what Fill hands back. -/
import Derived.Test.YtdahmcgncpoliaaPln
set_option linter.unusedVariables false
set_option linter.unusedSimpArgs false
namespace Go.Proofs.Ytdahmcgncpoliaa
open Go Go.Vh Go.Proofs
theorem Wp.missL_eq {q : Wp} (h : q.Ok) {s : Nat} (hs : s < q.states.toNat) : q.au.missL s (2 ^ q.props.toNat) = ((List.range (2 ^ q.props.toNat)).filter fun i => !q.goes s i).map fun (i : Nat) => ⟨(s : Int), q.states, ((2 ^ q.props.toNat : Nat) : Int) - 1, (i : Int), 0⟩ := by
  unfold Au.missL
  have : (List.range (2 ^ q.props.toNat)).filter (fun i => !((q.au.ms q.au.es.length).getD s 0).testBit i) = (List.range (2 ^ q.props.toNat)).filter fun i => !q.goes s i := by
    apply List.filter_congr
    intro i hi
    rw [Wp.msbit h hs, decide_eq_true (List.mem_range.1 hi), Bool.true_and]
  rw [this]
  rfl
theorem filter_not_length {α} (p : α → Bool) : ∀ l : List α, (l.filter p).length + (l.filter fun x => !p x).length = l.length
  | [] => rfl
  | x :: l => by
    have := filter_not_length p l
    cases h : p x <;> simp [List.filter_cons, h] <;> omega
def Wp.cnt (q : Wp) : Nat → Nat
  | 0 => 0
  | s + 1 => q.cnt s + (if (s : Int) % q.gap = 0 then 1 else 0)
theorem range_pos_filter (n : Nat) : ((List.range (n + 1)).filter fun i => decide (i = 0)) = [0] := by
  rw [List.range_succ_eq_map, List.filter_cons]
  simp
theorem Wp.missL_length {q : Wp} (h : q.Ok) {s : Nat} (hs : s < q.states.toNat) : (q.au.missL s (2 ^ q.props.toNat)).length = if (s : Int) % q.gap = 0 then 1 else 0 := by
  rw [Wp.missL_eq h hs, List.length_map]
  have hpos : 0 < 2 ^ q.props.toNat := Nat.two_pow_pos _
  obtain ⟨n, hn⟩ : ∃ n, 2 ^ q.props.toNat = n + 1 := ⟨2 ^ q.props.toNat - 1, by omega⟩
  rw [hn]
  by_cases hg : (s : Int) % q.gap = 0
  · rw [if_pos hg]
    have : (fun i : Nat => !q.goes s i) = fun i => decide (i = 0) := by
      funext i
      unfold Wp.goes
      simp only [hg, not_true, decide_false, Bool.or_false]
      rcases i with _ | i <;> simp
    rw [this, range_pos_filter]
    rfl
  · rw [if_neg hg]
    have : (fun i : Nat => !q.goes s i) = fun _ => false := by
      funext i
      unfold Wp.goes
      simp [hg]
    rw [this]
    simp
theorem Wp.missA_length {q : Wp} (h : q.Ok) : ∀ s, s ≤ q.states.toNat → (q.au.missA s).length = q.cnt s
  | 0, _ => rfl
  | s + 1, hs => by
    have ih := Wp.missA_length h s (by omega)
    have e : q.au.missA (s + 1) = q.au.missA s ++ q.au.missL s (2 ^ q.props.toNat) := by
      unfold Au.missA
      rw [List.range_succ, List.flatMap_append]
      simp
      rfl
    rw [e, List.length_append, ih, Wp.missL_length h (by omega)]
    rfl
theorem Wp.cnt_eq {q : Wp} (hg : 0 < q.gap) : ∀ s : Nat, (q.cnt s : Int) = ((s : Int) + q.gap - 1) / q.gap
  | 0 => by
    show (0 : Int) = (((0 : Nat) : Int) + q.gap - 1) / q.gap
    rw [Int.ediv_eq_zero_of_lt] <;> omega
  | s + 1 => by
    have ih := Wp.cnt_eq hg s
    have h1 : (((s + 1 : Nat) : Int) + q.gap - 1) / q.gap = (s : Int) / q.gap + 1 := by
      rw [show ((s + 1 : Nat) : Int) + q.gap - 1 = (s : Int) + 1 * q.gap by omega, Int.add_mul_ediv_right _ _ (by omega)]
    have hm := Int.emod_add_mul_ediv (s : Int) q.gap
    have hr0 := Int.emod_nonneg (s : Int) (show q.gap ≠ 0 by omega)
    have hr1 := Int.emod_lt_of_pos (s : Int) hg
    have h2 : ((s : Int) + q.gap - 1) / q.gap = (s : Int) / q.gap + (((s : Int) % q.gap + q.gap - 1) / q.gap) := by
      have : (s : Int) + q.gap - 1 = ((s : Int) % q.gap + q.gap - 1) + q.gap * ((s : Int) / q.gap) := by omega
      rw [this, Int.add_mul_ediv_left _ _ (by omega)]
      omega
    rw [h1]
    show ((q.cnt s + (if (s : Int) % q.gap = 0 then 1 else 0) : Nat) : Int) = _
    by_cases hz : (s : Int) % q.gap = 0
    · rw [if_pos hz]
      have h3 : ((s : Int) % q.gap + q.gap - 1) / q.gap = 0 := by rw [Int.ediv_eq_zero_of_lt] <;> omega
      omega
    · rw [if_neg hz]
      have h3 : ((s : Int) % q.gap + q.gap - 1) / q.gap = 1 := by
        rw [show (s : Int) % q.gap + q.gap - 1 = ((s : Int) % q.gap - 1) + 1 * q.gap by omega, Int.add_mul_ediv_right _ _ (by omega), Int.ediv_eq_zero_of_lt] <;> omega
      omega
theorem Wp.row_cnt (q : Wp) (s : Nat) : (q.row s (2 ^ q.props.toNat)).length + (if (s : Int) % q.gap = 0 then 1 else 0) = 2 ^ q.props.toNat := by
  unfold Wp.row
  rw [List.length_map]
  have := filter_not_length (q.goes s) (List.range (2 ^ q.props.toNat))
  rw [List.length_range] at this
  have h2 : ((List.range (2 ^ q.props.toNat)).filter fun x => !q.goes s x).length = if (s : Int) % q.gap = 0 then 1 else 0 := by
    have hpos : 0 < 2 ^ q.props.toNat := Nat.two_pow_pos _
    obtain ⟨n, hn⟩ : ∃ n, 2 ^ q.props.toNat = n + 1 := ⟨2 ^ q.props.toNat - 1, by omega⟩
    rw [hn]
    by_cases hg : (s : Int) % q.gap = 0
    · rw [if_pos hg]
      have : (fun i : Nat => !q.goes s i) = fun i => decide (i = 0) := by
        funext i
        unfold Wp.goes
        simp only [hg, not_true, decide_false, Bool.or_false]
        rcases i with _ | i <;> simp
      rw [this, range_pos_filter]
      rfl
    · rw [if_neg hg]
      have : (fun i : Nat => !q.goes s i) = fun _ => false := by
        funext i
        unfold Wp.goes
        simp [hg]
      rw [this]
      simp
  omega
theorem Wp.all_cnt (q : Wp) : ∀ s, (q.all s).length + q.cnt s = s * 2 ^ q.props.toNat
  | 0 => by simp [Wp.all, Wp.cnt]
  | s + 1 => by
    have ih := Wp.all_cnt q s
    have := q.row_cnt s
    rw [q.all_succ, List.length_append, Nat.add_mul, Nat.one_mul]
    show _ + (q.cnt s + (if (s : Int) % q.gap = 0 then 1 else 0)) = _
    omega
theorem rfE_length (a : Au) : a.rfE.length = a.es.length := by unfold Au.rfE; split <;> simp
theorem Wp.out_length {q : Wp} (h : q.Ok) : q.au.outE.length = (q.all q.states.toNat).length + q.cnt q.states.toNat + 1 := by
  unfold Au.outE
  rw [List.length_append, List.length_append, rfE_length]
  have := Wp.missA_length h q.states.toNat (Nat.le_refl _)
  show (q.all q.states.toNat).length + (q.au.missA q.states.toNat).length + 1 = _
  omega
theorem Wp.cnt_le {q : Wp} : ∀ s, q.cnt s ≤ s
  | 0 => Nat.le_refl _
  | s + 1 => by
    have ih := Wp.cnt_le (q := q) s
    show q.cnt s + (if (s : Int) % q.gap = 0 then 1 else 0) ≤ s + 1
    split <;> omega
/-- What the law computes as missing. -/
theorem Wp.missing {q : Wp} (h : q.Ok) (hg : q.gap ≤ 9223372036854775807) :
    ∃ m : Int, IntKind.wrap .i64 ((IntKind.wrap .i64 (IntKind.wrap .i64 (q.states + q.gap) - 1)).tdiv q.gap) = m ∧ ((m = q.cnt q.states.toNat) ∨ (q.cnt q.states.toNat = 1 ∧ -1 ≤ m ∧ m ≤ 1)) := by
  refine ⟨_, rfl, ?_⟩
  have hs1 := h.s1
  have hs3 := h.s3
  have hg0 := h.g0
  have hc := Wp.cnt_eq hg0 q.states.toNat
  have hl := Wp.cnt_le (q := q) q.states.toNat
  have hs : ((q.states.toNat : Nat) : Int) = q.states := by omega
  rw [hs] at hc
  by_cases hbig : q.states + q.gap ≤ 9223372036854775808
  · left
    have e : IntKind.wrap .i64 (IntKind.wrap .i64 (q.states + q.gap) - 1) = q.states + q.gap - 1 := by
      by_cases h2 : q.states + q.gap = 9223372036854775808
      · rw [h2]; decide
      · rw [wrap_i64 (n := q.states + q.gap) (by omega) (by omega), wrap_i64 (by omega) (by omega)]
    rw [e, Int.tdiv_eq_ediv_of_nonneg (by omega), ← hc, wrap_i64 (by omega) (by omega)]
  · right
    have e1 : IntKind.wrap .i64 (q.states + q.gap) = q.states + q.gap - 18446744073709551616 := by
      have : IntKind.wrap .i64 (q.states + q.gap) = IntKind.wrap .i64 (q.states + q.gap - 18446744073709551616) := by
        unfold IntKind.wrap
        simp only [IntKind.bits]
        rw [show q.states + q.gap - 18446744073709551616 = q.states + q.gap + (-1) * (2 ^ 64 : Int) by omega]
        simp
      rw [this, wrap_i64 (by omega) (by omega)]
    rw [e1, wrap_i64 (n := _ - 1) (by omega) (by omega)]
    have hM : ((q.states : Int) + q.gap - 1) / q.gap = 1 := by
      rw [show q.states + q.gap - 1 = (q.states - 1) + 1 * q.gap by omega, Int.add_mul_ediv_right _ _ (by omega), Int.ediv_eq_zero_of_lt] <;> omega
    have hdiv : (q.states + q.gap - 18446744073709551616 - 1).tdiv q.gap = -((18446744073709551617 - q.states - q.gap) / q.gap) := by
      rw [show q.states + q.gap - 18446744073709551616 - 1 = -(18446744073709551617 - q.states - q.gap) by omega, Int.neg_tdiv, Int.tdiv_eq_ediv_of_nonneg (by omega)]
    have h0 : 0 ≤ (18446744073709551617 - q.states - q.gap) / q.gap := Int.ediv_nonneg (by omega) (by omega)
    have h1 : (18446744073709551617 - q.states - q.gap) / q.gap ≤ 1 := by
      have : (18446744073709551617 - q.states - q.gap) / q.gap < 2 := Int.ediv_lt_of_lt_mul (by omega) (by omega)
      omega
    rw [hdiv, wrap_i64 (by omega) (by omega)]
    omega
/-- What Fill hands back. -/
def Wp.bu (q : Wp) : Au := ⟨q.props, q.states + 1, q.kind, q.au.rfM, [0], q.au.outE⟩
theorem Wp.rfM_ok {q : Wp} (h : q.Ok) : MarksOk q.kind q.au.rfM := by
  obtain ⟨m0, m1, m2, m3⟩ := h.mok
  have hk : q.au.kind = q.kind := rfl
  have hm : q.au.marks = q.marks := rfl
  unfold Au.rfM MarksOk
  rw [hk, hm]
  split
  · omega
  · split
    · omega
    · exact ⟨m0, m1, m2, m3⟩
theorem Wp.mem_rfE {q : Wp} {e : Edg} (he : e ∈ q.au.rfE) : ∃ f ∈ q.au.es, (e = f ∧ q.au.rfE = q.au.es) ∨ (e = mark1 f ∧ q.au.rfM = 1) := by
  unfold Au.rfE at he
  split at he
  · rename_i hc
    obtain ⟨f, hf, rfl⟩ := List.mem_map.1 he
    exact ⟨f, hf, .inr ⟨rfl, if_pos hc⟩⟩
  · rename_i hc
    exact ⟨e, he, .inl ⟨rfl, if_neg hc⟩⟩
theorem Wp.mem_missA {q : Wp} (h : q.Ok) {e : Edg} (he : e ∈ q.au.missA q.states.toNat) : ∃ s i : Nat, s < q.states.toNat ∧ i < 2 ^ q.props.toNat ∧ q.goes s i = false ∧ e = ⟨(s : Int), q.states, ((2 ^ q.props.toNat : Nat) : Int) - 1, (i : Int), 0⟩ := by
  unfold Au.missA at he
  obtain ⟨s, hs, he⟩ := List.mem_flatMap.1 he
  have hs := List.mem_range.1 hs
  have he : e ∈ q.au.missL s (2 ^ q.props.toNat) := he
  rw [Wp.missL_eq h hs] at he
  obtain ⟨i, hi, rfl⟩ := List.mem_map.1 he
  obtain ⟨h1, h2⟩ := List.mem_filter.1 hi
  exact ⟨s, i, hs, List.mem_range.1 h1, by simpa using h2, rfl⟩
theorem Wp.of_missA {q : Wp} (h : q.Ok) {s i : Nat} (hs : s < q.states.toNat) (hi : i < 2 ^ q.props.toNat) (hg : q.goes s i = false) : (⟨(s : Int), q.states, ((2 ^ q.props.toNat : Nat) : Int) - 1, (i : Int), 0⟩ : Edg) ∈ q.au.missA q.states.toNat := by
  unfold Au.missA
  refine List.mem_flatMap.2 ⟨s, List.mem_range.2 hs, ?_⟩
  show _ ∈ q.au.missL s (2 ^ q.props.toNat)
  rw [Wp.missL_eq h hs]
  exact List.mem_map.2 ⟨i, List.mem_filter.2 ⟨List.mem_range.2 hi, by simp [hg]⟩, rfl⟩
theorem Wp.mem_out {q : Wp} (h : q.Ok) {e : Edg} (he : e ∈ q.au.outE) : (∃ s l : Nat, s < q.states.toNat ∧ l < 2 ^ q.props.toNat ∧ e.fr = (s : Int) ∧ e.to = (s : Int) ∧ e.care = ((2 ^ q.props.toNat : Nat) : Int) - 1 ∧ e.bits = (l : Int) ∧ (e.marks = 0 ∨ (e.marks = 1 ∧ q.au.rfM = 1))) ∨ (∃ s i : Nat, s < q.states.toNat ∧ i < 2 ^ q.props.toNat ∧ e = ⟨(s : Int), q.states, ((2 ^ q.props.toNat : Nat) : Int) - 1, (i : Int), 0⟩) ∨ e = q.au.lastE := by
  unfold Au.outE at he
  rcases List.mem_append.1 he with he | he
  · rcases List.mem_append.1 he with he | he
    · obtain ⟨f, hf, hfe⟩ := Wp.mem_rfE he
      obtain ⟨s, l, h1, h2, h3, rfl⟩ := Wp.mem_all.1 hf
      refine .inl ⟨s, l, h1, h2, ?_⟩
      rcases hfe with ⟨rfl, _⟩ | ⟨rfl, hm⟩
      · exact ⟨rfl, rfl, rfl, rfl, .inl rfl⟩
      · exact ⟨rfl, rfl, rfl, rfl, .inr ⟨rfl, hm⟩⟩
    · obtain ⟨s, i, h1, h2, _, rfl⟩ := Wp.mem_missA h he
      exact .inr (.inl ⟨s, i, h1, h2, rfl⟩)
  · exact .inr (.inr (List.mem_singleton.1 he))
theorem sinkI_range (k : Int) : 0 ≤ sinkI k ∧ sinkI k ≤ 2 := by unfold sinkI; by_cases h : k = 2 <;> by_cases h' : k = 4 <;> simp [h, h']
theorem Wp.bfits {q : Wp} (h : q.Ok) (hl : q.au.outE.length ≤ 40000) : q.bu.Fits := by
  have h64 := pow6 (show q.props.toNat ≤ 6 by have := h.p6; omega)
  have hs1 := h.s1
  have hs3 := h.s3
  refine ⟨by show 1 ≤ _; decide, by show q.au.outE.length ≤ _; omega, ?_, ?_⟩
  · intro x hx
    have hx : x ∈ ([0] : List Int) := hx
    simp at hx; subst hx; exact ⟨by decide, by decide⟩
  · intro e he x hx
    simp only [Edg.l, List.mem_cons, List.not_mem_nil, or_false] at hx
    unfold fits64
    rcases Wp.mem_out h he with ⟨s, l, h1, h2, e1, e2, e3, e4, e5⟩ | ⟨s, i, h1, h2, rfl⟩ | rfl
    · rw [e1, e2, e3, e4] at hx
      rcases hx with rfl | rfl | rfl | rfl | rfl <;> omega
    · dsimp only at hx
      rcases hx with rfl | rfl | rfl | rfl | rfl <;> omega
    · have hr := sinkI_range q.kind
      have hx : x = q.states ∨ x = q.states ∨ x = 0 ∨ x = 0 ∨ x = sinkI q.kind := hx
      rcases hx with rfl | rfl | rfl | rfl | rfl <;> omega
theorem two_le_pow {n : Nat} (h : 1 ≤ n) : (2 : Int) ≤ 2 ^ n := by
  obtain ⟨m, rfl⟩ : ∃ m, n = m + 1 := ⟨n - 1, by omega⟩
  have : (0 : Int) < 2 ^ m := Int.pow_pos (by decide)
  rw [Int.pow_succ]; omega
theorem four_le_pow {n : Nat} (h : 2 ≤ n) : (4 : Int) ≤ 2 ^ n := by
  obtain ⟨m, rfl⟩ : ∃ m, n = m + 1 := ⟨n - 1, by omega⟩
  have := two_le_pow (n := m) (by omega)
  rw [Int.pow_succ]; omega
theorem Wp.sinkOk {q : Wp} (h : q.Ok) : sinkI q.kind < 2 ^ q.au.rfM.toNat := by
  obtain ⟨m0, m1, m2, m3⟩ := h.mok
  have hk : q.au.kind = q.kind := rfl
  have hm : q.au.marks = q.marks := rfl
  unfold sinkI
  by_cases h2 : q.kind = 2
  · rw [if_pos h2]
    have hm1 := m2 (.inr h2)
    have e : q.au.rfM = 1 := by
      unfold Au.rfM
      rw [hk, hm, if_neg (by omega), if_neg (by omega), hm1]
    rw [e]; decide
  · rw [if_neg h2]
    by_cases h4 : q.kind = 4
    · rw [if_pos h4]
      have he := m3 (.inr h4)
      have : 2 ≤ q.au.rfM := by
        unfold Au.rfM
        rw [hk, hm, if_neg (by omega)]
        split <;> omega
      have := four_le_pow (n := q.au.rfM.toNat) (by omega)
      omega
    · rw [if_neg h4]; exact marks_pos
theorem Wp.bok {q : Wp} (h : q.Ok) (hS : q.states ≠ 3000) (hl : q.au.outE.length ≤ 40000) : q.bu.Ok := by
  have h64 := pow6 (show q.props.toNat ≤ 6 by have := h.p6; omega)
  have hs1 := h.s1
  have hs3 := h.s3
  have hp6 := h.p6
  have hpc := pow_cast q.props.toNat
  have hpos : 0 < 2 ^ q.props.toNat := Nat.two_pow_pos _
  refine ⟨⟨h.p0, h.p6, by show 0 ≤ q.states + 1; omega, by show q.states + 1 ≤ 3000; omega, h.k0, h.k5, Wp.rfM_ok h, hl⟩, fun j hj => ?_, fun e he => ?_⟩
  · have hj : j < 1 := hj
    obtain rfl : j = 0 := by omega
    exact ⟨Int.le_refl _, by show (0 : Int) < q.states + 1; omega, fun h => absurd h (Nat.lt_irrefl _)⟩
  · show 0 ≤ e.fr ∧ e.fr < q.states + 1 ∧ 0 ≤ e.to ∧ e.to < q.states + 1 ∧ 0 ≤ e.care ∧ e.care < 2 ^ q.props.toNat ∧ bitsA .andNot .i64 e.bits e.care = 0 ∧ 0 ≤ e.marks ∧ e.marks < 2 ^ q.au.rfM.toNat
    have hpm : (0 : Int) < 2 ^ q.au.rfM.toNat := marks_pos
    rcases Wp.mem_out h he with ⟨s, l, h1, h2, e1, e2, e3, e4, e5⟩ | ⟨s, i, h1, h2, rfl⟩ | rfl
    · rw [e1, e2, e3, e4]
      refine ⟨by omega, by omega, by omega, by omega, by omega, by omega, andNot_low (by omega) h2, ?_⟩
      rcases e5 with e5 | ⟨e5, e6⟩
      · rw [e5]; exact ⟨Int.le_refl _, hpm⟩
      · rw [e5, e6]; decide
    · dsimp only
      refine ⟨by omega, by omega, by omega, by omega, by omega, by omega, andNot_low (by omega) h2, Int.le_refl _, hpm⟩
    · have := Wp.sinkOk h
      have hr := sinkI_range q.kind
      exact ⟨by show 0 ≤ q.states; omega, by show q.states < q.states + 1; omega, by show 0 ≤ q.states; omega, by show q.states < q.states + 1; omega, Int.le_refl _, by show (0 : Int) < _; omega, by show bitsA .andNot .i64 0 0 = 0; decide, hr.1, this⟩
theorem Wp.bwhole {q : Wp} (h : q.Ok) : q.bu.WholeP := by
  intro s hs l hl
  have hp6 : q.props.toNat ≤ 6 := by have := h.p6; omega
  have h64 := pow6 hp6
  have hl : l < 2 ^ q.props.toNat := hl
  have hs1 := h.s1
  have hs : s < (q.states + 1).toNat := hs
  show ∃ e ∈ q.au.outE, e.fr.toNat = s ∧ readsB e l = true
  unfold Au.outE
  by_cases hlt : s < q.states.toNat
  · cases hg : q.goes s l with
    | true =>
      have hmem : q.edge s l ∈ q.au.es := Wp.mem_all.2 ⟨s, l, hlt, hl, hg, rfl⟩
      have : ∃ e ∈ q.au.rfE, e.fr = (s : Int) ∧ e.care = ((2 ^ q.props.toNat : Nat) : Int) - 1 ∧ e.bits = (l : Int) := by
        unfold Au.rfE
        split
        · exact ⟨mark1 (q.edge s l), List.mem_map.2 ⟨_, hmem, rfl⟩, rfl, rfl, rfl⟩
        · exact ⟨q.edge s l, hmem, rfl, rfl, rfl⟩
      obtain ⟨e, he, e1, e2, e3⟩ := this
      exact ⟨e, by simp [he], by rw [e1]; rfl, (reads_low hp6 e2 e3 hl).2 rfl⟩
    | false =>
      have hmem := Wp.of_missA h hlt hl hg
      exact ⟨_, List.mem_append_left _ (List.mem_append_right _ hmem), rfl, (reads_low hp6 rfl rfl hl).2 rfl⟩
  · have : s = q.states.toNat := by omega
    subst this
    exact ⟨q.au.lastE, by simp, rfl, (readsB_nat (c := 0) (x := 0) rfl rfl (by decide) (by omega)).2 (by simp)⟩
/-- The cases of the law. -/
theorem Wp.cases {q : Wp} (h : q.Ok) {m : Int} (hm : (m = q.cnt q.states.toNat) ∨ (q.cnt q.states.toNat = 1 ∧ -1 ≤ m ∧ m ≤ 1)) :
    ((q.states = 3000 ∨ 40000 < ((q.all q.states.toNat).length : Int) + m + 1) → (q.states = 3000 ∨ 40000 < q.au.outE.length)) ∧
    (q.states ≠ 3000 → ((q.all q.states.toNat).length : Int) + m + 1 ≤ 40000 → ((q.all q.states.toNat).length : Int) + m + (2 ^ q.props.toNat : Nat) ≤ 40000 → q.au.outE.length ≤ 40000) := by
  have hol := Wp.out_length h
  have hac := q.all_cnt q.states.toNat
  have hne := h.ne
  have hs1 := h.s1
  have hs3 := h.s3
  have hl := Wp.cnt_le (q := q) q.states.toNat
  refine ⟨?_, ?_⟩
  · rintro (h1 | h1)
    · exact .inl h1
    · rcases hm with hm | hm
      · right; omega
      · right; omega
  · intro h1 h2 h3
    rcases hm with hm | ⟨hm1, hm2, hm3⟩
    · omega
    · rw [hol]
      rcases Nat.lt_or_ge 40000 ((q.all q.states.toNat).length + q.cnt q.states.toNat + 1) with hlt | hge
      · exfalso
        have hP : 2 ^ q.props.toNat ≤ 2 := by omega
        have : q.states.toNat * 2 ^ q.props.toNat ≤ q.states.toNat * 2 := Nat.mul_le_mul_left _ hP
        omega
      · exact hge
end Go.Proofs.Ytdahmcgncpoliaa
