/- What aut.Accepts and the reference's Accepts compute. -/
import Derived.Test.YtdahmcgncpoliaaVhR
import Derived.Test.YtdahmcgncpoliaaChecked
set_option linter.unusedVariables false
set_option linter.unusedSimpArgs false
set_option maxRecDepth 100000
namespace Go.Proofs.Ytdahmcgncpoliaa
open Go Go.Vh Go.Proofs
theorem mixed : Try.prog.follows .mixedOrders = true := by kernel_rfl
def hasA (a b : Int) : Bool := bitsA .and .i64 (shrA .i64 a b) 1 == 1
def hitA (inf : Int) (j : Nat) : Prop := hasA inf (2 * j) = false ∧ hasA inf (2 * j + 1) = true
theorem has74 (a b : Int) (hb : 0 ≤ b) (H : AHeap) : CallW Try.prog 74 [.int .i64 a, .int .i64 b] H fun v H' => H' = H ∧ v = .bool (hasA a b) := by
  refine CallW.sym Try.func74 rfl (by kernel_rfl) ?_
  conv => whnf
  refine Gets.shr hb ?_
  conv => whnf
  refine ⟨fun h => ?_, fun h => ?_⟩ <;> conv => whnf
  all_goals exact ⟨rfl, congrArg AVal.bool h.symm⟩
theorem has63 (a b : Int) (hb : 0 ≤ b) (H : AHeap) : CallW Try.prog 63 [.int .i64 a, .int .i64 b] H fun v H' => H' = H ∧ v = .bool (hasA a b) := by
  refine CallW.sym Try.func63 rfl (by kernel_rfl) ?_
  conv => whnf
  refine Gets.shr hb ?_
  conv => whnf
  refine ⟨fun h => ?_, fun h => ?_⟩ <;> conv => whnf
  all_goals exact ⟨rfl, congrArg AVal.bool h.symm⟩
theorem rabin77 (marks inf : Int) (hm : marks ≤ 100) (H : AHeap) : CallW Try.prog 77 [.int .i64 marks, .int .i64 inf] H fun v H' => H' = H ∧ ∃ b, v = .bool b ∧ (b = true ↔ ∃ j : Nat, 2 * (j : Int) < marks ∧ hitA inf j) := by
  refine CallW.sym Try.func77 rfl (by kernel_rfl) ?_
  conv => whnf
  refine CodeS.loopS (σ := Nat) (fun j => [(0, .int .i64 marks), (1, .int .i64 inf), (5, .int .i64 (2 * j))]) (fun _ => H) (fun j => 2 * (j : Int) ≤ max 0 (marks + 1) ∧ ∀ j' : Nat, j' < j → ¬ hitA inf j') (fun j => 1000 - j) 0 (by kernel_rfl)
    ⟨by omega, fun j' h => absurd h (Nat.not_lt_zero _)⟩ ⟨rfl, rfl, rfl, trivial⟩ rfl ?_
  rintro j ⟨h1, h2⟩
  conv => whnf
  have hw1 : ∀ k : Nat, k ≤ 100 → IntKind.wrap .i64 (2 * (k : Int) + 1) = 2 * k + 1 := fun k _ => wrap_i64 (by omega) (by omega)
  have fin : ¬ hitA inf j → 2 * (j : Int) < marks → (2 * ((j + 1 : Nat) : Int) ≤ max 0 (marks + 1) ∧ ∀ j' : Nat, j' < j + 1 → ¬ hitA inf j') ∧ 1000 - (j + 1) < 1000 - j := fun hn hc =>
    ⟨⟨by omega, fun j' h => by
      rcases Nat.lt_succ_iff_lt_or_eq.1 h with h | h
      · exact h2 j' h
      · subst h; exact hn⟩, by omega⟩
  have hw2 : 2 * (j : Int) < marks → AVal.int .i64 (IntKind.wrap .i64 (2 * (j : Int) + 2)) = .int .i64 (2 * ((j + 1 : Nat) : Int)) := fun hc => by rw [wrap_i64 (by omega) (by omega)]; congr 1
  refine ⟨fun hc => ?_, fun hc => ?_⟩ <;> conv => whnf
  · have hc : 2 * (j : Int) < marks := by simpa using hc
    refine CallS.of (by kernel_rfl) (has74 _ _ (by omega) _) rfl ?_
    rintro _ _ ⟨rfl, rfl⟩
    cases hx : hasA inf (2 * j) <;> conv => whnf
    · refine CallS.of (by kernel_rfl) (has74 _ _ (by rw [hw1 j (by omega)]; omega) _) rfl ?_
      rintro _ _ ⟨rfl, rfl⟩
      rw [hw1 j (by omega)]
      cases hy : hasA inf (2 * j + 1) <;> conv => whnf
      · have := fin (fun h => by rw [h.2] at hy; cases hy) hc
        exact ⟨j + 1, this.1, this.2, ⟨rfl, rfl, hw2 hc, trivial⟩, rfl⟩
      · exact ⟨rfl, true, rfl, by simp only [true_iff]; exact ⟨j, hc, hx, hy⟩⟩
    · have := fin (fun h => by rw [h.1] at hx; cases hx) hc
      exact ⟨j + 1, this.1, this.2, ⟨rfl, rfl, hw2 hc, trivial⟩, rfl⟩
  · have hc : ¬ 2 * (j : Int) < marks := by simpa using hc
    refine ⟨rfl, false, rfl, ?_⟩
    simp only [Bool.false_eq_true, false_iff, not_exists, not_and]
    intro k hk
    exact h2 k (by omega)
def MarksOk (kind marks : Int) : Prop := 0 ≤ marks ∧ marks ≤ 40 ∧ ((kind = 0 ∨ kind = 2) → marks = 1) ∧ ((kind = 3 ∨ kind = 4) → marks % 2 = 0)
theorem may37 (kind marks : Int) (H : AHeap) : CallW Try.prog 37 [.int .i64 kind, .int .i64 marks] H fun v H' => H' = H ∧ ∃ b, v = .bool b ∧ (b = true ↔ 0 ≤ kind ∧ kind ≤ 5 ∧ MarksOk kind marks) := by
  refine CallW.sym Try.func37 rfl (by kernel_rfl) ?_
  conv => whnf
  repeat' first
    | refine Fork.mk (fun h => ?_) (fun h => ?_) <;> conv => whnf
    | refine Gets.remN (by simp only [decide_eq_false_iff_not] at *; omega) (by decide) ?_; conv => whnf
  all_goals refine ⟨rfl, _, rfl, ?_⟩
  all_goals simp only [MarksOk, decide_eq_true_eq, decide_eq_false_iff_not, beq_iff_eq, beq_eq_false_iff_ne, ne_eq, Bool.false_eq_true, true_iff, false_iff] at *
  all_goals omega
theorem marks35 (kind marks : Int) (H : AHeap) : CallW Try.prog 35 [.int .i64 kind, .int .i64 marks] H fun v H' => H' = H ∧ ∃ b, v = .bool b ∧ (b = true ↔ MarksOk kind marks) := by
  refine CallW.sym Try.func35 rfl (by kernel_rfl) ?_
  conv => whnf
  repeat' first
    | refine Fork.mk (fun h => ?_) (fun h => ?_) <;> conv => whnf
    | refine Gets.remN (by simp only [decide_eq_false_iff_not] at *; omega) (by decide) ?_; conv => whnf
  all_goals refine ⟨rfl, _, rfl, ?_⟩
  all_goals simp only [MarksOk, decide_eq_true_eq, decide_eq_false_iff_not, beq_iff_eq, beq_eq_false_iff_ne, ne_eq, Bool.false_eq_true, true_iff, false_iff] at *
  all_goals omega
/-! ### The number of bits -/
def lenOk (x : Int) (r : Nat) : Prop := (x = 0 ∧ r = 0) ∨ (1 ≤ r ∧ r ≤ 64 ∧ (2 : Int) ^ (r - 1) ≤ x ∧ x < 2 ^ r)
instance (x : Int) (r : Nat) : Decidable (lenOk x r) := by unfold lenOk; infer_instance
def okTab (s : ByteArray) : Bool := s.size == 256 && (List.range 256).all fun i => match s.data.toList[i]? with | some c => decide (lenOk i c.toNat) | none => false
theorem Gets.lenTab {P : Program} {t : TypeId} {s : ByteArray} {k : IntKind} {i : Int} {A : AVal → Prop} (hu : P.underlying t = some .string) (hs : okTab s = true) (h0 : 0 ≤ i) (h1 : i < 256) (hA : ∀ r : Nat, lenOk i r → r ≤ 8 → A (.int .u8 r)) : Gets (aindex P t (.str s) (.int k i)) A := by
  simp only [okTab, Bool.and_eq_true, beq_iff_eq, List.all_eq_true, List.mem_range] at hs
  obtain ⟨hz, ht⟩ := hs
  have hsz : 0 ≤ i ∧ i < (s.size : Int) := by omega
  have hlt : i.toNat < s.data.toList.length := by rw [Array.length_toList]; change i.toNat < s.size; omega
  have hr := ht i.toNat (by omega)
  rw [List.getElem?_eq_getElem hlt] at hr
  simp only [decide_eq_true_eq] at hr
  have hr' : lenOk i (s.data.toList[i.toNat]).toNat := by rw [Int.toNat_of_nonneg h0] at hr; exact hr
  have he : ∀ h, s[i.toNat]'h = s.data.toList[i.toNat] := fun _ => by simp only [ByteArray.getElem_eq_getElem_data, Array.getElem_toList]
  refine ⟨⟨.int .u8 ((s[i.toNat]'(by omega)).toNat : Int), by simp only [aindex, hu, dif_pos hsz], ?_⟩⟩
  rw [he]
  refine hA _ hr' ?_
  rcases hr' with ⟨_, h⟩ | ⟨_, h2, h3, _⟩
  · rw [h]; omega
  · rcases Nat.lt_or_ge 8 (s.data.toList[i.toNat]).toNat with h | h
    · exfalso
      have : (2 : Int) ^ 8 ≤ 2 ^ ((s.data.toList[i.toNat]).toNat - 1) := by
        exact_mod_cast Nat.pow_le_pow_right (by decide) (by omega : 8 ≤ (s.data.toList[i.toNat]).toNat - 1)
      omega
    · exact h
theorem lenJoin {x y : Int} {b r : Nat} (hy : y = x / 2 ^ b) (h : lenOk y r) (hr : 1 ≤ r) (hb : b + r ≤ 64) : lenOk x (b + r) := by
  rcases h with ⟨_, h⟩ | ⟨_, _, h3, h4⟩
  · omega
  · right
    have hp : (0 : Int) < 2 ^ b := Int.pow_pos (by decide)
    refine ⟨by omega, hb, ?_, ?_⟩
    · have e : (2 : Int) ^ (b + r - 1) = 2 ^ (r - 1) * 2 ^ b := by rw [← Int.pow_add]; congr 1; omega
      rw [e]
      exact (Int.le_ediv_iff_mul_le hp).1 (hy ▸ h3)
    · have e : (2 : Int) ^ (b + r) = 2 ^ r * 2 ^ b := by rw [← Int.pow_add]; congr 1; omega
      rw [e]
      exact (Int.ediv_lt_iff_lt_mul hp).1 (hy ▸ h4)
theorem shr64_32 (x : Int) : shrA .u64 x 32 = x / 4294967296 := by
  simp only [shrA, IntKind.bits]
  exact Int.fdiv_eq_ediv_of_nonneg _ (by decide)
theorem shr64_16 (x : Int) : shrA .u64 x 16 = x / 65536 := by
  simp only [shrA, IntKind.bits]
  exact Int.fdiv_eq_ediv_of_nonneg _ (by decide)
theorem shr64_8 (x : Int) : shrA .u64 x 8 = x / 256 := by
  simp only [shrA, IntKind.bits]
  exact Int.fdiv_eq_ediv_of_nonneg _ (by decide)
theorem wrap_u8 (x : Int) : IntKind.wrap .u8 x = x % 256 := by simp [IntKind.wrap, IntKind.bits, IntKind.signed]
theorem wrap_small {n : Int} (h0 : 0 ≤ n) (h1 : n ≤ 100000) : IntKind.wrap .i64 n = n := wrap_i64 (by omega) (by omega)
theorem len89 (x : Int) (h0 : 0 ≤ x) (h1 : x < 2 ^ 64) (H : AHeap) : CallW Try.prog 89 [.int .u64 x] H fun v H' => H' = H ∧ ∃ r : Nat, v = .int .i64 r ∧ lenOk x r := by
  refine CallW.sym Try.func89 rfl (by kernel_rfl) ?_
  conv => whnf
  repeat' first
    | refine Fork.mk (fun h => ?_) (fun h => ?_) <;> conv => whnf
    | refine Gets.shr (by decide) ?_; conv => whnf
  all_goals simp only [shr64_32, shr64_16, shr64_8, decide_eq_true_eq, decide_eq_false_iff_not, ge_iff_le] at *
  all_goals refine Gets.lenTab rfl (by kernel_rfl) (by simp only [wrap_u8, shr64_32, shr64_16, shr64_8]; omega) (by simp only [wrap_u8, shr64_32, shr64_16, shr64_8]; omega) (fun r hr hr8 => ?_)
  all_goals simp only [wrap_u8, shr64_32, shr64_16, shr64_8] at hr
  all_goals conv => whnf
  all_goals first
    | exact ⟨rfl, 56 + r, by simp (discharger := omega) only [wrap_small]; rfl, lenJoin (b := 56) (by omega) hr (by rcases hr with ⟨h, _⟩ | ⟨h, _⟩ <;> omega) (by omega)⟩
    | exact ⟨rfl, 48 + r, by simp (discharger := omega) only [wrap_small]; rfl, lenJoin (b := 48) (by omega) hr (by rcases hr with ⟨h, _⟩ | ⟨h, _⟩ <;> omega) (by omega)⟩
    | exact ⟨rfl, 40 + r, by simp (discharger := omega) only [wrap_small]; rfl, lenJoin (b := 40) (by omega) hr (by rcases hr with ⟨h, _⟩ | ⟨h, _⟩ <;> omega) (by omega)⟩
    | exact ⟨rfl, 32 + r, by simp (discharger := omega) only [wrap_small]; rfl, lenJoin (b := 32) (by omega) hr (by rcases hr with ⟨h, _⟩ | ⟨h, _⟩ <;> omega) (by omega)⟩
    | exact ⟨rfl, 24 + r, by simp (discharger := omega) only [wrap_small]; rfl, lenJoin (b := 24) (by omega) hr (by rcases hr with ⟨h, _⟩ | ⟨h, _⟩ <;> omega) (by omega)⟩
    | exact ⟨rfl, 16 + r, by simp (discharger := omega) only [wrap_small]; rfl, lenJoin (b := 16) (by omega) hr (by rcases hr with ⟨h, _⟩ | ⟨h, _⟩ <;> omega) (by omega)⟩
    | exact ⟨rfl, 8 + r, by simp (discharger := omega) only [wrap_small]; rfl, lenJoin (b := 8) (by omega) hr (by rcases hr with ⟨h, _⟩ | ⟨h, _⟩ <;> omega) (by omega)⟩
    | exact ⟨rfl, r, by simp (discharger := omega) only [wrap_small, Int.zero_add], by rw [Int.emod_eq_of_lt h0 (by omega)] at hr; exact hr⟩
theorem lenOk_unique {x : Int} {r s : Nat} (h : lenOk x r) (k : lenOk x s) : r = s := by
  have key : ∀ {r s : Nat}, lenOk x r → lenOk x s → ¬ r < s := by
    rintro r s (⟨h1, h2⟩ | ⟨h1, h2, h3, h4⟩) (⟨k1, k2⟩ | ⟨k1, k2, k3, k4⟩) hlt
    · omega
    · have : (0 : Int) < 2 ^ (s - 1) := Int.pow_pos (by decide)
      omega
    · omega
    · have : (2 : Int) ^ r ≤ 2 ^ (s - 1) := by exact_mod_cast Nat.pow_le_pow_right (by decide) (by omega : r ≤ s - 1)
      omega
  rcases Nat.lt_trichotomy r s with h' | h' | h'
  · exact absurd h' (key h k)
  · exact h'
  · exact absurd h' (key k h)
theorem len80 (x : Int) (h0 : 0 ≤ x) (h1 : x < 2 ^ 64) (H : AHeap) : CallW Try.prog 80 [.int .u64 x] H fun v H' => H' = H ∧ ∃ r : Nat, v = .int .i64 r ∧ lenOk x r := by
  refine CallW.sym Try.func80 rfl (by kernel_rfl) ?_
  conv => whnf
  refine CallS.of (by kernel_rfl) (len89 x h0 h1 H) rfl ?_
  rintro _ _ ⟨rfl, r, rfl, hr⟩
  conv => whnf
  exact ⟨rfl, r, rfl, hr⟩
theorem table62 (H : AHeap) : CallW Try.prog 62 [] H fun v H' => H' = H ∧ v = .agg [.func 73 [] [], .func 75 [] [], .func 76 [] [], .func 77 [] [], .func 78 [] [], .func 79 [] []] :=
  CallW.of_run mixed 3 (by kernel_rfl) rfl rfl H
/-- What a kind accepts. -/
def AccOk (kind marks inf : Int) : Prop :=
  if kind = 0 then hasA inf 0 = true
  else if kind = 1 then inf = IntKind.wrap .i64 (shlA .i64 1 marks - 1)
  else if kind = 2 then hasA inf 0 = false
  else if kind = 3 then ∃ j : Nat, 2 * (j : Int) < marks ∧ hitA inf j
  else if kind = 4 then ¬ ∃ j : Nat, 2 * (j : Int) < marks ∧ hitA inf j
  else ∃ r : Nat, lenOk inf r ∧ r % 2 = 1
theorem t73 (marks inf : Int) (H : AHeap) : CallW Try.prog 73 [.int .i64 marks, .int .i64 inf] H fun v H' => H' = H ∧ v = .bool (hasA inf 0) := by
  refine CallW.sym Try.func73 rfl (by kernel_rfl) ?_
  conv => whnf
  refine CallS.of (by kernel_rfl) (has74 inf 0 (by decide) H) rfl ?_
  rintro _ _ ⟨rfl, rfl⟩
  conv => whnf
  exact ⟨rfl, rfl⟩
theorem t75 (marks inf : Int) (hm : 0 ≤ marks) (H : AHeap) : CallW Try.prog 75 [.int .i64 marks, .int .i64 inf] H fun v H' => H' = H ∧ v = .bool (inf == IntKind.wrap .i64 (shlA .i64 1 marks - 1)) := by
  refine CallW.sym Try.func75 rfl (by kernel_rfl) ?_
  conv => whnf
  refine Gets.shl hm ?_
  conv => whnf
  refine ⟨fun h => ?_, fun h => ?_⟩
  all_goals conv => whnf
  all_goals exact ⟨rfl, congrArg AVal.bool h.symm⟩
theorem t76 (marks inf : Int) (H : AHeap) : CallW Try.prog 76 [.int .i64 marks, .int .i64 inf] H fun v H' => H' = H ∧ v = .bool (!hasA inf 0) := by
  refine CallW.sym Try.func76 rfl (by kernel_rfl) ?_
  conv => whnf
  refine CallS.of (by kernel_rfl) (has74 inf 0 (by decide) H) rfl ?_
  rintro _ _ ⟨rfl, rfl⟩
  conv => whnf
  exact ⟨rfl, rfl⟩
theorem t78 (marks inf : Int) (hm : marks ≤ 100) (H : AHeap) : CallW Try.prog 78 [.int .i64 marks, .int .i64 inf] H fun v H' => H' = H ∧ ∃ b, v = .bool b ∧ (b = true ↔ ¬ ∃ j : Nat, 2 * (j : Int) < marks ∧ hitA inf j) := by
  refine CallW.sym Try.func78 rfl (by kernel_rfl) ?_
  conv => whnf
  refine CallS.of (by kernel_rfl) (rabin77 marks inf hm H) rfl ?_
  rintro _ _ ⟨rfl, b, rfl, hb⟩
  conv => whnf
  exact ⟨rfl, !b, rfl, by rw [← hb]; cases b <;> simp⟩
theorem t79 (marks inf : Int) (h0 : 0 ≤ inf) (h1 : inf < 2 ^ 63) (H : AHeap) : CallW Try.prog 79 [.int .i64 marks, .int .i64 inf] H fun v H' => H' = H ∧ ∃ b, v = .bool b ∧ (b = true ↔ ∃ r : Nat, lenOk inf r ∧ r % 2 = 1) := by
  refine CallW.sym Try.func79 rfl (by kernel_rfl) ?_
  conv => whnf
  refine ⟨fun h => ?_, fun h => ?_⟩
  all_goals conv => whnf
  · have hw : IntKind.wrap .u64 inf = inf := by simp only [IntKind.wrap, IntKind.bits, IntKind.signed, Bool.false_and, Bool.false_eq_true, if_false]; omega
    rw [hw]
    refine CallS.of (by kernel_rfl) (len80 inf h0 (by omega) H) rfl ?_
    rintro _ _ ⟨rfl, r, rfl, hr⟩
    conv => whnf
    refine Gets.remN (by omega) (by decide) ?_
    conv => whnf
    refine ⟨fun h => ?_, fun h => ?_⟩
    all_goals conv => whnf
    · simp only [beq_iff_eq] at h
      exact ⟨rfl, true, rfl, by simp only [true_iff]; exact ⟨r, hr, by omega⟩⟩
    · simp only [beq_eq_false_iff_ne, ne_eq] at h
      refine ⟨rfl, false, rfl, ?_⟩
      simp only [Bool.false_eq_true, false_iff, not_exists, not_and]
      intro r' hr' hodd
      rw [lenOk_unique hr' hr] at hodd
      omega
  · simp only [decide_eq_false_iff_not, gt_iff_lt] at h
    refine ⟨rfl, false, rfl, ?_⟩
    simp only [Bool.false_eq_true, false_iff, not_exists, not_and]
    rintro r (⟨_, h2⟩ | ⟨_, _, h3, _⟩) hodd
    · omega
    · have : (0 : Int) < 2 ^ (r - 1) := Int.pow_pos (by decide)
      omega
theorem accepted38 (kind marks inf : Int) (hk : 0 ≤ kind ∧ kind ≤ 5) (hm : 0 ≤ marks ∧ marks ≤ 40) (hi : 0 ≤ inf ∧ inf < 2 ^ marks.toNat) : CallW Try.prog 38 [.int .i64 kind, .int .i64 marks, .int .i64 inf] emptyH fun v _ => ∃ b, v = .bool b ∧ (b = true ↔ AccOk kind marks inf) := by
  refine CallW.sym Try.func38 rfl (by kernel_rfl) ?_
  conv => whnf
  refine CallS.of (by kernel_rfl) (table62 _) rfl ?_
  rintro _ _ ⟨rfl, rfl⟩
  conv => whnf
  repeat' (refine Gets.of _ rfl ?_; conv => whnf)
  have hc : kind = 0 ∨ kind = 1 ∨ kind = 2 ∨ kind = 3 ∨ kind = 4 ∨ kind = 5 := by omega
  have hp : (2 : Int) ^ marks.toNat ≤ 2 ^ 40 := by exact_mod_cast Nat.pow_le_pow_right (by decide) (by omega : marks.toNat ≤ 40)
  rcases hc with rfl | rfl | rfl | rfl | rfl | rfl
  all_goals refine Gets.of _ rfl ?_
  all_goals conv => whnf
  · refine CallS.of (by kernel_rfl) (t73 marks inf _) rfl ?_
    rintro _ _ ⟨rfl, rfl⟩
    conv => whnf
    exact ⟨_, rfl, by simp [AccOk]⟩
  · refine CallS.of (by kernel_rfl) (t75 marks inf hm.1 _) rfl ?_
    rintro _ _ ⟨rfl, rfl⟩
    conv => whnf
    exact ⟨_, rfl, by simp [AccOk]⟩
  · refine CallS.of (by kernel_rfl) (t76 marks inf _) rfl ?_
    rintro _ _ ⟨rfl, rfl⟩
    conv => whnf
    exact ⟨_, rfl, by simp [AccOk]⟩
  · refine CallS.of (by kernel_rfl) (rabin77 marks inf (by omega) _) rfl ?_
    rintro _ _ ⟨rfl, b, rfl, hb⟩
    conv => whnf
    exact ⟨_, rfl, by simpa [AccOk] using hb⟩
  · refine CallS.of (by kernel_rfl) (t78 marks inf (by omega) _) rfl ?_
    rintro _ _ ⟨rfl, b, rfl, hb⟩
    conv => whnf
    exact ⟨_, rfl, by simpa [AccOk] using hb⟩
  · refine CallS.of (by kernel_rfl) (t79 marks inf hi.1 (by omega) _) rfl ?_
    rintro _ _ ⟨rfl, b, rfl, hb⟩
    conv => whnf
    exact ⟨_, rfl, by simpa [AccOk] using hb⟩
/-! ### The reference -/
theorem hasA_bit {a : Int} {m : Nat} (h0 : 0 ≤ a) (h1 : a < 2 ^ 63) (hm : m ≤ 64) : hasA a m = decide (a / 2 ^ m % 2 = 1) := by
  have hp : (0 : Int) < 2 ^ m := Int.pow_pos (by decide)
  have hs : shrA .i64 a m = a / 2 ^ m := by
    simp only [shrA, IntKind.bits, Int.toNat_natCast, Nat.min_eq_left hm]
    exact Int.fdiv_eq_ediv_of_nonneg _ (Int.le_of_lt hp)
  have hq0 : 0 ≤ a / 2 ^ m := Int.ediv_nonneg h0 (Int.le_of_lt hp)
  have hq1 : a / 2 ^ m ≤ a := Int.ediv_le_self _ h0
  unfold hasA
  rw [hs]
  generalize a / 2 ^ m = q at hq0 hq1
  have hb : bitsA .and .i64 q 1 = q % 2 := by
    obtain ⟨n, rfl⟩ := Int.eq_ofNat_of_zero_le hq0
    have e : (BitVec.ofInt 64 (n : Int) &&& BitVec.ofInt 64 1).toNat = n % 2 := by
      rw [BitVec.toNat_and, BitVec.toNat_ofInt, BitVec.toNat_ofInt]
      have e1 : ((n : Int) % ((2 ^ 64 : Nat) : Int)).toNat = n := by omega
      have e2 : ((1 : Int) % ((2 ^ 64 : Nat) : Int)).toNat = 1 := by decide
      rw [e1, e2, Nat.and_one_is_mod]
    show IntKind.wrap .i64 ((BitVec.ofInt 64 (n : Int) &&& BitVec.ofInt 64 1).toNat : Int) = _
    rw [e, wrap_i64 (by omega) (by omega)]
    omega
  rw [hb]
  by_cases h : q % 2 = 1 <;> simp [h]
theorem top_bit {a : Int} (h0 : 0 ≤ a) (t : Nat) : ∀ (d : Nat), a < 2 ^ (t + d) → (∀ m, t ≤ m → m < t + d → ¬ a / 2 ^ m % 2 = 1) → a < 2 ^ t
  | 0, h, _ => h
  | d + 1, h, hb => by
    refine top_bit h0 t d ?_ fun m h1 h2 => hb m h1 (by omega)
    have := hb (t + d) (by omega) (by omega)
    have hp : (0 : Int) < 2 ^ (t + d) := Int.pow_pos (by decide)
    have e : (2 : Int) ^ (t + (d + 1)) = 2 * 2 ^ (t + d) := by rw [show t + (d + 1) = (t + d) + 1 from rfl, Int.pow_succ, Int.mul_comm]
    rw [e] at h
    have hq0 : 0 ≤ a / 2 ^ (t + d) := Int.ediv_nonneg h0 (Int.le_of_lt hp)
    have hq1 : a / 2 ^ (t + d) < 2 := Int.ediv_lt_of_lt_mul hp h
    have hq : a / 2 ^ (t + d) < 1 := by omega
    have := (Int.ediv_lt_iff_lt_mul hp).1 hq
    omega
theorem accepted39 (kind marks inf : Int) (hk : 0 ≤ kind ∧ kind ≤ 5) (hm : 0 ≤ marks ∧ marks ≤ 40) (hi : 0 ≤ inf ∧ inf < 2 ^ marks.toNat) (H : AHeap) : CallW Try.prog 39 [.int .i64 kind, .int .i64 marks, .int .i64 inf] H fun v H' => H' = H ∧ ∃ b, v = .bool b ∧ (b = true ↔ AccOk kind marks inf) := by
  have hw1 : ∀ k : Nat, k ≤ 100 → IntKind.wrap .i64 (2 * (k : Int) + 1) = 2 * k + 1 := fun k _ => wrap_i64 (by omega) (by omega)
  have hw2 : ∀ j : Nat, 2 * (j : Int) < marks → AVal.int .i64 (IntKind.wrap .i64 (2 * (j : Int) + 2)) = .int .i64 (2 * ((j + 1 : Nat) : Int)) := fun j hc => by rw [wrap_i64 (by omega) (by omega)]; congr 1
  have fin : ∀ j : Nat, (∀ j' : Nat, j' < j → ¬ hitA inf j') → ¬ hitA inf j → 2 * (j : Int) < marks → (2 * ((j + 1 : Nat) : Int) ≤ max 0 (marks + 1) ∧ ∀ j' : Nat, j' < j + 1 → ¬ hitA inf j') ∧ 1000 - (j + 1) < 1000 - j := fun j h2 hn hc =>
    ⟨⟨by omega, fun j' h => by
      rcases Nat.lt_succ_iff_lt_or_eq.1 h with h | h
      · exact h2 j' h
      · subst h; exact hn⟩, by omega⟩
  refine CallW.sym Try.func39 rfl (by kernel_rfl) ?_
  conv => whnf
  refine Fork.mk (fun k0 => ?_) (fun k0 => ?_)
  all_goals conv => whnf
  all_goals simp only [beq_iff_eq, beq_eq_false_iff_ne, ne_eq] at k0
  · refine CallS.of (by kernel_rfl) (has63 inf 0 (by decide) H) rfl ?_
    rintro _ _ ⟨rfl, rfl⟩
    conv => whnf
    exact ⟨rfl, _, rfl, by simp [AccOk, k0]⟩
  refine Fork.mk (fun k1 => ?_) (fun k1 => ?_)
  all_goals conv => whnf
  all_goals simp only [beq_iff_eq, beq_eq_false_iff_ne, ne_eq] at k1
  · refine Gets.shl hm.1 ?_
    conv => whnf
    refine ⟨fun h => ?_, fun h => ?_⟩
    all_goals conv => whnf
    all_goals exact ⟨rfl, _, rfl, by simp [AccOk, k1]; simpa using h⟩
  refine Fork.mk (fun k2 => ?_) (fun k2 => ?_)
  all_goals conv => whnf
  all_goals simp only [beq_iff_eq, beq_eq_false_iff_ne, ne_eq] at k2
  · refine CallS.of (by kernel_rfl) (has63 inf 0 (by decide) H) rfl ?_
    rintro _ _ ⟨rfl, rfl⟩
    conv => whnf
    exact ⟨rfl, _, rfl, by simp [AccOk, k2]⟩
  refine Fork.mk (fun k3 => ?_) (fun k3 => ?_)
  all_goals conv => whnf
  all_goals simp only [beq_iff_eq, beq_eq_false_iff_ne, ne_eq] at k3
  · refine CodeS.loopS (σ := Nat) (fun j => [(1, .int .i64 marks), (2, .int .i64 inf), (7, .int .i64 (2 * j))]) (fun _ => H) (fun j => 2 * (j : Int) ≤ max 0 (marks + 1) ∧ ∀ j' : Nat, j' < j → ¬ hitA inf j') (fun j => 1000 - j) 0 (by kernel_rfl)
      ⟨by omega, fun j' h => absurd h (Nat.not_lt_zero _)⟩ ⟨rfl, rfl, rfl, trivial⟩ rfl ?_
    rintro j ⟨h1, h2⟩
    conv => whnf
    refine ⟨fun hc => ?_, fun hc => ?_⟩
    all_goals conv => whnf
    · have hc : 2 * (j : Int) < marks := by simpa using hc
      refine CallS.of (by kernel_rfl) (has63 _ _ (by omega) _) rfl ?_
      rintro _ _ ⟨rfl, rfl⟩
      cases hx : hasA inf (2 * j) <;> conv => whnf
      · refine CallS.of (by kernel_rfl) (has63 _ _ (by rw [hw1 j (by omega)]; omega) _) rfl ?_
        rintro _ _ ⟨rfl, rfl⟩
        rw [hw1 j (by omega)]
        cases hy : hasA inf (2 * j + 1) <;> conv => whnf
        · have := fin j h2 (fun h => by rw [h.2] at hy; cases hy) hc
          exact ⟨j + 1, this.1, this.2, ⟨rfl, rfl, hw2 j hc, trivial⟩, rfl⟩
        · exact ⟨rfl, true, rfl, by simp only [true_iff, AccOk, k3]; exact ⟨j, hc, hx, hy⟩⟩
      · have := fin j h2 (fun h => by rw [h.1] at hx; cases hx) hc
        exact ⟨j + 1, this.1, this.2, ⟨rfl, rfl, hw2 j hc, trivial⟩, rfl⟩
    · have hc : ¬ 2 * (j : Int) < marks := by simpa using hc
      refine ⟨rfl, false, rfl, ?_⟩
      subst k3
      simp only [Bool.false_eq_true, false_iff, AccOk]
      rintro ⟨k, hk, h⟩
      exact h2 k (by omega) h
  refine Fork.mk (fun k4 => ?_) (fun k4 => ?_)
  all_goals conv => whnf
  all_goals simp only [beq_iff_eq, beq_eq_false_iff_ne, ne_eq] at k4
  · refine CodeS.loopS (σ := Nat) (fun j => [(1, .int .i64 marks), (2, .int .i64 inf), (8, .int .i64 (2 * j))]) (fun _ => H) (fun j => 2 * (j : Int) ≤ max 0 (marks + 1) ∧ ∀ j' : Nat, j' < j → ¬ hitA inf j') (fun j => 1000 - j) 0 (by kernel_rfl)
      ⟨by omega, fun j' h => absurd h (Nat.not_lt_zero _)⟩ ⟨rfl, rfl, rfl, trivial⟩ rfl ?_
    rintro j ⟨h1, h2⟩
    conv => whnf
    refine ⟨fun hc => ?_, fun hc => ?_⟩
    all_goals conv => whnf
    · have hc : 2 * (j : Int) < marks := by simpa using hc
      refine CallS.of (by kernel_rfl) (has63 _ _ (by omega) _) rfl ?_
      rintro _ _ ⟨rfl, rfl⟩
      cases hx : hasA inf (2 * j) <;> conv => whnf
      · refine CallS.of (by kernel_rfl) (has63 _ _ (by rw [hw1 j (by omega)]; omega) _) rfl ?_
        rintro _ _ ⟨rfl, rfl⟩
        rw [hw1 j (by omega)]
        cases hy : hasA inf (2 * j + 1) <;> conv => whnf
        · have := fin j h2 (fun h => by rw [h.2] at hy; cases hy) hc
          exact ⟨j + 1, this.1, this.2, ⟨rfl, rfl, hw2 j hc, trivial⟩, rfl⟩
        · exact ⟨rfl, false, rfl, by subst k4; simp only [Bool.false_eq_true, false_iff, AccOk]; exact fun h => h ⟨j, hc, hx, hy⟩⟩
      · have := fin j h2 (fun h => by rw [h.1] at hx; cases hx) hc
        exact ⟨j + 1, this.1, this.2, ⟨rfl, rfl, hw2 j hc, trivial⟩, rfl⟩
    · have hc : ¬ 2 * (j : Int) < marks := by simpa using hc
      refine ⟨rfl, true, rfl, ?_⟩
      subst k4
      simp only [true_iff, AccOk]
      rintro ⟨k, hk, h⟩
      exact h2 k (by omega) h
  have hp : (2 : Int) ^ marks.toNat ≤ 2 ^ 40 := by exact_mod_cast Nat.pow_le_pow_right (by decide) (by omega : marks.toNat ≤ 40)
  have bit : ∀ m : Nat, m ≤ 64 → hasA inf m = decide (inf / 2 ^ m % 2 = 1) := fun m h => hasA_bit hi.1 (by omega) h
  refine CodeS.loopS (σ := Nat × Int) (fun s => [(2, .int .i64 inf), (9, .int .i64 s.2), (62, .int .i64 marks), (63, .int .i64 s.1)]) (fun _ => H)
    (fun s => (s.1 : Int) ≤ marks ∧ ((s.2 = -1 ∧ ∀ m : Nat, m < s.1 → hasA inf m = false) ∨ ∃ t : Nat, s.2 = t ∧ t < s.1 ∧ hasA inf t = true ∧ ∀ m : Nat, t < m → m < s.1 → hasA inf m = false)) (fun s => 1000 - s.1) (0, -1) (by kernel_rfl)
    ⟨hm.1, .inl ⟨rfl, fun m h => absurd h (Nat.not_lt_zero _)⟩⟩ ⟨rfl, rfl, rfl, rfl, trivial⟩ rfl ?_
  rintro ⟨j, top⟩ ⟨h1, h2⟩
  dsimp only at h1 h2
  conv => whnf
  refine ⟨fun hc => ?_, fun hc => ?_⟩
  all_goals conv => whnf
  · have hc : (j : Int) < marks := by simpa using hc
    have hw : AVal.int .i64 (IntKind.wrap .i64 ((j : Int) + 1)) = .int .i64 ((j + 1 : Nat) : Int) := by rw [wrap_i64 (by omega) (by omega)]; rfl
    refine CallS.of (by kernel_rfl) (has63 _ _ (by omega) _) rfl ?_
    rintro _ _ ⟨rfl, rfl⟩
    cases hx : hasA inf j <;> conv => whnf
    · refine ⟨(j + 1, top), ⟨by dsimp only; omega, ?_⟩, by dsimp only; omega, ⟨rfl, rfl, rfl, hw, trivial⟩, rfl⟩
      rcases h2 with ⟨h2, h3⟩ | ⟨t, h2, h3, h4, h5⟩
      · refine .inl ⟨h2, fun m h => ?_⟩
        rcases Nat.lt_succ_iff_lt_or_eq.1 h with h | h
        · exact h3 m h
        · subst h; exact hx
      · refine .inr ⟨t, h2, Nat.lt_succ_of_lt h3, h4, fun m h6 h => ?_⟩
        rcases Nat.lt_succ_iff_lt_or_eq.1 h with h | h
        · exact h5 m h6 h
        · subst h; exact hx
    · exact ⟨(j + 1, j), ⟨by dsimp only; omega, .inr ⟨j, rfl, Nat.lt_succ_self j, hx, fun m h6 h => by dsimp only at h; omega⟩⟩, by dsimp only; omega, ⟨rfl, rfl, rfl, hw, trivial⟩, rfl⟩
  · have hj : (j : Int) = marks := by
      have hc : ¬ (j : Int) < marks := by simpa using hc
      omega
    have hj' : marks.toNat = j := by omega
    have acc : AccOk kind marks inf ↔ ∃ r : Nat, lenOk inf r ∧ r % 2 = 1 := by simp only [AccOk, if_neg k0, if_neg k1, if_neg k2, if_neg k3, if_neg k4]
    have low : ∀ m : Nat, m < j → hasA inf m = false → ¬ inf / 2 ^ m % 2 = 1 := fun m h h' => by rw [bit m (by omega)] at h'; simpa using h'
    refine ⟨fun hx => ?_, fun hx => ?_⟩
    all_goals conv => whnf
    all_goals simp only [decide_eq_true_eq, decide_eq_false_iff_not, ge_iff_le] at hx
    · rcases h2 with ⟨h2, h3⟩ | ⟨t, h2, h3, h4, h5⟩
      · omega
      · subst h2
        have hlen : lenOk inf (t + 1) := by
          refine .inr ⟨by omega, by omega, ?_, top_bit hi.1 (t + 1) (j - (t + 1)) (by rw [show t + 1 + (j - (t + 1)) = marks.toNat by omega]; exact hi.2) fun m h6 h7 => low m (by omega) (h5 m (by omega) (by omega))⟩
          rw [bit t (by omega)] at h4
          simp only [decide_eq_true_eq] at h4
          rw [Nat.add_sub_cancel]
          have hpp : (0 : Int) < 2 ^ t := Int.pow_pos (by decide)
          have : ¬ inf < 2 ^ t := fun hlt => by rw [Int.ediv_eq_zero_of_lt hi.1 hlt] at h4; omega
          omega
        refine Gets.remN (by omega) (by decide) ?_
        conv => whnf
        refine ⟨fun h => ?_, fun h => ?_⟩
        all_goals conv => whnf
        all_goals simp only [beq_iff_eq, beq_eq_false_iff_ne, ne_eq] at h
        · exact ⟨rfl, true, rfl, by rw [acc]; simp only [true_iff]; exact ⟨t + 1, hlen, by omega⟩⟩
        · refine ⟨rfl, false, rfl, ?_⟩
          rw [acc]
          simp only [Bool.false_eq_true, false_iff]
          rintro ⟨r, hr, ho⟩
          rw [lenOk_unique hr hlen] at ho
          omega
    · rcases h2 with ⟨h2, h3⟩ | ⟨t, h2, h3, h4, h5⟩
      · have hz : inf < 2 ^ 0 := top_bit hi.1 0 j (by rw [show 0 + j = marks.toNat by omega]; exact hi.2) fun m _ h7 => low m (by omega) (h3 m (by omega))
        refine ⟨rfl, false, rfl, ?_⟩
        rw [acc]
        simp only [Bool.false_eq_true, false_iff]
        rintro ⟨r, hr, ho⟩
        rw [lenOk_unique hr (.inl ⟨by omega, rfl⟩)] at ho
        omega
      · omega
instance (kind marks : Int) : Decidable (MarksOk kind marks) := by unfold MarksOk; infer_instance
def AccsOk (kind marks inf : Int) (b : Bool) (e : Int) : Prop :=
  if kind < 0 ∨ 5 < kind then b = false ∧ e = 7
  else if ¬ MarksOk kind marks then b = false ∧ e = 1
  else if inf < 0 ∨ 2 ^ marks.toNat ≤ inf then b = false ∧ e = 6
  else e = 0 ∧ (b = true ↔ AccOk kind marks inf)
theorem shl_one {m : Int} (h0 : 0 ≤ m) (h1 : m ≤ 40) : shlA .i64 1 m = 2 ^ m.toNat := by
  have hp : (2 : Int) ^ m.toNat ≤ 2 ^ 40 := by exact_mod_cast Nat.pow_le_pow_right (by decide) (by omega : m.toNat ≤ 40)
  have hq : (0 : Int) < 2 ^ m.toNat := Int.pow_pos (by decide)
  simp only [shlA, IntKind.bits, Nat.min_eq_left (show m.toNat ≤ 64 by omega), Int.one_mul]
  exact wrap_i64 (by omega) (by omega)
theorem accepts8 (kind marks inf : Int) : CallW Try.prog 8 [.int .i64 kind, .int .i64 marks, .int .i64 inf] emptyH fun v _ => ∃ b e, v = .tuple [.bool b, .int .i64 e] ∧ AccsOk kind marks inf b e := by
  refine CallW.sym Try.func8 rfl (by kernel_rfl) ?_
  conv => whnf
  refine Fork.mk (fun k0 => ?_) (fun k0 => ?_)
  all_goals conv => whnf
  all_goals simp only [decide_eq_true_eq, decide_eq_false_iff_not, gt_iff_lt] at k0
  · exact ⟨_, _, rfl, by rw [AccsOk, if_pos (.inl k0)]; exact ⟨rfl, rfl⟩⟩
  refine Fork.mk (fun k1 => ?_) (fun k1 => ?_)
  all_goals conv => whnf
  all_goals simp only [decide_eq_true_eq, decide_eq_false_iff_not, gt_iff_lt] at k1
  · exact ⟨_, _, rfl, by rw [AccsOk, if_pos (.inr k1)]; exact ⟨rfl, rfl⟩⟩
  have hk : ¬ (kind < 0 ∨ 5 < kind) := by omega
  refine CallS.of (by kernel_rfl) (may37 kind marks _) rfl ?_
  rintro _ _ ⟨rfl, b, rfl, hb⟩
  cases b <;> conv => whnf
  · have hm : ¬ MarksOk kind marks := fun h => absurd (hb.2 ⟨by omega, by omega, h⟩) (by decide)
    exact ⟨_, _, rfl, by rw [AccsOk, if_neg hk, if_pos hm]; exact ⟨rfl, rfl⟩⟩
  have hm : MarksOk kind marks := (hb.1 rfl).2.2
  refine Fork.mk (fun k2 => ?_) (fun k2 => ?_)
  all_goals conv => whnf
  all_goals simp only [decide_eq_true_eq, decide_eq_false_iff_not, gt_iff_lt] at k2
  · exact ⟨_, _, rfl, by rw [AccsOk, if_neg hk, if_neg (not_not_intro hm), if_pos (.inl k2)]; exact ⟨rfl, rfl⟩⟩
  refine Gets.shl hm.1 ?_
  rw [shl_one hm.1 hm.2.1]
  conv => whnf
  refine Fork.mk (fun k3 => ?_) (fun k3 => ?_)
  all_goals conv => whnf
  all_goals simp only [decide_eq_true_eq, decide_eq_false_iff_not, ge_iff_le] at k3
  · exact ⟨_, _, rfl, by rw [AccsOk, if_neg hk, if_neg (not_not_intro hm), if_pos (.inr k3)]; exact ⟨rfl, rfl⟩⟩
  refine CallS.of (by kernel_rfl) (CallW.closed (accepted38 kind marks inf ⟨by omega, by omega⟩ ⟨hm.1, hm.2.1⟩ ⟨by omega, by omega⟩) rfl (by rintro v ⟨b, rfl, _⟩; rfl) _) rfl ?_
  rintro _ _ ⟨rfl, b, rfl, hb⟩
  conv => whnf
  exact ⟨_, _, rfl, by rw [AccsOk, if_neg hk, if_neg (not_not_intro hm), if_neg (by omega)]; exact ⟨rfl, hb⟩⟩
theorem accepts9 (kind marks inf : Int) : CallW Try.prog 9 [.int .i64 kind, .int .i64 marks, .int .i64 inf] emptyH fun v _ => ∃ b e, v = .tuple [.bool b, .int .i64 e] ∧ AccsOk kind marks inf b e := by
  refine CallW.sym Try.func9 rfl (by kernel_rfl) ?_
  conv => whnf
  refine Fork.mk (fun k0 => ?_) (fun k0 => ?_)
  all_goals conv => whnf
  all_goals simp only [decide_eq_true_eq, decide_eq_false_iff_not, gt_iff_lt] at k0
  · exact ⟨_, _, rfl, by rw [AccsOk, if_pos (.inl k0)]; exact ⟨rfl, rfl⟩⟩
  refine Fork.mk (fun k1 => ?_) (fun k1 => ?_)
  all_goals conv => whnf
  all_goals simp only [decide_eq_true_eq, decide_eq_false_iff_not, gt_iff_lt] at k1
  · exact ⟨_, _, rfl, by rw [AccsOk, if_pos (.inr k1)]; exact ⟨rfl, rfl⟩⟩
  have hk : ¬ (kind < 0 ∨ 5 < kind) := by omega
  refine CallS.of (by kernel_rfl) (marks35 kind marks _) rfl ?_
  rintro _ _ ⟨rfl, b, rfl, hb⟩
  cases b <;> conv => whnf
  · have hm : ¬ MarksOk kind marks := fun h => absurd (hb.2 h) (by decide)
    exact ⟨_, _, rfl, by rw [AccsOk, if_neg hk, if_pos hm]; exact ⟨rfl, rfl⟩⟩
  have hm : MarksOk kind marks := hb.1 rfl
  refine Fork.mk (fun k2 => ?_) (fun k2 => ?_)
  all_goals conv => whnf
  all_goals simp only [decide_eq_true_eq, decide_eq_false_iff_not, gt_iff_lt] at k2
  · exact ⟨_, _, rfl, by rw [AccsOk, if_neg hk, if_neg (not_not_intro hm), if_pos (.inl k2)]; exact ⟨rfl, rfl⟩⟩
  refine Gets.shl hm.1 ?_
  rw [shl_one hm.1 hm.2.1]
  conv => whnf
  refine Fork.mk (fun k3 => ?_) (fun k3 => ?_)
  all_goals conv => whnf
  all_goals simp only [decide_eq_true_eq, decide_eq_false_iff_not, ge_iff_le] at k3
  · exact ⟨_, _, rfl, by rw [AccsOk, if_neg hk, if_neg (not_not_intro hm), if_pos (.inr k3)]; exact ⟨rfl, rfl⟩⟩
  refine CallS.of (by kernel_rfl) (accepted39 kind marks inf ⟨by omega, by omega⟩ ⟨hm.1, hm.2.1⟩ ⟨by omega, by omega⟩ _) rfl ?_
  rintro _ _ ⟨rfl, b, rfl, hb⟩
  conv => whnf
  exact ⟨_, _, rfl, by rw [AccsOk, if_neg hk, if_neg (not_not_intro hm), if_neg (by omega)]; exact ⟨rfl, hb⟩⟩
theorem accepts8c (kind marks inf : Int) (H : AHeap) : CallW Try.prog 8 [.int .i64 kind, .int .i64 marks, .int .i64 inf] H fun v H' => H' = H ∧ ∃ b e, v = .tuple [.bool b, .int .i64 e] ∧ AccsOk kind marks inf b e :=
  CallW.closed (accepts8 kind marks inf) rfl (by rintro v ⟨b, e, rfl, _⟩; rfl) H
theorem accepts9c (kind marks inf : Int) (H : AHeap) : CallW Try.prog 9 [.int .i64 kind, .int .i64 marks, .int .i64 inf] H fun v H' => H' = H ∧ ∃ b e, v = .tuple [.bool b, .int .i64 e] ∧ AccsOk kind marks inf b e :=
  CallW.closed (accepts9 kind marks inf) rfl (by rintro v ⟨b, e, rfl, _⟩; rfl) H
/-- The answer is one. -/
theorem AccsOk.same {kind marks inf : Int} {b b' : Bool} {e e' : Int} (h : AccsOk kind marks inf b e) (k : AccsOk kind marks inf b' e') : b = b' ∧ e = e' := by
  unfold AccsOk at h k
  split at h
  · rename_i h1; rw [if_pos h1] at k; exact ⟨h.1.trans k.1.symm, h.2.trans k.2.symm⟩
  · rename_i h1
    rw [if_neg h1] at k
    split at h
    · rename_i h2; rw [if_pos h2] at k; exact ⟨h.1.trans k.1.symm, h.2.trans k.2.symm⟩
    · rename_i h2
      rw [if_neg h2] at k
      split at h
      · rename_i h3; rw [if_pos h3] at k; exact ⟨h.1.trans k.1.symm, h.2.trans k.2.symm⟩
      · rename_i h3
        rw [if_neg h3] at k
        exact ⟨by have := h.2.trans k.2.symm; cases b <;> cases b' <;> simp_all, h.1.trans k.1.symm⟩
theorem awake10 (H : AHeap) : CallW Try.prog 10 [] H fun v H' => H' = H ∧ v = .bool true :=
  CallW.of_run mixed 30 (by kernel_rfl) rfl rfl H
end Go.Proofs.Ytdahmcgncpoliaa
