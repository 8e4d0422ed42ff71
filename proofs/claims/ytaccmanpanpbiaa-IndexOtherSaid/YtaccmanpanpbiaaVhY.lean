import Derived.Test.YtaccmanpanpbiaaVhX
/- Bits of numbers that are not negative. -/
set_option linter.unusedVariables false
set_option linter.unusedSimpArgs false
namespace Go.Vh
theorem ofInt_nat (w n : Nat) : BitVec.ofInt w (n : Int) = BitVec.ofNat w n := BitVec.ofInt_natCast w n
theorem toNat_ofInt_nat {w n : Nat} (h : n < 2 ^ w) : (BitVec.ofInt w (n : Int)).toNat = n := by rw [ofInt_nat, BitVec.toNat_ofNat, Nat.mod_eq_of_lt h]
theorem wrap_u64 {n : Nat} (h : n < 2 ^ 64) : IntKind.wrap .u64 (n : Int) = n := by
  simp only [IntKind.wrap, IntKind.bits, IntKind.signed, Bool.false_and, Bool.false_eq_true, if_false, show (2 : Int) ^ 64 = 18446744073709551616 from rfl]
  omega
theorem wrap_i64n {n : Nat} (h : n < 2 ^ 63) : IntKind.wrap .i64 (n : Int) = n := wrap_i64 (by omega) (by omega)
theorem and64 {m n : Nat} (hm : m < 2 ^ 64) (hn : n < 2 ^ 64) : bitsA .and .u64 (m : Int) (n : Int) = ((m &&& n : Nat) : Int) := by
  show IntKind.wrap .u64 ((BitVec.ofInt 64 (m : Int) &&& BitVec.ofInt 64 (n : Int)).toNat : Int) = _
  rw [BitVec.toNat_and, toNat_ofInt_nat hm, toNat_ofInt_nat hn, wrap_u64 (Nat.lt_of_le_of_lt Nat.and_le_left hm)]
theorem or64 {m n : Nat} (hm : m < 2 ^ 64) (hn : n < 2 ^ 64) : bitsA .or .u64 (m : Int) (n : Int) = ((m ||| n : Nat) : Int) := by
  show IntKind.wrap .u64 ((BitVec.ofInt 64 (m : Int) ||| BitVec.ofInt 64 (n : Int)).toNat : Int) = _
  rw [BitVec.toNat_or, toNat_ofInt_nat hm, toNat_ofInt_nat hn, wrap_u64 (Nat.or_lt_two_pow hm hn)]
theorem andI {m n : Nat} (hm : m < 2 ^ 63) (hn : n < 2 ^ 63) : bitsA .and .i64 (m : Int) (n : Int) = ((m &&& n : Nat) : Int) := by
  show IntKind.wrap .i64 ((BitVec.ofInt 64 (m : Int) &&& BitVec.ofInt 64 (n : Int)).toNat : Int) = _
  rw [BitVec.toNat_and, toNat_ofInt_nat (by omega), toNat_ofInt_nat (by omega), wrap_i64n (Nat.lt_of_le_of_lt Nat.and_le_left hm)]
theorem orI {m n : Nat} (hm : m < 2 ^ 63) (hn : n < 2 ^ 63) : bitsA .or .i64 (m : Int) (n : Int) = ((m ||| n : Nat) : Int) := by
  show IntKind.wrap .i64 ((BitVec.ofInt 64 (m : Int) ||| BitVec.ofInt 64 (n : Int)).toNat : Int) = _
  rw [BitVec.toNat_or, toNat_ofInt_nat (by omega), toNat_ofInt_nat (by omega), wrap_i64n (Nat.or_lt_two_pow hm hn)]
theorem andNotI {m n : Nat} (hm : m < 2 ^ 63) (hn : n < 2 ^ 63) (h : bitsA .andNot .i64 (m : Int) (n : Int) = 0) : m &&& n = m := by
  have h : IntKind.wrap .i64 ((BitVec.ofInt 64 (m : Int) &&& ~~~(BitVec.ofInt 64 (n : Int))).toNat : Int) = 0 := h
  have hlt : (BitVec.ofInt 64 (m : Int) &&& ~~~(BitVec.ofInt 64 (n : Int))).toNat < 2 ^ 63 := by
    rw [BitVec.toNat_and, toNat_ofInt_nat (by omega)]
    exact Nat.lt_of_le_of_lt Nat.and_le_left hm
  rw [wrap_i64n hlt] at h
  have h0 : (BitVec.ofInt 64 (m : Int) &&& ~~~(BitVec.ofInt 64 (n : Int))) = 0#64 := BitVec.eq_of_toNat_eq (by simpa using h)
  apply Nat.eq_of_testBit_eq
  intro i
  rw [Nat.testBit_and]
  by_cases hi : i < 64
  · have hb := congrArg (fun x => x.getLsbD i) h0
    simp only [BitVec.getLsbD_and, BitVec.getLsbD_not, hi, decide_true, Bool.true_and, BitVec.getLsbD_zero, ofInt_nat, BitVec.getLsbD_ofNat] at hb
    cases h1 : m.testBit i <;> cases h2 : n.testBit i <;> simp_all
  · have : m.testBit i = false := Nat.testBit_lt_two_pow (Nat.lt_of_lt_of_le hm (Nat.pow_le_pow_right (by decide) (by omega)))
    simp [this]
theorem shl64 {l : Nat} (h : l < 64) : shlA .u64 1 (l : Int) = ((2 ^ l : Nat) : Int) := by
  unfold shlA
  rw [show min (l : Int).toNat (IntKind.bits .u64) = l from by show min (l : Int).toNat 64 = l; omega, Int.one_mul]
  have : ((2 : Int) ^ l) = ((2 ^ l : Nat) : Int) := by simp
  rw [this, wrap_u64 (Nat.pow_lt_pow_right (by decide) h)]
theorem shlI {l : Nat} (h : l < 63) : shlA .i64 1 (l : Int) = ((2 ^ l : Nat) : Int) := by
  unfold shlA
  rw [show min (l : Int).toNat (IntKind.bits .i64) = l from by show min (l : Int).toNat 64 = l; omega, Int.one_mul]
  have : ((2 : Int) ^ l) = ((2 ^ l : Nat) : Int) := by simp
  rw [this, wrap_i64n (Nat.pow_lt_pow_right (by decide) h)]
/-- Two masks have a common element? -/
theorem and_ne_zero {m n : Nat} : m &&& n ≠ 0 ↔ ∃ i, m.testBit i = true ∧ n.testBit i = true := by
  constructor
  · intro h
    obtain ⟨i, hi⟩ := Nat.exists_testBit_of_ne_zero h
    rw [Nat.testBit_and, Bool.and_eq_true] at hi
    exact ⟨i, hi⟩
  · rintro ⟨i, h1, h2⟩ h
    have := congrArg (fun x => x.testBit i) h
    simp [Nat.testBit_and, h1, h2] at this
theorem Gets.loadN {P : Program} {H : AHeap} {t : TypeId} {ti : TI} {i off j : Nat} {k : IntKind} {l : List Int} {x : Int} {A : AVal → Prop} (ht : tinfo P t = some ti) (hag : ti.agg = false) (hf : (H.f i).cs = nums k l) (ho : off = j) (hx : l[j]? = some x) (hA : A (.int k x)) : Gets (loadA P H t (.ptr i off)) A :=
  ⟨⟨_, by subst ho; simp only [loadA, ht, AHeap.load, hag, Bool.false_eq_true, if_false, hf, nums_get, hx, Option.map_some], hA⟩⟩
theorem Gets.storeN {P : Program} {H : AHeap} {t : TypeId} {ti : TI} {i off j es : Nat} {k : IntKind} {x : Int} {l : List Int} {A : AHeap → Prop} (ht : tinfo P t = some ti) (hsz : ti.size = 1) (hf : H.f i = .cells es (nums k l)) (ho : off = j) (h : j < l.length) (hA : A (H.set i (.cells es (nums k (l.set j x))))) : Gets (storeA P H t (.ptr i off) (.int k x)) A := by
  subst ho; exact Gets.storeK ht hsz hf h hA
end Go.Vh
