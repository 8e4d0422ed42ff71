import Derived.Test.YtaccmanpanpbiaaVkC
/- Bits of natural numbers; elements put behind rows. -/
set_option linter.unusedVariables false
set_option linter.unusedSimpArgs false
namespace Go.Vk
open Go.Vh
variable {P : Program}
/-! ### Bits -/
theorem Gets.shrN {k' : IntKind} {n i : Nat} {A : AVal → Prop} (hi : i < 64) (hA : A (.int .i64 ((n >>> i : Nat) : Int))) : Gets (abin .shr (.int .i64 (n : Int)) (.int k' (i : Int))) A := by
  refine Gets.shr (by omega) ?_
  have : shrA .i64 (n : Int) (i : Int) = ((n >>> i : Nat) : Int) := by
    unfold shrA
    rw [show min (i : Int).toNat (IntKind.bits .i64) = i from by show min (i : Int).toNat 64 = i; omega, Nat.shiftRight_eq_div_pow, Int.fdiv_eq_ediv_of_nonneg _ (Int.le_of_lt (Int.pow_pos (by decide)))]
    simp
  rw [this]; exact hA
theorem Gets.andOne {n : Nat} {A : AVal → Prop} (hn : n < 2 ^ 63) (hA : A (.int .i64 ((n % 2 : Nat) : Int))) : Gets (abin .and (.int .i64 (n : Int)) (.int .i64 1)) A := by
  refine ⟨⟨_, rfl, ?_⟩⟩
  rw [show (1 : Int) = ((1 : Nat) : Int) from rfl, andI hn (by decide), Nat.and_one_is_mod]
  exact hA
theorem tb1 {n i : Nat} : (((n >>> i % 2 : Nat) : Int) = 1) ↔ n.testBit i = true := by
  rw [Nat.testBit, Nat.and_comm, Nat.and_one_is_mod]
  rcases Nat.mod_two_eq_zero_or_one (n >>> i) with h | h <;> simp [h]
theorem tb0 {n i : Nat} : (((n >>> i % 2 : Nat) : Int) = 0) ↔ n.testBit i = false := by
  rw [Nat.testBit, Nat.and_comm, Nat.and_one_is_mod]
  rcases Nat.mod_two_eq_zero_or_one (n >>> i) with h | h <;> simp [h]
theorem tb2 {n k j : Nat} : (((n >>> k % 2 : Nat) : Int) = ((n >>> j % 2 : Nat) : Int)) ↔ n.testBit k = n.testBit j := by
  have h : ∀ i, n.testBit i = decide (n >>> i % 2 = 1) := fun i => by
    rw [Nat.testBit, Nat.and_comm, Nat.and_one_is_mod]
    rcases Nat.mod_two_eq_zero_or_one (n >>> i) with h | h <;> simp [h]
  rw [h k, h j]
  rcases Nat.mod_two_eq_zero_or_one (n >>> k) with h1 | h1 <;> rcases Nat.mod_two_eq_zero_or_one (n >>> j) with h2 | h2 <;> simp [h1, h2]
theorem Gets.shlN {k' : IntKind} {i : Nat} {A : AVal → Prop} (hi : i < 63) (hA : A (.int .i64 ((2 ^ i : Nat) : Int))) : Gets (abin .shl (.int .i64 1) (.int k' (i : Int))) A := by
  refine Gets.shl (by omega) ?_
  rw [shlI hi]; exact hA
theorem orI {m n : Nat} (hm : m < 2 ^ 63) (hn : n < 2 ^ 63) : bitsA .or .i64 (m : Int) (n : Int) = ((m ||| n : Nat) : Int) := by
  have h3 : m ||| n < 2 ^ 63 := Nat.or_lt_two_pow hm hn
  show IntKind.wrap .i64 (((BitVec.ofInt 64 (m : Int) ||| BitVec.ofInt 64 (n : Int)).toNat : Nat) : Int) = _
  have h1 : BitVec.ofInt 64 (m : Int) = BitVec.ofNat 64 m := by simp
  have h2 : BitVec.ofInt 64 (n : Int) = BitVec.ofNat 64 n := by simp
  rw [h1, h2, BitVec.toNat_or, BitVec.toNat_ofNat, BitVec.toNat_ofNat, Nat.mod_eq_of_lt (by omega), Nat.mod_eq_of_lt (by omega)]
  exact wrap_i64n h3
theorem Gets.orN {m n : Nat} {A : AVal → Prop} (hm : m < 2 ^ 63) (hn : n < 2 ^ 63) (hA : A (.int .i64 ((m ||| n : Nat) : Int))) : Gets (abin .or (.int .i64 (m : Int)) (.int .i64 (n : Int))) A :=
  ⟨⟨_, rfl, by rw [orI hm hn]; exact hA⟩⟩
theorem Gets.quoI {a b : Int} {A : AVal → Prop} (h0 : 0 ≤ a) (h1 : a ≤ 9223372036854775807) (hb : 0 < b) (hA : A (.int .i64 (a / b))) : Gets (abin .quo (.int .i64 a) (.int .i64 b)) A := by
  refine Gets.quoN h0 hb ?_
  have h2 : 0 ≤ a / b := Int.ediv_nonneg h0 (by omega)
  have h3 : a / b ≤ a := Int.ediv_le_self b h0
  rw [wrap_i64 (by omega) (by omega)]; exact hA
/-- A number out of bits. -/
def packN (f : Nat → Bool) : Nat → Nat
  | 0 => 0
  | n + 1 => if f n = true then packN f n ||| 2 ^ n else packN f n
theorem packN_lt (f : Nat → Bool) : ∀ n, packN f n < 2 ^ n
  | 0 => by simp [packN]
  | n + 1 => by
    have := packN_lt f n
    unfold packN
    split
    · exact Nat.or_lt_two_pow (by rw [Nat.pow_succ]; omega) (Nat.pow_lt_pow_right (by decide) (by omega))
    · rw [Nat.pow_succ]; omega
theorem packN_bit (f : Nat → Bool) : ∀ n i, (packN f n).testBit i = (decide (i < n) && f i)
  | 0, i => by simp [packN]
  | n + 1, i => by
    unfold packN
    have ih := packN_bit f n i
    rcases Nat.lt_trichotomy i n with h | h | h
    · have h1 : decide (i < n + 1) = true := by simp; omega
      have h2 : decide (i < n) = true := by simp; omega
      rw [h1]; rw [h2] at ih
      split
      · rw [Nat.testBit_or, ih, Nat.testBit_two_pow_of_ne (by omega)]; simp
      · exact ih
    · subst h
      have h2 : decide (i < i) = false := by simp
      rw [h2] at ih
      split
      · rename_i hf
        rw [Nat.testBit_or, ih, Nat.testBit_two_pow_self, hf]; simp
      · rename_i hf
        rw [ih]; simp at hf; simp [hf]
    · have h1 : decide (i < n + 1) = false := by simp; omega
      have h2 : decide (i < n) = false := by simp; omega
      rw [h1]; rw [h2] at ih
      split
      · rw [Nat.testBit_or, ih, Nat.testBit_two_pow_of_ne (by omega)]; simp
      · exact ih
theorem packN_congr {f g : Nat → Bool} : ∀ n, (∀ i, i < n → f i = g i) → packN f n = packN g n
  | 0, _ => rfl
  | n + 1, h => by simp only [packN, packN_congr n (fun i hi => h i (by omega)), h n (by omega)]
theorem packN_testBit {m n : Nat} (h : m < 2 ^ n) : packN (fun i => m.testBit i) n = m := by
  refine Nat.eq_of_testBit_eq fun i => ?_
  rw [packN_bit]
  rcases Nat.lt_or_ge i n with h1 | h1
  · simp [h1]
  · have : m.testBit i = false := Nat.testBit_lt_two_pow (Nat.lt_of_lt_of_le h (Nat.pow_le_pow_right (by decide) h1))
    simp [this]
/-! ### Elements behind a row -/
theorem Gets.appG {H : AHeap} {t tx : TypeId} {ti : TI} {d : TypeDesc} {i m n es : Nat} {cs xs : List AVal} {x : AVal} {A : AVal × AHeap → Prop} (ht : sliceT P t = some ti) (hd : P.underlying tx = some d) (hr : rowD d = true) (hsz : ti.size = es) (hz : ti.zero.length = es) (hb : ti.bytes ≤ 4096)
    (hi : H.f i = .cells es cs) (hx : srcA H es x = some (xs, n)) (hl : m * es ≤ cs.length) (hm : m + n ≤ 4294967296) (hs : xs.all AVal.scalar = true) (hA : A (.slice H.n 0 (m + n), (H.set i .dead).alloc (.cells es (cs.take (m * es) ++ xs)))) :
    Gets (builtA P H .append [t, tx] [.slice i 0 m, x]) A := by
  refine ⟨⟨_, ?_, hA⟩⟩
  simp only [builtA, apureB, amemB, app2 hd hr, aappend, ht, hd]
  rw [if_pos ⟨hr, hb, by rw [hz, hsz]⟩]
  subst hsz
  simp only [hx, hi]
  rw [if_pos ⟨trivial, by omega, hm, hs⟩]
  simp
/-- One truth value behind a row of them, of which the last ones may be forgotten. -/
theorem Gets.appB {H : AHeap} {t tx : TypeId} {ti : TI} {d : TypeDesc} {i j m : Nat} {l : List Bool} {b : Bool} {A : AVal × AHeap → Prop} (ht : sliceT P t = some ti) (hd : P.underlying tx = some d) (hr : rowD d = true) (hsz : ti.size = 1) (hz : ti.zero.length = 1) (hb : ti.bytes ≤ 4096)
    (hi : H.f i = .cells 1 (bls l)) (hx : H.f j = .cells 1 [.bool b]) (hl : m ≤ l.length) (hm : m < 4294967296) (hA : A (.slice H.n 0 (m + 1), (H.set i .dead).alloc (.cells 1 (bls (l.take m ++ [b]))))) :
    Gets (builtA P H .append [t, tx] [.slice i 0 m, .slice j 0 1]) A := by
  refine Gets.appG (n := 1) (xs := [.bool b]) ht hd hr hsz hz hb hi ?_ (by rw [bls_length]; omega) (by omega) rfl ?_
  · simp [srcA, hx]
  · rw [Nat.mul_one]
    have : (bls l).take m ++ [AVal.bool b] = bls (l.take m ++ [b]) := by simp [bls, List.map_take]
    rw [this]; exact hA
theorem Gets.appB1 {H : AHeap} {t tx : TypeId} {ti : TI} {d : TypeDesc} {i j m : Nat} {l : List Bool} {b : Bool} {A : AVal × AHeap → Prop} (ht : sliceT P t = some ti) (hd : P.underlying tx = some d) (hr : rowD d = true) (hsz : ti.size = 1) (hz : ti.zero.length = 1) (hb : ti.bytes ≤ 4096)
    (hi : H.f i = .cells 1 (bls l)) (hx : H.f j = .cells 1 [.bool b]) (hl : m = l.length) (hm : m < 4294967296) (hA : A (.slice H.n 0 (m + 1), (H.set i .dead).alloc (.cells 1 (bls (l ++ [b]))))) :
    Gets (builtA P H .append [t, tx] [.slice i 0 m, .slice j 0 1]) A := by
  subst hl
  refine Gets.appB ht hd hr hsz hz hb hi hx (Nat.le_refl _) hm ?_
  rw [List.take_of_length_le (Nat.le_refl _)]; exact hA
/-- One number behind a row. -/
theorem Gets.appI1 {H : AHeap} {t tx : TypeId} {ti : TI} {d : TypeDesc} {i j m : Nat} {l : List Int} {x : Int} {A : AVal × AHeap → Prop} (ht : sliceT P t = some ti) (hd : P.underlying tx = some d) (hr : rowD d = true) (hsz : ti.size = 1) (hz : ti.zero.length = 1) (hb : ti.bytes ≤ 4096)
    (hi : H.f i = .cells 1 (ints l)) (hx : H.f j = .cells 1 [.int .i64 x]) (hl : m = l.length) (hm : m < 4294967296) (hA : A (.slice H.n 0 (m + 1), (H.set i .dead).alloc (.cells 1 (ints (l ++ [x]))))) :
    Gets (builtA P H .append [t, tx] [.slice i 0 m, .slice j 0 1]) A := by
  subst hl
  refine Gets.appG (n := 1) (xs := [.int .i64 x]) ht hd hr hsz hz hb hi ?_ (by rw [ints, List.length_map]; omega) (by omega) rfl ?_
  · simp [srcA, hx]
  · have : (ints l).take (l.length * 1) ++ [AVal.int .i64 x] = ints (l ++ [x]) := by rw [Nat.mul_one, List.take_of_length_le (by rw [ints, List.length_map]; exact Nat.le_refl _)]; simp [ints]
    rw [this]; exact hA
/-- A pair behind a row of pairs. -/
theorem Gets.appP1 {H : AHeap} {t tx : TypeId} {ti : TI} {d : TypeDesc} {i j m : Nat} {l : List (Int × Int)} {x y : Int} {A : AVal × AHeap → Prop} (ht : sliceT P t = some ti) (hd : P.underlying tx = some d) (hr : rowD d = true) (hsz : ti.size = 2) (hz : ti.zero.length = 2) (hb : ti.bytes ≤ 4096)
    (hi : H.f i = .cells 2 (ints (pflat l))) (hx : H.f j = .cells 2 [.int .i64 x, .int .i64 y]) (hl : m = l.length) (hm : m < 4294967296) (hA : A (.slice H.n 0 (m + 1), (H.set i .dead).alloc (.cells 2 (ints (pflat (l ++ [(x, y)])))))) :
    Gets (builtA P H .append [t, tx] [.slice i 0 m, .slice j 0 1]) A := by
  subst hl
  have hlen : (ints (pflat l)).length = l.length * 2 := by rw [ints, List.length_map, pflat_length]
  refine Gets.appG (n := 1) (xs := [.int .i64 x, .int .i64 y]) ht hd hr hsz hz hb hi ?_ (by omega) (by omega) rfl ?_
  · simp [srcA, hx]
  · have : (ints (pflat l)).take (l.length * 2) ++ [AVal.int .i64 x, AVal.int .i64 y] = ints (pflat (l ++ [(x, y)])) := by rw [List.take_of_length_le (by omega), pflat_append]; simp [ints, pflat]
    rw [this]; exact hA
theorem _root_.Go.Vh.BSub.cellsBr {κ κ' : Nat → Nat} {es : Nat} {l : List Bool} : BSub κ (.cells es (bls l)) (.cells es (rens κ' (bls l))) := by rw [rens_bls]; exact .cellsB
theorem _root_.Go.Vh.BSub.cellsIr {κ κ' : Nat → Nat} {es : Nat} {l : List Int} : BSub κ (.cells es (ints l)) (.cells es (rens κ' (ints l))) := by rw [rens_ints]; exact .cellsI
theorem _root_.Go.Vh.BSub.cellsBe {κ : Nat → Nat} {es : Nat} {l l' : List Bool} (h : l = l') : BSub κ (.cells es (bls l)) (.cells es (bls l')) := by subst h; exact .cellsB
theorem _root_.Go.Vh.BSub.cellsIe {κ : Nat → Nat} {es : Nat} {l l' : List Int} (h : l = l') : BSub κ (.cells es (ints l)) (.cells es (ints l')) := by subst h; exact .cellsI
/-! ### Truth values -/
theorem Fork.any {b : Bool} {A B : Prop} (h1 : b = true → A) (h2 : b = false → B) : Fork b A B := ⟨h1, h2⟩
theorem Fork.bit {n i : Nat} {A B : Prop} (h1 : n.testBit i = true → A) (h2 : n.testBit i = false → B) : Fork (((n >>> i % 2 : Nat) : Int) == 1) A B :=
  Fork.eqI (fun h => h1 (tb1.1 h)) (fun h => h2 (by cases hb : n.testBit i with | true => exact absurd (tb1.2 hb) h | false => rfl))
end Go.Vk
