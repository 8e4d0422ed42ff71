/- Operations on numbers, tests, parts of structs and places. -/
import Derived.Test.YtdahmcgncpoliaaVhC
set_option linter.unusedVariables false
set_option linter.unusedSimpArgs false
namespace Go.Vh
variable {P : Program}

def bitsA (op : BinOp) (k : IntKind) (x y : Int) : Int :=
  match op with
  | .and => k.wrap (BitVec.ofInt k.bits x &&& BitVec.ofInt k.bits y).toNat
  | .or => k.wrap (BitVec.ofInt k.bits x ||| BitVec.ofInt k.bits y).toNat
  | .xor => k.wrap (BitVec.ofInt k.bits x ^^^ BitVec.ofInt k.bits y).toNat
  | _ => k.wrap (BitVec.ofInt k.bits x &&& ~~~(BitVec.ofInt k.bits y)).toNat
def shlA (k : IntKind) (x y : Int) : Int := k.wrap (x * 2 ^ (min y.toNat k.bits))
def shrA (k : IntKind) (x y : Int) : Int := x.fdiv (2 ^ (min y.toNat k.bits))
def abinInt (op : BinOp) (k : IntKind) (a b : Int) : Option AVal :=
  match op with
  | .add => some (.int k (k.wrap (a + b)))
  | .sub => some (.int k (k.wrap (a - b)))
  | .mul => some (.int k (k.wrap (a * b)))
  | .quo => if b = 0 then none else some (.int k (k.wrap (a.tdiv b)))
  | .rem => if b = 0 then none else some (.int k (a.tmod b))
  | .and => some (.int k (bitsA .and k a b))
  | .or => some (.int k (bitsA .or k a b))
  | .xor => some (.int k (bitsA .xor k a b))
  | .andNot => some (.int k (bitsA .andNot k a b))
  | .eql => some (.bool (a == b))
  | .neq => some (.bool (a != b))
  | .lss => some (.bool (decide (a < b)))
  | .leq => some (.bool (decide (a ≤ b)))
  | .gtr => some (.bool (decide (a > b)))
  | .geq => some (.bool (decide (a ≥ b)))
  | _ => none
def abinStr (op : BinOp) (a b : ByteArray) : Option AVal :=
  match op with
  | .add => if a.size + b.size ≤ 4294967296 then some (.str (a ++ b)) else none
  | .eql => some (.bool (a.toList == b.toList))
  | .neq => some (.bool (!(a.toList == b.toList)))
  | _ => none
/-- A type whose values are equal as lists of cells are. -/
def scalarD : TypeDesc → Bool
  | .int _ | .bool | .string => true
  | _ => false
def flatFields (P : Program) : List Field → Nat → Bool
  | [], _ => true
  | f :: fs, j => f.offset == j && f.name != "_" && ((P.underlying f.type).map scalarD).getD false && flatFields P fs (j + 1)
def aeqS : AVal → AVal → Option Bool
  | .int k a, .int k' b => if k = k' then some (a == b) else none
  | .bool a, .bool b => some (a == b)
  | .str a, .str b => some (a.toList == b.toList)
  | _, _ => none
def aeqL : List AVal → List AVal → Option Bool
  | [], [] => some true
  | a :: as, b :: bs => match aeqS a b, aeqL as bs with
    | some x, some y => some (x && y)
    | _, _ => none
  | _, _ => none

def abin (op : BinOp) (x y : AVal) : Option AVal :=
  match op, x, y with
  | .shl, .int k a, .int _ b => if b < 0 then none else some (.int k (shlA k a b))
  | .shr, .int k a, .int _ b => if b < 0 then none else some (.int k (shrA k a b))
  | op, .int k a, .int k' b => if k = k' then abinInt op k a b else none
  | op, .str a, .str b => abinStr op a b
  | _, _, _ => none

theorem run_eqGuard_scalar {op : BinOp} {t : TypeId} {x y : Operand} {a b : Value} (w : World) (ha : scalarV a = true) (hn : a ≠ .nilIface ∨ b ≠ .nilIface) : (eqGuard op t x y a b).run P w = .ok () w := by
  unfold eqGuard
  cases a with
  | agg cs => simp [scalarV] at ha
  | nilIface => cases b <;> first | (cases op <;> rfl) | simp at hn
  | _ => cases op <;> rfl

theorem abin_run {op : BinOp} {t : TypeId} {φ : PMap} {x y v : AVal} {cx cy : Value} (hx : VRel φ x cx) (hy : VRel φ y cy) (h : abin op x y = some v) :
    ∃ c, (∀ w, (binOp op t cx cy).run P w = .ok c w) ∧ VRel φ v c ∧ scalarV cx = true ∧ cx ≠ .nilIface := by
  unfold abin at h
  split at h
  · rename_i k a k' b
    obtain rfl : cx = .int k a := hx
    obtain rfl : cy = .int k' b := hy
    split at h
    · cases h
    · rename_i hb
      cases h
      exact ⟨_, fun w => by simp [binOp, Op.shift, hb, shlA], rfl, rfl, by simp⟩
  · rename_i k a k' b
    obtain rfl : cx = .int k a := hx
    obtain rfl : cy = .int k' b := hy
    split at h
    · cases h
    · rename_i hb
      cases h
      exact ⟨_, fun w => by simp [binOp, Op.shift, hb, shrA], rfl, rfl, by simp⟩
  · rename_i k a k' b hns1 hns2
    obtain rfl : cx = .int k a := hx
    obtain rfl : cy = .int k' b := hy
    split at h
    · rename_i hk
      subst hk
      cases op <;> simp only [abinInt, Option.some.injEq, reduceCtorEq] at h
      case quo =>
        split at h
        · cases h
        · rename_i hb; cases h; exact ⟨_, fun w => by simp [binOp, Op.intDiv, hb], rfl, rfl, by simp⟩
      case rem =>
        split at h
        · cases h
        · rename_i hb; cases h; exact ⟨_, fun w => by simp [binOp, Op.intDiv, hb], rfl, rfl, by simp⟩
      all_goals (subst h; exact ⟨_, fun w => by simp [binOp, Op.intArith, Op.intBits, Op.intCmp, bitsA], rfl, rfl, by simp⟩)
    · cases h
  · rename_i a b
    obtain rfl : cx = .string a := hx
    obtain rfl : cy = .string b := hy
    cases op <;> simp only [abinStr, Option.some.injEq, reduceCtorEq] at h
    case add =>
      split at h
      · rename_i hl
        cases h
        refine ⟨_, fun w => ?_, rfl, rfl, by simp⟩
        simp only [binOp, Op.stringOp]
        rw [if_neg (by simp [IntKind.max, IntKind.bits, IntKind.signed]; omega)]
        rfl
      · cases h
    all_goals (subst h; exact ⟨_, fun w => by simp [binOp, Op.stringOp], rfl, rfl, by simp⟩)
  · cases h

/-- Equality of bools, of flat structs and arrays, and with nil. -/
inductive EqKind where
  | bool
  | flat (n : Nat)
  | nilable
def eqKind (P : Program) (t : TypeId) : Option EqKind :=
  match P.underlying t with
  | some .bool => some .bool
  | some (.struct fs) => if flatFields P fs.toList 0 && !P.stoodInHeld t && !P.eqGuardType P.depth t then some (.flat fs.size) else none
  | some (.array n e) => if ((P.underlying e).map scalarD).getD false && !P.eqGuardType P.depth t then some (.flat n) else none
  | some (.slice _) | some (.map _ _) | some (.func _ _ _) | some (.pointer _) => some .nilable
  | _ => none
def isNilA : AVal → Option Bool
  | .nilSlice => some true
  | .slice _ _ _ => some false
  | .map _ => some false
  | .func _ _ _ => some false
  | .yield _ => some false
  | .ptr _ _ => some false
  | .raw (.map none) | .raw .nilFunc | .raw (.pointer none) => some true
  | _ => none
def aeq (k : EqKind) (x y : AVal) : Option Bool :=
  match k, x, y with
  | .bool, .bool a, .bool b => some (a == b)
  | .flat _, .agg l, .agg m => if l.length = m.length then aeqL l m else none
  | .nilable, x, .nilSlice => isNilA x
  | .nilable, x, .raw (.map none) => isNilA x
  | .nilable, x, .raw .nilFunc => isNilA x
  | .nilable, x, .raw (.pointer none) => isNilA x
  | _, _, _ => none

def aun (op : UnOp) (x : AVal) : Option AVal :=
  match op, x with
  | .neg, .int k n => some (.int k (k.wrap (0 - n)))
  | .xor, .int k n => some (.int k (bitsA .xor k (if k.signed then -1 else k.max) n))
  | .not, .bool b => some (.bool !b)
  | _, _ => none
theorem aun_run {op : UnOp} {φ : PMap} {x v : AVal} {cx : Value} (hx : VRel φ x cx) (h : aun op x = some v) : ∃ c, (∀ w, (Op.unary op cx).run P w = .ok c w) ∧ VRel φ v c := by
  unfold aun at h
  split at h
  · rename_i k n; obtain rfl : cx = .int k n := hx; cases h; exact ⟨_, fun w => by simp [Op.unary, Op.intArith], rfl⟩
  · rename_i k n; obtain rfl : cx = .int k n := hx; cases h; exact ⟨_, fun w => by simp [Op.unary, Op.intBits, bitsA], rfl⟩
  · rename_i b; obtain rfl : cx = .bool b := hx; cases h; exact ⟨_, fun w => by simp [Op.unary], rfl⟩
  · cases h

/-! ### Places -/
def fieldOff (P : Program) (s : TypeId) (k : Nat) : Option Nat :=
  match P.underlying s with
  | some (.struct fs) => match fs[k]? with
    | some f => match P.info? f.type with
      | some i => if i.size = 0 then none else some f.offset
      | none => none
    | none => none
  | _ => none
theorem pure_fieldAt {φ : PMap} {s : TypeId} {k o i off : Nat} {c : Value} (h : fieldOff P s k = some o) (hp : VRel φ (.ptr i off) c) : PureTo P φ (Instr.fieldAt s c k) (.ptr i (off + o)) := by
  obtain ⟨b, hb, rfl⟩ := hp
  unfold fieldOff at h
  split at h
  · rename_i fs hu
    split at h
    · rename_i f hf
      split at h
      · rename_i inf hinf
        split at h
        · cases h
        · rename_i hz
          cases h
          refine ⟨.pointer (some ⟨b.blk, b.base + (off + f.offset), none⟩), fun w => ?_, ⟨b, hb, rfl⟩⟩
          simp [Instr.fieldAt, run_underlying' hu, Result.andThen, hf, Instr.sureAddr, fieldPlace, run_sizeOf' hinf, hz, add_at, Nat.add_assoc]
      · cases h
    · cases h
  · cases h

def elemSize (P : Program) (t : TypeId) : Option Nat :=
  match P.underlying t with
  | some (.slice e) | some (.array _ e) => (P.info? e).map (·.size)
  | _ => none
def arrayLen? (P : Program) (t : TypeId) : Option Nat :=
  match P.underlying t with
  | some (.array n _) => some n
  | _ => none
def aindexAddr (P : Program) (t : TypeId) (x ix : AVal) : Option AVal :=
  match elemSize P t, x, ix with
  | some es, .slice i off len, .int _ n => if 0 ≤ n ∧ n < (len : Int) then some (.ptr i (off + n.toNat * es)) else none
  | some es, .ptr i off, .int _ n => match arrayLen? P t with
    | some len => if 0 ≤ n ∧ n < (len : Int) then some (.ptr i (off + n.toNat * es)) else none
    | none => none
  | _, _, _ => none
theorem pure_indexAt {φ : PMap} {t : TypeId} {x ix v : AVal} {cx ci : Value} (hx : VRel φ x cx) (hi : VRel φ ix ci) (h : aindexAddr P t x ix = some v)
    (hsl : ∀ i off len, x = .slice i off len → ∃ e, P.underlying t = some (.slice e)) (har : ∀ i off, x = .ptr i off → ∃ n e, P.underlying t = some (.array n e)) : PureTo P φ (Instr.indexAt t cx ci) v := by
  unfold aindexAddr at h
  split at h
  · rename_i es i off len k n hes
    split at h
    · rename_i hb
      cases h
      obtain ⟨e, hu⟩ := hsl _ _ _ rfl
      obtain ⟨b, cap, ad, hφ, rfl, hlc, hcap⟩ := hx
      obtain rfl : ci = .int k n := hi
      obtain ⟨rfl, _⟩ := hcap (by omega)
      simp only [elemSize, hu] at hes
      cases hinf : P.info? e with
      | none => simp [hinf] at hes
      | some inf =>
        simp only [hinf, Option.map_some, Option.some.injEq] at hes
        refine ⟨.pointer (some ⟨b.blk, b.base + (off + n.toNat * es), none⟩), fun w => ?_, ⟨b, hφ, rfl⟩⟩
        simp [Instr.indexAt, asIntOf, run_underlying' hu, Result.andThen, hb, run_sizeOf' hinf, hes, add_at, Nat.add_assoc]
    · cases h
  · rename_i es i off k n hes
    split at h
    · rename_i len hlen
      split at h
      · rename_i hb
        cases h
        obtain ⟨m, e, hu⟩ := har _ _ rfl
        simp only [arrayLen?, hu, Option.some.injEq] at hlen
        subst hlen
        obtain ⟨b, hφ, rfl⟩ := hx
        obtain rfl : ci = .int k n := hi
        simp only [elemSize, hu] at hes
        cases hinf : P.info? e with
        | none => simp [hinf] at hes
        | some inf =>
          simp only [hinf, Option.map_some, Option.some.injEq] at hes
          refine ⟨.pointer (some ⟨b.blk, b.base + (off + n.toNat * es), none⟩), fun w => ?_, ⟨b, hφ, rfl⟩⟩
          simp [Instr.indexAt, asIntOf, run_underlying' hu, Result.andThen, Instr.sureAddr, hb, run_sizeOf' hinf, hes, add_at, Nat.add_assoc]
      · cases h
    · cases h
  · cases h

/-! ### Parts of values -/
def fieldGet (P : Program) (s : TypeId) (k : Nat) : Option (Nat × Nat × Bool) :=
  match P.underlying s with
  | some (.struct fs) => match fs[k]? with
    | some f => match P.info? f.type, P.underlying f.type with
      | some i, some d => some (f.offset, i.size, TypeDesc.isAgg d)
      | _, _ => none
    | none => none
  | _ => none
def partA (l : List AVal) (p : Nat × Nat × Bool) : Option AVal :=
  if p.2.2 then (if p.1 + p.2.1 ≤ l.length then some (.agg ((l.drop p.1).take p.2.1)) else none) else l[p.1]?
theorem part_run {φ : PMap} {t : TypeId} {inf : TypeInfo} {d : TypeDesc} {l : List AVal} {cs : List Value} {o : Nat} {v : AVal} (hi : P.info? t = some inf) (hd : P.underlying t = some d) (h : VRels φ l cs)
    (hv : partA l (o, inf.size, TypeDesc.isAgg d) = some v) : ∃ c, (∀ w, (part t cs.toArray o).run P w = .ok c w) ∧ VRel φ v c := by
  unfold partA at hv
  by_cases ha : TypeDesc.isAgg d = true
  · simp only [ha, if_true] at hv
    split at hv
    · cases hv
      refine ⟨.agg ((cs.drop o).take inf.size).toArray, fun w => ?_, _, rfl, VRels_take (VRels_drop h _) _⟩
      simp [part, run_isAgg' hd, ha, Result.andThen, run_sizeOf' hi]
    · cases hv
  · simp only [ha] at hv
    obtain ⟨c, hc, hr⟩ := VRels_get h (by simpa using hv)
    exact ⟨c, fun w => by simp [part, run_isAgg' hd, ha, Result.andThen, hc], hr⟩
def afield (P : Program) (s : TypeId) (x : AVal) (k : Nat) : Option AVal :=
  match x, fieldGet P s k with
  | .agg l, some p => partA l p
  | _, _ => none
theorem pure_field {φ : PMap} {s : TypeId} {k : Nat} {x v : AVal} {c : Value} (hx : VRel φ x c) (h : afield P s x k = some v) : PureTo P φ (Instr.field s c k) v := by
  unfold afield at h
  split at h
  · rename_i l p hp
    obtain ⟨cs, rfl, hcs⟩ := hx
    unfold fieldGet at hp
    split at hp
    · rename_i fs hu
      split at hp
      · rename_i f hf
        split at hp
        · rename_i i d hi hd
          cases hp
          obtain ⟨c, hc, hr⟩ := part_run (P := P) hi hd hcs h
          refine ⟨c, fun w => ?_, hr⟩
          simp [Instr.field, run_underlying' hu, Result.andThen, hf, asAgg, hc]
        · cases hp
      · cases hp
    · cases hp
  · cases h
def aindex (P : Program) (t : TypeId) (x ix : AVal) : Option AVal :=
  match P.underlying t, x, ix with
  | some (.array n e), .agg l, .int _ i => match P.info? e, P.underlying e with
    | some inf, some d => if 0 ≤ i ∧ i < (n : Int) then partA l (i.toNat * inf.size, inf.size, TypeDesc.isAgg d) else none
    | _, _ => none
  | some .string, .str s, .int _ i => if h : 0 ≤ i ∧ i < (s.size : Int) then some (.int .u8 ((s[i.toNat]'(by omega)).toNat : Int)) else none
  | _, _, _ => none
theorem pure_index {φ : PMap} {t : TypeId} {x ix v : AVal} {cx ci : Value} (hx : VRel φ x cx) (hi : VRel φ ix ci) (h : aindex P t x ix = some v) : PureTo P φ (Instr.index t cx ci) v := by
  unfold aindex at h
  split at h
  · rename_i n e l k i hu
    obtain ⟨cs, rfl, hcs⟩ := hx
    obtain rfl : ci = .int k i := hi
    split at h
    · rename_i inf d hinf hd
      split at h
      · rename_i hb
        obtain ⟨c, hc, hr⟩ := part_run (P := P) hinf hd hcs h
        refine ⟨c, fun w => ?_, hr⟩
        simp [Instr.index, asIntOf, run_underlying' hu, Result.andThen, hb, run_sizeOf' hinf, hc]
      · cases h
    · cases h
  · rename_i s k i hu
    obtain rfl : cx = .string s := hx
    obtain rfl : ci = .int k i := hi
    split at h
    · rename_i hb
      cases h
      refine ⟨.int .u8 ((s[i.toNat]'(by omega)).toNat : Int), fun w => ?_, rfl⟩
      have hlt : i.toNat < s.size := by omega
      simp [Instr.index, asIntOf, run_underlying' hu, Result.andThen, hb.1, hlt]
    · cases h
  · cases h
theorem pure_extract {φ : PMap} {l : List AVal} {k : Nat} {v : AVal} {c : Value} (hx : VRel φ (.tuple l) c) (h : l[k]? = some v) : PureTo P φ (Instr.extract c k) v := by
  obtain ⟨cs, rfl, hcs⟩ := hx
  obtain ⟨c, hc, hr⟩ := VRels_get hcs h
  exact ⟨c, fun w => (by simp [Instr.extract, hc]), hr⟩
end Go.Vh
