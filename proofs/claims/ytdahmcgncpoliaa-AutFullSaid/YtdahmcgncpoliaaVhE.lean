/- Equality of flat values; maps. -/
import Derived.Test.YtdahmcgncpoliaaVhD
import Derived.Laws.StructEq
import Derived.ChangeKeysEq
import Derived.MapKept
import Derived.WideKeyRuns
set_option linter.unusedVariables false
set_option linter.unusedSimpArgs false
namespace Go.Vh
variable {P : Program}

theorem scalarD_cases {d : TypeDesc} (h : scalarD d = true) : (∃ k, d = .int k) ∨ d = .bool ∨ d = .string := by
  cases d <;> simp_all [scalarD]
theorem aeqS_run {t : TypeId} {d : TypeDesc} {φ : PMap} {x y : AVal} {cx cy : Value} {b : Bool} {n : Nat} (w : World) (hu : P.underlying t = some d) (hd : scalarD d = true) (hx : VRel φ x cx) (hy : VRel φ y cy)
    (hk : ∀ k a, x = .int k a → ∃ k', d = .int k') (hb : ∀ a, x = .bool a → d = .bool) (hs : ∀ a, x = .str a → d = .string) (h : aeqS x y = some b) : (Op.equalIn (n + 1) t cx cy).run P w = .ok b w := by
  unfold aeqS at h
  split at h
  · rename_i k a k' b'
    obtain rfl : cx = .int k a := hx
    obtain rfl : cy = .int k' b' := hy
    split at h
    · rename_i hkk
      subst hkk; cases h
      obtain ⟨k2, rfl⟩ := hk _ _ rfl
      simp [Op.equalIn, run_underlying' hu, Result.andThen]
    · cases h
  · rename_i a b'
    obtain rfl : cx = .bool a := hx
    obtain rfl : cy = .bool b' := hy
    cases h
    obtain rfl := hb _ rfl
    simp [Op.equalIn, run_underlying' hu, Result.andThen]
  · rename_i a b'
    obtain rfl : cx = .string a := hx
    obtain rfl : cy = .string b' := hy
    cases h
    obtain rfl := hs _ rfl
    exact run_equalIn_string w n t a b' hu
  · cases h

/-- A value of a scalar type, as to its kind. -/
def fitsS : TypeDesc → AVal → Bool
  | .int _, .int _ _ => true
  | .bool, .bool _ => true
  | .string, .str _ => true
  | _, _ => false
theorem aeqS_run' {t : TypeId} {d : TypeDesc} {φ : PMap} {x y : AVal} {cx cy : Value} {b : Bool} {n : Nat} (w : World) (hu : P.underlying t = some d) (hf : fitsS d x = true) (hx : VRel φ x cx) (hy : VRel φ y cy) (h : aeqS x y = some b) : (Op.equalIn (n + 1) t cx cy).run P w = .ok b w := by
  refine aeqS_run w hu ?_ hx hy ?_ ?_ ?_ h
  all_goals (cases d <;> cases x <;> simp_all [fitsS, scalarD])

/-- The kinds of a flat type's cells. -/
def flatD (P : Program) (t : TypeId) : Option (List TypeDesc) :=
  match P.underlying t with
  | some (.struct fs) => if flatFields P fs.toList 0 && !P.stoodInHeld t then some (fs.toList.filterMap fun f => P.underlying f.type) else none
  | some (.array n e) => match P.underlying e, P.info? e with
    | some d, some i => if scalarD d && i.size == 1 then some (List.replicate n d) else none
    | _, _ => none
  | _ => none
def fitsL : List TypeDesc → List AVal → Bool
  | [], [] => true
  | d :: ds, v :: vs => fitsS d v && fitsL ds vs
  | _, _ => false
theorem fitsS_scalar {d : TypeDesc} {v : AVal} (h : fitsS d v = true) : scalarD d = true ∧ TypeDesc.isAgg d = false := by cases d <;> cases v <;> simp_all [fitsS, scalarD, TypeDesc.isAgg]
theorem part_scalar {t : TypeId} {d : TypeDesc} (hu : P.underlying t = some d) (ha : TypeDesc.isAgg d = false) {cs : List Value} {o : Nat} {c : Value} (h : cs[o]? = some c) (w : World) : (part t cs.toArray o).run P w = .ok c w := by
  simp [part, run_isAgg' hu, ha, Result.andThen, h]

theorem eqFields_run {φ : PMap} {n : Nat} (w : World) {xs ys : List Value} : ∀ (fs : List Field) (j : Nat) (l m : List AVal) (b : Bool), flatFields P fs j = true → fitsL (fs.filterMap fun f => P.underlying f.type) l = true → VRels φ l (xs.drop j) → VRels φ m (ys.drop j) → aeqL l m = some b →
    (Op.eqFields (n + 1) xs.toArray ys.toArray fs).run P w = .ok b w := by
  intro fs
  induction fs with
  | nil =>
    intro j l m b _ hf _ _ h
    cases l with
    | nil => cases m with
      | nil => simp [aeqL] at h; subst h; rfl
      | cons => simp [aeqL] at h
    | cons => simp [fitsL] at hf
  | cons f fs ih =>
    intro j l m b hfl hf hx hy h
    simp only [flatFields, Bool.and_eq_true, beq_iff_eq, bne_iff_ne, ne_eq] at hfl
    obtain ⟨⟨⟨hoff, hname⟩, hsc⟩, hrest⟩ := hfl
    cases hu : P.underlying f.type with
    | none => simp [hu] at hsc
    | some d =>
      simp only [List.filterMap_cons, hu] at hf
      cases l with
      | nil => simp [fitsL] at hf
      | cons v l =>
        simp only [fitsL, Bool.and_eq_true] at hf
        cases m with
        | nil => simp [aeqL] at h
        | cons u m =>
          simp only [aeqL] at h
          cases h1 : aeqS v u with
          | none => simp [h1] at h
          | some r =>
            cases h2 : aeqL l m with
            | none => simp [h1, h2] at h
            | some s =>
              simp only [h1, h2, Option.some.injEq] at h
              obtain ⟨c, hc, hcr⟩ := VRels_get hx (j := 0) (v := v) rfl
              obtain ⟨e, he, her⟩ := VRels_get hy (j := 0) (v := u) rfl
              rw [List.getElem?_drop, Nat.add_zero] at hc he
              have ha := (fitsS_scalar hf.1).2
              have hx' : VRels φ l (xs.drop (j + 1)) := by
                have := VRels_drop hx 1; simpa [List.drop_drop] using this
              have hy' : VRels φ m (ys.drop (j + 1)) := by
                have := VRels_drop hy 1; simpa [List.drop_drop] using this
              rw [Op.eqFields, if_pos hname]
              simp only [Sem.run_bind, hoff, part_scalar hu ha hc, part_scalar hu ha he, aeqS_run' w hu hf.1 hcr her h1, Result.andThen]
              subst h
              cases r
              · simp
              · simpa using ih (j + 1) l m s hrest hf.2 hx' hy' h2
theorem eqItems_run {φ : PMap} {n : Nat} (w : World) {xs ys : List Value} {e : TypeId} {d : TypeDesc} (hu : P.underlying e = some d) : ∀ (k j : Nat) (l m : List AVal) (b : Bool), fitsL (List.replicate k d) l = true → VRels φ l (xs.drop j) → VRels φ m (ys.drop j) → aeqL l m = some b →
    (Op.eqItems (n + 1) e 1 xs.toArray ys.toArray (List.range' j k)).run P w = .ok b w := by
  intro k
  induction k with
  | zero =>
    intro j l m b hf _ _ h
    cases l with
    | nil => cases m with
      | nil => simp [aeqL] at h; subst h; rfl
      | cons => simp [aeqL] at h
    | cons => simp [fitsL] at hf
  | succ k ih =>
    intro j l m b hf hx hy h
    simp only [List.replicate_succ] at hf
    cases l with
    | nil => simp [fitsL] at hf
    | cons v l =>
      simp only [fitsL, Bool.and_eq_true] at hf
      cases m with
      | nil => simp [aeqL] at h
      | cons u m =>
        simp only [aeqL] at h
        cases h1 : aeqS v u with
        | none => simp [h1] at h
        | some r =>
          cases h2 : aeqL l m with
          | none => simp [h1, h2] at h
          | some s =>
            simp only [h1, h2, Option.some.injEq] at h
            obtain ⟨c, hc, hcr⟩ := VRels_get hx (j := 0) (v := v) rfl
            obtain ⟨e', he, her⟩ := VRels_get hy (j := 0) (v := u) rfl
            rw [List.getElem?_drop, Nat.add_zero] at hc he
            have ha := (fitsS_scalar hf.1).2
            have hx' : VRels φ l (xs.drop (j + 1)) := by
              have := VRels_drop hx 1; simpa [List.drop_drop] using this
            have hy' : VRels φ m (ys.drop (j + 1)) := by
              have := VRels_drop hy 1; simpa [List.drop_drop] using this
            rw [List.range'_succ, Op.eqItems]
            simp only [Sem.run_bind, Nat.mul_one, part_scalar hu ha hc, part_scalar hu ha he, aeqS_run' w hu hf.1 hcr her h1, Result.andThen]
            subst h
            cases r
            · simp
            · simpa using ih (j + 1) l m s hf.2 hx' hy' h2
theorem flat_eq_run {φ : PMap} {n : Nat} (w : World) {t : TypeId} {ds : List TypeDesc} {l m : List AVal} {cx cy : Value} {b : Bool} (hd : flatD P t = some ds) (hf : fitsL ds l = true) (hx : VRel φ (.agg l) cx) (hy : VRel φ (.agg m) cy) (h : aeqL l m = some b) :
    (Op.equalIn (n + 2) t cx cy).run P w = .ok b w := by
  obtain ⟨xs, rfl, hxs⟩ := hx
  obtain ⟨ys, rfl, hys⟩ := hy
  unfold flatD at hd
  split at hd
  · rename_i fs hu
    split at hd
    · rename_i hc
      cases hd
      simp only [Bool.and_eq_true, Bool.not_eq_true'] at hc
      have hfs : P.fieldsOf t = fs := by simp [Program.fieldsOf, hu]
      rw [run_equalIn_agg (P := P) w (n + 1) t _ _ (by rw [hfs]; exact hu) hc.2, hfs]
      exact eqFields_run w fs.toList 0 l m b hc.1 hf (by simpa using hxs) (by simpa using hys) h
    · cases hd
  · rename_i k e hu
    split at hd
    · rename_i d i hue hie
      split at hd
      · rename_i hc
        cases hd
        simp only [Bool.and_eq_true, beq_iff_eq] at hc
        rw [run_equalIn_array w (n + 1) _ _ hu hie]
        have hce : P.cellsOf e = 1 := by simp [Program.cellsOf, hie, hc.2]
        rw [hce, List.range_eq_range']
        exact eqItems_run w hue k 0 l m b hf (by simpa using hxs) (by simpa using hys) h
      · cases hd
    · cases hd
  · cases hd

/-! ### Maps -/
inductive KeyK where
  | scalar (d : TypeDesc)
  | flat (ds : List TypeDesc)
def keyK (P : Program) (t : TypeId) : Option KeyK :=
  match P.underlying t with
  | some d => if scalarD d then some (.scalar d) else (flatD P t).map .flat
  | none => none
def keyEq : KeyK → AVal → AVal → Option Bool
  | .scalar d, x, y => if fitsS d x then aeqS x y else none
  | .flat ds, .agg l, .agg m => if fitsL ds l then aeqL l m else none
  | _, _, _ => none
def mfind (k : KeyK) (x : AVal) : List (AVal × AVal) → Nat → Option (Option (Nat × AVal))
  | [], _ => some none
  | (y, v) :: r, i => match keyEq k x y with
    | some true => some (some (i, v))
    | some false => mfind k x r (i + 1)
    | none => none
theorem beq_bytes (a b : ByteArray) : (a == b) = (a.toList == b.toList) := beq_toListBytes a b
/-- What the model's search finds is what the list's finds. -/
def FRel (φ : PMap) : Option (Nat × AVal) → Option (Nat × Value) → Prop
  | none, none => True
  | some (j, v), some (j', c) => j = j' ∧ VRel φ v c
  | _, _ => False
theorem findNow_run {φ : PMap} {d : TypeDesc} {x : AVal} {cx : Value} (hx : VRel φ x cx) (hf : fitsS d x = true) : ∀ (es : List (AVal × AVal)) (ents : List MapEntry) (i : Nat) (r : Option (Nat × AVal)), MRels φ es ents → mfind (.scalar d) x es i = some r →
    ∃ r', Instr.findNow d cx ents i = some r' ∧ FRel φ r r'
  | [], ents, i, r, h, hr => by
    obtain rfl : ents = [] := h
    simp only [mfind, Option.some.injEq] at hr
    subst hr
    exact ⟨none, rfl, trivial⟩
  | (y, v) :: es, ents, i, r, h, hr => by
    obtain ⟨e, ents', rfl, h1, h2, h3⟩ := h
    simp only [mfind, keyEq, hf, if_true] at hr
    cases hq : aeqS x y with
    | none => simp [hq] at hr
    | some q =>
      have hsame : Instr.sameNow d cx e.key = some q := by
        cases d <;> cases x <;> simp only [fitsS, Bool.false_eq_true] at hf
        case int.int k a b =>
          obtain rfl : cx = .int a b := hx
          cases y <;> simp only [aeqS, reduceCtorEq] at hq
          case int k' b' =>
            have he : e.key = .int k' b' := h1
            rw [he]; exact hq
        case bool.bool a =>
          obtain rfl : cx = .bool a := hx
          cases y <;> simp only [aeqS, reduceCtorEq] at hq
          case bool b' =>
            have he : e.key = .bool b' := h1
            rw [he]; exact hq
        case string.str a =>
          obtain rfl : cx = .string a := hx
          cases y <;> simp only [aeqS, reduceCtorEq] at hq
          case str b' =>
            have he : e.key = .string b' := h1
            rw [he, ← hq]; simp [Instr.sameNow, beq_bytes]
      simp only [hq] at hr
      simp only [Instr.findNow, hsame]
      cases q with
      | true => cases hr; exact ⟨_, rfl, rfl, h2⟩
      | false => exact findNow_run hx hf es ents' (i + 1) r h3 hr
theorem findAsking_run {φ : PMap} {t : TypeId} {ds : List TypeDesc} (hd : flatD P t = some ds) {l : List AVal} {cx : Value} (hx : VRel φ (.agg l) cx) (hf : fitsL ds l = true) (w : World) : ∀ (es : List (AVal × AVal)) (ents : List MapEntry) (i : Nat) (r : Option (Nat × AVal)), MRels φ es ents → mfind (.flat ds) (.agg l) es i = some r →
    ∃ r', (Instr.findAsking t cx ents i).run P w = .ok r' w ∧ FRel φ r r'
  | [], ents, i, r, h, hr => by
    obtain rfl : ents = [] := h
    simp only [mfind, Option.some.injEq] at hr
    subst hr
    exact ⟨none, rfl, trivial⟩
  | (y, v) :: es, ents, i, r, h, hr => by
    obtain ⟨e, ents', rfl, h1, h2, h3⟩ := h
    simp only [mfind] at hr
    cases y <;> simp only [keyEq, reduceCtorEq] at hr
    case agg m =>
      simp only [hf, if_true] at hr
      cases hq : aeqL l m with
      | none => simp [hq] at hr
      | some q =>
        have he : (Op.equal t cx e.key).run P w = .ok q w := flat_eq_run (n := 9998) w hd hf hx h1 hq
        simp only [hq] at hr
        simp only [Instr.findAsking, Sem.run_bind, he, Result.andThen]
        cases q with
        | true => cases hr; exact ⟨_, rfl, rfl, h2⟩
        | false =>
          obtain ⟨r', hr', hm⟩ := findAsking_run hd hx hf w es ents' (i + 1) r h3 hr
          exact ⟨r', by simpa using hr', hm⟩
end Go.Vh
