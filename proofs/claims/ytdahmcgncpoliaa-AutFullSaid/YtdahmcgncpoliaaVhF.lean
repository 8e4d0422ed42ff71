/- Maps read and written. -/
import Derived.Test.YtdahmcgncpoliaaVhE
set_option linter.unusedVariables false
set_option linter.unusedSimpArgs false
namespace Go.Vh
variable {P : Program}

theorem checkKey_scalar {t : TypeId} {d : TypeDesc} (hu : P.underlying t = some d) (hd : scalarD d = true) (c : Value) (em : Bool) (n : Nat) (w : World) : (Instr.checkKey em (n + 1) t c).run P w = .ok () w := by
  unfold Instr.checkKey
  simp only [Sem.run_bind, run_underlying' hu, Result.andThen]
  rcases scalarD_cases hd with ⟨k, rfl⟩ | rfl | rfl <;> rfl
theorem checkFields_run {em : Bool} {n : Nat} (w : World) {xs : List Value} {φ : PMap} : ∀ (fs : List Field) (j : Nat) (l : List AVal), flatFields P fs j = true → fitsL (fs.filterMap fun f => P.underlying f.type) l = true → VRels φ l (xs.drop j) →
    (forIn fs PUnit.unit (fun f _ => do
      if f.name ≠ "_" then Instr.checkKey em (n + 1) f.type (← part f.type xs.toArray f.offset)
      pure (ForInStep.yield PUnit.unit)) : Sem PUnit).run P w = .ok PUnit.unit w := by
  intro fs
  induction fs with
  | nil => intros; rfl
  | cons f fs ih =>
    intro j l hfl hf hx
    simp only [flatFields, Bool.and_eq_true, beq_iff_eq, bne_iff_ne, ne_eq] at hfl
    obtain ⟨⟨⟨hoff, hname⟩, hsc⟩, hrest⟩ := hfl
    cases hu : P.underlying f.type with
    | none => simp [hu] at hsc
    | some d =>
      simp only [List.filterMap_cons, hu] at hf
      cases l with
      | nil => simp [fitsL] at hf
      | cons v l =>
        simp only [fitsL, Bool.and_eq_true] at hf
        obtain ⟨c, hc, hcr⟩ := VRels_get hx (j := 0) (v := v) rfl
        rw [List.getElem?_drop, Nat.add_zero] at hc
        have ha := fitsS_scalar hf.1
        have hx' : VRels φ l (xs.drop (j + 1)) := by
          have := VRels_drop hx 1; simpa [List.drop_drop] using this
        have h1 := ih (j + 1) l hrest hf.2 hx'
        simp only [List.forIn_cons, Sem.run_bind, if_pos hname, hoff, part_scalar hu ha.2 hc, Result.andThen, checkKey_scalar hu ha.1]
        simpa [Sem.run_bind, Result.andThen] using h1
theorem checkItems_run {em : Bool} {n : Nat} (w : World) {xs : List Value} {φ : PMap} {e : TypeId} {d : TypeDesc} {i : TypeInfo} (hu : P.underlying e = some d) (hi : P.info? e = some i) (hsz : i.size = 1) : ∀ (k j : Nat) (l : List AVal), fitsL (List.replicate k d) l = true → VRels φ l (xs.drop j) →
    (forIn (List.range' j k) PUnit.unit (fun q _ => do
      Instr.checkKey em (n + 1) e (← part e xs.toArray (q * (← sizeOf e)))
      pure (ForInStep.yield PUnit.unit)) : Sem PUnit).run P w = .ok PUnit.unit w := by
  intro k
  induction k with
  | zero => intros; rfl
  | succ k ih =>
    intro j l hf hx
    simp only [List.replicate_succ] at hf
    cases l with
    | nil => simp [fitsL] at hf
    | cons v l =>
      simp only [fitsL, Bool.and_eq_true] at hf
      obtain ⟨c, hc, hcr⟩ := VRels_get hx (j := 0) (v := v) rfl
      rw [List.getElem?_drop, Nat.add_zero] at hc
      have ha := fitsS_scalar hf.1
      have hx' : VRels φ l (xs.drop (j + 1)) := by
        have := VRels_drop hx 1; simpa [List.drop_drop] using this
      have h1 := ih (j + 1) l hf.2 hx'
      simp only [List.range'_succ, List.forIn_cons, Sem.run_bind, run_sizeOf' hi, hsz, Nat.mul_one, part_scalar hu ha.2 hc, Result.andThen, checkKey_scalar hu ha.1]
      simpa [Sem.run_bind, Result.andThen, run_sizeOf' hi, hsz] using h1
theorem checkKey_run {φ : PMap} {t : TypeId} {k : KeyK} {x : AVal} {c : Value} (hk : keyK P t = some k) (hx : VRel φ x c) (hf : ∀ d, k = .scalar d → fitsS d x = true) (hg : ∀ ds, k = .flat ds → ∃ l, x = .agg l ∧ fitsL ds l = true) (em : Bool) (n : Nat) (w : World) :
    (Instr.checkKey em (n + 2) t c).run P w = .ok () w := by
  unfold keyK at hk
  split at hk
  · rename_i d hu
    split at hk
    · rename_i hs
      exact checkKey_scalar hu hs c em (n + 1) w
    · cases hfl : flatD P t with
      | none => simp [hfl] at hk
      | some ds =>
        simp only [hfl, Option.map_some, Option.some.injEq] at hk
        obtain ⟨l, rfl, hl⟩ := hg ds hk.symm
        obtain ⟨xs, rfl, hxs⟩ := hx
        unfold flatD at hfl
        split at hfl
        · rename_i fs hu'
          split at hfl
          · rename_i hc
            cases hfl
            simp only [Bool.and_eq_true, Bool.not_eq_true'] at hc
            unfold Instr.checkKey
            simp only [Sem.run_bind, run_underlying' hu', Result.andThen]
            have := checkFields_run (em := em) (n := n) w fs.toList 0 l hc.1 hl (by simpa using hxs)
            simp at this
            simp [this]
          · cases hfl
        · rename_i m e hu'
          split at hfl
          · rename_i d' i hue hie
            split at hfl
            · rename_i hc
              cases hfl
              simp only [Bool.and_eq_true, beq_iff_eq] at hc
              unfold Instr.checkKey
              simp only [Sem.run_bind, run_underlying' hu', Result.andThen]
              have := checkItems_run (em := em) (n := n) w hue hie hc.2 m 0 l hl (by simpa using hxs)
              simp only [Std.Legacy.Range.forIn_eq_forIn_range', Std.Legacy.Range.size, Nat.sub_zero, Nat.add_sub_cancel, Nat.div_one]
              simp at this
              simp [this]
            · cases hfl
          · cases hfl
        · cases hfl
  · cases hk

/-- Does a key fit its map's kind? -/
def keyFits : KeyK → AVal → Bool
  | .scalar d, x => fitsS d x
  | .flat ds, .agg l => fitsL ds l
  | _, _ => false
theorem findKey_run {φ : PMap} {t : TypeId} {k : KeyK} {x : AVal} {c : Value} (hk : keyK P t = some k) (hx : VRel φ x c) (hf : keyFits k x = true) (w : World) {es : List (AVal × AVal)} {ents : List MapEntry} {r : Option (Nat × AVal)} (hm : MRels φ es ents) (h : mfind k x es 0 = some r) :
    ∃ r', (Instr.findKey t c ents).run P w = .ok r' w ∧ FRel φ r r' := by
  unfold keyK at hk
  split at hk
  · rename_i d hu
    split at hk
    · rename_i hs
      cases hk
      obtain ⟨r', h1, h2⟩ := findNow_run hx hf es ents 0 r hm h
      exact ⟨r', by simp [Instr.findKey, Sem.run_bind, run_underlying' hu, Result.andThen, h1], h2⟩
    · rename_i hs
      cases hfl : flatD P t with
      | none => simp [hfl] at hk
      | some ds =>
        simp only [hfl, Option.map_some, Option.some.injEq] at hk
        subst hk
        cases x <;> simp only [keyFits, Bool.false_eq_true] at hf
        case agg l =>
          obtain ⟨r', h1, h2⟩ := findAsking_run hfl hx hf w es ents 0 r hm h
          refine ⟨r', ?_, h2⟩
          have hnow : ents = [] ∨ Instr.findNow d c ents 0 = none := by
            cases ents with
            | nil => exact .inl rfl
            | cons e ents =>
              right
              have hd' : ∀ k', d ≠ .int k' := fun k' he => by simp [he, scalarD] at hs
              have hd2 : d ≠ .string := fun he => by simp [he, scalarD] at hs
              have hd3 : d ≠ .bool := fun he => by simp [he, scalarD] at hs
              cases d <;> simp_all [Instr.findNow, Instr.sameNow]
          rcases hnow with rfl | hnow
          · simp only [Instr.findAsking, Sem.run_pure] at h1
            cases h1
            simp [Instr.findKey, Sem.run_bind, run_underlying' hu, Result.andThen, Instr.findNow]
          · simp [Instr.findKey, Sem.run_bind, run_underlying' hu, Result.andThen, hnow, h1]
  · cases hk

def zeroA (P : Program) (t : TypeId) : Option AVal :=
  match P.info? t with
  | some i => i.zero.map absC
  | none => none
theorem zeroA_run {t : TypeId} {z : AVal} (h : zeroA P t = some z) : ∃ c, (∀ w, (zeroValue t).run P w = .ok c w) ∧ ∀ φ, VRel φ z c := by
  unfold zeroA at h
  cases hi : P.info? t with
  | none => simp [hi] at h
  | some i =>
    cases hz : i.zero with
    | none => simp [hi, hz] at h
    | some c =>
      simp only [hi, hz, Option.map_some, Option.some.injEq] at h
      subst h
      exact ⟨c, fun w => run_zeroValue' hi hz w, fun φ => absC_rel φ c⟩
/-- The key's kind and the zero element of a map's type. -/
def mapT (P : Program) (t : TypeId) : Option (KeyK × AVal) :=
  match P.underlying t with
  | some (.map kt et) => match keyK P kt, zeroA P et with
    | some k, some z => some (k, z)
    | _, _ => none
  | _ => none
def AHeap.entries (H : AHeap) : AVal → Option (List (AVal × AVal))
  | .map i => match H.f i with
    | .map es => some es
    | _ => none
  | .raw (.map none) => some []
  | _ => none
def alookup (P : Program) (H : AHeap) (t : TypeId) (x k : AVal) (ok : Bool) : Option AVal :=
  match mapT P t, H.entries x with
  | some (kk, z), some es => if keyFits kk k then (match mfind kk k es 0 with
    | some (some (_, v)) => some (if ok then .tuple [v, .bool true] else v)
    | some none => some (if ok then .tuple [z, .bool false] else z)
    | none => none) else none
  | _, _ => none
theorem keyFits_split {k : KeyK} {x : AVal} (h : keyFits k x = true) : (∀ d, k = .scalar d → fitsS d x = true) ∧ (∀ ds, k = .flat ds → ∃ l, x = .agg l ∧ fitsL ds l = true) := by
  refine ⟨fun d hd => by subst hd; exact h, fun ds hd => ?_⟩
  subst hd
  cases x <;> simp only [keyFits, Bool.false_eq_true] at h
  exact ⟨_, rfl, h⟩
theorem fine_lookup {φ : PMap} {H : AHeap} {w : World} (hR : Rel φ H w) {t : TypeId} {x k v : AVal} {cx ck : Value} {ok : Bool} (hx : VRel φ x cx) (hk : VRel φ k ck) (h : alookup P H t x k ok = some v) : Fine P φ H w (Instr.lookup t cx ck ok) v H := by
  unfold alookup at h
  split at h
  · rename_i kk z es hT hE
    split at h
    · rename_i hfit
      unfold mapT at hT
      split at hT
      · rename_i kt et hu
        split at hT
        · rename_i kk' z' hkk hz
          cases hT
          obtain ⟨zc, hzr, hzv⟩ := zeroA_run hz
          -- the entries
          obtain ⟨ents, hget, hm⟩ : ∃ ents : Array MapEntry, ((cx = .map none ∧ ents = #[]) ∨ ∃ r clock, cx = .map (some r) ∧ w.heap[r]? = some (.map ents clock)) ∧ MRels φ es ents.toList := by
            unfold AHeap.entries at hE
            split at hE
            · rename_i i
              split at hE
              · rename_i es' hf
                cases hE
                obtain ⟨b, hb, rfl⟩ := hx
                have hB := hR.blk i b hb
                rw [hf] at hB
                obtain ⟨ents, clock, h1, h2⟩ := hB
                exact ⟨ents, .inr ⟨_, clock, rfl, h1⟩, h2⟩
              · cases hE
            · cases hE
              have he : cx = .map none := hx
              exact ⟨#[], .inl ⟨he, rfl⟩, rfl⟩
            · cases hE
          cases hfind : mfind kk k es 0 with
          | none => simp [hfind] at h
          | some r =>
            obtain ⟨r', hr', hrel⟩ := findKey_run hkk hk hfit w hm hfind
            have hck := checkKey_run (P := P) hkk hk (keyFits_split hfit).1 (keyFits_split hfit).2 ents.isEmpty 9998 w
            simp only [hfind] at h
            have hrun : ∀ (c : Value) (o : Bool), (match r' with | some (_, v) => (c, o) = (v, true) | none => (c, o) = (zc, false)) → (Instr.lookup t cx ck ok).run P w = .ok (if ok then .tuple #[c, .bool o] else c) w := by
              intro c o hco
              unfold Instr.lookup
              rcases hget with ⟨rfl, rfl⟩ | ⟨rr, clock, rfl, hh⟩
              · simp only [Sem.run_bind, run_underlying' hu, Result.andThen, Sem.run_pure, hck, hr']
                cases r' with
                | none => cases hco; simp [Sem.run_bind, hzr, Result.andThen]
                | some p => cases hco; simp [Result.andThen]
              · have hgo : (getObj rr).run P w = .ok (.map ents clock) w := by simp [getObj, Sem.run, hh]
                simp only [Sem.run_bind, run_underlying' hu, Result.andThen, Sem.run_pure, hgo, hck, hr']
                cases r' with
                | none => cases hco; simp [Sem.run_bind, hzr, Result.andThen]
                | some p => cases hco; simp [Result.andThen]
            cases r with
            | none =>
              cases r' with
              | some p => exact hrel.elim
              | none =>
                simp only [Option.some.injEq] at h
                refine Fine.pure hR (hrun zc false rfl) ?_
                subst h
                split
                · exact ⟨[zc, .bool false], rfl, VRels_cons.2 ⟨hzv φ, VRels_cons.2 ⟨rfl, rfl⟩⟩⟩
                · exact hzv φ
            | some p =>
              cases r' with
              | none => exact hrel.elim
              | some q =>
                obtain ⟨j, v'⟩ := p
                obtain ⟨j', c⟩ := q
                simp only [Option.some.injEq] at h
                refine Fine.pure hR (hrun c true rfl) ?_
                subst h
                split
                · exact ⟨[c, .bool true], rfl, VRels_cons.2 ⟨hrel.2, VRels_cons.2 ⟨rfl, rfl⟩⟩⟩
                · exact hrel.2
        · cases hT
      · cases hT
    · cases h
  · cases h

theorem aeqS_bits {φ ψ : PMap} {x y : AVal} {cx cy : Value} (hx : VRel φ x cx) (hy : VRel ψ y cy) (h : aeqS x y = some true) (n : Nat) : Instr.sameBits n cy cx = true := by
  unfold aeqS at h
  split at h
  · rename_i k a k' b
    obtain rfl : cx = .int k a := hx
    obtain rfl : cy = .int k' b := hy
    split at h
    · rename_i hk
      subst hk
      simp only [Option.some.injEq, beq_iff_eq] at h
      subst h
      simp [Instr.sameBits]
    · cases h
  · rename_i a b
    obtain rfl : cx = .bool a := hx
    obtain rfl : cy = .bool b := hy
    simp only [Option.some.injEq, beq_iff_eq] at h
    subst h
    simp [Instr.sameBits]
  · rename_i a b
    obtain rfl : cx = .string a := hx
    obtain rfl : cy = .string b := hy
    simp only [Option.some.injEq] at h
    have : (b == a) = true := by rw [beq_bytes]; exact beq_iff_eq.2 (beq_iff_eq.1 h).symm
    simp [Instr.sameBits, this]
  · cases h
theorem aeqL_bits {φ ψ : PMap} (n : Nat) : ∀ {l m : List AVal} {cs ds : List Value}, VRels φ l cs → VRels ψ m ds → aeqL l m = some true → cs.length = ds.length ∧ ((ds.zip cs).all fun (x, y) => Instr.sameBits n x y) = true
  | [], [], cs, ds, h1, h2, _ => by
    rw [VRels_nil.1 h1, VRels_nil.1 h2]; simp
  | [], _ :: _, _, _, _, _, h => by simp [aeqL] at h
  | _ :: _, [], _, _, _, _, h => by simp [aeqL] at h
  | a :: l, b :: m, [], _, h1, _, _ => by simp [VRels] at h1
  | a :: l, b :: m, _ :: _, [], _, h2, _ => by simp [VRels] at h2
  | a :: l, b :: m, c :: cs, d :: ds, h1, h2, h => by
    simp only [aeqL] at h
    cases hs : aeqS a b with
    | none => simp [hs] at h
    | some x =>
      cases hl : aeqL l m with
      | none => simp [hs, hl] at h
      | some y =>
        simp only [hs, hl, Option.some.injEq, Bool.and_eq_true] at h
        obtain ⟨rfl, rfl⟩ := h
        have ih := aeqL_bits n (VRels_cons.1 h1).2 (VRels_cons.1 h2).2 hl
        refine ⟨by simp [ih.1], ?_⟩
        simp only [List.zip_cons_cons, List.all_cons, Bool.and_eq_true]
        exact ⟨aeqS_bits (VRels_cons.1 h1).1 (VRels_cons.1 h2).1 hs n, ih.2⟩
theorem mfind_at {k : KeyK} {x : AVal} : ∀ {es : List (AVal × AVal)} {i j : Nat} {v : AVal}, mfind k x es i = some (some (j, v)) → i ≤ j ∧ ∃ y, es[j - i]? = some (y, v) ∧ keyEq k x y = some true
  | [], i, j, v, h => by simp [mfind] at h
  | (y, u) :: es, i, j, v, h => by
    simp only [mfind] at h
    cases hq : keyEq k x y with
    | none => simp [hq] at h
    | some q =>
      simp only [hq] at h
      cases q with
      | true => cases h; exact ⟨Nat.le_refl _, y, by simp, hq⟩
      | false =>
        obtain ⟨h1, y', h2, h3⟩ := mfind_at h
        refine ⟨by omega, y', ?_, h3⟩
        rw [show j - i = (j - (i + 1)) + 1 from by omega]
        simpa using h2
theorem MRels_get {φ : PMap} : ∀ {es : List (AVal × AVal)} {ents : List MapEntry} {j : Nat} {k v : AVal}, MRels φ es ents → es[j]? = some (k, v) → ∃ e, ents[j]? = some e ∧ VRel φ k e.key ∧ VRel φ v e.val
  | [], _, j, k, v, _, h => by simp at h
  | (k', v') :: es, ents, j, k, v, hm, h => by
    obtain ⟨e, ents', rfl, h1, h2, h3⟩ := hm
    cases j with
    | zero => simp only [List.getElem?_cons_zero, Option.some.injEq, Prod.mk.injEq] at h; obtain ⟨rfl, rfl⟩ := h; exact ⟨e, rfl, h1, h2⟩
    | succ j => simpa using MRels_get h3 (by simpa using h)
theorem MRels_set {φ : PMap} {k v : AVal} {e : MapEntry} (hk : VRel φ k e.key) (hv : VRel φ v e.val) : ∀ {es : List (AVal × AVal)} {ents : List MapEntry} {j : Nat}, MRels φ es ents → MRels φ (es.set j (k, v)) (ents.set j e)
  | [], ents, j, hm => by rw [show ents = [] from hm]; simp [MRels]
  | (k', v') :: es, ents, j, hm => by
    obtain ⟨e', ents', rfl, h1, h2, h3⟩ := hm
    cases j with
    | zero => exact ⟨e, ents', rfl, hk, hv, h3⟩
    | succ j => exact ⟨e', _, rfl, h1, h2, MRels_set hk hv h3⟩
theorem MRels_push {φ : PMap} {k v : AVal} {e : MapEntry} (hk : VRel φ k e.key) (hv : VRel φ v e.val) : ∀ {es : List (AVal × AVal)} {ents : List MapEntry}, MRels φ es ents → MRels φ (es ++ [(k, v)]) (ents ++ [e])
  | [], ents, hm => by rw [show ents = [] from hm]; exact ⟨e, [], rfl, hk, hv, rfl⟩
  | (k', v') :: es, ents, hm => by
    obtain ⟨e', ents', rfl, h1, h2, h3⟩ := hm
    exact ⟨e', _, rfl, h1, h2, MRels_push hk hv h3⟩

def mput (k : KeyK) (x v : AVal) (es : List (AVal × AVal)) : Option (List (AVal × AVal)) :=
  if keyFits k x then (match mfind k x es 0 with
    | some (some (j, _)) => some (es.set j (x, v))
    | some none => some (es ++ [(x, v)])
    | none => none) else none
def AHeap.mapPut (P : Program) (H : AHeap) (t : TypeId) (x k v : AVal) : Option AHeap :=
  match mapT P t, x with
  | some (kk, _), .map i => match H.f i with
    | .map es => (mput kk k v es).map fun es' => H.set i (.map es')
    | _ => none
  | _, _ => none
theorem setObj_run {w : World} {r : Nat} {o o' : Obj} (h : w.heap[r]? = some o) (hc : ∀ c e f, o ≠ .cells c e f) : (setObj r o').run P w = .ok () { w with heap := w.heap.setIfInBounds r o' } := by
  simp only [setObj, Sem.run, h]
theorem fine_mapPut {φ : PMap} {H H' : AHeap} {w : World} (hR : Rel φ H w) {t : TypeId} {x k v : AVal} {cx ck cv : Value} (hx : VRel φ x cx) (hk : VRel φ k ck) (hv : VRel φ v cv) (h : H.mapPut P t x k v = some H') :
    ∃ w', (Instr.mapUpdate t cx ck cv).run P w = .ok () w' ∧ Rel φ H' w' ∧ Ext φ H w φ H' w' := by
  unfold AHeap.mapPut at h
  split at h
  · rename_i kk z i hT
    split at h
    · rename_i es hf
      cases hp : mput kk k v es with
      | none => simp [hp] at h
      | some es' =>
        simp only [hp, Option.map_some, Option.some.injEq] at h
        subst h
        obtain ⟨b, hb, rfl⟩ := hx
        have hB := hR.blk i b hb
        rw [hf] at hB
        obtain ⟨ents, clock, h1, h2⟩ := hB
        unfold mapT at hT
        split at hT
        · rename_i kt et hu
          split at hT
          · rename_i kk' z' hkk hz
            cases hT
            unfold mput at hp
            split at hp
            · rename_i hfit
              have hck := checkKey_run (P := P) hkk hk (keyFits_split hfit).1 (keyFits_split hfit).2 false 9998 w
              have hlt : b.blk < w.heap.size := (Array.getElem?_eq_some_iff.1 h1).1
              have hgo : (getObj b.blk).run P w = .ok (.map ents clock) w := by simp [getObj, Sem.run, h1]
              have fin : ∀ (o' : Obj), BRel φ { w with heap := w.heap.setIfInBounds b.blk o' } b (.map es') → Rel φ (H.set i (.map es')) { w with heap := w.heap.setIfInBounds b.blk o' } ∧ Ext φ H w φ (H.set i (.map es')) { w with heap := w.heap.setIfInBounds b.blk o' } := fun o' hB' =>
                rel_set hR hb (by rw [hf]; trivial) (.map es') trivial (by simp) (fun q hq => by simp [Array.getElem?_setIfInBounds_ne (Ne.symm hq)]) hB' rfl rfl rfl
              cases hfind : mfind kk k es 0 with
              | none => simp [hfind] at hp
              | some r =>
                obtain ⟨r', hr', hrel⟩ := findKey_run hkk hk hfit w h2 hfind
                simp only [hfind] at hp
                cases r with
                | none =>
                  cases r' with
                  | some p => exact hrel.elim
                  | none =>
                    cases hp
                    refine ⟨_, ?_, fin (.map (ents.push { key := ck, val := cv, born := clock }) (clock + 1)) ?_⟩
                    · unfold Instr.mapUpdate
                      simp only [Sem.run_bind, run_underlying' hu, Result.andThen, hgo, hck, hr']
                      exact setObj_run h1 (by simp)
                    · refine ⟨ents.push { key := ck, val := cv, born := clock }, clock + 1, by simp [hlt], ?_⟩
                      rw [Array.toList_push]
                      exact MRels_push (e := { key := ck, val := cv, born := clock }) hk hv h2
                | some p =>
                  cases r' with
                  | none => exact hrel.elim
                  | some q =>
                    obtain ⟨j, v'⟩ := p
                    obtain ⟨j', c⟩ := q
                    obtain ⟨rfl, _⟩ := hrel
                    cases hp
                    obtain ⟨_, y, hy, hkeq⟩ := mfind_at hfind
                    rw [Nat.sub_zero] at hy
                    obtain ⟨e, he, hek, hev⟩ := MRels_get h2 hy
                    have he' : ents[j]? = some e := by simpa using he
                    have hsame : Instr.sameBits 10000 e.key ck = true := by
                      cases kk with
                      | scalar d =>
                        simp only [keyEq] at hkeq
                        split at hkeq
                        · exact aeqS_bits hk hek hkeq _
                        · cases hkeq
                      | flat ds =>
                        cases k <;> simp only [keyFits, Bool.false_eq_true] at hfit
                        case agg l =>
                          cases y <;> simp only [keyEq, reduceCtorEq] at hkeq
                          case agg m =>
                            simp only [hfit, if_true] at hkeq
                            obtain ⟨cs, rfl, hcs⟩ := hk
                            obtain ⟨ds', hds, hds'⟩ := hek
                            rw [hds]
                            have := aeqL_bits 9999 hcs hds' hkeq
                            simp only [Instr.sameBits, List.size_toArray, Bool.and_eq_true, beq_iff_eq]
                            exact ⟨this.1.symm, this.2⟩
                    refine ⟨_, ?_, fin (.map (ents.modify j fun e => { e with key := ck, val := cv }) clock) ?_⟩
                    · unfold Instr.mapUpdate
                      simp only [Sem.run_bind, run_underlying' hu, Result.andThen, hgo, hck, hr', he', Option.map_some, Option.getD_some]
                      have : (Instr.keyThatStays e.key ck).run P w = .ok ck w := by simp [Instr.keyThatStays, hsame]
                      simp only [this]
                      exact setObj_run h1 (by simp)
                    · refine ⟨ents.modify j fun e => { e with key := ck, val := cv }, clock, by simp [hlt], ?_⟩
                      have hml : (ents.modify j fun e => { e with key := ck, val := cv }).toList = ents.toList.set j { e with key := ck, val := cv } := by
                        apply List.ext_getElem?
                        intro q
                        simp only [Array.getElem?_toList, Array.getElem?_modify, List.getElem?_set, Array.length_toList]
                        by_cases hq : j = q
                        · subst hq
                          have hlt' : j < ents.size := (Array.getElem?_eq_some_iff.1 he').1
                          have hej : ents[j] = e := by simpa [Array.getElem?_eq_getElem hlt'] using he'
                          simp [hlt', hej]
                        · simp [hq]
                      rw [hml]
                      exact MRels_set (e := { e with key := ck, val := cv }) hk hv h2
            · cases hp
          · cases hT
        · cases hT
    · cases h
  · cases h
end Go.Vh
