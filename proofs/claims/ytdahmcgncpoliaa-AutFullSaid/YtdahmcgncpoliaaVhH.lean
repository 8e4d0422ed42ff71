/- Rows: literals of slices, make, cuts, append, copy, len. -/
import Derived.Test.YtdahmcgncpoliaaVhG
set_option linter.unusedVariables false
set_option linter.unusedSimpArgs false
namespace Go.Vh
variable {P : Program}

def zerosA (z : List AVal) (m : Nat) : List AVal := (List.range m).map fun i => z.getD (i % z.length) .undef
theorem zerosA_length (z : List AVal) (m : Nat) : (zerosA z m).length = m := by simp [zerosA]
theorem zerosA_one (v : AVal) (m : Nat) : zerosA [v] m = List.replicate m v := by
  apply List.ext_getElem?
  intro i
  simp only [zerosA, List.getElem?_map, List.getElem?_replicate, List.length_singleton, Nat.mod_one, List.getD_cons_zero]
  by_cases h : i < m <;> simp [h]
theorem zeros_rel {φ : PMap} {z : Array Value} {m n : Nat} (hm : m ≤ n) (hz : z.size ≠ 0 ∨ m = 0) : VRels φ (zerosA (z.toList.map absS) m) (((Array.range n).map (z[· % z.size]!)).toList.take m) := by
  rw [VRels_iff]
  refine ⟨by simp [zerosA]; omega, fun j v c hv hc => ?_⟩
  have hjm : j < m := by
    have := (List.getElem?_eq_some_iff.1 hv).1
    simpa [zerosA] using this
  have hzs : z.size ≠ 0 := by omega
  have hlt : j % z.size < z.size := Nat.mod_lt _ (by omega)
  rw [List.getElem?_take, if_pos hjm] at hc
  simp only [zerosA, List.getElem?_map, List.getElem?_range hjm, Option.map_some, List.length_map, Array.length_toList, Option.some.injEq] at hv
  simp only [Array.getElem?_toList, Array.getElem?_map, Array.getElem?_range, show j < n by omega, if_true, Option.map_some, Option.some.injEq] at hc
  subst hv; subst hc
  have : z[j % z.size]! = z[j % z.size] := getElem!_pos z _ hlt
  rw [this]
  simp [hlt, absS_rel]

/-- The element's facts of a slice type. -/
def sliceT (P : Program) (t : TypeId) : Option TI :=
  match P.underlying t with
  | some (.slice e) => tinfo P e
  | _ => none
theorem sliceT_spec {t : TypeId} {ti : TI} (h : sliceT P t = some ti) : ∃ e, P.underlying t = some (.slice e) ∧ tinfo P e = some ti := by
  unfold sliceT at h
  split at h
  · rename_i e hu; exact ⟨e, hu, h⟩
  · cases h

def abuildSlice (P : Program) (H : AHeap) (t : TypeId) (len : Nat) (ps : List (Nat × AVal)) : Option (AVal × AHeap) :=
  match sliceT P t with
  | some ti => if len * ti.size ≤ 16777216 ∧ ti.zero.length ≠ 0 then
      (fillA (fun i => some (i * ti.size, ti.size)) (zerosA ti.zero (len * ti.size)) ps).map fun r => (.slice H.n 0 len, H.alloc (.cells ti.size r))
    else none
  | none => none
theorem fine_buildSlice {φ : PMap} {H H' : AHeap} {w : World} (hR : Rel φ H w) {t : TypeId} {len : Nat} {ps : List (Nat × AVal)} {qs : Array (Nat × Value)} {v : AVal} (h1 : ps.map (·.1) = qs.toList.map (·.1)) (h2 : VRels φ (ps.map (·.2)) (qs.toList.map (·.2))) (h : abuildSlice P H t len ps = some (v, H')) :
    Fine P φ H w (Instr.buildSlice t len qs) v H' := by
  unfold abuildSlice at h
  split at h
  · rename_i ti hT
    obtain ⟨e, hu, ht⟩ := sliceT_spec hT
    obtain ⟨inf, d, z, hi, hd, hz, hsz, hby, hag, hze⟩ := tinfo_spec ht
    split at h
    · rename_i hc
      cases hf : fillA (fun i => some (i * ti.size, ti.size)) (zerosA ti.zero (len * ti.size)) ps with
      | none => simp [hf] at h
      | some r =>
        simp only [hf, Option.map_some, Option.some.injEq, Prod.mk.injEq] at h
        obtain ⟨rfl, rfl⟩ := h
        have hz0 : z.cells.size ≠ 0 := by have := hc.2; rw [hze] at this; simpa using this
        let zz : Array Value := if len * ti.size = 0 then #[] else z.cells
        have hzz : VRels φ (zerosA ti.zero (len * ti.size)) ((Array.range (len * ti.size)).map (zz[· % zz.size]!)).toList := by
          rw [hze]
          by_cases h0 : len * ti.size = 0
          · rw [h0]; simp [zerosA, VRels]
          · have := zeros_rel (φ := φ) (z := z.cells) (m := len * ti.size) (n := len * ti.size) (Nat.le_refl _) (.inl hz0)
            simp only [zz, if_neg h0]
            rwa [List.take_of_length_le (by simp)] at this
        obtain ⟨arr', ha, hr, hs⟩ := fill_run (φ := φ) ps qs.toList _ _ r h1 h2 hzz hf
        have hrl := VRels_length hr
        rw [Array.length_toList] at hrl
        obtain ⟨φ', w', hrun, hR', hE, hφ⟩ := row_new (P := P) hR e arr' r ti.size (by omega) (by rw [← hrl, ← Array.length_toList, List.take_length]; exact hr)
        refine ⟨.slice (some ⟨w.heap.size, 0, none⟩) len len, w', φ', ?_, ⟨_, len, _, hφ, rfl, Nat.le_refl _, fun _ => ⟨rfl, ?_⟩⟩, hR', hE⟩
        · unfold Instr.buildSlice
          simp only [Sem.run_bind, run_underlying' hu, Result.andThen, run_sizeOf' hi, hsz]
          rw [if_neg (by omega)]
          by_cases h0 : len * ti.size = 0
          · have hz1 : zz = #[] := if_pos h0
            rw [hz1] at ha
            simp only [if_pos h0, Sem.run_bind, Sem.run_pure, Result.andThen, ha, hrun]
          · have hz1 : zz = z.cells := if_neg h0
            rw [hz1] at ha
            simp only [if_neg h0, Sem.run_bind, run_zeroValue' hi hz, Sem.run_pure, Result.andThen, ha, hrun]
        · simp only [Nat.zero_add]
          rw [hs]; simp [hsz]
    · cases h
  · cases h

theorem wrap64_id {n : Int} (h0 : 0 ≤ n) (h1 : n ≤ 4294967296) : IntKind.i64.wrap n = n := by
  have h : n % 2 ^ 64 = n := by omega
  simp [IntKind.wrap, IntKind.bits, IntKind.signed, h]
  omega
def amakeSlice (P : Program) (H : AHeap) (t : TypeId) (l c : AVal) : Option (AVal × AHeap) :=
  match sliceT P t, l, c with
  | some ti, .int _ n, .int _ m => if 0 ≤ n ∧ n ≤ m ∧ m ≤ 4294967296 ∧ ti.bytes ≤ 4096 ∧ ti.zero.length ≠ 0 then
      some (.slice H.n 0 n.toNat, H.alloc (.cells ti.size (zerosA ti.zero (n.toNat * ti.size)))) else none
  | _, _, _ => none
theorem fine_makeSlice {φ : PMap} {H H' : AHeap} {w : World} (hR : Rel φ H w) {t : TypeId} {l c v : AVal} {cl cc : Value} (hl : VRel φ l cl) (hc : VRel φ c cc) (h : amakeSlice P H t l c = some (v, H')) : Fine P φ H w (Instr.makeSlice t cl cc) v H' := by
  unfold amakeSlice at h
  split at h
  · rename_i ti k n k' m hT
    obtain ⟨e, hu, ht⟩ := sliceT_spec hT
    obtain ⟨inf, d, z, hi, hd, hz, hsz, hby, hag, hze⟩ := tinfo_spec ht
    obtain rfl : cl = .int k n := hl
    obtain rfl : cc = .int k' m := hc
    split at h
    · rename_i hcond
      obtain ⟨h0, h1, h2, h3, h4⟩ := hcond
      simp only [Option.some.injEq, Prod.mk.injEq] at h
      obtain ⟨rfl, rfl⟩ := h
      have hz0 : z.cells.size ≠ 0 := by rw [hze] at h4; simpa using h4
      have hwn := wrap64_id h0 (by omega)
      have hwm := wrap64_id (n := m) (by omega) h2
      let zz : Array Value := if m.toNat * inf.size = 0 then #[] else z.cells
      let arr : Array Value := (Array.range (m.toNat * inf.size)).map (zz[· % zz.size]!)
      have hle : n.toNat * inf.size ≤ m.toNat * inf.size := Nat.mul_le_mul_right _ (by omega)
      have hzz : VRels φ (zerosA ti.zero (n.toNat * ti.size)) (arr.toList.take (zerosA ti.zero (n.toNat * ti.size)).length) := by
        rw [zerosA_length, hze, ← hsz]
        by_cases h0 : m.toNat * inf.size = 0
        · have : n.toNat * inf.size = 0 := by omega
          rw [this]; simp [zerosA, VRels]
        · simp only [arr, zz, if_neg h0]
          exact zeros_rel hle (.inl hz0)
      obtain ⟨φ', w', hrun, hR', hE, hφ⟩ := row_new (P := P) hR e arr _ ti.size (by rw [zerosA_length, ← hsz]; simp only [arr, Array.size_map, Array.size_range]; exact hle) hzz
      have hbytes : (inf.bytes : Int) * m ≤ 4096 * 4294967296 := by
        have hb : (inf.bytes : Int) ≤ 4096 := by omega
        have := Int.mul_le_mul hb h2 (by omega) (by omega)
        simpa using this
      refine ⟨.slice (some ⟨w.heap.size, 0, none⟩) n.toNat m.toNat, w', φ', ?_, ⟨_, m.toNat, _, hφ, rfl, by omega, fun _ => ⟨rfl, ?_⟩⟩, hR', hE⟩
      · unfold Instr.makeSlice
        simp only [Sem.run_bind, run_underlying' hu, Result.andThen, asInt, asIntOf, Sem.run_pure, run_typeInfo' hi, hwn, hwm]
        rw [if_neg (by simp; omega)]
        have hrun' : (newRow e ((Array.range (m.toNat * inf.size)).map (zz[· % zz.size]!))).run P w = .ok ⟨w.heap.size, 0, none⟩ w' := hrun
        simp only [Sem.run_bind, run_askRoom, run_sizeOf' hi, Result.andThen]
        by_cases h0 : m.toNat * inf.size = 0
        · have hz1 : zz = #[] := if_pos h0
          rw [hz1] at hrun'
          simp only [if_pos h0, Sem.run_bind, Sem.run_pure, Result.andThen, hrun']
        · have hz1 : zz = z.cells := if_neg h0
          rw [hz1] at hrun'
          simp only [if_neg h0, Sem.run_bind, run_zeroValue' hi hz, Sem.run_pure, Result.andThen, hrun']
      · simp [arr, hsz]
    · cases h
  · cases h

/-! ### Cuts -/
def boundA (d : Nat) : Option AVal → Option Int
  | none => some d
  | some (.int _ n) => some n
  | _ => none
def aslice (P : Program) (H : AHeap) (t : TypeId) (x : AVal) (lo hi : Option AVal) : Option AVal :=
  match P.underlying t, x with
  | some (.slice _), .slice i off len => match sliceT P t, boundA 0 lo, boundA len hi with
    | some ti, some l, some h => match H.f i with
      | .cells es _ | .ro es _ => if 0 ≤ l ∧ l ≤ h ∧ h ≤ (len : Int) ∧ es = ti.size then some (.slice i (off + l.toNat * es) (h.toNat - l.toNat)) else none
      | _ => none
    | _, _, _ => none
  | some (.slice _), .nilSlice => match sliceT P t, boundA 0 lo, boundA 0 hi with
    | some _, some l, some h => if l = 0 ∧ h = 0 then some .nilSlice else none
    | _, _, _ => none
  | some .string, .str s => match boundA 0 lo, boundA s.size hi with
    | some l, some h => if 0 ≤ l ∧ l ≤ h ∧ h ≤ (s.size : Int) then some (.str (s.extract l.toNat h.toNat)) else none
    | _, _ => none
  | _, _ => none
/-- The bounds as the model reads them. -/
def BoundRel (φ : PMap) : Option AVal → Option Value → Prop
  | none, none => True
  | some v, some c => VRel φ v c
  | _, _ => False
theorem bound_run {φ : PMap} {lo hi : Option AVal} {clo chi : Option Value} (hlo : BoundRel φ lo clo) (hhi : BoundRel φ hi chi) {len cap : Nat} {l h : Int} (h1 : boundA 0 lo = some l) (h2 : boundA len hi = some h) (h0 : 0 ≤ l) (hlh : l ≤ h) (hle : h ≤ (len : Int)) (hc : len ≤ cap) (b : Bool) (w : World) :
    (Instr.sliceBounds b len cap clo chi none).run P w = .ok (l.toNat, h.toNat, cap) w := by
  unfold Instr.sliceBounds
  have e1 : ∀ k, (Instr.sliceBound (.int k h) cap (if b then .sliceAcap else .sliceAlen)).run P w = .ok h.toNat w := fun k => by
    simp [Instr.sliceBound, asIntOf, Result.andThen, show 0 ≤ h by omega, show h ≤ (cap : Int) by omega]
  have e2 : ∀ k, (Instr.sliceBound (.int k l) h.toNat .sliceB).run P w = .ok l.toNat w := fun k => by
    simp only [Instr.sliceBound, asIntOf, Sem.run_bind, Sem.run_pure, Result.andThen]
    rw [if_pos ⟨h0, by omega⟩]
    rfl
  cases lo with
  | none =>
    cases clo with
    | some c => exact hlo.elim
    | none =>
      simp only [boundA, Option.some.injEq] at h1
      cases hi with
      | none =>
        cases chi with
        | some c => exact hhi.elim
        | none =>
          simp only [boundA, Option.some.injEq] at h2
          subst h1; subst h2
          simp [Sem.run_bind, Result.andThen]
      | some v =>
        cases chi with
        | none => exact hhi.elim
        | some c =>
          cases v <;> simp only [boundA, Option.some.injEq, reduceCtorEq] at h2
          case int k n =>
            subst h2
            obtain rfl : c = .int k n := hhi
            subst h1
            simp only [Sem.run_bind, Sem.run_pure, Result.andThen, e1]
            rfl
  | some u =>
    cases clo with
    | none => exact hlo.elim
    | some d =>
      cases u <;> simp only [boundA, Option.some.injEq, reduceCtorEq] at h1
      case int k n =>
        subst h1
        obtain rfl : d = .int k n := hlo
        cases hi with
        | none =>
          cases chi with
          | some c => exact hhi.elim
          | none =>
            simp only [boundA, Option.some.injEq] at h2
            have hh : h.toNat = len := by omega
            rw [hh] at e2
            simp only [Sem.run_bind, Sem.run_pure, Result.andThen, Option.isSome_none, Bool.false_eq_true, if_false, e2, hh]
        | some v =>
          cases chi with
          | none => exact hhi.elim
          | some c =>
            cases v <;> simp only [boundA, Option.some.injEq, reduceCtorEq] at h2
            case int k' n' =>
              subst h2
              obtain rfl : c = .int k' n' := hhi
              simp only [Sem.run_bind, Sem.run_pure, Result.andThen, e1, Option.isSome_none, Bool.false_eq_true, if_false, e2]
theorem add_at' (ad : Addr) (n : Nat) (h : ad.spot = none) : ad.add n = ⟨ad.block, ad.off + n, none⟩ := by
  obtain ⟨b, o, s⟩ := ad
  simp only at h
  subst h
  exact add_at b o n
theorem BRel.es_eq {φ : PMap} {w : World} {b : BI} {x : ABlk} (h : BRel φ w b x) {es : Nat} (hx : (∃ cs, x = .cells es cs) ∨ ∃ cs, x = .ro es cs) : b.es = es := by
  rcases hx with ⟨cs, rfl⟩ | ⟨cs, rfl⟩
  · exact h.1
  · exact h.1
/-- A slice of which it is not said whether it is nil. -/
theorem view_cases {φ : PMap} {i off len : Nat} {c : Value} (h : VRel φ (.view i off len) c) : (len = 0 ∧ c = .slice none 0 0) ∨ VRel φ (.slice i off len) c := by
  obtain ⟨b, hb, h | ⟨cap, ad, h1, h2, h3⟩⟩ := h
  · exact .inl h
  · exact .inr ⟨b, cap, ad, hb, h1, h2, h3⟩
theorem view_of_slice {φ : PMap} {i off len : Nat} {c : Value} (h : VRel φ (.slice i off len) c) : VRel φ (.view i off len) c := by
  obtain ⟨b, cap, ad, hb, h1, h2, h3⟩ := h
  exact ⟨b, hb, .inr ⟨cap, ad, h1, h2, h3⟩⟩
theorem pure_slice {φ : PMap} {H : AHeap} {w : World} (hR : Rel φ H w) {t : TypeId} {x v : AVal} {cx : Value} {lo hi : Option AVal} {clo chi : Option Value} (hx : VRel φ x cx) (hlo : BoundRel φ lo clo) (hhi : BoundRel φ hi chi) (h : aslice P H t x lo hi = some v) :
    PureTo P φ (Instr.sliceAt t cx clo chi none) v := by
  have slice_at : ∀ {e}, P.underlying t = some (.slice e) → ∀ w, (Instr.sliceAt t cx clo chi none).run P w = (Instr.slice t cx clo chi none).run P w := fun hu w => by
    simp [Instr.sliceAt, Sem.run_bind, run_underlying' hu, Result.andThen]
  unfold aslice at h
  split at h
  · rename_i e i off len hu
    split at h
    · rename_i ti l hh hT h1 h2
      obtain ⟨e', hu', ht⟩ := sliceT_spec hT
      rw [hu] at hu'; cases hu'
      obtain ⟨inf, d, z, hi', hd, hz, hsz, hby, hag, hze⟩ := tinfo_spec ht
      obtain ⟨b, cap, ad, hb, rfl, hlc, hcap⟩ := hx
      have go : ∀ es, b.es = es → (0 ≤ l ∧ l ≤ hh ∧ hh ≤ (len : Int) ∧ es = ti.size) → v = .slice i (off + l.toNat * es) (hh.toNat - l.toNat) → PureTo P φ (Instr.sliceAt t (.slice (some ad) len cap) clo chi none) v := by
        intro es hbes hc hv
        obtain ⟨c0, c1, c2, c3⟩ := hc
        have hbr := fun w => bound_run (P := P) (b := true) (w := w) hlo hhi h1 h2 c0 c1 c2 hlc
        refine ⟨.slice (some (if cap = l.toNat then ad else ad.add (l.toNat * es))) (hh.toNat - l.toNat) (cap - l.toNat), fun w => ?_, ?_⟩
        · rw [slice_at hu]
          unfold Instr.slice
          simp only [Sem.run_bind, run_underlying' hu, Result.andThen, hbr, run_sizeOf' hi', hsz, ← c3, Sem.run_pure]
          by_cases hcl : cap = l.toNat <;> simp [hcl]
        · subst hv
          refine ⟨b, cap - l.toNat, _, hb, rfl, by omega, fun hpos => ?_⟩
          have hne : cap ≠ l.toNat := by omega
          obtain ⟨had, hle⟩ := hcap (by omega)
          rw [if_neg hne, had, add_at]
          refine ⟨by rw [Nat.add_assoc], ?_⟩
          have : l.toNat * b.es + (cap - l.toNat) * b.es = cap * b.es := by rw [← Nat.add_mul]; congr 1; omega
          rw [hbes] at this hle ⊢
          omega
      have hB := hR.blk i b hb
      split at h
      · rename_i es cs hf
        split at h
        · rename_i hc
          cases h
          exact go es (hB.es_eq (.inl ⟨cs, hf⟩)) hc rfl
        · cases h
      · rename_i es cs hf
        split at h
        · rename_i hc
          cases h
          exact go es (hB.es_eq (.inr ⟨cs, hf⟩)) hc rfl
        · cases h
      · cases h
    · cases h
  · rename_i e hu
    split at h
    · rename_i ti l hh hT h1 h2
      obtain ⟨e', hu', ht⟩ := sliceT_spec hT
      rw [hu] at hu'; cases hu'
      obtain ⟨inf, d, z, hi', hd, hz, hsz, hby, hag, hze⟩ := tinfo_spec ht
      split at h
      · rename_i hc
        obtain ⟨rfl, rfl⟩ := hc
        cases h
        obtain rfl : cx = .slice none 0 0 := hx
        have hbr := fun w => bound_run (P := P) (b := true) (w := w) hlo hhi h1 h2 (Int.le_refl _) (Int.le_refl _) (Int.le_refl _) (Nat.le_refl 0)
        refine ⟨.slice none 0 0, fun w => ?_, rfl⟩
        rw [slice_at hu]
        unfold Instr.slice
        simp only [Sem.run_bind, run_underlying' hu, Result.andThen]
        rw [show (Instr.sliceBounds true 0 0 clo chi none).run P w = _ from hbr w]
        simp [run_sizeOf' hi', Result.andThen]
      · cases h
    · cases h
  · rename_i s hu
    split at h
    · rename_i l hh h1 h2
      split at h
      · rename_i hc
        cases h
        obtain rfl : cx = .string s := hx
        have hbr := fun w => bound_run (P := P) (b := false) (w := w) hlo hhi h1 h2 hc.1 hc.2.1 hc.2.2 (Nat.le_refl s.size)
        refine ⟨.string (s.extract l.toNat hh.toNat), fun w => ?_, rfl⟩
        unfold Instr.sliceAt Instr.slice
        simp only [Sem.run_bind, run_underlying' hu, Result.andThen]
        simp [hbr, Result.andThen]
      · cases h
    · cases h
  · cases h
def asliceV (P : Program) (H : AHeap) (t : TypeId) (x : AVal) (lo hi : Option AVal) : Option AVal :=
  match x with
  | .view i off len => match aslice P H t (.slice i off len) lo hi with
    | some (.slice j o n) => some (.view j o n)
    | _ => none
  | x => aslice P H t x lo hi
theorem pure_sliceV {φ : PMap} {H : AHeap} {w : World} (hR : Rel φ H w) {t : TypeId} {x v : AVal} {cx : Value} {lo hi : Option AVal} {clo chi : Option Value} (hx : VRel φ x cx) (hlo : BoundRel φ lo clo) (hhi : BoundRel φ hi chi) (h : asliceV P H t x lo hi = some v) :
    PureTo P φ (Instr.sliceAt t cx clo chi none) v := by
  unfold asliceV at h
  split at h
  · rename_i i off len
    split at h
    · rename_i j o n hs
      cases h
      rcases view_cases hx with ⟨rfl, hc⟩ | hsl
      · -- nothing to slice
        have hnil : aslice P H t .nilSlice lo hi = some .nilSlice ∧ j = i ∧ n = 0 := by
          cases hu : P.underlying t with
          | none => simp [aslice, hu] at hs
          | some d =>
            cases d with
            | slice e =>
              cases hT : sliceT P t with
              | none => simp [aslice, hu, hT] at hs
              | some ti =>
                cases h1 : boundA 0 lo with
                | none => simp [aslice, hu, hT, h1] at hs
                | some l =>
                  cases h2 : boundA 0 hi with
                  | none => simp [aslice, hu, hT, h1, h2] at hs
                  | some hh =>
                    have fin : ∀ es, (if 0 ≤ l ∧ l ≤ hh ∧ hh ≤ ((0 : Nat) : Int) ∧ es = ti.size then some (AVal.slice i (off + l.toNat * es) (hh.toNat - l.toNat)) else none) = some (.slice j o n) → aslice P H t .nilSlice lo hi = some .nilSlice ∧ j = i ∧ n = 0 := by
                      intro es hs
                      split at hs
                      · rename_i hcc
                        simp only [Option.some.injEq, AVal.slice.injEq] at hs
                        obtain ⟨c0, c1, c2, _⟩ := hcc
                        have hl0 : l = 0 := by omega
                        have hh0 : hh = 0 := by omega
                        subst hl0; subst hh0
                        exact ⟨by simp [aslice, hu, hT, h1, h2], hs.1.symm, by rw [← hs.2.2]; rfl⟩
                      · cases hs
                    cases hf : H.f i with
                    | cells es cs => simp only [aslice, hu, hT, h1, h2, hf] at hs; exact fin es hs
                    | ro es cs => simp only [aslice, hu, hT, h1, h2, hf] at hs; exact fin es hs
                    | _ => simp [aslice, hu, hT, h1, h2, hf] at hs
            | _ => simp [aslice, hu] at hs
        obtain ⟨h1, rfl, rfl⟩ := hnil
        obtain ⟨c, hcr, hv⟩ := pure_slice hR (x := .nilSlice) (cx := cx) hc hlo hhi h1
        obtain ⟨b, hb, _⟩ := hx
        exact ⟨c, hcr, b, hb, .inl ⟨rfl, hv⟩⟩
      · obtain ⟨c, hcr, hv⟩ := pure_slice hR hsl hlo hhi hs
        exact ⟨c, hcr, view_of_slice hv⟩
    · cases h
  · exact pure_slice hR hx hlo hhi h
end Go.Vh
