/- append, copy, len, min, max, conversions of numbers. -/
import Derived.Test.YtdahmcgncpoliaaVhH
set_option linter.unusedVariables false
set_option linter.unusedSimpArgs false
namespace Go.Vh
variable {P : Program}

def srcA (H : AHeap) (es : Nat) : AVal → Option (List AVal × Nat)
  | .nilSlice => some ([], 0)
  | .slice j off len => match H.f j with
    | .cells es' cs | .ro es' cs => if es' = es ∧ off + len * es ≤ cs.length then some ((cs.drop off).take (len * es), len) else none
    | _ => none
  | .view j off len => match H.f j with
    | .cells es' cs | .ro es' cs => if es' = es ∧ off + len * es ≤ cs.length then some ((cs.drop off).take (len * es), len) else none
    | _ => none
  | .str s => if es = 1 then some (s.data.toList.map fun b => .int .u8 b.toNat, s.size) else none
  | _ => none
theorem src_run {φ : PMap} {H : AHeap} {w : World} (hR : Rel φ H w) {es : Nat} {x : AVal} {c : Value} {xs : List AVal} {m : Nat} (hx : VRel φ x c) (h : srcA H es x = some (xs, m)) :
    xs.length = m * es ∧ (Builtin.lenOf c).run P w = .ok m w ∧ ∀ n, n ≤ m → ∃ new : Array Value, (Builtin.firstCells es n c).run P w = .ok new w ∧ VRels φ (xs.take (n * es)) new.toList := by
  unfold srcA at h
  split at h
  · cases h
    obtain rfl : c = .slice none 0 0 := hx
    exact ⟨by simp, rfl, fun n hn => ⟨#[], rfl, by simp [VRels]⟩⟩
  · rename_i j off len
    obtain ⟨b, cap, ad, hb, rfl, hlc, hcap⟩ := hx
    have go : ∀ cs, (H.f j).cs = cs → off + len * es ≤ cs.length → xs = (cs.drop off).take (len * es) → m = len →
        xs.length = m * es ∧ (Builtin.lenOf (.slice (some ad) len cap)).run P w = .ok m w ∧ ∀ n, n ≤ m → ∃ new : Array Value, (Builtin.firstCells es n (.slice (some ad) len cap)).run P w = .ok new w ∧ VRels φ (xs.take (n * es)) new.toList := by
      intro cs hcs hle hxs hm
      subst hm; subst hxs
      refine ⟨by simp; omega, rfl, fun n hn => ?_⟩
      have hnl : n * es ≤ m * es := Nat.mul_le_mul_right _ hn
      by_cases h0 : cap = 0
      · have : n = 0 := by omega
        subst this
        exact ⟨#[], by simp [Builtin.firstCells, loadCells, loadCellsFrom], by simp [VRels]⟩
      · obtain ⟨rfl, _⟩ := hcap (by omega)
        obtain ⟨ds, hds, hrs⟩ := run_loadCellsFrom (P := P) hR hb (off := off) (n * es) 0 #[] _ rfl (by rw [hcs]; simp; omega)
        refine ⟨ds.toArray, by simpa [Builtin.firstCells, loadCells] using hds, ?_⟩
        rw [List.take_take, Nat.min_eq_left hnl]
        rw [hcs] at hrs
        simpa using hrs
    split at h
    · rename_i es' cs hf
      split at h
      · rename_i hc
        cases h
        exact go cs (by rw [hf]; rfl) hc.2 rfl rfl
      · cases h
    · rename_i es' cs hf
      split at h
      · rename_i hc
        cases h
        exact go cs (by rw [hf]; rfl) hc.2 rfl rfl
      · cases h
    · cases h
  · rename_i j off len
    have nilC : len = 0 → xs = [] → m = 0 → xs.length = m * es ∧ (Builtin.lenOf (.slice none 0 0)).run P w = .ok m w ∧ ∀ n, n ≤ m → ∃ new : Array Value, (Builtin.firstCells es n (.slice none 0 0)).run P w = .ok new w ∧ VRels φ (xs.take (n * es)) new.toList := by
      intro _ h1 h2
      subst h1; subst h2
      exact ⟨by simp, rfl, fun n hn => ⟨#[], rfl, by simp [VRels]⟩⟩
    rcases view_cases hx with ⟨h0, rfl⟩ | hx
    · subst h0
      split at h
      · split at h
        · cases h; exact nilC rfl (by simp) rfl
        · cases h
      · split at h
        · cases h; exact nilC rfl (by simp) rfl
        · cases h
      · cases h
    obtain ⟨b, cap, ad, hb, rfl, hlc, hcap⟩ := hx
    have go : ∀ cs, (H.f j).cs = cs → off + len * es ≤ cs.length → xs = (cs.drop off).take (len * es) → m = len →
        xs.length = m * es ∧ (Builtin.lenOf (.slice (some ad) len cap)).run P w = .ok m w ∧ ∀ n, n ≤ m → ∃ new : Array Value, (Builtin.firstCells es n (.slice (some ad) len cap)).run P w = .ok new w ∧ VRels φ (xs.take (n * es)) new.toList := by
      intro cs hcs hle hxs hm
      subst hm; subst hxs
      refine ⟨by simp; omega, rfl, fun n hn => ?_⟩
      have hnl : n * es ≤ m * es := Nat.mul_le_mul_right _ hn
      by_cases h0 : cap = 0
      · have : n = 0 := by omega
        subst this
        exact ⟨#[], by simp [Builtin.firstCells, loadCells, loadCellsFrom], by simp [VRels]⟩
      · obtain ⟨rfl, _⟩ := hcap (by omega)
        obtain ⟨ds, hds, hrs⟩ := run_loadCellsFrom (P := P) hR hb (off := off) (n * es) 0 #[] _ rfl (by rw [hcs]; simp; omega)
        refine ⟨ds.toArray, by simpa [Builtin.firstCells, loadCells] using hds, ?_⟩
        rw [List.take_take, Nat.min_eq_left hnl]
        rw [hcs] at hrs
        simpa using hrs
    split at h
    · rename_i es' cs hf
      split at h
      · rename_i hc
        cases h
        exact go cs (by rw [hf]; rfl) hc.2 rfl rfl
      · cases h
    · rename_i es' cs hf
      split at h
      · rename_i hc
        cases h
        exact go cs (by rw [hf]; rfl) hc.2 rfl rfl
      · cases h
    · cases h
  · rename_i s
    split at h
    · rename_i he
      cases h
      subst he
      obtain rfl : c = .string s := hx
      refine ⟨by rw [List.length_map, Array.length_toList, Nat.mul_one]; rfl, rfl, fun n hn => ⟨_, rfl, ?_⟩⟩
      simp only [Nat.mul_one]
      rw [VRels_iff]
      constructor
      · rw [Array.toList_map, List.length_map, Array.length_toList, List.length_take, List.length_map, Array.length_toList, ByteArray.data_extract, Array.size_extract]
        have : s.data.size = s.size := rfl
        omega
      · intro j v c hv hc
        rw [List.getElem?_take] at hv
        split at hv
        · rename_i hjn
          have hjs : j < s.size := by omega
          have hjd : j < s.data.size := hjs
          simp only [List.getElem?_map, Array.getElem?_toList, Array.getElem?_eq_getElem hjd, Option.map_some, Option.some.injEq] at hv
          subst hv
          have hc' : c = .int .u8 (s.data[j]).toNat := by
            have hx : ((s.extract 0 n).data)[j]? = some s.data[j] := by
              rw [ByteArray.data_extract, Array.getElem?_extract, if_pos (by have : s.data.size = s.size := rfl; omega)]
              simp [Array.getElem?_eq_getElem hjd]
            simp only [Array.toList_map, List.getElem?_map, Array.getElem?_toList, hx, Option.map_some, Option.some.injEq] at hc
            exact hc.symm
          exact hc'
        · cases hv
    · cases h
  · cases h

theorem nsc_le {need cap : Nat} (h : cap < need) : Builtin.nextslicecap need cap ≤ 2 * need + 1000 := by
  unfold Builtin.nextslicecap
  split
  · omega
  · split
    · omega
    · simp only [Builtin.growBy]
      repeat' split
      all_goals omega

def rowD : TypeDesc → Bool
  | .slice _ | .string => true
  | _ => false
def aappend (P : Program) (H : AHeap) (t tx : TypeId) (s x : AVal) : Option (AVal × AHeap) :=
  match sliceT P t, P.underlying tx with
  | some ti, some d => if rowD d = true ∧ ti.bytes ≤ 4096 ∧ ti.zero.length = ti.size then (match srcA H ti.size x with
    | some (xs, m) => (match s with
      | .nilSlice => if m = 0 then some (.nilSlice, H) else if m ≤ 4294967296 then some (.slice H.n 0 m, H.alloc (.cells ti.size xs)) else none
      | .slice i off len => (match H.f i with
        | .cells es cs => if es = ti.size ∧ off + len * es ≤ cs.length ∧ len + m ≤ 4294967296 ∧ xs.all AVal.scalar = true then
            some (.slice H.n 0 (len + m), (H.set i .dead).alloc (.cells es ((cs.drop off).take (len * es) ++ xs))) else none
        | _ => none)
      | _ => none)
    | none => none) else none
  | _, _ => none
theorem rowD_cases {d : TypeDesc} (h : rowD d = true) : (∃ e, d = .slice e) ∨ d = .string := by
  unfold rowD at h
  split at h
  · exact .inl ⟨_, rfl⟩
  · exact .inr rfl
  · cases h
theorem append_fits {t tx ty e : TypeId} {d : TypeDesc} {inf : TypeInfo} (hu : P.underlying t = some (.slice e)) (hi : P.info? e = some inf) (hd : P.underlying tx = some d) (hx : rowD d = true) {base : Option Addr} {len cap : Nat} {x : Value} {m : Nat} {w w' : World} (hl : (Builtin.lenOf x).run P w = .ok m w)
    (hle : len + m ≤ cap) {new : Array Value} (hn : (Builtin.firstCells inf.size m x).run P w = .ok new w) (hs : ∀ a, base = some a → (storeCells (a.add (len * inf.size)) new.toList).run P w = .ok () w') (hb : base = none → w' = w) :
    (Builtin.append_ #[t, tx] ty #[.slice base len cap, x]).run P w = .ok (.slice base (len + m) cap) w' := by
  unfold Builtin.append_
  rcases rowD_cases hx with ⟨e2, rfl⟩ | rfl
  all_goals
    simp only [List.getElem?_toArray, List.getElem?_cons_zero, List.getElem?_cons_succ, Sem.run_bind, run_underlying' hu, Result.andThen, run_sizeOf' hi, run_underlying' hd, Sem.run_pure, Bool.false_eq_true, if_false, hl, Bool.not_false, if_true, hle, hn]
    cases base with
    | none => rw [hb rfl]; rfl
    | some a => simp only [Sem.run_bind, hs a rfl, Result.andThen, Sem.run_pure]
theorem append_grow {t tx ty e : TypeId} {d : TypeDesc} {inf : TypeInfo} (hu : P.underlying t = some (.slice e)) (hi : P.info? e = some inf) (hd : P.underlying tx = some d) (hx : rowD d = true) {base : Option Addr} {len cap : Nat} {x : Value} {m : Nat} {w : World} (hl : (Builtin.lenOf x).run P w = .ok m w)
    (hgt : cap < len + m) (hneed : len + m ≤ 4294967296) (hby : inf.bytes ≤ 4096) {old new : Array Value} {z : Value} (hz : inf.zero = some z)
    (ho : (Builtin.firstCells inf.size len (.slice base len cap)).run P { w with drawn := w.drawn + 1 } = .ok old { w with drawn := w.drawn + 1 }) (hn : (Builtin.firstCells inf.size m x).run P { w with drawn := w.drawn + 1 } = .ok new { w with drawn := w.drawn + 1 }) :
    ∃ newCap, len + m ≤ newCap ∧ ∀ a w', (newRow e (old ++ new ++ Builtin.zeroCells z.cells (newCap - (len + m)))).run P { w with drawn := w.drawn + 1 } = .ok a w' → (Builtin.append_ #[t, tx] ty #[.slice base len cap, x]).run P w = .ok (.slice (some a) (len + m) newCap) w' := by
  have hcap : Builtin.nextslicecap (len + m) cap * inf.bytes ≤ 2 ^ 48 := by
    have h1 := nsc_le hgt
    have h2 : Builtin.nextslicecap (len + m) cap ≤ 2 * 4294967296 + 1000 := by omega
    have := Nat.mul_le_mul h2 hby
    omega
  refine ⟨Question.cut (.appendCap (len + m) cap e) (w.tape w.drawn (.appendCap (len + m) cap e)), by simp [Question.cut], fun a w' hrow => ?_⟩
  have h1 : ¬ (((len + m : Nat) : Int) > IntKind.i64.max ∧ (False ∨ inf.bytes = 0)) := by
    simp [IntKind.max, IntKind.bits, IntKind.signed]; omega
  have hch : (choose (.appendCap (len + m) cap e)).run P w = .ok (Question.cut (.appendCap (len + m) cap e) (w.tape w.drawn (.appendCap (len + m) cap e))) { w with drawn := w.drawn + 1 } := by
    simp [choose, Sem.run, Question.forced]
  unfold Builtin.append_
  rcases rowD_cases hx with ⟨e2, rfl⟩ | rfl
  all_goals
    simp only [List.getElem?_toArray, List.getElem?_cons_zero, List.getElem?_cons_succ, Sem.run_bind, run_underlying' hu, Result.andThen, run_sizeOf' hi, run_underlying' hd, Sem.run_pure, Bool.false_eq_true, if_false, hl, Bool.not_false, if_true, show ¬ (len + m ≤ cap) by omega,
      run_typeInfo' hi, if_neg h1, if_neg (show ¬ (Builtin.nextslicecap (len + m) cap * inf.bytes > 2 ^ 48) by omega), hch, run_askRoom, ho, hn, run_zeroValue' hi hz, hrow]
theorem zeroCells_size (z : Array Value) (n : Nat) : (Builtin.zeroCells z n).size = n * z.size := by simp [Builtin.zeroCells]
theorem grow_fine {φ : PMap} {H : AHeap} {w : World} (hR : Rel φ H w) {e : TypeId} {es len m newCap : Nat} {os xs : List AVal} {old new z : Array Value} (ho : VRels φ os old.toList) (hn : VRels φ xs new.toList) (hol : os.length = len * es) (hnl : xs.length = m * es) (hz : z.size = es) (hcap : len + m ≤ newCap) :
    ∃ a w' φ', (newRow e (old ++ new ++ Builtin.zeroCells z (newCap - (len + m)))).run P w = .ok a w' ∧ VRel φ' (.slice H.n 0 (len + m)) (.slice (some a) (len + m) newCap) ∧ Rel φ' (H.alloc (.cells es (os ++ xs))) w' ∧ Ext φ H w φ' (H.alloc (.cells es (os ++ xs))) w' := by
  have h1 := VRels_length ho
  have h2 := VRels_length hn
  rw [Array.length_toList] at h1 h2
  have hsize : (old ++ new ++ Builtin.zeroCells z (newCap - (len + m))).size = newCap * es := by
    rw [Array.size_append, Array.size_append, zeroCells_size, h1, h2, hol, hnl, hz, ← Nat.add_mul, ← Nat.add_mul]
    congr 1; omega
  have hm : (len + m) * es ≤ newCap * es := Nat.mul_le_mul_right _ hcap
  rw [Nat.add_mul] at hm
  have htake : (old ++ new ++ Builtin.zeroCells z (newCap - (len + m))).toList.take (os ++ xs).length = old.toList ++ new.toList := by
    rw [Array.toList_append, Array.toList_append, List.take_append_of_le_length (by simp; omega), List.take_of_length_le (by simp; omega)]
  obtain ⟨φ', w', hrun, hR', hE, hφ⟩ := row_new (P := P) hR e (old ++ new ++ Builtin.zeroCells z (newCap - (len + m))) (os ++ xs) es (by rw [hsize, List.length_append]; omega) (by rw [htake]; exact VRels_append ho hn)
  refine ⟨_, w', φ', hrun, ⟨_, newCap, _, hφ, rfl, hcap, fun _ => ⟨rfl, ?_⟩⟩, hR', hE⟩
  simp only [Nat.zero_add]
  rw [hsize]; exact Nat.le_refl _
theorem fine_append {φ : PMap} {H H' : AHeap} {w : World} (hR : Rel φ H w) {t tx ty : TypeId} {s x v : AVal} {cs cx : Value} (hs : VRel φ s cs) (hx : VRel φ x cx) (h : aappend P H t tx s x = some (v, H')) :
    Fine P φ H w (Builtin.append_ #[t, tx] ty #[cs, cx]) v H' := by
  unfold aappend at h
  split at h
  · rename_i ti d hT hd
    obtain ⟨e, hu, ht⟩ := sliceT_spec hT
    obtain ⟨inf, de, z, hi, hde, hz, hsz, hby, hag, hze⟩ := tinfo_spec ht
    split at h
    · rename_i hc
      obtain ⟨hrow, hbytes, hz0⟩ := hc
      have hzs : z.cells.size = ti.size := by rw [← hz0, hze]; simp
      split at h
      · rename_i xs m hsrc
        obtain ⟨hxl, hlen, hfirst⟩ := src_run (P := P) hR hx hsrc
        obtain ⟨new, hnew, hnrel⟩ := hfirst m (Nat.le_refl _)
        rw [List.take_of_length_le (by omega)] at hnrel
        obtain ⟨_, _, h3⟩ := src_run (P := P) (hR.drew (w.drawn + 1)) hx hsrc
        obtain ⟨new', hnew', hnrel'⟩ := h3 m (Nat.le_refl _)
        rw [List.take_of_length_le (by omega)] at hnrel'
        split at h
        · -- a nil slice
          obtain rfl : cs = .slice none 0 0 := hs
          split at h
          · rename_i hm
            cases h
            subst hm
            refine Fine.pure hR (c := .slice none 0 0) ?_ rfl
            exact append_fits hu hi hd hrow hlen (Nat.le_refl _) (by rw [hsz]; exact hnew) (by simp) (fun _ => rfl)
          · rename_i hm
            split at h
            · rename_i hm2
              simp only [Option.some.injEq, Prod.mk.injEq] at h
              obtain ⟨rfl, rfl⟩ := h
              obtain ⟨newCap, hcap, hgo⟩ := append_grow (P := P) (ty := ty) hu hi hd hrow hlen (base := none) (len := 0) (cap := 0) (by omega) (by omega) (by omega) hz (old := #[]) rfl (by rw [hsz]; exact hnew')
              obtain ⟨a, w', φ', hrun, hv, hR', hE⟩ := grow_fine (P := P) (hR.drew (w.drawn + 1)) (e := e) (es := ti.size) (len := 0) (os := []) (old := #[]) (z := z.cells) (by simp [VRels]) hnrel' (by simp) hxl hzs hcap
              have hres := hgo _ _ hrun
              simp only [Nat.zero_add, List.nil_append] at hres hv hR' hE
              exact ⟨_, w', φ', hres, hv, hR', (Ext.drew φ H w _).trans hE⟩
            · cases h
        · rename_i i off len
          split at h
          · rename_i es ccs hf
            split at h
            · rename_i hcond
              obtain ⟨hes, hle, hneed, hsc⟩ := hcond
              simp only [Option.some.injEq, Prod.mk.injEq] at h
              obtain ⟨rfl, rfl⟩ := h
              subst hes
              obtain ⟨b, cap, ad, hb, rfl, hlc, hcap⟩ := hs
              have hB := hR.blk i b hb
              rw [hf] at hB
              obtain ⟨hbes, arr, elem, h1, h2, h3', h4⟩ := hB
              have hwindow : VRels φ ((ccs.drop off).take (len * ti.size)) (((arr.toList.drop (b.base + off)).take (len * ti.size))) := by
                have := VRels_take (VRels_drop h4 off) (len * ti.size)
                rw [List.drop_take, List.take_take, List.drop_drop, Nat.min_eq_left (by omega)] at this
                exact this
              by_cases hfit : len + m ≤ cap
              · -- there is room
                have hnl := VRels_length hnrel
                have hpos : 0 < cap ∨ cap = 0 := by omega
                let bj : BI := ⟨b.blk, b.base + off, ti.size, cap * ti.size⟩
                have hroom : off + cap * ti.size ≤ b.sz := by
                  rcases hpos with hp | hp
                  · have := (hcap hp).2; rwa [hbes] at this
                  · subst hp; simp; omega
                have hmul : len * ti.size + m * ti.size ≤ cap * ti.size := by rw [← Nat.add_mul]; exact Nat.mul_le_mul_right _ hfit
                have hscv : new.toList.all scalarV = true := by
                  rw [List.all_eq_true] at *
                  intro c hc
                  obtain ⟨j, hj⟩ := List.getElem?_of_mem hc
                  have hjl : j < xs.length := by rw [← hnl]; exact (List.getElem?_eq_some_iff.1 hj).1
                  exact scalar_rel (hsc _ (List.getElem_mem hjl)) ((VRels_iff.1 hnrel).2 j _ c (List.getElem?_eq_getElem hjl) hj)
                obtain ⟨w', hrun, hs', hk, hos, htp, hout, arr', harr, hlist⟩ := run_storeCells (P := P) new.toList w arr (b.base + off + len * ti.size) 0 h1 (by rw [hnl, hxl]; omega) hscv
                have hstore : ∀ a, some ad = some a → (storeCells (a.add (len * inf.size)) new.toList).run P w = .ok () w' := by
                  intro a ha
                  cases ha
                  rcases hpos with hp | hp
                  · rw [(hcap hp).1, add_at, hsz]; exact hrun
                  · have hm0 : m = 0 := by omega
                    have hn0 : new.toList = [] := by apply List.eq_nil_of_length_eq_zero; rw [hnl, hxl, hm0]; simp
                    rw [hn0] at hrun ⊢
                    simp only [storeCells, Sem.run_pure] at hrun ⊢
                    exact hrun
                have hx' := rel_move (bj := bj) hR hb (by rw [hf]; trivial) rfl (.cells ti.size ((ccs.drop off).take (len * ti.size) ++ xs)) trivial hs' hk (by
                  refine ⟨rfl, arr', elem, harr, ?_, ?_, ?_⟩
                  · have : arr'.size = arr.size := by
                      rw [← Array.length_toList, hlist]; simp [hnl, hxl]; omega
                    simp only [bj]; omega
                  · simp only [bj, List.length_append, List.length_take, List.length_drop, hxl]; omega
                  · have hw : (arr'.toList.drop bj.base).take ((ccs.drop off).take (len * ti.size) ++ xs).length = ((arr.toList.drop (b.base + off)).take (len * ti.size)) ++ new.toList := by
                      rw [hlist]
                      apply List.ext_getElem?
                      intro q
                      have hnl2 : new.size = m * ti.size := by rw [← Array.length_toList, hnl, hxl]
                      simp only [bj, Nat.add_zero, List.getElem?_take, List.getElem?_drop, List.getElem?_append, List.length_append, List.length_take, List.length_drop, Array.length_toList, hnl2, hxl]
                      repeat' split
                      all_goals first | rfl | omega | (congr 1; omega) | (exfalso; omega) | (simp only [List.getElem?_eq_none_iff, Array.length_toList]; omega) | (symm; simp only [List.getElem?_eq_none_iff, Array.length_toList]; omega)
                    rw [hw]
                    exact VRels_mono (PMap.ext_le (hR.dom H.n (Nat.le_refl _)) _) _ _ (VRels_append hwindow hnrel)) hos htp hout
                refine ⟨_, w', _, append_fits hu hi hd hrow hlen hfit (by rw [hsz]; exact hnew) hstore (by simp), ?_, hx'.1, hx'.2⟩
                refine ⟨bj, cap, ad, PMap.ext_same _ _ _, rfl, hfit, fun hp => ⟨by rw [(hcap hp).1]; rfl, ?_⟩⟩
                simp only [bj, Nat.zero_add]; exact Nat.le_refl _
              · -- a new array
                have hold := src_run (P := P) (x := .slice i off len) (hR.drew (w.drawn + 1)) (m := len) (xs := (ccs.drop off).take (len * ti.size)) ⟨b, cap, ad, hb, rfl, hlc, hcap⟩ (by simp only [srcA, hf]; rw [if_pos ⟨rfl, hle⟩])
                obtain ⟨hol, _, hof⟩ := hold
                obtain ⟨old, hold', horel⟩ := hof len (Nat.le_refl _)
                rw [List.take_of_length_le (by omega)] at horel
                obtain ⟨newCap, hncap, hgo⟩ := append_grow (P := P) (ty := ty) hu hi hd hrow hlen (base := some ad) (len := len) (cap := cap) (by omega) hneed (by omega) hz (by rw [hsz]; exact hold') (by rw [hsz]; exact hnew')
                have hkill := rel_kill (hR.drew (w.drawn + 1)) i
                obtain ⟨a, w', φ', hrun, hv, hR', hE⟩ := grow_fine (P := P) hkill.1 (e := e) (es := ti.size) (len := len) (old := old) (z := z.cells) horel hnrel' hol hxl hzs hncap
                exact ⟨_, w', φ', hgo _ _ hrun, hv, hR', ((Ext.drew φ H w _).trans hkill.2).trans hE⟩
            · cases h
          · cases h
        · cases h
      · cases h
    · cases h
  · cases h

/-! ### copy, len, min, max -/
def acopy (P : Program) (H : AHeap) (t : TypeId) (d x : AVal) : Option (AVal × AHeap) :=
  match sliceT P t with
  | some ti => match srcA H ti.size x, d with
    | some (_, m), .nilSlice => some (.int .i64 0, H)
    | some (xs, m), .slice i off len => (match H.f i with
      | .cells es _ => if es = ti.size then (H.store i off (xs.take (min m len * ti.size))).map fun H' => (.int .i64 ((min m len : Nat) : Int), H') else none
      | _ => none)
    | _, _ => none
  | none => none
theorem MRels_length {φ : PMap} : ∀ {es : List (AVal × AVal)} {ents : List MapEntry}, MRels φ es ents → ents.length = es.length
  | [], ents, h => by rw [show ents = [] from h]; rfl
  | (k, v) :: es, ents, h => by obtain ⟨e, es', rfl, _, _, h3⟩ := h; simp [MRels_length h3]
/-- The length of what is no map. -/
def alenP (P : Program) (t : TypeId) (x : AVal) : Option AVal :=
  match P.underlying t, x with
  | some (.slice _), .slice _ _ n => some (.int .i64 (n : Int))
  | some (.slice _), .nilSlice => some (.int .i64 0)
  | some (.slice _), .view _ _ n => some (.int .i64 (n : Int))
  | some .string, .str s => some (.int .i64 (s.size : Int))
  | some (.array n _), _ => some (.int .i64 (n : Int))
  | _, _ => none
theorem pure_len {φ : PMap} {t ty : TypeId} {x v : AVal} {c : Value} (hx : VRel φ x c) (h : alenP P t x = some v) : PureTo P φ (Builtin.len_ #[t] ty #[c]) v := by
  unfold alenP at h
  split at h
  · rename_i e i off n hu
    cases h
    obtain ⟨b, cap, ad, _, rfl, _⟩ := hx
    exact ⟨.int .i64 n, fun w => by simp [Builtin.len_, run_underlying' hu, Result.andThen, goInt], rfl⟩
  · rename_i e hu
    cases h
    obtain rfl : c = .slice none 0 0 := hx
    exact ⟨.int .i64 0, fun w => by simp [Builtin.len_, run_underlying' hu, Result.andThen, goInt], rfl⟩
  · rename_i e i off n hu
    cases h
    rcases view_cases hx with ⟨rfl, rfl⟩ | hx
    · exact ⟨.int .i64 0, fun w => by simp [Builtin.len_, run_underlying' hu, Result.andThen, goInt], rfl⟩
    · obtain ⟨b, cap, ad, _, rfl, _⟩ := hx
      exact ⟨.int .i64 n, fun w => by simp [Builtin.len_, run_underlying' hu, Result.andThen, goInt], rfl⟩
  · rename_i s hu
    cases h
    obtain rfl : c = .string s := hx
    exact ⟨.int .i64 s.size, fun w => by simp [Builtin.len_, run_underlying' hu, Result.andThen, goInt], rfl⟩
  · rename_i n e hu
    cases h
    exact ⟨.int .i64 n, fun w => by simp [Builtin.len_, run_underlying' hu, Result.andThen, goInt], rfl⟩
  · cases h
def alenM (P : Program) (H : AHeap) (t : TypeId) (x : AVal) : Option AVal :=
  match P.underlying t with
  | some (.map _ _) => (H.entries x).map fun es => .int .i64 (es.length : Int)
  | _ => none
def alen (P : Program) (H : AHeap) (t : TypeId) (x : AVal) : Option AVal :=
  match alenP P t x with
  | some v => some v
  | none => alenM P H t x
theorem fine_len {φ : PMap} {H : AHeap} {w : World} (hR : Rel φ H w) {t ty : TypeId} {x v : AVal} {c : Value} (hx : VRel φ x c) (h : alen P H t x = some v) : Fine P φ H w (Builtin.len_ #[t] ty #[c]) v H := by
  unfold alen at h
  split at h
  · rename_i u hu
    cases h
    exact Fine.of_pure hR (pure_len hx hu)
  · rename_i hnone
    clear hnone
    unfold alenM at h
    split at h
    · rename_i k e hu
      unfold AHeap.entries at h
      split at h
      · rename_i i
        split at h
        · rename_i es hf
          cases h
          obtain ⟨b, hb, rfl⟩ := hx
          have hB := hR.blk i b hb
          rw [hf] at hB
          obtain ⟨ents, clock, h1, h2⟩ := hB
          have hl := MRels_length h2
          rw [Array.length_toList] at hl
          have hgo : (getObj b.blk).run P w = .ok (.map ents clock) w := by simp [getObj, Sem.run, h1]
          exact Fine.pure hR (c := .int .i64 es.length) (by simp [Builtin.len_, run_underlying' hu, Result.andThen, goInt, hgo, hl]) rfl
        · cases h
      · cases h
        obtain rfl : c = .map none := hx
        exact Fine.pure hR (c := .int .i64 0) (by simp [Builtin.len_, run_underlying' hu, Result.andThen, goInt]) rfl
      · cases h
    · cases h
theorem fine_copy {φ : PMap} {H H' : AHeap} {w : World} (hR : Rel φ H w) {t tx ty : TypeId} {d x v : AVal} {cd cx : Value} (hd : VRel φ d cd) (hx : VRel φ x cx) (h : acopy P H t d x = some (v, H')) : Fine P φ H w (Builtin.copy_ #[t, tx] ty #[cd, cx]) v H' := by
  unfold acopy at h
  split at h
  · rename_i ti hT
    obtain ⟨e, hu, ht⟩ := sliceT_spec hT
    obtain ⟨inf, de, z, hi, hde, hz, hsz, hby, hag, hze⟩ := tinfo_spec ht
    split at h
    · rename_i xs m hsrc
      cases h
      obtain rfl : cd = .slice none 0 0 := hd
      obtain ⟨hxl, hlen, hfirst⟩ := src_run (P := P) hR hx hsrc
      obtain ⟨new, hnew, hnrel⟩ := hfirst 0 (Nat.zero_le _)
      refine Fine.pure hR (c := .int .i64 0) ?_ rfl
      unfold Builtin.copy_
      simp only [List.getElem?_toArray, List.getElem?_cons_zero, List.getElem?_cons_succ, Sem.run_bind, run_underlying' hu, Result.andThen, hlen, run_sizeOf' hi, hsz]
      rw [show Nat.min m 0 = 0 from Nat.min_zero m, hnew]
      rfl
    · rename_i xs m i off len hsrc
      split at h
      · rename_i es cs hf
        split at h
        · rename_i hes
          subst hes
          cases hst : H.store i off (xs.take (min m len * ti.size)) with
          | none => simp [hst] at h
          | some H2 =>
            simp only [hst, Option.map_some, Option.some.injEq, Prod.mk.injEq] at h
            obtain ⟨rfl, rfl⟩ := h
            obtain ⟨hxl, hlen, hfirst⟩ := src_run (P := P) hR hx hsrc
            obtain ⟨new, hnew, hnrel⟩ := hfirst (min m len) (Nat.min_le_left _ _)
            have hnl := VRels_length hnrel
            obtain ⟨b, cap, ad, hb, rfl, hlc, hcap⟩ := hd
            have hB := hR.blk i b hb
            rw [hf] at hB
            obtain ⟨hbes, arr, elem, h1, h2, h3, h4⟩ := hB
            -- the store
            have hxt : (xs.take (min m len * ti.size)).length = min m len * ti.size := by
              rw [List.length_take, hxl]; exact Nat.min_eq_left (Nat.mul_le_mul_right _ (Nat.min_le_left _ _))
            unfold AHeap.store at hst
            rw [hf] at hst
            simp only at hst
            split at hst
            · rename_i hcond
              obtain ⟨hle, hsc⟩ := hcond
              cases hst
              have hscv : new.toList.all scalarV = true := by
                rw [List.all_eq_true] at *
                intro c hc
                obtain ⟨j, hj⟩ := List.getElem?_of_mem hc
                have hjl : j < (xs.take (min m len * ti.size)).length := by rw [← hnl]; exact (List.getElem?_eq_some_iff.1 hj).1
                exact scalar_rel (hsc _ (List.getElem_mem hjl)) ((VRels_iff.1 hnrel).2 j _ c (List.getElem?_eq_getElem hjl) hj)
              obtain ⟨w', hrun, hs', hk, hos, htp, hout, arr', harr, hlist⟩ := run_storeCells (P := P) new.toList w arr (b.base + off) 0 h1 (by rw [hnl]; omega) hscv
              have hx2 := rel_set hR hb (by rw [hf]; trivial) (.cells ti.size (cs.take off ++ xs.take (min m len * ti.size) ++ cs.drop (off + (xs.take (min m len * ti.size)).length))) trivial hs' hk ?_ hos htp hout
              · refine ⟨.int .i64 ((min m len : Nat) : Int), w', φ, ?_, rfl, hx2.1, hx2.2⟩
                have hstore : (storeCells ad new.toList).run P w = .ok () w' := by
                  rcases Nat.eq_zero_or_pos cap with hc0 | hp
                  · have hl0 : len = 0 := by omega
                    have hn0 : new.toList = [] := by apply List.eq_nil_of_length_eq_zero; rw [hnl, hxt, hl0]; simp
                    rw [hn0] at hrun ⊢
                    simp only [storeCells, Sem.run_pure] at hrun ⊢
                    exact hrun
                  · rw [(hcap hp).1]; exact hrun
                unfold Builtin.copy_
                simp only [List.getElem?_toArray, List.getElem?_cons_zero, List.getElem?_cons_succ, Sem.run_bind, run_underlying' hu, Result.andThen, hlen, run_sizeOf' hi, hsz]
                rw [show (Builtin.firstCells ti.size (Nat.min m len) cx).run P w = .ok new w from hnew]
                simp only [Sem.run_bind, hstore, Result.andThen]
                rfl
              · refine ⟨hbes, arr', elem, harr, ?_, ?_, ?_⟩
                · have : arr'.size = arr.size := by
                    rw [← Array.length_toList, hlist]; simp [hnl]; omega
                  omega
                · simp only [List.length_append, List.length_take, List.length_drop]; simp only [List.length_take] at hle; omega
                · have hnl2 : new.size = (xs.take (min m len * ti.size)).length := by rw [← Array.length_toList, hnl]
                  have : (arr'.toList.drop b.base).take (cs.take off ++ xs.take (min m len * ti.size) ++ cs.drop (off + (xs.take (min m len * ti.size)).length)).length =
                      (((arr.toList.drop b.base).take cs.length).take off) ++ new.toList ++ (((arr.toList.drop b.base).take cs.length).drop (off + (xs.take (min m len * ti.size)).length)) := by
                    rw [hlist]
                    generalize (xs.take (min m len * ti.size)) = ys at *
                    apply List.ext_getElem?
                    intro k
                    simp only [Nat.add_zero, List.getElem?_take, List.getElem?_drop, List.getElem?_append, List.length_append, List.length_take, List.length_drop, Array.length_toList, hnl2]
                    repeat' split
                    all_goals first | rfl | omega | (congr 1; omega) | (exfalso; omega)
                  rw [this]
                  exact VRels_append (VRels_append (VRels_take h4 _) hnrel) (VRels_drop h4 _)
            · cases hst
        · cases h
      · cases h
    · cases h
  · cases h
def amm (mx : Bool) (a b : Int) : Int := if mx then (if b > a then b else a) else (if b < a then b else a)
def aminmax (mx : Bool) : List AVal → Option AVal
  | [.int k a, .int k' b] => if k = k' then some (.int k (amm mx a b)) else none
  | [.int k a, .int k' b, .int k'' c] => if k = k' ∧ k = k'' then some (.int k (amm mx (amm mx a b) c)) else none
  | _ => none
theorem pure_minmax {φ : PMap} (mx : Bool) {ts : Array TypeId} {ty : TypeId} {l : List AVal} {v : AVal} {cs : Array Value} (hx : VRels φ l cs.toList) (h : aminmax mx l = some v) :
    PureTo P φ (if mx then Builtin.max_ ts ty cs else Builtin.min_ ts ty cs) v := by
  unfold aminmax at h
  split at h
  · rename_i k a k' b
    split at h
    · rename_i hk
      subst hk
      cases h
      obtain ⟨c1, l1, he1, h1, h2⟩ := hx
      obtain ⟨c2, l2, rfl, h3, h4⟩ := h2
      obtain rfl : c1 = .int k a := h1
      obtain rfl : c2 = .int k b := h3
      obtain rfl : l2 = [] := h4
      refine ⟨.int k (amm mx a b), fun w => ?_, rfl⟩
      cases mx <;> simp [Builtin.max_, Builtin.min_, he1, Builtin.max2, Builtin.min2, amm]
    · cases h
  · rename_i k a k' b k'' c
    split at h
    · rename_i hk
      obtain ⟨rfl, rfl⟩ := hk
      cases h
      obtain ⟨c1, l1, he1, h1, h2⟩ := hx
      obtain ⟨c2, l2, rfl, h3, h4⟩ := h2
      obtain ⟨c3, l3, rfl, h5, h6⟩ := h4
      obtain rfl : c1 = .int k a := h1
      obtain rfl : c2 = .int k b := h3
      obtain rfl : c3 = .int k c := h5
      obtain rfl : l3 = [] := h6
      refine ⟨.int k (amm mx (amm mx a b) c), fun w => ?_, rfl⟩
      cases mx <;> simp [Builtin.max_, Builtin.min_, he1, Builtin.max2, Builtin.min2, amm, Result.andThen]
    · cases h
  · cases h
/-- The capacity of no slice. -/
def acapP (P : Program) (t : TypeId) (x : AVal) : Option AVal :=
  match P.underlying t, x with
  | some (.slice _), .nilSlice => some (.int .i64 0)
  | _, _ => none
theorem pure_cap {φ : PMap} {t ty : TypeId} {x v : AVal} {c : Value} (hx : VRel φ x c) (h : acapP P t x = some v) : PureTo P φ (Builtin.cap_ #[t] ty #[c]) v := by
  unfold acapP at h
  split at h
  · rename_i e hu
    cases h
    obtain rfl : c = .slice none 0 0 := hx
    exact ⟨.int .i64 0, fun w => by simp [Builtin.cap_, run_underlying' hu, Result.andThen, goInt], rfl⟩
  · cases h
end Go.Vh
