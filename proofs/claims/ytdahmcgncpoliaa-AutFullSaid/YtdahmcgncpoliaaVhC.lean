/- What an operation does to a value heap, and that the model does it so. -/
import Derived.Test.YtdahmcgncpoliaaVhB
import Derived.WalkKit
set_option linter.unusedVariables false
set_option linter.unusedSimpArgs false
namespace Go.Vh
variable {P : Program}

def absS : Value → AVal
  | .int k n => .int k n
  | .bool b => .bool b
  | .string s => .str s
  | .slice none 0 0 => .nilSlice
  | v => .raw v
def absC : Value → AVal
  | .agg cs => .agg (cs.toList.map absS)
  | .tuple vs => .tuple (vs.toList.map absS)
  | v => absS v
theorem absS_rel (φ : PMap) (v : Value) : VRel φ (absS v) v := by unfold absS; split <;> simp [VRel]
theorem absS_rels (φ : PMap) : ∀ l : List Value, VRels φ (l.map absS) l
  | [] => by simp [VRels]
  | v :: l => VRels_cons.2 ⟨absS_rel φ v, absS_rels φ l⟩
theorem absC_rel (φ : PMap) (v : Value) : VRel φ (absC v) v := by
  unfold absC
  split
  · exact ⟨_, rfl, absS_rels φ _⟩
  · exact ⟨_, rfl, absS_rels φ _⟩
  · exact absS_rel φ v

def evalA (e : Env) : Operand → AVal
  | .tmp t => e t
  | .const v => absC v
  | .func f => .func f [] []
  | .global _ => .undef
theorem evalA_rel {φ : PMap} {N : Nat} {e : Env} {a : Act} (h : ERel φ N e a.tmps) (x : Operand) : VRel φ (evalA e x) (a.eval x) := by
  cases x with
  | tmp t => exact h.get t
  | const v => exact absC_rel φ v
  | global g => simp [evalA, VRel]
  | func f => exact ⟨[], [], by simp [Act.eval], by simp [VRels], by simp [VRels]⟩

def scalarV : Value → Bool
  | .agg _ | .tuple _ => false
  | _ => true
def AVal.scalar : AVal → Bool
  | .undef | .agg _ | .tuple _ => false
  | .raw v => scalarV v
  | _ => true
theorem scalar_rel {φ : PMap} {v : AVal} {c : Value} (hs : v.scalar = true) (h : VRel φ v c) : scalarV c = true := by
  cases v <;> simp only [AVal.scalar, VRel, Bool.false_eq_true] at hs h
  case raw v => rw [h]; exact hs
  case ptr => obtain ⟨b, _, rfl⟩ := h; rfl
  case slice => obtain ⟨b, cap, ad, _, rfl, _⟩ := h; rfl
  case map => obtain ⟨b, _, rfl⟩ := h; rfl
  case func => obtain ⟨cs, ds, rfl, _⟩ := h; rfl
  case yield => obtain ⟨b, _, rfl⟩ := h; rfl
  case view => obtain ⟨b, _, ⟨_, rfl⟩ | ⟨_, _, rfl, _⟩⟩ := h <;> rfl
  all_goals (rw [h]; rfl)
/-- The cells of a value. -/
def AVal.cells : AVal → Option (List AVal)
  | .agg l => some l
  | v => if v.scalar then some [v] else none
theorem cells_rel {φ : PMap} {v : AVal} {c : Value} {l : List AVal} (hc : v.cells = some l) (h : VRel φ v c) : VRels φ l c.cells.toList := by
  have one : v.scalar = true → c.cells = #[c] := fun hs => by
    have := scalar_rel hs h
    cases c <;> simp_all [scalarV, Value.cells]
  cases v <;> simp only [AVal.cells] at hc
  case agg l' =>
    cases hc
    obtain ⟨cs, rfl, h1⟩ := h
    simpa [Value.cells] using h1
  all_goals
    split at hc
    · rename_i hs
      cases hc
      rw [one hs]
      exact VRels_cons.2 ⟨h, by simp [VRels]⟩
    · cases hc

structure TI where
  size : Nat
  bytes : Nat
  agg : Bool
  zero : List AVal
def TypeDesc.isAgg : TypeDesc → Bool
  | .struct _ | .array _ _ => true
  | _ => false
def tinfo (P : Program) (t : TypeId) : Option TI :=
  match P.info? t, P.underlying t with
  | some i, some d => match i.zero with
    | some z => some { size := i.size, bytes := i.bytes, agg := TypeDesc.isAgg d, zero := z.cells.toList.map absS }
    | none => none
  | _, _ => none
theorem tinfo_spec {t : TypeId} {ti : TI} (h : tinfo P t = some ti) : ∃ i d z, P.info? t = some i ∧ P.underlying t = some d ∧ i.zero = some z ∧ i.size = ti.size ∧ i.bytes = ti.bytes ∧ TypeDesc.isAgg d = ti.agg ∧ ti.zero = z.cells.toList.map absS := by
  unfold tinfo at h
  cases hi : P.info? t with
  | none => simp [hi] at h
  | some i =>
    cases hd : P.underlying t with
    | none => simp [hi, hd] at h
    | some d =>
      cases hz : i.zero with
      | none => simp [hi, hd, hz] at h
      | some z =>
        simp only [hi, hd, hz, Option.some.injEq] at h
        subst h
        exact ⟨i, d, z, rfl, rfl, hz, rfl, rfl, rfl, rfl⟩
theorem run_typeInfo' {t : TypeId} {i : TypeInfo} (h : P.info? t = some i) (w : World) : (typeInfo t).run P w = .ok i w := by simp [typeInfo, h]
theorem run_underlying' {t : TypeId} {d : TypeDesc} (h : P.underlying t = some d) (w : World) : (underlying t).run P w = .ok d w := by simp [underlying, h]
theorem run_sizeOf' {t : TypeId} {i : TypeInfo} (h : P.info? t = some i) (w : World) : (sizeOf t).run P w = .ok i.size w := by simp [sizeOf, run_typeInfo' h, Result.andThen]
theorem run_zeroValue' {t : TypeId} {i : TypeInfo} {z : Value} (h : P.info? t = some i) (hz : i.zero = some z) (w : World) : (zeroValue t).run P w = .ok z w := by simp [zeroValue, run_typeInfo' h, hz, Result.andThen]
theorem run_isAgg' {t : TypeId} {d : TypeDesc} (h : P.underlying t = some d) (w : World) : (isAgg t).run P w = .ok (TypeDesc.isAgg d) w := by
  unfold isAgg
  rw [Sem.run_bind, run_underlying' h]
  cases d <;> rfl

/-- A computation that comes to a value. -/
def Fine (P : Program) (φ : PMap) (H : AHeap) (w : World) (s : Sem Value) (v : AVal) (H' : AHeap) : Prop :=
  ∃ c w' φ', s.run P w = .ok c w' ∧ VRel φ' v c ∧ Rel φ' H' w' ∧ Ext φ H w φ' H' w'
theorem Fine.pure {φ : PMap} {H : AHeap} {w : World} {s : Sem Value} {v : AVal} {c : Value} (hR : Rel φ H w) (h : s.run P w = .ok c w) (hv : VRel φ v c) : Fine P φ H w s v H :=
  ⟨c, w, φ, h, hv, hR, Ext.refl _ _ _⟩

/-- A computation that comes to a value whatever the world, and leaves it. -/
def PureTo (P : Program) (φ : PMap) (s : Sem Value) (v : AVal) : Prop := ∃ c, (∀ w, s.run P w = .ok c w) ∧ VRel φ v c
theorem Fine.of_pure {φ : PMap} {H : AHeap} {w : World} {s : Sem Value} {v : AVal} (hR : Rel φ H w) (h : PureTo P φ s v) : Fine P φ H w s v H :=
  let ⟨c, h1, h2⟩ := h; ⟨c, w, φ, h1 w, h2, hR, Ext.refl _ _ _⟩

/-! ### Reading -/
def ABlk.cs : ABlk → List AVal
  | .cells _ cs | .ro _ cs => cs
  | _ => []
theorem cell_at {φ : PMap} {H : AHeap} {w : World} (hR : Rel φ H w) {i off : Nat} {b : BI} (hb : φ i = some b) {v : AVal} (hv : (H.f i).cs[off]? = some v) :
    ∃ c, w.cell? ⟨b.blk, b.base + off, none⟩ = some c ∧ VRel φ v c := by
  have h := hR.blk i b hb
  cases hf : H.f i <;> rw [hf] at h hv <;> simp only [ABlk.cs, List.getElem?_nil, reduceCtorEq] at hv
  case cells es cs =>
    obtain ⟨_, arr, elem, h1, h2, h3, h4⟩ := h
    obtain ⟨c, hc, hr⟩ := VRels_get h4 hv
    refine ⟨c, ?_, hr⟩
    rw [List.getElem?_take] at hc
    split at hc
    · rw [List.getElem?_drop] at hc
      simp only [World.cell?, h1]
      simpa using hc
    · cases hc
  case ro es cs => exact h.2 off v hv
theorem run_load' {a : Addr} {c : Value} {w : World} (h : w.cell? a = some c) : (load a).run P w = .ok c w := by simp [load, Sem.run, h]
theorem add_at (b o : Nat) (n : Nat) : (⟨b, o, none⟩ : Addr).add n = ⟨b, o + n, none⟩ := by unfold Addr.add; split <;> simp_all
theorem run_loadCellsFrom {φ : PMap} {H : AHeap} {w : World} (hR : Rel φ H w) {i off : Nat} {b : BI} (hb : φ i = some b) :
    ∀ (n j : Nat) (acc : Array Value) (l : List AVal), (((H.f i).cs.drop (off + j)).take n) = l → l.length = n →
      ∃ cs : List Value, (loadCellsFrom ⟨b.blk, b.base + off, none⟩ j n acc).run P w = .ok (acc ++ cs.toArray) w ∧ VRels φ l cs := by
  intro n
  induction n with
  | zero =>
    intro j acc l h hl
    obtain rfl : l = [] := List.eq_nil_of_length_eq_zero hl
    exact ⟨[], by simp [loadCellsFrom], by simp [VRels]⟩
  | succ n ih =>
    intro j acc l h hl
    cases l with
    | nil => simp at hl
    | cons v l =>
      have hv : (H.f i).cs[off + j]? = some v := by
        have := congrArg (fun x => x[0]?) h
        simpa [List.getElem?_take, List.getElem?_drop] using this
      obtain ⟨c, hc, hr⟩ := cell_at hR hb hv
      have hrest : ((H.f i).cs.drop (off + (j + 1))).take n = l := by
        have hd : (H.f i).cs.drop (off + j) = v :: (H.f i).cs.drop (off + j + 1) := by
          obtain ⟨hlt, he⟩ := List.getElem?_eq_some_iff.1 hv
          rw [← he]; exact (List.drop_eq_getElem_cons hlt)
        rw [hd] at h
        simp only [List.take_succ_cons, List.cons.injEq, true_and] at h
        exact h
      obtain ⟨cs, hcs, hrs⟩ := ih (j + 1) (acc.push c) l hrest (by simpa using hl)
      refine ⟨c :: cs, ?_, VRels_cons.2 ⟨hr, hrs⟩⟩
      have hc' : w.cell? ((⟨b.blk, b.base + off, none⟩ : Addr).add j) = some c := by rw [add_at, Nat.add_assoc]; exact hc
      simp only [loadCellsFrom, Sem.run_bind, run_load' hc', Result.andThen, hcs]
      simp
/-- What lies at a place. -/
def AHeap.load (H : AHeap) (ti : TI) (i off : Nat) : Option AVal :=
  if ti.agg then
    if off + ti.size ≤ (H.f i).cs.length then some (.agg (((H.f i).cs.drop off).take ti.size)) else none
  else (H.f i).cs[off]?
theorem load_run {φ : PMap} {H : AHeap} {w : World} (hR : Rel φ H w) {t : TypeId} {ti : TI} (ht : tinfo P t = some ti) {i off : Nat} {b : BI} (hb : φ i = some b) {v : AVal} (hv : H.load ti i off = some v) :
    ∃ c, (loadVar t ⟨b.blk, b.base + off, none⟩).run P w = .ok c w ∧ VRel φ v c := by
  obtain ⟨inf, d, z, hi, hd, hz, hsz, hby, hag, hze⟩ := tinfo_spec ht
  unfold AHeap.load at hv
  by_cases ha : ti.agg = true
  · rw [if_pos ha] at hv
    split at hv
    · rename_i hle
      cases hv
      obtain ⟨cs, hcs, hrs⟩ := run_loadCellsFrom (P := P) hR hb (off := off) ti.size 0 #[] _ rfl (by simp; omega)
      refine ⟨.agg cs.toArray, ?_, ⟨cs, rfl, hrs⟩⟩
      simp [loadVar, run_isAgg' hd, hag, ha, Result.andThen, run_sizeOf' hi, hsz, loadCells, hcs]
    · cases hv
  · rw [if_neg ha] at hv
    obtain ⟨cc, hc, hr⟩ := cell_at hR hb hv
    refine ⟨cc, ?_, hr⟩
    simp [loadVar, run_isAgg' hd, hag, ha, Result.andThen, run_load' hc]
theorem fine_load {φ : PMap} {H : AHeap} {w : World} (hR : Rel φ H w) {t : TypeId} {ti : TI} (ht : tinfo P t = some ti) {i off : Nat} {c : Value} (hp : VRel φ (.ptr i off) c) {v : AVal} (hv : H.load ti i off = some v) :
    Fine P φ H w (Instr.loadAt t c) v H := by
  obtain ⟨b, hb, rfl⟩ := hp
  obtain ⟨c, hc, hr⟩ := load_run (P := P) hR ht hb hv
  exact Fine.pure hR (c := c) (by simp only [Instr.loadAt, Instr.sureAddr, Sem.run_bind, Sem.run_pure, Result.andThen, hc]) hr

/-! ### Writing -/
theorem run_store_scalar {a : Addr} {c old : Value} {w : World} (hs : scalarV c = true) (h : w.cell? a = some old) (hf : w.frozen? a = false) : (store a c).run P w = .ok () (w.setCell a c) := by
  cases c <;> simp_all [store, Sem.run, scalarV]
def AHeap.store (H : AHeap) (i off : Nat) (l : List AVal) : Option AHeap :=
  match H.f i with
  | .cells es cs => if off + l.length ≤ cs.length ∧ l.all AVal.scalar = true then some (H.set i (.cells es (cs.take off ++ l ++ cs.drop (off + l.length)))) else none
  | _ => none
theorem run_storeCells {blk : Nat} {elem : TypeId} : ∀ (vs : List Value) (w : World) (arr : Array Value) (o i : Nat), w.heap[blk]? = some (.cells arr elem (0, 0)) → o + i + vs.length ≤ arr.size → vs.all scalarV = true →
    ∃ w', (storeCells ⟨blk, o, none⟩ vs i).run P w = .ok () w' ∧ w'.heap.size = w.heap.size ∧ (∀ k, k ≠ blk → w'.heap[k]? = w.heap[k]?) ∧ w'.os = w.os ∧ w'.tape = w.tape ∧ w'.output = w.output ∧
      ∃ arr' : Array Value, w'.heap[blk]? = some (.cells arr' elem (0, 0)) ∧ arr'.toList = arr.toList.take (o + i) ++ vs ++ arr.toList.drop (o + i + vs.length)
  | [], w, arr, o, i, h, hl, _ => ⟨w, by simp [storeCells], rfl, fun _ _ => rfl, rfl, rfl, rfl, arr, h, by simp⟩
  | v :: vs, w, arr, o, i, h, hl, hs => by
    simp only [List.length_cons] at hl
    simp only [List.all_cons, Bool.and_eq_true] at hs
    have hlt : o + i < arr.size := by omega
    have hb : blk < w.heap.size := (Array.getElem?_eq_some_iff.1 h).1
    have hc : w.cell? ((⟨blk, o, none⟩ : Addr).add i) = some arr[o + i] := by rw [add_at]; simp [World.cell?, h, hlt]
    have hf : w.frozen? ((⟨blk, o, none⟩ : Addr).add i) = false := by rw [add_at]; simp [World.frozen?, h]
    let w1 := w.setCell ((⟨blk, o, none⟩ : Addr).add i) v
    have hw1 : w1.heap = w.heap.set blk (.cells (arr.set (o + i) v) elem (0, 0)) hb := by
      have he : w.heap[blk] = .cells arr elem (0, 0) := by simpa [Array.getElem?_eq_getElem hb] using h
      simp only [w1, World.setCell, add_at]
      apply Array.ext
      · simp
      · intro k hk hk'
        simp only [Array.getElem_modify, Array.getElem_set]
        by_cases hkb : blk = k
        · subst hkb; simp [he, Array.setIfInBounds, hlt]
        · simp [hkb]
    have h1 : w1.heap[blk]? = some (.cells (arr.set (o + i) v) elem (0, 0)) := by rw [hw1]; simp [hb]
    obtain ⟨w', hrun, hsz, hk, hos, htp, hout, arr', harr, hlist⟩ := run_storeCells vs w1 (arr.set (o + i) v) o (i + 1) h1 (by simp; omega) hs.2
    refine ⟨w', ?_, ?_, ?_, ?_, ?_, ?_, arr', harr, ?_⟩
    · simp only [storeCells, Sem.run_bind, run_store_scalar hs.1 hc hf, Result.andThen]; exact hrun
    · rw [hsz, hw1]; simp
    · intro k hne; rw [hk k hne, hw1]; simp [Array.getElem?_set, Ne.symm hne]
    · rw [hos]; rfl
    · rw [htp]; rfl
    · rw [hout]; rfl
    · rw [hlist]
      simp only [Array.toList_set, List.length_cons]
      rw [show o + (i + 1) = o + i + 1 from by omega, List.take_set, List.drop_set]
      rw [if_pos (by omega)]
      rw [List.take_add_one, List.set_append]
      simp [hlt, Nat.min_eq_left (Nat.le_of_lt hlt)]
      omega
theorem fine_store {φ : PMap} {H H' : AHeap} {w : World} (hR : Rel φ H w) {t : TypeId} {ti : TI} (ht : tinfo P t = some ti) {i off : Nat} {p c : Value} {v : AVal} {l : List AVal} (hp : VRel φ (.ptr i off) p) (hv : VRel φ v c)
    (hc : v.cells = some l) (hl : l.length = ti.size) (hst : H.store i off l = some H') :
    ∃ w', (Instr.storeAt t p c).run P w = .ok () w' ∧ Rel φ H' w' ∧ Ext φ H w φ H' w' := by
  obtain ⟨b, hb, rfl⟩ := hp
  obtain ⟨inf, d, z, hi, hd, hz, hsz, hby, hag, hze⟩ := tinfo_spec ht
  have hcl := cells_rel hc hv
  have hlen := VRels_length hcl
  unfold AHeap.store at hst
  cases hf : H.f i <;> simp only [hf, reduceCtorEq] at hst
  case cells es cs =>
    split at hst
    · rename_i hcond
      obtain ⟨hle, hsc⟩ := hcond
      cases hst
      have hB := hR.blk i b hb
      rw [hf] at hB
      obtain ⟨hes, arr, elem, h1, h2, h3, h4⟩ := hB
      have hscv : c.cells.toList.all scalarV = true := by
        rw [List.all_eq_true] at *
        intro x hx
        obtain ⟨j, hj⟩ := List.getElem?_of_mem hx
        have hjl : j < l.length := by rw [← hlen]; exact (List.getElem?_eq_some_iff.1 hj).1
        exact scalar_rel (hsc _ (List.getElem_mem hjl)) ((VRels_iff.1 hcl).2 j _ x (List.getElem?_eq_getElem hjl) hj)
      obtain ⟨w', hrun, hs', hk, hos, htp, hout, arr', harr, hlist⟩ := run_storeCells (P := P) c.cells.toList w arr (b.base + off) 0 h1 (by rw [hlen]; omega) hscv
      have hx := rel_set hR hb (by rw [hf]; trivial) (.cells es (cs.take off ++ l ++ cs.drop (off + l.length))) trivial hs' hk ?_ hos htp hout
      · refine ⟨w', ?_, hx.1, hx.2⟩
        have e1 : c.cells.size = inf.size := by rw [← Array.length_toList, hlen, hl, hsz]
        simp only [Instr.storeAt, Instr.sureAddr, storeVar, Sem.run_bind, Sem.run_pure, Result.andThen, run_sizeOf' hi]
        rw [if_neg (by simp [e1])]
        simpa using hrun
      · refine ⟨hes, arr', elem, harr, ?_, ?_, ?_⟩
        · have : arr'.size = arr.size := by
            rw [← Array.length_toList, hlist]; simp [hlen]; omega
          omega
        · simp; omega
        · have : (arr'.toList.drop b.base).take (cs.take off ++ l ++ cs.drop (off + l.length)).length =
              (((arr.toList.drop b.base).take cs.length).take off) ++ c.cells.toList ++ (((arr.toList.drop b.base).take cs.length).drop (off + l.length)) := by
            rw [hlist]
            apply List.ext_getElem?
            intro k
            simp only [Nat.add_zero, List.getElem?_take, List.getElem?_drop, List.getElem?_append, List.length_append, List.length_take, List.length_drop, Array.length_toList, hlen]
            repeat' split
            all_goals first | rfl | omega | (congr 1; omega) | (exfalso; omega)
          rw [this]
          exact VRels_append (VRels_append (VRels_take h4 _) hcl) (VRels_drop h4 _)
    · cases hst
end Go.Vh
