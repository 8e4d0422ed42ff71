import Derived.Test.YtaccmanpanpbiaaVkD
/- Maps with keys of any one kind; rows of natural numbers; counts of writes. -/
set_option linter.unusedVariables false
set_option linter.unusedSimpArgs false
namespace Go.Vk
open Go.Vh
variable {P : Program} {α : Type} [DecidableEq α]
/-! ### Maps -/
structure KeyOk (kk : KeyK) (kv : α → AVal) : Prop where
  fits : ∀ a, keyFits kk (kv a) = true
  eq : ∀ a b, keyEq kk (kv a) (kv b) = some (decide (a = b))
  sc : ∀ κ a, ren κ (kv a) = kv a
def kvI (x : Int) : AVal := .int .i64 x
def kvN (x : Nat) : AVal := .int .i64 (x : Int)
def kvP (p : Int × Int) : AVal := .agg [.int .i64 p.1, .int .i64 p.2]
def kvNN (p : Nat × Nat) : AVal := .agg [.int .i64 (p.1 : Int), .int .i64 (p.2 : Int)]
abbrev kkI : KeyK := .scalar (.int .i64)
abbrev kkP : KeyK := .flat [.int .i64, .int .i64]
theorem beqI (a b : Int) : (a == b) = decide (a = b) := by by_cases h : a = b <;> simp [h]
theorem beqN (a b : Nat) : ((a : Int) == (b : Int)) = decide (a = b) := by
  by_cases h : a = b
  · simp [h]
  · rw [decide_eq_false h]
    exact beq_eq_false_iff_ne.2 (by omega)
theorem keyI : KeyOk kkI kvI := ⟨fun a => rfl, fun a b => by
  simp only [keyEq, kvI, fitsS, aeqS, if_true, beqI], fun _ _ => rfl⟩
theorem keyN : KeyOk kkI kvN := ⟨fun a => rfl, fun a b => by
  simp only [keyEq, kvN, fitsS, aeqS, if_true, beqN], fun _ _ => rfl⟩
theorem keyP : KeyOk kkP kvP := ⟨fun a => rfl, fun a b => by
  obtain ⟨a1, a2⟩ := a
  obtain ⟨b1, b2⟩ := b
  simp only [keyEq, kvP, fitsL, fitsS, aeqL, aeqS, if_true, Bool.and_self, Bool.and_true, Option.some.injEq, Prod.mk.injEq, beqI]
  by_cases h1 : a1 = b1 <;> by_cases h2 : a2 = b2 <;> simp [h1, h2], fun _ _ => rfl⟩
theorem keyNN : KeyOk kkP kvNN := ⟨fun a => rfl, fun a b => by
  obtain ⟨a1, a2⟩ := a
  obtain ⟨b1, b2⟩ := b
  simp only [keyEq, kvNN, fitsL, fitsS, aeqL, aeqS, if_true, Bool.and_self, Bool.and_true, Option.some.injEq, Prod.mk.injEq, beqN]
  by_cases h1 : a1 = b1 <;> by_cases h2 : a2 = b2 <;> simp [h1, h2], fun _ _ => rfl⟩
def mapOf (kv : α → AVal) (l : List (α × AVal)) : List (AVal × AVal) := l.map fun p => (kv p.1, p.2)
def aget : List (α × AVal) → α → Option AVal
  | [], _ => none
  | (b, v) :: l, a => if a = b then some v else aget l a
theorem mfind_of {kk : KeyK} {kv : α → AVal} (hk : KeyOk kk kv) (a : α) : ∀ (l : List (α × AVal)) (n : Nat), (aget l a = none → mfind kk (kv a) (mapOf kv l) n = some none) ∧ ∀ v, aget l a = some v → ∃ j, mfind kk (kv a) (mapOf kv l) n = some (some (j, v))
  | [], n => ⟨fun _ => rfl, fun v h => by cases h⟩
  | (b, w) :: l, n => by
    have ih := mfind_of hk a l (n + 1)
    simp only [aget, mapOf, List.map_cons, mfind, hk.eq]
    by_cases h : a = b
    · subst h
      simp
    · rw [decide_eq_false h]
      simp only [if_neg h]
      exact ih
theorem Gets.look0 {H : AHeap} {t : TypeId} {i : Nat} {z : AVal} {kk : KeyK} {kv : α → AVal} (hk : KeyOk kk kv) {l : List (α × AVal)} {a : α} {ok : Bool} {A : AVal → Prop} (ht : mapT P t = some (kk, z)) (hf : H.f i = .map (mapOf kv l)) (hg : aget l a = none) (hA : A (if ok then .tuple [z, .bool false] else z)) : Gets (alookup P H t (.map i) (kv a) ok) A := by
  refine ⟨⟨_, ?_, hA⟩⟩
  simp only [alookup, ht, AHeap.entries, hf]
  rw [if_pos (hk.fits a), (mfind_of hk a l 0).1 hg]
theorem Gets.look1 {H : AHeap} {t : TypeId} {i : Nat} {z v : AVal} {kk : KeyK} {kv : α → AVal} (hk : KeyOk kk kv) {l : List (α × AVal)} {a : α} {ok : Bool} {A : AVal → Prop} (ht : mapT P t = some (kk, z)) (hf : H.f i = .map (mapOf kv l)) (hg : aget l a = some v) (hA : A (if ok then .tuple [v, .bool true] else v)) : Gets (alookup P H t (.map i) (kv a) ok) A := by
  refine ⟨⟨_, ?_, hA⟩⟩
  obtain ⟨j, hj⟩ := (mfind_of hk a l 0).2 v hg
  simp only [alookup, ht, AHeap.entries, hf]
  rw [if_pos (hk.fits a), hj]
theorem Gets.put0 {H : AHeap} {t : TypeId} {i : Nat} {z v : AVal} {kk : KeyK} {kv : α → AVal} (hk : KeyOk kk kv) {l : List (α × AVal)} {a : α} {A : AHeap → Prop} (ht : mapT P t = some (kk, z)) (hf : H.f i = .map (mapOf kv l)) (hg : aget l a = none) (hA : A (H.set i (.map (mapOf kv (l ++ [(a, v)]))))) : Gets (H.mapPut P t (.map i) (kv a) v) A := by
  refine ⟨⟨_, ?_, hA⟩⟩
  simp only [AHeap.mapPut, ht, hf, mput]
  rw [if_pos (hk.fits a), (mfind_of hk a l 0).1 hg]
  simp [mapOf]
/-- A set, as a map to true. -/
def setOf (l : List α) : List (α × AVal) := l.map fun a => (a, .bool true)
theorem setOf_append {β : Type} (l : List β) (a : β) : setOf l ++ [(a, .bool true)] = setOf (l ++ [a]) := by simp [setOf]
theorem aget_set (l : List α) (a : α) : aget (setOf l) a = if a ∈ l then some (.bool true) else none := by
  induction l with
  | nil => rfl
  | cons b l ih =>
    simp only [setOf, List.map_cons, aget, List.mem_cons] at *
    by_cases h : a = b
    · simp [h]
    · simp only [ih, h, false_or, if_false]
theorem Gets.setNo {H : AHeap} {t : TypeId} {i : Nat} {kk : KeyK} {kv : α → AVal} (hk : KeyOk kk kv) {l : List α} {a : α} {A : AVal → Prop} (ht : mapT P t = some (kk, .bool false)) (hf : H.f i = .map (mapOf kv (setOf l))) (hg : a ∉ l) (hA : A (.bool false)) : Gets (alookup P H t (.map i) (kv a) false) A :=
  Gets.look0 hk ht hf (by rw [aget_set, if_neg hg]) hA
theorem Gets.setYes {H : AHeap} {t : TypeId} {i : Nat} {kk : KeyK} {kv : α → AVal} (hk : KeyOk kk kv) {l : List α} {a : α} {A : AVal → Prop} (ht : mapT P t = some (kk, .bool false)) (hf : H.f i = .map (mapOf kv (setOf l))) (hg : a ∈ l) (hA : A (.bool true)) : Gets (alookup P H t (.map i) (kv a) false) A :=
  Gets.look1 hk ht hf (by rw [aget_set, if_pos hg]) hA
theorem Gets.setPut {H : AHeap} {t : TypeId} {i : Nat} {kk : KeyK} {kv : α → AVal} (hk : KeyOk kk kv) {l : List α} {a : α} {A : AHeap → Prop} (ht : mapT P t = some (kk, .bool false)) (hf : H.f i = .map (mapOf kv (setOf l))) (hg : a ∉ l) (hA : A (H.set i (.map (mapOf kv (setOf (l ++ [a])))))) : Gets (H.mapPut P t (.map i) (kv a) (.bool true)) A :=
  Gets.put0 hk ht hf (by rw [aget_set, if_neg hg]) (by rw [setOf_append]; exact hA)
theorem renM_mapOf {kk : KeyK} {kv : α → AVal} (hk : KeyOk kk kv) (κ : Nat → Nat) (l : List (α × AVal)) (h : ∀ p ∈ l, ren κ p.2 = p.2) : renM κ (mapOf kv l) = mapOf kv l := by
  induction l with
  | nil => rfl
  | cons p l ih =>
    show (ren κ (kv p.1), ren κ p.2) :: renM κ (mapOf kv l) = _
    rw [hk.sc, h p List.mem_cons_self, ih fun q hq => h q (List.mem_cons_of_mem _ hq)]
    rfl
theorem renM_set {kk : KeyK} {kv : α → AVal} (hk : KeyOk kk kv) (κ : Nat → Nat) (l : List α) : renM κ (mapOf kv (setOf l)) = mapOf kv (setOf l) := renM_mapOf hk κ _ (by
  intro p hp
  simp only [setOf, List.mem_map] at hp
  obtain ⟨a, _, rfl⟩ := hp
  rfl)
theorem _root_.Go.Vh.BSub.mapS {κ : Nat → Nat} {kk : KeyK} {kv : α → AVal} (hk : KeyOk kk kv) {l l' : List α} (h : l = l') : BSub κ (.map (mapOf kv (setOf l))) (.map (mapOf kv (setOf l'))) := by
  subst h; exact .same (by rw [renB, renM_set hk])
theorem _root_.Go.Vh.BSub.mapSr {κ κ' : Nat → Nat} {kk : KeyK} {kv : α → AVal} (hk : KeyOk kk kv) {l l' : List α} (h : l = l') : BSub κ (.map (mapOf kv (setOf l))) (.map (renM κ' (mapOf kv (setOf l')))) := by
  rw [renM_set hk]; exact .mapS hk h
/-! ### Natural numbers -/
def nats (l : List Nat) : List AVal := ints (l.map fun n : Nat => (n : Int))
theorem nats_length (l : List Nat) : (nats l).length = l.length := by simp [nats, ints]
theorem getD_nat {l : List Nat} {j : Nat} : (l.map fun n : Nat => (n : Int)).getD j 0 = ((l.getD j 0 : Nat) : Int) := by
  simp only [List.getD_eq_getElem?_getD, List.getElem?_map]
  cases l[j]? <;> rfl
theorem Gets.ldNat {H : AHeap} {t : TypeId} {i off : Nat} {l : List Nat} {A : AVal → Prop} (ht : tinfo P t = some tiI) (hf : (H.f i).cs = nats l) (h : off < l.length) (hA : A (.int .i64 ((l.getD off 0 : Nat) : Int))) : Gets (loadA P H t (.ptr i off)) A :=
  Gets.ldI ht hf (by rw [List.length_map]; exact h) (by rw [getD_nat]; exact hA)
theorem Gets.appNat {H : AHeap} {t tx : TypeId} {ti : TI} {d : TypeDesc} {i j m : Nat} {l : List Nat} {x : Nat} {A : AVal × AHeap → Prop} (ht : sliceT P t = some ti) (hd : P.underlying tx = some d) (hr : rowD d = true) (hsz : ti.size = 1) (hz : ti.zero.length = 1) (hb : ti.bytes ≤ 4096)
    (hi : H.f i = .cells 1 (nats l)) (hx : H.f j = .cells 1 [.int .i64 (x : Int)]) (hl : m = l.length) (hm : m < 4294967296) (hA : A (.slice H.n 0 (m + 1), (H.set i .dead).alloc (.cells 1 (nats (l ++ [x]))))) :
    Gets (builtA P H .append [t, tx] [.slice i 0 m, .slice j 0 1]) A :=
  Gets.appI1 ht hd hr hsz hz hb hi hx (by rw [List.length_map]; exact hl) hm (by
    have : ints ((l.map fun n : Nat => (n : Int)) ++ [(x : Int)]) = nats (l ++ [x]) := by simp [nats]
    rw [this]; exact hA)
theorem _root_.Go.Vh.BSub.cellsN {κ : Nat → Nat} {es : Nat} {l l' : List Nat} (h : l = l') : BSub κ (.cells es (nats l)) (.cells es (nats l')) := by subst h; exact .cellsI
theorem _root_.Go.Vh.BSub.cellsNr {κ κ' : Nat → Nat} {es : Nat} {l l' : List Nat} (h : l = l') : BSub κ (.cells es (nats l)) (.cells es (rens κ' (nats l'))) := by subst h; exact .cellsIr
theorem verLt {a v k m : Nat} (h : a = v + k) (hk : Nat.blt k m = true) : a < v + m := by
  have := Nat.le_of_ble_eq_true hk
  omega
theorem Gets.shlI {k' : IntKind} {x : Int} {A : AVal → Prop} (h0 : 0 ≤ x) (h : x < 63) (hA : A (.int .i64 ((2 ^ x.toNat : Nat) : Int))) : Gets (abin .shl (.int .i64 1) (.int k' x)) A := by
  obtain ⟨n, rfl⟩ := Int.eq_ofNat_of_zero_le h0
  exact Gets.shlN (by omega) hA
theorem Gets.ld1 {H : AHeap} {t : TypeId} {ti : TI} {i : Nat} {v : AVal} {A : AVal → Prop} (ht : tinfo P t = some ti) (hag : ti.agg = false) (hf : (H.f i).cs = [v]) (hA : A v) : Gets (loadA P H t (.ptr i 0)) A :=
  Gets.loadAt (j := 0) ht hag rfl (by rw [hf]; rfl) hA
theorem live_of_cs {b : ABlk} {v : AVal} {l : List AVal} (h : b.cs = v :: l) : b.live := by
  cases b with
  | dead => cases h
  | ro es cs => exact fun he => by rw [show cs = v :: l from h] at he; cases he
  | _ => trivial
theorem live_of_ints {b : ABlk} {l : List Int} (h : b.cs = ints l) (hl : 0 < l.length) : b.live := by
  cases l with
  | nil => exact absurd hl (by simp)
  | cons x l => exact live_of_cs (v := .int .i64 x) (l := ints l) h
/-! ### Slices that may be nil -/
def AsView (H : AHeap) (v : AVal) (i n : Nat) : Prop := v = .view i 0 n ∨ v = .slice i 0 n ∨ (v = .nilSlice ∧ n = 0 ∧ i < H.n)
theorem AsView.rel {H : AHeap} {v : AVal} {i n : Nat} (h : AsView H v i n) {φ : PMap} {w : World} (hR : Rel φ H w) {c : Value} (hv : VRel φ v c) : VRel φ (.view i 0 n) c := by
  rcases h with rfl | rfl | ⟨rfl, rfl, hi⟩
  · exact hv
  · exact VRel_sv hv
  · obtain ⟨b, hb⟩ := hR.has i hi
    exact VRel_nv hb hv
theorem _root_.Go.Vh.CallW.arg1 {f : FuncId} {v : AVal} {i n : Nat} {rest : List AVal} {H : AHeap} {K : AVal → AHeap → Prop} (h : CallW P f (.view i 0 n :: rest) H K) (ha : AsView H v i n) : CallW P f (v :: rest) H K :=
  h.views fun φ w cs hR hv => by
    cases cs with
    | nil => simp [VRels] at hv
    | cons c cs => exact VRels_cons.2 ⟨ha.rel hR (VRels_cons.1 hv).1, (VRels_cons.1 hv).2⟩
theorem _root_.Go.Vh.CallW.arg2 {f : FuncId} {u v : AVal} {i n : Nat} {rest : List AVal} {H : AHeap} {K : AVal → AHeap → Prop} (h : CallW P f (u :: .view i 0 n :: rest) H K) (ha : AsView H v i n) : CallW P f (u :: v :: rest) H K :=
  h.views fun φ w cs hR hv => by
    cases cs with
    | nil => simp [VRels] at hv
    | cons c cs => cases cs with
      | nil => have := VRels_length hv; simp at this
      | cons c' cs =>
        have h1 := VRels_cons.1 hv
        have h2 := VRels_cons.1 h1.2
        exact VRels_cons.2 ⟨h1.1, VRels_cons.2 ⟨ha.rel hR h2.1, h2.2⟩⟩
/-- One value says no less than another. -/
def Tells (G : AHeap) (v u : AVal) : Prop := ∀ (φ : PMap) (w : World) (c : Value), Rel φ G w → VRel φ v c → VRel φ u c
theorem Tells.refl (G : AHeap) (v : AVal) : Tells G v v := fun _ _ _ _ h => h
theorem AsView.tells {H : AHeap} {v : AVal} {i n : Nat} (h : AsView H v i n) : Tells H v (.view i 0 n) := fun _ _ _ hR hv => h.rel hR hv
inductive TellsL (G : AHeap) : List AVal → List AVal → Prop
  | nil : TellsL G [] []
  | cons {v u : AVal} {vs us : List AVal} : Tells G v u → TellsL G vs us → TellsL G (v :: vs) (u :: us)
theorem TellsL.rels {G : AHeap} {vs us : List AVal} (h : TellsL G vs us) {φ : PMap} {w : World} (hR : Rel φ G w) : ∀ {cs : List Value}, VRels φ vs cs → VRels φ us cs := by
  induction h with
  | nil => exact fun h => h
  | cons h1 _ ih =>
    intro cs hv
    cases cs with
    | nil => simp [VRels] at hv
    | cons c cs => exact VRels_cons.2 ⟨h1 _ _ _ hR (VRels_cons.1 hv).1, ih (VRels_cons.1 hv).2⟩
theorem Tells.tup {G : AHeap} {vs us : List AVal} (h : TellsL G vs us) : Tells G (.tuple vs) (.tuple us) := by
  rintro φ w c hR ⟨cs, rfl, hv⟩
  exact ⟨cs, rfl, h.rels hR hv⟩
theorem Tells.agg {G : AHeap} {vs us : List AVal} (h : TellsL G vs us) : Tells G (.agg vs) (.agg us) := by
  rintro φ w c hR ⟨cs, rfl, hv⟩
  exact ⟨cs, rfl, h.rels hR hv⟩
theorem _root_.Go.Vh.CallW.tells {f : FuncId} {args : List AVal} {H : AHeap} {K : AVal → AHeap → Prop} (h : CallW P f args H fun v G => ∃ u, K u G ∧ Tells G v u) : CallW P f args H K :=
  h.rviews fun v G ⟨u, hk, ht⟩ => ⟨u, hk, ht⟩
/-- A row that may not be there. -/
def oNB : List Nat → ABlk
  | [] => .dead
  | x :: l => .cells 1 (nats (x :: l))
def oN (k : Nat) : List Nat → AVal
  | [] => .nilSlice
  | x :: l => .slice k 0 (x :: l).length
theorem oNB_cs {l : List Nat} (h : l ≠ []) : (oNB l).cs = nats l := by cases l with | nil => exact absurd rfl h | cons x l => rfl
theorem oN_view {H : AHeap} {k : Nat} (l : List Nat) (hk : k < H.n) : AsView H (oN k l) k l.length := by
  cases l with
  | nil => exact .inr (.inr ⟨rfl, rfl, hk⟩)
  | cons x l => exact .inr (.inl rfl)
def oPB : List (Int × Int) → ABlk
  | [] => .dead
  | x :: l => .cells 2 (ints (pflat (x :: l)))
def oP (k : Nat) : List (Int × Int) → AVal
  | [] => .nilSlice
  | x :: l => .slice k 0 (x :: l).length
theorem oPB_cs {l : List (Int × Int)} (h : l ≠ []) : (oPB l).cs = ints (pflat l) := by cases l with | nil => exact absurd rfl h | cons x l => rfl
theorem oP_view {H : AHeap} {k : Nat} (l : List (Int × Int)) (hk : k < H.n) : AsView H (oP k l) k l.length := by
  cases l with
  | nil => exact .inr (.inr ⟨rfl, rfl, hk⟩)
  | cons x l => exact .inr (.inl rfl)
theorem _root_.Go.Vh.BSub.toO {κ κ' : Nat → Nat} {l : List Nat} : BSub κ (oNB l) (.cells 1 (rens κ' (nats l))) := by
  cases l with
  | nil => exact .gone
  | cons x l => exact .cellsNr rfl
theorem _root_.Go.Vh.BSub.toOP {κ κ' : Nat → Nat} {l : List (Int × Int)} : BSub κ (oPB l) (.cells 2 (rens κ' (ints (pflat l)))) := by
  cases l with
  | nil => exact .gone
  | cons x l => exact .cellsIr
theorem pflat_pos {l : List (Int × Int)} (h : 0 < l.length) : 0 < (pflat l).length := by rw [pflat_length]; omega
theorem fresh_oN (l : List Nat) : freshB (oNB l) = true := by cases l <;> rfl
theorem fresh_oP (l : List (Int × Int)) : freshB (oPB l) = true := by cases l <;> rfl
/-- A row to be read, of which nothing is said where it is empty. -/
def roO : List Int → ABlk
  | [] => .dead
  | x :: l => .ro 1 (ints (x :: l))
theorem roO_cs {l : List Int} (h : l ≠ []) : (roO l).cs = ints l := by cases l with | nil => exact absurd rfl h | cons x l => rfl
theorem roO_rw (l : List Int) : (roO l).rwB = false := by cases l <;> rfl
def roOP : List (Int × Int) → ABlk
  | [] => .dead
  | x :: l => .ro 2 (ints (pflat (x :: l)))
theorem roOP_cs {l : List (Int × Int)} (h : l ≠ []) : (roOP l).cs = ints (pflat l) := by cases l with | nil => exact absurd rfl h | cons x l => rfl
theorem roOP_rw (l : List (Int × Int)) : (roOP l).rwB = false := by cases l <;> rfl
theorem _root_.Go.Vh.BSub.roN {κ κ' : Nat → Nat} {l : List Nat} : BSub κ (roO (l.map fun n : Nat => (n : Int))) (renB κ' (oNB l)) := by
  cases l with
  | nil => exact .gone
  | cons x l => exact .inr (.inr ⟨1, _, rfl, by show ABlk.cells 1 (rens κ' (ints _)) = .cells 1 (rens κ (ints _)); rw [rens_ints, rens_ints]; rfl⟩)
theorem _root_.Go.Vh.BSub.roP {κ κ' : Nat → Nat} {l : List (Int × Int)} : BSub κ (roOP l) (renB κ' (oPB l)) := by
  cases l with
  | nil => exact .gone
  | cons x l => exact .inr (.inr ⟨2, _, rfl, by show ABlk.cells 2 (rens κ' (ints _)) = .cells 2 (rens κ (ints _)); rw [rens_ints, rens_ints]⟩)
/-- What has been seen. -/
def seenL (B : Nat) (l : List Nat) : List Bool := (List.range B).map fun t => decide (t ∈ l)
theorem seenL_length (B : Nat) (l : List Nat) : (seenL B l).length = B := by simp [seenL]
theorem seenL_getD {B t : Nat} {l : List Nat} (h : t < B) : (seenL B l).getD t false = decide (t ∈ l) := by
  rw [List.getD_eq_getElem?_getD, seenL, List.getElem?_map, List.getElem?_range h]; rfl
theorem seenL_set {B t : Nat} {l : List Nat} : (seenL B l).set t true = seenL B (l ++ [t]) := by
  refine List.ext_getElem? fun i => ?_
  rw [List.getElem?_set, seenL_length]
  unfold seenL
  rw [List.getElem?_map, List.getElem?_map]
  rcases Nat.lt_or_ge i B with h | h
  · rw [List.getElem?_range h]
    by_cases hit : t = i
    · subst hit; simp [h]
    · have : ¬ i = t := fun e => hit e.symm
      simp [hit, this]
  · rw [List.getElem?_eq_none (by simpa using h)]
    simp only [Option.map_none, ite_eq_right_iff]
    intro hit
    subst hit
    intro h2
    omega
theorem seenL_zero (B : Nat) : (List.replicate B false) = seenL B [] := by
  refine List.ext_getElem? fun i => ?_
  unfold seenL
  rw [List.getElem?_map, List.getElem?_replicate]
  rcases Nat.lt_or_ge i B with h | h
  · rw [List.getElem?_range h]; simp [h]
  · rw [List.getElem?_eq_none (by simpa using h)]; simp; omega
theorem Gets.ldSeenY {H : AHeap} {t : TypeId} {i off B : Nat} {l : List Nat} {A : AVal → Prop} (ht : tinfo P t = some tiB) (hf : (H.f i).cs = bls (seenL B l)) (h : off < B) (hm : off ∈ l) (hA : A (.bool true)) : Gets (loadA P H t (.ptr i off)) A :=
  Gets.ldB ht hf (by rw [seenL_length]; exact h) (by rw [seenL_getD h, decide_eq_true hm]; exact hA)
theorem Gets.ldSeenN {H : AHeap} {t : TypeId} {i off B : Nat} {l : List Nat} {A : AVal → Prop} (ht : tinfo P t = some tiB) (hf : (H.f i).cs = bls (seenL B l)) (h : off < B) (hm : off ∉ l) (hA : A (.bool false)) : Gets (loadA P H t (.ptr i off)) A :=
  Gets.ldB ht hf (by rw [seenL_length]; exact h) (by rw [seenL_getD h, decide_eq_false hm]; exact hA)
theorem Gets.stSeen {H : AHeap} {t : TypeId} {i off es B : Nat} {l : List Nat} {A : AHeap → Prop} (ht : tinfo P t = some tiB) (hf : H.f i = .cells es (bls (seenL B l))) (h : off < B) (hA : A (H.set i (.cells es (bls (seenL B (l ++ [off])))))) : Gets (storeA P H t (.ptr i off) (.bool true)) A :=
  Gets.stB ht hf (by rw [seenL_length]; exact h) (by rw [seenL_set]; exact hA)
/-! ### Searches -/
def ins (l : List Nat) (t : Nat) : List Nat := if t ∈ l then l else l ++ [t]
def insN (f : Nat → Nat) (l : List Nat) : Nat → List Nat
  | 0 => l
  | n + 1 => ins (insN f l n) (f n)
/-- A search, breadth first, behind so many steps. -/
def bfs (f : Nat → Nat → Nat) (m : Nat) : Nat → List Nat
  | 0 => [0]
  | k + 1 => if k < (bfs f m k).length then insN (fun i => f i ((bfs f m k).getD k 0)) (bfs f m k) m else bfs f m k
theorem ins_nodup {l : List Nat} {t : Nat} (h : l.Nodup) : (ins l t).Nodup := by
  unfold ins
  split
  · exact h
  · rename_i ht
    rw [List.nodup_append]
    exact ⟨h, by simp, fun a ha b hb => by rintro rfl; simp at hb; subst hb; exact ht ha⟩
theorem ins_mem {l : List Nat} {t x : Nat} : x ∈ ins l t ↔ x ∈ l ∨ x = t := by
  unfold ins
  split
  · rename_i h
    exact ⟨.inl, fun h' => h'.elim (fun x => x) (fun e => e ▸ h)⟩
  · simp
theorem insN_nodup {f : Nat → Nat} {l : List Nat} (h : l.Nodup) : ∀ n, (insN f l n).Nodup
  | 0 => h
  | n + 1 => ins_nodup (insN_nodup h n)
theorem insN_mem {f : Nat → Nat} {l : List Nat} {x : Nat} : ∀ n, x ∈ insN f l n ↔ x ∈ l ∨ ∃ i, i < n ∧ x = f i
  | 0 => by simp [insN]
  | n + 1 => by
    rw [insN, ins_mem, insN_mem n]
    constructor
    · rintro ((h | ⟨i, h1, h2⟩) | h)
      · exact .inl h
      · exact .inr ⟨i, by omega, h2⟩
      · exact .inr ⟨n, by omega, h⟩
    · rintro (h | ⟨i, h1, h2⟩)
      · exact .inl (.inl h)
      · rcases Nat.lt_or_ge i n with h3 | h3
        · exact .inl (.inr ⟨i, h3, h2⟩)
        · obtain rfl : i = n := by omega
          exact .inr h2
theorem ins_len (l : List Nat) (t : Nat) : l.length ≤ (ins l t).length := by
  unfold ins
  split
  · exact Nat.le_refl _
  · simp
theorem insN_len (f : Nat → Nat) (l : List Nat) : ∀ n, l.length ≤ (insN f l n).length
  | 0 => Nat.le_refl _
  | n + 1 => Nat.le_trans (insN_len f l n) (ins_len _ _)
theorem ins_pre (l : List Nat) (t : Nat) : ∃ m, ins l t = l ++ m := by
  unfold ins
  split
  · exact ⟨[], by simp⟩
  · exact ⟨[t], rfl⟩
theorem insN_pre (f : Nat → Nat) (l : List Nat) : ∀ n, ∃ m, insN f l n = l ++ m
  | 0 => ⟨[], by simp [insN]⟩
  | n + 1 => by
    obtain ⟨m, h⟩ := insN_pre f l n
    obtain ⟨m', h'⟩ := ins_pre (insN f l n) (f n)
    exact ⟨m ++ m', by rw [insN, h', h, List.append_assoc]⟩
theorem insN_getD {f : Nat → Nat} {l : List Nat} {k n : Nat} (h : k < l.length) : (insN f l n).getD k 0 = l.getD k 0 := by
  obtain ⟨m, hm⟩ := insN_pre f l n
  rw [hm, List.getD_eq_getElem?_getD, List.getD_eq_getElem?_getD, List.getElem?_append_left h]
theorem bfs_nodup (f : Nat → Nat → Nat) (m : Nat) : ∀ k, (bfs f m k).Nodup
  | 0 => by simp [bfs]
  | k + 1 => by
    unfold bfs
    split
    · exact insN_nodup (bfs_nodup f m k) m
    · exact bfs_nodup f m k
theorem bfs_lt {f : Nat → Nat → Nat} {m B : Nat} (h0 : 0 < B) (h : ∀ i s, f i s < B) : ∀ k, ∀ x ∈ bfs f m k, x < B
  | 0 => by simp [bfs]; exact h0
  | k + 1 => by
    intro x hx
    unfold bfs at hx
    split at hx
    · rcases (insN_mem m).1 hx with h1 | ⟨i, _, rfl⟩
      · exact bfs_lt h0 h k x h1
      · exact h _ _
    · exact bfs_lt h0 h k x hx
theorem nodup_length_le : ∀ (B : Nat) (l : List Nat), l.Nodup → (∀ x ∈ l, x < B) → l.length ≤ B
  | 0, l, hd, h => by
    cases l with
    | nil => simp
    | cons x l => exact absurd (h x List.mem_cons_self) (by omega)
  | B + 1, l, hd, h => by
    by_cases hm : B ∈ l
    · have h1 := nodup_length_le B (l.erase B) (hd.erase B) fun x hx => by
        have := (List.Nodup.mem_erase_iff hd).1 hx
        have := h x this.2
        omega
      rw [List.length_erase_of_mem hm] at h1
      omega
    · have h1 := nodup_length_le B l hd fun x hx => by
        have h2 := h x hx
        have h3 : x ≠ B := fun e => hm (e ▸ hx)
        omega
      omega
theorem bfs_len {f : Nat → Nat → Nat} {m B : Nat} (h0 : 0 < B) (h : ∀ i s, f i s < B) (k : Nat) : (bfs f m k).length ≤ B := nodup_length_le B _ (bfs_nodup f m k) (bfs_lt h0 h k)
theorem bfs_stop {f : Nat → Nat → Nat} {m k : Nat} (h : (bfs f m k).length ≤ k) : ∀ j, k ≤ j → bfs f m j = bfs f m k := by
  intro j hj
  induction j with
  | zero => obtain rfl : k = 0 := by omega
            rfl
  | succ j ih =>
    rcases Nat.eq_or_lt_of_le hj with rfl | h1
    · rfl
    · have ih := ih (by omega)
      rw [bfs, if_neg (by rw [ih]; omega), ih]
end Go.Vk
