import Derived.Test.YtaccmanpanpbiaaVhZ
/- Maps from numbers to numbers. -/
set_option linter.unusedVariables false
set_option linter.unusedSimpArgs false
namespace Go.Vh
variable {P : Program}
/-- A map that says of each number of a list where it stands. -/
def ents (l : List Int) : List (AVal × AVal) := l.mapIdx fun i s => (.int .i64 s, .int .i64 (i : Int))
def entsFrom (i : Nat) : List Int → List (AVal × AVal)
  | [] => []
  | s :: l => (.int .i64 s, .int .i64 (i : Int)) :: entsFrom (i + 1) l
theorem ents_from : ∀ (l : List Int) (i : Nat), (l.mapIdx fun j s => ((.int .i64 s, .int .i64 ((i + j : Nat) : Int)) : AVal × AVal)) = entsFrom i l
  | [], i => rfl
  | s :: l, i => by
    rw [List.mapIdx_cons, entsFrom, ← ents_from l (i + 1)]
    congr 2
    funext j s
    rw [show i + (j + 1) = i + 1 + j by omega]
theorem ents_eq (l : List Int) : ents l = entsFrom 0 l := by
  rw [← ents_from l 0]
  simp [ents]
theorem mfind_miss {x : Int} : ∀ (l : List Int) (i n : Nat), x ∉ l → mfind (.scalar (.int .i64)) (.int .i64 x) (entsFrom i l) n = some none
  | [], i, n, _ => rfl
  | s :: l, i, n, h => by
    simp only [List.mem_cons, not_or] at h
    have hk : keyEq (.scalar (.int .i64)) (.int .i64 x) (.int .i64 s) = some (x == s) := rfl
    rw [entsFrom, mfind, hk, show (x == s) = false by simpa using h.1]
    exact mfind_miss l (i + 1) (n + 1) h.2
theorem mfind_hit {x : Int} : ∀ (l : List Int) (i n k : Nat), l[k]? = some x → (∀ j, j < k → l[j]? ≠ some x) → mfind (.scalar (.int .i64)) (.int .i64 x) (entsFrom i l) n = some (some (n + k, .int .i64 ((i + k : Nat) : Int)))
  | [], i, n, k, h, _ => by simp at h
  | s :: l, i, n, 0, h, _ => by
    have h : s = x := by simpa using h
    subst h
    have hk : keyEq (.scalar (.int .i64)) (.int .i64 s) (.int .i64 s) = some (s == s) := rfl
    rw [entsFrom, mfind, hk, show (s == s) = true by simp]
    rfl
  | s :: l, i, n, k + 1, h, hn => by
    have hs : s ≠ x := fun h' => hn 0 (by omega) (by rw [h']; rfl)
    have hk : keyEq (.scalar (.int .i64)) (.int .i64 x) (.int .i64 s) = some (x == s) := rfl
    rw [entsFrom, mfind, hk, show (x == s) = false by simpa using fun h' => hs h'.symm]
    have := mfind_hit l (i + 1) (n + 1) k h fun j hj => hn (j + 1) (by omega)
    rw [show n + (k + 1) = n + 1 + k by omega, show i + (k + 1) = i + 1 + k by omega]
    exact this
theorem ents_append (l : List Int) (x : Int) : ents (l ++ [x]) = ents l ++ [(.int .i64 x, .int .i64 (l.length : Int))] := by simp [ents]
theorem renM_from (κ : Nat → Nat) : ∀ (l : List Int) (i : Nat), renM κ (entsFrom i l) = entsFrom i l
  | [], i => rfl
  | s :: l, i => by
    have := renM_from κ l (i + 1)
    simp only [renM, entsFrom, List.map_cons, ren] at this ⊢
    rw [this]
theorem renM_ents (κ : Nat → Nat) (l : List Int) : renM κ (ents l) = ents l := by rw [ents_eq, renM_from]
theorem Gets.lookNo {H : AHeap} {t : TypeId} {i : Nat} {x : Int} {z : AVal} {l : List Int} {A : AVal → Prop} (ht : mapT P t = some (.scalar (.int .i64), z)) (hf : H.f i = .map (ents l)) (hx : x ∉ l) (hA : A (.tuple [z, .bool false])) : Gets (alookup P H t (.map i) (.int .i64 x) true) A := by
  refine ⟨⟨_, ?_, hA⟩⟩
  simp only [alookup, ht, AHeap.entries, hf]
  rw [ents_eq, mfind_miss l 0 0 hx]
  rfl
theorem Gets.lookYes {H : AHeap} {t : TypeId} {i k : Nat} {x : Int} {z : AVal} {l : List Int} {A : AVal → Prop} (ht : mapT P t = some (.scalar (.int .i64), z)) (hf : H.f i = .map (ents l)) (hx : l[k]? = some x) (hn : ∀ j, j < k → l[j]? ≠ some x) (hA : A (.tuple [.int .i64 k, .bool true])) : Gets (alookup P H t (.map i) (.int .i64 x) true) A := by
  refine ⟨⟨_, ?_, hA⟩⟩
  simp only [alookup, ht, AHeap.entries, hf]
  rw [ents_eq, mfind_hit l 0 0 k hx hn, Nat.zero_add]
  rfl
theorem Gets.putNew {H : AHeap} {t : TypeId} {i : Nat} {x y : Int} {z : AVal} {l : List Int} {A : AHeap → Prop} (ht : mapT P t = some (.scalar (.int .i64), z)) (hf : H.f i = .map (ents l)) (hx : x ∉ l) (hy : y = (l.length : Int)) (hA : A (H.set i (.map (ents (l ++ [x]))))) : Gets (H.mapPut P t (.map i) (.int .i64 x) (.int .i64 y)) A := by
  subst hy
  refine ⟨⟨_, ?_, hA⟩⟩
  simp only [AHeap.mapPut, ht, hf, mput]
  rw [if_pos (show keyFits (.scalar (.int .i64)) (.int .i64 x) = true from rfl), ents_append, ents_eq, mfind_miss l 0 0 hx]
  rfl
theorem first_at {x : Int} : ∀ (l : List Int), x ∈ l → ∃ k, k < l.length ∧ l[k]? = some x ∧ ∀ j, j < k → l[j]? ≠ some x
  | [], h => by cases h
  | s :: l, h => by
    by_cases hs : s = x
    · exact ⟨0, by simp, by simp [hs], fun j hj => absurd hj (Nat.not_lt_zero _)⟩
    · have h : x ∈ l := by
        rcases List.mem_cons.1 h with h | h
        · exact absurd h.symm hs
        · exact h
      obtain ⟨k, h1, h2, h3⟩ := first_at l h
      refine ⟨k + 1, by simp; omega, by simpa using h2, fun j hj => ?_⟩
      rcases j with _ | j
      · simpa using hs
      · simpa using h3 j (by omega)
/-- A row without its first elements. -/
theorem Gets.sliceLo {H : AHeap} {t e : TypeId} {ti : TI} {i n k : Nat} {cs : List AVal} {A : AVal → Prop} (hu : P.underlying t = some (.slice e)) (ht : sliceT P t = some ti) (hsz : ti.size = 1) (hf : H.f i = .cells 1 cs) (hk : k ≤ n) (hA : A (.slice i k (n - k))) : Gets (asliceV P H t (.slice i 0 n) (some (.int .i64 k)) none) A := by
  refine ⟨⟨_, ?_, hA⟩⟩
  simp only [asliceV, aslice, hu, ht, boundA, hf]
  rw [if_pos ⟨by omega, by omega, by omega, hsz.symm⟩]
  congr 2
  omega
/-! ### Rows of truth values -/
def bls (l : List Bool) : List AVal := l.map AVal.bool
theorem bls_length (l : List Bool) : (bls l).length = l.length := by simp [bls]
theorem bls_get (l : List Bool) (j : Nat) : (bls l)[j]? = (l[j]?).map AVal.bool := by simp [bls]
theorem rens_bls (κ : Nat → Nat) (l : List Bool) : rens κ (bls l) = bls l := by
  induction l with
  | nil => rfl
  | cons a l ih => simp only [bls, List.map_cons, rens, ren] at ih ⊢; rw [ih]
theorem bls_set (l : List Bool) (j : Nat) (b : Bool) : (bls l).set j (.bool b) = bls (l.set j b) := by simp [bls, List.map_set]
theorem bls_scalar (l : List Bool) : (bls l).all AVal.scalar = true := by simp [bls, AVal.scalar]
theorem BSub.cellsB {κ : Nat → Nat} {es : Nat} {l : List Bool} : BSub κ (.cells es (bls l)) (.cells es (bls l)) := .same (by rw [renB, rens_bls])
theorem bls_zeros (k n : Nat) (hk : 0 < k) : zerosA (List.replicate k (.bool false)) (n * k) = bls (List.replicate (n * k) false) := by
  apply List.ext_getElem?
  intro i
  simp only [zerosA, bls, List.getElem?_map, List.length_replicate, List.getElem?_replicate]
  by_cases h : i < n * k
  · rw [List.getElem?_range h, if_pos h, Option.map_some, Option.map_some, List.getD_eq_getElem?_getD, List.getElem?_replicate, if_pos (Nat.mod_lt _ hk)]
    rfl
  · rw [List.getElem?_eq_none (by simp; omega), if_neg h]
    rfl
/-- Rows of truth values, made anew. -/
theorem Gets.makeB {P : Program} {H : AHeap} {t : TypeId} {ti : TI} {k1 k2 : IntKind} {n : Int} {k : Nat} {A : AVal × AHeap → Prop} (ht : sliceT P t = some ti) (hz : ti.zero = List.replicate k (.bool false)) (hk : 0 < k) (hsz : ti.size = k) (hb : ti.bytes ≤ 4096) (h0 : 0 ≤ n) (h1 : n ≤ 4294967296)
    (hA : A (.slice H.n 0 n.toNat, H.alloc (.cells k (bls (List.replicate (n.toNat * k) false))))) : Gets (amakeSlice P H t (.int k1 n) (.int k2 n)) A := by
  refine ⟨⟨_, ?_, hA⟩⟩
  simp only [amakeSlice, ht, hsz]
  rw [if_pos ⟨h0, Int.le_refl _, h1, hb, by rw [hz, List.length_replicate]; omega⟩, hz, bls_zeros _ _ hk]
theorem Gets.loadB {P : Program} {H : AHeap} {t : TypeId} {ti : TI} {i off j : Nat} {b : Bool} {l : List Bool} {A : AVal → Prop} (ht : tinfo P t = some ti) (hag : ti.agg = false) (hf : (H.f i).cs = bls l) (ho : off = j) (hx : l[j]? = some b) (hA : A (.bool b)) : Gets (loadA P H t (.ptr i off)) A :=
  ⟨⟨_, by subst ho; simp only [loadA, ht, AHeap.load, hag, Bool.false_eq_true, if_false, hf, bls_get, hx, Option.map_some], hA⟩⟩
theorem Gets.storeB {P : Program} {H : AHeap} {t : TypeId} {ti : TI} {i off j es : Nat} {b : Bool} {l : List Bool} {A : AHeap → Prop} (ht : tinfo P t = some ti) (hsz : ti.size = 1) (hf : H.f i = .cells es (bls l)) (ho : off = j) (h : j < l.length) (hA : A (H.set i (.cells es (bls (l.set j b))))) : Gets (storeA P H t (.ptr i off) (.bool b)) A :=
  Gets.storeAt ht hsz rfl rfl hf ho (by rw [bls_length]; exact h) (by rw [bls_set]; exact hA)
/-- A whole array out of rows. -/
theorem Gets.loadArr {P : Program} {H : AHeap} {t : TypeId} {ti : TI} {i off j k : Nat} {l : List Bool} {A : AVal → Prop} (ht : tinfo P t = some ti) (hag : ti.agg = true) (hsz : ti.size = k) (hf : (H.f i).cs = bls l) (ho : off = j) (h : j + k ≤ l.length) (hA : A (.agg (bls ((l.drop j).take k)))) : Gets (loadA P H t (.ptr i off)) A := by
  subst ho
  refine ⟨⟨_, ?_, hA⟩⟩
  simp only [loadA, ht, AHeap.load, hag, if_true, hsz, hf, bls_length]
  rw [if_pos h]
  simp [bls, List.map_take, List.map_drop]
theorem seqL0_of {l : List AVal} {k : List AVal → Prop} (h : k l) : seqL0 l k := by rw [seqL0_eq]; exact h
/-- A part of an array. -/
theorem Gets.ixArr {P : Program} {t : TypeId} {e : TypeId} {i o n es : Nat} {k : IntKind} {j : Int} {A : AVal → Prop} (hu : P.underlying t = some (.array n e)) (hes : elemSize P t = some es) (h0 : 0 ≤ j) (h1 : j < n) (hA : A (.ptr i (o + j.toNat * es))) : Gets (ixA P t (.ptr i o) (.int k j)) A := by
  refine ⟨⟨_, ?_, hA⟩⟩
  have hl : arrayLen? P t = some n := by simp only [arrayLen?, hu]
  simp only [ixA, hu, aindexAddr, hes, hl]
  rw [if_pos ⟨h0, h1⟩]
/-- What an argument may be said to be. -/
theorem CallW.views {f : FuncId} {args args' : List AVal} {H : AHeap} {K : AVal → AHeap → Prop} (h : CallW P f args' H K) (hv : ∀ (φ : PMap) (w : World) (cs : List Value), Rel φ H w → VRels φ args cs → VRels φ args' cs) : CallW P f args H K :=
  fun φ w cargs hR ha => h φ w cargs hR (hv φ w _ hR ha)
/-! ### Rows of structs -/
theorem Gets.makeE {P : Program} {H : AHeap} {t : TypeId} {ti : TI} {k1 k2 : IntKind} {n : Int} {k : Nat} {A : AVal × AHeap → Prop} (ht : sliceT P t = some ti) (hz : ti.zero = List.replicate k (.int .i64 0)) (hk : 0 < k) (hsz : ti.size = k) (hb : ti.bytes ≤ 4096) (h0 : 0 ≤ n) (h1 : n ≤ 4294967296)
    (hA : A (.slice H.n 0 n.toNat, H.alloc (.cells k (ints (List.replicate (n.toNat * k) 0))))) : Gets (amakeSlice P H t (.int k1 n) (.int k2 n)) A := by
  refine ⟨⟨_, ?_, hA⟩⟩
  simp only [amakeSlice, ht, hsz]
  rw [if_pos ⟨h0, Int.le_refl _, h1, hb, by rw [hz, List.length_replicate]; omega⟩, hz]
  congr 4
  apply List.ext_getElem?
  intro i
  simp only [zerosA, ints, List.getElem?_map, List.length_replicate, List.getElem?_replicate]
  by_cases h : i < n.toNat * k
  · rw [List.getElem?_range h, if_pos h, Option.map_some, Option.map_some, List.getD_eq_getElem?_getD, List.getElem?_replicate, if_pos (Nat.mod_lt _ hk)]
    rfl
  · rw [List.getElem?_eq_none (by simp; omega), if_neg h]
    rfl
/-- A row that came in, copied over a row of its length. -/
theorem Gets.copyV {P : Program} {H : AHeap} {t tx : TypeId} {ti : TI} {i j n es : Nat} {l m : List Int} {A : AVal × AHeap → Prop} (ht : sliceT P t = some ti) (hsz : ti.size = es) (hi : H.f i = .cells es (ints m)) (hj : H.f j = .ro es (ints l)) (hl : l.length = n * es) (hm : m.length = n * es)
    (hA : A (.int .i64 (n : Int), H.set i (.cells es (ints l)))) : Gets (builtA P H .copy [t, tx] [.slice i 0 n, .view j 0 n]) A := by
  refine ⟨⟨_, ?_, hA⟩⟩
  have hsrc : srcA H es (.view j 0 n) = some (ints l, n) := by
    simp only [srcA, hj, ints_length, hl, List.drop_zero, Nat.zero_add, Nat.le_refl, and_self, if_true]
    rw [List.take_of_length_le (by rw [ints_length, hl]; exact Nat.le_refl _)]
  have htk : (ints l).take (min n n * es) = ints l := List.take_of_length_le (by rw [ints_length, hl, Nat.min_self]; exact Nat.le_refl _)
  simp only [builtA, apureB, amemB, acopy, ht, hsz, hsrc, hi, if_true, htk, AHeap.store, ints_length, hl, hm, Nat.zero_add, Nat.le_refl, true_and]
  have hsc : (ints l).all AVal.scalar = true := nums_scalar _ _
  rw [if_pos hsc, Option.map_some, Nat.min_self]
  congr 4
  rw [List.take_zero, List.nil_append, List.drop_eq_nil_of_le (by rw [ints_length, hm]; exact Nat.le_refl _), List.append_nil]
/-- One more element behind a row that is no nil. -/
theorem Gets.appendX {P : Program} {H : AHeap} {t tx : TypeId} {ti : TI} {d : TypeDesc} {i j es m : Nat} {r x : List Int} {A : AVal × AHeap → Prop} (ht : sliceT P t = some ti) (hd : P.underlying tx = some d) (hr : rowD d = true) (hsz : ti.size = es) (hz : ti.zero.length = es) (hb : ti.bytes ≤ 4096)
    (hxl : x.length = es) (hx : H.f j = .cells es (ints x)) (hf : H.f i = .cells es (ints r)) (hl : r.length = m * es) (hm : m < 4294967296)
    (hA : A (.slice H.n 0 (m + 1), (H.set i .dead).alloc (.cells es (ints (r ++ x))))) : Gets (builtA P H .append [t, tx] [.slice i 0 m, .slice j 0 1]) A := by
  refine ⟨⟨_, ?_, hA⟩⟩
  have hsrc : srcA H es (.slice j 0 1) = some (ints x, 1) := by
    simp only [srcA, hx, ints_length, hxl, List.drop_zero, Nat.zero_add, Nat.one_mul, Nat.le_refl, and_self, if_true]
    rw [List.take_of_length_le (by rw [ints_length, hxl]; exact Nat.le_refl _)]
  have hsc : (ints x).all AVal.scalar = true := nums_scalar _ _
  simp only [builtA, apureB, amemB, app2 hd hr, aappend, ht, hd]
  rw [if_pos ⟨hr, hb, by rw [hz, hsz]⟩, hsz, hsrc]
  simp only [hf, ints_length]
  rw [if_pos ⟨trivial, by rw [hl]; omega, by omega, hsc⟩]
  congr 4
  rw [List.drop_zero, List.take_of_length_le (by rw [ints_length, hl]; exact Nat.le_refl _)]
  simp [ints]
end Go.Vh
