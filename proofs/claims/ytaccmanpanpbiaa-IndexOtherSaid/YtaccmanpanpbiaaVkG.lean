import Derived.Test.YtaccmanpanpbiaaVkF
/- The smaller and the larger of two numbers, exclusive or; maps with numbers; circuits that a program has made as arguments. -/
set_option linter.unusedVariables false
set_option linter.unusedSimpArgs false
namespace Go.Vk
open Go.Vh
variable {P : Program}
theorem Gets.minN {H : AHeap} {ts : List TypeId} {a b : Nat} {A : AVal × AHeap → Prop} (hA : A (.int .i64 ((min a b : Nat) : Int), H)) : Gets (builtA P H .min ts [.int .i64 (a : Int), .int .i64 (b : Int)]) A := by
  refine ⟨⟨_, ?_, hA⟩⟩
  simp only [builtA, apureB, aminmax, if_true, amm]
  congr 4
  show (if (b : Int) < (a : Int) then (b : Int) else (a : Int)) = _
  split <;> omega
theorem Gets.maxN {H : AHeap} {ts : List TypeId} {a b : Nat} {A : AVal × AHeap → Prop} (hA : A (.int .i64 ((max a b : Nat) : Int), H)) : Gets (builtA P H .max ts [.int .i64 (a : Int), .int .i64 (b : Int)]) A := by
  refine ⟨⟨_, ?_, hA⟩⟩
  simp only [builtA, apureB, aminmax, if_true, amm]
  congr 4
  show (if (b : Int) > (a : Int) then (b : Int) else (a : Int)) = _
  split <;> omega
theorem Gets.minL {H : AHeap} {ts : List TypeId} {a b : Nat} {A : AVal × AHeap → Prop} (h : a ≤ b) (hA : A (.int .i64 (a : Int), H)) : Gets (builtA P H .min ts [.int .i64 (a : Int), .int .i64 (b : Int)]) A := Gets.minN (by rw [Nat.min_eq_left h]; exact hA)
theorem Gets.maxR {H : AHeap} {ts : List TypeId} {a b : Nat} {A : AVal × AHeap → Prop} (h : a ≤ b) (hA : A (.int .i64 (b : Int), H)) : Gets (builtA P H .max ts [.int .i64 (a : Int), .int .i64 (b : Int)]) A := Gets.maxN (by rw [Nat.max_eq_right h]; exact hA)
theorem xorI {m n : Nat} (hm : m < 2 ^ 63) (hn : n < 2 ^ 63) : bitsA .xor .i64 (m : Int) (n : Int) = ((m ^^^ n : Nat) : Int) := by
  have h3 : m ^^^ n < 2 ^ 63 := Nat.xor_lt_two_pow hm hn
  show IntKind.wrap .i64 (((BitVec.ofInt 64 (m : Int) ^^^ BitVec.ofInt 64 (n : Int)).toNat : Nat) : Int) = _
  have h1 : BitVec.ofInt 64 (m : Int) = BitVec.ofNat 64 m := by simp
  have h2 : BitVec.ofInt 64 (n : Int) = BitVec.ofNat 64 n := by simp
  rw [h1, h2, BitVec.toNat_xor, BitVec.toNat_ofNat, BitVec.toNat_ofNat, Nat.mod_eq_of_lt (by omega), Nat.mod_eq_of_lt (by omega)]
  exact wrap_i64n h3
theorem Gets.xorN {m n : Nat} {A : AVal → Prop} (hm : m < 2 ^ 63) (hn : n < 2 ^ 63) (hA : A (.int .i64 ((m ^^^ n : Nat) : Int))) : Gets (abin .xor (.int .i64 (m : Int)) (.int .i64 (n : Int))) A :=
  ⟨⟨_, rfl, by rw [xorI hm hn]; exact hA⟩⟩
theorem nats_set (l : List Nat) (j x : Nat) : (l.map fun n : Nat => (n : Int)).set j (x : Int) = (l.set j x).map fun n : Nat => (n : Int) := by rw [List.map_set]
theorem Gets.stNat {H : AHeap} {t : TypeId} {i off es : Nat} {x : Nat} {l : List Nat} {A : AHeap → Prop} (ht : tinfo P t = some tiI) (hf : H.f i = .cells es (nats l)) (h : off < l.length) (hA : A (H.set i (.cells es (nats (l.set off x))))) : Gets (storeA P H t (.ptr i off) (.int .i64 (x : Int))) A :=
  Gets.stI ht hf (by rw [List.length_map]; exact h) (by rw [nats_set]; exact hA)
theorem Gets.makeNat {H : AHeap} {t : TypeId} {ti : TI} {k1 k2 : IntKind} {n : Int} {A : AVal × AHeap → Prop} (ht : sliceT P t = some ti) (hz : ti.zero = [.int .i64 0]) (hsz : ti.size = 1) (hb : ti.bytes ≤ 4096) (h0 : 0 ≤ n) (h1 : n ≤ 4294967296)
    (hA : A (.slice H.n 0 n.toNat, H.alloc (.cells 1 (nats (List.replicate n.toNat 0))))) : Gets (amakeSlice P H t (.int k1 n) (.int k2 n)) A :=
  Gets.makeE (k := 1) ht hz (by decide) hsz hb h0 h1 (by
    have : ints (List.replicate (n.toNat * 1) 0) = nats (List.replicate n.toNat 0) := by
      rw [Nat.mul_one, nats, List.map_replicate]; rfl
    rw [this]; exact hA)
/-- A row of numbers below n, of which the first j are told by f, the others are 0. -/
def upTo (f : Nat → Nat) (n j : Nat) : List Nat := (List.range n).map fun v => if v < j then f v else 0
theorem upTo_length (f : Nat → Nat) (n j : Nat) : (upTo f n j).length = n := by simp [upTo]
theorem upTo_zero (f : Nat → Nat) (n : Nat) : List.replicate n 0 = upTo f n 0 := by
  refine List.ext_getElem (by simp [upTo]) fun i h1 h2 => ?_
  simp [upTo]
theorem upTo_set (f : Nat → Nat) (n j : Nat) : (upTo f n j).set j (f j) = upTo f n (j + 1) := by
  refine List.ext_getElem (by simp [upTo]) fun i h1 h2 => ?_
  rw [List.getElem_set]
  simp only [upTo, List.getElem_map, List.getElem_range]
  split
  · rename_i h; subst h; rw [if_pos (by omega)]
  · rename_i h
    by_cases hi : i < j
    · rw [if_pos hi, if_pos (by omega)]
    · rw [if_neg hi, if_neg (by omega)]
theorem upTo_all (f : Nat → Nat) (n : Nat) : upTo f n n = (List.range n).map f := by
  refine List.map_congr_left fun v hv => ?_
  rw [if_pos (List.mem_range.1 hv)]
/-! ### Arguments told otherwise -/
/-- Arguments that say no less than those for which it was shown. -/
theorem _root_.Go.Vh.CallW.argsT {f : FuncId} {us vs : List AVal} {H : AHeap} {K : AVal → AHeap → Prop} (h : CallW P f us H K) (ht : TellsL H vs us) : CallW P f vs H K :=
  h.views fun φ w cs hR hv => ht.rels hR hv
theorem Tells.nilView {H : AHeap} {i : Nat} (hi : Nat.blt i H.n = true) : Tells H .nilSlice (.view i 0 0) :=
  AsView.tells (.inr (.inr ⟨rfl, rfl, Nat.le_of_ble_eq_true hi⟩))
theorem Tells.sliceView {H : AHeap} {i n : Nat} : Tells H (.slice i 0 n) (.view i 0 n) := AsView.tells (.inr (.inl rfl))
theorem ren_oP (κ : Nat → Nat) (k : Nat) (l : List (Int × Int)) : ren κ (oP k l) = oP (κ k) l := by cases l <;> rfl
theorem ren_oI (κ : Nat → Nat) (k : Nat) (l : List Int) : ren κ (oI k l) = oI (κ k) l := by cases l <;> rfl
theorem ren_oN (κ : Nat → Nat) (k : Nat) (l : List Nat) : ren κ (oN k l) = oN (κ k) l := by cases l <;> rfl
theorem renB_oPB (κ : Nat → Nat) (l : List (Int × Int)) : renB κ (oPB l) = oPB l := by
  cases l with
  | nil => rfl
  | cons x l => show ABlk.cells 2 (rens κ (ints _)) = _; rw [rens_ints]; rfl
theorem renB_oIB (κ : Nat → Nat) (l : List Int) : renB κ (oIB l) = oIB l := by
  cases l with
  | nil => rfl
  | cons x l => show ABlk.cells 1 (rens κ (ints _)) = _; rw [rens_ints]; rfl
theorem renB_oNB (κ : Nat → Nat) (l : List Nat) : renB κ (oNB l) = oNB l := by
  cases l with
  | nil => rfl
  | cons x l => show ABlk.cells 1 (rens κ (ints _)) = _; rw [rens_ints]; rfl
theorem oI_sc {k : Nat} {l : List Int} : (oI k l).scalar = true := by cases l <;> rfl
theorem oP_sc {k : Nat} {l : List (Int × Int)} : (oP k l).scalar = true := by cases l <;> rfl
theorem oN_sc {k : Nat} {l : List Nat} : (oN k l).scalar = true := by cases l <;> rfl
theorem Gets.stA {H : AHeap} {t : TypeId} {i off es : Nat} {cs l : List AVal} {ti : TI} {A : AHeap → Prop} (ht : tinfo P t = some ti) (hl : Nat.beq l.length ti.size = true) (hf : H.f i = .cells es cs) (hle : Nat.ble (off + l.length) cs.length = true) (hs : l.all AVal.scalar = true) (hA : A (H.set i (.cells es (cs.take off ++ l ++ cs.drop (off + l.length))))) : Gets (storeA P H t (.ptr i off) (.agg l)) A := by
  refine ⟨⟨_, ?_, hA⟩⟩
  simp only [storeA, AVal.cells, ht, AHeap.store, hf]
  rw [if_pos (Nat.eq_of_beq_eq_true hl), if_pos ⟨Nat.le_of_ble_eq_true hle, hs⟩]
theorem Gets.stS {H : AHeap} {t : TypeId} {i off es : Nat} {cs : List AVal} {v : AVal} {ti : TI} {A : AHeap → Prop} (ht : tinfo P t = some ti) (hl : ti.size = 1) (hf : H.f i = .cells es cs) (hle : Nat.ble (off + 1) cs.length = true) (hv : v.cells = some [v]) (hs : v.scalar = true) (hA : A (H.set i (.cells es (cs.take off ++ [v] ++ cs.drop (off + 1))))) : Gets (storeA P H t (.ptr i off) v) A := by
  refine ⟨⟨_, ?_, hA⟩⟩
  simp only [storeA, hv, ht, AHeap.store, hf]
  rw [if_pos (by rw [hl]; rfl), if_pos ⟨Nat.le_of_ble_eq_true hle, by simp [hs]⟩]
  rfl
/-! ### Maps from pairs to numbers, counted on -/
def entsF (m : Nat) : List (Int × Int) → List ((Int × Int) × AVal)
  | [] => []
  | g :: gs => (g, .int .i64 ((2 * m : Nat) : Int)) :: entsF (m + 1) gs
theorem aget_ents : ∀ (gs : List (Int × Int)) (m : Nat) (a : Int × Int), aget (entsF m gs) a = if a ∈ gs then some (.int .i64 ((2 * (m + gs.idxOf a) : Nat) : Int)) else none
  | [], m, a => rfl
  | g :: gs, m, a => by
    rw [entsF, aget, aget_ents gs]
    by_cases h : a = g
    · subst h
      simp
    · have h' : ¬ g = a := fun e => h e.symm
      rw [if_neg h, List.idxOf_cons]
      simp only [List.mem_cons, h, false_or]
      split
      · rw [beq_eq_false_iff_ne.2 h', cond_false, show m + 1 + gs.idxOf a = m + (gs.idxOf a + 1) by omega]
      · rfl
theorem entsF_append : ∀ (gs : List (Int × Int)) (m : Nat) (g : Int × Int), entsF m (gs ++ [g]) = entsF m gs ++ [(g, .int .i64 ((2 * (m + gs.length) : Nat) : Int))]
  | [], m, g => rfl
  | x :: gs, m, g => by
    show (x, _) :: entsF (m + 1) (gs ++ [g]) = (x, _) :: (entsF (m + 1) gs ++ _)
    rw [entsF_append gs, List.length_cons, show m + 1 + gs.length = m + (gs.length + 1) by omega]
theorem ents_ren (κ : Nat → Nat) (m : Nat) (gs : List (Int × Int)) : renM κ (mapOf kvP (entsF m gs)) = mapOf kvP (entsF m gs) := by
  refine renM_mapOf keyP κ _ ?_
  induction gs generalizing m with
  | nil => intro p hp; cases hp
  | cons g gs ih =>
    intro p hp
    rcases List.mem_cons.1 hp with rfl | hp
    · rfl
    · exact ih (m + 1) p hp
theorem Gets.putEnt {H : AHeap} {t : TypeId} {i m : Nat} {z : AVal} {gs : List (Int × Int)} {g : Int × Int} {v : Int} {A : AHeap → Prop} (ht : mapT P t = some (kkP, z)) (hf : H.f i = .map (mapOf kvP (entsF m gs))) (hg : g ∉ gs) (hv : v = ((2 * (m + gs.length) : Nat) : Int)) (hA : A (H.set i (.map (mapOf kvP (entsF m (gs ++ [g])))))) : Gets (H.mapPut P t (.map i) (kvP g) (.int .i64 v)) A :=
  Gets.put0 keyP ht hf (by rw [aget_ents, if_neg hg]) (by rw [hv, ← entsF_append]; exact hA)
theorem _root_.Go.Vh.BSub.strP {κ : Nat → Nat} {a : Int} {k k' : Nat} {gs : List (Int × Int)} (h : κ k = k' := by rfl) : BSub κ (.cells 1 [.int .i64 a, .nilSlice, oP k gs, .nilSlice]) (.cells 1 [.int .i64 a, .nilSlice, oP k' gs, .nilSlice]) := by
  subst h
  refine .inl ?_
  show _ = ABlk.cells 1 [_, _, ren κ (oP k gs), _]
  rw [ren_oP]
  rfl
theorem oP_len {i n : Nat} {l : List (Int × Int)} (h : n = l.length) (h0 : 0 < n) : AVal.slice i 0 n = oP i l := by
  subst h
  cases l with
  | nil => simp at h0
  | cons x l => rfl
theorem _root_.Go.Vh.BSub.strPr {κ κ' : Nat → Nat} {a : Int} {k k' : Nat} {gs : List (Int × Int)} (h : κ k = κ' k') : BSub κ (.cells 1 [.int .i64 a, .nilSlice, oP k gs, .nilSlice]) (.cells 1 (rens κ' [.int .i64 a, .nilSlice, oP k' gs, .nilSlice])) := by
  refine .inl ?_
  show ABlk.cells 1 [_, _, ren κ' (oP k' gs), _] = ABlk.cells 1 [_, _, ren κ (oP k gs), _]
  rw [ren_oP, ren_oP, h]
  rfl
theorem _root_.Go.Vh.BSub.strPn {κ κ' : Nat → Nat} {a : Int} {k k' n : Nat} {gs : List (Int × Int)} (h : κ k = κ' k') (hn : n = gs.length) (h0 : 0 < n) : BSub κ (.cells 1 [.int .i64 a, .nilSlice, oP k gs, .nilSlice]) (.cells 1 (rens κ' [.int .i64 a, .nilSlice, .slice k' 0 n, .nilSlice])) := by
  rw [oP_len hn h0]; exact .strPr h
/-- A struct of a number and three rows. -/
theorem _root_.Go.Vh.BSub.strO {κ : Nat → Nat} {a : Int} {i i' j j' k k' : Nat} {l : List Int} {g : List (Int × Int)} {o : List Int} (h1 : κ i = i') (h2 : κ j = j') (h3 : κ k = k') : BSub κ (.cells 1 [.int .i64 a, oI i l, oP j g, oI k o]) (.cells 1 [.int .i64 a, oI i' l, oP j' g, oI k' o]) := by
  subst h1; subst h2; subst h3
  refine .inl ?_
  show _ = ABlk.cells 1 [_, ren κ (oI i l), ren κ (oP j g), ren κ (oI k o)]
  rw [ren_oI, ren_oP, ren_oI]
  rfl
theorem oI_len {i n : Nat} {l : List Int} (h : n = l.length) (h0 : 0 < n) : AVal.slice i 0 n = oI i l := by
  subst h
  cases l with
  | nil => simp at h0
  | cons x l => rfl
theorem _root_.Go.Vh.BSub.strOe {κ : Nat → Nat} {a : Int} {i i' j j' k k' n : Nat} {l : List Int} {g : List (Int × Int)} {o : List Int} (h1 : κ i = i') (h2 : κ j = j') (h3 : κ k = k') (hn : n = l.length) (h0 : 0 < n := by omega) : BSub κ (.cells 1 [.int .i64 a, oI i l, oP j g, oI k o]) (.cells 1 [.int .i64 a, .slice i' 0 n, oP j' g, oI k' o]) := by
  rw [oI_len hn h0]; exact .strO h1 h2 h3
theorem _root_.Go.Vh.BSub.strOf {κ : Nat → Nat} {a : Int} {i i' j j' k k' n : Nat} {l : List Int} {g : List (Int × Int)} {o : List Int} (h1 : κ i = i') (h2 : κ j = j') (h3 : κ k = k') (hn : n = o.length) (h0 : 0 < n := by omega) : BSub κ (.cells 1 [.int .i64 a, oI i l, oP j g, oI k o]) (.cells 1 [.int .i64 a, oI i' l, oP j' g, .slice k' 0 n]) := by
  rw [oI_len hn h0]; exact .strO h1 h2 h3
theorem _root_.Go.Vh.BSub.mapE {κ : Nat → Nat} {m : Nat} {gs : List (Int × Int)} : BSub κ (.map (mapOf kvP (entsF m gs))) (.map (mapOf kvP (entsF m gs))) := .same (by rw [renB, ents_ren])
theorem _root_.Go.Vh.BSub.mapEr {κ κ' : Nat → Nat} {m : Nat} {gs : List (Int × Int)} : BSub κ (.map (mapOf kvP (entsF m gs))) (.map (renM κ' (mapOf kvP (entsF m gs)))) := by rw [ents_ren]; exact .mapE
theorem _root_.Go.Vh.BSub.toP {κ κ' : Nat → Nat} {l : List (Int × Int)} : BSub κ (oPB l) (renB κ' (oPB l)) := by rw [renB_oPB]; exact .same (renB_oPB _ _)
theorem _root_.Go.Vh.BSub.toPm {κ κ' : Nat → Nat} {l : List (Int × Int)} : BSub κ (oPB l) (match (oPB l).rwB with | true => renB κ' (oPB l) | false => oPB l) := by
  cases l with
  | nil => exact .gone
  | cons x l => exact .toP
theorem _root_.Go.Vh.BSub.toIm {κ κ' : Nat → Nat} {l : List Int} : BSub κ (oIB l) (match (oIB l).rwB with | true => renB κ' (oIB l) | false => oIB l) := by
  cases l with
  | nil => exact .gone
  | cons x l => exact .toI
theorem _root_.Go.Vh.BSub.oP {κ : Nat → Nat} {l : List (Int × Int)} : BSub κ (oPB l) (oPB l) := .same (renB_oPB _ _)
theorem _root_.Go.Vh.BSub.oI {κ : Nat → Nat} {l : List Int} : BSub κ (oIB l) (oIB l) := .same (renB_oIB _ _)
theorem _root_.Go.Vh.BSub.oN {κ : Nat → Nat} {l : List Nat} : BSub κ (oNB l) (oNB l) := .same (renB_oNB _ _)
/-! ### Rows that a call reads, wherever they are -/
/-- A row with elements of that size is told at that number. -/
structure At (H : AHeap) (es : Nat) (cs : List AVal) (k : Nat) : Prop where
  lt : k < H.n
  blk : ∀ κ, BSub κ (.ro es cs) (H.f k)
theorem At.ro {H : AHeap} {es : Nat} {l : List Int} {k : Nat} (h : k < H.n) (hf : H.f k = .ro es (ints l)) : At H es (ints l) k := ⟨h, fun κ => by rw [hf]; exact .roI⟩
theorem At.cells {H : AHeap} {es : Nat} {l : List Int} {k : Nat} (h : k < H.n) (hf : H.f k = .cells es (ints l)) : At H es (ints l) k := ⟨h, fun κ => by rw [hf]; exact .roCells⟩
theorem At.none {H : AHeap} {es : Nat} {cs : List AVal} {k : Nat} (h : At H es cs k) (hs : ∃ l, H.f k = .ro es l ∨ H.f k = .cells es l) : At H es [] k := ⟨h.lt, fun κ => by
  obtain ⟨l, h | h⟩ := hs <;> rw [h]
  · exact .roE
  · exact .roEc⟩
/-- Some block with elements of that size. -/
def Spare (H : AHeap) (es k : Nat) : Prop := Nat.blt k H.n = true ∧ ∃ l, H.f k = .ro es l ∨ H.f k = .cells es l
theorem Spare.at {H : AHeap} {es k : Nat} (h : Spare H es k) : At H es [] k := ⟨Nat.le_of_ble_eq_true h.1, fun κ => by
  obtain ⟨l, h | h⟩ := h.2 <;> rw [h]
  · exact .roE
  · exact .roEc⟩
theorem oI_at {H : AHeap} {k s : Nat} {l : List Int} (hk : Nat.blt k H.n = true) (hf : H.f k = oIB l) (hs : Spare H 1 s) : ∃ i, At H 1 (ints l) i ∧ Tells H (oI k l) (.view i 0 l.length) := by
  cases l with
  | nil => exact ⟨s, hs.at, Tells.nilView hs.1⟩
  | cons x l => exact ⟨k, .cells (Nat.le_of_ble_eq_true hk) hf, Tells.sliceView⟩
theorem oP_at {H : AHeap} {k s : Nat} {l : List (Int × Int)} (hk : Nat.blt k H.n = true) (hf : H.f k = oPB l) (hs : Spare H 2 s) : ∃ i, At H 2 (ints (pflat l)) i ∧ Tells H (oP k l) (.view i 0 l.length) := by
  cases l with
  | nil => exact ⟨s, hs.at, Tells.nilView hs.1⟩
  | cons x l => exact ⟨k, .cells (Nat.le_of_ble_eq_true hk) hf, Tells.sliceView⟩
theorem fk_new {ks : List Nat} {m n i : Nat} (hl : ks.length = n) (hi : n ≤ i) : fk ks m i = m + (i - n) := by
  unfold fk
  rw [List.getElem?_eq_none (by omega), hl]
  rfl
/-- A function that only reads, wherever its rows are. -/
theorem _root_.Go.Vh.CallW.readsAt {f : FuncId} {args : List AVal} {G H : AHeap} {K : AVal → Prop} (h : CallW P f args G fun v _ => K v) (hk : ∀ v, K v → noRef v = true) (ks : List Nat) (hl : Nat.beq ks.length G.n = true)
    (hb : AllQ (fun i => ∃ es cs, G.f i = .ro es cs ∧ At H es cs (fk ks H.n i)) 0 G.n) : CallW P f (rens (fk ks H.n) args) H fun v H' => H' = H ∧ K v :=
  h.reads hk (fk ks H.n) (fun i hi => by
    obtain ⟨es, cs, h1, h2⟩ := allQ_of hb i (Nat.zero_le _) hi
    rw [h1]
    exact ⟨h2.lt, fun h => h.elim, h2.blk _⟩) (fun i hi => by rw [fk_new (Nat.eq_of_beq_eq_true hl) hi]; omega)
/-- A function that reads and makes new rows, wherever its rows are. -/
theorem _root_.Go.Vh.CallW.allocsAt {f : FuncId} {args : List AVal} {G H : AHeap} {K : AVal → List ABlk → Prop} (h : CallW P f args G fun v G' => ∃ bs, G' = G.allocs bs ∧ (∀ b ∈ bs, b.fresh) ∧ K v bs) (ks : List Nat) (hl : Nat.beq ks.length G.n = true)
    (hb : AllQ (fun i => ∃ es cs, G.f i = .ro es cs ∧ At H es cs (fk ks H.n i)) 0 G.n) : CallW P f (rens (fk ks H.n) args) H fun v H' => ∃ v' bs, K v' bs ∧ v = ren (fk ks H.n) v' ∧ H' = H.allocs (bs.map (renB (fk ks H.n))) :=
  CallA.frame h (fk ks H.n) (fun i hi => by
    obtain ⟨es, cs, h1, h2⟩ := allQ_of hb i (Nat.zero_le _) hi
    rw [h1]
    exact ⟨h2.lt, fun h => h.elim, h2.blk _⟩) (fun i hi => fk_new (Nat.eq_of_beq_eq_true hl) hi)
theorem fresh_O {l : List Int} : (oIB l).fresh := by cases l <;> trivial
theorem fresh_OP {l : List (Int × Int)} : (oPB l).fresh := by cases l <;> trivial
end Go.Vk
