import Derived.Test.YtaccmanpanpbiaaVhT
import Derived.WalkKit
import Derived.ProofKit
import Derived.OpenShut
import Derived.Below
import Derived.SizedLaws
/- What a claim reads of an argument, as values over blocks to be read. -/
set_option linter.unusedVariables false
set_option linter.unusedSimpArgs false
namespace Go.Vh
variable {P : Program} {HH : Type} {enc : TypeId × Value → HH}

/-- What a value of a type looks like. -/
def Shape (P : Program) (H : AHeap) : Nat → TypeId → List AVal → Prop
  | 0, _, _ => False
  | n + 1, t, avs => match P.underlying t with
    | some (.int k) => ∃ m, avs = [.int k m] ∧ (Lit.int k m).wf = true
    | some .bool => ∃ b, avs = [.bool b]
    | some .string => ∃ s : ByteArray, avs = [.str s] ∧ s.size ≤ maxLen
    | some (.slice e) => ∃ i len cells, avs = [.view i 0 len] ∧ i < H.n ∧ H.f i = .ro (P.cellsOf e) cells ∧ cells.length = len * P.cellsOf e ∧ (len ≤ maxLen ∧ len * P.bytesOf e ≤ reachBytes) ∧ ∀ j, j < len → Shape P H n e ((cells.drop (j * P.cellsOf e)).take (P.cellsOf e))
    | some (.struct fs) => avs.length = P.cellsOf t ∧ ∀ (i : Nat) (f : Field), fs[i]? = some f → Shape P H n f.type ((avs.drop f.offset).take (P.cellsOf f.type))
    | _ => False
structure HExt (H H' : AHeap) : Prop where
  n : H.n ≤ H'.n
  f : ∀ i, i < H.n → H'.f i = H.f i
theorem HExt.refl (H : AHeap) : HExt H H := ⟨Nat.le_refl _, fun _ _ => rfl⟩
theorem HExt.trans {A B C : AHeap} (h : HExt A B) (k : HExt B C) : HExt A C := ⟨Nat.le_trans h.n k.n, fun i hi => (k.f i (Nat.lt_of_lt_of_le hi h.n)).trans (h.f i hi)⟩
theorem Shape.mono {H H' : AHeap} (hx : HExt H H') : ∀ (n : Nat) (t : TypeId) (avs : List AVal), Shape P H n t avs → Shape P H' n t avs
  | 0, _, _, h => h
  | n + 1, t, avs, h => by
    unfold Shape at h ⊢
    split at h
    · exact h
    · exact h
    · exact h
    · obtain ⟨i, len, cells, h1, h2, h3, h4, h5, h6⟩ := h
      exact ⟨i, len, cells, h1, Nat.lt_of_lt_of_le h2 hx.n, by rw [hx.f i h2]; exact h3, h4, h5, fun j hj => Shape.mono hx n _ _ (h6 j hj)⟩
    · exact ⟨h.1, fun i f hf => Shape.mono hx n _ _ (h.2 i f hf)⟩
    · exact h
def fieldsT (P : Program) (ok : TypeId → Bool) : List Field → Nat → Nat → Bool
  | [], k, z => k == z
  | f :: fs, k, z => f.offset == k && ok f.type && fieldsT P ok fs (k + P.cellsOf f.type) z
/-- Types whose values are so opened. -/
def okT (P : Program) : Nat → TypeId → Bool
  | 0, _ => false
  | n + 1, t => match P.underlying t with
    | some (.int _) | some .bool | some .string => true
    | some (.slice e) => decide (0 < P.cellsOf e) && okT P n e
    | some (.struct fs) => fieldsT P (okT P n) fs.toList 0 (P.cellsOf t)
    | _ => false
def NoRw (H : AHeap) : Prop := ∀ i, ¬ (H.f i).rw
/-- It is opened. -/
def Opens (P : Program) (w : World) (n : Nat) (t : TypeId) (cs : List Value) : Prop :=
  ∀ φ H, Rel φ H w → NoRw H → ∃ φ' H' avs, PLe φ φ' ∧ Rel φ' H' w ∧ HExt H H' ∧ NoRw H' ∧ VRels φ' avs cs ∧ Shape P H' n t avs
theorem rel_ro {φ : PMap} {H : AHeap} {w : World} (hR : Rel φ H w) (hN : NoRw H) (b : BI) (es : Nat) (cells : List AVal) (hb : BRel (φ.ext H.n b) w b (.ro es cells)) :
    Rel (φ.ext H.n b) (H.alloc (.ro es cells)) w ∧ HExt H (H.alloc (.ro es cells)) ∧ NoRw (H.alloc (.ro es cells)) := by
  have hle := PMap.ext_le (hR.dom H.n (Nat.le_refl _)) b
  have hN' : NoRw (H.alloc (.ro es cells)) := by
    intro i
    rw [alloc_f]
    split
    · exact fun h => h
    · exact hN i
  refine ⟨⟨fun i hi => ?_, fun i hi => ?_, fun i c hi => ?_, fun i j c d _ _ _ hrw _ => absurd hrw (hN' i), fun i c _ hrw => absurd hrw (hN' i), fun k o hz => ⟨(hR.fz k o hz).1, fun i b _ hrw => absurd hrw (hN' i), (hR.fz k o hz).2.2⟩⟩, ⟨by rw [alloc_n]; omega, fun i hi => by rw [alloc_f, if_neg (by omega)]⟩, hN'⟩
  · rw [alloc_n] at hi
    rw [PMap.ext_ne _ _ (by omega)]; exact hR.dom i (by omega)
  · rw [alloc_n] at hi
    by_cases h : i = H.n
    · exact ⟨b, by rw [h]; exact PMap.ext_same _ _ _⟩
    · rw [PMap.ext_ne _ _ h]; exact hR.has i (by omega)
  · by_cases h : i = H.n
    · subst h
      rw [PMap.ext_same] at hi
      cases hi
      rw [alloc_f, if_pos rfl]
      exact hb
    · rw [PMap.ext_ne _ _ h] at hi
      rw [alloc_f, if_neg h]
      exact (hR.blk i c hi).kept hle fun _ => rfl
theorem cells_get {w : World} {base : Nat} {a : Addr} {n : Nat} {cs : List Value} (h : w.cells? base a n = some cs) : cs.length = n ∧ ∀ j, j < n → w.cell? (a.add j) = cs[j]? := by
  unfold World.cells? at h
  split at h
  · have hl := mapM_some_length h
    rw [List.length_range] at hl
    refine ⟨hl, fun j hj => ?_⟩
    exact mapM_some_get h j j (by simp [hj])
  · cases h
theorem add_add' (a : Addr) (m k : Nat) : (a.add m).add k = a.add (m + k) := by
  unfold Addr.add
  by_cases hm : m = 0
  · subst hm; simp
  · by_cases hk : k = 0
    · subst hk; simp
    · have : m + k ≠ 0 := by omega
      simp [hm, hk, Nat.add_assoc]
/-- Elements, one after the other. -/
theorem open_elems {w : World} {n : Nat} {e : TypeId} {es : Nat} (a : Addr) (ha : a.spot = none ∨ True) (len : Nat) (h : ∀ j, j < len → ∃ cs, w.cells? 0 (a.add (j * es)) es = some cs ∧ Opens P w n e cs) :
    ∀ φ H, Rel φ H w → NoRw H → ∃ φ' H', ∃ cells : List AVal, PLe φ φ' ∧ Rel φ' H' w ∧ HExt H H' ∧ NoRw H' ∧ cells.length = len * es ∧ (∀ q v, cells[q]? = some v → ∃ c, w.cell? (a.add q) = some c ∧ VRel φ' v c) ∧ ∀ j, j < len → Shape P H' n e ((cells.drop (j * es)).take es) := by
  induction len with
  | zero => exact fun φ H hR hN => ⟨φ, H, [], PLe.refl φ, hR, HExt.refl H, hN, by simp, by simp, fun j hj => absurd hj (Nat.not_lt_zero j)⟩
  | succ len ih =>
    intro φ H hR hN
    obtain ⟨φ1, H1, cells, h1, h2, h3, h4, h5, h6, h7⟩ := ih (fun j hj => h j (Nat.lt_succ_of_lt hj)) φ H hR hN
    obtain ⟨cs, hcs, ho⟩ := h len (Nat.lt_succ_self len)
    obtain ⟨φ2, H2, avs, g1, g2, g3, g4, g5, g6⟩ := ho φ1 H1 h2 h4
    obtain ⟨hl, hc⟩ := cells_get hcs
    have hal : avs.length = es := by rw [← VRels_length g5]; exact hl
    refine ⟨φ2, H2, cells ++ avs, h1.trans g1, g2, h3.trans g3, g4, by rw [List.length_append, h5, hal, Nat.succ_mul], fun q v hq => ?_, fun j hj => ?_⟩
    · rcases Nat.lt_or_ge q cells.length with hlt | hge
      · rw [List.getElem?_append_left hlt] at hq
        obtain ⟨c, hc1, hc2⟩ := h6 q v hq
        exact ⟨c, hc1, VRel_mono g1 _ _ hc2⟩
      · rw [List.getElem?_append_right hge] at hq
        obtain ⟨c, hc1, hc2⟩ := VRels_get g5 hq
        have hq' : q - cells.length < es := by have := (List.getElem?_eq_some_iff.1 hq).1; omega
        have := hc _ hq'
        rw [hc1] at this
        refine ⟨c, ?_, hc2⟩
        rw [← this]
        congr 1
        show a.add q = (a.add (len * es)).add (q - cells.length)
        rw [add_add']
        congr 1
        omega
    · rcases Nat.lt_succ_iff_lt_or_eq.1 hj with hj | rfl
      · have hb : j * es + es ≤ cells.length := by
          rw [h5, ← Nat.succ_mul]; exact Nat.mul_le_mul_right _ hj
        have : ((cells ++ avs).drop (j * es)).take es = (cells.drop (j * es)).take es := by
          rw [List.drop_append_of_le_length (by omega), List.take_append_of_le_length (by rw [List.length_drop]; omega)]
        rw [this]
        exact (h7 j hj).mono g3
      · have : ((cells ++ avs).drop (j * es)).take es = avs := by
          rw [← h5, List.drop_left, List.take_of_length_le (by omega)]
        rw [this]
        exact g6
/-- Fields, one after the other. -/
theorem open_fields {w : World} {n : Nat} (ok : TypeId → Bool) (cs : List Value) : ∀ (fs : List Field) (k z : Nat), fieldsT P ok fs k z = true → cs.length = z → (∀ f ∈ fs, Opens P w n f.type ((cs.drop f.offset).take (P.cellsOf f.type))) →
    ∀ φ H, Rel φ H w → NoRw H → ∃ φ' H', ∃ avs : List AVal, PLe φ φ' ∧ Rel φ' H' w ∧ HExt H H' ∧ NoRw H' ∧ VRels φ' avs (cs.drop k) ∧ ∀ f ∈ fs, k ≤ f.offset ∧ Shape P H' n f.type ((avs.drop (f.offset - k)).take (P.cellsOf f.type))
  | [], k, z, hf, hz, _, φ, H, hR, hN => by
    simp only [fieldsT, beq_iff_eq] at hf
    refine ⟨φ, H, [], PLe.refl φ, hR, HExt.refl H, hN, ?_, fun f h => by cases h⟩
    rw [VRels_nil, List.drop_eq_nil_iff]
    omega
  | f :: fs, k, z, hf, hz, h, φ, H, hR, hN => by
    simp only [fieldsT, Bool.and_eq_true, beq_iff_eq] at hf
    obtain ⟨⟨hfo, hfk⟩, hfs⟩ := hf
    obtain ⟨φ1, H1, av1, h1, h2, h3, h4, h5, h6⟩ := h f (List.mem_cons_self ..) φ H hR hN
    obtain ⟨φ2, H2, av2, g1, g2, g3, g4, g5, g6⟩ := open_fields ok cs fs (k + P.cellsOf f.type) z hfs hz (fun f' hf' => h f' (List.mem_cons_of_mem _ hf')) φ1 H1 h2 h4
    rw [hfo] at h5
    have hsum : ∀ (fs : List Field) (k z : Nat), fieldsT P ok fs k z = true → k ≤ z := by
      intro fs
      induction fs with
      | nil => intro k z h; simp only [fieldsT, beq_iff_eq] at h; omega
      | cons f fs ih =>
        intro k z h
        simp only [fieldsT, Bool.and_eq_true, beq_iff_eq] at h
        have := ih _ _ h.2
        omega
    have hle := hsum _ _ _ hfs
    have hl1 : av1.length = P.cellsOf f.type := by
      rw [← VRels_length h5, List.length_take, List.length_drop]; omega
    refine ⟨φ2, H2, av1 ++ av2, h1.trans g1, g2, h3.trans g3, g4, ?_, fun f' hf' => ?_⟩
    · have e : cs.drop k = (cs.drop k).take (P.cellsOf f.type) ++ cs.drop (k + P.cellsOf f.type) := by
        rw [← List.drop_drop, List.take_append_drop]
      rw [e]
      exact VRels_append (VRels_mono g1 _ _ h5) g5
    · rcases List.mem_cons.1 hf' with rfl | hm
      · refine ⟨by omega, ?_⟩
        rw [hfo, Nat.sub_self, List.drop_zero, List.take_append_of_le_length (by omega), List.take_of_length_le (by omega)]
        exact h6.mono g3
      · obtain ⟨a1, a2⟩ := g6 f' hm
        refine ⟨by omega, ?_⟩
        have : (av1 ++ av2).drop (f'.offset - k) = av2.drop (f'.offset - (k + P.cellsOf f.type)) := by
          rw [List.drop_append, List.drop_eq_nil_of_le (by omega), List.nil_append]
          congr 1
          omega
        rw [this]
        exact a2
theorem fieldsT_mem {ok : TypeId → Bool} : ∀ (fs : List Field) (k z : Nat), fieldsT P ok fs k z = true → ∀ f ∈ fs, ok f.type = true
  | [], _, _, _, f, h => by cases h
  | g :: fs, k, z, h, f, hf => by
    simp only [fieldsT, Bool.and_eq_true, beq_iff_eq] at h
    rcases List.mem_cons.1 hf with rfl | hm
    · exact h.1.2
    · exact fieldsT_mem fs _ _ h.2 f hm
/-- **What a claim reads is opened.** -/
theorem weightsAll_mem {e : TypeId} {d : DataW HH} : ∀ {l : List (DataW HH)}, d ∈ l → ∀ m ∈ d.weights P e, m ∈ DataW.weightsAll P e l
  | [], h, _, _ => by cases h
  | y :: l, h, m, hm => by
    simp only [DataW.weightsAll, List.mem_append]
    rcases List.mem_cons.1 h with rfl | h
    · exact .inl hm
    · exact .inr (weightsAll_mem h m hm)
theorem open_val {w : World} : ∀ (n : Nat) (t : TypeId) (cs : List Value) (fuel : Nat) (x : DataW HH × List MemPlace), okT P n t = true → DataW.trod enc P w 0 (fun _ => true) true fuel t cs = some x → (∀ m ∈ x.1.weights P t, m ≤ reachBytes) → Opens P w n t cs
  | 0, t, cs, fuel, x, hok, _, _ => by cases hok
  | n + 1, t, cs, fuel, x, hok, h, hz => by
    intro φ H hR hN
    unfold okT at hok
    split at hok
    · rename_i k hu
      obtain ⟨m, rfl, _, hw⟩ := DataW.trod_int hu h
      exact ⟨φ, H, [.int k m], PLe.refl φ, hR, HExt.refl H, hN, by simp [VRels, VRel], by unfold Shape; rw [hu]; exact ⟨m, rfl, hw⟩⟩
    · rename_i hu
      obtain ⟨b, rfl, _⟩ := DataW.trod_bool hu h
      exact ⟨φ, H, [.bool b], PLe.refl φ, hR, HExt.refl H, hN, by simp [VRels, VRel], by unfold Shape; rw [hu]; exact ⟨b, rfl⟩⟩
    · rename_i hu
      obtain ⟨s, rfl, _, hs⟩ := DataW.trod_string hu h
      exact ⟨φ, H, [.str s], PLe.refl φ, hR, HExt.refl H, hN, by simp [VRels, VRel], by unfold Shape; rw [hu]; exact ⟨s, rfl, hs⟩⟩
    · rename_i e hu
      simp only [Bool.and_eq_true, decide_eq_true_eq] at hok
      rcases DataW.trod_slice hu h with ⟨rfl, _⟩ | ⟨a, len, cap, elems, rest, m, _, rfl, hxe, _, hlc, hcm, hel, hcell, hsp, _⟩
      · let b : BI := ⟨0, 0, P.cellsOf e, 0⟩
        obtain ⟨h1, h2, h3⟩ := rel_ro hR hN b (P.cellsOf e) [] ⟨rfl, fun j v hv => by cases hv⟩
        refine ⟨_, _, [.view H.n 0 0], PMap.ext_le (hR.dom H.n (Nat.le_refl _)) b, h1, h2, h3, ?_, ?_⟩
        · simp only [VRels, VRel]
          exact ⟨_, [], rfl, ⟨b, PMap.ext_same _ _ _, .inl ⟨trivial, rfl⟩⟩, rfl⟩
        · unfold Shape
          rw [hu]
          exact ⟨H.n, 0, [], rfl, by rw [alloc_n]; omega, by rw [alloc_f, if_pos rfl], by simp, ⟨Nat.zero_le _, by rw [Nat.zero_mul]; exact Nat.zero_le _⟩, fun j hj => absurd hj (Nat.not_lt_zero j)⟩
      · obtain ⟨hrl, hrest⟩ := hsp rfl
        have elem : ∀ j, j < len → ∃ cs', w.cells? 0 (a.add (j * P.cellsOf e)) (P.cellsOf e) = some cs' ∧ Opens P w n e cs' := by
          intro j hj
          have := hcell j hj
          rw [List.getElem?_eq_getElem (by omega)] at this
          obtain ⟨cs', h1, h2⟩ := Option.bind_eq_some_iff.1 this
          exact ⟨cs', h1, open_val n e cs' m _ hok.2 h2 fun q hq => hz q (by
            rw [hxe]
            simp only [DataW.weights, hu, List.mem_cons, List.mem_append]
            exact .inr (.inl (weightsAll_mem (List.mem_map.2 ⟨_, List.getElem_mem (by omega), rfl⟩) q hq)))⟩
        obtain ⟨φ1, H1, cells, g1, g2, g3, g4, g5, g6, g7⟩ := open_elems a (.inr trivial) len elem φ H hR hN
        -- where the row lies
        have spot : 0 < cap → a.spot = none := by
          intro hc
          have first : ∃ c, w.cell? a = some c := by
            rcases Nat.eq_zero_or_pos len with h0 | h0
            · have := hrest 0 (by omega)
              rw [List.getElem?_eq_getElem (by omega)] at this
              obtain ⟨cs', h1, _⟩ := Option.bind_eq_some_iff.1 this
              obtain ⟨hl, hc⟩ := cells_get h1
              have := hc 0 hok.1
              rw [h0] at this
              simp only [Nat.zero_add, Nat.zero_mul, add_add', Nat.add_zero] at this
              rw [List.getElem?_eq_getElem (by omega)] at this
              exact ⟨_, by simpa [Addr.add] using this⟩
            · obtain ⟨cs', h1, _⟩ := elem 0 h0
              obtain ⟨hl, hc⟩ := cells_get h1
              have := hc 0 hok.1
              simp only [Nat.zero_mul, add_add', Nat.add_zero] at this
              rw [List.getElem?_eq_getElem (by omega)] at this
              exact ⟨_, by simpa [Addr.add] using this⟩
          obtain ⟨c, hc⟩ := first
          unfold World.cell? at hc
          split at hc
          · split at hc
            · cases hc
            · rename_i hs; simpa using hs
          · cases hc
        have haq : ∀ q v, cells[q]? = some v → a.add q = ⟨a.block, a.off + q, none⟩ := by
          intro q v hq
          have hlt := (List.getElem?_eq_some_iff.1 hq).1
          have hpos : 0 < cap := by
            rcases Nat.eq_zero_or_pos len with h0 | h0
            · rw [g5, h0, Nat.zero_mul] at hlt; omega
            · omega
          have hs := spot hpos
          obtain ⟨ab, ao, asp⟩ := a
          simp only at hs
          subst hs
          exact add_at ab ao q
        let b : BI := ⟨a.block, a.off, P.cellsOf e, cap * P.cellsOf e⟩
        have hle := PMap.ext_le (g2.dom H1.n (Nat.le_refl _)) b
        obtain ⟨h1, h2, h3⟩ := rel_ro g2 g4 b (P.cellsOf e) cells ⟨rfl, fun q v hq => by
          obtain ⟨c, hc1, hc2⟩ := g6 q v hq
          rw [haq q v hq] at hc1
          exact ⟨c, hc1, VRel_mono hle _ _ hc2⟩⟩
        refine ⟨_, _, [.view H1.n 0 len], g1.trans hle, h1, g3.trans h2, h3, ?_, ?_⟩
        · simp only [VRels, VRel]
          refine ⟨_, [], rfl, ⟨b, PMap.ext_same _ _ _, .inr ⟨cap, a, rfl, hlc, fun hc => ⟨?_, ?_⟩⟩⟩, rfl⟩
          · have hs := spot hc
            obtain ⟨ab, ao, asp⟩ := a
            simp only at hs
            subst hs
            rfl
          · show 0 + cap * P.cellsOf e ≤ cap * P.cellsOf e
            omega
        · unfold Shape
          rw [hu]
          have hbig : (elems.length + rest.length) * P.bytesOf e ≤ reachBytes := hz _ (by
            rw [hxe]
            simp only [DataW.weights, hu, List.length_map, List.mem_cons]
            exact .inl trivial)
          have hlb : len * P.bytesOf e ≤ reachBytes := Nat.le_trans (Nat.mul_le_mul_right _ (by omega)) hbig
          exact ⟨H1.n, len, cells, rfl, by rw [alloc_n]; omega, by rw [alloc_f, if_pos rfl], g5, ⟨by omega, hlb⟩, fun j hj => (g7 j hj).mono h2⟩
    · rename_i fs hu
      obtain ⟨xs, m, _, hxe, hl, hxs, hf⟩ := DataW.trod_struct hu h
      obtain ⟨φ1, H1, avs, g1, g2, g3, g4, g5, g6⟩ := open_fields (n := n) (okT P n) cs fs.toList 0 (P.cellsOf t) hok hl (fun f hfm => by
        obtain ⟨i, hi⟩ := List.getElem?_of_mem hfm
        rw [Array.getElem?_toList] at hi
        have := hf i f hi
        have hlt : i < xs.length := by rw [hxs]; exact (Array.getElem?_eq_some_iff.1 hi).1
        rw [List.getElem?_eq_getElem hlt] at this
        exact open_val n f.type _ m _ (fieldsT_mem _ _ _ hok f hfm) this fun q hq => hz q (by
          rw [hxe]
          simp only [DataW.weights, hu]
          exact DataW.weights_mem_each (j := i) (t := f.type) (by rw [List.getElem?_map, Array.getElem?_toList, hi]; rfl) (by rw [List.getElem?_map, List.getElem?_eq_getElem hlt]; rfl) q hq)) φ H hR hN
      refine ⟨φ1, H1, avs, g1, g2, g3, g4, by simpa using g5, ?_⟩
      unfold Shape
      rw [hu]
      refine ⟨by rw [← VRels_length g5, List.drop_zero]; exact hl, fun i f hi => ?_⟩
      have := (g6 f (by rw [← Array.getElem?_toList] at hi; exact List.mem_of_getElem? hi)).2
      rwa [Nat.sub_zero] at this
    · cases hok
/-- An argument: a struct is told by its cells. -/
def argOf (P : Program) (t : TypeId) (avs : List AVal) : AVal :=
  match P.underlying t with
  | some (.struct _) => .agg avs
  | _ => avs.headD .undef
theorem open_arg {w : World} {r : Reach} {b0 n fuel : Nat} {t : TypeId} {v : Value} {x : DataW HH × List MemPlace} (hok : okT P n t = true) (hval : Value.okWide P w r b0 t v) (h : DataW.trod enc P w 0 (fun _ => true) true fuel t v.cells.toList = some x) (hz : ∀ m ∈ x.1.weights P t, m ≤ reachBytes) {φ : PMap} {H : AHeap} (hR : Rel φ H w) (hN : NoRw H) :
    ∃ φ' H', ∃ avs : List AVal, PLe φ φ' ∧ Rel φ' H' w ∧ HExt H H' ∧ NoRw H' ∧ VRel φ' (argOf P t avs) v ∧ Shape P H' n t avs := by
  obtain ⟨φ', H', avs, h1, h2, h3, h4, h5, h6⟩ := open_val n t _ fuel x hok h hz φ H hR hN
  refine ⟨φ', H', avs, h1, h2, h3, h4, ?_, h6⟩
  have one : (∃ u, v.cells = #[u] ∧ v = u ∧ (∀ fs, P.underlying t ≠ some (.struct fs))) ∨ (∃ fs cs, P.underlying t = some (.struct fs) ∧ v = .agg cs) := by
    cases n with
    | zero => cases hok
    | succ n =>
      unfold okT at hok
      split at hok
      · rename_i k hu; obtain ⟨m, rfl⟩ := WideShapes.okWide_int hu hval; exact .inl ⟨_, rfl, rfl, by rw [hu]; simp⟩
      · rename_i hu; obtain ⟨m, rfl⟩ := WideShapes.okWide_bool hu hval; exact .inl ⟨_, rfl, rfl, by rw [hu]; simp⟩
      · rename_i hu; obtain ⟨m, rfl⟩ := WideShapes.okWide_string hu hval; exact .inl ⟨_, rfl, rfl, by rw [hu]; simp⟩
      · rename_i e hu; obtain ⟨a, len, cap, rfl⟩ := WideShapes.okWide_slice hu hval; exact .inl ⟨_, rfl, rfl, by rw [hu]; simp⟩
      · rename_i fs hu; obtain ⟨cs, rfl, _⟩ := WideShapes.okWide_struct hu hval; exact .inr ⟨fs, cs, hu, rfl⟩
      · cases hok
  unfold argOf
  rcases one with ⟨u, hc, rfl, hns⟩ | ⟨fs, cs, hu, rfl⟩
  · rw [hc] at h5
    have hl := VRels_length h5
    cases avs with
    | nil => simp at hl
    | cons av rest =>
      have h5' := (VRels_cons.1 h5).1
      split
      · rename_i fs hu; exact absurd hu (hns fs)
      · exact h5'
  · rw [hu]
    exact ⟨cs.toList, by simp, by simpa [Value.cells] using h5⟩
/-- From a contract over blocks to be read to the walk that a row asks for. -/
theorem CallW.walkR {f : FuncId} {args : List AVal} {cargs : Array Value} {φ : PMap} {H : AHeap} {w : World} (h : CallW P f args H fun v _ => v = .bool true) (hR : Rel φ H w) (hN : NoRw H) (ha : VRels φ args cargs.toList) :
    Calls P f cargs w fun e w' => e = .returned (.bool true) ∧ Go.RowKit.Below w.heap.size w w' := by
  refine (h φ w cargs hR ha).mono ?_
  rintro e w' ⟨cv, v, φ', H', rfl, h1, h2, h3, rfl⟩
  have h1' : cv = .bool true := h1
  subst h1'
  exact ⟨rfl, h3.os, h3.tape, h3.output, h3.size, fun k hk => h3.keep k hk (by rintro ⟨i, b, _, hrw, _⟩; exact hN i hrw)⟩
end Go.Vh
