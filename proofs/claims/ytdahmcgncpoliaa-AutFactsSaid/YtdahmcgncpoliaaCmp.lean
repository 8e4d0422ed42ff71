/- Complete. -/
import Derived.Test.YtdahmcgncpoliaaCpy
import Derived.Test.YtdahmcgncpoliaaLaw
set_option linter.unusedVariables false
set_option linter.unusedSimpArgs false
set_option maxRecDepth 100000
namespace Go.Proofs.Ytdahmcgncpoliaa
open Go Go.Vh Go.Proofs
def Au.hC (a : Au) (l : List Nat) : AHeap := (a.heap.alloc a.box).alloc (.cells 1 (u64s l))
def allN (p : Int) : Nat := maskN ⟨0, 0, 0, 0, 0⟩ (2 ^ p.toNat)
theorem ne48 (a : Au) (h0 : 0 ≤ a.props) (h6 : a.props ≤ 6) (l : List Nat) (y : Nat) : CallW Try.prog 48 [.int .u64 (y : Int), .ptr 2 0] (a.hC l) fun v H' => H' = a.hC l ∧ ∃ b, v = .bool b ∧ (b = true ↔ y ≠ allN a.props) := by
  refine CallW.sym Try.func48 rfl (by kernel_rfl) ?_
  conv => whnf
  iterate 1 (refine Gets.of _ rfl ?_; conv => whnf)
  refine CallS.of (by kernel_rfl) (every49c a.props h0 h6 _) rfl ?_
  rintro _ _ ⟨rfl, rfl⟩
  conv => whnf
  refine Fork.mk (fun h => ?_) (fun h => ?_)
  all_goals conv => whnf
  · exact ⟨rfl, true, rfl, by simp only [bne_iff_ne, ne_eq] at h; simp only [true_iff]; exact fun h' => h (by rw [h']; rfl)⟩
  · exact ⟨rfl, false, rfl, by simp only [bne_eq_false_iff_eq] at h; simp only [Bool.false_eq_true, false_iff]; exact fun h' => h' (by unfold allN; omega)⟩
theorem index65p (a : Au) (h0 : 0 ≤ a.props) (h6 : a.props ≤ 6) (l : List Nat) (hll : l.length ≤ 4294967296) : CallW Try.prog 65 [.slice 3 0 l.length, .func 48 [] [.ptr 2 0]] (a.hC l) fun v H' => H' = a.hC l ∧ ∃ k, v = .int .i64 k ∧ (0 ≤ k ↔ ∃ y ∈ l, y ≠ allN a.props) := by
  refine CallW.sym Try.func65 rfl (by kernel_rfl) ?_
  conv => whnf
  refine Gets.of _ rfl ?_
  conv => whnf
  refine CodeS.loopS (σ := Nat) (fun j => [(0, .slice 3 0 l.length), (1, .func 48 [] [.ptr 2 0]), (4, .int .i64 0), (7, .int .i64 l.length), (8, .int .i64 j)]) (fun _ => _) (fun j => j ≤ l.length ∧ ∀ y ∈ l.take j, y = allN a.props) (fun j => l.length - j) 0 (by kernel_rfl) ⟨Nat.zero_le _, by simp⟩ ⟨rfl, rfl, rfl, rfl, rfl, trivial⟩ rfl ?_
  rintro j ⟨g1, g2⟩
  conv => whnf
  refine Fork.mk (fun hc => ?_) (fun hc => ?_)
  all_goals conv => whnf
  · have hc : j < l.length := by simp at hc; omega
    refine Gets.ixS (es := 1) rfl (by kernel_rfl) (by omega) (by omega) ?_
    conv => whnf
    refine Gets.loadN (j := j) (k := .u64) (l := l.map Int.ofNat) (x := (l[j] : Nat)) (ti := ⟨1, 8, false, [.int .u64 0]⟩) (by kernel_rfl) rfl rfl (by simp) (by rw [List.getElem?_map, List.getElem?_eq_getElem hc]; rfl) ?_
    conv => whnf
    refine CallS.of (by kernel_rfl) (ne48 a h0 h6 l l[j]) rfl ?_
    rintro _ _ ⟨rfl, b, rfl, hb⟩
    cases b <;> conv => whnf
    · have hw : IntKind.wrap .i64 ((j : Int) + 1) = ((j + 1 : Nat) : Int) := by rw [wrap_i64 (by omega) (by omega)]; rfl
      refine ⟨j + 1, ⟨by omega, fun y hy => ?_⟩, by omega, ⟨rfl, rfl, rfl, rfl, congrArg (AVal.int .i64) hw, trivial⟩, rfl⟩
      rw [List.take_succ_eq_append_getElem hc] at hy
      rcases List.mem_append.1 hy with hy | hy
      · exact g2 y hy
      · obtain rfl := List.mem_singleton.1 hy
        exact Classical.byContradiction fun h => by have := hb.2 h; cases this
    · exact ⟨rfl, _, rfl, ⟨fun _ => ⟨_, List.getElem_mem hc, hb.1 rfl⟩, fun _ => by omega⟩⟩
  · refine ⟨rfl, _, rfl, ⟨fun h => absurd h (by decide), ?_⟩⟩
    rintro ⟨y, hy, hne⟩
    exact absurd (g2 y (by rw [List.take_of_length_le (by simp at hc; omega)]; exact hy)) hne
theorem contains47p (a : Au) (h0 : 0 ≤ a.props) (h6 : a.props ≤ 6) (l : List Nat) (hll : l.length ≤ 4294967296) : CallW Try.prog 47 [.slice 3 0 l.length, .func 48 [] [.ptr 2 0]] (a.hC l) fun v H' => H' = a.hC l ∧ ∃ b, v = .bool b ∧ (b = true ↔ ∃ y ∈ l, y ≠ allN a.props) := by
  refine CallW.sym Try.func47 rfl (by kernel_rfl) ?_
  conv => whnf
  refine CallS.of (by kernel_rfl) (index65p a h0 h6 l hll) rfl ?_
  rintro _ _ ⟨rfl, k, rfl, hk⟩
  conv => whnf
  refine Fork.mk (fun h => ?_) (fun h => ?_)
  all_goals conv => whnf
  · exact ⟨rfl, true, rfl, by simp only [decide_eq_true_eq] at h; simp only [true_iff]; exact hk.1 h⟩
  · exact ⟨rfl, false, rfl, by simp only [decide_eq_false_iff_not] at h; simp only [Bool.false_eq_true, false_iff]; exact fun h' => h (hk.2 h')⟩
/-- Whole, by the masks. -/
theorem Au.whole_iff (a : Au) (ho : a.Ok) : (∃ y ∈ a.ms a.es.length, y ≠ allN a.props) ↔ ¬ a.WholeP := by
  have hfr : ∀ e ∈ a.es, 0 ≤ e.fr ∧ e.fr < a.states := fun e he => ⟨(ho.2.2 e he).1, (ho.2.2 e he).2.1⟩
  have hlen := a.ms_length a.es.length
  have hbit : ∀ s b, ((a.ms a.es.length).getD s 0).testBit b = true ↔ b < 2 ^ a.props.toNat ∧ ∃ e ∈ a.es, e.fr.toNat = s ∧ readsB e b = true := by
    intro s b
    rw [a.ms_bit hfr a.es.length (Nat.le_refl _) s b]
    unfold Au.ahead
    rw [List.take_length]
    constructor
    · rintro ⟨f, hf, hb⟩
      obtain ⟨hf1, hf2⟩ := List.mem_filter.1 hf
      rw [maskN_bit, Bool.and_eq_true, decide_eq_true_eq] at hb
      exact ⟨hb.1, f, hf1, by simpa using hf2, hb.2⟩
    · rintro ⟨h1, f, hf, h2, h3⟩
      exact ⟨f, List.mem_filter.2 ⟨hf, by simpa using h2⟩, by rw [maskN_bit, Bool.and_eq_true, decide_eq_true_eq]; exact ⟨h1, h3⟩⟩
  have hp6' := ho.1.2.1
  have hall : ∀ b, (allN a.props).testBit b = true ↔ b < 2 ^ a.props.toNat := by
    intro b
    unfold allN
    rw [maskN_bit, Bool.and_eq_true, decide_eq_true_eq]
    exact ⟨fun h => h.1, fun h => ⟨h, (readsB_nat (c := 0) (x := 0) rfl rfl (by decide) (Nat.lt_of_lt_of_le h (Nat.pow_le_pow_right (by decide) (by omega)))).2 (by simp)⟩⟩
  constructor
  · rintro ⟨y, hy, hne⟩ hw
    obtain ⟨s, hs, rfl⟩ := List.getElem_of_mem hy
    refine hne (Nat.eq_of_testBit_eq fun b => ?_)
    have h1 := hbit s b
    rw [List.getD_eq_getElem?_getD, List.getElem?_eq_getElem hs, Option.getD_some] at h1
    have h2 := hall b
    have : (a.ms a.es.length)[s].testBit b = true ↔ (allN a.props).testBit b = true := by
      rw [h1, h2]
      exact ⟨fun h => h.1, fun h => ⟨h, hw s (by omega) b h⟩⟩
    cases hx : (a.ms a.es.length)[s].testBit b <;> cases hy : (allN a.props).testBit b <;> simp_all
  · intro hw
    refine Classical.byContradiction fun hno => hw fun s hs l hl => ?_
    have hs' : s < (a.ms a.es.length).length := by omega
    have heq : (a.ms a.es.length)[s] = allN a.props := Classical.byContradiction fun h => hno ⟨_, List.getElem_mem hs', h⟩
    have h1 := hbit s l
    rw [List.getD_eq_getElem?_getD, List.getElem?_eq_getElem hs', Option.getD_some, heq, hall] at h1
    exact (h1.1 hl).2
/-- What Complete answers. -/
def Au.CompOk (a : Au) (b : Bool) (e : Int) : Prop := (¬ a.Ok ∧ b = false ∧ e = 1) ∨ (a.Ok ∧ e = 0 ∧ (b = true ↔ a.WholeP))
theorem complete17 (a : Au) (hf : a.Fits) : CallW Try.prog 17 [a.av] a.heap fun v _ => ∃ b e, v = .tuple [.bool b, .int .i64 e] ∧ a.CompOk b e := by
  refine CallW.sym Try.func17 rfl (by kernel_rfl) ?_
  conv => whnf
  iterate 1 (refine Gets.of _ rfl ?_; conv => whnf)
  refine CallS.of (by kernel_rfl) (valid23c a hf _ rfl rfl rfl) rfl ?_
  rintro _ _ ⟨rfl, b, rfl, hb⟩
  cases b <;> conv => whnf
  · exact ⟨_, _, rfl, .inl ⟨fun h => absurd (hb.2 h) (by simp), rfl, rfl⟩⟩
  have ho := hb.1 rfl
  obtain ⟨hh, hs, he⟩ := ho
  have hp0 := hh.1
  have hp6 := hh.2.1
  have hs0 := hh.2.2.1
  have hs1 := hh.2.2.2.1
  have hne := hh.2.2.2.2.2.2.2
  iterate 1 (refine Gets.of _ rfl ?_; conv => whnf)
  refine Gets.make (ti := ⟨1, 8, false, [.int .u64 0]⟩) (by kernel_rfl) rfl rfl (by decide) hs0 (by omega) ?_
  conv => whnf
  iterate 2 (refine Gets.of _ rfl ?_; conv => whnf)
  refine CodeS.loopG (σ := Nat) (fun j => [(1, .ptr 2 0), (2, .bool false), (3, .int .i64 0), (4, .slice 3 0 a.states.toNat), (14, .view 1 0 a.es.length), (15, .int .i64 a.es.length), (16, .int .i64 j)]) (fun j => a.hC (a.ms j)) (fun j => j ≤ a.es.length) (fun j => a.es.length - j) 0 (renL [0, 1, 2, 3] 4) (by kernel_rfl)
    (Nat.zero_le _) ⟨rfl, rfl, rfl, rfl, rfl, rfl, rfl, trivial⟩ ?_ ?_
  · refine Emb.lits [0, 1, 2, 3] rfl rfl rfl rfl (.cons ⟨rfl, rfl, fun h => h⟩ (.cons ⟨rfl, rfl, fun h => h⟩ .nil)) (.cons ⟨rfl, .roI⟩ (.cons ⟨rfl, .roI⟩ (.cons ⟨rfl, .inl rfl⟩ (.cons ⟨rfl, ?_⟩ .nil))))
    have : u64s (a.ms 0) = nums .u64 (List.replicate a.states.toNat 0) := by simp [u64s, Au.ms]
    show BSub _ (.cells 1 (u64s (a.ms 0))) (.cells 1 (nums .u64 (List.replicate a.states.toNat 0)))
    rw [this]
    exact .cellsK
  intro j g1
  conv => whnf
  refine Fork.mk (fun hc => ?_) (fun hc => ?_)
  all_goals conv => whnf
  · have hc : j < a.es.length := by simp at hc; omega
    refine Gets.ixV (es := 5) rfl (by kernel_rfl) (by omega) (by omega) ?_
    conv => whnf
    refine Gets.loadE (j := j) (es := a.es) (ti := ⟨5, 40, true, [.int .i64 0, .int .i64 0, .int .i64 0, .int .i64 0, .int .i64 0]⟩) (by kernel_rfl) rfl rfl rfl (by simp) hc ?_
    have hok := he _ (List.getElem_mem hc)
    generalize hee : a.es[j] = e at hok
    have hf0 := hok.1
    have hf1 := hok.2.1
    have hlen : e.fr.toNat < (a.ms j).length := by rw [Au.ms_length]; omega
    have hget : ((a.ms j).map Int.ofNat)[e.fr.toNat]? = some (((a.ms j).getD e.fr.toNat 0 : Nat) : Int) := by
      rw [List.getElem?_map, List.getD_eq_getElem?_getD, List.getElem?_eq_getElem hlen]; rfl
    have hx64 : (a.ms j).getD e.fr.toNat 0 < 2 ^ 64 := by
      rw [List.getD_eq_getElem?_getD, List.getElem?_eq_getElem hlen]
      exact a.ms_lt hp6 j _ (List.getElem_mem hlen)
    conv => whnf
    repeat (refine Gets.of _ rfl ?_; conv => whnf)
    refine CodeS.drawI [2, 3, 4] [(0, true, false), (1, true, false), (2, true, false), (3, true, false), (4, true, false), (5, true, false), (6, true, false), (7, true, false), (8, false, true), (9, true, false), (10, true, false), (11, false, false)] mixed (by kernel_rfl) (.cons ⟨rfl, trivial⟩ (.cons ⟨rfl, trivial⟩ (.cons ⟨rfl, trivial⟩ .nil))) ?_
    conv => whnf
    repeat (refine Gets.of _ rfl ?_; conv => whnf)
    refine Gets.ixS (es := 1) rfl (by kernel_rfl) hf0 (by omega) ?_
    conv => whnf
    refine Gets.loadN (j := e.fr.toNat) (k := .u64) (l := (a.ms j).map Int.ofNat) (ti := ⟨1, 8, false, [.int .u64 0]⟩) (by kernel_rfl) rfl rfl (by simp) hget ?_
    conv => whnf
    repeat (refine Gets.of _ rfl ?_; conv => whnf)
    refine CallPS.of (by kernel_rfl) (letters46i e a.props hp0 hp6 _) rfl ?_
    rintro _ _ ⟨rfl, rfl⟩
    conv => whnf
    refine ⟨fun _ i hi => rfl, ?_⟩
    conv => whnf
    repeat (refine Gets.of _ rfl ?_; conv => whnf)
    refine Gets.ixS (es := 1) rfl (by kernel_rfl) hf0 (by omega) ?_
    conv => whnf
    refine Gets.storeN (j := e.fr.toNat) (k := .u64) (es := 1) (l := (a.ms j).map Int.ofNat) (ti := ⟨1, 8, false, [.int .u64 0]⟩) (by kernel_rfl) rfl rfl (by simp) (by simpa using hlen) ?_
    rw [or64 hx64 (mask64 e hp6)]
    conv => whnf
    refine ⟨(fun h => by cases h), ?_⟩
    conv => whnf
    have hw : IntKind.wrap .i64 ((j : Int) + 1) = ((j + 1 : Nat) : Int) := by rw [wrap_i64 (by omega) (by omega)]; rfl
    refine ⟨j + 1, renL [0, 1, 2, 3] 5, by omega, by omega, ⟨rfl, rfl, rfl, rfl, rfl, rfl, congrArg (AVal.int .i64) hw, trivial⟩, ?_⟩
    refine Emb.lits [0, 1, 2, 3] rfl rfl rfl rfl (.cons ⟨rfl, rfl, fun h => h⟩ (.cons ⟨rfl, rfl, fun h => h⟩ .nil)) (.cons ⟨rfl, .roI⟩ (.cons ⟨rfl, .roI⟩ (.cons ⟨rfl, .inl rfl⟩ (.cons ⟨rfl, ?_⟩ .nil))))
    have : u64s (a.ms (j + 1)) = nums .u64 (((a.ms j).map Int.ofNat).set e.fr.toNat (((a.ms j).getD e.fr.toNat 0 ||| maskN e (2 ^ a.props.toNat) : Nat) : Int)) := by
      rw [u64s, a.ms_succ hc, hee, msStep, List.map_set]; rfl
    show BSub _ (.cells 1 (u64s (a.ms (j + 1)))) (.cells 1 (nums .u64 (((a.ms j).map Int.ofNat).set e.fr.toNat (((a.ms j).getD e.fr.toNat 0 ||| maskN e (2 ^ a.props.toNat) : Nat) : Int))))
    rw [this]
    exact .cellsK
  · have hje : j = a.es.length := by simp at hc; omega
    subst hje
    have := contains47p a hp0 hp6 (a.ms a.es.length) (by rw [a.ms_length]; omega)
    rw [a.ms_length] at this
    refine CallS.of (by kernel_rfl) this rfl ?_
    rintro _ _ ⟨rfl, b, rfl, hb'⟩
    conv => whnf
    exact ⟨_, _, rfl, .inr ⟨⟨hh, hs, he⟩, rfl, by rw [a.whole_iff ⟨hh, hs, he⟩] at hb'; cases b <;> simp_all⟩⟩
theorem complete17c (a : Au) (hf : a.Fits) (H : AHeap) (hn : Nat.ble 2 H.n = true) (h0 : H.f 0 = .ro 1 (ints a.start)) (h1 : H.f 1 = .ro 5 (ints (flat a.es))) : CallW Try.prog 17 [a.av] H fun v H' => H' = H ∧ ∃ b e, v = .tuple [.bool b, .int .i64 e] ∧ a.CompOk b e :=
  read2 (complete17 a hf) (by rintro v ⟨b, e, rfl, _⟩; rfl) H hn h0 h1 rfl
theorem whole30c (a : Au) (hf : a.Fits) (ho : a.Ok) (H : AHeap) (hn : Nat.ble 2 H.n = true) (h0 : H.f 0 = .ro 1 (ints a.start)) (h1 : H.f 1 = .ro 5 (ints (flat a.es))) : CallW Try.prog 30 [a.av] H fun v H' => H' = H ∧ ∃ b, v = .bool b ∧ (b = true ↔ a.WholeP) :=
  read2 (whole30 a hf ho) (by rintro v ⟨b, rfl, _⟩; rfl) H hn h0 h1 rfl
theorem complete18 (a : Au) (hf : a.Fits) : CallW Try.prog 18 [a.av] a.heap fun v _ => ∃ b e, v = .tuple [.bool b, .int .i64 e] ∧ a.CompOk b e := by
  refine CallW.sym Try.func18 rfl (by kernel_rfl) ?_
  conv => whnf
  iterate 1 (refine Gets.of _ rfl ?_; conv => whnf)
  refine CallS.of (by kernel_rfl) (valid24c a hf _ rfl rfl rfl) rfl ?_
  rintro _ _ ⟨rfl, b, rfl, hb⟩
  cases b <;> conv => whnf
  · exact ⟨_, _, rfl, .inl ⟨fun h => absurd (hb.2 h) (by simp), rfl, rfl⟩⟩
  have ho := hb.1 rfl
  iterate 1 (refine Gets.of _ rfl ?_; conv => whnf)
  refine CallS.of (by kernel_rfl) (whole30c a hf ho _ rfl rfl rfl) rfl ?_
  rintro _ _ ⟨rfl, b, rfl, hb'⟩
  conv => whnf
  exact ⟨_, _, rfl, .inr ⟨ho, rfl, hb'⟩⟩
theorem complete18c (a : Au) (hf : a.Fits) (H : AHeap) (hn : Nat.ble 2 H.n = true) (h0 : H.f 0 = .ro 1 (ints a.start)) (h1 : H.f 1 = .ro 5 (ints (flat a.es))) : CallW Try.prog 18 [a.av] H fun v H' => H' = H ∧ ∃ b e, v = .tuple [.bool b, .int .i64 e] ∧ a.CompOk b e :=
  read2 (complete18 a hf) (by rintro v ⟨b, e, rfl, _⟩; rfl) H hn h0 h1 rfl
end Go.Proofs.Ytdahmcgncpoliaa
