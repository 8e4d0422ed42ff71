/- The letters of an edge; the edges from a state with a letter. -/
import Derived.Test.YtdahmcgncpoliaaVhY
import Derived.Test.YtdahmcgncpoliaaVal
set_option linter.unusedVariables false
set_option linter.unusedSimpArgs false
set_option maxRecDepth 100000
namespace Go.Proofs.Ytdahmcgncpoliaa
open Go Go.Vh Go.Proofs
/-- What was shown where nothing but the automaton lies, holds wherever it lies under the same numbers. -/
theorem read2 {f : FuncId} {args : List AVal} {a : Au} {K : AVal → Prop} (h : CallW Try.prog f args a.heap fun v _ => K v) (hk : ∀ v, K v → noRef v = true) (H : AHeap) (hn : Nat.ble 2 H.n = true) (h0 : H.f 0 = .ro 1 (ints a.start)) (h1 : H.f 1 = .ro 5 (ints (flat a.es))) (ha : rens (renL [0, 1] H.n) args = args) :
    CallW Try.prog f args H fun v H' => H' = H ∧ K v := by
  have hn := Nat.le_of_ble_eq_true hn
  have := CallW.reads (H := H) h hk (renL [0, 1] H.n) (fun i hi => by
    have hi : i < 2 := hi
    rcases i with _ | _ | i
    · exact ⟨by show 0 < H.n; omega, fun h => h, by show BSub _ (.ro 1 (ints a.start)) (H.f 0); rw [h0]; exact .roI⟩
    · exact ⟨by show 1 < H.n; omega, fun h => h, by show BSub _ (.ro 5 (ints (flat a.es))) (H.f 1); rw [h1]; exact .roI⟩
    · omega) (fun i hi => by
    have hi : 2 ≤ i := hi
    show H.n ≤ (([0, 1] : List Nat)[i]?).getD (H.n + i)
    rw [List.getElem?_eq_none (by show 2 ≤ i; exact hi)]
    show H.n ≤ H.n + i
    omega)
  rwa [ha] at this
theorem valid23c (a : Au) (hf : a.Fits) (H : AHeap) (hn : Nat.ble 2 H.n = true) (h0 : H.f 0 = .ro 1 (ints a.start)) (h1 : H.f 1 = .ro 5 (ints (flat a.es))) : CallW Try.prog 23 [a.av] H fun v H' => H' = H ∧ ∃ b, v = .bool b ∧ (b = true ↔ a.Ok) :=
  read2 (valid23 a hf) (by rintro v ⟨b, rfl, _⟩; rfl) H hn h0 h1 rfl
theorem valid24c (a : Au) (hf : a.Fits) (H : AHeap) (hn : Nat.ble 2 H.n = true) (h0 : H.f 0 = .ro 1 (ints a.start)) (h1 : H.f 1 = .ro 5 (ints (flat a.es))) : CallW Try.prog 24 [a.av] H fun v H' => H' = H ∧ ∃ b, v = .bool b ∧ (b = true ↔ a.Ok) :=
  read2 (valid24 a hf) (by rintro v ⟨b, rfl, _⟩; rfl) H hn h0 h1 rfl
/-! ### Letters of an edge -/
def Edg.av (e : Edg) : AVal := .agg [.int .i64 e.fr, .int .i64 e.to, .int .i64 e.care, .int .i64 e.bits, .int .i64 e.marks]
def readsB (e : Edg) (l : Int) : Bool := bitsA .and .i64 l e.care == e.bits
def maskN (e : Edg) : Nat → Nat
  | 0 => 0
  | l + 1 => if readsB e l = true then maskN e l ||| 2 ^ l else maskN e l
theorem maskN_lt (e : Edg) : ∀ l, maskN e l < 2 ^ l
  | 0 => by simp [maskN]
  | l + 1 => by
    have h := maskN_lt e l
    have h2 : maskN e l < 2 ^ (l + 1) := Nat.lt_of_lt_of_le h (Nat.pow_le_pow_right (by decide) (by omega))
    simp only [maskN]
    split
    · exact Nat.or_lt_two_pow h2 (Nat.pow_lt_pow_right (by decide) (by omega))
    · exact h2
theorem maskN_bit (e : Edg) (i : Nat) : ∀ l, (maskN e l).testBit i = (decide (i < l) && readsB e i)
  | 0 => by simp [maskN]
  | l + 1 => by
    have h := maskN_bit e i l
    simp only [maskN]
    by_cases hr : readsB e l = true
    · rw [if_pos hr, Nat.testBit_or, h, Nat.testBit_two_pow]
      by_cases hi : l = i
      · subst hi; simp [hr]
      · have : (i < l + 1) = (i < l) := by apply propext; omega
        simp [hi, this]
    · rw [if_neg hr, h]
      by_cases hi : l = i
      · subst hi; simp [hr]
      · have : (i < l + 1) = (i < l) := by apply propext; omega
        simp [this]
theorem pow6 {p : Nat} (h : p ≤ 6) : 2 ^ p ≤ 64 := Nat.pow_le_pow_right (by decide) h
theorem letters46 (e : Edg) (p : Nat) (hp : p ≤ 6) : CallW Try.prog 46 [Edg.av e, .int .i64 p] emptyH fun v _ => v = .int .u64 (maskN e (2 ^ p) : Nat) := by
  have h64 := pow6 hp
  refine CallW.sym Try.func46 rfl (by kernel_rfl) ?_
  conv => whnf
  refine Gets.shl (by omega) ?_
  rw [shlI (by omega)]
  conv => whnf
  refine CodeS.loopS (σ := Nat) (fun j => [(1, .int .i64 p), (2, .ptr 0 0), (4, .int .u64 0), (5, .int .u64 (maskN e j : Nat)), (8, .int .i64 (2 ^ p : Nat)), (9, .int .i64 j)]) (fun _ => _) (fun j => j ≤ 2 ^ p) (fun j => 2 ^ p - j) 0 (by kernel_rfl) (Nat.zero_le _) ⟨rfl, rfl, rfl, rfl, rfl, rfl, trivial⟩ rfl ?_
  intro j hj
  conv => whnf
  refine Fork.mk (fun hc => ?_) (fun hc => ?_)
  all_goals conv => whnf
  · have hc : j < 2 ^ p := by simp only [decide_eq_true_eq] at hc; exact_mod_cast hc
    repeat' (refine Gets.of _ rfl ?_; conv => whnf)
    have hw : IntKind.wrap .i64 ((j : Int) + 1) = ((j + 1 : Nat) : Int) := by rw [wrap_i64 (by omega) (by omega)]; rfl
    refine Fork.mk (fun hr => ?_) (fun hr => ?_)
    all_goals conv => whnf
    · refine Gets.shl (by omega) ?_
      rw [shl64 (by omega)]
      conv => whnf
      refine ⟨j + 1, by omega, by omega, ⟨rfl, rfl, rfl, ?_, rfl, congrArg (AVal.int .i64) hw, trivial⟩, rfl⟩
      have hm := maskN_lt e j
      have h2 : maskN e j < 2 ^ 64 := Nat.lt_of_lt_of_le hm (Nat.pow_le_pow_right (by decide) (by omega))
      refine congrArg (AVal.int .u64) ?_
      refine (or64 h2 (Nat.pow_lt_pow_right (by decide) (by omega))).trans ?_
      have hr' : readsB e j = true := hr
      simp only [maskN, hr', if_true]
    · refine ⟨j + 1, by omega, by omega, ⟨rfl, rfl, rfl, ?_, rfl, congrArg (AVal.int .i64) hw, trivial⟩, rfl⟩
      have hr' : readsB e j = false := hr
      show AVal.int .u64 _ = _
      simp only [maskN, hr', Bool.false_eq_true, if_false]
  · have : j = 2 ^ p := by simp only [decide_eq_false_iff_not] at hc; have : ¬ j < 2 ^ p := fun h => hc (by exact_mod_cast h); omega
    subst this
    rfl
theorem letters46c (e : Edg) (p : Nat) (hp : p ≤ 6) (H : AHeap) : CallW Try.prog 46 [Edg.av e, .int .i64 p] H fun v H' => H' = H ∧ v = .int .u64 (maskN e (2 ^ p) : Nat) :=
  CallW.closed (letters46 e p hp) rfl (by rintro _ rfl; rfl) H
theorem letters46i (e : Edg) (p : Int) (h0 : 0 ≤ p) (hp : p ≤ 6) (H : AHeap) : CallW Try.prog 46 [Edg.av e, .int .i64 p] H fun v H' => H' = H ∧ v = .int .u64 (maskN e (2 ^ p.toNat) : Nat) := by
  obtain ⟨p, rfl⟩ := Int.eq_ofNat_of_zero_le h0
  exact letters46c e p (by omega) H
theorem mask64 (e : Edg) {p : Int} (hp : p ≤ 6) : maskN e (2 ^ p.toNat) < 2 ^ 64 := Nat.lt_of_lt_of_le (maskN_lt e _) (Nat.pow_le_pow_right (by decide) (pow6 (by omega)))
def msStep (p : Int) (l : List Nat) (e : Edg) : List Nat := l.set e.fr.toNat (l.getD e.fr.toNat 0 ||| maskN e (2 ^ p.toNat))
def Au.ms (a : Au) (j : Nat) : List Nat := (a.es.take j).foldl (msStep a.props) (List.replicate a.states.toNat 0)
theorem Au.ms_succ (a : Au) {j : Nat} (h : j < a.es.length) : a.ms (j + 1) = msStep a.props (a.ms j) a.es[j] := by
  simp only [Au.ms, List.take_succ_eq_append_getElem h, List.foldl_append, List.foldl_cons, List.foldl_nil]
theorem Au.ms_length (a : Au) (j : Nat) : (a.ms j).length = a.states.toNat := by
  have : ∀ (l : List Edg) (m : List Nat), (l.foldl (msStep a.props) m).length = m.length := by
    intro l
    induction l with
    | nil => intro m; rfl
    | cons e l ih => intro m; rw [List.foldl_cons, ih, msStep, List.length_set]
  rw [Au.ms, this, List.length_replicate]
theorem Au.ms_lt (a : Au) (hp : a.props ≤ 6) (j : Nat) : ∀ x ∈ a.ms j, x < 2 ^ 64 := by
  have : ∀ (l : List Edg) (m : List Nat), (∀ x ∈ m, x < 2 ^ 64) → ∀ x ∈ l.foldl (msStep a.props) m, x < 2 ^ 64 := by
    intro l
    induction l with
    | nil => intro m h; exact h
    | cons e l ih =>
      intro m h
      rw [List.foldl_cons]
      refine ih _ fun x hx => ?_
      unfold msStep at hx
      rcases List.mem_or_eq_of_mem_set hx with hx | rfl
      · exact h x hx
      · refine Nat.or_lt_two_pow ?_ (mask64 e hp)
        rw [List.getD_eq_getElem?_getD]
        cases hg : m[e.fr.toNat]? with
        | none => exact Nat.two_pow_pos 64
        | some y => exact h y (List.mem_of_getElem? hg)
  exact this _ _ (by intro x hx; rw [List.eq_of_mem_replicate hx]; exact Nat.two_pow_pos 64)
def u64s (l : List Nat) : List AVal := nums .u64 (l.map Int.ofNat)
/-- No edge so far has a letter in common with an earlier one of its state. -/
def Au.Sep (a : Au) (j : Nat) : Prop := ∀ i, (h : i < a.es.length) → i < j → (a.ms i).getD a.es[i].fr.toNat 0 &&& maskN a.es[i] (2 ^ a.props.toNat) = 0
def Au.heap3 (a : Au) : AHeap := a.heap.alloc a.box
theorem single45 (a : Au) (hf : a.Fits) (ho : a.Ok) : CallW Try.prog 45 [a.av] a.heap fun v G => (v = .tuple [.nilSlice, .bool false] ∧ ¬ a.Sep a.es.length ∧ G = a.heap) ∨ (v = .tuple [.slice 2 0 a.states.toNat, .bool true] ∧ a.Sep a.es.length ∧ G = a.heap.alloc (.cells 1 (u64s (a.ms a.es.length)))) := by
  obtain ⟨hh, hs, he⟩ := ho
  have hp0 := hh.1
  have hp6 := hh.2.1
  have hs0 := hh.2.2.1
  have hs1 := hh.2.2.2.1
  have hne := hh.2.2.2.2.2.2.2
  refine CallW.symR Try.func45 rfl (by kernel_rfl) ?_
  conv => whnf
  iterate 1 (refine Gets.of _ rfl ?_; conv => whnf)
  refine Gets.make (ti := ⟨1, 8, false, [.int .u64 0]⟩) (by kernel_rfl) rfl rfl (by decide) hs0 (by omega) ?_
  conv => whnf
  iterate 2 (refine Gets.of _ rfl ?_; conv => whnf)
  refine CodeS.loopG (σ := Nat) (fun j => [(1, .ptr 2 0), (2, .nilSlice), (3, .bool false), (4, .slice 3 0 a.states.toNat), (12, .view 1 0 a.es.length), (13, .int .i64 a.es.length), (14, .int .i64 j)]) (fun j => (a.heap.alloc a.box).alloc (.cells 1 (u64s (a.ms j)))) (fun j => j ≤ a.es.length ∧ a.Sep j) (fun j => a.es.length - j) 0 (renL [0, 1, 2, 3] 4) (by kernel_rfl)
    ⟨Nat.zero_le _, fun i h1 h2 => absurd h2 (Nat.not_lt_zero _)⟩ ⟨rfl, rfl, rfl, rfl, rfl, rfl, rfl, trivial⟩ ?_ ?_
  · refine Emb.lits [0, 1, 2, 3] rfl rfl rfl rfl (.cons ⟨rfl, rfl, fun h => h⟩ (.cons ⟨rfl, rfl, fun h => h⟩ .nil)) (.cons ⟨rfl, .roI⟩ (.cons ⟨rfl, .roI⟩ (.cons ⟨rfl, .inl rfl⟩ (.cons ⟨rfl, ?_⟩ .nil))))
    have : u64s (a.ms 0) = nums .u64 (List.replicate a.states.toNat 0) := by simp [u64s, Au.ms]
    show BSub _ (.cells 1 (u64s (a.ms 0))) (.cells 1 (nums .u64 (List.replicate a.states.toNat 0)))
    rw [this]
    exact .cellsK
  rintro j ⟨g1, g2⟩
  conv => whnf
  refine Fork.mk (fun hc => ?_) (fun hc => ?_)
  all_goals conv => whnf
  · have hc : j < a.es.length := by simp at hc; omega
    refine Gets.ixV (es := 5) rfl (by kernel_rfl) (by omega) (by omega) ?_
    conv => whnf
    refine Gets.loadE (j := j) (es := a.es) (ti := ⟨5, 40, true, [.int .i64 0, .int .i64 0, .int .i64 0, .int .i64 0, .int .i64 0]⟩) (by kernel_rfl) rfl rfl rfl (by simp) hc ?_
    have hok := he _ (List.getElem_mem hc)
    generalize hee : a.es[j] = e at hok
    have hf0 := hok.1
    have hf1 := hok.2.1
    conv => whnf
    iterate 3 (refine Gets.of _ rfl ?_; conv => whnf)
    refine CallS.of (by kernel_rfl) (letters46i e a.props hp0 hp6 _) rfl ?_
    rintro _ _ ⟨rfl, rfl⟩
    conv => whnf
    iterate 1 (refine Gets.of _ rfl ?_; conv => whnf)
    have hlen : e.fr.toNat < (a.ms j).length := by rw [Au.ms_length]; omega
    refine Gets.ixS (es := 1) rfl (by kernel_rfl) hf0 (by omega) ?_
    conv => whnf
    have hget : ((a.ms j).map Int.ofNat)[e.fr.toNat]? = some (((a.ms j).getD e.fr.toNat 0 : Nat) : Int) := by
      rw [List.getElem?_map, List.getD_eq_getElem?_getD, List.getElem?_eq_getElem hlen]; rfl
    have hx64 : (a.ms j).getD e.fr.toNat 0 < 2 ^ 64 := by
      rw [List.getD_eq_getElem?_getD, List.getElem?_eq_getElem hlen]
      exact a.ms_lt hp6 j _ (List.getElem_mem hlen)
    refine Gets.loadN (j := e.fr.toNat) (k := .u64) (l := (a.ms j).map Int.ofNat) (ti := ⟨1, 8, false, [.int .u64 0]⟩) (by kernel_rfl) rfl rfl (by simp) hget ?_
    conv => whnf
    rw [and64 hx64 (mask64 e hp6)]
    refine Fork.mk (fun hd => ?_) (fun hd => ?_)
    all_goals conv => whnf
    · refine ⟨renL [0, 1] 5, .tuple [.nilSlice, .bool false], a.heap, Emb.lits [0, 1] rfl rfl rfl rfl (.cons ⟨rfl, rfl, fun h => h⟩ (.cons ⟨rfl, rfl, fun h => h⟩ .nil)) (.cons ⟨rfl, .roI⟩ (.cons ⟨rfl, .roI⟩ .nil)), rfl, .inl ⟨rfl, fun hsep => ?_, rfl⟩⟩
      have h := hsep j hc hc
      rw [hee] at h
      simp only [bne_iff_ne, ne_eq] at hd
      exact hd (by exact_mod_cast h)
    have hz : (a.ms j).getD e.fr.toNat 0 &&& maskN e (2 ^ a.props.toNat) = 0 := by
      simp only [bne_eq_false_iff_eq] at hd
      exact_mod_cast hd
    iterate 1 (refine Gets.of _ rfl ?_; conv => whnf)
    refine Gets.ixS (es := 1) rfl (by kernel_rfl) hf0 (by omega) ?_
    conv => whnf
    refine Gets.loadN (j := e.fr.toNat) (k := .u64) (l := (a.ms j).map Int.ofNat) (ti := ⟨1, 8, false, [.int .u64 0]⟩) (by kernel_rfl) rfl rfl (by simp) hget ?_
    conv => whnf
    refine Gets.ixS (es := 1) rfl (by kernel_rfl) hf0 (by omega) ?_
    conv => whnf
    refine Gets.storeN (j := e.fr.toNat) (k := .u64) (es := 1) (l := (a.ms j).map Int.ofNat) (ti := ⟨1, 8, false, [.int .u64 0]⟩) (by kernel_rfl) rfl rfl (by simp) (by simpa using hlen) ?_
    rw [or64 hx64 (mask64 e hp6)]
    conv => whnf
    have hw : IntKind.wrap .i64 ((j : Int) + 1) = ((j + 1 : Nat) : Int) := by rw [wrap_i64 (by omega) (by omega)]; rfl
    refine ⟨j + 1, renL [0, 1, 2, 3] 5, ⟨by omega, fun i h1 h2 => ?_⟩, by omega, ⟨rfl, rfl, rfl, rfl, rfl, rfl, congrArg (AVal.int .i64) hw, trivial⟩, ?_⟩
    · rcases Nat.lt_or_ge i j with h3 | h3
      · exact g2 i h1 h3
      · obtain rfl : i = j := by omega
        rw [hee]; exact hz
    · refine Emb.lits [0, 1, 2, 3] rfl rfl rfl rfl (.cons ⟨rfl, rfl, fun h => h⟩ (.cons ⟨rfl, rfl, fun h => h⟩ .nil)) (.cons ⟨rfl, .roI⟩ (.cons ⟨rfl, .roI⟩ (.cons ⟨rfl, .inl rfl⟩ (.cons ⟨rfl, ?_⟩ .nil))))
      have : u64s (a.ms (j + 1)) = nums .u64 (((a.ms j).map Int.ofNat).set e.fr.toNat (((a.ms j).getD e.fr.toNat 0 ||| maskN e (2 ^ a.props.toNat) : Nat) : Int)) := by
        rw [u64s, a.ms_succ hc, hee, msStep, List.map_set]; rfl
      show BSub _ (.cells 1 (u64s (a.ms (j + 1)))) (.cells 1 (nums .u64 (((a.ms j).map Int.ofNat).set e.fr.toNat (((a.ms j).getD e.fr.toNat 0 ||| maskN e (2 ^ a.props.toNat) : Nat) : Int))))
      rw [this]
      exact .cellsK
  · have hje : j = a.es.length := by simp at hc; omega
    subst hje
    refine ⟨renL [0, 1, 3] 4, .tuple [.slice 2 0 a.states.toNat, .bool true], a.heap.alloc (.cells 1 (u64s (a.ms a.es.length))), Emb.lits [0, 1, 3] rfl rfl rfl rfl (.cons ⟨rfl, rfl, fun h => h⟩ (.cons ⟨rfl, rfl, fun h => h⟩ .nil)) (.cons ⟨rfl, .roI⟩ (.cons ⟨rfl, .roI⟩ (.cons ⟨rfl, .cellsK⟩ .nil))), rfl, .inr ⟨rfl, g2, rfl⟩⟩
end Go.Proofs.Ytdahmcgncpoliaa
