/- Which states can be reached: the reference. -/
import Derived.Test.YtdahmcgncpoliaaCmp
set_option linter.unusedVariables false
set_option linter.unusedSimpArgs false
set_option maxRecDepth 100000
namespace Go.Proofs.Ytdahmcgncpoliaa
open Go Go.Vh Go.Proofs
inductive Au.Rch (a : Au) : Nat → Prop
  | start {x : Int} : x ∈ a.start → a.Rch x.toNat
  | step {e : Edg} : e ∈ a.es → a.Rch e.fr.toNat → a.Rch e.to.toNat
def Au.IsRch (a : Au) (l : List Bool) : Prop := l.length = a.states.toNat ∧ ∀ t, t < a.states.toNat → (l[t]? = some true ↔ a.Rch t)
theorem Au.IsRch.same {a : Au} {l m : List Bool} (h : a.IsRch l) (k : a.IsRch m) : l = m := by
  apply List.ext_getElem?
  intro t
  by_cases ht : t < a.states.toNat
  · have h1 := h.2 t ht
    have k1 := k.2 t ht
    have hl : t < l.length := by rw [h.1]; exact ht
    have hm : t < m.length := by rw [k.1]; exact ht
    rw [List.getElem?_eq_getElem hl] at h1 ⊢
    rw [List.getElem?_eq_getElem hm] at k1 ⊢
    have := h1.trans k1.symm
    cases hx : l[t] <;> cases hy : m[t] <;> simp_all
  · rw [List.getElem?_eq_none (by rw [h.1]; omega), List.getElem?_eq_none (by rw [k.1]; omega)]
theorem Au.start_in {a : Au} (ho : a.Ok) : ∀ x ∈ a.start, 0 ≤ x ∧ x < a.states := by
  intro x hx
  obtain ⟨j, hj, rfl⟩ := List.getElem_of_mem hx
  have := ho.2.1 j hj
  unfold Au.StartOk at this
  rw [List.getD_eq_getElem?_getD, List.getElem?_eq_getElem hj, Option.getD_some] at this
  exact ⟨this.1, this.2.1⟩
theorem Au.rch_lt {a : Au} (ho : a.Ok) {t : Nat} (h : a.Rch t) : t < a.states.toNat := by
  cases h with
  | start hx => have := a.start_in ho _ hx; omega
  | step he _ => have := ho.2.2 _ he; obtain ⟨_, _, h1, h2, _⟩ := this; omega
def setT (l : List Bool) (x : Int) : List Bool := l.set x.toNat true
theorem setT_length (l : List Bool) (x : Int) : (setT l x).length = l.length := by simp [setT]
theorem setT_get {l : List Bool} {x : Int} {t : Nat} (ht : t < l.length) : (setT l x)[t]? = some true ↔ t = x.toNat ∨ l[t]? = some true := by
  unfold setT
  rw [List.getElem?_set]
  by_cases h : x.toNat = t
  · rw [if_pos h, if_pos (by omega)]; simp [h]
  · rw [if_neg h]
    constructor
    · exact .inr
    · rintro (rfl | h1)
      · exact absurd rfl h
      · exact h1
def falses (l : List Bool) : Nat := l.count false
theorem falses_set {l : List Bool} {x : Int} (h : l[x.toNat]? = some false) : falses (setT l x) + 1 = falses l := by
  unfold falses setT
  obtain ⟨hl, he⟩ := List.getElem?_eq_some_iff.1 h
  have hpos : 0 < l.count false := List.count_pos_iff.2 (he ▸ List.getElem_mem hl)
  rw [List.count_set hl, he]
  simp
  omega
def foldT (l : List Bool) (xs : List Int) : List Bool := xs.foldl setT l
theorem foldT_length : ∀ (xs : List Int) (l : List Bool), (foldT l xs).length = l.length
  | [], l => rfl
  | x :: xs, l => by show (foldT (setT l x) xs).length = _; rw [foldT_length xs, setT_length]
theorem foldT_get : ∀ (xs : List Int) (l : List Bool) (t : Nat), t < l.length → ((foldT l xs)[t]? = some true ↔ (∃ x ∈ xs, t = x.toNat) ∨ l[t]? = some true)
  | [], l, t, _ => by simp [foldT]
  | x :: xs, l, t, h => by
    show (foldT (setT l x) xs)[t]? = some true ↔ _
    rw [foldT_get xs _ t (by rw [setT_length]; exact h), setT_get h]
    constructor
    · rintro (⟨y, hy, rfl⟩ | rfl | h1)
      · exact .inl ⟨y, List.mem_cons_of_mem _ hy, rfl⟩
      · exact .inl ⟨x, List.mem_cons_self .., rfl⟩
      · exact .inr h1
    · rintro (⟨y, hy, rfl⟩ | h1)
      · rcases List.mem_cons.1 hy with rfl | hy
        · exact .inr (.inl rfl)
        · exact .inl ⟨y, hy, rfl⟩
      · exact .inr (.inr h1)
theorem foldT_snoc (l : List Bool) (xs : List Int) (x : Int) : foldT l (xs ++ [x]) = setT (foldT l xs) x := by simp [foldT]
/-- What is known of the marked states. -/
structure Au.Mk (a : Au) (l : List Bool) : Prop where
  len : l.length = a.states.toNat
  sound : ∀ t, l[t]? = some true → a.Rch t
  start : ∀ x ∈ a.start, l[x.toNat]? = some true
theorem Au.Mk.set {a : Au} {l : List Bool} (h : a.Mk l) {e : Edg} (he : e ∈ a.es) (hf : l[e.fr.toNat]? = some true) : a.Mk (setT l e.to) := by
  refine ⟨by rw [setT_length]; exact h.len, fun t ht => ?_, fun x hx => ?_⟩
  · have htl : t < l.length := by
      rcases Nat.lt_or_ge t l.length with h1 | h1
      · exact h1
      · rw [List.getElem?_eq_none (by rw [setT_length]; exact h1)] at ht; cases ht
    rcases (setT_get htl).1 ht with rfl | h1
    · exact .step he (h.sound _ hf)
    · exact h.sound t h1
  · have := h.start x hx
    have htl : x.toNat < l.length := (List.getElem?_eq_some_iff.1 this).1
    exact (setT_get htl).2 (.inr this)
def Au.Clo (l : List Bool) (es : List Edg) : Prop := ∀ e ∈ es, l[e.fr.toNat]? = some true → l[e.to.toNat]? = some true
theorem Au.Mk.isRch {a : Au} {l : List Bool} (h : a.Mk l) (hc : Au.Clo l a.es) : a.IsRch l := by
  refine ⟨h.len, fun t ht => ⟨h.sound t, fun hr => ?_⟩⟩
  clear ht
  induction hr with
  | start hx => exact h.start _ hx
  | step he _ ih => exact hc _ he ih
def Au.hB (a : Au) (l : List Bool) : AHeap := (a.heap.alloc a.box).alloc (.cells 1 (bls l))
theorem reached51 (a : Au) (hf : a.Fits) (ho : a.Ok) : CallW Try.prog 51 [a.av] a.heap fun v G => ∃ l, a.IsRch l ∧ v = .slice 2 0 a.states.toNat ∧ G = a.heap.alloc (.cells 1 (bls l)) := by
  obtain ⟨hh, hs, he⟩ := id ho
  have hs0 := hh.2.2.1
  have hs1 := hh.2.2.2.1
  have hne := hh.2.2.2.2.2.2.2
  have hsi := a.start_in ho
  have hns : a.start.length ≤ 4294967296 := hf.ns
  refine CallW.symR Try.func51 rfl (by kernel_rfl) ?_
  conv => whnf
  repeat (refine Gets.of _ rfl ?_; conv => whnf)
  refine Gets.makeB (k := 1) (ti := ⟨1, 1, false, [.bool false]⟩) (by kernel_rfl) rfl (by decide) rfl (by decide) hs0 (by omega) ?_
  conv => whnf
  repeat (refine Gets.of _ rfl ?_; conv => whnf)
  have hrep : ∀ j, (foldT (List.replicate a.states.toNat false) (a.start.take j)).length = a.states.toNat := fun j => by rw [foldT_length, List.length_replicate]
  refine CodeS.loopG (σ := Nat) (fun j => [(1, .ptr 2 0), (2, .nilSlice), (3, .slice 3 0 a.states.toNat), (13, .view 0 0 a.start.length), (14, .int .i64 a.start.length), (15, .int .i64 j)]) (fun j => a.hB (foldT (List.replicate a.states.toNat false) (a.start.take j))) (fun j => j ≤ a.start.length) (fun j => a.start.length - j) 0 (renL [0, 1, 2, 3] 4) (by kernel_rfl)
    (Nat.zero_le _) ⟨rfl, rfl, rfl, rfl, rfl, rfl, trivial⟩ ?_ ?_
  · refine Emb.lits [0, 1, 2, 3] rfl rfl rfl rfl (.cons ⟨rfl, rfl, fun h => h⟩ (.cons ⟨rfl, rfl, fun h => h⟩ .nil)) (.cons ⟨rfl, .roI⟩ (.cons ⟨rfl, .roI⟩ (.cons ⟨rfl, .inl rfl⟩ (.cons ⟨rfl, ?_⟩ .nil))))
    show BSub _ (.cells 1 (bls (List.replicate a.states.toNat false))) (.cells 1 (bls (List.replicate (a.states.toNat * 1) false)))
    rw [Nat.mul_one]
    exact .cellsB
  intro j g1
  conv => whnf
  refine Fork.mk (fun hc => ?_) (fun hc => ?_)
  all_goals conv => whnf
  · have hc : j < a.start.length := by simp at hc; omega
    have hlen := hrep j
    have hx := hsi _ (List.getElem_mem hc)
    refine Gets.ixV (es := 1) rfl (by kernel_rfl) (by omega) (by omega) ?_
    conv => whnf
    refine Gets.loadN (j := j) (k := .i64) (l := a.start) (x := a.start[j]) (ti := ⟨1, 8, false, [.int .i64 0]⟩) (by kernel_rfl) rfl rfl (by simp) (List.getElem?_eq_getElem hc) ?_
    have hsn : foldT (List.replicate a.states.toNat false) (a.start.take (j + 1)) = setT (foldT (List.replicate a.states.toNat false) (a.start.take j)) a.start[j] := by
      rw [List.take_succ_eq_append_getElem hc, foldT_snoc]
    generalize a.start[j] = x at hx hsn
    generalize foldT (List.replicate a.states.toNat false) (a.start.take j) = l at hlen hsn
    conv => whnf
    refine Gets.ixS (es := 1) rfl (by kernel_rfl) hx.1 (by omega) ?_
    conv => whnf
    refine Gets.storeB (j := x.toNat) (es := 1) (l := l) (ti := ⟨1, 1, false, [.bool false]⟩) (by kernel_rfl) rfl rfl (by simp) (by omega) ?_
    conv => whnf
    have hw : IntKind.wrap .i64 ((j : Int) + 1) = ((j + 1 : Nat) : Int) := by rw [wrap_i64 (by omega) (by omega)]; rfl
    refine ⟨j + 1, renL [0, 1, 2, 3] 4, by omega, by omega, ⟨rfl, rfl, rfl, rfl, rfl, congrArg (AVal.int .i64) hw, trivial⟩, ?_⟩
    refine Emb.lits [0, 1, 2, 3] rfl rfl rfl rfl (.cons ⟨rfl, rfl, fun h => h⟩ (.cons ⟨rfl, rfl, fun h => h⟩ .nil)) (.cons ⟨rfl, .roI⟩ (.cons ⟨rfl, .roI⟩ (.cons ⟨rfl, .inl rfl⟩ (.cons ⟨rfl, ?_⟩ .nil))))
    show BSub _ (.cells 1 (bls (foldT (List.replicate a.states.toNat false) (a.start.take (j + 1))))) (.cells 1 (bls (l.set x.toNat true)))
    rw [hsn]
    exact .cellsB
  have hje : j = a.start.length := by simp at hc; omega
  subst hje
  clear hc g1
  have hm0 : a.Mk (foldT (List.replicate a.states.toNat false) (a.start.take a.start.length)) := by
    rw [List.take_length]
    refine ⟨by rw [foldT_length, List.length_replicate], fun t ht => ?_, fun x hx => ?_⟩
    · have htl : t < (List.replicate a.states.toNat false).length := by
        rw [← foldT_length a.start]; exact (List.getElem?_eq_some_iff.1 ht).1
      rcases (foldT_get a.start _ t htl).1 ht with ⟨x, hx, rfl⟩ | h1
      · exact .start hx
      · rw [List.getElem?_replicate] at h1; split at h1 <;> simp at h1
    · have := hsi x hx
      exact (foldT_get a.start _ x.toNat (by rw [List.length_replicate]; omega)).2 (.inl ⟨x, hx, rfl⟩)
  generalize foldT (List.replicate a.states.toNat false) (a.start.take a.start.length) = l0 at hm0
  refine CodeS.loopG (σ := List Bool × Bool) (fun s => [(1, .ptr 2 0), (2, .nilSlice), (3, .slice 3 0 a.states.toNat), (6, .bool s.2)]) (fun s => a.hB s.1) (fun s => a.Mk s.1 ∧ (s.2 = false → Au.Clo s.1 a.es)) (fun s => 2 * falses s.1 + (if s.2 then 1 else 0)) (l0, true) (renL [0, 1, 2, 3] 4) (by kernel_rfl)
    ⟨hm0, fun h => by cases h⟩ ⟨rfl, rfl, rfl, rfl, trivial⟩ ?_ ?_
  · exact Emb.lits [0, 1, 2, 3] rfl rfl rfl rfl (.cons ⟨rfl, rfl, fun h => h⟩ (.cons ⟨rfl, rfl, fun h => h⟩ .nil)) (.cons ⟨rfl, .roI⟩ (.cons ⟨rfl, .roI⟩ (.cons ⟨rfl, .inl rfl⟩ (.cons ⟨rfl, .cellsB⟩ .nil))))
  clear hm0 l0 hrep
  rintro ⟨l, more⟩ ⟨hm, hclo⟩
  cases more
  all_goals conv => whnf
  · refine ⟨renL [0, 1, 3] 4, .slice 2 0 a.states.toNat, a.heap.alloc (.cells 1 (bls l)), Emb.lits [0, 1, 3] rfl rfl rfl rfl (.cons ⟨rfl, rfl, fun h => h⟩ (.cons ⟨rfl, rfl, fun h => h⟩ .nil)) (.cons ⟨rfl, .roI⟩ (.cons ⟨rfl, .roI⟩ (.cons ⟨rfl, .cellsB⟩ .nil))), rfl, l, hm.isRch (hclo rfl), rfl, rfl⟩
  repeat (refine Gets.of _ rfl ?_; conv => whnf)
  refine CodeS.loopG (σ := Nat × List Bool × Bool) (fun s => [(1, .ptr 2 0), (2, .nilSlice), (3, .slice 3 0 a.states.toNat), (6, .bool s.2.2), (25, .view 1 0 a.es.length), (26, .int .i64 a.es.length), (27, .int .i64 s.1)]) (fun s => a.hB s.2.1) (fun s => s.1 ≤ a.es.length ∧ a.Mk s.2.1 ∧ (s.2.2 = false → s.2.1 = l ∧ Au.Clo l (a.es.take s.1)) ∧ (s.2.2 = true → falses s.2.1 < falses l)) (fun s => a.es.length - s.1) (0, l, false) (renL [0, 1, 2, 3] 4) (by kernel_rfl)
    ⟨Nat.zero_le _, hm, fun _ => ⟨rfl, by intro e h; simp at h⟩, fun h => by cases h⟩ ⟨rfl, rfl, rfl, rfl, rfl, rfl, rfl, trivial⟩ ?_ ?_
  · exact Emb.lits [0, 1, 2, 3] rfl rfl rfl rfl (.cons ⟨rfl, rfl, fun h => h⟩ (.cons ⟨rfl, rfl, fun h => h⟩ .nil)) (.cons ⟨rfl, .roI⟩ (.cons ⟨rfl, .roI⟩ (.cons ⟨rfl, .inl rfl⟩ (.cons ⟨rfl, .cellsB⟩ .nil))))
  have hm0 := hm
  clear hm hclo
  rintro ⟨j, m, more⟩ ⟨g1, hm, hno, hyes⟩
  dsimp only at g1 hm hno hyes
  conv => whnf
  refine Fork.mk (fun hc => ?_) (fun hc => ?_)
  all_goals conv => whnf
  · have hc : j < a.es.length := by simp at hc; omega
    refine Gets.ixV (es := 5) rfl (by kernel_rfl) (by omega) (by omega) ?_
    conv => whnf
    refine Gets.loadE (j := j) (es := a.es) (ti := ⟨5, 40, true, [.int .i64 0, .int .i64 0, .int .i64 0, .int .i64 0, .int .i64 0]⟩) (by kernel_rfl) rfl rfl rfl (by simp) hc ?_
    have hok := he _ (List.getElem_mem hc)
    have hmem := List.getElem_mem hc
    have htk : a.es.take (j + 1) = a.es.take j ++ [a.es[j]] := List.take_succ_eq_append_getElem hc
    generalize a.es[j] = e at hok hmem htk
    obtain ⟨hf0, hf1, ht0, ht1, _⟩ := hok
    have hlen := hm.len
    obtain ⟨bf, hbf⟩ : ∃ b, m[e.fr.toNat]? = some b := ⟨_, List.getElem?_eq_getElem (by omega)⟩
    obtain ⟨bt, hbt⟩ : ∃ b, m[e.to.toNat]? = some b := ⟨_, List.getElem?_eq_getElem (by omega)⟩
    have hw : IntKind.wrap .i64 ((j : Int) + 1) = ((j + 1 : Nat) : Int) := by rw [wrap_i64 (by omega) (by omega)]; rfl
    conv => whnf
    repeat (refine Gets.of _ rfl ?_; conv => whnf)
    refine Gets.ixS (es := 1) rfl (by kernel_rfl) hf0 (by omega) ?_
    conv => whnf
    refine Gets.loadB (j := e.fr.toNat) (l := m) (b := bf) (ti := ⟨1, 1, false, [.bool false]⟩) (by kernel_rfl) rfl rfl (by simp) hbf ?_
    cases bf
    all_goals conv => whnf
    · refine ⟨(j + 1, m, more), renL [0, 1, 2, 3] 5, ⟨by show j + 1 ≤ _; omega, hm, fun h => ?_, hyes⟩, by show a.es.length - (j + 1) < a.es.length - j; omega, ⟨rfl, rfl, rfl, rfl, rfl, rfl, congrArg (AVal.int .i64) hw, trivial⟩, Emb.lits [0, 1, 2, 3] rfl rfl rfl rfl (.cons ⟨rfl, rfl, fun h => h⟩ (.cons ⟨rfl, rfl, fun h => h⟩ .nil)) (.cons ⟨rfl, .roI⟩ (.cons ⟨rfl, .roI⟩ (.cons ⟨rfl, .inl rfl⟩ (.cons ⟨rfl, .cellsB⟩ .nil))))⟩
      obtain ⟨rfl, h2⟩ := hno h
      refine ⟨rfl, ?_⟩
      show Au.Clo m (a.es.take (j + 1))
      rw [htk]
      intro e' he' hfr
      rcases List.mem_append.1 he' with h3 | h3
      · exact h2 e' h3 hfr
      · rw [List.mem_singleton.1 h3] at hfr
        rw [hbf] at hfr; cases hfr
    repeat (refine Gets.of _ rfl ?_; conv => whnf)
    refine Gets.ixS (es := 1) rfl (by kernel_rfl) ht0 (by omega) ?_
    conv => whnf
    refine Gets.loadB (j := e.to.toNat) (l := m) (b := bt) (ti := ⟨1, 1, false, [.bool false]⟩) (by kernel_rfl) rfl rfl (by simp) hbt ?_
    cases bt
    all_goals conv => whnf
    · repeat (refine Gets.of _ rfl ?_; conv => whnf)
      refine Gets.ixS (es := 1) rfl (by kernel_rfl) ht0 (by omega) ?_
      conv => whnf
      refine Gets.storeB (j := e.to.toNat) (es := 1) (l := m) (ti := ⟨1, 1, false, [.bool false]⟩) (by kernel_rfl) rfl rfl (by simp) (by omega) ?_
      conv => whnf
      refine ⟨(j + 1, setT m e.to, true), renL [0, 1, 2, 3] 5, ⟨by show j + 1 ≤ _; omega, hm.set hmem hbf, (fun h => by cases h), fun _ => ?_⟩, by show a.es.length - (j + 1) < a.es.length - j; omega, ⟨rfl, rfl, rfl, rfl, rfl, rfl, congrArg (AVal.int .i64) hw, trivial⟩, Emb.lits [0, 1, 2, 3] rfl rfl rfl rfl (.cons ⟨rfl, rfl, fun h => h⟩ (.cons ⟨rfl, rfl, fun h => h⟩ .nil)) (.cons ⟨rfl, .roI⟩ (.cons ⟨rfl, .roI⟩ (.cons ⟨rfl, .inl rfl⟩ (.cons ⟨rfl, .cellsB⟩ .nil))))⟩
      have h1 := falses_set hbt
      show falses (setT m e.to) < falses l
      cases more with
      | false => obtain ⟨rfl, _⟩ := hno rfl; omega
      | true => have := hyes rfl; omega
    · refine ⟨(j + 1, m, more), renL [0, 1, 2, 3] 5, ⟨by show j + 1 ≤ _; omega, hm, fun h => ?_, hyes⟩, by show a.es.length - (j + 1) < a.es.length - j; omega, ⟨rfl, rfl, rfl, rfl, rfl, rfl, congrArg (AVal.int .i64) hw, trivial⟩, Emb.lits [0, 1, 2, 3] rfl rfl rfl rfl (.cons ⟨rfl, rfl, fun h => h⟩ (.cons ⟨rfl, rfl, fun h => h⟩ .nil)) (.cons ⟨rfl, .roI⟩ (.cons ⟨rfl, .roI⟩ (.cons ⟨rfl, .inl rfl⟩ (.cons ⟨rfl, .cellsB⟩ .nil))))⟩
      obtain ⟨rfl, h2⟩ := hno h
      refine ⟨rfl, ?_⟩
      show Au.Clo m (a.es.take (j + 1))
      rw [htk]
      intro e' he' hfr
      rcases List.mem_append.1 he' with h3 | h3
      · exact h2 e' h3 hfr
      · rw [List.mem_singleton.1 h3]; exact hbt
  · have hje : j = a.es.length := by simp at hc; omega
    subst hje
    refine ⟨(m, more), renL [0, 1, 2, 3] 4, ⟨hm, fun h => ?_⟩, ?_, ⟨rfl, rfl, rfl, rfl, trivial⟩, Emb.lits [0, 1, 2, 3] rfl rfl rfl rfl (.cons ⟨rfl, rfl, fun h => h⟩ (.cons ⟨rfl, rfl, fun h => h⟩ .nil)) (.cons ⟨rfl, .roI⟩ (.cons ⟨rfl, .roI⟩ (.cons ⟨rfl, .inl rfl⟩ (.cons ⟨rfl, .cellsB⟩ .nil))))⟩
    · obtain ⟨rfl, h2⟩ := hno h
      rw [List.take_length] at h2
      exact h2
    · show 2 * falses m + (if more = true then 1 else 0) < 2 * falses l + 1
      cases more with
      | false => obtain ⟨rfl, _⟩ := hno rfl; simp
      | true => have := hyes rfl; simp; omega
theorem reached51c (a : Au) (hf : a.Fits) (ho : a.Ok) (H : AHeap) (hn : Nat.ble 2 H.n = true) (h0 : H.f 0 = .ro 1 (ints a.start)) (h1 : H.f 1 = .ro 5 (ints (flat a.es))) :
    CallW Try.prog 51 [a.av] H fun v G => ∃ l, a.IsRch l ∧ v = .slice H.n 0 a.states.toNat ∧ G = H.alloc (.cells 1 (bls l)) := by
  have hA : CallA Try.prog 51 [a.av] a.heap fun v bs => ∃ l, a.IsRch l ∧ v = .slice 2 0 a.states.toNat ∧ bs = [.cells 1 (bls l)] := (reached51 a hf ho).mono fun v G ⟨l, h1, h2, h3⟩ => ⟨[.cells 1 (bls l)], h3, by simp [ABlk.fresh], l, h1, h2, rfl⟩
  refine (frame2 hA H hn h0 h1 rfl).mono ?_
  rintro v G ⟨v', bs, ⟨l, k1, rfl, rfl⟩, rfl, rfl⟩
  refine ⟨l, k1, rfl, ?_⟩
  show H.alloc (renB _ (.cells 1 (bls l))) = _
  rw [renB, rens_bls]
/-- What Reach answers, and what it makes. -/
def Au.ReachK (a : Au) (n : Nat) (v : AVal) (bs : List ABlk) : Prop :=
  (¬ a.Ok ∧ v = .tuple [.nilSlice, .int .i64 1] ∧ bs = []) ∨ (a.Ok ∧ ∃ l, a.IsRch l ∧ v = .tuple [.slice n 0 a.states.toNat, .int .i64 0] ∧ bs = [.cells 1 (bls l)])
theorem reachK_frame (a : Au) {f : FuncId} (h : CallW Try.prog f [a.av] a.heap fun v G => ∃ bs, a.ReachK 2 v bs ∧ G = a.heap.allocs bs) (H : AHeap) (hn : Nat.ble 2 H.n = true) (h0 : H.f 0 = .ro 1 (ints a.start)) (h1 : H.f 1 = .ro 5 (ints (flat a.es))) :
    CallW Try.prog f [a.av] H fun v G => ∃ bs, a.ReachK H.n v bs ∧ G = H.allocs bs := by
  have hA : CallA Try.prog f [a.av] a.heap (a.ReachK 2) := h.mono fun v G ⟨bs, hk, hG⟩ => ⟨bs, hG, fun b hb => by
    rcases hk with ⟨_, _, rfl⟩ | ⟨_, _, _, _, rfl⟩
    · cases hb
    · rw [List.mem_singleton.1 hb]; trivial, hk⟩
  refine (frame2 hA H hn h0 h1 rfl).mono ?_
  rintro v G ⟨v', bs, hk, rfl, rfl⟩
  rcases hk with ⟨k1, rfl, rfl⟩ | ⟨k1, l, k2, rfl, rfl⟩
  · exact ⟨_, .inl ⟨k1, rfl, rfl⟩, rfl⟩
  · refine ⟨_, .inr ⟨k1, l, k2, rfl, rfl⟩, ?_⟩
    show H.alloc (renB _ (.cells 1 (bls l))) = _
    rw [renB, rens_bls]
    rfl
theorem reach20 (a : Au) (hf : a.Fits) : CallW Try.prog 20 [a.av] a.heap fun v G => ∃ bs, a.ReachK 2 v bs ∧ G = a.heap.allocs bs := by
  refine CallW.symR Try.func20 rfl (by kernel_rfl) ?_
  conv => whnf
  iterate 1 (refine Gets.of _ rfl ?_; conv => whnf)
  refine CallS.of (by kernel_rfl) (valid24c a hf _ rfl rfl rfl) rfl ?_
  rintro _ _ ⟨rfl, b, rfl, hb⟩
  cases b <;> conv => whnf
  · exact ⟨renL [0, 1] 3, .tuple [.nilSlice, .int .i64 1], a.heap, Emb.lits [0, 1] rfl rfl rfl rfl (.cons ⟨rfl, rfl, fun h => h⟩ (.cons ⟨rfl, rfl, fun h => h⟩ .nil)) (.cons ⟨rfl, .roI⟩ (.cons ⟨rfl, .roI⟩ .nil)), rfl, [], .inl ⟨fun h => absurd (hb.2 h) (by simp), rfl, rfl⟩, rfl⟩
  have ho := hb.1 rfl
  iterate 1 (refine Gets.of _ rfl ?_; conv => whnf)
  refine CallS.of (by kernel_rfl) (reached51c a hf ho _ rfl rfl rfl) rfl ?_
  rintro _ _ ⟨l, hl, rfl, rfl⟩
  conv => whnf
  exact ⟨renL [0, 1, 3] 4, .tuple [.slice 2 0 a.states.toNat, .int .i64 0], a.heap.alloc (.cells 1 (bls l)), Emb.lits [0, 1, 3] rfl rfl rfl rfl (.cons ⟨rfl, rfl, fun h => h⟩ (.cons ⟨rfl, rfl, fun h => h⟩ .nil)) (.cons ⟨rfl, .roI⟩ (.cons ⟨rfl, .roI⟩ (.cons ⟨rfl, .cellsB⟩ .nil))), rfl, [.cells 1 (bls l)], .inr ⟨ho, l, hl, rfl, rfl⟩, rfl⟩
theorem reach20c (a : Au) (hf : a.Fits) (H : AHeap) (hn : Nat.ble 2 H.n = true) (h0 : H.f 0 = .ro 1 (ints a.start)) (h1 : H.f 1 = .ro 5 (ints (flat a.es))) :
    CallW Try.prog 20 [a.av] H fun v G => ∃ bs, a.ReachK H.n v bs ∧ G = H.allocs bs := reachK_frame a (reach20 a hf) H hn h0 h1
end Go.Proofs.Ytdahmcgncpoliaa
