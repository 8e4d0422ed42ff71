/- What Valid computes, of the program and of the reference. -/
import Derived.Test.YtdahmcgncpoliaaVhX
import Derived.Test.YtdahmcgncpoliaaAcc
set_option linter.unusedVariables false
set_option linter.unusedSimpArgs false
set_option maxRecDepth 100000
namespace Go.Proofs.Ytdahmcgncpoliaa
open Go Go.Vh Go.Proofs
structure Au where
  props : Int
  states : Int
  kind : Int
  marks : Int
  start : List Int
  es : List Edg
def Au.heap (a : Au) : AHeap := (emptyH.alloc (.ro 1 (ints a.start))).alloc (.ro 5 (ints (flat a.es)))
def Au.av (a : Au) : AVal := .agg [.int .i64 a.props, .int .i64 a.states, .view 0 0 a.start.length, .int .i64 a.kind, .int .i64 a.marks, .view 1 0 a.es.length]
def Au.box (a : Au) : ABlk := .cells 1 [.int .i64 a.props, .int .i64 a.states, .view 0 0 a.start.length, .int .i64 a.kind, .int .i64 a.marks, .view 1 0 a.es.length]
structure Au.Fits (a : Au) : Prop where
  ns : a.start.length ≤ 4294967296
  ne : a.es.length ≤ 4294967296
  start : ∀ x ∈ a.start, fits64 x
  es : ∀ e ∈ a.es, ∀ x ∈ e.l, fits64 x
def Au.HeadOk (a : Au) : Prop := 0 ≤ a.props ∧ a.props ≤ 6 ∧ 0 ≤ a.states ∧ a.states ≤ 3000 ∧ 0 ≤ a.kind ∧ a.kind ≤ 5 ∧ MarksOk a.kind a.marks ∧ a.es.length ≤ 40000
def Au.StartOk (a : Au) (j : Nat) : Prop := 0 ≤ a.start.getD j 0 ∧ a.start.getD j 0 < a.states ∧ (0 < j → a.start.getD (j - 1) 0 < a.start.getD j 0)
def Au.EdgeOk (a : Au) (e : Edg) : Prop := 0 ≤ e.fr ∧ e.fr < a.states ∧ 0 ≤ e.to ∧ e.to < a.states ∧ 0 ≤ e.care ∧ e.care < 2 ^ a.props.toNat ∧ bitsA .andNot .i64 e.bits e.care = 0 ∧ 0 ≤ e.marks ∧ e.marks < 2 ^ a.marks.toNat
def Au.Ok (a : Au) : Prop := a.HeadOk ∧ (∀ j, j < a.start.length → a.StartOk j) ∧ ∀ e ∈ a.es, a.EdgeOk e
theorem andNot_nonneg {b c : Int} (hb : fits64 b) (hc0 : 0 ≤ c) (hc1 : c < 2 ^ 63) (h : bitsA .andNot .i64 b c = 0) : 0 ≤ b := by
  rcases Int.lt_or_le b 0 with hn | hn
  · exfalso
    have h1 : IntKind.wrap .i64 ((BitVec.ofInt 64 b &&& ~~~(BitVec.ofInt 64 c)).toNat : Int) = 0 := h
    have h2 : (BitVec.ofInt 64 b &&& ~~~(BitVec.ofInt 64 c)).msb = true := by
      rw [BitVec.msb_and, BitVec.msb_not, BitVec.msb_eq_toInt, BitVec.msb_eq_toInt, BitVec.toInt_ofInt, BitVec.toInt_ofInt]
      have e1 : b.bmod (2 ^ 64) = b := Int.bmod_eq_of_le (by unfold fits64 at hb; omega) (by omega)
      have e2 : c.bmod (2 ^ 64) = c := Int.bmod_eq_of_le (by omega) (by omega)
      rw [e1, e2]
      simp [hn]; omega
    rw [BitVec.msb_eq_decide] at h2
    have h2 : 2 ^ 63 ≤ (BitVec.ofInt 64 b &&& ~~~(BitVec.ofInt 64 c)).toNat := by simpa using h2
    have h3 := (BitVec.ofInt 64 b &&& ~~~(BitVec.ofInt 64 c)).isLt
    generalize (BitVec.ofInt 64 b &&& ~~~(BitVec.ofInt 64 c)).toNat = n at h1 h2 h3
    simp only [IntKind.wrap, IntKind.bits, IntKind.signed, Bool.true_and, decide_eq_true_eq, show (2 : Int) ^ (64 - 1) = 9223372036854775808 from rfl, show (2 : Int) ^ 64 = 18446744073709551616 from rfl] at h1
    split at h1 <;> omega
  · exact hn
theorem pow_le40 {p : Int} (h : p ≤ 40) : (2 : Int) ^ p.toNat ≤ 2 ^ 40 := by
  have := Nat.pow_le_pow_right (show 0 < 2 by decide) (show p.toNat ≤ 40 by omega)
  exact_mod_cast this
theorem valid23 (a : Au) (hf : a.Fits) : CallW Try.prog 23 [a.av] a.heap fun v _ => ∃ b, v = .bool b ∧ (b = true ↔ a.Ok) := by
  refine CallW.sym Try.func23 rfl (by kernel_rfl) ?_
  conv => whnf
  repeat' (refine Gets.of _ rfl ?_; conv => whnf)
  refine Fork.mk (fun h1 => ?_) (fun h1 => ?_)
  all_goals conv => whnf
  · exact ⟨_, rfl, by simp at h1; simp [Au.Ok, Au.HeadOk]; intros; omega⟩
  repeat' (refine Gets.of _ rfl ?_; conv => whnf)
  refine Fork.mk (fun h2 => ?_) (fun h2 => ?_)
  all_goals conv => whnf
  · exact ⟨_, rfl, by simp at h2; simp [Au.Ok, Au.HeadOk]; intros; omega⟩
  repeat' (refine Gets.of _ rfl ?_; conv => whnf)
  refine Fork.mk (fun h3 => ?_) (fun h3 => ?_)
  all_goals conv => whnf
  · exact ⟨_, rfl, by simp at h3; simp [Au.Ok, Au.HeadOk]; intros; omega⟩
  repeat' (refine Gets.of _ rfl ?_; conv => whnf)
  refine Fork.mk (fun h4 => ?_) (fun h4 => ?_)
  all_goals conv => whnf
  · exact ⟨_, rfl, by simp at h4; simp [Au.Ok, Au.HeadOk]; intros; omega⟩
  repeat' (refine Gets.of _ rfl ?_; conv => whnf)
  refine CallS.of (by kernel_rfl) (may37 a.kind a.marks _) rfl ?_
  rintro _ _ ⟨rfl, b, rfl, hb⟩
  cases b <;> conv => whnf
  · exact ⟨_, rfl, by simp [Au.Ok, Au.HeadOk]; intro x1 x2 x3 x4 x5 x6 x7; exact absurd (hb.2 ⟨x5, x6, x7⟩) (by simp)⟩
  have hb := hb.1 rfl
  repeat' (refine Gets.of _ rfl ?_; conv => whnf)
  refine Fork.mk (fun h5 => ?_) (fun h5 => ?_)
  all_goals conv => whnf
  · exact ⟨_, rfl, by simp at h5; simp [Au.Ok, Au.HeadOk]; intros; omega⟩
  have hh : a.HeadOk := by simp at h1 h2 h3 h4 h5; exact ⟨h1, h2, h3, h4, hb.1, hb.2.1, hb.2.2, by omega⟩
  repeat' (refine Gets.of _ rfl ?_; conv => whnf)
  refine CodeS.loopS (σ := Nat) (fun j => [(1, .ptr 2 0), (2, .bool false), (40, .view 0 0 a.start.length), (41, .int .i64 a.start.length), (42, .int .i64 j)]) (fun _ => _) (fun j => j ≤ a.start.length ∧ ∀ j' : Nat, j' < j → a.StartOk j') (fun j => a.start.length - j) 0 (by kernel_rfl)
    ⟨Nat.zero_le _, fun j' h => absurd h (Nat.not_lt_zero _)⟩ ⟨rfl, rfl, rfl, rfl, rfl, trivial⟩ rfl ?_
  rintro j ⟨g1, g2⟩
  conv => whnf
  refine Fork.mk (fun hc => ?_) (fun hc => ?_)
  all_goals conv => whnf
  · have hc : j < a.start.length := by simp at hc; omega
    have hj : a.start.getD j 0 = a.start[j] := by simp [hc]
    refine Gets.ixV (es := 1) rfl (by kernel_rfl) (by omega) (by omega) ?_
    conv => whnf
    refine Gets.loadI (l := a.start) (ti := ⟨1, 8, false, [.int .i64 0]⟩) (by kernel_rfl) rfl rfl (by simp; omega) ?_
    conv => whnf
    have hj' : a.start[0 + (j : Int).toNat * 1]'(by simp; omega) = a.start[j] := by congr 1; simp
    rw [hj']
    refine Fork.mk (fun k1 => ?_) (fun k1 => ?_)
    all_goals conv => whnf
    · refine ⟨_, rfl, ?_⟩
      simp at k1
      simp only [Bool.false_eq_true, false_iff]
      rintro ⟨_, x, _⟩
      have := (x j hc).1
      omega
    repeat' (refine Gets.of _ rfl ?_; conv => whnf)
    refine Fork.mk (fun k2 => ?_) (fun k2 => ?_)
    all_goals conv => whnf
    · refine ⟨_, rfl, ?_⟩
      simp at k2
      simp only [Bool.false_eq_true, false_iff]
      rintro ⟨_, x, _⟩
      have := (x j hc).2.1
      omega
    simp at k1 k2
    refine Fork.mk (fun k3 => ?_) (fun k3 => ?_)
    all_goals conv => whnf
    · simp at k3
      repeat' (refine Gets.of _ rfl ?_; conv => whnf)
      have hw : IntKind.wrap .i64 ((j : Int) - 1) = ((j - 1 : Nat) : Int) := by rw [wrap_i64 (by omega) (by have := hf.ns; omega)]; omega
      rw [hw]
      refine Gets.ixV (es := 1) rfl (by kernel_rfl) (by omega) (by omega) ?_
      conv => whnf
      refine Gets.loadI (l := a.start) (ti := ⟨1, 8, false, [.int .i64 0]⟩) (by kernel_rfl) rfl rfl (by simp; omega) ?_
      conv => whnf
      have hi : a.start.getD (j - 1) 0 = a.start[j - 1] := by rw [List.getD_eq_getElem?_getD, List.getElem?_eq_getElem (by omega)]; rfl
      have hi' : a.start[0 + ((j - 1 : Nat) : Int).toNat * 1]'(by simp; omega) = a.start[j - 1] := by congr 1; simp
      rw [hi']
      refine Fork.mk (fun k4 => ?_) (fun k4 => ?_)
      all_goals conv => whnf
      · refine ⟨_, rfl, ?_⟩
        simp at k4
        simp only [Bool.false_eq_true, false_iff]
        rintro ⟨_, x, _⟩
        have := (x j hc).2.2 (by omega)
        omega
      · simp at k4
        refine ⟨j + 1, ⟨by omega, fun j' h' => ?_⟩, by omega, ⟨rfl, rfl, rfl, rfl, ?_, trivial⟩, rfl⟩
        · rcases Nat.lt_or_ge j' j with h'' | h''
          · exact g2 j' h''
          · obtain rfl : j' = j := by omega
            exact ⟨by omega, by omega, fun _ => by omega⟩
        · exact congrArg (AVal.int .i64) (wrap_i64 (by omega) (by have := hf.ns; omega))
    · simp at k3
      refine ⟨j + 1, ⟨by omega, fun j' h' => ?_⟩, by omega, ⟨rfl, rfl, rfl, rfl, ?_, trivial⟩, rfl⟩
      · rcases Nat.lt_or_ge j' j with h'' | h''
        · exact g2 j' h''
        · obtain rfl : j' = j := by omega
          exact ⟨by omega, by omega, fun _ => by omega⟩
      · exact congrArg (AVal.int .i64) (wrap_i64 (by omega) (by have := hf.ns; omega))
  have hs : ∀ j, j < a.start.length → a.StartOk j := fun j hj => g2 j (by simp at hc; omega)
  clear hc g1 g2
  repeat' (refine Gets.of _ rfl ?_; conv => whnf)
  refine CodeS.loopG (σ := Nat) (fun j => [(1, .ptr 2 0), (2, .bool false), (71, .view 1 0 a.es.length), (72, .int .i64 a.es.length), (73, .int .i64 j)]) (fun _ => a.heap.alloc a.box) (fun j => j ≤ a.es.length ∧ ∀ e ∈ a.es.take j, a.EdgeOk e) (fun j => a.es.length - j) 0 (renL [0, 1, 2] 3) (by kernel_rfl)
    ⟨Nat.zero_le _, by simp⟩ ⟨rfl, rfl, rfl, rfl, rfl, trivial⟩ ?_ ?_
  · exact Emb.lits [0, 1, 2] rfl rfl rfl rfl (.cons ⟨rfl, rfl, fun h => h⟩ (.cons ⟨rfl, rfl, fun h => h⟩ .nil)) (.cons ⟨rfl, .roI⟩ (.cons ⟨rfl, .roI⟩ (.cons ⟨rfl, .inl rfl⟩ .nil)))
  rintro j ⟨g1, g2⟩
  conv => whnf
  refine Fork.mk (fun hc => ?_) (fun hc => ?_)
  all_goals conv => whnf
  · have hc : j < a.es.length := by simp at hc; omega
    refine Gets.ixV (es := 5) rfl (by kernel_rfl) (by omega) (by omega) ?_
    conv => whnf
    refine Gets.loadE (j := j) (es := a.es) (ti := ⟨5, 40, true, [.int .i64 0, .int .i64 0, .int .i64 0, .int .i64 0, .int .i64 0]⟩) (by kernel_rfl) rfl rfl rfl (by simp) hc ?_
    generalize he : a.es[j] = e
    have hem : e ∈ a.es := he ▸ List.getElem_mem hc
    conv => whnf
    refine Gets.of _ rfl ?_
    conv => whnf
    repeat' first
      | (refine Fork.mk (fun h => ?_) (fun h => ?_) <;> conv => whnf)
      | (refine Gets.of _ rfl ?_; conv => whnf)
    iterate 4
      · refine ⟨_, rfl, ?_⟩
        simp only [Bool.false_eq_true, false_iff]
        rintro ⟨_, _, x⟩
        have := x e hem
        unfold Au.EdgeOk at this
        simp only [decide_eq_true_eq, decide_eq_false_iff_not] at *
        omega
    have hp0 : 0 ≤ a.props := hh.1
    have hp6 : a.props ≤ 40 := by have := hh.2.1; omega
    have hm0 : 0 ≤ a.marks := hb.2.2.1
    have hm6 : a.marks ≤ 40 := hb.2.2.2.1
    have hlt := pow_le40 hp6
    have hfit := hf.es e hem e.bits (by simp [Edg.l])
    refine CodeS.drawI [2, 3] (takes 37) mixed (by kernel_rfl) (.cons ⟨rfl, trivial⟩ (.cons ⟨rfl, trivial⟩ .nil)) ?_
    conv => whnf
    repeat' first
      | (refine Fork.mk (fun h => ?_) (fun h => ?_) <;> conv => whnf)
      | (refine Gets.shl hp0 ?_; rw [shl_one hp0 hp6]; conv => whnf)
      | (refine Gets.shl hm0 ?_; rw [shl_one hm0 hm6]; conv => whnf)
      | (refine Gets.of _ rfl ?_; conv => whnf)
    iterate 6
      · refine ⟨_, rfl, ?_⟩
        simp only [Bool.false_eq_true, false_iff]
        rintro ⟨_, _, x⟩
        have := x e hem
        unfold Au.EdgeOk at this
        have hb0 := andNot_nonneg hfit this.2.2.2.2.1 (by omega) this.2.2.2.2.2.2.1
        simp only [decide_eq_true_eq, decide_eq_false_iff_not, bne_iff_ne, ne_eq] at *
        omega
    refine ⟨j + 1, renL [0, 1, 2] 4, ⟨by omega, fun x hx => ?_⟩, by omega, ⟨rfl, rfl, rfl, rfl, ?_, trivial⟩, ?_⟩
    · rw [List.take_succ_eq_append_getElem hc] at hx
      rcases List.mem_append.1 hx with hx | hx
      · exact g2 x hx
      · rw [he] at hx
        obtain rfl := List.mem_singleton.1 hx
        simp only [decide_eq_true_eq, decide_eq_false_iff_not, bne_eq_false_iff_eq] at *
        unfold Au.EdgeOk
        omega
    · exact congrArg (AVal.int .i64) (wrap_i64 (by omega) (by have := hf.ne; omega))
    · exact Emb.lits [0, 1, 2] rfl rfl rfl rfl (.cons ⟨rfl, rfl, fun h => h⟩ (.cons ⟨rfl, rfl, fun h => h⟩ .nil)) (.cons ⟨rfl, .roI⟩ (.cons ⟨rfl, .roI⟩ (.cons ⟨rfl, .inl rfl⟩ .nil)))
  · have hje : j = a.es.length := by simp at hc; omega
    refine ⟨_, rfl, ?_⟩
    simp only [true_iff]
    exact ⟨hh, hs, fun e he => g2 e (by rw [hje, List.take_length]; exact he)⟩
theorem valid24 (a : Au) (hf : a.Fits) : CallW Try.prog 24 [a.av] a.heap fun v _ => ∃ b, v = .bool b ∧ (b = true ↔ a.Ok) := by
  refine CallW.sym Try.func24 rfl (by kernel_rfl) ?_
  conv => whnf
  repeat' first
    | (refine Fork.mk (fun h => ?_) (fun h => ?_) <;> conv => whnf)
    | (refine Gets.of _ rfl ?_; conv => whnf)
  iterate 6
    · refine ⟨_, rfl, ?_⟩
      simp only [decide_eq_true_eq, decide_eq_false_iff_not, Bool.false_eq_true, false_iff] at *
      rintro ⟨x, _⟩
      unfold Au.HeadOk at x
      omega
  refine CallS.of (by kernel_rfl) (marks35 a.kind a.marks _) rfl ?_
  rintro _ _ ⟨rfl, b, rfl, hb0⟩
  cases b <;> conv => whnf
  · exact ⟨_, rfl, by simp only [Bool.false_eq_true, false_iff]; rintro ⟨x, _⟩; exact absurd (hb0.2 x.2.2.2.2.2.2.1) (by simp)⟩
  have hb := hb0.1 rfl
  clear hb0
  repeat' (refine Gets.of _ rfl ?_; conv => whnf)
  refine Fork.mk (fun h5 => ?_) (fun h5 => ?_)
  all_goals conv => whnf
  · exact ⟨_, rfl, by simp only [decide_eq_true_eq] at h5; simp only [Bool.false_eq_true, false_iff]; rintro ⟨x, _⟩; unfold Au.HeadOk at x; omega⟩
  have hh : a.HeadOk := by
    simp only [decide_eq_true_eq, decide_eq_false_iff_not] at *
    refine ⟨by omega, by omega, by omega, by omega, by omega, by omega, hb, by omega⟩
  repeat' (refine Gets.of _ rfl ?_; conv => whnf)
  refine CodeS.loopS (σ := Nat) (fun j => [(1, .ptr 2 0), (2, .bool false), (50, .view 0 0 a.start.length), (51, .int .i64 a.start.length), (52, .int .i64 j)]) (fun _ => _) (fun j => j ≤ a.start.length ∧ ∀ j' : Nat, j' < j → a.StartOk j') (fun j => a.start.length - j) 0 (by kernel_rfl)
    ⟨Nat.zero_le _, fun j' h => absurd h (Nat.not_lt_zero _)⟩ ⟨rfl, rfl, rfl, rfl, rfl, trivial⟩ rfl ?_
  rintro j ⟨g1, g2⟩
  conv => whnf
  refine Fork.mk (fun hc => ?_) (fun hc => ?_)
  all_goals conv => whnf
  · have hc : j < a.start.length := by simp at hc; omega
    have hj : a.start.getD j 0 = a.start[j] := by simp [hc]
    refine Gets.ixV (es := 1) rfl (by kernel_rfl) (by omega) (by omega) ?_
    conv => whnf
    refine Gets.loadI (l := a.start) (ti := ⟨1, 8, false, [.int .i64 0]⟩) (by kernel_rfl) rfl rfl (by simp; omega) ?_
    conv => whnf
    have hj' : a.start[0 + (j : Int).toNat * 1]'(by simp; omega) = a.start[j] := by congr 1; simp
    rw [hj']
    refine Fork.mk (fun k1 => ?_) (fun k1 => ?_)
    all_goals conv => whnf
    · refine ⟨_, rfl, ?_⟩
      simp at k1
      simp only [Bool.false_eq_true, false_iff]
      rintro ⟨_, x, _⟩
      have := (x j hc).1
      omega
    repeat' (refine Gets.of _ rfl ?_; conv => whnf)
    refine Fork.mk (fun k2 => ?_) (fun k2 => ?_)
    all_goals conv => whnf
    · refine ⟨_, rfl, ?_⟩
      simp at k2
      simp only [Bool.false_eq_true, false_iff]
      rintro ⟨_, x, _⟩
      have := (x j hc).2.1
      omega
    simp at k1 k2
    refine Fork.mk (fun k3 => ?_) (fun k3 => ?_)
    all_goals conv => whnf
    · simp at k3
      repeat' (refine Gets.of _ rfl ?_; conv => whnf)
      have hw : IntKind.wrap .i64 ((j : Int) - 1) = ((j - 1 : Nat) : Int) := by rw [wrap_i64 (by omega) (by have := hf.ns; omega)]; omega
      rw [hw]
      refine Gets.ixV (es := 1) rfl (by kernel_rfl) (by omega) (by omega) ?_
      conv => whnf
      refine Gets.loadI (l := a.start) (ti := ⟨1, 8, false, [.int .i64 0]⟩) (by kernel_rfl) rfl rfl (by simp; omega) ?_
      conv => whnf
      have hi : a.start.getD (j - 1) 0 = a.start[j - 1] := by rw [List.getD_eq_getElem?_getD, List.getElem?_eq_getElem (by omega)]; rfl
      have hi' : a.start[0 + ((j - 1 : Nat) : Int).toNat * 1]'(by simp; omega) = a.start[j - 1] := by congr 1; simp
      rw [hi']
      refine Fork.mk (fun k4 => ?_) (fun k4 => ?_)
      all_goals conv => whnf
      · refine ⟨_, rfl, ?_⟩
        simp at k4
        simp only [Bool.false_eq_true, false_iff]
        rintro ⟨_, x, _⟩
        have := (x j hc).2.2 (by omega)
        omega
      · simp at k4
        refine ⟨j + 1, ⟨by omega, fun j' h' => ?_⟩, by omega, ⟨rfl, rfl, rfl, rfl, ?_, trivial⟩, rfl⟩
        · rcases Nat.lt_or_ge j' j with h'' | h''
          · exact g2 j' h''
          · obtain rfl : j' = j := by omega
            exact ⟨by omega, by omega, fun _ => by omega⟩
        · exact congrArg (AVal.int .i64) (wrap_i64 (by omega) (by have := hf.ns; omega))
    · simp at k3
      refine ⟨j + 1, ⟨by omega, fun j' h' => ?_⟩, by omega, ⟨rfl, rfl, rfl, rfl, ?_, trivial⟩, rfl⟩
      · rcases Nat.lt_or_ge j' j with h'' | h''
        · exact g2 j' h''
        · obtain rfl : j' = j := by omega
          exact ⟨by omega, by omega, fun _ => by omega⟩
      · exact congrArg (AVal.int .i64) (wrap_i64 (by omega) (by have := hf.ns; omega))
  have hs : ∀ j, j < a.start.length → a.StartOk j := fun j hj => g2 j (by simp at hc; omega)
  clear hc g1 g2
  repeat' (refine Gets.of _ rfl ?_; conv => whnf)
  refine CodeS.loopG (σ := Nat) (fun j => [(1, .ptr 2 0), (2, .bool false), (81, .view 1 0 a.es.length), (82, .int .i64 a.es.length), (83, .int .i64 j)]) (fun _ => a.heap.alloc a.box) (fun j => j ≤ a.es.length ∧ ∀ e ∈ a.es.take j, a.EdgeOk e) (fun j => a.es.length - j) 0 (renL [0, 1, 2] 3) (by kernel_rfl)
    ⟨Nat.zero_le _, by simp⟩ ⟨rfl, rfl, rfl, rfl, rfl, trivial⟩ ?_ ?_
  · exact Emb.lits [0, 1, 2] rfl rfl rfl rfl (.cons ⟨rfl, rfl, fun h => h⟩ (.cons ⟨rfl, rfl, fun h => h⟩ .nil)) (.cons ⟨rfl, .roI⟩ (.cons ⟨rfl, .roI⟩ (.cons ⟨rfl, .inl rfl⟩ .nil)))
  rintro j ⟨g1, g2⟩
  conv => whnf
  refine Fork.mk (fun hc => ?_) (fun hc => ?_)
  all_goals conv => whnf
  · have hc : j < a.es.length := by simp at hc; omega
    refine Gets.ixV (es := 5) rfl (by kernel_rfl) (by omega) (by omega) ?_
    conv => whnf
    refine Gets.loadE (j := j) (es := a.es) (ti := ⟨5, 40, true, [.int .i64 0, .int .i64 0, .int .i64 0, .int .i64 0, .int .i64 0]⟩) (by kernel_rfl) rfl rfl rfl (by simp) hc ?_
    generalize he : a.es[j] = e
    have hem : e ∈ a.es := he ▸ List.getElem_mem hc
    conv => whnf
    refine Gets.of _ rfl ?_
    conv => whnf
    have hp0 : 0 ≤ a.props := hh.1
    have hp6 : a.props ≤ 40 := by have := hh.2.1; omega
    have hm0 : 0 ≤ a.marks := hb.1
    have hm6 : a.marks ≤ 40 := hb.2.1
    have hlt := pow_le40 hp6
    have hfit := hf.es e hem e.bits (by simp [Edg.l])
    refine CodeS.drawI [2, 3] (takes 56) mixed (by kernel_rfl) (.cons ⟨rfl, trivial⟩ (.cons ⟨rfl, trivial⟩ .nil)) ?_
    conv => whnf
    repeat' first
      | (refine Fork.mk (fun h => ?_) (fun h => ?_) <;> conv => whnf)
      | (refine Gets.shl hp0 ?_; rw [shl_one hp0 hp6]; conv => whnf)
      | (refine Gets.shl hm0 ?_; rw [shl_one hm0 hm6]; conv => whnf)
      | (refine Gets.of _ rfl ?_; conv => whnf)
    iterate 9
      · refine ⟨_, rfl, ?_⟩
        simp only [Bool.false_eq_true, false_iff]
        rintro ⟨_, _, x⟩
        have := x e hem
        unfold Au.EdgeOk at this
        simp only [decide_eq_true_eq, decide_eq_false_iff_not, bne_iff_ne, ne_eq] at *
        omega
    refine ⟨j + 1, renL [0, 1, 2] 4, ⟨by omega, fun x hx => ?_⟩, by omega, ⟨rfl, rfl, rfl, rfl, ?_, trivial⟩, ?_⟩
    · rw [List.take_succ_eq_append_getElem hc] at hx
      rcases List.mem_append.1 hx with hx | hx
      · exact g2 x hx
      · rw [he] at hx
        obtain rfl := List.mem_singleton.1 hx
        simp only [decide_eq_true_eq, decide_eq_false_iff_not, bne_eq_false_iff_eq] at *
        unfold Au.EdgeOk
        omega
    · exact congrArg (AVal.int .i64) (wrap_i64 (by omega) (by have := hf.ne; omega))
    · exact Emb.lits [0, 1, 2] rfl rfl rfl rfl (.cons ⟨rfl, rfl, fun h => h⟩ (.cons ⟨rfl, rfl, fun h => h⟩ .nil)) (.cons ⟨rfl, .roI⟩ (.cons ⟨rfl, .roI⟩ (.cons ⟨rfl, .inl rfl⟩ .nil)))
  · have hje : j = a.es.length := by simp at hc; omega
    refine ⟨_, rfl, ?_⟩
    simp only [true_iff]
    exact ⟨hh, hs, fun e he => g2 e (by rw [hje, List.take_length]; exact he)⟩
end Go.Proofs.Ytdahmcgncpoliaa
