/- Automata as values; Valid. -/
import Derived.Test.YtljedopidipabaaVmA
import Derived.Test.YtljedopidipabaaProg
-- VkG VkH VmA
set_option linter.unusedVariables false
set_option linter.unusedSimpArgs false
set_option maxRecDepth 100000
set_option maxHeartbeats 4000000
namespace Go.Proofs.Ytljedopidipabaa
open Go Go.Vh Go.Vk Go.Proofs
structure Au where
  props : Int
  states : Int
  start : List Int
  kind : Int
  marks : Int
  es : List Edg
def Au.rv (a : Au) : AVal := .agg [.int .i64 a.props, .int .i64 a.states, rI a.start, .int .i64 a.kind, .int .i64 a.marks, rE a.es]
def MarksOk (kind marks : Int) : Prop := 0 ≤ marks ∧ marks ≤ 40 ∧ ((kind = 0 ∨ kind = 2) → marks = 1) ∧ ((kind = 3 ∨ kind = 4) → marks % 2 = 0)
theorem mayR (kind marks : Int) (H : AHeap) : CallW Try.prog 29 [.int .i64 kind, .int .i64 marks] H fun v H' => H' = H ∧ IsB v (0 ≤ kind ∧ kind ≤ 5 ∧ MarksOk kind marks) := by
  refine CallW.symK (cuts := []) Try.func29 rfl (by kernel_rfl) ?_
  conv => whnf
  repeat' first | ((with_reducible refine Gets.remN ?_ ?_ ?_); (· omega); (· omega); conv => whnf) | (refine Fork.dec (fun _ => ?_) (fun _ => ?_) <;> first | (exfalso; omega) | (conv => whnf))
  all_goals refine ⟨rfl, ?_⟩
  all_goals unfold MarksOk
  all_goals first | exact .t (by omega) | exact .f (by omega)
theorem marksR (kind marks : Int) (H : AHeap) : CallW Try.prog 21 [.int .i64 kind, .int .i64 marks] H fun v H' => H' = H ∧ IsB v (MarksOk kind marks) := by
  refine CallW.symK (cuts := []) Try.func21 rfl (by kernel_rfl) ?_
  conv => whnf
  repeat' first | ((with_reducible refine Gets.remN ?_ ?_ ?_); (· omega); (· omega); conv => whnf) | (refine Fork.dec (fun _ => ?_) (fun _ => ?_) <;> first | (exfalso; omega) | (conv => whnf))
  all_goals refine ⟨rfl, ?_⟩
  all_goals unfold MarksOk
  all_goals first | exact .t (by omega) | exact .f (by omega)
structure Au.Fits (a : Au) : Prop where
  ns : a.start.length ≤ 4611686018427387904
  ne : a.es.length ≤ 4611686018427387904
  es : ∀ e ∈ a.es, ∀ x ∈ e.l, fits64 x
def Au.StartOk (a : Au) (j : Nat) : Prop := 0 ≤ a.start.getD j 0 ∧ a.start.getD j 0 < a.states ∧ (0 < j → a.start.getD (j - 1) 0 < a.start.getD j 0)
def Au.EdgeOk (a : Au) (e : Edg) : Prop := 0 ≤ e.fr ∧ e.fr < a.states ∧ 0 ≤ e.to ∧ e.to < a.states ∧ 0 ≤ e.care ∧ e.care < ((2 ^ a.props.toNat : Nat) : Int) ∧ bitsA .andNot .i64 e.bits e.care = 0 ∧ 0 ≤ e.marks ∧ e.marks < ((2 ^ a.marks.toNat : Nat) : Int)
structure Au.Ok (a : Au) : Prop where
  p0 : 0 ≤ a.props
  p6 : a.props ≤ 6
  s0 : 0 ≤ a.states
  s1 : a.states ≤ 3000
  k0 : 0 ≤ a.kind
  k5 : a.kind ≤ 5
  mo : MarksOk a.kind a.marks
  ne : a.es.length ≤ 40000
  st : ∀ j, j < a.start.length → a.StartOk j
  eg : ∀ j, j < a.es.length → a.EdgeOk (a.es.getD j default)
theorem Gets.shlP {k' : IntKind} {p : Int} {A : AVal → Prop} (h0 : 0 ≤ p) (h : p < 63) (hA : A (.int .i64 ((2 ^ p.toNat : Nat) : Int))) : Gets (abin .shl (.int .i64 1) (.int k' p)) A := by
  obtain ⟨n, rfl⟩ := Int.eq_ofNat_of_zero_le h0
  exact Gets.shlN (by omega) hA
theorem andNot_nonneg {b c : Int} (hb : fits64 b) (hc0 : 0 ≤ c) (hc1 : c < 2 ^ 63) (h : bitsA .andNot .i64 b c = 0) : 0 ≤ b := by
  rcases Int.lt_or_le b 0 with hn | hn
  · exfalso
    have h1 : IntKind.wrap .i64 ((BitVec.ofInt 64 b &&& ~~~(BitVec.ofInt 64 c)).toNat : Int) = 0 := h
    have h2 : (BitVec.ofInt 64 b &&& ~~~(BitVec.ofInt 64 c)).msb = true := by
      rw [BitVec.msb_and, BitVec.msb_not, BitVec.msb_eq_toInt, BitVec.msb_eq_toInt, BitVec.toInt_ofInt, BitVec.toInt_ofInt]
      have e1 : b.bmod (2 ^ 64) = b := Int.bmod_eq_of_le (by unfold fits64 at hb; omega) (by omega)
      have e2 : c.bmod (2 ^ 64) = c := Int.bmod_eq_of_le (by omega) (by omega)
      rw [e1, e2]
      simp [hn]; omega
    rw [BitVec.msb_eq_decide] at h2
    have h2 : 2 ^ 63 ≤ (BitVec.ofInt 64 b &&& ~~~(BitVec.ofInt 64 c)).toNat := by simpa using h2
    have h3 := (BitVec.ofInt 64 b &&& ~~~(BitVec.ofInt 64 c)).isLt
    generalize (BitVec.ofInt 64 b &&& ~~~(BitVec.ofInt 64 c)).toNat = n at h1 h2 h3
    simp only [IntKind.wrap, IntKind.bits, IntKind.signed, Bool.true_and, decide_eq_true_eq, show (2 : Int) ^ (64 - 1) = 9223372036854775808 from rfl, show (2 : Int) ^ 64 = 18446744073709551616 from rfl] at h1
    split at h1 <;> omega
  · exact hn
theorem edge_mem {l : List Edg} {j : Nat} (h : j < l.length) : l.getD j default ∈ l := by rw [List.getD_eq_getElem?_getD, List.getElem?_eq_getElem h]; exact List.getElem_mem _
theorem edge_bits {a : Au} (hf : a.Fits) (hp : a.props ≤ 6) {j : Nat} (hj : j < a.es.length) (h : a.EdgeOk (a.es.getD j default)) : 0 ≤ (a.es.getD j default).bits := by
  have h64 : (2 ^ a.props.toNat : Nat) ≤ 64 := Nat.le_trans (Nat.pow_le_pow_right (by decide) (show a.props.toNat ≤ 6 by omega)) (by decide)
  exact andNot_nonneg (hf.es _ (edge_mem hj) _ (by simp [Edg.l])) h.2.2.2.2.1 (by have := h.2.2.2.2.2.1; omega) h.2.2.2.2.2.2.1
theorem validA (a : Au) (hf : a.Fits) (H : AHeap) : CallW Try.prog 15 [a.rv] H fun v H' => H' = H ∧ IsB v a.Ok := by
  refine CallW.pure ?_ rfl H
  have hns := hf.ns
  have hne := hf.ne
  refine CallW.symK (cuts := []) Try.func15 rfl (by kernel_rfl) ?_
  conv => whnf
  repeat' first | (refine Gets.of _ rfl ?_; conv => whnf) | (refine Fork.dec (fun _ => ?_) (fun _ => ?_) <;> first | (exfalso; omega) | (conv => whnf))
  any_goals first | exact ⟨[], _, rfl, .same rfl, rfl, .f (fun h => by have h1 := h.p0; have h2 := h.p6; have h3 := h.s0; have h4 := h.s1; omega)⟩ | skip
  refine CallS.of (by kernel_rfl) (mayR a.kind a.marks _) rfl ?_
  rintro _ _ ⟨rfl, hk | hk⟩
  rotate_left
  · conv => whnf
    skip
    exact ⟨[], _, rfl, .same rfl, rfl, .f (fun h => hk ⟨h.k0, h.k5, h.mo⟩)⟩
  conv => whnf
  repeat' first | (refine Gets.of _ rfl ?_; conv => whnf) | (refine Fork.dec (fun _ => ?_) (fun _ => ?_) <;> first | (exfalso; omega) | (conv => whnf))
  · exact ⟨[], _, rfl, .same rfl, rfl, .f (fun h => by have h1 := h.ne; omega)⟩
  refine CodeS.loopSK (cuts := []) (σ := Nat) (fun j => [(1, .ptr 0 0), (40, rI a.start), (41, .int .i64 (a.start.length : Int)), (42, .int .i64 (j : Int))]) (fun _ => emptyH.alloc (.cells 1 [.int .i64 a.props, .int .i64 a.states, rI a.start, .int .i64 a.kind, .int .i64 a.marks, rE a.es])) (fun j => j ≤ a.start.length ∧ ∀ j', j' < j → a.StartOk j') (fun j => a.start.length - j) 0 (by kernel_rfl) ⟨Nat.zero_le _, fun j' h => absurd h (Nat.not_lt_zero _)⟩ ⟨rfl, rfl, rfl, rfl, trivial⟩ rfl ?_
  rintro j ⟨hj, hall⟩
  rcases Nat.lt_or_ge j a.start.length with hjl | hjl
  · have ej : ((j : Int) - 1).toNat = j - 1 := by omega
    have hnext : a.StartOk j → ∀ j', j' < j + 1 → a.StartOk j' := fun h j' hj' => by
      rcases Nat.lt_or_ge j' j with h1 | h1
      · exact hall j' h1
      · obtain rfl : j' = j := by omega
        exact h
    conv => whnf
    repeat' first | ((with_reducible refine Gets.addI ?_ ?_ ?_); (· omega); (· omega); conv => whnf) | ((with_reducible refine Gets.subI ?_ ?_ ?_); (· omega); (· omega); conv => whnf) | (refine Gets.of _ rfl ?_; conv => whnf) | (refine Gets.ixR1 rfl rfl (by omega) ?_; conv => whnf) | (refine Gets.ixRI rfl rfl (by omega) (by omega) ?_; conv => whnf) | (refine Gets.ldRI rfl (by first | omega | exact Nat.le_of_ble_eq_true rfl) ?_; conv => whnf) | (refine Fork.dec (fun _ => ?_) (fun _ => ?_) <;> first | (exfalso; omega) | (conv => whnf))
    all_goals try rw [ej] at *
    all_goals first
      | exact ⟨[], _, rfl, .same rfl, rfl, .f (fun h => by have h1 := h.st j hjl; unfold Au.StartOk at h1; omega)⟩
      | exact ⟨j + 1, ⟨hjl, hnext (by unfold Au.StartOk; omega)⟩, by show a.start.length - (j + 1) < _; omega, ⟨rfl, rfl, rfl, rfl, trivial⟩, rfl⟩
  · obtain rfl : j = a.start.length := by omega
    conv => whnf
    repeat' first | (refine Gets.of _ rfl ?_; conv => whnf) | (refine Fork.dec (fun _ => ?_) (fun _ => ?_) <;> first | (exfalso; omega) | (conv => whnf))
    refine CodeS.loopGK (cuts := []) (σ := Nat) (fun j => [(1, .ptr 0 0), (71, rE a.es), (72, .int .i64 (a.es.length : Int)), (73, .int .i64 (j : Int))]) (fun _ => emptyH.alloc (.cells 1 [.int .i64 a.props, .int .i64 a.states, rI a.start, .int .i64 a.kind, .int .i64 a.marks, rE a.es])) (fun j => j ≤ a.es.length ∧ ∀ j', j' < j → a.EdgeOk (a.es.getD j' default)) (fun j => a.es.length - j) 0 (renL [0] 1) (by kernel_rfl) ⟨Nat.zero_le _, fun j' h => absurd h (Nat.not_lt_zero _)⟩ ⟨rfl, rfl, rfl, rfl, trivial⟩ (EmbL.litsN [0] rfl rfl rfl rfl .nil (.cons ⟨rfl, .inl rfl⟩ .nil)) ?_
    rintro j ⟨hj, hale⟩
    rcases Nat.lt_or_ge j a.es.length with hjl | hjl
    · have hnext : a.EdgeOk (a.es.getD j default) → ∀ j', j' < j + 1 → a.EdgeOk (a.es.getD j' default) := fun h j' hj' => by
        rcases Nat.lt_or_ge j' j with h1 | h1
        · exact hale j' h1
        · obtain rfl : j' = j := by omega
          exact h
      conv => whnf
      repeat' first | ((refine Gets.ixRE (es := 5) rfl (by kernel_rfl) (by omega) ?_); conv => whnf) | ((refine Gets.ldRE rfl rfl rfl rfl hjl ?_); conv => whnf) | (refine Gets.of _ rfl ?_; conv => whnf) | (refine Fork.dec (fun _ => ?_) (fun _ => ?_) <;> first | (exfalso; omega) | (conv => whnf))
      all_goals first | exact ⟨[], _, rfl, .same rfl, rfl, .f (fun h => by have h1 := h.eg j hjl; unfold Au.EdgeOk at h1; omega)⟩ | skip
      have hmo := hk.2.2.2.1
      have hm0 := hk.2.2.1
      refine CodeS.drawP (by kernel_rfl) (by kernel_rfl) ?_
      conv => whnf
      repeat' first | ((refine Gets.shlP (by omega) (by omega) ?_); conv => whnf) | ((with_reducible refine Gets.addI ?_ ?_ ?_); (· omega); (· omega); conv => whnf) | (refine Gets.of _ rfl ?_; conv => whnf) | (refine Fork.dec (fun _ => ?_) (fun _ => ?_) <;> first | (exfalso; omega) | (conv => whnf)) | (refine Fork.neI (fun _ => ?_) (fun _ => ?_) <;> first | (exfalso; omega) | (conv => whnf))
      all_goals first
        | exact ⟨[], _, rfl, .same rfl, rfl, .f (fun h => by have h1 := h.eg j hjl; have h2 := edge_bits hf (by omega) hjl h1; unfold Au.EdgeOk at h1; omega)⟩
        | exact ⟨j + 1, renL [0] 2, ⟨hjl, hnext (by unfold Au.EdgeOk; omega)⟩, by show a.es.length - (j + 1) < _; omega, ⟨rfl, rfl, rfl, rfl, trivial⟩, EmbL.litsN [0] rfl rfl rfl rfl .nil (.cons ⟨rfl, .inl rfl⟩ .nil)⟩
    · obtain rfl : j = a.es.length := by omega
      conv => whnf
      repeat' (refine Fork.dec (fun _ => ?_) (fun _ => ?_) <;> first | (exfalso; omega) | (conv => whnf))
      exact ⟨[], _, rfl, .same rfl, rfl, .t ⟨by omega, by omega, by omega, by omega, hk.1, hk.2.1, hk.2.2, by omega, hall, hale⟩⟩
theorem validAr (a : Au) (hf : a.Fits) (H : AHeap) : CallW Try.prog 11 [a.rv] H fun v H' => H' = H ∧ IsB v a.Ok := by
  refine CallW.pure ?_ rfl H
  have hns := hf.ns
  have hne := hf.ne
  refine CallW.symK (cuts := []) Try.func11 rfl (by kernel_rfl) ?_
  conv => whnf
  repeat' first | (refine Gets.of _ rfl ?_; conv => whnf) | (refine Fork.dec (fun _ => ?_) (fun _ => ?_) <;> first | (exfalso; omega) | (conv => whnf))
  any_goals first | exact ⟨[], _, rfl, .same rfl, rfl, .f (fun h => by have h1 := h.p0; have h2 := h.p6; have h3 := h.s0; have h4 := h.s1; have h5 := h.k0; have h6 := h.k5; omega)⟩ | skip
  refine CallS.of (by kernel_rfl) (marksR a.kind a.marks _) rfl ?_
  rintro _ _ ⟨rfl, hk | hk⟩
  rotate_left
  · conv => whnf
    skip
    exact ⟨[], _, rfl, .same rfl, rfl, .f (fun h => hk h.mo)⟩
  conv => whnf
  repeat' first | (refine Gets.of _ rfl ?_; conv => whnf) | (refine Fork.dec (fun _ => ?_) (fun _ => ?_) <;> first | (exfalso; omega) | (conv => whnf))
  · exact ⟨[], _, rfl, .same rfl, rfl, .f (fun h => by have h1 := h.ne; omega)⟩
  refine CodeS.loopSK (cuts := []) (σ := Nat) (fun j => [(1, .ptr 0 0), (50, rI a.start), (51, .int .i64 (a.start.length : Int)), (52, .int .i64 (j : Int))]) (fun _ => emptyH.alloc (.cells 1 [.int .i64 a.props, .int .i64 a.states, rI a.start, .int .i64 a.kind, .int .i64 a.marks, rE a.es])) (fun j => j ≤ a.start.length ∧ ∀ j', j' < j → a.StartOk j') (fun j => a.start.length - j) 0 (by kernel_rfl) ⟨Nat.zero_le _, fun j' h => absurd h (Nat.not_lt_zero _)⟩ ⟨rfl, rfl, rfl, rfl, trivial⟩ rfl ?_
  rintro j ⟨hj, hall⟩
  rcases Nat.lt_or_ge j a.start.length with hjl | hjl
  · have ej : ((j : Int) - 1).toNat = j - 1 := by omega
    have hnext : a.StartOk j → ∀ j', j' < j + 1 → a.StartOk j' := fun h j' hj' => by
      rcases Nat.lt_or_ge j' j with h1 | h1
      · exact hall j' h1
      · obtain rfl : j' = j := by omega
        exact h
    conv => whnf
    repeat' first | ((with_reducible refine Gets.addI ?_ ?_ ?_); (· omega); (· omega); conv => whnf) | ((with_reducible refine Gets.subI ?_ ?_ ?_); (· omega); (· omega); conv => whnf) | (refine Gets.of _ rfl ?_; conv => whnf) | (refine Gets.ixR1 rfl rfl (by omega) ?_; conv => whnf) | (refine Gets.ixRI rfl rfl (by omega) (by omega) ?_; conv => whnf) | (refine Gets.ldRI rfl (by first | omega | exact Nat.le_of_ble_eq_true rfl) ?_; conv => whnf) | (refine Fork.dec (fun _ => ?_) (fun _ => ?_) <;> first | (exfalso; omega) | (conv => whnf))
    all_goals try rw [ej] at *
    all_goals first
      | exact ⟨[], _, rfl, .same rfl, rfl, .f (fun h => by have h1 := h.st j hjl; unfold Au.StartOk at h1; omega)⟩
      | exact ⟨j + 1, ⟨hjl, hnext (by unfold Au.StartOk; omega)⟩, by show a.start.length - (j + 1) < _; omega, ⟨rfl, rfl, rfl, rfl, trivial⟩, rfl⟩
  · obtain rfl : j = a.start.length := by omega
    conv => whnf
    repeat' first | (refine Gets.of _ rfl ?_; conv => whnf) | (refine Fork.dec (fun _ => ?_) (fun _ => ?_) <;> first | (exfalso; omega) | (conv => whnf))
    refine CodeS.loopGK (cuts := []) (σ := Nat) (fun j => [(1, .ptr 0 0), (81, rE a.es), (82, .int .i64 (a.es.length : Int)), (83, .int .i64 (j : Int))]) (fun _ => emptyH.alloc (.cells 1 [.int .i64 a.props, .int .i64 a.states, rI a.start, .int .i64 a.kind, .int .i64 a.marks, rE a.es])) (fun j => j ≤ a.es.length ∧ ∀ j', j' < j → a.EdgeOk (a.es.getD j' default)) (fun j => a.es.length - j) 0 (renL [0] 1) (by kernel_rfl) ⟨Nat.zero_le _, fun j' h => absurd h (Nat.not_lt_zero _)⟩ ⟨rfl, rfl, rfl, rfl, trivial⟩ (EmbL.litsN [0] rfl rfl rfl rfl .nil (.cons ⟨rfl, .inl rfl⟩ .nil)) ?_
    rintro j ⟨hj, hale⟩
    rcases Nat.lt_or_ge j a.es.length with hjl | hjl
    · have hnext : a.EdgeOk (a.es.getD j default) → ∀ j', j' < j + 1 → a.EdgeOk (a.es.getD j' default) := fun h j' hj' => by
        rcases Nat.lt_or_ge j' j with h1 | h1
        · exact hale j' h1
        · obtain rfl : j' = j := by omega
          exact h
      conv => whnf
      repeat' first | ((refine Gets.ixRE (es := 5) rfl (by kernel_rfl) (by omega) ?_); conv => whnf) | ((refine Gets.ldRE rfl rfl rfl rfl hjl ?_); conv => whnf) | (refine Gets.of _ rfl ?_; conv => whnf) | (refine Fork.dec (fun _ => ?_) (fun _ => ?_) <;> first | (exfalso; omega) | (conv => whnf))
      have hmo := hk.2.1
      have hm0 := hk.1
      refine CodeS.drawP (by kernel_rfl) (by kernel_rfl) ?_
      conv => whnf
      repeat' first | ((refine Gets.shlP (by omega) (by omega) ?_); conv => whnf) | ((with_reducible refine Gets.addI ?_ ?_ ?_); (· omega); (· omega); conv => whnf) | (refine Gets.of _ rfl ?_; conv => whnf) | (refine Fork.dec (fun _ => ?_) (fun _ => ?_) <;> first | (exfalso; omega) | (conv => whnf)) | (refine Fork.neI (fun _ => ?_) (fun _ => ?_) <;> first | (exfalso; omega) | (conv => whnf))
      all_goals first
        | exact ⟨[], _, rfl, .same rfl, rfl, .f (fun h => by have h1 := h.eg j hjl; have h2 := edge_bits hf (by omega) hjl h1; unfold Au.EdgeOk at h1; omega)⟩
        | exact ⟨j + 1, renL [0] 2, ⟨hjl, hnext (by unfold Au.EdgeOk; omega)⟩, by show a.es.length - (j + 1) < _; omega, ⟨rfl, rfl, rfl, rfl, trivial⟩, EmbL.litsN [0] rfl rfl rfl rfl .nil (.cons ⟨rfl, .inl rfl⟩ .nil)⟩
    · obtain rfl : j = a.es.length := by omega
      conv => whnf
      repeat' (refine Fork.dec (fun _ => ?_) (fun _ => ?_) <;> first | (exfalso; omega) | (conv => whnf))
      exact ⟨[], _, rfl, .same rfl, rfl, .t ⟨by omega, by omega, by omega, by omega, by omega, by omega, hk, by omega, hall, hale⟩⟩
end Go.Proofs.Ytljedopidipabaa
