/- Automata as values; Valid. -/
import Derived.Test.YtaccmanpanpbiaaVmA
import Derived.Test.YtaccmanpanpbiaaProg
-- VkG VkH VmA
set_option linter.unusedVariables false
set_option linter.unusedSimpArgs false
set_option maxRecDepth 100000
set_option maxHeartbeats 4000000
namespace Go.Proofs.Ytaccmanpanpbiaa
open Go Go.Vh Go.Vk Go.Proofs
structure Au where
  props : Int
  states : Int
  start : List Int
  kind : Int
  marks : Int
  es : List Edg
def Au.rv (a : Au) : AVal := .agg [.int .i64 a.props, .int .i64 a.states, rI a.start, .int .i64 a.kind, .int .i64 a.marks, rE a.es]
def MarksOk (kind marks : Int) : Prop := 0 ≤ marks ∧ marks ≤ 40 ∧ ((kind = 0 ∨ kind = 2) → marks = 1) ∧ ((kind = 3 ∨ kind = 4) → marks % 2 = 0)
theorem mayR (kind marks : Int) (H : AHeap) : CallW Try.prog 142 [.int .i64 kind, .int .i64 marks] H fun v H' => H' = H ∧ IsB v (0 ≤ kind ∧ kind ≤ 5 ∧ MarksOk kind marks) := by
  refine CallW.symK (cuts := []) Try.func142 rfl (by kernel_rfl) ?_
  conv => whnf
  repeat' first | ((with_reducible refine Gets.remN ?_ ?_ ?_); (· omega); (· omega); conv => whnf) | (refine Fork.dec (fun _ => ?_) (fun _ => ?_) <;> first | (exfalso; omega) | (conv => whnf))
  all_goals refine ⟨rfl, ?_⟩
  all_goals unfold MarksOk
  all_goals first | exact .t (by omega) | exact .f (by omega)
theorem marksR (kind marks : Int) (H : AHeap) : CallW Try.prog 70 [.int .i64 kind, .int .i64 marks] H fun v H' => H' = H ∧ IsB v (MarksOk kind marks) := by
  refine CallW.symK (cuts := []) Try.func70 rfl (by kernel_rfl) ?_
  conv => whnf
  repeat' first | ((with_reducible refine Gets.remN ?_ ?_ ?_); (· omega); (· omega); conv => whnf) | (refine Fork.dec (fun _ => ?_) (fun _ => ?_) <;> first | (exfalso; omega) | (conv => whnf))
  all_goals refine ⟨rfl, ?_⟩
  all_goals unfold MarksOk
  all_goals first | exact .t (by omega) | exact .f (by omega)
structure Au.Fits (a : Au) : Prop where
  ns : a.start.length ≤ 4611686018427387904
  ne : a.es.length ≤ 4611686018427387904
  es : ∀ e ∈ a.es, ∀ x ∈ e.l, fits64 x
def Au.StartOk (a : Au) (j : Nat) : Prop := 0 ≤ a.start.getD j 0 ∧ a.start.getD j 0 < a.states ∧ (0 < j → a.start.getD (j - 1) 0 < a.start.getD j 0)
def Au.EdgeOk (a : Au) (e : Edg) : Prop := 0 ≤ e.fr ∧ e.fr < a.states ∧ 0 ≤ e.to ∧ e.to < a.states ∧ 0 ≤ e.care ∧ e.care < ((2 ^ a.props.toNat : Nat) : Int) ∧ bitsA .andNot .i64 e.bits e.care = 0 ∧ 0 ≤ e.marks ∧ e.marks < ((2 ^ a.marks.toNat : Nat) : Int)
structure Au.Ok (a : Au) : Prop where
  p0 : 0 ≤ a.props
  p6 : a.props ≤ 6
  s0 : 0 ≤ a.states
  s1 : a.states ≤ 3000
  k0 : 0 ≤ a.kind
  k5 : a.kind ≤ 5
  mo : MarksOk a.kind a.marks
  ne : a.es.length ≤ 40000
  st : ∀ j, j < a.start.length → a.StartOk j
  eg : ∀ j, j < a.es.length → a.EdgeOk (a.es.getD j default)
theorem Gets.shlP {k' : IntKind} {p : Int} {A : AVal → Prop} (h0 : 0 ≤ p) (h : p < 63) (hA : A (.int .i64 ((2 ^ p.toNat : Nat) : Int))) : Gets (abin .shl (.int .i64 1) (.int k' p)) A := by
  obtain ⟨n, rfl⟩ := Int.eq_ofNat_of_zero_le h0
  exact Gets.shlN (by omega) hA
theorem andNot_nonneg {b c : Int} (hb : fits64 b) (hc0 : 0 ≤ c) (hc1 : c < 2 ^ 63) (h : bitsA .andNot .i64 b c = 0) : 0 ≤ b := by
  rcases Int.lt_or_le b 0 with hn | hn
  · exfalso
    have h1 : IntKind.wrap .i64 ((BitVec.ofInt 64 b &&& ~~~(BitVec.ofInt 64 c)).toNat : Int) = 0 := h
    have h2 : (BitVec.ofInt 64 b &&& ~~~(BitVec.ofInt 64 c)).msb = true := by
      rw [BitVec.msb_and, BitVec.msb_not, BitVec.msb_eq_toInt, BitVec.msb_eq_toInt, BitVec.toInt_ofInt, BitVec.toInt_ofInt]
      have e1 : b.bmod (2 ^ 64) = b := Int.bmod_eq_of_le (by unfold fits64 at hb; omega) (by omega)
      have e2 : c.bmod (2 ^ 64) = c := Int.bmod_eq_of_le (by omega) (by omega)
      rw [e1, e2]
      simp [hn]; omega
    rw [BitVec.msb_eq_decide] at h2
    have h2 : 2 ^ 63 ≤ (BitVec.ofInt 64 b &&& ~~~(BitVec.ofInt 64 c)).toNat := by simpa using h2
    have h3 := (BitVec.ofInt 64 b &&& ~~~(BitVec.ofInt 64 c)).isLt
    generalize (BitVec.ofInt 64 b &&& ~~~(BitVec.ofInt 64 c)).toNat = n at h1 h2 h3
    simp only [IntKind.wrap, IntKind.bits, IntKind.signed, Bool.true_and, decide_eq_true_eq, show (2 : Int) ^ (64 - 1) = 9223372036854775808 from rfl, show (2 : Int) ^ 64 = 18446744073709551616 from rfl] at h1
    split at h1 <;> omega
  · exact hn
theorem edge_mem {l : List Edg} {j : Nat} (h : j < l.length) : l.getD j default ∈ l := by rw [List.getD_eq_getElem?_getD, List.getElem?_eq_getElem h]; exact List.getElem_mem _
theorem edge_bits {a : Au} (hf : a.Fits) (hp : a.props ≤ 6) {j : Nat} (hj : j < a.es.length) (h : a.EdgeOk (a.es.getD j default)) : 0 ≤ (a.es.getD j default).bits := by
  have h64 : (2 ^ a.props.toNat : Nat) ≤ 64 := Nat.le_trans (Nat.pow_le_pow_right (by decide) (show a.props.toNat ≤ 6 by omega)) (by decide)
  exact andNot_nonneg (hf.es _ (edge_mem hj) _ (by simp [Edg.l])) h.2.2.2.2.1 (by have := h.2.2.2.2.2.1; omega) h.2.2.2.2.2.2.1
theorem validA (a : Au) (hf : a.Fits) (H : AHeap) : CallW Try.prog 72 [a.rv] H fun v H' => H' = H ∧ IsB v a.Ok := by
  refine CallW.pure ?_ rfl H
  have hns := hf.ns
  have hne := hf.ne
  refine CallW.symK (cuts := []) Try.func72 rfl (by kernel_rfl) ?_
  conv => whnf
  repeat' first | (refine Gets.of _ rfl ?_; conv => whnf) | (refine Fork.dec (fun _ => ?_) (fun _ => ?_) <;> first | (exfalso; omega) | (conv => whnf))
  any_goals first | exact ⟨[], _, rfl, .same rfl, rfl, .f (fun h => by have h1 := h.p0; have h2 := h.p6; have h3 := h.s0; have h4 := h.s1; omega)⟩ | skip
  refine CallS.of (by kernel_rfl) (mayR a.kind a.marks _) rfl ?_
  rintro _ _ ⟨rfl, hk | hk⟩
  rotate_left
  · conv => whnf
    skip
    exact ⟨[], _, rfl, .same rfl, rfl, .f (fun h => hk ⟨h.k0, h.k5, h.mo⟩)⟩
  conv => whnf
  repeat' first | (refine Gets.of _ rfl ?_; conv => whnf) | (refine Fork.dec (fun _ => ?_) (fun _ => ?_) <;> first | (exfalso; omega) | (conv => whnf))
  · exact ⟨[], _, rfl, .same rfl, rfl, .f (fun h => by have h1 := h.ne; omega)⟩
  refine CodeS.loopSK (cuts := []) (σ := Nat) (fun j => [(1, .ptr 0 0), (40, rI a.start), (41, .int .i64 (a.start.length : Int)), (42, .int .i64 (j : Int))]) (fun _ => emptyH.alloc (.cells 1 [.int .i64 a.props, .int .i64 a.states, rI a.start, .int .i64 a.kind, .int .i64 a.marks, rE a.es])) (fun j => j ≤ a.start.length ∧ ∀ j', j' < j → a.StartOk j') (fun j => a.start.length - j) 0 (by kernel_rfl) ⟨Nat.zero_le _, fun j' h => absurd h (Nat.not_lt_zero _)⟩ ⟨rfl, rfl, rfl, rfl, trivial⟩ rfl ?_
  rintro j ⟨hj, hall⟩
  rcases Nat.lt_or_ge j a.start.length with hjl | hjl
  · have ej : ((j : Int) - 1).toNat = j - 1 := by omega
    have hnext : a.StartOk j → ∀ j', j' < j + 1 → a.StartOk j' := fun h j' hj' => by
      rcases Nat.lt_or_ge j' j with h1 | h1
      · exact hall j' h1
      · obtain rfl : j' = j := by omega
        exact h
    conv => whnf
    repeat' first | ((with_reducible refine Gets.addI ?_ ?_ ?_); (· omega); (· omega); conv => whnf) | ((with_reducible refine Gets.subI ?_ ?_ ?_); (· omega); (· omega); conv => whnf) | (refine Gets.of _ rfl ?_; conv => whnf) | (refine Gets.ixR1 rfl rfl (by omega) ?_; conv => whnf) | (refine Gets.ixRI rfl rfl (by omega) (by omega) ?_; conv => whnf) | (refine Gets.ldRI rfl (by first | omega | exact Nat.le_of_ble_eq_true rfl) ?_; conv => whnf) | (refine Fork.dec (fun _ => ?_) (fun _ => ?_) <;> first | (exfalso; omega) | (conv => whnf))
    all_goals try rw [ej] at *
    all_goals first
      | exact ⟨[], _, rfl, .same rfl, rfl, .f (fun h => by have h1 := h.st j hjl; unfold Au.StartOk at h1; omega)⟩
      | exact ⟨j + 1, ⟨hjl, hnext (by unfold Au.StartOk; omega)⟩, by show a.start.length - (j + 1) < _; omega, ⟨rfl, rfl, rfl, rfl, trivial⟩, rfl⟩
  · obtain rfl : j = a.start.length := by omega
    conv => whnf
    repeat' first | (refine Gets.of _ rfl ?_; conv => whnf) | (refine Fork.dec (fun _ => ?_) (fun _ => ?_) <;> first | (exfalso; omega) | (conv => whnf))
    refine CodeS.loopGK (cuts := []) (σ := Nat) (fun j => [(1, .ptr 0 0), (71, rE a.es), (72, .int .i64 (a.es.length : Int)), (73, .int .i64 (j : Int))]) (fun _ => emptyH.alloc (.cells 1 [.int .i64 a.props, .int .i64 a.states, rI a.start, .int .i64 a.kind, .int .i64 a.marks, rE a.es])) (fun j => j ≤ a.es.length ∧ ∀ j', j' < j → a.EdgeOk (a.es.getD j' default)) (fun j => a.es.length - j) 0 (renL [0] 1) (by kernel_rfl) ⟨Nat.zero_le _, fun j' h => absurd h (Nat.not_lt_zero _)⟩ ⟨rfl, rfl, rfl, rfl, trivial⟩ (EmbL.litsN [0] rfl rfl rfl rfl .nil (.cons ⟨rfl, .inl rfl⟩ .nil)) ?_
    rintro j ⟨hj, hale⟩
    rcases Nat.lt_or_ge j a.es.length with hjl | hjl
    · have hnext : a.EdgeOk (a.es.getD j default) → ∀ j', j' < j + 1 → a.EdgeOk (a.es.getD j' default) := fun h j' hj' => by
        rcases Nat.lt_or_ge j' j with h1 | h1
        · exact hale j' h1
        · obtain rfl : j' = j := by omega
          exact h
      conv => whnf
      repeat' first | ((refine Gets.ixRE (es := 5) rfl (by kernel_rfl) (by omega) ?_); conv => whnf) | ((refine Gets.ldRE rfl rfl rfl rfl hjl ?_); conv => whnf) | (refine Gets.of _ rfl ?_; conv => whnf) | (refine Fork.dec (fun _ => ?_) (fun _ => ?_) <;> first | (exfalso; omega) | (conv => whnf))
      all_goals first | exact ⟨[], _, rfl, .same rfl, rfl, .f (fun h => by have h1 := h.eg j hjl; unfold Au.EdgeOk at h1; omega)⟩ | skip
      have hmo := hk.2.2.2.1
      have hm0 := hk.2.2.1
      refine CodeS.drawP (by kernel_rfl) (by kernel_rfl) ?_
      conv => whnf
      repeat' first | ((refine Gets.shlP (by omega) (by omega) ?_); conv => whnf) | ((with_reducible refine Gets.addI ?_ ?_ ?_); (· omega); (· omega); conv => whnf) | (refine Gets.of _ rfl ?_; conv => whnf) | (refine Fork.dec (fun _ => ?_) (fun _ => ?_) <;> first | (exfalso; omega) | (conv => whnf)) | (refine Fork.neI (fun _ => ?_) (fun _ => ?_) <;> first | (exfalso; omega) | (conv => whnf))
      all_goals first
        | exact ⟨[], _, rfl, .same rfl, rfl, .f (fun h => by have h1 := h.eg j hjl; have h2 := edge_bits hf (by omega) hjl h1; unfold Au.EdgeOk at h1; omega)⟩
        | exact ⟨j + 1, renL [0] 2, ⟨hjl, hnext (by unfold Au.EdgeOk; omega)⟩, by show a.es.length - (j + 1) < _; omega, ⟨rfl, rfl, rfl, rfl, trivial⟩, EmbL.litsN [0] rfl rfl rfl rfl .nil (.cons ⟨rfl, .inl rfl⟩ .nil)⟩
    · obtain rfl : j = a.es.length := by omega
      conv => whnf
      repeat' (refine Fork.dec (fun _ => ?_) (fun _ => ?_) <;> first | (exfalso; omega) | (conv => whnf))
      exact ⟨[], _, rfl, .same rfl, rfl, .t ⟨by omega, by omega, by omega, by omega, hk.1, hk.2.1, hk.2.2, by omega, hall, hale⟩⟩
theorem validAr (a : Au) (hf : a.Fits) (H : AHeap) : CallW Try.prog 18 [a.rv] H fun v H' => H' = H ∧ IsB v a.Ok := by
  refine CallW.pure ?_ rfl H
  have hns := hf.ns
  have hne := hf.ne
  refine CallW.symK (cuts := []) Try.func18 rfl (by kernel_rfl) ?_
  conv => whnf
  repeat' first | (refine Gets.of _ rfl ?_; conv => whnf) | (refine Fork.dec (fun _ => ?_) (fun _ => ?_) <;> first | (exfalso; omega) | (conv => whnf))
  any_goals first | exact ⟨[], _, rfl, .same rfl, rfl, .f (fun h => by have h1 := h.p0; have h2 := h.p6; have h3 := h.s0; have h4 := h.s1; have h5 := h.k0; have h6 := h.k5; omega)⟩ | skip
  refine CallS.of (by kernel_rfl) (marksR a.kind a.marks _) rfl ?_
  rintro _ _ ⟨rfl, hk | hk⟩
  rotate_left
  · conv => whnf
    skip
    exact ⟨[], _, rfl, .same rfl, rfl, .f (fun h => hk h.mo)⟩
  conv => whnf
  repeat' first | (refine Gets.of _ rfl ?_; conv => whnf) | (refine Fork.dec (fun _ => ?_) (fun _ => ?_) <;> first | (exfalso; omega) | (conv => whnf))
  · exact ⟨[], _, rfl, .same rfl, rfl, .f (fun h => by have h1 := h.ne; omega)⟩
  refine CodeS.loopSK (cuts := []) (σ := Nat) (fun j => [(1, .ptr 0 0), (50, rI a.start), (51, .int .i64 (a.start.length : Int)), (52, .int .i64 (j : Int))]) (fun _ => emptyH.alloc (.cells 1 [.int .i64 a.props, .int .i64 a.states, rI a.start, .int .i64 a.kind, .int .i64 a.marks, rE a.es])) (fun j => j ≤ a.start.length ∧ ∀ j', j' < j → a.StartOk j') (fun j => a.start.length - j) 0 (by kernel_rfl) ⟨Nat.zero_le _, fun j' h => absurd h (Nat.not_lt_zero _)⟩ ⟨rfl, rfl, rfl, rfl, trivial⟩ rfl ?_
  rintro j ⟨hj, hall⟩
  rcases Nat.lt_or_ge j a.start.length with hjl | hjl
  · have ej : ((j : Int) - 1).toNat = j - 1 := by omega
    have hnext : a.StartOk j → ∀ j', j' < j + 1 → a.StartOk j' := fun h j' hj' => by
      rcases Nat.lt_or_ge j' j with h1 | h1
      · exact hall j' h1
      · obtain rfl : j' = j := by omega
        exact h
    conv => whnf
    repeat' first | ((with_reducible refine Gets.addI ?_ ?_ ?_); (· omega); (· omega); conv => whnf) | ((with_reducible refine Gets.subI ?_ ?_ ?_); (· omega); (· omega); conv => whnf) | (refine Gets.of _ rfl ?_; conv => whnf) | (refine Gets.ixR1 rfl rfl (by omega) ?_; conv => whnf) | (refine Gets.ixRI rfl rfl (by omega) (by omega) ?_; conv => whnf) | (refine Gets.ldRI rfl (by first | omega | exact Nat.le_of_ble_eq_true rfl) ?_; conv => whnf) | (refine Fork.dec (fun _ => ?_) (fun _ => ?_) <;> first | (exfalso; omega) | (conv => whnf))
    all_goals try rw [ej] at *
    all_goals first
      | exact ⟨[], _, rfl, .same rfl, rfl, .f (fun h => by have h1 := h.st j hjl; unfold Au.StartOk at h1; omega)⟩
      | exact ⟨j + 1, ⟨hjl, hnext (by unfold Au.StartOk; omega)⟩, by show a.start.length - (j + 1) < _; omega, ⟨rfl, rfl, rfl, rfl, trivial⟩, rfl⟩
  · obtain rfl : j = a.start.length := by omega
    conv => whnf
    repeat' first | (refine Gets.of _ rfl ?_; conv => whnf) | (refine Fork.dec (fun _ => ?_) (fun _ => ?_) <;> first | (exfalso; omega) | (conv => whnf))
    refine CodeS.loopGK (cuts := []) (σ := Nat) (fun j => [(1, .ptr 0 0), (81, rE a.es), (82, .int .i64 (a.es.length : Int)), (83, .int .i64 (j : Int))]) (fun _ => emptyH.alloc (.cells 1 [.int .i64 a.props, .int .i64 a.states, rI a.start, .int .i64 a.kind, .int .i64 a.marks, rE a.es])) (fun j => j ≤ a.es.length ∧ ∀ j', j' < j → a.EdgeOk (a.es.getD j' default)) (fun j => a.es.length - j) 0 (renL [0] 1) (by kernel_rfl) ⟨Nat.zero_le _, fun j' h => absurd h (Nat.not_lt_zero _)⟩ ⟨rfl, rfl, rfl, rfl, trivial⟩ (EmbL.litsN [0] rfl rfl rfl rfl .nil (.cons ⟨rfl, .inl rfl⟩ .nil)) ?_
    rintro j ⟨hj, hale⟩
    rcases Nat.lt_or_ge j a.es.length with hjl | hjl
    · have hnext : a.EdgeOk (a.es.getD j default) → ∀ j', j' < j + 1 → a.EdgeOk (a.es.getD j' default) := fun h j' hj' => by
        rcases Nat.lt_or_ge j' j with h1 | h1
        · exact hale j' h1
        · obtain rfl : j' = j := by omega
          exact h
      conv => whnf
      repeat' first | ((refine Gets.ixRE (es := 5) rfl (by kernel_rfl) (by omega) ?_); conv => whnf) | ((refine Gets.ldRE rfl rfl rfl rfl hjl ?_); conv => whnf) | (refine Gets.of _ rfl ?_; conv => whnf) | (refine Fork.dec (fun _ => ?_) (fun _ => ?_) <;> first | (exfalso; omega) | (conv => whnf))
      have hmo := hk.2.1
      have hm0 := hk.1
      refine CodeS.drawP (by kernel_rfl) (by kernel_rfl) ?_
      conv => whnf
      repeat' first | ((refine Gets.shlP (by omega) (by omega) ?_); conv => whnf) | ((with_reducible refine Gets.addI ?_ ?_ ?_); (· omega); (· omega); conv => whnf) | (refine Gets.of _ rfl ?_; conv => whnf) | (refine Fork.dec (fun _ => ?_) (fun _ => ?_) <;> first | (exfalso; omega) | (conv => whnf)) | (refine Fork.neI (fun _ => ?_) (fun _ => ?_) <;> first | (exfalso; omega) | (conv => whnf))
      all_goals first
        | exact ⟨[], _, rfl, .same rfl, rfl, .f (fun h => by have h1 := h.eg j hjl; have h2 := edge_bits hf (by omega) hjl h1; unfold Au.EdgeOk at h1; omega)⟩
        | exact ⟨j + 1, renL [0] 2, ⟨hjl, hnext (by unfold Au.EdgeOk; omega)⟩, by show a.es.length - (j + 1) < _; omega, ⟨rfl, rfl, rfl, rfl, trivial⟩, EmbL.litsN [0] rfl rfl rfl rfl .nil (.cons ⟨rfl, .inl rfl⟩ .nil)⟩
    · obtain rfl : j = a.es.length := by omega
      conv => whnf
      repeat' (refine Fork.dec (fun _ => ?_) (fun _ => ?_) <;> first | (exfalso; omega) | (conv => whnf))
      exact ⟨[], _, rfl, .same rfl, rfl, .t ⟨by omega, by omega, by omega, by omega, by omega, by omega, hk, by omega, hall, hale⟩⟩
end Go.Proofs.Ytaccmanpanpbiaa

/- Clone, Copy, Widen, Same. -/
-- VkG VkH VmA
set_option linter.unusedVariables false
set_option linter.unusedSimpArgs false
set_option maxRecDepth 100000
set_option maxHeartbeats 4000000
namespace Go.Proofs.Ytaccmanpanpbiaa
open Go Go.Vh Go.Vk Go.Proofs
theorem _root_.Go.Vh.CallW.nilOrK {P : Program} {f : FuncId} {i off n : Nat} {rest : List AVal} {H : AHeap} {K : AVal → AHeap → Prop} (h1 : CallW P f (.slice i off n :: rest) H K) (h2 : n = 0 → CallW P f (.nilSlice :: rest) H K) : CallW P f (.view i off n :: rest) H K :=
  CallW.viewsOr h1 h2 fun φ w cs hR hv => by
    cases cs with
    | nil => simp [VRels] at hv
    | cons c cs =>
      obtain ⟨a, b⟩ := VRels_cons.1 hv
      obtain ⟨bi, hb, ⟨h0, h⟩ | ⟨cap, ad, h3, h4, h5⟩⟩ := a
      · exact .inr ⟨h0, VRels_cons.2 ⟨h, b⟩⟩
      · exact .inl (VRels_cons.2 ⟨⟨bi, cap, ad, hb, h3, h4, h5⟩, b⟩)
theorem cloneR (l : List Int) (hl : l.length ≤ 4294967296) (H : AHeap) : CallW Try.prog 143 [rI l] H fun v H' => H' = H ∧ v = rI l := by
  rcases l with _ | ⟨x, l⟩
  · refine CallW.toRows (ls := [[]]) (args := [.view 0 0 0]) (G := ros [[]]) (K := fun v => v = rI []) ?_ rfl (.row .nil) H
    refine CallW.nilOrK ?_ fun _ => ?_
    · refine CallW.symK (cuts := []) Try.func143 rfl (by kernel_rfl) ?_
      conv => whnf
      repeat' first | (refine Gets.of _ rfl ?_; conv => whnf) | (refine Fork.noR rfl ?_; conv => whnf)
      exact ⟨[], rI [], rfl, .slice0, rfl, rfl⟩
    · refine CallW.symK (cuts := []) Try.func143 rfl (by kernel_rfl) ?_
      conv => whnf
      repeat' (refine Fork.yesR rfl ?_; conv => whnf)
      exact ⟨[], rI [], rfl, .nil, rfl, rfl⟩
  · have h0 : (x :: l).length ≠ 0 := by simp
    refine CallW.pure ?_ rfl H
    refine CallW.symK (cuts := []) Try.func143 rfl (by kernel_rfl) ?_
    conv => whnf
    repeat' (refine Fork.noR rfl ?_; conv => whnf)
    refine Gets.appSrc (ti := tiI) (l := []) (xs := x :: l) (m := 0) (n := (x :: l).length) rfl rfl rfl rfl rfl (by decide) (Nat.le_refl _) (src_row rfl) rfl (by omega) ?_
    conv => whnf
    skip
    exact ⟨[1], rI (x :: l), rfl, frzI rfl rfl (by omega), rfl, rfl⟩
theorem Gets.copyR {P : Program} {H : AHeap} {t tx : TypeId} {ti : TI} {i n es : Nat} {l m : List Int} {A : AVal × AHeap → Prop} (ht : sliceT P t = some ti) (hsz : ti.size = es) (hi : H.f i = .cells es (ints m)) (hl : l.length = n * es) (hm : m.length = n * es)
    (hA : A (.int .i64 (n : Int), H.set i (.cells es (ints l)))) : Gets (builtA P H .copy [t, tx] [.slice i 0 n, .row n (ints l)]) A := by
  refine ⟨⟨_, ?_, hA⟩⟩
  have hsrc : srcA H es (.row n (ints l)) = some (ints l, n) := by simp only [srcA, ints_length, hl, if_true]
  have htk : (ints l).take (min n n * es) = ints l := List.take_of_length_le (by rw [ints_length, hl, Nat.min_self]; exact Nat.le_refl _)
  simp only [builtA, apureB, amemB, acopy, ht, hsz, hsrc, hi, if_true, htk, AHeap.store, ints_length, hl, hm, Nat.zero_add, Nat.le_refl, true_and]
  have hsc : (ints l).all AVal.scalar = true := nums_scalar _ _
  rw [if_pos hsc, Option.map_some, Nat.min_self]
  congr 4
  rw [List.take_zero, List.nil_append, List.drop_eq_nil_of_le (by rw [ints_length, hm]; exact Nat.le_refl _), List.append_nil]
theorem copyA (a : Au) (hns : a.start.length ≤ 4294967296) (hne : a.es.length ≤ 4294967296) (H : AHeap) : CallW Try.prog 73 [a.rv] H fun v H' => H' = H ∧ v = a.rv := by
  refine CallW.pure ?_ rfl H
  refine CallW.symK (cuts := []) Try.func73 rfl (by kernel_rfl) ?_
  conv => whnf
  repeat' (refine Gets.of _ rfl ?_; conv => whnf)
  refine CallS.of (by kernel_rfl) (cloneR a.start hns _) rfl ?_
  rintro _ _ ⟨rfl, rfl⟩
  conv => whnf
  repeat' first | ((refine Gets.makeE (k := 5) rfl rfl (by decide) rfl (by decide) (by omega) (by omega) ?_); conv => whnf) | ((refine Gets.copyR (es := 5) (l := flat a.es) rfl rfl rfl (flat_length _) List.length_replicate ?_); conv => whnf) | ((refine Gets.stS rfl rfl rfl rfl rfl rfl ?_); conv => whnf) | (refine Gets.of _ rfl ?_; conv => whnf)
  exact ⟨[3], a.rv, rfl, .agg (.cons (.same rfl) (.cons (.same rfl) (.cons (.same rfl) (.cons (.same rfl) (.cons (.same rfl) (.cons (frzE rfl rfl rfl) (.same rfl))))))), rfl, rfl⟩
open Classical in
/-- Over more propositions. -/
noncomputable def widenA (a : Au) (n : Int) : Au × Int := if a.Ok then if n < a.props ∨ 6 < n then (⟨0, 0, [], 0, 0, []⟩, 6) else ({ a with props := n }, 0) else (⟨0, 0, [], 0, 0, []⟩, 1)
def errA : Au := ⟨0, 0, [], 0, 0, []⟩
theorem errE (e : Int) {H : AHeap} : ToldR (fun v => v = .tuple [errA.rv, .int .i64 e]) (.tuple [.agg [.int .i64 0, .int .i64 0, .nilSlice, .int .i64 0, .int .i64 0, .nilSlice], .int .i64 e]) H :=
  ⟨[], _, rfl, .tuple (.cons (.agg (.cons (.same rfl) (.cons (.same rfl) (.cons .nil (.cons (.same rfl) (.cons (.same rfl) (.cons .nil (.same rfl)))))))) (.same rfl)), rfl, rfl⟩
theorem start_len {a : Au} (h : a.Ok) : a.start.length ≤ 3000 := by
  have key : ∀ j : Nat, j < a.start.length → (j : Int) ≤ a.start.getD j 0 := by
    intro j
    induction j with
    | zero => intro hj; exact (h.st 0 hj).1
    | succ j ih =>
      intro hj
      have h1 := ih (by omega)
      have h2 := (h.st (j + 1) hj).2.2 (by omega)
      rw [show j + 1 - 1 = j from rfl] at h2
      omega
  rcases Nat.eq_zero_or_pos a.start.length with h0 | h0
  · omega
  · have h1 := key (a.start.length - 1) (by omega)
    have h2 := (h.st (a.start.length - 1) (by omega)).2.1
    have h3 := h.s1
    omega
theorem widenR (a : Au) (hf : a.Fits) (n : Int) (H : AHeap) : CallW Try.prog 20 [a.rv, .int .i64 n] H fun v H' => H' = H ∧ v = .tuple [(widenA a n).1.rv, .int .i64 (widenA a n).2] := by
  refine CallW.pure ?_ rfl H
  refine CallW.symK (cuts := []) Try.func20 rfl (by kernel_rfl) ?_
  conv => whnf
  repeat' (refine Gets.of _ rfl ?_; conv => whnf)
  refine CallS.of (by kernel_rfl) (validA a hf _) rfl ?_
  rintro _ _ ⟨rfl, hk | hk⟩
  rotate_left
  · rw [widenA, if_neg hk]
    conv => whnf
    repeat' ((refine Gets.stA rfl rfl rfl rfl (by rfl) ?_); conv => whnf)
    exact errE 1
  have hne := hk.ne
  have hns := start_len hk
  rw [widenA, if_pos hk]
  conv => whnf
  repeat' first | ((refine Gets.stA rfl rfl rfl rfl (by rfl) ?_); conv => whnf) | (refine Gets.of _ rfl ?_; conv => whnf) | (refine Fork.dec (fun _ => ?_) (fun _ => ?_) <;> first | (exfalso; omega) | (conv => whnf))
  · rw [if_pos (show n < a.props ∨ 6 < n by omega)]
    exact errE 6
  · rw [if_pos (show n < a.props ∨ 6 < n by omega)]
    exact errE 6
  refine CallS.of (by kernel_rfl) (copyA a (by omega) (by omega) _) rfl ?_
  rintro _ _ ⟨rfl, rfl⟩
  rw [if_neg (show ¬ (n < a.props ∨ 6 < n) by omega)]
  conv => whnf
  repeat' first | ((refine Gets.stA rfl rfl rfl rfl (by rfl) ?_); conv => whnf) | (refine Gets.of _ rfl ?_; conv => whnf)
  exact ⟨[], _, rfl, .same rfl, rfl, rfl⟩
theorem listR (l m : List Int) (hl : l.length ≤ 4611686018427387904) (hm : m.length ≤ 4611686018427387904) (H : AHeap) : CallW Try.prog 99 [rI l, rI m] H fun v H' => H' = H ∧ IsB v (l = m) := by
  refine CallW.pure ?_ rfl H
  refine CallW.symK (cuts := []) Try.func99 rfl (by kernel_rfl) ?_
  conv => whnf
  repeat' first | (refine Gets.of _ rfl ?_; conv => whnf) | (refine Fork.neI (fun _ => ?_) (fun _ => ?_) <;> first | (exfalso; omega) | (conv => whnf))
  · exact ⟨[], _, rfl, .same rfl, rfl, .f (fun h => by subst h; omega)⟩
  refine CodeS.loopSK (cuts := []) (σ := Nat) (fun j => [(0, rI l), (1, rI m), (12, .int .i64 (l.length : Int)), (13, .int .i64 (j : Int))]) (fun _ => emptyH) (fun j => j ≤ l.length ∧ ∀ j', j' < j → l.getD j' 0 = m.getD j' 0) (fun j => l.length - j) 0 (by kernel_rfl) ⟨Nat.zero_le _, fun j' h => absurd h (Nat.not_lt_zero _)⟩ ⟨rfl, rfl, rfl, rfl, trivial⟩ rfl ?_
  rintro j ⟨hj, hall⟩
  rcases Nat.lt_or_ge j l.length with hjl | hjl
  · have hnext : l.getD j 0 = m.getD j 0 → ∀ j', j' < j + 1 → l.getD j' 0 = m.getD j' 0 := fun h j' hj' => by
      rcases Nat.lt_or_ge j' j with h1 | h1
      · exact hall j' h1
      · obtain rfl : j' = j := by omega
        exact h
    conv => whnf
    repeat' (refine Fork.dec (fun _ => ?_) (fun _ => ?_) <;> first | (exfalso; omega) | (conv => whnf))
    refine CodeS.drawP (by kernel_rfl) (by kernel_rfl) ?_
    conv => whnf
    repeat' first | ((with_reducible refine Gets.addI ?_ ?_ ?_); (· omega); (· omega); conv => whnf) | (refine Gets.ixR1 rfl rfl (by omega) ?_; conv => whnf) | (refine Gets.ldRI rfl (by first | omega | exact Nat.le_of_ble_eq_true rfl) ?_; conv => whnf) | (refine Fork.neI (fun _ => ?_) (fun _ => ?_) <;> first | (exfalso; omega) | (conv => whnf))
    all_goals first
      | exact ⟨[], _, rfl, .same rfl, rfl, .f (fun h => by subst h; rename_i g; exact absurd rfl g)⟩
      | exact ⟨j + 1, ⟨hjl, hnext (by omega)⟩, by show l.length - (j + 1) < _; omega, ⟨rfl, rfl, rfl, rfl, trivial⟩, rfl⟩
  · obtain rfl : j = l.length := by omega
    conv => whnf
    repeat' (refine Fork.dec (fun _ => ?_) (fun _ => ?_) <;> first | (exfalso; omega) | (conv => whnf))
    refine ⟨[], _, rfl, .same rfl, rfl, .t (List.ext_getElem (by omega) fun j' h1 h2 => ?_)⟩
    have := hall j' h1
    rwa [List.getD_eq_getElem?_getD, List.getD_eq_getElem?_getD, List.getElem?_eq_getElem h1, List.getElem?_eq_getElem h2] at this
end Go.Proofs.Ytaccmanpanpbiaa

/- Same, Few. -/
-- VkG VkH VmA
set_option linter.unusedVariables false
set_option linter.unusedSimpArgs false
set_option maxRecDepth 100000
set_option maxHeartbeats 4000000
namespace Go.Proofs.Ytaccmanpanpbiaa
open Go Go.Vh Go.Vk Go.Proofs
theorem aeq_edge {P : Program} {t : TypeId} {fs : Array Field} (hu : P.underlying t = some (.struct fs)) (hd : flatD P t = some [.int .i64, .int .i64, .int .i64, .int .i64, .int .i64]) (hg : P.eqGuardType P.depth t = false) (a b : Edg) :
    aeqBin P .eql t (kvE a) (kvE b) = some (.bool (decide (a = b))) ∧ aeqBin P .neq t (kvE a) (kvE b) = some (.bool (!decide (a = b))) := by
  have e : aeqGo P t (kvE a) (kvE b) = some (decide (a = b)) := by
    simp only [kvE, aeqGo, hu, hd, hg]
    simp only [aeqL, aeqS, edg_ext, beqI]
    by_cases h1 : a.fr = b.fr <;> by_cases h2 : a.to = b.to <;> by_cases h3 : a.care = b.care <;> by_cases h4 : a.bits = b.bits <;> by_cases h5 : a.marks = b.marks <;> simp [h1, h2, h3, h4, h5] <;> rfl
  simp only [aeqBin, e, Option.map_some, and_self]
theorem listT (l : List Int) (hl : l.length ≤ 4611686018427387904) (H : AHeap) : CallW Try.prog 99 [rI l, rI l] H fun v H' => H' = H ∧ v = .bool true :=
  (listR l l hl hl H).mono fun v H' h => ⟨h.1, by
    obtain ⟨_, h | h⟩ := h
    · rfl
    · exact absurd rfl h⟩
/-- An automaton is the same as itself. -/
theorem sameT (u : Au) (hns : u.start.length ≤ 4611686018427387904) (hne : u.es.length ≤ 4611686018427387904) (H : AHeap) : CallW Try.prog 40 [u.rv, u.rv] H fun v H' => H' = H ∧ v = .bool true := by
  refine CallW.pure ?_ rfl H
  refine CallW.symK (cuts := []) Try.func40 rfl (by kernel_rfl) ?_
  conv => whnf
  repeat' first | (refine Gets.of _ rfl ?_; conv => whnf) | (refine Fork.neI (fun _ => ?_) (fun _ => ?_) <;> first | (exfalso; omega) | (conv => whnf))
  all_goals first | (rename_i h; exact absurd rfl h) | skip
  refine CallS.of (by kernel_rfl) (listT u.start hns _) rfl ?_
  rintro _ _ ⟨rfl, rfl⟩
  conv => whnf
  repeat' first | (refine Gets.of _ rfl ?_; conv => whnf) | (refine Fork.neI (fun _ => ?_) (fun _ => ?_) <;> first | (exfalso; omega) | (conv => whnf))
  all_goals first | (rename_i h; exact absurd rfl h) | skip
  refine CodeS.loopSK (cuts := []) (σ := Nat) (fun j => [(2, .ptr 0 0), (3, .ptr 1 0), (51, .int .i64 (u.es.length : Int)), (52, .int .i64 (j : Int))]) (fun _ => (emptyH.alloc (.cells 1 [.int .i64 u.props, .int .i64 u.states, rI u.start, .int .i64 u.kind, .int .i64 u.marks, rE u.es])).alloc (.cells 1 [.int .i64 u.props, .int .i64 u.states, rI u.start, .int .i64 u.kind, .int .i64 u.marks, rE u.es])) (fun j => j ≤ u.es.length) (fun j => u.es.length - j) 0 (by kernel_rfl) (Nat.zero_le _) ⟨rfl, rfl, rfl, rfl, trivial⟩ rfl ?_
  intro j hj
  rcases Nat.lt_or_ge j u.es.length with hjl | hjl
  · conv => whnf
    repeat' (refine Fork.dec (fun _ => ?_) (fun _ => ?_) <;> first | (exfalso; omega) | (conv => whnf))
    refine CodeS.drawP (by kernel_rfl) (by kernel_rfl) ?_
    conv => whnf
    repeat' first | ((refine Gets.ixRE (es := 5) rfl (by kernel_rfl) (by omega) ?_); conv => whnf) | ((refine Gets.ldRE rfl rfl rfl rfl hjl ?_); conv => whnf) | (refine Gets.of _ rfl ?_; conv => whnf)
    have hq := (aeq_edge (P := Try.prog) Try.underlying49 (by kernel_rfl) (by kernel_rfl) (u.es.getD j default) (u.es.getD j default)).2
    rw [decide_eq_true rfl] at hq
    dsimp only [kvE] at hq
    rw [hq]
    conv => whnf
    repeat' first | ((with_reducible refine Gets.addI ?_ ?_ ?_); (· omega); (· omega); conv => whnf) | (refine Fork.noR rfl ?_; conv => whnf)
    exact ⟨j + 1, hjl, by show u.es.length - (j + 1) < _; omega, ⟨rfl, rfl, rfl, rfl, trivial⟩, rfl⟩
  · obtain rfl : j = u.es.length := by omega
    conv => whnf
    repeat' (refine Fork.dec (fun _ => ?_) (fun _ => ?_) <;> first | (exfalso; omega) | (conv => whnf))
    exact ⟨[], _, rfl, .same rfl, rfl, rfl⟩
/-- Rows of automata. -/
def acells (l : List Au) : List AVal := l.flatMap fun a => [.int .i64 a.props, .int .i64 a.states, rI a.start, .int .i64 a.kind, .int .i64 a.marks, rE a.es]
def rAs (l : List Au) : AVal := .row l.length (acells l)
theorem acells_length (l : List Au) : (acells l).length = l.length * 6 := by
  induction l with
  | nil => rfl
  | cons a l ih => show (_ ++ acells l).length = _; rw [List.length_append, ih]; simp; omega
theorem acells_get : ∀ (l : List Au) (j : Nat) (h : j < l.length), AVal.agg (((acells l).drop (j * 6)).take 6) = l[j].rv
  | [], j, h => absurd h (Nat.not_lt_zero j)
  | a :: l, 0, h => rfl
  | a :: l, j + 1, h => by
    have := acells_get l j (by simpa using h)
    rw [show (j + 1) * 6 = j * 6 + 6 by omega]
    exact this
/-- Small enough. -/
def Au.Few (s e m : Int) (a : Au) : Prop := (a.es.length : Int) ≤ e ∧ (a.start.length : Int) ≤ s + 1000 ∧ (a.Ok → a.states ≤ s ∧ a.marks ≤ m)
theorem fewA (l : List Au) (hf : ∀ a ∈ l, a.Fits) (hn : l.length ≤ 1000) (s e m : Int) (h0 : 0 ≤ s) (h1 : s ≤ 100000) (H : AHeap) : CallW Try.prog 36 [.int .i64 s, .int .i64 e, .int .i64 m, rAs l] H fun v H' => H' = H ∧ IsB v (∀ a ∈ l, a.Few s e m) := by
  refine CallW.pure ?_ rfl H
  refine CallW.symK (cuts := []) Try.func36 rfl (by kernel_rfl) ?_
  conv => whnf
  repeat' (refine Gets.of _ rfl ?_; conv => whnf)
  refine CodeS.loopGK (cuts := []) (σ := Nat) (fun j => [(0, .int .i64 s), (1, .int .i64 e), (2, .int .i64 m), (11, rAs l), (12, .int .i64 (l.length : Int)), (13, .int .i64 (j : Int))]) (fun _ => emptyH) (fun j => j ≤ l.length ∧ ∀ k (h : k < l.length), k < j → l[k].Few s e m) (fun j => l.length - j) 0 (renL [] 0) (by kernel_rfl) ⟨Nat.zero_le _, fun k _ hk => by omega⟩ ⟨rfl, rfl, rfl, rfl, rfl, rfl, trivial⟩ (EmbL.litsN [] rfl rfl rfl rfl .nil .nil) ?_
  rintro j ⟨g1, g2⟩
  rcases Nat.lt_or_ge j l.length with hj | hj
  · have hfj := hf _ (List.getElem_mem hj)
    have b1 := hfj.ns
    have b2 := hfj.ne
    have hl := acells_length l
    have hno : ¬ l[j].Few s e m → ¬ ∀ a ∈ l, a.Few s e m := fun h h' => h (h' _ (List.getElem_mem hj))
    have hnext : l[j].Few s e m → ∀ k (h : k < l.length), k < j + 1 → l[k].Few s e m := fun h' k h hk => by
      rcases Nat.lt_or_ge k j with h1 | h1
      · exact g2 k h h1
      · obtain rfl : k = j := by omega
        exact h'
    conv => whnf
    repeat' first | ((refine Gets.ixRE (es := 6) rfl rfl hj ?_); conv => whnf) | ((refine Gets.ldR (v := l[j].rv) rfl (by show (if j * 6 + 6 ≤ (acells l).length then some (AVal.agg (((acells l).drop (j * 6)).take 6)) else none) = _; rw [if_pos (by omega), acells_get l j hj]) ?_); conv => whnf) | ((with_reducible refine Gets.addI ?_ ?_ ?_); (· omega); (· omega); conv => whnf) | (refine Gets.of _ rfl ?_; conv => whnf) | (refine Fork.dec (fun _ => ?_) (fun _ => ?_) <;> first | (exfalso; omega) | (conv => whnf))
    any_goals first | exact ⟨[], _, rfl, .same rfl, rfl, .f (hno fun h => by unfold Au.Few at h; omega)⟩ | skip
    refine CallS.of (by kernel_rfl) (validAr l[j] hfj _) rfl ?_
    rintro _ _ ⟨rfl, hk | hk⟩
    all_goals conv => whnf
    all_goals
      repeat' first | ((with_reducible refine Gets.addI ?_ ?_ ?_); (· omega); (· omega); conv => whnf) | (refine Gets.of _ rfl ?_; conv => whnf) | (refine Fork.dec (fun _ => ?_) (fun _ => ?_) <;> first | (exfalso; omega) | (conv => whnf))
    all_goals first
      | exact ⟨[], _, rfl, .same rfl, rfl, .f (hno fun h => by have := h.2.2 hk; omega)⟩
      | exact ⟨j + 1, renL [] 1, ⟨hj, hnext ⟨by omega, by omega, fun h => by first | exact absurd h hk | omega⟩⟩, by show l.length - (j + 1) < _; omega, ⟨rfl, rfl, rfl, rfl, rfl, rfl, trivial⟩, EmbL.litsN [] rfl rfl rfl rfl .nil .nil⟩
  · conv => whnf
    repeat' (refine Fork.dec (fun _ => ?_) (fun _ => ?_) <;> first | (exfalso; omega) | (conv => whnf))
    exact ⟨[], _, rfl, .same rfl, rfl, .t fun w hw => by
      obtain ⟨k, hk, rfl⟩ := List.getElem_of_mem hw
      exact g2 k hk (by omega)⟩
end Go.Proofs.Ytaccmanpanpbiaa

/- Free. -/
-- VkG VkH VmA
set_option linter.unusedVariables false
set_option linter.unusedSimpArgs false
set_option maxRecDepth 100000
set_option maxHeartbeats 4000000
namespace Go.Proofs.Ytaccmanpanpbiaa
open Go Go.Vh Go.Vk Go.Proofs
/-- A number without a bit. -/
def clr (i : Int) (x : Int) : Int := bitsA .andNot .i64 x ((2 ^ i.toNat : Nat) : Int)
def freeE (i : Int) (e : Edg) : Edg := ⟨e.fr, e.to, clr i e.care, clr i e.bits, e.marks⟩
def ins (acc : List Edg) (e : Edg) : List Edg := if e ∈ acc then acc else acc ++ [e]
/-- Each edge once, without the proposition. -/
def freeL (i : Int) (l : List Edg) : List Edg := l.foldl (fun acc e => ins acc (freeE i e)) []
theorem free_next {i : Int} {l : List Edg} {j : Nat} (h : j < l.length) : freeL i (l.take (j + 1)) = ins (freeL i (l.take j)) (freeE i (l.getD j default)) := by
  unfold freeL
  rw [List.take_succ_eq_append_getElem h, List.foldl_append, List.getD_eq_getElem?_getD, List.getElem?_eq_getElem h]
  rfl
theorem ins_pos (acc : List Edg) (e : Edg) : 0 < (ins acc e).length := by
  unfold ins
  split
  · rename_i h; exact List.length_pos_of_mem h
  · simp
theorem ins_len (acc : List Edg) (e : Edg) : (ins acc e).length ≤ acc.length + 1 := by
  unfold ins
  split
  · omega
  · simp
theorem free_len (i : Int) (l : List Edg) (j : Nat) : (freeL i (l.take j)).length ≤ j := by
  induction j with
  | zero => exact Nat.le_refl 0
  | succ j ih =>
    rcases Nat.lt_or_ge j l.length with h | h
    · rw [free_next h]
      have := ins_len (freeL i (l.take j)) (freeE i (l.getD j default))
      omega
    · rw [List.take_of_length_le (by omega)]
      rw [List.take_of_length_le h] at ih
      omega
def freeA0 (a : Au) (i : Int) : Au := { a with es := freeL i a.es }
open Classical in
noncomputable def freeA (a : Au) (i : Int) : Au × Int := if a.Ok then if i < 0 ∨ a.props ≤ i then (errA, 6) else (freeA0 a i, 0) else (errA, 1)
/-- Edges that grow from nothing. -/
def aE (k : Nat) : List Edg → AVal
  | [] => .nilSlice
  | e :: l => .slice k 0 (e :: l).length
def aEB : List Edg → ABlk
  | [] => .ro 1 []
  | e :: l => .cells 5 (ints (flat (e :: l)))
/-- The memory of the loop. -/
noncomputable def hF (a : Au) (acc : List Edg) : AHeap := ((((emptyH.alloc (.cells 1 [.int .i64 a.props, .int .i64 a.states, rI a.start, .int .i64 a.kind, .int .i64 a.marks, rE a.es])).alloc (.cells 1 [.int .i64 0, .int .i64 0, .nilSlice, .int .i64 0, .int .i64 0, .nilSlice])).alloc (.cells 1 [.int .i64 a.props, .int .i64 a.states, rI a.start, .int .i64 a.kind, .int .i64 a.marks, aE 4 acc])).alloc (.map (mapOf kvE (setOf acc)))).alloc (aEB acc)
theorem mixed : Try.prog.follows .mixedOrders = true := by kernel_rfl
theorem outY {κ : Nat → Nat} {a : Au} {i j n m : Nat} (hk : κ i = j) (h : m = n) : BSub κ (.cells 1 [.int .i64 a.props, .int .i64 a.states, rI a.start, .int .i64 a.kind, .int .i64 a.marks, .slice i 0 m]) (.cells 1 [.int .i64 a.props, .int .i64 a.states, rI a.start, .int .i64 a.kind, .int .i64 a.marks, .slice j 0 n]) := .inl (by subst h; subst hk; rfl)
theorem freeR (a : Au) (hf : a.Fits) (i : Int) (H : AHeap) : CallW Try.prog 24 [a.rv, .int .i64 i] H fun v H' => H' = H ∧ v = .tuple [(freeA a i).1.rv, .int .i64 (freeA a i).2] := by
  refine CallW.pure ?_ rfl H
  refine CallW.symK (cuts := []) Try.func24 rfl (by kernel_rfl) ?_
  conv => whnf
  repeat' (refine Gets.of _ rfl ?_; conv => whnf)
  refine CallS.of (by kernel_rfl) (validA a hf _) rfl ?_
  rintro _ _ ⟨rfl, hk | hk⟩
  rotate_left
  · rw [freeA, if_neg hk]
    conv => whnf
    repeat' ((refine Gets.stA rfl rfl rfl rfl (by rfl) ?_); conv => whnf)
    exact errE 1
  have hne := hk.ne
  have hns := start_len hk
  have hp6 := hk.p6
  rw [freeA, if_pos hk]
  conv => whnf
  repeat' first | ((refine Gets.stA rfl rfl rfl rfl (by rfl) ?_); conv => whnf) | (refine Gets.of _ rfl ?_; conv => whnf) | (refine Fork.dec (fun _ => ?_) (fun _ => ?_) <;> first | (exfalso; omega) | (conv => whnf))
  · rw [if_pos (show i < 0 ∨ a.props ≤ i by omega)]
    exact errE 6
  · rw [if_pos (show i < 0 ∨ a.props ≤ i by omega)]
    exact errE 6
  rw [if_neg (show ¬ (i < 0 ∨ a.props ≤ i) by omega)]
  refine CallS.of (by kernel_rfl) (copyA a (by omega) (by omega) _) rfl ?_
  rintro _ _ ⟨rfl, rfl⟩
  conv => whnf
  repeat' first | ((refine Gets.stA rfl rfl rfl rfl (by rfl) ?_); conv => whnf) | (refine Gets.of _ rfl ?_; conv => whnf)
  refine CodeS.loopGK (cuts := []) (σ := Nat × List Edg) (fun s => [(1, .int .i64 i), (4, .ptr 1 0), (6, .ptr 2 0), (7, .map 3), (28, rE a.es), (29, .int .i64 (a.es.length : Int)), (30, .int .i64 (s.1 : Int))]) (fun s => hF a s.2) (fun s => s.1 ≤ a.es.length ∧ freeL i (a.es.take s.1) = s.2) (fun s => a.es.length - s.1) (0, []) (renL [0, 1, 2, 3, 0] 4) (by kernel_rfl) ⟨Nat.zero_le _, rfl⟩ ⟨rfl, rfl, rfl, rfl, rfl, rfl, rfl, trivial⟩ (EmbL.lits [0, 1, 2, 3, 0] rfl rfl rfl rfl .nil (.cons ⟨rfl, .inl rfl⟩ (.cons ⟨rfl, .inl rfl⟩ (.cons ⟨rfl, .inl rfl⟩ (.cons ⟨rfl, .inl rfl⟩ (.cons ⟨rfl, .roEc⟩ .nil)))))) ?_
  rintro ⟨j, acc⟩ ⟨hj, hacc⟩
  dsimp only at hj hacc ⊢
  have hfl := free_len i a.es j
  rcases Nat.lt_or_ge j a.es.length with hjl | hjl
  · have hnx := free_next (i := i) hjl
    rw [hacc] at hnx hfl
    rcases acc with _ | ⟨x, acc⟩
    · conv => whnf
      repeat' first | ((refine Gets.ixRE (es := 5) rfl (by kernel_rfl) (by omega) ?_); conv => whnf) | ((refine Gets.ldRE rfl rfl rfl rfl hjl ?_); conv => whnf) | (refine Gets.of _ rfl ?_; conv => whnf) | (refine Fork.dec (fun _ => ?_) (fun _ => ?_) <;> first | (exfalso; omega) | (conv => whnf))
      refine CodeS.drawT [5] (.take 0 (.take 1 (.take 2 (.take 3 (.take 4 (.take 5 (.one 6 false .done))))))) mixed (by kernel_rfl) (.cons ⟨rfl, trivial⟩ .nil) ?_
      conv => whnf
      repeat' first | ((refine Gets.shlP (by omega) (by omega) ?_); conv => whnf) | (refine Gets.of _ rfl ?_; conv => whnf)
      refine CodeS.drawT [5] (.take 0 (.take 1 (.take 2 (.take 3 (.take 4 (.take 5 (.one 6 false .done))))))) mixed (by kernel_rfl) (.cons ⟨rfl, trivial⟩ .nil) ?_
      conv => whnf
      repeat' first | ((refine Gets.shlP (by omega) (by omega) ?_); conv => whnf) | ((with_reducible refine Gets.addI ?_ ?_ ?_); (· omega); (· omega); conv => whnf) | (refine Gets.of _ rfl ?_; conv => whnf)
      exact ⟨(j + 1, [freeE i (a.es.getD j default)]), renL [0, 1, 2, 3, 7] 8, ⟨hjl, by rw [hnx]; rfl⟩, by show a.es.length - (j + 1) < _; omega, ⟨rfl, rfl, rfl, rfl, rfl, rfl, rfl, trivial⟩, EmbL.litsN [0, 1, 2, 3, 7] rfl rfl rfl rfl .nil (.cons ⟨rfl, .inl rfl⟩ (.cons ⟨rfl, .inl rfl⟩ (.cons ⟨rfl, .inl rfl⟩ (.cons ⟨rfl, .inl rfl⟩ (.cons ⟨rfl, .inl rfl⟩ .nil)))))⟩
    · by_cases hin : freeE i (a.es.getD j default) ∈ x :: acc
      · have e1 : ins (x :: acc) (freeE i (a.es.getD j default)) = x :: acc := if_pos hin
        conv => whnf
        repeat' first | ((refine Gets.ixRE (es := 5) rfl (by kernel_rfl) (by omega) ?_); conv => whnf) | ((refine Gets.ldRE rfl rfl rfl rfl hjl ?_); conv => whnf) | (refine Gets.of _ rfl ?_; conv => whnf) | (refine Fork.dec (fun _ => ?_) (fun _ => ?_) <;> first | (exfalso; omega) | (conv => whnf))
        refine CodeS.drawT [5] (.take 0 (.take 1 (.take 2 (.take 3 (.take 4 (.take 5 (.one 6 false .done))))))) mixed (by kernel_rfl) (.cons ⟨rfl, trivial⟩ .nil) ?_
        conv => whnf
        repeat' first | ((refine Gets.shlP (by omega) (by omega) ?_); conv => whnf) | (refine Gets.of _ rfl ?_; conv => whnf)
        refine CodeS.drawT [5] (.take 0 (.take 1 (.take 2 (.take 3 (.take 4 (.take 5 (.one 6 false .done))))))) mixed (by kernel_rfl) (.cons ⟨rfl, trivial⟩ .nil) ?_
        conv => whnf
        repeat' first | ((refine Gets.shlP (by omega) (by omega) ?_); conv => whnf) | ((refine Gets.setYes keyE (l := x :: acc) (a := freeE i (a.es.getD j default)) rfl rfl hin ?_); conv => whnf) | ((with_reducible refine Gets.addI ?_ ?_ ?_); (· omega); (· omega); conv => whnf) | (refine Gets.of _ rfl ?_; conv => whnf)
        exact ⟨(j + 1, x :: acc), renL [0, 1, 2, 3, 4] 6, ⟨hjl, by rw [hnx, e1]⟩, by show a.es.length - (j + 1) < _; omega, ⟨rfl, rfl, rfl, rfl, rfl, rfl, rfl, trivial⟩, EmbL.litsN [0, 1, 2, 3, 4] rfl rfl rfl rfl .nil (.cons ⟨rfl, .inl rfl⟩ (.cons ⟨rfl, .inl rfl⟩ (.cons ⟨rfl, .inl rfl⟩ (.cons ⟨rfl, .mapS keyE rfl⟩ (.cons ⟨rfl, .cellsI⟩ .nil)))))⟩
      · have e1 : ins (x :: acc) (freeE i (a.es.getD j default)) = x :: acc ++ [freeE i (a.es.getD j default)] := if_neg hin
        have e2 : (x :: (acc ++ [freeE i (a.es.getD j default)])).length = (x :: acc).length + 1 := by simp
        conv => whnf
        repeat' first | ((refine Gets.ixRE (es := 5) rfl (by kernel_rfl) (by omega) ?_); conv => whnf) | ((refine Gets.ldRE rfl rfl rfl rfl hjl ?_); conv => whnf) | (refine Gets.of _ rfl ?_; conv => whnf) | (refine Fork.dec (fun _ => ?_) (fun _ => ?_) <;> first | (exfalso; omega) | (conv => whnf))
        refine CodeS.drawT [5] (.take 0 (.take 1 (.take 2 (.take 3 (.take 4 (.take 5 (.one 6 false .done))))))) mixed (by kernel_rfl) (.cons ⟨rfl, trivial⟩ .nil) ?_
        conv => whnf
        repeat' first | ((refine Gets.shlP (by omega) (by omega) ?_); conv => whnf) | (refine Gets.of _ rfl ?_; conv => whnf)
        refine CodeS.drawT [5] (.take 0 (.take 1 (.take 2 (.take 3 (.take 4 (.take 5 (.one 6 false .done))))))) mixed (by kernel_rfl) (.cons ⟨rfl, trivial⟩ .nil) ?_
        conv => whnf
        repeat' first | ((refine Gets.shlP (by omega) (by omega) ?_); conv => whnf) | ((refine Gets.setNo keyE (l := x :: acc) (a := freeE i (a.es.getD j default)) rfl rfl hin ?_); conv => whnf) | ((refine Gets.setPut keyE (l := x :: acc) (a := freeE i (a.es.getD j default)) rfl rfl hin ?_); conv => whnf) | ((refine Gets.appE1 (l := x :: acc) (x := freeE i (a.es.getD j default)) rfl rfl rfl rfl rfl (by decide) rfl rfl rfl (by omega) ?_); conv => whnf) | ((with_reducible refine Gets.addI ?_ ?_ ?_); (· omega); (· omega); conv => whnf) | (refine Gets.of _ rfl ?_; conv => whnf)
        exact ⟨(j + 1, x :: acc ++ [freeE i (a.es.getD j default)]), renL [0, 1, 2, 3, 7] 8, ⟨hjl, by rw [hnx, e1]⟩, by show a.es.length - (j + 1) < _; omega, ⟨rfl, rfl, rfl, rfl, rfl, rfl, rfl, trivial⟩, EmbL.litsN [0, 1, 2, 3, 7] rfl rfl rfl rfl .nil (.cons ⟨rfl, .inl rfl⟩ (.cons ⟨rfl, .inl rfl⟩ (.cons ⟨rfl, outY rfl e2⟩ (.cons ⟨rfl, .mapS keyE rfl⟩ (.cons ⟨rfl, .cellsI⟩ .nil)))))⟩
  · obtain rfl : j = a.es.length := by omega
    rw [List.take_length] at hacc
    have eA : freeA0 a i = { a with es := acc } := by unfold freeA0; rw [hacc]
    rw [eA]
    rcases acc with _ | ⟨x, acc⟩
    · conv => whnf
      repeat' first | ((refine Gets.stA rfl rfl rfl rfl (by rfl) ?_); conv => whnf) | (refine Gets.of _ rfl ?_; conv => whnf) | (refine Fork.dec (fun _ => ?_) (fun _ => ?_) <;> first | (exfalso; omega) | (conv => whnf))
      exact ⟨[], _, rfl, .tuple (.cons (.agg (.cons (.same rfl) (.cons (.same rfl) (.cons (.same rfl) (.cons (.same rfl) (.cons (.same rfl) (.cons .nil (.same rfl)))))))) (.same rfl)), rfl, rfl⟩
    · conv => whnf
      repeat' first | ((refine Gets.stA rfl rfl rfl rfl (by rfl) ?_); conv => whnf) | (refine Gets.of _ rfl ?_; conv => whnf) | (refine Fork.dec (fun _ => ?_) (fun _ => ?_) <;> first | (exfalso; omega) | (conv => whnf))
      exact ⟨[4], _, rfl, .tuple (.cons (.agg (.cons (.same rfl) (.cons (.same rfl) (.cons (.same rfl) (.cons (.same rfl) (.cons (.same rfl) (.cons (frzE (l := x :: acc) rfl rfl rfl) (.same rfl)))))))) (.same rfl)), rfl, rfl⟩
end Go.Proofs.Ytaccmanpanpbiaa
