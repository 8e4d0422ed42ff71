/- The law AutFull: at every input the call returns true and leaves its arguments as they were; no condition. -/
import Derived.Test.YtdahmcgncpoliaaRows
import Derived.Test.YtdahmcgncpoliaaVhU
import Derived.Test.YtdahmcgncpoliaaFul
import Derived.WalkKit
import Derived.ProofKit
import Derived.OpenShut
import Derived.ShutString
import Derived.ChangeOld
import Derived.Below
import Derived.SizedLaws
import Derived.Carry
namespace Go.Proofs.Ytdahmcgncpoliaa.autFull
open Go.ChangeShapes Go.WideShapes Go.ChangeAt Go.RowKit Go.Vh
set_option linter.unusedVariables false
theorem own : ownKnob Try.prog.godebug = none := by kernel_rfl
theorem laidOut : laidOutB Try.prog = true := by kernel_rfl
set_option maxRecDepth 100000 in
theorem lifted (os : Os) (started : os.Started) (H : Type) (enc : TypeId × Value → H) :
    ReturnsInHanded {} Try.checked os 7 .any (Rows.autFullSpec.pre6 enc Try.prog Try.f7 Rows.autFullRow.domain false) (Rows.autFullSpec.post enc Try.prog Try.f7 false true false false) := by
  refine returnsInHanded_of_change_sized (C := Try.checked) own started (by kernel_rfl) Try.func7
    (ChangeSpec.witness6 (enc := enc) (C := Try.checked) false ⟨#[], #[.int .i64 0, .int .i64 0, .int .i64 0, .int .i64 0, .int .i64 0], []⟩ 8 (by kernel_rfl) (by kernel_rfl) (by kernel_rfl) (by kernel_rfl)) ?_
  intro W base args ds gs before hval0 hW hcnd hsz0 _
  have hval : ∀ (j : Nat) t v, Try.f7.params[j]? = some t → args[j]? = some v → Value.okWide Try.prog W .any base t v := hval0
  have hW' := hW
  obtain ⟨p, q, hA0, hV, rfl, hfz, hnd⟩ := hW
  have hA : DataW.TrodAll enc Try.prog W 0 (fun _ => true) true Try.f7.params.toList args.toList ds p := hA0
  rw [Try.params7] at hA hval
  obtain ⟨v0, vs0, d0, ds0, p0, q0, hargs, rfl, rfl, h0, r0⟩ := trodAll_cons hA
  obtain ⟨v1, vs1, d1, ds1, p1, q1, rfl, rfl, rfl, h1, r1⟩ := trodAll_cons r0
  obtain ⟨v2, vs2, d2, ds2, p2, q2, rfl, rfl, rfl, h2, r2⟩ := trodAll_cons r1
  obtain ⟨v3, vs3, d3, ds3, p3, q3, rfl, rfl, rfl, h3, r3⟩ := trodAll_cons r2
  obtain ⟨v4, vs4, d4, ds4, p4, q4, rfl, rfl, rfl, h4, r4⟩ := trodAll_cons r3
  obtain ⟨rfl, rfl, rfl⟩ := trodAll_nil r4
  obtain rfl : args = #[v0, v1, v2, v3, v4] := by cases args; simp_all
  obtain ⟨rfl, rfl⟩ := trodVars_none hV
  have N0 : NoRw emptyH := fun i h => h
  have R0 := rel_empty W
  have k0 := h0
  have lt0 : ∀ x ∈ p0, x.block < W.heap.size := by obtain ⟨m, hm⟩ := k0; exact DataW.trod_lt m _ _ _ hm
  obtain ⟨fuel0, hf0⟩ := h0
  obtain ⟨φ1, H1, avs0, le1, R1, x1, N1, vr0, sh0⟩ := open_arg (n := 4) (t := 3) (by kernel_rfl) (hval 0 3 v0 rfl rfl) hf0 (fun m hm => of_decide_eq_true (List.all_eq_true.1 hsz0 m (DataW.weights_mem_each (j := 0) rfl rfl m hm))) R0 N0
  have k1 := h1
  have lt1 : ∀ x ∈ p1, x.block < W.heap.size := by obtain ⟨m, hm⟩ := k1; exact DataW.trod_lt m _ _ _ hm
  obtain ⟨fuel1, hf1⟩ := h1
  obtain ⟨φ2, H2, avs1, le2, R2, x2, N2, vr1, sh1⟩ := open_arg (n := 4) (t := 3) (by kernel_rfl) (hval 1 3 v1 rfl rfl) hf1 (fun m hm => of_decide_eq_true (List.all_eq_true.1 hsz0 m (DataW.weights_mem_each (j := 1) rfl rfl m hm))) R1 N1
  have k2 := h2
  have lt2 : ∀ x ∈ p2, x.block < W.heap.size := by obtain ⟨m, hm⟩ := k2; exact DataW.trod_lt m _ _ _ hm
  obtain ⟨fuel2, hf2⟩ := h2
  obtain ⟨φ3, H3, avs2, le3, R3, x3, N3, vr2, sh2⟩ := open_arg (n := 4) (t := 3) (by kernel_rfl) (hval 2 3 v2 rfl rfl) hf2 (fun m hm => of_decide_eq_true (List.all_eq_true.1 hsz0 m (DataW.weights_mem_each (j := 2) rfl rfl m hm))) R2 N2
  have k3 := h3
  have lt3 : ∀ x ∈ p3, x.block < W.heap.size := by obtain ⟨m, hm⟩ := k3; exact DataW.trod_lt m _ _ _ hm
  obtain ⟨fuel3, hf3⟩ := h3
  obtain ⟨φ4, H4, avs3, le4, R4, x4, N4, vr3, sh3⟩ := open_arg (n := 4) (t := 3) (by kernel_rfl) (hval 3 3 v3 rfl rfl) hf3 (fun m hm => of_decide_eq_true (List.all_eq_true.1 hsz0 m (DataW.weights_mem_each (j := 3) rfl rfl m hm))) R3 N3
  have k4 := h4
  have lt4 : ∀ x ∈ p4, x.block < W.heap.size := by obtain ⟨m, hm⟩ := k4; exact DataW.trod_lt m _ _ _ hm
  obtain ⟨fuel4, hf4⟩ := h4
  obtain ⟨φ5, H5, avs4, le5, R5, x5, N5, vr4, sh4⟩ := open_arg (n := 4) (t := 3) (by kernel_rfl) (hval 4 3 v4 rfl rfl) hf4 (fun m hm => of_decide_eq_true (List.all_eq_true.1 hsz0 m (DataW.weights_mem_each (j := 4) rfl rfl m hm))) R4 N4
  clear hA0 hval0
  refine ((law7 H5 avs0 avs1 avs2 avs3 avs4 N5 (Shape.mono x5 _ _ _ (Shape.mono x4 _ _ _ (Shape.mono x3 _ _ _ (Shape.mono x2 _ _ _ sh0)))) (Shape.mono x5 _ _ _ (Shape.mono x4 _ _ _ (Shape.mono x3 _ _ _ sh1))) (Shape.mono x5 _ _ _ (Shape.mono x4 _ _ _ sh2)) (Shape.mono x5 _ _ _ sh3) sh4).walkR R5 N5 (cargs := #[v0, v1, v2, v3, v4]) (VRels_cons.2 ⟨(VRel_mono le5 _ _ (VRel_mono le4 _ _ (VRel_mono le3 _ _ (VRel_mono le2 _ _ vr0)))), VRels_cons.2 ⟨(VRel_mono le5 _ _ (VRel_mono le4 _ _ (VRel_mono le3 _ _ vr1))), VRels_cons.2 ⟨(VRel_mono le5 _ _ (VRel_mono le4 _ _ vr2)), VRels_cons.2 ⟨(VRel_mono le5 _ _ vr3), VRels_cons.2 ⟨vr4, VRels_nil.2 rfl⟩⟩⟩⟩⟩)).mono fun e W' ⟨he, bel⟩ => ?_
  subst he
  exact ⟨_, rfl, _, _, _, [], _, [], hW', trodAll_mk1 (shut_bool Try.underlying4 _), (trodAll_cons_mk (Below.trod laidOut (by kernel_rfl) (of_decide_eq_true (by kernel_rfl)) k0 bel lt0) (trodAll_cons_mk (Below.trod laidOut (by kernel_rfl) (of_decide_eq_true (by kernel_rfl)) k1 bel lt1) (trodAll_cons_mk (Below.trod laidOut (by kernel_rfl) (of_decide_eq_true (by kernel_rfl)) k2 bel lt2) (trodAll_cons_mk (Below.trod laidOut (by kernel_rfl) (of_decide_eq_true (by kernel_rfl)) k3 bel lt3) (trodAll_cons_mk (Below.trod laidOut (by kernel_rfl) (of_decide_eq_true (by kernel_rfl)) k4 bel lt4) trodAll_mk0))))), rfl, bel.frame _, fun h => by cases h⟩
theorem over : Rows.autFullRow.holds Try.pinned (OpenSpec.ofChange Rows.autFullSpec) :=
  OpenClaim.holds_of_wide 7 Try.f7 rfl rfl rfl rfl rfl rfl rfl ⟨rfl, rfl, rfl, rfl, rfl⟩ rfl rfl rfl rfl rfl (by kernel_rfl) Try.func7 (by kernel_rfl)
    (of_decide_eq_true (by kernel_rfl)) (by unfold Func.isWrapper; first | (rw [if_pos (by decide +kernel)]; kernel_rfl) | (rw [if_neg (by decide +kernel)]; exact ⟨rfl, rfl⟩))
    (fun os started H enc _ => lifted os started H enc)
theorem proved : Rows.AutFullSaid := over
#print axioms proved
end Go.Proofs.Ytdahmcgncpoliaa.autFull
namespace Go.Proofs.Ytdahmcgncpoliaa
/-- The row, under a short name, for the claim. -/
theorem autFull_holds : Rows.AutFullSaid := autFull.proved
end Go.Proofs.Ytdahmcgncpoliaa
