/- OptLean: the law. -/
import Derived.Test.YtmghlldboiplpaaLea
import Derived.Test.YtmghlldboiplpaaFew
import Derived.Test.YtmghlldboiplpaaShp
import Derived.Test.YtmghlldboiplpaaVkH
-- VkG
set_option linter.unusedVariables false
set_option linter.unusedSimpArgs false
set_option maxRecDepth 100000
set_option maxHeartbeats 1000000
namespace Go.Proofs.Ytmghlldboiplpaa
open Go Go.Vh Go.Vk Go.Proofs
theorem law3c (c : Cir) (hf : c.Fits) : CallW Try.prog 3 [c.av 0 1 2] c.heap fun v _ => v = .bool true := by
  refine CallW.symK (cuts := []) Try.func3 rfl (by kernel_rfl) ?_
  conv => whnf
  repeat' (refine Gets.of _ rfl ?_; conv => whnf)
  refine CallS.of (by kernel_rfl) (few8c c hf 6 60 _ rfl rfl rfl rfl rfl) rfl ?_
  rintro _ _ ⟨rfl, hw | hw⟩
  all_goals conv => whnf
  all_goals
    repeat' (refine Gets.of _ rfl ?_; conv => whnf)
  rotate_left
  · refine CallS.of (by kernel_rfl) (awake9 _) rfl ?_
    rintro _ _ ⟨rfl, rfl⟩
    conv => whnf
    skip
  refine CallS.of (by kernel_rfl) ((islean10 c hf).readsL LeanR.noRef [0, 1, 2] rfl (roC c _ rfl rfl rfl rfl)) rfl ?_
  rintro _ _ ⟨rfl, ho | ⟨ho, hs⟩ | ⟨ho, hs⟩⟩
  all_goals conv => whnf
  all_goals
    repeat' (refine Gets.of _ rfl ?_; conv => whnf)
    refine CallS.of (by kernel_rfl) ((rislean11 c hf).readsL LeanR.noRef [0, 1, 2] rfl (roC c _ rfl rfl rfl rfl)) rfl ?_
    rintro _ _ ⟨rfl, ho2 | ⟨ho2, hs2⟩ | ⟨ho2, hs2⟩⟩
    all_goals first | (exact absurd ho2 ho) | (exact absurd ho ho2) | (exact absurd hs hs2) | (exact absurd hs2 hs) | (conv => whnf)
  · repeat' (refine Gets.of _ rfl ?_; conv => whnf)
    refine CallS.of (by kernel_rfl) ((leanN12 c hf ho).frameQ [0, 1, 2] rfl (.cons ⟨rfl, .roI⟩ (.cons ⟨rfl, .roI⟩ (.cons ⟨rfl, .roI⟩ .nil))) (by rintro _ _ ⟨rfl, rfl⟩; repeat first | exact .nil | refine .cons (by first | exact .inr rfl | exact .inl rfl | exact .inr (fresh_oN _) | exact .inr (fresh_oP _) | exact .inr (fresh_oI _)) ?_)) rfl ?_
    rintro _ _ ⟨_, _, ⟨rfl, rfl⟩, rfl, rfl⟩
    conv => whnf
    repeat' first | (refine Gets.of _ rfl ?_; conv => whnf) | (refine Fork.noR rfl ?_; conv => whnf)
    refine CallS.of (by kernel_rfl) (valid13c c hf _ rfl rfl rfl rfl) rfl ?_
    rintro _ _ ⟨rfl, hq | hq⟩
    all_goals conv => whnf
    · exact absurd hq ho
    repeat' (refine Fork.yesR rfl ?_; conv => whnf)
    refine CallS.of (by kernel_rfl) (awake9 _) rfl ?_
    rintro _ _ ⟨rfl, rfl⟩
    conv => whnf
    skip
    rfl
  all_goals
    repeat' (refine Gets.of _ rfl ?_; conv => whnf)
    have hL := ho.s.2.2.1
    have hL6 : c.latch.length ≤ 8 := by have := hw.1; omega
    obtain ⟨vok, vslim⟩ := slim_ok ho
    have vl := slim_latch c
    have vo := slim_out c
    have vg := slim_gates ho
    have va := slim_apart ho
    have vv := slim_self vok vslim
    have vs := slim_self ho
    have vi : c.inp = c.slim.inp := rfl
    refine CallS.of (by kernel_rfl) ((leanX12 c hf ho).frameQ [0, 1, 2] rfl (.cons ⟨rfl, .roI⟩ (.cons ⟨rfl, .roI⟩ (.cons ⟨rfl, .roI⟩ .nil))) ?_) rfl ?_
    · rintro _ _ ⟨rfl, rfl⟩
      repeat first | exact .nil | refine .cons (by first | exact .inr rfl | exact .inl rfl | exact .inr (fresh_oI _) | exact .inr (fresh_oP _)) ?_
    rintro v _ ⟨_, _, ⟨rfl, rfl⟩, hv, rfl⟩
    replace hv : v = .tuple [c.slim.avO 5 6 7, .int .i64 0] := hv.trans (by show AVal.tuple [.agg [_, ren _ (oI 3 _), ren _ (oP 4 _), ren _ (oI 5 _)], _] = _; rw [ren_oI, ren_oP, ren_oI]; rfl)
    subst hv
    unfold Cir.avO
    conv => whnf
    repeat' first | (refine Gets.of _ rfl ?_; conv => whnf) | (refine Gets.stA rfl rfl rfl rfl (by simp only [List.all_cons, List.all_nil, oI_sc, oP_sc, oN_sc, Bool.and_true, Bool.true_and] <;> rfl) ?_; conv => whnf) | (refine seq0_of ?_; conv => whnf) | (refine Fork.noR rfl ?_; conv => whnf)
    refine CallS.of (by kernel_rfl) (valid13c c hf _ rfl rfl rfl rfl) rfl ?_
    rintro _ _ ⟨rfl, hq | hq⟩
    all_goals conv => whnf
    rotate_left
    · exact absurd ho hq
    generalize c.slim = V at *
    repeat' first | (refine Gets.of _ rfl ?_; conv => whnf) | (refine seq0_of ?_; conv => whnf) | (refine Fork.noR rfl ?_; conv => whnf)
    refine CallS.of (by kernel_rfl) (equivalent14a (d := V) (x := 5) (y := 6) (z := 7) ho vok vi vo.symm (by omega) (by omega) va (in012 rfl rfl rfl rfl) ⟨rfl, renB_oIB _ _, rfl, renB_oPB _ _, rfl, renB_oIB _ _, ⟨rfl, _, .inl rfl⟩, ⟨rfl, _, .inl rfl⟩⟩) rfl ?_
    rintro _ _ ⟨rfl, rfl⟩
    conv => whnf
    repeat' first | (refine Gets.of _ rfl ?_; conv => whnf) | (refine seq0_of ?_; conv => whnf)
    refine CallS.of (by kernel_rfl) (lean15a (d := V) (x := 5) (y := 6) (z := 7) vok ⟨rfl, renB_oIB _ _, rfl, renB_oPB _ _, rfl, renB_oIB _ _, ⟨rfl, _, .inl rfl⟩, ⟨rfl, _, .inl rfl⟩⟩) rfl ?_
    rintro _ _ ⟨rfl, hp | hp⟩
    all_goals conv => whnf
    rotate_left
    · exact absurd vslim hp
    repeat' first | ((refine Gets.lenOI rfl ?_); conv => whnf) | ((refine Gets.lenOP rfl ?_); conv => whnf) | (refine Gets.of _ rfl ?_; conv => whnf) | (refine seqV_of ?_; conv => whnf) | (refine seq0_of ?_; conv => whnf) | (refine Fork.dec (fun _ => ?_) (fun _ => ?_) <;> first | (exfalso; omega) | (conv => whnf)) | (refine Fork.neI (fun _ => ?_) (fun _ => ?_) <;> first | (exfalso; omega) | (conv => whnf))
    refine CallS.of (by kernel_rfl) (leanX12a (d := V) (x := 5) (y := 6) (z := 7) vok ⟨rfl, renB_oIB _ _, rfl, renB_oPB _ _, rfl, renB_oIB _ _, ⟨rfl, _, .inl rfl⟩, ⟨rfl, _, .inl rfl⟩⟩) rfl ?_
    rintro _ _ ⟨rfl, rfl⟩
    generalize V.slim = W at *
    unfold Cir.avO
    conv => whnf
    first
      | have vs := vs hs
      | have vs := vslim
    repeat' first | ((refine Gets.lenOP rfl ?_); conv => whnf) | (refine Gets.of _ rfl ?_; conv => whnf) | (refine Gets.stA rfl rfl rfl rfl (by simp only [List.all_cons, List.all_nil, oI_sc, oP_sc, oN_sc, Bool.and_true, Bool.true_and] <;> rfl) ?_; conv => whnf) | (refine seqV_of ?_; conv => whnf) | (refine seq0_of ?_; conv => whnf) | (refine Fork.yesR rfl ?_; conv => whnf) | (refine Fork.dec (fun _ => ?_) (fun _ => ?_) <;> first | (exfalso; omega) | (conv => whnf))
    refine CallS.of (by kernel_rfl) (awake9 _) rfl ?_
    rintro _ _ ⟨rfl, rfl⟩
    conv => whnf
    skip
    try rfl
theorem law3 : ∀ (H : AHeap) (avs0 : List AVal), NoRw H → Shape Try.prog H 4 25 avs0 → CallW Try.prog 3 [argOf Try.prog 25 avs0] H fun v _ => v = .bool true := by
  intro H avs0 hN h0
  obtain ⟨c, i, j, k, e, hf, h1, h2, h3⟩ := shape_cir h0
  rw [e]
  exact lift_cir (law3c c hf) (by rintro v rfl; rfl) (fun _ => rfl) h1 h2 h3
end Go.Proofs.Ytmghlldboiplpaa
