/- IsLean, Lean, and circuits that answer alike. -/
import Derived.Test.YtmghlldboiplpaaUow
import Derived.Test.YtmghlldboiplpaaRbw
import Derived.Test.YtmghlldboiplpaaSam
import Derived.Test.YtmghlldboiplpaaSlm
import Derived.Test.YtmghlldboiplpaaApa
import Derived.Test.YtmghlldboiplpaaVkH
-- VkG
set_option linter.unusedVariables false
set_option linter.unusedSimpArgs false
set_option maxRecDepth 100000
set_option maxHeartbeats 1000000
namespace Go.Proofs.Ytmghlldboiplpaa
open Go Go.Vh Go.Vk Go.Proofs
/-- What IsLean answers. -/
inductive LeanR (c : Cir) : AVal → Prop
  | arg : ¬ c.Ok → LeanR c (.tuple [.bool false, .int .i64 1])
  | yes : c.Ok → c.Slim → LeanR c (.tuple [.bool true, .int .i64 0])
  | no : c.Ok → ¬ c.Slim → LeanR c (.tuple [.bool false, .int .i64 0])
theorem islean10 (c : Cir) (hf : c.Fits) : CallW Try.prog 10 [c.av 0 1 2] c.heap fun v _ => LeanR c v := by
  refine CallW.symK (cuts := []) Try.func10 rfl (by kernel_rfl) ?_
  conv => whnf
  repeat' (refine Gets.of _ rfl ?_; conv => whnf)
  refine CallS.of (by kernel_rfl) (valid28c c hf _ rfl rfl rfl rfl) rfl ?_
  rintro _ _ ⟨rfl, hq | hq⟩
  all_goals conv => whnf
  all_goals
    repeat' (refine Gets.of _ rfl ?_; conv => whnf)
  · refine CallS.of (by kernel_rfl) ((lean29 c hf hq).readsL IsB.noRef [0, 1, 2] rfl (roC c _ rfl rfl rfl rfl)) rfl ?_
    rintro _ _ ⟨rfl, hp | hp⟩
    all_goals conv => whnf
    all_goals
      skip
    · exact .yes hq hp
    · exact .no hq hp
  · exact .arg hq
theorem rislean11 (c : Cir) (hf : c.Fits) : CallW Try.prog 11 [c.av 0 1 2] c.heap fun v _ => LeanR c v := by
  refine CallW.symK (cuts := []) Try.func11 rfl (by kernel_rfl) ?_
  conv => whnf
  repeat' (refine Gets.of _ rfl ?_; conv => whnf)
  refine CallS.of (by kernel_rfl) (valid13c c hf _ rfl rfl rfl rfl) rfl ?_
  rintro _ _ ⟨rfl, hq | hq⟩
  all_goals conv => whnf
  all_goals
    repeat' (refine Gets.of _ rfl ?_; conv => whnf)
  · refine CallS.of (by kernel_rfl) ((lean15 c hf hq).readsL IsB.noRef [0, 1, 2] rfl (roC c _ rfl rfl rfl rfl)) rfl ?_
    rintro _ _ ⟨rfl, hp | hp⟩
    all_goals conv => whnf
    all_goals
      skip
    · exact .yes hq hp
    · exact .no hq hp
  · exact .arg hq
theorem LeanR.noRef {c : Cir} : ∀ v, LeanR c v → Vh.noRef v = true := by
  rintro _ (_ | _ | _) <;> rfl
theorem rebuilt31a (c : Cir) (hf : c.Fits) (ho : c.Ok) (of0 keep : List Nat) (h0 : OfOk c of0 (c.inp.toNat + keep.length + 1)) (hk : keep.length ≤ c.latch.length) (hk2 : ∀ k ∈ keep, k < c.latch.length) {H : AHeap} (hH : c.In H 0 1 2) {x y s n : Nat} {κ1 κ2 : Nat → Nat} (hn : of0.length = n) (hx : Nat.blt x H.n = true) (h1 : H.f x = renB κ1 (.cells 1 (nats of0))) (hy : Nat.blt y H.n = true) (h2 : H.f y = renB κ2 (oNB keep)) (hs : Spare H 1 s) :
    CallW Try.prog 31 [c.av 0 1 2, .slice x 0 n, oN y keep] H fun v H' => v = (c.reb of0 keep).drop.avO H.n (H.n + 1) (H.n + 2) ∧ H' = ((H.alloc (oIB (c.reb of0 keep).drop.latch)).alloc (oPB (c.reb of0 keep).drop.gates)).alloc (oIB (c.reb of0 keep).drop.out) := by
  subst hn
  obtain ⟨i, a1, a2⟩ := oN_at hy h2 hs
  have a3 : At H 1 (nats of0) x := At.renC (l := of0.map fun n : Nat => (n : Int)) hx h1
  have hr := rebuilt31 c hf ho of0 keep h0 hk hk2
  generalize (c.reb of0 keep).drop = V at *
  refine CallW.argsT ((CallW.allocsAt (K := fun v bs => v = V.avO 5 6 7 ∧ bs = [oIB V.latch, oPB V.gates, oIB V.out]) (hr.mono ?_) [0, 1, 2, x, i] rfl (.cons ⟨_, _, rfl, hH.l⟩ (.cons ⟨_, _, rfl, hH.g⟩ (.cons ⟨_, _, rfl, hH.o⟩ (.cons ⟨_, _, rfl, a3⟩ (.cons ⟨_, _, rfl, a1⟩ .nil)))))).mono ?_) (.cons (Tells.refl _ _) (.cons Tells.sliceView (.cons a2 .nil)))
  · rintro v G ⟨rfl, rfl⟩
    refine ⟨[oIB V.latch, oPB V.gates, oIB V.out], rfl, fun b hb => ?_, rfl, rfl⟩
    simp only [List.mem_cons, List.not_mem_nil, or_false] at hb
    rcases hb with rfl | rfl | rfl
    · exact fresh_O
    · exact fresh_OP
    · exact fresh_O
  · rintro v G ⟨_, _, ⟨rfl, rfl⟩, rfl, rfl⟩
    constructor
    · show AVal.agg [_, ren _ (oI 5 V.latch), ren _ (oP 6 V.gates), ren _ (oI 7 V.out)] = AVal.agg _
      rw [ren_oI, ren_oP, ren_oI]
      rfl
    · show AHeap.allocs H [renB _ (oIB V.latch), renB _ (oPB V.gates), renB _ (oIB V.out)] = _
      rw [renB_oIB, renB_oPB, renB_oIB]
      rfl
theorem in012 {c : Cir} {H : AHeap} (hn : Nat.ble 3 H.n = true) (h0 : H.f 0 = .ro 1 (ints c.latch)) (h1 : H.f 1 = .ro 2 (ints (pflat c.gates))) (h2 : H.f 2 = .ro 1 (ints c.out)) : c.In H 0 1 2 := by
  have hn := Nat.le_of_ble_eq_true hn
  exact ⟨.ro (by omega) h0, .ro (by omega) h1, .ro (by omega) h2⟩
theorem sameOf_eq (c : Cir) : evens c.nv = sameOf c := rfl
theorem leanX12 (c : Cir) (hf : c.Fits) (ho : c.Ok) : CallW Try.prog 12 [c.av 0 1 2] c.heap fun v H' => v = .tuple [c.slim.avO 3 4 5, .int .i64 0] ∧ H' = ((c.heap.alloc (oIB c.slim.latch)).alloc (oPB c.slim.gates)).alloc (oIB c.slim.out) := by
  refine CallW.symRK (cuts := []) Try.func12 rfl (by kernel_rfl) ?_
  conv => whnf
  repeat' (refine Gets.of _ rfl ?_; conv => whnf)
  refine CallS.of (by kernel_rfl) (valid28c c hf _ rfl rfl rfl rfl) rfl ?_
  rintro _ _ ⟨rfl, hq | hq⟩
  all_goals conv => whnf
  rotate_left
  · exact absurd ho hq
  repeat' (refine Gets.of _ rfl ?_; conv => whnf)
  refine CallS.of (by kernel_rfl) ((same30 c ho).frameQ [0, 1, 2] rfl (.cons ⟨rfl, .roI⟩ (.cons ⟨rfl, .roI⟩ (.cons ⟨rfl, .roI⟩ .nil))) (by rintro _ _ ⟨rfl, rfl⟩; repeat first | exact .nil | refine .cons (by first | exact .inr rfl | exact .inl rfl | exact .inr (fresh_oN _) | exact .inr (fresh_oP _) | exact .inr (fresh_oI _)) ?_)) rfl ?_
  rintro v _ ⟨_, _, ⟨rfl, rfl⟩, hv, rfl⟩
  replace hv : v = .tuple [.slice 5 0 c.nv, oN 6 (List.range c.latch.length)] := hv.trans (by show AVal.tuple [_, ren _ (oN 4 _)] = _; rw [ren_oN]; rfl)
  subst hv
  conv => whnf
  repeat' first | (refine Gets.of _ rfl ?_; conv => whnf) | (refine seqV_of ?_; conv => whnf) | (refine seq1_of ?_; conv => whnf)
  refine CallS.of (by kernel_rfl) (rebuilt31a c hf ho (sameOf c) (sameKeep c) (same_of c) (by rw [sameKeep_len]; exact Nat.le_refl _) (same_keep c) (in012 rfl rfl rfl rfl) (x := 5) (y := 6) (s := 0) (same_of c).n rfl rfl rfl rfl ⟨rfl, _, .inl rfl⟩) rfl ?_
  rintro _ _ ⟨rfl, rfl⟩
  have hsl : (c.reb (sameOf c) (sameKeep c)).drop = c.slim := rfl
  rw [hsl]
  generalize c.slim = V
  unfold Cir.avO
  conv => whnf
  repeat' first | (refine Gets.stA rfl rfl rfl rfl (by simp only [List.all_cons, List.all_nil, oI_sc, oP_sc, oN_sc, Bool.and_true, Bool.true_and] <;> rfl) ?_; conv => whnf) | (refine seq0_of ?_; conv => whnf)
  refine ⟨renL [0, 1, 2, 7, 8, 9] 10, .tuple [V.avO 3 4 5, .int .i64 0], ((c.heap.alloc (oIB V.latch)).alloc (oPB V.gates)).alloc (oIB V.out), EmbL.litsN [0, 1, 2, 7, 8, 9] rfl rfl rfl rfl (.cons ⟨rfl, .inl ⟨rfl, fun h => h⟩⟩ (.cons ⟨rfl, .inl ⟨rfl, fun h => h⟩⟩ (.cons ⟨rfl, .inl ⟨rfl, fun h => h⟩⟩ .nil))) (.cons ⟨rfl, .roI⟩ (.cons ⟨rfl, .roI⟩ (.cons ⟨rfl, .roI⟩ (.cons ⟨rfl, .oI⟩ (.cons ⟨rfl, .oP⟩ (.cons ⟨rfl, .oI⟩ .nil)))))), ?_, rfl, rfl⟩
  show _ = AVal.tuple [.agg [_, ren _ (oI 3 _), ren _ (oP 4 _), ren _ (oI 5 _)], _]
  rw [ren_oI, ren_oP, ren_oI]
  rfl
theorem leanN12 (c : Cir) (hf : c.Fits) (ho : ¬ c.Ok) : CallW Try.prog 12 [c.av 0 1 2] c.heap fun v H' => v = .tuple [.agg [.int .i64 0, .nilSlice, .nilSlice, .nilSlice], .int .i64 1] ∧ H' = c.heap := by
  refine CallW.symRK (cuts := []) Try.func12 rfl (by kernel_rfl) ?_
  conv => whnf
  repeat' (refine Gets.of _ rfl ?_; conv => whnf)
  refine CallS.of (by kernel_rfl) (valid28c c hf _ rfl rfl rfl rfl) rfl ?_
  rintro _ _ ⟨rfl, hq | hq⟩
  all_goals conv => whnf
  · exact absurd hq ho
  repeat' (refine Gets.of _ rfl ?_; conv => whnf)
  exact ⟨renL [0, 1, 2] 5, .tuple [.agg [.int .i64 0, .nilSlice, .nilSlice, .nilSlice], .int .i64 1], c.heap, EmbL.litsN [0, 1, 2] rfl rfl rfl rfl (.cons ⟨rfl, .inl ⟨rfl, fun h => h⟩⟩ (.cons ⟨rfl, .inl ⟨rfl, fun h => h⟩⟩ (.cons ⟨rfl, .inl ⟨rfl, fun h => h⟩⟩ .nil))) (.cons ⟨rfl, .roI⟩ (.cons ⟨rfl, .roI⟩ (.cons ⟨rfl, .roI⟩ .nil))), rfl, rfl, rfl⟩
/-- Circuits that answer alike. -/
theorem equivalent14 (c d : Cir) (hf : d.Fits) (hc : c.Ok) (hd : d.Ok) (h1 : c.inp = d.inp) (h2 : c.out.length = d.out.length) (hcL : c.latch.length ≤ 12) (hdL : d.latch.length ≤ 12) (hA : (two c d).IsApart none) : CallW Try.prog 14 [c.av 0 1 2, d.av 3 4 5] (c2 c d) fun v _ => v = .bool true := by
  refine CallW.symK (cuts := []) Try.func14 rfl (by kernel_rfl) ?_
  conv => whnf
  repeat' (refine Gets.of _ rfl ?_; conv => whnf)
  refine CallS.of (by kernel_rfl) ((valid13 d hf).readsL IsB.noRef [3, 4, 5] rfl (.cons ⟨rfl, rfl, .roI⟩ (.cons ⟨rfl, rfl, .roI⟩ (.cons ⟨rfl, rfl, .roI⟩ .nil)))) rfl ?_
  rintro _ _ ⟨rfl, hq | hq⟩
  all_goals conv => whnf
  rotate_left
  · exact absurd hd hq
  repeat' first | (refine Gets.of _ rfl ?_; conv => whnf) | (refine Fork.neI (fun _ => ?_) (fun _ => ?_) <;> first | (exfalso; omega) | (conv => whnf))
  refine CallS.of (by kernel_rfl) ((apart35 c d hc hd hcL hdL).frameQ [0, 1, 2, 3, 4, 5] rfl (.cons ⟨rfl, .roI⟩ (.cons ⟨rfl, .roI⟩ (.cons ⟨rfl, .roI⟩ (.cons ⟨rfl, .roI⟩ (.cons ⟨rfl, .roI⟩ (.cons ⟨rfl, .roI⟩ .nil)))))) ?_) rfl ?_
  · rintro _ _ ⟨r, hr, rfl, rfl⟩
    repeat first | exact .nil | refine .cons (by first | exact .inr rfl | exact .inl rfl | exact .inr (fresh_oI _)) ?_
  rintro _ _ ⟨_, _, ⟨r, hr, rfl, rfl⟩, rfl, rfl⟩
  obtain rfl := Two.IsApart.unique hr hA
  conv => whnf
  skip
  rfl
/-- Where the rows of a circuit lie that a program has made. -/
structure Cir.Has (d : Cir) (H : AHeap) (x y z : Nat) : Prop where
  h1 : Nat.blt x H.n = true
  h2 : H.f x = oIB d.latch
  h3 : Nat.blt y H.n = true
  h4 : H.f y = oPB d.gates
  h5 : Nat.blt z H.n = true
  h6 : H.f z = oIB d.out
  s : Spare H 1 0
  t : Spare H 2 1
theorem Cir.Has.at {d : Cir} {H : AHeap} {x y z : Nat} (h : d.Has H x y z) : ∃ i j k, d.In H i j k ∧ Tells H (d.avO x y z) (d.av i j k) := Cir.in_at h.h1 h.h2 h.h3 h.h4 h.h5 h.h6 h.s h.t
theorem lean15a {d : Cir} (hd : d.Ok) {H : AHeap} {x y z : Nat} (h : d.Has H x y z) : CallW Try.prog 15 [d.avO x y z] H fun v H' => H' = H ∧ IsB v d.Slim := by
  obtain ⟨i, j, k, hin, ht⟩ := h.at
  exact (hin.reads (lean15 d (ok_fits hd) hd) IsB.noRef).argsT (.cons ht .nil)
theorem leanX12a {d : Cir} (hd : d.Ok) {H : AHeap} {x y z : Nat} (h : d.Has H x y z) : CallW Try.prog 12 [d.avO x y z] H fun v H' => v = .tuple [d.slim.avO H.n (H.n + 1) (H.n + 2), .int .i64 0] ∧ H' = ((H.alloc (oIB d.slim.latch)).alloc (oPB d.slim.gates)).alloc (oIB d.slim.out) := by
  obtain ⟨i, j, k, hin, ht⟩ := h.at
  exact (hin.makes (W := fun x => .tuple [x, .int .i64 0]) (fun _ _ => rfl) (leanX12 d (ok_fits hd) hd)).argsT (.cons ht .nil)
theorem equivalent14a {c d : Cir} (hc : c.Ok) (hd : d.Ok) (h1 : c.inp = d.inp) (h2 : c.out.length = d.out.length) (hcL : c.latch.length ≤ 12) (hdL : d.latch.length ≤ 12) (hA : (two c d).IsApart none) {H : AHeap} {x y z : Nat} (hin : c.In H 0 1 2) (h : d.Has H x y z) : CallW Try.prog 14 [c.av 0 1 2, d.avO x y z] H fun v H' => H' = H ∧ v = .bool true := by
  obtain ⟨i, j, k, hd', ht⟩ := h.at
  exact ((equivalent14 c d (ok_fits hd) hc hd h1 h2 hcL hdL hA).readsAt (by rintro _ rfl; rfl) [0, 1, 2, i, j, k] rfl (.cons ⟨_, _, rfl, hin.l⟩ (.cons ⟨_, _, rfl, hin.g⟩ (.cons ⟨_, _, rfl, hin.o⟩ (.cons ⟨_, _, rfl, hd'.l⟩ (.cons ⟨_, _, rfl, hd'.g⟩ (.cons ⟨_, _, rfl, hd'.o⟩ .nil))))))).argsT (.cons (Tells.refl _ _) (.cons ht .nil))
end Go.Proofs.Ytmghlldboiplpaa
