/- Circuits that a program has made, as arguments. -/
import Derived.Test.YtmghlldboiplpaaDpw
set_option linter.unusedVariables false
set_option linter.unusedSimpArgs false
set_option maxRecDepth 100000
set_option maxHeartbeats 1000000
namespace Go.Proofs.Ytmghlldboiplpaa
open Go Go.Vh Go.Vk Go.Proofs
/-- The rows of a circuit are told at those numbers. -/
structure Cir.In (d : Cir) (H : AHeap) (i j k : Nat) : Prop where
  l : At H 1 (ints d.latch) i
  g : At H 2 (ints (pflat d.gates)) j
  o : At H 1 (ints d.out) k
theorem Cir.in_at {d : Cir} {H : AHeap} {x y z s t : Nat} (h1 : Nat.blt x H.n = true) (h2 : H.f x = oIB d.latch) (h3 : Nat.blt y H.n = true) (h4 : H.f y = oPB d.gates) (h5 : Nat.blt z H.n = true) (h6 : H.f z = oIB d.out) (hs : Spare H 1 s) (ht : Spare H 2 t) : ∃ i j k, d.In H i j k ∧ Tells H (d.avO x y z) (d.av i j k) := by
  obtain ⟨i, a1, b1⟩ := oI_at h1 h2 hs
  obtain ⟨j, a2, b2⟩ := oP_at h3 h4 ht
  obtain ⟨k, a3, b3⟩ := oI_at h5 h6 hs
  exact ⟨i, j, k, ⟨a1, a2, a3⟩, Tells.agg (.cons (Tells.refl _ _) (.cons b1 (.cons b2 (.cons b3 .nil))))⟩
theorem Cir.In.all {d : Cir} {H : AHeap} {i j k : Nat} (h : d.In H i j k) : AllQ (fun m => ∃ es cs, d.heap.f m = .ro es cs ∧ At H es cs (fk [i, j, k] H.n m)) 0 d.heap.n :=
  .cons ⟨_, _, rfl, h.l⟩ (.cons ⟨_, _, rfl, h.g⟩ (.cons ⟨_, _, rfl, h.o⟩ .nil))
theorem Cir.In.reads {f : FuncId} {d : Cir} {H : AHeap} {i j k : Nat} {K : AVal → Prop} (hd : d.In H i j k) (h : CallW Try.prog f [d.av 0 1 2] d.heap fun v _ => K v) (hk : ∀ v, K v → noRef v = true) : CallW Try.prog f [d.av i j k] H fun v H' => H' = H ∧ K v :=
  h.readsAt hk [i, j, k] rfl hd.all
/-- A circuit out of a circuit. -/
theorem Cir.In.makes {f : FuncId} {d V : Cir} {H : AHeap} {i j k : Nat} {W : AVal → AVal} (hW : ∀ κ x, ren κ (W x) = W (ren κ x)) (hd : d.In H i j k) (h : CallW Try.prog f [d.av 0 1 2] d.heap fun v H' => v = W (V.avO 3 4 5) ∧ H' = ((d.heap.alloc (oIB V.latch)).alloc (oPB V.gates)).alloc (oIB V.out)) : CallW Try.prog f [d.av i j k] H fun v H' => v = W (V.avO H.n (H.n + 1) (H.n + 2)) ∧ H' = ((H.alloc (oIB V.latch)).alloc (oPB V.gates)).alloc (oIB V.out) := by
  refine (CallW.allocsAt (K := fun v bs => v = W (V.avO 3 4 5) ∧ bs = [oIB V.latch, oPB V.gates, oIB V.out]) (h.mono ?_) [i, j, k] rfl hd.all).mono ?_
  · rintro v G ⟨rfl, rfl⟩
    refine ⟨[oIB V.latch, oPB V.gates, oIB V.out], rfl, fun b hb => ?_, rfl, rfl⟩
    simp only [List.mem_cons, List.not_mem_nil, or_false] at hb
    rcases hb with rfl | rfl | rfl
    · exact fresh_O
    · exact fresh_OP
    · exact fresh_O
  · rintro v G ⟨_, _, ⟨rfl, rfl⟩, rfl, rfl⟩
    constructor
    · rw [hW]
      congr 1
      show AVal.agg [_, ren _ (oI 3 V.latch), ren _ (oP 4 V.gates), ren _ (oI 5 V.out)] = AVal.agg _
      rw [ren_oI, ren_oP, ren_oI]
      rfl
    · show AHeap.allocs H [renB _ (oIB V.latch), renB _ (oPB V.gates), renB _ (oIB V.out)] = _
      rw [renB_oIB, renB_oPB, renB_oIB]
      rfl
theorem dropped58o {d : Cir} {H : AHeap} {i j k : Nat} (hf : d.Fits) (ho : d.Ok) (hn : d.Norm) (hd : d.In H i j k) : CallW Try.prog 58 [d.av i j k] H fun v H' => v = d.drop.avO H.n (H.n + 1) (H.n + 2) ∧ H' = ((H.alloc (oIB d.drop.latch)).alloc (oPB d.drop.gates)).alloc (oIB d.drop.out) :=
  hd.makes (W := fun x => x) (fun _ _ => rfl) (dropped58 d hf ho hn)
theorem dropped58a {d : Cir} {H : AHeap} {x y z s t : Nat} {inp : Int} {ls : List Int} {gs : List (Int × Int)} {os : List Int} (hi : d.inp = inp) (hl : d.latch = ls) (hg : d.gates = gs) (hu : d.out = os) (hf : d.Fits) (ho : d.Ok) (hn : d.Norm) (h1 : Nat.blt x H.n = true) (h2 : H.f x = oIB ls) (h3 : Nat.blt y H.n = true) (h4 : H.f y = oPB gs) (h5 : Nat.blt z H.n = true) (h6 : H.f z = oIB os) (hs : Spare H 1 s) (ht : Spare H 2 t) : CallW Try.prog 58 [.agg [.int .i64 inp, oI x ls, oP y gs, oI z os]] H fun v H' => v = d.drop.avO H.n (H.n + 1) (H.n + 2) ∧ H' = ((H.alloc (oIB d.drop.latch)).alloc (oPB d.drop.gates)).alloc (oIB d.drop.out) := by
  subst hi hl hg hu
  obtain ⟨i, j, k, hin, htl⟩ := Cir.in_at h1 h2 h3 h4 h5 h6 hs ht
  exact (dropped58o hf ho hn hin).argsT (.cons htl .nil)
theorem ok_fits {d : Cir} (h : d.Ok) : d.Fits := by
  obtain ⟨a1, a2, a3, a4, a5⟩ := h.s
  exact ⟨⟨by omega, by omega⟩, by omega, by omega, by omega⟩
end Go.Proofs.Ytmghlldboiplpaa
