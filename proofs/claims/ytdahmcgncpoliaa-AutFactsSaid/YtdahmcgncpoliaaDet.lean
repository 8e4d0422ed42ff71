/- Deterministic, of the program. -/
import Derived.Test.YtdahmcgncpoliaaStp
set_option linter.unusedVariables false
set_option linter.unusedSimpArgs false
set_option maxRecDepth 100000
namespace Go.Proofs.Ytdahmcgncpoliaa
open Go Go.Vh Go.Proofs
def atN (n : Nat) (i : Nat) : Nat := if i < 2 then i else n + (i - 2)
/-- As read2, where new blocks are made. -/
theorem frame2 {f : FuncId} {args : List AVal} {a : Au} {K : AVal → List ABlk → Prop} (h : CallA Try.prog f args a.heap K) (H : AHeap) (hn : Nat.ble 2 H.n = true) (h0 : H.f 0 = .ro 1 (ints a.start)) (h1 : H.f 1 = .ro 5 (ints (flat a.es))) (ha : rens (atN H.n) args = args) :
    CallW Try.prog f args H fun v H' => ∃ v' bs, K v' bs ∧ v = ren (atN H.n) v' ∧ H' = H.allocs (bs.map (renB (atN H.n))) := by
  have hn := Nat.le_of_ble_eq_true hn
  have := CallA.frame (H := H) h (atN H.n) (fun i hi => by
    have hi : i < 2 := hi
    rcases i with _ | _ | i
    · exact ⟨by show 0 < H.n; omega, fun h => h, by show BSub _ (.ro 1 (ints a.start)) (H.f 0); rw [h0]; exact .roI⟩
    · exact ⟨by show 1 < H.n; omega, fun h => h, by show BSub _ (.ro 5 (ints (flat a.es))) (H.f 1); rw [h1]; exact .roI⟩
    · omega) (fun i hi => by
    have hi : 2 ≤ i := hi
    show (if i < 2 then i else H.n + (i - 2)) = _
    rw [if_neg (by omega)]
    rfl)
  rwa [ha] at this
theorem single45c (a : Au) (hf : a.Fits) (ho : a.Ok) (H : AHeap) (hn : Nat.ble 2 H.n = true) (h0 : H.f 0 = .ro 1 (ints a.start)) (h1 : H.f 1 = .ro 5 (ints (flat a.es))) :
    CallW Try.prog 45 [a.av] H fun v H' => (v = .tuple [.nilSlice, .bool false] ∧ ¬ a.Sep a.es.length ∧ H' = H) ∨ (v = .tuple [.slice H.n 0 a.states.toNat, .bool true] ∧ a.Sep a.es.length ∧ H' = H.alloc (.cells 1 (u64s (a.ms a.es.length)))) := by
  refine (frame2 (a := a) (K := fun v bs => (v = .tuple [.nilSlice, .bool false] ∧ ¬ a.Sep a.es.length ∧ bs = []) ∨ (v = .tuple [.slice 2 0 a.states.toNat, .bool true] ∧ a.Sep a.es.length ∧ bs = [.cells 1 (u64s (a.ms a.es.length))])) ((single45 a hf ho).mono ?_) H hn h0 h1 rfl).mono ?_
  · rintro v G (⟨rfl, h2, rfl⟩ | ⟨rfl, h2, rfl⟩)
    · exact ⟨[], rfl, by simp, .inl ⟨rfl, h2, rfl⟩⟩
    · exact ⟨[_], rfl, by simp [ABlk.fresh], .inr ⟨rfl, h2, rfl⟩⟩
  · rintro v G ⟨v', bs, (⟨rfl, h2, rfl⟩ | ⟨rfl, h2, rfl⟩), rfl, rfl⟩
    · exact .inl ⟨rfl, h2, rfl⟩
    · refine .inr ⟨?_, h2, ?_⟩
      · show AVal.tuple [.slice (H.n + 0) 0 _, _] = _
        rfl
      · show H.alloc (renB _ (.cells 1 (u64s _))) = _
        rw [renB, u64s, rens_nums]
/-- What Deterministic answers. -/
def Au.DetOk (a : Au) (b : Bool) (e : Int) : Prop := (¬ a.Ok ∧ b = false ∧ e = 1) ∨ (a.Ok ∧ e = 0 ∧ (b = true ↔ a.Sep a.es.length ∧ a.start.length = 1))
theorem det15 (a : Au) (hf : a.Fits) : CallW Try.prog 15 [a.av] a.heap fun v _ => ∃ b e, v = .tuple [.bool b, .int .i64 e] ∧ a.DetOk b e := by
  refine CallW.sym Try.func15 rfl (by kernel_rfl) ?_
  conv => whnf
  iterate 1 (refine Gets.of _ rfl ?_; conv => whnf)
  refine CallS.of (by kernel_rfl) (valid23c a hf _ rfl rfl rfl) rfl ?_
  rintro _ _ ⟨rfl, b, rfl, hb⟩
  cases b <;> conv => whnf
  · exact ⟨_, _, rfl, .inl ⟨fun h => absurd (hb.2 h) (by simp), rfl, rfl⟩⟩
  have ho := hb.1 rfl
  iterate 1 (refine Gets.of _ rfl ?_; conv => whnf)
  refine CallS.of (by kernel_rfl) (single45c a hf ho _ rfl rfl rfl) rfl ?_
  rintro v H' (⟨rfl, hs, rfl⟩ | ⟨rfl, hs, rfl⟩)
  all_goals conv => whnf
  · exact ⟨_, _, rfl, .inr ⟨ho, rfl, by simp [hs]⟩⟩
  iterate 2 (refine Gets.of _ rfl ?_; conv => whnf)
  refine Fork.mk (fun h => ?_) (fun h => ?_)
  all_goals conv => whnf
  · exact ⟨_, _, rfl, .inr ⟨ho, rfl, by simp at h; simp [hs]; omega⟩⟩
  · exact ⟨_, _, rfl, .inr ⟨ho, rfl, by simp at h; simp [hs]; omega⟩⟩
theorem det15c (a : Au) (hf : a.Fits) (H : AHeap) (hn : Nat.ble 2 H.n = true) (h0 : H.f 0 = .ro 1 (ints a.start)) (h1 : H.f 1 = .ro 5 (ints (flat a.es))) : CallW Try.prog 15 [a.av] H fun v H' => H' = H ∧ ∃ b e, v = .tuple [.bool b, .int .i64 e] ∧ a.DetOk b e :=
  read2 (det15 a hf) (by rintro v ⟨b, e, rfl, _⟩; rfl) H hn h0 h1 rfl
end Go.Proofs.Ytdahmcgncpoliaa
