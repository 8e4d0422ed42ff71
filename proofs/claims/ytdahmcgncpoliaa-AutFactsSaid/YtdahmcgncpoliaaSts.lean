/- Step. -/
import Derived.Test.YtdahmcgncpoliaaCmp
set_option linter.unusedVariables false
set_option linter.unusedSimpArgs false
set_option maxRecDepth 100000
namespace Go.Proofs.Ytdahmcgncpoliaa
open Go Go.Vh Go.Proofs
def Au.InR (a : Au) (s l : Int) : Prop := 0 ≤ s ∧ s < a.states ∧ 0 ≤ l ∧ l < (2 ^ a.props.toNat : Nat)
/-- What Step answers, and what it makes. -/
def Au.StepK (a : Au) (s l : Int) (n : Nat) (v : AVal) (bs : List ABlk) : Prop :=
  (¬ a.Ok ∧ v = .tuple [.nilSlice, .int .i64 1] ∧ bs = []) ∨ (a.Ok ∧ ¬ a.InR s l ∧ v = .tuple [.nilSlice, .int .i64 6] ∧ bs = []) ∨
  (a.Ok ∧ a.InR s l ∧ a.outs s l a.es.length = [] ∧ v = .tuple [.nilSlice, .int .i64 0] ∧ bs = []) ∨
  (a.Ok ∧ a.InR s l ∧ a.outs s l a.es.length ≠ [] ∧ v = .tuple [.slice n 0 (a.outs s l a.es.length).length, .int .i64 0] ∧ bs = [.cells 1 (ints (a.outs s l a.es.length))])
theorem stepK_frame (a : Au) (s l : Int) {f : FuncId} (h : CallW Try.prog f [a.av, .int .i64 s, .int .i64 l] a.heap fun v G => ∃ bs, a.StepK s l 2 v bs ∧ G = a.heap.allocs bs) (H : AHeap) (hn : Nat.ble 2 H.n = true) (h0 : H.f 0 = .ro 1 (ints a.start)) (h1 : H.f 1 = .ro 5 (ints (flat a.es))) :
    CallW Try.prog f [a.av, .int .i64 s, .int .i64 l] H fun v G => ∃ bs, a.StepK s l H.n v bs ∧ G = H.allocs bs := by
  have hA : CallA Try.prog f [a.av, .int .i64 s, .int .i64 l] a.heap (a.StepK s l 2) := h.mono fun v G ⟨bs, hk, hG⟩ => ⟨bs, hG, fun b hb => by
    rcases hk with ⟨_, _, rfl⟩ | ⟨_, _, _, rfl⟩ | ⟨_, _, _, _, rfl⟩ | ⟨_, _, _, _, rfl⟩
    · cases hb
    · cases hb
    · cases hb
    · rw [List.mem_singleton.1 hb]; trivial, hk⟩
  refine (frame2 hA H hn h0 h1 rfl).mono ?_
  rintro v G ⟨v', bs, hk, rfl, rfl⟩
  rcases hk with ⟨k1, rfl, rfl⟩ | ⟨k1, k2, rfl, rfl⟩ | ⟨k1, k2, k3, rfl, rfl⟩ | ⟨k1, k2, k3, rfl, rfl⟩
  · exact ⟨_, .inl ⟨k1, rfl, rfl⟩, rfl⟩
  · exact ⟨_, .inr (.inl ⟨k1, k2, rfl, rfl⟩), rfl⟩
  · exact ⟨_, .inr (.inr (.inl ⟨k1, k2, k3, rfl, rfl⟩)), rfl⟩
  · refine ⟨_, .inr (.inr (.inr ⟨k1, k2, k3, rfl, rfl⟩)), ?_⟩
    show H.alloc (renB _ (.cells 1 (ints _))) = _
    rw [renB, rens_ints]
    rfl
theorem step21 (a : Au) (hf : a.Fits) (s l : Int) : CallW Try.prog 21 [a.av, .int .i64 s, .int .i64 l] a.heap fun v G => ∃ bs, a.StepK s l 2 v bs ∧ G = a.heap.allocs bs := by
  refine CallW.symR Try.func21 rfl (by kernel_rfl) ?_
  conv => whnf
  iterate 1 (refine Gets.of _ rfl ?_; conv => whnf)
  refine CallS.of (by kernel_rfl) (valid23c a hf _ rfl rfl rfl) rfl ?_
  rintro _ _ ⟨rfl, b, rfl, hb⟩
  cases b <;> conv => whnf
  · exact ⟨renL [0, 1] 3, .tuple [.nilSlice, .int .i64 1], a.heap, Emb.lits [0, 1] rfl rfl rfl rfl (.cons ⟨rfl, rfl, fun h => h⟩ (.cons ⟨rfl, rfl, fun h => h⟩ .nil)) (.cons ⟨rfl, .roI⟩ (.cons ⟨rfl, .roI⟩ .nil)), rfl, [], .inl ⟨fun h => absurd (hb.2 h) (by simp), rfl, rfl⟩, rfl⟩
  have ho := hb.1 rfl
  have hh := ho.1
  have hp0 := hh.1
  have hp6 := hh.2.1
  have hne := hh.2.2.2.2.2.2.2
  refine Fork.mk (fun h => ?_) (fun k0 => ?_)
  all_goals conv => whnf
  · simp only [decide_eq_true_eq] at h
    exact ⟨renL [0, 1] 3, .tuple [.nilSlice, .int .i64 6], a.heap, Emb.lits [0, 1] rfl rfl rfl rfl (.cons ⟨rfl, rfl, fun h => h⟩ (.cons ⟨rfl, rfl, fun h => h⟩ .nil)) (.cons ⟨rfl, .roI⟩ (.cons ⟨rfl, .roI⟩ .nil)), rfl, [], .inr (.inl ⟨ho, fun hi => by have := hi.1; omega, rfl, rfl⟩), rfl⟩
  repeat (refine Gets.of _ rfl ?_; conv => whnf)
  refine Fork.mk (fun h => ?_) (fun k1 => ?_)
  all_goals conv => whnf
  · simp only [decide_eq_true_eq] at h
    exact ⟨renL [0, 1] 3, .tuple [.nilSlice, .int .i64 6], a.heap, Emb.lits [0, 1] rfl rfl rfl rfl (.cons ⟨rfl, rfl, fun h => h⟩ (.cons ⟨rfl, rfl, fun h => h⟩ .nil)) (.cons ⟨rfl, .roI⟩ (.cons ⟨rfl, .roI⟩ .nil)), rfl, [], .inr (.inl ⟨ho, fun hi => by have := hi.2.1; omega, rfl, rfl⟩), rfl⟩
  refine Fork.mk (fun h => ?_) (fun k2 => ?_)
  all_goals conv => whnf
  · simp only [decide_eq_true_eq] at h
    exact ⟨renL [0, 1] 3, .tuple [.nilSlice, .int .i64 6], a.heap, Emb.lits [0, 1] rfl rfl rfl rfl (.cons ⟨rfl, rfl, fun h => h⟩ (.cons ⟨rfl, rfl, fun h => h⟩ .nil)) (.cons ⟨rfl, .roI⟩ (.cons ⟨rfl, .roI⟩ .nil)), rfl, [], .inr (.inl ⟨ho, fun hi => by have := hi.2.2.1; omega, rfl, rfl⟩), rfl⟩
  repeat (refine Gets.of _ rfl ?_; conv => whnf)
  refine Gets.shl hp0 ?_
  rw [shlP hp0 hp6]
  conv => whnf
  refine Fork.mk (fun h => ?_) (fun k3 => ?_)
  all_goals conv => whnf
  · simp only [decide_eq_true_eq] at h
    exact ⟨renL [0, 1] 3, .tuple [.nilSlice, .int .i64 6], a.heap, Emb.lits [0, 1] rfl rfl rfl rfl (.cons ⟨rfl, rfl, fun h => h⟩ (.cons ⟨rfl, rfl, fun h => h⟩ .nil)) (.cons ⟨rfl, .roI⟩ (.cons ⟨rfl, .roI⟩ .nil)), rfl, [], .inr (.inl ⟨ho, fun hi => by have := hi.2.2.2; omega, rfl, rfl⟩), rfl⟩
  simp only [decide_eq_false_iff_not] at k0 k1 k2 k3
  have hin : a.InR s l := ⟨by omega, by omega, by omega, by omega⟩
  repeat (refine Gets.of _ rfl ?_; conv => whnf)
  refine CodeS.loopG (σ := Nat) (fun j => [(1, .int .i64 s), (2, .int .i64 l), (3, .ptr 2 0), (6, .nilSlice), (7, .int .i64 0), (8, rowV 3 1 (a.outs s l j)), (34, .view 1 0 a.es.length), (35, .int .i64 a.es.length), (36, .int .i64 j)]) (fun j => rowsAt a.heap3 1 [a.outs s l j]) (fun j => j ≤ a.es.length) (fun j => a.es.length - j) 0 (rk [0, 1, 2] (fun _ => 0) 1 3) (by kernel_rfl)
    (Nat.zero_le _) ⟨rfl, rfl, rfl, rfl, rfl, rfl, rfl, rfl, rfl, trivial⟩ (a.oneRow [] 0 rfl (by decide) (fun i _ => rfl) (fun i _ => rfl) (fun h => absurd rfl h) (by decide)) ?_
  intro j g1
  have hol := a.outs_len s l j
  generalize hos : a.outs s l j = os at hol
  have hw : j < a.es.length → IntKind.wrap .i64 ((j : Int) + 1) = ((j + 1 : Nat) : Int) := fun h => by rw [wrap_i64 (by omega) (by omega)]; rfl
  rcases os with _ | ⟨x, os⟩
  all_goals
    conv => whnf
    refine Fork.mk (fun hc => ?_) (fun hc => ?_)
    all_goals conv => whnf
    · have hc : j < a.es.length := by simp at hc; omega
      have hw := hw hc
      refine Gets.ixV (es := 5) rfl (by kernel_rfl) (by omega) (by omega) ?_
      conv => whnf
      refine Gets.loadE (j := j) (es := a.es) (ti := ⟨5, 40, true, [.int .i64 0, .int .i64 0, .int .i64 0, .int .i64 0, .int .i64 0]⟩) (by kernel_rfl) rfl rfl rfl (by simp) hc ?_
      generalize hee : a.es[j] = e
      conv => whnf
      repeat (refine Gets.of _ rfl ?_; conv => whnf)
      have hsucc : a.outs s l (j + 1) = if goesB e s l = true then a.outs s l j ++ [(j : Int)] else a.outs s l j := by
        rw [Au.outs, List.getElem?_eq_getElem hc, hee]
      refine Fork.mk (fun hs => ?_) (fun hs => ?_)
      all_goals conv => whnf
      · repeat (refine Gets.of _ rfl ?_; conv => whnf)
        refine Fork.mk (fun hrd => ?_) (fun hrd => ?_)
        all_goals conv => whnf
        · have hrd : readsB e l = true := hrd
          have hg : goesB e s l = true := by unfold goesB; rw [hrd, hs]; rfl
          rw [hg, hos] at hsucc
          rw [if_pos rfl] at hsucc
          first
            | refine Gets.appendRow (es := 1) (b := 3) (r := []) (y := (j : Int)) (x := []) (ti := ⟨1, 8, false, [.int .i64 0]⟩) (d := .slice 3) (by kernel_rfl) (by kernel_rfl) rfl rfl rfl (by decide) (by decide) rfl rfl (fun h => absurd rfl h) ⟨0, rfl, by decide⟩ ?_
            | refine Gets.appendRow (es := 1) (b := 3) (r := x :: os) (y := (j : Int)) (x := []) (ti := ⟨1, 8, false, [.int .i64 0]⟩) (d := .slice 3) (by kernel_rfl) (by kernel_rfl) rfl rfl rfl (by decide) (by decide) rfl rfl (fun h => rfl) ⟨(x :: os).length, by omega, by omega⟩ ?_
          rintro H' (⟨h1, rfl⟩ | ⟨h1, rfl⟩)
          all_goals
            first
              | exact absurd rfl h1
              | (cases h1; done)
              | skip
          conv => whnf
          refine ⟨j + 1, rk [0, 1, 2] (fun _ => 6) 1 7, by omega, by omega, ⟨rfl, rfl, rfl, rfl, rfl, by rw [hsucc]; rfl, rfl, rfl, congrArg (AVal.int .i64) hw, trivial⟩, ?_⟩
          rw [hsucc]
          exact a.oneRow _ 6 rfl (by decide) (fun i hi => by rcases i with _ | _ | _ | i <;> first | rfl | omega) (fun i hi => by rcases i with _ | _ | i <;> first | rfl | omega) (fun h => ⟨by decide, rfl⟩) (by decide)
        · have hrd : readsB e l = false := hrd
          have hg : goesB e s l = false := by unfold goesB; rw [hrd, Bool.and_false]
          rw [hg, hos] at hsucc
          refine ⟨j + 1, rk [0, 1, 2] (fun _ => 3) 1 5, by omega, by omega, ⟨rfl, rfl, rfl, rfl, rfl, by rw [hsucc]; rfl, rfl, rfl, congrArg (AVal.int .i64) hw, trivial⟩, ?_⟩
          rw [hsucc]
          exact a.oneRow _ 3 rfl (by decide) (fun i hi => by rcases i with _ | _ | _ | i <;> first | rfl | omega) (fun i hi => by rcases i with _ | _ | i <;> first | rfl | omega) (fun h => ⟨by decide, by first | exact absurd rfl h | rfl⟩) (by decide)
      · have hg : goesB e s l = false := by unfold goesB; rw [hs]; rfl
        rw [hg, hos] at hsucc
        refine ⟨j + 1, rk [0, 1, 2] (fun _ => 3) 1 5, by omega, by omega, ⟨rfl, rfl, rfl, rfl, rfl, by rw [hsucc]; rfl, rfl, rfl, congrArg (AVal.int .i64) hw, trivial⟩, ?_⟩
        rw [hsucc]
        exact a.oneRow _ 3 rfl (by decide) (fun i hi => by rcases i with _ | _ | _ | i <;> first | rfl | omega) (fun i hi => by rcases i with _ | _ | i <;> first | rfl | omega) (fun h => ⟨by decide, by first | exact absurd rfl h | rfl⟩) (by decide)
    · have hje : j = a.es.length := by simp at hc; omega
      subst hje
      first
        | refine ⟨renL [0, 1] 4, .tuple [.nilSlice, .int .i64 0], a.heap, Emb.lits [0, 1] rfl rfl rfl rfl (.cons ⟨rfl, rfl, fun h => h⟩ (.cons ⟨rfl, rfl, fun h => h⟩ .nil)) (.cons ⟨rfl, .roI⟩ (.cons ⟨rfl, .roI⟩ .nil)), rfl, [], .inr (.inr (.inl ⟨ho, hin, hos, rfl, rfl⟩)), rfl⟩
        | refine ⟨renL [0, 1, 3] 4, .tuple [.slice 2 0 (x :: os).length, .int .i64 0], a.heap.alloc (.cells 1 (ints (x :: os))), Emb.lits [0, 1, 3] rfl rfl rfl rfl (.cons ⟨rfl, rfl, fun h => h⟩ (.cons ⟨rfl, rfl, fun h => h⟩ .nil)) (.cons ⟨rfl, .roI⟩ (.cons ⟨rfl, .roI⟩ (.cons ⟨rfl, .cellsI⟩ .nil))), by simp [ren, rens, rowV, renL], [.cells 1 (ints (x :: os))], .inr (.inr (.inr ⟨ho, hin, by rw [hos]; simp, by rw [hos], by rw [hos]⟩)), rfl⟩
theorem step21c (a : Au) (hf : a.Fits) (s l : Int) (H : AHeap) (hn : Nat.ble 2 H.n = true) (h0 : H.f 0 = .ro 1 (ints a.start)) (h1 : H.f 1 = .ro 5 (ints (flat a.es))) :
    CallW Try.prog 21 [a.av, .int .i64 s, .int .i64 l] H fun v G => ∃ bs, a.StepK s l H.n v bs ∧ G = H.allocs bs := stepK_frame a s l (step21 a hf s l) H hn h0 h1
theorem step22 (a : Au) (hf : a.Fits) (s l : Int) : CallW Try.prog 22 [a.av, .int .i64 s, .int .i64 l] a.heap fun v G => ∃ bs, a.StepK s l 2 v bs ∧ G = a.heap.allocs bs := by
  refine CallW.symR Try.func22 rfl (by kernel_rfl) ?_
  conv => whnf
  iterate 1 (refine Gets.of _ rfl ?_; conv => whnf)
  refine CallS.of (by kernel_rfl) (valid24c a hf _ rfl rfl rfl) rfl ?_
  rintro _ _ ⟨rfl, b, rfl, hb⟩
  cases b <;> conv => whnf
  · exact ⟨renL [0, 1] 3, .tuple [.nilSlice, .int .i64 1], a.heap, Emb.lits [0, 1] rfl rfl rfl rfl (.cons ⟨rfl, rfl, fun h => h⟩ (.cons ⟨rfl, rfl, fun h => h⟩ .nil)) (.cons ⟨rfl, .roI⟩ (.cons ⟨rfl, .roI⟩ .nil)), rfl, [], .inl ⟨fun h => absurd (hb.2 h) (by simp), rfl, rfl⟩, rfl⟩
  have ho := hb.1 rfl
  have hh := ho.1
  have hp0 := hh.1
  have hp6 := hh.2.1
  have hne := hh.2.2.2.2.2.2.2
  refine Fork.mk (fun h => ?_) (fun k0 => ?_)
  all_goals conv => whnf
  · simp only [decide_eq_true_eq] at h
    exact ⟨renL [0, 1] 3, .tuple [.nilSlice, .int .i64 6], a.heap, Emb.lits [0, 1] rfl rfl rfl rfl (.cons ⟨rfl, rfl, fun h => h⟩ (.cons ⟨rfl, rfl, fun h => h⟩ .nil)) (.cons ⟨rfl, .roI⟩ (.cons ⟨rfl, .roI⟩ .nil)), rfl, [], .inr (.inl ⟨ho, fun hi => by have := hi.1; omega, rfl, rfl⟩), rfl⟩
  repeat (refine Gets.of _ rfl ?_; conv => whnf)
  refine Fork.mk (fun h => ?_) (fun k1 => ?_)
  all_goals conv => whnf
  · simp only [decide_eq_true_eq] at h
    exact ⟨renL [0, 1] 3, .tuple [.nilSlice, .int .i64 6], a.heap, Emb.lits [0, 1] rfl rfl rfl rfl (.cons ⟨rfl, rfl, fun h => h⟩ (.cons ⟨rfl, rfl, fun h => h⟩ .nil)) (.cons ⟨rfl, .roI⟩ (.cons ⟨rfl, .roI⟩ .nil)), rfl, [], .inr (.inl ⟨ho, fun hi => by have := hi.2.1; omega, rfl, rfl⟩), rfl⟩
  repeat (refine Gets.of _ rfl ?_; conv => whnf)
  refine CallS.of (by kernel_rfl) (letter52c l a.props hp0 hp6 _) rfl ?_
  rintro _ _ ⟨rfl, b, rfl, hb2⟩
  simp only [decide_eq_false_iff_not] at k0 k1
  cases b <;> conv => whnf
  · exact ⟨renL [0, 1] 3, .tuple [.nilSlice, .int .i64 6], a.heap, Emb.lits [0, 1] rfl rfl rfl rfl (.cons ⟨rfl, rfl, fun h => h⟩ (.cons ⟨rfl, rfl, fun h => h⟩ .nil)) (.cons ⟨rfl, .roI⟩ (.cons ⟨rfl, .roI⟩ .nil)), rfl, [], .inr (.inl ⟨ho, (fun hi => by have := hb2.2 (by unfold isLet; exact ⟨hi.2.2.1, by have := hi.2.2.2; simpa using this⟩); cases this), rfl, rfl⟩), rfl⟩
  have hin : a.InR s l := ⟨by omega, by omega, (hb2.1 rfl).1, by have := (hb2.1 rfl).2; simpa using this⟩
  repeat (refine Gets.of _ rfl ?_; conv => whnf)
  refine CallS.of (by kernel_rfl) (out32c a hf s l hne _ rfl rfl rfl) rfl ?_
  rintro v H' (⟨h1, rfl, rfl⟩ | ⟨h1, rfl, rfl⟩)
  all_goals conv => whnf
  · exact ⟨renL [0, 1] 3, .tuple [.nilSlice, .int .i64 0], a.heap, Emb.lits [0, 1] rfl rfl rfl rfl (.cons ⟨rfl, rfl, fun h => h⟩ (.cons ⟨rfl, rfl, fun h => h⟩ .nil)) (.cons ⟨rfl, .roI⟩ (.cons ⟨rfl, .roI⟩ .nil)), rfl, [], .inr (.inr (.inl ⟨ho, hin, h1, rfl, rfl⟩)), rfl⟩
  · exact ⟨renL [0, 1, 3] 4, .tuple [.slice 2 0 (a.outs s l a.es.length).length, .int .i64 0], a.heap.alloc (.cells 1 (ints (a.outs s l a.es.length))), Emb.lits [0, 1, 3] rfl rfl rfl rfl (.cons ⟨rfl, rfl, fun h => h⟩ (.cons ⟨rfl, rfl, fun h => h⟩ .nil)) (.cons ⟨rfl, .roI⟩ (.cons ⟨rfl, .roI⟩ (.cons ⟨rfl, .cellsI⟩ .nil))), rfl, [.cells 1 (ints (a.outs s l a.es.length))], .inr (.inr (.inr ⟨ho, hin, h1, rfl, rfl⟩)), rfl⟩
theorem step22c (a : Au) (hf : a.Fits) (s l : Int) (H : AHeap) (hn : Nat.ble 2 H.n = true) (h0 : H.f 0 = .ro 1 (ints a.start)) (h1 : H.f 1 = .ro 5 (ints (flat a.es))) :
    CallW Try.prog 22 [a.av, .int .i64 s, .int .i64 l] H fun v G => ∃ bs, a.StepK s l H.n v bs ∧ G = H.allocs bs := stepK_frame a s l (step22 a hf s l) H hn h0 h1
/-! ### Lists, alike -/
theorem list26 (l : List Int) (hll : l.length ≤ 4294967296) : CallW Try.prog 26 [.slice 0 0 l.length, .slice 1 0 l.length] ((emptyH.alloc (.ro 1 (ints l))).alloc (.ro 1 (ints l))) fun v _ => v = .bool true := by
  refine CallW.sym Try.func26 rfl (by kernel_rfl) ?_
  conv => whnf
  repeat (refine Gets.of _ rfl ?_; conv => whnf)
  refine Fork.mk (fun h => by simp at h) (fun _ => ?_)
  conv => whnf
  repeat (refine Gets.of _ rfl ?_; conv => whnf)
  refine CodeS.loopS (σ := Nat) (fun j => [(0, .slice 0 0 l.length), (1, .slice 1 0 l.length), (4, .bool false), (12, .int .i64 l.length), (13, .int .i64 j)]) (fun _ => _) (fun j => j ≤ l.length) (fun j => l.length - j) 0 (by kernel_rfl) (Nat.zero_le _) ⟨rfl, rfl, rfl, rfl, rfl, trivial⟩ rfl ?_
  intro j g1
  conv => whnf
  refine Fork.mk (fun hc => ?_) (fun hc => ?_)
  all_goals conv => whnf
  · have hc : j < l.length := by simp at hc; omega
    have hne : ints l ≠ [] := by intro h; rw [← List.length_eq_zero_iff, ints_length] at h; omega
    refine CodeS.drawI [0, 1] (takes 9) mixed (by kernel_rfl) (.cons ⟨rfl, hne⟩ (.cons ⟨rfl, hne⟩ .nil)) ?_
    conv => whnf
    refine Gets.ixS (es := 1) rfl (by kernel_rfl) (by omega) (by omega) ?_
    conv => whnf
    refine Gets.loadN (j := j) (k := .i64) (l := l) (x := l[j]) (ti := ⟨1, 8, false, [.int .i64 0]⟩) (by kernel_rfl) rfl rfl (by simp) (List.getElem?_eq_getElem hc) ?_
    conv => whnf
    refine Gets.ixS (es := 1) rfl (by kernel_rfl) (by omega) (by omega) ?_
    conv => whnf
    refine Gets.loadN (j := j) (k := .i64) (l := l) (x := l[j]) (ti := ⟨1, 8, false, [.int .i64 0]⟩) (by kernel_rfl) rfl rfl (by simp) (List.getElem?_eq_getElem hc) ?_
    conv => whnf
    refine Fork.mk (fun h => by simp at h) (fun _ => ?_)
    conv => whnf
    have hw : IntKind.wrap .i64 ((j : Int) + 1) = ((j + 1 : Nat) : Int) := by rw [wrap_i64 (by omega) (by omega)]; rfl
    exact ⟨j + 1, by omega, by omega, ⟨rfl, rfl, rfl, rfl, congrArg (AVal.int .i64) hw, trivial⟩, rfl⟩
theorem bools25 (l : List Bool) (hll : l.length ≤ 4294967296) : CallW Try.prog 25 [.slice 0 0 l.length, .slice 1 0 l.length] ((emptyH.alloc (.ro 1 (bls l))).alloc (.ro 1 (bls l))) fun v _ => v = .bool true := by
  refine CallW.sym Try.func25 rfl (by kernel_rfl) ?_
  conv => whnf
  repeat (refine Gets.of _ rfl ?_; conv => whnf)
  refine Fork.mk (fun h => by simp at h) (fun _ => ?_)
  conv => whnf
  repeat (refine Gets.of _ rfl ?_; conv => whnf)
  refine CodeS.loopS (σ := Nat) (fun j => [(0, .slice 0 0 l.length), (1, .slice 1 0 l.length), (4, .bool false), (12, .int .i64 l.length), (13, .int .i64 j)]) (fun _ => _) (fun j => j ≤ l.length) (fun j => l.length - j) 0 (by kernel_rfl) (Nat.zero_le _) ⟨rfl, rfl, rfl, rfl, rfl, trivial⟩ rfl ?_
  intro j g1
  conv => whnf
  refine Fork.mk (fun hc => ?_) (fun hc => ?_)
  all_goals conv => whnf
  · have hc : j < l.length := by simp at hc; omega
    have hne : bls l ≠ [] := by intro h; rw [← List.length_eq_zero_iff, bls_length] at h; omega
    refine CodeS.drawI [0, 1] (takes 9) mixed (by kernel_rfl) (.cons ⟨rfl, hne⟩ (.cons ⟨rfl, hne⟩ .nil)) ?_
    conv => whnf
    refine Gets.ixS (es := 1) rfl (by kernel_rfl) (by omega) (by omega) ?_
    conv => whnf
    refine Gets.loadB (j := j) (l := l) (b := l[j]) (ti := ⟨1, 1, false, [.bool false]⟩) (by kernel_rfl) rfl rfl (by simp) (List.getElem?_eq_getElem hc) ?_
    conv => whnf
    refine Gets.ixS (es := 1) rfl (by kernel_rfl) (by omega) (by omega) ?_
    conv => whnf
    refine Gets.loadB (j := j) (l := l) (b := l[j]) (ti := ⟨1, 1, false, [.bool false]⟩) (by kernel_rfl) rfl rfl (by simp) (List.getElem?_eq_getElem hc) ?_
    conv => whnf
    have hw : IntKind.wrap .i64 ((j : Int) + 1) = ((j + 1 : Nat) : Int) := by rw [wrap_i64 (by omega) (by omega)]; rfl
    cases l[j]
    all_goals conv => whnf
    all_goals refine Fork.mk (fun h => by cases h) (fun _ => ?_)
    all_goals conv => whnf
    all_goals exact ⟨j + 1, by omega, by omega, ⟨rfl, rfl, rfl, rfl, congrArg (AVal.int .i64) hw, trivial⟩, rfl⟩
end Go.Proofs.Ytdahmcgncpoliaa
