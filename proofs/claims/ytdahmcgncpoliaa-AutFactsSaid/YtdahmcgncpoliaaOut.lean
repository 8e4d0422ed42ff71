/- The edges from a state with a letter. -/
import Derived.Test.YtdahmcgncpoliaaApt
set_option linter.unusedVariables false
set_option linter.unusedSimpArgs false
set_option maxRecDepth 100000
namespace Go.Proofs.Ytdahmcgncpoliaa
open Go Go.Vh Go.Proofs
theorem apart57c (a : Au) (hf : a.Fits) (ho : a.Ok) (H : AHeap) (hn : Nat.ble 2 H.n = true) (h0 : H.f 0 = .ro 1 (ints a.start)) (h1 : H.f 1 = .ro 5 (ints (flat a.es))) : CallW Try.prog 57 [a.av] H fun v H' => H' = H ∧ ∃ b, v = .bool b ∧ (b = true ↔ a.Apar a.es.length) :=
  read2 (apart57 a hf ho) (by rintro v ⟨b, rfl, _⟩; rfl) H hn h0 h1 rfl
theorem one29 (a : Au) (hf : a.Fits) (ho : a.Ok) : CallW Try.prog 29 [a.av] a.heap fun v _ => ∃ b, v = .bool b ∧ (b = true ↔ a.start.length = 1 ∧ a.Apar a.es.length) := by
  refine CallW.sym Try.func29 rfl (by kernel_rfl) ?_
  conv => whnf
  iterate 2 (refine Gets.of _ rfl ?_; conv => whnf)
  refine Fork.mk (fun h => ?_) (fun h => ?_)
  all_goals conv => whnf
  · refine Gets.of _ rfl ?_
    conv => whnf
    refine CallS.of (by kernel_rfl) (apart57c a hf ho _ rfl rfl rfl) rfl ?_
    rintro _ _ ⟨rfl, b, rfl, hb⟩
    cases b <;> conv => whnf
    · exact ⟨false, rfl, ⟨fun h => (nomatch h), fun h => absurd (hb.2 h.2) (by simp)⟩⟩
    · exact ⟨true, rfl, ⟨fun _ => ⟨by simp at h; omega, hb.1 rfl⟩, fun _ => rfl⟩⟩
  · exact ⟨false, rfl, ⟨fun h => (nomatch h), fun h' => by simp at h; omega⟩⟩
theorem one29c (a : Au) (hf : a.Fits) (ho : a.Ok) (H : AHeap) (hn : Nat.ble 2 H.n = true) (h0 : H.f 0 = .ro 1 (ints a.start)) (h1 : H.f 1 = .ro 5 (ints (flat a.es))) : CallW Try.prog 29 [a.av] H fun v H' => H' = H ∧ ∃ b, v = .bool b ∧ (b = true ↔ a.start.length = 1 ∧ a.Apar a.es.length) :=
  read2 (one29 a hf ho) (by rintro v ⟨b, rfl, _⟩; rfl) H hn h0 h1 rfl
theorem reads58 (e : Edg) (l : Int) : CallW Try.prog 58 [Edg.av e, .int .i64 l] emptyH fun v _ => v = .bool (readsB e l) := by
  refine CallW.sym Try.func58 rfl (by kernel_rfl) ?_
  conv => whnf
  iterate 2 (refine Gets.of _ rfl ?_; conv => whnf)
  refine Fork.mk (fun h => ?_) (fun h => ?_)
  all_goals conv => whnf
  · exact congrArg AVal.bool (show true = readsB e l from h.symm)
  · exact congrArg AVal.bool (show false = readsB e l from h.symm)
theorem reads58c (e : Edg) (l : Int) (H : AHeap) : CallW Try.prog 58 [Edg.av e, .int .i64 l] H fun v H' => H' = H ∧ v = .bool (readsB e l) :=
  CallW.closed (reads58 e l) rfl (by rintro _ rfl; rfl) H
def goesB (e : Edg) (s l : Int) : Bool := e.fr == s && readsB e l
def Au.outs (a : Au) (s l : Int) : Nat → List Int
  | 0 => []
  | j + 1 => match a.es[j]? with
    | some e => if goesB e s l = true then a.outs s l j ++ [(j : Int)] else a.outs s l j
    | none => a.outs s l j
theorem Au.outs_len (a : Au) (s l : Int) : ∀ j, (a.outs s l j).length ≤ j
  | 0 => by simp [Au.outs]
  | j + 1 => by
    have := a.outs_len s l j
    simp only [Au.outs]
    split
    · split
      · simp; omega
      · omega
    · omega
theorem Au.oneRow (a : Au) (r : List Int) (k : Nat) {H : AHeap} {m : Nat} (hm : H.n = m) (hk : k < m) (hf : ∀ i, i < 3 → H.f i = a.heap3.f i) (hv : ∀ i, i < 2 → H.ver i = 0) (hr : r ≠ [] → 3 ≤ k ∧ H.f k = .cells 1 (ints r)) (h3 : 3 ≤ m) : Emb 2 (rk [0, 1, 2] (fun _ => k) 1 m) (rowsAt a.heap3 1 [r]) H := by
  refine Emb.rows (G := a.heap3) (rows := [r]) [0, 1, 2] (fun _ => k) hm rfl (by show 2 ≤ 3; decide) (by decide) (fun i hi => ?_) (fun i c hc => ?_) (fun s hs => hk) (fun s x l h => ?_) (fun s t x l y m h h' hst => ?_)
  · rcases i with _ | _ | i
    · exact ⟨rfl, (hv 0 (by decide)).symm, by rw [hf 0 (by decide)]; exact fun h => h⟩
    · exact ⟨rfl, (hv 1 (by decide)).symm, by rw [hf 1 (by decide)]; exact fun h => h⟩
    · omega
  · rcases i with _ | _ | _ | i
    · cases hc; exact ⟨by omega, by rw [hf 0 (by decide)]; exact .roI⟩
    · cases hc; exact ⟨by omega, by rw [hf 1 (by decide)]; exact .roI⟩
    · cases hc; exact ⟨by omega, by rw [hf 2 (by decide)]; exact .inl rfl⟩
    · simp at hc
  · rcases s with _ | s
    · have h : r = x :: l := by simpa using h
      subst h
      obtain ⟨h1, h2⟩ := hr (by simp)
      exact ⟨by simp; omega, h2⟩
    · simp at h
  · rcases s with _ | s <;> rcases t with _ | t <;> simp_all
theorem out32 (a : Au) (hf : a.Fits) (s l : Int) (hne : a.es.length ≤ 40000) : CallW Try.prog 32 [a.av, .int .i64 s, .int .i64 l] a.heap fun v G => (a.outs s l a.es.length = [] ∧ v = .nilSlice ∧ G = a.heap) ∨ (a.outs s l a.es.length ≠ [] ∧ v = .slice 2 0 (a.outs s l a.es.length).length ∧ G = a.heap.alloc (.cells 1 (ints (a.outs s l a.es.length)))) := by
  refine CallW.symR Try.func32 rfl (by kernel_rfl) ?_
  conv => whnf
  iterate 2 (refine Gets.of _ rfl ?_; conv => whnf)
  refine CodeS.loopG (σ := Nat) (fun j => [(1, .int .i64 s), (2, .int .i64 l), (3, .ptr 2 0), (6, .nilSlice), (7, rowV 3 1 (a.outs s l j)), (11, .view 1 0 a.es.length), (12, .int .i64 a.es.length), (13, .int .i64 j)]) (fun j => rowsAt a.heap3 1 [a.outs s l j]) (fun j => j ≤ a.es.length) (fun j => a.es.length - j) 0 (rk [0, 1, 2] (fun _ => 0) 1 3) (by kernel_rfl)
    (Nat.zero_le _) ⟨rfl, rfl, rfl, rfl, rfl, rfl, rfl, rfl, trivial⟩ (a.oneRow [] 0 rfl (by decide) (fun i _ => rfl) (fun i _ => rfl) (fun h => absurd rfl h) (by decide)) ?_
  intro j g1
  have hol := a.outs_len s l j
  generalize hos : a.outs s l j = os at hol
  have hw : j < a.es.length → IntKind.wrap .i64 ((j : Int) + 1) = ((j + 1 : Nat) : Int) := fun h => by rw [wrap_i64 (by omega) (by omega)]; rfl
  rcases os with _ | ⟨x, os⟩
  all_goals
    conv => whnf
    refine Fork.mk (fun hc => ?_) (fun hc => ?_)
    all_goals conv => whnf
    · have hc : j < a.es.length := by simp at hc; omega
      have hw := hw hc
      refine Gets.ixV (es := 5) rfl (by kernel_rfl) (by omega) (by omega) ?_
      conv => whnf
      refine Gets.loadE (j := j) (es := a.es) (ti := ⟨5, 40, true, [.int .i64 0, .int .i64 0, .int .i64 0, .int .i64 0, .int .i64 0]⟩) (by kernel_rfl) rfl rfl rfl (by simp) hc ?_
      generalize hee : a.es[j] = e
      conv => whnf
      iterate 2 (refine Gets.of _ rfl ?_; conv => whnf)
      have hsucc : a.outs s l (j + 1) = if goesB e s l = true then a.outs s l j ++ [(j : Int)] else a.outs s l j := by
        rw [Au.outs, List.getElem?_eq_getElem hc, hee]
      refine Fork.mk (fun hs => ?_) (fun hs => ?_)
      all_goals conv => whnf
      · refine Gets.of _ rfl ?_
        conv => whnf
        refine CallS.of (by kernel_rfl) (reads58c e l _) rfl ?_
        rintro _ _ ⟨rfl, rfl⟩
        cases hrd : readsB e l <;> conv => whnf
        · have hg : goesB e s l = false := by unfold goesB; rw [hrd, Bool.and_false]
          rw [hg, hos] at hsucc
          refine ⟨j + 1, rk [0, 1, 2] (fun _ => 3) 1 5, by omega, by omega, ⟨rfl, rfl, rfl, rfl, by rw [hsucc]; rfl, rfl, rfl, congrArg (AVal.int .i64) hw, trivial⟩, ?_⟩
          rw [hsucc]
          exact a.oneRow _ 3 rfl (by decide) (fun i hi => by rcases i with _ | _ | _ | i <;> first | rfl | omega) (fun i hi => by rcases i with _ | _ | i <;> first | rfl | omega) (fun h => ⟨by decide, by first | exact absurd rfl h | rfl⟩) (by decide)
        · have hg : goesB e s l = true := by unfold goesB; rw [hrd, hs]; rfl
          rw [hg, hos] at hsucc
          have hos1 : a.outs s l (j + 1) = (if true = true then _ else _) := hsucc
          rw [if_pos rfl] at hsucc
          first
            | refine Gets.appendRow (es := 1) (b := 3) (r := []) (y := (j : Int)) (x := []) (ti := ⟨1, 8, false, [.int .i64 0]⟩) (d := .slice 3) (by kernel_rfl) (by kernel_rfl) rfl rfl rfl (by decide) (by decide) rfl rfl (fun h => absurd rfl h) ⟨0, rfl, by decide⟩ ?_
            | refine Gets.appendRow (es := 1) (b := 3) (r := x :: os) (y := (j : Int)) (x := []) (ti := ⟨1, 8, false, [.int .i64 0]⟩) (d := .slice 3) (by kernel_rfl) (by kernel_rfl) rfl rfl rfl (by decide) (by decide) rfl rfl (fun h => rfl) ⟨(x :: os).length, by omega, by omega⟩ ?_
          rintro H' (⟨h1, rfl⟩ | ⟨h1, rfl⟩)
          all_goals
            first
              | exact absurd rfl h1
              | (cases h1; done)
              | skip
          conv => whnf
          refine ⟨j + 1, rk [0, 1, 2] (fun _ => 6) 1 7, by omega, by omega, ⟨rfl, rfl, rfl, rfl, by rw [hsucc]; rfl, rfl, rfl, congrArg (AVal.int .i64) hw, trivial⟩, ?_⟩
          rw [hsucc]
          exact a.oneRow _ 6 rfl (by decide) (fun i hi => by rcases i with _ | _ | _ | i <;> first | rfl | omega) (fun i hi => by rcases i with _ | _ | i <;> first | rfl | omega) (fun h => ⟨by decide, rfl⟩) (by decide)
      · have hg : goesB e s l = false := by unfold goesB; rw [hs]; rfl
        rw [hg, hos] at hsucc
        refine ⟨j + 1, rk [0, 1, 2] (fun _ => 3) 1 5, by omega, by omega, ⟨rfl, rfl, rfl, rfl, by rw [hsucc]; rfl, rfl, rfl, congrArg (AVal.int .i64) hw, trivial⟩, ?_⟩
        rw [hsucc]
        exact a.oneRow _ 3 rfl (by decide) (fun i hi => by rcases i with _ | _ | _ | i <;> first | rfl | omega) (fun i hi => by rcases i with _ | _ | i <;> first | rfl | omega) (fun h => ⟨by decide, by first | exact absurd rfl h | rfl⟩) (by decide)
    · have hje : j = a.es.length := by simp at hc; omega
      subst hje
      rw [hos]
      first
        | refine ⟨renL [0, 1] 4, .nilSlice, a.heap, Emb.lits [0, 1] rfl rfl rfl rfl (.cons ⟨rfl, rfl, fun h => h⟩ (.cons ⟨rfl, rfl, fun h => h⟩ .nil)) (.cons ⟨rfl, .roI⟩ (.cons ⟨rfl, .roI⟩ .nil)), rfl, .inl ⟨rfl, rfl, rfl⟩⟩
        | refine ⟨renL [0, 1, 3] 4, .slice 2 0 (x :: os).length, a.heap.alloc (.cells 1 (ints (x :: os))), Emb.lits [0, 1, 3] rfl rfl rfl rfl (.cons ⟨rfl, rfl, fun h => h⟩ (.cons ⟨rfl, rfl, fun h => h⟩ .nil)) (.cons ⟨rfl, .roI⟩ (.cons ⟨rfl, .roI⟩ (.cons ⟨rfl, .cellsI⟩ .nil))), by simp [ren, rowV, renL], .inr ⟨by simp, rfl, rfl⟩⟩
end Go.Proofs.Ytdahmcgncpoliaa
