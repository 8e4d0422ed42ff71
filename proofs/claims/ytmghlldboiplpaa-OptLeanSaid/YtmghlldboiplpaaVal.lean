/- Valid, as the program and as the reference tell it. -/
import Derived.Test.YtmghlldboiplpaaCir
set_option linter.unusedVariables false
set_option linter.unusedSimpArgs false
set_option maxRecDepth 100000
set_option maxHeartbeats 1000000
namespace Go.Proofs.Ytmghlldboiplpaa
open Go Go.Vh Go.Vk Go.Proofs
def Cir.box (c : Cir) : ABlk := .cells 1 [.int .i64 c.inp, .view 0 0 c.latch.length, .view 1 0 c.gates.length, .view 2 0 c.out.length]
theorem Cir.heap3 (c : Cir) {n0 : Nat} (h : Nat.ble n0 4 = true) : True := trivial
theorem valid28 (c : Cir) (hf : c.Fits) : CallW Try.prog 28 [c.av 0 1 2] c.heap fun v _ => IsB v c.Ok := by
  obtain ⟨⟨a1, a2⟩, b1, b2, b3⟩ := hf
  refine CallW.symK (cuts := []) Try.func28 rfl (by kernel_rfl) ?_
  conv => whnf
  repeat' first | (refine Gets.of _ rfl ?_; conv => whnf) | (refine Fork.dec (fun _ => ?_) (fun _ => ?_) <;> first | (exfalso; omega) | (conv => whnf))
  iterate 5
    · exact .f fun h => by have := h.s; unfold Cir.Small at this; omega
  have hs : c.Small := ⟨by omega, by omega, by omega, by omega, by omega⟩
  refine CallS.of (by kernel_rfl) ((vars53 c hs).readsL (by rintro _ rfl; rfl) [0, 1, 2] rfl (.cons ⟨rfl, rfl, .roI⟩ (.cons ⟨rfl, rfl, .roI⟩ (.cons ⟨rfl, rfl, .roI⟩ .nil)))) rfl ?_
  rintro _ _ ⟨rfl, rfl⟩
  have hv : c.vars = c.inp + c.latch.length + c.gates.length := rfl
  conv => whnf
  repeat' first | ((with_reducible refine Gets.addI ?_ ?_ ?_); (· omega); (· omega); conv => whnf) | ((with_reducible refine Gets.mulI ?_ ?_ ?_); (· omega); (· omega); conv => whnf) | (refine Gets.of _ rfl ?_; conv => whnf)
  have hm : c.most = 2 * c.vars + 1 := rfl
  refine CallS.of (by kernel_rfl) (contains51 (f := 54) (by kernel_rfl) (fun x hx => bad54 c.most x _ 4 rfl) 0 rfl b1) rfl ?_
  rintro _ _ ⟨rfl, hp | hp⟩
  all_goals conv => whnf
  repeat' (refine Gets.of _ rfl ?_; conv => whnf)
  · exact .f fun h => by obtain ⟨x, hx, hn⟩ := hp; exact hn (h.l x hx)
  refine CallS.of (by kernel_rfl) (contains51 (f := 54) (by kernel_rfl) (fun x hx => bad54 c.most x _ 4 rfl) 2 rfl b3) rfl ?_
  rintro _ _ ⟨rfl, hq | hq⟩
  all_goals conv => whnf
  · exact .f fun h => by obtain ⟨x, hx, hn⟩ := hq; exact hn (h.o x hx)
  repeat' (refine Gets.of _ rfl ?_; conv => whnf)
  refine CodeS.loopGK (cuts := []) (σ := Nat) (fun j => [(1, .ptr 3 0), (50, .view 1 0 c.gates.length), (51, .int .i64 c.gates.length), (52, .int .i64 j)]) (fun _ => c.heap.alloc c.box) (fun j => j ≤ c.gates.length ∧ ∀ k, k < j → c.GateOk k) (fun j => c.gates.length - j) 0 (renL [0, 1, 2, 3] 5) (by kernel_rfl) ⟨Nat.zero_le _, fun k hk => by omega⟩ ⟨rfl, rfl, rfl, rfl, trivial⟩ (EmbL.litsN [0, 1, 2, 3] rfl rfl rfl rfl (.cons ⟨rfl, .inl ⟨rfl, fun h => h⟩⟩ (.cons ⟨rfl, .inl ⟨rfl, fun h => h⟩⟩ (.cons ⟨rfl, .inl ⟨rfl, fun h => h⟩⟩ .nil))) (.cons ⟨rfl, .roI⟩ (.cons ⟨rfl, .roI⟩ (.cons ⟨rfl, .roI⟩ (.cons ⟨rfl, .inl rfl⟩ .nil))))) ?_
  rintro j ⟨g1, g2⟩
  conv => whnf
  repeat' first | ((with_reducible refine Gets.addI ?_ ?_ ?_); (· omega); (· omega); conv => whnf) | ((with_reducible refine Gets.mulI ?_ ?_ ?_); (· omega); (· omega); conv => whnf) | (refine Gets.of _ rfl ?_; conv => whnf) | (refine Gets.ixEv (es := 2) rfl rfl (by omega) ?_; conv => whnf) | (refine Gets.ldP (ti := tiP) rfl rfl rfl (by first | rfl | assumption) (by first | omega | exact Nat.le_of_ble_eq_true rfl) ?_; conv => whnf) | (refine Fork.dec (fun _ => ?_) (fun _ => ?_) <;> first | (exfalso; omega) | (conv => whnf))
  iterate 4
    · refine .f fun h => ?_
      have hgo := h.g j (by omega)
      unfold Cir.GateOk inR Cir.own at hgo
      omega
  · refine ⟨j + 1, renL [0, 1, 2, 3] 5, ⟨by omega, fun k hk => ?_⟩, by omega, ⟨rfl, rfl, rfl, rfl, trivial⟩, EmbL.litsN [0, 1, 2, 3] rfl rfl rfl rfl (.cons ⟨rfl, .inl ⟨rfl, fun h => h⟩⟩ (.cons ⟨rfl, .inl ⟨rfl, fun h => h⟩⟩ (.cons ⟨rfl, .inl ⟨rfl, fun h => h⟩⟩ .nil))) (.cons ⟨rfl, .roI⟩ (.cons ⟨rfl, .roI⟩ (.cons ⟨rfl, .roI⟩ (.cons ⟨rfl, .inl rfl⟩ .nil))))⟩
    rcases Nat.lt_or_ge k j with h1 | h1
    · exact g2 k h1
    · obtain rfl : k = j := by omega
      unfold Cir.GateOk inR Cir.own
      omega
  · exact .t ⟨hs, fun x hx => Classical.byContradiction fun h => hp ⟨x, hx, h⟩, fun x hx => Classical.byContradiction fun h => hq ⟨x, hx, h⟩, fun k hk => g2 k (by omega)⟩
theorem roC (c : Cir) (H : AHeap) (hn : Nat.ble 3 H.n = true) (h0 : H.f 0 = .ro 1 (ints c.latch)) (h1 : H.f 1 = .ro 2 (ints (pflat c.gates))) (h2 : H.f 2 = .ro 1 (ints c.out)) :
    AllQ (fun i => Nat.blt (fk [0, 1, 2] H.n i) H.n = true ∧ (c.heap.f i).rwB = false ∧ BSub (fk [0, 1, 2] H.n) (c.heap.f i) (H.f (fk [0, 1, 2] H.n i))) 0 c.heap.n := by
  have hn := Nat.le_of_ble_eq_true hn
  refine .cons ⟨Nat.ble_eq_true_of_le (show 1 ≤ H.n by omega), rfl, ?_⟩ (.cons ⟨Nat.ble_eq_true_of_le (show 2 ≤ H.n by omega), rfl, ?_⟩ (.cons ⟨Nat.ble_eq_true_of_le (show 3 ≤ H.n by omega), rfl, ?_⟩ .nil))
  · show BSub _ _ (H.f 0); rw [h0]; exact .roI
  · show BSub _ _ (H.f 1); rw [h1]; exact .roI
  · show BSub _ _ (H.f 2); rw [h2]; exact .roI
theorem valid28c (c : Cir) (hf : c.Fits) (H : AHeap) (hn : Nat.ble 3 H.n = true) (h0 : H.f 0 = .ro 1 (ints c.latch)) (h1 : H.f 1 = .ro 2 (ints (pflat c.gates))) (h2 : H.f 2 = .ro 1 (ints c.out)) : CallW Try.prog 28 [c.av 0 1 2] H fun v H' => H' = H ∧ IsB v c.Ok :=
  (valid28 c hf).readsL IsB.noRef [0, 1, 2] rfl (roC c H hn h0 h1 h2)
/-! ### The reference's -/
theorem vars32 (c : Cir) (hs : c.Small) : CallW Try.prog 32 [c.av 0 1 2] c.heap fun v _ => v = .int .i64 c.vars := by
  obtain ⟨h1, h2, h3, h4, h5⟩ := hs
  refine CallW.symK (cuts := []) Try.func32 rfl (by kernel_rfl) ?_
  conv => whnf
  repeat' first | ((with_reducible refine Gets.addI ?_ ?_ ?_); (· omega); (· omega); conv => whnf) | (refine Gets.of _ rfl ?_; conv => whnf)
  rfl
theorem gate34 (c : Cir) (hs : c.Small) (k : Nat) (hk : k ≤ 1152921504606846976) : CallW Try.prog 34 [c.av 0 1 2, .int .i64 k] c.heap fun v _ => v = .int .i64 (c.inp + c.latch.length + k + 1) := by
  obtain ⟨h1, h2, h3, h4, h5⟩ := hs
  refine CallW.symK (cuts := []) Try.func34 rfl (by kernel_rfl) ?_
  conv => whnf
  repeat' first | ((with_reducible refine Gets.addI ?_ ?_ ?_); (· omega); (· omega); conv => whnf) | (refine Gets.of _ rfl ?_; conv => whnf)
theorem literals33 (l : List Int) (m : Int) (hl : l.length ≤ 1152921504606846976) (H : AHeap) (i : Nat) (hf : (H.f i).cs = ints l) : CallW Try.prog 33 [.view i 0 l.length, .int .i64 m] H fun v H' => H' = H ∧ IsB v (∀ x ∈ l, inR m x) := by
  refine CallW.symK (cuts := []) Try.func33 rfl (by kernel_rfl) ?_
  conv => whnf
  repeat' (refine Gets.of _ rfl ?_; conv => whnf)
  refine CodeS.loopSK (cuts := []) (σ := Nat) (fun j => [(1, .int .i64 m), (7, .view i 0 l.length), (8, .int .i64 l.length), (9, .int .i64 j)]) (fun _ => H) (fun j => j ≤ l.length ∧ ∀ k, k < j → inR m (l.getD k 0)) (fun j => l.length - j) 0 (by kernel_rfl) ⟨Nat.zero_le _, fun k hk => by omega⟩ ⟨rfl, rfl, rfl, rfl, trivial⟩ rfl ?_
  rintro j ⟨g1, g2⟩
  conv => whnf
  repeat' first | ((with_reducible refine Gets.addI ?_ ?_ ?_); (· omega); (· omega); conv => whnf) | (refine Gets.ix1v rfl rfl (by omega) ?_; conv => whnf) | (refine Gets.ldI rfl (by first | rfl | assumption) (by first | omega | exact Nat.le_of_ble_eq_true rfl) ?_; conv => whnf) | (refine Fork.dec (fun _ => ?_) (fun _ => ?_) <;> first | (exfalso; omega) | (conv => whnf))
  · exact ⟨rfl, .f fun h => by have := (h _ (getD_memL (j := j) (d := 0) (by omega))).1; omega⟩
  · exact ⟨rfl, .f fun h => by have := (h _ (getD_memL (j := j) (d := 0) (by omega))).2; omega⟩
  · exact ⟨j + 1, ⟨by omega, lt_succ_all g2 ⟨by omega, by omega⟩⟩, by omega, ⟨rfl, rfl, rfl, rfl, trivial⟩, rfl⟩
  · exact ⟨rfl, .t (all_getD.2 fun k hk => g2 k (by omega))⟩
theorem valid13 (c : Cir) (hf : c.Fits) : CallW Try.prog 13 [c.av 0 1 2] c.heap fun v _ => IsB v c.Ok := by
  obtain ⟨⟨a1, a2⟩, b1, b2, b3⟩ := hf
  refine CallW.symK (cuts := []) Try.func13 rfl (by kernel_rfl) ?_
  conv => whnf
  repeat' first | (refine Gets.of _ rfl ?_; conv => whnf) | (refine Fork.dec (fun _ => ?_) (fun _ => ?_) <;> first | (exfalso; omega) | (conv => whnf))
  iterate 5
    · exact .f fun h => by have := h.s; unfold Cir.Small at this; omega
  have hs : c.Small := ⟨by omega, by omega, by omega, by omega, by omega⟩
  refine CallS.of (by kernel_rfl) ((vars32 c hs).readsL (by rintro _ rfl; rfl) [0, 1, 2] rfl (roC c _ rfl rfl rfl rfl)) rfl ?_
  rintro _ _ ⟨rfl, rfl⟩
  have hv : c.vars = c.inp + c.latch.length + c.gates.length := rfl
  have hm : c.most = 2 * c.vars + 1 := rfl
  conv => whnf
  repeat' first | ((with_reducible refine Gets.addI ?_ ?_ ?_); (· omega); (· omega); conv => whnf) | ((with_reducible refine Gets.mulI ?_ ?_ ?_); (· omega); (· omega); conv => whnf) | (refine Gets.of _ rfl ?_; conv => whnf)
  refine CodeS.loopGK (cuts := []) (σ := Nat) (fun j => [(1, .ptr 3 0), (3, .int .i64 c.most), (37, .view 1 0 c.gates.length), (38, .int .i64 c.gates.length), (39, .int .i64 j)]) (fun _ => c.heap.alloc c.box) (fun j => j ≤ c.gates.length ∧ ∀ k, k < j → c.GateOk k) (fun j => c.gates.length - j) 0 (renL [0, 1, 2, 3] 4) (by kernel_rfl) ⟨Nat.zero_le _, fun k hk => by omega⟩ ⟨rfl, rfl, rfl, rfl, rfl, trivial⟩ (EmbL.litsN [0, 1, 2, 3] rfl rfl rfl rfl (.cons ⟨rfl, .inl ⟨rfl, fun h => h⟩⟩ (.cons ⟨rfl, .inl ⟨rfl, fun h => h⟩⟩ (.cons ⟨rfl, .inl ⟨rfl, fun h => h⟩⟩ .nil))) (.cons ⟨rfl, .roI⟩ (.cons ⟨rfl, .roI⟩ (.cons ⟨rfl, .roI⟩ (.cons ⟨rfl, .inl rfl⟩ .nil))))) ?_
  rintro j ⟨g1, g2⟩
  conv => whnf
  repeat' first | (refine Gets.of _ rfl ?_; conv => whnf) | (refine Gets.ixEv (es := 2) rfl rfl (by omega) ?_; conv => whnf) | (refine Gets.ldP (ti := tiP) rfl rfl rfl (by first | rfl | assumption) (by first | omega | exact Nat.le_of_ble_eq_true rfl) ?_; conv => whnf) | (refine Fork.dec (fun _ => ?_) (fun _ => ?_) <;> first | (exfalso; omega) | (conv => whnf))
  · refine CodeS.drawT [3, 4] (.take 0 (.take 1 (.take 2 (.take 3 (.take 5 (.take 6 (.two (.one 4 true (.one 7 true (.take 8 (.take 9 (.one 10 true (.take 11 .done)))))) (.one 7 true (.take 8 (.take 9 (.one 4 true (.one 10 true (.take 11 .done))))))))))))) mixed (by kernel_rfl) (.cons ⟨rfl, trivial⟩ (.cons ⟨rfl, trivial⟩ .nil)) ?_
    conv => whnf
    repeat' first | (refine Gets.of _ rfl ?_; conv => whnf) | (refine Chk.mk (by repeat first | exact .nil | refine .cons rfl ?_) ?_; conv => whnf) | (refine Alls.mk ?_ ?_ <;> conv => whnf)
    all_goals
      refine CallPS.of (by kernel_rfl) ((gate34 c hs j (by omega)).readsL (by rintro _ rfl; rfl) [0, 1, 2] rfl (roC c _ rfl rfl rfl rfl)) rfl ?_
      rintro _ _ ⟨rfl, rfl⟩
      conv => whnf
      repeat' first | ((with_reducible refine Gets.subI ?_ ?_ ?_); (· omega); (· omega); conv => whnf) | ((with_reducible refine Gets.mulI ?_ ?_ ?_); (· omega); (· omega); conv => whnf) | (refine Chk.mk (by repeat first | exact .nil | refine .cons rfl ?_) ?_; conv => whnf)
      refine CallPS.of (by kernel_rfl) (CallW.sv (literals33 [(c.gates.getD j (0, 0)).1, (c.gates.getD j (0, 0)).2] (2 * (c.inp + c.latch.length + j + 1) - 1) (by simp) _ 5 rfl)) rfl ?_
      rintro _ _ ⟨rfl, hp | hp⟩
      all_goals conv => whnf
      all_goals
        repeat' first | ((with_reducible refine Gets.addI ?_ ?_ ?_); (· omega); (· omega); conv => whnf) | (refine Chk.mk (by repeat first | exact .nil | refine .cons rfl ?_) ?_; conv => whnf)
      · simp only [List.mem_cons, List.not_mem_nil, or_false, forall_eq_or_imp, forall_eq] at hp
        refine ⟨j + 1, renL [0, 1, 2, 3] 6, ⟨by omega, lt_succ_all g2 ?_⟩, by omega, ⟨rfl, rfl, rfl, rfl, rfl, trivial⟩, EmbL.litsN [0, 1, 2, 3] rfl rfl rfl rfl (.cons ⟨rfl, .inl ⟨rfl, fun h => h⟩⟩ (.cons ⟨rfl, .inl ⟨rfl, fun h => h⟩⟩ (.cons ⟨rfl, .inl ⟨rfl, fun h => h⟩⟩ .nil))) (.cons ⟨rfl, .roI⟩ (.cons ⟨rfl, .roI⟩ (.cons ⟨rfl, .roI⟩ (.cons ⟨rfl, .inl rfl⟩ .nil))))⟩
        have hj : c.own j - 1 = 2 * (c.inp + c.latch.length + j + 1) - 1 := by unfold Cir.own; omega
        unfold Cir.GateOk
        rw [hj]
        exact hp
      · refine .f fun h => hp fun x hx => ?_
        have hj : c.own j - 1 = 2 * (c.inp + c.latch.length + j + 1) - 1 := by unfold Cir.own; omega
        have := h.g j (by omega)
        unfold Cir.GateOk at this
        rw [hj] at this
        simp only [List.mem_cons, List.not_mem_nil, or_false] at hx
        rcases hx with rfl | rfl
        · exact this.1
        · exact this.2
  · refine CallS.of (by kernel_rfl) (literals33 c.latch c.most b1 _ 0 rfl) rfl ?_
    rintro _ _ ⟨rfl, hp | hp⟩
    all_goals conv => whnf
    all_goals
      repeat' (refine Gets.of _ rfl ?_; conv => whnf)
    · refine CallS.of (by kernel_rfl) (literals33 c.out c.most b3 _ 2 rfl) rfl ?_
      rintro _ _ ⟨rfl, hq | hq⟩
      all_goals conv => whnf
      all_goals
        skip
      · exact .t ⟨hs, hp, hq, fun k hk => g2 k (by omega)⟩
      · exact .f fun h => hq h.o
    · exact .f fun h => hp h.l
theorem valid13c (c : Cir) (hf : c.Fits) (H : AHeap) (hn : Nat.ble 3 H.n = true) (h0 : H.f 0 = .ro 1 (ints c.latch)) (h1 : H.f 1 = .ro 2 (ints (pflat c.gates))) (h2 : H.f 2 = .ro 1 (ints c.out)) : CallW Try.prog 13 [c.av 0 1 2] H fun v H' => H' = H ∧ IsB v c.Ok :=
  (valid13 c hf).readsL IsB.noRef [0, 1, 2] rfl (roC c H hn h0 h1 h2)
end Go.Proofs.Ytmghlldboiplpaa
