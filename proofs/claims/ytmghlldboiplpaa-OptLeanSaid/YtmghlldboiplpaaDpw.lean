/- opt.dropped: a circuit without the gates that are not used. -/
import Derived.Test.YtmghlldboiplpaaUsw
import Derived.Test.YtmghlldboiplpaaMkw
import Derived.Test.YtmghlldboiplpaaVkG
set_option linter.unusedVariables false
set_option linter.unusedSimpArgs false
set_option maxRecDepth 100000
set_option maxHeartbeats 1000000
namespace Go.Proofs.Ytmghlldboiplpaa
open Go Go.Vh Go.Vk Go.Proofs
/-- A circuit that a program has made: rows that may be nil. -/
def Cir.avO (c : Cir) (i j k : Nat) : AVal := .agg [.int .i64 c.inp, oI i c.latch, oP j c.gates, oI k c.out]
def Cir.dof (c : Cir) (k : Nat) : List Nat := (List.range (c.nv + k)).map fun v => 2 * c.reV v
theorem dof_length (c : Cir) (k : Nat) : (c.dof k).length = c.nv + k := by simp [Cir.dof]
theorem dof_succ (c : Cir) (k : Nat) : c.dof (k + 1) = c.dof k ++ [2 * c.reV (c.nv + k)] := by
  unfold Cir.dof
  rw [← Nat.add_assoc, List.range_succ, List.map_append]
  rfl
theorem reV_le (c : Cir) (v : Nat) : c.reV v ≤ c.nv + v := by
  unfold Cir.reV
  have := pk_le c.isU (v - c.nv)
  split
  · omega
  · split <;> omega
theorem dof_lt {c : Cir} {k : Nat} (h : c.nv + k ≤ 4294967296) : ∀ x ∈ c.dof k, x < 4611686018427387904 := by
  intro x hx
  obtain ⟨v, hv, rfl⟩ := List.mem_map.1 hx
  have := reV_le c v
  have := List.mem_range.1 hv
  omega
theorem dof_lit {c : Cir} {k : Nat} {l : Int} (h0 : 0 ≤ l) (h : (l / 2).toNat < c.nv + k) : ((litN (c.dof k) l : Nat) : Int) = c.reL l := by
  unfold litN Cir.reL Cir.dof
  rw [List.getD_eq_getElem?_getD, List.getElem?_map, List.getElem?_range h]
  show ((2 * c.reV (l / 2).toNat ^^^ (l % 2).toNat : Nat) : Int) = _
  rcases (show (l % 2).toNat = 0 ∨ (l % 2).toNat = 1 by omega) with h | h
  · rw [h, Nat.xor_zero]; omega
  · rw [h, xor_one, if_pos (by omega)]; omega
def Cir.dgs (c : Cir) (k : Nat) : List (Int × Int) := kept c.isU (fun k => (c.reL (c.gates.getD k (0, 0)).1, c.reL (c.gates.getD k (0, 0)).2)) k
theorem dgs_length (c : Cir) (k : Nat) : (c.dgs k).length = pk c.isU k := kept_length _ _ _
def dropH (c : Cir) (of : List Nat) (n : Nat) (ls : List Int) (gs : List (Int × Int)) (os : List Int) : AHeap := ⟨12, fun i => match i with
  | 3 => c.box
  | 4 => .cells 1 [.int .i64 0, .nilSlice, .nilSlice, .nilSlice]
  | 5 => .cells 1 (bls c.usedL)
  | 6 => .cells 1 (nats of)
  | 7 => .cells 1 [.slice 6 0 n]
  | 8 => .cells 1 [.int .i64 c.inp, oI 10 ls, oP 9 gs, oI 11 os]
  | 9 => oPB gs
  | 10 => oIB ls
  | 11 => oIB os
  | i => c.heap.f i, fun _ => 0⟩
def dropH0 (c : Cir) (j : Nat) : AHeap := ⟨8, fun i => match i with
  | 6 => .cells 1 (nats (upTo (fun v => 2 * v) c.nv j))
  | 7 => .cells 1 [.slice 6 0 c.nv]
  | i => (dropH c [] 0 [] [] []).f i, fun _ => 0⟩
theorem dof_zero (c : Cir) : upTo (fun v => 2 * v) c.nv c.nv = c.dof 0 := by
  rw [upTo_all]
  unfold Cir.dof
  refine List.map_congr_left fun v hv => ?_
  rw [Cir.reV, if_pos (List.mem_range.1 hv)]
theorem dropped58 (c : Cir) (hf : c.Fits) (ho : c.Ok) (hn : c.Norm) : CallW Try.prog 58 [c.av 0 1 2] c.heap fun v H' => v = c.drop.avO 3 4 5 ∧ H' = ((c.heap.alloc (oIB c.drop.latch)).alloc (oPB c.drop.gates)).alloc (oIB c.drop.out) := by
  obtain ⟨a1, a2, a3, a4, a5⟩ := ho.s
  have hnv : (c.nv : Int) = c.inp + c.latch.length + 1 := by unfold Cir.nv; omega
  have hul : c.usedL.length = c.gates.length := sweep_length c _
  refine CallW.symRK (cuts := []) Try.func58 rfl (by kernel_rfl) ?_
  conv => whnf
  repeat' (refine Gets.of _ rfl ?_; conv => whnf)
  refine CallS.of (by kernel_rfl) ((used55 c hf ho).frameQ [0, 1, 2] rfl (.cons ⟨rfl, .roI⟩ (.cons ⟨rfl, .roI⟩ (.cons ⟨rfl, .roI⟩ .nil))) (by rintro _ _ ⟨rfl, rfl⟩; repeat first | exact .nil | refine .cons (by first | exact .inr rfl | exact .inl rfl | exact .inr (fresh_oN _) | exact .inr (fresh_oP _) | exact .inr (fresh_oI _)) ?_)) rfl ?_
  rintro _ _ ⟨_, _, ⟨rfl, rfl⟩, rfl, rfl⟩
  conv => whnf
  repeat' first | ((refine Gets.makeNat (ti := tiI) rfl rfl rfl (by decide) (by omega) (by omega) ?_); conv => whnf) | ((with_reducible refine Gets.addI ?_ ?_ ?_); (· omega); (· omega); conv => whnf) | (refine Gets.of _ rfl ?_; conv => whnf)
  rw [← hnv]
  refine CodeS.loopGK (cuts := []) (σ := Nat) (fun j => [(1, .ptr 3 0), (2, .ptr 4 0), (3, .slice 5 0 c.gates.length), (5, .int .i64 (c.inp + c.latch.length)), (6, .ptr 7 0), (33, .int .i64 c.nv), (34, .int .i64 j)]) (dropH0 c) (fun j => j ≤ c.nv) (fun j => c.nv - j) 0 (renL [0, 1, 2, 3, 4, 5, 6, 7] 8) (by kernel_rfl) (Nat.zero_le _) ⟨rfl, rfl, rfl, rfl, rfl, rfl, rfl, trivial⟩ (EmbL.litsN [0, 1, 2, 3, 4, 5, 6, 7] rfl rfl rfl rfl (.cons ⟨rfl, .inl ⟨rfl, fun h => h⟩⟩ (.cons ⟨rfl, .inl ⟨rfl, fun h => h⟩⟩ (.cons ⟨rfl, .inl ⟨rfl, fun h => h⟩⟩ .nil))) (.cons ⟨rfl, .roI⟩ (.cons ⟨rfl, .roI⟩ (.cons ⟨rfl, .roI⟩ (.cons ⟨rfl, .inl rfl⟩ (.cons ⟨rfl, .inl rfl⟩ (.cons ⟨rfl, .cellsBr⟩ (.cons ⟨rfl, .cellsN (upTo_zero _ _).symm⟩ (.cons ⟨rfl, .inl rfl⟩ .nil))))))))) ?_
  intro j g1
  have hset := upTo_set (fun v => 2 * v) c.nv j
  have hupl := upTo_length (fun v => 2 * v) c.nv j
  conv => whnf
  repeat' first | ((refine Gets.stNat (l := upTo (fun v => 2 * v) c.nv j) (x := 2 * j) rfl rfl (by rw [hupl]; omega) ?_); conv => whnf) | ((with_reducible refine Gets.addI ?_ ?_ ?_); (· omega); (· omega); conv => whnf) | ((with_reducible refine Gets.mulI ?_ ?_ ?_); (· omega); (· omega); conv => whnf) | (refine Gets.of _ rfl ?_; conv => whnf) | (refine Gets.ix1 rfl rfl (by omega) ?_; conv => whnf) | (refine Fork.dec (fun _ => ?_) (fun _ => ?_) <;> first | (exfalso; omega) | (conv => whnf))
  · refine ⟨j + 1, renL [0, 1, 2, 3, 4, 5, 6, 7] 8, by omega, by omega, ⟨rfl, rfl, rfl, rfl, rfl, rfl, rfl, trivial⟩, ?_⟩
    exact EmbL.litsN [0, 1, 2, 3, 4, 5, 6, 7] rfl rfl rfl rfl (.cons ⟨rfl, .inl ⟨rfl, fun h => h⟩⟩ (.cons ⟨rfl, .inl ⟨rfl, fun h => h⟩⟩ (.cons ⟨rfl, .inl ⟨rfl, fun h => h⟩⟩ .nil))) (.cons ⟨rfl, .roI⟩ (.cons ⟨rfl, .roI⟩ (.cons ⟨rfl, .roI⟩ (.cons ⟨rfl, .inl rfl⟩ (.cons ⟨rfl, .inl rfl⟩ (.cons ⟨rfl, .cellsB⟩ (.cons ⟨rfl, .cellsN hset.symm⟩ (.cons ⟨rfl, .inl rfl⟩ .nil))))))))
  obtain rfl : j = c.nv := by omega
  refine CodeS.loopGK (cuts := []) (σ := Nat) (fun k => [(1, .ptr 3 0), (2, .ptr 4 0), (3, .slice 5 0 c.gates.length), (5, .int .i64 (c.inp + c.latch.length)), (6, .ptr 7 0), (8, .ptr 8 0), (9, .func 75 [] [.ptr 7 0]), (48, .view 1 0 c.gates.length), (49, .int .i64 c.gates.length), (50, .int .i64 k)]) (fun k => dropH c (c.dof k) (c.nv + k) [] (c.dgs k) []) (fun k => k ≤ c.gates.length) (fun k => c.gates.length - k) 0 (renL [0, 1, 2, 3, 4, 5, 6, 7, 8, 0, 0, 0] 9) (by kernel_rfl) (Nat.zero_le _) ⟨rfl, rfl, rfl, rfl, rfl, rfl, rfl, rfl, rfl, rfl, trivial⟩ (EmbL.lits [0, 1, 2, 3, 4, 5, 6, 7, 8, 0, 0, 0] rfl rfl rfl rfl (.cons ⟨rfl, .inl ⟨rfl, fun h => h⟩⟩ (.cons ⟨rfl, .inl ⟨rfl, fun h => h⟩⟩ (.cons ⟨rfl, .inl ⟨rfl, fun h => h⟩⟩ .nil))) (.cons ⟨rfl, .roI⟩ (.cons ⟨rfl, .roI⟩ (.cons ⟨rfl, .roI⟩ (.cons ⟨rfl, .inl rfl⟩ (.cons ⟨rfl, .inl rfl⟩ (.cons ⟨rfl, .cellsB⟩ (.cons ⟨rfl, .cellsN (dof_zero c).symm⟩ (.cons ⟨rfl, .inl rfl⟩ (.cons ⟨rfl, .inl rfl⟩ (.cons ⟨rfl, .gone⟩ (.cons ⟨rfl, .gone⟩ (.cons ⟨rfl, .gone⟩ .nil))))))))))))) ?_
  intro k g2
  have hdl := dof_length c k
  have hds := dof_succ c k
  have hgl := dgs_length c k
  have hpk := pk_le c.isU k
  rcases Nat.lt_or_ge k c.gates.length with hk | hk
  · have hgo := ho.g k hk
    unfold Cir.GateOk inR Cir.own at hgo
    have hke : c.dgs (k + 1) = if c.isU k = true then c.dgs k ++ [(c.reL (c.gates.getD k (0, 0)).1, c.reL (c.gates.getD k (0, 0)).2)] else c.dgs k := rfl
    have hre : c.reV (c.nv + k) = if c.isU k = true then c.nv + pk c.isU k else 0 := by
      rw [Cir.reV, if_neg (by omega), Nat.add_sub_cancel_left]
    conv => whnf
    repeat' first | (refine Gets.of _ rfl ?_; conv => whnf) | (refine Gets.ix1 rfl rfl (by omega) ?_; conv => whnf) | (refine Gets.ixEv (es := 2) rfl rfl (by omega) ?_; conv => whnf) | (refine Gets.ldP (ti := tiP) rfl rfl rfl (by first | rfl | assumption) (by first | omega | exact Nat.le_of_ble_eq_true rfl) ?_; conv => whnf) | (refine Gets.ldB rfl (by first | rfl | assumption) (by first | omega | exact Nat.le_of_ble_eq_true rfl) ?_; conv => whnf) | (refine Fork.dec (fun _ => ?_) (fun _ => ?_) <;> first | (exfalso; omega) | (conv => whnf))
    cases hub : c.isU k
    · rw [hub, if_neg (by simp)] at hre hke
      rw [hre] at hds
      unfold Cir.isU at hub
      rw [hub]
      conv => whnf
      repeat' first | ((refine Gets.appNat (l := c.dof k) (x := 0) rfl rfl rfl rfl rfl (by decide) rfl rfl hdl.symm (by omega) ?_); conv => whnf) | ((with_reducible refine Gets.addI ?_ ?_ ?_); (· omega); (· omega); conv => whnf) | (refine Gets.of _ rfl ?_; conv => whnf)
      refine ⟨k + 1, renL [0, 1, 2, 3, 4, 5, 14, 7, 8, 9, 10, 11] 15, by omega, by omega, ⟨rfl, rfl, rfl, rfl, rfl, rfl, rfl, rfl, rfl, rfl, trivial⟩, ?_⟩
      rw [hds, hke]
      exact EmbL.litsN [0, 1, 2, 3, 4, 5, 14, 7, 8, 9, 10, 11] rfl rfl rfl rfl (.cons ⟨rfl, .inl ⟨rfl, fun h => h⟩⟩ (.cons ⟨rfl, .inl ⟨rfl, fun h => h⟩⟩ (.cons ⟨rfl, .inl ⟨rfl, fun h => h⟩⟩ .nil))) (.cons ⟨rfl, .roI⟩ (.cons ⟨rfl, .roI⟩ (.cons ⟨rfl, .roI⟩ (.cons ⟨rfl, .inl rfl⟩ (.cons ⟨rfl, .inl rfl⟩ (.cons ⟨rfl, .cellsB⟩ (.cons ⟨rfl, .cellsN rfl⟩ (.cons ⟨rfl, .inl rfl⟩ (.cons ⟨rfl, .strP⟩ (.cons ⟨rfl, .oP⟩ (.cons ⟨rfl, .gone⟩ (.cons ⟨rfl, .gone⟩ .nil))))))))))))
    · rw [hub, if_pos rfl] at hre hke
      rw [hre] at hds
      have hg1 := (good_gate ho hk hub (.inl rfl)).1
      have hg2 := (good_gate ho hk hub (.inr rfl)).1
      have hlt := reL_lt hg1 hg2 (hn.1 k hk).2.1
      unfold Cir.isU at hub
      rw [hub]
      conv => whnf
      skip
      have hla := dof_lit (c := c) (k := k) hgo.1.1 (by omega)
      have hlb := dof_lit (c := c) (k := k) hgo.2.1 (by omega)
      have h32 : c.nv + k ≤ 4294967296 := by omega
      generalize (c.gates.getD k (0, 0)).1 = ga at *
      generalize (c.gates.getD k (0, 0)).2 = gb at *
      obtain ⟨a, rfl⟩ := Int.eq_ofNat_of_zero_le hgo.1.1
      obtain ⟨b, rfl⟩ := Int.eq_ofNat_of_zero_le hgo.2.1
      refine CodeS.drawT [12] (.take 0 (.take 1 (.take 2 (.take 4 (.take 5 (.take 6 (.one 3 true (.one 7 true (.take 8 (.take 9 .done)))))))))) mixed (by kernel_rfl) (.cons ⟨rfl, trivial⟩ .nil) ?_
      conv => whnf
      repeat' (refine Gets.of _ rfl ?_; conv => whnf)
      refine CallPS.of (by kernel_rfl) (lit75 (c.dof k) (c.nv + k) hdl a (by omega) (dof_lt h32) (by omega) _ 7 6 rfl rfl) rfl ?_
      rintro _ _ ⟨rfl, rfl⟩
      conv => whnf
      repeat' (refine Chk.mk (by repeat first | exact .nil | refine .cons rfl ?_) ?_; conv => whnf)
      refine CallPS.of (by kernel_rfl) (lit75 (c.dof k) (c.nv + k) hdl b (by omega) (dof_lt h32) (by omega) _ 7 6 rfl rfl) rfl ?_
      rintro _ _ ⟨rfl, rfl⟩
      rw [← hla, ← hlb] at hke
      rw [← hla, ← hlb] at hlt
      generalize litN (c.dof k) (a : Int) = x at *
      generalize litN (c.dof k) (b : Int) = y at *
      have hxy : x ≤ y := by omega
      generalize hgs : c.dgs k = gs at *
      rcases gs with _ | ⟨g, gs⟩
      all_goals conv => whnf
      · simp only [List.length_nil] at hgl
        repeat' first | ((refine Gets.minL hxy ?_); conv => whnf) | ((refine Gets.maxR hxy ?_); conv => whnf) | ((refine Gets.mulE (c := ((2 * (c.nv + pk c.isU k) : Nat) : Int)) (by omega) (by omega) (by omega) ?_); conv => whnf) | ((refine Gets.appNat (l := c.dof k) (x := 2 * (c.nv + pk c.isU k)) rfl rfl rfl rfl rfl (by decide) rfl rfl hdl.symm (by omega) ?_); conv => whnf) | ((with_reducible refine Gets.addI ?_ ?_ ?_); (· omega); (· omega); conv => whnf) | (refine Gets.of _ rfl ?_; conv => whnf) | (refine Chk.mk (by repeat first | exact .nil | refine .cons rfl ?_) ?_; conv => whnf)
        refine ⟨k + 1, renL [0, 1, 2, 3, 4, 5, 16, 7, 8, 14, 10, 11] 17, by omega, by omega, ⟨rfl, rfl, rfl, rfl, rfl, rfl, rfl, rfl, rfl, rfl, trivial⟩, ?_⟩
        rw [hds, hke]
        exact EmbL.litsN [0, 1, 2, 3, 4, 5, 16, 7, 8, 14, 10, 11] rfl rfl rfl rfl (.cons ⟨rfl, .inl ⟨rfl, fun h => h⟩⟩ (.cons ⟨rfl, .inl ⟨rfl, fun h => h⟩⟩ (.cons ⟨rfl, .inl ⟨rfl, fun h => h⟩⟩ .nil))) (.cons ⟨rfl, .roI⟩ (.cons ⟨rfl, .roI⟩ (.cons ⟨rfl, .roI⟩ (.cons ⟨rfl, .inl rfl⟩ (.cons ⟨rfl, .inl rfl⟩ (.cons ⟨rfl, .cellsB⟩ (.cons ⟨rfl, .cellsN rfl⟩ (.cons ⟨rfl, .inl rfl⟩ (.cons ⟨rfl, .inl rfl⟩ (.cons ⟨rfl, .cellsI⟩ (.cons ⟨rfl, .gone⟩ (.cons ⟨rfl, .gone⟩ .nil))))))))))))
      · have hlen : (g :: gs ++ [((x : Int), (y : Int))]).length = gs.length + 1 + 1 := by simp
        repeat' first | ((refine Gets.minL hxy ?_); conv => whnf) | ((refine Gets.maxR hxy ?_); conv => whnf) | ((refine Gets.appP1 (ti := tiP) (l := g :: gs) (x := (x : Int)) (y := (y : Int)) rfl rfl rfl rfl rfl (by decide) rfl rfl rfl (by omega) ?_); conv => whnf) | ((refine Gets.mulE (c := ((2 * (c.nv + pk c.isU k) : Nat) : Int)) (by omega) (by omega) (by omega) ?_); conv => whnf) | ((refine Gets.appNat (l := c.dof k) (x := 2 * (c.nv + pk c.isU k)) rfl rfl rfl rfl rfl (by decide) rfl rfl hdl.symm (by omega) ?_); conv => whnf) | ((with_reducible refine Gets.addI ?_ ?_ ?_); (· omega); (· omega); conv => whnf) | (refine Gets.of _ rfl ?_; conv => whnf) | (refine Chk.mk (by repeat first | exact .nil | refine .cons rfl ?_) ?_; conv => whnf)
        refine ⟨k + 1, renL [0, 1, 2, 3, 4, 5, 16, 7, 8, 14, 10, 11] 17, by omega, by omega, ⟨rfl, rfl, rfl, rfl, rfl, rfl, rfl, rfl, rfl, rfl, trivial⟩, ?_⟩
        rw [hds, hke]
        exact EmbL.litsN [0, 1, 2, 3, 4, 5, 16, 7, 8, 14, 10, 11] rfl rfl rfl rfl (.cons ⟨rfl, .inl ⟨rfl, fun h => h⟩⟩ (.cons ⟨rfl, .inl ⟨rfl, fun h => h⟩⟩ (.cons ⟨rfl, .inl ⟨rfl, fun h => h⟩⟩ .nil))) (.cons ⟨rfl, .roI⟩ (.cons ⟨rfl, .roI⟩ (.cons ⟨rfl, .roI⟩ (.cons ⟨rfl, .inl rfl⟩ (.cons ⟨rfl, .inl rfl⟩ (.cons ⟨rfl, .cellsB⟩ (.cons ⟨rfl, .cellsN rfl⟩ (.cons ⟨rfl, .inl rfl⟩ (.cons ⟨rfl, .inl (congrArg (fun n => ABlk.cells 1 [.int .i64 c.inp, .nilSlice, .slice 14 0 n, .nilSlice]) hlen.symm)⟩ (.cons ⟨rfl, .cellsI⟩ (.cons ⟨rfl, .gone⟩ (.cons ⟨rfl, .gone⟩ .nil))))))))))))
  · obtain rfl : k = c.gates.length := by omega
    have h32 : c.nv + c.gates.length ≤ 4294967296 := by omega
    have hlt := dof_lt h32
    have hroot : ∀ l ∈ c.latch ++ c.out, 0 ≤ l ∧ (l / 2).toNat < c.nv + c.gates.length := fun l hl => ⟨(good_root ho hl).1, by
      rcases (good_root ho hl).2 with a | ⟨k, k1, k2, _⟩ <;> omega⟩
    have e1 : c.drop.latch = c.latch.map c.reL := rfl
    have e2 : c.drop.out = c.out.map c.reL := rfl
    have e3 : c.drop.gates = c.dgs c.gates.length := rfl
    unfold Cir.avO
    rw [e1, e2, e3]
    conv => whnf
    repeat' first | (refine Gets.of _ rfl ?_; conv => whnf) | (refine Fork.dec (fun _ => ?_) (fun _ => ?_) <;> first | (exfalso; omega) | (conv => whnf))
    refine CodeS.loopGK (cuts := []) (σ := Nat) (fun j => [(1, .ptr 3 0), (2, .ptr 4 0), (8, .ptr 8 0), (9, .func 75 [] [.ptr 7 0]), (94, .view 0 0 c.latch.length), (95, .int .i64 c.latch.length), (96, .int .i64 j)]) (fun j => dropH c (c.dof c.gates.length) (c.nv + c.gates.length) ((c.latch.map c.reL).take j) (c.dgs c.gates.length) []) (fun j => j ≤ c.latch.length) (fun j => c.latch.length - j) 0 (renL [0, 1, 2, 3, 4, 5, 6, 7, 8, 9, 10, 11] 12) (by kernel_rfl) (Nat.zero_le _) ⟨rfl, rfl, rfl, rfl, rfl, rfl, rfl, trivial⟩ (EmbL.litsN [0, 1, 2, 3, 4, 5, 6, 7, 8, 9, 10, 11] rfl rfl rfl rfl (.cons ⟨rfl, .inl ⟨rfl, fun h => h⟩⟩ (.cons ⟨rfl, .inl ⟨rfl, fun h => h⟩⟩ (.cons ⟨rfl, .inl ⟨rfl, fun h => h⟩⟩ .nil))) (.cons ⟨rfl, .roI⟩ (.cons ⟨rfl, .roI⟩ (.cons ⟨rfl, .roI⟩ (.cons ⟨rfl, .inl rfl⟩ (.cons ⟨rfl, .inl rfl⟩ (.cons ⟨rfl, .cellsB⟩ (.cons ⟨rfl, .cellsN rfl⟩ (.cons ⟨rfl, .inl rfl⟩ (.cons ⟨rfl, .strO (l := []) (o := []) (i' := 10) (k' := 11) rfl rfl rfl⟩ (.cons ⟨rfl, .oP⟩ (.cons ⟨rfl, .gone⟩ (.cons ⟨rfl, .gone⟩ .nil))))))))))))) ?_
    intro j g3
    rcases Nat.lt_or_ge j c.latch.length with hj | hj
    · have hmem := hroot _ (List.mem_append_left _ (getD_memL (d := 0) hj))
      have hla := dof_lit (c := c) (k := c.gates.length) hmem.1 hmem.2
      have htk : (c.latch.map c.reL).take (j + 1) = (c.latch.map c.reL).take j ++ [c.reL (c.latch.getD j 0)] := by
        rw [take_succ_getD _ _ 0 (by rw [List.length_map]; exact hj), getD_map c.reL c.latch 0 0 hj]
      have htl : ((c.latch.map c.reL).take j).length = j := by rw [List.length_take, List.length_map]; omega
      generalize hls : (c.latch.map c.reL).take j = ls at *
      conv => whnf
      repeat' first | (refine Gets.ix1v rfl rfl (by omega) ?_; conv => whnf) | (refine Gets.ldI rfl (by first | rfl | assumption) (by first | omega | exact Nat.le_of_ble_eq_true rfl) ?_; conv => whnf) | (refine Fork.dec (fun _ => ?_) (fun _ => ?_) <;> first | (exfalso; omega) | (conv => whnf))
      have hmx : inR c.most (c.latch.getD j 0) := ho.l _ (getD_memL hj)
      unfold inR Cir.most Cir.vars at hmx
      generalize c.latch.getD j 0 = la at *
      obtain ⟨a, rfl⟩ := Int.eq_ofNat_of_zero_le hmem.1
      rcases ls with _ | ⟨l0, ls⟩
      all_goals
        refine CodeS.drawT [8] (.take 0 (.take 1 (.take 2 (.take 3 (.one 4 true (.one 5 true (.one 6 true (.take 7 (.one 8 false .done))))))))) mixed (by kernel_rfl) (.cons ⟨rfl, trivial⟩ .nil) ?_
        conv => whnf
        repeat' (refine Gets.of _ rfl ?_; conv => whnf)
        refine CallPS.of (by kernel_rfl) (lit75 (c.dof c.gates.length) (c.nv + c.gates.length) hdl a (by omega) hlt (by omega) _ 7 6 rfl rfl) rfl ?_
        rintro _ _ ⟨rfl, rfl⟩
        rw [hla]
        conv => whnf
        repeat' first | ((refine Gets.appI1 (ti := tiI) (l := l0 :: ls) (x := c.reL (a : Int)) rfl rfl rfl rfl rfl (by decide) rfl rfl rfl (by omega) ?_); conv => whnf) | ((with_reducible refine Gets.addI ?_ ?_ ?_); (· omega); (· omega); conv => whnf) | (refine Gets.of _ rfl ?_; conv => whnf) | (refine Chk.mk (by repeat first | exact .nil | refine .cons rfl ?_) ?_; conv => whnf)
      · refine ⟨j + 1, renL [0, 1, 2, 3, 4, 5, 6, 7, 8, 9, 13, 11] 14, by omega, by omega, ⟨rfl, rfl, rfl, rfl, rfl, rfl, rfl, trivial⟩, ?_⟩
        rw [htk]
        exact EmbL.litsN [0, 1, 2, 3, 4, 5, 6, 7, 8, 9, 13, 11] rfl rfl rfl rfl (.cons ⟨rfl, .inl ⟨rfl, fun h => h⟩⟩ (.cons ⟨rfl, .inl ⟨rfl, fun h => h⟩⟩ (.cons ⟨rfl, .inl ⟨rfl, fun h => h⟩⟩ .nil))) (.cons ⟨rfl, .roI⟩ (.cons ⟨rfl, .roI⟩ (.cons ⟨rfl, .roI⟩ (.cons ⟨rfl, .inl rfl⟩ (.cons ⟨rfl, .inl rfl⟩ (.cons ⟨rfl, .cellsB⟩ (.cons ⟨rfl, .cellsN rfl⟩ (.cons ⟨rfl, .inl rfl⟩ (.cons ⟨rfl, .strO (l := [] ++ [c.reL (a : Int)]) (i' := 13) (o := []) (k' := 11) rfl rfl rfl⟩ (.cons ⟨rfl, .oP⟩ (.cons ⟨rfl, .cellsI⟩ (.cons ⟨rfl, .gone⟩ .nil))))))))))))
      · have hlen : (l0 :: ls ++ [c.reL (a : Int)]).length = ls.length + 1 + 1 := by simp
        refine ⟨j + 1, renL [0, 1, 2, 3, 4, 5, 6, 7, 8, 9, 13, 11] 14, by omega, by omega, ⟨rfl, rfl, rfl, rfl, rfl, rfl, rfl, trivial⟩, ?_⟩
        rw [htk]
        exact EmbL.litsN [0, 1, 2, 3, 4, 5, 6, 7, 8, 9, 13, 11] rfl rfl rfl rfl (.cons ⟨rfl, .inl ⟨rfl, fun h => h⟩⟩ (.cons ⟨rfl, .inl ⟨rfl, fun h => h⟩⟩ (.cons ⟨rfl, .inl ⟨rfl, fun h => h⟩⟩ .nil))) (.cons ⟨rfl, .roI⟩ (.cons ⟨rfl, .roI⟩ (.cons ⟨rfl, .roI⟩ (.cons ⟨rfl, .inl rfl⟩ (.cons ⟨rfl, .inl rfl⟩ (.cons ⟨rfl, .cellsB⟩ (.cons ⟨rfl, .cellsN rfl⟩ (.cons ⟨rfl, .inl rfl⟩ (.cons ⟨rfl, .strOe (l := l0 :: ls ++ [c.reL (a : Int)]) (n := ls.length + 1 + 1) (i' := 13) (o := []) (k' := 11) rfl rfl rfl hlen.symm⟩ (.cons ⟨rfl, .oP⟩ (.cons ⟨rfl, .cellsI⟩ (.cons ⟨rfl, .gone⟩ .nil))))))))))))
    · obtain rfl : j = c.latch.length := by omega
      have htl : (c.latch.map c.reL).take c.latch.length = c.latch.map c.reL := List.take_of_length_le (by rw [List.length_map]; exact Nat.le_refl _)
      rw [htl]
      generalize c.latch.map c.reL = ls at *
      generalize c.dgs c.gates.length = gs at *
      conv => whnf
      repeat' first | (refine Gets.of _ rfl ?_; conv => whnf) | (refine Fork.dec (fun _ => ?_) (fun _ => ?_) <;> first | (exfalso; omega) | (conv => whnf))
      refine CodeS.loopGK (cuts := []) (σ := Nat) (fun j => [(2, .ptr 4 0), (8, .ptr 8 0), (9, .func 75 [] [.ptr 7 0]), (110, .view 2 0 c.out.length), (111, .int .i64 c.out.length), (112, .int .i64 j)]) (fun j => dropH c (c.dof c.gates.length) (c.nv + c.gates.length) ls gs ((c.out.map c.reL).take j)) (fun j => j ≤ c.out.length) (fun j => c.out.length - j) 0 (renL [0, 1, 2, 3, 4, 5, 6, 7, 8, 9, 10, 11] 12) (by kernel_rfl) (Nat.zero_le _) ⟨rfl, rfl, rfl, rfl, rfl, rfl, trivial⟩ (EmbL.litsN [0, 1, 2, 3, 4, 5, 6, 7, 8, 9, 10, 11] rfl rfl rfl rfl (.cons ⟨rfl, .inl ⟨rfl, fun h => h⟩⟩ (.cons ⟨rfl, .inl ⟨rfl, fun h => h⟩⟩ (.cons ⟨rfl, .inl ⟨rfl, fun h => h⟩⟩ .nil))) (.cons ⟨rfl, .roI⟩ (.cons ⟨rfl, .roI⟩ (.cons ⟨rfl, .roI⟩ (.cons ⟨rfl, .inl rfl⟩ (.cons ⟨rfl, .inl rfl⟩ (.cons ⟨rfl, .cellsB⟩ (.cons ⟨rfl, .cellsN rfl⟩ (.cons ⟨rfl, .inl rfl⟩ (.cons ⟨rfl, .strO (o := []) (k' := 11) rfl rfl rfl⟩ (.cons ⟨rfl, .oP⟩ (.cons ⟨rfl, .oI⟩ (.cons ⟨rfl, .gone⟩ .nil))))))))))))) ?_
      intro j g4
      rcases Nat.lt_or_ge j c.out.length with hj | hj
      · have hmem := hroot _ (List.mem_append_right _ (getD_memL (d := 0) hj))
        have hla := dof_lit (c := c) (k := c.gates.length) hmem.1 hmem.2
        have htk : (c.out.map c.reL).take (j + 1) = (c.out.map c.reL).take j ++ [c.reL (c.out.getD j 0)] := by
          rw [take_succ_getD _ _ 0 (by rw [List.length_map]; exact hj), getD_map c.reL c.out 0 0 hj]
        have htl : ((c.out.map c.reL).take j).length = j := by rw [List.length_take, List.length_map]; omega
        generalize hls : (c.out.map c.reL).take j = os at *
        conv => whnf
        repeat' first | (refine Gets.ix1v rfl rfl (by omega) ?_; conv => whnf) | (refine Gets.ldI rfl (by first | rfl | assumption) (by first | omega | exact Nat.le_of_ble_eq_true rfl) ?_; conv => whnf) | (refine Fork.dec (fun _ => ?_) (fun _ => ?_) <;> first | (exfalso; omega) | (conv => whnf))
        have hmx : inR c.most (c.out.getD j 0) := ho.o _ (getD_memL hj)
        unfold inR Cir.most Cir.vars at hmx
        generalize c.out.getD j 0 = la at *
        obtain ⟨a, rfl⟩ := Int.eq_ofNat_of_zero_le hmem.1
        rcases os with _ | ⟨l0, os⟩
        all_goals
          refine CodeS.drawT [8] (.take 0 (.take 1 (.take 2 (.take 3 (.one 4 true (.one 5 true (.one 6 true (.take 7 (.one 8 false .done))))))))) mixed (by kernel_rfl) (.cons ⟨rfl, trivial⟩ .nil) ?_
          conv => whnf
          repeat' (refine Gets.of _ rfl ?_; conv => whnf)
          refine CallPS.of (by kernel_rfl) (lit75 (c.dof c.gates.length) (c.nv + c.gates.length) hdl a (by omega) hlt (by omega) _ 7 6 rfl rfl) rfl ?_
          rintro _ _ ⟨rfl, rfl⟩
          rw [hla]
          conv => whnf
          repeat' first | ((refine Gets.appI1 (ti := tiI) (l := l0 :: os) (x := c.reL (a : Int)) rfl rfl rfl rfl rfl (by decide) rfl rfl rfl (by omega) ?_); conv => whnf) | ((with_reducible refine Gets.addI ?_ ?_ ?_); (· omega); (· omega); conv => whnf) | (refine Gets.of _ rfl ?_; conv => whnf) | (refine Chk.mk (by repeat first | exact .nil | refine .cons rfl ?_) ?_; conv => whnf)
        · refine ⟨j + 1, renL [0, 1, 2, 3, 4, 5, 6, 7, 8, 9, 10, 13] 14, by omega, by omega, ⟨rfl, rfl, rfl, rfl, rfl, rfl, trivial⟩, ?_⟩
          rw [htk]
          exact EmbL.litsN [0, 1, 2, 3, 4, 5, 6, 7, 8, 9, 10, 13] rfl rfl rfl rfl (.cons ⟨rfl, .inl ⟨rfl, fun h => h⟩⟩ (.cons ⟨rfl, .inl ⟨rfl, fun h => h⟩⟩ (.cons ⟨rfl, .inl ⟨rfl, fun h => h⟩⟩ .nil))) (.cons ⟨rfl, .roI⟩ (.cons ⟨rfl, .roI⟩ (.cons ⟨rfl, .roI⟩ (.cons ⟨rfl, .inl rfl⟩ (.cons ⟨rfl, .inl rfl⟩ (.cons ⟨rfl, .cellsB⟩ (.cons ⟨rfl, .cellsN rfl⟩ (.cons ⟨rfl, .inl rfl⟩ (.cons ⟨rfl, .strO (o := [] ++ [c.reL (a : Int)]) (k' := 13) rfl rfl rfl⟩ (.cons ⟨rfl, .oP⟩ (.cons ⟨rfl, .oI⟩ (.cons ⟨rfl, .cellsI⟩ .nil))))))))))))
        · have hlen : (l0 :: os ++ [c.reL (a : Int)]).length = os.length + 1 + 1 := by simp
          refine ⟨j + 1, renL [0, 1, 2, 3, 4, 5, 6, 7, 8, 9, 10, 13] 14, by omega, by omega, ⟨rfl, rfl, rfl, rfl, rfl, rfl, trivial⟩, ?_⟩
          rw [htk]
          exact EmbL.litsN [0, 1, 2, 3, 4, 5, 6, 7, 8, 9, 10, 13] rfl rfl rfl rfl (.cons ⟨rfl, .inl ⟨rfl, fun h => h⟩⟩ (.cons ⟨rfl, .inl ⟨rfl, fun h => h⟩⟩ (.cons ⟨rfl, .inl ⟨rfl, fun h => h⟩⟩ .nil))) (.cons ⟨rfl, .roI⟩ (.cons ⟨rfl, .roI⟩ (.cons ⟨rfl, .roI⟩ (.cons ⟨rfl, .inl rfl⟩ (.cons ⟨rfl, .inl rfl⟩ (.cons ⟨rfl, .cellsB⟩ (.cons ⟨rfl, .cellsN rfl⟩ (.cons ⟨rfl, .inl rfl⟩ (.cons ⟨rfl, .strOf (o := l0 :: os ++ [c.reL (a : Int)]) (n := os.length + 1 + 1) (k' := 13) rfl rfl rfl hlen.symm⟩ (.cons ⟨rfl, .oP⟩ (.cons ⟨rfl, .oI⟩ (.cons ⟨rfl, .cellsI⟩ .nil))))))))))))
      · obtain rfl : j = c.out.length := by omega
        have htl : (c.out.map c.reL).take c.out.length = c.out.map c.reL := List.take_of_length_le (by rw [List.length_map]; exact Nat.le_refl _)
        rw [htl]
        generalize c.out.map c.reL = os at *
        conv => whnf
        repeat' first | (refine Gets.of _ rfl ?_; conv => whnf) | (refine Gets.stA rfl rfl rfl rfl (by simp only [List.all_cons, List.all_nil, oI_sc, oP_sc, oN_sc, Bool.and_true, Bool.true_and] <;> rfl) ?_; conv => whnf) | (refine seq0_of ?_; conv => whnf) | (refine Fork.dec (fun _ => ?_) (fun _ => ?_) <;> first | (exfalso; omega) | (conv => whnf))
        refine ⟨renL [0, 1, 2, 10, 9, 11] 12, .agg [.int .i64 c.inp, oI 3 ls, oP 4 gs, oI 5 os], ((c.heap.alloc (oIB ls)).alloc (oPB gs)).alloc (oIB os), EmbL.litsN [0, 1, 2, 10, 9, 11] rfl rfl rfl rfl (.cons ⟨rfl, .inl ⟨rfl, fun h => h⟩⟩ (.cons ⟨rfl, .inl ⟨rfl, fun h => h⟩⟩ (.cons ⟨rfl, .inl ⟨rfl, fun h => h⟩⟩ .nil))) (.cons ⟨rfl, .roI⟩ (.cons ⟨rfl, .roI⟩ (.cons ⟨rfl, .roI⟩ (.cons ⟨rfl, .oI⟩ (.cons ⟨rfl, .oP⟩ (.cons ⟨rfl, .oI⟩ .nil)))))), ?_, rfl, rfl⟩
        show _ = AVal.agg [_, ren _ (oI 3 ls), ren _ (oP 4 gs), ren _ (oI 5 os)]
        rw [ren_oI, ren_oP, ren_oI]
        rfl
end Go.Proofs.Ytmghlldboiplpaa
