/- Circuits side by side, as the program searches. -/
import Derived.Test.YtmghlldboiplpaaApa
import Derived.Test.YtmghlldboiplpaaRev
import Derived.Test.YtmghlldboiplpaaLst
set_option linter.unusedVariables false
set_option linter.unusedSimpArgs false
set_option maxRecDepth 100000
set_option maxHeartbeats 2000000
namespace Go.Proofs.Ytmghlldboiplpaa
open Go Go.Vh Go.Vk Go.Proofs
theorem waiting38 : CallW Try.prog 38 [.ptr 0 0] (emptyH.alloc .dead) fun v H' => v = .func 64 [] [.ptr 1 0] ∧ H' = (emptyH.alloc .dead).alloc (.cells 1 [.ptr 0 0]) := by
  refine CallW.symK (cuts := []) Try.func38 rfl (by kernel_rfl) ?_
  conv => whnf
  repeat' first
    | ((with_reducible refine Gets.shrN ?_ ?_); (· omega); conv => whnf)
    | ((with_reducible refine Gets.andOne ?_ ?_); (· first | omega | exact Nat.lt_of_le_of_lt (Nat.shiftRight_le _ _) (by omega)); conv => whnf)
    | ((with_reducible refine Gets.shlN ?_ ?_); (· omega); conv => whnf)
    | ((with_reducible refine Gets.shlI ?_ ?_ ?_); (· omega); (· omega); conv => whnf)
    | ((with_reducible refine Gets.quoI ?_ ?_ ?_ ?_); (· omega); (· omega); (· omega); conv => whnf)
    | ((with_reducible refine Gets.remN ?_ ?_ ?_); (· omega); (· omega); conv => whnf)
    | ((with_reducible refine Fork.bit (fun _ => ?_) (fun _ => ?_)) <;> (conv => whnf))
    | ((with_reducible refine Gets.addI ?_ ?_ ?_); (· omega); (· omega); conv => whnf)
    | ((with_reducible refine Gets.subI ?_ ?_ ?_); (· omega); (· omega); conv => whnf)
    | ((with_reducible refine Gets.mulI ?_ ?_ ?_); (· omega); (· omega); conv => whnf)
    | (refine Gets.of _ rfl ?_; conv => whnf)
    | (refine Gets.ix1v rfl rfl (by omega) ?_; conv => whnf)
    | (refine Gets.ix1 rfl rfl (by omega) ?_; conv => whnf)
    | (refine Gets.ixIv rfl rfl (by omega) (by omega) ?_; conv => whnf)
    | (refine Gets.ixI rfl rfl (by omega) (by omega) ?_; conv => whnf)
    | (refine Gets.ixEv (es := 2) rfl rfl (by omega) ?_; conv => whnf)
    | (refine Gets.ixE (es := 2) rfl rfl (by omega) ?_; conv => whnf)
    | (refine Gets.ldP (ti := tiP) rfl rfl rfl (by first | rfl | assumption) (by first | omega | exact Nat.le_of_ble_eq_true rfl) ?_; conv => whnf)
    | (refine Gets.ldI rfl (by first | rfl | assumption) (by first | omega | exact Nat.le_of_ble_eq_true rfl) ?_; conv => whnf)
    | (refine Gets.ldB rfl (by first | rfl | assumption) (by first | omega | exact Nat.le_of_ble_eq_true rfl) ?_; conv => whnf)
    | (refine Chk.mk (by repeat first | exact .nil | refine .cons rfl ?_) ?_; conv => whnf)
    | (refine Alls.mk ?_ ?_ <;> conv => whnf)
    | (refine seqL1_of ?_; conv => whnf)
    | (refine Fork.dec (fun _ => ?_) (fun _ => ?_) <;> first | (exfalso; omega) | (conv => whnf))
    | (refine Fork.eqI (fun _ => ?_) (fun _ => ?_) <;> first | (exfalso; omega) | (conv => whnf))
    | (refine Fork.neI (fun _ => ?_) (fun _ => ?_) <;> first | (exfalso; omega) | (conv => whnf))
    | (refine Fork.any (fun _ => ?_) (fun _ => ?_) <;> (conv => whnf))
  exact ⟨rfl, rfl⟩
noncomputable def code16 : Code × Code := ((Try.f16.body.bind rangeOf)).getD (.skip, .skip)
noncomputable def loop16 : ALoop := ⟨envOf [(2, .ptr 6 0), (4, .ptr 8 0), (5, .ptr 9 0), (6, .ptr 10 0), (7, .ptr 15 0), (8, .ptr 16 0), (9, .ptr 19 0), (10, .ptr 20 0)], 128, [55, 56], code16.1, code16.2, none, .ready⟩
/-- The memory when the search begins. -/
noncomputable def wS0 (c d : Cir) : AHeap := ⟨23, fun i => match i with
  | 6 => c.box | 7 => d.boxD | 8 => .cells 1 [.bool false] | 9 => .cells 1 [.nilSlice] | 10 => .cells 1 [.int .i64 0] | 11 => c.box | 12 => .cells 1 [.nilSlice] | 13 => d.boxD | 14 => .cells 1 [.nilSlice]
  | 15 => .cells 1 [.func 61 [] [.ptr 11 0, .ptr 12 0]] | 16 => .cells 1 [.func 61 [] [.ptr 13 0, .ptr 14 0]] | 17 => .cells 4 (ints (qflat [⟨0, 0, -1, 0⟩])) | 18 => .map (mapOf kvNN (setOf [(0, 0)])) | 19 => .cells 1 [.slice 17 0 1] | 20 => .cells 1 [.map 18] | 21 => .cells 1 [.ptr 19 0] | 22 => .loop loop16
  | i => (c2 c d).f i, fun _ => 0⟩
/-- Between two pairs of states. -/
noncomputable def wS (c d : Cir) (l : List Nd) (o1 o2 : Option (List Bool)) (v : Nat) : AHeap := ⟨26, fun i => match i with
  | 12 => .cells 1 [oldV 24 o1] | 14 => .cells 1 [oldV 25 o2] | 17 => .dead | 18 => .map (mapOf kvNN (setOf (pairsOf l))) | 19 => .cells 1 [.slice 23 0 l.length] | 23 => .cells 4 (ints (qflat l)) | 24 => oldB o1 | 25 => oldB o2
  | i => (wS0 c d).f i, fun i => match i with | 12 => v | 14 => v | 18 => v | 19 => v | 22 => v | 17 => 1 | _ => 0⟩
/-- Between two inputs. -/
noncomputable def wR (c d : Cir) (x : Nd) (l : List Nd) (o1 o2 : Option (List Bool)) (v : Nat) : AHeap := ⟨30, fun i => match i with
  | 12 => .cells 1 [oldV 28 o1] | 14 => .cells 1 [oldV 29 o2] | 18 => .map (mapOf kvNN (setOf (pairsOf l))) | 19 => .cells 1 [.slice 27 0 l.length] | 22 => .loop { loop16 with state := .busy } | 23 => .dead | 24 => .dead | 25 => .dead | 26 => .cells 1 (ints x.l) | 27 => .cells 4 (ints (qflat l)) | 28 => oldB o1 | 29 => oldB o2
  | i => (wS c d l o1 o2 v).f i, fun i => match i with | 12 => v | 14 => v | 18 => v | 19 => v | 22 => v | 17 => 1 | 23 => 1 | 24 => 1 | 25 => 1 | _ => 0⟩
/-- A difference has been found. -/
noncomputable def wF (c d : Cir) (out : List Int) (l : List Nd) (o1 o2 : Option (List Bool)) (v : Nat) : AHeap := ⟨27, fun i => match i with
  | 9 => .cells 1 [.slice 26 0 out.length] | 22 => .loop { loop16 with state := .done, pending := some .ret } | 26 => .cells 1 (ints out)
  | i => (wS c d l o1 o2 v).f i, fun i => match i with | 8 => v | 9 => v | 10 => v | 12 => v | 14 => v | 18 => v | 19 => v | 22 => v | 17 => 1 | _ => 0⟩
def wK (c d : Cir) (v : AVal) (H' : AHeap) : Prop := v = .tuple [] ∧ ∃ l o1 o2 k, (((two c d).IsApart none ∧ l.length ≤ 65536 ∧ H' = wS c d l o1 o2 k) ∨ ∃ out, (two c d).IsApart (some out) ∧ out ≠ [] ∧ out.length ≤ 4294967296 ∧ H' = wF c d out l o1 o2 k)
theorem waiting64 (c d : Cir) (hc : c.Ok) (hd : d.Ok) (hcL : c.latch.length ≤ 8) (hdL : d.latch.length ≤ 8) : CallW Try.prog 64 [.yield 22, .ptr 21 0] (wS0 c d) (wK c d) := by
  obtain ⟨a1, a2, a3, a4, a5⟩ := hc.s
  obtain ⟨b1, b2, b3, b4, b5⟩ := hd.s
  have hA : c.B ≤ 256 := Nat.le_trans (Nat.pow_le_pow_right (by decide) hcL) (by decide)
  have hB : d.B ≤ 256 := Nat.le_trans (Nat.pow_le_pow_right (by decide) hdL) (by decide)
  have hA0 : 0 < c.B := Nat.pow_pos (by decide)
  have hB0 : 0 < d.B := Nat.pow_pos (by decide)
  have hAB : c.B * d.B ≤ 256 * 256 := Nat.mul_le_mul hA hB
  have hm8 : c.many ≤ 8 := by
    have : c.inp.toNat ≤ 3 := by omega
    exact Nat.le_trans (Nat.pow_le_pow_right (by decide) this) (by decide)
  have hmany : c.many = 2 ^ c.inp.toNat := rfl
  refine CallW.symRK (cuts := []) Try.func64 rfl (by kernel_rfl) ?_
  conv => whnf
  repeat' first
    | ((with_reducible refine Gets.shrN ?_ ?_); (· omega); conv => whnf)
    | ((with_reducible refine Gets.andOne ?_ ?_); (· first | omega | exact Nat.lt_of_le_of_lt (Nat.shiftRight_le _ _) (by omega)); conv => whnf)
    | ((with_reducible refine Gets.shlN ?_ ?_); (· omega); conv => whnf)
    | ((with_reducible refine Gets.shlI ?_ ?_ ?_); (· omega); (· omega); conv => whnf)
    | ((with_reducible refine Gets.quoI ?_ ?_ ?_ ?_); (· omega); (· omega); (· omega); conv => whnf)
    | ((with_reducible refine Gets.remN ?_ ?_ ?_); (· omega); (· omega); conv => whnf)
    | ((with_reducible refine Fork.bit (fun _ => ?_) (fun _ => ?_)) <;> (conv => whnf))
    | ((with_reducible refine Gets.addI ?_ ?_ ?_); (· omega); (· omega); conv => whnf)
    | ((with_reducible refine Gets.subI ?_ ?_ ?_); (· omega); (· omega); conv => whnf)
    | ((with_reducible refine Gets.mulI ?_ ?_ ?_); (· omega); (· omega); conv => whnf)
    | (refine Gets.of _ rfl ?_; conv => whnf)
    | (refine Gets.ix1v rfl rfl (by omega) ?_; conv => whnf)
    | (refine Gets.ix1 rfl rfl (by omega) ?_; conv => whnf)
    | (refine Gets.ixIv rfl rfl (by omega) (by omega) ?_; conv => whnf)
    | (refine Gets.ixI rfl rfl (by omega) (by omega) ?_; conv => whnf)
    | (refine Gets.ixEv (es := 2) rfl rfl (by omega) ?_; conv => whnf)
    | (refine Gets.ixE (es := 2) rfl rfl (by omega) ?_; conv => whnf)
    | (refine Gets.ldP (ti := tiP) rfl rfl rfl (by first | rfl | assumption) (by first | omega | exact Nat.le_of_ble_eq_true rfl) ?_; conv => whnf)
    | (refine Gets.ldI rfl (by first | rfl | assumption) (by first | omega | exact Nat.le_of_ble_eq_true rfl) ?_; conv => whnf)
    | (refine Gets.ldB rfl (by first | rfl | assumption) (by first | omega | exact Nat.le_of_ble_eq_true rfl) ?_; conv => whnf)
    | (refine Chk.mk (by repeat first | exact .nil | refine .cons rfl ?_) ?_; conv => whnf)
    | (refine Alls.mk ?_ ?_ <;> conv => whnf)
    | (refine seqL1_of ?_; conv => whnf)
    | (refine Fork.dec (fun _ => ?_) (fun _ => ?_) <;> first | (exfalso; omega) | (conv => whnf))
    | (refine Fork.eqI (fun _ => ?_) (fun _ => ?_) <;> first | (exfalso; omega) | (conv => whnf))
    | (refine Fork.neI (fun _ => ?_) (fun _ => ?_) <;> first | (exfalso; omega) | (conv => whnf))
    | (refine Fork.any (fun _ => ?_) (fun _ => ?_) <;> (conv => whnf))
  refine CodeS.loopGK (cuts := []) (σ := Nat × (Option (List Bool) × Option (List Bool)) × Nat) (fun s => [(0, .yield 22), (1, .ptr 21 0), (3, .int .i64 s.1)]) (fun s => wS c d ((two c d).nds s.1) s.2.1.1 s.2.1.2 s.2.2) (fun s => s.1 ≤ ((two c d).nds s.1).length ∧ ∀ k', k' < s.1 → (two c d).diff k' = none) (fun s => 65537 - s.1) (0, (none, none), 1) (renL [0, 1, 2, 3, 4, 5, 6, 7, 8, 9, 10, 11, 12, 13, 14, 15, 16, 17, 18, 19, 20, 21, 22, 17, 17, 17] 23) (by kernel_rfl) ⟨Nat.zero_le _, fun k' h => by omega⟩ ⟨rfl, rfl, rfl, trivial⟩ ?_ ?_
  · exact EmbL.lits [0, 1, 2, 3, 4, 5, 6, 7, 8, 9, 10, 11, 12, 13, 14, 15, 16, 17, 18, 19, 20, 21, 22, 17, 17, 17] rfl rfl rfl rfl (.cons ⟨rfl, .inl ⟨rfl, fun h => h⟩⟩ (.cons ⟨rfl, .inl ⟨rfl, fun h => h⟩⟩ (.cons ⟨rfl, .inl ⟨rfl, fun h => h⟩⟩ (.cons ⟨rfl, .inl ⟨rfl, fun h => h⟩⟩ (.cons ⟨rfl, .inl ⟨rfl, fun h => h⟩⟩ (.cons ⟨rfl, .inl ⟨rfl, fun h => h⟩⟩ (.cons ⟨rfl, .inl ⟨rfl, fun h => h⟩⟩ (.cons ⟨rfl, .inl ⟨rfl, fun h => h⟩⟩ (.cons ⟨rfl, .inl ⟨rfl, fun h => h⟩⟩ (.cons ⟨rfl, .inl ⟨rfl, fun h => h⟩⟩ (.cons ⟨rfl, .inl ⟨rfl, fun h => h⟩⟩ (.cons ⟨rfl, .inl ⟨rfl, fun h => h⟩⟩ (.cons ⟨rfl, .inr Nat.zero_lt_one⟩ (.cons ⟨rfl, .inl ⟨rfl, fun h => h⟩⟩ (.cons ⟨rfl, .inr Nat.zero_lt_one⟩ (.cons ⟨rfl, .inl ⟨rfl, fun h => h⟩⟩ (.cons ⟨rfl, .inl ⟨rfl, fun h => h⟩⟩ (.cons ⟨rfl, .inr Nat.zero_lt_one⟩ (.cons ⟨rfl, .inr Nat.zero_lt_one⟩ (.cons ⟨rfl, .inr Nat.zero_lt_one⟩ (.cons ⟨rfl, .inl ⟨rfl, fun h => h⟩⟩ (.cons ⟨rfl, .inl ⟨rfl, fun h => h⟩⟩ (.cons ⟨rfl, .inr Nat.zero_lt_one⟩ .nil))))))))))))))))))))))) (.cons ⟨rfl, .roI⟩ (.cons ⟨rfl, .roI⟩ (.cons ⟨rfl, .roI⟩ (.cons ⟨rfl, .roI⟩ (.cons ⟨rfl, .roI⟩ (.cons ⟨rfl, .roI⟩ (.cons ⟨rfl, .inl rfl⟩ (.cons ⟨rfl, .inl rfl⟩ (.cons ⟨rfl, .inl rfl⟩ (.cons ⟨rfl, .inl rfl⟩ (.cons ⟨rfl, .inl rfl⟩ (.cons ⟨rfl, .inl rfl⟩ (.cons ⟨rfl, .inl rfl⟩ (.cons ⟨rfl, .inl rfl⟩ (.cons ⟨rfl, .inl rfl⟩ (.cons ⟨rfl, .inl rfl⟩ (.cons ⟨rfl, .inl rfl⟩ (.cons ⟨rfl, .gone⟩ (.cons ⟨rfl, .mapS keyNN rfl⟩ (.cons ⟨rfl, .inl rfl⟩ (.cons ⟨rfl, .inl rfl⟩ (.cons ⟨rfl, .inl rfl⟩ (.cons ⟨rfl, .loopE rfl⟩ (.cons ⟨rfl, .cellsIe rfl⟩ (.cons ⟨rfl, .gone⟩ (.cons ⟨rfl, .gone⟩ .nil))))))))))))))))))))))))))
  rintro ⟨k, ⟨o1, o2⟩, v⟩ ⟨g1, g2⟩
  dsimp only at g1 g2 ⊢
  have hlen : ((two c d).nds k).length ≤ c.B * d.B := nodes_len hA0 hB0 (fun i s => nxt_lt c i s) (fun i s => nxt_lt d i s) k
  have hok : ∀ x ∈ (two c d).nds k, x.a < c.B ∧ x.b < d.B := nodes_ok hA0 hB0 (fun i s => nxt_lt c i s) (fun i s => nxt_lt d i s) k
  have hback : Back ((two c d).nds k) := nodes_back _ _ _ k
  have hnd : (pairsOf ((two c d).nds k)).Nodup := nodes_nodup _ _ _ k
  have hdiff : (two c d).diff k = (List.range c.many).find? fun i => c.outv i (((two c d).nds k).getD k default).a != d.outv i (((two c d).nds k).getD k default).b := rfl
  have hnext : k < ((two c d).nds k).length → (two c d).nds (k + 1) = insPN (fun i => c.nxt i (((two c d).nds k).getD k default).a) (fun i => d.nxt i (((two c d).nds k).getD k default).b) k ((two c d).nds k) c.many := fun h => if_pos h
  generalize hL : (two c d).nds k = L at *
  conv => whnf
  repeat' first
    | ((refine Gets.ixE (es := 4) rfl rfl (by omega) ?_); conv => whnf)
    | ((refine Gets.ldQ (ti := tiQ) rfl rfl rfl rfl (by omega) ?_); conv => whnf)
    | ((with_reducible refine Gets.shrN ?_ ?_); (· omega); conv => whnf)
    | ((with_reducible refine Gets.andOne ?_ ?_); (· first | omega | exact Nat.lt_of_le_of_lt (Nat.shiftRight_le _ _) (by omega)); conv => whnf)
    | ((with_reducible refine Gets.shlN ?_ ?_); (· omega); conv => whnf)
    | ((with_reducible refine Gets.shlI ?_ ?_ ?_); (· omega); (· omega); conv => whnf)
    | ((with_reducible refine Gets.quoI ?_ ?_ ?_ ?_); (· omega); (· omega); (· omega); conv => whnf)
    | ((with_reducible refine Gets.remN ?_ ?_ ?_); (· omega); (· omega); conv => whnf)
    | ((with_reducible refine Fork.bit (fun _ => ?_) (fun _ => ?_)) <;> (conv => whnf))
    | ((with_reducible refine Gets.addI ?_ ?_ ?_); (· omega); (· omega); conv => whnf)
    | ((with_reducible refine Gets.subI ?_ ?_ ?_); (· omega); (· omega); conv => whnf)
    | ((with_reducible refine Gets.mulI ?_ ?_ ?_); (· omega); (· omega); conv => whnf)
    | (refine Gets.of _ rfl ?_; conv => whnf)
    | (refine Gets.ix1v rfl rfl (by omega) ?_; conv => whnf)
    | (refine Gets.ix1 rfl rfl (by omega) ?_; conv => whnf)
    | (refine Gets.ixIv rfl rfl (by omega) (by omega) ?_; conv => whnf)
    | (refine Gets.ixI rfl rfl (by omega) (by omega) ?_; conv => whnf)
    | (refine Gets.ixEv (es := 2) rfl rfl (by omega) ?_; conv => whnf)
    | (refine Gets.ixE (es := 2) rfl rfl (by omega) ?_; conv => whnf)
    | (refine Gets.ldP (ti := tiP) rfl rfl rfl (by first | rfl | assumption) (by first | omega | exact Nat.le_of_ble_eq_true rfl) ?_; conv => whnf)
    | (refine Gets.ldI rfl (by first | rfl | assumption) (by first | omega | exact Nat.le_of_ble_eq_true rfl) ?_; conv => whnf)
    | (refine Gets.ldB rfl (by first | rfl | assumption) (by first | omega | exact Nat.le_of_ble_eq_true rfl) ?_; conv => whnf)
    | (refine Chk.mk (by repeat first | exact .nil | refine .cons rfl ?_) ?_; conv => whnf)
    | (refine Alls.mk ?_ ?_ <;> conv => whnf)
    | (refine seqL1_of ?_; conv => whnf)
    | (refine Fork.dec (fun _ => ?_) (fun _ => ?_) <;> first | (exfalso; omega) | (conv => whnf))
    | (refine Fork.eqI (fun _ => ?_) (fun _ => ?_) <;> first | (exfalso; omega) | (conv => whnf))
    | (refine Fork.neI (fun _ => ?_) (fun _ => ?_) <;> first | (exfalso; omega) | (conv => whnf))
    | (refine Fork.any (fun _ => ?_) (fun _ => ?_) <;> (conv => whnf))
  · have hk : k < L.length := by omega
    have hx := hok _ (getD_memL (d := default) hk)
    have hnext := hnext hk
    generalize hxe : L.getD k default = x at *
    refine CallS.roundRK (cuts := []) (r := loop16) rfl rfl (by kernel_rfl) ?_
    intro ρ
    conv => whnf
    repeat' first
      | ((with_reducible refine Gets.shrN ?_ ?_); (· omega); conv => whnf)
      | ((with_reducible refine Gets.andOne ?_ ?_); (· first | omega | exact Nat.lt_of_le_of_lt (Nat.shiftRight_le _ _) (by omega)); conv => whnf)
      | ((with_reducible refine Gets.shlN ?_ ?_); (· omega); conv => whnf)
      | ((with_reducible refine Gets.shlI ?_ ?_ ?_); (· omega); (· omega); conv => whnf)
      | ((with_reducible refine Gets.quoI ?_ ?_ ?_ ?_); (· omega); (· omega); (· omega); conv => whnf)
      | ((with_reducible refine Gets.remN ?_ ?_ ?_); (· omega); (· omega); conv => whnf)
      | ((with_reducible refine Fork.bit (fun _ => ?_) (fun _ => ?_)) <;> (conv => whnf))
      | ((with_reducible refine Gets.addI ?_ ?_ ?_); (· omega); (· omega); conv => whnf)
      | ((with_reducible refine Gets.subI ?_ ?_ ?_); (· omega); (· omega); conv => whnf)
      | ((with_reducible refine Gets.mulI ?_ ?_ ?_); (· omega); (· omega); conv => whnf)
      | (refine Gets.of _ rfl ?_; conv => whnf)
      | (refine Gets.ix1v rfl rfl (by omega) ?_; conv => whnf)
      | (refine Gets.ix1 rfl rfl (by omega) ?_; conv => whnf)
      | (refine Gets.ixIv rfl rfl (by omega) (by omega) ?_; conv => whnf)
      | (refine Gets.ixI rfl rfl (by omega) (by omega) ?_; conv => whnf)
      | (refine Gets.ixEv (es := 2) rfl rfl (by omega) ?_; conv => whnf)
      | (refine Gets.ixE (es := 2) rfl rfl (by omega) ?_; conv => whnf)
      | (refine Gets.ldP (ti := tiP) rfl rfl rfl (by first | rfl | assumption) (by first | omega | exact Nat.le_of_ble_eq_true rfl) ?_; conv => whnf)
      | (refine Gets.ldI rfl (by first | rfl | assumption) (by first | omega | exact Nat.le_of_ble_eq_true rfl) ?_; conv => whnf)
      | (refine Gets.ldB rfl (by first | rfl | assumption) (by first | omega | exact Nat.le_of_ble_eq_true rfl) ?_; conv => whnf)
      | (refine Chk.mk (by repeat first | exact .nil | refine .cons rfl ?_) ?_; conv => whnf)
      | (refine Alls.mk ?_ ?_ <;> conv => whnf)
      | (refine seqL1_of ?_; conv => whnf)
      | (refine Fork.dec (fun _ => ?_) (fun _ => ?_) <;> first | (exfalso; omega) | (conv => whnf))
      | (refine Fork.eqI (fun _ => ?_) (fun _ => ?_) <;> first | (exfalso; omega) | (conv => whnf))
      | (refine Fork.neI (fun _ => ?_) (fun _ => ?_) <;> first | (exfalso; omega) | (conv => whnf))
      | (refine Fork.any (fun _ => ?_) (fun _ => ?_) <;> (conv => whnf))
    refine ⟨loop16, rfl, rfl, ?_⟩
    conv => whnf
    repeat' first
      | ((with_reducible refine Gets.shrN ?_ ?_); (· omega); conv => whnf)
      | ((with_reducible refine Gets.andOne ?_ ?_); (· first | omega | exact Nat.lt_of_le_of_lt (Nat.shiftRight_le _ _) (by omega)); conv => whnf)
      | ((with_reducible refine Gets.shlN ?_ ?_); (· omega); conv => whnf)
      | ((with_reducible refine Gets.shlI ?_ ?_ ?_); (· omega); (· omega); conv => whnf)
      | ((with_reducible refine Gets.quoI ?_ ?_ ?_ ?_); (· omega); (· omega); (· omega); conv => whnf)
      | ((with_reducible refine Gets.remN ?_ ?_ ?_); (· omega); (· omega); conv => whnf)
      | ((with_reducible refine Fork.bit (fun _ => ?_) (fun _ => ?_)) <;> (conv => whnf))
      | ((with_reducible refine Gets.addI ?_ ?_ ?_); (· omega); (· omega); conv => whnf)
      | ((with_reducible refine Gets.subI ?_ ?_ ?_); (· omega); (· omega); conv => whnf)
      | ((with_reducible refine Gets.mulI ?_ ?_ ?_); (· omega); (· omega); conv => whnf)
      | (refine Gets.of _ rfl ?_; conv => whnf)
      | (refine Gets.ix1v rfl rfl (by omega) ?_; conv => whnf)
      | (refine Gets.ix1 rfl rfl (by omega) ?_; conv => whnf)
      | (refine Gets.ixIv rfl rfl (by omega) (by omega) ?_; conv => whnf)
      | (refine Gets.ixI rfl rfl (by omega) (by omega) ?_; conv => whnf)
      | (refine Gets.ixEv (es := 2) rfl rfl (by omega) ?_; conv => whnf)
      | (refine Gets.ixE (es := 2) rfl rfl (by omega) ?_; conv => whnf)
      | (refine Gets.ldP (ti := tiP) rfl rfl rfl (by first | rfl | assumption) (by first | omega | exact Nat.le_of_ble_eq_true rfl) ?_; conv => whnf)
      | (refine Gets.ldI rfl (by first | rfl | assumption) (by first | omega | exact Nat.le_of_ble_eq_true rfl) ?_; conv => whnf)
      | (refine Gets.ldB rfl (by first | rfl | assumption) (by first | omega | exact Nat.le_of_ble_eq_true rfl) ?_; conv => whnf)
      | (refine Chk.mk (by repeat first | exact .nil | refine .cons rfl ?_) ?_; conv => whnf)
      | (refine Alls.mk ?_ ?_ <;> conv => whnf)
      | (refine seqL1_of ?_; conv => whnf)
      | (refine Fork.dec (fun _ => ?_) (fun _ => ?_) <;> first | (exfalso; omega) | (conv => whnf))
      | (refine Fork.eqI (fun _ => ?_) (fun _ => ?_) <;> first | (exfalso; omega) | (conv => whnf))
      | (refine Fork.neI (fun _ => ?_) (fun _ => ?_) <;> first | (exfalso; omega) | (conv => whnf))
      | (refine Fork.any (fun _ => ?_) (fun _ => ?_) <;> (conv => whnf))
    rw [← hmany]
    refine CodeS.loopGK (cuts := []) (σ := Nat × (Option (List Bool) × Option (List Bool)) × Nat) (fun s => [(4, .ptr 8 0), (5, .ptr 9 0), (6, .ptr 10 0), (7, .ptr 15 0), (8, .ptr 16 0), (9, .ptr 19 0), (10, .ptr 20 0), (11, .int .i64 k), (12, .ptr 26 0), (59, .int .i64 c.many), (60, .int .i64 s.1)]) (fun s => wR c d x (insPN (fun i => c.nxt i x.a) (fun i => d.nxt i x.b) k L s.1) s.2.1.1 s.2.1.2 s.2.2) (fun s => s.1 ≤ c.many ∧ ∀ i, i < s.1 → (c.outv i x.a != d.outv i x.b) = false) (fun s => c.many - s.1) (0, (o1, o2), v + 2) (renL [0,1,2,3,4,5,6,7,8,9,10,11,12,13,14,15,16,17,18,19,20,21,22,23,24,25,26,23,24,25] 27) (by kernel_rfl) ⟨Nat.zero_le _, fun i h => by omega⟩ ⟨rfl, rfl, rfl, rfl, rfl, rfl, rfl, rfl, rfl, rfl, rfl, trivial⟩ ?_ ?_
    · cases o1 <;> cases o2
      · exact EmbL.lits [0, 1, 2, 3, 4, 5, 6, 7, 8, 9, 10, 11, 12, 13, 14, 15, 16, 17, 18, 19, 20, 21, 22, 23, 24, 25, 26, 23, 24, 25] rfl rfl rfl rfl (.cons ⟨rfl, .inl ⟨rfl, fun h => h⟩⟩ (.cons ⟨rfl, .inl ⟨rfl, fun h => h⟩⟩ (.cons ⟨rfl, .inl ⟨rfl, fun h => h⟩⟩ (.cons ⟨rfl, .inl ⟨rfl, fun h => h⟩⟩ (.cons ⟨rfl, .inl ⟨rfl, fun h => h⟩⟩ (.cons ⟨rfl, .inl ⟨rfl, fun h => h⟩⟩ (.cons ⟨rfl, .inl ⟨rfl, fun h => h⟩⟩ (.cons ⟨rfl, .inl ⟨rfl, fun h => h⟩⟩ (.cons ⟨rfl, .inl ⟨rfl, fun h => h⟩⟩ (.cons ⟨rfl, .inl ⟨rfl, fun h => h⟩⟩ (.cons ⟨rfl, .inl ⟨rfl, fun h => h⟩⟩ (.cons ⟨rfl, .inl ⟨rfl, fun h => h⟩⟩ (.cons ⟨rfl, .inr (by first | exact verLt (v := v) (k := 0) (m := 2) rfl rfl | exact verLt (v := v) (k := 1) (m := 2) rfl rfl | exact verLt (v := v) (k := 2) (m := 2) rfl rfl)⟩ (.cons ⟨rfl, .inl ⟨rfl, fun h => h⟩⟩ (.cons ⟨rfl, .inr (by first | exact verLt (v := v) (k := 0) (m := 2) rfl rfl | exact verLt (v := v) (k := 1) (m := 2) rfl rfl | exact verLt (v := v) (k := 2) (m := 2) rfl rfl)⟩ (.cons ⟨rfl, .inl ⟨rfl, fun h => h⟩⟩ (.cons ⟨rfl, .inl ⟨rfl, fun h => h⟩⟩ (.cons ⟨rfl, .inl ⟨rfl, fun h => h⟩⟩ (.cons ⟨rfl, .inr (by first | exact verLt (v := v) (k := 0) (m := 2) rfl rfl | exact verLt (v := v) (k := 1) (m := 2) rfl rfl | exact verLt (v := v) (k := 2) (m := 2) rfl rfl)⟩ (.cons ⟨rfl, .inr (by first | exact verLt (v := v) (k := 0) (m := 2) rfl rfl | exact verLt (v := v) (k := 1) (m := 2) rfl rfl | exact verLt (v := v) (k := 2) (m := 2) rfl rfl)⟩ (.cons ⟨rfl, .inl ⟨rfl, fun h => h⟩⟩ (.cons ⟨rfl, .inl ⟨rfl, fun h => h⟩⟩ (.cons ⟨rfl, .inr (by first | exact verLt (v := v) (k := 0) (m := 2) rfl rfl | exact verLt (v := v) (k := 1) (m := 2) rfl rfl | exact verLt (v := v) (k := 2) (m := 2) rfl rfl)⟩ (.cons ⟨rfl, .inr Nat.zero_lt_one⟩ (.cons ⟨rfl, .inr Nat.zero_lt_one⟩ (.cons ⟨rfl, .inr Nat.zero_lt_one⟩ .nil)))))))))))))))))))))))))) (.cons ⟨rfl, .roI⟩ (.cons ⟨rfl, .roI⟩ (.cons ⟨rfl, .roI⟩ (.cons ⟨rfl, .roI⟩ (.cons ⟨rfl, .roI⟩ (.cons ⟨rfl, .roI⟩ (.cons ⟨rfl, .inl rfl⟩ (.cons ⟨rfl, .inl rfl⟩ (.cons ⟨rfl, .inl rfl⟩ (.cons ⟨rfl, .inl rfl⟩ (.cons ⟨rfl, .inl rfl⟩ (.cons ⟨rfl, .inl rfl⟩ (.cons ⟨rfl, .inl rfl⟩ (.cons ⟨rfl, .inl rfl⟩ (.cons ⟨rfl, .inl rfl⟩ (.cons ⟨rfl, .inl rfl⟩ (.cons ⟨rfl, .inl rfl⟩ (.cons ⟨rfl, .gone⟩ (.cons ⟨rfl, .mapS keyNN rfl⟩ (.cons ⟨rfl, .inl rfl⟩ (.cons ⟨rfl, .inl rfl⟩ (.cons ⟨rfl, .inl rfl⟩ (.cons ⟨rfl, .loopE rfl⟩ (.cons ⟨rfl, .gone⟩ (.cons ⟨rfl, .gone⟩ (.cons ⟨rfl, .gone⟩ (.cons ⟨rfl, .inl rfl⟩ (.cons ⟨rfl, .cellsIe rfl⟩ (.cons ⟨rfl, .gone⟩ (.cons ⟨rfl, .gone⟩ .nil))))))))))))))))))))))))))))))
      · exact EmbL.lits [0, 1, 2, 3, 4, 5, 6, 7, 8, 9, 10, 11, 12, 13, 14, 15, 16, 17, 18, 19, 20, 21, 22, 23, 24, 25, 26, 23, 24, 25] rfl rfl rfl rfl (.cons ⟨rfl, .inl ⟨rfl, fun h => h⟩⟩ (.cons ⟨rfl, .inl ⟨rfl, fun h => h⟩⟩ (.cons ⟨rfl, .inl ⟨rfl, fun h => h⟩⟩ (.cons ⟨rfl, .inl ⟨rfl, fun h => h⟩⟩ (.cons ⟨rfl, .inl ⟨rfl, fun h => h⟩⟩ (.cons ⟨rfl, .inl ⟨rfl, fun h => h⟩⟩ (.cons ⟨rfl, .inl ⟨rfl, fun h => h⟩⟩ (.cons ⟨rfl, .inl ⟨rfl, fun h => h⟩⟩ (.cons ⟨rfl, .inl ⟨rfl, fun h => h⟩⟩ (.cons ⟨rfl, .inl ⟨rfl, fun h => h⟩⟩ (.cons ⟨rfl, .inl ⟨rfl, fun h => h⟩⟩ (.cons ⟨rfl, .inl ⟨rfl, fun h => h⟩⟩ (.cons ⟨rfl, .inr (by first | exact verLt (v := v) (k := 0) (m := 2) rfl rfl | exact verLt (v := v) (k := 1) (m := 2) rfl rfl | exact verLt (v := v) (k := 2) (m := 2) rfl rfl)⟩ (.cons ⟨rfl, .inl ⟨rfl, fun h => h⟩⟩ (.cons ⟨rfl, .inr (by first | exact verLt (v := v) (k := 0) (m := 2) rfl rfl | exact verLt (v := v) (k := 1) (m := 2) rfl rfl | exact verLt (v := v) (k := 2) (m := 2) rfl rfl)⟩ (.cons ⟨rfl, .inl ⟨rfl, fun h => h⟩⟩ (.cons ⟨rfl, .inl ⟨rfl, fun h => h⟩⟩ (.cons ⟨rfl, .inl ⟨rfl, fun h => h⟩⟩ (.cons ⟨rfl, .inr (by first | exact verLt (v := v) (k := 0) (m := 2) rfl rfl | exact verLt (v := v) (k := 1) (m := 2) rfl rfl | exact verLt (v := v) (k := 2) (m := 2) rfl rfl)⟩ (.cons ⟨rfl, .inr (by first | exact verLt (v := v) (k := 0) (m := 2) rfl rfl | exact verLt (v := v) (k := 1) (m := 2) rfl rfl | exact verLt (v := v) (k := 2) (m := 2) rfl rfl)⟩ (.cons ⟨rfl, .inl ⟨rfl, fun h => h⟩⟩ (.cons ⟨rfl, .inl ⟨rfl, fun h => h⟩⟩ (.cons ⟨rfl, .inr (by first | exact verLt (v := v) (k := 0) (m := 2) rfl rfl | exact verLt (v := v) (k := 1) (m := 2) rfl rfl | exact verLt (v := v) (k := 2) (m := 2) rfl rfl)⟩ (.cons ⟨rfl, .inr Nat.zero_lt_one⟩ (.cons ⟨rfl, .inr Nat.zero_lt_one⟩ (.cons ⟨rfl, .inr Nat.zero_lt_one⟩ .nil)))))))))))))))))))))))))) (.cons ⟨rfl, .roI⟩ (.cons ⟨rfl, .roI⟩ (.cons ⟨rfl, .roI⟩ (.cons ⟨rfl, .roI⟩ (.cons ⟨rfl, .roI⟩ (.cons ⟨rfl, .roI⟩ (.cons ⟨rfl, .inl rfl⟩ (.cons ⟨rfl, .inl rfl⟩ (.cons ⟨rfl, .inl rfl⟩ (.cons ⟨rfl, .inl rfl⟩ (.cons ⟨rfl, .inl rfl⟩ (.cons ⟨rfl, .inl rfl⟩ (.cons ⟨rfl, .inl rfl⟩ (.cons ⟨rfl, .inl rfl⟩ (.cons ⟨rfl, .inl rfl⟩ (.cons ⟨rfl, .inl rfl⟩ (.cons ⟨rfl, .inl rfl⟩ (.cons ⟨rfl, .gone⟩ (.cons ⟨rfl, .mapS keyNN rfl⟩ (.cons ⟨rfl, .inl rfl⟩ (.cons ⟨rfl, .inl rfl⟩ (.cons ⟨rfl, .inl rfl⟩ (.cons ⟨rfl, .loopE rfl⟩ (.cons ⟨rfl, .gone⟩ (.cons ⟨rfl, .gone⟩ (.cons ⟨rfl, .gone⟩ (.cons ⟨rfl, .inl rfl⟩ (.cons ⟨rfl, .cellsIe rfl⟩ (.cons ⟨rfl, .gone⟩ (.cons ⟨rfl, .cellsB⟩ .nil))))))))))))))))))))))))))))))
      · exact EmbL.lits [0, 1, 2, 3, 4, 5, 6, 7, 8, 9, 10, 11, 12, 13, 14, 15, 16, 17, 18, 19, 20, 21, 22, 23, 24, 25, 26, 23, 24, 25] rfl rfl rfl rfl (.cons ⟨rfl, .inl ⟨rfl, fun h => h⟩⟩ (.cons ⟨rfl, .inl ⟨rfl, fun h => h⟩⟩ (.cons ⟨rfl, .inl ⟨rfl, fun h => h⟩⟩ (.cons ⟨rfl, .inl ⟨rfl, fun h => h⟩⟩ (.cons ⟨rfl, .inl ⟨rfl, fun h => h⟩⟩ (.cons ⟨rfl, .inl ⟨rfl, fun h => h⟩⟩ (.cons ⟨rfl, .inl ⟨rfl, fun h => h⟩⟩ (.cons ⟨rfl, .inl ⟨rfl, fun h => h⟩⟩ (.cons ⟨rfl, .inl ⟨rfl, fun h => h⟩⟩ (.cons ⟨rfl, .inl ⟨rfl, fun h => h⟩⟩ (.cons ⟨rfl, .inl ⟨rfl, fun h => h⟩⟩ (.cons ⟨rfl, .inl ⟨rfl, fun h => h⟩⟩ (.cons ⟨rfl, .inr (by first | exact verLt (v := v) (k := 0) (m := 2) rfl rfl | exact verLt (v := v) (k := 1) (m := 2) rfl rfl | exact verLt (v := v) (k := 2) (m := 2) rfl rfl)⟩ (.cons ⟨rfl, .inl ⟨rfl, fun h => h⟩⟩ (.cons ⟨rfl, .inr (by first | exact verLt (v := v) (k := 0) (m := 2) rfl rfl | exact verLt (v := v) (k := 1) (m := 2) rfl rfl | exact verLt (v := v) (k := 2) (m := 2) rfl rfl)⟩ (.cons ⟨rfl, .inl ⟨rfl, fun h => h⟩⟩ (.cons ⟨rfl, .inl ⟨rfl, fun h => h⟩⟩ (.cons ⟨rfl, .inl ⟨rfl, fun h => h⟩⟩ (.cons ⟨rfl, .inr (by first | exact verLt (v := v) (k := 0) (m := 2) rfl rfl | exact verLt (v := v) (k := 1) (m := 2) rfl rfl | exact verLt (v := v) (k := 2) (m := 2) rfl rfl)⟩ (.cons ⟨rfl, .inr (by first | exact verLt (v := v) (k := 0) (m := 2) rfl rfl | exact verLt (v := v) (k := 1) (m := 2) rfl rfl | exact verLt (v := v) (k := 2) (m := 2) rfl rfl)⟩ (.cons ⟨rfl, .inl ⟨rfl, fun h => h⟩⟩ (.cons ⟨rfl, .inl ⟨rfl, fun h => h⟩⟩ (.cons ⟨rfl, .inr (by first | exact verLt (v := v) (k := 0) (m := 2) rfl rfl | exact verLt (v := v) (k := 1) (m := 2) rfl rfl | exact verLt (v := v) (k := 2) (m := 2) rfl rfl)⟩ (.cons ⟨rfl, .inr Nat.zero_lt_one⟩ (.cons ⟨rfl, .inr Nat.zero_lt_one⟩ (.cons ⟨rfl, .inr Nat.zero_lt_one⟩ .nil)))))))))))))))))))))))))) (.cons ⟨rfl, .roI⟩ (.cons ⟨rfl, .roI⟩ (.cons ⟨rfl, .roI⟩ (.cons ⟨rfl, .roI⟩ (.cons ⟨rfl, .roI⟩ (.cons ⟨rfl, .roI⟩ (.cons ⟨rfl, .inl rfl⟩ (.cons ⟨rfl, .inl rfl⟩ (.cons ⟨rfl, .inl rfl⟩ (.cons ⟨rfl, .inl rfl⟩ (.cons ⟨rfl, .inl rfl⟩ (.cons ⟨rfl, .inl rfl⟩ (.cons ⟨rfl, .inl rfl⟩ (.cons ⟨rfl, .inl rfl⟩ (.cons ⟨rfl, .inl rfl⟩ (.cons ⟨rfl, .inl rfl⟩ (.cons ⟨rfl, .inl rfl⟩ (.cons ⟨rfl, .gone⟩ (.cons ⟨rfl, .mapS keyNN rfl⟩ (.cons ⟨rfl, .inl rfl⟩ (.cons ⟨rfl, .inl rfl⟩ (.cons ⟨rfl, .inl rfl⟩ (.cons ⟨rfl, .loopE rfl⟩ (.cons ⟨rfl, .gone⟩ (.cons ⟨rfl, .gone⟩ (.cons ⟨rfl, .gone⟩ (.cons ⟨rfl, .inl rfl⟩ (.cons ⟨rfl, .cellsIe rfl⟩ (.cons ⟨rfl, .cellsB⟩ (.cons ⟨rfl, .gone⟩ .nil))))))))))))))))))))))))))))))
      · exact EmbL.lits [0, 1, 2, 3, 4, 5, 6, 7, 8, 9, 10, 11, 12, 13, 14, 15, 16, 17, 18, 19, 20, 21, 22, 23, 24, 25, 26, 23, 24, 25] rfl rfl rfl rfl (.cons ⟨rfl, .inl ⟨rfl, fun h => h⟩⟩ (.cons ⟨rfl, .inl ⟨rfl, fun h => h⟩⟩ (.cons ⟨rfl, .inl ⟨rfl, fun h => h⟩⟩ (.cons ⟨rfl, .inl ⟨rfl, fun h => h⟩⟩ (.cons ⟨rfl, .inl ⟨rfl, fun h => h⟩⟩ (.cons ⟨rfl, .inl ⟨rfl, fun h => h⟩⟩ (.cons ⟨rfl, .inl ⟨rfl, fun h => h⟩⟩ (.cons ⟨rfl, .inl ⟨rfl, fun h => h⟩⟩ (.cons ⟨rfl, .inl ⟨rfl, fun h => h⟩⟩ (.cons ⟨rfl, .inl ⟨rfl, fun h => h⟩⟩ (.cons ⟨rfl, .inl ⟨rfl, fun h => h⟩⟩ (.cons ⟨rfl, .inl ⟨rfl, fun h => h⟩⟩ (.cons ⟨rfl, .inr (by first | exact verLt (v := v) (k := 0) (m := 2) rfl rfl | exact verLt (v := v) (k := 1) (m := 2) rfl rfl | exact verLt (v := v) (k := 2) (m := 2) rfl rfl)⟩ (.cons ⟨rfl, .inl ⟨rfl, fun h => h⟩⟩ (.cons ⟨rfl, .inr (by first | exact verLt (v := v) (k := 0) (m := 2) rfl rfl | exact verLt (v := v) (k := 1) (m := 2) rfl rfl | exact verLt (v := v) (k := 2) (m := 2) rfl rfl)⟩ (.cons ⟨rfl, .inl ⟨rfl, fun h => h⟩⟩ (.cons ⟨rfl, .inl ⟨rfl, fun h => h⟩⟩ (.cons ⟨rfl, .inl ⟨rfl, fun h => h⟩⟩ (.cons ⟨rfl, .inr (by first | exact verLt (v := v) (k := 0) (m := 2) rfl rfl | exact verLt (v := v) (k := 1) (m := 2) rfl rfl | exact verLt (v := v) (k := 2) (m := 2) rfl rfl)⟩ (.cons ⟨rfl, .inr (by first | exact verLt (v := v) (k := 0) (m := 2) rfl rfl | exact verLt (v := v) (k := 1) (m := 2) rfl rfl | exact verLt (v := v) (k := 2) (m := 2) rfl rfl)⟩ (.cons ⟨rfl, .inl ⟨rfl, fun h => h⟩⟩ (.cons ⟨rfl, .inl ⟨rfl, fun h => h⟩⟩ (.cons ⟨rfl, .inr (by first | exact verLt (v := v) (k := 0) (m := 2) rfl rfl | exact verLt (v := v) (k := 1) (m := 2) rfl rfl | exact verLt (v := v) (k := 2) (m := 2) rfl rfl)⟩ (.cons ⟨rfl, .inr Nat.zero_lt_one⟩ (.cons ⟨rfl, .inr Nat.zero_lt_one⟩ (.cons ⟨rfl, .inr Nat.zero_lt_one⟩ .nil)))))))))))))))))))))))))) (.cons ⟨rfl, .roI⟩ (.cons ⟨rfl, .roI⟩ (.cons ⟨rfl, .roI⟩ (.cons ⟨rfl, .roI⟩ (.cons ⟨rfl, .roI⟩ (.cons ⟨rfl, .roI⟩ (.cons ⟨rfl, .inl rfl⟩ (.cons ⟨rfl, .inl rfl⟩ (.cons ⟨rfl, .inl rfl⟩ (.cons ⟨rfl, .inl rfl⟩ (.cons ⟨rfl, .inl rfl⟩ (.cons ⟨rfl, .inl rfl⟩ (.cons ⟨rfl, .inl rfl⟩ (.cons ⟨rfl, .inl rfl⟩ (.cons ⟨rfl, .inl rfl⟩ (.cons ⟨rfl, .inl rfl⟩ (.cons ⟨rfl, .inl rfl⟩ (.cons ⟨rfl, .gone⟩ (.cons ⟨rfl, .mapS keyNN rfl⟩ (.cons ⟨rfl, .inl rfl⟩ (.cons ⟨rfl, .inl rfl⟩ (.cons ⟨rfl, .inl rfl⟩ (.cons ⟨rfl, .loopE rfl⟩ (.cons ⟨rfl, .gone⟩ (.cons ⟨rfl, .gone⟩ (.cons ⟨rfl, .gone⟩ (.cons ⟨rfl, .inl rfl⟩ (.cons ⟨rfl, .cellsIe rfl⟩ (.cons ⟨rfl, .cellsB⟩ (.cons ⟨rfl, .cellsB⟩ .nil))))))))))))))))))))))))))))))
    rintro ⟨j, ⟨o1, o2⟩, v⟩ ⟨g3, g4⟩
    dsimp only at g3 g4 ⊢
    have hok2 : ∀ y ∈ insPN (fun i => c.nxt i x.a) (fun i => d.nxt i x.b) k L j, y.a < c.B ∧ y.b < d.B := insPN_all hok j fun i _ => ⟨nxt_lt c _ _, nxt_lt d _ _⟩
    have hnd2 : (pairsOf (insPN (fun i => c.nxt i x.a) (fun i => d.nxt i x.b) k L j)).Nodup := insPN_nodup hnd j
    have hback2 : Back (insPN (fun i => c.nxt i x.a) (fun i => d.nxt i x.b) k L j) := hback.insN hk j
    have hlen2 : (insPN (fun i => c.nxt i x.a) (fun i => d.nxt i x.b) k L j).length ≤ c.B * d.B := by
      have := pairs_len (A := c.B) (B := d.B) hnd2 fun p hp => by
        obtain ⟨y, hy, rfl⟩ := List.mem_map.1 hp
        exact hok2 y hy
      simpa [pairsOf] using this
    have hway : wayOf (insPN (fun i => c.nxt i x.a) (fun i => d.nxt i x.b) k L j) (k + 1) k = wayOf L (k + 1) k := by
      obtain ⟨m, hm⟩ := insPN_pre (fun i => c.nxt i x.a) (fun i => d.nxt i x.b) k L j
      rw [hm, wayOf_pre hback _ _ hk]
    have hkl : k < (insPN (fun i => c.nxt i x.a) (fun i => d.nxt i x.b) k L j).length := Nat.lt_of_lt_of_le hk (insPN_len _ _ _ _ _)
    have hstep : insPN (fun i => c.nxt i x.a) (fun i => d.nxt i x.b) k L (j + 1) = insP (insPN (fun i => c.nxt i x.a) (fun i => d.nxt i x.b) k L j) ⟨c.nxt j x.a, d.nxt j x.b, k, j⟩ := rfl
    generalize hl2e : insPN (fun i => c.nxt i x.a) (fun i => d.nxt i x.b) k L j = l2 at *
    conv => whnf
    repeat' first
      | ((with_reducible refine Gets.shrN ?_ ?_); (· omega); conv => whnf)
      | ((with_reducible refine Gets.andOne ?_ ?_); (· first | omega | exact Nat.lt_of_le_of_lt (Nat.shiftRight_le _ _) (by omega)); conv => whnf)
      | ((with_reducible refine Gets.shlN ?_ ?_); (· omega); conv => whnf)
      | ((with_reducible refine Gets.shlI ?_ ?_ ?_); (· omega); (· omega); conv => whnf)
      | ((with_reducible refine Gets.quoI ?_ ?_ ?_ ?_); (· omega); (· omega); (· omega); conv => whnf)
      | ((with_reducible refine Gets.remN ?_ ?_ ?_); (· omega); (· omega); conv => whnf)
      | ((with_reducible refine Fork.bit (fun _ => ?_) (fun _ => ?_)) <;> (conv => whnf))
      | ((with_reducible refine Gets.addI ?_ ?_ ?_); (· omega); (· omega); conv => whnf)
      | ((with_reducible refine Gets.subI ?_ ?_ ?_); (· omega); (· omega); conv => whnf)
      | ((with_reducible refine Gets.mulI ?_ ?_ ?_); (· omega); (· omega); conv => whnf)
      | (refine Gets.of _ rfl ?_; conv => whnf)
      | (refine Gets.ix1v rfl rfl (by omega) ?_; conv => whnf)
      | (refine Gets.ix1 rfl rfl (by omega) ?_; conv => whnf)
      | (refine Gets.ixIv rfl rfl (by omega) (by omega) ?_; conv => whnf)
      | (refine Gets.ixI rfl rfl (by omega) (by omega) ?_; conv => whnf)
      | (refine Gets.ixEv (es := 2) rfl rfl (by omega) ?_; conv => whnf)
      | (refine Gets.ixE (es := 2) rfl rfl (by omega) ?_; conv => whnf)
      | (refine Gets.ldP (ti := tiP) rfl rfl rfl (by first | rfl | assumption) (by first | omega | exact Nat.le_of_ble_eq_true rfl) ?_; conv => whnf)
      | (refine Gets.ldI rfl (by first | rfl | assumption) (by first | omega | exact Nat.le_of_ble_eq_true rfl) ?_; conv => whnf)
      | (refine Gets.ldB rfl (by first | rfl | assumption) (by first | omega | exact Nat.le_of_ble_eq_true rfl) ?_; conv => whnf)
      | (refine Chk.mk (by repeat first | exact .nil | refine .cons rfl ?_) ?_; conv => whnf)
      | (refine Alls.mk ?_ ?_ <;> conv => whnf)
      | (refine seqL1_of ?_; conv => whnf)
      | (refine Fork.dec (fun _ => ?_) (fun _ => ?_) <;> first | (exfalso; omega) | (conv => whnf))
      | (refine Fork.eqI (fun _ => ?_) (fun _ => ?_) <;> first | (exfalso; omega) | (conv => whnf))
      | (refine Fork.neI (fun _ => ?_) (fun _ => ?_) <;> first | (exfalso; omega) | (conv => whnf))
      | (refine Fork.any (fun _ => ?_) (fun _ => ?_) <;> (conv => whnf))
    · have stpc : ∀ o : Option (List Bool), CallW Try.prog 61 [.int .i64 j, .int .i64 x.a, .ptr 11 0, .ptr 12 0] (wR c d x l2 o o2 v) fun v' H' => v' = .tuple [.int .i64 (c.outv j x.a : Nat), .int .i64 (c.nxt j x.a : Nat)] ∧ H' = frameH [0, 1, 2, 11, 12, 28] (stepH c o) (stepH' c o j x.a) (wR c d x l2 o o2 v) := by
        intro o
        cases o with
        | none =>
          refine ((step61valuesA c hc [] j x.a (by omega) (by omega)).frameQ [0, 1, 2, 11, 12, 28] rfl (.cons ⟨rfl, .roI⟩ (.cons ⟨rfl, .roI⟩ (.cons ⟨rfl, .roI⟩ (.cons ⟨rfl, .inl rfl⟩ (.cons ⟨rfl, .inl rfl⟩ (.cons ⟨rfl, .gone⟩ .nil)))))) (by rintro _ _ ⟨rfl, rfl⟩; repeat first | exact .nil | refine .cons (by first | exact .inr rfl | exact .inl rfl | exact .inr (fresh_oN _) | exact .inr (fresh_oP _) | exact .inr (fresh_oI _)) ?_)).mono ?_
          rintro _ _ ⟨_, _, ⟨rfl, rfl⟩, rfl, rfl⟩
          exact ⟨rfl, rfl⟩
        | some old =>
          refine ((step61valuesB c hc old j x.a (by omega) (by omega)).frameQ [0, 1, 2, 11, 12, 28] rfl (.cons ⟨rfl, .roI⟩ (.cons ⟨rfl, .roI⟩ (.cons ⟨rfl, .roI⟩ (.cons ⟨rfl, .inl rfl⟩ (.cons ⟨rfl, .inl rfl⟩ (.cons ⟨rfl, .cellsB⟩ .nil)))))) (by rintro _ _ ⟨rfl, rfl⟩; repeat first | exact .nil | refine .cons (by first | exact .inr rfl | exact .inl rfl | exact .inr (fresh_oN _) | exact .inr (fresh_oP _) | exact .inr (fresh_oI _)) ?_)).mono ?_
          rintro _ _ ⟨_, _, ⟨rfl, rfl⟩, rfl, rfl⟩
          exact ⟨rfl, rfl⟩
      refine CallS.of (by kernel_rfl) (stpc o1) rfl ?_
      rintro _ _ ⟨rfl, rfl⟩
      conv => whnf
      repeat' first
        | ((with_reducible refine Gets.shrN ?_ ?_); (· omega); conv => whnf)
        | ((with_reducible refine Gets.andOne ?_ ?_); (· first | omega | exact Nat.lt_of_le_of_lt (Nat.shiftRight_le _ _) (by omega)); conv => whnf)
        | ((with_reducible refine Gets.shlN ?_ ?_); (· omega); conv => whnf)
        | ((with_reducible refine Gets.shlI ?_ ?_ ?_); (· omega); (· omega); conv => whnf)
        | ((with_reducible refine Gets.quoI ?_ ?_ ?_ ?_); (· omega); (· omega); (· omega); conv => whnf)
        | ((with_reducible refine Gets.remN ?_ ?_ ?_); (· omega); (· omega); conv => whnf)
        | ((with_reducible refine Fork.bit (fun _ => ?_) (fun _ => ?_)) <;> (conv => whnf))
        | ((with_reducible refine Gets.addI ?_ ?_ ?_); (· omega); (· omega); conv => whnf)
        | ((with_reducible refine Gets.subI ?_ ?_ ?_); (· omega); (· omega); conv => whnf)
        | ((with_reducible refine Gets.mulI ?_ ?_ ?_); (· omega); (· omega); conv => whnf)
        | (refine Gets.of _ rfl ?_; conv => whnf)
        | (refine Gets.ix1v rfl rfl (by omega) ?_; conv => whnf)
        | (refine Gets.ix1 rfl rfl (by omega) ?_; conv => whnf)
        | (refine Gets.ixIv rfl rfl (by omega) (by omega) ?_; conv => whnf)
        | (refine Gets.ixI rfl rfl (by omega) (by omega) ?_; conv => whnf)
        | (refine Gets.ixEv (es := 2) rfl rfl (by omega) ?_; conv => whnf)
        | (refine Gets.ixE (es := 2) rfl rfl (by omega) ?_; conv => whnf)
        | (refine Gets.ldP (ti := tiP) rfl rfl rfl (by first | rfl | assumption) (by first | omega | exact Nat.le_of_ble_eq_true rfl) ?_; conv => whnf)
        | (refine Gets.ldI rfl (by first | rfl | assumption) (by first | omega | exact Nat.le_of_ble_eq_true rfl) ?_; conv => whnf)
        | (refine Gets.ldB rfl (by first | rfl | assumption) (by first | omega | exact Nat.le_of_ble_eq_true rfl) ?_; conv => whnf)
        | (refine Chk.mk (by repeat first | exact .nil | refine .cons rfl ?_) ?_; conv => whnf)
        | (refine Alls.mk ?_ ?_ <;> conv => whnf)
        | (refine seqL1_of ?_; conv => whnf)
        | (refine Fork.dec (fun _ => ?_) (fun _ => ?_) <;> first | (exfalso; omega) | (conv => whnf))
        | (refine Fork.eqI (fun _ => ?_) (fun _ => ?_) <;> first | (exfalso; omega) | (conv => whnf))
        | (refine Fork.neI (fun _ => ?_) (fun _ => ?_) <;> first | (exfalso; omega) | (conv => whnf))
        | (refine Fork.any (fun _ => ?_) (fun _ => ?_) <;> (conv => whnf))
      generalize hH1 : frameH [0, 1, 2, 11, 12, 28] (stepH c o1) (stepH' c o1 j x.a) (wR c d x l2 o1 o2 v) = H1
      have stpd : CallW Try.prog 61 [.int .i64 j, .int .i64 x.b, .ptr 13 0, .ptr 14 0] H1 fun v' H' => v' = .tuple [.int .i64 (d.outv j x.b : Nat), .int .i64 (d.nxt j x.b : Nat)] ∧ H' = frameH [3, 4, 5, 13, 14, 29] (stepH d o2) (stepH' d o2 j x.b) H1 := by
        rw [← hH1]
        cases o2 with
        | none =>
          refine ((step61valuesA d hd [] j x.b (by omega) (by omega)).frameQ [3, 4, 5, 13, 14, 29] rfl (.cons ⟨rfl, .roI⟩ (.cons ⟨rfl, .roI⟩ (.cons ⟨rfl, .roI⟩ (.cons ⟨rfl, .inl rfl⟩ (.cons ⟨rfl, .inl rfl⟩ (.cons ⟨rfl, .gone⟩ .nil)))))) (by rintro _ _ ⟨rfl, rfl⟩; repeat first | exact .nil | refine .cons (by first | exact .inr rfl | exact .inl rfl | exact .inr (fresh_oN _) | exact .inr (fresh_oP _) | exact .inr (fresh_oI _)) ?_)).mono ?_
          rintro _ _ ⟨_, _, ⟨rfl, rfl⟩, rfl, rfl⟩
          exact ⟨rfl, rfl⟩
        | some old =>
          refine ((step61valuesB d hd old j x.b (by omega) (by omega)).frameQ [3, 4, 5, 13, 14, 29] rfl (.cons ⟨rfl, .roI⟩ (.cons ⟨rfl, .roI⟩ (.cons ⟨rfl, .roI⟩ (.cons ⟨rfl, .inl rfl⟩ (.cons ⟨rfl, .inl rfl⟩ (.cons ⟨rfl, .cellsB⟩ .nil)))))) (by rintro _ _ ⟨rfl, rfl⟩; repeat first | exact .nil | refine .cons (by first | exact .inr rfl | exact .inl rfl | exact .inr (fresh_oN _) | exact .inr (fresh_oP _) | exact .inr (fresh_oI _)) ?_)).mono ?_
          rintro _ _ ⟨_, _, ⟨rfl, rfl⟩, rfl, rfl⟩
          exact ⟨rfl, rfl⟩
      refine CallS.of (by kernel_rfl) stpd rfl ?_
      rintro _ _ ⟨rfl, rfl⟩
      rw [← hH1]
      conv => whnf
      repeat' first
        | ((with_reducible refine Gets.shrN ?_ ?_); (· omega); conv => whnf)
        | ((with_reducible refine Gets.andOne ?_ ?_); (· first | omega | exact Nat.lt_of_le_of_lt (Nat.shiftRight_le _ _) (by omega)); conv => whnf)
        | ((with_reducible refine Gets.shlN ?_ ?_); (· omega); conv => whnf)
        | ((with_reducible refine Gets.shlI ?_ ?_ ?_); (· omega); (· omega); conv => whnf)
        | ((with_reducible refine Gets.quoI ?_ ?_ ?_ ?_); (· omega); (· omega); (· omega); conv => whnf)
        | ((with_reducible refine Gets.remN ?_ ?_ ?_); (· omega); (· omega); conv => whnf)
        | ((with_reducible refine Fork.bit (fun _ => ?_) (fun _ => ?_)) <;> (conv => whnf))
        | ((with_reducible refine Gets.addI ?_ ?_ ?_); (· omega); (· omega); conv => whnf)
        | ((with_reducible refine Gets.subI ?_ ?_ ?_); (· omega); (· omega); conv => whnf)
        | ((with_reducible refine Gets.mulI ?_ ?_ ?_); (· omega); (· omega); conv => whnf)
        | (refine Gets.of _ rfl ?_; conv => whnf)
        | (refine Gets.ix1v rfl rfl (by omega) ?_; conv => whnf)
        | (refine Gets.ix1 rfl rfl (by omega) ?_; conv => whnf)
        | (refine Gets.ixIv rfl rfl (by omega) (by omega) ?_; conv => whnf)
        | (refine Gets.ixI rfl rfl (by omega) (by omega) ?_; conv => whnf)
        | (refine Gets.ixEv (es := 2) rfl rfl (by omega) ?_; conv => whnf)
        | (refine Gets.ixE (es := 2) rfl rfl (by omega) ?_; conv => whnf)
        | (refine Gets.ldP (ti := tiP) rfl rfl rfl (by first | rfl | assumption) (by first | omega | exact Nat.le_of_ble_eq_true rfl) ?_; conv => whnf)
        | (refine Gets.ldI rfl (by first | rfl | assumption) (by first | omega | exact Nat.le_of_ble_eq_true rfl) ?_; conv => whnf)
        | (refine Gets.ldB rfl (by first | rfl | assumption) (by first | omega | exact Nat.le_of_ble_eq_true rfl) ?_; conv => whnf)
        | (refine Chk.mk (by repeat first | exact .nil | refine .cons rfl ?_) ?_; conv => whnf)
        | (refine Alls.mk ?_ ?_ <;> conv => whnf)
        | (refine seqL1_of ?_; conv => whnf)
        | (refine Fork.dec (fun _ => ?_) (fun _ => ?_) <;> first | (exfalso; omega) | (conv => whnf))
        | (refine Fork.eqI (fun _ => ?_) (fun _ => ?_) <;> first | (exfalso; omega) | (conv => whnf))
        | (refine Fork.neI (fun _ => ?_) (fun _ => ?_) <;> first | (exfalso; omega) | (conv => whnf))
        | (refine Fork.any (fun _ => ?_) (fun _ => ?_) <;> (conv => whnf))
      · rename_i hne
        have hne : c.outv j x.a ≠ d.outv j x.b := fun e => hne (by rw [e])
        have hapart : (two c d).IsApart (some (wayOf L (k + 1) k ++ [(j : Int)])) := by
          refine ⟨k, j, g2, by rw [hL]; exact hk, ?_, by rw [hL]⟩
          rw [hdiff]
          exact find_hit (by omega) (by rw [bne_iff_ne]; exact hne) g4
        have hWl := wayOf_len hback (k + 1) k hk
        rw [← hway] at hapart hWl
        refine CodeS.loopGK (cuts := []) (σ := Nat × List Int) (fun s => [(4, .ptr 8 0), (5, .ptr 9 0), (6, .ptr 10 0), (9, .ptr 19 0), (18, .slice 30 0 s.2.length), (19, .int .i64 s.1)]) (fun s => (wR c d x l2 (some (c.vals j x.a)) (some (d.vals j x.b)) (v + 2)).alloc (.cells 1 (ints s.2))) (fun s => s.1 < l2.length ∧ s.2 ≠ [] ∧ s.2 ++ (wayOf l2 (s.1 + 1) s.1).reverse = (wayOf l2 (k + 1) k ++ [(j : Int)]).reverse) (fun s => s.1) (k, [(j : Int)]) (renL [0,1,2,3,4,5,6,7,8,9,10,11,12,13,14,15,16,17,18,19,20,21,22,23,24,25,26,27,30,31,32] 33) (by kernel_rfl) ⟨hkl, by simp, by simp⟩ ⟨rfl, rfl, rfl, rfl, rfl, rfl, trivial⟩ ?_ ?_
        · exact EmbL.litsN [0, 1, 2, 3, 4, 5, 6, 7, 8, 9, 10, 11, 12, 13, 14, 15, 16, 17, 18, 19, 20, 21, 22, 23, 24, 25, 26, 27, 30, 31, 32] rfl rfl rfl rfl (.cons ⟨rfl, .inl ⟨rfl, fun h => h⟩⟩ (.cons ⟨rfl, .inl ⟨rfl, fun h => h⟩⟩ (.cons ⟨rfl, .inl ⟨rfl, fun h => h⟩⟩ (.cons ⟨rfl, .inl ⟨rfl, fun h => h⟩⟩ (.cons ⟨rfl, .inl ⟨rfl, fun h => h⟩⟩ (.cons ⟨rfl, .inl ⟨rfl, fun h => h⟩⟩ (.cons ⟨rfl, .inl ⟨rfl, fun h => h⟩⟩ (.cons ⟨rfl, .inl ⟨rfl, fun h => h⟩⟩ (.cons ⟨rfl, .inl ⟨rfl, fun h => h⟩⟩ (.cons ⟨rfl, .inl ⟨rfl, fun h => h⟩⟩ (.cons ⟨rfl, .inl ⟨rfl, fun h => h⟩⟩ (.cons ⟨rfl, .inl ⟨rfl, fun h => h⟩⟩ (.cons ⟨rfl, .inr (by first | exact verLt (v := v) (k := 0) (m := 2) rfl rfl | exact verLt (v := v) (k := 1) (m := 2) rfl rfl | exact verLt (v := v) (k := 2) (m := 2) rfl rfl)⟩ (.cons ⟨rfl, .inl ⟨rfl, fun h => h⟩⟩ (.cons ⟨rfl, .inr (by first | exact verLt (v := v) (k := 0) (m := 2) rfl rfl | exact verLt (v := v) (k := 1) (m := 2) rfl rfl | exact verLt (v := v) (k := 2) (m := 2) rfl rfl)⟩ (.cons ⟨rfl, .inl ⟨rfl, fun h => h⟩⟩ (.cons ⟨rfl, .inl ⟨rfl, fun h => h⟩⟩ (.cons ⟨rfl, .inl ⟨rfl, fun h => h⟩⟩ (.cons ⟨rfl, .inr (by first | exact verLt (v := v) (k := 0) (m := 2) rfl rfl | exact verLt (v := v) (k := 1) (m := 2) rfl rfl | exact verLt (v := v) (k := 2) (m := 2) rfl rfl)⟩ (.cons ⟨rfl, .inr (by first | exact verLt (v := v) (k := 0) (m := 2) rfl rfl | exact verLt (v := v) (k := 1) (m := 2) rfl rfl | exact verLt (v := v) (k := 2) (m := 2) rfl rfl)⟩ (.cons ⟨rfl, .inl ⟨rfl, fun h => h⟩⟩ (.cons ⟨rfl, .inl ⟨rfl, fun h => h⟩⟩ (.cons ⟨rfl, .inr (by first | exact verLt (v := v) (k := 0) (m := 2) rfl rfl | exact verLt (v := v) (k := 1) (m := 2) rfl rfl | exact verLt (v := v) (k := 2) (m := 2) rfl rfl)⟩ (.cons ⟨rfl, .inl ⟨rfl, fun h => h⟩⟩ (.cons ⟨rfl, .inl ⟨rfl, fun h => h⟩⟩ (.cons ⟨rfl, .inl ⟨rfl, fun h => h⟩⟩ .nil)))))))))))))))))))))))))) (.cons ⟨rfl, .roI⟩ (.cons ⟨rfl, .roI⟩ (.cons ⟨rfl, .roI⟩ (.cons ⟨rfl, .roI⟩ (.cons ⟨rfl, .roI⟩ (.cons ⟨rfl, .roI⟩ (.cons ⟨rfl, .inl rfl⟩ (.cons ⟨rfl, .inl rfl⟩ (.cons ⟨rfl, .inl rfl⟩ (.cons ⟨rfl, .inl rfl⟩ (.cons ⟨rfl, .inl rfl⟩ (.cons ⟨rfl, .inl rfl⟩ (.cons ⟨rfl, .inl rfl⟩ (.cons ⟨rfl, .inl rfl⟩ (.cons ⟨rfl, .inl rfl⟩ (.cons ⟨rfl, .inl rfl⟩ (.cons ⟨rfl, .inl rfl⟩ (.cons ⟨rfl, .gone⟩ (.cons ⟨rfl, .mapS keyNN rfl⟩ (.cons ⟨rfl, .inl rfl⟩ (.cons ⟨rfl, .inl rfl⟩ (.cons ⟨rfl, .inl rfl⟩ (.cons ⟨rfl, .loopE rfl⟩ (.cons ⟨rfl, .gone⟩ (.cons ⟨rfl, .gone⟩ (.cons ⟨rfl, .gone⟩ (.cons ⟨rfl, .inl rfl⟩ (.cons ⟨rfl, .cellsI⟩ (.cons ⟨rfl, .cellsBr⟩ (.cons ⟨rfl, .cellsBr⟩ (.cons ⟨rfl, .inl rfl⟩ .nil)))))))))))))))))))))))))))))))
        rintro ⟨at', out⟩ ⟨f1, f2, f3⟩
        dsimp only at f1 f2 f3 ⊢
        have hba := hback2 at' f1
        have hout : out.length ≤ k + 1 := by
          have := congrArg List.length f3
          simp only [List.length_append, List.length_reverse, List.length_cons, List.length_nil] at this
          omega
        conv => whnf
        repeat' first
          | ((refine Gets.ixE (es := 4) rfl rfl (by omega) ?_); conv => whnf)
          | ((refine Gets.ldQf (j := at') (f := 2) (x := (l2.getD at' default).fr) rfl rfl rfl f1 (by decide) rfl ?_); conv => whnf)
          | ((refine Gets.ldQf (j := at') (f := 3) (x := ((l2.getD at' default).inp : Int)) rfl rfl rfl f1 (by decide) rfl ?_); conv => whnf)
          | ((refine Gets.appI1 (ti := tiI) (l := out) (x := ((l2.getD at' default).inp : Int)) rfl rfl rfl rfl rfl (by decide) rfl rfl rfl (by omega) ?_); conv => whnf)
          | ((with_reducible refine Gets.shrN ?_ ?_); (· omega); conv => whnf)
          | ((with_reducible refine Gets.andOne ?_ ?_); (· first | omega | exact Nat.lt_of_le_of_lt (Nat.shiftRight_le _ _) (by omega)); conv => whnf)
          | ((with_reducible refine Gets.shlN ?_ ?_); (· omega); conv => whnf)
          | ((with_reducible refine Gets.shlI ?_ ?_ ?_); (· omega); (· omega); conv => whnf)
          | ((with_reducible refine Gets.quoI ?_ ?_ ?_ ?_); (· omega); (· omega); (· omega); conv => whnf)
          | ((with_reducible refine Gets.remN ?_ ?_ ?_); (· omega); (· omega); conv => whnf)
          | ((with_reducible refine Fork.bit (fun _ => ?_) (fun _ => ?_)) <;> (conv => whnf))
          | ((with_reducible refine Gets.addI ?_ ?_ ?_); (· omega); (· omega); conv => whnf)
          | ((with_reducible refine Gets.subI ?_ ?_ ?_); (· omega); (· omega); conv => whnf)
          | ((with_reducible refine Gets.mulI ?_ ?_ ?_); (· omega); (· omega); conv => whnf)
          | (refine Gets.of _ rfl ?_; conv => whnf)
          | (refine Gets.ix1v rfl rfl (by omega) ?_; conv => whnf)
          | (refine Gets.ix1 rfl rfl (by omega) ?_; conv => whnf)
          | (refine Gets.ixIv rfl rfl (by omega) (by omega) ?_; conv => whnf)
          | (refine Gets.ixI rfl rfl (by omega) (by omega) ?_; conv => whnf)
          | (refine Gets.ixEv (es := 2) rfl rfl (by omega) ?_; conv => whnf)
          | (refine Gets.ixE (es := 2) rfl rfl (by omega) ?_; conv => whnf)
          | (refine Gets.ldP (ti := tiP) rfl rfl rfl (by first | rfl | assumption) (by first | omega | exact Nat.le_of_ble_eq_true rfl) ?_; conv => whnf)
          | (refine Gets.ldI rfl (by first | rfl | assumption) (by first | omega | exact Nat.le_of_ble_eq_true rfl) ?_; conv => whnf)
          | (refine Gets.ldB rfl (by first | rfl | assumption) (by first | omega | exact Nat.le_of_ble_eq_true rfl) ?_; conv => whnf)
          | (refine Chk.mk (by repeat first | exact .nil | refine .cons rfl ?_) ?_; conv => whnf)
          | (refine Alls.mk ?_ ?_ <;> conv => whnf)
          | (refine seqL1_of ?_; conv => whnf)
          | (refine Fork.dec (fun _ => ?_) (fun _ => ?_) <;> first | (exfalso; omega) | (conv => whnf))
          | (refine Fork.eqI (fun _ => ?_) (fun _ => ?_) <;> first | (exfalso; omega) | (conv => whnf))
          | (refine Fork.neI (fun _ => ?_) (fun _ => ?_) <;> first | (exfalso; omega) | (conv => whnf))
          | (refine Fork.any (fun _ => ?_) (fun _ => ?_) <;> (conv => whnf))
        · rename_i hfr
          have hon := wayOf_on hback2 f1 (by omega)
          refine ⟨((l2.getD at' default).fr.toNat, out ++ [((l2.getD at' default).inp : Int)]), renL [0,1,2,3,4,5,6,7,8,9,10,11,12,13,14,15,16,17,18,19,20,21,22,23,24,25,26,27,28,29,32] 33, ⟨by show (l2.getD at' default).fr.toNat < _; omega, by simp, ?_⟩, by show (l2.getD at' default).fr.toNat < at'; omega, ⟨rfl, rfl, rfl, rfl, ?_, ?_, trivial⟩, ?_⟩
          · dsimp only
            rw [← f3, hon]
            simp
          · dsimp only
            rw [List.length_append]
            rfl
          · show AVal.int .i64 (l2.getD at' default).fr = .int .i64 (((l2.getD at' default).fr.toNat : Nat) : Int)
            congr 1
            omega
          · exact EmbL.litsN [0, 1, 2, 3, 4, 5, 6, 7, 8, 9, 10, 11, 12, 13, 14, 15, 16, 17, 18, 19, 20, 21, 22, 23, 24, 25, 26, 27, 28, 29, 32] rfl rfl rfl rfl (.cons ⟨rfl, .inl ⟨rfl, fun h => h⟩⟩ (.cons ⟨rfl, .inl ⟨rfl, fun h => h⟩⟩ (.cons ⟨rfl, .inl ⟨rfl, fun h => h⟩⟩ (.cons ⟨rfl, .inl ⟨rfl, fun h => h⟩⟩ (.cons ⟨rfl, .inl ⟨rfl, fun h => h⟩⟩ (.cons ⟨rfl, .inl ⟨rfl, fun h => h⟩⟩ (.cons ⟨rfl, .inl ⟨rfl, fun h => h⟩⟩ (.cons ⟨rfl, .inl ⟨rfl, fun h => h⟩⟩ (.cons ⟨rfl, .inl ⟨rfl, fun h => h⟩⟩ (.cons ⟨rfl, .inl ⟨rfl, fun h => h⟩⟩ (.cons ⟨rfl, .inl ⟨rfl, fun h => h⟩⟩ (.cons ⟨rfl, .inl ⟨rfl, fun h => h⟩⟩ (.cons ⟨rfl, .inl ⟨rfl, fun h => h⟩⟩ (.cons ⟨rfl, .inl ⟨rfl, fun h => h⟩⟩ (.cons ⟨rfl, .inl ⟨rfl, fun h => h⟩⟩ (.cons ⟨rfl, .inl ⟨rfl, fun h => h⟩⟩ (.cons ⟨rfl, .inl ⟨rfl, fun h => h⟩⟩ (.cons ⟨rfl, .inl ⟨rfl, fun h => h⟩⟩ (.cons ⟨rfl, .inl ⟨rfl, fun h => h⟩⟩ (.cons ⟨rfl, .inl ⟨rfl, fun h => h⟩⟩ (.cons ⟨rfl, .inl ⟨rfl, fun h => h⟩⟩ (.cons ⟨rfl, .inl ⟨rfl, fun h => h⟩⟩ (.cons ⟨rfl, .inl ⟨rfl, fun h => h⟩⟩ (.cons ⟨rfl, .inl ⟨rfl, fun h => h⟩⟩ (.cons ⟨rfl, .inl ⟨rfl, fun h => h⟩⟩ (.cons ⟨rfl, .inl ⟨rfl, fun h => h⟩⟩ .nil)))))))))))))))))))))))))) (.cons ⟨rfl, .roI⟩ (.cons ⟨rfl, .roI⟩ (.cons ⟨rfl, .roI⟩ (.cons ⟨rfl, .roI⟩ (.cons ⟨rfl, .roI⟩ (.cons ⟨rfl, .roI⟩ (.cons ⟨rfl, .inl rfl⟩ (.cons ⟨rfl, .inl rfl⟩ (.cons ⟨rfl, .inl rfl⟩ (.cons ⟨rfl, .inl rfl⟩ (.cons ⟨rfl, .inl rfl⟩ (.cons ⟨rfl, .inl rfl⟩ (.cons ⟨rfl, .inl rfl⟩ (.cons ⟨rfl, .inl rfl⟩ (.cons ⟨rfl, .inl rfl⟩ (.cons ⟨rfl, .inl rfl⟩ (.cons ⟨rfl, .inl rfl⟩ (.cons ⟨rfl, .gone⟩ (.cons ⟨rfl, .mapS keyNN rfl⟩ (.cons ⟨rfl, .inl rfl⟩ (.cons ⟨rfl, .inl rfl⟩ (.cons ⟨rfl, .inl rfl⟩ (.cons ⟨rfl, .loopE rfl⟩ (.cons ⟨rfl, .gone⟩ (.cons ⟨rfl, .gone⟩ (.cons ⟨rfl, .gone⟩ (.cons ⟨rfl, .inl rfl⟩ (.cons ⟨rfl, .cellsI⟩ (.cons ⟨rfl, .cellsB⟩ (.cons ⟨rfl, .cellsB⟩ (.cons ⟨rfl, .cellsI⟩ .nil)))))))))))))))))))))))))))))))
        · rename_i hfr
          rw [wayOf_stop (by omega), List.reverse_nil, List.append_nil] at f3
          have hrev : out.reverse = wayOf l2 (k + 1) k ++ [(j : Int)] := by rw [f3, List.reverse_reverse]
          refine CallS.of (by kernel_rfl) ((reverse39 out (List.length_pos_iff.2 f2) (by omega)).frameQ [30] rfl (.cons ⟨rfl, .cellsI⟩ .nil) ?_) rfl ?_
          · rintro _ _ ⟨rfl, k', rfl⟩
            exact .cons (.inr rfl) .nil
          rintro _ _ ⟨_, _, ⟨rfl, k', rfl⟩, rfl, rfl⟩
          conv => whnf
          repeat' first
            | ((with_reducible refine Gets.shrN ?_ ?_); (· omega); conv => whnf)
            | ((with_reducible refine Gets.andOne ?_ ?_); (· first | omega | exact Nat.lt_of_le_of_lt (Nat.shiftRight_le _ _) (by omega)); conv => whnf)
            | ((with_reducible refine Gets.shlN ?_ ?_); (· omega); conv => whnf)
            | ((with_reducible refine Gets.shlI ?_ ?_ ?_); (· omega); (· omega); conv => whnf)
            | ((with_reducible refine Gets.quoI ?_ ?_ ?_ ?_); (· omega); (· omega); (· omega); conv => whnf)
            | ((with_reducible refine Gets.remN ?_ ?_ ?_); (· omega); (· omega); conv => whnf)
            | ((with_reducible refine Fork.bit (fun _ => ?_) (fun _ => ?_)) <;> (conv => whnf))
            | ((with_reducible refine Gets.addI ?_ ?_ ?_); (· omega); (· omega); conv => whnf)
            | ((with_reducible refine Gets.subI ?_ ?_ ?_); (· omega); (· omega); conv => whnf)
            | ((with_reducible refine Gets.mulI ?_ ?_ ?_); (· omega); (· omega); conv => whnf)
            | (refine Gets.of _ rfl ?_; conv => whnf)
            | (refine Gets.ix1v rfl rfl (by omega) ?_; conv => whnf)
            | (refine Gets.ix1 rfl rfl (by omega) ?_; conv => whnf)
            | (refine Gets.ixIv rfl rfl (by omega) (by omega) ?_; conv => whnf)
            | (refine Gets.ixI rfl rfl (by omega) (by omega) ?_; conv => whnf)
            | (refine Gets.ixEv (es := 2) rfl rfl (by omega) ?_; conv => whnf)
            | (refine Gets.ixE (es := 2) rfl rfl (by omega) ?_; conv => whnf)
            | (refine Gets.ldP (ti := tiP) rfl rfl rfl (by first | rfl | assumption) (by first | omega | exact Nat.le_of_ble_eq_true rfl) ?_; conv => whnf)
            | (refine Gets.ldI rfl (by first | rfl | assumption) (by first | omega | exact Nat.le_of_ble_eq_true rfl) ?_; conv => whnf)
            | (refine Gets.ldB rfl (by first | rfl | assumption) (by first | omega | exact Nat.le_of_ble_eq_true rfl) ?_; conv => whnf)
            | (refine Chk.mk (by repeat first | exact .nil | refine .cons rfl ?_) ?_; conv => whnf)
            | (refine Alls.mk ?_ ?_ <;> conv => whnf)
            | (refine seqL1_of ?_; conv => whnf)
            | (refine Fork.dec (fun _ => ?_) (fun _ => ?_) <;> first | (exfalso; omega) | (conv => whnf))
            | (refine Fork.eqI (fun _ => ?_) (fun _ => ?_) <;> first | (exfalso; omega) | (conv => whnf))
            | (refine Fork.neI (fun _ => ?_) (fun _ => ?_) <;> first | (exfalso; omega) | (conv => whnf))
            | (refine Fork.any (fun _ => ?_) (fun _ => ?_) <;> (conv => whnf))
          refine ⟨_, rfl, fun i => i, .bool false, _, EmbL.id (Nat.le_of_ble_eq_true rfl), rfl, ?_⟩
          conv => whnf
          repeat' first
            | ((with_reducible refine Gets.shrN ?_ ?_); (· omega); conv => whnf)
            | ((with_reducible refine Gets.andOne ?_ ?_); (· first | omega | exact Nat.lt_of_le_of_lt (Nat.shiftRight_le _ _) (by omega)); conv => whnf)
            | ((with_reducible refine Gets.shlN ?_ ?_); (· omega); conv => whnf)
            | ((with_reducible refine Gets.shlI ?_ ?_ ?_); (· omega); (· omega); conv => whnf)
            | ((with_reducible refine Gets.quoI ?_ ?_ ?_ ?_); (· omega); (· omega); (· omega); conv => whnf)
            | ((with_reducible refine Gets.remN ?_ ?_ ?_); (· omega); (· omega); conv => whnf)
            | ((with_reducible refine Fork.bit (fun _ => ?_) (fun _ => ?_)) <;> (conv => whnf))
            | ((with_reducible refine Gets.addI ?_ ?_ ?_); (· omega); (· omega); conv => whnf)
            | ((with_reducible refine Gets.subI ?_ ?_ ?_); (· omega); (· omega); conv => whnf)
            | ((with_reducible refine Gets.mulI ?_ ?_ ?_); (· omega); (· omega); conv => whnf)
            | (refine Gets.of _ rfl ?_; conv => whnf)
            | (refine Gets.ix1v rfl rfl (by omega) ?_; conv => whnf)
            | (refine Gets.ix1 rfl rfl (by omega) ?_; conv => whnf)
            | (refine Gets.ixIv rfl rfl (by omega) (by omega) ?_; conv => whnf)
            | (refine Gets.ixI rfl rfl (by omega) (by omega) ?_; conv => whnf)
            | (refine Gets.ixEv (es := 2) rfl rfl (by omega) ?_; conv => whnf)
            | (refine Gets.ixE (es := 2) rfl rfl (by omega) ?_; conv => whnf)
            | (refine Gets.ldP (ti := tiP) rfl rfl rfl (by first | rfl | assumption) (by first | omega | exact Nat.le_of_ble_eq_true rfl) ?_; conv => whnf)
            | (refine Gets.ldI rfl (by first | rfl | assumption) (by first | omega | exact Nat.le_of_ble_eq_true rfl) ?_; conv => whnf)
            | (refine Gets.ldB rfl (by first | rfl | assumption) (by first | omega | exact Nat.le_of_ble_eq_true rfl) ?_; conv => whnf)
            | (refine Chk.mk (by repeat first | exact .nil | refine .cons rfl ?_) ?_; conv => whnf)
            | (refine Alls.mk ?_ ?_ <;> conv => whnf)
            | (refine seqL1_of ?_; conv => whnf)
            | (refine Fork.dec (fun _ => ?_) (fun _ => ?_) <;> first | (exfalso; omega) | (conv => whnf))
            | (refine Fork.eqI (fun _ => ?_) (fun _ => ?_) <;> first | (exfalso; omega) | (conv => whnf))
            | (refine Fork.neI (fun _ => ?_) (fun _ => ?_) <;> first | (exfalso; omega) | (conv => whnf))
            | (refine Fork.any (fun _ => ?_) (fun _ => ?_) <;> (conv => whnf))
          rw [← hrev] at hapart
          refine ⟨renL [0,1,2,3,4,5,6,7,8,9,10,11,12,13,14,15,16,17,18,19,20,21,22,27,28,29,30] 31, .tuple [], wF c d out.reverse l2 (some (c.vals j x.a)) (some (d.vals j x.b)) (v + 9), ?_, rfl, rfl, l2, some (c.vals j x.a), some (d.vals j x.b), v + 9, .inr ⟨out.reverse, hapart, by rw [hrev]; simp, by rw [List.length_reverse]; omega, rfl⟩⟩
          refine EmbL.litsN [0, 1, 2, 3, 4, 5, 6, 7, 8, 9, 10, 11, 12, 13, 14, 15, 16, 17, 18, 19, 20, 21, 22, 27, 28, 29, 30] rfl rfl rfl rfl (.cons ⟨rfl, .inl ⟨rfl, fun h => h⟩⟩ (.cons ⟨rfl, .inl ⟨rfl, fun h => h⟩⟩ (.cons ⟨rfl, .inl ⟨rfl, fun h => h⟩⟩ (.cons ⟨rfl, .inl ⟨rfl, fun h => h⟩⟩ (.cons ⟨rfl, .inl ⟨rfl, fun h => h⟩⟩ (.cons ⟨rfl, .inl ⟨rfl, fun h => h⟩⟩ (.cons ⟨rfl, .inl ⟨rfl, fun h => h⟩⟩ (.cons ⟨rfl, .inl ⟨rfl, fun h => h⟩⟩ (.cons ⟨rfl, .inr (verK (v := v) (k := 1) (m := 9) rfl rfl)⟩ (.cons ⟨rfl, .inr (verK (v := v) (k := 1) (m := 9) rfl rfl)⟩ (.cons ⟨rfl, .inr (verK (v := v) (k := 1) (m := 9) rfl rfl)⟩ (.cons ⟨rfl, .inl ⟨rfl, fun h => h⟩⟩ (.cons ⟨rfl, .inr (by first | exact verLt (v := v) (k := 0) (m := 9) rfl rfl | exact verLt (v := v) (k := 1) (m := 9) rfl rfl | exact verLt (v := v) (k := 2) (m := 9) rfl rfl | exact verLt (v := v) (k := 3) (m := 9) rfl rfl | exact verLt (v := v) (k := 4) (m := 9) rfl rfl)⟩ (.cons ⟨rfl, .inl ⟨rfl, fun h => h⟩⟩ (.cons ⟨rfl, .inr (by first | exact verLt (v := v) (k := 0) (m := 9) rfl rfl | exact verLt (v := v) (k := 1) (m := 9) rfl rfl | exact verLt (v := v) (k := 2) (m := 9) rfl rfl | exact verLt (v := v) (k := 3) (m := 9) rfl rfl | exact verLt (v := v) (k := 4) (m := 9) rfl rfl)⟩ (.cons ⟨rfl, .inl ⟨rfl, fun h => h⟩⟩ (.cons ⟨rfl, .inl ⟨rfl, fun h => h⟩⟩ (.cons ⟨rfl, .inl ⟨rfl, fun h => h⟩⟩ (.cons ⟨rfl, .inr (by first | exact verLt (v := v) (k := 0) (m := 9) rfl rfl | exact verLt (v := v) (k := 1) (m := 9) rfl rfl | exact verLt (v := v) (k := 2) (m := 9) rfl rfl | exact verLt (v := v) (k := 3) (m := 9) rfl rfl | exact verLt (v := v) (k := 4) (m := 9) rfl rfl)⟩ (.cons ⟨rfl, .inr (by first | exact verLt (v := v) (k := 0) (m := 9) rfl rfl | exact verLt (v := v) (k := 1) (m := 9) rfl rfl | exact verLt (v := v) (k := 2) (m := 9) rfl rfl | exact verLt (v := v) (k := 3) (m := 9) rfl rfl | exact verLt (v := v) (k := 4) (m := 9) rfl rfl)⟩ (.cons ⟨rfl, .inl ⟨rfl, fun h => h⟩⟩ (.cons ⟨rfl, .inl ⟨rfl, fun h => h⟩⟩ (.cons ⟨rfl, .inr (by first | exact verLt (v := v) (k := 0) (m := 9) rfl rfl | exact verLt (v := v) (k := 1) (m := 9) rfl rfl | exact verLt (v := v) (k := 2) (m := 9) rfl rfl | exact verLt (v := v) (k := 3) (m := 9) rfl rfl | exact verLt (v := v) (k := 4) (m := 9) rfl rfl)⟩ .nil))))))))))))))))))))))) (.cons ⟨rfl, .roI⟩ (.cons ⟨rfl, .roI⟩ (.cons ⟨rfl, .roI⟩ (.cons ⟨rfl, .roI⟩ (.cons ⟨rfl, .roI⟩ (.cons ⟨rfl, .roI⟩ (.cons ⟨rfl, .inl rfl⟩ (.cons ⟨rfl, .inl rfl⟩ (.cons ⟨rfl, .inl rfl⟩ (.cons ⟨rfl, ?_⟩ (.cons ⟨rfl, .inl rfl⟩ (.cons ⟨rfl, .inl rfl⟩ (.cons ⟨rfl, .inl rfl⟩ (.cons ⟨rfl, .inl rfl⟩ (.cons ⟨rfl, .inl rfl⟩ (.cons ⟨rfl, .inl rfl⟩ (.cons ⟨rfl, .inl rfl⟩ (.cons ⟨rfl, .gone⟩ (.cons ⟨rfl, .mapS keyNN rfl⟩ (.cons ⟨rfl, .inl rfl⟩ (.cons ⟨rfl, .inl rfl⟩ (.cons ⟨rfl, .inl rfl⟩ (.cons ⟨rfl, .loopE rfl⟩ (.cons ⟨rfl, .cellsI⟩ (.cons ⟨rfl, .cellsB⟩ (.cons ⟨rfl, .cellsB⟩ (.cons ⟨rfl, .cellsIr⟩ .nil)))))))))))))))))))))))))))
          refine .inl ?_
          show ABlk.cells 1 [.slice 30 0 out.length] = .cells 1 [.slice 30 0 out.reverse.length]
          rw [List.length_reverse]
      · have heq : (c.outv j x.a != d.outv j x.b) = false := by rw [bne_eq_false_iff_eq]; omega
        generalize c.nxt j x.a = s at *
        generalize d.nxt j x.b = t at *
        by_cases hmem : (s, t) ∈ pairsOf l2
        · refine Gets.setYes keyNN (by kernel_rfl) (a := (s, t)) (l := pairsOf l2) rfl hmem ?_
          conv => whnf
          repeat' first
            | ((with_reducible refine Gets.shrN ?_ ?_); (· omega); conv => whnf)
            | ((with_reducible refine Gets.andOne ?_ ?_); (· first | omega | exact Nat.lt_of_le_of_lt (Nat.shiftRight_le _ _) (by omega)); conv => whnf)
            | ((with_reducible refine Gets.shlN ?_ ?_); (· omega); conv => whnf)
            | ((with_reducible refine Gets.shlI ?_ ?_ ?_); (· omega); (· omega); conv => whnf)
            | ((with_reducible refine Gets.quoI ?_ ?_ ?_ ?_); (· omega); (· omega); (· omega); conv => whnf)
            | ((with_reducible refine Gets.remN ?_ ?_ ?_); (· omega); (· omega); conv => whnf)
            | ((with_reducible refine Fork.bit (fun _ => ?_) (fun _ => ?_)) <;> (conv => whnf))
            | ((with_reducible refine Gets.addI ?_ ?_ ?_); (· omega); (· omega); conv => whnf)
            | ((with_reducible refine Gets.subI ?_ ?_ ?_); (· omega); (· omega); conv => whnf)
            | ((with_reducible refine Gets.mulI ?_ ?_ ?_); (· omega); (· omega); conv => whnf)
            | (refine Gets.of _ rfl ?_; conv => whnf)
            | (refine Gets.ix1v rfl rfl (by omega) ?_; conv => whnf)
            | (refine Gets.ix1 rfl rfl (by omega) ?_; conv => whnf)
            | (refine Gets.ixIv rfl rfl (by omega) (by omega) ?_; conv => whnf)
            | (refine Gets.ixI rfl rfl (by omega) (by omega) ?_; conv => whnf)
            | (refine Gets.ixEv (es := 2) rfl rfl (by omega) ?_; conv => whnf)
            | (refine Gets.ixE (es := 2) rfl rfl (by omega) ?_; conv => whnf)
            | (refine Gets.ldP (ti := tiP) rfl rfl rfl (by first | rfl | assumption) (by first | omega | exact Nat.le_of_ble_eq_true rfl) ?_; conv => whnf)
            | (refine Gets.ldI rfl (by first | rfl | assumption) (by first | omega | exact Nat.le_of_ble_eq_true rfl) ?_; conv => whnf)
            | (refine Gets.ldB rfl (by first | rfl | assumption) (by first | omega | exact Nat.le_of_ble_eq_true rfl) ?_; conv => whnf)
            | (refine Chk.mk (by repeat first | exact .nil | refine .cons rfl ?_) ?_; conv => whnf)
            | (refine Alls.mk ?_ ?_ <;> conv => whnf)
            | (refine seqL1_of ?_; conv => whnf)
            | (refine Fork.dec (fun _ => ?_) (fun _ => ?_) <;> first | (exfalso; omega) | (conv => whnf))
            | (refine Fork.eqI (fun _ => ?_) (fun _ => ?_) <;> first | (exfalso; omega) | (conv => whnf))
            | (refine Fork.neI (fun _ => ?_) (fun _ => ?_) <;> first | (exfalso; omega) | (conv => whnf))
            | (refine Fork.any (fun _ => ?_) (fun _ => ?_) <;> (conv => whnf))
          have hs2 : insP l2 ⟨s, t, k, j⟩ = l2 := if_pos hmem
          refine ⟨(j + 1, (some (c.vals j x.a), some (d.vals j x.b)), v + 2), renL [0,1,2,3,4,5,6,7,8,9,10,11,12,13,14,15,16,17,18,19,20,21,22,23,24,25,26,27,30,31] 33, ⟨by show j + 1 ≤ _; omega, lt_succ_all g4 heq⟩, by show _ - (j + 1) < _; omega, ⟨rfl, rfl, rfl, rfl, rfl, rfl, rfl, rfl, rfl, rfl, rfl, trivial⟩, ?_⟩
          dsimp only
          rw [hstep, hs2]
          exact EmbL.litsN [0, 1, 2, 3, 4, 5, 6, 7, 8, 9, 10, 11, 12, 13, 14, 15, 16, 17, 18, 19, 20, 21, 22, 23, 24, 25, 26, 27, 30, 31] rfl rfl rfl rfl (.cons ⟨rfl, .inl ⟨rfl, fun h => h⟩⟩ (.cons ⟨rfl, .inl ⟨rfl, fun h => h⟩⟩ (.cons ⟨rfl, .inl ⟨rfl, fun h => h⟩⟩ (.cons ⟨rfl, .inl ⟨rfl, fun h => h⟩⟩ (.cons ⟨rfl, .inl ⟨rfl, fun h => h⟩⟩ (.cons ⟨rfl, .inl ⟨rfl, fun h => h⟩⟩ (.cons ⟨rfl, .inl ⟨rfl, fun h => h⟩⟩ (.cons ⟨rfl, .inl ⟨rfl, fun h => h⟩⟩ (.cons ⟨rfl, .inl ⟨rfl, fun h => h⟩⟩ (.cons ⟨rfl, .inl ⟨rfl, fun h => h⟩⟩ (.cons ⟨rfl, .inl ⟨rfl, fun h => h⟩⟩ (.cons ⟨rfl, .inl ⟨rfl, fun h => h⟩⟩ (.cons ⟨rfl, .inr (by first | exact verLt (v := v) (k := 0) (m := 2) rfl rfl | exact verLt (v := v) (k := 1) (m := 2) rfl rfl | exact verLt (v := v) (k := 2) (m := 2) rfl rfl)⟩ (.cons ⟨rfl, .inl ⟨rfl, fun h => h⟩⟩ (.cons ⟨rfl, .inr (by first | exact verLt (v := v) (k := 0) (m := 2) rfl rfl | exact verLt (v := v) (k := 1) (m := 2) rfl rfl | exact verLt (v := v) (k := 2) (m := 2) rfl rfl)⟩ (.cons ⟨rfl, .inl ⟨rfl, fun h => h⟩⟩ (.cons ⟨rfl, .inl ⟨rfl, fun h => h⟩⟩ (.cons ⟨rfl, .inl ⟨rfl, fun h => h⟩⟩ (.cons ⟨rfl, .inr (by first | exact verLt (v := v) (k := 0) (m := 2) rfl rfl | exact verLt (v := v) (k := 1) (m := 2) rfl rfl | exact verLt (v := v) (k := 2) (m := 2) rfl rfl)⟩ (.cons ⟨rfl, .inr (by first | exact verLt (v := v) (k := 0) (m := 2) rfl rfl | exact verLt (v := v) (k := 1) (m := 2) rfl rfl | exact verLt (v := v) (k := 2) (m := 2) rfl rfl)⟩ (.cons ⟨rfl, .inl ⟨rfl, fun h => h⟩⟩ (.cons ⟨rfl, .inl ⟨rfl, fun h => h⟩⟩ (.cons ⟨rfl, .inr (by first | exact verLt (v := v) (k := 0) (m := 2) rfl rfl | exact verLt (v := v) (k := 1) (m := 2) rfl rfl | exact verLt (v := v) (k := 2) (m := 2) rfl rfl)⟩ (.cons ⟨rfl, .inl ⟨rfl, fun h => h⟩⟩ (.cons ⟨rfl, .inl ⟨rfl, fun h => h⟩⟩ (.cons ⟨rfl, .inl ⟨rfl, fun h => h⟩⟩ .nil)))))))))))))))))))))))))) (.cons ⟨rfl, .roI⟩ (.cons ⟨rfl, .roI⟩ (.cons ⟨rfl, .roI⟩ (.cons ⟨rfl, .roI⟩ (.cons ⟨rfl, .roI⟩ (.cons ⟨rfl, .roI⟩ (.cons ⟨rfl, .inl rfl⟩ (.cons ⟨rfl, .inl rfl⟩ (.cons ⟨rfl, .inl rfl⟩ (.cons ⟨rfl, .inl rfl⟩ (.cons ⟨rfl, .inl rfl⟩ (.cons ⟨rfl, .inl rfl⟩ (.cons ⟨rfl, .inl rfl⟩ (.cons ⟨rfl, .inl rfl⟩ (.cons ⟨rfl, .inl rfl⟩ (.cons ⟨rfl, .inl rfl⟩ (.cons ⟨rfl, .inl rfl⟩ (.cons ⟨rfl, .gone⟩ (.cons ⟨rfl, .mapS keyNN rfl⟩ (.cons ⟨rfl, .inl rfl⟩ (.cons ⟨rfl, .inl rfl⟩ (.cons ⟨rfl, .inl rfl⟩ (.cons ⟨rfl, .loopE rfl⟩ (.cons ⟨rfl, .gone⟩ (.cons ⟨rfl, .gone⟩ (.cons ⟨rfl, .gone⟩ (.cons ⟨rfl, .inl rfl⟩ (.cons ⟨rfl, .cellsI⟩ (.cons ⟨rfl, .cellsBr⟩ (.cons ⟨rfl, .cellsBr⟩ .nil))))))))))))))))))))))))))))))
        · refine Gets.setNo keyNN (by kernel_rfl) (a := (s, t)) (l := pairsOf l2) rfl hmem ?_
          conv => whnf
          repeat' first
            | ((refine Gets.setPut keyNN (by kernel_rfl) (l := pairsOf l2) (a := (s, t)) rfl hmem ?_); conv => whnf)
            | ((refine Gets.appQ1 (ti := tiQ) (l := l2) (x := ⟨s, t, k, j⟩) rfl rfl rfl rfl rfl (by decide) rfl rfl rfl (by omega) ?_); conv => whnf)
            | ((with_reducible refine Gets.shrN ?_ ?_); (· omega); conv => whnf)
            | ((with_reducible refine Gets.andOne ?_ ?_); (· first | omega | exact Nat.lt_of_le_of_lt (Nat.shiftRight_le _ _) (by omega)); conv => whnf)
            | ((with_reducible refine Gets.shlN ?_ ?_); (· omega); conv => whnf)
            | ((with_reducible refine Gets.shlI ?_ ?_ ?_); (· omega); (· omega); conv => whnf)
            | ((with_reducible refine Gets.quoI ?_ ?_ ?_ ?_); (· omega); (· omega); (· omega); conv => whnf)
            | ((with_reducible refine Gets.remN ?_ ?_ ?_); (· omega); (· omega); conv => whnf)
            | ((with_reducible refine Fork.bit (fun _ => ?_) (fun _ => ?_)) <;> (conv => whnf))
            | ((with_reducible refine Gets.addI ?_ ?_ ?_); (· omega); (· omega); conv => whnf)
            | ((with_reducible refine Gets.subI ?_ ?_ ?_); (· omega); (· omega); conv => whnf)
            | ((with_reducible refine Gets.mulI ?_ ?_ ?_); (· omega); (· omega); conv => whnf)
            | (refine Gets.of _ rfl ?_; conv => whnf)
            | (refine Gets.ix1v rfl rfl (by omega) ?_; conv => whnf)
            | (refine Gets.ix1 rfl rfl (by omega) ?_; conv => whnf)
            | (refine Gets.ixIv rfl rfl (by omega) (by omega) ?_; conv => whnf)
            | (refine Gets.ixI rfl rfl (by omega) (by omega) ?_; conv => whnf)
            | (refine Gets.ixEv (es := 2) rfl rfl (by omega) ?_; conv => whnf)
            | (refine Gets.ixE (es := 2) rfl rfl (by omega) ?_; conv => whnf)
            | (refine Gets.ldP (ti := tiP) rfl rfl rfl (by first | rfl | assumption) (by first | omega | exact Nat.le_of_ble_eq_true rfl) ?_; conv => whnf)
            | (refine Gets.ldI rfl (by first | rfl | assumption) (by first | omega | exact Nat.le_of_ble_eq_true rfl) ?_; conv => whnf)
            | (refine Gets.ldB rfl (by first | rfl | assumption) (by first | omega | exact Nat.le_of_ble_eq_true rfl) ?_; conv => whnf)
            | (refine Chk.mk (by repeat first | exact .nil | refine .cons rfl ?_) ?_; conv => whnf)
            | (refine Alls.mk ?_ ?_ <;> conv => whnf)
            | (refine seqL1_of ?_; conv => whnf)
            | (refine Fork.dec (fun _ => ?_) (fun _ => ?_) <;> first | (exfalso; omega) | (conv => whnf))
            | (refine Fork.eqI (fun _ => ?_) (fun _ => ?_) <;> first | (exfalso; omega) | (conv => whnf))
            | (refine Fork.neI (fun _ => ?_) (fun _ => ?_) <;> first | (exfalso; omega) | (conv => whnf))
            | (refine Fork.any (fun _ => ?_) (fun _ => ?_) <;> (conv => whnf))
          have hs2 : insP l2 ⟨s, t, k, j⟩ = l2 ++ [⟨s, t, k, j⟩] := if_neg hmem
          refine ⟨(j + 1, (some (c.vals j x.a), some (d.vals j x.b)), v + 2), renL [0,1,2,3,4,5,6,7,8,9,10,11,12,13,14,15,16,17,18,19,20,21,22,23,24,25,26,34,30,31] 35, ⟨by show j + 1 ≤ _; omega, lt_succ_all g4 heq⟩, by show _ - (j + 1) < _; omega, ⟨rfl, rfl, rfl, rfl, rfl, rfl, rfl, rfl, rfl, rfl, rfl, trivial⟩, ?_⟩
          dsimp only
          rw [hstep, hs2]
          refine EmbL.litsN [0, 1, 2, 3, 4, 5, 6, 7, 8, 9, 10, 11, 12, 13, 14, 15, 16, 17, 18, 19, 20, 21, 22, 23, 24, 25, 26, 34, 30, 31] rfl rfl rfl rfl (.cons ⟨rfl, .inl ⟨rfl, fun h => h⟩⟩ (.cons ⟨rfl, .inl ⟨rfl, fun h => h⟩⟩ (.cons ⟨rfl, .inl ⟨rfl, fun h => h⟩⟩ (.cons ⟨rfl, .inl ⟨rfl, fun h => h⟩⟩ (.cons ⟨rfl, .inl ⟨rfl, fun h => h⟩⟩ (.cons ⟨rfl, .inl ⟨rfl, fun h => h⟩⟩ (.cons ⟨rfl, .inl ⟨rfl, fun h => h⟩⟩ (.cons ⟨rfl, .inl ⟨rfl, fun h => h⟩⟩ (.cons ⟨rfl, .inl ⟨rfl, fun h => h⟩⟩ (.cons ⟨rfl, .inl ⟨rfl, fun h => h⟩⟩ (.cons ⟨rfl, .inl ⟨rfl, fun h => h⟩⟩ (.cons ⟨rfl, .inl ⟨rfl, fun h => h⟩⟩ (.cons ⟨rfl, .inr (by first | exact verLt (v := v) (k := 0) (m := 2) rfl rfl | exact verLt (v := v) (k := 1) (m := 2) rfl rfl | exact verLt (v := v) (k := 2) (m := 2) rfl rfl)⟩ (.cons ⟨rfl, .inl ⟨rfl, fun h => h⟩⟩ (.cons ⟨rfl, .inr (by first | exact verLt (v := v) (k := 0) (m := 2) rfl rfl | exact verLt (v := v) (k := 1) (m := 2) rfl rfl | exact verLt (v := v) (k := 2) (m := 2) rfl rfl)⟩ (.cons ⟨rfl, .inl ⟨rfl, fun h => h⟩⟩ (.cons ⟨rfl, .inl ⟨rfl, fun h => h⟩⟩ (.cons ⟨rfl, .inl ⟨rfl, fun h => h⟩⟩ (.cons ⟨rfl, .inr (by first | exact verLt (v := v) (k := 0) (m := 2) rfl rfl | exact verLt (v := v) (k := 1) (m := 2) rfl rfl | exact verLt (v := v) (k := 2) (m := 2) rfl rfl)⟩ (.cons ⟨rfl, .inr (by first | exact verLt (v := v) (k := 0) (m := 2) rfl rfl | exact verLt (v := v) (k := 1) (m := 2) rfl rfl | exact verLt (v := v) (k := 2) (m := 2) rfl rfl)⟩ (.cons ⟨rfl, .inl ⟨rfl, fun h => h⟩⟩ (.cons ⟨rfl, .inl ⟨rfl, fun h => h⟩⟩ (.cons ⟨rfl, .inr (by first | exact verLt (v := v) (k := 0) (m := 2) rfl rfl | exact verLt (v := v) (k := 1) (m := 2) rfl rfl | exact verLt (v := v) (k := 2) (m := 2) rfl rfl)⟩ (.cons ⟨rfl, .inl ⟨rfl, fun h => h⟩⟩ (.cons ⟨rfl, .inl ⟨rfl, fun h => h⟩⟩ (.cons ⟨rfl, .inl ⟨rfl, fun h => h⟩⟩ .nil)))))))))))))))))))))))))) (.cons ⟨rfl, .roI⟩ (.cons ⟨rfl, .roI⟩ (.cons ⟨rfl, .roI⟩ (.cons ⟨rfl, .roI⟩ (.cons ⟨rfl, .roI⟩ (.cons ⟨rfl, .roI⟩ (.cons ⟨rfl, .inl rfl⟩ (.cons ⟨rfl, .inl rfl⟩ (.cons ⟨rfl, .inl rfl⟩ (.cons ⟨rfl, .inl rfl⟩ (.cons ⟨rfl, .inl rfl⟩ (.cons ⟨rfl, .inl rfl⟩ (.cons ⟨rfl, .inl rfl⟩ (.cons ⟨rfl, .inl rfl⟩ (.cons ⟨rfl, .inl rfl⟩ (.cons ⟨rfl, .inl rfl⟩ (.cons ⟨rfl, .inl rfl⟩ (.cons ⟨rfl, .gone⟩ (.cons ⟨rfl, .mapS keyNN (by simp [pairsOf])⟩ (.cons ⟨rfl, ?_⟩ (.cons ⟨rfl, .inl rfl⟩ (.cons ⟨rfl, .inl rfl⟩ (.cons ⟨rfl, .loopE rfl⟩ (.cons ⟨rfl, .gone⟩ (.cons ⟨rfl, .gone⟩ (.cons ⟨rfl, .gone⟩ (.cons ⟨rfl, .inl rfl⟩ (.cons ⟨rfl, .cellsIe rfl⟩ (.cons ⟨rfl, .cellsBr⟩ (.cons ⟨rfl, .cellsBr⟩ .nil))))))))))))))))))))))))))))))
          refine .inl ?_
          show ABlk.cells 1 [.slice 34 0 (l2.length + 1)] = .cells 1 [.slice 34 0 (l2 ++ [_]).length]
          rw [List.length_append]
          rfl
    · have hj : j = c.many := by omega
      subst hj
      have hno : (two c d).diff k = none := by rw [hdiff]; exact find_miss g4
      rw [hl2e] at hnext
      refine ⟨_, rfl, fun i => i, .bool true, _, EmbL.id (Nat.le_of_ble_eq_true rfl), rfl, ?_⟩
      conv => whnf
      repeat' first
        | ((with_reducible refine Gets.shrN ?_ ?_); (· omega); conv => whnf)
        | ((with_reducible refine Gets.andOne ?_ ?_); (· first | omega | exact Nat.lt_of_le_of_lt (Nat.shiftRight_le _ _) (by omega)); conv => whnf)
        | ((with_reducible refine Gets.shlN ?_ ?_); (· omega); conv => whnf)
        | ((with_reducible refine Gets.shlI ?_ ?_ ?_); (· omega); (· omega); conv => whnf)
        | ((with_reducible refine Gets.quoI ?_ ?_ ?_ ?_); (· omega); (· omega); (· omega); conv => whnf)
        | ((with_reducible refine Gets.remN ?_ ?_ ?_); (· omega); (· omega); conv => whnf)
        | ((with_reducible refine Fork.bit (fun _ => ?_) (fun _ => ?_)) <;> (conv => whnf))
        | ((with_reducible refine Gets.addI ?_ ?_ ?_); (· omega); (· omega); conv => whnf)
        | ((with_reducible refine Gets.subI ?_ ?_ ?_); (· omega); (· omega); conv => whnf)
        | ((with_reducible refine Gets.mulI ?_ ?_ ?_); (· omega); (· omega); conv => whnf)
        | (refine Gets.of _ rfl ?_; conv => whnf)
        | (refine Gets.ix1v rfl rfl (by omega) ?_; conv => whnf)
        | (refine Gets.ix1 rfl rfl (by omega) ?_; conv => whnf)
        | (refine Gets.ixIv rfl rfl (by omega) (by omega) ?_; conv => whnf)
        | (refine Gets.ixI rfl rfl (by omega) (by omega) ?_; conv => whnf)
        | (refine Gets.ixEv (es := 2) rfl rfl (by omega) ?_; conv => whnf)
        | (refine Gets.ixE (es := 2) rfl rfl (by omega) ?_; conv => whnf)
        | (refine Gets.ldP (ti := tiP) rfl rfl rfl (by first | rfl | assumption) (by first | omega | exact Nat.le_of_ble_eq_true rfl) ?_; conv => whnf)
        | (refine Gets.ldI rfl (by first | rfl | assumption) (by first | omega | exact Nat.le_of_ble_eq_true rfl) ?_; conv => whnf)
        | (refine Gets.ldB rfl (by first | rfl | assumption) (by first | omega | exact Nat.le_of_ble_eq_true rfl) ?_; conv => whnf)
        | (refine Chk.mk (by repeat first | exact .nil | refine .cons rfl ?_) ?_; conv => whnf)
        | (refine Alls.mk ?_ ?_ <;> conv => whnf)
        | (refine seqL1_of ?_; conv => whnf)
        | (refine Fork.dec (fun _ => ?_) (fun _ => ?_) <;> first | (exfalso; omega) | (conv => whnf))
        | (refine Fork.eqI (fun _ => ?_) (fun _ => ?_) <;> first | (exfalso; omega) | (conv => whnf))
        | (refine Fork.neI (fun _ => ?_) (fun _ => ?_) <;> first | (exfalso; omega) | (conv => whnf))
        | (refine Fork.any (fun _ => ?_) (fun _ => ?_) <;> (conv => whnf))
      refine ⟨(k + 1, (o1, o2), v + 2), renL [0,1,2,3,4,5,6,7,8,9,10,11,12,13,14,15,16,17,18,19,20,21,22,27,28,29] 30, ⟨?_, lt_succ_all g2 hno⟩, by show 65537 - (k + 1) < 65537 - k; omega, ⟨rfl, rfl, rfl, trivial⟩, ?_⟩
      · dsimp only
        rw [hnext]; omega
      · dsimp only
        rw [hnext]
        cases o1 <;> cases o2
        · exact EmbL.litsN [0, 1, 2, 3, 4, 5, 6, 7, 8, 9, 10, 11, 12, 13, 14, 15, 16, 17, 18, 19, 20, 21, 22, 27, 28, 29] rfl rfl rfl rfl (.cons ⟨rfl, .inl ⟨rfl, fun h => h⟩⟩ (.cons ⟨rfl, .inl ⟨rfl, fun h => h⟩⟩ (.cons ⟨rfl, .inl ⟨rfl, fun h => h⟩⟩ (.cons ⟨rfl, .inl ⟨rfl, fun h => h⟩⟩ (.cons ⟨rfl, .inl ⟨rfl, fun h => h⟩⟩ (.cons ⟨rfl, .inl ⟨rfl, fun h => h⟩⟩ (.cons ⟨rfl, .inl ⟨rfl, fun h => h⟩⟩ (.cons ⟨rfl, .inl ⟨rfl, fun h => h⟩⟩ (.cons ⟨rfl, .inl ⟨rfl, fun h => h⟩⟩ (.cons ⟨rfl, .inl ⟨rfl, fun h => h⟩⟩ (.cons ⟨rfl, .inl ⟨rfl, fun h => h⟩⟩ (.cons ⟨rfl, .inl ⟨rfl, fun h => h⟩⟩ (.cons ⟨rfl, .inr (by first | exact verLt (v := v) (k := 0) (m := 2) rfl rfl | exact verLt (v := v) (k := 1) (m := 2) rfl rfl | exact verLt (v := v) (k := 2) (m := 2) rfl rfl)⟩ (.cons ⟨rfl, .inl ⟨rfl, fun h => h⟩⟩ (.cons ⟨rfl, .inr (by first | exact verLt (v := v) (k := 0) (m := 2) rfl rfl | exact verLt (v := v) (k := 1) (m := 2) rfl rfl | exact verLt (v := v) (k := 2) (m := 2) rfl rfl)⟩ (.cons ⟨rfl, .inl ⟨rfl, fun h => h⟩⟩ (.cons ⟨rfl, .inl ⟨rfl, fun h => h⟩⟩ (.cons ⟨rfl, .inl ⟨rfl, fun h => h⟩⟩ (.cons ⟨rfl, .inr (by first | exact verLt (v := v) (k := 0) (m := 2) rfl rfl | exact verLt (v := v) (k := 1) (m := 2) rfl rfl | exact verLt (v := v) (k := 2) (m := 2) rfl rfl)⟩ (.cons ⟨rfl, .inr (by first | exact verLt (v := v) (k := 0) (m := 2) rfl rfl | exact verLt (v := v) (k := 1) (m := 2) rfl rfl | exact verLt (v := v) (k := 2) (m := 2) rfl rfl)⟩ (.cons ⟨rfl, .inl ⟨rfl, fun h => h⟩⟩ (.cons ⟨rfl, .inl ⟨rfl, fun h => h⟩⟩ (.cons ⟨rfl, .inr (by first | exact verLt (v := v) (k := 0) (m := 2) rfl rfl | exact verLt (v := v) (k := 1) (m := 2) rfl rfl | exact verLt (v := v) (k := 2) (m := 2) rfl rfl)⟩ .nil))))))))))))))))))))))) (.cons ⟨rfl, .roI⟩ (.cons ⟨rfl, .roI⟩ (.cons ⟨rfl, .roI⟩ (.cons ⟨rfl, .roI⟩ (.cons ⟨rfl, .roI⟩ (.cons ⟨rfl, .roI⟩ (.cons ⟨rfl, .inl rfl⟩ (.cons ⟨rfl, .inl rfl⟩ (.cons ⟨rfl, .inl rfl⟩ (.cons ⟨rfl, .inl rfl⟩ (.cons ⟨rfl, .inl rfl⟩ (.cons ⟨rfl, .inl rfl⟩ (.cons ⟨rfl, .inl rfl⟩ (.cons ⟨rfl, .inl rfl⟩ (.cons ⟨rfl, .inl rfl⟩ (.cons ⟨rfl, .inl rfl⟩ (.cons ⟨rfl, .inl rfl⟩ (.cons ⟨rfl, .gone⟩ (.cons ⟨rfl, .mapS keyNN rfl⟩ (.cons ⟨rfl, .inl rfl⟩ (.cons ⟨rfl, .inl rfl⟩ (.cons ⟨rfl, .inl rfl⟩ (.cons ⟨rfl, .loopE rfl⟩ (.cons ⟨rfl, .cellsI⟩ (.cons ⟨rfl, .gone⟩ (.cons ⟨rfl, .gone⟩ .nil))))))))))))))))))))))))))
        · exact EmbL.litsN [0, 1, 2, 3, 4, 5, 6, 7, 8, 9, 10, 11, 12, 13, 14, 15, 16, 17, 18, 19, 20, 21, 22, 27, 28, 29] rfl rfl rfl rfl (.cons ⟨rfl, .inl ⟨rfl, fun h => h⟩⟩ (.cons ⟨rfl, .inl ⟨rfl, fun h => h⟩⟩ (.cons ⟨rfl, .inl ⟨rfl, fun h => h⟩⟩ (.cons ⟨rfl, .inl ⟨rfl, fun h => h⟩⟩ (.cons ⟨rfl, .inl ⟨rfl, fun h => h⟩⟩ (.cons ⟨rfl, .inl ⟨rfl, fun h => h⟩⟩ (.cons ⟨rfl, .inl ⟨rfl, fun h => h⟩⟩ (.cons ⟨rfl, .inl ⟨rfl, fun h => h⟩⟩ (.cons ⟨rfl, .inl ⟨rfl, fun h => h⟩⟩ (.cons ⟨rfl, .inl ⟨rfl, fun h => h⟩⟩ (.cons ⟨rfl, .inl ⟨rfl, fun h => h⟩⟩ (.cons ⟨rfl, .inl ⟨rfl, fun h => h⟩⟩ (.cons ⟨rfl, .inr (by first | exact verLt (v := v) (k := 0) (m := 2) rfl rfl | exact verLt (v := v) (k := 1) (m := 2) rfl rfl | exact verLt (v := v) (k := 2) (m := 2) rfl rfl)⟩ (.cons ⟨rfl, .inl ⟨rfl, fun h => h⟩⟩ (.cons ⟨rfl, .inr (by first | exact verLt (v := v) (k := 0) (m := 2) rfl rfl | exact verLt (v := v) (k := 1) (m := 2) rfl rfl | exact verLt (v := v) (k := 2) (m := 2) rfl rfl)⟩ (.cons ⟨rfl, .inl ⟨rfl, fun h => h⟩⟩ (.cons ⟨rfl, .inl ⟨rfl, fun h => h⟩⟩ (.cons ⟨rfl, .inl ⟨rfl, fun h => h⟩⟩ (.cons ⟨rfl, .inr (by first | exact verLt (v := v) (k := 0) (m := 2) rfl rfl | exact verLt (v := v) (k := 1) (m := 2) rfl rfl | exact verLt (v := v) (k := 2) (m := 2) rfl rfl)⟩ (.cons ⟨rfl, .inr (by first | exact verLt (v := v) (k := 0) (m := 2) rfl rfl | exact verLt (v := v) (k := 1) (m := 2) rfl rfl | exact verLt (v := v) (k := 2) (m := 2) rfl rfl)⟩ (.cons ⟨rfl, .inl ⟨rfl, fun h => h⟩⟩ (.cons ⟨rfl, .inl ⟨rfl, fun h => h⟩⟩ (.cons ⟨rfl, .inr (by first | exact verLt (v := v) (k := 0) (m := 2) rfl rfl | exact verLt (v := v) (k := 1) (m := 2) rfl rfl | exact verLt (v := v) (k := 2) (m := 2) rfl rfl)⟩ .nil))))))))))))))))))))))) (.cons ⟨rfl, .roI⟩ (.cons ⟨rfl, .roI⟩ (.cons ⟨rfl, .roI⟩ (.cons ⟨rfl, .roI⟩ (.cons ⟨rfl, .roI⟩ (.cons ⟨rfl, .roI⟩ (.cons ⟨rfl, .inl rfl⟩ (.cons ⟨rfl, .inl rfl⟩ (.cons ⟨rfl, .inl rfl⟩ (.cons ⟨rfl, .inl rfl⟩ (.cons ⟨rfl, .inl rfl⟩ (.cons ⟨rfl, .inl rfl⟩ (.cons ⟨rfl, .inl rfl⟩ (.cons ⟨rfl, .inl rfl⟩ (.cons ⟨rfl, .inl rfl⟩ (.cons ⟨rfl, .inl rfl⟩ (.cons ⟨rfl, .inl rfl⟩ (.cons ⟨rfl, .gone⟩ (.cons ⟨rfl, .mapS keyNN rfl⟩ (.cons ⟨rfl, .inl rfl⟩ (.cons ⟨rfl, .inl rfl⟩ (.cons ⟨rfl, .inl rfl⟩ (.cons ⟨rfl, .loopE rfl⟩ (.cons ⟨rfl, .cellsI⟩ (.cons ⟨rfl, .gone⟩ (.cons ⟨rfl, .cellsB⟩ .nil))))))))))))))))))))))))))
        · exact EmbL.litsN [0, 1, 2, 3, 4, 5, 6, 7, 8, 9, 10, 11, 12, 13, 14, 15, 16, 17, 18, 19, 20, 21, 22, 27, 28, 29] rfl rfl rfl rfl (.cons ⟨rfl, .inl ⟨rfl, fun h => h⟩⟩ (.cons ⟨rfl, .inl ⟨rfl, fun h => h⟩⟩ (.cons ⟨rfl, .inl ⟨rfl, fun h => h⟩⟩ (.cons ⟨rfl, .inl ⟨rfl, fun h => h⟩⟩ (.cons ⟨rfl, .inl ⟨rfl, fun h => h⟩⟩ (.cons ⟨rfl, .inl ⟨rfl, fun h => h⟩⟩ (.cons ⟨rfl, .inl ⟨rfl, fun h => h⟩⟩ (.cons ⟨rfl, .inl ⟨rfl, fun h => h⟩⟩ (.cons ⟨rfl, .inl ⟨rfl, fun h => h⟩⟩ (.cons ⟨rfl, .inl ⟨rfl, fun h => h⟩⟩ (.cons ⟨rfl, .inl ⟨rfl, fun h => h⟩⟩ (.cons ⟨rfl, .inl ⟨rfl, fun h => h⟩⟩ (.cons ⟨rfl, .inr (by first | exact verLt (v := v) (k := 0) (m := 2) rfl rfl | exact verLt (v := v) (k := 1) (m := 2) rfl rfl | exact verLt (v := v) (k := 2) (m := 2) rfl rfl)⟩ (.cons ⟨rfl, .inl ⟨rfl, fun h => h⟩⟩ (.cons ⟨rfl, .inr (by first | exact verLt (v := v) (k := 0) (m := 2) rfl rfl | exact verLt (v := v) (k := 1) (m := 2) rfl rfl | exact verLt (v := v) (k := 2) (m := 2) rfl rfl)⟩ (.cons ⟨rfl, .inl ⟨rfl, fun h => h⟩⟩ (.cons ⟨rfl, .inl ⟨rfl, fun h => h⟩⟩ (.cons ⟨rfl, .inl ⟨rfl, fun h => h⟩⟩ (.cons ⟨rfl, .inr (by first | exact verLt (v := v) (k := 0) (m := 2) rfl rfl | exact verLt (v := v) (k := 1) (m := 2) rfl rfl | exact verLt (v := v) (k := 2) (m := 2) rfl rfl)⟩ (.cons ⟨rfl, .inr (by first | exact verLt (v := v) (k := 0) (m := 2) rfl rfl | exact verLt (v := v) (k := 1) (m := 2) rfl rfl | exact verLt (v := v) (k := 2) (m := 2) rfl rfl)⟩ (.cons ⟨rfl, .inl ⟨rfl, fun h => h⟩⟩ (.cons ⟨rfl, .inl ⟨rfl, fun h => h⟩⟩ (.cons ⟨rfl, .inr (by first | exact verLt (v := v) (k := 0) (m := 2) rfl rfl | exact verLt (v := v) (k := 1) (m := 2) rfl rfl | exact verLt (v := v) (k := 2) (m := 2) rfl rfl)⟩ .nil))))))))))))))))))))))) (.cons ⟨rfl, .roI⟩ (.cons ⟨rfl, .roI⟩ (.cons ⟨rfl, .roI⟩ (.cons ⟨rfl, .roI⟩ (.cons ⟨rfl, .roI⟩ (.cons ⟨rfl, .roI⟩ (.cons ⟨rfl, .inl rfl⟩ (.cons ⟨rfl, .inl rfl⟩ (.cons ⟨rfl, .inl rfl⟩ (.cons ⟨rfl, .inl rfl⟩ (.cons ⟨rfl, .inl rfl⟩ (.cons ⟨rfl, .inl rfl⟩ (.cons ⟨rfl, .inl rfl⟩ (.cons ⟨rfl, .inl rfl⟩ (.cons ⟨rfl, .inl rfl⟩ (.cons ⟨rfl, .inl rfl⟩ (.cons ⟨rfl, .inl rfl⟩ (.cons ⟨rfl, .gone⟩ (.cons ⟨rfl, .mapS keyNN rfl⟩ (.cons ⟨rfl, .inl rfl⟩ (.cons ⟨rfl, .inl rfl⟩ (.cons ⟨rfl, .inl rfl⟩ (.cons ⟨rfl, .loopE rfl⟩ (.cons ⟨rfl, .cellsI⟩ (.cons ⟨rfl, .cellsB⟩ (.cons ⟨rfl, .gone⟩ .nil))))))))))))))))))))))))))
        · exact EmbL.litsN [0, 1, 2, 3, 4, 5, 6, 7, 8, 9, 10, 11, 12, 13, 14, 15, 16, 17, 18, 19, 20, 21, 22, 27, 28, 29] rfl rfl rfl rfl (.cons ⟨rfl, .inl ⟨rfl, fun h => h⟩⟩ (.cons ⟨rfl, .inl ⟨rfl, fun h => h⟩⟩ (.cons ⟨rfl, .inl ⟨rfl, fun h => h⟩⟩ (.cons ⟨rfl, .inl ⟨rfl, fun h => h⟩⟩ (.cons ⟨rfl, .inl ⟨rfl, fun h => h⟩⟩ (.cons ⟨rfl, .inl ⟨rfl, fun h => h⟩⟩ (.cons ⟨rfl, .inl ⟨rfl, fun h => h⟩⟩ (.cons ⟨rfl, .inl ⟨rfl, fun h => h⟩⟩ (.cons ⟨rfl, .inl ⟨rfl, fun h => h⟩⟩ (.cons ⟨rfl, .inl ⟨rfl, fun h => h⟩⟩ (.cons ⟨rfl, .inl ⟨rfl, fun h => h⟩⟩ (.cons ⟨rfl, .inl ⟨rfl, fun h => h⟩⟩ (.cons ⟨rfl, .inr (by first | exact verLt (v := v) (k := 0) (m := 2) rfl rfl | exact verLt (v := v) (k := 1) (m := 2) rfl rfl | exact verLt (v := v) (k := 2) (m := 2) rfl rfl)⟩ (.cons ⟨rfl, .inl ⟨rfl, fun h => h⟩⟩ (.cons ⟨rfl, .inr (by first | exact verLt (v := v) (k := 0) (m := 2) rfl rfl | exact verLt (v := v) (k := 1) (m := 2) rfl rfl | exact verLt (v := v) (k := 2) (m := 2) rfl rfl)⟩ (.cons ⟨rfl, .inl ⟨rfl, fun h => h⟩⟩ (.cons ⟨rfl, .inl ⟨rfl, fun h => h⟩⟩ (.cons ⟨rfl, .inl ⟨rfl, fun h => h⟩⟩ (.cons ⟨rfl, .inr (by first | exact verLt (v := v) (k := 0) (m := 2) rfl rfl | exact verLt (v := v) (k := 1) (m := 2) rfl rfl | exact verLt (v := v) (k := 2) (m := 2) rfl rfl)⟩ (.cons ⟨rfl, .inr (by first | exact verLt (v := v) (k := 0) (m := 2) rfl rfl | exact verLt (v := v) (k := 1) (m := 2) rfl rfl | exact verLt (v := v) (k := 2) (m := 2) rfl rfl)⟩ (.cons ⟨rfl, .inl ⟨rfl, fun h => h⟩⟩ (.cons ⟨rfl, .inl ⟨rfl, fun h => h⟩⟩ (.cons ⟨rfl, .inr (by first | exact verLt (v := v) (k := 0) (m := 2) rfl rfl | exact verLt (v := v) (k := 1) (m := 2) rfl rfl | exact verLt (v := v) (k := 2) (m := 2) rfl rfl)⟩ .nil))))))))))))))))))))))) (.cons ⟨rfl, .roI⟩ (.cons ⟨rfl, .roI⟩ (.cons ⟨rfl, .roI⟩ (.cons ⟨rfl, .roI⟩ (.cons ⟨rfl, .roI⟩ (.cons ⟨rfl, .roI⟩ (.cons ⟨rfl, .inl rfl⟩ (.cons ⟨rfl, .inl rfl⟩ (.cons ⟨rfl, .inl rfl⟩ (.cons ⟨rfl, .inl rfl⟩ (.cons ⟨rfl, .inl rfl⟩ (.cons ⟨rfl, .inl rfl⟩ (.cons ⟨rfl, .inl rfl⟩ (.cons ⟨rfl, .inl rfl⟩ (.cons ⟨rfl, .inl rfl⟩ (.cons ⟨rfl, .inl rfl⟩ (.cons ⟨rfl, .inl rfl⟩ (.cons ⟨rfl, .gone⟩ (.cons ⟨rfl, .mapS keyNN rfl⟩ (.cons ⟨rfl, .inl rfl⟩ (.cons ⟨rfl, .inl rfl⟩ (.cons ⟨rfl, .inl rfl⟩ (.cons ⟨rfl, .loopE rfl⟩ (.cons ⟨rfl, .cellsI⟩ (.cons ⟨rfl, .cellsB⟩ (.cons ⟨rfl, .cellsB⟩ .nil))))))))))))))))))))))))))
  · refine ⟨fun i => i, .tuple [], _, EmbL.id (Nat.le_of_ble_eq_true rfl), rfl, rfl, L, o1, o2, v, .inl ⟨⟨k, g2, by rw [hL]; omega⟩, by omega, rfl⟩⟩
end Go.Proofs.Ytmghlldboiplpaa
