/- OptStates: the law. -/
import Derived.Test.YtmghlldboiplpaaRst
import Derived.Test.YtmghlldboiplpaaShp
set_option linter.unusedVariables false
set_option linter.unusedSimpArgs false
set_option maxRecDepth 100000
set_option maxHeartbeats 1000000
namespace Go.Proofs.Ytmghlldboiplpaa
open Go Go.Vh Go.Vk Go.Proofs
theorem lpairs23 (l m : List (Int × Int)) (hl : l.length ≤ 4294967296) (hm : m.length ≤ 4294967296) (H : AHeap) (hn : 1 < H.n) (h0 : l ≠ [] → (H.f 0).cs = ints (pflat l)) (h1 : m ≠ [] → (H.f 1).cs = ints (pflat m)) : CallW Try.prog 23 [.view 0 0 l.length, .view 1 0 m.length] H fun v H' => H' = H ∧ IsB v (l = m) := by
  refine CallW.symK (cuts := []) Try.func23 rfl (by kernel_rfl) ?_
  conv => whnf
  repeat' first
    | ((with_reducible refine Gets.shrN ?_ ?_); (· omega); conv => whnf)
    | ((with_reducible refine Gets.andOne ?_ ?_); (· first | omega | exact Nat.lt_of_le_of_lt (Nat.shiftRight_le _ _) (by omega)); conv => whnf)
    | ((with_reducible refine Gets.shlN ?_ ?_); (· omega); conv => whnf)
    | ((with_reducible refine Gets.shlI ?_ ?_ ?_); (· omega); (· omega); conv => whnf)
    | ((with_reducible refine Gets.quoI ?_ ?_ ?_ ?_); (· omega); (· omega); (· omega); conv => whnf)
    | ((with_reducible refine Gets.remN ?_ ?_ ?_); (· omega); (· omega); conv => whnf)
    | ((with_reducible refine Fork.bit (fun _ => ?_) (fun _ => ?_)) <;> (conv => whnf))
    | ((with_reducible refine Gets.addI ?_ ?_ ?_); (· omega); (· omega); conv => whnf)
    | ((with_reducible refine Gets.subI ?_ ?_ ?_); (· omega); (· omega); conv => whnf)
    | ((with_reducible refine Gets.mulI ?_ ?_ ?_); (· omega); (· omega); conv => whnf)
    | (refine Gets.of _ rfl ?_; conv => whnf)
    | (refine Gets.ix1v rfl rfl (by omega) ?_; conv => whnf)
    | (refine Gets.ix1 rfl rfl (by omega) ?_; conv => whnf)
    | (refine Gets.ixIv rfl rfl (by omega) (by omega) ?_; conv => whnf)
    | (refine Gets.ixI rfl rfl (by omega) (by omega) ?_; conv => whnf)
    | (refine Gets.ixEv (es := 2) rfl rfl (by omega) ?_; conv => whnf)
    | (refine Gets.ixE (es := 2) rfl rfl (by omega) ?_; conv => whnf)
    | (refine Gets.ldP (ti := tiP) rfl rfl rfl (by first | rfl | assumption) (by first | omega | exact Nat.le_of_ble_eq_true rfl) ?_; conv => whnf)
    | (refine Gets.ldI rfl (by first | rfl | assumption) (by first | omega | exact Nat.le_of_ble_eq_true rfl) ?_; conv => whnf)
    | (refine Gets.ldB rfl (by first | rfl | assumption) (by first | omega | exact Nat.le_of_ble_eq_true rfl) ?_; conv => whnf)
    | (refine Chk.mk (by repeat first | exact .nil | refine .cons rfl ?_) ?_; conv => whnf)
    | (refine Alls.mk ?_ ?_ <;> conv => whnf)
    | (refine seqL1_of ?_; conv => whnf)
    | (refine Fork.dec (fun _ => ?_) (fun _ => ?_) <;> first | (exfalso; omega) | (conv => whnf))
    | (refine Fork.eqI (fun _ => ?_) (fun _ => ?_) <;> first | (exfalso; omega) | (conv => whnf))
    | (refine Fork.neI (fun _ => ?_) (fun _ => ?_) <;> first | (exfalso; omega) | (conv => whnf))
    | (refine Fork.any (fun _ => ?_) (fun _ => ?_) <;> (conv => whnf))
  · exact ⟨rfl, .f fun h => by subst h; omega⟩
  have hlen : l.length = m.length := by omega
  refine CodeS.loopSK (cuts := []) (σ := Nat) (fun j => [(0, .view 0 0 l.length), (1, .view 1 0 m.length), (12, .int .i64 l.length), (13, .int .i64 j)]) (fun _ => H) (fun j => j ≤ l.length ∧ ∀ k, k < j → l.getD k (0, 0) = m.getD k (0, 0)) (fun j => l.length - j) 0 (by kernel_rfl) ⟨Nat.zero_le _, fun k hk => by omega⟩ ⟨rfl, rfl, rfl, rfl, trivial⟩ rfl ?_
  rintro j ⟨g1, g2⟩
  conv => whnf
  repeat' first
    | ((with_reducible refine Gets.shrN ?_ ?_); (· omega); conv => whnf)
    | ((with_reducible refine Gets.andOne ?_ ?_); (· first | omega | exact Nat.lt_of_le_of_lt (Nat.shiftRight_le _ _) (by omega)); conv => whnf)
    | ((with_reducible refine Gets.shlN ?_ ?_); (· omega); conv => whnf)
    | ((with_reducible refine Gets.shlI ?_ ?_ ?_); (· omega); (· omega); conv => whnf)
    | ((with_reducible refine Gets.quoI ?_ ?_ ?_ ?_); (· omega); (· omega); (· omega); conv => whnf)
    | ((with_reducible refine Gets.remN ?_ ?_ ?_); (· omega); (· omega); conv => whnf)
    | ((with_reducible refine Fork.bit (fun _ => ?_) (fun _ => ?_)) <;> (conv => whnf))
    | ((with_reducible refine Gets.addI ?_ ?_ ?_); (· omega); (· omega); conv => whnf)
    | ((with_reducible refine Gets.subI ?_ ?_ ?_); (· omega); (· omega); conv => whnf)
    | ((with_reducible refine Gets.mulI ?_ ?_ ?_); (· omega); (· omega); conv => whnf)
    | (refine Gets.of _ rfl ?_; conv => whnf)
    | (refine Gets.ix1v rfl rfl (by omega) ?_; conv => whnf)
    | (refine Gets.ix1 rfl rfl (by omega) ?_; conv => whnf)
    | (refine Gets.ixIv rfl rfl (by omega) (by omega) ?_; conv => whnf)
    | (refine Gets.ixI rfl rfl (by omega) (by omega) ?_; conv => whnf)
    | (refine Gets.ixEv (es := 2) rfl rfl (by omega) ?_; conv => whnf)
    | (refine Gets.ixE (es := 2) rfl rfl (by omega) ?_; conv => whnf)
    | (refine Gets.ldP (ti := tiP) rfl rfl rfl (by first | rfl | assumption) (by first | omega | exact Nat.le_of_ble_eq_true rfl) ?_; conv => whnf)
    | (refine Gets.ldI rfl (by first | rfl | assumption) (by first | omega | exact Nat.le_of_ble_eq_true rfl) ?_; conv => whnf)
    | (refine Gets.ldB rfl (by first | rfl | assumption) (by first | omega | exact Nat.le_of_ble_eq_true rfl) ?_; conv => whnf)
    | (refine Chk.mk (by repeat first | exact .nil | refine .cons rfl ?_) ?_; conv => whnf)
    | (refine Alls.mk ?_ ?_ <;> conv => whnf)
    | (refine seqL1_of ?_; conv => whnf)
    | (refine Fork.dec (fun _ => ?_) (fun _ => ?_) <;> first | (exfalso; omega) | (conv => whnf))
    | (refine Fork.eqI (fun _ => ?_) (fun _ => ?_) <;> first | (exfalso; omega) | (conv => whnf))
    | (refine Fork.neI (fun _ => ?_) (fun _ => ?_) <;> first | (exfalso; omega) | (conv => whnf))
    | (refine Fork.any (fun _ => ?_) (fun _ => ?_) <;> (conv => whnf))
  · have e0 := h0 (List.ne_nil_of_length_pos (by omega))
    have e1 := h1 (List.ne_nil_of_length_pos (by omega))
    refine CodeS.drawT [0, 1] (.take 0 (.take 1 (.take 2 (.take 3 (.take 4 (.take 5 (.take 6 (.take 7 (.take 8 .done))))))))) mixed (by kernel_rfl) (.cons ⟨Nat.ble_eq_true_of_le (by omega), live_of_ints e0 (pflat_pos (by omega))⟩ (.cons ⟨Nat.ble_eq_true_of_le hn, live_of_ints e1 (pflat_pos (by omega))⟩ .nil)) ?_
    conv => whnf
    repeat' first
      | ((refine Gets.ldP (ti := tiP) rfl rfl rfl e0 (by omega) ?_); conv => whnf)
      | ((refine Gets.ldP (ti := tiP) rfl rfl rfl e1 (by omega) ?_); conv => whnf)
      | ((with_reducible refine Gets.shrN ?_ ?_); (· omega); conv => whnf)
      | ((with_reducible refine Gets.andOne ?_ ?_); (· first | omega | exact Nat.lt_of_le_of_lt (Nat.shiftRight_le _ _) (by omega)); conv => whnf)
      | ((with_reducible refine Gets.shlN ?_ ?_); (· omega); conv => whnf)
      | ((with_reducible refine Gets.shlI ?_ ?_ ?_); (· omega); (· omega); conv => whnf)
      | ((with_reducible refine Gets.quoI ?_ ?_ ?_ ?_); (· omega); (· omega); (· omega); conv => whnf)
      | ((with_reducible refine Gets.remN ?_ ?_ ?_); (· omega); (· omega); conv => whnf)
      | ((with_reducible refine Fork.bit (fun _ => ?_) (fun _ => ?_)) <;> (conv => whnf))
      | ((with_reducible refine Gets.addI ?_ ?_ ?_); (· omega); (· omega); conv => whnf)
      | ((with_reducible refine Gets.subI ?_ ?_ ?_); (· omega); (· omega); conv => whnf)
      | ((with_reducible refine Gets.mulI ?_ ?_ ?_); (· omega); (· omega); conv => whnf)
      | (refine Gets.of _ rfl ?_; conv => whnf)
      | (refine Gets.ix1v rfl rfl (by omega) ?_; conv => whnf)
      | (refine Gets.ix1 rfl rfl (by omega) ?_; conv => whnf)
      | (refine Gets.ixIv rfl rfl (by omega) (by omega) ?_; conv => whnf)
      | (refine Gets.ixI rfl rfl (by omega) (by omega) ?_; conv => whnf)
      | (refine Gets.ixEv (es := 2) rfl rfl (by omega) ?_; conv => whnf)
      | (refine Gets.ixE (es := 2) rfl rfl (by omega) ?_; conv => whnf)
      | (refine Gets.ldP (ti := tiP) rfl rfl rfl (by first | rfl | assumption) (by first | omega | exact Nat.le_of_ble_eq_true rfl) ?_; conv => whnf)
      | (refine Gets.ldI rfl (by first | rfl | assumption) (by first | omega | exact Nat.le_of_ble_eq_true rfl) ?_; conv => whnf)
      | (refine Gets.ldB rfl (by first | rfl | assumption) (by first | omega | exact Nat.le_of_ble_eq_true rfl) ?_; conv => whnf)
      | (refine Chk.mk (by repeat first | exact .nil | refine .cons rfl ?_) ?_; conv => whnf)
      | (refine Alls.mk ?_ ?_ <;> conv => whnf)
      | (refine seqL1_of ?_; conv => whnf)
      | (refine Fork.dec (fun _ => ?_) (fun _ => ?_) <;> first | (exfalso; omega) | (conv => whnf))
      | (refine Fork.eqI (fun _ => ?_) (fun _ => ?_) <;> first | (exfalso; omega) | (conv => whnf))
      | (refine Fork.neI (fun _ => ?_) (fun _ => ?_) <;> first | (exfalso; omega) | (conv => whnf))
      | (refine Fork.any (fun _ => ?_) (fun _ => ?_) <;> (conv => whnf))
    · rename_i h
      exact ⟨rfl, .f fun e => by subst e; simp at h⟩
    · rename_i h
      refine ⟨j + 1, ⟨by omega, lt_succ_all g2 ?_⟩, by omega, ⟨rfl, rfl, rfl, rfl, trivial⟩, rfl⟩
      simp only [Bool.not_eq_false', Bool.and_true, Bool.and_eq_true, beq_iff_eq] at h
      exact Prod.ext h.1 h.2
  · refine ⟨rfl, .t (List.ext_getElem hlen fun k h1 h2 => ?_)⟩
    have := g2 k (by omega)
    rw [List.getD_eq_getElem?_getD, List.getD_eq_getElem?_getD, List.getElem?_eq_getElem h1, List.getElem?_eq_getElem h2] at this
    exact this
def Cir.Few (c : Cir) (a b : Int) : Prop := ((c.latch.length : Int) ≤ a ∨ (24 < (c.latch.length : Int) ∧ (c.latch.length : Int) ≤ 30)) ∧ ((c.gates.length : Int) ≤ b ∨ (20000 < (c.gates.length : Int) ∧ (c.gates.length : Int) ≤ 20010)) ∧ (c.out.length : Int) ≤ 30
def Cir.box4 (c : Cir) : ABlk := .ro 4 [.int .i64 c.inp, .view 0 0 c.latch.length, .view 1 0 c.gates.length, .view 2 0 c.out.length]
theorem few8 (c : Cir) (hf : c.Fits) (a b : Int) : CallW Try.prog 8 [.int .i64 a, .int .i64 b, .slice 3 0 1] (c.heap.alloc c.box4) fun v _ => IsB v (c.Few a b) := by
  obtain ⟨⟨a1, a2⟩, b1, b2, b3⟩ := hf
  refine CallW.symK (cuts := []) Try.func8 rfl (by kernel_rfl) ?_
  conv => whnf
  repeat' first
    | ((with_reducible refine Gets.shrN ?_ ?_); (· omega); conv => whnf)
    | ((with_reducible refine Gets.andOne ?_ ?_); (· first | omega | exact Nat.lt_of_le_of_lt (Nat.shiftRight_le _ _) (by omega)); conv => whnf)
    | ((with_reducible refine Gets.shlN ?_ ?_); (· omega); conv => whnf)
    | ((with_reducible refine Gets.shlI ?_ ?_ ?_); (· omega); (· omega); conv => whnf)
    | ((with_reducible refine Gets.quoI ?_ ?_ ?_ ?_); (· omega); (· omega); (· omega); conv => whnf)
    | ((with_reducible refine Gets.remN ?_ ?_ ?_); (· omega); (· omega); conv => whnf)
    | ((with_reducible refine Fork.bit (fun _ => ?_) (fun _ => ?_)) <;> (conv => whnf))
    | ((with_reducible refine Gets.addI ?_ ?_ ?_); (· omega); (· omega); conv => whnf)
    | ((with_reducible refine Gets.subI ?_ ?_ ?_); (· omega); (· omega); conv => whnf)
    | ((with_reducible refine Gets.mulI ?_ ?_ ?_); (· omega); (· omega); conv => whnf)
    | (refine Gets.of _ rfl ?_; conv => whnf)
    | (refine Gets.ix1v rfl rfl (by omega) ?_; conv => whnf)
    | (refine Gets.ix1 rfl rfl (by omega) ?_; conv => whnf)
    | (refine Gets.ixIv rfl rfl (by omega) (by omega) ?_; conv => whnf)
    | (refine Gets.ixI rfl rfl (by omega) (by omega) ?_; conv => whnf)
    | (refine Gets.ixEv (es := 2) rfl rfl (by omega) ?_; conv => whnf)
    | (refine Gets.ixE (es := 2) rfl rfl (by omega) ?_; conv => whnf)
    | (refine Gets.ldP (ti := tiP) rfl rfl rfl (by first | rfl | assumption) (by first | omega | exact Nat.le_of_ble_eq_true rfl) ?_; conv => whnf)
    | (refine Gets.ldI rfl (by first | rfl | assumption) (by first | omega | exact Nat.le_of_ble_eq_true rfl) ?_; conv => whnf)
    | (refine Gets.ldB rfl (by first | rfl | assumption) (by first | omega | exact Nat.le_of_ble_eq_true rfl) ?_; conv => whnf)
    | (refine Chk.mk (by repeat first | exact .nil | refine .cons rfl ?_) ?_; conv => whnf)
    | (refine Alls.mk ?_ ?_ <;> conv => whnf)
    | (refine seqL1_of ?_; conv => whnf)
    | (refine Fork.dec (fun _ => ?_) (fun _ => ?_) <;> first | (exfalso; omega) | (conv => whnf))
    | (refine Fork.eqI (fun _ => ?_) (fun _ => ?_) <;> first | (exfalso; omega) | (conv => whnf))
    | (refine Fork.neI (fun _ => ?_) (fun _ => ?_) <;> first | (exfalso; omega) | (conv => whnf))
    | (refine Fork.any (fun _ => ?_) (fun _ => ?_) <;> (conv => whnf))
  refine CodeS.loopGK (cuts := []) (σ := Nat) (fun j => [(0, .int .i64 a), (1, .int .i64 b), (11, .slice 3 0 1), (12, .int .i64 1), (13, .int .i64 j)]) (fun _ => c.heap.alloc c.box4) (fun j => j ≤ 1 ∧ (j = 1 → c.Few a b)) (fun j => 1 - j) 0 (renL [0, 1, 2, 3] 4) (by kernel_rfl) ⟨Nat.zero_le _, fun h => by omega⟩ ⟨rfl, rfl, rfl, rfl, rfl, trivial⟩ (EmbL.litsN [0, 1, 2, 3] rfl rfl rfl rfl (.cons ⟨rfl, .inl ⟨rfl, fun h => h⟩⟩ (.cons ⟨rfl, .inl ⟨rfl, fun h => h⟩⟩ (.cons ⟨rfl, .inl ⟨rfl, fun h => h⟩⟩ (.cons ⟨rfl, .inl ⟨rfl, fun h => h⟩⟩ .nil)))) (.cons ⟨rfl, .roI⟩ (.cons ⟨rfl, .roI⟩ (.cons ⟨rfl, .roI⟩ (.cons ⟨rfl, .inl rfl⟩ .nil))))) ?_
  rintro j ⟨g1, g2⟩
  rcases j with _ | _ | j
  · conv => whnf
    repeat' first
      | ((with_reducible refine Gets.shrN ?_ ?_); (· omega); conv => whnf)
      | ((with_reducible refine Gets.andOne ?_ ?_); (· first | omega | exact Nat.lt_of_le_of_lt (Nat.shiftRight_le _ _) (by omega)); conv => whnf)
      | ((with_reducible refine Gets.shlN ?_ ?_); (· omega); conv => whnf)
      | ((with_reducible refine Gets.shlI ?_ ?_ ?_); (· omega); (· omega); conv => whnf)
      | ((with_reducible refine Gets.quoI ?_ ?_ ?_ ?_); (· omega); (· omega); (· omega); conv => whnf)
      | ((with_reducible refine Gets.remN ?_ ?_ ?_); (· omega); (· omega); conv => whnf)
      | ((with_reducible refine Fork.bit (fun _ => ?_) (fun _ => ?_)) <;> (conv => whnf))
      | ((with_reducible refine Gets.addI ?_ ?_ ?_); (· omega); (· omega); conv => whnf)
      | ((with_reducible refine Gets.subI ?_ ?_ ?_); (· omega); (· omega); conv => whnf)
      | ((with_reducible refine Gets.mulI ?_ ?_ ?_); (· omega); (· omega); conv => whnf)
      | (refine Gets.of _ rfl ?_; conv => whnf)
      | (refine Gets.ix1v rfl rfl (by omega) ?_; conv => whnf)
      | (refine Gets.ix1 rfl rfl (by omega) ?_; conv => whnf)
      | (refine Gets.ixIv rfl rfl (by omega) (by omega) ?_; conv => whnf)
      | (refine Gets.ixI rfl rfl (by omega) (by omega) ?_; conv => whnf)
      | (refine Gets.ixEv (es := 2) rfl rfl (by omega) ?_; conv => whnf)
      | (refine Gets.ixE (es := 2) rfl rfl (by omega) ?_; conv => whnf)
      | (refine Gets.ldP (ti := tiP) rfl rfl rfl (by first | rfl | assumption) (by first | omega | exact Nat.le_of_ble_eq_true rfl) ?_; conv => whnf)
      | (refine Gets.ldI rfl (by first | rfl | assumption) (by first | omega | exact Nat.le_of_ble_eq_true rfl) ?_; conv => whnf)
      | (refine Gets.ldB rfl (by first | rfl | assumption) (by first | omega | exact Nat.le_of_ble_eq_true rfl) ?_; conv => whnf)
      | (refine Chk.mk (by repeat first | exact .nil | refine .cons rfl ?_) ?_; conv => whnf)
      | (refine Alls.mk ?_ ?_ <;> conv => whnf)
      | (refine seqL1_of ?_; conv => whnf)
      | (refine Fork.dec (fun _ => ?_) (fun _ => ?_) <;> first | (exfalso; omega) | (conv => whnf))
      | (refine Fork.eqI (fun _ => ?_) (fun _ => ?_) <;> first | (exfalso; omega) | (conv => whnf))
      | (refine Fork.neI (fun _ => ?_) (fun _ => ?_) <;> first | (exfalso; omega) | (conv => whnf))
      | (refine Fork.any (fun _ => ?_) (fun _ => ?_) <;> (conv => whnf))
    refine CodeS.drawT [4] (.take 0 (.take 1 (.take 2 (.take 3 (.take 4 (.take 5 (.take 6 (.take 7 .done)))))))) mixed (by kernel_rfl) (.cons ⟨rfl, trivial⟩ .nil) ?_
    conv => whnf
    repeat' first
      | ((with_reducible refine Gets.shrN ?_ ?_); (· omega); conv => whnf)
      | ((with_reducible refine Gets.andOne ?_ ?_); (· first | omega | exact Nat.lt_of_le_of_lt (Nat.shiftRight_le _ _) (by omega)); conv => whnf)
      | ((with_reducible refine Gets.shlN ?_ ?_); (· omega); conv => whnf)
      | ((with_reducible refine Gets.shlI ?_ ?_ ?_); (· omega); (· omega); conv => whnf)
      | ((with_reducible refine Gets.quoI ?_ ?_ ?_ ?_); (· omega); (· omega); (· omega); conv => whnf)
      | ((with_reducible refine Gets.remN ?_ ?_ ?_); (· omega); (· omega); conv => whnf)
      | ((with_reducible refine Fork.bit (fun _ => ?_) (fun _ => ?_)) <;> (conv => whnf))
      | ((with_reducible refine Gets.addI ?_ ?_ ?_); (· omega); (· omega); conv => whnf)
      | ((with_reducible refine Gets.subI ?_ ?_ ?_); (· omega); (· omega); conv => whnf)
      | ((with_reducible refine Gets.mulI ?_ ?_ ?_); (· omega); (· omega); conv => whnf)
      | (refine Gets.of _ rfl ?_; conv => whnf)
      | (refine Gets.ix1v rfl rfl (by omega) ?_; conv => whnf)
      | (refine Gets.ix1 rfl rfl (by omega) ?_; conv => whnf)
      | (refine Gets.ixIv rfl rfl (by omega) (by omega) ?_; conv => whnf)
      | (refine Gets.ixI rfl rfl (by omega) (by omega) ?_; conv => whnf)
      | (refine Gets.ixEv (es := 2) rfl rfl (by omega) ?_; conv => whnf)
      | (refine Gets.ixE (es := 2) rfl rfl (by omega) ?_; conv => whnf)
      | (refine Gets.ldP (ti := tiP) rfl rfl rfl (by first | rfl | assumption) (by first | omega | exact Nat.le_of_ble_eq_true rfl) ?_; conv => whnf)
      | (refine Gets.ldI rfl (by first | rfl | assumption) (by first | omega | exact Nat.le_of_ble_eq_true rfl) ?_; conv => whnf)
      | (refine Gets.ldB rfl (by first | rfl | assumption) (by first | omega | exact Nat.le_of_ble_eq_true rfl) ?_; conv => whnf)
      | (refine Chk.mk (by repeat first | exact .nil | refine .cons rfl ?_) ?_; conv => whnf)
      | (refine Alls.mk ?_ ?_ <;> conv => whnf)
      | (refine seqL1_of ?_; conv => whnf)
      | (refine Fork.dec (fun _ => ?_) (fun _ => ?_) <;> first | (exfalso; omega) | (conv => whnf))
      | (refine Fork.eqI (fun _ => ?_) (fun _ => ?_) <;> first | (exfalso; omega) | (conv => whnf))
      | (refine Fork.neI (fun _ => ?_) (fun _ => ?_) <;> first | (exfalso; omega) | (conv => whnf))
      | (refine Fork.any (fun _ => ?_) (fun _ => ?_) <;> (conv => whnf))
    all_goals first
      | (exact .f fun h => by unfold Cir.Few at h; omega)
      | (exact ⟨1, renL [0, 1, 2, 3] 5, ⟨Nat.le_refl _, fun _ => by unfold Cir.Few; omega⟩, by omega, ⟨rfl, rfl, rfl, rfl, rfl, trivial⟩, EmbL.litsN [0, 1, 2, 3] rfl rfl rfl rfl (.cons ⟨rfl, .inl ⟨rfl, fun h => h⟩⟩ (.cons ⟨rfl, .inl ⟨rfl, fun h => h⟩⟩ (.cons ⟨rfl, .inl ⟨rfl, fun h => h⟩⟩ (.cons ⟨rfl, .inl ⟨rfl, fun h => h⟩⟩ .nil)))) (.cons ⟨rfl, .roI⟩ (.cons ⟨rfl, .roI⟩ (.cons ⟨rfl, .roI⟩ (.cons ⟨rfl, .inl rfl⟩ .nil))))⟩)
  · conv => whnf
    repeat' first
      | ((with_reducible refine Gets.shrN ?_ ?_); (· omega); conv => whnf)
      | ((with_reducible refine Gets.andOne ?_ ?_); (· first | omega | exact Nat.lt_of_le_of_lt (Nat.shiftRight_le _ _) (by omega)); conv => whnf)
      | ((with_reducible refine Gets.shlN ?_ ?_); (· omega); conv => whnf)
      | ((with_reducible refine Gets.shlI ?_ ?_ ?_); (· omega); (· omega); conv => whnf)
      | ((with_reducible refine Gets.quoI ?_ ?_ ?_ ?_); (· omega); (· omega); (· omega); conv => whnf)
      | ((with_reducible refine Gets.remN ?_ ?_ ?_); (· omega); (· omega); conv => whnf)
      | ((with_reducible refine Fork.bit (fun _ => ?_) (fun _ => ?_)) <;> (conv => whnf))
      | ((with_reducible refine Gets.addI ?_ ?_ ?_); (· omega); (· omega); conv => whnf)
      | ((with_reducible refine Gets.subI ?_ ?_ ?_); (· omega); (· omega); conv => whnf)
      | ((with_reducible refine Gets.mulI ?_ ?_ ?_); (· omega); (· omega); conv => whnf)
      | (refine Gets.of _ rfl ?_; conv => whnf)
      | (refine Gets.ix1v rfl rfl (by omega) ?_; conv => whnf)
      | (refine Gets.ix1 rfl rfl (by omega) ?_; conv => whnf)
      | (refine Gets.ixIv rfl rfl (by omega) (by omega) ?_; conv => whnf)
      | (refine Gets.ixI rfl rfl (by omega) (by omega) ?_; conv => whnf)
      | (refine Gets.ixEv (es := 2) rfl rfl (by omega) ?_; conv => whnf)
      | (refine Gets.ixE (es := 2) rfl rfl (by omega) ?_; conv => whnf)
      | (refine Gets.ldP (ti := tiP) rfl rfl rfl (by first | rfl | assumption) (by first | omega | exact Nat.le_of_ble_eq_true rfl) ?_; conv => whnf)
      | (refine Gets.ldI rfl (by first | rfl | assumption) (by first | omega | exact Nat.le_of_ble_eq_true rfl) ?_; conv => whnf)
      | (refine Gets.ldB rfl (by first | rfl | assumption) (by first | omega | exact Nat.le_of_ble_eq_true rfl) ?_; conv => whnf)
      | (refine Chk.mk (by repeat first | exact .nil | refine .cons rfl ?_) ?_; conv => whnf)
      | (refine Alls.mk ?_ ?_ <;> conv => whnf)
      | (refine seqL1_of ?_; conv => whnf)
      | (refine Fork.dec (fun _ => ?_) (fun _ => ?_) <;> first | (exfalso; omega) | (conv => whnf))
      | (refine Fork.eqI (fun _ => ?_) (fun _ => ?_) <;> first | (exfalso; omega) | (conv => whnf))
      | (refine Fork.neI (fun _ => ?_) (fun _ => ?_) <;> first | (exfalso; omega) | (conv => whnf))
      | (refine Fork.any (fun _ => ?_) (fun _ => ?_) <;> (conv => whnf))
    exact .t (g2 rfl)
  · omega
theorem awake9 (H : AHeap) : CallW Try.prog 9 [] H fun v H' => H' = H ∧ v = .bool true :=
  CallW.of_run2 mixed 30 (by kernel_rfl) rfl rfl H
theorem few8c (c : Cir) (hf : c.Fits) (a b : Int) (H : AHeap) (hn : Nat.ble 5 H.n = true) (h0 : H.f 0 = .ro 1 (ints c.latch)) (h1 : H.f 1 = .ro 2 (ints (pflat c.gates))) (h2 : H.f 2 = .ro 1 (ints c.out)) (h4 : H.f 4 = .cells 4 [.int .i64 c.inp, .view 0 0 c.latch.length, .view 1 0 c.gates.length, .view 2 0 c.out.length]) :
    CallW Try.prog 8 [.int .i64 a, .int .i64 b, .slice 4 0 1] H fun v H' => H' = H ∧ IsB v (c.Few a b) := by
  have hn := Nat.le_of_ble_eq_true hn
  refine (few8 c hf a b).readsL IsB.noRef [0, 1, 2, 4] rfl (.cons ⟨Nat.ble_eq_true_of_le (show 1 ≤ H.n by omega), rfl, ?_⟩ (.cons ⟨Nat.ble_eq_true_of_le (show 2 ≤ H.n by omega), rfl, ?_⟩ (.cons ⟨Nat.ble_eq_true_of_le (show 3 ≤ H.n by omega), rfl, ?_⟩ (.cons ⟨Nat.ble_eq_true_of_le (show 5 ≤ H.n by omega), rfl, ?_⟩ .nil))))
  · show BSub _ _ (H.f 0); rw [h0]; exact .roI
  · show BSub _ _ (H.f 1); rw [h1]; exact .roI
  · show BSub _ _ (H.f 2); rw [h2]; exact .roI
  · show BSub _ _ (H.f 4); rw [h4]; exact .inr (.inr ⟨4, _, rfl, rfl⟩)
theorem map_nat_inj {l m : List Nat} : (l.map fun n : Nat => (n : Int)) = (m.map fun n : Nat => (n : Int)) ↔ l = m :=
  List.map_inj_right fun a b h => Int.natCast_inj.1 h
theorem list18n (l m : List Nat) (hl : l.length ≤ 4294967296) (hm : m.length ≤ 4294967296) : CallW Try.prog 18 [.view 0 0 l.length, .view 1 0 m.length] ((emptyH.alloc (roO (l.map fun n : Nat => (n : Int)))).alloc (roO (m.map fun n : Nat => (n : Int)))) fun v _ => IsB v (l = m) := by
  have h := list18 (l.map fun n : Nat => (n : Int)) (m.map fun n : Nat => (n : Int)) (by rw [List.length_map]; exact hl) (by rw [List.length_map]; exact hm) ((emptyH.alloc (roO (l.map fun n : Nat => (n : Int)))).alloc (roO (m.map fun n : Nat => (n : Int)))) (Nat.le_of_ble_eq_true rfl) roO_cs roO_cs
  rw [List.length_map, List.length_map] at h
  exact h.mono fun v G h => h.2.imp map_nat_inj
theorem lpairs23n (l m : List (Int × Int)) (hl : l.length ≤ 4294967296) (hm : m.length ≤ 4294967296) : CallW Try.prog 23 [.view 0 0 l.length, .view 1 0 m.length] ((emptyH.alloc (roOP l)).alloc (roOP m)) fun v _ => IsB v (l = m) :=
  (lpairs23 l m hl hm ((emptyH.alloc (roOP l)).alloc (roOP m)) (Nat.le_of_ble_eq_true rfl) roOP_cs roOP_cs).mono fun v G h => h.2
theorem law5c (c : Cir) (hf : c.Fits) : CallW Try.prog 5 [c.av 0 1 2] c.heap fun v _ => v = .bool true := by
  refine CallW.symK (cuts := []) Try.func5 rfl (by kernel_rfl) ?_
  conv => whnf
  repeat' first
    | ((with_reducible refine Gets.shrN ?_ ?_); (· omega); conv => whnf)
    | ((with_reducible refine Gets.andOne ?_ ?_); (· first | omega | exact Nat.lt_of_le_of_lt (Nat.shiftRight_le _ _) (by omega)); conv => whnf)
    | ((with_reducible refine Gets.shlN ?_ ?_); (· omega); conv => whnf)
    | ((with_reducible refine Gets.shlI ?_ ?_ ?_); (· omega); (· omega); conv => whnf)
    | ((with_reducible refine Gets.quoI ?_ ?_ ?_ ?_); (· omega); (· omega); (· omega); conv => whnf)
    | ((with_reducible refine Gets.remN ?_ ?_ ?_); (· omega); (· omega); conv => whnf)
    | ((with_reducible refine Fork.bit (fun _ => ?_) (fun _ => ?_)) <;> (conv => whnf))
    | ((with_reducible refine Gets.addI ?_ ?_ ?_); (· omega); (· omega); conv => whnf)
    | ((with_reducible refine Gets.subI ?_ ?_ ?_); (· omega); (· omega); conv => whnf)
    | ((with_reducible refine Gets.mulI ?_ ?_ ?_); (· omega); (· omega); conv => whnf)
    | (refine Gets.of _ rfl ?_; conv => whnf)
    | (refine Gets.ix1v rfl rfl (by omega) ?_; conv => whnf)
    | (refine Gets.ix1 rfl rfl (by omega) ?_; conv => whnf)
    | (refine Gets.ixIv rfl rfl (by omega) (by omega) ?_; conv => whnf)
    | (refine Gets.ixI rfl rfl (by omega) (by omega) ?_; conv => whnf)
    | (refine Gets.ixEv (es := 2) rfl rfl (by omega) ?_; conv => whnf)
    | (refine Gets.ixE (es := 2) rfl rfl (by omega) ?_; conv => whnf)
    | (refine Gets.ldP (ti := tiP) rfl rfl rfl (by first | rfl | assumption) (by first | omega | exact Nat.le_of_ble_eq_true rfl) ?_; conv => whnf)
    | (refine Gets.ldI rfl (by first | rfl | assumption) (by first | omega | exact Nat.le_of_ble_eq_true rfl) ?_; conv => whnf)
    | (refine Gets.ldB rfl (by first | rfl | assumption) (by first | omega | exact Nat.le_of_ble_eq_true rfl) ?_; conv => whnf)
    | (refine Chk.mk (by repeat first | exact .nil | refine .cons rfl ?_) ?_; conv => whnf)
    | (refine Alls.mk ?_ ?_ <;> conv => whnf)
    | (refine seqL1_of ?_; conv => whnf)
    | (refine Fork.dec (fun _ => ?_) (fun _ => ?_) <;> first | (exfalso; omega) | (conv => whnf))
    | (refine Fork.eqI (fun _ => ?_) (fun _ => ?_) <;> first | (exfalso; omega) | (conv => whnf))
    | (refine Fork.neI (fun _ => ?_) (fun _ => ?_) <;> first | (exfalso; omega) | (conv => whnf))
    | (refine Fork.any (fun _ => ?_) (fun _ => ?_) <;> (conv => whnf))
  refine CallS.of (by kernel_rfl) (few8c c hf 12 60 _ rfl rfl rfl rfl rfl) rfl ?_
  rintro _ _ ⟨rfl, hw | hw⟩
  all_goals conv => whnf
  all_goals
    repeat' first
      | ((with_reducible refine Gets.shrN ?_ ?_); (· omega); conv => whnf)
      | ((with_reducible refine Gets.andOne ?_ ?_); (· first | omega | exact Nat.lt_of_le_of_lt (Nat.shiftRight_le _ _) (by omega)); conv => whnf)
      | ((with_reducible refine Gets.shlN ?_ ?_); (· omega); conv => whnf)
      | ((with_reducible refine Gets.shlI ?_ ?_ ?_); (· omega); (· omega); conv => whnf)
      | ((with_reducible refine Gets.quoI ?_ ?_ ?_ ?_); (· omega); (· omega); (· omega); conv => whnf)
      | ((with_reducible refine Gets.remN ?_ ?_ ?_); (· omega); (· omega); conv => whnf)
      | ((with_reducible refine Fork.bit (fun _ => ?_) (fun _ => ?_)) <;> (conv => whnf))
      | ((with_reducible refine Gets.addI ?_ ?_ ?_); (· omega); (· omega); conv => whnf)
      | ((with_reducible refine Gets.subI ?_ ?_ ?_); (· omega); (· omega); conv => whnf)
      | ((with_reducible refine Gets.mulI ?_ ?_ ?_); (· omega); (· omega); conv => whnf)
      | (refine Gets.of _ rfl ?_; conv => whnf)
      | (refine Gets.ix1v rfl rfl (by omega) ?_; conv => whnf)
      | (refine Gets.ix1 rfl rfl (by omega) ?_; conv => whnf)
      | (refine Gets.ixIv rfl rfl (by omega) (by omega) ?_; conv => whnf)
      | (refine Gets.ixI rfl rfl (by omega) (by omega) ?_; conv => whnf)
      | (refine Gets.ixEv (es := 2) rfl rfl (by omega) ?_; conv => whnf)
      | (refine Gets.ixE (es := 2) rfl rfl (by omega) ?_; conv => whnf)
      | (refine Gets.ldP (ti := tiP) rfl rfl rfl (by first | rfl | assumption) (by first | omega | exact Nat.le_of_ble_eq_true rfl) ?_; conv => whnf)
      | (refine Gets.ldI rfl (by first | rfl | assumption) (by first | omega | exact Nat.le_of_ble_eq_true rfl) ?_; conv => whnf)
      | (refine Gets.ldB rfl (by first | rfl | assumption) (by first | omega | exact Nat.le_of_ble_eq_true rfl) ?_; conv => whnf)
      | (refine Chk.mk (by repeat first | exact .nil | refine .cons rfl ?_) ?_; conv => whnf)
      | (refine Alls.mk ?_ ?_ <;> conv => whnf)
      | (refine seqL1_of ?_; conv => whnf)
      | (refine Fork.dec (fun _ => ?_) (fun _ => ?_) <;> first | (exfalso; omega) | (conv => whnf))
      | (refine Fork.eqI (fun _ => ?_) (fun _ => ?_) <;> first | (exfalso; omega) | (conv => whnf))
      | (refine Fork.neI (fun _ => ?_) (fun _ => ?_) <;> first | (exfalso; omega) | (conv => whnf))
      | (refine Fork.any (fun _ => ?_) (fun _ => ?_) <;> (conv => whnf))
  · have h12 : c.Ok → c.latch.length ≤ 12 := fun ho => by
      have h1 := hw.1
      have h2 := ho.s.2.2.1
      omega
    by_cases ho : c.Ok
    · have hL := ho.s.2.2.1
      have c19 : CallW Try.prog 19 [c.av 0 1 2] c.heap _ := (stuck19 c hf h12).mono fun v G h => (h.resolve_left fun h => h.1 ho).2
      have c20 : CallW Try.prog 20 [c.av 0 1 2] c.heap _ := (rstuck20 c hf).mono fun v G h => (h.resolve_left fun h => h.1 ho).2
      have c21 : CallW Try.prog 21 [c.av 0 1 2] c.heap _ := (pairs21 c hf h12).mono fun v G h => (h.resolve_left fun h => h.1 ho).2
      have c22 : CallW Try.prog 22 [c.av 0 1 2] c.heap _ := (rpairs22 c hf).mono fun v G h => (h.resolve_left fun h => h.1 ho).2
      have l1 : (stuckL c.reach c.latch.length).length ≤ 24 := Nat.le_trans (by have := List.length_filter_le (zeroIn c.reach) (List.range c.latch.length); rwa [List.length_range] at this) hL
      have l2 := Nat.le_trans (pairsL_len c.reach c.latch.length) hL
      generalize stuckL c.reach c.latch.length = SL at *
      generalize pairsL c.reach c.latch.length = PL at *
      refine CallS.of (by kernel_rfl) (c19.frameQ [0, 1, 2] rfl (.cons ⟨rfl, .roI⟩ (.cons ⟨rfl, .roI⟩ (.cons ⟨rfl, .roI⟩ .nil))) (by rintro _ _ ⟨rfl, rfl⟩; repeat first | exact .nil | refine .cons (by first | exact .inr rfl | exact .inl rfl | exact .inr (fresh_oN _) | exact .inr (fresh_oP _)) ?_)) rfl ?_
      rintro _ _ ⟨_, _, ⟨rfl, rfl⟩, rfl, rfl⟩
      conv => whnf
      repeat' first
        | ((with_reducible refine Gets.shrN ?_ ?_); (· omega); conv => whnf)
        | ((with_reducible refine Gets.andOne ?_ ?_); (· first | omega | exact Nat.lt_of_le_of_lt (Nat.shiftRight_le _ _) (by omega)); conv => whnf)
        | ((with_reducible refine Gets.shlN ?_ ?_); (· omega); conv => whnf)
        | ((with_reducible refine Gets.shlI ?_ ?_ ?_); (· omega); (· omega); conv => whnf)
        | ((with_reducible refine Gets.quoI ?_ ?_ ?_ ?_); (· omega); (· omega); (· omega); conv => whnf)
        | ((with_reducible refine Gets.remN ?_ ?_ ?_); (· omega); (· omega); conv => whnf)
        | ((with_reducible refine Fork.bit (fun _ => ?_) (fun _ => ?_)) <;> (conv => whnf))
        | ((with_reducible refine Gets.addI ?_ ?_ ?_); (· omega); (· omega); conv => whnf)
        | ((with_reducible refine Gets.subI ?_ ?_ ?_); (· omega); (· omega); conv => whnf)
        | ((with_reducible refine Gets.mulI ?_ ?_ ?_); (· omega); (· omega); conv => whnf)
        | (refine Gets.of _ rfl ?_; conv => whnf)
        | (refine Gets.ix1v rfl rfl (by omega) ?_; conv => whnf)
        | (refine Gets.ix1 rfl rfl (by omega) ?_; conv => whnf)
        | (refine Gets.ixIv rfl rfl (by omega) (by omega) ?_; conv => whnf)
        | (refine Gets.ixI rfl rfl (by omega) (by omega) ?_; conv => whnf)
        | (refine Gets.ixEv (es := 2) rfl rfl (by omega) ?_; conv => whnf)
        | (refine Gets.ixE (es := 2) rfl rfl (by omega) ?_; conv => whnf)
        | (refine Gets.ldP (ti := tiP) rfl rfl rfl (by first | rfl | assumption) (by first | omega | exact Nat.le_of_ble_eq_true rfl) ?_; conv => whnf)
        | (refine Gets.ldI rfl (by first | rfl | assumption) (by first | omega | exact Nat.le_of_ble_eq_true rfl) ?_; conv => whnf)
        | (refine Gets.ldB rfl (by first | rfl | assumption) (by first | omega | exact Nat.le_of_ble_eq_true rfl) ?_; conv => whnf)
        | (refine Chk.mk (by repeat first | exact .nil | refine .cons rfl ?_) ?_; conv => whnf)
        | (refine Alls.mk ?_ ?_ <;> conv => whnf)
        | (refine seqL1_of ?_; conv => whnf)
        | (refine Fork.dec (fun _ => ?_) (fun _ => ?_) <;> first | (exfalso; omega) | (conv => whnf))
        | (refine Fork.eqI (fun _ => ?_) (fun _ => ?_) <;> first | (exfalso; omega) | (conv => whnf))
        | (refine Fork.neI (fun _ => ?_) (fun _ => ?_) <;> first | (exfalso; omega) | (conv => whnf))
        | (refine Fork.any (fun _ => ?_) (fun _ => ?_) <;> (conv => whnf))
      refine CallS.of (by kernel_rfl) (c20.frameQ [0, 1, 2] rfl (.cons ⟨rfl, .roI⟩ (.cons ⟨rfl, .roI⟩ (.cons ⟨rfl, .roI⟩ .nil))) (by rintro _ _ ⟨rfl, rfl⟩; repeat first | exact .nil | refine .cons (by first | exact .inr rfl | exact .inl rfl | exact .inr (fresh_oN _) | exact .inr (fresh_oP _)) ?_)) rfl ?_
      rintro _ _ ⟨_, _, ⟨rfl, rfl⟩, rfl, rfl⟩
      conv => whnf
      repeat' first
        | ((with_reducible refine Gets.shrN ?_ ?_); (· omega); conv => whnf)
        | ((with_reducible refine Gets.andOne ?_ ?_); (· first | omega | exact Nat.lt_of_le_of_lt (Nat.shiftRight_le _ _) (by omega)); conv => whnf)
        | ((with_reducible refine Gets.shlN ?_ ?_); (· omega); conv => whnf)
        | ((with_reducible refine Gets.shlI ?_ ?_ ?_); (· omega); (· omega); conv => whnf)
        | ((with_reducible refine Gets.quoI ?_ ?_ ?_ ?_); (· omega); (· omega); (· omega); conv => whnf)
        | ((with_reducible refine Gets.remN ?_ ?_ ?_); (· omega); (· omega); conv => whnf)
        | ((with_reducible refine Fork.bit (fun _ => ?_) (fun _ => ?_)) <;> (conv => whnf))
        | ((with_reducible refine Gets.addI ?_ ?_ ?_); (· omega); (· omega); conv => whnf)
        | ((with_reducible refine Gets.subI ?_ ?_ ?_); (· omega); (· omega); conv => whnf)
        | ((with_reducible refine Gets.mulI ?_ ?_ ?_); (· omega); (· omega); conv => whnf)
        | (refine Gets.of _ rfl ?_; conv => whnf)
        | (refine Gets.ix1v rfl rfl (by omega) ?_; conv => whnf)
        | (refine Gets.ix1 rfl rfl (by omega) ?_; conv => whnf)
        | (refine Gets.ixIv rfl rfl (by omega) (by omega) ?_; conv => whnf)
        | (refine Gets.ixI rfl rfl (by omega) (by omega) ?_; conv => whnf)
        | (refine Gets.ixEv (es := 2) rfl rfl (by omega) ?_; conv => whnf)
        | (refine Gets.ixE (es := 2) rfl rfl (by omega) ?_; conv => whnf)
        | (refine Gets.ldP (ti := tiP) rfl rfl rfl (by first | rfl | assumption) (by first | omega | exact Nat.le_of_ble_eq_true rfl) ?_; conv => whnf)
        | (refine Gets.ldI rfl (by first | rfl | assumption) (by first | omega | exact Nat.le_of_ble_eq_true rfl) ?_; conv => whnf)
        | (refine Gets.ldB rfl (by first | rfl | assumption) (by first | omega | exact Nat.le_of_ble_eq_true rfl) ?_; conv => whnf)
        | (refine Chk.mk (by repeat first | exact .nil | refine .cons rfl ?_) ?_; conv => whnf)
        | (refine Alls.mk ?_ ?_ <;> conv => whnf)
        | (refine seqL1_of ?_; conv => whnf)
        | (refine Fork.dec (fun _ => ?_) (fun _ => ?_) <;> first | (exfalso; omega) | (conv => whnf))
        | (refine Fork.eqI (fun _ => ?_) (fun _ => ?_) <;> first | (exfalso; omega) | (conv => whnf))
        | (refine Fork.neI (fun _ => ?_) (fun _ => ?_) <;> first | (exfalso; omega) | (conv => whnf))
        | (refine Fork.any (fun _ => ?_) (fun _ => ?_) <;> (conv => whnf))
      refine CallS.of (by kernel_rfl) (c21.frameQ [0, 1, 2] rfl (.cons ⟨rfl, .roI⟩ (.cons ⟨rfl, .roI⟩ (.cons ⟨rfl, .roI⟩ .nil))) (by rintro _ _ ⟨rfl, rfl⟩; repeat first | exact .nil | refine .cons (by first | exact .inr rfl | exact .inl rfl | exact .inr (fresh_oN _) | exact .inr (fresh_oP _)) ?_)) rfl ?_
      rintro _ _ ⟨_, _, ⟨rfl, rfl⟩, rfl, rfl⟩
      conv => whnf
      repeat' first
        | ((with_reducible refine Gets.shrN ?_ ?_); (· omega); conv => whnf)
        | ((with_reducible refine Gets.andOne ?_ ?_); (· first | omega | exact Nat.lt_of_le_of_lt (Nat.shiftRight_le _ _) (by omega)); conv => whnf)
        | ((with_reducible refine Gets.shlN ?_ ?_); (· omega); conv => whnf)
        | ((with_reducible refine Gets.shlI ?_ ?_ ?_); (· omega); (· omega); conv => whnf)
        | ((with_reducible refine Gets.quoI ?_ ?_ ?_ ?_); (· omega); (· omega); (· omega); conv => whnf)
        | ((with_reducible refine Gets.remN ?_ ?_ ?_); (· omega); (· omega); conv => whnf)
        | ((with_reducible refine Fork.bit (fun _ => ?_) (fun _ => ?_)) <;> (conv => whnf))
        | ((with_reducible refine Gets.addI ?_ ?_ ?_); (· omega); (· omega); conv => whnf)
        | ((with_reducible refine Gets.subI ?_ ?_ ?_); (· omega); (· omega); conv => whnf)
        | ((with_reducible refine Gets.mulI ?_ ?_ ?_); (· omega); (· omega); conv => whnf)
        | (refine Gets.of _ rfl ?_; conv => whnf)
        | (refine Gets.ix1v rfl rfl (by omega) ?_; conv => whnf)
        | (refine Gets.ix1 rfl rfl (by omega) ?_; conv => whnf)
        | (refine Gets.ixIv rfl rfl (by omega) (by omega) ?_; conv => whnf)
        | (refine Gets.ixI rfl rfl (by omega) (by omega) ?_; conv => whnf)
        | (refine Gets.ixEv (es := 2) rfl rfl (by omega) ?_; conv => whnf)
        | (refine Gets.ixE (es := 2) rfl rfl (by omega) ?_; conv => whnf)
        | (refine Gets.ldP (ti := tiP) rfl rfl rfl (by first | rfl | assumption) (by first | omega | exact Nat.le_of_ble_eq_true rfl) ?_; conv => whnf)
        | (refine Gets.ldI rfl (by first | rfl | assumption) (by first | omega | exact Nat.le_of_ble_eq_true rfl) ?_; conv => whnf)
        | (refine Gets.ldB rfl (by first | rfl | assumption) (by first | omega | exact Nat.le_of_ble_eq_true rfl) ?_; conv => whnf)
        | (refine Chk.mk (by repeat first | exact .nil | refine .cons rfl ?_) ?_; conv => whnf)
        | (refine Alls.mk ?_ ?_ <;> conv => whnf)
        | (refine seqL1_of ?_; conv => whnf)
        | (refine Fork.dec (fun _ => ?_) (fun _ => ?_) <;> first | (exfalso; omega) | (conv => whnf))
        | (refine Fork.eqI (fun _ => ?_) (fun _ => ?_) <;> first | (exfalso; omega) | (conv => whnf))
        | (refine Fork.neI (fun _ => ?_) (fun _ => ?_) <;> first | (exfalso; omega) | (conv => whnf))
        | (refine Fork.any (fun _ => ?_) (fun _ => ?_) <;> (conv => whnf))
      refine CallS.of (by kernel_rfl) (c22.frameQ [0, 1, 2] rfl (.cons ⟨rfl, .roI⟩ (.cons ⟨rfl, .roI⟩ (.cons ⟨rfl, .roI⟩ .nil))) (by rintro _ _ ⟨rfl, rfl⟩; repeat first | exact .nil | refine .cons (by first | exact .inr rfl | exact .inl rfl | exact .inr (fresh_oN _) | exact .inr (fresh_oP _)) ?_)) rfl ?_
      rintro _ _ ⟨_, _, ⟨rfl, rfl⟩, rfl, rfl⟩
      conv => whnf
      repeat' first
        | ((with_reducible refine Gets.shrN ?_ ?_); (· omega); conv => whnf)
        | ((with_reducible refine Gets.andOne ?_ ?_); (· first | omega | exact Nat.lt_of_le_of_lt (Nat.shiftRight_le _ _) (by omega)); conv => whnf)
        | ((with_reducible refine Gets.shlN ?_ ?_); (· omega); conv => whnf)
        | ((with_reducible refine Gets.shlI ?_ ?_ ?_); (· omega); (· omega); conv => whnf)
        | ((with_reducible refine Gets.quoI ?_ ?_ ?_ ?_); (· omega); (· omega); (· omega); conv => whnf)
        | ((with_reducible refine Gets.remN ?_ ?_ ?_); (· omega); (· omega); conv => whnf)
        | ((with_reducible refine Fork.bit (fun _ => ?_) (fun _ => ?_)) <;> (conv => whnf))
        | ((with_reducible refine Gets.addI ?_ ?_ ?_); (· omega); (· omega); conv => whnf)
        | ((with_reducible refine Gets.subI ?_ ?_ ?_); (· omega); (· omega); conv => whnf)
        | ((with_reducible refine Gets.mulI ?_ ?_ ?_); (· omega); (· omega); conv => whnf)
        | (refine Gets.of _ rfl ?_; conv => whnf)
        | (refine Gets.ix1v rfl rfl (by omega) ?_; conv => whnf)
        | (refine Gets.ix1 rfl rfl (by omega) ?_; conv => whnf)
        | (refine Gets.ixIv rfl rfl (by omega) (by omega) ?_; conv => whnf)
        | (refine Gets.ixI rfl rfl (by omega) (by omega) ?_; conv => whnf)
        | (refine Gets.ixEv (es := 2) rfl rfl (by omega) ?_; conv => whnf)
        | (refine Gets.ixE (es := 2) rfl rfl (by omega) ?_; conv => whnf)
        | (refine Gets.ldP (ti := tiP) rfl rfl rfl (by first | rfl | assumption) (by first | omega | exact Nat.le_of_ble_eq_true rfl) ?_; conv => whnf)
        | (refine Gets.ldI rfl (by first | rfl | assumption) (by first | omega | exact Nat.le_of_ble_eq_true rfl) ?_; conv => whnf)
        | (refine Gets.ldB rfl (by first | rfl | assumption) (by first | omega | exact Nat.le_of_ble_eq_true rfl) ?_; conv => whnf)
        | (refine Chk.mk (by repeat first | exact .nil | refine .cons rfl ?_) ?_; conv => whnf)
        | (refine Alls.mk ?_ ?_ <;> conv => whnf)
        | (refine seqL1_of ?_; conv => whnf)
        | (refine Fork.dec (fun _ => ?_) (fun _ => ?_) <;> first | (exfalso; omega) | (conv => whnf))
        | (refine Fork.eqI (fun _ => ?_) (fun _ => ?_) <;> first | (exfalso; omega) | (conv => whnf))
        | (refine Fork.neI (fun _ => ?_) (fun _ => ?_) <;> first | (exfalso; omega) | (conv => whnf))
        | (refine Fork.any (fun _ => ?_) (fun _ => ?_) <;> (conv => whnf))
      refine CallS.of (by kernel_rfl) ((list18n SL SL (by omega) (by omega)).readsL IsB.noRef [5, 6] rfl (.cons ⟨rfl, roO_rw _, .roN⟩ (.cons ⟨rfl, roO_rw _, .roN⟩ .nil))) rfl ?_
      rintro _ _ ⟨rfl, hp | hp⟩
      all_goals conv => whnf
      rotate_left
      · exact absurd rfl hp
      repeat' first
        | ((with_reducible refine Gets.shrN ?_ ?_); (· omega); conv => whnf)
        | ((with_reducible refine Gets.andOne ?_ ?_); (· first | omega | exact Nat.lt_of_le_of_lt (Nat.shiftRight_le _ _) (by omega)); conv => whnf)
        | ((with_reducible refine Gets.shlN ?_ ?_); (· omega); conv => whnf)
        | ((with_reducible refine Gets.shlI ?_ ?_ ?_); (· omega); (· omega); conv => whnf)
        | ((with_reducible refine Gets.quoI ?_ ?_ ?_ ?_); (· omega); (· omega); (· omega); conv => whnf)
        | ((with_reducible refine Gets.remN ?_ ?_ ?_); (· omega); (· omega); conv => whnf)
        | ((with_reducible refine Fork.bit (fun _ => ?_) (fun _ => ?_)) <;> (conv => whnf))
        | ((with_reducible refine Gets.addI ?_ ?_ ?_); (· omega); (· omega); conv => whnf)
        | ((with_reducible refine Gets.subI ?_ ?_ ?_); (· omega); (· omega); conv => whnf)
        | ((with_reducible refine Gets.mulI ?_ ?_ ?_); (· omega); (· omega); conv => whnf)
        | (refine Gets.of _ rfl ?_; conv => whnf)
        | (refine Gets.ix1v rfl rfl (by omega) ?_; conv => whnf)
        | (refine Gets.ix1 rfl rfl (by omega) ?_; conv => whnf)
        | (refine Gets.ixIv rfl rfl (by omega) (by omega) ?_; conv => whnf)
        | (refine Gets.ixI rfl rfl (by omega) (by omega) ?_; conv => whnf)
        | (refine Gets.ixEv (es := 2) rfl rfl (by omega) ?_; conv => whnf)
        | (refine Gets.ixE (es := 2) rfl rfl (by omega) ?_; conv => whnf)
        | (refine Gets.ldP (ti := tiP) rfl rfl rfl (by first | rfl | assumption) (by first | omega | exact Nat.le_of_ble_eq_true rfl) ?_; conv => whnf)
        | (refine Gets.ldI rfl (by first | rfl | assumption) (by first | omega | exact Nat.le_of_ble_eq_true rfl) ?_; conv => whnf)
        | (refine Gets.ldB rfl (by first | rfl | assumption) (by first | omega | exact Nat.le_of_ble_eq_true rfl) ?_; conv => whnf)
        | (refine Chk.mk (by repeat first | exact .nil | refine .cons rfl ?_) ?_; conv => whnf)
        | (refine Alls.mk ?_ ?_ <;> conv => whnf)
        | (refine seqL1_of ?_; conv => whnf)
        | (refine Fork.dec (fun _ => ?_) (fun _ => ?_) <;> first | (exfalso; omega) | (conv => whnf))
        | (refine Fork.eqI (fun _ => ?_) (fun _ => ?_) <;> first | (exfalso; omega) | (conv => whnf))
        | (refine Fork.neI (fun _ => ?_) (fun _ => ?_) <;> first | (exfalso; omega) | (conv => whnf))
        | (refine Fork.any (fun _ => ?_) (fun _ => ?_) <;> (conv => whnf))
      refine CallS.of (by kernel_rfl) ((lpairs23n PL PL (by omega) (by omega)).readsL IsB.noRef [7, 8] rfl (.cons ⟨rfl, roOP_rw _, .roP⟩ (.cons ⟨rfl, roOP_rw _, .roP⟩ .nil))) rfl ?_
      rintro _ _ ⟨rfl, hq | hq⟩
      all_goals conv => whnf
      rotate_left
      · exact absurd rfl hq
      repeat' first
        | ((with_reducible refine Gets.shrN ?_ ?_); (· omega); conv => whnf)
        | ((with_reducible refine Gets.andOne ?_ ?_); (· first | omega | exact Nat.lt_of_le_of_lt (Nat.shiftRight_le _ _) (by omega)); conv => whnf)
        | ((with_reducible refine Gets.shlN ?_ ?_); (· omega); conv => whnf)
        | ((with_reducible refine Gets.shlI ?_ ?_ ?_); (· omega); (· omega); conv => whnf)
        | ((with_reducible refine Gets.quoI ?_ ?_ ?_ ?_); (· omega); (· omega); (· omega); conv => whnf)
        | ((with_reducible refine Gets.remN ?_ ?_ ?_); (· omega); (· omega); conv => whnf)
        | ((with_reducible refine Fork.bit (fun _ => ?_) (fun _ => ?_)) <;> (conv => whnf))
        | ((with_reducible refine Gets.addI ?_ ?_ ?_); (· omega); (· omega); conv => whnf)
        | ((with_reducible refine Gets.subI ?_ ?_ ?_); (· omega); (· omega); conv => whnf)
        | ((with_reducible refine Gets.mulI ?_ ?_ ?_); (· omega); (· omega); conv => whnf)
        | (refine Gets.of _ rfl ?_; conv => whnf)
        | (refine Gets.ix1v rfl rfl (by omega) ?_; conv => whnf)
        | (refine Gets.ix1 rfl rfl (by omega) ?_; conv => whnf)
        | (refine Gets.ixIv rfl rfl (by omega) (by omega) ?_; conv => whnf)
        | (refine Gets.ixI rfl rfl (by omega) (by omega) ?_; conv => whnf)
        | (refine Gets.ixEv (es := 2) rfl rfl (by omega) ?_; conv => whnf)
        | (refine Gets.ixE (es := 2) rfl rfl (by omega) ?_; conv => whnf)
        | (refine Gets.ldP (ti := tiP) rfl rfl rfl (by first | rfl | assumption) (by first | omega | exact Nat.le_of_ble_eq_true rfl) ?_; conv => whnf)
        | (refine Gets.ldI rfl (by first | rfl | assumption) (by first | omega | exact Nat.le_of_ble_eq_true rfl) ?_; conv => whnf)
        | (refine Gets.ldB rfl (by first | rfl | assumption) (by first | omega | exact Nat.le_of_ble_eq_true rfl) ?_; conv => whnf)
        | (refine Chk.mk (by repeat first | exact .nil | refine .cons rfl ?_) ?_; conv => whnf)
        | (refine Alls.mk ?_ ?_ <;> conv => whnf)
        | (refine seqL1_of ?_; conv => whnf)
        | (refine Fork.dec (fun _ => ?_) (fun _ => ?_) <;> first | (exfalso; omega) | (conv => whnf))
        | (refine Fork.eqI (fun _ => ?_) (fun _ => ?_) <;> first | (exfalso; omega) | (conv => whnf))
        | (refine Fork.neI (fun _ => ?_) (fun _ => ?_) <;> first | (exfalso; omega) | (conv => whnf))
        | (refine Fork.any (fun _ => ?_) (fun _ => ?_) <;> (conv => whnf))
      refine CallS.of (by kernel_rfl) (awake9 _) rfl ?_
      rintro _ _ ⟨rfl, rfl⟩
      conv => whnf
      repeat' first
        | ((with_reducible refine Gets.shrN ?_ ?_); (· omega); conv => whnf)
        | ((with_reducible refine Gets.andOne ?_ ?_); (· first | omega | exact Nat.lt_of_le_of_lt (Nat.shiftRight_le _ _) (by omega)); conv => whnf)
        | ((with_reducible refine Gets.shlN ?_ ?_); (· omega); conv => whnf)
        | ((with_reducible refine Gets.shlI ?_ ?_ ?_); (· omega); (· omega); conv => whnf)
        | ((with_reducible refine Gets.quoI ?_ ?_ ?_ ?_); (· omega); (· omega); (· omega); conv => whnf)
        | ((with_reducible refine Gets.remN ?_ ?_ ?_); (· omega); (· omega); conv => whnf)
        | ((with_reducible refine Fork.bit (fun _ => ?_) (fun _ => ?_)) <;> (conv => whnf))
        | ((with_reducible refine Gets.addI ?_ ?_ ?_); (· omega); (· omega); conv => whnf)
        | ((with_reducible refine Gets.subI ?_ ?_ ?_); (· omega); (· omega); conv => whnf)
        | ((with_reducible refine Gets.mulI ?_ ?_ ?_); (· omega); (· omega); conv => whnf)
        | (refine Gets.of _ rfl ?_; conv => whnf)
        | (refine Gets.ix1v rfl rfl (by omega) ?_; conv => whnf)
        | (refine Gets.ix1 rfl rfl (by omega) ?_; conv => whnf)
        | (refine Gets.ixIv rfl rfl (by omega) (by omega) ?_; conv => whnf)
        | (refine Gets.ixI rfl rfl (by omega) (by omega) ?_; conv => whnf)
        | (refine Gets.ixEv (es := 2) rfl rfl (by omega) ?_; conv => whnf)
        | (refine Gets.ixE (es := 2) rfl rfl (by omega) ?_; conv => whnf)
        | (refine Gets.ldP (ti := tiP) rfl rfl rfl (by first | rfl | assumption) (by first | omega | exact Nat.le_of_ble_eq_true rfl) ?_; conv => whnf)
        | (refine Gets.ldI rfl (by first | rfl | assumption) (by first | omega | exact Nat.le_of_ble_eq_true rfl) ?_; conv => whnf)
        | (refine Gets.ldB rfl (by first | rfl | assumption) (by first | omega | exact Nat.le_of_ble_eq_true rfl) ?_; conv => whnf)
        | (refine Chk.mk (by repeat first | exact .nil | refine .cons rfl ?_) ?_; conv => whnf)
        | (refine Alls.mk ?_ ?_ <;> conv => whnf)
        | (refine seqL1_of ?_; conv => whnf)
        | (refine Fork.dec (fun _ => ?_) (fun _ => ?_) <;> first | (exfalso; omega) | (conv => whnf))
        | (refine Fork.eqI (fun _ => ?_) (fun _ => ?_) <;> first | (exfalso; omega) | (conv => whnf))
        | (refine Fork.neI (fun _ => ?_) (fun _ => ?_) <;> first | (exfalso; omega) | (conv => whnf))
        | (refine Fork.any (fun _ => ?_) (fun _ => ?_) <;> (conv => whnf))
      rfl
    · have c19 : CallW Try.prog 19 [c.av 0 1 2] c.heap _ := (stuck19 c hf h12).mono fun v G h => (h.resolve_right fun h => ho h.1).2
      have c20 : CallW Try.prog 20 [c.av 0 1 2] c.heap _ := (rstuck20 c hf).mono fun v G h => (h.resolve_right fun h => ho h.1).2
      have c21 : CallW Try.prog 21 [c.av 0 1 2] c.heap _ := (pairs21 c hf h12).mono fun v G h => (h.resolve_right fun h => ho h.1).2
      have c22 : CallW Try.prog 22 [c.av 0 1 2] c.heap _ := (rpairs22 c hf).mono fun v G h => (h.resolve_right fun h => ho h.1).2
      refine CallS.of (by kernel_rfl) (c19.frameQ [0, 1, 2] rfl (.cons ⟨rfl, .roI⟩ (.cons ⟨rfl, .roI⟩ (.cons ⟨rfl, .roI⟩ .nil))) (by rintro _ _ ⟨rfl, rfl⟩; repeat first | exact .nil | refine .cons (by first | exact .inr rfl | exact .inl rfl | exact .inr (fresh_oN _) | exact .inr (fresh_oP _)) ?_)) rfl ?_
      rintro _ _ ⟨_, _, ⟨rfl, rfl⟩, rfl, rfl⟩
      conv => whnf
      repeat' first
        | ((with_reducible refine Gets.shrN ?_ ?_); (· omega); conv => whnf)
        | ((with_reducible refine Gets.andOne ?_ ?_); (· first | omega | exact Nat.lt_of_le_of_lt (Nat.shiftRight_le _ _) (by omega)); conv => whnf)
        | ((with_reducible refine Gets.shlN ?_ ?_); (· omega); conv => whnf)
        | ((with_reducible refine Gets.shlI ?_ ?_ ?_); (· omega); (· omega); conv => whnf)
        | ((with_reducible refine Gets.quoI ?_ ?_ ?_ ?_); (· omega); (· omega); (· omega); conv => whnf)
        | ((with_reducible refine Gets.remN ?_ ?_ ?_); (· omega); (· omega); conv => whnf)
        | ((with_reducible refine Fork.bit (fun _ => ?_) (fun _ => ?_)) <;> (conv => whnf))
        | ((with_reducible refine Gets.addI ?_ ?_ ?_); (· omega); (· omega); conv => whnf)
        | ((with_reducible refine Gets.subI ?_ ?_ ?_); (· omega); (· omega); conv => whnf)
        | ((with_reducible refine Gets.mulI ?_ ?_ ?_); (· omega); (· omega); conv => whnf)
        | (refine Gets.of _ rfl ?_; conv => whnf)
        | (refine Gets.ix1v rfl rfl (by omega) ?_; conv => whnf)
        | (refine Gets.ix1 rfl rfl (by omega) ?_; conv => whnf)
        | (refine Gets.ixIv rfl rfl (by omega) (by omega) ?_; conv => whnf)
        | (refine Gets.ixI rfl rfl (by omega) (by omega) ?_; conv => whnf)
        | (refine Gets.ixEv (es := 2) rfl rfl (by omega) ?_; conv => whnf)
        | (refine Gets.ixE (es := 2) rfl rfl (by omega) ?_; conv => whnf)
        | (refine Gets.ldP (ti := tiP) rfl rfl rfl (by first | rfl | assumption) (by first | omega | exact Nat.le_of_ble_eq_true rfl) ?_; conv => whnf)
        | (refine Gets.ldI rfl (by first | rfl | assumption) (by first | omega | exact Nat.le_of_ble_eq_true rfl) ?_; conv => whnf)
        | (refine Gets.ldB rfl (by first | rfl | assumption) (by first | omega | exact Nat.le_of_ble_eq_true rfl) ?_; conv => whnf)
        | (refine Chk.mk (by repeat first | exact .nil | refine .cons rfl ?_) ?_; conv => whnf)
        | (refine Alls.mk ?_ ?_ <;> conv => whnf)
        | (refine seqL1_of ?_; conv => whnf)
        | (refine Fork.dec (fun _ => ?_) (fun _ => ?_) <;> first | (exfalso; omega) | (conv => whnf))
        | (refine Fork.eqI (fun _ => ?_) (fun _ => ?_) <;> first | (exfalso; omega) | (conv => whnf))
        | (refine Fork.neI (fun _ => ?_) (fun _ => ?_) <;> first | (exfalso; omega) | (conv => whnf))
        | (refine Fork.any (fun _ => ?_) (fun _ => ?_) <;> (conv => whnf))
      refine CallS.of (by kernel_rfl) (c20.frameQ [0, 1, 2] rfl (.cons ⟨rfl, .roI⟩ (.cons ⟨rfl, .roI⟩ (.cons ⟨rfl, .roI⟩ .nil))) (by rintro _ _ ⟨rfl, rfl⟩; repeat first | exact .nil | refine .cons (by first | exact .inr rfl | exact .inl rfl | exact .inr (fresh_oN _) | exact .inr (fresh_oP _)) ?_)) rfl ?_
      rintro _ _ ⟨_, _, ⟨rfl, rfl⟩, rfl, rfl⟩
      conv => whnf
      repeat' first
        | ((with_reducible refine Gets.shrN ?_ ?_); (· omega); conv => whnf)
        | ((with_reducible refine Gets.andOne ?_ ?_); (· first | omega | exact Nat.lt_of_le_of_lt (Nat.shiftRight_le _ _) (by omega)); conv => whnf)
        | ((with_reducible refine Gets.shlN ?_ ?_); (· omega); conv => whnf)
        | ((with_reducible refine Gets.shlI ?_ ?_ ?_); (· omega); (· omega); conv => whnf)
        | ((with_reducible refine Gets.quoI ?_ ?_ ?_ ?_); (· omega); (· omega); (· omega); conv => whnf)
        | ((with_reducible refine Gets.remN ?_ ?_ ?_); (· omega); (· omega); conv => whnf)
        | ((with_reducible refine Fork.bit (fun _ => ?_) (fun _ => ?_)) <;> (conv => whnf))
        | ((with_reducible refine Gets.addI ?_ ?_ ?_); (· omega); (· omega); conv => whnf)
        | ((with_reducible refine Gets.subI ?_ ?_ ?_); (· omega); (· omega); conv => whnf)
        | ((with_reducible refine Gets.mulI ?_ ?_ ?_); (· omega); (· omega); conv => whnf)
        | (refine Gets.of _ rfl ?_; conv => whnf)
        | (refine Gets.ix1v rfl rfl (by omega) ?_; conv => whnf)
        | (refine Gets.ix1 rfl rfl (by omega) ?_; conv => whnf)
        | (refine Gets.ixIv rfl rfl (by omega) (by omega) ?_; conv => whnf)
        | (refine Gets.ixI rfl rfl (by omega) (by omega) ?_; conv => whnf)
        | (refine Gets.ixEv (es := 2) rfl rfl (by omega) ?_; conv => whnf)
        | (refine Gets.ixE (es := 2) rfl rfl (by omega) ?_; conv => whnf)
        | (refine Gets.ldP (ti := tiP) rfl rfl rfl (by first | rfl | assumption) (by first | omega | exact Nat.le_of_ble_eq_true rfl) ?_; conv => whnf)
        | (refine Gets.ldI rfl (by first | rfl | assumption) (by first | omega | exact Nat.le_of_ble_eq_true rfl) ?_; conv => whnf)
        | (refine Gets.ldB rfl (by first | rfl | assumption) (by first | omega | exact Nat.le_of_ble_eq_true rfl) ?_; conv => whnf)
        | (refine Chk.mk (by repeat first | exact .nil | refine .cons rfl ?_) ?_; conv => whnf)
        | (refine Alls.mk ?_ ?_ <;> conv => whnf)
        | (refine seqL1_of ?_; conv => whnf)
        | (refine Fork.dec (fun _ => ?_) (fun _ => ?_) <;> first | (exfalso; omega) | (conv => whnf))
        | (refine Fork.eqI (fun _ => ?_) (fun _ => ?_) <;> first | (exfalso; omega) | (conv => whnf))
        | (refine Fork.neI (fun _ => ?_) (fun _ => ?_) <;> first | (exfalso; omega) | (conv => whnf))
        | (refine Fork.any (fun _ => ?_) (fun _ => ?_) <;> (conv => whnf))
      refine CallS.of (by kernel_rfl) (c21.frameQ [0, 1, 2] rfl (.cons ⟨rfl, .roI⟩ (.cons ⟨rfl, .roI⟩ (.cons ⟨rfl, .roI⟩ .nil))) (by rintro _ _ ⟨rfl, rfl⟩; repeat first | exact .nil | refine .cons (by first | exact .inr rfl | exact .inl rfl | exact .inr (fresh_oN _) | exact .inr (fresh_oP _)) ?_)) rfl ?_
      rintro _ _ ⟨_, _, ⟨rfl, rfl⟩, rfl, rfl⟩
      conv => whnf
      repeat' first
        | ((with_reducible refine Gets.shrN ?_ ?_); (· omega); conv => whnf)
        | ((with_reducible refine Gets.andOne ?_ ?_); (· first | omega | exact Nat.lt_of_le_of_lt (Nat.shiftRight_le _ _) (by omega)); conv => whnf)
        | ((with_reducible refine Gets.shlN ?_ ?_); (· omega); conv => whnf)
        | ((with_reducible refine Gets.shlI ?_ ?_ ?_); (· omega); (· omega); conv => whnf)
        | ((with_reducible refine Gets.quoI ?_ ?_ ?_ ?_); (· omega); (· omega); (· omega); conv => whnf)
        | ((with_reducible refine Gets.remN ?_ ?_ ?_); (· omega); (· omega); conv => whnf)
        | ((with_reducible refine Fork.bit (fun _ => ?_) (fun _ => ?_)) <;> (conv => whnf))
        | ((with_reducible refine Gets.addI ?_ ?_ ?_); (· omega); (· omega); conv => whnf)
        | ((with_reducible refine Gets.subI ?_ ?_ ?_); (· omega); (· omega); conv => whnf)
        | ((with_reducible refine Gets.mulI ?_ ?_ ?_); (· omega); (· omega); conv => whnf)
        | (refine Gets.of _ rfl ?_; conv => whnf)
        | (refine Gets.ix1v rfl rfl (by omega) ?_; conv => whnf)
        | (refine Gets.ix1 rfl rfl (by omega) ?_; conv => whnf)
        | (refine Gets.ixIv rfl rfl (by omega) (by omega) ?_; conv => whnf)
        | (refine Gets.ixI rfl rfl (by omega) (by omega) ?_; conv => whnf)
        | (refine Gets.ixEv (es := 2) rfl rfl (by omega) ?_; conv => whnf)
        | (refine Gets.ixE (es := 2) rfl rfl (by omega) ?_; conv => whnf)
        | (refine Gets.ldP (ti := tiP) rfl rfl rfl (by first | rfl | assumption) (by first | omega | exact Nat.le_of_ble_eq_true rfl) ?_; conv => whnf)
        | (refine Gets.ldI rfl (by first | rfl | assumption) (by first | omega | exact Nat.le_of_ble_eq_true rfl) ?_; conv => whnf)
        | (refine Gets.ldB rfl (by first | rfl | assumption) (by first | omega | exact Nat.le_of_ble_eq_true rfl) ?_; conv => whnf)
        | (refine Chk.mk (by repeat first | exact .nil | refine .cons rfl ?_) ?_; conv => whnf)
        | (refine Alls.mk ?_ ?_ <;> conv => whnf)
        | (refine seqL1_of ?_; conv => whnf)
        | (refine Fork.dec (fun _ => ?_) (fun _ => ?_) <;> first | (exfalso; omega) | (conv => whnf))
        | (refine Fork.eqI (fun _ => ?_) (fun _ => ?_) <;> first | (exfalso; omega) | (conv => whnf))
        | (refine Fork.neI (fun _ => ?_) (fun _ => ?_) <;> first | (exfalso; omega) | (conv => whnf))
        | (refine Fork.any (fun _ => ?_) (fun _ => ?_) <;> (conv => whnf))
      refine CallS.of (by kernel_rfl) (c22.frameQ [0, 1, 2] rfl (.cons ⟨rfl, .roI⟩ (.cons ⟨rfl, .roI⟩ (.cons ⟨rfl, .roI⟩ .nil))) (by rintro _ _ ⟨rfl, rfl⟩; repeat first | exact .nil | refine .cons (by first | exact .inr rfl | exact .inl rfl | exact .inr (fresh_oN _) | exact .inr (fresh_oP _)) ?_)) rfl ?_
      rintro _ _ ⟨_, _, ⟨rfl, rfl⟩, rfl, rfl⟩
      conv => whnf
      repeat' first
        | ((with_reducible refine Gets.shrN ?_ ?_); (· omega); conv => whnf)
        | ((with_reducible refine Gets.andOne ?_ ?_); (· first | omega | exact Nat.lt_of_le_of_lt (Nat.shiftRight_le _ _) (by omega)); conv => whnf)
        | ((with_reducible refine Gets.shlN ?_ ?_); (· omega); conv => whnf)
        | ((with_reducible refine Gets.shlI ?_ ?_ ?_); (· omega); (· omega); conv => whnf)
        | ((with_reducible refine Gets.quoI ?_ ?_ ?_ ?_); (· omega); (· omega); (· omega); conv => whnf)
        | ((with_reducible refine Gets.remN ?_ ?_ ?_); (· omega); (· omega); conv => whnf)
        | ((with_reducible refine Fork.bit (fun _ => ?_) (fun _ => ?_)) <;> (conv => whnf))
        | ((with_reducible refine Gets.addI ?_ ?_ ?_); (· omega); (· omega); conv => whnf)
        | ((with_reducible refine Gets.subI ?_ ?_ ?_); (· omega); (· omega); conv => whnf)
        | ((with_reducible refine Gets.mulI ?_ ?_ ?_); (· omega); (· omega); conv => whnf)
        | (refine Gets.of _ rfl ?_; conv => whnf)
        | (refine Gets.ix1v rfl rfl (by omega) ?_; conv => whnf)
        | (refine Gets.ix1 rfl rfl (by omega) ?_; conv => whnf)
        | (refine Gets.ixIv rfl rfl (by omega) (by omega) ?_; conv => whnf)
        | (refine Gets.ixI rfl rfl (by omega) (by omega) ?_; conv => whnf)
        | (refine Gets.ixEv (es := 2) rfl rfl (by omega) ?_; conv => whnf)
        | (refine Gets.ixE (es := 2) rfl rfl (by omega) ?_; conv => whnf)
        | (refine Gets.ldP (ti := tiP) rfl rfl rfl (by first | rfl | assumption) (by first | omega | exact Nat.le_of_ble_eq_true rfl) ?_; conv => whnf)
        | (refine Gets.ldI rfl (by first | rfl | assumption) (by first | omega | exact Nat.le_of_ble_eq_true rfl) ?_; conv => whnf)
        | (refine Gets.ldB rfl (by first | rfl | assumption) (by first | omega | exact Nat.le_of_ble_eq_true rfl) ?_; conv => whnf)
        | (refine Chk.mk (by repeat first | exact .nil | refine .cons rfl ?_) ?_; conv => whnf)
        | (refine Alls.mk ?_ ?_ <;> conv => whnf)
        | (refine seqL1_of ?_; conv => whnf)
        | (refine Fork.dec (fun _ => ?_) (fun _ => ?_) <;> first | (exfalso; omega) | (conv => whnf))
        | (refine Fork.eqI (fun _ => ?_) (fun _ => ?_) <;> first | (exfalso; omega) | (conv => whnf))
        | (refine Fork.neI (fun _ => ?_) (fun _ => ?_) <;> first | (exfalso; omega) | (conv => whnf))
        | (refine Fork.any (fun _ => ?_) (fun _ => ?_) <;> (conv => whnf))
      refine CallS.of (by kernel_rfl) ((list18n [] [] (by simp) (by simp)).readsL IsB.noRef [0, 0] rfl (.cons ⟨rfl, rfl, .gone⟩ (.cons ⟨rfl, rfl, .gone⟩ .nil))) rfl ?_
      rintro _ _ ⟨rfl, hp | hp⟩
      all_goals conv => whnf
      rotate_left
      · exact absurd rfl hp
      repeat' first
        | ((with_reducible refine Gets.shrN ?_ ?_); (· omega); conv => whnf)
        | ((with_reducible refine Gets.andOne ?_ ?_); (· first | omega | exact Nat.lt_of_le_of_lt (Nat.shiftRight_le _ _) (by omega)); conv => whnf)
        | ((with_reducible refine Gets.shlN ?_ ?_); (· omega); conv => whnf)
        | ((with_reducible refine Gets.shlI ?_ ?_ ?_); (· omega); (· omega); conv => whnf)
        | ((with_reducible refine Gets.quoI ?_ ?_ ?_ ?_); (· omega); (· omega); (· omega); conv => whnf)
        | ((with_reducible refine Gets.remN ?_ ?_ ?_); (· omega); (· omega); conv => whnf)
        | ((with_reducible refine Fork.bit (fun _ => ?_) (fun _ => ?_)) <;> (conv => whnf))
        | ((with_reducible refine Gets.addI ?_ ?_ ?_); (· omega); (· omega); conv => whnf)
        | ((with_reducible refine Gets.subI ?_ ?_ ?_); (· omega); (· omega); conv => whnf)
        | ((with_reducible refine Gets.mulI ?_ ?_ ?_); (· omega); (· omega); conv => whnf)
        | (refine Gets.of _ rfl ?_; conv => whnf)
        | (refine Gets.ix1v rfl rfl (by omega) ?_; conv => whnf)
        | (refine Gets.ix1 rfl rfl (by omega) ?_; conv => whnf)
        | (refine Gets.ixIv rfl rfl (by omega) (by omega) ?_; conv => whnf)
        | (refine Gets.ixI rfl rfl (by omega) (by omega) ?_; conv => whnf)
        | (refine Gets.ixEv (es := 2) rfl rfl (by omega) ?_; conv => whnf)
        | (refine Gets.ixE (es := 2) rfl rfl (by omega) ?_; conv => whnf)
        | (refine Gets.ldP (ti := tiP) rfl rfl rfl (by first | rfl | assumption) (by first | omega | exact Nat.le_of_ble_eq_true rfl) ?_; conv => whnf)
        | (refine Gets.ldI rfl (by first | rfl | assumption) (by first | omega | exact Nat.le_of_ble_eq_true rfl) ?_; conv => whnf)
        | (refine Gets.ldB rfl (by first | rfl | assumption) (by first | omega | exact Nat.le_of_ble_eq_true rfl) ?_; conv => whnf)
        | (refine Chk.mk (by repeat first | exact .nil | refine .cons rfl ?_) ?_; conv => whnf)
        | (refine Alls.mk ?_ ?_ <;> conv => whnf)
        | (refine seqL1_of ?_; conv => whnf)
        | (refine Fork.dec (fun _ => ?_) (fun _ => ?_) <;> first | (exfalso; omega) | (conv => whnf))
        | (refine Fork.eqI (fun _ => ?_) (fun _ => ?_) <;> first | (exfalso; omega) | (conv => whnf))
        | (refine Fork.neI (fun _ => ?_) (fun _ => ?_) <;> first | (exfalso; omega) | (conv => whnf))
        | (refine Fork.any (fun _ => ?_) (fun _ => ?_) <;> (conv => whnf))
      refine CallS.of (by kernel_rfl) ((lpairs23n [] [] (by simp) (by simp)).readsL IsB.noRef [0, 0] rfl (.cons ⟨rfl, rfl, .gone⟩ (.cons ⟨rfl, rfl, .gone⟩ .nil))) rfl ?_
      rintro _ _ ⟨rfl, hq | hq⟩
      all_goals conv => whnf
      rotate_left
      · exact absurd rfl hq
      repeat' first
        | ((with_reducible refine Gets.shrN ?_ ?_); (· omega); conv => whnf)
        | ((with_reducible refine Gets.andOne ?_ ?_); (· first | omega | exact Nat.lt_of_le_of_lt (Nat.shiftRight_le _ _) (by omega)); conv => whnf)
        | ((with_reducible refine Gets.shlN ?_ ?_); (· omega); conv => whnf)
        | ((with_reducible refine Gets.shlI ?_ ?_ ?_); (· omega); (· omega); conv => whnf)
        | ((with_reducible refine Gets.quoI ?_ ?_ ?_ ?_); (· omega); (· omega); (· omega); conv => whnf)
        | ((with_reducible refine Gets.remN ?_ ?_ ?_); (· omega); (· omega); conv => whnf)
        | ((with_reducible refine Fork.bit (fun _ => ?_) (fun _ => ?_)) <;> (conv => whnf))
        | ((with_reducible refine Gets.addI ?_ ?_ ?_); (· omega); (· omega); conv => whnf)
        | ((with_reducible refine Gets.subI ?_ ?_ ?_); (· omega); (· omega); conv => whnf)
        | ((with_reducible refine Gets.mulI ?_ ?_ ?_); (· omega); (· omega); conv => whnf)
        | (refine Gets.of _ rfl ?_; conv => whnf)
        | (refine Gets.ix1v rfl rfl (by omega) ?_; conv => whnf)
        | (refine Gets.ix1 rfl rfl (by omega) ?_; conv => whnf)
        | (refine Gets.ixIv rfl rfl (by omega) (by omega) ?_; conv => whnf)
        | (refine Gets.ixI rfl rfl (by omega) (by omega) ?_; conv => whnf)
        | (refine Gets.ixEv (es := 2) rfl rfl (by omega) ?_; conv => whnf)
        | (refine Gets.ixE (es := 2) rfl rfl (by omega) ?_; conv => whnf)
        | (refine Gets.ldP (ti := tiP) rfl rfl rfl (by first | rfl | assumption) (by first | omega | exact Nat.le_of_ble_eq_true rfl) ?_; conv => whnf)
        | (refine Gets.ldI rfl (by first | rfl | assumption) (by first | omega | exact Nat.le_of_ble_eq_true rfl) ?_; conv => whnf)
        | (refine Gets.ldB rfl (by first | rfl | assumption) (by first | omega | exact Nat.le_of_ble_eq_true rfl) ?_; conv => whnf)
        | (refine Chk.mk (by repeat first | exact .nil | refine .cons rfl ?_) ?_; conv => whnf)
        | (refine Alls.mk ?_ ?_ <;> conv => whnf)
        | (refine seqL1_of ?_; conv => whnf)
        | (refine Fork.dec (fun _ => ?_) (fun _ => ?_) <;> first | (exfalso; omega) | (conv => whnf))
        | (refine Fork.eqI (fun _ => ?_) (fun _ => ?_) <;> first | (exfalso; omega) | (conv => whnf))
        | (refine Fork.neI (fun _ => ?_) (fun _ => ?_) <;> first | (exfalso; omega) | (conv => whnf))
        | (refine Fork.any (fun _ => ?_) (fun _ => ?_) <;> (conv => whnf))
      refine CallS.of (by kernel_rfl) (awake9 _) rfl ?_
      rintro _ _ ⟨rfl, rfl⟩
      conv => whnf
      repeat' first
        | ((with_reducible refine Gets.shrN ?_ ?_); (· omega); conv => whnf)
        | ((with_reducible refine Gets.andOne ?_ ?_); (· first | omega | exact Nat.lt_of_le_of_lt (Nat.shiftRight_le _ _) (by omega)); conv => whnf)
        | ((with_reducible refine Gets.shlN ?_ ?_); (· omega); conv => whnf)
        | ((with_reducible refine Gets.shlI ?_ ?_ ?_); (· omega); (· omega); conv => whnf)
        | ((with_reducible refine Gets.quoI ?_ ?_ ?_ ?_); (· omega); (· omega); (· omega); conv => whnf)
        | ((with_reducible refine Gets.remN ?_ ?_ ?_); (· omega); (· omega); conv => whnf)
        | ((with_reducible refine Fork.bit (fun _ => ?_) (fun _ => ?_)) <;> (conv => whnf))
        | ((with_reducible refine Gets.addI ?_ ?_ ?_); (· omega); (· omega); conv => whnf)
        | ((with_reducible refine Gets.subI ?_ ?_ ?_); (· omega); (· omega); conv => whnf)
        | ((with_reducible refine Gets.mulI ?_ ?_ ?_); (· omega); (· omega); conv => whnf)
        | (refine Gets.of _ rfl ?_; conv => whnf)
        | (refine Gets.ix1v rfl rfl (by omega) ?_; conv => whnf)
        | (refine Gets.ix1 rfl rfl (by omega) ?_; conv => whnf)
        | (refine Gets.ixIv rfl rfl (by omega) (by omega) ?_; conv => whnf)
        | (refine Gets.ixI rfl rfl (by omega) (by omega) ?_; conv => whnf)
        | (refine Gets.ixEv (es := 2) rfl rfl (by omega) ?_; conv => whnf)
        | (refine Gets.ixE (es := 2) rfl rfl (by omega) ?_; conv => whnf)
        | (refine Gets.ldP (ti := tiP) rfl rfl rfl (by first | rfl | assumption) (by first | omega | exact Nat.le_of_ble_eq_true rfl) ?_; conv => whnf)
        | (refine Gets.ldI rfl (by first | rfl | assumption) (by first | omega | exact Nat.le_of_ble_eq_true rfl) ?_; conv => whnf)
        | (refine Gets.ldB rfl (by first | rfl | assumption) (by first | omega | exact Nat.le_of_ble_eq_true rfl) ?_; conv => whnf)
        | (refine Chk.mk (by repeat first | exact .nil | refine .cons rfl ?_) ?_; conv => whnf)
        | (refine Alls.mk ?_ ?_ <;> conv => whnf)
        | (refine seqL1_of ?_; conv => whnf)
        | (refine Fork.dec (fun _ => ?_) (fun _ => ?_) <;> first | (exfalso; omega) | (conv => whnf))
        | (refine Fork.eqI (fun _ => ?_) (fun _ => ?_) <;> first | (exfalso; omega) | (conv => whnf))
        | (refine Fork.neI (fun _ => ?_) (fun _ => ?_) <;> first | (exfalso; omega) | (conv => whnf))
        | (refine Fork.any (fun _ => ?_) (fun _ => ?_) <;> (conv => whnf))
      rfl
  · refine CallS.of (by kernel_rfl) (awake9 _) rfl ?_
    rintro _ _ ⟨rfl, rfl⟩
    conv => whnf
    repeat' first
      | ((with_reducible refine Gets.shrN ?_ ?_); (· omega); conv => whnf)
      | ((with_reducible refine Gets.andOne ?_ ?_); (· first | omega | exact Nat.lt_of_le_of_lt (Nat.shiftRight_le _ _) (by omega)); conv => whnf)
      | ((with_reducible refine Gets.shlN ?_ ?_); (· omega); conv => whnf)
      | ((with_reducible refine Gets.shlI ?_ ?_ ?_); (· omega); (· omega); conv => whnf)
      | ((with_reducible refine Gets.quoI ?_ ?_ ?_ ?_); (· omega); (· omega); (· omega); conv => whnf)
      | ((with_reducible refine Gets.remN ?_ ?_ ?_); (· omega); (· omega); conv => whnf)
      | ((with_reducible refine Fork.bit (fun _ => ?_) (fun _ => ?_)) <;> (conv => whnf))
      | ((with_reducible refine Gets.addI ?_ ?_ ?_); (· omega); (· omega); conv => whnf)
      | ((with_reducible refine Gets.subI ?_ ?_ ?_); (· omega); (· omega); conv => whnf)
      | ((with_reducible refine Gets.mulI ?_ ?_ ?_); (· omega); (· omega); conv => whnf)
      | (refine Gets.of _ rfl ?_; conv => whnf)
      | (refine Gets.ix1v rfl rfl (by omega) ?_; conv => whnf)
      | (refine Gets.ix1 rfl rfl (by omega) ?_; conv => whnf)
      | (refine Gets.ixIv rfl rfl (by omega) (by omega) ?_; conv => whnf)
      | (refine Gets.ixI rfl rfl (by omega) (by omega) ?_; conv => whnf)
      | (refine Gets.ixEv (es := 2) rfl rfl (by omega) ?_; conv => whnf)
      | (refine Gets.ixE (es := 2) rfl rfl (by omega) ?_; conv => whnf)
      | (refine Gets.ldP (ti := tiP) rfl rfl rfl (by first | rfl | assumption) (by first | omega | exact Nat.le_of_ble_eq_true rfl) ?_; conv => whnf)
      | (refine Gets.ldI rfl (by first | rfl | assumption) (by first | omega | exact Nat.le_of_ble_eq_true rfl) ?_; conv => whnf)
      | (refine Gets.ldB rfl (by first | rfl | assumption) (by first | omega | exact Nat.le_of_ble_eq_true rfl) ?_; conv => whnf)
      | (refine Chk.mk (by repeat first | exact .nil | refine .cons rfl ?_) ?_; conv => whnf)
      | (refine Alls.mk ?_ ?_ <;> conv => whnf)
      | (refine seqL1_of ?_; conv => whnf)
      | (refine Fork.dec (fun _ => ?_) (fun _ => ?_) <;> first | (exfalso; omega) | (conv => whnf))
      | (refine Fork.eqI (fun _ => ?_) (fun _ => ?_) <;> first | (exfalso; omega) | (conv => whnf))
      | (refine Fork.neI (fun _ => ?_) (fun _ => ?_) <;> first | (exfalso; omega) | (conv => whnf))
      | (refine Fork.any (fun _ => ?_) (fun _ => ?_) <;> (conv => whnf))
theorem law5 : ∀ (H : AHeap) (avs0 : List AVal), NoRw H → Shape Try.prog H 4 25 avs0 → CallW Try.prog 5 [argOf Try.prog 25 avs0] H fun v _ => v = .bool true := by
  intro H avs0 hN h0
  obtain ⟨c, i, j, k, e, hf, h1, h2, h3⟩ := shape_cir h0
  rw [e]
  exact lift_cir (law5c c hf) (by rintro v rfl; rfl) (fun _ => rfl) h1 h2 h3
end Go.Proofs.Ytmghlldboiplpaa
