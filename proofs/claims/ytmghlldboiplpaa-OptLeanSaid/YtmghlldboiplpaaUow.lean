/- The gates that are used, and lean circuits, as the reference tells them. -/
import Derived.Test.YtmghlldboiplpaaUsw
import Derived.Test.YtmghlldboiplpaaLen
import Derived.Test.YtmghlldboiplpaaVkH
-- VkG
set_option linter.unusedVariables false
set_option linter.unusedSimpArgs false
set_option maxRecDepth 100000
set_option maxHeartbeats 1000000
namespace Go.Proofs.Ytmghlldboiplpaa
open Go Go.Vh Go.Vk Go.Proofs
theorem boolExt {u v : List Bool} (hl : u.length = v.length) (h : ∀ k, k < u.length → (u.getD k false = true ↔ v.getD k false = true)) : u = v := by
  refine List.ext_getElem hl fun k h1 h2 => ?_
  have := h k h1
  rw [List.getD_eq_getElem?_getD, List.getD_eq_getElem?_getD, List.getElem?_eq_getElem h1, List.getElem?_eq_getElem h2] at this
  exact Bool.eq_iff_iff.2 this
theorem marks_comm (b : Nat) (u : List Bool) (l m : List Int) : marks b u (l ++ m) = marks b u (m ++ l) := by
  refine boolExt (by rw [marks_length, marks_length]) fun k hk => ?_
  rw [marks_length] at hk
  rw [marks_getD b _ u hk, marks_getD b _ u hk]
  simp only [List.mem_append]
  constructor
  · rintro (h | ⟨x, h | h, e⟩)
    · exact .inl h
    · exact .inr ⟨x, .inr h, e⟩
    · exact .inr ⟨x, .inl h, e⟩
  · rintro (h | ⟨x, h | h, e⟩)
    · exact .inl h
    · exact .inr ⟨x, .inr h, e⟩
    · exact .inr ⟨x, .inl h, e⟩
/-- A mark in the whole row is a mark in its end. -/
theorem drop_set (F : List Bool) (b : Nat) (l : Int) : (F.set (l / 2).toNat true).drop b = markL b (F.drop b) l := by
  unfold markL
  rw [List.drop_set]
  split
  · rw [if_neg (by omega)]
  · rw [if_pos (by omega)]
theorem drop_get {F : List Bool} {b k : Nat} : (F.drop b).getD k false = F.getD (b + k) false := by
  rw [List.getD_eq_getElem?_getD, List.getD_eq_getElem?_getD, List.getElem?_drop]
noncomputable def uoH (c : Cir) (F : List Bool) (B : ABlk) : AHeap := ⟨6, fun i => match i with
  | 3 => c.box
  | 4 => .cells 1 (bls F)
  | 5 => B
  | i => c.heap.f i, fun _ => 0⟩
theorem used36 (c : Cir) (hf : c.Fits) (ho : c.Ok) : CallW Try.prog 36 [c.av 0 1 2] c.heap fun v H' => ∃ F : List Bool, F.length = c.nv + c.gates.length ∧ F.drop c.nv = c.usedL ∧ v = .tuple [.slice 3 c.nv c.gates.length, .int .i64 0] ∧ H' = c.heap.alloc (.cells 1 (bls F)) := by
  obtain ⟨a1, a2, a3, a4, a5⟩ := ho.s
  have hnv : (c.nv : Int) = c.inp + c.latch.length + 1 := by unfold Cir.nv; omega
  have hvars : c.vars = c.inp + c.latch.length + c.gates.length := rfl
  refine CallW.symRK (cuts := []) Try.func36 rfl (by kernel_rfl) ?_
  conv => whnf
  repeat' (refine Gets.of _ rfl ?_; conv => whnf)
  refine CallS.of (by kernel_rfl) (valid13c c hf _ rfl rfl rfl rfl) rfl ?_
  rintro _ _ ⟨rfl, hq | hq⟩
  all_goals conv => whnf
  rotate_left
  · exact absurd ho hq
  repeat' (refine Gets.of _ rfl ?_; conv => whnf)
  refine CallS.of (by kernel_rfl) ((vars32 c ho.s).readsL (by rintro _ rfl; rfl) [0, 1, 2] rfl (roC c _ rfl rfl rfl rfl)) rfl ?_
  rintro _ _ ⟨rfl, rfl⟩
  conv => whnf
  repeat' first | ((refine Gets.makeB (k := 1) (ti := tiB) (by kernel_rfl) rfl (by decide) rfl (by decide) (by omega) (by omega) ?_); conv => whnf) | ((with_reducible refine Gets.addI ?_ ?_ ?_); (· omega); (· omega); conv => whnf)
  refine CodeS.drawT [3] (.take 1 (.take 2 (.take 4 (.take 5 (.take 8 (.one 0 true (.one 3 true (.one 6 true (.take 7 .done))))))))) mixed (by kernel_rfl) (.cons ⟨rfl, trivial⟩ .nil) ?_
  conv => whnf
  repeat' first | ((refine Gets.appSrc (ti := tiI) (l := []) (xs := c.out) (m := 0) (n := c.out.length) rfl rfl rfl rfl rfl (by decide) rfl ((src_ints rfl rfl).2) rfl (by omega) ?_); conv => whnf) | (refine Gets.of _ rfl ?_; conv => whnf) | (refine Chk.mk (by repeat first | exact .nil | refine .cons rfl ?_) ?_; conv => whnf)
  refine Gets.appSrc (ti := tiI) (l := c.out) (xs := c.latch) (m := 0 + c.out.length) (n := c.latch.length) rfl rfl rfl rfl rfl (by decide) (Nat.zero_add _).symm ((src_ints rfl rfl).2) rfl (by omega) ?_
  have hro : 0 + c.out.length + c.latch.length = (c.out ++ c.latch).length := by rw [Nat.zero_add, List.length_append]
  rw [hro]
  have hin : ∀ l ∈ c.out ++ c.latch, 0 ≤ l ∧ (l / 2).toNat < c.nv + c.gates.length := fun l hl => by
    have hr : inR c.most l := by
      rcases List.mem_append.1 hl with h | h
      · exact ho.o l h
      · exact ho.l l h
    unfold inR Cir.most Cir.vars at hr
    omega
  have hlen : (c.out ++ c.latch).length ≤ 27 := by rw [List.length_append]; omega
  have hs0 : c.sweep 0 = marks c.nv (List.replicate c.gates.length false) (c.out ++ c.latch) := (marks_comm _ _ _ _)
  have hvn : (c.vars + 1).toNat = c.nv + c.gates.length := by omega
  rw [hvn]
  have hrow : (List.replicate ((c.nv + c.gates.length) * 1) false).length = c.nv + c.gates.length := by rw [List.length_replicate]; omega
  have hrow2 : (List.replicate ((c.nv + c.gates.length) * 1) false).drop c.nv = List.replicate c.gates.length false := by
    rw [List.drop_replicate]
    congr 1
    omega
  generalize c.out ++ c.latch = ls at *
  generalize List.replicate ((c.nv + c.gates.length) * 1) false = F0 at *
  conv => whnf
  repeat' first | (refine Gets.of _ rfl ?_; conv => whnf) | (refine Chk.mk (by repeat first | exact .nil | refine .cons rfl ?_) ?_; conv => whnf)
  refine CodeS.loopGK (cuts := []) (σ := Nat × List Bool) (fun s => [(1, .ptr 3 0), (4, .slice 4 0 (c.nv + c.gates.length)), (22, .slice 5 0 ls.length), (23, .int .i64 ls.length), (24, .int .i64 s.1)]) (fun s => uoH c s.2 (.cells 1 (ints ls))) (fun s => s.1 ≤ ls.length ∧ s.2.length = c.nv + c.gates.length ∧ s.2.drop c.nv = marks c.nv (List.replicate c.gates.length false) (ls.take s.1)) (fun s => ls.length - s.1) (0, F0) (renL [0, 1, 2, 3, 4, 7] 8) (by kernel_rfl) ⟨Nat.zero_le _, hrow, hrow2⟩ ⟨rfl, rfl, rfl, rfl, rfl, trivial⟩ (EmbL.litsN [0, 1, 2, 3, 4, 7] rfl rfl rfl rfl (.cons ⟨rfl, .inl ⟨rfl, fun h => h⟩⟩ (.cons ⟨rfl, .inl ⟨rfl, fun h => h⟩⟩ (.cons ⟨rfl, .inl ⟨rfl, fun h => h⟩⟩ .nil))) (.cons ⟨rfl, .roI⟩ (.cons ⟨rfl, .roI⟩ (.cons ⟨rfl, .roI⟩ (.cons ⟨rfl, .inl rfl⟩ (.cons ⟨rfl, .cellsB⟩ (.cons ⟨rfl, .cellsI⟩ .nil))))))) ?_
  rintro ⟨j, F⟩ ⟨g1, g2, g3⟩
  dsimp only at g1 g2 g3
  rcases Nat.lt_or_ge j ls.length with hj | hj
  · obtain ⟨b1, b2⟩ := hin _ (getD_memL (d := 0) hj)
    dsimp only
    conv => whnf
    repeat' first | ((refine Gets.stB rfl rfl (by omega) ?_); conv => whnf) | ((with_reducible refine Gets.quoI ?_ ?_ ?_ ?_); (· omega); (· omega); (· omega); conv => whnf) | ((with_reducible refine Gets.addI ?_ ?_ ?_); (· omega); (· omega); conv => whnf) | (refine Gets.ix1 rfl rfl (by omega) ?_; conv => whnf) | (refine Gets.ixI rfl rfl (by omega) (by omega) ?_; conv => whnf) | (refine Gets.ldI rfl (by first | rfl | assumption) (by first | omega | exact Nat.le_of_ble_eq_true rfl) ?_; conv => whnf) | (refine Fork.dec (fun _ => ?_) (fun _ => ?_) <;> first | (exfalso; omega) | (conv => whnf))
    refine ⟨(j + 1, F.set (ls.getD j 0 / 2).toNat true), renL [0, 1, 2, 3, 4, 5] 6, ⟨by show j + 1 ≤ _; omega, by show (F.set _ _).length = _; rw [List.length_set]; exact g2, ?_⟩, by show _ - (j + 1) < _ - j; omega, ⟨rfl, rfl, rfl, rfl, rfl, trivial⟩, EmbL.litsN [0, 1, 2, 3, 4, 5] rfl rfl rfl rfl (.cons ⟨rfl, .inl ⟨rfl, fun h => h⟩⟩ (.cons ⟨rfl, .inl ⟨rfl, fun h => h⟩⟩ (.cons ⟨rfl, .inl ⟨rfl, fun h => h⟩⟩ .nil))) (.cons ⟨rfl, .roI⟩ (.cons ⟨rfl, .roI⟩ (.cons ⟨rfl, .roI⟩ (.cons ⟨rfl, .inl rfl⟩ (.cons ⟨rfl, .cellsB⟩ (.cons ⟨rfl, .cellsI⟩ .nil))))))⟩
    show (F.set _ true).drop c.nv = _
    rw [drop_set, g3, marks_take hj]
  obtain rfl : j = ls.length := by omega
  rw [List.take_length, ← hs0] at g3
  conv => whnf
  repeat' first | ((with_reducible refine Gets.subI ?_ ?_ ?_); (· omega); (· omega); conv => whnf) | (refine Gets.of _ rfl ?_; conv => whnf) | (refine Fork.dec (fun _ => ?_) (fun _ => ?_) <;> first | (exfalso; omega) | (conv => whnf))
  refine CodeS.loopGK (cuts := []) (σ := Nat × List Bool) (fun s => [(1, .ptr 3 0), (4, .slice 4 0 (c.nv + c.gates.length)), (7, .int .i64 ((c.gates.length : Int) - 1 - s.1))]) (fun s => uoH c s.2 .dead) (fun s => s.1 ≤ c.gates.length ∧ s.2.length = c.nv + c.gates.length ∧ s.2.drop c.nv = c.sweep s.1) (fun s => c.gates.length - s.1) (0, F) (renL [0, 1, 2, 3, 4, 5] 6) (by kernel_rfl) ⟨Nat.zero_le _, g2, g3⟩ ⟨rfl, rfl, ?_, trivial⟩ (EmbL.litsN [0, 1, 2, 3, 4, 5] rfl rfl rfl rfl (.cons ⟨rfl, .inl ⟨rfl, fun h => h⟩⟩ (.cons ⟨rfl, .inl ⟨rfl, fun h => h⟩⟩ (.cons ⟨rfl, .inl ⟨rfl, fun h => h⟩⟩ .nil))) (.cons ⟨rfl, .roI⟩ (.cons ⟨rfl, .roI⟩ (.cons ⟨rfl, .roI⟩ (.cons ⟨rfl, .inl rfl⟩ (.cons ⟨rfl, .cellsB⟩ (.cons ⟨rfl, .gone⟩ .nil))))))) ?_
  · show AVal.int .i64 ((c.gates.length : Int) - 1) = .int .i64 ((c.gates.length : Int) - 1 - ((0 : Nat) : Int))
    congr 1; omega
  clear g1 g2 g3 hj
  rintro ⟨m, F⟩ ⟨g1, g2, g3⟩
  dsimp only at g1 g2 g3
  rcases Nat.lt_or_ge m c.gates.length with hm | hm
  · obtain ⟨k, hk⟩ : ∃ k : Nat, (c.gates.length : Int) - 1 - m = k := ⟨c.gates.length - 1 - m, by omega⟩
    have hke : c.gates.length - 1 - m = k := by omega
    have hsw : c.sweep (m + 1) = if (c.sweep m).getD k false = true then marks c.nv (c.sweep m) [(c.gates.getD k (0, 0)).1, (c.gates.getD k (0, 0)).2] else c.sweep m := by rw [Cir.sweep, hke]
    have hgo := ho.g k (by omega)
    unfold Cir.GateOk inR Cir.own at hgo
    have hk9 : ((c.gates.length : Int) - 1 - ((m + 1 : Nat) : Int)) = (k : Int) - 1 := by omega
    dsimp only
    rw [hk]
    conv => whnf
    repeat' first | (refine Gets.of _ rfl ?_; conv => whnf) | (refine Gets.ixEv (es := 2) rfl rfl (by omega) ?_; conv => whnf) | (refine Gets.ldP (ti := tiP) rfl rfl rfl (by first | rfl | assumption) (by first | omega | exact Nat.le_of_ble_eq_true rfl) ?_; conv => whnf) | (refine Fork.yesR rfl ?_; conv => whnf)
    refine CallS.of (by kernel_rfl) ((gate34 c ho.s k (by omega)).readsL (by rintro _ rfl; rfl) [0, 1, 2] rfl (roC c _ rfl rfl rfl rfl)) rfl ?_
    rintro _ _ ⟨rfl, rfl⟩
    rw [show c.inp + (c.latch.length : Int) + k + 1 = ((c.nv + k : Nat) : Int) by omega]
    conv => whnf
    repeat' first | (refine Gets.ix1 rfl rfl (by omega) ?_; conv => whnf) | (refine Gets.ldB rfl (by first | rfl | assumption) (by first | omega | exact Nat.le_of_ble_eq_true rfl) ?_; conv => whnf)
    rw [← drop_get, g3]
    cases hb : (c.sweep m).getD k false
    · rw [hb, if_neg (by simp)] at hsw
      conv => whnf
      repeat' ((with_reducible refine Gets.subI ?_ ?_ ?_); (· omega); (· omega); conv => whnf)
      exact ⟨(m + 1, F), renL [0, 1, 2, 3, 4, 5] 7, ⟨by show m + 1 ≤ _; omega, g2, by show F.drop c.nv = _; rw [hsw]; exact g3⟩, by show _ - (m + 1) < _ - m; omega, ⟨rfl, rfl, by rw [hk9]; rfl, trivial⟩, EmbL.litsN [0, 1, 2, 3, 4, 5] rfl rfl rfl rfl (.cons ⟨rfl, .inl ⟨rfl, fun h => h⟩⟩ (.cons ⟨rfl, .inl ⟨rfl, fun h => h⟩⟩ (.cons ⟨rfl, .inl ⟨rfl, fun h => h⟩⟩ .nil))) (.cons ⟨rfl, .roI⟩ (.cons ⟨rfl, .roI⟩ (.cons ⟨rfl, .roI⟩ (.cons ⟨rfl, .inl rfl⟩ (.cons ⟨rfl, .cellsB⟩ (.cons ⟨rfl, .gone⟩ .nil))))))⟩
    · rw [hb, if_pos rfl] at hsw
      conv => whnf
      skip
      refine CodeS.drawT [6] (.take 0 (.take 1 (.take 2 (.take 3 (.take 4 (.take 5 (.take 8 (.two (.one 6 true (.take 7 (.one 9 false (.take 10 (.one 11 false .done))))) (.one 9 false (.one 6 false (.take 7 (.take 10 (.one 11 false .done))))))))))))) mixed (by kernel_rfl) (.cons ⟨rfl, trivial⟩ .nil) ?_
      conv => whnf
      repeat' first | ((refine Gets.stB rfl rfl (by (try rw [List.length_set]); omega) ?_); conv => whnf) | ((with_reducible refine Gets.quoI ?_ ?_ ?_ ?_); (· omega); (· omega); (· omega); conv => whnf) | ((with_reducible refine Gets.subI ?_ ?_ ?_); (· omega); (· omega); conv => whnf) | (refine Gets.of _ rfl ?_; conv => whnf) | (refine Gets.ixI rfl rfl (by omega) (by omega) ?_; conv => whnf) | (refine Chk.mk (by repeat first | exact .nil | refine .cons rfl ?_) ?_; conv => whnf) | (refine Alls.mk ?_ ?_ <;> conv => whnf)
      all_goals
        refine ⟨(m + 1, (F.set ((c.gates.getD k (0, 0)).1 / 2).toNat true).set ((c.gates.getD k (0, 0)).2 / 2).toNat true), renL [0, 1, 2, 3, 4, 5] 7, ⟨by show m + 1 ≤ _; omega, by show (List.set _ _ _).length = _; rw [List.length_set, List.length_set]; exact g2, ?_⟩, by show _ - (m + 1) < _ - m; omega, ⟨rfl, rfl, by rw [hk9]; rfl, trivial⟩, EmbL.litsN [0, 1, 2, 3, 4, 5] rfl rfl rfl rfl (.cons ⟨rfl, .inl ⟨rfl, fun h => h⟩⟩ (.cons ⟨rfl, .inl ⟨rfl, fun h => h⟩⟩ (.cons ⟨rfl, .inl ⟨rfl, fun h => h⟩⟩ .nil))) (.cons ⟨rfl, .roI⟩ (.cons ⟨rfl, .roI⟩ (.cons ⟨rfl, .roI⟩ (.cons ⟨rfl, .inl rfl⟩ (.cons ⟨rfl, .cellsB⟩ (.cons ⟨rfl, .gone⟩ .nil))))))⟩
        show (List.set _ _ true).drop c.nv = _
        rw [drop_set, drop_set, g3, hsw]
        rfl
  · obtain rfl : m = c.gates.length := by omega
    dsimp only
    rw [show (c.gates.length : Int) - 1 - (c.gates.length : Nat) = -1 by omega]
    conv => whnf
    repeat' first | ((with_reducible refine Gets.subI ?_ ?_ ?_); (· omega); (· omega); conv => whnf) | (refine Gets.of _ rfl ?_; conv => whnf) | (refine Fork.noR rfl ?_; conv => whnf)
    rw [show ((c.nv + c.gates.length : Nat) : Int) - (c.gates.length : Int) = ((c.nv : Nat) : Int) by omega]
    refine Gets.sliceLo (ti := tiB) rfl rfl rfl rfl (by omega) ?_
    rw [Nat.add_sub_cancel_left]
    conv => whnf
    skip
    exact ⟨renL [0, 1, 2, 4] 6, .tuple [.slice 3 c.nv c.gates.length, .int .i64 0], c.heap.alloc (.cells 1 (bls F)), EmbL.litsN [0, 1, 2, 4] rfl rfl rfl rfl (.cons ⟨rfl, .inl ⟨rfl, fun h => h⟩⟩ (.cons ⟨rfl, .inl ⟨rfl, fun h => h⟩⟩ (.cons ⟨rfl, .inl ⟨rfl, fun h => h⟩⟩ .nil))) (.cons ⟨rfl, .roI⟩ (.cons ⟨rfl, .roI⟩ (.cons ⟨rfl, .roI⟩ (.cons ⟨rfl, .cellsB⟩ .nil)))), rfl, F, g2, g3, rfl, rfl⟩
noncomputable def leH (c : Cir) (F : List Bool) (a b : Int) : AHeap := ⟨6, fun i => match i with
  | 3 => c.box
  | 4 => .cells 1 (bls F)
  | 5 => .cells 1 [.int .i64 a, .int .i64 b]
  | i => c.heap.f i, fun _ => 0⟩
theorem lean15 (c : Cir) (hf : c.Fits) (ho : c.Ok) : CallW Try.prog 15 [c.av 0 1 2] c.heap fun v _ => IsB v c.Slim := by
  obtain ⟨a1, a2, a3, a4, a5⟩ := ho.s
  refine CallW.symK (cuts := []) Try.func15 rfl (by kernel_rfl) ?_
  conv => whnf
  repeat' (refine Gets.of _ rfl ?_; conv => whnf)
  refine CallS.of (by kernel_rfl) ((used36 c hf ho).frameQ [0, 1, 2] rfl (.cons ⟨rfl, .roI⟩ (.cons ⟨rfl, .roI⟩ (.cons ⟨rfl, .roI⟩ .nil))) ?_) rfl ?_
  · rintro _ _ ⟨F, _, _, rfl, rfl⟩
    repeat first | exact .nil | refine .cons (by first | exact .inr rfl | exact .inl rfl) ?_
  rintro _ _ ⟨_, _, ⟨F, hF1, hF2, rfl, rfl⟩, rfl, rfl⟩
  conv => whnf
  repeat' (refine Gets.of _ rfl ?_; conv => whnf)
  refine CodeS.loopGK (cuts := []) (σ := Nat) (fun k => [(1, .ptr 3 0), (3, .slice 4 c.nv c.gates.length), (15, .view 1 0 c.gates.length), (16, .int .i64 c.gates.length), (17, .int .i64 k)]) (fun k => (c.heap.alloc c.box).alloc (.cells 1 (bls F))) (fun k => k ≤ c.gates.length ∧ ∀ j, j < k → c.FineAt j) (fun k => c.gates.length - k) 0 (renL [0, 1, 2, 3, 4] 5) (by kernel_rfl) ⟨Nat.zero_le _, fun j h => by omega⟩ ⟨rfl, rfl, rfl, rfl, rfl, trivial⟩ (EmbL.litsN [0, 1, 2, 3, 4] rfl rfl rfl rfl (.cons ⟨rfl, .inl ⟨rfl, fun h => h⟩⟩ (.cons ⟨rfl, .inl ⟨rfl, fun h => h⟩⟩ (.cons ⟨rfl, .inl ⟨rfl, fun h => h⟩⟩ .nil))) (.cons ⟨rfl, .roI⟩ (.cons ⟨rfl, .roI⟩ (.cons ⟨rfl, .roI⟩ (.cons ⟨rfl, .inl rfl⟩ (.cons ⟨rfl, .cellsBr⟩ .nil)))))) ?_
  rintro k ⟨g1, g2⟩
  rcases Nat.lt_or_ge k c.gates.length with hk | hk
  · have hno : ¬ c.FineAt k → IsB (AVal.bool false) c.Slim := fun h => .f fun hs => h ((slim_iff c).1 hs k hk)
    have hu : F.getD (c.nv + k) false = true ↔ c.Used k := by
      rw [← drop_get, hF2]
      exact usedL_iff c ho.g a1 hk
    have hgo := ho.g k hk
    unfold Cir.GateOk inR Cir.own at hgo
    conv => whnf
    repeat' first | ((refine Gets.ix1o rfl rfl (by omega) ?_); conv => whnf) | ((refine Gets.ldB (l := F) rfl rfl (by omega) ?_); conv => whnf) | ((with_reducible refine Gets.quoI ?_ ?_ ?_ ?_); (· omega); (· omega); (· omega); conv => whnf) | (refine Gets.of _ rfl ?_; conv => whnf) | (refine Gets.ixEv (es := 2) rfl rfl (by omega) ?_; conv => whnf) | (refine Gets.ldP (ti := tiP) rfl rfl rfl (by first | rfl | assumption) (by first | omega | exact Nat.le_of_ble_eq_true rfl) ?_; conv => whnf) | (refine Fork.dec (fun _ => ?_) (fun _ => ?_) <;> first | (exfalso; omega) | (conv => whnf))
    iterate 4
      · exact hno fun h => by have := h.1; omega
    cases hub : F.getD (c.nv + k) false
    · conv => whnf
      skip
      exact hno fun h => by rw [hu.2 h.2.2] at hub; cases hub
    · conv => whnf
      repeat' first | ((refine Gets.sliceHiV (ti := tiP) rfl rfl rfl rfl (by omega) ?_); conv => whnf) | (refine Gets.of _ rfl ?_; conv => whnf)
      refine CodeS.loopGK (cuts := []) (σ := Nat) (fun j => [(1, .ptr 3 0), (3, .slice 4 c.nv c.gates.length), (6, .ptr 5 0), (15, .view 1 0 c.gates.length), (16, .int .i64 c.gates.length), (17, .int .i64 k), (56, .view 1 0 k), (57, .int .i64 k), (58, .int .i64 j)]) (fun j => leH c F (c.gates.getD k (0, 0)).1 (c.gates.getD k (0, 0)).2) (fun j => j ≤ k ∧ ∀ i, i < j → c.gates.getD i (0, 0) ≠ c.gates.getD k (0, 0)) (fun j => k - j) 0 (renL [0, 1, 2, 3, 4, 5] 6) (by kernel_rfl) ⟨Nat.zero_le _, fun i h => by omega⟩ ⟨rfl, rfl, rfl, rfl, rfl, rfl, rfl, rfl, rfl, trivial⟩ (EmbL.litsN [0, 1, 2, 3, 4, 5] rfl rfl rfl rfl (.cons ⟨rfl, .inl ⟨rfl, fun h => h⟩⟩ (.cons ⟨rfl, .inl ⟨rfl, fun h => h⟩⟩ (.cons ⟨rfl, .inl ⟨rfl, fun h => h⟩⟩ .nil))) (.cons ⟨rfl, .roI⟩ (.cons ⟨rfl, .roI⟩ (.cons ⟨rfl, .roI⟩ (.cons ⟨rfl, .inl rfl⟩ (.cons ⟨rfl, .cellsB⟩ (.cons ⟨rfl, .inl rfl⟩ .nil))))))) ?_
      rintro j ⟨g3, g4⟩
      rcases Nat.lt_or_ge j k with hj | hj
      · conv => whnf
        repeat' first | ((refine Gets.ldP (j := j) (l := c.gates) (ti := tiP) rfl rfl rfl rfl (by omega) ?_); conv => whnf) | (refine Gets.of _ rfl ?_; conv => whnf) | (refine Gets.ixEv (es := 2) rfl rfl (by omega) ?_; conv => whnf) | (refine Fork.dec (fun _ => ?_) (fun _ => ?_) <;> first | (exfalso; omega) | (conv => whnf))
        rw [aeq_two (P := Try.prog) Try.underlying55 (by kernel_rfl) (by kernel_rfl)]
        conv => whnf
        repeat' first | ((with_reducible refine Gets.addI ?_ ?_ ?_); (· omega); (· omega); conv => whnf) | (refine Fork.any (fun _ => ?_) (fun _ => ?_) <;> (conv => whnf))
        · rename_i h
          simp only [Bool.and_true, Bool.and_eq_true, beq_iff_eq] at h
          exact hno fun hf => hf.2.1 j hj (Prod.ext h.1 h.2)
        · rename_i h
          refine ⟨j + 1, renL [0, 1, 2, 3, 4, 5] 7, ⟨by omega, lt_succ_all g4 fun e => ?_⟩, by omega, ⟨rfl, rfl, rfl, rfl, rfl, rfl, rfl, rfl, rfl, trivial⟩, EmbL.litsN [0, 1, 2, 3, 4, 5] rfl rfl rfl rfl (.cons ⟨rfl, .inl ⟨rfl, fun h => h⟩⟩ (.cons ⟨rfl, .inl ⟨rfl, fun h => h⟩⟩ (.cons ⟨rfl, .inl ⟨rfl, fun h => h⟩⟩ .nil))) (.cons ⟨rfl, .roI⟩ (.cons ⟨rfl, .roI⟩ (.cons ⟨rfl, .roI⟩ (.cons ⟨rfl, .inl rfl⟩ (.cons ⟨rfl, .cellsB⟩ (.cons ⟨rfl, .inl rfl⟩ .nil))))))⟩
          rw [e] at h
          simp at h
      · obtain rfl : j = k := by omega
        conv => whnf
        repeat' first | ((with_reducible refine Gets.addI ?_ ?_ ?_); (· omega); (· omega); conv => whnf) | (refine Fork.dec (fun _ => ?_) (fun _ => ?_) <;> first | (exfalso; omega) | (conv => whnf))
        exact ⟨j + 1, renL [0, 1, 2, 3, 4] 6, ⟨by omega, lt_succ_all g2 ⟨⟨by omega, by omega, by omega⟩, g4, hu.1 hub⟩⟩, by omega, ⟨rfl, rfl, rfl, rfl, rfl, trivial⟩, EmbL.litsN [0, 1, 2, 3, 4] rfl rfl rfl rfl (.cons ⟨rfl, .inl ⟨rfl, fun h => h⟩⟩ (.cons ⟨rfl, .inl ⟨rfl, fun h => h⟩⟩ (.cons ⟨rfl, .inl ⟨rfl, fun h => h⟩⟩ .nil))) (.cons ⟨rfl, .roI⟩ (.cons ⟨rfl, .roI⟩ (.cons ⟨rfl, .roI⟩ (.cons ⟨rfl, .inl rfl⟩ (.cons ⟨rfl, .cellsB⟩ .nil)))))⟩
  · obtain rfl : k = c.gates.length := by omega
    conv => whnf
    repeat' (refine Fork.dec (fun _ => ?_) (fun _ => ?_) <;> first | (exfalso; omega) | (conv => whnf))
    exact .t ((slim_iff c).2 g2)
end Go.Proofs.Ytmghlldboiplpaa
