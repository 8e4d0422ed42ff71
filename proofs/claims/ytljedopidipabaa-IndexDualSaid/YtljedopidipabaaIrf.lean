/- Dual, of the reference: the walk. -/
import Derived.Test.YtljedopidipabaaIre
-- VkG VkH VmA
set_option linter.unusedVariables false
set_option linter.unusedSimpArgs false
set_option maxRecDepth 100000
set_option maxHeartbeats 4000000
namespace Go.Proofs.Ytljedopidipabaa
open Go Go.Vh Go.Vk Go.Proofs
/-- The blocks: the argument, nothing yet, the result (kind k, marks m), its row of states, its edges. -/
def rH (a : Au) (k m : Int) (acc : List Edg) : AHeap := ((((emptyH.alloc (boxA a)).alloc zeroB).alloc (.cells 1 [.int .i64 a.props, .int .i64 a.states, .slice 3 0 a.start.length, .int .i64 k, .int .i64 m, match acc with | [] => .nilSlice | x :: l => .slice 4 0 (x :: l).length])).alloc (.cells 1 (ints a.start))).alloc (match acc with | [] => .ro 1 [] | x :: l => .cells 5 (ints (flat (x :: l))))
theorem rS {κ : Nat → Nat} {a : Au} {k m : Int} {i j n n' : Nat} {e e' : AVal} (hk : κ i = j) (h : n' = n) (he : ren κ e = e') : BSub κ (.cells 1 [.int .i64 a.props, .int .i64 a.states, .slice i 0 n', .int .i64 k, .int .i64 m, e]) (.cells 1 [.int .i64 a.props, .int .i64 a.states, .slice j 0 n, .int .i64 k, .int .i64 m, e']) := .inl (by subst h; subst hk; subst he; rfl)
theorem rT {κ : Nat → Nat} {a : Au} {k m : Int} {i j r l n q q' : Nat} (hk : κ i = j) (hl : κ r = l) (h : q = q') : BSub κ (.cells 1 [.int .i64 a.props, .int .i64 a.states, .slice i 0 n, .int .i64 k, .int .i64 m, .slice r 0 q]) (.cells 1 [.int .i64 a.props, .int .i64 a.states, .slice j 0 n, .int .i64 k, .int .i64 m, .slice l 0 q']) := .inl (by subst h; subst hk; subst hl; rfl)
def dE (a : Au) (e : Edg) : Edg := { e with marks := dualM a.kind a.marks e.marks.toNat }
theorem Au.Ok.markM {a : Au} (h : a.Ok) {e : Edg} (he : e ∈ a.es) : e.marks = ((e.marks.toNat : Nat) : Int) := by
  obtain ⟨j, hj, rfl⟩ := List.getElem_of_mem he
  obtain ⟨M, hM, _⟩ := h.mark hj
  rw [List.getD_eq_getElem?_getD, List.getElem?_eq_getElem hj] at hM
  have hM : a.es[j].marks = (M : Int) := hM
  rw [hM]; rfl
theorem map_0 {a : Au} (h : a.Ok) (h5 : ¬ a.kind = 5) (h1 : ¬ a.kind = 1) : a.es.map (dE a) = a.es := by
  have : ∀ e ∈ a.es, dE a e = e := fun e he => by
    have hM := h.markM he
    unfold dE dualM
    rw [if_neg h5, if_neg h1, ← hM]
  rw [List.map_congr_left this, List.map_id']
theorem map_5 {a : Au} (h : a.Ok) (h5 : a.kind = 5) : a.es.map (dE a) = (dualU a (a.marks + 1)).es := by
  refine List.map_congr_left fun e he => ?_
  have hM := h.markM he
  unfold dE dualM
  rw [if_pos h5, ← hM]
theorem map_1 {a : Au} (h : a.Ok) (h1 : a.kind = 1) (hm : a.marks ≤ 20) : a.es.map (dE a) = (dualG a).es := by
  refine List.map_congr_left fun e he => ?_
  have h0 := h.mo.1
  unfold dE dualM genF
  rw [if_neg (by omega), if_pos h1, genR_N _ _ (by omega), genP_N _ _ (by omega)]
theorem map_take {f : Edg → Edg} {es : List Edg} {j : Nat} (h : j < es.length) : (es.take (j + 1)).map f = (es.take j).map f ++ [f (es.getD j default)] := by
  rw [List.getD_eq_getElem?_getD, List.getElem?_eq_getElem h, List.take_succ_eq_append_getElem h, List.map_append]; rfl
theorem dualRr (a : Au) (hf : a.Fits) (H : AHeap) : CallW Try.prog 7 [a.rv] H fun v H' => H' = H ∧ v = .tuple [(dualA a).1.rv, .int .i64 (dualA a).2] := by
  refine CallW.pure ?_ rfl H
  refine CallW.symK (cuts := [3, 5]) Try.func7 rfl (by kernel_rfl) ?_
  conv => whnf
  repeat' (refine Gets.of _ rfl ?_; conv => whnf)
  refine CallS.of (by kernel_rfl) (validAr a hf _) rfl ?_
  rintro _ _ ⟨rfl, hk | hk⟩
  rotate_left
  · rw [dualA, if_neg hk]
    conv => whnf
    repeat' ((refine Gets.stA rfl rfl rfl rfl (by rfl) ?_); conv => whnf)
    exact errE 1
  have hne := hk.ne
  have hns := start_len hk
  have hm0 := hk.mo.1
  have hm1 := hk.mo.2.1
  have k0 := hk.k0
  have k5 := hk.k5
  have hz : 0 + a.start.length = a.start.length := Nat.zero_add _
  rw [dualA, if_pos hk]
  conv => whnf
  skip
  refine CodeS.cut (cuts := []) [(1, .ptr 0 0), (2, .ptr 1 0), (4, .ptr 2 0)] (rH a a.kind a.marks []) (by kernel_rfl) ?_ ?_
  · conv => whnf
    skip
    refine CodeS.drawT [0] (.take 0 (.take 1 (.take 2 (.take 3 (.take 5 (.take 6 (.take 8 (.take 9 (.take 10 (.take 11 (.two (.one 4 true (.two (.one 7 true (.take 12 (.one 13 true (.one 14 false .done)))) (.one 13 true (.one 7 true (.take 12 (.one 14 false .done)))))) (.one 13 true (.one 4 true (.one 7 true (.take 12 (.one 14 false .done)))))))))))))))) mixed (by kernel_rfl) (.cons ⟨rfl, trivial⟩ .nil) ?_
    conv => whnf
    repeat' first | ((refine Gets.appSrc (ti := tiI) (l := []) (xs := a.start) (m := 0) (n := a.start.length) rfl rfl rfl rfl rfl (by decide) (Nat.le_refl _) (src_row rfl) rfl (by omega) ?_); conv => whnf) | ((refine Gets.stA rfl rfl rfl rfl (by rfl) ?_); conv => whnf) | (refine Gets.of _ rfl ?_; conv => whnf) | (refine Chk.mk (by repeat first | exact .nil | refine .cons rfl ?_) ?_; conv => whnf) | (refine Alls.mk ?_ ?_ <;> conv => whnf)
    all_goals first
      | exact ⟨renL [0, 1, 4, 3, 0] 5, ⟨rfl, rfl, rfl, trivial⟩, EmbL.lits [0, 1, 4, 3, 0] rfl rfl rfl rfl .nil (.cons ⟨rfl, .inl rfl⟩ (.cons ⟨rfl, .inl rfl⟩ (.cons ⟨rfl, rS rfl hz.symm rfl⟩ (.cons ⟨rfl, .cellsI⟩ (.cons ⟨rfl, .roEc⟩ .nil)))))⟩
      | exact ⟨renL [0, 1, 3, 4, 0] 5, ⟨rfl, rfl, rfl, trivial⟩, EmbL.lits [0, 1, 3, 4, 0] rfl rfl rfl rfl .nil (.cons ⟨rfl, .inl rfl⟩ (.cons ⟨rfl, .inl rfl⟩ (.cons ⟨rfl, rS rfl hz.symm rfl⟩ (.cons ⟨rfl, .cellsI⟩ (.cons ⟨rfl, .roEc⟩ .nil)))))⟩
      | exact ⟨renL [0, 1, 2, 4, 0] 5, ⟨rfl, rfl, rfl, trivial⟩, EmbL.lits [0, 1, 2, 4, 0] rfl rfl rfl rfl .nil (.cons ⟨rfl, .inl rfl⟩ (.cons ⟨rfl, .inl rfl⟩ (.cons ⟨rfl, rS rfl hz.symm rfl⟩ (.cons ⟨rfl, .cellsI⟩ (.cons ⟨rfl, .roEc⟩ .nil)))))⟩
  conv => whnf
  repeat' first | ((refine Gets.stA rfl rfl rfl rfl (by rfl) ?_); conv => whnf) | ((with_reducible refine Gets.addI ?_ ?_ ?_); (· omega); (· omega); conv => whnf) | (refine Gets.of _ rfl ?_; conv => whnf) | (refine Fork.dec (fun _ => ?_) (fun _ => ?_) <;> first | (exfalso; omega) | (conv => whnf))
  · rw [if_pos (show a.kind = 0 by omega)]
    refine CodeS.loopGK (cuts := []) (σ := Nat × List Edg) (fun s => [(1, .ptr 0 0), (2, .ptr 1 0), (4, .ptr 2 0), (54, rE a.es), (55, .int .i64 (a.es.length : Int)), (56, .int .i64 (s.1 : Int))]) (fun s => rH a 2 a.marks s.2) (fun s => s.1 ≤ a.es.length ∧ (a.es.take s.1).map (dE a) = s.2) (fun s => a.es.length - s.1) (0, []) (renL [0, 1, 2, 3, 4] 5) (by kernel_rfl) ⟨Nat.zero_le _, rfl⟩ ⟨rfl, rfl, rfl, rfl, rfl, rfl, trivial⟩ (EmbL.litsN [0, 1, 2, 3, 4] rfl rfl rfl rfl .nil (.cons ⟨rfl, .inl rfl⟩ (.cons ⟨rfl, .inl rfl⟩ (.cons ⟨rfl, rS rfl rfl rfl⟩ (.cons ⟨rfl, .cellsI⟩ (.cons ⟨rfl, .roE⟩ .nil)))))) ?_
    rintro ⟨j, acc⟩ ⟨hj, hacc⟩
    dsimp only at hj hacc ⊢
    rcases Nat.lt_or_ge j a.es.length with hjl | hjl
    · obtain ⟨M, hM, hM1, hM2, hM3⟩ := hk.mark hjl
      have hnx := map_take (f := dE a) hjl
      rw [hacc, show dE a (a.es.getD j default) = { (a.es.getD j default) with marks := dualM a.kind a.marks M } by unfold dE; rw [hM]; rfl] at hnx
      have hal : acc.length = j := by rw [← hacc, List.length_map, List.length_take, Nat.min_eq_left (by omega)]
      conv => whnf
      repeat' first | ((refine Gets.ixRE (es := 5) rfl (by kernel_rfl) (by omega) ?_); conv => whnf) | ((refine Gets.ldREM rfl rfl rfl rfl hjl hM ?_); conv => whnf) | (refine Gets.of _ rfl ?_; conv => whnf) | (refine Fork.dec (fun _ => ?_) (fun _ => ?_) <;> first | (exfalso; omega) | (conv => whnf))
      refine CallS.of (by kernel_rfl) (dual18 a.kind a.marks M hm0 hm1 (by omega) hM2 _) rfl ?_
      rintro _ _ ⟨rfl, rfl⟩
      rcases acc with _ | ⟨x, acc⟩
      · conv => whnf
        repeat' first | ((with_reducible refine Gets.addI ?_ ?_ ?_); (· omega); (· omega); conv => whnf) | (refine Gets.of _ rfl ?_; conv => whnf)
        exact ⟨(j + 1, [{ (a.es.getD j default) with marks := dualM a.kind a.marks M }]), renL [0, 1, 2, 3, 7] 8, ⟨hjl, hnx⟩, by show a.es.length - (j + 1) < _; omega, ⟨rfl, rfl, rfl, rfl, rfl, rfl, trivial⟩, EmbL.litsN [0, 1, 2, 3, 7] rfl rfl rfl rfl .nil (.cons ⟨rfl, .inl rfl⟩ (.cons ⟨rfl, .inl rfl⟩ (.cons ⟨rfl, rT rfl rfl rfl⟩ (.cons ⟨rfl, .cellsI⟩ (.cons ⟨rfl, .inl rfl⟩ .nil)))))⟩
      · have e2 : (x :: (acc ++ [{ (a.es.getD j default) with marks := dualM a.kind a.marks M }])).length = (x :: acc).length + 1 := by simp
        conv => whnf
        repeat' first | ((refine Gets.appE1 (l := x :: acc) (x := { (a.es.getD j default) with marks := dualM a.kind a.marks M }) rfl rfl rfl rfl rfl (by decide) rfl rfl rfl (by omega) ?_); conv => whnf) | ((with_reducible refine Gets.addI ?_ ?_ ?_); (· omega); (· omega); conv => whnf) | (refine Gets.of _ rfl ?_; conv => whnf)
        exact ⟨(j + 1, x :: acc ++ [{ (a.es.getD j default) with marks := dualM a.kind a.marks M }]), renL [0, 1, 2, 3, 7] 8, ⟨hjl, hnx⟩, by show a.es.length - (j + 1) < _; omega, ⟨rfl, rfl, rfl, rfl, rfl, rfl, trivial⟩, EmbL.litsN [0, 1, 2, 3, 7] rfl rfl rfl rfl .nil (.cons ⟨rfl, .inl rfl⟩ (.cons ⟨rfl, .inl rfl⟩ (.cons ⟨rfl, rT rfl rfl e2⟩ (.cons ⟨rfl, .cellsI⟩ (.cons ⟨rfl, .cellsI⟩ .nil)))))⟩
    · obtain rfl : j = a.es.length := by omega
      rw [List.take_length, map_0 hk (by omega) (by omega)] at hacc
      have key : ({ a with kind := 2 } : Au).rv = (Au.mk a.props a.states a.start 2 a.marks acc).rv := by rw [← hacc]
      rcases acc with _ | ⟨x, acc⟩
      · conv => whnf
        repeat' first | ((refine Gets.stA rfl rfl rfl rfl (by rfl) ?_); conv => whnf) | (refine Gets.of _ rfl ?_; conv => whnf) | (refine Fork.dec (fun _ => ?_) (fun _ => ?_) <;> first | (exfalso; omega) | (conv => whnf))
        exact ⟨[3], _, rfl, .tuple (.cons (.agg (.cons (.same rfl) (.cons (.same rfl) (.cons (frzI (l := a.start) rfl rfl rfl) (.cons (.same rfl) (.cons (.same rfl) (.cons .nil (.same rfl)))))))) (.same rfl)), rfl, congrArg (fun z => AVal.tuple [z, .int .i64 0]) key.symm⟩
      · conv => whnf
        repeat' first | ((refine Gets.stA rfl rfl rfl rfl (by rfl) ?_); conv => whnf) | (refine Gets.of _ rfl ?_; conv => whnf) | (refine Fork.dec (fun _ => ?_) (fun _ => ?_) <;> first | (exfalso; omega) | (conv => whnf))
        exact ⟨[3, 4], _, rfl, .tuple (.cons (.agg (.cons (.same rfl) (.cons (.same rfl) (.cons (frzI (l := a.start) rfl rfl rfl) (.cons (.same rfl) (.cons (.same rfl) (.cons (frzE (l := x :: acc) rfl rfl rfl) (.same rfl)))))))) (.same rfl)), rfl, congrArg (fun z => AVal.tuple [z, .int .i64 0]) key.symm⟩
  · rw [if_neg (show ¬ a.kind = 0 by omega), if_pos (show a.kind = 2 by omega)]
    refine CodeS.loopGK (cuts := []) (σ := Nat × List Edg) (fun s => [(1, .ptr 0 0), (2, .ptr 1 0), (4, .ptr 2 0), (54, rE a.es), (55, .int .i64 (a.es.length : Int)), (56, .int .i64 (s.1 : Int))]) (fun s => rH a 0 a.marks s.2) (fun s => s.1 ≤ a.es.length ∧ (a.es.take s.1).map (dE a) = s.2) (fun s => a.es.length - s.1) (0, []) (renL [0, 1, 2, 3, 4] 5) (by kernel_rfl) ⟨Nat.zero_le _, rfl⟩ ⟨rfl, rfl, rfl, rfl, rfl, rfl, trivial⟩ (EmbL.litsN [0, 1, 2, 3, 4] rfl rfl rfl rfl .nil (.cons ⟨rfl, .inl rfl⟩ (.cons ⟨rfl, .inl rfl⟩ (.cons ⟨rfl, rS rfl rfl rfl⟩ (.cons ⟨rfl, .cellsI⟩ (.cons ⟨rfl, .roE⟩ .nil)))))) ?_
    rintro ⟨j, acc⟩ ⟨hj, hacc⟩
    dsimp only at hj hacc ⊢
    rcases Nat.lt_or_ge j a.es.length with hjl | hjl
    · obtain ⟨M, hM, hM1, hM2, hM3⟩ := hk.mark hjl
      have hnx := map_take (f := dE a) hjl
      rw [hacc, show dE a (a.es.getD j default) = { (a.es.getD j default) with marks := dualM a.kind a.marks M } by unfold dE; rw [hM]; rfl] at hnx
      have hal : acc.length = j := by rw [← hacc, List.length_map, List.length_take, Nat.min_eq_left (by omega)]
      conv => whnf
      repeat' first | ((refine Gets.ixRE (es := 5) rfl (by kernel_rfl) (by omega) ?_); conv => whnf) | ((refine Gets.ldREM rfl rfl rfl rfl hjl hM ?_); conv => whnf) | (refine Gets.of _ rfl ?_; conv => whnf) | (refine Fork.dec (fun _ => ?_) (fun _ => ?_) <;> first | (exfalso; omega) | (conv => whnf))
      refine CallS.of (by kernel_rfl) (dual18 a.kind a.marks M hm0 hm1 (by omega) hM2 _) rfl ?_
      rintro _ _ ⟨rfl, rfl⟩
      rcases acc with _ | ⟨x, acc⟩
      · conv => whnf
        repeat' first | ((with_reducible refine Gets.addI ?_ ?_ ?_); (· omega); (· omega); conv => whnf) | (refine Gets.of _ rfl ?_; conv => whnf)
        exact ⟨(j + 1, [{ (a.es.getD j default) with marks := dualM a.kind a.marks M }]), renL [0, 1, 2, 3, 7] 8, ⟨hjl, hnx⟩, by show a.es.length - (j + 1) < _; omega, ⟨rfl, rfl, rfl, rfl, rfl, rfl, trivial⟩, EmbL.litsN [0, 1, 2, 3, 7] rfl rfl rfl rfl .nil (.cons ⟨rfl, .inl rfl⟩ (.cons ⟨rfl, .inl rfl⟩ (.cons ⟨rfl, rT rfl rfl rfl⟩ (.cons ⟨rfl, .cellsI⟩ (.cons ⟨rfl, .inl rfl⟩ .nil)))))⟩
      · have e2 : (x :: (acc ++ [{ (a.es.getD j default) with marks := dualM a.kind a.marks M }])).length = (x :: acc).length + 1 := by simp
        conv => whnf
        repeat' first | ((refine Gets.appE1 (l := x :: acc) (x := { (a.es.getD j default) with marks := dualM a.kind a.marks M }) rfl rfl rfl rfl rfl (by decide) rfl rfl rfl (by omega) ?_); conv => whnf) | ((with_reducible refine Gets.addI ?_ ?_ ?_); (· omega); (· omega); conv => whnf) | (refine Gets.of _ rfl ?_; conv => whnf)
        exact ⟨(j + 1, x :: acc ++ [{ (a.es.getD j default) with marks := dualM a.kind a.marks M }]), renL [0, 1, 2, 3, 7] 8, ⟨hjl, hnx⟩, by show a.es.length - (j + 1) < _; omega, ⟨rfl, rfl, rfl, rfl, rfl, rfl, trivial⟩, EmbL.litsN [0, 1, 2, 3, 7] rfl rfl rfl rfl .nil (.cons ⟨rfl, .inl rfl⟩ (.cons ⟨rfl, .inl rfl⟩ (.cons ⟨rfl, rT rfl rfl e2⟩ (.cons ⟨rfl, .cellsI⟩ (.cons ⟨rfl, .cellsI⟩ .nil)))))⟩
    · obtain rfl : j = a.es.length := by omega
      rw [List.take_length, map_0 hk (by omega) (by omega)] at hacc
      have key : ({ a with kind := 0 } : Au).rv = (Au.mk a.props a.states a.start 0 a.marks acc).rv := by rw [← hacc]
      rcases acc with _ | ⟨x, acc⟩
      · conv => whnf
        repeat' first | ((refine Gets.stA rfl rfl rfl rfl (by rfl) ?_); conv => whnf) | (refine Gets.of _ rfl ?_; conv => whnf) | (refine Fork.dec (fun _ => ?_) (fun _ => ?_) <;> first | (exfalso; omega) | (conv => whnf))
        exact ⟨[3], _, rfl, .tuple (.cons (.agg (.cons (.same rfl) (.cons (.same rfl) (.cons (frzI (l := a.start) rfl rfl rfl) (.cons (.same rfl) (.cons (.same rfl) (.cons .nil (.same rfl)))))))) (.same rfl)), rfl, congrArg (fun z => AVal.tuple [z, .int .i64 0]) key.symm⟩
      · conv => whnf
        repeat' first | ((refine Gets.stA rfl rfl rfl rfl (by rfl) ?_); conv => whnf) | (refine Gets.of _ rfl ?_; conv => whnf) | (refine Fork.dec (fun _ => ?_) (fun _ => ?_) <;> first | (exfalso; omega) | (conv => whnf))
        exact ⟨[3, 4], _, rfl, .tuple (.cons (.agg (.cons (.same rfl) (.cons (.same rfl) (.cons (frzI (l := a.start) rfl rfl rfl) (.cons (.same rfl) (.cons (.same rfl) (.cons (frzE (l := x :: acc) rfl rfl rfl) (.same rfl)))))))) (.same rfl)), rfl, congrArg (fun z => AVal.tuple [z, .int .i64 0]) key.symm⟩
  · rw [if_neg (show ¬ a.kind = 0 by omega), if_neg (show ¬ a.kind = 2 by omega), if_pos (show a.kind = 3 by omega)]
    refine CodeS.loopGK (cuts := []) (σ := Nat × List Edg) (fun s => [(1, .ptr 0 0), (2, .ptr 1 0), (4, .ptr 2 0), (54, rE a.es), (55, .int .i64 (a.es.length : Int)), (56, .int .i64 (s.1 : Int))]) (fun s => rH a 4 a.marks s.2) (fun s => s.1 ≤ a.es.length ∧ (a.es.take s.1).map (dE a) = s.2) (fun s => a.es.length - s.1) (0, []) (renL [0, 1, 2, 3, 4] 5) (by kernel_rfl) ⟨Nat.zero_le _, rfl⟩ ⟨rfl, rfl, rfl, rfl, rfl, rfl, trivial⟩ (EmbL.litsN [0, 1, 2, 3, 4] rfl rfl rfl rfl .nil (.cons ⟨rfl, .inl rfl⟩ (.cons ⟨rfl, .inl rfl⟩ (.cons ⟨rfl, rS rfl rfl rfl⟩ (.cons ⟨rfl, .cellsI⟩ (.cons ⟨rfl, .roE⟩ .nil)))))) ?_
    rintro ⟨j, acc⟩ ⟨hj, hacc⟩
    dsimp only at hj hacc ⊢
    rcases Nat.lt_or_ge j a.es.length with hjl | hjl
    · obtain ⟨M, hM, hM1, hM2, hM3⟩ := hk.mark hjl
      have hnx := map_take (f := dE a) hjl
      rw [hacc, show dE a (a.es.getD j default) = { (a.es.getD j default) with marks := dualM a.kind a.marks M } by unfold dE; rw [hM]; rfl] at hnx
      have hal : acc.length = j := by rw [← hacc, List.length_map, List.length_take, Nat.min_eq_left (by omega)]
      conv => whnf
      repeat' first | ((refine Gets.ixRE (es := 5) rfl (by kernel_rfl) (by omega) ?_); conv => whnf) | ((refine Gets.ldREM rfl rfl rfl rfl hjl hM ?_); conv => whnf) | (refine Gets.of _ rfl ?_; conv => whnf) | (refine Fork.dec (fun _ => ?_) (fun _ => ?_) <;> first | (exfalso; omega) | (conv => whnf))
      refine CallS.of (by kernel_rfl) (dual18 a.kind a.marks M hm0 hm1 (by omega) hM2 _) rfl ?_
      rintro _ _ ⟨rfl, rfl⟩
      rcases acc with _ | ⟨x, acc⟩
      · conv => whnf
        repeat' first | ((with_reducible refine Gets.addI ?_ ?_ ?_); (· omega); (· omega); conv => whnf) | (refine Gets.of _ rfl ?_; conv => whnf)
        exact ⟨(j + 1, [{ (a.es.getD j default) with marks := dualM a.kind a.marks M }]), renL [0, 1, 2, 3, 7] 8, ⟨hjl, hnx⟩, by show a.es.length - (j + 1) < _; omega, ⟨rfl, rfl, rfl, rfl, rfl, rfl, trivial⟩, EmbL.litsN [0, 1, 2, 3, 7] rfl rfl rfl rfl .nil (.cons ⟨rfl, .inl rfl⟩ (.cons ⟨rfl, .inl rfl⟩ (.cons ⟨rfl, rT rfl rfl rfl⟩ (.cons ⟨rfl, .cellsI⟩ (.cons ⟨rfl, .inl rfl⟩ .nil)))))⟩
      · have e2 : (x :: (acc ++ [{ (a.es.getD j default) with marks := dualM a.kind a.marks M }])).length = (x :: acc).length + 1 := by simp
        conv => whnf
        repeat' first | ((refine Gets.appE1 (l := x :: acc) (x := { (a.es.getD j default) with marks := dualM a.kind a.marks M }) rfl rfl rfl rfl rfl (by decide) rfl rfl rfl (by omega) ?_); conv => whnf) | ((with_reducible refine Gets.addI ?_ ?_ ?_); (· omega); (· omega); conv => whnf) | (refine Gets.of _ rfl ?_; conv => whnf)
        exact ⟨(j + 1, x :: acc ++ [{ (a.es.getD j default) with marks := dualM a.kind a.marks M }]), renL [0, 1, 2, 3, 7] 8, ⟨hjl, hnx⟩, by show a.es.length - (j + 1) < _; omega, ⟨rfl, rfl, rfl, rfl, rfl, rfl, trivial⟩, EmbL.litsN [0, 1, 2, 3, 7] rfl rfl rfl rfl .nil (.cons ⟨rfl, .inl rfl⟩ (.cons ⟨rfl, .inl rfl⟩ (.cons ⟨rfl, rT rfl rfl e2⟩ (.cons ⟨rfl, .cellsI⟩ (.cons ⟨rfl, .cellsI⟩ .nil)))))⟩
    · obtain rfl : j = a.es.length := by omega
      rw [List.take_length, map_0 hk (by omega) (by omega)] at hacc
      have key : ({ a with kind := 4 } : Au).rv = (Au.mk a.props a.states a.start 4 a.marks acc).rv := by rw [← hacc]
      rcases acc with _ | ⟨x, acc⟩
      · conv => whnf
        repeat' first | ((refine Gets.stA rfl rfl rfl rfl (by rfl) ?_); conv => whnf) | (refine Gets.of _ rfl ?_; conv => whnf) | (refine Fork.dec (fun _ => ?_) (fun _ => ?_) <;> first | (exfalso; omega) | (conv => whnf))
        exact ⟨[3], _, rfl, .tuple (.cons (.agg (.cons (.same rfl) (.cons (.same rfl) (.cons (frzI (l := a.start) rfl rfl rfl) (.cons (.same rfl) (.cons (.same rfl) (.cons .nil (.same rfl)))))))) (.same rfl)), rfl, congrArg (fun z => AVal.tuple [z, .int .i64 0]) key.symm⟩
      · conv => whnf
        repeat' first | ((refine Gets.stA rfl rfl rfl rfl (by rfl) ?_); conv => whnf) | (refine Gets.of _ rfl ?_; conv => whnf) | (refine Fork.dec (fun _ => ?_) (fun _ => ?_) <;> first | (exfalso; omega) | (conv => whnf))
        exact ⟨[3, 4], _, rfl, .tuple (.cons (.agg (.cons (.same rfl) (.cons (.same rfl) (.cons (frzI (l := a.start) rfl rfl rfl) (.cons (.same rfl) (.cons (.same rfl) (.cons (frzE (l := x :: acc) rfl rfl rfl) (.same rfl)))))))) (.same rfl)), rfl, congrArg (fun z => AVal.tuple [z, .int .i64 0]) key.symm⟩
  · rw [if_neg (show ¬ a.kind = 0 by omega), if_neg (show ¬ a.kind = 2 by omega), if_neg (show ¬ a.kind = 3 by omega), if_pos (show a.kind = 4 by omega)]
    refine CodeS.loopGK (cuts := []) (σ := Nat × List Edg) (fun s => [(1, .ptr 0 0), (2, .ptr 1 0), (4, .ptr 2 0), (54, rE a.es), (55, .int .i64 (a.es.length : Int)), (56, .int .i64 (s.1 : Int))]) (fun s => rH a 3 a.marks s.2) (fun s => s.1 ≤ a.es.length ∧ (a.es.take s.1).map (dE a) = s.2) (fun s => a.es.length - s.1) (0, []) (renL [0, 1, 2, 3, 4] 5) (by kernel_rfl) ⟨Nat.zero_le _, rfl⟩ ⟨rfl, rfl, rfl, rfl, rfl, rfl, trivial⟩ (EmbL.litsN [0, 1, 2, 3, 4] rfl rfl rfl rfl .nil (.cons ⟨rfl, .inl rfl⟩ (.cons ⟨rfl, .inl rfl⟩ (.cons ⟨rfl, rS rfl rfl rfl⟩ (.cons ⟨rfl, .cellsI⟩ (.cons ⟨rfl, .roE⟩ .nil)))))) ?_
    rintro ⟨j, acc⟩ ⟨hj, hacc⟩
    dsimp only at hj hacc ⊢
    rcases Nat.lt_or_ge j a.es.length with hjl | hjl
    · obtain ⟨M, hM, hM1, hM2, hM3⟩ := hk.mark hjl
      have hnx := map_take (f := dE a) hjl
      rw [hacc, show dE a (a.es.getD j default) = { (a.es.getD j default) with marks := dualM a.kind a.marks M } by unfold dE; rw [hM]; rfl] at hnx
      have hal : acc.length = j := by rw [← hacc, List.length_map, List.length_take, Nat.min_eq_left (by omega)]
      conv => whnf
      repeat' first | ((refine Gets.ixRE (es := 5) rfl (by kernel_rfl) (by omega) ?_); conv => whnf) | ((refine Gets.ldREM rfl rfl rfl rfl hjl hM ?_); conv => whnf) | (refine Gets.of _ rfl ?_; conv => whnf) | (refine Fork.dec (fun _ => ?_) (fun _ => ?_) <;> first | (exfalso; omega) | (conv => whnf))
      refine CallS.of (by kernel_rfl) (dual18 a.kind a.marks M hm0 hm1 (by omega) hM2 _) rfl ?_
      rintro _ _ ⟨rfl, rfl⟩
      rcases acc with _ | ⟨x, acc⟩
      · conv => whnf
        repeat' first | ((with_reducible refine Gets.addI ?_ ?_ ?_); (· omega); (· omega); conv => whnf) | (refine Gets.of _ rfl ?_; conv => whnf)
        exact ⟨(j + 1, [{ (a.es.getD j default) with marks := dualM a.kind a.marks M }]), renL [0, 1, 2, 3, 7] 8, ⟨hjl, hnx⟩, by show a.es.length - (j + 1) < _; omega, ⟨rfl, rfl, rfl, rfl, rfl, rfl, trivial⟩, EmbL.litsN [0, 1, 2, 3, 7] rfl rfl rfl rfl .nil (.cons ⟨rfl, .inl rfl⟩ (.cons ⟨rfl, .inl rfl⟩ (.cons ⟨rfl, rT rfl rfl rfl⟩ (.cons ⟨rfl, .cellsI⟩ (.cons ⟨rfl, .inl rfl⟩ .nil)))))⟩
      · have e2 : (x :: (acc ++ [{ (a.es.getD j default) with marks := dualM a.kind a.marks M }])).length = (x :: acc).length + 1 := by simp
        conv => whnf
        repeat' first | ((refine Gets.appE1 (l := x :: acc) (x := { (a.es.getD j default) with marks := dualM a.kind a.marks M }) rfl rfl rfl rfl rfl (by decide) rfl rfl rfl (by omega) ?_); conv => whnf) | ((with_reducible refine Gets.addI ?_ ?_ ?_); (· omega); (· omega); conv => whnf) | (refine Gets.of _ rfl ?_; conv => whnf)
        exact ⟨(j + 1, x :: acc ++ [{ (a.es.getD j default) with marks := dualM a.kind a.marks M }]), renL [0, 1, 2, 3, 7] 8, ⟨hjl, hnx⟩, by show a.es.length - (j + 1) < _; omega, ⟨rfl, rfl, rfl, rfl, rfl, rfl, trivial⟩, EmbL.litsN [0, 1, 2, 3, 7] rfl rfl rfl rfl .nil (.cons ⟨rfl, .inl rfl⟩ (.cons ⟨rfl, .inl rfl⟩ (.cons ⟨rfl, rT rfl rfl e2⟩ (.cons ⟨rfl, .cellsI⟩ (.cons ⟨rfl, .cellsI⟩ .nil)))))⟩
    · obtain rfl : j = a.es.length := by omega
      rw [List.take_length, map_0 hk (by omega) (by omega)] at hacc
      have key : ({ a with kind := 3 } : Au).rv = (Au.mk a.props a.states a.start 3 a.marks acc).rv := by rw [← hacc]
      rcases acc with _ | ⟨x, acc⟩
      · conv => whnf
        repeat' first | ((refine Gets.stA rfl rfl rfl rfl (by rfl) ?_); conv => whnf) | (refine Gets.of _ rfl ?_; conv => whnf) | (refine Fork.dec (fun _ => ?_) (fun _ => ?_) <;> first | (exfalso; omega) | (conv => whnf))
        exact ⟨[3], _, rfl, .tuple (.cons (.agg (.cons (.same rfl) (.cons (.same rfl) (.cons (frzI (l := a.start) rfl rfl rfl) (.cons (.same rfl) (.cons (.same rfl) (.cons .nil (.same rfl)))))))) (.same rfl)), rfl, congrArg (fun z => AVal.tuple [z, .int .i64 0]) key.symm⟩
      · conv => whnf
        repeat' first | ((refine Gets.stA rfl rfl rfl rfl (by rfl) ?_); conv => whnf) | (refine Gets.of _ rfl ?_; conv => whnf) | (refine Fork.dec (fun _ => ?_) (fun _ => ?_) <;> first | (exfalso; omega) | (conv => whnf))
        exact ⟨[3, 4], _, rfl, .tuple (.cons (.agg (.cons (.same rfl) (.cons (.same rfl) (.cons (frzI (l := a.start) rfl rfl rfl) (.cons (.same rfl) (.cons (.same rfl) (.cons (frzE (l := x :: acc) rfl rfl rfl) (.same rfl)))))))) (.same rfl)), rfl, congrArg (fun z => AVal.tuple [z, .int .i64 0]) key.symm⟩
  · rw [if_neg (show ¬ a.kind = 0 by omega), if_neg (show ¬ a.kind = 2 by omega), if_neg (show ¬ a.kind = 3 by omega), if_neg (show ¬ a.kind = 4 by omega), if_pos (show a.kind = 5 by omega), if_pos (show a.marks = 40 by omega), if_pos (show a.marks = 40 by omega)]
    exact errE 3
  · rw [if_neg (show ¬ a.kind = 0 by omega), if_neg (show ¬ a.kind = 2 by omega), if_neg (show ¬ a.kind = 3 by omega), if_neg (show ¬ a.kind = 4 by omega), if_pos (show a.kind = 5 by omega), if_neg (show ¬ a.marks = 40 by omega), if_neg (show ¬ a.marks = 40 by omega)]
    refine CodeS.loopGK (cuts := []) (σ := Nat × List Edg) (fun s => [(1, .ptr 0 0), (2, .ptr 1 0), (4, .ptr 2 0), (54, rE a.es), (55, .int .i64 (a.es.length : Int)), (56, .int .i64 (s.1 : Int))]) (fun s => rH a a.kind (a.marks + 1) s.2) (fun s => s.1 ≤ a.es.length ∧ (a.es.take s.1).map (dE a) = s.2) (fun s => a.es.length - s.1) (0, []) (renL [0, 1, 2, 3, 4] 5) (by kernel_rfl) ⟨Nat.zero_le _, rfl⟩ ⟨rfl, rfl, rfl, rfl, rfl, rfl, trivial⟩ (EmbL.litsN [0, 1, 2, 3, 4] rfl rfl rfl rfl .nil (.cons ⟨rfl, .inl rfl⟩ (.cons ⟨rfl, .inl rfl⟩ (.cons ⟨rfl, rS rfl rfl rfl⟩ (.cons ⟨rfl, .cellsI⟩ (.cons ⟨rfl, .roE⟩ .nil)))))) ?_
    rintro ⟨j, acc⟩ ⟨hj, hacc⟩
    dsimp only at hj hacc ⊢
    rcases Nat.lt_or_ge j a.es.length with hjl | hjl
    · obtain ⟨M, hM, hM1, hM2, hM3⟩ := hk.mark hjl
      have hnx := map_take (f := dE a) hjl
      rw [hacc, show dE a (a.es.getD j default) = { (a.es.getD j default) with marks := dualM a.kind a.marks M } by unfold dE; rw [hM]; rfl] at hnx
      have hal : acc.length = j := by rw [← hacc, List.length_map, List.length_take, Nat.min_eq_left (by omega)]
      conv => whnf
      repeat' first | ((refine Gets.ixRE (es := 5) rfl (by kernel_rfl) (by omega) ?_); conv => whnf) | ((refine Gets.ldREM rfl rfl rfl rfl hjl hM ?_); conv => whnf) | (refine Gets.of _ rfl ?_; conv => whnf) | (refine Fork.dec (fun _ => ?_) (fun _ => ?_) <;> first | (exfalso; omega) | (conv => whnf))
      refine CallS.of (by kernel_rfl) (dual18 a.kind a.marks M hm0 hm1 (by omega) hM2 _) rfl ?_
      rintro _ _ ⟨rfl, rfl⟩
      rcases acc with _ | ⟨x, acc⟩
      · conv => whnf
        repeat' first | ((with_reducible refine Gets.addI ?_ ?_ ?_); (· omega); (· omega); conv => whnf) | (refine Gets.of _ rfl ?_; conv => whnf)
        exact ⟨(j + 1, [{ (a.es.getD j default) with marks := dualM a.kind a.marks M }]), renL [0, 1, 2, 3, 7] 8, ⟨hjl, hnx⟩, by show a.es.length - (j + 1) < _; omega, ⟨rfl, rfl, rfl, rfl, rfl, rfl, trivial⟩, EmbL.litsN [0, 1, 2, 3, 7] rfl rfl rfl rfl .nil (.cons ⟨rfl, .inl rfl⟩ (.cons ⟨rfl, .inl rfl⟩ (.cons ⟨rfl, rT rfl rfl rfl⟩ (.cons ⟨rfl, .cellsI⟩ (.cons ⟨rfl, .inl rfl⟩ .nil)))))⟩
      · have e2 : (x :: (acc ++ [{ (a.es.getD j default) with marks := dualM a.kind a.marks M }])).length = (x :: acc).length + 1 := by simp
        conv => whnf
        repeat' first | ((refine Gets.appE1 (l := x :: acc) (x := { (a.es.getD j default) with marks := dualM a.kind a.marks M }) rfl rfl rfl rfl rfl (by decide) rfl rfl rfl (by omega) ?_); conv => whnf) | ((with_reducible refine Gets.addI ?_ ?_ ?_); (· omega); (· omega); conv => whnf) | (refine Gets.of _ rfl ?_; conv => whnf)
        exact ⟨(j + 1, x :: acc ++ [{ (a.es.getD j default) with marks := dualM a.kind a.marks M }]), renL [0, 1, 2, 3, 7] 8, ⟨hjl, hnx⟩, by show a.es.length - (j + 1) < _; omega, ⟨rfl, rfl, rfl, rfl, rfl, rfl, trivial⟩, EmbL.litsN [0, 1, 2, 3, 7] rfl rfl rfl rfl .nil (.cons ⟨rfl, .inl rfl⟩ (.cons ⟨rfl, .inl rfl⟩ (.cons ⟨rfl, rT rfl rfl e2⟩ (.cons ⟨rfl, .cellsI⟩ (.cons ⟨rfl, .cellsI⟩ .nil)))))⟩
    · obtain rfl : j = a.es.length := by omega
      rw [List.take_length, map_5 hk (by omega)] at hacc
      have key : (dualU a (a.marks + 1)).rv = (Au.mk a.props a.states a.start a.kind (a.marks + 1) acc).rv := by rw [← hacc, show a.kind = 5 by omega]; rfl
      rcases acc with _ | ⟨x, acc⟩
      · conv => whnf
        repeat' first | ((refine Gets.stA rfl rfl rfl rfl (by rfl) ?_); conv => whnf) | (refine Gets.of _ rfl ?_; conv => whnf) | (refine Fork.dec (fun _ => ?_) (fun _ => ?_) <;> first | (exfalso; omega) | (conv => whnf))
        exact ⟨[3], _, rfl, .tuple (.cons (.agg (.cons (.same rfl) (.cons (.same rfl) (.cons (frzI (l := a.start) rfl rfl rfl) (.cons (.same rfl) (.cons (.same rfl) (.cons .nil (.same rfl)))))))) (.same rfl)), rfl, congrArg (fun z => AVal.tuple [z, .int .i64 0]) key.symm⟩
      · conv => whnf
        repeat' first | ((refine Gets.stA rfl rfl rfl rfl (by rfl) ?_); conv => whnf) | (refine Gets.of _ rfl ?_; conv => whnf) | (refine Fork.dec (fun _ => ?_) (fun _ => ?_) <;> first | (exfalso; omega) | (conv => whnf))
        exact ⟨[3, 4], _, rfl, .tuple (.cons (.agg (.cons (.same rfl) (.cons (.same rfl) (.cons (frzI (l := a.start) rfl rfl rfl) (.cons (.same rfl) (.cons (.same rfl) (.cons (frzE (l := x :: acc) rfl rfl rfl) (.same rfl)))))))) (.same rfl)), rfl, congrArg (fun z => AVal.tuple [z, .int .i64 0]) key.symm⟩
  rw [if_neg (show ¬ a.kind = 0 by omega), if_neg (show ¬ a.kind = 2 by omega), if_neg (show ¬ a.kind = 3 by omega), if_neg (show ¬ a.kind = 4 by omega), if_neg (show ¬ a.kind = 5 by omega)]
  have h1 : a.kind = 1 := by omega
  refine CodeS.drawT [0] (.take 0 (.take 3 (.two (.one 1 true (.take 2 (.one 4 false (.take 5 (.one 6 false .done))))) (.one 4 false (.one 1 false (.take 2 (.take 5 (.one 6 false .done)))))))) mixed (by kernel_rfl) (.cons ⟨rfl, trivial⟩ .nil) ?_
  conv => whnf
  repeat' first | ((refine Gets.stA rfl rfl rfl rfl (by rfl) ?_); conv => whnf) | ((with_reducible refine Gets.mulI ?_ ?_ ?_); (· omega); (· omega); conv => whnf) | (refine Gets.of _ rfl ?_; conv => whnf) | (refine Chk.mk (by repeat first | exact .nil | refine .cons rfl ?_) ?_; conv => whnf) | (refine Alls.mk ?_ ?_ <;> conv => whnf) | (refine Fork.dec (fun _ => ?_) (fun _ => ?_) <;> first | (exfalso; omega) | (conv => whnf))
  · rw [if_pos (show 40 < 2 * a.marks by omega)]
    exact errE 3
  · rw [if_neg (show ¬ 40 < 2 * a.marks by omega)]
    refine CodeS.loopGK (cuts := []) (σ := Nat × List Edg) (fun s => [(1, .ptr 0 0), (2, .ptr 1 0), (4, .ptr 2 0), (54, rE a.es), (55, .int .i64 (a.es.length : Int)), (56, .int .i64 (s.1 : Int))]) (fun s => rH a 3 (2 * a.marks) s.2) (fun s => s.1 ≤ a.es.length ∧ (a.es.take s.1).map (dE a) = s.2) (fun s => a.es.length - s.1) (0, []) (renL [0, 1, 2, 3, 4] 5) (by kernel_rfl) ⟨Nat.zero_le _, rfl⟩ ⟨rfl, rfl, rfl, rfl, rfl, rfl, trivial⟩ (EmbL.litsN [0, 1, 2, 3, 4] rfl rfl rfl rfl .nil (.cons ⟨rfl, .inl rfl⟩ (.cons ⟨rfl, .inl rfl⟩ (.cons ⟨rfl, rS rfl rfl rfl⟩ (.cons ⟨rfl, .cellsI⟩ (.cons ⟨rfl, .roE⟩ .nil)))))) ?_
    rintro ⟨j, acc⟩ ⟨hj, hacc⟩
    dsimp only at hj hacc ⊢
    rcases Nat.lt_or_ge j a.es.length with hjl | hjl
    · obtain ⟨M, hM, hM1, hM2, hM3⟩ := hk.mark hjl
      have hnx := map_take (f := dE a) hjl
      rw [hacc, show dE a (a.es.getD j default) = { (a.es.getD j default) with marks := dualM a.kind a.marks M } by unfold dE; rw [hM]; rfl] at hnx
      have hal : acc.length = j := by rw [← hacc, List.length_map, List.length_take, Nat.min_eq_left (by omega)]
      conv => whnf
      repeat' first | ((refine Gets.ixRE (es := 5) rfl (by kernel_rfl) (by omega) ?_); conv => whnf) | ((refine Gets.ldREM rfl rfl rfl rfl hjl hM ?_); conv => whnf) | (refine Gets.of _ rfl ?_; conv => whnf) | (refine Fork.dec (fun _ => ?_) (fun _ => ?_) <;> first | (exfalso; omega) | (conv => whnf))
      refine CallS.of (by kernel_rfl) (dual18 a.kind a.marks M hm0 hm1 (by omega) hM2 _) rfl ?_
      rintro _ _ ⟨rfl, rfl⟩
      rcases acc with _ | ⟨x, acc⟩
      · conv => whnf
        repeat' first | ((with_reducible refine Gets.addI ?_ ?_ ?_); (· omega); (· omega); conv => whnf) | (refine Gets.of _ rfl ?_; conv => whnf)
        exact ⟨(j + 1, [{ (a.es.getD j default) with marks := dualM a.kind a.marks M }]), renL [0, 1, 2, 3, 7] 8, ⟨hjl, hnx⟩, by show a.es.length - (j + 1) < _; omega, ⟨rfl, rfl, rfl, rfl, rfl, rfl, trivial⟩, EmbL.litsN [0, 1, 2, 3, 7] rfl rfl rfl rfl .nil (.cons ⟨rfl, .inl rfl⟩ (.cons ⟨rfl, .inl rfl⟩ (.cons ⟨rfl, rT rfl rfl rfl⟩ (.cons ⟨rfl, .cellsI⟩ (.cons ⟨rfl, .inl rfl⟩ .nil)))))⟩
      · have e2 : (x :: (acc ++ [{ (a.es.getD j default) with marks := dualM a.kind a.marks M }])).length = (x :: acc).length + 1 := by simp
        conv => whnf
        repeat' first | ((refine Gets.appE1 (l := x :: acc) (x := { (a.es.getD j default) with marks := dualM a.kind a.marks M }) rfl rfl rfl rfl rfl (by decide) rfl rfl rfl (by omega) ?_); conv => whnf) | ((with_reducible refine Gets.addI ?_ ?_ ?_); (· omega); (· omega); conv => whnf) | (refine Gets.of _ rfl ?_; conv => whnf)
        exact ⟨(j + 1, x :: acc ++ [{ (a.es.getD j default) with marks := dualM a.kind a.marks M }]), renL [0, 1, 2, 3, 7] 8, ⟨hjl, hnx⟩, by show a.es.length - (j + 1) < _; omega, ⟨rfl, rfl, rfl, rfl, rfl, rfl, trivial⟩, EmbL.litsN [0, 1, 2, 3, 7] rfl rfl rfl rfl .nil (.cons ⟨rfl, .inl rfl⟩ (.cons ⟨rfl, .inl rfl⟩ (.cons ⟨rfl, rT rfl rfl e2⟩ (.cons ⟨rfl, .cellsI⟩ (.cons ⟨rfl, .cellsI⟩ .nil)))))⟩
    · obtain rfl : j = a.es.length := by omega
      rw [List.take_length, map_1 hk (by omega) (by omega)] at hacc
      have key : (dualG a).rv = (Au.mk a.props a.states a.start 3 (2 * a.marks) acc).rv := by rw [← hacc]; rfl
      rcases acc with _ | ⟨x, acc⟩
      · conv => whnf
        repeat' first | ((refine Gets.stA rfl rfl rfl rfl (by rfl) ?_); conv => whnf) | (refine Gets.of _ rfl ?_; conv => whnf) | (refine Fork.dec (fun _ => ?_) (fun _ => ?_) <;> first | (exfalso; omega) | (conv => whnf))
        exact ⟨[3], _, rfl, .tuple (.cons (.agg (.cons (.same rfl) (.cons (.same rfl) (.cons (frzI (l := a.start) rfl rfl rfl) (.cons (.same rfl) (.cons (.same rfl) (.cons .nil (.same rfl)))))))) (.same rfl)), rfl, congrArg (fun z => AVal.tuple [z, .int .i64 0]) key.symm⟩
      · conv => whnf
        repeat' first | ((refine Gets.stA rfl rfl rfl rfl (by rfl) ?_); conv => whnf) | (refine Gets.of _ rfl ?_; conv => whnf) | (refine Fork.dec (fun _ => ?_) (fun _ => ?_) <;> first | (exfalso; omega) | (conv => whnf))
        exact ⟨[3, 4], _, rfl, .tuple (.cons (.agg (.cons (.same rfl) (.cons (.same rfl) (.cons (frzI (l := a.start) rfl rfl rfl) (.cons (.same rfl) (.cons (.same rfl) (.cons (frzE (l := x :: acc) rfl rfl rfl) (.same rfl)))))))) (.same rfl)), rfl, congrArg (fun z => AVal.tuple [z, .int .i64 0]) key.symm⟩
  · rw [if_pos (show 40 < 2 * a.marks by omega)]
    exact errE 3
  · rw [if_neg (show ¬ 40 < 2 * a.marks by omega)]
    refine CodeS.loopGK (cuts := []) (σ := Nat × List Edg) (fun s => [(1, .ptr 0 0), (2, .ptr 1 0), (4, .ptr 2 0), (54, rE a.es), (55, .int .i64 (a.es.length : Int)), (56, .int .i64 (s.1 : Int))]) (fun s => rH a 3 (2 * a.marks) s.2) (fun s => s.1 ≤ a.es.length ∧ (a.es.take s.1).map (dE a) = s.2) (fun s => a.es.length - s.1) (0, []) (renL [0, 1, 2, 3, 4] 5) (by kernel_rfl) ⟨Nat.zero_le _, rfl⟩ ⟨rfl, rfl, rfl, rfl, rfl, rfl, trivial⟩ (EmbL.litsN [0, 1, 2, 3, 4] rfl rfl rfl rfl .nil (.cons ⟨rfl, .inl rfl⟩ (.cons ⟨rfl, .inl rfl⟩ (.cons ⟨rfl, rS rfl rfl rfl⟩ (.cons ⟨rfl, .cellsI⟩ (.cons ⟨rfl, .roE⟩ .nil)))))) ?_
    rintro ⟨j, acc⟩ ⟨hj, hacc⟩
    dsimp only at hj hacc ⊢
    rcases Nat.lt_or_ge j a.es.length with hjl | hjl
    · obtain ⟨M, hM, hM1, hM2, hM3⟩ := hk.mark hjl
      have hnx := map_take (f := dE a) hjl
      rw [hacc, show dE a (a.es.getD j default) = { (a.es.getD j default) with marks := dualM a.kind a.marks M } by unfold dE; rw [hM]; rfl] at hnx
      have hal : acc.length = j := by rw [← hacc, List.length_map, List.length_take, Nat.min_eq_left (by omega)]
      conv => whnf
      repeat' first | ((refine Gets.ixRE (es := 5) rfl (by kernel_rfl) (by omega) ?_); conv => whnf) | ((refine Gets.ldREM rfl rfl rfl rfl hjl hM ?_); conv => whnf) | (refine Gets.of _ rfl ?_; conv => whnf) | (refine Fork.dec (fun _ => ?_) (fun _ => ?_) <;> first | (exfalso; omega) | (conv => whnf))
      refine CallS.of (by kernel_rfl) (dual18 a.kind a.marks M hm0 hm1 (by omega) hM2 _) rfl ?_
      rintro _ _ ⟨rfl, rfl⟩
      rcases acc with _ | ⟨x, acc⟩
      · conv => whnf
        repeat' first | ((with_reducible refine Gets.addI ?_ ?_ ?_); (· omega); (· omega); conv => whnf) | (refine Gets.of _ rfl ?_; conv => whnf)
        exact ⟨(j + 1, [{ (a.es.getD j default) with marks := dualM a.kind a.marks M }]), renL [0, 1, 2, 3, 7] 8, ⟨hjl, hnx⟩, by show a.es.length - (j + 1) < _; omega, ⟨rfl, rfl, rfl, rfl, rfl, rfl, trivial⟩, EmbL.litsN [0, 1, 2, 3, 7] rfl rfl rfl rfl .nil (.cons ⟨rfl, .inl rfl⟩ (.cons ⟨rfl, .inl rfl⟩ (.cons ⟨rfl, rT rfl rfl rfl⟩ (.cons ⟨rfl, .cellsI⟩ (.cons ⟨rfl, .inl rfl⟩ .nil)))))⟩
      · have e2 : (x :: (acc ++ [{ (a.es.getD j default) with marks := dualM a.kind a.marks M }])).length = (x :: acc).length + 1 := by simp
        conv => whnf
        repeat' first | ((refine Gets.appE1 (l := x :: acc) (x := { (a.es.getD j default) with marks := dualM a.kind a.marks M }) rfl rfl rfl rfl rfl (by decide) rfl rfl rfl (by omega) ?_); conv => whnf) | ((with_reducible refine Gets.addI ?_ ?_ ?_); (· omega); (· omega); conv => whnf) | (refine Gets.of _ rfl ?_; conv => whnf)
        exact ⟨(j + 1, x :: acc ++ [{ (a.es.getD j default) with marks := dualM a.kind a.marks M }]), renL [0, 1, 2, 3, 7] 8, ⟨hjl, hnx⟩, by show a.es.length - (j + 1) < _; omega, ⟨rfl, rfl, rfl, rfl, rfl, rfl, trivial⟩, EmbL.litsN [0, 1, 2, 3, 7] rfl rfl rfl rfl .nil (.cons ⟨rfl, .inl rfl⟩ (.cons ⟨rfl, .inl rfl⟩ (.cons ⟨rfl, rT rfl rfl e2⟩ (.cons ⟨rfl, .cellsI⟩ (.cons ⟨rfl, .cellsI⟩ .nil)))))⟩
    · obtain rfl : j = a.es.length := by omega
      rw [List.take_length, map_1 hk (by omega) (by omega)] at hacc
      have key : (dualG a).rv = (Au.mk a.props a.states a.start 3 (2 * a.marks) acc).rv := by rw [← hacc]; rfl
      rcases acc with _ | ⟨x, acc⟩
      · conv => whnf
        repeat' first | ((refine Gets.stA rfl rfl rfl rfl (by rfl) ?_); conv => whnf) | (refine Gets.of _ rfl ?_; conv => whnf) | (refine Fork.dec (fun _ => ?_) (fun _ => ?_) <;> first | (exfalso; omega) | (conv => whnf))
        exact ⟨[3], _, rfl, .tuple (.cons (.agg (.cons (.same rfl) (.cons (.same rfl) (.cons (frzI (l := a.start) rfl rfl rfl) (.cons (.same rfl) (.cons (.same rfl) (.cons .nil (.same rfl)))))))) (.same rfl)), rfl, congrArg (fun z => AVal.tuple [z, .int .i64 0]) key.symm⟩
      · conv => whnf
        repeat' first | ((refine Gets.stA rfl rfl rfl rfl (by rfl) ?_); conv => whnf) | (refine Gets.of _ rfl ?_; conv => whnf) | (refine Fork.dec (fun _ => ?_) (fun _ => ?_) <;> first | (exfalso; omega) | (conv => whnf))
        exact ⟨[3, 4], _, rfl, .tuple (.cons (.agg (.cons (.same rfl) (.cons (.same rfl) (.cons (frzI (l := a.start) rfl rfl rfl) (.cons (.same rfl) (.cons (.same rfl) (.cons (frzE (l := x :: acc) rfl rfl rfl) (.same rfl)))))))) (.same rfl)), rfl, congrArg (fun z => AVal.tuple [z, .int .i64 0]) key.symm⟩
end Go.Proofs.Ytljedopidipabaa
