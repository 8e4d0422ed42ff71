/- Copy into own memory; the marks of the dual automaton. -/
import Derived.Test.YtaccmanpanpbiaaJm
import Derived.Test.YtaccmanpanpbiaaJk
-- VkG VkH VmA
set_option linter.unusedVariables false
set_option linter.unusedSimpArgs false
set_option maxRecDepth 100000
set_option maxHeartbeats 4000000
namespace Go.Proofs.Ytaccmanpanpbiaa
open Go Go.Vh Go.Vk Go.Proofs
theorem Au.Ok.mark {a : Au} (h : a.Ok) {j : Nat} (hj : j < a.es.length) : ∃ M : Nat, (a.es.getD j default).marks = (M : Int) ∧ M < 2 ^ a.marks.toNat ∧ M < 1099511627776 ∧ True := by
  obtain ⟨_, _, _, _, _, _, _, h1, h2⟩ := h.eg j hj
  obtain ⟨M, hM⟩ := Int.eq_ofNat_of_zero_le h1
  rw [hM] at h2
  have h3 : M < 2 ^ a.marks.toNat := Int.ofNat_lt.1 h2
  have h4 : 2 ^ a.marks.toNat ≤ 2 ^ 40 := Nat.pow_le_pow_right (by decide) (by have := h.mo.2.1; omega)
  exact ⟨M, hM, h3, by omega, trivial⟩
def kvM (e : Edg) (M : Nat) : AVal := .agg [.int .i64 e.fr, .int .i64 e.to, .int .i64 e.care, .int .i64 e.bits, .int .i64 (M : Int)]
theorem Gets.ldREM {P : Program} {H : AHeap} {t : TypeId} {ti : TI} {off j : Nat} {es : List Edg} {M : Nat} {A : AVal → Prop} (ht : tinfo P t = some ti) (hag : ti.agg = true) (hsz : ti.size = 5) (ho : off = j * 5) (h : j < es.length) (hM : (es.getD j default).marks = (M : Int)) (hA : A (kvM (es.getD j default) M)) : Gets (loadA P H t (.rptr (ints (flat es)) off)) A :=
  Gets.ldRE ht hag hsz ho h (by have : kvE (es.getD j default) = kvM (es.getD j default) M := by unfold kvE kvM; rw [hM]
                                rw [this]; exact hA)
theorem copyO (a : Au) (hns : a.start.length ≤ 4294967296) (hne : a.es.length ≤ 4294967296) (H : AHeap) : CallW Try.prog 73 [a.rv] H fun v H' => v = .agg [.int .i64 a.props, .int .i64 a.states, rI a.start, .int .i64 a.kind, .int .i64 a.marks, .slice H.n 0 a.es.length] ∧ H' = H.alloc (.cells 5 (ints (flat a.es))) := by
  have h : CallW Try.prog 73 [a.rv] emptyH fun v G' => ∃ bs, G' = emptyH.allocs bs ∧ (∀ b ∈ bs, b.fresh) ∧ (v = .agg [.int .i64 a.props, .int .i64 a.states, rI a.start, .int .i64 a.kind, .int .i64 a.marks, .slice 0 0 a.es.length] ∧ bs = [.cells 5 (ints (flat a.es))]) := by
    refine CallW.symRK (cuts := []) Try.func73 rfl (by kernel_rfl) ?_
    conv => whnf
    repeat' (refine Gets.of _ rfl ?_; conv => whnf)
    refine CallS.of (by kernel_rfl) (cloneR a.start hns _) rfl ?_
    rintro _ _ ⟨rfl, rfl⟩
    conv => whnf
    repeat' first | ((refine Gets.makeE (k := 5) rfl rfl (by decide) rfl (by decide) (by omega) (by omega) ?_); conv => whnf) | ((refine Gets.copyR (es := 5) (l := flat a.es) rfl rfl rfl (flat_length _) List.length_replicate ?_); conv => whnf) | ((refine Gets.stS rfl rfl rfl rfl rfl rfl ?_); conv => whnf) | (refine Gets.of _ rfl ?_; conv => whnf)
    exact ⟨renL [3] 4, .agg [.int .i64 a.props, .int .i64 a.states, rI a.start, .int .i64 a.kind, .int .i64 a.marks, .slice 0 0 a.es.length], emptyH.alloc (.cells 5 (ints (flat a.es))), EmbL.litsN [3] rfl rfl rfl rfl .nil (.cons ⟨rfl, .cellsI⟩ .nil), rfl, [.cells 5 (ints (flat a.es))], rfl, fun b hb => (by rcases List.mem_cons.1 hb with rfl | hb; exact trivial; cases hb), rfl, rfl⟩
  refine (CallW.allocsAt h [] (H := H) rfl .nil).mono ?_
  rintro v H' ⟨v', bs, ⟨rfl, rfl⟩, rfl, rfl⟩
  refine ⟨?_, ?_⟩
  · have e : fk [] H.n 0 = H.n := by unfold fk; rfl
    simp only [ren, rens, rI, e]
  · show (H.alloc (renB _ _)) = _
    simp only [renB, rens_ints]
/-- The first marks anew. -/
def updJ (f : Int → Int) (es : List Edg) (j : Nat) : List Edg := (es.take j).map (fun e => { e with marks := f e.marks }) ++ es.drop j
theorem updJ_length (f : Int → Int) (es : List Edg) (j : Nat) : (updJ f es j).length = es.length := by
  unfold updJ
  rw [List.length_append, List.length_map, List.length_take, List.length_drop]; omega
theorem flat_append (l m : List Edg) : flat (l ++ m) = flat l ++ flat m := by
  unfold flat; rw [List.flatMap_append]
theorem updJ_set (f : Int → Int) (es : List Edg) (j : Nat) (h : j < es.length) : (flat (updJ f es j)).set (j * 5 + 4) (f (es.getD j default).marks) = flat (updJ f es (j + 1)) := by
  have hd : es.drop j = es.getD j default :: es.drop (j + 1) := by
    rw [List.getD_eq_getElem?_getD, List.getElem?_eq_getElem h]; exact List.drop_eq_getElem_cons h
  have ht : es.take (j + 1) = es.take j ++ [es.getD j default] := by
    rw [List.getD_eq_getElem?_getD, List.getElem?_eq_getElem h]; exact List.take_succ_eq_append_getElem h
  have hl : (flat ((es.take j).map fun e => { e with marks := f e.marks })).length = j * 5 := by
    rw [flat_length, List.length_map, List.length_take, Nat.min_eq_left (by omega)]
  unfold updJ
  rw [hd, ht, List.map_append, List.append_assoc, flat_append, flat_append, List.set_append_right _ _ (by omega), hl, Nat.add_sub_cancel_left]
  rfl
theorem updJ_all (f : Int → Int) (es : List Edg) : updJ f es es.length = es.map fun e => { e with marks := f e.marks } := by
  unfold updJ
  rw [List.take_length, List.drop_length, List.append_nil]
def upI (m : Int) : Int := bitsA .or .i64 (shlA .i64 m 1) 1
theorem up32 (m : Int) (H : AHeap) : CallW Try.prog 180 [.int .i64 m] H fun v H' => H' = H ∧ v = .int .i64 (upI m) := by
  refine CallW.symK (cuts := []) Try.func180 rfl (by kernel_rfl) ?_
  conv => whnf
  repeat' (refine Gets.of _ rfl ?_; conv => whnf)
  exact ⟨rfl, rfl⟩
def dualU (a : Au) (m : Int) : Au := { a with kind := 5, marks := m, es := a.es.map fun e => { e with marks := upI e.marks } }
def dH (a : Au) (k m : Int) (es : List Edg) : AHeap := ((emptyH.alloc (.cells 1 [.int .i64 0, .int .i64 0, .nilSlice, .int .i64 0, .int .i64 0, .nilSlice])).alloc (.cells 1 [.int .i64 a.props, .int .i64 a.states, rI a.start, .int .i64 k, .int .i64 m, .slice 2 0 a.es.length])).alloc (.cells 5 (ints (flat es)))
theorem plain31 (a : Au) (hns : a.start.length ≤ 4294967296) (hne : a.es.length ≤ 4294967296) (m : Int) (H : AHeap) : CallW Try.prog 129 [a.rv, .int .i64 m, .func 180 [] []] H fun v H' => H' = H ∧ v = (dualU a m).rv := by
  refine CallW.pure ?_ rfl H
  refine CallW.symK (cuts := []) Try.func129 rfl (by kernel_rfl) ?_
  conv => whnf
  repeat' (refine Gets.of _ rfl ?_; conv => whnf)
  refine CallS.of (by kernel_rfl) (copyO a hns hne _) rfl ?_
  rintro _ _ ⟨rfl, rfl⟩
  conv => whnf
  repeat' first | ((refine Gets.stA rfl rfl rfl rfl (by rfl) ?_); conv => whnf) | (refine Gets.of _ rfl ?_; conv => whnf)
  refine CodeS.loopGK (cuts := []) (σ := Nat) (fun j => [(2, .func 180 [] []), (6, .ptr 0 0), (7, .ptr 1 0), (16, rE a.es), (17, .int .i64 (a.es.length : Int)), (18, .int .i64 (j : Int))]) (fun j => dH a 5 m (updJ upI a.es j)) (fun j => j ≤ a.es.length) (fun j => a.es.length - j) 0 (renL [1, 3, 2] 4) (by kernel_rfl) (Nat.zero_le _) ⟨rfl, rfl, rfl, rfl, rfl, rfl, trivial⟩ (EmbL.litsN [1, 3, 2] rfl rfl rfl rfl .nil (.cons ⟨rfl, .inl rfl⟩ (.cons ⟨rfl, .inl rfl⟩ (.cons ⟨rfl, .cellsI⟩ .nil)))) ?_
  intro j hj
  rcases Nat.lt_or_ge j a.es.length with hjl | hjl
  · have hset := updJ_set upI a.es j hjl
    have hln := updJ_length upI a.es j
    conv => whnf
    repeat' first | ((refine Gets.ixRE (es := 5) rfl (by kernel_rfl) (by omega) ?_); conv => whnf) | ((refine Gets.ldRE rfl rfl rfl rfl hjl ?_); conv => whnf) | (refine Gets.of _ rfl ?_; conv => whnf) | (refine Fork.dec (fun _ => ?_) (fun _ => ?_) <;> first | (exfalso; omega) | (conv => whnf))
    refine CodeS.drawT [1, 3] (.take 0 (.take 1 (.take 2 (.take 3 (.take 4 (.take 5 (.one 6 true (.take 7 (.take 8 (.one 9 false .done)))))))))) mixed (by kernel_rfl) (.cons ⟨rfl, trivial⟩ (.cons ⟨rfl, trivial⟩ .nil)) ?_
    conv => whnf
    repeat' (refine Gets.of _ rfl ?_; conv => whnf)
    refine CallPS.of (by kernel_rfl) (up32 _ _) rfl ?_
    rintro _ _ ⟨rfl, rfl⟩
    conv => whnf
    repeat' first | ((refine Gets.ixE (es := 5) rfl (by kernel_rfl) hjl ?_); conv => whnf) | (refine Chk.mk (by repeat first | exact .nil | refine .cons rfl ?_) ?_; conv => whnf)
    refine Gets.stI (off := j * 5 + 4) (l := flat (updJ upI a.es j)) rfl rfl (by rw [flat_length]; omega) ?_
    conv => whnf
    repeat' ((with_reducible refine Gets.addI ?_ ?_ ?_); (· omega); (· omega); conv => whnf)
    exact ⟨j + 1, renL [0, 1, 2] 4, hjl, by show a.es.length - (j + 1) < _; omega, ⟨rfl, rfl, rfl, rfl, rfl, rfl, trivial⟩, EmbL.litsN [0, 1, 2] rfl rfl rfl rfl .nil (.cons ⟨rfl, .inl rfl⟩ (.cons ⟨rfl, .inl rfl⟩ (.cons ⟨rfl, .cellsIe hset.symm⟩ .nil)))⟩
  · obtain rfl : j = a.es.length := by omega
    have hall := updJ_all upI a.es
    conv => whnf
    repeat' first | ((refine Gets.stA rfl rfl rfl rfl (by rfl) ?_); conv => whnf) | (refine Gets.of _ rfl ?_; conv => whnf) | (refine Fork.dec (fun _ => ?_) (fun _ => ?_) <;> first | (exfalso; omega) | (conv => whnf))
    refine ⟨[2], (dualU a m).rv, rfl, .agg (.cons (.same rfl) (.cons (.same rfl) (.cons (.same rfl) (.cons (.same rfl) (.cons (.same rfl) (.cons (frzE (l := a.es.map fun e => { e with marks := upI e.marks }) rfl ?_ ?_) (.same rfl))))))), rfl, rfl⟩
    · rw [← hall]; rfl
    · rw [List.length_map]
end Go.Proofs.Ytaccmanpanpbiaa

/- Dual, of the program. -/
-- VkG VkH VmA
set_option linter.unusedVariables false
set_option linter.unusedSimpArgs false
set_option maxRecDepth 100000
set_option maxHeartbeats 4000000
namespace Go.Proofs.Ytaccmanpanpbiaa
open Go Go.Vh Go.Vk Go.Proofs
theorem raised17 (a : Au) (hk : a.Ok) (H : AHeap) : CallW Try.prog 135 [a.rv] H fun v H' => H' = H ∧ v = .tuple [(if a.marks = 40 then errA else dualU a (a.marks + 1)).rv, .int .i64 (if a.marks = 40 then 3 else 0)] := by
  have hne := hk.ne
  have hns := start_len hk
  have hm0 := hk.mo.1
  have hm1 := hk.mo.2.1
  refine CallW.pure ?_ rfl H
  refine CallW.symK (cuts := []) Try.func135 rfl (by kernel_rfl) ?_
  conv => whnf
  repeat' first | ((with_reducible refine Gets.addI ?_ ?_ ?_); (· omega); (· omega); conv => whnf) | (refine Gets.of _ rfl ?_; conv => whnf) | (refine Fork.dec (fun _ => ?_) (fun _ => ?_) <;> first | (exfalso; omega) | (conv => whnf))
  · rw [if_pos (show a.marks = 40 by omega), if_pos (show a.marks = 40 by omega)]
    skip
    exact errE 3
  rw [if_neg (show ¬ a.marks = 40 by omega), if_neg (show ¬ a.marks = 40 by omega)]
  refine CallS.of (by kernel_rfl) (plain31 a (by omega) (by omega) (a.marks + 1) _) rfl ?_
  rintro _ _ ⟨rfl, rfl⟩
  conv => whnf
  repeat' ((refine Gets.stA rfl rfl rfl rfl (by rfl) ?_); conv => whnf)
  exact ⟨[], _, rfl, .same rfl, rfl, rfl⟩
def genP (M : Nat) : Nat → Int
  | 0 => 0
  | k + 1 => bitsA .or .i64 (genP M k) (shlA .i64 (bitsA .or .i64 ((M >>> k % 2 : Nat) : Int) 2) (2 * (k : Int)))
def genF (marks : Int) (m : Int) : Int := genP m.toNat marks.toNat
/-- The dual automaton, or an error. -/
def dualG (a : Au) : Au := { a with kind := 3, marks := 2 * a.marks, es := a.es.map fun e => { e with marks := genF a.marks e.marks } }
open Classical in
noncomputable def dualA (a : Au) : Au × Int := if a.Ok then
    if a.kind = 0 then ({ a with kind := 2 }, 0) else if a.kind = 2 then ({ a with kind := 0 }, 0) else if a.kind = 3 then ({ a with kind := 4 }, 0) else if a.kind = 4 then ({ a with kind := 3 }, 0)
    else if a.kind = 5 then (if a.marks = 40 then errA else dualU a (a.marks + 1), if a.marks = 40 then 3 else 0)
    else if 40 < 2 * a.marks then (errA, 3) else (dualG a, 0)
  else (errA, 1)
def boxA (a : Au) : ABlk := .cells 1 [.int .i64 a.props, .int .i64 a.states, rI a.start, .int .i64 a.kind, .int .i64 a.marks, rE a.es]
def zeroB : ABlk := .cells 1 [.int .i64 0, .int .i64 0, .nilSlice, .int .i64 0, .int .i64 0, .nilSlice]
def eH (a : Au) (es : List Edg) : AHeap := (((emptyH.alloc (boxA a)).alloc zeroB).alloc (.cells 1 [.int .i64 a.props, .int .i64 a.states, rI a.start, .int .i64 3, .int .i64 (2 * a.marks), .slice 3 0 a.es.length])).alloc (.cells 5 (ints (flat es)))
theorem dualR (a : Au) (hf : a.Fits) (H : AHeap) : CallW Try.prog 69 [a.rv] H fun v H' => H' = H ∧ v = .tuple [(dualA a).1.rv, .int .i64 (dualA a).2] := by
  refine CallW.pure ?_ rfl H
  refine CallW.symK (cuts := [7]) Try.func69 rfl (by kernel_rfl) ?_
  conv => whnf
  repeat' (refine Gets.of _ rfl ?_; conv => whnf)
  refine CallS.of (by kernel_rfl) (validA a hf _) rfl ?_
  rintro _ _ ⟨rfl, hk | hk⟩
  rotate_left
  · rw [dualA, if_neg hk]
    conv => whnf
    repeat' ((refine Gets.stA rfl rfl rfl rfl (by rfl) ?_); conv => whnf)
    exact errE 1
  have hne := hk.ne
  have hns := start_len hk
  have hm0 := hk.mo.1
  have hm1 := hk.mo.2.1
  have k0 := hk.k0
  have k5 := hk.k5
  rw [dualA, if_pos hk]
  conv => whnf
  repeat' (refine Gets.of _ rfl ?_; conv => whnf)
  refine CallS.of (by kernel_rfl) (copyO a (by omega) (by omega) _) rfl ?_
  rintro _ _ ⟨rfl, rfl⟩
  conv => whnf
  repeat' first | ((refine Gets.stA rfl rfl rfl rfl (by rfl) ?_); conv => whnf) | ((with_reducible refine Gets.mulI ?_ ?_ ?_); (· omega); (· omega); conv => whnf) | (refine Gets.of _ rfl ?_; conv => whnf) | (refine Fork.dec (fun _ => ?_) (fun _ => ?_) <;> first | (exfalso; omega) | (conv => whnf))
  · rw [if_pos (show a.kind = 0 by omega)]
    exact ⟨[2], _, rfl, .tuple (.cons (.agg (.cons (.same rfl) (.cons (.same rfl) (.cons (.same rfl) (.cons (.same rfl) (.cons (.same rfl) (.cons (frzE (l := a.es) rfl rfl rfl) (.same rfl)))))))) (.same rfl)), rfl, rfl⟩
  · rw [if_neg (show ¬ a.kind = 0 by omega), if_pos (show a.kind = 2 by omega)]
    exact ⟨[2], _, rfl, .tuple (.cons (.agg (.cons (.same rfl) (.cons (.same rfl) (.cons (.same rfl) (.cons (.same rfl) (.cons (.same rfl) (.cons (frzE (l := a.es) rfl rfl rfl) (.same rfl)))))))) (.same rfl)), rfl, rfl⟩
  · rw [if_neg (show ¬ a.kind = 0 by omega), if_neg (show ¬ a.kind = 2 by omega), if_pos (show a.kind = 3 by omega)]
    exact ⟨[2], _, rfl, .tuple (.cons (.agg (.cons (.same rfl) (.cons (.same rfl) (.cons (.same rfl) (.cons (.same rfl) (.cons (.same rfl) (.cons (frzE (l := a.es) rfl rfl rfl) (.same rfl)))))))) (.same rfl)), rfl, rfl⟩
  · rw [if_neg (show ¬ a.kind = 0 by omega), if_neg (show ¬ a.kind = 2 by omega), if_neg (show ¬ a.kind = 3 by omega), if_pos (show a.kind = 4 by omega)]
    exact ⟨[2], _, rfl, .tuple (.cons (.agg (.cons (.same rfl) (.cons (.same rfl) (.cons (.same rfl) (.cons (.same rfl) (.cons (.same rfl) (.cons (frzE (l := a.es) rfl rfl rfl) (.same rfl)))))))) (.same rfl)), rfl, rfl⟩
  · rw [if_neg (show ¬ a.kind = 0 by omega), if_neg (show ¬ a.kind = 2 by omega), if_neg (show ¬ a.kind = 3 by omega), if_neg (show ¬ a.kind = 4 by omega), if_pos (show a.kind = 5 by omega)]
    refine CallS.of (by kernel_rfl) (raised17 a hk _) rfl ?_
    rintro _ _ ⟨rfl, rfl⟩
    conv => whnf
    repeat' ((refine Gets.stA rfl rfl rfl rfl (by rfl) ?_); conv => whnf)
    exact ⟨[], _, rfl, .same rfl, rfl, rfl⟩
  · rw [if_neg (show ¬ a.kind = 0 by omega), if_neg (show ¬ a.kind = 2 by omega), if_neg (show ¬ a.kind = 3 by omega), if_neg (show ¬ a.kind = 4 by omega), if_neg (show ¬ a.kind = 5 by omega), if_pos (show 40 < 2 * a.marks by omega)]
    exact errE 3
  rw [if_neg (show ¬ a.kind = 0 by omega), if_neg (show ¬ a.kind = 2 by omega), if_neg (show ¬ a.kind = 3 by omega), if_neg (show ¬ a.kind = 4 by omega), if_neg (show ¬ a.kind = 5 by omega), if_neg (show ¬ 40 < 2 * a.marks by omega)]
  refine CodeS.cut (cuts := []) [(1, .ptr 0 0), (2, .ptr 1 0), (4, .ptr 2 0)] (eH a a.es) (by kernel_rfl) ?_ ?_
  · conv => whnf
    skip
    refine CodeS.drawT [0] (.take 0 (.take 3 (.two (.one 1 true (.take 2 (.one 4 false (.take 5 (.one 6 false .done))))) (.one 4 false (.one 1 false (.take 2 (.take 5 (.one 6 false .done)))))))) mixed (by kernel_rfl) (.cons ⟨rfl, trivial⟩ .nil) ?_
    conv => whnf
    repeat' first | ((with_reducible refine Gets.mulI ?_ ?_ ?_); (· omega); (· omega); conv => whnf) | (refine Gets.of _ rfl ?_; conv => whnf) | (refine Chk.mk (by repeat first | exact .nil | refine .cons rfl ?_) ?_; conv => whnf) | (refine Alls.mk ?_ ?_ <;> conv => whnf)
    all_goals exact ⟨renL [0, 1, 3, 2] 4, ⟨rfl, rfl, rfl, trivial⟩, EmbL.litsN [0, 1, 3, 2] rfl rfl rfl rfl .nil (.cons ⟨rfl, .inl rfl⟩ (.cons ⟨rfl, .inl rfl⟩ (.cons ⟨rfl, .inl rfl⟩ (.cons ⟨rfl, .cellsI⟩ .nil))))⟩
  conv => whnf
  repeat' (refine Gets.of _ rfl ?_; conv => whnf)
  refine CodeS.loopGK (cuts := []) (σ := Nat) (fun j => [(1, .ptr 0 0), (2, .ptr 1 0), (4, .ptr 2 0), (28, rE a.es), (29, .int .i64 (a.es.length : Int)), (30, .int .i64 (j : Int))]) (fun j => eH a (updJ (genF a.marks) a.es j)) (fun j => j ≤ a.es.length) (fun j => a.es.length - j) 0 (renL [0, 1, 2, 3] 4) (by kernel_rfl) (Nat.zero_le _) ⟨rfl, rfl, rfl, rfl, rfl, rfl, trivial⟩ (EmbL.litsN [0, 1, 2, 3] rfl rfl rfl rfl .nil (.cons ⟨rfl, .inl rfl⟩ (.cons ⟨rfl, .inl rfl⟩ (.cons ⟨rfl, .inl rfl⟩ (.cons ⟨rfl, .cellsI⟩ .nil))))) ?_
  intro j hj
  rcases Nat.lt_or_ge j a.es.length with hjl | hjl
  · have hset := updJ_set (genF a.marks) a.es j hjl
    have hln := updJ_length (genF a.marks) a.es j
    obtain ⟨M, hM, hM1, hM2, hM3⟩ := hk.mark hjl
    have hg : genF a.marks (a.es.getD j default).marks = genP M a.marks.toNat := by rw [hM]; rfl
    conv => whnf
    repeat' first | ((refine Gets.ixRE (es := 5) rfl (by kernel_rfl) (by omega) ?_); conv => whnf) | ((refine Gets.ldREM rfl rfl rfl rfl hjl hM ?_); conv => whnf) | (refine Gets.of _ rfl ?_; conv => whnf) | (refine Fork.dec (fun _ => ?_) (fun _ => ?_) <;> first | (exfalso; omega) | (conv => whnf))
    refine CodeS.loopGK (cuts := []) (σ := Nat) (fun k => [(1, .ptr 0 0), (2, .ptr 1 0), (4, .ptr 2 0), (5, .int .i64 (j : Int)), (6, .ptr 4 0), (7, .int .i64 (genP M k)), (28, rE a.es), (29, .int .i64 (a.es.length : Int)), (30, .int .i64 (j : Int)), (36, .int .i64 a.marks), (37, .int .i64 (k : Int))]) (fun k => (eH a (updJ (genF a.marks) a.es j)).alloc (.cells 1 [.int .i64 (a.es.getD j default).fr, .int .i64 (a.es.getD j default).to, .int .i64 (a.es.getD j default).care, .int .i64 (a.es.getD j default).bits, .int .i64 (M : Int)])) (fun k => (k : Int) ≤ a.marks) (fun k => a.marks.toNat - k) 0 (renL [0, 1, 2, 3, 4] 5) (by kernel_rfl) hm0 ⟨rfl, rfl, rfl, rfl, rfl, rfl, rfl, rfl, rfl, rfl, rfl, trivial⟩ (EmbL.litsN [0, 1, 2, 3, 4] rfl rfl rfl rfl .nil (.cons ⟨rfl, .inl rfl⟩ (.cons ⟨rfl, .inl rfl⟩ (.cons ⟨rfl, .inl rfl⟩ (.cons ⟨rfl, .cellsI⟩ (.cons ⟨rfl, .inl rfl⟩ .nil)))))) ?_
    intro k hk1
    rcases Int.lt_or_le (k : Int) a.marks with hkl | hkl
    · conv => whnf
      repeat' first | ((with_reducible refine Gets.shrN ?_ ?_); (· omega); conv => whnf) | ((with_reducible refine Gets.andOne ?_ ?_); (· first | omega | exact Nat.lt_of_le_of_lt (Nat.shiftRight_le _ _) (by omega)); conv => whnf) | ((with_reducible refine Gets.addI ?_ ?_ ?_); (· omega); (· omega); conv => whnf) | ((with_reducible refine Gets.mulI ?_ ?_ ?_); (· omega); (· omega); conv => whnf) | (refine Gets.of _ rfl ?_; conv => whnf) | (refine Fork.dec (fun _ => ?_) (fun _ => ?_) <;> first | (exfalso; omega) | (conv => whnf))
      refine ⟨k + 1, renL [0, 1, 2, 3, 4] 5, by omega, by omega, ⟨rfl, rfl, rfl, rfl, rfl, ?_, rfl, rfl, rfl, rfl, rfl, trivial⟩, EmbL.litsN [0, 1, 2, 3, 4] rfl rfl rfl rfl .nil (.cons ⟨rfl, .inl rfl⟩ (.cons ⟨rfl, .inl rfl⟩ (.cons ⟨rfl, .inl rfl⟩ (.cons ⟨rfl, .cellsI⟩ (.cons ⟨rfl, .inl rfl⟩ .nil)))))⟩
      refine (congrArg (AVal.int .i64) ?_ : AVal.int .i64 _ = AVal.int .i64 _)
      rfl
    · obtain hk2 : k = a.marks.toNat := by omega
      conv => whnf
      repeat' first | ((refine Gets.ixE (es := 5) rfl (by kernel_rfl) hjl ?_); conv => whnf) | (refine Gets.of _ rfl ?_; conv => whnf) | (refine Fork.dec (fun _ => ?_) (fun _ => ?_) <;> first | (exfalso; omega) | (conv => whnf))
      refine Gets.stI (off := j * 5 + 4) (l := flat (updJ (genF a.marks) a.es j)) rfl rfl (by rw [flat_length]; omega) ?_
      conv => whnf
      repeat' ((with_reducible refine Gets.addI ?_ ?_ ?_); (· omega); (· omega); conv => whnf)
      rw [hg, ← hk2] at hset
      exact ⟨j + 1, renL [0, 1, 2, 3] 5, hjl, by show a.es.length - (j + 1) < _; omega, ⟨rfl, rfl, rfl, rfl, rfl, rfl, trivial⟩, EmbL.litsN [0, 1, 2, 3] rfl rfl rfl rfl .nil (.cons ⟨rfl, .inl rfl⟩ (.cons ⟨rfl, .inl rfl⟩ (.cons ⟨rfl, .inl rfl⟩ (.cons ⟨rfl, .cellsIe hset.symm⟩ .nil))))⟩
  · obtain rfl : j = a.es.length := by omega
    have hall := updJ_all (genF a.marks) a.es
    conv => whnf
    repeat' first | ((refine Gets.stA rfl rfl rfl rfl (by rfl) ?_); conv => whnf) | (refine Gets.of _ rfl ?_; conv => whnf) | (refine Fork.dec (fun _ => ?_) (fun _ => ?_) <;> first | (exfalso; omega) | (conv => whnf))
    refine ⟨[3], _, rfl, .tuple (.cons (.agg (.cons (.same rfl) (.cons (.same rfl) (.cons (.same rfl) (.cons (.same rfl) (.cons (.same rfl) (.cons (frzE (l := a.es.map fun e => { e with marks := genF a.marks e.marks }) rfl ?_ ?_) (.same rfl)))))))) (.same rfl)), rfl, rfl⟩
    · rw [← hall]; rfl
    · rw [List.length_map]
end Go.Proofs.Ytaccmanpanpbiaa

/- The dual automaton has the other words. Plain. -/
-- VkG VkH VmA
set_option linter.unusedVariables false
set_option linter.unusedSimpArgs false
set_option maxRecDepth 100000
set_option maxHeartbeats 4000000
namespace Go.Proofs.Ytaccmanpanpbiaa
open Go Go.Vh Go.Vk Go.Vn Go.Proofs
open Classical
theorem shlNat {t k : Nat} (hk : k < 64) (h : t * 2 ^ k < 9223372036854775808) : shlA .i64 (t : Int) (k : Int) = ((t * 2 ^ k : Nat) : Int) := by
  unfold shlA
  rw [show min (k : Int).toNat (IntKind.bits .i64) = k from by show min (k : Int).toNat 64 = k; omega]
  have e : (t : Int) * 2 ^ k = ((t * 2 ^ k : Nat) : Int) := by simp
  rw [e]
  exact wrap_i64n (by omega)
theorem upN {M : Nat} (h : M < 2 ^ 60) : upI (M : Int) = ((2 * M + 1 : Nat) : Int) := by
  unfold upI
  rw [show shlA .i64 (M : Int) 1 = ((M * 2 ^ 1 : Nat) : Int) from shlNat (by decide) (by rw [Nat.pow_one]; omega), show (1 : Int) = ((1 : Nat) : Int) from rfl, Vh.orI (by omega) (by decide)]
  congr 1
  apply Nat.eq_of_testBit_eq
  intro j
  rw [Nat.testBit_or]
  rcases j with _ | j
  · simp
  · rw [Nat.testBit_succ, Nat.testBit_succ, Nat.testBit_succ, show M * 2 ^ 1 / 2 = M by omega, show (2 * M + 1) / 2 = M by omega]; simp
def gN (M : Nat) : Nat → Nat
  | 0 => 0
  | k + 1 => gN M k ||| (M >>> k % 2 ||| 2) <<< (2 * k)
theorem gN_lt (M : Nat) : ∀ k, gN M k < 2 ^ (2 * k)
  | 0 => Nat.one_pos
  | k + 1 => by
    have h1 := gN_lt M k
    have h2 : 2 ^ (2 * (k + 1)) = 2 ^ (2 * k) * 4 := by rw [Nat.mul_add, Nat.pow_add]
    have h3 : M >>> k % 2 ||| 2 < 4 := Nat.or_lt_two_pow (n := 2) (by have := Nat.mod_lt (M >>> k) (show 0 < 2 by decide); omega) (by decide)
    refine Nat.or_lt_two_pow (by omega) ?_
    rw [Nat.shiftLeft_eq, h2, Nat.mul_comm (2 ^ (2 * k))]
    exact Nat.mul_lt_mul_of_pos_right h3 (Nat.two_pow_pos _)
theorem genP_nat (M : Nat) : ∀ k, k ≤ 20 → genP M k = ((gN M k : Nat) : Int)
  | 0, _ => rfl
  | k + 1, h => by
    have h1 := genP_nat M k (by omega)
    have hlt := gN_lt M k
    have hlt2 := gN_lt M (k + 1)
    have h40 : 2 ^ (2 * (k + 1)) ≤ 2 ^ 40 := Nat.pow_le_pow_right (by decide) (by omega)
    have h41 : 2 ^ (2 * k) ≤ 2 ^ 40 := Nat.pow_le_pow_right (by decide) (by omega)
    have hm := Nat.mod_lt (M >>> k) (show 0 < 2 by decide)
    have h3 : M >>> k % 2 ||| 2 < 4 := Nat.or_lt_two_pow (n := 2) (by omega) (by decide)
    have h5 : (M >>> k % 2 ||| 2) * 2 ^ (2 * k) ≤ 4 * 2 ^ 40 := Nat.mul_le_mul (by omega) h41
    unfold genP gN
    rw [h1, show (2 : Int) = ((2 : Nat) : Int) from rfl, Vh.orI (m := M >>> k % 2) (by omega) (by decide), show ((2 : Nat) : Int) * (k : Int) = ((2 * k : Nat) : Int) from rfl, shlNat (by omega) (by omega), Vh.orI (by omega) (by omega), Nat.shiftLeft_eq]
theorem two_bits (M k j : Nat) : (M >>> k % 2 ||| 2).testBit j = (decide (j = 1) || (decide (j = 0) && M.testBit k)) := by
  have e : (M >>> k % 2).testBit j = (decide (j = 0) && M.testBit k) := by
    have h := Nat.testBit_mod_two_pow (M >>> k) 1 j
    rw [Nat.pow_one] at h
    rw [h, Nat.testBit_shiftRight]
    by_cases h0 : j = 0
    · subst h0; simp
    · rw [decide_eq_false (by omega), decide_eq_false h0]; rfl
  rw [Nat.testBit_or, e, show (2 : Nat) = 2 ^ 1 from rfl, Nat.testBit_two_pow]
  by_cases h1 : j = 1
  · subst h1; simp
  · rw [decide_eq_false h1, decide_eq_false (show ¬ 1 = j from fun h => h1 h.symm)]; simp
theorem gN_bit (M : Nat) : ∀ k j, (gN M k).testBit j = (decide (j < 2 * k) && (decide (j % 2 = 1) || M.testBit (j / 2)))
  | 0, j => by simp [gN]
  | k + 1, j => by
    unfold gN
    rw [Nat.testBit_or, gN_bit M k j, Nat.testBit_shiftLeft, two_bits]
    rcases Nat.lt_or_ge j (2 * k) with h | h
    · rw [decide_eq_true h, decide_eq_true (show j < 2 * (k + 1) by omega), decide_eq_false (show ¬ j ≥ 2 * k by omega)]; simp
    · rw [decide_eq_false (show ¬ j < 2 * k by omega), decide_eq_true h, Bool.false_and, Bool.false_or, Bool.true_and]
      by_cases h0 : j = 2 * k
      · subst h0
        rw [decide_eq_true (show 2 * k < 2 * (k + 1) by omega), show 2 * k - 2 * k = 0 by omega, show 2 * k % 2 = 0 by omega, show 2 * k / 2 = k by omega]; simp
      · by_cases h1 : j = 2 * k + 1
        · subst h1
          rw [decide_eq_true (show 2 * k + 1 < 2 * (k + 1) by omega), show 2 * k + 1 - 2 * k = 1 by omega, show (2 * k + 1) % 2 = 1 by omega]; simp
        · rw [decide_eq_false (show ¬ j < 2 * (k + 1) by omega), decide_eq_false (show ¬ j - 2 * k = 1 by omega), decide_eq_false (show ¬ j - 2 * k = 0 by omega)]; simp
/-- Edges marked anew. -/
theorem hasW_map {a b : Au} {w : Wo} {g : Edg → Edg} (hes : b.es = a.es.map g) (hst : b.start = a.start) (hg : ∀ e, (g e).fr = e.fr ∧ (g e).to = e.to ∧ (g e).care = e.care ∧ (g e).bits = e.bits) :
    HasW b w ↔ Lasso ⟨sysE.fr, sysE.to, fun e => (g e).marks.toNat⟩ a.es (fun e p => readsB e (w.let p) = true) (fun s => (s : Int) ∈ a.start) (AccK b.kind b.marks.toNat) := by
  have hrd : ∀ e l, readsB (g e) l = readsB e l := fun e l => by unfold readsB; rw [(hg e).2.2.1, (hg e).2.2.2]
  unfold HasW
  rw [hst]
  constructor
  · rintro ⟨s, u, q, v, h1, h2, h3, h4, h5⟩
    have hx : ∀ x, ∃ e, x ∈ b.es → e ∈ a.es ∧ g e = x := fun x => by
      by_cases h : x ∈ b.es
      · rw [hes] at h
        obtain ⟨e, he, h⟩ := List.mem_map.1 h
        exact ⟨e, fun _ => ⟨he, h⟩⟩
      · exact ⟨x, fun h' => absurd h' h⟩
    obtain ⟨f, hf⟩ := Classical.axiomOfChoice hx
    have hin : ∀ {s p t : Nat} {l : List Edg}, Run sysE b.es (fun e p => readsB e (w.let p) = true) s p l t → ∀ e ∈ l, e ∈ b.es := by
      intro s p t l h
      induction h with
      | nil _ _ => intro e he; cases he
      | cons he _ _ ih =>
        intro e h
        rcases List.mem_cons.1 h with rfl | h
        · exact he
        · exact ih e h
    have hmap : ∀ {s p t : Nat} {l : List Edg}, Run sysE b.es (fun e p => readsB e (w.let p) = true) s p l t → Run ⟨sysE.fr, sysE.to, fun e => (g e).marks.toNat⟩ a.es (fun e p => readsB e (w.let p) = true) s p (l.map f) t := by
      intro s p t l h
      refine Run.map (Y := sysE) (Z := ⟨sysE.fr, sysE.to, fun e => (g e).marks.toNat⟩) f (fun e he => ?_) h
      obtain ⟨k1, k2⟩ := hf e he
      refine ⟨k1, ?_, ?_, fun p hq => ?_⟩
      · show (f e).fr.toNat = e.fr.toNat
        rw [← (hg (f e)).1, k2]
      · show (f e).to.toNat = e.to.toNat
        rw [← (hg (f e)).2.1, k2]
      · rw [← hrd, k2]; exact hq
    refine ⟨s, u.map f, q, v.map f, h1, fun h => h2 (List.map_eq_nil_iff.1 h), hmap h3, fun m => ?_, ?_⟩
    · rw [List.length_map, List.length_map]; exact hmap (h4 m)
    · rw [marksE_map (Y := sysE) f v fun e he => ?_]
      · exact h5
      · show (g (f e)).marks.toNat = e.marks.toNat
        rw [(hf e (hin (h4 0) e he)).2]
  · refine Lasso.map g (fun e he => ⟨by rw [hes]; exact List.mem_map.2 ⟨e, he, rfl⟩, ?_, ?_, fun p hq => by rw [hrd]; exact hq⟩) fun e => rfl
    · show (g e).fr.toNat = e.fr.toNat
      rw [(hg e).1]
    · show (g e).to.toNat = e.to.toNat
      rw [(hg e).2.1]
theorem ok_marks {a : Au} (hk : a.Ok) {e : Edg} (he : e ∈ a.es) : ∃ M : Nat, e.marks = (M : Int) ∧ M < 2 ^ a.marks.toNat := by
  obtain ⟨j, hj, rfl⟩ := List.getElem_of_mem he
  have h1 := hk.eg j hj
  rw [List.getD_eq_getElem?_getD, List.getElem?_eq_getElem hj] at h1
  have h1 : a.EdgeOk a.es[j] := h1
  obtain ⟨_, _, _, _, _, _, _, h6, h7⟩ := h1
  exact ⟨a.es[j].marks.toNat, (Int.toNat_of_nonneg h6).symm, by omega⟩
/-- Valid, once kind and marks are. -/
theorem ok_map {a b : Au} (hk : a.Ok) {g : Edg → Edg} (hes : b.es = a.es.map g) (h1 : b.props = a.props) (h2 : b.states = a.states) (h3 : b.start = a.start) (h4 : 0 ≤ b.kind ∧ b.kind ≤ 5) (h5 : MarksOk b.kind b.marks) (hg : ∀ e ∈ a.es, (g e).fr = e.fr ∧ (g e).to = e.to ∧ (g e).care = e.care ∧ (g e).bits = e.bits ∧ 0 ≤ (g e).marks ∧ (g e).marks < ((2 ^ b.marks.toNat : Nat) : Int)) : b.Ok := by
  refine ⟨by rw [h1]; exact hk.p0, by rw [h1]; exact hk.p6, by rw [h2]; exact hk.s0, by rw [h2]; exact hk.s1, h4.1, h4.2, h5, by rw [hes, List.length_map]; exact hk.ne, fun j hj => ?_, fun j hj => ?_⟩
  · rw [h3] at hj
    have := hk.st j hj
    unfold Au.StartOk at this ⊢
    rw [h3, h2]; exact this
  · rw [hes, List.length_map] at hj
    have := hk.eg j hj
    have hm : a.es.getD j default = a.es[j] := by rw [List.getD_eq_getElem?_getD, List.getElem?_eq_getElem hj]; rfl
    have hm2 : b.es.getD j default = g a.es[j] := by rw [hes, List.getD_eq_getElem?_getD, List.getElem?_map, List.getElem?_eq_getElem hj]; rfl
    rw [hm] at this
    rw [hm2]
    obtain ⟨g1, g2, g3, g4, g5, g6⟩ := hg _ (List.getElem_mem hj)
    unfold Au.EdgeOk at this ⊢
    rw [g1, g2, g3, g4, h2, h1]
    obtain ⟨k1, k2, k3, k4, k5, k6, k7, _, _⟩ := this
    exact ⟨k1, k2, k3, k4, k5, k6, k7, g5, g6⟩
theorem okf {a b : Au} (hf : a.Fits) {g : Edg → Edg} (hes : b.es = a.es.map g) (hbits : ∀ e, (g e).bits = e.bits) (hk : b.Ok) : b.Ok ∧ b.Fits := by
  refine ⟨hk, by have := start_len hk; omega, by have := hk.ne; omega, fun e he x hx => ?_⟩
  have he0 := he
  rw [hes] at he
  obtain ⟨d, hd, rfl⟩ := List.mem_map.1 he
  have hs := hk.sm _ he0
  have h1 := hk.s1
  obtain ⟨f1, f2, t1, t2, m1, m2⟩ := hs
  obtain ⟨j, hj, hje⟩ := List.getElem_of_mem he0
  have h2 := hk.eg j hj
  rw [List.getD_eq_getElem?_getD, List.getElem?_eq_getElem hj] at h2
  have h2 : b.EdgeOk b.es[j] := h2
  rw [hje] at h2
  obtain ⟨_, _, _, _, c1, c2, _, _, _⟩ := h2
  have h64 : (2 ^ b.props.toNat : Nat) ≤ 64 := Nat.le_trans (Nat.pow_le_pow_right (by decide) (show b.props.toNat ≤ 6 by have := hk.p6; omega)) (by decide)
  have hb := hf.es d hd d.bits (by simp [Edg.l])
  have hm : (2 : Nat) ^ 62 = 4611686018427387904 := rfl
  unfold fits64 at hb ⊢
  unfold Edg.l at hx
  simp only [List.mem_cons, List.not_mem_nil, or_false] at hx
  rcases hx with rfl | rfl | rfl | rfl | rfl
  · omega
  · omega
  · omega
  · rw [hbits]; exact hb
  · omega
theorem like_map {a b : Au} (hk : a.Ok) (hb : b.Ok) {g : Edg → Edg} (hes : b.es = a.es.map g) (h2 : b.states = a.states) (h3 : b.start = a.start) (h4 : b.marks ≤ 40) : b.Like b := .refl hb
/-- **The dual of a small deterministic, complete automaton: valid, and with the other words.** -/
theorem dual_other {a : Au} (hf : a.Fits) (hk : a.Ok) (hm : a.marks ≤ 6) (h1 : a.OneP) (hw : a.WholeP) : ∃ b, dualA a = (b, 0) ∧ (b.Ok ∧ b.Fits) ∧ ∀ w : Wd, w.Ok a.props → (HasW b w.wo ↔ ¬ HasW a w.wo) := by
  have hm0 := hk.mo.1
  have k0 := hk.k0
  have k5 := hk.k5
  have hst : ∀ s t : Nat, (s : Int) ∈ a.start → (t : Int) ∈ a.start → s = t := by
    obtain ⟨x, hx⟩ := List.length_eq_one_iff.1 h1.1
    intro s t hs ht
    rw [hx, List.mem_singleton] at hs ht
    omega
  have hs0 : ∃ s : Nat, (s : Int) ∈ a.start := by
    obtain ⟨x, hx⟩ := List.length_eq_one_iff.1 h1.1
    have := start_in hk x (by rw [hx]; exact List.mem_singleton.2 rfl)
    exact ⟨x.toNat, by rw [hx, List.mem_singleton, Int.toNat_of_nonneg this.1]⟩
  have key : ∀ (b : Au) (g : Edg → Edg), b.es = a.es.map g → b.start = a.start → (∀ e, (g e).fr = e.fr ∧ (g e).to = e.to ∧ (g e).care = e.care ∧ (g e).bits = e.bits) → (∀ v : List Edg, v ≠ [] → (∀ e ∈ v, e ∈ a.es) → (AccK b.kind b.marks.toNat (marksE ⟨sysE.fr, sysE.to, fun e => (g e).marks.toNat⟩ v) ↔ ¬ AccK a.kind a.marks.toNat (marksE sysE v))) → ∀ w : Wd, w.Ok a.props → (HasW b w.wo ↔ ¬ HasW a w.wo) := by
    intro b g hes hsb hg hok w hwo
    rw [hasW_map hes hsb hg]
    exact las_other (g := sysE.mks) (det_of hf hk h1.2 hwo) hst (run_ex hk hs0 hw hwo) hok
  have idm : a.es = a.es.map fun e => e := (List.map_id' _).symm
  have okid : ∀ k, 0 ≤ k ∧ k ≤ 5 → MarksOk k a.marks → Au.Ok { a with kind := k } := fun k hk5 hmk => ok_map hk idm rfl rfl rfl hk5 hmk fun e he => by
    obtain ⟨M, e1, e2⟩ := ok_marks hk he
    exact ⟨rfl, rfl, rfl, rfl, by rw [e1]; omega, by show e.marks < _; rw [e1]; exact Int.ofNat_lt.2 e2⟩
  have hmo := hk.mo
  unfold MarksOk at hmo
  unfold dualA
  rw [if_pos hk]
  by_cases c0 : a.kind = 0
  · rw [if_pos c0]
    refine ⟨_, rfl, okf hf idm (fun _ => rfl) (okid 2 (by decide) (by unfold MarksOk; omega)), key _ (fun e => e) idm rfl (fun e => ⟨rfl, rfl, rfl, rfl⟩) fun v hv he => ?_⟩
    show AccK 2 a.marks.toNat (marksE sysE v) ↔ ¬ AccK a.kind a.marks.toNat (marksE sysE v)
    rw [c0]
    unfold AccK
    simp
  rw [if_neg c0]
  by_cases c2 : a.kind = 2
  · rw [if_pos c2]
    refine ⟨_, rfl, okf hf idm (fun _ => rfl) (okid 0 (by decide) (by unfold MarksOk; omega)), key _ (fun e => e) idm rfl (fun e => ⟨rfl, rfl, rfl, rfl⟩) fun v hv he => ?_⟩
    show AccK 0 a.marks.toNat (marksE sysE v) ↔ ¬ AccK a.kind a.marks.toNat (marksE sysE v)
    rw [c2]
    unfold AccK
    simp
  rw [if_neg c2]
  by_cases c3 : a.kind = 3
  · rw [if_pos c3]
    refine ⟨_, rfl, okf hf idm (fun _ => rfl) (okid 4 (by decide) (by unfold MarksOk; omega)), key _ (fun e => e) idm rfl (fun e => ⟨rfl, rfl, rfl, rfl⟩) fun v hv he => ?_⟩
    show AccK 4 a.marks.toNat (marksE sysE v) ↔ ¬ AccK a.kind a.marks.toNat (marksE sysE v)
    rw [c3]
    unfold AccK
    simp
  rw [if_neg c3]
  by_cases c4 : a.kind = 4
  · rw [if_pos c4]
    refine ⟨_, rfl, okf hf idm (fun _ => rfl) (okid 3 (by decide) (by unfold MarksOk; omega)), key _ (fun e => e) idm rfl (fun e => ⟨rfl, rfl, rfl, rfl⟩) fun v hv he => ?_⟩
    show AccK 3 a.marks.toNat (marksE sysE v) ↔ ¬ AccK a.kind a.marks.toNat (marksE sysE v)
    rw [c4]
    unfold AccK
    simp
  rw [if_neg c4]
  have h40 : 2 ^ a.marks.toNat ≤ 2 ^ 6 := Nat.pow_le_pow_right (by decide) (by omega)
  by_cases c5 : a.kind = 5
  · rw [if_pos c5, if_neg (by omega), if_neg (by omega)]
    have hup : ∀ e ∈ a.es, ∃ M : Nat, e.marks = (M : Int) ∧ M < 2 ^ a.marks.toNat ∧ upI e.marks = ((2 * M + 1 : Nat) : Int) := fun e he => by
      obtain ⟨M, e1, e2⟩ := ok_marks hk he
      exact ⟨M, e1, e2, by rw [e1, upN (by omega)]⟩
    have hmm : (a.marks + 1).toNat = a.marks.toNat + 1 := by omega
    refine ⟨_, rfl, okf hf (g := (fun e => { e with marks := upI e.marks })) rfl (fun _ => rfl) (ok_map hk rfl rfl rfl rfl (by show (0 : Int) ≤ 5 ∧ (5 : Int) ≤ 5; decide) (by show MarksOk 5 (a.marks + 1); unfold MarksOk; omega) (fun e he => ?_)), key _ (fun e => { e with marks := upI e.marks }) rfl rfl (fun e => ⟨rfl, rfl, rfl, rfl⟩) fun v hv he => ?_⟩
    · obtain ⟨M, e1, e2, e3⟩ := hup e he
      refine ⟨rfl, rfl, rfl, rfl, ?_, ?_⟩
      · show 0 ≤ upI e.marks; rw [e3]; omega
      · show upI e.marks < ((2 ^ (a.marks + 1).toNat : Nat) : Int)
        rw [e3, hmm, Nat.pow_succ]; omega
    · show AccK 5 (a.marks + 1).toNat (marksE ⟨sysE.fr, sysE.to, fun e => (upI e.marks).toNat⟩ v) ↔ ¬ AccK a.kind a.marks.toNat (marksE sysE v)
      rw [c5, hmm]
      have b0 : (marksE ⟨sysE.fr, sysE.to, fun e => (upI e.marks).toNat⟩ v).testBit 0 = true := by
        obtain ⟨x, l, rfl⟩ := List.exists_cons_of_ne_nil hv
        refine (marksE_bit _ _).2 ⟨x, List.mem_cons_self .., ?_⟩
        obtain ⟨M, e1, e2, e3⟩ := hup x (he x (List.mem_cons_self ..))
        show (upI x.marks).toNat.testBit 0 = true
        rw [e3, Int.toNat_natCast, Nat.testBit_zero]; simp
      have bs : ∀ b, (marksE ⟨sysE.fr, sysE.to, fun e => (upI e.marks).toNat⟩ v).testBit (b + 1) = (marksE sysE v).testBit b := fun b => by
        rw [Bool.eq_iff_iff, marksE_bit, marksE_bit]
        have : ∀ e ∈ v, (upI e.marks).toNat.testBit (b + 1) = e.marks.toNat.testBit b := fun e hev => by
          obtain ⟨M, e1, e2, e3⟩ := hup e (he e hev)
          rw [e3, e1, Int.toNat_natCast, Int.toNat_natCast, Nat.testBit_succ, show (2 * M + 1) / 2 = M by omega]
        constructor
        · rintro ⟨e, h, h'⟩; exact ⟨e, h, by show e.marks.toNat.testBit b = true; rw [← this e h]; exact h'⟩
        · rintro ⟨e, h, h'⟩; exact ⟨e, h, by show (upI e.marks).toNat.testBit (b + 1) = true; rw [this e h]; exact h'⟩
      generalize marksE ⟨sysE.fr, sysE.to, fun e => (upI e.marks).toNat⟩ v = I' at b0 bs
      generalize marksE sysE v = I at bs
      generalize a.marks.toNat = mk
      have u : ∀ (mk I : Nat), AccK 5 mk I ↔ ∃ m, m < mk ∧ m % 2 = 0 ∧ I.testBit m = true ∧ ∀ b, m < b → b < mk → I.testBit b = false := fun mk I => by unfold AccK; simp
      rw [u, u]
      constructor
      · rintro ⟨m, q1, q2, q3, q4⟩ ⟨m', r1, r2, r3, r4⟩
        have e : m = m' + 1 := by
          rcases Nat.lt_trichotomy m (m' + 1) with h | h | h
          · have := q4 (m' + 1) h (by omega); rw [bs, r3] at this; cases this
          · exact h
          · obtain ⟨m2, rfl⟩ : ∃ m2, m = m2 + 1 := ⟨m - 1, by omega⟩
            rw [bs] at q3
            rw [r4 m2 (by omega) (by omega)] at q3; cases q3
        omega
      · intro hn
        rcases top_or I mk with h | ⟨m, q1, q2, q3⟩
        · refine ⟨0, by omega, rfl, b0, fun b h1 h2 => ?_⟩
          obtain ⟨b2, rfl⟩ : ∃ b2, b = b2 + 1 := ⟨b - 1, by omega⟩
          rw [bs]; exact h b2 (by omega)
        · rcases Nat.mod_two_eq_zero_or_one m with h | h
          · exact absurd ⟨m, q1, h, q2, q3⟩ hn
          · refine ⟨m + 1, by omega, by omega, by rw [bs]; exact q2, fun b h1 h2 => ?_⟩
            obtain ⟨b2, rfl⟩ : ∃ b2, b = b2 + 1 := ⟨b - 1, by omega⟩
            rw [bs]; exact q3 b2 (by omega) (by omega)
  · have c1 : a.kind = 1 := by omega
    rw [if_neg c5, if_neg (by omega)]
    have hup : ∀ e ∈ a.es, ∃ M : Nat, e.marks = (M : Int) ∧ M < 2 ^ a.marks.toNat ∧ genF a.marks e.marks = ((gN M a.marks.toNat : Nat) : Int) := fun e he => by
      obtain ⟨M, e1, e2⟩ := ok_marks hk he
      exact ⟨M, e1, e2, by unfold genF; rw [e1, Int.toNat_natCast, genP_nat M _ (by omega)]⟩
    have hmm : (2 * a.marks).toNat = 2 * a.marks.toNat := by omega
    refine ⟨_, rfl, okf hf (g := (fun e => { e with marks := genF a.marks e.marks })) rfl (fun _ => rfl) (ok_map hk rfl rfl rfl rfl (by show (0 : Int) ≤ 3 ∧ (3 : Int) ≤ 5; decide) (by show MarksOk 3 (2 * a.marks); unfold MarksOk; omega) (fun e he => ?_)), key _ (fun e => { e with marks := genF a.marks e.marks }) rfl rfl (fun e => ⟨rfl, rfl, rfl, rfl⟩) fun v hv he => ?_⟩
    · obtain ⟨M, e1, e2, e3⟩ := hup e he
      have := gN_lt M a.marks.toNat
      refine ⟨rfl, rfl, rfl, rfl, ?_, ?_⟩
      · show 0 ≤ genF a.marks e.marks; rw [e3]; omega
      · show genF a.marks e.marks < ((2 ^ (2 * a.marks).toNat : Nat) : Int)
        rw [e3, hmm]; omega
    · show AccK 3 (2 * a.marks).toNat (marksE ⟨sysE.fr, sysE.to, fun e => (genF a.marks e.marks).toNat⟩ v) ↔ ¬ AccK a.kind a.marks.toNat (marksE sysE v)
      rw [c1, hmm]
      have hb : ∀ e ∈ v, ∀ j, (genF a.marks e.marks).toNat.testBit j = (decide (j < 2 * a.marks.toNat) && (decide (j % 2 = 1) || e.marks.toNat.testBit (j / 2))) := fun e hev j => by
        obtain ⟨M, e1, e2, e3⟩ := hup e (he e hev)
        rw [e3, e1, Int.toNat_natCast, Int.toNat_natCast, gN_bit]
      have bo : ∀ p, p < a.marks.toNat → (marksE ⟨sysE.fr, sysE.to, fun e => (genF a.marks e.marks).toNat⟩ v).testBit (2 * p + 1) = true := fun p hp => by
        obtain ⟨x, l, rfl⟩ := List.exists_cons_of_ne_nil hv
        refine (marksE_bit _ _).2 ⟨x, List.mem_cons_self .., ?_⟩
        show (genF a.marks x.marks).toNat.testBit (2 * p + 1) = true
        rw [hb x (List.mem_cons_self ..), decide_eq_true (show 2 * p + 1 < 2 * a.marks.toNat by omega), decide_eq_true (show (2 * p + 1) % 2 = 1 by omega)]; rfl
      have be : ∀ p, p < a.marks.toNat → (marksE ⟨sysE.fr, sysE.to, fun e => (genF a.marks e.marks).toNat⟩ v).testBit (2 * p) = (marksE sysE v).testBit p := fun p hp => by
        rw [Bool.eq_iff_iff, marksE_bit, marksE_bit]
        have : ∀ e ∈ v, (genF a.marks e.marks).toNat.testBit (2 * p) = e.marks.toNat.testBit p := fun e hev => by
          rw [hb e hev, decide_eq_true (show 2 * p < 2 * a.marks.toNat by omega), decide_eq_false (show ¬ 2 * p % 2 = 1 by omega), show 2 * p / 2 = p by omega]; rfl
        constructor
        · rintro ⟨e, h, h'⟩; exact ⟨e, h, by show e.marks.toNat.testBit p = true; rw [← this e h]; exact h'⟩
        · rintro ⟨e, h, h'⟩; exact ⟨e, h, by show (genF a.marks e.marks).toNat.testBit (2 * p) = true; rw [this e h]; exact h'⟩
      generalize marksE ⟨sysE.fr, sysE.to, fun e => (genF a.marks e.marks).toNat⟩ v = I' at bo be
      generalize marksE sysE v = I at be
      generalize a.marks.toNat = mk at bo be
      have u3 : AccK 3 (2 * mk) I' ↔ ¬ Str mk I' := by
        unfold AccK
        rw [if_neg (by decide), if_neg (by decide), if_neg (by decide), if_pos rfl, show (2 * mk + 1) / 2 = mk by omega]
      have u1 : AccK 1 mk I ↔ ∀ b, b < mk → I.testBit b = true := by unfold AccK; simp
      rw [u3, u1]
      refine not_congr ⟨fun h b hb => by rw [← be b hb]; exact h b hb (bo b hb), fun h p hp _ => by rw [be p hp]; exact h p hp⟩
end Go.Proofs.Ytaccmanpanpbiaa
