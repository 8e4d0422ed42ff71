/- Dual, of the program. -/
import Derived.Test.YtljedopidipabaaIdu
-- VkG VkH VmA
set_option linter.unusedVariables false
set_option linter.unusedSimpArgs false
set_option maxRecDepth 100000
set_option maxHeartbeats 4000000
namespace Go.Proofs.Ytljedopidipabaa
open Go Go.Vh Go.Vk Go.Proofs
theorem raised17 (a : Au) (hk : a.Ok) (H : AHeap) : CallW Try.prog 17 [a.rv] H fun v H' => H' = H ∧ v = .tuple [(if a.marks = 40 then errA else dualU a (a.marks + 1)).rv, .int .i64 (if a.marks = 40 then 3 else 0)] := by
  have hne := hk.ne
  have hns := start_len hk
  have hm0 := hk.mo.1
  have hm1 := hk.mo.2.1
  refine CallW.pure ?_ rfl H
  refine CallW.symK (cuts := []) Try.func17 rfl (by kernel_rfl) ?_
  conv => whnf
  repeat' first | ((with_reducible refine Gets.addI ?_ ?_ ?_); (· omega); (· omega); conv => whnf) | (refine Gets.of _ rfl ?_; conv => whnf) | (refine Fork.dec (fun _ => ?_) (fun _ => ?_) <;> first | (exfalso; omega) | (conv => whnf))
  · rw [if_pos (show a.marks = 40 by omega), if_pos (show a.marks = 40 by omega)]
    skip
    exact errE 3
  rw [if_neg (show ¬ a.marks = 40 by omega), if_neg (show ¬ a.marks = 40 by omega)]
  refine CallS.of (by kernel_rfl) (plain31 a (by omega) (by omega) (a.marks + 1) _) rfl ?_
  rintro _ _ ⟨rfl, rfl⟩
  conv => whnf
  repeat' ((refine Gets.stA rfl rfl rfl rfl (by rfl) ?_); conv => whnf)
  exact ⟨[], _, rfl, .same rfl, rfl, rfl⟩
def genP (M : Nat) : Nat → Int
  | 0 => 0
  | k + 1 => bitsA .or .i64 (genP M k) (shlA .i64 (bitsA .or .i64 ((M >>> k % 2 : Nat) : Int) 2) (2 * (k : Int)))
def genF (marks : Int) (m : Int) : Int := genP m.toNat marks.toNat
/-- The dual automaton, or an error. -/
def dualG (a : Au) : Au := { a with kind := 3, marks := 2 * a.marks, es := a.es.map fun e => { e with marks := genF a.marks e.marks } }
open Classical in
noncomputable def dualA (a : Au) : Au × Int := if a.Ok then
    if a.kind = 0 then ({ a with kind := 2 }, 0) else if a.kind = 2 then ({ a with kind := 0 }, 0) else if a.kind = 3 then ({ a with kind := 4 }, 0) else if a.kind = 4 then ({ a with kind := 3 }, 0)
    else if a.kind = 5 then (if a.marks = 40 then errA else dualU a (a.marks + 1), if a.marks = 40 then 3 else 0)
    else if 40 < 2 * a.marks then (errA, 3) else (dualG a, 0)
  else (errA, 1)
def boxA (a : Au) : ABlk := .cells 1 [.int .i64 a.props, .int .i64 a.states, rI a.start, .int .i64 a.kind, .int .i64 a.marks, rE a.es]
def zeroB : ABlk := .cells 1 [.int .i64 0, .int .i64 0, .nilSlice, .int .i64 0, .int .i64 0, .nilSlice]
def eH (a : Au) (es : List Edg) : AHeap := (((emptyH.alloc (boxA a)).alloc zeroB).alloc (.cells 1 [.int .i64 a.props, .int .i64 a.states, rI a.start, .int .i64 3, .int .i64 (2 * a.marks), .slice 3 0 a.es.length])).alloc (.cells 5 (ints (flat es)))
theorem dualR (a : Au) (hf : a.Fits) (H : AHeap) : CallW Try.prog 6 [a.rv] H fun v H' => H' = H ∧ v = .tuple [(dualA a).1.rv, .int .i64 (dualA a).2] := by
  refine CallW.pure ?_ rfl H
  refine CallW.symK (cuts := [7]) Try.func6 rfl (by kernel_rfl) ?_
  conv => whnf
  repeat' (refine Gets.of _ rfl ?_; conv => whnf)
  refine CallS.of (by kernel_rfl) (validA a hf _) rfl ?_
  rintro _ _ ⟨rfl, hk | hk⟩
  rotate_left
  · rw [dualA, if_neg hk]
    conv => whnf
    repeat' ((refine Gets.stA rfl rfl rfl rfl (by rfl) ?_); conv => whnf)
    exact errE 1
  have hne := hk.ne
  have hns := start_len hk
  have hm0 := hk.mo.1
  have hm1 := hk.mo.2.1
  have k0 := hk.k0
  have k5 := hk.k5
  rw [dualA, if_pos hk]
  conv => whnf
  repeat' (refine Gets.of _ rfl ?_; conv => whnf)
  refine CallS.of (by kernel_rfl) (copyO a (by omega) (by omega) _) rfl ?_
  rintro _ _ ⟨rfl, rfl⟩
  conv => whnf
  repeat' first | ((refine Gets.stA rfl rfl rfl rfl (by rfl) ?_); conv => whnf) | ((with_reducible refine Gets.mulI ?_ ?_ ?_); (· omega); (· omega); conv => whnf) | (refine Gets.of _ rfl ?_; conv => whnf) | (refine Fork.dec (fun _ => ?_) (fun _ => ?_) <;> first | (exfalso; omega) | (conv => whnf))
  · rw [if_pos (show a.kind = 0 by omega)]
    exact ⟨[2], _, rfl, .tuple (.cons (.agg (.cons (.same rfl) (.cons (.same rfl) (.cons (.same rfl) (.cons (.same rfl) (.cons (.same rfl) (.cons (frzE (l := a.es) rfl rfl rfl) (.same rfl)))))))) (.same rfl)), rfl, rfl⟩
  · rw [if_neg (show ¬ a.kind = 0 by omega), if_pos (show a.kind = 2 by omega)]
    exact ⟨[2], _, rfl, .tuple (.cons (.agg (.cons (.same rfl) (.cons (.same rfl) (.cons (.same rfl) (.cons (.same rfl) (.cons (.same rfl) (.cons (frzE (l := a.es) rfl rfl rfl) (.same rfl)))))))) (.same rfl)), rfl, rfl⟩
  · rw [if_neg (show ¬ a.kind = 0 by omega), if_neg (show ¬ a.kind = 2 by omega), if_pos (show a.kind = 3 by omega)]
    exact ⟨[2], _, rfl, .tuple (.cons (.agg (.cons (.same rfl) (.cons (.same rfl) (.cons (.same rfl) (.cons (.same rfl) (.cons (.same rfl) (.cons (frzE (l := a.es) rfl rfl rfl) (.same rfl)))))))) (.same rfl)), rfl, rfl⟩
  · rw [if_neg (show ¬ a.kind = 0 by omega), if_neg (show ¬ a.kind = 2 by omega), if_neg (show ¬ a.kind = 3 by omega), if_pos (show a.kind = 4 by omega)]
    exact ⟨[2], _, rfl, .tuple (.cons (.agg (.cons (.same rfl) (.cons (.same rfl) (.cons (.same rfl) (.cons (.same rfl) (.cons (.same rfl) (.cons (frzE (l := a.es) rfl rfl rfl) (.same rfl)))))))) (.same rfl)), rfl, rfl⟩
  · rw [if_neg (show ¬ a.kind = 0 by omega), if_neg (show ¬ a.kind = 2 by omega), if_neg (show ¬ a.kind = 3 by omega), if_neg (show ¬ a.kind = 4 by omega), if_pos (show a.kind = 5 by omega)]
    refine CallS.of (by kernel_rfl) (raised17 a hk _) rfl ?_
    rintro _ _ ⟨rfl, rfl⟩
    conv => whnf
    repeat' ((refine Gets.stA rfl rfl rfl rfl (by rfl) ?_); conv => whnf)
    exact ⟨[], _, rfl, .same rfl, rfl, rfl⟩
  · rw [if_neg (show ¬ a.kind = 0 by omega), if_neg (show ¬ a.kind = 2 by omega), if_neg (show ¬ a.kind = 3 by omega), if_neg (show ¬ a.kind = 4 by omega), if_neg (show ¬ a.kind = 5 by omega), if_pos (show 40 < 2 * a.marks by omega)]
    exact errE 3
  rw [if_neg (show ¬ a.kind = 0 by omega), if_neg (show ¬ a.kind = 2 by omega), if_neg (show ¬ a.kind = 3 by omega), if_neg (show ¬ a.kind = 4 by omega), if_neg (show ¬ a.kind = 5 by omega), if_neg (show ¬ 40 < 2 * a.marks by omega)]
  refine CodeS.cut (cuts := []) [(1, .ptr 0 0), (2, .ptr 1 0), (4, .ptr 2 0)] (eH a a.es) (by kernel_rfl) ?_ ?_
  · conv => whnf
    skip
    refine CodeS.drawT [0] (.take 0 (.take 3 (.two (.one 1 true (.take 2 (.one 4 false (.take 5 (.one 6 false .done))))) (.one 4 false (.one 1 false (.take 2 (.take 5 (.one 6 false .done)))))))) mixed (by kernel_rfl) (.cons ⟨rfl, trivial⟩ .nil) ?_
    conv => whnf
    repeat' first | ((with_reducible refine Gets.mulI ?_ ?_ ?_); (· omega); (· omega); conv => whnf) | (refine Gets.of _ rfl ?_; conv => whnf) | (refine Chk.mk (by repeat first | exact .nil | refine .cons rfl ?_) ?_; conv => whnf) | (refine Alls.mk ?_ ?_ <;> conv => whnf)
    all_goals exact ⟨renL [0, 1, 3, 2] 4, ⟨rfl, rfl, rfl, trivial⟩, EmbL.litsN [0, 1, 3, 2] rfl rfl rfl rfl .nil (.cons ⟨rfl, .inl rfl⟩ (.cons ⟨rfl, .inl rfl⟩ (.cons ⟨rfl, .inl rfl⟩ (.cons ⟨rfl, .cellsI⟩ .nil))))⟩
  conv => whnf
  repeat' (refine Gets.of _ rfl ?_; conv => whnf)
  refine CodeS.loopGK (cuts := []) (σ := Nat) (fun j => [(1, .ptr 0 0), (2, .ptr 1 0), (4, .ptr 2 0), (28, rE a.es), (29, .int .i64 (a.es.length : Int)), (30, .int .i64 (j : Int))]) (fun j => eH a (updJ (genF a.marks) a.es j)) (fun j => j ≤ a.es.length) (fun j => a.es.length - j) 0 (renL [0, 1, 2, 3] 4) (by kernel_rfl) (Nat.zero_le _) ⟨rfl, rfl, rfl, rfl, rfl, rfl, trivial⟩ (EmbL.litsN [0, 1, 2, 3] rfl rfl rfl rfl .nil (.cons ⟨rfl, .inl rfl⟩ (.cons ⟨rfl, .inl rfl⟩ (.cons ⟨rfl, .inl rfl⟩ (.cons ⟨rfl, .cellsI⟩ .nil))))) ?_
  intro j hj
  rcases Nat.lt_or_ge j a.es.length with hjl | hjl
  · have hset := updJ_set (genF a.marks) a.es j hjl
    have hln := updJ_length (genF a.marks) a.es j
    obtain ⟨M, hM, hM1, hM2, hM3⟩ := hk.mark hjl
    have hg : genF a.marks (a.es.getD j default).marks = genP M a.marks.toNat := by rw [hM]; rfl
    conv => whnf
    repeat' first | ((refine Gets.ixRE (es := 5) rfl (by kernel_rfl) (by omega) ?_); conv => whnf) | ((refine Gets.ldREM rfl rfl rfl rfl hjl hM ?_); conv => whnf) | (refine Gets.of _ rfl ?_; conv => whnf) | (refine Fork.dec (fun _ => ?_) (fun _ => ?_) <;> first | (exfalso; omega) | (conv => whnf))
    refine CodeS.loopGK (cuts := []) (σ := Nat) (fun k => [(1, .ptr 0 0), (2, .ptr 1 0), (4, .ptr 2 0), (5, .int .i64 (j : Int)), (6, .ptr 4 0), (7, .int .i64 (genP M k)), (28, rE a.es), (29, .int .i64 (a.es.length : Int)), (30, .int .i64 (j : Int)), (36, .int .i64 a.marks), (37, .int .i64 (k : Int))]) (fun k => (eH a (updJ (genF a.marks) a.es j)).alloc (.cells 1 [.int .i64 (a.es.getD j default).fr, .int .i64 (a.es.getD j default).to, .int .i64 (a.es.getD j default).care, .int .i64 (a.es.getD j default).bits, .int .i64 (M : Int)])) (fun k => (k : Int) ≤ a.marks) (fun k => a.marks.toNat - k) 0 (renL [0, 1, 2, 3, 4] 5) (by kernel_rfl) hm0 ⟨rfl, rfl, rfl, rfl, rfl, rfl, rfl, rfl, rfl, rfl, rfl, trivial⟩ (EmbL.litsN [0, 1, 2, 3, 4] rfl rfl rfl rfl .nil (.cons ⟨rfl, .inl rfl⟩ (.cons ⟨rfl, .inl rfl⟩ (.cons ⟨rfl, .inl rfl⟩ (.cons ⟨rfl, .cellsI⟩ (.cons ⟨rfl, .inl rfl⟩ .nil)))))) ?_
    intro k hk1
    rcases Int.lt_or_le (k : Int) a.marks with hkl | hkl
    · conv => whnf
      repeat' first | ((with_reducible refine Gets.shrN ?_ ?_); (· omega); conv => whnf) | ((with_reducible refine Gets.andOne ?_ ?_); (· first | omega | exact Nat.lt_of_le_of_lt (Nat.shiftRight_le _ _) (by omega)); conv => whnf) | ((with_reducible refine Gets.addI ?_ ?_ ?_); (· omega); (· omega); conv => whnf) | ((with_reducible refine Gets.mulI ?_ ?_ ?_); (· omega); (· omega); conv => whnf) | (refine Gets.of _ rfl ?_; conv => whnf) | (refine Fork.dec (fun _ => ?_) (fun _ => ?_) <;> first | (exfalso; omega) | (conv => whnf))
      refine ⟨k + 1, renL [0, 1, 2, 3, 4] 5, by omega, by omega, ⟨rfl, rfl, rfl, rfl, rfl, ?_, rfl, rfl, rfl, rfl, rfl, trivial⟩, EmbL.litsN [0, 1, 2, 3, 4] rfl rfl rfl rfl .nil (.cons ⟨rfl, .inl rfl⟩ (.cons ⟨rfl, .inl rfl⟩ (.cons ⟨rfl, .inl rfl⟩ (.cons ⟨rfl, .cellsI⟩ (.cons ⟨rfl, .inl rfl⟩ .nil)))))⟩
      refine (congrArg (AVal.int .i64) ?_ : AVal.int .i64 _ = AVal.int .i64 _)
      rfl
    · obtain hk2 : k = a.marks.toNat := by omega
      conv => whnf
      repeat' first | ((refine Gets.ixE (es := 5) rfl (by kernel_rfl) hjl ?_); conv => whnf) | (refine Gets.of _ rfl ?_; conv => whnf) | (refine Fork.dec (fun _ => ?_) (fun _ => ?_) <;> first | (exfalso; omega) | (conv => whnf))
      refine Gets.stI (off := j * 5 + 4) (l := flat (updJ (genF a.marks) a.es j)) rfl rfl (by rw [flat_length]; omega) ?_
      conv => whnf
      repeat' ((with_reducible refine Gets.addI ?_ ?_ ?_); (· omega); (· omega); conv => whnf)
      rw [hg, ← hk2] at hset
      exact ⟨j + 1, renL [0, 1, 2, 3] 5, hjl, by show a.es.length - (j + 1) < _; omega, ⟨rfl, rfl, rfl, rfl, rfl, rfl, trivial⟩, EmbL.litsN [0, 1, 2, 3] rfl rfl rfl rfl .nil (.cons ⟨rfl, .inl rfl⟩ (.cons ⟨rfl, .inl rfl⟩ (.cons ⟨rfl, .inl rfl⟩ (.cons ⟨rfl, .cellsIe hset.symm⟩ .nil))))⟩
  · obtain rfl : j = a.es.length := by omega
    have hall := updJ_all (genF a.marks) a.es
    conv => whnf
    repeat' first | ((refine Gets.stA rfl rfl rfl rfl (by rfl) ?_); conv => whnf) | (refine Gets.of _ rfl ?_; conv => whnf) | (refine Fork.dec (fun _ => ?_) (fun _ => ?_) <;> first | (exfalso; omega) | (conv => whnf))
    refine ⟨[3], _, rfl, .tuple (.cons (.agg (.cons (.same rfl) (.cons (.same rfl) (.cons (.same rfl) (.cons (.same rfl) (.cons (.same rfl) (.cons (frzE (l := a.es.map fun e => { e with marks := genF a.marks e.marks }) rfl ?_ ?_) (.same rfl)))))))) (.same rfl)), rfl, rfl⟩
    · rw [← hall]; rfl
    · rw [List.length_map]
end Go.Proofs.Ytljedopidipabaa
