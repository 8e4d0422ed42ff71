/- Gates made anew, by their literals: the walk. -/
import Derived.Test.YtmghlldboiplpaaMak
import Derived.Test.YtmghlldboiplpaaVkG
set_option linter.unusedVariables false
set_option linter.unusedSimpArgs false
set_option maxRecDepth 100000
set_option maxHeartbeats 1000000
namespace Go.Proofs.Ytmghlldboiplpaa
open Go Go.Vh Go.Vk Go.Proofs
theorem lit57 (of : List Nat) (n : Nat) (hn : of.length = n) (l : Nat) (h : l / 2 < n) (hb : ∀ x ∈ of, x < 4611686018427387904) (hl : l < 4611686018427387904) (H : AHeap) (i j : Nat) (h0 : (H.f i).cs = [.slice j 0 n]) (h1 : (H.f j).cs = nats of) : CallW Try.prog 57 [.int .i64 (l : Int), .ptr i 0] H fun v H' => H' = H ∧ v = .int .i64 ((litN of (l : Int) : Nat) : Int) := by
  have hm := hb (of.getD (l / 2) 0) (getD_memL (by omega))
  refine CallW.symK (cuts := []) Try.func57 rfl (by kernel_rfl) ?_
  conv => whnf
  repeat' first | ((refine Gets.ld1 rfl rfl h0 ?_); conv => whnf) | ((refine Gets.ldNat rfl h1 (Nat.lt_of_lt_of_eq h hn.symm) ?_); conv => whnf) | ((with_reducible refine Gets.andOne ?_ ?_); (· first | omega | exact Nat.lt_of_le_of_lt (Nat.shiftRight_le _ _) (by omega)); conv => whnf) | ((with_reducible refine Gets.quoI ?_ ?_ ?_ ?_); (· omega); (· omega); (· omega); conv => whnf) | (refine Gets.of _ rfl ?_; conv => whnf) | (refine Gets.ix1 rfl rfl (by omega) ?_; conv => whnf)
  refine ⟨rfl, ?_⟩
  unfold litN
  rw [show ((l : Int) % 2).toNat = l % 2 by omega]
  exact congrArg (AVal.int .i64) (xorI (m := of.getD (l / 2) 0) (n := l % 2) (Nat.lt_trans hm (by decide)) (Nat.lt_of_lt_of_le (Nat.mod_lt _ (by decide)) (by decide)))
theorem lit75 (of : List Nat) (n : Nat) (hn : of.length = n) (l : Nat) (h : l / 2 < n) (hb : ∀ x ∈ of, x < 4611686018427387904) (hl : l < 4611686018427387904) (H : AHeap) (i j : Nat) (h0 : (H.f i).cs = [.slice j 0 n]) (h1 : (H.f j).cs = nats of) : CallW Try.prog 75 [.int .i64 (l : Int), .ptr i 0] H fun v H' => H' = H ∧ v = .int .i64 ((litN of (l : Int) : Nat) : Int) := by
  have hm := hb (of.getD (l / 2) 0) (getD_memL (by omega))
  refine CallW.symK (cuts := []) Try.func75 rfl (by kernel_rfl) ?_
  conv => whnf
  repeat' first | ((refine Gets.ld1 rfl rfl h0 ?_); conv => whnf) | ((refine Gets.ldNat rfl h1 (Nat.lt_of_lt_of_eq h hn.symm) ?_); conv => whnf) | ((with_reducible refine Gets.andOne ?_ ?_); (· first | omega | exact Nat.lt_of_le_of_lt (Nat.shiftRight_le _ _) (by omega)); conv => whnf) | ((with_reducible refine Gets.quoI ?_ ?_ ?_ ?_); (· omega); (· omega); (· omega); conv => whnf) | (refine Gets.of _ rfl ?_; conv => whnf) | (refine Gets.ix1 rfl rfl (by omega) ?_; conv => whnf)
  refine ⟨rfl, ?_⟩
  unfold litN
  rw [show ((l : Int) % 2).toNat = l % 2 by omega]
  exact congrArg (AVal.int .i64) (xorI (m := of.getD (l / 2) 0) (n := l % 2) (Nat.lt_trans hm (by decide)) (Nat.lt_of_lt_of_le (Nat.mod_lt _ (by decide)) (by decide)))
def andF (inp : Int) (b0 : Nat) (gs : List (Int × Int)) : Nat → ABlk
  | 0 => .cells 1 [.map 1]
  | 1 => .map (mapOf kvP (entsF (b0 + 1) gs))
  | 2 => .cells 1 [.ptr 3 2]
  | 3 => .cells 1 [.int .i64 inp, .nilSlice, oP 4 gs, .nilSlice]
  | 4 => oPB gs
  | 5 => .cells 1 [.int .i64 (b0 : Int)]
  | _ => .dead
def andH (inp : Int) (b0 : Nat) (gs : List (Int × Int)) : AHeap := ⟨6, andF inp b0 gs, fun _ => 0⟩
def andH' (inp : Int) (b0 : Nat) (gs : List (Int × Int)) (k : Nat) : AHeap := ⟨7, fun i => match i with
  | 3 => .cells 1 [.int .i64 inp, .nilSlice, .slice 6 0 gs.length, .nilSlice]
  | 4 => .dead
  | 6 => .cells 2 (ints (pflat gs))
  | i => andF inp b0 gs i, fun i => match i with | 1 => 1 | 3 => 1 | 4 => k | _ => 0⟩
def andK (inp : Int) (b0 : Nat) (gs : List (Int × Int)) (r : Nat × List (Int × Int)) (v : AVal) (H' : AHeap) : Prop :=
  v = .int .i64 ((r.1 : Nat) : Int) ∧ ((r.2 = gs ∧ H' = andH inp b0 gs) ∨ ∃ g k, r.2 = gs ++ [g] ∧ H' = andH' inp b0 (gs ++ [g]) k)
theorem mk74 (inp : Int) (b0 : Nat) (gs : List (Int × Int)) (a b : Nat) (ha : a < 4611686018427387904) (hb : b < 4611686018427387904) (hb0 : b0 < 4294967296) (hg : gs.length < 4294967296) : CallW Try.prog 74 [.int .i64 (a : Int), .int .i64 (b : Int), .ptr 0 0, .ptr 2 0, .ptr 5 0] (andH inp b0 gs) (andK inp b0 gs (mkN (b0 + 1) gs a b)) := by
  unfold mkN
  refine CallW.symRK (cuts := []) Try.func74 rfl (by kernel_rfl) ?_
  conv => whnf
  refine Gets.minN ?_
  conv => whnf
  refine Gets.maxN ?_
  generalize hx : min a b = x
  generalize hy : max a b = y
  have h1 : x ≤ y := by omega
  have h2 : y < 4611686018427387904 := by omega
  clear hx hy
  conv => whnf
  repeat' first | ((with_reducible refine Gets.quoI ?_ ?_ ?_ ?_); (· omega); (· omega); (· omega); conv => whnf) | (refine Gets.of _ rfl ?_; conv => whnf) | (refine Fork.dec (fun _ => ?_) (fun _ => ?_) <;> first | (exfalso; omega) | (conv => whnf)) | (refine Fork.neI (fun _ => ?_) (fun _ => ?_) <;> first | (exfalso; omega) | (conv => whnf))
  iterate 5
    · first
      | rw [if_pos (by omega)]
      | rw [if_neg (by omega), if_pos (by omega)]
      exact ⟨fun i => i, _, andH inp b0 gs, EmbL.id (Nat.le_refl _), (ren_id _).symm, rfl, .inl ⟨rfl, rfl⟩⟩
  have n1 : ¬ (x = 0 ∨ x / 2 = y / 2 ∧ x ≠ y) := by omega
  have n2 : ¬ (x = 1 ∨ x = y) := by omega
  rw [if_neg n1, if_neg n2]
  by_cases hm : ((x : Int), (y : Int)) ∈ gs
  · have hget : aget (entsF (b0 + 1) gs) ((x : Int), (y : Int)) = some (.int .i64 ((2 * (b0 + 1 + gs.idxOf ((x : Int), (y : Int))) : Nat) : Int)) := by rw [aget_ents, if_pos hm]
    rw [if_pos hm]
    refine Gets.look1 keyP (l := entsF (b0 + 1) gs) (a := ((x : Int), (y : Int))) rfl rfl hget ?_
    conv => whnf
    repeat' first | ((refine Gets.look1 keyP (l := entsF (b0 + 1) gs) (a := ((x : Int), (y : Int))) rfl rfl hget ?_); conv => whnf) | (refine Gets.of _ rfl ?_; conv => whnf)
    exact ⟨renL [0, 1, 2, 3, 4, 5] 7, _, andH inp b0 gs, EmbL.litsN [0, 1, 2, 3, 4, 5] rfl rfl rfl rfl (.cons ⟨rfl, .inl ⟨rfl, fun h => h⟩⟩ (.cons ⟨rfl, .inl ⟨rfl, fun h => h⟩⟩ (.cons ⟨rfl, .inl ⟨rfl, fun h => h⟩⟩ (.cons ⟨rfl, .inl ⟨rfl, fun h => h⟩⟩ (.cons ⟨rfl, .inl ⟨rfl, fun h => h⟩⟩ (.cons ⟨rfl, .inl ⟨rfl, fun h => h⟩⟩ .nil)))))) (.cons ⟨rfl, .inl rfl⟩ (.cons ⟨rfl, .mapE⟩ (.cons ⟨rfl, .inl rfl⟩ (.cons ⟨rfl, .strP rfl⟩ (.cons ⟨rfl, .oP⟩ (.cons ⟨rfl, .inl rfl⟩ .nil)))))), rfl, rfl, .inl ⟨rfl, rfl⟩⟩
  · have hget : aget (entsF (b0 + 1) gs) ((x : Int), (y : Int)) = none := by rw [aget_ents, if_neg hm]
    have hget2 : aget (entsF (b0 + 1) (gs ++ [((x : Int), (y : Int))])) ((x : Int), (y : Int)) = some (.int .i64 ((2 * (b0 + 1 + gs.length) : Nat) : Int)) := by
      rw [aget_ents, if_pos (by simp), List.idxOf_append, if_neg hm]
      simp
    rw [if_neg hm]
    refine Gets.look0 keyP (l := entsF (b0 + 1) gs) (a := ((x : Int), (y : Int))) rfl rfl hget ?_
    rcases gs with _ | ⟨g, gs⟩
    all_goals
      conv => whnf
      skip
      refine CodeS.drawT [2, 3] (.take 0 (.take 1 (.take 2 (.take 3 (.take 4 (.take 5 (.take 6 (.one 7 true (.one 8 true (.take 9 (.one 10 false .done))))))))))) mixed (by kernel_rfl) (.cons ⟨rfl, trivial⟩ (.cons ⟨rfl, trivial⟩ .nil)) ?_
      conv => whnf
    · repeat' first | (refine Gets.of _ rfl ?_; conv => whnf) | (refine Chk.mk (by repeat first | exact .nil | refine .cons rfl ?_) ?_; conv => whnf)
      refine CodeS.drawT [0, 6, 5, 2, 3] (.take 0 (.take 1 (.take 2 (.take 3 (.take 4 (.take 5 (.take 6 (.take 7 (.take 8 (.one 9 false .done)))))))))) mixed (by kernel_rfl) (.cons ⟨rfl, trivial⟩ (.cons ⟨rfl, trivial⟩ (.cons ⟨rfl, trivial⟩ (.cons ⟨rfl, trivial⟩ (.cons ⟨rfl, trivial⟩ .nil))))) ?_
      conv => whnf
      repeat' first | ((refine Gets.look1 keyP (l := entsF (b0 + 1) ([] ++ [((x : Int), (y : Int))])) (a := ((x : Int), (y : Int))) rfl rfl hget2 ?_); conv => whnf) | ((with_reducible refine Gets.addI ?_ ?_ ?_); (· omega); (· omega); conv => whnf) | ((with_reducible refine Gets.mulI ?_ ?_ ?_); (· omega); (· omega); conv => whnf) | (refine Gets.of _ rfl ?_; conv => whnf)
      exact ⟨renL [0, 1, 2, 3, 4, 5, 8] 9, _, andH' inp b0 ([] ++ [((x : Int), (y : Int))]) 0, EmbL.litsN [0, 1, 2, 3, 4, 5, 8] rfl rfl rfl rfl (.cons ⟨rfl, .inl ⟨rfl, fun h => h⟩⟩ (.cons ⟨rfl, .inl ⟨rfl, fun h => h⟩⟩ (.cons ⟨rfl, .inl ⟨rfl, fun h => h⟩⟩ (.cons ⟨rfl, .inl ⟨rfl, fun h => h⟩⟩ (.cons ⟨rfl, .inl ⟨rfl, fun h => h⟩⟩ (.cons ⟨rfl, .inl ⟨rfl, fun h => h⟩⟩ .nil)))))) (.cons ⟨rfl, .inl rfl⟩ (.cons ⟨rfl, .mapE⟩ (.cons ⟨rfl, .inl rfl⟩ (.cons ⟨rfl, .inl rfl⟩ (.cons ⟨rfl, .gone⟩ (.cons ⟨rfl, .inl rfl⟩ (.cons ⟨rfl, .cellsI⟩ .nil))))))), rfl, rfl, .inr ⟨_, _, rfl, rfl⟩⟩
    · have hlen : (g :: gs ++ [((x : Int), (y : Int))]).length = gs.length + 1 + 1 := by simp
      repeat' first | ((refine Gets.appP1 (ti := tiP) (l := g :: gs) (x := (x : Int)) (y := (y : Int)) rfl rfl rfl rfl rfl (by decide) rfl rfl rfl hg ?_); conv => whnf) | (refine Gets.of _ rfl ?_; conv => whnf) | (refine Chk.mk (by repeat first | exact .nil | refine .cons rfl ?_) ?_; conv => whnf)
      refine CodeS.drawT [0, 6, 5, 2, 3] (.take 0 (.take 1 (.take 2 (.take 3 (.take 4 (.take 5 (.take 6 (.take 7 (.take 8 (.one 9 false .done)))))))))) mixed (by kernel_rfl) (.cons ⟨rfl, trivial⟩ (.cons ⟨rfl, trivial⟩ (.cons ⟨rfl, trivial⟩ (.cons ⟨rfl, trivial⟩ (.cons ⟨rfl, trivial⟩ .nil))))) ?_
      conv => whnf
      repeat' first | ((refine Gets.putEnt (m := b0 + 1) (gs := g :: gs) (g := ((x : Int), (y : Int))) rfl rfl hm (by simp; omega) ?_); conv => whnf) | ((refine Gets.look1 keyP (l := entsF (b0 + 1) (g :: gs ++ [((x : Int), (y : Int))])) (a := ((x : Int), (y : Int))) rfl rfl hget2 ?_); conv => whnf) | ((with_reducible refine Gets.addI ?_ ?_ ?_); (· omega); (· omega); conv => whnf) | ((with_reducible refine Gets.mulI ?_ ?_ ?_); (· omega); (· omega); conv => whnf) | (refine Gets.of _ rfl ?_; conv => whnf)
      exact ⟨renL [0, 1, 2, 3, 4, 5, 8] 9, _, andH' inp b0 (g :: gs ++ [((x : Int), (y : Int))]) 1, EmbL.litsN [0, 1, 2, 3, 4, 5, 8] rfl rfl rfl rfl (.cons ⟨rfl, .inl ⟨rfl, fun h => h⟩⟩ (.cons ⟨rfl, .inl ⟨rfl, fun h => h⟩⟩ (.cons ⟨rfl, .inl ⟨rfl, fun h => h⟩⟩ (.cons ⟨rfl, .inl ⟨rfl, fun h => h⟩⟩ (.cons ⟨rfl, .inl ⟨rfl, fun h => h⟩⟩ (.cons ⟨rfl, .inl ⟨rfl, fun h => h⟩⟩ .nil)))))) (.cons ⟨rfl, .inl rfl⟩ (.cons ⟨rfl, .mapE⟩ (.cons ⟨rfl, .inl rfl⟩ (.cons ⟨rfl, .inl (congrArg (fun n => ABlk.cells 1 [.int .i64 inp, .nilSlice, .slice 8 0 n, .nilSlice]) hlen.symm)⟩ (.cons ⟨rfl, .gone⟩ (.cons ⟨rfl, .inl rfl⟩ (.cons ⟨rfl, .cellsI⟩ .nil))))))), rfl, rfl, .inr ⟨_, _, rfl, rfl⟩⟩
end Go.Proofs.Ytmghlldboiplpaa
