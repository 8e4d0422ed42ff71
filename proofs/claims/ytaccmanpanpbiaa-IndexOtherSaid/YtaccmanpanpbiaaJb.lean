/- Words, letters, arcs: the small functions of the reference that decide words. -/
import Derived.Test.YtaccmanpanpbiaaJa
import Derived.Test.YtaccmanpanpbiaaVnA
-- VkG VkH VmA
set_option linter.unusedVariables false
set_option linter.unusedSimpArgs false
set_option maxRecDepth 100000
set_option maxHeartbeats 4000000
namespace Go.Proofs.Ytaccmanpanpbiaa
open Go Go.Vh Go.Vk Go.Vn Go.Proofs
structure Wo where
  stem : List Int
  loop : List Int
def Wo.rv (w : Wo) : AVal := .agg [rI w.stem, rI w.loop]
def Wo.n (w : Wo) : Nat := w.stem.length + w.loop.length
/-- A word that has a letter at each place, and is not too long for a memory. -/
structure Wo.Fits (w : Wo) : Prop where
  st : w.stem.length ≤ 1073741824
  lp : w.loop.length ≤ 1073741824
  pos : 0 < w.loop.length
/-- The letter at a place. -/
def Wo.at (w : Wo) (k : Nat) : Int := (w.stem ++ w.loop).getD k 0
/-- The letter at a position. -/
def Wo.let (w : Wo) (p : Nat) : Int := w.at (ix w.stem.length w.loop.length p)
theorem placesR (w : Wo) (hf : w.Fits) (H : AHeap) : CallW Try.prog 76 [w.rv] H fun v H' => H' = H ∧ v = .int .i64 (w.n : Int) := by
  have h1 := hf.st
  have h2 := hf.lp
  refine CallW.pure ?_ rfl H
  refine CallW.symK (cuts := []) Try.func76 rfl (by kernel_rfl) ?_
  conv => whnf
  repeat' first | ((with_reducible refine Gets.addI ?_ ?_ ?_); (· omega); (· omega); conv => whnf) | (refine Gets.of _ rfl ?_; conv => whnf)
  exact ⟨[], _, rfl, .same rfl, rfl, rfl⟩
theorem followR (w : Wo) (hf : w.Fits) (k : Nat) (hk : k < w.n) (H : AHeap) : CallW Try.prog 78 [w.rv, .int .i64 (k : Int)] H fun v H' => H' = H ∧ v = .int .i64 (fol w.stem.length w.loop.length k : Int) := by
  have h1 := hf.st
  have h2 := hf.lp
  have h3 : k < w.stem.length + w.loop.length := hk
  refine CallW.pure ?_ rfl H
  refine CallW.symK (cuts := []) Try.func78 rfl (by kernel_rfl) ?_
  conv => whnf
  repeat' first | ((with_reducible refine Gets.addI ?_ ?_ ?_); (· omega); (· omega); conv => whnf) | (refine Gets.of _ rfl ?_; conv => whnf)
  refine CallS.of (by kernel_rfl) (placesR w hf _) rfl ?_
  rintro _ _ ⟨rfl, rfl⟩
  have e : (w.n : Int) = (w.stem.length : Int) + (w.loop.length : Int) := by unfold Wo.n; omega
  conv => whnf
  repeat' first | ((with_reducible refine Gets.addI ?_ ?_ ?_); (· omega); (· omega); conv => whnf) | (refine Gets.of _ rfl ?_; conv => whnf) | (refine Fork.dec (fun _ => ?_) (fun _ => ?_) <;> first | (exfalso; omega) | (conv => whnf))
  · refine ⟨[], _, rfl, .same rfl, rfl, ?_⟩
    unfold fol
    rw [if_pos (by omega)]
  · refine ⟨[], _, rfl, .same rfl, rfl, ?_⟩
    unfold fol
    rw [if_neg (by omega)]
    rfl
theorem Wo.let_stem {w : Wo} {p : Nat} (h : p < w.stem.length) : w.let p = w.stem.getD p 0 := by
  unfold Wo.let Wo.at ix
  rw [if_pos h, List.getD_eq_getElem?_getD, List.getElem?_append_left h, ← List.getD_eq_getElem?_getD]
theorem Wo.let_loop {w : Wo} {p : Nat} (h : w.stem.length ≤ p) : w.let p = w.loop.getD ((p - w.stem.length) % w.loop.length) 0 := by
  unfold Wo.let Wo.at ix
  rw [if_neg (by omega), List.getD_eq_getElem?_getD, List.getElem?_append_right (by omega), Nat.add_sub_cancel_left, ← List.getD_eq_getElem?_getD]
theorem lettersR (w : Wo) (hf : w.Fits) (p : Nat) (hp : p ≤ 4611686018427387904) (H : AHeap) : CallW Try.prog 25 [w.rv, .int .i64 (p : Int)] H fun v H' => H' = H ∧ v = .int .i64 (w.let p) := by
  have h1 := hf.st
  have h2 := hf.lp
  have h3 := hf.pos
  refine CallW.pure ?_ rfl H
  refine CallW.symK (cuts := []) Try.func25 rfl (by kernel_rfl) ?_
  conv => whnf
  repeat' first | (refine Gets.of _ rfl ?_; conv => whnf) | (refine Gets.ixR1 rfl rfl (by omega) ?_; conv => whnf) | (refine Gets.ldRI rfl (by first | omega | exact Nat.le_of_ble_eq_true rfl) ?_; conv => whnf) | (refine Fork.dec (fun _ => ?_) (fun _ => ?_) <;> first | (exfalso; omega) | (conv => whnf))
  · exact ⟨[], _, rfl, .same rfl, rfl, congrArg (AVal.int .i64) (Wo.let_stem (by omega)).symm⟩
  have h4 : w.stem.length ≤ p := by omega
  have hm := Nat.mod_lt (p - w.stem.length) h3
  refine CodeS.drawP (by kernel_rfl) (by kernel_rfl) ?_
  conv => whnf
  repeat' first | ((with_reducible refine Gets.remN ?_ ?_ ?_); (· omega); (· omega); conv => whnf) | ((with_reducible refine Gets.subI ?_ ?_ ?_); (· omega); (· omega); conv => whnf) | (refine Gets.of _ rfl ?_; conv => whnf)
  have e : ((p : Int) - (w.stem.length : Int)) % (w.loop.length : Int) = (((p - w.stem.length) % w.loop.length : Nat) : Int) := by
    rw [Int.natCast_emod, Int.ofNat_sub h4]
  rw [e]
  repeat' first | (refine Gets.ixR1 rfl rfl (by omega) ?_; conv => whnf) | (refine Gets.ldRI rfl (by first | omega | exact Nat.le_of_ble_eq_true rfl) ?_; conv => whnf)
  exact ⟨[], _, rfl, .same rfl, rfl, congrArg (AVal.int .i64) (Wo.let_loop h4).symm⟩
def readsB (e : Edg) (l : Int) : Bool := decide (bitsA .and .i64 l e.care = e.bits)
theorem readsR (e : Edg) (l : Int) (H : AHeap) : CallW Try.prog 77 [kvE e, .int .i64 l] H fun v H' => H' = H ∧ v = .bool (readsB e l) := by
  refine CallW.pure ?_ rfl H
  refine CallW.symK (cuts := []) Try.func77 rfl (by kernel_rfl) ?_
  conv => whnf
  repeat' first | (refine Gets.of _ rfl ?_; conv => whnf) | (refine Fork.dec (fun _ => ?_) (fun _ => ?_) <;> first | (exfalso; omega) | (conv => whnf))
  · rename_i h
    exact ⟨[], _, rfl, .same rfl, rfl, congrArg AVal.bool (decide_eq_true h).symm⟩
  · rename_i h
    exact ⟨[], _, rfl, .same rfl, rfl, congrArg AVal.bool (decide_eq_false h).symm⟩
/-! ### Arcs -/
def acs (a : Arc) : List Int := [a.fr, a.to, a.marks, a.other]
theorem recA : Rec acs 4 := ⟨fun _ => rfl⟩
def rA (l : List Arc) : AVal := rK acs l
def turn (a : Arc) : Arc := ⟨a.to, a.fr, a.marks, a.other⟩
theorem getE {α : Type} {l : List α} {j : Nat} (h : j < l.length) : ∃ x, l[j]? = some x := ⟨l[j], List.getElem?_eq_getElem h⟩
theorem take_map {α β : Type} {f : α → β} {l : List α} {j : Nat} {x : α} (h : l[j]? = some x) : (l.take (j + 1)).map f = (l.take j).map f ++ [f x] := by
  obtain ⟨hj, rfl⟩ := List.getElem?_eq_some_iff.1 h
  rw [List.take_succ_eq_append_getElem hj, List.map_append]; rfl
/-- The memory that holds one row that grows. -/
def gH {α : Type} (k : Nat) (f : α → List Int) (l : List α) : AHeap := match l with
  | [] => emptyH
  | x :: l => emptyH.alloc (.cells k (ints (fl f (x :: l))))
theorem turnedR (l : List Arc) (hl : l.length ≤ 1073741824) (H : AHeap) : CallW Try.prog 146 [rA l] H fun v H' => H' = H ∧ v = rA (l.map turn) := by
  refine CallW.pure ?_ rfl H
  refine CallW.symK (cuts := []) Try.func146 rfl (by kernel_rfl) ?_
  conv => whnf
  repeat' (refine Gets.of _ rfl ?_; conv => whnf)
  refine CodeS.loopGK (cuts := []) (σ := Nat × List Arc) (fun s => [(3, gK 0 acs s.2), (6, rA l), (7, .int .i64 (l.length : Int)), (8, .int .i64 (s.1 : Int))]) (fun s => gH 4 acs s.2) (fun s => s.1 ≤ l.length ∧ (l.take s.1).map turn = s.2) (fun s => l.length - s.1) (0, []) (renL [] 0) (by kernel_rfl) ⟨Nat.zero_le _, rfl⟩ ⟨rfl, rfl, rfl, rfl, trivial⟩ (EmbL.litsN [] rfl rfl rfl rfl .nil .nil) ?_
  rintro ⟨j, acc⟩ ⟨hj, hacc⟩
  dsimp only at hj hacc ⊢
  have hal : acc.length = j := by rw [← hacc, List.length_map, List.length_take, Nat.min_eq_left hj]
  rcases Nat.lt_or_ge j l.length with hjl | hjl
  · obtain ⟨a, ha⟩ := getE hjl
    have hnx := take_map (f := turn) ha
    rw [hacc] at hnx
    rcases acc with _ | ⟨x, acc⟩
    · conv => whnf
      repeat' first | ((refine Gets.ixRE (es := 4) rfl (by kernel_rfl) (by omega) ?_); conv => whnf) | ((refine Gets.ldRK recA rfl rfl rfl rfl ha ?_); conv => whnf) | ((refine Gets.appK0 recA (by decide) (x := turn a) rfl rfl rfl rfl rfl (by decide) rfl ?_); conv => whnf) | ((with_reducible refine Gets.addI ?_ ?_ ?_); (· omega); (· omega); conv => whnf) | (refine Gets.of _ rfl ?_; conv => whnf) | (refine Fork.dec (fun _ => ?_) (fun _ => ?_) <;> first | (exfalso; omega) | (conv => whnf))
      exact ⟨(j + 1, [turn a]), renL [2] 3, ⟨hjl, hnx⟩, by show l.length - (j + 1) < _; omega, ⟨rfl, rfl, rfl, rfl, trivial⟩, EmbL.litsN [2] rfl rfl rfl rfl .nil (.cons ⟨rfl, .inl rfl⟩ .nil)⟩
    · have e2 : (x :: (acc ++ [turn a])).length = (x :: acc).length + 1 := by simp
      conv => whnf
      repeat' first | ((refine Gets.ixRE (es := 4) rfl (by kernel_rfl) (by omega) ?_); conv => whnf) | ((refine Gets.ldRK recA rfl rfl rfl rfl ha ?_); conv => whnf) | ((refine Gets.appK1 recA (by decide) (l := x :: acc) (x := turn a) rfl rfl rfl rfl rfl (by decide) rfl rfl rfl (by omega) ?_); conv => whnf) | ((with_reducible refine Gets.addI ?_ ?_ ?_); (· omega); (· omega); conv => whnf) | (refine Gets.of _ rfl ?_; conv => whnf) | (refine Fork.dec (fun _ => ?_) (fun _ => ?_) <;> first | (exfalso; omega) | (conv => whnf))
      exact ⟨(j + 1, x :: acc ++ [turn a]), renL [3] 4, ⟨hjl, hnx⟩, by show l.length - (j + 1) < _; omega, ⟨by first | exact congrArg (AVal.slice 3 0) e2 | exact congrArg (AVal.slice 3 0) e2.symm, rfl, rfl, rfl, trivial⟩, EmbL.litsN [3] rfl rfl rfl rfl .nil (.cons ⟨rfl, .cellsI⟩ .nil)⟩
  · obtain rfl : j = l.length := by omega
    rw [List.take_length] at hacc
    rcases acc with _ | ⟨x, acc⟩
    · conv => whnf
      repeat' (refine Fork.dec (fun _ => ?_) (fun _ => ?_) <;> first | (exfalso; omega) | (conv => whnf))
      exact ⟨[], _, rfl, .nil, rfl, by rw [hacc]; rfl⟩
    · conv => whnf
      repeat' (refine Fork.dec (fun _ => ?_) (fun _ => ?_) <;> first | (exfalso; omega) | (conv => whnf))
      exact ⟨[0], _, rfl, frzK recA (l := x :: acc) rfl rfl rfl, rfl, by rw [hacc]; rfl⟩
end Go.Proofs.Ytaccmanpanpbiaa

/- GoodBoth of the reference, out of what cycles and reach tell. -/
-- VkG VkH VmA
set_option linter.unusedVariables false
set_option linter.unusedSimpArgs false
set_option maxRecDepth 100000
set_option maxHeartbeats 4000000
namespace Go.Proofs.Ytaccmanpanpbiaa
open Go Go.Vh Go.Vk Go.Vn Go.Proofs
open Classical
def prs (c : Cond) : List Int := [c.never, c.again, c.never2, c.again2]
theorem recP : Rec prs 4 := ⟨fun _ => rfl⟩
def nlC : Cond := ⟨0, 0, 0, 0⟩
/-- Which nodes lie on a closed path. -/
noncomputable def cycB (arcs : List Arc) (c : Cond) (i : Nat) : Bool := decide (Cycle arcs c i)
noncomputable def cycL (n : Nat) (arcs : List Arc) (c : Cond) : List Bool := (List.range n).map (cycB arcs c)
/-- Which nodes can be reached from some. -/
noncomputable def reachB (n : Nat) (arcs : List Arc) (good : Nat → Bool) (c : Cond) (i : Nat) : Bool := decide (∃ j, j < n ∧ good j = true ∧ Vn.Reach (c.Free arcs) j i)
noncomputable def reachL (n : Nat) (arcs : List Arc) (good : Nat → Bool) (c : Cond) : List Bool := (List.range n).map (reachB n arcs good c)
structure InR (n : Nat) (arcs : List Arc) : Prop where
  n1 : n ≤ 1073741824
  len : arcs.length ≤ 1073741824
  fr : ∀ a ∈ arcs, a.fr < n
  to : ∀ a ∈ arcs, a.to < n
  mks : ∀ a ∈ arcs, a.marks < 2 ^ 62 ∧ a.other < 2 ^ 62
structure InC (c : Cond) : Prop where
  c1 : c.never < 2 ^ 62
  c2 : c.again < 2 ^ 62
  c3 : c.never2 < 2 ^ 62
  c4 : c.again2 < 2 ^ 62
/-- What cycles and reach tell. -/
def CycT : Prop := ∀ (n : Nat) (arcs : List Arc) (c : Cond), InR n arcs → InC c → ∀ H : AHeap, CallW Try.prog 181 [.int .i64 (n : Int), rA arcs, kvK prs c] H fun v H' => H' = H ∧ v = rB (cycL n arcs c)
def ReachT : Prop := ∀ (n : Nat) (arcs : List Arc) (good : Nat → Bool) (c : Cond), InR n arcs → InC c → ∀ H : AHeap, CallW Try.prog 145 [.int .i64 (n : Int), rA arcs, rB ((List.range n).map good), kvK prs c] H fun v H' => H' = H ∧ v = rB (reachL n arcs good c)
/-- On a closed path by one of some conditions. -/
noncomputable def anyC (arcs : List Arc) (ways : List Cond) (i : Nat) : Bool := decide (∃ c ∈ ways, Cycle arcs c i)
noncomputable def goodL (n : Nat) (arcs : List Arc) (good : Nat → Bool) : List Bool := reachL n (arcs.map turn) good nlC
theorem InR.turn {n : Nat} {arcs : List Arc} (h : InR n arcs) : InR n (arcs.map turn) := by
  refine ⟨h.n1, by rw [List.length_map]; exact h.len, ?_, ?_, ?_⟩ <;> intro a ha <;> obtain ⟨b, hb, rfl⟩ := List.mem_map.1 ha
  · exact h.to b hb
  · exact h.fr b hb
  · exact h.mks b hb
theorem anyC_next {arcs : List Arc} {ways : List Cond} {j : Nat} {c : Cond} (h : ways[j]? = some c) (i : Nat) : anyC arcs (ways.take (j + 1)) i = (anyC arcs (ways.take j) i || cycB arcs c i) := by
  obtain ⟨hj, rfl⟩ := List.getElem?_eq_some_iff.1 h
  unfold anyC cycB
  rw [List.take_succ_eq_append_getElem hj, ← Bool.decide_or]
  congr 1
  apply propext
  constructor
  · rintro ⟨c, hc, h⟩
    rcases List.mem_append.1 hc with hc | hc
    · exact .inl ⟨c, hc, h⟩
    · rw [List.mem_singleton.1 hc] at h; exact .inr h
  · rintro (⟨c, hc, h⟩ | h)
    · exact ⟨c, List.mem_append_left _ hc, h⟩
    · exact ⟨_, List.mem_append_right _ (List.mem_singleton.2 rfl), h⟩
theorem anyC_zero (arcs : List Arc) (ways : List Cond) (n : Nat) : (List.range n).map (anyC arcs (ways.take 0)) = List.replicate n false := by
  apply List.ext_getElem?
  intro x
  rw [List.getElem?_replicate]
  split
  · rename_i h
    rw [List.getElem?_map, List.getElem?_range h]
    show some (anyC arcs [] x) = some false
    exact congrArg some (decide_eq_false (by rintro ⟨c, hc, _⟩; cases hc))
  · rename_i h
    rw [List.getElem?_eq_none (by simp; omega)]
theorem Gets.ldRBv {P : Program} {H : AHeap} {t : TypeId} {l : List Bool} {off : Nat} {b : Bool} {A : AVal → Prop} (ht : tinfo P t = some tiB) (h : l[off]? = some b) (hA : A (.bool b)) : Gets (loadA P H t (.rptr (bls l) off)) A :=
  Gets.ldRB ht (List.getElem?_eq_some_iff.1 h).1 (by rw [List.getD_eq_getElem?_getD, h]; exact hA)
theorem Gets.ldBv {P : Program} {H : AHeap} {t : TypeId} {i off : Nat} {l : List Bool} {b : Bool} {A : AVal → Prop} (ht : tinfo P t = some tiB) (hf : (H.f i).cs = bls l) (h : l[off]? = some b) (hA : A (.bool b)) : Gets (loadA P H t (.ptr i off)) A :=
  Gets.ldB ht hf (List.getElem?_eq_some_iff.1 h).1 (by rw [List.getD_eq_getElem?_getD, h]; exact hA)
theorem clos_bls (l : List Bool) : clos (bls l) = true := clos_all fun v hv => by
  obtain ⟨b, _, rfl⟩ := List.mem_map.1 hv; rfl
theorem frzBl {H : AHeap} {ks : List Nat} {i n : Nat} {l : List Bool} (hn : n = l.length) (hi : ks.contains i = true) (hf : H.f i = .cells 1 (bls l)) : Frz H ks (.slice i 0 n) (rB l) := by
  subst hn
  exact .slice hi hf (by rw [bls_length]; omega) (by rw [List.drop_zero, List.take_of_length_le (by rw [bls_length]; omega)]; exact .same (clos_bls _))
theorem goodBothR (hc : CycT) (hr : ReachT) (n : Nat) (arcs : List Arc) (ways : List Cond) (hi : InR n arcs) (hw : ways.length ≤ 1073741824) (hiw : ∀ c ∈ ways, InC c) (H : AHeap) :
    CallW Try.prog 138 [.int .i64 (n : Int), rA arcs, rK prs ways] H fun v H' => H' = H ∧ v = rB (goodL n arcs (anyC arcs ways)) := by
  have hn1 := hi.n1
  have hl1 := hi.len
  refine CallW.pure ?_ rfl H
  refine CallW.symK (cuts := []) Try.func138 rfl (by kernel_rfl) ?_
  conv => whnf
  repeat' first | ((refine Gets.makeB (k := 1) rfl rfl (by decide) rfl (by decide) (by omega) (by omega) ?_); conv => whnf) | (refine Gets.of _ rfl ?_; conv => whnf)
  refine CodeS.loopGK (cuts := []) (σ := Nat) (fun j => [(0, .int .i64 (n : Int)), (1, rA arcs), (7, .slice 0 0 n), (14, rK prs ways), (15, .int .i64 (ways.length : Int)), (16, .int .i64 (j : Int))]) (fun j => emptyH.alloc (.cells 1 (bls ((List.range n).map (anyC arcs (ways.take j)))))) (fun j => j ≤ ways.length) (fun j => ways.length - j) 0 (renL [0] 1) (by kernel_rfl) (Nat.zero_le _) ⟨rfl, rfl, rfl, rfl, rfl, rfl, trivial⟩ (EmbL.litsN [0] rfl rfl rfl rfl .nil (.cons ⟨rfl, ?_⟩ .nil)) ?_
  · exact .cellsBe (by rw [anyC_zero]; simp)
  intro j hj
  rcases Nat.lt_or_ge j ways.length with hjl | hjl
  · obtain ⟨c, hcj⟩ := getE hjl
    have hcm : c ∈ ways := List.mem_of_getElem? hcj
    have hnx := fun i => anyC_next (arcs := arcs) hcj i
    conv => whnf
    repeat' first | ((refine Gets.ixRE (es := 4) rfl (by kernel_rfl) (by omega) ?_); conv => whnf) | ((refine Gets.ldRK recP rfl rfl rfl rfl hcj ?_); conv => whnf) | (refine Gets.of _ rfl ?_; conv => whnf) | (refine Fork.dec (fun _ => ?_) (fun _ => ?_) <;> first | (exfalso; omega) | (conv => whnf))
    refine CallS.of (by kernel_rfl) (hc n arcs c hi (hiw c hcm) _) rfl ?_
    rintro _ _ ⟨rfl, rfl⟩
    conv => whnf
    repeat' (refine Gets.of _ rfl ?_; conv => whnf)
    have hlc : (cycL n arcs c).length = n := by simp [cycL]
    refine CodeS.loopGK (cuts := []) (σ := Nat) (fun i => [(0, .int .i64 (n : Int)), (1, rA arcs), (7, .slice 0 0 n), (14, rK prs ways), (15, .int .i64 (ways.length : Int)), (16, .int .i64 (j : Int)), (23, rB (cycL n arcs c)), (24, .int .i64 ((cycL n arcs c).length : Int)), (25, .int .i64 (i : Int))]) (fun i => emptyH.alloc (.cells 1 (bls (bl2 n (anyC arcs (ways.take (j + 1))) (anyC arcs (ways.take j)) i)))) (fun i => i ≤ n) (fun i => n - i) 0 (renL [0] 2) (by kernel_rfl) (Nat.zero_le _) ⟨rfl, rfl, rfl, rfl, rfl, rfl, rfl, rfl, rfl, trivial⟩ (EmbL.litsN [0] rfl rfl rfl rfl .nil (.cons ⟨rfl, .cellsBe bl2_zero⟩ .nil)) ?_
    intro i hin
    rcases Nat.lt_or_ge i n with hil | hil
    · have hqi : (bl2 n (anyC arcs (ways.take (j + 1))) (anyC arcs (ways.take j)) i)[i]? = some (anyC arcs (ways.take j) i) := by rw [bl2_get hil, if_neg (Nat.lt_irrefl i)]
      have hci : (cycL n arcs c)[i]? = some (cycB arcs c i) := by simp [cycL, hil]
      have hset := bl2_set (p := anyC arcs (ways.take (j + 1))) (q := anyC arcs (ways.take j)) hil
      have hbl := bl2_length n (anyC arcs (ways.take (j + 1))) (anyC arcs (ways.take j)) i
      rw [hnx i] at hset
      generalize anyC arcs (ways.take j) i = b1 at hqi hset
      generalize cycB arcs c i = b2 at hci hset
      cases b1 <;> cases b2
      all_goals
        conv => whnf
        repeat' first | ((refine Gets.ldRBv rfl hci ?_); conv => whnf) | ((refine Gets.ldBv rfl rfl hqi ?_); conv => whnf) | ((refine Gets.stB rfl rfl (by rw [hbl]; exact hil) ?_); conv => whnf) | ((with_reducible refine Gets.addI ?_ ?_ ?_); (· omega); (· omega); conv => whnf) | (refine Gets.ix1 rfl rfl (by omega) ?_; conv => whnf) | (refine Gets.ixR1 rfl rfl (by omega) ?_; conv => whnf) | (refine Fork.dec (fun _ => ?_) (fun _ => ?_) <;> first | (exfalso; omega) | (conv => whnf))
      all_goals exact ⟨i + 1, renL [0] 1, hil, by omega, ⟨rfl, rfl, rfl, rfl, rfl, rfl, rfl, rfl, rfl, trivial⟩, EmbL.litsN [0] rfl rfl rfl rfl .nil (.cons ⟨rfl, .cellsBe hset.symm⟩ .nil)⟩
    · obtain rfl : i = n := by omega
      conv => whnf
      repeat' first | ((with_reducible refine Gets.addI ?_ ?_ ?_); (· omega); (· omega); conv => whnf) | (refine Fork.dec (fun _ => ?_) (fun _ => ?_) <;> first | (exfalso; omega) | (conv => whnf))
      exact ⟨j + 1, renL [0] 1, hjl, by show ways.length - (j + 1) < _; omega, ⟨rfl, rfl, rfl, rfl, rfl, rfl, trivial⟩, EmbL.litsN [0] rfl rfl rfl rfl .nil (.cons ⟨rfl, .cellsBe bl2_all.symm⟩ .nil)⟩
  · obtain rfl : j = ways.length := by omega
    conv => whnf
    repeat' (refine Fork.dec (fun _ => ?_) (fun _ => ?_) <;> first | (exfalso; omega) | (conv => whnf))
    rw [List.take_length]
    refine CallS.of (by kernel_rfl) (turnedR arcs hl1 _) rfl ?_
    rintro _ _ ⟨rfl, rfl⟩
    conv => whnf
    skip
    refine CallS.of (by kernel_rfl) ((hr n (arcs.map turn) (anyC arcs ways) nlC hi.turn ⟨by decide, by decide, by decide, by decide⟩ _).argsF [0] rfl (.keep (.keep (.frz (frzBl (by simp) rfl rfl) (.keep .nil))))) rfl ?_
    rintro _ _ ⟨rfl, rfl⟩
    conv => whnf
    skip
    exact ⟨[], _, rfl, .same rfl, rfl, rfl⟩
end Go.Proofs.Ytaccmanpanpbiaa

/- cycles of the reference, out of what parts tells. -/
-- VkG VkH VmA
set_option linter.unusedVariables false
set_option linter.unusedSimpArgs false
set_option maxRecDepth 100000
set_option maxHeartbeats 4000000
namespace Go.Proofs.Ytaccmanpanpbiaa
open Go Go.Vh Go.Vk Go.Vn Go.Proofs
open Classical
/-- Components: the number of each node's, and the arcs within each. -/
structure Parts (n : Nat) (arcs : List Arc) (c : Cond) (of : List Nat) (W : List (List Arc)) : Prop where
  len : of.length = n
  lt : ∀ (i k : Nat), of[i]? = some k → k < W.length
  mem : ∀ (i k : Nat) (l : List Arc), of[i]? = some k → W[k]? = some l → ∀ a, a ∈ l ↔ Within (c.Free arcs) i a
  sub : ∀ l ∈ W, ∀ a ∈ l, a ∈ arcs
  sz : ∀ l ∈ W, l.length ≤ arcs.length
  wn : W.length ≤ n
  own : ∀ (k : Nat) (l : List Arc), W[k]? = some l → ∀ a ∈ l, of[a.fr]? = some k
def PartsT : Prop := ∀ (n : Nat) (arcs : List Arc) (c : Cond), InR n arcs → InC c → ∃ of W, Parts n arcs c of W ∧ ∀ H : AHeap, CallW Try.prog 183 [.int .i64 (n : Int), rA arcs, kvK prs c] H fun v H' => H' = H ∧ v = .tuple [rI (of.map Int.ofNat), rR (W.map rA)]
theorem marksOf_snoc (l : List Arc) (a : Arc) : marksOf (l ++ [a]) = marksOf l ||| a.marks := by
  induction l with
  | nil => show a.marks ||| 0 = 0 ||| a.marks; rw [Nat.or_zero, Nat.zero_or]
  | cons x l ih => show x.marks ||| marksOf (l ++ [a]) = (x.marks ||| marksOf l) ||| a.marks; rw [ih, Nat.or_assoc]
theorem otherOf_snoc (l : List Arc) (a : Arc) : otherOf (l ++ [a]) = otherOf l ||| a.other := by
  induction l with
  | nil => show a.other ||| 0 = 0 ||| a.other; rw [Nat.or_zero, Nat.zero_or]
  | cons x l ih => show x.other ||| otherOf (l ++ [a]) = (x.other ||| otherOf l) ||| a.other; rw [ih, Nat.or_assoc]
theorem marksOf_lt {l : List Arc} (h : ∀ a ∈ l, a.marks < 2 ^ 62) : marksOf l < 2 ^ 62 := by
  induction l with
  | nil => show 0 < 2 ^ 62; decide
  | cons a l ih => exact Nat.or_lt_two_pow (h a (List.mem_cons_self ..)) (ih fun b hb => h b (List.mem_cons_of_mem _ hb))
theorem otherOf_lt {l : List Arc} (h : ∀ a ∈ l, a.other < 2 ^ 62) : otherOf l < 2 ^ 62 := by
  induction l with
  | nil => show 0 < 2 ^ 62; decide
  | cons a l ih => exact Nat.or_lt_two_pow (h a (List.mem_cons_self ..)) (ih fun b hb => h b (List.mem_cons_of_mem _ hb))
/-- A component does. -/
def fine (c : Cond) (l : List Arc) : Prop := l ≠ [] ∧ Vn.Sub c.again (marksOf l) ∧ Vn.Sub c.again2 (otherOf l)
/-- A node of a component before number j that does. -/
noncomputable def upC (c : Cond) (of : List Nat) (W : List (List Arc)) (j : Nat) (i : Nat) : Bool := decide (∃ k l, of[i]? = some k ∧ k < j ∧ W[k]? = some l ∧ fine c l)
theorem upC_no {c : Cond} {of : List Nat} {W : List (List Arc)} {j : Nat} {l : List Arc} (h : W[j]? = some l) (hf : ¬ fine c l) (i : Nat) : upC c of W (j + 1) i = upC c of W j i := by
  unfold upC
  congr 1
  apply propext
  constructor
  · rintro ⟨k, m, h1, h2, h3, h4⟩
    refine ⟨k, m, h1, ?_, h3, h4⟩
    rcases Nat.lt_or_ge k j with hk | hk
    · exact hk
    · obtain rfl : k = j := by omega
      rw [h] at h3; cases h3; exact absurd h4 hf
  · rintro ⟨k, m, h1, h2, h3, h4⟩
    exact ⟨k, m, h1, by omega, h3, h4⟩
theorem upC_yes {c : Cond} {of : List Nat} {W : List (List Arc)} {j : Nat} {l : List Arc} (h : W[j]? = some l) (hf : fine c l) {i k : Nat} (hk : of[i]? = some k) : upC c of W (j + 1) i = (upC c of W j i || decide (k = j)) := by
  unfold upC
  rw [← Bool.decide_or]
  congr 1
  apply propext
  constructor
  · rintro ⟨k', m, h1, h2, h3, h4⟩
    rw [hk] at h1; cases h1
    rcases Nat.lt_or_ge k j with hkj | hkj
    · exact .inl ⟨k, m, hk, hkj, h3, h4⟩
    · exact .inr (by omega)
  · rintro (⟨k', m, h1, h2, h3, h4⟩ | rfl)
    · exact ⟨k', m, h1, by omega, h3, h4⟩
    · exact ⟨k, l, hk, Nat.lt_succ_self k, h, hf⟩
theorem upC_zero (c : Cond) (of : List Nat) (W : List (List Arc)) (n : Nat) : (List.range n).map (upC c of W 0) = List.replicate n false := by
  apply List.ext_getElem?
  intro x
  rw [List.getElem?_replicate]
  split
  · rename_i h
    rw [List.getElem?_map, List.getElem?_range h]
    show some (upC c of W 0 x) = some false
    exact congrArg some (decide_eq_false (by rintro ⟨k, l, _, hk, _⟩; exact absurd hk (Nat.not_lt_zero k)))
  · rename_i h
    rw [List.getElem?_eq_none (by simp; omega)]
theorem upC_all {n : Nat} {arcs : List Arc} {c : Cond} {of : List Nat} {W : List (List Arc)} (hP : Parts n arcs c of W) : (List.range n).map (upC c of W W.length) = cycL n arcs c := by
  unfold cycL
  refine List.map_congr_left fun i hi => ?_
  have hin : i < of.length := by rw [hP.len]; exact List.mem_range.1 hi
  have hk : of[i]? = some of[i] := List.getElem?_eq_getElem hin
  have hlt := hP.lt i _ hk
  have hl : W[of[i]]? = some W[of[i]] := List.getElem?_eq_getElem hlt
  unfold upC cycB
  congr 1
  apply propext
  rw [cycle_iff arcs c i W[of[i]] (hP.mem i _ _ hk hl)]
  constructor
  · rintro ⟨k, l, h1, _, h3, h4⟩
    rw [hk] at h1; cases h1
    rw [hl] at h3; cases h3
    exact h4
  · intro h
    exact ⟨_, _, hk, hlt, hl, h⟩
theorem Gets.ldRIv {P : Program} {H : AHeap} {t : TypeId} {l : List Int} {off : Nat} {x : Int} {A : AVal → Prop} (ht : tinfo P t = some tiI) (h : l[off]? = some x) (hA : A (.int .i64 x)) : Gets (loadA P H t (.rptr (ints l) off)) A :=
  Gets.ldRI ht (List.getElem?_eq_some_iff.1 h).1 (by rw [List.getD_eq_getElem?_getD, h]; exact hA)
theorem cyclesR (hp : PartsT) : CycT := by
  intro n arcs c hi hc H
  obtain ⟨of, W, hP, hcall⟩ := hp n arcs c hi hc
  have hn1 := hi.n1
  have hl1 := hi.len
  have hwn := hP.wn
  have hol := hP.len
  refine CallW.pure ?_ rfl H
  refine CallW.symK (cuts := []) Try.func181 rfl (by kernel_rfl) ?_
  conv => whnf
  repeat' first | ((refine Gets.makeB (k := 1) rfl rfl (by decide) rfl (by decide) (by omega) (by omega) ?_); conv => whnf) | (refine Gets.of _ rfl ?_; conv => whnf)
  refine CallS.of (by kernel_rfl) (hcall _) rfl ?_
  rintro _ _ ⟨rfl, rfl⟩
  conv => whnf
  repeat' (refine Gets.of _ rfl ?_; conv => whnf)
  refine CodeS.loopGK (cuts := []) (σ := Nat) (fun j => [(5, .ptr 0 0), (7, .slice 1 0 n), (8, rI (of.map Int.ofNat)), (26, rR (W.map rA)), (27, .int .i64 ((W.map rA).length : Int)), (28, .int .i64 (j : Int))]) (fun j => (emptyH.alloc (.cells 1 (ints (prs c)))).alloc (.cells 1 (bls ((List.range n).map (upC c of W j))))) (fun j => j ≤ W.length) (fun j => W.length - j) 0 (renL [0, 1] 2) (by kernel_rfl) (Nat.zero_le _) ⟨rfl, rfl, rfl, rfl, rfl, rfl, trivial⟩ (EmbL.litsN [0, 1] rfl rfl rfl rfl .nil (.cons ⟨rfl, .inl rfl⟩ (.cons ⟨rfl, ?_⟩ .nil))) ?_
  · exact .cellsBe (by rw [upC_zero]; simp)
  intro j hj
  have hwl : (W.map rA).length = W.length := List.length_map ..
  rcases Nat.lt_or_ge j W.length with hjl | hjl
  · obtain ⟨l, hlj⟩ := getE hjl
    have hlm : l ∈ W := List.mem_of_getElem? hlj
    have hls := hP.sz l hlm
    have hmk : ∀ a ∈ l, a.marks < 2 ^ 62 ∧ a.other < 2 ^ 62 := fun a ha => hi.mks a (hP.sub l hlm a ha)
    have hrow : (W.map rA)[j]? = some (rA l) := by rw [List.getElem?_map, hlj]; rfl
    conv => whnf
    repeat' first | ((refine Gets.ldRR rfl rfl hrow ?_); conv => whnf) | (refine Gets.of _ rfl ?_; conv => whnf) | (refine Gets.ixR1 rfl rfl (by omega) ?_; conv => whnf) | (refine Fork.dec (fun _ => ?_) (fun _ => ?_) <;> first | (exfalso; omega) | (conv => whnf))
    have hH : ∀ i, i ≤ l.length → marksOf (l.take i) < 2 ^ 62 ∧ otherOf (l.take i) < 2 ^ 62 := fun i _ => ⟨marksOf_lt fun a ha => (hmk a (List.mem_of_mem_take ha)).1, otherOf_lt fun a ha => (hmk a (List.mem_of_mem_take ha)).2⟩
    refine CodeS.loopGK (cuts := []) (σ := Nat) (fun i => [(5, .ptr 0 0), (7, .slice 1 0 n), (8, rI (of.map Int.ofNat)), (10, .int .i64 (j : Int)), (11, rA l), (12, .int .i64 ((marksOf (l.take i) : Nat) : Int)), (13, .int .i64 ((otherOf (l.take i) : Nat) : Int)), (26, rR (W.map rA)), (27, .int .i64 ((W.map rA).length : Int)), (28, .int .i64 (j : Int)), (33, rA l), (34, .int .i64 (l.length : Int)), (35, .int .i64 (i : Int))]) (fun _ => (emptyH.alloc (.cells 1 (ints (prs c)))).alloc (.cells 1 (bls ((List.range n).map (upC c of W j))))) (fun i => i ≤ l.length) (fun i => l.length - i) 0 (renL [0, 1] 2) (by kernel_rfl) (Nat.zero_le _) ⟨rfl, rfl, rfl, rfl, rfl, rfl, rfl, rfl, rfl, rfl, rfl, rfl, rfl, trivial⟩ (EmbL.litsN [0, 1] rfl rfl rfl rfl .nil (.cons ⟨rfl, .inl rfl⟩ (.cons ⟨rfl, .cellsB⟩ .nil))) ?_
    intro i hil
    rcases Nat.lt_or_ge i l.length with hix | hix
    · obtain ⟨x, hx⟩ := getE hix
      have hxm := hmk x (List.mem_of_getElem? hx)
      have hb := hH i hil
      have htk : l.take (i + 1) = l.take i ++ [x] := by
        obtain ⟨_, rfl⟩ := List.getElem?_eq_some_iff.1 hx
        exact List.take_succ_eq_append_getElem hix
      conv => whnf
      repeat' first | ((refine Gets.ixRE (es := 4) rfl (by kernel_rfl) (by omega) ?_); conv => whnf) | ((refine Gets.ldRK recA rfl rfl rfl rfl hx ?_); conv => whnf) | ((with_reducible refine Gets.addI ?_ ?_ ?_); (· omega); (· omega); conv => whnf) | (refine Gets.of _ rfl ?_; conv => whnf) | (refine Fork.dec (fun _ => ?_) (fun _ => ?_) <;> first | (exfalso; omega) | (conv => whnf))
      refine ⟨i + 1, renL [0, 1] 3, hix, by show l.length - (i + 1) < _; omega, ⟨rfl, rfl, rfl, rfl, rfl, ?_, ?_, rfl, rfl, rfl, rfl, rfl, rfl, trivial⟩, EmbL.litsN [0, 1] rfl rfl rfl rfl .nil (.cons ⟨rfl, .inl rfl⟩ (.cons ⟨rfl, .cellsB⟩ .nil))⟩
      · rw [htk, marksOf_snoc]
        exact congrArg (AVal.int .i64) (Vh.orI (m := marksOf (l.take i)) (n := x.marks) (by omega) (by omega))
      · rw [htk, otherOf_snoc]
        exact congrArg (AVal.int .i64) (Vh.orI (m := otherOf (l.take i)) (n := x.other) (by omega) (by omega))
    · obtain rfl : i = l.length := by omega
      have hb := hH l.length (Nat.le_refl _)
      rw [List.take_length] at hb ⊢
      have hA := Vk.minusI (m := c.again) (n := marksOf l) (by have := hc.c2; omega) (by omega)
      have hB := Vk.minusI (m := c.again2) (n := otherOf l) (by have := hc.c4; omega) (by omega)
      conv => whnf
      repeat' first | ((with_reducible refine Gets.addI ?_ ?_ ?_); (· omega); (· omega); conv => whnf) | (refine Gets.of _ rfl ?_; conv => whnf) | (refine Fork.dec (fun _ => ?_) (fun _ => ?_) <;> first | (exfalso; omega) | (conv => whnf))
      rotate_left
      · rename_i h1 h2
        have hno := List.map_congr_left (l := List.range n) fun i _ => upC_no (c := c) (of := of) hlj (fun hf => by rw [hB, Vk.minus_zero.2 hf.2.2] at h2; exact h2 rfl) i
        exact ⟨j + 1, renL [0, 1] 2, hjl, by show W.length - (j + 1) < _; omega, ⟨rfl, rfl, rfl, rfl, rfl, rfl, trivial⟩, EmbL.litsN [0, 1] rfl rfl rfl rfl .nil (.cons ⟨rfl, .inl rfl⟩ (.cons ⟨rfl, .cellsBe hno⟩ .nil))⟩
      · rename_i h1
        have hno := List.map_congr_left (l := List.range n) fun i _ => upC_no (c := c) (of := of) hlj (fun hf => by rw [hA, Vk.minus_zero.2 hf.2.1] at h1; exact h1 rfl) i
        exact ⟨j + 1, renL [0, 1] 2, hjl, by show W.length - (j + 1) < _; omega, ⟨rfl, rfl, rfl, rfl, rfl, rfl, trivial⟩, EmbL.litsN [0, 1] rfl rfl rfl rfl .nil (.cons ⟨rfl, .inl rfl⟩ (.cons ⟨rfl, .cellsBe hno⟩ .nil))⟩
      · rename_i h1
        have hno := List.map_congr_left (l := List.range n) fun i _ => upC_no (c := c) (of := of) hlj (fun hf => hf.1 (List.eq_nil_of_length_eq_zero (by omega))) i
        exact ⟨j + 1, renL [0, 1] 2, hjl, by show W.length - (j + 1) < _; omega, ⟨rfl, rfl, rfl, rfl, rfl, rfl, trivial⟩, EmbL.litsN [0, 1] rfl rfl rfl rfl .nil (.cons ⟨rfl, .inl rfl⟩ (.cons ⟨rfl, .cellsBe hno⟩ .nil))⟩
      rename_i h0 h1 h2
      have hfine : fine c l := ⟨fun he => by rw [he] at h0; exact absurd h0 (by decide), Vk.minus_zero.1 (by rw [hA] at h1; omega), Vk.minus_zero.1 (by rw [hB] at h2; omega)⟩
      have hofl : (of.map Int.ofNat).length = n := by rw [List.length_map, hol]
      refine CodeS.loopGK (cuts := []) (σ := Nat) (fun i => [(5, .ptr 0 0), (7, .slice 1 0 n), (8, rI (of.map Int.ofNat)), (10, .int .i64 (j : Int)), (26, rR (W.map rA)), (27, .int .i64 ((W.map rA).length : Int)), (28, .int .i64 (j : Int)), (68, .int .i64 ((of.map Int.ofNat).length : Int)), (69, .int .i64 (i : Int))]) (fun i => (emptyH.alloc (.cells 1 (ints (prs c)))).alloc (.cells 1 (bls (bl2 n (upC c of W (j + 1)) (upC c of W j) i)))) (fun i => i ≤ n) (fun i => n - i) 0 (renL [0, 1] 2) (by kernel_rfl) (Nat.zero_le _) ⟨rfl, rfl, rfl, rfl, rfl, rfl, rfl, rfl, rfl, trivial⟩ (EmbL.litsN [0, 1] rfl rfl rfl rfl .nil (.cons ⟨rfl, .inl rfl⟩ (.cons ⟨rfl, .cellsBe bl2_zero⟩ .nil))) ?_
      intro i hin
      rcases Nat.lt_or_ge i n with hil | hil
      · obtain ⟨k, hki⟩ := getE (l := of) (j := i) (by omega)
        have hki2 : (of.map Int.ofNat)[i]? = some (k : Int) := by rw [List.getElem?_map, hki]; rfl
        have hqi : (bl2 n (upC c of W (j + 1)) (upC c of W j) i)[i]? = some (upC c of W j i) := by rw [bl2_get hil, if_neg (Nat.lt_irrefl i)]
        have hset := bl2_set (p := upC c of W (j + 1)) (q := upC c of W j) hil
        have hbl := bl2_length n (upC c of W (j + 1)) (upC c of W j) i
        rw [upC_yes hlj hfine hki] at hset
        generalize upC c of W j i = b1 at hqi hset
        rcases b1 with _ | _ <;> by_cases hkj : k = j
        all_goals first | rw [decide_eq_true hkj] at hset | rw [decide_eq_false hkj] at hset
        all_goals
          conv => whnf
          repeat' first | ((refine Gets.ldRIv rfl hki2 ?_); conv => whnf) | ((refine Gets.ldBv rfl rfl hqi ?_); conv => whnf) | ((refine Gets.stB rfl rfl (by rw [hbl]; exact hil) ?_); conv => whnf) | ((with_reducible refine Gets.addI ?_ ?_ ?_); (· omega); (· omega); conv => whnf) | (refine Gets.ix1 rfl rfl (by omega) ?_; conv => whnf) | (refine Gets.ixR1 rfl rfl (by omega) ?_; conv => whnf) | (refine Fork.dec (fun _ => ?_) (fun _ => ?_) <;> first | (exfalso; omega) | (conv => whnf))
        all_goals exact ⟨i + 1, renL [0, 1] 2, hil, by omega, ⟨rfl, rfl, rfl, rfl, rfl, rfl, rfl, rfl, rfl, trivial⟩, EmbL.litsN [0, 1] rfl rfl rfl rfl .nil (.cons ⟨rfl, .inl rfl⟩ (.cons ⟨rfl, .cellsBe hset.symm⟩ .nil))⟩
      · obtain rfl : i = n := by omega
        conv => whnf
        repeat' first | ((with_reducible refine Gets.addI ?_ ?_ ?_); (· omega); (· omega); conv => whnf) | (refine Fork.dec (fun _ => ?_) (fun _ => ?_) <;> first | (exfalso; omega) | (conv => whnf))
        exact ⟨j + 1, renL [0, 1] 2, hjl, by show W.length - (j + 1) < _; omega, ⟨rfl, rfl, rfl, rfl, rfl, rfl, trivial⟩, EmbL.litsN [0, 1] rfl rfl rfl rfl .nil (.cons ⟨rfl, .inl rfl⟩ (.cons ⟨rfl, .cellsBe bl2_all.symm⟩ .nil))⟩
  · obtain rfl : j = W.length := by omega
    conv => whnf
    repeat' (refine Fork.dec (fun _ => ?_) (fun _ => ?_) <;> first | (exfalso; omega) | (conv => whnf))
    rw [upC_all hP]
    exact ⟨[1], _, rfl, frzBl (by simp [cycL]) rfl rfl, rfl, rfl⟩
end Go.Proofs.Ytaccmanpanpbiaa

/- What a search that goes on from a list of nodes finds. Plain. -/
set_option linter.unusedVariables false
set_option linter.unusedSimpArgs false
namespace Go.Proofs.Ytaccmanpanpbiaa
open Go Go.Vh Go.Vk Go.Vn Go.Proofs
open Classical
/-- One allowed arc leads from i to k. -/
def Step1 (arcs : List Arc) (c : Cond) (i k : Nat) : Prop := ∃ a, c.Free arcs a ∧ a.fr = i ∧ a.to = k
def oB (outs : List Bool) (i : Nat) : Bool := outs.getD i false
theorem oB_set {outs : List Bool} {k : Nat} (hk : k < outs.length) (i : Nat) : oB (outs.set k true) i = (decide (i = k) || oB outs i) := by
  unfold oB
  rw [List.getD_eq_getElem?_getD, List.getD_eq_getElem?_getD, List.getElem?_set]
  by_cases h : k = i
  · subst h; simp [hk]
  · rw [if_neg h, decide_eq_false (fun h' => h h'.symm), Bool.false_or]
theorem count_set {outs : List Bool} {k : Nat} (hk : outs[k]? = some false) : (outs.set k true).count false + 1 = outs.count false := by
  obtain ⟨hl, he⟩ := List.getElem?_eq_some_iff.1 hk
  have h1 : outs = outs.take k ++ false :: outs.drop (k + 1) := by
    have := List.take_append_drop k outs
    rw [List.drop_eq_getElem_cons hl, he] at this
    exact this.symm
  have h2 : outs.set k true = outs.take k ++ true :: outs.drop (k + 1) := List.set_eq_take_append_cons_drop .. |>.trans (if_pos hl)
  rw [h2]
  conv => rhs; rw [h1]
  simp [List.count_append, List.count_cons]; omega
/-- The search: good nodes are found, found nodes can be reached, and what is found leads to what is found, but for the nodes to go on from (and one that is looked at). -/
structure DI (n : Nat) (arcs : List Arc) (c : Cond) (good : Nat → Bool) (outs : List Bool) (l : List Nat) (at' : Nat → Prop) : Prop where
  len : outs.length = n
  sub : ∀ i, i < n → good i = true → oB outs i = true
  rch : ∀ i, i < n → oB outs i = true → ∃ j, j < n ∧ good j = true ∧ Vn.Reach (c.Free arcs) j i
  st : ∀ x ∈ l, x < n ∧ oB outs x = true
  cl : ∀ i, i < n → oB outs i = true → i ∈ l ∨ at' i ∨ ∀ k, Step1 arcs c i k → oB outs k = true
theorem DI.done {n : Nat} {arcs : List Arc} {c : Cond} {good : Nat → Bool} {outs : List Bool} (hi : InR n arcs) (h : DI n arcs c good outs [] fun _ => False) : outs = reachL n arcs good c := by
  have key : ∀ i l k, Path (c.Free arcs) i l k → i < n → oB outs i = true → oB outs k = true := by
    intro i l k hp
    induction hp with
    | nil i => intro _ h; exact h
    | @cons a l k ha hp ih =>
      intro hin ho
      rcases h.cl _ hin ho with h1 | h1 | h1
      · cases h1
      · exact h1.elim
      · exact ih (hi.to _ ha.1) (h1 _ ⟨a, ha, rfl, rfl⟩)
  apply List.ext_getElem?
  intro i
  rcases Nat.lt_or_ge i n with hin | hin
  · have e1 : outs[i]? = some (oB outs i) := by
      unfold oB
      rw [List.getD_eq_getElem?_getD, List.getElem?_eq_getElem (by rw [h.len]; exact hin)]; rfl
    rw [e1, reachL, List.getElem?_map, List.getElem?_range hin]
    show some _ = some _
    congr 1
    unfold reachB
    cases ho : oB outs i with
    | true => exact (decide_eq_true (h.rch i hin ho)).symm
    | false =>
      refine (decide_eq_false ?_).symm
      rintro ⟨j, hj, hg, l, hp⟩
      rw [key j l i hp hj (h.sub j hj hg)] at ho
      cases ho
  · rw [List.getElem?_eq_none (by rw [h.len]; exact hin), List.getElem?_eq_none (by simp [reachL]; exact hin)]
theorem DI.start {n : Nat} {arcs : List Arc} {c : Cond} {good : Nat → Bool} : DI n arcs c good ((List.range n).map good) ((List.range n).filter good) fun _ => False := by
  have ho : ∀ i, i < n → oB ((List.range n).map good) i = good i := fun i hi => by unfold oB; simp [hi]
  refine ⟨by simp, fun i hi hg => by rw [ho i hi]; exact hg, fun i hi h => ⟨i, hi, by rw [ho i hi] at h; exact h, .refl _ i⟩, fun x hx => ?_, fun i hi h => .inl ?_⟩
  · obtain ⟨h1, h2⟩ := List.mem_filter.1 hx
    have := List.mem_range.1 h1
    exact ⟨this, by rw [ho x this]; exact h2⟩
  · rw [ho i hi] at h
    exact List.mem_filter.2 ⟨List.mem_range.2 hi, h⟩
/-- A node is taken off the list, to be looked at. -/
theorem DI.pop {n : Nat} {arcs : List Arc} {c : Cond} {good : Nat → Bool} {outs : List Bool} {l : List Nat} {x : Nat} (h : DI n arcs c good outs (l ++ [x]) fun _ => False) : DI n arcs c good outs l (fun i => i = x) := by
  refine ⟨h.len, h.sub, h.rch, fun y hy => h.st y (List.mem_append_left _ hy), fun i hi ho => ?_⟩
  rcases h.cl i hi ho with h1 | h1 | h1
  · rcases List.mem_append.1 h1 with h2 | h2
    · exact .inl h2
    · exact .inr (.inl (List.mem_singleton.1 h2))
  · exact h1.elim
  · exact .inr (.inr h1)
/-- A node to which an arc leads is found. -/
theorem DI.push {n : Nat} {arcs : List Arc} {c : Cond} {good : Nat → Bool} {outs : List Bool} {l : List Nat} {x k : Nat} (hx : x < n) (hox : oB outs x = true) (hk : k < n) (hs : Step1 arcs c x k) (h : DI n arcs c good outs l (fun i => i = x)) : DI n arcs c good (outs.set k true) (l ++ [k]) (fun i => i = x) := by
  have hkl : k < outs.length := by rw [h.len]; exact hk
  have up : ∀ i, oB outs i = true → oB (outs.set k true) i = true := fun i hi => by rw [oB_set hkl, hi, Bool.or_true]
  refine ⟨by rw [List.length_set]; exact h.len, fun i hi hg => up i (h.sub i hi hg), fun i hi ho => ?_, fun y hy => ?_, fun i hi ho => ?_⟩
  · rw [oB_set hkl, Bool.or_eq_true, decide_eq_true_iff] at ho
    rcases ho with rfl | ho
    · obtain ⟨j, hj, hg, hr⟩ := h.rch x hx hox
      obtain ⟨a, ha, rfl, rfl⟩ := hs
      exact ⟨j, hj, hg, hr.trans (.step ha)⟩
    · exact h.rch i hi ho
  · rcases List.mem_append.1 hy with h1 | h1
    · exact ⟨(h.st y h1).1, up y (h.st y h1).2⟩
    · obtain rfl := List.mem_singleton.1 h1
      exact ⟨hk, by rw [oB_set hkl, decide_eq_true rfl, Bool.true_or]⟩
  · rw [oB_set hkl, Bool.or_eq_true, decide_eq_true_iff] at ho
    rcases ho with rfl | ho
    · exact .inl (List.mem_append_right _ (List.mem_singleton.2 rfl))
    · rcases h.cl i hi ho with h1 | h1 | h1
      · exact .inl (List.mem_append_left _ h1)
      · exact .inr (.inl h1)
      · exact .inr (.inr fun k' hk' => up k' (h1 k' hk'))
/-- All that the node leads to is found. -/
theorem DI.close {n : Nat} {arcs : List Arc} {c : Cond} {good : Nat → Bool} {outs : List Bool} {l : List Nat} {x : Nat} (ha : ∀ k, Step1 arcs c x k → oB outs k = true) (h : DI n arcs c good outs l (fun i => i = x)) : DI n arcs c good outs l fun _ => False := by
  refine ⟨h.len, h.sub, h.rch, h.st, fun i hi ho => ?_⟩
  rcases h.cl i hi ho with h1 | rfl | h1
  · exact .inl h1
  · exact .inr (.inr ha)
  · exact .inr (.inr h1)
end Go.Proofs.Ytaccmanpanpbiaa
