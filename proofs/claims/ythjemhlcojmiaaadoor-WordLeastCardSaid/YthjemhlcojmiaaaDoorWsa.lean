/- Same: words that tell the same letters. -/
import Derived.Test.YthjemhlcojmiaaaDoorWun
import Derived.Test.YthjemhlcojmiaaaDoorWlf
-- VkG VkH
set_option linter.unusedVariables false
set_option linter.unusedSimpArgs false
set_option maxRecDepth 100000
set_option maxHeartbeats 4000000
namespace Go.Proofs.YthjemhlcojmiaaaDoor
open Go Go.Vh Go.Vk Go.Proofs
theorem equal37p (l m : List Int) (n k : Nat) (hn : n ≤ l.length) (hk : k ≤ m.length) (hl : l.length ≤ 4294967296) (hm : m.length ≤ 4294967296) : CallW Tryd.prog 37 [.view 0 0 n, .view 1 0 k] (wh l m) fun v _ => IsB v (l.take n = m.take k) := by
  refine CallW.symK (cuts := []) Tryd.func37 rfl (by kernel_rfl) ?_
  conv => whnf
  repeat' first
    | ((with_reducible refine Gets.shrN ?_ ?_); (· omega); conv => whnf)
    | ((with_reducible refine Gets.andOne ?_ ?_); (· first | omega | exact Nat.lt_of_le_of_lt (Nat.shiftRight_le _ _) (by omega)); conv => whnf)
    | ((with_reducible refine Gets.shlN ?_ ?_); (· omega); conv => whnf)
    | ((with_reducible refine Gets.shlI ?_ ?_ ?_); (· omega); (· omega); conv => whnf)
    | ((with_reducible refine Gets.quoI ?_ ?_ ?_ ?_); (· omega); (· omega); (· omega); conv => whnf)
    | ((with_reducible refine Gets.remN ?_ ?_ ?_); (· omega); (· omega); conv => whnf)
    | ((with_reducible refine Fork.bit (fun _ => ?_) (fun _ => ?_)) <;> (conv => whnf))
    | ((with_reducible refine Gets.addI ?_ ?_ ?_); (· omega); (· omega); conv => whnf)
    | ((with_reducible refine Gets.subI ?_ ?_ ?_); (· omega); (· omega); conv => whnf)
    | ((with_reducible refine Gets.mulI ?_ ?_ ?_); (· omega); (· omega); conv => whnf)
    | (refine Gets.of _ rfl ?_; conv => whnf)
    | (refine Gets.ix1v rfl rfl (by omega) ?_; conv => whnf)
    | (refine Gets.ix1 rfl rfl (by omega) ?_; conv => whnf)
    | (refine Gets.ixIv rfl rfl (by omega) (by omega) ?_; conv => whnf)
    | (refine Gets.ixI rfl rfl (by omega) (by omega) ?_; conv => whnf)
    | (refine Gets.ixEv (es := 2) rfl rfl (by omega) ?_; conv => whnf)
    | (refine Gets.ixE (es := 2) rfl rfl (by omega) ?_; conv => whnf)
    | (refine Gets.ldP (ti := tiP) rfl rfl rfl (by first | rfl | assumption) (by first | omega | exact Nat.le_of_ble_eq_true rfl) ?_; conv => whnf)
    | (refine Gets.ldI rfl (by first | rfl | assumption) (by first | omega | exact Nat.le_of_ble_eq_true rfl) ?_; conv => whnf)
    | (refine Gets.ldB rfl (by first | rfl | assumption) (by first | omega | exact Nat.le_of_ble_eq_true rfl) ?_; conv => whnf)
    | (refine Chk.mk (by repeat first | exact .nil | refine .cons rfl ?_) ?_; conv => whnf)
    | (refine Alls.mk ?_ ?_ <;> conv => whnf)
    | (refine Gets.stA rfl rfl rfl rfl (by simp only [List.all_cons, List.all_nil, oI_sc, oP_sc, oN_sc, Bool.and_true, Bool.true_and] <;> rfl) ?_; conv => whnf)
    | (refine seqL1_of ?_; conv => whnf)
    | (refine seqV_of ?_; conv => whnf)
    | (refine seq1_of ?_; conv => whnf)
    | (refine seq0_of ?_; conv => whnf)
    | (refine Fork.yesR rfl ?_; conv => whnf)
    | (refine Fork.noR rfl ?_; conv => whnf)
    | (refine Fork.dec (fun _ => ?_) (fun _ => ?_) <;> first | (exfalso; omega) | (conv => whnf))
    | (refine Fork.eqI (fun _ => ?_) (fun _ => ?_) <;> first | (exfalso; omega) | (conv => whnf))
    | (refine Fork.neI (fun _ => ?_) (fun _ => ?_) <;> first | (exfalso; omega) | (conv => whnf))
    | (refine Fork.any (fun _ => ?_) (fun _ => ?_) <;> (conv => whnf))
  · exact .f fun h => by have := congrArg List.length h; rw [List.length_take, List.length_take] at this; omega
  have hlen : n = k := by omega
  subst hlen
  refine CodeS.loopSK (cuts := []) (σ := Nat) (fun j => [(0, .view 0 0 n), (1, .view 1 0 n), (12, .int .i64 n), (13, .int .i64 j)]) (fun _ => wh l m) (fun j => j ≤ n ∧ ∀ k, k < j → l.getD k 0 = m.getD k 0) (fun j => n - j) 0 (by kernel_rfl) ⟨Nat.zero_le _, fun k hk => by omega⟩ ⟨rfl, rfl, rfl, rfl, trivial⟩ rfl ?_
  rintro j ⟨g1, g2⟩
  rcases Nat.lt_or_ge j n with hj | hj
  · conv => whnf
    repeat' first
      | ((with_reducible refine Gets.shrN ?_ ?_); (· omega); conv => whnf)
      | ((with_reducible refine Gets.andOne ?_ ?_); (· first | omega | exact Nat.lt_of_le_of_lt (Nat.shiftRight_le _ _) (by omega)); conv => whnf)
      | ((with_reducible refine Gets.shlN ?_ ?_); (· omega); conv => whnf)
      | ((with_reducible refine Gets.shlI ?_ ?_ ?_); (· omega); (· omega); conv => whnf)
      | ((with_reducible refine Gets.quoI ?_ ?_ ?_ ?_); (· omega); (· omega); (· omega); conv => whnf)
      | ((with_reducible refine Gets.remN ?_ ?_ ?_); (· omega); (· omega); conv => whnf)
      | ((with_reducible refine Fork.bit (fun _ => ?_) (fun _ => ?_)) <;> (conv => whnf))
      | ((with_reducible refine Gets.addI ?_ ?_ ?_); (· omega); (· omega); conv => whnf)
      | ((with_reducible refine Gets.subI ?_ ?_ ?_); (· omega); (· omega); conv => whnf)
      | ((with_reducible refine Gets.mulI ?_ ?_ ?_); (· omega); (· omega); conv => whnf)
      | (refine Gets.of _ rfl ?_; conv => whnf)
      | (refine Gets.ix1v rfl rfl (by omega) ?_; conv => whnf)
      | (refine Gets.ix1 rfl rfl (by omega) ?_; conv => whnf)
      | (refine Gets.ixIv rfl rfl (by omega) (by omega) ?_; conv => whnf)
      | (refine Gets.ixI rfl rfl (by omega) (by omega) ?_; conv => whnf)
      | (refine Gets.ixEv (es := 2) rfl rfl (by omega) ?_; conv => whnf)
      | (refine Gets.ixE (es := 2) rfl rfl (by omega) ?_; conv => whnf)
      | (refine Gets.ldP (ti := tiP) rfl rfl rfl (by first | rfl | assumption) (by first | omega | exact Nat.le_of_ble_eq_true rfl) ?_; conv => whnf)
      | (refine Gets.ldI rfl (by first | rfl | assumption) (by first | omega | exact Nat.le_of_ble_eq_true rfl) ?_; conv => whnf)
      | (refine Gets.ldB rfl (by first | rfl | assumption) (by first | omega | exact Nat.le_of_ble_eq_true rfl) ?_; conv => whnf)
      | (refine Chk.mk (by repeat first | exact .nil | refine .cons rfl ?_) ?_; conv => whnf)
      | (refine Alls.mk ?_ ?_ <;> conv => whnf)
      | (refine Gets.stA rfl rfl rfl rfl (by simp only [List.all_cons, List.all_nil, oI_sc, oP_sc, oN_sc, Bool.and_true, Bool.true_and] <;> rfl) ?_; conv => whnf)
      | (refine seqL1_of ?_; conv => whnf)
      | (refine seqV_of ?_; conv => whnf)
      | (refine seq1_of ?_; conv => whnf)
      | (refine seq0_of ?_; conv => whnf)
      | (refine Fork.yesR rfl ?_; conv => whnf)
      | (refine Fork.noR rfl ?_; conv => whnf)
      | (refine Fork.dec (fun _ => ?_) (fun _ => ?_) <;> first | (exfalso; omega) | (conv => whnf))
      | (refine Fork.eqI (fun _ => ?_) (fun _ => ?_) <;> first | (exfalso; omega) | (conv => whnf))
      | (refine Fork.neI (fun _ => ?_) (fun _ => ?_) <;> first | (exfalso; omega) | (conv => whnf))
      | (refine Fork.any (fun _ => ?_) (fun _ => ?_) <;> (conv => whnf))
    refine CodeS.drawT [0, 1] (.take 0 (.take 1 (.take 2 (.take 3 (.take 4 (.take 5 (.take 6 (.take 7 (.take 8 .done))))))))) mixed (by kernel_rfl) (.cons ⟨rfl, live_of_ints rfl (by omega)⟩ (.cons ⟨rfl, live_of_ints rfl (by omega)⟩ .nil)) ?_
    conv => whnf
    repeat' first
      | ((with_reducible refine Gets.shrN ?_ ?_); (· omega); conv => whnf)
      | ((with_reducible refine Gets.andOne ?_ ?_); (· first | omega | exact Nat.lt_of_le_of_lt (Nat.shiftRight_le _ _) (by omega)); conv => whnf)
      | ((with_reducible refine Gets.shlN ?_ ?_); (· omega); conv => whnf)
      | ((with_reducible refine Gets.shlI ?_ ?_ ?_); (· omega); (· omega); conv => whnf)
      | ((with_reducible refine Gets.quoI ?_ ?_ ?_ ?_); (· omega); (· omega); (· omega); conv => whnf)
      | ((with_reducible refine Gets.remN ?_ ?_ ?_); (· omega); (· omega); conv => whnf)
      | ((with_reducible refine Fork.bit (fun _ => ?_) (fun _ => ?_)) <;> (conv => whnf))
      | ((with_reducible refine Gets.addI ?_ ?_ ?_); (· omega); (· omega); conv => whnf)
      | ((with_reducible refine Gets.subI ?_ ?_ ?_); (· omega); (· omega); conv => whnf)
      | ((with_reducible refine Gets.mulI ?_ ?_ ?_); (· omega); (· omega); conv => whnf)
      | (refine Gets.of _ rfl ?_; conv => whnf)
      | (refine Gets.ix1v rfl rfl (by omega) ?_; conv => whnf)
      | (refine Gets.ix1 rfl rfl (by omega) ?_; conv => whnf)
      | (refine Gets.ixIv rfl rfl (by omega) (by omega) ?_; conv => whnf)
      | (refine Gets.ixI rfl rfl (by omega) (by omega) ?_; conv => whnf)
      | (refine Gets.ixEv (es := 2) rfl rfl (by omega) ?_; conv => whnf)
      | (refine Gets.ixE (es := 2) rfl rfl (by omega) ?_; conv => whnf)
      | (refine Gets.ldP (ti := tiP) rfl rfl rfl (by first | rfl | assumption) (by first | omega | exact Nat.le_of_ble_eq_true rfl) ?_; conv => whnf)
      | (refine Gets.ldI rfl (by first | rfl | assumption) (by first | omega | exact Nat.le_of_ble_eq_true rfl) ?_; conv => whnf)
      | (refine Gets.ldB rfl (by first | rfl | assumption) (by first | omega | exact Nat.le_of_ble_eq_true rfl) ?_; conv => whnf)
      | (refine Chk.mk (by repeat first | exact .nil | refine .cons rfl ?_) ?_; conv => whnf)
      | (refine Alls.mk ?_ ?_ <;> conv => whnf)
      | (refine Gets.stA rfl rfl rfl rfl (by simp only [List.all_cons, List.all_nil, oI_sc, oP_sc, oN_sc, Bool.and_true, Bool.true_and] <;> rfl) ?_; conv => whnf)
      | (refine seqL1_of ?_; conv => whnf)
      | (refine seqV_of ?_; conv => whnf)
      | (refine seq1_of ?_; conv => whnf)
      | (refine seq0_of ?_; conv => whnf)
      | (refine Fork.yesR rfl ?_; conv => whnf)
      | (refine Fork.noR rfl ?_; conv => whnf)
      | (refine Fork.dec (fun _ => ?_) (fun _ => ?_) <;> first | (exfalso; omega) | (conv => whnf))
      | (refine Fork.eqI (fun _ => ?_) (fun _ => ?_) <;> first | (exfalso; omega) | (conv => whnf))
      | (refine Fork.neI (fun _ => ?_) (fun _ => ?_) <;> first | (exfalso; omega) | (conv => whnf))
      | (refine Fork.any (fun _ => ?_) (fun _ => ?_) <;> (conv => whnf))
    · rename_i hne
      refine .f fun h => hne ?_
      have := congrArg (fun x => x.getD j 0) h
      simp only [List.getD_eq_getElem?_getD, List.getElem?_take, hj, if_true] at this
      rw [List.getD_eq_getElem?_getD, List.getD_eq_getElem?_getD]
      exact this
    · exact ⟨j + 1, ⟨by omega, lt_succ_all g2 (by assumption)⟩, by omega, ⟨rfl, rfl, rfl, rfl, trivial⟩, rfl⟩
  · conv => whnf
    repeat' first
      | ((with_reducible refine Gets.shrN ?_ ?_); (· omega); conv => whnf)
      | ((with_reducible refine Gets.andOne ?_ ?_); (· first | omega | exact Nat.lt_of_le_of_lt (Nat.shiftRight_le _ _) (by omega)); conv => whnf)
      | ((with_reducible refine Gets.shlN ?_ ?_); (· omega); conv => whnf)
      | ((with_reducible refine Gets.shlI ?_ ?_ ?_); (· omega); (· omega); conv => whnf)
      | ((with_reducible refine Gets.quoI ?_ ?_ ?_ ?_); (· omega); (· omega); (· omega); conv => whnf)
      | ((with_reducible refine Gets.remN ?_ ?_ ?_); (· omega); (· omega); conv => whnf)
      | ((with_reducible refine Fork.bit (fun _ => ?_) (fun _ => ?_)) <;> (conv => whnf))
      | ((with_reducible refine Gets.addI ?_ ?_ ?_); (· omega); (· omega); conv => whnf)
      | ((with_reducible refine Gets.subI ?_ ?_ ?_); (· omega); (· omega); conv => whnf)
      | ((with_reducible refine Gets.mulI ?_ ?_ ?_); (· omega); (· omega); conv => whnf)
      | (refine Gets.of _ rfl ?_; conv => whnf)
      | (refine Gets.ix1v rfl rfl (by omega) ?_; conv => whnf)
      | (refine Gets.ix1 rfl rfl (by omega) ?_; conv => whnf)
      | (refine Gets.ixIv rfl rfl (by omega) (by omega) ?_; conv => whnf)
      | (refine Gets.ixI rfl rfl (by omega) (by omega) ?_; conv => whnf)
      | (refine Gets.ixEv (es := 2) rfl rfl (by omega) ?_; conv => whnf)
      | (refine Gets.ixE (es := 2) rfl rfl (by omega) ?_; conv => whnf)
      | (refine Gets.ldP (ti := tiP) rfl rfl rfl (by first | rfl | assumption) (by first | omega | exact Nat.le_of_ble_eq_true rfl) ?_; conv => whnf)
      | (refine Gets.ldI rfl (by first | rfl | assumption) (by first | omega | exact Nat.le_of_ble_eq_true rfl) ?_; conv => whnf)
      | (refine Gets.ldB rfl (by first | rfl | assumption) (by first | omega | exact Nat.le_of_ble_eq_true rfl) ?_; conv => whnf)
      | (refine Chk.mk (by repeat first | exact .nil | refine .cons rfl ?_) ?_; conv => whnf)
      | (refine Alls.mk ?_ ?_ <;> conv => whnf)
      | (refine Gets.stA rfl rfl rfl rfl (by simp only [List.all_cons, List.all_nil, oI_sc, oP_sc, oN_sc, Bool.and_true, Bool.true_and] <;> rfl) ?_; conv => whnf)
      | (refine seqL1_of ?_; conv => whnf)
      | (refine seqV_of ?_; conv => whnf)
      | (refine seq1_of ?_; conv => whnf)
      | (refine seq0_of ?_; conv => whnf)
      | (refine Fork.yesR rfl ?_; conv => whnf)
      | (refine Fork.noR rfl ?_; conv => whnf)
      | (refine Fork.dec (fun _ => ?_) (fun _ => ?_) <;> first | (exfalso; omega) | (conv => whnf))
      | (refine Fork.eqI (fun _ => ?_) (fun _ => ?_) <;> first | (exfalso; omega) | (conv => whnf))
      | (refine Fork.neI (fun _ => ?_) (fun _ => ?_) <;> first | (exfalso; omega) | (conv => whnf))
      | (refine Fork.any (fun _ => ?_) (fun _ => ?_) <;> (conv => whnf))
    refine .t (List.ext_getElem (by rw [List.length_take, List.length_take]; omega) fun k h1 h2 => ?_)
    rw [List.length_take] at h1 h2
    have := g2 k (by omega)
    rw [List.getD_eq_getElem?_getD, List.getD_eq_getElem?_getD, List.getElem?_eq_getElem (by omega), List.getElem?_eq_getElem (by omega)] at this
    rw [List.getElem_take, List.getElem_take]
    exact this
theorem equal37q (l m : List Int) (n k : Nat) (hn : n ≤ l.length) (hk : k ≤ m.length) (hl : l.length ≤ 4294967296) (hm : m.length ≤ 4294967296) {H : AHeap} {i j : Nat} (hi : At H 1 (ints l) i) (hj : At H 1 (ints m) j) : CallW Tryd.prog 37 [.view i 0 n, .view j 0 k] H fun v H' => H' = H ∧ IsB v (l.take n = m.take k) :=
  (equal37p l m n k hn hk hl hm).readsAt IsB.noRef [i, j] rfl (.cons ⟨_, _, rfl, hi⟩ (.cons ⟨_, _, rfl, hj⟩ .nil))
def regOf (n : Nat) : Code → Option Code
  | .region k ops m => if Nat.beq k n = true then some (.region k ops m) else none
  | .seq a b => match regOf n a with
    | some r => some r
    | none => regOf n b
  | .block _ c => regOf n c
  | _ => none
def cutK (n0 : Nat) (el : List (Nat × AVal)) (G : AHeap) (K : Exit → Env → AHeap → Prop) : Exit → Env → AHeap → Prop := fun x e H => match x with
  | .normal => ∃ κ, keepsR κ el e ∧ EmbL n0 κ G H
  | x => K x e H
theorem CodeS.cutR {P : Program} {N n0 : Nat} {ρ : Option Nat} (cuts : List Nat) (el : List (Nat × AVal)) (G : AHeap) {a b : Code} {e : Env} {H : AHeap} {K : Exit → Env → AHeap → Prop} (hok : okCode N b = true)
    (h1 : CodeS P N ρ n0 a e H (cutK n0 el G K)) (h2 : sc P N ρ n0 cuts b (envOf el) G K) : CodeS P N ρ n0 (.seq a b) e H K := by
  refine ⟨CWF.seq (h1.code.mono ?_)⟩
  intro x e' H' hx
  cases x with
  | normal =>
    obtain ⟨κ, hk, hE⟩ := hx
    exact CWF.gcL hE (keepsR_spec _ hk) (sc_sound b _ _ _ hok h2)
  | _ => exact hx
def SameR (u v : Wd) (b : Bool) (e : Int) : Prop := (¬ (u.Ok 6 ∧ v.Ok 6) ∧ b = false ∧ e = 1) ∨ ((u.Ok 6 ∧ v.Ok 6) ∧ e = 0 ∧ (b = true ↔ nf u = nf v))
def s4 (u v : Wd) : AHeap := ⟨6, fun i => match i with
  | 4 => .cells 1 [.view 0 0 u.stem.length, .view 1 0 u.loop.length] | 5 => .cells 1 [.view 2 0 v.stem.length, .view 3 0 v.loop.length]
  | i => (h4 u v).f i, fun _ => 0⟩
noncomputable def s5 (u v : Wd) : AHeap := ⟨12, fun i => match i with
  | 6 => vB u.stem | 7 => vB (nfP u.stem u.loop).loop | 8 => vB v.stem | 9 => vB (nfP v.stem v.loop).loop | 10 => .cells 1 [.view 6 0 (nfP u.stem u.loop).n, .view 7 0 (nfP u.stem u.loop).loop.length] | 11 => .cells 1 [.view 8 0 (nfP v.stem v.loop).n, .view 9 0 (nfP v.stem v.loop).loop.length]
  | i => (s4 u v).f i, fun _ => 0⟩
noncomputable def rgS : Code := (Tryd.f11.body.bind (regOf 3)).getD .skip
def elS3 : List (Nat × AVal) := [(2, .ptr 4 0), (3, .ptr 5 0), (4, .bool false), (5, .int .i64 0)]
def elS4 : List (Nat × AVal) := [(2, .ptr 4 0), (3, .ptr 5 0), (4, .bool false), (5, .int .i64 0), (6, .ptr 10 0), (7, .ptr 11 0)]
theorem regS (u v : Wd) (hu : u.Ok 6) (hv : v.Ok 6) (K : Exit → Env → AHeap → Prop) : CodeS Tryd.prog 32 none 4 rgS (envOf elS3) (s4 u v) (cutK 4 elS4 (s5 u v) K) := by
    have u1 := hu.s32
    have u2 := hu.l32
    have u3 := hu.p
    have v1 := hv.s32
    have v2 := hv.l32
    have v3 := hv.p
    refine CodeS.drawT [4, 5] (.take 0 (.two (.one 1 true (.two (.one 2 true (.two (.one 3 true (.two (.one 4 true (.one 5 true (.one 6 false (.one 7 false .done)))) (.one 5 true (.one 4 true (.one 6 false (.one 7 false .done)))))) (.two (.one 4 true (.two (.one 3 true (.one 5 true (.one 6 false (.one 7 false .done)))) (.one 5 true (.one 3 true (.one 6 false (.one 7 false .done)))))) (.one 5 true (.two (.one 3 true (.one 4 true (.one 6 false (.one 7 false .done)))) (.one 4 true (.one 3 true (.one 6 false (.one 7 false .done))))))))) (.two (.one 4 true (.two (.one 2 true (.two (.one 3 true (.one 5 true (.one 6 false (.one 7 false .done)))) (.one 5 true (.one 3 true (.one 6 false (.one 7 false .done)))))) (.one 5 true (.one 2 true (.one 3 true (.one 6 false (.one 7 false .done))))))) (.one 5 true (.two (.one 2 true (.two (.one 3 true (.one 4 true (.one 6 false (.one 7 false .done)))) (.one 4 true (.one 3 true (.one 6 false (.one 7 false .done)))))) (.one 4 true (.one 2 true (.one 3 true (.one 6 false (.one 7 false .done)))))))))) (.two (.one 2 true (.two (.one 1 true (.two (.one 3 true (.two (.one 4 true (.one 5 true (.one 6 false (.one 7 false .done)))) (.one 5 true (.one 4 true (.one 6 false (.one 7 false .done)))))) (.two (.one 4 true (.two (.one 3 true (.one 5 true (.one 6 false (.one 7 false .done)))) (.one 5 true (.one 3 true (.one 6 false (.one 7 false .done)))))) (.one 5 true (.two (.one 3 true (.one 4 true (.one 6 false (.one 7 false .done)))) (.one 4 true (.one 3 true (.one 6 false (.one 7 false .done))))))))) (.two (.one 4 true (.two (.one 1 true (.two (.one 3 true (.one 5 true (.one 6 false (.one 7 false .done)))) (.one 5 true (.one 3 true (.one 6 false (.one 7 false .done)))))) (.one 5 true (.one 1 true (.one 3 true (.one 6 false (.one 7 false .done))))))) (.one 5 true (.two (.one 1 true (.two (.one 3 true (.one 4 true (.one 6 false (.one 7 false .done)))) (.one 4 true (.one 3 true (.one 6 false (.one 7 false .done)))))) (.one 4 true (.one 1 true (.one 3 true (.one 6 false (.one 7 false .done)))))))))) (.two (.one 4 true (.two (.one 1 true (.two (.one 2 true (.two (.one 3 true (.one 5 true (.one 6 false (.one 7 false .done)))) (.one 5 true (.one 3 true (.one 6 false (.one 7 false .done)))))) (.one 5 true (.one 2 true (.one 3 true (.one 6 false (.one 7 false .done))))))) (.two (.one 2 true (.two (.one 1 true (.two (.one 3 true (.one 5 true (.one 6 false (.one 7 false .done)))) (.one 5 true (.one 3 true (.one 6 false (.one 7 false .done)))))) (.one 5 true (.one 1 true (.one 3 true (.one 6 false (.one 7 false .done))))))) (.one 5 true (.two (.one 1 true (.one 2 true (.one 3 true (.one 6 false (.one 7 false .done))))) (.one 2 true (.one 1 true (.one 3 true (.one 6 false (.one 7 false .done)))))))))) (.one 5 true (.two (.one 1 true (.two (.one 2 true (.two (.one 3 true (.one 4 true (.one 6 false (.one 7 false .done)))) (.one 4 true (.one 3 true (.one 6 false (.one 7 false .done)))))) (.one 4 true (.one 2 true (.one 3 true (.one 6 false (.one 7 false .done))))))) (.two (.one 2 true (.two (.one 1 true (.two (.one 3 true (.one 4 true (.one 6 false (.one 7 false .done)))) (.one 4 true (.one 3 true (.one 6 false (.one 7 false .done)))))) (.one 4 true (.one 1 true (.one 3 true (.one 6 false (.one 7 false .done))))))) (.one 4 true (.two (.one 1 true (.one 2 true (.one 3 true (.one 6 false (.one 7 false .done))))) (.one 2 true (.one 1 true (.one 3 true (.one 6 false (.one 7 false .done)))))))))))))) mixed (by kernel_rfl) (.cons ⟨rfl, trivial⟩ (.cons ⟨rfl, trivial⟩ .nil)) ?_
    conv => whnf
    repeat' first
      | ((refine CallPS.of (by kernel_rfl) (mkAt (normal36 u.stem u.loop 0 (Nat.zero_le _) u1 u3 u2) (i := 0) (j := 1) (.roB rfl rfl) (.roB rfl rfl)) rfl ?_; rintro _ _ ⟨rfl, rfl⟩); conv => whnf)
      | ((refine CallPS.of (by kernel_rfl) (mkAt (normal36 v.stem v.loop 0 (Nat.zero_le _) v1 v3 v2) (i := 2) (j := 3) (.roB rfl rfl) (.roB rfl rfl)) rfl ?_; rintro _ _ ⟨rfl, rfl⟩); conv => whnf)
      | ((with_reducible refine Gets.shrN ?_ ?_); (· omega); conv => whnf)
      | ((with_reducible refine Gets.andOne ?_ ?_); (· first | omega | exact Nat.lt_of_le_of_lt (Nat.shiftRight_le _ _) (by omega)); conv => whnf)
      | ((with_reducible refine Gets.shlN ?_ ?_); (· omega); conv => whnf)
      | ((with_reducible refine Gets.shlI ?_ ?_ ?_); (· omega); (· omega); conv => whnf)
      | ((with_reducible refine Gets.quoI ?_ ?_ ?_ ?_); (· omega); (· omega); (· omega); conv => whnf)
      | ((with_reducible refine Gets.remN ?_ ?_ ?_); (· omega); (· omega); conv => whnf)
      | ((with_reducible refine Fork.bit (fun _ => ?_) (fun _ => ?_)) <;> (conv => whnf))
      | ((with_reducible refine Gets.addI ?_ ?_ ?_); (· omega); (· omega); conv => whnf)
      | ((with_reducible refine Gets.subI ?_ ?_ ?_); (· omega); (· omega); conv => whnf)
      | ((with_reducible refine Gets.mulI ?_ ?_ ?_); (· omega); (· omega); conv => whnf)
      | (refine Gets.of _ rfl ?_; conv => whnf)
      | (refine Gets.ix1v rfl rfl (by omega) ?_; conv => whnf)
      | (refine Gets.ix1 rfl rfl (by omega) ?_; conv => whnf)
      | (refine Gets.ixIv rfl rfl (by omega) (by omega) ?_; conv => whnf)
      | (refine Gets.ixI rfl rfl (by omega) (by omega) ?_; conv => whnf)
      | (refine Gets.ixEv (es := 2) rfl rfl (by omega) ?_; conv => whnf)
      | (refine Gets.ixE (es := 2) rfl rfl (by omega) ?_; conv => whnf)
      | (refine Gets.ldP (ti := tiP) rfl rfl rfl (by first | rfl | assumption) (by first | omega | exact Nat.le_of_ble_eq_true rfl) ?_; conv => whnf)
      | (refine Gets.ldI rfl (by first | rfl | assumption) (by first | omega | exact Nat.le_of_ble_eq_true rfl) ?_; conv => whnf)
      | (refine Gets.ldB rfl (by first | rfl | assumption) (by first | omega | exact Nat.le_of_ble_eq_true rfl) ?_; conv => whnf)
      | (refine Chk.mk (by repeat first | exact .nil | refine .cons rfl ?_) ?_; conv => whnf)
      | (refine Alls.mk ?_ ?_ <;> conv => whnf)
      | (refine Gets.stA rfl rfl rfl rfl (by simp only [List.all_cons, List.all_nil, oI_sc, oP_sc, oN_sc, Bool.and_true, Bool.true_and] <;> rfl) ?_; conv => whnf)
      | (refine seqL1_of ?_; conv => whnf)
      | (refine seqV_of ?_; conv => whnf)
      | (refine seq1_of ?_; conv => whnf)
      | (refine seq0_of ?_; conv => whnf)
      | (refine Fork.yesR rfl ?_; conv => whnf)
      | (refine Fork.noR rfl ?_; conv => whnf)
      | (refine Fork.dec (fun _ => ?_) (fun _ => ?_) <;> first | (exfalso; omega) | (conv => whnf))
      | (refine Fork.eqI (fun _ => ?_) (fun _ => ?_) <;> first | (exfalso; omega) | (conv => whnf))
      | (refine Fork.neI (fun _ => ?_) (fun _ => ?_) <;> first | (exfalso; omega) | (conv => whnf))
      | (refine Fork.any (fun _ => ?_) (fun _ => ?_) <;> (conv => whnf))
    · exact ⟨renL [0, 1, 2, 3, 4, 5, 6, 7, 8, 9, 10, 11] 12, ⟨rfl, rfl, rfl, rfl, rfl, rfl, trivial⟩, EmbL.litsN [0, 1, 2, 3, 4, 5, 6, 7, 8, 9, 10, 11] rfl rfl rfl rfl (.cons ⟨rfl, .inl ⟨rfl, fun h => h⟩⟩ (.cons ⟨rfl, .inl ⟨rfl, fun h => h⟩⟩ (.cons ⟨rfl, .inl ⟨rfl, fun h => h⟩⟩ (.cons ⟨rfl, .inl ⟨rfl, fun h => h⟩⟩ .nil)))) (.cons ⟨rfl, .roI⟩ (.cons ⟨rfl, .roI⟩ (.cons ⟨rfl, .roI⟩ (.cons ⟨rfl, .roI⟩ (.cons ⟨rfl, .inl rfl⟩ (.cons ⟨rfl, .inl rfl⟩ (.cons ⟨rfl, .vS rfl⟩ (.cons ⟨rfl, .vS rfl⟩ (.cons ⟨rfl, .vS rfl⟩ (.cons ⟨rfl, .vS rfl⟩ (.cons ⟨rfl, .inl rfl⟩ (.cons ⟨rfl, .inl rfl⟩ .nil))))))))))))⟩
    · exact ⟨renL [0, 1, 2, 3, 4, 5, 6, 7, 8, 9, 11, 10] 12, ⟨rfl, rfl, rfl, rfl, rfl, rfl, trivial⟩, EmbL.litsN [0, 1, 2, 3, 4, 5, 6, 7, 8, 9, 11, 10] rfl rfl rfl rfl (.cons ⟨rfl, .inl ⟨rfl, fun h => h⟩⟩ (.cons ⟨rfl, .inl ⟨rfl, fun h => h⟩⟩ (.cons ⟨rfl, .inl ⟨rfl, fun h => h⟩⟩ (.cons ⟨rfl, .inl ⟨rfl, fun h => h⟩⟩ .nil)))) (.cons ⟨rfl, .roI⟩ (.cons ⟨rfl, .roI⟩ (.cons ⟨rfl, .roI⟩ (.cons ⟨rfl, .roI⟩ (.cons ⟨rfl, .inl rfl⟩ (.cons ⟨rfl, .inl rfl⟩ (.cons ⟨rfl, .vS rfl⟩ (.cons ⟨rfl, .vS rfl⟩ (.cons ⟨rfl, .vS rfl⟩ (.cons ⟨rfl, .vS rfl⟩ (.cons ⟨rfl, .inl rfl⟩ (.cons ⟨rfl, .inl rfl⟩ .nil))))))))))))⟩
    · exact ⟨renL [0, 1, 2, 3, 4, 5, 6, 7, 9, 10, 8, 11] 12, ⟨rfl, rfl, rfl, rfl, rfl, rfl, trivial⟩, EmbL.litsN [0, 1, 2, 3, 4, 5, 6, 7, 9, 10, 8, 11] rfl rfl rfl rfl (.cons ⟨rfl, .inl ⟨rfl, fun h => h⟩⟩ (.cons ⟨rfl, .inl ⟨rfl, fun h => h⟩⟩ (.cons ⟨rfl, .inl ⟨rfl, fun h => h⟩⟩ (.cons ⟨rfl, .inl ⟨rfl, fun h => h⟩⟩ .nil)))) (.cons ⟨rfl, .roI⟩ (.cons ⟨rfl, .roI⟩ (.cons ⟨rfl, .roI⟩ (.cons ⟨rfl, .roI⟩ (.cons ⟨rfl, .inl rfl⟩ (.cons ⟨rfl, .inl rfl⟩ (.cons ⟨rfl, .vS rfl⟩ (.cons ⟨rfl, .vS rfl⟩ (.cons ⟨rfl, .vS rfl⟩ (.cons ⟨rfl, .vS rfl⟩ (.cons ⟨rfl, .inl rfl⟩ (.cons ⟨rfl, .inl rfl⟩ .nil))))))))))))⟩
    · exact ⟨renL [0, 1, 2, 3, 4, 5, 6, 7, 10, 11, 8, 9] 12, ⟨rfl, rfl, rfl, rfl, rfl, rfl, trivial⟩, EmbL.litsN [0, 1, 2, 3, 4, 5, 6, 7, 10, 11, 8, 9] rfl rfl rfl rfl (.cons ⟨rfl, .inl ⟨rfl, fun h => h⟩⟩ (.cons ⟨rfl, .inl ⟨rfl, fun h => h⟩⟩ (.cons ⟨rfl, .inl ⟨rfl, fun h => h⟩⟩ (.cons ⟨rfl, .inl ⟨rfl, fun h => h⟩⟩ .nil)))) (.cons ⟨rfl, .roI⟩ (.cons ⟨rfl, .roI⟩ (.cons ⟨rfl, .roI⟩ (.cons ⟨rfl, .roI⟩ (.cons ⟨rfl, .inl rfl⟩ (.cons ⟨rfl, .inl rfl⟩ (.cons ⟨rfl, .vS rfl⟩ (.cons ⟨rfl, .vS rfl⟩ (.cons ⟨rfl, .vS rfl⟩ (.cons ⟨rfl, .vS rfl⟩ (.cons ⟨rfl, .inl rfl⟩ (.cons ⟨rfl, .inl rfl⟩ .nil))))))))))))⟩
    · exact ⟨renL [0, 1, 2, 3, 4, 5, 6, 7, 9, 10, 11, 8] 12, ⟨rfl, rfl, rfl, rfl, rfl, rfl, trivial⟩, EmbL.litsN [0, 1, 2, 3, 4, 5, 6, 7, 9, 10, 11, 8] rfl rfl rfl rfl (.cons ⟨rfl, .inl ⟨rfl, fun h => h⟩⟩ (.cons ⟨rfl, .inl ⟨rfl, fun h => h⟩⟩ (.cons ⟨rfl, .inl ⟨rfl, fun h => h⟩⟩ (.cons ⟨rfl, .inl ⟨rfl, fun h => h⟩⟩ .nil)))) (.cons ⟨rfl, .roI⟩ (.cons ⟨rfl, .roI⟩ (.cons ⟨rfl, .roI⟩ (.cons ⟨rfl, .roI⟩ (.cons ⟨rfl, .inl rfl⟩ (.cons ⟨rfl, .inl rfl⟩ (.cons ⟨rfl, .vS rfl⟩ (.cons ⟨rfl, .vS rfl⟩ (.cons ⟨rfl, .vS rfl⟩ (.cons ⟨rfl, .vS rfl⟩ (.cons ⟨rfl, .inl rfl⟩ (.cons ⟨rfl, .inl rfl⟩ .nil))))))))))))⟩
    · exact ⟨renL [0, 1, 2, 3, 4, 5, 6, 7, 10, 11, 9, 8] 12, ⟨rfl, rfl, rfl, rfl, rfl, rfl, trivial⟩, EmbL.litsN [0, 1, 2, 3, 4, 5, 6, 7, 10, 11, 9, 8] rfl rfl rfl rfl (.cons ⟨rfl, .inl ⟨rfl, fun h => h⟩⟩ (.cons ⟨rfl, .inl ⟨rfl, fun h => h⟩⟩ (.cons ⟨rfl, .inl ⟨rfl, fun h => h⟩⟩ (.cons ⟨rfl, .inl ⟨rfl, fun h => h⟩⟩ .nil)))) (.cons ⟨rfl, .roI⟩ (.cons ⟨rfl, .roI⟩ (.cons ⟨rfl, .roI⟩ (.cons ⟨rfl, .roI⟩ (.cons ⟨rfl, .inl rfl⟩ (.cons ⟨rfl, .inl rfl⟩ (.cons ⟨rfl, .vS rfl⟩ (.cons ⟨rfl, .vS rfl⟩ (.cons ⟨rfl, .vS rfl⟩ (.cons ⟨rfl, .vS rfl⟩ (.cons ⟨rfl, .inl rfl⟩ (.cons ⟨rfl, .inl rfl⟩ .nil))))))))))))⟩
    · exact ⟨renL [0, 1, 2, 3, 4, 5, 6, 7, 9, 10, 8, 11] 12, ⟨rfl, rfl, rfl, rfl, rfl, rfl, trivial⟩, EmbL.litsN [0, 1, 2, 3, 4, 5, 6, 7, 9, 10, 8, 11] rfl rfl rfl rfl (.cons ⟨rfl, .inl ⟨rfl, fun h => h⟩⟩ (.cons ⟨rfl, .inl ⟨rfl, fun h => h⟩⟩ (.cons ⟨rfl, .inl ⟨rfl, fun h => h⟩⟩ (.cons ⟨rfl, .inl ⟨rfl, fun h => h⟩⟩ .nil)))) (.cons ⟨rfl, .roI⟩ (.cons ⟨rfl, .roI⟩ (.cons ⟨rfl, .roI⟩ (.cons ⟨rfl, .roI⟩ (.cons ⟨rfl, .inl rfl⟩ (.cons ⟨rfl, .inl rfl⟩ (.cons ⟨rfl, .vS rfl⟩ (.cons ⟨rfl, .vS rfl⟩ (.cons ⟨rfl, .vS rfl⟩ (.cons ⟨rfl, .vS rfl⟩ (.cons ⟨rfl, .inl rfl⟩ (.cons ⟨rfl, .inl rfl⟩ .nil))))))))))))⟩
    · exact ⟨renL [0, 1, 2, 3, 4, 5, 6, 7, 10, 11, 8, 9] 12, ⟨rfl, rfl, rfl, rfl, rfl, rfl, trivial⟩, EmbL.litsN [0, 1, 2, 3, 4, 5, 6, 7, 10, 11, 8, 9] rfl rfl rfl rfl (.cons ⟨rfl, .inl ⟨rfl, fun h => h⟩⟩ (.cons ⟨rfl, .inl ⟨rfl, fun h => h⟩⟩ (.cons ⟨rfl, .inl ⟨rfl, fun h => h⟩⟩ (.cons ⟨rfl, .inl ⟨rfl, fun h => h⟩⟩ .nil)))) (.cons ⟨rfl, .roI⟩ (.cons ⟨rfl, .roI⟩ (.cons ⟨rfl, .roI⟩ (.cons ⟨rfl, .roI⟩ (.cons ⟨rfl, .inl rfl⟩ (.cons ⟨rfl, .inl rfl⟩ (.cons ⟨rfl, .vS rfl⟩ (.cons ⟨rfl, .vS rfl⟩ (.cons ⟨rfl, .vS rfl⟩ (.cons ⟨rfl, .vS rfl⟩ (.cons ⟨rfl, .inl rfl⟩ (.cons ⟨rfl, .inl rfl⟩ .nil))))))))))))⟩
    · exact ⟨renL [0, 1, 2, 3, 4, 5, 6, 7, 10, 11, 8, 9] 12, ⟨rfl, rfl, rfl, rfl, rfl, rfl, trivial⟩, EmbL.litsN [0, 1, 2, 3, 4, 5, 6, 7, 10, 11, 8, 9] rfl rfl rfl rfl (.cons ⟨rfl, .inl ⟨rfl, fun h => h⟩⟩ (.cons ⟨rfl, .inl ⟨rfl, fun h => h⟩⟩ (.cons ⟨rfl, .inl ⟨rfl, fun h => h⟩⟩ (.cons ⟨rfl, .inl ⟨rfl, fun h => h⟩⟩ .nil)))) (.cons ⟨rfl, .roI⟩ (.cons ⟨rfl, .roI⟩ (.cons ⟨rfl, .roI⟩ (.cons ⟨rfl, .roI⟩ (.cons ⟨rfl, .inl rfl⟩ (.cons ⟨rfl, .inl rfl⟩ (.cons ⟨rfl, .vS rfl⟩ (.cons ⟨rfl, .vS rfl⟩ (.cons ⟨rfl, .vS rfl⟩ (.cons ⟨rfl, .vS rfl⟩ (.cons ⟨rfl, .inl rfl⟩ (.cons ⟨rfl, .inl rfl⟩ .nil))))))))))))⟩
    · exact ⟨renL [0, 1, 2, 3, 4, 5, 6, 7, 9, 10, 11, 8] 12, ⟨rfl, rfl, rfl, rfl, rfl, rfl, trivial⟩, EmbL.litsN [0, 1, 2, 3, 4, 5, 6, 7, 9, 10, 11, 8] rfl rfl rfl rfl (.cons ⟨rfl, .inl ⟨rfl, fun h => h⟩⟩ (.cons ⟨rfl, .inl ⟨rfl, fun h => h⟩⟩ (.cons ⟨rfl, .inl ⟨rfl, fun h => h⟩⟩ (.cons ⟨rfl, .inl ⟨rfl, fun h => h⟩⟩ .nil)))) (.cons ⟨rfl, .roI⟩ (.cons ⟨rfl, .roI⟩ (.cons ⟨rfl, .roI⟩ (.cons ⟨rfl, .roI⟩ (.cons ⟨rfl, .inl rfl⟩ (.cons ⟨rfl, .inl rfl⟩ (.cons ⟨rfl, .vS rfl⟩ (.cons ⟨rfl, .vS rfl⟩ (.cons ⟨rfl, .vS rfl⟩ (.cons ⟨rfl, .vS rfl⟩ (.cons ⟨rfl, .inl rfl⟩ (.cons ⟨rfl, .inl rfl⟩ .nil))))))))))))⟩
    · exact ⟨renL [0, 1, 2, 3, 4, 5, 6, 7, 10, 11, 9, 8] 12, ⟨rfl, rfl, rfl, rfl, rfl, rfl, trivial⟩, EmbL.litsN [0, 1, 2, 3, 4, 5, 6, 7, 10, 11, 9, 8] rfl rfl rfl rfl (.cons ⟨rfl, .inl ⟨rfl, fun h => h⟩⟩ (.cons ⟨rfl, .inl ⟨rfl, fun h => h⟩⟩ (.cons ⟨rfl, .inl ⟨rfl, fun h => h⟩⟩ (.cons ⟨rfl, .inl ⟨rfl, fun h => h⟩⟩ .nil)))) (.cons ⟨rfl, .roI⟩ (.cons ⟨rfl, .roI⟩ (.cons ⟨rfl, .roI⟩ (.cons ⟨rfl, .roI⟩ (.cons ⟨rfl, .inl rfl⟩ (.cons ⟨rfl, .inl rfl⟩ (.cons ⟨rfl, .vS rfl⟩ (.cons ⟨rfl, .vS rfl⟩ (.cons ⟨rfl, .vS rfl⟩ (.cons ⟨rfl, .vS rfl⟩ (.cons ⟨rfl, .inl rfl⟩ (.cons ⟨rfl, .inl rfl⟩ .nil))))))))))))⟩
    · exact ⟨renL [0, 1, 2, 3, 4, 5, 6, 7, 10, 11, 9, 8] 12, ⟨rfl, rfl, rfl, rfl, rfl, rfl, trivial⟩, EmbL.litsN [0, 1, 2, 3, 4, 5, 6, 7, 10, 11, 9, 8] rfl rfl rfl rfl (.cons ⟨rfl, .inl ⟨rfl, fun h => h⟩⟩ (.cons ⟨rfl, .inl ⟨rfl, fun h => h⟩⟩ (.cons ⟨rfl, .inl ⟨rfl, fun h => h⟩⟩ (.cons ⟨rfl, .inl ⟨rfl, fun h => h⟩⟩ .nil)))) (.cons ⟨rfl, .roI⟩ (.cons ⟨rfl, .roI⟩ (.cons ⟨rfl, .roI⟩ (.cons ⟨rfl, .roI⟩ (.cons ⟨rfl, .inl rfl⟩ (.cons ⟨rfl, .inl rfl⟩ (.cons ⟨rfl, .vS rfl⟩ (.cons ⟨rfl, .vS rfl⟩ (.cons ⟨rfl, .vS rfl⟩ (.cons ⟨rfl, .vS rfl⟩ (.cons ⟨rfl, .inl rfl⟩ (.cons ⟨rfl, .inl rfl⟩ .nil))))))))))))⟩
    · exact ⟨renL [0, 1, 2, 3, 4, 5, 6, 7, 8, 9, 10, 11] 12, ⟨rfl, rfl, rfl, rfl, rfl, rfl, trivial⟩, EmbL.litsN [0, 1, 2, 3, 4, 5, 6, 7, 8, 9, 10, 11] rfl rfl rfl rfl (.cons ⟨rfl, .inl ⟨rfl, fun h => h⟩⟩ (.cons ⟨rfl, .inl ⟨rfl, fun h => h⟩⟩ (.cons ⟨rfl, .inl ⟨rfl, fun h => h⟩⟩ (.cons ⟨rfl, .inl ⟨rfl, fun h => h⟩⟩ .nil)))) (.cons ⟨rfl, .roI⟩ (.cons ⟨rfl, .roI⟩ (.cons ⟨rfl, .roI⟩ (.cons ⟨rfl, .roI⟩ (.cons ⟨rfl, .inl rfl⟩ (.cons ⟨rfl, .inl rfl⟩ (.cons ⟨rfl, .vS rfl⟩ (.cons ⟨rfl, .vS rfl⟩ (.cons ⟨rfl, .vS rfl⟩ (.cons ⟨rfl, .vS rfl⟩ (.cons ⟨rfl, .inl rfl⟩ (.cons ⟨rfl, .inl rfl⟩ .nil))))))))))))⟩
    · exact ⟨renL [0, 1, 2, 3, 4, 5, 6, 7, 8, 9, 11, 10] 12, ⟨rfl, rfl, rfl, rfl, rfl, rfl, trivial⟩, EmbL.litsN [0, 1, 2, 3, 4, 5, 6, 7, 8, 9, 11, 10] rfl rfl rfl rfl (.cons ⟨rfl, .inl ⟨rfl, fun h => h⟩⟩ (.cons ⟨rfl, .inl ⟨rfl, fun h => h⟩⟩ (.cons ⟨rfl, .inl ⟨rfl, fun h => h⟩⟩ (.cons ⟨rfl, .inl ⟨rfl, fun h => h⟩⟩ .nil)))) (.cons ⟨rfl, .roI⟩ (.cons ⟨rfl, .roI⟩ (.cons ⟨rfl, .roI⟩ (.cons ⟨rfl, .roI⟩ (.cons ⟨rfl, .inl rfl⟩ (.cons ⟨rfl, .inl rfl⟩ (.cons ⟨rfl, .vS rfl⟩ (.cons ⟨rfl, .vS rfl⟩ (.cons ⟨rfl, .vS rfl⟩ (.cons ⟨rfl, .vS rfl⟩ (.cons ⟨rfl, .inl rfl⟩ (.cons ⟨rfl, .inl rfl⟩ .nil))))))))))))⟩
    · exact ⟨renL [0, 1, 2, 3, 4, 5, 6, 7, 9, 10, 8, 11] 12, ⟨rfl, rfl, rfl, rfl, rfl, rfl, trivial⟩, EmbL.litsN [0, 1, 2, 3, 4, 5, 6, 7, 9, 10, 8, 11] rfl rfl rfl rfl (.cons ⟨rfl, .inl ⟨rfl, fun h => h⟩⟩ (.cons ⟨rfl, .inl ⟨rfl, fun h => h⟩⟩ (.cons ⟨rfl, .inl ⟨rfl, fun h => h⟩⟩ (.cons ⟨rfl, .inl ⟨rfl, fun h => h⟩⟩ .nil)))) (.cons ⟨rfl, .roI⟩ (.cons ⟨rfl, .roI⟩ (.cons ⟨rfl, .roI⟩ (.cons ⟨rfl, .roI⟩ (.cons ⟨rfl, .inl rfl⟩ (.cons ⟨rfl, .inl rfl⟩ (.cons ⟨rfl, .vS rfl⟩ (.cons ⟨rfl, .vS rfl⟩ (.cons ⟨rfl, .vS rfl⟩ (.cons ⟨rfl, .vS rfl⟩ (.cons ⟨rfl, .inl rfl⟩ (.cons ⟨rfl, .inl rfl⟩ .nil))))))))))))⟩
    · exact ⟨renL [0, 1, 2, 3, 4, 5, 6, 7, 10, 11, 8, 9] 12, ⟨rfl, rfl, rfl, rfl, rfl, rfl, trivial⟩, EmbL.litsN [0, 1, 2, 3, 4, 5, 6, 7, 10, 11, 8, 9] rfl rfl rfl rfl (.cons ⟨rfl, .inl ⟨rfl, fun h => h⟩⟩ (.cons ⟨rfl, .inl ⟨rfl, fun h => h⟩⟩ (.cons ⟨rfl, .inl ⟨rfl, fun h => h⟩⟩ (.cons ⟨rfl, .inl ⟨rfl, fun h => h⟩⟩ .nil)))) (.cons ⟨rfl, .roI⟩ (.cons ⟨rfl, .roI⟩ (.cons ⟨rfl, .roI⟩ (.cons ⟨rfl, .roI⟩ (.cons ⟨rfl, .inl rfl⟩ (.cons ⟨rfl, .inl rfl⟩ (.cons ⟨rfl, .vS rfl⟩ (.cons ⟨rfl, .vS rfl⟩ (.cons ⟨rfl, .vS rfl⟩ (.cons ⟨rfl, .vS rfl⟩ (.cons ⟨rfl, .inl rfl⟩ (.cons ⟨rfl, .inl rfl⟩ .nil))))))))))))⟩
    · exact ⟨renL [0, 1, 2, 3, 4, 5, 6, 7, 9, 10, 11, 8] 12, ⟨rfl, rfl, rfl, rfl, rfl, rfl, trivial⟩, EmbL.litsN [0, 1, 2, 3, 4, 5, 6, 7, 9, 10, 11, 8] rfl rfl rfl rfl (.cons ⟨rfl, .inl ⟨rfl, fun h => h⟩⟩ (.cons ⟨rfl, .inl ⟨rfl, fun h => h⟩⟩ (.cons ⟨rfl, .inl ⟨rfl, fun h => h⟩⟩ (.cons ⟨rfl, .inl ⟨rfl, fun h => h⟩⟩ .nil)))) (.cons ⟨rfl, .roI⟩ (.cons ⟨rfl, .roI⟩ (.cons ⟨rfl, .roI⟩ (.cons ⟨rfl, .roI⟩ (.cons ⟨rfl, .inl rfl⟩ (.cons ⟨rfl, .inl rfl⟩ (.cons ⟨rfl, .vS rfl⟩ (.cons ⟨rfl, .vS rfl⟩ (.cons ⟨rfl, .vS rfl⟩ (.cons ⟨rfl, .vS rfl⟩ (.cons ⟨rfl, .inl rfl⟩ (.cons ⟨rfl, .inl rfl⟩ .nil))))))))))))⟩
    · exact ⟨renL [0, 1, 2, 3, 4, 5, 6, 7, 10, 11, 9, 8] 12, ⟨rfl, rfl, rfl, rfl, rfl, rfl, trivial⟩, EmbL.litsN [0, 1, 2, 3, 4, 5, 6, 7, 10, 11, 9, 8] rfl rfl rfl rfl (.cons ⟨rfl, .inl ⟨rfl, fun h => h⟩⟩ (.cons ⟨rfl, .inl ⟨rfl, fun h => h⟩⟩ (.cons ⟨rfl, .inl ⟨rfl, fun h => h⟩⟩ (.cons ⟨rfl, .inl ⟨rfl, fun h => h⟩⟩ .nil)))) (.cons ⟨rfl, .roI⟩ (.cons ⟨rfl, .roI⟩ (.cons ⟨rfl, .roI⟩ (.cons ⟨rfl, .roI⟩ (.cons ⟨rfl, .inl rfl⟩ (.cons ⟨rfl, .inl rfl⟩ (.cons ⟨rfl, .vS rfl⟩ (.cons ⟨rfl, .vS rfl⟩ (.cons ⟨rfl, .vS rfl⟩ (.cons ⟨rfl, .vS rfl⟩ (.cons ⟨rfl, .inl rfl⟩ (.cons ⟨rfl, .inl rfl⟩ .nil))))))))))))⟩
    · exact ⟨renL [0, 1, 2, 3, 4, 5, 7, 8, 9, 10, 6, 11] 12, ⟨rfl, rfl, rfl, rfl, rfl, rfl, trivial⟩, EmbL.litsN [0, 1, 2, 3, 4, 5, 7, 8, 9, 10, 6, 11] rfl rfl rfl rfl (.cons ⟨rfl, .inl ⟨rfl, fun h => h⟩⟩ (.cons ⟨rfl, .inl ⟨rfl, fun h => h⟩⟩ (.cons ⟨rfl, .inl ⟨rfl, fun h => h⟩⟩ (.cons ⟨rfl, .inl ⟨rfl, fun h => h⟩⟩ .nil)))) (.cons ⟨rfl, .roI⟩ (.cons ⟨rfl, .roI⟩ (.cons ⟨rfl, .roI⟩ (.cons ⟨rfl, .roI⟩ (.cons ⟨rfl, .inl rfl⟩ (.cons ⟨rfl, .inl rfl⟩ (.cons ⟨rfl, .vS rfl⟩ (.cons ⟨rfl, .vS rfl⟩ (.cons ⟨rfl, .vS rfl⟩ (.cons ⟨rfl, .vS rfl⟩ (.cons ⟨rfl, .inl rfl⟩ (.cons ⟨rfl, .inl rfl⟩ .nil))))))))))))⟩
    · exact ⟨renL [0, 1, 2, 3, 4, 5, 7, 8, 10, 11, 6, 9] 12, ⟨rfl, rfl, rfl, rfl, rfl, rfl, trivial⟩, EmbL.litsN [0, 1, 2, 3, 4, 5, 7, 8, 10, 11, 6, 9] rfl rfl rfl rfl (.cons ⟨rfl, .inl ⟨rfl, fun h => h⟩⟩ (.cons ⟨rfl, .inl ⟨rfl, fun h => h⟩⟩ (.cons ⟨rfl, .inl ⟨rfl, fun h => h⟩⟩ (.cons ⟨rfl, .inl ⟨rfl, fun h => h⟩⟩ .nil)))) (.cons ⟨rfl, .roI⟩ (.cons ⟨rfl, .roI⟩ (.cons ⟨rfl, .roI⟩ (.cons ⟨rfl, .roI⟩ (.cons ⟨rfl, .inl rfl⟩ (.cons ⟨rfl, .inl rfl⟩ (.cons ⟨rfl, .vS rfl⟩ (.cons ⟨rfl, .vS rfl⟩ (.cons ⟨rfl, .vS rfl⟩ (.cons ⟨rfl, .vS rfl⟩ (.cons ⟨rfl, .inl rfl⟩ (.cons ⟨rfl, .inl rfl⟩ .nil))))))))))))⟩
    · exact ⟨renL [0, 1, 2, 3, 4, 5, 8, 9, 10, 11, 6, 7] 12, ⟨rfl, rfl, rfl, rfl, rfl, rfl, trivial⟩, EmbL.litsN [0, 1, 2, 3, 4, 5, 8, 9, 10, 11, 6, 7] rfl rfl rfl rfl (.cons ⟨rfl, .inl ⟨rfl, fun h => h⟩⟩ (.cons ⟨rfl, .inl ⟨rfl, fun h => h⟩⟩ (.cons ⟨rfl, .inl ⟨rfl, fun h => h⟩⟩ (.cons ⟨rfl, .inl ⟨rfl, fun h => h⟩⟩ .nil)))) (.cons ⟨rfl, .roI⟩ (.cons ⟨rfl, .roI⟩ (.cons ⟨rfl, .roI⟩ (.cons ⟨rfl, .roI⟩ (.cons ⟨rfl, .inl rfl⟩ (.cons ⟨rfl, .inl rfl⟩ (.cons ⟨rfl, .vS rfl⟩ (.cons ⟨rfl, .vS rfl⟩ (.cons ⟨rfl, .vS rfl⟩ (.cons ⟨rfl, .vS rfl⟩ (.cons ⟨rfl, .inl rfl⟩ (.cons ⟨rfl, .inl rfl⟩ .nil))))))))))))⟩
    · exact ⟨renL [0, 1, 2, 3, 4, 5, 7, 8, 9, 10, 11, 6] 12, ⟨rfl, rfl, rfl, rfl, rfl, rfl, trivial⟩, EmbL.litsN [0, 1, 2, 3, 4, 5, 7, 8, 9, 10, 11, 6] rfl rfl rfl rfl (.cons ⟨rfl, .inl ⟨rfl, fun h => h⟩⟩ (.cons ⟨rfl, .inl ⟨rfl, fun h => h⟩⟩ (.cons ⟨rfl, .inl ⟨rfl, fun h => h⟩⟩ (.cons ⟨rfl, .inl ⟨rfl, fun h => h⟩⟩ .nil)))) (.cons ⟨rfl, .roI⟩ (.cons ⟨rfl, .roI⟩ (.cons ⟨rfl, .roI⟩ (.cons ⟨rfl, .roI⟩ (.cons ⟨rfl, .inl rfl⟩ (.cons ⟨rfl, .inl rfl⟩ (.cons ⟨rfl, .vS rfl⟩ (.cons ⟨rfl, .vS rfl⟩ (.cons ⟨rfl, .vS rfl⟩ (.cons ⟨rfl, .vS rfl⟩ (.cons ⟨rfl, .inl rfl⟩ (.cons ⟨rfl, .inl rfl⟩ .nil))))))))))))⟩
    · exact ⟨renL [0, 1, 2, 3, 4, 5, 7, 8, 10, 11, 9, 6] 12, ⟨rfl, rfl, rfl, rfl, rfl, rfl, trivial⟩, EmbL.litsN [0, 1, 2, 3, 4, 5, 7, 8, 10, 11, 9, 6] rfl rfl rfl rfl (.cons ⟨rfl, .inl ⟨rfl, fun h => h⟩⟩ (.cons ⟨rfl, .inl ⟨rfl, fun h => h⟩⟩ (.cons ⟨rfl, .inl ⟨rfl, fun h => h⟩⟩ (.cons ⟨rfl, .inl ⟨rfl, fun h => h⟩⟩ .nil)))) (.cons ⟨rfl, .roI⟩ (.cons ⟨rfl, .roI⟩ (.cons ⟨rfl, .roI⟩ (.cons ⟨rfl, .roI⟩ (.cons ⟨rfl, .inl rfl⟩ (.cons ⟨rfl, .inl rfl⟩ (.cons ⟨rfl, .vS rfl⟩ (.cons ⟨rfl, .vS rfl⟩ (.cons ⟨rfl, .vS rfl⟩ (.cons ⟨rfl, .vS rfl⟩ (.cons ⟨rfl, .inl rfl⟩ (.cons ⟨rfl, .inl rfl⟩ .nil))))))))))))⟩
    · exact ⟨renL [0, 1, 2, 3, 4, 5, 8, 9, 10, 11, 7, 6] 12, ⟨rfl, rfl, rfl, rfl, rfl, rfl, trivial⟩, EmbL.litsN [0, 1, 2, 3, 4, 5, 8, 9, 10, 11, 7, 6] rfl rfl rfl rfl (.cons ⟨rfl, .inl ⟨rfl, fun h => h⟩⟩ (.cons ⟨rfl, .inl ⟨rfl, fun h => h⟩⟩ (.cons ⟨rfl, .inl ⟨rfl, fun h => h⟩⟩ (.cons ⟨rfl, .inl ⟨rfl, fun h => h⟩⟩ .nil)))) (.cons ⟨rfl, .roI⟩ (.cons ⟨rfl, .roI⟩ (.cons ⟨rfl, .roI⟩ (.cons ⟨rfl, .roI⟩ (.cons ⟨rfl, .inl rfl⟩ (.cons ⟨rfl, .inl rfl⟩ (.cons ⟨rfl, .vS rfl⟩ (.cons ⟨rfl, .vS rfl⟩ (.cons ⟨rfl, .vS rfl⟩ (.cons ⟨rfl, .vS rfl⟩ (.cons ⟨rfl, .inl rfl⟩ (.cons ⟨rfl, .inl rfl⟩ .nil))))))))))))⟩
    · exact ⟨renL [0, 1, 2, 3, 4, 5, 7, 8, 9, 10, 6, 11] 12, ⟨rfl, rfl, rfl, rfl, rfl, rfl, trivial⟩, EmbL.litsN [0, 1, 2, 3, 4, 5, 7, 8, 9, 10, 6, 11] rfl rfl rfl rfl (.cons ⟨rfl, .inl ⟨rfl, fun h => h⟩⟩ (.cons ⟨rfl, .inl ⟨rfl, fun h => h⟩⟩ (.cons ⟨rfl, .inl ⟨rfl, fun h => h⟩⟩ (.cons ⟨rfl, .inl ⟨rfl, fun h => h⟩⟩ .nil)))) (.cons ⟨rfl, .roI⟩ (.cons ⟨rfl, .roI⟩ (.cons ⟨rfl, .roI⟩ (.cons ⟨rfl, .roI⟩ (.cons ⟨rfl, .inl rfl⟩ (.cons ⟨rfl, .inl rfl⟩ (.cons ⟨rfl, .vS rfl⟩ (.cons ⟨rfl, .vS rfl⟩ (.cons ⟨rfl, .vS rfl⟩ (.cons ⟨rfl, .vS rfl⟩ (.cons ⟨rfl, .inl rfl⟩ (.cons ⟨rfl, .inl rfl⟩ .nil))))))))))))⟩
    · exact ⟨renL [0, 1, 2, 3, 4, 5, 7, 8, 10, 11, 6, 9] 12, ⟨rfl, rfl, rfl, rfl, rfl, rfl, trivial⟩, EmbL.litsN [0, 1, 2, 3, 4, 5, 7, 8, 10, 11, 6, 9] rfl rfl rfl rfl (.cons ⟨rfl, .inl ⟨rfl, fun h => h⟩⟩ (.cons ⟨rfl, .inl ⟨rfl, fun h => h⟩⟩ (.cons ⟨rfl, .inl ⟨rfl, fun h => h⟩⟩ (.cons ⟨rfl, .inl ⟨rfl, fun h => h⟩⟩ .nil)))) (.cons ⟨rfl, .roI⟩ (.cons ⟨rfl, .roI⟩ (.cons ⟨rfl, .roI⟩ (.cons ⟨rfl, .roI⟩ (.cons ⟨rfl, .inl rfl⟩ (.cons ⟨rfl, .inl rfl⟩ (.cons ⟨rfl, .vS rfl⟩ (.cons ⟨rfl, .vS rfl⟩ (.cons ⟨rfl, .vS rfl⟩ (.cons ⟨rfl, .vS rfl⟩ (.cons ⟨rfl, .inl rfl⟩ (.cons ⟨rfl, .inl rfl⟩ .nil))))))))))))⟩
    · exact ⟨renL [0, 1, 2, 3, 4, 5, 7, 8, 10, 11, 6, 9] 12, ⟨rfl, rfl, rfl, rfl, rfl, rfl, trivial⟩, EmbL.litsN [0, 1, 2, 3, 4, 5, 7, 8, 10, 11, 6, 9] rfl rfl rfl rfl (.cons ⟨rfl, .inl ⟨rfl, fun h => h⟩⟩ (.cons ⟨rfl, .inl ⟨rfl, fun h => h⟩⟩ (.cons ⟨rfl, .inl ⟨rfl, fun h => h⟩⟩ (.cons ⟨rfl, .inl ⟨rfl, fun h => h⟩⟩ .nil)))) (.cons ⟨rfl, .roI⟩ (.cons ⟨rfl, .roI⟩ (.cons ⟨rfl, .roI⟩ (.cons ⟨rfl, .roI⟩ (.cons ⟨rfl, .inl rfl⟩ (.cons ⟨rfl, .inl rfl⟩ (.cons ⟨rfl, .vS rfl⟩ (.cons ⟨rfl, .vS rfl⟩ (.cons ⟨rfl, .vS rfl⟩ (.cons ⟨rfl, .vS rfl⟩ (.cons ⟨rfl, .inl rfl⟩ (.cons ⟨rfl, .inl rfl⟩ .nil))))))))))))⟩
    · exact ⟨renL [0, 1, 2, 3, 4, 5, 7, 8, 9, 10, 6, 11] 12, ⟨rfl, rfl, rfl, rfl, rfl, rfl, trivial⟩, EmbL.litsN [0, 1, 2, 3, 4, 5, 7, 8, 9, 10, 6, 11] rfl rfl rfl rfl (.cons ⟨rfl, .inl ⟨rfl, fun h => h⟩⟩ (.cons ⟨rfl, .inl ⟨rfl, fun h => h⟩⟩ (.cons ⟨rfl, .inl ⟨rfl, fun h => h⟩⟩ (.cons ⟨rfl, .inl ⟨rfl, fun h => h⟩⟩ .nil)))) (.cons ⟨rfl, .roI⟩ (.cons ⟨rfl, .roI⟩ (.cons ⟨rfl, .roI⟩ (.cons ⟨rfl, .roI⟩ (.cons ⟨rfl, .inl rfl⟩ (.cons ⟨rfl, .inl rfl⟩ (.cons ⟨rfl, .vS rfl⟩ (.cons ⟨rfl, .vS rfl⟩ (.cons ⟨rfl, .vS rfl⟩ (.cons ⟨rfl, .vS rfl⟩ (.cons ⟨rfl, .inl rfl⟩ (.cons ⟨rfl, .inl rfl⟩ .nil))))))))))))⟩
    · exact ⟨renL [0, 1, 2, 3, 4, 5, 7, 8, 10, 11, 6, 9] 12, ⟨rfl, rfl, rfl, rfl, rfl, rfl, trivial⟩, EmbL.litsN [0, 1, 2, 3, 4, 5, 7, 8, 10, 11, 6, 9] rfl rfl rfl rfl (.cons ⟨rfl, .inl ⟨rfl, fun h => h⟩⟩ (.cons ⟨rfl, .inl ⟨rfl, fun h => h⟩⟩ (.cons ⟨rfl, .inl ⟨rfl, fun h => h⟩⟩ (.cons ⟨rfl, .inl ⟨rfl, fun h => h⟩⟩ .nil)))) (.cons ⟨rfl, .roI⟩ (.cons ⟨rfl, .roI⟩ (.cons ⟨rfl, .roI⟩ (.cons ⟨rfl, .roI⟩ (.cons ⟨rfl, .inl rfl⟩ (.cons ⟨rfl, .inl rfl⟩ (.cons ⟨rfl, .vS rfl⟩ (.cons ⟨rfl, .vS rfl⟩ (.cons ⟨rfl, .vS rfl⟩ (.cons ⟨rfl, .vS rfl⟩ (.cons ⟨rfl, .inl rfl⟩ (.cons ⟨rfl, .inl rfl⟩ .nil))))))))))))⟩
    · exact ⟨renL [0, 1, 2, 3, 4, 5, 8, 9, 10, 11, 6, 7] 12, ⟨rfl, rfl, rfl, rfl, rfl, rfl, trivial⟩, EmbL.litsN [0, 1, 2, 3, 4, 5, 8, 9, 10, 11, 6, 7] rfl rfl rfl rfl (.cons ⟨rfl, .inl ⟨rfl, fun h => h⟩⟩ (.cons ⟨rfl, .inl ⟨rfl, fun h => h⟩⟩ (.cons ⟨rfl, .inl ⟨rfl, fun h => h⟩⟩ (.cons ⟨rfl, .inl ⟨rfl, fun h => h⟩⟩ .nil)))) (.cons ⟨rfl, .roI⟩ (.cons ⟨rfl, .roI⟩ (.cons ⟨rfl, .roI⟩ (.cons ⟨rfl, .roI⟩ (.cons ⟨rfl, .inl rfl⟩ (.cons ⟨rfl, .inl rfl⟩ (.cons ⟨rfl, .vS rfl⟩ (.cons ⟨rfl, .vS rfl⟩ (.cons ⟨rfl, .vS rfl⟩ (.cons ⟨rfl, .vS rfl⟩ (.cons ⟨rfl, .inl rfl⟩ (.cons ⟨rfl, .inl rfl⟩ .nil))))))))))))⟩
    · exact ⟨renL [0, 1, 2, 3, 4, 5, 8, 9, 10, 11, 6, 7] 12, ⟨rfl, rfl, rfl, rfl, rfl, rfl, trivial⟩, EmbL.litsN [0, 1, 2, 3, 4, 5, 8, 9, 10, 11, 6, 7] rfl rfl rfl rfl (.cons ⟨rfl, .inl ⟨rfl, fun h => h⟩⟩ (.cons ⟨rfl, .inl ⟨rfl, fun h => h⟩⟩ (.cons ⟨rfl, .inl ⟨rfl, fun h => h⟩⟩ (.cons ⟨rfl, .inl ⟨rfl, fun h => h⟩⟩ .nil)))) (.cons ⟨rfl, .roI⟩ (.cons ⟨rfl, .roI⟩ (.cons ⟨rfl, .roI⟩ (.cons ⟨rfl, .roI⟩ (.cons ⟨rfl, .inl rfl⟩ (.cons ⟨rfl, .inl rfl⟩ (.cons ⟨rfl, .vS rfl⟩ (.cons ⟨rfl, .vS rfl⟩ (.cons ⟨rfl, .vS rfl⟩ (.cons ⟨rfl, .vS rfl⟩ (.cons ⟨rfl, .inl rfl⟩ (.cons ⟨rfl, .inl rfl⟩ .nil))))))))))))⟩
    · exact ⟨renL [0, 1, 2, 3, 4, 5, 8, 9, 10, 11, 6, 7] 12, ⟨rfl, rfl, rfl, rfl, rfl, rfl, trivial⟩, EmbL.litsN [0, 1, 2, 3, 4, 5, 8, 9, 10, 11, 6, 7] rfl rfl rfl rfl (.cons ⟨rfl, .inl ⟨rfl, fun h => h⟩⟩ (.cons ⟨rfl, .inl ⟨rfl, fun h => h⟩⟩ (.cons ⟨rfl, .inl ⟨rfl, fun h => h⟩⟩ (.cons ⟨rfl, .inl ⟨rfl, fun h => h⟩⟩ .nil)))) (.cons ⟨rfl, .roI⟩ (.cons ⟨rfl, .roI⟩ (.cons ⟨rfl, .roI⟩ (.cons ⟨rfl, .roI⟩ (.cons ⟨rfl, .inl rfl⟩ (.cons ⟨rfl, .inl rfl⟩ (.cons ⟨rfl, .vS rfl⟩ (.cons ⟨rfl, .vS rfl⟩ (.cons ⟨rfl, .vS rfl⟩ (.cons ⟨rfl, .vS rfl⟩ (.cons ⟨rfl, .inl rfl⟩ (.cons ⟨rfl, .inl rfl⟩ .nil))))))))))))⟩
    · exact ⟨renL [0, 1, 2, 3, 4, 5, 7, 8, 9, 10, 11, 6] 12, ⟨rfl, rfl, rfl, rfl, rfl, rfl, trivial⟩, EmbL.litsN [0, 1, 2, 3, 4, 5, 7, 8, 9, 10, 11, 6] rfl rfl rfl rfl (.cons ⟨rfl, .inl ⟨rfl, fun h => h⟩⟩ (.cons ⟨rfl, .inl ⟨rfl, fun h => h⟩⟩ (.cons ⟨rfl, .inl ⟨rfl, fun h => h⟩⟩ (.cons ⟨rfl, .inl ⟨rfl, fun h => h⟩⟩ .nil)))) (.cons ⟨rfl, .roI⟩ (.cons ⟨rfl, .roI⟩ (.cons ⟨rfl, .roI⟩ (.cons ⟨rfl, .roI⟩ (.cons ⟨rfl, .inl rfl⟩ (.cons ⟨rfl, .inl rfl⟩ (.cons ⟨rfl, .vS rfl⟩ (.cons ⟨rfl, .vS rfl⟩ (.cons ⟨rfl, .vS rfl⟩ (.cons ⟨rfl, .vS rfl⟩ (.cons ⟨rfl, .inl rfl⟩ (.cons ⟨rfl, .inl rfl⟩ .nil))))))))))))⟩
    · exact ⟨renL [0, 1, 2, 3, 4, 5, 7, 8, 10, 11, 9, 6] 12, ⟨rfl, rfl, rfl, rfl, rfl, rfl, trivial⟩, EmbL.litsN [0, 1, 2, 3, 4, 5, 7, 8, 10, 11, 9, 6] rfl rfl rfl rfl (.cons ⟨rfl, .inl ⟨rfl, fun h => h⟩⟩ (.cons ⟨rfl, .inl ⟨rfl, fun h => h⟩⟩ (.cons ⟨rfl, .inl ⟨rfl, fun h => h⟩⟩ (.cons ⟨rfl, .inl ⟨rfl, fun h => h⟩⟩ .nil)))) (.cons ⟨rfl, .roI⟩ (.cons ⟨rfl, .roI⟩ (.cons ⟨rfl, .roI⟩ (.cons ⟨rfl, .roI⟩ (.cons ⟨rfl, .inl rfl⟩ (.cons ⟨rfl, .inl rfl⟩ (.cons ⟨rfl, .vS rfl⟩ (.cons ⟨rfl, .vS rfl⟩ (.cons ⟨rfl, .vS rfl⟩ (.cons ⟨rfl, .vS rfl⟩ (.cons ⟨rfl, .inl rfl⟩ (.cons ⟨rfl, .inl rfl⟩ .nil))))))))))))⟩
    · exact ⟨renL [0, 1, 2, 3, 4, 5, 7, 8, 10, 11, 9, 6] 12, ⟨rfl, rfl, rfl, rfl, rfl, rfl, trivial⟩, EmbL.litsN [0, 1, 2, 3, 4, 5, 7, 8, 10, 11, 9, 6] rfl rfl rfl rfl (.cons ⟨rfl, .inl ⟨rfl, fun h => h⟩⟩ (.cons ⟨rfl, .inl ⟨rfl, fun h => h⟩⟩ (.cons ⟨rfl, .inl ⟨rfl, fun h => h⟩⟩ (.cons ⟨rfl, .inl ⟨rfl, fun h => h⟩⟩ .nil)))) (.cons ⟨rfl, .roI⟩ (.cons ⟨rfl, .roI⟩ (.cons ⟨rfl, .roI⟩ (.cons ⟨rfl, .roI⟩ (.cons ⟨rfl, .inl rfl⟩ (.cons ⟨rfl, .inl rfl⟩ (.cons ⟨rfl, .vS rfl⟩ (.cons ⟨rfl, .vS rfl⟩ (.cons ⟨rfl, .vS rfl⟩ (.cons ⟨rfl, .vS rfl⟩ (.cons ⟨rfl, .inl rfl⟩ (.cons ⟨rfl, .inl rfl⟩ .nil))))))))))))⟩
    · exact ⟨renL [0, 1, 2, 3, 4, 5, 7, 8, 9, 10, 11, 6] 12, ⟨rfl, rfl, rfl, rfl, rfl, rfl, trivial⟩, EmbL.litsN [0, 1, 2, 3, 4, 5, 7, 8, 9, 10, 11, 6] rfl rfl rfl rfl (.cons ⟨rfl, .inl ⟨rfl, fun h => h⟩⟩ (.cons ⟨rfl, .inl ⟨rfl, fun h => h⟩⟩ (.cons ⟨rfl, .inl ⟨rfl, fun h => h⟩⟩ (.cons ⟨rfl, .inl ⟨rfl, fun h => h⟩⟩ .nil)))) (.cons ⟨rfl, .roI⟩ (.cons ⟨rfl, .roI⟩ (.cons ⟨rfl, .roI⟩ (.cons ⟨rfl, .roI⟩ (.cons ⟨rfl, .inl rfl⟩ (.cons ⟨rfl, .inl rfl⟩ (.cons ⟨rfl, .vS rfl⟩ (.cons ⟨rfl, .vS rfl⟩ (.cons ⟨rfl, .vS rfl⟩ (.cons ⟨rfl, .vS rfl⟩ (.cons ⟨rfl, .inl rfl⟩ (.cons ⟨rfl, .inl rfl⟩ .nil))))))))))))⟩
    · exact ⟨renL [0, 1, 2, 3, 4, 5, 7, 8, 10, 11, 9, 6] 12, ⟨rfl, rfl, rfl, rfl, rfl, rfl, trivial⟩, EmbL.litsN [0, 1, 2, 3, 4, 5, 7, 8, 10, 11, 9, 6] rfl rfl rfl rfl (.cons ⟨rfl, .inl ⟨rfl, fun h => h⟩⟩ (.cons ⟨rfl, .inl ⟨rfl, fun h => h⟩⟩ (.cons ⟨rfl, .inl ⟨rfl, fun h => h⟩⟩ (.cons ⟨rfl, .inl ⟨rfl, fun h => h⟩⟩ .nil)))) (.cons ⟨rfl, .roI⟩ (.cons ⟨rfl, .roI⟩ (.cons ⟨rfl, .roI⟩ (.cons ⟨rfl, .roI⟩ (.cons ⟨rfl, .inl rfl⟩ (.cons ⟨rfl, .inl rfl⟩ (.cons ⟨rfl, .vS rfl⟩ (.cons ⟨rfl, .vS rfl⟩ (.cons ⟨rfl, .vS rfl⟩ (.cons ⟨rfl, .vS rfl⟩ (.cons ⟨rfl, .inl rfl⟩ (.cons ⟨rfl, .inl rfl⟩ .nil))))))))))))⟩
    · exact ⟨renL [0, 1, 2, 3, 4, 5, 8, 9, 10, 11, 7, 6] 12, ⟨rfl, rfl, rfl, rfl, rfl, rfl, trivial⟩, EmbL.litsN [0, 1, 2, 3, 4, 5, 8, 9, 10, 11, 7, 6] rfl rfl rfl rfl (.cons ⟨rfl, .inl ⟨rfl, fun h => h⟩⟩ (.cons ⟨rfl, .inl ⟨rfl, fun h => h⟩⟩ (.cons ⟨rfl, .inl ⟨rfl, fun h => h⟩⟩ (.cons ⟨rfl, .inl ⟨rfl, fun h => h⟩⟩ .nil)))) (.cons ⟨rfl, .roI⟩ (.cons ⟨rfl, .roI⟩ (.cons ⟨rfl, .roI⟩ (.cons ⟨rfl, .roI⟩ (.cons ⟨rfl, .inl rfl⟩ (.cons ⟨rfl, .inl rfl⟩ (.cons ⟨rfl, .vS rfl⟩ (.cons ⟨rfl, .vS rfl⟩ (.cons ⟨rfl, .vS rfl⟩ (.cons ⟨rfl, .vS rfl⟩ (.cons ⟨rfl, .inl rfl⟩ (.cons ⟨rfl, .inl rfl⟩ .nil))))))))))))⟩
    · exact ⟨renL [0, 1, 2, 3, 4, 5, 8, 9, 10, 11, 7, 6] 12, ⟨rfl, rfl, rfl, rfl, rfl, rfl, trivial⟩, EmbL.litsN [0, 1, 2, 3, 4, 5, 8, 9, 10, 11, 7, 6] rfl rfl rfl rfl (.cons ⟨rfl, .inl ⟨rfl, fun h => h⟩⟩ (.cons ⟨rfl, .inl ⟨rfl, fun h => h⟩⟩ (.cons ⟨rfl, .inl ⟨rfl, fun h => h⟩⟩ (.cons ⟨rfl, .inl ⟨rfl, fun h => h⟩⟩ .nil)))) (.cons ⟨rfl, .roI⟩ (.cons ⟨rfl, .roI⟩ (.cons ⟨rfl, .roI⟩ (.cons ⟨rfl, .roI⟩ (.cons ⟨rfl, .inl rfl⟩ (.cons ⟨rfl, .inl rfl⟩ (.cons ⟨rfl, .vS rfl⟩ (.cons ⟨rfl, .vS rfl⟩ (.cons ⟨rfl, .vS rfl⟩ (.cons ⟨rfl, .vS rfl⟩ (.cons ⟨rfl, .inl rfl⟩ (.cons ⟨rfl, .inl rfl⟩ .nil))))))))))))⟩
    · exact ⟨renL [0, 1, 2, 3, 4, 5, 8, 9, 10, 11, 7, 6] 12, ⟨rfl, rfl, rfl, rfl, rfl, rfl, trivial⟩, EmbL.litsN [0, 1, 2, 3, 4, 5, 8, 9, 10, 11, 7, 6] rfl rfl rfl rfl (.cons ⟨rfl, .inl ⟨rfl, fun h => h⟩⟩ (.cons ⟨rfl, .inl ⟨rfl, fun h => h⟩⟩ (.cons ⟨rfl, .inl ⟨rfl, fun h => h⟩⟩ (.cons ⟨rfl, .inl ⟨rfl, fun h => h⟩⟩ .nil)))) (.cons ⟨rfl, .roI⟩ (.cons ⟨rfl, .roI⟩ (.cons ⟨rfl, .roI⟩ (.cons ⟨rfl, .roI⟩ (.cons ⟨rfl, .inl rfl⟩ (.cons ⟨rfl, .inl rfl⟩ (.cons ⟨rfl, .vS rfl⟩ (.cons ⟨rfl, .vS rfl⟩ (.cons ⟨rfl, .vS rfl⟩ (.cons ⟨rfl, .vS rfl⟩ (.cons ⟨rfl, .inl rfl⟩ (.cons ⟨rfl, .inl rfl⟩ .nil))))))))))))⟩
theorem same11 (u v : Wd) (hfu : u.Fits) (hfv : v.Fits) : CallW Tryd.prog 11 [u.av 0 1, v.av 2 3] (h4 u v) fun r _ => ∃ b e, r = .tuple [.bool b, .int .i64 e] ∧ SameR u v b e := by
  refine CallW.symK (cuts := [3]) Tryd.func11 rfl (by kernel_rfl) ?_
  conv => whnf
  repeat' first
    | ((with_reducible refine Gets.shrN ?_ ?_); (· omega); conv => whnf)
    | ((with_reducible refine Gets.andOne ?_ ?_); (· first | omega | exact Nat.lt_of_le_of_lt (Nat.shiftRight_le _ _) (by omega)); conv => whnf)
    | ((with_reducible refine Gets.shlN ?_ ?_); (· omega); conv => whnf)
    | ((with_reducible refine Gets.shlI ?_ ?_ ?_); (· omega); (· omega); conv => whnf)
    | ((with_reducible refine Gets.quoI ?_ ?_ ?_ ?_); (· omega); (· omega); (· omega); conv => whnf)
    | ((with_reducible refine Gets.remN ?_ ?_ ?_); (· omega); (· omega); conv => whnf)
    | ((with_reducible refine Fork.bit (fun _ => ?_) (fun _ => ?_)) <;> (conv => whnf))
    | ((with_reducible refine Gets.addI ?_ ?_ ?_); (· omega); (· omega); conv => whnf)
    | ((with_reducible refine Gets.subI ?_ ?_ ?_); (· omega); (· omega); conv => whnf)
    | ((with_reducible refine Gets.mulI ?_ ?_ ?_); (· omega); (· omega); conv => whnf)
    | (refine Gets.of _ rfl ?_; conv => whnf)
    | (refine Gets.ix1v rfl rfl (by omega) ?_; conv => whnf)
    | (refine Gets.ix1 rfl rfl (by omega) ?_; conv => whnf)
    | (refine Gets.ixIv rfl rfl (by omega) (by omega) ?_; conv => whnf)
    | (refine Gets.ixI rfl rfl (by omega) (by omega) ?_; conv => whnf)
    | (refine Gets.ixEv (es := 2) rfl rfl (by omega) ?_; conv => whnf)
    | (refine Gets.ixE (es := 2) rfl rfl (by omega) ?_; conv => whnf)
    | (refine Gets.ldP (ti := tiP) rfl rfl rfl (by first | rfl | assumption) (by first | omega | exact Nat.le_of_ble_eq_true rfl) ?_; conv => whnf)
    | (refine Gets.ldI rfl (by first | rfl | assumption) (by first | omega | exact Nat.le_of_ble_eq_true rfl) ?_; conv => whnf)
    | (refine Gets.ldB rfl (by first | rfl | assumption) (by first | omega | exact Nat.le_of_ble_eq_true rfl) ?_; conv => whnf)
    | (refine Chk.mk (by repeat first | exact .nil | refine .cons rfl ?_) ?_; conv => whnf)
    | (refine Alls.mk ?_ ?_ <;> conv => whnf)
    | (refine Gets.stA rfl rfl rfl rfl (by simp only [List.all_cons, List.all_nil, oI_sc, oP_sc, oN_sc, Bool.and_true, Bool.true_and] <;> rfl) ?_; conv => whnf)
    | (refine seqL1_of ?_; conv => whnf)
    | (refine seqV_of ?_; conv => whnf)
    | (refine seq1_of ?_; conv => whnf)
    | (refine seq0_of ?_; conv => whnf)
    | (refine Fork.yesR rfl ?_; conv => whnf)
    | (refine Fork.noR rfl ?_; conv => whnf)
    | (refine Fork.dec (fun _ => ?_) (fun _ => ?_) <;> first | (exfalso; omega) | (conv => whnf))
    | (refine Fork.eqI (fun _ => ?_) (fun _ => ?_) <;> first | (exfalso; omega) | (conv => whnf))
    | (refine Fork.neI (fun _ => ?_) (fun _ => ?_) <;> first | (exfalso; omega) | (conv => whnf))
    | (refine Fork.any (fun _ => ?_) (fun _ => ?_) <;> (conv => whnf))
  refine CallS.of (by kernel_rfl) (valid26a u hfu 6 (.roB rfl rfl) (.roB rfl rfl)) rfl ?_
  rintro _ _ ⟨rfl, hp | hp⟩
  all_goals conv => whnf
  all_goals
    repeat' first
      | ((with_reducible refine Gets.shrN ?_ ?_); (· omega); conv => whnf)
      | ((with_reducible refine Gets.andOne ?_ ?_); (· first | omega | exact Nat.lt_of_le_of_lt (Nat.shiftRight_le _ _) (by omega)); conv => whnf)
      | ((with_reducible refine Gets.shlN ?_ ?_); (· omega); conv => whnf)
      | ((with_reducible refine Gets.shlI ?_ ?_ ?_); (· omega); (· omega); conv => whnf)
      | ((with_reducible refine Gets.quoI ?_ ?_ ?_ ?_); (· omega); (· omega); (· omega); conv => whnf)
      | ((with_reducible refine Gets.remN ?_ ?_ ?_); (· omega); (· omega); conv => whnf)
      | ((with_reducible refine Fork.bit (fun _ => ?_) (fun _ => ?_)) <;> (conv => whnf))
      | ((with_reducible refine Gets.addI ?_ ?_ ?_); (· omega); (· omega); conv => whnf)
      | ((with_reducible refine Gets.subI ?_ ?_ ?_); (· omega); (· omega); conv => whnf)
      | ((with_reducible refine Gets.mulI ?_ ?_ ?_); (· omega); (· omega); conv => whnf)
      | (refine Gets.of _ rfl ?_; conv => whnf)
      | (refine Gets.ix1v rfl rfl (by omega) ?_; conv => whnf)
      | (refine Gets.ix1 rfl rfl (by omega) ?_; conv => whnf)
      | (refine Gets.ixIv rfl rfl (by omega) (by omega) ?_; conv => whnf)
      | (refine Gets.ixI rfl rfl (by omega) (by omega) ?_; conv => whnf)
      | (refine Gets.ixEv (es := 2) rfl rfl (by omega) ?_; conv => whnf)
      | (refine Gets.ixE (es := 2) rfl rfl (by omega) ?_; conv => whnf)
      | (refine Gets.ldP (ti := tiP) rfl rfl rfl (by first | rfl | assumption) (by first | omega | exact Nat.le_of_ble_eq_true rfl) ?_; conv => whnf)
      | (refine Gets.ldI rfl (by first | rfl | assumption) (by first | omega | exact Nat.le_of_ble_eq_true rfl) ?_; conv => whnf)
      | (refine Gets.ldB rfl (by first | rfl | assumption) (by first | omega | exact Nat.le_of_ble_eq_true rfl) ?_; conv => whnf)
      | (refine Chk.mk (by repeat first | exact .nil | refine .cons rfl ?_) ?_; conv => whnf)
      | (refine Alls.mk ?_ ?_ <;> conv => whnf)
      | (refine Gets.stA rfl rfl rfl rfl (by simp only [List.all_cons, List.all_nil, oI_sc, oP_sc, oN_sc, Bool.and_true, Bool.true_and] <;> rfl) ?_; conv => whnf)
      | (refine seqL1_of ?_; conv => whnf)
      | (refine seqV_of ?_; conv => whnf)
      | (refine seq1_of ?_; conv => whnf)
      | (refine seq0_of ?_; conv => whnf)
      | (refine Fork.yesR rfl ?_; conv => whnf)
      | (refine Fork.noR rfl ?_; conv => whnf)
      | (refine Fork.dec (fun _ => ?_) (fun _ => ?_) <;> first | (exfalso; omega) | (conv => whnf))
      | (refine Fork.eqI (fun _ => ?_) (fun _ => ?_) <;> first | (exfalso; omega) | (conv => whnf))
      | (refine Fork.neI (fun _ => ?_) (fun _ => ?_) <;> first | (exfalso; omega) | (conv => whnf))
      | (refine Fork.any (fun _ => ?_) (fun _ => ?_) <;> (conv => whnf))
  · refine CallS.of (by kernel_rfl) (valid26a v hfv 6 (.roB rfl rfl) (.roB rfl rfl)) rfl ?_
    rintro _ _ ⟨rfl, hq | hq⟩
    all_goals conv => whnf
    all_goals
      repeat' first
        | ((with_reducible refine Gets.shrN ?_ ?_); (· omega); conv => whnf)
        | ((with_reducible refine Gets.andOne ?_ ?_); (· first | omega | exact Nat.lt_of_le_of_lt (Nat.shiftRight_le _ _) (by omega)); conv => whnf)
        | ((with_reducible refine Gets.shlN ?_ ?_); (· omega); conv => whnf)
        | ((with_reducible refine Gets.shlI ?_ ?_ ?_); (· omega); (· omega); conv => whnf)
        | ((with_reducible refine Gets.quoI ?_ ?_ ?_ ?_); (· omega); (· omega); (· omega); conv => whnf)
        | ((with_reducible refine Gets.remN ?_ ?_ ?_); (· omega); (· omega); conv => whnf)
        | ((with_reducible refine Fork.bit (fun _ => ?_) (fun _ => ?_)) <;> (conv => whnf))
        | ((with_reducible refine Gets.addI ?_ ?_ ?_); (· omega); (· omega); conv => whnf)
        | ((with_reducible refine Gets.subI ?_ ?_ ?_); (· omega); (· omega); conv => whnf)
        | ((with_reducible refine Gets.mulI ?_ ?_ ?_); (· omega); (· omega); conv => whnf)
        | (refine Gets.of _ rfl ?_; conv => whnf)
        | (refine Gets.ix1v rfl rfl (by omega) ?_; conv => whnf)
        | (refine Gets.ix1 rfl rfl (by omega) ?_; conv => whnf)
        | (refine Gets.ixIv rfl rfl (by omega) (by omega) ?_; conv => whnf)
        | (refine Gets.ixI rfl rfl (by omega) (by omega) ?_; conv => whnf)
        | (refine Gets.ixEv (es := 2) rfl rfl (by omega) ?_; conv => whnf)
        | (refine Gets.ixE (es := 2) rfl rfl (by omega) ?_; conv => whnf)
        | (refine Gets.ldP (ti := tiP) rfl rfl rfl (by first | rfl | assumption) (by first | omega | exact Nat.le_of_ble_eq_true rfl) ?_; conv => whnf)
        | (refine Gets.ldI rfl (by first | rfl | assumption) (by first | omega | exact Nat.le_of_ble_eq_true rfl) ?_; conv => whnf)
        | (refine Gets.ldB rfl (by first | rfl | assumption) (by first | omega | exact Nat.le_of_ble_eq_true rfl) ?_; conv => whnf)
        | (refine Chk.mk (by repeat first | exact .nil | refine .cons rfl ?_) ?_; conv => whnf)
        | (refine Alls.mk ?_ ?_ <;> conv => whnf)
        | (refine Gets.stA rfl rfl rfl rfl (by simp only [List.all_cons, List.all_nil, oI_sc, oP_sc, oN_sc, Bool.and_true, Bool.true_and] <;> rfl) ?_; conv => whnf)
        | (refine seqL1_of ?_; conv => whnf)
        | (refine seqV_of ?_; conv => whnf)
        | (refine seq1_of ?_; conv => whnf)
        | (refine seq0_of ?_; conv => whnf)
        | (refine Fork.yesR rfl ?_; conv => whnf)
        | (refine Fork.noR rfl ?_; conv => whnf)
        | (refine Fork.dec (fun _ => ?_) (fun _ => ?_) <;> first | (exfalso; omega) | (conv => whnf))
        | (refine Fork.eqI (fun _ => ?_) (fun _ => ?_) <;> first | (exfalso; omega) | (conv => whnf))
        | (refine Fork.neI (fun _ => ?_) (fun _ => ?_) <;> first | (exfalso; omega) | (conv => whnf))
        | (refine Fork.any (fun _ => ?_) (fun _ => ?_) <;> (conv => whnf))
    · refine CodeS.canon [3] elS3 (s4 u v) (renL [0, 1, 2, 3, 4, 5] 6) (by kernel_rfl) ⟨rfl, rfl, rfl, rfl, trivial⟩ (EmbL.litsN [0, 1, 2, 3, 4, 5] rfl rfl rfl rfl (.cons ⟨rfl, .inl ⟨rfl, fun h => h⟩⟩ (.cons ⟨rfl, .inl ⟨rfl, fun h => h⟩⟩ (.cons ⟨rfl, .inl ⟨rfl, fun h => h⟩⟩ (.cons ⟨rfl, .inl ⟨rfl, fun h => h⟩⟩ .nil)))) (.cons ⟨rfl, .roI⟩ (.cons ⟨rfl, .roI⟩ (.cons ⟨rfl, .roI⟩ (.cons ⟨rfl, .roI⟩ (.cons ⟨rfl, .inl rfl⟩ (.cons ⟨rfl, .inl rfl⟩ .nil))))))) ?_
      conv => whnf
      refine CodeS.cutR [] elS4 (s5 u v) (by kernel_rfl) (regS u v hp hq _) ?_
      conv => whnf
      repeat' first
        | ((with_reducible refine Gets.shrN ?_ ?_); (· omega); conv => whnf)
        | ((with_reducible refine Gets.andOne ?_ ?_); (· first | omega | exact Nat.lt_of_le_of_lt (Nat.shiftRight_le _ _) (by omega)); conv => whnf)
        | ((with_reducible refine Gets.shlN ?_ ?_); (· omega); conv => whnf)
        | ((with_reducible refine Gets.shlI ?_ ?_ ?_); (· omega); (· omega); conv => whnf)
        | ((with_reducible refine Gets.quoI ?_ ?_ ?_ ?_); (· omega); (· omega); (· omega); conv => whnf)
        | ((with_reducible refine Gets.remN ?_ ?_ ?_); (· omega); (· omega); conv => whnf)
        | ((with_reducible refine Fork.bit (fun _ => ?_) (fun _ => ?_)) <;> (conv => whnf))
        | ((with_reducible refine Gets.addI ?_ ?_ ?_); (· omega); (· omega); conv => whnf)
        | ((with_reducible refine Gets.subI ?_ ?_ ?_); (· omega); (· omega); conv => whnf)
        | ((with_reducible refine Gets.mulI ?_ ?_ ?_); (· omega); (· omega); conv => whnf)
        | (refine Gets.of _ rfl ?_; conv => whnf)
        | (refine Gets.ix1v rfl rfl (by omega) ?_; conv => whnf)
        | (refine Gets.ix1 rfl rfl (by omega) ?_; conv => whnf)
        | (refine Gets.ixIv rfl rfl (by omega) (by omega) ?_; conv => whnf)
        | (refine Gets.ixI rfl rfl (by omega) (by omega) ?_; conv => whnf)
        | (refine Gets.ixEv (es := 2) rfl rfl (by omega) ?_; conv => whnf)
        | (refine Gets.ixE (es := 2) rfl rfl (by omega) ?_; conv => whnf)
        | (refine Gets.ldP (ti := tiP) rfl rfl rfl (by first | rfl | assumption) (by first | omega | exact Nat.le_of_ble_eq_true rfl) ?_; conv => whnf)
        | (refine Gets.ldI rfl (by first | rfl | assumption) (by first | omega | exact Nat.le_of_ble_eq_true rfl) ?_; conv => whnf)
        | (refine Gets.ldB rfl (by first | rfl | assumption) (by first | omega | exact Nat.le_of_ble_eq_true rfl) ?_; conv => whnf)
        | (refine Chk.mk (by repeat first | exact .nil | refine .cons rfl ?_) ?_; conv => whnf)
        | (refine Alls.mk ?_ ?_ <;> conv => whnf)
        | (refine Gets.stA rfl rfl rfl rfl (by simp only [List.all_cons, List.all_nil, oI_sc, oP_sc, oN_sc, Bool.and_true, Bool.true_and] <;> rfl) ?_; conv => whnf)
        | (refine seqL1_of ?_; conv => whnf)
        | (refine seqV_of ?_; conv => whnf)
        | (refine seq1_of ?_; conv => whnf)
        | (refine seq0_of ?_; conv => whnf)
        | (refine Fork.yesR rfl ?_; conv => whnf)
        | (refine Fork.noR rfl ?_; conv => whnf)
        | (refine Fork.dec (fun _ => ?_) (fun _ => ?_) <;> first | (exfalso; omega) | (conv => whnf))
        | (refine Fork.eqI (fun _ => ?_) (fun _ => ?_) <;> first | (exfalso; omega) | (conv => whnf))
        | (refine Fork.neI (fun _ => ?_) (fun _ => ?_) <;> first | (exfalso; omega) | (conv => whnf))
        | (refine Fork.any (fun _ => ?_) (fun _ => ?_) <;> (conv => whnf))
      have zu := nfP_sz hp.s32 hp.l32
      have zv := nfP_sz hq.s32 hq.l32
      have e : nf u = nf v ↔ u.stem.take (nfP u.stem u.loop).n = v.stem.take (nfP v.stem v.loop).n ∧ (nfP u.stem u.loop).loop = (nfP v.stem v.loop).loop := wd_ext
      have fu : (nfP u.stem u.loop).full = u.stem := rfl
      have fv : (nfP v.stem v.loop).full = v.stem := rfl
      refine CallS.of (by kernel_rfl) (equal37q u.stem v.stem (nfP u.stem u.loop).n (nfP v.stem v.loop).n (fu ▸ zu.n) (fv ▸ zv.n) hp.s32 hq.s32 (.vB rfl rfl) (.vB rfl rfl)) rfl ?_
      rintro _ _ ⟨rfl, h1 | h1⟩
      all_goals conv => whnf
      all_goals
        repeat' first
          | ((with_reducible refine Gets.shrN ?_ ?_); (· omega); conv => whnf)
          | ((with_reducible refine Gets.andOne ?_ ?_); (· first | omega | exact Nat.lt_of_le_of_lt (Nat.shiftRight_le _ _) (by omega)); conv => whnf)
          | ((with_reducible refine Gets.shlN ?_ ?_); (· omega); conv => whnf)
          | ((with_reducible refine Gets.shlI ?_ ?_ ?_); (· omega); (· omega); conv => whnf)
          | ((with_reducible refine Gets.quoI ?_ ?_ ?_ ?_); (· omega); (· omega); (· omega); conv => whnf)
          | ((with_reducible refine Gets.remN ?_ ?_ ?_); (· omega); (· omega); conv => whnf)
          | ((with_reducible refine Fork.bit (fun _ => ?_) (fun _ => ?_)) <;> (conv => whnf))
          | ((with_reducible refine Gets.addI ?_ ?_ ?_); (· omega); (· omega); conv => whnf)
          | ((with_reducible refine Gets.subI ?_ ?_ ?_); (· omega); (· omega); conv => whnf)
          | ((with_reducible refine Gets.mulI ?_ ?_ ?_); (· omega); (· omega); conv => whnf)
          | (refine Gets.of _ rfl ?_; conv => whnf)
          | (refine Gets.ix1v rfl rfl (by omega) ?_; conv => whnf)
          | (refine Gets.ix1 rfl rfl (by omega) ?_; conv => whnf)
          | (refine Gets.ixIv rfl rfl (by omega) (by omega) ?_; conv => whnf)
          | (refine Gets.ixI rfl rfl (by omega) (by omega) ?_; conv => whnf)
          | (refine Gets.ixEv (es := 2) rfl rfl (by omega) ?_; conv => whnf)
          | (refine Gets.ixE (es := 2) rfl rfl (by omega) ?_; conv => whnf)
          | (refine Gets.ldP (ti := tiP) rfl rfl rfl (by first | rfl | assumption) (by first | omega | exact Nat.le_of_ble_eq_true rfl) ?_; conv => whnf)
          | (refine Gets.ldI rfl (by first | rfl | assumption) (by first | omega | exact Nat.le_of_ble_eq_true rfl) ?_; conv => whnf)
          | (refine Gets.ldB rfl (by first | rfl | assumption) (by first | omega | exact Nat.le_of_ble_eq_true rfl) ?_; conv => whnf)
          | (refine Chk.mk (by repeat first | exact .nil | refine .cons rfl ?_) ?_; conv => whnf)
          | (refine Alls.mk ?_ ?_ <;> conv => whnf)
          | (refine Gets.stA rfl rfl rfl rfl (by simp only [List.all_cons, List.all_nil, oI_sc, oP_sc, oN_sc, Bool.and_true, Bool.true_and] <;> rfl) ?_; conv => whnf)
          | (refine seqL1_of ?_; conv => whnf)
          | (refine seqV_of ?_; conv => whnf)
          | (refine seq1_of ?_; conv => whnf)
          | (refine seq0_of ?_; conv => whnf)
          | (refine Fork.yesR rfl ?_; conv => whnf)
          | (refine Fork.noR rfl ?_; conv => whnf)
          | (refine Fork.dec (fun _ => ?_) (fun _ => ?_) <;> first | (exfalso; omega) | (conv => whnf))
          | (refine Fork.eqI (fun _ => ?_) (fun _ => ?_) <;> first | (exfalso; omega) | (conv => whnf))
          | (refine Fork.neI (fun _ => ?_) (fun _ => ?_) <;> first | (exfalso; omega) | (conv => whnf))
          | (refine Fork.any (fun _ => ?_) (fun _ => ?_) <;> (conv => whnf))
      · refine CallS.of (by kernel_rfl) (equal37q (nfP u.stem u.loop).loop (nfP v.stem v.loop).loop (nfP u.stem u.loop).loop.length (nfP v.stem v.loop).loop.length (Nat.le_refl _) (Nat.le_refl _) zu.l zv.l (.vB rfl rfl) (.vB rfl rfl)) rfl ?_
        rintro _ _ ⟨rfl, h2 | h2⟩
        all_goals conv => whnf
        all_goals
          repeat' first
            | ((with_reducible refine Gets.shrN ?_ ?_); (· omega); conv => whnf)
            | ((with_reducible refine Gets.andOne ?_ ?_); (· first | omega | exact Nat.lt_of_le_of_lt (Nat.shiftRight_le _ _) (by omega)); conv => whnf)
            | ((with_reducible refine Gets.shlN ?_ ?_); (· omega); conv => whnf)
            | ((with_reducible refine Gets.shlI ?_ ?_ ?_); (· omega); (· omega); conv => whnf)
            | ((with_reducible refine Gets.quoI ?_ ?_ ?_ ?_); (· omega); (· omega); (· omega); conv => whnf)
            | ((with_reducible refine Gets.remN ?_ ?_ ?_); (· omega); (· omega); conv => whnf)
            | ((with_reducible refine Fork.bit (fun _ => ?_) (fun _ => ?_)) <;> (conv => whnf))
            | ((with_reducible refine Gets.addI ?_ ?_ ?_); (· omega); (· omega); conv => whnf)
            | ((with_reducible refine Gets.subI ?_ ?_ ?_); (· omega); (· omega); conv => whnf)
            | ((with_reducible refine Gets.mulI ?_ ?_ ?_); (· omega); (· omega); conv => whnf)
            | (refine Gets.of _ rfl ?_; conv => whnf)
            | (refine Gets.ix1v rfl rfl (by omega) ?_; conv => whnf)
            | (refine Gets.ix1 rfl rfl (by omega) ?_; conv => whnf)
            | (refine Gets.ixIv rfl rfl (by omega) (by omega) ?_; conv => whnf)
            | (refine Gets.ixI rfl rfl (by omega) (by omega) ?_; conv => whnf)
            | (refine Gets.ixEv (es := 2) rfl rfl (by omega) ?_; conv => whnf)
            | (refine Gets.ixE (es := 2) rfl rfl (by omega) ?_; conv => whnf)
            | (refine Gets.ldP (ti := tiP) rfl rfl rfl (by first | rfl | assumption) (by first | omega | exact Nat.le_of_ble_eq_true rfl) ?_; conv => whnf)
            | (refine Gets.ldI rfl (by first | rfl | assumption) (by first | omega | exact Nat.le_of_ble_eq_true rfl) ?_; conv => whnf)
            | (refine Gets.ldB rfl (by first | rfl | assumption) (by first | omega | exact Nat.le_of_ble_eq_true rfl) ?_; conv => whnf)
            | (refine Chk.mk (by repeat first | exact .nil | refine .cons rfl ?_) ?_; conv => whnf)
            | (refine Alls.mk ?_ ?_ <;> conv => whnf)
            | (refine Gets.stA rfl rfl rfl rfl (by simp only [List.all_cons, List.all_nil, oI_sc, oP_sc, oN_sc, Bool.and_true, Bool.true_and] <;> rfl) ?_; conv => whnf)
            | (refine seqL1_of ?_; conv => whnf)
            | (refine seqV_of ?_; conv => whnf)
            | (refine seq1_of ?_; conv => whnf)
            | (refine seq0_of ?_; conv => whnf)
            | (refine Fork.yesR rfl ?_; conv => whnf)
            | (refine Fork.noR rfl ?_; conv => whnf)
            | (refine Fork.dec (fun _ => ?_) (fun _ => ?_) <;> first | (exfalso; omega) | (conv => whnf))
            | (refine Fork.eqI (fun _ => ?_) (fun _ => ?_) <;> first | (exfalso; omega) | (conv => whnf))
            | (refine Fork.neI (fun _ => ?_) (fun _ => ?_) <;> first | (exfalso; omega) | (conv => whnf))
            | (refine Fork.any (fun _ => ?_) (fun _ => ?_) <;> (conv => whnf))
        all_goals rw [List.take_length, List.take_length] at h2
        · exact ⟨_, _, rfl, .inr ⟨⟨hp, hq⟩, rfl, fun _ => e.2 ⟨h1, h2⟩, fun _ => rfl⟩⟩
        · exact ⟨_, _, rfl, .inr ⟨⟨hp, hq⟩, rfl, fun h => (by cases h), fun h => absurd (e.1 h).2 h2⟩⟩
      · exact ⟨_, _, rfl, .inr ⟨⟨hp, hq⟩, rfl, fun h => (by cases h), fun h => absurd (e.1 h).1 h1⟩⟩
    · exact ⟨_, _, rfl, .inl ⟨fun h => hq h.2, rfl, rfl⟩⟩
  · exact ⟨_, _, rfl, .inl ⟨fun h => hp h.1, rfl, rfl⟩⟩
end Go.Proofs.YthjemhlcojmiaaaDoor
