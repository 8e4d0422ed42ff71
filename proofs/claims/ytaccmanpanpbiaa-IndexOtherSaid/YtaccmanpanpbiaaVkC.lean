import Derived.Test.YtaccmanpanpbiaaVkB
/- Regions whose order is open: trees of plans; where two writing operations may come in either order, both are shown. -/
set_option linter.unusedVariables false
set_option linter.unusedSimpArgs false
namespace Go.Vk
open Go.Vh
variable {P : Program} {N : Nat} {ρ : Option Nat} {n0 : Nat}
inductive PTree where
  | done
  | take (i : Nat) (t : PTree)
  | one (i : Nat) (chk : Bool) (t : PTree)
  | two (a b : PTree)
  deriving DecidableEq
def orders (br : Nat → Option PTree) : List Nat → Option PTree
  | [] => none
  | [r] => br r
  | r :: rs => match br r, orders br rs with
    | some a, some b => some (.two a b)
    | _, _ => none
def mkTree (N : Nat) (ops : Array Oper) (off : List Nat) : Nat → Array Bool → Option PTree
  | 0, listed => if Region.ready .any ops listed = [] then some .done else none
  | fuel + 1, listed => match Region.ready .any ops listed with
    | [] => some .done
    | r :: rs => match (r :: rs).find? (mayPlan N ops off listed) with
      | some i => (mkTree N ops off fuel (listed.setIfInBounds i true)).map (.take i)
      | none => orders (fun r => match ops[r]? with
        | some o => if okOper N o then (mkTree N ops off fuel (listed.setIfInBounds r true)).map (.one r (noOff off (listed.setIfInBounds r true))) else none
        | none => none) (r :: rs)
def treeOf (N : Nat) (ops : Array Oper) : Option PTree := mkTree N ops (offsOf ops) ops.size (Array.replicate ops.size false)
def wtree (P : Program) (ops : Array Oper) (held : List Nat) : PTree → Env → AHeap → (Env → AHeap → Prop) → Prop
  | .done, e, H, K => K e H
  | .take i t, e, H, K => ∃ o v, ops[i]? = some o ∧ takeA P ops held o e H = some v ∧ wtree P ops held t (put? e o.dst v) H K
  | .one i chk t, e, H, K => ∃ o, ops[i]? = some o ∧ wopP P ops o e H fun e' H' => (chk = true → ∀ j ∈ held, H'.ver j = H.ver j) ∧ wtree P ops held t e' H' K
  | .two a b, e, H, K => wtree P ops held a e H K ∧ wtree P ops held b e H K
theorem orders_all {ops : Array Oper} {held : List Nat} {br : Nat → Option PTree} {e : Env} {H : AHeap} {K : Env → AHeap → Prop} : ∀ (rs : List Nat) (t : PTree), orders br rs = some t → wtree P ops held t e H K → ∀ r ∈ rs, ∃ t', br r = some t' ∧ wtree P ops held t' e H K
  | [], t, h, _ => by cases h
  | [r], t, h, hw => fun r' hr' => by
    obtain rfl : r' = r := by simpa using hr'
    exact ⟨t, h, hw⟩
  | r :: s :: rs, t, h, hw => fun r' hr' => by
    simp only [orders] at h
    split at h
    · rename_i a b ha hb
      cases h
      rcases List.mem_cons.1 hr' with rfl | h1
      · exact ⟨a, ha, hw.1⟩
      · exact orders_all (s :: rs) b hb hw.2 r' h1
    · cases h
theorem AnyW.tree {ops : Array Oper} {held off : List Nat} {K : Env → AHeap → Prop} : ∀ (fuel : Nat) (listed : Array Bool) (e : Env) (H : AHeap) (t : PTree), mkTree N ops off fuel listed = some t → wtree P ops held t e H K → AnyW P N ops held off fuel listed e H K
  | 0, listed, e, H, t, hp, h => by
    simp only [mkTree] at hp
    split at hp
    · rename_i hr; cases hp; exact AnyW.done hr h
    · cases hp
  | fuel + 1, listed, e, H, t, hp, h => by
    simp only [mkTree] at hp
    split at hp
    · rename_i hr; cases hp; exact AnyW.done hr h
    · rename_i r rs hr
      split at hp
      · rename_i i hi
        have hmay := List.find?_some hi
        cases hm : mkTree N ops off fuel (listed.setIfInBounds i true) with
        | none => rw [hm] at hp; cases hp
        | some l =>
          rw [hm] at hp
          simp only [Option.map_some, Option.some.injEq] at hp
          subst hp
          obtain ⟨o, v, ho, hv, h⟩ := h
          unfold mayPlan at hmay
          rw [ho] at hmay
          simp only [Bool.and_eq_true] at hmay
          have ih := AnyW.tree fuel (listed.setIfInBounds i true) _ H l hm h
          unfold takeA at hv
          split at hv
          · rename_i v' hv'
            cases hv
            exact AnyW.take i ho hmay.1 hv' ih
          · have hld : loadKind o.op = true := by
              unfold takeL at hv
              split at hv
              · rename_i hop; rw [hop]; rfl
              · cases hv
            have : (mayTake N ops off listed i && offWait ops off i && noOff off listed) = true := by
              have h2 := hmay.2
              cases hpk : pureKind o.op with
              | true => rw [pureKind_load hpk] at hld; cases hld
              | false => rw [hpk, hld] at h2; simp only [Bool.false_or, Bool.true_and] at h2; rw [hmay.1]; simpa using h2
            exact AnyW.load i ho this hv ih
      · refine AnyW.all (r :: rs) hr (by simp) fun i hi => ?_
        obtain ⟨t', ht', hw⟩ := orders_all _ _ hp h i hi
        split at ht'
        · rename_i o ho
          split at ht'
          · rename_i hok
            cases hm : mkTree N ops off fuel (listed.setIfInBounds i true) with
            | none => rw [hm] at ht'; cases ht'
            | some l =>
              rw [hm] at ht'
              simp only [Option.map_some, Option.some.injEq] at ht'
              subst ht'
              obtain ⟨o', ho', hw⟩ := hw
              rw [ho] at ho'
              cases ho'
              exact ⟨o, ho, hok, wopP_mono hw fun e' H' hk => ⟨hk.1, AnyW.tree fuel _ e' H' l hm hk.2⟩⟩
          · cases ht'
        · cases ht'
/-- Both orders. -/
structure Alls (A B : Prop) : Prop where
  fst : A
  snd : B
structure Chk (A B : Prop) : Prop where
  kept : A
  rest : B
def chkP (chk : Bool) (A B : Prop) : Prop := match chk with
  | true => Chk A B
  | false => B
noncomputable def stree (P : Program) (ops : Array Oper) (held : List Nat) (t : PTree) : Env → AHeap → (Env → AHeap → Prop) → Prop :=
  PTree.rec (motive := fun _ => Env → AHeap → (Env → AHeap → Prop) → Prop) (fun e H K => K e H)
    (fun i _ r e H K => match ops[i]? with
      | some o => stakeG P ops held o e H fun v => putK e o.dst v fun e => r e H K
      | none => False)
    (fun i chk _ r e H K => match ops[i]? with
      | some o => sopP P ops o e H fun e' H' => chkP chk (AllM (fun j => H'.ver j = H.ver j) held) (r e' H' K)
      | none => False)
    (fun _ _ ra rb e H K => Alls (ra e H K) (rb e H K)) t
theorem stree_sound {ops : Array Oper} {held : List Nat} {K : Env → AHeap → Prop} : ∀ (t : PTree) (e : Env) (H : AHeap), stree P ops held t e H K → wtree P ops held t e H K
  | .done, e, H, h => h
  | .take i t, e, H, h => by
    change (match ops[i]? with
      | some o => stakeG P ops held o e H fun v => putK e o.dst v fun e => stree P ops held t e H K
      | none => False) at h
    split at h
    · rename_i o ho
      obtain ⟨v, hv, hk⟩ := stakeG_sound h
      rw [putK_eq] at hk
      exact ⟨o, v, ho, hv, stree_sound t _ H hk⟩
    · exact h.elim
  | .one i chk t, e, H, h => by
    change (match ops[i]? with
      | some o => sopP P ops o e H fun e' H' => chkP chk (AllM (fun j => H'.ver j = H.ver j) held) (stree P ops held t e' H' K)
      | none => False) at h
    split at h
    · rename_i o ho
      refine ⟨o, ho, wopP_mono (sopP_sound h) fun e' H' hk => ?_⟩
      cases chk with
      | true => exact ⟨fun _ j hj => hk.kept.at j hj, stree_sound t e' H' hk.rest⟩
      | false => exact ⟨fun h => (by cases h), stree_sound t e' H' hk⟩
    · exact h.elim
  | .two a b, e, H, h => ⟨stree_sound a e H h.fst, stree_sound b e H h.snd⟩
/-- **A statement whose order is open.** -/
theorem CodeS.drawT {id : Nat} {ops : Array Oper} {e : Env} {H : AHeap} {K : Exit → Env → AHeap → Prop} (held : List Nat) (t : PTree) (hm : P.follows .mixedOrders = true) (hok : (okOps N ops && decide (treeOf N ops = some t)) = true) (hh : AllM (fun i => Nat.blt i H.n = true ∧ (H.f i).live) held)
    (h : stree P ops held t e H fun e H => K .normal e H) : CodeS P N ρ n0 (.region id ops true) e H K := by
  simp only [Bool.and_eq_true, decide_eq_true_eq] at hok
  exact ⟨CW.within (CW.draw held (offsOf ops) hm hok.1 (fun i hi => by
    have := hh.at i hi
    exact ⟨Nat.le_of_ble_eq_true this.1, this.2⟩) (AnyW.tree _ _ e H t hok.2 (stree_sound t e H h)))⟩
end Go.Vk
