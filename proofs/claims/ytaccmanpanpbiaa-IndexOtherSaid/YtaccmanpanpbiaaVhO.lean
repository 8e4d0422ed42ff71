import Derived.Test.YtaccmanpanpbiaaVhN
/- Regions whose order is open, by a plan that the region's text alone gives. -/
set_option linter.unusedVariables false
set_option linter.unusedSimpArgs false
namespace Go.Vh
variable {P : Program} {N : Nat} {ρ : Option Nat}

/-- Operations that apure may know. -/
def pureKind : Op → Bool
  | .move _ | .assign _ | .pick .. | .build .. | .nilCheck _ | .binOp .. | .unOp .. | .convert .. | .makeFunc .. | .slice .. | .fieldAddr .. | .field .. | .indexAddr .. | .index .. | .extract .. => true
  | .call ⟨.builtin b, _, _⟩ => (match b with | .len | .cap | .min | .max => true | _ => false)
  | _ => false
def loadKind : Op → Bool
  | .load .. => true
  | _ => false
/-- Operations that write what was there. -/
def writeKind : Op → Bool
  | .store .. | .mapUpdate .. | .insert .. => true
  | .call ⟨.builtin b, _, _⟩ => (match b with | .len | .cap | .min | .max | .append => false | _ => true)
  | _ => false
def offsOf (ops : Array Oper) : List Nat := (List.range ops.size).filter fun i => match ops[i]? with | some o => writeKind o.op | none => false
def mayPlan (N : Nat) (ops : Array Oper) (off : List Nat) (listed : Array Bool) (i : Nat) : Bool :=
  match ops[i]? with
  | some o => mayTake N ops off listed i && (pureKind o.op || (loadKind o.op && offWait ops off i && noOff off listed))
  | none => false
/-- A step of a plan: the operation, whether it is taken ahead, whether what is held must still be as it was behind it. -/
structure PStep where
  o : Oper
  take : Bool
  chk : Bool
def mkPlan (N : Nat) (ops : Array Oper) (off : List Nat) : Nat → Array Bool → Option (List PStep)
  | 0, listed => if Region.ready .any ops listed = [] then some [] else none
  | fuel + 1, listed => match Region.ready .any ops listed with
    | [] => some []
    | r :: rs => match (r :: rs).find? (mayPlan N ops off listed) with
      | some i => match ops[i]? with
        | some o => (mkPlan N ops off fuel (listed.setIfInBounds i true)).map fun l => ⟨o, true, false⟩ :: l
        | none => none
      | none => match rs, ops[r]? with
        | [], some o => if okOper N o then (mkPlan N ops off fuel (listed.setIfInBounds r true)).map fun l => ⟨o, false, noOff off (listed.setIfInBounds r true)⟩ :: l else none
        | _, _ => none
def planOf (N : Nat) (ops : Array Oper) : Option (List PStep) := mkPlan N ops (offsOf ops) ops.size (Array.replicate ops.size false)

def takeA (P : Program) (ops : Array Oper) (held : List Nat) (o : Oper) (e : Env) (H : AHeap) : Option AVal :=
  match takeP P ops o e H with
  | some v => some v
  | none => takeL P ops held o e H
def wplan (P : Program) (ops : Array Oper) (held : List Nat) : List PStep → Env → AHeap → (Env → AHeap → Prop) → Prop
  | [], e, H, K => K e H
  | s :: l, e, H, K =>
    if s.take = true then match takeA P ops held s.o e H with
      | some v => wplan P ops held l (put? e s.o.dst v) H K
      | none => False
    else wopP P ops s.o e H fun e' H' => (s.chk = true → ∀ j ∈ held, H'.ver j = H.ver j) ∧ wplan P ops held l e' H' K
theorem pureKind_load {o : Op} (h : pureKind o = true) : loadKind o = false := by cases o <;> first | rfl | (simp [pureKind] at h)
theorem AnyW.plan {ops : Array Oper} {held off : List Nat} {K : Env → AHeap → Prop} : ∀ (fuel : Nat) (listed : Array Bool) (e : Env) (H : AHeap) (pl : List PStep), mkPlan N ops off fuel listed = some pl → wplan P ops held pl e H K → AnyW P N ops held off fuel listed e H K
  | 0, listed, e, H, pl, hp, h => by
    simp only [mkPlan] at hp
    split at hp
    · rename_i hr; cases hp; exact AnyW.done hr h
    · cases hp
  | fuel + 1, listed, e, H, pl, hp, h => by
    simp only [mkPlan] at hp
    split at hp
    · rename_i hr; cases hp; exact AnyW.done hr h
    · rename_i r rs hr
      split at hp
      · rename_i i hi
        have hmay := List.find?_some hi
        split at hp
        · rename_i o ho
          cases hm : mkPlan N ops off fuel (listed.setIfInBounds i true) with
          | none => rw [hm] at hp; cases hp
          | some l =>
            rw [hm] at hp
            simp only [Option.map_some, Option.some.injEq] at hp
            subst hp
            simp only [wplan, if_true] at h
            unfold mayPlan at hmay
            rw [ho] at hmay
            simp only [Bool.and_eq_true] at hmay
            split at h
            · rename_i v hv
              have ih := AnyW.plan fuel (listed.setIfInBounds i true) _ H l hm h
              unfold takeA at hv
              split at hv
              · rename_i v' hv'
                cases hv
                exact AnyW.take i ho hmay.1 hv' ih
              · have hld : loadKind o.op = true := by
                  unfold takeL at hv
                  split at hv
                  · rename_i hop; rw [hop]; rfl
                  · cases hv
                have : (mayTake N ops off listed i && offWait ops off i && noOff off listed) = true := by
                  have h2 := hmay.2
                  cases hpk : pureKind o.op with
                  | true => rw [pureKind_load hpk] at hld; cases hld
                  | false => rw [hpk, hld] at h2; simp only [Bool.false_or, Bool.true_and] at h2; rw [hmay.1]; simpa using h2
                exact AnyW.load i ho this hv ih
            · exact h.elim
        · cases hp
      · split at hp
        · rename_i o ho hfind
          split at hp
          · rename_i hok
            cases hm : mkPlan N ops off fuel (listed.setIfInBounds r true) with
            | none => rw [hm] at hp; cases hp
            | some l =>
              rw [hm] at hp
              simp only [Option.map_some, Option.some.injEq] at hp
              subst hp
              simp only [wplan, Bool.false_eq_true, if_false] at h
              refine AnyW.all [r] hr (by simp) fun i hi => ?_
              obtain rfl : i = r := by simpa using hi
              refine ⟨o, ho, hok, ?_⟩
              have mono : ∀ {K1 K2 : Env → AHeap → Prop}, wopP P ops o e H K1 → (∀ e H, K1 e H → K2 e H) → wopP P ops o e H K2 := by
                intro K1 K2 h1 h2
                have go : ∀ {L1 L2 : AVal → AHeap → Prop}, wgoP P o.op e H L1 → (∀ v H, L1 v H → L2 v H) → wgoP P o.op e H L2 := by
                  intro L1 L2 h1 h2
                  unfold wgoP at *
                  split at h1
                  · rename_i f args ts hop
                    unfold wcallP at *
                    split at h1
                    · exact ⟨h1.1, h1.2.mono h2⟩
                    · exact h1.elim
                  · rename_i hno
                    split at h1
                    · rename_i v H' hst
                      first
                        | exact h2 _ _ h1
                        | (split
                           · rename_i heq; rw [hst] at heq; cases heq; exact h2 _ _ h1
                           · rename_i heq; rw [hst] at heq; cases heq)
                    · exact h1.elim
                unfold wopP at *
                split at h1
                · exact go h1 fun v H => h2 _ _
                · split at h1
                  · split at h1
                    · split at h1
                      · rw [if_pos (by assumption)]; exact go h1 fun v H => h2 _ _
                      · rw [if_neg (by assumption)]; exact h2 _ _ h1
                    · exact h2 _ _ h1
                    · exact h1.elim
                  · exact h1.elim
              exact mono h fun e' H' hk => ⟨hk.1, AnyW.plan fuel _ e' H' l hm hk.2⟩
          · cases hp
        · cases hp
/-- **A region whose order is open, by its plan.** -/
theorem CW.plan {id : Nat} {ops : Array Oper} {e : Env} {H : AHeap} {K : Exit → Env → AHeap → Prop} (held : List Nat) (hm : P.follows .mixedOrders = true) (hok : okOps N ops = true) (hh : ∀ i ∈ held, i < H.n ∧ (H.f i).live) {pl : List PStep} (hp : planOf N ops = some pl)
    (h : wplan P ops held pl e H fun e H => K .normal e H) : CW P N ρ (.region id ops true) e H K :=
  CW.draw held (offsOf ops) hm hok hh (AnyW.plan _ _ e H pl hp h)
end Go.Vh
