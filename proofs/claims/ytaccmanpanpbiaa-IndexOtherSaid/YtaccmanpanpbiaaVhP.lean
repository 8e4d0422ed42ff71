import Derived.Test.YtaccmanpanpbiaaVhO
/- Carrying code out: a function from environments and heaps to environments and heaps; what it gives holds of the model. -/
set_option linter.unusedVariables false
set_option linter.unusedSimpArgs false
namespace Go.Vh
variable {P : Program} {N : Nat} {ρ : Option Nat}

/-! ### Values looked at at once -/
def forceN {β : Type} (n : Nat) (k : Nat → β) : β := match n with | 0 => k 0 | m + 1 => k (m + 1)
theorem forceN_eq {β : Type} (n : Nat) (k : Nat → β) : forceN n k = k n := by cases n <;> rfl
def forceI {β : Type} (n : Int) (k : Int → β) : β := match n with | .ofNat m => forceN m fun m => k (.ofNat m) | .negSucc m => forceN m fun m => k (.negSucc m)
theorem forceI_eq {β : Type} (n : Int) (k : Int → β) : forceI n k = k n := by cases n <;> simp [forceI, forceN_eq]
def forceB {β : Type} (b : Bool) (k : Bool → β) : β := match b with | true => k true | false => k false
theorem forceB_eq {β : Type} (b : Bool) (k : Bool → β) : forceB b k = k b := by cases b <;> rfl
def forceV {β : Type} (v : AVal) (k : AVal → β) : β :=
  match v with
  | .int kd n => forceI n fun n => k (.int kd n)
  | .bool b => forceB b fun b => k (.bool b)
  | .ptr i o => forceN i fun i => forceN o fun o => k (.ptr i o)
  | .slice i o l => forceN i fun i => forceN o fun o => forceN l fun l => k (.slice i o l)
  | .map i => forceN i fun i => k (.map i)
  | v => k v
theorem forceV_eq {β : Type} (v : AVal) (k : AVal → β) : forceV v k = k v := by cases v <;> simp [forceV, forceN_eq, forceI_eq, forceB_eq]

/-! ### A table of a function's values -/
inductive MT (α : Type) where
  | leaf (a : α)
  | node (m : Nat) (l r : MT α)
def MT.build {α : Type} (f : Nat → α) : Nat → Nat → Nat → MT α
  | 0, lo, _ => .leaf (f lo)
  | d + 1, lo, len => if len ≤ 1 then .leaf (f lo) else .node (lo + len / 2) (MT.build f d lo (len / 2)) (MT.build f d (lo + len / 2) (len - len / 2))
def MT.get {α : Type} : MT α → Nat → Nat → Option α
  | .leaf a, lo, i => if i = lo then some a else none
  | .node m l r, lo, i => if i < m then l.get lo i else r.get m i
theorem MT.get_build {α : Type} (f : Nat → α) : ∀ (d lo len i : Nat) (a : α), (MT.build f d lo len).get lo i = some a → a = f i
  | 0, lo, len, i, a, h => by
    simp only [MT.build, MT.get] at h
    split at h
    · rename_i hi; cases h; rw [hi]
    · cases h
  | d + 1, lo, len, i, a, h => by
    simp only [MT.build] at h
    split at h
    · simp only [MT.get] at h
      split at h
      · rename_i hi; cases h; rw [hi]
      · cases h
    · simp only [MT.get] at h
      split at h
      · exact get_build f d lo _ i a h
      · exact get_build f d _ _ i a h
def lookT {α : Type} (t : MT α) (f : Nat → α) (i : Nat) : α := match t.get 0 i with | some a => a | none => f i
def memo {α : Type} (n : Nat) (f : Nat → α) : Nat → α := lookT (MT.build f 20 0 n) f
theorem memo_eq {α : Type} (n : Nat) (f : Nat → α) : memo n f = f := by
  funext i
  simp only [memo, lookT]
  split
  · rename_i a h; exact MT.get_build f _ _ _ i a h
  · rfl
def AHeap.memo (H : AHeap) : AHeap := ⟨H.n, Vh.memo H.n H.f, Vh.memo H.n H.ver⟩
theorem AHeap.memo_eq (H : AHeap) : H.memo = H := by simp [AHeap.memo, Vh.memo_eq]

/-! ### Operations -/
abbrev Caller := AVal → List AVal → AHeap → Option (AVal × AHeap)
def Caller.ok (P : Program) (call : Caller) : Prop := ∀ fv args H v H', call fv args H = some (v, H') → wcallP P fv args H fun v1 H1 => v1 = v ∧ H1 = H'
def xgo (P : Program) (call : Caller) (o : Op) (e : Env) (H : AHeap) : Option (AVal × AHeap) :=
  match o with
  | .call ⟨.value f, args, _⟩ => call (evalA e f) (args.toList.map (evalA e)) H
  | op => astep P op e H
theorem wcallP_wcall {fv : AVal} {args : List AVal} {H : AHeap} {K : AVal → AHeap → Prop} (h : wcallP P fv args H K) : wcall P fv args H K := by
  unfold wcallP at h
  unfold wcall
  split at h
  · exact h
  · exact h.elim
theorem wcallP_mono {fv : AVal} {args : List AVal} {H : AHeap} {K K' : AVal → AHeap → Prop} (h : wcallP P fv args H K) (hk : ∀ v H, K v H → K' v H) : wcallP P fv args H K' := by
  unfold wcallP at *
  split at h
  · exact ⟨h.1, h.2.mono hk⟩
  · exact h.elim
theorem xgoP_sound {call : Caller} (hc : Caller.ok P call) {o : Op} {e : Env} {H H' : AHeap} {v : AVal} (h : xgo P call o e H = some (v, H')) {K : AVal → AHeap → Prop} (hk : K v H') : wgoP P o e H K := by
  unfold xgo at h
  unfold wgoP
  split at h
  · exact wcallP_mono (hc _ _ _ _ _ h) fun v1 H1 ⟨h1, h2⟩ => by subst h1; subst h2; exact hk
  · rename_i hno
    split
    · exact (hno _ _ _ rfl).elim
    · rw [h]; exact hk
theorem xgo_sound {call : Caller} (hc : Caller.ok P call) {o : Op} {e : Env} {H H' : AHeap} {v : AVal} (h : xgo P call o e H = some (v, H')) {K : AVal → AHeap → Prop} (hk : K v H') : wgo P o e H K := by
  unfold xgo at h
  unfold wgo
  split at h
  · exact wcallP_wcall (wcallP_mono (hc _ _ _ _ _ h) fun v1 H1 ⟨h1, h2⟩ => by subst h1; subst h2; exact hk)
  · rename_i hno
    split
    · exact (hno _ _ _ rfl).elim
    · rw [h]; exact hk
def xop (P : Program) (call : Caller) (ops : Array Oper) (o : Oper) (e : Env) (H : AHeap) : Option (Env × AHeap) :=
  match guardOk ops o e with
  | some true => match xgo P call o.op e H with
    | some (v, H') => forceV v fun v => some (put? e o.dst v, H')
    | none => none
  | some false => some (put? e o.dst (.tuple []), H)
  | none => none
theorem xop_spec {call : Caller} {ops : Array Oper} {o : Oper} {e e' : Env} {H H' : AHeap} (h : xop P call ops o e H = some (e', H')) :
    (guardOk ops o e = some true ∧ ∃ v, xgo P call o.op e H = some (v, H') ∧ e' = put? e o.dst v) ∨ (guardOk ops o e = some false ∧ e' = put? e o.dst (.tuple []) ∧ H' = H) := by
  unfold xop at h
  split at h
  · rename_i hg
    split at h
    · rename_i v H2 hx
      rw [forceV_eq] at h
      simp only [Option.some.injEq, Prod.mk.injEq] at h
      obtain ⟨h1, h2⟩ := h
      subst h2
      exact .inl ⟨hg, v, hx, h1.symm⟩
    · cases h
  · rename_i hg
    simp only [Option.some.injEq, Prod.mk.injEq] at h
    exact .inr ⟨hg, h.1.symm, h.2.symm⟩
  · cases h
theorem wop_of_guard {ops : Array Oper} {o : Oper} {e : Env} {H : AHeap} {K : Env → AHeap → Prop} {g : Bool} (hg : guardOk ops o e = some g) (h : if g = true then wgo P o.op e H (fun v H' => K (put? e o.dst v) H') else K (put? e o.dst (.tuple [])) H) : wop P ops o e H K := by
  rcases hgd : o.guard with _ | ⟨j, want⟩
  · simp only [guardOk, hgd, Option.some.injEq] at hg
    subst hg
    simp only [wop, hgd]
    exact h
  · simp only [guardOk, hgd] at hg
    simp only [wop, hgd]
    split at hg
    · rename_i t ht
      split at hg
      · rename_i b hb
        cases hg
        simp only [ht, hb]
        cases b <;> cases want <;> exact h
      · rename_i l hb
        cases hg
        simp only [ht, hb]
        exact h
      · cases hg
    · cases hg
theorem wopP_of_guard {ops : Array Oper} {o : Oper} {e : Env} {H : AHeap} {K : Env → AHeap → Prop} {g : Bool} (hg : guardOk ops o e = some g) (h : if g = true then wgoP P o.op e H (fun v H' => K (put? e o.dst v) H') else K (put? e o.dst (.tuple [])) H) : wopP P ops o e H K := by
  rcases hgd : o.guard with _ | ⟨j, want⟩
  · simp only [guardOk, hgd, Option.some.injEq] at hg
    subst hg
    simp only [wopP, hgd]
    exact h
  · simp only [guardOk, hgd] at hg
    simp only [wopP, hgd]
    split at hg
    · rename_i t ht
      split at hg
      · rename_i b hb
        cases hg
        cases b <;> cases want <;> exact h
      · rename_i l hb
        cases hg
        exact h
      · cases hg
    · cases hg
theorem xop_sound {call : Caller} (hc : Caller.ok P call) {ops : Array Oper} {o : Oper} {e e' : Env} {H H' : AHeap} (h : xop P call ops o e H = some (e', H')) {K : Env → AHeap → Prop} (hk : K e' H') : wop P ops o e H K := by
  rcases xop_spec h with ⟨hg, v, hx, rfl⟩ | ⟨hg, rfl, rfl⟩
  · exact wop_of_guard hg (by rw [if_pos rfl]; exact xgo_sound hc hx hk)
  · exact wop_of_guard hg (by simpa using hk)
theorem xopP_sound {call : Caller} (hc : Caller.ok P call) {ops : Array Oper} {o : Oper} {e e' : Env} {H H' : AHeap} (h : xop P call ops o e H = some (e', H')) {K : Env → AHeap → Prop} (hk : K e' H') : wopP P ops o e H K := by
  rcases xop_spec h with ⟨hg, v, hx, rfl⟩ | ⟨hg, rfl, rfl⟩
  · exact wopP_of_guard hg (by rw [if_pos rfl]; exact xgoP_sound hc hx hk)
  · exact wopP_of_guard hg (by simpa using hk)
def xops (P : Program) (call : Caller) (ops : Array Oper) : List Oper → Env → AHeap → Option (Env × AHeap)
  | [], e, H => some (e, H)
  | o :: os, e, H => match xop P call ops o e H with
    | some (e', H') => xops P call ops os e' H'
    | none => none
theorem xops_sound {call : Caller} (hc : Caller.ok P call) {ops : Array Oper} {K : Env → AHeap → Prop} : ∀ (os : List Oper) (e e' : Env) (H H' : AHeap), xops P call ops os e H = some (e', H') → K e' H' → wops P ops os e H K
  | [], e, e', H, H', h, hk => by cases h; exact hk
  | o :: os, e, e', H, H', h, hk => by
    simp only [xops] at h
    split at h
    · rename_i e1 H1 h1
      exact xop_sound hc h1 (xops_sound hc os e1 e' H1 H' h hk)
    · cases h
def sameVer (held : List Nat) (H H' : AHeap) : Bool := held.all fun j => H'.ver j == H.ver j
def loadNum (o : Oper) (e : Env) : Option Nat :=
  match o.op with
  | .load _ x => (match evalA e x with | .ptr i _ => some i | _ => none)
  | _ => none
/-- A plan carried out: what came of it, the numbers loaded ahead, the heaps before and behind what must not have written them. -/
def xplan (P : Program) (call : Caller) (ops : Array Oper) : List PStep → Env → AHeap → Option (Env × AHeap × List Nat × List (AHeap × AHeap))
  | [], e, H => some (e, H, [], [])
  | s :: l, e, H => match s.take with
    | true => match takeP P ops s.o e H with
      | some v => forceV v fun v => xplan P call ops l (put? e s.o.dst v) H
      | none => match loadNum s.o e with
        | some i => match takeL P ops [i] s.o e H with
          | some v => forceV v fun v => match xplan P call ops l (put? e s.o.dst v) H with
            | some (e', H', lds, ps) => some (e', H', i :: lds, ps)
            | none => none
          | none => none
        | none => none
    | false => match xop P call ops s.o e H with
      | some (e1, H1) => match xplan P call ops l e1 H1 with
        | some (e', H', lds, ps) => match s.chk with
          | true => some (e', H', lds, (H, H1) :: ps)
          | false => some (e', H', lds, ps)
        | none => none
      | none => none
theorem takeL_held {ops : Array Oper} {held : List Nat} {o : Oper} {e : Env} {H : AHeap} {i : Nat} {v : AVal} (hn : loadNum o e = some i) (hi : i ∈ held) (h : takeL P ops [i] o e H = some v) : takeL P ops held o e H = some v := by
  unfold takeL at *
  split at h
  · rename_i t x hg hop
    split at h
    · rename_i k off ti hx ht
      have hk : k = i := by simp only [loadNum, hop, hx, Option.some.injEq] at hn; exact hn
      subst hk
      have h1 : ([k] : List Nat).contains k = true := by simp
      have h2 : held.contains k = true := by simpa using hi
      rw [h1] at h
      rw [h2]
      exact h
    · rename_i hx ht
      simp only [loadNum, hop, hx] at hn
      cases hn
    · cases h
  · cases h
theorem xplan_sound {call : Caller} (hc : Caller.ok P call) {ops : Array Oper} {held : List Nat} {K : Env → AHeap → Prop} : ∀ (l : List PStep) (e e' : Env) (H H' : AHeap) (lds : List Nat) (ps : List (AHeap × AHeap)), xplan P call ops l e H = some (e', H', lds, ps) →
    (∀ j ∈ lds, j ∈ held) → (∀ p ∈ ps, ∀ j ∈ held, p.2.ver j = p.1.ver j) → K e' H' → wplan P ops held l e H K
  | [], e, e', H, H', lds, ps, h, _, _, hk => by cases h; exact hk
  | s :: l, e, e', H, H', lds, ps, h, h1, h2, hk => by
    simp only [xplan] at h
    simp only [wplan, takeA]
    split at h
    · rename_i ht
      rw [if_pos ht]
      split at h
      · rename_i v hv
        rw [forceV_eq] at h
        rw [hv]
        exact xplan_sound hc l _ e' H H' lds ps h h1 h2 hk
      · rename_i hv
        rw [hv]
        split at h
        · rename_i i hi
          split at h
          · rename_i v hl
            rw [forceV_eq] at h
            split at h
            · rename_i e2 H2 lds2 ps2 hx
              cases h
              dsimp only
              rw [takeL_held hi (h1 i (List.mem_cons_self ..)) hl]
              exact xplan_sound hc l _ _ H _ lds2 _ hx (fun j hj => h1 j (List.mem_cons_of_mem _ hj)) h2 hk
            · cases h
          · cases h
        · cases h
    · rename_i ht
      rw [if_neg (by rw [ht]; simp)]
      split at h
      · rename_i e1 H1 hx
        split at h
        · rename_i e2 H2 lds2 ps2 hx2
          split at h
          · cases h
            exact xopP_sound hc hx ⟨fun _ j hj => h2 (H, H1) (List.mem_cons_self ..) j hj, xplan_sound hc l e1 _ H1 _ _ _ hx2 h1 (fun p hp => h2 p (List.mem_cons_of_mem _ hp)) hk⟩
          · rename_i hck
            cases h
            exact xopP_sound hc hx ⟨fun hs => (by rw [hck] at hs; cases hs), xplan_sound hc l e1 _ H1 _ _ _ hx2 h1 h2 hk⟩
        · cases h
      · cases h

/-! ### Code -/
def liveB (b : ABlk) : Bool := match b with | .dead => false | .ro _ cs => !cs.isEmpty | _ => true
theorem liveB_live {b : ABlk} (h : liveB b = true) : b.live := by
  cases b <;> simp [liveB, ABlk.live] at *
  exact h
def xdraw (P : Program) (call : Caller) (N : Nat) (ops : Array Oper) (e : Env) (H : AHeap) : Option (Env × AHeap) :=
  match okOps N ops, planOf N ops with
  | true, some pl => match xplan P call ops pl e H with
    | some (e', H', lds, ps) => match lds.all (fun i => decide (i < H.n) && liveB (H.f i)) && ps.all (fun p => sameVer lds p.1 p.2) with
      | true => some (e', H')
      | false => none
    | none => none
  | _, _ => none
def xloop (run : Env → AHeap → Option (Exit × Env × AHeap)) (N : Nat) : Nat → Env → AHeap → Option (Exit × Env × AHeap)
  | 0, _, _ => none
  | n + 1, e, H => match run e H with
    | some (x, e', H') => match x with
      | .normal => xloop run N n (memo N e') H'.memo
      | x => some (x, e', H')
    | none => none
def xc (P : Program) (call : Caller) (N : Nat) : Code → Env → AHeap → Option (Exit × Env × AHeap)
  | .skip, e, H => some (.normal, e, H)
  | .label _, e, H => some (.normal, e, H)
  | .seq a b, e, H => match xc P call N a e H with
    | some (x, e', H') => match x with
      | .normal => xc P call N b e' H'
      | x => some (x, e', H')
    | none => none
  | .cond c a b, e, H => match evalA e c with
    | .bool t => match t with
      | true => xc P call N a e H
      | false => xc P call N b e H
    | _ => none
  | .block id c, e, H => match xc P call N c e H with
    | some (x, e', H') => match x with
      | .exit i => if i = id then some (.normal, e', H') else some (.exit i, e', H')
      | x => some (x, e', H')
    | none => none
  | .region id ops draw, e, H => match draw with
    | true => (xdraw P call N ops e H).map fun r => (.normal, r.1, r.2)
    | false => if okOps N ops then (xops P call ops ops.toList e H).map fun r => (.normal, r.1, r.2) else none
  | .exit id, e, H => some (.exit id, e, H)
  | .goto id, e, H => some (.goto id, e, H)
  | .ret, e, H => some (.ret, e, H)
  | .loop c, e, H => xloop (xc P call N c) N 100000 (memo N e) H.memo
  | .rangeFunc .., _, _ => none
  | .scope _, _, _ => none
  | .refuse _, _, _ => none
def Same (x : Exit) (e : Env) (H : AHeap) : Exit → Env → AHeap → Prop := fun x' e' H' => x' = x ∧ e' = e ∧ H' = H
theorem xdraw_sound {call : Caller} (hc : Caller.ok P call) (hm : P.follows .mixedOrders = true) {id : Nat} {ops : Array Oper} {e e' : Env} {H H' : AHeap} (h : xdraw P call N ops e H = some (e', H')) : CW P N ρ (.region id ops true) e H (Same .normal e' H') := by
  unfold xdraw at h
  split at h
  · rename_i pl hok hp
    split at h
    · rename_i e2 H2 lds ps hx
      split at h
      · rename_i hck
        cases h
        simp only [Bool.and_eq_true, List.all_eq_true, decide_eq_true_eq, sameVer, beq_iff_eq] at hck
        exact CW.plan lds hm hok (fun i hi => ⟨(hck.1 i hi).1, liveB_live (hck.1 i hi).2⟩) hp (xplan_sound hc pl _ _ _ _ lds ps hx (fun j hj => hj) hck.2 ⟨rfl, rfl, rfl⟩)
      · cases h
    · cases h
  · cases h
theorem xc_sound {call : Caller} (hc : Caller.ok P call) (hm : P.follows .mixedOrders = true) : ∀ (c : Code) (e : Env) (H : AHeap) (x : Exit) (e' : Env) (H' : AHeap), xc P call N c e H = some (x, e', H') → CW P N ρ c e H (Same x e' H')
  | .skip, e, H, x, e', H', h => by cases h; exact CW.skip ⟨rfl, rfl, rfl⟩
  | .label _, e, H, x, e', H', h => by cases h; exact CW.label ⟨rfl, rfl, rfl⟩
  | .exit _, e, H, x, e', H', h => by cases h; exact CW.exit ⟨rfl, rfl, rfl⟩
  | .goto _, e, H, x, e', H', h => by cases h; exact CW.goto ⟨rfl, rfl, rfl⟩
  | .ret, e, H, x, e', H', h => by cases h; exact CW.ret ⟨rfl, rfl, rfl⟩
  | .seq a b, e, H, x, e', H', h => by
    simp only [xc] at h
    split at h
    · rename_i x1 e1 H1 h1
      refine CW.seq ((xc_sound hc hm a e H x1 e1 H1 h1).mono ?_)
      rintro x2 e2 H2 ⟨rfl, rfl, rfl⟩
      cases x2 with
      | normal => exact xc_sound hc hm b _ _ x e' H' h
      | _ => cases h; exact ⟨rfl, rfl, rfl⟩
    · cases h
  | .cond c a b, e, H, x, e', H', h => by
    simp only [xc] at h
    split at h
    · rename_i t ht
      refine CW.cond ht ?_
      cases t with
      | true => exact xc_sound hc hm a e H x e' H' h
      | false => exact xc_sound hc hm b e H x e' H' h
    · cases h
  | .block id c, e, H, x, e', H', h => by
    simp only [xc] at h
    split at h
    · rename_i x1 e1 H1 h1
      refine CW.block ((xc_sound hc hm c e H x1 e1 H1 h1).mono ?_)
      rintro x2 e2 H2 ⟨rfl, rfl, rfl⟩
      cases x2 with
      | exit i =>
        dsimp only at h ⊢
        split at h <;> rename_i hi <;> cases h
        · rw [if_pos hi]; exact ⟨rfl, rfl, rfl⟩
        · rw [if_neg hi]; exact ⟨rfl, rfl, rfl⟩
      | _ => cases h; exact ⟨rfl, rfl, rfl⟩
    · cases h
  | .region id ops draw, e, H, x, e', H', h => by
    simp only [xc] at h
    cases draw with
    | true =>
      dsimp only at h
      cases hx : xdraw P call N ops e H with
      | none => rw [hx] at h; cases h
      | some r =>
        rw [hx] at h
        cases h
        exact xdraw_sound hc hm hx
    | false =>
      dsimp only at h
      split at h
      · rename_i hok
        cases hx : xops P call ops ops.toList e H with
        | none => rw [hx] at h; cases h
        | some r =>
          rw [hx] at h
          cases h
          exact CW.region hok (xops_sound hc _ _ _ _ _ hx ⟨rfl, rfl, rfl⟩)
      · cases h
  | .loop c, e, H, x, e', H', h => by
    simp only [xc] at h
    rw [memo_eq, AHeap.memo_eq] at h
    refine CW.loop (fun m e1 H1 => xloop (xc P call N c) N m e1 H1 = some (x, e', H')) h fun m e1 H1 hI => ?_
    cases m with
    | zero => cases hI
    | succ m =>
      simp only [xloop] at hI
      split at hI
      · rename_i x2 e2 H2 h2
        refine (xc_sound hc hm c e1 H1 x2 e2 H2 h2).mono ?_
        rintro x3 e3 H3 ⟨rfl, rfl, rfl⟩
        cases x3 with
        | normal =>
          dsimp only at hI
          rw [memo_eq, AHeap.memo_eq] at hI
          exact ⟨m, Nat.lt_succ_self m, hI⟩
        | _ => cases hI; exact ⟨rfl, rfl, rfl⟩
      · cases hI
  | .rangeFunc .., e, H, x, e', H', h => by cases h
  | .scope _, e, H, x, e', H', h => by cases h
  | .refuse _, e, H, x, e', H', h => by cases h

/-! ### Calls -/
def xcall (P : Program) : Nat → Caller
  | 0, _, _, _ => none
  | d + 1, fv, args, H => match fv with
    | .func f as bs => match P.funcs[f]? with
      | some fn => match fn.body with
        | some c => if hasBody P f && decide ((as ++ args ++ bs).length ≤ fn.ntmps) then
            match xc P (xcall P d) fn.ntmps c (memo fn.ntmps (env0 (as ++ args ++ bs))) H.memo with
            | some (x, e', H') => match x with
              | .normal | .ret => (match resA P e' H' fn.results.toList with
                | some v => forceV v fun v => some (v, H')
                | none => none)
              | _ => none
            | none => none
          else none
        | none => none
      | none => none
    | _ => none
theorem xcall_sound (hm : P.follows .mixedOrders = true) : ∀ d : Nat, Caller.ok P (xcall P d)
  | 0 => by intro fv args H v H' h; cases h
  | d + 1 => by
    intro fv args H v H' h
    simp only [xcall] at h
    split at h
    · rename_i f as bs
      split at h
      · rename_i fn hf
        split at h
        · rename_i c hb
          split at h
          · rename_i hck
            simp only [Bool.and_eq_true, decide_eq_true_eq] at hck
            rw [memo_eq, AHeap.memo_eq] at h
            split at h
            · rename_i x e1 H1 hx
              refine ⟨hck.1, CallW.of_body hf hb hck.2 ((xc_sound (xcall_sound hm d) hm c _ _ _ _ _ hx).mono ?_)⟩
              rintro x2 e2 H2 ⟨rfl, rfl, rfl⟩
              split at h
              · split at h
                · rename_i v' hv
                  rw [forceV_eq] at h
                  cases h
                  exact ⟨.inl rfl, _, hv, rfl, rfl⟩
                · cases h
              · split at h
                · rename_i v' hv
                  rw [forceV_eq] at h
                  cases h
                  exact ⟨.inr rfl, _, hv, rfl, rfl⟩
                · cases h
              · cases h
            · cases h
          · cases h
        · cases h
      · cases h
    · cases h

/-! ### A call that no reference enters or leaves -/
def emptyH : AHeap := ⟨0, fun _ => .dead, fun _ => 0⟩
mutual
def noRef : AVal → Bool
  | .int _ _ | .bool _ | .str _ | .nilSlice | .undef | .raw _ => true
  | .agg l | .tuple l => noRefs l
  | .func _ a b => noRefs a && noRefs b
  | .row _ _ | .rptr _ _ => true
  | _ => false
def noRefs : List AVal → Bool
  | [] => true
  | v :: vs => noRef v && noRefs vs
end
mutual
theorem VRel_noRef {φ ψ : PMap} (hz : ZLe φ.z ψ.z) : ∀ (v : AVal) (c : Value), noRef v = true → VRel φ v c → VRel ψ v c
  | .undef, _, _, h => by simp [VRel]
  | .raw _, _, _, h => by simpa [VRel] using h
  | .int _ _, _, _, h => by simpa [VRel] using h
  | .bool _, _, _, h => by simpa [VRel] using h
  | .str _, _, _, h => by simpa [VRel] using h
  | .nilSlice, _, _, h => by simpa [VRel] using h
  | .agg as, _, hn, h => by
    simp only [VRel] at *
    obtain ⟨cs, rfl, h1⟩ := h
    exact ⟨cs, rfl, VRels_noRef hz as cs (by simpa [noRef] using hn) h1⟩
  | .tuple as, _, hn, h => by
    simp only [VRel] at *
    obtain ⟨cs, rfl, h1⟩ := h
    exact ⟨cs, rfl, VRels_noRef hz as cs (by simpa [noRef] using hn) h1⟩
  | .func f as bs, _, hn, h => by
    simp only [VRel] at *
    simp only [noRef, Bool.and_eq_true] at hn
    obtain ⟨cs, ds, rfl, h1, h2⟩ := h
    exact ⟨cs, ds, rfl, VRels_noRef hz as cs hn.1 h1, VRels_noRef hz bs ds hn.2 h2⟩
  | .row n cs, c, hn, h => by
    rw [VRel] at *
    exact ZRel_mono hz _ _ h
  | .rptr cs off, _, hn, h => by
    rw [VRel] at *
    obtain ⟨blk, o, h1, h2⟩ := h
    exact ⟨blk, o, h1, h2.mono hz⟩
  | .ptr i off, _, hn, h => by simp [noRef] at hn
  | .slice i off len, _, hn, h => by simp [noRef] at hn
  | .view i off len, _, hn, h => by simp [noRef] at hn
  | .map i, _, hn, h => by simp [noRef] at hn
  | .yield i, _, hn, h => by simp [noRef] at hn
theorem VRels_noRef {φ ψ : PMap} (hz : ZLe φ.z ψ.z) : ∀ (vs : List AVal) (cs : List Value), noRefs vs = true → VRels φ vs cs → VRels ψ vs cs
  | [], cs, _, hv => by simpa [VRels] using hv
  | v :: vs, [], _, hv => by simp [VRels] at hv
  | v :: vs, c :: cs, hn, hv => by
    simp only [noRefs, Bool.and_eq_true] at hn
    exact VRels_cons.2 ⟨VRel_noRef hz v c hn.1 (VRels_cons.1 hv).1, VRels_noRef hz vs cs hn.2 (VRels_cons.1 hv).2⟩
end
theorem not_own_empty {φ : PMap} {k : Nat} : ¬ Own φ emptyH k := by rintro ⟨i, b, _, h, _⟩; exact h
def pm0 (z : ZMap) : PMap := ⟨fun _ => none, z⟩
theorem rel_empty {z : ZMap} {w : World} (hz : ∀ k o, z k = some o → w.heap[k]? = some o ∧ ∃ arr el fr, o = .cells arr el fr) : Rel (pm0 z) emptyH w :=
  ⟨fun _ _ => rfl, fun i hi => absurd hi (Nat.not_lt_zero i), (fun i b h => nomatch h), (fun i j b c h => nomatch h), (fun i b h => nomatch h), fun k o h => ⟨(hz k o h).1, (fun i b h => nomatch h), (hz k o h).2⟩⟩
theorem rel_empty0 (w : World) : Rel (pm0 fun _ => none) emptyH w := rel_empty fun k o (h : (none : Option Obj) = some o) => nomatch h
/-- Behind code that owns nothing. -/
theorem keepRel {φ φG φ' : PMap} {G H H' : AHeap} {w w' : World} (hR : Rel φ H w) (hR' : Rel φ' H' w') (hX : Ext φG G w φ' H' w') (hzG : φG.z = φ.z) (hno : ∀ k, ¬ Own φG G k) : Rel ⟨φ.m, φ'.z⟩ H w' ∧ Ext φ H w ⟨φ.m, φ'.z⟩ H w' := by
  have hkeep : ∀ k, k < w.heap.size → w'.heap[k]? = w.heap[k]? := fun k hk => hX.keep k hk (hno k)
  have hle : PLe φ ⟨φ.m, φ'.z⟩ := ⟨fun _ _ h => h, by have := hX.le.z; rwa [hzG] at this⟩
  refine ⟨⟨hR.dom, hR.has, fun i b hb => (hR.blk i b hb).kept hle fun hl => hkeep _ (hR.lt_live hb hl), hR.inj, fun i b hb hl => Nat.lt_of_lt_of_le (hR.lt i b hb hl) hX.size, fun k o hz => ?_⟩, ⟨hle, hX.size, fun k hk _ => hkeep k hk, fun k hk => .inl hk, hX.os, hX.tape, hX.output, Nat.le_refl _, fun _ _ _ => Nat.le_refl _, fun i b hb hl _ => ⟨hl, hkeep _ (hR.lt_live hb hl)⟩, fun k o hz => ?_⟩⟩
  · obtain ⟨z1, z2, z3⟩ := hR'.fz k o hz
    refine ⟨z1, fun i b hb hrw => ?_, z3⟩
    rcases hX.zown k o hz with h | h | h
    · rw [hzG] at h; exact (hR.fz k o h).2.1 i b hb hrw
    · exact absurd h (hno _)
    · have := hR.lt i b hb hrw; omega
  · rcases hX.zown k o hz with h | h | h
    · rw [hzG] at h; exact .inl h
    · exact absurd h (hno _)
    · exact .inr (.inr h)
/-- What has been shown at the empty heap holds at every heap, and leaves it as it was. -/
theorem CallW.closed {f : FuncId} {args : List AVal} {K : AVal → Prop} (h : CallW P f args emptyH fun v _ => K v) (ha : noRefs args = true) (hk : ∀ v, K v → noRef v = true) (H : AHeap) : CallW P f args H fun v H' => H' = H ∧ K v := by
  intro φ w cargs hR hargs
  refine (h (pm0 φ.z) w cargs (rel_empty fun k o hz => ⟨(hR.fz k o hz).1, (hR.fz k o hz).2.2⟩) (VRels_noRef (φ := φ) (ψ := pm0 φ.z) (fun _ _ h => h) _ _ ha hargs)).mono ?_
  rintro e w' ⟨cv, v, φ', H', rfl, h1, h2, h3, h4⟩
  have hkeep : ∀ k, k < w.heap.size → w'.heap[k]? = w.heap[k]? := fun k hk => h3.keep k hk not_own_empty
  have hle : PLe φ ⟨φ.m, φ'.z⟩ := ⟨fun _ _ h => h, h3.le.z⟩
  have hR' : Rel ⟨φ.m, φ'.z⟩ H w' := ⟨hR.dom, hR.has, fun i b hb => (hR.blk i b hb).kept hle fun hl => hkeep _ (hR.lt_live hb hl), hR.inj, fun i b hb hl => Nat.lt_of_lt_of_le (hR.lt i b hb hl) h3.size, fun k o hz => by
    obtain ⟨z1, z2, z3⟩ := h2.fz k o hz
    refine ⟨z1, fun i b hb hrw => ?_, z3⟩
    rcases h3.zown k o hz with h | h | h
    · exact (hR.fz k o h).2.1 i b hb hrw
    · exact absurd h not_own_empty
    · have := hR.lt i b hb hrw; omega⟩
  exact ⟨cv, v, ⟨φ.m, φ'.z⟩, H, rfl, VRel_noRef (φ := φ') (ψ := ⟨φ.m, φ'.z⟩) (fun _ _ h => h) v cv (hk v h4) h1, hR', ⟨hle, h3.size, fun k hk _ => hkeep k hk, fun k hk => .inl hk, h3.os, h3.tape, h3.output, Nat.le_refl _, fun _ _ _ => Nat.le_refl _, fun i b hb hl _ => ⟨hl, hkeep _ (hR.lt_live hb hl)⟩, fun k o hz => by
    rcases h3.zown k o hz with h | h | h
    · exact .inl h
    · exact absurd h not_own_empty
    · exact .inr (.inr h)⟩, rfl, h4⟩
/-- The call, carried out. -/
theorem CallW.of_run (hm : P.follows .mixedOrders = true) (d : Nat) {f : FuncId} {args : List AVal} {v : AVal} (h : (xcall P d (.func f [] []) args emptyH).map (·.1) = some v) (ha : noRefs args = true) (hv : noRef v = true) (H : AHeap) : CallW P f args H fun v' H' => H' = H ∧ v' = v := by
  cases hx : xcall P d (.func f [] []) args emptyH with
  | none => rw [hx] at h; cases h
  | some r =>
    rw [hx] at h
    cases h
    obtain ⟨v, H'⟩ := r
    have := (xcall_sound hm d _ _ _ _ _ hx).2
    rw [List.nil_append, List.append_nil] at this
    exact CallW.closed (this.mono fun v1 H1 h => h.1) ha (fun u hu => by rw [hu]; exact hv) H
end Go.Vh
