import Derived.Test.YtaccmanpanpbiaaVhS
/- Code over symbols: what is asked, in a form that reduces by itself up to the places where a symbol decides. -/
set_option linter.unusedVariables false
set_option linter.unusedSimpArgs false
namespace Go.Vh
variable {P : Program} {N : Nat} {ρ : Option Nat} {n0 : Nat}
/-- A symbol decides. -/
structure Fork (t : Bool) (A B : Prop) : Prop where
  yes : t = true → A
  no : t = false → B
/-- A decision that reduces where it is known. -/
def fork (t : Bool) (A B : Prop) : Prop := match t with
  | true => A
  | false => B
theorem fork_iff {t : Bool} {A B : Prop} : fork t A B ↔ if t = true then A else B := by cases t <;> simp [fork]
theorem fork_by {t : Bool} {A B : Prop} (h1 : t = true → A) (h2 : t = false → B) : fork t A B := by cases t <;> simp [fork, h1, h2]
/-- A value is asked for. -/
structure Gets {α : Type} (x : Option α) (A : α → Prop) : Prop where
  got : ∃ v, x = some v ∧ A v
/-- A call is made. -/
structure CallS (P : Program) (fv : AVal) (args : List AVal) (H : AHeap) (K : AVal → AHeap → Prop) : Prop where
  call : wcall P fv args H K
structure CallPS (P : Program) (fv : AVal) (args : List AVal) (H : AHeap) (K : AVal → AHeap → Prop) : Prop where
  call : wcallP P fv args H K
/-- A piece of code that is shown by itself: a loop. -/
structure CodeS (P : Program) (N : Nat) (ρ : Option Nat) (n0 : Nat) (c : Code) (e : Env) (H : AHeap) (K : Exit → Env → AHeap → Prop) : Prop where
  code : CWF P N ρ n0 c e H K
/-- A value that has been looked at. -/
inductive Got where
  | got (v : AVal)
  | no
noncomputable def look (v : AVal) : Got :=
  match v with
  | .undef => .got .undef | .raw v => .got (.raw v) | .int kd n => .got (.int kd n) | .bool b => .got (.bool b) | .str s => .got (.str s)
  | .ptr i o => .got (.ptr i o) | .slice i o l => .got (.slice i o l) | .nilSlice => .got .nilSlice | .view i o l => .got (.view i o l) | .map i => .got (.map i) | .func f a b => .got (.func f a b) | .yield i => .got (.yield i) | .agg l => .got (.agg l) | .tuple l => .got (.tuple l) | .row n cs => .got (.row n cs) | .rptr cs o => .got (.rptr cs o)
theorem look_eq (v : AVal) : look v = .got v := by cases v <;> rfl
noncomputable def seq0 {β : Type} (v : AVal) (k : AVal → β) : β := Got.rec (motive := fun _ => β) (fun v => k v) (k .undef) (look v)
theorem seq0_eq {β : Type} (v : AVal) (k : AVal → β) : seq0 v k = k v := by unfold seq0; rw [look_eq]
noncomputable def seqL0 {β : Type} (l : List AVal) : (List AVal → β) → β := List.rec (motive := fun _ => (List AVal → β) → β) (fun k => k []) (fun v _ r k => seq0 v fun v => r fun l => k (v :: l)) l
theorem seqL0_eq {β : Type} : ∀ (l : List AVal) (k : List AVal → β), seqL0 l k = k l
  | [], k => rfl
  | v :: l, k => by
    show seq0 v (fun v => seqL0 l fun l => k (v :: l)) = _
    rw [seq0_eq, seqL0_eq l]
noncomputable def seq1' {β : Type} (v : AVal) (k : AVal → β) : β :=
  match v with
  | .agg l => seqL0 l fun l => k (.agg l) | .tuple l => seqL0 l fun l => k (.tuple l)
  | v => k v
noncomputable def seq1 {β : Type} (v : AVal) (k : AVal → β) : β := Got.rec (motive := fun _ => β) (fun v => seq1' v k) (k .undef) (look v)
theorem seq1_eq {β : Type} (v : AVal) (k : AVal → β) : seq1 v k = k v := by unfold seq1; rw [look_eq]; cases v <;> simp [seq1', seqL0_eq]
noncomputable def seqL1 {β : Type} (l : List AVal) : (List AVal → β) → β := List.rec (motive := fun _ => (List AVal → β) → β) (fun k => k []) (fun v _ r k => seq1 v fun v => r fun l => k (v :: l)) l
theorem seqL1_eq {β : Type} : ∀ (l : List AVal) (k : List AVal → β), seqL1 l k = k l
  | [], k => rfl
  | v :: l, k => by
    show seq1 v (fun v => seqL1 l fun l => k (v :: l)) = _
    rw [seq1_eq, seqL1_eq l]
/-- A value, looked at. -/
noncomputable def seqV' {β : Type} (v : AVal) (k : AVal → β) : β :=
  match v with
  | .func f a b => seqL1 a fun a => seqL1 b fun b => k (.func f a b) | .agg l => seqL0 l fun l => k (.agg l) | .tuple l => seqL1 l fun l => k (.tuple l)
  | v => k v
noncomputable def seqV {β : Type} (v : AVal) (k : AVal → β) : β := Got.rec (motive := fun _ => β) (fun v => seqV' v k) (k .undef) (look v)
theorem seqV_eq {β : Type} (v : AVal) (k : AVal → β) : seqV v k = k v := by unfold seqV; rw [look_eq]; cases v <;> simp [seqV', seqL0_eq, seqL1_eq]
/-- As seqV; a truth value is decided at once. -/
noncomputable def seqB (v : AVal) (k : AVal → Prop) : Prop :=
  match v with
  | .bool b => Fork b (k (.bool true)) (k (.bool false))
  | v => seqV v k
theorem seqB_spec {v : AVal} {k : AVal → Prop} (h : seqB v k) : k v := by
  unfold seqB at h
  split at h
  · rename_i b
    cases b with
    | true => exact h.yes rfl
    | false => exact h.no rfl
  · rw [seqV_eq] at h; exact h
noncomputable def seqL {β : Type} (l : List AVal) : (List AVal → β) → β := List.rec (motive := fun _ => (List AVal → β) → β) (fun k => k []) (fun v _ r k => seqV v fun v => r fun l => k (v :: l)) l
theorem seqL_eq {β : Type} : ∀ (l : List AVal) (k : List AVal → β), seqL l k = k l
  | [], k => rfl
  | v :: l, k => by
    show seqV v (fun v => seqL l fun l => k (v :: l)) = _
    rw [seqV_eq, seqL_eq l]
noncomputable def seqO {β : Type} (x : Option AVal) (k : Option AVal → β) : β := match x with
  | none => k none
  | some v => seqV v fun v => k (some v)
theorem seqO_eq {β : Type} (x : Option AVal) (k : Option AVal → β) : seqO x k = k x := by cases x <;> simp [seqO, seqV_eq]

def ixA (P : Program) (t : TypeId) (x ix : AVal) : Option AVal :=
  match P.underlying t, x with
  | some (.slice _), .slice i o n => aindexAddr P t (.slice i o n) ix
  | some (.slice _), .view i o n => aindexAddr P t (.slice i o n) ix
  | some (.slice _), .row n cs => rindexA P t n cs ix
  | some (.array _ _), .ptr i o => aindexAddr P t (.ptr i o) ix
  | _, _ => none
def loadA (P : Program) (H : AHeap) (t : TypeId) (x : AVal) : Option AVal :=
  match x, tinfo P t with
  | .ptr i o, some ti => H.load ti i o
  | .rptr cs o, some ti => rload ti cs o
  | _, _ => none
def storeA (P : Program) (H : AHeap) (t : TypeId) (x y : AVal) : Option AHeap :=
  match x, y.cells, tinfo P t with
  | .ptr i o, some l, some ti => if l.length = ti.size then H.store i o l else none
  | _, _, _ => none
def builtA (P : Program) (H : AHeap) (b : Builtin) (ts : List TypeId) (l : List AVal) : Option (AVal × AHeap) :=
  match apureB P b ts l with
  | some v => some (v, H)
  | none => amemB P b ts l H
/-- One operation. -/
noncomputable def sgo (P : Program) (o : Op) (e : Env) (H : AHeap) (K : AVal → AHeap → Prop) : Prop :=
  match o with
  | .call ⟨.value f, args, _⟩ => seqV (evalA e f) fun f => seqL (args.toList.map (evalA e)) fun args => CallS P f args H K
  | .call ⟨.builtin b, args, ts⟩ => seqL (args.toList.map (evalA e)) fun l => Gets (builtA P H b ts.toList l) fun r => K r.1 r.2
  | .index t x ix => seqV (evalA e x) fun x => seqV (evalA e ix) fun ix => Gets (aindex P t x ix) fun v => K v H
  | .indexAddr t x ix => seqV (evalA e x) fun x => seqV (evalA e ix) fun ix => Gets (ixA P t x ix) fun v => K v H
  | .load t x => seqV (evalA e x) fun x => Gets (loadA P H t x) fun v => K v H
  | .store t x y => seqV (evalA e x) fun x => seqV (evalA e y) fun y => Gets (storeA P H t x y) fun H => K .undef H
  | .slice t x lo hi none => seqV (evalA e x) fun x => seqO (lo.map (evalA e)) fun lo => seqO (hi.map (evalA e)) fun hi => Gets (asliceV P H t x lo hi) fun v => K v H
  | .lookup t x k ok => seqV (evalA e x) fun x => seqV (evalA e k) fun k => Gets (alookup P H t x k ok) fun v => K v H
  | .makeSlice t l c => seqV (evalA e l) fun l => seqV (evalA e c) fun c => Gets (amakeSlice P H t l c) fun r => K r.1 r.2
  | .mapUpdate t m k v => seqV (evalA e m) fun m => seqV (evalA e k) fun k => seqV (evalA e v) fun v => Gets (H.mapPut P t m k v) fun H => K .undef H
  | .insert t m k v => seqV (evalA e m) fun m => seqV (evalA e k) fun k => seqV (evalA e v) fun v => Gets (H.mapPut P t m k v) fun H => K .undef H
  | .binOp op t x y yt => seqV (evalA e x) fun x => seqV (evalA e y) fun y => match op with
    | .quo | .rem | .shl | .shr => Gets (abin op x y) fun v => K v H
    | op => match aeqBin P op t x y with
      | some v => seqB v fun v => K v H
      | none => match abin op x y with
        | some v => seqB v fun v => K v H
        | none => False
  | op => match astep P op e H with
    | some r => match r with
      | (v, H') => seqV v fun v => K v H'
    | none => False
theorem sgo_go {o : Op} {e : Env} {H : AHeap} {K : AVal → AHeap → Prop} (h : sgo P o e H K) :
    (∃ f args ts, o = .call ⟨.value f, args, ts⟩ ∧ wcall P (evalA e f) (args.toList.map (evalA e)) H K) ∨ ∃ v H', astep P o e H = some (v, H') ∧ K v H' := by
  unfold sgo at h
  split at h
  · rename_i f args ts
    rw [seqV_eq, seqL_eq] at h
    exact .inl ⟨f, args, ts, rfl, h.call⟩
  · rename_i b args ts
    rw [seqL_eq] at h
    obtain ⟨⟨v, H'⟩, hv, hk⟩ := h.got
    refine .inr ⟨v, H', ?_, hk⟩
    simp only [astep, apure, amem]
    unfold builtA at hv
    split at hv
    · rename_i u hu; cases hv; rw [hu]
    · rename_i hu; rw [hu]; exact hv
  · rename_i t x ix
    rw [seqV_eq, seqV_eq] at h
    obtain ⟨v, hv, hk⟩ := h.got
    exact .inr ⟨v, H, by simp only [astep, apure, hv], hk⟩
  · rename_i t x ix
    rw [seqV_eq, seqV_eq] at h
    obtain ⟨v, hv, hk⟩ := h.got
    refine .inr ⟨v, H, ?_, hk⟩
    simp only [astep, apure]
    unfold ixA at hv
    split at hv
    · rename_i hu hx; rw [hu, hx]; simp only [hv]
    · rename_i hu hx; rw [hu, hx]; simp only [hv]
    · rename_i hu hx; rw [hu, hx]; simp only [hv]
    · rename_i hu hx; rw [hu, hx]; simp only [hv]
    · cases hv
  · rename_i t x
    rw [seqV_eq] at h
    obtain ⟨v, hv, hk⟩ := h.got
    refine .inr ⟨v, H, ?_, hk⟩
    simp only [astep, apure, amem]
    unfold loadA at hv
    split at hv
    · rename_i hx ht; rw [hx, ht]; simp only [hv, Option.map_some]
    · rename_i hx ht; rw [hx, ht]; simp only [hv, Option.map_some]
    · cases hv
  · rename_i t x y
    rw [seqV_eq, seqV_eq] at h
    obtain ⟨H', hv, hk⟩ := h.got
    refine .inr ⟨.undef, H', ?_, hk⟩
    simp only [astep, apure, amem]
    unfold storeA at hv
    split at hv
    · rename_i hx hy ht
      rw [hx, hy, ht]
      split at hv
      · rename_i hl; dsimp only; rw [if_pos hl, hv]; rfl
      · cases hv
    · cases hv
  · rename_i t x lo hi
    rw [seqV_eq, seqO_eq, seqO_eq] at h
    obtain ⟨v, hv, hk⟩ := h.got
    exact .inr ⟨v, H, by simp only [astep, apure, hv], hk⟩
  · rename_i t x k ok
    rw [seqV_eq, seqV_eq] at h
    obtain ⟨v, hv, hk⟩ := h.got
    exact .inr ⟨v, H, by simp only [astep, apure, amem, hv, Option.map_some], hk⟩
  · rename_i t l c
    rw [seqV_eq, seqV_eq] at h
    obtain ⟨⟨v, H'⟩, hv, hk⟩ := h.got
    exact .inr ⟨v, H', by simp only [astep, apure, amem, hv], hk⟩
  · rename_i t m k v
    rw [seqV_eq, seqV_eq, seqV_eq] at h
    obtain ⟨H', hv, hk⟩ := h.got
    exact .inr ⟨.undef, H', by simp only [astep, apure, amem, hv, Option.map_some], hk⟩
  · rename_i t m k v
    rw [seqV_eq, seqV_eq, seqV_eq] at h
    obtain ⟨H', hv, hk⟩ := h.got
    exact .inr ⟨.undef, H', by simp only [astep, apure, amem, hv, Option.map_some], hk⟩
  · rename_i op t x y yt
    rw [seqV_eq, seqV_eq] at h
    have shift : ∀ op, (∀ x y, aeqBin P op t x y = none) → Gets (abin op (evalA e x) (evalA e y)) (fun v => K v H) → ∃ v H', astep P (.binOp op t x y yt) e H = some (v, H') ∧ K v H' := by
      intro op hn hg
      obtain ⟨v, hv, hk⟩ := hg.got
      exact ⟨v, H, by simp only [astep, apure, hn, hv], hk⟩
    split at h
    · exact .inr (shift _ (fun _ _ => rfl) h)
    · exact .inr (shift _ (fun _ _ => rfl) h)
    · exact .inr (shift _ (fun _ _ => rfl) h)
    · exact .inr (shift _ (fun _ _ => rfl) h)
    · split at h
      · rename_i v hv
        have h := seqB_spec h
        exact .inr ⟨v, H, by simp only [astep, apure, hv], h⟩
      · rename_i hn
        split at h
        · rename_i v hv
          have h := seqB_spec h
          exact .inr ⟨v, H, by simp only [astep, apure, hn, hv], h⟩
        · exact h.elim
  · split at h
    · split at h
      rename_i hst
      rw [seqV_eq] at h
      exact .inr ⟨_, _, hst, h⟩
    · exact h.elim
theorem astep_call_none {f : Operand} {args : Array Operand} {ts : Array TypeId} {e : Env} {H : AHeap} : astep P (.call ⟨.value f, args, ts⟩) e H = none := by simp [astep, apure, amem]
theorem sgo_sound {o : Op} {e : Env} {H : AHeap} {K : AVal → AHeap → Prop} (h : sgo P o e H K) : wgo P o e H K := by
  rcases sgo_go h with ⟨f, args, ts, rfl, hc⟩ | ⟨v, H', hst, hk⟩
  · exact hc
  · unfold wgo
    split
    · rw [astep_call_none] at hst; cases hst
    · rw [hst]; exact hk
def putK (e : Env) (d : Option Tmp) (v : AVal) (K : Env → Prop) : Prop :=
  match d with
  | some d => K (upd e d v)
  | none => K e
theorem putK_eq {e : Env} {d : Option Tmp} {v : AVal} {K : Env → Prop} : putK e d v K = K (put? e d v) := by cases d <;> rfl
noncomputable def sop (P : Program) (ops : Array Oper) (o : Oper) (e : Env) (H : AHeap) (K : Env → AHeap → Prop) : Prop :=
  match o.guard with
  | none => sgo P o.op e H fun v H' => putK e o.dst v fun e => K e H'
  | some (j, want) => match gslot ops j with
    | some t => match e t with
      | .bool b => fork (b == want) (sgo P o.op e H (fun v H' => putK e o.dst v fun e => K e H')) (putK e o.dst (.tuple []) fun e => K e H)
      | .tuple _ => putK e o.dst (.tuple []) fun e => K e H
      | _ => False
    | none => False
theorem sop_guard {ops : Array Oper} {o : Oper} {e : Env} {H : AHeap} {K : Env → AHeap → Prop} (h : sop P ops o e H K) : ∃ g, guardOk ops o e = some g ∧ (if g = true then sgo P o.op e H (fun v H' => K (put? e o.dst v) H') else K (put? e o.dst (.tuple [])) H) := by
  rcases hgd : o.guard with _ | ⟨j, want⟩
  · simp only [sop, hgd, putK_eq] at h
    exact ⟨true, by simp only [guardOk, hgd], by simpa using h⟩
  · simp only [sop, hgd, putK_eq] at h
    split at h
    · rename_i t ht
      split at h
      · rename_i b hb
        exact ⟨b == want, by simp only [guardOk, hgd, ht, hb], fork_iff.1 h⟩
      · rename_i l hb
        exact ⟨false, by simp only [guardOk, hgd, ht, hb], by simpa [putK_eq] using h⟩
      · exact h.elim
    · exact h.elim
theorem sop_sound {ops : Array Oper} {o : Oper} {e : Env} {H : AHeap} {K : Env → AHeap → Prop} (h : sop P ops o e H K) : wop P ops o e H K := by
  obtain ⟨g, hg, h⟩ := sop_guard h
  refine wop_of_guard hg ?_
  split at h
  · rename_i hgt; rw [if_pos hgt]; exact sgo_sound h
  · rename_i hgt; rw [if_neg hgt]; exact h
noncomputable def sops (P : Program) (ops : Array Oper) (os : List Oper) : Env → AHeap → (Env → AHeap → Prop) → Prop :=
  List.rec (motive := fun _ => Env → AHeap → (Env → AHeap → Prop) → Prop) (fun e H K => K e H) (fun o _ r e H K => sop P ops o e H fun e H => r e H K) os
theorem wgo_mono {o : Op} {e : Env} {H : AHeap} {K K' : AVal → AHeap → Prop} (h : wgo P o e H K) (hk : ∀ v H, K v H → K' v H) : wgo P o e H K' := by
  unfold wgo at *
  split at h
  · unfold wcall at *
    split at h
    · exact ⟨h.1, h.2.mono hk⟩
    · intro φ w cargs b hR ha hb
      obtain ⟨f, tmps, assign, body, h1, h2⟩ := h φ w cargs b hR ha hb
      refine ⟨f, tmps, assign, body, h1, h2.mono ?_⟩
      rintro e w' ⟨cv, v, φ', H', rfl, g1, g2, g3, g4⟩
      exact ⟨cv, v, φ', H', rfl, g1, g2, g3, hk _ _ g4⟩
    · exact h.elim
  · rename_i hno
    split at h
    · exact hk _ _ h
    · exact h.elim
theorem wop_mono {ops : Array Oper} {o : Oper} {e : Env} {H : AHeap} {K K' : Env → AHeap → Prop} (h : wop P ops o e H K) (hk : ∀ e H, K e H → K' e H) : wop P ops o e H K' := by
  rcases hgd : o.guard with _ | ⟨j, want⟩
  · simp only [wop, hgd] at h ⊢
    exact wgo_mono h fun v H => hk _ _
  · simp only [wop, hgd] at h ⊢
    split at h
    · split at h
      · split at h
        · rename_i hbw; rw [if_pos hbw]; exact wgo_mono h fun v H => hk _ _
        · rename_i hbw; rw [if_neg hbw]; exact hk _ _ h
      · exact hk _ _ h
      · exact h.elim
    · exact h.elim
theorem sops_sound {ops : Array Oper} {K : Env → AHeap → Prop} : ∀ (os : List Oper) (e : Env) (H : AHeap), sops P ops os e H K → wops P ops os e H K
  | [], e, H, h => h
  | o :: os, e, H, h => wop_mono (sop_sound h) fun e H h => sops_sound os e H h

/-! ### Code -/
/-- What follows a piece of code. -/
def thenS (K : Exit → Env → AHeap → Prop) (r : Env → AHeap → (Exit → Env → AHeap → Prop) → Prop) : Exit → Env → AHeap → Prop := fun x e H => match x with | .normal => r e H K | x => K x e H
def blockS (K : Exit → Env → AHeap → Prop) (id : Nat) : Exit → Env → AHeap → Prop := fun x e H => match x with | .exit i => (match i == id with | true => K .normal e H | false => K (.exit i) e H) | x => K x e H
noncomputable def sc (P : Program) (N : Nat) (ρ : Option Nat) (n0 : Nat) (c : Code) : Env → AHeap → (Exit → Env → AHeap → Prop) → Prop :=
  Code.rec (motive := fun _ => Env → AHeap → (Exit → Env → AHeap → Prop) → Prop)
    (fun e H K => K .normal e H)
    (fun id ops draw e H K => match draw with
      | true => CodeS P N ρ n0 (.region id ops true) e H K
      | false => sops P ops ops.toList e H fun e H => K .normal e H)
    (fun _ _ ra rb e H K => ra e H (thenS K rb))
    (fun c _ _ ra rb e H K => match evalA e c with
      | .bool t => fork t (ra e H K) (rb e H K)
      | _ => False)
    (fun id _ r e H K => r e H (blockS K id))
    (fun c _ e H K => CodeS P N ρ n0 (.loop c) e H K)
    (fun f ps a b _ _ e H K => CodeS P N ρ n0 (.rangeFunc f ps a b) e H K)
    (fun id e H K => K (.exit id) e H)
    (fun c _ e H K => CodeS P N ρ n0 (.scope c) e H K)
    (fun _ e H K => K .normal e H)
    (fun l e H K => K (.goto l) e H)
    (fun e H K => K .ret e H)
    (fun s e H K => CodeS P N ρ n0 (.refuse s) e H K)
    c
theorem sc_sound : ∀ (c : Code) (e : Env) (H : AHeap) (K : Exit → Env → AHeap → Prop), okCode N c = true → sc P N ρ n0 c e H K → CWF P N ρ n0 c e H K
  | .skip, e, H, K, _, h => CW.within (CW.skip h)
  | .label _, e, H, K, _, h => CW.within (CW.label h)
  | .exit _, e, H, K, _, h => CW.within (CW.exit h)
  | .goto _, e, H, K, _, h => CW.within (CW.goto h)
  | .ret, e, H, K, _, h => CW.within (CW.ret h)
  | .seq a b, e, H, K, hok, h => by
    simp only [okCode, Bool.and_eq_true] at hok
    refine CWF.seq ((sc_sound a e H _ hok.1 (show sc P N ρ n0 a e H (thenS K (sc P N ρ n0 b)) from h)).mono fun x e H hx => ?_)
    cases x with
    | normal => exact sc_sound b e H K hok.2 hx
    | _ => exact hx
  | .cond c a b, e, H, K, hok, h => by
    simp only [okCode, Bool.and_eq_true] at hok
    change (match evalA e c with
      | .bool t => fork t (sc P N ρ n0 a e H K) (sc P N ρ n0 b e H K)
      | _ => False) at h
    split at h
    · rename_i t ht
      refine CWF.cond ht ?_
      cases t with
      | true => exact sc_sound a e H K hok.1 h
      | false => exact sc_sound b e H K hok.2 h
    · exact h.elim
  | .block id c, e, H, K, hok, h => by
    refine CWF.block ((sc_sound c e H _ hok (show sc P N ρ n0 c e H (blockS K id) from h)).mono fun x e H hx => ?_)
    cases x with
    | exit i =>
      dsimp only [blockS] at hx ⊢
      split at hx
      · rename_i hi; rw [if_pos (by simpa using hi)]; exact hx
      · rename_i hi; rw [if_neg (by simpa using hi)]; exact hx
    | _ => exact hx
  | .region id ops draw, e, H, K, hok, h => by
    cases draw with
    | true => exact h.code
    | false => exact CW.within (CW.region hok (sops_sound _ _ _ h))
  | .loop c, e, H, K, _, h => h.code
  | .rangeFunc f ps a b, e, H, K, _, h => h.code
  | .scope c, e, H, K, _, h => h.code
  | .refuse s, e, H, K, _, h => h.code
noncomputable def resS (P : Program) (e : Env) (H : AHeap) (rs : List ResultVar) (K : AVal → Prop) : Prop :=
  match rs with
  | [.tmp t] => seqV (e t) K
  | rs => match resL P e H rs with
    | some vs => seqL vs fun vs => match vs with
      | [v] => K v
      | vs => K (.tuple vs)
    | none => False
theorem resS_spec {e : Env} {H : AHeap} {rs : List ResultVar} {K : AVal → Prop} (h : resS P e H rs K) : ∃ v, resA P e H rs = some v ∧ K v := by
  unfold resS at h
  split at h
  · rename_i t
    rw [seqV_eq] at h
    exact ⟨e t, by simp [resA, resL, resOne], h⟩
  · split at h
    · rename_i vs hvs
      rw [seqL_eq] at h
      split at h
      · rename_i v; exact ⟨v, by simp [resA, hvs], h⟩
      · rename_i hne
        refine ⟨.tuple vs, ?_, h⟩
        unfold resA
        rw [hvs]
        split
        · rename_i v heq; cases heq; exact (hne v rfl).elim
        · rename_i heq; cases heq; rfl
        · rename_i heq; cases heq
    · exact h.elim
/-- A body's end. -/
noncomputable def atEnd (P : Program) (rs : List ResultVar) (K : AVal → AHeap → Prop) : Exit → Env → AHeap → Prop := fun x e H => match x with
  | .normal => resS P e H rs fun v => K v H
  | .ret => resS P e H rs fun v => K v H
  | _ => False
/-- **A function's contract, over symbols; the result told by numbers of one's own choice.** -/
theorem CallW.symR {f : FuncId} {fn : Func} {c : Code} {args : List AVal} {H : AHeap} {K : AVal → AHeap → Prop} (hf : P.funcs[f]? = some fn) (hb : fn.body = some c) (hok : (decide (args.length ≤ fn.ntmps) && okCode fn.ntmps c) = true)
    (h : sc P fn.ntmps none H.n c (env0 args) H (atEnd P fn.results.toList fun v H' => ∃ κ v' G, Emb H.n κ G H' ∧ v = ren κ v' ∧ K v' G)) : CallW P f args H K := by
  simp only [Bool.and_eq_true, decide_eq_true_eq] at hok
  refine CallW.of_bodyF hf hb hok.1 ((sc_sound c _ _ _ hok.2 h).mono ?_)
  intro x e H' hx
  cases x with
  | normal => obtain ⟨v, h1, κ, v', G, h2⟩ := resS_spec hx; exact ⟨.inl rfl, v, h1, κ, v', G, h2⟩
  | ret => obtain ⟨v, h1, κ, v', G, h2⟩ := resS_spec hx; exact ⟨.inr rfl, v, h1, κ, v', G, h2⟩
  | _ => exact hx.elim
/-- **A function's contract, over symbols.** -/
theorem CallW.sym {f : FuncId} {fn : Func} {c : Code} {args : List AVal} {H : AHeap} {K : AVal → AHeap → Prop} (hf : P.funcs[f]? = some fn) (hb : fn.body = some c) (hok : (decide (args.length ≤ fn.ntmps) && okCode fn.ntmps c) = true)
    (h : sc P fn.ntmps none H.n c (env0 args) H (atEnd P fn.results.toList K)) : CallW P f args H K := by
  simp only [Bool.and_eq_true, decide_eq_true_eq] at hok
  refine CallW.of_bodyG hf hb hok.1 ((sc_sound c _ _ _ hok.2 h).mono ?_)
  intro x e H' hx
  cases x with
  | normal => obtain ⟨v, h1, h2⟩ := resS_spec hx; exact ⟨.inl rfl, v, h1, h2⟩
  | ret => obtain ⟨v, h1, h2⟩ := resS_spec hx; exact ⟨.inr rfl, v, h1, h2⟩
  | _ => exact hx.elim
theorem CallS.of {f : FuncId} {a b args l : List AVal} {H : AHeap} {K K' : AVal → AHeap → Prop} (hb : hasBody P f = true) (h : CallW P f l H K') (hl : a ++ args ++ b = l) (hk : ∀ v H', K' v H' → K v H') : CallS P (.func f a b) args H K :=
  ⟨⟨hb, hl ▸ h.mono hk⟩⟩
/-- A loop. -/
theorem CodeS.loop {c : Code} {e : Env} {H : AHeap} {K : Exit → Env → AHeap → Prop} (I : Nat → Env → AHeap → Prop) (m : Nat) (hok : okCode N c = true) (h0 : I m e H)
    (round : ∀ m e H, I m e H → sc P N ρ n0 c e H fun x e' H' => match x with | .normal => (∃ m', m' < m ∧ I m' e' H') | x => K x e' H') : CodeS P N ρ n0 (.loop c) e H K :=
  ⟨CWF.loop I h0 fun m e H hI => sc_sound c e H _ hok (round m e H hI)⟩

/-! ### Open orders -/
noncomputable def stake (P : Program) (ops : Array Oper) (held : List Nat) (o : Oper) (e : Env) (H : AHeap) (K : AVal → Prop) : Prop :=
  match o.op with
  | .load t x => seqV (evalA e x) fun x => match x with
    | .ptr i off => match held.contains i with
      | true => Gets (loadA P H t (.ptr i off)) K
      | false => False
    | .rptr cs off => Gets (loadA P H t (.rptr cs off)) K
    | _ => False
  | .call ⟨.builtin b, args, ts⟩ => seqL (args.toList.map (evalA e)) fun l => Gets (apureB P b ts.toList l) K
  | .convert s d x => seqV (evalA e x) fun x => Gets (aconv P s d x) K
  | op => match pureKind op with
    | true => sgo P op e H fun v _ => K v
    | false => False
noncomputable def stakeG (P : Program) (ops : Array Oper) (held : List Nat) (o : Oper) (e : Env) (H : AHeap) (K : AVal → Prop) : Prop :=
  match o.guard with
  | none => stake P ops held o e H K
  | some (j, want) => match gslot ops j with
    | some t => match e t with
      | .bool b => fork (b == want) (stake P ops held o e H K) (K (.tuple []))
      | .tuple _ => K (.tuple [])
      | _ => False
    | none => False
/-- As sop, where no round may be called. -/
noncomputable def sgoP (P : Program) (o : Op) (e : Env) (H : AHeap) (K : AVal → AHeap → Prop) : Prop :=
  match o with
  | .call ⟨.value f, args, _⟩ => seqV (evalA e f) fun f => seqL (args.toList.map (evalA e)) fun args => CallPS P f args H K
  | op => sgo P op e H K
noncomputable def sopP (P : Program) (ops : Array Oper) (o : Oper) (e : Env) (H : AHeap) (K : Env → AHeap → Prop) : Prop :=
  match o.guard with
  | none => sgoP P o.op e H fun v H' => putK e o.dst v fun e => K e H'
  | some (j, want) => match gslot ops j with
    | some t => match e t with
      | .bool b => fork (b == want) (sgoP P o.op e H (fun v H' => putK e o.dst v fun e => K e H')) (putK e o.dst (.tuple []) fun e => K e H)
      | .tuple _ => putK e o.dst (.tuple []) fun e => K e H
      | _ => False
    | none => False
theorem sgoP_sound {o : Op} {e : Env} {H : AHeap} {K : AVal → AHeap → Prop} (h : sgoP P o e H K) : wgoP P o e H K := by
  unfold sgoP at h
  split at h
  · rw [seqV_eq, seqL_eq] at h
    exact h.call
  · rename_i hno
    rcases sgo_go h with ⟨f, args, ts, rfl, hc⟩ | ⟨v, H', hst, hk⟩
    · exact (hno _ _ _ rfl).elim
    · unfold wgoP
      split
      · exact (hno _ _ _ rfl).elim
      · rw [hst]; exact hk
theorem sopP_sound {ops : Array Oper} {o : Oper} {e : Env} {H : AHeap} {K : Env → AHeap → Prop} (h : sopP P ops o e H K) : wopP P ops o e H K := by
  rcases hgd : o.guard with _ | ⟨j, want⟩
  · simp only [sopP, hgd, putK_eq] at h
    exact wopP_of_guard (g := true) (by simp only [guardOk, hgd]) (by rw [if_pos rfl]; exact sgoP_sound h)
  · simp only [sopP, hgd, putK_eq] at h
    split at h
    · rename_i t ht
      split at h
      · rename_i b hb
        refine wopP_of_guard (g := b == want) (by simp only [guardOk, hgd, ht, hb]) ?_
        have h := fork_iff.1 h
        split at h
        · rename_i hbw; rw [if_pos hbw]; exact sgoP_sound h
        · rename_i hbw; rw [if_neg hbw]; exact h
      · rename_i l hb
        exact wopP_of_guard (g := false) (by simp only [guardOk, hgd, ht, hb]) (by simpa [putK_eq] using h)
      · exact h.elim
    · exact h.elim
theorem astep_pure {o : Op} {e : Env} {H H' : AHeap} {v : AVal} (hp : pureKind o = true) (hno : ∀ b args ts, o ≠ .call ⟨.builtin b, args, ts⟩) (hnc : ∀ s d x, o ≠ .convert s d x) (h : astep P o e H = some (v, H')) : apure P o e H = some v := by
  unfold astep at h
  split at h
  · rename_i u hu; cases h; exact hu
  · rename_i hu
    exfalso
    cases o with
    | call c =>
      obtain ⟨cal, args, ts⟩ := c
      cases cal with
      | builtin b => exact hno _ _ _ rfl
      | _ => simp [pureKind] at hp
    | convert s d x => exact hnc _ _ _ rfl
    | _ => first | (simp [amem] at h; done) | (simp [pureKind] at hp; done)
theorem stake_sound {ops : Array Oper} {held : List Nat} {o : Oper} {e : Env} {H : AHeap} {K : AVal → Prop} (hg : guardOk ops o e = some true) (h : stake P ops held o e H K) : ∃ v, takeA P ops held o e H = some v ∧ K v := by
  unfold stake at h
  split at h
  · rename_i t x ho
    rw [seqV_eq] at h
    split at h
    · rename_i i off hx
      split at h
      · rename_i hh
        obtain ⟨v, hv, hk⟩ := h.got
        refine ⟨v, ?_, hk⟩
        unfold loadA at hv
        split at hv
        · rename_i i' off' ti heq ht
          cases heq
          have h1 : takeP P ops o e H = none := by simp only [takeP, hg, ho, apure]
          have h2 : takeL P ops held o e H = some v := by simp only [takeL, hg, ho, hx, ht, hh, if_true, hv]
          simp only [takeA, h1, h2]
        · rename_i heq _; cases heq
        · cases hv
      · exact h.elim
    · rename_i cs off hx
      obtain ⟨v, hv, hk⟩ := h.got
      refine ⟨v, ?_, hk⟩
      unfold loadA at hv
      split at hv
      · rename_i heq _; cases heq
      · rename_i cs' off' ti heq ht
        cases heq
        have h1 : takeP P ops o e H = none := by simp only [takeP, hg, ho, apure]
        have h2 : takeL P ops held o e H = some v := by simp only [takeL, hg, ho, hx, ht, hv]
        simp only [takeA, h1, h2]
      · cases hv
    · exact h.elim
  · rename_i b args ts ho
    rw [seqL_eq] at h
    obtain ⟨v, hv, hk⟩ := h.got
    refine ⟨v, ?_, hk⟩
    have h1 : takeP P ops o e H = some v := by simp only [takeP, hg, ho, apure, hv]
    simp only [takeA, h1]
  · rename_i s d x ho
    rw [seqV_eq] at h
    obtain ⟨v, hv, hk⟩ := h.got
    refine ⟨v, ?_, hk⟩
    have h1 : takeP P ops o e H = some v := by simp only [takeP, hg, ho, apure, hv]
    simp only [takeA, h1]
  · rename_i hno hnc
    split at h
    · rename_i hp
      rcases sgo_go h with ⟨f, args, ts, ho, hc⟩ | ⟨v, H', hst, hk⟩
      · rw [ho] at hp; simp [pureKind] at hp
      · refine ⟨v, ?_, hk⟩
        have h1 : takeP P ops o e H = some v := by simp only [takeP, hg, astep_pure hp (fun b args ts he => hno b args ts he) (fun s d x he => hnc s d x he) hst]
        simp only [takeA, h1]
    · exact h.elim
theorem stakeG_sound {ops : Array Oper} {held : List Nat} {o : Oper} {e : Env} {H : AHeap} {K : AVal → Prop} (h : stakeG P ops held o e H K) : ∃ v, takeA P ops held o e H = some v ∧ K v := by
  rcases hgd : o.guard with _ | ⟨j, want⟩
  · simp only [stakeG, hgd] at h
    exact stake_sound (by simp only [guardOk, hgd]) h
  · simp only [stakeG, hgd] at h
    split at h
    · rename_i t ht
      split at h
      · rename_i b hb
        have hg : guardOk ops o e = some (b == want) := by simp only [guardOk, hgd, ht, hb]
        cases hbw : b == want with
        | true => rw [hbw] at h; exact stake_sound (by rw [hg, hbw]) h
        | false => rw [hbw] at h; exact ⟨.tuple [], by simp only [takeA, takeP, hg, hbw], h⟩
      · rename_i l hb
        have hg : guardOk ops o e = some false := by simp only [guardOk, hgd, ht, hb]
        exact ⟨.tuple [], by simp only [takeA, takeP, hg], h⟩
      · exact h.elim
    · exact h.elim
noncomputable def splan (P : Program) (ops : Array Oper) (held : List Nat) (l : List PStep) : Env → AHeap → (Env → AHeap → Prop) → Prop :=
  List.rec (motive := fun _ => Env → AHeap → (Env → AHeap → Prop) → Prop) (fun e H K => K e H) (fun s _ r e H K => match s.take with
    | true => stakeG P ops held s.o e H fun v => putK e s.o.dst v fun e => r e H K
    | false => sopP P ops s.o e H fun e' H' => (s.chk = true → ∀ j ∈ held, H'.ver j = H.ver j) ∧ r e' H' K) l
theorem wopP_mono {ops : Array Oper} {o : Oper} {e : Env} {H : AHeap} {K K' : Env → AHeap → Prop} (h : wopP P ops o e H K) (hk : ∀ e H, K e H → K' e H) : wopP P ops o e H K' := by
  have go : ∀ {L1 L2 : AVal → AHeap → Prop}, wgoP P o.op e H L1 → (∀ v H, L1 v H → L2 v H) → wgoP P o.op e H L2 := by
    intro L1 L2 h1 h2
    unfold wgoP at *
    split at h1
    · exact wcallP_mono h1 h2
    · rename_i hno
      split at h1
      · exact h2 _ _ h1
      · exact h1.elim
  rcases hgd : o.guard with _ | ⟨j, want⟩
  · simp only [wopP, hgd] at h ⊢
    exact go h fun v H => hk _ _
  · simp only [wopP, hgd] at h ⊢
    split at h
    · split at h
      · split at h
        · rename_i hbw; rw [if_pos hbw]; exact go h fun v H => hk _ _
        · rename_i hbw; rw [if_neg hbw]; exact hk _ _ h
      · exact hk _ _ h
      · exact h.elim
    · exact h.elim
theorem splan_sound {ops : Array Oper} {held : List Nat} {K : Env → AHeap → Prop} : ∀ (l : List PStep) (e : Env) (H : AHeap), splan P ops held l e H K → wplan P ops held l e H K
  | [], e, H, h => h
  | s :: l, e, H, h => by
    change (match s.take with
      | true => stakeG P ops held s.o e H fun v => putK e s.o.dst v fun e => splan P ops held l e H K
      | false => sopP P ops s.o e H fun e' H' => (s.chk = true → ∀ j ∈ held, H'.ver j = H.ver j) ∧ splan P ops held l e' H' K) at h
    simp only [wplan]
    split at h
    · rename_i ht
      rw [if_pos ht]
      obtain ⟨v, hv, hk⟩ := stakeG_sound h
      rw [putK_eq] at hk
      rw [hv]
      exact splan_sound l _ H hk
    · rename_i ht
      rw [if_neg (by rw [ht]; simp)]
      exact wopP_mono (sopP_sound h) fun e' H' hk => ⟨hk.1, splan_sound l e' H' hk.2⟩
/-- A statement whose order is open. -/
theorem CodeS.draw {id : Nat} {ops : Array Oper} {e : Env} {H : AHeap} {K : Exit → Env → AHeap → Prop} (held : List Nat) {pl : List PStep} (hm : P.follows .mixedOrders = true) (hp : planOf N ops = some pl) (hok : okOps N ops = true) (hh : ∀ i ∈ held, i < H.n ∧ (H.f i).live)
    (h : splan P ops held pl e H fun e H => K .normal e H) : CodeS P N ρ n0 (.region id ops true) e H K :=
  ⟨CW.within (CW.plan held hm hok hh hp (splan_sound pl e H h))⟩
end Go.Vh
