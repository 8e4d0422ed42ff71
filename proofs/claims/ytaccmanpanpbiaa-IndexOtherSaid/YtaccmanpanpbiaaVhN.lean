import Derived.Test.YtaccmanpanpbiaaVhM
/- Statements whose order Go leaves open. -/
set_option linter.unusedVariables false
set_option linter.unusedSimpArgs false
namespace Go.Vh
variable {P : Program} {N : Nat} {ρ : Option Nat}

/-! ### A load gives the same in every world that has the block as it was -/
theorem loadCells_same {a : Addr} {w w' : World} (h : ∀ k, w'.cell? (a.add k) = w.cell? (a.add k)) : ∀ (n j : Nat) (acc r : Array Value), (∀ k, j ≤ k → k < j + n → ∃ c, w.cell? (a.add k) = some c) → (loadCellsFrom a j n acc).run P w = .ok r w → (loadCellsFrom a j n acc).run P w' = .ok r w'
  | 0, j, acc, r, _, hr => by
    simp only [loadCellsFrom, Sem.run_pure] at hr ⊢
    cases hr; rfl
  | n + 1, j, acc, r, hc, hr => by
    obtain ⟨c, hcj⟩ := hc j (Nat.le_refl _) (by omega)
    have hcj' : w'.cell? (a.add j) = some c := (h j).trans hcj
    simp only [loadCellsFrom, Sem.run_bind, run_load' hcj, run_load' hcj', Result.andThen] at hr ⊢
    exact loadCells_same h n (j + 1) (acc.push c) r (fun k h1 h2 => hc k (by omega) (by omega)) hr
theorem load_held {φ : PMap} {H : AHeap} {w : World} (hR : Rel φ H w) {t : TypeId} {ti : TI} (ht : tinfo P t = some ti) {i off : Nat} {b : BI} (hb : φ i = some b) {v : AVal} (hv : H.load ti i off = some v) :
    ∃ c, (∀ w', w'.heap[b.blk]? = w.heap[b.blk]? → (loadVar t ⟨b.blk, b.base + off, none⟩).run P w' = .ok c w') ∧ VRel φ v c := by
  obtain ⟨c, hc, hr⟩ := load_run (P := P) hR ht hb hv
  refine ⟨c, fun w' hw => ?_, hr⟩
  have hcell : ∀ o, w'.cell? ⟨b.blk, o, none⟩ = w.cell? ⟨b.blk, o, none⟩ := fun o => by simp only [World.cell?, hw]
  obtain ⟨inf, d, z, hi, hd, hz, hsz, hby, hag, hze⟩ := tinfo_spec ht
  unfold AHeap.load at hv
  by_cases ha : ti.agg = true
  · rw [if_pos ha] at hv
    split at hv
    · rename_i hle
      simp only [loadVar, Sem.run_bind, run_isAgg' hd, hag, ha, Result.andThen, if_true, run_sizeOf' hi, loadCells, Sem.run_pure] at hc ⊢
      cases hl : (loadCellsFrom ⟨b.blk, b.base + off, none⟩ 0 inf.size #[]).run P w with
      | halt x y => simp [hl] at hc
      | ok r w1 =>
        simp only [hl, Result.ok.injEq] at hc
        obtain ⟨rfl, rfl⟩ := hc
        have := loadCells_same (P := P) (a := ⟨b.blk, b.base + off, none⟩) (w := w1) (w' := w') (fun k => by rw [add_at]; exact hcell _) inf.size 0 #[] r (fun k _ hk => by
          rw [add_at, Nat.add_assoc]
          have hlt : off + k < (H.f i).cs.length := by omega
          obtain ⟨c, hc, _⟩ := cell_at hR hb (List.getElem?_eq_getElem hlt)
          exact ⟨c, hc⟩) hl
        simp only [this]
    · cases hv
  · rw [if_neg ha] at hv
    obtain ⟨cc, hcc, _⟩ := cell_at hR hb hv
    simp only [loadVar, Sem.run_bind, run_isAgg' hd, hag, ha, Result.andThen, Bool.false_eq_true, if_false] at hc ⊢
    rw [run_load' hcc] at hc
    cases hc
    exact run_load' ((hcell _).trans hcc)

def wcallP (P : Program) (fv : AVal) (args : List AVal) (H : AHeap) (K : AVal → AHeap → Prop) : Prop :=
  match fv with
  | .func f as bs => hasBody P f = true ∧ CallW P f (as ++ args ++ bs) H K
  | _ => False
def wgoP (P : Program) (o : Op) (e : Env) (H : AHeap) (K : AVal → AHeap → Prop) : Prop :=
  match o with
  | .call ⟨.value f, args, _⟩ => wcallP P (evalA e f) (args.toList.map (evalA e)) H K
  | op => match astep P op e H with
    | some (v, H') => K v H'
    | none => False
def wopP (P : Program) (ops : Array Oper) (o : Oper) (e : Env) (H : AHeap) (K : Env → AHeap → Prop) : Prop :=
  match o.guard with
  | none => wgoP P o.op e H fun v H' => K (put? e o.dst v) H'
  | some (j, want) => match gslot ops j with
    | some t => match e t with
      | .bool b => if b = want then wgoP P o.op e H (fun v H' => K (put? e o.dst v) H') else K (put? e o.dst (.tuple [])) H
      | .tuple _ => K (put? e o.dst (.tuple [])) H
      | _ => False
    | none => False
theorem wgoP_sound {o : Oper} {e : Env} {H : AHeap} {K : AVal → AHeap → Prop} (h : wgoP P o.op e H K) {φ : PMap} {w : World} {a : Act} (hR : Rel φ H w) (hE : ERel φ N e a.tmps)
    {next : Act → World → Prop} {Q : Exit → Act → World → Prop} (hn : ∀ v c φ' H' w', VRel φ' v c → Rel φ' H' w' → Ext φ H w φ' H' w' → K v H' → next (a.put o.dst c) w') : o.wp P a w next Q := by
  unfold Oper.wp
  unfold wgoP at h
  split at h
  · rename_i f args ts ho
    have hf := evalA_rel hE f
    have hargs : VRels φ (args.toList.map (evalA e)) (args.map a.eval).toList := by rw [Array.toList_map]; exact evals_rel hE _
    unfold wcallP at h
    split at h
    · rename_i g as bs hg
      rw [hg] at hf
      obtain ⟨cs, ds, hc, hcs, hds⟩ := hf
      obtain ⟨hb, hcall⟩ := h
      unfold hasBody at hb
      cases hfn : P.funcs[g]? with
      | none => simp [hfn] at hb
      | some fn =>
        simp only [hfn, Bool.and_eq_true, bne_iff_ne, ne_eq] at hb
        have hrun : (execOp a.eval o).run P w = .ok (.enter g (cs.toArray ++ args.map a.eval ++ ds.toArray)) w := by
          have hbn : fn.body.isNone = false := by cases hx : fn.body <;> simp_all
          simp only [execOp, ho, resolve, hc, Deferred.ofValue, Sem.run_bind, Sem.run_pure, Result.andThen, invoke, callFunc, run_program, hfn]
          rw [if_neg (by simpa using hb.2)]
          simp [hbn]
        rw [hrun, Oper.upon_enter]
        refine (hcall φ w (cs.toArray ++ args.map a.eval ++ ds.toArray) hR (by simpa using VRels_append (VRels_append hcs hargs) hds)).mono ?_
        rintro en w' ⟨cv, v, φ', H', rfl, h1, h2, h3, h4⟩
        exact hn v cv φ' H' w' h1 h2 h3 h4
    · exact h.elim
  · split at h
    · rename_i v H' hst
      obtain ⟨r, c, w', φ', hrun, hr, hv, hR', hX⟩ := astep_run hR hE hst
      rw [hrun]
      have := hn v c φ' H' w' hv hR' hX h
      rcases hr with rfl | ⟨rfl, rfl⟩
      · exact this
      · exact this
    · exact h.elim

/-! ### Operations taken ahead -/
/-- None of those let off has come up. -/
def noOff (off : List Nat) (listed : Array Bool) : Bool := off.all fun j => !listed.getD j false
theorem noOff_set {off : List Nat} {listed : Array Bool} {i : Nat} (h : noOff off (listed.setIfInBounds i true) = true) : noOff off listed = true := by
  unfold noOff at *
  rw [List.all_eq_true] at *
  intro j hj
  have := h j hj
  by_cases hij : i = j
  · subst hij
    by_cases hlt : i < listed.size
    · simp [hlt] at this
    · simp [Array.getElem?_eq_none (Nat.not_lt.1 hlt)]
  · rwa [getD_set_ne false hij] at this
theorem noOff_keep {off : List Nat} {listed : Array Bool} {i : Nat} (hi : off.contains i = false) (h : noOff off listed = true) : noOff off (listed.setIfInBounds i true) = true := by
  unfold noOff at *
  rw [List.all_eq_true] at *
  intro j hj
  have hij : i ≠ j := fun he => by subst he; simp [hj] at hi
  rw [getD_set_ne false hij]; exact h j hj
/-- Whatever order is picked, and S holds behind each operation as long as none of those let off has come up. -/
def anyN (P : Program) (ops : Array Oper) (Q : Exit → Act → World → Prop) (S : World → Prop) (off : List Nat) : Nat → Array Bool → Act → World → Prop
  | 0, listed, a, w => Region.ready .any ops listed = [] ∧ Q .normal a w
  | fuel + 1, listed, a, w => (Region.ready .any ops listed = [] → Q .normal a w) ∧
    ∀ i ∈ Region.ready .any ops listed, wpOp P ops Q i (fun a' w' => (noOff off (listed.setIfInBounds i true) = true → S w') ∧ anyN P ops Q S off fuel (listed.setIfInBounds i true) a' w') a w
theorem anyN_any {ops : Array Oper} {Q : Exit → Act → World → Prop} {S : World → Prop} {off : List Nat} : ∀ (fuel : Nat) (listed : Array Bool) (a : Act) (w : World), anyN P ops Q S off fuel listed a w → wpAny P .any ops Q fuel listed a w
  | 0, _, _, _, h => h
  | fuel + 1, _, _, _, h => ⟨h.1, fun i hi => wpOp_mono (fun a' w' h' => anyN_any fuel _ a' w' h'.2) (h.2 i hi)⟩
/-- All that are let off wait for operation i. -/
def offWait (ops : Array Oper) (off : List Nat) (i : Nat) : Bool :=
  off.all fun j => match ops[j]? with
    | some oj => oj.after.any fun e => Region.binds .any e && e.on == i
    | none => true
/-- Taken first, number i tells the same. -/
theorem anyN_first {ops : Array Oper} {Q : Exit → Act → World → Prop} {S T : World → Prop} {off : List Nat} {i : Nat} {oi : Oper} {v : Value} (hi : ops[i]? = some oi) (hsel : Region.noSelect ops = true) (hQ : ∀ c a w, Q (.panic c) (a.put oi.dst v) w → Q (.panic c) a w)
    (hoi : off.contains i = false) (hT : (∀ w, T w) ∨ (∀ w, S w → T w) ∧ offWait ops off i = true) :
    ∀ (fuel : Nat) (listed : Array Bool) (a : Act) (w : World), Region.free .any ops listed i = true → i ∈ Region.ready .any ops listed → YieldsIf P ops T oi v a → (noOff off listed = true → S w) → ((∀ w, T w) ∨ noOff off listed = true) →
      anyN P ops Q S off fuel (listed.setIfInBounds i true) (a.put oi.dst v) w → anyN P ops Q S off (fuel + 1) listed a w := by
  intro fuel
  have hTw : ∀ (listed : Array Bool) (w : World), (noOff off listed = true → S w) → ((∀ w, T w) ∨ noOff off listed = true) → T w := by
    intro listed w hS hc
    rcases hT with h | ⟨h, _⟩
    · exact h w
    · rcases hc with h' | h'
      · exact h' w
      · exact h w (hS h')
  induction fuel with
  | zero =>
    intro listed a w _ hr hy hS hc H
    refine ⟨fun h => absurd (h ▸ hr) (by simp), fun j hj => ?_⟩
    by_cases hji : j = i
    · subst hji; exact hy.wpOp hi (hTw listed w hS hc) ⟨fun h => hS (noOff_set h), H⟩
    · exact absurd (ready_mono hj hji) (by rw [H.1]; simp)
  | succ fuel ih =>
    intro listed a w hf hr hy hS hc H
    refine ⟨fun h => absurd (h ▸ hr) (by simp), fun j hj => ?_⟩
    by_cases hji : j = i
    · subst hji; exact hy.wpOp hi (hTw listed w hS hc) ⟨fun h => hS (noOff_set h), H⟩
    · obtain ⟨hun, oj, hoj, hall⟩ := mem_ready.1 hj
      have hiun := (mem_ready.1 hr).1
      have hnw : ∀ e ∈ oj.after, Region.binds .any e = true → e.on ≠ i := by
        intro e he hb heq
        have h1 := hall e he hb
        rw [heq] at h1
        by_cases hlt : i < listed.size
        · simp [hlt] at hiun h1; rw [hiun] at h1; cases h1
        · simp [Array.getElem?_eq_none (Nat.not_lt.1 hlt)] at h1
      have hap := Region.free_spec hi hf j oj hoj hji hun hnw
      have hput := wpOp_putIf hoj hap (fun cs b => Region.noSelect_spec hsel i oi cs b hi) (fun cs b => Region.noSelect_spec hsel j oj cs b hoj) hQ hy (H.2 j (ready_mono hj hji))
      have hf' : Region.free .any ops (listed.setIfInBounds j true) i = true := by
        unfold Region.free at hf ⊢
        rw [hi] at hf ⊢
        simp only [List.all_eq_true, Bool.or_eq_true] at hf ⊢
        intro k hk
        rcases hf k hk with (h | h) | h
        · exact .inl (.inl h)
        · refine .inl (.inr ?_)
          by_cases hjk : j = k
          · subst hjk; rw [hun] at h; cases h
          · rw [getD_set_ne true hjk]; exact h
        · exact .inr h
      have hc' : (∀ w, T w) ∨ noOff off (listed.setIfInBounds j true) = true := by
        rcases hT with h | ⟨_, h⟩
        · exact .inl h
        · rcases hc with h' | h'
          · exact .inl h'
          · refine .inr (noOff_keep ?_ h')
            cases hjo : off.contains j with
            | false => rfl
            | true =>
              exfalso
              have hjm : j ∈ off := by simpa using hjo
              unfold offWait at h
              have := List.all_eq_true.1 h j hjm
              rw [hoj] at this
              obtain ⟨e, he, hb⟩ := Array.any_eq_true'.1 this
              simp only [Bool.and_eq_true, beq_iff_eq] at hb
              exact hnw e he hb.1 hb.2
      refine wpOp_mono (fun a' w' h3 => ?_) hput
      have hS' : noOff off (listed.setIfInBounds j true) = true → S w' := fun h => h3.2.1 (by
        rw [Array.setIfInBounds_comm _ _ (Ne.symm hji)]
        exact noOff_keep hoi h)
      refine ⟨hS', ih (listed.setIfInBounds j true) a' w' hf' (ready_mono hr (Ne.symm hji)) h3.1 hS' hc' ?_⟩
      rw [Array.setIfInBounds_comm _ _ hji]
      exact h3.2.2

def heldS (φ0 : PMap) (w0 : World) (held : List Nat) : World → Prop := fun w => ∀ i ∈ held, ∀ b, φ0 i = some b → w.heap[b.blk]? = w0.heap[b.blk]?
/-- What is to be shown of a region whose order is open, some operations having come up. 'held': numbers that nothing writes before one of the operations 'off' has come up. -/
def heldZ (φ0 : PMap) (w0 : World) (held : List Nat) (zz : ZMap) : World → Prop := fun w => heldS φ0 w0 held w ∧ HasZ zz w
theorem anyN_mono {ops : Array Oper} {Q : Exit → Act → World → Prop} {S S' : World → Prop} {off : List Nat} (hS : ∀ w, S w → S' w) : ∀ (fuel : Nat) (listed : Array Bool) (a : Act) (w : World), anyN P ops Q S off fuel listed a w → anyN P ops Q S' off fuel listed a w
  | 0, _, _, _, h => h
  | fuel + 1, _, _, _, h => ⟨h.1, fun i hi => wpOp_mono (fun a' w' h' => ⟨fun hn => hS _ (h'.1 hn), anyN_mono hS fuel _ a' w' h'.2⟩) (h.2 i hi)⟩
def AnyW (P : Program) (N : Nat) (ops : Array Oper) (held off : List Nat) (fuel : Nat) (listed : Array Bool) (e : Env) (H : AHeap) (K : Env → AHeap → Prop) : Prop :=
  ∀ B φ0 H0 w0 φ w (a : Act) (zz : ZMap), ZLe zz φ.z → (noOff off listed = true → ∀ i ∈ held, i < H0.n ∧ (H0.f i).live ∧ H.ver i = H0.ver i) → Rel φ H w → ERel φ N e a.tmps → GoodMarks B φ H w a.defers → Ext φ0 H0 w0 φ H w → Rel φ0 H0 w0 →
    anyN P ops (XPost N B φ0 H0 w0 fun x e H => x = .normal ∧ K e H) (heldZ φ0 w0 held zz) off fuel listed a w
theorem heldS_of {held : List Nat} {φ0 φ : PMap} {H0 H : AHeap} {w0 w : World} (h : ∀ i ∈ held, i < H0.n ∧ (H0.f i).live ∧ H.ver i = H0.ver i) (hX : Ext φ0 H0 w0 φ H w) : heldS φ0 w0 held w :=
  fun i hi b hb => (hX.same i b hb (h i hi).2.1 (h i hi).2.2).2
theorem heldZ_of {held : List Nat} {φ0 φ : PMap} {H : AHeap} {w0 w : World} {zz : ZMap} (hzz : ZLe zz φ.z) (hR : Rel φ H w) (h : heldS φ0 w0 held w) : heldZ φ0 w0 held zz w := ⟨h, fun k o hz => hR.hasZ k o (hzz k o hz)⟩
theorem AnyW.done {ops : Array Oper} {held off : List Nat} {fuel : Nat} {listed : Array Bool} {e : Env} {H : AHeap} {K : Env → AHeap → Prop} (hr : Region.ready .any ops listed = []) (h : K e H) : AnyW P N ops held off fuel listed e H K := by
  intro B φ0 H0 w0 φ w a zz hzz hh hR hE hM hX h0
  cases fuel with
  | zero => exact ⟨hr, φ, e, H, hR, hE, hX, hM, rfl, h⟩
  | succ n => exact ⟨fun _ => ⟨φ, e, H, hR, hE, hX, hM, rfl, h⟩, by rw [hr]; simp⟩
theorem noPanic {B : Nat} {φ0 : PMap} {H0 : AHeap} {w0 : World} {K : Env → AHeap → Prop} {a a' : Act} {w : World} {c : List PanicEntry} : XPost N B φ0 H0 w0 (fun x e H => x = .normal ∧ K e H) (.panic c) a w → XPost N B φ0 H0 w0 (fun x e H => x = .normal ∧ K e H) (.panic c) a' w := by
  rintro ⟨φ, e, H, _, _, _, _, h, _⟩
  cases h
/-- Is an operation's guard met? -/
def guardOk (ops : Array Oper) (o : Oper) (e : Env) : Option Bool :=
  match o.guard with
  | none => some true
  | some (j, want) => match gslot ops j with
    | some t => match e t with
      | .bool b => some (b == want)
      | .tuple _ => some false
      | _ => none
    | none => none
theorem wanted_of {ops : Array Oper} {o : Oper} {e : Env} {φ : PMap} {a : Act} (hE : ERel φ N e a.tmps) {g : Bool} (h : guardOk ops o e = some g) : Region.wanted o (yielded ops a.tmps) = g := by
  unfold guardOk at h
  split at h
  · rename_i hg; cases h; simp [Region.wanted, hg]
  · rename_i j want hg
    split at h
    · rename_i t ht
      split at h
      · rename_i b hb
        cases h
        have hy := yielded_rel hE ht hb
        simp only [Region.wanted, hg, hy]
        cases b <;> cases want <;> rfl
      · rename_i l hb
        cases h
        simp only [Region.wanted, hg, yielded_skip hE ht hb]
        rfl
      · cases h
    · cases h
/-- May operation i be taken now, as far as the region's text tells? -/
def mayTake (N : Nat) (ops : Array Oper) (off : List Nat) (listed : Array Bool) (i : Nat) : Bool :=
  Region.noSelect ops && Region.free .any ops listed i && (Region.ready .any ops listed).contains i && !off.contains i && (match ops[i]? with | some o => okOper N o | none => false)
/-- The value of what looks at no memory, or is passed over. -/
def takeP (P : Program) (ops : Array Oper) (o : Oper) (e : Env) (H : AHeap) : Option AVal :=
  match guardOk ops o e with
  | some false => some (.tuple [])
  | some true => apure P o.op e H
  | none => none
theorem AnyW.take {ops : Array Oper} {held off : List Nat} {fuel : Nat} {listed : Array Bool} {e : Env} {H : AHeap} {K : Env → AHeap → Prop} (i : Nat) {o : Oper} {v : AVal} (hi : ops[i]? = some o) (hst : mayTake N ops off listed i = true)
    (hv : takeP P ops o e H = some v) (h : AnyW P N ops held off fuel (listed.setIfInBounds i true) (put? e o.dst v) H K) : AnyW P N ops held off (fuel + 1) listed e H K := by
  intro B φ0 H0 w0 φ w a zz hzz hh hR hE hM hX h0
  simp only [mayTake, Bool.and_eq_true, hi, Bool.not_eq_true'] at hst
  obtain ⟨⟨⟨⟨hs, hf⟩, hr⟩, hoff⟩, hokp⟩ := hst
  obtain ⟨c, hy, hvr⟩ : ∃ c, YieldsIf P ops (fun _ => True) o c a ∧ VRel φ v c := by
    unfold takeP at hv
    split at hv
    · rename_i hg
      cases hv
      exact ⟨Go.undef, .inr ⟨wanted_of hE hg, rfl⟩, skip_rel φ⟩
    · rename_i hg
      obtain ⟨c, hc, hr⟩ := apure_run hR hE hv
      exact ⟨c, .inl ⟨wanted_of hE hg, fun w' _ => hc w'⟩, hr⟩
    · cases hv
  exact anyN_first hi hs (fun _ _ _ => noPanic) hoff (.inl fun _ => trivial) fuel listed a w hf (by simpa using hr) hy (fun hno => heldZ_of hzz hR (heldS_of (hh hno) hX)) (.inl fun _ => trivial)
    (h B φ0 H0 w0 φ w (a.put o.dst c) zz hzz (fun hno => hh (noOff_set hno)) hR (put_ERel hE hokp hvr) (by rw [put_defers]; exact hM) hX h0)
/-- A load of what is held. -/
def takeL (P : Program) (ops : Array Oper) (held : List Nat) (o : Oper) (e : Env) (H : AHeap) : Option AVal :=
  match guardOk ops o e, o.op with
  | some true, .load t x => match evalA e x, tinfo P t with
    | .ptr i off, some ti => if held.contains i then H.load ti i off else none
    | .rptr cs off, some ti => rload ti cs off
    | _, _ => none
  | _, _ => none
theorem AnyW.load {ops : Array Oper} {held off : List Nat} {fuel : Nat} {listed : Array Bool} {e : Env} {H : AHeap} {K : Env → AHeap → Prop} (i : Nat) {o : Oper} {v : AVal} (hi : ops[i]? = some o) (hst : (mayTake N ops off listed i && offWait ops off i && noOff off listed) = true)
    (hv : takeL P ops held o e H = some v) (h : AnyW P N ops held off fuel (listed.setIfInBounds i true) (put? e o.dst v) H K) : AnyW P N ops held off (fuel + 1) listed e H K := by
  intro B φ0 H0 w0 φ w a zz hzz hh hR hE hM hX h0
  simp only [mayTake, Bool.and_eq_true, hi, Bool.not_eq_true'] at hst
  obtain ⟨⟨⟨⟨⟨⟨hs, hf⟩, hr⟩, hoff⟩, hokp⟩, how⟩, hno⟩ := hst
  have hS := heldS_of (hh hno) hX
  obtain ⟨c, hy, hvr⟩ : ∃ c, YieldsIf P ops (heldZ φ0 w0 held φ.z) o c a ∧ VRel φ v c := by
    unfold takeL at hv
    split at hv
    · rename_i t x hg ho
      split at hv
      · rename_i j o' ti hx ht
        split at hv
        · rename_i hheld
          have hr := evalA_rel hE x
          rw [hx] at hr
          obtain ⟨b, hb, hc⟩ := hr
          obtain ⟨c, hcl, hcr⟩ := load_held (P := P) hR ht hb hv
          have hjm : j ∈ held := by simpa using hheld
          have hb0 : φ0 j = some b := by
            obtain ⟨b', hb'⟩ := h0.has j (hh hno j hjm).1
            have := hX.le j b' hb'
            rw [hb] at this
            rw [hb', this]
          refine ⟨c, .inl ⟨wanted_of hE hg, fun w' hS' => ?_⟩, hcr⟩
          have h1 := hS'.1 j hjm b hb0
          have h2 := hS j hjm b hb0
          simp only [execOp, ho, hc, Instr.loadAt, Instr.sureAddr, Sem.run_bind, Sem.run_pure, Result.andThen, hcl w' (h1.trans h2.symm)]
        · cases hv
      · rename_i cs o' ti hx ht
        have hr := evalA_rel hE x
        rw [hx] at hr
        obtain ⟨r, hc, hrr⟩ := loadR_pure (P := P) ht hr hv
        refine ⟨r, .inl ⟨wanted_of hE hg, fun w' hS' => ?_⟩, hrr⟩
        simp only [execOp, ho, Sem.run_bind, Sem.run_pure, Result.andThen, hc w' hS'.2]
      · cases hv
    · cases hv
  have hz : heldZ φ0 w0 held φ.z w := heldZ_of (fun _ _ h => h) hR hS
  have hgo := anyN_first (S := heldZ φ0 w0 held φ.z) hi hs (fun _ _ _ => noPanic (N := N) (B := B) (φ0 := φ0) (H0 := H0) (w0 := w0) (K := K)) hoff (.inr ⟨fun _ h => h, how⟩) fuel listed a w hf (by simpa using hr) hy (fun _ => hz) (.inr hno)
    (h B φ0 H0 w0 φ w (a.put o.dst c) φ.z (fun _ _ h => h) (fun hno => hh (noOff_set hno)) hR (put_ERel hE hokp hvr) (by rw [put_defers]; exact hM) hX h0)
  exact anyN_mono (fun w' hw => ⟨hw.1, fun k o h => hw.2 k o (hzz k o h)⟩) _ _ _ _ hgo
/-- Whichever may come up next. -/
theorem AnyW.all {ops : Array Oper} {held off : List Nat} {fuel : Nat} {listed : Array Bool} {e : Env} {H : AHeap} {K : Env → AHeap → Prop} (rs : List Nat) (hr : Region.ready .any ops listed = rs) (hne : rs ≠ [])
    (h : ∀ i ∈ rs, ∃ o, ops[i]? = some o ∧ okOper N o = true ∧ wopP P ops o e H fun e' H' => (noOff off (listed.setIfInBounds i true) = true → ∀ j ∈ held, H'.ver j = H.ver j) ∧ AnyW P N ops held off fuel (listed.setIfInBounds i true) e' H' K) : AnyW P N ops held off (fuel + 1) listed e H K := by
  intro B φ0 H0 w0 φ w a zz hzz hh hR hE hM hX h0
  refine ⟨fun h0 => absurd (hr ▸ h0) hne, fun i hi => ?_⟩
  rw [hr] at hi
  obtain ⟨o, ho, hok, hop⟩ := h i hi
  unfold wpOp
  simp only [ho]
  have hgo : wgoP P o.op e H (fun v H' => (noOff off (listed.setIfInBounds i true) = true → ∀ j ∈ held, H'.ver j = H.ver j) ∧ AnyW P N ops held off fuel (listed.setIfInBounds i true) (put? e o.dst v) H' K) →
      o.wp P a w (fun a' w' => (noOff off (listed.setIfInBounds i true) = true → heldZ φ0 w0 held zz w') ∧ anyN P ops (XPost N B φ0 H0 w0 fun x e H => x = .normal ∧ K e H) (heldZ φ0 w0 held zz) off fuel (listed.setIfInBounds i true) a' w') (XPost N B φ0 H0 w0 fun x e H => x = .normal ∧ K e H) := fun hg =>
    wgoP_sound hg hR hE fun v c φ' H' w' hv hR' hX' hk => by
      have hh' : noOff off (listed.setIfInBounds i true) = true → ∀ j ∈ held, j < H0.n ∧ (H0.f j).live ∧ H'.ver j = H0.ver j := fun hno j hj => by
        obtain ⟨h1, h2, h3⟩ := hh (noOff_set hno) j hj
        exact ⟨h1, h2, (hk.1 hno j hj).trans h3⟩
      exact ⟨fun hno => heldZ_of (fun k o hz => hX'.le.z k o (hzz k o hz)) hR' (heldS_of (hh' hno) (hX.trans hX')), hk.2 B φ0 H0 w0 φ' w' _ zz (fun k o hz => hX'.le.z k o (hzz k o hz)) hh' hR' (put_ERel (hE.mono hX'.le) hok hv) (by rw [put_defers]; exact hM.ext hX') (hX.trans hX') h0⟩
  unfold wopP at hop
  split at hop
  · rename_i hg
    rw [if_pos (by simp [Region.wanted, hg])]
    exact .inl (hgo hop)
  · rename_i j want hg
    split at hop
    · rename_i t ht
      split at hop
      · rename_i b hb
        have hy := yielded_rel hE ht hb
        have hwant : Region.wanted o (yielded ops a.tmps) = (b == want) := by simp only [Region.wanted, hg, hy]; cases b <;> cases want <;> rfl
        split at hop
        · rename_i hbw
          rw [if_pos (by rw [hwant]; simpa using hbw)]
          exact .inl (hgo hop)
        · rename_i hbw
          rw [if_neg (by rw [hwant]; simpa using hbw)]
          exact ⟨fun hno => heldZ_of hzz hR (heldS_of (hh (noOff_set hno)) hX), hop.2 B φ0 H0 w0 φ w _ zz hzz (fun hno => hh (noOff_set hno)) hR (put_ERel hE hok (skip_rel φ)) (by rw [put_defers]; exact hM) hX h0⟩
      · rename_i l hb
        have hwant : Region.wanted o (yielded ops a.tmps) = false := by simp only [Region.wanted, hg, yielded_skip hE ht hb]; rfl
        rw [if_neg (by rw [hwant]; simp)]
        exact ⟨fun hno => heldZ_of hzz hR (heldS_of (hh (noOff_set hno)) hX), hop.2 B φ0 H0 w0 φ w _ zz hzz (fun hno => hh (noOff_set hno)) hR (put_ERel hE hok (skip_rel φ)) (by rw [put_defers]; exact hM) hX h0⟩
      · exact hop.elim
    · exact hop.elim

/-! ### From one order to the statement -/
theorem wpOps_in {ops : Array Oper} (hok : okOps N ops = true) {Q : Exit → Act → World → Prop} (hQ : ∀ a w, ¬ Q .outgrown a w) : ∀ (l : List Nat) (a : Act) (w : World), wpOps P ops Q l a w → wpOpsIn (fence ρ) 0 P ops Q l a w
  | [], a, w, h => h
  | i :: l, a, w, h => by
    have ih := wpOps_in hok hQ l
    simp only [wpOps] at h
    simp only [wpOpsIn]
    cases ho : ops[i]? with
    | none => simp only [ho] at h ⊢; exact ih a w h
    | some o =>
      have hoo : okOper N o = true := by
        have := List.all_eq_true.1 hok o (by simpa using Array.mem_of_getElem? ho)
        exact this
      simp only [ho] at h ⊢
      by_cases hw : Region.wanted o (yielded ops a.tmps) = true
      · simp only [hw, if_true] at h ⊢
        rcases h with h | ⟨_, a', w', h⟩
        · refine ⟨fun _ _ => trivial, ?_⟩
          rw [semAt_ok hoo]
          unfold Oper.wp at h
          cases hr : (execOp a.eval o).run P w with
          | halt x w' =>
            rw [hr] at h
            cases x <;> first | exact h | exact h.elim
          | ok x w' =>
            rw [hr] at h
            cases x with
            | value v => exact ih _ _ h
            | skip => exact ih _ _ h
            | defer d => exact ih _ _ h
            | enter f args =>
              rw [Oper.upon_enter] at h
              rw [Oper.uponIn_enter]
              refine ⟨fence_depth, ?_⟩
              have hc := (callsIn_wide (n := 0 - 1)).2 h
              have : CallsIn (fence ρ) (0 - 1) P f args w' _ := hc
              refine ⟨this.1, fun cs' hrm => ?_⟩
              obtain ⟨en, w2, fr, hq, rest⟩ := this.2 cs' hrm
              refine ⟨en, w2, fr, ?_, rest⟩
              cases en with
              | returned v => exact ih _ _ hq
              | panicked c => exact hq
              | outgrown => exact hq
            | row r args =>
              rw [Oper.upon_row] at h
              rw [Oper.uponIn_row]
              refine ⟨fence_depth, fun c cs _ => ?_⟩
              obtain ⟨v, w2, hq, hs⟩ := h c cs
              have hs' : StepsIn (Machine.fenced P Fence.wide) P _ _ := stepsIn_wide.2 hs
              exact ⟨v, w2, ih _ _ hq, hs'⟩
            | _ => exact h.elim
        · exact (hQ _ _ h).elim
      · simp only [hw] at h ⊢
        exact ⟨fun _ _ => trivial, ih _ _ h⟩
theorem wpIn_region_draw0 {id : Nat} {ops : Array Oper} {Q : Exit → Act → World → Prop} {a : Act} {w : World} {F : Fence} {n : Nat} (h : ∀ t, wpOpsIn F n P ops Q (Region.schedule (P.follows .mixedOrders) ops t) a { w with drawn := w.drawn + 1 }) : (Code.region id ops true).wpIn F n P Q a w :=
  fun b k cs hro hb hr => let ⟨e, a', w', q, r⟩ := wp_opsIn _ a _ (h _) b k cs hro hb hr; ⟨e, a', w', q, .of_steps (.one (fenced_calm hb hr rfl) stepR_region_draw) r⟩
/-- **A region whose order is open.** -/
theorem CW.draw {id : Nat} {ops : Array Oper} {e : Env} {H : AHeap} {K : Exit → Env → AHeap → Prop} (held off : List Nat) (hm : P.follows .mixedOrders = true) (hok : okOps N ops = true) (hh : ∀ i ∈ held, i < H.n ∧ (H.f i).live)
    (h : AnyW P N ops held off ops.size (Array.replicate ops.size false) e H fun e H => K .normal e H) : CW P N ρ (.region id ops true) e H K := by
  intro B φ w a hR hE hM hB
  refine wpIn_mono (wpIn_region_draw0 (Q := XPost N B φ H { w with drawn := w.drawn + 1 } fun x e H => x = .normal ∧ K .normal e H) fun t => wpOps_in hok ?_ _ _ _ ?_) ?_
  · rintro a w ⟨_, _, _, _, _, _, _, h, _⟩; cases h
  · have hR' := hR.drew (w.drawn + 1)
    have h1 := anyN_any _ _ _ _ (h B φ H { w with drawn := w.drawn + 1 } φ { w with drawn := w.drawn + 1 } a φ.z (fun _ _ h => h) (fun _ i hi => ⟨(hh i hi).1, (hh i hi).2, rfl⟩) hR' hE (hM.ext (Ext.drew φ H w _)) (Ext.refl _ _ _) hR')
    rw [hm]
    have h2 := wpAny_sound ops.size t _ a _ h1
    have h3 : wpOps P ops (XPost N B φ H { w with drawn := w.drawn + 1 } fun x e H => x = .normal ∧ K .normal e H) (Region.schedule true ops t) a { w with drawn := w.drawn + 1 } := by
      simp only [Region.schedule, Bool.true_or, if_true]; exact h2
    exact h3
  · rintro x a' w' ⟨φ', e', H', h1, h2, h3, h4, rfl, h5⟩
    exact ⟨φ', e', H', h1, h2, (Ext.drew φ H w _).trans h3, h4, h5⟩
end Go.Vh
