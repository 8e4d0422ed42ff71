import Derived.Test.YtaccmanpanpbiaaVhL
/- Code: sequences, tests, blocks, loops, bodies. -/
set_option linter.unusedVariables false
set_option linter.unusedSimpArgs false
namespace Go.Vh
variable {P : Program} {N : Nat} {ρ : Option Nat}

theorem CW.mono {c : Code} {e : Env} {H : AHeap} {K K' : Exit → Env → AHeap → Prop} (h : CW P N ρ c e H K) (hk : ∀ x e H, K x e H → K' x e H) : CW P N ρ c e H K' :=
  fun B φ w a hR hE hM hB => wpIn_mono (h B φ w a hR hE hM hB) fun x a' w' ⟨φ', e', H', h1, h2, h3, h4, h5⟩ => ⟨φ', e', H', h1, h2, h3, h4, hk _ _ _ h5⟩
theorem CW.seq {c d : Code} {e : Env} {H : AHeap} {K : Exit → Env → AHeap → Prop} (h : CW P N ρ c e H fun x e H => match x with | .normal => CW P N ρ d e H K | x => K x e H) : CW P N ρ (.seq c d) e H K := by
  intro B φ w a hR hE hM hB
  refine wpIn_seq (wpIn_mono (h B φ w a hR hE hM hB) fun x a' w' hx => ?_)
  obtain ⟨φ', e', H', h1, h2, h3, h4, h5⟩ := hx
  cases x with
  | normal => exact wpIn_mono (h5 B φ' w' a' h1 h2 h4 (Nat.le_trans hB h3.size)) fun x a'' w'' hx => hx.trans h3
  | _ => exact ⟨φ', e', H', h1, h2, h3, h4, h5⟩
theorem CW.cond {c : Operand} {x y : Code} {e : Env} {H : AHeap} {K : Exit → Env → AHeap → Prop} {t : Bool} (hc : evalA e c = .bool t) (h : if t = true then CW P N ρ x e H K else CW P N ρ y e H K) : CW P N ρ (.cond c x y) e H K := by
  intro B φ w a hR hE hM hB
  have hr := evalA_rel hE c
  rw [hc] at hr
  have hr' : a.eval c = .bool t := hr
  refine wpIn_cond hr' ?_
  cases t with
  | true => exact h B φ w a hR hE hM hB
  | false => exact h B φ w a hR hE hM hB
theorem CW.block {id : Nat} {c : Code} {e : Env} {H : AHeap} {K : Exit → Env → AHeap → Prop} (h : CW P N ρ c e H fun x e H => match x with | .exit i => (if i = id then K .normal e H else K (.exit i) e H) | x => K x e H) : CW P N ρ (.block id c) e H K := by
  intro B φ w a hR hE hM hB
  refine wpIn_block (wpIn_mono (h B φ w a hR hE hM hB) fun x a' w' hx => ?_)
  obtain ⟨φ', e', H', h1, h2, h3, h4, h5⟩ := hx
  cases x with
  | exit i =>
    simp only [Exit.inBlock]
    split
    · rename_i hi; simp only [hi, if_true] at h5; exact ⟨φ', e', H', h1, h2, h3, h4, h5⟩
    · rename_i hi; simp only [hi, if_false] at h5; exact ⟨φ', e', H', h1, h2, h3, h4, h5⟩
  | _ => exact ⟨φ', e', H', h1, h2, h3, h4, h5⟩
theorem CW.skip {e : Env} {H : AHeap} {K : Exit → Env → AHeap → Prop} (h : K .normal e H) : CW P N ρ .skip e H K := fun B φ w a hR hE hM hB => wpIn_skip ⟨φ, e, H, hR, hE, Ext.refl _ _ _, hM, h⟩
theorem CW.label {l : Nat} {e : Env} {H : AHeap} {K : Exit → Env → AHeap → Prop} (h : K .normal e H) : CW P N ρ (.label l) e H K := fun B φ w a hR hE hM hB => wpIn_label ⟨φ, e, H, hR, hE, Ext.refl _ _ _, hM, h⟩
theorem CW.exit {id : Nat} {e : Env} {H : AHeap} {K : Exit → Env → AHeap → Prop} (h : K (.exit id) e H) : CW P N ρ (.exit id) e H K := fun B φ w a hR hE hM hB => wpIn_exit ⟨φ, e, H, hR, hE, Ext.refl _ _ _, hM, h⟩
theorem CW.goto {id : Nat} {e : Env} {H : AHeap} {K : Exit → Env → AHeap → Prop} (h : K (.goto id) e H) : CW P N ρ (.goto id) e H K := fun B φ w a hR hE hM hB => wpIn_goto ⟨φ, e, H, hR, hE, Ext.refl _ _ _, hM, h⟩
theorem CW.ret {e : Env} {H : AHeap} {K : Exit → Env → AHeap → Prop} (h : K .ret e H) : CW P N ρ .ret e H K := fun B φ w a hR hE hM hB => wpIn_ret ⟨φ, e, H, hR, hE, Ext.refl _ _ _, hM, h⟩
theorem wpIn_region0 {id : Nat} {ops : Array Oper} {Q : Exit → Act → World → Prop} {a : Act} {w : World} {F : Fence} {n : Nat} (h : wpOpsIn F n P ops Q (List.range ops.size) a w) : (Code.region id ops false).wpIn F n P Q a w :=
  fun b k cs hro hb hr => let ⟨e, a', w', q, r⟩ := wp_opsIn _ a w h b k cs hro hb hr; ⟨e, a', w', q, .of_steps (.one (fenced_calm hb hr rfl) stepR_region) r⟩
theorem range_filterMap (ops : Array Oper) : (List.range ops.size).filterMap (ops[·]?) = ops.toList := by
  apply List.ext_getElem?
  intro i
  have : ∀ n, n ≤ ops.size → (List.range n).filterMap (ops[·]?) = ops.toList.take n := by
    intro n
    induction n with
    | zero => intro _; rfl
    | succ n ih =>
      intro hn
      rw [List.range_succ, List.filterMap_append, ih (by omega), List.take_add_one]
      simp [Array.getElem?_eq_getElem (show n < ops.size by omega)]
  rw [this _ (Nat.le_refl _), List.take_of_length_le (by simp)]
theorem CW.region {id : Nat} {ops : Array Oper} {e : Env} {H : AHeap} {K : Exit → Env → AHeap → Prop} (hok : okOps N ops = true) (h : wops P ops ops.toList e H fun e H => K .normal e H) : CW P N ρ (.region id ops false) e H K := by
  intro B φ w a hR hE hM hB
  refine wpIn_mono (wpIn_region0 (wops_sound hok (List.range ops.size) e H φ w a (by rw [range_filterMap]; exact h) hR hE hM (Ext.refl _ _ _))) fun x a' w' hx => ?_
  obtain ⟨φ', e', H', h1, h2, h3, h4, rfl, h5⟩ := hx
  exact ⟨φ', e', H', h1, h2, h3, h4, h5⟩

/-- A loop: an invariant with a number that every round lowers. -/
theorem CW.loop {c : Code} {e : Env} {H : AHeap} {K : Exit → Env → AHeap → Prop} (I : Nat → Env → AHeap → Prop) {m : Nat} (h0 : I m e H)
    (round : ∀ m e H, I m e H → CW P N ρ c e H fun x e' H' => match x with | .normal => (∃ m', m' < m ∧ I m' e' H') | x => K x e' H') : CW P N ρ (.loop c) e H K := by
  intro B φ w a hR hE hM hB b k cs hro hb hr
  have key : ∀ (m : Nat) e H φ1 w1 (a1 : Act), I m e H → Rel φ1 H w1 → ERel φ1 N e a1.tmps → GoodMarks B φ1 H w1 a1.defers → B ≤ w1.heap.size →
      ∃ x a' w', XPost N B φ1 H w1 K x a' w' ∧ ArrivesIn (Machine.fenced P (fence ρ)) P (lone (b.atR a1 (.code c :: .inLoop c :: k)) cs w1) b k cs x a' w' := by
    intro m
    induction m using Nat.strongRecOn with
    | _ m ih =>
      intro e H φ1 w1 a1 hI hR hE hM hB
      obtain ⟨x, a2, w2, hq, harr⟩ := round m e H hI B φ1 w1 a1 hR hE hM hB b (.inLoop c :: k) cs hro hb hr
      obtain ⟨φ2, e2, H2, g1, g2, g3, g4, g5⟩ := hq
      cases x with
      | normal =>
        obtain ⟨m', hlt, hI'⟩ := g5
        obtain ⟨x3, a3, w3, hq3, harr3⟩ := ih m' hlt e2 H2 φ2 w2 a2 hI' g1 g2 g4 (Nat.le_trans hB g3.size)
        exact ⟨x3, a3, w3, hq3.trans g3, .of_steps (StepsIn.trans harr (.one (fenced_calm hb hr rfl) stepR_inLoop)) harr3⟩
      | exit id => exact ⟨_, a2, w2, ⟨φ2, e2, H2, g1, g2, g3, g4, g5⟩, .pass (x := .inLoop c) rfl (fun _ _ => .inl (by simp)) harr⟩
      | goto l => exact ⟨_, a2, w2, ⟨φ2, e2, H2, g1, g2, g3, g4, g5⟩, .pass (x := .inLoop c) rfl (fun _ _ => .inl (by simp)) harr⟩
      | ret => exact ⟨_, a2, w2, ⟨φ2, e2, H2, g1, g2, g3, g4, g5⟩, .pass (x := .inLoop c) rfl (fun _ _ => .inl (by simp)) harr⟩
      | panic ch => exact ⟨_, a2, w2, ⟨φ2, e2, H2, g1, g2, g3, g4, g5⟩, .pass (x := .inLoop c) rfl (fun _ _ => .inl (by simp)) harr⟩
      | outgrown => exact ⟨_, a2, w2, ⟨φ2, e2, H2, g1, g2, g3, g4, g5⟩, .pass (x := .inLoop c) rfl (fun _ _ => .inl (by simp)) harr⟩
  obtain ⟨x, a', w', hq, harr⟩ := key m e H φ w a h0 hR hE hM hB
  exact ⟨x, a', w', hq, .of_steps (.one (fenced_calm hb hr rfl) stepR_loop) harr⟩

/-! ### Code as one proposition -/
def wc (P : Program) (N : Nat) (ρ : Option Nat) : Code → Env → AHeap → (Exit → Env → AHeap → Prop) → Prop
  | .skip, e, H, K => K .normal e H
  | .label _, e, H, K => K .normal e H
  | .seq a b, e, H, K => wc P N ρ a e H fun x e H => match x with | .normal => wc P N ρ b e H K | x => K x e H
  | .cond c a b, e, H, K => match evalA e c with
    | .bool t => if t = true then wc P N ρ a e H K else wc P N ρ b e H K
    | _ => False
  | .block id c, e, H, K => wc P N ρ c e H fun x e H => match x with | .exit i => (if i = id then K .normal e H else K (.exit i) e H) | x => K x e H
  | .region id ops draw, e, H, K => if draw = true then CW P N ρ (.region id ops true) e H K else wops P ops ops.toList e H fun e H => K .normal e H
  | .exit id, e, H, K => K (.exit id) e H
  | .goto id, e, H, K => K (.goto id) e H
  | .ret, e, H, K => K .ret e H
  | c, e, H, K => CW P N ρ c e H K
def okCode (N : Nat) : Code → Bool
  | .seq a b | .cond _ a b => okCode N a && okCode N b
  | .block _ c => okCode N c
  | .region _ ops _ => okOps N ops
  | _ => true
theorem wc_sound : ∀ (c : Code) (e : Env) (H : AHeap) (K : Exit → Env → AHeap → Prop), okCode N c = true → wc P N ρ c e H K → CW P N ρ c e H K
  | .skip, e, H, K, _, h => CW.skip h
  | .label _, e, H, K, _, h => CW.label h
  | .exit _, e, H, K, _, h => CW.exit h
  | .goto _, e, H, K, _, h => CW.goto h
  | .ret, e, H, K, _, h => CW.ret h
  | .seq a b, e, H, K, hok, h => by
    simp only [okCode, Bool.and_eq_true] at hok
    refine CW.seq ((wc_sound a e H _ hok.1 h).mono fun x e H hx => ?_)
    cases x with
    | normal => exact wc_sound b e H K hok.2 hx
    | _ => exact hx
  | .cond c a b, e, H, K, hok, h => by
    simp only [okCode, Bool.and_eq_true] at hok
    simp only [wc] at h
    split at h
    · rename_i t ht
      refine CW.cond ht ?_
      cases t with
      | true => exact wc_sound a e H K hok.1 h
      | false => exact wc_sound b e H K hok.2 h
    · exact h.elim
  | .block id c, e, H, K, hok, h => CW.block (wc_sound c e H _ hok h)
  | .region id ops draw, e, H, K, hok, h => by
    simp only [wc] at h
    cases draw with
    | true => exact h
    | false => exact CW.region hok h
  | .loop c, e, H, K, _, h => h
  | .rangeFunc f ps a b, e, H, K, _, h => h
  | .scope c, e, H, K, _, h => h
  | .refuse s, e, H, K, _, h => h

/-! ### Bodies -/
def env0 (args : List AVal) : Env := fun t => args.getD t .undef
def resOne (P : Program) (e : Env) (H : AHeap) : ResultVar → Option AVal
  | .tmp t => some (e t)
  | .cell a t => match e a, tinfo P t with
    | .ptr i o, some ti => H.load ti i o
    | _, _ => none
def resL (P : Program) (e : Env) (H : AHeap) : List ResultVar → Option (List AVal)
  | [] => some []
  | r :: rs => match resOne P e H r, resL P e H rs with
    | some v, some vs => some (v :: vs)
    | _, _ => none
def resA (P : Program) (e : Env) (H : AHeap) (rs : List ResultVar) : Option AVal :=
  match resL P e H rs with
  | some [v] => some v
  | some vs => some (.tuple vs)
  | none => none
theorem resOne_run {φ : PMap} {H : AHeap} {w : World} (hR : Rel φ H w) {e : Env} {tmps : Array Value} (hE : ERel φ N e tmps) {r : ResultVar} {v : AVal} (h : resOne P e H r = some v) :
    ∃ c, (match r with | .tmp t => pure (tmps.getD t Go.undef) | .cell a t => do loadVar t (← asAddr (tmps.getD a Go.undef)) : Sem Value).run P w = .ok c w ∧ VRel φ v c := by
  cases r with
  | tmp t =>
    simp only [resOne, Option.some.injEq] at h
    subst h
    exact ⟨_, rfl, hE.get t⟩
  | cell a t =>
    simp only [resOne] at h
    split at h
    · rename_i i o ti ha ht
      have hr := hE.get a
      rw [ha] at hr
      obtain ⟨b, hb, hc⟩ := hr
      obtain ⟨c, h1, h2⟩ := load_run (P := P) hR ht hb h
      exact ⟨c, by simp only [hc, asAddr, Sem.run_bind, Sem.run_pure, Result.andThen, h1], h2⟩
    · cases h
theorem resL_run {φ : PMap} {H : AHeap} {w : World} (hR : Rel φ H w) {e : Env} {tmps : Array Value} (hE : ERel φ N e tmps) : ∀ (rs : List ResultVar) (vs : List AVal), resL P e H rs = some vs →
    ∃ cs, (rs.mapM fun r => (match r with | .tmp t => pure (tmps.getD t Go.undef) | .cell a t => do loadVar t (← asAddr (tmps.getD a Go.undef)) : Sem Value)).run P w = .ok cs w ∧ VRels φ vs cs
  | [], vs, h => by cases h; exact ⟨[], rfl, by simp [VRels]⟩
  | r :: rs, vs, h => by
    simp only [resL] at h
    split at h
    · rename_i v us hv hus
      cases h
      obtain ⟨c, h1, h2⟩ := resOne_run hR hE hv
      obtain ⟨cs, h3, h4⟩ := resL_run hR hE rs us hus
      refine ⟨c :: cs, ?_, VRels_cons.2 ⟨h2, h4⟩⟩
      simp only [List.mapM_cons, Sem.run_bind, h1, Result.andThen, h3, Sem.run_pure]
    · cases h
theorem results_run {φ : PMap} {H : AHeap} {w : World} (hR : Rel φ H w) {e : Env} {tmps : Array Value} (hE : ERel φ N e tmps) {fn : Func} {v : AVal} (h : resA P e H fn.results.toList = some v) :
    ∃ c, (results fn tmps).run P w = .ok c w ∧ VRel φ v c := by
  unfold resA at h
  cases hl : resL P e H fn.results.toList with
  | none => simp [hl] at h
  | some vs =>
    obtain ⟨cs, h1, h2⟩ := resL_run hR hE _ _ hl
    have hlen := VRels_length h2
    have hm : (fn.results.mapM fun r => (match r with | .tmp t => pure (tmps.getD t Go.undef) | .cell a t => do loadVar t (← asAddr (tmps.getD a Go.undef)) : Sem Value)).run P w = .ok cs.toArray w := by
      rw [Array.mapM_eq_mapM_toList, Sem.run_map, h1]; rfl
    rw [hl] at h
    cases vs with
    | nil =>
      simp only [Option.some.injEq] at h
      subst h
      obtain rfl : cs = [] := VRels_nil.1 h2
      exact ⟨.tuple #[], by unfold results; rw [Sem.run_bind]; refine (congrArg (fun r => Result.andThen r _) hm).trans ?_; rfl, [], rfl, by simp [VRels]⟩
    | cons u us =>
      cases us with
      | nil =>
        simp only [Option.some.injEq] at h
        subst h
        cases cs with
        | nil => simp at hlen
        | cons c cs =>
          obtain rfl : cs = [] := by simpa using hlen
          exact ⟨c, by unfold results; rw [Sem.run_bind]; refine (congrArg (fun r => Result.andThen r _) hm).trans ?_; rfl, (VRels_cons.1 h2).1⟩
      | cons u2 us =>
        simp only [Option.some.injEq] at h
        subst h
        refine ⟨.tuple cs.toArray, ?_, cs, rfl, h2⟩
        unfold results
        rw [Sem.run_bind]
        refine (congrArg (fun r => Result.andThen r _) hm).trans ?_
        simp only [Result.andThen]
        rw [dif_neg (by simp [hlen])]
        rfl
/-- What lies at no own block may go. -/
theorem rel_other {φ : PMap} {H : AHeap} {w : World} (hR : Rel φ H w) {r : Nat} {o o' : Obj} (hr : w.heap[r]? = some o) (hc : ∀ c e f, o ≠ .cells c e f) (hn : ¬ Own φ H r) : Rel φ H { w with heap := w.heap.setIfInBounds r o' } := by
  have hne : ∀ i b, φ i = some b → (H.f i).live → b.blk ≠ r := by
    intro i b hb hl he
    cases hf : H.f i with
    | dead => rw [hf] at hl; exact hl
    | cells es cs => exact hn ⟨i, b, hb, by rw [hf]; trivial, he⟩
    | map es => exact hn ⟨i, b, hb, by rw [hf]; trivial, he⟩
    | loop l => exact hn ⟨i, b, hb, by rw [hf]; trivial, he⟩
    | ro es cs =>
      rw [hf] at hl
      have hB := hR.blk i b hb
      rw [hf] at hB
      cases cs with
      | nil => exact hl rfl
      | cons v cs =>
        obtain ⟨c, hc', _⟩ := hB.2 0 v rfl
        unfold World.cell? at hc'
        rw [he, hr] at hc'
        cases o <;> first | (simp at hc'; done) | exact hc _ _ _ rfl
  refine ⟨hR.dom, hR.has, fun i b hb => (hR.blk i b hb).kept (PLe.refl φ) fun hl => ?_, hR.inj, fun i b hb hl => ?_, fun k x hz => ?_⟩
  · simp [Array.getElem?_setIfInBounds_ne (Ne.symm (hne i b hb hl))]
  · simpa using hR.lt i b hb hl
  · obtain ⟨z1, z2, z3⟩ := hR.fz k x hz
    refine ⟨?_, z2, z3⟩
    have hkr : r ≠ k := by
      intro he
      subst he
      rw [hr] at z1
      cases z1
      obtain ⟨arr, el, fr, rfl⟩ := z3
      exact hc _ _ _ rfl
    simpa [Array.getElem?_setIfInBounds_ne hkr] using z1
theorem leaves {φ : PMap} {H : AHeap} {e : Env} {fn : Func} {tmps : Array Value} {v : AVal} {R : Ending → World → Prop} {φ0 : PMap} {H0 : AHeap} {w0 : World} (hres : resA P e H fn.results.toList = some v)
    (hR0 : ∀ c w', VRel φ v c → Rel φ H w' → Ext φ0 H0 w0 φ H w' → R (.returned c) w') :
    ∀ (ds : List Deferred) (w : World), Rel φ H w → ERel φ N e tmps → Ext φ0 H0 w0 φ H w → GoodMarks w0.heap.size φ H w ds → LeavesInM (fence none) 0 P fn tmps R ds .returning w := by
  intro ds
  induction ds with
  | nil =>
    intro w hR hE hX _
    obtain ⟨c, hc, hv⟩ := results_run hR hE hres
    exact ⟨c, hc, hR0 c w hv hR hX⟩
  | cons d ds ih =>
    intro w hR hE hX hM
    obtain ⟨r, rfl, hh, hn, hB⟩ := hM.1 d (List.mem_cons_self ..)
    have hlt : r < w.heap.size := (Array.getElem?_eq_some_iff.1 hh).1
    have hR' := rel_other (o' := .deferred none) hR hh (by simp) hn
    refine ⟨by simp, .inl ⟨r, { w with heap := w.heap.setIfInBounds r (.deferred none) }, rfl, ?_, ?_⟩⟩
    · simp [Instr.takeDeferred, getObj, setObj, Sem.run, Sem.run_bind, hh, Result.andThen]
    · refine ih _ hR' hE ⟨hX.le, by simpa using hX.size, fun k hk hno => ?_, hX.own, hX.os, hX.tape, hX.output, hX.num, hX.ver, fun i b hb hl hv => ?_, hX.zown⟩ ⟨fun d' hd' => ?_, (List.pairwise_cons.1 hM.2).2⟩
      · have : k ≠ r := by omega
        simp only [Array.getElem?_setIfInBounds_ne (Ne.symm this)]
        exact hX.keep k hk hno
      · obtain ⟨h1, h2⟩ := hX.same i b hb hl hv
        refine ⟨h1, ?_⟩
        have hbr : b.blk ≠ r := by
          intro he
          have hl2 := hR'.lt_live (hX.le i b hb) h1
          -- the block is not the mark's: it was there before
          have : w0.heap[b.blk]? = some (.deferred (some [])) := by rw [← h2, he]; exact hh
          have hlt0 : b.blk < w0.heap.size := (Array.getElem?_eq_some_iff.1 this).1
          omega
        simp only [Array.getElem?_setIfInBounds_ne (Ne.symm hbr)]
        exact h2
      · obtain ⟨r', rfl, hh', hn', hB'⟩ := hM.1 d' (List.mem_cons_of_mem _ hd')
        have hne : r ≠ r' := by
          intro he
          subst he
          exact (List.pairwise_cons.1 hM.2).1 _ hd' r rfl rfl
        exact ⟨r', rfl, by simp only [Array.getElem?_setIfInBounds_ne hne]; exact hh', hn', hB'⟩
/-- **A function's contract, from its body.** -/
theorem CallW.of_body {f : FuncId} {fn : Func} {c : Code} {args : List AVal} {H : AHeap} {K : AVal → AHeap → Prop} (hf : P.funcs[f]? = some fn) (hb : fn.body = some c) (hlen : args.length ≤ fn.ntmps)
    (h : CW P fn.ntmps none c (env0 args) H fun x e H' => (x = .normal ∨ x = .ret) ∧ ∃ v, resA P e H' fn.results.toList = some v ∧ K v H') : CallW P f args H K := by
  intro φ w cargs hR ha
  refine callsIn_wide.1 (callsIn_of_wp_marks (F := fence none) (n := 0) hf hb trivial ?_)
  have hal := VRels_length ha
  rw [Array.length_toList] at hal
  have hE : ERel φ fn.ntmps (env0 args) (cargs ++ Array.replicate (fn.ntmps - cargs.size) Go.undef) := by
    refine ⟨by simp; omega, fun t => ?_⟩
    by_cases ht : t < args.length
    · left
      have hv : args[t]? = some args[t] := List.getElem?_eq_getElem ht
      obtain ⟨c, hc, hr⟩ := VRels_get ha hv
      have : env0 args t = args[t] := by simp [env0, ht]
      rw [this]
      have hc' : cargs[t]? = some c := by simpa using hc
      rw [Array.getD_eq_getD_getElem?, Array.getElem?_append_left (by omega), hc']
      exact hr
    · right
      simp [env0, Nat.not_lt.1 ht]
  refine wpIn_mono (h w.heap.size φ w { tmps := cargs ++ Array.replicate (fn.ntmps - cargs.size) Go.undef, defers := [] } hR hE (GoodMarks.nil _ _ _ _) (Nat.le_refl _)) fun x a' w' hx => ?_
  obtain ⟨φ', e', H', h1, h2, h3, h4, h5, v, hv, hK⟩ := hx
  have := leaves (P := P) (N := fn.ntmps) (R := CallPost φ H w K) hv (fun c w'' hc hR'' hX'' => ⟨c, v, φ', H', rfl, hc, hR'', hX'', hK⟩) a'.defers w' h1 h2 h3 h4
  rcases h5 with rfl | rfl
  · exact this
  · exact this
end Go.Vh
