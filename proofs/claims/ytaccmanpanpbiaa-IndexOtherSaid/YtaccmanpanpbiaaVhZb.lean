import Derived.Test.YtaccmanpanpbiaaVhZa
import Derived.RangeFuncRecord
/- Range over functions: the statement, and a round. -/
set_option linter.unusedVariables false
set_option linter.unusedSimpArgs false
namespace Go.Vh
variable {P : Program} {N : Nat} {ρ : Option Nat} {n0 : Nat}
/-- Yield's arguments go to the loop's parameters. -/
def putPs (e : Env) : List Nat → List AVal → Env
  | p :: ps, v :: vs => putPs (upd e p v) ps vs
  | _, _ => e
theorem putPs_rel {φ : PMap} : ∀ (ps : List Nat) (vs : List AVal) (cs : List Value) (e : Env) (tmps : Array Value), ERel φ N e tmps → (∀ p ∈ ps, p < N) → VRels φ vs cs →
    ERel φ N (putPs e ps vs) ((ps.zip cs).foldl (fun t x => t.setIfInBounds x.1 x.2) tmps)
  | [], _, _, e, tmps, h, _, _ => h
  | p :: ps, [], cs, e, tmps, h, _, hv => by rw [VRels_nil.1 hv]; exact h
  | p :: ps, v :: vs, [], e, tmps, h, _, hv => by simp [VRels] at hv
  | p :: ps, v :: vs, c :: cs, e, tmps, h, hp, hv =>
    putPs_rel ps vs cs (upd e p v) _ (h.put (hp p (List.mem_cons_self ..)) (VRels_cons.1 hv).1) (fun q hq => hp q (List.mem_cons_of_mem _ hq)) (VRels_cons.1 hv).2
theorem zip_foldl (ps : Array Nat) (cs : Array Value) (t : Array Value) : (ps.zip cs).foldl (fun tmps (x : Nat × Value) => tmps.setIfInBounds x.1 x.2) t = (ps.toList.zip cs.toList).foldl (fun t x => t.setIfInBounds x.1 x.2) t := by
  rw [← Array.foldl_toList, Array.toList_zip]
theorem rel_other_new {φ : PMap} {H : AHeap} {w : World} (hR : Rel φ H w) (o : Obj) : Rel φ H (w.alloc o) ∧ Ext φ H w φ H (w.alloc o) := by
  have hk : ∀ k, k < w.heap.size → (w.alloc o).heap[k]? = w.heap[k]? := fun k hk => by
    show (w.heap.push o)[k]? = _
    simp [Array.getElem?_push, Nat.ne_of_lt hk]
  have hsz : (w.alloc o).heap.size = w.heap.size + 1 := by show (w.heap.push o).size = _; simp
  exact ⟨⟨hR.dom, hR.has, fun i b hb => (hR.blk i b hb).kept (PLe.refl φ) fun hl => hk _ (hR.lt_live hb hl), hR.inj, fun i b hb hl => Nat.lt_of_lt_of_le (hR.lt i b hb hl) (by omega), fun k x hz => ⟨(hk k (Array.getElem?_eq_some_iff.1 (hR.fz k x hz).1).1).trans (hR.fz k x hz).1, (hR.fz k x hz).2⟩⟩,
    ⟨PLe.refl φ, by omega, fun k hk' _ => hk k hk', fun k hk' => .inl hk', rfl, rfl, rfl, Nat.le_refl _, fun _ _ _ => Nat.le_refl _, fun i b hb hl _ => ⟨hl, hk _ (hR.lt_live hb hl)⟩, fun _ _ h => .inl h⟩⟩
/-- What follows a loop over a function. -/
def loopEnd (P : Program) (N : Nat) (n0 i : Nat) (e : Env) (K : Exit → Env → AHeap → Prop) (G : AHeap) : Prop :=
  ∃ r, G.f i = .loop r ∧ (match r.state with | .busy => False | _ => True) ∧ (match r.pending with
    | none => K .normal e (G.set i (.loop { r with state := .exhausted }))
    | some c => CWF P N none n0 c e (G.set i (.loop { r with state := .exhausted })) K)
theorem rel_loop {φ : PMap} {H : AHeap} {w : World} (hR : Rel φ H w) {i : Nat} {b : BI} (hb : φ i = some b) {r : ALoop} (hi : H.f i = .loop r) :
    ∃ l, w.heap[b.blk]? = some (.loop l) ∧ LRel φ r l ∧ ∀ (l' : Loop) (r' : ALoop), LRel φ r' l' → Rel φ (H.set i (.loop r')) (w.putObj b.blk (.loop l')) ∧ Ext φ H w φ (H.set i (.loop r')) (w.putObj b.blk (.loop l')) := by
  have hB := hR.blk i b hb
  rw [hi] at hB
  obtain ⟨l, hl, hlr⟩ := hB
  refine ⟨l, hl, hlr, fun l' r' h => ?_⟩
  have hlt : b.blk < w.heap.size := (Array.getElem?_eq_some_iff.1 hl).1
  exact rel_set hR hb (by rw [hi]; trivial) _ trivial (by simp) (fun k hk => World.putObj_heap_other hk) ⟨l', World.putObj_heap_same hlt, h⟩ rfl rfl rfl
/-- **The statement.** -/
theorem CWF.range {e' : Env} {g : Operand} {ps : Array Tmp} {assign body : Code} {e : Env} {H : AHeap} {K : Exit → Env → AHeap → Prop} {f : FuncId} {as bs : List AVal} (hg : evalA e g = .func f as bs) (hb : hasBody P f = true) (hw : ∀ t, e t = e' t ∨ e' t = .undef)
    (h : CallW P f (as ++ [.yield H.n] ++ bs) (H.alloc (.loop ⟨e', N, ps.toList, assign, body, none, .ready⟩)) fun _ G => loopEnd P N n0 H.n e K G) : CWF P N none n0 (.rangeFunc g ps assign body) e H K := by
  intro B φ0 H0 w0 φ w a h0 hd hR hE hM hB hX
  have hE' : ERel φ N e' a.tmps := ⟨hE.1, fun t => by
    rcases hw t with h1 | h1
    · rw [← h1]; exact hE.2 t
    · exact .inr h1⟩
  refine wpIn_rangeFunc fun fn hfn => ?_
  have hgr := evalA_rel hE g
  rw [hg] at hgr
  obtain ⟨cs, ds, hc, hcs, hds⟩ := hgr
  obtain ⟨hR1, hX1⟩ := rel_other_new hR (.deferred (some []))
  have hs1 : (w.alloc (.deferred (some []))).heap.size = w.heap.size + 1 := by show (w.heap.push _).size = _; simp
  obtain ⟨hR2, hX2⟩ := rel_new hR1 (.loop { state := .ready, pending := none, fn, tmps := a.tmps, params := ps, assign, body, defers := w.heap.size }) (.loop ⟨e', N, ps.toList, assign, body, none, .ready⟩) trivial 0 0
    ⟨_, World.alloc_heap_new (w.alloc (.deferred (some []))) _, rfl, rfl, hE'.mono (PMap.ext_le (hR1.dom _ (Nat.le_refl _)) _), rfl, rfl, rfl⟩
  rw [hs1] at hR2 hX2
  have hR2 : Rel (φ.ext H.n ⟨w.heap.size + 1, 0, 0, 0⟩) _ ((w.alloc (.deferred (some []))).alloc (.loop { state := .ready, pending := none, fn, tmps := a.tmps, params := ps, assign, body, defers := w.heap.size })) := hR2
  have hX2 : Ext φ H (w.alloc (.deferred (some []))) (φ.ext H.n ⟨w.heap.size + 1, 0, 0, 0⟩) _ ((w.alloc (.deferred (some []))).alloc (.loop { state := .ready, pending := none, fn, tmps := a.tmps, params := ps, assign, body, defers := w.heap.size })) := hX2
  generalize hW : (w.alloc (.deferred (some []))).alloc (.loop { state := .ready, pending := none, fn, tmps := a.tmps, params := ps, assign, body, defers := w.heap.size }) = W at hR2 hX2
  generalize hH1 : H.alloc (.loop ⟨e', N, ps.toList, assign, body, none, .ready⟩) = H1 at hR2 hX2 h
  generalize hφ1 : φ.ext H.n ⟨w.heap.size + 1, 0, 0, 0⟩ = φ1 at hR2 hX2
  have hXW := hX1.trans hX2
  have hi1 : φ1 H.n = some ⟨w.heap.size + 1, 0, 0, 0⟩ := by rw [← hφ1]; exact PMap.ext_same _ _ _
  unfold hasBody at hb
  cases hfn' : P.funcs[f]? with
  | none => simp [hfn'] at hb
  | some fd =>
    simp only [hfn', Bool.and_eq_true, bne_iff_ne, ne_eq] at hb
    have hbn : fd.body.isNone = false := by cases hx : fd.body <;> simp_all
    have hcall := h φ1 W (cs.toArray ++ #[.func (.yield (w.heap.size + 1)) #[] #[]] ++ ds.toArray) hR2 (by
      have hle : PLe φ φ1 := hXW.le
      simp only [Array.toList_append]
      refine VRels_append (VRels_append (VRels_mono hle _ _ hcs) ?_) (VRels_mono hle _ _ hds)
      exact VRels_cons.2 ⟨⟨_, hi1, rfl⟩, VRels_nil.2 rfl⟩)
    refine ⟨w.heap.size + 1, [{ target := .collected w.heap.size, args := #[] }], W, { target := .fn (.func f) ds.toArray, args := cs.toArray ++ #[.func (.yield (w.heap.size + 1)) #[] #[]] }, W, f, cs.toArray ++ #[.func (.yield (w.heap.size + 1)) #[] #[]] ++ ds.toArray, W, ?_, ?_, fun _ _ => trivial, ?_, fence_depth, ?_⟩
    · rw [← hW]; exact run_enterLoop_outer _ _ _ _ _
    · simp only [resolve, hc, Deferred.ofValue]
      simp [go_sem]
    · simp only [invoke, callFunc, Sem.run_bind, run_program, Result.andThen, hfn']
      rw [if_neg (by simpa using hb.2)]
      simp [hbn]
    · have hC' := (callsIn_wide (n := 0 - 1)).2 hcall
      have hC2 : CallsIn (fence none) (0 - 1) P f (cs.toArray ++ #[.func (.yield (w.heap.size + 1)) #[] #[]] ++ ds.toArray) W (CallPost φ1 H1 W fun _ G => loopEnd P N n0 H.n e K G) := hC'
      refine hC2.mono ?_
      rintro en w' ⟨cv, v, φ', G, rfl, _, hR3, hX3, r, hr, hrs, hpend⟩
      obtain ⟨l, hl, hlr, hset⟩ := rel_loop hR3 (hX3.le _ _ hi1) hr
      obtain ⟨hR4, hX4⟩ := hset { l with state := .exhausted } { r with state := .exhausted } ⟨rfl, hlr.2.1, hlr.2.2.1, hlr.2.2.2.1, hlr.2.2.2.2.1, hlr.2.2.2.2.2⟩
      have hbusy : l.state ≠ .busy := by rw [hlr.1]; intro hb; rw [hb] at hrs; exact hrs
      have hXall := hX.trans (hXW.trans (hX3.trans hX4))
      have hM4 : GoodMarks B φ' (G.set H.n (.loop { r with state := .exhausted })) (w'.putObj (w.heap.size + 1) (.loop { l with state := .exhausted })) ([{ target := .collected w.heap.size, args := #[] }] ++ a.defers) := by
        have hM1 : GoodMarks B φ1 H1 W ([{ target := .collected w.heap.size, args := #[] }] ++ a.defers) := by
          have hM0 := hM.ext hXW
          refine ⟨fun d hd' => ?_, List.pairwise_cons.2 ⟨fun d hd' r' h1 h2 => ?_, hM0.2⟩⟩
          · rcases List.mem_cons.1 hd' with rfl | hd'
            · refine ⟨w.heap.size, rfl, ?_, fun ho => ?_, Nat.le_trans hB hX.size⟩
              · rw [← hW]
                show (((w.heap.push _).push _))[w.heap.size]? = _
                simp [Array.getElem?_push]
              · rcases hX2.own _ ho with ⟨i, b, hb1, hb2, hb3⟩ | hlt
                · have := hR.lt i b hb1 hb2; omega
                · rw [hs1] at hlt; omega
            · exact hM0.1 d hd'
          · obtain ⟨r2, hr2, hh, _, _⟩ := hM.1 d hd'
            have hlt : r2 < w.heap.size := (Array.getElem?_eq_some_iff.1 hh).1
            rw [hr2] at h2
            cases h1
            cases h2
            omega
        exact hM1.ext (hX3.trans hX4)
      refine ⟨r.pending, w'.putObj (w.heap.size + 1) (.loop { l with state := .exhausted }), by rw [← hlr.2.1]; exact run_endLoop hl hbusy, ?_⟩
      have hE4 : ERel φ' N e a.tmps := hE.mono (hXW.le.trans hX3.le)
      clear hX4 hset
      generalize G.set H.n (.loop { r with state := .exhausted }) = G5 at hpend hR4 hXall hM4
      cases hp : r.pending with
      | none =>
        rw [hp] at hpend
        exact ⟨φ', e, _, hR4, hE4, hXall, hM4, hpend⟩
      | some c =>
        rw [hp] at hpend
        exact hpend B φ0 H0 w0 φ' _ { a with defers := [{ target := .collected w.heap.size, args := #[] }] ++ a.defers } h0 hd hR4 hE4 hM4 hB hXall
/-- How a round ends. -/
def roundEnd (i : Nat) (K : AVal → AHeap → Prop) : Exit → Env → AHeap → Prop := fun x _ G =>
  ∃ r, G.f i = .loop r ∧ (match x with
    | .normal => K (.bool true) (G.set i (.loop { r with state := .ready, pending := none }))
    | .ret => K (.bool false) (G.set i (.loop { r with state := .done, pending := some .ret }))
    | .exit id => K (.bool false) (G.set i (.loop { r with state := .done, pending := some (.exit id) }))
    | .goto l => K (.bool false) (G.set i (.loop { r with state := .done, pending := some (.goto l) }))
    | _ => False)
/-- **A round.** -/
theorem RoundW.of {i : Nat} {args : List AVal} {H : AHeap} {K : AVal → AHeap → Prop} {r : ALoop} (hi : H.f i = .loop r) (hs : r.state = .ready) (hl : r.params.length = args.length) (hp : ∀ p ∈ r.params, p < r.ntmps)
    (h : ∀ ρ, CWF P r.ntmps ρ H.n r.assign (putPs r.env r.params args) H fun x e1 H1 => x = .normal ∧ ∃ r1, H1.f i = .loop r1 ∧ r1.state = .ready ∧
      CWF P r.ntmps ρ H.n r.body e1 (H1.set i (.loop { r1 with state := .busy })) (roundEnd i fun v H' => ∃ κ v' G, Emb H.n κ G H' ∧ v = ren κ v' ∧ K v' G)) : RoundW P i args H K := by
  intro φ w cargs b hR ha hb
  obtain ⟨l, hl0, hlr, _⟩ := rel_loop hR hb hi
  obtain ⟨h1, h2, h3, h4, h5, h6⟩ := hlr
  have hal := VRels_length ha
  rw [Array.length_toList] at hal
  have hsz : cargs.size = l.params.size := by rw [hal, ← hl, ← h4, Array.length_toList]
  refine ⟨l.fn, _, l.assign, l.body, run_yield hl0 hsz, roundIn_of_wpIn trivial ?_⟩
  rw [h5, h6]
  have hE : ERel φ r.ntmps (putPs r.env r.params args) ((l.params.zip cargs).foldl (fun tmps (t, a) => tmps.setIfInBounds t a) l.tmps) := by
    have := putPs_rel r.params args cargs.toList r.env l.tmps h3 hp ha
    rw [← h4] at this ⊢
    exact (zip_foldl l.params cargs l.tmps) ▸ this
  refine wpIn_mono (h (some b.blk) w.heap.size φ H w φ w { tmps := (l.params.zip cargs).foldl (fun tmps (t, a) => tmps.setIfInBounds t a) l.tmps, defers := [] } rfl (fun i hi => hR.dom i hi) hR hE (GoodMarks.nil _ _ _ _) (Nat.le_refl _) (Ext.refl _ _ _)) fun x a1 w1 hx => ?_
  obtain ⟨φ1, e1, H1, g1, g2, g3, g4, rfl, r1, hr1, hs1, hbody⟩ := hx
  obtain ⟨l1, hl1, hlr1, hset1⟩ := rel_loop g1 (g3.le _ _ hb) hr1
  obtain ⟨k1, k2⟩ := hset1 { l1 with state := .busy } { r1 with state := .busy } ⟨rfl, hlr1.2.1, hlr1.2.2.1, hlr1.2.2.2.1, hlr1.2.2.2.2.1, hlr1.2.2.2.2.2⟩
  refine ⟨_, run_beginRound hl1 (by rw [hlr1.1, hs1]), ?_⟩
  refine wpIn_mono (hbody w.heap.size φ H w φ1 _ a1 rfl (fun i hi => hR.dom i hi) k1 g2 (g4.ext k2) (Nat.le_refl _) (g3.trans k2)) fun x a2 w2 hx => ?_
  obtain ⟨φ2, e2, H2, m1, m2, m3, m4, r2, hr2, hK⟩ := hx
  obtain ⟨l2, hl2, hlr2, hset2⟩ := rel_loop m1 (m3.le _ _ hb) hr2
  have fin : ∀ (jump : Option Code) (bv : Bool), bv = jump.isNone → (∃ κ v' G, Emb H.n κ G (H2.set i (.loop { r2 with state := if jump.isNone then .ready else .done, pending := jump })) ∧ AVal.bool bv = ren κ v' ∧ K v' G) →
      ∃ v w', (Instr.endRound b.blk jump).run P w2 = .ok v w' ∧ CallPost φ H w K (.returned v) w' := by
    rintro jump bv rfl ⟨κ, v', G, hEmb, hv, hK⟩
    obtain ⟨n1, n2⟩ := hset2 { l2 with state := if jump.isNone then .ready else .done, pending := jump } { r2 with state := if jump.isNone then .ready else .done, pending := jump } ⟨rfl, rfl, hlr2.2.2.1, hlr2.2.2.2.1, hlr2.2.2.2.2.1, hlr2.2.2.2.2.2⟩
    refine ⟨_, _, run_endRound jump hl2, _, v', _, G, rfl, (VRel_ren _ _).1 (by rw [← hv]; rfl), n1.sub hEmb, (m3.trans n2).sub n1 rfl (fun i hi => hR.dom i hi) hEmb, hK⟩
  cases x with
  | normal => exact fin none true rfl hK
  | ret => exact fin (some .ret) false rfl hK
  | exit id => exact fin (some (.exit id)) false rfl hK
  | goto t => exact fin (some (.goto t)) false rfl hK
  | panic ch => exact hK.elim
  | outgrown => exact hK.elim
/-! ### Over symbols -/
def assignEnd (P : Program) (i n0 : Nat) (body : Code) (Nt : Nat) (ρ : Option Nat) (K : AVal → AHeap → Prop) : Exit → Env → AHeap → Prop := fun x e1 H1 => match x with
  | .normal => ∃ r1, H1.f i = .loop r1 ∧ r1.state = .ready ∧ sc P Nt ρ n0 body e1 (H1.set i (.loop { r1 with state := .busy })) (roundEnd i K)
  | _ => False
/-- A call of yield; what it leaves is told by numbers of one's own choice. -/
theorem CallS.roundR {i : Nat} {args : List AVal} {H : AHeap} {K : AVal → AHeap → Prop} {r : ALoop} (hi : H.f i = .loop r) (hs : r.state = .ready) (hok : (decide (r.params.length = args.length) && r.params.all (fun p => Nat.blt p r.ntmps) && okCode r.ntmps r.assign && okCode r.ntmps r.body) = true)
    (h : ∀ ρ, sc P r.ntmps ρ H.n r.assign (putPs r.env r.params args) H (assignEnd P i H.n r.body r.ntmps ρ fun v H' => ∃ κ v' G, Emb H.n κ G H' ∧ v = ren κ v' ∧ K v' G)) : CallS P (.yield i) args H K := by
  simp only [Bool.and_eq_true, decide_eq_true_eq] at hok
  obtain ⟨⟨⟨a1, a2⟩, a3⟩, a4⟩ := hok
  refine ⟨RoundW.of hi hs a1 (fun p hp => Nat.le_of_ble_eq_true (List.all_eq_true.1 a2 p hp)) fun ρ => (sc_sound _ _ _ _ a3 (h ρ)).mono ?_⟩
  intro x e1 H1 hx
  cases x with
  | normal =>
    obtain ⟨r1, b1, b2, b3⟩ := hx
    exact ⟨rfl, r1, b1, b2, sc_sound _ _ _ _ a4 b3⟩
  | _ => exact hx.elim
/-- A call of yield. -/
theorem CallS.round {i : Nat} {args : List AVal} {H : AHeap} {K : AVal → AHeap → Prop} {r : ALoop} (hi : H.f i = .loop r) (hs : r.state = .ready) (hok : (decide (r.params.length = args.length) && r.params.all (fun p => Nat.blt p r.ntmps) && okCode r.ntmps r.assign && okCode r.ntmps r.body) = true)
    (h : ∀ ρ, sc P r.ntmps ρ H.n r.assign (putPs r.env r.params args) H (assignEnd P i H.n r.body r.ntmps ρ fun v H' => H.n ≤ H'.n ∧ K v H')) : CallS P (.yield i) args H K := by
  simp only [Bool.and_eq_true, decide_eq_true_eq] at hok
  obtain ⟨⟨⟨a1, a2⟩, a3⟩, a4⟩ := hok
  refine ⟨RoundW.of hi hs a1 (fun p hp => Nat.le_of_ble_eq_true (List.all_eq_true.1 a2 p hp)) fun ρ => (sc_sound _ _ _ _ a3 (h ρ)).mono ?_⟩
  intro x e1 H1 hx
  cases x with
  | normal =>
    obtain ⟨r1, b1, b2, b3⟩ := hx
    refine ⟨rfl, r1, b1, b2, (sc_sound _ _ _ _ a4 b3).mono ?_⟩
    rintro x e2 H2 ⟨r2, c1, c2⟩
    refine ⟨r2, c1, ?_⟩
    cases x with
    | panic _ => exact c2.elim
    | outgrown => exact c2.elim
    | _ => exact ⟨fun i => i, _, _, Emb.id c2.1, (ren_id _).symm, c2.2⟩
  | _ => exact hx.elim
def loopEndS (P : Program) (N : Nat) (n0 i : Nat) (e : Env) (K : Exit → Env → AHeap → Prop) (G : AHeap) : Prop :=
  ∃ r, G.f i = .loop r ∧ (match r.state with | .busy => False | _ => True) ∧ (match r.pending with
    | none => K .normal e (G.set i (.loop { r with state := .exhausted }))
    | some c => okCode N c = true ∧ sc P N none n0 c e (G.set i (.loop { r with state := .exhausted })) K)
/-- The statement. -/
theorem CodeS.range (el : List (Nat × AVal)) {g : Operand} {ps : Array Tmp} {assign body : Code} {e : Env} {H : AHeap} {K : Exit → Env → AHeap → Prop} {f : FuncId} {as bs l : List AVal} {K' : AVal → AHeap → Prop} (hg : evalA e g = .func f as bs) (hb : hasBody P f = true) (hw : keepsR (fun i => i) el e)
    (h : CallW P f l (H.alloc (.loop ⟨envOf el, N, ps.toList, assign, body, none, .ready⟩)) K') (hl : as ++ [.yield H.n] ++ bs = l) (hk : ∀ v G, K' v G → loopEndS P N n0 H.n e K G) : CodeS P N none n0 (.rangeFunc g ps assign body) e H K := by
  refine ⟨CWF.range (e' := envOf el) hg hb (fun t => (keepsR_spec _ hw t).imp (fun h => by rw [h, ren_id]) id) (hl ▸ h.mono fun v G hv => ?_)⟩
  obtain ⟨r, h1, h2, h3⟩ := hk v G hv
  refine ⟨r, h1, h2, ?_⟩
  split at h3
  · rename_i hp; rw [hp]; rw [hp] at h3; exact h3
  · rename_i c hp; rw [hp]; rw [hp] at h3; exact sc_sound _ _ _ _ h3.1 h3.2
/-! ### Rows that have been cut -/
/-- A row without its last elements. -/
theorem Gets.sliceHi {H : AHeap} {t e : TypeId} {ti : TI} {i n k : Nat} {cs : List AVal} {A : AVal → Prop} (hu : P.underlying t = some (.slice e)) (ht : sliceT P t = some ti) (hsz : ti.size = 1) (hf : H.f i = .cells 1 cs) (hk : k ≤ n) (hA : A (.slice i 0 k)) : Gets (asliceV P H t (.slice i 0 n) none (some (.int .i64 k))) A := by
  refine ⟨⟨_, ?_, hA⟩⟩
  simp only [asliceV, aslice, hu, ht, boundA, hf]
  rw [if_pos ⟨by omega, by omega, by omega, hsz.symm⟩]
  congr 2
/-- One more number behind a row that is a part of its block. -/
theorem Gets.appendP {H : AHeap} {t tx : TypeId} {ti : TI} {d : TypeDesc} {i j m : Nat} {k : IntKind} {l junk : List Int} {x : Int} {A : AVal × AHeap → Prop} (ht : sliceT P t = some ti) (hd : P.underlying tx = some d) (hr : rowD d = true) (hsz : ti.size = 1) (hz : ti.zero.length = 1) (hb : ti.bytes ≤ 4096)
    (hm : l.length = m) (hx : H.f j = .cells 1 [.int k x]) (hf : H.f i = .cells 1 (nums k (l ++ junk))) (hl : m < 4294967296)
    (hA : A (.slice H.n 0 (m + 1), (H.set i .dead).alloc (.cells 1 (nums k (l ++ [x]))))) : Gets (builtA P H .append [t, tx] [.slice i 0 m, .slice j 0 1]) A := by
  subst hm
  refine ⟨⟨_, ?_, hA⟩⟩
  simp only [builtA, apureB, amemB, app2 hd hr, aappend, ht, hd]
  rw [if_pos ⟨hr, hb, by rw [hz, hsz]⟩]
  simp only [srcA, hx, hf, hsz, List.length_cons, List.length_nil, List.drop_zero, nums_length, Nat.zero_add, Nat.mul_one, Nat.le_refl, and_self, if_true, List.take_succ_cons, List.take_zero]
  rw [if_pos ⟨trivial, by simp, by omega, rfl⟩]
  congr 4
  have h1 : (nums k (l ++ junk)).take l.length = nums k l := by
    rw [← nums_append, List.take_append_of_le_length (by rw [nums_length]; exact Nat.le_refl _), List.take_of_length_le (by rw [nums_length]; exact Nat.le_refl _)]
  rw [h1, show [AVal.int k x] = nums k [x] from rfl, ← nums_append]
/-! ### Slices that may be nil -/
/-- A heap with a block of which nothing is known: a slice that may be nil can be told as one that lies there. -/
def ghostH : AHeap := emptyH.alloc (.ro 5 [])
def pmG (z : ZMap) : PMap := ⟨fun i => if i = 0 then some ⟨0, 0, 5, 0⟩ else none, z⟩
theorem rel_ghost {φ : PMap} {H : AHeap} {w : World} (hR : Rel φ H w) : Rel (pmG φ.z) ghostH w := by
  refine ⟨fun i hi => ?_, fun i hi => ?_, fun i b h => ?_, fun i j b c h1 h2 hne hrw _ => ?_, fun i b h hrw => ?_, fun k o hz => ⟨(hR.fz k o hz).1, fun i b h hrw => ?_, (hR.fz k o hz).2.2⟩⟩
  · have hi : 1 ≤ i := hi
    exact if_neg (by omega)
  · have hi : i < 1 := hi
    exact ⟨_, if_pos (by omega)⟩
  · by_cases h0 : i = 0
    · subst h0
      simp only [pmG, if_true, Option.some.injEq] at h
      subst h
      exact ⟨rfl, fun j v hv => by simp at hv⟩
    · simp only [pmG] at h; rw [if_neg h0] at h; cases h
  · by_cases h0 : i = 0
    · subst h0; exact hrw.elim
    · simp only [pmG] at h1; rw [if_neg h0] at h1; cases h1
  · by_cases h0 : i = 0
    · subst h0; exact hrw.elim
    · simp only [pmG] at h; rw [if_neg h0] at h; cases h
  · by_cases h0 : i = 0
    · subst h0; exact hrw.elim
    · simp only [pmG] at h; rw [if_neg h0] at h; cases h
theorem CallW.ghost {f : FuncId} {args : List AVal} {K : AVal → Prop} (h : CallW P f args ghostH fun v _ => K v) (ha : noRefs args = true) (hk : ∀ v, K v → noRef v = true) (H : AHeap) : CallW P f args H fun v H' => H' = H ∧ K v := by
  intro φ w cargs hR hargs
  refine (h _ w cargs (rel_ghost hR) (VRels_noRef (φ := φ) (ψ := pmG φ.z) (fun _ _ h => h) _ _ ha hargs)).mono ?_
  rintro e w' ⟨cv, v, φ', H', rfl, h1, h2, h3, h4⟩
  have hno : ∀ k, ¬ Own (pmG φ.z) ghostH k := by
    rintro k ⟨i, b, hi, hrw, _⟩
    by_cases h0 : i = 0
    · subst h0; exact hrw.elim
    · simp only [pmG] at hi; rw [if_neg h0] at hi; cases hi
  obtain ⟨hR', hX⟩ := keepRel hR h2 h3 rfl hno
  exact ⟨cv, v, ⟨φ.m, φ'.z⟩, H, rfl, VRel_noRef (φ := φ') (ψ := ⟨φ.m, φ'.z⟩) (fun _ _ h => h) v cv (hk v h4) h1, hR', hX, rfl, h4⟩
theorem VRel_sv {φ : PMap} {i o n : Nat} {c : Value} (h : VRel φ (.slice i o n) c) : VRel φ (.view i o n) c := by
  obtain ⟨b, cap, ad, h1, h2, h3, h4⟩ := h
  exact ⟨b, h1, .inr ⟨cap, ad, h2, h3, h4⟩⟩
theorem VRel_nv {φ : PMap} {i : Nat} {b : BI} (hb : φ i = some b) {c : Value} (h : VRel φ .nilSlice c) : VRel φ (.view i 0 0) c := ⟨b, hb, .inl ⟨rfl, h⟩⟩
/-- What a result may be said to be. -/
theorem CallW.rviews {f : FuncId} {args : List AVal} {H : AHeap} {K K' : AVal → AHeap → Prop} (h : CallW P f args H K) (hv : ∀ v G, K v G → ∃ v', K' v' G ∧ ∀ (φ : PMap) (w : World) (c : Value), Rel φ G w → VRel φ v c → VRel φ v' c) : CallW P f args H K' := by
  intro φ w cargs hR ha
  refine (h φ w cargs hR ha).mono ?_
  rintro e w' ⟨cv, v, φ', H', rfl, h1, h2, h3, h4⟩
  obtain ⟨v', hk, hvv⟩ := hv v H' h4
  exact ⟨cv, v', φ', H', rfl, hvv φ' w' cv h2 h1, h2, h3, hk⟩
theorem ren_zero (κ : Nat → Nat) (es : Nat) (l : List Int) : renB κ (rowBlk es (some l)) = rowBlk es (some l) := by
  cases l with
  | nil => rfl
  | cons x l => show renB κ (.cells es (ints (x :: l))) = _; rw [renB, rens_ints]; rfl
/-- An argument of which there are two kinds. -/
theorem CallW.viewsOr {f : FuncId} {args args1 args2 : List AVal} {H : AHeap} {K : AVal → AHeap → Prop} {p : Prop} (h1 : CallW P f args1 H K) (h2 : p → CallW P f args2 H K) (hv : ∀ (φ : PMap) (w : World) (cs : List Value), Rel φ H w → VRels φ args cs → VRels φ args1 cs ∨ (p ∧ VRels φ args2 cs)) : CallW P f args H K := by
  intro φ w cargs hR ha
  rcases hv φ w _ hR ha with h | ⟨hp, h⟩
  · exact h1 φ w cargs hR h
  · exact h2 hp φ w cargs hR h
end Go.Vh
