import Derived.Test.YtaccmanpanpbiaaVhK
import Derived.TacticsIn
/- Code over environments and heaps: what is to be shown of a piece of code, and that it then holds of the model. -/
set_option linter.unusedVariables false
set_option linter.unusedSimpArgs false
namespace Go.Vh
variable {P : Program}

def fence (ρ : Option Nat) : Fence := { Fence.wide with round := ρ }
theorem fence_fn (ρ : Option Nat) (f : FuncId) : (fence ρ).fn f := trivial
theorem fence_none : fence none = Fence.wide := rfl
theorem fence_depth {ρ : Option Nat} {n : Nat} : (fence ρ).depth.isSome = true → 1 ≤ n := by intro h; simp [fence, Fence.wide] at h

def CallPost (φ : PMap) (H : AHeap) (w : World) (K : AVal → AHeap → Prop) : Ending → World → Prop := fun en w' =>
  ∃ cv v φ' H', en = .returned cv ∧ VRel φ' v cv ∧ Rel φ' H' w' ∧ Ext φ H w φ' H' w' ∧ K v H'
/-- A call comes to a value and a heap of which K holds. -/
def CallW (P : Program) (f : FuncId) (args : List AVal) (H : AHeap) (K : AVal → AHeap → Prop) : Prop :=
  ∀ φ w (cargs : Array Value), Rel φ H w → VRels φ args cargs.toList → Calls P f cargs w (CallPost φ H w K)
theorem CallW.mono {f : FuncId} {args : List AVal} {H : AHeap} {K K' : AVal → AHeap → Prop} (h : CallW P f args H K) (hk : ∀ v H', K v H' → K' v H') : CallW P f args H K' :=
  fun φ w cargs hR ha => (h φ w cargs hR ha).mono fun e w' ⟨cv, v, φ', H', he, h1, h2, h3, h4⟩ => ⟨cv, v, φ', H', he, h1, h2, h3, hk _ _ h4⟩
/-- A round of a loop over a function, called by its yield. -/
def RoundW (P : Program) (i : Nat) (args : List AVal) (H : AHeap) (K : AVal → AHeap → Prop) : Prop :=
  ∀ φ w (cargs : Array Value) b, Rel φ H w → VRels φ args cargs.toList → φ i = some b →
    ∃ f tmps assign body, (Instr.yield b.blk cargs).run P w = .ok (.round b.blk f tmps assign body) w ∧ RoundIn Fence.wide 0 P b.blk f tmps assign body w (CallPost φ H w K)

def hasBody (P : Program) (f : FuncId) : Bool :=
  match P.funcs[f]? with
  | some fn => fn.body.isSome && fn.name != "runtime.NumGoroutine"
  | none => false
def wcall (P : Program) (fv : AVal) (args : List AVal) (H : AHeap) (K : AVal → AHeap → Prop) : Prop :=
  match fv with
  | .func f as bs => hasBody P f = true ∧ CallW P f (as ++ args ++ bs) H K
  | .yield i => RoundW P i args H K
  | _ => False
def put? (e : Env) (d : Option Tmp) (v : AVal) : Env :=
  match d with
  | some d => upd e d v
  | none => e
def gslot (ops : Array Oper) (j : Nat) : Option Tmp := (ops[j]?).bind (·.dst)
def wgo (P : Program) (o : Op) (e : Env) (H : AHeap) (K : AVal → AHeap → Prop) : Prop :=
  match o with
  | .call ⟨.value f, args, _⟩ => wcall P (evalA e f) (args.toList.map (evalA e)) H K
  | op => match astep P op e H with
    | some (v, H') => K v H'
    | none => False
def wop (P : Program) (ops : Array Oper) (o : Oper) (e : Env) (H : AHeap) (K : Env → AHeap → Prop) : Prop :=
  match o.guard with
  | none => wgo P o.op e H fun v H' => K (put? e o.dst v) H'
  | some (j, want) => match gslot ops j with
    | some t => match e t with
      | .bool b => if b = want then wgo P o.op e H (fun v H' => K (put? e o.dst v) H') else K (put? e o.dst (.tuple [])) H
      | .tuple _ => K (put? e o.dst (.tuple [])) H
      | _ => False
    | none => False
def wops (P : Program) (ops : Array Oper) : List Oper → Env → AHeap → (Env → AHeap → Prop) → Prop
  | [], e, H, K => K e H
  | o :: os, e, H, K => wop P ops o e H fun e H => wops P ops os e H K

def okOper (N : Nat) (o : Oper) : Bool :=
  (match o.dst with | some d => decide (d < N) | none => true) && (match o.op with | .defer _ | .select _ _ => false | _ => true)
def okOps (N : Nat) (ops : Array Oper) : Bool := ops.toList.all (okOper N)

/-- Marks of loops over functions that the activation's end takes away. -/
def GoodMarks (B : Nat) (φ : PMap) (H : AHeap) (w : World) (l : List Deferred) : Prop :=
  (∀ d ∈ l, ∃ r, d = { target := .collected r, args := #[] } ∧ w.heap[r]? = some (.deferred (some [])) ∧ ¬ Own φ H r ∧ B ≤ r) ∧ l.Pairwise fun d d' => ∀ r, d.target = .collected r → d'.target ≠ .collected r
theorem GoodMarks.nil (B : Nat) (φ : PMap) (H : AHeap) (w : World) : GoodMarks B φ H w [] := ⟨(fun _ h => nomatch h), List.Pairwise.nil⟩
theorem GoodMarks.ext {B : Nat} {φ φ' : PMap} {H H' : AHeap} {w w' : World} {l : List Deferred} (h : GoodMarks B φ H w l) (hx : Ext φ H w φ' H' w') : GoodMarks B φ' H' w' l := by
  refine ⟨fun d hd => ?_, h.2⟩
  obtain ⟨r, hr, hh, hn, hB⟩ := h.1 d hd
  have hlt : r < w.heap.size := (Array.getElem?_eq_some_iff.1 hh).1
  refine ⟨r, hr, (hx.keep r hlt hn).trans hh, fun ho => ?_, hB⟩
  rcases hx.own r ho with h1 | h1
  · exact hn h1
  · omega

def XPost (N B : Nat) (φ0 : PMap) (H0 : AHeap) (w0 : World) (K : Exit → Env → AHeap → Prop) : Exit → Act → World → Prop := fun x a w =>
  ∃ φ e H, Rel φ H w ∧ ERel φ N e a.tmps ∧ Ext φ0 H0 w0 φ H w ∧ GoodMarks B φ H w a.defers ∧ K x e H
theorem XPost.trans {N B : Nat} {φ0 φ : PMap} {H0 H : AHeap} {w0 w : World} {K : Exit → Env → AHeap → Prop} {x : Exit} {a : Act} {w' : World} (hx : Ext φ0 H0 w0 φ H w) (h : XPost N B φ H w K x a w') : XPost N B φ0 H0 w0 K x a w' := by
  obtain ⟨φ', e, H', h1, h2, h3, h4, h5⟩ := h
  exact ⟨φ', e, H', h1, h2, hx.trans h3, h4, h5⟩
def CW (P : Program) (N : Nat) (ρ : Option Nat) (c : Code) (e : Env) (H : AHeap) (K : Exit → Env → AHeap → Prop) : Prop :=
  ∀ B φ w (a : Act), Rel φ H w → ERel φ N e a.tmps → GoodMarks B φ H w a.defers → B ≤ w.heap.size → c.wpIn (fence ρ) 0 P (XPost N B φ H w K) a w

theorem put_ERel {φ : PMap} {N : Nat} {e : Env} {a : Act} (h : ERel φ N e a.tmps) {o : Oper} (hok : okOper N o = true) {v : AVal} {c : Value} (hv : VRel φ v c) : ERel φ N (put? e o.dst v) (a.put o.dst c).tmps := by
  cases hd : o.dst with
  | none => simpa [put?, Act.put, hd] using h
  | some d =>
    simp only [okOper, hd, Bool.and_eq_true, decide_eq_true_eq] at hok
    simpa [put?, Act.put, hd] using h.put hok.1 hv
theorem put_defers (a : Act) (d : Option Tmp) (v : Value) : (a.put d v).defers = a.defers := by cases d <;> rfl
theorem semAt_ok {N : Nat} {o : Oper} (hok : okOper N o = true) (ρ : Option Nat) (ev : Operand → Value) : o.semAt ρ ev = execOp ev o := by
  cases ρ with
  | none => rfl
  | some l => exact Oper.semAt_some l ev o fun c hc => by simp [okOper, hc] at hok
theorem yielded_rel {φ : PMap} {N : Nat} {e : Env} {a : Act} (h : ERel φ N e a.tmps) {ops : Array Oper} {j : Nat} {t : Tmp} (ht : gslot ops j = some t) {b : Bool} (hb : e t = .bool b) : yielded ops a.tmps j = some b := by
  have hr := h.get t
  rw [hb] at hr
  have hr' : a.tmps.getD t Go.undef = .bool b := hr
  unfold yielded
  unfold gslot at ht
  rw [ht]
  simp only [Option.bind_some]
  cases hx : a.tmps[t]? with
  | none =>
    rw [Array.getD_eq_getD_getElem?, hx] at hr'
    simp [Go.undef] at hr'
  | some c =>
    rw [Array.getD_eq_getD_getElem?, hx] at hr'
    simp only [Option.getD_some] at hr'
    rw [hr']
theorem yielded_skip {φ : PMap} {N : Nat} {e : Env} {a : Act} (h : ERel φ N e a.tmps) {ops : Array Oper} {j : Nat} {t : Tmp} (ht : gslot ops j = some t) {l : List AVal} (hb : e t = .tuple l) : yielded ops a.tmps j = none := by
  have hr := h.get t
  rw [hb] at hr
  obtain ⟨cs, hr', _⟩ := hr
  unfold yielded
  unfold gslot at ht
  rw [ht]
  simp only [Option.bind_some]
  cases hx : a.tmps[t]? with
  | none => rfl
  | some c =>
    rw [Array.getD_eq_getD_getElem?, hx] at hr'
    simp only [Option.getD_some] at hr'
    rw [hr']
theorem skip_rel (φ : PMap) : VRel φ (.tuple []) Go.undef := ⟨[], rfl, rfl⟩
/-- What an operation asks for is what the model's operation is. -/
theorem wgo_sound {N : Nat} {ρ : Option Nat} {ops : Array Oper} {o : Oper} (hok : okOper N o = true) {e : Env} {H : AHeap} {K : AVal → AHeap → Prop} (h : wgo P o.op e H K) {φ : PMap} {w : World} {a : Act} (hR : Rel φ H w) (hE : ERel φ N e a.tmps)
    {next : Act → World → Prop} {Q : Exit → Act → World → Prop} (hn : ∀ v c φ' H' w', VRel φ' v c → Rel φ' H' w' → Ext φ H w φ' H' w' → K v H' → next (a.put o.dst c) w') :
    o.wpIn (fence ρ) 0 P a w next Q := by
  refine ⟨fun f _ => trivial, ?_⟩
  rw [semAt_ok hok]
  unfold wgo at h
  split at h
  · rename_i f args ts ho
    have hf := evalA_rel hE f
    have hargs : VRels φ (args.toList.map (evalA e)) (args.map a.eval).toList := by rw [Array.toList_map]; exact evals_rel hE _
    unfold wcall at h
    split at h
    · rename_i g as bs hg
      rw [hg] at hf
      obtain ⟨cs, ds, hc, hcs, hds⟩ := hf
      obtain ⟨hb, hcall⟩ := h
      unfold hasBody at hb
      cases hfn : P.funcs[g]? with
      | none => simp [hfn] at hb
      | some fn =>
        simp only [hfn, Bool.and_eq_true, bne_iff_ne, ne_eq] at hb
        have hrun : (execOp a.eval o).run P w = .ok (.enter g (cs.toArray ++ args.map a.eval ++ ds.toArray)) w := by
          have hbn : fn.body.isNone = false := by cases hx : fn.body <;> simp_all
          simp only [execOp, ho, resolve, hc, Deferred.ofValue, Sem.run_bind, Sem.run_pure, Result.andThen, invoke, callFunc, run_program, hfn]
          rw [if_neg (by simpa using hb.2)]
          simp [hbn]
        rw [hrun, Oper.uponIn_enter]
        refine ⟨fence_depth, ?_⟩
        have hC := hcall φ w (cs.toArray ++ args.map a.eval ++ ds.toArray) hR (by simpa using VRels_append (VRels_append hcs hargs) hds)
        have hC' := (callsIn_wide (n := 0 - 1)).2 hC
        have : CallsIn (fence ρ) (0 - 1) P g (cs.toArray ++ args.map a.eval ++ ds.toArray) w (CallPost φ H w K) := hC'
        refine ⟨this.1, fun cs' hr => ?_⟩
        obtain ⟨en, w', fr, hq, rest⟩ := this.2 cs' hr
        obtain ⟨cv, v, φ', H', rfl, h1, h2, h3, h4⟩ := hq
        exact ⟨.returned cv, w', fr, hn v cv φ' H' w' h1 h2 h3 h4, rest⟩
    · rename_i i hi
      rw [hi] at hf
      obtain ⟨b, hb, hc⟩ := hf
      obtain ⟨f', tmps, assign, body, hy, hround⟩ := h φ w (args.map a.eval) b hR hargs hb
      have hrun : (execOp a.eval o).run P w = .ok (.round b.blk f' tmps assign body) w := by
        simp only [execOp, ho, resolve, hc, Deferred.ofValue, Sem.run_bind, Sem.run_pure, Result.andThen, invoke]
        simpa using hy
      rw [hrun, Oper.uponIn_round]
      refine ⟨fence_depth, ?_⟩
      have : RoundIn (fence ρ) (0 - 1) P b.blk f' tmps assign body w (CallPost φ H w K) := hround
      refine ⟨this.1, fun c cs' hr => ?_⟩
      obtain ⟨en, w', hq, rest⟩ := this.2 c cs' hr
      obtain ⟨cv, v, φ', H', rfl, h1, h2, h3, h4⟩ := hq
      exact ⟨.returned cv, w', hn v cv φ' H' w' h1 h2 h3 h4, rest⟩
    · exact h.elim
  · split at h
    · rename_i v H' hst
      obtain ⟨r, c, w', φ', hrun, hr, hv, hR', hX⟩ := astep_run hR hE hst
      rw [hrun]
      have := hn v c φ' H' w' hv hR' hX h
      rcases hr with rfl | ⟨rfl, rfl⟩
      · exact this
      · exact this
    · exact h.elim
theorem wops_sound {N B : Nat} {ρ : Option Nat} {ops : Array Oper} (hok : okOps N ops = true) {K : Env → AHeap → Prop} {φ0 : PMap} {H0 : AHeap} {w0 : World} : ∀ (l : List Nat) (e : Env) (H : AHeap) (φ : PMap) (w : World) (a : Act), wops P ops (l.filterMap (ops[·]?)) e H K → Rel φ H w → ERel φ N e a.tmps → GoodMarks B φ H w a.defers → Ext φ0 H0 w0 φ H w →
    wpOpsIn (fence ρ) 0 P ops (XPost N B φ0 H0 w0 fun x e H => x = .normal ∧ K e H) l a w := by
  intro l
  induction l with
  | nil => intro e H φ w a h hR hE hM hX; exact ⟨φ, e, H, hR, hE, hX, hM, rfl, h⟩
  | cons i l ih =>
    intro e H φ w a h hR hE hM hX
    simp only [wpOpsIn]
    cases ho : ops[i]? with
    | none =>
      rw [List.filterMap_cons_none (by exact ho)] at h
      exact ih e H φ w a h hR hE hM hX
    | some o =>
      rw [List.filterMap_cons_some (by exact ho)] at h
      dsimp only
      have hoo : okOper N o = true := by
        have := List.all_eq_true.1 hok o (by simpa using Array.mem_of_getElem? ho)
        exact this
      simp only [wops, wop] at h
      have go : wgo P o.op e H (fun v H' => wops P ops (l.filterMap (ops[·]?)) (put? e o.dst v) H' K) → o.wpIn (fence ρ) 0 P a w (wpOpsIn (fence ρ) 0 P ops (XPost N B φ0 H0 w0 fun x e H => x = .normal ∧ K e H) l) (XPost N B φ0 H0 w0 fun x e H => x = .normal ∧ K e H) := fun hg =>
        wgo_sound (ops := ops) hoo hg hR hE fun v c φ' H' w' hv hR' hX' hk => ih _ H' φ' w' _ hk hR' (put_ERel (hE.mono hX'.le) hoo hv) (by rw [put_defers]; exact hM.ext hX') (hX.trans hX')
      cases hgd : o.guard with
      | none =>
        simp only [hgd] at h
        rw [if_pos (by simp [Region.wanted, hgd])]
        exact go h
      | some g =>
        obtain ⟨j, want⟩ := g
        simp only [hgd] at h
        split at h
        · rename_i t ht
          split at h
          · rename_i b hb
            have hy := yielded_rel hE ht hb
            have hwant : Region.wanted o (yielded ops a.tmps) = (b == want) := by simp only [Region.wanted, hgd, hy]; cases b <;> cases want <;> rfl
            split at h
            · rename_i hbw
              rw [if_pos (by rw [hwant]; simpa using hbw)]
              exact go h
            · rename_i hbw
              rw [if_neg (by rw [hwant]; simpa using hbw)]
              exact ⟨fun f _ => trivial, ih _ H φ w _ h hR (put_ERel hE hoo (skip_rel φ)) (by rw [put_defers]; exact hM) hX⟩
          · rename_i l hb
            have hwant : Region.wanted o (yielded ops a.tmps) = false := by simp only [Region.wanted, hgd, yielded_skip hE ht hb]; rfl
            rw [if_neg (by rw [hwant]; simp)]
            exact ⟨fun f _ => trivial, ih _ H φ w _ h hR (put_ERel hE hoo (skip_rel φ)) (by rw [put_defers]; exact hM) hX⟩
          · exact h.elim
        · exact h.elim
end Go.Vh
