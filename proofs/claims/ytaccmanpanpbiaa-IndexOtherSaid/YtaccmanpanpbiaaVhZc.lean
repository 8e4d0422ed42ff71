import Derived.Test.YtaccmanpanpbiaaVhV
import Derived.Test.YtaccmanpanpbiaaVhZb
/- The executor, with scopes and ranges over functions. -/
set_option linter.unusedVariables false
set_option linter.unusedSimpArgs false
namespace Go.Vh
variable {P : Program} {N : Nat} {ρ : Option Nat}
theorem CWF.whole {c : Code} {e : Env} {H : AHeap} {K : Exit → Env → AHeap → Prop} (h : CWF P N ρ H.n c e H K) : CW P N ρ c e H K :=
  fun B φ w a hR hE hM hB => h B φ H w φ w a rfl (fun i hi => hR.dom i hi) hR hE hM hB (Ext.refl _ _ _)
def Caller.ok2 (P : Program) (call : Caller) : Prop := ∀ fv args H v H', call fv args H = some (v, H') → wcall P fv args H fun v1 H1 => v1 = v ∧ H1 = H'
def onlyF (call : Caller) : Caller := fun fv args H => match fv with
  | .func f as bs => call (.func f as bs) args H
  | _ => none
theorem onlyF_ok {call : Caller} (h : Caller.ok2 P call) : Caller.ok P (onlyF call) := by
  intro fv args H v H' hx
  unfold onlyF at hx
  split at hx
  · exact h _ _ _ _ _ hx
  · cases hx
theorem xgo_sound2 {call : Caller} (hc : Caller.ok2 P call) {o : Op} {e : Env} {H H' : AHeap} {v : AVal} (h : xgo P call o e H = some (v, H')) {K : AVal → AHeap → Prop} (hk : K v H') : wgo P o e H K := by
  unfold xgo at h
  unfold wgo
  split at h
  · have := hc _ _ _ _ _ h
    rename_i f args ts
    have := wgo_mono (P := P) (o := .call ⟨.value f, args, ts⟩) (e := e) (H := H) (K := fun v1 H1 => v1 = v ∧ H1 = H') (K' := K) this fun v1 H1 ⟨h1, h2⟩ => by subst h1; subst h2; exact hk
    exact this
  · rename_i hno
    split
    · exact (hno _ _ _ rfl).elim
    · rw [h]; exact hk
theorem xop_sound2 {call : Caller} (hc : Caller.ok2 P call) {ops : Array Oper} {o : Oper} {e e' : Env} {H H' : AHeap} (h : xop P call ops o e H = some (e', H')) {K : Env → AHeap → Prop} (hk : K e' H') : wop P ops o e H K := by
  rcases xop_spec h with ⟨hg, v, hx, rfl⟩ | ⟨hg, rfl, rfl⟩
  · exact wop_of_guard hg (by rw [if_pos rfl]; exact xgo_sound2 hc hx hk)
  · exact wop_of_guard hg (by simpa using hk)
theorem xops_sound2 {call : Caller} (hc : Caller.ok2 P call) {ops : Array Oper} : ∀ (l : List Oper) (e : Env) (H : AHeap) (e' : Env) (H' : AHeap), xops P call ops l e H = some (e', H') → ∀ {K : Env → AHeap → Prop}, K e' H' → wops P ops l e H K
  | [], e, H, e', H', h, K, hk => by
    simp only [xops, Option.some.injEq, Prod.mk.injEq] at h
    obtain ⟨rfl, rfl⟩ := h
    exact hk
  | o :: os, e, H, e', H', h, K, hk => by
    simp only [xops] at h
    split at h
    · rename_i e1 H1 h1
      exact xop_sound2 hc h1 (xops_sound2 hc os e1 H1 e' H' h hk)
    · cases h
/-- Jumps to labels. -/
def xscope (run : Code → Env → AHeap → Option (Exit × Env × AHeap)) (c : Code) : Nat → Exit × Env × AHeap → Option (Exit × Env × AHeap)
  | n, (x, e, H) => match x with
    | .goto l => match findLabel c l with
      | some rest => match n with
        | 0 => none
        | n + 1 => match run rest e H with
          | some r => xscope run c n r
          | none => none
      | none => some (.goto l, e, H)
    | x => some (x, e, H)
def xc2 (P : Program) (call : Caller) (N : Nat) (top : Bool) : Nat → Code → Env → AHeap → Option (Exit × Env × AHeap)
  | 0, _, _, _ => none
  | k + 1, c, e, H => match c with
    | .skip => some (.normal, e, H)
    | .label _ => some (.normal, e, H)
    | .seq a b => match xc2 P call N top k a e H with
      | some (x, e', H') => match x with
        | .normal => xc2 P call N top k b e' H'
        | x => some (x, e', H')
      | none => none
    | .cond c a b => match evalA e c with
      | .bool t => match t with
        | true => xc2 P call N top k a e H
        | false => xc2 P call N top k b e H
      | _ => none
    | .block id c => match xc2 P call N top k c e H with
      | some (x, e', H') => match x with
        | .exit i => if i = id then some (.normal, e', H') else some (.exit i, e', H')
        | x => some (x, e', H')
      | none => none
    | .region id ops draw => match draw with
      | true => (xdraw P (onlyF call) N ops e H).map fun r => (.normal, r.1, r.2)
      | false => if okOps N ops then (xops P call ops ops.toList e H).map fun r => (.normal, r.1, r.2) else none
    | .exit id => some (.exit id, e, H)
    | .goto id => some (.goto id, e, H)
    | .ret => some (.ret, e, H)
    | .loop c => xloop (fun e H => xc2 P call N top k c e H) N 100000 (memo N e) H.memo
    | .scope c => match xc2 P call N top k c e H with
      | some r => xscope (fun c e H => xc2 P call N top k c (memo N e) H.memo) c 100000 r
      | none => none
    | .rangeFunc g ps a b => match top with
      | true => match evalA e g with
        | .func f as bs => match call (.func f as bs) [.yield H.n] (H.alloc (.loop ⟨memo N e, N, ps.toList, a, b, none, .ready⟩)) with
          | some (_, G) => match G.f H.n with
            | .loop r => match r.state with
              | .busy => none
              | _ => match r.pending with
                | none => some (.normal, e, G.set H.n (.loop { r with state := .exhausted }))
                | some c => xc2 P call N top k c e (G.set H.n (.loop { r with state := .exhausted }))
            | _ => none
          | none => none
        | _ => none
      | false => none
    | .refuse _ => none
theorem Exit.scope_other {c : Code} {J : Nat → Nat → Env → AHeap → Prop} {m : Option Nat} {K : Exit → Env → AHeap → Prop} {x : Exit} {e : Env} {H : AHeap} (hx : ∀ l, x ≠ .goto l) (h : K x e H) : scopePost c J m K x e H := by
  cases x with
  | goto l => exact absurd rfl (hx l)
  | _ => exact h
theorem xc2_sound {call : Caller} (hc : Caller.ok2 P call) (hm : P.follows .mixedOrders = true) {top : Bool} (htop : top = true → ρ = none) : ∀ (k : Nat) (c : Code) (e : Env) (H : AHeap) (x : Exit) (e' : Env) (H' : AHeap), xc2 P call N top k c e H = some (x, e', H') → ∀ n0, CWF P N ρ n0 c e H (Same x e' H')
  | 0, c, e, H, x, e', H', h, n0 => by cases h
  | k + 1, c, e, H, x, e', H', h, n0 => by
    have ih := fun c e H x e' H' h => xc2_sound hc hm htop k c e H x e' H' h
    unfold xc2 at h
    cases c with
    | skip => cases h; exact CW.within (CW.skip ⟨rfl, rfl, rfl⟩)
    | label _ => cases h; exact CW.within (CW.label ⟨rfl, rfl, rfl⟩)
    | exit _ => cases h; exact CW.within (CW.exit ⟨rfl, rfl, rfl⟩)
    | goto _ => cases h; exact CW.within (CW.goto ⟨rfl, rfl, rfl⟩)
    | ret => cases h; exact CW.within (CW.ret ⟨rfl, rfl, rfl⟩)
    | seq a b =>
      dsimp only at h
      split at h
      · rename_i x1 e1 H1 h1
        refine CWF.seq ((ih a e H x1 e1 H1 h1 n0).mono ?_)
        rintro x2 e2 H2 ⟨rfl, rfl, rfl⟩
        cases x2 with
        | normal => exact ih b _ _ x e' H' h n0
        | _ => cases h; exact ⟨rfl, rfl, rfl⟩
      · cases h
    | cond g a b =>
      dsimp only at h
      split at h
      · rename_i t ht
        refine CWF.cond ht ?_
        cases t with
        | true => exact ih a e H x e' H' h n0
        | false => exact ih b e H x e' H' h n0
      · cases h
    | block id c =>
      dsimp only at h
      split at h
      · rename_i x1 e1 H1 h1
        refine CWF.block ((ih c e H x1 e1 H1 h1 n0).mono ?_)
        rintro x2 e2 H2 ⟨rfl, rfl, rfl⟩
        cases x2 with
        | exit i =>
          dsimp only at h ⊢
          split at h <;> rename_i hi <;> cases h
          · rw [if_pos hi]; exact ⟨rfl, rfl, rfl⟩
          · rw [if_neg hi]; exact ⟨rfl, rfl, rfl⟩
        | _ => cases h; exact ⟨rfl, rfl, rfl⟩
      · cases h
    | region id ops draw =>
      cases draw with
      | true =>
        dsimp only at h
        cases hx : xdraw P (onlyF call) N ops e H with
        | none => rw [hx] at h; cases h
        | some r =>
          rw [hx] at h
          cases h
          exact CW.within (xdraw_sound (onlyF_ok hc) hm hx)
      | false =>
        dsimp only at h
        split at h
        · rename_i hok
          cases hx : xops P call ops ops.toList e H with
          | none => rw [hx] at h; cases h
          | some r =>
            rw [hx] at h
            cases h
            exact CW.within (CW.region hok (xops_sound2 hc _ _ _ _ _ hx ⟨rfl, rfl, rfl⟩))
        · cases h
    | loop c =>
      dsimp only at h
      rw [memo_eq, AHeap.memo_eq] at h
      refine CWF.loop (fun m e1 H1 => xloop (fun e H => xc2 P call N top k c e H) N m e1 H1 = some (x, e', H')) h fun m e1 H1 hI => ?_
      cases m with
      | zero => cases hI
      | succ m =>
        simp only [xloop] at hI
        split at hI
        · rename_i x2 e2 H2 h2
          refine (ih c e1 H1 x2 e2 H2 h2 n0).mono ?_
          rintro x3 e3 H3 ⟨rfl, rfl, rfl⟩
          cases x3 with
          | normal =>
            dsimp only at hI
            rw [memo_eq, AHeap.memo_eq] at hI
            exact ⟨m, Nat.lt_succ_self m, hI⟩
          | _ => cases hI; exact ⟨rfl, rfl, rfl⟩
        · cases hI
    | scope c =>
      dsimp only at h
      split at h
      · rename_i r hr
        obtain ⟨x1, e1, H1⟩ := r
        have hrun : (fun c e H => xc2 P call N top k c (memo N e) H.memo) = fun c e H => xc2 P call N top k c e H := by
          funext c e H; rw [memo_eq, AHeap.memo_eq]
        rw [hrun] at h
        have post : ∀ (mo : Option Nat) n x1 e1 H1, (∀ q, mo = some q → n ≤ q) → xscope (fun c e H => xc2 P call N top k c e H) c n (x1, e1, H1) = some (x, e', H') →
            scopePost c (fun l m e H => ∃ rest r, findLabel c l = some rest ∧ xc2 P call N top k rest e H = some r ∧ xscope (fun c e H => xc2 P call N top k c e H) c m r = some (x, e', H')) mo (Same x e' H') x1 e1 H1 := by
          intro mo n x1 e1 H1 hq h
          unfold xscope at h
          cases x1 with
          | goto l =>
            dsimp only at h
            split at h
            · rename_i rest hl
              split at h
              · cases h
              · rename_i n
                split at h
                · rename_i r hr
                  exact .inl ⟨rest, n, hl, fun q hmq => by have := hq q hmq; omega, rest, r, hl, hr, h⟩
                · cases h
            · rename_i hl
              cases h
              exact .inr ⟨hl, rfl, rfl, rfl⟩
          | _ => cases h; exact ⟨rfl, rfl, rfl⟩
        refine CWF.scope (fun l m e H => ∃ rest r, findLabel c l = some rest ∧ xc2 P call N top k rest e H = some r ∧ xscope (fun c e H => xc2 P call N top k c e H) c m r = some (x, e', H')) ((ih c e H x1 e1 H1 hr n0).mono ?_) ?_
        · rintro x2 e2 H2 ⟨rfl, rfl, rfl⟩
          exact post none _ _ _ _ (fun q h => by cases h) h
        · rintro l m e2 H2 rest hl ⟨rest', ⟨x3, e3, H3⟩, hl', hrr, hs⟩
          rw [hl] at hl'
          cases hl'
          refine (ih rest e2 H2 x3 e3 H3 hrr n0).mono ?_
          rintro x4 e4 H4 ⟨rfl, rfl, rfl⟩
          exact post (some m) m _ _ _ (fun q h => by cases h; exact Nat.le_refl _) hs
      · cases h
    | rangeFunc g ps a b =>
      dsimp only at h
      cases top with
      | false => cases h
      | true =>
        obtain rfl := htop rfl
        dsimp only at h
        split at h
        · rename_i f as bs hg
          rw [memo_eq] at h
          split at h
          · rename_i v G hcall
            obtain ⟨hb, hW⟩ := hc _ _ _ _ _ hcall
            refine CWF.range (e' := e) hg hb (fun t => .inl rfl) (hW.mono ?_)
            rintro v1 H1 ⟨rfl, rfl⟩
            split at h
            · rename_i r hr
              refine ⟨r, hr, ?_, ?_⟩
              · split at h
                · cases h
                · rename_i hnb; split <;> simp_all
              · split at h
                · cases h
                · split at h
                  · rename_i hp
                    rw [hp]
                    cases h
                    exact ⟨rfl, rfl, by rw [hp]⟩
                  · rename_i c hp
                    rw [hp]
                    dsimp only
                    exact ih c _ _ _ _ _ (by rw [hp] at h; exact h) n0
            · cases h
          · cases h
        · cases h
    | refuse _ => cases h
def xcall2 (P : Program) : Nat → Caller
  | 0, _, _, _ => none
  | d + 1, fv, args, H => match fv with
    | .func f as bs => match P.funcs[f]? with
      | some fn => match fn.body with
        | some c => if hasBody P f && decide ((as ++ args ++ bs).length ≤ fn.ntmps) then
            match xc2 P (xcall2 P d) fn.ntmps true 1000 c (memo fn.ntmps (env0 (as ++ args ++ bs))) H.memo with
            | some (x, e', H') => match x with
              | .normal | .ret => (match resA P e' H' fn.results.toList with
                | some v => forceV v fun v => some (v, H')
                | none => none)
              | _ => none
            | none => none
          else none
        | none => none
      | none => none
    | .yield i => match H.f i with
      | .loop r => match r.state with
        | .ready => if decide (r.params.length = args.length) && r.params.all (fun p => decide (p < r.ntmps)) then
            match xc2 P (xcall2 P d) r.ntmps false 1000 r.assign (memo r.ntmps (putPs r.env r.params args)) H.memo with
            | some (x, e1, H1) => match x with
              | .normal => match H1.f i with
                | .loop r1 => match r1.state with
                  | .ready => match xc2 P (xcall2 P d) r.ntmps false 1000 r.body (memo r.ntmps e1) (H1.set i (.loop { r1 with state := .busy })).memo with
                    | some (x2, _, H2) => if decide (H.n ≤ H2.n) then match H2.f i with
                      | .loop r2 => match x2 with
                        | .normal => some (.bool true, H2.set i (.loop { r2 with state := .ready, pending := none }))
                        | .ret => some (.bool false, H2.set i (.loop { r2 with state := .done, pending := some .ret }))
                        | .exit id => some (.bool false, H2.set i (.loop { r2 with state := .done, pending := some (.exit id) }))
                        | .goto l => some (.bool false, H2.set i (.loop { r2 with state := .done, pending := some (.goto l) }))
                        | _ => none
                      | _ => none
                      else none
                    | none => none
                  | _ => none
                | _ => none
              | _ => none
            | none => none
          else none
        | _ => none
      | _ => none
    | _ => none
theorem xcall2_sound (hm : P.follows .mixedOrders = true) : ∀ d : Nat, Caller.ok2 P (xcall2 P d)
  | 0 => by intro fv args H v H' h; cases h
  | d + 1 => by
    have ih := xcall2_sound hm d
    intro fv args H v H' h
    simp only [xcall2] at h
    split at h
    · rename_i f as bs
      split at h
      · rename_i fn hf
        split at h
        · rename_i c hb
          split at h
          · rename_i hck
            simp only [Bool.and_eq_true, decide_eq_true_eq] at hck
            rw [memo_eq, AHeap.memo_eq] at h
            split at h
            · rename_i x e1 H1 hx
              refine ⟨hck.1, CallW.of_bodyG hf hb hck.2 ((xc2_sound (ρ := none) ih hm (fun _ => rfl) 1000 c _ _ _ _ _ hx H.n).mono ?_)⟩
              rintro x2 e2 H2 ⟨rfl, rfl, rfl⟩
              split at h
              · split at h
                · rename_i v' hv
                  rw [forceV_eq] at h
                  cases h
                  exact ⟨.inl rfl, _, hv, rfl, rfl⟩
                · cases h
              · split at h
                · rename_i v' hv
                  rw [forceV_eq] at h
                  cases h
                  exact ⟨.inr rfl, _, hv, rfl, rfl⟩
                · cases h
              · cases h
            · cases h
          · cases h
        · cases h
      · cases h
    · rename_i i
      split at h
      · rename_i r hr
        split at h
        · rename_i hrs
          split at h
          · rename_i hck
            simp only [Bool.and_eq_true, decide_eq_true_eq, List.all_eq_true] at hck
            rw [memo_eq, AHeap.memo_eq] at h
            split at h
            · rename_i x e1 H1 hx
              split at h
              · split at h
                · rename_i r1 hr1
                  split at h
                  · rename_i hrs1
                    rw [memo_eq, AHeap.memo_eq] at h
                    split at h
                    · rename_i x2 e2 H2 hx2
                      split at h
                      · rename_i hle
                        simp only [decide_eq_true_eq] at hle
                        split at h
                        · rename_i r2 hr2
                          show RoundW P i args H _
                          refine RoundW.of hr hrs hck.1 hck.2 fun ρ => (xc2_sound (ρ := ρ) ih hm (fun h => by cases h) 1000 _ _ _ _ _ _ hx H.n).mono ?_
                          rintro x3 e3 H3 ⟨rfl, rfl, rfl⟩
                          refine ⟨rfl, r1, hr1, hrs1, (xc2_sound (ρ := ρ) ih hm (fun h => by cases h) 1000 _ _ _ _ _ _ hx2 H.n).mono ?_⟩
                          rintro x4 e4 H4 ⟨rfl, rfl, rfl⟩
                          refine ⟨r2, hr2, ?_⟩
                          split at h
                          · cases h; exact ⟨fun i => i, _, _, Emb.id hle, (ren_id _).symm, rfl, rfl⟩
                          · cases h; exact ⟨fun i => i, _, _, Emb.id hle, (ren_id _).symm, rfl, rfl⟩
                          · cases h; exact ⟨fun i => i, _, _, Emb.id hle, (ren_id _).symm, rfl, rfl⟩
                          · cases h; exact ⟨fun i => i, _, _, Emb.id hle, (ren_id _).symm, rfl, rfl⟩
                          · cases h
                        · cases h
                      · cases h
                    · cases h
                  · cases h
                · cases h
              · cases h
            · cases h
          · cases h
        · cases h
      · cases h
    · cases h
/-- The call, carried out. -/
theorem CallW.of_run2 (hm : P.follows .mixedOrders = true) (d : Nat) {f : FuncId} {args : List AVal} {v : AVal} (h : (xcall2 P d (.func f [] []) args emptyH).map (·.1) = some v) (ha : noRefs args = true) (hv : noRef v = true) (H : AHeap) : CallW P f args H fun v' H' => H' = H ∧ v' = v := by
  cases hx : xcall2 P d (.func f [] []) args emptyH with
  | none => rw [hx] at h; cases h
  | some r =>
    rw [hx] at h
    cases h
    obtain ⟨v, H'⟩ := r
    have := (xcall2_sound hm d _ _ _ _ _ hx).2
    rw [List.nil_append, List.append_nil] at this
    exact CallW.closed (this.mono fun v1 H1 h => h.1) ha (fun u hu => by rw [hu]; exact hv) H
end Go.Vh
