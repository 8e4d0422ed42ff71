import Derived.Test.YtaccmanpanpbiaaVhQ
import Derived.Below
/- Loops over symbols; what is asked at an operation. -/
set_option linter.unusedVariables false
set_option linter.unusedSimpArgs false
namespace Go.Vh
variable {P : Program} {N : Nat} {ρ : Option Nat} {n0 : Nat}

/-! ### Fewer temporaries -/
def Keeps (e' e : Env) : Prop := ∀ t, e' t = e t ∨ e' t = .undef
theorem ERel.keeps {φ : PMap} {e e' : Env} {tmps : Array Value} (h : ERel φ N e tmps) (hk : Keeps e' e) : ERel φ N e' tmps :=
  ⟨h.1, fun t => by
    rcases hk t with h1 | h1
    · rw [h1]; exact h.2 t
    · exact .inr h1⟩
theorem CWF.keeps {c : Code} {e e' : Env} {H : AHeap} {K : Exit → Env → AHeap → Prop} (hk : Keeps e' e) (h : CWF P N ρ n0 c e' H K) : CWF P N ρ n0 c e H K :=
  fun B φ0 H0 w0 φ w a h0 hd hR hE hM hB hX => h B φ0 H0 w0 φ w a h0 hd hR (hE.keeps hk) hM hB hX
def envOf : List (Nat × AVal) → Env
  | [], _ => .undef
  | (k, v) :: l, t => match t == k with
    | true => v
    | false => envOf l t
def keepsL : List (Nat × AVal) → Env → Prop
  | [], _ => True
  | (k, v) :: l, e => e k = v ∧ keepsL l e
theorem keepsL_keeps {e : Env} : ∀ (l : List (Nat × AVal)), keepsL l e → Keeps (envOf l) e
  | [], _, _ => .inr rfl
  | (k, v) :: l, h, t => by
    simp only [envOf]
    split
    · rename_i ht
      have : t = k := by simpa using ht
      subst this
      exact .inl h.1.symm
    · exact keepsL_keeps l h.2 t
/-- A loop: what is kept between two rounds, by a state. -/
theorem CodeS.loopS {σ : Type} {c : Code} {e : Env} {H : AHeap} {K : Exit → Env → AHeap → Prop} (env : σ → List (Nat × AVal)) (heap : σ → AHeap) (Inv : σ → Prop) (meas : σ → Nat) (s0 : σ) (hok : okCode N c = true)
    (h0 : Inv s0) (hk : keepsL (env s0) e) (hH : H = heap s0)
    (round : ∀ s, Inv s → sc P N ρ n0 c (envOf (env s)) (heap s) fun x e' H' => match x with
      | .normal => ∃ s', Inv s' ∧ meas s' < meas s ∧ keepsL (env s') e' ∧ H' = heap s'
      | x => K x e' H') : CodeS P N ρ n0 (.loop c) e H K := by
  refine ⟨CWF.loop (fun m e H => ∃ s, Inv s ∧ meas s = m ∧ keepsL (env s) e ∧ H = heap s) (m := meas s0) ⟨s0, h0, rfl, hk, hH⟩ ?_⟩
  rintro m e H ⟨s, hI, rfl, hks, rfl⟩
  refine CWF.keeps (keepsL_keeps _ hks) ((sc_sound c _ _ _ hok (round s hI)).mono ?_)
  intro x e' H' hx
  cases x with
  | normal =>
    obtain ⟨s', h1, h2, h3, h4⟩ := hx
    exact ⟨meas s', h2, s', h1, rfl, h3, h4⟩
  | _ => exact hx
def keepsR (κ : Nat → Nat) : List (Nat × AVal) → Env → Prop
  | [], _ => True
  | (k, v) :: l, e => e k = ren κ v ∧ keepsR κ l e
theorem keepsR_spec {κ : Nat → Nat} {e : Env} : ∀ (l : List (Nat × AVal)), keepsR κ l e → ∀ t, e t = ren κ (envOf l t) ∨ envOf l t = .undef
  | [], _, _ => .inr rfl
  | (k, v) :: l, h, t => by
    simp only [envOf]
    split
    · rename_i ht
      have : t = k := by simpa using ht
      subst this
      exact .inl h.1
    · exact keepsR_spec l h.2 t
/-- As loopS; what lives on is told by numbers of one's own choice. -/
theorem CodeS.loopG {σ : Type} {c : Code} {e : Env} {H : AHeap} {K : Exit → Env → AHeap → Prop} (env : σ → List (Nat × AVal)) (heap : σ → AHeap) (Inv : σ → Prop) (meas : σ → Nat) (s0 : σ) (κ0 : Nat → Nat) (hok : okCode N c = true)
    (h0 : Inv s0) (hk : keepsR κ0 (env s0) e) (hH : Emb n0 κ0 (heap s0) H)
    (round : ∀ s, Inv s → sc P N ρ n0 c (envOf (env s)) (heap s) fun x e' H' => match x with
      | .normal => ∃ s' κ, Inv s' ∧ meas s' < meas s ∧ keepsR κ (env s') e' ∧ Emb n0 κ (heap s') H'
      | x => K x e' H') : CodeS P N ρ n0 (.loop c) e H K := by
  refine ⟨CWF.loop (fun m e H => ∃ s κ, Inv s ∧ meas s = m ∧ keepsR κ (env s) e ∧ Emb n0 κ (heap s) H) (m := meas s0) ⟨s0, κ0, h0, rfl, hk, hH⟩ ?_⟩
  rintro m e H ⟨s, κ, hI, rfl, hks, hEm⟩
  refine CWF.gc hEm (keepsR_spec _ hks) ((sc_sound c _ _ _ hok (round s hI)).mono ?_)
  intro x e' H' hx
  cases x with
  | normal =>
    obtain ⟨s', κ', h1, h2, h3, h4⟩ := hx
    exact ⟨meas s', h2, s', κ', h1, rfl, h3, h4⟩
  | _ => exact hx
/-- Forgetting what is not needed any more. -/
theorem sc_keeps {c : Code} {e : Env} {H : AHeap} {K : Exit → Env → AHeap → Prop} (l : List (Nat × AVal)) (hok : okCode N c = true) (hk : keepsL l e) (h : sc P N ρ n0 c (envOf l) H K) : CodeS P N ρ n0 c e H K :=
  ⟨CWF.keeps (keepsL_keeps _ hk) (sc_sound c _ _ _ hok h)⟩

/-! ### What operations give -/
theorem Gets.of {α : Type} {x : Option α} {A : α → Prop} (v : α) (h : x = some v) (ha : A v) : Gets x A := ⟨⟨v, h, ha⟩⟩
theorem Gets.shl {k k' : IntKind} {a b : Int} {A : AVal → Prop} (h : 0 ≤ b) (ha : A (.int k (shlA k a b))) : Gets (abin .shl (.int k a) (.int k' b)) A :=
  ⟨⟨_, by simp [abin, Int.not_lt.2 h], ha⟩⟩
theorem Gets.shr {k k' : IntKind} {a b : Int} {A : AVal → Prop} (h : 0 ≤ b) (ha : A (.int k (shrA k a b))) : Gets (abin .shr (.int k a) (.int k' b)) A :=
  ⟨⟨_, by simp [abin, Int.not_lt.2 h], ha⟩⟩
theorem Gets.quo {k : IntKind} {a b : Int} {A : AVal → Prop} (h : b ≠ 0) (ha : A (.int k (k.wrap (a.tdiv b)))) : Gets (abin .quo (.int k a) (.int k b)) A :=
  ⟨⟨_, by simp [abin, abinInt, h], ha⟩⟩
theorem Gets.rem {k : IntKind} {a b : Int} {A : AVal → Prop} (h : b ≠ 0) (ha : A (.int k (a.tmod b))) : Gets (abin .rem (.int k a) (.int k b)) A :=
  ⟨⟨_, by simp [abin, abinInt, h], ha⟩⟩
theorem Gets.remN {k : IntKind} {a b : Int} {A : AVal → Prop} (ha : 0 ≤ a) (h : 0 < b) (hA : A (.int k (a % b))) : Gets (abin .rem (.int k a) (.int k b)) A :=
  Gets.rem (by omega) (by rw [Int.tmod_eq_emod_of_nonneg ha]; exact hA)
theorem Gets.quoN {k : IntKind} {a b : Int} {A : AVal → Prop} (ha : 0 ≤ a) (h : 0 < b) (hA : A (.int k (k.wrap (a / b)))) : Gets (abin .quo (.int k a) (.int k b)) A :=
  Gets.quo (by omega) (by rw [Int.tdiv_eq_ediv_of_nonneg ha]; exact hA)
theorem Gets.lookMiss {H : AHeap} {t : TypeId} {x k : AVal} {ok : Bool} {kk : KeyK} {z : AVal} {A : AVal → Prop} (es : List (AVal × AVal)) (h1 : mapT P t = some (kk, z)) (h2 : H.entries x = some es) (h3 : keyFits kk k = true) (h4 : mfind kk k es 0 = some none) (hA : A (if ok then .tuple [z, .bool false] else z)) : Gets (alookup P H t x k ok) A :=
  ⟨⟨_, by simp only [alookup, h1, h2, h3, h4, if_true], hA⟩⟩
/-- The numbers of a kind. -/
theorem wrap_i64 {n : Int} (h1 : -9223372036854775808 ≤ n) (h2 : n ≤ 9223372036854775807) : IntKind.wrap .i64 n = n := by
  simp only [IntKind.wrap, IntKind.bits, IntKind.signed, Bool.true_and, decide_eq_true_eq, show (2 : Int) ^ (64 - 1) = 9223372036854775808 from rfl, show (2 : Int) ^ 64 = 18446744073709551616 from rfl]
  split <;> omega

/-! ### From a contract to the walk that a row asks for -/
theorem CallW.walkZ {f : FuncId} {args : List AVal} {cargs : Array Value} (h : CallW P f args emptyH fun v _ => v = .bool true) {z : ZMap} {w : World} (hz : ∀ k o, z k = some o → w.heap[k]? = some o ∧ ∃ arr el fr, o = .cells arr el fr) (ha : VRels (pm0 z) args cargs.toList) :
    Calls P f cargs w fun e w' => e = .returned (.bool true) ∧ Go.RowKit.Below w.heap.size w w' := by
  refine (h (pm0 z) w cargs (rel_empty hz) ha).mono ?_
  rintro e w' ⟨cv, v, φ', H', rfl, h1, h2, h3, rfl⟩
  have h1' : cv = .bool true := h1
  subst h1'
  exact ⟨rfl, h3.os, h3.tape, h3.output, h3.size, fun k hk => h3.keep k hk not_own_empty⟩
theorem CallW.walk {f : FuncId} {args : List AVal} {cargs : Array Value} (h : CallW P f args emptyH fun v _ => v = .bool true) (w : World) (ha : VRels (pm0 fun _ => none) args cargs.toList) :
    Calls P f cargs w fun e w' => e = .returned (.bool true) ∧ Go.RowKit.Below w.heap.size w w' := h.walkZ (fun k o (hz : (none : Option Obj) = some o) => nomatch hz) ha
end Go.Vh
