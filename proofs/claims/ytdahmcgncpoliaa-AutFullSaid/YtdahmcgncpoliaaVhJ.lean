/- One operation, as a function on environments and heaps; the model does just that. -/
import Derived.Test.YtdahmcgncpoliaaVhI
set_option linter.unusedVariables false
set_option linter.unusedSimpArgs false
namespace Go.Vh
variable {P : Program}

def pickA (t : Bool) (x y : AVal) : AVal :=
  match x, y with
  | .bool u, .bool v => .bool (if t then u else v)
  | x, y => if t then x else y
theorem pickA_rel {φ : PMap} {t : Bool} {x y : AVal} {c d : Value} (hx : VRel φ x c) (hy : VRel φ y d) : VRel φ (pickA t x y) (if t then c else d) := by
  unfold pickA
  split
  · rename_i u v
    obtain rfl : c = .bool u := hx
    obtain rfl : d = .bool v := hy
    cases t <;> rfl
  · cases t <;> assumption
def aeqGo (P : Program) (t : TypeId) (x y : AVal) : Option Bool :=
  match P.underlying t, x, y with
  | some .bool, .bool a, .bool b => some (a == b)
  | some (.struct _), .agg l, .agg m => (match flatD P t with
    | some ds => if fitsL ds l && !P.eqGuardType P.depth t then aeqL l m else none
    | none => none)
  | some (.array _ _), .agg l, .agg m => (match flatD P t with
    | some ds => if fitsL ds l && !P.eqGuardType P.depth t then aeqL l m else none
    | none => none)
  | some (.slice _), .nilSlice, .nilSlice => some true
  | some (.slice _), .slice _ _ _, .nilSlice => some false
  | some (.func _ _ _), .raw .nilFunc, .raw .nilFunc => some true
  | some (.func _ _ _), .func _ _ _, .raw .nilFunc => some false
  | some (.map _ _), .raw (.map none), .raw (.map none) => some true
  | some (.map _ _), .map _, .raw (.map none) => some false
  | some (.pointer _), .raw (.pointer none), .raw (.pointer none) => some true
  | some (.pointer _), .ptr _ _, .raw (.pointer none) => some false
  | _, _, _ => none
/-- Neither numbers nor strings: such a pair is compared by its type. -/
def typed : Value → Bool
  | .bool _ | .agg _ | .slice _ _ _ | .func _ _ _ | .nilFunc | .map _ | .pointer _ => true
  | _ => false
theorem eq_typed {op : BinOp} {t : TypeId} {cx cy : Value} {b : Bool} {w : World} (h : typed cx = true) (he : (Op.equal t cx cy).run P w = .ok b w) :
    (op = .eql → (binOp op t cx cy).run P w = .ok (.bool b) w) ∧ (op = .neq → (binOp op t cx cy).run P w = .ok (.bool (!b)) w) := by
  constructor
  · rintro rfl
    cases cx <;> first | (simp [typed] at h; done) | (cases cy <;> simp [binOp, he, Result.andThen])
  · rintro rfl
    cases cx <;> first | (simp [typed] at h; done) | (cases cy <;> simp [binOp, he, Result.andThen])
theorem eq10 (t : TypeId) (x y : Value) : Op.equal t x y = Op.equalIn (9999 + 1) t x y := rfl
theorem aeqGo_run {op : BinOp} {t : TypeId} {φ : PMap} {x y : AVal} {b : Bool} {cx cy : Value} {ox oy : Operand} (w : World) (hx : VRel φ x cx) (hy : VRel φ y cy) (h : aeqGo P t x y = some b) :
    (eqGuard op t ox oy cx cy).run P w = .ok () w ∧ (Op.equal t cx cy).run P w = .ok b w ∧ typed cx = true := by
  have flat : ∀ (l m : List AVal) (ds : List TypeDesc), x = .agg l → y = .agg m → flatD P t = some ds → (if fitsL ds l && !P.eqGuardType P.depth t then aeqL l m else none) = some b →
      (eqGuard op t ox oy cx cy).run P w = .ok () w ∧ (Op.equal t cx cy).run P w = .ok b w ∧ typed cx = true := by
    intro l m ds hl hm hds hv
    subst hl; subst hm
    split at hv
    · rename_i hc
      simp only [Bool.and_eq_true, Bool.not_eq_true'] at hc
      have he : (Op.equal t cx cy).run P w = .ok b w := flat_eq_run (n := 9998) w hds hc.1 hx hy hv
      obtain ⟨cs, rfl, _⟩ := hx
      obtain ⟨es, rfl, _⟩ := hy
      exact ⟨run_eqGuard_agg w op t ox oy _ _ hc.2, he, rfl⟩
    · cases hv
  unfold aeqGo at h
  split at h
  · rename_i a b' hu
    cases h
    obtain rfl : cx = .bool a := hx
    obtain rfl : cy = .bool b' := hy
    exact ⟨run_eqGuard_scalar w rfl (.inl (by simp)), by rw [eq10, Op.equalIn, Sem.run_bind, run_underlying' hu]; rfl, rfl⟩
  · rename_i fs l m hu
    split at h
    · rename_i ds hds; exact flat l m ds rfl rfl hds h
    · cases h
  · rename_i n e l m hu
    split at h
    · rename_i ds hds; exact flat l m ds rfl rfl hds h
    · cases h
  · rename_i e hu
    cases h
    obtain rfl : cx = .slice none 0 0 := hx
    obtain rfl : cy = .slice none 0 0 := hy
    exact ⟨run_eqGuard_scalar w rfl (.inl (by simp)), by rw [eq10, Op.equalIn, Sem.run_bind, run_underlying' hu]; rfl, rfl⟩
  · rename_i e i o n hu
    cases h
    obtain ⟨b, cap, ad, _, rfl, _⟩ := hx
    obtain rfl : cy = .slice none 0 0 := hy
    exact ⟨run_eqGuard_scalar w rfl (.inl (by simp)), by rw [eq10, Op.equalIn, Sem.run_bind, run_underlying' hu]; rfl, rfl⟩
  · rename_i ps rs vr hu
    cases h
    obtain rfl : cx = .nilFunc := hx
    obtain rfl : cy = .nilFunc := hy
    exact ⟨run_eqGuard_scalar w rfl (.inl (by simp)), by rw [eq10, Op.equalIn, Sem.run_bind, run_underlying' hu]; rfl, rfl⟩
  · rename_i ps rs vr f as bs hu
    cases h
    obtain ⟨cs, ds, rfl, _⟩ := hx
    obtain rfl : cy = .nilFunc := hy
    exact ⟨run_eqGuard_scalar w rfl (.inl (by simp)), by rw [eq10, Op.equalIn, Sem.run_bind, run_underlying' hu]; rfl, rfl⟩
  · rename_i k e hu
    cases h
    obtain rfl : cx = .map none := hx
    obtain rfl : cy = .map none := hy
    exact ⟨run_eqGuard_scalar w rfl (.inl (by simp)), by rw [eq10, Op.equalIn, Sem.run_bind, run_underlying' hu]; rfl, rfl⟩
  · rename_i k e i hu
    cases h
    obtain ⟨b, _, rfl⟩ := hx
    obtain rfl : cy = .map none := hy
    exact ⟨run_eqGuard_scalar w rfl (.inl (by simp)), by rw [eq10, Op.equalIn, Sem.run_bind, run_underlying' hu]; rfl, rfl⟩
  · rename_i e hu
    cases h
    obtain rfl : cx = .pointer none := hx
    obtain rfl : cy = .pointer none := hy
    exact ⟨run_eqGuard_scalar w rfl (.inl (by simp)), by rw [eq10, Op.equalIn, Sem.run_bind, run_underlying' hu]; rfl, rfl⟩
  · rename_i e i o hu
    cases h
    obtain ⟨b, _, rfl⟩ := hx
    obtain rfl : cy = .pointer none := hy
    exact ⟨run_eqGuard_scalar w rfl (.inl (by simp)), by rw [eq10, Op.equalIn, Sem.run_bind, run_underlying' hu]; rfl, rfl⟩
  · cases h
def aeqBin (P : Program) (op : BinOp) (t : TypeId) (x y : AVal) : Option AVal :=
  match op with
  | .eql => (aeqGo P t x y).map .bool
  | .neq => (aeqGo P t x y).map fun b => .bool (!b)
  | _ => none
theorem aeqBin_run {op : BinOp} {t : TypeId} {φ : PMap} {x y v : AVal} {cx cy : Value} {ox oy : Operand} (hx : VRel φ x cx) (hy : VRel φ y cy) (h : aeqBin P op t x y = some v) :
    PureTo P φ (do eqGuard op t ox oy cx cy; binOp op t cx cy : Sem Value) v := by
  cases hb : aeqGo P t x y with
  | none => cases op <;> simp [aeqBin, hb] at h
  | some b =>
    have h0 := fun w => aeqGo_run (op := op) (ox := ox) (oy := oy) w hx hy hb
    have h4 := fun w => eq_typed (op := op) (h0 w).2.2 (h0 w).2.1
    cases op <;> simp only [aeqBin, hb, Option.map_some, Option.some.injEq, reduceCtorEq] at h
    case eql => subst h; exact ⟨.bool b, fun w => by rw [Sem.run_bind, (h0 w).1]; exact (h4 w).1 rfl, rfl⟩
    case neq => subst h; exact ⟨.bool (!b), fun w => by rw [Sem.run_bind, (h0 w).1]; exact (h4 w).2 rfl, rfl⟩

def aconv (P : Program) (src dst : TypeId) (x : AVal) : Option AVal :=
  match P.underlying src, P.underlying dst, x with
  | some _, some (.int k), .int _ n => some (.int k (k.wrap n))
  | _, _, _ => none
def apureB (P : Program) (b : Builtin) (ts : List TypeId) (l : List AVal) : Option AVal :=
  match b, ts, l with
  | .len, [t], [x] => alenP P t x
  | .cap, [t], [x] => acapP P t x
  | .min, _, l => aminmax false l
  | .max, _, l => aminmax true l
  | _, _, _ => none
def amemB (P : Program) (b : Builtin) (ts : List TypeId) (l : List AVal) (H : AHeap) : Option (AVal × AHeap) :=
  match b, ts, l with
  | .len, [t], [x] => (alenM P H t x).map (·, H)
  | .append, [t, tx], [s, x] => aappend P H t tx s x
  | .copy, [t, _], [d, x] => acopy P H t d x
  | _, _, _ => none
/-- Operations that look at no memory and change none (the heap tells the size of a row's elements alone). -/
def apure (P : Program) (op : Op) (e : Env) (H : AHeap) : Option AVal :=
  match op with
  | .move x | .assign x => some (evalA e x)
  | .pick c a b => match evalA e c with
    | .bool t => some (pickA t (evalA e a) (evalA e b))
    | _ => none
  | .build t ps => abuild P t (ps.toList.map fun p => (p.1, evalA e p.2))
  | .nilCheck x => match evalA e x with
    | .ptr i o => some (.ptr i o)
    | .func f as bs => some (.func f as bs)
    | .yield i => some (.yield i)
    | _ => none
  | .binOp op t x y _ => match aeqBin P op t (evalA e x) (evalA e y) with
    | some v => some v
    | none => abin op (evalA e x) (evalA e y)
  | .unOp op _ x => aun op (evalA e x)
  | .convert s d x => aconv P s d (evalA e x)
  | .makeFunc (.func f) as bs => some (.func f (as.toList.map (evalA e)) (bs.toList.map (evalA e)))
  | .slice t x lo hi none => asliceV P H t (evalA e x) (lo.map (evalA e)) (hi.map (evalA e))
  | .fieldAddr s x f => match evalA e x, fieldOff P s f with
    | .ptr i o, some k => some (.ptr i (o + k))
    | _, _ => none
  | .field s x f => afield P s (evalA e x) f
  | .indexAddr t x ix => match P.underlying t, evalA e x with
    | some (.slice _), .slice i o n => aindexAddr P t (.slice i o n) (evalA e ix)
    | some (.slice _), .view i o n => aindexAddr P t (.slice i o n) (evalA e ix)
    | some (.array _ _), .ptr i o => aindexAddr P t (.ptr i o) (evalA e ix)
    | _, _ => none
  | .index t x ix => aindex P t (evalA e x) (evalA e ix)
  | .extract x i => match evalA e x with
    | .tuple l => l[i]?
    | _ => none
  | .call ⟨.builtin b, args, ts⟩ => apureB P b ts.toList (args.toList.map (evalA e))
  | _ => none

/-- The others. -/
def amem (P : Program) (op : Op) (e : Env) (H : AHeap) : Option (AVal × AHeap) :=
  match op with
  | .alloc t => aalloc P H t
  | .box _ x => abox H (evalA e x)
  | .buildSlice t n ps => abuildSlice P H t n (ps.toList.map fun p => (p.1, evalA e p.2))
  | .load t x => match evalA e x, tinfo P t with
    | .ptr i o, some ti => (H.load ti i o).map (·, H)
    | _, _ => none
  | .store t x y => match evalA e x, (evalA e y).cells, tinfo P t with
    | .ptr i o, some l, some ti => if l.length = ti.size then (H.store i o l).map (.undef, ·) else none
    | _, _, _ => none
  | .makeMap _ none => some (.map H.n, H.alloc (.map []))
  | .makeSlice t l c => amakeSlice P H t (evalA e l) (evalA e c)
  | .lookup t x k ok => (alookup P H t (evalA e x) (evalA e k) ok).map (·, H)
  | .mapUpdate t m k v | .insert t m k v => (H.mapPut P t (evalA e m) (evalA e k) (evalA e v)).map (.undef, ·)
  | .call ⟨.builtin b, args, ts⟩ => amemB P b ts.toList (args.toList.map (evalA e)) H
  | _ => none
def astep (P : Program) (op : Op) (e : Env) (H : AHeap) : Option (AVal × AHeap) :=
  match apure P op e H with
  | some v => some (v, H)
  | none => amem P op e H

def StepOk (P : Program) (φ : PMap) (H : AHeap) (w : World) (a : Act) (o : Oper) (v : AVal) (H' : AHeap) : Prop :=
  ∃ r c w' φ', (execOp a.eval o).run P w = .ok r w' ∧ (r = .value c ∨ (r = .skip ∧ c = Go.undef)) ∧ VRel φ' v c ∧ Rel φ' H' w' ∧ Ext φ H w φ' H' w'
theorem StepOk.of_fine {φ : PMap} {H H' : AHeap} {w : World} {a : Act} {o : Oper} {v : AVal} {s : Sem Value} (h : Fine P φ H w s v H') (he : execOp a.eval o = (do pure (.value (← s)))) : StepOk P φ H w a o v H' := by
  obtain ⟨c, w', φ', hr, h1, h2, h3⟩ := h
  exact ⟨.value c, c, w', φ', by rw [he]; simp [Sem.run_bind, hr, Result.andThen], .inl rfl, h1, h2, h3⟩
theorem StepOk.of_value {φ : PMap} {H : AHeap} {w : World} {a : Act} {o : Oper} {v : AVal} {c : Value} (hR : Rel φ H w) (h : (execOp a.eval o).run P w = .ok (.value c) w) (hv : VRel φ v c) : StepOk P φ H w a o v H :=
  ⟨.value c, c, w, φ, h, .inl rfl, hv, hR, Ext.refl _ _ _⟩
theorem StepOk.of_unit {φ : PMap} {H H' : AHeap} {w : World} {a : Act} {o : Oper} {s : Sem Unit} (h : ∃ w', s.run P w = .ok () w' ∧ Rel φ H' w' ∧ Ext φ H w φ H' w') (he : execOp a.eval o = (do s; pure .skip)) : StepOk P φ H w a o .undef H' := by
  obtain ⟨w', hr, h2, h3⟩ := h
  exact ⟨.skip, Go.undef, w', φ, by rw [he]; simp [Sem.run_bind, hr, Result.andThen], .inr ⟨rfl, rfl⟩, trivial, h2, h3⟩
theorem evals_rel {φ : PMap} {N : Nat} {e : Env} {a : Act} (h : ERel φ N e a.tmps) : ∀ l : List Operand, VRels φ (l.map (evalA e)) (l.map a.eval)
  | [] => by simp [VRels]
  | x :: l => VRels_cons.2 ⟨evalA_rel h x, evals_rel h l⟩
theorem parts_rel {φ : PMap} {N : Nat} {e : Env} {a : Act} (h : ERel φ N e a.tmps) : ∀ l : List (Nat × Operand), VRels φ ((l.map fun p => (p.1, evalA e p.2)).map (·.2)) ((l.map fun p => (p.1, a.eval p.2)).map (·.2))
  | [] => by simp [VRels]
  | x :: l => VRels_cons.2 ⟨evalA_rel h x.2, parts_rel h l⟩
end Go.Vh
