import Derived.Test.YtaccmanpanpbiaaVkA
/- Loops, open orders and ranges over functions for VkA; shorter ways to say what is got. -/
set_option linter.unusedVariables false
set_option linter.unusedSimpArgs false
namespace Go.Vk
open Go.Vh
variable {P : Program} {N : Nat} {ρ : Option Nat} {n0 : Nat}
/-- A loop: what is kept between two rounds, by a state. -/
theorem CodeS.loopSK {cuts : List Nat} {σ : Type} {c : Code} {e : Env} {H : AHeap} {K : Exit → Env → AHeap → Prop} (env : σ → List (Nat × AVal)) (heap : σ → AHeap) (Inv : σ → Prop) (meas : σ → Nat) (s0 : σ) (hok : okCode N c = true)
    (h0 : Inv s0) (hk : keepsL (env s0) e) (hH : H = heap s0)
    (round : ∀ s, Inv s → sc P N ρ n0 cuts c (envOf (env s)) (heap s) fun x e' H' => match x with
      | .normal => ∃ s', Inv s' ∧ meas s' < meas s ∧ keepsL (env s') e' ∧ H' = heap s'
      | x => K x e' H') : CodeS P N ρ n0 (.loop c) e H K := by
  refine ⟨CWF.loop (fun m e H => ∃ s, Inv s ∧ meas s = m ∧ keepsL (env s) e ∧ H = heap s) (m := meas s0) ⟨s0, h0, rfl, hk, hH⟩ ?_⟩
  rintro m e H ⟨s, hI, rfl, hks, rfl⟩
  refine CWF.keeps (keepsL_keeps _ hks) ((sc_sound c _ _ _ hok (round s hI)).mono ?_)
  intro x e' H' hx
  cases x with
  | normal =>
    obtain ⟨s', h1, h2, h3, h4⟩ := hx
    exact ⟨meas s', h2, s', h1, rfl, h3, h4⟩
  | _ => exact hx
/-- As loopS; what lives on is told by numbers of one's own choice. -/
theorem CodeS.loopGK {cuts : List Nat} {σ : Type} {c : Code} {e : Env} {H : AHeap} {K : Exit → Env → AHeap → Prop} (env : σ → List (Nat × AVal)) (heap : σ → AHeap) (Inv : σ → Prop) (meas : σ → Nat) (s0 : σ) (κ0 : Nat → Nat) (hok : okCode N c = true)
    (h0 : Inv s0) (hk : keepsR κ0 (env s0) e) (hH : EmbL n0 κ0 (heap s0) H)
    (round : ∀ s, Inv s → sc P N ρ n0 cuts c (envOf (env s)) (heap s) fun x e' H' => match x with
      | .normal => ∃ s' κ, Inv s' ∧ meas s' < meas s ∧ keepsR κ (env s') e' ∧ EmbL n0 κ (heap s') H'
      | x => K x e' H') : CodeS P N ρ n0 (.loop c) e H K := by
  refine ⟨CWF.loop (fun m e H => ∃ s κ, Inv s ∧ meas s = m ∧ keepsR κ (env s) e ∧ EmbL n0 κ (heap s) H) (m := meas s0) ⟨s0, κ0, h0, rfl, hk, hH⟩ ?_⟩
  rintro m e H ⟨s, κ, hI, rfl, hks, hEm⟩
  refine CWF.gcL hEm (keepsR_spec _ hks) ((sc_sound c _ _ _ hok (round s hI)).mono ?_)
  intro x e' H' hx
  cases x with
  | normal =>
    obtain ⟨s', κ', h1, h2, h3, h4⟩ := hx
    exact ⟨meas s', h2, s', κ', h1, rfl, h3, h4⟩
  | _ => exact hx
/-- Forgetting what is not needed any more. -/
theorem sc_keepsK {cuts : List Nat} {c : Code} {e : Env} {H : AHeap} {K : Exit → Env → AHeap → Prop} (l : List (Nat × AVal)) (hok : okCode N c = true) (hk : keepsL l e) (h : sc P N ρ n0 cuts c (envOf l) H K) : CodeS P N ρ n0 c e H K :=
  ⟨CWF.keeps (keepsL_keeps _ hk) (sc_sound c _ _ _ hok h)⟩

/-! ### What operations give -/
def assignEnd (cuts : List Nat) (P : Program) (i n0 : Nat) (body : Code) (Nt : Nat) (ρ : Option Nat) (K : AVal → AHeap → Prop) : Exit → Env → AHeap → Prop := fun x e1 H1 => match x with
  | .normal => ∃ r1, H1.f i = .loop r1 ∧ r1.state = .ready ∧ sc P Nt ρ n0 cuts body e1 (H1.set i (.loop { r1 with state := .busy })) (roundEnd i K)
  | _ => False
/-- A call of yield; what it leaves is told by numbers of one's own choice. -/
theorem CallS.roundRK {cuts : List Nat} {i : Nat} {args : List AVal} {H : AHeap} {K : AVal → AHeap → Prop} {r : ALoop} (hi : H.f i = .loop r) (hs : r.state = .ready) (hok : (decide (r.params.length = args.length) && r.params.all (fun p => Nat.blt p r.ntmps) && okCode r.ntmps r.assign && okCode r.ntmps r.body) = true)
    (h : ∀ ρ, sc P r.ntmps ρ H.n cuts r.assign (putPs r.env r.params args) H (assignEnd cuts P i H.n r.body r.ntmps ρ fun v H' => ∃ κ v' G, EmbL H.n κ G H' ∧ v = ren κ v' ∧ K v' G)) : CallS P (.yield i) args H K := by
  simp only [Bool.and_eq_true, decide_eq_true_eq] at hok
  obtain ⟨⟨⟨a1, a2⟩, a3⟩, a4⟩ := hok
  refine ⟨RoundW.ofL hi hs a1 (fun p hp => Nat.le_of_ble_eq_true (List.all_eq_true.1 a2 p hp)) fun ρ => (sc_sound _ _ _ _ a3 (h ρ)).mono ?_⟩
  intro x e1 H1 hx
  cases x with
  | normal =>
    obtain ⟨r1, b1, b2, b3⟩ := hx
    exact ⟨rfl, r1, b1, b2, sc_sound _ _ _ _ a4 b3⟩
  | _ => exact hx.elim
/-- A call of yield. -/
theorem CallS.roundK {cuts : List Nat} {i : Nat} {args : List AVal} {H : AHeap} {K : AVal → AHeap → Prop} {r : ALoop} (hi : H.f i = .loop r) (hs : r.state = .ready) (hok : (decide (r.params.length = args.length) && r.params.all (fun p => Nat.blt p r.ntmps) && okCode r.ntmps r.assign && okCode r.ntmps r.body) = true)
    (h : ∀ ρ, sc P r.ntmps ρ H.n cuts r.assign (putPs r.env r.params args) H (assignEnd cuts P i H.n r.body r.ntmps ρ fun v H' => H.n ≤ H'.n ∧ K v H')) : CallS P (.yield i) args H K := by
  simp only [Bool.and_eq_true, decide_eq_true_eq] at hok
  obtain ⟨⟨⟨a1, a2⟩, a3⟩, a4⟩ := hok
  refine ⟨RoundW.ofL hi hs a1 (fun p hp => Nat.le_of_ble_eq_true (List.all_eq_true.1 a2 p hp)) fun ρ => (sc_sound _ _ _ _ a3 (h ρ)).mono ?_⟩
  intro x e1 H1 hx
  cases x with
  | normal =>
    obtain ⟨r1, b1, b2, b3⟩ := hx
    refine ⟨rfl, r1, b1, b2, (sc_sound _ _ _ _ a4 b3).mono ?_⟩
    rintro x e2 H2 ⟨r2, c1, c2⟩
    refine ⟨r2, c1, ?_⟩
    cases x with
    | panic _ => exact c2.elim
    | outgrown => exact c2.elim
    | _ => exact ⟨fun i => i, _, _, EmbL.id c2.1, (ren_id _).symm, c2.2⟩
  | _ => exact hx.elim
def loopEndS (cuts : List Nat) (P : Program) (N : Nat) (n0 i : Nat) (e : Env) (K : Exit → Env → AHeap → Prop) (G : AHeap) : Prop :=
  ∃ r, G.f i = .loop r ∧ (match r.state with | .busy => False | _ => True) ∧ (match r.pending with
    | none => K .normal e (G.set i (.loop { r with state := .exhausted }))
    | some c => okCode N c = true ∧ sc P N none n0 cuts c e (G.set i (.loop { r with state := .exhausted })) K)
/-- The statement. -/
theorem CodeS.rangeK {cuts : List Nat} (el : List (Nat × AVal)) {g : Operand} {ps : Array Tmp} {assign body : Code} {e : Env} {H : AHeap} {K : Exit → Env → AHeap → Prop} {f : FuncId} {as bs l : List AVal} {K' : AVal → AHeap → Prop} (hg : evalA e g = .func f as bs) (hb : hasBody P f = true) (hw : keepsR (fun i => i) el e)
    (h : CallW P f l (H.alloc (.loop ⟨envOf el, N, ps.toList, assign, body, none, .ready⟩)) K') (hl : as ++ [.yield H.n] ++ bs = l) (hk : ∀ v G, K' v G → loopEndS cuts P N n0 H.n e K G) : CodeS P N none n0 (.rangeFunc g ps assign body) e H K := by
  refine ⟨CWF.range (e' := envOf el) hg hb (fun t => (keepsR_spec _ hw t).imp (fun h => by rw [h, ren_id]) id) (hl ▸ h.mono fun v G hv => ?_)⟩
  obtain ⟨r, h1, h2, h3⟩ := hk v G hv
  refine ⟨r, h1, h2, ?_⟩
  split at h3
  · rename_i hp; rw [hp]; rw [hp] at h3; exact h3
  · rename_i c hp; rw [hp]; rw [hp] at h3; exact sc_sound _ _ _ _ h3.1 h3.2
/-- A statement whose order is open, by a plan that is given in numbers. -/
theorem CodeS.drawIK {ρ : Option Nat} {n0 : Nat} {id : Nat} {ops : Array Oper} {e : Env} {H : AHeap} {K : Exit → Env → AHeap → Prop} (held : List Nat) (l : List (Nat × Bool × Bool)) (hm : P.follows .mixedOrders = true) (hok : (okOps N ops && decide (planI N ops = some l)) = true) (hh : AllM (fun i => Nat.blt i H.n = true ∧ (H.f i).live) held)
    (h : splan P ops held (stepsI ops l) e H fun e H => K .normal e H) : CodeS P N ρ n0 (.region id ops true) e H K := by
  simp only [Bool.and_eq_true, decide_eq_true_eq] at hok
  exact CodeS.drawK0 held hm (mkPlanI_spec _ _ _ hok.2) hok.1 (fun i hi => by
    have := hh.at i hi
    exact ⟨Nat.le_of_ble_eq_true this.1, this.2⟩) h

/-- Between two pieces of code: what lives on, told by numbers of one's own choice. -/
theorem CodeS.cut (el : List (Nat × AVal)) (G : AHeap) {cuts : List Nat} {a b : Code} {e : Env} {H : AHeap} {K : Exit → Env → AHeap → Prop} (hok : (okCode N a && okCode N b) = true)
    (h1 : sc P N ρ n0 [] a e H fun x e' H' => match x with
      | .normal => ∃ κ, keepsR κ el e' ∧ EmbL n0 κ G H'
      | x => K x e' H')
    (h2 : sc P N ρ n0 cuts b (envOf el) G K) : CodeS P N ρ n0 (.seq a b) e H K := by
  simp only [Bool.and_eq_true] at hok
  refine ⟨CWF.seq ((sc_sound a _ _ _ hok.1 h1).mono ?_)⟩
  intro x e' H' hx
  cases x with
  | normal =>
    obtain ⟨κ, hk, hE⟩ := hx
    exact CWF.gcL hE (keepsR_spec _ hk) (sc_sound b _ _ _ hok.2 h2)
  | _ => exact hx
/-! ### Decisions -/
theorem Fork.dec {p : Prop} [Decidable p] {A B : Prop} (h1 : p → A) (h2 : ¬ p → B) : Fork (decide p) A B := ⟨fun h => h1 (of_decide_eq_true h), fun h => h2 (of_decide_eq_false h)⟩
theorem Fork.eqI {a b : Int} {A B : Prop} (h1 : a = b → A) (h2 : ¬ a = b → B) : Fork (a == b) A B := ⟨fun h => h1 (beq_iff_eq.1 h), fun h => h2 (by simpa using h)⟩
theorem Fork.neI {a b : Int} {A B : Prop} (h1 : ¬ a = b → A) (h2 : a = b → B) : Fork (a != b) A B := ⟨fun h => h1 (by simpa using h), fun h => h2 (by simpa using h)⟩
theorem Fork.notB {b : Bool} {A B : Prop} (h1 : b = false → A) (h2 : b = true → B) : Fork (!b) A B := ⟨fun h => h1 (by simpa using h), fun h => h2 (by simpa using h)⟩
theorem bool_t {p : Prop} [Decidable p] (h : p) : AVal.bool true = AVal.bool (decide p) := by rw [decide_eq_true h]
theorem bool_f {p : Prop} [Decidable p] (h : ¬ p) : AVal.bool false = AVal.bool (decide p) := by rw [decide_eq_false h]
theorem seqL1_of {l : List AVal} {k : List AVal → Prop} (h : k l) : seqL1 l k := by rw [seqL1_eq]; exact h
theorem seqL_of {l : List AVal} {k : List AVal → Prop} (h : k l) : seqL l k := by rw [seqL_eq]; exact h
theorem seq0_of {v : AVal} {k : AVal → Prop} (h : k v) : seq0 v k := by rw [seq0_eq]; exact h
theorem seq1_of {v : AVal} {k : AVal → Prop} (h : k v) : seq1 v k := by rw [seq1_eq]; exact h
theorem seqV_of {v : AVal} {k : AVal → Prop} (h : k v) : seqV v k := by rw [seqV_eq]; exact h
/-- A truth value that says whether something is so. -/
inductive IsB : AVal → Prop → Prop
  | t {p : Prop} : p → IsB (.bool true) p
  | f {p : Prop} : ¬ p → IsB (.bool false) p
theorem IsB.noRef {p : Prop} : ∀ v : AVal, IsB v p → noRef v = true := by
  rintro v (_ | _) <;> rfl
theorem IsB.imp {v : AVal} {p q : Prop} (h : p ↔ q) : IsB v p → IsB v q
  | .t x => .t (h.1 x)
  | .f x => .f fun y => x (h.2 y)
/-! ### Numbers -/
theorem Gets.addI {a b : Int} {A : AVal → Prop} (h1 : -9223372036854775808 ≤ a + b) (h2 : a + b ≤ 9223372036854775807) (hA : A (.int .i64 (a + b))) : Gets (abin .add (.int .i64 a) (.int .i64 b)) A := ⟨⟨_, rfl, by rw [wrap_i64 h1 h2]; exact hA⟩⟩
theorem Gets.subI {a b : Int} {A : AVal → Prop} (h1 : -9223372036854775808 ≤ a - b) (h2 : a - b ≤ 9223372036854775807) (hA : A (.int .i64 (a - b))) : Gets (abin .sub (.int .i64 a) (.int .i64 b)) A := ⟨⟨_, rfl, by rw [wrap_i64 h1 h2]; exact hA⟩⟩
theorem Gets.mulI {a b : Int} {A : AVal → Prop} (h1 : -9223372036854775808 ≤ a * b) (h2 : a * b ≤ 9223372036854775807) (hA : A (.int .i64 (a * b))) : Gets (abin .mul (.int .i64 a) (.int .i64 b)) A := ⟨⟨_, rfl, by rw [wrap_i64 h1 h2]; exact hA⟩⟩
/-- A sum that is told in another way. -/
theorem Gets.addE {a b c : Int} {A : AVal → Prop} (h : a + b = c) (h1 : -9223372036854775808 ≤ c) (h2 : c ≤ 9223372036854775807) (hA : A (.int .i64 c)) : Gets (abin .add (.int .i64 a) (.int .i64 b)) A := by subst h; exact Gets.addI h1 h2 hA
theorem Gets.subE {a b c : Int} {A : AVal → Prop} (h : a - b = c) (h1 : -9223372036854775808 ≤ c) (h2 : c ≤ 9223372036854775807) (hA : A (.int .i64 c)) : Gets (abin .sub (.int .i64 a) (.int .i64 b)) A := by subst h; exact Gets.subI h1 h2 hA
theorem Gets.mulE {a b c : Int} {A : AVal → Prop} (h : a * b = c) (h1 : -9223372036854775808 ≤ c) (h2 : c ≤ 9223372036854775807) (hA : A (.int .i64 c)) : Gets (abin .mul (.int .i64 a) (.int .i64 b)) A := by subst h; exact Gets.mulI h1 h2 hA
/-! ### Places -/
theorem Gets.ix1 {t e : TypeId} {i n j : Nat} {k : IntKind} {A : AVal → Prop} (hu : P.underlying t = some (.slice e)) (hes : elemSize P t = some 1) (h1 : j < n) (hA : A (.ptr i j)) : Gets (ixA P t (.slice i 0 n) (.int k (j : Int))) A :=
  Gets.ixS hu hes (by omega) (by omega) (by have : 0 + (j : Int).toNat * 1 = j := by simp
                                            rw [this]; exact hA)
theorem Gets.ix1v {t e : TypeId} {i n j : Nat} {k : IntKind} {A : AVal → Prop} (hu : P.underlying t = some (.slice e)) (hes : elemSize P t = some 1) (h1 : j < n) (hA : A (.ptr i j)) : Gets (ixA P t (.view i 0 n) (.int k (j : Int))) A :=
  Gets.ixV hu hes (by omega) (by omega) (by have : 0 + (j : Int).toNat * 1 = j := by simp
                                            rw [this]; exact hA)
theorem Gets.ixI {t e : TypeId} {i n : Nat} {x : Int} {k : IntKind} {A : AVal → Prop} (hu : P.underlying t = some (.slice e)) (hes : elemSize P t = some 1) (h0 : 0 ≤ x) (h1 : x < n) (hA : A (.ptr i x.toNat)) : Gets (ixA P t (.slice i 0 n) (.int k x)) A :=
  Gets.ixS hu hes h0 h1 (by have : 0 + x.toNat * 1 = x.toNat := by simp
                            rw [this]; exact hA)
theorem Gets.ixIv {t e : TypeId} {i n : Nat} {x : Int} {k : IntKind} {A : AVal → Prop} (hu : P.underlying t = some (.slice e)) (hes : elemSize P t = some 1) (h0 : 0 ≤ x) (h1 : x < n) (hA : A (.ptr i x.toNat)) : Gets (ixA P t (.view i 0 n) (.int k x)) A :=
  Gets.ixV hu hes h0 h1 (by have : 0 + x.toNat * 1 = x.toNat := by simp
                            rw [this]; exact hA)
theorem Gets.ixE {t e : TypeId} {i n j es : Nat} {k : IntKind} {A : AVal → Prop} (hu : P.underlying t = some (.slice e)) (hes : elemSize P t = some es) (h1 : j < n) (hA : A (.ptr i (j * es))) : Gets (ixA P t (.slice i 0 n) (.int k (j : Int))) A :=
  Gets.ixS hu hes (by omega) (by omega) (by have : 0 + (j : Int).toNat * es = j * es := by simp
                                            rw [this]; exact hA)
theorem Gets.ixEv {t e : TypeId} {i n j es : Nat} {k : IntKind} {A : AVal → Prop} (hu : P.underlying t = some (.slice e)) (hes : elemSize P t = some es) (h1 : j < n) (hA : A (.ptr i (j * es))) : Gets (ixA P t (.view i 0 n) (.int k (j : Int))) A :=
  Gets.ixV hu hes (by omega) (by omega) (by have : 0 + (j : Int).toNat * es = j * es := by simp
                                            rw [this]; exact hA)
theorem getD_get {α : Type} {l : List α} {j : Nat} {d : α} (h : j < l.length) : l[j]? = some (l.getD j d) := by rw [List.getD_eq_getElem?_getD, List.getElem?_eq_getElem h]; rfl
theorem Gets.ldI {H : AHeap} {t : TypeId} {i off : Nat} {l : List Int} {A : AVal → Prop} (ht : tinfo P t = some tiI) (hf : (H.f i).cs = ints l) (h : off < l.length) (hA : A (.int .i64 (l.getD off 0))) : Gets (loadA P H t (.ptr i off)) A :=
  Gets.loadN (j := off) ht rfl hf rfl (getD_get h) hA
theorem Gets.ldB {H : AHeap} {t : TypeId} {i off : Nat} {l : List Bool} {A : AVal → Prop} (ht : tinfo P t = some tiB) (hf : (H.f i).cs = bls l) (h : off < l.length) (hA : A (.bool (l.getD off false))) : Gets (loadA P H t (.ptr i off)) A :=
  Gets.loadB (j := off) ht rfl hf rfl (getD_get h) hA
theorem Gets.stI {H : AHeap} {t : TypeId} {i off es : Nat} {x : Int} {l : List Int} {A : AHeap → Prop} (ht : tinfo P t = some tiI) (hf : H.f i = .cells es (ints l)) (h : off < l.length) (hA : A (H.set i (.cells es (ints (l.set off x))))) : Gets (storeA P H t (.ptr i off) (.int .i64 x)) A :=
  Gets.storeN (j := off) ht rfl hf rfl h hA
theorem Gets.stB {H : AHeap} {t : TypeId} {i off es : Nat} {b : Bool} {l : List Bool} {A : AHeap → Prop} (ht : tinfo P t = some tiB) (hf : H.f i = .cells es (bls l)) (h : off < l.length) (hA : A (H.set i (.cells es (bls (l.set off b))))) : Gets (storeA P H t (.ptr i off) (.bool b)) A :=
  Gets.storeB (j := off) ht rfl hf rfl h hA
/-! ### Pairs -/
def pflat (l : List (Int × Int)) : List Int := l.flatMap fun p => [p.1, p.2]
theorem pflat_length (l : List (Int × Int)) : (pflat l).length = l.length * 2 := by
  induction l with
  | nil => rfl
  | cons p l ih => show ([p.1, p.2] ++ pflat l).length = _; rw [List.length_append, ih]; simp; omega
theorem pflat_append (l m : List (Int × Int)) : pflat (l ++ m) = pflat l ++ pflat m := by simp [pflat]
theorem pflat_get : ∀ (l : List (Int × Int)) (j : Nat), j < l.length → (pflat l)[j * 2]? = some (l.getD j (0, 0)).1 ∧ (pflat l)[j * 2 + 1]? = some (l.getD j (0, 0)).2
  | [], j, h => absurd h (by simp)
  | p :: l, 0, h => ⟨rfl, rfl⟩
  | p :: l, j + 1, h => by
    have := pflat_get l j (by simpa using h)
    rw [show (j + 1) * 2 = j * 2 + 2 by omega]
    exact this
abbrev tiP : TI := ⟨2, 16, true, [.int .i64 0, .int .i64 0]⟩
theorem Gets.ldP {H : AHeap} {t : TypeId} {ti : TI} {i j : Nat} {l : List (Int × Int)} {A : AVal → Prop} (ht : tinfo P t = some ti) (hag : ti.agg = true) (hsz : ti.size = 2) (hf : (H.f i).cs = ints (pflat l)) (h : j < l.length)
    (hA : A (.agg [.int .i64 (l.getD j (0, 0)).1, .int .i64 (l.getD j (0, 0)).2])) : Gets (loadA P H t (.ptr i (j * 2))) A := by
  refine ⟨⟨_, ?_, hA⟩⟩
  obtain ⟨h1, h2⟩ := pflat_get l j h
  have hlen := pflat_length l
  have htk : ((ints (pflat l)).drop (j * 2)).take 2 = [AVal.int .i64 (l.getD j (0, 0)).1, AVal.int .i64 (l.getD j (0, 0)).2] := by
    have e1 : (ints (pflat l))[j * 2]? = some (AVal.int .i64 (l.getD j (0, 0)).1) := by rw [ints, List.getElem?_map, h1]; rfl
    have e2 : (ints (pflat l))[j * 2 + 1]? = some (AVal.int .i64 (l.getD j (0, 0)).2) := by rw [ints, List.getElem?_map, h2]; rfl
    have l1 : j * 2 < (ints (pflat l)).length := by rw [ints, List.length_map, hlen]; omega
    have l2 : j * 2 + 1 < (ints (pflat l)).length := by rw [ints, List.length_map, hlen]; omega
    rw [List.drop_eq_getElem_cons l1, List.drop_eq_getElem_cons l2, List.take_succ_cons, List.take_succ_cons, List.take_zero]
    rw [List.getElem?_eq_getElem l1] at e1
    rw [List.getElem?_eq_getElem l2] at e2
    rw [Option.some.inj e1, Option.some.inj e2]
  simp only [loadA, ht, AHeap.load, hf, hsz, htk, hag, if_true]
  rw [if_pos (by rw [ints, List.length_map, hlen]; omega)]
theorem rens_pairs (κ : Nat → Nat) (l : List (Int × Int)) : rens κ (ints (pflat l)) = ints (pflat l) := rens_ints κ _
theorem lt_succ_all {p : Nat → Prop} {j : Nat} (h : ∀ k, k < j → p k) (hj : p j) : ∀ k, k < j + 1 → p k := fun k hk => by
  rcases Nat.lt_or_ge k j with h1 | h1
  · exact h k h1
  · obtain rfl : k = j := by omega
    exact hj
theorem getD_memL {α : Type} {l : List α} {j : Nat} {d : α} (h : j < l.length) : l.getD j d ∈ l := by rw [List.getD_eq_getElem?_getD, List.getElem?_eq_getElem h]; exact List.getElem_mem _
theorem all_getD {α : Type} {l : List α} {d : α} {p : α → Prop} : (∀ x ∈ l, p x) ↔ ∀ k, k < l.length → p (l.getD k d) :=
  ⟨fun h k hk => h _ (getD_memL hk), fun h x hx => by
    obtain ⟨k, hk, rfl⟩ := List.getElem_of_mem hx
    have := h k hk
    rwa [List.getD_eq_getElem?_getD, List.getElem?_eq_getElem hk] at this⟩
/-- A contract for a slice of which it is not said whether it is nil holds for one that is none. -/
theorem _root_.Go.Vh.CallW.sv {f : FuncId} {i o n : Nat} {rest : List AVal} {H : AHeap} {K : AVal → AHeap → Prop} (h : CallW P f (.view i o n :: rest) H K) : CallW P f (.slice i o n :: rest) H K :=
  h.views fun φ w cs hR hv => by
    cases cs with
    | nil => simp [VRels] at hv
    | cons c cs => exact VRels_cons.2 ⟨VRel_sv (VRels_cons.1 hv).1, (VRels_cons.1 hv).2⟩
theorem _root_.Go.Vh.CallW.sv2 {f : FuncId} {i o n : Nat} {a : AVal} {rest : List AVal} {H : AHeap} {K : AVal → AHeap → Prop} (h : CallW P f (a :: .view i o n :: rest) H K) : CallW P f (a :: .slice i o n :: rest) H K :=
  h.views fun φ w cs hR hv => by
    cases cs with
    | nil => simp [VRels] at hv
    | cons c cs => cases cs with
      | nil => have := VRels_length hv; simp at this
      | cons c' cs => 
        have h1 := VRels_cons.1 hv
        have h2 := VRels_cons.1 h1.2
        exact VRels_cons.2 ⟨h1.1, VRels_cons.2 ⟨VRel_sv h2.1, h2.2⟩⟩
/-- As frameL; what is the call's own is told number by number. -/
theorem _root_.Go.Vh.CallW.frameQ {f : FuncId} {args : List AVal} {G H : AHeap} {K : AVal → AHeap → Prop} (h : CallW P f args G K) (ks : List Nat) (hl : (Nat.beq ks.length G.n && (decide ks.Nodup || okKs G ks 0)) = true)
    (hb : AllQ (fun i => Nat.blt (fk ks H.n i) H.n = true ∧ BSub (fk ks H.n) (G.f i) (H.f (fk ks H.n i))) 0 G.n)
    (hfr : ∀ v G', K v G' → AllQ (fun i => (Nat.ble G.n i || (G.f i).rwB) = false ∨ freshB (G'.f i) = true) 0 G'.n) :
    CallW P f (rens (fk ks H.n) args) H fun v H' => ∃ v' G', K v' G' ∧ v = ren (fk ks H.n) v' ∧ H' = frameH ks G G' H :=
  h.frameL ks hl hb fun v G' hk i hi hor => by
    rcases allQ_of (hfr v G' hk) i (Nat.zero_le _) hi with h1 | h1
    · exfalso
      simp only [Bool.or_eq_false_iff] at h1
      rcases hor with h2 | h2
      · have := Nat.ble_eq_true_of_le h2; rw [h1.1] at this; cases this
      · have := rwB_iff.2 h2; rw [h1.2] at this; cases this
    · exact freshB_iff.1 h1
end Go.Vk
