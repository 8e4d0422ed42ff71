import Derived.Test.YtaccmanpanpbiaaVhW
/- Rows of numbers of any kind, rows of structs of five numbers; what lives on told by a list of numbers. -/
set_option linter.unusedVariables false
set_option linter.unusedSimpArgs false
namespace Go.Vh
variable {P : Program} {N : Nat}
/-! ### Rows of numbers -/
def nums (k : IntKind) (l : List Int) : List AVal := l.map (AVal.int k)
theorem ints_nums (l : List Int) : ints l = nums .i64 l := rfl
theorem nums_length (k : IntKind) (l : List Int) : (nums k l).length = l.length := by simp [nums]
theorem nums_get (k : IntKind) (l : List Int) (j : Nat) : (nums k l)[j]? = (l[j]?).map (AVal.int k) := by simp [nums]
theorem rens_nums (κ : Nat → Nat) (k : IntKind) (l : List Int) : rens κ (nums k l) = nums k l := by
  induction l with
  | nil => rfl
  | cons a l ih => simp only [nums, List.map_cons, rens, ren] at ih ⊢; rw [ih]
theorem nums_append (k : IntKind) (l m : List Int) : nums k l ++ nums k m = nums k (l ++ m) := by simp [nums]
theorem nums_scalar (k : IntKind) (l : List Int) : (nums k l).all AVal.scalar = true := by simp [nums, AVal.scalar]
theorem nums_drop (k : IntKind) (l : List Int) (n : Nat) : (nums k l).drop n = nums k (l.drop n) := by simp [nums, List.map_drop]
theorem nums_take (k : IntKind) (l : List Int) (n : Nat) : (nums k l).take n = nums k (l.take n) := by simp [nums, List.map_take]
theorem zeros_nums (k : IntKind) (n : Nat) : zerosA [.int k 0] n = nums k (List.replicate n 0) := by rw [zerosA_one]; simp [nums]
theorem Gets.loadK {H : AHeap} {t : TypeId} {ti : TI} {i off : Nat} {k : IntKind} {l : List Int} {A : AVal → Prop} (ht : tinfo P t = some ti) (hag : ti.agg = false) (hf : (H.f i).cs = nums k l) (h : off < l.length) (hA : A (.int k l[off])) : Gets (loadA P H t (.ptr i off)) A :=
  ⟨⟨_, by simp only [loadA, ht, AHeap.load, hag, Bool.false_eq_true, if_false, hf, nums_get, List.getElem?_eq_getElem h, Option.map_some], hA⟩⟩
theorem Gets.storeK {H : AHeap} {t : TypeId} {ti : TI} {i off es : Nat} {k : IntKind} {x : Int} {l : List Int} {A : AHeap → Prop} (ht : tinfo P t = some ti) (hsz : ti.size = 1) (hf : H.f i = .cells es (nums k l)) (h : off < l.length) (hA : A (H.set i (.cells es (nums k (l.set off x))))) : Gets (storeA P H t (.ptr i off) (.int k x)) A := by
  refine ⟨⟨_, ?_, hA⟩⟩
  simp only [storeA, AVal.cells, AVal.scalar, if_true, ht, hsz, List.length_singleton, AHeap.store, hf, nums_length, List.all_cons, List.all_nil, Bool.and_true]
  rw [if_pos ⟨by omega, trivial⟩]
  congr 3
  rw [nums_take, nums_drop, show [AVal.int k x] = nums k [x] from rfl, nums_append, nums_append]
  congr 1
  rw [List.set_eq_take_append_cons_drop, if_pos h]
  simp
/-- A row made anew. -/
theorem Gets.make {H : AHeap} {t : TypeId} {ti : TI} {k k1 k2 : IntKind} {n : Int} {A : AVal × AHeap → Prop} (ht : sliceT P t = some ti) (hz : ti.zero = [.int k 0]) (hsz : ti.size = 1) (hb : ti.bytes ≤ 4096) (h0 : 0 ≤ n) (h1 : n ≤ 4294967296)
    (hA : A (.slice H.n 0 n.toNat, H.alloc (.cells 1 (nums k (List.replicate n.toNat 0))))) : Gets (amakeSlice P H t (.int k1 n) (.int k2 n)) A := by
  refine ⟨⟨_, ?_, hA⟩⟩
  simp only [amakeSlice, ht, hz, hsz, List.length_singleton]
  rw [if_pos ⟨h0, Int.le_refl _, h1, hb, by decide⟩, Nat.mul_one, zeros_nums]
/-- One more number behind a row. -/
theorem Gets.appendK {H : AHeap} {t tx : TypeId} {ti : TI} {d : TypeDesc} {i j : Nat} {k : IntKind} {l : List Int} {x : Int} {A : AVal × AHeap → Prop} (ht : sliceT P t = some ti) (hd : P.underlying tx = some d) (hr : rowD d = true) (hsz : ti.size = 1) (hz : ti.zero.length = 1) (hb : ti.bytes ≤ 4096)
    (hx : H.f j = .cells 1 [.int k x]) (hf : H.f i = .cells 1 (nums k l)) (hl : l.length < 4294967296)
    (hA : A (.slice H.n 0 (l.length + 1), (H.set i .dead).alloc (.cells 1 (nums k (l ++ [x]))))) : Gets (builtA P H .append [t, tx] [.slice i 0 l.length, .slice j 0 1]) A := by
  refine ⟨⟨_, ?_, hA⟩⟩
  simp only [builtA, apureB, amemB, app2 hd hr, aappend, ht, hd]
  rw [if_pos ⟨hr, hb, by rw [hz, hsz]⟩]
  simp only [srcA, hx, hf, hsz, List.length_cons, List.length_nil, List.drop_zero, nums_length, Nat.zero_add, Nat.mul_one, Nat.le_refl, and_self, if_true, List.take_succ_cons, List.take_zero, List.take_of_length_le]
  rw [if_pos ⟨trivial, trivial, by omega, rfl⟩]
  congr 4
  rw [show [AVal.int k x] = nums k [x] from rfl, ← nums_append]
theorem Gets.appendN {H : AHeap} {t tx : TypeId} {ti : TI} {d : TypeDesc} {j : Nat} {k : IntKind} {x : Int} {A : AVal × AHeap → Prop} (ht : sliceT P t = some ti) (hd : P.underlying tx = some d) (hr : rowD d = true) (hsz : ti.size = 1) (hz : ti.zero.length = 1) (hb : ti.bytes ≤ 4096)
    (hx : H.f j = .cells 1 [.int k x]) (hA : A (.slice H.n 0 1, H.alloc (.cells 1 (nums k [x])))) : Gets (builtA P H .append [t, tx] [.nilSlice, .slice j 0 1]) A := by
  refine ⟨⟨_, ?_, hA⟩⟩
  simp only [builtA, apureB, amemB, app2 hd hr, aappend, ht, hd]
  rw [if_pos ⟨hr, hb, by rw [hz, hsz]⟩]
  simp only [srcA, hx, hsz, List.length_cons, List.length_nil, List.drop_zero, Nat.zero_add, Nat.mul_one, Nat.le_refl, and_self, if_true, List.take_succ_cons, List.take_zero, Nat.succ_ne_self, if_false]
  rfl

/-! ### Structs of five numbers -/
structure Edg where
  fr : Int
  to : Int
  care : Int
  bits : Int
  marks : Int
deriving DecidableEq
instance : Inhabited Edg := ⟨⟨0, 0, 0, 0, 0⟩⟩
def Edg.l (e : Edg) : List Int := [e.fr, e.to, e.care, e.bits, e.marks]
def flat (es : List Edg) : List Int := es.flatMap Edg.l
theorem flat_length : ∀ es : List Edg, (flat es).length = es.length * 5
  | [] => rfl
  | e :: es => by
    have := flat_length es
    simp only [flat, List.flatMap_cons, List.length_append, List.length_cons] at this ⊢
    rw [this]; simp only [Edg.l, List.length_cons, List.length_nil]; omega
theorem flat_drop : ∀ (es : List Edg) (j : Nat), (flat es).drop (j * 5) = flat (es.drop j)
  | es, 0 => by simp
  | [], j + 1 => by simp [flat]
  | e :: es, j + 1 => by
    have := flat_drop es j
    rw [List.drop_succ_cons, ← this]
    simp only [flat, List.flatMap_cons]
    rw [List.drop_append, show e.l.length = 5 from rfl, show (j + 1) * 5 - 5 = j * 5 by omega, List.drop_eq_nil_of_le (by show 5 ≤ _; omega), List.nil_append]
theorem flat_of : ∀ (n : Nat) (l : List Int), l.length = n * 5 → ∃ es : List Edg, l = flat es ∧ es.length = n
  | 0, l, h => ⟨[], by cases l with | nil => rfl | cons a l => simp at h, rfl⟩
  | n + 1, l, h => by
    rcases l with _ | ⟨a, _ | ⟨b, _ | ⟨c, _ | ⟨d, _ | ⟨e, l⟩⟩⟩⟩⟩
    case cons.cons.cons.cons.cons =>
      obtain ⟨es, rfl, he⟩ := flat_of n l (by simp only [List.length_cons] at h; omega)
      exact ⟨⟨a, b, c, d, e⟩ :: es, rfl, by simp [he]⟩
    all_goals (simp only [List.length_cons, List.length_nil] at h; omega)
theorem flat_append (a b : List Edg) : flat (a ++ b) = flat a ++ flat b := by simp [flat]
theorem Gets.loadE {H : AHeap} {t : TypeId} {ti : TI} {i off j : Nat} {es : List Edg} {A : AVal → Prop} (ht : tinfo P t = some ti) (hag : ti.agg = true) (hsz : ti.size = 5) (hf : (H.f i).cs = ints (flat es)) (ho : off = j * 5) (h : j < es.length)
    (hA : A (.agg [.int .i64 es[j].fr, .int .i64 es[j].to, .int .i64 es[j].care, .int .i64 es[j].bits, .int .i64 es[j].marks])) : Gets (loadA P H t (.ptr i off)) A := by
  subst ho
  refine ⟨⟨_, ?_, hA⟩⟩
  simp only [loadA, ht, AHeap.load, hag, if_true, hsz, hf, ints_length, flat_length]
  rw [if_pos (by omega)]
  congr 2
  have : ((ints (flat es)).drop (j * 5)).take 5 = ints (((flat es).drop (j * 5)).take 5) := by simp [ints, List.map_take, List.map_drop]
  rw [this, flat_drop, List.drop_eq_getElem_cons h]
  rfl
/-- One field of it. -/
theorem flat_get (es : List Edg) (j f : Nat) (h : j < es.length) (hf : f < 5) : (flat es)[j * 5 + f]? = es[j].l[f]? := by
  rw [← List.getElem?_drop, flat_drop, List.drop_eq_getElem_cons h]
  simp only [flat, List.flatMap_cons]
  rw [List.getElem?_append_left (by exact hf)]
theorem Gets.loadF {H : AHeap} {t : TypeId} {ti : TI} {i off j f : Nat} {es : List Edg} {A : AVal → Prop} {x : Int} (ht : tinfo P t = some ti) (hag : ti.agg = false) (hf : (H.f i).cs = ints (flat es)) (ho : off = j * 5 + f) (h : j < es.length) (hx : es[j].l[f]? = some x)
    (hA : A (.int .i64 x)) : Gets (loadA P H t (.ptr i off)) A := by
  subst ho
  refine ⟨⟨_, ?_, hA⟩⟩
  have hf5 : f < 5 := (List.getElem?_eq_some_iff.1 hx).1
  simp only [loadA, ht, AHeap.load, hag, Bool.false_eq_true, if_false, hf, ints_get, flat_get es j f h hf5, hx, Option.map_some]

/-! ### What lives on -/
def renL (ks : List Nat) (m : Nat) (i : Nat) : Nat := (ks[i]?).getD (m + i)
inductive AllQ (p : Nat → Prop) : Nat → Nat → Prop
  | nil {i : Nat} : AllQ p i i
  | cons {i n : Nat} : p i → AllQ p (i + 1) n → AllQ p i n
theorem AllQ.at {p : Nat → Prop} {i n : Nat} (h : AllQ p i n) : ∀ j, i ≤ j → j < n → p j := by
  induction h with
  | nil => intro j h1 h2; omega
  | @cons i n hp _ ih =>
    intro j h1 h2
    rcases Nat.eq_or_lt_of_le h1 with h | h
    · exact h ▸ hp
    · exact ih j h h2
inductive AllM (p : Nat → Prop) : List Nat → Prop
  | nil : AllM p []
  | cons {i : Nat} {l : List Nat} : p i → AllM p l → AllM p (i :: l)
theorem AllM.at {p : Nat → Prop} {l : List Nat} (h : AllM p l) : ∀ i ∈ l, p i := by
  induction h with
  | nil => intro i hi; cases hi
  | cons hp _ ih =>
    intro i hi
    rcases List.mem_cons.1 hi with rfl | hi
    · exact hp
    · exact ih i hi
theorem Emb.lits {n0 : Nat} {G H : AHeap} (ks : List Nat) {m : Nat} (hm : H.n = m) (hl : ks.length = G.n) (h0 : Nat.ble n0 G.n = true) (hnd : decide ks.Nodup = true)
    (hfix : AllQ (fun i => renL ks m i = i ∧ G.ver i = H.ver i ∧ ((H.f i).live → (G.f i).live)) 0 n0) (hblk : AllQ (fun i => Nat.blt (renL ks m i) m = true ∧ BSub (renL ks m) (G.f i) (H.f (renL ks m i))) 0 G.n) : Emb n0 (renL ks m) G H := by
  subst hm
  have hnd := of_decide_eq_true hnd
  have h0 := Nat.le_of_ble_eq_true h0
  refine ⟨fun i hi => (hfix.at i (Nat.zero_le i) hi).1, fun i hi => (hfix.at i (Nat.zero_le i) hi).2.1, fun i hi => (hfix.at i (Nat.zero_le i) hi).2.2, h0, fun i hi => ?_, fun i hi => ?_, fun i j hi hj hij _ _ h => ?_⟩
  · unfold renL
    rw [List.getElem?_eq_none (by omega)]
    show H.n ≤ H.n + i
    omega
  · have := hblk.at i (Nat.zero_le i) hi
    exact ⟨Nat.le_of_ble_eq_true this.1, this.2⟩
  · unfold renL at h
    rw [List.getElem?_eq_getElem (by omega), List.getElem?_eq_getElem (by omega)] at h
    have h' : ks[i]'(by omega) = ks[j]'(by omega) := h
    have hp := List.pairwise_iff_getElem.1 hnd
    rcases Nat.lt_or_gt_of_ne hij with h1 | h1
    · exact hp i j (by omega) (by omega) h1 h'
    · exact hp j i (by omega) (by omega) h1 h'.symm
/-- What is kept of the first numbers, as it was. -/
theorem AllQ.kept {p : Nat → Prop} {i n : Nat} (h : ∀ j, i ≤ j → j < n → p j) (hn : i ≤ n) : AllQ p i n := by
  obtain ⟨d, rfl⟩ : ∃ d, n = i + d := ⟨n - i, by omega⟩
  clear hn
  induction d generalizing i with
  | zero => exact .nil
  | succ d ih => exact .cons (h i (Nat.le_refl _) (by omega)) (by rw [show i + (d + 1) = i + 1 + d by omega] at h ⊢; exact ih fun j h1 h2 => h j (by omega) h2)
theorem BSub.same {κ : Nat → Nat} {g : ABlk} (h : renB κ g = g) : BSub κ g g := .inl h.symm
theorem BSub.cellsK {κ : Nat → Nat} {es : Nat} {k : IntKind} {l : List Int} : BSub κ (.cells es (nums k l)) (.cells es (nums k l)) := .same (by rw [renB, rens_nums])
theorem BSub.roK {κ : Nat → Nat} {es : Nat} {k : IntKind} {l : List Int} : BSub κ (.ro es (nums k l)) (.ro es (nums k l)) := .same (by rw [renB, rens_nums])
theorem BSub.roI {κ : Nat → Nat} {es : Nat} {l : List Int} : BSub κ (.ro es (ints l)) (.ro es (ints l)) := BSub.roK
theorem BSub.cellsI {κ : Nat → Nat} {es : Nat} {l : List Int} : BSub κ (.cells es (ints l)) (.cells es (ints l)) := BSub.cellsK
theorem BSub.gone {κ : Nat → Nat} {h : ABlk} : BSub κ .dead h := .inr (.inl (.inl rfl))
/-- An empty row may be told of any block with elements of its size. -/
theorem BSub.roE {κ : Nat → Nat} {es : Nat} {cs : List AVal} : BSub κ (.ro es []) (.ro es cs) := .inr (.inl (.inr ⟨es, rfl, cs, .inl rfl⟩))
theorem BSub.roEc {κ : Nat → Nat} {es : Nat} {cs : List AVal} : BSub κ (.ro es []) (.cells es cs) := .inr (.inl (.inr ⟨es, rfl, cs, .inr rfl⟩))

/-! ### A plan by numbers -/
def mkPlanI (N : Nat) (ops : Array Oper) (off : List Nat) : Nat → Array Bool → Option (List (Nat × Bool × Bool))
  | 0, listed => if Region.ready .any ops listed = [] then some [] else none
  | fuel + 1, listed => match Region.ready .any ops listed with
    | [] => some []
    | r :: rs => match (r :: rs).find? (mayPlan N ops off listed) with
      | some i => match ops[i]? with
        | some _ => (mkPlanI N ops off fuel (listed.setIfInBounds i true)).map fun l => (i, true, false) :: l
        | none => none
      | none => match rs, ops[r]? with
        | [], some o => if okOper N o then (mkPlanI N ops off fuel (listed.setIfInBounds r true)).map fun l => (r, false, noOff off (listed.setIfInBounds r true)) :: l else none
        | _, _ => none
def planI (N : Nat) (ops : Array Oper) : Option (List (Nat × Bool × Bool)) := mkPlanI N ops (offsOf ops) ops.size (Array.replicate ops.size false)
def stepsI (ops : Array Oper) : List (Nat × Bool × Bool) → List PStep
  | [] => []
  | (i, t, c) :: l => match ops[i]? with
    | some o => ⟨o, t, c⟩ :: stepsI ops l
    | none => stepsI ops l
theorem mkPlanI_spec {ops : Array Oper} {off : List Nat} : ∀ (fuel : Nat) (listed : Array Bool) (l : List (Nat × Bool × Bool)), mkPlanI N ops off fuel listed = some l → mkPlan N ops off fuel listed = some (stepsI ops l)
  | 0, listed, l, h => by
    simp only [mkPlanI] at h
    split at h
    · rename_i h0; cases h; simp [mkPlan, h0, stepsI]
    · cases h
  | fuel + 1, listed, l, h => by
    simp only [mkPlanI] at h
    split at h
    · rename_i h0; cases h; simp [mkPlan, h0, stepsI]
    · rename_i r rs h0
      split at h
      · rename_i i hi
        split at h
        · rename_i o ho
          simp only [Option.map_eq_some_iff] at h
          obtain ⟨l', h1, rfl⟩ := h
          simp only [mkPlan, h0, hi, ho, mkPlanI_spec fuel _ _ h1, Option.map_some, stepsI]
        · cases h
      · rename_i hi
        split at h
        · rename_i o h2 ho
          split at h
          · rename_i hok
            simp only [Option.map_eq_some_iff] at h
            obtain ⟨l', h1, rfl⟩ := h
            simp only [mkPlan, h0, hi, ho, hok, if_true, mkPlanI_spec fuel _ _ h1, Option.map_some, stepsI]
          · cases h
        · cases h
/-- All in the text's order, each taken ahead. -/
def takes (n : Nat) : List (Nat × Bool × Bool) := (List.range n).map fun i => (i, true, false)
/-- A statement whose order is open, by a plan that is given in numbers. -/
theorem CodeS.drawI {ρ : Option Nat} {n0 : Nat} {id : Nat} {ops : Array Oper} {e : Env} {H : AHeap} {K : Exit → Env → AHeap → Prop} (held : List Nat) (l : List (Nat × Bool × Bool)) (hm : P.follows .mixedOrders = true) (hok : (okOps N ops && decide (planI N ops = some l)) = true) (hh : AllM (fun i => Nat.blt i H.n = true ∧ (H.f i).live) held)
    (h : splan P ops held (stepsI ops l) e H fun e H => K .normal e H) : CodeS P N ρ n0 (.region id ops true) e H K := by
  simp only [Bool.and_eq_true, decide_eq_true_eq] at hok
  exact CodeS.draw held hm (mkPlanI_spec _ _ _ hok.2) hok.1 (fun i hi => by
    have := hh.at i hi
    exact ⟨Nat.le_of_ble_eq_true this.1, this.2⟩) h
end Go.Vh
