/- Values over an abstract heap, and how they stand for the model's values in its world. -/
import Derived.RangeFuncLeaves
import Derived.OrdersHeld
import Derived.KernelRfl
set_option linter.unusedVariables false
set_option linter.unusedSimpArgs false
namespace Go.Vh

/-- A value; references name abstract blocks. -/
inductive AVal where
  | undef
  | raw (v : Value)
  | int (k : IntKind) (n : Int)
  | bool (b : Bool)
  | str (s : ByteArray)
  | ptr (i off : Nat)
  | slice (i off len : Nat)
  | nilSlice
  | view (i off len : Nat)
  | map (i : Nat)
  | func (f : FuncId) (first captured : List AVal)
  | yield (i : Nat)
  | agg (cs : List AVal)
  | tuple (vs : List AVal)
  deriving Inhabited

/-- Where an abstract block lies: the block, its first cell, cells of an element, cells that belong to it. -/
structure BI where
  blk : Nat
  base : Nat
  es : Nat
  sz : Nat

abbrev PMap := Nat → Option BI

mutual
def VRel (φ : PMap) : AVal → Value → Prop
  | .undef, _ => True
  | .raw v, c => c = v
  | .int k n, c => c = .int k n
  | .bool b, c => c = .bool b
  | .str s, c => c = .string s
  | .ptr i off, c => ∃ b, φ i = some b ∧ c = .pointer (some ⟨b.blk, b.base + off, none⟩)
  | .slice i off len, c => ∃ b cap ad, φ i = some b ∧ c = .slice (some ad) len cap ∧ len ≤ cap ∧ (0 < cap → ad = ⟨b.blk, b.base + off, none⟩ ∧ off + cap * b.es ≤ b.sz)
  | .nilSlice, c => c = .slice none 0 0
  | .view i off len, c => ∃ b, φ i = some b ∧ ((len = 0 ∧ c = .slice none 0 0) ∨ ∃ cap ad, c = .slice (some ad) len cap ∧ len ≤ cap ∧ (0 < cap → ad = ⟨b.blk, b.base + off, none⟩ ∧ off + cap * b.es ≤ b.sz))
  | .map i, c => ∃ b, φ i = some b ∧ c = .map (some b.blk)
  | .func f as bs, c => ∃ cs ds : List Value, c = .func (.func f) cs.toArray ds.toArray ∧ VRels φ as cs ∧ VRels φ bs ds
  | .yield i, c => ∃ b, φ i = some b ∧ c = .func (.yield b.blk) #[] #[]
  | .agg as, c => ∃ cs : List Value, c = .agg cs.toArray ∧ VRels φ as cs
  | .tuple as, c => ∃ cs : List Value, c = .tuple cs.toArray ∧ VRels φ as cs
def VRels (φ : PMap) : List AVal → List Value → Prop
  | [], cs => cs = []
  | v :: vs, cs => ∃ c cs', cs = c :: cs' ∧ VRel φ v c ∧ VRels φ vs cs'
end

theorem VRels_nil {φ : PMap} {cs : List Value} : VRels φ [] cs ↔ cs = [] := by simp [VRels]
theorem VRels_cons {φ : PMap} {v : AVal} {vs : List AVal} {c : Value} {cs : List Value} : VRels φ (v :: vs) (c :: cs) ↔ VRel φ v c ∧ VRels φ vs cs := by
  simp only [VRels]
  constructor
  · rintro ⟨c', cs', h, h1, h2⟩
    injection h with ha hb
    subst ha; subst hb
    exact ⟨h1, h2⟩
  · rintro ⟨h1, h2⟩
    exact ⟨c, cs, rfl, h1, h2⟩
theorem VRels_length {φ : PMap} : ∀ {vs : List AVal} {cs : List Value}, VRels φ vs cs → cs.length = vs.length
  | [], cs, h => by rw [VRels_nil.1 h]; rfl
  | v :: vs, [], h => by simp [VRels] at h
  | v :: vs, c :: cs, h => by simp [VRels_length (VRels_cons.1 h).2]
theorem VRels_iff {φ : PMap} : ∀ {vs : List AVal} {cs : List Value}, VRels φ vs cs ↔ cs.length = vs.length ∧ ∀ (j : Nat) v c, vs[j]? = some v → cs[j]? = some c → VRel φ v c
  | [], cs => by
    rw [VRels_nil]
    constructor
    · rintro rfl; simp
    · rintro ⟨h, _⟩; exact List.eq_nil_of_length_eq_zero h
  | v :: vs, [] => by simp [VRels]
  | v :: vs, c :: cs => by
    rw [VRels_cons, VRels_iff]
    constructor
    · rintro ⟨h1, h2, h3⟩
      refine ⟨by simp [h2], fun j => ?_⟩
      cases j with
      | zero => intro v' c' hv hc; simp at hv hc; subst hv; subst hc; exact h1
      | succ j => intro v' c' hv hc; simp at hv hc; exact h3 j v' c' hv hc
    · rintro ⟨h1, h2⟩
      refine ⟨h2 0 v c rfl rfl, by simpa using h1, fun j v' c' hv hc => h2 (j + 1) v' c' (by simpa using hv) (by simpa using hc)⟩
theorem VRels_get {φ : PMap} {vs : List AVal} {cs : List Value} (h : VRels φ vs cs) {j : Nat} {v : AVal} (hv : vs[j]? = some v) : ∃ c, cs[j]? = some c ∧ VRel φ v c := by
  obtain ⟨hl, h⟩ := VRels_iff.1 h
  have hj : j < vs.length := (List.getElem?_eq_some_iff.1 hv).1
  refine ⟨cs[j]'(by omega), by simp [List.getElem?_eq_getElem (show j < cs.length by omega)], h j v _ hv (by simp [List.getElem?_eq_getElem (show j < cs.length by omega)])⟩
theorem VRels_append {φ : PMap} {vs us : List AVal} {cs ds : List Value} (h : VRels φ vs cs) (h' : VRels φ us ds) : VRels φ (vs ++ us) (cs ++ ds) := by
  induction vs generalizing cs with
  | nil => rw [VRels_nil.1 h]; exact h'
  | cons v vs ih =>
    cases cs with
    | nil => simp [VRels] at h
    | cons c cs => exact VRels_cons.2 ⟨(VRels_cons.1 h).1, ih (VRels_cons.1 h).2⟩
theorem VRels_take {φ : PMap} {vs : List AVal} {cs : List Value} (h : VRels φ vs cs) (n : Nat) : VRels φ (vs.take n) (cs.take n) := by
  rw [VRels_iff] at *
  refine ⟨by simp [h.1], fun j v c hv hc => ?_⟩
  rw [List.getElem?_take] at hv hc
  split at hv
  · rename_i hlt
    simp [hlt] at hc
    exact h.2 j v c hv hc
  · simp at hv
theorem VRels_drop {φ : PMap} {vs : List AVal} {cs : List Value} (h : VRels φ vs cs) (n : Nat) : VRels φ (vs.drop n) (cs.drop n) := by
  rw [VRels_iff] at *
  refine ⟨by simp [h.1], fun j v c hv hc => ?_⟩
  rw [List.getElem?_drop] at hv hc
  exact h.2 _ v c hv hc
theorem VRels_set {φ : PMap} {vs : List AVal} {cs : List Value} (h : VRels φ vs cs) (n : Nat) {v : AVal} {c : Value} (hv : VRel φ v c) : VRels φ (vs.set n v) (cs.set n c) := by
  rw [VRels_iff] at *
  refine ⟨by simp [h.1], fun j v' c' hv' hc' => ?_⟩
  rw [List.getElem?_set] at hv' hc'
  split at hv'
  · rename_i hnj
    subst hnj
    split at hv'
    · rename_i hlt
      simp [h.1, hlt] at hc'
      simp at hv'
      subst hv'; subst hc'
      exact hv
    · simp at hv'
  · rename_i hne
    simp [hne] at hc'
    exact h.2 j v' c' hv' hc'

/-- One map says at least as much as another. -/
def PLe (φ ψ : PMap) : Prop := ∀ i b, φ i = some b → ψ i = some b
theorem PLe.refl (φ : PMap) : PLe φ φ := fun _ _ h => h
theorem PLe.trans {φ ψ χ : PMap} (h : PLe φ ψ) (k : PLe ψ χ) : PLe φ χ := fun i b x => k i b (h i b x)

mutual
theorem VRel_mono {φ ψ : PMap} (h : PLe φ ψ) : ∀ (v : AVal) (c : Value), VRel φ v c → VRel ψ v c
  | .undef, _, _ => by simp [VRel]
  | .raw _, _, hv => by simpa [VRel] using hv
  | .int _ _, _, hv => by simpa [VRel] using hv
  | .bool _, _, hv => by simpa [VRel] using hv
  | .str _, _, hv => by simpa [VRel] using hv
  | .ptr i off, _, hv => by
    simp only [VRel] at *
    obtain ⟨b, hb, rfl⟩ := hv
    exact ⟨b, h _ _ hb, rfl⟩
  | .slice i off len, _, hv => by
    simp only [VRel] at *
    obtain ⟨b, cap, ad, hb, hr⟩ := hv
    exact ⟨b, cap, ad, h _ _ hb, hr⟩
  | .nilSlice, _, hv => by simpa [VRel] using hv
  | .view i off len, _, hv => by
    simp only [VRel] at *
    obtain ⟨b, hb, hr⟩ := hv
    exact ⟨b, h _ _ hb, hr⟩
  | .map i, _, hv => by
    simp only [VRel] at *
    obtain ⟨b, hb, rfl⟩ := hv
    exact ⟨b, h _ _ hb, rfl⟩
  | .func f as bs, _, hv => by
    simp only [VRel] at *
    obtain ⟨cs, ds, rfl, h1, h2⟩ := hv
    exact ⟨cs, ds, rfl, VRels_mono h as cs h1, VRels_mono h bs ds h2⟩
  | .yield i, _, hv => by
    simp only [VRel] at *
    obtain ⟨b, hb, rfl⟩ := hv
    exact ⟨b, h _ _ hb, rfl⟩
  | .agg as, _, hv => by
    simp only [VRel] at *
    obtain ⟨cs, rfl, h1⟩ := hv
    exact ⟨cs, rfl, VRels_mono h as cs h1⟩
  | .tuple as, _, hv => by
    simp only [VRel] at *
    obtain ⟨cs, rfl, h1⟩ := hv
    exact ⟨cs, rfl, VRels_mono h as cs h1⟩
theorem VRels_mono {φ ψ : PMap} (h : PLe φ ψ) : ∀ (vs : List AVal) (cs : List Value), VRels φ vs cs → VRels ψ vs cs
  | [], cs, hv => by simpa [VRels] using hv
  | v :: vs, [], hv => by simp [VRels] at hv
  | v :: vs, c :: cs, hv => VRels_cons.2 ⟨VRel_mono h v c (VRels_cons.1 hv).1, VRels_mono h vs cs (VRels_cons.1 hv).2⟩
end

/-- A loop over a function that is under way. -/
structure ALoop where
  env : Nat → AVal
  ntmps : Nat
  params : List Nat
  assign : Code
  body : Code
  pending : Option Code
  state : LoopState
  deriving Inhabited

inductive ABlk where
  | dead
  | cells (es : Nat) (cs : List AVal)
  | ro (es : Nat) (cs : List AVal)
  | map (es : List (AVal × AVal))
  | loop (r : ALoop)
  deriving Inhabited

/-- Blocks that the code may write. -/
def ABlk.rw : ABlk → Prop
  | .cells _ _ | .map _ | .loop _ => True
  | _ => False
def ABlk.live : ABlk → Prop
  | .dead => False
  | .ro _ cs => cs ≠ []
  | _ => True

/-- The heap: how many numbers there are, what each says, and how often each has been written. -/
structure AHeap where
  n : Nat
  f : Nat → ABlk
  ver : Nat → Nat

def AHeap.alloc (H : AHeap) (b : ABlk) : AHeap := ⟨H.n + 1, fun i => if i = H.n then b else H.f i, H.ver⟩
def AHeap.set (H : AHeap) (i : Nat) (b : ABlk) : AHeap := ⟨H.n, fun j => if j = i then b else H.f j, fun j => if j = i then H.ver j + 1 else H.ver j⟩
theorem alloc_ver (H : AHeap) (b : ABlk) : (H.alloc b).ver = H.ver := rfl
theorem set_ver (H : AHeap) (i : Nat) (b : ABlk) (j : Nat) : (H.set i b).ver j = if j = i then H.ver j + 1 else H.ver j := rfl
theorem alloc_n (H : AHeap) (b : ABlk) : (H.alloc b).n = H.n + 1 := rfl
theorem set_n (H : AHeap) (i : Nat) (b : ABlk) : (H.set i b).n = H.n := rfl
theorem alloc_f (H : AHeap) (b : ABlk) (i : Nat) : (H.alloc b).f i = if i = H.n then b else H.f i := rfl
theorem set_f (H : AHeap) (i : Nat) (b : ABlk) (j : Nat) : (H.set i b).f j = if j = i then b else H.f j := rfl

abbrev Env := Nat → AVal
def upd (e : Env) (d : Nat) (v : AVal) : Env := fun t => if t = d then v else e t
theorem upd_same (e : Env) (d : Nat) (v : AVal) : upd e d v d = v := by simp [upd]
theorem upd_ne (e : Env) {d t : Nat} (v : AVal) (h : t ≠ d) : upd e d v t = e t := by simp [upd, h]

/-- The temporaries hold what the environment says. -/
def ERel (φ : PMap) (N : Nat) (e : Env) (tmps : Array Value) : Prop := tmps.size = N ∧ ∀ t, VRel φ (e t) (tmps.getD t undef) ∨ e t = .undef
theorem ERel.get {φ : PMap} {N : Nat} {e : Env} {tmps : Array Value} (h : ERel φ N e tmps) (t : Nat) : VRel φ (e t) (tmps.getD t Go.undef) := by
  rcases h.2 t with h | h
  · exact h
  · rw [h]; simp [VRel]
theorem ERel.mono {φ ψ : PMap} {N : Nat} {e : Env} {tmps : Array Value} (h : ERel φ N e tmps) (k : PLe φ ψ) : ERel ψ N e tmps :=
  ⟨h.1, fun t => (h.2 t).imp (VRel_mono k _ _) id⟩
theorem ERel.put {φ : PMap} {N : Nat} {e : Env} {tmps : Array Value} (h : ERel φ N e tmps) {d : Nat} (hd : d < N) {v : AVal} {c : Value} (hv : VRel φ v c) :
    ERel φ N (upd e d v) (tmps.setIfInBounds d c) := by
  refine ⟨by simp [h.1], fun t => ?_⟩
  by_cases ht : t = d
  · subst ht
    left
    rw [upd_same]
    have : t < tmps.size := by rw [h.1]; exact hd
    simpa [this] using hv
  · rw [upd_ne _ _ ht]
    have h2 := h.2 t
    simpa [Array.getElem?_setIfInBounds_ne (Ne.symm ht)] using h2

/-- What is told of a map's entries. -/
def MRels (φ : PMap) : List (AVal × AVal) → List MapEntry → Prop
  | [], es => es = []
  | (k, v) :: r, es => ∃ e es', es = e :: es' ∧ VRel φ k e.key ∧ VRel φ v e.val ∧ MRels φ r es'
theorem MRels_mono {φ ψ : PMap} (h : PLe φ ψ) : ∀ {r : List (AVal × AVal)} {es : List MapEntry}, MRels φ r es → MRels ψ r es
  | [], es, hv => by simpa [MRels] using hv
  | (k, v) :: r, es, hv => by
    obtain ⟨e, es', rfl, h1, h2, h3⟩ := hv
    exact ⟨e, es', rfl, VRel_mono h _ _ h1, VRel_mono h _ _ h2, MRels_mono h h3⟩

def LRel (φ : PMap) (r : ALoop) (l : Loop) : Prop :=
  l.state = r.state ∧ l.pending = r.pending ∧ ERel φ r.ntmps r.env l.tmps ∧ l.params.toList = r.params ∧ l.assign = r.assign ∧ l.body = r.body

/-- What an abstract block says of the world. -/
def BRel (φ : PMap) (w : World) (b : BI) : ABlk → Prop
  | .dead => True
  | .cells es cs => b.es = es ∧ ∃ (arr : Array Value) (elem : TypeId), w.heap[b.blk]? = some (.cells arr elem (0, 0)) ∧ b.base + b.sz ≤ arr.size ∧ cs.length ≤ b.sz ∧ VRels φ cs ((arr.toList.drop b.base).take cs.length)
  | .ro es cs => b.es = es ∧ ∀ (j : Nat) v, cs[j]? = some v → ∃ c, w.cell? ⟨b.blk, b.base + j, none⟩ = some c ∧ VRel φ v c
  | .map es => ∃ (ents : Array MapEntry) (clock : Nat), w.heap[b.blk]? = some (.map ents clock) ∧ MRels φ es ents.toList
  | .loop r => ∃ l, w.heap[b.blk]? = some (.loop l) ∧ LRel φ r l

structure Rel (φ : PMap) (H : AHeap) (w : World) : Prop where
  dom : ∀ i, H.n ≤ i → φ i = none
  has : ∀ i, i < H.n → ∃ b, φ i = some b
  blk : ∀ i b, φ i = some b → BRel φ w b (H.f i)
  inj : ∀ i j b c, φ i = some b → φ j = some c → i ≠ j → (H.f i).rw → (H.f j).live → b.blk ≠ c.blk
  lt : ∀ i b, φ i = some b → (H.f i).rw → b.blk < w.heap.size

def Own (φ : PMap) (H : AHeap) (k : Nat) : Prop := ∃ i b, φ i = some b ∧ (H.f i).rw ∧ b.blk = k

/-- From one moment to a later one: what is not the code's own is as it was. -/
structure Ext (φ : PMap) (H : AHeap) (w : World) (φ' : PMap) (H' : AHeap) (w' : World) : Prop where
  le : PLe φ φ'
  size : w.heap.size ≤ w'.heap.size
  keep : ∀ k, k < w.heap.size → ¬ Own φ H k → w'.heap[k]? = w.heap[k]?
  own : ∀ k, Own φ' H' k → Own φ H k ∨ w.heap.size ≤ k
  os : w'.os = w.os
  tape : w'.tape = w.tape
  output : w'.output = w.output
  num : H.n ≤ H'.n
  ver : ∀ i b, φ i = some b → H.ver i ≤ H'.ver i
  same : ∀ i b, φ i = some b → (H.f i).live → H'.ver i = H.ver i → (H'.f i).live ∧ w'.heap[b.blk]? = w.heap[b.blk]?

theorem Ext.refl (φ : PMap) (H : AHeap) (w : World) : Ext φ H w φ H w := ⟨PLe.refl φ, Nat.le_refl _, fun _ _ _ => rfl, fun _ h => .inl h, rfl, rfl, rfl, Nat.le_refl _, fun _ _ _ => Nat.le_refl _, fun _ _ _ h _ => ⟨h, rfl⟩⟩
theorem Ext.trans {φ φ' φ'' : PMap} {H H' H'' : AHeap} {w w' w'' : World} (h : Ext φ H w φ' H' w') (k : Ext φ' H' w' φ'' H'' w'') : Ext φ H w φ'' H'' w'' := by
  refine ⟨h.le.trans k.le, Nat.le_trans h.size k.size, fun b hb hn => ?_, fun b hb => ?_, k.os.trans h.os, k.tape.trans h.tape, k.output.trans h.output, Nat.le_trans h.num k.num, fun i b hb => Nat.le_trans (h.ver i b hb) (k.ver i b (h.le i b hb)), fun i b hb hl hv => ?_⟩
  · rw [k.keep b (Nat.lt_of_lt_of_le hb h.size) (fun ho => ?_), h.keep b hb hn]
    rcases h.own b ho with h1 | h1
    · exact hn h1
    · omega
  · rcases k.own b hb with h1 | h1
    · exact h.own b h1
    · exact .inr (Nat.le_trans h.size h1)
  · have h1 := h.ver i b hb
    have h2 := k.ver i b (h.le i b hb)
    obtain ⟨hl', hs⟩ := h.same i b hb hl (by omega)
    obtain ⟨hl'', hs'⟩ := k.same i b (h.le i b hb) hl' (by omega)
    exact ⟨hl'', hs'.trans hs⟩

/-- A drawn order changes nothing. -/
theorem Rel.drew {φ : PMap} {H : AHeap} {w : World} (h : Rel φ H w) (n : Nat) : Rel φ H { w with drawn := n } :=
  ⟨h.dom, h.has, fun i b hb => by
    have := h.blk i b hb
    cases hH : H.f i <;> simp only [hH, BRel] at this ⊢ <;> exact this, h.inj, h.lt⟩
theorem Ext.drew (φ : PMap) (H : AHeap) (w : World) (n : Nat) : Ext φ H w φ H { w with drawn := n } := ⟨PLe.refl φ, Nat.le_refl _, fun _ _ _ => rfl, fun _ h => .inl h, rfl, rfl, rfl, Nat.le_refl _, fun _ _ _ => Nat.le_refl _, fun _ _ _ h _ => ⟨h, rfl⟩⟩
end Go.Vh
