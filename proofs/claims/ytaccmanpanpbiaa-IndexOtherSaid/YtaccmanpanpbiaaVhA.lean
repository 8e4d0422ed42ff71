import Derived.RangeFuncLeaves
import Derived.OrdersHeld
import Derived.KernelRfl
import Derived.WalkKit
import Derived.Laws.StructEq
import Derived.ChangeKeysEq
import Derived.MapKept
import Derived.WideKeyRuns
/- Values over an abstract heap, and how they stand for the model's values in its world. -/
set_option linter.unusedVariables false
set_option linter.unusedSimpArgs false
namespace Go.Vh

/-- A value; references name abstract blocks. -/
inductive AVal where
  | undef
  | raw (v : Value)
  | int (k : IntKind) (n : Int)
  | bool (b : Bool)
  | str (s : ByteArray)
  | ptr (i off : Nat)
  | slice (i off len : Nat)
  | nilSlice
  | view (i off len : Nat)
  | map (i : Nat)
  | func (f : FuncId) (first captured : List AVal)
  | yield (i : Nat)
  | agg (cs : List AVal)
  | tuple (vs : List AVal)
  | row (n : Nat) (cs : List AVal)
  | rptr (cs : List AVal) (off : Nat)
  deriving Inhabited

/-- Where an abstract block lies: the block, its first cell, cells of an element, cells that belong to it. -/
structure BI where
  blk : Nat
  base : Nat
  es : Nat
  sz : Nat

/-- Where the numbers lie; and what lies in blocks that nothing will write any more. -/
structure PMap where
  m : Nat → Option BI
  z : Nat → Option Obj
instance : CoeFun PMap (fun _ => Nat → Option BI) := ⟨PMap.m⟩
abbrev ZMap := Nat → Option Obj
mutual
/-- A value without numbers: its rows lie in blocks that nothing will write any more. -/
def ZRel (z : ZMap) : AVal → Value → Prop
  | .int k n, c => c = .int k n
  | .bool b, c => c = .bool b
  | .str s, c => c = .string s
  | .nilSlice, c => c = .slice none 0 0
  | .row n cs, c => (n = 0 ∧ c = .slice none 0 0) ∨ ∃ cap ad, c = .slice (some ad) n cap ∧ n ≤ cap ∧ (0 < cap → ad.spot = none) ∧ (0 < n → ∃ (arr : Array Value) (el : TypeId) (fr : Nat × Nat) (l : List Value), z ad.block = some (.cells arr el fr) ∧ ZRels z cs l ∧ ∀ (j : Nat) c, l[j]? = some c → arr[ad.off + j]? = some c)
  | .agg as, c => ∃ cs : List Value, c = .agg cs.toArray ∧ ZRels z as cs
  | .tuple as, c => ∃ cs : List Value, c = .tuple cs.toArray ∧ ZRels z as cs
  | _, _ => False
def ZRels (z : ZMap) : List AVal → List Value → Prop
  | [], cs => cs = []
  | v :: vs, cs => ∃ c cs', cs = c :: cs' ∧ ZRel z v c ∧ ZRels z vs cs'
end
/-- A row's cells, from a place on. -/
def ZRow (z : ZMap) (cs : List AVal) (blk off : Nat) : Prop := ∃ (arr : Array Value) (el : TypeId) (fr : Nat × Nat) (l : List Value), z blk = some (.cells arr el fr) ∧ ZRels z cs l ∧ ∀ (j : Nat) c, l[j]? = some c → arr[off + j]? = some c
def ZLe (z y : ZMap) : Prop := ∀ k o, z k = some o → y k = some o
mutual
theorem ZRel_mono {z y : ZMap} (h : ZLe z y) : ∀ (v : AVal) (c : Value), ZRel z v c → ZRel y v c
  | .int _ _, _, hv => by simpa [ZRel] using hv
  | .bool _, _, hv => by simpa [ZRel] using hv
  | .str _, _, hv => by simpa [ZRel] using hv
  | .nilSlice, _, hv => by simpa [ZRel] using hv
  | .row n cs, _, hv => by
    simp only [ZRel] at *
    rcases hv with hv | ⟨cap, ad, h1, h2, h4, h3⟩
    · exact .inl hv
    · refine .inr ⟨cap, ad, h1, h2, h4, fun hn => ?_⟩
      obtain ⟨arr, el, fr, l, h5, h6, h7⟩ := h3 hn
      exact ⟨arr, el, fr, l, h _ _ h5, ZRels_mono h cs l h6, h7⟩
  | .agg as, _, hv => by
    simp only [ZRel] at *
    obtain ⟨cs, h1, h2⟩ := hv
    exact ⟨cs, h1, ZRels_mono h as cs h2⟩
  | .tuple as, _, hv => by
    simp only [ZRel] at *
    obtain ⟨cs, h1, h2⟩ := hv
    exact ⟨cs, h1, ZRels_mono h as cs h2⟩
  | .undef, _, hv => by simp [ZRel] at hv
  | .raw _, _, hv => by simp [ZRel] at hv
  | .ptr _ _, _, hv => by simp [ZRel] at hv
  | .slice _ _ _, _, hv => by simp [ZRel] at hv
  | .view _ _ _, _, hv => by simp [ZRel] at hv
  | .map _, _, hv => by simp [ZRel] at hv
  | .func _ _ _, _, hv => by simp [ZRel] at hv
  | .yield _, _, hv => by simp [ZRel] at hv
  | .rptr _ _, _, hv => by simp [ZRel] at hv
theorem ZRels_mono {z y : ZMap} (h : ZLe z y) : ∀ (vs : List AVal) (cs : List Value), ZRels z vs cs → ZRels y vs cs
  | [], _, hv => by simpa [ZRels] using hv
  | v :: vs, cs, hv => by
    simp only [ZRels] at *
    obtain ⟨c, cs', h1, h2, h3⟩ := hv
    exact ⟨c, cs', h1, ZRel_mono h v c h2, ZRels_mono h vs cs' h3⟩
end
theorem ZRow.mono {z y : ZMap} (h : ZLe z y) {cs : List AVal} {b o : Nat} : ZRow z cs b o → ZRow y cs b o := fun ⟨arr, el, fr, l, h1, h2, h3⟩ => ⟨arr, el, fr, l, h _ _ h1, ZRels_mono h cs l h2, h3⟩

mutual
def VRel (φ : PMap) : AVal → Value → Prop
  | .undef, _ => True
  | .raw v, c => c = v
  | .int k n, c => c = .int k n
  | .bool b, c => c = .bool b
  | .str s, c => c = .string s
  | .ptr i off, c => ∃ b, φ i = some b ∧ c = .pointer (some ⟨b.blk, b.base + off, none⟩)
  | .slice i off len, c => ∃ b cap ad, φ i = some b ∧ c = .slice (some ad) len cap ∧ len ≤ cap ∧ (0 < cap → ad = ⟨b.blk, b.base + off, none⟩ ∧ off + cap * b.es ≤ b.sz)
  | .nilSlice, c => c = .slice none 0 0
  | .view i off len, c => ∃ b, φ i = some b ∧ ((len = 0 ∧ c = .slice none 0 0) ∨ ∃ cap ad, c = .slice (some ad) len cap ∧ len ≤ cap ∧ (0 < cap → ad = ⟨b.blk, b.base + off, none⟩ ∧ off + cap * b.es ≤ b.sz))
  | .map i, c => ∃ b, φ i = some b ∧ c = .map (some b.blk)
  | .func f as bs, c => ∃ cs ds : List Value, c = .func (.func f) cs.toArray ds.toArray ∧ VRels φ as cs ∧ VRels φ bs ds
  | .yield i, c => ∃ b, φ i = some b ∧ c = .func (.yield b.blk) #[] #[]
  | .agg as, c => ∃ cs : List Value, c = .agg cs.toArray ∧ VRels φ as cs
  | .tuple as, c => ∃ cs : List Value, c = .tuple cs.toArray ∧ VRels φ as cs
  | .row n cs, c => ZRel φ.z (.row n cs) c
  | .rptr cs off, c => ∃ blk o, c = .pointer (some ⟨blk, o + off, none⟩) ∧ ZRow φ.z cs blk o
def VRels (φ : PMap) : List AVal → List Value → Prop
  | [], cs => cs = []
  | v :: vs, cs => ∃ c cs', cs = c :: cs' ∧ VRel φ v c ∧ VRels φ vs cs'
end

theorem VRels_nil {φ : PMap} {cs : List Value} : VRels φ [] cs ↔ cs = [] := by simp [VRels]
theorem VRels_cons {φ : PMap} {v : AVal} {vs : List AVal} {c : Value} {cs : List Value} : VRels φ (v :: vs) (c :: cs) ↔ VRel φ v c ∧ VRels φ vs cs := by
  simp only [VRels]
  constructor
  · rintro ⟨c', cs', h, h1, h2⟩
    injection h with ha hb
    subst ha; subst hb
    exact ⟨h1, h2⟩
  · rintro ⟨h1, h2⟩
    exact ⟨c, cs, rfl, h1, h2⟩
theorem VRels_length {φ : PMap} : ∀ {vs : List AVal} {cs : List Value}, VRels φ vs cs → cs.length = vs.length
  | [], cs, h => by rw [VRels_nil.1 h]; rfl
  | v :: vs, [], h => by simp [VRels] at h
  | v :: vs, c :: cs, h => by simp [VRels_length (VRels_cons.1 h).2]
theorem VRels_iff {φ : PMap} : ∀ {vs : List AVal} {cs : List Value}, VRels φ vs cs ↔ cs.length = vs.length ∧ ∀ (j : Nat) v c, vs[j]? = some v → cs[j]? = some c → VRel φ v c
  | [], cs => by
    rw [VRels_nil]
    constructor
    · rintro rfl; simp
    · rintro ⟨h, _⟩; exact List.eq_nil_of_length_eq_zero h
  | v :: vs, [] => by simp [VRels]
  | v :: vs, c :: cs => by
    rw [VRels_cons, VRels_iff]
    constructor
    · rintro ⟨h1, h2, h3⟩
      refine ⟨by simp [h2], fun j => ?_⟩
      cases j with
      | zero => intro v' c' hv hc; simp at hv hc; subst hv; subst hc; exact h1
      | succ j => intro v' c' hv hc; simp at hv hc; exact h3 j v' c' hv hc
    · rintro ⟨h1, h2⟩
      refine ⟨h2 0 v c rfl rfl, by simpa using h1, fun j v' c' hv hc => h2 (j + 1) v' c' (by simpa using hv) (by simpa using hc)⟩
theorem VRels_get {φ : PMap} {vs : List AVal} {cs : List Value} (h : VRels φ vs cs) {j : Nat} {v : AVal} (hv : vs[j]? = some v) : ∃ c, cs[j]? = some c ∧ VRel φ v c := by
  obtain ⟨hl, h⟩ := VRels_iff.1 h
  have hj : j < vs.length := (List.getElem?_eq_some_iff.1 hv).1
  refine ⟨cs[j]'(by omega), by simp [List.getElem?_eq_getElem (show j < cs.length by omega)], h j v _ hv (by simp [List.getElem?_eq_getElem (show j < cs.length by omega)])⟩
theorem VRels_append {φ : PMap} {vs us : List AVal} {cs ds : List Value} (h : VRels φ vs cs) (h' : VRels φ us ds) : VRels φ (vs ++ us) (cs ++ ds) := by
  induction vs generalizing cs with
  | nil => rw [VRels_nil.1 h]; exact h'
  | cons v vs ih =>
    cases cs with
    | nil => simp [VRels] at h
    | cons c cs => exact VRels_cons.2 ⟨(VRels_cons.1 h).1, ih (VRels_cons.1 h).2⟩
theorem VRels_take {φ : PMap} {vs : List AVal} {cs : List Value} (h : VRels φ vs cs) (n : Nat) : VRels φ (vs.take n) (cs.take n) := by
  rw [VRels_iff] at *
  refine ⟨by simp [h.1], fun j v c hv hc => ?_⟩
  rw [List.getElem?_take] at hv hc
  split at hv
  · rename_i hlt
    simp [hlt] at hc
    exact h.2 j v c hv hc
  · simp at hv
theorem VRels_drop {φ : PMap} {vs : List AVal} {cs : List Value} (h : VRels φ vs cs) (n : Nat) : VRels φ (vs.drop n) (cs.drop n) := by
  rw [VRels_iff] at *
  refine ⟨by simp [h.1], fun j v c hv hc => ?_⟩
  rw [List.getElem?_drop] at hv hc
  exact h.2 _ v c hv hc
theorem VRels_set {φ : PMap} {vs : List AVal} {cs : List Value} (h : VRels φ vs cs) (n : Nat) {v : AVal} {c : Value} (hv : VRel φ v c) : VRels φ (vs.set n v) (cs.set n c) := by
  rw [VRels_iff] at *
  refine ⟨by simp [h.1], fun j v' c' hv' hc' => ?_⟩
  rw [List.getElem?_set] at hv' hc'
  split at hv'
  · rename_i hnj
    subst hnj
    split at hv'
    · rename_i hlt
      simp [h.1, hlt] at hc'
      simp at hv'
      subst hv'; subst hc'
      exact hv
    · simp at hv'
  · rename_i hne
    simp [hne] at hc'
    exact h.2 j v' c' hv' hc'

/-- One map says at least as much as another. -/
structure PLe (φ ψ : PMap) : Prop where
  m : ∀ i b, φ i = some b → ψ i = some b
  z : ZLe φ.z ψ.z
instance {φ ψ : PMap} : CoeFun (PLe φ ψ) (fun _ => ∀ i b, φ i = some b → ψ i = some b) := ⟨PLe.m⟩
theorem PLe.refl (φ : PMap) : PLe φ φ := ⟨fun _ _ h => h, fun _ _ h => h⟩
theorem PLe.trans {φ ψ χ : PMap} (h : PLe φ ψ) (k : PLe ψ χ) : PLe φ χ := ⟨fun i b x => k i b (h i b x), fun i b x => k.z i b (h.z i b x)⟩

mutual
theorem VRel_mono {φ ψ : PMap} (h : PLe φ ψ) : ∀ (v : AVal) (c : Value), VRel φ v c → VRel ψ v c
  | .undef, _, _ => by simp [VRel]
  | .raw _, _, hv => by simpa [VRel] using hv
  | .int _ _, _, hv => by simpa [VRel] using hv
  | .bool _, _, hv => by simpa [VRel] using hv
  | .str _, _, hv => by simpa [VRel] using hv
  | .ptr i off, _, hv => by
    simp only [VRel] at *
    obtain ⟨b, hb, rfl⟩ := hv
    exact ⟨b, h _ _ hb, rfl⟩
  | .slice i off len, _, hv => by
    simp only [VRel] at *
    obtain ⟨b, cap, ad, hb, hr⟩ := hv
    exact ⟨b, cap, ad, h _ _ hb, hr⟩
  | .nilSlice, _, hv => by simpa [VRel] using hv
  | .view i off len, _, hv => by
    simp only [VRel] at *
    obtain ⟨b, hb, hr⟩ := hv
    exact ⟨b, h _ _ hb, hr⟩
  | .map i, _, hv => by
    simp only [VRel] at *
    obtain ⟨b, hb, rfl⟩ := hv
    exact ⟨b, h _ _ hb, rfl⟩
  | .func f as bs, _, hv => by
    simp only [VRel] at *
    obtain ⟨cs, ds, rfl, h1, h2⟩ := hv
    exact ⟨cs, ds, rfl, VRels_mono h as cs h1, VRels_mono h bs ds h2⟩
  | .yield i, _, hv => by
    simp only [VRel] at *
    obtain ⟨b, hb, rfl⟩ := hv
    exact ⟨b, h _ _ hb, rfl⟩
  | .agg as, _, hv => by
    simp only [VRel] at *
    obtain ⟨cs, rfl, h1⟩ := hv
    exact ⟨cs, rfl, VRels_mono h as cs h1⟩
  | .tuple as, _, hv => by
    simp only [VRel] at *
    obtain ⟨cs, rfl, h1⟩ := hv
    exact ⟨cs, rfl, VRels_mono h as cs h1⟩
  | .row n cs, c, hv => by
    rw [VRel] at *
    exact ZRel_mono h.z _ _ hv
  | .rptr cs off, _, hv => by
    rw [VRel] at *
    obtain ⟨blk, o, h1, h2⟩ := hv
    exact ⟨blk, o, h1, h2.mono h.z⟩
theorem VRels_mono {φ ψ : PMap} (h : PLe φ ψ) : ∀ (vs : List AVal) (cs : List Value), VRels φ vs cs → VRels ψ vs cs
  | [], cs, hv => by simpa [VRels] using hv
  | v :: vs, [], hv => by simp [VRels] at hv
  | v :: vs, c :: cs, hv => VRels_cons.2 ⟨VRel_mono h v c (VRels_cons.1 hv).1, VRels_mono h vs cs (VRels_cons.1 hv).2⟩
end

/-- A loop over a function that is under way. -/
structure ALoop where
  env : Nat → AVal
  ntmps : Nat
  params : List Nat
  assign : Code
  body : Code
  pending : Option Code
  state : LoopState
  deriving Inhabited

inductive ABlk where
  | dead
  | cells (es : Nat) (cs : List AVal)
  | ro (es : Nat) (cs : List AVal)
  | map (es : List (AVal × AVal))
  | loop (r : ALoop)
  deriving Inhabited

/-- Blocks that the code may write. -/
def ABlk.rw : ABlk → Prop
  | .cells _ _ | .map _ | .loop _ => True
  | _ => False
def ABlk.live : ABlk → Prop
  | .dead => False
  | .ro _ cs => cs ≠ []
  | _ => True

/-- The heap: how many numbers there are, what each says, and how often each has been written. -/
structure AHeap where
  n : Nat
  f : Nat → ABlk
  ver : Nat → Nat

def AHeap.alloc (H : AHeap) (b : ABlk) : AHeap := ⟨H.n + 1, fun i => if i = H.n then b else H.f i, H.ver⟩
def AHeap.set (H : AHeap) (i : Nat) (b : ABlk) : AHeap := ⟨H.n, fun j => if j = i then b else H.f j, fun j => if j = i then H.ver j + 1 else H.ver j⟩
theorem alloc_ver (H : AHeap) (b : ABlk) : (H.alloc b).ver = H.ver := rfl
theorem set_ver (H : AHeap) (i : Nat) (b : ABlk) (j : Nat) : (H.set i b).ver j = if j = i then H.ver j + 1 else H.ver j := rfl
theorem alloc_n (H : AHeap) (b : ABlk) : (H.alloc b).n = H.n + 1 := rfl
theorem set_n (H : AHeap) (i : Nat) (b : ABlk) : (H.set i b).n = H.n := rfl
theorem alloc_f (H : AHeap) (b : ABlk) (i : Nat) : (H.alloc b).f i = if i = H.n then b else H.f i := rfl
theorem set_f (H : AHeap) (i : Nat) (b : ABlk) (j : Nat) : (H.set i b).f j = if j = i then b else H.f j := rfl

abbrev Env := Nat → AVal
def upd (e : Env) (d : Nat) (v : AVal) : Env := fun t => if t = d then v else e t
theorem upd_same (e : Env) (d : Nat) (v : AVal) : upd e d v d = v := by simp [upd]
theorem upd_ne (e : Env) {d t : Nat} (v : AVal) (h : t ≠ d) : upd e d v t = e t := by simp [upd, h]

/-- The temporaries hold what the environment says. -/
def ERel (φ : PMap) (N : Nat) (e : Env) (tmps : Array Value) : Prop := tmps.size = N ∧ ∀ t, VRel φ (e t) (tmps.getD t undef) ∨ e t = .undef
theorem ERel.get {φ : PMap} {N : Nat} {e : Env} {tmps : Array Value} (h : ERel φ N e tmps) (t : Nat) : VRel φ (e t) (tmps.getD t Go.undef) := by
  rcases h.2 t with h | h
  · exact h
  · rw [h]; simp [VRel]
theorem ERel.mono {φ ψ : PMap} {N : Nat} {e : Env} {tmps : Array Value} (h : ERel φ N e tmps) (k : PLe φ ψ) : ERel ψ N e tmps :=
  ⟨h.1, fun t => (h.2 t).imp (VRel_mono k _ _) id⟩
theorem ERel.put {φ : PMap} {N : Nat} {e : Env} {tmps : Array Value} (h : ERel φ N e tmps) {d : Nat} (hd : d < N) {v : AVal} {c : Value} (hv : VRel φ v c) :
    ERel φ N (upd e d v) (tmps.setIfInBounds d c) := by
  refine ⟨by simp [h.1], fun t => ?_⟩
  by_cases ht : t = d
  · subst ht
    left
    rw [upd_same]
    have : t < tmps.size := by rw [h.1]; exact hd
    simpa [this] using hv
  · rw [upd_ne _ _ ht]
    have h2 := h.2 t
    simpa [Array.getElem?_setIfInBounds_ne (Ne.symm ht)] using h2

/-- What is told of a map's entries. -/
def MRels (φ : PMap) : List (AVal × AVal) → List MapEntry → Prop
  | [], es => es = []
  | (k, v) :: r, es => ∃ e es', es = e :: es' ∧ VRel φ k e.key ∧ VRel φ v e.val ∧ MRels φ r es'
theorem MRels_mono {φ ψ : PMap} (h : PLe φ ψ) : ∀ {r : List (AVal × AVal)} {es : List MapEntry}, MRels φ r es → MRels ψ r es
  | [], es, hv => by simpa [MRels] using hv
  | (k, v) :: r, es, hv => by
    obtain ⟨e, es', rfl, h1, h2, h3⟩ := hv
    exact ⟨e, es', rfl, VRel_mono h _ _ h1, VRel_mono h _ _ h2, MRels_mono h h3⟩

def LRel (φ : PMap) (r : ALoop) (l : Loop) : Prop :=
  l.state = r.state ∧ l.pending = r.pending ∧ ERel φ r.ntmps r.env l.tmps ∧ l.params.toList = r.params ∧ l.assign = r.assign ∧ l.body = r.body

/-- What an abstract block says of the world. -/
def BRel (φ : PMap) (w : World) (b : BI) : ABlk → Prop
  | .dead => True
  | .cells es cs => b.es = es ∧ ∃ (arr : Array Value) (elem : TypeId), w.heap[b.blk]? = some (.cells arr elem (0, 0)) ∧ b.base + b.sz ≤ arr.size ∧ cs.length ≤ b.sz ∧ VRels φ cs ((arr.toList.drop b.base).take cs.length)
  | .ro es cs => b.es = es ∧ ∀ (j : Nat) v, cs[j]? = some v → ∃ c, w.cell? ⟨b.blk, b.base + j, none⟩ = some c ∧ VRel φ v c
  | .map es => ∃ (ents : Array MapEntry) (clock : Nat), w.heap[b.blk]? = some (.map ents clock) ∧ MRels φ es ents.toList
  | .loop r => ∃ l, w.heap[b.blk]? = some (.loop l) ∧ LRel φ r l

structure Rel (φ : PMap) (H : AHeap) (w : World) : Prop where
  dom : ∀ i, H.n ≤ i → φ i = none
  has : ∀ i, i < H.n → ∃ b, φ i = some b
  blk : ∀ i b, φ i = some b → BRel φ w b (H.f i)
  inj : ∀ i j b c, φ i = some b → φ j = some c → i ≠ j → (H.f i).rw → (H.f j).live → b.blk ≠ c.blk
  lt : ∀ i b, φ i = some b → (H.f i).rw → b.blk < w.heap.size
  fz : ∀ k o, φ.z k = some o → w.heap[k]? = some o ∧ (∀ i b, φ i = some b → (H.f i).rw → b.blk ≠ k) ∧ ∃ arr el fr, o = .cells arr el fr

def Own (φ : PMap) (H : AHeap) (k : Nat) : Prop := ∃ i b, φ i = some b ∧ (H.f i).rw ∧ b.blk = k

/-- From one moment to a later one: what is not the code's own is as it was. -/
structure Ext (φ : PMap) (H : AHeap) (w : World) (φ' : PMap) (H' : AHeap) (w' : World) : Prop where
  le : PLe φ φ'
  size : w.heap.size ≤ w'.heap.size
  keep : ∀ k, k < w.heap.size → ¬ Own φ H k → w'.heap[k]? = w.heap[k]?
  own : ∀ k, Own φ' H' k → Own φ H k ∨ w.heap.size ≤ k
  os : w'.os = w.os
  tape : w'.tape = w.tape
  output : w'.output = w.output
  num : H.n ≤ H'.n
  ver : ∀ i b, φ i = some b → H.ver i ≤ H'.ver i
  same : ∀ i b, φ i = some b → (H.f i).live → H'.ver i = H.ver i → (H'.f i).live ∧ w'.heap[b.blk]? = w.heap[b.blk]?
  zown : ∀ k o, φ'.z k = some o → φ.z k = some o ∨ Own φ H k ∨ w.heap.size ≤ k

theorem Ext.refl (φ : PMap) (H : AHeap) (w : World) : Ext φ H w φ H w := ⟨PLe.refl φ, Nat.le_refl _, fun _ _ _ => rfl, fun _ h => .inl h, rfl, rfl, rfl, Nat.le_refl _, fun _ _ _ => Nat.le_refl _, fun _ _ _ h _ => ⟨h, rfl⟩, fun _ _ h => .inl h⟩
theorem Ext.trans {φ φ' φ'' : PMap} {H H' H'' : AHeap} {w w' w'' : World} (h : Ext φ H w φ' H' w') (k : Ext φ' H' w' φ'' H'' w'') : Ext φ H w φ'' H'' w'' := by
  refine ⟨h.le.trans k.le, Nat.le_trans h.size k.size, fun b hb hn => ?_, fun b hb => ?_, k.os.trans h.os, k.tape.trans h.tape, k.output.trans h.output, Nat.le_trans h.num k.num, fun i b hb => Nat.le_trans (h.ver i b hb) (k.ver i b (h.le i b hb)), fun i b hb hl hv => ?_, fun b o hb => ?_⟩
  · rw [k.keep b (Nat.lt_of_lt_of_le hb h.size) (fun ho => ?_), h.keep b hb hn]
    rcases h.own b ho with h1 | h1
    · exact hn h1
    · omega
  · rcases k.own b hb with h1 | h1
    · exact h.own b h1
    · exact .inr (Nat.le_trans h.size h1)
  · have h1 := h.ver i b hb
    have h2 := k.ver i b (h.le i b hb)
    obtain ⟨hl', hs⟩ := h.same i b hb hl (by omega)
    obtain ⟨hl'', hs'⟩ := k.same i b (h.le i b hb) hl' (by omega)
    exact ⟨hl'', hs'.trans hs⟩
  · rcases k.zown b o hb with h1 | h1 | h1
    · exact h.zown b o h1
    · exact .inr (h.own b h1)
    · exact .inr (.inr (Nat.le_trans h.size h1))

/-- A drawn order changes nothing. -/
theorem Rel.drew {φ : PMap} {H : AHeap} {w : World} (h : Rel φ H w) (n : Nat) : Rel φ H { w with drawn := n } :=
  ⟨h.dom, h.has, fun i b hb => by
    have := h.blk i b hb
    cases hH : H.f i <;> simp only [hH, BRel] at this ⊢ <;> exact this, h.inj, h.lt, h.fz⟩
theorem Ext.drew (φ : PMap) (H : AHeap) (w : World) (n : Nat) : Ext φ H w φ H { w with drawn := n } := ⟨PLe.refl φ, Nat.le_refl _, fun _ _ _ => rfl, fun _ h => .inl h, rfl, rfl, rfl, Nat.le_refl _, fun _ _ _ => Nat.le_refl _, fun _ _ _ h _ => ⟨h, rfl⟩, fun _ _ h => .inl h⟩
end Go.Vh

/- How the world and the abstract heap change together: a new block, a block written, a block handed on. -/
set_option linter.unusedVariables false
set_option linter.unusedSimpArgs false
namespace Go.Vh
variable {P : Program}

theorem ABlk.rw.live {x : ABlk} (h : x.rw) : x.live := by cases x <;> simp_all [ABlk.rw, ABlk.live]

theorem BRel.kept {φ ψ : PMap} {w w' : World} {b : BI} {x : ABlk} (h : BRel φ w b x) (hle : PLe φ ψ) (hw : x.live → w'.heap[b.blk]? = w.heap[b.blk]?) : BRel ψ w' b x := by
  cases x with
  | dead => trivial
  | cells es cs =>
    obtain ⟨he, arr, elem, h1, h2, h3, h4⟩ := h
    exact ⟨he, arr, elem, (hw trivial).trans h1, h2, h3, VRels_mono hle _ _ h4⟩
  | ro es cs =>
    refine ⟨h.1, fun j v hv => ?_⟩
    obtain ⟨c, hc, hr⟩ := h.2 j v hv
    refine ⟨c, ?_, VRel_mono hle _ _ hr⟩
    unfold World.cell? at *
    rw [hw (by intro he; subst he; simp at hv)]; exact hc
  | map es =>
    obtain ⟨ents, clock, h1, h2⟩ := h
    exact ⟨ents, clock, (hw trivial).trans h1, MRels_mono hle h2⟩
  | loop r =>
    obtain ⟨l, h1, h2, h3, h4, h5⟩ := h
    exact ⟨l, (hw trivial).trans h1, h2, h3, h4.mono hle, h5⟩

theorem Rel.lt_live {φ : PMap} {H : AHeap} {w : World} (hR : Rel φ H w) {i : Nat} {b : BI} (hb : φ i = some b) (hl : (H.f i).live) : b.blk < w.heap.size := by
  have h := hR.blk i b hb
  cases hf : H.f i with
  | dead => rw [hf] at hl; exact hl.elim
  | cells es cs => exact hR.lt i b hb (by rw [hf]; trivial)
  | map es => exact hR.lt i b hb (by rw [hf]; trivial)
  | loop r => exact hR.lt i b hb (by rw [hf]; trivial)
  | ro es cs =>
    rw [hf] at h hl
    cases cs with
    | nil => exact absurd rfl hl
    | cons v cs =>
      obtain ⟨c, hc, _⟩ := h.2 0 v rfl
      unfold World.cell? at hc
      cases hh : w.heap[b.blk]? with
      | none => rw [hh] at hc; simp at hc
      | some o => exact (Array.getElem?_eq_some_iff.1 hh).1

def PMap.ext (φ : PMap) (n : Nat) (b : BI) : PMap := ⟨fun i => if i = n then some b else φ i, φ.z⟩
theorem PMap.ext_le {φ : PMap} {n : Nat} (h : φ n = none) (b : BI) : PLe φ (φ.ext n b) := by
  refine ⟨fun i c hc => ?_, fun _ _ h => h⟩
  unfold PMap.ext
  dsimp only
  split
  · rename_i he; subst he; rw [h] at hc; cases hc
  · exact hc
theorem PMap.ext_same (φ : PMap) (n : Nat) (b : BI) : φ.ext n b n = some b := by simp [PMap.ext]
theorem PMap.ext_ne (φ : PMap) {n i : Nat} (b : BI) (h : i ≠ n) : φ.ext n b i = φ i := by simp [PMap.ext, h]

/-- The general step: number n is new or stands for block g; the blocks of all others are as they were; a number may have died. -/
theorem rel_step {φ : PMap} {H H' : AHeap} {w w' : World} (hR : Rel φ H w) (bi : BI) (x : ABlk) (hx : x.rw)
    (hn : H'.n = H.n + 1) (hf : H'.f H.n = x) (hold' : ∀ i, i ≠ H.n → (H'.f i = H.f i ∧ H'.ver i = H.ver i) ∨ (H'.f i = .dead ∧ H.ver i < H'.ver i)) (hvn : H.ver H.n ≤ H'.ver H.n)
    (hsz : w.heap.size ≤ w'.heap.size) (hlt : bi.blk < w'.heap.size) (hk : ∀ k, k < w.heap.size → k ≠ bi.blk → w'.heap[k]? = w.heap[k]?)
    (hne : ∀ i b, i ≠ H.n → φ i = some b → (H'.f i).live → b.blk ≠ bi.blk)
    (hown : w.heap.size ≤ bi.blk ∨ Own φ H bi.blk)
    (hb : BRel (φ.ext H.n bi) w' bi x) (ho : w'.os = w.os) (ht : w'.tape = w.tape) (hout : w'.output = w.output) :
    Rel (φ.ext H.n bi) H' w' ∧ Ext φ H w (φ.ext H.n bi) H' w' := by
  have hold : ∀ i, i ≠ H.n → H'.f i = H.f i ∨ H'.f i = .dead := fun i hi => (hold' i hi).imp (·.1) (·.1)
  have hnone := hR.dom H.n (Nat.le_refl _)
  have hle := PMap.ext_le hnone bi
  have old : ∀ i b, i ≠ H.n → (φ.ext H.n bi) i = some b → φ i = some b := fun i b hi h => by rwa [PMap.ext_ne _ _ hi] at h
  have self : ∀ b, (φ.ext H.n bi) H.n = some b → b = bi := fun b h => by rw [PMap.ext_same] at h; exact (Option.some.inj h).symm
  have liveOld : ∀ i, i ≠ H.n → (H'.f i).live → H'.f i = H.f i := fun i hi hl => by
    rcases hold i hi with h | h
    · exact h
    · rw [h] at hl; exact hl.elim
  have rwOld : ∀ i, i ≠ H.n → (H'.f i).rw → H'.f i = H.f i := fun i hi hl => liveOld i hi hl.live
  constructor
  · constructor
    · intro i hi; rw [PMap.ext_ne _ _ (by omega)]; exact hR.dom i (by omega)
    · intro i hi
      by_cases h : i = H.n
      · exact ⟨bi, by rw [h]; exact PMap.ext_same _ _ _⟩
      · rw [PMap.ext_ne _ _ h]; exact hR.has i (by omega)
    · intro i b hi
      by_cases h : i = H.n
      · subst h; rw [self b hi, hf]; exact hb
      · have hi' := old i b h hi
        rcases hold i h with he | he
        · rw [he]
          refine (hR.blk i b hi').kept hle fun hl => ?_
          exact hk _ (hR.lt_live hi' hl) (hne i b h hi' (by rw [he]; exact hl))
        · rw [he]; trivial
    · intro i j b c hi hj hij hrw hlv
      by_cases h1 : i = H.n
      · subst h1
        rw [self b hi]
        exact (hne j c (Ne.symm hij) (old j c (Ne.symm hij) hj) hlv).symm
      · have hi' := old i b h1 hi
        by_cases h2 : j = H.n
        · subst h2
          rw [self c hj]
          exact hne i b h1 hi' hrw.live
        · have hj' := old j c h2 hj
          exact hR.inj i j b c hi' hj' hij (by rw [← rwOld i h1 hrw]; exact hrw) (by rw [← liveOld j h2 hlv]; exact hlv)
    · intro i b hi hrw
      by_cases h : i = H.n
      · subst h; rw [self b hi]; exact hlt
      · exact Nat.lt_of_lt_of_le (hR.lt i b (old i b h hi) (by rw [← rwOld i h hrw]; exact hrw)) hsz
    · intro k o hz
      obtain ⟨z1, z2, z3⟩ := hR.fz k o hz
      have hks : k < w.heap.size := (Array.getElem?_eq_some_iff.1 z1).1
      have hkb : bi.blk ≠ k := by
        rcases hown with h | ⟨i, b, h1, h2, h3⟩
        · omega
        · rw [← h3]; exact z2 i b h1 h2
      refine ⟨(hk k hks (Ne.symm hkb)).trans z1, fun i b hi hrw => ?_, z3⟩
      by_cases h : i = H.n
      · subst h; rw [self b hi]; exact hkb
      · exact z2 i b (old i b h hi) (by rw [← rwOld i h hrw]; exact hrw)
  · refine ⟨hle, hsz, fun k hkl hno => ?_, fun k hkk => ?_, ho, ht, hout, by omega, fun i => ?_, fun i b hb' hl hv => ?_, fun _ _ h => .inl h⟩
    · refine hk k hkl fun he => ?_
      subst he
      rcases hown with h | h
      · omega
      · exact hno h
    · obtain ⟨i, b, hi, hrw, rfl⟩ := hkk
      by_cases h : i = H.n
      · subst h; rw [self b hi]; exact hown.symm
      · exact .inl ⟨i, b, old i b h hi, by rw [← rwOld i h hrw]; exact hrw, rfl⟩
    · by_cases h : i = H.n
      · subst h; exact fun _ _ => hvn
      · rcases hold' i h with ⟨_, h1⟩ | ⟨_, h1⟩ <;> omega
    · have h : i ≠ H.n := fun h => by subst h; rw [hnone] at hb'; cases hb'
      rcases hold' i h with ⟨h1, _⟩ | ⟨_, h1⟩
      · exact ⟨by rw [h1]; exact hl, hk _ (hR.lt_live hb' hl) (hne i b h hb' (by rw [h1]; exact hl))⟩
      · omega

/-- A new block of the world's, under a new number. -/
theorem rel_new {φ : PMap} {H : AHeap} {w : World} (hR : Rel φ H w) (o : Obj) (x : ABlk) (hx : x.rw) (es sz : Nat)
    (hb : BRel (φ.ext H.n ⟨w.heap.size, 0, es, sz⟩) { w with heap := w.heap.push o } ⟨w.heap.size, 0, es, sz⟩ x) :
    Rel (φ.ext H.n ⟨w.heap.size, 0, es, sz⟩) (H.alloc x) { w with heap := w.heap.push o } ∧
    Ext φ H w (φ.ext H.n ⟨w.heap.size, 0, es, sz⟩) (H.alloc x) { w with heap := w.heap.push o } := by
  refine rel_step hR _ x hx rfl (by simp [alloc_f]) (fun i hi => .inl ⟨by simp [alloc_f, hi], rfl⟩) (Nat.le_refl _) (by simp) (by simp) (fun k hk _ => ?_) (fun i b hi hb hl => ?_) (.inl (Nat.le_refl _)) hb rfl rfl rfl
  · simp [Array.getElem?_push, Nat.ne_of_lt hk]
  · rw [alloc_f, if_neg hi] at hl
    have := hR.lt_live hb hl
    simp only; omega

/-- A block of the code's own is written: number i now says x'. -/
theorem rel_set {φ : PMap} {H : AHeap} {w w' : World} (hR : Rel φ H w) {i : Nat} {bi : BI} (hi : φ i = some bi) (hrw : (H.f i).rw) (x' : ABlk) (hx : x'.rw)
    (hsz : w'.heap.size = w.heap.size) (hk : ∀ k, k ≠ bi.blk → w'.heap[k]? = w.heap[k]?) (hb : BRel φ w' bi x') (ho : w'.os = w.os) (ht : w'.tape = w.tape) (hout : w'.output = w.output) :
    Rel φ (H.set i x') w' ∧ Ext φ H w φ (H.set i x') w' := by
  constructor
  · constructor
    · exact hR.dom
    · exact hR.has
    · intro j b hj
      by_cases h : j = i
      · subst h
        rw [hi] at hj; cases hj
        simp only [set_f, if_true]; exact hb
      · simp only [set_f, if_neg h]
        refine (hR.blk j b hj).kept (PLe.refl φ) fun hl => hk _ ?_
        exact (hR.inj i j bi b hi hj (Ne.symm h) hrw hl).symm
    · intro j l b c hj hl hjl hjrw hllv
      have e1 : (H.f j).rw := by
        rw [set_f] at hjrw
        split at hjrw
        · rename_i h; subst h; exact hrw
        · exact hjrw
      have e2 : (H.f l).live := by
        rw [set_f] at hllv
        split at hllv
        · rename_i h; subst h; exact hrw.live
        · exact hllv
      exact hR.inj j l b c hj hl hjl e1 e2
    · intro j b hj hjrw
      have e1 : (H.f j).rw := by
        rw [set_f] at hjrw
        split at hjrw
        · rename_i h; subst h; exact hrw
        · exact hjrw
      rw [hsz]; exact hR.lt j b hj e1
    · intro k o hz
      obtain ⟨z1, z2, z3⟩ := hR.fz k o hz
      refine ⟨(hk k (Ne.symm (z2 i bi hi hrw))).trans z1, fun j b hj hjrw => z2 j b hj ?_, z3⟩
      rw [set_f] at hjrw
      split at hjrw
      · rename_i h; subst h; exact hrw
      · exact hjrw
  · refine ⟨PLe.refl φ, by omega, fun k hkl hno => hk k fun he => hno ⟨i, bi, hi, hrw, he.symm⟩, fun k hkk => .inl ?_, ho, ht, hout, Nat.le_refl _, fun j => ?_, fun j b hj hl hv => ?_, fun _ _ h => .inl h⟩
    · obtain ⟨j, b, hj, hjrw, rfl⟩ := hkk
      refine ⟨j, b, hj, ?_, rfl⟩
      rw [set_f] at hjrw
      split at hjrw
      · rename_i h; subst h; exact hrw
      · exact hjrw
    · rw [set_ver]; split <;> omega
    · rw [set_ver] at hv
      split at hv
      · omega
      · rename_i h
        rw [set_f, if_neg h]
        exact ⟨hl, hk _ (hR.inj i j bi b hi hj (Ne.symm h) hrw hl).symm⟩

/-- Number i dies; its block goes on under a new number. -/
theorem rel_move {φ : PMap} {H : AHeap} {w w' : World} (hR : Rel φ H w) {i : Nat} {bi bj : BI} (hi : φ i = some bi) (hrw : (H.f i).rw) (hblk : bj.blk = bi.blk) (x' : ABlk) (hx : x'.rw)
    (hsz : w'.heap.size = w.heap.size) (hk : ∀ k, k ≠ bi.blk → w'.heap[k]? = w.heap[k]?) (hb : BRel (φ.ext H.n bj) w' bj x') (ho : w'.os = w.os) (ht : w'.tape = w.tape) (hout : w'.output = w.output) :
    Rel (φ.ext H.n bj) ((H.set i .dead).alloc x') w' ∧ Ext φ H w (φ.ext H.n bj) ((H.set i .dead).alloc x') w' := by
  have hin : i ≠ H.n := fun h => by have := hR.dom i (by omega); rw [this] at hi; cases hi
  refine rel_step hR bj x' hx (by simp [alloc_n, set_n]) (by simp [alloc_f, set_n]) (fun j hj => ?_) (by rw [alloc_ver, set_ver]; split <;> omega) (by omega) ?_ (fun k _ hne => hk k (by rw [← hblk]; exact hne)) (fun j b hj hb' hl => ?_) (.inr ⟨i, bi, hi, hrw, hblk.symm⟩) hb ho ht hout
  · rw [alloc_f, set_n, if_neg hj, set_f, alloc_ver, set_ver]
    split
    · exact .inr ⟨rfl, Nat.lt_succ_self _⟩
    · exact .inl ⟨rfl, rfl⟩
  · rw [hblk, hsz]; exact hR.lt i bi hi hrw
  · rw [alloc_f, set_n, if_neg hj, set_f] at hl
    split at hl
    · exact hl.elim
    · rename_i hji
      rw [hblk]
      exact (hR.inj i j bi b hi hb' (Ne.symm hji) hrw hl).symm

/-- Number i dies: nothing else changes. -/
theorem rel_kill {φ : PMap} {H : AHeap} {w : World} (hR : Rel φ H w) (i : Nat) : Rel φ (H.set i .dead) w ∧ Ext φ H w φ (H.set i .dead) w := by
  have lv : ∀ j, ((H.set i .dead).f j).live → (H.f j).live := fun j h => by
    rw [set_f] at h
    split at h
    · exact h.elim
    · exact h
  have rw' : ∀ j, ((H.set i .dead).f j).rw → (H.f j).rw := fun j h => by
    rw [set_f] at h
    split at h
    · exact h.elim
    · exact h
  refine ⟨⟨hR.dom, hR.has, fun j b hj => ?_, fun j l b c hj hl hjl h1 h2 => hR.inj j l b c hj hl hjl (rw' _ h1) (lv _ h2), fun j b hj h1 => hR.lt j b hj (rw' _ h1), fun k o hz => ⟨(hR.fz k o hz).1, fun j b hj h1 => (hR.fz k o hz).2.1 j b hj (rw' _ h1), (hR.fz k o hz).2.2⟩⟩, ⟨PLe.refl φ, Nat.le_refl _, fun _ _ _ => rfl, fun k hk => ?_, rfl, rfl, rfl, Nat.le_refl _, fun j => ?_, fun j b hj hl hv => ?_, fun _ _ h => .inl h⟩⟩
  · rw [set_f]
    split
    · trivial
    · exact hR.blk j b hj
  · obtain ⟨j, b, hj, h1, rfl⟩ := hk
    exact .inl ⟨j, b, hj, rw' _ h1, rfl⟩
  · rw [set_ver]; split <;> omega
  · rw [set_ver] at hv
    split at hv
    · omega
    · rename_i h
      rw [set_f, if_neg h]; exact ⟨hl, rfl⟩

end Go.Vh

/- What an operation does to a value heap, and that the model does it so. -/
set_option linter.unusedVariables false
set_option linter.unusedSimpArgs false
namespace Go.Vh
variable {P : Program}

def absS : Value → AVal
  | .int k n => .int k n
  | .bool b => .bool b
  | .string s => .str s
  | .slice none 0 0 => .nilSlice
  | v => .raw v
def absC : Value → AVal
  | .agg cs => .agg (cs.toList.map absS)
  | .tuple vs => .tuple (vs.toList.map absS)
  | v => absS v
theorem absS_rel (φ : PMap) (v : Value) : VRel φ (absS v) v := by unfold absS; split <;> simp [VRel]
theorem absS_rels (φ : PMap) : ∀ l : List Value, VRels φ (l.map absS) l
  | [] => by simp [VRels]
  | v :: l => VRels_cons.2 ⟨absS_rel φ v, absS_rels φ l⟩
theorem absC_rel (φ : PMap) (v : Value) : VRel φ (absC v) v := by
  unfold absC
  split
  · exact ⟨_, rfl, absS_rels φ _⟩
  · exact ⟨_, rfl, absS_rels φ _⟩
  · exact absS_rel φ v

def evalA (e : Env) : Operand → AVal
  | .tmp t => e t
  | .const v => absC v
  | .func f => .func f [] []
  | .global _ => .undef
theorem evalA_rel {φ : PMap} {N : Nat} {e : Env} {a : Act} (h : ERel φ N e a.tmps) (x : Operand) : VRel φ (evalA e x) (a.eval x) := by
  cases x with
  | tmp t => exact h.get t
  | const v => exact absC_rel φ v
  | global g => simp [evalA, VRel]
  | func f => exact ⟨[], [], by simp [Act.eval], by simp [VRels], by simp [VRels]⟩

def scalarV : Value → Bool
  | .agg _ | .tuple _ => false
  | _ => true
def AVal.scalar : AVal → Bool
  | .undef | .agg _ | .tuple _ => false
  | .raw v => scalarV v
  | _ => true
theorem scalar_rel {φ : PMap} {v : AVal} {c : Value} (hs : v.scalar = true) (h : VRel φ v c) : scalarV c = true := by
  cases v <;> simp only [AVal.scalar, VRel, Bool.false_eq_true] at hs h
  case raw v => rw [h]; exact hs
  case ptr => obtain ⟨b, _, rfl⟩ := h; rfl
  case slice => obtain ⟨b, cap, ad, _, rfl, _⟩ := h; rfl
  case map => obtain ⟨b, _, rfl⟩ := h; rfl
  case func => obtain ⟨cs, ds, rfl, _⟩ := h; rfl
  case yield => obtain ⟨b, _, rfl⟩ := h; rfl
  case view => obtain ⟨b, _, ⟨_, rfl⟩ | ⟨_, _, rfl, _⟩⟩ := h <;> rfl
  case row => rw [ZRel] at h; obtain ⟨_, rfl⟩ | ⟨_, _, rfl, _⟩ := h <;> rfl
  case rptr => obtain ⟨_, _, rfl, _⟩ := h; rfl
  all_goals (rw [h]; rfl)
/-- The cells of a value. -/
def AVal.cells : AVal → Option (List AVal)
  | .agg l => some l
  | v => if v.scalar then some [v] else none
theorem cells_rel {φ : PMap} {v : AVal} {c : Value} {l : List AVal} (hc : v.cells = some l) (h : VRel φ v c) : VRels φ l c.cells.toList := by
  have one : v.scalar = true → c.cells = #[c] := fun hs => by
    have := scalar_rel hs h
    cases c <;> simp_all [scalarV, Value.cells]
  cases v <;> simp only [AVal.cells] at hc
  case agg l' =>
    cases hc
    obtain ⟨cs, rfl, h1⟩ := h
    simpa [Value.cells] using h1
  all_goals
    split at hc
    · rename_i hs
      cases hc
      rw [one hs]
      exact VRels_cons.2 ⟨h, by simp [VRels]⟩
    · cases hc

structure TI where
  size : Nat
  bytes : Nat
  agg : Bool
  zero : List AVal
def TypeDesc.isAgg : TypeDesc → Bool
  | .struct _ | .array _ _ => true
  | _ => false
def tinfo (P : Program) (t : TypeId) : Option TI :=
  match P.info? t, P.underlying t with
  | some i, some d => match i.zero with
    | some z => some { size := i.size, bytes := i.bytes, agg := TypeDesc.isAgg d, zero := z.cells.toList.map absS }
    | none => none
  | _, _ => none
theorem tinfo_spec {t : TypeId} {ti : TI} (h : tinfo P t = some ti) : ∃ i d z, P.info? t = some i ∧ P.underlying t = some d ∧ i.zero = some z ∧ i.size = ti.size ∧ i.bytes = ti.bytes ∧ TypeDesc.isAgg d = ti.agg ∧ ti.zero = z.cells.toList.map absS := by
  unfold tinfo at h
  cases hi : P.info? t with
  | none => simp [hi] at h
  | some i =>
    cases hd : P.underlying t with
    | none => simp [hi, hd] at h
    | some d =>
      cases hz : i.zero with
      | none => simp [hi, hd, hz] at h
      | some z =>
        simp only [hi, hd, hz, Option.some.injEq] at h
        subst h
        exact ⟨i, d, z, rfl, rfl, hz, rfl, rfl, rfl, rfl⟩
theorem run_typeInfo' {t : TypeId} {i : TypeInfo} (h : P.info? t = some i) (w : World) : (typeInfo t).run P w = .ok i w := by simp [typeInfo, h]
theorem run_underlying' {t : TypeId} {d : TypeDesc} (h : P.underlying t = some d) (w : World) : (underlying t).run P w = .ok d w := by simp [underlying, h]
theorem run_sizeOf' {t : TypeId} {i : TypeInfo} (h : P.info? t = some i) (w : World) : (sizeOf t).run P w = .ok i.size w := by simp [sizeOf, run_typeInfo' h, Result.andThen]
theorem run_zeroValue' {t : TypeId} {i : TypeInfo} {z : Value} (h : P.info? t = some i) (hz : i.zero = some z) (w : World) : (zeroValue t).run P w = .ok z w := by simp [zeroValue, run_typeInfo' h, hz, Result.andThen]
theorem run_isAgg' {t : TypeId} {d : TypeDesc} (h : P.underlying t = some d) (w : World) : (isAgg t).run P w = .ok (TypeDesc.isAgg d) w := by
  unfold isAgg
  rw [Sem.run_bind, run_underlying' h]
  cases d <;> rfl

/-- A computation that comes to a value. -/
def Fine (P : Program) (φ : PMap) (H : AHeap) (w : World) (s : Sem Value) (v : AVal) (H' : AHeap) : Prop :=
  ∃ c w' φ', s.run P w = .ok c w' ∧ VRel φ' v c ∧ Rel φ' H' w' ∧ Ext φ H w φ' H' w'
theorem Fine.pure {φ : PMap} {H : AHeap} {w : World} {s : Sem Value} {v : AVal} {c : Value} (hR : Rel φ H w) (h : s.run P w = .ok c w) (hv : VRel φ v c) : Fine P φ H w s v H :=
  ⟨c, w, φ, h, hv, hR, Ext.refl _ _ _⟩

/-- A computation that comes to a value whatever the world, and leaves it. -/
def PureTo (P : Program) (φ : PMap) (s : Sem Value) (v : AVal) : Prop := ∃ c, (∀ w, s.run P w = .ok c w) ∧ VRel φ v c
theorem Fine.of_pure {φ : PMap} {H : AHeap} {w : World} {s : Sem Value} {v : AVal} (hR : Rel φ H w) (h : PureTo P φ s v) : Fine P φ H w s v H :=
  let ⟨c, h1, h2⟩ := h; ⟨c, w, φ, h1 w, h2, hR, Ext.refl _ _ _⟩

/-! ### Reading -/
def ABlk.cs : ABlk → List AVal
  | .cells _ cs | .ro _ cs => cs
  | _ => []
theorem cell_at {φ : PMap} {H : AHeap} {w : World} (hR : Rel φ H w) {i off : Nat} {b : BI} (hb : φ i = some b) {v : AVal} (hv : (H.f i).cs[off]? = some v) :
    ∃ c, w.cell? ⟨b.blk, b.base + off, none⟩ = some c ∧ VRel φ v c := by
  have h := hR.blk i b hb
  cases hf : H.f i <;> rw [hf] at h hv <;> simp only [ABlk.cs, List.getElem?_nil, reduceCtorEq] at hv
  case cells es cs =>
    obtain ⟨_, arr, elem, h1, h2, h3, h4⟩ := h
    obtain ⟨c, hc, hr⟩ := VRels_get h4 hv
    refine ⟨c, ?_, hr⟩
    rw [List.getElem?_take] at hc
    split at hc
    · rw [List.getElem?_drop] at hc
      simp only [World.cell?, h1]
      simpa using hc
    · cases hc
  case ro es cs => exact h.2 off v hv
theorem run_load' {a : Addr} {c : Value} {w : World} (h : w.cell? a = some c) : (load a).run P w = .ok c w := by simp [load, Sem.run, h]
theorem add_at (b o : Nat) (n : Nat) : (⟨b, o, none⟩ : Addr).add n = ⟨b, o + n, none⟩ := by unfold Addr.add; split <;> simp_all
theorem run_loadCellsFrom {φ : PMap} {H : AHeap} {w : World} (hR : Rel φ H w) {i off : Nat} {b : BI} (hb : φ i = some b) :
    ∀ (n j : Nat) (acc : Array Value) (l : List AVal), (((H.f i).cs.drop (off + j)).take n) = l → l.length = n →
      ∃ cs : List Value, (loadCellsFrom ⟨b.blk, b.base + off, none⟩ j n acc).run P w = .ok (acc ++ cs.toArray) w ∧ VRels φ l cs := by
  intro n
  induction n with
  | zero =>
    intro j acc l h hl
    obtain rfl : l = [] := List.eq_nil_of_length_eq_zero hl
    exact ⟨[], by simp [loadCellsFrom], by simp [VRels]⟩
  | succ n ih =>
    intro j acc l h hl
    cases l with
    | nil => simp at hl
    | cons v l =>
      have hv : (H.f i).cs[off + j]? = some v := by
        have := congrArg (fun x => x[0]?) h
        simpa [List.getElem?_take, List.getElem?_drop] using this
      obtain ⟨c, hc, hr⟩ := cell_at hR hb hv
      have hrest : ((H.f i).cs.drop (off + (j + 1))).take n = l := by
        have hd : (H.f i).cs.drop (off + j) = v :: (H.f i).cs.drop (off + j + 1) := by
          obtain ⟨hlt, he⟩ := List.getElem?_eq_some_iff.1 hv
          rw [← he]; exact (List.drop_eq_getElem_cons hlt)
        rw [hd] at h
        simp only [List.take_succ_cons, List.cons.injEq, true_and] at h
        exact h
      obtain ⟨cs, hcs, hrs⟩ := ih (j + 1) (acc.push c) l hrest (by simpa using hl)
      refine ⟨c :: cs, ?_, VRels_cons.2 ⟨hr, hrs⟩⟩
      have hc' : w.cell? ((⟨b.blk, b.base + off, none⟩ : Addr).add j) = some c := by rw [add_at, Nat.add_assoc]; exact hc
      simp only [loadCellsFrom, Sem.run_bind, run_load' hc', Result.andThen, hcs]
      simp
/-- What lies at a place. -/
def AHeap.load (H : AHeap) (ti : TI) (i off : Nat) : Option AVal :=
  if ti.agg then
    if off + ti.size ≤ (H.f i).cs.length then some (.agg (((H.f i).cs.drop off).take ti.size)) else none
  else (H.f i).cs[off]?
theorem load_run {φ : PMap} {H : AHeap} {w : World} (hR : Rel φ H w) {t : TypeId} {ti : TI} (ht : tinfo P t = some ti) {i off : Nat} {b : BI} (hb : φ i = some b) {v : AVal} (hv : H.load ti i off = some v) :
    ∃ c, (loadVar t ⟨b.blk, b.base + off, none⟩).run P w = .ok c w ∧ VRel φ v c := by
  obtain ⟨inf, d, z, hi, hd, hz, hsz, hby, hag, hze⟩ := tinfo_spec ht
  unfold AHeap.load at hv
  by_cases ha : ti.agg = true
  · rw [if_pos ha] at hv
    split at hv
    · rename_i hle
      cases hv
      obtain ⟨cs, hcs, hrs⟩ := run_loadCellsFrom (P := P) hR hb (off := off) ti.size 0 #[] _ rfl (by simp; omega)
      refine ⟨.agg cs.toArray, ?_, ⟨cs, rfl, hrs⟩⟩
      simp [loadVar, run_isAgg' hd, hag, ha, Result.andThen, run_sizeOf' hi, hsz, loadCells, hcs]
    · cases hv
  · rw [if_neg ha] at hv
    obtain ⟨cc, hc, hr⟩ := cell_at hR hb hv
    refine ⟨cc, ?_, hr⟩
    simp [loadVar, run_isAgg' hd, hag, ha, Result.andThen, run_load' hc]
theorem fine_load {φ : PMap} {H : AHeap} {w : World} (hR : Rel φ H w) {t : TypeId} {ti : TI} (ht : tinfo P t = some ti) {i off : Nat} {c : Value} (hp : VRel φ (.ptr i off) c) {v : AVal} (hv : H.load ti i off = some v) :
    Fine P φ H w (Instr.loadAt t c) v H := by
  obtain ⟨b, hb, rfl⟩ := hp
  obtain ⟨c, hc, hr⟩ := load_run (P := P) hR ht hb hv
  exact Fine.pure hR (c := c) (by simp only [Instr.loadAt, Instr.sureAddr, Sem.run_bind, Sem.run_pure, Result.andThen, hc]) hr

/-! ### Rows that nothing will write any more -/
theorem ZRels_cons {z : ZMap} {v : AVal} {vs : List AVal} {c : Value} {cs : List Value} : ZRels z (v :: vs) (c :: cs) ↔ ZRel z v c ∧ ZRels z vs cs := by
  simp only [ZRels]
  constructor
  · rintro ⟨c', cs', h, h1, h2⟩
    injection h with ha hb
    subst ha; subst hb
    exact ⟨h1, h2⟩
  · rintro ⟨h1, h2⟩
    exact ⟨c, cs, rfl, h1, h2⟩
mutual
theorem ZRel_rel {φ : PMap} : ∀ (v : AVal) (c : Value), ZRel φ.z v c → VRel φ v c
  | .int _ _, _, h => by simpa [ZRel, VRel] using h
  | .bool _, _, h => by simpa [ZRel, VRel] using h
  | .str _, _, h => by simpa [ZRel, VRel] using h
  | .nilSlice, _, h => by simpa [ZRel, VRel] using h
  | .row n cs, _, h => by rw [VRel]; exact h
  | .agg as, _, h => by
    simp only [ZRel, VRel] at *
    obtain ⟨cs, h1, h2⟩ := h
    exact ⟨cs, h1, ZRels_rels as cs h2⟩
  | .tuple as, _, h => by
    simp only [ZRel, VRel] at *
    obtain ⟨cs, h1, h2⟩ := h
    exact ⟨cs, h1, ZRels_rels as cs h2⟩
  | .undef, _, h => by simp [ZRel] at h
  | .raw _, _, h => by simp [ZRel] at h
  | .ptr _ _, _, h => by simp [ZRel] at h
  | .slice _ _ _, _, h => by simp [ZRel] at h
  | .view _ _ _, _, h => by simp [ZRel] at h
  | .map _, _, h => by simp [ZRel] at h
  | .func _ _ _, _, h => by simp [ZRel] at h
  | .yield _, _, h => by simp [ZRel] at h
  | .rptr _ _, _, h => by simp [ZRel] at h
theorem ZRels_rels {φ : PMap} : ∀ (vs : List AVal) (cs : List Value), ZRels φ.z vs cs → VRels φ vs cs
  | [], cs, h => by simpa [ZRels, VRels] using h
  | v :: vs, cs, h => by
    simp only [ZRels, VRels] at *
    obtain ⟨c, cs', h1, h2, h3⟩ := h
    exact ⟨c, cs', h1, ZRel_rel v c h2, ZRels_rels vs cs' h3⟩
end
theorem ZRels_length {z : ZMap} : ∀ {vs : List AVal} {cs : List Value}, ZRels z vs cs → cs.length = vs.length
  | [], cs, h => by rw [show cs = [] from h]; rfl
  | v :: vs, cs, h => by
    simp only [ZRels] at h
    obtain ⟨c, cs', rfl, h1, h2⟩ := h
    simp [ZRels_length h2]
theorem ZRels_drop {z : ZMap} : ∀ {vs : List AVal} {cs : List Value} (n : Nat), ZRels z vs cs → ZRels z (vs.drop n) (cs.drop n)
  | [], cs, n, h => by rw [show cs = [] from h]; simp [ZRels]
  | v :: vs, cs, 0, h => h
  | v :: vs, cs, n + 1, h => by
    simp only [ZRels] at h
    obtain ⟨c, cs', rfl, h1, h2⟩ := h
    exact ZRels_drop n h2
theorem ZRels_take {z : ZMap} : ∀ {vs : List AVal} {cs : List Value} (n : Nat), ZRels z vs cs → ZRels z (vs.take n) (cs.take n)
  | [], cs, n, h => by rw [show cs = [] from h]; simp [ZRels]
  | v :: vs, cs, 0, h => by simp [ZRels]
  | v :: vs, cs, n + 1, h => by
    simp only [ZRels] at h
    obtain ⟨c, cs', rfl, h1, h2⟩ := h
    exact ⟨c, cs'.take n, rfl, h1, ZRels_take n h2⟩
/-- The cells of a row, as the world has them. -/
def HasZ (z : ZMap) (w : World) : Prop := ∀ k o, z k = some o → w.heap[k]? = some o
theorem Rel.hasZ {φ : PMap} {H : AHeap} {w : World} (hR : Rel φ H w) : HasZ φ.z w := fun k o h => (hR.fz k o h).1
theorem zrow_at {φ : PMap} {w : World} (hw : HasZ φ.z w) {cs : List AVal} {blk o off : Nat} (h : ZRow φ.z cs blk o) {v : AVal} (hv : cs[off]? = some v) : ∃ c, w.cell? ⟨blk, o + off, none⟩ = some c ∧ VRel φ v c := by
  obtain ⟨arr, el, fr, l, h1, h2, h3⟩ := h
  obtain ⟨c, hc, hr⟩ := VRels_get (ZRels_rels _ _ h2) hv
  exact ⟨c, by simp only [World.cell?, hw _ _ h1]; exact h3 off c hc, hr⟩
/-- What lies at a place of a row. -/
def rload (ti : TI) (cs : List AVal) (off : Nat) : Option AVal :=
  if ti.agg then
    if off + ti.size ≤ cs.length then some (.agg ((cs.drop off).take ti.size)) else none
  else cs[off]?
theorem run_loadCellsZ {φ : PMap} {cs : List AVal} {blk o off : Nat} (h : ZRow φ.z cs blk o) : ∀ (n j : Nat) (acc : Array Value) (l : List AVal), ((cs.drop (off + j)).take n) = l → l.length = n →
    ∃ ds : List Value, (∀ w, HasZ φ.z w → (loadCellsFrom ⟨blk, o + off, none⟩ j n acc).run P w = .ok (acc ++ ds.toArray) w) ∧ VRels φ l ds := by
  intro n
  induction n with
  | zero =>
    intro j acc l h hl
    obtain rfl : l = [] := List.eq_nil_of_length_eq_zero hl
    exact ⟨[], fun w _ => by simp [loadCellsFrom], by simp [VRels]⟩
  | succ n ih =>
    intro j acc l hd0 hl
    cases l with
    | nil => simp at hl
    | cons v l =>
      have hv : cs[off + j]? = some v := by
        have := congrArg (fun x => x[0]?) hd0
        simpa [List.getElem?_take, List.getElem?_drop] using this
      obtain ⟨arr, el, fr, l0, h1, h2, h3⟩ := h
      obtain ⟨c, hc0, hr⟩ := VRels_get (ZRels_rels _ _ h2) hv
      have hc : arr[o + (off + j)]? = some c := h3 _ c hc0
      have hrest : (cs.drop (off + (j + 1))).take n = l := by
        have hd : cs.drop (off + j) = v :: cs.drop (off + j + 1) := by
          obtain ⟨hlt, he⟩ := List.getElem?_eq_some_iff.1 hv
          rw [← he]; exact (List.drop_eq_getElem_cons hlt)
        rw [hd] at hd0
        simp only [List.take_succ_cons, List.cons.injEq, true_and] at hd0
        exact hd0
      obtain ⟨ds, hds, hrs⟩ := ih (j + 1) (acc.push c) l hrest (by simpa using hl)
      refine ⟨c :: ds, fun w hw => ?_, VRels_cons.2 ⟨hr, hrs⟩⟩
      have hc' : w.cell? ((⟨blk, o + off, none⟩ : Addr).add j) = some c := by rw [add_at, Nat.add_assoc]; simp only [World.cell?, hw _ _ h1]; exact hc
      simp only [loadCellsFrom, Sem.run_bind, run_load' hc', Result.andThen, hds w hw]
      simp
theorem loadR_run {φ : PMap} {t : TypeId} {ti : TI} (ht : tinfo P t = some ti) {cs : List AVal} {blk o off : Nat} (h : ZRow φ.z cs blk o) {v : AVal} (hv : rload ti cs off = some v) :
    ∃ c, (∀ w, HasZ φ.z w → (loadVar t ⟨blk, o + off, none⟩).run P w = .ok c w) ∧ VRel φ v c := by
  obtain ⟨inf, d, z, hi, hd, hz, hsz, hby, hag, hze⟩ := tinfo_spec ht
  unfold rload at hv
  by_cases ha : ti.agg = true
  · rw [if_pos ha] at hv
    split at hv
    · rename_i hle
      cases hv
      obtain ⟨ds, hcs, hrs⟩ := run_loadCellsZ (P := P) h (off := off) ti.size 0 #[] _ rfl (by simp; omega)
      refine ⟨.agg ds.toArray, fun w hw => ?_, ⟨ds, rfl, hrs⟩⟩
      simp [loadVar, run_isAgg' hd, hag, ha, Result.andThen, run_sizeOf' hi, hsz, loadCells, hcs w hw]
    · cases hv
  · rw [if_neg ha] at hv
    obtain ⟨arr, el, fr, l0, h1, h2, h3⟩ := h
    obtain ⟨c, hc0, hr⟩ := VRels_get (ZRels_rels _ _ h2) hv
    refine ⟨c, fun w hw => ?_, hr⟩
    have hc' : w.cell? ⟨blk, o + off, none⟩ = some c := by simp only [World.cell?, hw _ _ h1]; exact h3 _ c hc0
    simp [loadVar, run_isAgg' hd, hag, ha, Result.andThen, run_load' hc']
theorem loadR_pure {φ : PMap} {t : TypeId} {ti : TI} (ht : tinfo P t = some ti) {cs : List AVal} {off : Nat} {c : Value} (hp : VRel φ (.rptr cs off) c) {v : AVal} (hv : rload ti cs off = some v) :
    ∃ r, (∀ w, HasZ φ.z w → (Instr.loadAt t c).run P w = .ok r w) ∧ VRel φ v r := by
  obtain ⟨blk, o, rfl, hz⟩ := hp
  obtain ⟨r, hc, hr⟩ := loadR_run (P := P) ht hz hv
  exact ⟨r, fun w hw => by simp only [Instr.loadAt, Instr.sureAddr, Sem.run_bind, Sem.run_pure, Result.andThen, hc w hw], hr⟩
theorem fine_loadR {φ : PMap} {H : AHeap} {w : World} (hR : Rel φ H w) {t : TypeId} {ti : TI} (ht : tinfo P t = some ti) {cs : List AVal} {off : Nat} {c : Value} (hp : VRel φ (.rptr cs off) c) {v : AVal} (hv : rload ti cs off = some v) :
    Fine P φ H w (Instr.loadAt t c) v H := by
  obtain ⟨r, hc, hr⟩ := loadR_pure (P := P) ht hp hv
  exact Fine.pure hR (hc w hR.hasZ) hr

/-! ### Writing -/
theorem run_store_scalar {a : Addr} {c old : Value} {w : World} (hs : scalarV c = true) (h : w.cell? a = some old) (hf : w.frozen? a = false) : (store a c).run P w = .ok () (w.setCell a c) := by
  cases c <;> simp_all [store, Sem.run, scalarV]
def AHeap.store (H : AHeap) (i off : Nat) (l : List AVal) : Option AHeap :=
  match H.f i with
  | .cells es cs => if off + l.length ≤ cs.length ∧ l.all AVal.scalar = true then some (H.set i (.cells es (cs.take off ++ l ++ cs.drop (off + l.length)))) else none
  | _ => none
theorem run_storeCells {blk : Nat} {elem : TypeId} : ∀ (vs : List Value) (w : World) (arr : Array Value) (o i : Nat), w.heap[blk]? = some (.cells arr elem (0, 0)) → o + i + vs.length ≤ arr.size → vs.all scalarV = true →
    ∃ w', (storeCells ⟨blk, o, none⟩ vs i).run P w = .ok () w' ∧ w'.heap.size = w.heap.size ∧ (∀ k, k ≠ blk → w'.heap[k]? = w.heap[k]?) ∧ w'.os = w.os ∧ w'.tape = w.tape ∧ w'.output = w.output ∧
      ∃ arr' : Array Value, w'.heap[blk]? = some (.cells arr' elem (0, 0)) ∧ arr'.toList = arr.toList.take (o + i) ++ vs ++ arr.toList.drop (o + i + vs.length)
  | [], w, arr, o, i, h, hl, _ => ⟨w, by simp [storeCells], rfl, fun _ _ => rfl, rfl, rfl, rfl, arr, h, by simp⟩
  | v :: vs, w, arr, o, i, h, hl, hs => by
    simp only [List.length_cons] at hl
    simp only [List.all_cons, Bool.and_eq_true] at hs
    have hlt : o + i < arr.size := by omega
    have hb : blk < w.heap.size := (Array.getElem?_eq_some_iff.1 h).1
    have hc : w.cell? ((⟨blk, o, none⟩ : Addr).add i) = some arr[o + i] := by rw [add_at]; simp [World.cell?, h, hlt]
    have hf : w.frozen? ((⟨blk, o, none⟩ : Addr).add i) = false := by rw [add_at]; simp [World.frozen?, h]
    let w1 := w.setCell ((⟨blk, o, none⟩ : Addr).add i) v
    have hw1 : w1.heap = w.heap.set blk (.cells (arr.set (o + i) v) elem (0, 0)) hb := by
      have he : w.heap[blk] = .cells arr elem (0, 0) := by simpa [Array.getElem?_eq_getElem hb] using h
      simp only [w1, World.setCell, add_at]
      apply Array.ext
      · simp
      · intro k hk hk'
        simp only [Array.getElem_modify, Array.getElem_set]
        by_cases hkb : blk = k
        · subst hkb; simp [he, Array.setIfInBounds, hlt]
        · simp [hkb]
    have h1 : w1.heap[blk]? = some (.cells (arr.set (o + i) v) elem (0, 0)) := by rw [hw1]; simp [hb]
    obtain ⟨w', hrun, hsz, hk, hos, htp, hout, arr', harr, hlist⟩ := run_storeCells vs w1 (arr.set (o + i) v) o (i + 1) h1 (by simp; omega) hs.2
    refine ⟨w', ?_, ?_, ?_, ?_, ?_, ?_, arr', harr, ?_⟩
    · simp only [storeCells, Sem.run_bind, run_store_scalar hs.1 hc hf, Result.andThen]; exact hrun
    · rw [hsz, hw1]; simp
    · intro k hne; rw [hk k hne, hw1]; simp [Array.getElem?_set, Ne.symm hne]
    · rw [hos]; rfl
    · rw [htp]; rfl
    · rw [hout]; rfl
    · rw [hlist]
      simp only [Array.toList_set, List.length_cons]
      rw [show o + (i + 1) = o + i + 1 from by omega, List.take_set, List.drop_set]
      rw [if_pos (by omega)]
      rw [List.take_add_one, List.set_append]
      simp [hlt, Nat.min_eq_left (Nat.le_of_lt hlt)]
      omega
theorem fine_store {φ : PMap} {H H' : AHeap} {w : World} (hR : Rel φ H w) {t : TypeId} {ti : TI} (ht : tinfo P t = some ti) {i off : Nat} {p c : Value} {v : AVal} {l : List AVal} (hp : VRel φ (.ptr i off) p) (hv : VRel φ v c)
    (hc : v.cells = some l) (hl : l.length = ti.size) (hst : H.store i off l = some H') :
    ∃ w', (Instr.storeAt t p c).run P w = .ok () w' ∧ Rel φ H' w' ∧ Ext φ H w φ H' w' := by
  obtain ⟨b, hb, rfl⟩ := hp
  obtain ⟨inf, d, z, hi, hd, hz, hsz, hby, hag, hze⟩ := tinfo_spec ht
  have hcl := cells_rel hc hv
  have hlen := VRels_length hcl
  unfold AHeap.store at hst
  cases hf : H.f i <;> simp only [hf, reduceCtorEq] at hst
  case cells es cs =>
    split at hst
    · rename_i hcond
      obtain ⟨hle, hsc⟩ := hcond
      cases hst
      have hB := hR.blk i b hb
      rw [hf] at hB
      obtain ⟨hes, arr, elem, h1, h2, h3, h4⟩ := hB
      have hscv : c.cells.toList.all scalarV = true := by
        rw [List.all_eq_true] at *
        intro x hx
        obtain ⟨j, hj⟩ := List.getElem?_of_mem hx
        have hjl : j < l.length := by rw [← hlen]; exact (List.getElem?_eq_some_iff.1 hj).1
        exact scalar_rel (hsc _ (List.getElem_mem hjl)) ((VRels_iff.1 hcl).2 j _ x (List.getElem?_eq_getElem hjl) hj)
      obtain ⟨w', hrun, hs', hk, hos, htp, hout, arr', harr, hlist⟩ := run_storeCells (P := P) c.cells.toList w arr (b.base + off) 0 h1 (by rw [hlen]; omega) hscv
      have hx := rel_set hR hb (by rw [hf]; trivial) (.cells es (cs.take off ++ l ++ cs.drop (off + l.length))) trivial hs' hk ?_ hos htp hout
      · refine ⟨w', ?_, hx.1, hx.2⟩
        have e1 : c.cells.size = inf.size := by rw [← Array.length_toList, hlen, hl, hsz]
        simp only [Instr.storeAt, Instr.sureAddr, storeVar, Sem.run_bind, Sem.run_pure, Result.andThen, run_sizeOf' hi]
        rw [if_neg (by simp [e1])]
        simpa using hrun
      · refine ⟨hes, arr', elem, harr, ?_, ?_, ?_⟩
        · have : arr'.size = arr.size := by
            rw [← Array.length_toList, hlist]; simp [hlen]; omega
          omega
        · simp; omega
        · have : (arr'.toList.drop b.base).take (cs.take off ++ l ++ cs.drop (off + l.length)).length =
              (((arr.toList.drop b.base).take cs.length).take off) ++ c.cells.toList ++ (((arr.toList.drop b.base).take cs.length).drop (off + l.length)) := by
            rw [hlist]
            apply List.ext_getElem?
            intro k
            simp only [Nat.add_zero, List.getElem?_take, List.getElem?_drop, List.getElem?_append, List.length_append, List.length_take, List.length_drop, Array.length_toList, hlen]
            repeat' split
            all_goals first | rfl | omega | (congr 1; omega) | (exfalso; omega)
          rw [this]
          exact VRels_append (VRels_append (VRels_take h4 _) hcl) (VRels_drop h4 _)
    · cases hst
end Go.Vh

/- Operations on numbers, tests, parts of structs and places. -/
set_option linter.unusedVariables false
set_option linter.unusedSimpArgs false
namespace Go.Vh
variable {P : Program}

def bitsA (op : BinOp) (k : IntKind) (x y : Int) : Int :=
  match op with
  | .and => k.wrap (BitVec.ofInt k.bits x &&& BitVec.ofInt k.bits y).toNat
  | .or => k.wrap (BitVec.ofInt k.bits x ||| BitVec.ofInt k.bits y).toNat
  | .xor => k.wrap (BitVec.ofInt k.bits x ^^^ BitVec.ofInt k.bits y).toNat
  | _ => k.wrap (BitVec.ofInt k.bits x &&& ~~~(BitVec.ofInt k.bits y)).toNat
def shlA (k : IntKind) (x y : Int) : Int := k.wrap (x * 2 ^ (min y.toNat k.bits))
def shrA (k : IntKind) (x y : Int) : Int := x.fdiv (2 ^ (min y.toNat k.bits))
def abinInt (op : BinOp) (k : IntKind) (a b : Int) : Option AVal :=
  match op with
  | .add => some (.int k (k.wrap (a + b)))
  | .sub => some (.int k (k.wrap (a - b)))
  | .mul => some (.int k (k.wrap (a * b)))
  | .quo => if b = 0 then none else some (.int k (k.wrap (a.tdiv b)))
  | .rem => if b = 0 then none else some (.int k (a.tmod b))
  | .and => some (.int k (bitsA .and k a b))
  | .or => some (.int k (bitsA .or k a b))
  | .xor => some (.int k (bitsA .xor k a b))
  | .andNot => some (.int k (bitsA .andNot k a b))
  | .eql => some (.bool (a == b))
  | .neq => some (.bool (a != b))
  | .lss => some (.bool (decide (a < b)))
  | .leq => some (.bool (decide (a ≤ b)))
  | .gtr => some (.bool (decide (a > b)))
  | .geq => some (.bool (decide (a ≥ b)))
  | _ => none
def abinStr (op : BinOp) (a b : ByteArray) : Option AVal :=
  match op with
  | .add => if a.size + b.size ≤ 4294967296 then some (.str (a ++ b)) else none
  | .eql => some (.bool (a.toList == b.toList))
  | .neq => some (.bool (!(a.toList == b.toList)))
  | _ => none
/-- A type whose values are equal as lists of cells are. -/
def scalarD : TypeDesc → Bool
  | .int _ | .bool | .string => true
  | _ => false
def flatFields (P : Program) : List Field → Nat → Bool
  | [], _ => true
  | f :: fs, j => f.offset == j && f.name != "_" && ((P.underlying f.type).map scalarD).getD false && flatFields P fs (j + 1)
def aeqS : AVal → AVal → Option Bool
  | .int k a, .int k' b => if k = k' then some (a == b) else none
  | .bool a, .bool b => some (a == b)
  | .str a, .str b => some (a.toList == b.toList)
  | _, _ => none
def aeqL : List AVal → List AVal → Option Bool
  | [], [] => some true
  | a :: as, b :: bs => match aeqS a b, aeqL as bs with
    | some x, some y => some (x && y)
    | _, _ => none
  | _, _ => none

def abin (op : BinOp) (x y : AVal) : Option AVal :=
  match op, x, y with
  | .shl, .int k a, .int _ b => if b < 0 then none else some (.int k (shlA k a b))
  | .shr, .int k a, .int _ b => if b < 0 then none else some (.int k (shrA k a b))
  | op, .int k a, .int k' b => if k = k' then abinInt op k a b else none
  | op, .str a, .str b => abinStr op a b
  | _, _, _ => none

theorem run_eqGuard_scalar {op : BinOp} {t : TypeId} {x y : Operand} {a b : Value} (w : World) (ha : scalarV a = true) (hn : a ≠ .nilIface ∨ b ≠ .nilIface) : (eqGuard op t x y a b).run P w = .ok () w := by
  unfold eqGuard
  cases a with
  | agg cs => simp [scalarV] at ha
  | nilIface => cases b <;> first | (cases op <;> rfl) | simp at hn
  | _ => cases op <;> rfl

theorem abin_run {op : BinOp} {t : TypeId} {φ : PMap} {x y v : AVal} {cx cy : Value} (hx : VRel φ x cx) (hy : VRel φ y cy) (h : abin op x y = some v) :
    ∃ c, (∀ w, (binOp op t cx cy).run P w = .ok c w) ∧ VRel φ v c ∧ scalarV cx = true ∧ cx ≠ .nilIface := by
  unfold abin at h
  split at h
  · rename_i k a k' b
    obtain rfl : cx = .int k a := hx
    obtain rfl : cy = .int k' b := hy
    split at h
    · cases h
    · rename_i hb
      cases h
      exact ⟨_, fun w => by simp [binOp, Op.shift, hb, shlA], rfl, rfl, by simp⟩
  · rename_i k a k' b
    obtain rfl : cx = .int k a := hx
    obtain rfl : cy = .int k' b := hy
    split at h
    · cases h
    · rename_i hb
      cases h
      exact ⟨_, fun w => by simp [binOp, Op.shift, hb, shrA], rfl, rfl, by simp⟩
  · rename_i k a k' b hns1 hns2
    obtain rfl : cx = .int k a := hx
    obtain rfl : cy = .int k' b := hy
    split at h
    · rename_i hk
      subst hk
      cases op <;> simp only [abinInt, Option.some.injEq, reduceCtorEq] at h
      case quo =>
        split at h
        · cases h
        · rename_i hb; cases h; exact ⟨_, fun w => by simp [binOp, Op.intDiv, hb], rfl, rfl, by simp⟩
      case rem =>
        split at h
        · cases h
        · rename_i hb; cases h; exact ⟨_, fun w => by simp [binOp, Op.intDiv, hb], rfl, rfl, by simp⟩
      all_goals (subst h; exact ⟨_, fun w => by simp [binOp, Op.intArith, Op.intBits, Op.intCmp, bitsA], rfl, rfl, by simp⟩)
    · cases h
  · rename_i a b
    obtain rfl : cx = .string a := hx
    obtain rfl : cy = .string b := hy
    cases op <;> simp only [abinStr, Option.some.injEq, reduceCtorEq] at h
    case add =>
      split at h
      · rename_i hl
        cases h
        refine ⟨_, fun w => ?_, rfl, rfl, by simp⟩
        simp only [binOp, Op.stringOp]
        rw [if_neg (by simp [IntKind.max, IntKind.bits, IntKind.signed]; omega)]
        rfl
      · cases h
    all_goals (subst h; exact ⟨_, fun w => by simp [binOp, Op.stringOp], rfl, rfl, by simp⟩)
  · cases h

/-- Equality of bools, of flat structs and arrays, and with nil. -/
inductive EqKind where
  | bool
  | flat (n : Nat)
  | nilable
def eqKind (P : Program) (t : TypeId) : Option EqKind :=
  match P.underlying t with
  | some .bool => some .bool
  | some (.struct fs) => if flatFields P fs.toList 0 && !P.stoodInHeld t && !P.eqGuardType P.depth t then some (.flat fs.size) else none
  | some (.array n e) => if ((P.underlying e).map scalarD).getD false && !P.eqGuardType P.depth t then some (.flat n) else none
  | some (.slice _) | some (.map _ _) | some (.func _ _ _) | some (.pointer _) => some .nilable
  | _ => none
def isNilA : AVal → Option Bool
  | .nilSlice => some true
  | .slice _ _ _ => some false
  | .map _ => some false
  | .func _ _ _ => some false
  | .yield _ => some false
  | .ptr _ _ => some false
  | .raw (.map none) | .raw .nilFunc | .raw (.pointer none) => some true
  | _ => none
def aeq (k : EqKind) (x y : AVal) : Option Bool :=
  match k, x, y with
  | .bool, .bool a, .bool b => some (a == b)
  | .flat _, .agg l, .agg m => if l.length = m.length then aeqL l m else none
  | .nilable, x, .nilSlice => isNilA x
  | .nilable, x, .raw (.map none) => isNilA x
  | .nilable, x, .raw .nilFunc => isNilA x
  | .nilable, x, .raw (.pointer none) => isNilA x
  | _, _, _ => none

def aun (op : UnOp) (x : AVal) : Option AVal :=
  match op, x with
  | .neg, .int k n => some (.int k (k.wrap (0 - n)))
  | .xor, .int k n => some (.int k (bitsA .xor k (if k.signed then -1 else k.max) n))
  | .not, .bool b => some (.bool !b)
  | _, _ => none
theorem aun_run {op : UnOp} {φ : PMap} {x v : AVal} {cx : Value} (hx : VRel φ x cx) (h : aun op x = some v) : ∃ c, (∀ w, (Op.unary op cx).run P w = .ok c w) ∧ VRel φ v c := by
  unfold aun at h
  split at h
  · rename_i k n; obtain rfl : cx = .int k n := hx; cases h; exact ⟨_, fun w => by simp [Op.unary, Op.intArith], rfl⟩
  · rename_i k n; obtain rfl : cx = .int k n := hx; cases h; exact ⟨_, fun w => by simp [Op.unary, Op.intBits, bitsA], rfl⟩
  · rename_i b; obtain rfl : cx = .bool b := hx; cases h; exact ⟨_, fun w => by simp [Op.unary], rfl⟩
  · cases h

/-! ### Places -/
def fieldOff (P : Program) (s : TypeId) (k : Nat) : Option Nat :=
  match P.underlying s with
  | some (.struct fs) => match fs[k]? with
    | some f => match P.info? f.type with
      | some i => if i.size = 0 then none else some f.offset
      | none => none
    | none => none
  | _ => none
theorem pure_fieldAt {φ : PMap} {s : TypeId} {k o i off : Nat} {c : Value} (h : fieldOff P s k = some o) (hp : VRel φ (.ptr i off) c) : PureTo P φ (Instr.fieldAt s c k) (.ptr i (off + o)) := by
  obtain ⟨b, hb, rfl⟩ := hp
  unfold fieldOff at h
  split at h
  · rename_i fs hu
    split at h
    · rename_i f hf
      split at h
      · rename_i inf hinf
        split at h
        · cases h
        · rename_i hz
          cases h
          refine ⟨.pointer (some ⟨b.blk, b.base + (off + f.offset), none⟩), fun w => ?_, ⟨b, hb, rfl⟩⟩
          simp [Instr.fieldAt, run_underlying' hu, Result.andThen, hf, Instr.sureAddr, fieldPlace, run_sizeOf' hinf, hz, add_at, Nat.add_assoc]
      · cases h
    · cases h
  · cases h

def elemSize (P : Program) (t : TypeId) : Option Nat :=
  match P.underlying t with
  | some (.slice e) | some (.array _ e) => (P.info? e).map (·.size)
  | _ => none
def arrayLen? (P : Program) (t : TypeId) : Option Nat :=
  match P.underlying t with
  | some (.array n _) => some n
  | _ => none
def aindexAddr (P : Program) (t : TypeId) (x ix : AVal) : Option AVal :=
  match elemSize P t, x, ix with
  | some es, .slice i off len, .int _ n => if 0 ≤ n ∧ n < (len : Int) then some (.ptr i (off + n.toNat * es)) else none
  | some es, .ptr i off, .int _ n => match arrayLen? P t with
    | some len => if 0 ≤ n ∧ n < (len : Int) then some (.ptr i (off + n.toNat * es)) else none
    | none => none
  | _, _, _ => none
theorem pure_indexAt {φ : PMap} {t : TypeId} {x ix v : AVal} {cx ci : Value} (hx : VRel φ x cx) (hi : VRel φ ix ci) (h : aindexAddr P t x ix = some v)
    (hsl : ∀ i off len, x = .slice i off len → ∃ e, P.underlying t = some (.slice e)) (har : ∀ i off, x = .ptr i off → ∃ n e, P.underlying t = some (.array n e)) : PureTo P φ (Instr.indexAt t cx ci) v := by
  unfold aindexAddr at h
  split at h
  · rename_i es i off len k n hes
    split at h
    · rename_i hb
      cases h
      obtain ⟨e, hu⟩ := hsl _ _ _ rfl
      obtain ⟨b, cap, ad, hφ, rfl, hlc, hcap⟩ := hx
      obtain rfl : ci = .int k n := hi
      obtain ⟨rfl, _⟩ := hcap (by omega)
      simp only [elemSize, hu] at hes
      cases hinf : P.info? e with
      | none => simp [hinf] at hes
      | some inf =>
        simp only [hinf, Option.map_some, Option.some.injEq] at hes
        refine ⟨.pointer (some ⟨b.blk, b.base + (off + n.toNat * es), none⟩), fun w => ?_, ⟨b, hφ, rfl⟩⟩
        simp [Instr.indexAt, asIntOf, run_underlying' hu, Result.andThen, hb, run_sizeOf' hinf, hes, add_at, Nat.add_assoc]
    · cases h
  · rename_i es i off k n hes
    split at h
    · rename_i len hlen
      split at h
      · rename_i hb
        cases h
        obtain ⟨m, e, hu⟩ := har _ _ rfl
        simp only [arrayLen?, hu, Option.some.injEq] at hlen
        subst hlen
        obtain ⟨b, hφ, rfl⟩ := hx
        obtain rfl : ci = .int k n := hi
        simp only [elemSize, hu] at hes
        cases hinf : P.info? e with
        | none => simp [hinf] at hes
        | some inf =>
          simp only [hinf, Option.map_some, Option.some.injEq] at hes
          refine ⟨.pointer (some ⟨b.blk, b.base + (off + n.toNat * es), none⟩), fun w => ?_, ⟨b, hφ, rfl⟩⟩
          simp [Instr.indexAt, asIntOf, run_underlying' hu, Result.andThen, Instr.sureAddr, hb, run_sizeOf' hinf, hes, add_at, Nat.add_assoc]
      · cases h
    · cases h
  · cases h

/-! ### Parts of values -/
def fieldGet (P : Program) (s : TypeId) (k : Nat) : Option (Nat × Nat × Bool) :=
  match P.underlying s with
  | some (.struct fs) => match fs[k]? with
    | some f => match P.info? f.type, P.underlying f.type with
      | some i, some d => some (f.offset, i.size, TypeDesc.isAgg d)
      | _, _ => none
    | none => none
  | _ => none
def partA (l : List AVal) (p : Nat × Nat × Bool) : Option AVal :=
  if p.2.2 then (if p.1 + p.2.1 ≤ l.length then some (.agg ((l.drop p.1).take p.2.1)) else none) else l[p.1]?
theorem part_run {φ : PMap} {t : TypeId} {inf : TypeInfo} {d : TypeDesc} {l : List AVal} {cs : List Value} {o : Nat} {v : AVal} (hi : P.info? t = some inf) (hd : P.underlying t = some d) (h : VRels φ l cs)
    (hv : partA l (o, inf.size, TypeDesc.isAgg d) = some v) : ∃ c, (∀ w, (part t cs.toArray o).run P w = .ok c w) ∧ VRel φ v c := by
  unfold partA at hv
  by_cases ha : TypeDesc.isAgg d = true
  · simp only [ha, if_true] at hv
    split at hv
    · cases hv
      refine ⟨.agg ((cs.drop o).take inf.size).toArray, fun w => ?_, _, rfl, VRels_take (VRels_drop h _) _⟩
      simp [part, run_isAgg' hd, ha, Result.andThen, run_sizeOf' hi]
    · cases hv
  · simp only [ha] at hv
    obtain ⟨c, hc, hr⟩ := VRels_get h (by simpa using hv)
    exact ⟨c, fun w => by simp [part, run_isAgg' hd, ha, Result.andThen, hc], hr⟩
def afield (P : Program) (s : TypeId) (x : AVal) (k : Nat) : Option AVal :=
  match x, fieldGet P s k with
  | .agg l, some p => partA l p
  | _, _ => none
theorem pure_field {φ : PMap} {s : TypeId} {k : Nat} {x v : AVal} {c : Value} (hx : VRel φ x c) (h : afield P s x k = some v) : PureTo P φ (Instr.field s c k) v := by
  unfold afield at h
  split at h
  · rename_i l p hp
    obtain ⟨cs, rfl, hcs⟩ := hx
    unfold fieldGet at hp
    split at hp
    · rename_i fs hu
      split at hp
      · rename_i f hf
        split at hp
        · rename_i i d hi hd
          cases hp
          obtain ⟨c, hc, hr⟩ := part_run (P := P) hi hd hcs h
          refine ⟨c, fun w => ?_, hr⟩
          simp [Instr.field, run_underlying' hu, Result.andThen, hf, asAgg, hc]
        · cases hp
      · cases hp
    · cases hp
  · cases h
def aindex (P : Program) (t : TypeId) (x ix : AVal) : Option AVal :=
  match P.underlying t, x, ix with
  | some (.array n e), .agg l, .int _ i => match P.info? e, P.underlying e with
    | some inf, some d => if 0 ≤ i ∧ i < (n : Int) then partA l (i.toNat * inf.size, inf.size, TypeDesc.isAgg d) else none
    | _, _ => none
  | some .string, .str s, .int _ i => if h : 0 ≤ i ∧ i < (s.size : Int) then some (.int .u8 ((s[i.toNat]'(by omega)).toNat : Int)) else none
  | _, _, _ => none
theorem pure_index {φ : PMap} {t : TypeId} {x ix v : AVal} {cx ci : Value} (hx : VRel φ x cx) (hi : VRel φ ix ci) (h : aindex P t x ix = some v) : PureTo P φ (Instr.index t cx ci) v := by
  unfold aindex at h
  split at h
  · rename_i n e l k i hu
    obtain ⟨cs, rfl, hcs⟩ := hx
    obtain rfl : ci = .int k i := hi
    split at h
    · rename_i inf d hinf hd
      split at h
      · rename_i hb
        obtain ⟨c, hc, hr⟩ := part_run (P := P) hinf hd hcs h
        refine ⟨c, fun w => ?_, hr⟩
        simp [Instr.index, asIntOf, run_underlying' hu, Result.andThen, hb, run_sizeOf' hinf, hc]
      · cases h
    · cases h
  · rename_i s k i hu
    obtain rfl : cx = .string s := hx
    obtain rfl : ci = .int k i := hi
    split at h
    · rename_i hb
      cases h
      refine ⟨.int .u8 ((s[i.toNat]'(by omega)).toNat : Int), fun w => ?_, rfl⟩
      have hlt : i.toNat < s.size := by omega
      simp [Instr.index, asIntOf, run_underlying' hu, Result.andThen, hb.1, hlt]
    · cases h
  · cases h
theorem pure_extract {φ : PMap} {l : List AVal} {k : Nat} {v : AVal} {c : Value} (hx : VRel φ (.tuple l) c) (h : l[k]? = some v) : PureTo P φ (Instr.extract c k) v := by
  obtain ⟨cs, rfl, hcs⟩ := hx
  obtain ⟨c, hc, hr⟩ := VRels_get hcs h
  exact ⟨c, fun w => (by simp [Instr.extract, hc]), hr⟩
/-! ### Rows that nothing will write any more -/
def rindexA (P : Program) (t : TypeId) (n : Nat) (cs : List AVal) (ix : AVal) : Option AVal :=
  match elemSize P t, ix with
  | some es, .int _ j => if 0 ≤ j ∧ j < (n : Int) then some (.rptr cs (j.toNat * es)) else none
  | _, _ => none
theorem row_pos {φ : PMap} {n : Nat} {cs : List AVal} {c : Value} (h : VRel φ (.row n cs) c) (h0 : 0 < n) : ∃ cap ad, c = .slice (some ad) n cap ∧ n ≤ cap ∧ ad.spot = none ∧ ZRow φ.z cs ad.block ad.off := by
  rw [VRel, ZRel] at h
  rcases h with ⟨h, _⟩ | ⟨cap, ad, h1, h2, h4, h3⟩
  · omega
  · exact ⟨cap, ad, h1, h2, h4 (by omega), h3 h0⟩
theorem pure_indexAtR {φ : PMap} {t e : TypeId} {n : Nat} {cs : List AVal} {ix v : AVal} {cx ci : Value} (hx : VRel φ (.row n cs) cx) (hi : VRel φ ix ci) (h : rindexA P t n cs ix = some v) (hu : P.underlying t = some (.slice e)) : PureTo P φ (Instr.indexAt t cx ci) v := by
  unfold rindexA at h
  split at h
  · rename_i es k j hes
    split at h
    · rename_i hb
      cases h
      obtain ⟨cap, ⟨ab, ao, asp⟩, rfl, hlc, hs, hz⟩ := row_pos hx (by omega)
      dsimp only at hs hz
      subst hs
      obtain rfl : ci = .int k j := hi
      simp only [elemSize, hu] at hes
      cases hinf : P.info? e with
      | none => simp [hinf] at hes
      | some inf =>
        simp only [hinf, Option.map_some, Option.some.injEq] at hes
        refine ⟨.pointer (some ⟨ab, ao + j.toNat * es, none⟩), fun w => ?_, ⟨ab, ao, rfl, hz⟩⟩
        simp [Instr.indexAt, asIntOf, run_underlying' hu, Result.andThen, hb, run_sizeOf' hinf, hes, add_at]
    · cases h
  · cases h
theorem pure_fieldAtR {φ : PMap} {s : TypeId} {k o off : Nat} {cs : List AVal} {c : Value} (h : fieldOff P s k = some o) (hp : VRel φ (.rptr cs off) c) : PureTo P φ (Instr.fieldAt s c k) (.rptr cs (off + o)) := by
  obtain ⟨blk, b, rfl, hz⟩ := hp
  unfold fieldOff at h
  split at h
  · rename_i fs hu
    split at h
    · rename_i f hf
      split at h
      · rename_i inf hinf
        split at h
        · cases h
        · rename_i hzz
          cases h
          refine ⟨.pointer (some ⟨blk, b + (off + f.offset), none⟩), fun w => ?_, ⟨blk, b, rfl, hz⟩⟩
          simp [Instr.fieldAt, run_underlying' hu, Result.andThen, hf, Instr.sureAddr, fieldPlace, run_sizeOf' hinf, hzz, add_at, Nat.add_assoc]
      · cases h
    · cases h
  · cases h
end Go.Vh

/- Equality of flat values; maps. -/
set_option linter.unusedVariables false
set_option linter.unusedSimpArgs false
namespace Go.Vh
variable {P : Program}

theorem scalarD_cases {d : TypeDesc} (h : scalarD d = true) : (∃ k, d = .int k) ∨ d = .bool ∨ d = .string := by
  cases d <;> simp_all [scalarD]
theorem aeqS_run {t : TypeId} {d : TypeDesc} {φ : PMap} {x y : AVal} {cx cy : Value} {b : Bool} {n : Nat} (w : World) (hu : P.underlying t = some d) (hd : scalarD d = true) (hx : VRel φ x cx) (hy : VRel φ y cy)
    (hk : ∀ k a, x = .int k a → ∃ k', d = .int k') (hb : ∀ a, x = .bool a → d = .bool) (hs : ∀ a, x = .str a → d = .string) (h : aeqS x y = some b) : (Op.equalIn (n + 1) t cx cy).run P w = .ok b w := by
  unfold aeqS at h
  split at h
  · rename_i k a k' b'
    obtain rfl : cx = .int k a := hx
    obtain rfl : cy = .int k' b' := hy
    split at h
    · rename_i hkk
      subst hkk; cases h
      obtain ⟨k2, rfl⟩ := hk _ _ rfl
      simp [Op.equalIn, run_underlying' hu, Result.andThen]
    · cases h
  · rename_i a b'
    obtain rfl : cx = .bool a := hx
    obtain rfl : cy = .bool b' := hy
    cases h
    obtain rfl := hb _ rfl
    simp [Op.equalIn, run_underlying' hu, Result.andThen]
  · rename_i a b'
    obtain rfl : cx = .string a := hx
    obtain rfl : cy = .string b' := hy
    cases h
    obtain rfl := hs _ rfl
    exact run_equalIn_string w n t a b' hu
  · cases h

/-- A value of a scalar type, as to its kind. -/
def fitsS : TypeDesc → AVal → Bool
  | .int _, .int _ _ => true
  | .bool, .bool _ => true
  | .string, .str _ => true
  | _, _ => false
theorem aeqS_run' {t : TypeId} {d : TypeDesc} {φ : PMap} {x y : AVal} {cx cy : Value} {b : Bool} {n : Nat} (w : World) (hu : P.underlying t = some d) (hf : fitsS d x = true) (hx : VRel φ x cx) (hy : VRel φ y cy) (h : aeqS x y = some b) : (Op.equalIn (n + 1) t cx cy).run P w = .ok b w := by
  refine aeqS_run w hu ?_ hx hy ?_ ?_ ?_ h
  all_goals (cases d <;> cases x <;> simp_all [fitsS, scalarD])

/-- The kinds of a flat type's cells. -/
def flatD (P : Program) (t : TypeId) : Option (List TypeDesc) :=
  match P.underlying t with
  | some (.struct fs) => if flatFields P fs.toList 0 && !P.stoodInHeld t then some (fs.toList.filterMap fun f => P.underlying f.type) else none
  | some (.array n e) => match P.underlying e, P.info? e with
    | some d, some i => if scalarD d && i.size == 1 then some (List.replicate n d) else none
    | _, _ => none
  | _ => none
def fitsL : List TypeDesc → List AVal → Bool
  | [], [] => true
  | d :: ds, v :: vs => fitsS d v && fitsL ds vs
  | _, _ => false
theorem fitsS_scalar {d : TypeDesc} {v : AVal} (h : fitsS d v = true) : scalarD d = true ∧ TypeDesc.isAgg d = false := by cases d <;> cases v <;> simp_all [fitsS, scalarD, TypeDesc.isAgg]
theorem part_scalar {t : TypeId} {d : TypeDesc} (hu : P.underlying t = some d) (ha : TypeDesc.isAgg d = false) {cs : List Value} {o : Nat} {c : Value} (h : cs[o]? = some c) (w : World) : (part t cs.toArray o).run P w = .ok c w := by
  simp [part, run_isAgg' hu, ha, Result.andThen, h]

theorem eqFields_run {φ : PMap} {n : Nat} (w : World) {xs ys : List Value} : ∀ (fs : List Field) (j : Nat) (l m : List AVal) (b : Bool), flatFields P fs j = true → fitsL (fs.filterMap fun f => P.underlying f.type) l = true → VRels φ l (xs.drop j) → VRels φ m (ys.drop j) → aeqL l m = some b →
    (Op.eqFields (n + 1) xs.toArray ys.toArray fs).run P w = .ok b w := by
  intro fs
  induction fs with
  | nil =>
    intro j l m b _ hf _ _ h
    cases l with
    | nil => cases m with
      | nil => simp [aeqL] at h; subst h; rfl
      | cons => simp [aeqL] at h
    | cons => simp [fitsL] at hf
  | cons f fs ih =>
    intro j l m b hfl hf hx hy h
    simp only [flatFields, Bool.and_eq_true, beq_iff_eq, bne_iff_ne, ne_eq] at hfl
    obtain ⟨⟨⟨hoff, hname⟩, hsc⟩, hrest⟩ := hfl
    cases hu : P.underlying f.type with
    | none => simp [hu] at hsc
    | some d =>
      simp only [List.filterMap_cons, hu] at hf
      cases l with
      | nil => simp [fitsL] at hf
      | cons v l =>
        simp only [fitsL, Bool.and_eq_true] at hf
        cases m with
        | nil => simp [aeqL] at h
        | cons u m =>
          simp only [aeqL] at h
          cases h1 : aeqS v u with
          | none => simp [h1] at h
          | some r =>
            cases h2 : aeqL l m with
            | none => simp [h1, h2] at h
            | some s =>
              simp only [h1, h2, Option.some.injEq] at h
              obtain ⟨c, hc, hcr⟩ := VRels_get hx (j := 0) (v := v) rfl
              obtain ⟨e, he, her⟩ := VRels_get hy (j := 0) (v := u) rfl
              rw [List.getElem?_drop, Nat.add_zero] at hc he
              have ha := (fitsS_scalar hf.1).2
              have hx' : VRels φ l (xs.drop (j + 1)) := by
                have := VRels_drop hx 1; simpa [List.drop_drop] using this
              have hy' : VRels φ m (ys.drop (j + 1)) := by
                have := VRels_drop hy 1; simpa [List.drop_drop] using this
              rw [Op.eqFields, if_pos hname]
              simp only [Sem.run_bind, hoff, part_scalar hu ha hc, part_scalar hu ha he, aeqS_run' w hu hf.1 hcr her h1, Result.andThen]
              subst h
              cases r
              · simp
              · simpa using ih (j + 1) l m s hrest hf.2 hx' hy' h2
theorem eqItems_run {φ : PMap} {n : Nat} (w : World) {xs ys : List Value} {e : TypeId} {d : TypeDesc} (hu : P.underlying e = some d) : ∀ (k j : Nat) (l m : List AVal) (b : Bool), fitsL (List.replicate k d) l = true → VRels φ l (xs.drop j) → VRels φ m (ys.drop j) → aeqL l m = some b →
    (Op.eqItems (n + 1) e 1 xs.toArray ys.toArray (List.range' j k)).run P w = .ok b w := by
  intro k
  induction k with
  | zero =>
    intro j l m b hf _ _ h
    cases l with
    | nil => cases m with
      | nil => simp [aeqL] at h; subst h; rfl
      | cons => simp [aeqL] at h
    | cons => simp [fitsL] at hf
  | succ k ih =>
    intro j l m b hf hx hy h
    simp only [List.replicate_succ] at hf
    cases l with
    | nil => simp [fitsL] at hf
    | cons v l =>
      simp only [fitsL, Bool.and_eq_true] at hf
      cases m with
      | nil => simp [aeqL] at h
      | cons u m =>
        simp only [aeqL] at h
        cases h1 : aeqS v u with
        | none => simp [h1] at h
        | some r =>
          cases h2 : aeqL l m with
          | none => simp [h1, h2] at h
          | some s =>
            simp only [h1, h2, Option.some.injEq] at h
            obtain ⟨c, hc, hcr⟩ := VRels_get hx (j := 0) (v := v) rfl
            obtain ⟨e', he, her⟩ := VRels_get hy (j := 0) (v := u) rfl
            rw [List.getElem?_drop, Nat.add_zero] at hc he
            have ha := (fitsS_scalar hf.1).2
            have hx' : VRels φ l (xs.drop (j + 1)) := by
              have := VRels_drop hx 1; simpa [List.drop_drop] using this
            have hy' : VRels φ m (ys.drop (j + 1)) := by
              have := VRels_drop hy 1; simpa [List.drop_drop] using this
            rw [List.range'_succ, Op.eqItems]
            simp only [Sem.run_bind, Nat.mul_one, part_scalar hu ha hc, part_scalar hu ha he, aeqS_run' w hu hf.1 hcr her h1, Result.andThen]
            subst h
            cases r
            · simp
            · simpa using ih (j + 1) l m s hf.2 hx' hy' h2
theorem flat_eq_run {φ : PMap} {n : Nat} (w : World) {t : TypeId} {ds : List TypeDesc} {l m : List AVal} {cx cy : Value} {b : Bool} (hd : flatD P t = some ds) (hf : fitsL ds l = true) (hx : VRel φ (.agg l) cx) (hy : VRel φ (.agg m) cy) (h : aeqL l m = some b) :
    (Op.equalIn (n + 2) t cx cy).run P w = .ok b w := by
  obtain ⟨xs, rfl, hxs⟩ := hx
  obtain ⟨ys, rfl, hys⟩ := hy
  unfold flatD at hd
  split at hd
  · rename_i fs hu
    split at hd
    · rename_i hc
      cases hd
      simp only [Bool.and_eq_true, Bool.not_eq_true'] at hc
      have hfs : P.fieldsOf t = fs := by simp [Program.fieldsOf, hu]
      rw [run_equalIn_agg (P := P) w (n + 1) t _ _ (by rw [hfs]; exact hu) hc.2, hfs]
      exact eqFields_run w fs.toList 0 l m b hc.1 hf (by simpa using hxs) (by simpa using hys) h
    · cases hd
  · rename_i k e hu
    split at hd
    · rename_i d i hue hie
      split at hd
      · rename_i hc
        cases hd
        simp only [Bool.and_eq_true, beq_iff_eq] at hc
        rw [run_equalIn_array w (n + 1) _ _ hu hie]
        have hce : P.cellsOf e = 1 := by simp [Program.cellsOf, hie, hc.2]
        rw [hce, List.range_eq_range']
        exact eqItems_run w hue k 0 l m b hf (by simpa using hxs) (by simpa using hys) h
      · cases hd
    · cases hd
  · cases hd

/-! ### Maps -/
inductive KeyK where
  | scalar (d : TypeDesc)
  | flat (ds : List TypeDesc)
def keyK (P : Program) (t : TypeId) : Option KeyK :=
  match P.underlying t with
  | some d => if scalarD d then some (.scalar d) else (flatD P t).map .flat
  | none => none
def keyEq : KeyK → AVal → AVal → Option Bool
  | .scalar d, x, y => if fitsS d x then aeqS x y else none
  | .flat ds, .agg l, .agg m => if fitsL ds l then aeqL l m else none
  | _, _, _ => none
def mfind (k : KeyK) (x : AVal) : List (AVal × AVal) → Nat → Option (Option (Nat × AVal))
  | [], _ => some none
  | (y, v) :: r, i => match keyEq k x y with
    | some true => some (some (i, v))
    | some false => mfind k x r (i + 1)
    | none => none
theorem beq_bytes (a b : ByteArray) : (a == b) = (a.toList == b.toList) := beq_toListBytes a b
/-- What the model's search finds is what the list's finds. -/
def FRel (φ : PMap) : Option (Nat × AVal) → Option (Nat × Value) → Prop
  | none, none => True
  | some (j, v), some (j', c) => j = j' ∧ VRel φ v c
  | _, _ => False
theorem findNow_run {φ : PMap} {d : TypeDesc} {x : AVal} {cx : Value} (hx : VRel φ x cx) (hf : fitsS d x = true) : ∀ (es : List (AVal × AVal)) (ents : List MapEntry) (i : Nat) (r : Option (Nat × AVal)), MRels φ es ents → mfind (.scalar d) x es i = some r →
    ∃ r', Instr.findNow d cx ents i = some r' ∧ FRel φ r r'
  | [], ents, i, r, h, hr => by
    obtain rfl : ents = [] := h
    simp only [mfind, Option.some.injEq] at hr
    subst hr
    exact ⟨none, rfl, trivial⟩
  | (y, v) :: es, ents, i, r, h, hr => by
    obtain ⟨e, ents', rfl, h1, h2, h3⟩ := h
    simp only [mfind, keyEq, hf, if_true] at hr
    cases hq : aeqS x y with
    | none => simp [hq] at hr
    | some q =>
      have hsame : Instr.sameNow d cx e.key = some q := by
        cases d <;> cases x <;> simp only [fitsS, Bool.false_eq_true] at hf
        case int.int k a b =>
          obtain rfl : cx = .int a b := hx
          cases y <;> simp only [aeqS, reduceCtorEq] at hq
          case int k' b' =>
            have he : e.key = .int k' b' := h1
            rw [he]; exact hq
        case bool.bool a =>
          obtain rfl : cx = .bool a := hx
          cases y <;> simp only [aeqS, reduceCtorEq] at hq
          case bool b' =>
            have he : e.key = .bool b' := h1
            rw [he]; exact hq
        case string.str a =>
          obtain rfl : cx = .string a := hx
          cases y <;> simp only [aeqS, reduceCtorEq] at hq
          case str b' =>
            have he : e.key = .string b' := h1
            rw [he, ← hq]; simp [Instr.sameNow, beq_bytes]
      simp only [hq] at hr
      simp only [Instr.findNow, hsame]
      cases q with
      | true => cases hr; exact ⟨_, rfl, rfl, h2⟩
      | false => exact findNow_run hx hf es ents' (i + 1) r h3 hr
theorem findAsking_run {φ : PMap} {t : TypeId} {ds : List TypeDesc} (hd : flatD P t = some ds) {l : List AVal} {cx : Value} (hx : VRel φ (.agg l) cx) (hf : fitsL ds l = true) (w : World) : ∀ (es : List (AVal × AVal)) (ents : List MapEntry) (i : Nat) (r : Option (Nat × AVal)), MRels φ es ents → mfind (.flat ds) (.agg l) es i = some r →
    ∃ r', (Instr.findAsking t cx ents i).run P w = .ok r' w ∧ FRel φ r r'
  | [], ents, i, r, h, hr => by
    obtain rfl : ents = [] := h
    simp only [mfind, Option.some.injEq] at hr
    subst hr
    exact ⟨none, rfl, trivial⟩
  | (y, v) :: es, ents, i, r, h, hr => by
    obtain ⟨e, ents', rfl, h1, h2, h3⟩ := h
    simp only [mfind] at hr
    cases y <;> simp only [keyEq, reduceCtorEq] at hr
    case agg m =>
      simp only [hf, if_true] at hr
      cases hq : aeqL l m with
      | none => simp [hq] at hr
      | some q =>
        have he : (Op.equal t cx e.key).run P w = .ok q w := flat_eq_run (n := 9998) w hd hf hx h1 hq
        simp only [hq] at hr
        simp only [Instr.findAsking, Sem.run_bind, he, Result.andThen]
        cases q with
        | true => cases hr; exact ⟨_, rfl, rfl, h2⟩
        | false =>
          obtain ⟨r', hr', hm⟩ := findAsking_run hd hx hf w es ents' (i + 1) r h3 hr
          exact ⟨r', by simpa using hr', hm⟩
end Go.Vh

/- Maps read and written. -/
set_option linter.unusedVariables false
set_option linter.unusedSimpArgs false
namespace Go.Vh
variable {P : Program}

theorem checkKey_scalar {t : TypeId} {d : TypeDesc} (hu : P.underlying t = some d) (hd : scalarD d = true) (c : Value) (em : Bool) (n : Nat) (w : World) : (Instr.checkKey em (n + 1) t c).run P w = .ok () w := by
  unfold Instr.checkKey
  simp only [Sem.run_bind, run_underlying' hu, Result.andThen]
  rcases scalarD_cases hd with ⟨k, rfl⟩ | rfl | rfl <;> rfl
theorem checkFields_run {em : Bool} {n : Nat} (w : World) {xs : List Value} {φ : PMap} : ∀ (fs : List Field) (j : Nat) (l : List AVal), flatFields P fs j = true → fitsL (fs.filterMap fun f => P.underlying f.type) l = true → VRels φ l (xs.drop j) →
    (forIn fs PUnit.unit (fun f _ => do
      if f.name ≠ "_" then Instr.checkKey em (n + 1) f.type (← part f.type xs.toArray f.offset)
      pure (ForInStep.yield PUnit.unit)) : Sem PUnit).run P w = .ok PUnit.unit w := by
  intro fs
  induction fs with
  | nil => intros; rfl
  | cons f fs ih =>
    intro j l hfl hf hx
    simp only [flatFields, Bool.and_eq_true, beq_iff_eq, bne_iff_ne, ne_eq] at hfl
    obtain ⟨⟨⟨hoff, hname⟩, hsc⟩, hrest⟩ := hfl
    cases hu : P.underlying f.type with
    | none => simp [hu] at hsc
    | some d =>
      simp only [List.filterMap_cons, hu] at hf
      cases l with
      | nil => simp [fitsL] at hf
      | cons v l =>
        simp only [fitsL, Bool.and_eq_true] at hf
        obtain ⟨c, hc, hcr⟩ := VRels_get hx (j := 0) (v := v) rfl
        rw [List.getElem?_drop, Nat.add_zero] at hc
        have ha := fitsS_scalar hf.1
        have hx' : VRels φ l (xs.drop (j + 1)) := by
          have := VRels_drop hx 1; simpa [List.drop_drop] using this
        have h1 := ih (j + 1) l hrest hf.2 hx'
        simp only [List.forIn_cons, Sem.run_bind, if_pos hname, hoff, part_scalar hu ha.2 hc, Result.andThen, checkKey_scalar hu ha.1]
        simpa [Sem.run_bind, Result.andThen] using h1
theorem checkItems_run {em : Bool} {n : Nat} (w : World) {xs : List Value} {φ : PMap} {e : TypeId} {d : TypeDesc} {i : TypeInfo} (hu : P.underlying e = some d) (hi : P.info? e = some i) (hsz : i.size = 1) : ∀ (k j : Nat) (l : List AVal), fitsL (List.replicate k d) l = true → VRels φ l (xs.drop j) →
    (forIn (List.range' j k) PUnit.unit (fun q _ => do
      Instr.checkKey em (n + 1) e (← part e xs.toArray (q * (← sizeOf e)))
      pure (ForInStep.yield PUnit.unit)) : Sem PUnit).run P w = .ok PUnit.unit w := by
  intro k
  induction k with
  | zero => intros; rfl
  | succ k ih =>
    intro j l hf hx
    simp only [List.replicate_succ] at hf
    cases l with
    | nil => simp [fitsL] at hf
    | cons v l =>
      simp only [fitsL, Bool.and_eq_true] at hf
      obtain ⟨c, hc, hcr⟩ := VRels_get hx (j := 0) (v := v) rfl
      rw [List.getElem?_drop, Nat.add_zero] at hc
      have ha := fitsS_scalar hf.1
      have hx' : VRels φ l (xs.drop (j + 1)) := by
        have := VRels_drop hx 1; simpa [List.drop_drop] using this
      have h1 := ih (j + 1) l hf.2 hx'
      simp only [List.range'_succ, List.forIn_cons, Sem.run_bind, run_sizeOf' hi, hsz, Nat.mul_one, part_scalar hu ha.2 hc, Result.andThen, checkKey_scalar hu ha.1]
      simpa [Sem.run_bind, Result.andThen, run_sizeOf' hi, hsz] using h1
theorem checkKey_run {φ : PMap} {t : TypeId} {k : KeyK} {x : AVal} {c : Value} (hk : keyK P t = some k) (hx : VRel φ x c) (hf : ∀ d, k = .scalar d → fitsS d x = true) (hg : ∀ ds, k = .flat ds → ∃ l, x = .agg l ∧ fitsL ds l = true) (em : Bool) (n : Nat) (w : World) :
    (Instr.checkKey em (n + 2) t c).run P w = .ok () w := by
  unfold keyK at hk
  split at hk
  · rename_i d hu
    split at hk
    · rename_i hs
      exact checkKey_scalar hu hs c em (n + 1) w
    · cases hfl : flatD P t with
      | none => simp [hfl] at hk
      | some ds =>
        simp only [hfl, Option.map_some, Option.some.injEq] at hk
        obtain ⟨l, rfl, hl⟩ := hg ds hk.symm
        obtain ⟨xs, rfl, hxs⟩ := hx
        unfold flatD at hfl
        split at hfl
        · rename_i fs hu'
          split at hfl
          · rename_i hc
            cases hfl
            simp only [Bool.and_eq_true, Bool.not_eq_true'] at hc
            unfold Instr.checkKey
            simp only [Sem.run_bind, run_underlying' hu', Result.andThen]
            have := checkFields_run (em := em) (n := n) w fs.toList 0 l hc.1 hl (by simpa using hxs)
            simp at this
            simp [this]
          · cases hfl
        · rename_i m e hu'
          split at hfl
          · rename_i d' i hue hie
            split at hfl
            · rename_i hc
              cases hfl
              simp only [Bool.and_eq_true, beq_iff_eq] at hc
              unfold Instr.checkKey
              simp only [Sem.run_bind, run_underlying' hu', Result.andThen]
              have := checkItems_run (em := em) (n := n) w hue hie hc.2 m 0 l hl (by simpa using hxs)
              simp only [Std.Legacy.Range.forIn_eq_forIn_range', Std.Legacy.Range.size, Nat.sub_zero, Nat.add_sub_cancel, Nat.div_one]
              simp at this
              simp [this]
            · cases hfl
          · cases hfl
        · cases hfl
  · cases hk

/-- Does a key fit its map's kind? -/
def keyFits : KeyK → AVal → Bool
  | .scalar d, x => fitsS d x
  | .flat ds, .agg l => fitsL ds l
  | _, _ => false
theorem findKey_run {φ : PMap} {t : TypeId} {k : KeyK} {x : AVal} {c : Value} (hk : keyK P t = some k) (hx : VRel φ x c) (hf : keyFits k x = true) (w : World) {es : List (AVal × AVal)} {ents : List MapEntry} {r : Option (Nat × AVal)} (hm : MRels φ es ents) (h : mfind k x es 0 = some r) :
    ∃ r', (Instr.findKey t c ents).run P w = .ok r' w ∧ FRel φ r r' := by
  unfold keyK at hk
  split at hk
  · rename_i d hu
    split at hk
    · rename_i hs
      cases hk
      obtain ⟨r', h1, h2⟩ := findNow_run hx hf es ents 0 r hm h
      exact ⟨r', by simp [Instr.findKey, Sem.run_bind, run_underlying' hu, Result.andThen, h1], h2⟩
    · rename_i hs
      cases hfl : flatD P t with
      | none => simp [hfl] at hk
      | some ds =>
        simp only [hfl, Option.map_some, Option.some.injEq] at hk
        subst hk
        cases x <;> simp only [keyFits, Bool.false_eq_true] at hf
        case agg l =>
          obtain ⟨r', h1, h2⟩ := findAsking_run hfl hx hf w es ents 0 r hm h
          refine ⟨r', ?_, h2⟩
          have hnow : ents = [] ∨ Instr.findNow d c ents 0 = none := by
            cases ents with
            | nil => exact .inl rfl
            | cons e ents =>
              right
              have hd' : ∀ k', d ≠ .int k' := fun k' he => by simp [he, scalarD] at hs
              have hd2 : d ≠ .string := fun he => by simp [he, scalarD] at hs
              have hd3 : d ≠ .bool := fun he => by simp [he, scalarD] at hs
              cases d <;> simp_all [Instr.findNow, Instr.sameNow]
          rcases hnow with rfl | hnow
          · simp only [Instr.findAsking, Sem.run_pure] at h1
            cases h1
            simp [Instr.findKey, Sem.run_bind, run_underlying' hu, Result.andThen, Instr.findNow]
          · simp [Instr.findKey, Sem.run_bind, run_underlying' hu, Result.andThen, hnow, h1]
  · cases hk

def zeroA (P : Program) (t : TypeId) : Option AVal :=
  match P.info? t with
  | some i => i.zero.map absC
  | none => none
theorem zeroA_run {t : TypeId} {z : AVal} (h : zeroA P t = some z) : ∃ c, (∀ w, (zeroValue t).run P w = .ok c w) ∧ ∀ φ, VRel φ z c := by
  unfold zeroA at h
  cases hi : P.info? t with
  | none => simp [hi] at h
  | some i =>
    cases hz : i.zero with
    | none => simp [hi, hz] at h
    | some c =>
      simp only [hi, hz, Option.map_some, Option.some.injEq] at h
      subst h
      exact ⟨c, fun w => run_zeroValue' hi hz w, fun φ => absC_rel φ c⟩
/-- The key's kind and the zero element of a map's type. -/
def mapT (P : Program) (t : TypeId) : Option (KeyK × AVal) :=
  match P.underlying t with
  | some (.map kt et) => match keyK P kt, zeroA P et with
    | some k, some z => some (k, z)
    | _, _ => none
  | _ => none
def AHeap.entries (H : AHeap) : AVal → Option (List (AVal × AVal))
  | .map i => match H.f i with
    | .map es => some es
    | _ => none
  | .raw (.map none) => some []
  | _ => none
def alookup (P : Program) (H : AHeap) (t : TypeId) (x k : AVal) (ok : Bool) : Option AVal :=
  match mapT P t, H.entries x with
  | some (kk, z), some es => if keyFits kk k then (match mfind kk k es 0 with
    | some (some (_, v)) => some (if ok then .tuple [v, .bool true] else v)
    | some none => some (if ok then .tuple [z, .bool false] else z)
    | none => none) else none
  | _, _ => none
theorem keyFits_split {k : KeyK} {x : AVal} (h : keyFits k x = true) : (∀ d, k = .scalar d → fitsS d x = true) ∧ (∀ ds, k = .flat ds → ∃ l, x = .agg l ∧ fitsL ds l = true) := by
  refine ⟨fun d hd => by subst hd; exact h, fun ds hd => ?_⟩
  subst hd
  cases x <;> simp only [keyFits, Bool.false_eq_true] at h
  exact ⟨_, rfl, h⟩
theorem fine_lookup {φ : PMap} {H : AHeap} {w : World} (hR : Rel φ H w) {t : TypeId} {x k v : AVal} {cx ck : Value} {ok : Bool} (hx : VRel φ x cx) (hk : VRel φ k ck) (h : alookup P H t x k ok = some v) : Fine P φ H w (Instr.lookup t cx ck ok) v H := by
  unfold alookup at h
  split at h
  · rename_i kk z es hT hE
    split at h
    · rename_i hfit
      unfold mapT at hT
      split at hT
      · rename_i kt et hu
        split at hT
        · rename_i kk' z' hkk hz
          cases hT
          obtain ⟨zc, hzr, hzv⟩ := zeroA_run hz
          -- the entries
          obtain ⟨ents, hget, hm⟩ : ∃ ents : Array MapEntry, ((cx = .map none ∧ ents = #[]) ∨ ∃ r clock, cx = .map (some r) ∧ w.heap[r]? = some (.map ents clock)) ∧ MRels φ es ents.toList := by
            unfold AHeap.entries at hE
            split at hE
            · rename_i i
              split at hE
              · rename_i es' hf
                cases hE
                obtain ⟨b, hb, rfl⟩ := hx
                have hB := hR.blk i b hb
                rw [hf] at hB
                obtain ⟨ents, clock, h1, h2⟩ := hB
                exact ⟨ents, .inr ⟨_, clock, rfl, h1⟩, h2⟩
              · cases hE
            · cases hE
              have he : cx = .map none := hx
              exact ⟨#[], .inl ⟨he, rfl⟩, rfl⟩
            · cases hE
          cases hfind : mfind kk k es 0 with
          | none => simp [hfind] at h
          | some r =>
            obtain ⟨r', hr', hrel⟩ := findKey_run hkk hk hfit w hm hfind
            have hck := checkKey_run (P := P) hkk hk (keyFits_split hfit).1 (keyFits_split hfit).2 ents.isEmpty 9998 w
            simp only [hfind] at h
            have hrun : ∀ (c : Value) (o : Bool), (match r' with | some (_, v) => (c, o) = (v, true) | none => (c, o) = (zc, false)) → (Instr.lookup t cx ck ok).run P w = .ok (if ok then .tuple #[c, .bool o] else c) w := by
              intro c o hco
              unfold Instr.lookup
              rcases hget with ⟨rfl, rfl⟩ | ⟨rr, clock, rfl, hh⟩
              · simp only [Sem.run_bind, run_underlying' hu, Result.andThen, Sem.run_pure, hck, hr']
                cases r' with
                | none => cases hco; simp [Sem.run_bind, hzr, Result.andThen]
                | some p => cases hco; simp [Result.andThen]
              · have hgo : (getObj rr).run P w = .ok (.map ents clock) w := by simp [getObj, Sem.run, hh]
                simp only [Sem.run_bind, run_underlying' hu, Result.andThen, Sem.run_pure, hgo, hck, hr']
                cases r' with
                | none => cases hco; simp [Sem.run_bind, hzr, Result.andThen]
                | some p => cases hco; simp [Result.andThen]
            cases r with
            | none =>
              cases r' with
              | some p => exact hrel.elim
              | none =>
                simp only [Option.some.injEq] at h
                refine Fine.pure hR (hrun zc false rfl) ?_
                subst h
                split
                · exact ⟨[zc, .bool false], rfl, VRels_cons.2 ⟨hzv φ, VRels_cons.2 ⟨rfl, rfl⟩⟩⟩
                · exact hzv φ
            | some p =>
              cases r' with
              | none => exact hrel.elim
              | some q =>
                obtain ⟨j, v'⟩ := p
                obtain ⟨j', c⟩ := q
                simp only [Option.some.injEq] at h
                refine Fine.pure hR (hrun c true rfl) ?_
                subst h
                split
                · exact ⟨[c, .bool true], rfl, VRels_cons.2 ⟨hrel.2, VRels_cons.2 ⟨rfl, rfl⟩⟩⟩
                · exact hrel.2
        · cases hT
      · cases hT
    · cases h
  · cases h

theorem aeqS_bits {φ ψ : PMap} {x y : AVal} {cx cy : Value} (hx : VRel φ x cx) (hy : VRel ψ y cy) (h : aeqS x y = some true) (n : Nat) : Instr.sameBits n cy cx = true := by
  unfold aeqS at h
  split at h
  · rename_i k a k' b
    obtain rfl : cx = .int k a := hx
    obtain rfl : cy = .int k' b := hy
    split at h
    · rename_i hk
      subst hk
      simp only [Option.some.injEq, beq_iff_eq] at h
      subst h
      simp [Instr.sameBits]
    · cases h
  · rename_i a b
    obtain rfl : cx = .bool a := hx
    obtain rfl : cy = .bool b := hy
    simp only [Option.some.injEq, beq_iff_eq] at h
    subst h
    simp [Instr.sameBits]
  · rename_i a b
    obtain rfl : cx = .string a := hx
    obtain rfl : cy = .string b := hy
    simp only [Option.some.injEq] at h
    have : (b == a) = true := by rw [beq_bytes]; exact beq_iff_eq.2 (beq_iff_eq.1 h).symm
    simp [Instr.sameBits, this]
  · cases h
theorem aeqL_bits {φ ψ : PMap} (n : Nat) : ∀ {l m : List AVal} {cs ds : List Value}, VRels φ l cs → VRels ψ m ds → aeqL l m = some true → cs.length = ds.length ∧ ((ds.zip cs).all fun (x, y) => Instr.sameBits n x y) = true
  | [], [], cs, ds, h1, h2, _ => by
    rw [VRels_nil.1 h1, VRels_nil.1 h2]; simp
  | [], _ :: _, _, _, _, _, h => by simp [aeqL] at h
  | _ :: _, [], _, _, _, _, h => by simp [aeqL] at h
  | a :: l, b :: m, [], _, h1, _, _ => by simp [VRels] at h1
  | a :: l, b :: m, _ :: _, [], _, h2, _ => by simp [VRels] at h2
  | a :: l, b :: m, c :: cs, d :: ds, h1, h2, h => by
    simp only [aeqL] at h
    cases hs : aeqS a b with
    | none => simp [hs] at h
    | some x =>
      cases hl : aeqL l m with
      | none => simp [hs, hl] at h
      | some y =>
        simp only [hs, hl, Option.some.injEq, Bool.and_eq_true] at h
        obtain ⟨rfl, rfl⟩ := h
        have ih := aeqL_bits n (VRels_cons.1 h1).2 (VRels_cons.1 h2).2 hl
        refine ⟨by simp [ih.1], ?_⟩
        simp only [List.zip_cons_cons, List.all_cons, Bool.and_eq_true]
        exact ⟨aeqS_bits (VRels_cons.1 h1).1 (VRels_cons.1 h2).1 hs n, ih.2⟩
theorem mfind_at {k : KeyK} {x : AVal} : ∀ {es : List (AVal × AVal)} {i j : Nat} {v : AVal}, mfind k x es i = some (some (j, v)) → i ≤ j ∧ ∃ y, es[j - i]? = some (y, v) ∧ keyEq k x y = some true
  | [], i, j, v, h => by simp [mfind] at h
  | (y, u) :: es, i, j, v, h => by
    simp only [mfind] at h
    cases hq : keyEq k x y with
    | none => simp [hq] at h
    | some q =>
      simp only [hq] at h
      cases q with
      | true => cases h; exact ⟨Nat.le_refl _, y, by simp, hq⟩
      | false =>
        obtain ⟨h1, y', h2, h3⟩ := mfind_at h
        refine ⟨by omega, y', ?_, h3⟩
        rw [show j - i = (j - (i + 1)) + 1 from by omega]
        simpa using h2
theorem MRels_get {φ : PMap} : ∀ {es : List (AVal × AVal)} {ents : List MapEntry} {j : Nat} {k v : AVal}, MRels φ es ents → es[j]? = some (k, v) → ∃ e, ents[j]? = some e ∧ VRel φ k e.key ∧ VRel φ v e.val
  | [], _, j, k, v, _, h => by simp at h
  | (k', v') :: es, ents, j, k, v, hm, h => by
    obtain ⟨e, ents', rfl, h1, h2, h3⟩ := hm
    cases j with
    | zero => simp only [List.getElem?_cons_zero, Option.some.injEq, Prod.mk.injEq] at h; obtain ⟨rfl, rfl⟩ := h; exact ⟨e, rfl, h1, h2⟩
    | succ j => simpa using MRels_get h3 (by simpa using h)
theorem MRels_set {φ : PMap} {k v : AVal} {e : MapEntry} (hk : VRel φ k e.key) (hv : VRel φ v e.val) : ∀ {es : List (AVal × AVal)} {ents : List MapEntry} {j : Nat}, MRels φ es ents → MRels φ (es.set j (k, v)) (ents.set j e)
  | [], ents, j, hm => by rw [show ents = [] from hm]; simp [MRels]
  | (k', v') :: es, ents, j, hm => by
    obtain ⟨e', ents', rfl, h1, h2, h3⟩ := hm
    cases j with
    | zero => exact ⟨e, ents', rfl, hk, hv, h3⟩
    | succ j => exact ⟨e', _, rfl, h1, h2, MRels_set hk hv h3⟩
theorem MRels_push {φ : PMap} {k v : AVal} {e : MapEntry} (hk : VRel φ k e.key) (hv : VRel φ v e.val) : ∀ {es : List (AVal × AVal)} {ents : List MapEntry}, MRels φ es ents → MRels φ (es ++ [(k, v)]) (ents ++ [e])
  | [], ents, hm => by rw [show ents = [] from hm]; exact ⟨e, [], rfl, hk, hv, rfl⟩
  | (k', v') :: es, ents, hm => by
    obtain ⟨e', ents', rfl, h1, h2, h3⟩ := hm
    exact ⟨e', _, rfl, h1, h2, MRels_push hk hv h3⟩

def mput (k : KeyK) (x v : AVal) (es : List (AVal × AVal)) : Option (List (AVal × AVal)) :=
  if keyFits k x then (match mfind k x es 0 with
    | some (some (j, _)) => some (es.set j (x, v))
    | some none => some (es ++ [(x, v)])
    | none => none) else none
def AHeap.mapPut (P : Program) (H : AHeap) (t : TypeId) (x k v : AVal) : Option AHeap :=
  match mapT P t, x with
  | some (kk, _), .map i => match H.f i with
    | .map es => (mput kk k v es).map fun es' => H.set i (.map es')
    | _ => none
  | _, _ => none
theorem setObj_run {w : World} {r : Nat} {o o' : Obj} (h : w.heap[r]? = some o) (hc : ∀ c e f, o ≠ .cells c e f) : (setObj r o').run P w = .ok () { w with heap := w.heap.setIfInBounds r o' } := by
  simp only [setObj, Sem.run, h]
theorem fine_mapPut {φ : PMap} {H H' : AHeap} {w : World} (hR : Rel φ H w) {t : TypeId} {x k v : AVal} {cx ck cv : Value} (hx : VRel φ x cx) (hk : VRel φ k ck) (hv : VRel φ v cv) (h : H.mapPut P t x k v = some H') :
    ∃ w', (Instr.mapUpdate t cx ck cv).run P w = .ok () w' ∧ Rel φ H' w' ∧ Ext φ H w φ H' w' := by
  unfold AHeap.mapPut at h
  split at h
  · rename_i kk z i hT
    split at h
    · rename_i es hf
      cases hp : mput kk k v es with
      | none => simp [hp] at h
      | some es' =>
        simp only [hp, Option.map_some, Option.some.injEq] at h
        subst h
        obtain ⟨b, hb, rfl⟩ := hx
        have hB := hR.blk i b hb
        rw [hf] at hB
        obtain ⟨ents, clock, h1, h2⟩ := hB
        unfold mapT at hT
        split at hT
        · rename_i kt et hu
          split at hT
          · rename_i kk' z' hkk hz
            cases hT
            unfold mput at hp
            split at hp
            · rename_i hfit
              have hck := checkKey_run (P := P) hkk hk (keyFits_split hfit).1 (keyFits_split hfit).2 false 9998 w
              have hlt : b.blk < w.heap.size := (Array.getElem?_eq_some_iff.1 h1).1
              have hgo : (getObj b.blk).run P w = .ok (.map ents clock) w := by simp [getObj, Sem.run, h1]
              have fin : ∀ (o' : Obj), BRel φ { w with heap := w.heap.setIfInBounds b.blk o' } b (.map es') → Rel φ (H.set i (.map es')) { w with heap := w.heap.setIfInBounds b.blk o' } ∧ Ext φ H w φ (H.set i (.map es')) { w with heap := w.heap.setIfInBounds b.blk o' } := fun o' hB' =>
                rel_set hR hb (by rw [hf]; trivial) (.map es') trivial (by simp) (fun q hq => by simp [Array.getElem?_setIfInBounds_ne (Ne.symm hq)]) hB' rfl rfl rfl
              cases hfind : mfind kk k es 0 with
              | none => simp [hfind] at hp
              | some r =>
                obtain ⟨r', hr', hrel⟩ := findKey_run hkk hk hfit w h2 hfind
                simp only [hfind] at hp
                cases r with
                | none =>
                  cases r' with
                  | some p => exact hrel.elim
                  | none =>
                    cases hp
                    refine ⟨_, ?_, fin (.map (ents.push { key := ck, val := cv, born := clock }) (clock + 1)) ?_⟩
                    · unfold Instr.mapUpdate
                      simp only [Sem.run_bind, run_underlying' hu, Result.andThen, hgo, hck, hr']
                      exact setObj_run h1 (by simp)
                    · refine ⟨ents.push { key := ck, val := cv, born := clock }, clock + 1, by simp [hlt], ?_⟩
                      rw [Array.toList_push]
                      exact MRels_push (e := { key := ck, val := cv, born := clock }) hk hv h2
                | some p =>
                  cases r' with
                  | none => exact hrel.elim
                  | some q =>
                    obtain ⟨j, v'⟩ := p
                    obtain ⟨j', c⟩ := q
                    obtain ⟨rfl, _⟩ := hrel
                    cases hp
                    obtain ⟨_, y, hy, hkeq⟩ := mfind_at hfind
                    rw [Nat.sub_zero] at hy
                    obtain ⟨e, he, hek, hev⟩ := MRels_get h2 hy
                    have he' : ents[j]? = some e := by simpa using he
                    have hsame : Instr.sameBits 10000 e.key ck = true := by
                      cases kk with
                      | scalar d =>
                        simp only [keyEq] at hkeq
                        split at hkeq
                        · exact aeqS_bits hk hek hkeq _
                        · cases hkeq
                      | flat ds =>
                        cases k <;> simp only [keyFits, Bool.false_eq_true] at hfit
                        case agg l =>
                          cases y <;> simp only [keyEq, reduceCtorEq] at hkeq
                          case agg m =>
                            simp only [hfit, if_true] at hkeq
                            obtain ⟨cs, rfl, hcs⟩ := hk
                            obtain ⟨ds', hds, hds'⟩ := hek
                            rw [hds]
                            have := aeqL_bits 9999 hcs hds' hkeq
                            simp only [Instr.sameBits, List.size_toArray, Bool.and_eq_true, beq_iff_eq]
                            exact ⟨this.1.symm, this.2⟩
                    refine ⟨_, ?_, fin (.map (ents.modify j fun e => { e with key := ck, val := cv }) clock) ?_⟩
                    · unfold Instr.mapUpdate
                      simp only [Sem.run_bind, run_underlying' hu, Result.andThen, hgo, hck, hr', he', Option.map_some, Option.getD_some]
                      have : (Instr.keyThatStays e.key ck).run P w = .ok ck w := by simp [Instr.keyThatStays, hsame]
                      simp only [this]
                      exact setObj_run h1 (by simp)
                    · refine ⟨ents.modify j fun e => { e with key := ck, val := cv }, clock, by simp [hlt], ?_⟩
                      have hml : (ents.modify j fun e => { e with key := ck, val := cv }).toList = ents.toList.set j { e with key := ck, val := cv } := by
                        apply List.ext_getElem?
                        intro q
                        simp only [Array.getElem?_toList, Array.getElem?_modify, List.getElem?_set, Array.length_toList]
                        by_cases hq : j = q
                        · subst hq
                          have hlt' : j < ents.size := (Array.getElem?_eq_some_iff.1 he').1
                          have hej : ents[j] = e := by simpa [Array.getElem?_eq_getElem hlt'] using he'
                          simp [hlt', hej]
                        · simp [hq]
                      rw [hml]
                      exact MRels_set (e := { e with key := ck, val := cv }) hk hv h2
            · cases hp
          · cases hT
        · cases hT
    · cases h
  · cases h
end Go.Vh

/- Rows: made, cut, appended to, copied. -/
set_option linter.unusedVariables false
set_option linter.unusedSimpArgs false
namespace Go.Vh
variable {P : Program}

theorem row_new {φ : PMap} {H : AHeap} {w : World} (hR : Rel φ H w) (elem : TypeId) (arr : Array Value) (cs : List AVal) (es : Nat) (hl : cs.length ≤ arr.size) (h : VRels φ cs (arr.toList.take cs.length)) :
    ∃ φ' w', (newRow elem arr).run P w = .ok ⟨w.heap.size, 0, none⟩ w' ∧ Rel φ' (H.alloc (.cells es cs)) w' ∧ Ext φ H w φ' (H.alloc (.cells es cs)) w' ∧ φ' H.n = some ⟨w.heap.size, 0, es, arr.size⟩ := by
  have hx := rel_new hR (.cells arr elem) (.cells es cs) trivial es arr.size ⟨rfl, arr, elem, by simp, by simp, hl, by simpa using VRels_mono (PMap.ext_le (hR.dom H.n (Nat.le_refl _)) _) _ _ h⟩
  exact ⟨_, { w with heap := w.heap.push (.cells arr elem) }, by simp [newRow, newObj, Sem.run, Sem.run_bind, Result.andThen], hx.1, hx.2, PMap.ext_same _ _ _⟩

def aalloc (P : Program) (H : AHeap) (t : TypeId) : Option (AVal × AHeap) := (tinfo P t).map fun ti => (.ptr H.n 0, H.alloc (.cells 1 ti.zero))
theorem fine_alloc {φ : PMap} {H H' : AHeap} {w : World} (hR : Rel φ H w) {t : TypeId} {v : AVal} (h : aalloc P H t = some (v, H')) : Fine P φ H w (Instr.alloc t true (.tuple #[])) v H' := by
  unfold aalloc at h
  cases ht : tinfo P t with
  | none => simp [ht] at h
  | some ti =>
    simp only [ht, Option.map_some, Option.some.injEq, Prod.mk.injEq] at h
    obtain ⟨rfl, rfl⟩ := h
    obtain ⟨inf, d, z, hi, hd, hz, hsz, hby, hag, hze⟩ := tinfo_spec ht
    have hlen : ti.zero.length = z.cells.size := by rw [hze]; simp
    obtain ⟨φ', w', hrun, hR', hE, hφ⟩ := row_new (P := P) hR t z.cells ti.zero 1 (by rw [hlen]; exact Nat.le_refl _) (by rw [hlen, ← Array.length_toList, List.take_length, hze]; exact absS_rels φ _)
    refine ⟨.pointer (some ⟨w.heap.size, 0, none⟩), w', φ', ?_, ⟨_, hφ, rfl⟩, hR', hE⟩
    simp [Instr.alloc, Sem.run_bind, run_zeroValue' hi hz, Result.andThen, newVar, hrun]
def abox (H : AHeap) (x : AVal) : Option (AVal × AHeap) := x.cells.map fun l => (.ptr H.n 0, H.alloc (.cells 1 l))
theorem fine_box {φ : PMap} {H H' : AHeap} {w : World} (hR : Rel φ H w) {t : TypeId} {x v : AVal} {c : Value} (hx : VRel φ x c) (h : abox H x = some (v, H')) : Fine P φ H w (Instr.box t c) v H' := by
  unfold abox at h
  cases hc : x.cells with
  | none => simp [hc] at h
  | some l =>
    simp only [hc, Option.map_some, Option.some.injEq, Prod.mk.injEq] at h
    obtain ⟨rfl, rfl⟩ := h
    have hcl := cells_rel hc hx
    have hlen := VRels_length hcl
    rw [Array.length_toList] at hlen
    obtain ⟨φ', w', hrun, hR', hE, hφ⟩ := row_new (P := P) hR t c.cells l 1 (by omega) (by rw [← hlen, ← Array.length_toList, List.take_length]; exact hcl)
    refine ⟨.pointer (some ⟨w.heap.size, 0, none⟩), w', φ', ?_, ⟨_, hφ, rfl⟩, hR', hE⟩
    simp [Instr.box, Sem.run_bind, Result.andThen, newVar, hrun]

/-! ### Literals -/
def fillA (place : Nat → Option (Nat × Nat)) (cells : List AVal) : List (Nat × AVal) → Option (List AVal)
  | [] => some cells
  | (i, v) :: r => match place i, v.cells with
    | some (off, size), some l => if l.length = size ∧ off + size ≤ cells.length then fillA place (cells.take off ++ l ++ cells.drop (off + size)) r else none
    | _, _ => none
theorem foldl_set : ∀ (l : List Value) (k off : Nat) (cells : Array Value), off + k + l.length ≤ cells.size →
    ((l.zipIdx k).foldl (fun cs (c, j) => cs.setIfInBounds (off + j) c) cells).toList = cells.toList.take (off + k) ++ l ++ cells.toList.drop (off + k + l.length)
  | [], k, off, cells, _ => by simp
  | v :: l, k, off, cells, h => by
    simp only [List.length_cons] at h
    rw [List.zipIdx_cons, List.foldl_cons, foldl_set l (k + 1) off _ (by simp; omega)]
    simp only [Array.toList_setIfInBounds, List.length_cons]
    apply List.ext_getElem?
    intro q
    simp only [List.getElem?_append, List.length_append, List.length_take, List.length_set, List.length_cons, List.getElem?_take, List.getElem?_drop, List.getElem?_set, Array.length_toList, List.getElem?_cons]
    repeat' split
    all_goals first | rfl | omega | (congr 1; omega) | (exfalso; omega) | skip
theorem fill_run {φ : PMap} {place : Nat → Option (Nat × Nat)} : ∀ (ps : List (Nat × AVal)) (qs : List (Nat × Value)) (cells : List AVal) (arr : Array Value) (r : List AVal), ps.map (·.1) = qs.map (·.1) → VRels φ (ps.map (·.2)) (qs.map (·.2)) → VRels φ cells arr.toList → fillA place cells ps = some r →
    ∃ arr', Instr.fill place arr qs = some arr' ∧ VRels φ r arr'.toList ∧ arr'.size = arr.size
  | [], qs, cells, arr, r, h1, h2, h3, h => by
    obtain rfl : qs = [] := by cases qs <;> simp_all
    cases h
    exact ⟨arr, rfl, h3, rfl⟩
  | (i, v) :: ps, [], _, _, _, h1, _, _, _ => by simp at h1
  | (i, v) :: ps, (j, c) :: qs, cells, arr, r, h1, h2, h3, h => by
    simp only [List.map_cons, List.cons.injEq] at h1
    obtain ⟨rfl, h1⟩ := h1
    simp only [List.map_cons] at h2
    have hv := (VRels_cons.1 h2).1
    simp only [fillA] at h
    cases hp : place i with
    | none => simp [hp] at h
    | some os =>
      obtain ⟨off, size⟩ := os
      cases hc : v.cells with
      | none => simp [hp, hc] at h
      | some l =>
        simp only [hp, hc] at h
        split at h
        · rename_i hcond
          obtain ⟨hl, hle⟩ := hcond
          have hcl := cells_rel hc hv
          have hlen := VRels_length hcl
          rw [Array.length_toList] at hlen
          have h3l := VRels_length h3
          rw [Array.length_toList] at h3l
          have hsz : c.cells.size = size := by omega
          have hfold := foldl_set c.cells.toList 0 off arr (by rw [Array.length_toList]; omega)
          have hzip : c.cells.zipIdx.foldl (fun cs (c, j) => cs.setIfInBounds (off + j) c) arr = (c.cells.toList.zipIdx 0).foldl (fun cs (c, j) => cs.setIfInBounds (off + j) c) arr := by
            rw [← Array.foldl_toList, Array.toList_zipIdx]
          rw [← hzip] at hfold
          simp only [Nat.add_zero, Array.length_toList, hsz] at hfold
          have h4 : VRels φ (cells.take off ++ l ++ cells.drop (off + size)) (c.cells.zipIdx.foldl (fun cs (c, j) => cs.setIfInBounds (off + j) c) arr).toList := by
            rw [hfold]
            exact VRels_append (VRels_append (VRels_take h3 _) hcl) (VRels_drop h3 _)
          obtain ⟨arr', ha, hr, hs⟩ := fill_run ps qs _ _ r h1 (VRels_cons.1 h2).2 h4 h
          refine ⟨arr', ?_, hr, ?_⟩
          · simp only [Instr.fill, hp]
            rw [if_neg (by simp [hsz]; omega)]
            exact ha
          · rw [hs, ← Array.length_toList, hfold]
            simp [hsz]; omega
        · cases h

def placesA (P : Program) : List Field → Option (List (Nat × Nat))
  | [] => some []
  | f :: fs => match P.info? f.type, placesA P fs with
    | some i, some r => some ((f.offset, i.size) :: r)
    | _, _ => none
theorem places_run (w : World) : ∀ (fs : List Field) (l : List (Nat × Nat)), placesA P fs = some l → (fs.mapM (fun f => (do pure (f.offset, ← sizeOf f.type) : Sem (Nat × Nat)))).run P w = .ok l w
  | [], l, h => by cases h; rfl
  | f :: fs, l, h => by
    simp only [placesA] at h
    cases hi : P.info? f.type with
    | none => simp [hi] at h
    | some i =>
      cases hp : placesA P fs with
      | none => simp [hi, hp] at h
      | some r =>
        simp only [hi, hp, Option.some.injEq] at h
        subst h
        have ih := places_run w fs r hp
        simp only [List.mapM_cons, Sem.run_bind, run_sizeOf' hi, Result.andThen, Sem.run_pure, ih]
def abuild (P : Program) (t : TypeId) (ps : List (Nat × AVal)) : Option AVal :=
  match tinfo P t, P.underlying t with
  | some ti, some (.struct fs) => match placesA P fs.toList with
    | some l => (fillA (fun i => l[i]?) ti.zero ps).map .agg
    | none => none
  | some ti, some (.array _ e) => match P.info? e with
    | some i => (fillA (fun j => some (j * i.size, i.size)) ti.zero ps).map .agg
    | none => none
  | _, _ => none
theorem pure_build {φ : PMap} {t : TypeId} {ps : List (Nat × AVal)} {qs : Array (Nat × Value)} {v : AVal} (h1 : ps.map (·.1) = qs.toList.map (·.1)) (h2 : VRels φ (ps.map (·.2)) (qs.toList.map (·.2))) (h : abuild P t ps = some v) :
    PureTo P φ (Instr.build t qs) v := by
  unfold abuild at h
  split at h
  · rename_i ti fs ht hu
    obtain ⟨inf, d, z, hi, hd, hz, hsz, hby, hag, hze⟩ := tinfo_spec ht
    split at h
    · rename_i l hl
      cases hf : fillA (fun i => l[i]?) ti.zero ps with
      | none => simp [hf] at h
      | some r =>
        simp only [hf, Option.map_some, Option.some.injEq] at h
        subst h
        obtain ⟨arr', ha, hr, _⟩ := fill_run (φ := φ) ps qs.toList ti.zero z.cells r h1 h2 (by rw [hze]; exact absS_rels φ _) hf
        refine ⟨.agg arr', fun w => ?_, arr'.toList, by simp, hr⟩
        have hpl := places_run w fs.toList l hl
        have hmap : (fs.mapM (fun f => (do pure (f.offset, ← sizeOf f.type) : Sem (Nat × Nat)))).run P w = .ok l.toArray w := by
          rw [Array.mapM_eq_mapM_toList, Sem.run_map]
          rw [hpl]; rfl
        unfold Instr.build
        simp only [Sem.run_bind, run_zeroValue' hi hz, Result.andThen, run_underlying' hu, hmap]
        have : (fun (i : Nat) => l.toArray[i]?) = fun (i : Nat) => l[i]? := by funext i; simp
        simp only [this, ha]
        rfl
    · cases h
  · rename_i ti m e ht hu
    obtain ⟨inf, d, z, hi, hd, hz, hsz, hby, hag, hze⟩ := tinfo_spec ht
    split at h
    · rename_i i hie
      cases hf : fillA (fun j => some (j * i.size, i.size)) ti.zero ps with
      | none => simp [hf] at h
      | some r =>
        simp only [hf, Option.map_some, Option.some.injEq] at h
        subst h
        obtain ⟨arr', ha, hr, _⟩ := fill_run (φ := φ) ps qs.toList ti.zero z.cells r h1 h2 (by rw [hze]; exact absS_rels φ _) hf
        refine ⟨.agg arr', fun w => ?_, arr'.toList, by simp, hr⟩
        unfold Instr.build
        simp only [Sem.run_bind, run_zeroValue' hi hz, Result.andThen, run_underlying' hu, run_sizeOf' hie, ha]
        rfl
    · cases h
  · cases h
end Go.Vh

/- Rows: literals of slices, make, cuts, append, copy, len. -/
set_option linter.unusedVariables false
set_option linter.unusedSimpArgs false
namespace Go.Vh
variable {P : Program}

def zerosA (z : List AVal) (m : Nat) : List AVal := (List.range m).map fun i => z.getD (i % z.length) .undef
theorem zerosA_length (z : List AVal) (m : Nat) : (zerosA z m).length = m := by simp [zerosA]
theorem zerosA_one (v : AVal) (m : Nat) : zerosA [v] m = List.replicate m v := by
  apply List.ext_getElem?
  intro i
  simp only [zerosA, List.getElem?_map, List.getElem?_replicate, List.length_singleton, Nat.mod_one, List.getD_cons_zero]
  by_cases h : i < m <;> simp [h]
theorem zeros_rel {φ : PMap} {z : Array Value} {m n : Nat} (hm : m ≤ n) (hz : z.size ≠ 0 ∨ m = 0) : VRels φ (zerosA (z.toList.map absS) m) (((Array.range n).map (z[· % z.size]!)).toList.take m) := by
  rw [VRels_iff]
  refine ⟨by simp [zerosA]; omega, fun j v c hv hc => ?_⟩
  have hjm : j < m := by
    have := (List.getElem?_eq_some_iff.1 hv).1
    simpa [zerosA] using this
  have hzs : z.size ≠ 0 := by omega
  have hlt : j % z.size < z.size := Nat.mod_lt _ (by omega)
  rw [List.getElem?_take, if_pos hjm] at hc
  simp only [zerosA, List.getElem?_map, List.getElem?_range hjm, Option.map_some, List.length_map, Array.length_toList, Option.some.injEq] at hv
  simp only [Array.getElem?_toList, Array.getElem?_map, Array.getElem?_range, show j < n by omega, if_true, Option.map_some, Option.some.injEq] at hc
  subst hv; subst hc
  have : z[j % z.size]! = z[j % z.size] := getElem!_pos z _ hlt
  rw [this]
  simp [hlt, absS_rel]

/-- The element's facts of a slice type. -/
def sliceT (P : Program) (t : TypeId) : Option TI :=
  match P.underlying t with
  | some (.slice e) => tinfo P e
  | _ => none
theorem sliceT_spec {t : TypeId} {ti : TI} (h : sliceT P t = some ti) : ∃ e, P.underlying t = some (.slice e) ∧ tinfo P e = some ti := by
  unfold sliceT at h
  split at h
  · rename_i e hu; exact ⟨e, hu, h⟩
  · cases h

def abuildSlice (P : Program) (H : AHeap) (t : TypeId) (len : Nat) (ps : List (Nat × AVal)) : Option (AVal × AHeap) :=
  match sliceT P t with
  | some ti => if len * ti.size ≤ 16777216 ∧ ti.zero.length ≠ 0 then
      (fillA (fun i => some (i * ti.size, ti.size)) (zerosA ti.zero (len * ti.size)) ps).map fun r => (.slice H.n 0 len, H.alloc (.cells ti.size r))
    else none
  | none => none
theorem fine_buildSlice {φ : PMap} {H H' : AHeap} {w : World} (hR : Rel φ H w) {t : TypeId} {len : Nat} {ps : List (Nat × AVal)} {qs : Array (Nat × Value)} {v : AVal} (h1 : ps.map (·.1) = qs.toList.map (·.1)) (h2 : VRels φ (ps.map (·.2)) (qs.toList.map (·.2))) (h : abuildSlice P H t len ps = some (v, H')) :
    Fine P φ H w (Instr.buildSlice t len qs) v H' := by
  unfold abuildSlice at h
  split at h
  · rename_i ti hT
    obtain ⟨e, hu, ht⟩ := sliceT_spec hT
    obtain ⟨inf, d, z, hi, hd, hz, hsz, hby, hag, hze⟩ := tinfo_spec ht
    split at h
    · rename_i hc
      cases hf : fillA (fun i => some (i * ti.size, ti.size)) (zerosA ti.zero (len * ti.size)) ps with
      | none => simp [hf] at h
      | some r =>
        simp only [hf, Option.map_some, Option.some.injEq, Prod.mk.injEq] at h
        obtain ⟨rfl, rfl⟩ := h
        have hz0 : z.cells.size ≠ 0 := by have := hc.2; rw [hze] at this; simpa using this
        let zz : Array Value := if len * ti.size = 0 then #[] else z.cells
        have hzz : VRels φ (zerosA ti.zero (len * ti.size)) ((Array.range (len * ti.size)).map (zz[· % zz.size]!)).toList := by
          rw [hze]
          by_cases h0 : len * ti.size = 0
          · rw [h0]; simp [zerosA, VRels]
          · have := zeros_rel (φ := φ) (z := z.cells) (m := len * ti.size) (n := len * ti.size) (Nat.le_refl _) (.inl hz0)
            simp only [zz, if_neg h0]
            rwa [List.take_of_length_le (by simp)] at this
        obtain ⟨arr', ha, hr, hs⟩ := fill_run (φ := φ) ps qs.toList _ _ r h1 h2 hzz hf
        have hrl := VRels_length hr
        rw [Array.length_toList] at hrl
        obtain ⟨φ', w', hrun, hR', hE, hφ⟩ := row_new (P := P) hR e arr' r ti.size (by omega) (by rw [← hrl, ← Array.length_toList, List.take_length]; exact hr)
        refine ⟨.slice (some ⟨w.heap.size, 0, none⟩) len len, w', φ', ?_, ⟨_, len, _, hφ, rfl, Nat.le_refl _, fun _ => ⟨rfl, ?_⟩⟩, hR', hE⟩
        · unfold Instr.buildSlice
          simp only [Sem.run_bind, run_underlying' hu, Result.andThen, run_sizeOf' hi, hsz]
          rw [if_neg (by omega)]
          by_cases h0 : len * ti.size = 0
          · have hz1 : zz = #[] := if_pos h0
            rw [hz1] at ha
            simp only [if_pos h0, Sem.run_bind, Sem.run_pure, Result.andThen, ha, hrun]
          · have hz1 : zz = z.cells := if_neg h0
            rw [hz1] at ha
            simp only [if_neg h0, Sem.run_bind, run_zeroValue' hi hz, Sem.run_pure, Result.andThen, ha, hrun]
        · simp only [Nat.zero_add]
          rw [hs]; simp [hsz]
    · cases h
  · cases h

theorem wrap64_id {n : Int} (h0 : 0 ≤ n) (h1 : n ≤ 4294967296) : IntKind.i64.wrap n = n := by
  have h : n % 2 ^ 64 = n := by omega
  simp [IntKind.wrap, IntKind.bits, IntKind.signed, h]
  omega
def amakeSlice (P : Program) (H : AHeap) (t : TypeId) (l c : AVal) : Option (AVal × AHeap) :=
  match sliceT P t, l, c with
  | some ti, .int _ n, .int _ m => if 0 ≤ n ∧ n ≤ m ∧ m ≤ 4294967296 ∧ ti.bytes ≤ 4096 ∧ ti.zero.length ≠ 0 then
      some (.slice H.n 0 n.toNat, H.alloc (.cells ti.size (zerosA ti.zero (n.toNat * ti.size)))) else none
  | _, _, _ => none
theorem fine_makeSlice {φ : PMap} {H H' : AHeap} {w : World} (hR : Rel φ H w) {t : TypeId} {l c v : AVal} {cl cc : Value} (hl : VRel φ l cl) (hc : VRel φ c cc) (h : amakeSlice P H t l c = some (v, H')) : Fine P φ H w (Instr.makeSlice t cl cc) v H' := by
  unfold amakeSlice at h
  split at h
  · rename_i ti k n k' m hT
    obtain ⟨e, hu, ht⟩ := sliceT_spec hT
    obtain ⟨inf, d, z, hi, hd, hz, hsz, hby, hag, hze⟩ := tinfo_spec ht
    obtain rfl : cl = .int k n := hl
    obtain rfl : cc = .int k' m := hc
    split at h
    · rename_i hcond
      obtain ⟨h0, h1, h2, h3, h4⟩ := hcond
      simp only [Option.some.injEq, Prod.mk.injEq] at h
      obtain ⟨rfl, rfl⟩ := h
      have hz0 : z.cells.size ≠ 0 := by rw [hze] at h4; simpa using h4
      have hwn := wrap64_id h0 (by omega)
      have hwm := wrap64_id (n := m) (by omega) h2
      let zz : Array Value := if m.toNat * inf.size = 0 then #[] else z.cells
      let arr : Array Value := (Array.range (m.toNat * inf.size)).map (zz[· % zz.size]!)
      have hle : n.toNat * inf.size ≤ m.toNat * inf.size := Nat.mul_le_mul_right _ (by omega)
      have hzz : VRels φ (zerosA ti.zero (n.toNat * ti.size)) (arr.toList.take (zerosA ti.zero (n.toNat * ti.size)).length) := by
        rw [zerosA_length, hze, ← hsz]
        by_cases h0 : m.toNat * inf.size = 0
        · have : n.toNat * inf.size = 0 := by omega
          rw [this]; simp [zerosA, VRels]
        · simp only [arr, zz, if_neg h0]
          exact zeros_rel hle (.inl hz0)
      obtain ⟨φ', w', hrun, hR', hE, hφ⟩ := row_new (P := P) hR e arr _ ti.size (by rw [zerosA_length, ← hsz]; simp only [arr, Array.size_map, Array.size_range]; exact hle) hzz
      have hbytes : (inf.bytes : Int) * m ≤ 4096 * 4294967296 := by
        have hb : (inf.bytes : Int) ≤ 4096 := by omega
        have := Int.mul_le_mul hb h2 (by omega) (by omega)
        simpa using this
      refine ⟨.slice (some ⟨w.heap.size, 0, none⟩) n.toNat m.toNat, w', φ', ?_, ⟨_, m.toNat, _, hφ, rfl, by omega, fun _ => ⟨rfl, ?_⟩⟩, hR', hE⟩
      · unfold Instr.makeSlice
        simp only [Sem.run_bind, run_underlying' hu, Result.andThen, asInt, asIntOf, Sem.run_pure, run_typeInfo' hi, hwn, hwm]
        rw [if_neg (by simp; omega)]
        have hrun' : (newRow e ((Array.range (m.toNat * inf.size)).map (zz[· % zz.size]!))).run P w = .ok ⟨w.heap.size, 0, none⟩ w' := hrun
        simp only [Sem.run_bind, run_askRoom, run_sizeOf' hi, Result.andThen]
        by_cases h0 : m.toNat * inf.size = 0
        · have hz1 : zz = #[] := if_pos h0
          rw [hz1] at hrun'
          simp only [if_pos h0, Sem.run_bind, Sem.run_pure, Result.andThen, hrun']
        · have hz1 : zz = z.cells := if_neg h0
          rw [hz1] at hrun'
          simp only [if_neg h0, Sem.run_bind, run_zeroValue' hi hz, Sem.run_pure, Result.andThen, hrun']
      · simp [arr, hsz]
    · cases h
  · cases h

/-! ### Cuts -/
def boundA (d : Nat) : Option AVal → Option Int
  | none => some d
  | some (.int _ n) => some n
  | _ => none
def aslice (P : Program) (H : AHeap) (t : TypeId) (x : AVal) (lo hi : Option AVal) : Option AVal :=
  match P.underlying t, x with
  | some (.slice _), .slice i off len => match sliceT P t, boundA 0 lo, boundA len hi with
    | some ti, some l, some h => match H.f i with
      | .cells es _ | .ro es _ => if 0 ≤ l ∧ l ≤ h ∧ h ≤ (len : Int) ∧ es = ti.size then some (.slice i (off + l.toNat * es) (h.toNat - l.toNat)) else none
      | _ => none
    | _, _, _ => none
  | some (.slice _), .nilSlice => match sliceT P t, boundA 0 lo, boundA 0 hi with
    | some _, some l, some h => if l = 0 ∧ h = 0 then some .nilSlice else none
    | _, _, _ => none
  | some .string, .str s => match boundA 0 lo, boundA s.size hi with
    | some l, some h => if 0 ≤ l ∧ l ≤ h ∧ h ≤ (s.size : Int) then some (.str (s.extract l.toNat h.toNat)) else none
    | _, _ => none
  | _, _ => none
/-- The bounds as the model reads them. -/
def BoundRel (φ : PMap) : Option AVal → Option Value → Prop
  | none, none => True
  | some v, some c => VRel φ v c
  | _, _ => False
theorem bound_run {φ : PMap} {lo hi : Option AVal} {clo chi : Option Value} (hlo : BoundRel φ lo clo) (hhi : BoundRel φ hi chi) {len cap : Nat} {l h : Int} (h1 : boundA 0 lo = some l) (h2 : boundA len hi = some h) (h0 : 0 ≤ l) (hlh : l ≤ h) (hle : h ≤ (len : Int)) (hc : len ≤ cap) (b : Bool) (w : World) :
    (Instr.sliceBounds b len cap clo chi none).run P w = .ok (l.toNat, h.toNat, cap) w := by
  unfold Instr.sliceBounds
  have e1 : ∀ k, (Instr.sliceBound (.int k h) cap (if b then .sliceAcap else .sliceAlen)).run P w = .ok h.toNat w := fun k => by
    simp [Instr.sliceBound, asIntOf, Result.andThen, show 0 ≤ h by omega, show h ≤ (cap : Int) by omega]
  have e2 : ∀ k, (Instr.sliceBound (.int k l) h.toNat .sliceB).run P w = .ok l.toNat w := fun k => by
    simp only [Instr.sliceBound, asIntOf, Sem.run_bind, Sem.run_pure, Result.andThen]
    rw [if_pos ⟨h0, by omega⟩]
    rfl
  cases lo with
  | none =>
    cases clo with
    | some c => exact hlo.elim
    | none =>
      simp only [boundA, Option.some.injEq] at h1
      cases hi with
      | none =>
        cases chi with
        | some c => exact hhi.elim
        | none =>
          simp only [boundA, Option.some.injEq] at h2
          subst h1; subst h2
          simp [Sem.run_bind, Result.andThen]
      | some v =>
        cases chi with
        | none => exact hhi.elim
        | some c =>
          cases v <;> simp only [boundA, Option.some.injEq, reduceCtorEq] at h2
          case int k n =>
            subst h2
            obtain rfl : c = .int k n := hhi
            subst h1
            simp only [Sem.run_bind, Sem.run_pure, Result.andThen, e1]
            rfl
  | some u =>
    cases clo with
    | none => exact hlo.elim
    | some d =>
      cases u <;> simp only [boundA, Option.some.injEq, reduceCtorEq] at h1
      case int k n =>
        subst h1
        obtain rfl : d = .int k n := hlo
        cases hi with
        | none =>
          cases chi with
          | some c => exact hhi.elim
          | none =>
            simp only [boundA, Option.some.injEq] at h2
            have hh : h.toNat = len := by omega
            rw [hh] at e2
            simp only [Sem.run_bind, Sem.run_pure, Result.andThen, Option.isSome_none, Bool.false_eq_true, if_false, e2, hh]
        | some v =>
          cases chi with
          | none => exact hhi.elim
          | some c =>
            cases v <;> simp only [boundA, Option.some.injEq, reduceCtorEq] at h2
            case int k' n' =>
              subst h2
              obtain rfl : c = .int k' n' := hhi
              simp only [Sem.run_bind, Sem.run_pure, Result.andThen, e1, Option.isSome_none, Bool.false_eq_true, if_false, e2]
theorem add_at' (ad : Addr) (n : Nat) (h : ad.spot = none) : ad.add n = ⟨ad.block, ad.off + n, none⟩ := by
  obtain ⟨b, o, s⟩ := ad
  simp only at h
  subst h
  exact add_at b o n
theorem BRel.es_eq {φ : PMap} {w : World} {b : BI} {x : ABlk} (h : BRel φ w b x) {es : Nat} (hx : (∃ cs, x = .cells es cs) ∨ ∃ cs, x = .ro es cs) : b.es = es := by
  rcases hx with ⟨cs, rfl⟩ | ⟨cs, rfl⟩
  · exact h.1
  · exact h.1
/-- A slice of which it is not said whether it is nil. -/
theorem view_cases {φ : PMap} {i off len : Nat} {c : Value} (h : VRel φ (.view i off len) c) : (len = 0 ∧ c = .slice none 0 0) ∨ VRel φ (.slice i off len) c := by
  obtain ⟨b, hb, h | ⟨cap, ad, h1, h2, h3⟩⟩ := h
  · exact .inl h
  · exact .inr ⟨b, cap, ad, hb, h1, h2, h3⟩
theorem view_of_slice {φ : PMap} {i off len : Nat} {c : Value} (h : VRel φ (.slice i off len) c) : VRel φ (.view i off len) c := by
  obtain ⟨b, cap, ad, hb, h1, h2, h3⟩ := h
  exact ⟨b, hb, .inr ⟨cap, ad, h1, h2, h3⟩⟩
theorem pure_slice {φ : PMap} {H : AHeap} {w : World} (hR : Rel φ H w) {t : TypeId} {x v : AVal} {cx : Value} {lo hi : Option AVal} {clo chi : Option Value} (hx : VRel φ x cx) (hlo : BoundRel φ lo clo) (hhi : BoundRel φ hi chi) (h : aslice P H t x lo hi = some v) :
    PureTo P φ (Instr.sliceAt t cx clo chi none) v := by
  have slice_at : ∀ {e}, P.underlying t = some (.slice e) → ∀ w, (Instr.sliceAt t cx clo chi none).run P w = (Instr.slice t cx clo chi none).run P w := fun hu w => by
    simp [Instr.sliceAt, Sem.run_bind, run_underlying' hu, Result.andThen]
  unfold aslice at h
  split at h
  · rename_i e i off len hu
    split at h
    · rename_i ti l hh hT h1 h2
      obtain ⟨e', hu', ht⟩ := sliceT_spec hT
      rw [hu] at hu'; cases hu'
      obtain ⟨inf, d, z, hi', hd, hz, hsz, hby, hag, hze⟩ := tinfo_spec ht
      obtain ⟨b, cap, ad, hb, rfl, hlc, hcap⟩ := hx
      have go : ∀ es, b.es = es → (0 ≤ l ∧ l ≤ hh ∧ hh ≤ (len : Int) ∧ es = ti.size) → v = .slice i (off + l.toNat * es) (hh.toNat - l.toNat) → PureTo P φ (Instr.sliceAt t (.slice (some ad) len cap) clo chi none) v := by
        intro es hbes hc hv
        obtain ⟨c0, c1, c2, c3⟩ := hc
        have hbr := fun w => bound_run (P := P) (b := true) (w := w) hlo hhi h1 h2 c0 c1 c2 hlc
        refine ⟨.slice (some (if cap = l.toNat then ad else ad.add (l.toNat * es))) (hh.toNat - l.toNat) (cap - l.toNat), fun w => ?_, ?_⟩
        · rw [slice_at hu]
          unfold Instr.slice
          simp only [Sem.run_bind, run_underlying' hu, Result.andThen, hbr, run_sizeOf' hi', hsz, ← c3, Sem.run_pure]
          by_cases hcl : cap = l.toNat <;> simp [hcl]
        · subst hv
          refine ⟨b, cap - l.toNat, _, hb, rfl, by omega, fun hpos => ?_⟩
          have hne : cap ≠ l.toNat := by omega
          obtain ⟨had, hle⟩ := hcap (by omega)
          rw [if_neg hne, had, add_at]
          refine ⟨by rw [Nat.add_assoc], ?_⟩
          have : l.toNat * b.es + (cap - l.toNat) * b.es = cap * b.es := by rw [← Nat.add_mul]; congr 1; omega
          rw [hbes] at this hle ⊢
          omega
      have hB := hR.blk i b hb
      split at h
      · rename_i es cs hf
        split at h
        · rename_i hc
          cases h
          exact go es (hB.es_eq (.inl ⟨cs, hf⟩)) hc rfl
        · cases h
      · rename_i es cs hf
        split at h
        · rename_i hc
          cases h
          exact go es (hB.es_eq (.inr ⟨cs, hf⟩)) hc rfl
        · cases h
      · cases h
    · cases h
  · rename_i e hu
    split at h
    · rename_i ti l hh hT h1 h2
      obtain ⟨e', hu', ht⟩ := sliceT_spec hT
      rw [hu] at hu'; cases hu'
      obtain ⟨inf, d, z, hi', hd, hz, hsz, hby, hag, hze⟩ := tinfo_spec ht
      split at h
      · rename_i hc
        obtain ⟨rfl, rfl⟩ := hc
        cases h
        obtain rfl : cx = .slice none 0 0 := hx
        have hbr := fun w => bound_run (P := P) (b := true) (w := w) hlo hhi h1 h2 (Int.le_refl _) (Int.le_refl _) (Int.le_refl _) (Nat.le_refl 0)
        refine ⟨.slice none 0 0, fun w => ?_, rfl⟩
        rw [slice_at hu]
        unfold Instr.slice
        simp only [Sem.run_bind, run_underlying' hu, Result.andThen]
        rw [show (Instr.sliceBounds true 0 0 clo chi none).run P w = _ from hbr w]
        simp [run_sizeOf' hi', Result.andThen]
      · cases h
    · cases h
  · rename_i s hu
    split at h
    · rename_i l hh h1 h2
      split at h
      · rename_i hc
        cases h
        obtain rfl : cx = .string s := hx
        have hbr := fun w => bound_run (P := P) (b := false) (w := w) hlo hhi h1 h2 hc.1 hc.2.1 hc.2.2 (Nat.le_refl s.size)
        refine ⟨.string (s.extract l.toNat hh.toNat), fun w => ?_, rfl⟩
        unfold Instr.sliceAt Instr.slice
        simp only [Sem.run_bind, run_underlying' hu, Result.andThen]
        simp [hbr, Result.andThen]
      · cases h
    · cases h
  · cases h
def asliceV (P : Program) (H : AHeap) (t : TypeId) (x : AVal) (lo hi : Option AVal) : Option AVal :=
  match x with
  | .view i off len => match aslice P H t (.slice i off len) lo hi with
    | some (.slice j o n) => some (.view j o n)
    | _ => none
  | .row n cs => match P.underlying t, sliceT P t, boundA 0 lo, boundA n hi with
    | some (.slice _), some ti, some l, some h => if 0 ≤ l ∧ l ≤ h ∧ h ≤ (n : Int) then some (.row (h.toNat - l.toNat) ((cs.drop (l.toNat * ti.size)).take ((h.toNat - l.toNat) * ti.size))) else none
    | _, _, _, _ => none
  | x => aslice P H t x lo hi
theorem zrow_part {z : ZMap} {cs : List AVal} {blk o : Nat} (h : ZRow z cs blk o) (m n : Nat) : ZRow z ((cs.drop m).take n) blk (o + m) := by
  obtain ⟨arr, el, fr, l, h1, h2, h3⟩ := h
  refine ⟨arr, el, fr, (l.drop m).take n, h1, ZRels_take n (ZRels_drop m h2), fun j c hc => ?_⟩
  rw [List.getElem?_take] at hc
  split at hc
  · rw [List.getElem?_drop] at hc
    rw [Nat.add_assoc]
    exact h3 _ c hc
  · cases hc
theorem pure_sliceR {φ : PMap} {t e : TypeId} {n : Nat} {cs : List AVal} {ti : TI} {l h : Int} {cx : Value} {lo hi : Option AVal} {clo chi : Option Value} (hu : P.underlying t = some (.slice e)) (hT : sliceT P t = some ti) (h1 : boundA 0 lo = some l) (h2 : boundA n hi = some h) (hc : 0 ≤ l ∧ l ≤ h ∧ h ≤ (n : Int))
    (hx : VRel φ (.row n cs) cx) (hlo : BoundRel φ lo clo) (hhi : BoundRel φ hi chi) : PureTo P φ (Instr.sliceAt t cx clo chi none) (.row (h.toNat - l.toNat) ((cs.drop (l.toNat * ti.size)).take ((h.toNat - l.toNat) * ti.size))) := by
  obtain ⟨e', hu', ht⟩ := sliceT_spec hT
  rw [hu] at hu'; cases hu'
  obtain ⟨inf, d, z, hi', hd, hz, hsz, hby, hag, hze⟩ := tinfo_spec ht
  have slice_at : ∀ w, (Instr.sliceAt t cx clo chi none).run P w = (Instr.slice t cx clo chi none).run P w := fun w => by
    simp [Instr.sliceAt, Sem.run_bind, run_underlying' hu, Result.andThen]
  obtain ⟨c0, c1, c2⟩ := hc
  rw [VRel, ZRel] at hx
  rcases hx with ⟨rfl, rfl⟩ | ⟨cap, ad, rfl, hlc, hsp, hz3⟩
  · have hbr := fun w => bound_run (P := P) (b := true) (w := w) hlo hhi h1 h2 c0 c1 c2 (Nat.le_refl 0)
    have e1 : l = 0 := by omega
    have e2 : h = 0 := by omega
    subst e1; subst e2
    refine ⟨.slice none 0 0, fun w => ?_, by rw [VRel, ZRel]; exact .inl ⟨rfl, rfl⟩⟩
    rw [slice_at]
    unfold Instr.slice
    simp only [Sem.run_bind, run_underlying' hu, Result.andThen]
    rw [show (Instr.sliceBounds true 0 0 clo chi none).run P w = _ from hbr w]
    simp [run_sizeOf' hi', Result.andThen]
  · have hbr := fun w => bound_run (P := P) (b := true) (w := w) hlo hhi h1 h2 c0 c1 c2 hlc
    refine ⟨.slice (some (if cap = l.toNat then ad else ad.add (l.toNat * ti.size))) (h.toNat - l.toNat) (cap - l.toNat), fun w => ?_, ?_⟩
    · rw [slice_at]
      unfold Instr.slice
      simp only [Sem.run_bind, run_underlying' hu, Result.andThen, hbr, run_sizeOf' hi', hsz, Sem.run_pure]
      by_cases hcl : cap = l.toNat <;> simp [hcl]
    · rw [VRel, ZRel]
      refine .inr ⟨cap - l.toNat, _, rfl, by omega, fun hpos => ?_, fun hpos => ?_⟩
      · have hs := hsp (by omega)
        rw [if_neg (by omega), add_at' _ _ hs]
      · have hs := hsp (by omega)
        have hzr := hz3 (by omega)
        rw [if_neg (by omega), add_at' _ _ hs]
        exact zrow_part hzr _ _
theorem pure_sliceV {φ : PMap} {H : AHeap} {w : World} (hR : Rel φ H w) {t : TypeId} {x v : AVal} {cx : Value} {lo hi : Option AVal} {clo chi : Option Value} (hx : VRel φ x cx) (hlo : BoundRel φ lo clo) (hhi : BoundRel φ hi chi) (h : asliceV P H t x lo hi = some v) :
    PureTo P φ (Instr.sliceAt t cx clo chi none) v := by
  unfold asliceV at h
  split at h
  · rename_i i off len
    split at h
    · rename_i j o n hs
      cases h
      rcases view_cases hx with ⟨rfl, hc⟩ | hsl
      · -- nothing to slice
        have hnil : aslice P H t .nilSlice lo hi = some .nilSlice ∧ j = i ∧ n = 0 := by
          cases hu : P.underlying t with
          | none => simp [aslice, hu] at hs
          | some d =>
            cases d with
            | slice e =>
              cases hT : sliceT P t with
              | none => simp [aslice, hu, hT] at hs
              | some ti =>
                cases h1 : boundA 0 lo with
                | none => simp [aslice, hu, hT, h1] at hs
                | some l =>
                  cases h2 : boundA 0 hi with
                  | none => simp [aslice, hu, hT, h1, h2] at hs
                  | some hh =>
                    have fin : ∀ es, (if 0 ≤ l ∧ l ≤ hh ∧ hh ≤ ((0 : Nat) : Int) ∧ es = ti.size then some (AVal.slice i (off + l.toNat * es) (hh.toNat - l.toNat)) else none) = some (.slice j o n) → aslice P H t .nilSlice lo hi = some .nilSlice ∧ j = i ∧ n = 0 := by
                      intro es hs
                      split at hs
                      · rename_i hcc
                        simp only [Option.some.injEq, AVal.slice.injEq] at hs
                        obtain ⟨c0, c1, c2, _⟩ := hcc
                        have hl0 : l = 0 := by omega
                        have hh0 : hh = 0 := by omega
                        subst hl0; subst hh0
                        exact ⟨by simp [aslice, hu, hT, h1, h2], hs.1.symm, by rw [← hs.2.2]; rfl⟩
                      · cases hs
                    cases hf : H.f i with
                    | cells es cs => simp only [aslice, hu, hT, h1, h2, hf] at hs; exact fin es hs
                    | ro es cs => simp only [aslice, hu, hT, h1, h2, hf] at hs; exact fin es hs
                    | _ => simp [aslice, hu, hT, h1, h2, hf] at hs
            | _ => simp [aslice, hu] at hs
        obtain ⟨h1, rfl, rfl⟩ := hnil
        obtain ⟨c, hcr, hv⟩ := pure_slice hR (x := .nilSlice) (cx := cx) hc hlo hhi h1
        obtain ⟨b, hb, _⟩ := hx
        exact ⟨c, hcr, b, hb, .inl ⟨rfl, hv⟩⟩
      · obtain ⟨c, hcr, hv⟩ := pure_slice hR hsl hlo hhi hs
        exact ⟨c, hcr, view_of_slice hv⟩
    · cases h
  · rename_i n cs
    split at h
    · rename_i hu hT h1 h2
      split at h
      · rename_i hc
        cases h
        exact pure_sliceR hu hT h1 h2 hc hx hlo hhi
      · cases h
    · cases h
  · exact pure_slice hR hx hlo hhi h
end Go.Vh

/- append, copy, len, min, max, conversions of numbers. -/
set_option linter.unusedVariables false
set_option linter.unusedSimpArgs false
namespace Go.Vh
variable {P : Program}

def srcA (H : AHeap) (es : Nat) : AVal → Option (List AVal × Nat)
  | .nilSlice => some ([], 0)
  | .slice j off len => match H.f j with
    | .cells es' cs | .ro es' cs => if es' = es ∧ off + len * es ≤ cs.length then some ((cs.drop off).take (len * es), len) else none
    | _ => none
  | .view j off len => match H.f j with
    | .cells es' cs | .ro es' cs => if es' = es ∧ off + len * es ≤ cs.length then some ((cs.drop off).take (len * es), len) else none
    | _ => none
  | .str s => if es = 1 then some (s.data.toList.map fun b => .int .u8 b.toNat, s.size) else none
  | .row n cs => if cs.length = n * es then some (cs, n) else none
  | _ => none
theorem srcR_run {φ : PMap} {w : World} (hw : HasZ φ.z w) {es n : Nat} {cs : List AVal} {c : Value} (hl : cs.length = n * es) (hx : VRel φ (.row n cs) c) :
    (Builtin.lenOf c).run P w = .ok n w ∧ ∀ k, k ≤ n → ∃ new : Array Value, (Builtin.firstCells es k c).run P w = .ok new w ∧ VRels φ (cs.take (k * es)) new.toList := by
  rcases Nat.eq_zero_or_pos n with rfl | hn
  · have hnil : cs = [] := List.eq_nil_of_length_eq_zero (by omega)
    subst hnil
    rw [VRel, ZRel] at hx
    rcases hx with ⟨_, rfl⟩ | ⟨cap, ad, rfl, _, _, _⟩
    · exact ⟨rfl, fun k hk => ⟨#[], rfl, by simp [VRels]⟩⟩
    · refine ⟨rfl, fun k hk => ?_⟩
      obtain rfl : k = 0 := by omega
      exact ⟨#[], by simp [Builtin.firstCells, loadCells, loadCellsFrom], by simp [VRels]⟩
  · obtain ⟨cap, ⟨ab, ao, asp⟩, rfl, hlc, hs, hz⟩ := row_pos hx hn
    dsimp only at hs hz
    subst hs
    refine ⟨rfl, fun k hk => ?_⟩
    obtain ⟨ds, hds, hrs⟩ := run_loadCellsZ (P := P) hz (off := 0) (k * es) 0 #[] _ rfl (by
      rw [Nat.zero_add, List.drop_zero, List.length_take, hl]
      exact Nat.min_eq_left (Nat.mul_le_mul_right _ hk))
    refine ⟨ds.toArray, by simpa [Builtin.firstCells, loadCells] using hds w hw, ?_⟩
    simpa using hrs
theorem src_run {φ : PMap} {H : AHeap} {w : World} (hR : Rel φ H w) {es : Nat} {x : AVal} {c : Value} {xs : List AVal} {m : Nat} (hx : VRel φ x c) (h : srcA H es x = some (xs, m)) :
    xs.length = m * es ∧ (Builtin.lenOf c).run P w = .ok m w ∧ ∀ n, n ≤ m → ∃ new : Array Value, (Builtin.firstCells es n c).run P w = .ok new w ∧ VRels φ (xs.take (n * es)) new.toList := by
  unfold srcA at h
  split at h
  · cases h
    obtain rfl : c = .slice none 0 0 := hx
    exact ⟨by simp, rfl, fun n hn => ⟨#[], rfl, by simp [VRels]⟩⟩
  · rename_i j off len
    obtain ⟨b, cap, ad, hb, rfl, hlc, hcap⟩ := hx
    have go : ∀ cs, (H.f j).cs = cs → off + len * es ≤ cs.length → xs = (cs.drop off).take (len * es) → m = len →
        xs.length = m * es ∧ (Builtin.lenOf (.slice (some ad) len cap)).run P w = .ok m w ∧ ∀ n, n ≤ m → ∃ new : Array Value, (Builtin.firstCells es n (.slice (some ad) len cap)).run P w = .ok new w ∧ VRels φ (xs.take (n * es)) new.toList := by
      intro cs hcs hle hxs hm
      subst hm; subst hxs
      refine ⟨by simp; omega, rfl, fun n hn => ?_⟩
      have hnl : n * es ≤ m * es := Nat.mul_le_mul_right _ hn
      by_cases h0 : cap = 0
      · have : n = 0 := by omega
        subst this
        exact ⟨#[], by simp [Builtin.firstCells, loadCells, loadCellsFrom], by simp [VRels]⟩
      · obtain ⟨rfl, _⟩ := hcap (by omega)
        obtain ⟨ds, hds, hrs⟩ := run_loadCellsFrom (P := P) hR hb (off := off) (n * es) 0 #[] _ rfl (by rw [hcs]; simp; omega)
        refine ⟨ds.toArray, by simpa [Builtin.firstCells, loadCells] using hds, ?_⟩
        rw [List.take_take, Nat.min_eq_left hnl]
        rw [hcs] at hrs
        simpa using hrs
    split at h
    · rename_i es' cs hf
      split at h
      · rename_i hc
        cases h
        exact go cs (by rw [hf]; rfl) hc.2 rfl rfl
      · cases h
    · rename_i es' cs hf
      split at h
      · rename_i hc
        cases h
        exact go cs (by rw [hf]; rfl) hc.2 rfl rfl
      · cases h
    · cases h
  · rename_i j off len
    have nilC : len = 0 → xs = [] → m = 0 → xs.length = m * es ∧ (Builtin.lenOf (.slice none 0 0)).run P w = .ok m w ∧ ∀ n, n ≤ m → ∃ new : Array Value, (Builtin.firstCells es n (.slice none 0 0)).run P w = .ok new w ∧ VRels φ (xs.take (n * es)) new.toList := by
      intro _ h1 h2
      subst h1; subst h2
      exact ⟨by simp, rfl, fun n hn => ⟨#[], rfl, by simp [VRels]⟩⟩
    rcases view_cases hx with ⟨h0, rfl⟩ | hx
    · subst h0
      split at h
      · split at h
        · cases h; exact nilC rfl (by simp) rfl
        · cases h
      · split at h
        · cases h; exact nilC rfl (by simp) rfl
        · cases h
      · cases h
    obtain ⟨b, cap, ad, hb, rfl, hlc, hcap⟩ := hx
    have go : ∀ cs, (H.f j).cs = cs → off + len * es ≤ cs.length → xs = (cs.drop off).take (len * es) → m = len →
        xs.length = m * es ∧ (Builtin.lenOf (.slice (some ad) len cap)).run P w = .ok m w ∧ ∀ n, n ≤ m → ∃ new : Array Value, (Builtin.firstCells es n (.slice (some ad) len cap)).run P w = .ok new w ∧ VRels φ (xs.take (n * es)) new.toList := by
      intro cs hcs hle hxs hm
      subst hm; subst hxs
      refine ⟨by simp; omega, rfl, fun n hn => ?_⟩
      have hnl : n * es ≤ m * es := Nat.mul_le_mul_right _ hn
      by_cases h0 : cap = 0
      · have : n = 0 := by omega
        subst this
        exact ⟨#[], by simp [Builtin.firstCells, loadCells, loadCellsFrom], by simp [VRels]⟩
      · obtain ⟨rfl, _⟩ := hcap (by omega)
        obtain ⟨ds, hds, hrs⟩ := run_loadCellsFrom (P := P) hR hb (off := off) (n * es) 0 #[] _ rfl (by rw [hcs]; simp; omega)
        refine ⟨ds.toArray, by simpa [Builtin.firstCells, loadCells] using hds, ?_⟩
        rw [List.take_take, Nat.min_eq_left hnl]
        rw [hcs] at hrs
        simpa using hrs
    split at h
    · rename_i es' cs hf
      split at h
      · rename_i hc
        cases h
        exact go cs (by rw [hf]; rfl) hc.2 rfl rfl
      · cases h
    · rename_i es' cs hf
      split at h
      · rename_i hc
        cases h
        exact go cs (by rw [hf]; rfl) hc.2 rfl rfl
      · cases h
    · cases h
  · rename_i s
    split at h
    · rename_i he
      cases h
      subst he
      obtain rfl : c = .string s := hx
      refine ⟨by rw [List.length_map, Array.length_toList, Nat.mul_one]; rfl, rfl, fun n hn => ⟨_, rfl, ?_⟩⟩
      simp only [Nat.mul_one]
      rw [VRels_iff]
      constructor
      · rw [Array.toList_map, List.length_map, Array.length_toList, List.length_take, List.length_map, Array.length_toList, ByteArray.data_extract, Array.size_extract]
        have : s.data.size = s.size := rfl
        omega
      · intro j v c hv hc
        rw [List.getElem?_take] at hv
        split at hv
        · rename_i hjn
          have hjs : j < s.size := by omega
          have hjd : j < s.data.size := hjs
          simp only [List.getElem?_map, Array.getElem?_toList, Array.getElem?_eq_getElem hjd, Option.map_some, Option.some.injEq] at hv
          subst hv
          have hc' : c = .int .u8 (s.data[j]).toNat := by
            have hx : ((s.extract 0 n).data)[j]? = some s.data[j] := by
              rw [ByteArray.data_extract, Array.getElem?_extract, if_pos (by have : s.data.size = s.size := rfl; omega)]
              simp [Array.getElem?_eq_getElem hjd]
            simp only [Array.toList_map, List.getElem?_map, Array.getElem?_toList, hx, Option.map_some, Option.some.injEq] at hc
            exact hc.symm
          exact hc'
        · cases hv
    · cases h
  · rename_i n cs
    split at h
    · rename_i hl
      cases h
      obtain ⟨a, b⟩ := srcR_run (P := P) hR.hasZ hl hx
      exact ⟨hl, a, b⟩
    · cases h
  · cases h

theorem nsc_le {need cap : Nat} (h : cap < need) : Builtin.nextslicecap need cap ≤ 2 * need + 1000 := by
  unfold Builtin.nextslicecap
  split
  · omega
  · split
    · omega
    · simp only [Builtin.growBy]
      repeat' split
      all_goals omega

def rowD : TypeDesc → Bool
  | .slice _ | .string => true
  | _ => false
def aappend (P : Program) (H : AHeap) (t tx : TypeId) (s x : AVal) : Option (AVal × AHeap) :=
  match sliceT P t, P.underlying tx with
  | some ti, some d => if rowD d = true ∧ ti.bytes ≤ 4096 ∧ ti.zero.length = ti.size then (match srcA H ti.size x with
    | some (xs, m) => (match s with
      | .nilSlice => if m = 0 then some (.nilSlice, H) else if m ≤ 4294967296 then some (.slice H.n 0 m, H.alloc (.cells ti.size xs)) else none
      | .slice i off len => (match H.f i with
        | .cells es cs => if es = ti.size ∧ off + len * es ≤ cs.length ∧ len + m ≤ 4294967296 ∧ xs.all AVal.scalar = true then
            some (.slice H.n 0 (len + m), (H.set i .dead).alloc (.cells es ((cs.drop off).take (len * es) ++ xs))) else none
        | _ => none)
      | _ => none)
    | none => none) else none
  | _, _ => none
theorem rowD_cases {d : TypeDesc} (h : rowD d = true) : (∃ e, d = .slice e) ∨ d = .string := by
  unfold rowD at h
  split at h
  · exact .inl ⟨_, rfl⟩
  · exact .inr rfl
  · cases h
theorem append_fits {t tx ty e : TypeId} {d : TypeDesc} {inf : TypeInfo} (hu : P.underlying t = some (.slice e)) (hi : P.info? e = some inf) (hd : P.underlying tx = some d) (hx : rowD d = true) {base : Option Addr} {len cap : Nat} {x : Value} {m : Nat} {w w' : World} (hl : (Builtin.lenOf x).run P w = .ok m w)
    (hle : len + m ≤ cap) {new : Array Value} (hn : (Builtin.firstCells inf.size m x).run P w = .ok new w) (hs : ∀ a, base = some a → (storeCells (a.add (len * inf.size)) new.toList).run P w = .ok () w') (hb : base = none → w' = w) :
    (Builtin.append_ #[t, tx] ty #[.slice base len cap, x]).run P w = .ok (.slice base (len + m) cap) w' := by
  unfold Builtin.append_
  rcases rowD_cases hx with ⟨e2, rfl⟩ | rfl
  all_goals
    simp only [List.getElem?_toArray, List.getElem?_cons_zero, List.getElem?_cons_succ, Sem.run_bind, run_underlying' hu, Result.andThen, run_sizeOf' hi, run_underlying' hd, Sem.run_pure, Bool.false_eq_true, if_false, hl, Bool.not_false, if_true, hle, hn]
    cases base with
    | none => rw [hb rfl]; rfl
    | some a => simp only [Sem.run_bind, hs a rfl, Result.andThen, Sem.run_pure]
theorem append_grow {t tx ty e : TypeId} {d : TypeDesc} {inf : TypeInfo} (hu : P.underlying t = some (.slice e)) (hi : P.info? e = some inf) (hd : P.underlying tx = some d) (hx : rowD d = true) {base : Option Addr} {len cap : Nat} {x : Value} {m : Nat} {w : World} (hl : (Builtin.lenOf x).run P w = .ok m w)
    (hgt : cap < len + m) (hneed : len + m ≤ 4294967296) (hby : inf.bytes ≤ 4096) {old new : Array Value} {z : Value} (hz : inf.zero = some z)
    (ho : (Builtin.firstCells inf.size len (.slice base len cap)).run P { w with drawn := w.drawn + 1 } = .ok old { w with drawn := w.drawn + 1 }) (hn : (Builtin.firstCells inf.size m x).run P { w with drawn := w.drawn + 1 } = .ok new { w with drawn := w.drawn + 1 }) :
    ∃ newCap, len + m ≤ newCap ∧ ∀ a w', (newRow e (old ++ new ++ Builtin.zeroCells z.cells (newCap - (len + m)))).run P { w with drawn := w.drawn + 1 } = .ok a w' → (Builtin.append_ #[t, tx] ty #[.slice base len cap, x]).run P w = .ok (.slice (some a) (len + m) newCap) w' := by
  have hcap : Builtin.nextslicecap (len + m) cap * inf.bytes ≤ 2 ^ 48 := by
    have h1 := nsc_le hgt
    have h2 : Builtin.nextslicecap (len + m) cap ≤ 2 * 4294967296 + 1000 := by omega
    have := Nat.mul_le_mul h2 hby
    omega
  refine ⟨Question.cut (.appendCap (len + m) cap e) (w.tape w.drawn (.appendCap (len + m) cap e)), by simp [Question.cut], fun a w' hrow => ?_⟩
  have h1 : ¬ (((len + m : Nat) : Int) > IntKind.i64.max ∧ (False ∨ inf.bytes = 0)) := by
    simp [IntKind.max, IntKind.bits, IntKind.signed]; omega
  have hch : (choose (.appendCap (len + m) cap e)).run P w = .ok (Question.cut (.appendCap (len + m) cap e) (w.tape w.drawn (.appendCap (len + m) cap e))) { w with drawn := w.drawn + 1 } := by
    simp [choose, Sem.run, Question.forced]
  unfold Builtin.append_
  rcases rowD_cases hx with ⟨e2, rfl⟩ | rfl
  all_goals
    simp only [List.getElem?_toArray, List.getElem?_cons_zero, List.getElem?_cons_succ, Sem.run_bind, run_underlying' hu, Result.andThen, run_sizeOf' hi, run_underlying' hd, Sem.run_pure, Bool.false_eq_true, if_false, hl, Bool.not_false, if_true, show ¬ (len + m ≤ cap) by omega,
      run_typeInfo' hi, if_neg h1, if_neg (show ¬ (Builtin.nextslicecap (len + m) cap * inf.bytes > 2 ^ 48) by omega), hch, run_askRoom, ho, hn, run_zeroValue' hi hz, hrow]
theorem zeroCells_size (z : Array Value) (n : Nat) : (Builtin.zeroCells z n).size = n * z.size := by simp [Builtin.zeroCells]
theorem grow_fine {φ : PMap} {H : AHeap} {w : World} (hR : Rel φ H w) {e : TypeId} {es len m newCap : Nat} {os xs : List AVal} {old new z : Array Value} (ho : VRels φ os old.toList) (hn : VRels φ xs new.toList) (hol : os.length = len * es) (hnl : xs.length = m * es) (hz : z.size = es) (hcap : len + m ≤ newCap) :
    ∃ a w' φ', (newRow e (old ++ new ++ Builtin.zeroCells z (newCap - (len + m)))).run P w = .ok a w' ∧ VRel φ' (.slice H.n 0 (len + m)) (.slice (some a) (len + m) newCap) ∧ Rel φ' (H.alloc (.cells es (os ++ xs))) w' ∧ Ext φ H w φ' (H.alloc (.cells es (os ++ xs))) w' := by
  have h1 := VRels_length ho
  have h2 := VRels_length hn
  rw [Array.length_toList] at h1 h2
  have hsize : (old ++ new ++ Builtin.zeroCells z (newCap - (len + m))).size = newCap * es := by
    rw [Array.size_append, Array.size_append, zeroCells_size, h1, h2, hol, hnl, hz, ← Nat.add_mul, ← Nat.add_mul]
    congr 1; omega
  have hm : (len + m) * es ≤ newCap * es := Nat.mul_le_mul_right _ hcap
  rw [Nat.add_mul] at hm
  have htake : (old ++ new ++ Builtin.zeroCells z (newCap - (len + m))).toList.take (os ++ xs).length = old.toList ++ new.toList := by
    rw [Array.toList_append, Array.toList_append, List.take_append_of_le_length (by simp; omega), List.take_of_length_le (by simp; omega)]
  obtain ⟨φ', w', hrun, hR', hE, hφ⟩ := row_new (P := P) hR e (old ++ new ++ Builtin.zeroCells z (newCap - (len + m))) (os ++ xs) es (by rw [hsize, List.length_append]; omega) (by rw [htake]; exact VRels_append ho hn)
  refine ⟨_, w', φ', hrun, ⟨_, newCap, _, hφ, rfl, hcap, fun _ => ⟨rfl, ?_⟩⟩, hR', hE⟩
  simp only [Nat.zero_add]
  rw [hsize]; exact Nat.le_refl _
theorem fine_append {φ : PMap} {H H' : AHeap} {w : World} (hR : Rel φ H w) {t tx ty : TypeId} {s x v : AVal} {cs cx : Value} (hs : VRel φ s cs) (hx : VRel φ x cx) (h : aappend P H t tx s x = some (v, H')) :
    Fine P φ H w (Builtin.append_ #[t, tx] ty #[cs, cx]) v H' := by
  unfold aappend at h
  split at h
  · rename_i ti d hT hd
    obtain ⟨e, hu, ht⟩ := sliceT_spec hT
    obtain ⟨inf, de, z, hi, hde, hz, hsz, hby, hag, hze⟩ := tinfo_spec ht
    split at h
    · rename_i hc
      obtain ⟨hrow, hbytes, hz0⟩ := hc
      have hzs : z.cells.size = ti.size := by rw [← hz0, hze]; simp
      split at h
      · rename_i xs m hsrc
        obtain ⟨hxl, hlen, hfirst⟩ := src_run (P := P) hR hx hsrc
        obtain ⟨new, hnew, hnrel⟩ := hfirst m (Nat.le_refl _)
        rw [List.take_of_length_le (by omega)] at hnrel
        obtain ⟨_, _, h3⟩ := src_run (P := P) (hR.drew (w.drawn + 1)) hx hsrc
        obtain ⟨new', hnew', hnrel'⟩ := h3 m (Nat.le_refl _)
        rw [List.take_of_length_le (by omega)] at hnrel'
        split at h
        · -- a nil slice
          obtain rfl : cs = .slice none 0 0 := hs
          split at h
          · rename_i hm
            cases h
            subst hm
            refine Fine.pure hR (c := .slice none 0 0) ?_ rfl
            exact append_fits hu hi hd hrow hlen (Nat.le_refl _) (by rw [hsz]; exact hnew) (by simp) (fun _ => rfl)
          · rename_i hm
            split at h
            · rename_i hm2
              simp only [Option.some.injEq, Prod.mk.injEq] at h
              obtain ⟨rfl, rfl⟩ := h
              obtain ⟨newCap, hcap, hgo⟩ := append_grow (P := P) (ty := ty) hu hi hd hrow hlen (base := none) (len := 0) (cap := 0) (by omega) (by omega) (by omega) hz (old := #[]) rfl (by rw [hsz]; exact hnew')
              obtain ⟨a, w', φ', hrun, hv, hR', hE⟩ := grow_fine (P := P) (hR.drew (w.drawn + 1)) (e := e) (es := ti.size) (len := 0) (os := []) (old := #[]) (z := z.cells) (by simp [VRels]) hnrel' (by simp) hxl hzs hcap
              have hres := hgo _ _ hrun
              simp only [Nat.zero_add, List.nil_append] at hres hv hR' hE
              exact ⟨_, w', φ', hres, hv, hR', (Ext.drew φ H w _).trans hE⟩
            · cases h
        · rename_i i off len
          split at h
          · rename_i es ccs hf
            split at h
            · rename_i hcond
              obtain ⟨hes, hle, hneed, hsc⟩ := hcond
              simp only [Option.some.injEq, Prod.mk.injEq] at h
              obtain ⟨rfl, rfl⟩ := h
              subst hes
              obtain ⟨b, cap, ad, hb, rfl, hlc, hcap⟩ := hs
              have hB := hR.blk i b hb
              rw [hf] at hB
              obtain ⟨hbes, arr, elem, h1, h2, h3', h4⟩ := hB
              have hwindow : VRels φ ((ccs.drop off).take (len * ti.size)) (((arr.toList.drop (b.base + off)).take (len * ti.size))) := by
                have := VRels_take (VRels_drop h4 off) (len * ti.size)
                rw [List.drop_take, List.take_take, List.drop_drop, Nat.min_eq_left (by omega)] at this
                exact this
              by_cases hfit : len + m ≤ cap
              · -- there is room
                have hnl := VRels_length hnrel
                have hpos : 0 < cap ∨ cap = 0 := by omega
                let bj : BI := ⟨b.blk, b.base + off, ti.size, cap * ti.size⟩
                have hroom : off + cap * ti.size ≤ b.sz := by
                  rcases hpos with hp | hp
                  · have := (hcap hp).2; rwa [hbes] at this
                  · subst hp; simp; omega
                have hmul : len * ti.size + m * ti.size ≤ cap * ti.size := by rw [← Nat.add_mul]; exact Nat.mul_le_mul_right _ hfit
                have hscv : new.toList.all scalarV = true := by
                  rw [List.all_eq_true] at *
                  intro c hc
                  obtain ⟨j, hj⟩ := List.getElem?_of_mem hc
                  have hjl : j < xs.length := by rw [← hnl]; exact (List.getElem?_eq_some_iff.1 hj).1
                  exact scalar_rel (hsc _ (List.getElem_mem hjl)) ((VRels_iff.1 hnrel).2 j _ c (List.getElem?_eq_getElem hjl) hj)
                obtain ⟨w', hrun, hs', hk, hos, htp, hout, arr', harr, hlist⟩ := run_storeCells (P := P) new.toList w arr (b.base + off + len * ti.size) 0 h1 (by rw [hnl, hxl]; omega) hscv
                have hstore : ∀ a, some ad = some a → (storeCells (a.add (len * inf.size)) new.toList).run P w = .ok () w' := by
                  intro a ha
                  cases ha
                  rcases hpos with hp | hp
                  · rw [(hcap hp).1, add_at, hsz]; exact hrun
                  · have hm0 : m = 0 := by omega
                    have hn0 : new.toList = [] := by apply List.eq_nil_of_length_eq_zero; rw [hnl, hxl, hm0]; simp
                    rw [hn0] at hrun ⊢
                    simp only [storeCells, Sem.run_pure] at hrun ⊢
                    exact hrun
                have hx' := rel_move (bj := bj) hR hb (by rw [hf]; trivial) rfl (.cells ti.size ((ccs.drop off).take (len * ti.size) ++ xs)) trivial hs' hk (by
                  refine ⟨rfl, arr', elem, harr, ?_, ?_, ?_⟩
                  · have : arr'.size = arr.size := by
                      rw [← Array.length_toList, hlist]; simp [hnl, hxl]; omega
                    simp only [bj]; omega
                  · simp only [bj, List.length_append, List.length_take, List.length_drop, hxl]; omega
                  · have hw : (arr'.toList.drop bj.base).take ((ccs.drop off).take (len * ti.size) ++ xs).length = ((arr.toList.drop (b.base + off)).take (len * ti.size)) ++ new.toList := by
                      rw [hlist]
                      apply List.ext_getElem?
                      intro q
                      have hnl2 : new.size = m * ti.size := by rw [← Array.length_toList, hnl, hxl]
                      simp only [bj, Nat.add_zero, List.getElem?_take, List.getElem?_drop, List.getElem?_append, List.length_append, List.length_take, List.length_drop, Array.length_toList, hnl2, hxl]
                      repeat' split
                      all_goals first | rfl | omega | (congr 1; omega) | (exfalso; omega) | (simp only [List.getElem?_eq_none_iff, Array.length_toList]; omega) | (symm; simp only [List.getElem?_eq_none_iff, Array.length_toList]; omega)
                    rw [hw]
                    exact VRels_mono (PMap.ext_le (hR.dom H.n (Nat.le_refl _)) _) _ _ (VRels_append hwindow hnrel)) hos htp hout
                refine ⟨_, w', _, append_fits hu hi hd hrow hlen hfit (by rw [hsz]; exact hnew) hstore (by simp), ?_, hx'.1, hx'.2⟩
                refine ⟨bj, cap, ad, PMap.ext_same _ _ _, rfl, hfit, fun hp => ⟨by rw [(hcap hp).1]; rfl, ?_⟩⟩
                simp only [bj, Nat.zero_add]; exact Nat.le_refl _
              · -- a new array
                have hold := src_run (P := P) (x := .slice i off len) (hR.drew (w.drawn + 1)) (m := len) (xs := (ccs.drop off).take (len * ti.size)) ⟨b, cap, ad, hb, rfl, hlc, hcap⟩ (by simp only [srcA, hf]; rw [if_pos ⟨rfl, hle⟩])
                obtain ⟨hol, _, hof⟩ := hold
                obtain ⟨old, hold', horel⟩ := hof len (Nat.le_refl _)
                rw [List.take_of_length_le (by omega)] at horel
                obtain ⟨newCap, hncap, hgo⟩ := append_grow (P := P) (ty := ty) hu hi hd hrow hlen (base := some ad) (len := len) (cap := cap) (by omega) hneed (by omega) hz (by rw [hsz]; exact hold') (by rw [hsz]; exact hnew')
                have hkill := rel_kill (hR.drew (w.drawn + 1)) i
                obtain ⟨a, w', φ', hrun, hv, hR', hE⟩ := grow_fine (P := P) hkill.1 (e := e) (es := ti.size) (len := len) (old := old) (z := z.cells) horel hnrel' hol hxl hzs hncap
                exact ⟨_, w', φ', hgo _ _ hrun, hv, hR', ((Ext.drew φ H w _).trans hkill.2).trans hE⟩
            · cases h
          · cases h
        · cases h
      · cases h
    · cases h
  · cases h

/-- So many zeros behind a nil slice. -/
def aappendZ (P : Program) (H : AHeap) (t tx : TypeId) (s x : AVal) : Option (AVal × AHeap) :=
  match P.underlying tx, sliceT P t, s, x with
  | some (.int _), some ti, .nilSlice, .int _ n => if 0 < n ∧ n ≤ 4294967296 ∧ ti.bytes ≤ 4096 ∧ ti.zero.length = ti.size ∧ ti.zero.length ≠ 0 then
      some (.slice H.n 0 n.toNat, H.alloc (.cells ti.size (zerosA ti.zero (n.toNat * ti.size)))) else none
  | _, _, _, _ => none
theorem fine_appendZ {φ : PMap} {H H' : AHeap} {w : World} (hR : Rel φ H w) {t tx ty : TypeId} {s x v : AVal} {cs cx : Value} (hs : VRel φ s cs) (hx : VRel φ x cx) (h : aappendZ P H t tx s x = some (v, H')) :
    Fine P φ H w (Builtin.append_ #[t, tx] ty #[cs, cx]) v H' := by
  unfold aappendZ at h
  split at h
  · rename_i kd ti k n hd hT
    obtain ⟨e, hu, ht⟩ := sliceT_spec hT
    obtain ⟨inf, de, z, hi, hde, hz, hsz, hby, hag, hze⟩ := tinfo_spec ht
    obtain rfl : cs = .slice none 0 0 := hs
    obtain rfl : cx = .int k n := hx
    split at h
    · rename_i hc
      obtain ⟨h0, h1, hbytes, hz0, hz1⟩ := hc
      simp only [Option.some.injEq, Prod.mk.injEq] at h
      obtain ⟨rfl, rfl⟩ := h
      have hzs : z.cells.size = ti.size := by rw [← hz0, hze]; simp
      obtain ⟨m, rfl⟩ := Int.eq_ofNat_of_zero_le (Int.le_of_lt h0)
      rw [Int.toNat_natCast]
      have hm0 : 0 < m := by omega
      have hm1 : m ≤ 4294967296 := by omega
      have hpos : m * ti.size ≠ 0 := Nat.mul_ne_zero (by omega) (by rw [← hz0]; exact hz1)
      have hwr : IntKind.i64.wrap (m : Int) = m := wrap64_id (by omega) (by omega)
      have hbn : ¬ ((m : Int) * (inf.bytes : Int) > 2 ^ 48) := by
        have h3 : (inf.bytes : Int) ≤ 4096 := by omega
        have := Int.mul_le_mul (show (m : Int) ≤ 4294967296 by omega) h3 (by omega) (by omega)
        omega
      have hcap : Builtin.nextslicecap (0 + m) 0 * inf.bytes ≤ 2 ^ 48 := by
        have h1 := nsc_le (need := 0 + m) (cap := 0) (by omega)
        have h2 : Builtin.nextslicecap (0 + m) 0 ≤ 2 * 4294967296 + 1000 := by omega
        have := Nat.mul_le_mul h2 (show inf.bytes ≤ 4096 by omega)
        omega
      have hnew : VRels φ (zerosA ti.zero (m * ti.size)) (Builtin.zeroCells z.cells m).toList := by
        have hr := zeros_rel (φ := φ) (z := z.cells) (m := m * ti.size) (n := m * ti.size) (Nat.le_refl _) (.inl (by rw [hzs, ← hz0]; exact hz1))
        rw [← hze] at hr
        have he : (Builtin.zeroCells z.cells m).toList = (((Array.range (m * ti.size)).map (z.cells[· % z.cells.size]!)).toList.take (m * ti.size)) := by
          rw [List.take_of_length_le (by simp)]
          unfold Builtin.zeroCells
          rw [hzs]
        rw [he]
        exact hr
      have hnl : (zerosA ti.zero (m * ti.size)).length = m * ti.size := zerosA_length _ _
      have hcut : 0 + m ≤ Question.cut (.appendCap (0 + m) 0 e) (w.tape w.drawn (.appendCap (0 + m) 0 e)) := by simp [Question.cut]
      obtain ⟨a, w', φ', hrun, hv, hR', hE⟩ := grow_fine (P := P) (hR.drew (w.drawn + 1)) (e := e) (es := ti.size) (len := 0) (os := []) (old := #[]) (z := z.cells) (by simp [VRels]) hnew (by simp) hnl hzs hcut
      have hch : (choose (.appendCap (0 + m) 0 e)).run P w = .ok (Question.cut (.appendCap (0 + m) 0 e) (w.tape w.drawn (.appendCap (0 + m) 0 e))) { w with drawn := w.drawn + 1 } := by
        simp [choose, Sem.run, Question.forced]
      have h4 : ¬ (((0 + m : Nat) : Int) > IntKind.i64.max ∧ (True ∨ inf.bytes = 0)) := by
        simp [IntKind.max, IntKind.bits, IntKind.signed]; omega
      have hres : (Builtin.append_ #[t, tx] ty #[.slice none 0 0, .int k (m : Int)]).run P w = .ok (.slice (some a) (0 + m) (Question.cut (.appendCap (0 + m) 0 e) (w.tape w.drawn (.appendCap (0 + m) 0 e)))) w' := by
        unfold Builtin.append_
        simp only [List.getElem?_toArray, List.getElem?_cons_zero, List.getElem?_cons_succ, Sem.run_bind, run_underlying' hu, Result.andThen, run_sizeOf' hi, run_underlying' hd, Sem.run_pure, if_true, asInt, asIntOf, hwr, if_neg (show ¬ ((m : Int) < 0) by omega), run_typeInfo' hi, if_neg hbn, Int.toNat_natCast, Bool.not_true, Bool.false_eq_true, if_false, show ¬ (0 + m ≤ 0) by omega,
          if_neg h4, if_neg (show ¬ (Builtin.nextslicecap (0 + m) 0 * inf.bytes > 2 ^ 48) by omega), hch, run_askRoom, Builtin.firstCells, hsz, if_neg hpos, run_zeroValue' hi hz, hrun]
      simp only [Nat.zero_add, List.nil_append] at hres hv hR' hE
      exact ⟨_, w', φ', hres, hv, hR', (Ext.drew φ H w _).trans hE⟩
    · cases h
  · cases h
def aappend2 (P : Program) (H : AHeap) (t tx : TypeId) (s x : AVal) : Option (AVal × AHeap) :=
  match aappendZ P H t tx s x with
  | some r => some r
  | none => aappend P H t tx s x
theorem app2 {t tx : TypeId} {d : TypeDesc} (hd : P.underlying tx = some d) (hr : rowD d = true) (H : AHeap) (s x : AVal) : aappend2 P H t tx s x = aappend P H t tx s x := by
  have : aappendZ P H t tx s x = none := by
    unfold aappendZ
    rw [hd]
    rcases rowD_cases hr with ⟨e, rfl⟩ | rfl <;> rfl
  rw [aappend2, this]
theorem fine_append2 {φ : PMap} {H H' : AHeap} {w : World} (hR : Rel φ H w) {t tx ty : TypeId} {s x v : AVal} {cs cx : Value} (hs : VRel φ s cs) (hx : VRel φ x cx) (h : aappend2 P H t tx s x = some (v, H')) :
    Fine P φ H w (Builtin.append_ #[t, tx] ty #[cs, cx]) v H' := by
  unfold aappend2 at h
  split at h
  · rename_i hz
    cases h
    exact fine_appendZ hR hs hx hz
  · exact fine_append hR hs hx h
/-! ### Bytes as a text -/
def bytesA : List AVal → ByteArray → Option ByteArray
  | [], s => some s
  | .int .u8 n :: l, s => bytesA l (s.push (UInt8.ofNat n.toNat))
  | _, _ => none
def aconvS (P : Program) (H : AHeap) (src dst : TypeId) (x : AVal) : Option AVal :=
  match P.underlying src, P.underlying dst, x with
  | some (.slice e), some .string, .slice i off len => match P.underlying e, srcA H 1 (.slice i off len) with
    | some (.int .u8), some (xs, _) => (bytesA xs .empty).map .str
    | _, _ => none
  | _, _, _ => none
theorem run_bytesL {φ : PMap} {w : World} {f : Value → ByteArray → Sem (ForInStep ByteArray)} (hf : ∀ n s, f (.int .u8 n) s = pure (.yield (s.push (UInt8.ofNat n.toNat)))) : ∀ (xs : List AVal) (cs : List Value) (s r : ByteArray), VRels φ xs cs → bytesA xs s = some r → (forIn cs s f).run P w = .ok r w
  | [], cs, s, r, hv, h => by
    obtain rfl : cs = [] := hv
    cases h
    simp
  | x :: xs, cs, s, r, hv, h => by
    cases cs with
    | nil => simp [VRels] at hv
    | cons c cs =>
      obtain ⟨h1, h2⟩ := VRels_cons.1 hv
      cases x with
      | int k n =>
        cases k with
        | u8 =>
          obtain rfl : c = .int .u8 n := h1
          simp only [List.forIn_cons, Sem.run_bind, Sem.run_pure, Result.andThen, hf]
          exact run_bytesL hf xs cs _ r h2 h
        | _ => simp [bytesA] at h
      | _ => simp [bytesA] at h
theorem fine_convS {φ : PMap} {H : AHeap} {w : World} (hR : Rel φ H w) {src dst : TypeId} {x v : AVal} {cx : Value} (hx : VRel φ x cx) (h : aconvS P H src dst x = some v) : Fine P φ H w (convert src dst cx) v H := by
  unfold aconvS at h
  split at h
  · rename_i e i off len hs hd
    split at h
    · rename_i xs m he hsrc
      obtain ⟨hxl, hlen, hfirst⟩ := src_run (P := P) hR hx hsrc
      obtain ⟨new, hnew, hnrel⟩ := hfirst m (Nat.le_refl _)
      rw [List.take_of_length_le (by omega)] at hnrel
      obtain ⟨b, cap, ad, hb, rfl, hlc, hcap⟩ := hx
      have hml : m = len := by
        have : (Builtin.lenOf (.slice (some ad) len cap)).run P w = .ok len w := rfl
        rw [this] at hlen
        cases hlen; rfl
      subst hml
      cases hby : bytesA xs .empty with
      | none => rw [hby] at h; cases h
      | some r =>
        rw [hby] at h
        cases h
        refine Fine.pure hR (c := .string r) ?_ rfl
        have hl : (loadCells ad m).run P w = .ok new w := by
          have : (Builtin.firstCells 1 m (.slice (some ad) m cap)) = loadCells ad (m * 1) := rfl
          rw [this, Nat.mul_one] at hnew
          exact hnew
        unfold convert
        simp only [Sem.run_bind, run_underlying' hs, run_underlying' hd, Result.andThen, run_underlying' he]
        unfold Conv.bytesToString
        simp only [Sem.run_bind, hl, Result.andThen]
        rw [← Array.forIn_toList]
        split
        · rename_i a w1 heq
          have h2 : Result.ok a w1 = .ok r w := by
            refine heq.symm.trans (run_bytesL ?_ xs new.toList .empty r hnrel hby)
            intro n s
            rfl
          cases h2
          rfl
        · rename_i a w1 heq
          have h2 : Result.halt a w1 = .ok r w := by
            refine heq.symm.trans (run_bytesL ?_ xs new.toList .empty r hnrel hby)
            intro n s
            rfl
          cases h2
    · cases h
  · cases h

/-! ### copy, len, min, max -/
def acopy (P : Program) (H : AHeap) (t : TypeId) (d x : AVal) : Option (AVal × AHeap) :=
  match sliceT P t with
  | some ti => match srcA H ti.size x, d with
    | some (_, m), .nilSlice => some (.int .i64 0, H)
    | some (xs, m), .slice i off len => (match H.f i with
      | .cells es _ => if es = ti.size then (H.store i off (xs.take (min m len * ti.size))).map fun H' => (.int .i64 ((min m len : Nat) : Int), H') else none
      | _ => none)
    | _, _ => none
  | none => none
theorem MRels_length {φ : PMap} : ∀ {es : List (AVal × AVal)} {ents : List MapEntry}, MRels φ es ents → ents.length = es.length
  | [], ents, h => by rw [show ents = [] from h]; rfl
  | (k, v) :: es, ents, h => by obtain ⟨e, es', rfl, _, _, h3⟩ := h; simp [MRels_length h3]
/-- The length of what is no map. -/
def alenP (P : Program) (t : TypeId) (x : AVal) : Option AVal :=
  match P.underlying t, x with
  | some (.slice _), .slice _ _ n => some (.int .i64 (n : Int))
  | some (.slice _), .nilSlice => some (.int .i64 0)
  | some (.slice _), .view _ _ n => some (.int .i64 (n : Int))
  | some (.slice _), .row n _ => some (.int .i64 (n : Int))
  | some .string, .str s => some (.int .i64 (s.size : Int))
  | some (.array n _), _ => some (.int .i64 (n : Int))
  | _, _ => none
theorem pure_len {φ : PMap} {t ty : TypeId} {x v : AVal} {c : Value} (hx : VRel φ x c) (h : alenP P t x = some v) : PureTo P φ (Builtin.len_ #[t] ty #[c]) v := by
  unfold alenP at h
  split at h
  · rename_i e i off n hu
    cases h
    obtain ⟨b, cap, ad, _, rfl, _⟩ := hx
    exact ⟨.int .i64 n, fun w => by simp [Builtin.len_, run_underlying' hu, Result.andThen, goInt], rfl⟩
  · rename_i e hu
    cases h
    obtain rfl : c = .slice none 0 0 := hx
    exact ⟨.int .i64 0, fun w => by simp [Builtin.len_, run_underlying' hu, Result.andThen, goInt], rfl⟩
  · rename_i e i off n hu
    cases h
    rcases view_cases hx with ⟨rfl, rfl⟩ | hx
    · exact ⟨.int .i64 0, fun w => by simp [Builtin.len_, run_underlying' hu, Result.andThen, goInt], rfl⟩
    · obtain ⟨b, cap, ad, _, rfl, _⟩ := hx
      exact ⟨.int .i64 n, fun w => by simp [Builtin.len_, run_underlying' hu, Result.andThen, goInt], rfl⟩
  · rename_i e n cs hu
    cases h
    rw [VRel, ZRel] at hx
    rcases hx with ⟨rfl, rfl⟩ | ⟨cap, ad, rfl, _, _, _⟩
    · exact ⟨.int .i64 0, fun w => by simp [Builtin.len_, run_underlying' hu, Result.andThen, goInt], rfl⟩
    · exact ⟨.int .i64 n, fun w => by simp [Builtin.len_, run_underlying' hu, Result.andThen, goInt], rfl⟩
  · rename_i s hu
    cases h
    obtain rfl : c = .string s := hx
    exact ⟨.int .i64 s.size, fun w => by simp [Builtin.len_, run_underlying' hu, Result.andThen, goInt], rfl⟩
  · rename_i n e hu
    cases h
    exact ⟨.int .i64 n, fun w => by simp [Builtin.len_, run_underlying' hu, Result.andThen, goInt], rfl⟩
  · cases h
def alenM (P : Program) (H : AHeap) (t : TypeId) (x : AVal) : Option AVal :=
  match P.underlying t with
  | some (.map _ _) => (H.entries x).map fun es => .int .i64 (es.length : Int)
  | _ => none
def alen (P : Program) (H : AHeap) (t : TypeId) (x : AVal) : Option AVal :=
  match alenP P t x with
  | some v => some v
  | none => alenM P H t x
theorem fine_len {φ : PMap} {H : AHeap} {w : World} (hR : Rel φ H w) {t ty : TypeId} {x v : AVal} {c : Value} (hx : VRel φ x c) (h : alen P H t x = some v) : Fine P φ H w (Builtin.len_ #[t] ty #[c]) v H := by
  unfold alen at h
  split at h
  · rename_i u hu
    cases h
    exact Fine.of_pure hR (pure_len hx hu)
  · rename_i hnone
    clear hnone
    unfold alenM at h
    split at h
    · rename_i k e hu
      unfold AHeap.entries at h
      split at h
      · rename_i i
        split at h
        · rename_i es hf
          cases h
          obtain ⟨b, hb, rfl⟩ := hx
          have hB := hR.blk i b hb
          rw [hf] at hB
          obtain ⟨ents, clock, h1, h2⟩ := hB
          have hl := MRels_length h2
          rw [Array.length_toList] at hl
          have hgo : (getObj b.blk).run P w = .ok (.map ents clock) w := by simp [getObj, Sem.run, h1]
          exact Fine.pure hR (c := .int .i64 es.length) (by simp [Builtin.len_, run_underlying' hu, Result.andThen, goInt, hgo, hl]) rfl
        · cases h
      · cases h
        obtain rfl : c = .map none := hx
        exact Fine.pure hR (c := .int .i64 0) (by simp [Builtin.len_, run_underlying' hu, Result.andThen, goInt]) rfl
      · cases h
    · cases h
theorem fine_copy {φ : PMap} {H H' : AHeap} {w : World} (hR : Rel φ H w) {t tx ty : TypeId} {d x v : AVal} {cd cx : Value} (hd : VRel φ d cd) (hx : VRel φ x cx) (h : acopy P H t d x = some (v, H')) : Fine P φ H w (Builtin.copy_ #[t, tx] ty #[cd, cx]) v H' := by
  unfold acopy at h
  split at h
  · rename_i ti hT
    obtain ⟨e, hu, ht⟩ := sliceT_spec hT
    obtain ⟨inf, de, z, hi, hde, hz, hsz, hby, hag, hze⟩ := tinfo_spec ht
    split at h
    · rename_i xs m hsrc
      cases h
      obtain rfl : cd = .slice none 0 0 := hd
      obtain ⟨hxl, hlen, hfirst⟩ := src_run (P := P) hR hx hsrc
      obtain ⟨new, hnew, hnrel⟩ := hfirst 0 (Nat.zero_le _)
      refine Fine.pure hR (c := .int .i64 0) ?_ rfl
      unfold Builtin.copy_
      simp only [List.getElem?_toArray, List.getElem?_cons_zero, List.getElem?_cons_succ, Sem.run_bind, run_underlying' hu, Result.andThen, hlen, run_sizeOf' hi, hsz]
      rw [show Nat.min m 0 = 0 from Nat.min_zero m, hnew]
      rfl
    · rename_i xs m i off len hsrc
      split at h
      · rename_i es cs hf
        split at h
        · rename_i hes
          subst hes
          cases hst : H.store i off (xs.take (min m len * ti.size)) with
          | none => simp [hst] at h
          | some H2 =>
            simp only [hst, Option.map_some, Option.some.injEq, Prod.mk.injEq] at h
            obtain ⟨rfl, rfl⟩ := h
            obtain ⟨hxl, hlen, hfirst⟩ := src_run (P := P) hR hx hsrc
            obtain ⟨new, hnew, hnrel⟩ := hfirst (min m len) (Nat.min_le_left _ _)
            have hnl := VRels_length hnrel
            obtain ⟨b, cap, ad, hb, rfl, hlc, hcap⟩ := hd
            have hB := hR.blk i b hb
            rw [hf] at hB
            obtain ⟨hbes, arr, elem, h1, h2, h3, h4⟩ := hB
            -- the store
            have hxt : (xs.take (min m len * ti.size)).length = min m len * ti.size := by
              rw [List.length_take, hxl]; exact Nat.min_eq_left (Nat.mul_le_mul_right _ (Nat.min_le_left _ _))
            unfold AHeap.store at hst
            rw [hf] at hst
            simp only at hst
            split at hst
            · rename_i hcond
              obtain ⟨hle, hsc⟩ := hcond
              cases hst
              have hscv : new.toList.all scalarV = true := by
                rw [List.all_eq_true] at *
                intro c hc
                obtain ⟨j, hj⟩ := List.getElem?_of_mem hc
                have hjl : j < (xs.take (min m len * ti.size)).length := by rw [← hnl]; exact (List.getElem?_eq_some_iff.1 hj).1
                exact scalar_rel (hsc _ (List.getElem_mem hjl)) ((VRels_iff.1 hnrel).2 j _ c (List.getElem?_eq_getElem hjl) hj)
              obtain ⟨w', hrun, hs', hk, hos, htp, hout, arr', harr, hlist⟩ := run_storeCells (P := P) new.toList w arr (b.base + off) 0 h1 (by rw [hnl]; omega) hscv
              have hx2 := rel_set hR hb (by rw [hf]; trivial) (.cells ti.size (cs.take off ++ xs.take (min m len * ti.size) ++ cs.drop (off + (xs.take (min m len * ti.size)).length))) trivial hs' hk ?_ hos htp hout
              · refine ⟨.int .i64 ((min m len : Nat) : Int), w', φ, ?_, rfl, hx2.1, hx2.2⟩
                have hstore : (storeCells ad new.toList).run P w = .ok () w' := by
                  rcases Nat.eq_zero_or_pos cap with hc0 | hp
                  · have hl0 : len = 0 := by omega
                    have hn0 : new.toList = [] := by apply List.eq_nil_of_length_eq_zero; rw [hnl, hxt, hl0]; simp
                    rw [hn0] at hrun ⊢
                    simp only [storeCells, Sem.run_pure] at hrun ⊢
                    exact hrun
                  · rw [(hcap hp).1]; exact hrun
                unfold Builtin.copy_
                simp only [List.getElem?_toArray, List.getElem?_cons_zero, List.getElem?_cons_succ, Sem.run_bind, run_underlying' hu, Result.andThen, hlen, run_sizeOf' hi, hsz]
                rw [show (Builtin.firstCells ti.size (Nat.min m len) cx).run P w = .ok new w from hnew]
                simp only [Sem.run_bind, hstore, Result.andThen]
                rfl
              · refine ⟨hbes, arr', elem, harr, ?_, ?_, ?_⟩
                · have : arr'.size = arr.size := by
                    rw [← Array.length_toList, hlist]; simp [hnl]; omega
                  omega
                · simp only [List.length_append, List.length_take, List.length_drop]; simp only [List.length_take] at hle; omega
                · have hnl2 : new.size = (xs.take (min m len * ti.size)).length := by rw [← Array.length_toList, hnl]
                  have : (arr'.toList.drop b.base).take (cs.take off ++ xs.take (min m len * ti.size) ++ cs.drop (off + (xs.take (min m len * ti.size)).length)).length =
                      (((arr.toList.drop b.base).take cs.length).take off) ++ new.toList ++ (((arr.toList.drop b.base).take cs.length).drop (off + (xs.take (min m len * ti.size)).length)) := by
                    rw [hlist]
                    generalize (xs.take (min m len * ti.size)) = ys at *
                    apply List.ext_getElem?
                    intro k
                    simp only [Nat.add_zero, List.getElem?_take, List.getElem?_drop, List.getElem?_append, List.length_append, List.length_take, List.length_drop, Array.length_toList, hnl2]
                    repeat' split
                    all_goals first | rfl | omega | (congr 1; omega) | (exfalso; omega)
                  rw [this]
                  exact VRels_append (VRels_append (VRels_take h4 _) hnrel) (VRels_drop h4 _)
            · cases hst
        · cases h
      · cases h
    · cases h
  · cases h
def amm (mx : Bool) (a b : Int) : Int := if mx then (if b > a then b else a) else (if b < a then b else a)
def aminmax (mx : Bool) : List AVal → Option AVal
  | [.int k a, .int k' b] => if k = k' then some (.int k (amm mx a b)) else none
  | [.int k a, .int k' b, .int k'' c] => if k = k' ∧ k = k'' then some (.int k (amm mx (amm mx a b) c)) else none
  | _ => none
theorem pure_minmax {φ : PMap} (mx : Bool) {ts : Array TypeId} {ty : TypeId} {l : List AVal} {v : AVal} {cs : Array Value} (hx : VRels φ l cs.toList) (h : aminmax mx l = some v) :
    PureTo P φ (if mx then Builtin.max_ ts ty cs else Builtin.min_ ts ty cs) v := by
  unfold aminmax at h
  split at h
  · rename_i k a k' b
    split at h
    · rename_i hk
      subst hk
      cases h
      obtain ⟨c1, l1, he1, h1, h2⟩ := hx
      obtain ⟨c2, l2, rfl, h3, h4⟩ := h2
      obtain rfl : c1 = .int k a := h1
      obtain rfl : c2 = .int k b := h3
      obtain rfl : l2 = [] := h4
      refine ⟨.int k (amm mx a b), fun w => ?_, rfl⟩
      cases mx <;> simp [Builtin.max_, Builtin.min_, he1, Builtin.max2, Builtin.min2, amm]
    · cases h
  · rename_i k a k' b k'' c
    split at h
    · rename_i hk
      obtain ⟨rfl, rfl⟩ := hk
      cases h
      obtain ⟨c1, l1, he1, h1, h2⟩ := hx
      obtain ⟨c2, l2, rfl, h3, h4⟩ := h2
      obtain ⟨c3, l3, rfl, h5, h6⟩ := h4
      obtain rfl : c1 = .int k a := h1
      obtain rfl : c2 = .int k b := h3
      obtain rfl : c3 = .int k c := h5
      obtain rfl : l3 = [] := h6
      refine ⟨.int k (amm mx (amm mx a b) c), fun w => ?_, rfl⟩
      cases mx <;> simp [Builtin.max_, Builtin.min_, he1, Builtin.max2, Builtin.min2, amm, Result.andThen]
    · cases h
  · cases h
/-- The capacity of no slice. -/
def acapP (P : Program) (t : TypeId) (x : AVal) : Option AVal :=
  match P.underlying t, x with
  | some (.slice _), .nilSlice => some (.int .i64 0)
  | _, _ => none
theorem pure_cap {φ : PMap} {t ty : TypeId} {x v : AVal} {c : Value} (hx : VRel φ x c) (h : acapP P t x = some v) : PureTo P φ (Builtin.cap_ #[t] ty #[c]) v := by
  unfold acapP at h
  split at h
  · rename_i e hu
    cases h
    obtain rfl : c = .slice none 0 0 := hx
    exact ⟨.int .i64 0, fun w => by simp [Builtin.cap_, run_underlying' hu, Result.andThen, goInt], rfl⟩
  · cases h
end Go.Vh

/- One operation, as a function on environments and heaps; the model does just that. -/
set_option linter.unusedVariables false
set_option linter.unusedSimpArgs false
namespace Go.Vh
variable {P : Program}

def pickA (t : Bool) (x y : AVal) : AVal :=
  match x, y with
  | .bool u, .bool v => .bool (if t then u else v)
  | x, y => if t then x else y
theorem pickA_rel {φ : PMap} {t : Bool} {x y : AVal} {c d : Value} (hx : VRel φ x c) (hy : VRel φ y d) : VRel φ (pickA t x y) (if t then c else d) := by
  unfold pickA
  split
  · rename_i u v
    obtain rfl : c = .bool u := hx
    obtain rfl : d = .bool v := hy
    cases t <;> rfl
  · cases t <;> assumption
def aeqGo (P : Program) (t : TypeId) (x y : AVal) : Option Bool :=
  match P.underlying t, x, y with
  | some .bool, .bool a, .bool b => some (a == b)
  | some (.struct _), .agg l, .agg m => (match flatD P t with
    | some ds => if fitsL ds l && !P.eqGuardType P.depth t then aeqL l m else none
    | none => none)
  | some (.array _ _), .agg l, .agg m => (match flatD P t with
    | some ds => if fitsL ds l && !P.eqGuardType P.depth t then aeqL l m else none
    | none => none)
  | some (.slice _), .nilSlice, .nilSlice => some true
  | some (.slice _), .slice _ _ _, .nilSlice => some false
  | some (.slice _), .row n _, .nilSlice => if 0 < n then some false else none
  | some (.func _ _ _), .raw .nilFunc, .raw .nilFunc => some true
  | some (.func _ _ _), .func _ _ _, .raw .nilFunc => some false
  | some (.map _ _), .raw (.map none), .raw (.map none) => some true
  | some (.map _ _), .map _, .raw (.map none) => some false
  | some (.pointer _), .raw (.pointer none), .raw (.pointer none) => some true
  | some (.pointer _), .ptr _ _, .raw (.pointer none) => some false
  | _, _, _ => none
/-- Neither numbers nor strings: such a pair is compared by its type. -/
def typed : Value → Bool
  | .bool _ | .agg _ | .slice _ _ _ | .func _ _ _ | .nilFunc | .map _ | .pointer _ => true
  | _ => false
theorem eq_typed {op : BinOp} {t : TypeId} {cx cy : Value} {b : Bool} {w : World} (h : typed cx = true) (he : (Op.equal t cx cy).run P w = .ok b w) :
    (op = .eql → (binOp op t cx cy).run P w = .ok (.bool b) w) ∧ (op = .neq → (binOp op t cx cy).run P w = .ok (.bool (!b)) w) := by
  constructor
  · rintro rfl
    cases cx <;> first | (simp [typed] at h; done) | (cases cy <;> simp [binOp, he, Result.andThen])
  · rintro rfl
    cases cx <;> first | (simp [typed] at h; done) | (cases cy <;> simp [binOp, he, Result.andThen])
theorem eq10 (t : TypeId) (x y : Value) : Op.equal t x y = Op.equalIn (9999 + 1) t x y := rfl
theorem aeqGo_run {op : BinOp} {t : TypeId} {φ : PMap} {x y : AVal} {b : Bool} {cx cy : Value} {ox oy : Operand} (w : World) (hx : VRel φ x cx) (hy : VRel φ y cy) (h : aeqGo P t x y = some b) :
    (eqGuard op t ox oy cx cy).run P w = .ok () w ∧ (Op.equal t cx cy).run P w = .ok b w ∧ typed cx = true := by
  have flat : ∀ (l m : List AVal) (ds : List TypeDesc), x = .agg l → y = .agg m → flatD P t = some ds → (if fitsL ds l && !P.eqGuardType P.depth t then aeqL l m else none) = some b →
      (eqGuard op t ox oy cx cy).run P w = .ok () w ∧ (Op.equal t cx cy).run P w = .ok b w ∧ typed cx = true := by
    intro l m ds hl hm hds hv
    subst hl; subst hm
    split at hv
    · rename_i hc
      simp only [Bool.and_eq_true, Bool.not_eq_true'] at hc
      have he : (Op.equal t cx cy).run P w = .ok b w := flat_eq_run (n := 9998) w hds hc.1 hx hy hv
      obtain ⟨cs, rfl, _⟩ := hx
      obtain ⟨es, rfl, _⟩ := hy
      exact ⟨run_eqGuard_agg w op t ox oy _ _ hc.2, he, rfl⟩
    · cases hv
  unfold aeqGo at h
  split at h
  · rename_i a b' hu
    cases h
    obtain rfl : cx = .bool a := hx
    obtain rfl : cy = .bool b' := hy
    exact ⟨run_eqGuard_scalar w rfl (.inl (by simp)), by rw [eq10, Op.equalIn, Sem.run_bind, run_underlying' hu]; rfl, rfl⟩
  · rename_i fs l m hu
    split at h
    · rename_i ds hds; exact flat l m ds rfl rfl hds h
    · cases h
  · rename_i n e l m hu
    split at h
    · rename_i ds hds; exact flat l m ds rfl rfl hds h
    · cases h
  · rename_i e hu
    cases h
    obtain rfl : cx = .slice none 0 0 := hx
    obtain rfl : cy = .slice none 0 0 := hy
    exact ⟨run_eqGuard_scalar w rfl (.inl (by simp)), by rw [eq10, Op.equalIn, Sem.run_bind, run_underlying' hu]; rfl, rfl⟩
  · rename_i e i o n hu
    cases h
    obtain ⟨b, cap, ad, _, rfl, _⟩ := hx
    obtain rfl : cy = .slice none 0 0 := hy
    exact ⟨run_eqGuard_scalar w rfl (.inl (by simp)), by rw [eq10, Op.equalIn, Sem.run_bind, run_underlying' hu]; rfl, rfl⟩
  · rename_i e n cs hu
    split at h
    · rename_i hn
      cases h
      obtain ⟨cap, ad, rfl, _⟩ := row_pos hx hn
      obtain rfl : cy = .slice none 0 0 := hy
      exact ⟨run_eqGuard_scalar w rfl (.inl (by simp)), by rw [eq10, Op.equalIn, Sem.run_bind, run_underlying' hu]; rfl, rfl⟩
    · cases h
  · rename_i ps rs vr hu
    cases h
    obtain rfl : cx = .nilFunc := hx
    obtain rfl : cy = .nilFunc := hy
    exact ⟨run_eqGuard_scalar w rfl (.inl (by simp)), by rw [eq10, Op.equalIn, Sem.run_bind, run_underlying' hu]; rfl, rfl⟩
  · rename_i ps rs vr f as bs hu
    cases h
    obtain ⟨cs, ds, rfl, _⟩ := hx
    obtain rfl : cy = .nilFunc := hy
    exact ⟨run_eqGuard_scalar w rfl (.inl (by simp)), by rw [eq10, Op.equalIn, Sem.run_bind, run_underlying' hu]; rfl, rfl⟩
  · rename_i k e hu
    cases h
    obtain rfl : cx = .map none := hx
    obtain rfl : cy = .map none := hy
    exact ⟨run_eqGuard_scalar w rfl (.inl (by simp)), by rw [eq10, Op.equalIn, Sem.run_bind, run_underlying' hu]; rfl, rfl⟩
  · rename_i k e i hu
    cases h
    obtain ⟨b, _, rfl⟩ := hx
    obtain rfl : cy = .map none := hy
    exact ⟨run_eqGuard_scalar w rfl (.inl (by simp)), by rw [eq10, Op.equalIn, Sem.run_bind, run_underlying' hu]; rfl, rfl⟩
  · rename_i e hu
    cases h
    obtain rfl : cx = .pointer none := hx
    obtain rfl : cy = .pointer none := hy
    exact ⟨run_eqGuard_scalar w rfl (.inl (by simp)), by rw [eq10, Op.equalIn, Sem.run_bind, run_underlying' hu]; rfl, rfl⟩
  · rename_i e i o hu
    cases h
    obtain ⟨b, _, rfl⟩ := hx
    obtain rfl : cy = .pointer none := hy
    exact ⟨run_eqGuard_scalar w rfl (.inl (by simp)), by rw [eq10, Op.equalIn, Sem.run_bind, run_underlying' hu]; rfl, rfl⟩
  · cases h
def aeqBin (P : Program) (op : BinOp) (t : TypeId) (x y : AVal) : Option AVal :=
  match op with
  | .eql => (aeqGo P t x y).map .bool
  | .neq => (aeqGo P t x y).map fun b => .bool (!b)
  | _ => none
theorem aeqBin_run {op : BinOp} {t : TypeId} {φ : PMap} {x y v : AVal} {cx cy : Value} {ox oy : Operand} (hx : VRel φ x cx) (hy : VRel φ y cy) (h : aeqBin P op t x y = some v) :
    PureTo P φ (do eqGuard op t ox oy cx cy; binOp op t cx cy : Sem Value) v := by
  cases hb : aeqGo P t x y with
  | none => cases op <;> simp [aeqBin, hb] at h
  | some b =>
    have h0 := fun w => aeqGo_run (op := op) (ox := ox) (oy := oy) w hx hy hb
    have h4 := fun w => eq_typed (op := op) (h0 w).2.2 (h0 w).2.1
    cases op <;> simp only [aeqBin, hb, Option.map_some, Option.some.injEq, reduceCtorEq] at h
    case eql => subst h; exact ⟨.bool b, fun w => by rw [Sem.run_bind, (h0 w).1]; exact (h4 w).1 rfl, rfl⟩
    case neq => subst h; exact ⟨.bool (!b), fun w => by rw [Sem.run_bind, (h0 w).1]; exact (h4 w).2 rfl, rfl⟩

def aconv (P : Program) (src dst : TypeId) (x : AVal) : Option AVal :=
  match P.underlying src, P.underlying dst, x with
  | some _, some (.int k), .int _ n => some (.int k (k.wrap n))
  | _, _, _ => none
def apureB (P : Program) (b : Builtin) (ts : List TypeId) (l : List AVal) : Option AVal :=
  match b, ts, l with
  | .len, [t], [x] => alenP P t x
  | .cap, [t], [x] => acapP P t x
  | .min, _, l => aminmax false l
  | .max, _, l => aminmax true l
  | _, _, _ => none
def amemB (P : Program) (b : Builtin) (ts : List TypeId) (l : List AVal) (H : AHeap) : Option (AVal × AHeap) :=
  match b, ts, l with
  | .len, [t], [x] => (alenM P H t x).map (·, H)
  | .append, [t, tx], [s, x] => aappend2 P H t tx s x
  | .copy, [t, _], [d, x] => acopy P H t d x
  | _, _, _ => none
/-! ### Interfaces that hold plain values -/
def concS : AVal → Option Value
  | .int k n => some (.int k n)
  | .bool b => some (.bool b)
  | .str s => some (.string s)
  | _ => none
def concL : List AVal → Option (List Value)
  | [] => some []
  | v :: l => match concS v with
    | some c => match concL l with
      | some cs => some (c :: cs)
      | none => none
    | none => none
def concA : AVal → Option Value
  | .agg l => match concL l with
    | some cs => some (.agg cs.toArray)
    | none => none
  | v => concS v
theorem concS_rel {φ : PMap} {v : AVal} {c d : Value} (h : concS v = some c) (hv : VRel φ v d) : d = c := by
  cases v <;> simp only [concS, Option.some.injEq, reduceCtorEq] at h <;> subst h <;> exact hv
theorem concL_rel {φ : PMap} : ∀ {l : List AVal} {cs ds : List Value}, concL l = some cs → VRels φ l ds → ds = cs
  | [], cs, ds, h, hv => by cases h; exact VRels_nil.1 hv
  | v :: l, cs, ds, h, hv => by
    simp only [concL] at h
    split at h
    · rename_i c hc
      split at h
      · rename_i cs' hcs
        cases h
        obtain ⟨d, ds', rfl, h1, h2⟩ := hv
        rw [concS_rel hc h1, concL_rel hcs h2]
      · cases h
    · cases h
theorem concA_rel {φ : PMap} {v : AVal} {c d : Value} (h : concA v = some c) (hv : VRel φ v d) : d = c := by
  unfold concA at h
  split at h
  · split at h
    · rename_i cs hcs
      cases h
      obtain ⟨ds, rfl, h1⟩ := hv
      rw [concL_rel hcs h1]
    · cases h
  · exact concS_rel h hv
def plainT (P : Program) (t : TypeId) : Bool := match P.underlying t with
  | some (.interface _) => false
  | some _ => true
  | none => false
def ifaceA (P : Program) (t : TypeId) (x : AVal) : Option AVal := match plainT P t with
  | true => match concA x with
    | some c => some (.raw (.iface t c))
    | none => none
  | false => none
def assertA (P : Program) (x : AVal) (want : TypeId) : Option AVal := match x with
  | .raw (.iface t c) => match plainT P want with
    | true => match Nat.beq t want with
      | true => some (.tuple [absC c, .bool true])
      | false => match tinfo P want with
        | some _ => some (.tuple [.undef, .bool false])
        | none => none
    | false => none
  | _ => none
theorem iface_run {φ : PMap} {t : TypeId} {x v : AVal} {c : Value} (hx : VRel φ x c) (h : ifaceA P t x = some v) : PureTo P φ (Instr.makeInterface t c) v := by
  unfold ifaceA at h
  split at h
  · rename_i hp
    split at h
    · rename_i d hd
      cases h
      have := concA_rel hd hx
      subst this
      refine ⟨.iface t c, fun w => ?_, rfl⟩
      unfold plainT at hp
      cases hu : P.underlying t with
      | none => rw [hu] at hp; cases hp
      | some u =>
        rw [hu] at hp
        cases u <;> first | (cases hp; done) | (simp [Instr.makeInterface, run_underlying' hu, Result.andThen])
    · cases h
  · cases h
theorem assert_run {φ : PMap} {t want : TypeId} {x v : AVal} {c : Value} (hx : VRel φ x c) (h : assertA P x want = some v) : PureTo P φ (Instr.typeAssert c t want true) v := by
  unfold assertA at h
  split at h
  · rename_i t' d
    have hx : c = .iface t' d := hx
    subst hx
    split at h
    · rename_i hp
      unfold plainT at hp
      cases hu : P.underlying want with
      | none => rw [hu] at hp; cases hp
      | some u =>
        rw [hu] at hp
        split at h
        · rename_i hb
          have hb : t' = want := Nat.eq_of_beq_eq_true hb
          subst hb
          cases h
          refine ⟨.tuple #[d, .bool true], fun w => ?_, ⟨[d, .bool true], rfl, VRels_cons.2 ⟨absC_rel φ d, VRels_cons.2 ⟨rfl, rfl⟩⟩⟩⟩
          cases u <;> first | (cases hp; done) | (simp [Instr.typeAssert, run_underlying' hu, Result.andThen])
        · rename_i hb
          have hb : ¬ t' = want := fun he => by rw [he, Nat.beq_refl] at hb; cases hb
          split at h
          · rename_i ti hti
            cases h
            obtain ⟨i, u', z, hi, _, hz, _⟩ := tinfo_spec hti
            refine ⟨.tuple #[z, .bool false], fun w => ?_, ⟨[z, .bool false], rfl, VRels_cons.2 ⟨trivial, VRels_cons.2 ⟨rfl, rfl⟩⟩⟩⟩
            cases u <;> first | (cases hp; done) | (simp [Instr.typeAssert, run_underlying' hu, Result.andThen, hb, run_zeroValue' hi hz])
          · cases h
    · cases h
  · cases h
/-- Operations that look at no memory and change none (the heap tells the size of a row's elements alone). -/
def apure (P : Program) (op : Op) (e : Env) (H : AHeap) : Option AVal :=
  match op with
  | .move x | .assign x => some (evalA e x)
  | .pick c a b => match evalA e c with
    | .bool t => some (pickA t (evalA e a) (evalA e b))
    | _ => none
  | .build t ps => abuild P t (ps.toList.map fun p => (p.1, evalA e p.2))
  | .nilCheck x => match evalA e x with
    | .ptr i o => some (.ptr i o)
    | .func f as bs => some (.func f as bs)
    | .yield i => some (.yield i)
    | .rptr cs o => some (.rptr cs o)
    | _ => none
  | .binOp op t x y _ => match aeqBin P op t (evalA e x) (evalA e y) with
    | some v => some v
    | none => abin op (evalA e x) (evalA e y)
  | .unOp op _ x => aun op (evalA e x)
  | .convert s d x => aconv P s d (evalA e x)
  | .makeFunc (.func f) as bs => some (.func f (as.toList.map (evalA e)) (bs.toList.map (evalA e)))
  | .slice t x lo hi none => asliceV P H t (evalA e x) (lo.map (evalA e)) (hi.map (evalA e))
  | .fieldAddr s x f => match evalA e x, fieldOff P s f with
    | .ptr i o, some k => some (.ptr i (o + k))
    | .rptr cs o, some k => some (.rptr cs (o + k))
    | _, _ => none
  | .field s x f => afield P s (evalA e x) f
  | .indexAddr t x ix => match P.underlying t, evalA e x with
    | some (.slice _), .slice i o n => aindexAddr P t (.slice i o n) (evalA e ix)
    | some (.slice _), .view i o n => aindexAddr P t (.slice i o n) (evalA e ix)
    | some (.slice _), .row n cs => rindexA P t n cs (evalA e ix)
    | some (.array _ _), .ptr i o => aindexAddr P t (.ptr i o) (evalA e ix)
    | _, _ => none
  | .index t x ix => aindex P t (evalA e x) (evalA e ix)
  | .extract x i => match evalA e x with
    | .tuple l => l[i]?
    | _ => none
  | .call ⟨.builtin b, args, ts⟩ => apureB P b ts.toList (args.toList.map (evalA e))
  | .makeInterface t x => ifaceA P t (evalA e x)
  | .typeAssert x _ want true => assertA P (evalA e x) want
  | _ => none

/-- The others. -/
def amem (P : Program) (op : Op) (e : Env) (H : AHeap) : Option (AVal × AHeap) :=
  match op with
  | .alloc t => aalloc P H t
  | .box _ x => abox H (evalA e x)
  | .buildSlice t n ps => abuildSlice P H t n (ps.toList.map fun p => (p.1, evalA e p.2))
  | .load t x => match evalA e x, tinfo P t with
    | .ptr i o, some ti => (H.load ti i o).map (·, H)
    | .rptr cs o, some ti => (rload ti cs o).map (·, H)
    | _, _ => none
  | .store t x y => match evalA e x, (evalA e y).cells, tinfo P t with
    | .ptr i o, some l, some ti => if l.length = ti.size then (H.store i o l).map (.undef, ·) else none
    | _, _, _ => none
  | .makeMap _ none => some (.map H.n, H.alloc (.map []))
  | .makeSlice t l c => amakeSlice P H t (evalA e l) (evalA e c)
  | .lookup t x k ok => (alookup P H t (evalA e x) (evalA e k) ok).map (·, H)
  | .mapUpdate t m k v | .insert t m k v => (H.mapPut P t (evalA e m) (evalA e k) (evalA e v)).map (.undef, ·)
  | .call ⟨.builtin b, args, ts⟩ => amemB P b ts.toList (args.toList.map (evalA e)) H
  | .convert s d x => (aconvS P H s d (evalA e x)).map (·, H)
  | _ => none
def astep (P : Program) (op : Op) (e : Env) (H : AHeap) : Option (AVal × AHeap) :=
  match apure P op e H with
  | some v => some (v, H)
  | none => amem P op e H

def StepOk (P : Program) (φ : PMap) (H : AHeap) (w : World) (a : Act) (o : Oper) (v : AVal) (H' : AHeap) : Prop :=
  ∃ r c w' φ', (execOp a.eval o).run P w = .ok r w' ∧ (r = .value c ∨ (r = .skip ∧ c = Go.undef)) ∧ VRel φ' v c ∧ Rel φ' H' w' ∧ Ext φ H w φ' H' w'
theorem StepOk.of_fine {φ : PMap} {H H' : AHeap} {w : World} {a : Act} {o : Oper} {v : AVal} {s : Sem Value} (h : Fine P φ H w s v H') (he : execOp a.eval o = (do pure (.value (← s)))) : StepOk P φ H w a o v H' := by
  obtain ⟨c, w', φ', hr, h1, h2, h3⟩ := h
  exact ⟨.value c, c, w', φ', by rw [he]; simp [Sem.run_bind, hr, Result.andThen], .inl rfl, h1, h2, h3⟩
theorem StepOk.of_value {φ : PMap} {H : AHeap} {w : World} {a : Act} {o : Oper} {v : AVal} {c : Value} (hR : Rel φ H w) (h : (execOp a.eval o).run P w = .ok (.value c) w) (hv : VRel φ v c) : StepOk P φ H w a o v H :=
  ⟨.value c, c, w, φ, h, .inl rfl, hv, hR, Ext.refl _ _ _⟩
theorem StepOk.of_unit {φ : PMap} {H H' : AHeap} {w : World} {a : Act} {o : Oper} {s : Sem Unit} (h : ∃ w', s.run P w = .ok () w' ∧ Rel φ H' w' ∧ Ext φ H w φ H' w') (he : execOp a.eval o = (do s; pure .skip)) : StepOk P φ H w a o .undef H' := by
  obtain ⟨w', hr, h2, h3⟩ := h
  exact ⟨.skip, Go.undef, w', φ, by rw [he]; simp [Sem.run_bind, hr, Result.andThen], .inr ⟨rfl, rfl⟩, trivial, h2, h3⟩
theorem evals_rel {φ : PMap} {N : Nat} {e : Env} {a : Act} (h : ERel φ N e a.tmps) : ∀ l : List Operand, VRels φ (l.map (evalA e)) (l.map a.eval)
  | [] => by simp [VRels]
  | x :: l => VRels_cons.2 ⟨evalA_rel h x, evals_rel h l⟩
theorem parts_rel {φ : PMap} {N : Nat} {e : Env} {a : Act} (h : ERel φ N e a.tmps) : ∀ l : List (Nat × Operand), VRels φ ((l.map fun p => (p.1, evalA e p.2)).map (·.2)) ((l.map fun p => (p.1, a.eval p.2)).map (·.2))
  | [] => by simp [VRels]
  | x :: l => VRels_cons.2 ⟨evalA_rel h x.2, parts_rel h l⟩
end Go.Vh
