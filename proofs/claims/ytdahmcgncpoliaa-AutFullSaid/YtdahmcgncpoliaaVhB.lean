/- How the world and the abstract heap change together: a new block, a block written, a block handed on. -/
import Derived.Test.YtdahmcgncpoliaaVhA
set_option linter.unusedVariables false
set_option linter.unusedSimpArgs false
namespace Go.Vh
variable {P : Program}

theorem ABlk.rw.live {x : ABlk} (h : x.rw) : x.live := by cases x <;> simp_all [ABlk.rw, ABlk.live]

theorem BRel.kept {φ ψ : PMap} {w w' : World} {b : BI} {x : ABlk} (h : BRel φ w b x) (hle : PLe φ ψ) (hw : x.live → w'.heap[b.blk]? = w.heap[b.blk]?) : BRel ψ w' b x := by
  cases x with
  | dead => trivial
  | cells es cs =>
    obtain ⟨he, arr, elem, h1, h2, h3, h4⟩ := h
    exact ⟨he, arr, elem, (hw trivial).trans h1, h2, h3, VRels_mono hle _ _ h4⟩
  | ro es cs =>
    refine ⟨h.1, fun j v hv => ?_⟩
    obtain ⟨c, hc, hr⟩ := h.2 j v hv
    refine ⟨c, ?_, VRel_mono hle _ _ hr⟩
    unfold World.cell? at *
    rw [hw (by intro he; subst he; simp at hv)]; exact hc
  | map es =>
    obtain ⟨ents, clock, h1, h2⟩ := h
    exact ⟨ents, clock, (hw trivial).trans h1, MRels_mono hle h2⟩
  | loop r =>
    obtain ⟨l, h1, h2, h3, h4, h5⟩ := h
    exact ⟨l, (hw trivial).trans h1, h2, h3, h4.mono hle, h5⟩

theorem Rel.lt_live {φ : PMap} {H : AHeap} {w : World} (hR : Rel φ H w) {i : Nat} {b : BI} (hb : φ i = some b) (hl : (H.f i).live) : b.blk < w.heap.size := by
  have h := hR.blk i b hb
  cases hf : H.f i with
  | dead => rw [hf] at hl; exact hl.elim
  | cells es cs => exact hR.lt i b hb (by rw [hf]; trivial)
  | map es => exact hR.lt i b hb (by rw [hf]; trivial)
  | loop r => exact hR.lt i b hb (by rw [hf]; trivial)
  | ro es cs =>
    rw [hf] at h hl
    cases cs with
    | nil => exact absurd rfl hl
    | cons v cs =>
      obtain ⟨c, hc, _⟩ := h.2 0 v rfl
      unfold World.cell? at hc
      cases hh : w.heap[b.blk]? with
      | none => rw [hh] at hc; simp at hc
      | some o => exact (Array.getElem?_eq_some_iff.1 hh).1

def PMap.ext (φ : PMap) (n : Nat) (b : BI) : PMap := fun i => if i = n then some b else φ i
theorem PMap.ext_le {φ : PMap} {n : Nat} (h : φ n = none) (b : BI) : PLe φ (φ.ext n b) := by
  intro i c hc
  unfold PMap.ext
  split
  · rename_i he; subst he; rw [h] at hc; cases hc
  · exact hc
theorem PMap.ext_same (φ : PMap) (n : Nat) (b : BI) : φ.ext n b n = some b := by simp [PMap.ext]
theorem PMap.ext_ne (φ : PMap) {n i : Nat} (b : BI) (h : i ≠ n) : φ.ext n b i = φ i := by simp [PMap.ext, h]

/-- The general step: number n is new or stands for block g; the blocks of all others are as they were; a number may have died. -/
theorem rel_step {φ : PMap} {H H' : AHeap} {w w' : World} (hR : Rel φ H w) (bi : BI) (x : ABlk) (hx : x.rw)
    (hn : H'.n = H.n + 1) (hf : H'.f H.n = x) (hold' : ∀ i, i ≠ H.n → (H'.f i = H.f i ∧ H'.ver i = H.ver i) ∨ (H'.f i = .dead ∧ H.ver i < H'.ver i)) (hvn : H.ver H.n ≤ H'.ver H.n)
    (hsz : w.heap.size ≤ w'.heap.size) (hlt : bi.blk < w'.heap.size) (hk : ∀ k, k < w.heap.size → k ≠ bi.blk → w'.heap[k]? = w.heap[k]?)
    (hne : ∀ i b, i ≠ H.n → φ i = some b → (H'.f i).live → b.blk ≠ bi.blk)
    (hown : w.heap.size ≤ bi.blk ∨ Own φ H bi.blk)
    (hb : BRel (φ.ext H.n bi) w' bi x) (ho : w'.os = w.os) (ht : w'.tape = w.tape) (hout : w'.output = w.output) :
    Rel (φ.ext H.n bi) H' w' ∧ Ext φ H w (φ.ext H.n bi) H' w' := by
  have hold : ∀ i, i ≠ H.n → H'.f i = H.f i ∨ H'.f i = .dead := fun i hi => (hold' i hi).imp (·.1) (·.1)
  have hnone := hR.dom H.n (Nat.le_refl _)
  have hle := PMap.ext_le hnone bi
  have old : ∀ i b, i ≠ H.n → (φ.ext H.n bi) i = some b → φ i = some b := fun i b hi h => by rwa [PMap.ext_ne _ _ hi] at h
  have self : ∀ b, (φ.ext H.n bi) H.n = some b → b = bi := fun b h => by rw [PMap.ext_same] at h; exact (Option.some.inj h).symm
  have liveOld : ∀ i, i ≠ H.n → (H'.f i).live → H'.f i = H.f i := fun i hi hl => by
    rcases hold i hi with h | h
    · exact h
    · rw [h] at hl; exact hl.elim
  have rwOld : ∀ i, i ≠ H.n → (H'.f i).rw → H'.f i = H.f i := fun i hi hl => liveOld i hi hl.live
  constructor
  · constructor
    · intro i hi; rw [PMap.ext_ne _ _ (by omega)]; exact hR.dom i (by omega)
    · intro i hi
      by_cases h : i = H.n
      · exact ⟨bi, by rw [h]; exact PMap.ext_same _ _ _⟩
      · rw [PMap.ext_ne _ _ h]; exact hR.has i (by omega)
    · intro i b hi
      by_cases h : i = H.n
      · subst h; rw [self b hi, hf]; exact hb
      · have hi' := old i b h hi
        rcases hold i h with he | he
        · rw [he]
          refine (hR.blk i b hi').kept hle fun hl => ?_
          exact hk _ (hR.lt_live hi' hl) (hne i b h hi' (by rw [he]; exact hl))
        · rw [he]; trivial
    · intro i j b c hi hj hij hrw hlv
      by_cases h1 : i = H.n
      · subst h1
        rw [self b hi]
        exact (hne j c (Ne.symm hij) (old j c (Ne.symm hij) hj) hlv).symm
      · have hi' := old i b h1 hi
        by_cases h2 : j = H.n
        · subst h2
          rw [self c hj]
          exact hne i b h1 hi' hrw.live
        · have hj' := old j c h2 hj
          exact hR.inj i j b c hi' hj' hij (by rw [← rwOld i h1 hrw]; exact hrw) (by rw [← liveOld j h2 hlv]; exact hlv)
    · intro i b hi hrw
      by_cases h : i = H.n
      · subst h; rw [self b hi]; exact hlt
      · exact Nat.lt_of_lt_of_le (hR.lt i b (old i b h hi) (by rw [← rwOld i h hrw]; exact hrw)) hsz
  · refine ⟨hle, hsz, fun k hkl hno => ?_, fun k hkk => ?_, ho, ht, hout, by omega, fun i => ?_, fun i b hb' hl hv => ?_⟩
    · refine hk k hkl fun he => ?_
      subst he
      rcases hown with h | h
      · omega
      · exact hno h
    · obtain ⟨i, b, hi, hrw, rfl⟩ := hkk
      by_cases h : i = H.n
      · subst h; rw [self b hi]; exact hown.symm
      · exact .inl ⟨i, b, old i b h hi, by rw [← rwOld i h hrw]; exact hrw, rfl⟩
    · by_cases h : i = H.n
      · subst h; exact fun _ _ => hvn
      · rcases hold' i h with ⟨_, h1⟩ | ⟨_, h1⟩ <;> omega
    · have h : i ≠ H.n := fun h => by subst h; rw [hnone] at hb'; cases hb'
      rcases hold' i h with ⟨h1, _⟩ | ⟨_, h1⟩
      · exact ⟨by rw [h1]; exact hl, hk _ (hR.lt_live hb' hl) (hne i b h hb' (by rw [h1]; exact hl))⟩
      · omega

/-- A new block of the world's, under a new number. -/
theorem rel_new {φ : PMap} {H : AHeap} {w : World} (hR : Rel φ H w) (o : Obj) (x : ABlk) (hx : x.rw) (es sz : Nat)
    (hb : BRel (φ.ext H.n ⟨w.heap.size, 0, es, sz⟩) { w with heap := w.heap.push o } ⟨w.heap.size, 0, es, sz⟩ x) :
    Rel (φ.ext H.n ⟨w.heap.size, 0, es, sz⟩) (H.alloc x) { w with heap := w.heap.push o } ∧
    Ext φ H w (φ.ext H.n ⟨w.heap.size, 0, es, sz⟩) (H.alloc x) { w with heap := w.heap.push o } := by
  refine rel_step hR _ x hx rfl (by simp [alloc_f]) (fun i hi => .inl ⟨by simp [alloc_f, hi], rfl⟩) (Nat.le_refl _) (by simp) (by simp) (fun k hk _ => ?_) (fun i b hi hb hl => ?_) (.inl (Nat.le_refl _)) hb rfl rfl rfl
  · simp [Array.getElem?_push, Nat.ne_of_lt hk]
  · rw [alloc_f, if_neg hi] at hl
    have := hR.lt_live hb hl
    simp only; omega

/-- A block of the code's own is written: number i now says x'. -/
theorem rel_set {φ : PMap} {H : AHeap} {w w' : World} (hR : Rel φ H w) {i : Nat} {bi : BI} (hi : φ i = some bi) (hrw : (H.f i).rw) (x' : ABlk) (hx : x'.rw)
    (hsz : w'.heap.size = w.heap.size) (hk : ∀ k, k ≠ bi.blk → w'.heap[k]? = w.heap[k]?) (hb : BRel φ w' bi x') (ho : w'.os = w.os) (ht : w'.tape = w.tape) (hout : w'.output = w.output) :
    Rel φ (H.set i x') w' ∧ Ext φ H w φ (H.set i x') w' := by
  constructor
  · constructor
    · exact hR.dom
    · exact hR.has
    · intro j b hj
      by_cases h : j = i
      · subst h
        rw [hi] at hj; cases hj
        simp only [set_f, if_true]; exact hb
      · simp only [set_f, if_neg h]
        refine (hR.blk j b hj).kept (PLe.refl φ) fun hl => hk _ ?_
        exact (hR.inj i j bi b hi hj (Ne.symm h) hrw hl).symm
    · intro j l b c hj hl hjl hjrw hllv
      have e1 : (H.f j).rw := by
        rw [set_f] at hjrw
        split at hjrw
        · rename_i h; subst h; exact hrw
        · exact hjrw
      have e2 : (H.f l).live := by
        rw [set_f] at hllv
        split at hllv
        · rename_i h; subst h; exact hrw.live
        · exact hllv
      exact hR.inj j l b c hj hl hjl e1 e2
    · intro j b hj hjrw
      have e1 : (H.f j).rw := by
        rw [set_f] at hjrw
        split at hjrw
        · rename_i h; subst h; exact hrw
        · exact hjrw
      rw [hsz]; exact hR.lt j b hj e1
  · refine ⟨PLe.refl φ, by omega, fun k hkl hno => hk k fun he => hno ⟨i, bi, hi, hrw, he.symm⟩, fun k hkk => .inl ?_, ho, ht, hout, Nat.le_refl _, fun j => ?_, fun j b hj hl hv => ?_⟩
    · obtain ⟨j, b, hj, hjrw, rfl⟩ := hkk
      refine ⟨j, b, hj, ?_, rfl⟩
      rw [set_f] at hjrw
      split at hjrw
      · rename_i h; subst h; exact hrw
      · exact hjrw
    · rw [set_ver]; split <;> omega
    · rw [set_ver] at hv
      split at hv
      · omega
      · rename_i h
        rw [set_f, if_neg h]
        exact ⟨hl, hk _ (hR.inj i j bi b hi hj (Ne.symm h) hrw hl).symm⟩

/-- Number i dies; its block goes on under a new number. -/
theorem rel_move {φ : PMap} {H : AHeap} {w w' : World} (hR : Rel φ H w) {i : Nat} {bi bj : BI} (hi : φ i = some bi) (hrw : (H.f i).rw) (hblk : bj.blk = bi.blk) (x' : ABlk) (hx : x'.rw)
    (hsz : w'.heap.size = w.heap.size) (hk : ∀ k, k ≠ bi.blk → w'.heap[k]? = w.heap[k]?) (hb : BRel (φ.ext H.n bj) w' bj x') (ho : w'.os = w.os) (ht : w'.tape = w.tape) (hout : w'.output = w.output) :
    Rel (φ.ext H.n bj) ((H.set i .dead).alloc x') w' ∧ Ext φ H w (φ.ext H.n bj) ((H.set i .dead).alloc x') w' := by
  have hin : i ≠ H.n := fun h => by have := hR.dom i (by omega); rw [this] at hi; cases hi
  refine rel_step hR bj x' hx (by simp [alloc_n, set_n]) (by simp [alloc_f, set_n]) (fun j hj => ?_) (by rw [alloc_ver, set_ver]; split <;> omega) (by omega) ?_ (fun k _ hne => hk k (by rw [← hblk]; exact hne)) (fun j b hj hb' hl => ?_) (.inr ⟨i, bi, hi, hrw, hblk.symm⟩) hb ho ht hout
  · rw [alloc_f, set_n, if_neg hj, set_f, alloc_ver, set_ver]
    split
    · exact .inr ⟨rfl, Nat.lt_succ_self _⟩
    · exact .inl ⟨rfl, rfl⟩
  · rw [hblk, hsz]; exact hR.lt i bi hi hrw
  · rw [alloc_f, set_n, if_neg hj, set_f] at hl
    split at hl
    · exact hl.elim
    · rename_i hji
      rw [hblk]
      exact (hR.inj i j bi b hi hb' (Ne.symm hji) hrw hl).symm

/-- Number i dies: nothing else changes. -/
theorem rel_kill {φ : PMap} {H : AHeap} {w : World} (hR : Rel φ H w) (i : Nat) : Rel φ (H.set i .dead) w ∧ Ext φ H w φ (H.set i .dead) w := by
  have lv : ∀ j, ((H.set i .dead).f j).live → (H.f j).live := fun j h => by
    rw [set_f] at h
    split at h
    · exact h.elim
    · exact h
  have rw' : ∀ j, ((H.set i .dead).f j).rw → (H.f j).rw := fun j h => by
    rw [set_f] at h
    split at h
    · exact h.elim
    · exact h
  refine ⟨⟨hR.dom, hR.has, fun j b hj => ?_, fun j l b c hj hl hjl h1 h2 => hR.inj j l b c hj hl hjl (rw' _ h1) (lv _ h2), fun j b hj h1 => hR.lt j b hj (rw' _ h1)⟩, ⟨PLe.refl φ, Nat.le_refl _, fun _ _ _ => rfl, fun k hk => ?_, rfl, rfl, rfl, Nat.le_refl _, fun j => ?_, fun j b hj hl hv => ?_⟩⟩
  · rw [set_f]
    split
    · trivial
    · exact hR.blk j b hj
  · obtain ⟨j, b, hj, h1, rfl⟩ := hk
    exact .inl ⟨j, b, hj, rw' _ h1, rfl⟩
  · rw [set_ver]; split <;> omega
  · rw [set_ver] at hv
    split at hv
    · omega
    · rename_i h
      rw [set_f, if_neg h]; exact ⟨hl, rfl⟩

/-- Numbers beyond n are forgotten, if those before it are as they were in H. -/
def PMap.cut (φ : PMap) (n : Nat) : PMap := fun i => if i < n then φ i else none

mutual
theorem VRel_back {φ ψ : PMap} (h : PLe φ ψ) : ∀ (v : AVal) (c c' : Value), VRel φ v c' → VRel ψ v c → VRel φ v c
  | .undef, _, _, _, _ => by simp [VRel]
  | .raw _, _, _, _, hv => by simpa [VRel] using hv
  | .int _ _, _, _, _, hv => by simpa [VRel] using hv
  | .bool _, _, _, _, hv => by simpa [VRel] using hv
  | .str _, _, _, _, hv => by simpa [VRel] using hv
  | .ptr i off, _, _, h0, hv => by
    simp only [VRel] at *
    obtain ⟨b, hb, rfl⟩ := hv
    obtain ⟨b', hb', _⟩ := h0
    have := h _ _ hb'; rw [hb] at this; cases this
    exact ⟨b, hb', rfl⟩
  | .slice i off len, _, _, h0, hv => by
    simp only [VRel] at *
    obtain ⟨b, cap, ad, hb, hr⟩ := hv
    obtain ⟨b', _, _, hb', _⟩ := h0
    have := h _ _ hb'; rw [hb] at this; cases this
    exact ⟨b, cap, ad, hb', hr⟩
  | .nilSlice, _, _, _, hv => by simpa [VRel] using hv
  | .view i off len, _, _, h0, hv => by
    simp only [VRel] at *
    obtain ⟨b, hb, hr⟩ := hv
    obtain ⟨b', hb', _⟩ := h0
    have := h _ _ hb'; rw [hb] at this; cases this
    exact ⟨b, hb', hr⟩
  | .map i, _, _, h0, hv => by
    simp only [VRel] at *
    obtain ⟨b, hb, rfl⟩ := hv
    obtain ⟨b', hb', _⟩ := h0
    have := h _ _ hb'; rw [hb] at this; cases this
    exact ⟨b, hb', rfl⟩
  | .func f as bs, _, _, h0, hv => by
    simp only [VRel] at *
    obtain ⟨cs, ds, rfl, h1, h2⟩ := hv
    obtain ⟨cs', ds', _, h1', h2'⟩ := h0
    exact ⟨cs, ds, rfl, VRels_back h as cs cs' h1' h1, VRels_back h bs ds ds' h2' h2⟩
  | .yield i, _, _, h0, hv => by
    simp only [VRel] at *
    obtain ⟨b, hb, rfl⟩ := hv
    obtain ⟨b', hb', _⟩ := h0
    have := h _ _ hb'; rw [hb] at this; cases this
    exact ⟨b, hb', rfl⟩
  | .agg as, _, _, h0, hv => by
    simp only [VRel] at *
    obtain ⟨cs, rfl, h1⟩ := hv
    obtain ⟨cs', _, h1'⟩ := h0
    exact ⟨cs, rfl, VRels_back h as cs cs' h1' h1⟩
  | .tuple as, _, _, h0, hv => by
    simp only [VRel] at *
    obtain ⟨cs, rfl, h1⟩ := hv
    obtain ⟨cs', _, h1'⟩ := h0
    exact ⟨cs, rfl, VRels_back h as cs cs' h1' h1⟩
theorem VRels_back {φ ψ : PMap} (h : PLe φ ψ) : ∀ (vs : List AVal) (cs cs' : List Value), VRels φ vs cs' → VRels ψ vs cs → VRels φ vs cs
  | [], cs, _, _, hv => by simpa [VRels] using hv
  | v :: vs, [], _, _, hv => by simp [VRels] at hv
  | v :: vs, c :: cs, [], h0, _ => by simp [VRels] at h0
  | v :: vs, c :: cs, c' :: cs', h0, hv => VRels_cons.2 ⟨VRel_back h v c c' (VRels_cons.1 h0).1 (VRels_cons.1 hv).1, VRels_back h vs cs cs' (VRels_cons.1 h0).2 (VRels_cons.1 hv).2⟩
end
end Go.Vh
