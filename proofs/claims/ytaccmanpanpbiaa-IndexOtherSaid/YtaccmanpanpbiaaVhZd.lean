import Derived.Test.YtaccmanpanpbiaaVhZc
/- What was shown over a small heap holds at every heap that has its blocks: the blocks that are written too. -/
set_option linter.unusedVariables false
set_option linter.unusedSimpArgs false
namespace Go.Vh
variable {P : Program}
/-- The numbers that a call's own numbers get. -/
def fk (ks : List Nat) (m : Nat) (i : Nat) : Nat := (ks[i]?).getD (m + (i - ks.length))
def posOf : List Nat → Nat → Nat → Option Nat
  | [], _, _ => none
  | k :: ks, i, j => match Nat.beq k j with
    | true => some i
    | false => posOf ks (i + 1) j
def ABlk.rwB : ABlk → Bool
  | .cells _ _ | .map _ | .loop _ => true
  | _ => false
theorem rwB_iff {b : ABlk} : b.rwB = true ↔ b.rw := by cases b <;> simp [ABlk.rwB, ABlk.rw]
theorem posOf_some : ∀ (ks : List Nat) (a i j : Nat), posOf ks a j = some i → ∃ k, i = a + k ∧ ks[k]? = some j
  | [], a, i, j, h => by cases h
  | k :: ks, a, i, j, h => by
    unfold posOf at h
    split at h
    · rename_i hk
      cases h
      exact ⟨0, rfl, by rw [Nat.eq_of_beq_eq_true hk]; rfl⟩
    · obtain ⟨k', rfl, h2⟩ := posOf_some ks _ _ _ h
      exact ⟨k' + 1, by omega, h2⟩
theorem posOf_none : ∀ (ks : List Nat) (a j : Nat), posOf ks a j = none → j ∉ ks
  | [], a, j, h => by simp
  | k :: ks, a, j, h => by
    unfold posOf at h
    split at h
    · cases h
    · rename_i hk
      intro hm
      rcases List.mem_cons.1 hm with h1 | h1
      · subst h1; rw [Nat.beq_refl] at hk; cases hk
      · exact posOf_none ks _ _ h h1
theorem posOf_get {ks : List Nat} (hnd : ks.Nodup) {i j : Nat} (h : ks[i]? = some j) : posOf ks 0 j = some i := by
  cases hp : posOf ks 0 j with
  | none => exact absurd (List.mem_of_getElem? h) (posOf_none _ _ _ hp)
  | some i' =>
    obtain ⟨k, rfl, hk⟩ := posOf_some _ _ _ _ hp
    have h1 := (List.getElem?_eq_some_iff.1 h).1
    have := (List.getElem?_inj h1 hnd).1 (h.trans hk.symm)
    rw [Nat.zero_add, this]
/-- The heap behind a call that was shown over a small heap. -/
def frameH (ks : List Nat) (G G' H : AHeap) : AHeap where
  n := H.n + (G'.n - ks.length)
  f j := match posOf ks 0 j with
    | some i => match (G.f i).rwB with
      | true => renB (fk ks H.n) (G'.f i)
      | false => H.f j
    | none => match Nat.blt j H.n with
      | true => H.f j
      | false => renB (fk ks H.n) (G'.f (j - H.n + ks.length))
  ver j := match posOf ks 0 j with
    | some i => H.ver j + (G'.ver i - G.ver i)
    | none => H.ver j
theorem BRel_of_ren' {φ : PMap} {κ : Nat → Nat} {w : World} {b : BI} {g : ABlk} (h : BRel (φ.via κ) w b g) : BRel φ w b (renB κ g) := by
  cases g with
  | loop r =>
    obtain ⟨l, h1, h2, h3, h4, h5⟩ := h
    refine ⟨l, h1, h2, h3, ⟨h4.1, fun t => ?_⟩, h5⟩
    rcases h4.2 t with h | h
    · exact .inl ((VRel_ren _ _).2 h)
    · right
      show ren κ (r.env t) = .undef
      rw [h]; rfl
  | _ => exact BRel_of_ren h (fun r he => by cases he)
/-- Blocks that a call may leave behind. -/
def ABlk.left : ABlk → Prop
  | .ro _ cs => cs = []
  | _ => True
theorem CallW.frameF {f : FuncId} {args : List AVal} {G H : AHeap} {K : AVal → AHeap → Prop} (h : CallW P f args G K) (ks : List Nat) (hl : ks.length = G.n) (hnd : ∀ i j, i < G.n → j < G.n → (G.f i).rw → ks[i]? = ks[j]? → i = j)
    (hb : ∀ i, i < G.n → fk ks H.n i < H.n ∧ BSub (fk ks H.n) (G.f i) (H.f (fk ks H.n i)))
    (hfr : ∀ v G', K v G' → ∀ i, i < G'.n → (G.n ≤ i ∨ (G.f i).rw) → (G'.f i).left) :
    CallW P f (rens (fk ks H.n) args) H fun v H' => ∃ v' G', K v' G' ∧ v = ren (fk ks H.n) v' ∧ H' = frameH ks G G' H := by
  intro φ w cargs hR ha
  have κget : ∀ {i}, i < G.n → ks[i]? = some (fk ks H.n i) := fun {i} hi => by unfold fk; rw [List.getElem?_eq_getElem (by omega)]; rfl
  have κnew : ∀ {i}, G.n ≤ i → fk ks H.n i = H.n + (i - G.n) := fun {i} hi => by unfold fk; rw [List.getElem?_eq_none (by omega), hl]; rfl
  have hE : Emb 0 (fk ks H.n) G H := ⟨fun i hi => absurd hi (Nat.not_lt_zero i), fun i hi => absurd hi (Nat.not_lt_zero i), fun i hi => absurd hi (Nat.not_lt_zero i), Nat.zero_le _, fun i hi => by rw [κnew hi]; omega, hb, fun i j hi hj hij hrw _ he => hij (hnd i j hi hj hrw ((κget hi).trans ((congrArg some he).trans (κget hj).symm)))⟩
  have hRG := hR.sub hE
  refine (h _ w cargs hRG ((VRels_ren _ _).1 ha)).mono ?_
  rintro en w' ⟨cv, v', φ', G', rfl, hv, hR', hX, hK⟩
  have hfr := hfr v' G' hK
  have hnum := hX.num
  generalize hκ : fk ks H.n = κ at *
  have hpos : ∀ {i}, i < G.n → (G.f i).rw → posOf ks 0 (κ i) = some i := fun {i} hi hrw => by
    cases hp : posOf ks 0 (κ i) with
    | none => exact absurd (List.mem_of_getElem? (κget hi)) (posOf_none _ _ _ hp)
    | some i' =>
      obtain ⟨k, rfl, hk⟩ := posOf_some _ _ _ _ hp
      have hk1 : k < G.n := by have := (List.getElem?_eq_some_iff.1 hk).1; omega
      rw [Nat.zero_add, hnd i k hi hk1 hrw ((κget hi).trans hk.symm)]
  have hH'n : (frameH ks G G' H).n = H.n + (G'.n - G.n) := by show H.n + (G'.n - ks.length) = _; rw [hl]
  -- the three kinds of numbers
  have fin : ∀ {i}, i < G.n → (G.f i).rw → (frameH ks G G' H).f (κ i) = renB κ (G'.f i) := fun {i} hi hrw => by
    show (match posOf ks 0 (κ i) with | some i => _ | none => _) = _
    rw [hpos hi hrw]
    show (match (G.f i).rwB with | true => renB (fk ks H.n) (G'.f i) | false => _) = _
    rw [rwB_iff.2 hrw, hκ]
  have fout : ∀ {m}, m < H.n → (∀ i, i < G.n → (G.f i).rw → κ i ≠ m) → (frameH ks G G' H).f m = H.f m := fun {m} hm hno => by
    show (match posOf ks 0 m with | some i => _ | none => _) = _
    cases hp : posOf ks 0 m with
    | none =>
      have hlt : Nat.blt m H.n = true := Nat.ble_eq_true_of_le hm
      show (match Nat.blt m H.n with | true => H.f m | false => _) = _
      rw [hlt]
    | some i =>
      obtain ⟨k, hik, hk⟩ := posOf_some _ _ _ _ hp
      rw [Nat.zero_add] at hik; subst hik
      have hi : i < G.n := by have := (List.getElem?_eq_some_iff.1 hk).1; omega
      have hm2 : κ i = m := by have := κget hi; rw [hk] at this; exact (Option.some.inj this).symm
      show (match (G.f i).rwB with | true => _ | false => H.f m) = _
      cases hrb : (G.f i).rwB with
      | false => rfl
      | true => exact absurd hm2 (hno i hi (rwB_iff.1 hrb))
  have fnew : ∀ {i}, G.n ≤ i → (frameH ks G G' H).f (κ i) = renB κ (G'.f i) := fun {i} hi => by
    have h1 : posOf ks 0 (κ i) = none := by
      cases hp : posOf ks 0 (κ i) with
      | none => rfl
      | some i' =>
        obtain ⟨k, _, hk⟩ := posOf_some _ _ _ _ hp
        have hk1 : k < G.n := by have := (List.getElem?_eq_some_iff.1 hk).1; omega
        have h2 := κget hk1
        rw [hk] at h2
        have h3 := (hb k hk1).1
        have h4 := Option.some.inj h2
        rw [κnew hi] at h4
        omega
    show (match posOf ks 0 (κ i) with | some i => _ | none => _) = _
    rw [h1]
    show (match Nat.blt (κ i) H.n with | true => H.f (κ i) | false => renB (fk ks H.n) (G'.f (κ i - H.n + ks.length))) = _
    have h2 : Nat.blt (κ i) H.n = false := by
      cases hq : Nat.blt (κ i) H.n with
      | false => rfl
      | true => have := Nat.le_of_ble_eq_true hq; rw [κnew hi] at this; omega
    rw [h2, hκ, show κ i - H.n + ks.length = i by rw [κnew hi]; omega]
  have noOwn : ∀ {m b}, m < H.n → (∀ i, i < G.n → (G.f i).rw → κ i ≠ m) → φ m = some b → (H.f m).live → ¬ Own (φ.via κ) G b.blk := by
    rintro m b hm hno hφ hlv ⟨i, c, hc, hrw, hk⟩
    have hi := hRG.lt_n hc
    exact hR.inj _ _ c b hc hφ (hno i hi hrw) (by rw [(hb i hi).2.rw_eq hrw]; exact renB_rw.2 hrw) hlv hk
  let ψ : PMap := ⟨fun m => if m < H.n then φ m else φ' (m - H.n + G.n), φ'.z⟩
  have ψ_old : ∀ {m}, m < H.n → ψ m = φ m := fun {m} hm => if_pos hm
  have ψ_new : ∀ {m}, H.n ≤ m → ψ m = φ' (m - H.n + G.n) := fun {m} hm => if_neg (by omega)
  have ψκ : ∀ i, ψ (κ i) = φ' i := by
    intro i
    rcases Nat.lt_or_ge i G.n with hi | hi
    · obtain ⟨b, hbi⟩ := hR.has (κ i) (hb i hi).1
      rw [ψ_old (hb i hi).1, hbi]
      exact (hX.le i b hbi).symm
    · rw [κnew hi, ψ_new (by omega)]
      congr 1
      omega
  have ψκ' : ψ.via κ = φ' := congrArg (fun m => (⟨m, φ'.z⟩ : PMap)) (funext ψκ)
  have hle : PLe φ ψ := ⟨fun m b hm => by rw [ψ_old (hR.lt_n hm)]; exact hm, hX.le.z⟩
  -- every number is within or without
  have kinds : ∀ {m b}, ψ m = some b → (∃ i, κ i = m ∧ i < G'.n ∧ (G.n ≤ i ∨ (G.f i).rw) ∧ φ' i = some b ∧ (frameH ks G G' H).f m = renB κ (G'.f i)) ∨ (m < H.n ∧ (∀ i, i < G.n → (G.f i).rw → κ i ≠ m) ∧ φ m = some b ∧ (frameH ks G G' H).f m = H.f m) := by
    intro m b hm
    rcases Nat.lt_or_ge m H.n with h1 | h1
    · by_cases hex : ∃ i, i < G.n ∧ (G.f i).rw ∧ κ i = m
      · obtain ⟨i, hi, hrw, rfl⟩ := hex
        exact .inl ⟨i, rfl, Nat.lt_of_lt_of_le hi hnum, .inr hrw, by rw [← ψκ]; exact hm, fin hi hrw⟩
      · have hno : ∀ i, i < G.n → (G.f i).rw → κ i ≠ m := fun i hi hrw he => hex ⟨i, hi, hrw, he⟩
        exact .inr ⟨h1, hno, by rw [← ψ_old h1]; exact hm, fout h1 hno⟩
    · have h2 : κ (m - H.n + G.n) = m := by rw [κnew (by omega)]; omega
      rw [ψ_new h1] at hm
      refine .inl ⟨m - H.n + G.n, h2, hR'.lt_n hm, .inl (by omega), hm, ?_⟩
      have := fnew (i := m - H.n + G.n) (by omega)
      rwa [h2] at this
  have freshRw : ∀ {g : ABlk}, g.left → g.live → g.rw := fun {g} hg hl => by cases g <;> simp_all [ABlk.left, ABlk.rw, ABlk.live]
  have keepOut : ∀ {m b}, m < H.n → (∀ i, i < G.n → (G.f i).rw → κ i ≠ m) → φ m = some b → (H.f m).live → w'.heap[b.blk]? = w.heap[b.blk]? := fun {m b} h1 h2 h3 h4 => hX.keep _ (hR.lt_live h3 h4) (noOwn h1 h2 h3 h4)
  have apart : ∀ {i b m c}, φ' i = some b → (G'.f i).rw → m < H.n → (∀ i, i < G.n → (G.f i).rw → κ i ≠ m) → φ m = some c → (H.f m).live → b.blk ≠ c.blk := by
    intro i b m c h1 h2 h3 h4 h5 h6 he
    rcases hX.own b.blk ⟨i, b, h1, h2, rfl⟩ with h7 | h7
    · rw [he] at h7; exact noOwn h3 h4 h5 h6 h7
    · have := hR.lt_live h5 h6; omega
  have hRel : Rel ψ (frameH ks G G' H) w' := by
    refine ⟨fun m hm => ?_, fun m hm => ?_, fun m b hm => ?_, fun m l b c hm hl' hne hrw hlv => ?_, fun m b hm hrw => ?_, fun k o hz => ?_⟩
    · rw [hH'n] at hm
      rw [ψ_new (by omega)]; exact hR'.dom _ (by omega)
    · rw [hH'n] at hm
      rcases Nat.lt_or_ge m H.n with h1 | h1
      · rw [ψ_old h1]; exact hR.has m h1
      · rw [ψ_new h1]; exact hR'.has _ (by omega)
    · rcases kinds hm with ⟨i, rfl, h2, h3, h4, h5⟩ | ⟨h1, h2, h3, h4⟩
      · rw [h5]
        refine BRel_of_ren' ?_
        rw [ψκ']
        exact hR'.blk i b h4
      · rw [h4]
        exact (hR.blk m b h3).kept hle fun hl => keepOut h1 h2 h3 hl
    · rcases kinds hm with ⟨i, rfl, h2, h3, h4, h5⟩ | ⟨h1, h2, h3, h4⟩ <;> rcases kinds hl' with ⟨j, rfl, g2, g3, g4, g5⟩ | ⟨g1, g2, g3, g4⟩
      · rw [h5] at hrw; rw [g5] at hlv
        exact hR'.inj i j b c h4 g4 (fun he => hne (by rw [he])) (renB_rw.1 hrw) (renB_live.1 hlv)
      · rw [h5] at hrw; rw [g4] at hlv
        exact apart h4 (renB_rw.1 hrw) g1 g2 g3 hlv
      · rw [h4] at hrw; rw [g5] at hlv
        exact (apart g4 (freshRw (hfr j g2 g3) (renB_live.1 hlv)) h1 h2 h3 hrw.live).symm
      · rw [h4] at hrw; rw [g4] at hlv
        exact hR.inj m l b c h3 g3 hne hrw hlv
    · rcases kinds hm with ⟨i, rfl, h2, h3, h4, h5⟩ | ⟨h1, h2, h3, h4⟩
      · rw [h5] at hrw
        exact hR'.lt i b h4 (renB_rw.1 hrw)
      · rw [h4] at hrw
        exact Nat.lt_of_lt_of_le (hR.lt m b h3 hrw) hX.size
    · obtain ⟨z1, z2, z3⟩ := hR'.fz k o hz
      refine ⟨z1, fun m b hm hrw => ?_, z3⟩
      rcases kinds hm with ⟨i, rfl, h2, h3, h4, h5⟩ | ⟨h1, h2, h3, h4⟩
      · rw [h5] at hrw
        exact z2 i b h4 (renB_rw.1 hrw)
      · rw [h4] at hrw
        rcases hX.zown k o hz with h | h | h
        · exact (hR.fz k o h).2.1 m b h3 hrw
        · intro he
          rw [← he] at h
          exact noOwn h1 h2 h3 hrw.live h
        · have := hR.lt m b h3 hrw; omega
  refine ⟨cv, ren κ v', ψ, frameH ks G G' H, rfl, (VRel_ren _ _).2 (by rw [ψκ']; exact hv), hRel, ⟨hle, hX.size, fun k hk hno => hX.keep k hk fun ho => hno (ho.sub hR hE), fun k hk => ?_, hX.os, hX.tape, hX.output, by rw [hH'n]; omega, fun m b hm => ?_, fun m b hm hlv hve => ?_, fun k o hz => (hX.zown k o hz).imp id (Or.imp (fun h => h.sub hR hE) id)⟩, v', G', hK, rfl, rfl⟩
  · obtain ⟨m, b, hm, hrw, hkk⟩ := hk
    rcases kinds hm with ⟨i, rfl, h2, h3, h4, h5⟩ | ⟨h1, h2, h3, h4⟩
    · rw [h5] at hrw
      rcases hX.own k ⟨i, b, h4, renB_rw.1 hrw, hkk⟩ with h7 | h7
      · exact .inl (h7.sub hR hE)
      · exact .inr h7
    · rw [h4] at hrw
      exact .inl ⟨m, b, h3, hrw, hkk⟩
  · show H.ver m ≤ (match posOf ks 0 m with | some i => H.ver m + (G'.ver i - G.ver i) | none => H.ver m)
    split
    · exact Nat.le_add_right _ _
    · exact Nat.le_refl _
  · rcases kinds (hle m b hm) with ⟨i, hκi, h2, h3, h4, h5⟩ | ⟨h1, h2, h3, h4⟩
    · have hmlt := hR.lt_n hm
      have hi : i < G.n := by
        rcases Nat.lt_or_ge i G.n with h | h
        · exact h
        · rw [κnew h] at hκi; omega
      have hrwi : (G.f i).rw := h3.resolve_left (by omega)
      subst hκi
      have hve' : H.ver (κ i) + (G'.ver i - G.ver i) = H.ver (κ i) := by
        have : (frameH ks G G' H).ver (κ i) = H.ver (κ i) + (G'.ver i - G.ver i) := by
          show (match posOf ks 0 (κ i) with | some i => _ | none => _) = _
          rw [hpos hi hrwi]
        rw [← this]; exact hve
      have hv2 := hX.ver i b hm
      obtain ⟨k1, k2⟩ := hX.same i b hm hrwi.live (by omega)
      rw [h5]
      exact ⟨renB_live.2 k1, k2⟩
    · rw [h4]
      exact ⟨hlv, keepOut h1 h2 h3 hlv⟩
theorem allQ_of {p : Nat → Prop} : ∀ {i n : Nat}, AllQ p i n → ∀ j, i ≤ j → j < n → p j
  | _, _, .nil, j, h1, h2 => by omega
  | _, _, .cons h k, j, h1, h2 => by
    rcases Nat.eq_or_lt_of_le h1 with h3 | h3
    · subst h3; exact h
    · exact allQ_of k j h3 h2
/-- The blocks behind a call: what is new, and what was written, is the call's own. -/
def freshB : ABlk → Bool
  | .ro _ cs => cs.isEmpty
  | _ => true
theorem freshB_iff {b : ABlk} : freshB b = true ↔ b.left := by cases b <;> simp [freshB, ABlk.left]
def noRw (G : AHeap) (k : Nat) : List Nat → Nat → Bool
  | [], _ => true
  | k' :: ks, i => (!(Nat.beq k k') || !(G.f i).rwB) && noRw G k ks (i + 1)
/-- Numbers that are met twice are not written. -/
def okKs (G : AHeap) : List Nat → Nat → Bool
  | [], _ => true
  | k :: ks, i => (match (G.f i).rwB with
    | true => !(ks.contains k)
    | false => noRw G k ks (i + 1)) && okKs G ks (i + 1)
theorem noRw_get {G : AHeap} {k : Nat} : ∀ {ks : List Nat} {a j : Nat}, noRw G k ks a = true → ks[j]? = some k → (G.f (a + j)).rwB = false
  | [], a, j, _, h => by simp at h
  | k' :: ks, a, 0, h, hj => by
    simp only [List.getElem?_cons_zero, Option.some.injEq] at hj
    subst hj
    simp only [noRw, Nat.beq_refl, Bool.not_true, Bool.false_or, Bool.and_eq_true, Bool.not_eq_true'] at h
    exact h.1
  | k' :: ks, a, j + 1, h, hj => by
    simp only [noRw, Bool.and_eq_true] at h
    have := noRw_get (j := j) h.2 (by simpa using hj)
    rwa [show a + 1 + j = a + (j + 1) by omega] at this
theorem okKs_get {G : AHeap} : ∀ {ks : List Nat} {a i j : Nat}, okKs G ks a = true → i < ks.length → ks[i]? = ks[j]? → (G.f (a + i)).rwB = true → i = j
  | [], a, i, j, _, h, _, _ => by simp at h
  | k :: ks, a, i, j, hok, hi, hij, hrw => by
    simp only [okKs, Bool.and_eq_true] at hok
    obtain ⟨h1, h2⟩ := hok
    rcases i with _ | i <;> rcases j with _ | j
    · rfl
    · exfalso
      rw [Nat.add_zero] at hrw
      rw [hrw] at h1
      simp only [List.getElem?_cons_zero, List.getElem?_cons_succ] at hij
      have := List.mem_of_getElem? hij.symm
      simp [this] at h1
    · exfalso
      simp only [List.getElem?_cons_zero, List.getElem?_cons_succ] at hij
      split at h1
      · have := List.mem_of_getElem? hij
        simp [this] at h1
      · have := noRw_get (j := i) h1 hij
        rw [show a + 1 + i = a + (i + 1) by omega, hrw] at this
        cases this
    · have := okKs_get (i := i) (j := j) h2 (by simpa using hi) (by simpa using hij) (by rwa [show a + 1 + i = a + (i + 1) by omega])
      omega
theorem ksOk {G : AHeap} {ks : List Nat} (hl : ks.length = G.n) (h : (decide ks.Nodup || okKs G ks 0) = true) : ∀ i j, i < G.n → j < G.n → (G.f i).rw → ks[i]? = ks[j]? → i = j := by
  intro i j hi hj hrw he
  simp only [Bool.or_eq_true, decide_eq_true_eq] at h
  rcases h with h | h
  · exact (List.getElem?_inj (i := i) (j := j) (by omega) h).1 he
  · exact okKs_get h (by omega) he (by rw [Nat.zero_add]; exact rwB_iff.2 hrw)
/-- As frameF, for lists of numbers. -/
theorem CallW.frameL {f : FuncId} {args : List AVal} {G H : AHeap} {K : AVal → AHeap → Prop} (h : CallW P f args G K) (ks : List Nat) (hl : (Nat.beq ks.length G.n && (decide ks.Nodup || okKs G ks 0)) = true)
    (hb : AllQ (fun i => Nat.blt (fk ks H.n i) H.n = true ∧ BSub (fk ks H.n) (G.f i) (H.f (fk ks H.n i))) 0 G.n)
    (hfr : ∀ v G', K v G' → ∀ i, i < G'.n → (G.n ≤ i ∨ (G.f i).rw) → (G'.f i).left) :
    CallW P f (rens (fk ks H.n) args) H fun v H' => ∃ v' G', K v' G' ∧ v = ren (fk ks H.n) v' ∧ H' = frameH ks G G' H := by
  rw [Bool.and_eq_true] at hl
  exact h.frameF ks (Nat.eq_of_beq_eq_true hl.1) (ksOk (Nat.eq_of_beq_eq_true hl.1) hl.2) (fun i hi => have h := allQ_of hb i (Nat.zero_le _) hi; ⟨Nat.le_of_ble_eq_true h.1, h.2⟩) hfr
/-- A function that only reads and hands back no reference. -/
theorem CallW.readsL {f : FuncId} {args : List AVal} {G H : AHeap} {K : AVal → Prop} (h : CallW P f args G fun v _ => K v) (hk : ∀ v, K v → noRef v = true) (ks : List Nat) (hl : Nat.beq ks.length G.n = true)
    (hb : AllQ (fun i => Nat.blt (fk ks H.n i) H.n = true ∧ (G.f i).rwB = false ∧ BSub (fk ks H.n) (G.f i) (H.f (fk ks H.n i))) 0 G.n) : CallW P f (rens (fk ks H.n) args) H fun v H' => H' = H ∧ K v :=
  h.reads hk (fk ks H.n) (fun i hi => have h := allQ_of hb i (Nat.zero_le _) hi; ⟨Nat.le_of_ble_eq_true h.1, (fun hr => by have := rwB_iff.2 hr; rw [h.2.1] at this; cases this), h.2.2⟩) (fun i hi => by
    unfold fk
    rw [List.getElem?_eq_none (by rw [Nat.eq_of_beq_eq_true hl]; exact hi)]
    show H.n ≤ H.n + _
    omega)
theorem AHeap.ext' {A B : AHeap} (h1 : A.n = B.n) (h2 : ∀ i, A.f i = B.f i) (h3 : ∀ i, A.ver i = B.ver i) : A = B := by
  cases A; cases B
  simp only [AHeap.mk.injEq]
  exact ⟨h1, funext h2, funext h3⟩
abbrev tiI : TI := ⟨1, 8, false, [.int .i64 0]⟩
abbrev tiU : TI := ⟨1, 8, false, [.int .u64 0]⟩
abbrev tiB : TI := ⟨1, 1, false, [.bool false]⟩
abbrev tiS : TI := ⟨1, 24, false, [.nilSlice]⟩
end Go.Vh
