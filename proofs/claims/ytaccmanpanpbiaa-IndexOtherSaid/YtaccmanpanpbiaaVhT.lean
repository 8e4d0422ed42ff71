import Derived.Test.YtaccmanpanpbiaaVhS
/- A contract that was shown over a small heap of blocks to be read holds wherever those blocks lie. -/
set_option linter.unusedVariables false
set_option linter.unusedSimpArgs false
namespace Go.Vh
variable {P : Program}

def AHeap.allocs (H : AHeap) : List ABlk → AHeap
  | [] => H
  | b :: bs => (H.alloc b).allocs bs
theorem allocs_n : ∀ (bs : List ABlk) (H : AHeap), (H.allocs bs).n = H.n + bs.length
  | [], H => rfl
  | b :: bs, H => by rw [AHeap.allocs, allocs_n bs, alloc_n, List.length_cons]; omega
theorem allocs_ver : ∀ (bs : List ABlk) (H : AHeap), (H.allocs bs).ver = H.ver
  | [], H => rfl
  | b :: bs, H => by rw [AHeap.allocs, allocs_ver bs, alloc_ver]
theorem allocs_old : ∀ (bs : List ABlk) (H : AHeap) (i : Nat), i < H.n → (H.allocs bs).f i = H.f i
  | [], H, i, _ => rfl
  | b :: bs, H, i, h => by
    rw [AHeap.allocs, allocs_old bs _ i (by rw [alloc_n]; omega), alloc_f, if_neg (by omega)]
theorem allocs_new : ∀ (bs : List ABlk) (H : AHeap) (j : Nat) (b : ABlk), bs[j]? = some b → (H.allocs bs).f (H.n + j) = b
  | [], H, j, b, h => by cases h
  | c :: bs, H, 0, b, h => by
    cases h
    rw [AHeap.allocs, allocs_old bs _ _ (by rw [alloc_n]; omega), alloc_f, Nat.add_zero, if_pos rfl]
  | c :: bs, H, j + 1, b, h => by
    have := allocs_new bs (H.alloc c) j b h
    rw [alloc_n] at this
    rw [AHeap.allocs, ← this]
    congr 1
    omega
theorem BRel_of_ren {φ : PMap} {κ : Nat → Nat} {w : World} {b : BI} {g : ABlk} (h : BRel (φ.via κ) w b g) (hl : ∀ r, g ≠ .loop r) : BRel φ w b (renB κ g) := by
  cases g with
  | dead => trivial
  | cells es cs =>
    obtain ⟨h1, arr, elem, h2, h3, h4, h5⟩ := h
    exact ⟨h1, arr, elem, h2, h3, by rw [rens_length]; exact h4, by rw [rens_length]; exact (VRels_ren _ _).2 h5⟩
  | ro es cs =>
    refine ⟨h.1, fun j v hv => ?_⟩
    rw [rens_get] at hv
    cases hj : cs[j]? with
    | none => rw [hj] at hv; cases hv
    | some u =>
      rw [hj] at hv
      cases hv
      obtain ⟨c, hc, hr⟩ := h.2 j u hj
      exact ⟨c, hc, (VRel_ren _ _).2 hr⟩
  | map es =>
    obtain ⟨ents, clock, h1, h2⟩ := h
    exact ⟨ents, clock, h1, (MRels_ren _ _).2 h2⟩
  | loop r => exact absurd rfl (hl r)
/-- Blocks that a function may hand back. -/
def ABlk.fresh : ABlk → Prop
  | .cells _ _ | .map _ | .dead => True
  | .ro _ cs => cs = []
  | _ => False
/-- A function that reads, and makes new blocks. -/
def CallA (P : Program) (f : FuncId) (args : List AVal) (G : AHeap) (K : AVal → List ABlk → Prop) : Prop :=
  CallW P f args G fun v G' => ∃ bs, G' = G.allocs bs ∧ (∀ b ∈ bs, b.fresh) ∧ K v bs
theorem CallA.frame {f : FuncId} {args : List AVal} {G H : AHeap} {K : AVal → List ABlk → Prop} (h : CallA P f args G K) (κ : Nat → Nat) (hb : ∀ i, i < G.n → κ i < H.n ∧ ¬ (G.f i).rw ∧ BSub κ (G.f i) (H.f (κ i))) (ho : ∀ i, G.n ≤ i → κ i = H.n + (i - G.n)) :
    CallW P f (rens κ args) H fun v H' => ∃ v' bs, K v' bs ∧ v = ren κ v' ∧ H' = H.allocs (bs.map (renB κ)) := by
  intro φ w cargs hR ha
  have hE : Emb 0 κ G H := ⟨fun i hi => absurd hi (Nat.not_lt_zero i), fun i hi => absurd hi (Nat.not_lt_zero i), fun i hi => absurd hi (Nat.not_lt_zero i), Nat.zero_le _, fun i hi => by rw [ho i hi]; omega, fun i hi => ⟨(hb i hi).1, (hb i hi).2.2⟩, fun i j hi _ _ hrw _ => absurd hrw (hb i hi).2.1⟩
  have hRG := hR.sub hE
  refine (h _ w cargs hRG ((VRels_ren _ _).1 ha)).mono ?_
  rintro en w' ⟨cv, v', φ', G', rfl, hv, hR', hX, bs, rfl, hfr, hK⟩
  have noOwn : ∀ k, ¬ Own (φ.via κ) G k := by
    rintro k ⟨i, b, hi, hrw, _⟩
    exact (hb i (hRG.lt_n hi)).2.1 hrw
  have hkeep : ∀ k, k < w.heap.size → w'.heap[k]? = w.heap[k]? := fun k hk => hX.keep k hk (noOwn k)
  have hGn := allocs_n bs G
  have hHn : (H.allocs (bs.map (renB κ))).n = H.n + bs.length := by rw [allocs_n, List.length_map]
  let ψ : PMap := ⟨fun m => if m < H.n then φ m else φ' (m - H.n + G.n), φ'.z⟩
  have ψ_old : ∀ {m}, m < H.n → ψ m = φ m := fun {m} hm => if_pos hm
  have ψ_new : ∀ {m}, H.n ≤ m → ψ m = φ' (m - H.n + G.n) := fun {m} hm => if_neg (by omega)
  have ψκ0 : (fun i => ψ (κ i)) = φ'.m := by
    funext i
    rcases Nat.lt_or_ge i G.n with hi | hi
    · obtain ⟨b, hbi⟩ := hR.has (κ i) (hb i hi).1
      show ψ (κ i) = φ' i
      rw [ψ_old (hb i hi).1, hbi]
      exact (hX.le i b hbi).symm
    · show ψ (κ i) = φ' i
      rw [ho i hi, ψ_new (by omega)]
      congr 1
      omega
  have ψκ : ψ.via κ = φ' := congrArg (fun m => (⟨m, φ'.z⟩ : PMap)) ψκ0
  have hle : PLe φ ψ := ⟨fun m b hm => by rw [ψ_old (hR.lt_n hm)]; exact hm, hX.le.z⟩
  have newBlk : ∀ {m}, H.n ≤ m → m < H.n + bs.length → ∃ g, bs[m - H.n]? = some g ∧ (H.allocs (bs.map (renB κ))).f m = renB κ g ∧ (G.allocs bs).f (m - H.n + G.n) = g ∧ g.fresh := by
    intro m h1 h2
    have hj : m - H.n < bs.length := by omega
    refine ⟨bs[m - H.n], List.getElem?_eq_getElem hj, ?_, ?_, hfr _ (List.getElem_mem hj)⟩
    · have := allocs_new (bs.map (renB κ)) H (m - H.n) (renB κ bs[m - H.n]) (by rw [List.getElem?_map, List.getElem?_eq_getElem hj]; rfl)
      rwa [show H.n + (m - H.n) = m by omega] at this
    · have := allocs_new bs G (m - H.n) bs[m - H.n] (List.getElem?_eq_getElem hj)
      rwa [Nat.add_comm] at this
  have oldBlk : ∀ {m}, m < H.n → (H.allocs (bs.map (renB κ))).f m = H.f m := fun {m} hm => allocs_old _ _ _ hm
  have fresh_rw : ∀ {g : ABlk}, g.fresh → g.live → g.rw := fun {g} hg hl => by cases g <;> simp_all [ABlk.fresh, ABlk.rw, ABlk.live]
  have newIn : ∀ {m b}, H.n ≤ m → ψ m = some b → m < H.n + bs.length ∧ φ' (m - H.n + G.n) = some b := by
    intro m b hm hψ
    rw [ψ_new hm] at hψ
    have hlt := hR'.lt_n hψ
    exact ⟨by omega, hψ⟩
  have newAt : ∀ {m b}, H.n ≤ m → ψ m = some b → ((H.allocs (bs.map (renB κ))).f m).live → m < H.n + bs.length ∧ φ' (m - H.n + G.n) = some b ∧ w.heap.size ≤ b.blk := by
    intro m b hm hψ hlv
    obtain ⟨hm2, hψ⟩ := newIn hm hψ
    obtain ⟨g, hg, hf1, hf, hgf⟩ := newBlk hm hm2
    rw [hf1] at hlv
    refine ⟨hm2, hψ, ?_⟩
    rcases hX.own b.blk ⟨_, b, hψ, by rw [hf]; exact fresh_rw hgf (renB_live.1 hlv), rfl⟩ with h1 | h1
    · exact absurd h1 (noOwn _)
    · exact h1
  have hRel : Rel ψ (H.allocs (bs.map (renB κ))) w' := by
    refine ⟨fun m hm => ?_, fun m hm => ?_, fun m b hm => ?_, fun m l b c hm hl hne hrw hlv => ?_, fun m b hm hrw => ?_, fun k o hz => ?_⟩
    · rw [ψ_new (by omega)]; exact hR'.dom _ (by omega)
    · rcases Nat.lt_or_ge m H.n with h1 | h1
      · rw [ψ_old h1]; exact hR.has m h1
      · rw [ψ_new h1]; exact hR'.has _ (by omega)
    · rcases Nat.lt_or_ge m H.n with h1 | h1
      · rw [ψ_old h1] at hm
        rw [oldBlk h1]
        exact (hR.blk m b hm).kept hle fun hl => hkeep _ (hR.lt_live hm hl)
      · obtain ⟨h2, h3⟩ := newIn h1 hm
        obtain ⟨g, hg, hf, hf', hgf⟩ := newBlk h1 h2
        rw [hf]
        have := hR'.blk _ b h3
        rw [hf'] at this
        refine BRel_of_ren ?_ (fun r he => by rw [he] at hgf; exact hgf)
        rw [ψκ]
        exact this
    · rcases Nat.lt_or_ge m H.n with h1 | h1 <;> rcases Nat.lt_or_ge l H.n with h2 | h2
      · rw [ψ_old h1] at hm
        rw [ψ_old h2] at hl
        rw [oldBlk h1] at hrw
        rw [oldBlk h2] at hlv
        exact hR.inj m l b c hm hl hne hrw hlv
      · rw [ψ_old h1] at hm
        rw [oldBlk h1] at hrw
        have := hR.lt m b hm hrw
        obtain ⟨_, _, h3⟩ := newAt h2 hl hlv
        omega
      · rw [ψ_old h2] at hl
        rw [oldBlk h2] at hlv
        have := hR.lt_live hl hlv
        obtain ⟨_, _, h3⟩ := newAt h1 hm hrw.live
        omega
      · obtain ⟨a1, a2⟩ := newIn h1 hm
        obtain ⟨b1, b2⟩ := newIn h2 hl
        obtain ⟨g, _, hf1, hf, hgf⟩ := newBlk h1 a1
        obtain ⟨g', _, hf1', hf', hgf'⟩ := newBlk h2 b1
        rw [hf1] at hrw
        rw [hf1'] at hlv
        exact hR'.inj _ _ b c a2 b2 (by omega) (by rw [hf]; exact renB_rw.1 hrw) (by rw [hf']; exact renB_live.1 hlv)
    · rcases Nat.lt_or_ge m H.n with h1 | h1
      · rw [ψ_old h1] at hm
        rw [oldBlk h1] at hrw
        exact Nat.lt_of_lt_of_le (hR.lt m b hm hrw) hX.size
      · obtain ⟨a1, a2⟩ := newIn h1 hm
        obtain ⟨g, _, hf1, hf, hgf⟩ := newBlk h1 a1
        rw [hf1] at hrw
        exact hR'.lt _ b a2 (by rw [hf]; exact renB_rw.1 hrw)
    · obtain ⟨z1, z2, z3⟩ := hR'.fz k o hz
      refine ⟨z1, fun m b hm hrw => ?_, z3⟩
      rcases Nat.lt_or_ge m H.n with h1 | h1
      · rw [ψ_old h1] at hm
        rw [oldBlk h1] at hrw
        rcases hX.zown k o hz with h | h | h
        · exact (hR.fz k o h).2.1 m b hm hrw
        · exact absurd h (noOwn _)
        · have := hR.lt m b hm hrw; omega
      · obtain ⟨a1, a2⟩ := newIn h1 hm
        obtain ⟨g, _, hf1, hf, hgf⟩ := newBlk h1 a1
        rw [hf1] at hrw
        exact z2 _ b a2 (by rw [hf]; exact renB_rw.1 hrw)
  refine ⟨cv, ren κ v', ψ, H.allocs (bs.map (renB κ)), rfl, (VRel_ren _ _).2 (by rw [ψκ]; exact hv), hRel, ⟨hle, hX.size, fun k hk _ => hkeep k hk, fun k hk => ?_, hX.os, hX.tape, hX.output, by omega, fun m b hm => by rw [allocs_ver]; exact Nat.le_refl _, fun m b hm hl hve => ?_, fun k o hz => ?_⟩, v', bs, hK, rfl, rfl⟩
  · obtain ⟨m, b, hm, hrw, hkk⟩ := hk
    rcases Nat.lt_or_ge m H.n with h1 | h1
    · rw [ψ_old h1] at hm
      rw [oldBlk h1] at hrw
      exact .inl ⟨m, b, hm, hrw, hkk⟩
    · obtain ⟨_, _, h3⟩ := newAt h1 hm hrw.live
      exact .inr (by omega)
  · have h1 := hR.lt_n hm
    rw [oldBlk h1]
    exact ⟨hl, hkeep _ (hR.lt_live hm hl)⟩
  · rcases hX.zown k o hz with h | h | h
    · exact .inl h
    · exact absurd h (noOwn _)
    · exact .inr (.inr h)
/-- A function that reads and hands back no reference: what was shown over a small heap holds at every heap that has those blocks, and leaves it as it was. -/
theorem CallW.reads {f : FuncId} {args : List AVal} {G H : AHeap} {K : AVal → Prop} (h : CallW P f args G fun v _ => K v) (hk : ∀ v, K v → noRef v = true) (κ : Nat → Nat) (hb : ∀ i, i < G.n → κ i < H.n ∧ ¬ (G.f i).rw ∧ BSub κ (G.f i) (H.f (κ i))) (ho : ∀ i, G.n ≤ i → H.n ≤ κ i) :
    CallW P f (rens κ args) H fun v H' => H' = H ∧ K v := by
  intro φ w cargs hR ha
  have hE : Emb 0 κ G H := ⟨fun i hi => absurd hi (Nat.not_lt_zero i), fun i hi => absurd hi (Nat.not_lt_zero i), fun i hi => absurd hi (Nat.not_lt_zero i), Nat.zero_le _, ho, fun i hi => ⟨(hb i hi).1, (hb i hi).2.2⟩, fun i j hi _ _ hrw _ => absurd hrw (hb i hi).2.1⟩
  have hRG := hR.sub hE
  refine (h _ w cargs hRG ((VRels_ren _ _).1 ha)).mono ?_
  rintro en w' ⟨cv, v, φ', G', rfl, hv, hR', hX, hK⟩
  have noOwn : ∀ k, ¬ Own (φ.via κ) G k := by
    rintro k ⟨i, b, hi, hrw, _⟩
    exact (hb i (hRG.lt_n hi)).2.1 hrw
  have hkeep : ∀ k, k < w.heap.size → w'.heap[k]? = w.heap[k]? := fun k hk => hX.keep k hk (noOwn k)
  have hle : PLe φ ⟨φ.m, φ'.z⟩ := ⟨fun _ _ h => h, hX.le.z⟩
  have hRel : Rel ⟨φ.m, φ'.z⟩ H w' := ⟨hR.dom, hR.has, fun i b hb => (hR.blk i b hb).kept hle fun hl => hkeep _ (hR.lt_live hb hl), hR.inj, fun i b hb hl => Nat.lt_of_lt_of_le (hR.lt i b hb hl) hX.size, fun k o hz => by
    obtain ⟨z1, z2, z3⟩ := hR'.fz k o hz
    refine ⟨z1, fun i b hb hrw => ?_, z3⟩
    rcases hX.zown k o hz with h | h | h
    · exact (hR.fz k o h).2.1 i b hb hrw
    · exact absurd h (noOwn _)
    · have := hR.lt i b hb hrw; omega⟩
  exact ⟨cv, v, ⟨φ.m, φ'.z⟩, H, rfl, VRel_noRef (φ := φ') (ψ := ⟨φ.m, φ'.z⟩) (fun _ _ h => h) v cv (hk v hK) hv, hRel, ⟨hle, hX.size, fun k hk _ => hkeep k hk, fun k hk => .inl hk, hX.os, hX.tape, hX.output, Nat.le_refl _, fun _ _ _ => Nat.le_refl _, fun i b hb hl _ => ⟨hl, hkeep _ (hR.lt_live hb hl)⟩, fun k o hz => by
    rcases hX.zown k o hz with h | h | h
    · exact .inl h
    · exact absurd h (noOwn _)
    · exact .inr (.inr h)⟩, rfl, hK⟩
end Go.Vh
