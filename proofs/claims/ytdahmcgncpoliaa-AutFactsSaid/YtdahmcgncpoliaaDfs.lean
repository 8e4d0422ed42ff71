/- Which states can be reached: the plain law of the program's search. -/
import Derived.Test.YtdahmcgncpoliaaRch
import Derived.Test.YtdahmcgncpoliaaAwk
set_option linter.unusedVariables false
set_option linter.unusedSimpArgs false
namespace Go.Proofs.Ytdahmcgncpoliaa
open Go Go.Vh Go.Proofs
theorem Au.byN_mem {a : Au} (ho : a.Ok) : ∀ n, n ≤ a.es.length → ∀ s, s < a.states.toNat → ∀ i : Int, i ∈ (a.byN n).getD s [] ↔ ∃ k : Nat, i = (k : Int) ∧ k < n ∧ a.frN k = s
  | 0, _, s, hs, i => by
    rw [Au.byN, List.getD_eq_getElem?_getD, List.getElem?_replicate, if_pos hs]
    simp
  | n + 1, hn, s, hs, i => by
    have ih := Au.byN_mem ho n (by omega) s hs i
    have hl := a.byN_length n
    have hfr : a.frN n < a.states.toNat := by
      unfold Au.frN
      rw [List.getElem?_eq_getElem (by omega)]
      have := ho.2.2 _ (List.getElem_mem (show n < a.es.length by omega))
      obtain ⟨h1, h2, _⟩ := this
      show a.es[n].fr.toNat < _
      omega
    rw [Au.byN, List.getD_eq_getElem?_getD, List.getElem?_set]
    by_cases hss : a.frN n = s
    · rw [if_pos hss, if_pos (by omega), Option.getD_some, List.mem_append, hss, ih]
      constructor
      · rintro (⟨k, h1, h2, h3⟩ | h)
        · exact ⟨k, h1, by omega, h3⟩
        · exact ⟨n, List.mem_singleton.1 h, by omega, hss⟩
      · rintro ⟨k, h1, h2, h3⟩
        rcases Nat.lt_or_ge k n with h4 | h4
        · exact .inl ⟨k, h1, h4, h3⟩
        · obtain rfl : k = n := by omega
          exact .inr (by rw [h1]; simp)
    · rw [if_neg hss, ← List.getD_eq_getElem?_getD, ih]
      constructor
      · rintro ⟨k, h1, h2, h3⟩; exact ⟨k, h1, by omega, h3⟩
      · rintro ⟨k, h1, h2, h3⟩
        rcases Nat.lt_or_ge k n with h4 | h4
        · exact ⟨k, h1, h4, h3⟩
        · obtain rfl : k = n := by omega
          exact absurd h3 hss
structure Au.Df (a : Au) (out seen : List Bool) (stk : List Int) : Prop where
  mkd : a.Mk seen
  olen : out.length = a.states.toNat
  ins : ∀ x ∈ stk, 0 ≤ x ∧ x < a.states ∧ seen[x.toNat]? = some true
  cov : ∀ t : Nat, seen[t]? = some true → out[t]? = some true ∨ ∃ x ∈ stk, x.toNat = t
  sub : ∀ t : Nat, out[t]? = some true → seen[t]? = some true
def Au.Cl (a : Au) (out seen : List Bool) (R : List Int) : Prop := ∀ k, (h : k < a.es.length) → out[(a.es[k].fr).toNat]? = some true → seen[(a.es[k].to).toNat]? = some true ∨ (k : Int) ∈ R
theorem Au.Df.pop {a : Au} (ho : a.Ok) {out seen : List Bool} {stk : List Int} {s : Int} (h : a.Df out seen (stk ++ [s])) (hc : a.Cl out seen []) : a.Df (setT out s) seen stk ∧ a.Cl (setT out s) seen ((a.byN a.es.length).getD s.toNat []) := by
  have hs := h.ins s (by simp)
  have hsl : s.toNat < out.length := by rw [h.olen]; omega
  refine ⟨⟨h.mkd, by rw [setT_length]; exact h.olen, fun x hx => h.ins x (List.mem_append_left _ hx), fun t ht => ?_, fun t ht => ?_⟩, fun k hk hf => ?_⟩
  · have htl : t < out.length := by rw [h.olen, ← h.mkd.len]; exact (List.getElem?_eq_some_iff.1 ht).1
    rcases h.cov t ht with h1 | ⟨x, hx, rfl⟩
    · exact .inl ((setT_get htl).2 (.inr h1))
    · rcases List.mem_append.1 hx with hx | hx
      · exact .inr ⟨x, hx, rfl⟩
      · rw [List.mem_singleton.1 hx]
        exact .inl ((setT_get hsl).2 (.inl rfl))
  · have htl : t < out.length := by rw [← setT_length out s]; exact (List.getElem?_eq_some_iff.1 ht).1
    rcases (setT_get htl).1 ht with rfl | h1
    · exact hs.2.2
    · exact h.sub t h1
  · have hfl : a.es[k].fr.toNat < out.length := by rw [← setT_length out s]; exact (List.getElem?_eq_some_iff.1 hf).1
    rcases (setT_get hfl).1 hf with h1 | h1
    · refine .inr ((Au.byN_mem ho a.es.length (Nat.le_refl _) s.toNat (by omega) _).2 ⟨k, rfl, hk, ?_⟩)
      unfold Au.frN
      rw [List.getElem?_eq_getElem hk]
      exact h1
    · rcases hc k hk h1 with h2 | h2
      · exact .inl h2
      · cases h2
theorem Au.Cl.skip {a : Au} {out seen : List Bool} {R : List Int} {k : Nat} (hk : k < a.es.length) (h : a.Cl out seen ((k : Int) :: R)) (ht : seen[(a.es[k].to).toNat]? = some true) : a.Cl out seen R := by
  intro j hj hf
  rcases h j hj hf with h1 | h1
  · exact .inl h1
  · rcases List.mem_cons.1 h1 with h2 | h2
    · obtain rfl : j = k := by omega
      exact .inl ht
    · exact .inr h2
theorem Au.Df.push {a : Au} (ho : a.Ok) {out seen : List Bool} {stk R : List Int} {k : Nat} (hk : k < a.es.length) (h : a.Df out seen stk) (hc : a.Cl out seen ((k : Int) :: R)) (hf : out[(a.es[k].fr).toNat]? = some true) :
    a.Df out (setT seen a.es[k].to) (stk ++ [a.es[k].to]) ∧ a.Cl out (setT seen a.es[k].to) R := by
  have hok := ho.2.2 _ (List.getElem_mem hk)
  obtain ⟨_, _, ht0, ht1, _⟩ := hok
  have htl : a.es[k].to.toNat < seen.length := by rw [h.mkd.len]; omega
  have mono : ∀ t : Nat, seen[t]? = some true → (setT seen a.es[k].to)[t]? = some true := fun t ht => (setT_get (List.getElem?_eq_some_iff.1 ht).1).2 (.inr ht)
  have self : (setT seen a.es[k].to)[(a.es[k].to).toNat]? = some true := (setT_get htl).2 (.inl rfl)
  refine ⟨⟨h.mkd.set (List.getElem_mem hk) (h.sub _ hf), h.olen, fun x hx => ?_, fun t ht => ?_, fun t ht => mono t (h.sub t ht)⟩, ?_⟩
  · rcases List.mem_append.1 hx with hx | hx
    · have := h.ins x hx; exact ⟨this.1, this.2.1, mono _ this.2.2⟩
    · rw [List.mem_singleton.1 hx]; exact ⟨ht0, ht1, self⟩
  · have htl' : t < seen.length := by rw [← setT_length seen a.es[k].to]; exact (List.getElem?_eq_some_iff.1 ht).1
    rcases (setT_get htl').1 ht with rfl | h1
    · exact .inr ⟨_, List.mem_append_right _ (List.mem_singleton.2 rfl), rfl⟩
    · rcases h.cov t h1 with h2 | ⟨x, hx, h2⟩
      · exact .inl h2
      · exact .inr ⟨x, List.mem_append_left _ hx, h2⟩
  · exact Au.Cl.skip (seen := setT seen a.es[k].to) hk (fun j hj hfj => (hc j hj hfj).imp (mono _) id) self
theorem Au.Df.done {a : Au} {out seen : List Bool} (h : a.Df out seen []) (hc : a.Cl out seen []) : a.IsRch out := by
  have hso : ∀ t : Nat, seen[t]? = some true → out[t]? = some true := fun t ht => by
    rcases h.cov t ht with h1 | ⟨x, hx, _⟩
    · exact h1
    · cases hx
  refine ⟨h.olen, fun t ht => ⟨fun h1 => h.mkd.sound t (h.sub t h1), fun hr => ?_⟩⟩
  clear ht
  induction hr with
  | start hx => exact hso _ (h.mkd.start _ hx)
  | step he _ ih =>
    obtain ⟨k, hk, rfl⟩ := List.getElem_of_mem he
    rcases hc k hk ih with h1 | h1
    · exact hso _ h1
    · cases h1
theorem Au.Df.init {a : Au} (ho : a.Ok) : a.Df (List.replicate a.states.toNat false) (foldT (List.replicate a.states.toNat false) a.start) a.start ∧ a.Cl (List.replicate a.states.toNat false) (foldT (List.replicate a.states.toNat false) a.start) [] := by
  have hsi := a.start_in ho
  have hno : ∀ t : Nat, (List.replicate a.states.toNat false)[t]? ≠ some true := by
    intro t h
    rw [List.getElem?_replicate] at h
    split at h <;> simp at h
  have hst : ∀ x ∈ a.start, (foldT (List.replicate a.states.toNat false) a.start)[x.toNat]? = some true := fun x hx => by
    have := hsi x hx
    exact (foldT_get a.start _ x.toNat (by rw [List.length_replicate]; omega)).2 (.inl ⟨x, hx, rfl⟩)
  have hget : ∀ t : Nat, (foldT (List.replicate a.states.toNat false) a.start)[t]? = some true → ∃ x ∈ a.start, t = x.toNat := fun t ht => by
    have htl : t < (List.replicate a.states.toNat false).length := by
      rw [← foldT_length a.start]; exact (List.getElem?_eq_some_iff.1 ht).1
    rcases (foldT_get a.start _ t htl).1 ht with h1 | h1
    · exact h1
    · exact absurd h1 (hno t)
  refine ⟨⟨⟨by rw [foldT_length, List.length_replicate], fun t ht => ?_, hst⟩, List.length_replicate, fun x hx => ⟨(hsi x hx).1, (hsi x hx).2, hst x hx⟩, fun t ht => ?_, fun t ht => absurd ht (hno t)⟩, fun k hk hf => absurd hf (hno _)⟩
  · obtain ⟨x, hx, rfl⟩ := hget t ht
    exact .start hx
  · obtain ⟨x, hx, rfl⟩ := hget t ht
    exact .inr ⟨x, hx, rfl⟩
end Go.Proofs.Ytdahmcgncpoliaa
