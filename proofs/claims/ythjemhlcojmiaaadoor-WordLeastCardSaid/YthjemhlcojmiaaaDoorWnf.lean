/- The normal form of a word: in plain words. -/
import Derived.Test.YthjemhlcojmiaaaDoorWda
set_option linter.unusedVariables false
set_option linter.unusedSimpArgs false
namespace Go.Proofs.YthjemhlcojmiaaaDoor
open Go Go.Vh Go.Vk Go.Proofs
/-- A list is several times its first p elements. -/
def Pd (l : List Int) (p : Nat) : Prop := l.length % p = 0 ∧ ∀ i, p ≤ i → i < l.length → l.getD i 0 = l.getD (i - p) 0
theorem Pd.mod {l : List Int} {p : Nat} (h : Pd l p) (hp : 0 < p) : ∀ i, i < l.length → l.getD i 0 = l.getD (i % p) 0 := by
  intro i
  induction i using Nat.strongRecOn with
  | ind i ih =>
    intro hi
    rcases Nat.lt_or_ge i p with a | a
    · rw [Nat.mod_eq_of_lt a]
    · rw [h.2 i a hi, ih (i - p) (by omega) (by omega), Nat.mod_eq_sub_mod a]
theorem pd_of_mod {l : List Int} {p : Nat} (hp : 0 < p) (h0 : l.length % p = 0) (h : ∀ i, i < l.length → l.getD i 0 = l.getD (i % p) 0) : Pd l p := by
  refine ⟨h0, fun i h1 h2 => ?_⟩
  rw [h i h2, h (i - p) (by omega), Nat.mod_eq_sub_mod h1]
/-- The least length of a list that a list is several times. -/
def IsPer (l : List Int) (p : Nat) : Prop := 0 < p ∧ p ≤ l.length ∧ Pd l p ∧ ∀ q, 0 < q → q < p → ¬ Pd l q
theorem pd_self (l : List Int) : Pd l l.length := ⟨Nat.mod_self _, fun i h1 h2 => by omega⟩
theorem IsPer.unique {l : List Int} {p q : Nat} (h : IsPer l p) (g : IsPer l q) : p = q := by
  rcases Nat.lt_trichotomy p q with a | a | a
  · exact absurd h.2.2.1 (g.2.2.2 p h.1 a)
  · exact a
  · exact absurd g.2.2.1 (h.2.2.2 q g.1 a)
theorem isPer_ex {l : List Int} (hl : 0 < l.length) : ∃ p, IsPer l p := by
  have : ∀ n, n ≤ l.length → (∃ p, IsPer l p) ∨ ∀ q, 0 < q → q ≤ n → ¬ Pd l q := by
    intro n
    induction n with
    | zero => exact fun _ => .inr fun q h1 h2 => by omega
    | succ n ih =>
      intro hn
      rcases ih (by omega) with h | h
      · exact .inl h
      · by_cases hp : Pd l (n + 1)
        · exact .inl ⟨n + 1, by omega, hn, hp, fun q h1 h2 => h q h1 (by omega)⟩
        · refine .inr fun q h1 h2 => ?_
          rcases Nat.lt_or_ge q (n + 1) with a | a
          · exact h q h1 (by omega)
          · rw [show q = n + 1 by omega]; exact hp
  rcases this l.length (Nat.le_refl _) with h | h
  · exact h
  · exact absurd (pd_self l) (h _ hl (Nat.le_refl _))
noncomputable def per (l : List Int) : Nat := if h : 0 < l.length then Classical.choose (isPer_ex h) else 0
theorem per_is {l : List Int} (hl : 0 < l.length) : IsPer l (per l) := by
  unfold per
  rw [dif_pos hl]
  exact Classical.choose_spec (isPer_ex hl)
theorem per_eq {l : List Int} {p : Nat} (h : IsPer l p) : per l = p := (per_is (Nat.lt_of_lt_of_le h.1 h.2.1)).unique h
/-- The last letters of a stem that the loop tells as well. -/
def Mt (s l : List Int) (t : Nat) : Prop := s.getD (s.length - 1 - t) 0 = l.getD (l.length - 1 - t % l.length) 0
def IsCut (s l : List Int) (t : Nat) : Prop := t ≤ s.length ∧ (∀ u, u < t → Mt s l u) ∧ (t = s.length ∨ ¬ Mt s l t)
theorem IsCut.unique {s l : List Int} {t u : Nat} (h : IsCut s l t) (g : IsCut s l u) : t = u := by
  rcases Nat.lt_trichotomy t u with a | a | a
  · rcases h.2.2 with b | b
    · have := g.1; omega
    · exact absurd (g.2.1 t a) b
  · exact a
  · rcases g.2.2 with b | b
    · have := h.1; omega
    · exact absurd (h.2.1 u a) b
theorem isCut_ex (s l : List Int) : ∃ t, IsCut s l t := by
  have : ∀ n, n ≤ s.length → (∃ t, IsCut s l t) ∨ ∀ u, u < n → Mt s l u := by
    intro n
    induction n with
    | zero => exact fun _ => .inr fun u h => by omega
    | succ n ih =>
      intro hn
      rcases ih (by omega) with h | h
      · exact .inl h
      · by_cases hp : Mt s l n
        · refine .inr fun u hu => ?_
          rcases Nat.lt_or_ge u n with a | a
          · exact h u a
          · rw [show u = n by omega]; exact hp
        · exact .inl ⟨n, by omega, h, .inr hp⟩
  rcases this s.length (Nat.le_refl _) with h | h
  · exact h
  · exact ⟨s.length, Nat.le_refl _, h, .inl rfl⟩
noncomputable def cut (s l : List Int) : Nat := Classical.choose (isCut_ex s l)
theorem cut_is (s l : List Int) : IsCut s l (cut s l) := Classical.choose_spec (isCut_ex s l)
theorem cut_eq {s l : List Int} {t : Nat} (h : IsCut s l t) : cut s l = t := (cut_is s l).unique h
/-- A list turned to the right. -/
def rot (l : List Int) (k : Nat) : List Int := l.drop (l.length - k) ++ l.take (l.length - k)
theorem rot_length (l : List Int) (k : Nat) : (rot l k).length = l.length := by
  unfold rot
  rw [List.length_append, List.length_drop, List.length_take]
  omega
theorem rot_zero (l : List Int) : rot l 0 = l := by simp [rot]
theorem rot_full (l : List Int) : rot l l.length = l := by simp [rot]
/-- The last one of a turned list. -/
theorem rot_last {l : List Int} {k : Nat} (hk : k < l.length) : (rot l k).getD (l.length - 1) 0 = l.getD (l.length - 1 - k) 0 := by
  unfold rot
  rw [List.getD_eq_getElem?_getD, List.getElem?_append_right (by rw [List.length_drop]; omega), List.length_drop, List.getElem?_take, if_pos (by omega), ← List.getD_eq_getElem?_getD]
  congr 1
  omega
/-- One step more. -/
theorem rot_step {l : List Int} {k : Nat} (hk : k < l.length) : (rot l k).getD (l.length - 1) 0 :: (rot l k).take (l.length - 1) = rot l ((k + 1) % l.length) := by
  rw [rot_last hk]
  have e : rot l (k + 1) = l.getD (l.length - 1 - k) 0 :: (rot l k).take (l.length - 1) := by
    unfold rot
    have h1 : l.length - (k + 1) < l.length := by omega
    rw [List.drop_eq_getElem_cons h1, List.cons_append, show l.length - (k + 1) + 1 = l.length - k by omega]
    congr 1
    · rw [List.getD_eq_getElem?_getD, List.getElem?_eq_getElem (by omega)]
      simp only [Option.getD_some]
      congr 1
      omega
    · have h2 : (l.drop (l.length - k)).take (l.length - 1) = l.drop (l.length - k) := List.take_of_length_le (by rw [List.length_drop]; omega)
      rw [List.take_append, h2, List.length_drop, List.take_take]
      congr 2
      omega
  rcases Nat.lt_or_ge (k + 1) l.length with a | a
  · rw [Nat.mod_eq_of_lt a, e]
  · have : k + 1 = l.length := by omega
    rw [this, Nat.mod_self, rot_zero, ← e, this, rot_full]
noncomputable def nf (w : Wd) : Wd := ⟨w.stem.take (w.stem.length - cut w.stem (w.loop.take (per w.loop))), rot (w.loop.take (per w.loop)) (cut w.stem (w.loop.take (per w.loop)) % per w.loop)⟩
theorem per_take {l : List Int} (hl : 0 < l.length) : (l.take (per l)).length = per l := by
  have := (per_is hl).2.1
  rw [List.length_take]
  omega
theorem nf_lens {w : Wd} (hl : 0 < w.loop.length) : (nf w).stem.length ≤ w.stem.length ∧ (nf w).loop.length = per w.loop ∧ (nf w).loop.length ≤ w.loop.length ∧ 0 < (nf w).loop.length := by
  have h := per_is hl
  have e : (nf w).loop.length = per w.loop := by
    unfold nf
    dsimp only
    rw [rot_length, per_take hl]
  refine ⟨?_, e, ?_, ?_⟩
  · unfold nf; dsimp only; rw [List.length_take]; omega
  · rw [e]; exact h.2.1
  · rw [e]; exact h.1
end Go.Proofs.YthjemhlcojmiaaaDoor
