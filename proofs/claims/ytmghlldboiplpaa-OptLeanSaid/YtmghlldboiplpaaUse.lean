/- The gates that are used: in plain words. -/
import Derived.Test.YtmghlldboiplpaaStp
set_option linter.unusedVariables false
set_option linter.unusedSimpArgs false
namespace Go.Proofs.Ytmghlldboiplpaa
open Go Go.Vh Go.Vk Go.Proofs
/-- How many variables there are that no gate makes. -/
def Cir.nv (c : Cir) : Nat := c.inp.toNat + c.latch.length + 1
/-- A gate is used: a latch or an output asks for it, or a gate that is used does. -/
inductive Cir.Used (c : Cir) : Nat → Prop where
  | root (k : Nat) (l : Int) : l ∈ c.latch ++ c.out → (l / 2).toNat = c.nv + k → Cir.Used c k
  | more (j k : Nat) : j < c.gates.length → Cir.Used c j → ((c.gates.getD j (0, 0)).1 / 2).toNat = c.nv + k ∨ ((c.gates.getD j (0, 0)).2 / 2).toNat = c.nv + k → Cir.Used c k
def markL (b : Nat) (u : List Bool) (l : Int) : List Bool := if b ≤ (l / 2).toNat then u.set ((l / 2).toNat - b) true else u
def marks (b : Nat) (u : List Bool) (ls : List Int) : List Bool := ls.foldl (markL b) u
/-- After the latches, the outputs, and the last gates. -/
def Cir.sweep (c : Cir) : Nat → List Bool
  | 0 => marks c.nv (List.replicate c.gates.length false) (c.latch ++ c.out)
  | n + 1 => if (c.sweep n).getD (c.gates.length - 1 - n) false = true then marks c.nv (c.sweep n) [(c.gates.getD (c.gates.length - 1 - n) (0, 0)).1, (c.gates.getD (c.gates.length - 1 - n) (0, 0)).2] else c.sweep n
def Cir.usedL (c : Cir) : List Bool := c.sweep c.gates.length
theorem markL_length (b : Nat) (u : List Bool) (l : Int) : (markL b u l).length = u.length := by unfold markL; split <;> simp
theorem marks_length (b : Nat) : ∀ (ls : List Int) (u : List Bool), (marks b u ls).length = u.length
  | [], u => rfl
  | l :: ls, u => by rw [marks, List.foldl_cons]; exact (marks_length b ls _).trans (markL_length b u l)
theorem sweep_length (c : Cir) : ∀ n, (c.sweep n).length = c.gates.length
  | 0 => by rw [Cir.sweep, marks_length]; simp
  | n + 1 => by
    rw [Cir.sweep]
    split
    · rw [marks_length, sweep_length c n]
    · exact sweep_length c n
theorem markL_getD (b : Nat) (u : List Bool) (l : Int) {k : Nat} (hk : k < u.length) : (markL b u l).getD k false = true ↔ u.getD k false = true ∨ (l / 2).toNat = b + k := by
  unfold markL
  split
  · rename_i h
    rw [List.getD_eq_getElem?_getD, List.getElem?_set]
    by_cases e : (l / 2).toNat - b = k
    · rw [if_pos e, if_pos (by omega)]
      exact ⟨fun _ => .inr (by omega), fun _ => rfl⟩
    · rw [if_neg e, ← List.getD_eq_getElem?_getD]
      exact ⟨.inl, fun h => h.resolve_right fun h => by omega⟩
  · exact ⟨.inl, fun h => h.resolve_right fun h => by omega⟩
theorem marks_getD (b : Nat) : ∀ (ls : List Int) (u : List Bool) {k : Nat}, k < u.length → ((marks b u ls).getD k false = true ↔ u.getD k false = true ∨ ∃ l ∈ ls, (l / 2).toNat = b + k)
  | [], u, k, hk => ⟨.inl, fun h => h.resolve_right fun ⟨l, hl, _⟩ => absurd hl List.not_mem_nil⟩
  | l :: ls, u, k, hk => by
    rw [marks, List.foldl_cons]
    refine (marks_getD b ls (markL b u l) (by rw [markL_length]; exact hk)).trans ?_
    rw [markL_getD b u l hk]
    constructor
    · rintro ((h | h) | ⟨l', h1, h2⟩)
      · exact .inl h
      · exact .inr ⟨l, List.mem_cons_self, h⟩
      · exact .inr ⟨l', List.mem_cons_of_mem _ h1, h2⟩
    · rintro (h | ⟨l', h1, h2⟩)
      · exact .inl (.inl h)
      · rcases List.mem_cons.1 h1 with rfl | h1
        · exact .inl (.inr h2)
        · exact .inr ⟨l', h1, h2⟩
theorem sweep_sound (c : Cir) : ∀ n k, n ≤ c.gates.length → k < c.gates.length → (c.sweep n).getD k false = true → c.Used k
  | 0, k, hn, hk, h => by
    rw [Cir.sweep, marks_getD _ _ _ (by simpa using hk)] at h
    rcases h with h | ⟨l, h1, h2⟩
    · rw [List.getD_eq_getElem?_getD, List.getElem?_replicate, if_pos hk] at h
      exact absurd h (by simp)
    · exact .root k l h1 h2
  | n + 1, k, hn, hk, h => by
    rw [Cir.sweep] at h
    split at h
    · rename_i hu
      rw [marks_getD _ _ _ (by rw [sweep_length]; exact hk)] at h
      rcases h with h | ⟨l, h1, h2⟩
      · exact sweep_sound c n k (by omega) hk h
      · refine .more (c.gates.length - 1 - n) k (by omega) (sweep_sound c n _ (by omega) (by omega) hu) ?_
        simp only [List.mem_cons, List.not_mem_nil, or_false] at h1
        rcases h1 with rfl | rfl
        · exact .inl h2
        · exact .inr h2
    · exact sweep_sound c n k (by omega) hk h
theorem sweep_mono (c : Cir) (n k : Nat) (hk : k < c.gates.length) (h : (c.sweep n).getD k false = true) : ∀ m, (c.sweep (n + m)).getD k false = true
  | 0 => h
  | m + 1 => by
    rw [← Nat.add_assoc, Cir.sweep]
    split
    · rw [marks_getD _ _ _ (by rw [sweep_length]; exact hk)]
      exact .inl (sweep_mono c n k hk h m)
    · exact sweep_mono c n k hk h m
/-- A gate that is marked late has been marked before its turn. -/
theorem sweep_late (c : Cir) (ho : ∀ j, j < c.gates.length → c.GateOk j) (h0 : 0 ≤ c.inp) (k : Nat) (hk : k < c.gates.length) : ∀ m, c.gates.length - 1 - k + m ≤ c.gates.length → (c.sweep (c.gates.length - 1 - k + m)).getD k false = true → (c.sweep (c.gates.length - 1 - k)).getD k false = true
  | 0, _, h => h
  | m + 1, hm, h => by
    refine sweep_late c ho h0 k hk m (by omega) ?_
    rw [← Nat.add_assoc, Cir.sweep] at h
    split at h
    · rw [marks_getD _ _ _ (by rw [sweep_length]; exact hk)] at h
      refine h.resolve_right ?_
      rintro ⟨l, h1, h2⟩
      have := ho (c.gates.length - 1 - (c.gates.length - 1 - k + m)) (by omega)
      unfold Cir.GateOk inR Cir.own at this
      unfold Cir.nv at h2
      simp only [List.mem_cons, List.not_mem_nil, or_false] at h1
      rcases h1 with rfl | rfl <;> omega
    · exact h
theorem usedL_iff (c : Cir) (ho : ∀ j, j < c.gates.length → c.GateOk j) (h0 : 0 ≤ c.inp) {k : Nat} (hk : k < c.gates.length) : c.usedL.getD k false = true ↔ c.Used k := by
  refine ⟨sweep_sound c _ k (Nat.le_refl _) hk, fun h => ?_⟩
  induction h with
  | root k l h1 h2 =>
    have : (c.sweep 0).getD k false = true := by
      rw [Cir.sweep, marks_getD _ _ _ (by simpa using hk)]
      exact .inr ⟨l, h1, h2⟩
    have := sweep_mono c 0 k hk this c.gates.length
    rwa [Nat.zero_add] at this
  | more j k hj hu e ih =>
    have hj2 := ih hj
    have e1 : c.gates.length - 1 - j + (j + 1) = c.gates.length := by omega
    have := sweep_late c ho h0 j hj (j + 1) (by omega) (by rw [e1]; exact hj2)
    have h3 : (c.sweep (c.gates.length - 1 - j + 1)).getD k false = true := by
      have ej : c.gates.length - 1 - (c.gates.length - 1 - j) = j := by omega
      rw [Cir.sweep, ej, if_pos this, marks_getD _ _ _ (by rw [sweep_length]; exact hk)]
      refine .inr ?_
      rcases e with e | e
      · exact ⟨_, List.mem_cons_self, e⟩
      · exact ⟨_, List.mem_cons_of_mem _ List.mem_cons_self, e⟩
    have h4 := sweep_mono c _ k hk h3 j
    rwa [show c.gates.length - 1 - j + 1 + j = c.gates.length by omega] at h4
end Go.Proofs.Ytmghlldboiplpaa
