/- A circuit without the gates that are not used: in plain words. -/
import Derived.Test.YtmghlldboiplpaaUse
set_option linter.unusedVariables false
set_option linter.unusedSimpArgs false
namespace Go.Proofs.Ytmghlldboiplpaa
open Go Go.Vh Go.Vk Go.Proofs
/-- How many of the first ones are kept. -/
def pk (p : Nat → Bool) : Nat → Nat
  | 0 => 0
  | k + 1 => pk p k + if p k = true then 1 else 0
theorem pk_le (p : Nat → Bool) : ∀ k, pk p k ≤ k
  | 0 => Nat.le_refl _
  | k + 1 => by have := pk_le p k; rw [pk]; split <;> omega
theorem pk_mono (p : Nat → Bool) (j : Nat) : ∀ m, pk p j ≤ pk p (j + m)
  | 0 => Nat.le_refl _
  | m + 1 => by have := pk_mono p j m; rw [← Nat.add_assoc, pk]; omega
theorem pk_lt {p : Nat → Bool} {j k : Nat} (h : j < k) (hp : p j = true) : pk p j < pk p k := by
  have := pk_mono p (j + 1) (k - (j + 1))
  rw [show j + 1 + (k - (j + 1)) = k by omega, pk, if_pos hp] at this
  omega
theorem pk_inj {p : Nat → Bool} {j k : Nat} (hj : p j = true) (hk : p k = true) (h : pk p j = pk p k) : j = k := by
  rcases Nat.lt_trichotomy j k with a | a | a
  · have := pk_lt a hj; omega
  · exact a
  · have := pk_lt a hk; omega
theorem pk_surj {p : Nat → Bool} : ∀ {n i : Nat}, i < pk p n → ∃ k, k < n ∧ p k = true ∧ pk p k = i
  | 0, i, h => absurd h (Nat.not_lt_zero _)
  | n + 1, i, h => by
    by_cases hi : i < pk p n
    · obtain ⟨k, h1, h2⟩ := pk_surj hi
      exact ⟨k, by omega, h2⟩
    · rw [pk] at h
      split at h
      · rename_i hp
        exact ⟨n, by omega, hp, by omega⟩
      · omega
theorem pk_all {p : Nat → Bool} : ∀ {n : Nat}, (∀ k, k < n → p k = true) → ∀ k, k ≤ n → pk p k = k
  | n, h, 0, _ => rfl
  | n, h, k + 1, hk => by rw [pk, pk_all h k (by omega), if_pos (h k (by omega))]
/-- The kept ones, each made anew. -/
def kept {α : Type} (p : Nat → Bool) (f : Nat → α) : Nat → List α
  | 0 => []
  | k + 1 => if p k = true then kept p f k ++ [f k] else kept p f k
theorem kept_length {α : Type} (p : Nat → Bool) (f : Nat → α) : ∀ k, (kept p f k).length = pk p k
  | 0 => rfl
  | k + 1 => by rw [kept, pk]; split <;> simp [kept_length p f k]
theorem kept_get {α : Type} (p : Nat → Bool) (f : Nat → α) (d : α) : ∀ {n k : Nat}, k < n → p k = true → (kept p f n).getD (pk p k) d = f k
  | 0, k, h, _ => absurd h (Nat.not_lt_zero _)
  | n + 1, k, h, hp => by
    have hl := kept_length p f n
    rw [kept]
    rcases Nat.lt_or_ge k n with a | a
    · have ih := kept_get p f d a hp
      split
      · rw [List.getD_eq_getElem?_getD, List.getElem?_append_left (by rw [hl]; exact pk_lt a hp), ← List.getD_eq_getElem?_getD]
        exact ih
      · exact ih
    · obtain rfl : k = n := by omega
      rw [if_pos hp, List.getD_eq_getElem?_getD, List.getElem?_append_right (by rw [hl]; exact Nat.le_refl _), hl, Nat.sub_self]
      rfl
def Cir.isU (c : Cir) (k : Nat) : Bool := c.usedL.getD k false
/-- The new number of a variable. -/
def Cir.reV (c : Cir) (v : Nat) : Nat := if v < c.nv then v else if c.isU (v - c.nv) = true then c.nv + pk c.isU (v - c.nv) else 0
def Cir.reL (c : Cir) (l : Int) : Int := 2 * (c.reV (l / 2).toNat : Int) + l % 2
def Cir.drop (c : Cir) : Cir := ⟨c.inp, c.latch.map c.reL, kept c.isU (fun k => (c.reL (c.gates.getD k (0, 0)).1, c.reL (c.gates.getD k (0, 0)).2)) c.gates.length, c.out.map c.reL⟩
/-- What a circuit without spare gates speaks of. -/
def Cir.Good (c : Cir) (l : Int) : Prop := 0 ≤ l ∧ ((l / 2).toNat < c.nv ∨ ∃ k, k < c.gates.length ∧ (l / 2).toNat = c.nv + k ∧ c.isU k = true)
theorem isU_iff {c : Cir} (ho : c.Ok) {k : Nat} (hk : k < c.gates.length) : c.isU k = true ↔ c.Used k := usedL_iff c ho.g ho.s.1 hk
theorem good_root {c : Cir} (ho : c.Ok) {l : Int} (h : l ∈ c.latch ++ c.out) : c.Good l := by
  have hr : inR c.most l := by
    rcases List.mem_append.1 h with h | h
    · exact ho.l l h
    · exact ho.o l h
  have h0 := ho.s.1
  unfold inR Cir.most Cir.vars at hr
  refine ⟨hr.1, ?_⟩
  rcases Nat.lt_or_ge (l / 2).toNat c.nv with a | a
  · exact .inl a
  · have hk : (l / 2).toNat - c.nv < c.gates.length := by unfold Cir.nv at a ⊢; omega
    exact .inr ⟨(l / 2).toNat - c.nv, hk, by omega, (isU_iff ho hk).2 (.root _ l h (by omega))⟩
theorem good_gate {c : Cir} (ho : c.Ok) {j : Nat} (hj : j < c.gates.length) (hu : c.isU j = true) {l : Int} (h : l = (c.gates.getD j (0, 0)).1 ∨ l = (c.gates.getD j (0, 0)).2) : c.Good l ∧ (l / 2).toNat < c.nv + j := by
  have hg := ho.g j hj
  have h0 := ho.s.1
  unfold Cir.GateOk inR Cir.own at hg
  have hr : 0 ≤ l ∧ (l / 2).toNat < c.nv + j := by
    unfold Cir.nv
    rcases h with rfl | rfl <;> omega
  refine ⟨⟨hr.1, ?_⟩, hr.2⟩
  rcases Nat.lt_or_ge (l / 2).toNat c.nv with a | a
  · exact .inl a
  · have hk : (l / 2).toNat - c.nv < c.gates.length := by omega
    refine .inr ⟨(l / 2).toNat - c.nv, hk, by omega, (isU_iff ho hk).2 (.more j _ hj ((isU_iff ho hj).1 hu) ?_)⟩
    rcases h with rfl | rfl
    · exact .inl (by omega)
    · exact .inr (by omega)
theorem reL_div {c : Cir} {l : Int} (h : 0 ≤ l) : (c.reL l / 2).toNat = c.reV (l / 2).toNat ∧ c.reL l % 2 = l % 2 := by
  unfold Cir.reL
  omega
/-- The new numbers keep the order. -/
theorem reV_lt {c : Cir} {l m : Int} (hl : c.Good l) (hm : c.Good m) (h : (l / 2).toNat < (m / 2).toNat) : c.reV (l / 2).toNat < c.reV (m / 2).toNat := by
  unfold Cir.reV
  rcases hl.2 with a | ⟨j, j1, j2, j3⟩
  · rw [if_pos a]
    rcases hm.2 with b | ⟨k, k1, k2, k3⟩
    · rw [if_pos b]; exact h
    · rw [k2, if_neg (by omega), show c.nv + k - c.nv = k by omega, if_pos k3]; omega
  · rcases hm.2 with b | ⟨k, k1, k2, k3⟩
    · omega
    · rw [j2, if_neg (by omega), show c.nv + j - c.nv = j by omega, if_pos j3, k2, if_neg (by omega), show c.nv + k - c.nv = k by omega, if_pos k3]
      have := pk_lt (p := c.isU) (show j < k by omega) j3
      omega
theorem reL_lt {c : Cir} {l m : Int} (hl : c.Good l) (hm : c.Good m) (h : l < m) : c.reL l < c.reL m := by
  have l0 := hl.1
  have m0 := hm.1
  rcases Nat.lt_or_ge (l / 2).toNat (m / 2).toNat with a | a
  · have := reV_lt hl hm a
    unfold Cir.reL
    omega
  · have e : (l / 2).toNat = (m / 2).toNat := by omega
    unfold Cir.reL
    rw [e]
    omega
theorem reL_inj {c : Cir} {l m : Int} (hl : c.Good l) (hm : c.Good m) (h : c.reL l = c.reL m) : l = m := by
  rcases Int.lt_trichotomy l m with a | a | a
  · have := reL_lt hl hm a; omega
  · exact a
  · have := reL_lt hm hl a; omega
theorem drop_nv (c : Cir) : c.drop.nv = c.nv := by simp [Cir.drop, Cir.nv]
theorem drop_len (c : Cir) : c.drop.gates.length = pk c.isU c.gates.length := kept_length _ _ _
theorem drop_gate {c : Cir} {k : Nat} (hk : k < c.gates.length) (hu : c.isU k = true) : c.drop.gates.getD (pk c.isU k) (0, 0) = (c.reL (c.gates.getD k (0, 0)).1, c.reL (c.gates.getD k (0, 0)).2) := kept_get _ _ _ hk hu
theorem reV_top {c : Cir} {l : Int} (hl : c.Good l) {n : Nat} (hn : (l / 2).toNat < c.nv + n) : c.reV (l / 2).toNat < c.nv + pk c.isU n := by
  unfold Cir.reV
  rcases hl.2 with a | ⟨j, j1, j2, j3⟩
  · rw [if_pos a]; omega
  · rw [j2, if_neg (by omega), show c.nv + j - c.nv = j by omega, if_pos j3]
    have := pk_lt (p := c.isU) (show j < n by omega) j3
    omega
theorem drop_ok {c : Cir} (ho : c.Ok) : c.drop.Ok := by
  have hs := ho.s
  have hlen := drop_len c
  have hle := pk_le c.isU c.gates.length
  have hnv : (c.nv : Int) = c.inp + c.latch.length + 1 := by unfold Cir.nv; have := hs.1; omega
  have e1 : c.drop.latch.length = c.latch.length := by simp [Cir.drop]
  have e2 : c.drop.out.length = c.out.length := by simp [Cir.drop]
  have e3 : c.drop.inp = c.inp := rfl
  have root : ∀ l, l ∈ c.latch ++ c.out → inR c.drop.most (c.reL l) := fun l hl => by
    have hg := good_root ho hl
    have ht := reV_top hg (n := c.gates.length) (by
      rcases hg.2 with a | ⟨k, k1, k2, _⟩ <;> omega)
    have h0 := hg.1
    unfold inR Cir.most Cir.vars Cir.reL
    rw [e1, e3, hlen]
    omega
  refine ⟨?_, ?_, ?_, ?_⟩
  · unfold Cir.Small at hs ⊢
    rw [e1, e2, e3, hlen]
    omega
  · intro x hx
    obtain ⟨l, hl, rfl⟩ := List.mem_map.1 hx
    exact root l (List.mem_append_left _ hl)
  · intro x hx
    obtain ⟨l, hl, rfl⟩ := List.mem_map.1 hx
    exact root l (List.mem_append_right _ hl)
  · intro i hi
    rw [hlen] at hi
    obtain ⟨k, hk, hu, rfl⟩ := pk_surj hi
    unfold Cir.GateOk
    rw [drop_gate hk hu]
    have ga := good_gate ho hk hu (.inl rfl)
    have gb := good_gate ho hk hu (.inr rfl)
    have ta := reV_top ga.1 ga.2
    have tb := reV_top gb.1 gb.2
    have a0 := ga.1.1
    have b0 := gb.1.1
    unfold inR Cir.own Cir.reL
    rw [e1, e3]
    dsimp only
    omega
/-- Every gate that is left is used. -/
theorem drop_used {c : Cir} (ho : c.Ok) {k : Nat} (h : c.Used k) : k < c.gates.length → c.drop.Used (pk c.isU k) := by
  induction h with
  | root k l h1 h2 =>
    intro hk
    have hu : c.isU k = true := (isU_iff ho hk).2 (.root k l h1 h2)
    refine .root _ (c.reL l) ?_ ?_
    · show c.reL l ∈ c.latch.map c.reL ++ c.out.map c.reL
      rw [← List.map_append]
      exact List.mem_map_of_mem h1
    · rw [(reL_div (good_root ho h1).1).1, h2, drop_nv, Cir.reV, if_neg (by omega), show c.nv + k - c.nv = k by omega, if_pos hu]
  | more j k hj hu e ih =>
    intro hk
    have huj : c.isU j = true := (isU_iff ho hj).2 hu
    have huk : c.isU k = true := (isU_iff ho hk).2 (.more j k hj hu e)
    refine .more (pk c.isU j) _ (by rw [drop_len]; exact pk_lt hj huj) (ih hj) ?_
    rw [drop_gate hj huj, drop_nv]
    dsimp only
    rcases e with e | e
    · refine .inl ?_
      rw [(reL_div (good_gate ho hj huj (.inl rfl)).1.1).1, e, Cir.reV, if_neg (by omega), show c.nv + k - c.nv = k by omega, if_pos huk]
    · refine .inr ?_
      rw [(reL_div (good_gate ho hj huj (.inr rfl)).1.1).1, e, Cir.reV, if_neg (by omega), show c.nv + k - c.nv = k by omega, if_pos huk]
/-- A gate in its right form. -/
def Cir.Norm (c : Cir) : Prop := (∀ k, k < c.gates.length → 2 ≤ (c.gates.getD k (0, 0)).1 ∧ (c.gates.getD k (0, 0)).1 < (c.gates.getD k (0, 0)).2 ∧ (c.gates.getD k (0, 0)).1 / 2 ≠ (c.gates.getD k (0, 0)).2 / 2) ∧ ∀ j k, j < k → k < c.gates.length → c.gates.getD j (0, 0) ≠ c.gates.getD k (0, 0)
def Cir.Slim (c : Cir) : Prop := c.Norm ∧ ∀ k, k < c.gates.length → c.Used k
theorem drop_slim {c : Cir} (ho : c.Ok) (hn : c.Norm) : c.drop.Slim := by
  refine ⟨⟨fun i hi => ?_, fun i i' hii hi' => ?_⟩, fun i hi => ?_⟩
  · rw [drop_len] at hi
    obtain ⟨k, hk, hu, rfl⟩ := pk_surj hi
    rw [drop_gate hk hu]
    have ga := (good_gate ho hk hu (.inl rfl)).1
    have gb := (good_gate ho hk hu (.inr rfl)).1
    obtain ⟨n1, n2, n3⟩ := hn.1 k hk
    have hlt := reL_lt ga gb n2
    dsimp only
    have hv : ((c.gates.getD k (0, 0)).1 / 2).toNat < ((c.gates.getD k (0, 0)).2 / 2).toNat := by omega
    have hvl := reV_lt ga gb hv
    have d1 := reL_div (c := c) ga.1
    have d2 := reL_div (c := c) gb.1
    have hnz : 1 ≤ c.reV ((c.gates.getD k (0, 0)).1 / 2).toNat := by
      unfold Cir.reV
      rcases ga.2 with a | ⟨j, j1, j2, j3⟩
      · rw [if_pos a]; omega
      · rw [j2, if_neg (by omega), show c.nv + j - c.nv = j by omega, if_pos j3]
        have : 1 ≤ c.nv := by unfold Cir.nv; omega
        omega
    refine ⟨?_, hlt, ?_⟩
    · unfold Cir.reL; omega
    · omega
  · rw [drop_len] at hi'
    obtain ⟨k', hk', hu', rfl⟩ := pk_surj hi'
    obtain ⟨k, hk, hu, rfl⟩ := pk_surj (Nat.lt_trans hii hi')
    have hlt : k < k' := by
      rcases Nat.lt_trichotomy k k' with a | a | a
      · exact a
      · subst a; omega
      · have := pk_lt a hu'; omega
    rw [drop_gate hk hu, drop_gate hk' hu']
    intro e
    have e1 := reL_inj (good_gate ho hk hu (.inl rfl)).1 (good_gate ho hk' hu' (.inl rfl)).1 (congrArg Prod.fst e)
    have e2 := reL_inj (good_gate ho hk hu (.inr rfl)).1 (good_gate ho hk' hu' (.inr rfl)).1 (congrArg Prod.snd e)
    exact hn.2 k k' hlt hk' (Prod.ext e1 e2)
  · rw [drop_len] at hi
    obtain ⟨k, hk, hu, rfl⟩ := pk_surj hi
    exact drop_used ho ((isU_iff ho hk).1 hu) hk
end Go.Proofs.Ytmghlldboiplpaa
