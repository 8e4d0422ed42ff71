/- What a circuit tells does not change when gates that are not used go. -/
import Derived.Test.YtmghlldboiplpaaDrp
set_option linter.unusedVariables false
set_option linter.unusedSimpArgs false
namespace Go.Proofs.Ytmghlldboiplpaa
open Go Go.Vh Go.Vk Go.Proofs
theorem gfold_pre : ∀ (gs : List (Int × Int)) (v : List Bool) {t : Nat}, t < v.length → (gfold gs v).getD t false = v.getD t false
  | [], v, t, h => rfl
  | g :: gs, v, t, h => by
    show (gfold gs (v ++ [_])).getD t false = _
    rw [gfold_pre gs _ (by rw [List.length_append]; omega), List.getD_eq_getElem?_getD, List.getElem?_append_left h, ← List.getD_eq_getElem?_getD]
theorem nv_eq (c : Cir) : c.nv = 1 + c.inp.toNat + c.latch.length := by unfold Cir.nv; omega
/-- A variable that no gate makes. -/
theorem vals_base (c : Cir) (i s : Nat) {v : Nat} (h : v < c.nv) : (c.vals i s).getD v false = (vals0 c i s).getD v false :=
  gfold_pre _ _ (by rw [vals0_length, ← nv_eq]; exact h)
/-- A gate's variable. -/
theorem vals_gate {c : Cir} (hg : ∀ k, k < c.gates.length → ((c.gates.getD k (0, 0)).1 / 2).toNat < c.nv + k ∧ ((c.gates.getD k (0, 0)).2 / 2).toNat < c.nv + k) (i s : Nat) {k : Nat} (hk : k < c.gates.length) : (c.vals i s).getD (c.nv + k) false = (lit (c.vals i s) (c.gates.getD k (0, 0)).1 && lit (c.vals i s) (c.gates.getD k (0, 0)).2) := by
  have e : c.gates = c.gates.take k ++ (c.gates.getD k (0, 0) :: c.gates.drop (k + 1)) := by
    rw [List.getD_eq_getElem?_getD, List.getElem?_eq_getElem hk]
    show c.gates = _ ++ (c.gates[k] :: _)
    rw [List.getElem_cons_drop, List.take_append_drop]
  have hp : (gfold (c.gates.take k) (vals0 c i s)).length = c.nv + k := by
    rw [gfold_length, vals0_length, List.length_take, nv_eq, Nat.min_eq_left (by omega)]
  have hv : c.vals i s = gfold (c.gates.drop (k + 1)) (gfold (c.gates.take k) (vals0 c i s) ++ [lit (gfold (c.gates.take k) (vals0 c i s)) (c.gates.getD k (0, 0)).1 && lit (gfold (c.gates.take k) (vals0 c i s)) (c.gates.getD k (0, 0)).2]) := by
    unfold Cir.vals
    conv => lhs; rw [e]
    rw [gfold_append]
    rfl
  have hpre : ∀ t, t < c.nv + k → (gfold (c.gates.take k) (vals0 c i s)).getD t false = (c.vals i s).getD t false := fun t ht => by
    refine Eq.trans ?_ ((congrArg (fun v => List.getD v t false) hv).trans (gfold_pre _ _ (by rw [List.length_append, hp]; omega))).symm
    rw [List.getD_eq_getElem?_getD (l := _ ++ _), List.getElem?_append_left (by rw [hp]; exact ht), ← List.getD_eq_getElem?_getD]
  have hl : ∀ l : Int, (l / 2).toNat < c.nv + k → lit (gfold (c.gates.take k) (vals0 c i s)) l = lit (c.vals i s) l := fun l h => by
    unfold lit; rw [hpre _ h]
  rw [← hl _ (hg k hk).1, ← hl _ (hg k hk).2]
  conv => lhs; rw [hv]
  rw [gfold_pre _ _ (by rw [List.length_append, hp]; simp), List.getD_eq_getElem?_getD, List.getElem?_append_right (by rw [hp]; omega), hp, Nat.sub_self]
  rfl
theorem ok_below {c : Cir} (ho : c.Ok) : ∀ k, k < c.gates.length → ((c.gates.getD k (0, 0)).1 / 2).toNat < c.nv + k ∧ ((c.gates.getD k (0, 0)).2 / 2).toNat < c.nv + k := fun k hk => by
  have h := ho.g k hk
  have h0 := ho.s.1
  unfold Cir.GateOk inR Cir.own at h
  unfold Cir.nv
  omega
theorem drop_vals0 (c : Cir) (i s : Nat) : vals0 c.drop i s = vals0 c i s := by
  unfold vals0
  rw [show c.drop.latch.length = c.latch.length by simp [Cir.drop]]
  rfl
theorem lit_reL {c : Cir} {l : Int} (h : 0 ≤ l) {v w : List Bool} (e : v.getD (c.reV (l / 2).toNat) false = w.getD (l / 2).toNat false) : lit v (c.reL l) = lit w l := by
  unfold lit
  rw [(reL_div h).1, (reL_div h).2, e]
theorem drop_sem {c : Cir} (ho : c.Ok) (i s : Nat) : ∀ (n : Nat) (l : Int), (l / 2).toNat = n → c.Good l → (c.drop.vals i s).getD (c.reV n) false = (c.vals i s).getD n false := by
  intro n
  induction n using Nat.strongRecOn with
  | ind n ih =>
    intro l hl hg
    rcases hg.2 with a | ⟨k, k1, k2, k3⟩
    · rw [Cir.reV, if_pos (by omega), vals_base c i s (by omega), vals_base c.drop i s (by rw [drop_nv]; omega), drop_vals0]
    · have e : c.reV n = c.drop.nv + pk c.isU k := by
        rw [drop_nv, Cir.reV, if_neg (by omega), show n - c.nv = k by omega, if_pos k3]
      rw [e, vals_gate (ok_below (drop_ok ho)) i s (by rw [drop_len]; exact pk_lt k1 k3), drop_gate k1 k3, show n = c.nv + k by omega, vals_gate (ok_below ho) i s k1]
      have ga := good_gate ho k1 k3 (.inl rfl)
      have gb := good_gate ho k1 k3 (.inr rfl)
      dsimp only
      rw [lit_reL ga.1.1 (ih _ (by omega) _ rfl ga.1), lit_reL gb.1.1 (ih _ (by omega) _ rfl gb.1)]
theorem drop_lit {c : Cir} (ho : c.Ok) (i s : Nat) {l : Int} (h : l ∈ c.latch ++ c.out) : lit (c.drop.vals i s) (c.reL l) = lit (c.vals i s) l :=
  lit_reL (good_root ho h).1 (drop_sem ho i s _ l rfl (good_root ho h))
theorem getD_map {α β : Type} (f : α → β) (l : List α) (a : α) (b : β) {j : Nat} (h : j < l.length) : (l.map f).getD j b = f (l.getD j a) := by
  rw [List.getD_eq_getElem?_getD, List.getD_eq_getElem?_getD, List.getElem?_map, List.getElem?_eq_getElem h]; rfl
theorem drop_outv {c : Cir} (ho : c.Ok) (i s : Nat) : c.drop.outv i s = c.outv i s := by
  unfold Cir.outv
  rw [show c.drop.out.length = c.out.length by simp [Cir.drop]]
  refine packN_congr _ fun j hj => ?_
  show lit _ ((c.out.map c.reL).getD j 0) = _
  rw [getD_map c.reL c.out 0 0 hj]
  exact drop_lit ho i s (List.mem_append_right _ (getD_memL hj))
theorem drop_nxt {c : Cir} (ho : c.Ok) (i s : Nat) : c.drop.nxt i s = c.nxt i s := by
  unfold Cir.nxt
  rw [show c.drop.latch.length = c.latch.length by simp [Cir.drop]]
  refine packN_congr _ fun j hj => ?_
  show lit _ ((c.latch.map c.reL).getD j 0) = _
  rw [getD_map c.reL c.latch 0 0 hj]
  exact drop_lit ho i s (List.mem_append_left _ (getD_memL hj))
/-- Nothing goes where everything is used. -/
theorem drop_self {c : Cir} (ho : c.Ok) (h : ∀ k, k < c.gates.length → c.Used k) : c.drop.gates.length = c.gates.length := by
  rw [drop_len, pk_all (fun k hk => (isU_iff ho hk).2 (h k hk)) _ (Nat.le_refl _)]
end Go.Proofs.Ytmghlldboiplpaa
