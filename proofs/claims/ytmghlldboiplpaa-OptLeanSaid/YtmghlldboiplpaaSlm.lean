/- Lean circuits: in plain words. -/
import Derived.Test.YtmghlldboiplpaaReb
import Derived.Test.YtmghlldboiplpaaApa
set_option linter.unusedVariables false
set_option linter.unusedSimpArgs false
namespace Go.Proofs.Ytmghlldboiplpaa
open Go Go.Vh Go.Vk Go.Proofs
/-- Two machines that keep a bond tell nothing apart. -/
theorem apart_none {t : Two} {A B : Nat} (hA : 0 < A) (hB : 0 < B) (hf : ∀ i s, t.f i s < A) (hg : ∀ i s, t.g i s < B) (R : Nat → Nat → Prop) (h0 : R 0 0) (hs : ∀ i a b, i < t.m → R a b → R (t.f i a) (t.g i b)) (hp : ∀ i a b, i < t.m → R a b → t.p i a = t.q i b) : t.IsApart none := by
  have hall : ∀ k, ∀ x ∈ t.nds k, R x.a x.b := by
    intro k
    induction k with
    | zero =>
      intro x hx
      simp [Two.nds, nodes] at hx
      subst hx
      exact h0
    | succ k ih =>
      unfold Two.nds nodes
      split
      · rename_i hk
        exact insPN_all ih t.m fun i hi => hs i _ _ hi (ih _ (getD_memL hk))
      · exact ih
  have hdef : ∀ k, R ((t.nds k).getD k default).a ((t.nds k).getD k default).b := fun k => by
    rcases Nat.lt_or_ge k (t.nds k).length with h | h
    · exact hall k _ (getD_memL h)
    · rw [List.getD_eq_getElem?_getD, List.getElem?_eq_none h]
      exact h0
  have hd : ∀ k, t.diff k = none := fun k => find_miss fun i hi => by
    rw [bne_eq_false_iff_eq]
    exact hp i _ _ hi (hdef k)
  exact ⟨A * B, fun k _ => hd k, nodes_len hA hB hf hg (A * B)⟩
def sameOf (c : Cir) : List Nat := (List.range c.nv).map fun v => 2 * v
def sameKeep (c : Cir) : List Nat := List.range c.latch.length
theorem sameOf_get {c : Cir} {v : Nat} (h : v < c.nv) : (sameOf c).getD v 0 = 2 * v := by
  rw [sameOf, List.getD_eq_getElem?_getD, List.getElem?_map, List.getElem?_range h]; rfl
theorem sameKeep_len (c : Cir) : (sameKeep c).length = c.latch.length := by simp [sameKeep]
theorem same_nb (c : Cir) : c.inp.toNat + (sameKeep c).length + 1 = c.nv := by rw [sameKeep_len]; rfl
theorem same_of (c : Cir) : OfOk c (sameOf c) (c.inp.toNat + (sameKeep c).length + 1) := by
  rw [same_nb]
  refine ⟨by simp [sameOf], fun v hv => ?_, by unfold Cir.nv; omega⟩
  rw [sameOf_get hv]; omega
theorem same_keep (c : Cir) : ∀ k ∈ sameKeep c, k < c.latch.length := fun k hk => List.mem_range.1 hk
/-- What Lean makes of a circuit. -/
def Cir.slim (c : Cir) : Cir := (c.reb (sameOf c) (sameKeep c)).drop
theorem slim_ok {c : Cir} (ho : c.Ok) : c.slim.Ok ∧ c.slim.Slim := by
  obtain ⟨h1, h2⟩ := reb_ok ho (same_of c) (by rw [sameKeep_len]; exact Nat.le_refl _) (same_keep c)
  exact ⟨drop_ok h1, drop_slim h1 h2⟩
theorem slim_latch (c : Cir) : c.slim.latch.length = c.latch.length := by simp [Cir.slim, Cir.drop, Cir.reb, sameKeep]
theorem slim_out (c : Cir) : c.slim.out.length = c.out.length := by simp [Cir.slim, Cir.drop, Cir.reb]
theorem slim_gates {c : Cir} (ho : c.Ok) : c.slim.gates.length ≤ c.gates.length := by
  have h := made_ok (ok_below ho) (same_of c) c.gates.length (Nat.le_refl _)
  have h2 := pk_le (c.reb (sameOf c) (sameKeep c)).isU (c.reb (sameOf c) (sameKeep c)).gates.length
  unfold Cir.slim
  rw [drop_len]
  exact Nat.le_trans h2 h.l
theorem same_base {c : Cir} (i s : Nat) : ∀ v, v < c.nv → litW ((c.reb (sameOf c) (sameKeep c)).vals i s) ((sameOf c).getD v 0) = (vals0 c i s).getD v false := fun v hv => by
  rw [sameOf_get hv]
  unfold litW
  rw [show 2 * v / 2 = v by omega, show (2 * v % 2 == 1) = false by rw [beq_eq_false_iff_ne]; omega, Bool.bne_false, vals_base _ _ _ (by rw [reb_nv, same_nb]; exact hv)]
  unfold vals0
  rw [show (c.reb (sameOf c) (sameKeep c)).latch.length = c.latch.length by simp [Cir.reb, sameKeep]]
  rfl
theorem slim_outv {c : Cir} (ho : c.Ok) (i s : Nat) : c.slim.outv i s = c.outv i s := by
  have hk : (sameKeep c).length ≤ c.latch.length := by rw [sameKeep_len]; exact Nat.le_refl _
  unfold Cir.slim
  rw [drop_outv (reb_ok ho (same_of c) hk (same_keep c)).1]
  exact reb_outv ho (same_of c) hk (same_keep c) i s s (same_base i s)
theorem slim_nxt {c : Cir} (ho : c.Ok) (i s : Nat) : c.slim.nxt i s = c.nxt i s := by
  have hk : (sameKeep c).length ≤ c.latch.length := by rw [sameKeep_len]; exact Nat.le_refl _
  unfold Cir.slim
  rw [drop_nxt (reb_ok ho (same_of c) hk (same_keep c)).1]
  refine Nat.eq_of_testBit_eq fun j => ?_
  rcases Nat.lt_or_ge j c.latch.length with h | h
  · have := reb_nxt ho (same_of c) hk (same_keep c) i s s (same_base i s) (j := j) (by rw [sameKeep_len]; exact h)
    rw [this, sameKeep, List.getD_eq_getElem?_getD, List.getElem?_range h]
    rfl
  · unfold Cir.nxt
    rw [packN_bit, packN_bit, show (c.reb (sameOf c) (sameKeep c)).latch.length = c.latch.length by simp [Cir.reb, sameKeep], decide_eq_false (show ¬ j < c.latch.length by omega)]
    rfl
/-- Lean tells the same as what it was made of. -/
theorem slim_apart {c : Cir} (ho : c.Ok) : (two c c.slim).IsApart none := by
  refine apart_none (A := c.B) (B := c.slim.B) (Nat.pow_pos (by decide)) (Nat.pow_pos (by decide)) (fun i s => nxt_lt c i s) (fun i s => nxt_lt c.slim i s) (fun a b => a = b) rfl ?_ ?_
  · rintro i a _ _ rfl
    exact (slim_nxt ho i a).symm
  · rintro i a _ _ rfl
    exact (slim_outv ho i a).symm
/-- What is lean already stays as it is. -/
theorem made_self {c : Cir} (ho : c.Ok) (hn : c.Norm) : ∀ k, k ≤ c.gates.length → c.made (sameOf c) c.nv k = ((List.range (c.nv + k)).map (fun v => 2 * v), c.gates.take k)
  | 0, _ => rfl
  | k + 1, hk => by
    have hlt : k < c.gates.length := by omega
    obtain ⟨n1, n2, n3⟩ := hn.1 k hlt
    obtain ⟨g1, g2⟩ := ok_below ho k hlt
    have hlit : ∀ l : Int, 0 ≤ l → (l / 2).toNat < c.nv + k → litN ((List.range (c.nv + k)).map fun v => 2 * v) l = l.toNat := fun l h0 hl => by
      unfold litN
      rw [List.getD_eq_getElem?_getD, List.getElem?_map, List.getElem?_range hl]
      show 2 * (l / 2).toNat ^^^ (l % 2).toNat = _
      rcases (show (l % 2).toNat = 0 ∨ (l % 2).toNat = 1 by omega) with h | h
      · rw [h, Nat.xor_zero]; omega
      · rw [h, xor_one, if_pos (by omega)]; omega
    have hnot : ((((c.gates.getD k (0, 0)).1.toNat : Nat) : Int), (((c.gates.getD k (0, 0)).2.toNat : Nat) : Int)) ∉ c.gates.take k := by
      intro hm
      rw [show (((c.gates.getD k (0, 0)).1.toNat : Nat) : Int) = (c.gates.getD k (0, 0)).1 by omega, show (((c.gates.getD k (0, 0)).2.toNat : Nat) : Int) = (c.gates.getD k (0, 0)).2 by omega] at hm
      obtain ⟨j, hj, e⟩ := mem_getDP.1 hm
      rw [List.length_take] at hj
      refine hn.2 j k (by omega) hlt ?_
      rw [← show ((c.gates.getD k (0, 0)).1, (c.gates.getD k (0, 0)).2) = c.gates.getD k (0, 0) from rfl, ← e, List.getD_eq_getElem?_getD, List.getD_eq_getElem?_getD, List.getElem?_take, if_pos (by omega)]
    have hmk : mkN c.nv (c.gates.take k) (c.gates.getD k (0, 0)).1.toNat (c.gates.getD k (0, 0)).2.toNat = (2 * (c.nv + k), c.gates.take (k + 1)) := by
      unfold mkN
      rw [Nat.min_eq_left (by omega), Nat.max_eq_right (by omega), if_neg (by omega), if_neg (by omega), if_neg hnot, List.length_take, Nat.min_eq_left (by omega), take_succ_getD _ _ (0, 0) hlt]
      refine Prod.ext rfl ?_
      show _ ++ [_] = _ ++ [_]
      congr 2
      exact Prod.ext (by show (((c.gates.getD k (0, 0)).1.toNat : Nat) : Int) = _; omega) (by show (((c.gates.getD k (0, 0)).2.toNat : Nat) : Int) = _; omega)
    rw [Cir.made, made_self ho hn k (by omega)]
    dsimp only
    rw [hlit _ (by omega) g1, hlit _ (by omega) g2, hmk, ← Nat.add_assoc, List.range_succ, List.map_append]
    rfl
theorem slim_self {c : Cir} (ho : c.Ok) (hs : c.Slim) : c.slim.gates.length = c.gates.length := by
  have hm := made_self ho hs.1 c.gates.length (Nat.le_refl _)
  have hlit : ∀ l ∈ c.latch ++ c.out, litN ((List.range (c.nv + c.gates.length)).map fun v => 2 * v) l = l.toNat := fun l hl => by
    have h0 := (good_root ho hl).1
    unfold litN
    rw [List.getD_eq_getElem?_getD, List.getElem?_map, List.getElem?_range (root_below ho hl)]
    show 2 * (l / 2).toNat ^^^ (l % 2).toNat = _
    rcases (show (l % 2).toNat = 0 ∨ (l % 2).toNat = 1 by omega) with h | h
    · rw [h, Nat.xor_zero]; omega
    · rw [h, xor_one, if_pos (by omega)]; omega
  have e : c.reb (sameOf c) (sameKeep c) = c := by
    unfold Cir.reb Cir.rebOf
    rw [same_nb, hm, List.take_length]
    dsimp only
    have e1 : (sameKeep c).map (fun k => ((litN ((List.range (c.nv + c.gates.length)).map fun v => 2 * v) (c.latch.getD k 0) : Nat) : Int)) = c.latch := by
      refine List.ext_getElem (by simp [sameKeep]) fun j h1 h2 => ?_
      rw [List.getElem_map]
      simp only [sameKeep, List.getElem_range]
      rw [hlit _ (List.mem_append_left _ (getD_memL h2)), List.getD_eq_getElem?_getD, List.getElem?_eq_getElem h2]
      have := (good_root ho (List.mem_append_left c.out (List.getElem_mem h2))).1
      show ((c.latch[j].toNat : Nat) : Int) = c.latch[j]
      omega
    have e2 : c.out.map (fun l => ((litN ((List.range (c.nv + c.gates.length)).map fun v => 2 * v) l : Nat) : Int)) = c.out := by
      refine (List.map_congr_left fun l hl => ?_).trans (List.map_id _)
      rw [hlit l (List.mem_append_right _ hl)]
      have := (good_root ho (List.mem_append_right c.latch hl)).1
      show ((l.toNat : Nat) : Int) = l
      omega
    rw [e1, e2]
  unfold Cir.slim
  rw [e]
  exact drop_self ho hs.2
end Go.Proofs.Ytmghlldboiplpaa
