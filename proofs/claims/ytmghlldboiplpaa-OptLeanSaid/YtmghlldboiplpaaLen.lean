/- opt.lean: whether a circuit is lean. -/
import Derived.Test.YtmghlldboiplpaaUsw
import Derived.Test.YtmghlldboiplpaaDrp
set_option linter.unusedVariables false
set_option linter.unusedSimpArgs false
set_option maxRecDepth 100000
set_option maxHeartbeats 1000000
namespace Go.Proofs.Ytmghlldboiplpaa
open Go Go.Vh Go.Vk Go.Proofs
/-- A gate in its right form, and used. -/
def Cir.FineAt (c : Cir) (k : Nat) : Prop := (2 ≤ (c.gates.getD k (0, 0)).1 ∧ (c.gates.getD k (0, 0)).1 < (c.gates.getD k (0, 0)).2 ∧ (c.gates.getD k (0, 0)).1 / 2 ≠ (c.gates.getD k (0, 0)).2 / 2) ∧ (∀ j, j < k → c.gates.getD j (0, 0) ≠ c.gates.getD k (0, 0)) ∧ c.Used k
theorem slim_iff (c : Cir) : c.Slim ↔ ∀ k, k < c.gates.length → c.FineAt k := by
  constructor
  · rintro ⟨⟨h1, h2⟩, h3⟩ k hk
    exact ⟨h1 k hk, fun j hj => h2 j k hj hk, h3 k hk⟩
  · intro h
    exact ⟨⟨fun k hk => (h k hk).1, fun j k hj hk => (h k hk).2.1 j hj⟩, fun k hk => (h k hk).2.2⟩
def Cir.gp (c : Cir) (k : Nat) : Nat × Nat := ((c.gates.getD k (0, 0)).1.toNat, (c.gates.getD k (0, 0)).2.toNat)
def Cir.gpl (c : Cir) (k : Nat) : List (Nat × Nat) := (List.range k).map c.gp
theorem lean29 (c : Cir) (hf : c.Fits) (ho : c.Ok) : CallW Try.prog 29 [c.av 0 1 2] c.heap fun v _ => IsB v c.Slim := by
  obtain ⟨a1, a2, a3, a4, a5⟩ := ho.s
  refine CallW.symK (cuts := []) Try.func29 rfl (by kernel_rfl) ?_
  conv => whnf
  repeat' (refine Gets.of _ rfl ?_; conv => whnf)
  refine CallS.of (by kernel_rfl) ((used55 c hf ho).frameQ [0, 1, 2] rfl (.cons ⟨rfl, .roI⟩ (.cons ⟨rfl, .roI⟩ (.cons ⟨rfl, .roI⟩ .nil))) (by rintro _ _ ⟨rfl, rfl⟩; repeat first | exact .nil | refine .cons (by first | exact .inr rfl | exact .inl rfl | exact .inr (fresh_oN _) | exact .inr (fresh_oP _) | exact .inr (fresh_oI _)) ?_)) rfl ?_
  rintro _ _ ⟨_, _, ⟨rfl, rfl⟩, rfl, rfl⟩
  conv => whnf
  repeat' (refine Gets.of _ rfl ?_; conv => whnf)
  refine CodeS.loopGK (cuts := []) (σ := Nat) (fun k => [(3, .slice 4 0 c.gates.length), (5, .map 5), (16, .view 1 0 c.gates.length), (17, .int .i64 c.gates.length), (18, .int .i64 k)]) (fun k => ((c.heap.alloc c.box).alloc (.cells 1 (bls c.usedL))).alloc (.map (mapOf kvNN (setOf (c.gpl k))))) (fun k => k ≤ c.gates.length ∧ ∀ j, j < k → c.FineAt j) (fun k => c.gates.length - k) 0 (renL [0, 1, 2, 3, 4, 5] 6) (by kernel_rfl) ⟨Nat.zero_le _, fun j h => by omega⟩ ⟨rfl, rfl, rfl, rfl, rfl, trivial⟩ (EmbL.litsN [0, 1, 2, 3, 4, 5] rfl rfl rfl rfl (.cons ⟨rfl, .inl ⟨rfl, fun h => h⟩⟩ (.cons ⟨rfl, .inl ⟨rfl, fun h => h⟩⟩ (.cons ⟨rfl, .inl ⟨rfl, fun h => h⟩⟩ .nil))) (.cons ⟨rfl, .roI⟩ (.cons ⟨rfl, .roI⟩ (.cons ⟨rfl, .roI⟩ (.cons ⟨rfl, .inl rfl⟩ (.cons ⟨rfl, .cellsBr⟩ (.cons ⟨rfl, .mapS keyNN rfl⟩ .nil))))))) ?_
  rintro k ⟨g1, g2⟩
  rcases Nat.lt_or_ge k c.gates.length with hk | hk
  · have hgo := ho.g k hk
    unfold Cir.GateOk inR Cir.own at hgo
    have hno : ¬ c.FineAt k → IsB (AVal.bool false) c.Slim := fun h => .f fun hs => h ((slim_iff c).1 hs k hk)
    have hu : c.usedL.getD k false = true ↔ c.Used k := usedL_iff c ho.g a1 hk
    have hul : c.usedL.length = c.gates.length := sweep_length c _
    conv => whnf
    repeat' first | ((with_reducible refine Gets.quoI ?_ ?_ ?_ ?_); (· omega); (· omega); (· omega); conv => whnf) | (refine Gets.of _ rfl ?_; conv => whnf) | (refine Gets.ixEv (es := 2) rfl rfl (by omega) ?_; conv => whnf) | (refine Gets.ldP (ti := tiP) rfl rfl rfl (by first | rfl | assumption) (by first | omega | exact Nat.le_of_ble_eq_true rfl) ?_; conv => whnf) | (refine Fork.dec (fun _ => ?_) (fun _ => ?_) <;> first | (exfalso; omega) | (conv => whnf))
    · exact hno fun h => by have := h.1; omega
    · exact hno fun h => by have := h.1; omega
    · exact hno fun h => by have := h.1; omega
    obtain ⟨a, ha⟩ := Int.eq_ofNat_of_zero_le hgo.1.1
    obtain ⟨b, hb⟩ := Int.eq_ofNat_of_zero_le hgo.2.1
    have hgp : c.gp k = (a, b) := by unfold Cir.gp; rw [ha, hb]; rfl
    have hmm : (a, b) ∈ c.gpl k ↔ ∃ j, j < k ∧ c.gates.getD j (0, 0) = c.gates.getD k (0, 0) := by
      rw [← hgp]
      unfold Cir.gpl
      rw [List.mem_map]
      constructor
      · rintro ⟨j, h1, h2⟩
        have hj := List.mem_range.1 h1
        have hgj := ho.g j (by omega)
        unfold Cir.GateOk inR at hgj
        unfold Cir.gp at h2
        have e1 := congrArg Prod.fst h2
        have e2 := congrArg Prod.snd h2
        dsimp only at e1 e2
        exact ⟨j, hj, Prod.ext (by omega) (by omega)⟩
      · rintro ⟨j, h1, h2⟩
        exact ⟨j, List.mem_range.2 h1, by unfold Cir.gp; rw [h2]⟩
    rw [ha, hb]
    by_cases hmem : (a, b) ∈ c.gpl k
    · refine Gets.setYes keyNN (by kernel_rfl) (a := (a, b)) (l := c.gpl k) rfl hmem ?_
      conv => whnf
      skip
      exact hno fun h => by
        obtain ⟨j, h1, h2⟩ := hmm.1 hmem
        exact h.2.1 j h1 h2
    · refine Gets.setNo keyNN (by kernel_rfl) (a := (a, b)) (l := c.gpl k) rfl hmem ?_
      conv => whnf
      repeat' first | (refine Gets.ix1 rfl rfl (by omega) ?_; conv => whnf) | (refine Gets.ldB rfl (by first | rfl | assumption) (by first | omega | exact Nat.le_of_ble_eq_true rfl) ?_; conv => whnf)
      cases hub : c.usedL.getD k false
      · conv => whnf
        skip
        exact hno fun h => by rw [hu.2 h.2.2] at hub; cases hub
      · conv => whnf
        repeat' first | ((refine Gets.setPut keyNN (by kernel_rfl) (l := c.gpl k) (a := (a, b)) rfl hmem ?_); conv => whnf) | ((with_reducible refine Gets.addI ?_ ?_ ?_); (· omega); (· omega); conv => whnf) | (refine Gets.of _ rfl ?_; conv => whnf)
        exact ⟨k + 1, renL [0, 1, 2, 3, 4, 5] 8, ⟨by omega, lt_succ_all g2 ⟨⟨by omega, by omega, by omega⟩, fun j h1 h2 => hmem (hmm.2 ⟨j, h1, h2⟩), hu.1 hub⟩⟩, by omega, ⟨rfl, rfl, rfl, rfl, rfl, trivial⟩, EmbL.litsN [0, 1, 2, 3, 4, 5] rfl rfl rfl rfl (.cons ⟨rfl, .inl ⟨rfl, fun h => h⟩⟩ (.cons ⟨rfl, .inl ⟨rfl, fun h => h⟩⟩ (.cons ⟨rfl, .inl ⟨rfl, fun h => h⟩⟩ .nil))) (.cons ⟨rfl, .roI⟩ (.cons ⟨rfl, .roI⟩ (.cons ⟨rfl, .roI⟩ (.cons ⟨rfl, .inl rfl⟩ (.cons ⟨rfl, .cellsB⟩ (.cons ⟨rfl, .mapS keyNN (by simp [Cir.gpl, List.range_succ, hgp])⟩ .nil))))))⟩
  · obtain rfl : k = c.gates.length := by omega
    conv => whnf
    repeat' (refine Fork.dec (fun _ => ?_) (fun _ => ?_) <;> first | (exfalso; omega) | (conv => whnf))
    exact .t ((slim_iff c).2 g2)
end Go.Proofs.Ytmghlldboiplpaa
