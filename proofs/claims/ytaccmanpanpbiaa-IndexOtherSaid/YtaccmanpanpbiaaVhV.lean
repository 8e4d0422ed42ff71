import Derived.Test.YtaccmanpanpbiaaVhS
/- Scopes: jumps to labels. -/
set_option linter.unusedVariables false
set_option linter.unusedSimpArgs false
namespace Go.Vh
variable {P : Program} {N : Nat} {ρ : Option Nat} {n0 : Nat}
section
variable {b : Frame} {a : Act} {k : List Item} {cs : List Frame} {w : World}
theorem stepR_scope {c : Code} : step P (lone (b.atR a (.code (.scope c) :: k)) cs w) = .next (lone (b.atR a (.code c :: .inScope c :: k)) cs w) :=
  step_lone_go (by simp [stepG, stepG.exec, Frame.atR])
theorem stepR_inScope {c : Code} : step P (lone (b.atR a (.inScope c :: k)) cs w) = .next (lone (b.atR a k) cs w) :=
  step_lone_go (by simp [stepG, stepG.exec, Frame.atR])
end
/-- What is asked where a scope's code is left. -/
def scopePost (c : Code) (J : Nat → Nat → Env → AHeap → Prop) (m : Option Nat) (K : Exit → Env → AHeap → Prop) : Exit → Env → AHeap → Prop
  | .goto l, e, H => (∃ rest m', findLabel c l = some rest ∧ (∀ n, m = some n → m' < n) ∧ J l m' e H) ∨ (findLabel c l = none ∧ K (.goto l) e H)
  | x, e, H => K x e H
theorem CWF.scope {c : Code} {e : Env} {H : AHeap} {K : Exit → Env → AHeap → Prop} (J : Nat → Nat → Env → AHeap → Prop) (first : CWF P N ρ n0 c e H (scopePost c J none K))
    (pass : ∀ l m e H rest, findLabel c l = some rest → J l m e H → CWF P N ρ n0 rest e H (scopePost c J (some m) K)) : CWF P N ρ n0 (.scope c) e H K := by
  intro B φ0 H0 w0 φ w a h0 hd hR hE hM hB hX b k cs hro hb hr
  have exitEq : ∀ id, exitTo id (.inScope c :: k) = exitTo id k := fun id => by simp [exitTo]
  let claim : Nat → Prop := fun m => ∀ l e H rest φ1 w1 (a1 : Act), findLabel c l = some rest → J l m e H → Rel φ1 H w1 → ERel φ1 N e a1.tmps → GoodMarks B φ1 H w1 a1.defers → Ext φ0 H0 w0 φ1 H w1 →
    ∃ x' a' w', XPost N B φ0 H0 w0 K x' a' w' ∧ ArrivesIn (Machine.fenced P (fence ρ)) P (lone (b.atR a1 (.code rest :: .inScope c :: k)) cs w1) b k cs x' a' w'
  have out : ∀ (mo : Option Nat) (ih : ∀ m', (∀ n, mo = some n → m' < n) → claim m') (mm : Machine) (x : Exit) (a1 : Act) (w1 : World), XPost N B φ0 H0 w0 (scopePost c J mo K) x a1 w1 →
      ArrivesIn (Machine.fenced P (fence ρ)) P mm b (.inScope c :: k) cs x a1 w1 → ∃ x' a' w', XPost N B φ0 H0 w0 K x' a' w' ∧ ArrivesIn (Machine.fenced P (fence ρ)) P mm b k cs x' a' w' := by
    intro mo ih mm x a1 w1 hq harr
    obtain ⟨φ1, e1, H1, g1, g2, g3, g4, g5⟩ := hq
    cases x with
    | normal => exact ⟨.normal, a1, w1, ⟨φ1, e1, H1, g1, g2, g3, g4, g5⟩, StepsIn.trans harr (.one (fenced_calm (fr := b.atR a1 (.inScope c :: k)) hb hr rfl) stepR_inScope)⟩
    | exit id => exact ⟨.exit id, a1, w1, ⟨φ1, e1, H1, g1, g2, g3, g4, g5⟩, fun k' hk => harr.1 k' (by rw [exitEq]; exact hk), fun hr' hk => harr.2 hr' (by rw [exitEq]; exact hk)⟩
    | goto l =>
      rcases g5 with ⟨rest, m', hf, hlt, hJ⟩ | ⟨hf, hK⟩
      · have hg : gotoIn l (.inScope c :: k) = some (.code rest :: .inScope c :: k) := by simp [gotoIn, hf]
        obtain ⟨x', a', w', hq', harr'⟩ := ih m' hlt l e1 H1 rest φ1 w1 a1 hf hJ g1 g2 g4 g3
        exact ⟨x', a', w', hq', .of_steps (harr.1 _ hg) harr'⟩
      · have hg : gotoIn l (.inScope c :: k) = gotoIn l k := by simp [gotoIn, hf]
        exact ⟨.goto l, a1, w1, ⟨φ1, e1, H1, g1, g2, g3, g4, hK⟩, fun k' hk => harr.1 k' (by rw [hg]; exact hk), fun hr' hk => harr.2 hr' (by rw [hg]; exact hk)⟩
    | ret => exact ⟨_, a1, w1, ⟨φ1, e1, H1, g1, g2, g3, g4, g5⟩, harr⟩
    | panic ch => exact ⟨_, a1, w1, ⟨φ1, e1, H1, g1, g2, g3, g4, g5⟩, harr⟩
    | outgrown => exact ⟨_, a1, w1, ⟨φ1, e1, H1, g1, g2, g3, g4, g5⟩, harr⟩
  have all : ∀ m, claim m := by
    intro m
    induction m using Nat.strongRecOn with
    | _ m ih =>
      intro l e H rest φ1 w1 a1 hf hJ hR hE hM hX
      obtain ⟨x, a2, w2, hq, harr⟩ := pass l m e H rest hf hJ B φ0 H0 w0 φ1 w1 a1 h0 hd hR hE hM hB hX b (.inScope c :: k) cs hro hb hr
      exact out (some m) (fun m' h => ih m' (h m rfl)) _ x a2 w2 hq harr
  obtain ⟨x, a2, w2, hq, harr⟩ := first B φ0 H0 w0 φ w a h0 hd hR hE hM hB hX b (.inScope c :: k) cs hro hb hr
  obtain ⟨x', a', w', hq', harr'⟩ := out none (fun m' _ => all m') _ x a2 w2 hq harr
  exact ⟨x', a', w', hq', .of_steps (.one (fenced_calm hb hr rfl) stepR_scope) harr'⟩
end Go.Vh
