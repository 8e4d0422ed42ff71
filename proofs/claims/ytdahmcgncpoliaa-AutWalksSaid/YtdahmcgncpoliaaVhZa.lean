/- Maps from numbers to numbers. -/
import Derived.Test.YtdahmcgncpoliaaVhZ
set_option linter.unusedVariables false
set_option linter.unusedSimpArgs false
namespace Go.Vh
variable {P : Program}
/-- A map that says of each number of a list where it stands. -/
def ents (l : List Int) : List (AVal × AVal) := l.mapIdx fun i s => (.int .i64 s, .int .i64 (i : Int))
def entsFrom (i : Nat) : List Int → List (AVal × AVal)
  | [] => []
  | s :: l => (.int .i64 s, .int .i64 (i : Int)) :: entsFrom (i + 1) l
theorem ents_from : ∀ (l : List Int) (i : Nat), (l.mapIdx fun j s => ((.int .i64 s, .int .i64 ((i + j : Nat) : Int)) : AVal × AVal)) = entsFrom i l
  | [], i => rfl
  | s :: l, i => by
    rw [List.mapIdx_cons, entsFrom, ← ents_from l (i + 1)]
    congr 2
    funext j s
    rw [show i + (j + 1) = i + 1 + j by omega]
theorem ents_eq (l : List Int) : ents l = entsFrom 0 l := by
  rw [← ents_from l 0]
  simp [ents]
theorem mfind_miss {x : Int} : ∀ (l : List Int) (i n : Nat), x ∉ l → mfind (.scalar (.int .i64)) (.int .i64 x) (entsFrom i l) n = some none
  | [], i, n, _ => rfl
  | s :: l, i, n, h => by
    simp only [List.mem_cons, not_or] at h
    have hk : keyEq (.scalar (.int .i64)) (.int .i64 x) (.int .i64 s) = some (x == s) := rfl
    rw [entsFrom, mfind, hk, show (x == s) = false by simpa using h.1]
    exact mfind_miss l (i + 1) (n + 1) h.2
theorem mfind_hit {x : Int} : ∀ (l : List Int) (i n k : Nat), l[k]? = some x → (∀ j, j < k → l[j]? ≠ some x) → mfind (.scalar (.int .i64)) (.int .i64 x) (entsFrom i l) n = some (some (n + k, .int .i64 ((i + k : Nat) : Int)))
  | [], i, n, k, h, _ => by simp at h
  | s :: l, i, n, 0, h, _ => by
    have h : s = x := by simpa using h
    subst h
    have hk : keyEq (.scalar (.int .i64)) (.int .i64 s) (.int .i64 s) = some (s == s) := rfl
    rw [entsFrom, mfind, hk, show (s == s) = true by simp]
    rfl
  | s :: l, i, n, k + 1, h, hn => by
    have hs : s ≠ x := fun h' => hn 0 (by omega) (by rw [h']; rfl)
    have hk : keyEq (.scalar (.int .i64)) (.int .i64 x) (.int .i64 s) = some (x == s) := rfl
    rw [entsFrom, mfind, hk, show (x == s) = false by simpa using fun h' => hs h'.symm]
    have := mfind_hit l (i + 1) (n + 1) k h fun j hj => hn (j + 1) (by omega)
    rw [show n + (k + 1) = n + 1 + k by omega, show i + (k + 1) = i + 1 + k by omega]
    exact this
theorem ents_append (l : List Int) (x : Int) : ents (l ++ [x]) = ents l ++ [(.int .i64 x, .int .i64 (l.length : Int))] := by simp [ents]
theorem renM_from (κ : Nat → Nat) : ∀ (l : List Int) (i : Nat), renM κ (entsFrom i l) = entsFrom i l
  | [], i => rfl
  | s :: l, i => by
    have := renM_from κ l (i + 1)
    simp only [renM, entsFrom, List.map_cons, ren] at this ⊢
    rw [this]
theorem renM_ents (κ : Nat → Nat) (l : List Int) : renM κ (ents l) = ents l := by rw [ents_eq, renM_from]
theorem Gets.lookNo {H : AHeap} {t : TypeId} {i : Nat} {x : Int} {z : AVal} {l : List Int} {A : AVal → Prop} (ht : mapT P t = some (.scalar (.int .i64), z)) (hf : H.f i = .map (ents l)) (hx : x ∉ l) (hA : A (.tuple [z, .bool false])) : Gets (alookup P H t (.map i) (.int .i64 x) true) A := by
  refine ⟨⟨_, ?_, hA⟩⟩
  simp only [alookup, ht, AHeap.entries, hf]
  rw [ents_eq, mfind_miss l 0 0 hx]
  rfl
theorem Gets.lookYes {H : AHeap} {t : TypeId} {i k : Nat} {x : Int} {z : AVal} {l : List Int} {A : AVal → Prop} (ht : mapT P t = some (.scalar (.int .i64), z)) (hf : H.f i = .map (ents l)) (hx : l[k]? = some x) (hn : ∀ j, j < k → l[j]? ≠ some x) (hA : A (.tuple [.int .i64 k, .bool true])) : Gets (alookup P H t (.map i) (.int .i64 x) true) A := by
  refine ⟨⟨_, ?_, hA⟩⟩
  simp only [alookup, ht, AHeap.entries, hf]
  rw [ents_eq, mfind_hit l 0 0 k hx hn, Nat.zero_add]
  rfl
theorem Gets.putNew {H : AHeap} {t : TypeId} {i : Nat} {x y : Int} {z : AVal} {l : List Int} {A : AHeap → Prop} (ht : mapT P t = some (.scalar (.int .i64), z)) (hf : H.f i = .map (ents l)) (hx : x ∉ l) (hy : y = (l.length : Int)) (hA : A (H.set i (.map (ents (l ++ [x]))))) : Gets (H.mapPut P t (.map i) (.int .i64 x) (.int .i64 y)) A := by
  subst hy
  refine ⟨⟨_, ?_, hA⟩⟩
  simp only [AHeap.mapPut, ht, hf, mput]
  rw [if_pos (show keyFits (.scalar (.int .i64)) (.int .i64 x) = true from rfl), ents_append, ents_eq, mfind_miss l 0 0 hx]
  rfl
theorem first_at {x : Int} : ∀ (l : List Int), x ∈ l → ∃ k, k < l.length ∧ l[k]? = some x ∧ ∀ j, j < k → l[j]? ≠ some x
  | [], h => by cases h
  | s :: l, h => by
    by_cases hs : s = x
    · exact ⟨0, by simp, by simp [hs], fun j hj => absurd hj (Nat.not_lt_zero _)⟩
    · have h : x ∈ l := by
        rcases List.mem_cons.1 h with h | h
        · exact absurd h.symm hs
        · exact h
      obtain ⟨k, h1, h2, h3⟩ := first_at l h
      refine ⟨k + 1, by simp; omega, by simpa using h2, fun j hj => ?_⟩
      rcases j with _ | j
      · simpa using hs
      · simpa using h3 j (by omega)
/-- A row without its first elements. -/
theorem Gets.sliceLo {H : AHeap} {t e : TypeId} {ti : TI} {i n k : Nat} {cs : List AVal} {A : AVal → Prop} (hu : P.underlying t = some (.slice e)) (ht : sliceT P t = some ti) (hsz : ti.size = 1) (hf : H.f i = .cells 1 cs) (hk : k ≤ n) (hA : A (.slice i k (n - k))) : Gets (asliceV P H t (.slice i 0 n) (some (.int .i64 k)) none) A := by
  refine ⟨⟨_, ?_, hA⟩⟩
  simp only [asliceV, aslice, hu, ht, boundA, hf]
  rw [if_pos ⟨by omega, by omega, by omega, hsz.symm⟩]
  congr 2
  omega
end Go.Vh
