import Derived.Test.YtaccmanpanpbiaaVkE
/- A search over pairs of states, breadth first, that knows how each pair was come by. -/
set_option linter.unusedVariables false
set_option linter.unusedSimpArgs false
namespace Go.Vk
open Go.Vh
structure Nd where
  a : Nat
  b : Nat
  fr : Int
  inp : Nat
  deriving DecidableEq
instance : Inhabited Nd := ⟨⟨0, 0, 0, 0⟩⟩
def Nd.l (x : Nd) : List Int := [x.a, x.b, x.fr, x.inp]
def qflat (l : List Nd) : List Int := l.flatMap Nd.l
theorem qflat_length (l : List Nd) : (qflat l).length = l.length * 4 := by
  induction l with
  | nil => rfl
  | cons p l ih => show (p.l ++ qflat l).length = _; rw [List.length_append, ih]; simp [Nd.l]; omega
theorem qflat_append (l m : List Nd) : qflat (l ++ m) = qflat l ++ qflat m := by simp [qflat]
theorem qflat_get : ∀ (l : List Nd) (j : Nat), j < l.length → ∀ f, f < 4 → (qflat l)[j * 4 + f]? = ((l.getD j default).l)[f]?
  | [], j, h => absurd h (by simp)
  | p :: l, 0, h => fun f hf => by
    show (p.l ++ qflat l)[0 * 4 + f]? = p.l[f]?
    rw [List.getElem?_append_left (by simp [Nd.l]; omega)]
    congr 1
    omega
  | p :: l, j + 1, h => fun f hf => by
    have := qflat_get l j (by simpa using h) f hf
    rw [show (j + 1) * 4 + f = j * 4 + f + 4 by omega]
    exact this
def pairsOf (l : List Nd) : List (Nat × Nat) := l.map fun x => (x.a, x.b)
/-- One more pair. -/
def insP (l : List Nd) (x : Nd) : List Nd := if (x.a, x.b) ∈ pairsOf l then l else l ++ [x]
def insPN (f g : Nat → Nat) (k : Nat) (l : List Nd) : Nat → List Nd
  | 0 => l
  | n + 1 => insP (insPN f g k l n) ⟨f n, g n, k, n⟩
def nodes (f g : Nat → Nat → Nat) (m : Nat) : Nat → List Nd
  | 0 => [⟨0, 0, -1, 0⟩]
  | k + 1 => if k < (nodes f g m k).length then insPN (fun i => f i ((nodes f g m k).getD k default).a) (fun i => g i ((nodes f g m k).getD k default).b) k (nodes f g m k) m else nodes f g m k
theorem insP_pre (l : List Nd) (x : Nd) : ∃ m, insP l x = l ++ m := by
  unfold insP
  split
  · exact ⟨[], by simp⟩
  · exact ⟨[x], rfl⟩
theorem insPN_pre (f g : Nat → Nat) (k : Nat) (l : List Nd) : ∀ n, ∃ m, insPN f g k l n = l ++ m
  | 0 => ⟨[], by simp [insPN]⟩
  | n + 1 => by
    obtain ⟨m, h⟩ := insPN_pre f g k l n
    obtain ⟨m', h'⟩ := insP_pre (insPN f g k l n) ⟨f n, g n, k, n⟩
    exact ⟨m ++ m', by rw [insPN, h', h, List.append_assoc]⟩
theorem insPN_len (f g : Nat → Nat) (k : Nat) (l : List Nd) (n : Nat) : l.length ≤ (insPN f g k l n).length := by
  obtain ⟨m, h⟩ := insPN_pre f g k l n
  rw [h, List.length_append]; omega
theorem insPN_getD {f g : Nat → Nat} {k n j : Nat} {l : List Nd} (h : j < l.length) : (insPN f g k l n).getD j default = l.getD j default := by
  obtain ⟨m, hm⟩ := insPN_pre f g k l n
  rw [hm, List.getD_eq_getElem?_getD, List.getD_eq_getElem?_getD, List.getElem?_append_left h]
theorem pairsOf_nodup_ins {l : List Nd} {x : Nd} (h : (pairsOf l).Nodup) : (pairsOf (insP l x)).Nodup := by
  unfold insP
  split
  · exact h
  · rename_i hx
    rw [pairsOf, List.map_append, List.nodup_append]
    refine ⟨h, by simp, fun a ha b hb => ?_⟩
    rintro rfl
    simp only [List.map_cons, List.map_nil, List.mem_singleton] at hb
    subst hb
    exact hx ha
/-- What holds of all nodes. -/
theorem insPN_all {P : Nd → Prop} {f g : Nat → Nat} {k : Nat} {l : List Nd} (h : ∀ x ∈ l, P x) : ∀ n, (∀ i, i < n → P ⟨f i, g i, k, i⟩) → ∀ x ∈ insPN f g k l n, P x
  | 0, _ => h
  | n + 1, hn => by
    intro x hx
    have ih := insPN_all h n (fun i hi => hn i (by omega))
    unfold insPN insP at hx
    split at hx
    · exact ih x hx
    · rcases List.mem_append.1 hx with h1 | h1
      · exact ih x h1
      · obtain rfl := List.mem_singleton.1 h1
        exact hn n (by omega)
theorem insPN_nodup {f g : Nat → Nat} {k : Nat} {l : List Nd} (h : (pairsOf l).Nodup) : ∀ n, (pairsOf (insPN f g k l n)).Nodup
  | 0 => h
  | n + 1 => pairsOf_nodup_ins (insPN_nodup h n)
theorem nodes_nodup (f g : Nat → Nat → Nat) (m : Nat) : ∀ k, (pairsOf (nodes f g m k)).Nodup
  | 0 => by simp [nodes, pairsOf]
  | k + 1 => by
    unfold nodes
    split
    · exact insPN_nodup (nodes_nodup f g m k) m
    · exact nodes_nodup f g m k
/-- What every node is: within bounds, and come by earlier. -/
structure NdOk (A B m : Nat) (j : Nat) (x : Nd) : Prop where
  a : x.a < A
  b : x.b < B
  fr : x.fr < (j : Int) ∧ -1 ≤ x.fr
  inp : x.inp < m ∨ x.fr = -1
theorem nodes_ok {f g : Nat → Nat → Nat} {m A B : Nat} (hA : 0 < A) (hB : 0 < B) (hf : ∀ i s, f i s < A) (hg : ∀ i s, g i s < B) : ∀ k, ∀ x ∈ nodes f g m k, x.a < A ∧ x.b < B
  | 0 => by simp [nodes]; exact ⟨hA, hB⟩
  | k + 1 => by
    unfold nodes
    split
    · exact insPN_all (nodes_ok hA hB hf hg k) m fun i _ => ⟨hf _ _, hg _ _⟩
    · exact nodes_ok hA hB hf hg k
theorem pairs_len {A B : Nat} {l : List (Nat × Nat)} (hd : l.Nodup) (h : ∀ x ∈ l, x.1 < A ∧ x.2 < B) : l.length ≤ A * B := by
  have h1 : ((l.map fun p => p.1 + A * p.2)).Nodup := by
    rw [List.nodup_iff_pairwise_ne, List.pairwise_map]
    refine List.Pairwise.imp_of_mem (fun {a b} ha hb hne he => hne ?_) hd
    have ha := h a ha
    have hb := h b hb
    have e1 : (a.1 + A * a.2) % A = a.1 := by rw [Nat.add_mul_mod_self_left, Nat.mod_eq_of_lt ha.1]
    have e2 : (b.1 + A * b.2) % A = b.1 := by rw [Nat.add_mul_mod_self_left, Nat.mod_eq_of_lt hb.1]
    have h1 : a.1 = b.1 := by rw [← e1, ← e2, he]
    have h2 : A * a.2 = A * b.2 := by omega
    exact Prod.ext h1 (Nat.eq_of_mul_eq_mul_left (by omega) h2)
  have h2 := nodup_length_le (A * B) _ h1 fun x hx => by
    obtain ⟨p, hp, rfl⟩ := List.mem_map.1 hx
    have := h p hp
    have e : A * (p.2 + 1) ≤ A * B := Nat.mul_le_mul_left A this.2
    rw [Nat.mul_add, Nat.mul_one] at e
    omega
  simpa using h2
theorem nodes_len {f g : Nat → Nat → Nat} {m A B : Nat} (hA : 0 < A) (hB : 0 < B) (hf : ∀ i s, f i s < A) (hg : ∀ i s, g i s < B) (k : Nat) : (nodes f g m k).length ≤ A * B := by
  have := pairs_len (A := A) (B := B) (nodes_nodup f g m k) fun p hp => by
    obtain ⟨x, hx, rfl⟩ := List.mem_map.1 hp
    exact nodes_ok hA hB hf hg k x hx
  simpa [pairsOf] using this
theorem nodes_stop {f g : Nat → Nat → Nat} {m k : Nat} (h : (nodes f g m k).length ≤ k) : ∀ j, k ≤ j → nodes f g m j = nodes f g m k := by
  intro j hj
  induction j with
  | zero => obtain rfl : k = 0 := by omega
            rfl
  | succ j ih =>
    rcases Nat.eq_or_lt_of_le hj with rfl | h1
    · rfl
    · have ih := ih (by omega)
      rw [nodes, if_neg (by rw [ih]; omega), ih]
theorem nodes_getD {f g : Nat → Nat → Nat} {m k j : Nat} (h : j < (nodes f g m k).length) : (nodes f g m (k + 1)).getD j default = (nodes f g m k).getD j default := by
  rw [nodes]
  split
  · exact insPN_getD h
  · rfl
theorem nodes_mono {f g : Nat → Nat → Nat} {m k : Nat} : (nodes f g m k).length ≤ (nodes f g m (k + 1)).length := by
  rw [nodes]
  split
  · exact insPN_len _ _ _ _ _
  · exact Nat.le_refl _
/-- A node's way, from its end. -/
def wayOf (l : List Nd) : Nat → Nat → List Int
  | 0, _ => []
  | n + 1, k => if (l.getD k default).fr < 0 then [] else wayOf l n (l.getD k default).fr.toNat ++ [((l.getD k default).inp : Int)]
/-- Nodes come from earlier ones. -/
def Back (l : List Nd) : Prop := ∀ j, j < l.length → -1 ≤ (l.getD j default).fr ∧ (l.getD j default).fr < (j : Int)
theorem Back.ins {l : List Nd} {x : Nd} (h : Back l) (hx : -1 ≤ x.fr ∧ x.fr < (l.length : Int)) : Back (insP l x) := by
  unfold insP
  split
  · exact h
  · intro j hj
    rw [List.length_append] at hj
    rcases Nat.lt_or_ge j l.length with h1 | h1
    · rw [List.getD_eq_getElem?_getD, List.getElem?_append_left h1, ← List.getD_eq_getElem?_getD]
      exact h j h1
    · have hj2 : j = l.length := by simp at hj; omega
      subst hj2
      rw [List.getD_eq_getElem?_getD, List.getElem?_append_right (Nat.le_refl _)]
      simpa using hx
theorem Back.insN {f g : Nat → Nat} {k : Nat} {l : List Nd} (h : Back l) (hk : k < l.length) : ∀ n, Back (insPN f g k l n)
  | 0 => h
  | n + 1 => (Back.insN h hk n).ins ⟨by show -1 ≤ (k : Int); omega, by show (k : Int) < _; have := insPN_len f g k l n; omega⟩
theorem nodes_back (f g : Nat → Nat → Nat) (m : Nat) : ∀ k, Back (nodes f g m k)
  | 0 => by intro j hj; simp [nodes] at hj ⊢; subst hj; decide
  | k + 1 => by
    unfold nodes
    split
    · rename_i h; exact (nodes_back f g m k).insN h m
    · exact nodes_back f g m k
theorem wayOf_more {l : List Nd} (h : Back l) : ∀ n k, k < l.length → k < n → wayOf l (n + 1) k = wayOf l n k
  | 0, k, _, hn => absurd hn (by omega)
  | n + 1, k, hk, hn => by
    have e1 : wayOf l (n + 1 + 1) k = if (l.getD k default).fr < 0 then [] else wayOf l (n + 1) (l.getD k default).fr.toNat ++ [((l.getD k default).inp : Int)] := rfl
    have e2 : wayOf l (n + 1) k = if (l.getD k default).fr < 0 then [] else wayOf l n (l.getD k default).fr.toNat ++ [((l.getD k default).inp : Int)] := rfl
    rw [e1, e2]
    by_cases h1 : (l.getD k default).fr < 0
    · rw [if_pos h1, if_pos h1]
    · have hb := h k hk
      rw [if_neg h1, if_neg h1, wayOf_more h n _ (by omega) (by omega)]
theorem wayOf_pre {l m : List Nd} (h : Back l) : ∀ n k, k < l.length → wayOf (l ++ m) n k = wayOf l n k
  | 0, k, _ => rfl
  | n + 1, k, hk => by
    have e : (l ++ m).getD k default = l.getD k default := by rw [List.getD_eq_getElem?_getD, List.getD_eq_getElem?_getD, List.getElem?_append_left hk]
    rw [wayOf, wayOf, e]
    split
    · rfl
    · rename_i h1
      have hb := h k hk
      rw [wayOf_pre h n _ (by omega)]
theorem wayOf_len {l : List Nd} (h : Back l) : ∀ n k, k < l.length → (wayOf l n k).length ≤ k
  | 0, k, _ => by simp [wayOf]
  | n + 1, k, hk => by
    rw [wayOf]
    split
    · simp
    · rename_i h1
      have hb := h k hk
      have := wayOf_len h n (l.getD k default).fr.toNat (by omega)
      simp only [List.length_append, List.length_cons, List.length_nil]
      omega
theorem find_hit {p : Nat → Bool} {n j : Nat} (hj : j < n) (hp : p j = true) (h : ∀ i, i < j → p i = false) : (List.range n).find? p = some j := by
  obtain ⟨m, rfl⟩ : ∃ m, n = j + (m + 1) := ⟨n - j - 1, by omega⟩
  rw [List.range_add, List.find?_append, List.find?_eq_none.2 (fun x hx => by rw [h x (List.mem_range.1 hx)]; simp)]
  simp [List.range_succ_eq_map, hp]
theorem find_miss {p : Nat → Bool} {n : Nat} (h : ∀ i, i < n → p i = false) : (List.range n).find? p = none :=
  List.find?_eq_none.2 (fun x hx => by rw [h x (List.mem_range.1 hx)]; simp)
/-- The first difference between two machines that a search meets. -/
structure Two where
  f : Nat → Nat → Nat
  g : Nat → Nat → Nat
  p : Nat → Nat → Nat
  q : Nat → Nat → Nat
  m : Nat
def Two.nds (t : Two) (k : Nat) : List Nd := nodes t.f t.g t.m k
def Two.diff (t : Two) (k : Nat) : Option Nat := (List.range t.m).find? fun i => t.p i ((t.nds k).getD k default).a != t.q i ((t.nds k).getD k default).b
def Two.IsApart (t : Two) : Option (List Int) → Prop
  | some w => ∃ k i, (∀ k', k' < k → t.diff k' = none) ∧ k < (t.nds k).length ∧ t.diff k = some i ∧ w = wayOf (t.nds k) (k + 1) k ++ [(i : Int)]
  | none => ∃ k, (∀ k', k' < k → t.diff k' = none) ∧ (t.nds k).length ≤ k
theorem Two.nds_len (t : Two) {k : Nat} : ∀ j, (t.nds k).length ≤ (t.nds (k + j)).length
  | 0 => Nat.le_refl _
  | j + 1 => Nat.le_trans (t.nds_len j) (by rw [show k + (j + 1) = k + j + 1 by omega]; exact nodes_mono)
theorem Two.IsApart.unique {t : Two} : ∀ {r s : Option (List Int)}, t.IsApart r → t.IsApart s → r = s
  | some w, some u, ⟨k, i, h1, h2, h3, h4⟩, ⟨k', i', g1, g2, g3, g4⟩ => by
    have hk : k = k' := by
      rcases Nat.lt_trichotomy k k' with h | h | h
      · rw [g1 k h] at h3; cases h3
      · exact h
      · rw [h1 k' h] at g3; cases g3
    subst hk
    rw [h3] at g3
    cases g3
    rw [h4, g4]
  | none, none, _, _ => rfl
  | some w, none, ⟨k, i, h1, h2, h3, h4⟩, ⟨k', g1, g2⟩ => by
    rcases Nat.lt_or_ge k k' with h | h
    · rw [g1 k h] at h3; cases h3
    · exfalso
      have e : t.nds k = t.nds k' := nodes_stop g2 k h
      rw [e] at h2
      omega
  | none, some u, ⟨k, h1, h2⟩, ⟨k', i', g1, g2, g3, g4⟩ => by
    rcases Nat.lt_or_ge k' k with h | h
    · rw [h1 k' h] at g3; cases g3
    · exfalso
      have e : t.nds k' = t.nds k := nodes_stop h2 k' h
      rw [e] at g2
      omega
def codes (A : Nat) (l : List Nd) : List Nat := (pairsOf l).map fun p => p.1 + A * p.2
theorem codes_mem {A : Nat} {l : List Nd} {x : Nat × Nat} (hA : 0 < A) (hx : x.1 < A) (h : ∀ p ∈ pairsOf l, p.1 < A) : x.1 + A * x.2 ∈ codes A l ↔ x ∈ pairsOf l := by
  constructor
  · intro hm
    obtain ⟨p, hp, he⟩ := List.mem_map.1 hm
    have hp1 := h p hp
    have e1 : (p.1 + A * p.2) % A = p.1 := by rw [Nat.add_mul_mod_self_left, Nat.mod_eq_of_lt hp1]
    have e2 : (x.1 + A * x.2) % A = x.1 := by rw [Nat.add_mul_mod_self_left, Nat.mod_eq_of_lt hx]
    have h1 : p.1 = x.1 := by rw [← e1, ← e2, he]
    have h2 : A * p.2 = A * x.2 := by omega
    have : p = x := Prod.ext h1 (Nat.eq_of_mul_eq_mul_left hA h2)
    exact this ▸ hp
  · intro hm
    exact List.mem_map.2 ⟨x, hm, rfl⟩
theorem codes_append (A : Nat) (l : List Nd) (x : Nd) : codes A (l ++ [x]) = codes A l ++ [x.a + A * x.b] := by simp [codes, pairsOf]
theorem wayOf_eq {l : List Nd} (hb : Back l) {f : Nat} (hf : f < l.length) : ∀ n, f < n → wayOf l n f = wayOf l (f + 1) f
  | 0, h => absurd h (by omega)
  | n + 1, h => by
    rcases Nat.eq_or_lt_of_le (show f ≤ n by omega) with h3 | h3
    · rw [h3]
    · rw [wayOf_more hb n f hf h3]
      exact wayOf_eq hb hf n h3
theorem wayOf_stop {l : List Nd} {k : Nat} (h : (l.getD k default).fr < 0) : wayOf l (k + 1) k = [] := if_pos h
theorem wayOf_on {l : List Nd} (hb : Back l) {k : Nat} (hk : k < l.length) (h : ¬ (l.getD k default).fr < 0) : wayOf l (k + 1) k = wayOf l ((l.getD k default).fr.toNat + 1) (l.getD k default).fr.toNat ++ [((l.getD k default).inp : Int)] := by
  have hbk := hb k hk
  have e : wayOf l (k + 1) k = wayOf l k (l.getD k default).fr.toNat ++ [((l.getD k default).inp : Int)] := if_neg h
  rw [e, wayOf_eq hb (by omega) k (by omega)]
theorem verK {a v k m : Nat} (h : a = k) (hk : Nat.blt k m = true) : a < v + m := by
  have := Nat.le_of_ble_eq_true hk
  omega
/-! ### Nodes in memory -/
variable {P : Program}
abbrev tiQ : TI := ⟨4, 32, true, [.int .i64 0, .int .i64 0, .int .i64 0, .int .i64 0]⟩
theorem Gets.ldQ {H : AHeap} {t : TypeId} {ti : TI} {i j : Nat} {l : List Nd} {A : AVal → Prop} (ht : tinfo P t = some ti) (hag : ti.agg = true) (hsz : ti.size = 4) (hf : (H.f i).cs = ints (qflat l)) (h : j < l.length)
    (hA : A (.agg [.int .i64 ((l.getD j default).a : Int), .int .i64 ((l.getD j default).b : Int), .int .i64 (l.getD j default).fr, .int .i64 ((l.getD j default).inp : Int)])) : Gets (loadA P H t (.ptr i (j * 4))) A := by
  refine ⟨⟨_, ?_, hA⟩⟩
  have g := qflat_get l j h
  have hlen := qflat_length l
  have hl : (ints (qflat l)).length = l.length * 4 := by rw [ints, List.length_map, hlen]
  have e : ∀ f x, f < 4 → (l.getD j default).l[f]? = some x → (ints (qflat l))[j * 4 + f]? = some (.int .i64 x) := by
    intro f x hf hx
    rw [ints, List.getElem?_map, g f hf, hx]; rfl
  have htk : ((ints (qflat l)).drop (j * 4)).take 4 = [.int .i64 ((l.getD j default).a : Int), .int .i64 ((l.getD j default).b : Int), .int .i64 (l.getD j default).fr, .int .i64 ((l.getD j default).inp : Int)] := by
    refine List.ext_getElem? fun f => ?_
    rw [List.getElem?_take]
    rcases f with _ | _ | _ | _ | f
    · rw [if_pos (by decide), List.getElem?_drop]; exact e 0 _ (by decide) rfl
    · rw [if_pos (by decide), List.getElem?_drop]; exact e 1 _ (by decide) rfl
    · rw [if_pos (by decide), List.getElem?_drop]; exact e 2 _ (by decide) rfl
    · rw [if_pos (by decide), List.getElem?_drop]; exact e 3 _ (by decide) rfl
    · rw [if_neg (by omega)]; rfl
  simp only [loadA, ht, AHeap.load, hf, hsz, htk, hag, if_true]
  rw [if_pos (by rw [hl]; omega)]
theorem Gets.ldQf {H : AHeap} {t : TypeId} {i off j f : Nat} {l : List Nd} {x : Int} {A : AVal → Prop} (ht : tinfo P t = some tiI) (hf : (H.f i).cs = ints (qflat l)) (ho : off = j * 4 + f) (h : j < l.length) (hf4 : f < 4) (hx : (l.getD j default).l[f]? = some x) (hA : A (.int .i64 x)) : Gets (loadA P H t (.ptr i off)) A := by
  subst ho
  refine Gets.loadN (j := j * 4 + f) (k := .i64) (l := qflat l) (x := x) ht rfl hf rfl ?_ hA
  rw [qflat_get l j h f hf4, hx]
/-- A node behind a row of nodes. -/
theorem Gets.appQ1 {H : AHeap} {t tx : TypeId} {ti : TI} {d : TypeDesc} {i j m : Nat} {l : List Nd} {x : Nd} {A : AVal × AHeap → Prop} (ht : sliceT P t = some ti) (hd : P.underlying tx = some d) (hr : rowD d = true) (hsz : ti.size = 4) (hz : ti.zero.length = 4) (hb : ti.bytes ≤ 4096)
    (hi : H.f i = .cells 4 (ints (qflat l))) (hx : H.f j = .cells 4 (ints x.l)) (hl : m = l.length) (hm : m < 4294967296) (hA : A (.slice H.n 0 (m + 1), (H.set i .dead).alloc (.cells 4 (ints (qflat (l ++ [x])))))) :
    Gets (builtA P H .append [t, tx] [.slice i 0 m, .slice j 0 1]) A := by
  subst hl
  have hlen : (ints (qflat l)).length = l.length * 4 := by rw [ints, List.length_map, qflat_length]
  refine Gets.appG (n := 1) (xs := ints x.l) ht hd hr hsz hz hb hi ?_ (by omega) (by omega) rfl ?_
  · simp [srcA, hx, ints, Nd.l]
  · have : (ints (qflat l)).take (l.length * 4) ++ ints x.l = ints (qflat (l ++ [x])) := by rw [List.take_of_length_le (by omega), qflat_append]; simp [ints, qflat]
    rw [this]; exact hA
theorem qflat_pos {l : List Nd} (h : 0 < l.length) : 0 < (qflat l).length := by rw [qflat_length]; omega
/-- Rows of numbers that may not be there. -/
def oIB : List Int → ABlk
  | [] => .dead
  | x :: l => .cells 1 (ints (x :: l))
def oI (k : Nat) : List Int → AVal
  | [] => .nilSlice
  | x :: l => .slice k 0 (x :: l).length
theorem oI_view {H : AHeap} {k : Nat} (l : List Int) (hk : k < H.n) : AsView H (oI k l) k l.length := by
  cases l with
  | nil => exact .inr (.inr ⟨rfl, rfl, hk⟩)
  | cons x l => exact .inr (.inl rfl)
theorem fresh_oI (l : List Int) : freshB (oIB l) = true := by cases l <;> rfl
theorem _root_.Go.Vh.BSub.roI' {κ κ' : Nat → Nat} {l : List Int} : BSub κ (roO l) (renB κ' (oIB l)) := by
  cases l with
  | nil => exact .gone
  | cons x l => exact .inr (.inr ⟨1, _, rfl, by show ABlk.cells 1 (rens κ' (ints _)) = .cells 1 (rens κ (ints _)); rw [rens_ints, rens_ints]⟩)
theorem _root_.Go.Vh.BSub.toI {κ κ' : Nat → Nat} {l : List Int} : BSub κ (oIB l) (renB κ' (oIB l)) := by
  cases l with
  | nil => exact .gone
  | cons x l => exact .inl (by show ABlk.cells 1 (rens κ' (ints _)) = .cells 1 (rens κ (ints _)); rw [rens_ints, rens_ints])
theorem _root_.Go.Vh.BSub.roCells {κ : Nat → Nat} {es : Nat} {l : List Int} : BSub κ (.ro es (ints l)) (.cells es (ints l)) := .inr (.inr ⟨es, ints l, rfl, by rw [rens_ints]⟩)
theorem _root_.Go.Vh.BSub.toIc {κ : Nat → Nat} {l : List Int} : BSub κ (oIB l) (.cells 1 (ints l)) := by
  cases l with
  | nil => exact .gone
  | cons x l => exact .cellsI
theorem Gets.addN {a b : Nat} {A : AVal → Prop} (h : a + b < 9223372036854775808) (hA : A (.int .i64 ((a + b : Nat) : Int))) : Gets (abin .add (.int .i64 (a : Int)) (.int .i64 (b : Int))) A :=
  Gets.addE (c := ((a + b : Nat) : Int)) (by omega) (by omega) (by omega) hA
theorem Gets.shlNN {k' : IntKind} {t k : Nat} {A : AVal → Prop} (hk : k < 64) (h : t * 2 ^ k < 9223372036854775808) (hA : A (.int .i64 ((t * 2 ^ k : Nat) : Int))) : Gets (abin .shl (.int .i64 (t : Int)) (.int k' (k : Int))) A := by
  refine Gets.shl (by omega) ?_
  have : shlA .i64 (t : Int) (k : Int) = ((t * 2 ^ k : Nat) : Int) := by
    unfold shlA
    rw [show min (k : Int).toNat (IntKind.bits .i64) = k from by show min (k : Int).toNat 64 = k; omega]
    have e : (t : Int) * 2 ^ k = ((t * 2 ^ k : Nat) : Int) := by simp
    rw [e]
    exact wrap_i64n (by omega)
  rw [this]; exact hA
end Go.Vk
