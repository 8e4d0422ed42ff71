/- Walk, of the program. -/
import Derived.Test.YtdahmcgncpoliaaVhZa
import Derived.Test.YtdahmcgncpoliaaAwh
set_option linter.unusedVariables false
set_option linter.unusedSimpArgs false
set_option maxRecDepth 100000
namespace Go.Proofs.Ytdahmcgncpoliaa
open Go Go.Vh Go.Proofs
def Au.rows (a : Au) : List (List Int) := a.byN a.es.length
/-- One step of the run. -/
def Au.go (a : Au) (s l : Int) : Option Edg := a.nxt l (a.rows.getD s.toNat [])
def Au.sRun (a : Au) (s : Int) : List Int → Option Int
  | [] => some s
  | x :: xs => match a.go s x with
    | none => none
    | some e => a.sRun e.to xs
def Au.tRun (a : Au) (s m : Int) : List Int → Option (Int × Int)
  | [] => some (s, m)
  | x :: xs => match a.go s x with
    | none => none
    | some e => a.tRun e.to (bitsA .or .i64 m e.marks) xs
/-- The state ahead of a turn, and what a turn meets. -/
def Au.tS (a : Au) (loop : List Int) (s0 : Int) : Nat → Option Int
  | 0 => some s0
  | t + 1 => match a.tS loop s0 t with
    | none => none
    | some s => (a.tRun s 0 loop).map (·.1)
def Au.tM (a : Au) (loop : List Int) (s0 : Int) (t : Nat) : Option Int := match a.tS loop s0 t with
  | none => none
  | some s => (a.tRun s 0 loop).map (·.2)
structure Au.Hist (a : Au) (loop : List Int) (s0 : Int) (hs ms : List Int) (s : Int) : Prop where
  len : ms.length = hs.length
  sat : ∀ i, i < hs.length → a.tS loop s0 i = hs[i]?
  ms : ∀ i, i < hs.length → a.tM loop s0 i = ms[i]?
  now : a.tS loop s0 hs.length = some s
  nodup : hs.Nodup
  ok : ∀ x ∈ hs, 0 ≤ x ∧ x < a.states
  sok : 0 ≤ s ∧ s < a.states
def orAll (m : Int) (l : List Int) : Int := l.foldl (fun m x => bitsA .or .i64 m x) m
/-- What Walk answers, of a deterministic automaton and a word that fits. -/
def Au.WalkD (a : Au) (w : Wd) (inf : Int) (dead : Bool) : Prop :=
  (a.sRun (a.start.getD 0 0) w.stem = none ∧ inf = 0 ∧ dead = true) ∨ ∃ s0, a.sRun (a.start.getD 0 0) w.stem = some s0 ∧
    ((∃ t s, a.tS w.loop s0 t = some s ∧ a.tRun s 0 w.loop = none ∧ t ≤ a.states.toNat ∧ inf = 0 ∧ dead = true) ∨
      (∃ hs ms s k, a.Hist w.loop s0 hs ms s ∧ k < hs.length ∧ hs[k]? = some s ∧ inf = orAll 0 (ms.drop k) ∧ dead = false))
def Au.AutW (a : Au) (w : Wd) (inf : Int) (dead : Bool) (e : Int) : Prop :=
  (¬ a.Ok ∧ inf = 0 ∧ dead = false ∧ e = 1) ∨ (a.Ok ∧ ¬ (a.Sep a.es.length ∧ a.start.length = 1) ∧ inf = 0 ∧ dead = false ∧ e = 7) ∨ (a.Ok ∧ (a.Sep a.es.length ∧ a.start.length = 1) ∧ ¬ w.Ok a.props ∧ inf = 0 ∧ dead = false ∧ e = 2) ∨
    (a.Ok ∧ (a.Sep a.es.length ∧ a.start.length = 1) ∧ w.Ok a.props ∧ e = 0 ∧ a.WalkD w inf dead)
theorem Au.rows_ok (a : Au) (hne : a.es.length ≤ 40000) : RowsOk a a.rows := by
  have key : ∀ j, j ≤ a.es.length → ∀ (t : Nat) (r : List Int), (a.byN j)[t]? = some r → r.length ≤ j ∧ ∀ i ∈ r, ∃ k : Nat, i = k ∧ k < a.es.length := by
    intro j
    induction j with
    | zero =>
      intro _ t r h
      rw [Au.byN, List.getElem?_replicate] at h
      split at h
      · cases h; simp
      · cases h
    | succ j ih =>
      intro hj t r h
      rw [Au.byN, List.getElem?_set] at h
      split at h
      · split at h
        · cases h
          rename_i h1 h2
          have hg : (a.byN j)[a.frN j]? = some ((a.byN j).getD (a.frN j) []) := by rw [List.getD_eq_getElem?_getD, List.getElem?_eq_getElem h2]; rfl
          obtain ⟨h3, h4⟩ := ih (by omega) _ _ hg
          refine ⟨by rw [List.length_append]; show _ + 1 ≤ _; omega, fun i hi => ?_⟩
          rcases List.mem_append.1 hi with hi | hi
          · exact h4 i hi
          · obtain rfl := List.mem_singleton.1 hi; exact ⟨j, rfl, by omega⟩
        · cases h
      · obtain ⟨h3, h4⟩ := ih (by omega) t r h
        exact ⟨by omega, h4⟩
  exact ⟨hne, fun t r h => by have := (key _ (Nat.le_refl _) t r h).1; omega, fun t r h => (key _ (Nat.le_refl _) t r h).2⟩
theorem Au.nxt_mem (a : Au) (l : Int) : ∀ (r : List Int) (e : Edg), a.nxt l r = some e → e ∈ a.es
  | [], e, h => by cases h
  | i :: r, e, h => by
    simp only [Au.nxt] at h
    split at h
    · rename_i e' he
      split at h
      · cases h; exact List.mem_of_getElem? he
      · exact a.nxt_mem l r e h
    · exact a.nxt_mem l r e h
theorem stepW (a : Au) (w : Wd) (l s : Int) (ex : List ABlk) (hex : ∀ b ∈ ex, IntsOnly b) (hok : a.Ok) (hs : 0 ≤ s ∧ s < a.states) :
    CallW Try.prog 43 [.int .i64 l, .ptr 7 0, .ptr 8 0, .ptr 4 0] (a.WC w a.rows s ex) fun v H' => match a.go s l with
      | none => v = .tuple [.int .i64 0, .bool false] ∧ H' = a.WC w a.rows s ex
      | some e => v = .tuple [.int .i64 e.marks, .bool true] ∧ H' = (a.WC w a.rows s ex).set 8 (.cells 1 [.int .i64 e.to]) := by
  have hlen : a.rows.length = a.states.toNat := a.byN_length _
  have := hok.1.2.2.2.1
  exact step43 a l s a.rows _ _ (a.WC_step w a.rows s ex hex) (a.rows_ok hok.1.2.2.2.2.2.2.2) hs.1 (by omega) (by omega)
theorem Au.go_ok (a : Au) (hok : a.Ok) {s l : Int} {e : Edg} (h : a.go s l = some e) : 0 ≤ e.to ∧ e.to < a.states ∧ e ∈ a.es := by
  have hm := a.nxt_mem l _ e h
  have := hok.2.2 e hm
  exact ⟨this.2.2.1, this.2.2.2.1, hm⟩
/-- After a step. -/
theorem Au.stepEmb (a : Au) (w : Wd) (s s' : Int) (ex : List ABlk) (hex : ∀ b ∈ ex, IntsOnly b) (ke : List Nat) (hke : ke = List.range' 9 ex.length) :
    Emb 4 (rk ([0, 1, 2, 3, 4, 5, 6, 7, 8] ++ ke) (fun t => 9 + ex.length + t) a.rows.length (9 + ex.length + a.rows.length)) (a.WC w a.rows s' ex) ((a.WC w a.rows s ex).set 8 (.cells 1 [.int .i64 s'])) := by
  subst hke
  have hkel : (List.range' 9 ex.length).length = ex.length := List.length_range'
  have hf : ∀ i, i ≠ 8 → ((a.WC w a.rows s ex).set 8 (.cells 1 [.int .i64 s'])).f i = (a.WC w a.rows s ex).f i := fun i hi => by rw [set_f, if_neg hi]
  have hall : ([0, 1, 2, 3, 4, 5, 6, 7, 8] ++ List.range' 9 ex.length) = List.range (9 + ex.length) := by
    rw [List.range_eq_range', ← List.range'_append_1, Nat.zero_add]
    rfl
  refine a.wEmb w a.rows s' ex hex 7 8 (List.range' 9 ex.length) _ (a.WC_n w a.rows s ex) hkel (by omega) (by omega) (by omega) (fun i hi => ?_) ?_ ?_ ?_ (fun j k b hj hb => ?_) (fun i hi => ?_) (fun i j k hi hj hij => ?_) (fun t ht => by omega) (fun t x l h => ?_) (fun t u h => by omega)
  · rw [hf i (by omega), a.WC_lit w a.rows s ex (by omega)]
    rcases i with _ | _ | _ | _ | _ | _ | i
    · rfl
    · rfl
    · rfl
    · rfl
    · rfl
    · rfl
    · omega
  · rw [hf 6 (by decide), a.WC_lit w a.rows s ex (by decide)]; rfl
  · rw [hf 7 (by decide), a.WC_lit w a.rows s ex (by decide)]; rfl
  · rw [set_f, if_pos rfl]
  · have hjl : j < ex.length := by have := (List.getElem?_eq_some_iff.1 hb).1; exact this
    rw [List.getElem?_range' hjl] at hj
    cases hj
    refine ⟨by omega, .inr ?_⟩
    rw [hf _ (by omega), Nat.one_mul, a.WC_ex w a.rows s ex hb]
  · rw [set_ver, if_neg (by omega), a.WC_ver]
  · exfalso
    rw [hall] at hi hj
    obtain ⟨h1, h2⟩ := List.getElem?_eq_some_iff.1 hi
    obtain ⟨h3, h4⟩ := List.getElem?_eq_some_iff.1 hj
    rw [List.getElem_range] at h2 h4
    omega
  · rw [hall]
    refine ⟨by simp, ?_⟩
    rw [hf _ (by omega), a.WC_row, h]
    rfl
theorem Au.tRun_append (a : Au) : ∀ (xs : List Int) (s m : Int) (x : Int), a.tRun s m (xs ++ [x]) = match a.tRun s m xs with
    | none => none
    | some (s', m') => match a.go s' x with
      | none => none
      | some e => some (e.to, bitsA .or .i64 m' e.marks)
  | [], s, m, x => by
    simp only [List.nil_append, Au.tRun]
  | y :: ys, s, m, x => by
    simp only [List.cons_append, Au.tRun]
    cases a.go s y with
    | none => rfl
    | some e => exact a.tRun_append ys e.to _ x
theorem Au.tRun_none (a : Au) : ∀ (xs ys : List Int) (s m : Int), a.tRun s m xs = none → a.tRun s m (xs ++ ys) = none
  | [], ys, s, m, h => by cases h
  | y :: xs, ys, s, m, h => by
    simp only [List.cons_append, Au.tRun] at h ⊢
    cases hg : a.go s y with
    | none => rfl
    | some e => rw [hg] at h; exact a.tRun_none xs ys _ _ h
theorem Au.sRun_append (a : Au) : ∀ (xs : List Int) (s : Int) (x : Int), a.sRun s (xs ++ [x]) = match a.sRun s xs with
    | none => none
    | some s' => match a.go s' x with
      | none => none
      | some e => some e.to
  | [], s, x => by
    simp only [List.nil_append, Au.sRun]
  | y :: ys, s, x => by
    simp only [List.cons_append, Au.sRun]
    cases a.go s y with
    | none => rfl
    | some e => exact a.sRun_append ys e.to x
theorem Au.sRun_none (a : Au) : ∀ (xs ys : List Int) (s : Int), a.sRun s xs = none → a.sRun s (xs ++ ys) = none
  | [], ys, s, h => by cases h
  | y :: xs, ys, s, h => by
    simp only [List.cons_append, Au.sRun] at h ⊢
    cases hg : a.go s y with
    | none => rfl
    | some e => rw [hg] at h; exact a.sRun_none xs ys _ h
/-- Different numbers below a bound. -/
theorem nodup_le : ∀ (n : Nat) (l : List Int), l.Nodup → (∀ x ∈ l, 0 ≤ x ∧ x < n) → l.length ≤ n
  | 0, l, _, h => by
    cases l with
    | nil => simp
    | cons x l => have := h x (by simp); omega
  | n + 1, l, hd, h => by
    have h1 : (l.erase (n : Int)).Nodup := hd.erase _
    have h2 : ∀ x ∈ l.erase (n : Int), 0 ≤ x ∧ x < n := by
      intro x hx
      have hm := (List.Nodup.mem_erase_iff hd).1 hx
      have := h x hm.2
      have := hm.1
      omega
    have := nodup_le n _ h1 h2
    have h3 := List.length_erase (a := (n : Int)) (l := l)
    split at h3 <;> omega
end Go.Proofs.Ytdahmcgncpoliaa
