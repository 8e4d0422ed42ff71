/- Words: what tells the same letters has one normal form. -/
import Derived.Test.YthjemhlcojmiaaaDoorWnf
import Derived.Test.YthjemhlcojmiaaaDoorWdb
set_option linter.unusedVariables false
set_option linter.unusedSimpArgs false
namespace Go.Proofs.YthjemhlcojmiaaaDoor
open Go Go.Vh Go.Vk Go.Proofs
theorem wd_ext' {a b : Wd} : a = b ↔ a.stem = b.stem ∧ a.loop = b.loop := wd_ext
theorem getD_take {l : List Int} {n i : Nat} (h : i < n) : (l.take n).getD i 0 = l.getD i 0 := by
  rw [List.getD_eq_getElem?_getD, List.getD_eq_getElem?_getD, List.getElem?_take, if_pos h]
theorem rot_getD {T : List Int} {r i : Nat} (hr : r < T.length) (hi : i < T.length) : (rot T r).getD i 0 = T.getD ((i + (T.length - r)) % T.length) 0 := by
  unfold rot
  rw [List.getD_eq_getElem?_getD, List.getD_eq_getElem?_getD]
  congr 1
  rcases Nat.lt_or_ge i r with h | h
  · rw [List.getElem?_append_left (by rw [List.length_drop]; omega), List.getElem?_drop, Nat.mod_eq_of_lt (by omega), Nat.add_comm]
  · rw [List.getElem?_append_right (by rw [List.length_drop]; omega), List.length_drop, List.getElem?_take, if_pos (by omega), Nat.mod_eq_sub_mod (by omega), Nat.mod_eq_of_lt (by omega)]
    congr 1
    omega
/-- The letters from the loop on. -/
theorem lt_loop {w : Wd} (hl : 0 < w.loop.length) {k : Nat} (hk : w.stem.length ≤ k) : w.lt k = (w.loop.take (per w.loop)).getD ((k - w.stem.length) % per w.loop) 0 := by
  have h := per_is hl
  have hd : per w.loop ∣ w.loop.length := Nat.dvd_of_mod_eq_zero h.2.2.1.1
  unfold Wd.lt
  rw [if_neg (by omega), getD_take (Nat.mod_lt _ h.1), h.2.2.1.mod h.1 _ (Nat.mod_lt _ hl), Nat.mod_mod_of_dvd _ hd]
/-- A word and its normal form tell the same letters. -/
theorem nf_lt {w : Wd} (hl : 0 < w.loop.length) (k : Nat) : (nf w).lt k = w.lt k := by
  have h := per_is hl
  have hT := per_take hl
  have hc := cut_is w.stem (w.loop.take (per w.loop))
  have e : nf w = ⟨w.stem.take (w.stem.length - cut w.stem (w.loop.take (per w.loop))), rot (w.loop.take (per w.loop)) (cut w.stem (w.loop.take (per w.loop)) % per w.loop)⟩ := rfl
  have hlk := fun hk => lt_loop (w := w) hl (k := k) hk
  rw [e]
  generalize w.loop.take (per w.loop) = T at *
  generalize cut w.stem T = t at *
  obtain ⟨c1, c2, c3⟩ := hc
  rw [← hT] at hlk ⊢
  have hT0 : 0 < T.length := by rw [hT]; exact h.1
  have hmt := Nat.mod_lt t hT0
  have hlen : (w.stem.take (w.stem.length - t)).length = w.stem.length - t := by rw [List.length_take]; omega
  show (if k < (w.stem.take (w.stem.length - t)).length then (w.stem.take (w.stem.length - t)).getD k 0 else (rot T (t % T.length)).getD ((k - (w.stem.take (w.stem.length - t)).length) % (rot T (t % T.length)).length) 0) = _
  rw [hlen, rot_length]
  rcases Nat.lt_or_ge k (w.stem.length - t) with h1 | h1
  · rw [if_pos h1, getD_take h1]
    unfold Wd.lt
    rw [if_pos (by omega)]
  · rw [if_neg (by omega), rot_getD hmt (Nat.mod_lt _ hT0)]
    rcases Nat.lt_or_ge k w.stem.length with h2 | h2
    · have hm := c2 (w.stem.length - 1 - k) (by omega)
      unfold Mt at hm
      unfold Wd.lt
      rw [if_pos h2, show w.stem.length - 1 - (w.stem.length - 1 - k) = k by omega] at *
      rw [hm]
      congr 1
      have h3 := Nat.mod_lt (w.stem.length - 1 - k) hT0
      generalize hu : w.stem.length - 1 - k = u at *
      have hx : k - (w.stem.length - t) = t - 1 - u := by omega
      rw [hx]
      have q1 := Nat.div_add_mod t T.length
      have q2 := Nat.div_add_mod u T.length
      have q3 := Nat.div_add_mod (t - 1 - u) T.length
      generalize t % T.length = r at *
      generalize hu2 : u % T.length = x at *
      have q4 := Nat.mod_lt (t - 1 - u) hT0
      generalize hy : (t - 1 - u) % T.length = y at *
      generalize t / T.length = A at *
      generalize u / T.length = B at *
      generalize (t - 1 - u) / T.length = C at *
      -- y ≡ r - 1 - x
      have key : (y + (T.length - r)) % T.length = (T.length - 1 - x) % T.length := by
        have e1 : y + T.length * C + u + 1 = t := by omega
        have e2 : y + (T.length - r) + T.length * (C + B + 1) = (T.length - 1 - x) + T.length * (A + 1) := by
          rw [Nat.mul_add, Nat.mul_add, Nat.mul_add]
          omega
        have e3 := congrArg (· % T.length) e2
        simp only [Nat.add_mul_mod_self_left] at e3
        exact e3
      rw [key, Nat.mod_eq_of_lt (by omega)]
    · rw [hlk h2]
      congr 1
      rw [Nat.mod_add_mod]
      have q1 := Nat.div_add_mod t T.length
      generalize t % T.length = r at *
      generalize t / T.length = A at *
      have e2 : k - (w.stem.length - t) + (T.length - r) = (k - w.stem.length) + T.length * (A + 1) := by
        rw [Nat.mul_add]
        omega
      rw [e2, Nat.add_mul_mod_self_left]
/-- The last letter of the stem of a normal form is not the loop's. -/
theorem nf_cut {w : Wd} (hl : 0 < w.loop.length) (h0 : 0 < (nf w).stem.length) : (nf w).stem.getD ((nf w).stem.length - 1) 0 ≠ (nf w).loop.getD ((nf w).loop.length - 1) 0 := by
  have h := per_is hl
  have hT := per_take hl
  have hc := cut_is w.stem (w.loop.take (per w.loop))
  have e : nf w = ⟨w.stem.take (w.stem.length - cut w.stem (w.loop.take (per w.loop))), rot (w.loop.take (per w.loop)) (cut w.stem (w.loop.take (per w.loop)) % per w.loop)⟩ := rfl
  rw [e] at h0 ⊢
  generalize w.loop.take (per w.loop) = T at *
  generalize cut w.stem T = t at *
  obtain ⟨c1, c2, c3⟩ := hc
  rw [← hT] at h0 ⊢
  have hT0 : 0 < T.length := by rw [hT]; exact h.1
  dsimp only at h0 ⊢
  rw [List.length_take] at h0 ⊢
  rw [rot_length, rot_last (Nat.mod_lt _ hT0), getD_take (by omega)]
  rcases c3 with c3 | c3
  · omega
  · unfold Mt at c3
    rw [show min (w.stem.length - t) w.stem.length - 1 = w.stem.length - 1 - t by omega]
    exact c3
def Evp (f : Nat → Int) (N p : Nat) : Prop := ∀ k, N ≤ k → f (k + p) = f k
theorem Evp.mul {f : Nat → Int} {N p : Nat} (h : Evp f N p) (c : Nat) : Evp f N (p * c) := by
  intro k hk
  induction c with
  | zero => rfl
  | succ c ih => rw [Nat.mul_succ, ← Nat.add_assoc, h _ (by omega), ih]
theorem evp_gcd {f : Nat → Int} {N : Nat} (p q : Nat) : Evp f N p → Evp f N q → Evp f N (Nat.gcd p q) := by
  induction p, q using Nat.gcd.induction with
  | H0 n => intro _ h; rwa [Nat.gcd_zero_left]
  | H1 m n hm ih =>
    intro h1 h2
    rw [Nat.gcd_rec]
    refine ih ?_ h1
    intro k hk
    rw [← h1.mul (n / m) (k + n % m) (by omega), Nat.add_assoc, Nat.mod_add_div]
    exact h2 k hk
theorem evp_per {w : Wd} (hl : 0 < w.loop.length) : Evp w.lt w.stem.length (per w.loop) := by
  intro k hk
  rw [lt_loop hl (by omega), lt_loop hl hk, show k + per w.loop - w.stem.length = k - w.stem.length + per w.loop by omega, Nat.add_mod_right]
theorem per_least {w : Wd} (hl : 0 < w.loop.length) {N g : Nat} (hg : 0 < g) (h : Evp w.lt N g) (hd : g ∣ per w.loop) : per w.loop ≤ g := by
  refine Nat.le_of_not_lt fun hlt => ?_
  have hp := per_is hl
  have hdl : g ∣ w.loop.length := Nat.dvd_trans hd (Nat.dvd_of_mod_eq_zero hp.2.2.1.1)
  refine hp.2.2.2 g hg hlt ⟨Nat.mod_eq_zero_of_dvd hdl, fun i h1 h2 => ?_⟩
  have hN : N ≤ w.loop.length * N := Nat.le_mul_of_pos_left _ hl
  have val : ∀ j, j < w.loop.length → w.lt (w.stem.length + w.loop.length * N + j) = w.loop.getD j 0 := fun j hj => by
    unfold Wd.lt
    rw [if_neg (by omega), show w.stem.length + w.loop.length * N + j - w.stem.length = j + w.loop.length * N by omega, Nat.add_mul_mod_self_left, Nat.mod_eq_of_lt hj]
  rw [← val i h2, ← val (i - g) (by omega), ← h (w.stem.length + w.loop.length * N + (i - g)) (by omega)]
  congr 1
  omega
theorem per_same {u v : Wd} (hu : 0 < u.loop.length) (hv : 0 < v.loop.length) (h : ∀ k, u.lt k = v.lt k) : per u.loop = per v.loop := by
  have e : u.lt = v.lt := funext h
  have p1 := per_is hu
  have p2 := per_is hv
  have a : Evp u.lt (max u.stem.length v.stem.length) (per u.loop) := fun k hk => evp_per hu k (by omega)
  have b : Evp u.lt (max u.stem.length v.stem.length) (per v.loop) := fun k hk => by rw [e]; exact evp_per hv k (by omega)
  have g := evp_gcd _ _ a b
  have g0 : 0 < Nat.gcd (per u.loop) (per v.loop) := Nat.gcd_pos_of_pos_left _ p1.1
  have l1 := per_least hu g0 g (Nat.gcd_dvd_left _ _)
  have l2 := per_least hv g0 (by rw [← e]; exact g) (Nat.gcd_dvd_right _ _)
  have l3 := Nat.le_of_dvd p1.1 (Nat.gcd_dvd_left (per u.loop) (per v.loop))
  have l4 := Nat.le_of_dvd p2.1 (Nat.gcd_dvd_right (per u.loop) (per v.loop))
  omega
theorem nf_stem_le {u v : Wd} (hu : 0 < u.loop.length) (hv : 0 < v.loop.length) (h : ∀ k, u.lt k = v.lt k) : (nf v).stem.length ≤ (nf u).stem.length := by
  refine Nat.le_of_not_lt fun hlt => ?_
  have hp := per_same hu hv h
  have nu := nf_lens hu
  have nv := nf_lens hv
  refine nf_cut hv (by omega) ?_
  generalize hb : (nf v).stem.length = b at *
  have x1 : (nf v).lt (b - 1) = (nf v).stem.getD (b - 1) 0 := by unfold Wd.lt; rw [if_pos (by omega)]
  have x2 : (nf v).lt (b - 1 + per v.loop) = (nf v).loop.getD ((nf v).loop.length - 1) 0 := by
    have := (per_is hv).1
    unfold Wd.lt
    rw [if_neg (by omega), hb, show b - 1 + per v.loop - b = (nf v).loop.length - 1 by omega, Nat.mod_eq_of_lt (by omega)]
  rw [← x1, ← x2, nf_lt hv, nf_lt hv, ← h, ← h, ← nf_lt hu, ← nf_lt hu]
  unfold Wd.lt
  rw [if_neg (by omega), if_neg (by omega), show b - 1 + per v.loop - (nf u).stem.length = b - 1 - (nf u).stem.length + (nf u).loop.length by omega, Nat.add_mod_right]
/-- Words that tell the same letters have one normal form. -/
theorem nf_uniq {u v : Wd} (hu : 0 < u.loop.length) (hv : 0 < v.loop.length) (h : ∀ k, u.lt k = v.lt k) : nf u = nf v := by
  have hp := per_same hu hv h
  have nu := nf_lens hu
  have nv := nf_lens hv
  have s1 := nf_stem_le hu hv h
  have s2 := nf_stem_le hv hu fun k => (h k).symm
  have hs : (nf u).stem.length = (nf v).stem.length := by omega
  have hl : (nf u).loop.length = (nf v).loop.length := by omega
  have hk : ∀ k, (nf u).lt k = (nf v).lt k := fun k => by rw [nf_lt hu, nf_lt hv, h]
  have ex : ∀ {l m : List Int}, l.length = m.length → (∀ k, k < l.length → l.getD k 0 = m.getD k 0) → l = m := fun {l m} e1 e2 => List.ext_getElem e1 fun k h1 h2 => by
    have := e2 k h1
    rw [List.getD_eq_getElem?_getD, List.getD_eq_getElem?_getD, List.getElem?_eq_getElem h1, List.getElem?_eq_getElem h2] at this
    exact this
  have t1 : (nf u).stem = (nf v).stem := ex hs fun k h1 => by
    have := hk k
    unfold Wd.lt at this
    rwa [if_pos h1, if_pos (by omega)] at this
  have t2 : (nf u).loop = (nf v).loop := ex hl fun k h1 => by
    have := hk ((nf u).stem.length + k)
    unfold Wd.lt at this
    rw [if_neg (by omega), if_neg (by omega), hs, Nat.add_sub_cancel_left, Nat.mod_eq_of_lt h1, Nat.mod_eq_of_lt (by omega)] at this
    exact this
  exact wd_ext'.2 ⟨t1, t2⟩
theorem nf_iff {u v : Wd} (hu : 0 < u.loop.length) (hv : 0 < v.loop.length) : nf u = nf v ↔ ∀ k, u.lt k = v.lt k := by
  constructor
  · intro e k; rw [← nf_lt hu, ← nf_lt hv, e]
  · exact nf_uniq hu hv
/-- So many letters decide. -/
theorem lt_bound {u v : Wd} (hu : 0 < u.loop.length) (hv : 0 < v.loop.length) (h : ∀ k, k < max u.stem.length v.stem.length + u.loop.length * v.loop.length → u.lt k = v.lt k) (k : Nat) : u.lt k = v.lt k := by
  have hpos : 0 < u.loop.length * v.loop.length := Nat.mul_pos hu hv
  have red : ∀ (w : Wd) (M j : Nat), w.stem.length ≤ M → w.loop.length ∣ u.loop.length * v.loop.length → w.lt (M + j) = w.lt (M + j % (u.loop.length * v.loop.length)) := fun w M j hM hd => by
    unfold Wd.lt
    rw [if_neg (by omega), if_neg (by omega)]
    congr 1
    rw [show M + j - w.stem.length = M - w.stem.length + j by omega, show M + j % (u.loop.length * v.loop.length) - w.stem.length = M - w.stem.length + j % (u.loop.length * v.loop.length) by omega, Nat.add_mod (M - w.stem.length) j, Nat.add_mod (M - w.stem.length) (j % (u.loop.length * v.loop.length)), Nat.mod_mod_of_dvd _ hd]
  generalize hM : max u.stem.length v.stem.length = M at h
  rcases Nat.lt_or_ge k M with h1 | h1
  · exact h k (by omega)
  · obtain ⟨j, rfl⟩ : ∃ j, k = M + j := ⟨k - M, by omega⟩
    rw [red u M j (by omega) (Nat.dvd_mul_right _ _), red v M j (by omega) (Nat.dvd_mul_left _ _)]
    exact h _ (by have := Nat.mod_lt j hpos; omega)
end Go.Proofs.YthjemhlcojmiaaaDoor
