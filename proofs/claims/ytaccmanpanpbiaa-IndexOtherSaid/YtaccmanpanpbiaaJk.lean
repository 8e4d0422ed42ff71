/- Words: what tells the same letters has one normal form. -/
import Derived.Test.YtaccmanpanpbiaaJf
import Derived.Test.YtaccmanpanpbiaaJh
set_option linter.unusedVariables false
set_option linter.unusedSimpArgs false
namespace Go.Proofs.Ytaccmanpanpbiaa
open Go Go.Vh Go.Vk Go.Proofs
theorem wd_ext' {a b : Wd} : a = b ↔ a.stem = b.stem ∧ a.loop = b.loop := wd_ext
theorem getD_take {l : List Int} {n i : Nat} (h : i < n) : (l.take n).getD i 0 = l.getD i 0 := by
  rw [List.getD_eq_getElem?_getD, List.getD_eq_getElem?_getD, List.getElem?_take, if_pos h]
theorem rot_getD {T : List Int} {r i : Nat} (hr : r < T.length) (hi : i < T.length) : (rot T r).getD i 0 = T.getD ((i + (T.length - r)) % T.length) 0 := by
  unfold rot
  rw [List.getD_eq_getElem?_getD, List.getD_eq_getElem?_getD]
  congr 1
  rcases Nat.lt_or_ge i r with h | h
  · rw [List.getElem?_append_left (by rw [List.length_drop]; omega), List.getElem?_drop, Nat.mod_eq_of_lt (by omega), Nat.add_comm]
  · rw [List.getElem?_append_right (by rw [List.length_drop]; omega), List.length_drop, List.getElem?_take, if_pos (by omega), Nat.mod_eq_sub_mod (by omega), Nat.mod_eq_of_lt (by omega)]
    congr 1
    omega
/-- The letters from the loop on. -/
theorem lt_loop {w : Wd} (hl : 0 < w.loop.length) {k : Nat} (hk : w.stem.length ≤ k) : w.lt k = (w.loop.take (per w.loop)).getD ((k - w.stem.length) % per w.loop) 0 := by
  have h := per_is hl
  have hd : per w.loop ∣ w.loop.length := Nat.dvd_of_mod_eq_zero h.2.2.1.1
  unfold Wd.lt
  rw [if_neg (by omega), getD_take (Nat.mod_lt _ h.1), h.2.2.1.mod h.1 _ (Nat.mod_lt _ hl), Nat.mod_mod_of_dvd _ hd]
/-- A word and its normal form tell the same letters. -/
theorem nf_lt {w : Wd} (hl : 0 < w.loop.length) (k : Nat) : (nf w).lt k = w.lt k := by
  have h := per_is hl
  have hT := per_take hl
  have hc := cut_is w.stem (w.loop.take (per w.loop))
  have e : nf w = ⟨w.stem.take (w.stem.length - cut w.stem (w.loop.take (per w.loop))), rot (w.loop.take (per w.loop)) (cut w.stem (w.loop.take (per w.loop)) % per w.loop)⟩ := rfl
  have hlk := fun hk => lt_loop (w := w) hl (k := k) hk
  rw [e]
  generalize w.loop.take (per w.loop) = T at *
  generalize cut w.stem T = t at *
  obtain ⟨c1, c2, c3⟩ := hc
  rw [← hT] at hlk ⊢
  have hT0 : 0 < T.length := by rw [hT]; exact h.1
  have hmt := Nat.mod_lt t hT0
  have hlen : (w.stem.take (w.stem.length - t)).length = w.stem.length - t := by rw [List.length_take]; omega
  show (if k < (w.stem.take (w.stem.length - t)).length then (w.stem.take (w.stem.length - t)).getD k 0 else (rot T (t % T.length)).getD ((k - (w.stem.take (w.stem.length - t)).length) % (rot T (t % T.length)).length) 0) = _
  rw [hlen, rot_length]
  rcases Nat.lt_or_ge k (w.stem.length - t) with h1 | h1
  · rw [if_pos h1, getD_take h1]
    unfold Wd.lt
    rw [if_pos (by omega)]
  · rw [if_neg (by omega), rot_getD hmt (Nat.mod_lt _ hT0)]
    rcases Nat.lt_or_ge k w.stem.length with h2 | h2
    · have hm := c2 (w.stem.length - 1 - k) (by omega)
      unfold Mt at hm
      unfold Wd.lt
      rw [if_pos h2, show w.stem.length - 1 - (w.stem.length - 1 - k) = k by omega] at *
      rw [hm]
      congr 1
      have h3 := Nat.mod_lt (w.stem.length - 1 - k) hT0
      generalize hu : w.stem.length - 1 - k = u at *
      have hx : k - (w.stem.length - t) = t - 1 - u := by omega
      rw [hx]
      have q1 := Nat.div_add_mod t T.length
      have q2 := Nat.div_add_mod u T.length
      have q3 := Nat.div_add_mod (t - 1 - u) T.length
      generalize t % T.length = r at *
      generalize hu2 : u % T.length = x at *
      have q4 := Nat.mod_lt (t - 1 - u) hT0
      generalize hy : (t - 1 - u) % T.length = y at *
      generalize t / T.length = A at *
      generalize u / T.length = B at *
      generalize (t - 1 - u) / T.length = C at *
      -- y ≡ r - 1 - x
      have key : (y + (T.length - r)) % T.length = (T.length - 1 - x) % T.length := by
        have e1 : y + T.length * C + u + 1 = t := by omega
        have e2 : y + (T.length - r) + T.length * (C + B + 1) = (T.length - 1 - x) + T.length * (A + 1) := by
          rw [Nat.mul_add, Nat.mul_add, Nat.mul_add]
          omega
        have e3 := congrArg (· % T.length) e2
        simp only [Nat.add_mul_mod_self_left] at e3
        exact e3
      rw [key, Nat.mod_eq_of_lt (by omega)]
    · rw [hlk h2]
      congr 1
      rw [Nat.mod_add_mod]
      have q1 := Nat.div_add_mod t T.length
      generalize t % T.length = r at *
      generalize t / T.length = A at *
      have e2 : k - (w.stem.length - t) + (T.length - r) = (k - w.stem.length) + T.length * (A + 1) := by
        rw [Nat.mul_add]
        omega
      rw [e2, Nat.add_mul_mod_self_left]
/-- The last letter of the stem of a normal form is not the loop's. -/
theorem nf_cut {w : Wd} (hl : 0 < w.loop.length) (h0 : 0 < (nf w).stem.length) : (nf w).stem.getD ((nf w).stem.length - 1) 0 ≠ (nf w).loop.getD ((nf w).loop.length - 1) 0 := by
  have h := per_is hl
  have hT := per_take hl
  have hc := cut_is w.stem (w.loop.take (per w.loop))
  have e : nf w = ⟨w.stem.take (w.stem.length - cut w.stem (w.loop.take (per w.loop))), rot (w.loop.take (per w.loop)) (cut w.stem (w.loop.take (per w.loop)) % per w.loop)⟩ := rfl
  rw [e] at h0 ⊢
  generalize w.loop.take (per w.loop) = T at *
  generalize cut w.stem T = t at *
  obtain ⟨c1, c2, c3⟩ := hc
  rw [← hT] at h0 ⊢
  have hT0 : 0 < T.length := by rw [hT]; exact h.1
  dsimp only at h0 ⊢
  rw [List.length_take] at h0 ⊢
  rw [rot_length, rot_last (Nat.mod_lt _ hT0), getD_take (by omega)]
  rcases c3 with c3 | c3
  · omega
  · unfold Mt at c3
    rw [show min (w.stem.length - t) w.stem.length - 1 = w.stem.length - 1 - t by omega]
    exact c3
def Evp (f : Nat → Int) (N p : Nat) : Prop := ∀ k, N ≤ k → f (k + p) = f k
theorem Evp.mul {f : Nat → Int} {N p : Nat} (h : Evp f N p) (c : Nat) : Evp f N (p * c) := by
  intro k hk
  induction c with
  | zero => rfl
  | succ c ih => rw [Nat.mul_succ, ← Nat.add_assoc, h _ (by omega), ih]
theorem evp_gcd {f : Nat → Int} {N : Nat} (p q : Nat) : Evp f N p → Evp f N q → Evp f N (Nat.gcd p q) := by
  induction p, q using Nat.gcd.induction with
  | H0 n => intro _ h; rwa [Nat.gcd_zero_left]
  | H1 m n hm ih =>
    intro h1 h2
    rw [Nat.gcd_rec]
    refine ih ?_ h1
    intro k hk
    rw [← h1.mul (n / m) (k + n % m) (by omega), Nat.add_assoc, Nat.mod_add_div]
    exact h2 k hk
theorem evp_per {w : Wd} (hl : 0 < w.loop.length) : Evp w.lt w.stem.length (per w.loop) := by
  intro k hk
  rw [lt_loop hl (by omega), lt_loop hl hk, show k + per w.loop - w.stem.length = k - w.stem.length + per w.loop by omega, Nat.add_mod_right]
theorem per_least {w : Wd} (hl : 0 < w.loop.length) {N g : Nat} (hg : 0 < g) (h : Evp w.lt N g) (hd : g ∣ per w.loop) : per w.loop ≤ g := by
  refine Nat.le_of_not_lt fun hlt => ?_
  have hp := per_is hl
  have hdl : g ∣ w.loop.length := Nat.dvd_trans hd (Nat.dvd_of_mod_eq_zero hp.2.2.1.1)
  refine hp.2.2.2 g hg hlt ⟨Nat.mod_eq_zero_of_dvd hdl, fun i h1 h2 => ?_⟩
  have hN : N ≤ w.loop.length * N := Nat.le_mul_of_pos_left _ hl
  have val : ∀ j, j < w.loop.length → w.lt (w.stem.length + w.loop.length * N + j) = w.loop.getD j 0 := fun j hj => by
    unfold Wd.lt
    rw [if_neg (by omega), show w.stem.length + w.loop.length * N + j - w.stem.length = j + w.loop.length * N by omega, Nat.add_mul_mod_self_left, Nat.mod_eq_of_lt hj]
  rw [← val i h2, ← val (i - g) (by omega), ← h (w.stem.length + w.loop.length * N + (i - g)) (by omega)]
  congr 1
  omega
theorem per_same {u v : Wd} (hu : 0 < u.loop.length) (hv : 0 < v.loop.length) (h : ∀ k, u.lt k = v.lt k) : per u.loop = per v.loop := by
  have e : u.lt = v.lt := funext h
  have p1 := per_is hu
  have p2 := per_is hv
  have a : Evp u.lt (max u.stem.length v.stem.length) (per u.loop) := fun k hk => evp_per hu k (by omega)
  have b : Evp u.lt (max u.stem.length v.stem.length) (per v.loop) := fun k hk => by rw [e]; exact evp_per hv k (by omega)
  have g := evp_gcd _ _ a b
  have g0 : 0 < Nat.gcd (per u.loop) (per v.loop) := Nat.gcd_pos_of_pos_left _ p1.1
  have l1 := per_least hu g0 g (Nat.gcd_dvd_left _ _)
  have l2 := per_least hv g0 (by rw [← e]; exact g) (Nat.gcd_dvd_right _ _)
  have l3 := Nat.le_of_dvd p1.1 (Nat.gcd_dvd_left (per u.loop) (per v.loop))
  have l4 := Nat.le_of_dvd p2.1 (Nat.gcd_dvd_right (per u.loop) (per v.loop))
  omega
theorem nf_stem_le {u v : Wd} (hu : 0 < u.loop.length) (hv : 0 < v.loop.length) (h : ∀ k, u.lt k = v.lt k) : (nf v).stem.length ≤ (nf u).stem.length := by
  refine Nat.le_of_not_lt fun hlt => ?_
  have hp := per_same hu hv h
  have nu := nf_lens hu
  have nv := nf_lens hv
  refine nf_cut hv (by omega) ?_
  generalize hb : (nf v).stem.length = b at *
  have x1 : (nf v).lt (b - 1) = (nf v).stem.getD (b - 1) 0 := by unfold Wd.lt; rw [if_pos (by omega)]
  have x2 : (nf v).lt (b - 1 + per v.loop) = (nf v).loop.getD ((nf v).loop.length - 1) 0 := by
    have := (per_is hv).1
    unfold Wd.lt
    rw [if_neg (by omega), hb, show b - 1 + per v.loop - b = (nf v).loop.length - 1 by omega, Nat.mod_eq_of_lt (by omega)]
  rw [← x1, ← x2, nf_lt hv, nf_lt hv, ← h, ← h, ← nf_lt hu, ← nf_lt hu]
  unfold Wd.lt
  rw [if_neg (by omega), if_neg (by omega), show b - 1 + per v.loop - (nf u).stem.length = b - 1 - (nf u).stem.length + (nf u).loop.length by omega, Nat.add_mod_right]
/-- Words that tell the same letters have one normal form. -/
theorem nf_uniq {u v : Wd} (hu : 0 < u.loop.length) (hv : 0 < v.loop.length) (h : ∀ k, u.lt k = v.lt k) : nf u = nf v := by
  have hp := per_same hu hv h
  have nu := nf_lens hu
  have nv := nf_lens hv
  have s1 := nf_stem_le hu hv h
  have s2 := nf_stem_le hv hu fun k => (h k).symm
  have hs : (nf u).stem.length = (nf v).stem.length := by omega
  have hl : (nf u).loop.length = (nf v).loop.length := by omega
  have hk : ∀ k, (nf u).lt k = (nf v).lt k := fun k => by rw [nf_lt hu, nf_lt hv, h]
  have ex : ∀ {l m : List Int}, l.length = m.length → (∀ k, k < l.length → l.getD k 0 = m.getD k 0) → l = m := fun {l m} e1 e2 => List.ext_getElem e1 fun k h1 h2 => by
    have := e2 k h1
    rw [List.getD_eq_getElem?_getD, List.getD_eq_getElem?_getD, List.getElem?_eq_getElem h1, List.getElem?_eq_getElem h2] at this
    exact this
  have t1 : (nf u).stem = (nf v).stem := ex hs fun k h1 => by
    have := hk k
    unfold Wd.lt at this
    rwa [if_pos h1, if_pos (by omega)] at this
  have t2 : (nf u).loop = (nf v).loop := ex hl fun k h1 => by
    have := hk ((nf u).stem.length + k)
    unfold Wd.lt at this
    rw [if_neg (by omega), if_neg (by omega), hs, Nat.add_sub_cancel_left, Nat.mod_eq_of_lt h1, Nat.mod_eq_of_lt (by omega)] at this
    exact this
  exact wd_ext'.2 ⟨t1, t2⟩
theorem nf_iff {u v : Wd} (hu : 0 < u.loop.length) (hv : 0 < v.loop.length) : nf u = nf v ↔ ∀ k, u.lt k = v.lt k := by
  constructor
  · intro e k; rw [← nf_lt hu, ← nf_lt hv, e]
  · exact nf_uniq hu hv
/-- So many letters decide. -/
theorem lt_bound {u v : Wd} (hu : 0 < u.loop.length) (hv : 0 < v.loop.length) (h : ∀ k, k < max u.stem.length v.stem.length + u.loop.length * v.loop.length → u.lt k = v.lt k) (k : Nat) : u.lt k = v.lt k := by
  have hpos : 0 < u.loop.length * v.loop.length := Nat.mul_pos hu hv
  have red : ∀ (w : Wd) (M j : Nat), w.stem.length ≤ M → w.loop.length ∣ u.loop.length * v.loop.length → w.lt (M + j) = w.lt (M + j % (u.loop.length * v.loop.length)) := fun w M j hM hd => by
    unfold Wd.lt
    rw [if_neg (by omega), if_neg (by omega)]
    congr 1
    rw [show M + j - w.stem.length = M - w.stem.length + j by omega, show M + j % (u.loop.length * v.loop.length) - w.stem.length = M - w.stem.length + j % (u.loop.length * v.loop.length) by omega, Nat.add_mod (M - w.stem.length) j, Nat.add_mod (M - w.stem.length) (j % (u.loop.length * v.loop.length)), Nat.mod_mod_of_dvd _ hd]
  generalize hM : max u.stem.length v.stem.length = M at h
  rcases Nat.lt_or_ge k M with h1 | h1
  · exact h k (by omega)
  · obtain ⟨j, rfl⟩ : ∃ j, k = M + j := ⟨k - M, by omega⟩
    rw [red u M j (by omega) (Nat.dvd_mul_right _ _), red v M j (by omega) (Nat.dvd_mul_left _ _)]
    exact h _ (by have := Nat.mod_lt j hpos; omega)
end Go.Proofs.Ytaccmanpanpbiaa

/- Free and Widen and the words of an automaton. Plain. -/
-- VkG VkH VmA
set_option linter.unusedVariables false
set_option linter.unusedSimpArgs false
set_option maxRecDepth 100000
set_option maxHeartbeats 4000000
namespace Go.Proofs.Ytaccmanpanpbiaa
open Go Go.Vh Go.Vk Go.Vn Go.Proofs
def Wd.wo (w : Wd) : Wo := ⟨w.stem, w.loop⟩
theorem wo_lt {w : Wd} (h : 0 < w.loop.length) (k : Nat) : w.wo.let k = w.lt k := by
  unfold Wd.lt
  by_cases hk : k < w.stem.length
  · rw [if_pos hk]; exact Wo.let_stem (w := w.wo) hk
  · rw [if_neg hk]; exact Wo.let_loop (w := w.wo) (Nat.le_of_not_lt hk)
theorem wo_fits {w : Wd} {n : Int} (h : w.Ok n) : w.wo.Fits := by have := h.m; have := h.p; exact ⟨by show w.stem.length ≤ _; omega, by show w.loop.length ≤ _; omega, h.p⟩
/-- All letters lie within so many propositions. -/
theorem lt_in {w : Wd} {n : Int} (h : w.Ok n) (k : Nat) : inL n (w.lt k) := by
  unfold Wd.lt
  split
  · exact h.s _ (getD_mem ‹_›)
  · exact h.l _ (getD_mem (Nat.mod_lt _ h.p))
theorem inL_nat {n x : Int} (h : inL n x) (h6 : n ≤ 6) : ∃ l : Nat, x = (l : Int) ∧ l < 2 ^ n.toNat ∧ l < 64 := by
  obtain ⟨h0, h1⟩ := h
  have h64 : (2 ^ n.toNat : Nat) ≤ 64 := Nat.le_trans (Nat.pow_le_pow_right (by decide) (show n.toNat ≤ 6 by omega)) (by decide)
  exact ⟨x.toNat, (Int.toNat_of_nonneg h0).symm, by omega, by omega⟩
/-- What an edge reads, in natural numbers. -/
structure EdN (n : Nat) (e : Edg) (c b : Nat) : Prop where
  ec : e.care = (c : Int)
  eb : e.bits = (b : Int)
  hc : c < 2 ^ n
  hb : minusN b c = 0
theorem reads_nat {n : Nat} {e : Edg} {c b l : Nat} (h : EdN n e c b) (hn : n ≤ 6) (hl : l < 64) : readsB e (l : Int) = decide (l &&& c = b) := by
  have h64 : (2 ^ n : Nat) ≤ 64 := Nat.le_trans (Nat.pow_le_pow_right (by decide) hn) (by decide)
  have := h.hc
  unfold readsB
  rw [h.ec, h.eb, Vh.andI (by omega) (by omega)]
  congr 1
  apply propext
  exact ⟨fun h => Int.ofNat.inj h, fun h => by rw [h]⟩
theorem ok_edn {a : Au} (hf : a.Fits) (h : a.Ok) {e : Edg} (he : e ∈ a.es) : ∃ c b, EdN a.props.toNat e c b := by
  obtain ⟨j, hj, rfl⟩ := List.getElem_of_mem he
  have h1 := h.eg j hj
  have hb := edge_bits hf h.p6 hj h1
  rw [List.getD_eq_getElem?_getD, List.getElem?_eq_getElem hj] at h1 hb
  have h1 : a.EdgeOk a.es[j] := h1
  have hb : 0 ≤ a.es[j].bits := hb
  obtain ⟨_, _, _, _, h2, h3, h4, _, _⟩ := h1
  have h64 : (2 ^ a.props.toNat : Nat) ≤ 64 := Nat.le_trans (Nat.pow_le_pow_right (by decide) (show a.props.toNat ≤ 6 by have := h.p6; omega)) (by decide)
  refine ⟨a.es[j].care.toNat, a.es[j].bits.toNat, (Int.toNat_of_nonneg h2).symm, (Int.toNat_of_nonneg hb).symm, by omega, ?_⟩
  have h5 := hf.es _ (List.getElem_mem hj) a.es[j].bits (by simp [Edg.l])
  unfold fits64 at h5
  have h6 : a.es[j].bits.toNat < 2 ^ 63 := by omega
  rw [← Int.toNat_of_nonneg h2, ← Int.toNat_of_nonneg hb, Vk.minusI h6 (by omega)] at h4
  omega
theorem and_agree {l m c : Nat} (h : ∀ i, c.testBit i = true → l.testBit i = m.testBit i) : l &&& c = m &&& c := by
  apply Nat.eq_of_testBit_eq
  intro i
  rw [Nat.testBit_and, Nat.testBit_and]
  cases hc : c.testBit i with
  | false => rw [Bool.and_false, Bool.and_false]
  | true => rw [h i hc]
theorem bit_lt {c n i : Nat} (h : c < 2 ^ n) (hb : c.testBit i = true) : i < n := by
  rcases Nat.lt_or_ge i n with h1 | h1
  · exact h1
  · rw [Nat.testBit_lt_two_pow (Nat.lt_of_lt_of_le h (Nat.pow_le_pow_right (by decide) h1))] at hb; cases hb
/-! ### Widen -/
theorem reads_mod {n : Nat} {e : Edg} {c b l : Nat} (h : EdN n e c b) (hn : n ≤ 6) (hl : l < 64) : readsB e ((l : Int) % ((2 ^ n : Nat) : Int)) = readsB e (l : Int) := by
  have e1 : (l : Int) % ((2 ^ n : Nat) : Int) = ((l % 2 ^ n : Nat) : Int) := rfl
  have hlt : l % 2 ^ n ≤ l := Nat.mod_le ..
  rw [e1, reads_nat h hn (by omega), reads_nat h hn hl, and_agree (l := l % 2 ^ n) (m := l)]
  intro i hi
  rw [Nat.testBit_mod_two_pow, decide_eq_true (bit_lt h.hc hi), Bool.true_and]
theorem hasW_congr {a b : Au} {w v : Wo} (hes : b.es = a.es) (hst : b.start = a.start) (hk : b.kind = a.kind) (hm : b.marks = a.marks) (h : ∀ e ∈ a.es, ∀ p, readsB e (w.let p) = readsB e (v.let p)) : HasW a w ↔ HasW b v := by
  unfold HasW
  rw [hes, hst, hk, hm]
  constructor
  · exact Lasso.map id (fun e he => ⟨he, rfl, rfl, fun p hq => by rw [id, ← h e he p]; exact hq⟩) (fun _ => rfl)
  · exact Lasso.map id (fun e he => ⟨he, rfl, rfl, fun p hq => by rw [id, h e he p]; exact hq⟩) (fun _ => rfl)
/-! ### Free -/
theorem mem_ins {acc : List Edg} {e x : Edg} : x ∈ ins acc e ↔ x ∈ acc ∨ x = e := by
  unfold ins
  split
  · rename_i h
    exact ⟨.inl, fun h' => h'.elim id fun h' => by rw [h']; exact h⟩
  · rw [List.mem_append, List.mem_singleton]
theorem mem_freeL {i : Int} {l : List Edg} {x : Edg} : x ∈ freeL i l ↔ ∃ e ∈ l, x = freeE i e := by
  unfold freeL
  have key : ∀ (l acc : List Edg), x ∈ l.foldl (fun acc e => ins acc (freeE i e)) acc ↔ x ∈ acc ∨ ∃ e ∈ l, x = freeE i e := by
    intro l
    induction l with
    | nil => intro acc; simp
    | cons e l ih =>
      intro acc
      rw [List.foldl_cons, ih, mem_ins]
      simp only [List.mem_cons, exists_eq_or_imp]
      rw [or_assoc]
  rw [key]; simp
/-- The edge without the proposition. -/
theorem free_edn {n : Nat} {e : Edg} {c b i : Nat} (h : EdN n e c b) (hn : n ≤ 6) (hi : i < n) : EdN n (freeE (i : Int) e) (minusN c (2 ^ i)) (minusN b (2 ^ i)) := by
  have h64 : (2 ^ n : Nat) ≤ 64 := Nat.le_trans (Nat.pow_le_pow_right (by decide) hn) (by decide)
  have hp : 2 ^ i < 2 ^ n := Nat.pow_lt_pow_right (by decide) hi
  have hc := h.hc
  have hsub := minus_zero.1 h.hb
  have hbc : b < 2 ^ n := Nat.lt_pow_two_of_testBit b fun j hj => by
    cases hb : b.testBit j with
    | false => rfl
    | true => exact absurd (bit_lt hc (hsub j hb)) (by omega)
  refine ⟨?_, ?_, minusN_lt hc, minus_zero.2 fun j hj => ?_⟩
  · show clr (i : Int) e.care = _
    unfold clr
    rw [h.ec, Int.toNat_natCast, Vk.minusI (by omega) (by omega)]
  · show clr (i : Int) e.bits = _
    unfold clr
    rw [h.eb, Int.toNat_natCast, Vk.minusI (by omega) (by omega)]
  · rw [minusN_bit] at hj ⊢
    rw [Bool.and_eq_true] at hj ⊢
    exact ⟨hsub j hj.1, hj.2⟩
theorem free_reads {n : Nat} {e : Edg} {c b i l : Nat} (h : EdN n e c b) (hn : n ≤ 6) (hi : i < n) (hl : l < 64) (hr : readsB e (l : Int) = true) : readsB (freeE (i : Int) e) (l : Int) = true := by
  rw [reads_nat h hn hl] at hr
  have hr := of_decide_eq_true hr
  rw [reads_nat (free_edn h hn hi) hn hl]
  refine decide_eq_true ?_
  rw [← hr]
  apply Nat.eq_of_testBit_eq
  intro j
  rw [Nat.testBit_and, minusN_bit, minusN_bit, Nat.testBit_and]
  cases l.testBit j <;> cases c.testBit j <;> simp
theorem free_any {n : Nat} {e : Edg} {c b i l m : Nat} (h : EdN n e c b) (hn : n ≤ 6) (hi : i < n) (hl : l < 64) (hm : m < 64) (hlm : ∀ j, j ≠ i → l.testBit j = m.testBit j) : readsB (freeE (i : Int) e) (l : Int) = readsB (freeE (i : Int) e) (m : Int) := by
  have h2 := free_edn h hn hi
  rw [reads_nat h2 hn hl, reads_nat h2 hn hm, and_agree (l := l) (m := m)]
  intro j hj
  refine hlm j fun he => ?_
  rw [he, minusN_bit, Nat.testBit_two_pow_self] at hj
  simp at hj
/-- The automaton without the proposition has the words of the automaton. -/
theorem hasW_free {a : Au} {w : Wo} {i : Nat} (hf : a.Fits) (hk : a.Ok) (hi : (i : Int) < a.props) (hw : ∀ p, ∃ l : Nat, w.let p = (l : Int) ∧ l < 64) (h : HasW a w) : HasW (freeA0 a (i : Int)) w := by
  have hn : a.props.toNat ≤ 6 := by have := hk.p6; omega
  have hi2 : i < a.props.toNat := by omega
  unfold HasW at h ⊢
  refine Lasso.map (freeE (i : Int)) (fun e he => ⟨mem_freeL.2 ⟨e, he, rfl⟩, rfl, rfl, fun p hq => ?_⟩) (fun _ => rfl) h
  obtain ⟨l, e1, hl⟩ := hw p
  obtain ⟨c, b, hd⟩ := ok_edn hf hk he
  rw [e1] at hq ⊢
  exact free_reads hd hn hi2 hl hq
theorem hasW_any {a : Au} {w v : Wo} {i : Nat} (hf : a.Fits) (hk : a.Ok) (hi : (i : Int) < a.props) (hw : ∀ p, ∃ l m : Nat, w.let p = (l : Int) ∧ v.let p = (m : Int) ∧ l < 64 ∧ m < 64 ∧ ∀ j, j ≠ i → l.testBit j = m.testBit j) : HasW (freeA0 a (i : Int)) w ↔ HasW (freeA0 a (i : Int)) v := by
  have hn : a.props.toNat ≤ 6 := by have := hk.p6; omega
  have hi2 : i < a.props.toNat := by omega
  refine hasW_congr rfl rfl rfl rfl fun x hx p => ?_
  obtain ⟨e, he, rfl⟩ := mem_freeL.1 hx
  obtain ⟨l, m, e1, e2, hl, hm, hlm⟩ := hw p
  obtain ⟨c, b, hd⟩ := ok_edn hf hk he
  rw [e1, e2]
  exact free_any hd hn hi2 hl hm hlm
/-! ### A word with one proposition taken from another -/
/-- x but for bit i, which is that of y. -/
def mixI (i : Nat) (x y : Int) : Int := bitsA .or .i64 (bitsA .andNot .i64 x ((2 ^ i : Nat) : Int)) (bitsA .and .i64 y ((2 ^ i : Nat) : Int))
theorem mixI_nat {i x y : Nat} (hi : i < 6) (hx : x < 64) (hy : y < 64) : mixI i (x : Int) (y : Int) = ((minusN x (2 ^ i) ||| y &&& 2 ^ i : Nat) : Int) ∧ (minusN x (2 ^ i) ||| y &&& 2 ^ i) < 64 := by
  have hp : 2 ^ i < 2 ^ 6 := Nat.pow_lt_pow_right (by decide) hi
  have h1 : minusN x (2 ^ i) < 2 ^ 6 := minusN_lt (by omega)
  have h2 : y &&& 2 ^ i < 2 ^ 6 := Nat.lt_of_le_of_lt Nat.and_le_left (by omega)
  unfold mixI
  rw [Vk.minusI (by omega) (by omega), Vh.andI (by omega) (by omega), Vh.orI (by omega) (by omega)]
  exact ⟨rfl, Nat.or_lt_two_pow h1 h2⟩
theorem mixI_bit {i x y : Nat} (j : Nat) (hj : j ≠ i) : x.testBit j = (minusN x (2 ^ i) ||| y &&& 2 ^ i).testBit j := by
  rw [Nat.testBit_or, minusN_bit, Nat.testBit_and, Nat.testBit_two_pow_of_ne (Ne.symm hj)]; simp
/-- So many letters told one by one: a stem, and twice a loop. -/
def mixW0 (i : Nat) (u v : Wd) : Wd :=
  let st := max u.stem.length v.stem.length
  ⟨(List.range st).map fun k => mixI i (u.lt k) (v.lt k), (List.range (u.loop.length * v.loop.length)).map fun k => mixI i (u.lt (st + k)) (v.lt (st + k))⟩
theorem lt_far {w : Wd} {k m : Nat} (hk : w.stem.length ≤ k) (hm : w.loop.length ∣ m) : w.lt (k + m) = w.lt k := by
  obtain ⟨d, rfl⟩ := hm
  unfold Wd.lt
  rw [if_neg (by omega), if_neg (by omega), show k + w.loop.length * d - w.stem.length = k - w.stem.length + w.loop.length * d by omega, Nat.add_mul_mod_self_left]
theorem lt_mod {w : Wd} {st k m : Nat} (hk : w.stem.length ≤ st) (hm : w.loop.length ∣ m) : w.lt (st + k % m) = w.lt (st + k) := by
  have h := Nat.mod_add_div k m
  conv => rhs; rw [← h, ← Nat.add_assoc]
  exact (lt_far (by omega) (Nat.dvd_trans hm (Nat.dvd_mul_right m (k / m)))).symm
theorem mixW0_lt {i : Nat} {u v : Wd} (hu : 0 < u.loop.length) (hv : 0 < v.loop.length) (k : Nat) : (mixW0 i u v).lt k = mixI i (u.lt k) (v.lt k) := by
  have hl : 0 < u.loop.length * v.loop.length := Nat.mul_pos hu hv
  unfold mixW0 Wd.lt
  dsimp only
  rw [List.length_map, List.length_range, List.length_map, List.length_range]
  split
  · rename_i h
    rw [List.getD_eq_getElem?_getD, List.getElem?_map, List.getElem?_range h]; rfl
  · rename_i h
    have hm := Nat.mod_lt (k - max u.stem.length v.stem.length) hl
    rw [List.getD_eq_getElem?_getD, List.getElem?_map, List.getElem?_range hm]
    show mixI i (u.lt _) (v.lt _) = mixI i (u.lt k) (v.lt k)
    rw [lt_mod (Nat.le_max_left ..) (Nat.dvd_mul_right ..), lt_mod (Nat.le_max_right ..) (Nat.dvd_mul_left ..), show max u.stem.length v.stem.length + (k - max u.stem.length v.stem.length) = k by omega]
theorem map_lt0 {w : Wd} (h0 : 0 < w.loop.length) (g : Int → Int) (j : Nat) : (mapW g w).lt j = g (w.lt j) := by
  have hm := Nat.mod_lt (j - w.stem.length) h0
  unfold Wd.lt mapW
  dsimp only
  rw [List.length_map, List.length_map]
  split
  · rename_i h
    rw [List.getD_eq_getElem?_getD, List.getD_eq_getElem?_getD, List.getElem?_map, List.getElem?_eq_getElem h]; rfl
  · rw [List.getD_eq_getElem?_getD, List.getD_eq_getElem?_getD, List.getElem?_map, List.getElem?_eq_getElem hm]; rfl
end Go.Proofs.Ytaccmanpanpbiaa

/- What the laws that decide words share. -/
-- VkG VkH VmA
set_option linter.unusedVariables false
set_option linter.unusedSimpArgs false
set_option maxRecDepth 100000
set_option maxHeartbeats 4000000
namespace Go.Proofs.Ytaccmanpanpbiaa
open Go Go.Vh Go.Vk Go.Vn Go.Proofs
open Classical
theorem oneF {a : Au} (hf : a.Fits) : ∀ x ∈ [a], x.Fits := by rintro x hx; rcases List.mem_cons.1 hx with rfl | hx; exact hf; cases hx
theorem oneW {w : Wd} (hf : w.Fits) : ∀ x ∈ [w], x.Fits := by rintro x hx; rcases List.mem_cons.1 hx with rfl | hx; exact hf; cases hx
/-- Is, of an automaton whose edges are like a valid one's. -/
structure Au.Like (a b : Au) : Prop where
  st : b.states = a.states
  sr : b.start = a.start
  mks : b.marks = a.marks
  le : b.es.length ≤ a.es.length
  sm : ∀ e ∈ b.es, SmE a.states.toNat e
theorem Au.Like.refl {a : Au} (h : a.Ok) : a.Like a := ⟨rfl, rfl, rfl, Nat.le_refl _, h.sm⟩
theorem start_in {a : Au} (h : a.Ok) : ∀ s ∈ a.start, 0 ≤ s ∧ s < a.states := fun s hs => by
  obtain ⟨j, hj, rfl⟩ := List.getElem_of_mem hs
  have := h.st j hj
  unfold Au.StartOk at this
  rw [List.getD_eq_getElem?_getD, List.getElem?_eq_getElem hj] at this
  exact ⟨this.1, this.2.1⟩
theorem isL (a b : Au) (hk : a.Ok) (hl : a.Like b) (w : Wd) (hw : w.wo.Fits) (hn : w.stem.length + w.loop.length ≤ 1000) (H : AHeap) : CallW Try.prog 23 [b.rv, w.rv] H fun v H' => H' = H ∧ v = .bool (decide (HasW b w.wo)) := by
  have h1 := hk.s0
  have h2 := hk.s1
  have h3 := hk.ne
  have h4 := start_len hk
  have h5 := hk.mo.1
  have h6 := hk.mo.2.1
  have h7 := hl.le
  have hn : w.wo.n ≤ 1000 := hn
  refine isAW b w.wo hw (by rw [hl.mks]; exact h5) (by rw [hl.mks]; exact h6) (by rw [hl.st]; exact h1) (by rw [hl.st]; exact hl.sm) (by rw [hl.st, hl.sr]; exact start_in hk) (by rw [hl.sr]; omega) (by omega) ?_ ?_ (by omega) H
  · rw [hl.st]
    exact Nat.le_trans (Nat.mul_le_mul (show a.states.toNat ≤ 3000 by omega) hn) (by decide)
  · exact Nat.le_trans (Nat.mul_le_mul (show b.es.length ≤ 40000 by omega) hn) (by decide)
theorem ok_mono {w : Wd} {n m : Int} (h : w.Ok n) (hnm : n ≤ m) (hm : m ≤ 6) : w.Ok m := by
  have h0 := h.a
  have hp : (2 ^ n.toNat : Nat) ≤ 2 ^ m.toNat := Nat.pow_le_pow_right (by decide) (by omega)
  have key : ∀ x, inL n x → inL m x := fun x hx => ⟨hx.1, by have := hx.2; omega⟩
  exact ⟨by omega, hm, h.p, h.m, fun x hx => key x (h.s x hx), fun x hx => key x (h.l x hx)⟩
end Go.Proofs.Ytaccmanpanpbiaa
