/- Words: what tells the same letters has one normal form. -/
import Derived.Test.YthjemhlcojmiaaaDoorGa
import Derived.Test.YthjemhlcojmiaaaDoorGb
import Derived.Test.YthjemhlcojmiaaaDoorGe
set_option linter.unusedVariables false
set_option linter.unusedSimpArgs false
namespace Go.Proofs.YthjemhlcojmiaaaDoor
open Go Go.Vh Go.Vk Go.Proofs
theorem wd_ext' {a b : Wd} : a = b ↔ a.stem = b.stem ∧ a.loop = b.loop := wd_ext
theorem getD_take {l : List Int} {n i : Nat} (h : i < n) : (l.take n).getD i 0 = l.getD i 0 := by
  rw [List.getD_eq_getElem?_getD, List.getD_eq_getElem?_getD, List.getElem?_take, if_pos h]
theorem rot_getD {T : List Int} {r i : Nat} (hr : r < T.length) (hi : i < T.length) : (rot T r).getD i 0 = T.getD ((i + (T.length - r)) % T.length) 0 := by
  unfold rot
  rw [List.getD_eq_getElem?_getD, List.getD_eq_getElem?_getD]
  congr 1
  rcases Nat.lt_or_ge i r with h | h
  · rw [List.getElem?_append_left (by rw [List.length_drop]; omega), List.getElem?_drop, Nat.mod_eq_of_lt (by omega), Nat.add_comm]
  · rw [List.getElem?_append_right (by rw [List.length_drop]; omega), List.length_drop, List.getElem?_take, if_pos (by omega), Nat.mod_eq_sub_mod (by omega), Nat.mod_eq_of_lt (by omega)]
    congr 1
    omega
/-- The letters from the loop on. -/
theorem lt_loop {w : Wd} (hl : 0 < w.loop.length) {k : Nat} (hk : w.stem.length ≤ k) : w.lt k = (w.loop.take (per w.loop)).getD ((k - w.stem.length) % per w.loop) 0 := by
  have h := per_is hl
  have hd : per w.loop ∣ w.loop.length := Nat.dvd_of_mod_eq_zero h.2.2.1.1
  unfold Wd.lt
  rw [if_neg (by omega), getD_take (Nat.mod_lt _ h.1), h.2.2.1.mod h.1 _ (Nat.mod_lt _ hl), Nat.mod_mod_of_dvd _ hd]
/-- A word and its normal form tell the same letters. -/
theorem nf_lt {w : Wd} (hl : 0 < w.loop.length) (k : Nat) : (nf w).lt k = w.lt k := by
  have h := per_is hl
  have hT := per_take hl
  have hc := cut_is w.stem (w.loop.take (per w.loop))
  have e : nf w = ⟨w.stem.take (w.stem.length - cut w.stem (w.loop.take (per w.loop))), rot (w.loop.take (per w.loop)) (cut w.stem (w.loop.take (per w.loop)) % per w.loop)⟩ := rfl
  have hlk := fun hk => lt_loop (w := w) hl (k := k) hk
  rw [e]
  generalize w.loop.take (per w.loop) = T at *
  generalize cut w.stem T = t at *
  obtain ⟨c1, c2, c3⟩ := hc
  rw [← hT] at hlk ⊢
  have hT0 : 0 < T.length := by rw [hT]; exact h.1
  have hmt := Nat.mod_lt t hT0
  have hlen : (w.stem.take (w.stem.length - t)).length = w.stem.length - t := by rw [List.length_take]; omega
  show (if k < (w.stem.take (w.stem.length - t)).length then (w.stem.take (w.stem.length - t)).getD k 0 else (rot T (t % T.length)).getD ((k - (w.stem.take (w.stem.length - t)).length) % (rot T (t % T.length)).length) 0) = _
  rw [hlen, rot_length]
  rcases Nat.lt_or_ge k (w.stem.length - t) with h1 | h1
  · rw [if_pos h1, getD_take h1]
    unfold Wd.lt
    rw [if_pos (by omega)]
  · rw [if_neg (by omega), rot_getD hmt (Nat.mod_lt _ hT0)]
    rcases Nat.lt_or_ge k w.stem.length with h2 | h2
    · have hm := c2 (w.stem.length - 1 - k) (by omega)
      unfold Mt at hm
      unfold Wd.lt
      rw [if_pos h2, show w.stem.length - 1 - (w.stem.length - 1 - k) = k by omega] at *
      rw [hm]
      congr 1
      have h3 := Nat.mod_lt (w.stem.length - 1 - k) hT0
      generalize hu : w.stem.length - 1 - k = u at *
      have hx : k - (w.stem.length - t) = t - 1 - u := by omega
      rw [hx]
      have q1 := Nat.div_add_mod t T.length
      have q2 := Nat.div_add_mod u T.length
      have q3 := Nat.div_add_mod (t - 1 - u) T.length
      generalize t % T.length = r at *
      generalize hu2 : u % T.length = x at *
      have q4 := Nat.mod_lt (t - 1 - u) hT0
      generalize hy : (t - 1 - u) % T.length = y at *
      generalize t / T.length = A at *
      generalize u / T.length = B at *
      generalize (t - 1 - u) / T.length = C at *
      -- y ≡ r - 1 - x
      have key : (y + (T.length - r)) % T.length = (T.length - 1 - x) % T.length := by
        have e1 : y + T.length * C + u + 1 = t := by omega
        have e2 : y + (T.length - r) + T.length * (C + B + 1) = (T.length - 1 - x) + T.length * (A + 1) := by
          rw [Nat.mul_add, Nat.mul_add, Nat.mul_add]
          omega
        have e3 := congrArg (· % T.length) e2
        simp only [Nat.add_mul_mod_self_left] at e3
        exact e3
      rw [key, Nat.mod_eq_of_lt (by omega)]
    · rw [hlk h2]
      congr 1
      rw [Nat.mod_add_mod]
      have q1 := Nat.div_add_mod t T.length
      generalize t % T.length = r at *
      generalize t / T.length = A at *
      have e2 : k - (w.stem.length - t) + (T.length - r) = (k - w.stem.length) + T.length * (A + 1) := by
        rw [Nat.mul_add]
        omega
      rw [e2, Nat.add_mul_mod_self_left]
/-- The last letter of the stem of a normal form is not the loop's. -/
theorem nf_cut {w : Wd} (hl : 0 < w.loop.length) (h0 : 0 < (nf w).stem.length) : (nf w).stem.getD ((nf w).stem.length - 1) 0 ≠ (nf w).loop.getD ((nf w).loop.length - 1) 0 := by
  have h := per_is hl
  have hT := per_take hl
  have hc := cut_is w.stem (w.loop.take (per w.loop))
  have e : nf w = ⟨w.stem.take (w.stem.length - cut w.stem (w.loop.take (per w.loop))), rot (w.loop.take (per w.loop)) (cut w.stem (w.loop.take (per w.loop)) % per w.loop)⟩ := rfl
  rw [e] at h0 ⊢
  generalize w.loop.take (per w.loop) = T at *
  generalize cut w.stem T = t at *
  obtain ⟨c1, c2, c3⟩ := hc
  rw [← hT] at h0 ⊢
  have hT0 : 0 < T.length := by rw [hT]; exact h.1
  dsimp only at h0 ⊢
  rw [List.length_take] at h0 ⊢
  rw [rot_length, rot_last (Nat.mod_lt _ hT0), getD_take (by omega)]
  rcases c3 with c3 | c3
  · omega
  · unfold Mt at c3
    rw [show min (w.stem.length - t) w.stem.length - 1 = w.stem.length - 1 - t by omega]
    exact c3
def Evp (f : Nat → Int) (N p : Nat) : Prop := ∀ k, N ≤ k → f (k + p) = f k
theorem Evp.mul {f : Nat → Int} {N p : Nat} (h : Evp f N p) (c : Nat) : Evp f N (p * c) := by
  intro k hk
  induction c with
  | zero => rfl
  | succ c ih => rw [Nat.mul_succ, ← Nat.add_assoc, h _ (by omega), ih]
theorem evp_gcd {f : Nat → Int} {N : Nat} (p q : Nat) : Evp f N p → Evp f N q → Evp f N (Nat.gcd p q) := by
  induction p, q using Nat.gcd.induction with
  | H0 n => intro _ h; rwa [Nat.gcd_zero_left]
  | H1 m n hm ih =>
    intro h1 h2
    rw [Nat.gcd_rec]
    refine ih ?_ h1
    intro k hk
    rw [← h1.mul (n / m) (k + n % m) (by omega), Nat.add_assoc, Nat.mod_add_div]
    exact h2 k hk
theorem evp_per {w : Wd} (hl : 0 < w.loop.length) : Evp w.lt w.stem.length (per w.loop) := by
  intro k hk
  rw [lt_loop hl (by omega), lt_loop hl hk, show k + per w.loop - w.stem.length = k - w.stem.length + per w.loop by omega, Nat.add_mod_right]
theorem per_least {w : Wd} (hl : 0 < w.loop.length) {N g : Nat} (hg : 0 < g) (h : Evp w.lt N g) (hd : g ∣ per w.loop) : per w.loop ≤ g := by
  refine Nat.le_of_not_lt fun hlt => ?_
  have hp := per_is hl
  have hdl : g ∣ w.loop.length := Nat.dvd_trans hd (Nat.dvd_of_mod_eq_zero hp.2.2.1.1)
  refine hp.2.2.2 g hg hlt ⟨Nat.mod_eq_zero_of_dvd hdl, fun i h1 h2 => ?_⟩
  have hN : N ≤ w.loop.length * N := Nat.le_mul_of_pos_left _ hl
  have val : ∀ j, j < w.loop.length → w.lt (w.stem.length + w.loop.length * N + j) = w.loop.getD j 0 := fun j hj => by
    unfold Wd.lt
    rw [if_neg (by omega), show w.stem.length + w.loop.length * N + j - w.stem.length = j + w.loop.length * N by omega, Nat.add_mul_mod_self_left, Nat.mod_eq_of_lt hj]
  rw [← val i h2, ← val (i - g) (by omega), ← h (w.stem.length + w.loop.length * N + (i - g)) (by omega)]
  congr 1
  omega
theorem per_same {u v : Wd} (hu : 0 < u.loop.length) (hv : 0 < v.loop.length) (h : ∀ k, u.lt k = v.lt k) : per u.loop = per v.loop := by
  have e : u.lt = v.lt := funext h
  have p1 := per_is hu
  have p2 := per_is hv
  have a : Evp u.lt (max u.stem.length v.stem.length) (per u.loop) := fun k hk => evp_per hu k (by omega)
  have b : Evp u.lt (max u.stem.length v.stem.length) (per v.loop) := fun k hk => by rw [e]; exact evp_per hv k (by omega)
  have g := evp_gcd _ _ a b
  have g0 : 0 < Nat.gcd (per u.loop) (per v.loop) := Nat.gcd_pos_of_pos_left _ p1.1
  have l1 := per_least hu g0 g (Nat.gcd_dvd_left _ _)
  have l2 := per_least hv g0 (by rw [← e]; exact g) (Nat.gcd_dvd_right _ _)
  have l3 := Nat.le_of_dvd p1.1 (Nat.gcd_dvd_left (per u.loop) (per v.loop))
  have l4 := Nat.le_of_dvd p2.1 (Nat.gcd_dvd_right (per u.loop) (per v.loop))
  omega
theorem nf_stem_le {u v : Wd} (hu : 0 < u.loop.length) (hv : 0 < v.loop.length) (h : ∀ k, u.lt k = v.lt k) : (nf v).stem.length ≤ (nf u).stem.length := by
  refine Nat.le_of_not_lt fun hlt => ?_
  have hp := per_same hu hv h
  have nu := nf_lens hu
  have nv := nf_lens hv
  refine nf_cut hv (by omega) ?_
  generalize hb : (nf v).stem.length = b at *
  have x1 : (nf v).lt (b - 1) = (nf v).stem.getD (b - 1) 0 := by unfold Wd.lt; rw [if_pos (by omega)]
  have x2 : (nf v).lt (b - 1 + per v.loop) = (nf v).loop.getD ((nf v).loop.length - 1) 0 := by
    have := (per_is hv).1
    unfold Wd.lt
    rw [if_neg (by omega), hb, show b - 1 + per v.loop - b = (nf v).loop.length - 1 by omega, Nat.mod_eq_of_lt (by omega)]
  rw [← x1, ← x2, nf_lt hv, nf_lt hv, ← h, ← h, ← nf_lt hu, ← nf_lt hu]
  unfold Wd.lt
  rw [if_neg (by omega), if_neg (by omega), show b - 1 + per v.loop - (nf u).stem.length = b - 1 - (nf u).stem.length + (nf u).loop.length by omega, Nat.add_mod_right]
/-- Words that tell the same letters have one normal form. -/
theorem nf_uniq {u v : Wd} (hu : 0 < u.loop.length) (hv : 0 < v.loop.length) (h : ∀ k, u.lt k = v.lt k) : nf u = nf v := by
  have hp := per_same hu hv h
  have nu := nf_lens hu
  have nv := nf_lens hv
  have s1 := nf_stem_le hu hv h
  have s2 := nf_stem_le hv hu fun k => (h k).symm
  have hs : (nf u).stem.length = (nf v).stem.length := by omega
  have hl : (nf u).loop.length = (nf v).loop.length := by omega
  have hk : ∀ k, (nf u).lt k = (nf v).lt k := fun k => by rw [nf_lt hu, nf_lt hv, h]
  have ex : ∀ {l m : List Int}, l.length = m.length → (∀ k, k < l.length → l.getD k 0 = m.getD k 0) → l = m := fun {l m} e1 e2 => List.ext_getElem e1 fun k h1 h2 => by
    have := e2 k h1
    rw [List.getD_eq_getElem?_getD, List.getD_eq_getElem?_getD, List.getElem?_eq_getElem h1, List.getElem?_eq_getElem h2] at this
    exact this
  have t1 : (nf u).stem = (nf v).stem := ex hs fun k h1 => by
    have := hk k
    unfold Wd.lt at this
    rwa [if_pos h1, if_pos (by omega)] at this
  have t2 : (nf u).loop = (nf v).loop := ex hl fun k h1 => by
    have := hk ((nf u).stem.length + k)
    unfold Wd.lt at this
    rw [if_neg (by omega), if_neg (by omega), hs, Nat.add_sub_cancel_left, Nat.mod_eq_of_lt h1, Nat.mod_eq_of_lt (by omega)] at this
    exact this
  exact wd_ext'.2 ⟨t1, t2⟩
theorem nf_iff {u v : Wd} (hu : 0 < u.loop.length) (hv : 0 < v.loop.length) : nf u = nf v ↔ ∀ k, u.lt k = v.lt k := by
  constructor
  · intro e k; rw [← nf_lt hu, ← nf_lt hv, e]
  · exact nf_uniq hu hv
/-- So many letters decide. -/
theorem lt_bound {u v : Wd} (hu : 0 < u.loop.length) (hv : 0 < v.loop.length) (h : ∀ k, k < max u.stem.length v.stem.length + u.loop.length * v.loop.length → u.lt k = v.lt k) (k : Nat) : u.lt k = v.lt k := by
  have hpos : 0 < u.loop.length * v.loop.length := Nat.mul_pos hu hv
  have red : ∀ (w : Wd) (M j : Nat), w.stem.length ≤ M → w.loop.length ∣ u.loop.length * v.loop.length → w.lt (M + j) = w.lt (M + j % (u.loop.length * v.loop.length)) := fun w M j hM hd => by
    unfold Wd.lt
    rw [if_neg (by omega), if_neg (by omega)]
    congr 1
    rw [show M + j - w.stem.length = M - w.stem.length + j by omega, show M + j % (u.loop.length * v.loop.length) - w.stem.length = M - w.stem.length + j % (u.loop.length * v.loop.length) by omega, Nat.add_mod (M - w.stem.length) j, Nat.add_mod (M - w.stem.length) (j % (u.loop.length * v.loop.length)), Nat.mod_mod_of_dvd _ hd]
  generalize hM : max u.stem.length v.stem.length = M at h
  rcases Nat.lt_or_ge k M with h1 | h1
  · exact h k (by omega)
  · obtain ⟨j, rfl⟩ : ∃ j, k = M + j := ⟨k - M, by omega⟩
    rw [red u M j (by omega) (Nat.dvd_mul_right _ _), red v M j (by omega) (Nat.dvd_mul_left _ _)]
    exact h _ (by have := Nat.mod_lt j hpos; omega)
end Go.Proofs.YthjemhlcojmiaaaDoor

/- Same: words that tell the same letters. -/
-- VkG VkH
set_option linter.unusedVariables false
set_option linter.unusedSimpArgs false
set_option maxRecDepth 100000
set_option maxHeartbeats 4000000
namespace Go.Proofs.YthjemhlcojmiaaaDoor
open Go Go.Vh Go.Vk Go.Proofs
theorem equal37p (l m : List Int) (n k : Nat) (hn : n ≤ l.length) (hk : k ≤ m.length) (hl : l.length ≤ 4294967296) (hm : m.length ≤ 4294967296) : CallW Tryd.prog 37 [.view 0 0 n, .view 1 0 k] (wh l m) fun v _ => IsB v (l.take n = m.take k) := by
  refine CallW.symK (cuts := []) Tryd.func37 rfl (by kernel_rfl) ?_
  conv => whnf
  repeat' first | (refine Gets.of _ rfl ?_; conv => whnf) | (refine Fork.neI (fun _ => ?_) (fun _ => ?_) <;> first | (exfalso; omega) | (conv => whnf))
  · exact .f fun h => by have := congrArg List.length h; rw [List.length_take, List.length_take] at this; omega
  have hlen : n = k := by omega
  subst hlen
  refine CodeS.loopSK (cuts := []) (σ := Nat) (fun j => [(0, .view 0 0 n), (1, .view 1 0 n), (12, .int .i64 n), (13, .int .i64 j)]) (fun _ => wh l m) (fun j => j ≤ n ∧ ∀ k, k < j → l.getD k 0 = m.getD k 0) (fun j => n - j) 0 (by kernel_rfl) ⟨Nat.zero_le _, fun k hk => by omega⟩ ⟨rfl, rfl, rfl, rfl, trivial⟩ rfl ?_
  rintro j ⟨g1, g2⟩
  rcases Nat.lt_or_ge j n with hj | hj
  · conv => whnf
    repeat' (refine Fork.dec (fun _ => ?_) (fun _ => ?_) <;> first | (exfalso; omega) | (conv => whnf))
    refine CodeS.drawT [0, 1] (.take 0 (.take 1 (.take 2 (.take 3 (.take 4 (.take 5 (.take 6 (.take 7 (.take 8 .done))))))))) mixed (by kernel_rfl) (.cons ⟨rfl, live_of_ints rfl (by omega)⟩ (.cons ⟨rfl, live_of_ints rfl (by omega)⟩ .nil)) ?_
    conv => whnf
    repeat' first | ((with_reducible refine Gets.addI ?_ ?_ ?_); (· omega); (· omega); conv => whnf) | (refine Gets.ix1v rfl rfl (by omega) ?_; conv => whnf) | (refine Gets.ldI rfl (by first | rfl | assumption) (by first | omega | exact Nat.le_of_ble_eq_true rfl) ?_; conv => whnf) | (refine Fork.neI (fun _ => ?_) (fun _ => ?_) <;> first | (exfalso; omega) | (conv => whnf))
    · rename_i hne
      refine .f fun h => hne ?_
      have := congrArg (fun x => x.getD j 0) h
      simp only [List.getD_eq_getElem?_getD, List.getElem?_take, hj, if_true] at this
      rw [List.getD_eq_getElem?_getD, List.getD_eq_getElem?_getD]
      exact this
    · exact ⟨j + 1, ⟨by omega, lt_succ_all g2 (by assumption)⟩, by omega, ⟨rfl, rfl, rfl, rfl, trivial⟩, rfl⟩
  · conv => whnf
    repeat' (refine Fork.dec (fun _ => ?_) (fun _ => ?_) <;> first | (exfalso; omega) | (conv => whnf))
    refine .t (List.ext_getElem (by rw [List.length_take, List.length_take]; omega) fun k h1 h2 => ?_)
    rw [List.length_take] at h1 h2
    have := g2 k (by omega)
    rw [List.getD_eq_getElem?_getD, List.getD_eq_getElem?_getD, List.getElem?_eq_getElem (by omega), List.getElem?_eq_getElem (by omega)] at this
    rw [List.getElem_take, List.getElem_take]
    exact this
theorem equal37q (l m : List Int) (n k : Nat) (hn : n ≤ l.length) (hk : k ≤ m.length) (hl : l.length ≤ 4294967296) (hm : m.length ≤ 4294967296) {H : AHeap} {i j : Nat} (hi : At H 1 (ints l) i) (hj : At H 1 (ints m) j) : CallW Tryd.prog 37 [.view i 0 n, .view j 0 k] H fun v H' => H' = H ∧ IsB v (l.take n = m.take k) :=
  (equal37p l m n k hn hk hl hm).readsAt IsB.noRef [i, j] rfl (.cons ⟨_, _, rfl, hi⟩ (.cons ⟨_, _, rfl, hj⟩ .nil))
def regOf (n : Nat) : Code → Option Code
  | .region k ops m => if Nat.beq k n = true then some (.region k ops m) else none
  | .seq a b => match regOf n a with
    | some r => some r
    | none => regOf n b
  | .block _ c => regOf n c
  | _ => none
def cutK (n0 : Nat) (el : List (Nat × AVal)) (G : AHeap) (K : Exit → Env → AHeap → Prop) : Exit → Env → AHeap → Prop := fun x e H => match x with
  | .normal => ∃ κ, keepsR κ el e ∧ EmbL n0 κ G H
  | x => K x e H
theorem CodeS.cutR {P : Program} {N n0 : Nat} {ρ : Option Nat} (cuts : List Nat) (el : List (Nat × AVal)) (G : AHeap) {a b : Code} {e : Env} {H : AHeap} {K : Exit → Env → AHeap → Prop} (hok : okCode N b = true)
    (h1 : CodeS P N ρ n0 a e H (cutK n0 el G K)) (h2 : sc P N ρ n0 cuts b (envOf el) G K) : CodeS P N ρ n0 (.seq a b) e H K := by
  refine ⟨CWF.seq (h1.code.mono ?_)⟩
  intro x e' H' hx
  cases x with
  | normal =>
    obtain ⟨κ, hk, hE⟩ := hx
    exact CWF.gcL hE (keepsR_spec _ hk) (sc_sound b _ _ _ hok h2)
  | _ => exact hx
def SameR (u v : Wd) (b : Bool) (e : Int) : Prop := (¬ (u.Ok 6 ∧ v.Ok 6) ∧ b = false ∧ e = 1) ∨ ((u.Ok 6 ∧ v.Ok 6) ∧ e = 0 ∧ (b = true ↔ nf u = nf v))
def s4 (u v : Wd) : AHeap := ⟨6, fun i => match i with
  | 4 => .cells 1 [.view 0 0 u.stem.length, .view 1 0 u.loop.length] | 5 => .cells 1 [.view 2 0 v.stem.length, .view 3 0 v.loop.length]
  | i => (h4 u v).f i, fun _ => 0⟩
noncomputable def s5 (u v : Wd) : AHeap := ⟨12, fun i => match i with
  | 6 => vB u.stem | 7 => vB (nfP u.stem u.loop).loop | 8 => vB v.stem | 9 => vB (nfP v.stem v.loop).loop | 10 => .cells 1 [.view 6 0 (nfP u.stem u.loop).n, .view 7 0 (nfP u.stem u.loop).loop.length] | 11 => .cells 1 [.view 8 0 (nfP v.stem v.loop).n, .view 9 0 (nfP v.stem v.loop).loop.length]
  | i => (s4 u v).f i, fun _ => 0⟩
noncomputable def rgS : Code := (Tryd.f11.body.bind (regOf 3)).getD .skip
def elS3 : List (Nat × AVal) := [(2, .ptr 4 0), (3, .ptr 5 0), (4, .bool false), (5, .int .i64 0)]
def elS4 : List (Nat × AVal) := [(2, .ptr 4 0), (3, .ptr 5 0), (4, .bool false), (5, .int .i64 0), (6, .ptr 10 0), (7, .ptr 11 0)]
theorem regS (u v : Wd) (hu : u.Ok 6) (hv : v.Ok 6) (K : Exit → Env → AHeap → Prop) : CodeS Tryd.prog 32 none 4 rgS (envOf elS3) (s4 u v) (cutK 4 elS4 (s5 u v) K) := by
    have u1 := hu.s32
    have u2 := hu.l32
    have u3 := hu.p
    have v1 := hv.s32
    have v2 := hv.l32
    have v3 := hv.p
    refine CodeS.drawT [4, 5] (.take 0 (.two (.one 1 true (.two (.one 2 true (.two (.one 3 true (.two (.one 4 true (.one 5 true (.one 6 false (.one 7 false .done)))) (.one 5 true (.one 4 true (.one 6 false (.one 7 false .done)))))) (.two (.one 4 true (.two (.one 3 true (.one 5 true (.one 6 false (.one 7 false .done)))) (.one 5 true (.one 3 true (.one 6 false (.one 7 false .done)))))) (.one 5 true (.two (.one 3 true (.one 4 true (.one 6 false (.one 7 false .done)))) (.one 4 true (.one 3 true (.one 6 false (.one 7 false .done))))))))) (.two (.one 4 true (.two (.one 2 true (.two (.one 3 true (.one 5 true (.one 6 false (.one 7 false .done)))) (.one 5 true (.one 3 true (.one 6 false (.one 7 false .done)))))) (.one 5 true (.one 2 true (.one 3 true (.one 6 false (.one 7 false .done))))))) (.one 5 true (.two (.one 2 true (.two (.one 3 true (.one 4 true (.one 6 false (.one 7 false .done)))) (.one 4 true (.one 3 true (.one 6 false (.one 7 false .done)))))) (.one 4 true (.one 2 true (.one 3 true (.one 6 false (.one 7 false .done)))))))))) (.two (.one 2 true (.two (.one 1 true (.two (.one 3 true (.two (.one 4 true (.one 5 true (.one 6 false (.one 7 false .done)))) (.one 5 true (.one 4 true (.one 6 false (.one 7 false .done)))))) (.two (.one 4 true (.two (.one 3 true (.one 5 true (.one 6 false (.one 7 false .done)))) (.one 5 true (.one 3 true (.one 6 false (.one 7 false .done)))))) (.one 5 true (.two (.one 3 true (.one 4 true (.one 6 false (.one 7 false .done)))) (.one 4 true (.one 3 true (.one 6 false (.one 7 false .done))))))))) (.two (.one 4 true (.two (.one 1 true (.two (.one 3 true (.one 5 true (.one 6 false (.one 7 false .done)))) (.one 5 true (.one 3 true (.one 6 false (.one 7 false .done)))))) (.one 5 true (.one 1 true (.one 3 true (.one 6 false (.one 7 false .done))))))) (.one 5 true (.two (.one 1 true (.two (.one 3 true (.one 4 true (.one 6 false (.one 7 false .done)))) (.one 4 true (.one 3 true (.one 6 false (.one 7 false .done)))))) (.one 4 true (.one 1 true (.one 3 true (.one 6 false (.one 7 false .done)))))))))) (.two (.one 4 true (.two (.one 1 true (.two (.one 2 true (.two (.one 3 true (.one 5 true (.one 6 false (.one 7 false .done)))) (.one 5 true (.one 3 true (.one 6 false (.one 7 false .done)))))) (.one 5 true (.one 2 true (.one 3 true (.one 6 false (.one 7 false .done))))))) (.two (.one 2 true (.two (.one 1 true (.two (.one 3 true (.one 5 true (.one 6 false (.one 7 false .done)))) (.one 5 true (.one 3 true (.one 6 false (.one 7 false .done)))))) (.one 5 true (.one 1 true (.one 3 true (.one 6 false (.one 7 false .done))))))) (.one 5 true (.two (.one 1 true (.one 2 true (.one 3 true (.one 6 false (.one 7 false .done))))) (.one 2 true (.one 1 true (.one 3 true (.one 6 false (.one 7 false .done)))))))))) (.one 5 true (.two (.one 1 true (.two (.one 2 true (.two (.one 3 true (.one 4 true (.one 6 false (.one 7 false .done)))) (.one 4 true (.one 3 true (.one 6 false (.one 7 false .done)))))) (.one 4 true (.one 2 true (.one 3 true (.one 6 false (.one 7 false .done))))))) (.two (.one 2 true (.two (.one 1 true (.two (.one 3 true (.one 4 true (.one 6 false (.one 7 false .done)))) (.one 4 true (.one 3 true (.one 6 false (.one 7 false .done)))))) (.one 4 true (.one 1 true (.one 3 true (.one 6 false (.one 7 false .done))))))) (.one 4 true (.two (.one 1 true (.one 2 true (.one 3 true (.one 6 false (.one 7 false .done))))) (.one 2 true (.one 1 true (.one 3 true (.one 6 false (.one 7 false .done)))))))))))))) mixed (by kernel_rfl) (.cons ⟨rfl, trivial⟩ (.cons ⟨rfl, trivial⟩ .nil)) ?_
    conv => whnf
    repeat' first | ((refine CallPS.of (by kernel_rfl) (mkAt (normal36 u.stem u.loop 0 (Nat.zero_le _) u1 u3 u2) (i := 0) (j := 1) (.roB rfl rfl) (.roB rfl rfl)) rfl ?_; rintro _ _ ⟨rfl, rfl⟩); conv => whnf) | ((refine CallPS.of (by kernel_rfl) (mkAt (normal36 v.stem v.loop 0 (Nat.zero_le _) v1 v3 v2) (i := 2) (j := 3) (.roB rfl rfl) (.roB rfl rfl)) rfl ?_; rintro _ _ ⟨rfl, rfl⟩); conv => whnf) | (refine Gets.of _ rfl ?_; conv => whnf) | (refine Chk.mk (by repeat first | exact .nil | refine .cons rfl ?_) ?_; conv => whnf) | (refine Alls.mk ?_ ?_ <;> conv => whnf)
    · exact ⟨renL [0, 1, 2, 3, 4, 5, 6, 7, 8, 9, 10, 11] 12, ⟨rfl, rfl, rfl, rfl, rfl, rfl, trivial⟩, EmbL.litsN [0, 1, 2, 3, 4, 5, 6, 7, 8, 9, 10, 11] rfl rfl rfl rfl (.cons ⟨rfl, .inl ⟨rfl, fun h => h⟩⟩ (.cons ⟨rfl, .inl ⟨rfl, fun h => h⟩⟩ (.cons ⟨rfl, .inl ⟨rfl, fun h => h⟩⟩ (.cons ⟨rfl, .inl ⟨rfl, fun h => h⟩⟩ .nil)))) (.cons ⟨rfl, .roI⟩ (.cons ⟨rfl, .roI⟩ (.cons ⟨rfl, .roI⟩ (.cons ⟨rfl, .roI⟩ (.cons ⟨rfl, .inl rfl⟩ (.cons ⟨rfl, .inl rfl⟩ (.cons ⟨rfl, .vS rfl⟩ (.cons ⟨rfl, .vS rfl⟩ (.cons ⟨rfl, .vS rfl⟩ (.cons ⟨rfl, .vS rfl⟩ (.cons ⟨rfl, .inl rfl⟩ (.cons ⟨rfl, .inl rfl⟩ .nil))))))))))))⟩
    · exact ⟨renL [0, 1, 2, 3, 4, 5, 6, 7, 8, 9, 11, 10] 12, ⟨rfl, rfl, rfl, rfl, rfl, rfl, trivial⟩, EmbL.litsN [0, 1, 2, 3, 4, 5, 6, 7, 8, 9, 11, 10] rfl rfl rfl rfl (.cons ⟨rfl, .inl ⟨rfl, fun h => h⟩⟩ (.cons ⟨rfl, .inl ⟨rfl, fun h => h⟩⟩ (.cons ⟨rfl, .inl ⟨rfl, fun h => h⟩⟩ (.cons ⟨rfl, .inl ⟨rfl, fun h => h⟩⟩ .nil)))) (.cons ⟨rfl, .roI⟩ (.cons ⟨rfl, .roI⟩ (.cons ⟨rfl, .roI⟩ (.cons ⟨rfl, .roI⟩ (.cons ⟨rfl, .inl rfl⟩ (.cons ⟨rfl, .inl rfl⟩ (.cons ⟨rfl, .vS rfl⟩ (.cons ⟨rfl, .vS rfl⟩ (.cons ⟨rfl, .vS rfl⟩ (.cons ⟨rfl, .vS rfl⟩ (.cons ⟨rfl, .inl rfl⟩ (.cons ⟨rfl, .inl rfl⟩ .nil))))))))))))⟩
    · exact ⟨renL [0, 1, 2, 3, 4, 5, 6, 7, 9, 10, 8, 11] 12, ⟨rfl, rfl, rfl, rfl, rfl, rfl, trivial⟩, EmbL.litsN [0, 1, 2, 3, 4, 5, 6, 7, 9, 10, 8, 11] rfl rfl rfl rfl (.cons ⟨rfl, .inl ⟨rfl, fun h => h⟩⟩ (.cons ⟨rfl, .inl ⟨rfl, fun h => h⟩⟩ (.cons ⟨rfl, .inl ⟨rfl, fun h => h⟩⟩ (.cons ⟨rfl, .inl ⟨rfl, fun h => h⟩⟩ .nil)))) (.cons ⟨rfl, .roI⟩ (.cons ⟨rfl, .roI⟩ (.cons ⟨rfl, .roI⟩ (.cons ⟨rfl, .roI⟩ (.cons ⟨rfl, .inl rfl⟩ (.cons ⟨rfl, .inl rfl⟩ (.cons ⟨rfl, .vS rfl⟩ (.cons ⟨rfl, .vS rfl⟩ (.cons ⟨rfl, .vS rfl⟩ (.cons ⟨rfl, .vS rfl⟩ (.cons ⟨rfl, .inl rfl⟩ (.cons ⟨rfl, .inl rfl⟩ .nil))))))))))))⟩
    · exact ⟨renL [0, 1, 2, 3, 4, 5, 6, 7, 10, 11, 8, 9] 12, ⟨rfl, rfl, rfl, rfl, rfl, rfl, trivial⟩, EmbL.litsN [0, 1, 2, 3, 4, 5, 6, 7, 10, 11, 8, 9] rfl rfl rfl rfl (.cons ⟨rfl, .inl ⟨rfl, fun h => h⟩⟩ (.cons ⟨rfl, .inl ⟨rfl, fun h => h⟩⟩ (.cons ⟨rfl, .inl ⟨rfl, fun h => h⟩⟩ (.cons ⟨rfl, .inl ⟨rfl, fun h => h⟩⟩ .nil)))) (.cons ⟨rfl, .roI⟩ (.cons ⟨rfl, .roI⟩ (.cons ⟨rfl, .roI⟩ (.cons ⟨rfl, .roI⟩ (.cons ⟨rfl, .inl rfl⟩ (.cons ⟨rfl, .inl rfl⟩ (.cons ⟨rfl, .vS rfl⟩ (.cons ⟨rfl, .vS rfl⟩ (.cons ⟨rfl, .vS rfl⟩ (.cons ⟨rfl, .vS rfl⟩ (.cons ⟨rfl, .inl rfl⟩ (.cons ⟨rfl, .inl rfl⟩ .nil))))))))))))⟩
    · exact ⟨renL [0, 1, 2, 3, 4, 5, 6, 7, 9, 10, 11, 8] 12, ⟨rfl, rfl, rfl, rfl, rfl, rfl, trivial⟩, EmbL.litsN [0, 1, 2, 3, 4, 5, 6, 7, 9, 10, 11, 8] rfl rfl rfl rfl (.cons ⟨rfl, .inl ⟨rfl, fun h => h⟩⟩ (.cons ⟨rfl, .inl ⟨rfl, fun h => h⟩⟩ (.cons ⟨rfl, .inl ⟨rfl, fun h => h⟩⟩ (.cons ⟨rfl, .inl ⟨rfl, fun h => h⟩⟩ .nil)))) (.cons ⟨rfl, .roI⟩ (.cons ⟨rfl, .roI⟩ (.cons ⟨rfl, .roI⟩ (.cons ⟨rfl, .roI⟩ (.cons ⟨rfl, .inl rfl⟩ (.cons ⟨rfl, .inl rfl⟩ (.cons ⟨rfl, .vS rfl⟩ (.cons ⟨rfl, .vS rfl⟩ (.cons ⟨rfl, .vS rfl⟩ (.cons ⟨rfl, .vS rfl⟩ (.cons ⟨rfl, .inl rfl⟩ (.cons ⟨rfl, .inl rfl⟩ .nil))))))))))))⟩
    · exact ⟨renL [0, 1, 2, 3, 4, 5, 6, 7, 10, 11, 9, 8] 12, ⟨rfl, rfl, rfl, rfl, rfl, rfl, trivial⟩, EmbL.litsN [0, 1, 2, 3, 4, 5, 6, 7, 10, 11, 9, 8] rfl rfl rfl rfl (.cons ⟨rfl, .inl ⟨rfl, fun h => h⟩⟩ (.cons ⟨rfl, .inl ⟨rfl, fun h => h⟩⟩ (.cons ⟨rfl, .inl ⟨rfl, fun h => h⟩⟩ (.cons ⟨rfl, .inl ⟨rfl, fun h => h⟩⟩ .nil)))) (.cons ⟨rfl, .roI⟩ (.cons ⟨rfl, .roI⟩ (.cons ⟨rfl, .roI⟩ (.cons ⟨rfl, .roI⟩ (.cons ⟨rfl, .inl rfl⟩ (.cons ⟨rfl, .inl rfl⟩ (.cons ⟨rfl, .vS rfl⟩ (.cons ⟨rfl, .vS rfl⟩ (.cons ⟨rfl, .vS rfl⟩ (.cons ⟨rfl, .vS rfl⟩ (.cons ⟨rfl, .inl rfl⟩ (.cons ⟨rfl, .inl rfl⟩ .nil))))))))))))⟩
    · exact ⟨renL [0, 1, 2, 3, 4, 5, 6, 7, 9, 10, 8, 11] 12, ⟨rfl, rfl, rfl, rfl, rfl, rfl, trivial⟩, EmbL.litsN [0, 1, 2, 3, 4, 5, 6, 7, 9, 10, 8, 11] rfl rfl rfl rfl (.cons ⟨rfl, .inl ⟨rfl, fun h => h⟩⟩ (.cons ⟨rfl, .inl ⟨rfl, fun h => h⟩⟩ (.cons ⟨rfl, .inl ⟨rfl, fun h => h⟩⟩ (.cons ⟨rfl, .inl ⟨rfl, fun h => h⟩⟩ .nil)))) (.cons ⟨rfl, .roI⟩ (.cons ⟨rfl, .roI⟩ (.cons ⟨rfl, .roI⟩ (.cons ⟨rfl, .roI⟩ (.cons ⟨rfl, .inl rfl⟩ (.cons ⟨rfl, .inl rfl⟩ (.cons ⟨rfl, .vS rfl⟩ (.cons ⟨rfl, .vS rfl⟩ (.cons ⟨rfl, .vS rfl⟩ (.cons ⟨rfl, .vS rfl⟩ (.cons ⟨rfl, .inl rfl⟩ (.cons ⟨rfl, .inl rfl⟩ .nil))))))))))))⟩
    · exact ⟨renL [0, 1, 2, 3, 4, 5, 6, 7, 10, 11, 8, 9] 12, ⟨rfl, rfl, rfl, rfl, rfl, rfl, trivial⟩, EmbL.litsN [0, 1, 2, 3, 4, 5, 6, 7, 10, 11, 8, 9] rfl rfl rfl rfl (.cons ⟨rfl, .inl ⟨rfl, fun h => h⟩⟩ (.cons ⟨rfl, .inl ⟨rfl, fun h => h⟩⟩ (.cons ⟨rfl, .inl ⟨rfl, fun h => h⟩⟩ (.cons ⟨rfl, .inl ⟨rfl, fun h => h⟩⟩ .nil)))) (.cons ⟨rfl, .roI⟩ (.cons ⟨rfl, .roI⟩ (.cons ⟨rfl, .roI⟩ (.cons ⟨rfl, .roI⟩ (.cons ⟨rfl, .inl rfl⟩ (.cons ⟨rfl, .inl rfl⟩ (.cons ⟨rfl, .vS rfl⟩ (.cons ⟨rfl, .vS rfl⟩ (.cons ⟨rfl, .vS rfl⟩ (.cons ⟨rfl, .vS rfl⟩ (.cons ⟨rfl, .inl rfl⟩ (.cons ⟨rfl, .inl rfl⟩ .nil))))))))))))⟩
    · exact ⟨renL [0, 1, 2, 3, 4, 5, 6, 7, 10, 11, 8, 9] 12, ⟨rfl, rfl, rfl, rfl, rfl, rfl, trivial⟩, EmbL.litsN [0, 1, 2, 3, 4, 5, 6, 7, 10, 11, 8, 9] rfl rfl rfl rfl (.cons ⟨rfl, .inl ⟨rfl, fun h => h⟩⟩ (.cons ⟨rfl, .inl ⟨rfl, fun h => h⟩⟩ (.cons ⟨rfl, .inl ⟨rfl, fun h => h⟩⟩ (.cons ⟨rfl, .inl ⟨rfl, fun h => h⟩⟩ .nil)))) (.cons ⟨rfl, .roI⟩ (.cons ⟨rfl, .roI⟩ (.cons ⟨rfl, .roI⟩ (.cons ⟨rfl, .roI⟩ (.cons ⟨rfl, .inl rfl⟩ (.cons ⟨rfl, .inl rfl⟩ (.cons ⟨rfl, .vS rfl⟩ (.cons ⟨rfl, .vS rfl⟩ (.cons ⟨rfl, .vS rfl⟩ (.cons ⟨rfl, .vS rfl⟩ (.cons ⟨rfl, .inl rfl⟩ (.cons ⟨rfl, .inl rfl⟩ .nil))))))))))))⟩
    · exact ⟨renL [0, 1, 2, 3, 4, 5, 6, 7, 9, 10, 11, 8] 12, ⟨rfl, rfl, rfl, rfl, rfl, rfl, trivial⟩, EmbL.litsN [0, 1, 2, 3, 4, 5, 6, 7, 9, 10, 11, 8] rfl rfl rfl rfl (.cons ⟨rfl, .inl ⟨rfl, fun h => h⟩⟩ (.cons ⟨rfl, .inl ⟨rfl, fun h => h⟩⟩ (.cons ⟨rfl, .inl ⟨rfl, fun h => h⟩⟩ (.cons ⟨rfl, .inl ⟨rfl, fun h => h⟩⟩ .nil)))) (.cons ⟨rfl, .roI⟩ (.cons ⟨rfl, .roI⟩ (.cons ⟨rfl, .roI⟩ (.cons ⟨rfl, .roI⟩ (.cons ⟨rfl, .inl rfl⟩ (.cons ⟨rfl, .inl rfl⟩ (.cons ⟨rfl, .vS rfl⟩ (.cons ⟨rfl, .vS rfl⟩ (.cons ⟨rfl, .vS rfl⟩ (.cons ⟨rfl, .vS rfl⟩ (.cons ⟨rfl, .inl rfl⟩ (.cons ⟨rfl, .inl rfl⟩ .nil))))))))))))⟩
    · exact ⟨renL [0, 1, 2, 3, 4, 5, 6, 7, 10, 11, 9, 8] 12, ⟨rfl, rfl, rfl, rfl, rfl, rfl, trivial⟩, EmbL.litsN [0, 1, 2, 3, 4, 5, 6, 7, 10, 11, 9, 8] rfl rfl rfl rfl (.cons ⟨rfl, .inl ⟨rfl, fun h => h⟩⟩ (.cons ⟨rfl, .inl ⟨rfl, fun h => h⟩⟩ (.cons ⟨rfl, .inl ⟨rfl, fun h => h⟩⟩ (.cons ⟨rfl, .inl ⟨rfl, fun h => h⟩⟩ .nil)))) (.cons ⟨rfl, .roI⟩ (.cons ⟨rfl, .roI⟩ (.cons ⟨rfl, .roI⟩ (.cons ⟨rfl, .roI⟩ (.cons ⟨rfl, .inl rfl⟩ (.cons ⟨rfl, .inl rfl⟩ (.cons ⟨rfl, .vS rfl⟩ (.cons ⟨rfl, .vS rfl⟩ (.cons ⟨rfl, .vS rfl⟩ (.cons ⟨rfl, .vS rfl⟩ (.cons ⟨rfl, .inl rfl⟩ (.cons ⟨rfl, .inl rfl⟩ .nil))))))))))))⟩
    · exact ⟨renL [0, 1, 2, 3, 4, 5, 6, 7, 10, 11, 9, 8] 12, ⟨rfl, rfl, rfl, rfl, rfl, rfl, trivial⟩, EmbL.litsN [0, 1, 2, 3, 4, 5, 6, 7, 10, 11, 9, 8] rfl rfl rfl rfl (.cons ⟨rfl, .inl ⟨rfl, fun h => h⟩⟩ (.cons ⟨rfl, .inl ⟨rfl, fun h => h⟩⟩ (.cons ⟨rfl, .inl ⟨rfl, fun h => h⟩⟩ (.cons ⟨rfl, .inl ⟨rfl, fun h => h⟩⟩ .nil)))) (.cons ⟨rfl, .roI⟩ (.cons ⟨rfl, .roI⟩ (.cons ⟨rfl, .roI⟩ (.cons ⟨rfl, .roI⟩ (.cons ⟨rfl, .inl rfl⟩ (.cons ⟨rfl, .inl rfl⟩ (.cons ⟨rfl, .vS rfl⟩ (.cons ⟨rfl, .vS rfl⟩ (.cons ⟨rfl, .vS rfl⟩ (.cons ⟨rfl, .vS rfl⟩ (.cons ⟨rfl, .inl rfl⟩ (.cons ⟨rfl, .inl rfl⟩ .nil))))))))))))⟩
    · exact ⟨renL [0, 1, 2, 3, 4, 5, 6, 7, 8, 9, 10, 11] 12, ⟨rfl, rfl, rfl, rfl, rfl, rfl, trivial⟩, EmbL.litsN [0, 1, 2, 3, 4, 5, 6, 7, 8, 9, 10, 11] rfl rfl rfl rfl (.cons ⟨rfl, .inl ⟨rfl, fun h => h⟩⟩ (.cons ⟨rfl, .inl ⟨rfl, fun h => h⟩⟩ (.cons ⟨rfl, .inl ⟨rfl, fun h => h⟩⟩ (.cons ⟨rfl, .inl ⟨rfl, fun h => h⟩⟩ .nil)))) (.cons ⟨rfl, .roI⟩ (.cons ⟨rfl, .roI⟩ (.cons ⟨rfl, .roI⟩ (.cons ⟨rfl, .roI⟩ (.cons ⟨rfl, .inl rfl⟩ (.cons ⟨rfl, .inl rfl⟩ (.cons ⟨rfl, .vS rfl⟩ (.cons ⟨rfl, .vS rfl⟩ (.cons ⟨rfl, .vS rfl⟩ (.cons ⟨rfl, .vS rfl⟩ (.cons ⟨rfl, .inl rfl⟩ (.cons ⟨rfl, .inl rfl⟩ .nil))))))))))))⟩
    · exact ⟨renL [0, 1, 2, 3, 4, 5, 6, 7, 8, 9, 11, 10] 12, ⟨rfl, rfl, rfl, rfl, rfl, rfl, trivial⟩, EmbL.litsN [0, 1, 2, 3, 4, 5, 6, 7, 8, 9, 11, 10] rfl rfl rfl rfl (.cons ⟨rfl, .inl ⟨rfl, fun h => h⟩⟩ (.cons ⟨rfl, .inl ⟨rfl, fun h => h⟩⟩ (.cons ⟨rfl, .inl ⟨rfl, fun h => h⟩⟩ (.cons ⟨rfl, .inl ⟨rfl, fun h => h⟩⟩ .nil)))) (.cons ⟨rfl, .roI⟩ (.cons ⟨rfl, .roI⟩ (.cons ⟨rfl, .roI⟩ (.cons ⟨rfl, .roI⟩ (.cons ⟨rfl, .inl rfl⟩ (.cons ⟨rfl, .inl rfl⟩ (.cons ⟨rfl, .vS rfl⟩ (.cons ⟨rfl, .vS rfl⟩ (.cons ⟨rfl, .vS rfl⟩ (.cons ⟨rfl, .vS rfl⟩ (.cons ⟨rfl, .inl rfl⟩ (.cons ⟨rfl, .inl rfl⟩ .nil))))))))))))⟩
    · exact ⟨renL [0, 1, 2, 3, 4, 5, 6, 7, 9, 10, 8, 11] 12, ⟨rfl, rfl, rfl, rfl, rfl, rfl, trivial⟩, EmbL.litsN [0, 1, 2, 3, 4, 5, 6, 7, 9, 10, 8, 11] rfl rfl rfl rfl (.cons ⟨rfl, .inl ⟨rfl, fun h => h⟩⟩ (.cons ⟨rfl, .inl ⟨rfl, fun h => h⟩⟩ (.cons ⟨rfl, .inl ⟨rfl, fun h => h⟩⟩ (.cons ⟨rfl, .inl ⟨rfl, fun h => h⟩⟩ .nil)))) (.cons ⟨rfl, .roI⟩ (.cons ⟨rfl, .roI⟩ (.cons ⟨rfl, .roI⟩ (.cons ⟨rfl, .roI⟩ (.cons ⟨rfl, .inl rfl⟩ (.cons ⟨rfl, .inl rfl⟩ (.cons ⟨rfl, .vS rfl⟩ (.cons ⟨rfl, .vS rfl⟩ (.cons ⟨rfl, .vS rfl⟩ (.cons ⟨rfl, .vS rfl⟩ (.cons ⟨rfl, .inl rfl⟩ (.cons ⟨rfl, .inl rfl⟩ .nil))))))))))))⟩
    · exact ⟨renL [0, 1, 2, 3, 4, 5, 6, 7, 10, 11, 8, 9] 12, ⟨rfl, rfl, rfl, rfl, rfl, rfl, trivial⟩, EmbL.litsN [0, 1, 2, 3, 4, 5, 6, 7, 10, 11, 8, 9] rfl rfl rfl rfl (.cons ⟨rfl, .inl ⟨rfl, fun h => h⟩⟩ (.cons ⟨rfl, .inl ⟨rfl, fun h => h⟩⟩ (.cons ⟨rfl, .inl ⟨rfl, fun h => h⟩⟩ (.cons ⟨rfl, .inl ⟨rfl, fun h => h⟩⟩ .nil)))) (.cons ⟨rfl, .roI⟩ (.cons ⟨rfl, .roI⟩ (.cons ⟨rfl, .roI⟩ (.cons ⟨rfl, .roI⟩ (.cons ⟨rfl, .inl rfl⟩ (.cons ⟨rfl, .inl rfl⟩ (.cons ⟨rfl, .vS rfl⟩ (.cons ⟨rfl, .vS rfl⟩ (.cons ⟨rfl, .vS rfl⟩ (.cons ⟨rfl, .vS rfl⟩ (.cons ⟨rfl, .inl rfl⟩ (.cons ⟨rfl, .inl rfl⟩ .nil))))))))))))⟩
    · exact ⟨renL [0, 1, 2, 3, 4, 5, 6, 7, 9, 10, 11, 8] 12, ⟨rfl, rfl, rfl, rfl, rfl, rfl, trivial⟩, EmbL.litsN [0, 1, 2, 3, 4, 5, 6, 7, 9, 10, 11, 8] rfl rfl rfl rfl (.cons ⟨rfl, .inl ⟨rfl, fun h => h⟩⟩ (.cons ⟨rfl, .inl ⟨rfl, fun h => h⟩⟩ (.cons ⟨rfl, .inl ⟨rfl, fun h => h⟩⟩ (.cons ⟨rfl, .inl ⟨rfl, fun h => h⟩⟩ .nil)))) (.cons ⟨rfl, .roI⟩ (.cons ⟨rfl, .roI⟩ (.cons ⟨rfl, .roI⟩ (.cons ⟨rfl, .roI⟩ (.cons ⟨rfl, .inl rfl⟩ (.cons ⟨rfl, .inl rfl⟩ (.cons ⟨rfl, .vS rfl⟩ (.cons ⟨rfl, .vS rfl⟩ (.cons ⟨rfl, .vS rfl⟩ (.cons ⟨rfl, .vS rfl⟩ (.cons ⟨rfl, .inl rfl⟩ (.cons ⟨rfl, .inl rfl⟩ .nil))))))))))))⟩
    · exact ⟨renL [0, 1, 2, 3, 4, 5, 6, 7, 10, 11, 9, 8] 12, ⟨rfl, rfl, rfl, rfl, rfl, rfl, trivial⟩, EmbL.litsN [0, 1, 2, 3, 4, 5, 6, 7, 10, 11, 9, 8] rfl rfl rfl rfl (.cons ⟨rfl, .inl ⟨rfl, fun h => h⟩⟩ (.cons ⟨rfl, .inl ⟨rfl, fun h => h⟩⟩ (.cons ⟨rfl, .inl ⟨rfl, fun h => h⟩⟩ (.cons ⟨rfl, .inl ⟨rfl, fun h => h⟩⟩ .nil)))) (.cons ⟨rfl, .roI⟩ (.cons ⟨rfl, .roI⟩ (.cons ⟨rfl, .roI⟩ (.cons ⟨rfl, .roI⟩ (.cons ⟨rfl, .inl rfl⟩ (.cons ⟨rfl, .inl rfl⟩ (.cons ⟨rfl, .vS rfl⟩ (.cons ⟨rfl, .vS rfl⟩ (.cons ⟨rfl, .vS rfl⟩ (.cons ⟨rfl, .vS rfl⟩ (.cons ⟨rfl, .inl rfl⟩ (.cons ⟨rfl, .inl rfl⟩ .nil))))))))))))⟩
    · exact ⟨renL [0, 1, 2, 3, 4, 5, 7, 8, 9, 10, 6, 11] 12, ⟨rfl, rfl, rfl, rfl, rfl, rfl, trivial⟩, EmbL.litsN [0, 1, 2, 3, 4, 5, 7, 8, 9, 10, 6, 11] rfl rfl rfl rfl (.cons ⟨rfl, .inl ⟨rfl, fun h => h⟩⟩ (.cons ⟨rfl, .inl ⟨rfl, fun h => h⟩⟩ (.cons ⟨rfl, .inl ⟨rfl, fun h => h⟩⟩ (.cons ⟨rfl, .inl ⟨rfl, fun h => h⟩⟩ .nil)))) (.cons ⟨rfl, .roI⟩ (.cons ⟨rfl, .roI⟩ (.cons ⟨rfl, .roI⟩ (.cons ⟨rfl, .roI⟩ (.cons ⟨rfl, .inl rfl⟩ (.cons ⟨rfl, .inl rfl⟩ (.cons ⟨rfl, .vS rfl⟩ (.cons ⟨rfl, .vS rfl⟩ (.cons ⟨rfl, .vS rfl⟩ (.cons ⟨rfl, .vS rfl⟩ (.cons ⟨rfl, .inl rfl⟩ (.cons ⟨rfl, .inl rfl⟩ .nil))))))))))))⟩
    · exact ⟨renL [0, 1, 2, 3, 4, 5, 7, 8, 10, 11, 6, 9] 12, ⟨rfl, rfl, rfl, rfl, rfl, rfl, trivial⟩, EmbL.litsN [0, 1, 2, 3, 4, 5, 7, 8, 10, 11, 6, 9] rfl rfl rfl rfl (.cons ⟨rfl, .inl ⟨rfl, fun h => h⟩⟩ (.cons ⟨rfl, .inl ⟨rfl, fun h => h⟩⟩ (.cons ⟨rfl, .inl ⟨rfl, fun h => h⟩⟩ (.cons ⟨rfl, .inl ⟨rfl, fun h => h⟩⟩ .nil)))) (.cons ⟨rfl, .roI⟩ (.cons ⟨rfl, .roI⟩ (.cons ⟨rfl, .roI⟩ (.cons ⟨rfl, .roI⟩ (.cons ⟨rfl, .inl rfl⟩ (.cons ⟨rfl, .inl rfl⟩ (.cons ⟨rfl, .vS rfl⟩ (.cons ⟨rfl, .vS rfl⟩ (.cons ⟨rfl, .vS rfl⟩ (.cons ⟨rfl, .vS rfl⟩ (.cons ⟨rfl, .inl rfl⟩ (.cons ⟨rfl, .inl rfl⟩ .nil))))))))))))⟩
    · exact ⟨renL [0, 1, 2, 3, 4, 5, 8, 9, 10, 11, 6, 7] 12, ⟨rfl, rfl, rfl, rfl, rfl, rfl, trivial⟩, EmbL.litsN [0, 1, 2, 3, 4, 5, 8, 9, 10, 11, 6, 7] rfl rfl rfl rfl (.cons ⟨rfl, .inl ⟨rfl, fun h => h⟩⟩ (.cons ⟨rfl, .inl ⟨rfl, fun h => h⟩⟩ (.cons ⟨rfl, .inl ⟨rfl, fun h => h⟩⟩ (.cons ⟨rfl, .inl ⟨rfl, fun h => h⟩⟩ .nil)))) (.cons ⟨rfl, .roI⟩ (.cons ⟨rfl, .roI⟩ (.cons ⟨rfl, .roI⟩ (.cons ⟨rfl, .roI⟩ (.cons ⟨rfl, .inl rfl⟩ (.cons ⟨rfl, .inl rfl⟩ (.cons ⟨rfl, .vS rfl⟩ (.cons ⟨rfl, .vS rfl⟩ (.cons ⟨rfl, .vS rfl⟩ (.cons ⟨rfl, .vS rfl⟩ (.cons ⟨rfl, .inl rfl⟩ (.cons ⟨rfl, .inl rfl⟩ .nil))))))))))))⟩
    · exact ⟨renL [0, 1, 2, 3, 4, 5, 7, 8, 9, 10, 11, 6] 12, ⟨rfl, rfl, rfl, rfl, rfl, rfl, trivial⟩, EmbL.litsN [0, 1, 2, 3, 4, 5, 7, 8, 9, 10, 11, 6] rfl rfl rfl rfl (.cons ⟨rfl, .inl ⟨rfl, fun h => h⟩⟩ (.cons ⟨rfl, .inl ⟨rfl, fun h => h⟩⟩ (.cons ⟨rfl, .inl ⟨rfl, fun h => h⟩⟩ (.cons ⟨rfl, .inl ⟨rfl, fun h => h⟩⟩ .nil)))) (.cons ⟨rfl, .roI⟩ (.cons ⟨rfl, .roI⟩ (.cons ⟨rfl, .roI⟩ (.cons ⟨rfl, .roI⟩ (.cons ⟨rfl, .inl rfl⟩ (.cons ⟨rfl, .inl rfl⟩ (.cons ⟨rfl, .vS rfl⟩ (.cons ⟨rfl, .vS rfl⟩ (.cons ⟨rfl, .vS rfl⟩ (.cons ⟨rfl, .vS rfl⟩ (.cons ⟨rfl, .inl rfl⟩ (.cons ⟨rfl, .inl rfl⟩ .nil))))))))))))⟩
    · exact ⟨renL [0, 1, 2, 3, 4, 5, 7, 8, 10, 11, 9, 6] 12, ⟨rfl, rfl, rfl, rfl, rfl, rfl, trivial⟩, EmbL.litsN [0, 1, 2, 3, 4, 5, 7, 8, 10, 11, 9, 6] rfl rfl rfl rfl (.cons ⟨rfl, .inl ⟨rfl, fun h => h⟩⟩ (.cons ⟨rfl, .inl ⟨rfl, fun h => h⟩⟩ (.cons ⟨rfl, .inl ⟨rfl, fun h => h⟩⟩ (.cons ⟨rfl, .inl ⟨rfl, fun h => h⟩⟩ .nil)))) (.cons ⟨rfl, .roI⟩ (.cons ⟨rfl, .roI⟩ (.cons ⟨rfl, .roI⟩ (.cons ⟨rfl, .roI⟩ (.cons ⟨rfl, .inl rfl⟩ (.cons ⟨rfl, .inl rfl⟩ (.cons ⟨rfl, .vS rfl⟩ (.cons ⟨rfl, .vS rfl⟩ (.cons ⟨rfl, .vS rfl⟩ (.cons ⟨rfl, .vS rfl⟩ (.cons ⟨rfl, .inl rfl⟩ (.cons ⟨rfl, .inl rfl⟩ .nil))))))))))))⟩
    · exact ⟨renL [0, 1, 2, 3, 4, 5, 8, 9, 10, 11, 7, 6] 12, ⟨rfl, rfl, rfl, rfl, rfl, rfl, trivial⟩, EmbL.litsN [0, 1, 2, 3, 4, 5, 8, 9, 10, 11, 7, 6] rfl rfl rfl rfl (.cons ⟨rfl, .inl ⟨rfl, fun h => h⟩⟩ (.cons ⟨rfl, .inl ⟨rfl, fun h => h⟩⟩ (.cons ⟨rfl, .inl ⟨rfl, fun h => h⟩⟩ (.cons ⟨rfl, .inl ⟨rfl, fun h => h⟩⟩ .nil)))) (.cons ⟨rfl, .roI⟩ (.cons ⟨rfl, .roI⟩ (.cons ⟨rfl, .roI⟩ (.cons ⟨rfl, .roI⟩ (.cons ⟨rfl, .inl rfl⟩ (.cons ⟨rfl, .inl rfl⟩ (.cons ⟨rfl, .vS rfl⟩ (.cons ⟨rfl, .vS rfl⟩ (.cons ⟨rfl, .vS rfl⟩ (.cons ⟨rfl, .vS rfl⟩ (.cons ⟨rfl, .inl rfl⟩ (.cons ⟨rfl, .inl rfl⟩ .nil))))))))))))⟩
    · exact ⟨renL [0, 1, 2, 3, 4, 5, 7, 8, 9, 10, 6, 11] 12, ⟨rfl, rfl, rfl, rfl, rfl, rfl, trivial⟩, EmbL.litsN [0, 1, 2, 3, 4, 5, 7, 8, 9, 10, 6, 11] rfl rfl rfl rfl (.cons ⟨rfl, .inl ⟨rfl, fun h => h⟩⟩ (.cons ⟨rfl, .inl ⟨rfl, fun h => h⟩⟩ (.cons ⟨rfl, .inl ⟨rfl, fun h => h⟩⟩ (.cons ⟨rfl, .inl ⟨rfl, fun h => h⟩⟩ .nil)))) (.cons ⟨rfl, .roI⟩ (.cons ⟨rfl, .roI⟩ (.cons ⟨rfl, .roI⟩ (.cons ⟨rfl, .roI⟩ (.cons ⟨rfl, .inl rfl⟩ (.cons ⟨rfl, .inl rfl⟩ (.cons ⟨rfl, .vS rfl⟩ (.cons ⟨rfl, .vS rfl⟩ (.cons ⟨rfl, .vS rfl⟩ (.cons ⟨rfl, .vS rfl⟩ (.cons ⟨rfl, .inl rfl⟩ (.cons ⟨rfl, .inl rfl⟩ .nil))))))))))))⟩
    · exact ⟨renL [0, 1, 2, 3, 4, 5, 7, 8, 10, 11, 6, 9] 12, ⟨rfl, rfl, rfl, rfl, rfl, rfl, trivial⟩, EmbL.litsN [0, 1, 2, 3, 4, 5, 7, 8, 10, 11, 6, 9] rfl rfl rfl rfl (.cons ⟨rfl, .inl ⟨rfl, fun h => h⟩⟩ (.cons ⟨rfl, .inl ⟨rfl, fun h => h⟩⟩ (.cons ⟨rfl, .inl ⟨rfl, fun h => h⟩⟩ (.cons ⟨rfl, .inl ⟨rfl, fun h => h⟩⟩ .nil)))) (.cons ⟨rfl, .roI⟩ (.cons ⟨rfl, .roI⟩ (.cons ⟨rfl, .roI⟩ (.cons ⟨rfl, .roI⟩ (.cons ⟨rfl, .inl rfl⟩ (.cons ⟨rfl, .inl rfl⟩ (.cons ⟨rfl, .vS rfl⟩ (.cons ⟨rfl, .vS rfl⟩ (.cons ⟨rfl, .vS rfl⟩ (.cons ⟨rfl, .vS rfl⟩ (.cons ⟨rfl, .inl rfl⟩ (.cons ⟨rfl, .inl rfl⟩ .nil))))))))))))⟩
    · exact ⟨renL [0, 1, 2, 3, 4, 5, 7, 8, 10, 11, 6, 9] 12, ⟨rfl, rfl, rfl, rfl, rfl, rfl, trivial⟩, EmbL.litsN [0, 1, 2, 3, 4, 5, 7, 8, 10, 11, 6, 9] rfl rfl rfl rfl (.cons ⟨rfl, .inl ⟨rfl, fun h => h⟩⟩ (.cons ⟨rfl, .inl ⟨rfl, fun h => h⟩⟩ (.cons ⟨rfl, .inl ⟨rfl, fun h => h⟩⟩ (.cons ⟨rfl, .inl ⟨rfl, fun h => h⟩⟩ .nil)))) (.cons ⟨rfl, .roI⟩ (.cons ⟨rfl, .roI⟩ (.cons ⟨rfl, .roI⟩ (.cons ⟨rfl, .roI⟩ (.cons ⟨rfl, .inl rfl⟩ (.cons ⟨rfl, .inl rfl⟩ (.cons ⟨rfl, .vS rfl⟩ (.cons ⟨rfl, .vS rfl⟩ (.cons ⟨rfl, .vS rfl⟩ (.cons ⟨rfl, .vS rfl⟩ (.cons ⟨rfl, .inl rfl⟩ (.cons ⟨rfl, .inl rfl⟩ .nil))))))))))))⟩
    · exact ⟨renL [0, 1, 2, 3, 4, 5, 7, 8, 9, 10, 6, 11] 12, ⟨rfl, rfl, rfl, rfl, rfl, rfl, trivial⟩, EmbL.litsN [0, 1, 2, 3, 4, 5, 7, 8, 9, 10, 6, 11] rfl rfl rfl rfl (.cons ⟨rfl, .inl ⟨rfl, fun h => h⟩⟩ (.cons ⟨rfl, .inl ⟨rfl, fun h => h⟩⟩ (.cons ⟨rfl, .inl ⟨rfl, fun h => h⟩⟩ (.cons ⟨rfl, .inl ⟨rfl, fun h => h⟩⟩ .nil)))) (.cons ⟨rfl, .roI⟩ (.cons ⟨rfl, .roI⟩ (.cons ⟨rfl, .roI⟩ (.cons ⟨rfl, .roI⟩ (.cons ⟨rfl, .inl rfl⟩ (.cons ⟨rfl, .inl rfl⟩ (.cons ⟨rfl, .vS rfl⟩ (.cons ⟨rfl, .vS rfl⟩ (.cons ⟨rfl, .vS rfl⟩ (.cons ⟨rfl, .vS rfl⟩ (.cons ⟨rfl, .inl rfl⟩ (.cons ⟨rfl, .inl rfl⟩ .nil))))))))))))⟩
    · exact ⟨renL [0, 1, 2, 3, 4, 5, 7, 8, 10, 11, 6, 9] 12, ⟨rfl, rfl, rfl, rfl, rfl, rfl, trivial⟩, EmbL.litsN [0, 1, 2, 3, 4, 5, 7, 8, 10, 11, 6, 9] rfl rfl rfl rfl (.cons ⟨rfl, .inl ⟨rfl, fun h => h⟩⟩ (.cons ⟨rfl, .inl ⟨rfl, fun h => h⟩⟩ (.cons ⟨rfl, .inl ⟨rfl, fun h => h⟩⟩ (.cons ⟨rfl, .inl ⟨rfl, fun h => h⟩⟩ .nil)))) (.cons ⟨rfl, .roI⟩ (.cons ⟨rfl, .roI⟩ (.cons ⟨rfl, .roI⟩ (.cons ⟨rfl, .roI⟩ (.cons ⟨rfl, .inl rfl⟩ (.cons ⟨rfl, .inl rfl⟩ (.cons ⟨rfl, .vS rfl⟩ (.cons ⟨rfl, .vS rfl⟩ (.cons ⟨rfl, .vS rfl⟩ (.cons ⟨rfl, .vS rfl⟩ (.cons ⟨rfl, .inl rfl⟩ (.cons ⟨rfl, .inl rfl⟩ .nil))))))))))))⟩
    · exact ⟨renL [0, 1, 2, 3, 4, 5, 8, 9, 10, 11, 6, 7] 12, ⟨rfl, rfl, rfl, rfl, rfl, rfl, trivial⟩, EmbL.litsN [0, 1, 2, 3, 4, 5, 8, 9, 10, 11, 6, 7] rfl rfl rfl rfl (.cons ⟨rfl, .inl ⟨rfl, fun h => h⟩⟩ (.cons ⟨rfl, .inl ⟨rfl, fun h => h⟩⟩ (.cons ⟨rfl, .inl ⟨rfl, fun h => h⟩⟩ (.cons ⟨rfl, .inl ⟨rfl, fun h => h⟩⟩ .nil)))) (.cons ⟨rfl, .roI⟩ (.cons ⟨rfl, .roI⟩ (.cons ⟨rfl, .roI⟩ (.cons ⟨rfl, .roI⟩ (.cons ⟨rfl, .inl rfl⟩ (.cons ⟨rfl, .inl rfl⟩ (.cons ⟨rfl, .vS rfl⟩ (.cons ⟨rfl, .vS rfl⟩ (.cons ⟨rfl, .vS rfl⟩ (.cons ⟨rfl, .vS rfl⟩ (.cons ⟨rfl, .inl rfl⟩ (.cons ⟨rfl, .inl rfl⟩ .nil))))))))))))⟩
    · exact ⟨renL [0, 1, 2, 3, 4, 5, 8, 9, 10, 11, 6, 7] 12, ⟨rfl, rfl, rfl, rfl, rfl, rfl, trivial⟩, EmbL.litsN [0, 1, 2, 3, 4, 5, 8, 9, 10, 11, 6, 7] rfl rfl rfl rfl (.cons ⟨rfl, .inl ⟨rfl, fun h => h⟩⟩ (.cons ⟨rfl, .inl ⟨rfl, fun h => h⟩⟩ (.cons ⟨rfl, .inl ⟨rfl, fun h => h⟩⟩ (.cons ⟨rfl, .inl ⟨rfl, fun h => h⟩⟩ .nil)))) (.cons ⟨rfl, .roI⟩ (.cons ⟨rfl, .roI⟩ (.cons ⟨rfl, .roI⟩ (.cons ⟨rfl, .roI⟩ (.cons ⟨rfl, .inl rfl⟩ (.cons ⟨rfl, .inl rfl⟩ (.cons ⟨rfl, .vS rfl⟩ (.cons ⟨rfl, .vS rfl⟩ (.cons ⟨rfl, .vS rfl⟩ (.cons ⟨rfl, .vS rfl⟩ (.cons ⟨rfl, .inl rfl⟩ (.cons ⟨rfl, .inl rfl⟩ .nil))))))))))))⟩
    · exact ⟨renL [0, 1, 2, 3, 4, 5, 8, 9, 10, 11, 6, 7] 12, ⟨rfl, rfl, rfl, rfl, rfl, rfl, trivial⟩, EmbL.litsN [0, 1, 2, 3, 4, 5, 8, 9, 10, 11, 6, 7] rfl rfl rfl rfl (.cons ⟨rfl, .inl ⟨rfl, fun h => h⟩⟩ (.cons ⟨rfl, .inl ⟨rfl, fun h => h⟩⟩ (.cons ⟨rfl, .inl ⟨rfl, fun h => h⟩⟩ (.cons ⟨rfl, .inl ⟨rfl, fun h => h⟩⟩ .nil)))) (.cons ⟨rfl, .roI⟩ (.cons ⟨rfl, .roI⟩ (.cons ⟨rfl, .roI⟩ (.cons ⟨rfl, .roI⟩ (.cons ⟨rfl, .inl rfl⟩ (.cons ⟨rfl, .inl rfl⟩ (.cons ⟨rfl, .vS rfl⟩ (.cons ⟨rfl, .vS rfl⟩ (.cons ⟨rfl, .vS rfl⟩ (.cons ⟨rfl, .vS rfl⟩ (.cons ⟨rfl, .inl rfl⟩ (.cons ⟨rfl, .inl rfl⟩ .nil))))))))))))⟩
    · exact ⟨renL [0, 1, 2, 3, 4, 5, 7, 8, 9, 10, 11, 6] 12, ⟨rfl, rfl, rfl, rfl, rfl, rfl, trivial⟩, EmbL.litsN [0, 1, 2, 3, 4, 5, 7, 8, 9, 10, 11, 6] rfl rfl rfl rfl (.cons ⟨rfl, .inl ⟨rfl, fun h => h⟩⟩ (.cons ⟨rfl, .inl ⟨rfl, fun h => h⟩⟩ (.cons ⟨rfl, .inl ⟨rfl, fun h => h⟩⟩ (.cons ⟨rfl, .inl ⟨rfl, fun h => h⟩⟩ .nil)))) (.cons ⟨rfl, .roI⟩ (.cons ⟨rfl, .roI⟩ (.cons ⟨rfl, .roI⟩ (.cons ⟨rfl, .roI⟩ (.cons ⟨rfl, .inl rfl⟩ (.cons ⟨rfl, .inl rfl⟩ (.cons ⟨rfl, .vS rfl⟩ (.cons ⟨rfl, .vS rfl⟩ (.cons ⟨rfl, .vS rfl⟩ (.cons ⟨rfl, .vS rfl⟩ (.cons ⟨rfl, .inl rfl⟩ (.cons ⟨rfl, .inl rfl⟩ .nil))))))))))))⟩
    · exact ⟨renL [0, 1, 2, 3, 4, 5, 7, 8, 10, 11, 9, 6] 12, ⟨rfl, rfl, rfl, rfl, rfl, rfl, trivial⟩, EmbL.litsN [0, 1, 2, 3, 4, 5, 7, 8, 10, 11, 9, 6] rfl rfl rfl rfl (.cons ⟨rfl, .inl ⟨rfl, fun h => h⟩⟩ (.cons ⟨rfl, .inl ⟨rfl, fun h => h⟩⟩ (.cons ⟨rfl, .inl ⟨rfl, fun h => h⟩⟩ (.cons ⟨rfl, .inl ⟨rfl, fun h => h⟩⟩ .nil)))) (.cons ⟨rfl, .roI⟩ (.cons ⟨rfl, .roI⟩ (.cons ⟨rfl, .roI⟩ (.cons ⟨rfl, .roI⟩ (.cons ⟨rfl, .inl rfl⟩ (.cons ⟨rfl, .inl rfl⟩ (.cons ⟨rfl, .vS rfl⟩ (.cons ⟨rfl, .vS rfl⟩ (.cons ⟨rfl, .vS rfl⟩ (.cons ⟨rfl, .vS rfl⟩ (.cons ⟨rfl, .inl rfl⟩ (.cons ⟨rfl, .inl rfl⟩ .nil))))))))))))⟩
    · exact ⟨renL [0, 1, 2, 3, 4, 5, 7, 8, 10, 11, 9, 6] 12, ⟨rfl, rfl, rfl, rfl, rfl, rfl, trivial⟩, EmbL.litsN [0, 1, 2, 3, 4, 5, 7, 8, 10, 11, 9, 6] rfl rfl rfl rfl (.cons ⟨rfl, .inl ⟨rfl, fun h => h⟩⟩ (.cons ⟨rfl, .inl ⟨rfl, fun h => h⟩⟩ (.cons ⟨rfl, .inl ⟨rfl, fun h => h⟩⟩ (.cons ⟨rfl, .inl ⟨rfl, fun h => h⟩⟩ .nil)))) (.cons ⟨rfl, .roI⟩ (.cons ⟨rfl, .roI⟩ (.cons ⟨rfl, .roI⟩ (.cons ⟨rfl, .roI⟩ (.cons ⟨rfl, .inl rfl⟩ (.cons ⟨rfl, .inl rfl⟩ (.cons ⟨rfl, .vS rfl⟩ (.cons ⟨rfl, .vS rfl⟩ (.cons ⟨rfl, .vS rfl⟩ (.cons ⟨rfl, .vS rfl⟩ (.cons ⟨rfl, .inl rfl⟩ (.cons ⟨rfl, .inl rfl⟩ .nil))))))))))))⟩
    · exact ⟨renL [0, 1, 2, 3, 4, 5, 7, 8, 9, 10, 11, 6] 12, ⟨rfl, rfl, rfl, rfl, rfl, rfl, trivial⟩, EmbL.litsN [0, 1, 2, 3, 4, 5, 7, 8, 9, 10, 11, 6] rfl rfl rfl rfl (.cons ⟨rfl, .inl ⟨rfl, fun h => h⟩⟩ (.cons ⟨rfl, .inl ⟨rfl, fun h => h⟩⟩ (.cons ⟨rfl, .inl ⟨rfl, fun h => h⟩⟩ (.cons ⟨rfl, .inl ⟨rfl, fun h => h⟩⟩ .nil)))) (.cons ⟨rfl, .roI⟩ (.cons ⟨rfl, .roI⟩ (.cons ⟨rfl, .roI⟩ (.cons ⟨rfl, .roI⟩ (.cons ⟨rfl, .inl rfl⟩ (.cons ⟨rfl, .inl rfl⟩ (.cons ⟨rfl, .vS rfl⟩ (.cons ⟨rfl, .vS rfl⟩ (.cons ⟨rfl, .vS rfl⟩ (.cons ⟨rfl, .vS rfl⟩ (.cons ⟨rfl, .inl rfl⟩ (.cons ⟨rfl, .inl rfl⟩ .nil))))))))))))⟩
    · exact ⟨renL [0, 1, 2, 3, 4, 5, 7, 8, 10, 11, 9, 6] 12, ⟨rfl, rfl, rfl, rfl, rfl, rfl, trivial⟩, EmbL.litsN [0, 1, 2, 3, 4, 5, 7, 8, 10, 11, 9, 6] rfl rfl rfl rfl (.cons ⟨rfl, .inl ⟨rfl, fun h => h⟩⟩ (.cons ⟨rfl, .inl ⟨rfl, fun h => h⟩⟩ (.cons ⟨rfl, .inl ⟨rfl, fun h => h⟩⟩ (.cons ⟨rfl, .inl ⟨rfl, fun h => h⟩⟩ .nil)))) (.cons ⟨rfl, .roI⟩ (.cons ⟨rfl, .roI⟩ (.cons ⟨rfl, .roI⟩ (.cons ⟨rfl, .roI⟩ (.cons ⟨rfl, .inl rfl⟩ (.cons ⟨rfl, .inl rfl⟩ (.cons ⟨rfl, .vS rfl⟩ (.cons ⟨rfl, .vS rfl⟩ (.cons ⟨rfl, .vS rfl⟩ (.cons ⟨rfl, .vS rfl⟩ (.cons ⟨rfl, .inl rfl⟩ (.cons ⟨rfl, .inl rfl⟩ .nil))))))))))))⟩
    · exact ⟨renL [0, 1, 2, 3, 4, 5, 8, 9, 10, 11, 7, 6] 12, ⟨rfl, rfl, rfl, rfl, rfl, rfl, trivial⟩, EmbL.litsN [0, 1, 2, 3, 4, 5, 8, 9, 10, 11, 7, 6] rfl rfl rfl rfl (.cons ⟨rfl, .inl ⟨rfl, fun h => h⟩⟩ (.cons ⟨rfl, .inl ⟨rfl, fun h => h⟩⟩ (.cons ⟨rfl, .inl ⟨rfl, fun h => h⟩⟩ (.cons ⟨rfl, .inl ⟨rfl, fun h => h⟩⟩ .nil)))) (.cons ⟨rfl, .roI⟩ (.cons ⟨rfl, .roI⟩ (.cons ⟨rfl, .roI⟩ (.cons ⟨rfl, .roI⟩ (.cons ⟨rfl, .inl rfl⟩ (.cons ⟨rfl, .inl rfl⟩ (.cons ⟨rfl, .vS rfl⟩ (.cons ⟨rfl, .vS rfl⟩ (.cons ⟨rfl, .vS rfl⟩ (.cons ⟨rfl, .vS rfl⟩ (.cons ⟨rfl, .inl rfl⟩ (.cons ⟨rfl, .inl rfl⟩ .nil))))))))))))⟩
    · exact ⟨renL [0, 1, 2, 3, 4, 5, 8, 9, 10, 11, 7, 6] 12, ⟨rfl, rfl, rfl, rfl, rfl, rfl, trivial⟩, EmbL.litsN [0, 1, 2, 3, 4, 5, 8, 9, 10, 11, 7, 6] rfl rfl rfl rfl (.cons ⟨rfl, .inl ⟨rfl, fun h => h⟩⟩ (.cons ⟨rfl, .inl ⟨rfl, fun h => h⟩⟩ (.cons ⟨rfl, .inl ⟨rfl, fun h => h⟩⟩ (.cons ⟨rfl, .inl ⟨rfl, fun h => h⟩⟩ .nil)))) (.cons ⟨rfl, .roI⟩ (.cons ⟨rfl, .roI⟩ (.cons ⟨rfl, .roI⟩ (.cons ⟨rfl, .roI⟩ (.cons ⟨rfl, .inl rfl⟩ (.cons ⟨rfl, .inl rfl⟩ (.cons ⟨rfl, .vS rfl⟩ (.cons ⟨rfl, .vS rfl⟩ (.cons ⟨rfl, .vS rfl⟩ (.cons ⟨rfl, .vS rfl⟩ (.cons ⟨rfl, .inl rfl⟩ (.cons ⟨rfl, .inl rfl⟩ .nil))))))))))))⟩
    · exact ⟨renL [0, 1, 2, 3, 4, 5, 8, 9, 10, 11, 7, 6] 12, ⟨rfl, rfl, rfl, rfl, rfl, rfl, trivial⟩, EmbL.litsN [0, 1, 2, 3, 4, 5, 8, 9, 10, 11, 7, 6] rfl rfl rfl rfl (.cons ⟨rfl, .inl ⟨rfl, fun h => h⟩⟩ (.cons ⟨rfl, .inl ⟨rfl, fun h => h⟩⟩ (.cons ⟨rfl, .inl ⟨rfl, fun h => h⟩⟩ (.cons ⟨rfl, .inl ⟨rfl, fun h => h⟩⟩ .nil)))) (.cons ⟨rfl, .roI⟩ (.cons ⟨rfl, .roI⟩ (.cons ⟨rfl, .roI⟩ (.cons ⟨rfl, .roI⟩ (.cons ⟨rfl, .inl rfl⟩ (.cons ⟨rfl, .inl rfl⟩ (.cons ⟨rfl, .vS rfl⟩ (.cons ⟨rfl, .vS rfl⟩ (.cons ⟨rfl, .vS rfl⟩ (.cons ⟨rfl, .vS rfl⟩ (.cons ⟨rfl, .inl rfl⟩ (.cons ⟨rfl, .inl rfl⟩ .nil))))))))))))⟩
theorem same11 (u v : Wd) (hfu : u.Fits) (hfv : v.Fits) : CallW Tryd.prog 11 [u.av 0 1, v.av 2 3] (h4 u v) fun r _ => ∃ b e, r = .tuple [.bool b, .int .i64 e] ∧ SameR u v b e := by
  refine CallW.symK (cuts := [3]) Tryd.func11 rfl (by kernel_rfl) ?_
  conv => whnf
  repeat' (refine Gets.of _ rfl ?_; conv => whnf)
  refine CallS.of (by kernel_rfl) (valid26a u hfu 6 (.roB rfl rfl) (.roB rfl rfl)) rfl ?_
  rintro _ _ ⟨rfl, hp | hp⟩
  all_goals conv => whnf
  all_goals
    repeat' (refine Gets.of _ rfl ?_; conv => whnf)
  · refine CallS.of (by kernel_rfl) (valid26a v hfv 6 (.roB rfl rfl) (.roB rfl rfl)) rfl ?_
    rintro _ _ ⟨rfl, hq | hq⟩
    all_goals conv => whnf
    all_goals
      skip
    · refine CodeS.canon [3] elS3 (s4 u v) (renL [0, 1, 2, 3, 4, 5] 6) (by kernel_rfl) ⟨rfl, rfl, rfl, rfl, trivial⟩ (EmbL.litsN [0, 1, 2, 3, 4, 5] rfl rfl rfl rfl (.cons ⟨rfl, .inl ⟨rfl, fun h => h⟩⟩ (.cons ⟨rfl, .inl ⟨rfl, fun h => h⟩⟩ (.cons ⟨rfl, .inl ⟨rfl, fun h => h⟩⟩ (.cons ⟨rfl, .inl ⟨rfl, fun h => h⟩⟩ .nil)))) (.cons ⟨rfl, .roI⟩ (.cons ⟨rfl, .roI⟩ (.cons ⟨rfl, .roI⟩ (.cons ⟨rfl, .roI⟩ (.cons ⟨rfl, .inl rfl⟩ (.cons ⟨rfl, .inl rfl⟩ .nil))))))) ?_
      conv => whnf
      refine CodeS.cutR [] elS4 (s5 u v) (by kernel_rfl) (regS u v hp hq _) ?_
      conv => whnf
      repeat' (refine Gets.of _ rfl ?_; conv => whnf)
      have zu := nfP_sz hp.s32 hp.l32
      have zv := nfP_sz hq.s32 hq.l32
      have e : nf u = nf v ↔ u.stem.take (nfP u.stem u.loop).n = v.stem.take (nfP v.stem v.loop).n ∧ (nfP u.stem u.loop).loop = (nfP v.stem v.loop).loop := wd_ext
      have fu : (nfP u.stem u.loop).full = u.stem := rfl
      have fv : (nfP v.stem v.loop).full = v.stem := rfl
      refine CallS.of (by kernel_rfl) (equal37q u.stem v.stem (nfP u.stem u.loop).n (nfP v.stem v.loop).n (fu ▸ zu.n) (fv ▸ zv.n) hp.s32 hq.s32 (.vB rfl rfl) (.vB rfl rfl)) rfl ?_
      rintro _ _ ⟨rfl, h1 | h1⟩
      all_goals conv => whnf
      all_goals
        repeat' (refine Gets.of _ rfl ?_; conv => whnf)
      · refine CallS.of (by kernel_rfl) (equal37q (nfP u.stem u.loop).loop (nfP v.stem v.loop).loop (nfP u.stem u.loop).loop.length (nfP v.stem v.loop).loop.length (Nat.le_refl _) (Nat.le_refl _) zu.l zv.l (.vB rfl rfl) (.vB rfl rfl)) rfl ?_
        rintro _ _ ⟨rfl, h2 | h2⟩
        all_goals conv => whnf
        all_goals
          skip
        all_goals rw [List.take_length, List.take_length] at h2
        · exact ⟨_, _, rfl, .inr ⟨⟨hp, hq⟩, rfl, fun _ => e.2 ⟨h1, h2⟩, fun _ => rfl⟩⟩
        · exact ⟨_, _, rfl, .inr ⟨⟨hp, hq⟩, rfl, fun h => (by cases h), fun h => absurd (e.1 h).2 h2⟩⟩
      · exact ⟨_, _, rfl, .inr ⟨⟨hp, hq⟩, rfl, fun h => (by cases h), fun h => absurd (e.1 h).1 h1⟩⟩
    · exact ⟨_, _, rfl, .inl ⟨fun h => hq h.2, rfl, rfl⟩⟩
  · exact ⟨_, _, rfl, .inl ⟨fun h => hp h.1, rfl, rfl⟩⟩
end Go.Proofs.YthjemhlcojmiaaaDoor

/- Same, as the reference tells it; words that are not too long. -/
-- VkG VkH
set_option linter.unusedVariables false
set_option linter.unusedSimpArgs false
set_option maxRecDepth 100000
set_option maxHeartbeats 1000000
namespace Go.Proofs.YthjemhlcojmiaaaDoor
open Go Go.Vh Go.Vk Go.Proofs
theorem alike51 (u v : Wd) (hp : u.Ok 6) (hq : v.Ok 6) : CallW Tryd.prog 51 [u.av 0 1, v.av 2 3] (h4 u v) fun r _ => IsB r (nf u = nf v) := by
  have zu := nfP_sz hp.s32 hp.l32
  have zv := nfP_sz hq.s32 hq.l32
  have e : nf u = nf v ↔ (nfP u.stem u.loop).wd = (nfP v.stem v.loop).wd := by rw [nfP_wd, nfP_wd]
  rw [e]
  refine CallW.symK (cuts := []) Tryd.func51 rfl (by kernel_rfl) ?_
  conv => whnf
  skip
  refine CodeS.drawT [4, 5] (.take 0 (.take 2 (.one 1 true (.one 3 true (.one 4 true (.take 5 .done)))))) mixed (by kernel_rfl) (.cons ⟨rfl, trivial⟩ (.cons ⟨rfl, trivial⟩ .nil)) ?_
  conv => whnf
  repeat' (refine Gets.of _ rfl ?_; conv => whnf)
  refine CallPS.of (by kernel_rfl) (mkAt (norm44 u.stem u.loop 0 (Nat.zero_le _) hp.s32 hp.p hp.l32) (i := 0) (j := 1) (.roB rfl rfl) (.roB rfl rfl)) rfl ?_
  rintro _ _ ⟨rfl, rfl⟩
  conv => whnf
  repeat' (refine Chk.mk (by repeat first | exact .nil | refine .cons rfl ?_) ?_; conv => whnf)
  refine CallPS.of (by kernel_rfl) (mkAt (norm44 v.stem v.loop 0 (Nat.zero_le _) hq.s32 hq.p hq.l32) (i := 2) (j := 3) (.roB rfl rfl) (.roB rfl rfl)) rfl ?_
  rintro _ _ ⟨rfl, rfl⟩
  conv => whnf
  repeat' (refine Chk.mk (by repeat first | exact .nil | refine .cons rfl ?_) ?_; conv => whnf)
  refine CallPS.of (by kernel_rfl) (written13q (nfP u.stem u.loop) (nfP v.stem v.loop) zu zv (i := 6) (j := 7) (k := 8) (l := 9) ⟨.vB rfl rfl, .vB rfl rfl⟩ ⟨.vB rfl rfl, .vB rfl rfl⟩) rfl ?_
  rintro _ _ ⟨rfl, hr | hr⟩
  all_goals conv => whnf
  all_goals
    repeat' (refine Chk.mk (by repeat first | exact .nil | refine .cons rfl ?_) ?_; conv => whnf)
  · exact .t hr
  · exact .f hr
theorem same28 (u v : Wd) (hfu : u.Fits) (hfv : v.Fits) : CallW Tryd.prog 28 [u.av 0 1, v.av 2 3] (h4 u v) fun r _ => ∃ b e, r = .tuple [.bool b, .int .i64 e] ∧ SameR u v b e := by
  refine CallW.symK (cuts := []) Tryd.func28 rfl (by kernel_rfl) ?_
  conv => whnf
  repeat' (refine Gets.of _ rfl ?_; conv => whnf)
  refine CallS.of (by kernel_rfl) (is41a u hfu (.roB rfl rfl) (.roB rfl rfl)) rfl ?_
  rintro _ _ ⟨rfl, hp | hp⟩
  all_goals conv => whnf
  all_goals
    repeat' (refine Gets.of _ rfl ?_; conv => whnf)
  · refine CallS.of (by kernel_rfl) (is41a v hfv (.roB rfl rfl) (.roB rfl rfl)) rfl ?_
    rintro _ _ ⟨rfl, hq | hq⟩
    all_goals conv => whnf
    all_goals
      repeat' (refine Gets.of _ rfl ?_; conv => whnf)
    · refine CallS.of (by kernel_rfl) ((alike51 u v hp hq).readsAt IsB.noRef [0, 1, 2, 3] rfl (.cons ⟨_, _, rfl, .roB rfl rfl⟩ (.cons ⟨_, _, rfl, .roB rfl rfl⟩ (.cons ⟨_, _, rfl, .roB rfl rfl⟩ (.cons ⟨_, _, rfl, .roB rfl rfl⟩ .nil))))) rfl ?_
      rintro _ _ ⟨rfl, hr | hr⟩
      all_goals conv => whnf
      all_goals
        skip
      · exact ⟨_, _, rfl, .inr ⟨⟨hp, hq⟩, rfl, fun _ => hr, fun _ => rfl⟩⟩
      · exact ⟨_, _, rfl, .inr ⟨⟨hp, hq⟩, rfl, fun h => (by cases h), fun h => absurd h hr⟩⟩
    · exact ⟨_, _, rfl, .inl ⟨fun h => hq h.2, rfl, rfl⟩⟩
  · exact ⟨_, _, rfl, .inl ⟨fun h => hp h.1, rfl, rfl⟩⟩
/-- A word's normal form, if it is not too long. -/
noncomputable def outS (w : Wd) : Pw × Int := if 200 < (nfP w.stem w.loop).n + (nfP w.stem w.loop).loop.length then (errP, 3) else (nfP w.stem w.loop, 0)
theorem fit52 (w : Wd) (hs : w.stem.length ≤ 4294967296) (h0 : 0 < w.loop.length) (hl : w.loop.length ≤ 4294967296) : CallW Tryd.prog 52 [w.av 0 1] (wh w.stem w.loop) (Makes w (outS w)) := by
  have z := nfP_sz hs hl
  have z1 := z.n
  have z2 := z.l
  have z3 : (nfP w.stem w.loop).full.length = w.stem.length := rfl
  unfold Makes
  refine CallW.tells ?_
  refine CallW.symRK (cuts := []) Tryd.func52 rfl (by kernel_rfl) ?_
  conv => whnf
  repeat' (refine Gets.of _ rfl ?_; conv => whnf)
  refine CallS.of (by kernel_rfl) (mkAt (normal36 w.stem w.loop 0 (Nat.zero_le _) hs h0 hl) (.roB rfl rfl) (.roB rfl rfl)) rfl ?_
  rintro _ _ ⟨rfl, rfl⟩
  simp only [List.drop_zero]
  conv => whnf
  repeat' first | ((with_reducible refine Gets.addI ?_ ?_ ?_); (· omega); (· omega); conv => whnf) | (refine Gets.of _ rfl ?_; conv => whnf) | (refine Fork.dec (fun _ => ?_) (fun _ => ?_) <;> first | (exfalso; omega) | (conv => whnf))
  all_goals unfold outS
  · rw [if_pos (by omega)]
    exact ⟨renL [0, 1, 2, 3] 6, .tuple [.agg [.nilSlice, .nilSlice], .int .i64 3], ((wh w.stem w.loop).alloc (vB [])).alloc (vB []), EmbL.litsN [0, 1, 2, 3] rfl rfl rfl rfl (.cons ⟨rfl, .inl ⟨rfl, fun h => h⟩⟩ (.cons ⟨rfl, .inl ⟨rfl, fun h => h⟩⟩ .nil)) (.cons ⟨rfl, .roI⟩ (.cons ⟨rfl, .roI⟩ (.cons ⟨rfl, .roEc⟩ (.cons ⟨rfl, .roEc⟩ .nil)))), rfl, _, ⟨rfl, rfl⟩, Tells.tup (.cons (Tells.agg (.cons (Tells.nilView rfl) (.cons (Tells.nilView rfl) .nil))) (.cons (Tells.refl _ _) .nil))⟩
  · rw [if_neg (by omega)]
    exact ⟨renL [0, 1, 4, 5] 6, .tuple [(nfP w.stem w.loop).av 2 3, .int .i64 0], ((wh w.stem w.loop).alloc (vB (nfP w.stem w.loop).full)).alloc (vB (nfP w.stem w.loop).loop), EmbL.litsN [0, 1, 4, 5] rfl rfl rfl rfl (.cons ⟨rfl, .inl ⟨rfl, fun h => h⟩⟩ (.cons ⟨rfl, .inl ⟨rfl, fun h => h⟩⟩ .nil)) (.cons ⟨rfl, .roI⟩ (.cons ⟨rfl, .roI⟩ (.cons ⟨rfl, .vS rfl⟩ (.cons ⟨rfl, .vS rfl⟩ .nil)))), rfl, _, ⟨rfl, rfl⟩, Tells.refl _ _⟩
theorem short53 (w : Wd) (hs : w.stem.length ≤ 4294967296) (h0 : 0 < w.loop.length) (hl : w.loop.length ≤ 4294967296) : CallW Tryd.prog 53 [w.av 0 1] (wh w.stem w.loop) (Makes w (outS w)) := by
  have z := nfP_sz hs hl
  have z1 := z.n
  have z2 := z.l
  have z3 : (nfP w.stem w.loop).full.length = w.stem.length := rfl
  unfold Makes
  refine CallW.tells ?_
  refine CallW.symRK (cuts := []) Tryd.func53 rfl (by kernel_rfl) ?_
  conv => whnf
  repeat' (refine Gets.of _ rfl ?_; conv => whnf)
  refine CallS.of (by kernel_rfl) (mkAt (norm44 w.stem w.loop 0 (Nat.zero_le _) hs h0 hl) (.roB rfl rfl) (.roB rfl rfl)) rfl ?_
  rintro _ _ ⟨rfl, rfl⟩
  simp only [List.drop_zero]
  conv => whnf
  repeat' first | ((with_reducible refine Gets.addI ?_ ?_ ?_); (· omega); (· omega); conv => whnf) | (refine Gets.of _ rfl ?_; conv => whnf) | (refine Fork.dec (fun _ => ?_) (fun _ => ?_) <;> first | (exfalso; omega) | (conv => whnf))
  all_goals unfold outS
  · rw [if_pos (by omega)]
    exact ⟨renL [0, 1, 2, 3] 6, .tuple [.agg [.nilSlice, .nilSlice], .int .i64 3], ((wh w.stem w.loop).alloc (vB [])).alloc (vB []), EmbL.litsN [0, 1, 2, 3] rfl rfl rfl rfl (.cons ⟨rfl, .inl ⟨rfl, fun h => h⟩⟩ (.cons ⟨rfl, .inl ⟨rfl, fun h => h⟩⟩ .nil)) (.cons ⟨rfl, .roI⟩ (.cons ⟨rfl, .roI⟩ (.cons ⟨rfl, .roEc⟩ (.cons ⟨rfl, .roEc⟩ .nil)))), rfl, _, ⟨rfl, rfl⟩, Tells.tup (.cons (Tells.agg (.cons (Tells.nilView rfl) (.cons (Tells.nilView rfl) .nil))) (.cons (Tells.refl _ _) .nil))⟩
  · rw [if_neg (by omega)]
    exact ⟨renL [0, 1, 4, 5] 6, .tuple [(nfP w.stem w.loop).av 2 3, .int .i64 0], ((wh w.stem w.loop).alloc (vB (nfP w.stem w.loop).full)).alloc (vB (nfP w.stem w.loop).loop), EmbL.litsN [0, 1, 4, 5] rfl rfl rfl rfl (.cons ⟨rfl, .inl ⟨rfl, fun h => h⟩⟩ (.cons ⟨rfl, .inl ⟨rfl, fun h => h⟩⟩ .nil)) (.cons ⟨rfl, .roI⟩ (.cons ⟨rfl, .roI⟩ (.cons ⟨rfl, .vS rfl⟩ (.cons ⟨rfl, .vS rfl⟩ .nil)))), rfl, _, ⟨rfl, rfl⟩, Tells.refl _ _⟩
end Go.Proofs.YthjemhlcojmiaaaDoor
