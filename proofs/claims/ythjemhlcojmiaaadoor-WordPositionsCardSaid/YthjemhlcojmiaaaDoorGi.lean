/- Words in a row; how many letters; arguments as words. -/
import Derived.Test.YthjemhlcojmiaaaDoorGh
-- VkG VkH VmA
set_option linter.unusedVariables false
set_option linter.unusedSimpArgs false
set_option maxRecDepth 100000
set_option maxHeartbeats 4000000
namespace Go.Proofs.YthjemhlcojmiaaaDoor
open Go Go.Vh Go.Vk Go.Proofs
/-- Words in a row. -/
def wcells (ws : List Wd) : List AVal := ws.flatMap fun w => [rI w.stem, rI w.loop]
def rWs (ws : List Wd) : AVal := .row ws.length (wcells ws)
theorem wcells_length (ws : List Wd) : (wcells ws).length = ws.length * 2 := by
  induction ws with
  | nil => rfl
  | cons w ws ih => show (_ ++ wcells ws).length = _; rw [List.length_append, ih]; simp; omega
theorem wcells_get : ∀ (ws : List Wd) (j : Nat) (h : j < ws.length), ((wcells ws).drop (j * 2)).take 2 = [rI ws[j].stem, rI ws[j].loop]
  | [], j, h => absurd h (Nat.not_lt_zero j)
  | w :: ws, 0, h => rfl
  | w :: ws, j + 1, h => by
    have := wcells_get ws j (by simpa using h)
    rw [show (j + 1) * 2 = j * 2 + 2 by omega]
    exact this
theorem fewR (ws : List Wd) (hf : ∀ w ∈ ws, w.Fits) (hn : ws.length ≤ 1000) (a : Int) (H : AHeap) : CallW Tryd.prog 8 [.int .i64 a, rWs ws] H fun v H' => H' = H ∧ IsB v (∀ w ∈ ws, (w.stem.length : Int) + w.loop.length ≤ a) := by
  refine CallW.pure ?_ rfl H
  refine CallW.symK (cuts := []) Tryd.func8 rfl (by kernel_rfl) ?_
  conv => whnf
  repeat' (refine Gets.of _ rfl ?_; conv => whnf)
  refine CodeS.loopGK (cuts := []) (σ := Nat) (fun j => [(0, .int .i64 a), (7, rWs ws), (8, .int .i64 (ws.length : Int)), (9, .int .i64 (j : Int))]) (fun _ => emptyH) (fun j => j ≤ ws.length ∧ ∀ k (h : k < ws.length), k < j → (ws[k].stem.length : Int) + ws[k].loop.length ≤ a) (fun j => ws.length - j) 0 (renL [] 0) (by kernel_rfl) ⟨Nat.zero_le _, fun k _ hk => by omega⟩ ⟨rfl, rfl, rfl, rfl, trivial⟩ (EmbL.litsN [] rfl rfl rfl rfl .nil .nil) ?_
  rintro j ⟨g1, g2⟩
  rcases Nat.lt_or_ge j ws.length with hj | hj
  · obtain ⟨b1, b2⟩ := hf _ (List.getElem_mem hj)
    have hl := wcells_length ws
    conv => whnf
    repeat' first | ((refine Gets.ixRE (es := 2) rfl rfl hj ?_); conv => whnf) | ((refine Gets.ldR (v := .agg [rI ws[j].stem, rI ws[j].loop]) rfl (by show (if j * 2 + 2 ≤ (wcells ws).length then some (AVal.agg (((wcells ws).drop (j * 2)).take 2)) else none) = _; rw [if_pos (by omega), wcells_get ws j hj]) ?_); conv => whnf) | ((with_reducible refine Gets.addI ?_ ?_ ?_); (· omega); (· omega); conv => whnf) | (refine Gets.of _ rfl ?_; conv => whnf) | (refine Fork.dec (fun _ => ?_) (fun _ => ?_) <;> first | (exfalso; omega) | (conv => whnf))
    · exact ⟨[], _, rfl, .same rfl, rfl, .f fun h => by have := h _ (List.getElem_mem hj); omega⟩
    · exact ⟨j + 1, renL [] 1, ⟨hj, fun k h hk => by
        rcases Nat.lt_or_ge k j with h1 | h1
        · exact g2 k h h1
        · obtain rfl : k = j := by omega
          omega⟩, by show ws.length - (j + 1) < _; omega, ⟨rfl, rfl, rfl, rfl, trivial⟩, EmbL.litsN [] rfl rfl rfl rfl .nil .nil⟩
  · conv => whnf
    repeat' (refine Fork.dec (fun _ => ?_) (fun _ => ?_) <;> first | (exfalso; omega) | (conv => whnf))
    exact ⟨[], _, rfl, .same rfl, rfl, .t fun w hw => by
      obtain ⟨k, hk, rfl⟩ := List.getElem_of_mem hw
      exact g2 k hk (by omega)⟩
theorem SameR.uniq {u v : Wd} {b b' : Bool} {e e' : Int} (h : SameR u v b e) (h' : SameR u v b' e') : b' = b ∧ e' = e := by
  rcases h with ⟨h1, h2, h3⟩ | ⟨h1, h2, h3⟩ <;> rcases h' with ⟨g1, g2, g3⟩ | ⟨g1, g2, g3⟩
  · exact ⟨by rw [h2, g2], by rw [h3, g3]⟩
  · exact absurd g1 h1
  · exact absurd h1 g1
  · refine ⟨?_, by rw [h2, g2]⟩
    rw [Bool.eq_iff_iff]
    exact g3.trans h3.symm
theorem isT (u : Wd) (hu : u.Sz) (e : Int) (H : AHeap) : CallW Tryd.prog 18 [u.rv, .int .i64 e, u.rv, .int .i64 e] H fun r H' => H' = H ∧ r = .bool true :=
  (isRw u u hu hu e e H).mono fun r H' h => ⟨h.1, by
    obtain ⟨_, h | h⟩ := h
    · rfl
    · exact absurd ⟨rfl, rfl⟩ h⟩
theorem errW_sz : errW.Sz := ⟨Nat.zero_le _, Nat.zero_le _⟩
theorem nf_sz {w : Wd} (h0 : 0 < w.loop.length) (hs : w.stem.length ≤ 4294967296) (hl : w.loop.length ≤ 4294967296) : (nf w).Sz := by
  obtain ⟨h1, _, h2, _⟩ := nf_lens h0
  exact ⟨by omega, by omega⟩
theorem shortW_sz {w : Wd} (h0 : 0 < w.loop.length) (hs : w.stem.length ≤ 4294967296) (hl : w.loop.length ≤ 4294967296) : (shortW w).1.Sz := by
  unfold shortW
  split
  · exact errW_sz
  · exact nf_sz h0 hs hl
theorem aheadW_sz {l : List Int} {w : Wd} (hl : l.length ≤ 1000) : (aheadW l w).1.Sz := by
  unfold aheadW
  split
  · rename_i h
    have hm := h.1.m
    exact shortW_sz h.1.p (by show (l ++ w.stem).length ≤ _; rw [List.length_append]; omega) (by show w.loop.length ≤ _; omega)
  · exact errW_sz
theorem mixW_sz {u v : Wd} {n m : Int} : (mixW u v n m).1.Sz := by
  unfold mixW
  split
  · exact errW_sz
  · split
    · rename_i h
      have a := h.1.m
      have b := h.2.m
      have h1 : u.loop.length * v.loop.length ≤ 200 * 200 := Nat.mul_le_mul (by omega) (by omega)
      have h2 : 0 < u.loop.length * v.loop.length := Nat.mul_pos h.1.p h.2.p
      exact shortW_sz (by show 0 < ((List.range _).map _).length; rw [List.length_map, List.length_range]; exact h2) (by show ((List.range _).map _).length ≤ _; rw [List.length_map, List.length_range]; omega) (by show ((List.range _).map _).length ≤ _; rw [List.length_map, List.length_range]; omega)
    · exact errW_sz
theorem mapW_sz {w : Wd} (hw : w.Ok 6) (g : Int → Int) : (nf (mapW g w)).Sz := by
  have hm := hw.m
  exact nf_sz (by show 0 < (w.loop.map g).length; rw [List.length_map]; exact hw.p) (by show (w.stem.map g).length ≤ _; rw [List.length_map]; omega) (by show (w.loop.map g).length ≤ _; rw [List.length_map]; omega)
theorem splitW_sz {w : Wd} {n : Int} : (splitW w n).1.Sz ∧ (splitW w n).2.1.Sz := by
  unfold splitW
  split
  · rename_i h
    split
    · exact ⟨errW_sz, errW_sz⟩
    · exact ⟨mapW_sz h _, mapW_sz h _⟩
  · exact ⟨errW_sz, errW_sz⟩
theorem rshape_int {n : Nat} {avs : List AVal} (h : RShape Tryd.prog n 3 avs) : ∃ m, argOf Tryd.prog 3 avs = .int .i64 m ∧ -9223372036854775808 ≤ m ∧ m ≤ 9223372036854775807 := by
  obtain ⟨m, rfl, hm⟩ := h.int Tryd.underlying3
  exact ⟨m, by unfold argOf; rw [Tryd.underlying3]; rfl, hm⟩
theorem rshape_ints {n : Nat} {avs : List AVal} (h : RShape Tryd.prog n 22 avs) : ∃ l, avs = [rI l] ∧ (∀ x ∈ l, -9223372036854775808 ≤ x ∧ x ≤ 9223372036854775807) ∧ l.length ≤ 1152921504606846976 := h.ints Tryd.underlying22 Tryd.underlying3 (by kernel_rfl) (by kernel_rfl)
theorem rshape_word {n : Nat} {avs : List AVal} (h : RShape Tryd.prog n 24 avs) : ∃ w : Wd, argOf Tryd.prog 24 avs = w.rv ∧ w.Fits := by
  have e0 : argOf Tryd.prog 24 avs = .agg avs := by unfold argOf; rw [Tryd.underlying24]
  rw [e0]
  cases n with
  | zero => exact h.elim
  | succ n =>
    unfold RShape at h
    rw [Tryd.underlying24] at h
    obtain ⟨hl, hf⟩ := h
    have hc : Tryd.prog.cellsOf 24 = 2 := by kernel_rfl
    have c22 : Tryd.prog.cellsOf 22 = 1 := by kernel_rfl
    rw [hc] at hl
    rcases avs with _ | ⟨x0, _ | ⟨x1, _ | ⟨x2, avs⟩⟩⟩
    case cons.cons.nil =>
      have g0 : RShape Tryd.prog n 22 ((([x0, x1] : List AVal).drop 0).take (Tryd.prog.cellsOf 22)) := hf 0 _ rfl
      have g1 : RShape Tryd.prog n 22 ((([x0, x1] : List AVal).drop 1).take (Tryd.prog.cellsOf 22)) := hf 1 _ rfl
      rw [c22] at g0 g1
      obtain ⟨stem, e1, _, b1⟩ := rshape_ints g0
      obtain ⟨loop, e2, _, b2⟩ := rshape_ints g1
      cases e1; cases e2
      exact ⟨⟨stem, loop⟩, rfl, ⟨b1, b2⟩⟩
    all_goals (simp only [List.length_cons, List.length_nil] at hl; omega)
end Go.Proofs.YthjemhlcojmiaaaDoor

/- What holds of the letters of words that are made of words (plain). -/
-- VkG VkH VmA
set_option linter.unusedVariables false
set_option linter.unusedSimpArgs false
set_option maxRecDepth 100000
set_option maxHeartbeats 4000000
namespace Go.Proofs.YthjemhlcojmiaaaDoor
open Go Go.Vh Go.Vk Go.Proofs
theorem Wd.Ok.fits {w : Wd} {n : Int} (h : w.Ok n) : w.Fits := by have := h.m; exact ⟨by omega, by omega⟩
/-- A word is valid if its lengths and all of its letters are. -/
theorem ok_of_lt {w : Wd} (h0 : 0 < w.loop.length) (hm : w.stem.length + w.loop.length ≤ 200) (h : ∀ k, inL 6 (w.lt k)) : w.Ok 6 := by
  refine ⟨by decide, by decide, h0, hm, fun x hx => ?_, fun x hx => ?_⟩
  · obtain ⟨j, hj, rfl⟩ := mem_getD hx
    have := h j
    unfold Wd.lt at this
    rwa [if_pos hj] at this
  · obtain ⟨j, hj, rfl⟩ := mem_getD hx
    have := h (w.stem.length + j)
    unfold Wd.lt at this
    rw [if_neg (by omega), show w.stem.length + j - w.stem.length = j by omega, Nat.mod_eq_of_lt hj] at this
    exact this
theorem nf_ok {w : Wd} (h0 : 0 < w.loop.length) (hm : w.stem.length + w.loop.length ≤ 200) (h : ∀ k, inL 6 (w.lt k)) : (nf w).Ok 6 := by
  obtain ⟨h1, _, h2, h3⟩ := nf_lens h0
  exact ok_of_lt h3 (by omega) fun k => by rw [nf_lt h0]; exact h k
theorem getD_appL {l m : List Int} {i : Nat} (h : i < l.length) : (l ++ m).getD i 0 = l.getD i 0 := by
  rw [List.getD_eq_getElem?_getD, List.getD_eq_getElem?_getD, List.getElem?_append_left h]
theorem getD_appR {l m : List Int} {i : Nat} (h : l.length ≤ i) : (l ++ m).getD i 0 = m.getD (i - l.length) 0 := by
  rw [List.getD_eq_getElem?_getD, List.getD_eq_getElem?_getD, List.getElem?_append_right h]
theorem rep_getD (l : List Int) : ∀ (k i : Nat), i < k * l.length → (rep l k).getD i 0 = l.getD (i % l.length) 0
  | 0, i, h => by omega
  | k + 1, i, h => by
    have hl : 0 < l.length := by
      rcases Nat.eq_zero_or_pos l.length with h0 | h0
      · rw [h0, Nat.mul_zero] at h; omega
      · exact h0
    have e : rep l (k + 1) = rep l k ++ l := rfl
    rw [Nat.succ_mul] at h
    rw [e]
    rcases Nat.lt_or_ge i (k * l.length) with h1 | h1
    · rw [getD_appL (by rw [rep_length]; exact h1)]
      exact rep_getD l k i h1
    · rw [getD_appR (by rw [rep_length]; exact h1), rep_length]
      have : i = (i - k * l.length) + l.length * k := by rw [Nat.mul_comm l.length k]; omega
      rw [this, Nat.add_mul_mod_self_left, Nat.mod_eq_of_lt (by omega)]
      congr 1
      rw [Nat.mul_comm l.length k]; omega
theorem rep_lt {w : Wd} (h0 : 0 < w.loop.length) {k : Nat} (hk : 0 < k) (j : Nat) : (⟨w.stem, rep w.loop k⟩ : Wd).lt j = w.lt j := by
  unfold Wd.lt
  dsimp only
  split
  · rfl
  · rw [rep_length, rep_getD _ _ _ (Nat.mod_lt _ (Nat.mul_pos hk h0)), Nat.mod_mul_left_mod]
theorem map_lt {w : Wd} (h0 : 0 < w.loop.length) (g : Int → Int) (j : Nat) : (mapW g w).lt j = g (w.lt j) := by
  have key : ∀ (l : List Int) i, i < l.length → (l.map g).getD i 0 = g (l.getD i 0) := fun l i h => by
    rw [List.getD_eq_getElem?_getD, List.getD_eq_getElem?_getD, List.getElem?_map, List.getElem?_eq_getElem h]; rfl
  unfold Wd.lt mapW
  dsimp only
  rw [List.length_map, List.length_map]
  split
  · exact key _ _ (by assumption)
  · exact key _ _ (Nat.mod_lt _ h0)
theorem drop_lt (s l : List Int) {k : Nat} (hk : k ≤ s.length) (j : Nat) : (⟨s.drop k, l⟩ : Wd).lt j = (⟨s, l⟩ : Wd).lt (k + j) := by
  unfold Wd.lt
  dsimp only
  rw [List.length_drop]
  by_cases h : j < s.length - k
  · rw [if_pos h, if_pos (by omega)]
    rw [List.getD_eq_getElem?_getD, List.getD_eq_getElem?_getD, List.getElem?_drop]
  · rw [if_neg h, if_neg (by omega), show j - (s.length - k) = k + j - s.length by omega]
theorem turn_getD (l : List Int) {r i : Nat} (hr : r < l.length) (hi : i < l.length) : (turn l r).getD i 0 = l.getD ((r + i) % l.length) 0 := by
  unfold turn
  rcases Nat.lt_or_ge i (l.length - r) with h | h
  · rw [getD_appL (by rw [List.length_drop]; exact h), Nat.mod_eq_of_lt (by omega), List.getD_eq_getElem?_getD, List.getD_eq_getElem?_getD, List.getElem?_drop]
  · rw [getD_appR (by rw [List.length_drop]; exact h), List.length_drop]
    have : (r + i) % l.length = i - (l.length - r) := by
      rw [show r + i = (i - (l.length - r)) + l.length by omega, Nat.add_mod_right, Nat.mod_eq_of_lt (by omega)]
    rw [this, List.getD_eq_getElem?_getD, List.getD_eq_getElem?_getD, List.getElem?_take, if_pos (by omega)]
theorem turn_lt {s l : List Int} (h0 : 0 < l.length) {k : Nat} (hk : s.length < k) (j : Nat) : (⟨[], turn l ((k - s.length) % l.length)⟩ : Wd).lt j = (⟨s, l⟩ : Wd).lt (k + j) := by
  unfold Wd.lt
  dsimp only
  rw [if_neg (by simp), if_neg (by omega), turn_length, turn_getD l (Nat.mod_lt _ h0) (Nat.mod_lt _ h0), ← Nat.add_mod]
  congr 2
  show k - s.length + (j - 0) = _
  omega
theorem rest_lt {w : Wd} (h0 : 0 < w.loop.length) (k j : Nat) : (restP w k).wd.lt j = w.lt (k + j) := by
  unfold restP
  split
  · rename_i h
    rw [nfP_wd, nf_lt (w := ⟨w.stem.drop k, w.loop⟩) h0, drop_lt _ _ h]
  · rename_i h
    rw [nfP_wd, nf_lt (w := ⟨[], turn w.loop ((k - w.stem.length) % w.loop.length)⟩) (by show 0 < (turn _ _).length; rw [turn_length]; exact h0), turn_lt h0 (by omega)]
theorem rest_ok {w : Wd} (h : w.Ok 6) (k : Nat) : (restP w k).wd.Ok 6 := by
  have hm := h.m
  have hl : ∀ j, inL 6 ((restP w k).wd.lt j) := fun j => by rw [rest_lt h.p]; exact lt_inL h _
  unfold restP at hl ⊢
  split at hl
  · rename_i hk
    rw [if_pos hk]
    rw [nfP_wd] at hl ⊢
    obtain ⟨h1, _, h2, h3⟩ := nf_lens (w := ⟨w.stem.drop k, w.loop⟩) h.p
    have h1 : (nf ⟨w.stem.drop k, w.loop⟩).stem.length ≤ (w.stem.drop k).length := h1
    have h2 : (nf ⟨w.stem.drop k, w.loop⟩).loop.length ≤ w.loop.length := h2
    rw [List.length_drop] at h1
    exact ok_of_lt h3 (by omega) hl
  · rename_i hk
    rw [if_neg hk]
    rw [nfP_wd] at hl ⊢
    obtain ⟨h1, _, h2, h3⟩ := nf_lens (w := ⟨[], turn w.loop ((k - w.stem.length) % w.loop.length)⟩) (by show 0 < (turn _ _).length; rw [turn_length]; exact h.p)
    have h1 : (nf ⟨[], turn w.loop ((k - w.stem.length) % w.loop.length)⟩).stem.length ≤ 0 := h1
    have h2 : (nf ⟨[], turn w.loop ((k - w.stem.length) % w.loop.length)⟩).loop.length ≤ (turn w.loop ((k - w.stem.length) % w.loop.length)).length := h2
    rw [turn_length] at h2
    exact ok_of_lt h3 (by omega) hl
theorem map_ok {w : Wd} (h : w.Ok 6) {g : Int → Int} (hg : ∀ x, 0 ≤ x → x < 64 → 0 ≤ g x ∧ g x < 64) : (nf (mapW g w)).Ok 6 ∧ ∀ j, (nf (mapW g w)).lt j = g (w.lt j) := by
  have hl : 0 < (mapW g w).loop.length := by show 0 < (w.loop.map g).length; rw [List.length_map]; exact h.p
  refine ⟨nf_ok hl (by show (w.stem.map g).length + (w.loop.map g).length ≤ _; rw [List.length_map, List.length_map]; exact h.m) fun k => ?_, fun j => by rw [nf_lt hl, map_lt h.p]⟩
  rw [map_lt h.p]
  have := inL_lt (lt_inL h k) (by decide) (by decide)
  exact hg _ this.1 this.2
theorem modF_in {n : Nat} (hn : n ≤ 6) (x : Int) (h0 : 0 ≤ x) (h1 : x < 64) : 0 ≤ modF n x ∧ modF n x < 64 := by
  have hp : (2 ^ n : Nat) ≤ 64 := Nat.le_trans (Nat.pow_le_pow_right (by decide) hn) (by decide)
  have hq : 0 < 2 ^ n := Nat.two_pow_pos n
  unfold modF
  generalize 2 ^ n = q at hp hq
  have h2 := Int.emod_nonneg x (b := (q : Int)) (by omega)
  have h3 := Int.emod_lt_of_pos x (b := (q : Int)) (by omega)
  omega
theorem divF_in {n : Nat} (hn : n ≤ 6) (x : Int) (h0 : 0 ≤ x) (h1 : x < 64) : 0 ≤ divF n x ∧ divF n x < 64 := by
  have hq : 0 < 2 ^ n := Nat.two_pow_pos n
  unfold divF
  generalize 2 ^ n = q at hq
  have h2 := Int.ediv_nonneg h0 (b := (q : Int)) (by omega)
  have h3 := Int.ediv_le_self (b := (q : Int)) h0
  omega
/-- Mix, once it answers with a word. -/
theorem mix_ok {u v : Wd} {n m : Int} (h : (mixW u v n m).2 = 0) (hnm : n + m = 6) : 0 ≤ n ∧ n ≤ 6 ∧ u.Ok n ∧ v.Ok m ∧ (mixW u v n m).1.Ok 6 ∧ ∀ j, (mixW u v n m).1.lt j = u.lt j + v.lt j * ((2 ^ n.toNat : Nat) : Int) := by
  unfold mixW at h ⊢
  split at h
  · cases h
  rename_i hr
  split at h
  · rename_i ho
    rw [if_neg hr, if_pos ho]
    have hpu := ho.1.p
    have hpv := ho.2.p
    have hL : 0 < u.loop.length * v.loop.length := Nat.mul_pos hpu hpv
    have hlt := fun k => mixWd_lt (u := u) (v := v) (n := n.toNat) hpu hpv hL (Nat.dvd_mul_right _ _) (Nat.dvd_mul_left _ _) k
    have hlen : 0 < (mixWd u v n.toNat (u.loop.length * v.loop.length)).loop.length := by show 0 < ((List.range _).map _).length; rw [List.length_map, List.length_range]; exact hL
    unfold shortW at h ⊢
    split at h
    · cases h
    rename_i hs
    rw [if_neg hs]
    refine ⟨by omega, by omega, ho.1, ho.2, ok_of_lt (nf_lens hlen).2.2.2 (by dsimp only; omega) fun k => ?_, fun j => by dsimp only; rw [nf_lt hlen, hlt]; rfl⟩
    dsimp only
    rw [nf_lt hlen, hlt]
    have a := lt_inL ho.1 k
    have b := lt_inL ho.2 k
    unfold mixF inL at *
    obtain ⟨a0, a1⟩ := a
    obtain ⟨b0, b1⟩ := b
    obtain ⟨p, rfl⟩ : ∃ p : Nat, n = (p : Int) := ⟨n.toNat, by omega⟩
    obtain ⟨q, rfl⟩ : ∃ q : Nat, m = (q : Int) := ⟨m.toNat, by omega⟩
    rw [Int.toNat_natCast] at a1 b1 ⊢
    have hpq : (2 ^ p : Nat) * (2 ^ q : Nat) = 64 := by rw [← Nat.pow_add, show p + q = 6 by omega]
    show 0 ≤ _ ∧ _ < ((2 ^ (6 : Int).toNat : Nat) : Int)
    rw [show (2 ^ (6 : Int).toNat : Nat) = 64 from rfl]
    generalize 2 ^ p = x at a1 hpq ⊢
    generalize 2 ^ q = y at b1 hpq
    have h1 : v.lt k * (x : Int) ≤ ((y : Int) - 1) * (x : Int) := Int.mul_le_mul_of_nonneg_right (by omega) (by omega)
    have h2 : ((y : Int) - 1) * (x : Int) = 64 - x := by
      have : (x : Int) * (y : Int) = 64 := by exact_mod_cast hpq
      rw [Int.sub_mul, Int.mul_comm, this, Int.one_mul]
    have h3 : 0 ≤ v.lt k * (x : Int) := Int.mul_nonneg b0 (by omega)
    omega
  · cases h
end Go.Proofs.YthjemhlcojmiaaaDoor

/- WordPositions: the law. -/
-- VkG VkH VmA
set_option linter.unusedVariables false
set_option linter.unusedSimpArgs false
set_option maxRecDepth 100000
set_option maxHeartbeats 4000000
namespace Go.Proofs.YthjemhlcojmiaaaDoor
open Go Go.Vh Go.Vk Go.Proofs
theorem atT {w : Wd} (hw : w.Ok 6) (k : Nat) (hk : k ≤ 4398046511104) (H : AHeap) : CallW Tryd.prog 19 [w.rv, .int .i64 (k : Int)] H fun v H' => H' = H ∧ v = .tuple [.int .i64 (w.lt k), .int .i64 0] := by
  have h := AtR w hw.fits k (by omega) H
  have e : outA w k = (w.lt k, 0) := by
    unfold outA; rw [if_pos hw, if_neg (by omega), Int.toNat_natCast]
  rw [e] at h
  exact h
theorem atF {w : Wd} (hf : w.Fits) (hw : ¬ w.Ok 6) (k : Nat) (hk : k ≤ 4398046511104) (H : AHeap) : CallW Tryd.prog 19 [w.rv, .int .i64 (k : Int)] H fun v H' => H' = H ∧ v = .tuple [.int .i64 0, .int .i64 1] := by
  have h := AtR w hf k (by omega) H
  have e : outA w k = (0, 1) := if_neg hw
  rw [e] at h
  exact h
/-- The closure: a word that is valid, and has the letter that is wanted. -/
theorem sameT {u : Wd} (hu : u.Ok 6) (k : Nat) (hk : k ≤ 4398046511104) (want : Int) (h : u.lt k = want) (H : AHeap) : CallW Tryd.prog 35 [u.rv, .int .i64 0, .int .i64 (k : Int), .int .i64 want] H fun v H' => H' = H ∧ v = .bool true := by
  subst h
  refine CallW.pure ?_ rfl H
  refine CallW.symK (cuts := []) Tryd.func35 rfl (by kernel_rfl) ?_
  conv => whnf
  repeat' (refine Gets.of _ rfl ?_; conv => whnf)
  refine CallS.of (by kernel_rfl) (atT hu k hk _) rfl ?_
  rintro _ _ ⟨rfl, rfl⟩
  conv => whnf
  repeat' first | (refine Fork.yesR rfl ?_; conv => whnf) | (refine Fork.dec (fun _ => ?_) (fun _ => ?_) <;> first | (exfalso; omega) | (conv => whnf))
  all_goals first | exact ⟨[], _, rfl, .same rfl, rfl, rfl⟩ | (rename_i h; exact absurd rfl h)
theorem normT {w : Wd} (hw : w.Ok 6) (H : AHeap) : CallW Tryd.prog 10 [w.rv] H fun v H' => H' = H ∧ v = .tuple [(nf w).rv, .int .i64 0] := by
  have h := normR w hw.fits H
  have e : normW w = (nf w, 0) := if_pos hw
  rw [e] at h
  exact h
theorem fromT {w : Wd} (hw : w.Ok 6) (k : Nat) (hk : k ≤ 4398046511104) (H : AHeap) : CallW Tryd.prog 22 [w.rv, .int .i64 (k : Int)] H fun v H' => H' = H ∧ v = .tuple [(restP w k).wd.rv, .int .i64 0] := by
  have h := fromR w hw.fits k (by omega) H
  have e : outF w k = (restP w k, 0) := by
    unfold outF; rw [if_pos hw, if_neg (by omega), Int.toNat_natCast]
  rw [e] at h
  exact h
theorem ok_mono {w : Wd} {n : Int} (h : w.Ok n) (h6 : n ≤ 6) : w.Ok 6 := by
  have hp : ∀ x, inL n x → inL 6 x := fun x hx => by
    have := inL_lt hx h.a h6
    exact ⟨this.1, by show x < ((2 ^ (6 : Int).toNat : Nat) : Int); rw [show (2 ^ (6 : Int).toNat : Nat) = 64 from rfl]; exact this.2⟩
  exact ⟨by decide, by decide, h.p, h.m, fun x hx => hp x (h.s x hx), fun x hx => hp x (h.l x hx)⟩
theorem wrap_in (x : Int) : -9223372036854775808 ≤ IntKind.wrap .i64 x ∧ IntKind.wrap .i64 x ≤ 9223372036854775807 := by
  simp only [IntKind.wrap, IntKind.bits, IntKind.signed, Bool.true_and, decide_eq_true_eq, show (2 : Int) ^ (64 - 1) = 9223372036854775808 from rfl, show (2 : Int) ^ 64 = 18446744073709551616 from rfl]
  split <;> omega
theorem nf_ok6 {w : Wd} (h : w.Ok 6) : (nf w).Ok 6 := nf_ok h.p h.m (lt_inL h)
theorem rep_ok {w : Wd} (h : w.Ok 6) {k : Nat} (hk : 0 < k) (hm : w.stem.length + k * w.loop.length ≤ 200) : (⟨w.stem, rep w.loop k⟩ : Wd).Ok 6 := by
  have := Nat.mul_pos hk h.p
  exact ok_of_lt (by show 0 < (rep _ _).length; rw [rep_length]; exact this) (by show w.stem.length + (rep _ _).length ≤ _; rw [rep_length]; exact hm) fun j => by rw [rep_lt h.p hk]; exact lt_inL h j
theorem splitT {w : Wd} (hw : w.Ok 6) (n : Nat) (hn : n ≤ 6) (H : AHeap) : CallW Tryd.prog 33 [w.rv, .int .i64 (n : Int)] H fun r H' => H' = H ∧ r = .tuple [(nf (mapW (modF n) w)).rv, (nf (mapW (divF n) w)).rv, .int .i64 0] := by
  have h := splitR w hw.fits n (by omega) H
  have e : splitW w n = (nf (mapW (modF n) w), nf (mapW (divF n) w), 0) := by
    unfold splitW; rw [if_pos hw, if_neg (by omega), Int.toNat_natCast]
  rw [e] at h
  exact h
theorem splitE {w : Wd} (hw : w.Ok 6) (n : Int) (hb : n < 0 ∨ 6 < n) (hn : -9223372036854775808 ≤ n ∧ n ≤ 9223372036854775807) (H : AHeap) : CallW Tryd.prog 33 [w.rv, .int .i64 n] H fun r H' => H' = H ∧ r = .tuple [errW.rv, errW.rv, .int .i64 6] := by
  have h := splitR w hw.fits n hn H
  have e : splitW w n = (errW, errW, 6) := by
    unfold splitW; rw [if_pos hw, if_pos hb]
  rw [e] at h
  exact h
theorem mixE (w v : Wd) (hw : w.Fits) (hv : v.Fits) (n m : Int) (hb : n < 0 ∨ 6 < n) (hn : -9223372036854775808 ≤ n ∧ n ≤ 9223372036854775807) (hm : -9223372036854775808 ≤ m ∧ m ≤ 9223372036854775807) (H : AHeap) : CallW Tryd.prog 31 [w.rv, v.rv, .int .i64 n, .int .i64 m] H fun r H' => H' = H ∧ r = .tuple [errW.rv, .int .i64 6] := by
  have h := mixR w v n m hw hv hn hm H
  have e : mixW w v n m = (errW, 6) := by
    unfold mixW; rw [if_pos (by omega)]
  rw [e] at h
  exact h
theorem law7c (w v : Wd) (hw : w.Fits) (hv : v.Fits) (n k j : Int) (hn : -9223372036854775808 ≤ n ∧ n ≤ 9223372036854775807) (hk : -9223372036854775808 ≤ k ∧ k ≤ 9223372036854775807) (hj : -9223372036854775808 ≤ j ∧ j ≤ 9223372036854775807) : CallW Tryd.prog 7 [w.rv, v.rv, .int .i64 n, .int .i64 k, .int .i64 j] emptyH fun r _ => r = .bool true := by
  refine CallW.symK (cuts := []) Tryd.func7 rfl (by kernel_rfl) ?_
  conv => whnf
  repeat' (refine Gets.of _ rfl ?_; conv => whnf)
  refine CallS.of (by kernel_rfl) ((fewR [w, v] (by rintro x hx; rcases List.mem_cons.1 hx with rfl | hx; exact hw; rcases List.mem_cons.1 hx with rfl | hx; exact hv; cases hx) (by simp) 60 _).argsF [2] rfl (.keep (.frz (.slice (es := 2) (cs := wcells [w, v]) rfl rfl (Nat.le_refl 4) (.same rfl)) .nil))) rfl ?_
  rintro _ _ ⟨rfl, hq | hq⟩
  all_goals conv => whnf
  by_cases hjk : 0 ≤ j ∧ j ≤ 1099511627776 ∧ 0 ≤ k ∧ k ≤ 1099511627776
  rotate_left
  all_goals
    repeat' first | (refine Gets.of _ rfl ?_; conv => whnf) | (refine Fork.dec (fun _ => ?_) (fun _ => ?_) <;> first | (exfalso; omega) | (conv => whnf))
  any_goals
    refine CallS.of (by kernel_rfl) (awake9 _) rfl ?_
    rintro _ _ ⟨rfl, rfl⟩
    conv => whnf
    skip
  obtain ⟨j, rfl⟩ : ∃ j' : Nat, j = (j' : Int) := ⟨j.toNat, by omega⟩
  obtain ⟨k, rfl⟩ : ∃ k' : Nat, k = (k' : Int) := ⟨k.toNat, by omega⟩
  by_cases hp : w.Ok 6
  rotate_left
  · refine CallS.of (by kernel_rfl) (atF hw hp j (by omega) _) rfl ?_
    rintro _ _ ⟨rfl, rfl⟩
    conv => whnf
    repeat' (refine Fork.yesR rfl ?_; conv => whnf)
    refine CallS.of (by kernel_rfl) (awake9 _) rfl ?_
    rintro _ _ ⟨rfl, rfl⟩
    conv => whnf
    skip
  have hx := inL_lt (lt_inL hp j) (by decide) (by decide)
  refine CallS.of (by kernel_rfl) (atT hp j (by omega) _) rfl ?_
  rintro _ _ ⟨rfl, rfl⟩
  conv => whnf
  repeat' first | (refine Gets.of _ rfl ?_; conv => whnf) | (refine Fork.noR rfl ?_; conv => whnf)
  refine CallS.of (by kernel_rfl) (normT hp _) rfl ?_
  rintro _ _ ⟨rfl, rfl⟩
  conv => whnf
  repeat' (refine Gets.of _ rfl ?_; conv => whnf)
  refine CallS.of (by kernel_rfl) (sameT (nf_ok6 hp) j (by omega) (w.lt j) (nf_lt hp.p j) _) rfl ?_
  rintro _ _ ⟨rfl, rfl⟩
  conv => whnf
  repeat' first | ((with_reducible refine Gets.remN ?_ ?_ ?_); (· omega); (· omega); conv => whnf) | ((with_reducible refine Gets.addI ?_ ?_ ?_); (· omega); (· omega); conv => whnf) | (refine Gets.of _ rfl ?_; conv => whnf)
  obtain ⟨c, hc⟩ : ∃ c : Nat, 1 + (k : Int) % 3 = (c : Int) := ⟨(1 + (k : Int) % 3).toNat, by omega⟩
  rw [hc]
  have hc1 : 1 ≤ c := by omega
  have hlo : ∃ b g, (outK w (c : Int)) = (b, g) ∧ ((g = 0 ∧ b.wd.Ok 6 ∧ b.wd.lt j = w.lt j) ∨ g = 3) := by
    unfold outK
    rw [if_pos hp, if_neg (by omega)]
    split
    · exact ⟨_, _, rfl, .inr rfl⟩
    · rename_i h
      refine ⟨_, _, rfl, .inl ⟨rfl, ?_⟩⟩
      rw [Int.toNat_natCast]
      have e : (⟨w.stem, w.stem.length, rep w.loop c⟩ : Pw).wd = ⟨w.stem, rep w.loop c⟩ := by show Wd.mk _ _ = _; rw [List.take_length]
      rw [e]
      exact ⟨rep_ok hp hc1 (by have : (c : Int) * (w.loop.length : Int) = ((c * w.loop.length : Nat) : Int) := rfl; omega), rep_lt hp.p hc1 j⟩
  obtain ⟨b, g, hbg, hlo⟩ := hlo
  have hL := fun H => loopsR w hp.fits (c : Int) (by omega) (by omega) H
  rw [hbg] at hL
  dsimp only at hL
  refine CallS.of (by kernel_rfl) (hL _) rfl ?_
  rintro _ _ ⟨rfl, rfl⟩
  have hsum : ((k : Int) + (j : Int)) = ((k + j : Nat) : Int) := rfl
  rcases hlo with ⟨rfl, hbo, hbl⟩ | rfl
  rotate_left
  all_goals
    conv => whnf
    repeat' first | (refine Gets.of _ rfl ?_; conv => whnf) | (refine Fork.yesR rfl ?_; conv => whnf) | (refine Fork.noR rfl ?_; conv => whnf)
  any_goals
    refine CallS.of (by kernel_rfl) (sameT hbo j (by omega) (w.lt j) hbl _) rfl ?_
    rintro _ _ ⟨rfl, rfl⟩
    conv => whnf
    repeat' (refine Gets.of _ rfl ?_; conv => whnf)
  all_goals
    refine CallS.of (by kernel_rfl) (fromT hp k (by omega) _) rfl ?_
    rintro _ _ ⟨rfl, rfl⟩
    conv => whnf
    repeat' first | ((with_reducible refine Gets.addI ?_ ?_ ?_); (· omega); (· omega); conv => whnf) | (refine Gets.of _ rfl ?_; conv => whnf)
    rw [hsum]
    refine CallS.of (by kernel_rfl) (atT hp (k + j) (by omega) _) rfl ?_
    rintro _ _ ⟨rfl, rfl⟩
    conv => whnf
    repeat' first | (refine Gets.of _ rfl ?_; conv => whnf) | (refine Fork.noR rfl ?_; conv => whnf)
    refine CallS.of (by kernel_rfl) (sameT (rest_ok hp k) j (by omega) (w.lt (k + j)) (rest_lt hp.p k j) _) rfl ?_
    rintro _ _ ⟨rfl, rfl⟩
    conv => whnf
    repeat' (refine Gets.of _ rfl ?_; conv => whnf)
  all_goals
    by_cases hb : n < 0 ∨ 6 < n
    · refine CallS.of (by kernel_rfl) (splitE hp n hb hn _) rfl ?_
      rintro _ _ ⟨rfl, rfl⟩
      conv => whnf
      repeat' (refine Gets.of _ rfl ?_; conv => whnf)
      refine CodeS.drawP (by kernel_rfl) (by kernel_rfl) ?_
      conv => whnf
      repeat' first | (refine Gets.of _ rfl ?_; conv => whnf) | (refine Fork.noR rfl ?_; conv => whnf)
      all_goals
        refine CallS.of (by kernel_rfl) (mixE w v hw hv n _ hb hn (by first | exact wrap_in _ | omega) _) rfl ?_
        rintro _ _ ⟨rfl, rfl⟩
        conv => whnf
        repeat' first | (refine Gets.of _ rfl ?_; conv => whnf) | (refine Fork.noR rfl ?_; conv => whnf)
        refine CallS.of (by kernel_rfl) (awake9 _) rfl ?_
        rintro _ _ ⟨rfl, rfl⟩
        conv => whnf
        skip
    · obtain ⟨n, rfl⟩ : ∃ n' : Nat, n = (n' : Int) := ⟨n.toNat, by omega⟩
      have hn6 : n ≤ 6 := by omega
      have hM := map_ok hp (modF_in hn6)
      have hD := map_ok hp (divF_in hn6)
      have hq0 : 0 < 2 ^ n := Nat.two_pow_pos n
      obtain ⟨M, E, hME⟩ : ∃ M E, mixW w v n (6 - (n : Int)) = (M, E) := ⟨_, _, rfl⟩
      have hmx := fun H => mixR w v n (6 - (n : Int)) hw hv hn (by omega) H
      have hmo := mix_ok (u := w) (v := v) (n := n) (m := 6 - (n : Int))
      rw [hME] at hmx hmo
      dsimp only at hmx hmo
      refine CallS.of (by kernel_rfl) (splitT hp n hn6 _) rfl ?_
      rintro _ _ ⟨rfl, rfl⟩
      conv => whnf
      repeat' (refine Gets.of _ rfl ?_; conv => whnf)
      refine CodeS.drawP (by kernel_rfl) (by kernel_rfl) ?_
      conv => whnf
      repeat' first | ((refine Gets.shlN (by omega) ?_); conv => whnf) | ((refine Gets.shrI hx.1 (by omega) ?_); conv => whnf) | ((refine CallV.of (by kernel_rfl) (sameT hM.1 j (by omega) _ (hM.2 j) _) rfl ?_); conv => whnf) | ((refine CallV.of (by kernel_rfl) (sameT hD.1 j (by omega) _ (hD.2 j) _) rfl ?_); conv => whnf) | ((with_reducible refine Gets.remN ?_ ?_ ?_); (· omega); (· omega); conv => whnf) | ((with_reducible refine Gets.subI ?_ ?_ ?_); (· omega); (· omega); conv => whnf) | (refine Gets.of _ rfl ?_; conv => whnf) | (refine Fork.yesR rfl ?_; conv => whnf)
      refine CallS.of (by kernel_rfl) (hmx _) rfl ?_
      rintro _ _ ⟨rfl, rfl⟩
      by_cases hE : E = 0
      · subst hE
        obtain ⟨_, _, _, hvo, hMo, hMl⟩ := hmo rfl (by omega)
        have hvo6 := ok_mono hvo (by omega)
        have hy := inL_lt (lt_inL hvo6 j) (by decide) (by decide)
        rw [Int.toNat_natCast] at hMl
        have hbd := mixF_le (u := w) (v := v) (n := n) (m := 6 - (n : Int)) (by assumption) hvo (by omega) (by omega) (by omega) j
        conv => whnf
        repeat' first | (refine Gets.of _ rfl ?_; conv => whnf) | (refine Fork.yesR rfl ?_; conv => whnf)
        refine CallS.of (by kernel_rfl) (atT hvo6 j (by omega) _) rfl ?_
        rintro _ _ ⟨rfl, rfl⟩
        conv => whnf
        skip
        refine CodeS.drawP (by kernel_rfl) (by kernel_rfl) ?_
        conv => whnf
        repeat' first | ((refine Gets.shlM hn6 hy.1 hy.2 ?_); conv => whnf) | ((refine CallV.of (by kernel_rfl) (sameT hMo j (by omega) _ (hMl j) _) rfl ?_); conv => whnf) | ((with_reducible refine Gets.addI ?_ ?_ ?_); (· omega); (· omega); conv => whnf) | (refine Gets.of _ rfl ?_; conv => whnf) | (refine Fork.noR rfl ?_; conv => whnf)
        refine CallS.of (by kernel_rfl) (awake9 _) rfl ?_
        rintro _ _ ⟨rfl, rfl⟩
        conv => whnf
        skip
      · conv => whnf
        repeat' first | (refine Gets.of _ rfl ?_; conv => whnf) | (refine Fork.dec (fun _ => ?_) (fun _ => ?_) <;> first | (exfalso; omega) | (conv => whnf))
        refine CallS.of (by kernel_rfl) (awake9 _) rfl ?_
        rintro _ _ ⟨rfl, rfl⟩
        conv => whnf
        skip
theorem law7 : ∀ (avs0 avs1 avs2 avs3 avs4 : List AVal), RShape Tryd.prog 4 24 avs0 → RShape Tryd.prog 4 24 avs1 → RShape Tryd.prog 4 3 avs2 → RShape Tryd.prog 4 3 avs3 → RShape Tryd.prog 4 3 avs4 → CallW Tryd.prog 7 [argOf Tryd.prog 24 avs0, argOf Tryd.prog 24 avs1, argOf Tryd.prog 3 avs2, argOf Tryd.prog 3 avs3, argOf Tryd.prog 3 avs4] emptyH fun v _ => v = .bool true := by
  intro avs0 avs1 avs2 avs3 avs4 h0 h1 h2 h3 h4
  obtain ⟨a, e0, ha⟩ := rshape_word h0
  obtain ⟨b, e1, hb⟩ := rshape_word h1
  obtain ⟨n, e2, hn⟩ := rshape_int h2
  obtain ⟨k, e3, hk⟩ := rshape_int h3
  obtain ⟨j, e4, hj⟩ := rshape_int h4
  rw [e0, e1, e2, e3, e4]
  exact law7c a b ha hb n k j hn hk hj
end Go.Proofs.YthjemhlcojmiaaaDoor
