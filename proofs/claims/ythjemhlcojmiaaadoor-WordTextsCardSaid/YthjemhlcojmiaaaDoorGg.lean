/- What is known of the functions on words, told over rows. -/
import Derived.Test.YthjemhlcojmiaaaDoorGf
import Derived.Test.YthjemhlcojmiaaaDoorVmA
-- VkG VkH VmA
set_option linter.unusedVariables false
set_option linter.unusedSimpArgs false
set_option maxRecDepth 100000
set_option maxHeartbeats 1000000
namespace Go.Proofs.YthjemhlcojmiaaaDoor
open Go Go.Vh Go.Vk Go.Proofs
/-- A word as a value. -/
def Wd.rv (w : Wd) : AVal := .agg [rI w.stem, rI w.loop]
theorem rowA_word (w : Wd) {k : Nat} {ls : List (List Int)} {xs ys : List AVal} (h : RowA ls (k + 2) xs ys) : RowA (w.stem :: w.loop :: ls) k (w.av k (k + 1) :: xs) (w.rv :: ys) :=
  .agg (ls := [w.stem, w.loop]) (.row (.row .nil)) rfl h
theorem told_word {G : AHeap} {a b : List Int} {n : Nat} (hn : n ≤ a.length) : ∃ ks, ksCells ((G.alloc (vB a)).alloc (vB b)) ks = true ∧ Frz ((G.alloc (vB a)).alloc (vB b)) ks (.agg [.view G.n 0 n, .view (G.n + 1) 0 b.length]) (.agg [.row n (ints (a.take n)), .row b.length (ints b)]) := by
  have f0 : ((G.alloc (vB a)).alloc (vB b)).f G.n = vB a := by rw [alloc_f, alloc_n, if_neg (by omega), alloc_f, if_pos rfl]
  have f1 : ((G.alloc (vB a)).alloc (vB b)).f (G.n + 1) = vB b := by rw [alloc_f, alloc_n, if_pos rfl]
  generalize (G.alloc (vB a)).alloc (vB b) = H at f0 f1
  have one : ∀ {ks i n l}, ks.contains i = true ∨ l = [] → H.f i = vB l → n ≤ l.length → Frz H ks (.view i 0 n) (.row n (ints (l.take n))) := fun {ks i n l} h hf hn => by
    rcases h with h | rfl
    · exact frz_vw h hf hn
    · obtain rfl : n = 0 := by simpa using hn
      exact .view0
  have key : ∀ ks, (ks.contains G.n = true ∨ a = []) → (ks.contains (G.n + 1) = true ∨ b = []) → Frz H ks (.agg [.view G.n 0 n, .view (G.n + 1) 0 b.length]) (.agg [.row n (ints (a.take n)), .row b.length (ints b)]) := fun ks h1 h2 => by
    have := one h2 f1 (Nat.le_refl _)
    rw [List.take_length] at this
    exact .agg (.cons (one h1 f0 hn) (.cons this (.same rfl)))
  have hc : ∀ {i l}, H.f i = vB l → l ≠ [] → cellsB (H.f i) = true := fun {i l} h hl => by
    rw [h]; cases l with
    | nil => exact absurd rfl hl
    | cons x l => rfl
  have hne : ([] : List Nat).contains G.n = false := rfl
  by_cases ha : a = [] <;> by_cases hb : b = []
  · exact ⟨[], rfl, key _ (.inr ha) (.inr hb)⟩
  · exact ⟨[G.n + 1], by simp [ksCells, hc f1 hb], key _ (.inr ha) (.inl (by simp))⟩
  · exact ⟨[G.n], by simp [ksCells, hc f0 ha], key _ (.inl (by simp)) (.inr hb)⟩
  · exact ⟨[G.n, G.n + 1], by simp [ksCells, hc f0 ha, hc f1 hb], key _ (.inl (by simp)) (.inl (by simp))⟩
theorem row_take {a : List Int} {n : Nat} (hn : n ≤ a.length) : AVal.row n (ints (a.take n)) = rI (a.take n) := by
  unfold rI
  rw [List.length_take, Nat.min_eq_left hn]
/-- A function that makes a word, and an error with it. -/
theorem toldM {P : Program} {f : FuncId} {args : List AVal} {w : Wd} {X : Pw × Int} (h : CallW P f args (wh w.stem w.loop) (Makes w X)) (hX : X.1.n ≤ X.1.full.length) : CallW P f args (wh w.stem w.loop) (ToldR fun v => v = .tuple [X.1.wd.rv, .int .i64 X.2]) :=
  h.mono fun v H' hv => by
    obtain ⟨rfl, rfl⟩ := hv
    obtain ⟨ks, h1, h2⟩ := told_word (G := wh w.stem w.loop) (a := X.1.full) (b := X.1.loop) hX
    refine ⟨ks, _, h1, .tuple (.cons h2 (.same rfl)), rfl, ?_⟩
    rw [row_take hX]; rfl
/-- A function that makes a word. -/
theorem toldP {P : Program} {f : FuncId} {args : List AVal} {s l : List Int} {X : Pw} (h : CallW P f args (wh s l) fun v H' => v = X.av 2 3 ∧ H' = ((wh s l).alloc (vB X.full)).alloc (vB X.loop)) (hX : X.n ≤ X.full.length) : CallW P f args (wh s l) (ToldR fun v => v = X.wd.rv) :=
  h.mono fun v H' hv => by
    obtain ⟨rfl, rfl⟩ := hv
    obtain ⟨ks, h1, h2⟩ := told_word (G := wh s l) (a := X.full) (b := X.loop) hX
    refine ⟨ks, _, h1, h2, rfl, ?_⟩
    rw [row_take hX]; rfl
theorem ros2 (w : Wd) : w.heap = ros [w.stem, w.loop] := rfl
theorem ros4 (u v : Wd) : h4 u v = ros [u.stem, u.loop, v.stem, v.loop] := rfl
def errW : Wd := ⟨[], []⟩
theorem errP_wd : errP.wd = errW := rfl
open Classical in
noncomputable def normW (w : Wd) : Wd × Int := if w.Ok 6 then (nf w, 0) else (errW, 1)
theorem outN_wd (w : Wd) : ((outN w).1.wd, (outN w).2) = normW w := by
  unfold outN normW; split
  · rw [nfP_wd]
  · rfl
/-- A word, valid or not, that is not too long for a memory. -/
theorem nfP_n (s l : List Int) : (nfP s l).n ≤ (nfP s l).full.length := Nat.sub_le _ _
theorem normR (w : Wd) (hf : w.Fits) (H : AHeap) : CallW Tryd.prog 10 [w.rv] H fun v H' => H' = H ∧ v = .tuple [(normW w).1.rv, .int .i64 (normW w).2] := by
  have h := (toldM (normal10 w hf) (by unfold outN; split; exact nfP_n _ _; exact Nat.zero_le _)).toRows (ros2 w) (rowA_word w .nil) H
  rw [← outN_wd]
  exact h
theorem normRr (w : Wd) (hf : w.Fits) (H : AHeap) : CallW Tryd.prog 21 [w.rv] H fun v H' => H' = H ∧ v = .tuple [(normW w).1.rv, .int .i64 (normW w).2] := by
  have h := (toldM (normal21 w hf) (by unfold outN; split; exact nfP_n _ _; exact Nat.zero_le _)).toRows (ros2 w) (rowA_word w .nil) H
  rw [← outN_wd]
  exact h
theorem nfR (w : Wd) (hs : w.stem.length ≤ 4294967296) (h0 : 0 < w.loop.length) (hl : w.loop.length ≤ 4294967296) (H : AHeap) : CallW Tryd.prog 36 [w.rv] H fun v H' => H' = H ∧ v = (nf w).rv := by
  have h := (toldP (normal36 w.stem w.loop 0 (Nat.zero_le _) hs h0 hl) (nfP_n _ _)).toRows (ros2 w) (rowA_word w .nil) H
  rw [List.drop_zero, nfP_wd] at h
  exact h
theorem nfRr (w : Wd) (hs : w.stem.length ≤ 4294967296) (h0 : 0 < w.loop.length) (hl : w.loop.length ≤ 4294967296) (H : AHeap) : CallW Tryd.prog 44 [w.rv] H fun v H' => H' = H ∧ v = (nf w).rv := by
  have h := (toldP (norm44 w.stem w.loop 0 (Nat.zero_le _) hs h0 hl) (nfP_n _ _)).toRows (ros2 w) (rowA_word w .nil) H
  rw [List.drop_zero, nfP_wd] at h
  exact h
theorem validR (w : Wd) (hf : w.Fits) (n : Int) (H : AHeap) : CallW Tryd.prog 26 [w.rv, .int .i64 n] H fun v H' => H' = H ∧ IsB v (w.Ok n) :=
  ((valid26 w hf n).mono fun v H' h => h.told).toRows (ros2 w) (rowA_word w (.val rfl .nil)) H
theorem validRr (w : Wd) (hf : w.Fits) (n : Int) (H : AHeap) : CallW Tryd.prog 27 [w.rv, .int .i64 n] H fun v H' => H' = H ∧ IsB v (w.Ok n) :=
  ((valid27 w hf n).mono fun v H' h => h.told).toRows (ros2 w) (rowA_word w (.val rfl .nil)) H
theorem isR (w : Wd) (hf : w.Fits) (H : AHeap) : CallW Tryd.prog 41 [w.rv] H fun v H' => H' = H ∧ IsB v (w.Ok 6) :=
  ((is41 w hf).mono fun v H' h => h.told).toRows (ros2 w) (rowA_word w .nil) H
theorem lettersR (n : Int) (h0 : 0 ≤ n) (h6 : n ≤ 6) (l : List Int) (hl : l.length ≤ 1152921504606846976) (H : AHeap) : CallW Tryd.prog 49 [rI l, .int .i64 n] H fun v H' => H' = H ∧ IsB v (∀ x ∈ l, inL n x) :=
  ((letters49 n h0 h6 l hl).mono fun v H' h => h.told).toRows (ls := [l]) rfl (.row (.val rfl .nil)) H
theorem atR (w : Wd) (hf : w.Fits) (hl : 0 < w.loop.length) (k : Nat) (hk : k ≤ 9223372036854775807) (H : AHeap) : CallW Tryd.prog 43 [w.rv, .int .i64 (k : Int)] H fun v H' => H' = H ∧ v = .int .i64 (w.lt k) :=
  ((at43 w hf hl k hk).mono fun v H' h => by subst h; exact ToldR.int rfl).toRows (ros2 w) (rowA_word w (.val rfl .nil)) H
theorem atRr (w : Wd) (hf : w.Fits) (hl : 0 < w.loop.length) (k : Nat) (hk : k ≤ 9223372036854775807) (H : AHeap) : CallW Tryd.prog 12 [w.rv, .int .i64 (k : Int)] H fun v H' => H' = H ∧ v = .int .i64 (w.lt k) :=
  ((letters12 w hf hl k hk).mono fun v H' h => by subst h; exact ToldR.int rfl).toRows (ros2 w) (rowA_word w (.val rfl .nil)) H
theorem AtR (w : Wd) (hf : w.Fits) (k : Int) (hk : k ≤ 9223372036854775807) (H : AHeap) : CallW Tryd.prog 19 [w.rv, .int .i64 k] H fun v H' => H' = H ∧ v = .tuple [.int .i64 (outA w k).1, .int .i64 (outA w k).2] :=
  ((at19 w hf k hk).mono fun v H' h => by subst h; exact ToldR.clo rfl rfl).toRows (ros2 w) (rowA_word w (.val rfl .nil)) H
theorem AtRr (w : Wd) (hf : w.Fits) (k : Int) (hk : k ≤ 9223372036854775807) (H : AHeap) : CallW Tryd.prog 20 [w.rv, .int .i64 k] H fun v H' => H' = H ∧ v = .tuple [.int .i64 (outA w k).1, .int .i64 (outA w k).2] :=
  ((at20 w hf k hk).mono fun v H' h => by subst h; exact ToldR.clo rfl rfl).toRows (ros2 w) (rowA_word w (.val rfl .nil)) H
theorem fromR (w : Wd) (hf : w.Fits) (k : Int) (hk : k ≤ 9223372036854775807) (H : AHeap) : CallW Tryd.prog 22 [w.rv, .int .i64 k] H fun v H' => H' = H ∧ v = .tuple [(outF w k).1.wd.rv, .int .i64 (outF w k).2] :=
  (toldM (from22 w hf k hk) (outF_sz w k).n).toRows (ros2 w) (rowA_word w (.val rfl .nil)) H
theorem fromRr (w : Wd) (hf : w.Fits) (k : Int) (hk : k ≤ 9223372036854775807) (H : AHeap) : CallW Tryd.prog 23 [w.rv, .int .i64 k] H fun v H' => H' = H ∧ v = .tuple [(outF w k).1.wd.rv, .int .i64 (outF w k).2] :=
  (toldM (from23 w hf k hk) (outF_sz w k).n).toRows (ros2 w) (rowA_word w (.val rfl .nil)) H
theorem loopsR (w : Wd) (hf : w.Fits) (k : Int) (hk : k ≤ 9223372036854775807) (hk' : -9223372036854775808 ≤ k) (H : AHeap) : CallW Tryd.prog 24 [w.rv, .int .i64 k] H fun v H' => H' = H ∧ v = .tuple [(outK w k).1.wd.rv, .int .i64 (outK w k).2] :=
  (toldM (loops24 w hf k hk hk') (outK_sz w k).n).toRows (ros2 w) (rowA_word w (.val rfl .nil)) H
theorem noRef_rv (w : Wd) : noRef w.rv = true := rfl
theorem sameR (u v : Wd) (hu : u.Fits) (hv : v.Fits) (H : AHeap) : CallW Tryd.prog 11 [u.rv, v.rv] H fun r H' => H' = H ∧ ∃ b e, r = .tuple [.bool b, .int .i64 e] ∧ SameR u v b e :=
  ((same11 u v hu hv).mono fun r H' h => by obtain ⟨b, e, rfl, hs⟩ := h; exact ToldR.clo rfl ⟨b, e, rfl, hs⟩).toRows (ros4 u v) (rowA_word u (rowA_word v .nil)) H
theorem sameRr (u v : Wd) (hu : u.Fits) (hv : v.Fits) (H : AHeap) : CallW Tryd.prog 28 [u.rv, v.rv] H fun r H' => H' = H ∧ ∃ b e, r = .tuple [.bool b, .int .i64 e] ∧ SameR u v b e :=
  ((same28 u v hu hv).mono fun r H' h => by obtain ⟨b, e, rfl, hs⟩ := h; exact ToldR.clo rfl ⟨b, e, rfl, hs⟩).toRows (ros4 u v) (rowA_word u (rowA_word v .nil)) H
theorem writtenR (u v : Wd) (hu : u.Sz) (hv : v.Sz) (H : AHeap) : CallW Tryd.prog 13 [u.rv, v.rv] H fun r H' => H' = H ∧ IsB r (u = v) :=
  ((written13 u v hu hv).mono fun r H' h => h.told).toRows (ros4 u v) (rowA_word u (rowA_word v .nil)) H
theorem isRw (u v : Wd) (hu : u.Sz) (hv : v.Sz) (e f : Int) (H : AHeap) : CallW Tryd.prog 18 [u.rv, .int .i64 e, v.rv, .int .i64 f] H fun r H' => H' = H ∧ IsB r (e = f ∧ u = v) :=
  ((is18 u v hu hv e f).mono fun r H' h => h.told).toRows (ros4 u v) (rowA_word u (.val rfl (rowA_word v (.val rfl .nil)))) H
/-- The normal form, if it is not too long. -/
noncomputable def shortW (w : Wd) : Wd × Int := if 200 < (nf w).stem.length + (nf w).loop.length then (errW, 3) else (nf w, 0)
theorem outS_wd (w : Wd) : ((outS w).1.wd, (outS w).2) = shortW w := by
  have h : (nfP w.stem w.loop).n = (nf w).stem.length := by
    have := congrArg (fun x : Wd => x.stem.length) (nfP_wd w.stem w.loop)
    simp only [Pw.wd, List.length_take] at this
    have h2 := nfP_n w.stem w.loop
    show (nfP w.stem w.loop).n = (nf ⟨w.stem, w.loop⟩).stem.length
    omega
  have h' : (nfP w.stem w.loop).loop = (nf w).loop := congrArg Wd.loop (nfP_wd w.stem w.loop)
  unfold outS shortW
  rw [h, h']
  split
  · rfl
  · rw [nfP_wd]
theorem fitR (w : Wd) (hs : w.stem.length ≤ 4294967296) (h0 : 0 < w.loop.length) (hl : w.loop.length ≤ 4294967296) (H : AHeap) : CallW Tryd.prog 52 [w.rv] H fun v H' => H' = H ∧ v = .tuple [(shortW w).1.rv, .int .i64 (shortW w).2] := by
  have h := (toldM (fit52 w hs h0 hl) (by unfold outS; split; exact Nat.zero_le _; exact nfP_n _ _)).toRows (ros2 w) (rowA_word w .nil) H
  rw [← outS_wd]
  exact h
theorem shortR (w : Wd) (hs : w.stem.length ≤ 4294967296) (h0 : 0 < w.loop.length) (hl : w.loop.length ≤ 4294967296) (H : AHeap) : CallW Tryd.prog 53 [w.rv] H fun v H' => H' = H ∧ v = .tuple [(shortW w).1.rv, .int .i64 (shortW w).2] := by
  have h := (toldM (short53 w hs h0 hl) (by unfold outS; split; exact Nat.zero_le _; exact nfP_n _ _)).toRows (ros2 w) (rowA_word w .nil) H
  rw [← outS_wd]
  exact h
end Go.Proofs.YthjemhlcojmiaaaDoor

/- Rows put together; letters ahead of a word. -/
-- VkG VkH VmA
set_option linter.unusedVariables false
set_option linter.unusedSimpArgs false
set_option maxRecDepth 100000
set_option maxHeartbeats 1000000
namespace Go.Proofs.YthjemhlcojmiaaaDoor
open Go Go.Vh Go.Vk Go.Proofs
theorem flat_take {ls : List (List Int)} {j : Nat} (h : j < ls.length) : (ls.take (j + 1)).flatten = (ls.take j).flatten ++ ls[j] := by
  rw [List.take_succ_eq_append_getElem h, List.flatten_append]
  simp
theorem flat_le (ls : List (List Int)) (j : Nat) : (ls.take j).flatten.length ≤ ls.flatten.length := by
  have : ls.flatten = (ls.take j).flatten ++ (ls.drop j).flatten := by rw [← List.flatten_append, List.take_append_drop]
  rw [this, List.length_append]; omega
theorem rows_get {ls : List (List Int)} {j : Nat} (h : j < ls.length) : (ls.map rI)[j]? = some (rI ls[j]) := by rw [List.getElem?_map, List.getElem?_eq_getElem h]; rfl
/-- Concat. -/
theorem concatR (ls : List (List Int)) (h0 : 0 < ls.flatten.length) (hl : ls.flatten.length ≤ 4294967296) (hn : ls.length ≤ 1000000) (H : AHeap) : CallW Tryd.prog 45 [rR (ls.map rI)] H fun v H' => H' = H ∧ v = rI ls.flatten := by
  have hlen : (ls.map rI).length = ls.length := List.length_map ..
  refine CallW.pure ?_ rfl H
  refine CallW.symK (cuts := []) Tryd.func45 rfl (by kernel_rfl) ?_
  conv => whnf
  repeat' (refine Gets.of _ rfl ?_; conv => whnf)
  refine CodeS.loopSK (cuts := []) (σ := Nat) (fun j => [(0, rR (ls.map rI)), (3, .int .i64 ((ls.take j).flatten.length : Int)), (9, rR (ls.map rI)), (10, .int .i64 ((ls.map rI).length : Int)), (11, .int .i64 (j : Int))]) (fun _ => emptyH) (fun j => j ≤ ls.length) (fun j => ls.length - j) 0 (by kernel_rfl) (Nat.zero_le _) ⟨rfl, rfl, rfl, rfl, rfl, trivial⟩ rfl ?_
  intro j hj
  rcases Nat.lt_or_ge j ls.length with hjl | hjl
  · have e1 := flat_take hjl
    have e2 := flat_le ls (j + 1)
    rw [e1, List.length_append] at e2
    conv => whnf
    repeat' first | ((refine Gets.ldRR rfl rfl (rows_get hjl) ?_); conv => whnf) | ((refine Gets.addE (c := (((ls.take (j + 1)).flatten.length : Nat) : Int)) (by rw [e1, List.length_append]; rfl) (by omega) (by rw [e1, List.length_append]; omega) ?_); conv => whnf) | ((with_reducible refine Gets.addI ?_ ?_ ?_); (· omega); (· omega); conv => whnf) | (refine Gets.of _ rfl ?_; conv => whnf) | (refine Gets.ixR1 rfl rfl (by omega) ?_; conv => whnf) | (refine Fork.noR rfl ?_; conv => whnf) | (refine Fork.dec (fun _ => ?_) (fun _ => ?_) <;> first | (exfalso; omega) | (conv => whnf))
    exact ⟨j + 1, hjl, by show ls.length - (j + 1) < _; omega, ⟨rfl, rfl, rfl, rfl, rfl, trivial⟩, rfl⟩
  · obtain rfl : j = ls.length := by omega
    rw [List.take_length]
    conv => whnf
    repeat' (refine Fork.dec (fun _ => ?_) (fun _ => ?_) <;> first | (exfalso; omega) | (conv => whnf))
    refine CallS.of (by kernel_rfl) ((grow59 ((ls.flatten.length : Nat) : Int) (by omega) (by omega)).frameQ [] rfl .nil (by rintro _ _ ⟨rfl, rfl⟩; repeat first | exact .nil | refine .cons (by first | exact .inr rfl | exact .inl rfl | exact .inr (fresh_oN _) | exact .inr (fresh_oP _) | exact .inr (fresh_oI _)) ?_)) rfl ?_
    rintro _ _ ⟨_, _, ⟨rfl, rfl⟩, rfl, rfl⟩
    conv => whnf
    repeat' (refine Gets.of _ rfl ?_; conv => whnf)
    refine CodeS.loopGK (cuts := []) (σ := Nat × List Int) (fun p => [(6, .slice 0 0 (ls.take p.1).flatten.length), (25, rR (ls.map rI)), (26, .int .i64 ((ls.map rI).length : Int)), (27, .int .i64 (p.1 : Int))]) (fun p => emptyH.alloc (.cells 1 (ints p.2))) (fun p => p.1 ≤ ls.length ∧ p.2.take (ls.take p.1).flatten.length = (ls.take p.1).flatten ∧ (ls.take p.1).flatten.length ≤ p.2.length) (fun p => ls.length - p.1) (0, List.replicate ls.flatten.length 0) (renL [0] 1) (by kernel_rfl) ⟨Nat.zero_le _, rfl, Nat.zero_le _⟩ ⟨rfl, rfl, rfl, rfl, trivial⟩ (EmbL.litsN [0] rfl rfl rfl rfl .nil (.cons ⟨rfl, .cellsIr⟩ .nil)) ?_
    rintro ⟨j, b⟩ ⟨h1, h2, h3⟩
    dsimp only at h1 h2 h3
    rcases Nat.lt_or_ge j ls.length with hjl | hjl
    · have e1 := flat_take hjl
      have e2 := flat_le ls (j + 1)
      rw [e1, List.length_append] at e2
      conv => whnf
      repeat' first | ((refine Gets.ldRR rfl rfl (rows_get hjl) ?_); conv => whnf) | ((refine Gets.appSrc (ti := tiI) (l := b) (xs := ls[j]) (m := (ls.take j).flatten.length) (n := ls[j].length) rfl rfl rfl rfl rfl (by decide) h3 (src_row rfl) rfl (by omega) ?_); conv => whnf) | ((with_reducible refine Gets.addI ?_ ?_ ?_); (· omega); (· omega); conv => whnf) | (refine Gets.ixR1 rfl rfl (by omega) ?_; conv => whnf) | (refine Fork.dec (fun _ => ?_) (fun _ => ?_) <;> first | (exfalso; omega) | (conv => whnf))
      refine ⟨(j + 1, b.take (ls.take j).flatten.length ++ ls[j]), renL [1] 2, ⟨hjl, ?_, ?_⟩, (by show ls.length - (j + 1) < _; omega), ⟨(by show AVal.slice _ _ _ = AVal.slice _ _ _; rw [e1, List.length_append]; rfl), rfl, rfl, rfl, trivial⟩, EmbL.litsN [1] rfl rfl rfl rfl .nil (.cons ⟨rfl, .cellsI⟩ .nil)⟩
      · dsimp only; rw [h2, e1, List.take_length]
      · dsimp only; rw [h2, e1]; exact Nat.le_refl _
    · obtain rfl : j = ls.length := by omega
      rw [List.take_length] at h2 h3
      rw [List.take_length]
      conv => whnf
      repeat' (refine Fork.dec (fun _ => ?_) (fun _ => ?_) <;> first | (exfalso; omega) | (conv => whnf))
      exact ⟨[0], _, rfl, frz_vB rfl rfl h3, rfl, by rw [h2]; rfl⟩
theorem grow0 (H : AHeap) : CallW Tryd.prog 59 [.nilSlice, .int .i64 0] H fun v H' => H' = H ∧ v = .nilSlice := by
  refine CallW.pure ?_ rfl H
  refine CallW.symK (cuts := []) Tryd.func59 rfl (by kernel_rfl) ?_
  conv => whnf
  repeat' first | ((with_reducible refine Gets.subI ?_ ?_ ?_); (· omega); (· omega); conv => whnf) | (refine Gets.of _ rfl ?_; conv => whnf) | (refine Fork.noR rfl ?_; conv => whnf)
  exact ⟨[], .nilSlice, rfl, .same rfl, rfl, rfl⟩
theorem flat_nil {ls : List (List Int)} (h : ls.flatten.length = 0) {j : Nat} (hj : j < ls.length) : ls[j] = [] := by
  have h1 : ls.flatten = [] := List.eq_nil_of_length_eq_zero h
  exact List.flatten_eq_nil_iff.1 h1 _ (List.getElem_mem hj)
theorem concat0 (ls : List (List Int)) (h0 : ls.flatten.length = 0) (hn : ls.length ≤ 1000000) (H : AHeap) : CallW Tryd.prog 45 [rR (ls.map rI)] H fun v H' => H' = H ∧ v = rI ls.flatten := by
  have hlen : (ls.map rI).length = ls.length := List.length_map ..
  have e0 : rI ls.flatten = .row 0 [] := by rw [List.eq_nil_of_length_eq_zero h0]; rfl
  rw [e0]
  refine CallW.pure ?_ rfl H
  refine CallW.symK (cuts := []) Tryd.func45 rfl (by kernel_rfl) ?_
  conv => whnf
  repeat' (refine Gets.of _ rfl ?_; conv => whnf)
  refine CodeS.loopSK (cuts := []) (σ := Nat) (fun j => [(0, rR (ls.map rI)), (3, .int .i64 0), (9, rR (ls.map rI)), (10, .int .i64 ((ls.map rI).length : Int)), (11, .int .i64 (j : Int))]) (fun _ => emptyH) (fun j => j ≤ ls.length) (fun j => ls.length - j) 0 (by kernel_rfl) (Nat.zero_le _) ⟨rfl, rfl, rfl, rfl, rfl, trivial⟩ rfl ?_
  intro j hj
  rcases Nat.lt_or_ge j ls.length with hjl | hjl
  · have e1 := flat_nil h0 hjl
    have e2 : ls[j].length = 0 := by rw [e1]; rfl
    conv => whnf
    repeat' first | ((refine Gets.ldRR rfl rfl (rows_get hjl) ?_); conv => whnf) | ((refine Gets.addE (c := 0) (by rw [e2]; rfl) (by omega) (by omega) ?_); conv => whnf) | ((with_reducible refine Gets.addI ?_ ?_ ?_); (· omega); (· omega); conv => whnf) | (refine Gets.of _ rfl ?_; conv => whnf) | (refine Gets.ixR1 rfl rfl (by omega) ?_; conv => whnf) | (refine Fork.noR rfl ?_; conv => whnf) | (refine Fork.dec (fun _ => ?_) (fun _ => ?_) <;> first | (exfalso; omega) | (conv => whnf))
    exact ⟨j + 1, hjl, by show ls.length - (j + 1) < _; omega, ⟨rfl, rfl, rfl, rfl, rfl, trivial⟩, rfl⟩
  · obtain rfl : j = ls.length := by omega
    conv => whnf
    repeat' (refine Fork.dec (fun _ => ?_) (fun _ => ?_) <;> first | (exfalso; omega) | (conv => whnf))
    refine CallS.of (by kernel_rfl) (grow0 _) rfl ?_
    rintro _ _ ⟨rfl, rfl⟩
    conv => whnf
    repeat' (refine Gets.of _ rfl ?_; conv => whnf)
    refine CodeS.loopSK (cuts := []) (σ := Nat) (fun j => [(6, .nilSlice), (25, rR (ls.map rI)), (26, .int .i64 ((ls.map rI).length : Int)), (27, .int .i64 (j : Int))]) (fun _ => emptyH) (fun j => j ≤ ls.length) (fun j => ls.length - j) 0 (by kernel_rfl) (Nat.zero_le _) ⟨rfl, rfl, rfl, rfl, trivial⟩ rfl ?_
    intro j hj
    rcases Nat.lt_or_ge j ls.length with hjl | hjl
    · have e1 := flat_nil h0 hjl
      have e2 : rI ls[j] = .row 0 [] := by rw [e1]; rfl
      conv => whnf
      repeat' first | ((refine Gets.ldRR (v := .row 0 []) rfl rfl (e2 ▸ rows_get hjl) ?_); conv => whnf) | ((refine Gets.appNil0 (ti := tiI) rfl rfl rfl rfl rfl (by decide) (src_row (l := []) rfl) ?_); conv => whnf) | ((with_reducible refine Gets.addI ?_ ?_ ?_); (· omega); (· omega); conv => whnf) | (refine Gets.ixR1 rfl rfl (by omega) ?_; conv => whnf) | (refine Fork.dec (fun _ => ?_) (fun _ => ?_) <;> first | (exfalso; omega) | (conv => whnf))
      exact ⟨j + 1, hjl, by show ls.length - (j + 1) < _; omega, ⟨rfl, rfl, rfl, rfl, trivial⟩, rfl⟩
    · conv => whnf
      repeat' (refine Fork.dec (fun _ => ?_) (fun _ => ?_) <;> first | (exfalso; omega) | (conv => whnf))
      exact ⟨[], _, rfl, .nil (cs := []), rfl, rfl⟩
theorem concat2 (a b : List Int) (hl : a.length + b.length ≤ 4294967296) (H : AHeap) : CallW Tryd.prog 45 [.row 2 [rI a, rI b]] H fun v H' => H' = H ∧ v = rI (a ++ b) := by
  have e : [a, b].flatten = a ++ b := by simp
  rw [← e]
  have e2 : [a, b].flatten.length = a.length + b.length := by simp
  rcases Nat.eq_zero_or_pos (a.length + b.length) with h0 | h0
  · exact concat0 [a, b] (by rw [e2]; exact h0) (by simp) H
  · exact concatR [a, b] (by rw [e2]; exact h0) (by rw [e2]; exact hl) (by simp) H
open Classical in
noncomputable def aheadW (l : List Int) (w : Wd) : Wd × Int := if w.Ok 6 ∧ ∀ x ∈ l, inL 6 x then shortW ⟨l ++ w.stem, w.loop⟩ else (errW, 1)
theorem aheadR (l : List Int) (w : Wd) (hl : l.length ≤ 1000) (hf : w.Fits) (H : AHeap) : CallW Tryd.prog 29 [rI l, w.rv] H fun v H' => H' = H ∧ v = .tuple [(aheadW l w).1.rv, .int .i64 (aheadW l w).2] := by
  refine CallW.pure ?_ rfl H
  refine CallW.symK (cuts := []) Tryd.func29 rfl (by kernel_rfl) ?_
  conv => whnf
  repeat' (refine Gets.of _ rfl ?_; conv => whnf)
  refine CallS.of (by kernel_rfl) (validR w hf 6 _) rfl ?_
  rintro _ _ ⟨rfl, hp | hp⟩
  all_goals conv => whnf
  all_goals
    repeat' (refine Gets.of _ rfl ?_; conv => whnf)
  rotate_left
  · rw [aheadW, if_neg fun h => hp h.1]
    exact ⟨[], _, rfl, .tuple (.cons (.agg (.cons (.nil (cs := [])) (.cons (.nil (cs := [])) (.same rfl)))) (.cons (.same rfl) (.same rfl))), rfl, rfl⟩
  refine CallS.of (by kernel_rfl) (lettersR 6 (by decide) (by decide) l (by omega) _) rfl ?_
  rintro _ _ ⟨rfl, hq | hq⟩
  all_goals conv => whnf
  all_goals
    repeat' (refine Gets.of _ rfl ?_; conv => whnf)
  rotate_left
  · rw [aheadW, if_neg fun h => hq h.2]
    exact ⟨[], _, rfl, .tuple (.cons (.agg (.cons (.nil (cs := [])) (.cons (.nil (cs := [])) (.same rfl)))) (.cons (.same rfl) (.same rfl))), rfl, rfl⟩
  have hs := hp.s32
  have hm := hp.m
  have h0 := hp.p
  have e : aheadW l w = shortW ⟨l ++ w.stem, w.loop⟩ := if_pos ⟨hp, hq⟩
  rw [e]
  refine CodeS.drawT [0] (.take 0 (.take 1 (.take 2 (.take 5 (.take 6 (.one 3 true (.one 4 true (.take 7 (.one 8 true (.take 9 (.take 10 (.one 11 false (.take 12 .done))))))))))))) mixed (by kernel_rfl) (.cons ⟨rfl, trivial⟩ .nil) ?_
  conv => whnf
  repeat' first | (refine Gets.of _ rfl ?_; conv => whnf) | (refine Chk.mk (by repeat first | exact .nil | refine .cons rfl ?_) ?_; conv => whnf)
  refine CallPS.of (by kernel_rfl) ((concat2 l w.stem (by omega) _).argsF [2] rfl (.frz (.slice (es := 1) (cs := [rI l, rI w.stem]) rfl rfl (Nat.le_refl 2) (.same rfl)) .nil)) rfl ?_
  rintro _ _ ⟨rfl, rfl⟩
  conv => whnf
  repeat' (refine Chk.mk (by repeat first | exact .nil | refine .cons rfl ?_) ?_; conv => whnf)
  refine CallPS.of (by kernel_rfl) (fitR ⟨l ++ w.stem, w.loop⟩ (by rw [List.length_append]; omega) h0 (by show w.loop.length ≤ _; omega) _) rfl ?_
  rintro _ _ ⟨rfl, rfl⟩
  conv => whnf
  repeat' first | (refine Gets.of _ rfl ?_; conv => whnf) | (refine Chk.mk (by repeat first | exact .nil | refine .cons rfl ?_) ?_; conv => whnf)
  all_goals exact ⟨[], _, rfl, .same rfl, rfl, rfl⟩
end Go.Proofs.YthjemhlcojmiaaaDoor

/- Letters ahead, as the reference has it; two words beside each other. -/
-- VkG VkH VmA
set_option linter.unusedVariables false
set_option linter.unusedSimpArgs false
set_option maxRecDepth 100000
set_option maxHeartbeats 1000000
namespace Go.Proofs.YthjemhlcojmiaaaDoor
open Go Go.Vh Go.Vk Go.Proofs
theorem errT (e : Int) {H : AHeap} : ToldR (fun v => v = .tuple [errW.rv, .int .i64 e]) (.tuple [.agg [.nilSlice, .nilSlice], .int .i64 e]) H :=
  ⟨[], _, rfl, .tuple (.cons (.agg (.cons (.nil (cs := [])) (.cons (.nil (cs := [])) (.same rfl)))) (.cons (.same rfl) (.same rfl))), rfl, rfl⟩
def hRes (w : Wd) : AHeap := (emptyH.alloc (.cells 1 [rI w.stem, rI w.loop])).alloc (.cells 1 [.nilSlice, .nilSlice])
theorem aheadRr (l : List Int) (w : Wd) (hl : l.length ≤ 1000) (hf : w.Fits) (H : AHeap) : CallW Tryd.prog 30 [rI l, w.rv] H fun v H' => H' = H ∧ v = .tuple [(aheadW l w).1.rv, .int .i64 (aheadW l w).2] := by
  refine CallW.pure ?_ rfl H
  refine CallW.symK (cuts := []) Tryd.func30 rfl (by kernel_rfl) ?_
  conv => whnf
  repeat' (refine Gets.of _ rfl ?_; conv => whnf)
  refine CallS.of (by kernel_rfl) (isR w hf _) rfl ?_
  rintro _ _ ⟨rfl, hp | hp⟩
  all_goals conv => whnf
  all_goals
    repeat' (refine Gets.of _ rfl ?_; conv => whnf)
  rotate_left
  · rw [aheadW, if_neg fun h => hp h.1]
    exact errT 1
  have hs := hp.s32
  have hm := hp.m
  have h0 := hp.p
  refine CodeS.loopSK (cuts := []) (σ := Nat) (fun j => [(0, rI l), (3, .ptr 0 0), (4, .ptr 1 0), (12, rI l), (13, .int .i64 (l.length : Int)), (14, .int .i64 (j : Int))]) (fun _ => hRes w) (fun j => j ≤ l.length ∧ ∀ k, k < j → inL 6 (l.getD k 0)) (fun j => l.length - j) 0 (by kernel_rfl) ⟨Nat.zero_le _, fun k hk => by omega⟩ ⟨rfl, rfl, rfl, rfl, rfl, rfl, trivial⟩ rfl ?_
  rintro j ⟨g1, g2⟩
  rcases Nat.lt_or_ge j l.length with hj | hj
  · conv => whnf
    repeat' first | (refine Gets.ixR1 rfl rfl (by omega) ?_; conv => whnf) | (refine Gets.ldRI rfl (by first | omega | exact Nat.le_of_ble_eq_true rfl) ?_; conv => whnf) | (refine Fork.dec (fun _ => ?_) (fun _ => ?_) <;> first | (exfalso; omega) | (conv => whnf))
    refine CallS.of (by kernel_rfl) (letter50 6 (l.getD j 0) (by decide) (by decide) _) rfl ?_
    rintro _ _ ⟨rfl, hq | hq⟩
    all_goals conv => whnf
    all_goals
      repeat' first | ((with_reducible refine Gets.addI ?_ ?_ ?_); (· omega); (· omega); conv => whnf) | (refine Gets.of _ rfl ?_; conv => whnf)
    · exact ⟨j + 1, ⟨hj, lt_succ_all g2 hq⟩, by show l.length - (j + 1) < _; omega, ⟨rfl, rfl, rfl, rfl, rfl, rfl, trivial⟩, rfl⟩
    · rw [aheadW, if_neg fun h => hq (h.2 _ (getD_mem hj))]
      exact errT 1
  · conv => whnf
    repeat' (refine Fork.dec (fun _ => ?_) (fun _ => ?_) <;> first | (exfalso; omega) | (conv => whnf))
    have e : aheadW l w = shortW ⟨l ++ w.stem, w.loop⟩ := if_pos ⟨hp, fun x hx => by obtain ⟨k, hk, rfl⟩ := mem_getD hx; exact g2 k (by omega)⟩
    rw [e]
    refine CodeS.drawT [0] (.take 1 (.take 3 (.take 4 (.take 6 (.take 7 (.one 0 true (.one 2 true (.one 5 true (.take 8 (.one 9 true (.take 10 (.take 11 (.one 12 false (.take 13 .done)))))))))))))) mixed (by kernel_rfl) (.cons ⟨rfl, trivial⟩ .nil) ?_
    conv => whnf
    repeat' first | ((refine Gets.appSrc (ti := tiI) (l := []) (xs := l) (m := 0) (n := l.length) rfl rfl rfl rfl rfl (by decide) (Nat.le_refl _) (src_row rfl) rfl (by omega) ?_); conv => whnf) | ((refine Gets.appSrc (ti := tiI) (l := [].take 0 ++ l) (xs := w.stem) (m := 0 + l.length) (n := w.stem.length) rfl rfl rfl rfl rfl (by decide) (by simp) (src_row rfl) rfl (by omega) ?_); conv => whnf) | (refine Gets.of _ rfl ?_; conv => whnf) | (refine Chk.mk (by repeat first | exact .nil | refine .cons rfl ?_) ?_; conv => whnf)
    refine CallPS.of (by kernel_rfl) ((shortR ⟨l ++ w.stem, w.loop⟩ (by rw [List.length_append]; omega) h0 (by show w.loop.length ≤ _; omega) _).argsF [4] rfl (.frz (.agg (.cons (frzI (l := l ++ w.stem) rfl (by show ABlk.cells 1 (ints (([].take 0 ++ l).take (0 + l.length) ++ w.stem)) = _; simp) (by simp)) (.same rfl))) .nil)) rfl ?_
    rintro _ _ ⟨rfl, rfl⟩
    conv => whnf
    repeat' first | (refine Gets.of _ rfl ?_; conv => whnf) | (refine Chk.mk (by repeat first | exact .nil | refine .cons rfl ?_) ?_; conv => whnf)
    all_goals exact ⟨[], _, rfl, .same rfl, rfl, rfl⟩
theorem lt_inL {w : Wd} {n : Int} (h : w.Ok n) (k : Nat) : inL n (w.lt k) := by
  unfold Wd.lt
  split
  · exact h.s _ (getD_mem (by assumption))
  · exact h.l _ (getD_mem (Nat.mod_lt _ h.p))
/-- The letter of two words beside each other. -/
def mixF (u v : Wd) (n : Nat) (k : Nat) : Int := u.lt k + v.lt k * ((2 ^ n : Nat) : Int)
def mixWd (u v : Wd) (n L : Nat) : Wd := ⟨(List.range (max u.stem.length v.stem.length)).map (mixF u v n), (List.range L).map fun j => mixF u v n (max u.stem.length v.stem.length + j)⟩
theorem lt_per {w : Wd} (hl : 0 < w.loop.length) {L : Nat} (hL : w.loop.length ∣ L) {S : Nat} (hS : w.stem.length ≤ S) (j : Nat) : w.lt (S + j % L) = w.lt (S + j) := by
  unfold Wd.lt
  rw [if_neg (by omega), if_neg (by omega)]
  congr 1
  obtain ⟨c, rfl⟩ := hL
  have h1 : j = j % (w.loop.length * c) + w.loop.length * (c * (j / (w.loop.length * c))) := by
    have := Nat.mod_add_div j (w.loop.length * c)
    rw [← Nat.mul_assoc]; omega
  have h2 : S + j - w.stem.length = (S + j % (w.loop.length * c) - w.stem.length) + w.loop.length * (c * (j / (w.loop.length * c))) := by omega
  rw [h2, Nat.add_mul_mod_self_left]
theorem mixWd_lt {u v : Wd} (hu : 0 < u.loop.length) (hv : 0 < v.loop.length) {n L : Nat} (h0 : 0 < L) (h1 : u.loop.length ∣ L) (h2 : v.loop.length ∣ L) (k : Nat) : (mixWd u v n L).lt k = mixF u v n k := by
  unfold mixWd
  have getMap : ∀ {f : Nat → Int} {m i : Nat}, i < m → ((List.range m).map f).getD i 0 = f i := fun {f m i} h => by
    rw [List.getD_eq_getElem?_getD, List.getElem?_map, List.getElem?_range h]; rfl
  generalize hS : max u.stem.length v.stem.length = S
  show (if k < ((List.range S).map (mixF u v n)).length then _ else _) = _
  rw [List.length_map, List.length_range]
  split
  · rename_i h
    exact getMap h
  · rename_i h
    show ((List.range L).map _).getD ((k - S) % ((List.range L).map _).length) 0 = _
    rw [List.length_map, List.length_range, getMap (Nat.mod_lt _ h0)]
    unfold mixF
    rw [lt_per hu h1 (by omega), lt_per hv h2 (by omega), show S + (k - S) = k by omega]
theorem mixWd_nf {u v : Wd} (hu : 0 < u.loop.length) (hv : 0 < v.loop.length) {n L L' : Nat} (h0 : 0 < L) (h1 : u.loop.length ∣ L) (h2 : v.loop.length ∣ L) (g0 : 0 < L') (g1 : u.loop.length ∣ L') (g2 : v.loop.length ∣ L') : nf (mixWd u v n L) = nf (mixWd u v n L') :=
  nf_uniq (by show 0 < ((List.range L).map _).length; rw [List.length_map, List.length_range]; exact h0) (by show 0 < ((List.range L').map _).length; rw [List.length_map, List.length_range]; exact g0) fun k => by rw [mixWd_lt hu hv h0 h1 h2, mixWd_lt hu hv g0 g1 g2]
theorem short_mix {u v : Wd} (hu : 0 < u.loop.length) (hv : 0 < v.loop.length) {n L : Nat} (h0 : 0 < L) (h1 : u.loop.length ∣ L) (h2 : v.loop.length ∣ L) : shortW (mixWd u v n L) = shortW (mixWd u v n (u.loop.length * v.loop.length)) := by
  unfold shortW
  rw [mixWd_nf hu hv h0 h1 h2 (Nat.mul_pos hu hv) (Nat.dvd_mul_right _ _) (Nat.dvd_mul_left _ _)]
open Classical in
/-- What Mix answers. -/
noncomputable def mixW (u v : Wd) (n m : Int) : Wd × Int := if n < 0 ∨ m < 0 ∨ 6 < n ∨ 6 < m ∨ 6 < n + m then (errW, 6) else if u.Ok n ∧ v.Ok m then shortW (mixWd u v n.toNat (u.loop.length * v.loop.length)) else (errW, 1)
theorem Gets.shlM {k' : IntKind} {a : Int} {n : Nat} {A : AVal → Prop} (h : n ≤ 6) (h0 : 0 ≤ a) (h1 : a < 64) (hA : A (.int .i64 (a * ((2 ^ n : Nat) : Int)))) : Gets (abin .shl (.int .i64 a) (.int k' (n : Int))) A := by
  refine Gets.shl (by omega) ?_
  have hp : (2 ^ n : Nat) ≤ 64 := Nat.le_trans (Nat.pow_le_pow_right (by decide) h) (by decide)
  have e : min (n : Int).toNat IntKind.i64.bits = n := by rw [Int.toNat_natCast]; exact Nat.min_eq_left (by show n ≤ 64; omega)
  unfold shlA
  rw [e, show (2 : Int) ^ n = ((2 ^ n : Nat) : Int) by push_cast; rfl]
  generalize 2 ^ n = q at hp hA
  have hb : a * (q : Int) ≤ 64 * 64 := Int.mul_le_mul (by omega) (by omega) (by omega) (by decide)
  have hb0 : 0 ≤ a * (q : Int) := Int.mul_nonneg h0 (by omega)
  rw [wrap_i64 (by omega) (by omega)]
  exact hA
theorem inL_lt {n x : Int} (h : inL n x) (h0 : 0 ≤ n) (h6 : n ≤ 6) : 0 ≤ x ∧ x < 64 := by
  have := pow6 h0 h6
  have h1 := h.1
  have h2 := h.2
  omega
end Go.Proofs.YthjemhlcojmiaaaDoor
