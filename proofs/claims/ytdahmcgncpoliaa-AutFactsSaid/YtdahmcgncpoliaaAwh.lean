/- What lies about in Walk, of the program. -/
import Derived.Test.YtdahmcgncpoliaaStq
set_option linter.unusedVariables false
set_option linter.unusedSimpArgs false
set_option maxRecDepth 100000
namespace Go.Proofs.Ytdahmcgncpoliaa
open Go Go.Vh Go.Proofs
theorem allocs_out : ∀ (bs : List ABlk) (H : AHeap) (i : Nat), H.n + bs.length ≤ i → (H.allocs bs).f i = H.f i
  | [], H, i, _ => rfl
  | b :: bs, H, i, h => by
    rw [List.length_cons] at h
    rw [AHeap.allocs, allocs_out bs _ i (by rw [alloc_n]; omega), alloc_f, if_neg (by omega)]
theorem rowsAt_allocs (H : AHeap) (es : Nat) (b : ABlk) (rows : List (List Int)) (ho : ∀ i, H.n ≤ i → H.f i = .dead) : rowsAt (H.alloc b) es rows = H.allocs (b :: rows.map fun r => rowBlk es (some r)) := by
  have h1 : (H.allocs (b :: rows.map fun r => rowBlk es (some r))).n = H.n + 1 + rows.length := by rw [allocs_n]; simp; omega
  have h2 : (H.allocs (b :: rows.map fun r => rowBlk es (some r))).f = (rowsAt (H.alloc b) es rows).f := by
    funext i
    show _ = if i < H.n + 1 then (H.alloc b).f i else rowBlk es rows[i - (H.n + 1)]?
    rcases Nat.lt_or_ge i (H.n + 1) with h | h
    · rw [if_pos h]
      rcases Nat.lt_or_ge i H.n with h3 | h3
      · rw [allocs_old _ _ _ h3, alloc_f, if_neg (by omega)]
      · obtain rfl : i = H.n := by omega
        rw [alloc_f, if_pos rfl]
        exact allocs_new (b :: rows.map fun r => rowBlk es (some r)) H 0 b rfl
    · rw [if_neg (by omega)]
      rcases Nat.lt_or_ge i (H.n + 1 + rows.length) with h3 | h3
      · have := allocs_new (b :: rows.map fun r => rowBlk es (some r)) H (i - H.n) (rowBlk es rows[i - (H.n + 1)]?) (by
          rw [show i - H.n = (i - (H.n + 1)) + 1 by omega, List.getElem?_cons_succ, List.getElem?_map, List.getElem?_eq_getElem (by omega)]
          rfl)
        rwa [show H.n + (i - H.n) = i by omega] at this
      · rw [allocs_out _ _ _ (by simp; omega), ho i (by omega), List.getElem?_eq_none (by omega)]
        rfl
  have h3 : (H.allocs (b :: rows.map fun r => rowBlk es (some r))).ver = H.ver := allocs_ver _ _
  show (⟨H.n + 1 + rows.length, (rowsAt (H.alloc b) es rows).f, H.ver⟩ : AHeap) = _
  rw [← h1, ← h2, ← h3]
theorem by42c (a : Au) (hf : a.Fits) (hok : a.Ok) (H : AHeap) (hn : Nat.ble 2 H.n = true) (h0 : H.f 0 = .ro 1 (ints a.start)) (h1 : H.f 1 = .ro 5 (ints (flat a.es))) (ho : ∀ i, H.n ≤ i → H.f i = .dead) :
    CallW Try.prog 42 [a.av] H fun v H' => v = .slice H.n 0 a.states.toNat ∧ H' = rowsAt (H.alloc (.cells 1 (rowVg (fun s => H.n + 1 + s) 1 (a.byN a.es.length)))) 1 (a.byN a.es.length) := by
  have hd : ∀ i, a.heap.n ≤ i → a.heap.f i = .dead := by
    intro i hi
    have hi : 2 ≤ i := hi
    show (if i = 1 then _ else if i = 0 then _ else _) = _
    rw [if_neg (by omega), if_neg (by omega)]
    rfl
  refine (frame2 (a := a) (K := fun v bs => v = .slice 2 0 a.states.toNat ∧ bs = .cells 1 (rowVg (fun s => 3 + s) 1 (a.byN a.es.length)) :: (a.byN a.es.length).map fun r => rowBlk 1 (some r)) ((by42 a hf hok).mono ?_) H hn h0 h1 rfl).mono ?_
  · rintro v G ⟨rfl, rfl⟩
    refine ⟨_, rowsAt_allocs _ _ _ _ hd, fun b hb => ?_, rfl, rfl⟩
    rcases List.mem_cons.1 hb with rfl | hb
    · trivial
    · obtain ⟨r, _, rfl⟩ := List.mem_map.1 hb
      cases r <;> trivial
  · rintro v G ⟨v', bs, ⟨rfl, rfl⟩, rfl, rfl⟩
    refine ⟨rfl, ?_⟩
    rw [rowsAt_allocs _ _ _ _ ho, List.map_cons, List.map_map, renB, rens_rowVg]
    congr 2
    · congr 1
      refine rowVg_congr fun s x l _ => ?_
      show (if 3 + s < 2 then _ else H.n + (3 + s - 2)) = _
      rw [if_neg (by omega)]
      omega
    · apply List.map_congr_left
      intro r _
      cases r with
      | nil => rfl
      | cons x l => show renB _ (.cells 1 (ints (x :: l))) = _; rw [renB, rens_ints]; rfl
/-! ### The heaps of Walk -/
def Au.W6 (a : Au) (w : Wd) : AHeap := ((a.heapW w).alloc a.box).alloc w.box
def Au.W9 (a : Au) (w : Wd) (rows : List (List Int)) (s : Int) (b : Nat) : AHeap := (((a.W6 w).alloc (.cells 1 (rowVg (fun t => b + t) 1 rows))).alloc (.cells 1 [.slice 6 0 rows.length])).alloc (.cells 1 [.int .i64 s])
def Au.WC (a : Au) (w : Wd) (rows : List (List Int)) (s : Int) (ex : List ABlk) : AHeap := rowsAt ((a.W9 w rows s (9 + ex.length)).allocs ex) 1 rows
theorem Au.WC_lit (a : Au) (w : Wd) (rows : List (List Int)) (s : Int) (ex : List ABlk) {i : Nat} (h : i < 9) : (a.WC w rows s ex).f i = (a.W9 w rows s (9 + ex.length)).f i := by
  have h9 : (a.W9 w rows s (9 + ex.length)).n = 9 := rfl
  show (if i < ((a.W9 w rows s (9 + ex.length)).allocs ex).n then _ else _) = _
  rw [allocs_n, h9, if_pos (by omega), allocs_old _ _ _ (by rw [h9]; exact h)]
theorem Au.WC_ex (a : Au) (w : Wd) (rows : List (List Int)) (s : Int) (ex : List ABlk) {j : Nat} {b : ABlk} (h : ex[j]? = some b) : (a.WC w rows s ex).f (9 + j) = b := by
  have h9 : (a.W9 w rows s (9 + ex.length)).n = 9 := rfl
  have hj : j < ex.length := (List.getElem?_eq_some_iff.1 h).1
  show (if 9 + j < ((a.W9 w rows s (9 + ex.length)).allocs ex).n then _ else _) = _
  rw [allocs_n, h9, if_pos (by omega)]
  have := allocs_new ex (a.W9 w rows s (9 + ex.length)) j b h
  rwa [h9] at this
theorem Au.WC_n (a : Au) (w : Wd) (rows : List (List Int)) (s : Int) (ex : List ABlk) : (a.WC w rows s ex).n = 9 + ex.length + rows.length := by
  show ((a.W9 w rows s (9 + ex.length)).allocs ex).n + rows.length = _
  rw [allocs_n]; rfl
theorem Au.WC_row (a : Au) (w : Wd) (rows : List (List Int)) (s : Int) (ex : List ABlk) (t : Nat) : (a.WC w rows s ex).f (9 + ex.length + t) = rowBlk 1 rows[t]? := by
  have h9 : (a.W9 w rows s (9 + ex.length)).n = 9 := rfl
  show (if 9 + ex.length + t < ((a.W9 w rows s (9 + ex.length)).allocs ex).n then _ else rowBlk 1 rows[9 + ex.length + t - ((a.W9 w rows s (9 + ex.length)).allocs ex).n]?) = _
  rw [allocs_n, h9, if_neg (by omega), Nat.add_sub_cancel_left]
theorem Au.WC_ver (a : Au) (w : Wd) (rows : List (List Int)) (s : Int) (ex : List ABlk) : (a.WC w rows s ex).ver = fun _ => 0 := by
  show ((a.W9 w rows s (9 + ex.length)).allocs ex).ver = _
  rw [allocs_ver]; rfl
def IntsOnly (b : ABlk) : Prop := ∀ κ, renB κ b = b
theorem intsOnly_row (r : List Int) : IntsOnly (rowBlk 1 (some r)) := by
  intro κ
  cases r with
  | nil => rfl
  | cons x l => show renB _ (.cells 1 (ints (x :: l))) = _; rw [renB, rens_ints]; rfl
theorem Au.WC_closed (a : Au) (w : Wd) (rows : List (List Int)) (s : Int) (ex : List ABlk) (hex : ∀ b ∈ ex, IntsOnly b) : Closed (a.WC w rows s ex) := by
  intro i hi κ hκ
  have hn := a.WC_n w rows s ex
  rcases Nat.lt_or_ge i 9 with h | h
  · rw [a.WC_lit w rows s ex h]
    have k0 : κ 0 = 0 := hκ 0 (by omega)
    have k1 : κ 1 = 1 := hκ 1 (by omega)
    have k2 : κ 2 = 2 := hκ 2 (by omega)
    have k3 : κ 3 = 3 := hκ 3 (by omega)
    have k6 : κ 6 = 6 := hκ 6 (by omega)
    rcases i with _ | _ | _ | _ | _ | _ | _ | _ | _ | i
    · show renB κ (.ro 1 (ints a.start)) = .ro 1 (ints a.start); rw [renB, rens_ints]
    · show renB κ (.ro 5 (ints (flat a.es))) = .ro 5 (ints (flat a.es)); rw [renB, rens_ints]
    · show renB κ (.ro 1 (ints w.stem)) = .ro 1 (ints w.stem); rw [renB, rens_ints]
    · show renB κ (.ro 1 (ints w.loop)) = .ro 1 (ints w.loop); rw [renB, rens_ints]
    · show renB κ a.box = a.box; simp [Au.box, renB, rens, ren, k0, k1]
    · show renB κ w.box = w.box; simp [Wd.box, renB, rens, ren, k2, k3]
    · show renB κ (.cells 1 (rowVg _ 1 rows)) = .cells 1 (rowVg _ 1 rows)
      rw [renB, rens_rowVg]
      congr 1
      refine rowVg_congr fun t x l ht => hκ _ ?_
      have := (List.getElem?_eq_some_iff.1 ht).1
      omega
    · show renB κ (.cells 1 [.slice 6 0 rows.length]) = _; simp [renB, rens, ren, k6]; rfl
    · rfl
    · omega
  · rcases Nat.lt_or_ge i (9 + ex.length) with h2 | h2
    · obtain ⟨b, hb⟩ : ∃ b, ex[i - 9]? = some b := ⟨_, List.getElem?_eq_getElem (by omega)⟩
      have := a.WC_ex w rows s ex hb
      rw [show 9 + (i - 9) = i by omega] at this
      rw [this]
      exact hex b (List.mem_of_getElem? hb) κ
    · have := a.WC_row w rows s ex (i - (9 + ex.length))
      rw [show 9 + ex.length + (i - (9 + ex.length)) = i by omega] at this
      rw [this]
      cases rows[i - (9 + ex.length)]? with
      | none => rfl
      | some r => exact intsOnly_row r κ
theorem Au.WC_step (a : Au) (w : Wd) (rows : List (List Int)) (s : Int) (ex : List ABlk) (hex : ∀ b ∈ ex, IntsOnly b) : StepH a (a.WC w rows s ex) s rows (fun t => 9 + ex.length + t) := by
  have hn := a.WC_n w rows s ex
  refine ⟨by omega, ?_, ?_, ?_, ?_, ?_, ?_, ?_, a.WC_closed w rows s ex hex⟩
  · rw [a.WC_lit w rows s ex (by decide)]; rfl
  · rw [a.WC_lit w rows s ex (by decide)]; rfl
  · rw [a.WC_lit w rows s ex (by decide)]; rfl
  · rw [a.WC_lit w rows s ex (by decide)]; rfl
  · rw [a.WC_lit w rows s ex (by decide)]; rfl
  · intro t x l h; rw [a.WC_row, h]; rfl
  · intro t x l h
    have := (List.getElem?_eq_some_iff.1 h).1
    omega
/-- What lives on, of a heap of Walk. -/
theorem Au.wEmb (a : Au) (w : Wd) (rows : List (List Int)) (s : Int) (ex : List ABlk) (hex : ∀ b ∈ ex, IntsOnly b) {H : AHeap} {m : Nat} (k7 k8 : Nat) (ke : List Nat) (g : Nat → Nat) (hm : H.n = m) (hke : ke.length = ex.length) (h7m : k7 < m) (h8m : k8 < m) (h6m : 6 < m)
    (hf : ∀ i, i < 6 → H.f i = (a.W6 w).f i) (h6 : H.f 6 = .cells 1 (rowVg g 1 rows)) (h7 : H.f k7 = .cells 1 [.slice 6 0 rows.length]) (h8 : H.f k8 = .cells 1 [.int .i64 s])
    (hx : ∀ (j k : Nat) (b : ABlk), ke[j]? = some k → ex[j]? = some b → k < m ∧ (b = .dead ∨ H.f k = b)) (hv : ∀ i, i < 4 → H.ver i = 0)
    (hnd : ∀ (i j k : Nat), ([0, 1, 2, 3, 4, 5, 6, k7, k8] ++ ke)[i]? = some k → ([0, 1, 2, 3, 4, 5, 6, k7, k8] ++ ke)[j]? = some k → i ≠ j → ((a.W9 w rows s (9 + ex.length)).allocs ex).f i = .dead ∨ ((a.W9 w rows s (9 + ex.length)).allocs ex).f j = .dead)
    (hg : ∀ t, t < rows.length → g t < m) (hrow : ∀ t x l, rows[t]? = some (x :: l) → g t ∉ [0, 1, 2, 3, 4, 5, 6, k7, k8] ++ ke ∧ H.f (g t) = .cells 1 (ints (x :: l))) (hinj : ∀ t u, t ≠ u → g t ≠ g u) :
    Emb 4 (rk ([0, 1, 2, 3, 4, 5, 6, k7, k8] ++ ke) g rows.length m) (a.WC w rows s ex) H := by
  have h9 : (a.W9 w rows s (9 + ex.length)).n = 9 := rfl
  have hlit : ∀ i, i < 9 → ((a.W9 w rows s (9 + ex.length)).allocs ex).f i = (a.W9 w rows s (9 + ex.length)).f i := fun i hi => allocs_old _ _ _ (by rw [h9]; exact hi)
  refine Emb.rowsD (G := (a.W9 w rows s (9 + ex.length)).allocs ex) ([0, 1, 2, 3, 4, 5, 6, k7, k8] ++ ke) g hm (by rw [allocs_n, h9, List.length_append, hke]; rfl) (by rw [allocs_n, h9]; omega) hnd (fun i hi => ?_) (fun i k hk => ?_) hg hrow (fun t u _ _ _ _ _ _ h => hinj t u h)
  · rw [allocs_ver, hv i hi, hf i (by omega), hlit i (by omega)]
    rcases i with _ | _ | _ | _ | i
    · exact ⟨rfl, rfl, fun h => h⟩
    · exact ⟨rfl, rfl, fun h => h⟩
    · exact ⟨rfl, rfl, fun h => h⟩
    · exact ⟨rfl, rfl, fun h => h⟩
    · omega
  · rcases Nat.lt_or_ge i 9 with hi | hi
    · rw [hlit i hi]
      rcases i with _ | _ | _ | _ | _ | _ | _ | _ | _ | i
      · cases hk; exact ⟨by omega, by rw [hf 0 (by decide)]; exact .roI⟩
      · cases hk; exact ⟨by omega, by rw [hf 1 (by decide)]; exact .roI⟩
      · cases hk; exact ⟨by omega, by rw [hf 2 (by decide)]; exact .roI⟩
      · cases hk; exact ⟨by omega, by rw [hf 3 (by decide)]; exact .roI⟩
      · cases hk; exact ⟨by omega, by rw [hf 4 (by decide)]; exact .inl rfl⟩
      · cases hk; exact ⟨by omega, by rw [hf 5 (by decide)]; exact .inl rfl⟩
      · cases hk
        refine ⟨h6m, .inl ?_⟩
        rw [h6]
        show _ = renB _ (.cells 1 (rowVg (fun t => 9 + ex.length + t) 1 rows))
        rw [renB, rens_rowVg]
        congr 1
        refine rowVg_congr fun t x l ht => ?_
        have hlt := (List.getElem?_eq_some_iff.1 ht).1
        have := rk_row (ks := [0, 1, 2, 3, 4, 5, 6, k7, k8] ++ ke) (g := g) (m := m) hlt
        rw [List.length_append, hke] at this
        exact this.symm
      · cases hk; exact ⟨h7m, by rw [h7]; exact .inl rfl⟩
      · cases hk; exact ⟨h8m, by rw [h8]; exact .inl rfl⟩
      · omega
    · rw [List.getElem?_append_right (by exact hi)] at hk
      have hlt : i - 9 < ke.length := (List.getElem?_eq_some_iff.1 hk).1
      obtain ⟨b, hb⟩ : ∃ b, ex[i - 9]? = some b := ⟨_, List.getElem?_eq_getElem (by omega)⟩
      have hfi := allocs_new ex (a.W9 w rows s (9 + ex.length)) (i - 9) b hb
      rw [h9, show 9 + (i - 9) = i by omega] at hfi
      obtain ⟨h1, h2⟩ := hx _ _ _ hk hb
      refine ⟨h1, ?_⟩
      rw [hfi]
      rcases h2 with rfl | h2
      · exact .gone
      · rw [h2]; exact .inl (hex b (List.mem_of_getElem? hb) _).symm
end Go.Proofs.Ytdahmcgncpoliaa
