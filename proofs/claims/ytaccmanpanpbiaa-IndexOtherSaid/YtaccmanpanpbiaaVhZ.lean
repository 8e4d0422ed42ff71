import Derived.Test.YtaccmanpanpbiaaVhY
/- Rows of rows. -/
set_option linter.unusedVariables false
set_option linter.unusedSimpArgs false
namespace Go.Vh
variable {P : Program} {N : Nat} {ρ : Option Nat} {n0 : Nat}
def rowV (b es : Nat) : List Int → AVal
  | [] => .nilSlice
  | x :: l => .slice b 0 ((x :: l).length / es)
def rowVg (g : Nat → Nat) (es : Nat) (rows : List (List Int)) : List AVal := rows.mapIdx fun s r => rowV (g s) es r
def rowBlk (es : Nat) : Option (List Int) → ABlk
  | some (x :: l) => .cells es (ints (x :: l))
  | _ => .dead
/-- Behind the blocks of G, one for each row. -/
def rowsAt (G : AHeap) (es : Nat) (rows : List (List Int)) : AHeap := ⟨G.n + rows.length, fun i => if i < G.n then G.f i else rowBlk es rows[i - G.n]?, G.ver⟩
def rk (ks : List Nat) (g : Nat → Nat) (len m : Nat) (i : Nat) : Nat := match ks[i]? with
  | some k => k
  | none => if i - ks.length < len then g (i - ks.length) else m + i
theorem rowVg_length (g : Nat → Nat) (es : Nat) (rows : List (List Int)) : (rowVg g es rows).length = rows.length := by simp [rowVg]
theorem rowVg_get (g : Nat → Nat) (es : Nat) (rows : List (List Int)) (s : Nat) : (rowVg g es rows)[s]? = (rows[s]?).map (rowV (g s) es) := by simp [rowVg, List.getElem?_mapIdx]
theorem ren_rowV (κ : Nat → Nat) (b es : Nat) (r : List Int) : ren κ (rowV b es r) = rowV (κ b) es r := by cases r <;> rfl
theorem rens_rowVg (κ g : Nat → Nat) (es : Nat) (rows : List (List Int)) : rens κ (rowVg g es rows) = rowVg (fun s => κ (g s)) es rows := by
  apply List.ext_getElem?
  intro s
  rw [rens_get, rowVg_get, rowVg_get]
  cases rows[s]? <;> simp [ren_rowV]
theorem rowVg_congr {g h : Nat → Nat} {es : Nat} {rows : List (List Int)} (hh : ∀ s x l, rows[s]? = some (x :: l) → g s = h s) : rowVg g es rows = rowVg h es rows := by
  apply List.ext_getElem?
  intro s
  rw [rowVg_get, rowVg_get]
  cases hr : rows[s]? with
  | none => rfl
  | some r => cases r with
    | nil => rfl
    | cons x l => simp only [Option.map_some, rowV, hh s x l hr]
theorem rowVg_set {g : Nat → Nat} {es : Nat} {rows : List (List Int)} {s nw : Nat} {x : Int} {l : List Int} : (rowVg g es rows).set s (.slice nw 0 ((x :: l).length / es)) = rowVg (fun t => if t = s then nw else g t) es (rows.set s (x :: l)) := by
  apply List.ext_getElem?
  intro t
  rw [rowVg_get, List.getElem?_set, List.getElem?_set, rowVg_get, rowVg_length]
  by_cases h : s = t
  · subst h
    by_cases hl : s < rows.length
    · simp [hl, rowV]
    · simp [hl]
  · rw [if_neg h, if_neg h, if_neg (fun h' => h h'.symm)]
theorem rowVg_scalar (g : Nat → Nat) (es : Nat) (rows : List (List Int)) : (rowVg g es rows).all AVal.scalar = true := by
  simp only [rowVg, List.all_eq_true, List.mem_mapIdx]
  rintro v ⟨i, h, rfl⟩
  cases rows[i] <;> rfl
theorem rk_lit {ks : List Nat} {g : Nat → Nat} {len m i k : Nat} (h : ks[i]? = some k) : rk ks g len m i = k := by unfold rk; rw [h]
theorem rk_row {ks : List Nat} {g : Nat → Nat} {len m s : Nat} (h : s < len) : rk ks g len m (ks.length + s) = g s := by
  unfold rk
  rw [List.getElem?_eq_none (by omega), Nat.add_sub_cancel_left]
  exact if_pos h
theorem Emb.rowsD {es : Nat} {G H : AHeap} {rows : List (List Int)} (ks : List Nat) (g : Nat → Nat) {m : Nat} (hm : H.n = m) (hl : ks.length = G.n) (h0 : n0 ≤ G.n) (hnd : ∀ i j k, ks[i]? = some k → ks[j]? = some k → i ≠ j → G.f i = .dead ∨ G.f j = .dead)
    (hfix : ∀ i, i < n0 → ks[i]? = some i ∧ G.ver i = H.ver i ∧ ((H.f i).live → (G.f i).live))
    (hblk : ∀ i k, ks[i]? = some k → k < m ∧ BSub (rk ks g rows.length m) (G.f i) (H.f k))
    (hlt : ∀ s, s < rows.length → g s < m)
    (hrow : ∀ s x l, rows[s]? = some (x :: l) → g s ∉ ks ∧ H.f (g s) = .cells es (ints (x :: l)))
    (hinj : ∀ s t x l y l', rows[s]? = some (x :: l) → rows[t]? = some (y :: l') → s ≠ t → g s ≠ g t) : Emb n0 (rk ks g rows.length m) (rowsAt G es rows) H := by
  subst hm
  have lit : ∀ i, i < G.n → ∃ k, ks[i]? = some k ∧ (rowsAt G es rows).f i = G.f i := fun i hi => ⟨ks[i]'(by omega), List.getElem?_eq_getElem _, if_pos hi⟩
  have row : ∀ i, G.n ≤ i → i < G.n + rows.length → ∃ s, s < rows.length ∧ i = ks.length + s ∧ (rowsAt G es rows).f i = rowBlk es rows[s]? := fun i h1 h2 => ⟨i - G.n, by omega, by omega, if_neg (by omega)⟩
  have rowlive : ∀ {s : Nat}, (rowBlk es rows[s]?).live → ∃ x l, rows[s]? = some (x :: l) := by
    intro s h
    unfold rowBlk at h
    split at h
    · rename_i x l heq; exact ⟨x, l, heq⟩
    · exact h.elim
  refine ⟨fun i hi => rk_lit (hfix i hi).1, fun i hi => (hfix i hi).2.1, fun i hi h => ?_, Nat.le_trans h0 (Nat.le_add_right _ _), fun i hi => ?_, fun i hi => ?_, fun i j hi hj hij hrw hlv => ?_⟩
  · obtain ⟨k, _, h2⟩ := lit i (by omega)
    rw [h2]; exact (hfix i hi).2.2 h
  · have hi : G.n + rows.length ≤ i := hi
    unfold rk
    rw [List.getElem?_eq_none (by omega)]
    show H.n ≤ if i - ks.length < rows.length then _ else _
    rw [if_neg (by omega)]
    omega
  · have hi : i < G.n + rows.length := hi
    rcases Nat.lt_or_ge i G.n with h1 | h1
    · obtain ⟨k, hk, hf⟩ := lit i h1
      rw [rk_lit hk, hf]
      exact hblk i k hk
    · obtain ⟨s, hs, rfl, hf⟩ := row i h1 hi
      rw [rk_row hs, hf]
      refine ⟨hlt s hs, ?_⟩
      unfold rowBlk
      split
      · rename_i x l heq
        rw [(hrow s x l heq).2]
        exact .cellsK
      · exact .gone
  · have hi : i < G.n + rows.length := hi
    have hj : j < G.n + rows.length := hj
    rcases Nat.lt_or_ge i G.n with h1 | h1 <;> rcases Nat.lt_or_ge j G.n with h2 | h2
    · obtain ⟨k, hk, hfi⟩ := lit i h1
      obtain ⟨k', hk', hfj⟩ := lit j h2
      rw [rk_lit hk, rk_lit hk']
      rintro rfl
      rw [hfi] at hrw
      rw [hfj] at hlv
      rcases hnd i j _ hk hk' hij with h | h
      · rw [h] at hrw; exact hrw
      · rw [h] at hlv; exact hlv
    · obtain ⟨k, hk, _⟩ := lit i h1
      obtain ⟨s, hs, rfl, hf⟩ := row j h2 hj
      rw [hf] at hlv
      obtain ⟨x, l, hx⟩ := rowlive hlv
      rw [rk_lit hk, rk_row hs]
      rintro rfl
      exact (hrow s x l hx).1 (List.mem_of_getElem? hk)
    · obtain ⟨k, hk, _⟩ := lit j h2
      obtain ⟨s, hs, rfl, hf⟩ := row i h1 hi
      rw [hf] at hrw
      obtain ⟨x, l, hx⟩ := rowlive hrw.live
      rw [rk_lit hk, rk_row hs]
      rintro h
      exact (hrow s x l hx).1 (h ▸ List.mem_of_getElem? hk)
    · obtain ⟨s, hs, rfl, hf⟩ := row i h1 hi
      obtain ⟨t, ht, rfl, hf'⟩ := row j h2 hj
      rw [hf] at hrw
      rw [hf'] at hlv
      obtain ⟨x, l, hx⟩ := rowlive hrw.live
      obtain ⟨y, l', hy⟩ := rowlive hlv
      rw [rk_row hs, rk_row ht]
      exact hinj s t x l y l' hx hy (by omega)
theorem Emb.rows {es : Nat} {G H : AHeap} {rows : List (List Int)} (ks : List Nat) (g : Nat → Nat) {m : Nat} (hm : H.n = m) (hl : ks.length = G.n) (h0 : n0 ≤ G.n) (hnd : ks.Nodup)
    (hfix : ∀ i, i < n0 → ks[i]? = some i ∧ G.ver i = H.ver i ∧ ((H.f i).live → (G.f i).live))
    (hblk : ∀ i k, ks[i]? = some k → k < m ∧ BSub (rk ks g rows.length m) (G.f i) (H.f k))
    (hlt : ∀ s, s < rows.length → g s < m)
    (hrow : ∀ s x l, rows[s]? = some (x :: l) → g s ∉ ks ∧ H.f (g s) = .cells es (ints (x :: l)))
    (hinj : ∀ s t x l y l', rows[s]? = some (x :: l) → rows[t]? = some (y :: l') → s ≠ t → g s ≠ g t) : Emb n0 (rk ks g rows.length m) (rowsAt G es rows) H := by
  refine Emb.rowsD ks g hm hl h0 (fun i j k hi hj hij => ?_) hfix hblk hlt hrow hinj
  exfalso
  have hp := List.pairwise_iff_getElem.1 hnd
  obtain ⟨a1, a2⟩ := List.getElem?_eq_some_iff.1 hi
  obtain ⟨b1, b2⟩ := List.getElem?_eq_some_iff.1 hj
  rcases Nat.lt_or_gt_of_ne hij with h | h
  · exact hp i j a1 b1 h (a2.trans b2.symm)
  · exact hp j i b1 a1 h (b2.trans a2.symm)
theorem nodup_last {G : AHeap} {l : List Nat} {z : Nat} (h : l.Nodup) (hd : G.f l.length = .dead) : ∀ i j k, (l ++ [z])[i]? = some k → (l ++ [z])[j]? = some k → i ≠ j → G.f i = .dead ∨ G.f j = .dead := by
  intro i j k hi hj hij
  have h1 : i < l.length + 1 := by have := (List.getElem?_eq_some_iff.1 hi).1; simpa using this
  have h2 : j < l.length + 1 := by have := (List.getElem?_eq_some_iff.1 hj).1; simpa using this
  by_cases hil : i = l.length
  · left; rw [hil]; exact hd
  by_cases hjl : j = l.length
  · right; rw [hjl]; exact hd
  exfalso
  rw [List.getElem?_append_left (by omega)] at hi hj
  have hp := List.pairwise_iff_getElem.1 h
  obtain ⟨a1, a2⟩ := List.getElem?_eq_some_iff.1 hi
  obtain ⟨b1, b2⟩ := List.getElem?_eq_some_iff.1 hj
  rcases Nat.lt_or_gt_of_ne hij with h | h
  · exact hp i j a1 b1 h (a2.trans b2.symm)
  · exact hp j i b1 a1 h (b2.trans a2.symm)
/-- What lives on is told anew ahead of a piece of code. -/
theorem CodeS.gc {c : Code} {e : Env} {G H : AHeap} {K : Exit → Env → AHeap → Prop} {κ : Nat → Nat} (l : List (Nat × AVal)) (hk : keepsR κ l e) (hE : Emb n0 κ G H) (h : CodeS P N ρ n0 c (envOf l) G K) : CodeS P N ρ n0 c e H K :=
  ⟨CWF.gc hE (keepsR_spec l hk) h.code⟩
def preK (n m i : Nat) : Nat := if i < n then i else m + i
theorem preK_lt {n m i : Nat} (h : i < n) : preK n m i = i := if_pos h
/-- References point to numbers that there are. -/
def Closed (G : AHeap) : Prop := ∀ i, i < G.n → ∀ κ : Nat → Nat, (∀ k, k < G.n → κ k = k) → renB κ (G.f i) = G.f i
theorem Emb.pre {G H : AHeap} (hc : Closed G) (hn : G.n ≤ H.n) (h0 : n0 ≤ G.n) (hf : ∀ i, i < G.n → H.f i = G.f i) (hv : ∀ i, i < n0 → G.ver i = H.ver i) : Emb n0 (preK G.n H.n) G H := by
  refine ⟨fun i hi => preK_lt (by omega), hv, fun i hi h => by rw [hf i (by omega)] at h; exact h, h0, fun i hi => ?_, fun i hi => ?_, fun i j hi hj hij _ _ h => ?_⟩
  · unfold preK; rw [if_neg (by omega)]; omega
  · rw [preK_lt hi]
    exact ⟨by omega, .inl (by rw [hf i hi, hc i hi _ fun k hk => preK_lt hk])⟩
  · rw [preK_lt hi, preK_lt hj] at h; exact hij h
/-! ### Operations -/
theorem Gets.loadAt {H : AHeap} {t : TypeId} {ti : TI} {i off j : Nat} {v : AVal} {A : AVal → Prop} (ht : tinfo P t = some ti) (hag : ti.agg = false) (ho : off = j) (hf : (H.f i).cs[j]? = some v) (hA : A v) : Gets (loadA P H t (.ptr i off)) A :=
  ⟨⟨_, by subst ho; simp only [loadA, ht, AHeap.load, hag, Bool.false_eq_true, if_false, hf], hA⟩⟩
theorem Gets.storeAt {H : AHeap} {t : TypeId} {ti : TI} {i off j es : Nat} {v : AVal} {cs : List AVal} {A : AHeap → Prop} (ht : tinfo P t = some ti) (hsz : ti.size = 1) (hv : v.cells = some [v]) (hs : v.scalar = true) (hf : H.f i = .cells es cs) (ho : off = j) (h : j < cs.length) (hA : A (H.set i (.cells es (cs.set j v)))) : Gets (storeA P H t (.ptr i off) v) A := by
  subst ho
  refine ⟨⟨_, ?_, hA⟩⟩
  simp only [storeA, hv, ht, hsz, List.length_singleton, if_true, AHeap.store, hf, List.all_cons, List.all_nil, hs, Bool.and_true]
  rw [if_pos ⟨by omega, trivial⟩]
  congr 3
  rw [List.set_eq_take_append_cons_drop, if_pos h]
  simp
/-- A store of a whole struct over a block. -/
theorem Gets.storeAll {H : AHeap} {t : TypeId} {ti : TI} {i es : Nat} {l cs : List AVal} {A : AHeap → Prop} (ht : tinfo P t = some ti) (hsz : l.length = ti.size) (hs : l.all AVal.scalar = true) (hf : H.f i = .cells es cs) (h : cs.length = l.length) (hA : A (H.set i (.cells es l))) : Gets (storeA P H t (.ptr i 0) (.agg l)) A := by
  refine ⟨⟨_, ?_, hA⟩⟩
  simp only [storeA, AVal.cells, ht, hsz, if_true, AHeap.store, hf]
  rw [if_pos ⟨by omega, hs⟩]
  congr 3
  rw [List.take_zero, List.nil_append, List.drop_eq_nil_of_le (by omega), List.append_nil]
theorem Gets.makeRows {H : AHeap} {t : TypeId} {ti : TI} {k1 k2 : IntKind} {n : Int} {A : AVal × AHeap → Prop} (ht : sliceT P t = some ti) (hz : ti.zero = [.nilSlice]) (hsz : ti.size = 1) (hb : ti.bytes ≤ 4096) (h0 : 0 ≤ n) (h1 : n ≤ 4294967296)
    (hA : A (.slice H.n 0 n.toNat, H.alloc (.cells 1 (List.replicate n.toNat .nilSlice)))) : Gets (amakeSlice P H t (.int k1 n) (.int k2 n)) A := by
  refine ⟨⟨_, ?_, hA⟩⟩
  simp only [amakeSlice, ht, hz, hsz, List.length_singleton]
  rw [if_pos ⟨h0, Int.le_refl _, h1, hb, by decide⟩, Nat.mul_one, zerosA_one]
theorem rowVg_nils (g : Nat → Nat) (es n : Nat) : rowVg g es (List.replicate n []) = List.replicate n .nilSlice := by
  apply List.ext_getElem?
  intro i
  rw [rowVg_get, List.getElem?_replicate, List.getElem?_replicate]
  split <;> rfl
/-- One more element behind a row. -/
theorem Gets.appendRow {H : AHeap} {t tx : TypeId} {ti : TI} {d : TypeDesc} {b j es : Nat} {r : List Int} {x : List Int} {y : Int} {A : AVal × AHeap → Prop} (ht : sliceT P t = some ti) (hd : P.underlying tx = some d) (hr : rowD d = true) (hsz : ti.size = es) (hz : ti.zero.length = es) (hb : ti.bytes ≤ 4096)
    (hes : 0 < es) (hxl : (y :: x).length = es) (hx : H.f j = .cells es (ints (y :: x))) (hf : r ≠ [] → H.f b = .cells es (ints r)) (hl : ∃ k, r.length = k * es ∧ k < 4294967296)
    (hA : ∀ H', (r = [] ∧ H' = H) ∨ (r ≠ [] ∧ H' = H.set b .dead) → A (.slice H.n 0 ((r ++ y :: x).length / es), H'.alloc (.cells es (ints (r ++ y :: x))))) : Gets (builtA P H .append [t, tx] [rowV b es r, .slice j 0 1]) A := by
  obtain ⟨k, hk, hk2⟩ := hl
  have hq : (r ++ y :: x).length / es = k + 1 := by
    rw [List.length_append, hk, hxl, show k * es + es = (k + 1) * es by rw [Nat.add_mul, Nat.one_mul], Nat.mul_div_cancel _ hes]
  have hsrc : srcA H es (.slice j 0 1) = some (ints (y :: x), 1) := by
    simp only [srcA, hx, ints_length, hxl, List.drop_zero, Nat.zero_add, Nat.one_mul, Nat.le_refl, and_self, if_true]
    rw [List.take_of_length_le (by rw [ints_length, hxl]; exact Nat.le_refl _)]
  cases r with
  | nil =>
    refine ⟨⟨_, ?_, hA H (.inl ⟨rfl, rfl⟩)⟩⟩
    have hk0 : k = 0 := by
      rcases Nat.eq_zero_or_pos k with h | h
      · exact h
      · have := Nat.mul_pos h hes; rw [← hk] at this; simp at this
    subst hk0
    rw [hq]
    simp only [rowV, builtA, apureB, amemB, app2 hd hr, aappend, ht, hd]
    rw [if_pos ⟨hr, hb, by rw [hz, hsz]⟩, hsz, hsrc]
    rfl
  | cons z r =>
    refine ⟨⟨_, ?_, hA _ (.inr ⟨by simp, rfl⟩)⟩⟩
    rw [hq]
    have hkk : (z :: r).length / es = k := by rw [hk, Nat.mul_div_cancel _ hes]
    simp only [rowV, builtA, apureB, amemB, app2 hd hr, aappend, ht, hd, hkk]
    rw [if_pos ⟨hr, hb, by rw [hz, hsz]⟩, hsz, hsrc]
    simp only [hf (by simp)]
    have hle : 0 + k * es ≤ (ints (z :: r)).length := by rw [ints_length, hk]; omega
    rw [if_pos ⟨trivial, hle, by omega, nums_scalar _ _⟩]
    congr 4
    rw [List.drop_zero, List.take_of_length_le (by rw [ints_length, hk]; exact Nat.le_refl _)]
    simp [ints]
/-- A row that came in, behind a row. -/
theorem Gets.appendV {H : AHeap} {t tx : TypeId} {ti : TI} {d : TypeDesc} {i j m n : Nat} {k : IntKind} {l xs : List Int} {A : AVal × AHeap → Prop} (ht : sliceT P t = some ti) (hd : P.underlying tx = some d) (hr : rowD d = true) (hsz : ti.size = 1) (hz : ti.zero.length = 1) (hb : ti.bytes ≤ 4096)
    (hm : l.length = m) (hn : xs.length = n) (hx : H.f j = .ro 1 (nums k xs)) (hf : H.f i = .cells 1 (nums k l)) (hl : l.length + xs.length ≤ 4294967296)
    (hA : A (.slice H.n 0 (l.length + xs.length), (H.set i .dead).alloc (.cells 1 (nums k (l ++ xs))))) : Gets (builtA P H .append [t, tx] [.slice i 0 m, .view j 0 n]) A := by
  subst hm hn
  refine ⟨⟨_, ?_, hA⟩⟩
  simp only [builtA, apureB, amemB, app2 hd hr, aappend, ht, hd]
  rw [if_pos ⟨hr, hb, by rw [hz, hsz]⟩]
  have hsrc : srcA H 1 (.view j 0 xs.length) = some (nums k xs, xs.length) := by
    simp only [srcA, hx, nums_length, List.drop_zero, Nat.zero_add, Nat.mul_one, Nat.le_refl, and_self, if_true]
    rw [List.take_of_length_le (by rw [nums_length]; exact Nat.le_refl _)]
  simp only [hf, hsz, nums_length, hsrc]
  rw [if_pos ⟨trivial, by omega, hl, nums_scalar _ _⟩]
  congr 4
  rw [List.drop_zero, Nat.mul_one, List.take_of_length_le (by rw [nums_length]; exact Nat.le_refl _), nums_append]
theorem Gets.lenRow {H : AHeap} {t : TypeId} {e : TypeId} {b es : Nat} {r : List Int} {A : AVal × AHeap → Prop} (hu : P.underlying t = some (.slice e)) (hA : A (.int .i64 (r.length / es : Nat), H)) : Gets (builtA P H .len [t] [rowV b es r]) A := by
  refine ⟨⟨_, ?_, hA⟩⟩
  cases r with
  | nil => simp [builtA, apureB, alenP, rowV, hu]
  | cons x l => simp [builtA, apureB, alenP, rowV, hu]
theorem Gets.ixRow {t e : TypeId} {b es es' : Nat} {r : List Int} {k : IntKind} {j : Int} {A : AVal → Prop} (hu : P.underlying t = some (.slice e)) (hes : elemSize P t = some es') (h0 : 0 ≤ j) (h1 : j < (r.length / es : Nat)) (hA : A (.ptr b (0 + j.toNat * es'))) : Gets (ixA P t (rowV b es r) (.int k j)) A := by
  cases r with
  | nil => simp at h1; omega
  | cons x l => exact Gets.ixS hu hes h0 h1 hA
theorem CallPS.of {f : FuncId} {a b args l : List AVal} {H : AHeap} {K K' : AVal → AHeap → Prop} (hb : hasBody P f = true) (h : CallW P f l H K') (hl : a ++ args ++ b = l) (hk : ∀ v H', K' v H' → K v H') : CallPS P (.func f a b) args H K :=
  ⟨⟨hb, hl ▸ h.mono hk⟩⟩
end Go.Vh
