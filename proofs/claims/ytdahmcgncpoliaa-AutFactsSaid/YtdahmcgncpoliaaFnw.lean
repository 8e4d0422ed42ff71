/- The program's search, walked. -/
import Derived.Test.YtdahmcgncpoliaaFnd
import Derived.Test.YtdahmcgncpoliaaDfs
set_option linter.unusedVariables false
set_option linter.unusedSimpArgs false
set_option maxRecDepth 100000
namespace Go.Proofs.Ytdahmcgncpoliaa
open Go Go.Vh Go.Proofs
theorem Au.F_dead (a : Au) (out : List Bool) (ver : Nat → Nat) (i : Nat) (hi : 7 ≤ i) : (a.F out ver).f i = .dead := by
  show (if i = 6 then _ else if i = 5 then _ else if i = 4 then _ else if i = 3 then _ else if i = 2 then _ else if i = 1 then _ else if i = 0 then _ else ABlk.dead) = _
  rw [if_neg (by omega), if_neg (by omega), if_neg (by omega), if_neg (by omega), if_neg (by omega), if_neg (by omega), if_neg (by omega)]
theorem falses_le (l : List Bool) : falses l ≤ l.length := List.count_le_length
theorem Au.start_le {a : Au} (ho : a.Ok) : a.start.length ≤ a.states.toNat := by
  have key : ∀ j, j < a.start.length → (j : Int) ≤ a.start.getD j 0 := by
    intro j
    induction j with
    | zero => intro h; exact (ho.2.1 0 h).1
    | succ j ih =>
      intro h
      have h1 := ih (by omega)
      have h2 := (ho.2.1 (j + 1) h).2.2 (by omega)
      rw [Nat.add_sub_cancel] at h2
      omega
  rcases Nat.eq_zero_or_pos a.start.length with h | h
  · omega
  · have h1 := key (a.start.length - 1) (by omega)
    have h2 := (ho.2.1 (a.start.length - 1) (by omega)).2.1
    omega
theorem Au.FR_n (a : Au) (out : List Bool) (rows : List (List Int)) (seen : List Bool) (stk : List Int) (ver : Nat → Nat) : (a.FR out rows seen stk ver).n = 10 + rows.length := rfl
theorem Au.FR_lit (a : Au) (out : List Bool) (rows : List (List Int)) (seen : List Bool) (stk : List Int) (ver : Nat → Nat) {i : Nat} (hi : i < 7) : (a.FR out rows seen stk ver).f i = (a.F0 out).f i := by
  show (if i < 10 then (if i = 9 then _ else if i = 8 then _ else if i = 7 then _ else (a.F0 out).f i) else _) = _
  rw [if_pos (by omega), if_neg (by omega), if_neg (by omega), if_neg (by omega)]
theorem Au.FR_row (a : Au) (out : List Bool) (rows : List (List Int)) (seen : List Bool) (stk : List Int) (ver : Nat → Nat) {t : Nat} {x : Int} {l : List Int} (h : rows[t]? = some (x :: l)) : (a.FR out rows seen stk ver).f (10 + t) = .cells 1 (ints (x :: l)) := by
  show (if 10 + t < 10 then _ else rowBlk 1 rows[10 + t - 10]?) = _
  rw [if_neg (by omega), Nat.add_sub_cancel_left, h]
  rfl
def Au.k10 (S : Nat) : Nat → Nat := rk [0, 1, 2, 3, 4, 5, 6, 7, 8, 9] (fun t => 10 + t) S (10 + S)
theorem Au.k10_row {S t : Nat} (h : t < S) : Au.k10 S (10 + t) = 10 + t := rk_row (ks := [0, 1, 2, 3, 4, 5, 6, 7, 8, 9]) (g := fun t => 10 + t) (m := 10 + S) h
/-- Where only what the search may change has changed. -/
theorem Au.FR_at {a : Au} {out : List Bool} {rows : List (List Int)} {seen : List Bool} {stk : List Int} {H : AHeap} (hm : H.n = 10 + rows.length)
    (f0 : ∀ i, i < 7 → H.f i = (a.F0 out).f i) (f7 : H.f 7 = .cells 1 (rowVg (fun t => 10 + t) 1 rows)) (f8 : H.f 8 = .cells 1 (bls seen)) (f9 : H.f 9 = .cells 1 (ints stk)) (fr : ∀ t x l, rows[t]? = some (x :: l) → H.f (10 + t) = .cells 1 (ints (x :: l))) :
    Emb 7 (Au.k10 rows.length) (a.FR out rows seen stk H.ver) H :=
  Au.FR_emb 8 9 (fun t => 10 + t) hm (by omega) (by omega) (by decide) (fun t ht => by omega) (fun s t h => by omega) f0 f7 f8 f9 fr
theorem found66 (a : Au) (hf : a.Fits) (ho : a.Ok) (ver : Nat → Nat) : CallW Try.prog 66 [.yield 6, .ptr 5 0] (a.F (List.replicate a.states.toNat false) ver) fun v G => v = .tuple [] ∧ ∃ out ver', G = a.F out ver' ∧ a.IsRch out ∧ ∀ i, i < 3 → ver' i = ver i := by
  obtain ⟨hh, hs, he⟩ := id ho
  have hs0 := hh.2.2.1
  have hs1 := hh.2.2.2.1
  have hne := hh.2.2.2.2.2.2.2
  have hsi := a.start_in ho
  have hns : a.start.length ≤ 4294967296 := hf.ns
  have hrl := a.byN_length a.es.length
  refine CallW.symR Try.func66 rfl (by kernel_rfl) ?_
  rw [show (a.F (List.replicate a.states.toNat false) ver).n = 7 from rfl]
  conv => whnf
  repeat (refine Gets.of _ rfl ?_; conv => whnf)
  refine CallS.of (by kernel_rfl) ((by42c a hf ho _ rfl rfl rfl (fun i hi => a.F_dead _ ver i hi)).views fun φ w cs hR h => avS_views a [] h) rfl ?_
  rintro _ _ ⟨rfl, rfl⟩
  generalize hrows : a.byN a.es.length = rows at hrl
  conv => whnf
  repeat (refine Gets.of _ rfl ?_; conv => whnf)
  refine Gets.makeB (k := 1) (ti := ⟨1, 1, false, [.bool false]⟩) (by kernel_rfl) rfl (by decide) rfl (by decide) hs0 (by omega) ?_
  rw [Nat.mul_one]
  generalize hH1 : rowsAt ((a.F (List.replicate a.states.toNat false) ver).alloc (.cells 1 (rowVg (fun s => (a.F (List.replicate a.states.toNat false) ver).n + 1 + s) 1 rows))) 1 rows = H1
  have n1 : H1.n = 8 + rows.length := by rw [← hH1]; rfl
  have v1 : H1.ver = ver := by rw [← hH1]; rfl
  have f1 : ∀ i, i < 7 → H1.f i = (a.F0 (List.replicate a.states.toNat false)).f i := by
    intro i hi
    rw [← hH1]
    show (if i < 8 then (if i = 7 then _ else (a.F0 (List.replicate a.states.toNat false)).f i) else _) = _
    rw [if_pos (by omega), if_neg (by omega)]
  have f17 : H1.f 7 = .cells 1 (rowVg (fun t => 8 + t) 1 rows) := by rw [← hH1]; rfl
  have fr1 : ∀ t x l, rows[t]? = some (x :: l) → H1.f (8 + t) = .cells 1 (ints (x :: l)) := by
    intro t x l h
    rw [← hH1]
    show (if 8 + t < 8 then _ else rowBlk 1 rows[8 + t - 8]?) = _
    rw [if_neg (by omega), Nat.add_sub_cancel_left, h]
    rfl
  clear hH1
  conv => whnf
  refine Gets.loadAt (j := 2) (v := .slice 0 0 a.start.length) (ti := ⟨1, 24, false, [.nilSlice]⟩) (by kernel_rfl) rfl rfl (by rw [alloc_f, if_neg (by omega), f1 5 (by decide)]; rfl) ?_
  conv => whnf
  refine CallS.of (by kernel_rfl) (clone67c a.start hns 0 _ (Nat.ble_eq_true_of_le (by rw [alloc_n]; omega)) (by rw [alloc_f, if_neg (by omega), f1 0 (by decide)]; rfl)) rfl ?_
  rintro _ _ ⟨rfl, rfl⟩
  conv => whnf
  repeat (refine Gets.of _ rfl ?_; conv => whnf)
  have hlen : ∀ j, (foldT (List.replicate a.states.toNat false) (a.start.take j)).length = a.states.toNat := fun j => by rw [foldT_length, List.length_replicate]
  refine CodeS.loopG (σ := Nat × (Nat → Nat)) (fun s => [(0, .yield 6), (1, .ptr 5 0), (3, .slice 7 0 a.states.toNat), (4, .slice 8 0 a.states.toNat), (5, .slice 9 0 a.start.length), (20, .slice 9 0 a.start.length), (21, .int .i64 a.start.length), (22, .int .i64 s.1)]) (fun s => a.FR (List.replicate a.states.toNat false) rows (foldT (List.replicate a.states.toNat false) (a.start.take s.1)) a.start s.2) (fun s => s.1 ≤ a.start.length ∧ ∀ i, i < 3 → s.2 i = ver i) (fun s => a.start.length - s.1) (0, H1.ver) (rk [0, 1, 2, 3, 4, 5, 6, 7, H1.n, H1.n + 1] (fun t => 8 + t) rows.length (H1.n + 2)) (by kernel_rfl)
    ⟨Nat.zero_le _, fun i _ => by rw [v1]⟩ ⟨rfl, rfl, rfl, rfl, rfl, rfl, rfl, rfl, trivial⟩ ?_ ?_
  · refine Au.FR_emb (H := (H1.alloc (.cells 1 (bls (List.replicate a.states.toNat false)))).alloc (.cells 1 (ints a.start))) H1.n (H1.n + 1) (fun t => 8 + t) rfl (by omega) (by omega) (by omega) (fun t ht => by omega) (fun s t h => by omega) (fun i hi => ?_) ?_ ?_ ?_ (fun t x l h => ?_)
    · rw [alloc_f, if_neg (by rw [alloc_n]; omega), alloc_f, if_neg (by omega), f1 i hi]
    · rw [alloc_f, if_neg (by rw [alloc_n]; omega), alloc_f, if_neg (by omega), f17]
    · rw [alloc_f, if_neg (by rw [alloc_n]; omega), alloc_f, if_pos rfl]; rfl
    · exact if_pos rfl
    · have := (List.getElem?_eq_some_iff.1 h).1
      rw [alloc_f, if_neg (by rw [alloc_n]; omega), alloc_f, if_neg (by omega), fr1 t x l h]
  clear v1 f1 f17 fr1 n1 H1
  rintro ⟨j, ver1⟩ ⟨g1, gv⟩
  dsimp only at g1 gv
  conv => whnf
  refine Fork.mk (fun hc => ?_) (fun hc => ?_)
  all_goals conv => whnf
  · have hc : j < a.start.length := by simp at hc; omega
    have hll := hlen j
    have hx := hsi _ (List.getElem_mem hc)
    refine Gets.ixS (es := 1) rfl (by kernel_rfl) (by omega) (by omega) ?_
    conv => whnf
    refine Gets.loadN (j := j) (k := .i64) (l := a.start) (x := a.start[j]) (ti := ⟨1, 8, false, [.int .i64 0]⟩) (by kernel_rfl) rfl rfl (by simp) (List.getElem?_eq_getElem hc) ?_
    have hsn : foldT (List.replicate a.states.toNat false) (a.start.take (j + 1)) = setT (foldT (List.replicate a.states.toNat false) (a.start.take j)) a.start[j] := by
      rw [List.take_succ_eq_append_getElem hc, foldT_snoc]
    generalize a.start[j] = x at hx hsn
    generalize foldT (List.replicate a.states.toNat false) (a.start.take j) = l at hll hsn
    conv => whnf
    refine Gets.ixS (es := 1) rfl (by kernel_rfl) hx.1 (by omega) ?_
    conv => whnf
    refine Gets.storeB (j := x.toNat) (es := 1) (l := l) (ti := ⟨1, 1, false, [.bool false]⟩) (by kernel_rfl) rfl rfl (by simp) (by omega) ?_
    conv => whnf
    have hw : IntKind.wrap .i64 ((j : Int) + 1) = ((j + 1 : Nat) : Int) := by rw [wrap_i64 (by omega) (by omega)]; rfl
    refine ⟨(j + 1, ((a.FR (List.replicate a.states.toNat false) rows l a.start ver1).set 8 (.cells 1 (bls (l.set x.toNat true)))).ver), Au.k10 rows.length, ⟨by show j + 1 ≤ _; omega, fun i hi => by show (if i = 8 then _ else ver1 i) = _; rw [if_neg (by omega)]; exact gv i hi⟩, by show _ - (j + 1) < _ - j; omega, ⟨rfl, rfl, rfl, rfl, rfl, rfl, rfl, congrArg (AVal.int .i64) hw, trivial⟩, ?_⟩
    show Emb 7 _ (a.FR _ rows (foldT (List.replicate a.states.toNat false) (a.start.take (j + 1))) a.start _) _
    rw [hsn]
    refine Au.FR_at rfl (fun i hi => ?_) rfl rfl rfl (fun t y r h => ?_)
    · rw [set_f, if_neg (by omega), a.FR_lit _ _ _ _ _ hi]
    · rw [set_f, if_neg (by omega), a.FR_row _ _ _ _ _ h]
  have hje : j = a.start.length := by simp at hc; omega
  subst hje
  clear hc g1 hlen
  rw [List.take_length]
  obtain ⟨hD, hC⟩ := Au.Df.init ho
  generalize hseen : foldT (List.replicate a.states.toNat false) a.start = seen at hD hC
  generalize hout : List.replicate a.states.toNat false = out at hD hC
  clear hseen hout
  refine CodeS.loopG (σ := List Bool × List Bool × List Int × List Int × (Nat → Nat)) (fun s => [(0, .yield 6), (1, .ptr 5 0), (3, .slice 7 0 a.states.toNat), (4, .slice 8 0 a.states.toNat), (5, .slice 9 0 s.2.2.1.length)]) (fun s => a.FR s.1 rows s.2.1 (s.2.2.1 ++ s.2.2.2.1) s.2.2.2.2) (fun s => a.Df s.1 s.2.1 s.2.2.1 ∧ a.Cl s.1 s.2.1 [] ∧ s.2.2.1.length + 2 * falses s.2.1 < 2 ^ 31 ∧ ∀ i, i < 3 → s.2.2.2.2 i = ver i) (fun s => 2 * falses s.2.1 + s.2.2.1.length) (out, seen, a.start, [], ver1) (fun i => i) (by kernel_rfl)
    ⟨hD, hC, ?_, gv⟩ ⟨rfl, rfl, rfl, rfl, rfl, trivial⟩ ?_ ?_
  · have := falses_le seen
    rw [hD.mkd.len] at this
    have := a.start_le ho
    show a.start.length + 2 * falses seen < 2 ^ 31
    omega
  · show Emb 7 _ (a.FR out rows seen (a.start ++ []) ver1) _
    rw [List.append_nil]
    exact Emb.id (by show 7 ≤ 10 + rows.length; omega)
  clear gv hD hC out seen ver1
  rintro ⟨out, seen, stk, junk, ver1⟩ ⟨hD, hC, hsm, gv⟩
  dsimp only at hD hC hsm gv
  conv => whnf
  repeat (refine Gets.of _ rfl ?_; conv => whnf)
  refine Fork.mk (fun hc => ?_) (fun hc => ?_)
  all_goals conv => whnf
  · simp only [decide_eq_true_eq, gt_iff_lt] at hc
    rcases List.eq_nil_or_concat stk with rfl | ⟨stk, s, rfl⟩
    · simp at hc
    rw [List.concat_eq_append] at hD hsm
    obtain ⟨hs0', hs1', hss⟩ := hD.ins s (by simp)
    have hlen1 : (stk.concat s).length = stk.length + 1 := by simp
    have hsml : stk.length < 2 ^ 31 := by simp at hsm; omega
    have hw0 : IntKind.wrap .i64 (((stk.concat s).length : Int) - 1) = (stk.length : Int) := by rw [hlen1, wrap_i64 (by omega) (by omega)]; omega
    repeat (refine Gets.of _ rfl ?_; conv => whnf)
    rw [hw0]
    refine Gets.ixS (es := 1) rfl (by kernel_rfl) (by omega) (by show ((stk.length : Nat) : Int) < ((stk.concat s).length : Nat); omega) ?_
    conv => whnf
    refine Gets.loadN (j := stk.length) (k := .i64) (l := stk.concat s ++ junk) (x := s) (ti := ⟨1, 8, false, [.int .i64 0]⟩) (by kernel_rfl) rfl rfl (by simp) (by simp) ?_
    conv => whnf
    repeat (refine Gets.of _ rfl ?_; conv => whnf)
    rw [hw0]
    refine Gets.sliceHi (ti := ⟨1, 8, false, [.int .i64 0]⟩) (k := stk.length) rfl (by kernel_rfl) rfl rfl (by show stk.length ≤ (stk.concat s).length; omega) ?_
    conv => whnf
    refine CallS.round (r := loop19) rfl rfl (by kernel_rfl) ?_
    intro ρ
    conv => whnf
    refine ⟨loop19, rfl, rfl, ?_⟩
    conv => whnf
    repeat (refine Gets.of _ rfl ?_; conv => whnf)
    refine Gets.ixS (es := 1) rfl (by kernel_rfl) hs0' (by omega) ?_
    conv => whnf
    refine Gets.storeB (j := s.toNat) (es := 1) (l := out) (ti := ⟨1, 1, false, [.bool false]⟩) (by kernel_rfl) rfl rfl (by simp) (by rw [hD.olen]; omega) ?_
    conv => whnf
    refine ⟨{ loop19 with state := .busy }, rfl, ?_⟩
    conv => whnf
    refine ⟨Nat.le_refl _, ?_⟩
    conv => whnf
    repeat (refine Gets.of _ rfl ?_; conv => whnf)
    have hsl : s.toNat < rows.length := by omega
    obtain ⟨r, hr⟩ : ∃ r, rows[s.toNat]? = some r := ⟨_, List.getElem?_eq_getElem hsl⟩
    refine Gets.ixS (es := 1) rfl (by kernel_rfl) hs0' (by omega) ?_
    conv => whnf
    refine Gets.loadAt (j := s.toNat) (v := rowV (10 + s.toNat) 1 r) (ti := ⟨1, 24, false, [.nilSlice]⟩) (by kernel_rfl) rfl (by simp) (by show (rowVg (fun t => 10 + t) 1 rows)[s.toNat]? = _; rw [rowVg_get, hr]; rfl) ?_
    have hrget : (a.byN a.es.length).getD s.toNat [] = r := by rw [hrows, List.getD_eq_getElem?_getD, hr]; rfl
    obtain ⟨hD', hC'⟩ := Au.Df.pop ho hD hC
    rw [hrget] at hC'
    have hmem : ∀ i ∈ r, ∃ k : Nat, i = (k : Int) ∧ ∃ h : k < a.es.length, a.es[k].fr.toNat = s.toNat := by
      intro i hi
      rw [← hrget] at hi
      obtain ⟨k, h1, h2, h3⟩ := (Au.byN_mem ho a.es.length (Nat.le_refl _) s.toNat (by omega) i).1 hi
      unfold Au.frN at h3
      rw [List.getElem?_eq_getElem h2] at h3
      exact ⟨k, h1, h2, h3⟩
    have hrlen : r.length ≤ a.es.length := by have := a.byN_row a.es.length s.toNat; rw [hrget] at this; exact this
    have hself : (setT out s)[s.toNat]? = some true := (setT_get (by rw [hD.olen]; omega)).2 (.inl rfl)
    have hsm2 : stk.length + 2 * falses seen < 2 ^ 31 - 1 := by simp at hsm; omega
    clear hD hC hsm
    have hemb : Emb 7 (Au.k10 rows.length) (a.FR (setT out s) rows seen (stk ++ (s :: junk)) ((((a.FR out rows seen (stk.concat s ++ junk) ver1).set 6 (.loop { loop19 with state := .busy })).set 3 (.cells 1 (bls (out.set s.toNat true)))).set 6 (.loop { loop19 with state := .ready, pending := none })).ver) ((((a.FR out rows seen (stk.concat s ++ junk) ver1).set 6 (.loop { loop19 with state := .busy })).set 3 (.cells 1 (bls (out.set s.toNat true)))).set 6 (.loop { loop19 with state := .ready, pending := none })) := by
      refine Au.FR_at rfl (fun i hi => ?_) rfl rfl ?_ (fun t y l h => ?_)
      · rcases i with _ | _ | _ | _ | _ | _ | _ | i <;> first | rfl | omega
      · show ABlk.cells 1 (ints (stk.concat s ++ junk)) = _
        rw [List.concat_eq_append, List.append_assoc]
        rfl
      · rw [set_f, if_neg (by omega), set_f, if_neg (by omega), set_f, if_neg (by omega), a.FR_row _ _ _ _ _ h]
    generalize hver : ((((a.FR out rows seen (stk.concat s ++ junk) ver1).set 6 (.loop { loop19 with state := .busy })).set 3 (.cells 1 (bls (out.set s.toNat true)))).set 6 (.loop { loop19 with state := .ready, pending := none })).ver = ver2 at hemb
    have gv2 : ∀ i, i < 3 → ver2 i = ver i := by
      intro i hi
      rw [← hver, set_ver, if_neg (by omega), set_ver, if_neg (by omega), set_ver, if_neg (by omega)]
      exact gv i hi
    clear hver
    rcases r with _ | ⟨x, r⟩
    all_goals conv => whnf
    · repeat (refine Gets.of _ rfl ?_; conv => whnf)
      refine CodeS.loopG (σ := Unit) (fun _ => [(0, .yield 6), (1, .ptr 5 0), (3, .slice 7 0 a.states.toNat), (4, .slice 8 0 a.states.toNat), (5, .slice 9 0 stk.length), (51, .nilSlice), (52, .int .i64 0), (53, .int .i64 0)]) (fun _ => a.FR (setT out s) rows seen (stk ++ (s :: junk)) ver2) (fun _ => True) (fun _ => 0) () (Au.k10 rows.length) (by kernel_rfl)
        trivial ⟨rfl, rfl, rfl, rfl, rfl, rfl, rfl, rfl, trivial⟩ hemb ?_
      rintro _ _
      conv => whnf
      refine Fork.mk (fun h => absurd h (by decide)) (fun _ => ?_)
      conv => whnf
      refine ⟨(setT out s, seen, stk, s :: junk, ver2), fun i => i, ⟨hD', hC', by show stk.length + 2 * falses seen < 2 ^ 31; omega, gv2⟩, by show 2 * falses seen + stk.length < 2 * falses seen + (stk.concat s).length; omega, ⟨rfl, rfl, rfl, rfl, rfl, trivial⟩, Emb.id (by show 7 ≤ 10 + rows.length; omega)⟩
    · repeat (refine Gets.of _ rfl ?_; conv => whnf)
      refine CodeS.loopG (σ := Nat × List Bool × List Int × List Int × (Nat → Nat)) (fun u => [(0, .yield 6), (1, .ptr 5 0), (3, .slice 7 0 a.states.toNat), (4, .slice 8 0 a.states.toNat), (5, .slice 9 0 u.2.2.1.length), (51, .slice (10 + s.toNat) 0 ((x :: r).length / 1)), (52, .int .i64 ((x :: r).length / 1 : Nat)), (53, .int .i64 u.1)]) (fun u => a.FR (setT out s) rows u.2.1 (u.2.2.1 ++ u.2.2.2.1) u.2.2.2.2) (fun u => u.1 ≤ (x :: r).length ∧ a.Df (setT out s) u.2.1 u.2.2.1 ∧ a.Cl (setT out s) u.2.1 ((x :: r).drop u.1) ∧ u.2.2.1.length + 2 * falses u.2.1 ≤ stk.length + 2 * falses seen ∧ ∀ i, i < 3 → u.2.2.2.2 i = ver i) (fun u => (x :: r).length - u.1) (0, seen, stk, s :: junk, ver2) (Au.k10 rows.length) (by kernel_rfl)
        ⟨Nat.zero_le _, hD', hC', Nat.le_refl _, gv2⟩ ⟨rfl, rfl, rfl, rfl, rfl, congrArg (fun i => AVal.slice i 0 ((x :: r).length / 1)) (Au.k10_row hsl).symm, rfl, rfl, trivial⟩ hemb ?_
      have hx0 : falses seen + 0 = falses seen := rfl
      generalize hM : stk.length + 2 * falses seen = M at *
      rintro ⟨j, seen1, stk1, junk1, ver3⟩ ⟨g1, hD1, hC1, hM1, gv3⟩
      dsimp only at g1 hD1 hC1 hM1 gv3
      conv => whnf
      refine Fork.mk (fun hc => ?_) (fun hc => ?_)
      all_goals conv => whnf
      · have hc : j < (x :: r).length := by simp only [decide_eq_true_eq] at hc; omega
        refine Gets.ixS (es := 1) rfl (by kernel_rfl) (by omega) (by show ((j : Nat) : Int) < ((x :: r).length / 1 : Nat); omega) ?_
        conv => whnf
        obtain ⟨k, hk, hkl, hkf⟩ := hmem _ (List.getElem_mem hc)
        refine Gets.loadN (j := j) (k := .i64) (l := x :: r) (x := (k : Int)) (ti := ⟨1, 8, false, [.int .i64 0]⟩) (by kernel_rfl) rfl (by rw [a.FR_row _ _ _ _ _ hr]; rfl) (by simp) (by rw [List.getElem?_eq_getElem hc, hk]) ?_
        have hdrop : (x :: r).drop j = (k : Int) :: (x :: r).drop (j + 1) := by rw [List.drop_eq_getElem_cons hc, hk]
        rw [hdrop] at hC1
        have hok := ho.2.2 _ (List.getElem_mem hkl)
        obtain ⟨_, _, ht0, ht1, _⟩ := hok
        have hlen := hD1.mkd.len
        conv => whnf
        repeat (refine Gets.of _ rfl ?_; conv => whnf)
        refine Gets.ixV (es := 5) rfl (by kernel_rfl) (by omega) (by omega) ?_
        conv => whnf
        refine Gets.loadF (j := k) (f := 1) (es := a.es) (x := a.es[k].to) (ti := ⟨1, 8, false, [.int .i64 0]⟩) (by kernel_rfl) rfl rfl (by show 0 + (k : Int).toNat * 5 + 1 = _; rw [Int.toNat_natCast]; omega) hkl rfl ?_
        have hpush := fun h => Au.Df.push ho hkl hD1 hC1 h
        have hskip := fun h => Au.Cl.skip hkl hC1 h
        rw [hkf] at hpush
        generalize a.es[k].to = t at ht0 ht1 hpush hskip
        obtain ⟨bt, hbt⟩ : ∃ b, seen1[t.toNat]? = some b := ⟨_, List.getElem?_eq_getElem (by omega)⟩
        have hw : IntKind.wrap .i64 ((j : Int) + 1) = ((j + 1 : Nat) : Int) := by rw [wrap_i64 (by omega) (by omega)]; rfl
        conv => whnf
        refine Gets.ixS (es := 1) rfl (by kernel_rfl) ht0 (by omega) ?_
        conv => whnf
        refine Gets.loadB (j := t.toNat) (l := seen1) (b := bt) (ti := ⟨1, 1, false, [.bool false]⟩) (by kernel_rfl) rfl rfl (by simp) hbt ?_
        cases bt
        all_goals conv => whnf
        · refine Gets.ixS (es := 1) rfl (by kernel_rfl) ht0 (by omega) ?_
          conv => whnf
          refine Gets.storeB (j := t.toNat) (es := 1) (l := seen1) (ti := ⟨1, 1, false, [.bool false]⟩) (by kernel_rfl) rfl rfl (by simp) (by omega) ?_
          conv => whnf
          refine Gets.appendP (l := stk1) (junk := junk1) (k := .i64) (x := t) (ti := ⟨1, 8, false, [.int .i64 0]⟩) (d := .slice 3) (by kernel_rfl) (by kernel_rfl) rfl rfl rfl (by decide) rfl (if_pos rfl) ?_ (by show stk1.length < _; omega) ?_
          · rw [alloc_f, if_neg (by show ¬ 9 = 10 + rows.length; omega), set_f, if_neg (by decide)]
            rfl
          conv => whnf
          obtain ⟨hD2, hC2⟩ := hpush hself
          have hfs := falses_set hbt
          refine ⟨(j + 1, setT seen1 t, stk1 ++ [t], [], ((((((a.FR (setT out s) rows seen1 (stk1 ++ junk1) ver3).set 8 (.cells 1 (bls (seen1.set t.toNat true)))).alloc (.cells 1 [.int .i64 t])).set 9 .dead).alloc (.cells 1 (nums .i64 (stk1 ++ [t]))))).ver), rk [0, 1, 2, 3, 4, 5, 6, 7, 8, 10 + rows.length + 1] (fun t => 10 + t) rows.length (10 + rows.length + 1 + 1), ⟨by show j + 1 ≤ _; omega, hD2, hC2, by show (stk1 ++ [t]).length + 2 * falses (setT seen1 t) ≤ M; rw [List.length_append]; show stk1.length + 1 + _ ≤ M; omega, fun i hi => by show (if i = 9 then _ else if i = 8 then _ else ver3 i) = _; rw [if_neg (by omega), if_neg (by omega)]; exact gv3 i hi⟩, by show (x :: r).length - (j + 1) < (x :: r).length - j; omega, ⟨rfl, rfl, rfl, rfl, ?_, ?_, rfl, congrArg (AVal.int .i64) hw, trivial⟩, ?_⟩
          · show AVal.slice (10 + rows.length + 1) 0 (stk1.length + 1) = .slice (10 + rows.length + 1) 0 (stk1 ++ [t]).length
            rw [List.length_append]
            rfl
          · exact congrArg (fun i => AVal.slice i 0 ((x :: r).length / 1)) (rk_row (ks := [0, 1, 2, 3, 4, 5, 6, 7, 8, 10 + rows.length + 1]) (g := fun t => 10 + t) hsl).symm
          · show Emb 7 _ (a.FR (setT out s) rows (setT seen1 t) ((stk1 ++ [t]) ++ []) _) _
            rw [List.append_nil]
            refine Au.FR_emb (H := ((((a.FR (setT out s) rows seen1 (stk1 ++ junk1) ver3).set 8 (.cells 1 (bls (seen1.set t.toNat true)))).alloc (.cells 1 [.int .i64 t])).set 9 .dead).alloc (.cells 1 (nums .i64 (stk1 ++ [t])))) 8 (10 + rows.length + 1) (fun t => 10 + t) rfl (by omega) (by omega) (by omega) (fun q hq => by omega) (fun p q h => by omega) (fun i hi => ?_) ?_ ?_ (if_pos rfl) (fun q y l h => ?_)
            · rw [alloc_f, if_neg (by show ¬ i = 10 + rows.length + 1; omega), set_f, if_neg (by omega), alloc_f, if_neg (by show ¬ i = 10 + rows.length; omega), set_f, if_neg (by omega), a.FR_lit _ _ _ _ _ hi]
            · rw [alloc_f, if_neg (by show ¬ 7 = 10 + rows.length + 1; omega), set_f, if_neg (by omega), alloc_f, if_neg (by show ¬ 7 = 10 + rows.length; omega), set_f, if_neg (by omega)]
              rfl
            · rw [alloc_f, if_neg (by show ¬ 8 = 10 + rows.length + 1; omega), set_f, if_neg (by omega), alloc_f, if_neg (by show ¬ 8 = 10 + rows.length; omega), set_f, if_pos rfl]
              rfl
            · have hq := (List.getElem?_eq_some_iff.1 h).1
              rw [alloc_f, if_neg (by show ¬ 10 + q = 10 + rows.length + 1; omega), set_f, if_neg (by omega), alloc_f, if_neg (by show ¬ 10 + q = 10 + rows.length; omega), set_f, if_neg (by omega), a.FR_row _ _ _ _ _ h]
        · refine ⟨(j + 1, seen1, stk1, junk1, ver3), Au.k10 rows.length, ⟨by show j + 1 ≤ _; omega, hD1, hskip hbt, hM1, gv3⟩, by show (x :: r).length - (j + 1) < (x :: r).length - j; omega, ⟨rfl, rfl, rfl, rfl, rfl, congrArg (fun i => AVal.slice i 0 ((x :: r).length / 1)) (Au.k10_row hsl).symm, rfl, congrArg (AVal.int .i64) hw, trivial⟩, ?_⟩
          exact Au.FR_at (H := a.FR (setT out s) rows seen1 (stk1 ++ junk1) ver3) rfl (fun i hi => a.FR_lit _ _ _ _ _ hi) rfl rfl rfl (fun t y l h => a.FR_row _ _ _ _ _ h)
      · have hje : j = (x :: r).length := by simp only [decide_eq_false_iff_not] at hc; omega
        subst hje
        rw [List.drop_length] at hC1
        refine ⟨(setT out s, seen1, stk1, junk1, ver3), fun i => i, ⟨hD1, hC1, by show stk1.length + 2 * falses seen1 < 2 ^ 31; omega, gv3⟩, by show 2 * falses seen1 + stk1.length < 2 * falses seen + (stk.concat s).length; omega, ⟨rfl, rfl, rfl, rfl, rfl, trivial⟩, Emb.id (by show 7 ≤ 10 + rows.length; omega)⟩
  · simp only [decide_eq_false_iff_not, gt_iff_lt] at hc
    have hnil : stk = [] := List.length_eq_zero_iff.1 (by omega)
    subst hnil
    have hcl : Closed (a.F out ver1) := by
      intro i hi κ hκ
      have hi : i < 7 := hi
      have k : ∀ i, i < 7 → κ i = i := fun i h => hκ i h
      rcases i with _ | _ | _ | _ | _ | _ | _ | i
      · show renB κ (.ro 1 (ints a.start)) = _; rw [renB, rens_ints]; rfl
      · show renB κ (.ro 5 (ints (flat a.es))) = _; rw [renB, rens_ints]; rfl
      · show renB κ a.boxS = a.boxS; simp [Au.boxS, renB, rens, ren, k]
      · show renB κ (.cells 1 (bls out)) = _; rw [renB, rens_bls]; rfl
      · show renB κ (.cells 1 [.slice 3 0 a.states.toNat]) = .cells 1 [.slice 3 0 a.states.toNat]; simp [renB, rens, ren, k]
      · show renB κ a.boxS = a.boxS; simp [Au.boxS, renB, rens, ren, k]
      · exact loop19_ren (k 4 (by decide))
      · omega
    exact ⟨_, .tuple [], a.F out ver1, Emb.pre (n0 := 7) hcl (by show 7 ≤ 10 + rows.length; omega) (by show 7 ≤ 7; decide) (fun i hi => a.FR_lit _ _ _ _ _ hi) (fun i hi => rfl), rfl, rfl, out, ver1, rfl, hD.done hC, gv⟩
end Go.Proofs.Ytdahmcgncpoliaa
