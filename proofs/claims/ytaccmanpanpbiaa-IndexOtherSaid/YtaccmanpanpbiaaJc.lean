/- reach of the reference. -/
import Derived.Test.YtaccmanpanpbiaaJb
import Derived.Test.YtaccmanpanpbiaaJa
import Derived.Test.YtaccmanpanpbiaaVnA
-- VkG VkH VmA
set_option linter.unusedVariables false
set_option linter.unusedSimpArgs false
set_option maxRecDepth 100000
set_option maxHeartbeats 4000000
namespace Go.Proofs.Ytaccmanpanpbiaa
open Go Go.Vh Go.Vk Go.Vn Go.Proofs
open Classical
/-- The arcs that are let through. -/
noncomputable def letB (c : Cond) (a : Arc) : Bool := decide (Off a.marks c.never ∧ Off a.other c.never2)
/-- Where the first j arcs lead from each node. -/
noncomputable def nextN (n : Nat) (arcs : List Arc) (c : Cond) : Nat → List (List Int)
  | 0 => List.replicate n []
  | j + 1 => match arcs[j]? with
    | some a => if letB c a = true then (nextN n arcs c j).set a.fr ((nextN n arcs c j).getD a.fr [] ++ [(a.to : Int)]) else nextN n arcs c j
    | none => nextN n arcs c j
theorem nextN_length (n : Nat) (arcs : List Arc) (c : Cond) : ∀ j, (nextN n arcs c j).length = n
  | 0 => by simp [nextN]
  | j + 1 => by
    unfold nextN
    split
    · split
      · rw [List.length_set]; exact nextN_length n arcs c j
      · exact nextN_length n arcs c j
    · exact nextN_length n arcs c j
theorem nextN_row (n : Nat) (arcs : List Arc) (c : Cond) : ∀ j s, ((nextN n arcs c j).getD s []).length ≤ j
  | 0, s => by
    rw [nextN, List.getD_eq_getElem?_getD, List.getElem?_replicate]
    split <;> simp
  | j + 1, s => by
    have h1 := nextN_row n arcs c j s
    unfold nextN
    split
    · rename_i a ha
      have h2 := nextN_row n arcs c j a.fr
      split
      · rw [List.getD_eq_getElem?_getD, List.getElem?_set]
        rw [List.getD_eq_getElem?_getD] at h1
        split
        · split
          · simp only [Option.getD_some, List.length_append, List.length_singleton]; omega
          · simp
        · omega
      · omega
    · omega
theorem getD_some {α : Type} {l : List α} {i : Nat} {x d : α} (h : l[i]? = some x) : l.getD i d = x := by rw [List.getD_eq_getElem?_getD, h]; rfl
/-- The rows tell where arcs lead. -/
theorem nextN_spec {n : Nat} {arcs : List Arc} {c : Cond} (hi : InR n arcs) : ∀ j, j ≤ arcs.length → ∀ i, i < n → ∃ ks : List Nat, (nextN n arcs c j)[i]? = some (ks.map Int.ofNat) ∧ ∀ k, k ∈ ks ↔ ∃ a ∈ arcs.take j, letB c a = true ∧ a.fr = i ∧ a.to = k
  | 0, _, i, hin => ⟨[], by rw [nextN, List.getElem?_replicate, if_pos hin]; rfl, fun k => ⟨fun h => (by cases h), fun ⟨a, ha, _⟩ => (by rw [List.take_zero] at ha; cases ha)⟩⟩
  | j + 1, hj, i, hin => by
    obtain ⟨a, ha⟩ := getE (l := arcs) (j := j) hj
    obtain ⟨ks, h1, h2⟩ := nextN_spec hi j (by omega) i hin
    have htk : arcs.take (j + 1) = arcs.take j ++ [a] := by
      obtain ⟨_, rfl⟩ := List.getElem?_eq_some_iff.1 ha
      exact List.take_succ_eq_append_getElem hj
    have hl := nextN_length n arcs c j
    have hno : ¬ (letB c a = true ∧ a.fr = i) → ∃ ks : List Nat, (nextN n arcs c j)[i]? = some (ks.map Int.ofNat) ∧ ∀ k, k ∈ ks ↔ ∃ a ∈ arcs.take (j + 1), letB c a = true ∧ a.fr = i ∧ a.to = k := fun hn => ⟨ks, h1, fun k => by
      rw [h2 k, htk]
      constructor
      · rintro ⟨b, hb, h⟩; exact ⟨b, List.mem_append_left _ hb, h⟩
      · rintro ⟨b, hb, h⟩
        rcases List.mem_append.1 hb with hb | hb
        · exact ⟨b, hb, h⟩
        · rw [List.mem_singleton.1 hb] at h; exact absurd ⟨h.1, h.2.1⟩ hn⟩
    unfold nextN
    rw [ha]
    dsimp only
    by_cases hb : letB c a = true
    · rw [if_pos hb]
      by_cases hf : a.fr = i
      · subst hf
        refine ⟨ks ++ [a.to], ?_, fun k => ?_⟩
        · rw [List.getElem?_set, if_pos rfl, if_pos (by rw [hl]; exact hin), getD_some h1, List.map_append]; rfl
        · rw [List.mem_append, h2 k, htk]
          constructor
          · rintro (⟨b, hb', h⟩ | h)
            · exact ⟨b, List.mem_append_left _ hb', h⟩
            · exact ⟨a, List.mem_append_right _ (List.mem_singleton.2 rfl), hb, rfl, (List.mem_singleton.1 h).symm⟩
          · rintro ⟨b, hb', h⟩
            rcases List.mem_append.1 hb' with hb' | hb'
            · exact .inl ⟨b, hb', h⟩
            · rw [List.mem_singleton.1 hb'] at h
              exact .inr (List.mem_singleton.2 h.2.2.symm)
      · obtain ⟨ks', g1, g2⟩ := hno fun h => hf h.2
        refine ⟨ks', ?_, g2⟩
        rw [List.getElem?_set, if_neg hf]; exact g1
    · rw [if_neg hb]
      exact hno fun h => hb h.1
theorem step_rows {n : Nat} {arcs : List Arc} {c : Cond} (hi : InR n arcs) {i : Nat} (hin : i < n) : ∃ ks : List Nat, (nextN n arcs c arcs.length)[i]? = some (ks.map Int.ofNat) ∧ (∀ k, k ∈ ks ↔ Step1 arcs c i k) ∧ ks.length ≤ arcs.length := by
  obtain ⟨ks, h1, h2⟩ := nextN_spec hi arcs.length (Nat.le_refl _) i hin (c := c)
  refine ⟨ks, h1, fun k => ?_, ?_⟩
  · rw [h2 k, List.take_length]
    constructor
    · rintro ⟨a, ha, hb, hf, ht⟩
      exact ⟨a, ⟨ha, (of_decide_eq_true hb).1, (of_decide_eq_true hb).2⟩, hf, ht⟩
    · rintro ⟨a, ⟨ha, hb1, hb2⟩, hf, ht⟩
      exact ⟨a, ha, decide_eq_true ⟨hb1, hb2⟩, hf, ht⟩
  · have := nextN_row n arcs c arcs.length i
    rw [getD_some h1, List.length_map] at this
    exact this
theorem Gets.appBl {P : Program} {H : AHeap} {t tx : TypeId} {ti : TI} {d : TypeDesc} {i : Nat} {l : List Bool} {A : AVal × AHeap → Prop} (ht : sliceT P t = some ti) (hd : P.underlying tx = some d) (hr : rowD d = true) (hsz : ti.size = 1) (hz : ti.zero.length = 1) (hb : ti.bytes ≤ 4096)
    (hi : H.f i = .cells 1 []) (hm : l.length ≤ 4294967296) (hA : A (.slice H.n 0 l.length, (H.set i .dead).alloc (.cells 1 (bls l)))) : Gets (builtA P H .append [t, tx] [.slice i 0 0, .row l.length (bls l)]) A := by
  refine Gets.appG (es := 1) (cs := []) (xs := bls l) (m := 0) (n := l.length) ht hd hr hsz hz hb hi ?_ (Nat.le_refl _) (by omega) ?_ ?_
  · simp only [srcA, bls_length, Nat.mul_one, if_true]
  · exact List.all_eq_true.2 fun v hv => by obtain ⟨b, _, rfl⟩ := List.mem_map.1 hv; rfl
  · rw [Nat.zero_add]; exact hA
/-- The nodes to go on from, as a row that grows from nothing behind one block. -/
def stV (l : List Nat) : AVal := match l with
  | [] => .nilSlice
  | x :: l => .slice 1 0 (x :: l).length
def stH (B : ABlk) (l : List Nat) : AHeap := match l with
  | [] => emptyH.alloc B
  | x :: l => (emptyH.alloc B).alloc (.cells 1 (ints ((x :: l).map Int.ofNat)))
theorem filter_next (good : Nat → Bool) (i : Nat) : (List.range (i + 1)).filter good = (List.range i).filter good ++ (if good i = true then [i] else []) := by
  rw [List.range_succ, List.filter_append]
  congr 1
  cases h : good i <;> simp [h]
theorem CodeS.re {P : Program} {N n0 : Nat} {ρ : Option Nat} (cuts : List Nat) (el : List (Nat × AVal)) (G : AHeap) (κ : Nat → Nat) {c : Code} {e : Env} {H : AHeap} {K : Exit → Env → AHeap → Prop} (hok : okCode N c = true) (hk : keepsR κ el e) (hE : EmbL n0 κ G H)
    (h : sc P N ρ n0 cuts c (envOf el) G K) : CodeS P N ρ n0 c e H K := ⟨CWF.gcL hE (keepsR_spec _ hk) (sc_sound c _ _ _ hok h)⟩
theorem letB_iff {c : Cond} {a : Arc} : letB c a = true ↔ a.marks &&& c.never = 0 ∧ a.other &&& c.never2 = 0 := by
  unfold letB
  rw [decide_eq_true_iff, off_iff, off_iff]
theorem Gets.ldIv {P : Program} {H : AHeap} {t : TypeId} {i off : Nat} {l : List Int} {x : Int} {A : AVal → Prop} (ht : tinfo P t = some tiI) (hf : (H.f i).cs = ints l) (h : l[off]? = some x) (hA : A (.int .i64 x)) : Gets (loadA P H t (.ptr i off)) A := by
  obtain ⟨h1, h2⟩ := List.getElem?_eq_some_iff.1 h
  refine Gets.ldI ht hf h1 ?_
  rw [List.getD_eq_getElem?_getD, h]; exact hA
theorem count_filter (good : Nat → Bool) : ∀ n, ((List.range n).map good).count false + ((List.range n).filter good).length = n
  | 0 => rfl
  | n + 1 => by
    have := count_filter good n
    rw [List.range_succ, List.map_append, List.filter_append, List.count_append, List.length_append]
    cases h : good n <;> simp [h] <;> omega
theorem reachR : ReachT := by
  intro n arcs good c hi hc H
  have hn1 := hi.n1
  have hl1 := hi.len
  refine CallW.pure ?_ rfl H
  refine CallW.symK (cuts := [2, 9]) Try.func145 rfl (by kernel_rfl) ?_
  conv => whnf
  have hgl : ((List.range n).map good).length = n := by simp
  repeat' ((refine Gets.appBl rfl rfl rfl rfl rfl (by decide) rfl (by rw [hgl]; omega) ?_); conv => whnf)
  refine CodeS.re [6, 9] [(0, .int .i64 (n : Int)), (1, rA arcs), (7, .ptr 0 0), (9, .slice 1 0 n)] ((emptyH.alloc (.cells 1 (ints (prs c)))).alloc (.cells 1 (bls ((List.range n).map good)))) (renL [0, 2] 3) (by kernel_rfl) ⟨rfl, rfl, rfl, congrArg (AVal.slice 2 0) hgl, trivial⟩ (EmbL.litsN [0, 2] rfl rfl rfl rfl .nil (.cons ⟨rfl, .inl rfl⟩ (.cons ⟨rfl, .cellsB⟩ .nil))) ?_
  conv => whnf
  repeat' first | ((refine Gets.makeRows (ti := ⟨1, 24, false, [.nilSlice]⟩) (by kernel_rfl) rfl rfl (by decide) (by omega) (by omega) ?_); conv => whnf) | (refine Gets.of _ rfl ?_; conv => whnf)
  have hlN := fun j => nextN_length n arcs c j
  have hA := clean_ints 1 (prs c)
  have hB := clean_bls 1 ((List.range n).map good)
  refine CodeS.loopGK (cuts := [6, 9]) (σ := Nat) (fun j => [(7, .ptr 0 0), (9, .slice 1 0 n), (10, .slice 2 0 n), (24, rA arcs), (25, .int .i64 (arcs.length : Int)), (26, .int .i64 (j : Int))]) (fun j => rowsAt (G3 (.cells 1 (ints (prs c))) (.cells 1 (bls ((List.range n).map good))) 1 3 (nextN n arcs c j)) 1 (nextN n arcs c j)) (fun j => j ≤ arcs.length) (fun j => arcs.length - j) 0 (rk [0, 1, 2] (fun _ => 0) n 3) (by kernel_rfl) (Nat.zero_le _) ⟨rfl, rfl, rfl, rfl, rfl, rfl, trivial⟩ (nest_start hA hB 1 n) ?_
  intro j hj
  rcases Nat.lt_or_ge j arcs.length with hjl | hjl
  · obtain ⟨a, ha⟩ := getE hjl
    have ham : a ∈ arcs := List.mem_of_getElem? ha
    have hfr := hi.fr a ham
    have hto := hi.to a ham
    have hmk := hi.mks a ham
    have hrl := nextN_row n arcs c j a.fr
    have hnx : nextN n arcs c (j + 1) = if letB c a = true then (nextN n arcs c j).set a.fr ((nextN n arcs c j).getD a.fr [] ++ [(a.to : Int)]) else nextN n arcs c j := by
      rw [nextN, ha]
    have hlj := hlN j
    generalize nextN n arcs c j = rows at hrl hnx hlj
    conv => whnf
    repeat' first | ((refine Gets.ixRE (es := 4) rfl (by kernel_rfl) (by omega) ?_); conv => whnf) | ((refine Gets.ldRK recA rfl rfl rfl rfl ha ?_); conv => whnf) | (refine Fork.dec (fun _ => ?_) (fun _ => ?_) <;> first | (exfalso; omega) | (conv => whnf))
    refine Gets.storeAll (es := 1) (cs := [.int .i64 0, .int .i64 0, .int .i64 0, .int .i64 0]) (ti := ⟨4, 32, true, [.int .i64 0, .int .i64 0, .int .i64 0, .int .i64 0]⟩) (by kernel_rfl) rfl rfl (by simp only [alloc_f, if_true]; rfl) rfl ?_
    conv => whnf
    refine CodeS.re [9] [(7, .ptr 0 0), (9, .slice 1 0 n), (10, .slice 2 0 n), (12, .ptr 3 0), (24, rA arcs), (25, .int .i64 (arcs.length : Int)), (26, .int .i64 (j : Int))] (rowsAt (G4 (.cells 1 (ints (prs c))) (.cells 1 (bls ((List.range n).map good))) 1 rows (.cells 1 (ints (acs a)))) 1 rows) (rk [0, 1, 2, 3 + rows.length] (fun s => 3 + s) rows.length (4 + rows.length)) (by kernel_rfl) ⟨rfl, rfl, rfl, rfl, rfl, rfl, rfl, trivial⟩ (nest_pull hA hB (clean_ints 1 (acs a)) 1 rows _) ?_
    have hand1 := Vh.andI (m := a.marks) (n := c.never) (by omega) (by have := hc.c1; omega)
    have hand2 := Vh.andI (m := a.other) (n := c.never2) (by omega) (by have := hc.c3; omega)
    conv => whnf
    repeat' first | ((with_reducible refine Gets.addI ?_ ?_ ?_); (· omega); (· omega); conv => whnf) | (refine Gets.of _ rfl ?_; conv => whnf) | (refine Fork.dec (fun _ => ?_) (fun _ => ?_) <;> first | (exfalso; omega) | (conv => whnf))
    rotate_left
    · rename_i h1 h2
      have hno : ¬ letB c a = true := fun h => h2 (by rw [hand2, (letB_iff.1 h).2]; rfl)
      refine ⟨j + 1, rk [0, 1, 2] (fun s => 4 + s) rows.length (4 + rows.length), hjl, by show arcs.length - (j + 1) < _; omega, ⟨rfl, rfl, rfl, rfl, rfl, rfl, trivial⟩, ?_⟩
      rw [hnx, if_neg hno]
      exact nest_pop hA hB 1 rows _
    · rename_i h1
      have hno : ¬ letB c a = true := fun h => h1 (by rw [hand1, (letB_iff.1 h).1]; rfl)
      refine ⟨j + 1, rk [0, 1, 2] (fun s => 4 + s) rows.length (4 + rows.length), hjl, by show arcs.length - (j + 1) < _; omega, ⟨rfl, rfl, rfl, rfl, rfl, rfl, trivial⟩, ?_⟩
      rw [hnx, if_neg hno]
      exact nest_pop hA hB 1 rows _
    rename_i h1 h2
    have hyes : letB c a = true := letB_iff.2 ⟨by rw [hand1] at h1; omega, by rw [hand2] at h2; omega⟩
    rw [if_pos hyes] at hnx
    have hb2 : 3 ≤ 4 + rows.length := by omega
    have hb3 : 4 ≤ 4 + rows.length := by omega
    refine CodeS.drawT [2, 3] (.take 0 (.take 1 (.take 2 (.take 3 (.take 4 (.take 5 (.take 6 (.take 7 (.take 8 (.take 9 (.one 10 true (.one 11 true (.take 12 (.one 13 false .done)))))))))))))) mixed (by kernel_rfl) (.cons ⟨Nat.ble_eq_true_of_le hb2, trivial⟩ (.cons ⟨Nat.ble_eq_true_of_le hb3, trivial⟩ .nil)) ?_
    conv => whnf
    have hlt : a.fr < rows.length := by omega
    have hget : rows[a.fr]? = some (rows.getD a.fr []) := by rw [List.getD_eq_getElem?_getD, List.getElem?_eq_getElem hlt]; rfl
    have hrow := (rowVg_get (fun s => 4 + s) 1 rows a.fr).trans (congrArg (Option.map _) hget)
    repeat' first | (refine Gets.of _ rfl ?_; conv => whnf) | (refine Gets.ix1 rfl rfl (by omega) ?_; conv => whnf)
    refine Gets.loadAt (j := a.fr) (v := rowV (4 + a.fr) 1 (rows.getD a.fr [])) (ti := ⟨1, 24, false, [.nilSlice]⟩) (by kernel_rfl) rfl rfl hrow ?_
    have hrowf : rows.getD a.fr [] ≠ [] → (rowsAt (G4 (.cells 1 (ints (prs c))) (.cells 1 (bls ((List.range n).map good))) 1 rows (.cells 1 (ints (acs a)))) 1 rows).f (4 + a.fr) = .cells 1 (ints (rows.getD a.fr [])) := by
      intro hne
      cases hq : rows.getD a.fr [] with
      | nil => exact absurd hq hne
      | cons x l =>
        rw [hq] at hget
        exact rows_at (G := G4 _ _ 1 rows _) hget
    generalize rows.getD a.fr [] = r at hget hrow hrl hrowf hnx
    have hstore : ∀ H', (r = [] ∧ H' = (rowsAt (G4 (.cells 1 (ints (prs c))) (.cells 1 (bls ((List.range n).map good))) 1 rows (.cells 1 (ints (acs a)))) 1 rows).alloc (.cells 1 (ints [(a.to : Int)]))) ∨ (r ≠ [] ∧ H' = ((rowsAt (G4 (.cells 1 (ints (prs c))) (.cells 1 (bls ((List.range n).map good))) 1 rows (.cells 1 (ints (acs a)))) 1 rows).alloc (.cells 1 (ints [(a.to : Int)]))).set (4 + a.fr) .dead) → (H'.alloc (.cells 1 (ints (r ++ [(a.to : Int)])))).f 2 = .cells 1 (rowVg (fun t => 4 + t) 1 rows) ∧ H'.n = 4 + rows.length + 1 ∧ H'.ver 2 = 0 ∧ H'.ver 3 = 0 := by
      rintro H' (⟨_, rfl⟩ | ⟨_, rfl⟩)
      · refine ⟨?_, rfl, rfl, rfl⟩
        rw [alloc_f, if_neg (by show ¬ 2 = 4 + rows.length + 1; omega), alloc_f, if_neg (by show ¬ 2 = 4 + rows.length; omega)]
        rfl
      · refine ⟨?_, rfl, ?_, ?_⟩
        · rw [alloc_f, if_neg (by show ¬ 2 = 4 + rows.length + 1; omega), set_f, if_neg (by omega), alloc_f, if_neg (by show ¬ 2 = 4 + rows.length; omega)]
          rfl
        · rw [set_ver, if_neg (by omega)]; rfl
        · rw [set_ver, if_neg (by omega)]; rfl
    have hrm : rows[a.fr]? = some r := hget
    rcases r with _ | ⟨x, r⟩
    all_goals
      conv => whnf
      repeat' first | (refine Gets.of _ rfl ?_; conv => whnf) | (refine Chk.mk (by repeat first | exact .nil | refine .cons rfl ?_) ?_; conv => whnf)
    · refine Gets.appendRow (es := 1) (b := 4 + a.fr) (r := []) (y := (a.to : Int)) (x := []) (ti := ⟨1, 8, false, [.int .i64 0]⟩) (d := .slice 3) (by kernel_rfl) (by kernel_rfl) rfl rfl rfl (by decide) (by decide) rfl (if_pos rfl) (fun h => absurd rfl h) ⟨0, rfl, by decide⟩ ?_
      intro H' h'
      obtain ⟨s1, s2, s3, s4⟩ := hstore H' h'
      conv => whnf
      refine Chk.mk (.cons s3 (.cons s4 .nil)) ?_
      conv => whnf
      repeat' (refine Gets.ix1 rfl rfl (by omega) ?_; conv => whnf)
      refine Gets.storeAt (j := a.fr) (ti := ⟨1, 24, false, [.nilSlice]⟩) (by kernel_rfl) rfl rfl rfl s1 rfl (by rw [rowVg_length]; exact hlt) ?_
      conv => whnf
      repeat' ((with_reducible refine Gets.addI ?_ ?_ ?_); (· omega); (· omega); conv => whnf)
      refine ⟨j + 1, rk [0, 1, 2] (fun t => if t = a.fr then 4 + rows.length + 1 else 4 + t) rows.length (6 + rows.length), hjl, by show arcs.length - (j + 1) < _; omega, ⟨rfl, rfl, rfl, rfl, rfl, rfl, trivial⟩, ?_⟩
      rw [hnx]
      exact nest_push hA hB 1 rows _ a.fr hlt _ _ _ _ H' h'
    · refine Gets.appendRow (es := 1) (b := 4 + a.fr) (r := x :: r) (y := (a.to : Int)) (x := []) (ti := ⟨1, 8, false, [.int .i64 0]⟩) (d := .slice 3) (by kernel_rfl) (by kernel_rfl) rfl rfl rfl (by decide) (by decide) rfl (if_pos rfl) (fun h => (if_neg (by show ¬ 4 + a.fr = 4 + rows.length; omega)).trans (hrowf h)) ⟨(x :: r).length, by omega, by omega⟩ ?_
      intro H' h'
      obtain ⟨s1, s2, s3, s4⟩ := hstore H' h'
      conv => whnf
      refine Chk.mk (.cons s3 (.cons s4 .nil)) ?_
      conv => whnf
      repeat' (refine Gets.ix1 rfl rfl (by omega) ?_; conv => whnf)
      refine Gets.storeAt (j := a.fr) (ti := ⟨1, 24, false, [.nilSlice]⟩) (by kernel_rfl) rfl rfl rfl s1 rfl (by rw [rowVg_length]; exact hlt) ?_
      conv => whnf
      repeat' ((with_reducible refine Gets.addI ?_ ?_ ?_); (· omega); (· omega); conv => whnf)
      refine ⟨j + 1, rk [0, 1, 2] (fun t => if t = a.fr then 4 + rows.length + 1 else 4 + t) rows.length (6 + rows.length), hjl, by show arcs.length - (j + 1) < _; omega, ⟨rfl, rfl, rfl, rfl, rfl, rfl, trivial⟩, ?_⟩
      rw [hnx]
      exact nest_push hA hB 1 rows _ a.fr hlt _ _ _ _ H' h'
  · obtain rfl : j = arcs.length := by omega
    have hlj := hlN arcs.length
    generalize hN : nextN n arcs c arcs.length = rows at hlj
    obtain ⟨f1, f2⟩ := frz_nest (.cells 1 (ints (prs c))) (.cells 1 (bls ((List.range n).map good))) (es := 1) (by decide) (rows := rows) (fun l _ => Nat.mod_one _) (n := n) hlj.symm
    have hrk := hlj
    conv => whnf
    repeat' (refine Fork.dec (fun _ => ?_) (fun _ => ?_) <;> first | (exfalso; omega) | (conv => whnf))
    refine CodeS.frzRe [16] (2 :: ksN rows 0 rows.length) [(10, rN 1 rows)] [(9, .slice 0 0 n), (10, rN 1 rows)] (emptyH.alloc (.cells 1 (bls ((List.range n).map good)))) (renL [1] (3 + rows.length)) (by kernel_rfl) f1 (by rintro p hp; rcases List.mem_cons.1 hp with rfl | hp; exact f2; cases hp) ⟨rfl, rfl, trivial⟩ (nest_keep _ _ hB 1 rows) ?_
    conv => whnf
    repeat' (refine Gets.of _ rfl ?_; conv => whnf)
    refine CodeS.loopGK (cuts := [16]) (σ := Nat) (fun i => [(9, .slice 0 0 n), (10, rN 1 rows), (13, stV ((List.range i).filter good)), (60, .slice 0 0 n), (61, .int .i64 (n : Int)), (62, .int .i64 (i : Int))]) (fun i => stH (.cells 1 (bls ((List.range n).map good))) ((List.range i).filter good)) (fun i => i ≤ n) (fun i => n - i) 0 (renL [0] 1) (by kernel_rfl) (Nat.zero_le _) ⟨rfl, rfl, rfl, rfl, rfl, rfl, trivial⟩ (EmbL.litsN [0] rfl rfl rfl rfl .nil (.cons ⟨rfl, .cellsB⟩ .nil)) ?_
    intro i hin
    rcases Nat.lt_or_ge i n with hil | hil
    · have hgi : ((List.range n).map good)[i]? = some (good i) := by simp [hil]
      have hfn := filter_next good i
      have hfl : ((List.range i).filter good).length ≤ i := by have := List.length_filter_le good (List.range i); simpa using this
      generalize (List.range i).filter good = l at hfn hfl
      cases hb : good i
      · rw [hb] at hgi
        rw [hb, if_neg Bool.false_ne_true, List.append_nil] at hfn
        rcases l with _ | ⟨x, l⟩
        · conv => whnf
          repeat' first | ((refine Gets.ldBv rfl rfl hgi ?_); conv => whnf) | ((with_reducible refine Gets.addI ?_ ?_ ?_); (· omega); (· omega); conv => whnf) | (refine Gets.ix1 rfl rfl (by omega) ?_; conv => whnf) | (refine Fork.dec (fun _ => ?_) (fun _ => ?_) <;> first | (exfalso; omega) | (conv => whnf))
          refine ⟨i + 1, renL [0] 1, hil, by omega, ⟨rfl, rfl, by rw [hfn]; rfl, rfl, rfl, rfl, trivial⟩, ?_⟩
          rw [hfn]
          exact EmbL.litsN [0] rfl rfl rfl rfl .nil (.cons ⟨rfl, .cellsB⟩ .nil)
        · conv => whnf
          repeat' first | ((refine Gets.ldBv rfl rfl hgi ?_); conv => whnf) | ((with_reducible refine Gets.addI ?_ ?_ ?_); (· omega); (· omega); conv => whnf) | (refine Gets.ix1 rfl rfl (by omega) ?_; conv => whnf) | (refine Fork.dec (fun _ => ?_) (fun _ => ?_) <;> first | (exfalso; omega) | (conv => whnf))
          refine ⟨i + 1, renL [0, 1] 2, hil, by omega, ⟨rfl, rfl, by rw [hfn]; rfl, rfl, rfl, rfl, trivial⟩, ?_⟩
          rw [hfn]
          exact EmbL.litsN [0, 1] rfl rfl rfl rfl .nil (.cons ⟨rfl, .cellsB⟩ (.cons ⟨rfl, .cellsI⟩ .nil))
      · rw [hb] at hgi
        rw [hb, if_pos rfl] at hfn
        rcases l with _ | ⟨x, l⟩
        · conv => whnf
          repeat' first | ((refine Gets.ldBv rfl rfl hgi ?_); conv => whnf) | ((refine Gets.appNilS (ti := tiI) (n := 1) (xs := ints [(i : Int)]) rfl rfl rfl rfl rfl (by decide) rfl (by decide) (by decide) ?_); conv => whnf) | ((with_reducible refine Gets.addI ?_ ?_ ?_); (· omega); (· omega); conv => whnf) | (refine Gets.ix1 rfl rfl (by omega) ?_; conv => whnf) | (refine Fork.dec (fun _ => ?_) (fun _ => ?_) <;> first | (exfalso; omega) | (conv => whnf))
          refine ⟨i + 1, renL [0, 2] 3, hil, by omega, ⟨rfl, rfl, by rw [hfn]; rfl, rfl, rfl, rfl, trivial⟩, ?_⟩
          rw [hfn]
          exact EmbL.litsN [0, 2] rfl rfl rfl rfl .nil (.cons ⟨rfl, .cellsB⟩ (.cons ⟨rfl, .inl rfl⟩ .nil))
        · have e1 : (x :: l ++ [i]).map Int.ofNat = (x :: l).map Int.ofNat ++ [(i : Int)] := by rw [List.map_append]; rfl
          have e2 : (x :: (l ++ [i])).length = (x :: l).length + 1 := by simp
          conv => whnf
          repeat' first | ((refine Gets.ldBv rfl rfl hgi ?_); conv => whnf) | ((refine Gets.appI1 (ti := tiI) (l := (x :: l).map Int.ofNat) (x := (i : Int)) rfl rfl rfl rfl rfl (by decide) rfl rfl (by simp) (by omega) ?_); conv => whnf) | ((with_reducible refine Gets.addI ?_ ?_ ?_); (· omega); (· omega); conv => whnf) | (refine Gets.ix1 rfl rfl (by omega) ?_; conv => whnf) | (refine Fork.dec (fun _ => ?_) (fun _ => ?_) <;> first | (exfalso; omega) | (conv => whnf))
          refine ⟨i + 1, renL [0, 3] 4, hil, by omega, ⟨rfl, rfl, by rw [hfn]; exact congrArg (AVal.slice 3 0) e2.symm, rfl, rfl, rfl, trivial⟩, ?_⟩
          rw [hfn]
          exact EmbL.litsN [0, 3] rfl rfl rfl rfl .nil (.cons ⟨rfl, .cellsB⟩ (.cons ⟨rfl, .cellsIe e1⟩ .nil))
    · obtain rfl : i = n := by omega
      conv => whnf
      repeat' (refine Fork.dec (fun _ => ?_) (fun _ => ?_) <;> first | (exfalso; omega) | (conv => whnf))
      have hds := DI.start (n := i) (arcs := arcs) (c := c) (good := good)
      have hfl0 := count_filter good i
      generalize (List.range i).filter good = l0 at hds hfl0
      refine CodeS.loopGK (cuts := []) (σ := List Bool × Option (List Nat × List Int)) (fun s => [(9, .slice 0 0 i), (10, rN 1 rows), (13, match s.2 with | none => .nilSlice | some (l, _) => .slice 1 0 l.length)]) (fun s => match s.2 with | none => emptyH.alloc (.cells 1 (bls s.1)) | some (l, junk) => (emptyH.alloc (.cells 1 (bls s.1))).alloc (.cells 1 (ints (l.map Int.ofNat ++ junk)))) (fun s => DI i arcs c good s.1 ((s.2.map (·.1)).getD []) (fun _ => False) ∧ s.1.count false + ((s.2.map (·.1)).getD []).length ≤ i) (fun s => s.1.count false + ((s.2.map (·.1)).getD []).length) (match l0 with | [] => ((List.range i).map good, none) | x :: l => ((List.range i).map good, some (x :: l, []))) (match l0 with | [] => renL [0] 1 | _ => renL [0, 1] 2) (by kernel_rfl) ?_ ?_ ?_ ?_
      · cases l0 <;> exact ⟨hds, Nat.le_of_eq hfl0⟩
      · cases l0 <;> exact ⟨rfl, rfl, rfl, trivial⟩
      · cases l0 with
        | nil => exact EmbL.litsN [0] rfl rfl rfl rfl .nil (.cons ⟨rfl, .cellsB⟩ .nil)
        | cons x l => exact EmbL.litsN [0, 1] rfl rfl rfl rfl .nil (.cons ⟨rfl, .cellsB⟩ (.cons ⟨rfl, .cellsIe (List.append_nil _)⟩ .nil))
      clear hds hfl0
      rintro ⟨outs, st⟩ ⟨hd, hcl⟩
      have hol := hd.len
      rcases st with _ | ⟨l, junk⟩
      · have hd : DI i arcs c good outs [] (fun _ => False) := hd
        have e := hd.done hi
        conv => whnf
        repeat' first | (refine Gets.of _ rfl ?_; conv => whnf) | (refine Fork.noR rfl ?_; conv => whnf)
        exact ⟨[0], _, rfl, frzBl hol.symm rfl rfl, rfl, by rw [e]⟩
      · rcases l.eq_nil_or_concat with rfl | ⟨l, x, rfl⟩
        · have hd : DI i arcs c good outs [] (fun _ => False) := hd
          have e := hd.done hi
          conv => whnf
          repeat' first | (refine Gets.of _ rfl ?_; conv => whnf) | (refine Fork.noR rfl ?_; conv => whnf)
          exact ⟨[0], _, rfl, frzBl hol.symm rfl rfl, rfl, by rw [e]⟩
        · have hol : outs.length = i := hol
          have hcl : outs.count false + (l.concat x).length ≤ i := hcl
          have hd : DI i arcs c good outs (l.concat x) (fun _ => False) := hd
          rw [List.concat_eq_append] at hd hcl ⊢
          obtain ⟨hxn, hxo⟩ := hd.st x (List.mem_append_right _ (List.mem_singleton.2 rfl))
          have hdp := hd.pop
          clear hd
          have e1 : (l ++ [x]).map Int.ofNat ++ junk = l.map Int.ofNat ++ ((x : Int) :: junk) := by rw [List.map_append, List.append_assoc]; rfl
          have e2 : (l ++ [x]).length = l.length + 1 := by simp
          have e5 : ((l.length + 1 : Nat) : Int) - 1 = (l.length : Int) := by omega
          have e3 : (l.map Int.ofNat ++ ((x : Int) :: junk))[l.length]? = some (x : Int) := by rw [List.getElem?_append_right (by simp)]; simp
          dsimp only
          rw [e1, e2]
          rw [e2] at hcl
          obtain ⟨ks, hk1, hk2, hk3⟩ := step_rows hi hxn (c := c)
          rw [hN] at hk1
          have hrl2 : (rows.map fun l => AVal.row (l.length / 1) (ints l)).length = i := by rw [List.length_map]; exact hlj
          have hk4 : (rows.map fun l => AVal.row (l.length / 1) (ints l))[x]? = some (.row ks.length (ints (ks.map Int.ofNat))) := by rw [List.getElem?_map, hk1]; simp
          conv => whnf
          repeat' first | ((refine Gets.subE e5 (by omega) (by omega) ?_); conv => whnf) | ((refine Gets.ldIv rfl rfl e3 ?_); conv => whnf) | ((refine Gets.sliceHi rfl rfl rfl rfl (by omega) ?_); conv => whnf) | ((refine Gets.ldRR rfl rfl hk4 ?_); conv => whnf) | (refine Gets.of _ rfl ?_; conv => whnf) | (refine Gets.ix1 rfl rfl (by omega) ?_; conv => whnf) | (refine Gets.ixR1 rfl rfl (by omega) ?_; conv => whnf) | (refine Fork.dec (fun _ => ?_) (fun _ => ?_) <;> first | (exfalso; omega) | (conv => whnf))
          refine CodeS.loopGK (cuts := []) (σ := List Bool × List Nat × List Int × Nat) (fun s => [(9, .slice 0 0 i), (10, rN 1 rows), (13, .slice 1 0 s.2.1.length), (90, .row ks.length (ints (ks.map Int.ofNat))), (91, .int .i64 (ks.length : Int)), (92, .int .i64 (s.2.2.2 : Int))]) (fun s => (emptyH.alloc (.cells 1 (bls s.1))).alloc (.cells 1 (ints (s.2.1.map Int.ofNat ++ s.2.2.1)))) (fun s => DI i arcs c good s.1 s.2.1 (fun y => y = x) ∧ oB s.1 x = true ∧ s.1.count false + s.2.1.length < i + 1 ∧ s.1.count false + s.2.1.length ≤ outs.count false + l.length ∧ s.2.2.2 ≤ ks.length ∧ ∀ k ∈ ks.take s.2.2.2, oB s.1 k = true) (fun s => ks.length - s.2.2.2) (outs, l, (x : Int) :: junk, 0) (renL [0, 1] 2) (by kernel_rfl) ⟨hdp, hxo, by show outs.count false + l.length < i + 1; omega, Nat.le_refl _, Nat.zero_le _, fun k hk => by cases hk⟩ ⟨rfl, rfl, rfl, rfl, rfl, rfl, trivial⟩ (EmbL.litsN [0, 1] rfl rfl rfl rfl .nil (.cons ⟨rfl, .cellsB⟩ (.cons ⟨rfl, .cellsI⟩ .nil))) ?_
          rintro ⟨o2, l2, j2, p⟩ ⟨q1, q2, q3, q4, q5, q6⟩
          have q1 : DI i arcs c good o2 l2 (fun y => y = x) := q1
          have q2 : oB o2 x = true := q2
          have q3 : o2.count false + l2.length < i + 1 := q3
          have q4 : o2.count false + l2.length ≤ outs.count false + l.length := q4
          have q5 : p ≤ ks.length := q5
          have q6 : ∀ k ∈ ks.take p, oB o2 k = true := q6
          have hol2 := q1.len
          rcases Nat.lt_or_ge p ks.length with hp | hp
          · obtain ⟨k, hkp⟩ := getE hp
            have hks := (hk2 k).1 (List.mem_of_getElem? hkp)
            have hkn : k < i := by obtain ⟨a, ha, _, rfl⟩ := hks; exact hi.to a ha.1
            have hki : (ks.map Int.ofNat)[p]? = some (k : Int) := by rw [List.getElem?_map, hkp]; rfl
            have htk : ks.take (p + 1) = ks.take p ++ [k] := by
              obtain ⟨_, rfl⟩ := List.getElem?_eq_some_iff.1 hkp
              exact List.take_succ_eq_append_getElem hp
            have hob : o2[k]? = some (oB o2 k) := by unfold oB; rw [List.getD_eq_getElem?_getD, List.getElem?_eq_getElem (by omega)]; rfl
            have hml : (l2.map Int.ofNat).length = l2.length := List.length_map ..
            have e6 : (l2 ++ [k]).map Int.ofNat = l2.map Int.ofNat ++ [(k : Int)] := by rw [List.map_append]; rfl
            have e7 : (l2 ++ [k]).length = l2.length + 1 := by simp
            cases hb : oB o2 k
            · rw [hb] at hob
              have hpu := q1.push (by omega) q2 hkn hks
              have hcs := count_set hob
              dsimp only
              conv => whnf
              repeat' first | ((refine Gets.ldRIv rfl hki ?_); conv => whnf) | ((refine Gets.ldBv rfl rfl hob ?_); conv => whnf) | ((refine Gets.stB rfl rfl (by omega) ?_); conv => whnf) | ((refine Gets.appendP (ti := tiI) rfl rfl rfl rfl rfl (by decide) hml rfl rfl (by omega) ?_); conv => whnf) | ((with_reducible refine Gets.addI ?_ ?_ ?_); (· omega); (· omega); conv => whnf) | (refine Gets.ix1 rfl rfl (by omega) ?_; conv => whnf) | (refine Gets.ixR1 rfl rfl (by omega) ?_; conv => whnf) | (refine Fork.dec (fun _ => ?_) (fun _ => ?_) <;> first | (exfalso; omega) | (conv => whnf))
              refine ⟨(o2.set k true, l2 ++ [k], [], p + 1), renL [0, 3] 4, ⟨hpu, ?_, by show (o2.set k true).count false + (l2 ++ [k]).length < i + 1; omega, by show (o2.set k true).count false + (l2 ++ [k]).length ≤ _; omega, hp, ?_⟩, by show ks.length - (p + 1) < ks.length - p; omega, ⟨rfl, rfl, congrArg (AVal.slice 3 0) e7.symm, rfl, rfl, rfl, trivial⟩, ?_⟩
              · show oB (o2.set k true) x = true
                rw [oB_set (by omega), q2, Bool.or_true]
              · intro y hy
                show oB (o2.set k true) y = true
                have hy : y ∈ ks.take (p + 1) := hy
                rw [htk] at hy
                rw [oB_set (by omega), Bool.or_eq_true, decide_eq_true_iff]
                rcases List.mem_append.1 hy with hy | hy
                · exact .inr (q6 y hy)
                · exact .inl (List.mem_singleton.1 hy)
              · exact EmbL.litsN [0, 3] rfl rfl rfl rfl .nil (.cons ⟨rfl, .cellsB⟩ (.cons ⟨rfl, .cellsIe ((List.append_nil _).trans e6)⟩ .nil))
            · rw [hb] at hob
              dsimp only
              conv => whnf
              repeat' first | ((refine Gets.ldRIv rfl hki ?_); conv => whnf) | ((refine Gets.ldBv rfl rfl hob ?_); conv => whnf) | ((with_reducible refine Gets.addI ?_ ?_ ?_); (· omega); (· omega); conv => whnf) | (refine Gets.ix1 rfl rfl (by omega) ?_; conv => whnf) | (refine Gets.ixR1 rfl rfl (by omega) ?_; conv => whnf) | (refine Fork.dec (fun _ => ?_) (fun _ => ?_) <;> first | (exfalso; omega) | (conv => whnf))
              refine ⟨(o2, l2, j2, p + 1), renL [0, 1] 2, ⟨q1, q2, q3, q4, hp, ?_⟩, by show ks.length - (p + 1) < ks.length - p; omega, ⟨rfl, rfl, rfl, rfl, rfl, rfl, trivial⟩, EmbL.litsN [0, 1] rfl rfl rfl rfl .nil (.cons ⟨rfl, .cellsB⟩ (.cons ⟨rfl, .cellsI⟩ .nil))⟩
              intro y hy
              have hy : y ∈ ks.take (p + 1) := hy
              rw [htk] at hy
              rcases List.mem_append.1 hy with hy | hy
              · exact q6 y hy
              · rw [List.mem_singleton.1 hy]; exact hb
          · have hpe : p = ks.length := by omega
            have hcls := q1.close fun k hk => q6 k (by rw [hpe, List.take_length]; exact (hk2 k).2 hk)
            dsimp only
            conv => whnf
            repeat' (refine Fork.dec (fun _ => ?_) (fun _ => ?_) <;> first | (exfalso; omega) | (conv => whnf))
            refine ⟨(o2, some (l2, j2)), renL [0, 1] 2, ⟨hcls, by show o2.count false + l2.length ≤ i; omega⟩, by show o2.count false + l2.length < outs.count false + (l ++ [x]).length; omega, ⟨rfl, rfl, rfl, trivial⟩, EmbL.litsN [0, 1] rfl rfl rfl rfl .nil (.cons ⟨rfl, .cellsB⟩ (.cons ⟨rfl, .cellsI⟩ .nil))⟩
end Go.Proofs.Ytaccmanpanpbiaa

/- Components by number, and the arcs within each. Plain. -/
set_option linter.unusedVariables false
set_option linter.unusedSimpArgs false
namespace Go.Proofs.Ytaccmanpanpbiaa
open Go Go.Vh Go.Vk Go.Vn Go.Proofs
open Classical
/-- A row that is made anew from the front. -/
def gl2 {α : Type} (n : Nat) (p q : Nat → α) (i : Nat) : List α := (List.range n).map fun x => if x < i then p x else q x
theorem gl2_length {α : Type} (n : Nat) (p q : Nat → α) (i : Nat) : (gl2 n p q i).length = n := by simp [gl2]
theorem gl2_get {α : Type} {n : Nat} {p q : Nat → α} {i x : Nat} (h : x < n) : (gl2 n p q i)[x]? = some (if x < i then p x else q x) := by
  simp [gl2, h]
theorem gl2_set {α : Type} {n : Nat} {p q : Nat → α} {i : Nat} (h : i < n) : (gl2 n p q i).set i (p i) = gl2 n p q (i + 1) := by
  apply List.ext_getElem?
  intro x
  rw [List.getElem?_set, gl2_length]
  by_cases hx : i = x
  · subst hx
    rw [if_pos rfl, if_pos h, gl2_get h, if_pos (by omega)]
  · rw [if_neg hx]
    rcases Nat.lt_or_ge x n with hn | hn
    · rw [gl2_get hn, gl2_get hn]
      congr 1
      by_cases h1 : x < i
      · rw [if_pos h1, if_pos (by omega)]
      · rw [if_neg h1, if_neg (by omega)]
    · rw [List.getElem?_eq_none (by rw [gl2_length]; exact hn), List.getElem?_eq_none (by rw [gl2_length]; exact hn)]
theorem gl2_skip {α : Type} {n : Nat} {p q : Nat → α} {i : Nat} (h : p i = q i) : gl2 n p q i = gl2 n p q (i + 1) := by
  unfold gl2
  refine List.map_congr_left fun x _ => ?_
  by_cases h1 : x < i
  · rw [if_pos h1, if_pos (by omega)]
  · rw [if_neg h1]
    by_cases h2 : x < i + 1
    · obtain rfl : x = i := by omega
      rw [if_pos h2, h]
    · rw [if_neg h2]
theorem gl2_zero {α : Type} {n : Nat} {p q : Nat → α} : gl2 n p q 0 = (List.range n).map q := by
  unfold gl2
  exact List.map_congr_left fun x _ => if_neg (Nat.not_lt_zero x)
theorem gl2_all {α : Type} {n : Nat} {p q : Nat → α} : gl2 n p q n = (List.range n).map p := by
  unfold gl2
  exact List.map_congr_left fun x hx => if_pos (List.mem_range.1 hx)
theorem range_map_const {α : Type} (n : Nat) (x : α) : (List.range n).map (fun _ => x) = List.replicate n x := by
  rw [List.map_const']; simp
/-! ### Arcs turned round -/
theorem turn_turn (a : Arc) : turn (turn a) = a := rfl
theorem free_turn {arcs : List Arc} {c : Cond} {a : Arc} (h : c.Free arcs a) : c.Free (arcs.map turn) (turn a) := ⟨List.mem_map.2 ⟨a, h.1, rfl⟩, h.2⟩
theorem path_turn {S T : Arc → Prop} (h : ∀ a, S a → T (turn a)) {i j : Nat} {l : List Arc} (hp : Path S i l j) : Vn.Reach T j i := by
  induction hp with
  | nil i => exact .refl T i
  | @cons a l j ha hp ih => exact ih.trans (Vn.Reach.step (h a ha))
theorem reach_turn {arcs : List Arc} {c : Cond} {i j : Nat} : Vn.Reach (c.Free (arcs.map turn)) i j ↔ Vn.Reach (c.Free arcs) j i := by
  constructor
  · rintro ⟨l, hl⟩
    refine path_turn (fun a ha => ?_) hl
    obtain ⟨b, hb, he⟩ := List.mem_map.1 ha.1
    rw [← he]
    rw [← he] at ha
    exact ⟨hb, ha.2⟩
  · rintro ⟨l, hl⟩
    exact path_turn (fun a ha => free_turn ha) hl
/-- What can be reached from one node. -/
theorem reachB_one {n : Nat} {arcs : List Arc} {c : Cond} {i : Nat} (hi : i < n) (x : Nat) : reachB n arcs (fun k => decide (k = i)) c x = decide (Vn.Reach (c.Free arcs) i x) := by
  unfold reachB
  congr 1
  apply propext
  constructor
  · rintro ⟨j, _, hj, hr⟩
    rw [of_decide_eq_true hj] at hr; exact hr
  · intro h; exact ⟨i, hi, decide_eq_true rfl, h⟩
theorem comp_two {n : Nat} {arcs : List Arc} {c : Cond} {i : Nat} (hi : i < n) (x : Nat) : (reachB n arcs (fun k => decide (k = i)) c x && reachB n (arcs.map turn) (fun k => decide (k = i)) c x) = decide (Comp (c.Free arcs) i x) := by
  rw [reachB_one hi, reachB_one hi, ← Bool.decide_and]
  congr 1
  apply propext
  rw [reach_turn]; rfl
/-! ### The numbers of the components -/
noncomputable def lab (S : Arc → Prop) : Nat → Nat × (Nat → Int)
  | 0 => (0, fun _ => -1)
  | i + 1 => if 0 ≤ (lab S i).2 i then lab S i else ((lab S i).1 + 1, fun x => if Comp S i x then ((lab S i).1 : Int) else (lab S i).2 x)
structure LI (S : Arc → Prop) (n i m : Nat) (f : Nat → Int) : Prop where
  lo : ∀ x, x < n → -1 ≤ f x ∧ f x < m
  up : ∀ x, x < n → x < i → 0 ≤ f x
  eq : ∀ x y, x < n → y < n → 0 ≤ f x → (f y = f x ↔ Comp S x y)
  mi : m ≤ i
theorem lab_ok (S : Arc → Prop) (n : Nat) : ∀ i, i ≤ n → LI S n i (lab S i).1 (lab S i).2
  | 0, _ => ⟨fun x _ => ⟨Int.le_refl _, by show (-1 : Int) < ((0 : Nat) : Int); decide⟩, fun x _ h => absurd h (Nat.not_lt_zero x), fun x y _ _ h => absurd h (by show ¬ (0 : Int) ≤ -1; decide), Nat.le_refl _⟩
  | i + 1, hi => by
    have h := lab_ok S n i (by omega)
    unfold lab
    generalize lab S i = mf at h
    obtain ⟨m, f⟩ := mf
    have h : LI S n i m f := h
    by_cases h0 : 0 ≤ f i
    · rw [if_pos h0]
      refine ⟨h.lo, fun x hx hxi => ?_, h.eq, by have := h.mi; show m ≤ i + 1; omega⟩
      rcases Nat.lt_or_ge x i with h1 | h1
      · exact h.up x hx h1
      · obtain rfl : x = i := by omega
        exact h0
    · rw [if_neg h0]
      have hno : ∀ x, x < n → 0 ≤ f x → ¬ Comp S i x := fun x hx hp hc => h0 (by rw [(h.eq x i hx (by omega) hp).2 hc.symm]; exact hp)
      refine ⟨fun x hx => ?_, fun x hx hxi => ?_, fun x y hx hy hp => ?_, Nat.succ_le_succ h.mi⟩
      · show -1 ≤ (if Comp S i x then (m : Int) else f x) ∧ (if Comp S i x then (m : Int) else f x) < ((m + 1 : Nat) : Int)
        have := h.lo x hx
        split <;> omega
      · show 0 ≤ (if Comp S i x then (m : Int) else f x)
        by_cases hc : Comp S i x
        · rw [if_pos hc]; omega
        · rw [if_neg hc]
          rcases Nat.lt_or_ge x i with h1 | h1
          · exact h.up x hx h1
          · obtain rfl : x = i := by omega
            exact absurd (Comp.refl S x) hc
      · have hp : 0 ≤ (if Comp S i x then (m : Int) else f x) := hp
        show (if Comp S i y then (m : Int) else f y) = (if Comp S i x then (m : Int) else f x) ↔ _
        by_cases hc : Comp S i x
        · rw [if_pos hc]
          by_cases hd : Comp S i y
          · rw [if_pos hd]; exact ⟨fun _ => hc.symm.trans hd, fun _ => rfl⟩
          · rw [if_neg hd]
            have := (h.lo y hy).2
            exact ⟨fun he => by have he : f y = (m : Int) := he; omega, fun he => absurd (hc.trans he) hd⟩
        · rw [if_neg hc] at hp ⊢
          by_cases hd : Comp S i y
          · rw [if_pos hd]
            have := (h.lo x hx).2
            exact ⟨fun he => by have he : (m : Int) = f x := he; omega, fun he => absurd (hd.trans he.symm) hc⟩
          · rw [if_neg hd]; exact h.eq x y hx hy hp
/-! ### The arcs within -/
noncomputable def inP (f : Nat → Int) (c : Cond) (a : Arc) : Bool := decide (f a.fr = f a.to) && letB c a
noncomputable def WJ (f : Nat → Int) (m : Nat) (arcs : List Arc) (c : Cond) (j : Nat) : List (List Arc) := (List.range m).map fun (k : Nat) => (arcs.take j).filter fun a => inP f c a && decide (f a.fr = (k : Int))
noncomputable def wrows (f : Nat → Int) (m : Nat) (arcs : List Arc) (c : Cond) (j : Nat) : List (List Int) := (WJ f m arcs c j).map (fl acs)
theorem wrows_length (f : Nat → Int) (m : Nat) (arcs : List Arc) (c : Cond) (j : Nat) : (wrows f m arcs c j).length = m := by simp [wrows, WJ]
theorem wrows_get {f : Nat → Int} {m : Nat} {arcs : List Arc} {c : Cond} {j k : Nat} (hk : k < m) : (wrows f m arcs c j)[k]? = some (fl acs ((arcs.take j).filter fun a => inP f c a && decide (f a.fr = (k : Int)))) := by
  simp [wrows, WJ, hk]
theorem wrows_zero (f : Nat → Int) (m : Nat) (arcs : List Arc) (c : Cond) : wrows f m arcs c 0 = List.replicate m [] := by
  apply List.ext_getElem?
  intro k
  rw [List.getElem?_replicate]
  split
  · rename_i h
    rw [wrows_get h]; rfl
  · rename_i h
    rw [List.getElem?_eq_none (by rw [wrows_length]; omega)]
theorem wrows_row {f : Nat → Int} {m : Nat} {arcs : List Arc} {c : Cond} {j k : Nat} : ∃ q, ((wrows f m arcs c j).getD k []).length = q * 4 ∧ q ≤ j := by
  rcases Nat.lt_or_ge k m with hk | hk
  · rw [getD_some (wrows_get hk)]
    refine ⟨_, fl_length recA _, ?_⟩
    refine Nat.le_trans (List.length_filter_le _ _) ?_
    rw [List.length_take]; omega
  · rw [List.getD_eq_getElem?_getD, List.getElem?_eq_none (by rw [wrows_length]; exact hk)]
    exact ⟨0, rfl, Nat.zero_le _⟩
theorem wrows_no {f : Nat → Int} {m : Nat} {arcs : List Arc} {c : Cond} {j : Nat} {a : Arc} (ha : arcs[j]? = some a) (hn : ¬ inP f c a = true) : wrows f m arcs c (j + 1) = wrows f m arcs c j := by
  have htk : arcs.take (j + 1) = arcs.take j ++ [a] := by
    obtain ⟨hj, rfl⟩ := List.getElem?_eq_some_iff.1 ha
    exact List.take_succ_eq_append_getElem hj
  unfold wrows WJ
  congr 1
  refine List.map_congr_left fun k _ => ?_
  rw [htk, List.filter_append]
  have : [a].filter (fun a => inP f c a && decide (f a.fr = (k : Int))) = [] := by
    rw [List.filter_cons, if_neg (by rw [Bool.eq_false_iff.2 hn, Bool.false_and]; exact Bool.false_ne_true)]; rfl
  rw [this, List.append_nil]
theorem wrows_yes {f : Nat → Int} {m : Nat} {arcs : List Arc} {c : Cond} {j k : Nat} {a : Arc} (ha : arcs[j]? = some a) (hn : inP f c a = true) (hk : k < m) (hf : f a.fr = (k : Int)) : wrows f m arcs c (j + 1) = (wrows f m arcs c j).set k ((wrows f m arcs c j).getD k [] ++ acs a) := by
  have htk : arcs.take (j + 1) = arcs.take j ++ [a] := by
    obtain ⟨hj, rfl⟩ := List.getElem?_eq_some_iff.1 ha
    exact List.take_succ_eq_append_getElem hj
  apply List.ext_getElem?
  intro t
  rw [List.getElem?_set, wrows_length, getD_some (wrows_get hk)]
  rcases Nat.lt_or_ge t m with ht | ht
  · rw [wrows_get ht, htk, List.filter_append]
    by_cases h : k = t
    · subst h
      rw [if_pos rfl, if_pos hk, fl_append]
      have : [a].filter (fun a => inP f c a && decide (f a.fr = (k : Int))) = [a] := by
        rw [List.filter_cons, if_pos (by rw [hn, Bool.true_and]; exact decide_eq_true hf)]; rfl
      rw [this]; simp [fl]
    · rw [if_neg h, wrows_get ht]
      have : [a].filter (fun a => inP f c a && decide (f a.fr = (t : Int))) = [] := by
        rw [List.filter_cons, if_neg (by rw [hn, Bool.true_and, decide_eq_true_iff, hf]; omega)]; rfl
      rw [this, List.append_nil]
  · rw [List.getElem?_eq_none (by rw [wrows_length]; exact ht)]
    by_cases h : k = t
    · omega
    · rw [if_neg h, List.getElem?_eq_none (by rw [wrows_length]; exact ht)]
theorem letB_free {c : Cond} {arcs : List Arc} {a : Arc} : a ∈ arcs ∧ letB c a = true ↔ c.Free arcs a := by
  unfold letB Cond.Free
  rw [decide_eq_true_iff]
theorem parts_ok {n m : Nat} {arcs : List Arc} {c : Cond} {f : Nat → Int} (hi : InR n arcs) (h : LI (c.Free arcs) n n m f) : Parts n arcs c ((List.range n).map fun x => (f x).toNat) (WJ f m arcs c arcs.length) := by
  have hW : (WJ f m arcs c arcs.length).length = m := by simp [WJ]
  have hget : ∀ k l, (WJ f m arcs c arcs.length)[k]? = some l → k < m ∧ l = arcs.filter fun a => inP f c a && decide (f a.fr = (k : Int)) := by
    intro k l hl
    have hk : k < m := by rw [← hW]; exact (List.getElem?_eq_some_iff.1 hl).1
    refine ⟨hk, ?_⟩
    unfold WJ at hl
    rw [List.getElem?_map, List.getElem?_range hk, List.take_length] at hl
    cases hl; rfl
  have hof : ∀ i k : Nat, ((List.range n).map fun x => (f x).toNat)[i]? = some k → i < n ∧ f i = (k : Int) := by
    intro i k hk
    have hin : i < n := by have := (List.getElem?_eq_some_iff.1 hk).1; simpa using this
    rw [List.getElem?_map, List.getElem?_range hin] at hk
    have hk : some (f i).toNat = some k := hk
    have := h.up i hin hin
    refine ⟨hin, ?_⟩
    cases hk; omega
  refine ⟨by simp, fun i k hk => ?_, fun i k l hk hl a => ?_, fun l hl a ha => ?_, fun l hl => ?_, by rw [hW]; exact h.mi, fun k l hl a ha => ?_⟩
  · obtain ⟨hin, hfi⟩ := hof i k hk
    rw [hW]
    have := (h.lo i hin).2
    omega
  · obtain ⟨hin, hfi⟩ := hof i k hk
    obtain ⟨hkm, rfl⟩ := hget k l hl
    have h0 : 0 ≤ f i := by omega
    rw [List.mem_filter, inP, Bool.and_eq_true, Bool.and_eq_true, decide_eq_true_iff, decide_eq_true_iff]
    constructor
    · rintro ⟨ha, ⟨h1, h2⟩, h3⟩
      exact ⟨letB_free.1 ⟨ha, h2⟩, (h.eq i a.fr hin (hi.fr a ha) h0).1 (by omega), (h.eq i a.to hin (hi.to a ha) h0).1 (by omega)⟩
    · rintro ⟨h1, h2, h3⟩
      obtain ⟨ha, hl⟩ := letB_free.2 h1
      have e1 := (h.eq i a.fr hin (hi.fr a ha) h0).2 h2
      have e2 := (h.eq i a.to hin (hi.to a ha) h0).2 h3
      exact ⟨ha, ⟨by omega, hl⟩, by omega⟩
  · obtain ⟨k, hk⟩ := List.getElem?_of_mem hl
    obtain ⟨_, rfl⟩ := hget k l hk
    exact (List.mem_filter.1 ha).1
  · obtain ⟨k, hk⟩ := List.getElem?_of_mem hl
    obtain ⟨_, rfl⟩ := hget k l hk
    exact List.length_filter_le _ _
  · obtain ⟨hkm, rfl⟩ := hget k l hl
    obtain ⟨h1, h2⟩ := List.mem_filter.1 ha
    have h3 := of_decide_eq_true (Bool.and_eq_true_iff.1 h2).2
    rw [List.getElem?_map, List.getElem?_range (hi.fr a h1)]
    show some (f a.fr).toNat = some k
    congr 1; omega
end Go.Proofs.Ytaccmanpanpbiaa

/- parts of the reference. -/
-- VkG VkH VmA
set_option linter.unusedVariables false
set_option linter.unusedSimpArgs false
set_option maxRecDepth 100000
set_option maxHeartbeats 4000000
namespace Go.Proofs.Ytaccmanpanpbiaa
open Go Go.Vh Go.Vk Go.Vn Go.Proofs
open Classical
/-- So many empty rows, grown from nothing. -/
def nnV (m : Nat) : AVal := match m with
  | 0 => .nilSlice
  | m + 1 => .slice 2 0 (m + 1)
def nnH (G : AHeap) (m : Nat) : AHeap := match m with
  | 0 => G
  | m + 1 => G.alloc (.cells 1 (List.replicate (m + 1) .nilSlice))
theorem rens_nil (κ : Nat → Nat) (m : Nat) : (List.replicate m AVal.nilSlice).map (ren κ) = List.replicate m AVal.nilSlice := by
  rw [List.map_replicate]; rfl
theorem nilsS {κ : Nat → Nat} {m : Nat} : BSub κ (.cells 1 (List.replicate m .nilSlice)) (.cells 1 (List.replicate m .nilSlice)) := .inl (by rw [renB, rens_map, rens_nil])
theorem nilsE {κ : Nat → Nat} {l : List AVal} {m : Nat} (h : List.replicate m AVal.nilSlice = l) : BSub κ (.cells 1 (List.replicate m .nilSlice)) (.cells 1 l) := by rw [← h]; exact nilsS
theorem nils_snoc (m : Nat) : List.replicate (m + 1) AVal.nilSlice = (List.replicate m AVal.nilSlice).take (m * 1) ++ [AVal.nilSlice] := by
  rw [List.take_of_length_le (by simp), List.replicate_succ']
theorem start_one (n i : Nat) : (List.replicate n false).set i true = (List.range n).map fun k => decide (k = i) := by
  apply List.ext_getElem?
  intro x
  rw [List.getElem?_set, List.length_replicate, List.getElem?_map]
  rcases Nat.lt_or_ge x n with hx | hx
  · rw [List.getElem?_range hx, List.getElem?_replicate, if_pos hx]
    by_cases h : i = x
    · subst h
      rw [if_pos rfl, if_pos hx]
      exact congrArg some (decide_eq_true rfl).symm
    · rw [if_neg h]
      exact congrArg some (decide_eq_false fun h' => h h'.symm).symm
  · rw [List.getElem?_eq_none (l := List.range n) (by simp; exact hx), List.getElem?_replicate, if_neg (show ¬ x < n by omega)]
    by_cases h : i = x
    · rw [if_pos h, if_neg (show ¬ i < n by omega)]; rfl
    · rw [if_neg h]; rfl
theorem partsR : PartsT := by
  intro n arcs c hi hc
  have hn1 := hi.n1
  have hl1 := hi.len
  have hLI := lab_ok (c.Free arcs) n
  refine ⟨(List.range n).map fun x => ((lab (c.Free arcs) n).2 x).toNat, WJ (lab (c.Free arcs) n).2 (lab (c.Free arcs) n).1 arcs c arcs.length, parts_ok hi (hLI n (Nat.le_refl n)), fun H => ?_⟩
  refine CallW.pure ?_ rfl H
  refine CallW.symK (cuts := [14, 29]) Try.func183 rfl (by kernel_rfl) ?_
  conv => whnf
  repeat' first | ((refine Gets.make rfl rfl rfl (by decide) (by omega) (by omega) ?_); conv => whnf) | (refine Gets.of _ rfl ?_; conv => whnf)
  refine CodeS.loopGK (cuts := [14, 29]) (σ := Nat) (fun i => [(0, .int .i64 (n : Int)), (1, rA arcs), (5, .ptr 0 0), (6, .slice 1 0 n), (7, .nilSlice), (20, .int .i64 (n : Int)), (21, .int .i64 (i : Int))]) (fun i => (emptyH.alloc (.cells 1 (ints (prs c)))).alloc (.cells 1 (ints (gl2 n (fun _ => (-1 : Int)) (fun _ => 0) i)))) (fun i => i ≤ n) (fun i => n - i) 0 (renL [0, 1] 2) (by kernel_rfl) (Nat.zero_le _) ⟨rfl, rfl, rfl, rfl, rfl, rfl, rfl, trivial⟩ (EmbL.litsN [0, 1] rfl rfl rfl rfl .nil (.cons ⟨rfl, .inl rfl⟩ (.cons ⟨rfl, .cellsIe (gl2_zero.trans (range_map_const n 0))⟩ .nil))) ?_
  intro i hin
  rcases Nat.lt_or_ge i n with hil | hil
  · have hset := gl2_set (p := fun _ => (-1 : Int)) (q := fun _ => 0) hil
    have hgl := gl2_length n (fun _ => (-1 : Int)) (fun _ => 0) i
    conv => whnf
    repeat' first | ((refine Gets.stI rfl rfl (by rw [hgl]; exact hil) ?_); conv => whnf) | ((with_reducible refine Gets.addI ?_ ?_ ?_); (· omega); (· omega); conv => whnf) | (refine Gets.ix1 rfl rfl (by omega) ?_; conv => whnf) | (refine Fork.dec (fun _ => ?_) (fun _ => ?_) <;> first | (exfalso; omega) | (conv => whnf))
    exact ⟨i + 1, renL [0, 1] 2, hil, by omega, ⟨rfl, rfl, rfl, rfl, rfl, rfl, rfl, trivial⟩, EmbL.litsN [0, 1] rfl rfl rfl rfl .nil (.cons ⟨rfl, .inl rfl⟩ (.cons ⟨rfl, .cellsIe hset.symm⟩ .nil))⟩
  obtain rfl : n = i := by omega
  conv => whnf
  repeat' (refine Fork.dec (fun _ => ?_) (fun _ => ?_) <;> first | (exfalso; omega) | (conv => whnf))
  refine CallS.of (by kernel_rfl) (turnedR arcs hl1 _) rfl ?_
  rintro _ _ ⟨rfl, rfl⟩
  conv => whnf
  skip
  refine CodeS.loopGK (cuts := [14, 29]) (σ := Nat) (fun i => [(0, .int .i64 (n : Int)), (1, rA arcs), (5, .ptr 0 0), (6, .slice 1 0 n), (7, nnV (lab (c.Free arcs) i).1), (9, rA (arcs.map turn)), (30, .int .i64 (n : Int)), (31, .int .i64 (i : Int))]) (fun i => nnH ((emptyH.alloc (.cells 1 (ints (prs c)))).alloc (.cells 1 (ints ((List.range n).map (lab (c.Free arcs) i).2)))) (lab (c.Free arcs) i).1) (fun i => i ≤ n) (fun i => n - i) 0 (renL [0, 1] 2) (by kernel_rfl) (Nat.zero_le _) ⟨rfl, rfl, rfl, rfl, rfl, rfl, rfl, rfl, trivial⟩ (EmbL.litsN [0, 1] rfl rfl rfl rfl .nil (.cons ⟨rfl, .inl rfl⟩ (.cons ⟨rfl, .cellsIe gl2_all.symm⟩ .nil))) ?_
  intro i hin
  rcases Nat.lt_or_ge i n with hil | hil
  · have hI := hLI i hin
    have hnx : lab (c.Free arcs) (i + 1) = if 0 ≤ (lab (c.Free arcs) i).2 i then lab (c.Free arcs) i else ((lab (c.Free arcs) i).1 + 1, fun x => if Comp (c.Free arcs) i x then ((lab (c.Free arcs) i).1 : Int) else (lab (c.Free arcs) i).2 x) := rfl
    generalize lab (c.Free arcs) i = mf at hI hnx
    obtain ⟨m, f⟩ := mf
    have hI : LI (c.Free arcs) n i m f := hI
    have hmi := hI.mi
    have hlo := hI.lo i hil
    have hgi : ((List.range n).map f)[i]? = some (f i) := by simp [hil]
    by_cases h0 : 0 ≤ f i
    · rw [if_pos h0] at hnx
      dsimp only
      rcases m with _ | m
      · conv => whnf
        repeat' (refine Fork.dec (fun _ => ?_) (fun _ => ?_) <;> first | (exfalso; omega) | (conv => whnf))
      · conv => whnf
        repeat' first | ((refine Gets.ldIv rfl rfl hgi ?_); conv => whnf) | ((with_reducible refine Gets.addI ?_ ?_ ?_); (· omega); (· omega); conv => whnf) | (refine Gets.ix1 rfl rfl (by omega) ?_; conv => whnf) | (refine Fork.dec (fun _ => ?_) (fun _ => ?_) <;> first | (exfalso; omega) | (conv => whnf))
        exact ⟨i + 1, renL [0, 1, 2] 3, hil, by omega, ⟨rfl, rfl, rfl, rfl, by rw [hnx]; rfl, rfl, rfl, rfl, trivial⟩, by rw [hnx]; exact EmbL.litsN [0, 1, 2] rfl rfl rfl rfl .nil (.cons ⟨rfl, .inl rfl⟩ (.cons ⟨rfl, .cellsI⟩ (.cons ⟨rfl, nilsS⟩ .nil)))⟩
    · rw [if_neg h0] at hnx
      have hrl : (List.replicate n false).length = n := List.length_replicate ..
      have hst := start_one n i
      have hdu := comp_two (n := n) (arcs := arcs) (c := c) hil
      dsimp only
      rcases m with _ | m
      · conv => whnf
        repeat' first | ((refine Gets.ldIv rfl rfl hgi ?_); conv => whnf) | ((refine Gets.makeB (k := 1) rfl rfl (by decide) rfl (by decide) (by omega) (by omega) ?_); conv => whnf) | (refine Gets.ix1 rfl rfl (by omega) ?_; conv => whnf) | (refine Fork.dec (fun _ => ?_) (fun _ => ?_) <;> first | (exfalso; omega) | (conv => whnf))
        rw [Int.toNat_natCast, Nat.mul_one]
        repeat' ((refine Gets.stB rfl rfl (by omega) ?_); conv => whnf)
        refine CodeS.frzRe [] [2] [(11, rB ((List.range n).map fun k => decide (k = i)))] [(0, .int .i64 (n : Int)), (1, rA arcs), (5, .ptr 0 0), (6, .slice 1 0 n), (7, nnV (0)), (9, rA (arcs.map turn)), (11, rB ((List.range n).map fun k => decide (k = i))), (30, .int .i64 (n : Int)), (31, .int .i64 (i : Int))] (nnH ((emptyH.alloc (.cells 1 (ints (prs c)))).alloc (.cells 1 (ints ((List.range n).map f)))) (0)) (renL [0, 1] 3) (by kernel_rfl) rfl (by rintro p hp; rcases List.mem_cons.1 hp with rfl | hp; exact frzBl (by simp) rfl (congrArg (fun l => ABlk.cells 1 (bls l)) hst); cases hp) ⟨rfl, rfl, rfl, rfl, rfl, rfl, rfl, rfl, rfl, trivial⟩ (EmbL.litsN [0, 1] rfl rfl rfl rfl .nil (.cons ⟨rfl, .inl rfl⟩ (.cons ⟨rfl, .cellsI⟩ .nil))) ?_
        refine CodeS.drawP (by kernel_rfl) (by kernel_rfl) ?_
        conv => whnf
        repeat' (refine Gets.of _ rfl ?_; conv => whnf)
        refine CallV.of (by kernel_rfl) (reachR n arcs (fun k => decide (k = i)) c hi hc _) rfl ?_
        conv => whnf
        repeat' (refine Gets.of _ rfl ?_; conv => whnf)
        refine CallV.of (by kernel_rfl) (reachR n (arcs.map turn) (fun k => decide (k = i)) c hi.turn hc _) rfl ?_
        conv => whnf
        skip
        refine CodeS.loopGK (cuts := [14, 29]) (σ := Nat) (fun j => [(0, .int .i64 (n : Int)), (1, rA arcs), (5, .ptr 0 0), (6, .slice 1 0 n), (7, nnV (0)), (9, rA (arcs.map turn)), (12, rB (reachL n arcs (fun k => decide (k = i)) c)), (13, rB (reachL n (arcs.map turn) (fun k => decide (k = i)) c)), (30, .int .i64 (n : Int)), (31, .int .i64 (i : Int)), (54, .int .i64 (n : Int)), (55, .int .i64 (j : Int))]) (fun j => nnH ((emptyH.alloc (.cells 1 (ints (prs c)))).alloc (.cells 1 (ints (gl2 n (fun x => if Comp (c.Free arcs) i x then ((0 : Nat) : Int) else f x) f j)))) (0)) (fun j => j ≤ n) (fun j => n - j) 0 (renL [0, 1] 2) (by kernel_rfl) (Nat.zero_le _) ⟨rfl, rfl, rfl, rfl, rfl, rfl, rfl, rfl, rfl, rfl, rfl, rfl, trivial⟩ (EmbL.litsN [0, 1] rfl rfl rfl rfl .nil (.cons ⟨rfl, .inl rfl⟩ (.cons ⟨rfl, .cellsIe gl2_zero⟩ .nil))) ?_
        intro j hjn
        rcases Nat.lt_or_ge j n with hjl | hjl
        · have hset := gl2_set (p := fun x => if Comp (c.Free arcs) i x then ((0 : Nat) : Int) else f x) (q := f) hjl
          have hskip := gl2_skip (n := n) (p := fun x => if Comp (c.Free arcs) i x then ((0 : Nat) : Int) else f x) (q := f) (i := j)
          have hgl := gl2_length n (fun x => if Comp (c.Free arcs) i x then ((0 : Nat) : Int) else f x) f j
          have hd1 : (reachL n arcs (fun k => decide (k = i)) c)[j]? = some (reachB n arcs (fun k => decide (k = i)) c j) := by simp [reachL, hjl]
          have hd2 : (reachL n (arcs.map turn) (fun k => decide (k = i)) c)[j]? = some (reachB n (arcs.map turn) (fun k => decide (k = i)) c j) := by simp [reachL, hjl]
          have hdj := hdu j
          have hL1 : (reachL n arcs (fun k => decide (k = i)) c).length = n := by simp [reachL]
          have hL2 : (reachL n (arcs.map turn) (fun k => decide (k = i)) c).length = n := by simp [reachL]
          generalize reachB n arcs (fun k => decide (k = i)) c j = b1 at hd1 hdj
          generalize reachB n (arcs.map turn) (fun k => decide (k = i)) c j = b2 at hd2 hdj
          have hbs : (b1 && b2) = true → (gl2 n (fun x => if Comp (c.Free arcs) i x then ((0 : Nat) : Int) else f x) f j).set j ((0 : Nat) : Int) = gl2 n (fun x => if Comp (c.Free arcs) i x then ((0 : Nat) : Int) else f x) f (j + 1) := fun hb => by
            rw [hdj] at hb
            rw [if_pos (of_decide_eq_true hb)] at hset
            exact hset
          have hbn : (b1 && b2) = false → gl2 n (fun x => if Comp (c.Free arcs) i x then ((0 : Nat) : Int) else f x) f j = gl2 n (fun x => if Comp (c.Free arcs) i x then ((0 : Nat) : Int) else f x) f (j + 1) := fun hb => by
            rw [hdj] at hb
            exact hskip (if_neg (of_decide_eq_false hb))
          rcases b1 with _ | _ <;> rcases b2 with _ | _
          all_goals
            conv => whnf
            repeat' first | ((refine Gets.ldRBv rfl hd1 ?_); conv => whnf) | ((refine Gets.ldRBv rfl hd2 ?_); conv => whnf) | ((refine Gets.stI rfl rfl (by rw [hgl]; exact hjl) ?_); conv => whnf) | ((with_reducible refine Gets.addI ?_ ?_ ?_); (· omega); (· omega); conv => whnf) | (refine Gets.of _ rfl ?_; conv => whnf) | (refine Gets.ix1 rfl rfl (by omega) ?_; conv => whnf) | (refine Gets.ixR1 rfl rfl (by omega) ?_; conv => whnf) | (refine Fork.dec (fun _ => ?_) (fun _ => ?_) <;> first | (exfalso; omega) | (conv => whnf))
          all_goals first
            | exact ⟨j + 1, renL [0, 1] 2, hjl, by omega, ⟨rfl, rfl, rfl, rfl, rfl, rfl, rfl, rfl, rfl, rfl, rfl, rfl, trivial⟩, EmbL.litsN [0, 1] rfl rfl rfl rfl .nil (.cons ⟨rfl, .inl rfl⟩ (.cons ⟨rfl, .cellsIe (hbs rfl).symm⟩ .nil))⟩
            | exact ⟨j + 1, renL [0, 1] 2, hjl, by omega, ⟨rfl, rfl, rfl, rfl, rfl, rfl, rfl, rfl, rfl, rfl, rfl, rfl, trivial⟩, EmbL.litsN [0, 1] rfl rfl rfl rfl .nil (.cons ⟨rfl, .inl rfl⟩ (.cons ⟨rfl, .cellsIe (hbn rfl).symm⟩ .nil))⟩
        obtain rfl : j = n := by omega
        conv => whnf
        repeat' first | ((refine Gets.appNilS (n := 1) (xs := [.nilSlice]) rfl rfl rfl rfl rfl (by decide) rfl (by decide) (by decide) ?_); conv => whnf) | ((with_reducible refine Gets.addI ?_ ?_ ?_); (· omega); (· omega); conv => whnf) | (refine Fork.dec (fun _ => ?_) (fun _ => ?_) <;> first | (exfalso; omega) | (conv => whnf))
        refine ⟨i + 1, renL [0, 1, 3] 4, hil, by omega, ⟨rfl, rfl, rfl, rfl, by rw [hnx]; rfl, rfl, rfl, rfl, trivial⟩, ?_⟩
        rw [hnx]
        exact EmbL.litsN [0, 1, 3] rfl rfl rfl rfl .nil (.cons ⟨rfl, .inl rfl⟩ (.cons ⟨rfl, .cellsIe gl2_all.symm⟩ (.cons ⟨rfl, nilsS⟩ .nil)))
      · conv => whnf
        repeat' first | ((refine Gets.ldIv rfl rfl hgi ?_); conv => whnf) | ((refine Gets.makeB (k := 1) rfl rfl (by decide) rfl (by decide) (by omega) (by omega) ?_); conv => whnf) | (refine Gets.ix1 rfl rfl (by omega) ?_; conv => whnf) | (refine Fork.dec (fun _ => ?_) (fun _ => ?_) <;> first | (exfalso; omega) | (conv => whnf))
        rw [Int.toNat_natCast, Nat.mul_one]
        repeat' ((refine Gets.stB rfl rfl (by omega) ?_); conv => whnf)
        refine CodeS.frzRe [] [3] [(11, rB ((List.range n).map fun k => decide (k = i)))] [(0, .int .i64 (n : Int)), (1, rA arcs), (5, .ptr 0 0), (6, .slice 1 0 n), (7, nnV (m + 1)), (9, rA (arcs.map turn)), (11, rB ((List.range n).map fun k => decide (k = i))), (30, .int .i64 (n : Int)), (31, .int .i64 (i : Int))] (nnH ((emptyH.alloc (.cells 1 (ints (prs c)))).alloc (.cells 1 (ints ((List.range n).map f)))) (m + 1)) (renL [0, 1, 2] 4) (by kernel_rfl) rfl (by rintro p hp; rcases List.mem_cons.1 hp with rfl | hp; exact frzBl (by simp) rfl (congrArg (fun l => ABlk.cells 1 (bls l)) hst); cases hp) ⟨rfl, rfl, rfl, rfl, rfl, rfl, rfl, rfl, rfl, trivial⟩ (EmbL.litsN [0, 1, 2] rfl rfl rfl rfl .nil (.cons ⟨rfl, .inl rfl⟩ (.cons ⟨rfl, .cellsI⟩ (.cons ⟨rfl, nilsS⟩ .nil)))) ?_
        refine CodeS.drawP (by kernel_rfl) (by kernel_rfl) ?_
        conv => whnf
        repeat' (refine Gets.of _ rfl ?_; conv => whnf)
        refine CallV.of (by kernel_rfl) (reachR n arcs (fun k => decide (k = i)) c hi hc _) rfl ?_
        conv => whnf
        repeat' (refine Gets.of _ rfl ?_; conv => whnf)
        refine CallV.of (by kernel_rfl) (reachR n (arcs.map turn) (fun k => decide (k = i)) c hi.turn hc _) rfl ?_
        conv => whnf
        skip
        refine CodeS.loopGK (cuts := [14, 29]) (σ := Nat) (fun j => [(0, .int .i64 (n : Int)), (1, rA arcs), (5, .ptr 0 0), (6, .slice 1 0 n), (7, nnV (m + 1)), (9, rA (arcs.map turn)), (12, rB (reachL n arcs (fun k => decide (k = i)) c)), (13, rB (reachL n (arcs.map turn) (fun k => decide (k = i)) c)), (30, .int .i64 (n : Int)), (31, .int .i64 (i : Int)), (54, .int .i64 (n : Int)), (55, .int .i64 (j : Int))]) (fun j => nnH ((emptyH.alloc (.cells 1 (ints (prs c)))).alloc (.cells 1 (ints (gl2 n (fun x => if Comp (c.Free arcs) i x then ((m + 1 : Nat) : Int) else f x) f j)))) (m + 1)) (fun j => j ≤ n) (fun j => n - j) 0 (renL [0, 1, 2] 3) (by kernel_rfl) (Nat.zero_le _) ⟨rfl, rfl, rfl, rfl, rfl, rfl, rfl, rfl, rfl, rfl, rfl, rfl, trivial⟩ (EmbL.litsN [0, 1, 2] rfl rfl rfl rfl .nil (.cons ⟨rfl, .inl rfl⟩ (.cons ⟨rfl, .cellsIe gl2_zero⟩ (.cons ⟨rfl, nilsS⟩ .nil)))) ?_
        intro j hjn
        rcases Nat.lt_or_ge j n with hjl | hjl
        · have hset := gl2_set (p := fun x => if Comp (c.Free arcs) i x then ((m + 1 : Nat) : Int) else f x) (q := f) hjl
          have hskip := gl2_skip (n := n) (p := fun x => if Comp (c.Free arcs) i x then ((m + 1 : Nat) : Int) else f x) (q := f) (i := j)
          have hgl := gl2_length n (fun x => if Comp (c.Free arcs) i x then ((m + 1 : Nat) : Int) else f x) f j
          have hd1 : (reachL n arcs (fun k => decide (k = i)) c)[j]? = some (reachB n arcs (fun k => decide (k = i)) c j) := by simp [reachL, hjl]
          have hd2 : (reachL n (arcs.map turn) (fun k => decide (k = i)) c)[j]? = some (reachB n (arcs.map turn) (fun k => decide (k = i)) c j) := by simp [reachL, hjl]
          have hdj := hdu j
          have hL1 : (reachL n arcs (fun k => decide (k = i)) c).length = n := by simp [reachL]
          have hL2 : (reachL n (arcs.map turn) (fun k => decide (k = i)) c).length = n := by simp [reachL]
          generalize reachB n arcs (fun k => decide (k = i)) c j = b1 at hd1 hdj
          generalize reachB n (arcs.map turn) (fun k => decide (k = i)) c j = b2 at hd2 hdj
          have hbs : (b1 && b2) = true → (gl2 n (fun x => if Comp (c.Free arcs) i x then ((m + 1 : Nat) : Int) else f x) f j).set j ((m + 1 : Nat) : Int) = gl2 n (fun x => if Comp (c.Free arcs) i x then ((m + 1 : Nat) : Int) else f x) f (j + 1) := fun hb => by
            rw [hdj] at hb
            rw [if_pos (of_decide_eq_true hb)] at hset
            exact hset
          have hbn : (b1 && b2) = false → gl2 n (fun x => if Comp (c.Free arcs) i x then ((m + 1 : Nat) : Int) else f x) f j = gl2 n (fun x => if Comp (c.Free arcs) i x then ((m + 1 : Nat) : Int) else f x) f (j + 1) := fun hb => by
            rw [hdj] at hb
            exact hskip (if_neg (of_decide_eq_false hb))
          rcases b1 with _ | _ <;> rcases b2 with _ | _
          all_goals
            conv => whnf
            repeat' first | ((refine Gets.ldRBv rfl hd1 ?_); conv => whnf) | ((refine Gets.ldRBv rfl hd2 ?_); conv => whnf) | ((refine Gets.stI rfl rfl (by rw [hgl]; exact hjl) ?_); conv => whnf) | ((with_reducible refine Gets.addI ?_ ?_ ?_); (· omega); (· omega); conv => whnf) | (refine Gets.of _ rfl ?_; conv => whnf) | (refine Gets.ix1 rfl rfl (by omega) ?_; conv => whnf) | (refine Gets.ixR1 rfl rfl (by omega) ?_; conv => whnf) | (refine Fork.dec (fun _ => ?_) (fun _ => ?_) <;> first | (exfalso; omega) | (conv => whnf))
          all_goals first
            | exact ⟨j + 1, renL [0, 1, 2] 3, hjl, by omega, ⟨rfl, rfl, rfl, rfl, rfl, rfl, rfl, rfl, rfl, rfl, rfl, rfl, trivial⟩, EmbL.litsN [0, 1, 2] rfl rfl rfl rfl .nil (.cons ⟨rfl, .inl rfl⟩ (.cons ⟨rfl, .cellsIe (hbs rfl).symm⟩ (.cons ⟨rfl, nilsS⟩ .nil)))⟩
            | exact ⟨j + 1, renL [0, 1, 2] 3, hjl, by omega, ⟨rfl, rfl, rfl, rfl, rfl, rfl, rfl, rfl, rfl, rfl, rfl, rfl, trivial⟩, EmbL.litsN [0, 1, 2] rfl rfl rfl rfl .nil (.cons ⟨rfl, .inl rfl⟩ (.cons ⟨rfl, .cellsIe (hbn rfl).symm⟩ (.cons ⟨rfl, nilsS⟩ .nil)))⟩
        obtain rfl : j = n := by omega
        conv => whnf
        repeat' first | ((refine Gets.appG (es := 1) (n := 1) (xs := [.nilSlice]) rfl rfl rfl rfl rfl (by decide) rfl rfl (by simp) (by omega) rfl ?_); conv => whnf) | ((with_reducible refine Gets.addI ?_ ?_ ?_); (· omega); (· omega); conv => whnf) | (refine Fork.dec (fun _ => ?_) (fun _ => ?_) <;> first | (exfalso; omega) | (conv => whnf))
        refine ⟨i + 1, renL [0, 1, 4] 5, hil, by omega, ⟨rfl, rfl, rfl, rfl, by rw [hnx]; rfl, rfl, rfl, rfl, trivial⟩, ?_⟩
        rw [hnx]
        exact EmbL.litsN [0, 1, 4] rfl rfl rfl rfl .nil (.cons ⟨rfl, .inl rfl⟩ (.cons ⟨rfl, .cellsIe gl2_all.symm⟩ (.cons ⟨rfl, nilsE (nils_snoc (m + 1))⟩ .nil)))
  obtain rfl : i = n := by omega
  have hI := hLI i (Nat.le_refl i)
  generalize lab (c.Free arcs) i = mf at hI
  obtain ⟨m, f⟩ := mf
  have hI : LI (c.Free arcs) i i m f := hI
  have hmi := hI.mi
  dsimp only
  have hfi : ((List.range i).map fun x => (f x).toNat).map Int.ofNat = (List.range i).map f := by
    rw [List.map_map]
    refine List.map_congr_left fun x hx => ?_
    have h1 := List.mem_range.1 hx
    have := hI.up x h1 h1
    show ((f x).toNat : Int) = f x
    omega
  rcases m with _ | m
  · have h0 : i = 0 := by
      rcases Nat.eq_zero_or_pos i with h | h
      · exact h
      · have := hI.up 0 h h
        have := (hI.lo 0 h).2
        omega
    have hz : arcs = [] := by
      cases arcs with
      | nil => rfl
      | cons a l => have := hi.fr a (List.mem_cons_self ..); omega
    subst hz
    subst h0
    conv => whnf
    repeat' first | (refine Gets.of _ rfl ?_; conv => whnf) | (refine Fork.noR rfl ?_; conv => whnf)
    refine CodeS.loopGK (cuts := []) (σ := Unit) (fun _ => [(5, .ptr 0 0), (6, .slice 1 0 0), (7, .nilSlice), (78, rA []), (79, .int .i64 0), (80, .int .i64 0)]) (fun _ => (emptyH.alloc (.cells 1 (ints (prs c)))).alloc (.cells 1 (ints []))) (fun _ => True) (fun _ => 0) () (renL [0, 1] 2) (by kernel_rfl) trivial ⟨rfl, rfl, rfl, rfl, rfl, rfl, trivial⟩ (EmbL.litsN [0, 1] rfl rfl rfl rfl .nil (.cons ⟨rfl, .inl rfl⟩ (.cons ⟨rfl, .cellsI⟩ .nil))) ?_
    intro _ _
    conv => whnf
    repeat' (refine Fork.noR rfl ?_; conv => whnf)
    conv => whnf
    skip
    refine CodeS.re [] [(6, .slice 1 0 0), (7, .nilSlice)] ((emptyH.alloc (.cells 1 (ints (prs c)))).alloc (.cells 1 (ints []))) (renL [0, 1] 2) (by kernel_rfl) ⟨rfl, rfl, trivial⟩ (EmbL.litsN [0, 1] rfl rfl rfl rfl .nil (.cons ⟨rfl, .inl rfl⟩ (.cons ⟨rfl, .cellsI⟩ .nil))) ?_
    conv => whnf
    skip
    exact ⟨[1], _, rfl, .tuple (.cons (frzI (l := []) rfl rfl rfl) (.cons .nil (.same rfl))), rfl, by rw [hfi]; rfl⟩
  have hA := clean_ints 1 (prs c)
  have hB := clean_ints 1 ((List.range i).map f)
  conv => whnf
  repeat' first | (refine Gets.of _ rfl ?_; conv => whnf) | (refine Fork.dec (fun _ => ?_) (fun _ => ?_) <;> first | (exfalso; omega) | (conv => whnf))
  refine CodeS.loopGK (cuts := [29]) (σ := Nat) (fun j => [(5, .ptr 0 0), (6, .slice 1 0 i), (7, .slice 2 0 (m + 1)), (78, rA arcs), (79, .int .i64 (arcs.length : Int)), (80, .int .i64 (j : Int))]) (fun j => rowsAt (G3 (.cells 1 (ints (prs c))) (.cells 1 (ints ((List.range i).map f))) 4 3 (wrows f (m + 1) arcs c j)) 4 (wrows f (m + 1) arcs c j)) (fun j => j ≤ arcs.length) (fun j => arcs.length - j) 0 (rk [0, 1, 2] (fun _ => 0) (m + 1) 3) (by kernel_rfl) (Nat.zero_le _) ⟨rfl, rfl, rfl, rfl, rfl, rfl, trivial⟩ (by rw [wrows_zero]; exact nest_start hA hB 4 (m + 1)) ?_
  intro j hj
  have hlj := wrows_length f (m + 1) arcs c j
  rcases Nat.lt_or_ge j arcs.length with hjl | hjl
  · obtain ⟨a, ha⟩ := getE hjl
    have ham : a ∈ arcs := List.mem_of_getElem? ha
    have hfr := hi.fr a ham
    have hto := hi.to a ham
    have hmk := hi.mks a ham
    have hof1 : ((List.range i).map f)[a.fr]? = some (f a.fr) := by simp [hfr]
    have hof2 : ((List.range i).map f)[a.to]? = some (f a.to) := by simp [hto]
    have hlf := hI.lo a.fr hfr
    have huf := hI.up a.fr hfr hfr
    have hut := hI.up a.to hto hto
    obtain ⟨k, hk⟩ : ∃ k : Nat, f a.fr = (k : Int) := ⟨(f a.fr).toNat, by omega⟩
    have hkm : k < m + 1 := by omega
    obtain ⟨q, hq1, hq2⟩ := wrows_row (f := f) (m := m + 1) (arcs := arcs) (c := c) (j := j) (k := k)
    have hno := wrows_no (f := f) (m := m + 1) (c := c) ha
    have hyes := fun h => wrows_yes (f := f) (m := m + 1) (c := c) ha h hkm hk
    generalize wrows f (m + 1) arcs c j = rows at hlj hq1 hno hyes
    rw [hk] at hof1
    conv => whnf
    repeat' first | ((refine Gets.ixRE (es := 4) rfl (by kernel_rfl) (by omega) ?_); conv => whnf) | ((refine Gets.ldRK recA rfl rfl rfl rfl ha ?_); conv => whnf) | (refine Fork.dec (fun _ => ?_) (fun _ => ?_) <;> first | (exfalso; omega) | (conv => whnf))
    refine Gets.storeAll (es := 1) (cs := [.int .i64 0, .int .i64 0, .int .i64 0, .int .i64 0]) (ti := ⟨4, 32, true, [.int .i64 0, .int .i64 0, .int .i64 0, .int .i64 0]⟩) (by kernel_rfl) rfl rfl (by simp only [alloc_f, if_true]; rfl) rfl ?_
    conv => whnf
    refine CodeS.re [] [(5, .ptr 0 0), (6, .slice 1 0 i), (7, .slice 2 0 (m + 1)), (16, .ptr 3 0), (78, rA arcs), (79, .int .i64 (arcs.length : Int)), (80, .int .i64 (j : Int))] (rowsAt (G4 (.cells 1 (ints (prs c))) (.cells 1 (ints ((List.range i).map f))) 4 rows (.cells 1 (ints (acs a)))) 4 rows) (rk [0, 1, 2, 3 + rows.length] (fun s => 3 + s) rows.length (4 + rows.length)) (by kernel_rfl) ⟨rfl, rfl, rfl, rfl, rfl, rfl, rfl, trivial⟩ (nest_pull hA hB (clean_ints 1 (acs a)) 4 rows _) ?_
    have hand1 := Vh.andI (m := a.marks) (n := c.never) (by omega) (by have := hc.c1; omega)
    have hand2 := Vh.andI (m := a.other) (n := c.never2) (by omega) (by have := hc.c3; omega)
    have hb1 : 2 ≤ 4 + rows.length := by omega
    have hb2 : 3 ≤ 4 + rows.length := by omega
    have hb3 : 4 ≤ 4 + rows.length := by omega
    refine CodeS.drawP (by kernel_rfl) (by kernel_rfl) ?_
    conv => whnf
    repeat' first | ((refine Gets.ldIv rfl rfl hof1 ?_); conv => whnf) | ((refine Gets.ldIv rfl rfl hof2 ?_); conv => whnf) | ((with_reducible refine Gets.addI ?_ ?_ ?_); (· omega); (· omega); conv => whnf) | (refine Gets.of _ rfl ?_; conv => whnf) | (refine Gets.ix1 rfl rfl (by omega) ?_; conv => whnf) | (refine Fork.dec (fun _ => ?_) (fun _ => ?_) <;> first | (exfalso; omega) | (conv => whnf))
    rotate_left
    · rename_i h0 h1 h2
      have hnot : ¬ inP f c a = true := fun h => h2 (by rw [hand2, (letB_iff.1 (Bool.and_eq_true_iff.1 h).2).2]; rfl)
      refine ⟨j + 1, rk [0, 1, 2] (fun s => 4 + s) rows.length (4 + rows.length), hjl, by show arcs.length - (j + 1) < _; omega, ⟨rfl, rfl, rfl, rfl, rfl, rfl, trivial⟩, ?_⟩
      rw [hno hnot]
      exact nest_pop hA hB 4 rows _
    · rename_i h0 h1
      have hnot : ¬ inP f c a = true := fun h => h1 (by rw [hand1, (letB_iff.1 (Bool.and_eq_true_iff.1 h).2).1]; rfl)
      refine ⟨j + 1, rk [0, 1, 2] (fun s => 4 + s) rows.length (4 + rows.length), hjl, by show arcs.length - (j + 1) < _; omega, ⟨rfl, rfl, rfl, rfl, rfl, rfl, trivial⟩, ?_⟩
      rw [hno hnot]
      exact nest_pop hA hB 4 rows _
    · rename_i h0
      have hnot : ¬ inP f c a = true := fun h => h0 (by rw [← hk]; exact of_decide_eq_true (Bool.and_eq_true_iff.1 h).1)
      refine ⟨j + 1, rk [0, 1, 2] (fun s => 4 + s) rows.length (4 + rows.length), hjl, by show arcs.length - (j + 1) < _; omega, ⟨rfl, rfl, rfl, rfl, rfl, rfl, trivial⟩, ?_⟩
      rw [hno hnot]
      exact nest_pop hA hB 4 rows _
    rename_i h0 h1 h2
    have hin2 : inP f c a = true := Bool.and_eq_true_iff.2 ⟨decide_eq_true (hk.trans h0), letB_iff.2 ⟨by rw [hand1] at h1; omega, by rw [hand2] at h2; omega⟩⟩
    have hnx := hyes hin2
    refine CodeS.drawT [1, 2, 3] (.take 0 (.take 1 (.take 2 (.take 3 (.take 4 (.take 5 (.take 6 (.take 7 (.take 8 (.take 9 (.take 10 (.take 11 (.take 12 (.take 13 (.take 14 (.one 15 true (.one 16 true (.take 17 (.one 18 false .done))))))))))))))))))) mixed (by kernel_rfl) (.cons ⟨Nat.ble_eq_true_of_le hb1, trivial⟩ (.cons ⟨Nat.ble_eq_true_of_le hb2, trivial⟩ (.cons ⟨Nat.ble_eq_true_of_le hb3, trivial⟩ .nil))) ?_
    conv => whnf
    have hlt : k < rows.length := by omega
    have hget : rows[k]? = some (rows.getD k []) := by rw [List.getD_eq_getElem?_getD, List.getElem?_eq_getElem hlt]; rfl
    have hrow := (rowVg_get (fun s => 4 + s) 4 rows k).trans (congrArg (Option.map _) hget)
    repeat' first | ((refine Gets.ldIv rfl rfl hof1 ?_); conv => whnf) | (refine Gets.of _ rfl ?_; conv => whnf) | (refine Gets.ix1 rfl rfl (by omega) ?_; conv => whnf)
    refine Gets.loadAt (j := k) (v := rowV (4 + k) 4 (rows.getD k [])) (ti := ⟨1, 24, false, [.nilSlice]⟩) (by kernel_rfl) rfl rfl hrow ?_
    have hrowf : rows.getD k [] ≠ [] → (rowsAt (G4 (.cells 1 (ints (prs c))) (.cells 1 (ints ((List.range i).map f))) 4 rows (.cells 1 (ints (acs a)))) 4 rows).f (4 + k) = .cells 4 (ints (rows.getD k [])) := by
      intro hne
      cases hq : rows.getD k [] with
      | nil => exact absurd hq hne
      | cons x l =>
        rw [hq] at hget
        exact rows_at (G := G4 _ _ 4 rows _) hget
    generalize rows.getD k [] = r at hget hrow hq1 hrowf hnx
    have hstore : ∀ z1 H', (r = [] ∧ H' = (rowsAt (G4 (.cells 1 (ints (prs c))) (.cells 1 (ints ((List.range i).map f))) 4 rows (.cells 1 (ints (acs a)))) 4 rows).alloc z1) ∨ (r ≠ [] ∧ H' = ((rowsAt (G4 (.cells 1 (ints (prs c))) (.cells 1 (ints ((List.range i).map f))) 4 rows (.cells 1 (ints (acs a)))) 4 rows).alloc z1).set (4 + k) .dead) → (H'.alloc (.cells 4 (ints (r ++ acs a)))).f 2 = .cells 1 (rowVg (fun t => 4 + t) 4 rows) ∧ H'.n = 4 + rows.length + 1 ∧ H'.ver 1 = 0 ∧ H'.ver 2 = 0 ∧ H'.ver 3 = 0 := by
      rintro z1 H' (⟨_, rfl⟩ | ⟨_, rfl⟩)
      · refine ⟨?_, rfl, rfl, rfl, rfl⟩
        rw [alloc_f, if_neg (by show ¬ 2 = 4 + rows.length + 1; omega), alloc_f, if_neg (by show ¬ 2 = 4 + rows.length; omega)]
        rfl
      · refine ⟨?_, rfl, ?_, ?_, ?_⟩
        · rw [alloc_f, if_neg (by show ¬ 2 = 4 + rows.length + 1; omega), set_f, if_neg (by omega), alloc_f, if_neg (by show ¬ 2 = 4 + rows.length; omega)]
          rfl
        · rw [set_ver, if_neg (by omega)]; rfl
        · rw [set_ver, if_neg (by omega)]; rfl
        · rw [set_ver, if_neg (by omega)]; rfl
    have hrm : rows[k]? = some r := hget
    rcases r with _ | ⟨x, r⟩
    all_goals
      conv => whnf
      repeat' first | (refine Gets.of _ rfl ?_; conv => whnf) | (refine Chk.mk (by repeat first | exact .nil | refine .cons rfl ?_) ?_; conv => whnf)
    · refine Gets.appendRow (es := 4) (b := 4 + k) (r := []) (y := (a.fr : Int)) (x := [(a.to : Int), (a.marks : Int), (a.other : Int)]) (ti := ⟨4, 32, true, [.int .i64 0, .int .i64 0, .int .i64 0, .int .i64 0]⟩) (d := .slice 80) (by kernel_rfl) (by kernel_rfl) rfl rfl rfl (by decide) (by decide) rfl (if_pos rfl) (fun h => absurd rfl h) ⟨0, rfl, by decide⟩ ?_
      intro H' h'
      obtain ⟨s1, s2, s3, s4, s5⟩ := hstore _ H' h'
      conv => whnf
      refine Chk.mk (.cons s3 (.cons s4 (.cons s5 .nil))) ?_
      conv => whnf
      repeat' (refine Gets.ix1 rfl rfl (by omega) ?_; conv => whnf)
      refine Gets.storeAt (j := k) (ti := ⟨1, 24, false, [.nilSlice]⟩) (by kernel_rfl) rfl rfl rfl s1 rfl (by rw [rowVg_length]; exact hlt) ?_
      conv => whnf
      repeat' ((with_reducible refine Gets.addI ?_ ?_ ?_); (· omega); (· omega); conv => whnf)
      refine ⟨j + 1, rk [0, 1, 2] (fun t => if t = k then 4 + rows.length + 1 else 4 + t) rows.length (6 + rows.length), hjl, by show arcs.length - (j + 1) < _; omega, ⟨rfl, rfl, rfl, rfl, rfl, rfl, trivial⟩, ?_⟩
      rw [hnx]
      exact nest_push hA hB 4 rows _ k hlt _ _ _ _ H' h'
    · refine Gets.appendRow (es := 4) (b := 4 + k) (r := x :: r) (y := (a.fr : Int)) (x := [(a.to : Int), (a.marks : Int), (a.other : Int)]) (ti := ⟨4, 32, true, [.int .i64 0, .int .i64 0, .int .i64 0, .int .i64 0]⟩) (d := .slice 80) (by kernel_rfl) (by kernel_rfl) rfl rfl rfl (by decide) (by decide) rfl (if_pos rfl) (fun h => (if_neg (by show ¬ 4 + k = 4 + rows.length; omega)).trans (hrowf h)) ⟨q, hq1, by omega⟩ ?_
      intro H' h'
      obtain ⟨s1, s2, s3, s4, s5⟩ := hstore _ H' h'
      conv => whnf
      refine Chk.mk (.cons s3 (.cons s4 (.cons s5 .nil))) ?_
      conv => whnf
      repeat' (refine Gets.ix1 rfl rfl (by omega) ?_; conv => whnf)
      refine Gets.storeAt (j := k) (ti := ⟨1, 24, false, [.nilSlice]⟩) (by kernel_rfl) rfl rfl rfl s1 rfl (by rw [rowVg_length]; exact hlt) ?_
      conv => whnf
      repeat' ((with_reducible refine Gets.addI ?_ ?_ ?_); (· omega); (· omega); conv => whnf)
      refine ⟨j + 1, rk [0, 1, 2] (fun t => if t = k then 4 + rows.length + 1 else 4 + t) rows.length (6 + rows.length), hjl, by show arcs.length - (j + 1) < _; omega, ⟨rfl, rfl, rfl, rfl, rfl, rfl, trivial⟩, ?_⟩
      rw [hnx]
      exact nest_push hA hB 4 rows _ k hlt _ _ _ _ H' h'
  · obtain rfl : j = arcs.length := by omega
    have hw4 : ∀ l ∈ wrows f (m + 1) arcs c arcs.length, l.length % 4 = 0 := by
      intro l hl
      obtain ⟨w, _, rfl⟩ := List.mem_map.1 hl
      rw [fl_length recA]; omega
    obtain ⟨f1, f2⟩ := frz_nest (.cells 1 (ints (prs c))) (.cells 1 (ints ((List.range i).map f))) (es := 4) (by decide) (rows := wrows f (m + 1) arcs c arcs.length) hw4 (n := m + 1) hlj.symm
    have hrN : rN 4 (wrows f (m + 1) arcs c arcs.length) = rR ((WJ f (m + 1) arcs c arcs.length).map rA) := by
      unfold rN wrows
      rw [List.map_map]
      congr 1
      refine List.map_congr_left fun l _ => ?_
      show AVal.row ((fl acs l).length / 4) _ = rA l
      rw [fl_length recA, Nat.mul_div_cancel _ (by decide)]; rfl
    conv => whnf
    repeat' (refine Fork.dec (fun _ => ?_) (fun _ => ?_) <;> first | (exfalso; omega) | (conv => whnf))
    refine CodeS.frzRe [] (2 :: ksN (wrows f (m + 1) arcs c arcs.length) 0 (wrows f (m + 1) arcs c arcs.length).length) [(7, rN 4 (wrows f (m + 1) arcs c arcs.length))] [(6, .slice 0 0 i), (7, rN 4 (wrows f (m + 1) arcs c arcs.length))] (emptyH.alloc (.cells 1 (ints ((List.range i).map f)))) (renL [1] (3 + (wrows f (m + 1) arcs c arcs.length).length)) (by kernel_rfl) f1 (by rintro p hp; rcases List.mem_cons.1 hp with rfl | hp; exact f2; cases hp) ⟨rfl, rfl, trivial⟩ (nest_keep _ _ hB 4 _) ?_
    rw [hrN]
    conv => whnf
    skip
    exact ⟨[0], _, rfl, .tuple (.cons (frzI (l := (List.range i).map f) rfl rfl (by simp)) (.same rfl)), rfl, by rw [hfi]; rfl⟩
end Go.Proofs.Ytaccmanpanpbiaa
