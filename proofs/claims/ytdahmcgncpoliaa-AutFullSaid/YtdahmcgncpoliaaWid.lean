/- The automata of the law AutFull. -/
import Derived.Test.YtdahmcgncpoliaaFil
set_option linter.unusedVariables false
set_option linter.unusedSimpArgs false
set_option maxRecDepth 100000
namespace Go.Proofs.Ytdahmcgncpoliaa
open Go Go.Vh Go.Proofs
structure Wp where
  kind : Int
  marks : Int
  props : Int
  states : Int
  gap : Int
def Wp.goes (q : Wp) (s l : Nat) : Bool := decide (0 < l) || decide (¬ (s : Int) % q.gap = 0)
def Wp.edge (q : Wp) (s l : Nat) : Edg := ⟨s, s, ((2 ^ q.props.toNat : Nat) : Int) - 1, l, 0⟩
def Wp.row (q : Wp) (s k : Nat) : List Edg := ((List.range k).filter (q.goes s)).map (q.edge s)
def Wp.all (q : Wp) (s : Nat) : List Edg := (List.range s).flatMap fun t => q.row t (2 ^ q.props.toNat)
theorem Wp.row_succ (q : Wp) (s k : Nat) : q.row s (k + 1) = if q.goes s k = true then q.row s k ++ [q.edge s k] else q.row s k := by
  unfold Wp.row
  rw [List.range_succ, List.filter_append, List.map_append]
  cases h : q.goes s k <;> simp [h]
theorem Wp.all_succ (q : Wp) (s : Nat) : q.all (s + 1) = q.all s ++ q.row s (2 ^ q.props.toNat) := by
  unfold Wp.all
  rw [List.range_succ, List.flatMap_append]
  simp
theorem Wp.row_length (q : Wp) (s k : Nat) : (q.row s k).length ≤ k := by
  unfold Wp.row
  rw [List.length_map]
  exact Nat.le_trans (List.length_filter_le _ _) (by simp)
theorem Wp.all_length (q : Wp) (h : 2 ^ q.props.toNat ≤ 64) : ∀ s, (q.all s).length ≤ 64 * s
  | 0 => by simp [Wp.all]
  | s + 1 => by
    rw [q.all_succ, List.length_append]
    have := q.all_length h s
    have := q.row_length s (2 ^ q.props.toNat)
    omega
def Wp.H3 (q : Wp) (r : List Int) : AHeap := ((emptyH.alloc (.cells 1 zero32)).alloc (.cells 1 (ints [0]))).alloc (.cells 1 [.int .i64 q.props, .int .i64 q.states, .slice 1 0 1, .int .i64 q.kind, .int .i64 q.marks, rowV 3 5 r])
def Wp.H (q : Wp) (E : List Edg) : AHeap := rowsAt (q.H3 (flat E)) 5 [flat E]
theorem Wp.emb (q : Wp) (r : List Int) (k : Nat) {H : AHeap} {m : Nat} (hm : H.n = m) (h3 : 3 ≤ m) (hk : k < m) (f0 : H.f 0 = .cells 1 zero32) (f1 : H.f 1 = .cells 1 (ints [0])) (f2 : H.f 2 = .cells 1 [.int .i64 q.props, .int .i64 q.states, .slice 1 0 1, .int .i64 q.kind, .int .i64 q.marks, rowV k 5 r]) (hr : r ≠ [] → 3 ≤ k ∧ H.f k = .cells 5 (ints r)) :
    Emb 0 (rk [0, 1, 2] (fun _ => k) 1 m) (rowsAt (q.H3 r) 5 [r]) H := by
  refine Emb.rows (n0 := 0) (G := q.H3 r) (rows := [r]) [0, 1, 2] (fun _ => k) hm rfl (Nat.zero_le _) (by decide) (fun i hi => absurd hi (Nat.not_lt_zero i)) (fun i c hc => ?_) (fun s hs => hk) (fun s x l h => ?_) (fun s t x l y m h h' hst => ?_)
  · rcases i with _ | _ | _ | i
    · cases hc; exact ⟨by omega, by rw [f0]; exact .inl rfl⟩
    · cases hc; exact ⟨by omega, by rw [f1]; exact .cellsI⟩
    · cases hc
      refine ⟨by omega, ?_⟩
      rw [f2]
      refine .inl ?_
      show _ = renB _ (.cells 1 [.int .i64 q.props, .int .i64 q.states, .slice 1 0 1, .int .i64 q.kind, .int .i64 q.marks, rowV 3 5 r])
      simp only [renB, rens, ren, ren_rowV]
      rfl
    · simp at hc
  · rcases s with _ | s
    · have h : r = x :: l := by simpa using h
      subst h
      obtain ⟨h1, h2⟩ := hr (by simp)
      exact ⟨by simp; omega, h2⟩
    · simp at h
  · rcases s with _ | s <;> rcases t with _ | t <;> simp_all
theorem wide36 (q : Wp) (h0 : 0 ≤ q.props) (h6 : q.props ≤ 6) (s0 : 0 ≤ q.states) (s1 : q.states ≤ 3000) (hg : 0 < q.gap) :
    CallW Try.prog 36 [.int .i64 q.kind, .int .i64 q.marks, .int .i64 q.props, .int .i64 q.states, .int .i64 q.gap] emptyH fun v G => v = .agg [.int .i64 q.props, .int .i64 q.states, .slice 0 0 1, .int .i64 q.kind, .int .i64 q.marks, rowV 1 5 (flat (q.all q.states.toNat))] ∧ G = rowsAt (emptyH.alloc (.cells 1 (ints [0]))) 5 [flat (q.all q.states.toNat)] := by
  have h64 : 2 ^ q.props.toNat ≤ 64 := pow6 (by omega)
  have hsh := shlP h0 h6
  refine CallW.symR Try.func36 rfl (by kernel_rfl) ?_
  conv => whnf
  iterate 1 (refine Gets.of _ rfl ?_; conv => whnf)
  refine CodeS.loopG (σ := Nat) (fun s => [(2, .int .i64 q.props), (4, .int .i64 q.gap), (10, .ptr 0 0), (11, .ptr 2 0), (20, .int .i64 q.states), (21, .int .i64 s)]) (fun s => q.H (q.all s)) (fun s => s ≤ q.states.toNat) (fun s => q.states.toNat - s) 0 (rk [0, 1, 2] (fun _ => 0) 1 3) (by kernel_rfl)
    (Nat.zero_le _) ⟨rfl, rfl, rfl, rfl, rfl, rfl, trivial⟩ (q.emb [] 0 rfl (by decide) (by decide) rfl rfl rfl (fun h => absurd rfl h)) ?_
  intro s g1
  have hal := q.all_length h64 s
  conv => whnf
  refine Fork.mk (fun hc => ?_) (fun hc => ?_)
  all_goals conv => whnf
  · have hc : s < q.states.toNat := by simp only [decide_eq_true_eq] at hc; omega
    refine Gets.shl h0 ?_
    rw [hsh]
    conv => whnf
    refine CodeS.loopG (σ := Nat) (fun k => [(2, .int .i64 q.props), (4, .int .i64 q.gap), (10, .ptr 0 0), (11, .ptr 2 0), (12, .int .i64 s), (20, .int .i64 q.states), (21, .int .i64 s), (25, .int .i64 (2 ^ q.props.toNat : Nat)), (26, .int .i64 k)]) (fun k => q.H (q.all s ++ q.row s k)) (fun k => k ≤ 2 ^ q.props.toNat) (fun k => 2 ^ q.props.toNat - k) 0 (rk [0, 1, 2] (fun _ => 3) 1 4) (by kernel_rfl)
      (Nat.zero_le _) ⟨rfl, rfl, rfl, rfl, rfl, rfl, rfl, rfl, rfl, trivial⟩ ?_ ?_
    · rw [show q.all s ++ q.row s 0 = q.all s by simp [Wp.row]]
      refine q.emb (flat (q.all s)) 3 rfl (by decide) (by decide) rfl rfl rfl (fun h => ⟨Nat.le_refl _, ?_⟩)
      show rowBlk 5 (some (flat (q.all s))) = _
      cases hq : flat (q.all s) with
      | nil => exact absurd hq h
      | cons x l => rfl
    intro k g2
    have hrl := q.row_length s k
    have hrs := q.row_succ s k
    generalize hE : q.all s ++ q.row s k = E
    have hEl : E.length ≤ 1000000 := by rw [← hE, List.length_append]; omega
    have hkeep : Emb 0 (rk [0, 1, 2] (fun _ => 3) 1 4) (q.H E) (q.H E) := by
      refine q.emb (flat E) 3 rfl (by decide) (by decide) rfl rfl rfl (fun h => ⟨Nat.le_refl _, ?_⟩)
      show rowBlk 5 (some (flat E)) = _
      cases hq : flat E with
      | nil => exact absurd hq h
      | cons x l => rfl
    conv => whnf
    refine Fork.mk (fun hc2 => ?_) (fun hc2 => ?_)
    all_goals conv => whnf
    · have hc2 : k < 2 ^ q.props.toNat := by simp only [decide_eq_true_eq] at hc2; exact_mod_cast hc2
      have hwk : IntKind.wrap .i64 ((k : Int) + 1) = ((k + 1 : Nat) : Int) := by rw [wrap_i64 (by omega) (by omega)]; rfl
      have hw2 : IntKind.wrap .i64 (((2 ^ q.props.toNat : Nat) : Int) - 1) = ((2 ^ q.props.toNat : Nat) : Int) - 1 := wrap_i64 (by omega) (by omega)
      have hnext : q.goes s k = true → q.all s ++ q.row s (k + 1) = E ++ [q.edge s k] := by intro hgo; rw [hrs, hgo, if_pos rfl, ← List.append_assoc, hE]
      have hfl : flat (E ++ [q.edge s k]) = flat E ++ [(s : Int), s, ((2 ^ q.props.toNat : Nat) : Int) - 1, k, 0] := by rw [flat_append]; simp [flat, Edg.l, Wp.edge]
      have hrow : flat E ≠ [] → (q.H E).f 3 = .cells 5 (ints (flat E)) := by
        intro h
        show rowBlk 5 (some (flat E)) = _
        cases hq : flat E with
        | nil => exact absurd hq h
        | cons x l => rfl
      have hend : ∀ (z : ABlk) (H' : AHeap), ((flat E = [] ∧ H' = (q.H E).alloc z) ∨ (flat E ≠ [] ∧ H' = ((q.H E).alloc z).set 3 .dead)) → Emb 0 (rk [0, 1, 2] (fun _ => 5) 1 6) (q.H (E ++ [q.edge s k])) ((H'.alloc (.cells 5 (ints (flat E ++ [(s : Int), s, ((2 ^ q.props.toNat : Nat) : Int) - 1, k, 0])))).set 2 (.cells 1 [.int .i64 q.props, .int .i64 q.states, .slice 1 0 1, .int .i64 q.kind, .int .i64 q.marks, .slice 5 0 ((flat E ++ [(s : Int), s, ((2 ^ q.props.toNat : Nat) : Int) - 1, k, 0]).length / 5)])) := by
        intro z H' h'
        have hn : H'.n = 5 := by rcases h' with ⟨_, rfl⟩ | ⟨_, rfl⟩ <;> rfl
        have hf : ∀ i, i < 2 → H'.f i = (q.H E).f i := by
          intro i hi
          rcases h' with ⟨_, rfl⟩ | ⟨_, rfl⟩
          · rw [alloc_f, if_neg (by show ¬ i = 4; omega)]
          · rw [set_f, if_neg (by omega), alloc_f, if_neg (by show ¬ i = 4; omega)]
        unfold Wp.H
        rw [hfl]
        refine q.emb _ 5 (by show H'.n + 1 = 6; omega) (by decide) (by decide) ?_ ?_ ?_ (fun _ => ⟨by decide, ?_⟩)
        · rw [set_f, if_neg (by decide), alloc_f, if_neg (by omega), hf 0 (by decide)]; rfl
        · rw [set_f, if_neg (by decide), alloc_f, if_neg (by omega), hf 1 (by decide)]; rfl
        · rw [set_f, if_pos rfl]
          have : ∀ r : List Int, rowV 5 5 (r ++ [(s : Int), s, ((2 ^ q.props.toNat : Nat) : Int) - 1, k, 0]) = .slice 5 0 ((r ++ [(s : Int), s, ((2 ^ q.props.toNat : Nat) : Int) - 1, k, 0]).length / 5) := by intro r; cases r <;> rfl
          rw [this]
        · rw [set_f, if_neg (by decide), alloc_f, if_pos hn.symm]
      have hst2 : ∀ (z nb : ABlk) (H' : AHeap), ((flat E = [] ∧ H' = (q.H E).alloc z) ∨ (flat E ≠ [] ∧ H' = ((q.H E).alloc z).set 3 .dead)) → (H'.alloc nb).f 2 = .cells 1 [.int .i64 q.props, .int .i64 q.states, .slice 1 0 1, .int .i64 q.kind, .int .i64 q.marks, rowV 3 5 (flat E)] := by
        intro z nb H' h'
        have hn : H'.n = 5 := by rcases h' with ⟨_, rfl⟩ | ⟨_, rfl⟩ <;> rfl
        rw [alloc_f, if_neg (by omega)]
        rcases h' with ⟨_, rfl⟩ | ⟨_, rfl⟩
        · rfl
        · rw [set_f, if_neg (by decide)]; rfl
      refine Fork.mk (fun hk => ?_) (fun hk => ?_)
      all_goals conv => whnf
      · have hgo : q.goes s k = true := by
          unfold Wp.goes
          simp only [decide_eq_true_eq] at hk
          simp
          left
          omega
        clear hk
        refine CodeS.drawI [2] [(0, true, false), (1, true, false), (2, true, false), (3, true, false), (4, true, false), (5, true, false), (6, true, false), (7, true, false), (8, true, false), (9, false, true), (10, false, true), (11, true, false), (12, false, false)] mixed (by kernel_rfl) (.cons ⟨rfl, trivial⟩ .nil) ?_
        conv => whnf
        refine Gets.loadAt (j := 5) (v := rowV 3 5 (flat E)) (ti := ⟨1, 24, false, [.nilSlice]⟩) (by kernel_rfl) rfl rfl rfl ?_
        rcases hfe : flat E with _ | ⟨x, l⟩
        all_goals
          conv => whnf
          refine Gets.shl h0 ?_
          rw [hsh]
          conv => whnf
          rw [hw2]
          conv => whnf
          refine ⟨fun _ i hi => rfl, ?_⟩
          conv => whnf
          first
            | refine Gets.appendRow (es := 5) (b := 3) (r := []) (y := (s : Int)) (x := [(s : Int), ((2 ^ q.props.toNat : Nat) : Int) - 1, k, 0]) (ti := ⟨5, 40, true, [.int .i64 0, .int .i64 0, .int .i64 0, .int .i64 0, .int .i64 0]⟩) (d := .slice 54) (by kernel_rfl) (by kernel_rfl) rfl rfl rfl (by decide) (by decide) rfl rfl (fun h => absurd rfl h) ⟨0, rfl, by decide⟩ ?_
            | refine Gets.appendRow (es := 5) (b := 3) (r := x :: l) (y := (s : Int)) (x := [(s : Int), ((2 ^ q.props.toNat : Nat) : Int) - 1, k, 0]) (ti := ⟨5, 40, true, [.int .i64 0, .int .i64 0, .int .i64 0, .int .i64 0, .int .i64 0]⟩) (d := .slice 54) (by kernel_rfl) (by kernel_rfl) rfl rfl rfl (by decide) (by decide) rfl rfl (fun h => by show (q.H E).f 3 = _; rw [hrow (by rw [hfe]; simp), hfe]) ⟨E.length, by rw [← hfe, flat_length], by omega⟩ ?_
          intro H' h'
          have hs2 := hst2 _ (.cells 5 (ints (flat E ++ [(s : Int), s, ((2 ^ q.props.toNat : Nat) : Int) - 1, k, 0]))) H' (by rw [hfe]; exact h')
          have he2 := hend _ H' (by rw [hfe]; exact h')
          rw [hfe] at hs2 he2
          conv => whnf
          refine ⟨fun _ i hi => by simp only [List.mem_cons, List.not_mem_nil, or_false] at hi; subst hi; (rcases h' with ⟨_, rfl⟩ | ⟨_, rfl⟩ <;> rfl), ?_⟩
          conv => whnf
          refine Gets.storeAt (j := 5) (ti := ⟨1, 24, false, [.nilSlice]⟩) (by kernel_rfl) rfl rfl rfl hs2 rfl (by show 5 < 6; decide) ?_
          conv => whnf
          refine ⟨(fun h => by cases h), ?_⟩
          conv => whnf
          refine ⟨k + 1, rk [0, 1, 2] (fun _ => 5) 1 6, by omega, by omega, ⟨rfl, rfl, rfl, rfl, rfl, rfl, rfl, rfl, congrArg (AVal.int .i64) hwk, trivial⟩, ?_⟩
          rw [hnext hgo]
          exact he2
      · refine Gets.remN (by omega) hg ?_
        conv => whnf
        refine Fork.mk (fun hr => ?_) (fun hr => ?_)
        all_goals conv => whnf
        · have hgo : q.goes s k = true := by
            unfold Wp.goes
            simp only [bne_iff_ne, ne_eq] at hr
            simp [hr]
          clear hr hk
          refine CodeS.drawI [2] [(0, true, false), (1, true, false), (2, true, false), (3, true, false), (4, true, false), (5, true, false), (6, true, false), (7, true, false), (8, true, false), (9, false, true), (10, false, true), (11, true, false), (12, false, false)] mixed (by kernel_rfl) (.cons ⟨rfl, trivial⟩ .nil) ?_
          conv => whnf
          refine Gets.loadAt (j := 5) (v := rowV 3 5 (flat E)) (ti := ⟨1, 24, false, [.nilSlice]⟩) (by kernel_rfl) rfl rfl rfl ?_
          rcases hfe : flat E with _ | ⟨x, l⟩
          all_goals
            conv => whnf
            refine Gets.shl h0 ?_
            rw [hsh]
            conv => whnf
            rw [hw2]
            conv => whnf
            refine ⟨fun _ i hi => rfl, ?_⟩
            conv => whnf
            first
              | refine Gets.appendRow (es := 5) (b := 3) (r := []) (y := (s : Int)) (x := [(s : Int), ((2 ^ q.props.toNat : Nat) : Int) - 1, k, 0]) (ti := ⟨5, 40, true, [.int .i64 0, .int .i64 0, .int .i64 0, .int .i64 0, .int .i64 0]⟩) (d := .slice 54) (by kernel_rfl) (by kernel_rfl) rfl rfl rfl (by decide) (by decide) rfl rfl (fun h => absurd rfl h) ⟨0, rfl, by decide⟩ ?_
              | refine Gets.appendRow (es := 5) (b := 3) (r := x :: l) (y := (s : Int)) (x := [(s : Int), ((2 ^ q.props.toNat : Nat) : Int) - 1, k, 0]) (ti := ⟨5, 40, true, [.int .i64 0, .int .i64 0, .int .i64 0, .int .i64 0, .int .i64 0]⟩) (d := .slice 54) (by kernel_rfl) (by kernel_rfl) rfl rfl rfl (by decide) (by decide) rfl rfl (fun h => by show (q.H E).f 3 = _; rw [hrow (by rw [hfe]; simp), hfe]) ⟨E.length, by rw [← hfe, flat_length], by omega⟩ ?_
            intro H' h'
            have hs2 := hst2 _ (.cells 5 (ints (flat E ++ [(s : Int), s, ((2 ^ q.props.toNat : Nat) : Int) - 1, k, 0]))) H' (by rw [hfe]; exact h')
            have he2 := hend _ H' (by rw [hfe]; exact h')
            rw [hfe] at hs2 he2
            conv => whnf
            refine ⟨fun _ i hi => by simp only [List.mem_cons, List.not_mem_nil, or_false] at hi; subst hi; (rcases h' with ⟨_, rfl⟩ | ⟨_, rfl⟩ <;> rfl), ?_⟩
            conv => whnf
            refine Gets.storeAt (j := 5) (ti := ⟨1, 24, false, [.nilSlice]⟩) (by kernel_rfl) rfl rfl rfl hs2 rfl (by show 5 < 6; decide) ?_
            conv => whnf
            refine ⟨(fun h => by cases h), ?_⟩
            conv => whnf
            refine ⟨k + 1, rk [0, 1, 2] (fun _ => 5) 1 6, by omega, by omega, ⟨rfl, rfl, rfl, rfl, rfl, rfl, rfl, rfl, congrArg (AVal.int .i64) hwk, trivial⟩, ?_⟩
            rw [hnext hgo]
            exact he2
        · simp only [decide_eq_false_iff_not] at hk
          have hgo : q.goes s k = false := by
            unfold Wp.goes
            simp only [bne_eq_false_iff_eq] at hr
            simp [hr]
            omega
          rw [hgo, if_neg (by simp)] at hrs
          refine ⟨k + 1, rk [0, 1, 2] (fun _ => 3) 1 4, by omega, by omega, ⟨rfl, rfl, rfl, rfl, rfl, rfl, rfl, rfl, congrArg (AVal.int .i64) hwk, trivial⟩, ?_⟩
          rw [hrs, hE]
          exact hkeep
    · have hk : k = 2 ^ q.props.toNat := by simp only [decide_eq_false_iff_not] at hc2; have : ¬ k < 2 ^ q.props.toNat := fun h => hc2 (by exact_mod_cast h); omega
      subst hk
      have hws : IntKind.wrap .i64 ((s : Int) + 1) = ((s + 1 : Nat) : Int) := by rw [wrap_i64 (by omega) (by omega)]; rfl
      refine ⟨s + 1, rk [0, 1, 2] (fun _ => 3) 1 4, by omega, by omega, ⟨rfl, rfl, rfl, rfl, rfl, congrArg (AVal.int .i64) hws, trivial⟩, ?_⟩
      rw [q.all_succ, hE]
      exact hkeep
  · have hs : s = q.states.toNat := by simp only [decide_eq_false_iff_not] at hc; omega
    subst hs
    generalize hE : q.all q.states.toNat = E
    have hrow : flat E ≠ [] → (q.H E).f 3 = .cells 5 (ints (flat E)) := by
      intro h
      show rowBlk 5 (some (flat E)) = _
      cases hq : flat E with
      | nil => exact absurd hq h
      | cons x l => rfl
    have hE0 : ∀ b : ABlk, Emb 0 (rk [1] (fun _ => 3) 1 4) (rowsAt (emptyH.alloc (.cells 1 (ints [0]))) 5 [flat E]) ((q.H E).set 0 b) := by
      intro b
      refine Emb.rows (n0 := 0) (G := emptyH.alloc (.cells 1 (ints [0]))) (rows := [flat E]) [1] (fun _ => 3) rfl rfl (Nat.zero_le _) (by decide) (fun i hi => absurd hi (Nat.not_lt_zero i)) (fun i c hc => ?_) (fun s hs => by show 3 < 4; decide) (fun s x l h => ?_) (fun s t x l y m h h' hst => ?_)
      · rcases i with _ | i
        · cases hc; exact ⟨by decide, .cellsI⟩
        · simp at hc
      · rcases s with _ | s
        · have h : flat E = x :: l := by simpa using h
          refine ⟨by decide, ?_⟩
          rw [set_f, if_neg (by decide), hrow (by rw [h]; simp), h]
        · simp at h
      · rcases s with _ | s <;> rcases t with _ | t <;> simp_all
    refine Gets.of (.agg [.int .i64 q.props, .int .i64 q.states, .slice 1 0 1, .int .i64 q.kind, .int .i64 q.marks, rowV 3 5 (flat E)]) rfl ?_
    rcases hfe : flat E with _ | ⟨x, l⟩
    all_goals
      conv => whnf
      iterate 1 (refine Gets.of _ rfl ?_; conv => whnf)
      rw [hfe] at hE0
      exact ⟨rk [1] (fun _ => 3) 1 4, _, _, hE0 _, rfl, rfl, rfl⟩
end Go.Proofs.Ytdahmcgncpoliaa
