/- Fill, where something is missing. -/
import Derived.Test.YtdahmcgncpoliaaRef
set_option linter.unusedVariables false
set_option linter.unusedSimpArgs false
set_option maxRecDepth 100000
namespace Go.Proofs.Ytdahmcgncpoliaa
open Go Go.Vh Go.Proofs
def Au.missL (a : Au) (s k : Nat) : List Edg := ((List.range k).filter fun i => !((a.ms a.es.length).getD s 0).testBit i).map fun (i : Nat) => ⟨(s : Int), a.states, ((2 ^ a.props.toNat : Nat) : Int) - 1, (i : Int), 0⟩
def Au.missA (a : Au) (s : Nat) : List Edg := (List.range s).flatMap fun t => a.missL t (2 ^ a.props.toNat)
def Au.lastE (a : Au) : Edg := ⟨a.states, a.states, 0, 0, sinkI a.kind⟩
def Au.outE (a : Au) : List Edg := a.rfE ++ a.missA a.states.toNat ++ [a.lastE]
theorem bit64 {m k : Nat} (hm : m < 2 ^ 64) (hk : k < 64) : (bitsA .and .u64 (shrA .u64 (m : Int) (k : Int)) 1 == 0) = !m.testBit k := by
  have hs : shrA .u64 (m : Int) (k : Int) = ((m >>> k : Nat) : Int) := by
    unfold shrA
    rw [show min (k : Int).toNat (IntKind.bits .u64) = k from by show min (k : Int).toNat 64 = k; omega, Nat.shiftRight_eq_div_pow, Int.fdiv_eq_ediv_of_nonneg _ (Int.le_of_lt (Int.pow_pos (by decide)))]
    simp
  have hlt : m >>> k < 2 ^ 64 := by rw [Nat.shiftRight_eq_div_pow]; exact Nat.lt_of_le_of_lt (Nat.div_le_self _ _) hm
  rw [hs, show (1 : Int) = ((1 : Nat) : Int) from rfl, and64 hlt (by decide)]
  rw [Nat.testBit, Nat.and_comm]
  cases h : (1 &&& m >>> k) with
  | zero => rfl
  | succ n => rfl
theorem FH_push (a : Au) (E : List Edg) (e : Edg) (m st : Int) {H : AHeap} (hn : H.n = 11) (hf : ∀ i, i < 9 → i ≠ 6 → i ≠ 7 → H.f i = (a.FH E E.length m st).f i) (h7 : H.f 7 = .cells 1 [.int .i64 a.props, .int .i64 st, .slice 5 0 a.start.length, .int .i64 a.kind, .int .i64 m, .slice 10 0 (E.length + 1)]) (h10 : H.f 10 = .cells 5 (ints (flat E ++ e.l))) (hv : ∀ i, i < 2 → H.ver i = 0) :
    Emb 2 (renL [0, 1, 2, 3, 4, 5, 10, 7, 8] 11) (a.FH (E ++ [e]) (E ++ [e]).length m st) H := by
  refine Emb.lits [0, 1, 2, 3, 4, 5, 10, 7, 8] hn rfl rfl rfl (.cons ⟨rfl, (hv 0 (by decide)).symm, by rw [hf 0 (by decide) (by decide) (by decide)]; exact fun h => h⟩ (.cons ⟨rfl, (hv 1 (by decide)).symm, by rw [hf 1 (by decide) (by decide) (by decide)]; exact fun h => h⟩ .nil))
    (.cons ⟨rfl, ?_⟩ (.cons ⟨rfl, ?_⟩ (.cons ⟨rfl, ?_⟩ (.cons ⟨rfl, ?_⟩ (.cons ⟨rfl, ?_⟩ (.cons ⟨rfl, ?_⟩ (.cons ⟨rfl, ?_⟩ (.cons ⟨rfl, ?_⟩ (.cons ⟨rfl, ?_⟩ .nil)))))))))
  · show BSub _ _ (H.f 0); rw [hf 0 (by decide) (by decide) (by decide)]; exact .roI
  · show BSub _ _ (H.f 1); rw [hf 1 (by decide) (by decide) (by decide)]; exact .roI
  · show BSub _ _ (H.f 2); rw [hf 2 (by decide) (by decide) (by decide)]; exact .inl rfl
  · show BSub _ _ (H.f 3); rw [hf 3 (by decide) (by decide) (by decide)]; exact .inl rfl
  · show BSub _ _ (H.f 4); rw [hf 4 (by decide) (by decide) (by decide)]; exact .cellsK
  · show BSub _ _ (H.f 5); rw [hf 5 (by decide) (by decide) (by decide)]; exact .cellsI
  · show BSub _ (.cells 5 (ints (flat (E ++ [e])))) (H.f 10)
    rw [h10, flat_append, show flat [e] = e.l by simp [flat]]
    exact .cellsI
  · show BSub _ (.cells 1 [.int .i64 a.props, .int .i64 st, .slice 5 0 a.start.length, .int .i64 a.kind, .int .i64 m, .slice 6 0 (E ++ [e]).length]) (H.f 7)
    rw [h7, List.length_append]
    exact .inl rfl
  · show BSub _ _ (H.f 8); rw [hf 8 (by decide) (by decide) (by decide)]; exact .inl rfl
theorem fill27 (a : Au) (hf : a.Fits) (ho : a.Ok) (hsep : a.Sep a.es.length) (hst : a.start.length = 1) (hinc : ∃ y ∈ a.ms a.es.length, y ≠ allM a) :
    CallW Try.prog 27 [a.avS] a.heap fun v G => (v = .tuple [.agg zero32, .int .i64 3] ∧ G = a.heap ∧ (a.states = 3000 ∨ 40000 < a.outE.length)) ∨
      (v = .tuple [.agg [.int .i64 a.props, .int .i64 (a.states + 1), .slice 2 0 1, .int .i64 a.kind, .int .i64 a.rfM, .slice 3 0 a.outE.length], .int .i64 0] ∧ G = (a.heap.alloc (.cells 1 (ints a.start))).alloc (.cells 5 (ints (flat a.outE))) ∧ a.states ≠ 3000 ∧ a.outE.length ≤ 40000) := by
  have hh := ho.1
  have hp0 := hh.1
  have hp6 := hh.2.1
  have hs0 := hh.2.2.1
  have hs1 := hh.2.2.2.1
  have hne := hh.2.2.2.2.2.2.2
  have h64 : 2 ^ a.props.toNat ≤ 64 := pow6 (by omega)
  have hsh := shlP hp0 hp6
  have hml := a.ms_length a.es.length
  refine CallW.symR Try.func27 rfl (by kernel_rfl) ?_
  conv => whnf
  iterate 1 (refine Gets.of _ rfl ?_; conv => whnf)
  refine CallS.of (by kernel_rfl) (valid23s a hf _ rfl rfl rfl) rfl ?_
  rintro _ _ ⟨rfl, b, rfl, hb⟩
  cases b
  · exact absurd (hb.2 ho) (by simp)
  conv => whnf
  iterate 1 (refine Gets.of _ rfl ?_; conv => whnf)
  refine CallS.of (by kernel_rfl) (single45s a hf ho _ rfl rfl rfl) rfl ?_
  rintro v H' (⟨rfl, hs, rfl⟩ | ⟨rfl, hs, rfl⟩)
  · exact absurd hsep hs
  conv => whnf
  iterate 2 (refine Gets.of _ rfl ?_; conv => whnf)
  refine Fork.mk (fun h => ?_) (fun _ => ?_)
  · simp only [decide_eq_true_eq] at h; omega
  conv => whnf
  iterate 1 (refine Gets.of _ rfl ?_; conv => whnf)
  refine CallS.of (by kernel_rfl) (copy53c a (by omega) hne _ rfl rfl rfl) rfl ?_
  rintro _ _ ⟨rfl, rfl⟩
  conv => whnf
  iterate 2 (refine Gets.of _ rfl ?_; conv => whnf)
  refine CallS.of (by kernel_rfl) (every49c a.props hp0 hp6 _) rfl ?_
  rintro _ _ ⟨rfl, rfl⟩
  conv => whnf
  iterate 3 (refine Gets.of _ rfl ?_; conv => whnf)
  refine Fork.mk (fun _ => ?_) (fun h => absurd h (by rw [hst]; decide))
  conv => whnf
  rw [← hml]
  refine CallS.of (by kernel_rfl) (contains47c (a.ms a.es.length) (allM a) (by rw [hml]; omega) 4 8 _ rfl rfl rfl rfl) rfl ?_
  rintro _ _ ⟨rfl, b, rfl, hb⟩
  cases b
  · exact absurd (hb.2 hinc) (by simp)
  rw [hml]
  clear hb
  conv => whnf
  iterate 1 (refine Gets.of _ rfl ?_; conv => whnf)
  refine Fork.mk (fun h3 => ?_) (fun h3 => ?_)
  all_goals conv => whnf
  · simp only [beq_iff_eq] at h3
    iterate 1 (refine Gets.of _ rfl ?_; conv => whnf)
    refine ⟨renL [0, 1] 9, .tuple [.agg zero32, .int .i64 3], a.heap, Emb.lits [0, 1] rfl rfl rfl rfl (.cons ⟨rfl, rfl, fun h => h⟩ (.cons ⟨rfl, rfl, fun h => h⟩ .nil)) (.cons ⟨rfl, .roI⟩ (.cons ⟨rfl, .roI⟩ .nil)), rfl, .inl ⟨rfl, rfl, .inl h3⟩⟩
  · simp only [beq_eq_false_iff_ne, ne_eq] at h3
    refine CallS.of (by kernel_rfl) (refuse55 a a.states hne _ rfl (fun i hi => by rcases i with _ | _ | _ | _ | _ | _ | _ | _ | _ | i <;> first | rfl | omega)) rfl ?_
    rintro v G ⟨rfl, gn, gf, gv⟩
    have gv : ∀ i, i < 2 → G.ver i = 0 := fun i hi => (gv i hi).trans (by rcases i with _ | _ | i <;> first | rfl | omega)
    have hrl : a.rfE.length = a.es.length := by unfold Au.rfE; split <;> simp
    have f2 : G.f 2 = a.boxS := gf 2 (by decide)
    have f7 : G.f 7 = .cells 1 [.int .i64 a.props, .int .i64 a.states, .slice 5 0 a.start.length, .int .i64 a.kind, .int .i64 a.rfM, .slice 6 0 a.es.length] := gf 7 (by decide)
    have hw1 : IntKind.wrap .i64 (a.states + 1) = a.states + 1 := wrap_i64 (by omega) (by omega)
    conv => whnf
    refine Gets.loadAt (j := 1) (v := .int .i64 a.states) (ti := ⟨1, 8, false, [.int .i64 0]⟩) (by kernel_rfl) rfl rfl (show (G.f 2).cs[1]? = _ by rw [f2]; rfl) ?_
    conv => whnf
    refine Gets.loadAt (j := 1) (v := .int .i64 a.states) (ti := ⟨1, 8, false, [.int .i64 0]⟩) (by kernel_rfl) rfl rfl (show (G.f 7).cs[1]? = _ by rw [f7]; rfl) ?_
    conv => whnf
    refine Gets.storeAt (j := 1) (es := 1) (ti := ⟨1, 8, false, [.int .i64 0]⟩) (by kernel_rfl) rfl rfl rfl (show G.f 7 = _ from f7) rfl (by show 1 < 6; decide) ?_
    rw [hw1]
    conv => whnf
    generalize hG0 : AHeap.set _ _ _ = G1
    have hG : G.set 7 (.cells 1 [.int .i64 a.props, .int .i64 (a.states + 1), .slice 5 0 a.start.length, .int .i64 a.kind, .int .i64 a.rfM, .slice 6 0 a.es.length]) = G1 := hG0
    clear hG0
    have g1n : G1.n = 9 := by rw [← hG]; exact gn
    have g1f : ∀ i, i < 9 → G1.f i = (a.FH a.rfE a.rfE.length a.rfM (a.states + 1)).f i := by
      intro i hi
      rw [← hG, set_f]
      by_cases h7 : i = 7
      · subst h7
        rw [if_pos rfl, hrl]
        rfl
      · rw [if_neg h7, gf i hi]
        rcases i with _ | _ | _ | _ | _ | _ | _ | _ | _ | i
        all_goals first | rfl | omega
    have g1v : ∀ i, i < 2 → G1.ver i = 0 := by
      intro i hi
      rw [← hG, set_ver, if_neg (by omega)]
      exact gv i hi
    clear hG
    refine Gets.loadAt (j := 2) (v := .slice 5 0 a.start.length) (ti := ⟨1, 24, false, [.nilSlice]⟩) (by kernel_rfl) rfl rfl (show (G1.f 7).cs[2]? = _ by rw [g1f 7 (by decide)]; rfl) ?_
    conv => whnf
    iterate 1 (refine Gets.of _ rfl ?_; conv => whnf)
    refine Fork.mk (fun h => absurd h (by rw [hst]; decide)) (fun _ => ?_)
    conv => whnf
    iterate 1 (refine Gets.of _ rfl ?_; conv => whnf)
    have hE0 : Emb 2 (preK 9 9) (a.FH a.rfE a.rfE.length a.rfM (a.states + 1)) G1 := by
      have := Emb.pre (n0 := 2) (G := a.FH a.rfE a.rfE.length a.rfM (a.states + 1)) (H := G1) (FH_closed a _ _ _ _ _) (by show 9 ≤ _; omega) (by show 2 ≤ 9; decide) g1f (fun i hi => (g1v i hi).symm ▸ rfl)
      rw [g1n] at this
      exact this
    refine CodeS.loopG (σ := Nat) (fun s => [(1, .ptr 2 0), (2, .ptr 3 0), (3, .int .i64 0), (6, .ptr 7 0), (8, .int .i64 a.states), (64, .slice 4 0 a.states.toNat), (65, .int .i64 a.states.toNat), (66, .int .i64 s)]) (fun s => a.FH (a.rfE ++ a.missA s) (a.rfE ++ a.missA s).length a.rfM (a.states + 1)) (fun s => s ≤ a.states.toNat) (fun s => a.states.toNat - s) 0 (preK 9 9) (by kernel_rfl)
      (Nat.zero_le _) ⟨rfl, rfl, rfl, rfl, rfl, rfl, rfl, rfl, trivial⟩ (by rw [show a.rfE ++ a.missA 0 = a.rfE by simp [Au.missA]]; exact hE0) ?_
    clear hE0
    intro s g1
    conv => whnf
    refine Fork.mk (fun hc => ?_) (fun hc => ?_)
    all_goals conv => whnf
    · have hc : s < a.states.toNat := by simp only [decide_eq_true_eq] at hc; omega
      have hlt : s < (a.ms a.es.length).length := by omega
      generalize hmk : (a.ms a.es.length).getD s 0 = mk
      have hgm : ((a.ms a.es.length).map Int.ofNat)[s]? = some (mk : Int) := by
        rw [List.getElem?_map, ← hmk, List.getD_eq_getElem?_getD, List.getElem?_eq_getElem hlt]; rfl
      have hmk64 : mk < 2 ^ 64 := by
        rw [← hmk, List.getD_eq_getElem?_getD, List.getElem?_eq_getElem hlt]
        exact a.ms_lt hp6 _ _ (List.getElem_mem hlt)
      refine Gets.ixS (es := 1) rfl (by kernel_rfl) (by omega) (by omega) ?_
      conv => whnf
      refine Gets.loadN (j := s) (k := .u64) (l := (a.ms a.es.length).map Int.ofNat) (x := (mk : Int)) (ti := ⟨1, 8, false, [.int .u64 0]⟩) (by kernel_rfl) rfl rfl (by simp) hgm ?_
      conv => whnf
      iterate 1 (refine Gets.of _ rfl ?_; conv => whnf)
      refine Gets.shl hp0 ?_
      rw [hsh]
      conv => whnf
      refine CodeS.loopG (σ := Nat) (fun k => [(1, .ptr 2 0), (2, .ptr 3 0), (3, .int .i64 0), (6, .ptr 7 0), (8, .int .i64 a.states), (9, .int .i64 s), (10, .int .u64 mk), (64, .slice 4 0 a.states.toNat), (65, .int .i64 a.states.toNat), (66, .int .i64 s), (73, .int .i64 (2 ^ a.props.toNat : Nat)), (74, .int .i64 k)]) (fun k => a.FH (a.rfE ++ a.missA s ++ a.missL s k) (a.rfE ++ a.missA s ++ a.missL s k).length a.rfM (a.states + 1)) (fun k => k ≤ 2 ^ a.props.toNat) (fun k => 2 ^ a.props.toNat - k) 0 (preK 9 9) (by kernel_rfl)
        (Nat.zero_le _) ⟨rfl, rfl, rfl, rfl, rfl, rfl, rfl, rfl, rfl, rfl, rfl, rfl, trivial⟩ ?_ ?_
      · rw [show a.rfE ++ a.missA s ++ a.missL s 0 = a.rfE ++ a.missA s by simp [Au.missL]]
        exact Emb.pre (n0 := 2) (FH_closed a _ _ _ _ _) (Nat.le_refl _) (by show 2 ≤ 9; decide) (fun _ _ => rfl) (fun _ _ => rfl)
      intro k g2
      have hms : a.missL s (k + 1) = if mk.testBit k = true then a.missL s k else a.missL s k ++ [⟨(s : Int), a.states, ((2 ^ a.props.toNat : Nat) : Int) - 1, (k : Int), 0⟩] := by
        unfold Au.missL
        rw [hmk, List.range_succ, List.filter_append, List.map_append]
        cases hb : mk.testBit k <;> simp [hb]
      conv => whnf
      refine Fork.mk (fun hc2 => ?_) (fun hc2 => ?_)
      all_goals conv => whnf
      · have hc2 : k < 2 ^ a.props.toNat := by simp only [decide_eq_true_eq] at hc2; exact_mod_cast hc2
        have hwk : IntKind.wrap .i64 ((k : Int) + 1) = ((k + 1 : Nat) : Int) := by rw [wrap_i64 (by omega) (by omega)]; rfl
        refine Gets.shr (by omega) ?_
        conv => whnf
        rw [bit64 hmk64 (by omega)]
        cases hbit : mk.testBit k
        · rw [hbit, if_neg (by simp)] at hms
          conv => whnf
          refine Fork.mk (fun _ => ?_) (fun h => by cases h)
          conv => whnf
          generalize hE : a.rfE ++ a.missA s ++ a.missL s k = E
          have hEl : E.length ≤ 1000000 := by
            have l1 : (a.missL s k).length ≤ 64 := by
              unfold Au.missL
              rw [List.length_map]
              exact Nat.le_trans (List.length_filter_le _ _) (by simp; omega)
            have l2 : ∀ t, (a.missA t).length ≤ 64 * t := by
              intro t
              induction t with
              | zero => simp [Au.missA]
              | succ t ih =>
                have : a.missA (t + 1) = a.missA t ++ a.missL t (2 ^ a.props.toNat) := by unfold Au.missA; rw [List.range_succ, List.flatMap_append]; simp
                rw [this, List.length_append]
                have l3 : (a.missL t (2 ^ a.props.toNat)).length ≤ 64 := by
                  unfold Au.missL
                  rw [List.length_map]
                  exact Nat.le_trans (List.length_filter_le _ _) (by simp; omega)
                omega
            have := l2 s
            rw [← hE, List.length_append, List.length_append, hrl]
            omega
          have hw2 : IntKind.wrap .i64 (((2 ^ a.props.toNat : Nat) : Int) - 1) = ((2 ^ a.props.toNat : Nat) : Int) - 1 := wrap_i64 (by omega) (by omega)
          refine CodeS.drawI [2, 7] [(0, true, false), (1, true, false), (2, true, false), (3, true, false), (4, true, false), (5, true, false), (6, true, false), (7, true, false), (8, true, false), (9, true, false), (10, false, true), (11, false, true), (12, true, false), (13, false, false)] mixed (by kernel_rfl) (.cons ⟨rfl, trivial⟩ (.cons ⟨rfl, trivial⟩ .nil)) ?_
          conv => whnf
          iterate 2 (refine Gets.of _ rfl ?_; conv => whnf)
          refine Gets.shl hp0 ?_
          rw [hsh]
          conv => whnf
          rw [hw2]
          conv => whnf
          refine ⟨fun _ i hi => rfl, ?_⟩
          conv => whnf
          refine Gets.appendX (es := 5) (r := flat E) (x := [(s : Int), a.states, ((2 ^ a.props.toNat : Nat) : Int) - 1, (k : Int), 0]) (ti := ⟨5, 40, true, [.int .i64 0, .int .i64 0, .int .i64 0, .int .i64 0, .int .i64 0]⟩) (d := .slice 54) (by kernel_rfl) (by kernel_rfl) rfl rfl rfl (by decide) rfl rfl rfl (flat_length _) (by omega) ?_
          conv => whnf
          refine ⟨fun _ i hi => by simp only [List.mem_cons, List.not_mem_nil, or_false] at hi; rcases hi with rfl | rfl <;> rfl, ?_⟩
          conv => whnf
          iterate 1 (refine Gets.of _ rfl ?_; conv => whnf)
          refine ⟨(fun h => by cases h), ?_⟩
          conv => whnf
          refine ⟨k + 1, renL [0, 1, 2, 3, 4, 5, 10, 7, 8] 11, by omega, by omega, ⟨rfl, rfl, rfl, rfl, rfl, rfl, rfl, rfl, rfl, rfl, rfl, congrArg (AVal.int .i64) hwk, trivial⟩, ?_⟩
          rw [hms, ← List.append_assoc, hE]
          exact FH_push a E ⟨s, a.states, ((2 ^ a.props.toNat : Nat) : Int) - 1, k, 0⟩ a.rfM (a.states + 1) rfl (fun i hi h6 h7 => by rcases i with _ | _ | _ | _ | _ | _ | _ | _ | _ | i <;> first | rfl | omega) rfl rfl (fun i hi => by rcases i with _ | _ | i <;> first | rfl | omega)
        · rw [hbit, if_pos rfl] at hms
          conv => whnf
          refine Fork.mk (fun h => by cases h) (fun _ => ?_)
          conv => whnf
          refine ⟨k + 1, preK 9 9, by omega, by omega, ⟨rfl, rfl, rfl, rfl, rfl, rfl, rfl, rfl, rfl, rfl, rfl, congrArg (AVal.int .i64) hwk, trivial⟩, ?_⟩
          rw [hms]
          exact Emb.pre (n0 := 2) (FH_closed a _ _ _ _ _) (Nat.le_refl _) (by show 2 ≤ 9; decide) (fun _ _ => rfl) (fun _ _ => rfl)
      · have hk : k = 2 ^ a.props.toNat := by simp only [decide_eq_false_iff_not] at hc2; have : ¬ k < 2 ^ a.props.toNat := fun h => hc2 (by exact_mod_cast h); omega
        subst hk
        have hws : IntKind.wrap .i64 ((s : Int) + 1) = ((s + 1 : Nat) : Int) := by rw [wrap_i64 (by omega) (by omega)]; rfl
        have hma : a.missA (s + 1) = a.missA s ++ a.missL s (2 ^ a.props.toNat) := by unfold Au.missA; rw [List.range_succ, List.flatMap_append]; simp
        refine ⟨s + 1, preK 9 9, by omega, by omega, ⟨rfl, rfl, rfl, rfl, rfl, rfl, rfl, congrArg (AVal.int .i64) hws, trivial⟩, ?_⟩
        rw [hma, ← List.append_assoc]
        exact Emb.pre (n0 := 2) (FH_closed a _ _ _ _ _) (Nat.le_refl _) (by show 2 ≤ 9; decide) (fun _ _ => rfl) (fun _ _ => rfl)
    · have hs : s = a.states.toNat := by simp only [decide_eq_false_iff_not] at hc; omega
      subst hs
      have hout : a.outE = a.rfE ++ a.missA a.states.toNat ++ [a.lastE] := rfl
      generalize hE : a.rfE ++ a.missA a.states.toNat = E at hout
      have hEl : E.length ≤ 1000000 := by
        have l2 : ∀ t, (a.missA t).length ≤ 64 * t := by
          intro t
          induction t with
          | zero => simp [Au.missA]
          | succ t ih =>
            have : a.missA (t + 1) = a.missA t ++ a.missL t (2 ^ a.props.toNat) := by unfold Au.missA; rw [List.range_succ, List.flatMap_append]; simp
            rw [this, List.length_append]
            have l3 : (a.missL t (2 ^ a.props.toNat)).length ≤ 64 := by
              unfold Au.missL
              rw [List.length_map]
              exact Nat.le_trans (List.length_filter_le _ _) (by simp; omega)
            omega
        have := l2 a.states.toNat
        rw [← hE, List.length_append, hrl]
        omega
      refine CodeS.drawI [2, 7] [(0, true, false), (1, true, false), (2, true, false), (3, true, false), (4, true, false), (5, true, false), (6, false, true), (7, true, false), (8, false, true), (9, false, true), (10, true, false), (11, false, false)] mixed (by kernel_rfl) (.cons ⟨rfl, trivial⟩ (.cons ⟨rfl, trivial⟩ .nil)) ?_
      conv => whnf
      iterate 2 (refine Gets.of _ rfl ?_; conv => whnf)
      refine CallPS.of (by kernel_rfl) (sink56c a.kind _) rfl ?_
      rintro _ _ ⟨rfl, rfl⟩
      conv => whnf
      refine ⟨fun _ i hi => rfl, ?_⟩
      conv => whnf
      refine ⟨fun _ i hi => rfl, ?_⟩
      conv => whnf
      refine Gets.appendX (es := 5) (r := flat E) (x := a.lastE.l) (ti := ⟨5, 40, true, [.int .i64 0, .int .i64 0, .int .i64 0, .int .i64 0, .int .i64 0]⟩) (d := .slice 54) (by kernel_rfl) (by kernel_rfl) rfl rfl rfl (by decide) rfl rfl rfl (flat_length _) (by omega) ?_
      conv => whnf
      refine ⟨fun _ i hi => by simp only [List.mem_cons, List.not_mem_nil, or_false] at hi; rcases hi with rfl | rfl <;> rfl, ?_⟩
      conv => whnf
      iterate 1 (refine Gets.of _ rfl ?_; conv => whnf)
      refine ⟨(fun h => by cases h), ?_⟩
      conv => whnf
      iterate 2 (refine Gets.of _ rfl ?_; conv => whnf)
      have hol : a.outE.length = E.length + 1 := by rw [hout, List.length_append]; rfl
      refine Fork.mk (fun hbig => ?_) (fun hbig => ?_)
      all_goals conv => whnf
      · iterate 1 (refine Gets.of _ rfl ?_; conv => whnf)
        refine ⟨renL [0, 1] 11, .tuple [.agg zero32, .int .i64 3], a.heap, Emb.lits [0, 1] rfl rfl rfl rfl (.cons ⟨rfl, rfl, fun h => h⟩ (.cons ⟨rfl, rfl, fun h => h⟩ .nil)) (.cons ⟨rfl, .roI⟩ (.cons ⟨rfl, .roI⟩ .nil)), rfl, .inl ⟨rfl, rfl, .inr ?_⟩⟩
        simp only [decide_eq_true_eq] at hbig
        rw [hol]
        omega
      · iterate 2 (refine Gets.of _ rfl ?_; conv => whnf)
        simp only [decide_eq_false_iff_not] at hbig
        refine ⟨renL [0, 1, 5, 10] 11, .tuple [.agg [.int .i64 a.props, .int .i64 (a.states + 1), .slice 2 0 1, .int .i64 a.kind, .int .i64 a.rfM, .slice 3 0 a.outE.length], .int .i64 0], (a.heap.alloc (.cells 1 (ints a.start))).alloc (.cells 5 (ints (flat a.outE))), ?_, ?_, .inr ⟨rfl, rfl, h3, by rw [hol]; omega⟩⟩
        · refine Emb.lits [0, 1, 5, 10] rfl rfl rfl rfl (.cons ⟨rfl, rfl, fun h => h⟩ (.cons ⟨rfl, rfl, fun h => h⟩ .nil)) (.cons ⟨rfl, .roI⟩ (.cons ⟨rfl, .roI⟩ (.cons ⟨rfl, .cellsI⟩ (.cons ⟨rfl, ?_⟩ .nil))))
          show BSub _ (.cells 5 (ints (flat a.outE))) (.cells 5 (ints (flat E ++ a.lastE.l)))
          rw [hout, flat_append, show flat [a.lastE] = a.lastE.l by simp [flat]]
          exact .cellsI
        · rw [hol, hst]
          rfl
end Go.Proofs.Ytdahmcgncpoliaa
