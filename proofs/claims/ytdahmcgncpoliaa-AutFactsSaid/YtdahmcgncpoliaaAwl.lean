/- Walk, of the program: the proof. -/
import Derived.Test.YtdahmcgncpoliaaAwk
set_option linter.unusedVariables false
set_option linter.unusedSimpArgs false
set_option maxRecDepth 100000
namespace Go.Proofs.Ytdahmcgncpoliaa
open Go Go.Vh Go.Proofs
def exW (hs ms : List Int) : List ABlk := [.map (ents hs), rowBlk 1 (some ms)]
theorem exW_ints (hs ms : List Int) : ∀ b ∈ exW hs ms, IntsOnly b := by
  intro b hb
  simp only [exW, List.mem_cons, List.not_mem_nil, or_false] at hb
  rcases hb with rfl | rfl
  · intro κ; rw [renB, renM_ents]
  · exact intsOnly_row ms
theorem Au.exN (a : Au) (w : Wd) (s : Int) (hs ms : List Int) : (a.WC w a.rows s (exW hs ms)).n = 11 + a.rows.length := a.WC_n w a.rows s _
theorem nodup11 {k7 k8 k9 k10 : Nat} {G : AHeap} (hd : ([0, 1, 2, 3, 4, 5, 6, k7, k8] ++ [k9, k10]).Nodup) : ∀ (i j k : Nat), ([0, 1, 2, 3, 4, 5, 6, k7, k8] ++ [k9, k10])[i]? = some k → ([0, 1, 2, 3, 4, 5, 6, k7, k8] ++ [k9, k10])[j]? = some k → i ≠ j → G.f i = .dead ∨ G.f j = .dead := by
  intro i j k hi hj hij
  exfalso
  have hp := List.pairwise_iff_getElem.1 hd
  obtain ⟨a1, a2⟩ := List.getElem?_eq_some_iff.1 hi
  obtain ⟨b1, b2⟩ := List.getElem?_eq_some_iff.1 hj
  rcases Nat.lt_or_gt_of_ne hij with h | h
  · exact hp i j a1 b1 h (a2.trans b2.symm)
  · exact hp j i b1 a1 h (b2.trans a2.symm)
theorem Au.W6_of (a : Au) (w : Wd) (s : Int) (hs ms : List Int) {i : Nat} (hi : i < 6) : (a.WC w a.rows s (exW hs ms)).f i = (a.W6 w).f i := by
  rw [a.WC_lit w a.rows s _ (by omega)]
  rcases i with _ | _ | _ | _ | _ | _ | i
  · rfl
  · rfl
  · rfl
  · rfl
  · rfl
  · rfl
  · omega
theorem Au.exEmb4 (a : Au) (w : Wd) (s : Int) (hs hs' ms : List Int) : Emb 4 (rk ([0, 1, 2, 3, 4, 5, 6, 7, 8] ++ [9, 10]) (fun t => 11 + t) a.rows.length (11 + a.rows.length)) (a.WC w a.rows s (exW hs' ms)) ((a.WC w a.rows s (exW hs ms)).set 9 (.map (ents hs'))) := by
  have hff : ∀ i, i ≠ 9 → ((a.WC w a.rows s (exW hs ms)).set 9 (.map (ents hs'))).f i = (a.WC w a.rows s (exW hs ms)).f i := fun i hi => by rw [set_f, if_neg hi]
  refine a.wEmb w a.rows s (exW hs' ms) (exW_ints _ _) 7 8 [9, 10] _ (a.exN w s hs ms) rfl (by omega) (by omega) (by omega) (fun i hi => by rw [hff i (by omega), a.W6_of w s hs ms hi]) (by rw [hff 6 (by decide)]; rfl) (by rw [hff 7 (by decide)]; rfl) (by rw [hff 8 (by decide)]; rfl) (fun j k b hj hb => ?_) (fun i hi => ?_) (nodup11 (by decide)) (fun t ht => by omega) (fun t x l h => ?_) (fun t u h => by omega)
  · rcases j with _ | _ | j
    · cases hj; cases hb
      refine ⟨by omega, .inr ?_⟩
      rw [set_f, if_pos rfl]
    · cases hj; cases hb
      refine ⟨by omega, .inr ?_⟩
      rw [hff 10 (by decide)]
      exact a.WC_ex w a.rows s (exW hs ms) (j := 1) rfl
    · simp at hj
  · rw [set_ver, if_neg (by omega), a.WC_ver]
  · have := (List.getElem?_eq_some_iff.1 h).1
    refine ⟨by simp; omega, ?_⟩
    rw [hff _ (by omega)]
    have := a.WC_row w a.rows s (exW hs ms) t
    rw [h] at this
    exact this
theorem Au.exEmb6 (a : Au) (w : Wd) (s : Int) (hs ms : List Int) (y : Int) (l : List Int) (z : ABlk) (H' : AHeap) (h' : (ms = [] ∧ H' = (a.WC w a.rows s (exW hs ms)).alloc z) ∨ (ms ≠ [] ∧ H' = ((a.WC w a.rows s (exW hs ms)).alloc z).set 10 .dead)) :
    Emb 4 (rk ([0, 1, 2, 3, 4, 5, 6, 7, 8] ++ [9, 12 + a.rows.length]) (fun t => 11 + t) a.rows.length (13 + a.rows.length)) (a.WC w a.rows s (exW hs (y :: l))) (H'.alloc (.cells 1 (ints (y :: l)))) := by
  have hn := a.exN w s hs ms
  have hn' : H'.n = 12 + a.rows.length := by rcases h' with ⟨_, rfl⟩ | ⟨_, rfl⟩ <;> (show (a.WC w a.rows s (exW hs ms)).n + 1 = _; omega)
  have hff : ∀ i, i < 11 + a.rows.length → i ≠ 10 → (H'.alloc (.cells 1 (ints (y :: l)))).f i = (a.WC w a.rows s (exW hs ms)).f i := by
    intro i h1 h2
    rw [alloc_f, hn', if_neg (by omega)]
    rcases h' with ⟨_, rfl⟩ | ⟨_, rfl⟩
    · rw [alloc_f, hn, if_neg (by omega)]
    · rw [set_f, if_neg h2, alloc_f, hn, if_neg (by omega)]
  have hfn : (H'.alloc (.cells 1 (ints (y :: l)))).f (12 + a.rows.length) = .cells 1 (ints (y :: l)) := by rw [alloc_f, hn', if_pos rfl]
  refine a.wEmb w a.rows s (exW hs (y :: l)) (exW_ints _ _) 7 8 [9, 12 + a.rows.length] _ (by rw [alloc_n, hn']; omega) rfl (by omega) (by omega) (by omega) (fun i hi => by rw [hff i (by omega) (by omega), a.W6_of w s hs ms hi]) (by rw [hff 6 (by omega) (by decide)]; rfl) (by rw [hff 7 (by omega) (by decide)]; rfl) (by rw [hff 8 (by omega) (by decide)]; rfl) (fun j k b hj hb => ?_) (fun i hi => ?_) (nodup11 (by simp; omega)) (fun t ht => by omega) (fun t x l h => ?_) (fun t u h => by omega)
  · rcases j with _ | _ | j
    · cases hj; cases hb
      refine ⟨by omega, .inr ?_⟩
      rw [hff 9 (by omega) (by decide)]
      exact a.WC_ex w a.rows s (exW hs ms) (j := 0) rfl
    · cases hj; cases hb
      exact ⟨by omega, .inr hfn⟩
    · simp at hj
  · rw [alloc_ver]
    rcases h' with ⟨_, rfl⟩ | ⟨_, rfl⟩
    · rw [alloc_ver, a.WC_ver]
    · rw [set_ver, if_neg (by omega), alloc_ver, a.WC_ver]
  · have := (List.getElem?_eq_some_iff.1 h).1
    refine ⟨by simp; omega, ?_⟩
    rw [hff _ (by omega) (by omega)]
    have := a.WC_row w a.rows s (exW hs ms) t
    rw [h] at this
    exact this
theorem walk13 (a : Au) (hf : a.Fits) (w : Wd) (hw : w.Fits) : CallW Try.prog 13 [a.av, w.avAt 2 3] (a.heapW w) fun v _ => ∃ inf dead e, v = .tuple [.int .i64 inf, .bool dead, .int .i64 e] ∧ a.AutW w inf dead e := by
  refine CallW.sym Try.func13 rfl (by kernel_rfl) ?_
  conv => whnf
  iterate 1 (refine Gets.of _ rfl ?_; conv => whnf)
  refine CallS.of (by kernel_rfl) (det15c a hf _ rfl rfl rfl) rfl ?_
  rintro _ _ ⟨rfl, b, e, rfl, hb⟩
  rcases hb with ⟨hno, rfl, rfl⟩ | ⟨ho, rfl, hb⟩
  · conv => whnf
    refine Fork.mk (fun _ => ?_) (fun h => absurd h (by decide))
    conv => whnf
    exact ⟨_, _, _, rfl, .inl ⟨hno, rfl, rfl, rfl⟩⟩
  conv => whnf
  refine Fork.mk (fun h => absurd h (by decide)) (fun _ => ?_)
  conv => whnf
  cases b
  · conv => whnf
    exact ⟨_, _, _, rfl, .inr (.inl ⟨ho, fun h => absurd (hb.2 h) (by simp), rfl, rfl, rfl⟩)⟩
  have h1 := hb.1 rfl
  clear hb
  conv => whnf
  iterate 2 (refine Gets.of _ rfl ?_; conv => whnf)
  refine CallS.of (by kernel_rfl) (wvalid41c w hw a.props _ rfl rfl rfl) rfl ?_
  rintro _ _ ⟨rfl, b, rfl, hb⟩
  cases b <;> conv => whnf
  · exact ⟨_, _, _, rfl, .inr (.inr (.inl ⟨ho, h1, fun h => absurd (hb.2 h) (by simp), rfl, rfl, rfl⟩))⟩
  have hwo : w.Ok a.props := hb.1 rfl
  clear hb
  refine Gets.of _ rfl ?_
  conv => whnf
  have hdead : ∀ i, (a.W6 w).n ≤ i → (a.W6 w).f i = .dead := by
    intro i hi
    have hi : 6 ≤ i := hi
    show (if i = 5 then _ else if i = 4 then _ else if i = 3 then _ else if i = 2 then _ else if i = 1 then _ else if i = 0 then _ else _) = _
    rw [if_neg (by omega), if_neg (by omega), if_neg (by omega), if_neg (by omega), if_neg (by omega), if_neg (by omega)]
    rfl
  refine CallS.of (by kernel_rfl) (by42c a hf ho (a.W6 w) rfl rfl rfl hdead) rfl ?_
  rintro _ _ ⟨rfl, rfl⟩
  have hst0 := ho.1.2.2.1
  have hst1 := ho.1.2.2.2.1
  have hne := ho.1.2.2.2.2.2.2.2
  have hlen : a.rows.length = a.states.toNat := a.byN_length _
  have hrow : ∀ t x l, a.rows[t]? = some (x :: l) → t < a.rows.length := fun t x l h => (List.getElem?_eq_some_iff.1 h).1
  rw [show a.byN a.es.length = a.rows from rfl]
  generalize hG : (rowsAt ((a.W6 w).alloc _) 1 a.rows) = G
  have hGn : G.n = 7 + a.rows.length := by rw [← hG]; rfl
  have hGf : ∀ i, i < 6 → G.f i = (a.W6 w).f i := by
    intro i hi
    rw [← hG]
    show (if i < 7 then (if i = 6 then _ else (a.W6 w).f i) else _) = _
    rw [if_pos (by omega), if_neg (by omega)]
  have hG6 : G.f 6 = .cells 1 (rowVg (fun t => 7 + t) 1 a.rows) := by rw [← hG]; rfl
  have hGr : ∀ t, G.f (7 + t) = rowBlk 1 a.rows[t]? := by
    intro t
    rw [← hG]
    show (if 7 + t < 7 then _ else rowBlk 1 a.rows[7 + t - 7]?) = _
    rw [if_neg (by omega), Nat.add_sub_cancel_left]
  have hGv : ∀ i, G.ver i = 0 := by intro i; rw [← hG]; rfl
  conv => whnf
  refine Gets.storeAt (j := 0) (es := 1) (cs := [.nilSlice]) (ti := ⟨1, 24, false, [.nilSlice]⟩) (by kernel_rfl) rfl rfl rfl (by rw [alloc_f, if_pos rfl]; rfl) rfl Nat.one_pos ?_
  conv => whnf
  generalize hH : AHeap.set _ _ _ = H1
  have hH1n : H1.n = 8 + a.rows.length := by rw [← hH]; show G.n + 1 = _; omega
  have hH1f : ∀ i, i < 7 + a.rows.length → H1.f i = G.f i := by intro i hi; rw [← hH, set_f, if_neg (by omega), alloc_f, if_neg (by omega)]
  have hH1b : H1.f G.n = .cells 1 [.slice 6 0 a.rows.length] := by rw [← hH, set_f, if_pos rfl, hlen]; rfl
  have hH1v : ∀ i, i < 7 + a.rows.length → H1.ver i = 0 := by intro i hi; rw [← hH, set_ver, if_neg (by omega), alloc_ver, hGv]
  clear hH
  refine Gets.loadAt (j := 2) (v := .view 0 0 a.start.length) (ti := ⟨1, 24, false, [.nilSlice]⟩) (by kernel_rfl) rfl rfl (show (H1.f 4).cs[2]? = _ by rw [hH1f 4 (by omega), hGf 4 (by decide)]; rfl) ?_
  conv => whnf
  have hs1 := h1.2
  have hstart := ho.2.1 0 (by omega)
  refine Gets.ixV (es := 1) rfl (by kernel_rfl) (by decide) (by omega) ?_
  conv => whnf
  refine Gets.loadN (j := 0) (k := .i64) (l := a.start) (x := a.start.getD 0 0) (ti := ⟨1, 8, false, [.int .i64 0]⟩) (by kernel_rfl) rfl (by rw [hH1f 0 (by omega), hGf 0 (by decide)]; rfl) (by simp) (getD_some (by omega)) ?_
  conv => whnf
  refine Gets.storeAt (j := 0) (es := 1) (cs := [.int .i64 0]) (ti := ⟨1, 8, false, [.int .i64 0]⟩) (by kernel_rfl) rfl rfl rfl (by rw [alloc_f, if_pos rfl]; rfl) rfl Nat.one_pos ?_
  conv => whnf
  generalize hH : AHeap.set _ _ _ = H2
  have hH2n : H2.n = 9 + a.rows.length := by rw [← hH]; show H1.n + 1 = _; omega
  have hH2f : ∀ i, i < 8 + a.rows.length → H2.f i = H1.f i := by intro i hi; rw [← hH, set_f, if_neg (by omega), alloc_f, if_neg (by omega)]
  have hH2s : H2.f H1.n = .cells 1 [.int .i64 (a.start.getD 0 0)] := by rw [← hH, set_f, if_pos rfl]; rfl
  have hH2v : ∀ i, i < 7 + a.rows.length → H2.ver i = 0 := by intro i hi; rw [← hH, set_ver, if_neg (by omega), alloc_ver, hH1v i hi]
  clear hH
  refine Gets.loadAt (j := 0) (v := .view 2 0 w.stem.length) (ti := ⟨1, 24, false, [.nilSlice]⟩) (by kernel_rfl) rfl rfl (show (H2.f 5).cs[0]? = _ by rw [hH2f 5 (by omega), hH1f 5 (by omega), hGf 5 (by decide)]; rfl) ?_
  conv => whnf
  iterate 1 (refine Gets.of _ rfl ?_; conv => whnf)
  have hE1 : Emb 4 (rk ([0, 1, 2, 3, 4, 5, 6, 7 + a.rows.length, 8 + a.rows.length] ++ []) (fun t => 7 + t) a.rows.length (9 + a.rows.length)) (a.WC w a.rows (a.start.getD 0 0) []) H2 := by
    refine a.wEmb w a.rows _ [] (by simp) (7 + a.rows.length) (8 + a.rows.length) [] _ hH2n rfl (by omega) (by omega) (by omega) (fun i hi => by rw [hH2f i (by omega), hH1f i (by omega), hGf i hi]) (by rw [hH2f 6 (by omega), hH1f 6 (by omega), hG6]) (by rw [hH2f _ (by omega), ← hH1b, hGn]) (by rw [← hH2s, hH1n]) (fun j k b h => by simp at h) (fun i hi => hH2v i (by omega)) (fun i j k hi hj hij => ?_) (fun t ht => by omega) (fun t x l h => ?_) (fun t u h => by omega)
    · exfalso
      have hd : ([0, 1, 2, 3, 4, 5, 6, 7 + a.rows.length, 8 + a.rows.length] ++ ([] : List Nat)).Nodup := by simp; omega
      have hp := List.pairwise_iff_getElem.1 hd
      obtain ⟨a1, a2⟩ := List.getElem?_eq_some_iff.1 hi
      obtain ⟨b1, b2⟩ := List.getElem?_eq_some_iff.1 hj
      rcases Nat.lt_or_gt_of_ne hij with h | h
      · exact hp i j a1 b1 h (a2.trans b2.symm)
      · exact hp j i b1 a1 h (b2.trans a2.symm)
    · have := hrow t x l h
      refine ⟨by simp; omega, ?_⟩
      rw [hH2f _ (by omega), hH1f _ (by omega), hGr, h]
      rfl
  have hwl := hwo.2.2.2.1
  have hwne := hwo.2.2.1
  have hin : ∀ {s l : Int} {e : Edg}, a.go s l = some e → 0 ≤ e.to ∧ e.to < a.states := fun h => ⟨(a.go_ok ho h).1, (a.go_ok ho h).2.1⟩
  have hs0 : 0 ≤ a.start.getD 0 0 ∧ a.start.getD 0 0 < a.states := ⟨hstart.1, hstart.2.1⟩
  generalize hs00 : a.start.getD 0 0 = s00 at *
  refine CodeS.loopG (σ := Nat × Int) (fun x => [(3, .ptr 5 0), (4, .int .i64 0), (5, .bool false), (6, .int .i64 0), (9, .ptr 8 0), (10, .func 43 [] [.ptr 7 0, .ptr 8 0, .ptr 4 0]), (52, .view 2 0 w.stem.length), (53, .int .i64 w.stem.length), (54, .int .i64 x.1)]) (fun x => a.WC w a.rows x.2 []) (fun x => x.1 ≤ w.stem.length ∧ a.sRun s00 (w.stem.take x.1) = some x.2 ∧ 0 ≤ x.2 ∧ x.2 < a.states) (fun x => w.stem.length - x.1) (0, s00) (rk ([0, 1, 2, 3, 4, 5, 6, 7 + a.rows.length, 8 + a.rows.length] ++ []) (fun t => 7 + t) a.rows.length (9 + a.rows.length)) (by kernel_rfl)
    ⟨Nat.zero_le _, rfl, hs0⟩ ⟨rfl, rfl, rfl, rfl, by show AVal.ptr H1.n 0 = .ptr (8 + a.rows.length) 0; rw [hH1n], by show AVal.func 43 [] [.ptr G.n 0, .ptr H1.n 0, .ptr 4 0] = .func 43 [] [.ptr (7 + a.rows.length) 0, .ptr (8 + a.rows.length) 0, .ptr 4 0]; rw [hH1n, hGn], rfl, rfl, rfl, trivial⟩ hE1 ?_
  rintro ⟨j, s⟩ ⟨g1, g2, g3⟩
  dsimp only at g1 g2 g3
  conv => whnf
  refine Fork.mk (fun hc => ?_) (fun hc => ?_)
  all_goals conv => whnf
  · have hc : j < w.stem.length := by simp at hc; omega
    refine Gets.ixV (es := 1) rfl (by kernel_rfl) (by omega) (by omega) ?_
    conv => whnf
    refine Gets.loadN (j := j) (k := .i64) (l := w.stem) (x := w.stem[j]) (ti := ⟨1, 8, false, [.int .i64 0]⟩) (by kernel_rfl) rfl rfl (by simp) (List.getElem?_eq_getElem hc) ?_
    have happ := a.sRun_append (w.stem.take j) s00 w.stem[j]
    rw [← List.take_succ_eq_append_getElem hc, g2] at happ
    dsimp only at happ
    conv => whnf
    refine CallS.of (by kernel_rfl) (stepW a w w.stem[j] s [] (by simp) ho g3) rfl ?_
    intro v H' hv
    cases hgo : a.go s w.stem[j] with
    | none =>
      rw [hgo] at hv happ
      obtain ⟨rfl, rfl⟩ := hv
      conv => whnf
      refine ⟨_, _, _, rfl, .inr (.inr (.inr ⟨ho, h1, hwo, rfl, .inl ⟨?_, rfl, rfl⟩⟩))⟩
      have := a.sRun_none _ (w.stem.drop (j + 1)) s00 happ
      rw [List.take_append_drop] at this
      rw [hs00]; exact this
    | some e =>
      rw [hgo] at hv happ
      obtain ⟨rfl, rfl⟩ := hv
      conv => whnf
      have hw : IntKind.wrap .i64 ((j : Int) + 1) = ((j + 1 : Nat) : Int) := by rw [wrap_i64 (by omega) (by omega)]; rfl
      exact ⟨(j + 1, e.to), _, ⟨by show j + 1 ≤ _; omega, happ, hin hgo⟩, by show _ - (j + 1) < _ - j; omega, ⟨rfl, rfl, rfl, rfl, rfl, rfl, rfl, rfl, congrArg (AVal.int .i64) hw, trivial⟩, a.stepEmb w s e.to [] (by simp) [] rfl⟩
  have hj : j = w.stem.length := by simp at hc; omega
  subst hj
  rw [List.take_length] at g2
  have hE3 : Emb 4 (rk ([0, 1, 2, 3, 4, 5, 6, 7, 8] ++ [9 + a.rows.length, 0]) (fun t => 9 + t) a.rows.length (10 + a.rows.length)) (a.WC w a.rows s (exW [] [])) ((a.WC w a.rows s []).alloc (.map [])) := by
    have hn9 : (a.WC w a.rows s []).n = 9 + a.rows.length := a.WC_n w a.rows s []
    have hff : ∀ i, i < 9 + a.rows.length → ((a.WC w a.rows s []).alloc (.map [])).f i = (a.WC w a.rows s []).f i := fun i hi => by rw [alloc_f, hn9, if_neg (by omega)]
    refine a.wEmb w a.rows s (exW [] []) (exW_ints [] []) 7 8 [9 + a.rows.length, 0] _ (by rw [alloc_n, hn9]; omega) rfl (by omega) (by omega) (by omega) (fun i hi => ?_) ?_ ?_ ?_ (fun j k b hj hb => ?_) (fun i hi => ?_) ?_ (fun t ht => by omega) (fun t x l h => ?_) (fun t u h => by omega)
    · rw [hff i (by omega)]
      rcases i with _ | _ | _ | _ | _ | _ | i
      · rfl
      · rfl
      · rfl
      · rfl
      · rfl
      · rfl
      · omega
    · rw [hff 6 (by omega)]; rfl
    · rw [hff 7 (by omega)]; rfl
    · rw [hff 8 (by omega)]; rfl
    · rcases j with _ | _ | j
      · cases hj; cases hb
        refine ⟨by omega, .inr ?_⟩
        rw [alloc_f, hn9, if_pos rfl]; rfl
      · cases hj; cases hb; exact ⟨by omega, .inl rfl⟩
      · simp at hj
    · show (a.WC w a.rows s []).ver i = 0
      rw [a.WC_ver]
    · exact nodup_last (l := [0, 1, 2, 3, 4, 5, 6, 7, 8, 9 + a.rows.length]) (z := 0) (by simp; omega) rfl
    · have := hrow t x l h
      refine ⟨by simp; omega, ?_⟩
      rw [hff _ (by omega)]
      have := a.WC_row w a.rows s [] t
      rw [h] at this
      exact this
  have hn9 : (a.WC w a.rows s []).n = 9 + a.rows.length := a.WC_n w a.rows s []
  refine CodeS.loopG (σ := List Int × List Int × Int) (fun x => [(3, .ptr 5 0), (4, .int .i64 0), (5, .bool false), (6, .int .i64 0), (9, .ptr 8 0), (10, .func 43 [] [.ptr 7 0, .ptr 8 0, .ptr 4 0]), (15, .map 9), (16, rowV 10 1 x.2.1)]) (fun x => a.WC w a.rows x.2.2 (exW x.1 x.2.1)) (fun x => a.Hist w.loop s x.1 x.2.1 x.2.2) (fun x => a.states.toNat + 1 - x.1.length) ([], [], s) (rk ([0, 1, 2, 3, 4, 5, 6, 7, 8] ++ [9 + a.rows.length, 0]) (fun t => 9 + t) a.rows.length (10 + a.rows.length)) (by kernel_rfl)
    ⟨rfl, fun i h => absurd h (Nat.not_lt_zero _), fun i h => absurd h (Nat.not_lt_zero _), rfl, List.nodup_nil, by simp, g3⟩ ⟨rfl, rfl, rfl, rfl, rfl, rfl, by show AVal.map (a.WC w a.rows s []).n = .map (9 + a.rows.length); rw [hn9], rfl, trivial⟩ hE3 ?_
  clear hE3 hE1
  rintro ⟨hs, ms, s1⟩ hist
  dsimp only at hist
  have hle := nodup_le a.states.toNat hs hist.nodup (fun x hx => by have := hist.ok x hx; omega)
  have hml := hist.len
  conv => whnf
  iterate 1 (refine Gets.of _ rfl ?_; conv => whnf)
  by_cases hmem : s1 ∈ hs
  · obtain ⟨k, hk1, hk2, hk3⟩ := first_at hs hmem
    refine Gets.lookYes (k := k) (l := hs) (z := .int .i64 0) (by kernel_rfl) rfl hk2 hk3 ?_
    rcases hms : ms with _ | ⟨m0, mt⟩
    · rw [hms] at hml; simp at hml; omega
    conv => whnf
    have hlen1 : (m0 :: mt).length / 1 = (m0 :: mt).length := Nat.div_one _
    rw [hms] at hml
    refine Gets.sliceLo (k := k) (n := (m0 :: mt).length / 1) (cs := ints (m0 :: mt)) (e := 3) (ti := ⟨1, 8, false, [.int .i64 0]⟩) (by kernel_rfl) (by kernel_rfl) rfl rfl (by rw [hlen1]; omega) ?_
    conv => whnf
    iterate 1 (refine Gets.of _ rfl ?_; conv => whnf)
    rw [hlen1]
    have hkl : k < (m0 :: mt).length := by omega
    have hb : (m0 :: mt).length ≤ 3000 := by omega
    refine CodeS.loopS (σ := Nat × Int) (fun x => [(4, .int .i64 x.2), (77, .slice 10 k ((m0 :: mt).length - k)), (78, .int .i64 ((m0 :: mt).length - k : Nat)), (79, .int .i64 x.1)]) (fun _ => _) (fun x => x.1 ≤ (m0 :: mt).length - k ∧ x.2 = orAll 0 (((m0 :: mt).drop k).take x.1)) (fun x => (m0 :: mt).length - k - x.1) (0, 0) (by kernel_rfl)
      ⟨Nat.zero_le _, rfl⟩ ⟨rfl, rfl, rfl, rfl, trivial⟩ rfl ?_
    rintro ⟨j, inf⟩ ⟨q1, q2⟩
    dsimp only at q1 q2
    conv => whnf
    refine Fork.mk (fun hc2 => ?_) (fun hc2 => ?_)
    all_goals conv => whnf
    · have hc2 : j < (m0 :: mt).length - k := by simp only [decide_eq_true_eq] at hc2; omega
      refine Gets.ixS (es := 1) rfl (by kernel_rfl) (by omega) (by omega) ?_
      conv => whnf
      have hkj : k + j < (m0 :: mt).length := by omega
      refine Gets.loadN (j := k + j) (k := .i64) (l := m0 :: mt) (x := (m0 :: mt)[k + j]) (ti := ⟨1, 8, false, [.int .i64 0]⟩) (by kernel_rfl) rfl rfl (by rw [Int.toNat_natCast]; omega) (List.getElem?_eq_getElem hkj) ?_
      conv => whnf
      have hw : IntKind.wrap .i64 ((j : Int) + 1) = ((j + 1 : Nat) : Int) := by rw [wrap_i64 (by omega) (by omega)]; rfl
      refine ⟨(j + 1, orAll 0 (((m0 :: mt).drop k).take (j + 1))), ⟨by show j + 1 ≤ _; omega, rfl⟩, by show _ - (j + 1) < _ - j; omega, ⟨?_, rfl, rfl, congrArg (AVal.int .i64) hw, trivial⟩, rfl⟩
      show AVal.int .i64 (bitsA .or .i64 inf (m0 :: mt)[k + j]) = .int .i64 _
      congr 1
      have hdl : j < ((m0 :: mt).drop k).length := by rw [List.length_drop]; omega
      rw [List.take_succ_eq_append_getElem hdl, q2]
      simp only [orAll, List.foldl_append, List.foldl_cons, List.foldl_nil, List.getElem_drop]
    · have hj : j = (m0 :: mt).length - k := by simp only [decide_eq_false_iff_not] at hc2; omega
      subst hj
      rw [List.take_of_length_le (by rw [List.length_drop]; exact Nat.le_refl _)] at q2
      exact ⟨_, _, _, rfl, .inr (.inr (.inr ⟨ho, h1, hwo, rfl, .inr ⟨s, by rw [hs00]; exact g2, .inr ⟨hs, ms, s1, k, hist, hk1, hk2, by rw [hms]; exact q2, rfl⟩⟩⟩))⟩
  · refine Gets.lookNo (l := hs) (z := .int .i64 0) (by kernel_rfl) rfl hmem ?_
    rcases hms : ms with _ | ⟨m0, mt⟩
    all_goals
      conv => whnf
      iterate 2 (refine Gets.of _ rfl ?_; conv => whnf)
      refine Gets.putNew (l := hs) (z := .int .i64 0) (by kernel_rfl) rfl hmem (by first | (rw [hms] at hml; simp only [List.length_nil] at hml; omega) | (rw [hms] at hml; rw [Nat.div_one]; omega)) ?_
      conv => whnf
      iterate 2 (refine Gets.of _ rfl ?_; conv => whnf)
      refine CodeS.loopG (σ := Nat × Int × Int) (fun x => [(3, .ptr 5 0), (4, .int .i64 0), (5, .bool false), (6, .int .i64 0), (9, .ptr 8 0), (10, .func 43 [] [.ptr 7 0, .ptr 8 0, .ptr 4 0]), (15, .map 9), (16, rowV 10 1 ms), (21, .int .i64 x.2.2), (93, .view 3 0 w.loop.length), (94, .int .i64 w.loop.length), (95, .int .i64 x.1)]) (fun x => a.WC w a.rows x.2.1 (exW (hs ++ [s1]) ms)) (fun x => x.1 ≤ w.loop.length ∧ a.tRun s1 0 (w.loop.take x.1) = some (x.2.1, x.2.2) ∧ 0 ≤ x.2.1 ∧ x.2.1 < a.states) (fun x => w.loop.length - x.1) (0, s1, 0) (rk ([0, 1, 2, 3, 4, 5, 6, 7, 8] ++ [9, 10]) (fun t => 11 + t) a.rows.length (11 + a.rows.length)) (by kernel_rfl)
        ⟨Nat.zero_le _, rfl, hist.sok⟩ ⟨rfl, rfl, rfl, rfl, rfl, rfl, rfl, by rw [hms]; rfl, rfl, rfl, rfl, rfl, trivial⟩ (by rw [hms]; exact a.exEmb4 w s1 hs (hs ++ [s1]) _) ?_
      rintro ⟨j, s2, m⟩ ⟨q1, q2, q3⟩
      dsimp only at q1 q2 q3
      rw [hms]
      conv => whnf
      refine Fork.mk (fun hc2 => ?_) (fun hc2 => ?_)
      all_goals conv => whnf
      · have hc2 : j < w.loop.length := by simp at hc2; omega
        refine Gets.ixV (es := 1) rfl (by kernel_rfl) (by omega) (by omega) ?_
        conv => whnf
        refine Gets.loadN (j := j) (k := .i64) (l := w.loop) (x := w.loop[j]) (ti := ⟨1, 8, false, [.int .i64 0]⟩) (by kernel_rfl) rfl rfl (by simp) (List.getElem?_eq_getElem hc2) ?_
        have happ := a.tRun_append (w.loop.take j) s1 0 w.loop[j]
        rw [← List.take_succ_eq_append_getElem hc2, q2] at happ
        dsimp only at happ
        conv => whnf
        refine CallS.of (by kernel_rfl) (stepW a w w.loop[j] s2 (exW (hs ++ [s1]) _) (exW_ints _ _) ho q3) rfl ?_
        intro v H' hv
        cases hgo : a.go s2 w.loop[j] with
        | none =>
          rw [hgo] at hv happ
          obtain ⟨rfl, rfl⟩ := hv
          conv => whnf
          refine ⟨_, _, _, rfl, .inr (.inr (.inr ⟨ho, h1, hwo, rfl, .inr ⟨s, by rw [hs00]; exact g2, .inl ⟨hs.length, s1, hist.now, ?_, by omega, rfl, rfl⟩⟩⟩))⟩
          have := a.tRun_none _ (w.loop.drop (j + 1)) s1 0 happ
          rwa [List.take_append_drop] at this
        | some e =>
          rw [hgo] at hv happ
          obtain ⟨rfl, rfl⟩ := hv
          conv => whnf
          have hw : IntKind.wrap .i64 ((j : Int) + 1) = ((j + 1 : Nat) : Int) := by rw [wrap_i64 (by omega) (by omega)]; rfl
          exact ⟨(j + 1, e.to, bitsA .or .i64 m e.marks), _, ⟨by show j + 1 ≤ _; omega, happ, hin hgo⟩, by show _ - (j + 1) < _ - j; omega, ⟨rfl, rfl, rfl, rfl, rfl, rfl, rfl, rfl, rfl, rfl, rfl, congrArg (AVal.int .i64) hw, trivial⟩, a.stepEmb w s2 e.to _ (exW_ints _ _) [9, 10] rfl⟩
      · have hj : j = w.loop.length := by simp at hc2; omega
        subst hj
        rw [List.take_length] at q2
        have hEx : ∀ H', ((ms = [] ∧ H' = (a.WC w a.rows s2 (exW (hs ++ [s1]) ms)).alloc (.cells 1 (ints [m]))) ∨ (ms ≠ [] ∧ H' = ((a.WC w a.rows s2 (exW (hs ++ [s1]) ms)).alloc (.cells 1 (ints [m]))).set 10 .dead)) → Emb 4 (rk ([0, 1, 2, 3, 4, 5, 6, 7, 8] ++ [9, 12 + a.rows.length]) (fun t => 11 + t) a.rows.length (13 + a.rows.length)) (a.WC w a.rows s2 (exW (hs ++ [s1]) (ms ++ [m]))) (H'.alloc (.cells 1 (ints (ms ++ [m])))) := by
          intro H' h'
          rcases ms with _ | ⟨m0', mt'⟩
          · exact a.exEmb6 w s2 (hs ++ [s1]) [] m [] _ H' h'
          · exact a.exEmb6 w s2 (hs ++ [s1]) (m0' :: mt') m0' (mt' ++ [m]) _ H' h'
        have hHist : a.Hist w.loop s (hs ++ [s1]) (ms ++ [m]) s2 := by
          have hM : a.tM w.loop s hs.length = some m := by simp only [Au.tM, hist.now, q2, Option.map_some]
          have hS : a.tS w.loop s (hs.length + 1) = some s2 := by simp only [Au.tS, hist.now, q2, Option.map_some]
          refine ⟨by simp [hist.len], fun i hi => ?_, fun i hi => ?_, by rw [List.length_append]; exact hS, ?_, fun x hx => ?_, q3⟩
          · rw [List.length_append, List.length_singleton] at hi
            rcases Nat.lt_or_ge i hs.length with h | h
            · rw [List.getElem?_append_left h]; exact hist.sat i h
            · obtain rfl : i = hs.length := by omega
              rw [List.getElem?_append_right (Nat.le_refl _), Nat.sub_self]; exact hist.now
          · rw [List.length_append, List.length_singleton] at hi
            rcases Nat.lt_or_ge i hs.length with h | h
            · rw [List.getElem?_append_left (by rw [hist.len]; exact h)]; exact hist.ms i h
            · obtain rfl : i = hs.length := by omega
              rw [List.getElem?_append_right (by rw [hist.len]; exact Nat.le_refl _), hist.len, Nat.sub_self]; exact hM
          · rw [List.nodup_append]
            exact ⟨hist.nodup, by simp, fun x hx y hy => by simp at hy; subst hy; rintro rfl; exact hmem hx⟩
          · rcases List.mem_append.1 hx with hx | hx
            · exact hist.ok x hx
            · obtain rfl := List.mem_singleton.1 hx; exact hist.sok
        have hmeas : a.states.toNat + 1 - (hs ++ [s1]).length < a.states.toNat + 1 - hs.length := by rw [List.length_append, List.length_singleton]; omega
        have hn11 := a.exN w s2 (hs ++ [s1]) ms
        rw [hms] at hEx hHist hn11
        first
          | refine Gets.appendRow (es := 1) (b := 10) (r := []) (y := m) (x := []) (ti := ⟨1, 8, false, [.int .i64 0]⟩) (d := .slice 3) (by kernel_rfl) (by kernel_rfl) rfl rfl rfl (by decide) (by decide) rfl (if_pos rfl) (fun h => absurd rfl h) ⟨0, rfl, by decide⟩ ?_
          | refine Gets.appendRow (es := 1) (b := 10) (r := m0 :: mt) (y := m) (x := []) (ti := ⟨1, 8, false, [.int .i64 0]⟩) (d := .slice 3) (by kernel_rfl) (by kernel_rfl) rfl rfl rfl (by decide) (by decide) rfl (if_pos rfl) (fun h => (if_neg (by show ¬ 10 = (a.WC w a.rows s2 (exW (hs ++ [s1]) (m0 :: mt))).n; omega)).trans rfl) ⟨(m0 :: mt).length, by omega, by rw [hms] at hml; omega⟩ ?_
        intro H' h'
        have hE6 := hEx H' h'
        have hn12 : H'.n = 12 + a.rows.length := by
          rcases h' with ⟨_, rfl⟩ | ⟨_, rfl⟩
          · show (a.WC w a.rows s2 (exW (hs ++ [s1]) _)).n + 1 = _; omega
          · show (a.WC w a.rows s2 (exW (hs ++ [s1]) _)).n + 1 = _; omega
        conv => whnf
        refine ⟨(hs ++ [s1], _ ++ [m], s2), _, hHist, hmeas, ⟨rfl, rfl, rfl, rfl, rfl, rfl, rfl, ?_, trivial⟩, hE6⟩
        show AVal.slice ((a.WC w a.rows s2 (exW (hs ++ [s1]) _)).n + 1) 0 _ = AVal.slice (12 + a.rows.length) 0 _
        rw [hn11, show 11 + a.rows.length + 1 = 12 + a.rows.length by omega]
        rfl
end Go.Proofs.Ytdahmcgncpoliaa
