import Derived.Test.YtaccmanpanpbiaaVhZd
/- As Emb; of a block that a function came with it may be said that it was written. -/
set_option linter.unusedVariables false
set_option linter.unusedSimpArgs false
namespace Go.Vh
variable {P : Program} {N : Nat} {ρ : Option Nat} {n0 : Nat}
structure EmbL (n0 : Nat) (κ : Nat → Nat) (G H : AHeap) : Prop where
  fix : ∀ i, i < n0 → κ i = i
  ver : ∀ i, i < n0 → (G.ver i = H.ver i ∧ ((H.f i).live → (G.f i).live)) ∨ H.ver i < G.ver i
  le : n0 ≤ G.n
  out : ∀ i, G.n ≤ i → H.n ≤ κ i
  blk : ∀ i, i < G.n → κ i < H.n ∧ BSub κ (G.f i) (H.f (κ i))
  inj : ∀ i j, i < G.n → j < G.n → i ≠ j → (G.f i).rw → (G.f j).live → κ i ≠ κ j
theorem EmbL.to0 {κ : Nat → Nat} {G H : AHeap} (h : EmbL n0 κ G H) : Emb 0 κ G H :=
  ⟨fun i hi => absurd hi (Nat.not_lt_zero i), fun i hi => absurd hi (Nat.not_lt_zero i), fun i hi => absurd hi (Nat.not_lt_zero i), Nat.zero_le _, h.out, h.blk, h.inj⟩
theorem Emb.toL {κ : Nat → Nat} {G H : AHeap} (h : Emb n0 κ G H) : EmbL n0 κ G H := ⟨h.fix, fun i hi => .inl ⟨h.ver i hi, h.keep i hi⟩, h.le, h.out, h.blk, h.inj⟩
theorem EmbL.id {H : AHeap} (h : n0 ≤ H.n) : EmbL n0 (fun i => i) H H := (Emb.id h).toL
theorem Ext.subL {φ0 φ : PMap} {H0 G H : AHeap} {w0 w : World} {κ : Nat → Nat} (hX : Ext φ0 H0 w0 φ H w) (hR : Rel φ H w) (h0 : H0.n = n0) (hd : ∀ i, n0 ≤ i → φ0 i = none) (hE : EmbL n0 κ G H) : Ext φ0 H0 w0 (φ.via κ) G w := by
  have lt : ∀ {i b}, φ0 i = some b → i < n0 := fun {i b} h => by
    rcases Nat.lt_or_ge i n0 with h' | h'
    · exact h'
    · rw [hd i h'] at h; cases h
  refine ⟨⟨fun i b hb => ?_, hX.le.z⟩, hX.size, hX.keep, fun k hk => hX.own k (hk.sub hR hE.to0), hX.os, hX.tape, hX.output, by rw [h0]; exact hE.le, fun i b hb => ?_, fun i b hb hl hv => ?_, hX.zown⟩
  · show φ (κ i) = some b
    rw [hE.fix i (lt hb)]; exact hX.le i b hb
  · have := hX.ver i b hb
    rcases hE.ver i (lt hb) with h | h
    · rw [h.1]; exact this
    · omega
  · have h3 := hX.ver i b hb
    rcases hE.ver i (lt hb) with h | h
    · rw [h.1] at hv
      obtain ⟨h1, h2⟩ := hX.same i b hb hl hv
      exact ⟨h.2 h1, h2⟩
    · omega
/-- What lives on is told anew. -/
theorem CWF.gcL {c : Code} {e e' : Env} {G H : AHeap} {K : Exit → Env → AHeap → Prop} {κ : Nat → Nat} (hE : EmbL n0 κ G H) (he : ∀ t, e t = ren κ (e' t) ∨ e' t = .undef) (h : CWF P N ρ n0 c e' G K) : CWF P N ρ n0 c e H K := by
  intro B φ0 H0 w0 φ w a h0 hd hR hER hM hB hX
  refine h B φ0 H0 w0 _ w a h0 hd (hR.sub hE.to0) ⟨hER.1, fun t => ?_⟩ ⟨fun d hd' => ?_, hM.2⟩ hB (hX.subL hR h0 hd hE)
  · rcases he t with h1 | h1
    · have := hER.get t
      rw [h1] at this
      exact .inl ((VRel_ren _ _).1 this)
    · exact .inr h1
  · obtain ⟨r, h1, h2, h3, h4⟩ := hM.1 d hd'
    exact ⟨r, h1, h2, fun ho => h3 (ho.sub hR hE.to0), h4⟩
/-- **A function's contract, from its body; the result is told by numbers of one's own choice.** -/
theorem CallW.of_bodyL {f : FuncId} {fn : Func} {c : Code} {args : List AVal} {H : AHeap} {K : AVal → AHeap → Prop} (hf : P.funcs[f]? = some fn) (hb : fn.body = some c) (hlen : args.length ≤ fn.ntmps)
    (h : CWF P fn.ntmps none H.n c (env0 args) H fun x e H' => (x = .normal ∨ x = .ret) ∧ ∃ v, resA P e H' fn.results.toList = some v ∧ ∃ κ v' G, EmbL H.n κ G H' ∧ v = ren κ v' ∧ K v' G) : CallW P f args H K := by
  intro φ w cargs hR ha
  refine callsIn_wide.1 (callsIn_of_wp_marks (F := fence none) (n := 0) hf hb trivial ?_)
  have hal := VRels_length ha
  rw [Array.length_toList] at hal
  have hE : ERel φ fn.ntmps (env0 args) (cargs ++ Array.replicate (fn.ntmps - cargs.size) Go.undef) := by
    refine ⟨by simp; omega, fun t => ?_⟩
    by_cases ht : t < args.length
    · left
      have hv : args[t]? = some args[t] := List.getElem?_eq_getElem ht
      obtain ⟨c, hc, hr⟩ := VRels_get ha hv
      have : env0 args t = args[t] := by simp [env0, ht]
      rw [this]
      have hc' : cargs[t]? = some c := by simpa using hc
      rw [Array.getD_eq_getD_getElem?, Array.getElem?_append_left (by omega), hc']
      exact hr
    · right
      simp [env0, Nat.not_lt.1 ht]
  refine wpIn_mono (h w.heap.size φ H w φ w { tmps := cargs ++ Array.replicate (fn.ntmps - cargs.size) Go.undef, defers := [] } rfl (fun i hi => hR.dom i hi) hR hE (GoodMarks.nil _ _ _ _) (Nat.le_refl _) (Ext.refl _ _ _)) fun x a' w' hx => ?_
  obtain ⟨φ', e', H', h1, h2, h3, h4, h5, v, hv, κ, v', G, hEmb, rfl, hK⟩ := hx
  have := leaves (P := P) (N := fn.ntmps) (R := CallPost φ H w K) hv (fun c w'' hc hR'' hX'' => ⟨c, v', _, G, rfl, (VRel_ren _ _).1 hc, hR''.sub hEmb.to0, hX''.subL hR'' rfl (fun i hi => hR.dom i hi) hEmb, hK⟩) a'.defers w' h1 h2 h3 h4
  rcases h5 with rfl | rfl
  · exact this
  · exact this

/-- **A round.** -/
theorem RoundW.ofL {i : Nat} {args : List AVal} {H : AHeap} {K : AVal → AHeap → Prop} {r : ALoop} (hi : H.f i = .loop r) (hs : r.state = .ready) (hl : r.params.length = args.length) (hp : ∀ p ∈ r.params, p < r.ntmps)
    (h : ∀ ρ, CWF P r.ntmps ρ H.n r.assign (putPs r.env r.params args) H fun x e1 H1 => x = .normal ∧ ∃ r1, H1.f i = .loop r1 ∧ r1.state = .ready ∧
      CWF P r.ntmps ρ H.n r.body e1 (H1.set i (.loop { r1 with state := .busy })) (roundEnd i fun v H' => ∃ κ v' G, EmbL H.n κ G H' ∧ v = ren κ v' ∧ K v' G)) : RoundW P i args H K := by
  intro φ w cargs b hR ha hb
  obtain ⟨l, hl0, hlr, _⟩ := rel_loop hR hb hi
  obtain ⟨h1, h2, h3, h4, h5, h6⟩ := hlr
  have hal := VRels_length ha
  rw [Array.length_toList] at hal
  have hsz : cargs.size = l.params.size := by rw [hal, ← hl, ← h4, Array.length_toList]
  refine ⟨l.fn, _, l.assign, l.body, run_yield hl0 hsz, roundIn_of_wpIn trivial ?_⟩
  rw [h5, h6]
  have hE : ERel φ r.ntmps (putPs r.env r.params args) ((l.params.zip cargs).foldl (fun tmps (t, a) => tmps.setIfInBounds t a) l.tmps) := by
    have := putPs_rel r.params args cargs.toList r.env l.tmps h3 hp ha
    rw [← h4] at this ⊢
    exact (zip_foldl l.params cargs l.tmps) ▸ this
  refine wpIn_mono (h (some b.blk) w.heap.size φ H w φ w { tmps := (l.params.zip cargs).foldl (fun tmps (t, a) => tmps.setIfInBounds t a) l.tmps, defers := [] } rfl (fun i hi => hR.dom i hi) hR hE (GoodMarks.nil _ _ _ _) (Nat.le_refl _) (Ext.refl _ _ _)) fun x a1 w1 hx => ?_
  obtain ⟨φ1, e1, H1, g1, g2, g3, g4, rfl, r1, hr1, hs1, hbody⟩ := hx
  obtain ⟨l1, hl1, hlr1, hset1⟩ := rel_loop g1 (g3.le _ _ hb) hr1
  obtain ⟨k1, k2⟩ := hset1 { l1 with state := .busy } { r1 with state := .busy } ⟨rfl, hlr1.2.1, hlr1.2.2.1, hlr1.2.2.2.1, hlr1.2.2.2.2.1, hlr1.2.2.2.2.2⟩
  refine ⟨_, run_beginRound hl1 (by rw [hlr1.1, hs1]), ?_⟩
  refine wpIn_mono (hbody w.heap.size φ H w φ1 _ a1 rfl (fun i hi => hR.dom i hi) k1 g2 (g4.ext k2) (Nat.le_refl _) (g3.trans k2)) fun x a2 w2 hx => ?_
  obtain ⟨φ2, e2, H2, m1, m2, m3, m4, r2, hr2, hK⟩ := hx
  obtain ⟨l2, hl2, hlr2, hset2⟩ := rel_loop m1 (m3.le _ _ hb) hr2
  have fin : ∀ (jump : Option Code) (bv : Bool), bv = jump.isNone → (∃ κ v' G, EmbL H.n κ G (H2.set i (.loop { r2 with state := if jump.isNone then .ready else .done, pending := jump })) ∧ AVal.bool bv = ren κ v' ∧ K v' G) →
      ∃ v w', (Instr.endRound b.blk jump).run P w2 = .ok v w' ∧ CallPost φ H w K (.returned v) w' := by
    rintro jump bv rfl ⟨κ, v', G, hEmb, hv, hK⟩
    obtain ⟨n1, n2⟩ := hset2 { l2 with state := if jump.isNone then .ready else .done, pending := jump } { r2 with state := if jump.isNone then .ready else .done, pending := jump } ⟨rfl, rfl, hlr2.2.2.1, hlr2.2.2.2.1, hlr2.2.2.2.2.1, hlr2.2.2.2.2.2⟩
    refine ⟨_, _, run_endRound jump hl2, _, v', _, G, rfl, (VRel_ren _ _).1 (by rw [← hv]; rfl), n1.sub hEmb.to0, (m3.trans n2).subL n1 rfl (fun i hi => hR.dom i hi) hEmb, hK⟩
  cases x with
  | normal => exact fin none true rfl hK
  | ret => exact fin (some .ret) false rfl hK
  | exit id => exact fin (some (.exit id)) false rfl hK
  | goto t => exact fin (some (.goto t)) false rfl hK
  | panic ch => exact hK.elim
  | outgrown => exact hK.elim

def notDead : ABlk → Bool
  | .dead => false
  | .ro _ [] => false
  | _ => true
def liveKs (G : AHeap) : List Nat → Nat → List Nat
  | [], _ => []
  | k :: ks, i => match notDead (G.f i) with
    | true => k :: liveKs G ks (i + 1)
    | false => liveKs G ks (i + 1)
theorem liveKs_mem (G : AHeap) : ∀ (ks : List Nat) (a i k : Nat), ks[i]? = some k → notDead (G.f (a + i)) = true → k ∈ liveKs G ks a
  | [], a, i, k, h, _ => by simp at h
  | x :: ks, a, i, k, h, hn => by
    unfold liveKs
    cases i with
    | zero =>
      simp only [List.getElem?_cons_zero, Option.some.injEq] at h
      subst h
      rw [show a + 0 = a from rfl] at hn
      rw [hn]
      exact List.mem_cons_self
    | succ i =>
      have := liveKs_mem G ks (a + 1) i k (by simpa using h) (by rwa [show a + 1 + i = a + (i + 1) by omega])
      split
      · exact List.mem_cons_of_mem _ this
      · exact this
theorem liveKs_inj (G : AHeap) : ∀ (ks : List Nat) (a i j k : Nat), (liveKs G ks a).Nodup → ks[i]? = some k → ks[j]? = some k → notDead (G.f (a + i)) = true → notDead (G.f (a + j)) = true → i = j
  | [], a, i, j, k, _, h, _, _, _ => by simp at h
  | x :: ks, a, i, j, k, hd, hi, hj, ni, nj => by
    have step : ∀ i' j', i = i' + 1 → j = j' + 1 → i = j := by
      rintro i' j' rfl rfl
      have hd' : (liveKs G ks (a + 1)).Nodup := by
        unfold liveKs at hd
        split at hd
        · exact (List.nodup_cons.1 hd).2
        · exact hd
      have := liveKs_inj G ks (a + 1) i' j' k hd' (by simpa using hi) (by simpa using hj) (by rwa [show a + 1 + i' = a + (i' + 1) by omega]) (by rwa [show a + 1 + j' = a + (j' + 1) by omega])
      omega
    have no : ∀ j', ks[j']? = some x → notDead (G.f (a + 0)) = true → notDead (G.f (a + (j' + 1))) = true → False := by
      intro j' h1 h2 h3
      have hm := liveKs_mem G ks (a + 1) j' x h1 (by rwa [show a + 1 + j' = a + (j' + 1) by omega])
      unfold liveKs at hd
      rw [show a + 0 = a from rfl] at h2
      rw [h2] at hd
      exact (List.nodup_cons.1 hd).1 hm
    cases i with
    | zero =>
      cases j with
      | zero => rfl
      | succ j =>
        simp only [List.getElem?_cons_zero, Option.some.injEq] at hi
        subst hi
        exact (no j (by simpa using hj) ni nj).elim
    | succ i =>
      cases j with
      | zero =>
        simp only [List.getElem?_cons_zero, Option.some.injEq] at hj
        subst hj
        exact (no i (by simpa using hi) nj ni).elim
      | succ j => exact step i j rfl rfl
theorem EmbL.lits {n0 : Nat} {G H : AHeap} (ks : List Nat) {m : Nat} (hm : H.n = m) (hl : ks.length = G.n) (h0 : Nat.ble n0 G.n = true) (hnd : decide (liveKs G ks 0).Nodup = true)
    (hfix : AllQ (fun i => renL ks m i = i ∧ ((G.ver i = H.ver i ∧ ((H.f i).live → (G.f i).live)) ∨ H.ver i < G.ver i)) 0 n0) (hblk : AllQ (fun i => Nat.blt (renL ks m i) m = true ∧ BSub (renL ks m) (G.f i) (H.f (renL ks m i))) 0 G.n) : EmbL n0 (renL ks m) G H := by
  subst hm
  have hnd := of_decide_eq_true hnd
  have h0 := Nat.le_of_ble_eq_true h0
  have get : ∀ {i}, i < G.n → ks[i]? = some (renL ks H.n i) := fun {i} hi => by unfold renL; rw [List.getElem?_eq_getElem (by omega)]; rfl
  have nd : ∀ {b : ABlk}, b.live → notDead b = true := fun {b} h => by
    cases b with
    | dead => exact h.elim
    | ro es cs => cases cs with
      | nil => exact absurd rfl h
      | cons x l => rfl
    | _ => rfl
  refine ⟨fun i hi => (allQ_of hfix i (Nat.zero_le i) hi).1, fun i hi => (allQ_of hfix i (Nat.zero_le i) hi).2, h0, fun i hi => ?_, fun i hi => ?_, fun i j hi hj hij hrw hlv h => ?_⟩
  · unfold renL
    rw [List.getElem?_eq_none (by omega)]
    show H.n ≤ H.n + i
    omega
  · have := allQ_of hblk i (Nat.zero_le i) hi
    exact ⟨Nat.le_of_ble_eq_true this.1, this.2⟩
  · have g1 := get hi
    rw [h] at g1
    exact hij (liveKs_inj G ks 0 i j _ hnd g1 (get hj) (by rw [Nat.zero_add]; exact nd hrw.live) (by rw [Nat.zero_add]; exact nd hlv))
theorem liveKs_sub (G : AHeap) : ∀ (ks : List Nat) (a : Nat), (liveKs G ks a).Sublist ks
  | [], a => List.Sublist.slnil
  | k :: ks, a => by
    unfold liveKs
    split
    · exact (liveKs_sub G ks (a + 1)).cons_cons k
    · exact (liveKs_sub G ks (a + 1)).cons k
theorem EmbL.litsN {n0 : Nat} {G H : AHeap} (ks : List Nat) {m : Nat} (hm : H.n = m) (hl : ks.length = G.n) (h0 : Nat.ble n0 G.n = true) (hnd : decide ks.Nodup = true)
    (hfix : AllQ (fun i => renL ks m i = i ∧ ((G.ver i = H.ver i ∧ ((H.f i).live → (G.f i).live)) ∨ H.ver i < G.ver i)) 0 n0) (hblk : AllQ (fun i => Nat.blt (renL ks m i) m = true ∧ BSub (renL ks m) (G.f i) (H.f (renL ks m i))) 0 G.n) : EmbL n0 (renL ks m) G H :=
  EmbL.lits ks hm hl h0 (decide_eq_true ((liveKs_sub G ks 0).nodup (of_decide_eq_true hnd))) hfix hblk
/-! ### Loops over functions, told anew -/
theorem renE_envOf (κ : Nat → Nat) : ∀ (el : List (Nat × AVal)), renE κ (envOf el) = envOf (el.map fun p => (p.1, ren κ p.2))
  | [] => rfl
  | (k, v) :: el => by
    funext t
    show ren κ (envOf ((k, v) :: el) t) = envOf ((k, ren κ v) :: el.map _) t
    simp only [envOf]
    cases t == k with
    | true => rfl
    | false => exact congrFun (renE_envOf κ el) t
theorem BSub.loopE {κ : Nat → Nat} {el el' : List (Nat × AVal)} {n : Nat} {ps : List Nat} {a b : Code} {p : Option Code} {s : LoopState} (h : el' = el.map fun x => (x.1, ren κ x.2)) : BSub κ (.loop ⟨envOf el, n, ps, a, b, p, s⟩) (.loop ⟨envOf el', n, ps, a, b, p, s⟩) := by
  refine .inl ?_
  show ABlk.loop _ = .loop { (⟨envOf el, n, ps, a, b, p, s⟩ : ALoop) with env := renE κ (envOf el) }
  rw [renE_envOf, h]
end Go.Vh
