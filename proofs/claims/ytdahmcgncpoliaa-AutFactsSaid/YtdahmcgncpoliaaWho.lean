/- Complete, of the reference. -/
import Derived.Test.YtdahmcgncpoliaaVhZa
import Derived.Test.YtdahmcgncpoliaaOut
set_option linter.unusedVariables false
set_option linter.unusedSimpArgs false
set_option maxRecDepth 100000
namespace Go.Proofs.Ytdahmcgncpoliaa
open Go Go.Vh Go.Proofs
def matB (S : Nat) (T : Nat → Nat → Bool) : List Bool := (List.range (S * 64)).map fun q => T (q / 64) (q % 64)
theorem matB_length (S : Nat) (T : Nat → Nat → Bool) : (matB S T).length = S * 64 := by simp [matB]
theorem matB_get {S s l : Nat} (T : Nat → Nat → Bool) (hs : s < S) (hl : l < 64) : (matB S T)[s * 64 + l]? = some (T s l) := by
  unfold matB
  rw [List.getElem?_map, List.getElem?_range (by omega)]
  rw [Option.map_some, show (s * 64 + l) / 64 = s by omega, show (s * 64 + l) % 64 = l by omega]
theorem matB_congr {S : Nat} {T U : Nat → Nat → Bool} (h : ∀ s l, s < S → l < 64 → T s l = U s l) : matB S T = matB S U := by
  unfold matB
  apply List.map_congr_left
  intro q hq
  exact h _ _ (by have := List.mem_range.1 hq; omega) (by omega)
theorem matB_set {S s l : Nat} (T : Nat → Nat → Bool) (b : Bool) (hs : s < S) (hl : l < 64) : (matB S T).set (s * 64 + l) b = matB S fun s' l' => if s' = s ∧ l' = l then b else T s' l' := by
  apply List.ext_getElem?
  intro q
  rw [List.getElem?_set, matB_length]
  unfold matB
  rw [List.getElem?_map, List.getElem?_map]
  by_cases hq : q < S * 64
  · rw [List.getElem?_range hq, Option.map_some, Option.map_some]
    dsimp only
    by_cases h : s * 64 + l = q
    · subst h
      rw [if_pos rfl, if_pos hq, if_pos ⟨by omega, by omega⟩]
    · rw [if_neg h, if_neg (by omega)]
  · rw [if_neg (by omega), List.getElem?_eq_none (by simp; omega)]
    rfl
def Au.thr (a : Au) (j s l : Nat) : Bool := decide (l < 2 ^ a.props.toNat) && (a.es.take j).any fun f => f.fr.toNat == s && readsB f l
def Au.thrP (a : Au) (j : Nat) (e : Edg) (k s l : Nat) : Bool := a.thr j s l || (decide (s = e.fr.toNat) && decide (l < k) && readsB e l)
/-- Each state has an edge for each letter. -/
def Au.WholeP (a : Au) : Prop := ∀ s : Nat, s < a.states.toNat → ∀ l : Nat, l < 2 ^ a.props.toNat → ∃ e ∈ a.es, e.fr.toNat = s ∧ readsB e l = true
def Au.gB (a : Au) (T : Nat → Nat → Bool) : AHeap := a.heap3.alloc (.cells 64 (bls (matB a.states.toNat T)))
theorem shlP {p : Int} (h0 : 0 ≤ p) (h6 : p ≤ 6) : shlA .i64 1 p = ((2 ^ p.toNat : Nat) : Int) := by
  obtain ⟨n, rfl⟩ := Int.eq_ofNat_of_zero_le h0
  exact shlI (by omega)
theorem whole30 (a : Au) (hf : a.Fits) (ho : a.Ok) : CallW Try.prog 30 [a.av] a.heap fun v _ => ∃ b, v = .bool b ∧ (b = true ↔ a.WholeP) := by
  obtain ⟨hh, _, he⟩ := ho
  have hp0 := hh.1
  have hp6 := hh.2.1
  have hs0 := hh.2.2.1
  have hs1 := hh.2.2.2.1
  have hne := hh.2.2.2.2.2.2.2
  have h64 : 2 ^ a.props.toNat ≤ 64 := pow6 (by omega)
  have hsh := shlP hp0 hp6
  refine CallW.sym Try.func30 rfl (by kernel_rfl) ?_
  conv => whnf
  iterate 1 (refine Gets.of _ rfl ?_; conv => whnf)
  refine Gets.makeB (k := 64) (ti := ⟨64, 64, true, List.replicate 64 (.bool false)⟩) (by kernel_rfl) rfl (by decide) rfl (by decide) hs0 (by omega) ?_
  conv => whnf
  iterate 2 (refine Gets.of _ rfl ?_; conv => whnf)
  refine CodeS.loopG (σ := Nat) (fun j => [(1, .ptr 2 0), (2, .bool false), (3, .slice 3 0 a.states.toNat), (14, .view 1 0 a.es.length), (15, .int .i64 a.es.length), (16, .int .i64 j)]) (fun j => a.gB (a.thr j)) (fun j => j ≤ a.es.length) (fun j => a.es.length - j) 0 (renL [0, 1, 2, 3] 4) (by kernel_rfl)
    (Nat.zero_le _) ⟨rfl, rfl, rfl, rfl, rfl, rfl, trivial⟩ ?_ ?_
  · refine Emb.lits [0, 1, 2, 3] rfl rfl rfl rfl (.cons ⟨rfl, rfl, fun h => h⟩ (.cons ⟨rfl, rfl, fun h => h⟩ .nil)) (.cons ⟨rfl, .roI⟩ (.cons ⟨rfl, .roI⟩ (.cons ⟨rfl, .inl rfl⟩ (.cons ⟨rfl, ?_⟩ .nil))))
    have : matB a.states.toNat (a.thr 0) = List.replicate (a.states.toNat * 64) false := by
      apply List.ext_getElem?
      intro q
      unfold matB Au.thr
      rw [List.getElem?_map, List.getElem?_replicate]
      by_cases hq : q < a.states.toNat * 64
      · rw [List.getElem?_range hq, if_pos hq]; simp
      · rw [List.getElem?_eq_none (by simp; omega), if_neg hq]; rfl
    show BSub _ (.cells 64 (bls (matB a.states.toNat (a.thr 0)))) (.cells 64 (bls (List.replicate (a.states.toNat * 64) false)))
    rw [this]
    exact .cellsB
  intro j g1
  conv => whnf
  refine Fork.mk (fun hc => ?_) (fun hc => ?_)
  all_goals conv => whnf
  · have hc : j < a.es.length := by simp at hc; omega
    refine Gets.ixV (es := 5) rfl (by kernel_rfl) (by omega) (by omega) ?_
    conv => whnf
    refine Gets.loadE (j := j) (es := a.es) (ti := ⟨5, 40, true, [.int .i64 0, .int .i64 0, .int .i64 0, .int .i64 0, .int .i64 0]⟩) (by kernel_rfl) rfl rfl rfl (by simp) hc ?_
    have hok := he _ (List.getElem_mem hc)
    have hsucc : ∀ s l, a.thr (j + 1) s l = (a.thr j s l || (decide (l < 2 ^ a.props.toNat) && (a.es[j].fr.toNat == s && readsB a.es[j] l))) := by
      intro s l
      unfold Au.thr
      rw [List.take_succ_eq_append_getElem hc, List.any_append, Bool.and_or_distrib_left]
      simp
    generalize hee : a.es[j] = e at hok hsucc
    have hf0 := hok.1
    have hf1 := hok.2.1
    have hlt : e.fr.toNat < a.states.toNat := by omega
    conv => whnf
    iterate 2 (refine Gets.of _ rfl ?_; conv => whnf)
    refine Gets.shl hp0 ?_
    rw [hsh]
    conv => whnf
    refine CodeS.loopG (σ := Nat) (fun k => [(1, .ptr 2 0), (2, .bool false), (3, .slice 3 0 a.states.toNat), (5, .ptr 4 0), (14, .view 1 0 a.es.length), (15, .int .i64 a.es.length), (16, .int .i64 j), (22, .int .i64 (2 ^ a.props.toNat : Nat)), (23, .int .i64 k)]) (fun k => (a.gB (a.thrP j e k)).alloc (.cells 1 (Edg.cs e))) (fun k => k ≤ 2 ^ a.props.toNat) (fun k => 2 ^ a.props.toNat - k) 0 (renL [0, 1, 2, 3, 4] 5) (by kernel_rfl)
      (Nat.zero_le _) ⟨rfl, rfl, rfl, rfl, rfl, rfl, rfl, rfl, rfl, trivial⟩ ?_ ?_
    · refine Emb.lits [0, 1, 2, 3, 4] rfl rfl rfl rfl (.cons ⟨rfl, rfl, fun h => h⟩ (.cons ⟨rfl, rfl, fun h => h⟩ .nil)) (.cons ⟨rfl, .roI⟩ (.cons ⟨rfl, .roI⟩ (.cons ⟨rfl, .inl rfl⟩ (.cons ⟨rfl, ?_⟩ (.cons ⟨rfl, .inl rfl⟩ .nil)))))
      show BSub _ (.cells 64 (bls (matB a.states.toNat (a.thrP j e 0)))) (.cells 64 (bls (matB a.states.toNat (a.thr j))))
      rw [matB_congr (U := a.thr j) fun s l _ _ => by simp [Au.thrP]]
      exact .cellsB
    intro k g2
    conv => whnf
    refine Fork.mk (fun hc2 => ?_) (fun hc2 => ?_)
    all_goals conv => whnf
    · have hc2 : k < 2 ^ a.props.toNat := by simp only [decide_eq_true_eq] at hc2; exact_mod_cast hc2
      have hwk : IntKind.wrap .i64 ((k : Int) + 1) = ((k + 1 : Nat) : Int) := by rw [wrap_i64 (by omega) (by omega)]; rfl
      have hget := matB_get (S := a.states.toNat) (a.thrP j e k) hlt (show k < 64 by omega)
      have hnext : (matB a.states.toNat (a.thrP j e k)).set (e.fr.toNat * 64 + k) (a.thrP j e k e.fr.toNat k || readsB e k) = matB a.states.toNat (a.thrP j e (k + 1)) := by
        rw [matB_set _ _ hlt (by omega)]
        refine matB_congr fun s l _ _ => ?_
        unfold Au.thrP
        by_cases hsl : s = e.fr.toNat ∧ l = k
        · obtain ⟨rfl, rfl⟩ := hsl
          rw [if_pos ⟨rfl, rfl⟩]; simp
        · rw [if_neg hsl]
          by_cases h1 : s = e.fr.toNat
          · have h2 : l ≠ k := fun h => hsl ⟨h1, h⟩
            have : (l < k + 1) = (l < k) := by apply propext; omega
            simp [h1, this]
          · simp [h1]
      have hend : ∀ (H' : AHeap), H' = ((a.gB (a.thrP j e k)).alloc (.cells 1 (Edg.cs e))).set 3 (.cells 64 (bls (matB a.states.toNat (a.thrP j e (k + 1))))) → Emb 2 (renL [0, 1, 2, 3, 4] 5) ((a.gB (a.thrP j e (k + 1))).alloc (.cells 1 (Edg.cs e))) H' := by
        rintro H' rfl
        exact Emb.lits [0, 1, 2, 3, 4] rfl rfl rfl rfl (.cons ⟨rfl, rfl, fun h => h⟩ (.cons ⟨rfl, rfl, fun h => h⟩ .nil)) (.cons ⟨rfl, .roI⟩ (.cons ⟨rfl, .roI⟩ (.cons ⟨rfl, .inl rfl⟩ (.cons ⟨rfl, .cellsB⟩ (.cons ⟨rfl, .inl rfl⟩ .nil)))))
      refine CodeS.drawI [3, 4] [(0, true, false), (1, true, false), (2, true, false), (3, true, false), (4, true, false), (5, true, false), (6, true, false), (7, true, false), (8, true, false), (9, true, false), (10, true, false), (11, true, false), (12, true, false), (13, true, false), (16, true, false), (14, false, true), (15, true, false), (17, true, false), (18, false, false)] mixed (by kernel_rfl) (.cons ⟨rfl, trivial⟩ (.cons ⟨rfl, trivial⟩ .nil)) ?_
      conv => whnf
      iterate 2 (refine Gets.of _ rfl ?_; conv => whnf)
      refine Gets.ixS (es := 64) rfl (by kernel_rfl) hf0 (by omega) ?_
      conv => whnf
      refine Gets.ixArr (n := 64) (e := 4) (es := 1) (by kernel_rfl) (by kernel_rfl) (by omega) (by omega) ?_
      conv => whnf
      refine Gets.loadB (j := e.fr.toNat * 64 + k) (ti := ⟨1, 1, false, [.bool false]⟩) (by kernel_rfl) rfl rfl (by simp) hget ?_
      cases hb : a.thrP j e k e.fr.toNat k
      · rw [hb, Bool.false_or] at hnext
        conv => whnf
        iterate 1 (refine Gets.of _ rfl ?_; conv => whnf)
        refine Gets.ixS (es := 64) rfl (by kernel_rfl) hf0 (by omega) ?_
        conv => whnf
        refine CallPS.of (by kernel_rfl) (reads58c e k _) rfl ?_
        rintro _ _ ⟨rfl, rfl⟩
        cases hrd : readsB e k
        all_goals
          rw [hrd] at hnext
          conv => whnf
          refine ⟨fun _ i hi => rfl, ?_⟩
          conv => whnf
          refine Gets.ixArr (n := 64) (e := 4) (es := 1) (by kernel_rfl) (by kernel_rfl) (by omega) (by omega) ?_
          conv => whnf
          refine Gets.storeB (j := e.fr.toNat * 64 + k) (es := 64) (l := matB a.states.toNat (a.thrP j e k)) (ti := ⟨1, 1, false, [.bool false]⟩) (by kernel_rfl) rfl rfl (by simp) (by rw [matB_length]; omega) ?_
          conv => whnf
          refine ⟨(fun h => by cases h), ?_⟩
          conv => whnf
          exact ⟨k + 1, renL [0, 1, 2, 3, 4] 5, by omega, by omega, ⟨rfl, rfl, rfl, rfl, rfl, rfl, rfl, rfl, congrArg (AVal.int .i64) hwk, trivial⟩, hend _ (by rw [← hnext]; rfl)⟩
      · rw [hb, Bool.true_or] at hnext
        conv => whnf
        refine Gets.ixS (es := 64) rfl (by kernel_rfl) hf0 (by omega) ?_
        conv => whnf
        refine ⟨fun _ i hi => rfl, ?_⟩
        conv => whnf
        refine Gets.ixArr (n := 64) (e := 4) (es := 1) (by kernel_rfl) (by kernel_rfl) (by omega) (by omega) ?_
        conv => whnf
        refine Gets.storeB (j := e.fr.toNat * 64 + k) (es := 64) (l := matB a.states.toNat (a.thrP j e k)) (ti := ⟨1, 1, false, [.bool false]⟩) (by kernel_rfl) rfl rfl (by simp) (by rw [matB_length]; omega) ?_
        conv => whnf
        refine ⟨(fun h => by cases h), ?_⟩
        conv => whnf
        exact ⟨k + 1, renL [0, 1, 2, 3, 4] 5, by omega, by omega, ⟨rfl, rfl, rfl, rfl, rfl, rfl, rfl, rfl, congrArg (AVal.int .i64) hwk, trivial⟩, hend _ (by rw [← hnext])⟩
    · have hk : k = 2 ^ a.props.toNat := by simp only [decide_eq_false_iff_not] at hc2; have : ¬ k < 2 ^ a.props.toNat := fun h => hc2 (by exact_mod_cast h); omega
      subst hk
      have hw : IntKind.wrap .i64 ((j : Int) + 1) = ((j + 1 : Nat) : Int) := by rw [wrap_i64 (by omega) (by omega)]; rfl
      refine ⟨j + 1, renL [0, 1, 2, 3] 5, by omega, by omega, ⟨rfl, rfl, rfl, rfl, rfl, congrArg (AVal.int .i64) hw, trivial⟩, ?_⟩
      refine Emb.lits [0, 1, 2, 3] rfl rfl rfl rfl (.cons ⟨rfl, rfl, fun h => h⟩ (.cons ⟨rfl, rfl, fun h => h⟩ .nil)) (.cons ⟨rfl, .roI⟩ (.cons ⟨rfl, .roI⟩ (.cons ⟨rfl, .inl rfl⟩ (.cons ⟨rfl, ?_⟩ .nil))))
      show BSub _ (.cells 64 (bls (matB a.states.toNat (a.thr (j + 1))))) (.cells 64 (bls (matB a.states.toNat (a.thrP j e (2 ^ a.props.toNat)))))
      have hfin : ∀ s l, a.thrP j e (2 ^ a.props.toNat) s l = a.thr (j + 1) s l := by
        intro s l
        rw [hsucc]
        unfold Au.thrP
        by_cases h1 : s = e.fr.toNat
        · subst h1; simp
        · have h2 : ¬ e.fr.toNat = s := fun h => h1 h.symm
          simp [h1, h2]
      rw [matB_congr fun s l _ _ => hfin s l]
      exact .cellsB
  · have hj : j = a.es.length := by simp at hc; omega
    subst hj
    have hthr : ∀ s l, a.thr a.es.length s l = true ↔ l < 2 ^ a.props.toNat ∧ ∃ f ∈ a.es, f.fr.toNat = s ∧ readsB f l = true := by
      intro s l
      unfold Au.thr
      rw [List.take_length, Bool.and_eq_true, decide_eq_true_eq, List.any_eq_true]
      simp
    iterate 1 (refine Gets.of _ rfl ?_; conv => whnf)
    refine CodeS.loopG (σ := Nat) (fun s => [(1, .ptr 2 0), (2, .bool false), (46, .slice 3 0 a.states.toNat), (47, .int .i64 a.states.toNat), (48, .int .i64 s)]) (fun s => a.gB (a.thr a.es.length)) (fun s => s ≤ a.states.toNat ∧ ∀ t, t < s → ∀ l, l < 2 ^ a.props.toNat → a.thr a.es.length t l = true) (fun s => a.states.toNat - s) 0 (renL [0, 1, 2, 3] 4) (by kernel_rfl)
      ⟨Nat.zero_le _, fun t h => absurd h (Nat.not_lt_zero _)⟩ ⟨rfl, rfl, rfl, rfl, rfl, trivial⟩ (Emb.lits [0, 1, 2, 3] rfl rfl rfl rfl (.cons ⟨rfl, rfl, fun h => h⟩ (.cons ⟨rfl, rfl, fun h => h⟩ .nil)) (.cons ⟨rfl, .roI⟩ (.cons ⟨rfl, .roI⟩ (.cons ⟨rfl, .inl rfl⟩ (.cons ⟨rfl, .cellsB⟩ .nil))))) ?_
    rintro s ⟨q1, q2⟩
    conv => whnf
    refine Fork.mk (fun hc => ?_) (fun hc => ?_)
    all_goals conv => whnf
    · have hc : s < a.states.toNat := by simp only [decide_eq_true_eq] at hc; omega
      refine Gets.ixS (es := 64) rfl (by kernel_rfl) (by omega) (by omega) ?_
      conv => whnf
      have hlen := matB_length a.states.toNat (a.thr a.es.length)
      refine Gets.loadArr (j := s * 64) (k := 64) (l := matB a.states.toNat (a.thr a.es.length)) (ti := ⟨64, 64, true, List.replicate 64 (.bool false)⟩) (by kernel_rfl) rfl rfl rfl (by simp) (by rw [hlen]; omega) ?_
      generalize hrow : ((matB a.states.toNat (a.thr a.es.length)).drop (s * 64)).take 64 = row
      have hrl : row.length = 64 := by rw [← hrow, List.length_take, List.length_drop, hlen]; omega
      have hrg : ∀ l, l < 64 → row[l]? = some (a.thr a.es.length s l) := by
        intro l hl
        rw [← hrow, List.getElem?_take, if_pos hl, List.getElem?_drop]
        exact matB_get _ hc hl
      conv => whnf
      refine seqL0_of ?_
      refine Gets.storeAll (es := 1) (cs := bls (List.replicate 64 false)) (ti := ⟨64, 64, true, List.replicate 64 (.bool false)⟩) (by kernel_rfl) (by rw [bls_length, hrl]) (bls_scalar _) rfl (by rw [bls_length, bls_length, hrl]; rfl) ?_
      conv => whnf
      iterate 1 (refine Gets.of _ rfl ?_; conv => whnf)
      refine Gets.shl hp0 ?_
      rw [hsh]
      conv => whnf
      refine CodeS.loopG (σ := Nat) (fun l => [(1, .ptr 2 0), (2, .bool false), (8, .ptr 4 0), (46, .slice 3 0 a.states.toNat), (47, .int .i64 a.states.toNat), (48, .int .i64 s), (54, .int .i64 (2 ^ a.props.toNat : Nat)), (55, .int .i64 l)]) (fun l => (a.gB (a.thr a.es.length)).alloc (.cells 1 (bls row))) (fun l => l ≤ 2 ^ a.props.toNat ∧ ∀ m, m < l → a.thr a.es.length s m = true) (fun l => 2 ^ a.props.toNat - l) 0 (renL [0, 1, 2, 3, 4] 5) (by kernel_rfl)
        ⟨Nat.zero_le _, fun t h => absurd h (Nat.not_lt_zero _)⟩ ⟨rfl, rfl, rfl, rfl, rfl, rfl, rfl, rfl, trivial⟩ (Emb.lits [0, 1, 2, 3, 4] rfl rfl rfl rfl (.cons ⟨rfl, rfl, fun h => h⟩ (.cons ⟨rfl, rfl, fun h => h⟩ .nil)) (.cons ⟨rfl, .roI⟩ (.cons ⟨rfl, .roI⟩ (.cons ⟨rfl, .inl rfl⟩ (.cons ⟨rfl, .cellsB⟩ (.cons ⟨rfl, .cellsB⟩ .nil)))))) ?_
      rintro l ⟨q3, q4⟩
      conv => whnf
      refine Fork.mk (fun hc2 => ?_) (fun hc2 => ?_)
      all_goals conv => whnf
      · have hc2 : l < 2 ^ a.props.toNat := by simp only [decide_eq_true_eq] at hc2; exact_mod_cast hc2
        have hwl : IntKind.wrap .i64 ((l : Int) + 1) = ((l + 1 : Nat) : Int) := by rw [wrap_i64 (by omega) (by omega)]; rfl
        refine Gets.ixArr (n := 64) (e := 4) (es := 1) (by kernel_rfl) (by kernel_rfl) (by omega) (by omega) ?_
        conv => whnf
        refine Gets.loadB (j := l) (l := row) (ti := ⟨1, 1, false, [.bool false]⟩) (by kernel_rfl) rfl rfl (by simp) (hrg l (by omega)) ?_
        cases hb : a.thr a.es.length s l
        · conv => whnf
          refine ⟨false, rfl, ?_⟩
          simp only [Bool.false_eq_true, false_iff]
          intro hW
          have := (hthr s l).2 ⟨hc2, hW s hc l hc2⟩
          rw [hb] at this
          cases this
        · conv => whnf
          refine ⟨l + 1, renL [0, 1, 2, 3, 4] 5, ⟨by omega, fun m hm => ?_⟩, by omega, ⟨rfl, rfl, rfl, rfl, rfl, rfl, rfl, congrArg (AVal.int .i64) hwl, trivial⟩, Emb.lits [0, 1, 2, 3, 4] rfl rfl rfl rfl (.cons ⟨rfl, rfl, fun h => h⟩ (.cons ⟨rfl, rfl, fun h => h⟩ .nil)) (.cons ⟨rfl, .roI⟩ (.cons ⟨rfl, .roI⟩ (.cons ⟨rfl, .inl rfl⟩ (.cons ⟨rfl, .cellsB⟩ (.cons ⟨rfl, .cellsB⟩ .nil)))))⟩
          rcases Nat.lt_or_ge m l with h | h
          · exact q4 m h
          · obtain rfl : m = l := by omega
            exact hb
      · have hl : l = 2 ^ a.props.toNat := by simp only [decide_eq_false_iff_not] at hc2; have : ¬ l < 2 ^ a.props.toNat := fun h => hc2 (by exact_mod_cast h); omega
        subst hl
        have hws : IntKind.wrap .i64 ((s : Int) + 1) = ((s + 1 : Nat) : Int) := by rw [wrap_i64 (by omega) (by omega)]; rfl
        refine ⟨s + 1, renL [0, 1, 2, 3] 5, ⟨by omega, fun t ht m hm => ?_⟩, by omega, ⟨rfl, rfl, rfl, rfl, congrArg (AVal.int .i64) hws, trivial⟩, Emb.lits [0, 1, 2, 3] rfl rfl rfl rfl (.cons ⟨rfl, rfl, fun h => h⟩ (.cons ⟨rfl, rfl, fun h => h⟩ .nil)) (.cons ⟨rfl, .roI⟩ (.cons ⟨rfl, .roI⟩ (.cons ⟨rfl, .inl rfl⟩ (.cons ⟨rfl, .cellsB⟩ .nil))))⟩
        rcases Nat.lt_or_ge t s with h | h
        · exact q2 t h m hm
        · obtain rfl : t = s := by omega
          exact q4 m hm
    · have hs : s = a.states.toNat := by simp only [decide_eq_false_iff_not] at hc; omega
      refine ⟨true, rfl, ?_⟩
      simp only [true_iff]
      intro t ht l hl
      exact ((hthr t l).1 (q2 t (by omega) l hl)).2
end Go.Proofs.Ytdahmcgncpoliaa
