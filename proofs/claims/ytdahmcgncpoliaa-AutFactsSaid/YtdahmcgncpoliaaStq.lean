/- A step of Walk. -/
import Derived.Test.YtdahmcgncpoliaaRwk
set_option linter.unusedVariables false
set_option linter.unusedSimpArgs false
set_option maxRecDepth 100000
namespace Go.Proofs.Ytdahmcgncpoliaa
open Go Go.Vh Go.Proofs
def Au.nxt (a : Au) (l : Int) : List Int → Option Edg
  | [] => none
  | i :: r => match a.es[i.toNat]? with
    | some e => if readsB e l = true then some e else a.nxt l r
    | none => a.nxt l r
/-- What lies about when Walk takes a step. -/
structure StepH (a : Au) (H : AHeap) (s : Int) (rows : List (List Int)) (g : Nat → Nat) : Prop where
  n : 9 ≤ H.n
  f1 : H.f 1 = .ro 5 (ints (flat a.es))
  f4 : H.f 4 = a.box
  f6 : H.f 6 = .cells 1 (rowVg g 1 rows)
  f7 : H.f 7 = .cells 1 [.slice 6 0 rows.length]
  f8 : H.f 8 = .cells 1 [.int .i64 s]
  row : ∀ (t : Nat) (x : Int) (l : List Int), rows[t]? = some (x :: l) → H.f (g t) = .cells 1 (ints (x :: l))
  gn : ∀ (t : Nat) (x : Int) (l : List Int), rows[t]? = some (x :: l) → g t < H.n
  closed : Closed H
structure RowsOk (a : Au) (rows : List (List Int)) : Prop where
  ne : a.es.length ≤ 40000
  len : ∀ (t : Nat) (r : List Int), rows[t]? = some r → r.length ≤ 40000
  mem : ∀ (t : Nat) (r : List Int), rows[t]? = some r → ∀ i ∈ r, ∃ k : Nat, i = k ∧ k < a.es.length
theorem step43 (a : Au) (l s : Int) (rows : List (List Int)) (g : Nat → Nat) (H : AHeap) (hH : StepH a H s rows g) (hr : RowsOk a rows) (hs0 : 0 ≤ s) (hs1 : s < rows.length) (hsn : rows.length ≤ 3000) :
    CallW Try.prog 43 [.int .i64 l, .ptr 7 0, .ptr 8 0, .ptr 4 0] H fun v H' => match a.nxt l (rows.getD s.toNat []) with
      | none => v = .tuple [.int .i64 0, .bool false] ∧ H' = H
      | some e => v = .tuple [.int .i64 e.marks, .bool true] ∧ H' = H.set 8 (.cells 1 [.int .i64 e.to]) := by
  have hn := hH.n
  have hlt : s.toNat < rows.length := by omega
  have hget : rows[s.toNat]? = some (rows.getD s.toNat []) := by rw [List.getD_eq_getElem?_getD, List.getElem?_eq_getElem hlt]; rfl
  have hrl := hr.len _ _ hget
  have hmem := hr.mem _ _ hget
  have hrow : ∀ x m, rows.getD s.toNat [] = x :: m → H.f (g s.toNat) = .cells 1 (ints (x :: m)) ∧ g s.toNat < H.n := fun x m h => ⟨hH.row _ x m (by rw [hget, h]), hH.gn _ x m (by rw [hget, h])⟩
  generalize rows.getD s.toNat [] = r at hget hrl hmem hrow
  have hne := hr.ne
  refine CallW.symR Try.func43 rfl (by kernel_rfl) ?_
  conv => whnf
  refine Gets.loadAt (j := 0) (v := .slice 6 0 rows.length) (ti := ⟨1, 24, false, [.nilSlice]⟩) (by kernel_rfl) rfl rfl (by rw [hH.f7]; rfl) ?_
  conv => whnf
  refine Gets.loadAt (j := 0) (v := .int .i64 s) (ti := ⟨1, 8, false, [.int .i64 0]⟩) (by kernel_rfl) rfl rfl (by rw [hH.f8]; rfl) ?_
  conv => whnf
  refine Gets.ixS (es := 1) rfl (by kernel_rfl) hs0 hs1 ?_
  conv => whnf
  refine Gets.loadAt (j := s.toNat) (v := rowV (g s.toNat) 1 r) (ti := ⟨1, 24, false, [.nilSlice]⟩) (by kernel_rfl) rfl (by omega) (by rw [hH.f6]; exact (rowVg_get _ _ _ _).trans (congrArg (Option.map _) hget)) ?_
  have hE0 : Emb H.n (preK H.n H.n) H H := Emb.pre hH.closed (Nat.le_refl _) (Nat.le_refl _) (fun _ _ => rfl) (fun _ _ => rfl)
  have k8 : preK H.n H.n 8 = 8 := preK_lt (by omega)
  have k4 : preK H.n H.n 4 = 4 := preK_lt (by omega)
  have k8' : preK H.n (H.n + 1) 8 = 8 := preK_lt (by omega)
  have k4' : preK H.n (H.n + 1) 4 = 4 := preK_lt (by omega)
  rcases r with _ | ⟨x, r⟩
  · conv => whnf
    refine Gets.of _ rfl ?_
    conv => whnf
    refine CodeS.loopG (σ := Unit) (fun _ => [(0, .int .i64 l), (14, .int .i64 0), (15, .int .i64 0)]) (fun _ => H) (fun _ => True) (fun _ => 0) () (preK H.n H.n) (by kernel_rfl) trivial ⟨rfl, rfl, rfl, trivial⟩ hE0 ?_
    rintro ⟨⟩ _
    conv => whnf
    refine Fork.mk (fun h => absurd h (by decide)) (fun h => ?_)
    conv => whnf
    exact ⟨preK H.n H.n, .tuple [.int .i64 0, .bool false], H, hE0, rfl, rfl, rfl⟩
  obtain ⟨hrf, hrn⟩ := hrow x r rfl
  have kg : preK H.n H.n (g s.toNat) = g s.toNat := preK_lt hrn
  have kg' : preK H.n (H.n + 1) (g s.toNat) = g s.toNat := preK_lt hrn
  generalize hxr : x :: r = xr at *
  have hrv : rowV (g s.toNat) 1 xr = .slice (g s.toNat) 0 xr.length := by rw [← hxr]; show AVal.slice _ _ _ = _; rw [Nat.div_one]
  rw [hrv]
  conv => whnf
  refine Gets.of _ rfl ?_
  conv => whnf
  refine CodeS.loopG (σ := Nat) (fun k => [(0, .int .i64 l), (2, .ptr 8 0), (3, .ptr 4 0), (5, .int .i64 0), (6, .bool false), (13, .slice (g s.toNat) 0 xr.length), (14, .int .i64 xr.length), (15, .int .i64 k)]) (fun _ => H) (fun k => k ≤ xr.length ∧ a.nxt l xr = a.nxt l (xr.drop k)) (fun k => xr.length - k) 0 (preK H.n H.n) (by kernel_rfl)
    ⟨Nat.zero_le _, by rw [List.drop_zero]⟩ ⟨rfl, by simp only [ren, k8]; rfl, by simp only [ren, k4]; rfl, rfl, rfl, by simp only [ren, kg]; rfl, rfl, rfl, trivial⟩ hE0 ?_
  rintro k ⟨g1, g2⟩
  conv => whnf
  refine Fork.mk (fun hc => ?_) (fun hc => ?_)
  all_goals conv => whnf
  · have hc : k < xr.length := by simp at hc; omega
    obtain ⟨i, hi, hie⟩ := hmem _ (List.getElem_mem hc)
    have hdrop : xr.drop k = (i : Int) :: xr.drop (k + 1) := by rw [List.drop_eq_getElem_cons hc, hi]
    refine Gets.ixS (es := 1) rfl (by kernel_rfl) (by omega) (by omega) ?_
    conv => whnf
    refine Gets.loadN (j := k) (k := .i64) (l := xr) (x := i) (ti := ⟨1, 8, false, [.int .i64 0]⟩) (by kernel_rfl) rfl (by rw [hrf]; rfl) (by simp) (by rw [List.getElem?_eq_getElem hc, hi]) ?_
    conv => whnf
    refine Gets.loadAt (j := 5) (v := .view 1 0 a.es.length) (ti := ⟨1, 24, false, [.nilSlice]⟩) (by kernel_rfl) rfl rfl (by rw [hH.f4]; rfl) ?_
    conv => whnf
    refine Gets.ixV (es := 5) rfl (by kernel_rfl) (by omega) (by omega) ?_
    conv => whnf
    refine Gets.loadE (j := i) (es := a.es) (ti := ⟨5, 40, true, [.int .i64 0, .int .i64 0, .int .i64 0, .int .i64 0, .int .i64 0]⟩) (by kernel_rfl) rfl rfl (by rw [hH.f1]; rfl) (by simp) hie ?_
    generalize hee : a.es[i] = e
    have hstep : a.nxt l xr = if readsB e l = true then some e else a.nxt l (xr.drop (k + 1)) := by
      rw [g2, hdrop, Au.nxt, Int.toNat_natCast, List.getElem?_eq_getElem hie, hee]
    conv => whnf
    refine Gets.storeAll (es := 1) (cs := [.int .i64 0, .int .i64 0, .int .i64 0, .int .i64 0, .int .i64 0]) (ti := ⟨5, 40, true, [.int .i64 0, .int .i64 0, .int .i64 0, .int .i64 0, .int .i64 0]⟩) (by kernel_rfl) rfl rfl (by simp only [alloc_f, if_true]; rfl) rfl ?_
    conv => whnf
    generalize hG : AHeap.set _ _ _ = H1
    have hH1n : H1.n = H.n + 1 := by rw [← hG]; rfl
    have hH1f : ∀ i, i < H.n → H1.f i = H.f i := by intro i hi; rw [← hG, set_f, if_neg (by omega), alloc_f, if_neg (by omega)]
    have hH1e : H1.f H.n = .cells 1 (Edg.cs e) := by rw [← hG, set_f, if_pos rfl]; rfl
    have hH1v : ∀ i, i < H.n → H1.ver i = H.ver i := by intro i hi; rw [← hG, set_ver, if_neg (by omega)]; rfl
    refine Gets.loadAt (j := 2) (v := .int .i64 e.care) (ti := ⟨1, 8, false, [.int .i64 0]⟩) (by kernel_rfl) rfl rfl (by rw [hH1e]; rfl) ?_
    conv => whnf
    refine Gets.loadAt (j := 3) (v := .int .i64 e.bits) (ti := ⟨1, 8, false, [.int .i64 0]⟩) (by kernel_rfl) rfl rfl (by rw [hH1e]; rfl) ?_
    conv => whnf
    refine Fork.mk (fun hrd => ?_) (fun hrd => ?_)
    all_goals conv => whnf
    · have hrd : readsB e l = true := hrd
      rw [hrd, if_pos rfl] at hstep
      refine Gets.loadAt (j := 1) (v := .int .i64 e.to) (ti := ⟨1, 8, false, [.int .i64 0]⟩) (by kernel_rfl) rfl rfl (by rw [hH1e]; rfl) ?_
      conv => whnf
      refine Gets.storeAt (j := 0) (es := 1) (cs := [.int .i64 s]) (ti := ⟨1, 8, false, [.int .i64 0]⟩) (by kernel_rfl) rfl rfl rfl (by rw [hH1f 8 (by omega), hH.f8]) rfl Nat.one_pos ?_
      conv => whnf
      refine Gets.loadAt (j := 4) (v := .int .i64 e.marks) (ti := ⟨1, 8, false, [.int .i64 0]⟩) (by kernel_rfl) rfl rfl (by rw [set_f, if_neg (by omega), hH1e]; rfl) ?_
      conv => whnf
      rw [hstep]
      refine ⟨preK (H.set 8 (.cells 1 [.int .i64 e.to])).n (H.n + 1), .tuple [.int .i64 e.marks, .bool true], H.set 8 (.cells 1 [.int .i64 e.to]), ?_, rfl, rfl, rfl⟩
      rw [← hH1n]
      refine Emb.pre (G := H.set 8 (.cells 1 [.int .i64 e.to])) (H := H1.set 8 (.cells 1 [.int .i64 e.to])) (fun i hi κ hκ => ?_) (by show H.n ≤ H1.n; omega) (Nat.le_refl _) (fun i hi => ?_) (fun i hi => ?_)
      · rw [set_f]
        split
        · rfl
        · exact hH.closed i hi κ hκ
      · rw [set_f, set_f]
        split
        · rfl
        · exact hH1f i hi
      · rw [set_ver, set_ver, hH1v i hi]
    · have hrd : readsB e l = false := hrd
      rw [hrd, if_neg (by simp)] at hstep
      have hw : IntKind.wrap .i64 ((k : Int) + 1) = ((k + 1 : Nat) : Int) := by rw [wrap_i64 (by omega) (by omega)]; rfl
      refine ⟨k + 1, preK H.n (H.n + 1), ⟨by omega, hstep⟩, by omega, ⟨rfl, by simp only [ren, k8']; rfl, by simp only [ren, k4']; rfl, rfl, rfl, by simp only [ren, kg']; rfl, rfl, congrArg (AVal.int .i64) hw, trivial⟩, ?_⟩
      rw [← hH1n]
      exact Emb.pre hH.closed (by omega) (Nat.le_refl _) hH1f (fun i hi => (hH1v i hi).symm)
  · have hk : k = xr.length := by simp at hc; omega
    have hnone : a.nxt l xr = none := by rw [g2, hk, List.drop_length]; rfl
    rw [hnone]
    exact ⟨preK H.n H.n, .tuple [.int .i64 0, .bool false], H, hE0, rfl, rfl, rfl⟩
end Go.Proofs.Ytdahmcgncpoliaa
