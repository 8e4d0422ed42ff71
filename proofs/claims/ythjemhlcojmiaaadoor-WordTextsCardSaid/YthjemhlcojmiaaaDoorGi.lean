/- Words in a row; how many letters; arguments as words. -/
import Derived.Test.YthjemhlcojmiaaaDoorGh
import Derived.Test.YthjemhlcojmiaaaDoorVmA
-- VkG VkH VmA
set_option linter.unusedVariables false
set_option linter.unusedSimpArgs false
set_option maxRecDepth 100000
set_option maxHeartbeats 4000000
namespace Go.Proofs.YthjemhlcojmiaaaDoor
open Go Go.Vh Go.Vk Go.Proofs
/-- Words in a row. -/
def wcells (ws : List Wd) : List AVal := ws.flatMap fun w => [rI w.stem, rI w.loop]
def rWs (ws : List Wd) : AVal := .row ws.length (wcells ws)
theorem wcells_length (ws : List Wd) : (wcells ws).length = ws.length * 2 := by
  induction ws with
  | nil => rfl
  | cons w ws ih => show (_ ++ wcells ws).length = _; rw [List.length_append, ih]; simp; omega
theorem wcells_get : ∀ (ws : List Wd) (j : Nat) (h : j < ws.length), ((wcells ws).drop (j * 2)).take 2 = [rI ws[j].stem, rI ws[j].loop]
  | [], j, h => absurd h (Nat.not_lt_zero j)
  | w :: ws, 0, h => rfl
  | w :: ws, j + 1, h => by
    have := wcells_get ws j (by simpa using h)
    rw [show (j + 1) * 2 = j * 2 + 2 by omega]
    exact this
theorem fewR (ws : List Wd) (hf : ∀ w ∈ ws, w.Fits) (hn : ws.length ≤ 1000) (a : Int) (H : AHeap) : CallW Tryd.prog 8 [.int .i64 a, rWs ws] H fun v H' => H' = H ∧ IsB v (∀ w ∈ ws, (w.stem.length : Int) + w.loop.length ≤ a) := by
  refine CallW.pure ?_ rfl H
  refine CallW.symK (cuts := []) Tryd.func8 rfl (by kernel_rfl) ?_
  conv => whnf
  repeat' (refine Gets.of _ rfl ?_; conv => whnf)
  refine CodeS.loopGK (cuts := []) (σ := Nat) (fun j => [(0, .int .i64 a), (7, rWs ws), (8, .int .i64 (ws.length : Int)), (9, .int .i64 (j : Int))]) (fun _ => emptyH) (fun j => j ≤ ws.length ∧ ∀ k (h : k < ws.length), k < j → (ws[k].stem.length : Int) + ws[k].loop.length ≤ a) (fun j => ws.length - j) 0 (renL [] 0) (by kernel_rfl) ⟨Nat.zero_le _, fun k _ hk => by omega⟩ ⟨rfl, rfl, rfl, rfl, trivial⟩ (EmbL.litsN [] rfl rfl rfl rfl .nil .nil) ?_
  rintro j ⟨g1, g2⟩
  rcases Nat.lt_or_ge j ws.length with hj | hj
  · obtain ⟨b1, b2⟩ := hf _ (List.getElem_mem hj)
    have hl := wcells_length ws
    conv => whnf
    repeat' first | ((refine Gets.ixRE (es := 2) rfl rfl hj ?_); conv => whnf) | ((refine Gets.ldR (v := .agg [rI ws[j].stem, rI ws[j].loop]) rfl (by show (if j * 2 + 2 ≤ (wcells ws).length then some (AVal.agg (((wcells ws).drop (j * 2)).take 2)) else none) = _; rw [if_pos (by omega), wcells_get ws j hj]) ?_); conv => whnf) | ((with_reducible refine Gets.addI ?_ ?_ ?_); (· omega); (· omega); conv => whnf) | (refine Gets.of _ rfl ?_; conv => whnf) | (refine Fork.dec (fun _ => ?_) (fun _ => ?_) <;> first | (exfalso; omega) | (conv => whnf))
    · exact ⟨[], _, rfl, .same rfl, rfl, .f fun h => by have := h _ (List.getElem_mem hj); omega⟩
    · exact ⟨j + 1, renL [] 1, ⟨hj, fun k h hk => by
        rcases Nat.lt_or_ge k j with h1 | h1
        · exact g2 k h h1
        · obtain rfl : k = j := by omega
          omega⟩, by show ws.length - (j + 1) < _; omega, ⟨rfl, rfl, rfl, rfl, trivial⟩, EmbL.litsN [] rfl rfl rfl rfl .nil .nil⟩
  · conv => whnf
    repeat' (refine Fork.dec (fun _ => ?_) (fun _ => ?_) <;> first | (exfalso; omega) | (conv => whnf))
    exact ⟨[], _, rfl, .same rfl, rfl, .t fun w hw => by
      obtain ⟨k, hk, rfl⟩ := List.getElem_of_mem hw
      exact g2 k hk (by omega)⟩
theorem SameR.uniq {u v : Wd} {b b' : Bool} {e e' : Int} (h : SameR u v b e) (h' : SameR u v b' e') : b' = b ∧ e' = e := by
  rcases h with ⟨h1, h2, h3⟩ | ⟨h1, h2, h3⟩ <;> rcases h' with ⟨g1, g2, g3⟩ | ⟨g1, g2, g3⟩
  · exact ⟨by rw [h2, g2], by rw [h3, g3]⟩
  · exact absurd g1 h1
  · exact absurd h1 g1
  · refine ⟨?_, by rw [h2, g2]⟩
    rw [Bool.eq_iff_iff]
    exact g3.trans h3.symm
theorem isT (u : Wd) (hu : u.Sz) (e : Int) (H : AHeap) : CallW Tryd.prog 18 [u.rv, .int .i64 e, u.rv, .int .i64 e] H fun r H' => H' = H ∧ r = .bool true :=
  (isRw u u hu hu e e H).mono fun r H' h => ⟨h.1, by
    obtain ⟨_, h | h⟩ := h
    · rfl
    · exact absurd ⟨rfl, rfl⟩ h⟩
theorem errW_sz : errW.Sz := ⟨Nat.zero_le _, Nat.zero_le _⟩
theorem nf_sz {w : Wd} (h0 : 0 < w.loop.length) (hs : w.stem.length ≤ 4294967296) (hl : w.loop.length ≤ 4294967296) : (nf w).Sz := by
  obtain ⟨h1, _, h2, _⟩ := nf_lens h0
  exact ⟨by omega, by omega⟩
theorem shortW_sz {w : Wd} (h0 : 0 < w.loop.length) (hs : w.stem.length ≤ 4294967296) (hl : w.loop.length ≤ 4294967296) : (shortW w).1.Sz := by
  unfold shortW
  split
  · exact errW_sz
  · exact nf_sz h0 hs hl
theorem aheadW_sz {l : List Int} {w : Wd} (hl : l.length ≤ 1000) : (aheadW l w).1.Sz := by
  unfold aheadW
  split
  · rename_i h
    have hm := h.1.m
    exact shortW_sz h.1.p (by show (l ++ w.stem).length ≤ _; rw [List.length_append]; omega) (by show w.loop.length ≤ _; omega)
  · exact errW_sz
theorem mixW_sz {u v : Wd} {n m : Int} : (mixW u v n m).1.Sz := by
  unfold mixW
  split
  · exact errW_sz
  · split
    · rename_i h
      have a := h.1.m
      have b := h.2.m
      have h1 : u.loop.length * v.loop.length ≤ 200 * 200 := Nat.mul_le_mul (by omega) (by omega)
      have h2 : 0 < u.loop.length * v.loop.length := Nat.mul_pos h.1.p h.2.p
      exact shortW_sz (by show 0 < ((List.range _).map _).length; rw [List.length_map, List.length_range]; exact h2) (by show ((List.range _).map _).length ≤ _; rw [List.length_map, List.length_range]; omega) (by show ((List.range _).map _).length ≤ _; rw [List.length_map, List.length_range]; omega)
    · exact errW_sz
theorem mapW_sz {w : Wd} (hw : w.Ok 6) (g : Int → Int) : (nf (mapW g w)).Sz := by
  have hm := hw.m
  exact nf_sz (by show 0 < (w.loop.map g).length; rw [List.length_map]; exact hw.p) (by show (w.stem.map g).length ≤ _; rw [List.length_map]; omega) (by show (w.loop.map g).length ≤ _; rw [List.length_map]; omega)
theorem splitW_sz {w : Wd} {n : Int} : (splitW w n).1.Sz ∧ (splitW w n).2.1.Sz := by
  unfold splitW
  split
  · rename_i h
    split
    · exact ⟨errW_sz, errW_sz⟩
    · exact ⟨mapW_sz h _, mapW_sz h _⟩
  · exact ⟨errW_sz, errW_sz⟩
theorem rshape_int {n : Nat} {avs : List AVal} (h : RShape Tryd.prog n 3 avs) : ∃ m, argOf Tryd.prog 3 avs = .int .i64 m ∧ -9223372036854775808 ≤ m ∧ m ≤ 9223372036854775807 := by
  obtain ⟨m, rfl, hm⟩ := h.int Tryd.underlying3
  exact ⟨m, by unfold argOf; rw [Tryd.underlying3]; rfl, hm⟩
theorem rshape_ints {n : Nat} {avs : List AVal} (h : RShape Tryd.prog n 22 avs) : ∃ l, avs = [rI l] ∧ (∀ x ∈ l, -9223372036854775808 ≤ x ∧ x ≤ 9223372036854775807) ∧ l.length ≤ 1152921504606846976 := h.ints Tryd.underlying22 Tryd.underlying3 (by kernel_rfl) (by kernel_rfl)
theorem rshape_word {n : Nat} {avs : List AVal} (h : RShape Tryd.prog n 24 avs) : ∃ w : Wd, argOf Tryd.prog 24 avs = w.rv ∧ w.Fits := by
  have e0 : argOf Tryd.prog 24 avs = .agg avs := by unfold argOf; rw [Tryd.underlying24]
  rw [e0]
  cases n with
  | zero => exact h.elim
  | succ n =>
    unfold RShape at h
    rw [Tryd.underlying24] at h
    obtain ⟨hl, hf⟩ := h
    have hc : Tryd.prog.cellsOf 24 = 2 := by kernel_rfl
    have c22 : Tryd.prog.cellsOf 22 = 1 := by kernel_rfl
    rw [hc] at hl
    rcases avs with _ | ⟨x0, _ | ⟨x1, _ | ⟨x2, avs⟩⟩⟩
    case cons.cons.nil =>
      have g0 : RShape Tryd.prog n 22 ((([x0, x1] : List AVal).drop 0).take (Tryd.prog.cellsOf 22)) := hf 0 _ rfl
      have g1 : RShape Tryd.prog n 22 ((([x0, x1] : List AVal).drop 1).take (Tryd.prog.cellsOf 22)) := hf 1 _ rfl
      rw [c22] at g0 g1
      obtain ⟨stem, e1, _, b1⟩ := rshape_ints g0
      obtain ⟨loop, e2, _, b2⟩ := rshape_ints g1
      cases e1; cases e2
      exact ⟨⟨stem, loop⟩, rfl, ⟨b1, b2⟩⟩
    all_goals (simp only [List.length_cons, List.length_nil] at hl; omega)
end Go.Proofs.YthjemhlcojmiaaaDoor

/- Parse: texts read as words. -/
-- VkG VkH VmA
set_option linter.unusedVariables false
set_option linter.unusedSimpArgs false
set_option maxRecDepth 100000
set_option maxHeartbeats 4000000
namespace Go.Proofs.YthjemhlcojmiaaaDoor
open Go Go.Vh Go.Vk Go.Proofs
/-- The bytes of a text. -/
def bts (s : ByteArray) : List Nat := s.data.toList.map UInt8.toNat
theorem bts_length (s : ByteArray) : (bts s).length = s.size := by unfold bts; rw [List.length_map, Array.length_toList]; rfl
theorem bts_get {s : ByteArray} {j : Nat} (h : j < s.size) : (s[j]'h).toNat = (bts s).getD j 0 := by
  have h1 : j < s.data.toList.length := by rw [Array.length_toList]; exact h
  rw [List.getD_eq_getElem?_getD, bts, List.getElem?_map, List.getElem?_eq_getElem h1]
  rfl
theorem Gets.ixStr {P : Program} {t : TypeId} {s : ByteArray} {j : Nat} {k : IntKind} {A : AVal → Prop} (hu : P.underlying t = some .string) (hj : j < s.size) (hA : A (.int .u8 (((bts s).getD j 0 : Nat) : Int))) : Gets (aindex P t (.str s) (.int k (j : Int))) A := by
  refine ⟨⟨_, ?_, hA⟩⟩
  unfold aindex
  rw [hu]
  dsimp only
  rw [dif_pos ⟨by omega, by omega⟩]
  have : ((j : Int)).toNat = j := rfl
  simp only [this, bts_get hj]
theorem Gets.ixStrC {P : Program} {t : TypeId} {s : ByteArray} {j c : Nat} {k : IntKind} {A : AVal → Prop} (hu : P.underlying t = some .string) (hj : j < s.size) (hc : (bts s).getD j 0 = c) (hA : A (.int .u8 (c : Int))) : Gets (aindex P t (.str s) (.int k (j : Int))) A := by
  subst hc; exact Gets.ixStr hu hj hA
theorem bts_lt (s : ByteArray) (j : Nat) : (bts s).getD j 0 < 256 := by
  rw [List.getD_eq_getElem?_getD, bts, List.getElem?_map]
  cases s.data.toList[j]? with
  | none => decide
  | some c => exact c.toNat_lt
theorem wr8 {c : Nat} (h : 48 ≤ c) (h' : c ≤ 57) : IntKind.wrap .i64 (IntKind.wrap .u8 ((c : Int) - 48)) = ((c - 48 : Nat) : Int) := by
  have e : (c : Int) - 48 = ((c - 48 : Nat) : Int) := by omega
  rw [e]
  have h1 : IntKind.wrap .u8 ((c - 48 : Nat) : Int) = ((c - 48 : Nat) : Int) := by
    simp only [IntKind.wrap, IntKind.bits, IntKind.signed, Bool.false_and, show (2 : Int) ^ 8 = 256 from rfl]
    rw [if_neg (by simp)]
    omega
  rw [h1, wrap_i64 (by omega) (by omega)]
/-- A number at the front of some bytes. -/
def takeNum : List Nat → Nat → Nat × List Nat
  | [], n => (n, [])
  | c :: r, n => if 48 ≤ c ∧ c ≤ 57 then takeNum r (min (n * 10 + (c - 48)) 1000) else (n, c :: r)
theorem takeNum_le : ∀ (l : List Nat) (n : Nat), (takeNum l n).2.length ≤ l.length
  | [], n => Nat.le_refl _
  | c :: r, n => by
    unfold takeNum
    split
    · exact Nat.le_trans (takeNum_le r _) (Nat.le_succ _)
    · exact Nat.le_refl _
/-- What is read: how many brackets, the stem, the loop. -/
def parseL (l : List Nat) (p : Nat) (st lo : List Int) : Option (Nat × List Int × List Int) :=
  match l with
  | [] => some (p, st, lo)
  | c :: r =>
    if c = 32 then parseL r p st lo
    else if (c = 40 ∧ p = 0) ∨ (c = 41 ∧ p = 1) then parseL r (p + 1) st lo
    else if 48 ≤ c ∧ c ≤ 57 ∧ p < 2 then
      (if p = 0 then parseL (takeNum r (min (0 * 10 + (c - 48)) 1000)).2 p (st ++ [((takeNum r (min (0 * 10 + (c - 48)) 1000)).1 : Int)]) lo
      else parseL (takeNum r (min (0 * 10 + (c - 48)) 1000)).2 p st (lo ++ [((takeNum r (min (0 * 10 + (c - 48)) 1000)).1 : Int)]))
    else none
termination_by l.length
decreasing_by all_goals first | (simp; done) | (have := takeNum_le r (min (0 * 10 + (c - 48)) 1000); simp only [List.length_cons]; omega)
theorem drop_cons {s : ByteArray} {i : Nat} (h : i < s.size) : (bts s).drop i = (bts s).getD i 0 :: (bts s).drop (i + 1) := by
  have h1 : i < (bts s).length := by rw [bts_length]; exact h
  rw [List.drop_eq_getElem_cons h1, List.getD_eq_getElem?_getD, List.getElem?_eq_getElem h1]; rfl
theorem drop_end {s : ByteArray} {i : Nat} (h : s.size ≤ i) : (bts s).drop i = [] := List.drop_eq_nil_of_le (by rw [bts_length]; exact h)
def hP (st lo : List Int) (a b : Nat) : AHeap := (((emptyH.alloc (.cells 1 [.nilSlice, .nilSlice])).alloc (.cells 1 [acc 2 a, acc 3 b])).alloc (accB st a)).alloc (accB lo b)
theorem parse_space {r : List Nat} {p : Nat} {st lo : List Int} : parseL (32 :: r) p st lo = parseL r p st lo := by rw [parseL]; rw [if_pos rfl]
theorem parse_br {c : Nat} {r : List Nat} {p : Nat} {st lo : List Int} (h1 : c ≠ 32) (h : (c = 40 ∧ p = 0) ∨ (c = 41 ∧ p = 1)) : parseL (c :: r) p st lo = parseL r (p + 1) st lo := by rw [parseL]; rw [if_neg h1, if_pos h]
theorem parse_num {c : Nat} {r : List Nat} {p : Nat} {st lo : List Int} (h : 48 ≤ c ∧ c ≤ 57) (hp : p < 2) {n : Nat} {r' : List Nat} (ht : takeNum (c :: r) 0 = (n, r')) : parseL (c :: r) p st lo = if p = 0 then parseL r' p (st ++ [(n : Int)]) lo else parseL r' p st (lo ++ [(n : Int)]) := by
  rw [parseL, if_neg (by omega), if_neg (by omega), if_pos ⟨h.1, h.2, hp⟩]
  unfold takeNum at ht
  rw [if_pos h] at ht
  rw [ht]
theorem parse_no {c : Nat} {r : List Nat} {p : Nat} {st lo : List Int} (h1 : c ≠ 32) (h2 : ¬ ((c = 40 ∧ p = 0) ∨ (c = 41 ∧ p = 1))) (h3 : ¬ (48 ≤ c ∧ c ≤ 57 ∧ p < 2)) : parseL (c :: r) p st lo = none := by
  rw [parseL, if_neg h1, if_neg h2, if_neg h3]
theorem errT' (e : Int) {H : AHeap} : ToldR (fun v => v = .tuple [errW.rv, .int .i64 e]) (.tuple [.agg [.nilSlice, .nilSlice], .int .i64 e]) H := errT e
open Classical in
/-- What is answered, once all has been read. -/
noncomputable def endW : Option (Nat × List Int × List Int) → Wd × Int
  | some (2, st, lo) => if (⟨st, lo⟩ : Wd).Ok 6 then (⟨st, lo⟩, 0) else (errW, 4)
  | _ => (errW, 4)
theorem endW_no {p : Nat} {st lo : List Int} (h : p ≠ 2) : endW (some (p, st, lo)) = (errW, 4) := by
  rcases p with _ | _ | _ | p
  · rfl
  · rfl
  · exact absurd rfl h
  · rfl
theorem endW_ok {st lo : List Int} (h : (⟨st, lo⟩ : Wd).Ok 6) : endW (some (2, st, lo)) = (⟨st, lo⟩, 0) := by unfold endW; exact if_pos h
theorem endW_bad {st lo : List Int} (h : ¬ (⟨st, lo⟩ : Wd).Ok 6) : endW (some (2, st, lo)) = (errW, 4) := by unfold endW; exact if_neg h
noncomputable def parseW (s : ByteArray) : Wd × Int := if 16384 < s.size then (errW, 3) else endW (parseL (bts s) 0 [] [])
theorem told_acc {st lo : List Int} {H : AHeap} (h2 : H.f 2 = accB st st.length) (h3 : H.f 3 = accB lo lo.length) : ToldR (fun v => v = .tuple [(⟨st, lo⟩ : Wd).rv, .int .i64 0]) (.tuple [.agg [acc 2 st.length, acc 3 lo.length], .int .i64 0]) H := by
  obtain ⟨ks, k1, k2, k3⟩ := acc_ks (by decide) h2 h3
  exact ⟨ks, _, k1, .tuple (.cons (.agg (.cons (frz_acc k2 h2 rfl) (.cons (frz_acc k3 h3 rfl) (.same rfl)))) (.same rfl)), rfl, rfl⟩
theorem frzA_acc {st lo : List Int} {H : AHeap} {rest : List AVal} (h2 : H.f 2 = accB st st.length) (h3 : H.f 3 = accB lo lo.length) (hr : ∀ ks, FrzA H ks rest rest) : ∃ ks, ksCells H ks = true ∧ FrzA H ks (.agg [acc 2 st.length, acc 3 lo.length] :: rest) ((⟨st, lo⟩ : Wd).rv :: rest) := by
  obtain ⟨ks, k1, k2, k3⟩ := acc_ks (by decide) h2 h3
  exact ⟨ks, k1, .frz (.agg (.cons (frz_acc k2 h2 rfl) (.cons (frz_acc k3 h3 rfl) (.same rfl)))) (hr ks)⟩
theorem IsB.plain {p : Prop} : ∀ v : AVal, IsB v p → plain v = true := by rintro v (_ | _) <;> rfl
theorem parseR (s : ByteArray) (hs : s.size ≤ 1000000) (H : AHeap) : CallW Tryd.prog 16 [.str s] H fun v H' => H' = H ∧ v = .tuple [(parseW s).1.rv, .int .i64 (parseW s).2] := by
  refine CallW.pure ?_ rfl H
  refine CallW.symK (cuts := []) Tryd.func16 rfl (by kernel_rfl) ?_
  conv => whnf
  repeat' first | (refine Gets.of _ rfl ?_; conv => whnf) | (refine Fork.dec (fun _ => ?_) (fun _ => ?_) <;> first | (exfalso; omega) | (conv => whnf))
  · rw [parseW, if_pos (by omega)]
    exact errT 3
  have e0 : parseW s = endW (parseL (bts s) 0 [] []) := if_neg (by omega)
  rw [e0]
  clear e0
  obtain ⟨R, hR⟩ : ∃ R, R = parseL (bts s) 0 [] [] := ⟨_, rfl⟩
  rw [← hR]
  refine CodeS.loopGK (cuts := []) (σ := Nat × Nat × Nat × Nat × List Int × List Int) (fun x => [(0, .str s), (2, .ptr 0 0), (4, .ptr 1 0), (5, .int .i64 (x.2.1 : Int)), (6, .int .i64 (x.1 : Int))]) (fun x => hP x.2.2.2.2.1 x.2.2.2.2.2 x.2.2.1 x.2.2.2.1) (fun x => x.1 ≤ s.size ∧ x.2.1 ≤ 2 ∧ x.2.2.2.2.1.length + x.2.2.2.2.2.length ≤ x.1 ∧ parseL ((bts s).drop x.1) x.2.1 x.2.2.2.2.1 x.2.2.2.2.2 = R ∧ x.2.2.1 = x.2.2.2.2.1.length ∧ x.2.2.2.1 = x.2.2.2.2.2.length) (fun x => s.size - x.1) (0, 0, 0, 0, [], []) (renL [0, 1, 0, 0] 2) (by kernel_rfl) ⟨Nat.zero_le _, Nat.zero_le _, Nat.le_refl _, hR.symm, rfl, rfl⟩ ⟨rfl, rfl, rfl, rfl, rfl, trivial⟩ (EmbL.lits [0, 1, 0, 0] rfl rfl rfl rfl .nil (.cons ⟨rfl, .inl rfl⟩ (.cons ⟨rfl, .inl rfl⟩ (.cons ⟨rfl, .roEc⟩ (.cons ⟨rfl, .roEc⟩ .nil))))) ?_
  rintro ⟨i, p, a, b, st, lo⟩ ⟨g1, g2, g3, g4, ga, gb⟩
  dsimp only at g1 g2 g3 g4 ga gb ⊢
  rcases Nat.lt_or_ge i s.size with hi | hi
  rotate_left
  · rw [drop_end hi] at g4
    rw [parseL] at g4
    subst g4
    have hfit : (⟨st, lo⟩ : Wd).Fits := ⟨by show st.length ≤ _; omega, by show lo.length ≤ _; omega⟩
    subst ga; subst gb
    by_cases hp2 : p = 2
    · subst hp2
      conv => whnf
      repeat' first | (refine Gets.of _ rfl ?_; conv => whnf) | (refine seq0_of ?_; conv => whnf) | (refine Fork.noR rfl ?_; conv => whnf) | (refine Fork.dec (fun _ => ?_) (fun _ => ?_) <;> first | (exfalso; omega) | (conv => whnf))
      refine CallS.of (by kernel_rfl) (CallW.argsB (frzA_acc (st := st) (lo := lo) rfl rfl (fun ks => by first | exact .nil | exact .keep .nil)) rfl IsB.plain (fun H' => validR ⟨st, lo⟩ hfit 6 H')) rfl ?_
      rintro _ _ ⟨rfl, hp | hp⟩
      · rw [endW_ok hp]
        conv => whnf
        repeat' first | ((refine Gets.stA rfl rfl rfl rfl (by simp only [List.all_cons, List.all_nil, acc_sc, Bool.and_true]) ?_); conv => whnf) | (refine Gets.of _ rfl ?_; conv => whnf) | (refine seq0_of ?_; conv => whnf)
        exact told_acc rfl rfl
      · rw [endW_bad hp]
        conv => whnf
        repeat' (refine Gets.of _ rfl ?_; conv => whnf)
        exact errT 4
    · rw [endW_no hp2]
      conv => whnf
      repeat' first | (refine Gets.of _ rfl ?_; conv => whnf) | (refine Fork.dec (fun _ => ?_) (fun _ => ?_) <;> first | (exfalso; omega) | (conv => whnf)) | (refine Fork.neI (fun _ => ?_) (fun _ => ?_) <;> first | (exfalso; omega) | (conv => whnf))
      exact errT 4
  · have hc := bts_lt s i
    rw [drop_cons hi] at g4
    generalize hcc : (bts s).getD i 0 = c at hc g4
    have hA : c = 32 → parseL ((bts s).drop (i + 1)) p st lo = R := fun h => by subst h; rw [parse_space] at g4; exact g4
    have hB : c ≠ 32 → ((c = 40 ∧ p = 0) ∨ (c = 41 ∧ p = 1)) → parseL ((bts s).drop (i + 1)) (p + 1) st lo = R := fun h1 h2 => by rw [parse_br h1 h2] at g4; exact g4
    have hD : c ≠ 32 → ¬ ((c = 40 ∧ p = 0) ∨ (c = 41 ∧ p = 1)) → ¬ (48 ≤ c ∧ c ≤ 57 ∧ p < 2) → R = none := fun h1 h2 h3 => by rw [parse_no h1 h2 h3] at g4; exact g4.symm
    conv => whnf
    repeat' first | ((refine Gets.ixStrC rfl hi hcc ?_); conv => whnf) | ((with_reducible refine Gets.addI ?_ ?_ ?_); (· omega); (· omega); conv => whnf) | (refine Gets.of _ rfl ?_; conv => whnf) | (refine Fork.dec (fun _ => ?_) (fun _ => ?_) <;> first | (exfalso; omega) | (conv => whnf))
    all_goals first
      | exact ⟨(i + 1, p, a, b, st, lo), renL [0, 1, 2, 3] 4, ⟨hi, g2, by dsimp only; omega, hA (by omega), ga, gb⟩, by dsimp only; omega, ⟨rfl, rfl, rfl, rfl, rfl, trivial⟩, EmbL.litsN [0, 1, 2, 3] rfl rfl rfl rfl .nil (.cons ⟨rfl, .inl rfl⟩ (.cons ⟨rfl, .acc2 rfl rfl⟩ (.cons ⟨rfl, .accS⟩ (.cons ⟨rfl, .accS⟩ .nil))))⟩
      | exact ⟨(i + 1, p + 1, a, b, st, lo), renL [0, 1, 2, 3] 4, ⟨hi, by dsimp only; omega, by dsimp only; omega, hB (by omega) (by omega), ga, gb⟩, by dsimp only; omega, ⟨rfl, rfl, rfl, rfl, rfl, trivial⟩, EmbL.litsN [0, 1, 2, 3] rfl rfl rfl rfl .nil (.cons ⟨rfl, .inl rfl⟩ (.cons ⟨rfl, .acc2 rfl rfl⟩ (.cons ⟨rfl, .accS⟩ (.cons ⟨rfl, .accS⟩ .nil))))⟩
      | (rw [hD (by omega) (by omega) (by omega)]; exact errT 4)
      | skip
    clear hA hB hD
    have hdig : 48 ≤ c ∧ c ≤ 57 := ⟨by omega, by omega⟩
    have hp2 : p < 2 := by omega
    refine CodeS.loopSK (cuts := []) (σ := Nat × Nat) (fun y => [(0, .str s), (2, .ptr 0 0), (4, .ptr 1 0), (5, .int .i64 (p : Int)), (6, .int .i64 (y.1 : Int)), (8, .int .i64 (y.2 : Int))]) (fun _ => hP st lo a b) (fun y => i ≤ y.1 ∧ y.1 ≤ s.size ∧ y.2 ≤ 1000 ∧ takeNum ((bts s).drop y.1) y.2 = takeNum (c :: (bts s).drop (i + 1)) 0) (fun y => s.size - y.1) (i, 0) (by kernel_rfl) ⟨Nat.le_refl _, g1, Nat.zero_le _, by rw [drop_cons hi, hcc]⟩ ⟨rfl, rfl, rfl, rfl, rfl, rfl, trivial⟩ rfl ?_
    rintro ⟨m, q⟩ ⟨f1, f2, f3, f4⟩
    dsimp only at f1 f2 f3 f4 ⊢
    by_cases hdg : m < s.size ∧ 48 ≤ (bts s).getD m 0 ∧ (bts s).getD m 0 ≤ 57
    · obtain ⟨hm, hd1, hd2⟩ := hdg
      rw [drop_cons hm] at f4
      generalize hdd : (bts s).getD m 0 = d at hd1 hd2 f4
      have e1 : takeNum ((bts s).drop (m + 1)) (min (q * 10 + (d - 48)) 1000) = takeNum (c :: (bts s).drop (i + 1)) 0 := by
        rw [← f4]
        show _ = (if 48 ≤ d ∧ d ≤ 57 then _ else _)
        rw [if_pos ⟨hd1, hd2⟩]
      have e2 := wr8 hd1 hd2
      conv => whnf
      repeat' first | ((refine Gets.ixStrC rfl hm hdd ?_); conv => whnf) | ((refine Gets.addE (c := ((q * 10 + (d - 48) : Nat) : Int)) (by rw [e2]; omega) (by omega) (by omega) ?_); conv => whnf) | ((refine Gets.minN ?_); conv => whnf) | ((with_reducible refine Gets.addI ?_ ?_ ?_); (· omega); (· omega); conv => whnf) | ((with_reducible refine Gets.mulI ?_ ?_ ?_); (· omega); (· omega); conv => whnf) | (refine Gets.of _ rfl ?_; conv => whnf) | (refine Fork.dec (fun _ => ?_) (fun _ => ?_) <;> first | (exfalso; omega) | (conv => whnf))
      exact ⟨(m + 1, min (q * 10 + (d - 48)) 1000), ⟨by dsimp only; omega, hm, Nat.min_le_right _ _, e1⟩, by dsimp only; omega, ⟨rfl, rfl, rfl, rfl, rfl, rfl, trivial⟩, rfl⟩
    · have hex : takeNum ((bts s).drop m) q = (q, (bts s).drop m) := by
        rcases Nat.lt_or_ge m s.size with hm | hm
        · rw [drop_cons hm]
          show (if _ then _ else _) = _
          rw [if_neg (fun h => hdg ⟨hm, h⟩)]
        · rw [drop_end hm]; rfl
      rw [hex] at f4
      have hmi : i < m := by
        rcases Nat.lt_or_ge i m with h | h
        · exact h
        · obtain rfl : m = i := by omega
          exact absurd ⟨hi, by rw [hcc]; exact hdig⟩ hdg
      have hT := parse_num (st := st) (lo := lo) (p := p) hdig hp2 f4.symm
      rw [g4] at hT
      rcases (by omega : p = 0 ∨ p = 1) with rfl | rfl
      · rw [if_pos rfl] at hT
        rcases a with _ | a
        · obtain rfl : st = [] := List.eq_nil_of_length_eq_zero ga.symm
          conv => whnf
          repeat' first | ((refine Gets.ixStr rfl (by omega) ?_); conv => whnf) | ((refine Gets.appNilS (ti := tiI) (n := 1) (xs := ints [(q : Int)]) rfl rfl rfl rfl rfl (by decide) ((src_at (xs := [(q : Int)]) (n := 1) rfl (.inr rfl)).1) (by decide) (by decide) ?_); conv => whnf) | ((refine Gets.stS (ti := tiS) rfl rfl rfl rfl rfl rfl ?_); conv => whnf) | (refine Gets.of _ rfl ?_; conv => whnf) | (refine Fork.yesR rfl ?_; conv => whnf) | (refine Fork.dec (fun _ => ?_) (fun _ => ?_) <;> first | (exfalso; omega) | (conv => whnf))
          all_goals first
            | exact ⟨(m, 0, 1, b, [(q : Int)], lo), renL [0, 1, 5, 3] 6, ⟨f2, by dsimp only; omega, by dsimp only; simp only [List.length_cons, List.length_nil] at g3 ⊢; omega, hT.symm, rfl, gb⟩, by dsimp only; omega, ⟨rfl, rfl, rfl, rfl, rfl, trivial⟩, EmbL.litsN [0, 1, 5, 3] rfl rfl rfl rfl .nil (.cons ⟨rfl, .inl rfl⟩ (.cons ⟨rfl, .acc2 rfl rfl⟩ (.cons ⟨rfl, .cellsIe rfl⟩ (.cons ⟨rfl, .accS⟩ .nil))))⟩
            | (exfalso; exact hdg ⟨by omega, by omega, by omega⟩)
        · conv => whnf
          repeat' first | ((refine Gets.ixStr rfl (by omega) ?_); conv => whnf) | ((refine Gets.appSrc (ti := tiI) (l := st) (xs := [(q : Int)]) (m := a + 1) (n := 1) rfl rfl rfl rfl rfl (by decide) (by omega) ((src_at (xs := [(q : Int)]) (n := 1) rfl (.inr rfl)).1) rfl (by omega) ?_); conv => whnf) | ((refine Gets.stS (ti := tiS) rfl rfl rfl rfl rfl rfl ?_); conv => whnf) | (refine Gets.of _ rfl ?_; conv => whnf) | (refine Fork.yesR rfl ?_; conv => whnf) | (refine Fork.dec (fun _ => ?_) (fun _ => ?_) <;> first | (exfalso; omega) | (conv => whnf))
          all_goals first
            | exact ⟨(m, 0, a + 2, b, st ++ [(q : Int)], lo), renL [0, 1, 5, 3] 6, ⟨f2, by dsimp only; omega, by dsimp only; rw [List.length_append]; simp only [List.length_cons, List.length_nil]; omega, hT.symm, by dsimp only; rw [List.length_append]; simp only [List.length_cons, List.length_nil]; omega, gb⟩, by dsimp only; omega, ⟨rfl, rfl, rfl, rfl, rfl, trivial⟩, EmbL.litsN [0, 1, 5, 3] rfl rfl rfl rfl .nil (.cons ⟨rfl, .inl rfl⟩ (.cons ⟨rfl, .acc2 rfl rfl⟩ (.cons ⟨rfl, .cellsIe (by rw [List.take_of_length_le (by omega)])⟩ (.cons ⟨rfl, .accS⟩ .nil))))⟩
            | (exfalso; exact hdg ⟨by omega, by omega, by omega⟩)
      · rw [if_neg (by decide)] at hT
        rcases b with _ | b
        · obtain rfl : lo = [] := List.eq_nil_of_length_eq_zero gb.symm
          conv => whnf
          repeat' first | ((refine Gets.ixStr rfl (by omega) ?_); conv => whnf) | ((refine Gets.appNilS (ti := tiI) (n := 1) (xs := ints [(q : Int)]) rfl rfl rfl rfl rfl (by decide) ((src_at (xs := [(q : Int)]) (n := 1) rfl (.inr rfl)).1) (by decide) (by decide) ?_); conv => whnf) | ((refine Gets.stS (ti := tiS) rfl rfl rfl rfl rfl rfl ?_); conv => whnf) | (refine Gets.of _ rfl ?_; conv => whnf) | (refine Fork.noR rfl ?_; conv => whnf) | (refine Fork.dec (fun _ => ?_) (fun _ => ?_) <;> first | (exfalso; omega) | (conv => whnf))
          all_goals first
            | exact ⟨(m, 1, a, 1, st, [(q : Int)]), renL [0, 1, 2, 5] 6, ⟨f2, by dsimp only; omega, by dsimp only; simp only [List.length_cons, List.length_nil] at g3 ⊢; omega, hT.symm, ga, rfl⟩, by dsimp only; omega, ⟨rfl, rfl, rfl, rfl, rfl, trivial⟩, EmbL.litsN [0, 1, 2, 5] rfl rfl rfl rfl .nil (.cons ⟨rfl, .inl rfl⟩ (.cons ⟨rfl, .acc2 rfl rfl⟩ (.cons ⟨rfl, .accS⟩ (.cons ⟨rfl, .cellsIe rfl⟩ .nil))))⟩
            | (exfalso; exact hdg ⟨by omega, by omega, by omega⟩)
        · conv => whnf
          repeat' first | ((refine Gets.ixStr rfl (by omega) ?_); conv => whnf) | ((refine Gets.appSrc (ti := tiI) (l := lo) (xs := [(q : Int)]) (m := b + 1) (n := 1) rfl rfl rfl rfl rfl (by decide) (by omega) ((src_at (xs := [(q : Int)]) (n := 1) rfl (.inr rfl)).1) rfl (by omega) ?_); conv => whnf) | ((refine Gets.stS (ti := tiS) rfl rfl rfl rfl rfl rfl ?_); conv => whnf) | (refine Gets.of _ rfl ?_; conv => whnf) | (refine Fork.noR rfl ?_; conv => whnf) | (refine Fork.dec (fun _ => ?_) (fun _ => ?_) <;> first | (exfalso; omega) | (conv => whnf))
          all_goals first
            | exact ⟨(m, 1, a, b + 2, st, lo ++ [(q : Int)]), renL [0, 1, 2, 5] 6, ⟨f2, by dsimp only; omega, by dsimp only; rw [List.length_append]; simp only [List.length_cons, List.length_nil]; omega, hT.symm, ga, by dsimp only; rw [List.length_append]; simp only [List.length_cons, List.length_nil]; omega⟩, by dsimp only; omega, ⟨rfl, rfl, rfl, rfl, rfl, trivial⟩, EmbL.litsN [0, 1, 2, 5] rfl rfl rfl rfl .nil (.cons ⟨rfl, .inl rfl⟩ (.cons ⟨rfl, .acc2 rfl rfl⟩ (.cons ⟨rfl, .accS⟩ (.cons ⟨rfl, .cellsIe (by rw [List.take_of_length_le (by omega)])⟩ .nil))))⟩
            | (exfalso; exact hdg ⟨by omega, by omega, by omega⟩)
theorem parseRr (s : ByteArray) (hs : s.size ≤ 1000000) (H : AHeap) : CallW Tryd.prog 17 [.str s] H fun v H' => H' = H ∧ v = .tuple [(parseW s).1.rv, .int .i64 (parseW s).2] := by
  refine CallW.pure ?_ rfl H
  refine CallW.symK (cuts := []) Tryd.func17 rfl (by kernel_rfl) ?_
  conv => whnf
  repeat' first | (refine Gets.of _ rfl ?_; conv => whnf) | (refine Fork.dec (fun _ => ?_) (fun _ => ?_) <;> first | (exfalso; omega) | (conv => whnf))
  · rw [parseW, if_pos (by omega)]
    exact errT 3
  have e0 : parseW s = endW (parseL (bts s) 0 [] []) := if_neg (by omega)
  rw [e0]
  clear e0
  obtain ⟨R, hR⟩ : ∃ R, R = parseL (bts s) 0 [] [] := ⟨_, rfl⟩
  rw [← hR]
  refine CodeS.loopGK (cuts := []) (σ := Nat × Nat × Nat × Nat × List Int × List Int) (fun x => [(0, .str s), (2, .ptr 0 0), (4, .ptr 1 0), (5, .int .i64 (x.2.1 : Int)), (6, .int .i64 (x.1 : Int))]) (fun x => hP x.2.2.2.2.1 x.2.2.2.2.2 x.2.2.1 x.2.2.2.1) (fun x => x.1 ≤ s.size ∧ x.2.1 ≤ 2 ∧ x.2.2.2.2.1.length + x.2.2.2.2.2.length ≤ x.1 ∧ parseL ((bts s).drop x.1) x.2.1 x.2.2.2.2.1 x.2.2.2.2.2 = R ∧ x.2.2.1 = x.2.2.2.2.1.length ∧ x.2.2.2.1 = x.2.2.2.2.2.length) (fun x => s.size - x.1) (0, 0, 0, 0, [], []) (renL [0, 1, 0, 0] 2) (by kernel_rfl) ⟨Nat.zero_le _, Nat.zero_le _, Nat.le_refl _, hR.symm, rfl, rfl⟩ ⟨rfl, rfl, rfl, rfl, rfl, trivial⟩ (EmbL.lits [0, 1, 0, 0] rfl rfl rfl rfl .nil (.cons ⟨rfl, .inl rfl⟩ (.cons ⟨rfl, .inl rfl⟩ (.cons ⟨rfl, .roEc⟩ (.cons ⟨rfl, .roEc⟩ .nil))))) ?_
  rintro ⟨i, p, a, b, st, lo⟩ ⟨g1, g2, g3, g4, ga, gb⟩
  dsimp only at g1 g2 g3 g4 ga gb ⊢
  rcases Nat.lt_or_ge i s.size with hi | hi
  rotate_left
  · rw [drop_end hi] at g4
    rw [parseL] at g4
    subst g4
    have hfit : (⟨st, lo⟩ : Wd).Fits := ⟨by show st.length ≤ _; omega, by show lo.length ≤ _; omega⟩
    subst ga; subst gb
    by_cases hp2 : p = 2
    · subst hp2
      conv => whnf
      repeat' first | (refine Gets.of _ rfl ?_; conv => whnf) | (refine seq0_of ?_; conv => whnf) | (refine Fork.noR rfl ?_; conv => whnf) | (refine Fork.dec (fun _ => ?_) (fun _ => ?_) <;> first | (exfalso; omega) | (conv => whnf))
      refine CallS.of (by kernel_rfl) (CallW.argsB (frzA_acc (st := st) (lo := lo) rfl rfl (fun ks => by first | exact .nil | exact .keep .nil)) rfl IsB.plain (fun H' => isR ⟨st, lo⟩ hfit H')) rfl ?_
      rintro _ _ ⟨rfl, hp | hp⟩
      · rw [endW_ok hp]
        conv => whnf
        repeat' first | ((refine Gets.stA rfl rfl rfl rfl (by simp only [List.all_cons, List.all_nil, acc_sc, Bool.and_true]) ?_); conv => whnf) | (refine Gets.of _ rfl ?_; conv => whnf) | (refine seq0_of ?_; conv => whnf)
        exact told_acc rfl rfl
      · rw [endW_bad hp]
        conv => whnf
        repeat' (refine Gets.of _ rfl ?_; conv => whnf)
        exact errT 4
    · rw [endW_no hp2]
      conv => whnf
      repeat' first | (refine Gets.of _ rfl ?_; conv => whnf) | (refine Fork.dec (fun _ => ?_) (fun _ => ?_) <;> first | (exfalso; omega) | (conv => whnf)) | (refine Fork.neI (fun _ => ?_) (fun _ => ?_) <;> first | (exfalso; omega) | (conv => whnf))
      exact errT 4
  · have hc := bts_lt s i
    rw [drop_cons hi] at g4
    generalize hcc : (bts s).getD i 0 = c at hc g4
    have hA : c = 32 → parseL ((bts s).drop (i + 1)) p st lo = R := fun h => by subst h; rw [parse_space] at g4; exact g4
    have hB : c ≠ 32 → ((c = 40 ∧ p = 0) ∨ (c = 41 ∧ p = 1)) → parseL ((bts s).drop (i + 1)) (p + 1) st lo = R := fun h1 h2 => by rw [parse_br h1 h2] at g4; exact g4
    have hD : c ≠ 32 → ¬ ((c = 40 ∧ p = 0) ∨ (c = 41 ∧ p = 1)) → ¬ (48 ≤ c ∧ c ≤ 57 ∧ p < 2) → R = none := fun h1 h2 h3 => by rw [parse_no h1 h2 h3] at g4; exact g4.symm
    conv => whnf
    repeat' first | ((refine Gets.ixStrC rfl hi hcc ?_); conv => whnf) | ((with_reducible refine Gets.addI ?_ ?_ ?_); (· omega); (· omega); conv => whnf) | (refine Gets.of _ rfl ?_; conv => whnf) | (refine Fork.dec (fun _ => ?_) (fun _ => ?_) <;> first | (exfalso; omega) | (conv => whnf))
    all_goals first
      | exact ⟨(i + 1, p, a, b, st, lo), renL [0, 1, 2, 3] 4, ⟨hi, g2, by dsimp only; omega, hA (by omega), ga, gb⟩, by dsimp only; omega, ⟨rfl, rfl, rfl, rfl, rfl, trivial⟩, EmbL.litsN [0, 1, 2, 3] rfl rfl rfl rfl .nil (.cons ⟨rfl, .inl rfl⟩ (.cons ⟨rfl, .acc2 rfl rfl⟩ (.cons ⟨rfl, .accS⟩ (.cons ⟨rfl, .accS⟩ .nil))))⟩
      | exact ⟨(i + 1, p + 1, a, b, st, lo), renL [0, 1, 2, 3] 4, ⟨hi, by dsimp only; omega, by dsimp only; omega, hB (by omega) (by omega), ga, gb⟩, by dsimp only; omega, ⟨rfl, rfl, rfl, rfl, rfl, trivial⟩, EmbL.litsN [0, 1, 2, 3] rfl rfl rfl rfl .nil (.cons ⟨rfl, .inl rfl⟩ (.cons ⟨rfl, .acc2 rfl rfl⟩ (.cons ⟨rfl, .accS⟩ (.cons ⟨rfl, .accS⟩ .nil))))⟩
      | (rw [hD (by omega) (by omega) (by omega)]; exact errT 4)
      | skip
    clear hA hB hD
    have hdig : 48 ≤ c ∧ c ≤ 57 := ⟨by omega, by omega⟩
    have hp2 : p < 2 := by omega
    refine CodeS.loopSK (cuts := []) (σ := Nat × Nat) (fun y => [(0, .str s), (2, .ptr 0 0), (4, .ptr 1 0), (5, .int .i64 (p : Int)), (6, .int .i64 (y.1 : Int)), (8, .int .i64 (y.2 : Int))]) (fun _ => hP st lo a b) (fun y => i ≤ y.1 ∧ y.1 ≤ s.size ∧ y.2 ≤ 1000 ∧ takeNum ((bts s).drop y.1) y.2 = takeNum (c :: (bts s).drop (i + 1)) 0) (fun y => s.size - y.1) (i, 0) (by kernel_rfl) ⟨Nat.le_refl _, g1, Nat.zero_le _, by rw [drop_cons hi, hcc]⟩ ⟨rfl, rfl, rfl, rfl, rfl, rfl, trivial⟩ rfl ?_
    rintro ⟨m, q⟩ ⟨f1, f2, f3, f4⟩
    dsimp only at f1 f2 f3 f4 ⊢
    by_cases hdg : m < s.size ∧ 48 ≤ (bts s).getD m 0 ∧ (bts s).getD m 0 ≤ 57
    · obtain ⟨hm, hd1, hd2⟩ := hdg
      rw [drop_cons hm] at f4
      generalize hdd : (bts s).getD m 0 = d at hd1 hd2 f4
      have e1 : takeNum ((bts s).drop (m + 1)) (min (q * 10 + (d - 48)) 1000) = takeNum (c :: (bts s).drop (i + 1)) 0 := by
        rw [← f4]
        show _ = (if 48 ≤ d ∧ d ≤ 57 then _ else _)
        rw [if_pos ⟨hd1, hd2⟩]
      have e2 := wr8 hd1 hd2
      conv => whnf
      repeat' first | ((refine Gets.ixStrC rfl hm hdd ?_); conv => whnf) | ((refine Gets.addE (c := ((q * 10 + (d - 48) : Nat) : Int)) (by rw [e2]; omega) (by omega) (by omega) ?_); conv => whnf) | ((refine Gets.minN ?_); conv => whnf) | ((with_reducible refine Gets.addI ?_ ?_ ?_); (· omega); (· omega); conv => whnf) | ((with_reducible refine Gets.mulI ?_ ?_ ?_); (· omega); (· omega); conv => whnf) | (refine Gets.of _ rfl ?_; conv => whnf) | (refine Fork.dec (fun _ => ?_) (fun _ => ?_) <;> first | (exfalso; omega) | (conv => whnf))
      exact ⟨(m + 1, min (q * 10 + (d - 48)) 1000), ⟨by dsimp only; omega, hm, Nat.min_le_right _ _, e1⟩, by dsimp only; omega, ⟨rfl, rfl, rfl, rfl, rfl, rfl, trivial⟩, rfl⟩
    · have hex : takeNum ((bts s).drop m) q = (q, (bts s).drop m) := by
        rcases Nat.lt_or_ge m s.size with hm | hm
        · rw [drop_cons hm]
          show (if _ then _ else _) = _
          rw [if_neg (fun h => hdg ⟨hm, h⟩)]
        · rw [drop_end hm]; rfl
      rw [hex] at f4
      have hmi : i < m := by
        rcases Nat.lt_or_ge i m with h | h
        · exact h
        · obtain rfl : m = i := by omega
          exact absurd ⟨hi, by rw [hcc]; exact hdig⟩ hdg
      have hT := parse_num (st := st) (lo := lo) (p := p) hdig hp2 f4.symm
      rw [g4] at hT
      rcases (by omega : p = 0 ∨ p = 1) with rfl | rfl
      · rw [if_pos rfl] at hT
        rcases a with _ | a
        · obtain rfl : st = [] := List.eq_nil_of_length_eq_zero ga.symm
          conv => whnf
          repeat' first | ((refine Gets.ixStr rfl (by omega) ?_); conv => whnf) | ((refine Gets.appNilS (ti := tiI) (n := 1) (xs := ints [(q : Int)]) rfl rfl rfl rfl rfl (by decide) ((src_at (xs := [(q : Int)]) (n := 1) rfl (.inr rfl)).1) (by decide) (by decide) ?_); conv => whnf) | ((refine Gets.stS (ti := tiS) rfl rfl rfl rfl rfl rfl ?_); conv => whnf) | (refine Gets.of _ rfl ?_; conv => whnf) | (refine Fork.yesR rfl ?_; conv => whnf) | (refine Fork.dec (fun _ => ?_) (fun _ => ?_) <;> first | (exfalso; omega) | (conv => whnf))
          all_goals first
            | exact ⟨(m, 0, 1, b, [(q : Int)], lo), renL [0, 1, 5, 3] 6, ⟨f2, by dsimp only; omega, by dsimp only; simp only [List.length_cons, List.length_nil] at g3 ⊢; omega, hT.symm, rfl, gb⟩, by dsimp only; omega, ⟨rfl, rfl, rfl, rfl, rfl, trivial⟩, EmbL.litsN [0, 1, 5, 3] rfl rfl rfl rfl .nil (.cons ⟨rfl, .inl rfl⟩ (.cons ⟨rfl, .acc2 rfl rfl⟩ (.cons ⟨rfl, .cellsIe rfl⟩ (.cons ⟨rfl, .accS⟩ .nil))))⟩
            | (exfalso; exact hdg ⟨by omega, by omega, by omega⟩)
        · conv => whnf
          repeat' first | ((refine Gets.ixStr rfl (by omega) ?_); conv => whnf) | ((refine Gets.appSrc (ti := tiI) (l := st) (xs := [(q : Int)]) (m := a + 1) (n := 1) rfl rfl rfl rfl rfl (by decide) (by omega) ((src_at (xs := [(q : Int)]) (n := 1) rfl (.inr rfl)).1) rfl (by omega) ?_); conv => whnf) | ((refine Gets.stS (ti := tiS) rfl rfl rfl rfl rfl rfl ?_); conv => whnf) | (refine Gets.of _ rfl ?_; conv => whnf) | (refine Fork.yesR rfl ?_; conv => whnf) | (refine Fork.dec (fun _ => ?_) (fun _ => ?_) <;> first | (exfalso; omega) | (conv => whnf))
          all_goals first
            | exact ⟨(m, 0, a + 2, b, st ++ [(q : Int)], lo), renL [0, 1, 5, 3] 6, ⟨f2, by dsimp only; omega, by dsimp only; rw [List.length_append]; simp only [List.length_cons, List.length_nil]; omega, hT.symm, by dsimp only; rw [List.length_append]; simp only [List.length_cons, List.length_nil]; omega, gb⟩, by dsimp only; omega, ⟨rfl, rfl, rfl, rfl, rfl, trivial⟩, EmbL.litsN [0, 1, 5, 3] rfl rfl rfl rfl .nil (.cons ⟨rfl, .inl rfl⟩ (.cons ⟨rfl, .acc2 rfl rfl⟩ (.cons ⟨rfl, .cellsIe (by rw [List.take_of_length_le (by omega)])⟩ (.cons ⟨rfl, .accS⟩ .nil))))⟩
            | (exfalso; exact hdg ⟨by omega, by omega, by omega⟩)
      · rw [if_neg (by decide)] at hT
        rcases b with _ | b
        · obtain rfl : lo = [] := List.eq_nil_of_length_eq_zero gb.symm
          conv => whnf
          repeat' first | ((refine Gets.ixStr rfl (by omega) ?_); conv => whnf) | ((refine Gets.appNilS (ti := tiI) (n := 1) (xs := ints [(q : Int)]) rfl rfl rfl rfl rfl (by decide) ((src_at (xs := [(q : Int)]) (n := 1) rfl (.inr rfl)).1) (by decide) (by decide) ?_); conv => whnf) | ((refine Gets.stS (ti := tiS) rfl rfl rfl rfl rfl rfl ?_); conv => whnf) | (refine Gets.of _ rfl ?_; conv => whnf) | (refine Fork.noR rfl ?_; conv => whnf) | (refine Fork.dec (fun _ => ?_) (fun _ => ?_) <;> first | (exfalso; omega) | (conv => whnf))
          all_goals first
            | exact ⟨(m, 1, a, 1, st, [(q : Int)]), renL [0, 1, 2, 5] 6, ⟨f2, by dsimp only; omega, by dsimp only; simp only [List.length_cons, List.length_nil] at g3 ⊢; omega, hT.symm, ga, rfl⟩, by dsimp only; omega, ⟨rfl, rfl, rfl, rfl, rfl, trivial⟩, EmbL.litsN [0, 1, 2, 5] rfl rfl rfl rfl .nil (.cons ⟨rfl, .inl rfl⟩ (.cons ⟨rfl, .acc2 rfl rfl⟩ (.cons ⟨rfl, .accS⟩ (.cons ⟨rfl, .cellsIe rfl⟩ .nil))))⟩
            | (exfalso; exact hdg ⟨by omega, by omega, by omega⟩)
        · conv => whnf
          repeat' first | ((refine Gets.ixStr rfl (by omega) ?_); conv => whnf) | ((refine Gets.appSrc (ti := tiI) (l := lo) (xs := [(q : Int)]) (m := b + 1) (n := 1) rfl rfl rfl rfl rfl (by decide) (by omega) ((src_at (xs := [(q : Int)]) (n := 1) rfl (.inr rfl)).1) rfl (by omega) ?_); conv => whnf) | ((refine Gets.stS (ti := tiS) rfl rfl rfl rfl rfl rfl ?_); conv => whnf) | (refine Gets.of _ rfl ?_; conv => whnf) | (refine Fork.noR rfl ?_; conv => whnf) | (refine Fork.dec (fun _ => ?_) (fun _ => ?_) <;> first | (exfalso; omega) | (conv => whnf))
          all_goals first
            | exact ⟨(m, 1, a, b + 2, st, lo ++ [(q : Int)]), renL [0, 1, 2, 5] 6, ⟨f2, by dsimp only; omega, by dsimp only; rw [List.length_append]; simp only [List.length_cons, List.length_nil]; omega, hT.symm, ga, by dsimp only; rw [List.length_append]; simp only [List.length_cons, List.length_nil]; omega⟩, by dsimp only; omega, ⟨rfl, rfl, rfl, rfl, rfl, trivial⟩, EmbL.litsN [0, 1, 2, 5] rfl rfl rfl rfl .nil (.cons ⟨rfl, .inl rfl⟩ (.cons ⟨rfl, .acc2 rfl rfl⟩ (.cons ⟨rfl, .accS⟩ (.cons ⟨rfl, .cellsIe (by rw [List.take_of_length_le (by omega)])⟩ .nil))))⟩
            | (exfalso; exact hdg ⟨by omega, by omega, by omega⟩)
end Go.Proofs.YthjemhlcojmiaaaDoor
