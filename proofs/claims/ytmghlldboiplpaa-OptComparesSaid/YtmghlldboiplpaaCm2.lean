/- Compare: the reference's and the program's. -/
import Derived.Test.YtmghlldboiplpaaCmp
set_option linter.unusedVariables false
set_option linter.unusedSimpArgs false
set_option maxRecDepth 100000
set_option maxHeartbeats 2000000
namespace Go.Proofs.Ytmghlldboiplpaa
open Go Go.Vh Go.Vk Go.Proofs
theorem roD (d : Cir) (H : AHeap) (hn : Nat.ble 6 H.n = true) (h0 : H.f 3 = .ro 1 (ints d.latch)) (h1 : H.f 4 = .ro 2 (ints (pflat d.gates))) (h2 : H.f 5 = .ro 1 (ints d.out)) :
    AllQ (fun i => Nat.blt (fk [3, 4, 5] H.n i) H.n = true ∧ (d.heap.f i).rwB = false ∧ BSub (fk [3, 4, 5] H.n) (d.heap.f i) (H.f (fk [3, 4, 5] H.n i))) 0 d.heap.n := by
  have hn := Nat.le_of_ble_eq_true hn
  refine .cons ⟨Nat.ble_eq_true_of_le (show 4 ≤ H.n by omega), rfl, ?_⟩ (.cons ⟨Nat.ble_eq_true_of_le (show 5 ≤ H.n by omega), rfl, ?_⟩ (.cons ⟨Nat.ble_eq_true_of_le (show 6 ≤ H.n by omega), rfl, ?_⟩ .nil))
  · show BSub _ _ (H.f 3); rw [h0]; exact .roI
  · show BSub _ _ (H.f 4); rw [h1]; exact .roI
  · show BSub _ _ (H.f 5); rw [h2]; exact .roI
theorem valid13d (d : Cir) (hf : d.Fits) (H : AHeap) (hn : Nat.ble 6 H.n = true) (h0 : H.f 3 = .ro 1 (ints d.latch)) (h1 : H.f 4 = .ro 2 (ints (pflat d.gates))) (h2 : H.f 5 = .ro 1 (ints d.out)) : CallW Try.prog 13 [d.av 3 4 5] H fun v H' => H' = H ∧ IsB v d.Ok :=
  (valid13 d hf).readsL IsB.noRef [3, 4, 5] rfl (roD d H hn h0 h1 h2)
theorem valid28d (d : Cir) (hf : d.Fits) (H : AHeap) (hn : Nat.ble 6 H.n = true) (h0 : H.f 3 = .ro 1 (ints d.latch)) (h1 : H.f 4 = .ro 2 (ints (pflat d.gates))) (h2 : H.f 5 = .ro 1 (ints d.out)) : CallW Try.prog 28 [d.av 3 4 5] H fun v H' => H' = H ∧ IsB v d.Ok :=
  (valid28 d hf).readsL IsB.noRef [3, 4, 5] rfl (roD d H hn h0 h1 h2)
def cmpE (e : Int) : AVal := .tuple [.bool false, .view 0 0 0, .int .i64 e]
def cmpR (r : Option (List Int)) : AVal := .tuple [.bool r.isNone, .view 6 0 (r.getD []).length, .int .i64 0]
def Alike (c d : Cir) : Prop := c.inp = d.inp ∧ c.out.length = d.out.length
/-- What is answered of two circuits. -/
def cmpT (c d : Cir) (v : AVal) (H' : AHeap) : Prop :=
  (¬ (c.Ok ∧ d.Ok) ∧ v = cmpE 1 ∧ H' = c2 c d) ∨ ((c.Ok ∧ d.Ok) ∧ ¬ Alike c d ∧ v = cmpE 2 ∧ H' = c2 c d) ∨ ((c.Ok ∧ d.Ok) ∧ Alike c d ∧ ∃ r, (two c d).IsApart r ∧ v = cmpR r ∧ H' = (c2 c d).alloc (oIB (r.getD [])))
theorem compare17 (c d : Cir) (hf : c.Fits) (hg : d.Fits) (hc : c.Ok → c.latch.length ≤ 12) (hd : d.Ok → d.latch.length ≤ 12) : CallW Try.prog 17 [c.av 0 1 2, d.av 3 4 5] (c2 c d) (cmpT c d) := by
  have f1 := hf.i
  have f2 := hg.i
  have f3 := hf.o
  have f4 := hg.o
  refine CallW.tells ?_
  refine CallW.symRK (cuts := []) Try.func17 rfl (by kernel_rfl) ?_
  conv => whnf
  repeat' first
    | ((with_reducible refine Gets.shrN ?_ ?_); (· omega); conv => whnf)
    | ((with_reducible refine Gets.andOne ?_ ?_); (· first | omega | exact Nat.lt_of_le_of_lt (Nat.shiftRight_le _ _) (by omega)); conv => whnf)
    | ((with_reducible refine Gets.shlN ?_ ?_); (· omega); conv => whnf)
    | ((with_reducible refine Gets.shlI ?_ ?_ ?_); (· omega); (· omega); conv => whnf)
    | ((with_reducible refine Gets.quoI ?_ ?_ ?_ ?_); (· omega); (· omega); (· omega); conv => whnf)
    | ((with_reducible refine Gets.remN ?_ ?_ ?_); (· omega); (· omega); conv => whnf)
    | ((with_reducible refine Fork.bit (fun _ => ?_) (fun _ => ?_)) <;> (conv => whnf))
    | ((with_reducible refine Gets.addI ?_ ?_ ?_); (· omega); (· omega); conv => whnf)
    | ((with_reducible refine Gets.subI ?_ ?_ ?_); (· omega); (· omega); conv => whnf)
    | ((with_reducible refine Gets.mulI ?_ ?_ ?_); (· omega); (· omega); conv => whnf)
    | (refine Gets.of _ rfl ?_; conv => whnf)
    | (refine Gets.ix1v rfl rfl (by omega) ?_; conv => whnf)
    | (refine Gets.ix1 rfl rfl (by omega) ?_; conv => whnf)
    | (refine Gets.ixIv rfl rfl (by omega) (by omega) ?_; conv => whnf)
    | (refine Gets.ixI rfl rfl (by omega) (by omega) ?_; conv => whnf)
    | (refine Gets.ixEv (es := 2) rfl rfl (by omega) ?_; conv => whnf)
    | (refine Gets.ixE (es := 2) rfl rfl (by omega) ?_; conv => whnf)
    | (refine Gets.ldP (ti := tiP) rfl rfl rfl (by first | rfl | assumption) (by first | omega | exact Nat.le_of_ble_eq_true rfl) ?_; conv => whnf)
    | (refine Gets.ldI rfl (by first | rfl | assumption) (by first | omega | exact Nat.le_of_ble_eq_true rfl) ?_; conv => whnf)
    | (refine Gets.ldB rfl (by first | rfl | assumption) (by first | omega | exact Nat.le_of_ble_eq_true rfl) ?_; conv => whnf)
    | (refine Chk.mk (by repeat first | exact .nil | refine .cons rfl ?_) ?_; conv => whnf)
    | (refine Alls.mk ?_ ?_ <;> conv => whnf)
    | (refine seqL1_of ?_; conv => whnf)
    | (refine Fork.dec (fun _ => ?_) (fun _ => ?_) <;> first | (exfalso; omega) | (conv => whnf))
    | (refine Fork.eqI (fun _ => ?_) (fun _ => ?_) <;> first | (exfalso; omega) | (conv => whnf))
    | (refine Fork.neI (fun _ => ?_) (fun _ => ?_) <;> first | (exfalso; omega) | (conv => whnf))
    | (refine Fork.any (fun _ => ?_) (fun _ => ?_) <;> (conv => whnf))
  refine CallS.of (by kernel_rfl) (valid13c c hf _ rfl rfl rfl rfl) rfl ?_
  rintro _ _ ⟨rfl, ho | ho⟩
  all_goals conv => whnf
  all_goals
    repeat' first
      | ((with_reducible refine Gets.shrN ?_ ?_); (· omega); conv => whnf)
      | ((with_reducible refine Gets.andOne ?_ ?_); (· first | omega | exact Nat.lt_of_le_of_lt (Nat.shiftRight_le _ _) (by omega)); conv => whnf)
      | ((with_reducible refine Gets.shlN ?_ ?_); (· omega); conv => whnf)
      | ((with_reducible refine Gets.shlI ?_ ?_ ?_); (· omega); (· omega); conv => whnf)
      | ((with_reducible refine Gets.quoI ?_ ?_ ?_ ?_); (· omega); (· omega); (· omega); conv => whnf)
      | ((with_reducible refine Gets.remN ?_ ?_ ?_); (· omega); (· omega); conv => whnf)
      | ((with_reducible refine Fork.bit (fun _ => ?_) (fun _ => ?_)) <;> (conv => whnf))
      | ((with_reducible refine Gets.addI ?_ ?_ ?_); (· omega); (· omega); conv => whnf)
      | ((with_reducible refine Gets.subI ?_ ?_ ?_); (· omega); (· omega); conv => whnf)
      | ((with_reducible refine Gets.mulI ?_ ?_ ?_); (· omega); (· omega); conv => whnf)
      | (refine Gets.of _ rfl ?_; conv => whnf)
      | (refine Gets.ix1v rfl rfl (by omega) ?_; conv => whnf)
      | (refine Gets.ix1 rfl rfl (by omega) ?_; conv => whnf)
      | (refine Gets.ixIv rfl rfl (by omega) (by omega) ?_; conv => whnf)
      | (refine Gets.ixI rfl rfl (by omega) (by omega) ?_; conv => whnf)
      | (refine Gets.ixEv (es := 2) rfl rfl (by omega) ?_; conv => whnf)
      | (refine Gets.ixE (es := 2) rfl rfl (by omega) ?_; conv => whnf)
      | (refine Gets.ldP (ti := tiP) rfl rfl rfl (by first | rfl | assumption) (by first | omega | exact Nat.le_of_ble_eq_true rfl) ?_; conv => whnf)
      | (refine Gets.ldI rfl (by first | rfl | assumption) (by first | omega | exact Nat.le_of_ble_eq_true rfl) ?_; conv => whnf)
      | (refine Gets.ldB rfl (by first | rfl | assumption) (by first | omega | exact Nat.le_of_ble_eq_true rfl) ?_; conv => whnf)
      | (refine Chk.mk (by repeat first | exact .nil | refine .cons rfl ?_) ?_; conv => whnf)
      | (refine Alls.mk ?_ ?_ <;> conv => whnf)
      | (refine seqL1_of ?_; conv => whnf)
      | (refine Fork.dec (fun _ => ?_) (fun _ => ?_) <;> first | (exfalso; omega) | (conv => whnf))
      | (refine Fork.eqI (fun _ => ?_) (fun _ => ?_) <;> first | (exfalso; omega) | (conv => whnf))
      | (refine Fork.neI (fun _ => ?_) (fun _ => ?_) <;> first | (exfalso; omega) | (conv => whnf))
      | (refine Fork.any (fun _ => ?_) (fun _ => ?_) <;> (conv => whnf))
  · refine CallS.of (by kernel_rfl) (valid13d d hg _ rfl rfl rfl rfl) rfl ?_
    rintro _ _ ⟨rfl, hq | hq⟩
    all_goals conv => whnf
    all_goals
      repeat' first
        | ((with_reducible refine Gets.shrN ?_ ?_); (· omega); conv => whnf)
        | ((with_reducible refine Gets.andOne ?_ ?_); (· first | omega | exact Nat.lt_of_le_of_lt (Nat.shiftRight_le _ _) (by omega)); conv => whnf)
        | ((with_reducible refine Gets.shlN ?_ ?_); (· omega); conv => whnf)
        | ((with_reducible refine Gets.shlI ?_ ?_ ?_); (· omega); (· omega); conv => whnf)
        | ((with_reducible refine Gets.quoI ?_ ?_ ?_ ?_); (· omega); (· omega); (· omega); conv => whnf)
        | ((with_reducible refine Gets.remN ?_ ?_ ?_); (· omega); (· omega); conv => whnf)
        | ((with_reducible refine Fork.bit (fun _ => ?_) (fun _ => ?_)) <;> (conv => whnf))
        | ((with_reducible refine Gets.addI ?_ ?_ ?_); (· omega); (· omega); conv => whnf)
        | ((with_reducible refine Gets.subI ?_ ?_ ?_); (· omega); (· omega); conv => whnf)
        | ((with_reducible refine Gets.mulI ?_ ?_ ?_); (· omega); (· omega); conv => whnf)
        | (refine Gets.of _ rfl ?_; conv => whnf)
        | (refine Gets.ix1v rfl rfl (by omega) ?_; conv => whnf)
        | (refine Gets.ix1 rfl rfl (by omega) ?_; conv => whnf)
        | (refine Gets.ixIv rfl rfl (by omega) (by omega) ?_; conv => whnf)
        | (refine Gets.ixI rfl rfl (by omega) (by omega) ?_; conv => whnf)
        | (refine Gets.ixEv (es := 2) rfl rfl (by omega) ?_; conv => whnf)
        | (refine Gets.ixE (es := 2) rfl rfl (by omega) ?_; conv => whnf)
        | (refine Gets.ldP (ti := tiP) rfl rfl rfl (by first | rfl | assumption) (by first | omega | exact Nat.le_of_ble_eq_true rfl) ?_; conv => whnf)
        | (refine Gets.ldI rfl (by first | rfl | assumption) (by first | omega | exact Nat.le_of_ble_eq_true rfl) ?_; conv => whnf)
        | (refine Gets.ldB rfl (by first | rfl | assumption) (by first | omega | exact Nat.le_of_ble_eq_true rfl) ?_; conv => whnf)
        | (refine Chk.mk (by repeat first | exact .nil | refine .cons rfl ?_) ?_; conv => whnf)
        | (refine Alls.mk ?_ ?_ <;> conv => whnf)
        | (refine seqL1_of ?_; conv => whnf)
        | (refine Fork.dec (fun _ => ?_) (fun _ => ?_) <;> first | (exfalso; omega) | (conv => whnf))
        | (refine Fork.eqI (fun _ => ?_) (fun _ => ?_) <;> first | (exfalso; omega) | (conv => whnf))
        | (refine Fork.neI (fun _ => ?_) (fun _ => ?_) <;> first | (exfalso; omega) | (conv => whnf))
        | (refine Fork.any (fun _ => ?_) (fun _ => ?_) <;> (conv => whnf))
    · rename_i h1
      exact ⟨renL [0, 1, 2, 3, 4, 5] 8, .tuple [.bool false, .nilSlice, .int .i64 2], c2 c d, EmbL.litsN [0, 1, 2, 3, 4, 5] rfl rfl rfl rfl (.cons ⟨rfl, .inl ⟨rfl, fun h => h⟩⟩ (.cons ⟨rfl, .inl ⟨rfl, fun h => h⟩⟩ (.cons ⟨rfl, .inl ⟨rfl, fun h => h⟩⟩ (.cons ⟨rfl, .inl ⟨rfl, fun h => h⟩⟩ (.cons ⟨rfl, .inl ⟨rfl, fun h => h⟩⟩ (.cons ⟨rfl, .inl ⟨rfl, fun h => h⟩⟩ .nil)))))) (.cons ⟨rfl, .roI⟩ (.cons ⟨rfl, .roI⟩ (.cons ⟨rfl, .roI⟩ (.cons ⟨rfl, .roI⟩ (.cons ⟨rfl, .roI⟩ (.cons ⟨rfl, .roI⟩ .nil)))))), rfl, cmpE 2, .inr (.inl ⟨⟨ho, hq⟩, fun h => h1 h.1, rfl, rfl⟩), Tells.tup (.cons (Tells.refl _ _) (.cons (AsView.tells (.inr (.inr ⟨rfl, rfl, Nat.le_of_ble_eq_true rfl⟩))) (.cons (Tells.refl _ _) .nil)))⟩
    · rename_i h1 h2
      exact ⟨renL [0, 1, 2, 3, 4, 5] 8, .tuple [.bool false, .nilSlice, .int .i64 2], c2 c d, EmbL.litsN [0, 1, 2, 3, 4, 5] rfl rfl rfl rfl (.cons ⟨rfl, .inl ⟨rfl, fun h => h⟩⟩ (.cons ⟨rfl, .inl ⟨rfl, fun h => h⟩⟩ (.cons ⟨rfl, .inl ⟨rfl, fun h => h⟩⟩ (.cons ⟨rfl, .inl ⟨rfl, fun h => h⟩⟩ (.cons ⟨rfl, .inl ⟨rfl, fun h => h⟩⟩ (.cons ⟨rfl, .inl ⟨rfl, fun h => h⟩⟩ .nil)))))) (.cons ⟨rfl, .roI⟩ (.cons ⟨rfl, .roI⟩ (.cons ⟨rfl, .roI⟩ (.cons ⟨rfl, .roI⟩ (.cons ⟨rfl, .roI⟩ (.cons ⟨rfl, .roI⟩ .nil)))))), rfl, cmpE 2, .inr (.inl ⟨⟨ho, hq⟩, fun h => h2 (by have := h.2; omega), rfl, rfl⟩), Tells.tup (.cons (Tells.refl _ _) (.cons (AsView.tells (.inr (.inr ⟨rfl, rfl, Nat.le_of_ble_eq_true rfl⟩))) (.cons (Tells.refl _ _) .nil)))⟩
    · rename_i h1 h2
      refine CallS.of (by kernel_rfl) ((apart35 c d ho hq (hc ho) (hd hq)).frameQ [0, 1, 2, 3, 4, 5] rfl (.cons ⟨rfl, .roI⟩ (.cons ⟨rfl, .roI⟩ (.cons ⟨rfl, .roI⟩ (.cons ⟨rfl, .roI⟩ (.cons ⟨rfl, .roI⟩ (.cons ⟨rfl, .roI⟩ .nil)))))) ?_) rfl ?_
      · rintro _ _ ⟨r, hr, rfl, rfl⟩
        repeat first | exact .nil | refine .cons (by first | exact .inr rfl | exact .inl rfl | exact .inr (fresh_oI _)) ?_
      rintro _ _ ⟨_, _, ⟨r, hr, rfl, rfl⟩, rfl, rfl⟩
      have hal : Alike c d := ⟨h1, by omega⟩
      rcases r with _ | r
      · conv => whnf
        repeat' first
          | ((with_reducible refine Gets.shrN ?_ ?_); (· omega); conv => whnf)
          | ((with_reducible refine Gets.andOne ?_ ?_); (· first | omega | exact Nat.lt_of_le_of_lt (Nat.shiftRight_le _ _) (by omega)); conv => whnf)
          | ((with_reducible refine Gets.shlN ?_ ?_); (· omega); conv => whnf)
          | ((with_reducible refine Gets.shlI ?_ ?_ ?_); (· omega); (· omega); conv => whnf)
          | ((with_reducible refine Gets.quoI ?_ ?_ ?_ ?_); (· omega); (· omega); (· omega); conv => whnf)
          | ((with_reducible refine Gets.remN ?_ ?_ ?_); (· omega); (· omega); conv => whnf)
          | ((with_reducible refine Fork.bit (fun _ => ?_) (fun _ => ?_)) <;> (conv => whnf))
          | ((with_reducible refine Gets.addI ?_ ?_ ?_); (· omega); (· omega); conv => whnf)
          | ((with_reducible refine Gets.subI ?_ ?_ ?_); (· omega); (· omega); conv => whnf)
          | ((with_reducible refine Gets.mulI ?_ ?_ ?_); (· omega); (· omega); conv => whnf)
          | (refine Gets.of _ rfl ?_; conv => whnf)
          | (refine Gets.ix1v rfl rfl (by omega) ?_; conv => whnf)
          | (refine Gets.ix1 rfl rfl (by omega) ?_; conv => whnf)
          | (refine Gets.ixIv rfl rfl (by omega) (by omega) ?_; conv => whnf)
          | (refine Gets.ixI rfl rfl (by omega) (by omega) ?_; conv => whnf)
          | (refine Gets.ixEv (es := 2) rfl rfl (by omega) ?_; conv => whnf)
          | (refine Gets.ixE (es := 2) rfl rfl (by omega) ?_; conv => whnf)
          | (refine Gets.ldP (ti := tiP) rfl rfl rfl (by first | rfl | assumption) (by first | omega | exact Nat.le_of_ble_eq_true rfl) ?_; conv => whnf)
          | (refine Gets.ldI rfl (by first | rfl | assumption) (by first | omega | exact Nat.le_of_ble_eq_true rfl) ?_; conv => whnf)
          | (refine Gets.ldB rfl (by first | rfl | assumption) (by first | omega | exact Nat.le_of_ble_eq_true rfl) ?_; conv => whnf)
          | (refine Chk.mk (by repeat first | exact .nil | refine .cons rfl ?_) ?_; conv => whnf)
          | (refine Alls.mk ?_ ?_ <;> conv => whnf)
          | (refine seqL1_of ?_; conv => whnf)
          | (refine Fork.dec (fun _ => ?_) (fun _ => ?_) <;> first | (exfalso; omega) | (conv => whnf))
          | (refine Fork.eqI (fun _ => ?_) (fun _ => ?_) <;> first | (exfalso; omega) | (conv => whnf))
          | (refine Fork.neI (fun _ => ?_) (fun _ => ?_) <;> first | (exfalso; omega) | (conv => whnf))
          | (refine Fork.any (fun _ => ?_) (fun _ => ?_) <;> (conv => whnf))
        exact ⟨renL [0, 1, 2, 3, 4, 5, 8] 9, .tuple [.bool true, oI 6 [], .int .i64 0], (c2 c d).alloc (oIB []), EmbL.litsN [0, 1, 2, 3, 4, 5, 8] rfl rfl rfl rfl (.cons ⟨rfl, .inl ⟨rfl, fun h => h⟩⟩ (.cons ⟨rfl, .inl ⟨rfl, fun h => h⟩⟩ (.cons ⟨rfl, .inl ⟨rfl, fun h => h⟩⟩ (.cons ⟨rfl, .inl ⟨rfl, fun h => h⟩⟩ (.cons ⟨rfl, .inl ⟨rfl, fun h => h⟩⟩ (.cons ⟨rfl, .inl ⟨rfl, fun h => h⟩⟩ .nil)))))) (.cons ⟨rfl, .roI⟩ (.cons ⟨rfl, .roI⟩ (.cons ⟨rfl, .roI⟩ (.cons ⟨rfl, .roI⟩ (.cons ⟨rfl, .roI⟩ (.cons ⟨rfl, .roI⟩ (.cons ⟨rfl, .gone⟩ .nil))))))), rfl, cmpR none, .inr (.inr ⟨⟨ho, hq⟩, hal, none, hr, rfl, rfl⟩), Tells.tup (.cons (Tells.refl _ _) (.cons (oI_view [] (Nat.le_of_ble_eq_true rfl)).tells (.cons (Tells.refl _ _) .nil)))⟩
      · obtain ⟨y, r', rfl⟩ : ∃ y r', r = y :: r' := by
          obtain ⟨k, i, _, _, _, e⟩ := hr
          cases r with
          | nil => simp at e
          | cons y r' => exact ⟨y, r', rfl⟩
        conv => whnf
        repeat' first
          | ((with_reducible refine Gets.shrN ?_ ?_); (· omega); conv => whnf)
          | ((with_reducible refine Gets.andOne ?_ ?_); (· first | omega | exact Nat.lt_of_le_of_lt (Nat.shiftRight_le _ _) (by omega)); conv => whnf)
          | ((with_reducible refine Gets.shlN ?_ ?_); (· omega); conv => whnf)
          | ((with_reducible refine Gets.shlI ?_ ?_ ?_); (· omega); (· omega); conv => whnf)
          | ((with_reducible refine Gets.quoI ?_ ?_ ?_ ?_); (· omega); (· omega); (· omega); conv => whnf)
          | ((with_reducible refine Gets.remN ?_ ?_ ?_); (· omega); (· omega); conv => whnf)
          | ((with_reducible refine Fork.bit (fun _ => ?_) (fun _ => ?_)) <;> (conv => whnf))
          | ((with_reducible refine Gets.addI ?_ ?_ ?_); (· omega); (· omega); conv => whnf)
          | ((with_reducible refine Gets.subI ?_ ?_ ?_); (· omega); (· omega); conv => whnf)
          | ((with_reducible refine Gets.mulI ?_ ?_ ?_); (· omega); (· omega); conv => whnf)
          | (refine Gets.of _ rfl ?_; conv => whnf)
          | (refine Gets.ix1v rfl rfl (by omega) ?_; conv => whnf)
          | (refine Gets.ix1 rfl rfl (by omega) ?_; conv => whnf)
          | (refine Gets.ixIv rfl rfl (by omega) (by omega) ?_; conv => whnf)
          | (refine Gets.ixI rfl rfl (by omega) (by omega) ?_; conv => whnf)
          | (refine Gets.ixEv (es := 2) rfl rfl (by omega) ?_; conv => whnf)
          | (refine Gets.ixE (es := 2) rfl rfl (by omega) ?_; conv => whnf)
          | (refine Gets.ldP (ti := tiP) rfl rfl rfl (by first | rfl | assumption) (by first | omega | exact Nat.le_of_ble_eq_true rfl) ?_; conv => whnf)
          | (refine Gets.ldI rfl (by first | rfl | assumption) (by first | omega | exact Nat.le_of_ble_eq_true rfl) ?_; conv => whnf)
          | (refine Gets.ldB rfl (by first | rfl | assumption) (by first | omega | exact Nat.le_of_ble_eq_true rfl) ?_; conv => whnf)
          | (refine Chk.mk (by repeat first | exact .nil | refine .cons rfl ?_) ?_; conv => whnf)
          | (refine Alls.mk ?_ ?_ <;> conv => whnf)
          | (refine seqL1_of ?_; conv => whnf)
          | (refine Fork.dec (fun _ => ?_) (fun _ => ?_) <;> first | (exfalso; omega) | (conv => whnf))
          | (refine Fork.eqI (fun _ => ?_) (fun _ => ?_) <;> first | (exfalso; omega) | (conv => whnf))
          | (refine Fork.neI (fun _ => ?_) (fun _ => ?_) <;> first | (exfalso; omega) | (conv => whnf))
          | (refine Fork.any (fun _ => ?_) (fun _ => ?_) <;> (conv => whnf))
        exact ⟨renL [0, 1, 2, 3, 4, 5, 8] 9, .tuple [.bool false, oI 6 (y :: r'), .int .i64 0], (c2 c d).alloc (oIB (y :: r')), EmbL.litsN [0, 1, 2, 3, 4, 5, 8] rfl rfl rfl rfl (.cons ⟨rfl, .inl ⟨rfl, fun h => h⟩⟩ (.cons ⟨rfl, .inl ⟨rfl, fun h => h⟩⟩ (.cons ⟨rfl, .inl ⟨rfl, fun h => h⟩⟩ (.cons ⟨rfl, .inl ⟨rfl, fun h => h⟩⟩ (.cons ⟨rfl, .inl ⟨rfl, fun h => h⟩⟩ (.cons ⟨rfl, .inl ⟨rfl, fun h => h⟩⟩ .nil)))))) (.cons ⟨rfl, .roI⟩ (.cons ⟨rfl, .roI⟩ (.cons ⟨rfl, .roI⟩ (.cons ⟨rfl, .roI⟩ (.cons ⟨rfl, .roI⟩ (.cons ⟨rfl, .roI⟩ (.cons ⟨rfl, .cellsIr⟩ .nil))))))), rfl, cmpR (some (y :: r')), .inr (.inr ⟨⟨ho, hq⟩, hal, some (y :: r'), hr, rfl, rfl⟩), Tells.tup (.cons (Tells.refl _ _) (.cons (oI_view (y :: r') (Nat.le_of_ble_eq_true rfl)).tells (.cons (Tells.refl _ _) .nil)))⟩
    · exact ⟨renL [0, 1, 2, 3, 4, 5] 8, .tuple [.bool false, .nilSlice, .int .i64 1], c2 c d, EmbL.litsN [0, 1, 2, 3, 4, 5] rfl rfl rfl rfl (.cons ⟨rfl, .inl ⟨rfl, fun h => h⟩⟩ (.cons ⟨rfl, .inl ⟨rfl, fun h => h⟩⟩ (.cons ⟨rfl, .inl ⟨rfl, fun h => h⟩⟩ (.cons ⟨rfl, .inl ⟨rfl, fun h => h⟩⟩ (.cons ⟨rfl, .inl ⟨rfl, fun h => h⟩⟩ (.cons ⟨rfl, .inl ⟨rfl, fun h => h⟩⟩ .nil)))))) (.cons ⟨rfl, .roI⟩ (.cons ⟨rfl, .roI⟩ (.cons ⟨rfl, .roI⟩ (.cons ⟨rfl, .roI⟩ (.cons ⟨rfl, .roI⟩ (.cons ⟨rfl, .roI⟩ .nil)))))), rfl, cmpE 1, .inl ⟨fun h => hq h.2, rfl, rfl⟩, Tells.tup (.cons (Tells.refl _ _) (.cons (AsView.tells (.inr (.inr ⟨rfl, rfl, Nat.le_of_ble_eq_true rfl⟩))) (.cons (Tells.refl _ _) .nil)))⟩
  · exact ⟨renL [0, 1, 2, 3, 4, 5] 8, .tuple [.bool false, .nilSlice, .int .i64 1], c2 c d, EmbL.litsN [0, 1, 2, 3, 4, 5] rfl rfl rfl rfl (.cons ⟨rfl, .inl ⟨rfl, fun h => h⟩⟩ (.cons ⟨rfl, .inl ⟨rfl, fun h => h⟩⟩ (.cons ⟨rfl, .inl ⟨rfl, fun h => h⟩⟩ (.cons ⟨rfl, .inl ⟨rfl, fun h => h⟩⟩ (.cons ⟨rfl, .inl ⟨rfl, fun h => h⟩⟩ (.cons ⟨rfl, .inl ⟨rfl, fun h => h⟩⟩ .nil)))))) (.cons ⟨rfl, .roI⟩ (.cons ⟨rfl, .roI⟩ (.cons ⟨rfl, .roI⟩ (.cons ⟨rfl, .roI⟩ (.cons ⟨rfl, .roI⟩ (.cons ⟨rfl, .roI⟩ .nil)))))), rfl, cmpE 1, .inl ⟨fun h => ho h.1, rfl, rfl⟩, Tells.tup (.cons (Tells.refl _ _) (.cons (AsView.tells (.inr (.inr ⟨rfl, rfl, Nat.le_of_ble_eq_true rfl⟩))) (.cons (Tells.refl _ _) .nil)))⟩
theorem stepperG (c : Cir) (i j k : Nat) (H : AHeap) : CallW Try.prog 37 [c.av i j k] H fun v H' => v = .func 61 [] [.ptr H.n 0, .ptr (H.n + 1) 0] ∧ H' = (H.alloc (.cells 1 [.int .i64 c.inp, .view i 0 c.latch.length, .view j 0 c.gates.length, .view k 0 c.out.length])).alloc (.cells 1 [.nilSlice]) := by
  refine CallW.symK (cuts := []) Try.func37 rfl (by kernel_rfl) ?_
  conv => whnf
  repeat' first
    | ((with_reducible refine Gets.shrN ?_ ?_); (· omega); conv => whnf)
    | ((with_reducible refine Gets.andOne ?_ ?_); (· first | omega | exact Nat.lt_of_le_of_lt (Nat.shiftRight_le _ _) (by omega)); conv => whnf)
    | ((with_reducible refine Gets.shlN ?_ ?_); (· omega); conv => whnf)
    | ((with_reducible refine Gets.shlI ?_ ?_ ?_); (· omega); (· omega); conv => whnf)
    | ((with_reducible refine Gets.quoI ?_ ?_ ?_ ?_); (· omega); (· omega); (· omega); conv => whnf)
    | ((with_reducible refine Gets.remN ?_ ?_ ?_); (· omega); (· omega); conv => whnf)
    | ((with_reducible refine Fork.bit (fun _ => ?_) (fun _ => ?_)) <;> (conv => whnf))
    | ((with_reducible refine Gets.addI ?_ ?_ ?_); (· omega); (· omega); conv => whnf)
    | ((with_reducible refine Gets.subI ?_ ?_ ?_); (· omega); (· omega); conv => whnf)
    | ((with_reducible refine Gets.mulI ?_ ?_ ?_); (· omega); (· omega); conv => whnf)
    | (refine Gets.of _ rfl ?_; conv => whnf)
    | (refine Gets.ix1v rfl rfl (by omega) ?_; conv => whnf)
    | (refine Gets.ix1 rfl rfl (by omega) ?_; conv => whnf)
    | (refine Gets.ixIv rfl rfl (by omega) (by omega) ?_; conv => whnf)
    | (refine Gets.ixI rfl rfl (by omega) (by omega) ?_; conv => whnf)
    | (refine Gets.ixEv (es := 2) rfl rfl (by omega) ?_; conv => whnf)
    | (refine Gets.ixE (es := 2) rfl rfl (by omega) ?_; conv => whnf)
    | (refine Gets.ldP (ti := tiP) rfl rfl rfl (by first | rfl | assumption) (by first | omega | exact Nat.le_of_ble_eq_true rfl) ?_; conv => whnf)
    | (refine Gets.ldI rfl (by first | rfl | assumption) (by first | omega | exact Nat.le_of_ble_eq_true rfl) ?_; conv => whnf)
    | (refine Gets.ldB rfl (by first | rfl | assumption) (by first | omega | exact Nat.le_of_ble_eq_true rfl) ?_; conv => whnf)
    | (refine Chk.mk (by repeat first | exact .nil | refine .cons rfl ?_) ?_; conv => whnf)
    | (refine Alls.mk ?_ ?_ <;> conv => whnf)
    | (refine seqL1_of ?_; conv => whnf)
    | (refine Fork.dec (fun _ => ?_) (fun _ => ?_) <;> first | (exfalso; omega) | (conv => whnf))
    | (refine Fork.eqI (fun _ => ?_) (fun _ => ?_) <;> first | (exfalso; omega) | (conv => whnf))
    | (refine Fork.neI (fun _ => ?_) (fun _ => ?_) <;> first | (exfalso; omega) | (conv => whnf))
    | (refine Fork.any (fun _ => ?_) (fun _ => ?_) <;> (conv => whnf))
  exact ⟨rfl, rfl⟩
theorem wayG (i : Nat) (H : AHeap) : CallW Try.prog 38 [.ptr i 0] H fun v H' => v = .func 64 [] [.ptr H.n 0] ∧ H' = H.alloc (.cells 1 [.ptr i 0]) := by
  refine CallW.symK (cuts := []) Try.func38 rfl (by kernel_rfl) ?_
  conv => whnf
  repeat' first
    | ((with_reducible refine Gets.shrN ?_ ?_); (· omega); conv => whnf)
    | ((with_reducible refine Gets.andOne ?_ ?_); (· first | omega | exact Nat.lt_of_le_of_lt (Nat.shiftRight_le _ _) (by omega)); conv => whnf)
    | ((with_reducible refine Gets.shlN ?_ ?_); (· omega); conv => whnf)
    | ((with_reducible refine Gets.shlI ?_ ?_ ?_); (· omega); (· omega); conv => whnf)
    | ((with_reducible refine Gets.quoI ?_ ?_ ?_ ?_); (· omega); (· omega); (· omega); conv => whnf)
    | ((with_reducible refine Gets.remN ?_ ?_ ?_); (· omega); (· omega); conv => whnf)
    | ((with_reducible refine Fork.bit (fun _ => ?_) (fun _ => ?_)) <;> (conv => whnf))
    | ((with_reducible refine Gets.addI ?_ ?_ ?_); (· omega); (· omega); conv => whnf)
    | ((with_reducible refine Gets.subI ?_ ?_ ?_); (· omega); (· omega); conv => whnf)
    | ((with_reducible refine Gets.mulI ?_ ?_ ?_); (· omega); (· omega); conv => whnf)
    | (refine Gets.of _ rfl ?_; conv => whnf)
    | (refine Gets.ix1v rfl rfl (by omega) ?_; conv => whnf)
    | (refine Gets.ix1 rfl rfl (by omega) ?_; conv => whnf)
    | (refine Gets.ixIv rfl rfl (by omega) (by omega) ?_; conv => whnf)
    | (refine Gets.ixI rfl rfl (by omega) (by omega) ?_; conv => whnf)
    | (refine Gets.ixEv (es := 2) rfl rfl (by omega) ?_; conv => whnf)
    | (refine Gets.ixE (es := 2) rfl rfl (by omega) ?_; conv => whnf)
    | (refine Gets.ldP (ti := tiP) rfl rfl rfl (by first | rfl | assumption) (by first | omega | exact Nat.le_of_ble_eq_true rfl) ?_; conv => whnf)
    | (refine Gets.ldI rfl (by first | rfl | assumption) (by first | omega | exact Nat.le_of_ble_eq_true rfl) ?_; conv => whnf)
    | (refine Gets.ldB rfl (by first | rfl | assumption) (by first | omega | exact Nat.le_of_ble_eq_true rfl) ?_; conv => whnf)
    | (refine Chk.mk (by repeat first | exact .nil | refine .cons rfl ?_) ?_; conv => whnf)
    | (refine Alls.mk ?_ ?_ <;> conv => whnf)
    | (refine seqL1_of ?_; conv => whnf)
    | (refine Fork.dec (fun _ => ?_) (fun _ => ?_) <;> first | (exfalso; omega) | (conv => whnf))
    | (refine Fork.eqI (fun _ => ?_) (fun _ => ?_) <;> first | (exfalso; omega) | (conv => whnf))
    | (refine Fork.neI (fun _ => ?_) (fun _ => ?_) <;> first | (exfalso; omega) | (conv => whnf))
    | (refine Fork.any (fun _ => ?_) (fun _ => ?_) <;> (conv => whnf))
  exact ⟨rfl, rfl⟩
def regOf (n : Nat) : Code → Option Code
  | .region k ops m => if Nat.beq k n = true then some (.region k ops m) else none
  | .seq a b => match regOf n a with
    | some r => some r
    | none => regOf n b
  | .block _ c => regOf n c
  | _ => none
noncomputable def rg5 : Code := (Try.f16.body.bind (regOf 5)).getD .skip
noncomputable def rg6 : Code := (Try.f16.body.bind (regOf 6)).getD .skip
def cutK (n0 : Nat) (el : List (Nat × AVal)) (G : AHeap) (K : Exit → Env → AHeap → Prop) : Exit → Env → AHeap → Prop := fun x e H => match x with
  | .normal => ∃ κ, keepsR κ el e ∧ EmbL n0 κ G H
  | x => K x e H
theorem CodeS.cutR {P : Program} {N n0 : Nat} {ρ : Option Nat} (cuts : List Nat) (el : List (Nat × AVal)) (G : AHeap) {a b : Code} {e : Env} {H : AHeap} {K : Exit → Env → AHeap → Prop} (hok : okCode N b = true)
    (h1 : CodeS P N ρ n0 a e H (cutK n0 el G K)) (h2 : sc P N ρ n0 cuts b (envOf el) G K) : CodeS P N ρ n0 (.seq a b) e H K := by
  refine ⟨CWF.seq (h1.code.mono ?_)⟩
  intro x e' H' hx
  cases x with
  | normal =>
    obtain ⟨κ, hk, hE⟩ := hx
    exact CWF.gcL hE (keepsR_spec _ hk) (sc_sound b _ _ _ hok h2)
  | _ => exact hx
/-- Code that goes on from a memory of one's own choice. -/
theorem CodeS.canon {P : Program} {N n0 : Nat} {ρ : Option Nat} (cuts : List Nat) (el : List (Nat × AVal)) (G : AHeap) (κ : Nat → Nat) {c : Code} {e : Env} {H : AHeap} {K : Exit → Env → AHeap → Prop} (hok : okCode N c = true) (hk : keepsR κ el e) (hE : EmbL n0 κ G H)
    (h : sc P N ρ n0 cuts c (envOf el) G K) : CodeS P N ρ n0 c e H K := ⟨CWF.gcL hE (keepsR_spec _ hk) (sc_sound c _ _ _ hok h)⟩
/-- Before the steppers. -/
noncomputable def w4 (c d : Cir) : AHeap := ⟨11, fun i => match i with
  | 6 => c.box | 7 => d.boxD | 8 => .cells 1 [.bool false] | 9 => .cells 1 [.nilSlice] | 10 => .cells 1 [.int .i64 0]
  | i => (c2 c d).f i, fun _ => 0⟩
/-- After the steppers. -/
noncomputable def w5 (c d : Cir) : AHeap := ⟨17, fun i => match i with
  | 6 => c.box | 7 => d.boxD | 8 => .cells 1 [.bool false] | 9 => .cells 1 [.nilSlice] | 10 => .cells 1 [.int .i64 0] | 11 => c.box | 12 => .cells 1 [.nilSlice] | 13 => d.boxD | 14 => .cells 1 [.nilSlice]
  | 15 => .cells 1 [.func 61 [] [.ptr 11 0, .ptr 12 0]] | 16 => .cells 1 [.func 61 [] [.ptr 13 0, .ptr 14 0]]
  | i => (c2 c d).f i, fun _ => 0⟩
/-- After the first pair. -/
noncomputable def w6 (c d : Cir) : AHeap := ⟨21, fun i => match i with
  | 17 => .cells 4 (ints (qflat [⟨0, 0, -1, 0⟩])) | 18 => .map (mapOf kvNN (setOf [(0, 0)])) | 19 => .cells 1 [.slice 17 0 1] | 20 => .cells 1 [.map 18]
  | i => (w5 c d).f i, fun _ => 0⟩
def el4 : List (Nat × AVal) := [(2, .ptr 6 0), (3, .ptr 7 0), (4, .ptr 8 0), (5, .ptr 9 0), (6, .ptr 10 0)]
def el5 : List (Nat × AVal) := [(2, .ptr 6 0), (4, .ptr 8 0), (5, .ptr 9 0), (6, .ptr 10 0), (7, .ptr 15 0), (8, .ptr 16 0)]
def el6 : List (Nat × AVal) := [(2, .ptr 6 0), (4, .ptr 8 0), (5, .ptr 9 0), (6, .ptr 10 0), (7, .ptr 15 0), (8, .ptr 16 0), (9, .ptr 19 0), (10, .ptr 20 0)]
end Go.Proofs.Ytmghlldboiplpaa
