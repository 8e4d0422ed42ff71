/- Rows made of rows: Clone, Grow, Concat. -/
import Derived.Test.YtaccmanpanpbiaaJf
-- VkG VkH
set_option linter.unusedVariables false
set_option linter.unusedSimpArgs false
set_option maxRecDepth 100000
set_option maxHeartbeats 1000000
namespace Go.Proofs.Ytaccmanpanpbiaa
open Go Go.Vh Go.Vk Go.Proofs
theorem vB_ne {l : List Int} (h : 0 < l.length) : vB l = .cells 1 (ints l) := by
  cases l with
  | nil => simp at h
  | cons x l => rfl
theorem vB_or (l : List Int) : ∃ cs, vB l = .ro 1 cs ∨ vB l = .cells 1 cs := by
  cases l with
  | nil => exact ⟨_, .inl rfl⟩
  | cons x l => exact ⟨_, .inr rfl⟩
theorem Gets.sliceHiW {P : Program} {H : AHeap} {t e : TypeId} {ti : TI} {i n k : Nat} {A : AVal → Prop} (hu : P.underlying t = some (.slice e)) (ht : sliceT P t = some ti) (hsz : ti.size = 1) (hf : ∃ cs, H.f i = .ro 1 cs ∨ H.f i = .cells 1 cs) (hk : k ≤ n) (hA : A (.view i 0 k)) : Gets (asliceV P H t (.view i 0 n) none (some (.int .i64 (k : Int)))) A := by
  refine ⟨⟨_, ?_, hA⟩⟩
  obtain ⟨cs, hf | hf⟩ := hf
  all_goals
    simp only [asliceV, aslice, hu, ht, boundA, hf]
    rw [if_pos ⟨by omega, by omega, by omega, hsz.symm⟩]
    simp
theorem Gets.sliceLoW {P : Program} {H : AHeap} {t e : TypeId} {ti : TI} {i n k : Nat} {A : AVal → Prop} (hu : P.underlying t = some (.slice e)) (ht : sliceT P t = some ti) (hsz : ti.size = 1) (hf : ∃ cs, H.f i = .ro 1 cs ∨ H.f i = .cells 1 cs) (hk : k ≤ n) (hA : A (.view i k (n - k))) : Gets (asliceV P H t (.view i 0 n) (some (.int .i64 (k : Int))) none) A := by
  refine ⟨⟨_, ?_, hA⟩⟩
  obtain ⟨cs, hf | hf⟩ := hf
  all_goals
    simp only [asliceV, aslice, hu, ht, boundA, hf]
    rw [if_pos ⟨by omega, by omega, by omega, hsz.symm⟩]
    simp [hsz]
theorem _root_.Go.Vh.BSub.roCs {κ : Nat → Nat} {es : Nat} {cs cs' : List AVal} (h : cs' = rens κ cs) : BSub κ (.ro es cs) (.cells es cs') := by subst h; exact .inr (.inr ⟨es, cs, rfl, rfl⟩)
theorem clone47t (l : List Int) (k p : Nat) (hp : k + p ≤ l.length) (hl : p ≤ 4294967296) : CallW Try.prog 143 [.view 0 k p] (emptyH.alloc (.ro 1 (ints l))) fun v H' => v = .view 1 0 p ∧ H' = (emptyH.alloc (.ro 1 (ints l))).alloc (vB ((l.drop k).take p)) := by
  have hlen : 0 + p = p := Nat.zero_add _
  refine CallW.tells (CallW.nilOrK ?_ fun h0 => ?_)
  · refine CallW.symRK (cuts := []) Try.func143 rfl (by kernel_rfl) ?_
    conv => whnf
    repeat' (refine Fork.noR rfl ?_; conv => whnf)
    all_goals first | (rename_i h; exact absurd h (by decide)) | skip
    refine Gets.appSrc (ti := tiI) (l := []) (xs := (l.drop k).take p) (m := 0) (n := p) rfl rfl rfl rfl rfl (by decide) (Nat.le_refl _) (src_part hp (.inl rfl)).1 rfl (by omega) ?_
    rw [hlen]
    conv => whnf
    skip
    exact ⟨renL [0, 2] 3, .slice 1 0 p, (emptyH.alloc (.ro 1 (ints l))).alloc (vB ((l.drop k).take p)), EmbL.litsN [0, 2] rfl rfl rfl rfl (.cons ⟨rfl, .inl ⟨rfl, fun h => h⟩⟩ .nil) (.cons ⟨rfl, .roI⟩ (.cons ⟨rfl, .vC rfl⟩ .nil)), rfl, .view 1 0 p, ⟨rfl, rfl⟩, Tells.sliceView⟩
  · subst h0
    refine CallW.symRK (cuts := []) Try.func143 rfl (by kernel_rfl) ?_
    conv => whnf
    repeat' (refine Fork.yesR rfl ?_; conv => whnf)
    all_goals first | (rename_i h; exact absurd h (by decide)) | skip
    cases l with
    | nil => exact ⟨renL [0, 0] 1, .nilSlice, (emptyH.alloc (.ro 1 (ints []))).alloc (vB []), EmbL.lits [0, 0] rfl rfl rfl rfl (.cons ⟨rfl, .inl ⟨rfl, fun h => h⟩⟩ .nil) (.cons ⟨rfl, .roI⟩ (.cons ⟨rfl, .roE⟩ .nil)), rfl, .view 1 0 0, ⟨rfl, rfl⟩, Tells.nilView (by rfl)⟩
    | cons x l => exact ⟨renL [0, 0] 1, .nilSlice, (emptyH.alloc (.ro 1 (ints (x :: l)))).alloc (vB []), EmbL.lits [0, 0] rfl rfl rfl rfl (.cons ⟨rfl, .inl ⟨rfl, fun h => h⟩⟩ .nil) (.cons ⟨rfl, .roI⟩ (.cons ⟨rfl, .roE⟩ .nil)), rfl, .view 1 0 0, ⟨rfl, rfl⟩, Tells.nilView (by rfl)⟩
theorem clone47a (l : List Int) (k p : Nat) (hp : k + p ≤ l.length) (hl : p ≤ 4294967296) {H : AHeap} {i : Nat} (hi : At H 1 (ints l) i) : CallW Try.prog 143 [.view i k p] H fun v H' => v = .view H.n 0 p ∧ H' = H.alloc (vB ((l.drop k).take p)) := by
  refine (CallW.allocsAt (K := fun v bs => v = .view 1 0 p ∧ bs = [vB ((l.drop k).take p)]) ((clone47t l k p hp hl).mono ?_) [i] rfl (.cons ⟨_, _, rfl, hi⟩ .nil)).mono ?_
  · rintro _ _ ⟨rfl, rfl⟩; exact ⟨[vB ((l.drop k).take p)], rfl, by simp [vB_fresh], rfl, rfl⟩
  · rintro _ _ ⟨_, _, ⟨rfl, rfl⟩, rfl, rfl⟩
    exact ⟨rfl, by show H.alloc (renB _ (vB _)) = _; rw [renB_vB]⟩
theorem grow59 (n : Int) (h0 : 0 < n) (h1 : n ≤ 4294967296) : CallW Try.prog 171 [.nilSlice, .int .i64 n] emptyH fun v H' => v = .slice 0 0 0 ∧ H' = emptyH.alloc (.cells 1 (ints (List.replicate n.toNat 0))) := by
  refine CallW.symRK (cuts := []) Try.func171 rfl (by kernel_rfl) ?_
  conv => whnf
  repeat' first | ((refine Gets.appZ (ti := tiI) rfl rfl rfl rfl (by decide) (by omega) (by omega) ?_); conv => whnf) | ((refine Gets.sliceHi (k := 0) rfl rfl rfl rfl (Nat.zero_le _) ?_); conv => whnf) | ((with_reducible refine Gets.subI ?_ ?_ ?_); (· omega); (· omega); conv => whnf) | (refine Gets.of _ rfl ?_; conv => whnf) | (refine Fork.dec (fun _ => ?_) (fun _ => ?_) <;> first | (exfalso; omega) | (conv => whnf))
  rw [show n - (0 - 0) = n by omega]
  exact ⟨renL [0] 1, .slice 0 0 0, _, EmbL.litsN [0] rfl rfl rfl rfl .nil (.cons ⟨rfl, .cellsI⟩ .nil), rfl, rfl, rfl⟩
def cc3 (l m : List Int) : AHeap := (emptyH.alloc (.ro 1 (ints l))).alloc (.ro 1 (ints m))
def HconcatS (l m : List Int) (o1 n1 o2 n2 : Nat) : AHeap := (cc3 l m).alloc (.ro 1 [.slice 0 o1 n1, .slice 1 o2 n2])
theorem concatS (l m : List Int) (o1 n1 o2 n2 : Nat) (h1 : o1 + n1 ≤ l.length) (h2 : o2 + n2 ≤ m.length) (h0 : 0 < n1 + n2) (hl : n1 + n2 ≤ 4294967296) : CallW Try.prog 119 [.slice 2 0 2] (HconcatS l m o1 n1 o2 n2) fun v H' => v = .slice 3 0 (n1 + n2) ∧ H' = (HconcatS l m o1 n1 o2 n2).alloc (.cells 1 (ints ((l.drop o1).take n1 ++ (m.drop o2).take n2))) := by
  refine CallW.symRK (cuts := []) Try.func119 rfl (by kernel_rfl) ?_
  conv => whnf
  repeat' (refine Gets.of _ rfl ?_; conv => whnf)
  refine CodeS.loopSK (cuts := []) (σ := Nat × Nat) (fun p => [(0, .slice 2 0 2), (3, .int .i64 (p.2 : Int)), (9, .slice 2 0 2), (10, .int .i64 2), (11, .int .i64 (p.1 : Int))]) (fun _ => HconcatS l m o1 n1 o2 n2) (fun p => (p.1 = 0 ∧ p.2 = 0) ∨ (p.1 = 1 ∧ p.2 = n1) ∨ (p.1 = 2 ∧ p.2 = n1 + n2)) (fun p => 2 - p.1) (0, 0) (by kernel_rfl) (.inl ⟨rfl, rfl⟩) ⟨rfl, rfl, rfl, rfl, rfl, trivial⟩ rfl ?_
  rintro ⟨j, s⟩ hj
  dsimp only at hj
  rcases hj with ⟨rfl, rfl⟩ | ⟨rfl, rfl⟩ | ⟨rfl, rfl⟩
  · conv => whnf
    repeat' first | ((with_reducible refine Gets.addI ?_ ?_ ?_); (· omega); (· omega); conv => whnf) | (refine Gets.of _ rfl ?_; conv => whnf) | (refine Fork.yesR rfl ?_; conv => whnf) | (refine Fork.noR rfl ?_; conv => whnf)
    exact ⟨(1, n1), .inr (.inl ⟨rfl, rfl⟩), (by show 2 - 1 < 2 - 0; decide), ⟨rfl, (by show AVal.int .i64 (((0:Nat):Int) + (n1:Int)) = AVal.int .i64 ((n1:Nat):Int); congr 1; omega), rfl, rfl, rfl, trivial⟩, rfl⟩
  · conv => whnf
    repeat' first | ((with_reducible refine Gets.addI ?_ ?_ ?_); (· omega); (· omega); conv => whnf) | (refine Gets.of _ rfl ?_; conv => whnf) | (refine Fork.yesR rfl ?_; conv => whnf) | (refine Fork.noR rfl ?_; conv => whnf)
    exact ⟨(2, s + n2), .inr (.inr ⟨rfl, rfl⟩), (by show 2 - 2 < 2 - 1; decide), ⟨rfl, (by show AVal.int .i64 (((s:Nat):Int) + (n2:Int)) = AVal.int .i64 ((s + n2:Nat):Int); congr 1), rfl, rfl, rfl, trivial⟩, rfl⟩
  · conv => whnf
    repeat' (refine Fork.noR rfl ?_; conv => whnf)
    refine CallS.of (by kernel_rfl) ((grow59 ((n1 + n2 : Nat) : Int) (by omega) (by omega)).frameQ [] rfl .nil (by rintro _ _ ⟨rfl, rfl⟩; repeat first | exact .nil | refine .cons (by first | exact .inr rfl | exact .inl rfl | exact .inr (fresh_oN _) | exact .inr (fresh_oP _) | exact .inr (fresh_oI _)) ?_)) rfl ?_
    rintro _ _ ⟨_, _, ⟨rfl, rfl⟩, rfl, rfl⟩
    rw [show ((n1 + n2 : Nat) : Int).toNat = n1 + n2 from rfl]
    conv => whnf
    repeat' (refine Gets.of _ rfl ?_; conv => whnf)
    refine CodeS.loopGK (cuts := []) (σ := Nat × Nat × List Int) (fun p => [(6, .slice 3 0 p.2.1), (25, .slice 2 0 2), (26, .int .i64 2), (27, .int .i64 (p.1 : Int))]) (fun p => (HconcatS l m o1 n1 o2 n2).alloc (.cells 1 (ints p.2.2))) (fun p => (p.1 = 0 ∧ p.2.1 = 0 ∧ p.2.2 = List.replicate (n1 + n2) 0) ∨ (p.1 = 1 ∧ p.2.1 = n1 ∧ p.2.2 = (l.drop o1).take n1) ∨ (p.1 = 2 ∧ p.2.1 = n1 + n2 ∧ p.2.2 = (l.drop o1).take n1 ++ (m.drop o2).take n2)) (fun p => 2 - p.1) (0, 0, List.replicate (n1 + n2) 0) (renL [0, 1, 2, 3] 4) (by kernel_rfl) (.inl ⟨rfl, rfl, rfl⟩) ⟨rfl, rfl, rfl, rfl, trivial⟩ (EmbL.litsN [0, 1, 2, 3] rfl rfl rfl rfl (.cons ⟨rfl, .inl ⟨rfl, fun h => h⟩⟩ (.cons ⟨rfl, .inl ⟨rfl, fun h => h⟩⟩ (.cons ⟨rfl, .inl ⟨rfl, fun h => h⟩⟩ .nil))) (.cons ⟨rfl, .roI⟩ (.cons ⟨rfl, .roI⟩ (.cons ⟨rfl, .inl rfl⟩ (.cons ⟨rfl, .cellsIr⟩ .nil))))) ?_
    rintro ⟨j, s, b⟩ hj
    dsimp only at hj
    rcases hj with ⟨rfl, rfl, rfl⟩ | ⟨rfl, rfl, rfl⟩ | ⟨rfl, rfl, rfl⟩
    · conv => whnf
      repeat' first | (refine Gets.of _ rfl ?_; conv => whnf) | (refine Fork.yesR rfl ?_; conv => whnf)
      refine Gets.appSrc (ti := tiI) (l := List.replicate (n1 + n2) 0) (xs := (l.drop o1).take n1) (m := 0) (n := n1) rfl rfl rfl rfl rfl (by decide) (Nat.zero_le _) (src_part h1 (.inl rfl)).1 rfl (by omega) ?_
      rw [show (List.replicate (n1 + n2) (0 : Int)).take 0 ++ (l.drop o1).take n1 = (l.drop o1).take n1 from rfl, show 0 + n1 = n1 from Nat.zero_add _]
      conv => whnf
      repeat' ((with_reducible refine Gets.addI ?_ ?_ ?_); (· omega); (· omega); conv => whnf)
      exact ⟨(1, n1, _), renL [0, 1, 2, 4] 5, .inr (.inl ⟨rfl, rfl, rfl⟩), (by show 2 - 1 < 2 - 0; decide), ⟨rfl, rfl, rfl, rfl, trivial⟩, EmbL.litsN [0, 1, 2, 4] rfl rfl rfl rfl (.cons ⟨rfl, .inl ⟨rfl, fun h => h⟩⟩ (.cons ⟨rfl, .inl ⟨rfl, fun h => h⟩⟩ (.cons ⟨rfl, .inl ⟨rfl, fun h => h⟩⟩ .nil))) (.cons ⟨rfl, .roI⟩ (.cons ⟨rfl, .roI⟩ (.cons ⟨rfl, .inl rfl⟩ (.cons ⟨rfl, .cellsI⟩ .nil))))⟩
    · conv => whnf
      repeat' first | (refine Gets.of _ rfl ?_; conv => whnf) | (refine Fork.yesR rfl ?_; conv => whnf)
      refine Gets.appSrc (ti := tiI) (l := (l.drop o1).take s) (xs := (m.drop o2).take n2) (m := s) (n := n2) rfl rfl rfl rfl rfl (by decide) (by rw [List.length_take, List.length_drop]; omega) (src_part h2 (.inl rfl)).1 rfl (by omega) ?_
      rw [show ((l.drop o1).take s).take s = (l.drop o1).take s by rw [List.take_take, Nat.min_self]]
      conv => whnf
      repeat' ((with_reducible refine Gets.addI ?_ ?_ ?_); (· omega); (· omega); conv => whnf)
      exact ⟨(2, s + n2, _), renL [0, 1, 2, 4] 5, .inr (.inr ⟨rfl, rfl, rfl⟩), (by show 2 - 2 < 2 - 1; decide), ⟨rfl, rfl, rfl, rfl, trivial⟩, EmbL.litsN [0, 1, 2, 4] rfl rfl rfl rfl (.cons ⟨rfl, .inl ⟨rfl, fun h => h⟩⟩ (.cons ⟨rfl, .inl ⟨rfl, fun h => h⟩⟩ (.cons ⟨rfl, .inl ⟨rfl, fun h => h⟩⟩ .nil))) (.cons ⟨rfl, .roI⟩ (.cons ⟨rfl, .roI⟩ (.cons ⟨rfl, .inl rfl⟩ (.cons ⟨rfl, .cellsI⟩ .nil))))⟩
    · conv => whnf
      repeat' (refine Fork.noR rfl ?_; conv => whnf)
      exact ⟨renL [0, 1, 2, 3] 4, .slice 3 0 (n1 + n2), _, EmbL.litsN [0, 1, 2, 3] rfl rfl rfl rfl (.cons ⟨rfl, .inl ⟨rfl, fun h => h⟩⟩ (.cons ⟨rfl, .inl ⟨rfl, fun h => h⟩⟩ (.cons ⟨rfl, .inl ⟨rfl, fun h => h⟩⟩ .nil))) (.cons ⟨rfl, .roI⟩ (.cons ⟨rfl, .roI⟩ (.cons ⟨rfl, .inl rfl⟩ (.cons ⟨rfl, .cellsI⟩ .nil)))), rfl, rfl, rfl⟩
def HconcatV (l m : List Int) (o1 n1 o2 n2 : Nat) : AHeap := (cc3 l m).alloc (.ro 1 [.view 0 o1 n1, .view 1 o2 n2])
theorem concatV (l m : List Int) (o1 n1 o2 n2 : Nat) (h1 : o1 + n1 ≤ l.length) (h2 : o2 + n2 ≤ m.length) (h0 : 0 < n1 + n2) (hl : n1 + n2 ≤ 4294967296) : CallW Try.prog 119 [.slice 2 0 2] (HconcatV l m o1 n1 o2 n2) fun v H' => v = .slice 3 0 (n1 + n2) ∧ H' = (HconcatV l m o1 n1 o2 n2).alloc (.cells 1 (ints ((l.drop o1).take n1 ++ (m.drop o2).take n2))) := by
  refine CallW.symRK (cuts := []) Try.func119 rfl (by kernel_rfl) ?_
  conv => whnf
  repeat' (refine Gets.of _ rfl ?_; conv => whnf)
  refine CodeS.loopSK (cuts := []) (σ := Nat × Nat) (fun p => [(0, .slice 2 0 2), (3, .int .i64 (p.2 : Int)), (9, .slice 2 0 2), (10, .int .i64 2), (11, .int .i64 (p.1 : Int))]) (fun _ => HconcatV l m o1 n1 o2 n2) (fun p => (p.1 = 0 ∧ p.2 = 0) ∨ (p.1 = 1 ∧ p.2 = n1) ∨ (p.1 = 2 ∧ p.2 = n1 + n2)) (fun p => 2 - p.1) (0, 0) (by kernel_rfl) (.inl ⟨rfl, rfl⟩) ⟨rfl, rfl, rfl, rfl, rfl, trivial⟩ rfl ?_
  rintro ⟨j, s⟩ hj
  dsimp only at hj
  rcases hj with ⟨rfl, rfl⟩ | ⟨rfl, rfl⟩ | ⟨rfl, rfl⟩
  · conv => whnf
    repeat' first | ((with_reducible refine Gets.addI ?_ ?_ ?_); (· omega); (· omega); conv => whnf) | (refine Gets.of _ rfl ?_; conv => whnf) | (refine Fork.yesR rfl ?_; conv => whnf) | (refine Fork.noR rfl ?_; conv => whnf)
    exact ⟨(1, n1), .inr (.inl ⟨rfl, rfl⟩), (by show 2 - 1 < 2 - 0; decide), ⟨rfl, (by show AVal.int .i64 (((0:Nat):Int) + (n1:Int)) = AVal.int .i64 ((n1:Nat):Int); congr 1; omega), rfl, rfl, rfl, trivial⟩, rfl⟩
  · conv => whnf
    repeat' first | ((with_reducible refine Gets.addI ?_ ?_ ?_); (· omega); (· omega); conv => whnf) | (refine Gets.of _ rfl ?_; conv => whnf) | (refine Fork.yesR rfl ?_; conv => whnf) | (refine Fork.noR rfl ?_; conv => whnf)
    exact ⟨(2, s + n2), .inr (.inr ⟨rfl, rfl⟩), (by show 2 - 2 < 2 - 1; decide), ⟨rfl, (by show AVal.int .i64 (((s:Nat):Int) + (n2:Int)) = AVal.int .i64 ((s + n2:Nat):Int); congr 1), rfl, rfl, rfl, trivial⟩, rfl⟩
  · conv => whnf
    repeat' (refine Fork.noR rfl ?_; conv => whnf)
    refine CallS.of (by kernel_rfl) ((grow59 ((n1 + n2 : Nat) : Int) (by omega) (by omega)).frameQ [] rfl .nil (by rintro _ _ ⟨rfl, rfl⟩; repeat first | exact .nil | refine .cons (by first | exact .inr rfl | exact .inl rfl | exact .inr (fresh_oN _) | exact .inr (fresh_oP _) | exact .inr (fresh_oI _)) ?_)) rfl ?_
    rintro _ _ ⟨_, _, ⟨rfl, rfl⟩, rfl, rfl⟩
    rw [show ((n1 + n2 : Nat) : Int).toNat = n1 + n2 from rfl]
    conv => whnf
    repeat' (refine Gets.of _ rfl ?_; conv => whnf)
    refine CodeS.loopGK (cuts := []) (σ := Nat × Nat × List Int) (fun p => [(6, .slice 3 0 p.2.1), (25, .slice 2 0 2), (26, .int .i64 2), (27, .int .i64 (p.1 : Int))]) (fun p => (HconcatV l m o1 n1 o2 n2).alloc (.cells 1 (ints p.2.2))) (fun p => (p.1 = 0 ∧ p.2.1 = 0 ∧ p.2.2 = List.replicate (n1 + n2) 0) ∨ (p.1 = 1 ∧ p.2.1 = n1 ∧ p.2.2 = (l.drop o1).take n1) ∨ (p.1 = 2 ∧ p.2.1 = n1 + n2 ∧ p.2.2 = (l.drop o1).take n1 ++ (m.drop o2).take n2)) (fun p => 2 - p.1) (0, 0, List.replicate (n1 + n2) 0) (renL [0, 1, 2, 3] 4) (by kernel_rfl) (.inl ⟨rfl, rfl, rfl⟩) ⟨rfl, rfl, rfl, rfl, trivial⟩ (EmbL.litsN [0, 1, 2, 3] rfl rfl rfl rfl (.cons ⟨rfl, .inl ⟨rfl, fun h => h⟩⟩ (.cons ⟨rfl, .inl ⟨rfl, fun h => h⟩⟩ (.cons ⟨rfl, .inl ⟨rfl, fun h => h⟩⟩ .nil))) (.cons ⟨rfl, .roI⟩ (.cons ⟨rfl, .roI⟩ (.cons ⟨rfl, .inl rfl⟩ (.cons ⟨rfl, .cellsIr⟩ .nil))))) ?_
    rintro ⟨j, s, b⟩ hj
    dsimp only at hj
    rcases hj with ⟨rfl, rfl, rfl⟩ | ⟨rfl, rfl, rfl⟩ | ⟨rfl, rfl, rfl⟩
    · conv => whnf
      repeat' first | (refine Gets.of _ rfl ?_; conv => whnf) | (refine Fork.yesR rfl ?_; conv => whnf)
      refine Gets.appSrc (ti := tiI) (l := List.replicate (n1 + n2) 0) (xs := (l.drop o1).take n1) (m := 0) (n := n1) rfl rfl rfl rfl rfl (by decide) (Nat.zero_le _) (src_part h1 (.inl rfl)).2 rfl (by omega) ?_
      rw [show (List.replicate (n1 + n2) (0 : Int)).take 0 ++ (l.drop o1).take n1 = (l.drop o1).take n1 from rfl, show 0 + n1 = n1 from Nat.zero_add _]
      conv => whnf
      repeat' ((with_reducible refine Gets.addI ?_ ?_ ?_); (· omega); (· omega); conv => whnf)
      exact ⟨(1, n1, _), renL [0, 1, 2, 4] 5, .inr (.inl ⟨rfl, rfl, rfl⟩), (by show 2 - 1 < 2 - 0; decide), ⟨rfl, rfl, rfl, rfl, trivial⟩, EmbL.litsN [0, 1, 2, 4] rfl rfl rfl rfl (.cons ⟨rfl, .inl ⟨rfl, fun h => h⟩⟩ (.cons ⟨rfl, .inl ⟨rfl, fun h => h⟩⟩ (.cons ⟨rfl, .inl ⟨rfl, fun h => h⟩⟩ .nil))) (.cons ⟨rfl, .roI⟩ (.cons ⟨rfl, .roI⟩ (.cons ⟨rfl, .inl rfl⟩ (.cons ⟨rfl, .cellsI⟩ .nil))))⟩
    · conv => whnf
      repeat' first | (refine Gets.of _ rfl ?_; conv => whnf) | (refine Fork.yesR rfl ?_; conv => whnf)
      refine Gets.appSrc (ti := tiI) (l := (l.drop o1).take s) (xs := (m.drop o2).take n2) (m := s) (n := n2) rfl rfl rfl rfl rfl (by decide) (by rw [List.length_take, List.length_drop]; omega) (src_part h2 (.inl rfl)).2 rfl (by omega) ?_
      rw [show ((l.drop o1).take s).take s = (l.drop o1).take s by rw [List.take_take, Nat.min_self]]
      conv => whnf
      repeat' ((with_reducible refine Gets.addI ?_ ?_ ?_); (· omega); (· omega); conv => whnf)
      exact ⟨(2, s + n2, _), renL [0, 1, 2, 4] 5, .inr (.inr ⟨rfl, rfl, rfl⟩), (by show 2 - 2 < 2 - 1; decide), ⟨rfl, rfl, rfl, rfl, trivial⟩, EmbL.litsN [0, 1, 2, 4] rfl rfl rfl rfl (.cons ⟨rfl, .inl ⟨rfl, fun h => h⟩⟩ (.cons ⟨rfl, .inl ⟨rfl, fun h => h⟩⟩ (.cons ⟨rfl, .inl ⟨rfl, fun h => h⟩⟩ .nil))) (.cons ⟨rfl, .roI⟩ (.cons ⟨rfl, .roI⟩ (.cons ⟨rfl, .inl rfl⟩ (.cons ⟨rfl, .cellsI⟩ .nil))))⟩
    · conv => whnf
      repeat' (refine Fork.noR rfl ?_; conv => whnf)
      exact ⟨renL [0, 1, 2, 3] 4, .slice 3 0 (n1 + n2), _, EmbL.litsN [0, 1, 2, 3] rfl rfl rfl rfl (.cons ⟨rfl, .inl ⟨rfl, fun h => h⟩⟩ (.cons ⟨rfl, .inl ⟨rfl, fun h => h⟩⟩ (.cons ⟨rfl, .inl ⟨rfl, fun h => h⟩⟩ .nil))) (.cons ⟨rfl, .roI⟩ (.cons ⟨rfl, .roI⟩ (.cons ⟨rfl, .inl rfl⟩ (.cons ⟨rfl, .cellsI⟩ .nil)))), rfl, rfl, rfl⟩
end Go.Proofs.Ytaccmanpanpbiaa

/- The period of a row. -/
-- VkG VkH
set_option linter.unusedVariables false
set_option linter.unusedSimpArgs false
set_option maxRecDepth 100000
set_option maxHeartbeats 1000000
namespace Go.Proofs.Ytaccmanpanpbiaa
open Go Go.Vh Go.Vk Go.Proofs
theorem isPer_self {l : List Int} (hl : 0 < l.length) (h : ∀ q, 0 < q → q < l.length → ¬ Pd l q) : IsPer l l.length := ⟨hl, Nat.le_refl _, pd_self l, h⟩
theorem period57 (l : List Int) (h0 : 0 < l.length) (hl : l.length ≤ 4294967296) : CallW Try.prog 203 [.view 0 0 l.length] (emptyH.alloc (.ro 1 (ints l))) fun v _ => v = .int .i64 (per l : Int) := by
  refine CallW.symK (cuts := []) Try.func203 rfl (by kernel_rfl) ?_
  conv => whnf
  skip
  refine CodeS.scope0 (cuts := []) (by kernel_rfl) ?_
  conv => whnf
  skip
  refine CodeS.loopSK (cuts := []) (σ := Nat) (fun p => [(0, .view 0 0 l.length), (3, .int .i64 (p : Int))]) (fun _ => emptyH.alloc (.ro 1 (ints l))) (fun p => 0 < p ∧ p ≤ l.length ∧ ∀ q, 0 < q → q < p → ¬ Pd l q) (fun p => l.length - p) 1 (by kernel_rfl) ⟨by decide, h0, fun q h1 h2 => by omega⟩ ⟨rfl, rfl, trivial⟩ rfl ?_
  rintro p ⟨g1, g2, g3⟩
  conv => whnf
  repeat' first | ((with_reducible refine Gets.remN ?_ ?_ ?_); (· omega); (· omega); conv => whnf) | ((with_reducible refine Gets.addI ?_ ?_ ?_); (· omega); (· omega); conv => whnf) | (refine Gets.of _ rfl ?_; conv => whnf) | (refine Fork.dec (fun _ => ?_) (fun _ => ?_) <;> first | (exfalso; omega) | (conv => whnf)) | (refine Fork.neI (fun _ => ?_) (fun _ => ?_) <;> first | (exfalso; omega) | (conv => whnf))
  · rename_i hm
    have e : (l.length : Int) % (p : Int) = ((l.length % p : Nat) : Int) := rfl
    exact ⟨p + 1, ⟨by omega, by omega, fun q h1 h2 => by
      rcases Nat.lt_or_ge q p with a | a
      · exact g3 q h1 a
      · rw [show q = p by omega]; intro h; exact hm (by rw [e, h.1]; rfl)⟩, by omega, ⟨rfl, rfl, trivial⟩, rfl⟩
  · rename_i hm
    have e : (l.length : Int) % (p : Int) = ((l.length % p : Nat) : Int) := rfl
    have hm' : l.length % p = 0 := by rw [e] at hm; omega
    refine CodeS.loopSK (cuts := []) (σ := Nat) (fun j => [(0, .view 0 0 l.length), (3, .int .i64 (p : Int)), (4, .int .i64 (j : Int))]) (fun _ => emptyH.alloc (.ro 1 (ints l))) (fun j => p ≤ j ∧ j ≤ l.length ∧ ∀ i, p ≤ i → i < j → l.getD i 0 = l.getD (i - p) 0) (fun j => l.length - j) p (by kernel_rfl) ⟨Nat.le_refl _, g2, fun i h1 h2 => by omega⟩ ⟨rfl, rfl, rfl, trivial⟩ rfl ?_
    rintro j ⟨k1, k2, k3⟩
    rcases Nat.lt_or_ge j l.length with hj | hj
    · conv => whnf
      repeat' first | (refine Gets.of _ rfl ?_; conv => whnf) | (refine Fork.dec (fun _ => ?_) (fun _ => ?_) <;> first | (exfalso; omega) | (conv => whnf))
      refine CodeS.drawT [0] (.take 0 (.take 1 (.take 2 (.take 3 (.take 4 (.take 5 (.take 6 (.take 7 (.take 8 (.take 9 (.take 10 .done))))))))))) mixed (by kernel_rfl) (.cons ⟨rfl, live_of_ints rfl (by omega)⟩ .nil) ?_
      conv => whnf
      repeat' first | ((with_reducible refine Gets.addI ?_ ?_ ?_); (· omega); (· omega); conv => whnf) | ((with_reducible refine Gets.subI ?_ ?_ ?_); (· omega); (· omega); conv => whnf) | (refine Gets.ix1v rfl rfl (by omega) ?_; conv => whnf) | (refine Gets.ixIv rfl rfl (by omega) (by omega) ?_; conv => whnf) | (refine Gets.ldI rfl (by first | rfl | assumption) (by first | omega | exact Nat.le_of_ble_eq_true rfl) ?_; conv => whnf) | (refine Fork.neI (fun _ => ?_) (fun _ => ?_) <;> first | (exfalso; omega) | (conv => whnf))
      · rename_i hne
        exact ⟨p + 1, ⟨by omega, by omega, fun q h1 h2 => by
          rcases Nat.lt_or_ge q p with a | a
          · exact g3 q h1 a
          · rw [show q = p by omega]; intro h; exact hne (by have := h.2 j k1 hj; rw [this]; congr 1; omega)⟩, by omega, ⟨rfl, rfl, trivial⟩, rfl⟩
      · rename_i he
        exact ⟨j + 1, ⟨by omega, by omega, fun i h1 h2 => by
          rcases Nat.lt_or_ge i j with a | a
          · exact k3 i h1 a
          · rw [show i = j by omega, he]; congr 1; omega⟩, by omega, ⟨rfl, rfl, rfl, trivial⟩, rfl⟩
    · conv => whnf
      repeat' first | (refine Gets.of _ rfl ?_; conv => whnf) | (refine Fork.dec (fun _ => ?_) (fun _ => ?_) <;> first | (exfalso; omega) | (conv => whnf))
      rw [per_eq ⟨g1, g2, ⟨hm', fun i h1 h2 => k3 i h1 (by omega)⟩, g3⟩]
  · rw [per_eq (isPer_self h0 fun q h1 h2 => g3 q h1 (by omega))]
theorem period57a (l : List Int) (h0 : 0 < l.length) (hl : l.length ≤ 4294967296) {H : AHeap} {i : Nat} (hi : At H 1 (ints l) i) : CallW Try.prog 203 [.view i 0 l.length] H fun v H' => H' = H ∧ v = .int .i64 (per l : Int) :=
  (period57 l h0 hl).readsAt (by rintro _ rfl; rfl) [i] rfl (.cons ⟨_, _, rfl, hi⟩ .nil)
end Go.Proofs.Ytaccmanpanpbiaa

/- The program's normal form. -/
-- VkG VkH
set_option linter.unusedVariables false
set_option linter.unusedSimpArgs false
set_option maxRecDepth 100000
set_option maxHeartbeats 1000000
namespace Go.Proofs.Ytaccmanpanpbiaa
open Go Go.Vh Go.Vk Go.Proofs
/-- A word whose stem is the first part of a row. -/
structure Pw where
  full : List Int
  n : Nat
  loop : List Int
noncomputable def nfP (S l : List Int) : Pw := ⟨S, S.length - cut S (l.take (per l)), rot (l.take (per l)) (cut S (l.take (per l)) % per l)⟩
def Pw.av (x : Pw) (i j : Nat) : AVal := .agg [.view i 0 x.n, .view j 0 x.loop.length]
def Pw.wd (x : Pw) : Wd := ⟨x.full.take x.n, x.loop⟩
theorem nfP_wd (S l : List Int) : (nfP S l).wd = nf ⟨S, l⟩ := rfl
def wh (s l : List Int) : AHeap := (emptyH.alloc (.ro 1 (ints s))).alloc (.ro 1 (ints l))
theorem rot_parts (T : List Int) (r : Nat) : (T.drop (T.length - r)).take (T.length - (T.length - r)) ++ (T.drop 0).take (T.length - r) = rot T r := by
  unfold rot
  rw [List.take_of_length_le (by rw [List.length_drop]; exact Nat.le_refl _), List.drop_zero]
theorem normal36 (s l : List Int) (k : Nat) (hk : k ≤ s.length) (hs : s.length ≤ 4294967296) (h0 : 0 < l.length) (hl : l.length ≤ 4294967296) : CallW Try.prog 175 [.agg [.view 0 k (s.length - k), .view 1 0 l.length]] (wh s l)
    fun v H' => v = (nfP (s.drop k) l).av 2 3 ∧ H' = ((wh s l).alloc (vB (s.drop k))).alloc (vB (nfP (s.drop k) l).loop) := by
  have hper := per_is h0
  refine CallW.tells ?_
  refine CallW.symRK (cuts := []) Try.func175 rfl (by kernel_rfl) ?_
  conv => whnf
  repeat' (refine Gets.of _ rfl ?_; conv => whnf)
  refine CallS.of (by kernel_rfl) (clone47a s k (s.length - k) (by omega) (by omega) (.roB rfl rfl)) rfl ?_
  rintro _ _ ⟨rfl, rfl⟩
  rw [show (s.drop k).take (s.length - k) = s.drop k from List.take_of_length_le (by rw [List.length_drop]; exact Nat.le_refl _)]
  conv => whnf
  skip
  refine CodeS.drawT [2] (.take 0 (.take 1 (.take 2 (.take 3 (.one 4 true (.take 5 (.one 6 true (.take 7 .done)))))))) mixed (by kernel_rfl) (.cons ⟨rfl, trivial⟩ .nil) ?_
  conv => whnf
  repeat' (refine Gets.of _ rfl ?_; conv => whnf)
  refine CallPS.of (by kernel_rfl) (period57a l h0 hl (.roB rfl rfl)) rfl ?_
  rintro _ _ ⟨rfl, rfl⟩
  conv => whnf
  repeat' first | ((refine Gets.sliceHiV (k := per l) rfl rfl rfl rfl hper.2.1 ?_); conv => whnf) | (refine Chk.mk (by repeat first | exact .nil | refine .cons rfl ?_) ?_; conv => whnf)
  refine CallPS.of (by kernel_rfl) (clone47a l 0 (per l) (by have := hper.2.1; omega) (by have := hper.2.1; omega) (.roB rfl rfl)) rfl ?_
  rintro _ _ ⟨rfl, rfl⟩
  have hT : (l.take (per l)).length = per l := per_take h0
  have hT0 : 0 < (l.take (per l)).length := by rw [hT]; exact hper.1
  rw [show (l.drop 0).take (per l) = l.take (per l) from rfl, vB_ne hT0]
  have hpl : per l ≤ l.length := hper.2.1
  unfold nfP
  obtain ⟨T, hTe⟩ : ∃ T, T = l.take (per l) := ⟨_, rfl⟩
  rw [← hTe] at hT hT0 ⊢
  rw [← hT] at hpl ⊢
  clear hper
  obtain ⟨S, hSe⟩ : ∃ S, S = s.drop k := ⟨_, rfl⟩
  have hSl : S.length = s.length - k := by rw [hSe, List.length_drop]
  rw [← hSe, ← hSl]
  have hS32 : S.length ≤ 4294967296 := by omega
  have hT32 : T.length ≤ 4294967296 := by omega
  conv => whnf
  repeat' (refine Chk.mk (by repeat first | exact .nil | refine .cons rfl ?_) ?_; conv => whnf)
  refine CodeS.loopGK (cuts := []) (σ := Nat) (fun t => [(2, .ptr 2 0), (3, .view 3 0 (S.length - t)), (4, .view 4 0 T.length), (5, .int .i64 ((t % T.length : Nat) : Int))]) (fun _ => (((wh s l).alloc (.cells 1 [.nilSlice, .nilSlice])).alloc (vB S)).alloc (.cells 1 (ints T))) (fun t => t ≤ S.length ∧ ∀ u, u < t → Mt S T u) (fun t => S.length - t) 0 (renL [0, 1, 3, 4, 5] 6) (by kernel_rfl) ⟨Nat.zero_le _, fun u hu => by omega⟩ ⟨rfl, rfl, rfl, by rw [Nat.zero_mod]; rfl, trivial⟩ (EmbL.litsN [0, 1, 3, 4, 5] rfl rfl rfl rfl (.cons ⟨rfl, .inl ⟨rfl, fun h => h⟩⟩ (.cons ⟨rfl, .inl ⟨rfl, fun h => h⟩⟩ .nil)) (.cons ⟨rfl, .roI⟩ (.cons ⟨rfl, .roI⟩ (.cons ⟨rfl, .inl rfl⟩ (.cons ⟨rfl, .vS rfl⟩ (.cons ⟨rfl, .cellsI⟩ .nil)))))) ?_
  rintro t ⟨g1, g2⟩
  have hmt := Nat.mod_lt t hT0
  rcases Nat.lt_or_ge t S.length with ht | ht
  · rw [vB_ne (l := S) (by omega)]
    conv => whnf
    skip
    refine CodeS.drawT [3, 4] (.take 0 (.take 1 (.take 2 (.take 3 (.take 4 (.take 5 (.take 6 (.take 7 (.take 8 (.take 9 (.take 10 (.take 11 (.take 12 (.take 13 (.take 14 (.take 15 (.take 16 (.take 17 (.take 18 (.take 19 (.take 20 (.take 21 (.take 22 (.take 23 .done)))))))))))))))))))))))) mixed (by kernel_rfl) (.cons ⟨rfl, live_of_ints rfl (by omega)⟩ (.cons ⟨rfl, live_of_ints rfl (by omega)⟩ .nil)) ?_
    conv => whnf
    repeat' first | ((with_reducible refine Gets.remN ?_ ?_ ?_); (· omega); (· omega); conv => whnf) | ((with_reducible refine Gets.subI ?_ ?_ ?_); (· omega); (· omega); conv => whnf) | ((with_reducible refine Gets.mulI ?_ ?_ ?_); (· omega); (· omega); conv => whnf) | (refine Gets.of _ rfl ?_; conv => whnf) | (refine Gets.ixIv rfl rfl (by omega) (by omega) ?_; conv => whnf) | (refine Gets.ldI rfl (by first | rfl | assumption) (by first | omega | exact Nat.le_of_ble_eq_true rfl) ?_; conv => whnf) | (refine Fork.dec (fun _ => ?_) (fun _ => ?_) <;> first | (exfalso; omega) | (conv => whnf))
    have e : (2 * (T.length : Int) - 1 - ((t % T.length : Nat) : Int)) % (T.length : Int) = ((T.length - 1 - t % T.length : Nat) : Int) := by
      rw [show 2 * (T.length : Int) - 1 - ((t % T.length : Nat) : Int) = ((T.length - 1 - t % T.length : Nat) : Int) + (T.length : Int) by omega, Int.add_emod_right]
      exact Int.emod_eq_of_lt (by omega) (by omega)
    rw [e]
    have e1 : (((S.length - t : Nat) : Int) - 1) = ((S.length - (t + 1) : Nat) : Int) := by omega
    have e2 : (((t % T.length : Nat) : Int) + 1) % (T.length : Int) = (((t + 1) % T.length : Nat) : Int) := by
      rw [show (t + 1) % T.length = (t % T.length + 1) % T.length from (Nat.mod_add_mod _ _ _).symm]; rfl
    rw [e1]
    repeat' first | ((with_reducible refine Gets.subI ?_ ?_ ?_); (· omega); (· omega); conv => whnf) | (refine Gets.of _ rfl ?_; conv => whnf) | (refine Gets.ix1v rfl rfl (by omega) ?_; conv => whnf) | (refine Gets.ldI rfl (by first | rfl | assumption) (by first | omega | exact Nat.le_of_ble_eq_true rfl) ?_; conv => whnf) | (refine Fork.dec (fun _ => ?_) (fun _ => ?_) <;> first | (exfalso; omega) | (conv => whnf))
    · rename_i he
      rw [e1]
      repeat' first | ((refine Gets.sliceHiW (k := S.length - (t + 1)) rfl rfl rfl ⟨_, .inr rfl⟩ (by omega) ?_); conv => whnf) | ((with_reducible refine Gets.remN ?_ ?_ ?_); (· omega); (· omega); conv => whnf) | ((with_reducible refine Gets.addI ?_ ?_ ?_); (· omega); (· omega); conv => whnf) | (refine Gets.of _ rfl ?_; conv => whnf)
      rw [e2]
      conv => whnf
      skip
      exact ⟨t + 1, renL [0, 1, 2, 3, 4] 5, ⟨by omega, lt_succ_all g2 (by
        unfold Mt
        rw [show S.length - 1 - t = (((S.length - (t + 1) : Nat) : Int)).toNat by omega]; exact he)⟩, by omega, ⟨rfl, rfl, rfl, rfl, trivial⟩, EmbL.litsN [0, 1, 2, 3, 4] rfl rfl rfl rfl (.cons ⟨rfl, .inl ⟨rfl, fun h => h⟩⟩ (.cons ⟨rfl, .inl ⟨rfl, fun h => h⟩⟩ .nil)) (.cons ⟨rfl, .roI⟩ (.cons ⟨rfl, .roI⟩ (.cons ⟨rfl, .inl rfl⟩ (.cons ⟨rfl, .cellsI⟩ (.cons ⟨rfl, .cellsI⟩ .nil)))))⟩
    · rename_i he
      have hc : IsCut S T t := ⟨g1, g2, .inr (by
        unfold Mt
        rw [show S.length - 1 - t = (((S.length - (t + 1) : Nat) : Int)).toNat by omega]; exact he)⟩
      conv => whnf
      skip
      have hcut := cut_eq hc
      have hpT : per l = T.length := hT.symm
      have hbk : ((T.length : Int) - ((t % T.length : Nat) : Int)) = ((T.length - t % T.length : Nat) : Int) := by omega
      rw [hbk]
      refine CodeS.drawT [] (.take 0 (.take 1 (.take 2 (.take 3 (.take 4 (.take 5 (.take 6 (.one 7 true (.one 8 true (.take 9 (.one 10 false .done))))))))))) mixed (by kernel_rfl) .nil ?_
      conv => whnf
      repeat' first | ((refine Gets.sliceLoW (k := T.length - t % T.length) rfl rfl rfl ⟨_, .inr rfl⟩ (by omega) ?_); conv => whnf) | ((refine Gets.sliceHiW (k := T.length - t % T.length) rfl rfl rfl ⟨_, .inr rfl⟩ (by omega) ?_); conv => whnf) | (refine Chk.mk (by repeat first | exact .nil | refine .cons rfl ?_) ?_; conv => whnf)
      refine CallPS.of (by kernel_rfl) ((concatV T T (T.length - t % T.length) (T.length - (T.length - t % T.length)) 0 (T.length - t % T.length) (by omega) (by omega) (by omega) (by omega)).frameQ [4, 4, 5] rfl (.cons ⟨rfl, .roCells⟩ (.cons ⟨rfl, .roCells⟩ (.cons ⟨rfl, .roCs rfl⟩ .nil))) (by rintro _ _ ⟨rfl, rfl⟩; repeat first | exact .nil | refine .cons (by first | exact .inr rfl | exact .inl rfl | exact .inr (fresh_oN _) | exact .inr (fresh_oP _) | exact .inr (fresh_oI _)) ?_)) rfl ?_
      rintro _ _ ⟨_, _, ⟨rfl, rfl⟩, rfl, rfl⟩
      rw [rot_parts T (t % T.length), show T.length - (T.length - t % T.length) + (T.length - t % T.length) = T.length by omega, hcut]
      conv => whnf
      repeat' first | (refine Gets.of _ rfl ?_; conv => whnf) | (refine Chk.mk (by repeat first | exact .nil | refine .cons rfl ?_) ?_; conv => whnf)
      exact ⟨renL [0, 1, 3, 6] 7, .agg [.view 2 0 (S.length - t), .slice 3 0 T.length], ((wh s l).alloc (.cells 1 (ints S))).alloc (vB (rot T (t % T.length))), EmbL.litsN [0, 1, 3, 6] rfl rfl rfl rfl (.cons ⟨rfl, .inl ⟨rfl, fun h => h⟩⟩ (.cons ⟨rfl, .inl ⟨rfl, fun h => h⟩⟩ .nil)) (.cons ⟨rfl, .roI⟩ (.cons ⟨rfl, .roI⟩ (.cons ⟨rfl, .cellsI⟩ (.cons ⟨rfl, .vCr rfl⟩ .nil)))), rfl, _, ⟨rfl, rfl⟩, Tells.agg (.cons (Tells.refl _ _) (.cons (by rw [rot_length]; exact Tells.sliceView) .nil))⟩
  · have hc : IsCut S T t := ⟨g1, g2, .inl (by omega)⟩
    conv => whnf
    refine CodeS.drawT [] (.take 0 (.take 1 (.take 2 (.take 3 (.take 4 (.take 5 (.take 6 (.take 7 (.take 8 (.take 9 (.take 10 (.take 11 (.take 12 (.take 13 (.take 14 (.take 15 (.take 16 (.take 17 (.take 18 (.take 19 (.take 20 (.take 21 (.take 22 (.take 23 .done)))))))))))))))))))))))) mixed (by kernel_rfl) .nil ?_
    conv => whnf
    repeat' first | ((with_reducible refine Gets.subI ?_ ?_ ?_); (· omega); (· omega); conv => whnf) | (refine Gets.of _ rfl ?_; conv => whnf) | (refine Fork.dec (fun _ => ?_) (fun _ => ?_) <;> first | (exfalso; omega) | (conv => whnf))
    conv => whnf
    skip
    have hcut := cut_eq hc
    have hpT : per l = T.length := hT.symm
    have hbk : ((T.length : Int) - ((t % T.length : Nat) : Int)) = ((T.length - t % T.length : Nat) : Int) := by omega
    rw [hbk]
    refine CodeS.drawT [] (.take 0 (.take 1 (.take 2 (.take 3 (.take 4 (.take 5 (.take 6 (.one 7 true (.one 8 true (.take 9 (.one 10 false .done))))))))))) mixed (by kernel_rfl) .nil ?_
    conv => whnf
    repeat' first | ((refine Gets.sliceLoW (k := T.length - t % T.length) rfl rfl rfl ⟨_, .inr rfl⟩ (by omega) ?_); conv => whnf) | ((refine Gets.sliceHiW (k := T.length - t % T.length) rfl rfl rfl ⟨_, .inr rfl⟩ (by omega) ?_); conv => whnf) | (refine Chk.mk (by repeat first | exact .nil | refine .cons rfl ?_) ?_; conv => whnf)
    refine CallPS.of (by kernel_rfl) ((concatV T T (T.length - t % T.length) (T.length - (T.length - t % T.length)) 0 (T.length - t % T.length) (by omega) (by omega) (by omega) (by omega)).frameQ [4, 4, 5] rfl (.cons ⟨rfl, .roCells⟩ (.cons ⟨rfl, .roCells⟩ (.cons ⟨rfl, .roCs rfl⟩ .nil))) (by rintro _ _ ⟨rfl, rfl⟩; repeat first | exact .nil | refine .cons (by first | exact .inr rfl | exact .inl rfl | exact .inr (fresh_oN _) | exact .inr (fresh_oP _) | exact .inr (fresh_oI _)) ?_)) rfl ?_
    rintro _ _ ⟨_, _, ⟨rfl, rfl⟩, rfl, rfl⟩
    rw [rot_parts T (t % T.length), show T.length - (T.length - t % T.length) + (T.length - t % T.length) = T.length by omega, hcut]
    conv => whnf
    repeat' first | (refine Gets.of _ rfl ?_; conv => whnf) | (refine Chk.mk (by repeat first | exact .nil | refine .cons rfl ?_) ?_; conv => whnf)
    exact ⟨renL [0, 1, 3, 6] 7, .agg [.view 2 0 (S.length - t), .slice 3 0 T.length], ((wh s l).alloc (vB S)).alloc (vB (rot T (t % T.length))), EmbL.litsN [0, 1, 3, 6] rfl rfl rfl rfl (.cons ⟨rfl, .inl ⟨rfl, fun h => h⟩⟩ (.cons ⟨rfl, .inl ⟨rfl, fun h => h⟩⟩ .nil)) (.cons ⟨rfl, .roI⟩ (.cons ⟨rfl, .roI⟩ (.cons ⟨rfl, .vS rfl⟩ (.cons ⟨rfl, .vCr rfl⟩ .nil)))), rfl, _, ⟨rfl, rfl⟩, Tells.agg (.cons (Tells.refl _ _) (.cons (by rw [rot_length]; exact Tells.sliceView) .nil))⟩
end Go.Proofs.Ytaccmanpanpbiaa
