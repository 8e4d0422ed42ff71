/- Rows made of rows: Clone, Grow, Concat. -/
import Derived.Test.YthjemhlcojmiaaaDoorWda
-- VkG VkH
set_option linter.unusedVariables false
set_option linter.unusedSimpArgs false
set_option maxRecDepth 100000
set_option maxHeartbeats 1000000
namespace Go.Proofs.YthjemhlcojmiaaaDoor
open Go Go.Vh Go.Vk Go.Proofs
theorem _root_.Go.Vh.CallW.nilOrK {P : Program} {f : FuncId} {i off n : Nat} {rest : List AVal} {H : AHeap} {K : AVal → AHeap → Prop} (h1 : CallW P f (.slice i off n :: rest) H K) (h2 : n = 0 → CallW P f (.nilSlice :: rest) H K) : CallW P f (.view i off n :: rest) H K :=
  CallW.viewsOr h1 h2 fun φ w cs hR hv => by
    cases cs with
    | nil => simp [VRels] at hv
    | cons c cs =>
      obtain ⟨a, b⟩ := VRels_cons.1 hv
      obtain ⟨bi, hb, ⟨h0, h⟩ | ⟨cap, ad, h3, h4, h5⟩⟩ := a
      · exact .inr ⟨h0, VRels_cons.2 ⟨h, b⟩⟩
      · exact .inl (VRels_cons.2 ⟨⟨bi, cap, ad, hb, h3, h4, h5⟩, b⟩)
theorem vB_ne {l : List Int} (h : 0 < l.length) : vB l = .cells 1 (ints l) := by
  cases l with
  | nil => simp at h
  | cons x l => rfl
theorem vB_or (l : List Int) : ∃ cs, vB l = .ro 1 cs ∨ vB l = .cells 1 cs := by
  cases l with
  | nil => exact ⟨_, .inl rfl⟩
  | cons x l => exact ⟨_, .inr rfl⟩
theorem Gets.sliceHiW {P : Program} {H : AHeap} {t e : TypeId} {ti : TI} {i n k : Nat} {A : AVal → Prop} (hu : P.underlying t = some (.slice e)) (ht : sliceT P t = some ti) (hsz : ti.size = 1) (hf : ∃ cs, H.f i = .ro 1 cs ∨ H.f i = .cells 1 cs) (hk : k ≤ n) (hA : A (.view i 0 k)) : Gets (asliceV P H t (.view i 0 n) none (some (.int .i64 (k : Int)))) A := by
  refine ⟨⟨_, ?_, hA⟩⟩
  obtain ⟨cs, hf | hf⟩ := hf
  all_goals
    simp only [asliceV, aslice, hu, ht, boundA, hf]
    rw [if_pos ⟨by omega, by omega, by omega, hsz.symm⟩]
    simp
theorem Gets.sliceLoW {P : Program} {H : AHeap} {t e : TypeId} {ti : TI} {i n k : Nat} {A : AVal → Prop} (hu : P.underlying t = some (.slice e)) (ht : sliceT P t = some ti) (hsz : ti.size = 1) (hf : ∃ cs, H.f i = .ro 1 cs ∨ H.f i = .cells 1 cs) (hk : k ≤ n) (hA : A (.view i k (n - k))) : Gets (asliceV P H t (.view i 0 n) (some (.int .i64 (k : Int))) none) A := by
  refine ⟨⟨_, ?_, hA⟩⟩
  obtain ⟨cs, hf | hf⟩ := hf
  all_goals
    simp only [asliceV, aslice, hu, ht, boundA, hf]
    rw [if_pos ⟨by omega, by omega, by omega, hsz.symm⟩]
    simp [hsz]
theorem _root_.Go.Vh.BSub.roCs {κ : Nat → Nat} {es : Nat} {cs cs' : List AVal} (h : cs' = rens κ cs) : BSub κ (.ro es cs) (.cells es cs') := by subst h; exact .inr (.inr ⟨es, cs, rfl, rfl⟩)
theorem clone47t (l : List Int) (k p : Nat) (hp : k + p ≤ l.length) (hl : p ≤ 4294967296) : CallW Tryd.prog 47 [.view 0 k p] (emptyH.alloc (.ro 1 (ints l))) fun v H' => v = .view 1 0 p ∧ H' = (emptyH.alloc (.ro 1 (ints l))).alloc (vB ((l.drop k).take p)) := by
  have hlen : 0 + p = p := Nat.zero_add _
  refine CallW.tells (CallW.nilOrK ?_ fun h0 => ?_)
  · refine CallW.symRK (cuts := []) Tryd.func47 rfl (by kernel_rfl) ?_
    conv => whnf
    repeat' (refine Fork.noR rfl ?_; conv => whnf)
    all_goals first | (rename_i h; exact absurd h (by decide)) | skip
    refine Gets.appSrc (ti := tiI) (l := []) (xs := (l.drop k).take p) (m := 0) (n := p) rfl rfl rfl rfl rfl (by decide) (Nat.le_refl _) (src_part hp (.inl rfl)).1 rfl (by omega) ?_
    rw [hlen]
    conv => whnf
    skip
    exact ⟨renL [0, 2] 3, .slice 1 0 p, (emptyH.alloc (.ro 1 (ints l))).alloc (vB ((l.drop k).take p)), EmbL.litsN [0, 2] rfl rfl rfl rfl (.cons ⟨rfl, .inl ⟨rfl, fun h => h⟩⟩ .nil) (.cons ⟨rfl, .roI⟩ (.cons ⟨rfl, .vC rfl⟩ .nil)), rfl, .view 1 0 p, ⟨rfl, rfl⟩, Tells.sliceView⟩
  · subst h0
    refine CallW.symRK (cuts := []) Tryd.func47 rfl (by kernel_rfl) ?_
    conv => whnf
    repeat' (refine Fork.yesR rfl ?_; conv => whnf)
    all_goals first | (rename_i h; exact absurd h (by decide)) | skip
    cases l with
    | nil => exact ⟨renL [0, 0] 1, .nilSlice, (emptyH.alloc (.ro 1 (ints []))).alloc (vB []), EmbL.lits [0, 0] rfl rfl rfl rfl (.cons ⟨rfl, .inl ⟨rfl, fun h => h⟩⟩ .nil) (.cons ⟨rfl, .roI⟩ (.cons ⟨rfl, .roE⟩ .nil)), rfl, .view 1 0 0, ⟨rfl, rfl⟩, Tells.nilView (by rfl)⟩
    | cons x l => exact ⟨renL [0, 0] 1, .nilSlice, (emptyH.alloc (.ro 1 (ints (x :: l)))).alloc (vB []), EmbL.lits [0, 0] rfl rfl rfl rfl (.cons ⟨rfl, .inl ⟨rfl, fun h => h⟩⟩ .nil) (.cons ⟨rfl, .roI⟩ (.cons ⟨rfl, .roE⟩ .nil)), rfl, .view 1 0 0, ⟨rfl, rfl⟩, Tells.nilView (by rfl)⟩
theorem clone47a (l : List Int) (k p : Nat) (hp : k + p ≤ l.length) (hl : p ≤ 4294967296) {H : AHeap} {i : Nat} (hi : At H 1 (ints l) i) : CallW Tryd.prog 47 [.view i k p] H fun v H' => v = .view H.n 0 p ∧ H' = H.alloc (vB ((l.drop k).take p)) := by
  refine (CallW.allocsAt (K := fun v bs => v = .view 1 0 p ∧ bs = [vB ((l.drop k).take p)]) ((clone47t l k p hp hl).mono ?_) [i] rfl (.cons ⟨_, _, rfl, hi⟩ .nil)).mono ?_
  · rintro _ _ ⟨rfl, rfl⟩; exact ⟨[vB ((l.drop k).take p)], rfl, by simp [vB_fresh], rfl, rfl⟩
  · rintro _ _ ⟨_, _, ⟨rfl, rfl⟩, rfl, rfl⟩
    exact ⟨rfl, by show H.alloc (renB _ (vB _)) = _; rw [renB_vB]⟩
theorem grow59 (n : Int) (h0 : 0 < n) (h1 : n ≤ 4294967296) : CallW Tryd.prog 59 [.nilSlice, .int .i64 n] emptyH fun v H' => v = .slice 0 0 0 ∧ H' = emptyH.alloc (.cells 1 (ints (List.replicate n.toNat 0))) := by
  refine CallW.symRK (cuts := []) Tryd.func59 rfl (by kernel_rfl) ?_
  conv => whnf
  repeat' first | ((refine Gets.appZ (ti := tiI) rfl rfl rfl rfl (by decide) (by omega) (by omega) ?_); conv => whnf) | ((refine Gets.sliceHi (k := 0) rfl rfl rfl rfl (Nat.zero_le _) ?_); conv => whnf) | ((with_reducible refine Gets.subI ?_ ?_ ?_); (· omega); (· omega); conv => whnf) | (refine Gets.of _ rfl ?_; conv => whnf) | (refine Fork.dec (fun _ => ?_) (fun _ => ?_) <;> first | (exfalso; omega) | (conv => whnf))
  rw [show n - (0 - 0) = n by omega]
  exact ⟨renL [0] 1, .slice 0 0 0, _, EmbL.litsN [0] rfl rfl rfl rfl .nil (.cons ⟨rfl, .cellsI⟩ .nil), rfl, rfl, rfl⟩
def cc3 (l m : List Int) : AHeap := (emptyH.alloc (.ro 1 (ints l))).alloc (.ro 1 (ints m))
def HconcatS (l m : List Int) (o1 n1 o2 n2 : Nat) : AHeap := (cc3 l m).alloc (.ro 1 [.slice 0 o1 n1, .slice 1 o2 n2])
theorem concatS (l m : List Int) (o1 n1 o2 n2 : Nat) (h1 : o1 + n1 ≤ l.length) (h2 : o2 + n2 ≤ m.length) (h0 : 0 < n1 + n2) (hl : n1 + n2 ≤ 4294967296) : CallW Tryd.prog 45 [.slice 2 0 2] (HconcatS l m o1 n1 o2 n2) fun v H' => v = .slice 3 0 (n1 + n2) ∧ H' = (HconcatS l m o1 n1 o2 n2).alloc (.cells 1 (ints ((l.drop o1).take n1 ++ (m.drop o2).take n2))) := by
  refine CallW.symRK (cuts := []) Tryd.func45 rfl (by kernel_rfl) ?_
  conv => whnf
  repeat' (refine Gets.of _ rfl ?_; conv => whnf)
  refine CodeS.loopSK (cuts := []) (σ := Nat × Nat) (fun p => [(0, .slice 2 0 2), (3, .int .i64 (p.2 : Int)), (9, .slice 2 0 2), (10, .int .i64 2), (11, .int .i64 (p.1 : Int))]) (fun _ => HconcatS l m o1 n1 o2 n2) (fun p => (p.1 = 0 ∧ p.2 = 0) ∨ (p.1 = 1 ∧ p.2 = n1) ∨ (p.1 = 2 ∧ p.2 = n1 + n2)) (fun p => 2 - p.1) (0, 0) (by kernel_rfl) (.inl ⟨rfl, rfl⟩) ⟨rfl, rfl, rfl, rfl, rfl, trivial⟩ rfl ?_
  rintro ⟨j, s⟩ hj
  dsimp only at hj
  rcases hj with ⟨rfl, rfl⟩ | ⟨rfl, rfl⟩ | ⟨rfl, rfl⟩
  · conv => whnf
    repeat' first | ((with_reducible refine Gets.addI ?_ ?_ ?_); (· omega); (· omega); conv => whnf) | (refine Gets.of _ rfl ?_; conv => whnf) | (refine Fork.yesR rfl ?_; conv => whnf) | (refine Fork.noR rfl ?_; conv => whnf)
    exact ⟨(1, n1), .inr (.inl ⟨rfl, rfl⟩), (by show 2 - 1 < 2 - 0; decide), ⟨rfl, (by show AVal.int .i64 (((0:Nat):Int) + (n1:Int)) = AVal.int .i64 ((n1:Nat):Int); congr 1; omega), rfl, rfl, rfl, trivial⟩, rfl⟩
  · conv => whnf
    repeat' first | ((with_reducible refine Gets.addI ?_ ?_ ?_); (· omega); (· omega); conv => whnf) | (refine Gets.of _ rfl ?_; conv => whnf) | (refine Fork.yesR rfl ?_; conv => whnf) | (refine Fork.noR rfl ?_; conv => whnf)
    exact ⟨(2, s + n2), .inr (.inr ⟨rfl, rfl⟩), (by show 2 - 2 < 2 - 1; decide), ⟨rfl, (by show AVal.int .i64 (((s:Nat):Int) + (n2:Int)) = AVal.int .i64 ((s + n2:Nat):Int); congr 1), rfl, rfl, rfl, trivial⟩, rfl⟩
  · conv => whnf
    repeat' (refine Fork.noR rfl ?_; conv => whnf)
    refine CallS.of (by kernel_rfl) ((grow59 ((n1 + n2 : Nat) : Int) (by omega) (by omega)).frameQ [] rfl .nil (by rintro _ _ ⟨rfl, rfl⟩; repeat first | exact .nil | refine .cons (by first | exact .inr rfl | exact .inl rfl | exact .inr (fresh_oN _) | exact .inr (fresh_oP _) | exact .inr (fresh_oI _)) ?_)) rfl ?_
    rintro _ _ ⟨_, _, ⟨rfl, rfl⟩, rfl, rfl⟩
    rw [show ((n1 + n2 : Nat) : Int).toNat = n1 + n2 from rfl]
    conv => whnf
    repeat' (refine Gets.of _ rfl ?_; conv => whnf)
    refine CodeS.loopGK (cuts := []) (σ := Nat × Nat × List Int) (fun p => [(6, .slice 3 0 p.2.1), (25, .slice 2 0 2), (26, .int .i64 2), (27, .int .i64 (p.1 : Int))]) (fun p => (HconcatS l m o1 n1 o2 n2).alloc (.cells 1 (ints p.2.2))) (fun p => (p.1 = 0 ∧ p.2.1 = 0 ∧ p.2.2 = List.replicate (n1 + n2) 0) ∨ (p.1 = 1 ∧ p.2.1 = n1 ∧ p.2.2 = (l.drop o1).take n1) ∨ (p.1 = 2 ∧ p.2.1 = n1 + n2 ∧ p.2.2 = (l.drop o1).take n1 ++ (m.drop o2).take n2)) (fun p => 2 - p.1) (0, 0, List.replicate (n1 + n2) 0) (renL [0, 1, 2, 3] 4) (by kernel_rfl) (.inl ⟨rfl, rfl, rfl⟩) ⟨rfl, rfl, rfl, rfl, trivial⟩ (EmbL.litsN [0, 1, 2, 3] rfl rfl rfl rfl (.cons ⟨rfl, .inl ⟨rfl, fun h => h⟩⟩ (.cons ⟨rfl, .inl ⟨rfl, fun h => h⟩⟩ (.cons ⟨rfl, .inl ⟨rfl, fun h => h⟩⟩ .nil))) (.cons ⟨rfl, .roI⟩ (.cons ⟨rfl, .roI⟩ (.cons ⟨rfl, .inl rfl⟩ (.cons ⟨rfl, .cellsIr⟩ .nil))))) ?_
    rintro ⟨j, s, b⟩ hj
    dsimp only at hj
    rcases hj with ⟨rfl, rfl, rfl⟩ | ⟨rfl, rfl, rfl⟩ | ⟨rfl, rfl, rfl⟩
    · conv => whnf
      repeat' first | (refine Gets.of _ rfl ?_; conv => whnf) | (refine Fork.yesR rfl ?_; conv => whnf)
      refine Gets.appSrc (ti := tiI) (l := List.replicate (n1 + n2) 0) (xs := (l.drop o1).take n1) (m := 0) (n := n1) rfl rfl rfl rfl rfl (by decide) (Nat.zero_le _) (src_part h1 (.inl rfl)).1 rfl (by omega) ?_
      rw [show (List.replicate (n1 + n2) (0 : Int)).take 0 ++ (l.drop o1).take n1 = (l.drop o1).take n1 from rfl, show 0 + n1 = n1 from Nat.zero_add _]
      conv => whnf
      repeat' ((with_reducible refine Gets.addI ?_ ?_ ?_); (· omega); (· omega); conv => whnf)
      exact ⟨(1, n1, _), renL [0, 1, 2, 4] 5, .inr (.inl ⟨rfl, rfl, rfl⟩), (by show 2 - 1 < 2 - 0; decide), ⟨rfl, rfl, rfl, rfl, trivial⟩, EmbL.litsN [0, 1, 2, 4] rfl rfl rfl rfl (.cons ⟨rfl, .inl ⟨rfl, fun h => h⟩⟩ (.cons ⟨rfl, .inl ⟨rfl, fun h => h⟩⟩ (.cons ⟨rfl, .inl ⟨rfl, fun h => h⟩⟩ .nil))) (.cons ⟨rfl, .roI⟩ (.cons ⟨rfl, .roI⟩ (.cons ⟨rfl, .inl rfl⟩ (.cons ⟨rfl, .cellsI⟩ .nil))))⟩
    · conv => whnf
      repeat' first | (refine Gets.of _ rfl ?_; conv => whnf) | (refine Fork.yesR rfl ?_; conv => whnf)
      refine Gets.appSrc (ti := tiI) (l := (l.drop o1).take s) (xs := (m.drop o2).take n2) (m := s) (n := n2) rfl rfl rfl rfl rfl (by decide) (by rw [List.length_take, List.length_drop]; omega) (src_part h2 (.inl rfl)).1 rfl (by omega) ?_
      rw [show ((l.drop o1).take s).take s = (l.drop o1).take s by rw [List.take_take, Nat.min_self]]
      conv => whnf
      repeat' ((with_reducible refine Gets.addI ?_ ?_ ?_); (· omega); (· omega); conv => whnf)
      exact ⟨(2, s + n2, _), renL [0, 1, 2, 4] 5, .inr (.inr ⟨rfl, rfl, rfl⟩), (by show 2 - 2 < 2 - 1; decide), ⟨rfl, rfl, rfl, rfl, trivial⟩, EmbL.litsN [0, 1, 2, 4] rfl rfl rfl rfl (.cons ⟨rfl, .inl ⟨rfl, fun h => h⟩⟩ (.cons ⟨rfl, .inl ⟨rfl, fun h => h⟩⟩ (.cons ⟨rfl, .inl ⟨rfl, fun h => h⟩⟩ .nil))) (.cons ⟨rfl, .roI⟩ (.cons ⟨rfl, .roI⟩ (.cons ⟨rfl, .inl rfl⟩ (.cons ⟨rfl, .cellsI⟩ .nil))))⟩
    · conv => whnf
      repeat' (refine Fork.noR rfl ?_; conv => whnf)
      exact ⟨renL [0, 1, 2, 3] 4, .slice 3 0 (n1 + n2), _, EmbL.litsN [0, 1, 2, 3] rfl rfl rfl rfl (.cons ⟨rfl, .inl ⟨rfl, fun h => h⟩⟩ (.cons ⟨rfl, .inl ⟨rfl, fun h => h⟩⟩ (.cons ⟨rfl, .inl ⟨rfl, fun h => h⟩⟩ .nil))) (.cons ⟨rfl, .roI⟩ (.cons ⟨rfl, .roI⟩ (.cons ⟨rfl, .inl rfl⟩ (.cons ⟨rfl, .cellsI⟩ .nil)))), rfl, rfl, rfl⟩
def HconcatV (l m : List Int) (o1 n1 o2 n2 : Nat) : AHeap := (cc3 l m).alloc (.ro 1 [.view 0 o1 n1, .view 1 o2 n2])
theorem concatV (l m : List Int) (o1 n1 o2 n2 : Nat) (h1 : o1 + n1 ≤ l.length) (h2 : o2 + n2 ≤ m.length) (h0 : 0 < n1 + n2) (hl : n1 + n2 ≤ 4294967296) : CallW Tryd.prog 45 [.slice 2 0 2] (HconcatV l m o1 n1 o2 n2) fun v H' => v = .slice 3 0 (n1 + n2) ∧ H' = (HconcatV l m o1 n1 o2 n2).alloc (.cells 1 (ints ((l.drop o1).take n1 ++ (m.drop o2).take n2))) := by
  refine CallW.symRK (cuts := []) Tryd.func45 rfl (by kernel_rfl) ?_
  conv => whnf
  repeat' (refine Gets.of _ rfl ?_; conv => whnf)
  refine CodeS.loopSK (cuts := []) (σ := Nat × Nat) (fun p => [(0, .slice 2 0 2), (3, .int .i64 (p.2 : Int)), (9, .slice 2 0 2), (10, .int .i64 2), (11, .int .i64 (p.1 : Int))]) (fun _ => HconcatV l m o1 n1 o2 n2) (fun p => (p.1 = 0 ∧ p.2 = 0) ∨ (p.1 = 1 ∧ p.2 = n1) ∨ (p.1 = 2 ∧ p.2 = n1 + n2)) (fun p => 2 - p.1) (0, 0) (by kernel_rfl) (.inl ⟨rfl, rfl⟩) ⟨rfl, rfl, rfl, rfl, rfl, trivial⟩ rfl ?_
  rintro ⟨j, s⟩ hj
  dsimp only at hj
  rcases hj with ⟨rfl, rfl⟩ | ⟨rfl, rfl⟩ | ⟨rfl, rfl⟩
  · conv => whnf
    repeat' first | ((with_reducible refine Gets.addI ?_ ?_ ?_); (· omega); (· omega); conv => whnf) | (refine Gets.of _ rfl ?_; conv => whnf) | (refine Fork.yesR rfl ?_; conv => whnf) | (refine Fork.noR rfl ?_; conv => whnf)
    exact ⟨(1, n1), .inr (.inl ⟨rfl, rfl⟩), (by show 2 - 1 < 2 - 0; decide), ⟨rfl, (by show AVal.int .i64 (((0:Nat):Int) + (n1:Int)) = AVal.int .i64 ((n1:Nat):Int); congr 1; omega), rfl, rfl, rfl, trivial⟩, rfl⟩
  · conv => whnf
    repeat' first | ((with_reducible refine Gets.addI ?_ ?_ ?_); (· omega); (· omega); conv => whnf) | (refine Gets.of _ rfl ?_; conv => whnf) | (refine Fork.yesR rfl ?_; conv => whnf) | (refine Fork.noR rfl ?_; conv => whnf)
    exact ⟨(2, s + n2), .inr (.inr ⟨rfl, rfl⟩), (by show 2 - 2 < 2 - 1; decide), ⟨rfl, (by show AVal.int .i64 (((s:Nat):Int) + (n2:Int)) = AVal.int .i64 ((s + n2:Nat):Int); congr 1), rfl, rfl, rfl, trivial⟩, rfl⟩
  · conv => whnf
    repeat' (refine Fork.noR rfl ?_; conv => whnf)
    refine CallS.of (by kernel_rfl) ((grow59 ((n1 + n2 : Nat) : Int) (by omega) (by omega)).frameQ [] rfl .nil (by rintro _ _ ⟨rfl, rfl⟩; repeat first | exact .nil | refine .cons (by first | exact .inr rfl | exact .inl rfl | exact .inr (fresh_oN _) | exact .inr (fresh_oP _) | exact .inr (fresh_oI _)) ?_)) rfl ?_
    rintro _ _ ⟨_, _, ⟨rfl, rfl⟩, rfl, rfl⟩
    rw [show ((n1 + n2 : Nat) : Int).toNat = n1 + n2 from rfl]
    conv => whnf
    repeat' (refine Gets.of _ rfl ?_; conv => whnf)
    refine CodeS.loopGK (cuts := []) (σ := Nat × Nat × List Int) (fun p => [(6, .slice 3 0 p.2.1), (25, .slice 2 0 2), (26, .int .i64 2), (27, .int .i64 (p.1 : Int))]) (fun p => (HconcatV l m o1 n1 o2 n2).alloc (.cells 1 (ints p.2.2))) (fun p => (p.1 = 0 ∧ p.2.1 = 0 ∧ p.2.2 = List.replicate (n1 + n2) 0) ∨ (p.1 = 1 ∧ p.2.1 = n1 ∧ p.2.2 = (l.drop o1).take n1) ∨ (p.1 = 2 ∧ p.2.1 = n1 + n2 ∧ p.2.2 = (l.drop o1).take n1 ++ (m.drop o2).take n2)) (fun p => 2 - p.1) (0, 0, List.replicate (n1 + n2) 0) (renL [0, 1, 2, 3] 4) (by kernel_rfl) (.inl ⟨rfl, rfl, rfl⟩) ⟨rfl, rfl, rfl, rfl, trivial⟩ (EmbL.litsN [0, 1, 2, 3] rfl rfl rfl rfl (.cons ⟨rfl, .inl ⟨rfl, fun h => h⟩⟩ (.cons ⟨rfl, .inl ⟨rfl, fun h => h⟩⟩ (.cons ⟨rfl, .inl ⟨rfl, fun h => h⟩⟩ .nil))) (.cons ⟨rfl, .roI⟩ (.cons ⟨rfl, .roI⟩ (.cons ⟨rfl, .inl rfl⟩ (.cons ⟨rfl, .cellsIr⟩ .nil))))) ?_
    rintro ⟨j, s, b⟩ hj
    dsimp only at hj
    rcases hj with ⟨rfl, rfl, rfl⟩ | ⟨rfl, rfl, rfl⟩ | ⟨rfl, rfl, rfl⟩
    · conv => whnf
      repeat' first | (refine Gets.of _ rfl ?_; conv => whnf) | (refine Fork.yesR rfl ?_; conv => whnf)
      refine Gets.appSrc (ti := tiI) (l := List.replicate (n1 + n2) 0) (xs := (l.drop o1).take n1) (m := 0) (n := n1) rfl rfl rfl rfl rfl (by decide) (Nat.zero_le _) (src_part h1 (.inl rfl)).2 rfl (by omega) ?_
      rw [show (List.replicate (n1 + n2) (0 : Int)).take 0 ++ (l.drop o1).take n1 = (l.drop o1).take n1 from rfl, show 0 + n1 = n1 from Nat.zero_add _]
      conv => whnf
      repeat' ((with_reducible refine Gets.addI ?_ ?_ ?_); (· omega); (· omega); conv => whnf)
      exact ⟨(1, n1, _), renL [0, 1, 2, 4] 5, .inr (.inl ⟨rfl, rfl, rfl⟩), (by show 2 - 1 < 2 - 0; decide), ⟨rfl, rfl, rfl, rfl, trivial⟩, EmbL.litsN [0, 1, 2, 4] rfl rfl rfl rfl (.cons ⟨rfl, .inl ⟨rfl, fun h => h⟩⟩ (.cons ⟨rfl, .inl ⟨rfl, fun h => h⟩⟩ (.cons ⟨rfl, .inl ⟨rfl, fun h => h⟩⟩ .nil))) (.cons ⟨rfl, .roI⟩ (.cons ⟨rfl, .roI⟩ (.cons ⟨rfl, .inl rfl⟩ (.cons ⟨rfl, .cellsI⟩ .nil))))⟩
    · conv => whnf
      repeat' first | (refine Gets.of _ rfl ?_; conv => whnf) | (refine Fork.yesR rfl ?_; conv => whnf)
      refine Gets.appSrc (ti := tiI) (l := (l.drop o1).take s) (xs := (m.drop o2).take n2) (m := s) (n := n2) rfl rfl rfl rfl rfl (by decide) (by rw [List.length_take, List.length_drop]; omega) (src_part h2 (.inl rfl)).2 rfl (by omega) ?_
      rw [show ((l.drop o1).take s).take s = (l.drop o1).take s by rw [List.take_take, Nat.min_self]]
      conv => whnf
      repeat' ((with_reducible refine Gets.addI ?_ ?_ ?_); (· omega); (· omega); conv => whnf)
      exact ⟨(2, s + n2, _), renL [0, 1, 2, 4] 5, .inr (.inr ⟨rfl, rfl, rfl⟩), (by show 2 - 2 < 2 - 1; decide), ⟨rfl, rfl, rfl, rfl, trivial⟩, EmbL.litsN [0, 1, 2, 4] rfl rfl rfl rfl (.cons ⟨rfl, .inl ⟨rfl, fun h => h⟩⟩ (.cons ⟨rfl, .inl ⟨rfl, fun h => h⟩⟩ (.cons ⟨rfl, .inl ⟨rfl, fun h => h⟩⟩ .nil))) (.cons ⟨rfl, .roI⟩ (.cons ⟨rfl, .roI⟩ (.cons ⟨rfl, .inl rfl⟩ (.cons ⟨rfl, .cellsI⟩ .nil))))⟩
    · conv => whnf
      repeat' (refine Fork.noR rfl ?_; conv => whnf)
      exact ⟨renL [0, 1, 2, 3] 4, .slice 3 0 (n1 + n2), _, EmbL.litsN [0, 1, 2, 3] rfl rfl rfl rfl (.cons ⟨rfl, .inl ⟨rfl, fun h => h⟩⟩ (.cons ⟨rfl, .inl ⟨rfl, fun h => h⟩⟩ (.cons ⟨rfl, .inl ⟨rfl, fun h => h⟩⟩ .nil))) (.cons ⟨rfl, .roI⟩ (.cons ⟨rfl, .roI⟩ (.cons ⟨rfl, .inl rfl⟩ (.cons ⟨rfl, .cellsI⟩ .nil)))), rfl, rfl, rfl⟩
end Go.Proofs.YthjemhlcojmiaaaDoor
