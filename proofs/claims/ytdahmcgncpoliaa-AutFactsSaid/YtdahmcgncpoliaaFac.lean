/- The law AutFacts. -/
import Derived.Test.YtdahmcgncpoliaaRea
import Derived.Test.YtdahmcgncpoliaaSts
import Derived.Test.YtdahmcgncpoliaaWlw
set_option linter.unusedVariables false
set_option linter.unusedSimpArgs false
set_option maxRecDepth 100000
namespace Go.Proofs.Ytdahmcgncpoliaa
open Go Go.Vh Go.Proofs
theorem few11b (a : Au) (hf : a.Fits0) : CallW Try.prog 11 [.int .i64 200, .int .i64 1000, .int .i64 40, .slice 2 0 1] a.heapF fun v _ => ∃ b, v = .bool b ∧ (b = true → a.Fits) := by
  refine CallW.sym Try.func11 rfl (by kernel_rfl) ?_
  conv => whnf
  iterate 1 (refine Gets.of _ rfl ?_; conv => whnf)
  refine CodeS.loopG (σ := Nat) (fun j => [(0, .int .i64 200), (1, .int .i64 1000), (2, .int .i64 40), (8, .bool false), (11, .slice 2 0 1), (12, .int .i64 1), (13, .int .i64 j)]) (fun _ => a.heapF) (fun j => j ≤ 1 ∧ (j = 1 → a.Fits)) (fun j => 1 - j) 0 (renL [0, 1, 2] 3) (by kernel_rfl) ⟨by decide, fun h => by cases h⟩ ⟨rfl, rfl, rfl, rfl, rfl, rfl, rfl, trivial⟩ ?_ ?_
  · exact Emb.lits [0, 1, 2] rfl rfl rfl rfl (.cons ⟨rfl, rfl, fun h => h⟩ (.cons ⟨rfl, rfl, fun h => h⟩ (.cons ⟨rfl, rfl, fun h => h⟩ .nil))) (.cons ⟨rfl, .roI⟩ (.cons ⟨rfl, .roI⟩ (.cons ⟨rfl, .inl rfl⟩ .nil)))
  rintro j ⟨hj, hj2⟩
  rcases j with _ | _ | j
  · conv => whnf
    refine Fork.mk (fun _ => ?_) (fun h => absurd h (by decide))
    conv => whnf
    iterate 5 (refine Gets.of _ rfl ?_; conv => whnf)
    refine Fork.mk (fun h => ?_) (fun k1 => ?_)
    all_goals conv => whnf
    · exact ⟨_, rfl, fun h => by cases h⟩
    iterate 2 (refine Gets.of _ rfl ?_; conv => whnf)
    refine Fork.mk (fun h => ?_) (fun k2 => ?_)
    all_goals conv => whnf
    · exact ⟨_, rfl, fun h => by cases h⟩
    have hF : a.Fits := by
      have e1 : IntKind.wrap .i64 (200 + 1000) = 1200 := by decide
      simp only [decide_eq_false_iff_not, e1] at k1 k2
      exact ⟨by omega, by omega, hf.start, hf.es⟩
    have hE : ∀ z, Emb 3 (renL [0, 1, 2] 4) a.heapF ((a.heapF.alloc z)) := fun z => Emb.lits [0, 1, 2] rfl rfl rfl rfl (.cons ⟨rfl, rfl, fun h => h⟩ (.cons ⟨rfl, rfl, fun h => h⟩ (.cons ⟨rfl, rfl, fun h => h⟩ .nil))) (.cons ⟨rfl, .roI⟩ (.cons ⟨rfl, .roI⟩ (.cons ⟨rfl, .inl rfl⟩ .nil)))
    iterate 1 (refine Gets.of _ rfl ?_; conv => whnf)
    refine CallS.of (by kernel_rfl) (valid24c a hF _ rfl rfl rfl) rfl ?_
    rintro _ _ ⟨rfl, b, rfl, hb⟩
    cases b <;> conv => whnf
    · exact ⟨1, renL [0, 1, 2] 4, ⟨by decide, fun _ => hF⟩, by decide, ⟨rfl, rfl, rfl, rfl, rfl, rfl, rfl, trivial⟩, Emb.lits [0, 1, 2] rfl rfl rfl rfl (.cons ⟨rfl, rfl, fun h => h⟩ (.cons ⟨rfl, rfl, fun h => h⟩ (.cons ⟨rfl, rfl, fun h => h⟩ .nil))) (.cons ⟨rfl, .roI⟩ (.cons ⟨rfl, .roI⟩ (.cons ⟨rfl, .inl rfl⟩ .nil)))⟩
    iterate 1 (refine Gets.of _ rfl ?_; conv => whnf)
    refine Fork.mk (fun h => ?_) (fun k3 => ?_)
    all_goals conv => whnf
    · exact ⟨_, rfl, fun h => by cases h⟩
    iterate 1 (refine Gets.of _ rfl ?_; conv => whnf)
    refine Fork.mk (fun h => ?_) (fun k4 => ?_)
    all_goals conv => whnf
    · exact ⟨_, rfl, fun h => by cases h⟩
    exact ⟨1, renL [0, 1, 2] 4, ⟨by decide, fun _ => hF⟩, by decide, ⟨rfl, rfl, rfl, rfl, rfl, rfl, rfl, trivial⟩, Emb.lits [0, 1, 2] rfl rfl rfl rfl (.cons ⟨rfl, rfl, fun h => h⟩ (.cons ⟨rfl, rfl, fun h => h⟩ (.cons ⟨rfl, rfl, fun h => h⟩ .nil))) (.cons ⟨rfl, .roI⟩ (.cons ⟨rfl, .roI⟩ (.cons ⟨rfl, .inl rfl⟩ .nil)))⟩
  · conv => whnf
    refine Fork.mk (fun h => absurd h (by decide)) (fun _ => ?_)
    conv => whnf
    exact ⟨_, rfl, fun _ => hj2 rfl⟩
  · omega
theorem few11bc (a : Au) (hf : a.Fits0) (H : AHeap) (i : Nat) (hn : Nat.ble 2 H.n = true) (hi : Nat.blt i H.n = true) (h0 : H.f 0 = .ro 1 (ints a.start)) (h1 : H.f 1 = .ro 5 (ints (flat a.es))) (h2 : H.f i = .cells 6 a.cs) :
    CallW Try.prog 11 [.int .i64 200, .int .i64 1000, .int .i64 40, .slice i 0 1] H fun v H' => H' = H ∧ ∃ b, v = .bool b ∧ (b = true → a.Fits) := by
  have hn := Nat.le_of_ble_eq_true hn
  have hi := Nat.le_of_ble_eq_true hi
  exact CallW.reads (H := H) (few11b a hf) (by rintro v ⟨b, rfl, _⟩; rfl) (renL [0, 1, i] H.n) (fun j hj => by
    have hj : j < 3 := hj
    rcases j with _ | _ | _ | j
    · exact ⟨by show 0 < H.n; omega, fun h => h, by show BSub _ (.ro 1 (ints a.start)) (H.f 0); rw [h0]; exact .roI⟩
    · exact ⟨by show 1 < H.n; omega, fun h => h, by show BSub _ (.ro 5 (ints (flat a.es))) (H.f 1); rw [h1]; exact .roI⟩
    · exact ⟨by show i < H.n; omega, fun h => h, .inr (.inr ⟨6, a.cs, rfl, by show H.f i = _; rw [h2]; rfl⟩)⟩
    · omega) (fun j hj => by
    have hj : 3 ≤ j := hj
    show H.n ≤ (([0, 1, i] : List Nat)[j]?).getD (H.n + j)
    rw [List.getElem?_eq_none (by show 3 ≤ j; exact hj)]
    show H.n ≤ H.n + j
    omega)
theorem det16 (a : Au) (hf : a.Fits) : CallW Try.prog 16 [a.av] a.heap fun v _ => ∃ b e, v = .tuple [.bool b, .int .i64 e] ∧ a.DetOk b e := by
  refine CallW.sym Try.func16 rfl (by kernel_rfl) ?_
  conv => whnf
  iterate 1 (refine Gets.of _ rfl ?_; conv => whnf)
  refine CallS.of (by kernel_rfl) (valid24c a hf _ rfl rfl rfl) rfl ?_
  rintro _ _ ⟨rfl, b, rfl, hb⟩
  cases b <;> conv => whnf
  · exact ⟨_, _, rfl, .inl ⟨fun h => absurd (hb.2 h) (by simp), rfl, rfl⟩⟩
  have ho := hb.1 rfl
  iterate 1 (refine Gets.of _ rfl ?_; conv => whnf)
  refine CallS.of (by kernel_rfl) (one29c a hf ho _ rfl rfl rfl) rfl ?_
  rintro _ _ ⟨rfl, b, rfl, hb'⟩
  conv => whnf
  exact ⟨_, _, rfl, .inr ⟨ho, rfl, by rw [hb', a.sep_iff hf ho, and_comm]⟩⟩
theorem det16c (a : Au) (hf : a.Fits) (H : AHeap) (hn : Nat.ble 2 H.n = true) (h0 : H.f 0 = .ro 1 (ints a.start)) (h1 : H.f 1 = .ro 5 (ints (flat a.es))) : CallW Try.prog 16 [a.av] H fun v H' => H' = H ∧ ∃ b e, v = .tuple [.bool b, .int .i64 e] ∧ a.DetOk b e :=
  read2 (det16 a hf) (by rintro v ⟨b, e, rfl, _⟩; rfl) H hn h0 h1 rfl
theorem Au.DetOk.same {a : Au} {b b' : Bool} {e e' : Int} (h : a.DetOk b e) (k : a.DetOk b' e') : b' = b ∧ e' = e := by
  rcases h with ⟨h1, rfl, rfl⟩ | ⟨h1, rfl, h2⟩ <;> rcases k with ⟨k1, rfl, rfl⟩ | ⟨k1, rfl, k2⟩
  · exact ⟨rfl, rfl⟩
  · exact absurd k1 h1
  · exact absurd h1 k1
  · exact ⟨by cases b <;> cases b' <;> simp_all, rfl⟩
theorem Au.CompOk.same {a : Au} {b b' : Bool} {e e' : Int} (h : a.CompOk b e) (k : a.CompOk b' e') : b' = b ∧ e' = e := by
  rcases h with ⟨h1, rfl, rfl⟩ | ⟨h1, rfl, h2⟩ <;> rcases k with ⟨k1, rfl, rfl⟩ | ⟨k1, rfl, k2⟩
  · exact ⟨rfl, rfl⟩
  · exact absurd k1 h1
  · exact absurd h1 k1
  · exact ⟨by cases b <;> cases b' <;> simp_all, rfl⟩
theorem list26n : CallW Try.prog 26 [.nilSlice, .nilSlice] emptyH fun v _ => v = .bool true := by
  refine CallW.sym Try.func26 rfl (by kernel_rfl) ?_
  conv => whnf
  repeat (refine Gets.of _ rfl ?_; conv => whnf)
  refine Fork.mk (fun h => by simp at h) (fun _ => ?_)
  conv => whnf
  repeat (refine Gets.of _ rfl ?_; conv => whnf)
  refine CodeS.loopS (σ := Unit) (fun _ => [(0, .nilSlice), (1, .nilSlice), (4, .bool false), (12, .int .i64 0), (13, .int .i64 0)]) (fun _ => _) (fun _ => True) (fun _ => 0) () (by kernel_rfl) trivial ⟨rfl, rfl, rfl, rfl, rfl, trivial⟩ rfl ?_
  intro _ _
  conv => whnf
  refine Fork.mk (fun h => absurd h (by decide)) (fun _ => ?_)
  conv => whnf
theorem bools25n : CallW Try.prog 25 [.nilSlice, .nilSlice] emptyH fun v _ => v = .bool true := by
  refine CallW.sym Try.func25 rfl (by kernel_rfl) ?_
  conv => whnf
  repeat (refine Gets.of _ rfl ?_; conv => whnf)
  refine Fork.mk (fun h => by simp at h) (fun _ => ?_)
  conv => whnf
  repeat (refine Gets.of _ rfl ?_; conv => whnf)
  refine CodeS.loopS (σ := Unit) (fun _ => [(0, .nilSlice), (1, .nilSlice), (4, .bool false), (12, .int .i64 0), (13, .int .i64 0)]) (fun _ => _) (fun _ => True) (fun _ => 0) () (by kernel_rfl) trivial ⟨rfl, rfl, rfl, rfl, rfl, trivial⟩ rfl ?_
  intro _ _
  conv => whnf
  refine Fork.mk (fun h => absurd h (by decide)) (fun _ => ?_)
  conv => whnf
theorem list26nc (H : AHeap) : CallW Try.prog 26 [.nilSlice, .nilSlice] H fun v H' => H' = H ∧ v = .bool true := CallW.closed list26n rfl (by rintro _ rfl; rfl) H
theorem bools25nc (H : AHeap) : CallW Try.prog 25 [.nilSlice, .nilSlice] H fun v H' => H' = H ∧ v = .bool true := CallW.closed bools25n rfl (by rintro _ rfl; rfl) H
theorem list26c (l : List Int) (hll : l.length ≤ 4294967296) (H : AHeap) (i j : Nat) (hi : Nat.blt i H.n = true) (hj : Nat.blt j H.n = true) (fi : H.f i = .cells 1 (ints l)) (fj : H.f j = .cells 1 (ints l)) : CallW Try.prog 26 [.slice i 0 l.length, .slice j 0 l.length] H fun v H' => H' = H ∧ v = .bool true := by
  have hi := Nat.le_of_ble_eq_true hi
  have hj := Nat.le_of_ble_eq_true hj
  exact CallW.reads (H := H) (list26 l hll) (by rintro _ rfl; rfl) (renL [i, j] H.n) (fun k hk => by
    have hk : k < 2 := hk
    rcases k with _ | _ | k
    · exact ⟨hi, fun h => h, .inr (.inr ⟨1, ints l, rfl, by show H.f i = _; rw [fi, rens_ints]⟩)⟩
    · exact ⟨hj, fun h => h, .inr (.inr ⟨1, ints l, rfl, by show H.f j = _; rw [fj, rens_ints]⟩)⟩
    · omega) (fun k hk => by
    have hk : 2 ≤ k := hk
    show H.n ≤ (([i, j] : List Nat)[k]?).getD (H.n + k)
    rw [List.getElem?_eq_none (by show 2 ≤ k; exact hk)]
    show H.n ≤ H.n + k
    omega)
theorem bools25c (l : List Bool) {n : Nat} (hn : l.length = n) (hll : n ≤ 4294967296) (H : AHeap) (i j : Nat) (hi : Nat.blt i H.n = true) (hj : Nat.blt j H.n = true) (fi : H.f i = .cells 1 (bls l)) (fj : H.f j = .cells 1 (bls l)) : CallW Try.prog 25 [.slice i 0 n, .slice j 0 n] H fun v H' => H' = H ∧ v = .bool true := by
  subst hn
  have hi := Nat.le_of_ble_eq_true hi
  have hj := Nat.le_of_ble_eq_true hj
  exact CallW.reads (H := H) (bools25 l hll) (by rintro _ rfl; rfl) (renL [i, j] H.n) (fun k hk => by
    have hk : k < 2 := hk
    rcases k with _ | _ | k
    · exact ⟨hi, fun h => h, .inr (.inr ⟨1, bls l, rfl, by show H.f i = _; rw [fi, rens_bls]⟩)⟩
    · exact ⟨hj, fun h => h, .inr (.inr ⟨1, bls l, rfl, by show H.f j = _; rw [fj, rens_bls]⟩)⟩
    · omega) (fun k hk => by
    have hk : 2 ≤ k := hk
    show H.n ≤ (([i, j] : List Nat)[k]?).getD (H.n + k)
    rw [List.getElem?_eq_none (by show 2 ≤ k; exact hk)]
    show H.n ≤ H.n + k
    omega)
theorem law5c (a : Au) (hf : a.Fits0) (s l : Int) : CallW Try.prog 5 [a.av, .int .i64 s, .int .i64 l] a.heap fun v _ => v = .bool true := by
  refine CallW.sym Try.func5 rfl (by kernel_rfl) ?_
  conv => whnf
  repeat (refine Gets.of _ rfl ?_; conv => whnf)
  refine CallS.of (by kernel_rfl) (few11bc a hf _ 3 rfl rfl rfl rfl rfl) rfl ?_
  rintro _ _ ⟨rfl, b, rfl, hb⟩
  cases b <;> conv => whnf
  · refine CallS.of (by kernel_rfl) (awake10 _) rfl ?_
    rintro _ _ ⟨rfl, rfl⟩
    conv => whnf
  have hF := hb rfl
  clear hb
  repeat (refine Gets.of _ rfl ?_; conv => whnf)
  refine CallS.of (by kernel_rfl) (det15c a hF _ rfl rfl rfl) rfl ?_
  rintro _ _ ⟨rfl, b, e, rfl, h1⟩
  conv => whnf
  repeat (refine Gets.of _ rfl ?_; conv => whnf)
  refine CallS.of (by kernel_rfl) (det16c a hF _ rfl rfl rfl) rfl ?_
  rintro _ _ ⟨rfl, b', e', rfl, h2⟩
  obtain ⟨rfl, rfl⟩ := h1.same h2
  clear h1 h2
  conv => whnf
  repeat (refine Gets.of _ rfl ?_; conv => whnf)
  refine CallS.of (by kernel_rfl) (complete17c a hF _ rfl rfl rfl) rfl ?_
  rintro _ _ ⟨rfl, c, g, rfl, h1⟩
  conv => whnf
  repeat (refine Gets.of _ rfl ?_; conv => whnf)
  refine CallS.of (by kernel_rfl) (complete18c a hF _ rfl rfl rfl) rfl ?_
  rintro _ _ ⟨rfl, c', g', rfl, h2⟩
  obtain ⟨rfl, rfl⟩ := h1.same h2
  clear h1 h2
  conv => whnf
  repeat (refine Gets.of _ rfl ?_; conv => whnf)
  refine CallS.of (by kernel_rfl) (reach19c a hF _ rfl rfl rfl) rfl ?_
  rintro _ _ ⟨bs, hk, rfl⟩
  rcases hk with ⟨ho, rfl, rfl⟩ | ⟨ho, L, hL, rfl, rfl⟩
  all_goals conv => whnf
  · repeat (refine Gets.of _ rfl ?_; conv => whnf)
    refine CallS.of (by kernel_rfl) (reach20c a hF _ rfl rfl rfl) rfl ?_
    rintro _ _ ⟨bs, ⟨_, rfl, rfl⟩ | ⟨ho', _⟩, rfl⟩
    case inr => exact absurd ho' ho
    conv => whnf
    repeat (refine Gets.of _ rfl ?_; conv => whnf)
    refine CallS.of (by kernel_rfl) (step21c a hF s l _ rfl rfl rfl) rfl ?_
    rintro _ _ ⟨bs, ⟨_, rfl, rfl⟩ | ⟨ho', _⟩ | ⟨ho', _⟩ | ⟨ho', _⟩, rfl⟩
    case inr.inl => exact absurd ho' ho
    case inr.inr.inl => exact absurd ho' ho
    case inr.inr.inr => exact absurd ho' ho
    conv => whnf
    repeat (refine Gets.of _ rfl ?_; conv => whnf)
    refine CallS.of (by kernel_rfl) (step22c a hF s l _ rfl rfl rfl) rfl ?_
    rintro _ _ ⟨bs, ⟨_, rfl, rfl⟩ | ⟨ho', _⟩ | ⟨ho', _⟩ | ⟨ho', _⟩, rfl⟩
    case inr.inl => exact absurd ho' ho
    case inr.inr.inl => exact absurd ho' ho
    case inr.inr.inr => exact absurd ho' ho
    conv => whnf
    refine CodeS.drawI [2] [(0, true, false), (2, true, false), (1, false, true), (3, false, true), (4, true, false), (5, true, false), (6, true, false), (7, true, false), (8, true, false), (9, true, false), (10, true, false), (11, true, false), (12, true, false), (13, true, false), (14, true, false), (15, true, false), (16, true, false), (17, true, false), (18, true, false), (19, true, false), (20, true, false), (21, true, false), (22, true, false), (23, true, false), (24, true, false), (25, true, false), (26, true, false), (27, true, false), (28, false, true), (29, true, false), (30, true, false), (31, true, false), (32, true, false), (33, true, false), (34, true, false), (35, true, false), (36, true, false), (37, true, false), (38, false, true), (39, true, false), (40, true, false), (41, true, false), (42, true, false), (43, true, false), (44, true, false), (45, true, false), (46, false, true), (47, true, false), (48, true, false)] mixed (by kernel_rfl) (.cons ⟨rfl, trivial⟩ .nil) ?_
    conv => whnf
    repeat (refine Gets.of _ rfl ?_; conv => whnf)
    refine CallPS.of (by kernel_rfl) (valid23c a hF _ rfl rfl rfl) rfl ?_
    rintro _ _ ⟨rfl, b1, rfl, hb1⟩
    conv => whnf
    refine ⟨fun _ i hi => rfl, ?_⟩
    conv => whnf
    repeat (refine Gets.of _ rfl ?_; conv => whnf)
    refine CallPS.of (by kernel_rfl) (valid24c a hF _ rfl rfl rfl) rfl ?_
    rintro _ _ ⟨rfl, b2, rfl, hb2⟩
    obtain rfl : b2 = b1 := by cases b1 <;> cases b2 <;> simp_all
    conv => whnf
    refine ⟨fun _ i hi => rfl, ?_⟩
    conv => whnf
    repeat (refine Fork.mk (fun _ => ?_) (fun h => by simp at h); conv => whnf)
    refine CallPS.of (by kernel_rfl) (bools25nc _) rfl ?_
    rintro _ _ ⟨rfl, rfl⟩
    conv => whnf
    refine ⟨fun _ i hi => rfl, ?_⟩
    conv => whnf
    repeat (refine Fork.mk (fun _ => ?_) (fun h => by simp at h); conv => whnf)
    refine CallPS.of (by kernel_rfl) (list26nc _) rfl ?_
    rintro _ _ ⟨rfl, rfl⟩
    conv => whnf
    refine ⟨fun _ i hi => rfl, ?_⟩
    conv => whnf
    repeat (refine Fork.mk (fun _ => ?_) (fun h => by simp at h); conv => whnf)
    refine CallPS.of (by kernel_rfl) (awake10 _) rfl ?_
    rintro _ _ ⟨rfl, rfl⟩
    conv => whnf
    refine ⟨fun _ i hi => rfl, ?_⟩
    conv => whnf
    rfl
  · repeat (refine Gets.of _ rfl ?_; conv => whnf)
    refine CallS.of (by kernel_rfl) (reach20c a hF _ rfl rfl rfl) rfl ?_
    rintro _ _ ⟨bs, ⟨ho', _⟩ | ⟨_, L', hL', rfl, rfl⟩, rfl⟩
    case inl => exact absurd ho ho'
    obtain rfl : L = L' := hL.same hL'
    clear hL'
    have hs1 := ho.1.2.2.2.1
    have hne := ho.1.2.2.2.2.2.2.2
    have hol := a.outs_len s l a.es.length
    conv => whnf
    repeat (refine Gets.of _ rfl ?_; conv => whnf)
    refine CallS.of (by kernel_rfl) (step21c a hF s l _ rfl rfl rfl) rfl ?_
    rintro _ _ ⟨bs, ⟨ho', _⟩ | ⟨_, hi, rfl, rfl⟩ | ⟨_, hi, hz, rfl, rfl⟩ | ⟨_, hi, hz, rfl, rfl⟩, rfl⟩
    · exact absurd ho ho'
    · conv => whnf
      repeat (refine Gets.of _ rfl ?_; conv => whnf)
      refine CallS.of (by kernel_rfl) (step22c a hF s l _ rfl rfl rfl) rfl ?_
      rintro _ _ ⟨bs, ⟨ho', _⟩ | ⟨_, hi', rfl, rfl⟩ | ⟨_, hi', hz', rfl, rfl⟩ | ⟨_, hi', hz', rfl, rfl⟩, rfl⟩
      case inl => exact absurd ho ho'
      case inr.inr.inl => exact absurd hi' hi
      case inr.inr.inr => exact absurd hi' hi
      conv => whnf
      refine CodeS.drawI [2] [(0, true, false), (2, true, false), (1, false, true), (3, false, true), (4, true, false), (5, true, false), (6, true, false), (7, true, false), (8, true, false), (9, true, false), (10, true, false), (11, true, false), (12, true, false), (13, true, false), (14, true, false), (15, true, false), (16, true, false), (17, true, false), (18, true, false), (19, true, false), (20, true, false), (21, true, false), (22, true, false), (23, true, false), (24, true, false), (25, true, false), (26, true, false), (27, true, false), (28, false, true), (29, true, false), (30, true, false), (31, true, false), (32, true, false), (33, true, false), (34, true, false), (35, true, false), (36, true, false), (37, true, false), (38, false, true), (39, true, false), (40, true, false), (41, true, false), (42, true, false), (43, true, false), (44, true, false), (45, true, false), (46, false, true), (47, true, false), (48, true, false)] mixed (by kernel_rfl) (.cons ⟨rfl, trivial⟩ .nil) ?_
      conv => whnf
      repeat (refine Gets.of _ rfl ?_; conv => whnf)
      refine CallPS.of (by kernel_rfl) (valid23c a hF _ rfl rfl rfl) rfl ?_
      rintro _ _ ⟨rfl, b1, rfl, hb1⟩
      conv => whnf
      refine ⟨fun _ i hi => rfl, ?_⟩
      conv => whnf
      repeat (refine Gets.of _ rfl ?_; conv => whnf)
      refine CallPS.of (by kernel_rfl) (valid24c a hF _ rfl rfl rfl) rfl ?_
      rintro _ _ ⟨rfl, b2, rfl, hb2⟩
      obtain rfl : b2 = b1 := by cases b1 <;> cases b2 <;> simp_all
      conv => whnf
      refine ⟨fun _ i hi => rfl, ?_⟩
      conv => whnf
      repeat (refine Fork.mk (fun _ => ?_) (fun h => by simp at h); conv => whnf)
      refine CallPS.of (by kernel_rfl) (bools25c L hL.1 (by omega) _ 4 5 rfl rfl rfl rfl) rfl ?_
      rintro _ _ ⟨rfl, rfl⟩
      conv => whnf
      refine ⟨fun _ i hi => rfl, ?_⟩
      conv => whnf
      repeat (refine Fork.mk (fun _ => ?_) (fun h => by simp at h); conv => whnf)
      refine CallPS.of (by kernel_rfl) (list26nc _) rfl ?_
      rintro _ _ ⟨rfl, rfl⟩
      conv => whnf
      refine ⟨fun _ i hi => rfl, ?_⟩
      conv => whnf
      repeat (refine Fork.mk (fun _ => ?_) (fun h => by simp at h); conv => whnf)
      refine CallPS.of (by kernel_rfl) (awake10 _) rfl ?_
      rintro _ _ ⟨rfl, rfl⟩
      conv => whnf
      refine ⟨fun _ i hi => rfl, ?_⟩
      conv => whnf
      rfl
    · conv => whnf
      repeat (refine Gets.of _ rfl ?_; conv => whnf)
      refine CallS.of (by kernel_rfl) (step22c a hF s l _ rfl rfl rfl) rfl ?_
      rintro _ _ ⟨bs, ⟨ho', _⟩ | ⟨_, hi', rfl, rfl⟩ | ⟨_, hi', hz', rfl, rfl⟩ | ⟨_, hi', hz', rfl, rfl⟩, rfl⟩
      case inl => exact absurd ho ho'
      case inr.inl => exact absurd hi hi'
      case inr.inr.inr => exact absurd hz hz'
      conv => whnf
      refine CodeS.drawI [2] [(0, true, false), (2, true, false), (1, false, true), (3, false, true), (4, true, false), (5, true, false), (6, true, false), (7, true, false), (8, true, false), (9, true, false), (10, true, false), (11, true, false), (12, true, false), (13, true, false), (14, true, false), (15, true, false), (16, true, false), (17, true, false), (18, true, false), (19, true, false), (20, true, false), (21, true, false), (22, true, false), (23, true, false), (24, true, false), (25, true, false), (26, true, false), (27, true, false), (28, false, true), (29, true, false), (30, true, false), (31, true, false), (32, true, false), (33, true, false), (34, true, false), (35, true, false), (36, true, false), (37, true, false), (38, false, true), (39, true, false), (40, true, false), (41, true, false), (42, true, false), (43, true, false), (44, true, false), (45, true, false), (46, false, true), (47, true, false), (48, true, false)] mixed (by kernel_rfl) (.cons ⟨rfl, trivial⟩ .nil) ?_
      conv => whnf
      repeat (refine Gets.of _ rfl ?_; conv => whnf)
      refine CallPS.of (by kernel_rfl) (valid23c a hF _ rfl rfl rfl) rfl ?_
      rintro _ _ ⟨rfl, b1, rfl, hb1⟩
      conv => whnf
      refine ⟨fun _ i hi => rfl, ?_⟩
      conv => whnf
      repeat (refine Gets.of _ rfl ?_; conv => whnf)
      refine CallPS.of (by kernel_rfl) (valid24c a hF _ rfl rfl rfl) rfl ?_
      rintro _ _ ⟨rfl, b2, rfl, hb2⟩
      obtain rfl : b2 = b1 := by cases b1 <;> cases b2 <;> simp_all
      conv => whnf
      refine ⟨fun _ i hi => rfl, ?_⟩
      conv => whnf
      repeat (refine Fork.mk (fun _ => ?_) (fun h => by simp at h); conv => whnf)
      refine CallPS.of (by kernel_rfl) (bools25c L hL.1 (by omega) _ 4 5 rfl rfl rfl rfl) rfl ?_
      rintro _ _ ⟨rfl, rfl⟩
      conv => whnf
      refine ⟨fun _ i hi => rfl, ?_⟩
      conv => whnf
      repeat (refine Fork.mk (fun _ => ?_) (fun h => by simp at h); conv => whnf)
      refine CallPS.of (by kernel_rfl) (list26nc _) rfl ?_
      rintro _ _ ⟨rfl, rfl⟩
      conv => whnf
      refine ⟨fun _ i hi => rfl, ?_⟩
      conv => whnf
      repeat (refine Fork.mk (fun _ => ?_) (fun h => by simp at h); conv => whnf)
      refine CallPS.of (by kernel_rfl) (awake10 _) rfl ?_
      rintro _ _ ⟨rfl, rfl⟩
      conv => whnf
      refine ⟨fun _ i hi => rfl, ?_⟩
      conv => whnf
      rfl
    · conv => whnf
      repeat (refine Gets.of _ rfl ?_; conv => whnf)
      refine CallS.of (by kernel_rfl) (step22c a hF s l _ rfl rfl rfl) rfl ?_
      rintro _ _ ⟨bs, ⟨ho', _⟩ | ⟨_, hi', rfl, rfl⟩ | ⟨_, hi', hz', rfl, rfl⟩ | ⟨_, hi', hz', rfl, rfl⟩, rfl⟩
      case inl => exact absurd ho ho'
      case inr.inl => exact absurd hi hi'
      case inr.inr.inl => exact absurd hz' hz
      conv => whnf
      refine CodeS.drawI [2] [(0, true, false), (2, true, false), (1, false, true), (3, false, true), (4, true, false), (5, true, false), (6, true, false), (7, true, false), (8, true, false), (9, true, false), (10, true, false), (11, true, false), (12, true, false), (13, true, false), (14, true, false), (15, true, false), (16, true, false), (17, true, false), (18, true, false), (19, true, false), (20, true, false), (21, true, false), (22, true, false), (23, true, false), (24, true, false), (25, true, false), (26, true, false), (27, true, false), (28, false, true), (29, true, false), (30, true, false), (31, true, false), (32, true, false), (33, true, false), (34, true, false), (35, true, false), (36, true, false), (37, true, false), (38, false, true), (39, true, false), (40, true, false), (41, true, false), (42, true, false), (43, true, false), (44, true, false), (45, true, false), (46, false, true), (47, true, false), (48, true, false)] mixed (by kernel_rfl) (.cons ⟨rfl, trivial⟩ .nil) ?_
      conv => whnf
      repeat (refine Gets.of _ rfl ?_; conv => whnf)
      refine CallPS.of (by kernel_rfl) (valid23c a hF _ rfl rfl rfl) rfl ?_
      rintro _ _ ⟨rfl, b1, rfl, hb1⟩
      conv => whnf
      refine ⟨fun _ i hi => rfl, ?_⟩
      conv => whnf
      repeat (refine Gets.of _ rfl ?_; conv => whnf)
      refine CallPS.of (by kernel_rfl) (valid24c a hF _ rfl rfl rfl) rfl ?_
      rintro _ _ ⟨rfl, b2, rfl, hb2⟩
      obtain rfl : b2 = b1 := by cases b1 <;> cases b2 <;> simp_all
      conv => whnf
      refine ⟨fun _ i hi => rfl, ?_⟩
      conv => whnf
      repeat (refine Fork.mk (fun _ => ?_) (fun h => by simp at h); conv => whnf)
      refine CallPS.of (by kernel_rfl) (bools25c L hL.1 (by omega) _ 4 5 rfl rfl rfl rfl) rfl ?_
      rintro _ _ ⟨rfl, rfl⟩
      conv => whnf
      refine ⟨fun _ i hi => rfl, ?_⟩
      conv => whnf
      repeat (refine Fork.mk (fun _ => ?_) (fun h => by simp at h); conv => whnf)
      refine CallPS.of (by kernel_rfl) (list26c (a.outs s l a.es.length) (by omega) _ 6 7 rfl rfl rfl rfl) rfl ?_
      rintro _ _ ⟨rfl, rfl⟩
      conv => whnf
      refine ⟨fun _ i hi => rfl, ?_⟩
      conv => whnf
      repeat (refine Fork.mk (fun _ => ?_) (fun h => by simp at h); conv => whnf)
      refine CallPS.of (by kernel_rfl) (awake10 _) rfl ?_
      rintro _ _ ⟨rfl, rfl⟩
      conv => whnf
      refine ⟨fun _ i hi => rfl, ?_⟩
      conv => whnf
      rfl
theorem law5 : ∀ (H : AHeap) (avs0 avs1 avs2 : List AVal), NoRw H → Shape Try.prog H 4 32 avs0 → Shape Try.prog H 4 3 avs1 → Shape Try.prog H 4 3 avs2 → CallW Try.prog 5 [argOf Try.prog 32 avs0, argOf Try.prog 3 avs1, argOf Try.prog 3 avs2] H fun v _ => v = .bool true := by
  intro H avs0 avs1 avs2 hN h0 h1 h2
  obtain ⟨a, i0, i1, rfl, a1, a2, a3, a4, hf⟩ := shape_aut h0
  obtain ⟨s, rfl, _⟩ := shape_int h1
  obtain ⟨l, rfl, _⟩ := shape_int h2
  have e0 : ∀ l, argOf Try.prog 32 l = .agg l := fun l => by unfold argOf; rw [Try.underlying32]
  have e1 : ∀ m, argOf Try.prog 3 [.int .i64 m] = .int .i64 m := fun m => by unfold argOf; rw [Try.underlying3]; rfl
  rw [e0, e1, e1]
  have := CallW.reads (H := H) (law5c a hf s l) (by rintro v rfl; rfl) (renL [i0, i1] H.n) (fun i hi => by
    have hi : i < 2 := hi
    rcases i with _ | _ | i
    · exact ⟨a1, fun h => h, by show BSub _ (.ro 1 (ints a.start)) (H.f i0); rw [a3]; exact .roI⟩
    · exact ⟨a2, fun h => h, by show BSub _ (.ro 5 (ints (flat a.es))) (H.f i1); rw [a4]; exact .roI⟩
    · omega) (fun i hi => by
    have hi : 2 ≤ i := hi
    show H.n ≤ (([i0, i1] : List Nat)[i]?).getD (H.n + i)
    rw [List.getElem?_eq_none (by show 2 ≤ i; exact hi)]
    show H.n ≤ H.n + i
    omega)
  exact this.mono fun v H' h => h.2
end Go.Proofs.Ytdahmcgncpoliaa
