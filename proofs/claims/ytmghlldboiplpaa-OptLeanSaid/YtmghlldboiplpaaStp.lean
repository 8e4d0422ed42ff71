/- Steps: the values of all variables, the answer and the next latches. -/
import Derived.Test.YtmghlldboiplpaaVal
import Derived.Test.YtmghlldboiplpaaVkD
set_option linter.unusedVariables false
set_option linter.unusedSimpArgs false
set_option maxRecDepth 100000
set_option maxHeartbeats 1000000
namespace Go.Proofs.Ytmghlldboiplpaa
open Go Go.Vh Go.Vk Go.Proofs
/-- The value of a literal. -/
def lit (v : List Bool) (l : Int) : Bool := v.getD (l / 2).toNat false != (l % 2 == 1)
def Cir.many (c : Cir) : Nat := 2 ^ c.inp.toNat
def Cir.B (c : Cir) : Nat := 2 ^ c.latch.length
def gfold : List (Int × Int) → List Bool → List Bool
  | [], v => v
  | g :: gs, v => gfold gs (v ++ [lit v g.1 && lit v g.2])
def bitsOf (n w : Nat) : List Bool := (List.range w).map n.testBit
def vals0 (c : Cir) (inp st : Nat) : List Bool := [false] ++ bitsOf inp c.inp.toNat ++ bitsOf st c.latch.length
def Cir.vals (c : Cir) (inp st : Nat) : List Bool := gfold c.gates (vals0 c inp st)
def Cir.outv (c : Cir) (inp st : Nat) : Nat := packN (fun j => lit (c.vals inp st) (c.out.getD j 0)) c.out.length
def Cir.nxt (c : Cir) (inp st : Nat) : Nat := packN (fun j => lit (c.vals inp st) (c.latch.getD j 0)) c.latch.length
theorem bitsOf_succ (n w : Nat) : bitsOf n (w + 1) = bitsOf n w ++ [n.testBit w] := by simp [bitsOf, List.range_succ]
theorem bitsOf_length (n w : Nat) : (bitsOf n w).length = w := by simp [bitsOf]
theorem vals0_length (c : Cir) (inp st : Nat) : (vals0 c inp st).length = 1 + c.inp.toNat + c.latch.length := by simp [vals0, bitsOf_length]; omega
theorem gfold_append : ∀ (gs hs : List (Int × Int)) (v : List Bool), gfold (gs ++ hs) v = gfold hs (gfold gs v)
  | [], hs, v => rfl
  | g :: gs, hs, v => gfold_append gs hs _
theorem gfold_length : ∀ (gs : List (Int × Int)) (v : List Bool), (gfold gs v).length = v.length + gs.length
  | [], v => rfl
  | g :: gs, v => by show (gfold gs _).length = _; rw [gfold_length gs]; simp; omega
theorem take_succ_getD {α : Type} (l : List α) (j : Nat) (d : α) (h : j < l.length) : l.take (j + 1) = l.take j ++ [l.getD j d] := by
  rw [List.take_succ_eq_append_getElem h, List.getD_eq_getElem?_getD, List.getElem?_eq_getElem h]; rfl
theorem vals_length (c : Cir) (inp st : Nat) : (c.vals inp st).length = 1 + c.inp.toNat + c.latch.length + c.gates.length := by rw [Cir.vals, gfold_length, vals0_length]
theorem outv_lt (c : Cir) (inp st : Nat) : c.outv inp st < 2 ^ c.out.length := packN_lt _ _
theorem nxt_lt (c : Cir) (inp st : Nat) : c.nxt inp st < 2 ^ c.latch.length := packN_lt _ _
theorem is77 (vs : List Bool) (n : Nat) (hn : vs.length = n) (l : Int) (h0 : 0 ≤ l) (h2 : l ≤ 9223372036854775807) (h1 : l / 2 < n) (H : AHeap) (i : Nat) (hf : (H.f i).cs = bls vs) : CallW Try.prog 77 [.slice i 0 n, .int .i64 l] H fun v H' => H' = H ∧ IsB v (lit vs l = true) := by
  refine CallW.symK (cuts := []) Try.func77 rfl (by kernel_rfl) ?_
  conv => whnf
  repeat' first | ((with_reducible refine Gets.quoI ?_ ?_ ?_ ?_); (· omega); (· omega); (· omega); conv => whnf) | ((with_reducible refine Gets.remN ?_ ?_ ?_); (· omega); (· omega); conv => whnf) | (refine Gets.ixI rfl rfl (by omega) (by omega) ?_; conv => whnf) | (refine Gets.ldB rfl (by first | rfl | assumption) (by first | omega | exact Nat.le_of_ble_eq_true rfl) ?_; conv => whnf) | (refine Fork.dec (fun _ => ?_) (fun _ => ?_) <;> first | (exfalso; omega) | (conv => whnf)) | (refine Fork.any (fun _ => ?_) (fun _ => ?_) <;> (conv => whnf))
  all_goals
    refine ⟨rfl, ?_⟩
    first | exact .t (by simp_all [lit]) | exact .f (by simp_all [lit])
theorem is76 (vs : List Bool) (n : Nat) (hn : vs.length = n) (l : Int) (h0 : 0 ≤ l) (h2 : l ≤ 9223372036854775807) (h1 : l / 2 < n) (H : AHeap) (i : Nat) (hf : (H.f i).cs = bls vs) : CallW Try.prog 76 [.slice i 0 n, .int .i64 l] H fun v H' => H' = H ∧ IsB v (lit vs l = true) := by
  refine CallW.symK (cuts := []) Try.func76 rfl (by kernel_rfl) ?_
  conv => whnf
  repeat' first | ((with_reducible refine Gets.quoI ?_ ?_ ?_ ?_); (· omega); (· omega); (· omega); conv => whnf) | ((with_reducible refine Gets.remN ?_ ?_ ?_); (· omega); (· omega); conv => whnf) | (refine Gets.ixI rfl rfl (by omega) (by omega) ?_; conv => whnf) | (refine Gets.ldB rfl (by first | rfl | assumption) (by first | omega | exact Nat.le_of_ble_eq_true rfl) ?_; conv => whnf) | (refine Fork.dec (fun _ => ?_) (fun _ => ?_) <;> first | (exfalso; omega) | (conv => whnf)) | (refine Fork.any (fun _ => ?_) (fun _ => ?_) <;> (conv => whnf))
  all_goals
    refine ⟨rfl, ?_⟩
    first | exact .t (by simp_all [lit]) | exact .f (by simp_all [lit])
def Rng (c : Cir) (ls : List Int) (n : Nat) : Prop := ∀ k, k < ls.length → 0 ≤ ls.getD k 0 ∧ ls.getD k 0 ≤ 9223372036854775807 ∧ ls.getD k 0 / 2 < n
theorem bits63 (c : Cir) (vs : List Bool) (n : Nat) (hn : vs.length = n) (ls : List Int) (hl : ls.length ≤ 62) (hr : Rng c ls n) (H : AHeap) (i k : Nat) (hf : (H.f i).cs = bls vs) (hg : (H.f k).cs = ints ls) :
    CallW Try.prog 63 [.slice i 0 n, .view k 0 ls.length] H fun v H' => H' = H ∧ v = .int .i64 (packN (fun j => lit vs (ls.getD j 0)) ls.length : Nat) := by
  refine CallW.symK (cuts := []) Try.func63 rfl (by kernel_rfl) ?_
  conv => whnf
  repeat' (refine Gets.of _ rfl ?_; conv => whnf)
  generalize hfn : (fun j => lit vs (ls.getD j 0)) = fn
  have hfn' : ∀ j, fn j = lit vs (ls.getD j 0) := fun j => by rw [← hfn]
  refine CodeS.loopSK (cuts := []) (σ := Nat) (fun j => [(0, .slice i 0 n), (5, .int .i64 (packN fn j : Nat)), (8, .view k 0 ls.length), (9, .int .i64 ls.length), (10, .int .i64 j)]) (fun _ => H) (fun j => j ≤ ls.length) (fun j => ls.length - j) 0 (by kernel_rfl) (Nat.zero_le _) ⟨rfl, rfl, rfl, rfl, rfl, trivial⟩ rfl ?_
  intro j g1
  conv => whnf
  repeat' first | (refine Gets.ix1v rfl rfl (by omega) ?_; conv => whnf) | (refine Gets.ldI rfl (by first | rfl | assumption) (by first | omega | exact Nat.le_of_ble_eq_true rfl) ?_; conv => whnf) | (refine Fork.dec (fun _ => ?_) (fun _ => ?_) <;> first | (exfalso; omega) | (conv => whnf))
  · have hj : j < ls.length := by omega
    obtain ⟨r1, r2, r3⟩ := hr j hj
    refine CallS.of (by kernel_rfl) (is77 vs n hn (ls.getD j 0) r1 r2 r3 H i hf) rfl ?_
    rintro _ _ ⟨rfl, hp | hp⟩
    all_goals conv => whnf
    all_goals
      repeat' first | (refine Gets.orN (Nat.lt_of_lt_of_le (packN_lt _ _) (Nat.pow_le_pow_right (by decide) (by omega))) (Nat.pow_lt_pow_right (by decide) (by omega)) ?_; conv => whnf) | ((with_reducible refine Gets.shlN ?_ ?_); (· omega); conv => whnf) | ((with_reducible refine Gets.addI ?_ ?_ ?_); (· omega); (· omega); conv => whnf)
    · refine ⟨j + 1, by omega, by omega, ⟨rfl, ?_, rfl, rfl, rfl, trivial⟩, rfl⟩
      have : packN fn (j + 1) = packN fn j ||| 2 ^ j := by rw [packN, hfn', if_pos hp]
      rw [this]
      rfl
    · refine ⟨j + 1, by omega, by omega, ⟨rfl, ?_, rfl, rfl, rfl, trivial⟩, rfl⟩
      have : packN fn (j + 1) = packN fn j := by rw [packN, hfn', if_neg hp]
      rw [this]
      rfl
  · obtain rfl : j = ls.length := by omega
    exact ⟨rfl, rfl⟩
def Cir.base (c : Cir) (k : Nat) : AHeap := ⟨4, fun i => match i with | 0 => .ro 1 (ints c.latch) | 1 => .ro 2 (ints (pflat c.gates)) | 2 => .ro 1 (ints c.out) | _ => .dead, fun i => match i with | 3 => k | _ => 0⟩
theorem valuesA (c : Cir) (ho : c.Ok) (inp st : Nat) (hi : inp < 4294967296) (hst : st < 4294967296) (old : List Bool) : CallW Try.prog 62 [c.av 0 1 2, .int .i64 inp, .int .i64 st, .nilSlice] (c.heap.alloc .dead) fun v H' => v = .slice 4 0 (c.vals inp st).length ∧ H' = (c.base 0).alloc (.cells 1 (bls (c.vals inp st))) := by
  obtain ⟨a1, a2, a3, a4, a5⟩ := ho.s
  refine CallW.symRK (cuts := []) Try.func62 rfl (by kernel_rfl) ?_
  conv => whnf
  repeat' (refine Gets.of _ rfl ?_; conv => whnf)
  refine CodeS.loopGK (cuts := []) (σ := Nat) (fun j => [(1, .int .i64 inp), (2, .int .i64 st), (3, .slice 5 0 (1 + j)), (4, .ptr 4 0), (18, .int .i64 c.inp), (19, .int .i64 j)]) (fun j => ((c.base 0).alloc c.box).alloc (.cells 1 (bls ([false] ++ bitsOf inp j)))) (fun j => j ≤ c.inp.toNat) (fun j => c.inp.toNat - j) 0 (renL [0, 1, 2, 3, 4, 6] 7) (by kernel_rfl) (Nat.zero_le _) ⟨rfl, rfl, rfl, rfl, rfl, rfl, trivial⟩ (EmbL.litsN [0, 1, 2, 3, 4, 6] rfl rfl rfl rfl (.cons ⟨rfl, .inl ⟨rfl, fun h => h⟩⟩ (.cons ⟨rfl, .inl ⟨rfl, fun h => h⟩⟩ (.cons ⟨rfl, .inl ⟨rfl, fun h => h⟩⟩ (.cons ⟨rfl, .inl ⟨rfl, fun h => h⟩⟩ .nil)))) (.cons ⟨rfl, .roI⟩ (.cons ⟨rfl, .roI⟩ (.cons ⟨rfl, .roI⟩ (.cons ⟨rfl, .gone⟩ (.cons ⟨rfl, .inl rfl⟩ (.cons ⟨rfl, .inl rfl⟩ .nil))))))) ?_
  intro j g1
  conv => whnf
  repeat' first | (refine Gets.appB1 (ti := tiB) rfl rfl rfl rfl rfl (by decide) rfl rfl (by simp [bitsOf_length]; omega) (by omega) ?_; conv => whnf) | ((with_reducible refine Gets.shrN ?_ ?_); (· omega); conv => whnf) | ((with_reducible refine Gets.andOne ?_ ?_); (· first | omega | exact Nat.lt_of_le_of_lt (Nat.shiftRight_le _ _) (by omega)); conv => whnf) | ((with_reducible refine Fork.bit (fun _ => ?_) (fun _ => ?_)) <;> (conv => whnf)) | ((with_reducible refine Gets.addI ?_ ?_ ?_); (· omega); (· omega); conv => whnf) | (refine Gets.of _ rfl ?_; conv => whnf) | (refine Fork.dec (fun _ => ?_) (fun _ => ?_) <;> first | (exfalso; omega) | (conv => whnf))
  · refine ⟨j + 1, renL [0, 1, 2, 3, 4, 7] 8, by omega, by omega, ⟨rfl, rfl, rfl, rfl, rfl, rfl, trivial⟩, EmbL.litsN [0, 1, 2, 3, 4, 7] rfl rfl rfl rfl (.cons ⟨rfl, .inl ⟨rfl, fun h => h⟩⟩ (.cons ⟨rfl, .inl ⟨rfl, fun h => h⟩⟩ (.cons ⟨rfl, .inl ⟨rfl, fun h => h⟩⟩ (.cons ⟨rfl, .inl ⟨rfl, fun h => h⟩⟩ .nil)))) (.cons ⟨rfl, .roI⟩ (.cons ⟨rfl, .roI⟩ (.cons ⟨rfl, .roI⟩ (.cons ⟨rfl, .gone⟩ (.cons ⟨rfl, .inl rfl⟩ (.cons ⟨rfl, .cellsBe (by rw [bitsOf_succ]; simp [*])⟩ .nil))))))⟩
  · refine ⟨j + 1, renL [0, 1, 2, 3, 4, 7] 8, by omega, by omega, ⟨rfl, rfl, rfl, rfl, rfl, rfl, trivial⟩, EmbL.litsN [0, 1, 2, 3, 4, 7] rfl rfl rfl rfl (.cons ⟨rfl, .inl ⟨rfl, fun h => h⟩⟩ (.cons ⟨rfl, .inl ⟨rfl, fun h => h⟩⟩ (.cons ⟨rfl, .inl ⟨rfl, fun h => h⟩⟩ (.cons ⟨rfl, .inl ⟨rfl, fun h => h⟩⟩ .nil)))) (.cons ⟨rfl, .roI⟩ (.cons ⟨rfl, .roI⟩ (.cons ⟨rfl, .roI⟩ (.cons ⟨rfl, .gone⟩ (.cons ⟨rfl, .inl rfl⟩ (.cons ⟨rfl, .cellsBe (by rw [bitsOf_succ]; simp [*])⟩ .nil))))))⟩
  obtain rfl : j = c.inp.toNat := by omega
  refine CodeS.loopGK (cuts := []) (σ := Nat) (fun j => [(2, .int .i64 st), (3, .slice 5 0 (1 + c.inp.toNat + j)), (4, .ptr 4 0), (33, .int .i64 c.latch.length), (34, .int .i64 j)]) (fun j => ((c.base 0).alloc c.box).alloc (.cells 1 (bls ([false] ++ bitsOf inp c.inp.toNat ++ bitsOf st j)))) (fun j => j ≤ c.latch.length) (fun j => c.latch.length - j) 0 (renL [0, 1, 2, 3, 4, 5] 6) (by kernel_rfl) (Nat.zero_le _) ⟨rfl, rfl, rfl, rfl, rfl, trivial⟩ (EmbL.litsN [0, 1, 2, 3, 4, 5] rfl rfl rfl rfl (.cons ⟨rfl, .inl ⟨rfl, fun h => h⟩⟩ (.cons ⟨rfl, .inl ⟨rfl, fun h => h⟩⟩ (.cons ⟨rfl, .inl ⟨rfl, fun h => h⟩⟩ (.cons ⟨rfl, .inl ⟨rfl, fun h => h⟩⟩ .nil)))) (.cons ⟨rfl, .roI⟩ (.cons ⟨rfl, .roI⟩ (.cons ⟨rfl, .roI⟩ (.cons ⟨rfl, .gone⟩ (.cons ⟨rfl, .inl rfl⟩ (.cons ⟨rfl, .cellsBe (by simp [bitsOf])⟩ .nil))))))) ?_
  intro j g2
  conv => whnf
  repeat' first | (refine Gets.appB1 (ti := tiB) rfl rfl rfl rfl rfl (by decide) rfl rfl (by simp [bitsOf_length]; omega) (by omega) ?_; conv => whnf) | ((with_reducible refine Gets.shrN ?_ ?_); (· omega); conv => whnf) | ((with_reducible refine Gets.andOne ?_ ?_); (· first | omega | exact Nat.lt_of_le_of_lt (Nat.shiftRight_le _ _) (by omega)); conv => whnf) | ((with_reducible refine Fork.bit (fun _ => ?_) (fun _ => ?_)) <;> (conv => whnf)) | ((with_reducible refine Gets.addI ?_ ?_ ?_); (· omega); (· omega); conv => whnf) | (refine Gets.of _ rfl ?_; conv => whnf) | (refine Fork.dec (fun _ => ?_) (fun _ => ?_) <;> first | (exfalso; omega) | (conv => whnf))
  · refine ⟨j + 1, renL [0, 1, 2, 3, 4, 7] 8, by omega, by omega, ⟨rfl, rfl, rfl, rfl, rfl, trivial⟩, EmbL.litsN [0, 1, 2, 3, 4, 7] rfl rfl rfl rfl (.cons ⟨rfl, .inl ⟨rfl, fun h => h⟩⟩ (.cons ⟨rfl, .inl ⟨rfl, fun h => h⟩⟩ (.cons ⟨rfl, .inl ⟨rfl, fun h => h⟩⟩ (.cons ⟨rfl, .inl ⟨rfl, fun h => h⟩⟩ .nil)))) (.cons ⟨rfl, .roI⟩ (.cons ⟨rfl, .roI⟩ (.cons ⟨rfl, .roI⟩ (.cons ⟨rfl, .gone⟩ (.cons ⟨rfl, .inl rfl⟩ (.cons ⟨rfl, .cellsBe (by rw [bitsOf_succ]; simp [*])⟩ .nil))))))⟩
  · refine ⟨j + 1, renL [0, 1, 2, 3, 4, 7] 8, by omega, by omega, ⟨rfl, rfl, rfl, rfl, rfl, trivial⟩, EmbL.litsN [0, 1, 2, 3, 4, 7] rfl rfl rfl rfl (.cons ⟨rfl, .inl ⟨rfl, fun h => h⟩⟩ (.cons ⟨rfl, .inl ⟨rfl, fun h => h⟩⟩ (.cons ⟨rfl, .inl ⟨rfl, fun h => h⟩⟩ (.cons ⟨rfl, .inl ⟨rfl, fun h => h⟩⟩ .nil)))) (.cons ⟨rfl, .roI⟩ (.cons ⟨rfl, .roI⟩ (.cons ⟨rfl, .roI⟩ (.cons ⟨rfl, .gone⟩ (.cons ⟨rfl, .inl rfl⟩ (.cons ⟨rfl, .cellsBe (by rw [bitsOf_succ]; simp [*])⟩ .nil))))))⟩
  obtain rfl : j = c.latch.length := by omega
  refine CodeS.loopGK (cuts := []) (σ := Nat) (fun j => [(3, .slice 5 0 (1 + c.inp.toNat + c.latch.length + j)), (47, .view 1 0 c.gates.length), (48, .int .i64 c.gates.length), (49, .int .i64 j)]) (fun j => ((c.base 0).alloc c.box).alloc (.cells 1 (bls (gfold (c.gates.take j) (vals0 c inp st))))) (fun j => j ≤ c.gates.length) (fun j => c.gates.length - j) 0 (renL [0, 1, 2, 3, 4, 5] 6) (by kernel_rfl) (Nat.zero_le _) ⟨rfl, rfl, rfl, rfl, trivial⟩ (EmbL.litsN [0, 1, 2, 3, 4, 5] rfl rfl rfl rfl (.cons ⟨rfl, .inl ⟨rfl, fun h => h⟩⟩ (.cons ⟨rfl, .inl ⟨rfl, fun h => h⟩⟩ (.cons ⟨rfl, .inl ⟨rfl, fun h => h⟩⟩ (.cons ⟨rfl, .inl ⟨rfl, fun h => h⟩⟩ .nil)))) (.cons ⟨rfl, .roI⟩ (.cons ⟨rfl, .roI⟩ (.cons ⟨rfl, .roI⟩ (.cons ⟨rfl, .gone⟩ (.cons ⟨rfl, .inl rfl⟩ (.cons ⟨rfl, .cellsBe (by simp [gfold]; rfl)⟩ .nil))))))) ?_
  intro j g3
  have hlen : (gfold (c.gates.take j) (vals0 c inp st)).length = 1 + c.inp.toNat + c.latch.length + j := by rw [gfold_length, vals0_length, List.length_take]; omega
  conv => whnf
  repeat' first | (refine Gets.of _ rfl ?_; conv => whnf) | (refine Gets.ixEv (es := 2) rfl rfl (by omega) ?_; conv => whnf) | (refine Gets.ldP (ti := tiP) rfl rfl rfl (by first | rfl | assumption) (by first | omega | exact Nat.le_of_ble_eq_true rfl) ?_; conv => whnf) | (refine Fork.dec (fun _ => ?_) (fun _ => ?_) <;> first | (exfalso; omega) | (conv => whnf))
  · have hj : j < c.gates.length := by omega
    obtain ⟨⟨r1, r2⟩, r3, r4⟩ := ho.g j hj
    unfold Cir.own at r2 r4
    have hstep : ∀ b : Bool, b = (lit (gfold (c.gates.take j) (vals0 c inp st)) (c.gates.getD j (0, 0)).1 && lit (gfold (c.gates.take j) (vals0 c inp st)) (c.gates.getD j (0, 0)).2) → gfold (c.gates.take (j + 1)) (vals0 c inp st) = gfold (c.gates.take j) (vals0 c inp st) ++ [b] := by
      intro b hb
      rw [take_succ_getD c.gates j (0, 0) hj, gfold_append, hb]
      rfl
    refine CallS.of (by kernel_rfl) (is77 _ (1 + c.inp.toNat + c.latch.length + j) hlen (c.gates.getD j (0, 0)).1 r1 (by omega) (by omega) _ 5 rfl) rfl ?_
    rintro _ _ ⟨rfl, hp | hp⟩
    all_goals conv => whnf
    all_goals
      repeat' first | (refine Gets.appB1 (ti := tiB) rfl rfl rfl rfl rfl (by decide) rfl rfl (by omega) (by omega) ?_; conv => whnf) | ((with_reducible refine Gets.addI ?_ ?_ ?_); (· omega); (· omega); conv => whnf) | (refine Gets.of _ rfl ?_; conv => whnf)
    · refine CallS.of (by kernel_rfl) (is77 _ (1 + c.inp.toNat + c.latch.length + j) hlen (c.gates.getD j (0, 0)).2 r3 (by omega) (by omega) _ 5 rfl) rfl ?_
      rintro _ _ ⟨rfl, hq | hq⟩
      all_goals conv => whnf
      all_goals
        repeat' first | (refine Gets.appB1 (ti := tiB) rfl rfl rfl rfl rfl (by decide) rfl rfl (by omega) (by omega) ?_; conv => whnf) | ((with_reducible refine Gets.addI ?_ ?_ ?_); (· omega); (· omega); conv => whnf)
      · exact ⟨j + 1, renL [0, 1, 2, 3, 4, 8] 9, by omega, by omega, ⟨rfl, rfl, rfl, rfl, trivial⟩, EmbL.litsN [0, 1, 2, 3, 4, 8] rfl rfl rfl rfl (.cons ⟨rfl, .inl ⟨rfl, fun h => h⟩⟩ (.cons ⟨rfl, .inl ⟨rfl, fun h => h⟩⟩ (.cons ⟨rfl, .inl ⟨rfl, fun h => h⟩⟩ (.cons ⟨rfl, .inl ⟨rfl, fun h => h⟩⟩ .nil)))) (.cons ⟨rfl, .roI⟩ (.cons ⟨rfl, .roI⟩ (.cons ⟨rfl, .roI⟩ (.cons ⟨rfl, .gone⟩ (.cons ⟨rfl, .inl rfl⟩ (.cons ⟨rfl, .cellsBe (hstep true (by rw [hp, hq]; rfl))⟩ .nil))))))⟩
      · exact ⟨j + 1, renL [0, 1, 2, 3, 4, 8] 9, by omega, by omega, ⟨rfl, rfl, rfl, rfl, trivial⟩, EmbL.litsN [0, 1, 2, 3, 4, 8] rfl rfl rfl rfl (.cons ⟨rfl, .inl ⟨rfl, fun h => h⟩⟩ (.cons ⟨rfl, .inl ⟨rfl, fun h => h⟩⟩ (.cons ⟨rfl, .inl ⟨rfl, fun h => h⟩⟩ (.cons ⟨rfl, .inl ⟨rfl, fun h => h⟩⟩ .nil)))) (.cons ⟨rfl, .roI⟩ (.cons ⟨rfl, .roI⟩ (.cons ⟨rfl, .roI⟩ (.cons ⟨rfl, .gone⟩ (.cons ⟨rfl, .inl rfl⟩ (.cons ⟨rfl, .cellsBe (hstep false (by rw [hp, Bool.eq_false_iff.2 hq]; rfl))⟩ .nil))))))⟩
    · exact ⟨j + 1, renL [0, 1, 2, 3, 4, 8] 9, by omega, by omega, ⟨rfl, rfl, rfl, rfl, trivial⟩, EmbL.litsN [0, 1, 2, 3, 4, 8] rfl rfl rfl rfl (.cons ⟨rfl, .inl ⟨rfl, fun h => h⟩⟩ (.cons ⟨rfl, .inl ⟨rfl, fun h => h⟩⟩ (.cons ⟨rfl, .inl ⟨rfl, fun h => h⟩⟩ (.cons ⟨rfl, .inl ⟨rfl, fun h => h⟩⟩ .nil)))) (.cons ⟨rfl, .roI⟩ (.cons ⟨rfl, .roI⟩ (.cons ⟨rfl, .roI⟩ (.cons ⟨rfl, .gone⟩ (.cons ⟨rfl, .inl rfl⟩ (.cons ⟨rfl, .cellsBe (hstep false (by rw [Bool.eq_false_iff.2 hp]; rfl))⟩ .nil))))))⟩
  · obtain rfl : j = c.gates.length := by omega
    rw [List.take_of_length_le (Nat.le_refl _)] at *
    exact ⟨renL [0, 1, 2, 3, 5] 6, _, (c.base 0).alloc (.cells 1 (bls (c.vals inp st))), EmbL.litsN [0, 1, 2, 3, 5] rfl rfl rfl rfl (.cons ⟨rfl, .inl ⟨rfl, fun h => h⟩⟩ (.cons ⟨rfl, .inl ⟨rfl, fun h => h⟩⟩ (.cons ⟨rfl, .inl ⟨rfl, fun h => h⟩⟩ (.cons ⟨rfl, .inl ⟨rfl, fun h => h⟩⟩ .nil)))) (.cons ⟨rfl, .roI⟩ (.cons ⟨rfl, .roI⟩ (.cons ⟨rfl, .roI⟩ (.cons ⟨rfl, .gone⟩ (.cons ⟨rfl, .cellsBe rfl⟩ .nil))))), by rw [← hlen]; rfl, rfl, rfl⟩
theorem valuesB (c : Cir) (ho : c.Ok) (inp st : Nat) (hi : inp < 4294967296) (hst : st < 4294967296) (old : List Bool) : CallW Try.prog 62 [c.av 0 1 2, .int .i64 inp, .int .i64 st, (.slice 3 0 old.length)] (c.heap.alloc (.cells 1 (bls old))) fun v H' => v = .slice 4 0 (c.vals inp st).length ∧ H' = (c.base 1).alloc (.cells 1 (bls (c.vals inp st))) := by
  obtain ⟨a1, a2, a3, a4, a5⟩ := ho.s
  refine CallW.symRK (cuts := []) Try.func62 rfl (by kernel_rfl) ?_
  conv => whnf
  repeat' first | (refine Gets.appB (m := 0) (ti := tiB) rfl rfl rfl rfl rfl (by decide) rfl rfl (Nat.zero_le _) (by decide) ?_; conv => whnf) | (refine Gets.of _ rfl ?_; conv => whnf)
  refine CodeS.loopGK (cuts := []) (σ := Nat) (fun j => [(1, .int .i64 inp), (2, .int .i64 st), (3, .slice 5 0 (1 + j)), (4, .ptr 4 0), (18, .int .i64 c.inp), (19, .int .i64 j)]) (fun j => ((c.base 1).alloc c.box).alloc (.cells 1 (bls ([false] ++ bitsOf inp j)))) (fun j => j ≤ c.inp.toNat) (fun j => c.inp.toNat - j) 0 (renL [0, 1, 2, 3, 4, 6] 7) (by kernel_rfl) (Nat.zero_le _) ⟨rfl, rfl, rfl, rfl, rfl, rfl, trivial⟩ (EmbL.litsN [0, 1, 2, 3, 4, 6] rfl rfl rfl rfl (.cons ⟨rfl, .inl ⟨rfl, fun h => h⟩⟩ (.cons ⟨rfl, .inl ⟨rfl, fun h => h⟩⟩ (.cons ⟨rfl, .inl ⟨rfl, fun h => h⟩⟩ (.cons ⟨rfl, .inl ⟨rfl, fun h => h⟩⟩ .nil)))) (.cons ⟨rfl, .roI⟩ (.cons ⟨rfl, .roI⟩ (.cons ⟨rfl, .roI⟩ (.cons ⟨rfl, .gone⟩ (.cons ⟨rfl, .inl rfl⟩ (.cons ⟨rfl, .inl rfl⟩ .nil))))))) ?_
  intro j g1
  conv => whnf
  repeat' first | (refine Gets.appB1 (ti := tiB) rfl rfl rfl rfl rfl (by decide) rfl rfl (by simp [bitsOf_length]; omega) (by omega) ?_; conv => whnf) | ((with_reducible refine Gets.shrN ?_ ?_); (· omega); conv => whnf) | ((with_reducible refine Gets.andOne ?_ ?_); (· first | omega | exact Nat.lt_of_le_of_lt (Nat.shiftRight_le _ _) (by omega)); conv => whnf) | ((with_reducible refine Fork.bit (fun _ => ?_) (fun _ => ?_)) <;> (conv => whnf)) | ((with_reducible refine Gets.addI ?_ ?_ ?_); (· omega); (· omega); conv => whnf) | (refine Gets.of _ rfl ?_; conv => whnf) | (refine Fork.dec (fun _ => ?_) (fun _ => ?_) <;> first | (exfalso; omega) | (conv => whnf))
  · refine ⟨j + 1, renL [0, 1, 2, 3, 4, 7] 8, by omega, by omega, ⟨rfl, rfl, rfl, rfl, rfl, rfl, trivial⟩, EmbL.litsN [0, 1, 2, 3, 4, 7] rfl rfl rfl rfl (.cons ⟨rfl, .inl ⟨rfl, fun h => h⟩⟩ (.cons ⟨rfl, .inl ⟨rfl, fun h => h⟩⟩ (.cons ⟨rfl, .inl ⟨rfl, fun h => h⟩⟩ (.cons ⟨rfl, .inl ⟨rfl, fun h => h⟩⟩ .nil)))) (.cons ⟨rfl, .roI⟩ (.cons ⟨rfl, .roI⟩ (.cons ⟨rfl, .roI⟩ (.cons ⟨rfl, .gone⟩ (.cons ⟨rfl, .inl rfl⟩ (.cons ⟨rfl, .cellsBe (by rw [bitsOf_succ]; simp [*])⟩ .nil))))))⟩
  · refine ⟨j + 1, renL [0, 1, 2, 3, 4, 7] 8, by omega, by omega, ⟨rfl, rfl, rfl, rfl, rfl, rfl, trivial⟩, EmbL.litsN [0, 1, 2, 3, 4, 7] rfl rfl rfl rfl (.cons ⟨rfl, .inl ⟨rfl, fun h => h⟩⟩ (.cons ⟨rfl, .inl ⟨rfl, fun h => h⟩⟩ (.cons ⟨rfl, .inl ⟨rfl, fun h => h⟩⟩ (.cons ⟨rfl, .inl ⟨rfl, fun h => h⟩⟩ .nil)))) (.cons ⟨rfl, .roI⟩ (.cons ⟨rfl, .roI⟩ (.cons ⟨rfl, .roI⟩ (.cons ⟨rfl, .gone⟩ (.cons ⟨rfl, .inl rfl⟩ (.cons ⟨rfl, .cellsBe (by rw [bitsOf_succ]; simp [*])⟩ .nil))))))⟩
  obtain rfl : j = c.inp.toNat := by omega
  refine CodeS.loopGK (cuts := []) (σ := Nat) (fun j => [(2, .int .i64 st), (3, .slice 5 0 (1 + c.inp.toNat + j)), (4, .ptr 4 0), (33, .int .i64 c.latch.length), (34, .int .i64 j)]) (fun j => ((c.base 1).alloc c.box).alloc (.cells 1 (bls ([false] ++ bitsOf inp c.inp.toNat ++ bitsOf st j)))) (fun j => j ≤ c.latch.length) (fun j => c.latch.length - j) 0 (renL [0, 1, 2, 3, 4, 5] 6) (by kernel_rfl) (Nat.zero_le _) ⟨rfl, rfl, rfl, rfl, rfl, trivial⟩ (EmbL.litsN [0, 1, 2, 3, 4, 5] rfl rfl rfl rfl (.cons ⟨rfl, .inl ⟨rfl, fun h => h⟩⟩ (.cons ⟨rfl, .inl ⟨rfl, fun h => h⟩⟩ (.cons ⟨rfl, .inl ⟨rfl, fun h => h⟩⟩ (.cons ⟨rfl, .inl ⟨rfl, fun h => h⟩⟩ .nil)))) (.cons ⟨rfl, .roI⟩ (.cons ⟨rfl, .roI⟩ (.cons ⟨rfl, .roI⟩ (.cons ⟨rfl, .gone⟩ (.cons ⟨rfl, .inl rfl⟩ (.cons ⟨rfl, .cellsBe (by simp [bitsOf])⟩ .nil))))))) ?_
  intro j g2
  conv => whnf
  repeat' first | (refine Gets.appB1 (ti := tiB) rfl rfl rfl rfl rfl (by decide) rfl rfl (by simp [bitsOf_length]; omega) (by omega) ?_; conv => whnf) | ((with_reducible refine Gets.shrN ?_ ?_); (· omega); conv => whnf) | ((with_reducible refine Gets.andOne ?_ ?_); (· first | omega | exact Nat.lt_of_le_of_lt (Nat.shiftRight_le _ _) (by omega)); conv => whnf) | ((with_reducible refine Fork.bit (fun _ => ?_) (fun _ => ?_)) <;> (conv => whnf)) | ((with_reducible refine Gets.addI ?_ ?_ ?_); (· omega); (· omega); conv => whnf) | (refine Gets.of _ rfl ?_; conv => whnf) | (refine Fork.dec (fun _ => ?_) (fun _ => ?_) <;> first | (exfalso; omega) | (conv => whnf))
  · refine ⟨j + 1, renL [0, 1, 2, 3, 4, 7] 8, by omega, by omega, ⟨rfl, rfl, rfl, rfl, rfl, trivial⟩, EmbL.litsN [0, 1, 2, 3, 4, 7] rfl rfl rfl rfl (.cons ⟨rfl, .inl ⟨rfl, fun h => h⟩⟩ (.cons ⟨rfl, .inl ⟨rfl, fun h => h⟩⟩ (.cons ⟨rfl, .inl ⟨rfl, fun h => h⟩⟩ (.cons ⟨rfl, .inl ⟨rfl, fun h => h⟩⟩ .nil)))) (.cons ⟨rfl, .roI⟩ (.cons ⟨rfl, .roI⟩ (.cons ⟨rfl, .roI⟩ (.cons ⟨rfl, .gone⟩ (.cons ⟨rfl, .inl rfl⟩ (.cons ⟨rfl, .cellsBe (by rw [bitsOf_succ]; simp [*])⟩ .nil))))))⟩
  · refine ⟨j + 1, renL [0, 1, 2, 3, 4, 7] 8, by omega, by omega, ⟨rfl, rfl, rfl, rfl, rfl, trivial⟩, EmbL.litsN [0, 1, 2, 3, 4, 7] rfl rfl rfl rfl (.cons ⟨rfl, .inl ⟨rfl, fun h => h⟩⟩ (.cons ⟨rfl, .inl ⟨rfl, fun h => h⟩⟩ (.cons ⟨rfl, .inl ⟨rfl, fun h => h⟩⟩ (.cons ⟨rfl, .inl ⟨rfl, fun h => h⟩⟩ .nil)))) (.cons ⟨rfl, .roI⟩ (.cons ⟨rfl, .roI⟩ (.cons ⟨rfl, .roI⟩ (.cons ⟨rfl, .gone⟩ (.cons ⟨rfl, .inl rfl⟩ (.cons ⟨rfl, .cellsBe (by rw [bitsOf_succ]; simp [*])⟩ .nil))))))⟩
  obtain rfl : j = c.latch.length := by omega
  refine CodeS.loopGK (cuts := []) (σ := Nat) (fun j => [(3, .slice 5 0 (1 + c.inp.toNat + c.latch.length + j)), (47, .view 1 0 c.gates.length), (48, .int .i64 c.gates.length), (49, .int .i64 j)]) (fun j => ((c.base 1).alloc c.box).alloc (.cells 1 (bls (gfold (c.gates.take j) (vals0 c inp st))))) (fun j => j ≤ c.gates.length) (fun j => c.gates.length - j) 0 (renL [0, 1, 2, 3, 4, 5] 6) (by kernel_rfl) (Nat.zero_le _) ⟨rfl, rfl, rfl, rfl, trivial⟩ (EmbL.litsN [0, 1, 2, 3, 4, 5] rfl rfl rfl rfl (.cons ⟨rfl, .inl ⟨rfl, fun h => h⟩⟩ (.cons ⟨rfl, .inl ⟨rfl, fun h => h⟩⟩ (.cons ⟨rfl, .inl ⟨rfl, fun h => h⟩⟩ (.cons ⟨rfl, .inl ⟨rfl, fun h => h⟩⟩ .nil)))) (.cons ⟨rfl, .roI⟩ (.cons ⟨rfl, .roI⟩ (.cons ⟨rfl, .roI⟩ (.cons ⟨rfl, .gone⟩ (.cons ⟨rfl, .inl rfl⟩ (.cons ⟨rfl, .cellsBe (by simp [gfold]; rfl)⟩ .nil))))))) ?_
  intro j g3
  have hlen : (gfold (c.gates.take j) (vals0 c inp st)).length = 1 + c.inp.toNat + c.latch.length + j := by rw [gfold_length, vals0_length, List.length_take]; omega
  conv => whnf
  repeat' first | (refine Gets.of _ rfl ?_; conv => whnf) | (refine Gets.ixEv (es := 2) rfl rfl (by omega) ?_; conv => whnf) | (refine Gets.ldP (ti := tiP) rfl rfl rfl (by first | rfl | assumption) (by first | omega | exact Nat.le_of_ble_eq_true rfl) ?_; conv => whnf) | (refine Fork.dec (fun _ => ?_) (fun _ => ?_) <;> first | (exfalso; omega) | (conv => whnf))
  · have hj : j < c.gates.length := by omega
    obtain ⟨⟨r1, r2⟩, r3, r4⟩ := ho.g j hj
    unfold Cir.own at r2 r4
    have hstep : ∀ b : Bool, b = (lit (gfold (c.gates.take j) (vals0 c inp st)) (c.gates.getD j (0, 0)).1 && lit (gfold (c.gates.take j) (vals0 c inp st)) (c.gates.getD j (0, 0)).2) → gfold (c.gates.take (j + 1)) (vals0 c inp st) = gfold (c.gates.take j) (vals0 c inp st) ++ [b] := by
      intro b hb
      rw [take_succ_getD c.gates j (0, 0) hj, gfold_append, hb]
      rfl
    refine CallS.of (by kernel_rfl) (is77 _ (1 + c.inp.toNat + c.latch.length + j) hlen (c.gates.getD j (0, 0)).1 r1 (by omega) (by omega) _ 5 rfl) rfl ?_
    rintro _ _ ⟨rfl, hp | hp⟩
    all_goals conv => whnf
    all_goals
      repeat' first | (refine Gets.appB1 (ti := tiB) rfl rfl rfl rfl rfl (by decide) rfl rfl (by omega) (by omega) ?_; conv => whnf) | ((with_reducible refine Gets.addI ?_ ?_ ?_); (· omega); (· omega); conv => whnf) | (refine Gets.of _ rfl ?_; conv => whnf)
    · refine CallS.of (by kernel_rfl) (is77 _ (1 + c.inp.toNat + c.latch.length + j) hlen (c.gates.getD j (0, 0)).2 r3 (by omega) (by omega) _ 5 rfl) rfl ?_
      rintro _ _ ⟨rfl, hq | hq⟩
      all_goals conv => whnf
      all_goals
        repeat' first | (refine Gets.appB1 (ti := tiB) rfl rfl rfl rfl rfl (by decide) rfl rfl (by omega) (by omega) ?_; conv => whnf) | ((with_reducible refine Gets.addI ?_ ?_ ?_); (· omega); (· omega); conv => whnf)
      · exact ⟨j + 1, renL [0, 1, 2, 3, 4, 8] 9, by omega, by omega, ⟨rfl, rfl, rfl, rfl, trivial⟩, EmbL.litsN [0, 1, 2, 3, 4, 8] rfl rfl rfl rfl (.cons ⟨rfl, .inl ⟨rfl, fun h => h⟩⟩ (.cons ⟨rfl, .inl ⟨rfl, fun h => h⟩⟩ (.cons ⟨rfl, .inl ⟨rfl, fun h => h⟩⟩ (.cons ⟨rfl, .inl ⟨rfl, fun h => h⟩⟩ .nil)))) (.cons ⟨rfl, .roI⟩ (.cons ⟨rfl, .roI⟩ (.cons ⟨rfl, .roI⟩ (.cons ⟨rfl, .gone⟩ (.cons ⟨rfl, .inl rfl⟩ (.cons ⟨rfl, .cellsBe (hstep true (by rw [hp, hq]; rfl))⟩ .nil))))))⟩
      · exact ⟨j + 1, renL [0, 1, 2, 3, 4, 8] 9, by omega, by omega, ⟨rfl, rfl, rfl, rfl, trivial⟩, EmbL.litsN [0, 1, 2, 3, 4, 8] rfl rfl rfl rfl (.cons ⟨rfl, .inl ⟨rfl, fun h => h⟩⟩ (.cons ⟨rfl, .inl ⟨rfl, fun h => h⟩⟩ (.cons ⟨rfl, .inl ⟨rfl, fun h => h⟩⟩ (.cons ⟨rfl, .inl ⟨rfl, fun h => h⟩⟩ .nil)))) (.cons ⟨rfl, .roI⟩ (.cons ⟨rfl, .roI⟩ (.cons ⟨rfl, .roI⟩ (.cons ⟨rfl, .gone⟩ (.cons ⟨rfl, .inl rfl⟩ (.cons ⟨rfl, .cellsBe (hstep false (by rw [hp, Bool.eq_false_iff.2 hq]; rfl))⟩ .nil))))))⟩
    · exact ⟨j + 1, renL [0, 1, 2, 3, 4, 8] 9, by omega, by omega, ⟨rfl, rfl, rfl, rfl, trivial⟩, EmbL.litsN [0, 1, 2, 3, 4, 8] rfl rfl rfl rfl (.cons ⟨rfl, .inl ⟨rfl, fun h => h⟩⟩ (.cons ⟨rfl, .inl ⟨rfl, fun h => h⟩⟩ (.cons ⟨rfl, .inl ⟨rfl, fun h => h⟩⟩ (.cons ⟨rfl, .inl ⟨rfl, fun h => h⟩⟩ .nil)))) (.cons ⟨rfl, .roI⟩ (.cons ⟨rfl, .roI⟩ (.cons ⟨rfl, .roI⟩ (.cons ⟨rfl, .gone⟩ (.cons ⟨rfl, .inl rfl⟩ (.cons ⟨rfl, .cellsBe (hstep false (by rw [Bool.eq_false_iff.2 hp]; rfl))⟩ .nil))))))⟩
  · obtain rfl : j = c.gates.length := by omega
    rw [List.take_of_length_le (Nat.le_refl _)] at *
    exact ⟨renL [0, 1, 2, 3, 5] 6, _, (c.base 1).alloc (.cells 1 (bls (c.vals inp st))), EmbL.litsN [0, 1, 2, 3, 5] rfl rfl rfl rfl (.cons ⟨rfl, .inl ⟨rfl, fun h => h⟩⟩ (.cons ⟨rfl, .inl ⟨rfl, fun h => h⟩⟩ (.cons ⟨rfl, .inl ⟨rfl, fun h => h⟩⟩ (.cons ⟨rfl, .inl ⟨rfl, fun h => h⟩⟩ .nil)))) (.cons ⟨rfl, .roI⟩ (.cons ⟨rfl, .roI⟩ (.cons ⟨rfl, .roI⟩ (.cons ⟨rfl, .gone⟩ (.cons ⟨rfl, .cellsBe rfl⟩ .nil))))), by rw [← hlen]; rfl, rfl, rfl⟩
/-! ### The program's stepper -/
def oldV (k : Nat) : Option (List Bool) → AVal
  | none => .nilSlice
  | some l => .slice k 0 l.length
def oldB : Option (List Bool) → ABlk
  | none => .dead
  | some l => .cells 1 (bls l)
/-- A stepper's own memory: what it was made of, and the values of its last step. -/
def stepH (c : Cir) (o : Option (List Bool)) : AHeap := ((c.heap.alloc c.box).alloc (.cells 1 [oldV 5 o])).alloc (oldB o)
def stepH' (c : Cir) (o : Option (List Bool)) (inp st : Nat) : AHeap := ⟨7, fun i => match i with
  | 4 => .cells 1 [.slice 6 0 (c.vals inp st).length]
  | 5 => .dead
  | 6 => .cells 1 (bls (c.vals inp st))
  | i => (c.heap.alloc c.box).f i, fun i => match i with
  | 4 => 1
  | 5 => (match o with | none => 0 | some _ => 1)
  | _ => 0⟩
theorem lit_rng (c : Cir) (ho : c.Ok) (inp st : Nat) (ls : List Int) (h : ∀ x ∈ ls, inR c.most x) : Rng c ls (c.vals inp st).length := by
  obtain ⟨a1, a2, a3, a4, a5⟩ := ho.s
  intro k hk
  obtain ⟨h1, h2⟩ := h _ (getD_memL (d := 0) hk)
  unfold Cir.most Cir.vars at h2
  rw [vals_length]
  omega
theorem roS (c : Cir) (H : AHeap) (i0 i1 i2 : Nat) (X : ABlk) (hX : X.rwB = false ∨ True) : True := trivial
theorem step61valuesA (c : Cir) (ho : c.Ok) (old : List Bool) (inp st : Nat) (hi : inp < 4294967296) (hst : st < 4294967296) : CallW Try.prog 61 [.int .i64 inp, .int .i64 st, .ptr 3 0, .ptr 4 0] (stepH c none) fun v H' => v = .tuple [.int .i64 (c.outv inp st : Nat), .int .i64 (c.nxt inp st : Nat)] ∧ H' = stepH' c none inp st := by
  obtain ⟨a1, a2, a3, a4, a5⟩ := ho.s
  refine CallW.symRK (cuts := []) Try.func61 rfl (by kernel_rfl) ?_
  conv => whnf
  repeat' (refine Gets.of _ rfl ?_; conv => whnf)
  refine CallS.of (by kernel_rfl) ((valuesA c ho inp st hi hst old).frameQ [0, 1, 2, 5] rfl (.cons ⟨rfl, .roI⟩ (.cons ⟨rfl, .roI⟩ (.cons ⟨rfl, .roI⟩ (.cons ⟨rfl, .gone⟩ .nil)))) (by rintro _ _ ⟨rfl, rfl⟩; repeat first | exact .nil | refine .cons (by first | exact .inr rfl | exact .inl rfl | exact .inr (fresh_oN _) | exact .inr (fresh_oP _) | exact .inr (fresh_oI _)) ?_)) rfl ?_
  rintro _ _ ⟨_, _, ⟨rfl, rfl⟩, rfl, rfl⟩
  conv => whnf
  repeat' (refine Gets.of _ rfl ?_; conv => whnf)
  refine CodeS.drawT [3, 4] (.take 0 (.take 1 (.take 2 (.take 4 (.take 5 (.take 6 (.one 3 true (.one 7 true (.take 8 (.take 9 .done)))))))))) mixed (by kernel_rfl) (.cons ⟨rfl, trivial⟩ (.cons ⟨rfl, trivial⟩ .nil)) ?_
  conv => whnf
  repeat' (refine Gets.of _ rfl ?_; conv => whnf)
  refine CallPS.of (by kernel_rfl) (bits63 c (c.vals inp st) _ rfl c.out (by omega) (lit_rng c ho inp st c.out ho.o) _ 6 2 (by first | rfl | exact rens_bls _ _) rfl) rfl ?_
  rintro _ _ ⟨rfl, rfl⟩
  conv => whnf
  repeat' (refine Chk.mk (by repeat first | exact .nil | refine .cons rfl ?_) ?_; conv => whnf)
  refine CallPS.of (by kernel_rfl) (bits63 c (c.vals inp st) _ rfl c.latch (by omega) (lit_rng c ho inp st c.latch ho.l) _ 6 0 (by first | rfl | exact rens_bls _ _) rfl) rfl ?_
  rintro _ _ ⟨rfl, rfl⟩
  conv => whnf
  repeat' (refine Chk.mk (by repeat first | exact .nil | refine .cons rfl ?_) ?_; conv => whnf)
  exact ⟨renL [0, 1, 2, 3, 4, 5, 6] 7, _, stepH' c none inp st, EmbL.litsN [0, 1, 2, 3, 4, 5, 6] rfl rfl rfl rfl (.cons ⟨rfl, .inl ⟨rfl, fun h => h⟩⟩ (.cons ⟨rfl, .inl ⟨rfl, fun h => h⟩⟩ (.cons ⟨rfl, .inl ⟨rfl, fun h => h⟩⟩ (.cons ⟨rfl, .inl ⟨rfl, fun h => h⟩⟩ (.cons ⟨rfl, .inl ⟨rfl, fun h => h⟩⟩ (.cons ⟨rfl, .inl ⟨rfl, fun h => h⟩⟩ .nil)))))) (.cons ⟨rfl, .roI⟩ (.cons ⟨rfl, .roI⟩ (.cons ⟨rfl, .roI⟩ (.cons ⟨rfl, .inl rfl⟩ (.cons ⟨rfl, .inl rfl⟩ (.cons ⟨rfl, .gone⟩ (.cons ⟨rfl, .cellsBr⟩ .nil))))))), rfl, rfl, rfl⟩
theorem step61valuesB (c : Cir) (ho : c.Ok) (old : List Bool) (inp st : Nat) (hi : inp < 4294967296) (hst : st < 4294967296) : CallW Try.prog 61 [.int .i64 inp, .int .i64 st, .ptr 3 0, .ptr 4 0] (stepH c (some old)) fun v H' => v = .tuple [.int .i64 (c.outv inp st : Nat), .int .i64 (c.nxt inp st : Nat)] ∧ H' = stepH' c (some old) inp st := by
  obtain ⟨a1, a2, a3, a4, a5⟩ := ho.s
  refine CallW.symRK (cuts := []) Try.func61 rfl (by kernel_rfl) ?_
  conv => whnf
  repeat' (refine Gets.of _ rfl ?_; conv => whnf)
  refine CallS.of (by kernel_rfl) ((valuesB c ho inp st hi hst old).frameQ [0, 1, 2, 5] rfl (.cons ⟨rfl, .roI⟩ (.cons ⟨rfl, .roI⟩ (.cons ⟨rfl, .roI⟩ (.cons ⟨rfl, .cellsB⟩ .nil)))) (by rintro _ _ ⟨rfl, rfl⟩; repeat first | exact .nil | refine .cons (by first | exact .inr rfl | exact .inl rfl | exact .inr (fresh_oN _) | exact .inr (fresh_oP _) | exact .inr (fresh_oI _)) ?_)) rfl ?_
  rintro _ _ ⟨_, _, ⟨rfl, rfl⟩, rfl, rfl⟩
  conv => whnf
  repeat' (refine Gets.of _ rfl ?_; conv => whnf)
  refine CodeS.drawT [3, 4] (.take 0 (.take 1 (.take 2 (.take 4 (.take 5 (.take 6 (.one 3 true (.one 7 true (.take 8 (.take 9 .done)))))))))) mixed (by kernel_rfl) (.cons ⟨rfl, trivial⟩ (.cons ⟨rfl, trivial⟩ .nil)) ?_
  conv => whnf
  repeat' (refine Gets.of _ rfl ?_; conv => whnf)
  refine CallPS.of (by kernel_rfl) (bits63 c (c.vals inp st) _ rfl c.out (by omega) (lit_rng c ho inp st c.out ho.o) _ 6 2 (by first | rfl | exact rens_bls _ _) rfl) rfl ?_
  rintro _ _ ⟨rfl, rfl⟩
  conv => whnf
  repeat' (refine Chk.mk (by repeat first | exact .nil | refine .cons rfl ?_) ?_; conv => whnf)
  refine CallPS.of (by kernel_rfl) (bits63 c (c.vals inp st) _ rfl c.latch (by omega) (lit_rng c ho inp st c.latch ho.l) _ 6 0 (by first | rfl | exact rens_bls _ _) rfl) rfl ?_
  rintro _ _ ⟨rfl, rfl⟩
  conv => whnf
  repeat' (refine Chk.mk (by repeat first | exact .nil | refine .cons rfl ?_) ?_; conv => whnf)
  exact ⟨renL [0, 1, 2, 3, 4, 5, 6] 7, _, stepH' c (some old) inp st, EmbL.litsN [0, 1, 2, 3, 4, 5, 6] rfl rfl rfl rfl (.cons ⟨rfl, .inl ⟨rfl, fun h => h⟩⟩ (.cons ⟨rfl, .inl ⟨rfl, fun h => h⟩⟩ (.cons ⟨rfl, .inl ⟨rfl, fun h => h⟩⟩ (.cons ⟨rfl, .inl ⟨rfl, fun h => h⟩⟩ (.cons ⟨rfl, .inl ⟨rfl, fun h => h⟩⟩ (.cons ⟨rfl, .inl ⟨rfl, fun h => h⟩⟩ .nil)))))) (.cons ⟨rfl, .roI⟩ (.cons ⟨rfl, .roI⟩ (.cons ⟨rfl, .roI⟩ (.cons ⟨rfl, .inl rfl⟩ (.cons ⟨rfl, .inl rfl⟩ (.cons ⟨rfl, .gone⟩ (.cons ⟨rfl, .cellsBr⟩ .nil))))))), rfl, rfl, rfl⟩
/-! ### The reference's step -/
theorem step59 (c : Cir) (ho : c.Ok) (inp st : Nat) (hi : inp < 4294967296) (hst : st < 4294967296) : CallW Try.prog 59 [c.av 0 1 2, .int .i64 st, .int .i64 inp] c.heap fun v _ => v = .tuple [.int .i64 (c.outv inp st : Nat), .int .i64 (c.nxt inp st : Nat)] := by
  obtain ⟨a1, a2, a3, a4, a5⟩ := ho.s
  refine CallW.symK (cuts := []) Try.func59 rfl (by kernel_rfl) ?_
  conv => whnf
  repeat' (refine Gets.of _ rfl ?_; conv => whnf)
  refine CodeS.loopGK (cuts := []) (σ := Nat) (fun j => [(1, .int .i64 st), (2, .int .i64 inp), (3, .ptr 3 0), (6, .int .i64 0), (7, .int .i64 0), (8, .slice 4 0 (1 + j)), (19, .int .i64 c.inp), (20, .int .i64 j)]) (fun j => (c.heap.alloc c.box).alloc (.cells 1 (bls ([false] ++ bitsOf inp j)))) (fun j => j ≤ c.inp.toNat) (fun j => c.inp.toNat - j) 0 (renL [0, 1, 2, 3, 4] 5) (by kernel_rfl) (Nat.zero_le _) ⟨rfl, rfl, rfl, rfl, rfl, rfl, rfl, rfl, trivial⟩ (EmbL.litsN [0, 1, 2, 3, 4] rfl rfl rfl rfl (.cons ⟨rfl, .inl ⟨rfl, fun h => h⟩⟩ (.cons ⟨rfl, .inl ⟨rfl, fun h => h⟩⟩ (.cons ⟨rfl, .inl ⟨rfl, fun h => h⟩⟩ .nil))) (.cons ⟨rfl, .roI⟩ (.cons ⟨rfl, .roI⟩ (.cons ⟨rfl, .roI⟩ (.cons ⟨rfl, .inl rfl⟩ (.cons ⟨rfl, .inl rfl⟩ .nil)))))) ?_
  intro j g1
  conv => whnf
  repeat' first | (refine Gets.appB1 (ti := tiB) rfl rfl rfl rfl rfl (by decide) rfl rfl (by simp [bitsOf_length]; omega) (by omega) ?_; conv => whnf) | ((with_reducible refine Gets.shrN ?_ ?_); (· omega); conv => whnf) | ((with_reducible refine Gets.andOne ?_ ?_); (· first | omega | exact Nat.lt_of_le_of_lt (Nat.shiftRight_le _ _) (by omega)); conv => whnf) | ((with_reducible refine Fork.bit (fun _ => ?_) (fun _ => ?_)) <;> (conv => whnf)) | ((with_reducible refine Gets.addI ?_ ?_ ?_); (· omega); (· omega); conv => whnf) | (refine Gets.of _ rfl ?_; conv => whnf) | (refine Fork.dec (fun _ => ?_) (fun _ => ?_) <;> first | (exfalso; omega) | (conv => whnf))
  · refine ⟨j + 1, renL [0, 1, 2, 3, 6] 7, by omega, by omega, ⟨rfl, rfl, rfl, rfl, rfl, rfl, rfl, rfl, trivial⟩, EmbL.litsN [0, 1, 2, 3, 6] rfl rfl rfl rfl (.cons ⟨rfl, .inl ⟨rfl, fun h => h⟩⟩ (.cons ⟨rfl, .inl ⟨rfl, fun h => h⟩⟩ (.cons ⟨rfl, .inl ⟨rfl, fun h => h⟩⟩ .nil))) (.cons ⟨rfl, .roI⟩ (.cons ⟨rfl, .roI⟩ (.cons ⟨rfl, .roI⟩ (.cons ⟨rfl, .inl rfl⟩ (.cons ⟨rfl, .cellsBe (by rw [bitsOf_succ]; simp [*])⟩ .nil)))))⟩
  · refine ⟨j + 1, renL [0, 1, 2, 3, 6] 7, by omega, by omega, ⟨rfl, rfl, rfl, rfl, rfl, rfl, rfl, rfl, trivial⟩, EmbL.litsN [0, 1, 2, 3, 6] rfl rfl rfl rfl (.cons ⟨rfl, .inl ⟨rfl, fun h => h⟩⟩ (.cons ⟨rfl, .inl ⟨rfl, fun h => h⟩⟩ (.cons ⟨rfl, .inl ⟨rfl, fun h => h⟩⟩ .nil))) (.cons ⟨rfl, .roI⟩ (.cons ⟨rfl, .roI⟩ (.cons ⟨rfl, .roI⟩ (.cons ⟨rfl, .inl rfl⟩ (.cons ⟨rfl, .cellsBe (by rw [bitsOf_succ]; simp [*])⟩ .nil)))))⟩
  obtain rfl : j = c.inp.toNat := by omega
  refine CodeS.loopGK (cuts := []) (σ := Nat) (fun j => [(1, .int .i64 st), (3, .ptr 3 0), (6, .int .i64 0), (7, .int .i64 0), (8, .slice 4 0 (1 + c.inp.toNat + j)), (34, .int .i64 c.latch.length), (35, .int .i64 j)]) (fun j => (c.heap.alloc c.box).alloc (.cells 1 (bls ([false] ++ bitsOf inp c.inp.toNat ++ bitsOf st j)))) (fun j => j ≤ c.latch.length) (fun j => c.latch.length - j) 0 (renL [0, 1, 2, 3, 4] 5) (by kernel_rfl) (Nat.zero_le _) ⟨rfl, rfl, rfl, rfl, rfl, rfl, rfl, trivial⟩ (EmbL.litsN [0, 1, 2, 3, 4] rfl rfl rfl rfl (.cons ⟨rfl, .inl ⟨rfl, fun h => h⟩⟩ (.cons ⟨rfl, .inl ⟨rfl, fun h => h⟩⟩ (.cons ⟨rfl, .inl ⟨rfl, fun h => h⟩⟩ .nil))) (.cons ⟨rfl, .roI⟩ (.cons ⟨rfl, .roI⟩ (.cons ⟨rfl, .roI⟩ (.cons ⟨rfl, .inl rfl⟩ (.cons ⟨rfl, .cellsBe (by simp [bitsOf])⟩ .nil)))))) ?_
  intro j g2
  conv => whnf
  repeat' first | (refine Gets.appB1 (ti := tiB) rfl rfl rfl rfl rfl (by decide) rfl rfl (by simp [bitsOf_length]; omega) (by omega) ?_; conv => whnf) | ((with_reducible refine Gets.shrN ?_ ?_); (· omega); conv => whnf) | ((with_reducible refine Gets.andOne ?_ ?_); (· first | omega | exact Nat.lt_of_le_of_lt (Nat.shiftRight_le _ _) (by omega)); conv => whnf) | ((with_reducible refine Fork.bit (fun _ => ?_) (fun _ => ?_)) <;> (conv => whnf)) | ((with_reducible refine Gets.addI ?_ ?_ ?_); (· omega); (· omega); conv => whnf) | (refine Gets.of _ rfl ?_; conv => whnf) | (refine Fork.dec (fun _ => ?_) (fun _ => ?_) <;> first | (exfalso; omega) | (conv => whnf))
  · refine ⟨j + 1, renL [0, 1, 2, 3, 6] 7, by omega, by omega, ⟨rfl, rfl, rfl, rfl, rfl, rfl, rfl, trivial⟩, EmbL.litsN [0, 1, 2, 3, 6] rfl rfl rfl rfl (.cons ⟨rfl, .inl ⟨rfl, fun h => h⟩⟩ (.cons ⟨rfl, .inl ⟨rfl, fun h => h⟩⟩ (.cons ⟨rfl, .inl ⟨rfl, fun h => h⟩⟩ .nil))) (.cons ⟨rfl, .roI⟩ (.cons ⟨rfl, .roI⟩ (.cons ⟨rfl, .roI⟩ (.cons ⟨rfl, .inl rfl⟩ (.cons ⟨rfl, .cellsBe (by rw [bitsOf_succ]; simp [*])⟩ .nil)))))⟩
  · refine ⟨j + 1, renL [0, 1, 2, 3, 6] 7, by omega, by omega, ⟨rfl, rfl, rfl, rfl, rfl, rfl, rfl, trivial⟩, EmbL.litsN [0, 1, 2, 3, 6] rfl rfl rfl rfl (.cons ⟨rfl, .inl ⟨rfl, fun h => h⟩⟩ (.cons ⟨rfl, .inl ⟨rfl, fun h => h⟩⟩ (.cons ⟨rfl, .inl ⟨rfl, fun h => h⟩⟩ .nil))) (.cons ⟨rfl, .roI⟩ (.cons ⟨rfl, .roI⟩ (.cons ⟨rfl, .roI⟩ (.cons ⟨rfl, .inl rfl⟩ (.cons ⟨rfl, .cellsBe (by rw [bitsOf_succ]; simp [*])⟩ .nil)))))⟩
  obtain rfl : j = c.latch.length := by omega
  refine CodeS.loopGK (cuts := []) (σ := Nat) (fun j => [(3, .ptr 3 0), (6, .int .i64 0), (7, .int .i64 0), (8, .slice 4 0 (1 + c.inp.toNat + c.latch.length + j)), (48, .view 1 0 c.gates.length), (49, .int .i64 c.gates.length), (50, .int .i64 j)]) (fun j => (c.heap.alloc c.box).alloc (.cells 1 (bls (gfold (c.gates.take j) (vals0 c inp st))))) (fun j => j ≤ c.gates.length) (fun j => c.gates.length - j) 0 (renL [0, 1, 2, 3, 4] 5) (by kernel_rfl) (Nat.zero_le _) ⟨rfl, rfl, rfl, rfl, rfl, rfl, rfl, trivial⟩ (EmbL.litsN [0, 1, 2, 3, 4] rfl rfl rfl rfl (.cons ⟨rfl, .inl ⟨rfl, fun h => h⟩⟩ (.cons ⟨rfl, .inl ⟨rfl, fun h => h⟩⟩ (.cons ⟨rfl, .inl ⟨rfl, fun h => h⟩⟩ .nil))) (.cons ⟨rfl, .roI⟩ (.cons ⟨rfl, .roI⟩ (.cons ⟨rfl, .roI⟩ (.cons ⟨rfl, .inl rfl⟩ (.cons ⟨rfl, .cellsBe (by simp [gfold]; rfl)⟩ .nil)))))) ?_
  intro j g3
  have hlen : (gfold (c.gates.take j) (vals0 c inp st)).length = 1 + c.inp.toNat + c.latch.length + j := by rw [gfold_length, vals0_length, List.length_take]; omega
  conv => whnf
  repeat' first | (refine Gets.of _ rfl ?_; conv => whnf) | (refine Gets.ixEv (es := 2) rfl rfl (by omega) ?_; conv => whnf) | (refine Gets.ldP (ti := tiP) rfl rfl rfl (by first | rfl | assumption) (by first | omega | exact Nat.le_of_ble_eq_true rfl) ?_; conv => whnf) | (refine Fork.dec (fun _ => ?_) (fun _ => ?_) <;> first | (exfalso; omega) | (conv => whnf))
  · have hj : j < c.gates.length := by omega
    obtain ⟨⟨r1, r2⟩, r3, r4⟩ := ho.g j hj
    unfold Cir.own at r2 r4
    have hstep : ∀ b : Bool, b = (lit (gfold (c.gates.take j) (vals0 c inp st)) (c.gates.getD j (0, 0)).1 && lit (gfold (c.gates.take j) (vals0 c inp st)) (c.gates.getD j (0, 0)).2) → gfold (c.gates.take (j + 1)) (vals0 c inp st) = gfold (c.gates.take j) (vals0 c inp st) ++ [b] := by
      intro b hb
      rw [take_succ_getD c.gates j (0, 0) hj, gfold_append, hb]
      rfl
    refine CallS.of (by kernel_rfl) (is76 _ (1 + c.inp.toNat + c.latch.length + j) hlen (c.gates.getD j (0, 0)).1 r1 (by omega) (by omega) _ 4 rfl) rfl ?_
    rintro _ _ ⟨rfl, hp | hp⟩
    all_goals conv => whnf
    all_goals
      repeat' first | (refine Gets.appB1 (ti := tiB) rfl rfl rfl rfl rfl (by decide) rfl rfl (by omega) (by omega) ?_; conv => whnf) | ((with_reducible refine Gets.addI ?_ ?_ ?_); (· omega); (· omega); conv => whnf) | (refine Gets.of _ rfl ?_; conv => whnf)
    · refine CallS.of (by kernel_rfl) (is76 _ (1 + c.inp.toNat + c.latch.length + j) hlen (c.gates.getD j (0, 0)).2 r3 (by omega) (by omega) _ 4 rfl) rfl ?_
      rintro _ _ ⟨rfl, hq | hq⟩
      all_goals conv => whnf
      all_goals
        repeat' first | (refine Gets.appB1 (ti := tiB) rfl rfl rfl rfl rfl (by decide) rfl rfl (by omega) (by omega) ?_; conv => whnf) | ((with_reducible refine Gets.addI ?_ ?_ ?_); (· omega); (· omega); conv => whnf)
      · exact ⟨j + 1, renL [0, 1, 2, 3, 7] 8, by omega, by omega, ⟨rfl, rfl, rfl, rfl, rfl, rfl, rfl, trivial⟩, EmbL.litsN [0, 1, 2, 3, 7] rfl rfl rfl rfl (.cons ⟨rfl, .inl ⟨rfl, fun h => h⟩⟩ (.cons ⟨rfl, .inl ⟨rfl, fun h => h⟩⟩ (.cons ⟨rfl, .inl ⟨rfl, fun h => h⟩⟩ .nil))) (.cons ⟨rfl, .roI⟩ (.cons ⟨rfl, .roI⟩ (.cons ⟨rfl, .roI⟩ (.cons ⟨rfl, .inl rfl⟩ (.cons ⟨rfl, .cellsBe (hstep true (by rw [hp, hq]; rfl))⟩ .nil)))))⟩
      · exact ⟨j + 1, renL [0, 1, 2, 3, 7] 8, by omega, by omega, ⟨rfl, rfl, rfl, rfl, rfl, rfl, rfl, trivial⟩, EmbL.litsN [0, 1, 2, 3, 7] rfl rfl rfl rfl (.cons ⟨rfl, .inl ⟨rfl, fun h => h⟩⟩ (.cons ⟨rfl, .inl ⟨rfl, fun h => h⟩⟩ (.cons ⟨rfl, .inl ⟨rfl, fun h => h⟩⟩ .nil))) (.cons ⟨rfl, .roI⟩ (.cons ⟨rfl, .roI⟩ (.cons ⟨rfl, .roI⟩ (.cons ⟨rfl, .inl rfl⟩ (.cons ⟨rfl, .cellsBe (hstep false (by rw [hp, Bool.eq_false_iff.2 hq]; rfl))⟩ .nil)))))⟩
    · exact ⟨j + 1, renL [0, 1, 2, 3, 7] 8, by omega, by omega, ⟨rfl, rfl, rfl, rfl, rfl, rfl, rfl, trivial⟩, EmbL.litsN [0, 1, 2, 3, 7] rfl rfl rfl rfl (.cons ⟨rfl, .inl ⟨rfl, fun h => h⟩⟩ (.cons ⟨rfl, .inl ⟨rfl, fun h => h⟩⟩ (.cons ⟨rfl, .inl ⟨rfl, fun h => h⟩⟩ .nil))) (.cons ⟨rfl, .roI⟩ (.cons ⟨rfl, .roI⟩ (.cons ⟨rfl, .roI⟩ (.cons ⟨rfl, .inl rfl⟩ (.cons ⟨rfl, .cellsBe (hstep false (by rw [Bool.eq_false_iff.2 hp]; rfl))⟩ .nil)))))⟩
  obtain rfl : j = c.gates.length := by omega
  have hall : gfold (c.gates.take c.gates.length) (vals0 c inp st) = c.vals inp st := by rw [List.take_of_length_le (Nat.le_refl _)]; rfl
  rw [hall] at hlen
  have ro := lit_rng c ho inp st c.out ho.o
  have rl := lit_rng c ho inp st c.latch ho.l
  rw [hlen] at ro rl
  generalize hfo : (fun j => lit (c.vals inp st) (c.out.getD j 0)) = fo
  have hfo' : ∀ j, fo j = lit (c.vals inp st) (c.out.getD j 0) := fun j => by rw [← hfo]
  generalize hfl : (fun j => lit (c.vals inp st) (c.latch.getD j 0)) = fl
  have hfl' : ∀ j, fl j = lit (c.vals inp st) (c.latch.getD j 0) := fun j => by rw [← hfl]
  have ho1 : c.outv inp st = packN fo c.out.length := by rw [← hfo]; rfl
  have hl1 : c.nxt inp st = packN fl c.latch.length := by rw [← hfl]; rfl
  refine CodeS.loopGK (cuts := []) (σ := Nat) (fun j => [(3, .ptr 3 0), (6, .int .i64 (packN fo j : Nat)), (7, .int .i64 0), (8, .slice 4 0 (1 + c.inp.toNat + c.latch.length + c.gates.length)), (69, .view 2 0 c.out.length), (70, .int .i64 c.out.length), (71, .int .i64 j)]) (fun j => (c.heap.alloc c.box).alloc (.cells 1 (bls (c.vals inp st)))) (fun j => j ≤ c.out.length) (fun j => c.out.length - j) 0 (renL [0, 1, 2, 3, 4] 5) (by kernel_rfl) (Nat.zero_le _) ⟨rfl, rfl, rfl, rfl, rfl, rfl, rfl, trivial⟩ (EmbL.litsN [0, 1, 2, 3, 4] rfl rfl rfl rfl (.cons ⟨rfl, .inl ⟨rfl, fun h => h⟩⟩ (.cons ⟨rfl, .inl ⟨rfl, fun h => h⟩⟩ (.cons ⟨rfl, .inl ⟨rfl, fun h => h⟩⟩ .nil))) (.cons ⟨rfl, .roI⟩ (.cons ⟨rfl, .roI⟩ (.cons ⟨rfl, .roI⟩ (.cons ⟨rfl, .inl rfl⟩ (.cons ⟨rfl, .cellsBe hall.symm⟩ .nil)))))) ?_
  intro j g4
  conv => whnf
  repeat' first | (refine Gets.of _ rfl ?_; conv => whnf) | (refine Gets.ix1v rfl rfl (by omega) ?_; conv => whnf) | (refine Gets.ldI rfl (by first | rfl | assumption) (by first | omega | exact Nat.le_of_ble_eq_true rfl) ?_; conv => whnf) | (refine Fork.dec (fun _ => ?_) (fun _ => ?_) <;> first | (exfalso; omega) | (conv => whnf))
  · obtain ⟨r1, r2, r3⟩ := ro j (by omega)
    refine CallS.of (by kernel_rfl) (is76 _ _ hlen (c.out.getD j 0) r1 r2 r3 _ 4 rfl) rfl ?_
    rintro _ _ ⟨rfl, hp | hp⟩
    all_goals conv => whnf
    all_goals
      repeat' first | (refine Gets.orN (Nat.lt_of_lt_of_le (packN_lt _ _) (Nat.pow_le_pow_right (by decide) (by omega))) (Nat.pow_lt_pow_right (by decide) (by omega)) ?_; conv => whnf) | ((with_reducible refine Gets.shlN ?_ ?_); (· omega); conv => whnf) | ((with_reducible refine Gets.addI ?_ ?_ ?_); (· omega); (· omega); conv => whnf)
    · refine ⟨j + 1, renL [0, 1, 2, 3, 4] 5, by omega, by omega, ⟨rfl, ?_, rfl, rfl, rfl, rfl, rfl, trivial⟩, EmbL.litsN [0, 1, 2, 3, 4] rfl rfl rfl rfl (.cons ⟨rfl, .inl ⟨rfl, fun h => h⟩⟩ (.cons ⟨rfl, .inl ⟨rfl, fun h => h⟩⟩ (.cons ⟨rfl, .inl ⟨rfl, fun h => h⟩⟩ .nil))) (.cons ⟨rfl, .roI⟩ (.cons ⟨rfl, .roI⟩ (.cons ⟨rfl, .roI⟩ (.cons ⟨rfl, .inl rfl⟩ (.cons ⟨rfl, .cellsB⟩ .nil)))))⟩
      rw [show packN fo (j + 1) = packN fo j ||| 2 ^ j by rw [packN, hfo', if_pos hp]]
      rfl
    · refine ⟨j + 1, renL [0, 1, 2, 3, 4] 5, by omega, by omega, ⟨rfl, ?_, rfl, rfl, rfl, rfl, rfl, trivial⟩, EmbL.litsN [0, 1, 2, 3, 4] rfl rfl rfl rfl (.cons ⟨rfl, .inl ⟨rfl, fun h => h⟩⟩ (.cons ⟨rfl, .inl ⟨rfl, fun h => h⟩⟩ (.cons ⟨rfl, .inl ⟨rfl, fun h => h⟩⟩ .nil))) (.cons ⟨rfl, .roI⟩ (.cons ⟨rfl, .roI⟩ (.cons ⟨rfl, .roI⟩ (.cons ⟨rfl, .inl rfl⟩ (.cons ⟨rfl, .cellsB⟩ .nil)))))⟩
      rw [show packN fo (j + 1) = packN fo j by rw [packN, hfo', if_neg hp]]
      rfl
  obtain rfl : j = c.out.length := by omega
  refine CodeS.loopGK (cuts := []) (σ := Nat) (fun j => [(6, .int .i64 (packN fo c.out.length : Nat)), (7, .int .i64 (packN fl j : Nat)), (8, .slice 4 0 (1 + c.inp.toNat + c.latch.length + c.gates.length)), (85, .view 0 0 c.latch.length), (86, .int .i64 c.latch.length), (87, .int .i64 j)]) (fun j => (c.heap.alloc c.box).alloc (.cells 1 (bls (c.vals inp st)))) (fun j => j ≤ c.latch.length) (fun j => c.latch.length - j) 0 (renL [0, 1, 2, 3, 4] 5) (by kernel_rfl) (Nat.zero_le _) ⟨rfl, rfl, rfl, rfl, rfl, rfl, trivial⟩ (EmbL.litsN [0, 1, 2, 3, 4] rfl rfl rfl rfl (.cons ⟨rfl, .inl ⟨rfl, fun h => h⟩⟩ (.cons ⟨rfl, .inl ⟨rfl, fun h => h⟩⟩ (.cons ⟨rfl, .inl ⟨rfl, fun h => h⟩⟩ .nil))) (.cons ⟨rfl, .roI⟩ (.cons ⟨rfl, .roI⟩ (.cons ⟨rfl, .roI⟩ (.cons ⟨rfl, .inl rfl⟩ (.cons ⟨rfl, .cellsB⟩ .nil)))))) ?_
  intro j g5
  conv => whnf
  repeat' first | (refine Gets.ix1v rfl rfl (by omega) ?_; conv => whnf) | (refine Gets.ldI rfl (by first | rfl | assumption) (by first | omega | exact Nat.le_of_ble_eq_true rfl) ?_; conv => whnf) | (refine Fork.dec (fun _ => ?_) (fun _ => ?_) <;> first | (exfalso; omega) | (conv => whnf))
  · obtain ⟨r1, r2, r3⟩ := rl j (by omega)
    refine CallS.of (by kernel_rfl) (is76 _ _ hlen (c.latch.getD j 0) r1 r2 r3 _ 4 rfl) rfl ?_
    rintro _ _ ⟨rfl, hp | hp⟩
    all_goals conv => whnf
    all_goals
      repeat' first | (refine Gets.orN (Nat.lt_of_lt_of_le (packN_lt _ _) (Nat.pow_le_pow_right (by decide) (by omega))) (Nat.pow_lt_pow_right (by decide) (by omega)) ?_; conv => whnf) | ((with_reducible refine Gets.shlN ?_ ?_); (· omega); conv => whnf) | ((with_reducible refine Gets.addI ?_ ?_ ?_); (· omega); (· omega); conv => whnf)
    · refine ⟨j + 1, renL [0, 1, 2, 3, 4] 5, by omega, by omega, ⟨rfl, ?_, rfl, rfl, rfl, rfl, trivial⟩, EmbL.litsN [0, 1, 2, 3, 4] rfl rfl rfl rfl (.cons ⟨rfl, .inl ⟨rfl, fun h => h⟩⟩ (.cons ⟨rfl, .inl ⟨rfl, fun h => h⟩⟩ (.cons ⟨rfl, .inl ⟨rfl, fun h => h⟩⟩ .nil))) (.cons ⟨rfl, .roI⟩ (.cons ⟨rfl, .roI⟩ (.cons ⟨rfl, .roI⟩ (.cons ⟨rfl, .inl rfl⟩ (.cons ⟨rfl, .cellsB⟩ .nil)))))⟩
      rw [show packN fl (j + 1) = packN fl j ||| 2 ^ j by rw [packN, hfl', if_pos hp]]
      rfl
    · refine ⟨j + 1, renL [0, 1, 2, 3, 4] 5, by omega, by omega, ⟨rfl, ?_, rfl, rfl, rfl, rfl, trivial⟩, EmbL.litsN [0, 1, 2, 3, 4] rfl rfl rfl rfl (.cons ⟨rfl, .inl ⟨rfl, fun h => h⟩⟩ (.cons ⟨rfl, .inl ⟨rfl, fun h => h⟩⟩ (.cons ⟨rfl, .inl ⟨rfl, fun h => h⟩⟩ .nil))) (.cons ⟨rfl, .roI⟩ (.cons ⟨rfl, .roI⟩ (.cons ⟨rfl, .roI⟩ (.cons ⟨rfl, .inl rfl⟩ (.cons ⟨rfl, .cellsB⟩ .nil)))))⟩
      rw [show packN fl (j + 1) = packN fl j by rw [packN, hfl', if_neg hp]]
      rfl
  obtain rfl : j = c.latch.length := by omega
  rw [ho1, hl1]
theorem step59c (c : Cir) (ho : c.Ok) (inp st : Nat) (hi : inp < 4294967296) (hst : st < 4294967296) (H : AHeap) (hn : Nat.ble 3 H.n = true) (h0 : H.f 0 = .ro 1 (ints c.latch)) (h1 : H.f 1 = .ro 2 (ints (pflat c.gates))) (h2 : H.f 2 = .ro 1 (ints c.out)) : CallW Try.prog 59 [c.av 0 1 2, .int .i64 st, .int .i64 inp] H fun v H' => H' = H ∧ v = .tuple [.int .i64 (c.outv inp st : Nat), .int .i64 (c.nxt inp st : Nat)] :=
  (step59 c ho inp st hi hst).readsL (by rintro _ rfl; rfl) [0, 1, 2] rfl (roC c H hn h0 h1 h2)
end Go.Proofs.Ytmghlldboiplpaa
