/- Print, as the program does it. -/
import Derived.Test.YthjemhlcojmiaaaDoorGj
-- VkG VkH VmA
set_option linter.unusedVariables false
set_option linter.unusedSimpArgs false
set_option maxRecDepth 100000
set_option maxHeartbeats 4000000
namespace Go.Proofs.YthjemhlcojmiaaaDoor
open Go Go.Vh Go.Vk Go.Proofs
/-- Bytes as cells. -/
def byt (l : List Nat) : List AVal := l.map fun c : Nat => .int .u8 (c : Int)
theorem byt_length (l : List Nat) : (byt l).length = l.length := List.length_map ..
theorem byt_append (a b : List Nat) : byt (a ++ b) = byt a ++ byt b := List.map_append ..
theorem byt_scalar (l : List Nat) : (byt l).all AVal.scalar = true := List.all_eq_true.2 fun v hv => by
  obtain ⟨c, _, rfl⟩ := List.mem_map.1 hv; rfl
theorem rens_byt (κ : Nat → Nat) : ∀ l : List Nat, rens κ (byt l) = byt l
  | [] => rfl
  | c :: l => by
    show ren κ (.int .u8 (c : Int)) :: rens κ (byt l) = _
    rw [rens_byt κ l]; rfl
theorem src_txt {H : AHeap} {l : List Nat} (h : ∀ c ∈ l, c < 256) : srcA H 1 (.str (txt l)) = some (byt l, l.length) := by
  show some (((l.map UInt8.ofNat).toArray.toList.map fun b : UInt8 => AVal.int .u8 (b.toNat : Int)), (txt l).size) = _
  rw [txt_size, List.toList_toArray, List.map_map]
  congr 2
  apply List.map_congr_left
  intro c hc
  show AVal.int .u8 ((UInt8.ofNat c).toNat : Int) = _
  rw [UInt8.toNat_ofNat', Nat.mod_eq_of_lt (by have := h c hc; omega)]
theorem src_byt {H : AHeap} {j n : Nat} {l : List Nat} (hf : H.f j = .cells 1 (byt l)) (hn : n = l.length) : srcA H 1 (.slice j 0 n) = some (byt l, n) := by
  subst hn
  simp only [srcA, hf, byt_length, Nat.mul_one, Nat.zero_add, true_and, if_pos (Nat.le_refl _), List.drop_zero]
  rw [List.take_of_length_le (by rw [byt_length]; exact Nat.le_refl _)]
theorem bytesA_byt : ∀ (l : List Nat) (s : ByteArray), bytesA (byt l) s = some ⟨s.data ++ (l.map UInt8.ofNat).toArray⟩
  | [], s => by simp [byt, bytesA]
  | c :: l, s => by
    show bytesA (byt l) (s.push (UInt8.ofNat c)) = _
    rw [bytesA_byt l]
    congr 2
    show s.data.push _ ++ _ = _
    apply Array.ext'
    simp
theorem conv_byt {P : Program} {H : AHeap} {s d e : TypeId} {i n : Nat} {l : List Nat} (hs : P.underlying s = some (.slice e)) (hd : P.underlying d = some .string) (he : P.underlying e = some (.int .u8)) (hf : H.f i = .cells 1 (byt l)) (hn : n = l.length) : aconvS P H s d (.slice i 0 n) = some (.str (txt l)) := by
  unfold aconvS
  rw [hs, hd]
  dsimp only
  rw [he, src_byt hf hn]
  show (bytesA (byt l) .empty).map AVal.str = _
  rw [bytesA_byt]
  show some (AVal.str _) = some (AVal.str _)
  congr 2
  unfold txt
  congr 1
  apply Array.ext'
  simp
theorem Gets.appY {P : Program} {H : AHeap} {t tx : TypeId} {ti : TI} {d : TypeDesc} {i n m : Nat} {x : AVal} {l xs : List Nat} {A : AVal × AHeap → Prop} (ht : sliceT P t = some ti) (hd : P.underlying tx = some d) (hr : rowD d = true) (hsz : ti.size = 1) (hz : ti.zero.length = 1) (hb : ti.bytes ≤ 4096)
    (hf : H.f i = .cells 1 (byt l)) (hm : m = l.length) (hx : srcA H 1 x = some (byt xs, n)) (hl : m + n ≤ 4294967296)
    (hA : A (.slice H.n 0 (m + n), (H.set i .dead).alloc (.cells 1 (byt (l ++ xs))))) : Gets (builtA P H .append [t, tx] [.slice i 0 m, x]) A :=
  Gets.appG ht hd hr hsz hz hb hf hx (by rw [byt_length]; omega) hl (byt_scalar _) (by
    have : (byt l).take (m * 1) ++ byt xs = byt (l ++ xs) := by rw [Nat.mul_one, List.take_of_length_le (by rw [byt_length]; omega), byt_append]
    rw [this]; exact hA)
theorem wr64 {x : Nat} (h : x < 64) : IntKind.wrap .u64 (x : Int) = (x : Int) := by
  simp only [IntKind.wrap, IntKind.bits, IntKind.signed, Bool.false_and, show (2 : Int) ^ 64 = 18446744073709551616 from rfl]
  rw [if_neg (by simp)]
  omega
theorem wi64 {x : Nat} (h : x < 64) : IntKind.wrap .i64 (x : Int) = (x : Int) := by
  simp only [IntKind.wrap, IntKind.bits, IntKind.signed, Bool.true_and, decide_eq_true_eq, show (2 : Int) ^ (64 - 1) = 9223372036854775808 from rfl, show (2 : Int) ^ 64 = 18446744073709551616 from rfl]
  split <;> omega
theorem dig_byte' {x : Nat} (hx : x < 64) : ∀ c ∈ dig x, c < 256 := by
  unfold dig
  split
  · intro c hc
    simp only [List.mem_cons, List.not_mem_nil, or_false] at hc
    omega
  · intro c hc
    simp only [List.mem_cons, List.not_mem_nil, or_false] at hc
    omega
/-- A number's digits behind nil. -/
theorem uintN (x : Nat) (hx : x < 64) (H : AHeap) : CallW Tryd.prog 63 [.nilSlice, .int .u64 (x : Int), .int .i64 10] H fun v H' => v = .slice H.n 0 (dig x).length ∧ H' = H.alloc (.cells 1 (byt (dig x))) := by
  have hd := dig_len x
  refine CallW.symK (cuts := []) Tryd.func63 rfl (by kernel_rfl) ?_
  conv => whnf
  repeat' first | (refine Fork.yesR rfl ?_; conv => whnf) | (refine Fork.dec (fun _ => ?_) (fun _ => ?_) <;> first | (exfalso; omega) | (conv => whnf))
  rw [wi64 hx]
  refine CallS.of (by kernel_rfl) (smallR x hx _) rfl ?_
  rintro _ _ ⟨rfl, rfl⟩
  conv => whnf
  repeat' ((refine Gets.appNilS (n := (dig x).length) (xs := byt (dig x)) rfl rfl rfl rfl rfl (by decide) (src_txt (dig_byte' hx)) (by omega) (by omega) ?_); conv => whnf)
  exact ⟨rfl, rfl⟩
theorem uintY (x : Nat) (hx : x < 64) (H : AHeap) (i : Nat) (l : List Nat) (hf : H.f i = .cells 1 (byt l)) (hl : l.length ≤ 100000) : CallW Tryd.prog 63 [.slice i 0 l.length, .int .u64 (x : Int), .int .i64 10] H fun v H' => v = .slice H.n 0 (l.length + (dig x).length) ∧ H' = (H.set i .dead).alloc (.cells 1 (byt (l ++ dig x))) := by
  have hd := dig_len x
  refine CallW.symK (cuts := []) Tryd.func63 rfl (by kernel_rfl) ?_
  conv => whnf
  repeat' first | (refine Fork.yesR rfl ?_; conv => whnf) | (refine Fork.dec (fun _ => ?_) (fun _ => ?_) <;> first | (exfalso; omega) | (conv => whnf))
  rw [wi64 hx]
  refine CallS.of (by kernel_rfl) (smallR x hx _) rfl ?_
  rintro _ _ ⟨rfl, rfl⟩
  conv => whnf
  repeat' ((refine Gets.appY (l := l) (n := (dig x).length) (xs := dig x) rfl rfl rfl rfl rfl (by decide) hf rfl (src_txt (dig_byte' hx)) (by omega) ?_); conv => whnf)
  exact ⟨rfl, rfl⟩
theorem int1N (x : Nat) (hx : x < 64) (H : AHeap) : CallW Tryd.prog 58 [.nilSlice, .int .i64 (x : Int), .int .i64 10] H fun v H' => v = .slice H.n 0 (dig x).length ∧ H' = H.alloc (.cells 1 (byt (dig x))) := by
  refine CallW.symK (cuts := []) Tryd.func58 rfl (by kernel_rfl) ?_
  conv => whnf
  repeat' (refine Fork.noR rfl ?_; conv => whnf)
  try rw [wr64 hx]
  refine CallS.of (by kernel_rfl) (uintN x hx _) rfl ?_
  rintro _ _ ⟨rfl, rfl⟩
  conv => whnf
  skip
  exact ⟨rfl, rfl⟩
theorem int1Y (x : Nat) (hx : x < 64) (H : AHeap) (i : Nat) (l : List Nat) (hf : H.f i = .cells 1 (byt l)) (hl : l.length ≤ 100000) : CallW Tryd.prog 58 [.slice i 0 l.length, .int .i64 (x : Int), .int .i64 10] H fun v H' => v = .slice H.n 0 (l.length + (dig x).length) ∧ H' = (H.set i .dead).alloc (.cells 1 (byt (l ++ dig x))) := by
  refine CallW.symK (cuts := []) Tryd.func58 rfl (by kernel_rfl) ?_
  conv => whnf
  repeat' (refine Fork.noR rfl ?_; conv => whnf)
  try rw [wr64 hx]
  refine CallS.of (by kernel_rfl) (uintY x hx _ i l hf hl) rfl ?_
  rintro _ _ ⟨rfl, rfl⟩
  conv => whnf
  skip
  exact ⟨rfl, rfl⟩
theorem int2N (x : Nat) (hx : x < 64) (H : AHeap) : CallW Tryd.prog 40 [.nilSlice, .int .i64 (x : Int), .int .i64 10] H fun v H' => v = .slice H.n 0 (dig x).length ∧ H' = H.alloc (.cells 1 (byt (dig x))) := by
  refine CallW.symK (cuts := []) Tryd.func40 rfl (by kernel_rfl) ?_
  conv => whnf
  skip
  try rw [wr64 hx]
  refine CallS.of (by kernel_rfl) (int1N x hx _) rfl ?_
  rintro _ _ ⟨rfl, rfl⟩
  conv => whnf
  skip
  exact ⟨rfl, rfl⟩
theorem int2Y (x : Nat) (hx : x < 64) (H : AHeap) (i : Nat) (l : List Nat) (hf : H.f i = .cells 1 (byt l)) (hl : l.length ≤ 100000) : CallW Tryd.prog 40 [.slice i 0 l.length, .int .i64 (x : Int), .int .i64 10] H fun v H' => v = .slice H.n 0 (l.length + (dig x).length) ∧ H' = (H.set i .dead).alloc (.cells 1 (byt (l ++ dig x))) := by
  refine CallW.symK (cuts := []) Tryd.func40 rfl (by kernel_rfl) ?_
  conv => whnf
  skip
  try rw [wr64 hx]
  refine CallS.of (by kernel_rfl) (int1Y x hx _ i l hf hl) rfl ?_
  rintro _ _ ⟨rfl, rfl⟩
  conv => whnf
  skip
  exact ⟨rfl, rfl⟩
theorem putN {x : Int} (h : inL 6 x) (H : AHeap) : CallW Tryd.prog 40 [.nilSlice, .int .i64 x, .int .i64 10] H fun v H' => v = .slice H.n 0 (dig x.toNat).length ∧ H' = H.alloc (.cells 1 (byt (dig x.toNat))) := by
  obtain ⟨h1, h2⟩ := letter_nat h
  have := int2N x.toNat h2 H
  rw [← h1] at this
  exact this
theorem putY {x : Int} (h : inL 6 x) (H : AHeap) (i : Nat) (l : List Nat) (hf : H.f i = .cells 1 (byt l)) (hl : l.length ≤ 100000) : CallW Tryd.prog 40 [.slice i 0 l.length, .int .i64 x, .int .i64 10] H fun v H' => v = .slice H.n 0 (l.length + (dig x.toNat).length) ∧ H' = (H.set i .dead).alloc (.cells 1 (byt (l ++ dig x.toNat))) := by
  obtain ⟨h1, h2⟩ := letter_nat h
  have := int2Y x.toNat h2 H i l hf hl
  rw [← h1] at this
  exact this
end Go.Proofs.YthjemhlcojmiaaaDoor

/- Print's closure. -/
-- VkG VkH VmA
set_option linter.unusedVariables false
set_option linter.unusedSimpArgs false
set_option maxRecDepth 100000
set_option maxHeartbeats 4000000
namespace Go.Proofs.YthjemhlcojmiaaaDoor
open Go Go.Vh Go.Vk Go.Proofs
theorem cellY {κ : Nat → Nat} {i j n m : Nat} (hk : κ i = j) (h : m = n) : BSub κ (.cells 1 [.slice i 0 m]) (.cells 1 [.slice j 0 n]) := .inl (by subst h; subst hk; rfl)
theorem bytY {κ : Nat → Nat} {l l' : List Nat} (h : l = l') : BSub κ (.cells 1 (byt l)) (.cells 1 (byt l')) := .inl (by subst h; show _ = ABlk.cells 1 (rens κ (byt l)); rw [rens_byt])
noncomputable def PB (l : List Nat) (v : Nat) : AHeap := ⟨2, fun i => match i with
  | 0 => .cells 1 [.slice 1 0 l.length] | 1 => .cells 1 (byt l) | i => emptyH.f i, fun i => match i with | 0 => v | _ => 0⟩
noncomputable def PBs (l : List Nat) (v : Nat) : Nat → AHeap
  | 0 => emptyH.alloc (.cells 1 [.nilSlice])
  | _ + 1 => PB l v
/-- From nil. -/
theorem putB (xs : List Int) (hx : ∀ x ∈ xs, inL 6 x) (hn : 0 < xs.length) (hm : xs.length ≤ 200) : CallW Tryd.prog 39 [rI xs, .ptr 0 0] (emptyH.alloc (.cells 1 [.nilSlice])) fun v H' => v = .tuple [] ∧ ∃ v', H' = PB (pw xs) v' := by
  refine CallW.symRK (cuts := []) Tryd.func39 rfl (by kernel_rfl) ?_
  conv => whnf
  repeat' (refine Gets.of _ rfl ?_; conv => whnf)
  refine CodeS.loopGK (cuts := []) (σ := Nat × Nat) (fun s => [(1, .ptr 0 0), (5, rI xs), (6, .int .i64 (xs.length : Int)), (7, .int .i64 (s.1 : Int))]) (fun s => PBs (pw (xs.take s.1)) s.2 s.1) (fun s => s.1 ≤ xs.length) (fun s => xs.length - s.1) (0, 0) (renL [0] 1) (by kernel_rfl) (Nat.zero_le _) ⟨rfl, rfl, rfl, rfl, trivial⟩ (EmbL.litsN [0] rfl rfl rfl rfl (.cons ⟨rfl, .inl ⟨rfl, fun h => h⟩⟩ .nil) (.cons ⟨rfl, .inl rfl⟩ .nil)) ?_
  rintro ⟨k, v⟩ hk
  dsimp only at hk ⊢
  have hpl := pw_take xs k
  rcases Nat.lt_or_ge k xs.length with hkl | hkl
  · have hin := hx _ (getD_mem hkl)
    have hd := dig_len (xs.getD k 0).toNat
    have e := pw_next hkl
    rcases k with _ | k
    · conv => whnf
      repeat' first | (refine Gets.of _ rfl ?_; conv => whnf) | (refine Gets.ixR1 rfl rfl (by omega) ?_; conv => whnf) | (refine Gets.ldRI rfl (by first | omega | exact Nat.le_of_ble_eq_true rfl) ?_; conv => whnf) | (refine Fork.dec (fun _ => ?_) (fun _ => ?_) <;> first | (exfalso; omega) | (conv => whnf))
      refine CallS.of (by kernel_rfl) (putN hin _) rfl ?_
      rintro _ _ ⟨rfl, rfl⟩
      conv => whnf
      repeat' first | ((refine Gets.appY (l := dig (xs.getD 0 0).toNat) (n := 1) (xs := [32]) rfl rfl rfl rfl rfl (by decide) rfl rfl (src_byt (l := [32]) rfl rfl) (by omega) ?_); conv => whnf) | ((refine Gets.stS rfl rfl rfl rfl rfl rfl ?_); conv => whnf) | ((with_reducible refine Gets.addI ?_ ?_ ?_); (· omega); (· omega); conv => whnf)
      have e1 : dig (xs.getD 0 0).toNat ++ [32] = pw (xs.take 1) := e.symm
      have e2 : (pw (xs.take 1)).length = (dig (xs.getD 0 0).toNat).length + 1 := by rw [← e1, List.length_append]; rfl
      exact ⟨(1, 3), renL [0, 3] 4, hkl, by show xs.length - 1 < xs.length - 0; omega, ⟨rfl, rfl, rfl, rfl, trivial⟩, EmbL.litsN [0, 3] rfl rfl rfl rfl (.cons ⟨rfl, .inr (Nat.le_of_ble_eq_true rfl)⟩ .nil) (.cons ⟨rfl, cellY rfl e2⟩ (.cons ⟨rfl, bytY e1.symm⟩ .nil))⟩
    · conv => whnf
      repeat' first | (refine Gets.of _ rfl ?_; conv => whnf) | (refine Gets.ixR1 rfl rfl (by omega) ?_; conv => whnf) | (refine Gets.ldRI rfl (by first | omega | exact Nat.le_of_ble_eq_true rfl) ?_; conv => whnf) | (refine Fork.dec (fun _ => ?_) (fun _ => ?_) <;> first | (exfalso; omega) | (conv => whnf))
      refine CallS.of (by kernel_rfl) (putY hin _ 1 (pw (xs.take (k + 1))) rfl (by omega)) rfl ?_
      rintro _ _ ⟨rfl, rfl⟩
      conv => whnf
      repeat' first | ((refine Gets.appY (l := pw (xs.take (k + 1)) ++ dig (xs.getD (k + 1) 0).toNat) (n := 1) (xs := [32]) rfl rfl rfl rfl rfl (by decide) rfl (by simp only [List.length_append]) (src_byt (l := [32]) rfl rfl) (by omega) ?_); conv => whnf) | ((refine Gets.stS rfl rfl rfl rfl rfl rfl ?_); conv => whnf) | ((with_reducible refine Gets.addI ?_ ?_ ?_); (· omega); (· omega); conv => whnf)
      have e1 : pw (xs.take (k + 1)) ++ dig (xs.getD (k + 1) 0).toNat ++ [32] = pw (xs.take (k + 2)) := by rw [List.append_assoc]; exact e.symm
      have e2 : (pw (xs.take (k + 2))).length = (pw (xs.take (k + 1))).length + (dig (xs.getD (k + 1) 0).toNat).length + 1 := by rw [← e1, List.length_append, List.length_append]; rfl
      exact ⟨(k + 2, v + 3), renL [0, 4] 5, hkl, by show xs.length - (k + 2) < xs.length - (k + 1); omega, ⟨rfl, rfl, rfl, rfl, trivial⟩, EmbL.litsN [0, 4] rfl rfl rfl rfl (.cons ⟨rfl, .inr (by first | exact verLt (v := v) (k := 0) (m := 3) rfl rfl | exact verLt (v := v) (k := 1) (m := 3) rfl rfl | exact verLt (v := v) (k := 2) (m := 3) rfl rfl)⟩ .nil) (.cons ⟨rfl, cellY rfl e2⟩ (.cons ⟨rfl, bytY e1.symm⟩ .nil))⟩
  · obtain rfl : k = xs.length := by omega
    rw [List.take_length]
    obtain ⟨m, hm'⟩ : ∃ m, xs.length = m + 1 := ⟨xs.length - 1, by omega⟩
    rw [hm']
    conv => whnf
    repeat' (refine Fork.dec (fun _ => ?_) (fun _ => ?_) <;> first | (exfalso; omega) | (conv => whnf))
    exact ⟨renL [0, 1] 2, .tuple [], PB (pw xs) v, EmbL.litsN [0, 1] rfl rfl rfl rfl (.cons ⟨rfl, .inl ⟨rfl, fun h => h⟩⟩ .nil) (.cons ⟨rfl, .inl rfl⟩ (.cons ⟨rfl, bytY rfl⟩ .nil)), rfl, rfl, v, rfl⟩
noncomputable def HC (l : List Nat) : AHeap := (emptyH.alloc (.cells 1 [.slice 1 0 l.length])).alloc (.cells 1 (byt l))
noncomputable def PC (l : List Nat) (v : Nat) : AHeap := ⟨3, fun i => match i with
  | 0 => .cells 1 [.slice 2 0 l.length] | 1 => .dead | 2 => .cells 1 (byt l) | i => emptyH.f i, fun i => match i with | 0 => v | 1 => v | _ => 0⟩
noncomputable def PCs (l0 l : List Nat) (v : Nat) : Nat → AHeap
  | 0 => HC l0
  | _ + 1 => PC l v
/-- Behind what is there. -/
theorem putC (l : List Nat) (hll : l.length ≤ 1000) (xs : List Int) (hx : ∀ x ∈ xs, inL 6 x) (hn : 0 < xs.length) (hm : xs.length ≤ 200) : CallW Tryd.prog 39 [rI xs, .ptr 0 0] (HC l) fun v H' => v = .tuple [] ∧ ∃ v', H' = PC (l ++ pw xs) v' := by
  refine CallW.symRK (cuts := []) Tryd.func39 rfl (by kernel_rfl) ?_
  conv => whnf
  repeat' (refine Gets.of _ rfl ?_; conv => whnf)
  refine CodeS.loopGK (cuts := []) (σ := Nat × Nat) (fun s => [(1, .ptr 0 0), (5, rI xs), (6, .int .i64 (xs.length : Int)), (7, .int .i64 (s.1 : Int))]) (fun s => PCs l (l ++ pw (xs.take s.1)) s.2 s.1) (fun s => s.1 ≤ xs.length) (fun s => xs.length - s.1) (0, 0) (renL [0, 1] 2) (by kernel_rfl) (Nat.zero_le _) ⟨rfl, rfl, rfl, rfl, trivial⟩ (EmbL.litsN [0, 1] rfl rfl rfl rfl (.cons ⟨rfl, .inl ⟨rfl, fun h => h⟩⟩ (.cons ⟨rfl, .inl ⟨rfl, fun h => h⟩⟩ .nil)) (.cons ⟨rfl, cellY rfl rfl⟩ (.cons ⟨rfl, bytY rfl⟩ .nil))) ?_
  rintro ⟨k, v⟩ hk
  dsimp only at hk ⊢
  have hpl := pw_take xs k
  rcases Nat.lt_or_ge k xs.length with hkl | hkl
  · have hin := hx _ (getD_mem hkl)
    have hd := dig_len (xs.getD k 0).toNat
    have e := pw_next hkl
    rcases k with _ | k
    · conv => whnf
      repeat' first | (refine Gets.of _ rfl ?_; conv => whnf) | (refine Gets.ixR1 rfl rfl (by omega) ?_; conv => whnf) | (refine Gets.ldRI rfl (by first | omega | exact Nat.le_of_ble_eq_true rfl) ?_; conv => whnf) | (refine Fork.dec (fun _ => ?_) (fun _ => ?_) <;> first | (exfalso; omega) | (conv => whnf))
      refine CallS.of (by kernel_rfl) (putY hin _ 1 l rfl (by omega)) rfl ?_
      rintro _ _ ⟨rfl, rfl⟩
      conv => whnf
      repeat' first | ((refine Gets.appY (l := l ++ dig (xs.getD 0 0).toNat) (n := 1) (xs := [32]) rfl rfl rfl rfl rfl (by decide) rfl (by simp only [List.length_append]) (src_byt (l := [32]) rfl rfl) (by omega) ?_); conv => whnf) | ((refine Gets.stS rfl rfl rfl rfl rfl rfl ?_); conv => whnf) | ((with_reducible refine Gets.addI ?_ ?_ ?_); (· omega); (· omega); conv => whnf)
      have e1 : l ++ dig (xs.getD 0 0).toNat ++ [32] = l ++ pw (xs.take 1) := by rw [List.append_assoc]; exact congrArg _ e.symm
      have e2 : (l ++ pw (xs.take 1)).length = l.length + (dig (xs.getD 0 0).toNat).length + 1 := by rw [← e1, List.length_append, List.length_append]; rfl
      exact ⟨(1, 3), renL [0, 1, 4] 5, hkl, by show xs.length - 1 < xs.length - 0; omega, ⟨rfl, rfl, rfl, rfl, trivial⟩, EmbL.litsN [0, 1, 4] rfl rfl rfl rfl (.cons ⟨rfl, .inr (Nat.le_of_ble_eq_true rfl)⟩ (.cons ⟨rfl, .inr (Nat.le_of_ble_eq_true rfl)⟩ .nil)) (.cons ⟨rfl, cellY rfl e2⟩ (.cons ⟨rfl, .gone⟩ (.cons ⟨rfl, bytY e1.symm⟩ .nil)))⟩
    · conv => whnf
      repeat' first | (refine Gets.of _ rfl ?_; conv => whnf) | (refine Gets.ixR1 rfl rfl (by omega) ?_; conv => whnf) | (refine Gets.ldRI rfl (by first | omega | exact Nat.le_of_ble_eq_true rfl) ?_; conv => whnf) | (refine Fork.dec (fun _ => ?_) (fun _ => ?_) <;> first | (exfalso; omega) | (conv => whnf))
      refine CallS.of (by kernel_rfl) (putY hin _ 2 (l ++ pw (xs.take (k + 1))) rfl (by rw [List.length_append]; omega)) rfl ?_
      rintro _ _ ⟨rfl, rfl⟩
      have e3 := @List.length_append _ l (pw (xs.take (k + 1)))
      conv => whnf
      repeat' first | ((refine Gets.appY (l := l ++ pw (xs.take (k + 1)) ++ dig (xs.getD (k + 1) 0).toNat) (n := 1) (xs := [32]) rfl rfl rfl rfl rfl (by decide) rfl (by simp only [List.length_append]) (src_byt (l := [32]) rfl rfl) (by omega) ?_); conv => whnf) | ((refine Gets.stS rfl rfl rfl rfl rfl rfl ?_); conv => whnf) | ((with_reducible refine Gets.addI ?_ ?_ ?_); (· omega); (· omega); conv => whnf)
      have e1 : l ++ pw (xs.take (k + 1)) ++ dig (xs.getD (k + 1) 0).toNat ++ [32] = l ++ pw (xs.take (k + 2)) := by rw [List.append_assoc, List.append_assoc]; exact congrArg _ e.symm
      have e2 : (l ++ pw (xs.take (k + 2))).length = (l ++ pw (xs.take (k + 1))).length + (dig (xs.getD (k + 1) 0).toNat).length + 1 := by rw [← e1, List.length_append, List.length_append]; rfl
      exact ⟨(k + 2, v + 3), renL [0, 1, 5] 6, hkl, by show xs.length - (k + 2) < xs.length - (k + 1); omega, ⟨rfl, rfl, rfl, rfl, trivial⟩, EmbL.litsN [0, 1, 5] rfl rfl rfl rfl (.cons ⟨rfl, .inr (by first | exact verLt (v := v) (k := 0) (m := 3) rfl rfl | exact verLt (v := v) (k := 1) (m := 3) rfl rfl | exact verLt (v := v) (k := 2) (m := 3) rfl rfl)⟩ (.cons ⟨rfl, .inr (by first | exact verLt (v := v) (k := 0) (m := 3) rfl rfl | exact verLt (v := v) (k := 1) (m := 3) rfl rfl | exact verLt (v := v) (k := 2) (m := 3) rfl rfl)⟩ .nil)) (.cons ⟨rfl, cellY rfl e2⟩ (.cons ⟨rfl, .gone⟩ (.cons ⟨rfl, bytY e1.symm⟩ .nil)))⟩
  · obtain rfl : k = xs.length := by omega
    rw [List.take_length]
    obtain ⟨m, hm'⟩ : ∃ m, xs.length = m + 1 := ⟨xs.length - 1, by omega⟩
    rw [hm']
    conv => whnf
    repeat' (refine Fork.dec (fun _ => ?_) (fun _ => ?_) <;> first | (exfalso; omega) | (conv => whnf))
    exact ⟨renL [0, 1, 2] 3, .tuple [], PC (l ++ pw xs) v, EmbL.litsN [0, 1, 2] rfl rfl rfl rfl (.cons ⟨rfl, .inl ⟨rfl, fun h => h⟩⟩ (.cons ⟨rfl, .inl ⟨rfl, fun h => h⟩⟩ .nil)) (.cons ⟨rfl, .inl rfl⟩ (.cons ⟨rfl, .gone⟩ (.cons ⟨rfl, bytY rfl⟩ .nil))), rfl, rfl, v, rfl⟩
/-- Of nothing. -/
theorem put0 (xs : List Int) (hn : xs.length = 0) (H : AHeap) (i : Nat) : CallW Tryd.prog 39 [rI xs, .ptr i 0] H fun v H' => v = .tuple [] ∧ H' = H := by
  obtain rfl : xs = [] := List.eq_nil_of_length_eq_zero hn
  refine CallW.symK (cuts := []) Tryd.func39 rfl (by kernel_rfl) ?_
  conv => whnf
  repeat' (refine Gets.of _ rfl ?_; conv => whnf)
  refine CodeS.loopSK (cuts := []) (σ := Unit) (fun _ => [(6, .int .i64 0), (7, .int .i64 0)]) (fun _ => H) (fun _ => True) (fun _ => 0) () (by kernel_rfl) trivial ⟨rfl, rfl, trivial⟩ rfl ?_
  rintro _ _
  conv => whnf
  repeat' (refine Fork.noR rfl ?_; conv => whnf)
  exact ⟨rfl, rfl⟩
end Go.Proofs.YthjemhlcojmiaaaDoor

/- Print, as the program does it: the whole. -/
-- VkG VkH VmA
set_option linter.unusedVariables false
set_option linter.unusedSimpArgs false
set_option maxRecDepth 100000
set_option maxHeartbeats 4000000
namespace Go.Proofs.YthjemhlcojmiaaaDoor
open Go Go.Vh Go.Vk Go.Proofs
theorem fr_byt {κ : Nat → Nat} {l : List Nat} {b : ABlk} (h : b = renB κ (.cells 1 (byt l))) : b = .cells 1 (byt l) := by
  rw [h]; show ABlk.cells 1 (rens κ (byt l)) = _; rw [rens_byt]
theorem step_conv {P : Program} {e : Env} {H : AHeap} {s d : TypeId} {x : Operand} {v : AVal} (ha : aconv P s d (evalA e x) = none) (h : aconvS P H s d (evalA e x) = some v) : astep P (.convert s d x) e H = some (v, H) := by
  simp only [astep, apure, amem, ha, h, Option.map]
theorem print14 (w : Wd) (hf : w.Fits) (H : AHeap) : CallW Tryd.prog 14 [w.rv] H fun v H' => H' = H ∧ v = .tuple [.str (txt (printW w).1), .int .i64 (printW w).2] := by
  refine CallW.pure ?_ rfl H
  refine CallW.symK (cuts := []) Tryd.func14 rfl (by kernel_rfl) ?_
  conv => whnf
  repeat' (refine Gets.of _ rfl ?_; conv => whnf)
  refine CallS.of (by kernel_rfl) (validR w hf 6 _) rfl ?_
  rintro _ _ ⟨rfl, hp | hp⟩
  rotate_left
  · conv => whnf
    skip
    have e : printW w = ([], 1) := if_neg hp
    rw [e]
    exact ⟨[], _, rfl, .same rfl, rfl, rfl⟩
  have e : printW w = (printB w, 0) := if_pos hp
  rw [e]
  clear e
  have hm := hp.m
  have h0 := hp.p
  have hs := pw_len w.stem
  have hl := pw_len w.loop
  conv => whnf
  repeat' (refine Gets.of _ rfl ?_; conv => whnf)
  rcases Nat.eq_zero_or_pos w.stem.length with hz | hz
  · refine CallS.of (by kernel_rfl) (put0 w.stem hz _ 1) rfl ?_
    rintro _ _ ⟨rfl, rfl⟩
    conv => whnf
    repeat' first | ((refine Gets.appNilS (n := 2) (xs := byt [40, 32]) rfl rfl rfl rfl rfl (by decide) rfl (by decide) (by decide) ?_); conv => whnf) | ((refine Gets.stS rfl rfl rfl rfl rfl rfl ?_); conv => whnf) | (refine Gets.of _ rfl ?_; conv => whnf)
    refine CallS.of (by kernel_rfl) ((putC [40, 32] (by decide) w.loop hp.l h0 (by omega)).frameQ [1, 2] rfl (.cons ⟨rfl, cellY rfl rfl⟩ (.cons ⟨rfl, bytY rfl⟩ .nil)) ?_) rfl ?_
    · rintro _ _ ⟨rfl, v', rfl⟩
      repeat first | exact .nil | refine .cons (by first | exact .inr rfl | exact .inl rfl | exact .inr (fresh_vB _)) ?_
    rintro _ _ ⟨_, _, ⟨rfl, v', rfl⟩, rfl, rfl⟩
    conv => whnf
    repeat' first | ((refine Gets.appY (l := [40, 32] ++ pw w.loop) (n := 1) (xs := [41]) rfl rfl rfl rfl rfl (by decide) (fr_byt rfl) rfl (src_byt (l := [41]) rfl rfl) (by simp only [List.length_append, List.length_cons, List.length_nil]; omega) ?_); conv => whnf) | (refine Gets.of _ rfl ?_; conv => whnf)
    rw [step_conv (v := .str (txt ([40, 32] ++ pw w.loop ++ [41])))]
    rotate_left
    · rfl
    · exact conv_byt rfl rfl rfl rfl (by simp only [List.length_append, List.length_cons, List.length_nil])
    conv => whnf
    skip
    have eP : printB w = [40, 32] ++ pw w.loop ++ [41] := by unfold printB; rw [List.eq_nil_of_length_eq_zero hz]; rfl
    rw [eP]
    exact ⟨[], _, rfl, .same rfl, rfl, rfl⟩
  · refine CallS.of (by kernel_rfl) ((putB w.stem hp.s hz (by omega)).frameQ [1] rfl (.cons ⟨rfl, .inl rfl⟩ .nil) ?_) rfl ?_
    · rintro _ _ ⟨rfl, v', rfl⟩
      repeat first | exact .nil | refine .cons (by first | exact .inr rfl | exact .inl rfl | exact .inr (fresh_vB _)) ?_
    rintro _ _ ⟨_, _, ⟨rfl, v', rfl⟩, rfl, rfl⟩
    conv => whnf
    repeat' first | ((refine Gets.appY (l := pw w.stem) (n := 2) (xs := [40, 32]) rfl rfl rfl rfl rfl (by decide) (fr_byt rfl) rfl rfl (by omega) ?_); conv => whnf) | ((refine Gets.stS rfl rfl rfl rfl rfl rfl ?_); conv => whnf) | (refine Gets.of _ rfl ?_; conv => whnf)
    have eS : (pw w.stem ++ [40, 32]).length = (pw w.stem).length + 2 := by rw [List.length_append]; rfl
    refine CallS.of (by kernel_rfl) ((putC (pw w.stem ++ [40, 32]) (by omega) w.loop hp.l h0 (by omega)).frameQ [1, 3] rfl (.cons ⟨rfl, cellY rfl eS⟩ (.cons ⟨rfl, bytY rfl⟩ .nil)) ?_) rfl ?_
    · rintro _ _ ⟨rfl, v', rfl⟩
      repeat first | exact .nil | refine .cons (by first | exact .inr rfl | exact .inl rfl | exact .inr (fresh_vB _)) ?_
    rintro _ _ ⟨_, _, ⟨rfl, v', rfl⟩, rfl, rfl⟩
    conv => whnf
    repeat' first | ((refine Gets.appY (l := pw w.stem ++ [40, 32] ++ pw w.loop) (n := 1) (xs := [41]) rfl rfl rfl rfl rfl (by decide) (fr_byt rfl) rfl (src_byt (l := [41]) rfl rfl) (by simp only [List.length_append, List.length_cons, List.length_nil]; omega) ?_); conv => whnf) | (refine Gets.of _ rfl ?_; conv => whnf)
    rw [step_conv (v := .str (txt (pw w.stem ++ [40, 32] ++ pw w.loop ++ [41])))]
    rotate_left
    · rfl
    · exact conv_byt rfl rfl rfl rfl (by simp only [List.length_append, List.length_cons, List.length_nil])
    conv => whnf
    skip
    exact ⟨[], _, rfl, .same rfl, rfl, rfl⟩
end Go.Proofs.YthjemhlcojmiaaaDoor

/- WordTexts: the law. -/
-- VkG VkH VmA
set_option linter.unusedVariables false
set_option linter.unusedSimpArgs false
set_option maxRecDepth 100000
set_option maxHeartbeats 4000000
namespace Go.Proofs.YthjemhlcojmiaaaDoor
open Go Go.Vh Go.Vk Go.Proofs
theorem endW_sz (o : Option (Nat × List Int × List Int)) : (endW o).1.Sz := by
  rcases o with _ | ⟨p, st, lo⟩
  · exact errW_sz
  · by_cases h2 : p = 2
    · subst h2
      by_cases h : (⟨st, lo⟩ : Wd).Ok 6
      · rw [endW_ok h]
        have := h.m
        exact ⟨by show st.length ≤ _; have : st.length + lo.length ≤ 200 := h.m; omega, by show lo.length ≤ _; have : st.length + lo.length ≤ 200 := h.m; omega⟩
      · rw [endW_bad h]; exact errW_sz
    · rw [endW_no h2]; exact errW_sz
theorem parseW_sz (s : ByteArray) : (parseW s).1.Sz := by
  unfold parseW
  split
  · exact errW_sz
  · exact endW_sz _
theorem writtenT (u : Wd) (hu : u.Sz) (H : AHeap) : CallW Tryd.prog 13 [u.rv, u.rv] H fun r H' => H' = H ∧ r = .bool true :=
  (writtenR u u hu hu H).mono fun r H' h => ⟨h.1, by
    obtain ⟨_, h | h⟩ := h
    · rfl
    · exact absurd rfl h⟩
theorem law4c (w : Wd) (hf : w.Fits) (s : ByteArray) : CallW Tryd.prog 4 [w.rv, .str s] emptyH fun r _ => r = .bool true := by
  refine CallW.symK (cuts := []) Tryd.func4 rfl (by kernel_rfl) ?_
  conv => whnf
  repeat' (refine Gets.of _ rfl ?_; conv => whnf)
  refine CallS.of (by kernel_rfl) ((fewR [w] (by rintro x hx; rcases List.mem_cons.1 hx with rfl | hx; exact hf; cases hx) (by simp) 300 _).argsF [1] rfl (.keep (.frz (.slice (es := 2) (cs := wcells [w]) rfl rfl (Nat.le_refl 2) (.same rfl)) .nil))) rfl ?_
  rintro _ _ ⟨rfl, hq | hq⟩
  all_goals conv => whnf
  all_goals
    repeat' first | (refine Gets.of _ rfl ?_; conv => whnf) | (refine Fork.dec (fun _ => ?_) (fun _ => ?_) <;> first | (exfalso; omega) | (conv => whnf))
  any_goals
    refine CallS.of (by kernel_rfl) (awake9 _) rfl ?_
    rintro _ _ ⟨rfl, rfl⟩
    conv => whnf
    skip
  have hps := parseW_sz s
  obtain ⟨p, pe, hpe⟩ : ∃ p pe, parseW s = (p, pe) := ⟨_, _, rfl⟩
  have hP1 := fun H => parseR s (by omega) H
  have hP2 := fun H => parseRr s (by omega) H
  rw [hpe] at hps hP1 hP2
  dsimp only at hps hP1 hP2
  refine CallS.of (by kernel_rfl) (print14 w hf _) rfl ?_
  rintro _ _ ⟨rfl, rfl⟩
  obtain ⟨t, te, ht⟩ : ∃ t te, printW w = (t, te) := ⟨_, _, rfl⟩
  have hR := fun H => printRr w hf H
  rw [ht] at hR ⊢
  dsimp only at hR ⊢
  conv => whnf
  repeat' (refine Gets.of _ rfl ?_; conv => whnf)
  refine CallS.of (by kernel_rfl) (hR _) rfl ?_
  rintro _ _ ⟨rfl, rfl⟩
  conv => whnf
  skip
  refine CallS.of (by kernel_rfl) (hP1 _) rfl ?_
  rintro _ _ ⟨rfl, rfl⟩
  conv => whnf
  repeat' (refine Gets.of _ rfl ?_; conv => whnf)
  refine CallS.of (by kernel_rfl) (hP2 _) rfl ?_
  rintro _ _ ⟨rfl, rfl⟩
  conv => whnf
  repeat' first | (refine Gets.of _ rfl ?_; conv => whnf) | (refine Fork.neI (fun _ => ?_) (fun _ => ?_) <;> first | (exfalso; omega) | (conv => whnf)) | (refine Fork.any (fun _ => ?_) (fun _ => ?_) <;> (conv => whnf))
  · rename_i h
    exact absurd h (by simp)
  refine CallS.of (by kernel_rfl) (isT p hps pe _) rfl ?_
  rintro _ _ ⟨rfl, rfl⟩
  by_cases hp : w.Ok 6
  · have e : printW w = (printB w, 0) := if_pos hp
    rw [e] at ht
    cases ht
    have hpp := parse_print hp
    have hl := print_len hp
    have hP3 := fun H => parseR (txt (printB w)) (by rw [txt_size]; omega) H
    rw [hpp] at hP3
    dsimp only at hP3
    have hm := hp.m
    have hws : w.Sz := ⟨by omega, by omega⟩
    conv => whnf
    repeat' (refine Fork.yesR rfl ?_; conv => whnf)
    refine CallS.of (by kernel_rfl) (hP3 _) rfl ?_
    rintro _ _ ⟨rfl, rfl⟩
    conv => whnf
    repeat' first | (refine Gets.of _ rfl ?_; conv => whnf) | (refine Fork.yesR rfl ?_; conv => whnf)
    refine CallS.of (by kernel_rfl) (writtenT w hws _) rfl ?_
    rintro _ _ ⟨rfl, rfl⟩
    conv => whnf
    skip
    refine CallS.of (by kernel_rfl) (awake9 _) rfl ?_
    rintro _ _ ⟨rfl, rfl⟩
    conv => whnf
    skip
    rfl
  · have e : printW w = ([], 1) := if_neg hp
    rw [e] at ht
    cases ht
    conv => whnf
    repeat' (refine Fork.noR rfl ?_; conv => whnf)
    refine CallS.of (by kernel_rfl) (awake9 _) rfl ?_
    rintro _ _ ⟨rfl, rfl⟩
    conv => whnf
    skip
theorem law4 : ∀ (avs0 avs1 : List AVal), RShape Tryd.prog 4 24 avs0 → RShape Tryd.prog 4 9 avs1 → CallW Tryd.prog 4 [argOf Tryd.prog 24 avs0, argOf Tryd.prog 9 avs1] emptyH fun v _ => v = .bool true := by
  intro avs0 avs1 h0 h1
  obtain ⟨a, e0, ha⟩ := rshape_word h0
  obtain ⟨s, rfl, hs⟩ := h1.str Tryd.underlying9
  rw [e0]
  exact law4c a ha s
end Go.Proofs.YthjemhlcojmiaaaDoor
