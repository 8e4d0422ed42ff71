/- ProdAlike: the law. -/
import Derived.Test.YtaccmanpanpbiaaJk
import Derived.Test.YtaccmanpanpbiaaAwa
import Derived.Test.YtaccmanpanpbiaaWrt
-- VkG VkH VmA
set_option linter.unusedVariables false
set_option linter.unusedSimpArgs false
set_option maxRecDepth 100000
set_option maxHeartbeats 4000000
namespace Go.Proofs.Ytaccmanpanpbiaa
open Go Go.Vh Go.Vk Go.Vn Go.Proofs
open Classical
theorem few8R (a : Au) (hf : a.Fits) (w : Wd) (hw : w.Fits) (H : AHeap) : CallW Try.prog 16 [w.rv, rAs [a]] H fun v H' => H' = H ∧ IsB v (a.Few 8 40 6 ∧ w.stem.length + w.loop.length ≤ 16) := by
  refine CallW.pure ?_ rfl H
  refine CallW.symK (cuts := []) Try.func16 rfl (by kernel_rfl) ?_
  conv => whnf
  skip
  refine CallS.of (by kernel_rfl) (fewA [a] (oneF hf) (by simp) 8 40 6 (by decide) (by decide) _) rfl ?_
  rintro _ _ ⟨rfl, hq | hq⟩
  all_goals conv => whnf
  all_goals
    repeat' (refine Gets.of _ rfl ?_; conv => whnf)
  · refine CallS.of (by kernel_rfl) ((fewR [w] (oneW hw) (by simp) 16 _).argsF [1] rfl (.keep (.frz (.slice (es := 2) (cs := wcells [w]) rfl rfl (Nat.le_refl 2) (.same rfl)) .nil))) rfl ?_
    rintro _ _ ⟨rfl, hr | hr⟩
    all_goals conv => whnf
    all_goals
      skip
    · exact ⟨[], _, rfl, .same rfl, rfl, .t ⟨hq a (List.mem_singleton.2 rfl), by have := hr w (List.mem_singleton.2 rfl); omega⟩⟩
    · exact ⟨[], _, rfl, .same rfl, rfl, .f fun h => hr fun x hx => by rw [List.mem_singleton.1 hx]; omega⟩
  · exact ⟨[], _, rfl, .same rfl, rfl, .f fun h => hq fun x hx => by rw [List.mem_singleton.1 hx]; exact h.1⟩
theorem like_widen {a : Au} (h : a.Ok) (n : Int) : a.Like { a with props := n } := ⟨rfl, rfl, rfl, Nat.le_refl _, h.sm⟩
theorem like_free {a : Au} (h : a.Ok) (i : Int) : a.Like (freeA0 a i) := ⟨rfl, rfl, rfl, by
    have := free_len i a.es a.es.length
    rw [List.take_length] at this
    exact this, fun x hx => by
  obtain ⟨e, he, rfl⟩ := mem_freeL.1 hx
  have := h.sm e he
  exact ⟨this.f0, this.f1, this.t0, this.t1, this.m0, this.m1⟩⟩
/-- Widen and the restriction of a word. -/
theorem alike_widen {a : Au} (hf : a.Fits) (hk : a.Ok) {n : Int} {w : Wd} (hw : w.Ok n) (hn : n ≤ 6) : HasW { a with props := n } w.wo ↔ HasW a (nf (mapW (modF a.props.toNat) w)).wo := by
  have hp : 0 < (mapW (modF a.props.toNat) w).loop.length := by show 0 < (w.loop.map _).length; rw [List.length_map]; exact hw.p
  have hq := (nf_lens hp).2.2.2
  refine (hasW_congr rfl rfl rfl rfl fun e he p => ?_).symm
  rw [wo_lt hq, wo_lt hw.p, nf_lt hp, map_lt0 hw.p]
  obtain ⟨l, e1, _, hl⟩ := inL_nat (lt_in hw p) hn
  obtain ⟨c, b, hd⟩ := ok_edn hf hk he
  rw [e1]
  exact reads_mod hd (by have := hk.p6; omega) hl
/-- The word with the proposition of the other one. -/
theorem mix_nat {a : Au} {i : Nat} (hk : a.Ok) (hi : (i : Int) < a.props) {u v : Wd} (hu : u.Ok a.props) (hv : v.Ok a.props) (p : Nat) : ∃ l m : Nat, u.wo.let p = (l : Int) ∧ (nf (mixW0 i u v)).wo.let p = (m : Int) ∧ l < 64 ∧ m < 64 ∧ ∀ j, j ≠ i → l.testBit j = m.testBit j := by
  have hl : 0 < (mixW0 i u v).loop.length := by
    unfold mixW0
    dsimp only
    rw [List.length_map, List.length_range]
    exact Nat.mul_pos hu.p hv.p
  have hq := (nf_lens hl).2.2.2
  obtain ⟨l, e1, _, hl1⟩ := inL_nat (lt_in hu p) hk.p6
  obtain ⟨m, e2, _, hm1⟩ := inL_nat (lt_in hv p) hk.p6
  have h6 := hk.p6
  obtain ⟨g1, g2⟩ := mixI_nat (i := i) (by omega) hl1 hm1
  refine ⟨l, _, by rw [wo_lt hu.p, e1], by rw [wo_lt hq, nf_lt hl, mixW0_lt hu.p hv.p, e1, e2, g1], hl1, g2, fun j hj => mixI_bit j hj⟩
/-- The word made of two, letter by letter. -/
def hV (a b : Au) (w o : Wd) (A B : List Int) (x y : Nat) : AHeap := ((((((emptyH.alloc (.cells 1 [.int .i64 a.props, .int .i64 a.states, rI a.start, .int .i64 a.kind, .int .i64 a.marks, rE a.es])).alloc (.cells 1 [rI w.stem, rI w.loop])).alloc (.cells 1 [rI o.stem, rI o.loop])).alloc (.cells 1 [.int .i64 b.props, .int .i64 b.states, rI b.start, .int .i64 b.kind, .int .i64 b.marks, rE b.es])).alloc (.cells 1 [acc 5 x, acc 6 y])).alloc (accB A x)).alloc (accB B y)
theorem range_map_take {α : Type} (f : Nat → α) (n : Nat) : (List.range (n + 1)).map f = ((List.range n).map f).take n ++ [f n] := by
  rw [List.range_succ, List.map_append, List.take_of_length_le (l := (List.range n).map f) (by rw [List.length_map, List.length_range]; exact Nat.le_refl _)]; rfl
end Go.Proofs.Ytaccmanpanpbiaa

/- ProdAlike: the law, carried out. -/
-- VkG VkH VmA
set_option linter.unusedVariables false
set_option linter.unusedSimpArgs false
set_option maxRecDepth 100000
set_option maxHeartbeats 4000000
namespace Go.Proofs.Ytaccmanpanpbiaa
open Go Go.Vh Go.Vk Go.Vn Go.Proofs
open Classical
theorem widenA_or {a : Au} (hk : a.Ok) (n : Int) : ∃ x e, widenA a n = (x, e) ∧ (e = 0 → a.props ≤ n ∧ n ≤ 6 ∧ x = { a with props := n }) := by
  by_cases hn : n < a.props ∨ 6 < n
  · exact ⟨_, 6, by unfold widenA; rw [if_pos hk, if_pos hn], fun h => absurd h (by decide)⟩
  · exact ⟨_, 0, by unfold widenA; rw [if_pos hk, if_neg hn], fun _ => ⟨by omega, by omega, rfl⟩⟩
theorem freeA_or {a : Au} (hk : a.Ok) (i : Int) : ∃ x e, freeA a i = (x, e) ∧ (e = 0 → 0 ≤ i ∧ i < a.props ∧ x = freeA0 a i) := by
  by_cases hn : i < 0 ∨ a.props ≤ i
  · exact ⟨_, 6, by unfold freeA; rw [if_pos hk, if_pos hn], fun h => absurd h (by decide)⟩
  · exact ⟨_, 0, by unfold freeA; rw [if_pos hk, if_neg hn], fun _ => ⟨by omega, by omega, rfl⟩⟩
def mixG (i : Nat) (w o : Wd) (k : Nat) : Int := mixI i (w.lt k) (o.lt k)
theorem range_map_one {α : Type} (f : Nat → α) : (List.range 1).map f = [f 0] := rfl
theorem twice {T Q : Prop} (h1 : (Unit → T) → Q) (h2 : T) : Q := h1 fun _ => h2
/-- The four boxes. -/
def hB (a b : Au) (w o : Wd) : AHeap := (((emptyH.alloc (.cells 1 [.int .i64 a.props, .int .i64 a.states, rI a.start, .int .i64 a.kind, .int .i64 a.marks, rE a.es])).alloc (.cells 1 [rI w.stem, rI w.loop])).alloc (.cells 1 [rI o.stem, rI o.loop])).alloc (.cells 1 [.int .i64 b.props, .int .i64 b.states, rI b.start, .int .i64 b.kind, .int .i64 b.marks, rE b.es])
/-- What is left once both automata are there: the word made of two, and two questions. -/
theorem law3 (a : Au) (hf : a.Fits) (w o : Wd) (hw : w.Fits) (ho : o.Fits) (i n : Int) : CallW Try.prog 3 [a.rv, w.rv, o.rv, .int .i64 i, .int .i64 n] emptyH fun r _ => r = .bool true := by
  have c1 := fun H => widenR a hf n H
  have c2 := fun H => freeR a hf i H
  have h1 := hw.s
  have h2 := hw.l
  have h3 := ho.s
  have h4 := ho.l
  refine CallW.symK (cuts := [8]) Try.func3 rfl (by kernel_rfl) ?_
  conv => whnf
  repeat' (refine Gets.of _ rfl ?_; conv => whnf)
  refine CallS.of (by kernel_rfl) ((few8R a hf w hw _).argsF [3] rfl (.keep (.frz (.slice (es := 6) (cs := acells [a]) rfl rfl (Nat.le_refl 6) (.same rfl)) .nil))) rfl ?_
  rintro _ _ ⟨rfl, hq | hq⟩
  all_goals conv => whnf
  all_goals
    repeat' (refine Gets.of _ rfl ?_; conv => whnf)
  rotate_left
  · refine CallS.of (by kernel_rfl) (awake8 _) rfl ?_
    rintro _ _ ⟨rfl, rfl⟩
    conv => whnf
    skip
  refine CallS.of (by kernel_rfl) ((fewR [o] (oneW ho) (by simp) 16 _).argsF [4] rfl (.keep (.frz (.slice (es := 2) (cs := wcells [o]) rfl rfl (Nat.le_refl 2) (.same rfl)) .nil))) rfl ?_
  rintro _ _ ⟨rfl, hr | hr⟩
  all_goals conv => whnf
  all_goals
    repeat' (refine Gets.of _ rfl ?_; conv => whnf)
  rotate_left
  · refine CallS.of (by kernel_rfl) (awake8 _) rfl ?_
    rintro _ _ ⟨rfl, rfl⟩
    conv => whnf
    skip
  refine CallS.of (by kernel_rfl) (validAr a hf _) rfl ?_
  rintro _ _ ⟨rfl, hk | hk⟩
  all_goals conv => whnf
  all_goals
    repeat' (refine Gets.of _ rfl ?_; conv => whnf)
  rotate_left
  · refine CallS.of (by kernel_rfl) (awake8 _) rfl ?_
    rintro _ _ ⟨rfl, rfl⟩
    conv => whnf
    skip
  have hws := hq.2
  have hos := hr o (List.mem_singleton.2 rfl)
  clear hr
  have hst8 := (hq.1.2.2 hk)
  have hne := hk.ne
  clear hq
  have hy := freeA_or hk i
  obtain ⟨y, f, hy1, hy2⟩ := hy
  rw [hy1] at c2
  dsimp only at c2
  apply twice
  case h1 =>
    intro tail
    have hx := widenA_or hk n
    obtain ⟨x, e, hx1, hx2⟩ := hx
    rw [hx1] at c1
    dsimp only at c1
    refine CallS.of (by kernel_rfl) (c1 _) rfl ?_
    rintro _ _ ⟨rfl, rfl⟩
    conv => whnf
    repeat' first | ((refine Gets.stA rfl rfl rfl rfl (by rfl) ?_); conv => whnf) | (refine Gets.of _ rfl ?_; conv => whnf) | (refine Fork.dec (fun _ => ?_) (fun _ => ?_) <;> first | (exfalso; omega) | (conv => whnf))
    case' _ =>
      rename_i he
      obtain ⟨hn1, hn2, rfl⟩ := hx2 he
      refine CallS.of (by kernel_rfl) (validRr w hw n _) rfl ?_
      rintro _ _ ⟨rfl, hv | hv⟩
      all_goals conv => whnf
      all_goals
        repeat' (refine Gets.of _ rfl ?_; conv => whnf)
      case' _ =>
        have hp0 := hk.p0
        have hp6 := hk.p6
        have hs : splitW w a.props = (nf (mapW (modF a.props.toNat) w), nf (mapW (divF a.props.toNat) w), 0) := by
          unfold splitW
          rw [if_pos (ok_mono hv hn2 (by decide)), if_neg (by omega)]
        have c3 := fun H => splitRr w hw a.props ⟨by omega, by omega⟩ H
        rw [hs] at c3
        dsimp only at c3
        have hq : 0 < (mapW (modF a.props.toNat) w).loop.length := by show 0 < (w.loop.map _).length; rw [List.length_map]; exact hv.p
        obtain ⟨q1, _, q2, q3⟩ := nf_lens hq
        have q4 : (mapW (modF a.props.toNat) w).stem.length = w.stem.length := List.length_map ..
        have q5 : (mapW (modF a.props.toNat) w).loop.length = w.loop.length := List.length_map ..
        have hm := hv.m
        have c4 := fun H => isL a { a with props := n } hk (like_widen hk n) w (wo_fits hv) (by omega) H
        have c5 := fun H => isL a a hk (.refl hk) (nf (mapW (modF a.props.toNat) w)) ⟨by show (nf _).stem.length ≤ _; omega, by show (nf _).loop.length ≤ _; omega, q3⟩ (by omega) H
        have hal : decide (HasW { a with props := n } w.wo) = decide (HasW a (nf (mapW (modF a.props.toNat) w)).wo) := decide_eq_decide.2 (alike_widen hf hk hv hn2)
        rw [hal] at c4
        generalize nf (mapW (modF a.props.toNat) w) = v at c3 c4 c5
        generalize decide (HasW a v.wo) = b at c4 c5
        refine CallS.of (by kernel_rfl) (c3 _) rfl ?_
        rintro _ _ ⟨rfl, rfl⟩
        conv => whnf
        repeat' ((refine Gets.stA rfl rfl rfl rfl (by rfl) ?_); conv => whnf)
        refine CodeS.drawP (by kernel_rfl) (by kernel_rfl) ?_
        conv => whnf
        repeat' first | (refine Gets.of _ rfl ?_; conv => whnf) | (refine Fork.noR rfl ?_; conv => whnf)
        refine CallV.of (by kernel_rfl) (c4 _) rfl ?_
        conv => whnf
        repeat' (refine Gets.of _ rfl ?_; conv => whnf)
        refine CallV.of (by kernel_rfl) (c5 _) rfl ?_
        cases b
        all_goals
          conv => whnf
          repeat' (refine Fork.noR rfl ?_; conv => whnf)
    all_goals refine CodeS.cut (cuts := []) [(3, .int .i64 i), (5, .ptr 0 0), (6, .ptr 1 0), (7, .ptr 2 0), (16, .ptr 3 0), (17, .int .i64 f)] (hB a y w o) (by kernel_rfl) ?_ (tail ())
    all_goals
      conv => whnf
      repeat' (refine Gets.of _ rfl ?_; conv => whnf)
      refine CallS.of (by kernel_rfl) (c2 _) rfl ?_
      rintro _ _ ⟨rfl, rfl⟩
      conv => whnf
      repeat' ((refine Gets.stA rfl rfl rfl rfl (by rfl) ?_); conv => whnf)
    all_goals first
      | exact ⟨renL [0, 1, 2, 6] 7, ⟨rfl, rfl, rfl, rfl, rfl, rfl, trivial⟩, EmbL.litsN [0, 1, 2, 6] rfl rfl rfl rfl .nil (.cons ⟨rfl, .inl rfl⟩ (.cons ⟨rfl, .inl rfl⟩ (.cons ⟨rfl, .inl rfl⟩ (.cons ⟨rfl, .inl rfl⟩ .nil))))⟩
      | exact ⟨renL [0, 1, 2, 8] 9, ⟨rfl, rfl, rfl, rfl, rfl, rfl, trivial⟩, EmbL.litsN [0, 1, 2, 8] rfl rfl rfl rfl .nil (.cons ⟨rfl, .inl rfl⟩ (.cons ⟨rfl, .inl rfl⟩ (.cons ⟨rfl, .inl rfl⟩ (.cons ⟨rfl, .inl rfl⟩ .nil))))⟩
  case h2 =>
    clear c1
    have hp6 := hk.p6
    have hp0 := hk.p0
    conv => whnf
    repeat' first | (refine Gets.of _ rfl ?_; conv => whnf) | (refine Fork.neI (fun _ => ?_) (fun _ => ?_) <;> first | (exfalso; omega) | (conv => whnf))
    · refine CallS.of (by kernel_rfl) (awake8 _) rfl ?_
      rintro _ _ ⟨rfl, rfl⟩
      conv => whnf
      skip
    rename_i hf0
    obtain ⟨hi0, hi1, rfl⟩ := hy2 hf0
    clear c2 hy1 hy2
    refine CallS.of (by kernel_rfl) (validRr w hw a.props _) rfl ?_
    rintro _ _ ⟨rfl, hv | hv⟩
    all_goals conv => whnf
    all_goals
      repeat' (refine Gets.of _ rfl ?_; conv => whnf)
    rotate_left
    · refine CallS.of (by kernel_rfl) (awake8 _) rfl ?_
      rintro _ _ ⟨rfl, rfl⟩
      conv => whnf
      skip
    refine CallS.of (by kernel_rfl) (validRr o ho a.props _) rfl ?_
    rintro _ _ ⟨rfl, hu | hu⟩
    rotate_left
    · conv => whnf
      skip
      refine CallS.of (by kernel_rfl) (awake8 _) rfl ?_
      rintro _ _ ⟨rfl, rfl⟩
      conv => whnf
      skip
    obtain ⟨i, rfl⟩ := Int.eq_ofNat_of_zero_le hi0
    have hwp := hv.p
    have hop := hu.p
    have hml : w.loop.length * o.loop.length ≤ 16 * 16 := Nat.mul_le_mul (by omega) (by omega)
    have hmp : 0 < w.loop.length * o.loop.length := Nat.mul_pos hwp hop
    conv => whnf
    repeat' first | ((refine Gets.maxN ?_); conv => whnf) | ((refine Gets.mulE (c := ((w.loop.length * o.loop.length : Nat) : Int)) rfl (by omega) (by omega) ?_); conv => whnf) | ((with_reducible refine Gets.addI ?_ ?_ ?_); (· omega); (· omega); conv => whnf) | (refine Gets.of _ rfl ?_; conv => whnf)
    obtain ⟨S, hS⟩ : ∃ S, S = max w.stem.length o.stem.length := ⟨_, rfl⟩
    obtain ⟨L, hL⟩ : ∃ L, L = w.loop.length * o.loop.length := ⟨_, rfl⟩
    rw [← hL] at hml hmp
    have hlw : ∀ k : Nat, k ≤ 1000 → ∀ H, CallW Try.prog 25 [w.rv, .int .i64 (k : Int)] H fun v H' => H' = H ∧ v = .int .i64 (w.lt k) := fun k hk H => by
      have h := lettersR w.wo (wo_fits hv) k (by omega) H
      rw [wo_lt hwp] at h; exact h
    have hlo : ∀ k : Nat, k ≤ 1000 → ∀ H, CallW Try.prog 25 [o.rv, .int .i64 (k : Int)] H fun v H' => H' = H ∧ v = .int .i64 (o.lt k) := fun k hk H => by
      have h := lettersR o.wo (wo_fits hu) k (by omega) H
      rw [wo_lt hop] at h; exact h
    refine CodeS.loopGK (cuts := []) (σ := Nat × Nat) (fun s => [(3, .int .i64 (i : Int)), (5, .ptr 0 0), (6, .ptr 1 0), (7, .ptr 2 0), (16, .ptr 3 0), (18, .int .i64 (S : Int)), (19, .ptr 4 0), (111, .int .i64 ((S + L : Nat) : Int)), (112, .int .i64 ((s.1 + s.2 : Nat) : Int))]) (fun s => hV a (freeA0 a (i : Int)) w o ((List.range s.1).map (mixG i w o)) ((List.range s.2).map fun j => mixG i w o (S + j)) s.1 s.2) (fun s => s.1 ≤ S ∧ s.2 ≤ L ∧ (0 < s.2 → s.1 = S)) (fun s => S + L - (s.1 + s.2)) (0, 0) (renL [0, 1, 2, 3, 4, 0, 0] 5) (by kernel_rfl) ⟨Nat.zero_le _, Nat.zero_le _, fun h => absurd h (Nat.lt_irrefl _)⟩ ⟨rfl, rfl, rfl, rfl, rfl, congrArg (fun n : Nat => AVal.int .i64 (n : Int)) hS.symm, rfl, show AVal.int .i64 (((max w.stem.length o.stem.length : Nat) : Int) + ((w.loop.length * o.loop.length : Nat) : Int)) = AVal.int .i64 ((S + L : Nat) : Int) from by rw [hS, hL]; rfl, rfl, trivial⟩ (EmbL.lits [0, 1, 2, 3, 4, 0, 0] rfl rfl rfl rfl .nil (.cons ⟨rfl, .inl rfl⟩ (.cons ⟨rfl, .inl rfl⟩ (.cons ⟨rfl, .inl rfl⟩ (.cons ⟨rfl, .inl rfl⟩ (.cons ⟨rfl, .inl rfl⟩ (.cons ⟨rfl, .roEc⟩ (.cons ⟨rfl, .roEc⟩ .nil)))))))) ?_
    rintro ⟨x, y⟩ ⟨k1, k2, k3⟩
    dsimp only at k1 k2 k3 ⊢
    rcases Nat.lt_or_ge x S with hxS | hxS
    · obtain rfl : y = 0 := by
        rcases Nat.eq_zero_or_pos y with h | h
        · exact h
        · have := k3 h; omega
      rcases x with _ | x
      · have q1 := hlw (0 + 0) (by omega)
        have q2 := hlo (0 + 0) (by omega)
        conv => whnf
        repeat' (refine Fork.dec (fun _ => ?_) (fun _ => ?_) <;> first | (exfalso; omega) | (conv => whnf))
        refine CodeS.drawP (by kernel_rfl) (by kernel_rfl) ?_
        conv => whnf
        repeat' (refine Gets.of _ rfl ?_; conv => whnf)
        refine CallV.of (by kernel_rfl) (q1 _) rfl ?_
        conv => whnf
        repeat' first | ((with_reducible refine Gets.shlN ?_ ?_); (· omega); conv => whnf) | (refine Gets.of _ rfl ?_; conv => whnf)
        refine CallV.of (by kernel_rfl) (q2 _) rfl ?_
        conv => whnf
        repeat' first | ((with_reducible refine Gets.shlN ?_ ?_); (· omega); conv => whnf) | ((with_reducible refine Gets.addI ?_ ?_ ?_); (· omega); (· omega); conv => whnf) | (refine Gets.of _ rfl ?_; conv => whnf) | (refine Fork.dec (fun _ => ?_) (fun _ => ?_) <;> first | (exfalso; omega) | (conv => whnf))
        skip
        exact ⟨(1, 0), renL [0, 1, 2, 3, 4, 8, 6] 9, ⟨by omega, by omega, fun h => absurd h (Nat.lt_irrefl 0)⟩, (by show S + L - (1 + 0) < S + L - (0 + 0); omega), ⟨rfl, rfl, rfl, rfl, rfl, rfl, rfl, rfl, rfl, trivial⟩, EmbL.litsN [0, 1, 2, 3, 4, 8, 6] rfl rfl rfl rfl .nil (.cons ⟨rfl, .inl rfl⟩ (.cons ⟨rfl, .inl rfl⟩ (.cons ⟨rfl, .inl rfl⟩ (.cons ⟨rfl, .inl rfl⟩ (.cons ⟨rfl, .acc2 rfl rfl⟩ (.cons ⟨rfl, .inl rfl⟩ (.cons ⟨rfl, .inl rfl⟩ .nil)))))))⟩
      · have q1 := hlw (x + 1 + 0) (by omega)
        have q2 := hlo (x + 1 + 0) (by omega)
        conv => whnf
        repeat' (refine Fork.dec (fun _ => ?_) (fun _ => ?_) <;> first | (exfalso; omega) | (conv => whnf))
        refine CodeS.drawP (by kernel_rfl) (by kernel_rfl) ?_
        conv => whnf
        repeat' (refine Gets.of _ rfl ?_; conv => whnf)
        refine CallV.of (by kernel_rfl) (q1 _) rfl ?_
        conv => whnf
        repeat' first | ((with_reducible refine Gets.shlN ?_ ?_); (· omega); conv => whnf) | (refine Gets.of _ rfl ?_; conv => whnf)
        refine CallV.of (by kernel_rfl) (q2 _) rfl ?_
        conv => whnf
        repeat' first | ((with_reducible refine Gets.shlN ?_ ?_); (· omega); conv => whnf) | (refine Gets.of _ rfl ?_; conv => whnf) | (refine Fork.dec (fun _ => ?_) (fun _ => ?_) <;> first | (exfalso; omega) | (conv => whnf))
        repeat' first | ((refine Gets.appSrc (ti := tiI) (l := (List.range (x + 1)).map (mixG i w o)) (xs := [mixG i w o (x + 1)]) (m := x + 1) (n := 1) rfl rfl rfl rfl rfl (by decide) (by rw [List.length_map, List.length_range]; exact Nat.le_refl _) ((src_at (xs := [mixG i w o (x + 1)]) (n := 1) rfl (.inr rfl)).1) rfl (by omega) ?_); conv => whnf) | ((refine Gets.stS (ti := tiS) rfl rfl rfl rfl rfl rfl ?_); conv => whnf) | ((with_reducible refine Gets.addI ?_ ?_ ?_); (· omega); (· omega); conv => whnf)
        exact ⟨(x + 2, 0), renL [0, 1, 2, 3, 4, 8, 6] 9, ⟨by omega, by omega, fun h => absurd h (Nat.lt_irrefl 0)⟩, (by show S + L - (x + 2 + 0) < S + L - (x + 1 + 0); omega), ⟨rfl, rfl, rfl, rfl, rfl, rfl, rfl, rfl, rfl, trivial⟩, EmbL.litsN [0, 1, 2, 3, 4, 8, 6] rfl rfl rfl rfl .nil (.cons ⟨rfl, .inl rfl⟩ (.cons ⟨rfl, .inl rfl⟩ (.cons ⟨rfl, .inl rfl⟩ (.cons ⟨rfl, .inl rfl⟩ (.cons ⟨rfl, .acc2 rfl rfl⟩ (.cons ⟨rfl, .cellsIe (range_map_take (mixG i w o) (x + 1))⟩ (.cons ⟨rfl, .inl rfl⟩ .nil)))))))⟩
    obtain rfl : x = S := by omega
    rcases Nat.lt_or_ge y L with hyL | hyL
    · rcases y with _ | y
      · have q1 := hlw (x + (0)) (by omega)
        have q2 := hlo (x + (0)) (by omega)
        conv => whnf
        repeat' (refine Fork.dec (fun _ => ?_) (fun _ => ?_) <;> first | (exfalso; omega) | (conv => whnf))
        refine CodeS.drawP (by kernel_rfl) (by kernel_rfl) ?_
        conv => whnf
        repeat' (refine Gets.of _ rfl ?_; conv => whnf)
        refine CallV.of (by kernel_rfl) (q1 _) rfl ?_
        conv => whnf
        repeat' first | ((with_reducible refine Gets.shlN ?_ ?_); (· omega); conv => whnf) | (refine Gets.of _ rfl ?_; conv => whnf)
        refine CallV.of (by kernel_rfl) (q2 _) rfl ?_
        conv => whnf
        repeat' first | ((with_reducible refine Gets.shlN ?_ ?_); (· omega); conv => whnf) | ((with_reducible refine Gets.addI ?_ ?_ ?_); (· omega); (· omega); conv => whnf) | (refine Gets.of _ rfl ?_; conv => whnf) | (refine Fork.dec (fun _ => ?_) (fun _ => ?_) <;> first | (exfalso; omega) | (conv => whnf))
        skip
        exact ⟨(x, 1), renL [0, 1, 2, 3, 4, 5, 8] 9, ⟨Nat.le_refl _, by omega, fun _ => rfl⟩, (by show x + L - (x + 1) < x + L - (x + 0); omega), ⟨rfl, rfl, rfl, rfl, rfl, rfl, rfl, rfl, rfl, trivial⟩, EmbL.litsN [0, 1, 2, 3, 4, 5, 8] rfl rfl rfl rfl .nil (.cons ⟨rfl, .inl rfl⟩ (.cons ⟨rfl, .inl rfl⟩ (.cons ⟨rfl, .inl rfl⟩ (.cons ⟨rfl, .inl rfl⟩ (.cons ⟨rfl, .acc2 rfl rfl⟩ (.cons ⟨rfl, .accS⟩ (.cons ⟨rfl, .inl rfl⟩ .nil)))))))⟩
      · have q1 := hlw (x + (y + 1)) (by omega)
        have q2 := hlo (x + (y + 1)) (by omega)
        conv => whnf
        repeat' (refine Fork.dec (fun _ => ?_) (fun _ => ?_) <;> first | (exfalso; omega) | (conv => whnf))
        refine CodeS.drawP (by kernel_rfl) (by kernel_rfl) ?_
        conv => whnf
        repeat' (refine Gets.of _ rfl ?_; conv => whnf)
        refine CallV.of (by kernel_rfl) (q1 _) rfl ?_
        conv => whnf
        repeat' first | ((with_reducible refine Gets.shlN ?_ ?_); (· omega); conv => whnf) | (refine Gets.of _ rfl ?_; conv => whnf)
        refine CallV.of (by kernel_rfl) (q2 _) rfl ?_
        conv => whnf
        repeat' first | ((with_reducible refine Gets.shlN ?_ ?_); (· omega); conv => whnf) | (refine Gets.of _ rfl ?_; conv => whnf) | (refine Fork.dec (fun _ => ?_) (fun _ => ?_) <;> first | (exfalso; omega) | (conv => whnf))
        repeat' first | ((refine Gets.appSrc (ti := tiI) (l := (List.range (y + 1)).map fun j => mixG i w o (x + j)) (xs := [mixG i w o (x + (y + 1))]) (m := y + 1) (n := 1) rfl rfl rfl rfl rfl (by decide) (by rw [List.length_map, List.length_range]; exact Nat.le_refl _) ((src_at (xs := [mixG i w o (x + (y + 1))]) (n := 1) rfl (.inr rfl)).1) rfl (by omega) ?_); conv => whnf) | ((refine Gets.stS (ti := tiS) rfl rfl rfl rfl rfl rfl ?_); conv => whnf) | ((with_reducible refine Gets.addI ?_ ?_ ?_); (· omega); (· omega); conv => whnf)
        exact ⟨(x, y + 2), renL [0, 1, 2, 3, 4, 5, 8] 9, ⟨Nat.le_refl _, by omega, fun _ => rfl⟩, (by show x + L - (x + (y + 2)) < x + L - (x + (y + 1)); omega), ⟨rfl, rfl, rfl, rfl, rfl, rfl, rfl, rfl, rfl, trivial⟩, EmbL.litsN [0, 1, 2, 3, 4, 5, 8] rfl rfl rfl rfl .nil (.cons ⟨rfl, .inl rfl⟩ (.cons ⟨rfl, .inl rfl⟩ (.cons ⟨rfl, .inl rfl⟩ (.cons ⟨rfl, .inl rfl⟩ (.cons ⟨rfl, .acc2 rfl rfl⟩ (.cons ⟨rfl, .accS⟩ (.cons ⟨rfl, .cellsIe (range_map_take (fun j => mixG i w o (x + j)) (y + 1))⟩ .nil)))))))⟩
    obtain rfl : y = L := by omega
    have hmix : mixW0 i w o = ⟨(List.range x).map (mixG i w o), (List.range y).map fun j => mixG i w o (x + j)⟩ := by
      rw [hS, hL]; rfl
    have hlen1 : ((List.range x).map (mixG i w o)).length = x := by rw [List.length_map, List.length_range]
    have hlen2 : ((List.range y).map fun j => mixG i w o (x + j)).length = y := by rw [List.length_map, List.length_range]
    have hmt : (mixW0 i w o).stem.length = x := by rw [hmix]; exact hlen1
    have hml2 : (mixW0 i w o).loop.length = y := by rw [hmix]; exact hlen2
    have hno := fun H => nfRr (mixW0 i w o) (by omega) (by omega) (by omega) H
    have hlens := nf_lens (w := mixW0 i w o) (by omega)
    have hany := hasW_any (w := w.wo) (v := (nf (mixW0 i w o)).wo) hf hk hi1 (mix_nat hk hi1 hv hu)
    have hfr := hasW_free (w := w.wo) hf hk hi1 (fun p => by
      obtain ⟨l, m, e1, _, hl, _⟩ := mix_nat hk hi1 hv hu p
      exact ⟨l, e1, hl⟩)
    have c5 := fun H => isL a (freeA0 a (i : Int)) hk (like_free hk i) w (wo_fits hv) (by omega) H
    have c6 := fun H => isL a a hk (.refl hk) w (wo_fits hv) (by omega) H
    have c7 := fun (h : (nf (mixW0 i w o)).stem.length + (nf (mixW0 i w o)).loop.length ≤ 60) H => isL a (freeA0 a (i : Int)) hk (like_free hk i) (nf (mixW0 i w o)) ⟨by show (nf _).stem.length ≤ _; omega, by show (nf _).loop.length ≤ _; omega, hlens.2.2.2⟩ (by omega) H
    have hd : decide (HasW (freeA0 a (i : Int)) (nf (mixW0 i w o)).wo) = decide (HasW (freeA0 a (i : Int)) w.wo) := (decide_eq_decide.2 hany).symm
    rw [hd] at c7
    have hz : decide (HasW a w.wo) = true → decide (HasW (freeA0 a (i : Int)) w.wo) = true := fun h => decide_eq_true (hfr (of_decide_eq_true h))
    have hl1 := hlens.1
    have hl2 := hlens.2.2.1
    generalize decide (HasW a w.wo) = bz at c6 hz
    generalize decide (HasW (freeA0 a (i : Int)) w.wo) = bx at c5 c7 hz
    clear hd hany hfr hlens
    generalize nf (mixW0 i w o) = v at hno c7 hl1 hl2
    rw [hmix] at hno
    obtain ⟨t, rfl⟩ : ∃ t, y = t + 1 := ⟨y - 1, by omega⟩
    rcases x with _ | x
    · conv => whnf
      repeat' first | (refine Gets.of _ rfl ?_; conv => whnf) | (refine Fork.dec (fun _ => ?_) (fun _ => ?_) <;> first | (exfalso; omega) | (conv => whnf))
      refine CallS.of (by kernel_rfl) ((hno _).argsF [6] rfl (.frz (.agg (.cons (frz_acc (i := 5) (fun h => absurd rfl h) rfl hlen1.symm) (.cons (frzI (i := 6) rfl rfl hlen2.symm) (.same rfl)))) .nil)) rfl ?_
      rintro _ _ ⟨rfl, rfl⟩
      conv => whnf
      repeat' first | ((refine Gets.stA rfl rfl rfl rfl (by rfl) ?_); conv => whnf) | ((with_reducible refine Gets.addI ?_ ?_ ?_); (· omega); (· omega); conv => whnf) | (refine Gets.of _ rfl ?_; conv => whnf) | (refine Fork.dec (fun _ => ?_) (fun _ => ?_) <;> first | (exfalso; omega) | (conv => whnf))
      · refine CallS.of (by kernel_rfl) (awake8 _) rfl ?_
        rintro _ _ ⟨rfl, rfl⟩
        conv => whnf
        skip
      rename_i h60
      have c7 := c7 (by omega)
      refine CodeS.drawP (by kernel_rfl) (by kernel_rfl) ?_
      conv => whnf
      repeat' (refine Gets.of _ rfl ?_; conv => whnf)
      refine CallV.of (by kernel_rfl) (c5 _) rfl ?_
      conv => whnf
      repeat' (refine Gets.of _ rfl ?_; conv => whnf)
      refine CallV.of (by kernel_rfl) (c7 _) rfl ?_
      cases bx <;> cases bz
      all_goals
        first | exact absurd (hz rfl) (by decide) | skip
      all_goals
        conv => whnf
        repeat' first | (refine Gets.of _ rfl ?_; conv => whnf) | (refine Fork.yesR rfl ?_; conv => whnf)
      all_goals
        refine CallS.of (by kernel_rfl) (c6 _) rfl ?_
        rintro _ _ ⟨rfl, rfl⟩
        conv => whnf
        skip
      all_goals
        refine CallS.of (by kernel_rfl) (awake8 _) rfl ?_
        rintro _ _ ⟨rfl, rfl⟩
        conv => whnf
        skip
      all_goals rfl
    · conv => whnf
      repeat' first | (refine Gets.of _ rfl ?_; conv => whnf) | (refine Fork.dec (fun _ => ?_) (fun _ => ?_) <;> first | (exfalso; omega) | (conv => whnf))
      refine CallS.of (by kernel_rfl) ((hno _).argsF [5, 6] rfl (.frz (.agg (.cons (frz_acc (i := 5) (fun _ => rfl) rfl hlen1.symm) (.cons (frzI (i := 6) rfl rfl hlen2.symm) (.same rfl)))) .nil)) rfl ?_
      rintro _ _ ⟨rfl, rfl⟩
      conv => whnf
      repeat' first | ((refine Gets.stA rfl rfl rfl rfl (by rfl) ?_); conv => whnf) | ((with_reducible refine Gets.addI ?_ ?_ ?_); (· omega); (· omega); conv => whnf) | (refine Gets.of _ rfl ?_; conv => whnf) | (refine Fork.dec (fun _ => ?_) (fun _ => ?_) <;> first | (exfalso; omega) | (conv => whnf))
      · refine CallS.of (by kernel_rfl) (awake8 _) rfl ?_
        rintro _ _ ⟨rfl, rfl⟩
        conv => whnf
        skip
      rename_i h60
      have c7 := c7 (by omega)
      refine CodeS.drawP (by kernel_rfl) (by kernel_rfl) ?_
      conv => whnf
      repeat' (refine Gets.of _ rfl ?_; conv => whnf)
      refine CallV.of (by kernel_rfl) (c5 _) rfl ?_
      conv => whnf
      repeat' (refine Gets.of _ rfl ?_; conv => whnf)
      refine CallV.of (by kernel_rfl) (c7 _) rfl ?_
      cases bx <;> cases bz
      all_goals
        first | exact absurd (hz rfl) (by decide) | skip
      all_goals
        conv => whnf
        repeat' first | (refine Gets.of _ rfl ?_; conv => whnf) | (refine Fork.yesR rfl ?_; conv => whnf)
      all_goals
        refine CallS.of (by kernel_rfl) (c6 _) rfl ?_
        rintro _ _ ⟨rfl, rfl⟩
        conv => whnf
        skip
      all_goals
        refine CallS.of (by kernel_rfl) (awake8 _) rfl ?_
        rintro _ _ ⟨rfl, rfl⟩
        conv => whnf
        skip
      all_goals rfl
end Go.Proofs.Ytaccmanpanpbiaa

/- ProdAlike: the law over arguments of every shape. -/
-- VkG VkH VmA
set_option linter.unusedVariables false
set_option linter.unusedSimpArgs false
set_option maxRecDepth 100000
set_option maxHeartbeats 4000000
namespace Go.Proofs.Ytaccmanpanpbiaa
open Go Go.Vh Go.Vk Go.Proofs
theorem rshape_int {n : Nat} {avs : List AVal} (h : RShape Try.prog n 3 avs) : ∃ m, avs = [.int .i64 m] ∧ argOf Try.prog 3 avs = .int .i64 m ∧ -9223372036854775808 ≤ m ∧ m ≤ 9223372036854775807 := by
  obtain ⟨m, rfl, hm⟩ := h.int Try.underlying3
  exact ⟨m, rfl, by unfold argOf; rw [Try.underlying3]; rfl, hm⟩
theorem rshape_ints {n : Nat} {avs : List AVal} (h : RShape Try.prog n 22 avs) : ∃ l, avs = [rI l] ∧ (∀ x ∈ l, -9223372036854775808 ≤ x ∧ x ≤ 9223372036854775807) ∧ l.length ≤ 1152921504606846976 := h.ints Try.underlying22 Try.underlying3 (by kernel_rfl) (by kernel_rfl)
theorem rshape_aut {n : Nat} {avs : List AVal} (h : RShape Try.prog n 25 avs) : ∃ a : Au, argOf Try.prog 25 avs = a.rv ∧ a.Fits := by
  have e0 : argOf Try.prog 25 avs = .agg avs := by unfold argOf; rw [Try.underlying25]
  rw [e0]
  cases n with
  | zero => exact h.elim
  | succ n =>
    unfold RShape at h
    rw [Try.underlying25] at h
    obtain ⟨hl, hf⟩ := h
    have hc : Try.prog.cellsOf 25 = 6 := by kernel_rfl
    have c22 : Try.prog.cellsOf 22 = 1 := by kernel_rfl
    have c23 : Try.prog.cellsOf 23 = 1 := by kernel_rfl
    have c3 : Try.prog.cellsOf 3 = 1 := by kernel_rfl
    rw [hc] at hl
    rcases avs with _ | ⟨x0, _ | ⟨x1, _ | ⟨x2, _ | ⟨x3, _ | ⟨x4, _ | ⟨x5, _ | ⟨x6, avs⟩⟩⟩⟩⟩⟩⟩
    case cons.cons.cons.cons.cons.cons.nil =>
      have g0 : RShape Try.prog n 3 ((([x0, x1, x2, x3, x4, x5] : List AVal).drop 0).take (Try.prog.cellsOf 3)) := hf 0 _ rfl
      have g1 : RShape Try.prog n 3 ((([x0, x1, x2, x3, x4, x5] : List AVal).drop 1).take (Try.prog.cellsOf 3)) := hf 1 _ rfl
      have g2 : RShape Try.prog n 22 ((([x0, x1, x2, x3, x4, x5] : List AVal).drop 2).take (Try.prog.cellsOf 22)) := hf 2 _ rfl
      have g3 : RShape Try.prog n 3 ((([x0, x1, x2, x3, x4, x5] : List AVal).drop 3).take (Try.prog.cellsOf 3)) := hf 3 _ rfl
      have g4 : RShape Try.prog n 3 ((([x0, x1, x2, x3, x4, x5] : List AVal).drop 4).take (Try.prog.cellsOf 3)) := hf 4 _ rfl
      have g5 : RShape Try.prog n 23 ((([x0, x1, x2, x3, x4, x5] : List AVal).drop 5).take (Try.prog.cellsOf 23)) := hf 5 _ rfl
      rw [c3] at g0 g1 g3 g4
      rw [c22] at g2
      rw [c23] at g5
      obtain ⟨p, e0, _⟩ := rshape_int g0
      obtain ⟨s, e1, _⟩ := rshape_int g1
      obtain ⟨l, e2, _, b2⟩ := rshape_ints g2
      obtain ⟨k, e3, _⟩ := rshape_int g3
      obtain ⟨m, e4, _⟩ := rshape_int g4
      obtain ⟨es, e5, b5, c5⟩ := g5.edges Try.underlying23 (by kernel_rfl) (by kernel_rfl) (by kernel_rfl)
      cases e0; cases e1; cases e2; cases e3; cases e4; cases e5
      exact ⟨⟨p, s, l, k, m, es⟩, rfl, ⟨Nat.le_trans b2 (by decide), c5, b5⟩⟩
    all_goals (simp only [List.length_cons, List.length_nil] at hl; omega)
theorem rshape_word {n : Nat} {avs : List AVal} (h : RShape Try.prog n 27 avs) : ∃ w : Wd, argOf Try.prog 27 avs = w.rv ∧ w.Fits := by
  have e0 : argOf Try.prog 27 avs = .agg avs := by unfold argOf; rw [Try.underlying27]
  rw [e0]
  cases n with
  | zero => exact h.elim
  | succ n =>
    unfold RShape at h
    rw [Try.underlying27] at h
    obtain ⟨hl, hf⟩ := h
    have hc : Try.prog.cellsOf 27 = 2 := by kernel_rfl
    have c22 : Try.prog.cellsOf 22 = 1 := by kernel_rfl
    rw [hc] at hl
    rcases avs with _ | ⟨x0, _ | ⟨x1, _ | ⟨x2, avs⟩⟩⟩
    case cons.cons.nil =>
      have g0 : RShape Try.prog n 22 ((([x0, x1] : List AVal).drop 0).take (Try.prog.cellsOf 22)) := hf 0 _ rfl
      have g1 : RShape Try.prog n 22 ((([x0, x1] : List AVal).drop 1).take (Try.prog.cellsOf 22)) := hf 1 _ rfl
      rw [c22] at g0 g1
      obtain ⟨stem, e1, _, b1⟩ := rshape_ints g0
      obtain ⟨loop, e2, _, b2⟩ := rshape_ints g1
      cases e1; cases e2
      exact ⟨⟨stem, loop⟩, rfl, ⟨b1, b2⟩⟩
    all_goals (simp only [List.length_cons, List.length_nil] at hl; omega)
theorem law3r : ∀ a1 a2 a3 a4 a5, RShape Try.prog 4 25 a1 → RShape Try.prog 4 27 a2 → RShape Try.prog 4 27 a3 → RShape Try.prog 4 3 a4 → RShape Try.prog 4 3 a5 → CallW Try.prog 3 [argOf Try.prog 25 a1, argOf Try.prog 27 a2, argOf Try.prog 27 a3, argOf Try.prog 3 a4, argOf Try.prog 3 a5] emptyH fun r _ => r = .bool true := by
  intro a1 a2 a3 a4 a5 h1 h2 h3 h4 h5
  obtain ⟨a, e1, hf⟩ := rshape_aut h1
  obtain ⟨w, e2, hw⟩ := rshape_word h2
  obtain ⟨o, e3, ho⟩ := rshape_word h3
  obtain ⟨i, _, e4, _⟩ := rshape_int h4
  obtain ⟨n, _, e5, _⟩ := rshape_int h5
  rw [e1, e2, e3, e4, e5]
  exact law3 a hf w o hw ho i n
end Go.Proofs.Ytaccmanpanpbiaa
