/- Words as arguments; how many letters. -/
import Derived.Test.YthjemhlcojmiaaaDoorWpl
import Derived.Test.YthjemhlcojmiaaaDoorVhU
-- VkG VkH
set_option linter.unusedVariables false
set_option linter.unusedSimpArgs false
set_option maxRecDepth 100000
set_option maxHeartbeats 1000000
namespace Go.Proofs.YthjemhlcojmiaaaDoor
open Go Go.Vh Go.Vk Go.Proofs
theorem wf_i64 {m : Int} (h : (Lit.int .i64 m).wf = true) : fits64 m := by
  simp only [Lit.wf, Bool.and_eq_true, decide_eq_true_eq] at h
  exact h
theorem shape_int {H : AHeap} {n : Nat} {avs : List AVal} (h : Shape Tryd.prog H n 3 avs) : ∃ m, avs = [.int .i64 m] ∧ fits64 m := by
  cases n with
  | zero => exact h.elim
  | succ n =>
    unfold Shape at h
    rw [Tryd.underlying3] at h
    obtain ⟨m, rfl, hm⟩ := h
    exact ⟨m, rfl, wf_i64 hm⟩
theorem shape_ints {H : AHeap} {n : Nat} {avs : List AVal} (h : Shape Tryd.prog H n 22 avs) : ∃ i l, avs = [.view i 0 l.length] ∧ i < H.n ∧ H.f i = .ro 1 (ints l) ∧ (∀ x ∈ l, fits64 x) ∧ l.length ≤ 1152921504606846976 := by
  cases n with
  | zero => exact h.elim
  | succ n =>
    unfold Shape at h
    rw [Tryd.underlying22] at h
    obtain ⟨i, len, cells, rfl, h1, h2, h3, ⟨_, h4⟩, h5⟩ := h
    have hc : Tryd.prog.cellsOf 3 = 1 := by kernel_rfl
    have hb : Tryd.prog.bytesOf 3 = 8 := by kernel_rfl
    obtain ⟨l, rfl, rfl, hx⟩ := Shape.ints (by exact Tryd.underlying3) hc h3 h5
    rw [hc] at h2
    rw [hb] at h4
    have h4 : l.length * 8 ≤ 0x7ffffffff000 := h4
    exact ⟨i, l, rfl, h1, h2, hx, by omega⟩
theorem shape_word {H : AHeap} {n : Nat} {avs : List AVal} (h : Shape Tryd.prog H n 24 avs) : ∃ (w : Wd) (i j : Nat), argOf Tryd.prog 24 avs = w.av i j ∧ w.Fits ∧ (i < H.n ∧ H.f i = .ro 1 (ints w.stem)) ∧ (j < H.n ∧ H.f j = .ro 1 (ints w.loop)) := by
  have e0 : argOf Tryd.prog 24 avs = .agg avs := by unfold argOf; rw [Tryd.underlying24]
  rw [e0]
  cases n with
  | zero => exact h.elim
  | succ n =>
    unfold Shape at h
    rw [Tryd.underlying24] at h
    obtain ⟨hl, hf⟩ := h
    have hc : Tryd.prog.cellsOf 24 = 2 := by kernel_rfl
    have c22 : Tryd.prog.cellsOf 22 = 1 := by kernel_rfl
    rw [hc] at hl
    rcases avs with _ | ⟨x0, _ | ⟨x1, _ | ⟨x2, avs⟩⟩⟩
    case cons.cons.nil =>
      have g0 : Shape Tryd.prog H n 22 ((([x0, x1] : List AVal).drop 0).take (Tryd.prog.cellsOf 22)) := hf 0 _ rfl
      have g1 : Shape Tryd.prog H n 22 ((([x0, x1] : List AVal).drop 1).take (Tryd.prog.cellsOf 22)) := hf 1 _ rfl
      rw [c22] at g0 g1
      obtain ⟨i, stem, e1, a1, a2, a3, b1⟩ := shape_ints g0
      obtain ⟨k, loop, e3, f1, f2, f3, b3⟩ := shape_ints g1
      cases e1; cases e3
      exact ⟨⟨stem, loop⟩, i, k, rfl, ⟨b1, b3⟩, ⟨a1, a2⟩, ⟨f1, f2⟩⟩
    all_goals (simp only [List.length_cons, List.length_nil] at hl; omega)
theorem lift_word {f : FuncId} {w : Wd} {rest : List AVal} {K : AVal → Prop} {H : AHeap} {i j : Nat} (h : CallW Tryd.prog f (w.av 0 1 :: rest) (wh w.stem w.loop) fun v _ => K v) (hk : ∀ v, K v → noRef v = true) (hr : ∀ κ, rens κ rest = rest)
    (hi : i < H.n ∧ H.f i = .ro 1 (ints w.stem)) (hj : j < H.n ∧ H.f j = .ro 1 (ints w.loop)) : CallW Tryd.prog f (w.av i j :: rest) H fun v _ => K v := by
  have := rdAt h hk (.ro hi.1 hi.2) (.ro hj.1 hj.2)
  have e : rens (fk [i, j] H.n) (w.av 0 1 :: rest) = w.av i j :: rest := by
    show ren _ (w.av 0 1) :: rens _ rest = _
    rw [hr]
    rfl
  rw [e] at this
  exact this.mono fun v G h => h.2
def Wd.box2 (w : Wd) : ABlk := .ro 2 [.view 0 0 w.stem.length, .view 1 0 w.loop.length]
theorem few8 (w : Wd) (hf : w.Fits) (a : Int) : CallW Tryd.prog 8 [.int .i64 a, .slice 2 0 1] ((wh w.stem w.loop).alloc w.box2) fun v _ => IsB v ((w.stem.length : Int) + w.loop.length ≤ a) := by
  obtain ⟨b1, b2⟩ := hf
  refine CallW.symK (cuts := []) Tryd.func8 rfl (by kernel_rfl) ?_
  conv => whnf
  repeat' (refine Gets.of _ rfl ?_; conv => whnf)
  refine CodeS.loopGK (cuts := []) (σ := Nat) (fun j => [(0, .int .i64 a), (7, .slice 2 0 1), (8, .int .i64 1), (9, .int .i64 j)]) (fun _ => (wh w.stem w.loop).alloc w.box2) (fun j => j ≤ 1 ∧ (j = 1 → (w.stem.length : Int) + w.loop.length ≤ a)) (fun j => 1 - j) 0 (renL [0, 1, 2] 3) (by kernel_rfl) ⟨Nat.zero_le _, fun h => by omega⟩ ⟨rfl, rfl, rfl, rfl, trivial⟩ (EmbL.litsN [0, 1, 2] rfl rfl rfl rfl (.cons ⟨rfl, .inl ⟨rfl, fun h => h⟩⟩ (.cons ⟨rfl, .inl ⟨rfl, fun h => h⟩⟩ (.cons ⟨rfl, .inl ⟨rfl, fun h => h⟩⟩ .nil))) (.cons ⟨rfl, .roI⟩ (.cons ⟨rfl, .roI⟩ (.cons ⟨rfl, .inl rfl⟩ .nil)))) ?_
  rintro j ⟨g1, g2⟩
  rcases j with _ | _ | j
  · conv => whnf
    repeat' first | ((with_reducible refine Gets.addI ?_ ?_ ?_); (· omega); (· omega); conv => whnf) | (refine Gets.of _ rfl ?_; conv => whnf) | (refine Fork.yesR rfl ?_; conv => whnf) | (refine Fork.dec (fun _ => ?_) (fun _ => ?_) <;> first | (exfalso; omega) | (conv => whnf))
    · exact .f fun h => by omega
    · exact ⟨1, renL [0, 1, 2] 4, ⟨Nat.le_refl _, fun _ => by omega⟩, by omega, ⟨rfl, rfl, rfl, rfl, trivial⟩, EmbL.litsN [0, 1, 2] rfl rfl rfl rfl (.cons ⟨rfl, .inl ⟨rfl, fun h => h⟩⟩ (.cons ⟨rfl, .inl ⟨rfl, fun h => h⟩⟩ (.cons ⟨rfl, .inl ⟨rfl, fun h => h⟩⟩ .nil))) (.cons ⟨rfl, .roI⟩ (.cons ⟨rfl, .roI⟩ (.cons ⟨rfl, .inl rfl⟩ .nil)))⟩
  · conv => whnf
    repeat' (refine Fork.noR rfl ?_; conv => whnf)
    exact .t (g2 rfl)
  · omega
end Go.Proofs.YthjemhlcojmiaaaDoor
