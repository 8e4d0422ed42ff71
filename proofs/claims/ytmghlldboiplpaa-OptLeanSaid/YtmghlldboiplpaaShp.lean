/- Circuits as arguments: what a claim reads is a circuit. -/
import Derived.Test.YtmghlldboiplpaaCir
import Derived.Test.YtmghlldboiplpaaVhU
set_option linter.unusedVariables false
set_option linter.unusedSimpArgs false
set_option maxRecDepth 100000
namespace Go.Proofs.Ytmghlldboiplpaa
open Go Go.Vh Go.Vk Go.Proofs
theorem wf_i64 {m : Int} (h : (Lit.int .i64 m).wf = true) : fits64 m := by
  simp only [Lit.wf, Bool.and_eq_true, decide_eq_true_eq] at h
  exact h
theorem shape_int {H : AHeap} {n : Nat} {avs : List AVal} (h : Shape Try.prog H n 3 avs) : ∃ m, avs = [.int .i64 m] ∧ fits64 m := by
  cases n with
  | zero => exact h.elim
  | succ n =>
    unfold Shape at h
    rw [Try.underlying3] at h
    obtain ⟨m, rfl, hm⟩ := h
    exact ⟨m, rfl, wf_i64 hm⟩
theorem shape_ints {H : AHeap} {n : Nat} {avs : List AVal} (h : Shape Try.prog H n 22 avs) : ∃ i l, avs = [.view i 0 l.length] ∧ i < H.n ∧ H.f i = .ro 1 (ints l) ∧ (∀ x ∈ l, fits64 x) ∧ l.length ≤ 1152921504606846976 := by
  cases n with
  | zero => exact h.elim
  | succ n =>
    unfold Shape at h
    rw [Try.underlying22] at h
    obtain ⟨i, len, cells, rfl, h1, h2, h3, ⟨_, h4⟩, h5⟩ := h
    have hc : Try.prog.cellsOf 3 = 1 := by kernel_rfl
    have hb : Try.prog.bytesOf 3 = 8 := by kernel_rfl
    obtain ⟨l, rfl, rfl, hx⟩ := Shape.ints (by exact Try.underlying3) hc h3 h5
    rw [hc] at h2
    rw [hb] at h4
    have h4 : l.length * 8 ≤ 0x7ffffffff000 := h4
    exact ⟨i, l, rfl, h1, h2, hx, by omega⟩
theorem pflat_of : ∀ (n : Nat) (l : List Int), l.length = n * 2 → ∃ g, pflat g = l ∧ g.length = n
  | 0, l, h => ⟨[], by cases l with | nil => rfl | cons x l => simp at h, rfl⟩
  | n + 1, l, h => by
    rcases l with _ | ⟨a, _ | ⟨b, l⟩⟩
    · simp at h
    · simp at h; omega
    · obtain ⟨g, hg, hl⟩ := pflat_of n l (by simp at h; omega)
      exact ⟨(a, b) :: g, by rw [← hg]; rfl, by simp [hl]⟩
theorem shape_gates {H : AHeap} {n : Nat} {avs : List AVal} (h : Shape Try.prog H n 23 avs) : ∃ i g, avs = [.view i 0 g.length] ∧ i < H.n ∧ H.f i = .ro 2 (ints (pflat g)) ∧ g.length ≤ 1152921504606846976 := by
  cases n with
  | zero => exact h.elim
  | succ n =>
    unfold Shape at h
    rw [Try.underlying23] at h
    obtain ⟨i, len, cells, rfl, h1, h2, h3, ⟨_, h4⟩, h5⟩ := h
    have hc : Try.prog.cellsOf 55 = 2 := by kernel_rfl
    have hb : Try.prog.bytesOf 55 = 16 := by kernel_rfl
    obtain ⟨l, rfl, hl, hx⟩ := Shape.flats (by kernel_rfl) h3 h5
    rw [hc] at hl h2
    rw [hb] at h4
    have h4 : len * 16 ≤ 0x7ffffffff000 := h4
    obtain ⟨g, rfl, rfl⟩ := pflat_of len l hl
    exact ⟨i, g, rfl, h1, h2, by omega⟩
theorem shape_cir {H : AHeap} {n : Nat} {avs : List AVal} (h : Shape Try.prog H n 25 avs) : ∃ (c : Cir) (i j k : Nat), argOf Try.prog 25 avs = c.av i j k ∧ c.Fits ∧ (i < H.n ∧ H.f i = .ro 1 (ints c.latch)) ∧ (j < H.n ∧ H.f j = .ro 2 (ints (pflat c.gates))) ∧ (k < H.n ∧ H.f k = .ro 1 (ints c.out)) := by
  have e0 : argOf Try.prog 25 avs = .agg avs := by unfold argOf; rw [Try.underlying25]
  rw [e0]
  cases n with
  | zero => exact h.elim
  | succ n =>
    unfold Shape at h
    rw [Try.underlying25] at h
    obtain ⟨hl, hf⟩ := h
    have hc : Try.prog.cellsOf 25 = 4 := by kernel_rfl
    have c3 : Try.prog.cellsOf 3 = 1 := by kernel_rfl
    have c22 : Try.prog.cellsOf 22 = 1 := by kernel_rfl
    have c23 : Try.prog.cellsOf 23 = 1 := by kernel_rfl
    rw [hc] at hl
    rcases avs with _ | ⟨x0, _ | ⟨x1, _ | ⟨x2, _ | ⟨x3, _ | ⟨x4, avs⟩⟩⟩⟩⟩
    case cons.cons.cons.cons.nil =>
      have g0 : Shape Try.prog H n 3 ((([x0, x1, x2, x3] : List AVal).drop 0).take (Try.prog.cellsOf 3)) := hf 0 _ rfl
      have g1 : Shape Try.prog H n 22 ((([x0, x1, x2, x3] : List AVal).drop 1).take (Try.prog.cellsOf 22)) := hf 1 _ rfl
      have g2 : Shape Try.prog H n 23 ((([x0, x1, x2, x3] : List AVal).drop 2).take (Try.prog.cellsOf 23)) := hf 2 _ rfl
      have g3 : Shape Try.prog H n 22 ((([x0, x1, x2, x3] : List AVal).drop 3).take (Try.prog.cellsOf 22)) := hf 3 _ rfl
      rw [c3] at g0
      rw [c22] at g1 g3
      rw [c23] at g2
      obtain ⟨inp, e0, b0⟩ := shape_int g0
      obtain ⟨i, latch, e1, a1, a2, a3, b1⟩ := shape_ints g1
      obtain ⟨j, gates, e2, d1, d2, b2⟩ := shape_gates g2
      obtain ⟨k, out, e3, f1, f2, f3, b3⟩ := shape_ints g3
      cases e0; cases e1; cases e2; cases e3
      exact ⟨⟨inp, latch, gates, out⟩, i, j, k, rfl, ⟨b0, b1, b2, b3⟩, ⟨a1, a2⟩, ⟨d1, d2⟩, ⟨f1, f2⟩⟩
    all_goals (simp only [List.length_cons, List.length_nil] at hl; omega)
/-- What was shown of a circuit that lies in front holds of one that lies anywhere. -/
theorem lift_cir {f : FuncId} {c : Cir} {rest : List AVal} {K : AVal → Prop} {H : AHeap} {i j k : Nat} (h : CallW Try.prog f (c.av 0 1 2 :: rest) c.heap fun v _ => K v) (hk : ∀ v, K v → noRef v = true) (hr : ∀ κ, rens κ rest = rest)
    (hi : i < H.n ∧ H.f i = .ro 1 (ints c.latch)) (hj : j < H.n ∧ H.f j = .ro 2 (ints (pflat c.gates))) (hk2 : k < H.n ∧ H.f k = .ro 1 (ints c.out)) : CallW Try.prog f (c.av i j k :: rest) H fun v _ => K v := by
  have := h.readsL (H := H) hk [i, j, k] rfl (.cons ⟨Nat.ble_eq_true_of_le hi.1, rfl, by show BSub _ _ (H.f i); rw [hi.2]; exact .roI⟩ (.cons ⟨Nat.ble_eq_true_of_le hj.1, rfl, by show BSub _ _ (H.f j); rw [hj.2]; exact .roI⟩ (.cons ⟨Nat.ble_eq_true_of_le hk2.1, rfl, by show BSub _ _ (H.f k); rw [hk2.2]; exact .roI⟩ .nil)))
  have e : rens (fk [i, j, k] H.n) (c.av 0 1 2 :: rest) = c.av i j k :: rest := by
    show ren _ (c.av 0 1 2) :: rens _ rest = _
    rw [hr]
    rfl
  rw [e] at this
  exact this.mono fun v G h => h.2
end Go.Proofs.Ytmghlldboiplpaa
