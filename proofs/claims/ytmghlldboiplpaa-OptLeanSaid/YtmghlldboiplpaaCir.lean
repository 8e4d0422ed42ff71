/- Circuits: what they are, and when they are valid. -/
import Derived.Test.YtmghlldboiplpaaProg
import Derived.Test.YtmghlldboiplpaaVkD
set_option linter.unusedVariables false
set_option linter.unusedSimpArgs false
set_option maxRecDepth 100000
set_option maxHeartbeats 1000000
namespace Go.Proofs.Ytmghlldboiplpaa
open Go Go.Vh Go.Vk Go.Proofs
theorem mixed : Try.prog.follows .mixedOrders = true := by kernel_rfl
structure Cir where
  inp : Int
  latch : List Int
  gates : List (Int × Int)
  out : List Int
def Cir.av (c : Cir) (i j k : Nat) : AVal := .agg [.int .i64 c.inp, .view i 0 c.latch.length, .view j 0 c.gates.length, .view k 0 c.out.length]
def Cir.heap (c : Cir) : AHeap := ((emptyH.alloc (.ro 1 (ints c.latch))).alloc (.ro 2 (ints (pflat c.gates)))).alloc (.ro 1 (ints c.out))
/-- The sizes that memory allows. -/
structure Cir.Fits (c : Cir) : Prop where
  i : fits64 c.inp
  l : c.latch.length ≤ 1152921504606846976
  g : c.gates.length ≤ 1152921504606846976
  o : c.out.length ≤ 1152921504606846976
def Cir.vars (c : Cir) : Int := c.inp + c.latch.length + c.gates.length
def Cir.most (c : Cir) : Int := 2 * c.vars + 1
def Cir.own (c : Cir) (k : Nat) : Int := 2 * (c.inp + c.latch.length + 1 + k)
def Cir.Small (c : Cir) : Prop := 0 ≤ c.inp ∧ c.inp ≤ 3 ∧ c.latch.length ≤ 24 ∧ c.gates.length ≤ 20000 ∧ c.out.length ≤ 3
def inR (m x : Int) : Prop := 0 ≤ x ∧ x ≤ m
def Cir.GateOk (c : Cir) (k : Nat) : Prop := inR (c.own k - 1) (c.gates.getD k (0, 0)).1 ∧ inR (c.own k - 1) (c.gates.getD k (0, 0)).2
structure Cir.Ok (c : Cir) : Prop where
  s : c.Small
  l : ∀ x ∈ c.latch, inR c.most x
  o : ∀ x ∈ c.out, inR c.most x
  g : ∀ k, k < c.gates.length → c.GateOk k
/-! ### The program's Valid -/
theorem vars53 (c : Cir) (hs : c.Small) : CallW Try.prog 53 [c.av 0 1 2] c.heap fun v _ => v = .int .i64 c.vars := by
  obtain ⟨h1, h2, h3, h4, h5⟩ := hs
  refine CallW.symK (cuts := []) Try.func53 rfl (by kernel_rfl) ?_
  conv => whnf
  repeat' first | ((with_reducible refine Gets.addI ?_ ?_ ?_); (· omega); (· omega); conv => whnf) | (refine Gets.of _ rfl ?_; conv => whnf)
  rfl
theorem bad54 (m x : Int) (H : AHeap) (i : Nat) (hf : (H.f i).cs = ints [m]) : CallW Try.prog 54 [.int .i64 x, .ptr i 0] H fun v H' => H' = H ∧ IsB v (¬ inR m x) := by
  refine CallW.symK (cuts := []) Try.func54 rfl (by kernel_rfl) ?_
  conv => whnf
  repeat' first | (refine Gets.ldI rfl (by first | rfl | assumption) (by first | omega | exact Nat.le_of_ble_eq_true rfl) ?_; conv => whnf) | (refine Fork.dec (fun _ => ?_) (fun _ => ?_) <;> first | (exfalso; omega) | (conv => whnf))
  all_goals refine ⟨rfl, ?_⟩
  all_goals try simp only [List.getD_cons_zero] at *
  · exact .t fun h => by have := h.1; omega
  · exact .t fun h => by have := h.2; omega
  · exact .f fun h => h ⟨by omega, by omega⟩
/-- What a function over the numbers of a row finds. -/
def Finds (f : FuncId) (cap : List AVal) (H : AHeap) (l : List Int) (p : Int → Prop) : Prop := ∀ x ∈ l, CallW Try.prog f (.int .i64 x :: cap) H fun v H' => H' = H ∧ IsB v (p x)
theorem getD_mem {l : List Int} {j : Nat} (h : j < l.length) : l.getD j 0 ∈ l := by rw [List.getD_eq_getElem?_getD, List.getElem?_eq_getElem h]; exact List.getElem_mem _
theorem mem_getD {l : List Int} {x : Int} (h : x ∈ l) : ∃ j, j < l.length ∧ l.getD j 0 = x := by
  obtain ⟨k, hk, rfl⟩ := List.getElem_of_mem h
  exact ⟨k, hk, by rw [List.getD_eq_getElem?_getD, List.getElem?_eq_getElem hk]; rfl⟩
theorem index68 {f : FuncId} {cap : List AVal} {H : AHeap} {l : List Int} {p : Int → Prop} (hb : hasBody Try.prog f = true) (h : Finds f cap H l p) (i : Nat) (hf : (H.f i).cs = ints l) (hl : l.length ≤ 1152921504606846976) :
    CallW Try.prog 68 [.view i 0 l.length, .func f [] cap] H fun v H' => H' = H ∧ ∃ k : Int, v = .int .i64 k ∧ ((k = -1 ∧ ∀ x ∈ l, ¬ p x) ∨ (0 ≤ k ∧ k < l.length ∧ p (l.getD k.toNat 0) ∧ ∀ j : Nat, j < k.toNat → ¬ p (l.getD j 0))) := by
  refine CallW.symK (cuts := []) Try.func68 rfl (by kernel_rfl) ?_
  conv => whnf
  repeat' (refine Gets.of _ rfl ?_; conv => whnf)
  refine CodeS.loopSK (cuts := []) (σ := Nat) (fun j => [(0, .view i 0 l.length), (1, .func f [] cap), (7, .int .i64 l.length), (8, .int .i64 j)]) (fun _ => H) (fun j => j ≤ l.length ∧ ∀ k, k < j → ¬ p (l.getD k 0)) (fun j => l.length - j) 0 (by kernel_rfl) ⟨Nat.zero_le _, fun k hk => by omega⟩ ⟨rfl, rfl, rfl, rfl, trivial⟩ rfl ?_
  rintro j ⟨g1, g2⟩
  conv => whnf
  repeat' first | (refine Gets.ix1v rfl rfl (by omega) ?_; conv => whnf) | (refine Gets.ldI rfl (by first | rfl | assumption) (by first | omega | exact Nat.le_of_ble_eq_true rfl) ?_; conv => whnf) | (refine seqL1_of ?_; conv => whnf) | (refine Fork.dec (fun _ => ?_) (fun _ => ?_) <;> first | (exfalso; omega) | (conv => whnf))
  · refine CallS.of hb (h (l.getD j 0) (getD_mem (by omega))) rfl ?_
    rintro _ _ ⟨rfl, hp | hp⟩
    all_goals conv => whnf
    repeat' ((with_reducible refine Gets.addI ?_ ?_ ?_); (· omega); (· omega); conv => whnf)
    · exact ⟨rfl, _, rfl, .inr ⟨by omega, by omega, by rwa [Int.toNat_natCast], fun k hk => g2 k (by omega)⟩⟩
    · refine ⟨j + 1, ⟨by omega, fun k hk => ?_⟩, by omega, ⟨rfl, rfl, rfl, rfl, trivial⟩, rfl⟩
      rcases Nat.lt_or_ge k j with h1 | h1
      · exact g2 k h1
      · rwa [show k = j by omega]
  · exact ⟨rfl, -1, rfl, .inl ⟨rfl, fun x hx => by obtain ⟨k, hk, rfl⟩ := mem_getD hx; exact g2 k (by omega)⟩⟩
theorem contains51 {f : FuncId} {cap : List AVal} {H : AHeap} {l : List Int} {p : Int → Prop} (hb : hasBody Try.prog f = true) (h : Finds f cap H l p) (i : Nat) (hf : (H.f i).cs = ints l) (hl : l.length ≤ 1152921504606846976) :
    CallW Try.prog 51 [.view i 0 l.length, .func f [] cap] H fun v H' => H' = H ∧ IsB v (∃ x ∈ l, p x) := by
  refine CallW.symK (cuts := []) Try.func51 rfl (by kernel_rfl) ?_
  conv => whnf
  repeat' (refine seqL1_of ?_; conv => whnf)
  refine CallS.of (by kernel_rfl) (index68 hb h i hf hl) rfl ?_
  rintro _ _ ⟨rfl, k, rfl, hk⟩
  conv => whnf
  repeat' (refine Fork.dec (fun _ => ?_) (fun _ => ?_) <;> first | (exfalso; omega) | (conv => whnf))
  all_goals refine ⟨rfl, ?_⟩
  · rcases hk with ⟨rfl, _⟩ | ⟨h1, h2, h3, _⟩
    · omega
    · exact .t ⟨_, getD_mem (by omega), h3⟩
  · rcases hk with ⟨rfl, h1⟩ | ⟨h1, h2, h3, _⟩
    · exact .f fun ⟨x, hx, hp⟩ => h1 x hx hp
    · omega
theorem contains51n {f : FuncId} {cap : List AVal} {H : AHeap} {l : List Int} {p : Int → Prop} (hb : hasBody Try.prog f = true) (h : Finds f cap H l p) (i : Nat) (hf : (H.f i).cs = ints l) (n : Nat) (hn : l.length = n) (hl : n ≤ 1152921504606846976) :
    CallW Try.prog 51 [.view i 0 n, .func f [] cap] H fun v H' => H' = H ∧ IsB v (∃ x ∈ l, p x) := by
  subst hn
  exact contains51 hb h i hf hl
end Go.Proofs.Ytmghlldboiplpaa
