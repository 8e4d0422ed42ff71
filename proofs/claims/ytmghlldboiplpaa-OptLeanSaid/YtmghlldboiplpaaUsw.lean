/- The gates that are used: the walks. -/
import Derived.Test.YtmghlldboiplpaaUse
import Derived.Test.YtmghlldboiplpaaVal
import Derived.Test.YtmghlldboiplpaaVkF
set_option linter.unusedVariables false
set_option linter.unusedSimpArgs false
set_option maxRecDepth 100000
set_option maxHeartbeats 1000000
namespace Go.Proofs.Ytmghlldboiplpaa
open Go Go.Vh Go.Vk Go.Proofs
def usH (b n : Nat) (u : List Bool) (v : Nat) : AHeap := ⟨3, fun i => match i with | 0 => .cells 1 [.int .i64 b] | 1 => .cells 1 [.slice 2 0 n] | 2 => .cells 1 (bls u) | _ => .dead, fun i => match i with | 2 => v | _ => 0⟩
theorem use73 (b n : Nat) (u : List Bool) (hn : u.length = n) (l : Int) (h0 : 0 ≤ l) (hl : l ≤ 9223372036854775807) (h1 : (l / 2).toNat < b + n) (hb : b + n ≤ 4294967296) : CallW Try.prog 73 [.int .i64 l, .ptr 0 0, .ptr 1 0] (usH b n u 0) fun v H' => v = .tuple [] ∧ ∃ k, H' = usH b n (markL b u l) k := by
  have hm : markL b u l = if b ≤ (l / 2).toNat then u.set ((l / 2).toNat - b) true else u := rfl
  refine CallW.symRK (cuts := []) Try.func73 rfl (by kernel_rfl) ?_
  conv => whnf
  repeat' first | ((refine Gets.stB rfl rfl (by omega) ?_); conv => whnf) | ((with_reducible refine Gets.quoI ?_ ?_ ?_ ?_); (· omega); (· omega); (· omega); conv => whnf) | ((with_reducible refine Gets.subI ?_ ?_ ?_); (· omega); (· omega); conv => whnf) | (refine Gets.of _ rfl ?_; conv => whnf) | (refine Gets.ixI rfl rfl (by omega) (by omega) ?_; conv => whnf) | (refine Fork.dec (fun _ => ?_) (fun _ => ?_) <;> first | (exfalso; omega) | (conv => whnf))
  · rw [show (l / 2 - (b : Int)).toNat = (l / 2).toNat - b by omega]
    rw [if_pos (by omega)] at hm
    refine ⟨renL [0, 1, 2] 3, .tuple [], usH b n (u.set ((l / 2).toNat - b) true) 1, EmbL.litsN [0, 1, 2] rfl rfl rfl rfl (.cons ⟨rfl, .inl ⟨rfl, fun h => h⟩⟩ (.cons ⟨rfl, .inl ⟨rfl, fun h => h⟩⟩ (.cons ⟨rfl, .inl ⟨rfl, fun h => h⟩⟩ .nil))) (.cons ⟨rfl, .inl rfl⟩ (.cons ⟨rfl, .inl rfl⟩ (.cons ⟨rfl, .cellsB⟩ .nil))), rfl, rfl, 1, ?_⟩
    rw [hm]
  · rw [if_neg (by omega)] at hm
    refine ⟨renL [0, 1, 2] 3, .tuple [], usH b n u 0, EmbL.litsN [0, 1, 2] rfl rfl rfl rfl (.cons ⟨rfl, .inl ⟨rfl, fun h => h⟩⟩ (.cons ⟨rfl, .inl ⟨rfl, fun h => h⟩⟩ (.cons ⟨rfl, .inl ⟨rfl, fun h => h⟩⟩ .nil))) (.cons ⟨rfl, .inl rfl⟩ (.cons ⟨rfl, .inl rfl⟩ (.cons ⟨rfl, .cellsB⟩ .nil))), rfl, rfl, 0, ?_⟩
    rw [hm]
theorem src_ints {H : AHeap} {j n : Nat} {xs : List Int} (hn : xs.length = n) (hx : H.f j = .ro 1 (ints xs)) : srcA H 1 (.slice j 0 n) = some (ints xs, n) ∧ srcA H 1 (.view j 0 n) = some (ints xs, n) := by
  subst hn
  have hl : (ints xs).length = xs.length := nums_length _ _
  constructor <;> (simp only [srcA, hx, hl, List.drop_zero, Nat.zero_add, Nat.mul_one, Nat.le_refl, and_self, if_true]; rw [List.take_of_length_le (by rw [hl]; exact Nat.le_refl _)])
theorem Gets.appSrc {P : Program} {H : AHeap} {t tx : TypeId} {ti : TI} {d : TypeDesc} {i m n : Nat} {x : AVal} {l xs : List Int} {A : AVal × AHeap → Prop} (ht : sliceT P t = some ti) (hd : P.underlying tx = some d) (hr : rowD d = true) (hsz : ti.size = 1) (hz : ti.zero.length = 1) (hb : ti.bytes ≤ 4096)
    (hm : l.length = m) (hx : srcA H 1 x = some (ints xs, n)) (hf : H.f i = .cells 1 (ints l)) (hl : m + n ≤ 4294967296)
    (hA : A (.slice H.n 0 (m + n), (H.set i .dead).alloc (.cells 1 (ints (l ++ xs))))) : Gets (builtA P H .append [t, tx] [.slice i 0 m, x]) A := by
  subst hm
  have hll : (ints l).length = l.length := nums_length _ _
  refine ⟨⟨_, ?_, hA⟩⟩
  simp only [builtA, apureB, amemB, aappend, ht, hd]
  rw [if_pos ⟨hr, hb, by rw [hz, hsz]⟩]
  simp only [hf, hsz, hll, hx]
  rw [if_pos ⟨trivial, by omega, hl, nums_scalar _ _⟩]
  congr 4
  rw [List.drop_zero, Nat.mul_one, List.take_of_length_le (by rw [hll]; exact Nat.le_refl _)]
  exact List.map_append.symm
theorem Gets.appNil0 {P : Program} {H : AHeap} {t tx : TypeId} {ti : TI} {d : TypeDesc} {x : AVal} {xs : List AVal} {A : AVal × AHeap → Prop} (ht : sliceT P t = some ti) (hd : P.underlying tx = some d) (hr : rowD d = true) (hsz : ti.size = 1) (hz : ti.zero.length = 1) (hb : ti.bytes ≤ 4096)
    (hx : srcA H 1 x = some (xs, 0)) (hA : A (.nilSlice, H)) : Gets (builtA P H .append [t, tx] [.nilSlice, x]) A := by
  refine ⟨⟨_, ?_, hA⟩⟩
  simp only [builtA, apureB, amemB, aappend, ht, hd]
  rw [if_pos ⟨hr, hb, by rw [hz, hsz]⟩]
  simp only [hsz, hx, if_true]
theorem Gets.appNilS {P : Program} {H : AHeap} {t tx : TypeId} {ti : TI} {d : TypeDesc} {n : Nat} {x : AVal} {xs : List AVal} {A : AVal × AHeap → Prop} (ht : sliceT P t = some ti) (hd : P.underlying tx = some d) (hr : rowD d = true) (hsz : ti.size = 1) (hz : ti.zero.length = 1) (hb : ti.bytes ≤ 4096)
    (hx : srcA H 1 x = some (xs, n)) (hn : 0 < n) (hl : n ≤ 4294967296) (hA : A (.slice H.n 0 n, H.alloc (.cells 1 xs))) : Gets (builtA P H .append [t, tx] [.nilSlice, x]) A := by
  refine ⟨⟨_, ?_, hA⟩⟩
  simp only [builtA, apureB, amemB, aappend, ht, hd]
  rw [if_pos ⟨hr, hb, by rw [hz, hsz]⟩]
  simp only [hsz, hx]
  rw [if_neg (by omega), if_pos hl]
theorem clone45n (H : AHeap) : CallW Try.prog 45 [.nilSlice] H fun v H' => v = .nilSlice ∧ H' = H := by
  refine CallW.symK (cuts := []) Try.func45 rfl (by kernel_rfl) ?_
  conv => whnf
  repeat' (refine Fork.any (fun _ => ?_) (fun _ => ?_) <;> (conv => whnf))
  all_goals first | (rename_i h; exact absurd h (by decide)) | exact ⟨rfl, rfl⟩
theorem clone45s (l : List Int) (hl : l.length ≤ 4294967296) : CallW Try.prog 45 [.slice 0 0 l.length] (emptyH.alloc (.ro 1 (ints l))) fun v H' => v = .slice 1 0 l.length ∧ H' = (emptyH.alloc (.ro 1 (ints l))).alloc (.cells 1 (ints l)) := by
  have hlen : 0 + l.length = l.length := Nat.zero_add _
  refine CallW.symRK (cuts := []) Try.func45 rfl (by kernel_rfl) ?_
  conv => whnf
  repeat' (refine Fork.any (fun _ => ?_) (fun _ => ?_) <;> (conv => whnf))
  all_goals first | (rename_i h; exact absurd h (by decide)) | skip
  refine Gets.appSrc (ti := tiI) (l := []) (xs := l) (m := 0) (n := l.length) rfl rfl rfl rfl rfl (by decide) rfl (src_ints rfl rfl).1 rfl (by omega) ?_
  rw [hlen]
  conv => whnf
  skip
  exact ⟨renL [0, 2] 3, .slice 1 0 l.length, (emptyH.alloc (.ro 1 (ints l))).alloc (.cells 1 (ints l)), EmbL.litsN [0, 2] rfl rfl rfl rfl (.cons ⟨rfl, .inl ⟨rfl, fun h => h⟩⟩ .nil) (.cons ⟨rfl, .roI⟩ (.cons ⟨rfl, .cellsI⟩ .nil)), rfl, rfl, rfl⟩
/-- A contract for a view, from one for a slice and one for nil. -/
theorem CallW.nilOr {P : Program} {f : FuncId} {i n : Nat} {rest : List AVal} {H : AHeap} {K : AVal → AHeap → Prop} (h1 : CallW P f (.slice i 0 n :: rest) H K) (h2 : n = 0 → CallW P f (.nilSlice :: rest) H K) : CallW P f (.view i 0 n :: rest) H K :=
  CallW.viewsOr h1 h2 fun φ w cs hR hv => by
    cases cs with
    | nil => simp [VRels] at hv
    | cons c cs =>
      obtain ⟨a, b⟩ := VRels_cons.1 hv
      obtain ⟨bi, hb, ⟨h0, h⟩ | ⟨cap, ad, h3, h4, h5⟩⟩ := a
      · exact .inr ⟨h0, VRels_cons.2 ⟨h, b⟩⟩
      · exact .inl (VRels_cons.2 ⟨⟨bi, cap, ad, hb, h3, h4, h5⟩, b⟩)
theorem clone45v (l : List Int) (hl : l.length ≤ 4294967296) : CallW Try.prog 45 [.view 0 0 l.length] (emptyH.alloc (.ro 1 (ints l))) fun v H' => (l = [] ∧ v = .nilSlice ∧ H' = emptyH.alloc (.ro 1 (ints l))) ∨ (v = .slice 1 0 l.length ∧ H' = (emptyH.alloc (.ro 1 (ints l))).alloc (.cells 1 (ints l))) :=
  CallW.nilOr ((clone45s l hl).mono fun v G h => .inr h) fun h0 => (clone45n _).mono fun v G h => .inl ⟨List.eq_nil_of_length_eq_zero h0, h⟩
noncomputable def Cir.U0 (c : Cir) : AHeap := ⟨7, fun i => match i with | 3 => c.box | 4 => .cells 1 [.int .i64 c.nv] | 5 => .cells 1 (bls (List.replicate c.gates.length false)) | 6 => .cells 1 [.slice 5 0 c.gates.length] | i => c.heap.f i, fun _ => 0⟩
/-- A cut behind which there is more than one state. -/
theorem CodeS.cutG {P : Program} {N n0 : Nat} {ρ : Option Nat} {σ : Type} (cuts : List Nat) (el : σ → List (Nat × AVal)) (G : σ → AHeap) (Inv : σ → Prop) {a b : Code} {e : Env} {H : AHeap} {K : Exit → Env → AHeap → Prop} (hok : (okCode N a && okCode N b) = true)
    (h1 : sc P N ρ n0 [] a e H fun x e' H' => match x with
      | .normal => ∃ s κ, Inv s ∧ keepsR κ (el s) e' ∧ EmbL n0 κ (G s) H'
      | x => K x e' H')
    (h2 : ∀ s, Inv s → sc P N ρ n0 cuts b (envOf (el s)) (G s) K) : CodeS P N ρ n0 (.seq a b) e H K := by
  simp only [Bool.and_eq_true] at hok
  refine ⟨CWF.seq ((sc_sound a _ _ _ hok.1 h1).mono ?_)⟩
  intro x e' H' hx
  cases x with
  | normal =>
    obtain ⟨s, κ, hi, hk, hE⟩ := hx
    exact CWF.gcL hE (keepsR_spec _ hk) (sc_sound b _ _ _ hok.2 (h2 s hi))
  | _ => exact hx
theorem Gets.ldPA {P : Program} {H : AHeap} {t : TypeId} {i off j : Nat} {l : List (Int × Int)} {A : AVal → Prop} (ht : tinfo P t = some tiI) (hf : (H.f i).cs = ints (pflat l)) (ho : off = j * 2) (h : j < l.length) (hA : A (.int .i64 (l.getD j (0, 0)).1)) : Gets (loadA P H t (.ptr i off)) A := by
  subst ho
  exact Gets.loadN (j := j * 2) (k := .i64) (l := pflat l) (x := (l.getD j (0, 0)).1) ht rfl hf rfl (pflat_get l j h).1 hA
theorem Gets.ldPB {P : Program} {H : AHeap} {t : TypeId} {i off j : Nat} {l : List (Int × Int)} {A : AVal → Prop} (ht : tinfo P t = some tiI) (hf : (H.f i).cs = ints (pflat l)) (ho : off = j * 2 + 1) (h : j < l.length) (hA : A (.int .i64 (l.getD j (0, 0)).2)) : Gets (loadA P H t (.ptr i off)) A := by
  subst ho
  exact Gets.loadN (j := j * 2 + 1) (k := .i64) (l := pflat l) (x := (l.getD j (0, 0)).2) ht rfl hf rfl (pflat_get l j h).2 hA
noncomputable def Cir.UH (c : Cir) (u : List Bool) (B : ABlk) : AHeap := ⟨8, fun i => match i with | 5 => .cells 1 (bls u) | 7 => B | i => c.U0.f i, fun _ => 0⟩
theorem marks_take {b : Nat} {u : List Bool} {ls : List Int} {j : Nat} (h : j < ls.length) : marks b u (ls.take (j + 1)) = markL b (marks b u (ls.take j)) (ls.getD j 0) := by
  rw [take_succ_getD _ _ 0 h, marks, List.foldl_append]; rfl
theorem used55 (c : Cir) (hf : c.Fits) (ho : c.Ok) : CallW Try.prog 55 [c.av 0 1 2] c.heap fun v H' => v = .tuple [.slice 3 0 c.gates.length, .int .i64 0] ∧ H' = c.heap.alloc (.cells 1 (bls c.usedL)) := by
  obtain ⟨a1, a2, a3, a4, a5⟩ := ho.s
  have hnv : (c.nv : Int) = c.inp + c.latch.length + 1 := by unfold Cir.nv; omega
  refine CallW.symRK (cuts := [6]) Try.func55 rfl (by kernel_rfl) ?_
  conv => whnf
  repeat' (refine Gets.of _ rfl ?_; conv => whnf)
  refine CallS.of (by kernel_rfl) (valid28c c hf _ rfl rfl rfl rfl) rfl ?_
  rintro _ _ ⟨rfl, hq | hq⟩
  all_goals conv => whnf
  rotate_left
  · exact absurd ho hq
  repeat' first | ((refine Gets.makeB (k := 1) (ti := tiB) (by kernel_rfl) rfl (by decide) rfl (by decide) (by omega) (by omega) ?_); conv => whnf) | ((with_reducible refine Gets.addI ?_ ?_ ?_); (· omega); (· omega); conv => whnf) | (refine Gets.of _ rfl ?_; conv => whnf)
  refine CodeS.cutG (σ := AVal × ABlk) [] (fun s => [(1, .ptr 3 0), (5, .ptr 6 0), (6, .func 73 [] [.ptr 4 0, .ptr 6 0]), (30, s.1), (31, .int .i64 (c.latch ++ c.out).length), (32, .int .i64 0)]) (fun s => c.U0.alloc s.2) (fun s => (s.1 = .nilSlice ∧ c.latch ++ c.out = [] ∧ s.2 = .dead) ∨ (s.1 = .slice 7 0 (c.latch ++ c.out).length ∧ s.2 = .cells 1 (ints (c.latch ++ c.out)))) (by kernel_rfl) ?_ ?_
  · conv => whnf
    refine CodeS.drawT [3] (.take 0 (.take 1 (.take 3 (.take 4 (.take 7 (.one 2 true (.one 5 true (.take 6 .done)))))))) mixed (by kernel_rfl) (.cons ⟨rfl, trivial⟩ .nil) ?_
    conv => whnf
    repeat' (refine Gets.of _ rfl ?_; conv => whnf)
    refine CallPS.of (by kernel_rfl) ((clone45v c.latch (by omega)).frameQ [0] rfl (.cons ⟨rfl, .roI⟩ .nil) ?_) rfl ?_
    · rintro _ _ (⟨_, rfl, rfl⟩ | ⟨rfl, rfl⟩) <;> (repeat first | exact .nil | refine .cons (by first | exact .inr rfl | exact .inl rfl) ?_)
    rintro _ _ ⟨_, _, (⟨hl, rfl, rfl⟩ | ⟨rfl, rfl⟩), rfl, rfl⟩
    all_goals conv => whnf
    all_goals
      repeat' (refine Chk.mk (by repeat first | exact .nil | refine .cons rfl ?_) ?_; conv => whnf)
    · have hlo : (c.latch ++ c.out).length = c.out.length := by rw [hl]; rfl
      rcases Nat.eq_zero_or_pos c.out.length with h0 | h0
      · refine Gets.appNil0 (ti := tiI) rfl rfl rfl rfl rfl (by decide) (((src_ints (xs := c.out) rfl rfl).2).trans (by rw [h0])) ?_
        conv => whnf
        repeat' first | (refine Gets.of _ rfl ?_; conv => whnf) | (refine Chk.mk (by repeat first | exact .nil | refine .cons rfl ?_) ?_; conv => whnf)
        refine ⟨(.nilSlice, .dead), renL [0, 1, 2, 3, 4, 5, 6, 0] 7, .inl ⟨rfl, List.eq_nil_of_length_eq_zero (by rw [hlo, h0]), rfl⟩, ⟨rfl, rfl, rfl, rfl, ?_, rfl, trivial⟩, EmbL.lits [0, 1, 2, 3, 4, 5, 6, 0] rfl rfl rfl rfl (.cons ⟨rfl, .inl ⟨rfl, fun h => h⟩⟩ (.cons ⟨rfl, .inl ⟨rfl, fun h => h⟩⟩ (.cons ⟨rfl, .inl ⟨rfl, fun h => h⟩⟩ .nil))) (.cons ⟨rfl, .roI⟩ (.cons ⟨rfl, .roI⟩ (.cons ⟨rfl, .roI⟩ (.cons ⟨rfl, .inl rfl⟩ (.cons ⟨rfl, .inl (congrArg (fun x => ABlk.cells 1 [AVal.int .i64 x]) hnv.symm)⟩ (.cons ⟨rfl, .cellsBe (congrArg (fun n => List.replicate n false) (Nat.mul_one _).symm)⟩ (.cons ⟨rfl, .inl rfl⟩ (.cons ⟨rfl, .gone⟩ .nil))))))))⟩
        rw [hlo, h0]
        rfl
      · refine Gets.appNilS (ti := tiI) (n := c.out.length) rfl rfl rfl rfl rfl (by decide) ((src_ints (xs := c.out) rfl rfl).2) h0 (by omega) ?_
        conv => whnf
        repeat' first | (refine Gets.of _ rfl ?_; conv => whnf) | (refine Chk.mk (by repeat first | exact .nil | refine .cons rfl ?_) ?_; conv => whnf)
        refine ⟨(.slice 7 0 (c.latch ++ c.out).length, .cells 1 (ints (c.latch ++ c.out))), renL [0, 1, 2, 3, 4, 5, 6, 7] 8, .inr ⟨rfl, rfl⟩, ⟨rfl, rfl, rfl, ?_, ?_, rfl, trivial⟩, EmbL.litsN [0, 1, 2, 3, 4, 5, 6, 7] rfl rfl rfl rfl (.cons ⟨rfl, .inl ⟨rfl, fun h => h⟩⟩ (.cons ⟨rfl, .inl ⟨rfl, fun h => h⟩⟩ (.cons ⟨rfl, .inl ⟨rfl, fun h => h⟩⟩ .nil))) (.cons ⟨rfl, .roI⟩ (.cons ⟨rfl, .roI⟩ (.cons ⟨rfl, .roI⟩ (.cons ⟨rfl, .inl rfl⟩ (.cons ⟨rfl, .inl (congrArg (fun x => ABlk.cells 1 [AVal.int .i64 x]) hnv.symm)⟩ (.cons ⟨rfl, .cellsBe (congrArg (fun n => List.replicate n false) (Nat.mul_one _).symm)⟩ (.cons ⟨rfl, .inl rfl⟩ (.cons ⟨rfl, .cellsIe (by rw [hl]; rfl)⟩ .nil))))))))⟩
        · rw [hlo]; rfl
        · rw [hlo]; rfl
    · have hlo : (c.latch ++ c.out).length = c.latch.length + c.out.length := List.length_append
      refine Gets.appSrc (ti := tiI) (l := c.latch) (xs := c.out) (m := c.latch.length) (n := c.out.length) rfl rfl rfl rfl rfl (by decide) rfl ((src_ints rfl rfl).2) (congrArg (ABlk.cells 1) (rens_ints _ _)) (by omega) ?_
      conv => whnf
      repeat' first | (refine Gets.of _ rfl ?_; conv => whnf) | (refine Chk.mk (by repeat first | exact .nil | refine .cons rfl ?_) ?_; conv => whnf)
      refine ⟨(.slice 7 0 (c.latch ++ c.out).length, .cells 1 (ints (c.latch ++ c.out))), renL [0, 1, 2, 3, 4, 5, 6, 8] 9, .inr ⟨rfl, rfl⟩, ⟨rfl, rfl, rfl, ?_, ?_, rfl, trivial⟩, EmbL.litsN [0, 1, 2, 3, 4, 5, 6, 8] rfl rfl rfl rfl (.cons ⟨rfl, .inl ⟨rfl, fun h => h⟩⟩ (.cons ⟨rfl, .inl ⟨rfl, fun h => h⟩⟩ (.cons ⟨rfl, .inl ⟨rfl, fun h => h⟩⟩ .nil))) (.cons ⟨rfl, .roI⟩ (.cons ⟨rfl, .roI⟩ (.cons ⟨rfl, .roI⟩ (.cons ⟨rfl, .inl rfl⟩ (.cons ⟨rfl, .inl (congrArg (fun x => ABlk.cells 1 [AVal.int .i64 x]) hnv.symm)⟩ (.cons ⟨rfl, .cellsBe (congrArg (fun n => List.replicate n false) (Nat.mul_one _).symm)⟩ (.cons ⟨rfl, .inl rfl⟩ (.cons ⟨rfl, .cellsIe rfl⟩ .nil))))))))⟩
      · rw [hlo]; rfl
      · rw [hlo]; rfl
  · rintro ⟨row, B⟩ hrow
    dsimp only at hrow ⊢
    have hin : ∀ l ∈ c.latch ++ c.out, 0 ≤ l ∧ (l / 2).toNat < c.nv + c.gates.length := fun l hl => by
      have hr : inR c.most l := by
        rcases List.mem_append.1 hl with h | h
        · exact ho.l l h
        · exact ho.o l h
      unfold inR Cir.most Cir.vars at hr
      omega
    have hlen : (c.latch ++ c.out).length ≤ 27 := by rw [List.length_append]; omega
    have hs0 : c.sweep 0 = marks c.nv (List.replicate c.gates.length false) (c.latch ++ c.out) := rfl
    have hsl : ∀ j, (marks c.nv (List.replicate c.gates.length false) ((c.latch ++ c.out).take j)).length = c.gates.length := fun j => by rw [marks_length]; simp
    generalize hls : c.latch ++ c.out = ls at *
    conv => whnf
    skip
    refine CodeS.loopGK (cuts := []) (σ := Nat) (fun j => [(1, .ptr 3 0), (5, .ptr 6 0), (6, .func 73 [] [.ptr 4 0, .ptr 6 0]), (30, row), (31, .int .i64 ls.length), (32, .int .i64 j)]) (fun j => c.UH (marks c.nv (List.replicate c.gates.length false) (ls.take j)) B) (fun j => j ≤ ls.length) (fun j => ls.length - j) 0 (renL [0, 1, 2, 3, 4, 5, 6, 7] 8) (by kernel_rfl) (Nat.zero_le _) ⟨rfl, rfl, rfl, ?_, rfl, rfl, trivial⟩ ?_ ?_
    · rcases hrow with ⟨rfl, _, _⟩ | ⟨rfl, _⟩ <;> rfl
    · rcases hrow with ⟨_, _, rfl⟩ | ⟨_, rfl⟩
      · exact EmbL.litsN [0, 1, 2, 3, 4, 5, 6, 7] rfl rfl rfl rfl (.cons ⟨rfl, .inl ⟨rfl, fun h => h⟩⟩ (.cons ⟨rfl, .inl ⟨rfl, fun h => h⟩⟩ (.cons ⟨rfl, .inl ⟨rfl, fun h => h⟩⟩ .nil))) (.cons ⟨rfl, .roI⟩ (.cons ⟨rfl, .roI⟩ (.cons ⟨rfl, .roI⟩ (.cons ⟨rfl, .inl rfl⟩ (.cons ⟨rfl, .inl rfl⟩ (.cons ⟨rfl, .cellsBe rfl⟩ (.cons ⟨rfl, .inl rfl⟩ (.cons ⟨rfl, .gone⟩ .nil))))))))
      · exact EmbL.litsN [0, 1, 2, 3, 4, 5, 6, 7] rfl rfl rfl rfl (.cons ⟨rfl, .inl ⟨rfl, fun h => h⟩⟩ (.cons ⟨rfl, .inl ⟨rfl, fun h => h⟩⟩ (.cons ⟨rfl, .inl ⟨rfl, fun h => h⟩⟩ .nil))) (.cons ⟨rfl, .roI⟩ (.cons ⟨rfl, .roI⟩ (.cons ⟨rfl, .roI⟩ (.cons ⟨rfl, .inl rfl⟩ (.cons ⟨rfl, .inl rfl⟩ (.cons ⟨rfl, .cellsBe rfl⟩ (.cons ⟨rfl, .inl rfl⟩ (.cons ⟨rfl, .cellsIe rfl⟩ .nil))))))))
    intro j g1
    have hsj := hsl j
    conv => whnf
    repeat' first | ((with_reducible refine Gets.subI ?_ ?_ ?_); (· omega); (· omega); conv => whnf) | (refine Gets.of _ rfl ?_; conv => whnf) | (refine seqV_of ?_; conv => whnf) | (refine Fork.dec (fun _ => ?_) (fun _ => ?_) <;> first | (exfalso; omega) | (conv => whnf))
    · rcases hrow with ⟨_, h, _⟩ | ⟨rfl, rfl⟩
      · subst h; exfalso; simp only [List.length_nil] at *; omega
      have hj : j < ls.length := by omega
      obtain ⟨b1, b2⟩ := hin _ (getD_memL (d := 0) hj)
      conv => whnf
      repeat' first | (refine Gets.ix1 rfl rfl (by omega) ?_; conv => whnf) | (refine Gets.ldI rfl (by first | rfl | assumption) (by first | omega | exact Nat.le_of_ble_eq_true rfl) ?_; conv => whnf)
      refine CallS.of (by kernel_rfl) ((use73 c.nv c.gates.length _ hsj (ls.getD j 0) b1 (by omega) b2 (by omega)).frameQ [4, 6, 5] rfl (.cons ⟨rfl, .inl rfl⟩ (.cons ⟨rfl, .inl rfl⟩ (.cons ⟨rfl, .cellsB⟩ .nil))) ?_) rfl ?_
      · rintro _ _ ⟨rfl, k, rfl⟩
        repeat first | exact .nil | refine .cons (by first | exact .inr rfl | exact .inl rfl) ?_
      rintro _ _ ⟨_, _, ⟨rfl, k, rfl⟩, rfl, rfl⟩
      conv => whnf
      repeat' ((with_reducible refine Gets.addI ?_ ?_ ?_); (· omega); (· omega); conv => whnf)
      refine ⟨j + 1, renL [0, 1, 2, 3, 4, 5, 6, 7] 8, by omega, by omega, ⟨rfl, rfl, rfl, rfl, rfl, rfl, trivial⟩, ?_⟩
      rw [marks_take hj]
      exact EmbL.litsN [0, 1, 2, 3, 4, 5, 6, 7] rfl rfl rfl rfl (.cons ⟨rfl, .inl ⟨rfl, fun h => h⟩⟩ (.cons ⟨rfl, .inl ⟨rfl, fun h => h⟩⟩ (.cons ⟨rfl, .inl ⟨rfl, fun h => h⟩⟩ .nil))) (.cons ⟨rfl, .roI⟩ (.cons ⟨rfl, .roI⟩ (.cons ⟨rfl, .roI⟩ (.cons ⟨rfl, .inl rfl⟩ (.cons ⟨rfl, .inl rfl⟩ (.cons ⟨rfl, .cellsBr⟩ (.cons ⟨rfl, .inl rfl⟩ (.cons ⟨rfl, .cellsI⟩ .nil))))))))
    · obtain rfl : j = ls.length := by omega
      rw [List.take_length, ← hs0]
      refine CodeS.loopGK (cuts := []) (σ := Nat) (fun m => [(1, .ptr 3 0), (5, .ptr 6 0), (6, .func 73 [] [.ptr 4 0, .ptr 6 0]), (9, .int .i64 ((c.gates.length : Int) - 1 - m))]) (fun m => c.UH (c.sweep m) .dead) (fun m => m ≤ c.gates.length) (fun m => c.gates.length - m) 0 (renL [0, 1, 2, 3, 4, 5, 6, 7] 8) (by kernel_rfl) (Nat.zero_le _) ⟨rfl, rfl, rfl, ?_, trivial⟩ (EmbL.litsN [0, 1, 2, 3, 4, 5, 6, 7] rfl rfl rfl rfl (.cons ⟨rfl, .inl ⟨rfl, fun h => h⟩⟩ (.cons ⟨rfl, .inl ⟨rfl, fun h => h⟩⟩ (.cons ⟨rfl, .inl ⟨rfl, fun h => h⟩⟩ .nil))) (.cons ⟨rfl, .roI⟩ (.cons ⟨rfl, .roI⟩ (.cons ⟨rfl, .roI⟩ (.cons ⟨rfl, .inl rfl⟩ (.cons ⟨rfl, .inl rfl⟩ (.cons ⟨rfl, .cellsB⟩ (.cons ⟨rfl, .inl rfl⟩ (.cons ⟨rfl, .gone⟩ .nil))))))))) ?_
      · show AVal.int .i64 ((c.gates.length : Int) - 1) = .int .i64 ((c.gates.length : Int) - 1 - ((0 : Nat) : Int))
        congr 1; omega
      intro m g2
      have hsm := sweep_length c m
      rcases Nat.lt_or_ge m c.gates.length with hm | hm
      · obtain ⟨k, hk⟩ : ∃ k : Nat, (c.gates.length : Int) - 1 - m = k := ⟨c.gates.length - 1 - m, by omega⟩
        have hke : c.gates.length - 1 - m = k := by omega
        have hsw : c.sweep (m + 1) = if (c.sweep m).getD k false = true then marks c.nv (c.sweep m) [(c.gates.getD k (0, 0)).1, (c.gates.getD k (0, 0)).2] else c.sweep m := by rw [Cir.sweep, hke]
        rw [hk]
        conv => whnf
        repeat' first | (refine Gets.of _ rfl ?_; conv => whnf) | (refine Gets.ix1 rfl rfl (by omega) ?_; conv => whnf) | (refine Gets.ldB rfl (by first | rfl | assumption) (by first | omega | exact Nat.le_of_ble_eq_true rfl) ?_; conv => whnf) | (refine Fork.dec (fun _ => ?_) (fun _ => ?_) <;> first | (exfalso; omega) | (conv => whnf))
        have hgo := ho.g k (by omega)
        unfold Cir.GateOk inR Cir.own at hgo
        have hk9 : ((c.gates.length : Int) - 1 - ((m + 1 : Nat) : Int)) = (k : Int) - 1 := by omega
        cases hb : (c.sweep m).getD k false
        · rw [hb, if_neg (by simp)] at hsw
          conv => whnf
          repeat' ((with_reducible refine Gets.subI ?_ ?_ ?_); (· omega); (· omega); conv => whnf)
          refine ⟨m + 1, renL [0, 1, 2, 3, 4, 5, 6, 7] 8, by omega, by omega, ⟨rfl, rfl, rfl, ?_, trivial⟩, ?_⟩
          · rw [hk9]; rfl
          · rw [hsw]
            exact EmbL.litsN [0, 1, 2, 3, 4, 5, 6, 7] rfl rfl rfl rfl (.cons ⟨rfl, .inl ⟨rfl, fun h => h⟩⟩ (.cons ⟨rfl, .inl ⟨rfl, fun h => h⟩⟩ (.cons ⟨rfl, .inl ⟨rfl, fun h => h⟩⟩ .nil))) (.cons ⟨rfl, .roI⟩ (.cons ⟨rfl, .roI⟩ (.cons ⟨rfl, .roI⟩ (.cons ⟨rfl, .inl rfl⟩ (.cons ⟨rfl, .inl rfl⟩ (.cons ⟨rfl, .cellsB⟩ (.cons ⟨rfl, .inl rfl⟩ (.cons ⟨rfl, .gone⟩ .nil))))))))
        · rw [hb, if_pos rfl] at hsw
          have hs1 : (markL c.nv (c.sweep m) (c.gates.getD k (0, 0)).1).length = c.gates.length := by rw [markL_length]; exact hsm
          have hkG : k < c.gates.length := by omega
          conv => whnf
          repeat' first | ((refine Gets.ldPA (j := k) (l := c.gates) rfl rfl rfl hkG ?_); conv => whnf) | (refine Gets.of _ rfl ?_; conv => whnf) | (refine Gets.ixEv (es := 2) rfl rfl (by omega) ?_; conv => whnf)
          refine CallS.of (by kernel_rfl) ((use73 c.nv c.gates.length _ hsm (c.gates.getD k (0, 0)).1 (by omega) (by omega) (by omega) (by omega)).frameQ [4, 6, 5] rfl (.cons ⟨rfl, .inl rfl⟩ (.cons ⟨rfl, .inl rfl⟩ (.cons ⟨rfl, .cellsB⟩ .nil))) ?_) rfl ?_
          · rintro _ _ ⟨rfl, k', rfl⟩
            repeat first | exact .nil | refine .cons (by first | exact .inr rfl | exact .inl rfl) ?_
          rintro _ _ ⟨_, _, ⟨rfl, k', rfl⟩, rfl, rfl⟩
          conv => whnf
          repeat' first | ((refine Gets.ldPB (j := k) (l := c.gates) rfl rfl rfl hkG ?_); conv => whnf) | (refine Gets.of _ rfl ?_; conv => whnf) | (refine Gets.ixEv (es := 2) rfl rfl (by omega) ?_; conv => whnf)
          refine CallS.of (by kernel_rfl) ((use73 c.nv c.gates.length _ hs1 (c.gates.getD k (0, 0)).2 (by omega) (by omega) (by omega) (by omega)).frameQ [4, 6, 5] rfl (.cons ⟨rfl, .inl rfl⟩ (.cons ⟨rfl, .inl rfl⟩ (.cons ⟨rfl, .cellsBr⟩ .nil))) ?_) rfl ?_
          · rintro _ _ ⟨rfl, k', rfl⟩
            repeat first | exact .nil | refine .cons (by first | exact .inr rfl | exact .inl rfl) ?_
          rintro _ _ ⟨_, _, ⟨rfl, k'', rfl⟩, rfl, rfl⟩
          conv => whnf
          repeat' ((with_reducible refine Gets.subI ?_ ?_ ?_); (· omega); (· omega); conv => whnf)
          refine ⟨m + 1, renL [0, 1, 2, 3, 4, 5, 6, 7] 8, by omega, by omega, ⟨rfl, rfl, rfl, ?_, trivial⟩, ?_⟩
          · rw [hk9]; rfl
          · rw [hsw]
            exact EmbL.litsN [0, 1, 2, 3, 4, 5, 6, 7] rfl rfl rfl rfl (.cons ⟨rfl, .inl ⟨rfl, fun h => h⟩⟩ (.cons ⟨rfl, .inl ⟨rfl, fun h => h⟩⟩ (.cons ⟨rfl, .inl ⟨rfl, fun h => h⟩⟩ .nil))) (.cons ⟨rfl, .roI⟩ (.cons ⟨rfl, .roI⟩ (.cons ⟨rfl, .roI⟩ (.cons ⟨rfl, .inl rfl⟩ (.cons ⟨rfl, .inl rfl⟩ (.cons ⟨rfl, .cellsBr⟩ (.cons ⟨rfl, .inl rfl⟩ (.cons ⟨rfl, .gone⟩ .nil))))))))
      · obtain rfl : m = c.gates.length := by omega
        rw [show (c.gates.length : Int) - 1 - (c.gates.length : Nat) = -1 by omega]
        conv => whnf
        repeat' first | (refine Gets.of _ rfl ?_; conv => whnf) | (refine Fork.dec (fun _ => ?_) (fun _ => ?_) <;> first | (exfalso; omega) | (conv => whnf))
        exact ⟨renL [0, 1, 2, 5] 8, .tuple [.slice 3 0 c.gates.length, .int .i64 0], c.heap.alloc (.cells 1 (bls c.usedL)), EmbL.litsN [0, 1, 2, 5] rfl rfl rfl rfl (.cons ⟨rfl, .inl ⟨rfl, fun h => h⟩⟩ (.cons ⟨rfl, .inl ⟨rfl, fun h => h⟩⟩ (.cons ⟨rfl, .inl ⟨rfl, fun h => h⟩⟩ .nil))) (.cons ⟨rfl, .roI⟩ (.cons ⟨rfl, .roI⟩ (.cons ⟨rfl, .roI⟩ (.cons ⟨rfl, .cellsB⟩ .nil)))), rfl, rfl, rfl⟩
end Go.Proofs.Ytmghlldboiplpaa
