/- Circuits side by side, as the reference searches. -/
import Derived.Test.YtmghlldboiplpaaStp
import Derived.Test.YtmghlldboiplpaaVkF
set_option linter.unusedVariables false
set_option linter.unusedSimpArgs false
set_option maxRecDepth 100000
set_option maxHeartbeats 1000000
namespace Go.Proofs.Ytmghlldboiplpaa
open Go Go.Vh Go.Vk Go.Proofs
/-- The inputs that lead to a node. -/
theorem path60 (l : List Nd) (hb : Back l) (hl : l.length ≤ 4294967296) : ∀ k, k < l.length → CallW Try.prog 60 [.slice 0 0 l.length, .int .i64 k] (emptyH.alloc (.ro 4 (ints (qflat l)))) fun v H' => v = oI 1 (wayOf l (k + 1) k) ∧ H' = (emptyH.alloc (.ro 4 (ints (qflat l)))).alloc (oIB (wayOf l (k + 1) k)) := by
  intro k
  induction k using Nat.strongRecOn with
  | ind k ih =>
  intro hk
  have hbk := hb k hk
  have hw : wayOf l (k + 1) k = if (l.getD k default).fr < 0 then [] else wayOf l k (l.getD k default).fr.toNat ++ [((l.getD k default).inp : Int)] := rfl
  have hlive : (ABlk.ro 4 (ints (qflat l))).live := live_of_ints (b := .ro 4 (ints (qflat l))) rfl (qflat_pos (by omega))
  refine CallW.symRK (cuts := []) Try.func60 rfl (by kernel_rfl) ?_
  conv => whnf
  repeat' first | ((refine Gets.ixE (es := 4) rfl rfl (by omega) ?_); conv => whnf) | ((refine Gets.ldQf (j := k) (f := 2) (x := (l.getD k default).fr) rfl rfl rfl hk (by decide) rfl ?_); conv => whnf) | (refine Fork.dec (fun _ => ?_) (fun _ => ?_) <;> first | (exfalso; omega) | (conv => whnf))
  · rename_i h
    rw [if_pos h] at hw
    rw [hw]
    exact ⟨renL [0, 0] 1, .nilSlice, (emptyH.alloc (.ro 4 (ints (qflat l)))).alloc .dead, EmbL.lits [0, 0] rfl rfl rfl rfl (.cons ⟨rfl, .inl ⟨rfl, fun h => h⟩⟩ .nil) (.cons ⟨rfl, .roI⟩ (.cons ⟨rfl, .gone⟩ .nil)), rfl, rfl, rfl⟩
  · rename_i h
    rw [if_neg h] at hw
    obtain ⟨f, hf⟩ := Int.eq_ofNat_of_zero_le (show 0 ≤ (l.getD k default).fr by omega)
    have hfk : f < k := by omega
    have hmore : ∀ n, f < n → n ≤ k → wayOf l n f = wayOf l (f + 1) f := by
      intro n h1 h2
      induction n with
      | zero => omega
      | succ n ihn =>
        rcases Nat.eq_or_lt_of_le (show f ≤ n by omega) with h3 | h3
        · rw [h3]
        · rw [wayOf_more hb n f (by omega) h3]
          exact ihn h3 (by omega)
    rw [hf, show ((f : Int)).toNat = f from rfl, hmore k hfk (Nat.le_refl _)] at hw
    have ihf := ih f hfk (by omega)
    have hWl := wayOf_len hb (f + 1) f (by omega)
    generalize wayOf l (f + 1) f = W at *
    rcases W with _ | ⟨y, W⟩
    · refine CodeS.drawT [0] (.take 0 (.take 1 (.take 2 (.take 3 (.take 4 (.take 5 (.take 7 (.take 8 (.take 9 (.take 10 (.take 11 (.two (.one 6 true (.one 12 true (.one 13 true (.take 14 .done)))) (.one 12 true (.one 6 true (.one 13 true (.take 14 .done)))))))))))))))) mixed (by kernel_rfl) (.cons ⟨rfl, hlive⟩ .nil) ?_
      conv => whnf
      repeat' first | ((refine Gets.ixE (es := 4) rfl rfl (by omega) ?_); conv => whnf) | ((refine Gets.ldQf (j := k) (f := 2) (x := (f : Int)) rfl rfl rfl hk (by decide) (by show some (l.getD k default).fr = _; rw [hf]) ?_); conv => whnf) | ((refine Gets.ldQf (j := k) (f := 3) (x := ((l.getD k default).inp : Int)) rfl rfl rfl hk (by decide) rfl ?_); conv => whnf) | (refine Chk.mk (by repeat first | exact .nil | refine .cons rfl ?_) ?_; conv => whnf) | (refine Alls.mk ?_ ?_ <;> conv => whnf)
      all_goals
        refine CallPS.of (by kernel_rfl) (ihf.frameQ [0] rfl (.cons ⟨rfl, .roI⟩ .nil) (by rintro _ _ ⟨rfl, rfl⟩; repeat first | exact .nil | refine .cons (by first | exact .inr rfl | exact .inl rfl | exact .inr (fresh_oN _) | exact .inr (fresh_oP _) | exact .inr (fresh_oI _)) ?_)) rfl ?_
        rintro _ _ ⟨_, _, ⟨rfl, rfl⟩, rfl, rfl⟩
        conv => whnf
        repeat' first | (refine Gets.of _ rfl ?_; conv => whnf) | (refine Chk.mk (by repeat first | exact .nil | refine .cons rfl ?_) ?_; conv => whnf)
        rw [hw]
        refine ⟨renL [0, 3] 4, oI 1 ([] ++ [((l.getD k default).inp : Int)]), (emptyH.alloc (.ro 4 (ints (qflat l)))).alloc (oIB ([] ++ [((l.getD k default).inp : Int)])), EmbL.litsN [0, 3] rfl rfl rfl rfl (.cons ⟨rfl, .inl ⟨rfl, fun h => h⟩⟩ .nil) (.cons ⟨rfl, .roI⟩ (.cons ⟨rfl, .inl rfl⟩ .nil)), ?_, rfl, rfl⟩
        show AVal.slice 3 0 _ = AVal.slice 3 0 _
        exact congrArg (AVal.slice 3 0) rfl
    · refine CodeS.drawT [0] (.take 0 (.take 1 (.take 2 (.take 3 (.take 4 (.take 5 (.take 7 (.take 8 (.take 9 (.take 10 (.take 11 (.two (.one 6 true (.one 12 true (.one 13 true (.take 14 .done)))) (.one 12 true (.one 6 true (.one 13 true (.take 14 .done)))))))))))))))) mixed (by kernel_rfl) (.cons ⟨rfl, hlive⟩ .nil) ?_
      conv => whnf
      repeat' first | ((refine Gets.ixE (es := 4) rfl rfl (by omega) ?_); conv => whnf) | ((refine Gets.ldQf (j := k) (f := 2) (x := (f : Int)) rfl rfl rfl hk (by decide) (by show some (l.getD k default).fr = _; rw [hf]) ?_); conv => whnf) | ((refine Gets.ldQf (j := k) (f := 3) (x := ((l.getD k default).inp : Int)) rfl rfl rfl hk (by decide) rfl ?_); conv => whnf) | (refine Chk.mk (by repeat first | exact .nil | refine .cons rfl ?_) ?_; conv => whnf) | (refine Alls.mk ?_ ?_ <;> conv => whnf)
      all_goals
        refine CallPS.of (by kernel_rfl) (ihf.frameQ [0] rfl (.cons ⟨rfl, .roI⟩ .nil) (by rintro _ _ ⟨rfl, rfl⟩; repeat first | exact .nil | refine .cons (by first | exact .inr rfl | exact .inl rfl | exact .inr (fresh_oN _) | exact .inr (fresh_oP _) | exact .inr (fresh_oI _)) ?_)) rfl ?_
        rintro _ _ ⟨_, _, ⟨rfl, rfl⟩, rfl, rfl⟩
        conv => whnf
        repeat' first | ((refine Gets.appI1 (ti := tiI) (l := (y :: W)) (x := ((l.getD k default).inp : Int)) rfl rfl rfl rfl rfl (by decide) (congrArg (ABlk.cells 1) (rens_ints _ _)) rfl rfl (by omega) ?_); conv => whnf) | (refine Chk.mk (by repeat first | exact .nil | refine .cons rfl ?_) ?_; conv => whnf)
        rw [hw]
        refine ⟨renL [0, 3] 4, oI 1 ((y :: W) ++ [((l.getD k default).inp : Int)]), (emptyH.alloc (.ro 4 (ints (qflat l)))).alloc (oIB ((y :: W) ++ [((l.getD k default).inp : Int)])), EmbL.litsN [0, 3] rfl rfl rfl rfl (.cons ⟨rfl, .inl ⟨rfl, fun h => h⟩⟩ .nil) (.cons ⟨rfl, .roI⟩ (.cons ⟨rfl, .toIc⟩ .nil)), ?_, rfl, rfl⟩
        show AVal.slice 3 0 _ = AVal.slice 3 0 _
        exact congrArg (AVal.slice 3 0) (by simp)
def c2 (c d : Cir) : AHeap := ((c.heap.alloc (.ro 1 (ints d.latch))).alloc (.ro 2 (ints (pflat d.gates)))).alloc (.ro 1 (ints d.out))
def Cir.boxD (d : Cir) : ABlk := .cells 1 [.int .i64 d.inp, .view 3 0 d.latch.length, .view 4 0 d.gates.length, .view 5 0 d.out.length]
def two (c d : Cir) : Two := ⟨fun i s => c.nxt i s, fun i s => d.nxt i s, fun i s => c.outv i s, fun i s => d.outv i s, c.many⟩
theorem step59d (d : Cir) (ho : d.Ok) (inp st : Nat) (hi : inp < 4294967296) (hst : st < 4294967296) (H : AHeap) (hn : Nat.ble 6 H.n = true) (h0 : H.f 3 = .ro 1 (ints d.latch)) (h1 : H.f 4 = .ro 2 (ints (pflat d.gates))) (h2 : H.f 5 = .ro 1 (ints d.out)) : CallW Try.prog 59 [d.av 3 4 5, .int .i64 st, .int .i64 inp] H fun v H' => H' = H ∧ v = .tuple [.int .i64 (d.outv inp st : Nat), .int .i64 (d.nxt inp st : Nat)] := by
  have hn := Nat.le_of_ble_eq_true hn
  refine (step59 d ho inp st hi hst).readsL (by rintro _ rfl; rfl) [3, 4, 5] rfl (.cons ⟨Nat.ble_eq_true_of_le (show 4 ≤ H.n by omega), rfl, ?_⟩ (.cons ⟨Nat.ble_eq_true_of_le (show 5 ≤ H.n by omega), rfl, ?_⟩ (.cons ⟨Nat.ble_eq_true_of_le (show 6 ≤ H.n by omega), rfl, ?_⟩ .nil)))
  · show BSub _ _ (H.f 3); rw [h0]; exact .roI
  · show BSub _ _ (H.f 4); rw [h1]; exact .roI
  · show BSub _ _ (H.f 5); rw [h2]; exact .roI
def apH (c d : Cir) (l : List Nd) : AHeap := ((((c2 c d).alloc c.box).alloc d.boxD).alloc (.cells 1 (bls (seenL (c.B * d.B) (codes c.B l))))).alloc (.cells 4 (ints (qflat l)))
theorem apart35 (c d : Cir) (hc : c.Ok) (hd : d.Ok) (hcL : c.latch.length ≤ 12) (hdL : d.latch.length ≤ 12) : CallW Try.prog 35 [c.av 0 1 2, d.av 3 4 5] (c2 c d) fun v H' => ∃ r, (two c d).IsApart r ∧ v = .tuple [oI 6 (r.getD []), .bool r.isSome] ∧ H' = (c2 c d).alloc (oIB (r.getD [])) := by
  obtain ⟨a1, a2, a3, a4, a5⟩ := hc.s
  obtain ⟨b1, b2, b3, b4, b5⟩ := hd.s
  have hA : c.B ≤ 4096 := Nat.le_trans (Nat.pow_le_pow_right (by decide) hcL) (by decide)
  have hB : d.B ≤ 4096 := Nat.le_trans (Nat.pow_le_pow_right (by decide) hdL) (by decide)
  have hA0 : 0 < c.B := Nat.pow_pos (by decide)
  have hB0 : 0 < d.B := Nat.pow_pos (by decide)
  have hAB : c.B * d.B ≤ 4096 * 4096 := Nat.mul_le_mul hA hB
  have hAB0 : 0 < c.B * d.B := Nat.mul_pos hA0 hB0
  have hABe : c.B * d.B = 2 ^ (c.latch.length + d.latch.length) := by rw [Nat.pow_add]; rfl
  have hm8 : c.many ≤ 8 := by
    have : c.inp.toNat ≤ 3 := by omega
    exact Nat.le_trans (Nat.pow_le_pow_right (by decide) this) (by decide)
  have hmany : c.many = 2 ^ c.inp.toNat := rfl
  refine CallW.symRK (cuts := []) Try.func35 rfl (by kernel_rfl) ?_
  conv => whnf
  repeat' first | ((refine Gets.addN (by omega) ?_); conv => whnf) | ((with_reducible refine Gets.shlN ?_ ?_); (· omega); conv => whnf) | (refine Gets.of _ rfl ?_; conv => whnf)
  rw [← hABe]
  refine Gets.makeB (k := 1) (ti := tiB) (by kernel_rfl) rfl (by decide) rfl (by decide) (by omega) (by omega) ?_
  rw [Int.toNat_natCast, Nat.mul_one, seenL_zero]
  conv => whnf
  repeat' first | ((refine Gets.ix1 (j := 0) rfl rfl (by omega) ?_); conv => whnf) | ((refine Gets.stSeen rfl rfl hAB0 ?_); conv => whnf)
  refine CodeS.loopGK (cuts := []) (σ := Nat) (fun k => [(2, .ptr 6 0), (3, .ptr 7 0), (6, .slice 8 0 (c.B * d.B)), (7, .slice 9 0 ((two c d).nds k).length), (8, .int .i64 k)]) (fun k => apH c d ((two c d).nds k)) (fun k => k ≤ ((two c d).nds k).length ∧ ∀ k', k' < k → (two c d).diff k' = none) (fun k => 16777217 - k) 0 (renL [0, 1, 2, 3, 4, 5, 6, 7, 8, 9] 10) (by kernel_rfl) ⟨Nat.zero_le _, fun k' h => by omega⟩ ⟨rfl, rfl, rfl, rfl, rfl, trivial⟩ (EmbL.litsN [0, 1, 2, 3, 4, 5, 6, 7, 8, 9] rfl rfl rfl rfl (.cons ⟨rfl, .inl ⟨rfl, fun h => h⟩⟩ (.cons ⟨rfl, .inl ⟨rfl, fun h => h⟩⟩ (.cons ⟨rfl, .inl ⟨rfl, fun h => h⟩⟩ (.cons ⟨rfl, .inl ⟨rfl, fun h => h⟩⟩ (.cons ⟨rfl, .inl ⟨rfl, fun h => h⟩⟩ (.cons ⟨rfl, .inl ⟨rfl, fun h => h⟩⟩ .nil)))))) (.cons ⟨rfl, .roI⟩ (.cons ⟨rfl, .roI⟩ (.cons ⟨rfl, .roI⟩ (.cons ⟨rfl, .roI⟩ (.cons ⟨rfl, .roI⟩ (.cons ⟨rfl, .roI⟩ (.cons ⟨rfl, .inl rfl⟩ (.cons ⟨rfl, .inl rfl⟩ (.cons ⟨rfl, .cellsBe rfl⟩ (.cons ⟨rfl, .inl rfl⟩ .nil))))))))))) ?_
  rintro k ⟨g1, g2⟩
  have hlen : ((two c d).nds k).length ≤ c.B * d.B := nodes_len hA0 hB0 (fun i s => nxt_lt c i s) (fun i s => nxt_lt d i s) k
  have hok : ∀ x ∈ (two c d).nds k, x.a < c.B ∧ x.b < d.B := nodes_ok hA0 hB0 (fun i s => nxt_lt c i s) (fun i s => nxt_lt d i s) k
  have hback : Back ((two c d).nds k) := nodes_back _ _ _ k
  have hnd : (pairsOf ((two c d).nds k)).Nodup := nodes_nodup _ _ _ k
  have hdiff : (two c d).diff k = (List.range c.many).find? fun i => c.outv i (((two c d).nds k).getD k default).a != d.outv i (((two c d).nds k).getD k default).b := rfl
  have hnext : k < ((two c d).nds k).length → (two c d).nds (k + 1) = insPN (fun i => c.nxt i (((two c d).nds k).getD k default).a) (fun i => d.nxt i (((two c d).nds k).getD k default).b) k ((two c d).nds k) c.many := fun h => if_pos h
  generalize hL : (two c d).nds k = L at *
  conv => whnf
  repeat' first | ((refine Gets.ixE (es := 4) rfl rfl (by omega) ?_); conv => whnf) | ((refine Gets.ldQ (ti := tiQ) rfl rfl rfl rfl (by omega) ?_); conv => whnf) | ((with_reducible refine Gets.shlI ?_ ?_ ?_); (· omega); (· omega); conv => whnf) | (refine Gets.of _ rfl ?_; conv => whnf) | (refine Fork.dec (fun _ => ?_) (fun _ => ?_) <;> first | (exfalso; omega) | (conv => whnf))
  · have hk : k < L.length := by omega
    have hx := hok _ (getD_memL (d := default) hk)
    have hnext := hnext hk
    rw [← hmany]
    generalize hxe : L.getD k default = x at *
    refine CodeS.loopGK (cuts := []) (σ := Nat) (fun j => [(2, .ptr 6 0), (3, .ptr 7 0), (6, .slice 8 0 (c.B * d.B)), (7, .slice 9 0 L.length), (8, .int .i64 k), (9, .ptr 10 0), (46, .int .i64 c.many), (47, .int .i64 j)]) (fun _ => (apH c d L).alloc (.cells 1 (ints x.l))) (fun j => j ≤ c.many ∧ ∀ i, i < j → (c.outv i x.a != d.outv i x.b) = false) (fun j => c.many - j) 0 (renL [0, 1, 2, 3, 4, 5, 6, 7, 8, 9, 10] 11) (by kernel_rfl) ⟨Nat.zero_le _, fun i h => by omega⟩ ⟨rfl, rfl, rfl, rfl, rfl, rfl, rfl, rfl, trivial⟩ (EmbL.litsN [0, 1, 2, 3, 4, 5, 6, 7, 8, 9, 10] rfl rfl rfl rfl (.cons ⟨rfl, .inl ⟨rfl, fun h => h⟩⟩ (.cons ⟨rfl, .inl ⟨rfl, fun h => h⟩⟩ (.cons ⟨rfl, .inl ⟨rfl, fun h => h⟩⟩ (.cons ⟨rfl, .inl ⟨rfl, fun h => h⟩⟩ (.cons ⟨rfl, .inl ⟨rfl, fun h => h⟩⟩ (.cons ⟨rfl, .inl ⟨rfl, fun h => h⟩⟩ .nil)))))) (.cons ⟨rfl, .roI⟩ (.cons ⟨rfl, .roI⟩ (.cons ⟨rfl, .roI⟩ (.cons ⟨rfl, .roI⟩ (.cons ⟨rfl, .roI⟩ (.cons ⟨rfl, .roI⟩ (.cons ⟨rfl, .inl rfl⟩ (.cons ⟨rfl, .inl rfl⟩ (.cons ⟨rfl, .cellsB⟩ (.cons ⟨rfl, .cellsI⟩ (.cons ⟨rfl, .inl rfl⟩ .nil)))))))))))) ?_
    rintro j ⟨g3, g4⟩
    conv => whnf
    repeat' first | ((with_reducible refine Gets.shlI ?_ ?_ ?_); (· omega); (· omega); conv => whnf) | (refine Gets.of _ rfl ?_; conv => whnf) | (refine Fork.dec (fun _ => ?_) (fun _ => ?_) <;> first | (exfalso; omega) | (conv => whnf))
    · refine CallS.of (by kernel_rfl) (step59c c hc j x.a (by omega) (by omega) _ rfl rfl rfl rfl) rfl ?_
      rintro _ _ ⟨rfl, rfl⟩
      conv => whnf
      repeat' (refine Gets.of _ rfl ?_; conv => whnf)
      refine CallS.of (by kernel_rfl) (step59d d hd j x.b (by omega) (by omega) _ rfl rfl rfl rfl) rfl ?_
      rintro _ _ ⟨rfl, rfl⟩
      conv => whnf
      repeat' first | ((with_reducible refine Gets.addI ?_ ?_ ?_); (· omega); (· omega); conv => whnf) | (refine Fork.neI (fun _ => ?_) (fun _ => ?_) <;> first | (exfalso; omega) | (conv => whnf))
      · rename_i hne
        have hapart : (two c d).IsApart (some (wayOf L (k + 1) k ++ [(j : Int)])) := by
          refine ⟨k, j, g2, by rw [hL]; exact hk, ?_, by rw [hL]⟩
          rw [hdiff]
          exact find_hit (by omega) (by rw [bne_iff_ne]; exact fun e => hne (by rw [e])) g4
        have pth := path60 L hback (by omega) k hk
        have hWl := wayOf_len hback (k + 1) k hk
        generalize wayOf L (k + 1) k = W at *
        rcases W with _ | ⟨y, W⟩
        · refine CallS.of (by kernel_rfl) (pth.frameQ [9] rfl (.cons ⟨rfl, .roCells⟩ .nil) (by rintro _ _ ⟨rfl, rfl⟩; repeat first | exact .nil | refine .cons (by first | exact .inr rfl | exact .inl rfl | exact .inr (fresh_oN _) | exact .inr (fresh_oP _) | exact .inr (fresh_oI _)) ?_)) rfl ?_
          rintro _ _ ⟨_, _, ⟨rfl, rfl⟩, rfl, rfl⟩
          conv => whnf
          repeat' (refine Gets.of _ rfl ?_; conv => whnf)
          refine ⟨renL [0, 1, 2, 3, 4, 5, 13] 14, .tuple [oI 6 ([] ++ [(j : Int)]), .bool true], (c2 c d).alloc (oIB ([] ++ [(j : Int)])), EmbL.litsN [0, 1, 2, 3, 4, 5, 13] rfl rfl rfl rfl (.cons ⟨rfl, .inl ⟨rfl, fun h => h⟩⟩ (.cons ⟨rfl, .inl ⟨rfl, fun h => h⟩⟩ (.cons ⟨rfl, .inl ⟨rfl, fun h => h⟩⟩ (.cons ⟨rfl, .inl ⟨rfl, fun h => h⟩⟩ (.cons ⟨rfl, .inl ⟨rfl, fun h => h⟩⟩ (.cons ⟨rfl, .inl ⟨rfl, fun h => h⟩⟩ .nil)))))) (.cons ⟨rfl, .roI⟩ (.cons ⟨rfl, .roI⟩ (.cons ⟨rfl, .roI⟩ (.cons ⟨rfl, .roI⟩ (.cons ⟨rfl, .roI⟩ (.cons ⟨rfl, .roI⟩ (.cons ⟨rfl, .inl rfl⟩ .nil))))))), ?_, some ([] ++ [(j : Int)]), hapart, rfl, rfl⟩
          show AVal.tuple [AVal.slice 13 0 _, _] = AVal.tuple [AVal.slice 13 0 _, _]
          exact congrArg (fun n => AVal.tuple [AVal.slice 13 0 n, .bool true]) rfl
        · refine CallS.of (by kernel_rfl) (pth.frameQ [9] rfl (.cons ⟨rfl, .roCells⟩ .nil) (by rintro _ _ ⟨rfl, rfl⟩; repeat first | exact .nil | refine .cons (by first | exact .inr rfl | exact .inl rfl | exact .inr (fresh_oN _) | exact .inr (fresh_oP _) | exact .inr (fresh_oI _)) ?_)) rfl ?_
          rintro _ _ ⟨_, _, ⟨rfl, rfl⟩, rfl, rfl⟩
          conv => whnf
          repeat' ((refine Gets.appI1 (ti := tiI) (l := (y :: W)) (x := (j : Int)) rfl rfl rfl rfl rfl (by decide) (congrArg (ABlk.cells 1) (rens_ints _ _)) rfl rfl (by omega) ?_); conv => whnf)
          refine ⟨renL [0, 1, 2, 3, 4, 5, 13] 14, .tuple [oI 6 ((y :: W) ++ [(j : Int)]), .bool true], (c2 c d).alloc (oIB ((y :: W) ++ [(j : Int)])), EmbL.litsN [0, 1, 2, 3, 4, 5, 13] rfl rfl rfl rfl (.cons ⟨rfl, .inl ⟨rfl, fun h => h⟩⟩ (.cons ⟨rfl, .inl ⟨rfl, fun h => h⟩⟩ (.cons ⟨rfl, .inl ⟨rfl, fun h => h⟩⟩ (.cons ⟨rfl, .inl ⟨rfl, fun h => h⟩⟩ (.cons ⟨rfl, .inl ⟨rfl, fun h => h⟩⟩ (.cons ⟨rfl, .inl ⟨rfl, fun h => h⟩⟩ .nil)))))) (.cons ⟨rfl, .roI⟩ (.cons ⟨rfl, .roI⟩ (.cons ⟨rfl, .roI⟩ (.cons ⟨rfl, .roI⟩ (.cons ⟨rfl, .roI⟩ (.cons ⟨rfl, .roI⟩ (.cons ⟨rfl, .toIc⟩ .nil))))))), ?_, some ((y :: W) ++ [(j : Int)]), hapart, rfl, rfl⟩
          show AVal.tuple [AVal.slice 13 0 _, _] = AVal.tuple [AVal.slice 13 0 _, _]
          exact congrArg (fun n => AVal.tuple [AVal.slice 13 0 n, .bool true]) (by simp)
      · rename_i heq
        exact ⟨j + 1, renL [0, 1, 2, 3, 4, 5, 6, 7, 8, 9, 10] 11, ⟨by omega, lt_succ_all g4 (by rw [bne_eq_false_iff_eq]; omega)⟩, by omega, ⟨rfl, rfl, rfl, rfl, rfl, rfl, rfl, rfl, trivial⟩, EmbL.litsN [0, 1, 2, 3, 4, 5, 6, 7, 8, 9, 10] rfl rfl rfl rfl (.cons ⟨rfl, .inl ⟨rfl, fun h => h⟩⟩ (.cons ⟨rfl, .inl ⟨rfl, fun h => h⟩⟩ (.cons ⟨rfl, .inl ⟨rfl, fun h => h⟩⟩ (.cons ⟨rfl, .inl ⟨rfl, fun h => h⟩⟩ (.cons ⟨rfl, .inl ⟨rfl, fun h => h⟩⟩ (.cons ⟨rfl, .inl ⟨rfl, fun h => h⟩⟩ .nil)))))) (.cons ⟨rfl, .roI⟩ (.cons ⟨rfl, .roI⟩ (.cons ⟨rfl, .roI⟩ (.cons ⟨rfl, .roI⟩ (.cons ⟨rfl, .roI⟩ (.cons ⟨rfl, .roI⟩ (.cons ⟨rfl, .inl rfl⟩ (.cons ⟨rfl, .inl rfl⟩ (.cons ⟨rfl, .cellsB⟩ (.cons ⟨rfl, .cellsI⟩ (.cons ⟨rfl, .inl rfl⟩ .nil)))))))))))⟩
    · have hj : j = c.many := by omega
      subst hj
      have hno : (two c d).diff k = none := by rw [hdiff]; exact find_miss g4
      rw [← hmany]
      refine CodeS.loopGK (cuts := []) (σ := Nat) (fun j => [(2, .ptr 6 0), (3, .ptr 7 0), (6, .slice 8 0 (c.B * d.B)), (7, .slice 9 0 (insPN (fun i => c.nxt i x.a) (fun i => d.nxt i x.b) k L j).length), (8, .int .i64 k), (9, .ptr 10 0), (78, .int .i64 c.many), (79, .int .i64 j)]) (fun j => (apH c d (insPN (fun i => c.nxt i x.a) (fun i => d.nxt i x.b) k L j)).alloc (.cells 1 (ints x.l))) (fun j => j ≤ c.many) (fun j => c.many - j) 0 (renL [0, 1, 2, 3, 4, 5, 6, 7, 8, 9, 10] 11) (by kernel_rfl) (Nat.zero_le _) ⟨rfl, rfl, rfl, rfl, rfl, rfl, rfl, rfl, trivial⟩ (EmbL.litsN [0, 1, 2, 3, 4, 5, 6, 7, 8, 9, 10] rfl rfl rfl rfl (.cons ⟨rfl, .inl ⟨rfl, fun h => h⟩⟩ (.cons ⟨rfl, .inl ⟨rfl, fun h => h⟩⟩ (.cons ⟨rfl, .inl ⟨rfl, fun h => h⟩⟩ (.cons ⟨rfl, .inl ⟨rfl, fun h => h⟩⟩ (.cons ⟨rfl, .inl ⟨rfl, fun h => h⟩⟩ (.cons ⟨rfl, .inl ⟨rfl, fun h => h⟩⟩ .nil)))))) (.cons ⟨rfl, .roI⟩ (.cons ⟨rfl, .roI⟩ (.cons ⟨rfl, .roI⟩ (.cons ⟨rfl, .roI⟩ (.cons ⟨rfl, .roI⟩ (.cons ⟨rfl, .roI⟩ (.cons ⟨rfl, .inl rfl⟩ (.cons ⟨rfl, .inl rfl⟩ (.cons ⟨rfl, .cellsBe rfl⟩ (.cons ⟨rfl, .cellsIe rfl⟩ (.cons ⟨rfl, .inl rfl⟩ .nil)))))))))))) ?_
      intro j g5
      have hok2 : ∀ y ∈ insPN (fun i => c.nxt i x.a) (fun i => d.nxt i x.b) k L j, y.a < c.B ∧ y.b < d.B := insPN_all hok j fun i _ => ⟨nxt_lt c _ _, nxt_lt d _ _⟩
      have hnd2 : (pairsOf (insPN (fun i => c.nxt i x.a) (fun i => d.nxt i x.b) k L j)).Nodup := insPN_nodup hnd j
      have hlen2 : (insPN (fun i => c.nxt i x.a) (fun i => d.nxt i x.b) k L j).length ≤ c.B * d.B := by
        have := pairs_len (A := c.B) (B := d.B) hnd2 fun p hp => by
          obtain ⟨y, hy, rfl⟩ := List.mem_map.1 hp
          exact hok2 y hy
        simpa [pairsOf] using this
      have hkl : k < (insPN (fun i => c.nxt i x.a) (fun i => d.nxt i x.b) k L j).length := Nat.lt_of_lt_of_le hk (insPN_len _ _ _ _ _)
      have hstep : insPN (fun i => c.nxt i x.a) (fun i => d.nxt i x.b) k L (j + 1) = insP (insPN (fun i => c.nxt i x.a) (fun i => d.nxt i x.b) k L j) ⟨c.nxt j x.a, d.nxt j x.b, k, j⟩ := rfl
      generalize hl2e : insPN (fun i => c.nxt i x.a) (fun i => d.nxt i x.b) k L j = l2 at *
      conv => whnf
      repeat' first | ((with_reducible refine Gets.addI ?_ ?_ ?_); (· omega); (· omega); conv => whnf) | (refine Gets.of _ rfl ?_; conv => whnf) | (refine Fork.dec (fun _ => ?_) (fun _ => ?_) <;> first | (exfalso; omega) | (conv => whnf))
      · refine CallS.of (by kernel_rfl) (step59c c hc j x.a (by omega) (by omega) _ rfl rfl rfl rfl) rfl ?_
        rintro _ _ ⟨rfl, rfl⟩
        conv => whnf
        repeat' (refine Gets.of _ rfl ?_; conv => whnf)
        refine CallS.of (by kernel_rfl) (step59d d hd j x.b (by omega) (by omega) _ rfl rfl rfl rfl) rfl ?_
        rintro _ _ ⟨rfl, rfl⟩
        have hs : c.nxt j x.a < c.B := nxt_lt c j x.a
        have ht : d.nxt j x.b < d.B := nxt_lt d j x.b
        generalize c.nxt j x.a = s at *
        generalize d.nxt j x.b = t at *
        have htA : t * c.B < 4096 * 4096 := Nat.mul_lt_mul_of_lt_of_le (by omega) hA (by omega)
        have hBe : c.B = 2 ^ c.latch.length := rfl
        have hcode : s + t * 2 ^ c.latch.length < c.B * d.B := by
          rw [← hBe]
          have : t * c.B + c.B ≤ d.B * c.B := by rw [← Nat.succ_mul]; exact Nat.mul_le_mul_right _ ht
          rw [Nat.mul_comm d.B] at this
          omega
        conv => whnf
        repeat' first | ((refine Gets.shlNN (by omega) (by rw [← hBe]; omega) ?_); conv => whnf) | ((refine Gets.addN (by rw [← hBe]; omega) ?_); conv => whnf) | (refine Gets.of _ rfl ?_; conv => whnf) | (refine Gets.ix1 rfl rfl (by omega) ?_; conv => whnf)
        have hcm : s + t * 2 ^ c.latch.length ∈ codes c.B l2 ↔ (s, t) ∈ pairsOf l2 := by
          rw [← hBe, Nat.mul_comm t]
          exact codes_mem (x := (s, t)) hA0 hs fun p hp => by
            obtain ⟨y, hy, rfl⟩ := List.mem_map.1 hp
            exact (hok2 y hy).1
        by_cases hmem : (s, t) ∈ pairsOf l2
        · repeat' first | ((refine Gets.ldSeenY rfl rfl hcode (hcm.2 hmem) ?_); conv => whnf) | ((with_reducible refine Gets.addI ?_ ?_ ?_); (· omega); (· omega); conv => whnf)
          have hs2 : insP l2 ⟨s, t, k, j⟩ = l2 := if_pos hmem
          refine ⟨j + 1, renL [0, 1, 2, 3, 4, 5, 6, 7, 8, 9, 10] 11, by omega, by omega, ⟨rfl, rfl, rfl, ?_, rfl, rfl, rfl, rfl, trivial⟩, ?_⟩
          all_goals rw [hstep, hs2]
          · rfl
          · exact EmbL.litsN [0, 1, 2, 3, 4, 5, 6, 7, 8, 9, 10] rfl rfl rfl rfl (.cons ⟨rfl, .inl ⟨rfl, fun h => h⟩⟩ (.cons ⟨rfl, .inl ⟨rfl, fun h => h⟩⟩ (.cons ⟨rfl, .inl ⟨rfl, fun h => h⟩⟩ (.cons ⟨rfl, .inl ⟨rfl, fun h => h⟩⟩ (.cons ⟨rfl, .inl ⟨rfl, fun h => h⟩⟩ (.cons ⟨rfl, .inl ⟨rfl, fun h => h⟩⟩ .nil)))))) (.cons ⟨rfl, .roI⟩ (.cons ⟨rfl, .roI⟩ (.cons ⟨rfl, .roI⟩ (.cons ⟨rfl, .roI⟩ (.cons ⟨rfl, .roI⟩ (.cons ⟨rfl, .roI⟩ (.cons ⟨rfl, .inl rfl⟩ (.cons ⟨rfl, .inl rfl⟩ (.cons ⟨rfl, .cellsB⟩ (.cons ⟨rfl, .cellsI⟩ (.cons ⟨rfl, .inl rfl⟩ .nil)))))))))))
        · repeat' first | ((refine Gets.ldSeenN rfl rfl hcode (fun h => hmem (hcm.1 h)) ?_); conv => whnf) | ((refine Gets.stSeen rfl rfl hcode ?_); conv => whnf) | ((refine Gets.appQ1 (ti := tiQ) (l := l2) (x := ⟨s, t, k, j⟩) rfl rfl rfl rfl rfl (by decide) rfl rfl rfl (by omega) ?_); conv => whnf) | ((with_reducible refine Gets.addI ?_ ?_ ?_); (· omega); (· omega); conv => whnf) | (refine Gets.ix1 rfl rfl (by omega) ?_; conv => whnf)
          have hs2 : insP l2 ⟨s, t, k, j⟩ = l2 ++ [⟨s, t, k, j⟩] := if_neg hmem
          refine ⟨j + 1, renL [0, 1, 2, 3, 4, 5, 6, 7, 8, 12, 10] 13, by omega, by omega, ⟨rfl, rfl, rfl, ?_, rfl, rfl, rfl, rfl, trivial⟩, ?_⟩
          all_goals rw [hstep, hs2]
          · rw [List.length_append]; rfl
          · exact EmbL.litsN [0, 1, 2, 3, 4, 5, 6, 7, 8, 12, 10] rfl rfl rfl rfl (.cons ⟨rfl, .inl ⟨rfl, fun h => h⟩⟩ (.cons ⟨rfl, .inl ⟨rfl, fun h => h⟩⟩ (.cons ⟨rfl, .inl ⟨rfl, fun h => h⟩⟩ (.cons ⟨rfl, .inl ⟨rfl, fun h => h⟩⟩ (.cons ⟨rfl, .inl ⟨rfl, fun h => h⟩⟩ (.cons ⟨rfl, .inl ⟨rfl, fun h => h⟩⟩ .nil)))))) (.cons ⟨rfl, .roI⟩ (.cons ⟨rfl, .roI⟩ (.cons ⟨rfl, .roI⟩ (.cons ⟨rfl, .roI⟩ (.cons ⟨rfl, .roI⟩ (.cons ⟨rfl, .roI⟩ (.cons ⟨rfl, .inl rfl⟩ (.cons ⟨rfl, .inl rfl⟩ (.cons ⟨rfl, .cellsBe (by rw [codes_append]; show _ = seenL _ (codes c.B l2 ++ [s + t * c.B]); rw [Nat.mul_comm t])⟩ (.cons ⟨rfl, .cellsI⟩ (.cons ⟨rfl, .inl rfl⟩ .nil)))))))))))
      · have hj : j = c.many := by omega
        subst hj
        rw [hl2e] at hnext
        refine ⟨k + 1, renL [0, 1, 2, 3, 4, 5, 6, 7, 8, 9] 11, ⟨?_, ?_⟩, by omega, ⟨rfl, rfl, rfl, ?_, rfl, trivial⟩, ?_⟩
        · rw [hnext]; omega
        · exact lt_succ_all g2 hno
        · rw [hnext]; rfl
        · rw [hnext]
          exact EmbL.litsN [0, 1, 2, 3, 4, 5, 6, 7, 8, 9] rfl rfl rfl rfl (.cons ⟨rfl, .inl ⟨rfl, fun h => h⟩⟩ (.cons ⟨rfl, .inl ⟨rfl, fun h => h⟩⟩ (.cons ⟨rfl, .inl ⟨rfl, fun h => h⟩⟩ (.cons ⟨rfl, .inl ⟨rfl, fun h => h⟩⟩ (.cons ⟨rfl, .inl ⟨rfl, fun h => h⟩⟩ (.cons ⟨rfl, .inl ⟨rfl, fun h => h⟩⟩ .nil)))))) (.cons ⟨rfl, .roI⟩ (.cons ⟨rfl, .roI⟩ (.cons ⟨rfl, .roI⟩ (.cons ⟨rfl, .roI⟩ (.cons ⟨rfl, .roI⟩ (.cons ⟨rfl, .roI⟩ (.cons ⟨rfl, .inl rfl⟩ (.cons ⟨rfl, .inl rfl⟩ (.cons ⟨rfl, .cellsB⟩ (.cons ⟨rfl, .cellsI⟩ .nil))))))))))
  · have hkl : L.length ≤ k := by omega
    refine ⟨renL [0, 1, 2, 3, 4, 5, 0] 10, .tuple [oI 6 [], .bool false], (c2 c d).alloc (oIB []), EmbL.lits [0, 1, 2, 3, 4, 5, 0] rfl rfl rfl rfl (.cons ⟨rfl, .inl ⟨rfl, fun h => h⟩⟩ (.cons ⟨rfl, .inl ⟨rfl, fun h => h⟩⟩ (.cons ⟨rfl, .inl ⟨rfl, fun h => h⟩⟩ (.cons ⟨rfl, .inl ⟨rfl, fun h => h⟩⟩ (.cons ⟨rfl, .inl ⟨rfl, fun h => h⟩⟩ (.cons ⟨rfl, .inl ⟨rfl, fun h => h⟩⟩ .nil)))))) (.cons ⟨rfl, .roI⟩ (.cons ⟨rfl, .roI⟩ (.cons ⟨rfl, .roI⟩ (.cons ⟨rfl, .roI⟩ (.cons ⟨rfl, .roI⟩ (.cons ⟨rfl, .roI⟩ (.cons ⟨rfl, .gone⟩ .nil))))))), rfl, none, ⟨k, g2, by rw [hL]; exact hkl⟩, rfl, rfl⟩
end Go.Proofs.Ytmghlldboiplpaa
