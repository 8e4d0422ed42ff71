/- opt.rebuilt: a circuit made anew. -/
import Derived.Test.YtmghlldboiplpaaOut
import Derived.Test.YtmghlldboiplpaaReb
import Derived.Test.YtmghlldboiplpaaVkG
set_option linter.unusedVariables false
set_option linter.unusedSimpArgs false
set_option maxRecDepth 100000
set_option maxHeartbeats 1000000
namespace Go.Proofs.Ytmghlldboiplpaa
open Go Go.Vh Go.Vk Go.Proofs
theorem maker56 (b : Int) : CallW Try.prog 56 [.int .i64 b, .ptr 0 2] (emptyH.alloc .dead) fun v H' => v = .func 74 [] [.ptr 4 0, .ptr 2 0, .ptr 1 0] ∧ H' = ((((emptyH.alloc .dead).alloc (.cells 1 [.int .i64 b])).alloc (.cells 1 [.ptr 0 2])).alloc (.map (mapOf kvP (entsF 0 [])))).alloc (.cells 1 [.map 3]) := by
  refine CallW.symRK (cuts := []) Try.func56 rfl (by kernel_rfl) ?_
  conv => whnf
  repeat' (refine Gets.of _ rfl ?_; conv => whnf)
  exact ⟨renL [0, 1, 2, 3, 4] 5, .func 74 [] [.ptr 4 0, .ptr 2 0, .ptr 1 0], ((((emptyH.alloc .dead).alloc (.cells 1 [.int .i64 b])).alloc (.cells 1 [.ptr 0 2])).alloc (.map (mapOf kvP (entsF 0 [])))).alloc (.cells 1 [.map 3]), EmbL.litsN [0, 1, 2, 3, 4] rfl rfl rfl rfl (.cons ⟨rfl, .inl ⟨rfl, fun h => h⟩⟩ .nil) (.cons ⟨rfl, .gone⟩ (.cons ⟨rfl, .inl rfl⟩ (.cons ⟨rfl, .inl rfl⟩ (.cons ⟨rfl, .inl rfl⟩ (.cons ⟨rfl, .inl rfl⟩ .nil))))), rfl, rfl, rfl⟩
theorem clone45l (l : List Nat) (hl : l.length ≤ 4294967296) (h0 : 0 < l.length) : CallW Try.prog 45 [.view 0 0 l.length] (emptyH.alloc (.ro 1 (nats l))) fun v H' => v = .slice 1 0 l.length ∧ H' = (emptyH.alloc (.ro 1 (nats l))).alloc (.cells 1 (nats l)) := by
  have h := clone45v (l.map fun n : Nat => (n : Int)) (by rw [List.length_map]; exact hl)
  rw [List.length_map] at h
  refine h.mono fun v G h => ?_
  rcases h with ⟨h, _⟩ | h
  · have := congrArg List.length h
    rw [List.length_map, List.length_nil] at this
    omega
  · exact h
noncomputable def Cir.rbH (c : Cir) (of0 keep : List Nat) : AHeap := (c.heap.alloc (.ro 1 (nats of0))).alloc (.ro 1 (nats keep))
noncomputable def rebH (c : Cir) (of0 keep of : List Nat) (n : Nat) (ls : List Int) (gs : List (Int × Int)) (os : List Int) : AHeap := ⟨17, fun i => match i with
  | 3 => .ro 1 (nats of0)
  | 4 => .ro 1 (nats keep)
  | 5 => c.box
  | 6 => .cells 1 [.slice 13 0 n]
  | 7 => .cells 1 [.int .i64 0, .nilSlice, .nilSlice, .nilSlice]
  | 8 => .cells 1 [.int .i64 c.inp, oI 15 ls, oP 14 gs, oI 16 os]
  | 9 => .cells 1 [.int .i64 ((c.inp.toNat + keep.length : Nat) : Int)]
  | 10 => .cells 1 [.ptr 8 2]
  | 11 => .map (mapOf kvP (entsF (c.inp.toNat + keep.length + 1) gs))
  | 12 => .cells 1 [.map 11]
  | 13 => .cells 1 (nats of)
  | 14 => oPB gs
  | 15 => oIB ls
  | 16 => oIB os
  | i => c.heap.f i, fun _ => 0⟩
theorem made_lt {c : Cir} {nb k : Nat} {st : List Nat × List (Int × Int)} (h : MadeOk c nb k st) (hb : nb + st.2.length ≤ 4294967296) : ∀ x ∈ st.1, x < 4611686018427387904 := by
  intro x hx
  obtain ⟨v, hv, rfl⟩ := List.getElem_of_mem hx
  have := h.b v (by rw [← h.n]; exact hv)
  rw [List.getD_eq_getElem?_getD, List.getElem?_eq_getElem hv] at this
  simp only [Option.getD_some] at this
  omega
theorem rebuilt31 (c : Cir) (hf : c.Fits) (ho : c.Ok) (of0 keep : List Nat) (h0 : OfOk c of0 (c.inp.toNat + keep.length + 1)) (hk : keep.length ≤ c.latch.length) (hk2 : ∀ k ∈ keep, k < c.latch.length) : CallW Try.prog 31 [c.av 0 1 2, .view 3 0 of0.length, .view 4 0 keep.length] (c.rbH of0 keep) fun v H' => v = (c.reb of0 keep).drop.avO 5 6 7 ∧ H' = (((c.rbH of0 keep).alloc (oIB (c.reb of0 keep).drop.latch)).alloc (oPB (c.reb of0 keep).drop.gates)).alloc (oIB (c.reb of0 keep).drop.out) := by
  obtain ⟨a1, a2, a3, a4, a5⟩ := ho.s
  have hnv : (c.nv : Int) = c.inp + c.latch.length + 1 := by unfold Cir.nv; omega
  have hof := h0.n
  refine CallW.symRK (cuts := []) Try.func31 rfl (by kernel_rfl) ?_
  conv => whnf
  repeat' first | ((with_reducible refine Gets.addI ?_ ?_ ?_); (· omega); (· omega); conv => whnf) | (refine Gets.of _ rfl ?_; conv => whnf)
  rw [show c.inp + (keep.length : Int) = ((c.inp.toNat + keep.length : Nat) : Int) by omega]
  refine CallS.of (by kernel_rfl) ((maker56 _).frameQ [8] rfl (.cons ⟨rfl, .gone⟩ .nil) (by rintro _ _ ⟨rfl, rfl⟩; repeat first | exact .nil | refine .cons (by first | exact .inr rfl | exact .inl rfl | exact .inr (fresh_oN _) | exact .inr (fresh_oP _) | exact .inr (fresh_oI _)) ?_)) rfl ?_
  rintro _ _ ⟨_, _, ⟨rfl, rfl⟩, rfl, rfl⟩
  conv => whnf
  repeat' (refine Gets.of _ rfl ?_; conv => whnf)
  refine CallS.of (by kernel_rfl) ((clone45l of0 (by omega) (by omega)).frameQ [3] rfl (.cons ⟨rfl, .roI⟩ .nil) (by rintro _ _ ⟨rfl, rfl⟩; repeat first | exact .nil | refine .cons (by first | exact .inr rfl | exact .inl rfl | exact .inr (fresh_oN _) | exact .inr (fresh_oP _) | exact .inr (fresh_oI _)) ?_)) rfl ?_
  rintro _ _ ⟨_, _, ⟨rfl, rfl⟩, rfl, rfl⟩
  conv => whnf
  repeat' (refine Gets.of _ rfl ?_; conv => whnf)
  refine CodeS.loopGK (cuts := []) (σ := Nat) (fun k => [(2, .view 4 0 keep.length), (3, .ptr 5 0), (4, .ptr 6 0), (6, .ptr 7 0), (7, .ptr 8 0), (8, .func 74 [] [.ptr 12 0, .ptr 10 0, .ptr 9 0]), (9, .func 57 [] [.ptr 6 0]), (30, .view 1 0 c.gates.length), (31, .int .i64 c.gates.length), (32, .int .i64 k)]) (fun k => rebH c of0 keep (c.made of0 (c.inp.toNat + keep.length + 1) k).1 (c.nv + k) [] (c.made of0 (c.inp.toNat + keep.length + 1) k).2 []) (fun k => k ≤ c.gates.length) (fun k => c.gates.length - k) 0 (renL [0, 1, 2, 3, 4, 5, 6, 7, 8, 9, 10, 11, 12, 13, 0, 0, 0] 14) (by kernel_rfl) (Nat.zero_le _) ⟨rfl, rfl, rfl, rfl, rfl, rfl, rfl, rfl, rfl, rfl, trivial⟩ (EmbL.lits [0, 1, 2, 3, 4, 5, 6, 7, 8, 9, 10, 11, 12, 13, 0, 0, 0] rfl rfl rfl rfl (.cons ⟨rfl, .inl ⟨rfl, fun h => h⟩⟩ (.cons ⟨rfl, .inl ⟨rfl, fun h => h⟩⟩ (.cons ⟨rfl, .inl ⟨rfl, fun h => h⟩⟩ (.cons ⟨rfl, .inl ⟨rfl, fun h => h⟩⟩ (.cons ⟨rfl, .inl ⟨rfl, fun h => h⟩⟩ .nil))))) (.cons ⟨rfl, .roI⟩ (.cons ⟨rfl, .roI⟩ (.cons ⟨rfl, .roI⟩ (.cons ⟨rfl, .roI⟩ (.cons ⟨rfl, .roI⟩ (.cons ⟨rfl, .inl rfl⟩ (.cons ⟨rfl, .inl (congrArg (fun n => ABlk.cells 1 [.slice 13 0 n]) hof)⟩ (.cons ⟨rfl, .inl rfl⟩ (.cons ⟨rfl, .inl rfl⟩ (.cons ⟨rfl, .inl rfl⟩ (.cons ⟨rfl, .inl rfl⟩ (.cons ⟨rfl, .inl rfl⟩ (.cons ⟨rfl, .inl rfl⟩ (.cons ⟨rfl, .cellsNr rfl⟩ (.cons ⟨rfl, .gone⟩ (.cons ⟨rfl, .gone⟩ (.cons ⟨rfl, .gone⟩ .nil)))))))))))))))))) ?_
  intro k g2
  have hok := made_ok (ok_below ho) h0 k g2
  rcases Nat.lt_or_ge k c.gates.length with hkl | hkl
  · have hgo := ho.g k hkl
    unfold Cir.GateOk inR Cir.own at hgo
    obtain ⟨hb1, hb2⟩ := ok_below ho k hkl
    have hla := litN_top hok hb1
    have hlb := litN_top hok hb2
    have hml := made_lt hok (by have := hok.l; omega)
    have hsucc : c.made of0 (c.inp.toNat + keep.length + 1) (k + 1) = ((c.made of0 (c.inp.toNat + keep.length + 1) k).1 ++ [(mkN (c.inp.toNat + keep.length + 1) (c.made of0 (c.inp.toNat + keep.length + 1) k).2 (litN (c.made of0 (c.inp.toNat + keep.length + 1) k).1 (c.gates.getD k (0, 0)).1) (litN (c.made of0 (c.inp.toNat + keep.length + 1) k).1 (c.gates.getD k (0, 0)).2)).1], (mkN (c.inp.toNat + keep.length + 1) (c.made of0 (c.inp.toNat + keep.length + 1) k).2 (litN (c.made of0 (c.inp.toNat + keep.length + 1) k).1 (c.gates.getD k (0, 0)).1) (litN (c.made of0 (c.inp.toNat + keep.length + 1) k).1 (c.gates.getD k (0, 0)).2)).2) := rfl
    obtain ⟨hl1, _, _, hl2⟩ := hok
    generalize (c.made of0 (c.inp.toNat + keep.length + 1) k).1 = of at *
    generalize (c.made of0 (c.inp.toNat + keep.length + 1) k).2 = gs at *
    conv => whnf
    repeat' first | (refine Gets.of _ rfl ?_; conv => whnf) | (refine Gets.ixEv (es := 2) rfl rfl (by omega) ?_; conv => whnf) | (refine Gets.ldP (ti := tiP) rfl rfl rfl (by first | rfl | assumption) (by first | omega | exact Nat.le_of_ble_eq_true rfl) ?_; conv => whnf) | (refine Fork.dec (fun _ => ?_) (fun _ => ?_) <;> first | (exfalso; omega) | (conv => whnf))
    generalize (c.gates.getD k (0, 0)).1 = ga at *
    generalize (c.gates.getD k (0, 0)).2 = gb at *
    obtain ⟨a, rfl⟩ := Int.eq_ofNat_of_zero_le hgo.1.1
    obtain ⟨b, rfl⟩ := Int.eq_ofNat_of_zero_le hgo.2.1
    refine CodeS.drawT [6, 17] (.take 0 (.take 1 (.take 2 (.take 3 (.take 4 (.take 6 (.take 7 (.take 8 (.one 5 true (.one 9 true (.one 10 true (.one 11 true (.one 12 true (.one 13 false .done)))))))))))))) mixed (by kernel_rfl) (.cons ⟨rfl, trivial⟩ (.cons ⟨rfl, trivial⟩ .nil)) ?_
    conv => whnf
    repeat' (refine Gets.of _ rfl ?_; conv => whnf)
    refine CallPS.of (by kernel_rfl) (lit57 of (c.nv + k) hl1 a (by omega) hml (by omega) _ 6 13 rfl rfl) rfl ?_
    rintro _ _ ⟨rfl, rfl⟩
    conv => whnf
    repeat' (refine Chk.mk (by repeat first | exact .nil | refine .cons rfl ?_) ?_; conv => whnf)
    refine CallPS.of (by kernel_rfl) (lit57 of (c.nv + k) hl1 b (by omega) hml (by omega) _ 6 13 rfl rfl) rfl ?_
    rintro _ _ ⟨rfl, rfl⟩
    generalize litN of (a : Int) = la at *
    generalize litN of (b : Int) = lb at *
    conv => whnf
    repeat' (refine Chk.mk (by repeat first | exact .nil | refine .cons rfl ?_) ?_; conv => whnf)
    refine CallPS.of (by kernel_rfl) ((mk74 c.inp (c.inp.toNat + keep.length) gs la lb (by omega) (by omega) (by omega) (by omega)).frameQ [12, 11, 10, 8, 14, 9] rfl (.cons ⟨rfl, .inl rfl⟩ (.cons ⟨rfl, .mapE⟩ (.cons ⟨rfl, .inl rfl⟩ (.cons ⟨rfl, .strP rfl⟩ (.cons ⟨rfl, .oP⟩ (.cons ⟨rfl, .inl rfl⟩ .nil)))))) ?_) rfl ?_
    · rintro _ _ ⟨rfl, ⟨_, rfl⟩ | ⟨g, k', _, rfl⟩⟩ <;> (repeat first | exact .nil | refine .cons (by first | exact .inr rfl | exact .inl rfl | exact .inr (fresh_oP _)) ?_)
    generalize mkN (c.inp.toNat + keep.length + 1) gs la lb = r at *
    rintro _ _ ⟨_, _, ⟨rfl, ⟨hr, rfl⟩ | ⟨g, k', hr, rfl⟩⟩, rfl, rfl⟩
    all_goals
      conv => whnf
      repeat' first | ((refine Gets.appNat (l := of) (x := r.1) rfl rfl rfl rfl rfl (by decide) rfl rfl hl1.symm (by omega) ?_); conv => whnf) | ((with_reducible refine Gets.addI ?_ ?_ ?_); (· omega); (· omega); conv => whnf) | (refine Gets.of _ rfl ?_; conv => whnf) | (refine Chk.mk (by repeat first | exact .nil | refine .cons rfl ?_) ?_; conv => whnf)
    · refine ⟨k + 1, renL [0, 1, 2, 3, 4, 5, 6, 7, 8, 9, 10, 11, 12, 19, 14, 15, 16] 20, by omega, by omega, ⟨rfl, rfl, rfl, rfl, rfl, rfl, rfl, rfl, rfl, rfl, trivial⟩, ?_⟩
      rw [hsucc, hr]
      exact EmbL.litsN [0, 1, 2, 3, 4, 5, 6, 7, 8, 9, 10, 11, 12, 19, 14, 15, 16] rfl rfl rfl rfl (.cons ⟨rfl, .inl ⟨rfl, fun h => h⟩⟩ (.cons ⟨rfl, .inl ⟨rfl, fun h => h⟩⟩ (.cons ⟨rfl, .inl ⟨rfl, fun h => h⟩⟩ (.cons ⟨rfl, .inl ⟨rfl, fun h => h⟩⟩ (.cons ⟨rfl, .inl ⟨rfl, fun h => h⟩⟩ .nil))))) (.cons ⟨rfl, .roI⟩ (.cons ⟨rfl, .roI⟩ (.cons ⟨rfl, .roI⟩ (.cons ⟨rfl, .roI⟩ (.cons ⟨rfl, .roI⟩ (.cons ⟨rfl, .inl rfl⟩ (.cons ⟨rfl, .inl rfl⟩ (.cons ⟨rfl, .inl rfl⟩ (.cons ⟨rfl, .strPr rfl⟩ (.cons ⟨rfl, .inl rfl⟩ (.cons ⟨rfl, .inl rfl⟩ (.cons ⟨rfl, .mapEr⟩ (.cons ⟨rfl, .inl rfl⟩ (.cons ⟨rfl, .cellsN rfl⟩ (.cons ⟨rfl, .toPm⟩ (.cons ⟨rfl, .gone⟩ (.cons ⟨rfl, .gone⟩ .nil)))))))))))))))))
    · refine ⟨k + 1, renL [0, 1, 2, 3, 4, 5, 6, 7, 8, 9, 10, 11, 12, 20, 18, 15, 16] 21, by omega, by omega, ⟨rfl, rfl, rfl, rfl, rfl, rfl, rfl, rfl, rfl, rfl, trivial⟩, ?_⟩
      rw [hsucc, hr]
      exact EmbL.litsN [0, 1, 2, 3, 4, 5, 6, 7, 8, 9, 10, 11, 12, 20, 18, 15, 16] rfl rfl rfl rfl (.cons ⟨rfl, .inl ⟨rfl, fun h => h⟩⟩ (.cons ⟨rfl, .inl ⟨rfl, fun h => h⟩⟩ (.cons ⟨rfl, .inl ⟨rfl, fun h => h⟩⟩ (.cons ⟨rfl, .inl ⟨rfl, fun h => h⟩⟩ (.cons ⟨rfl, .inl ⟨rfl, fun h => h⟩⟩ .nil))))) (.cons ⟨rfl, .roI⟩ (.cons ⟨rfl, .roI⟩ (.cons ⟨rfl, .roI⟩ (.cons ⟨rfl, .roI⟩ (.cons ⟨rfl, .roI⟩ (.cons ⟨rfl, .inl rfl⟩ (.cons ⟨rfl, .inl rfl⟩ (.cons ⟨rfl, .inl rfl⟩ (.cons ⟨rfl, .strPn rfl rfl (by simp)⟩ (.cons ⟨rfl, .inl rfl⟩ (.cons ⟨rfl, .inl rfl⟩ (.cons ⟨rfl, .mapEr⟩ (.cons ⟨rfl, .inl rfl⟩ (.cons ⟨rfl, .cellsN rfl⟩ (.cons ⟨rfl, .toOP⟩ (.cons ⟨rfl, .gone⟩ (.cons ⟨rfl, .gone⟩ .nil)))))))))))))))))
  · obtain rfl : k = c.gates.length := by omega
    have hml := made_lt hok (by have := hok.l; omega)
    have hl1 := hok.n
    have hlg := hok.l
    have htop : ∀ l : Int, (l / 2).toNat < c.nv + c.gates.length → litN (c.rebOf of0 (c.inp.toNat + keep.length + 1)) l / 2 < c.inp.toNat + keep.length + 1 + (c.made of0 (c.inp.toNat + keep.length + 1) c.gates.length).2.length := fun l hl => litN_top hok hl
    obtain ⟨hrok, hrn⟩ := reb_ok ho h0 hk hk2
    have e1 : (c.reb of0 keep).latch = keep.map fun k => ((litN (c.rebOf of0 (c.inp.toNat + keep.length + 1)) (c.latch.getD k 0) : Nat) : Int) := rfl
    have e2 : (c.reb of0 keep).out = c.out.map fun l => ((litN (c.rebOf of0 (c.inp.toNat + keep.length + 1)) l : Nat) : Int) := rfl
    have e3 : (c.reb of0 keep).gates = (c.made of0 (c.inp.toNat + keep.length + 1) c.gates.length).2 := rfl
    have e4 : (c.reb of0 keep).inp = c.inp := rfl
    generalize c.reb of0 keep = d at *
    change ∀ x ∈ c.rebOf of0 (c.inp.toNat + keep.length + 1), _ at hml
    change (c.rebOf of0 (c.inp.toNat + keep.length + 1)).length = _ at hl1
    rw [show (c.made of0 (c.inp.toNat + keep.length + 1) c.gates.length).1 = c.rebOf of0 (c.inp.toNat + keep.length + 1) from rfl]
    generalize c.rebOf of0 (c.inp.toNat + keep.length + 1) = F at *
    generalize (c.made of0 (c.inp.toNat + keep.length + 1) c.gates.length).2 = gs at *
    conv => whnf
    repeat' first | (refine Gets.of _ rfl ?_; conv => whnf) | (refine Fork.dec (fun _ => ?_) (fun _ => ?_) <;> first | (exfalso; omega) | (conv => whnf))
    refine CodeS.loopGK (cuts := []) (σ := Nat) (fun j => [(3, .ptr 5 0), (6, .ptr 7 0), (7, .ptr 8 0), (9, .func 57 [] [.ptr 6 0]), (50, .view 4 0 keep.length), (51, .int .i64 keep.length), (52, .int .i64 j)]) (fun j => rebH c of0 keep F (c.nv + c.gates.length) (d.latch.take j) gs []) (fun j => j ≤ keep.length) (fun j => keep.length - j) 0 (renL [0, 1, 2, 3, 4, 5, 6, 7, 8, 9, 10, 11, 12, 13, 14, 15, 16] 17) (by kernel_rfl) (Nat.zero_le _) ⟨rfl, rfl, rfl, rfl, rfl, rfl, rfl, trivial⟩ (EmbL.litsN [0, 1, 2, 3, 4, 5, 6, 7, 8, 9, 10, 11, 12, 13, 14, 15, 16] rfl rfl rfl rfl (.cons ⟨rfl, .inl ⟨rfl, fun h => h⟩⟩ (.cons ⟨rfl, .inl ⟨rfl, fun h => h⟩⟩ (.cons ⟨rfl, .inl ⟨rfl, fun h => h⟩⟩ (.cons ⟨rfl, .inl ⟨rfl, fun h => h⟩⟩ (.cons ⟨rfl, .inl ⟨rfl, fun h => h⟩⟩ .nil))))) (.cons ⟨rfl, .roI⟩ (.cons ⟨rfl, .roI⟩ (.cons ⟨rfl, .roI⟩ (.cons ⟨rfl, .roI⟩ (.cons ⟨rfl, .roI⟩ (.cons ⟨rfl, .inl rfl⟩ (.cons ⟨rfl, .inl rfl⟩ (.cons ⟨rfl, .inl rfl⟩ (.cons ⟨rfl, .strO (l := []) (o := []) (i' := 15) (k' := 16) rfl rfl rfl⟩ (.cons ⟨rfl, .inl rfl⟩ (.cons ⟨rfl, .inl rfl⟩ (.cons ⟨rfl, .mapE⟩ (.cons ⟨rfl, .inl rfl⟩ (.cons ⟨rfl, .cellsN rfl⟩ (.cons ⟨rfl, .oP⟩ (.cons ⟨rfl, .gone⟩ (.cons ⟨rfl, .gone⟩ .nil)))))))))))))))))) ?_
    intro j g3
    have hll : d.latch.length = keep.length := by rw [e1, List.length_map]
    rcases Nat.lt_or_ge j keep.length with hj | hj
    · have hq := hk2 _ (getD_memL (d := 0) hj)
      have hmx := ho.l _ (getD_memL (d := 0) hq)
      unfold inR Cir.most Cir.vars at hmx
      have hlt := htop (c.latch.getD (keep.getD j 0) 0) (by omega)
      have htk : d.latch.take (j + 1) = d.latch.take j ++ [((litN F (c.latch.getD (keep.getD j 0) 0) : Nat) : Int)] := by
        rw [take_succ_getD _ _ 0 (by omega)]
        congr 2
        rw [e1]
        exact getD_map _ keep 0 0 hj
      have htl : (d.latch.take j).length = j := by rw [List.length_take]; omega
      generalize d.latch.take j = ls at *
      conv => whnf
      repeat' first | ((refine Gets.ldNat (l := keep) rfl rfl (by omega) ?_); conv => whnf) | (refine Gets.ix1v rfl rfl (by omega) ?_; conv => whnf) | (refine Fork.dec (fun _ => ?_) (fun _ => ?_) <;> first | (exfalso; omega) | (conv => whnf))
      generalize keep.getD j 0 = q at *
      refine CodeS.drawT [8, 5, 0] (.take 0 (.take 1 (.take 2 (.take 3 (.take 4 (.take 5 (.take 6 (.take 7 (.one 8 true (.one 9 true (.one 10 true (.take 11 (.one 12 false .done))))))))))))) mixed (by kernel_rfl) (.cons ⟨rfl, trivial⟩ (.cons ⟨rfl, trivial⟩ (.cons ⟨rfl, live_of_ints rfl (by omega)⟩ .nil))) ?_
      conv => whnf
      repeat' first | (refine Gets.of _ rfl ?_; conv => whnf) | (refine Gets.ix1v rfl rfl (by omega) ?_; conv => whnf) | (refine Gets.ldI rfl (by first | rfl | assumption) (by first | omega | exact Nat.le_of_ble_eq_true rfl) ?_; conv => whnf)
      generalize c.latch.getD q 0 = lq at *
      obtain ⟨a, rfl⟩ := Int.eq_ofNat_of_zero_le hmx.1
      rcases ls with _ | ⟨l0, ls⟩
      all_goals
        conv => whnf
        skip
        refine CallPS.of (by kernel_rfl) (lit57 F (c.nv + c.gates.length) hl1 a (by omega) hml (by omega) _ 6 13 rfl rfl) rfl ?_
        rintro _ _ ⟨rfl, rfl⟩
        conv => whnf
        repeat' first | ((refine Gets.appI1 (ti := tiI) (l := l0 :: ls) (x := ((litN F (a : Int) : Nat) : Int)) rfl rfl rfl rfl rfl (by decide) rfl rfl rfl (by omega) ?_); conv => whnf) | ((with_reducible refine Gets.addI ?_ ?_ ?_); (· omega); (· omega); conv => whnf) | (refine Gets.of _ rfl ?_; conv => whnf) | (refine Chk.mk (by repeat first | exact .nil | refine .cons rfl ?_) ?_; conv => whnf)
      · refine ⟨j + 1, renL [0, 1, 2, 3, 4, 5, 6, 7, 8, 9, 10, 11, 12, 13, 14, 18, 16] 19, by omega, by omega, ⟨rfl, rfl, rfl, rfl, rfl, rfl, rfl, trivial⟩, ?_⟩
        rw [htk]
        exact EmbL.litsN [0, 1, 2, 3, 4, 5, 6, 7, 8, 9, 10, 11, 12, 13, 14, 18, 16] rfl rfl rfl rfl (.cons ⟨rfl, .inl ⟨rfl, fun h => h⟩⟩ (.cons ⟨rfl, .inl ⟨rfl, fun h => h⟩⟩ (.cons ⟨rfl, .inl ⟨rfl, fun h => h⟩⟩ (.cons ⟨rfl, .inl ⟨rfl, fun h => h⟩⟩ (.cons ⟨rfl, .inl ⟨rfl, fun h => h⟩⟩ .nil))))) (.cons ⟨rfl, .roI⟩ (.cons ⟨rfl, .roI⟩ (.cons ⟨rfl, .roI⟩ (.cons ⟨rfl, .roI⟩ (.cons ⟨rfl, .roI⟩ (.cons ⟨rfl, .inl rfl⟩ (.cons ⟨rfl, .inl rfl⟩ (.cons ⟨rfl, .inl rfl⟩ (.cons ⟨rfl, .strO (l := [] ++ [((litN F (a : Int) : Nat) : Int)]) (i' := 18) (o := []) (k' := 16) rfl rfl rfl⟩ (.cons ⟨rfl, .inl rfl⟩ (.cons ⟨rfl, .inl rfl⟩ (.cons ⟨rfl, .mapE⟩ (.cons ⟨rfl, .inl rfl⟩ (.cons ⟨rfl, .cellsN rfl⟩ (.cons ⟨rfl, .oP⟩ (.cons ⟨rfl, .cellsI⟩ (.cons ⟨rfl, .gone⟩ .nil)))))))))))))))))
      · have hlen : (l0 :: ls ++ [((litN F (a : Int) : Nat) : Int)]).length = ls.length + 1 + 1 := by simp
        refine ⟨j + 1, renL [0, 1, 2, 3, 4, 5, 6, 7, 8, 9, 10, 11, 12, 13, 14, 18, 16] 19, by omega, by omega, ⟨rfl, rfl, rfl, rfl, rfl, rfl, rfl, trivial⟩, ?_⟩
        rw [htk]
        exact EmbL.litsN [0, 1, 2, 3, 4, 5, 6, 7, 8, 9, 10, 11, 12, 13, 14, 18, 16] rfl rfl rfl rfl (.cons ⟨rfl, .inl ⟨rfl, fun h => h⟩⟩ (.cons ⟨rfl, .inl ⟨rfl, fun h => h⟩⟩ (.cons ⟨rfl, .inl ⟨rfl, fun h => h⟩⟩ (.cons ⟨rfl, .inl ⟨rfl, fun h => h⟩⟩ (.cons ⟨rfl, .inl ⟨rfl, fun h => h⟩⟩ .nil))))) (.cons ⟨rfl, .roI⟩ (.cons ⟨rfl, .roI⟩ (.cons ⟨rfl, .roI⟩ (.cons ⟨rfl, .roI⟩ (.cons ⟨rfl, .roI⟩ (.cons ⟨rfl, .inl rfl⟩ (.cons ⟨rfl, .inl rfl⟩ (.cons ⟨rfl, .inl rfl⟩ (.cons ⟨rfl, .strOe (l := l0 :: ls ++ [((litN F (a : Int) : Nat) : Int)]) (n := ls.length + 1 + 1) (i' := 18) (o := []) (k' := 16) rfl rfl rfl hlen.symm⟩ (.cons ⟨rfl, .inl rfl⟩ (.cons ⟨rfl, .inl rfl⟩ (.cons ⟨rfl, .mapE⟩ (.cons ⟨rfl, .inl rfl⟩ (.cons ⟨rfl, .cellsN rfl⟩ (.cons ⟨rfl, .oP⟩ (.cons ⟨rfl, .cellsI⟩ (.cons ⟨rfl, .gone⟩ .nil)))))))))))))))))
    · obtain rfl : j = keep.length := by omega
      have htl : d.latch.take keep.length = d.latch := List.take_of_length_le (by omega)
      rw [htl]
      generalize hdl : d.latch = ls at *
      conv => whnf
      repeat' first | (refine Gets.of _ rfl ?_; conv => whnf) | (refine Fork.dec (fun _ => ?_) (fun _ => ?_) <;> first | (exfalso; omega) | (conv => whnf))
      refine CodeS.loopGK (cuts := []) (σ := Nat) (fun j => [(6, .ptr 7 0), (7, .ptr 8 0), (9, .func 57 [] [.ptr 6 0]), (70, .view 2 0 c.out.length), (71, .int .i64 c.out.length), (72, .int .i64 j)]) (fun j => rebH c of0 keep F (c.nv + c.gates.length) ls gs (d.out.take j)) (fun j => j ≤ c.out.length) (fun j => c.out.length - j) 0 (renL [0, 1, 2, 3, 4, 5, 6, 7, 8, 9, 10, 11, 12, 13, 14, 15, 16] 17) (by kernel_rfl) (Nat.zero_le _) ⟨rfl, rfl, rfl, rfl, rfl, rfl, trivial⟩ (EmbL.litsN [0, 1, 2, 3, 4, 5, 6, 7, 8, 9, 10, 11, 12, 13, 14, 15, 16] rfl rfl rfl rfl (.cons ⟨rfl, .inl ⟨rfl, fun h => h⟩⟩ (.cons ⟨rfl, .inl ⟨rfl, fun h => h⟩⟩ (.cons ⟨rfl, .inl ⟨rfl, fun h => h⟩⟩ (.cons ⟨rfl, .inl ⟨rfl, fun h => h⟩⟩ (.cons ⟨rfl, .inl ⟨rfl, fun h => h⟩⟩ .nil))))) (.cons ⟨rfl, .roI⟩ (.cons ⟨rfl, .roI⟩ (.cons ⟨rfl, .roI⟩ (.cons ⟨rfl, .roI⟩ (.cons ⟨rfl, .roI⟩ (.cons ⟨rfl, .inl rfl⟩ (.cons ⟨rfl, .inl rfl⟩ (.cons ⟨rfl, .inl rfl⟩ (.cons ⟨rfl, .strO (o := []) (k' := 16) rfl rfl rfl⟩ (.cons ⟨rfl, .inl rfl⟩ (.cons ⟨rfl, .inl rfl⟩ (.cons ⟨rfl, .mapE⟩ (.cons ⟨rfl, .inl rfl⟩ (.cons ⟨rfl, .cellsN rfl⟩ (.cons ⟨rfl, .oP⟩ (.cons ⟨rfl, .oI⟩ (.cons ⟨rfl, .gone⟩ .nil)))))))))))))))))) ?_
      intro j g4
      have hlo : d.out.length = c.out.length := by rw [e2, List.length_map]
      rcases Nat.lt_or_ge j c.out.length with hj | hj
      · have hmx := ho.o _ (getD_memL (d := 0) hj)
        unfold inR Cir.most Cir.vars at hmx
        have hlt := htop (c.out.getD j 0) (by omega)
        have htk : d.out.take (j + 1) = d.out.take j ++ [((litN F (c.out.getD j 0) : Nat) : Int)] := by
          rw [take_succ_getD _ _ 0 (by omega)]
          congr 2
          rw [e2]
          exact getD_map _ c.out 0 0 hj
        have hto : (d.out.take j).length = j := by rw [List.length_take]; omega
        generalize d.out.take j = os at *
        conv => whnf
        repeat' first | (refine Gets.ix1v rfl rfl (by omega) ?_; conv => whnf) | (refine Gets.ldI rfl (by first | rfl | assumption) (by first | omega | exact Nat.le_of_ble_eq_true rfl) ?_; conv => whnf) | (refine Fork.dec (fun _ => ?_) (fun _ => ?_) <;> first | (exfalso; omega) | (conv => whnf))
        generalize c.out.getD j 0 = lq at *
        obtain ⟨a, rfl⟩ := Int.eq_ofNat_of_zero_le hmx.1
        rcases os with _ | ⟨l0, os⟩
        all_goals
          refine CodeS.drawT [8] (.take 0 (.take 1 (.take 2 (.take 3 (.one 4 true (.one 5 true (.one 6 true (.take 7 (.one 8 false .done))))))))) mixed (by kernel_rfl) (.cons ⟨rfl, trivial⟩ .nil) ?_
          conv => whnf
          repeat' (refine Gets.of _ rfl ?_; conv => whnf)
          refine CallPS.of (by kernel_rfl) (lit57 F (c.nv + c.gates.length) hl1 a (by omega) hml (by omega) _ 6 13 rfl rfl) rfl ?_
          rintro _ _ ⟨rfl, rfl⟩
          conv => whnf
          repeat' first | ((refine Gets.appI1 (ti := tiI) (l := l0 :: os) (x := ((litN F (a : Int) : Nat) : Int)) rfl rfl rfl rfl rfl (by decide) rfl rfl rfl (by omega) ?_); conv => whnf) | ((with_reducible refine Gets.addI ?_ ?_ ?_); (· omega); (· omega); conv => whnf) | (refine Gets.of _ rfl ?_; conv => whnf) | (refine Chk.mk (by repeat first | exact .nil | refine .cons rfl ?_) ?_; conv => whnf)
        · refine ⟨j + 1, renL [0, 1, 2, 3, 4, 5, 6, 7, 8, 9, 10, 11, 12, 13, 14, 15, 18] 19, by omega, by omega, ⟨rfl, rfl, rfl, rfl, rfl, rfl, trivial⟩, ?_⟩
          rw [htk]
          exact EmbL.litsN [0, 1, 2, 3, 4, 5, 6, 7, 8, 9, 10, 11, 12, 13, 14, 15, 18] rfl rfl rfl rfl (.cons ⟨rfl, .inl ⟨rfl, fun h => h⟩⟩ (.cons ⟨rfl, .inl ⟨rfl, fun h => h⟩⟩ (.cons ⟨rfl, .inl ⟨rfl, fun h => h⟩⟩ (.cons ⟨rfl, .inl ⟨rfl, fun h => h⟩⟩ (.cons ⟨rfl, .inl ⟨rfl, fun h => h⟩⟩ .nil))))) (.cons ⟨rfl, .roI⟩ (.cons ⟨rfl, .roI⟩ (.cons ⟨rfl, .roI⟩ (.cons ⟨rfl, .roI⟩ (.cons ⟨rfl, .roI⟩ (.cons ⟨rfl, .inl rfl⟩ (.cons ⟨rfl, .inl rfl⟩ (.cons ⟨rfl, .inl rfl⟩ (.cons ⟨rfl, .strO (o := [] ++ [((litN F (a : Int) : Nat) : Int)]) (k' := 18) rfl rfl rfl⟩ (.cons ⟨rfl, .inl rfl⟩ (.cons ⟨rfl, .inl rfl⟩ (.cons ⟨rfl, .mapE⟩ (.cons ⟨rfl, .inl rfl⟩ (.cons ⟨rfl, .cellsN rfl⟩ (.cons ⟨rfl, .oP⟩ (.cons ⟨rfl, .oI⟩ (.cons ⟨rfl, .cellsI⟩ .nil)))))))))))))))))
        · have hlen : (l0 :: os ++ [((litN F (a : Int) : Nat) : Int)]).length = os.length + 1 + 1 := by simp
          refine ⟨j + 1, renL [0, 1, 2, 3, 4, 5, 6, 7, 8, 9, 10, 11, 12, 13, 14, 15, 18] 19, by omega, by omega, ⟨rfl, rfl, rfl, rfl, rfl, rfl, trivial⟩, ?_⟩
          rw [htk]
          exact EmbL.litsN [0, 1, 2, 3, 4, 5, 6, 7, 8, 9, 10, 11, 12, 13, 14, 15, 18] rfl rfl rfl rfl (.cons ⟨rfl, .inl ⟨rfl, fun h => h⟩⟩ (.cons ⟨rfl, .inl ⟨rfl, fun h => h⟩⟩ (.cons ⟨rfl, .inl ⟨rfl, fun h => h⟩⟩ (.cons ⟨rfl, .inl ⟨rfl, fun h => h⟩⟩ (.cons ⟨rfl, .inl ⟨rfl, fun h => h⟩⟩ .nil))))) (.cons ⟨rfl, .roI⟩ (.cons ⟨rfl, .roI⟩ (.cons ⟨rfl, .roI⟩ (.cons ⟨rfl, .roI⟩ (.cons ⟨rfl, .roI⟩ (.cons ⟨rfl, .inl rfl⟩ (.cons ⟨rfl, .inl rfl⟩ (.cons ⟨rfl, .inl rfl⟩ (.cons ⟨rfl, .strOf (o := l0 :: os ++ [((litN F (a : Int) : Nat) : Int)]) (n := os.length + 1 + 1) (k' := 18) rfl rfl rfl hlen.symm⟩ (.cons ⟨rfl, .inl rfl⟩ (.cons ⟨rfl, .inl rfl⟩ (.cons ⟨rfl, .mapE⟩ (.cons ⟨rfl, .inl rfl⟩ (.cons ⟨rfl, .cellsN rfl⟩ (.cons ⟨rfl, .oP⟩ (.cons ⟨rfl, .oI⟩ (.cons ⟨rfl, .cellsI⟩ .nil)))))))))))))))))
      · obtain rfl : j = c.out.length := by omega
        have hto : d.out.take c.out.length = d.out := List.take_of_length_le (by omega)
        rw [hto]
        generalize hdo : d.out = os at *
        conv => whnf
        repeat' first | (refine Gets.of _ rfl ?_; conv => whnf) | (refine seq0_of ?_; conv => whnf) | (refine Fork.dec (fun _ => ?_) (fun _ => ?_) <;> first | (exfalso; omega) | (conv => whnf))
        refine CallS.of (by kernel_rfl) (dropped58a (d := d) (x := 15) (y := 14) (z := 16) (s := 0) (t := 1) e4 hdl e3 hdo (ok_fits hrok) hrok hrn rfl rfl rfl rfl rfl rfl ⟨rfl, _, .inl rfl⟩ ⟨rfl, _, .inl rfl⟩) rfl ?_
        rintro _ _ ⟨rfl, rfl⟩
        unfold Cir.avO
        conv => whnf
        repeat' first | (refine Gets.stA rfl rfl rfl rfl (by simp only [List.all_cons, List.all_nil, oI_sc, oP_sc, oN_sc, Bool.and_true, Bool.true_and] <;> rfl) ?_; conv => whnf) | (refine seq0_of ?_; conv => whnf)
        refine ⟨renL [0, 1, 2, 3, 4, 17, 18, 19] 20, d.drop.avO 5 6 7, (((c.rbH of0 keep).alloc (oIB d.drop.latch)).alloc (oPB d.drop.gates)).alloc (oIB d.drop.out), EmbL.litsN [0, 1, 2, 3, 4, 17, 18, 19] rfl rfl rfl rfl (.cons ⟨rfl, .inl ⟨rfl, fun h => h⟩⟩ (.cons ⟨rfl, .inl ⟨rfl, fun h => h⟩⟩ (.cons ⟨rfl, .inl ⟨rfl, fun h => h⟩⟩ (.cons ⟨rfl, .inl ⟨rfl, fun h => h⟩⟩ (.cons ⟨rfl, .inl ⟨rfl, fun h => h⟩⟩ .nil))))) (.cons ⟨rfl, .roI⟩ (.cons ⟨rfl, .roI⟩ (.cons ⟨rfl, .roI⟩ (.cons ⟨rfl, .roI⟩ (.cons ⟨rfl, .roI⟩ (.cons ⟨rfl, .oI⟩ (.cons ⟨rfl, .oP⟩ (.cons ⟨rfl, .oI⟩ .nil)))))))), ?_, rfl, rfl⟩
        show _ = AVal.agg [_, ren _ (oI 5 _), ren _ (oP 6 _), ren _ (oI 7 _)]
        rw [ren_oI, ren_oP, ren_oI]
        rfl
end Go.Proofs.Ytmghlldboiplpaa
