import Derived.Test.YtaccmanpanpbiaaVkG
/- Parts of rows. -/
set_option linter.unusedVariables false
set_option linter.unusedSimpArgs false
namespace Go.Vk
open Go.Vh
variable {P : Program}
theorem Fork.yesR {b : Bool} {A B : Prop} (h : b = true) (hA : A) : Fork b A B := ⟨fun _ => hA, fun h' => by rw [h] at h'; cases h'⟩
theorem Fork.noR {b : Bool} {A B : Prop} (h : b = false) (hB : B) : Fork b A B := ⟨fun h' => (by rw [h] at h'; cases h'), fun _ => hB⟩
theorem Gets.sliceHiV {H : AHeap} {t e : TypeId} {ti : TI} {i n k es : Nat} {cs : List AVal} {A : AVal → Prop} (hu : P.underlying t = some (.slice e)) (ht : sliceT P t = some ti) (hsz : ti.size = es) (hf : H.f i = .ro es cs) (hk : k ≤ n) (hA : A (.view i 0 k)) : Gets (asliceV P H t (.view i 0 n) none (some (.int .i64 (k : Int)))) A := by
  refine ⟨⟨_, ?_, hA⟩⟩
  simp only [asliceV, aslice, hu, ht, boundA, hf]
  rw [if_pos ⟨by omega, by omega, by omega, hsz.symm⟩]
  simp
theorem Gets.ix1o {t e : TypeId} {i off n j : Nat} {k : IntKind} {A : AVal → Prop} (hu : P.underlying t = some (.slice e)) (hes : elemSize P t = some 1) (h1 : j < n) (hA : A (.ptr i (off + j))) : Gets (ixA P t (.slice i off n) (.int k (j : Int))) A :=
  Gets.ixS hu hes (by omega) (by omega) (by have : off + (j : Int).toNat * 1 = off + j := by simp
                                            rw [this]; exact hA)
theorem At.renC {H : AHeap} {es : Nat} {l : List Int} {k : Nat} {κ' : Nat → Nat} (h : Nat.blt k H.n = true) (hf : H.f k = renB κ' (.cells es (ints l))) : At H es (ints l) k :=
  .cells (Nat.le_of_ble_eq_true h) (hf.trans (by show ABlk.cells es (rens κ' (ints l)) = _; rw [rens_ints]))
theorem oN_at {H : AHeap} {k s : Nat} {l : List Nat} {κ' : Nat → Nat} (hk : Nat.blt k H.n = true) (hf : H.f k = renB κ' (oNB l)) (hs : Spare H 1 s) : ∃ i, At H 1 (nats l) i ∧ Tells H (oN k l) (.view i 0 l.length) := by
  cases l with
  | nil => exact ⟨s, hs.at, Tells.nilView hs.1⟩
  | cons x l => exact ⟨k, At.renC (l := (x :: l).map fun n : Nat => (n : Int)) hk hf, Tells.sliceView⟩
theorem Gets.lenOI {H : AHeap} {t e : TypeId} {k : Nat} {l : List Int} {A : AVal × AHeap → Prop} (hu : P.underlying t = some (.slice e)) (hA : A (.int .i64 (l.length : Int), H)) : Gets (builtA P H .len [t] [oI k l]) A := by
  refine ⟨⟨_, ?_, hA⟩⟩
  cases l <;> simp [builtA, apureB, alenP, hu, oI]
theorem Gets.lenOP {H : AHeap} {t e : TypeId} {k : Nat} {l : List (Int × Int)} {A : AVal × AHeap → Prop} (hu : P.underlying t = some (.slice e)) (hA : A (.int .i64 (l.length : Int), H)) : Gets (builtA P H .len [t] [oP k l]) A := by
  refine ⟨⟨_, ?_, hA⟩⟩
  cases l <;> simp [builtA, apureB, alenP, hu, oP]
/-- Two structs of two numbers, held against each other. -/
theorem aeq_two {t : TypeId} {fs : Array Field} (hu : P.underlying t = some (.struct fs)) (hd : flatD P t = some [.int .i64, .int .i64]) (hg : P.eqGuardType P.depth t = false) (a b c d : Int) : aeqBin P .eql t (.agg [.int .i64 a, .int .i64 b]) (.agg [.int .i64 c, .int .i64 d]) = some (.bool (a == c && (b == d && true))) := by
  simp only [aeqBin, aeqGo, hu, hd, hg]
  rfl
end Go.Vk
