/- The law AutAccepts. -/
import Derived.Test.YtdahmcgncpoliaaAcc
set_option linter.unusedVariables false
set_option maxRecDepth 100000
namespace Go.Proofs.Ytdahmcgncpoliaa
open Go Go.Vh Go.Proofs
theorem AccsOk.other {k k' marks inf : Int} {b b' : Bool} {e : Int} (hk : 0 ≤ k ∧ k ≤ 5) (hk' : 0 ≤ k' ∧ k' ≤ 5) (hm : MarksOk k marks ↔ MarksOk k' marks) (ha : AccOk k' marks inf ↔ ¬ AccOk k marks inf) (h : AccsOk k marks inf b 0) (h' : AccsOk k' marks inf b' e) : e = 0 ∧ b' = !b := by
  unfold AccsOk at h h'
  rw [if_neg (by omega)] at h h'
  split at h
  · exact absurd h.2 (by decide)
  · rename_i h2
    rw [hm] at h2
    rw [if_neg h2] at h'
    split at h
    · exact absurd h.2 (by decide)
    · rename_i h3
      rw [if_neg h3] at h'
      refine ⟨h'.1, ?_⟩
      have x1 := h.2
      have x2 := h'.2
      rw [ha, ← x1] at x2
      cases b <;> cases b' <;> simp_all
theorem law3 (kind marks inf : Int) : CallW Try.prog 3 [.int .i64 kind, .int .i64 marks, .int .i64 inf] emptyH fun v _ => v = .bool true := by
  refine CallW.sym Try.func3 rfl (by kernel_rfl) ?_
  conv => whnf
  refine CallS.of (by kernel_rfl) (accepts8c kind marks inf _) rfl ?_
  rintro _ _ ⟨rfl, b, e, rfl, hb⟩
  conv => whnf
  refine CallS.of (by kernel_rfl) (accepts9c kind marks inf _) rfl ?_
  rintro _ _ ⟨rfl, b', e', rfl, hb'⟩
  obtain ⟨rfl, rfl⟩ := hb.same hb'
  clear hb'
  conv => whnf
  refine Fork.mk (fun h => ?_) (fun h => ?_)
  · simp at h
  conv => whnf
  refine Fork.mk (fun h => ?_) (fun h => ?_)
  · simp at h
  conv => whnf
  iterate 4 (refine Gets.of _ rfl ?_; conv => whnf)
  have hc : kind = 0 ∨ kind = 2 ∨ kind = 3 ∨ kind = 4 ∨ (kind ≠ 0 ∧ kind ≠ 2 ∧ kind ≠ 3 ∧ kind ≠ 4) := by omega
  rcases hc with rfl | rfl | rfl | rfl | hc
  · refine Gets.of _ rfl ?_
    conv => whnf
    refine Fork.mk (fun h => ?_) (fun h => ?_)
    all_goals conv => whnf
    · simp only [beq_iff_eq] at h
      subst h
      refine CallS.of (by kernel_rfl) (accepts8c _ marks inf _) rfl ?_
      rintro _ _ ⟨rfl, b', e', rfl, hb'⟩
      obtain ⟨rfl, rfl⟩ := AccsOk.other (by decide) (by decide) (by simp [MarksOk]) (by simp [AccOk]) hb hb'
      conv => whnf
      refine Fork.mk (fun h => ?_) (fun h => ?_)
      all_goals conv => whnf
      · refine Fork.mk (fun h => ?_) (fun h => ?_)
        all_goals conv => whnf
        · refine CallS.of (by kernel_rfl) (awake10 _) rfl ?_
          rintro _ _ ⟨rfl, rfl⟩
          conv => whnf
          rfl
        · cases b <;> simp at h
      · exact absurd h (by decide)
    · refine CallS.of (by kernel_rfl) (awake10 _) rfl ?_
      rintro _ _ ⟨rfl, rfl⟩
      conv => whnf
  · refine Gets.of _ rfl ?_
    conv => whnf
    refine Fork.mk (fun h => ?_) (fun h => ?_)
    all_goals conv => whnf
    · simp only [beq_iff_eq] at h
      subst h
      refine CallS.of (by kernel_rfl) (accepts8c _ marks inf _) rfl ?_
      rintro _ _ ⟨rfl, b', e', rfl, hb'⟩
      obtain ⟨rfl, rfl⟩ := AccsOk.other (by decide) (by decide) (by simp [MarksOk]) (by simp [AccOk]) hb hb'
      conv => whnf
      refine Fork.mk (fun h => ?_) (fun h => ?_)
      all_goals conv => whnf
      · refine Fork.mk (fun h => ?_) (fun h => ?_)
        all_goals conv => whnf
        · refine CallS.of (by kernel_rfl) (awake10 _) rfl ?_
          rintro _ _ ⟨rfl, rfl⟩
          conv => whnf
          rfl
        · cases b <;> simp at h
      · exact absurd h (by decide)
    · refine CallS.of (by kernel_rfl) (awake10 _) rfl ?_
      rintro _ _ ⟨rfl, rfl⟩
      conv => whnf
  · refine Gets.of _ rfl ?_
    conv => whnf
    refine Fork.mk (fun h => ?_) (fun h => ?_)
    all_goals conv => whnf
    · simp only [beq_iff_eq] at h
      subst h
      refine CallS.of (by kernel_rfl) (accepts8c _ marks inf _) rfl ?_
      rintro _ _ ⟨rfl, b', e', rfl, hb'⟩
      obtain ⟨rfl, rfl⟩ := AccsOk.other (by decide) (by decide) (by simp [MarksOk]) (by simp [AccOk]) hb hb'
      conv => whnf
      refine Fork.mk (fun h => ?_) (fun h => ?_)
      all_goals conv => whnf
      · refine Fork.mk (fun h => ?_) (fun h => ?_)
        all_goals conv => whnf
        · refine CallS.of (by kernel_rfl) (awake10 _) rfl ?_
          rintro _ _ ⟨rfl, rfl⟩
          conv => whnf
          rfl
        · cases b <;> simp at h
      · exact absurd h (by decide)
    · refine CallS.of (by kernel_rfl) (awake10 _) rfl ?_
      rintro _ _ ⟨rfl, rfl⟩
      conv => whnf
  · refine Gets.of _ rfl ?_
    conv => whnf
    refine Fork.mk (fun h => ?_) (fun h => ?_)
    all_goals conv => whnf
    · simp only [beq_iff_eq] at h
      subst h
      refine CallS.of (by kernel_rfl) (accepts8c _ marks inf _) rfl ?_
      rintro _ _ ⟨rfl, b', e', rfl, hb'⟩
      obtain ⟨rfl, rfl⟩ := AccsOk.other (by decide) (by decide) (by simp [MarksOk]) (by simp [AccOk]) hb hb'
      conv => whnf
      refine Fork.mk (fun h => ?_) (fun h => ?_)
      all_goals conv => whnf
      · refine Fork.mk (fun h => ?_) (fun h => ?_)
        all_goals conv => whnf
        · refine CallS.of (by kernel_rfl) (awake10 _) rfl ?_
          rintro _ _ ⟨rfl, rfl⟩
          conv => whnf
          rfl
        · cases b <;> simp at h
      · exact absurd h (by decide)
    · refine CallS.of (by kernel_rfl) (awake10 _) rfl ?_
      rintro _ _ ⟨rfl, rfl⟩
      conv => whnf
  · obtain ⟨a0, a2, a3, a4⟩ := hc
    refine Gets.lookMiss [(.int .i64 3, .int .i64 4), (.int .i64 4, .int .i64 3), (.int .i64 0, .int .i64 2), (.int .i64 2, .int .i64 0)] rfl rfl rfl (by
      simp [mfind, keyEq, aeqS, fitsS, show (kind == 3) = false from by simpa using a3, show (kind == 4) = false from by simpa using a4, show (kind == 0) = false from by simpa using a0, show (kind == 2) = false from by simpa using a2]) ?_
    conv => whnf
    refine CallS.of (by kernel_rfl) (awake10 _) rfl ?_
    rintro _ _ ⟨rfl, rfl⟩
    conv => whnf
end Go.Proofs.Ytdahmcgncpoliaa
