/- IsPrime of the program and of the reference. -/
import Derived.Test.YtpllghhgndfkhaaQOPlMap
namespace Go.Proofs.Ytpllghhgndfkhaa.PFnExactOrientedMatrix
open Go.RowKit Go.Proofs.YtpllghhgndfkhaaW.PrintWords Go.Proofs.YtpllghhgndfkhaaW.PrintLast Go.Proofs.YtpllghhgndfkhaaW.PrintMore

theorem sq_le {i : Int} (h0 : 0 ≤ i) (h1 : i ≤ 1001) : 0 ≤ i * i ∧ i * i ≤ 1002001 := by
  have a := Int.mul_le_mul h1 h1 h0 (by omega)
  have b := Int.mul_nonneg h0 h0
  omega
theorem sq_big {i : Int} (h : i * i ≤ 1000003) (h0 : 0 ≤ i) : i ≤ 1000 := by
  refine Classical.byContradiction fun hc => ?_
  have h1 : 1001 ≤ i := by omega
  have := Int.mul_le_mul h1 h1 (by omega) h0
  omega

theorem prime_both (n : Int) : ∃ b, Evs (fun k => spec_IsPrime.f k n) b ∧ Evs (fun k => impl_IsPrime.f k n) b ∧ (b = true → 2 ≤ n ∧ n ≤ 1000003) := by
  by_cases hr : 2 ≤ n ∧ n ≤ 1000003
  case neg =>
    refine ⟨false, ?_, ?_, fun h => by cases h⟩
    · unfold spec_IsPrime.f
      refine Evs.step (fun k => by simp only [spec_IsPrime.l0]; rfl) ?_
      rw [w64 (x := (2 : Int) * 2) (by omega) (by omega)]
      have hl : spec_l01In.f n 2 1000003 = some false := by rw [l01In_eq, inB_false hr]
      by_cases h4 : (2 : Int) * 2 ≤ n
      · refine Evs.pos h4 ?_
        rw [decide_eq_false (show ¬ n ≤ 1000003 by omega)]
        exact Evs.step (fun k => by simp only [spec_IsPrime.j1]; rfl) (Evs.no (Evs.bindc hl (Evs.const _)))
      · exact Evs.neg h4 (Evs.step (fun k => by simp only [spec_IsPrime.j1]; rfl) (Evs.neg (by simp) (Evs.bindc hl (Evs.const _))))
    · unfold impl_IsPrime.f
      by_cases h2 : n < 2
      · exact Evs.pos h2 (Evs.step (fun k => by simp only [impl_IsPrime.j0]; rfl) (Evs.tru (Evs.const _)))
      · refine Evs.neg h2 ?_
        rw [decide_eq_true (show n > 1000003 by omega)]
        exact Evs.step (fun k => by simp only [impl_IsPrime.j0]; rfl) (Evs.tru (Evs.const _))
  have hl : spec_l01In.f n 2 1000003 = some true := by rw [l01In_eq, inB_true hr]
  have hd : decide (n ≤ 1000003) = true := decide_eq_true hr.2
  have key : ∀ (d : Nat) (i : Int), i + d = 1001 → 2 ≤ i → ∃ b, Evs (fun k => spec_IsPrime.l0 k n i) b ∧ Evs (fun k => impl_IsPrime.l0 k n i) b := by
    intro d
    induction d with
    | zero =>
      intro i hi h2
      have hi' : i = 1001 := by omega
      subst hi'
      refine ⟨true, ?_, ?_⟩
      · refine Evs.step (fun k => by simp only [spec_IsPrime.l0]; rfl) ?_
        rw [w64 (x := (1001 : Int) * 1001) (by omega) (by omega)]
        exact Evs.neg (by omega) (Evs.step (fun k => by simp only [spec_IsPrime.j1]; rfl) (Evs.neg (by simp) (Evs.bindc hl (Evs.const _))))
      · refine Evs.step (fun k => by simp only [impl_IsPrime.l0]; rfl) ?_
        rw [w64 (x := (1001 : Int) * 1001) (by omega) (by omega)]
        exact Evs.neg (by omega) (Evs.const _)
    | succ d ih =>
      intro i hi h2
      have hs := sq_le (i := i) (by omega) (by omega)
      have hw : wrap64 (i * i) = i * i := w64 (by omega) (by omega)
      by_cases hle : i * i ≤ n
      · by_cases hm : Int.tmod n i = 0
        · refine ⟨false, ?_, ?_⟩
          · refine Evs.step (fun k => by simp only [spec_IsPrime.l0]; rfl) ?_
            rw [hw, hd]
            exact Evs.pos hle (Evs.step (fun k => by simp only [spec_IsPrime.j1]; rfl) (Evs.tru (Evs.neg (by omega) (Evs.pos hm (Evs.const _)))))
          · refine Evs.step (fun k => by simp only [impl_IsPrime.l0]; rfl) ?_
            rw [hw]
            exact Evs.pos hle (Evs.neg (by omega) (Evs.pos hm (Evs.const _)))
        · obtain ⟨b, b1, b2⟩ := ih (i + 1) (by omega) (by omega)
          have hw1 : wrap64 (i + 1) = i + 1 := w64 (by omega) (by omega)
          refine ⟨b, ?_, ?_⟩
          · refine Evs.step (fun k => by simp only [spec_IsPrime.l0]; rfl) ?_
            rw [hw, hd]
            refine Evs.pos hle (Evs.step (fun k => by simp only [spec_IsPrime.j1]; rfl) (Evs.tru (Evs.neg (by omega) (Evs.neg hm ?_))))
            rw [hw1]
            exact b1
          · refine Evs.step (fun k => by simp only [impl_IsPrime.l0]; rfl) ?_
            rw [hw, hw1]
            exact Evs.pos hle (Evs.neg (by omega) (Evs.neg hm b2))
      · refine ⟨true, ?_, ?_⟩
        · refine Evs.step (fun k => by simp only [spec_IsPrime.l0]; rfl) ?_
          rw [hw]
          exact Evs.neg hle (Evs.step (fun k => by simp only [spec_IsPrime.j1]; rfl) (Evs.neg (by simp) (Evs.bindc hl (Evs.const _))))
        · refine Evs.step (fun k => by simp only [impl_IsPrime.l0]; rfl) ?_
          rw [hw]
          exact Evs.neg hle (Evs.const _)
  obtain ⟨b, b1, b2⟩ := key 999 2 (by omega) (by omega)
  refine ⟨b, ?_, ?_, fun _ => hr⟩
  · unfold spec_IsPrime.f; exact b1
  · unfold impl_IsPrime.f
    refine Evs.neg (by omega) ?_
    rw [decide_eq_false (show ¬ n > 1000003 by omega)]
    exact Evs.step (fun k => by simp only [impl_IsPrime.j0]; rfl) (Evs.neg (by simp) b2)

end Go.Proofs.Ytpllghhgndfkhaa.PFnExactOrientedMatrix
