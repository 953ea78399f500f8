/- IsPrime of the program and of the reference: one value for both. -/
import Derived.Test.YtgpnahjnhdchaaaInts
import Derived.WalkLawsBesides
namespace Go.Proofs.Ytgpnahjnhdchaaa
open Go.RowKit

def PrimeP (n : Int) : Prop := 2 ≤ n ∧ n ≤ 1000003 ∧ ∀ d : Nat, 2 ≤ d → (d : Int) * d ≤ n → n % (d : Int) ≠ 0
noncomputable def primeB (n : Int) : Bool := @decide (PrimeP n) (Classical.propDecidable _)
theorem primeB_true {n : Int} (h : PrimeP n) : primeB n = true := by simp [primeB, h]
theorem primeB_false {n : Int} (h : ¬ PrimeP n) : primeB n = false := by simp [primeB, h]
theorem primeB_iff {n : Int} : primeB n = true ↔ PrimeP n := by simp [primeB]

theorem sq_small {d : Nat} {n : Int} (h : (d : Int) * d ≤ n) (hn : n ≤ 1000003) : d ≤ 1000 := by
  apply Classical.byContradiction
  intro hd
  have : (1001 : Int) * 1001 ≤ (d : Int) * d := Int.mul_le_mul (by omega) (by omega) (by omega) (by omega)
  omega
theorem sq_bound {d : Nat} (h : d ≤ 1001) : 0 ≤ (d : Int) * d ∧ (d : Int) * d ≤ 1002001 := by
  have a : (d : Int) * d ≤ (1001 : Int) * 1001 := Int.mul_le_mul (by omega) (by omega) (by omega) (by omega)
  have b : (0 : Int) ≤ (d : Int) * d := Int.mul_nonneg (by omega) (by omega)
  omega
theorem sq_mono {d e : Nat} {n : Int} (h : ¬ (d : Int) * d ≤ n) (he : d ≤ e) : ¬ (e : Int) * e ≤ n := by
  have : (d : Int) * d ≤ (e : Int) * e := Int.mul_le_mul (by omega) (by omega) (by omega) (by omega)
  omega

set_option maxHeartbeats 400000 in
theorem implIsPrime_calls (n : Int) (w : World) : Same Try.prog 76 #[.int .i64 n] w (.bool (primeB n)) := by
  unfold Same
  by_cases h1 : ¬ (2 ≤ n ∧ n ≤ 1000003)
  · have H := hide (primeB_false (n := n) fun h => h1 ⟨h.1, h.2.1⟩)
    go_enter Try.func76, Try.ntmps76
    go_wp2
    all_goals (first | (exfalso; omega) | (go_ret; exact ⟨ret_bool H.out.symm, rfl⟩))
  · have h2 : 2 ≤ n := by omega
    have h3 : n ≤ 1000003 := by omega
    clear h1
    go_enter Try.func76, Try.ntmps76
    go_wp2
    go_loop [3] (fun i => ∃ d : Nat, 2 ≤ d ∧ d ≤ 1001 ∧ i = .int .i64 d ∧ ∀ e : Nat, 2 ≤ e → e < d → n % (e : Int) ≠ 0) (fun i => 2000 - (intOf i).toNat)
    case atStart => exact ⟨2, by omega, by omega, rfl, fun e h1 h2 => absurd h2 (by omega)⟩
    case round =>
      obtain ⟨d, hd1, hd2, rfl, hh⟩ := hrel
      replace hh := hide hh
      have hb := sq_bound hd2
      have hw : wrap64 ((d : Int) * d) = (d : Int) * d := IntWalk.wrap64_in _ ⟨by omega, by omega⟩
      by_cases hle : (d : Int) * d ≤ n
      · have hs := sq_small hle h3
        cases hm : (n % (d : Int) == 0)
        · have HM := hide hm
          go_wp2
          go_round
          case rel =>
            refine ⟨d + 1, by omega, by omega, by go_num, fun e h1 h2 => ?_⟩
            by_cases e' : e = d
            · subst e'; simpa using HM.out
            · exact hh.out e h1 (by omega)
          case measure => simp [intOf]; omega
        · have HM := hide hm
          have H := hide (primeB_false (n := n) fun h => h.2.2 d hd1 hle (by simpa using HM.out))
          go_wp2
          go_ret
          exact ⟨ret_bool H.out.symm, rfl⟩
      · have H := hide (primeB_true (n := n) ⟨h2, h3, fun e he1 he2 => by
          by_cases hlt : e < d
          · exact hh.out e he1 hlt
          · exact absurd he2 (sq_mono hle (by omega))⟩)
        go_wp2
        go_ret
        exact ⟨ret_bool H.out.symm, rfl⟩

set_option maxHeartbeats 400000 in
theorem specIsPrime_calls (n : Int) (w : World) : Same Try.prog 87 #[.int .i64 n] w (.bool (primeB n)) := by
  unfold Same
  by_cases h1 : ¬ (2 ≤ n ∧ n ≤ 1000003)
  · have H := hide (primeB_false (n := n) fun h => h1 ⟨h.1, h.2.1⟩)
    have G := in01_false h1
    go_enter Try.func87, Try.ntmps87
    go_wp2_with fail
    refine wp_loop_rounds 1 ?_
    rw [rounds_succ]
    go_wp2_with (go_at_call 40; refine (l01In_calls _ _ _ _).use ?_)
    all_goals (first | (exfalso; omega) | (go_ret; exact ⟨ret_bool H.out.symm, rfl⟩))
  · have h2 : 2 ≤ n := by omega
    have h3 : n ≤ 1000003 := by omega
    have G := in01_true h2 h3
    clear h1
    go_enter Try.func87, Try.ntmps87
    go_wp2_with fail
    go_loop [3] (fun i => ∃ d : Nat, 2 ≤ d ∧ d ≤ 1001 ∧ i = .int .i64 d ∧ ∀ e : Nat, 2 ≤ e → e < d → n % (e : Int) ≠ 0) (fun i => 2000 - (intOf i).toNat)
    case atStart => exact ⟨2, by omega, by omega, rfl, fun e h1 h2 => absurd h2 (by omega)⟩
    case round =>
      obtain ⟨d, hd1, hd2, rfl, hh⟩ := hrel
      replace hh := hide hh
      have hb := sq_bound hd2
      have hw : wrap64 ((d : Int) * d) = (d : Int) * d := IntWalk.wrap64_in _ ⟨by omega, by omega⟩
      by_cases hle : (d : Int) * d ≤ n
      · have hs := sq_small hle h3
        cases hm : (n % (d : Int) == 0)
        · have HM := hide hm
          go_wp2_with fail
          go_round
          case rel =>
            refine ⟨d + 1, by omega, by omega, by go_num, fun e h1 h2 => ?_⟩
            by_cases e' : e = d
            · subst e'; simpa using HM.out
            · exact hh.out e h1 (by omega)
          case measure => simp [intOf]; omega
        · have HM := hide hm
          have H := hide (primeB_false (n := n) fun h => h.2.2 d hd1 hle (by simpa using HM.out))
          go_wp2_with fail
          go_ret
          exact ⟨ret_bool H.out.symm, rfl⟩
      · have H := hide (primeB_true (n := n) ⟨h2, h3, fun e he1 he2 => by
          by_cases hlt : e < d
          · exact hh.out e he1 hlt
          · exact absurd he2 (sq_mono hle (by omega))⟩)
        go_wp2_with (go_at_call 40; refine (l01In_calls _ _ _ _).use ?_)
        go_ret
        exact ⟨ret_bool H.out.symm, rfl⟩

end Go.Proofs.Ytgpnahjnhdchaaa
