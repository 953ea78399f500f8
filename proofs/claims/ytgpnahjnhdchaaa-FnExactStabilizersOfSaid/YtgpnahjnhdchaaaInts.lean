/- Contracts of the functions that read or make slices of integers, each function once. -/
import Derived.Test.YtgpnahjnhdchaaaBase
import Derived.Deep.QuietTactic
import Derived.BigQuiet
namespace Go.Proofs.Ytgpnahjnhdchaaa
open Go.RowKit

theorem any_take_succ {p : Int → Bool} {l : List Int} {k : Nat} (h : k < l.length) : (l.take (k + 1)).any p = ((l.take k).any p || p l[k]) := by
  rw [List.take_succ_eq_append_getElem h, List.any_append]; simp

theorem int_info : (Try.prog.info? 3).map (fun i => (i.zero, i.size, i.bytes)) = some (some (.int .i64 0), 1, 8) := by kernel_rfl

theorem made_ints (n : Nat) : madeCells (Value.cells (.int .i64 0)) (n * 1) = ints (List.replicate n 0) := by
  apply Array.ext_getElem?
  intro i
  simp only [madeCells, ints, Value.cells]
  by_cases h : i < n
  · have e : i % 1 = 0 := Nat.mod_one i
    simp [h, e]
  · simp [h]

/-- make([]int, n). -/
theorem make_ints (n : Nat) (hn : n ≤ 17592186044416) (w : World) : (Instr.makeSlice 49 (.int .i64 (n : Int)) (.int .i64 (n : Int))).run Try.prog w =
    .ok (.slice (some ⟨w.heap.size, 0, none⟩) n n) (w.alloc (.cells (ints (List.replicate n 0)) 3)) := by
  obtain ⟨i, hi, hz, hs, hb⟩ := info_parts int_info
  have := run_make (P := Try.prog) w 49 3 i (.int .i64 0) Try.underlying49 hi hz .i64 .i64 n n (by omega) (by omega) (by rw [hb]; omega) (by omega)
  rw [this, hs]
  simp only [Int.toNat_natCast]
  rw [made_ints]

theorem take_fill_set (xs : List Int) (k n : Nat) (hn : n = xs.length) (h : k < xs.length) : (xs.take k ++ List.replicate (n - k) 0).set k xs[k] = xs.take (k + 1) ++ List.replicate (n - (k + 1)) 0 := by
  subst hn
  have e : xs.length - k = xs.length - (k + 1) + 1 := by omega
  rw [e, List.replicate_succ, List.set_append_right _ _ (by simp; omega), List.take_succ_eq_append_getElem h]
  simp only [List.length_take]
  rw [show k - min k xs.length = 0 by omega, List.append_assoc]
  rfl



/-- What the laws' size functions leave of a bound. -/
def szI (n : Nat) (left : Int) : Int := if left - n < 0 then -1 else left - n


def hasInt (l : List Int) (x : Int) : Bool := l.any (fun y => x == y)

set_option maxHeartbeats 400000 in
theorem hasInt_calls (A : Option Addr) (n c : Nat) (x : Int) (xs : List Int) (w : World) (hn : n = xs.length) (h : Ints w A c xs) :
    Same Try.prog 102 #[.slice A n c, .int .i64 x] w (.bool (hasInt xs x)) := by
  subst hn
  obtain ⟨hl, hc, hr⟩ := h
  unfold Same
  go_enter Try.func102, Try.ntmps102
  go_wp2
  go_loop [9] (fun i => ∃ k : Nat, k ≤ xs.length ∧ i = .int .i64 k ∧ (xs.take k).any (fun y => x == y) = false) (fun i => xs.length - (intOf i).toNat)
  case atStart => exact ⟨0, by omega, rfl, by simp⟩
  case round =>
    obtain ⟨k, hk, rfl, hh⟩ := hrel
    by_cases hlt : k < xs.length
    · obtain ⟨b, o, rfl, hb, hc⟩ := hr k hlt
      have hck := hc k hlt
      have H := hide hh
      cases hx : (x == xs[k])
      · have HX := hide hx
        clear hr hc hh
        go_wp2
        go_round
        case rel => exact ⟨k + 1, by omega, by go_num, by rw [any_take_succ hlt, H.out, HX.out]; rfl⟩
        case measure => simp [intOf]; omega
      · have HX := hide hx
        clear hr hc hh
        go_wp2
        go_ret
        exact ⟨ret_bool (by rw [hasInt, List.any_eq_true.2 ⟨xs[k], by simp, HX.out⟩]), rfl⟩
    · have e : xs.take k = xs := List.take_of_length_le (by omega)
      rw [e] at hh
      have H := hide hh
      clear hr hh e
      go_wp2
      go_ret
      exact ⟨ret_bool H.out.symm, rfl⟩

/-- The place of an integer in a list, or -1. -/
def fnd (l : List Int) (x : Int) : Int := if x ∈ l then (l.idxOf x : Int) else -1

theorem fnd_none {l : List Int} {x : Int} (h : ∀ j (hj : j < l.length), l[j] ≠ x) : fnd l x = -1 := by
  refine if_neg fun hm => ?_
  obtain ⟨j, hj, e⟩ := List.getElem_of_mem hm
  exact h j hj e
theorem fnd_some {l : List Int} {x : Int} {k : Nat} (hk : k < l.length) (h : ∀ j (hj : j < l.length), j < k → l[j] ≠ x) (e : l[k] = x) : fnd l x = k := by
  have hm : x ∈ l := e ▸ List.getElem_mem hk
  rw [fnd, if_pos hm]
  have h1 : l.idxOf x ≤ k := by
    have h3 : x ∈ l.take (k + 1) := by
      rw [List.take_succ_eq_append_getElem hk]
      exact List.mem_append_right _ (by simp [e])
    have h4 := List.idxOf_lt_length_of_mem h3
    have h5 := List.idxOf_append (l₁ := l.take (k + 1)) (l₂ := l.drop (k + 1)) (a := x)
    rw [List.take_append_drop, if_pos h3] at h5
    rw [List.length_take] at h4
    omega
  have h2 : ¬ l.idxOf x < k := fun hlt => h _ (by omega) hlt (List.getElem_idxOf (by omega))
  omega


/-- Is n from lo to hi? -/
def in01 (n lo hi : Int) : Bool := decide (lo ≤ n) && decide (n ≤ hi)
theorem in01_true {n lo hi : Int} (h1 : lo ≤ n) (h2 : n ≤ hi) : in01 n lo hi = true := by simp [in01, h1, h2]
theorem in01_iff {n lo hi : Int} : in01 n lo hi = true ↔ lo ≤ n ∧ n ≤ hi := by simp [in01]
theorem in01_false {n lo hi : Int} (h : ¬ (lo ≤ n ∧ n ≤ hi)) : in01 n lo hi = false := by
  cases e : in01 n lo hi
  · rfl
  · exact absurd (in01_iff.1 e) h

theorem l01In_calls (n lo hi : Int) (w : World) : Same Try.prog 40 #[.int .i64 n, .int .i64 lo, .int .i64 hi] w (.bool (in01 n lo hi)) := by
  unfold Same
  by_cases h : lo ≤ n
  · by_cases h' : n ≤ hi
    · have H := hide (in01_true h h')
      go_enter Try.func40, Try.ntmps40
      go_wp2
      go_ret
      exact ⟨ret_bool (by rw [H.out]), rfl⟩
    · have H := hide (in01_false (n := n) (lo := lo) (hi := hi) (by omega))
      go_enter Try.func40, Try.ntmps40
      go_wp2
      go_ret
      exact ⟨ret_bool (by rw [H.out]), rfl⟩
  · have H := hide (in01_false (n := n) (lo := lo) (hi := hi) (by omega))
    go_enter Try.func40, Try.ntmps40
    go_wp2
    go_ret
    exact ⟨ret_bool (by rw [H.out]), rfl⟩

end Go.Proofs.Ytgpnahjnhdchaaa
