/- Structs of three one-cell fields in a row: three cells an element. -/
import Derived.Test.YtgpnahjnhdchaaaInts
namespace Go.Proofs.Ytgpnahjnhdchaaa
open Go.RowKit

/-! ### Triples of cells in a row -/

def flat3 (vs : List (Value × Value × Value)) : List Value := vs.flatMap fun v => [v.1, v.2.1, v.2.2]

theorem flat3_cons (v : Value × Value × Value) (vs : List (Value × Value × Value)) : flat3 (v :: vs) = v.1 :: v.2.1 :: v.2.2 :: flat3 vs := by simp [flat3]
theorem flat3_append (us vs : List (Value × Value × Value)) : flat3 (us ++ vs) = flat3 us ++ flat3 vs := by simp [flat3]
theorem flat3_length (vs : List (Value × Value × Value)) : (flat3 vs).length = vs.length * 3 := by
  induction vs with
  | nil => rfl
  | cons v vs ih => simp [flat3_cons, ih]; omega
theorem flat3_at (vs : List (Value × Value × Value)) : ∀ j (h : j < vs.length), (flat3 vs)[j * 3]? = some vs[j].1 ∧ (flat3 vs)[j * 3 + 1]? = some vs[j].2.1 ∧ (flat3 vs)[j * 3 + 2]? = some vs[j].2.2 := by
  induction vs with
  | nil => intro j h; simp at h
  | cons v vs ih =>
    intro j h
    cases j with
    | zero => simp [flat3_cons]
    | succ j =>
      have := ih j (by simpa using h)
      rw [flat3_cons, show (j + 1) * 3 = j * 3 + 3 by omega, show j * 3 + 3 + 1 = (j * 3 + 1) + 3 by omega, show j * 3 + 3 + 2 = (j * 3 + 2) + 3 by omega]
      simpa using this
theorem flat3_set (us : List (Value × Value × Value)) (z1 z2 z3 a b c : Value) (rest : List Value) (k : Nat) (hk : k = us.length) :
    (((flat3 us ++ z1 :: z2 :: z3 :: rest).set (k * 3) a).set (k * 3 + 1) b).set (k * 3 + 2) c = flat3 (us ++ [(a, b, c)]) ++ rest := by
  have hl := flat3_length us
  subst hk
  rw [List.set_append_right _ _ (by omega), List.set_append_right _ _ (by omega), List.set_append_right _ _ (by omega), hl, flat3_append]
  rw [show us.length * 3 - us.length * 3 = 0 by omega, show us.length * 3 + 1 - us.length * 3 = 1 by omega, show us.length * 3 + 2 - us.length * 3 = 2 by omega]
  simp [flat3]


/-- A row of triples behind which zeros stand, one more triple stored. -/
theorem flat3_store (vs : List (Value × Value × Value)) (z1 z2 z3 a b c : Value) (rest : List Value) (k : Nat) (hk : vs.length = k) :
    (((flat3 vs ++ z1 :: z2 :: z3 :: rest).toArray.setIfInBounds (k * 3) a).setIfInBounds (k * 3 + 1) b).setIfInBounds (k * 3 + 2) c = (flat3 (vs ++ [(a, b, c)]) ++ rest).toArray := by
  simp only [List.setIfInBounds_toArray]
  rw [flat3_set _ _ _ _ _ _ _ _ k hk.symm]

end Go.Proofs.Ytgpnahjnhdchaaa
