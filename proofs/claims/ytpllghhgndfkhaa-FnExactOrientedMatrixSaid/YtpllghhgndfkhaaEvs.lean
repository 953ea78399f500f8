/- A function with a number of rounds comes to an answer; small facts on numbers and lists. -/
import Derived.Test.YtpllghhgndfkhaaProg
import Derived.WalkKit
namespace Go.Proofs.Ytpllghhgndfkhaa
open Go.RowKit

/-- With enough rounds the answer is r. -/
def Evs {α : Type} (g : Nat → Option α) (r : α) : Prop := ∃ K, ∀ k, K ≤ k → g k = some r

section
variable {α β : Type} {g g' : Nat → Option α} {r : α} {s : β}
theorem Evs.const (r : α) : Evs (fun _ => some r) r := ⟨0, fun _ _ => rfl⟩
theorem Evs.of {h : ∀ k, g k = some r} : Evs g r := ⟨0, fun k _ => h k⟩
theorem Evs.eq (h : ∀ k, g k = g' k) (h' : Evs g' r) : Evs g r := by
  obtain ⟨K, hK⟩ := h'
  exact ⟨K, fun k hk => (h k).trans (hK k hk)⟩
theorem Evs.step (h : ∀ k, g (k + 1) = g' k) (h' : Evs g' r) : Evs g r := by
  obtain ⟨K, hK⟩ := h'
  refine ⟨K + 1, fun k hk => ?_⟩
  obtain ⟨k, rfl⟩ : ∃ m, k = m + 1 := ⟨k - 1, by omega⟩
  exact (h k).trans (hK k (by omega))
theorem Evs.bind {f : Nat → α → Option β} (h : Evs g r) (h' : Evs (fun k => f k r) s) : Evs (fun k => (g k).bind (f k)) s := by
  obtain ⟨K, hK⟩ := h
  obtain ⟨K', hK'⟩ := h'
  refine ⟨max K K', fun k hk => ?_⟩
  show (g k).bind (f k) = some s
  rw [hK k (by omega), Option.bind_some]
  exact hK' k (by omega)
theorem Evs.bindc {o : Option α} {f : Nat → α → Option β} (h : o = some r) (h' : Evs (fun k => f k r) s) : Evs (fun k => o.bind (f k)) s := by
  subst h
  exact h'
theorem Evs.pos {c : Prop} [Decidable c] {h1 : Nat → Option α} (hc : c) (h : Evs g r) : Evs (fun k => if c then g k else h1 k) r := by
  simp only [if_pos hc]; exact h
theorem Evs.neg {c : Prop} [Decidable c] {h1 : Nat → Option α} (hc : ¬ c) (h : Evs g r) : Evs (fun k => if c then h1 k else g k) r := by
  simp only [if_neg hc]; exact h
theorem Evs.yes {h1 : Nat → Option α} (h : Evs g r) : Evs (fun k => if true = true then g k else h1 k) r := Evs.pos rfl h
theorem Evs.tru {h1 : Nat → Option α} (h : Evs g r) : Evs (fun k => if True then g k else h1 k) r := Evs.pos trivial h
theorem Evs.no {h1 : Nat → Option α} (h : Evs g r) : Evs (fun k => if false = true then h1 k else g k) r := Evs.neg (by simp) h
theorem Evs.at_ (h : Evs g r) : ∃ k, g k = some r := by
  obtain ⟨K, hK⟩ := h
  exact ⟨K, hK K (Nat.le_refl _)⟩
theorem Evs.inj (h : Evs g r) {r' : α} (h' : Evs g r') : r = r' := by
  obtain ⟨K, hK⟩ := h
  obtain ⟨K', hK'⟩ := h'
  have h1 := hK (max K K') (by omega)
  rw [hK' (max K K') (by omega)] at h1
  exact (Option.some.inj h1).symm
end

theorem w64 {x : Int} (h1 : -9223372036854775808 ≤ x) (h2 : x ≤ 9223372036854775807) : wrap64 x = x := IntWalk.wrap64_in _ ⟨h1, h2⟩

theorem getD_lt {α : Type} {l : List α} {d : α} {i : Nat} (h : i < l.length) : l.getD i d = l[i] := by
  simp [h]
theorem getD_cast {α : Type} {l : List α} {d : α} {i : Nat} (h : i < l.length) : l.getD ((i : Int)).toNat d = l[i] := by
  simp [h]

end Go.Proofs.Ytpllghhgndfkhaa
