/- The laws' arguments, opened: what can be read as data reads as lists of integers, tensors and so on; and the last step from a walk to a given statement. -/
import Derived.Test.YtgpnahjnhdchaaaInts
import Derived.Test.YtgpnahjnhdchaaaRows
import Derived.ProofKit
import Derived.Deep.Slices
import Derived.Deep.Fields
import Derived.Lib.SmallJoins
namespace Go.Proofs.Ytgpnahjnhdchaaa
open Go.RowKit Go.ChangeShapes Go.WideShapes Go.Deep Go.Joins

theorem Try.own : ownKnob Try.prog.godebug = none := by kernel_rfl
theorem Try.laidOut : laidOutB Try.prog = true := by kernel_rfl

section
variable {H : Type} {enc : TypeId × Value → H} {P : Program} {w : World} {held : Bool}

/-- All are int64. -/
def I64 (xs : List Int) : Prop := ∀ x ∈ xs, -9223372036854775808 ≤ x ∧ x ≤ 9223372036854775807

theorem i64_of_wf {x : Int} (h : (Lit.int .i64 x).wf = true) : -9223372036854775808 ≤ x ∧ x ≤ 9223372036854775807 := by
  simp [Lit.wf, IntKind.min, IntKind.max, IntKind.signed, IntKind.bits] at h
  exact ⟨by omega, by omega⟩

theorem ints_open {t e : TypeId} {n : Nat} {v : Value} {y : DataW H × List MemPlace} (ht : P.underlying t = some (.slice e)) (he : P.underlying e = some (.int .i64)) (hc : P.cellsOf e = 1)
    (h : DataW.trod enc P w 0 (fun _ => true) held n t [v] = some y) : ∃ A c xs, v = .slice A (xs : List Int).length c ∧ Ints w A c xs ∧ I64 xs := by
  rcases open_ints ht he hc h with ⟨hcs, _⟩ | ⟨a, len, cap, zs, hcs, _, hl, hm, hz, _, hcell, hwz⟩
  · exact ⟨none, 0, [], by simpa using hcs, Ints.nil _ _ _ (by omega), fun x hx => by cases hx⟩
  · simp only [if_true] at hz
    have hlen : (zs.take len).length = len := by simp; omega
    refine ⟨some a, cap, zs.take len, by rw [hlen]; simpa using hcs, ⟨by omega, by simpa [maxLen] using hm, fun k hk => ?_⟩, fun x hx => i64_of_wf (hwz x (List.mem_of_mem_take hx))⟩
    have hk' : k < len := by omega
    obtain ⟨b, o, spot⟩ := a
    have h0 := hcell 0 (by omega)
    have hsp : spot = none := by simpa [Addr.add] using World.cell?_spot h0
    subst hsp
    refine ⟨b, o, rfl, ?_, fun j hj => ?_⟩
    · have := World.block_lt_of_cell? w _ h0
      simpa [Addr.add] using this
    · have hj' : j < zs.length := by rw [hlen] at hj; omega
      have := hcell j hj'
      rw [Addr.add_lit] at this
      rw [this]
      simp [List.getD, hj']

/-- The three cells of a struct of three one-cell fields, read one by one. -/
theorem three_open {t : TypeId} {f0 f1 f2 : Field} {n : Nat} {cs : List Value} {y : DataW H × List MemPlace} (hs : P.underlying t = some (.struct #[f0, f1, f2])) (hone : oneCellFields P #[f0, f1, f2] = true) (hC : P.cellsOf t = 3)
    (h : DataW.trod enc P w 0 (fun _ => true) held n t cs = some y) : ∃ v0 v1 v2 m y0 y1 y2, cs = [v0, v1, v2] ∧ DataW.trod enc P w 0 (fun _ => true) held m f0.type [v0] = some y0 ∧ DataW.trod enc P w 0 (fun _ => true) held m f1.type [v1] = some y1 ∧
      DataW.trod enc P w 0 (fun _ => true) held m f2.type [v2] = some y2 := by
  obtain ⟨xs, m, _, _, hlen, hxl, hf⟩ := DataW.trod_struct hs h
  obtain ⟨o0, k0⟩ := hone_of hone 0 f0 rfl
  obtain ⟨o1, k1⟩ := hone_of hone 1 f1 rfl
  obtain ⟨o2, k2⟩ := hone_of hone 2 f2 rfl
  rw [hC] at hlen
  match cs, hlen, xs, hxl with
  | [v0, v1, v2], _, [y0, y1, y2], _ =>
    exact ⟨v0, v1, v2, m, y0, y1, y2, rfl, by simpa [o0, k0] using hf 0 f0 rfl, by simpa [o1, k1] using hf 1 f1 rfl, by simpa [o2, k2] using hf 2 f2 rfl⟩

/-- A field of type int. -/
theorem int_open {t : TypeId} {n : Nat} {v : Value} {y : DataW H × List MemPlace} (ht : P.underlying t = some (.int .i64)) (h : DataW.trod enc P w 0 (fun _ => true) held n t [v] = some y) :
    ∃ x : Int, v = .int .i64 x ∧ -9223372036854775808 ≤ x ∧ x ≤ 9223372036854775807 := by
  obtain ⟨x, h1, _, hw⟩ := DataW.trod_int ht h
  simp at h1
  subst h1
  exact ⟨x, rfl, i64_of_wf hw⟩
end

end Go.Proofs.Ytgpnahjnhdchaaa
