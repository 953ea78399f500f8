/- The laws' arguments, opened: what can be read as data reads as lists of integers, tensors and so on; and the last step from a walk to a given statement. -/
import Derived.Test.YtkilgbdkekpnpaaTens
import Derived.Test.YtkilgbdkekpnpaaRows
import Derived.ProofKit
import Derived.Deep.Slices
import Derived.Deep.Fields
import Derived.Lib.SmallJoins
namespace Go.Proofs.Ytkilgbdkekpnpaa
open Go.RowKit Go.ChangeShapes Go.WideShapes Go.Deep Go.Joins

theorem Try.own : ownKnob Try.prog.godebug = none := by kernel_rfl
theorem Try.laidOut : laidOutB Try.prog = true := by kernel_rfl

section
variable {H : Type} {enc : TypeId × Value → H} {P : Program} {w : World} {held : Bool}

/-- All are int64. -/
def I64 (xs : List Int) : Prop := ∀ x ∈ xs, -9223372036854775808 ≤ x ∧ x ≤ 9223372036854775807

theorem i64_of_wf {x : Int} (h : (Lit.int .i64 x).wf = true) : -9223372036854775808 ≤ x ∧ x ≤ 9223372036854775807 := by
  simp [Lit.wf, IntKind.min, IntKind.max, IntKind.signed, IntKind.bits] at h
  exact ⟨by omega, by omega⟩

theorem ints_open {t e : TypeId} {n : Nat} {v : Value} {y : DataW H × List MemPlace} (ht : P.underlying t = some (.slice e)) (he : P.underlying e = some (.int .i64)) (hc : P.cellsOf e = 1)
    (h : DataW.trod enc P w 0 (fun _ => true) held n t [v] = some y) : ∃ A c xs, v = .slice A (xs : List Int).length c ∧ Ints w A c xs ∧ I64 xs := by
  rcases open_ints ht he hc h with ⟨hcs, _⟩ | ⟨a, len, cap, zs, hcs, _, hl, hm, hz, _, hcell, hwz⟩
  · exact ⟨none, 0, [], by simpa using hcs, Ints.nil _ _ _ (by omega), fun x hx => by cases hx⟩
  · simp only [if_true] at hz
    have hlen : (zs.take len).length = len := by simp; omega
    refine ⟨some a, cap, zs.take len, by rw [hlen]; simpa using hcs, ⟨by omega, by simpa [maxLen] using hm, fun k hk => ?_⟩, fun x hx => i64_of_wf (hwz x (List.mem_of_mem_take hx))⟩
    have hk' : k < len := by omega
    obtain ⟨b, o, spot⟩ := a
    have h0 := hcell 0 (by omega)
    have hsp : spot = none := by simpa [Addr.add] using World.cell?_spot h0
    subst hsp
    refine ⟨b, o, rfl, ?_, fun j hj => ?_⟩
    · have := World.block_lt_of_cell? w _ h0
      simpa [Addr.add] using this
    · have hj' : j < zs.length := by rw [hlen] at hj; omega
      have := hcell j hj'
      rw [Addr.add_lit] at this
      rw [this]
      simp [List.getD, hj']

/-- The three cells of a struct of three one-cell fields, read one by one. -/
theorem three_open {t : TypeId} {f0 f1 f2 : Field} {n : Nat} {cs : List Value} {y : DataW H × List MemPlace} (hs : P.underlying t = some (.struct #[f0, f1, f2])) (hone : oneCellFields P #[f0, f1, f2] = true) (hC : P.cellsOf t = 3)
    (h : DataW.trod enc P w 0 (fun _ => true) held n t cs = some y) : ∃ v0 v1 v2 m y0 y1 y2, cs = [v0, v1, v2] ∧ DataW.trod enc P w 0 (fun _ => true) held m f0.type [v0] = some y0 ∧ DataW.trod enc P w 0 (fun _ => true) held m f1.type [v1] = some y1 ∧
      DataW.trod enc P w 0 (fun _ => true) held m f2.type [v2] = some y2 := by
  obtain ⟨xs, m, _, _, hlen, hxl, hf⟩ := DataW.trod_struct hs h
  obtain ⟨o0, k0⟩ := hone_of hone 0 f0 rfl
  obtain ⟨o1, k1⟩ := hone_of hone 1 f1 rfl
  obtain ⟨o2, k2⟩ := hone_of hone 2 f2 rfl
  rw [hC] at hlen
  match cs, hlen, xs, hxl with
  | [v0, v1, v2], _, [y0, y1, y2], _ =>
    exact ⟨v0, v1, v2, m, y0, y1, y2, rfl, by simpa [o0, k0] using hf 0 f0 rfl, by simpa [o1, k1] using hf 1 f1 rfl, by simpa [o2, k2] using hf 2 f2 rfl⟩

instance : Inhabited Ten := ⟨⟨[], [], []⟩⟩
instance : Inhabited TR := ⟨⟨none, 0, none, 0, none, 0⟩⟩

theorem tens_open {t s q e : TypeId} {f0 f1 f2 : Field} {n : Nat} {v : Value} {y : DataW H × List MemPlace} (ht : P.underlying t = some (.slice s)) (hs : P.underlying s = some (.struct #[f0, f1, f2])) (hone : oneCellFields P #[f0, f1, f2] = true) (hC : P.cellsOf s = 3)
    (e0 : f0.type = q) (e1 : f1.type = q) (e2 : f2.type = q) (hq : P.underlying q = some (.slice e)) (he : P.underlying e = some (.int .i64)) (hc : P.cellsOf e = 1)
    (h : DataW.trod enc P w 0 (fun _ => true) held n t [v] = some y) : ∃ A c ts, v = .slice A (ts : List Ten).length c ∧ Tens w A c ts := by
  rcases open_slice ht h with ⟨hcs, _⟩ | ⟨a, len, cap, m, k, D, Pl, hcs, _, hl, hm, hmm, _, hx⟩
  · exact ⟨none, 0, [], by simpa using hcs, by simp, by omega, fun k hk => by simp at hk⟩
  · simp only [if_true] at hmm
    subst hmm
    obtain ⟨g, hg⟩ := choose_lt (α := TR × Ten) (n := len) (p := fun i u => IsTen w u.1 u.2 ∧ w.cell? (a.add (i * 3)) = some (.slice u.1.a1 u.2.l.length u.1.c1) ∧ w.cell? ((a.add (i * 3)).add 1) = some (.slice u.1.a2 u.2.d.length u.1.c2) ∧
        w.cell? ((a.add (i * 3)).add 2) = some (.slice u.1.a3 u.2.x.length u.1.c3)) (fun i hi => by
      obtain ⟨cs', h1, h2⟩ := hx i (by omega)
      rw [hC] at h1
      obtain ⟨_, _, hcell⟩ := World.cells?_some h1
      obtain ⟨v0, v1, v2, m, y0, y1, y2, rfl, t0, t1, t2⟩ := three_open hs hone hC h2
      rw [e0] at t0
      rw [e1] at t1
      rw [e2] at t2
      obtain ⟨A0, c0, x0, rfl, i0, _⟩ := ints_open hq he hc t0
      obtain ⟨A1, c1, x1, rfl, i1, _⟩ := ints_open hq he hc t1
      obtain ⟨A2, c2, x2, rfl, i2, _⟩ := ints_open hq he hc t2
      have g0 := hcell 0 (by omega)
      have g1 := hcell 1 (by omega)
      have g2 := hcell 2 (by omega)
      refine ⟨(⟨A0, c0, A1, c1, A2, c2⟩, ⟨x0, x1, x2⟩), ⟨i0, i1, i2⟩, ?_, ?_, ?_⟩
      · simpa [Addr.add] using g0
      · simpa using g1
      · simpa using g2)
    refine ⟨some a, m, (List.range len).map fun i => (g i).2, by simpa using hcs, by simpa using hl, by simpa [maxLen] using hm, fun k hk => ?_⟩
    obtain ⟨b, o, spot⟩ := a
    have hk0 : 0 < len := by simp at hk; omega
    have h0 := (hg 0 hk0).2.1
    have hsp : spot = none := by simpa [Addr.add] using World.cell?_spot h0
    subst hsp
    refine ⟨b, o, rfl, ?_, fun j hj => ⟨(g j).1, ?_⟩⟩
    · have := World.block_lt_of_cell? w _ h0
      simpa [Addr.add] using this
    · have hj' : j < len := by simpa using hj
      obtain ⟨a1, a2, a3, a4⟩ := hg j hj'
      simp only [Addr.add_lit] at a2 a3 a4
      simpa using ⟨a1, a2, a3, a4⟩
end

end Go.Proofs.Ytkilgbdkekpnpaa
