/- The laws' arguments that are circuits and Pauli operators, opened. -/
import Derived.Test.YtgpnahjnhdchaaaGate
import Derived.Test.YtgpnahjnhdchaaaOpenI
namespace Go.Proofs.Ytgpnahjnhdchaaa
open Go.RowKit Go.ChangeShapes Go.WideShapes Go.Deep Go.Joins

section
variable {H : Type} {enc : TypeId × Value → H} {P : Program} {w : World} {held : Bool}
instance : Inhabited Gt := ⟨⟨0, 0, 0⟩⟩

theorem gates_open {t s e : TypeId} {f0 f1 f2 : Field} {n : Nat} {v : Value} {y : DataW H × List MemPlace} (ht : P.underlying t = some (.slice s)) (hs : P.underlying s = some (.struct #[f0, f1, f2])) (hone : oneCellFields P #[f0, f1, f2] = true) (hC : P.cellsOf s = 3)
    (e0 : f0.type = e) (e1 : f1.type = e) (e2 : f2.type = e) (he : P.underlying e = some (.int .i64))
    (h : DataW.trod enc P w 0 (fun _ => true) held n t [v] = some y) : ∃ A c gs, v = .slice A (gs : List Gt).length c ∧ Gates w A c gs := by
  rcases open_slice ht h with ⟨hcs, _⟩ | ⟨a, len, cap, m, k, D, Pl, hcs, _, hl, hm, hmm, _, hx⟩
  · exact ⟨none, 0, [], by simpa using hcs, by simp, by simp, fun k hk => by simp at hk⟩
  · simp only [if_true] at hmm
    subst hmm
    obtain ⟨g, hg⟩ := choose_lt (α := Gt) (n := len) (p := fun i u => w.cell? (a.add (i * 3)) = some (.int .i64 u.k) ∧ w.cell? ((a.add (i * 3)).add 1) = some (.int .i64 u.a) ∧
        w.cell? ((a.add (i * 3)).add 2) = some (.int .i64 u.b)) (fun i hi => by
      obtain ⟨cs', h1, h2⟩ := hx i (by omega)
      rw [hC] at h1
      obtain ⟨_, _, hcell⟩ := World.cells?_some h1
      obtain ⟨v0, v1, v2, m, y0, y1, y2, rfl, t0, t1, t2⟩ := three_open hs hone hC h2
      rw [e0] at t0
      rw [e1] at t1
      rw [e2] at t2
      obtain ⟨x0, rfl, _⟩ := int_open he t0
      obtain ⟨x1, rfl, _⟩ := int_open he t1
      obtain ⟨x2, rfl, _⟩ := int_open he t2
      have g0 := hcell 0 (by omega)
      have g1 := hcell 1 (by omega)
      have g2 := hcell 2 (by omega)
      refine ⟨⟨x0, x1, x2⟩, ?_, ?_, ?_⟩
      · simpa [Addr.add] using g0
      · simpa using g1
      · simpa using g2)
    refine ⟨some a, m, (List.range len).map g, by simpa using hcs, by simpa using hl, by simp [maxLen] at hm ⊢; omega, fun k hk => ?_⟩
    obtain ⟨b, o, spot⟩ := a
    have hk0 : 0 < len := by simp at hk; omega
    have h0 := (hg 0 hk0).1
    have hsp : spot = none := by simpa [Addr.add] using World.cell?_spot h0
    subst hsp
    refine ⟨b, o, rfl, ?_, fun j hj => ?_⟩
    · have := World.block_lt_of_cell? w _ h0
      simpa [Addr.add] using this
    · have hj' : j < len := by simpa using hj
      obtain ⟨a2, a3, a4⟩ := hg j hj'
      simp only [Addr.add_lit] at a2 a3 a4
      simpa using ⟨a2, a3, a4⟩
end

set_option maxRecDepth 100000 in
theorem circuit_open {H : Type} {enc : TypeId × Value → H} {W : World} {v : Value} {d : DataW H} {p : List MemPlace} (hv : Value.okWide Try.prog W .any 0 24 v)
    (h : DataW.Trod enc Try.prog W 0 (fun _ => true) true 24 v d p) : ∃ P Q A c gs, v = .agg #[.int .i64 P, .int .i64 Q, .slice A (gs : List Gt).length c] ∧ Gates W A c gs ∧
      (-9223372036854775808 ≤ P ∧ P ≤ 9223372036854775807) ∧ (-9223372036854775808 ≤ Q ∧ Q ≤ 9223372036854775807) := by
  obtain ⟨cs, rfl, hsz⟩ := okWide_struct Try.underlying24 hv
  obtain ⟨fuel, hf⟩ := h
  have hC : Try.prog.cellsOf 24 = 3 := by kernel_rfl
  obtain ⟨l⟩ := cs
  obtain ⟨v0, v1, v2, m, y0, y1, y2, e, t0, t1, t2⟩ := three_open Try.underlying24 (by kernel_rfl) hC hf
  simp only [Value.cells] at e
  subst e
  obtain ⟨x0, rfl, b0⟩ := int_open Try.underlying3 t0
  obtain ⟨x1, rfl, b1⟩ := int_open Try.underlying3 t1
  obtain ⟨A, c, gs, rfl, hg⟩ := gates_open Try.underlying22 Try.underlying100 (by kernel_rfl) (by kernel_rfl) rfl rfl rfl Try.underlying3 t2
  exact ⟨x0, x1, A, c, gs, rfl, hg, b0, b1⟩

set_option maxRecDepth 100000 in
theorem pauli_open {H : Type} {enc : TypeId × Value → H} {W : World} {v : Value} {d : DataW H} {p : List MemPlace} (hv : Value.okWide Try.prog W .any 0 26 v)
    (h : DataW.Trod enc Try.prog W 0 (fun _ => true) true 26 v d p) : ∃ x y z, v = .agg #[.int .i64 x, .int .i64 y, .int .i64 z] ∧
      (-9223372036854775808 ≤ x ∧ x ≤ 9223372036854775807) ∧ (-9223372036854775808 ≤ y ∧ y ≤ 9223372036854775807) ∧ (-9223372036854775808 ≤ z ∧ z ≤ 9223372036854775807) := by
  obtain ⟨cs, rfl, hsz⟩ := okWide_struct Try.underlying26 hv
  obtain ⟨fuel, hf⟩ := h
  have hC : Try.prog.cellsOf 26 = 3 := by kernel_rfl
  obtain ⟨l⟩ := cs
  obtain ⟨v0, v1, v2, m, y0, y1, y2, e, t0, t1, t2⟩ := three_open Try.underlying26 (by kernel_rfl) hC hf
  simp only [Value.cells] at e
  subst e
  obtain ⟨x0, rfl, b0⟩ := int_open Try.underlying3 t0
  obtain ⟨x1, rfl, b1⟩ := int_open Try.underlying3 t1
  obtain ⟨x2, rfl, b2⟩ := int_open Try.underlying3 t2
  exact ⟨x0, x1, x2, rfl, b0, b1, b2⟩

end Go.Proofs.Ytgpnahjnhdchaaa
