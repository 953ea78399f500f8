/- The laws' arguments, opened: what can be read as data reads as lists, in the words of the machine side. -/
import Derived.Test.YtpllghhgndfkhaaQO0
import Derived.Test.YtpllghhgndfkhaaRows
import Derived.ProofKit
import Derived.Deep.Slices
import Derived.Deep.Fields
import Derived.Lib.SmallJoins
namespace Go.Proofs.Ytpllghhgndfkhaa.PFnExactOrientedMatrix
open Go.RowKit Go.ChangeShapes Go.WideShapes Go.Deep Go.Joins Go.Proofs.YtpllghhgndfkhaaW.PrintWords

theorem own : ownKnob Try.prog.godebug = none := by kernel_rfl
theorem laidOut : laidOutB Try.prog = true := by kernel_rfl

section
variable {H : Type} {enc : TypeId × Value → H} {P : Program} {w : World} {held : Bool}

theorem i64_of_wf {x : Int} (h : (Lit.int .i64 x).wf = true) : -9223372036854775808 ≤ x ∧ x ≤ 9223372036854775807 := by
  simp [Lit.wf, IntKind.min, IntKind.max, IntKind.signed, IntKind.bits] at h
  exact ⟨by omega, by omega⟩
/-- A field of type int. -/
theorem int_open {t : TypeId} {n : Nat} {v : Value} {y : DataW H × List MemPlace} (ht : P.underlying t = some (.int .i64)) (h : DataW.trod enc P w 0 (fun _ => true) held n t [v] = some y) :
    ∃ x : Int, v = .int .i64 x ∧ -9223372036854775808 ≤ x ∧ x ≤ 9223372036854775807 := by
  obtain ⟨x, h1, _, hw⟩ := DataW.trod_int ht h
  simp at h1
  subst h1
  exact ⟨x, rfl, i64_of_wf hw⟩

/-- Whatever reads as data of type e reads by the kind d. -/
def Opens (enc : TypeId × Value → H) (P : Program) (w : World) (held : Bool) (e : TypeId) {α : Type} (d : Kd α) : Prop :=
  ∀ (n : Nat) (cs : List Value) (y : DataW H × List MemPlace), DataW.trod enc P w 0 (fun _ => true) held n e cs = some y → ∃ x, d.K w x cs

theorem slice_open {α : Type} [Inhabited α] {d : Kd α} {t e : TypeId} {n : Nat} {v : Value} {y : DataW H × List MemPlace} (ht : P.underlying t = some (.slice e)) (hsz : P.cellsOf e = d.sz) (hE : Opens enc P w held e d)
    (h : DataW.trod enc P w 0 (fun _ => true) held n t [v] = some y) : ∃ (A : Option Addr) (c : Nat) (l : List α), v = .slice A l.length c ∧ d.C w A l.length l ∧ l.length ≤ c := by
  rcases open_slice ht h with ⟨hcs, _⟩ | ⟨a, len, cap, m, k, D, Pl, hcs, _, hl, hm, hmm, _, hx⟩
  · exact ⟨none, 0, [], by simpa using hcs, ⟨rfl, by simp, fun h => absurd h (by simp)⟩, by simp⟩
  · simp only [if_true] at hmm
    subst hmm
    obtain ⟨g, hg⟩ := choose_lt (α := α) (n := len) (p := fun i u => ∃ cs', w.cells? 0 (a.add (i * P.cellsOf e)) (P.cellsOf e) = some cs' ∧ d.K w u cs') (fun i hi => by
      obtain ⟨cs', h1, h2⟩ := hx i (by omega)
      obtain ⟨u, hu⟩ := hE _ _ _ h2
      exact ⟨u, cs', h1, hu⟩)
    refine ⟨some a, m, (List.range len).map g, by simpa using hcs, ⟨rfl, by simp [maxLen] at hm ⊢; omega, fun _ => ⟨a, rfl, fun j p hp => ?_⟩⟩, by simpa using hl⟩
    have hj : j < len := by
      have := (List.getElem?_eq_some_iff.1 hp).1
      simpa using this
    have hp' : p = g j := by
      rw [List.getElem?_map, List.getElem?_range hj] at hp
      simpa using hp.symm
    subst hp'
    obtain ⟨cs', h1, hK⟩ := hg j hj
    obtain ⟨_, hlen, hcell⟩ := World.cells?_some h1
    refine ⟨cs', d.K_len hK, hK, fun i u hu => ?_⟩
    have hi := (List.getElem?_eq_some_iff.1 hu).1
    have := hcell i (by omega)
    rw [← hsz, ← Go.Deep.add_add, this, ← hu, List.getElem?_eq_getElem hi]

theorem int_opens {e : TypeId} (ht : P.underlying e = some (.int .i64)) (_ : P.cellsOf e = 1) : Opens enc P w held e (Kd.int .i64) := by
  intro n cs y h
  obtain ⟨x, h1, _, hw⟩ := DataW.trod_int ht h
  exact ⟨x, h1⟩
theorem slice_opens {α : Type} [Inhabited α] {d : Kd α} {t e : TypeId} (ht : P.underlying t = some (.slice e)) (hsz : P.cellsOf e = d.sz) (_ : P.cellsOf t = 1) (hE : Opens enc P w held e d) : Opens enc P w held t (Kd.slice e d) := by
  intro n cs y h
  have hlen : ∃ v, cs = [v] := by
    rcases open_slice ht h with ⟨hcs, _⟩ | ⟨a, len, cap, m, k, D, Pl, hcs, _⟩
    · exact ⟨_, hcs⟩
    · exact ⟨_, hcs⟩
  obtain ⟨v, rfl⟩ := hlen
  obtain ⟨A, c, l, rfl, h1, h2⟩ := slice_open ht hsz hE h
  exact ⟨l, A, c, rfl, h2, h1⟩

/-- A struct of two one-cell fields of type int. -/
theorem pair_opens {t e : TypeId} {f0 f1 : Field} (hs : P.underlying t = some (.struct #[f0, f1])) (hone : oneCellFields P #[f0, f1] = true) (hC : P.cellsOf t = 2) (e0 : f0.type = e) (e1 : f1.type = e) (he : P.underlying e = some (.int .i64))
    {n : Nat} {cs : List Value} {y : DataW H × List MemPlace} (h : DataW.trod enc P w 0 (fun _ => true) held n t cs = some y) : ∃ x0 x1 : Int, cs = [.int .i64 x0, .int .i64 x1] := by
  obtain ⟨xs, m, _, _, hlen, hxl, hf⟩ := DataW.trod_struct hs h
  obtain ⟨o0, k0⟩ := hone_of hone 0 f0 rfl
  obtain ⟨o1, k1⟩ := hone_of hone 1 f1 rfl
  rw [hC] at hlen
  match cs, hlen, xs, hxl with
  | [v0, v1], _, [y0, y1], _ =>
    have t0 : DataW.trod enc P w 0 (fun _ => true) held m f0.type [v0] = some y0 := by simpa [o0, k0] using hf 0 f0 rfl
    have t1 : DataW.trod enc P w 0 (fun _ => true) held m f1.type [v1] = some y1 := by simpa [o1, k1] using hf 1 f1 rfl
    rw [e0] at t0
    rw [e1] at t1
    obtain ⟨x0, rfl, _⟩ := int_open he t0
    obtain ⟨x1, rfl, _⟩ := int_open he t1
    exact ⟨x0, x1, rfl⟩
end

instance : Inhabited S127 := ⟨z127⟩
theorem edge_opens {H : Type} {enc : TypeId × Value → H} {w : World} {held : Bool} : Opens enc Try.prog w held 127 k127 := by
  intro n cs y h
  obtain ⟨x0, x1, rfl⟩ := pair_opens Try.underlying127 (by kernel_rfl) (by kernel_rfl) rfl rfl Try.underlying3 h
  exact ⟨⟨x0, x1⟩, k127_mk w ⟨x0, x1⟩⟩
theorem intSS_opens {H : Type} {enc : TypeId × Value → H} {w : World} {held : Bool} : Opens enc Try.prog w held 42 (Kd.slice 3 (Kd.int .i64)) :=
  slice_opens Try.underlying42 (by kernel_rfl) (by kernel_rfl) (int_opens Try.underlying3 (by kernel_rfl))

set_option maxRecDepth 100000 in
theorem planar_open {H : Type} {enc : TypeId × Value → H} {W : World} {v : Value} {d : DataW H} {p : List MemPlace} (hv : Value.okWide Try.prog W .any 0 27 v)
    (h : DataW.Trod enc Try.prog W 0 (fun _ => true) true 27 v d p) : ∃ (N : Int) (A1 : Option Addr) (c1 : Nat) (es : List S127) (A2 : Option Addr) (c2 : Nat) (ar : List (List Int)),
      v = .agg #[.int .i64 N, .slice A1 es.length c1, .slice A2 ar.length c2] ∧ Kd.C k127 W A1 es.length es ∧ es.length ≤ c1 ∧ Kd.C (Kd.slice 3 (Kd.int .i64)) W A2 ar.length ar ∧ ar.length ≤ c2 := by
  obtain ⟨cs, rfl, hsz⟩ := okWide_struct Try.underlying27 hv
  obtain ⟨fuel, hf⟩ := h
  obtain ⟨l⟩ := cs
  have hC : Try.prog.cellsOf 27 = 3 := by kernel_rfl
  obtain ⟨xs, m, _, _, hlen, hxl, hg⟩ := DataW.trod_struct Try.underlying27 hf
  rw [hC] at hlen
  match l, hlen, xs, hxl with
  | [v0, v1, v2], _, [y0, y1], _ =>
    have g0 := hg 0 _ rfl
    have g1 := hg 1 _ rfl
    have t0 : DataW.trod enc Try.prog W 0 (fun _ => true) true m 24 [v0, v1] = some y0 := by
      have e : Try.prog.cellsOf 24 = 2 := by kernel_rfl
      simpa [Value.cells, e] using g0
    have t1 : DataW.trod enc Try.prog W 0 (fun _ => true) true m 25 [v2] = some y1 := by
      have e : Try.prog.cellsOf 25 = 1 := by kernel_rfl
      simpa [Value.cells, e] using g1
    obtain ⟨xs', m', _, _, _, hxl', hg'⟩ := DataW.trod_struct Try.underlying24 t0
    match xs', hxl' with
    | [z0, z1], _ =>
      have u0 : DataW.trod enc Try.prog W 0 (fun _ => true) true m' 3 [v0] = some z0 := by
        have e : Try.prog.cellsOf 3 = 1 := by kernel_rfl
        simpa [e] using hg' 0 _ rfl
      have u1 : DataW.trod enc Try.prog W 0 (fun _ => true) true m' 22 [v1] = some z1 := by
        have e : Try.prog.cellsOf 22 = 1 := by kernel_rfl
        simpa [e] using hg' 1 _ rfl
      obtain ⟨N, rfl, _⟩ := int_open Try.underlying3 u0
      obtain ⟨A1, c1, es, rfl, h1, h2⟩ := slice_open Try.underlying22 (by kernel_rfl) edge_opens u1
      obtain ⟨A2, c2, ar, rfl, h3, h4⟩ := slice_open Try.underlying25 (by kernel_rfl) intSS_opens t1
      exact ⟨N, A1, c1, es, A2, c2, ar, rfl, h1, h2, h3, h4⟩

end Go.Proofs.Ytpllghhgndfkhaa.PFnExactOrientedMatrix
