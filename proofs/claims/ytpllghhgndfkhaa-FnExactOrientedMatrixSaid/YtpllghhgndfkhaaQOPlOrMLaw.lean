/- FnExactOrientedMatrixSaid: for every input the law FnExactOrientedMatrix returns true and its arguments read as before. No condition. -/
import Derived.Test.YtpllghhgndfkhaaQOPlOrMWalk
import Derived.Test.YtpllghhgndfkhaaQOPlOpen
namespace Go.Proofs.Ytpllghhgndfkhaa.PFnExactOrientedMatrix
open Go.RowKit Go.ChangeShapes Go.WideShapes Go.ChangeAt Go.Deep Go.Proofs.YtpllghhgndfkhaaW.PrintWords

theorem inner_max {W : World} {A : Option Addr} {ar : List (List Int)} (h : Kd.C (Kd.slice 3 (Kd.int .i64)) W A ar.length ar) : ∀ x ∈ ar, x.length ≤ 9223372036854775807 := by
  intro x hx
  obtain ⟨i, hi, rfl⟩ := List.getElem_of_mem hx
  obtain ⟨ad, _, hc⟩ := h.2.2 (by omega)
  obtain ⟨c, _, hK, _⟩ := hc i _ (List.getElem?_eq_getElem hi)
  obtain ⟨_, _, _, _, hC⟩ := hK
  exact hC.2.1

set_option maxRecDepth 100000 in
theorem ints_arg {H : Type} {enc : TypeId × Value → H} {W : World} {v : Value} {d : DataW H} {p : List MemPlace} (hv : Value.okWide Try.prog W .any 0 42 v)
    (h : DataW.Trod enc Try.prog W 0 (fun _ => true) true 42 v d p) : ∃ (A : Option Addr) (c : Nat) (l : List Int), v = .slice A l.length c ∧ IntArg W A c l := by
  obtain ⟨a, n, c, rfl⟩ := okWide_slice Try.underlying42 hv
  obtain ⟨fuel, hf⟩ := h
  obtain ⟨A', c', l, e, h1, h2⟩ := slice_open (d := Kd.int .i64) Try.underlying42 (by kernel_rfl) (int_opens Try.underlying3 (by kernel_rfl)) (show DataW.trod enc Try.prog W 0 (fun _ => true) true fuel 42 [.slice a n c] = some (d, p) from hf)
  exact ⟨A', c', l, e, h1, h2⟩

set_option maxRecDepth 100000 in
theorem lifted (os : Os) (started : os.Started) (H : Type) (enc : TypeId × Value → H) :
    ReturnsInHanded {} Try.checked os 5 .any (Rows.fnExactOrientedMatrixSpec.pre6 enc Try.prog Try.f5 Rows.fnExactOrientedMatrixRow.domain false) (Rows.fnExactOrientedMatrixSpec.post enc Try.prog Try.f5 false true false false) := by
  refine returnsInHanded_of_change (C := Try.checked) own started (by kernel_rfl) Try.func5
    (ChangeSpec.witness6 (enc := enc) (C := Try.checked) false ⟨#[], #[.int .i64 0, .agg #[.int .i64 0, .slice none 0 0, .slice none 0 0], .slice none 0 0], []⟩ 8 (by kernel_rfl) (by kernel_rfl) (by kernel_rfl) (by kernel_rfl)) ?_
  intro W base args ds gs before hval0 hW hcnd _
  have hval : ∀ (j : Nat) t v, Try.f5.params[j]? = some t → args[j]? = some v → Value.okWide Try.prog W .any base t v := hval0
  have hW' := hW
  obtain ⟨pl, ql, hA0, hV, rfl, hfz, hnd⟩ := hW
  have hA : DataW.TrodAll enc Try.prog W 0 (fun _ => true) true Try.f5.params.toList args.toList ds pl := hA0
  rw [Try.params5] at hA hval
  obtain ⟨v0, v1, v2, d0, d1, d2, p0, p1, p2, rfl, rfl, rfl, h0, h1, h2⟩ := trodAll_three hA
  obtain ⟨rfl, rfl⟩ := trodVars_none hV
  have h0k := h0
  have h1k := h1
  have h2k := h2
  have hlt : ∀ x ∈ p0 ++ p1 ++ p2, x.block < W.heap.size := fun x hx => hW'.lt x (List.mem_append_left _ hx)
  have hlt0 : ∀ x ∈ p0, x.block < W.heap.size := fun x hx => hlt x (List.mem_append_left _ (List.mem_append_left _ hx))
  have hlt1 : ∀ x ∈ p1, x.block < W.heap.size := fun x hx => hlt x (List.mem_append_left _ (List.mem_append_right _ hx))
  have hlt2 : ∀ x ∈ p2, x.block < W.heap.size := fun x hx => hlt x (List.mem_append_right _ hx)
  obtain ⟨x, rfl, _, _, _⟩ := Go.ChangeShapes.open_int Try.underlying3 (hval 0 3 v0 rfl rfl) h0
  obtain ⟨N, A1, c1, es, A2, c2, ar, rfl, q1, q2, q3, q4⟩ := planar_open (hval 1 27 v1 rfl rfl) h1
  obtain ⟨A3, c3, o, rfl, q5⟩ := ints_arg (hval 2 42 v2 rfl rfl) h2
  clear hA0 hval0
  refine (lawOrM_calls x N A1 c1 es A2 c2 ar A3 c3 o W ⟨q1, q2, q3, q4⟩ q5 (inner_max q3)).mono fun e W' ⟨he, hb⟩ => ?_
  subst he
  refine ⟨_, rfl, _, _, _, [], p0 ++ (p1 ++ p2), [], hW', ?_, ?_, ?_, by rw [List.append_assoc]; exact Below.frame hb _, fun h => by cases h⟩
  · exact trodAll_mk1 (shut_bool Try.underlying4 _)
  · exact trodAll_mk3 (Below.trod laidOut (by kernel_rfl) (of_decide_eq_true (by kernel_rfl)) h0k hb hlt0) (Below.trod laidOut (by kernel_rfl) (of_decide_eq_true (by kernel_rfl)) h1k hb hlt1) (Below.trod laidOut (by kernel_rfl) (of_decide_eq_true (by kernel_rfl)) h2k hb hlt2)
  · exact rfl

theorem said : Rows.FnExactOrientedMatrixSaid :=
  OpenClaim.holds_of_wide 5 Try.f5 rfl rfl rfl rfl rfl rfl rfl ⟨rfl, rfl, rfl, rfl, rfl⟩ rfl rfl rfl rfl rfl (by kernel_rfl) Try.func5 (by kernel_rfl)
    (of_decide_eq_true (by kernel_rfl)) (by unfold Func.isWrapper; first | (rw [if_pos (by decide +kernel)]; kernel_rfl) | (rw [if_neg (by decide +kernel)]; exact ⟨rfl, rfl⟩))
    (fun os started H enc _ => lifted os started H enc)

end Go.Proofs.Ytpllghhgndfkhaa.PFnExactOrientedMatrix

namespace Go.Proofs.Ytpllghhgndfkhaa
theorem orientedMatrix_holds : Rows.FnExactOrientedMatrixSaid := PFnExactOrientedMatrix.said
#print axioms orientedMatrix_holds
end Go.Proofs.Ytpllghhgndfkhaa
