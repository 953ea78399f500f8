/- FnExactFacesOfSaid: for every input the law FnExactFacesOf returns true and its argument reads as before. No condition. -/
import Derived.Test.YtpllghhgndfkhaaQFPlFaceWalk
import Derived.Test.YtpllghhgndfkhaaQFPlOpen
namespace Go.Proofs.Ytpllghhgndfkhaa.PFnExactFacesOf
open Go.RowKit Go.ChangeShapes Go.WideShapes Go.ChangeAt Go.Deep Go.Proofs.YtpllghhgndfkhaaW.PrintWords

theorem inner_max {W : World} {A : Option Addr} {ar : List (List Int)} (h : Kd.C (Kd.slice 3 (Kd.int .i64)) W A ar.length ar) : ∀ x ∈ ar, x.length ≤ 9223372036854775807 := by
  intro x hx
  obtain ⟨i, hi, rfl⟩ := List.getElem_of_mem hx
  obtain ⟨ad, _, hc⟩ := h.2.2 (by omega)
  obtain ⟨c, _, hK, _⟩ := hc i _ (List.getElem?_eq_getElem hi)
  obtain ⟨_, _, _, _, hC⟩ := hK
  exact hC.2.1

set_option maxRecDepth 100000 in
theorem lifted (os : Os) (started : os.Started) (H : Type) (enc : TypeId × Value → H) :
    ReturnsInHanded {} Try.checked os 3 .any (Rows.fnExactFacesOfSpec.pre6 enc Try.prog Try.f3 Rows.fnExactFacesOfRow.domain false) (Rows.fnExactFacesOfSpec.post enc Try.prog Try.f3 false true false false) := by
  refine returnsInHanded_of_change (C := Try.checked) own started (by kernel_rfl) Try.func3
    (ChangeSpec.witness6 (enc := enc) (C := Try.checked) false ⟨#[], #[.agg #[.int .i64 0, .slice none 0 0, .slice none 0 0]], []⟩ 8 (by kernel_rfl) (by kernel_rfl) (by kernel_rfl) (by kernel_rfl)) ?_
  intro W base args ds gs before hval0 hW hcnd _
  have hval : ∀ (j : Nat) t v, Try.f3.params[j]? = some t → args[j]? = some v → Value.okWide Try.prog W .any base t v := hval0
  have hW' := hW
  obtain ⟨pl, ql, hA0, hV, rfl, hfz, hnd⟩ := hW
  have hA : DataW.TrodAll enc Try.prog W 0 (fun _ => true) true Try.f3.params.toList args.toList ds pl := hA0
  rw [Try.params3] at hA hval
  obtain ⟨v0, d0, rfl, rfl, h0⟩ := trodAll_one hA
  obtain ⟨rfl, rfl⟩ := trodVars_none hV
  have h0k := h0
  have hlt0 : ∀ x ∈ pl, x.block < W.heap.size := fun x hx => hW'.lt x (List.mem_append_left _ hx)
  obtain ⟨N, A1, c1, es, A2, c2, ar, rfl, q1, q2, q3, q4⟩ := planar_open (hval 0 27 v0 rfl rfl) h0
  clear hA0 hval0
  refine (lawFaces_calls N A1 c1 es A2 c2 ar W ⟨q1, q2, q3, q4⟩ (inner_max q3)).mono fun e W' ⟨he, hb⟩ => ?_
  subst he
  refine ⟨_, rfl, _, _, _, [], pl, [], hW', ?_, ?_, ?_, Below.frame hb _, fun h => by cases h⟩
  · exact trodAll_mk1 (shut_bool Try.underlying4 _)
  · exact trodAll_mk1 (Below.trod laidOut (by kernel_rfl) (of_decide_eq_true (by kernel_rfl)) h0k hb hlt0)
  · exact rfl

theorem said : Rows.FnExactFacesOfSaid :=
  OpenClaim.holds_of_wide 3 Try.f3 rfl rfl rfl rfl rfl rfl rfl ⟨rfl, rfl, rfl, rfl, rfl⟩ rfl rfl rfl rfl rfl (by kernel_rfl) Try.func3 (by kernel_rfl)
    (of_decide_eq_true (by kernel_rfl)) (by unfold Func.isWrapper; first | (rw [if_pos (by decide +kernel)]; kernel_rfl) | (rw [if_neg (by decide +kernel)]; exact ⟨rfl, rfl⟩))
    (fun os started H enc _ => lifted os started H enc)

end Go.Proofs.Ytpllghhgndfkhaa.PFnExactFacesOf

namespace Go.Proofs.Ytpllghhgndfkhaa
theorem facesOf_holds : Rows.FnExactFacesOfSaid := PFnExactFacesOf.said
#print axioms facesOf_holds
end Go.Proofs.Ytpllghhgndfkhaa
