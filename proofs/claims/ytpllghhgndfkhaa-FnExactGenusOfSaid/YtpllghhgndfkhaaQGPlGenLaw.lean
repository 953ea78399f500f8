/- FnExactGenusOfSaid: for every input the law FnExactGenusOf returns true and its argument reads as before. No condition. -/
import Derived.Test.YtpllghhgndfkhaaQGPlComp
import Derived.Test.YtpllghhgndfkhaaQGPlMapLaw
import Derived.Test.YtpllghhgndfkhaaQGPlOpen
namespace Go.Proofs.Ytpllghhgndfkhaa.PFnExactGenusOf
open Go.RowKit Go.ChangeShapes Go.WideShapes Go.ChangeAt Go.Deep Go.Proofs.YtpllghhgndfkhaaW.PrintWords

theorem law_ev (N : Int) (es : List S127) (ar : List (List Int)) (h1 : es.length ≤ 9223372036854775807) (h2 : ar.length ≤ 9223372036854775807) (h3 : ∀ x ∈ ar, x.length ≤ 9223372036854775807) : Evs (fun k => laws_FnExactGenusOf.f k N es ar) true := by
  obtain ⟨t, ht, hb⟩ := szPlanarMap_ev N es ar h1 h2 h3
  unfold laws_FnExactGenusOf.f
  refine Evs.bind ht ?_
  by_cases h0 : t < 0
  · exact Evs.pos h0 (Evs.const _)
  obtain ⟨_, b1, b2, b3⟩ := hb (by omega)
  have hi := inner_le b3
  obtain ⟨g, g1, g2, _⟩ := GenusOf_ev N (es.map cvE) ar b2 b3
  have ht := toPlanarMap_ev N es ar b1 b2 hi
  exact Evs.neg h0 (Evs.bind ht (Evs.bind g1 (Evs.bind ht (Evs.bind g2 (Evs.pos rfl (Evs.bind ht (Evs.bind (eqPlanarMap_ev N _ ar (by simpa using b1) b2 hi) (Evs.yes (Evs.const _)))))))))

theorem inner_max {W : World} {A : Option Addr} {ar : List (List Int)} (h : Kd.C (Kd.slice 3 (Kd.int .i64)) W A ar.length ar) : ∀ x ∈ ar, x.length ≤ 9223372036854775807 := by
  intro x hx
  obtain ⟨i, hi, rfl⟩ := List.getElem_of_mem hx
  obtain ⟨ad, _, hc⟩ := h.2.2 (by omega)
  obtain ⟨c, _, hK, _⟩ := hc i _ (List.getElem?_eq_getElem hi)
  obtain ⟨_, _, _, _, hC⟩ := hK
  exact hC.2.1

set_option maxRecDepth 100000 in
theorem lifted (os : Os) (started : os.Started) (H : Type) (enc : TypeId × Value → H) :
    ReturnsInHanded {} Try.checked os 4 .any (Rows.fnExactGenusOfSpec.pre6 enc Try.prog Try.f4 Rows.fnExactGenusOfRow.domain false) (Rows.fnExactGenusOfSpec.post enc Try.prog Try.f4 false true false false) := by
  refine returnsInHanded_of_change (C := Try.checked) own started (by kernel_rfl) Try.func4
    (ChangeSpec.witness6 (enc := enc) (C := Try.checked) false ⟨#[], #[.agg #[.int .i64 0, .slice none 0 0, .slice none 0 0]], []⟩ 8 (by kernel_rfl) (by kernel_rfl) (by kernel_rfl) (by kernel_rfl)) ?_
  intro W base args ds gs before hval0 hW hcnd _
  have hval : ∀ (j : Nat) t v, Try.f4.params[j]? = some t → args[j]? = some v → Value.okWide Try.prog W .any base t v := hval0
  have hW' := hW
  obtain ⟨pl, ql, hA0, hV, rfl, hfz, hnd⟩ := hW
  have hA : DataW.TrodAll enc Try.prog W 0 (fun _ => true) true Try.f4.params.toList args.toList ds pl := hA0
  rw [Try.params4] at hA hval
  obtain ⟨v0, d0, rfl, rfl, h0⟩ := trodAll_one hA
  obtain ⟨rfl, rfl⟩ := trodVars_none hV
  have h0k := h0
  have hlt0 : ∀ x ∈ pl, x.block < W.heap.size := fun x hx => hW'.lt x (List.mem_append_left _ hx)
  obtain ⟨N, A1, c1, es, A2, c2, ar, rfl, q1, q2, q3, q4⟩ := planar_open (hval 0 27 v0 rfl rfl) h0
  clear hA0 hval0
  obtain ⟨k, hk⟩ := (law_ev N es ar q1.2.1 q3.2.1 (inner_max q3)).at_
  refine (laws_FnExactGenusOf.calls k N A1 c1 es A2 c2 ar true W q1 q2 q3 q4 hk).mono fun e W' ⟨he, hb⟩ => ?_
  subst he
  refine ⟨_, rfl, _, _, _, [], pl, [], hW', ?_, ?_, ?_, Below.frame hb _, fun h => by cases h⟩
  · exact trodAll_mk1 (shut_bool Try.underlying4 _)
  · exact trodAll_mk1 (Below.trod laidOut (by kernel_rfl) (of_decide_eq_true (by kernel_rfl)) h0k hb hlt0)
  · exact rfl

theorem said : Rows.FnExactGenusOfSaid :=
  OpenClaim.holds_of_wide 4 Try.f4 rfl rfl rfl rfl rfl rfl rfl ⟨rfl, rfl, rfl, rfl, rfl⟩ rfl rfl rfl rfl rfl (by kernel_rfl) Try.func4 (by kernel_rfl)
    (of_decide_eq_true (by kernel_rfl)) (by unfold Func.isWrapper; first | (rw [if_pos (by decide +kernel)]; kernel_rfl) | (rw [if_neg (by decide +kernel)]; exact ⟨rfl, rfl⟩))
    (fun os started H enc _ => lifted os started H enc)

end Go.Proofs.Ytpllghhgndfkhaa.PFnExactGenusOf

namespace Go.Proofs.Ytpllghhgndfkhaa
theorem genusOf_holds : Rows.FnExactGenusOfSaid := PFnExactGenusOf.said
#print axioms genusOf_holds
end Go.Proofs.Ytpllghhgndfkhaa
