/- FnExactIntOkSaid: for every input the law FnExactIntOk returns true and its argument reads as before. No condition. -/
import Derived.Test.YtkilgbdkekpnpaaLawIntOk
import Derived.Test.YtkilgbdkekpnpaaOpen
namespace Go.Proofs.Ytkilgbdkekpnpaa
open Go.RowKit Go.ChangeShapes Go.WideShapes Go.ChangeAt Go.Deep

theorem intNetwork_open {H : Type} {enc : TypeId × Value → H} {W : World} {v : Value} {d : DataW H} {p : List MemPlace} (hv : Value.okWide Try.prog W .any 0 24 v)
    (h : DataW.Trod enc Try.prog W 0 (fun _ => true) true 24 v d p) : ∃ A c ts, v = .agg #[.slice A (ts : List Ten).length c] ∧ Tens W A c ts := by
  obtain ⟨cs, rfl, hsz⟩ := okWide_struct Try.underlying24 hv
  obtain ⟨fuel, hf⟩ := h
  obtain ⟨xs, m, _, _, hlen, hxl, hg⟩ := DataW.trod_struct Try.underlying24 hf
  have hC : Try.prog.cellsOf 24 = 1 := by kernel_rfl
  rw [hC] at hsz
  obtain ⟨l⟩ := cs
  match l, hsz, xs, hxl with
  | [v0], _, [y0], _ =>
    have h0 := hg 0 _ rfl
    have h0' : DataW.trod enc Try.prog W 0 (fun _ => true) true m 22 [v0] = some y0 := by
      have e : Try.prog.cellsOf 22 = 1 := by kernel_rfl
      simpa [Value.cells, e] using h0
    obtain ⟨A, c, ts, rfl, ht⟩ := tens_open Try.underlying22 Try.underlying85 (by kernel_rfl) (by kernel_rfl) rfl rfl rfl Try.underlying36 Try.underlying3 (by kernel_rfl) h0'
    exact ⟨A, c, ts, rfl, ht⟩

set_option maxRecDepth 100000 in
theorem intOk_lifted (os : Os) (started : os.Started) (H : Type) (enc : TypeId × Value → H) :
    ReturnsInHanded {} Try.checked os 3 .any (Rows.fnExactIntOkSpec.pre6 enc Try.prog Try.f3 Rows.fnExactIntOkRow.domain false) (Rows.fnExactIntOkSpec.post enc Try.prog Try.f3 false true false false) := by
  refine returnsInHanded_of_change (C := Try.checked) Try.own started (by kernel_rfl) Try.func3
    (ChangeSpec.witness6 (enc := enc) (C := Try.checked) false ⟨#[], #[.agg #[.slice none 0 0]], []⟩ 8 (by kernel_rfl) (by kernel_rfl) (by kernel_rfl) (by kernel_rfl)) ?_
  intro W base args ds gs before hval0 hW hcnd _
  have hval : ∀ (j : Nat) t v, Try.f3.params[j]? = some t → args[j]? = some v → Value.okWide Try.prog W .any base t v := hval0
  have hW' := hW
  obtain ⟨p, q, hA0, hV, rfl, hfz, hnd⟩ := hW
  have hA : DataW.TrodAll enc Try.prog W 0 (fun _ => true) true Try.f3.params.toList args.toList ds p := hA0
  rw [Try.params3] at hA hval
  obtain ⟨v0, d0, rfl, rfl, h0⟩ := trodAll_one hA
  obtain ⟨rfl, rfl⟩ := trodVars_none hV
  have h0k := h0
  have hlt : ∀ x ∈ p, x.block < W.heap.size := fun x hx => hW'.lt x (List.mem_append_left _ hx)
  obtain ⟨A, c, ts, rfl, ht⟩ := intNetwork_open (hval 0 24 v0 rfl rfl) h0
  clear hA0 hval0
  refine (lawIntOk_calls A c ts W ht).mono fun e W' ⟨he, hb⟩ => ?_
  subst he
  refine ⟨_, rfl, _, _, _, [], p, [], hW', ?_, ?_, ?_, Below.frame hb _, fun h => by cases h⟩
  · exact trodAll_mk1 (shut_bool Try.underlying4 _)
  · exact trodAll_mk1 (Below.trod Try.laidOut (by kernel_rfl) (of_decide_eq_true (by kernel_rfl)) h0k hb hlt)
  · exact rfl

theorem intOk_holds : Rows.FnExactIntOkSaid :=
  OpenClaim.holds_of_wide 3 Try.f3 rfl rfl rfl rfl rfl rfl rfl ⟨rfl, rfl, rfl, rfl, rfl⟩ rfl rfl rfl rfl rfl (by kernel_rfl) Try.func3 (by kernel_rfl)
    (of_decide_eq_true (by kernel_rfl)) (by unfold Func.isWrapper; first | (rw [if_pos (by decide +kernel)]; kernel_rfl) | (rw [if_neg (by decide +kernel)]; exact ⟨rfl, rfl⟩))
    (fun os started H enc _ => intOk_lifted os started H enc)
#print axioms intOk_holds

end Go.Proofs.Ytkilgbdkekpnpaa
