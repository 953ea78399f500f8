/- FnExactStabilizersOfSaid: for every input the law FnExactStabilizersOf returns true and its arguments read as before. No condition. -/
import Derived.Test.YtgpnahjnhdchaaaStabLaw
import Derived.Test.YtgpnahjnhdchaaaOpenG
namespace Go.Proofs.Ytgpnahjnhdchaaa
open Go.RowKit Go.ChangeShapes Go.WideShapes Go.ChangeAt Go.Deep Go.Proofs.YtgpnahjnhdchaaaW.PrintWords
open PFnExactStabilizersOf

def sTo (g : Gt) : S100 := ⟨g.k, g.a, g.b⟩

theorem C_of_gates {w : World} {A : Option Addr} {c : Nat} {gs : List Gt} (h : Gates w A c gs) : Kd.C k100 w A (gs.map sTo).length (gs.map sTo) := by
  refine ⟨rfl, by have := h.cap; simpa using this, fun h0 => ?_⟩
  have h0' : 0 < gs.length := by simpa using h0
  obtain ⟨b, o, e, _, hc⟩ := h.at_ 0 h0'
  refine ⟨⟨b, o, none⟩, e, fun j p hp => ?_⟩
  have hj : j < gs.length := by
    have := (List.getElem?_eq_some_iff.1 hp).1
    simpa using this
  have hp' : p = sTo gs[j] := by
    rw [List.getElem?_map, List.getElem?_eq_getElem hj] at hp
    simpa using hp.symm
  subst hp'
  obtain ⟨h1, h2, h3⟩ := hc j hj
  refine ⟨_, rfl, k100_mk w (sTo gs[j]), fun i u hu => ?_⟩
  rw [Addr.add_lit]
  rcases i with _ | _ | _ | i
  · simp only [List.getElem?_cons_zero, Option.some.injEq] at hu
    subst hu
    exact h1
  · simp only [List.getElem?_cons_succ, List.getElem?_cons_zero, Option.some.injEq] at hu
    subst hu
    exact h2
  · simp only [List.getElem?_cons_succ, List.getElem?_cons_zero, Option.some.injEq] at hu
    subst hu
    exact h3
  · simp at hu

set_option maxRecDepth 100000 in
theorem stabilizers_lifted (os : Os) (started : os.Started) (H : Type) (enc : TypeId × Value → H) :
    ReturnsInHanded {} Try.checked os 4 .any (Rows.fnExactStabilizersOfSpec.pre6 enc Try.prog Try.f4 Rows.fnExactStabilizersOfRow.domain false) (Rows.fnExactStabilizersOfSpec.post enc Try.prog Try.f4 false true false false) := by
  refine returnsInHanded_of_change (C := Try.checked) Try.own started (by kernel_rfl) Try.func4
    (ChangeSpec.witness6 (enc := enc) (C := Try.checked) false ⟨#[], #[.agg #[.int .i64 0, .int .i64 0, .slice none 0 0], .int .i64 0], []⟩ 8 (by kernel_rfl) (by kernel_rfl) (by kernel_rfl) (by kernel_rfl)) ?_
  intro W base args ds gs before hval0 hW hcnd _
  have hval : ∀ (j : Nat) t v, Try.f4.params[j]? = some t → args[j]? = some v → Value.okWide Try.prog W .any base t v := hval0
  have hW' := hW
  obtain ⟨pl, ql, hA0, hV, rfl, hfz, hnd⟩ := hW
  have hA : DataW.TrodAll enc Try.prog W 0 (fun _ => true) true Try.f4.params.toList args.toList ds pl := hA0
  rw [Try.params4] at hA hval
  obtain ⟨v0, v1, d0, d1, p0, p1, rfl, rfl, rfl, h0, h1⟩ := trodAll_two hA
  obtain ⟨rfl, rfl⟩ := trodVars_none hV
  have h0k := h0
  have h1k := h1
  have hlt : ∀ x ∈ p0 ++ p1, x.block < W.heap.size := fun x hx => hW'.lt x (List.mem_append_left _ hx)
  have hlt0 : ∀ x ∈ p0, x.block < W.heap.size := fun x hx => hlt x (List.mem_append_left _ hx)
  have hlt1 : ∀ x ∈ p1, x.block < W.heap.size := fun x hx => hlt x (List.mem_append_right _ hx)
  obtain ⟨P, Q, A, c, ts, rfl, ht, _, _⟩ := circuit_open (hval 0 24 v0 rfl rfl) h0
  obtain ⟨x, rfl, _, _, _⟩ := Go.ChangeShapes.open_int Try.underlying3 (hval 1 3 v1 rfl rfl) h1
  clear hA0 hval0
  obtain ⟨k, hk⟩ := (law_ev P Q (ts.map sTo) x (by have := ht.cap; simpa using this)).at_
  have hcalls := laws_FnExactStabilizersOf.calls k P Q A c (ts.map sTo) x true W (C_of_gates ht) (by simpa using ht.le) hk
  rw [List.length_map] at hcalls
  refine hcalls.mono fun e W' ⟨he, hb⟩ => ?_
  subst he
  refine ⟨_, rfl, _, _, _, [], p0 ++ p1, [], hW', ?_, ?_, ?_, Below.frame hb _, fun h => by cases h⟩
  · exact trodAll_mk1 (shut_bool Try.underlying4 _)
  · exact trodAll_mk2 (Below.trod Try.laidOut (by kernel_rfl) (of_decide_eq_true (by kernel_rfl)) h0k hb hlt0) (Below.trod Try.laidOut (by kernel_rfl) (of_decide_eq_true (by kernel_rfl)) h1k hb hlt1)
  · exact rfl

theorem stabilizers_holds : Rows.FnExactStabilizersOfSaid :=
  OpenClaim.holds_of_wide 4 Try.f4 rfl rfl rfl rfl rfl rfl rfl ⟨rfl, rfl, rfl, rfl, rfl⟩ rfl rfl rfl rfl rfl (by kernel_rfl) Try.func4 (by kernel_rfl)
    (of_decide_eq_true (by kernel_rfl)) (by unfold Func.isWrapper; first | (rw [if_pos (by decide +kernel)]; kernel_rfl) | (rw [if_neg (by decide +kernel)]; exact ⟨rfl, rfl⟩))
    (fun os started H enc _ => stabilizers_lifted os started H enc)
#print axioms stabilizers_holds

end Go.Proofs.Ytgpnahjnhdchaaa
