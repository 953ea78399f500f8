/- The laws' own functions on planar maps. -/
import Derived.Test.YtpllghhgndfkhaaQOPlIntS
namespace Go.Proofs.Ytpllghhgndfkhaa.PFnExactOrientedMatrix
open Go.RowKit Go.Proofs.YtpllghhgndfkhaaW.PrintWords Go.Proofs.YtpllghhgndfkhaaW.PrintLast Go.Proofs.YtpllghhgndfkhaaW.PrintMore

def cvE (x : S127) : S78 := ⟨x.f0, x.f1⟩
theorem rdT127_at {l : List S127} {i : Nat} (h : i < l.length) : rd_T127 l (i : Int) = l[i] := by unfold rd_T127; exact getD_cast h

theorem toEdgeS_ev (l : List S127) (hl : l.length ≤ 1048576) : Evs (fun k => laws_toEdgeS.f k l) (l.map cvE) := by
  have key : ∀ (d i : Nat), i + d = l.length → Evs (fun k => laws_toEdgeS.l0 k l ((l.take i).map cvE ++ List.replicate d z78) i) (l.map cvE) := by
    intro d
    induction d with
    | zero =>
      intro i hi
      refine Evs.step (g' := fun _ => some (l.map cvE)) (fun k => ?_) (Evs.const _)
      simp only [laws_toEdgeS.l0]
      rw [if_neg (by omega), List.take_of_length_le (by omega)]
      simp
    | succ d ih =>
      intro i hi
      refine Evs.step (fun k => ?_) (ih (i + 1) (by omega))
      simp only [laws_toEdgeS.l0, laws_toEdge.f, Option.bind_some]
      rw [if_pos (by omega), if_pos (by omega), if_pos (by simp; omega), w64 (by omega) (by omega), rdT127_at (by omega)]
      have e : (((l.take i).map cvE ++ List.replicate (d + 1) z78).set ((i : Int)).toNat ⟨l[i].f0, l[i].f1⟩) = (l.take (i + 1)).map cvE ++ List.replicate d z78 := by
        rw [Int.toNat_natCast, List.replicate_succ, List.set_append_right _ _ (by simp; omega), List.take_succ_eq_append_getElem (by omega)]
        simp only [List.length_map, List.length_take]
        rw [show i - min i l.length = 0 by omega, List.map_append, List.append_assoc]
        rfl
      rw [e]
      rfl
  unfold laws_toEdgeS.f
  refine Evs.pos (by omega) (Evs.pos (by simp; omega) ?_)
  have := key l.length 0 (by omega)
  simpa using this

theorem toPlanarMap_ev (N : Int) (es : List S127) (ar : List (List Int)) (h1 : es.length ≤ 1048576) (h2 : ar.length ≤ 1048576) (h3 : ∀ x ∈ ar, x.length ≤ 1048576) : Evs (fun k => laws_toPlanarMap.f k N es ar) (N, es.map cvE, ar) := by
  unfold laws_toPlanarMap.f
  refine Evs.bind (r := (N, es.map cvE)) ?_ (Evs.bind (toIntSS_ev ar h2 h3) (Evs.const _))
  unfold laws_toGraph.f
  exact Evs.bind (toEdgeS_ev es h1) (Evs.const _)

theorem eqEdgeS_ev (l : List S78) (hl : l.length ≤ 1048576) : Evs (fun k => laws_eqEdgeS.f k l l) true := by
  have key : ∀ (d i : Nat), i + d = l.length → Evs (fun k => laws_eqEdgeS.l0 k l l i) true := by
    intro d
    induction d with
    | zero =>
      intro i hi
      exact Evs.step (fun k => by simp only [laws_eqEdgeS.l0]; rfl) (Evs.neg (by omega) (Evs.const _))
    | succ d ih =>
      intro i hi
      refine Evs.step (fun k => ?_) (ih (i + 1) (by omega))
      simp only [laws_eqEdgeS.l0, laws_eqEdge.f, if_true, Option.bind_some]
      rw [if_pos (by omega), if_pos (by omega), if_pos (by omega), w64 (by omega) (by omega)]
      rfl
  unfold laws_eqEdgeS.f
  exact Evs.pos rfl (by simpa using key l.length 0 (by omega))

theorem eqPlanarMap_ev (N : Int) (es : List S78) (ar : List (List Int)) (h1 : es.length ≤ 1048576) (h2 : ar.length ≤ 1048576) (h3 : ∀ x ∈ ar, x.length ≤ 1048576) : Evs (fun k => laws_eqPlanarMap.f k N es ar N es ar) true := by
  unfold laws_eqPlanarMap.f
  refine Evs.bind (r := true) ?_ (Evs.yes (Evs.bind (eqIntSS_ev ar h2 h3) (Evs.yes (Evs.const _))))
  unfold laws_eqGraph.f
  exact Evs.pos rfl (Evs.bind (eqEdgeS_ev es h1) (Evs.yes (Evs.const _)))

/-- What is left of the law's bound: not below 0 only where the map is small. -/
theorem szPlanarMap_ev (N : Int) (es : List S127) (ar : List (List Int)) (h1 : es.length ≤ 9223372036854775807) (h2 : ar.length ≤ 9223372036854775807) (h3 : ∀ x ∈ ar, x.length ≤ 9223372036854775807) :
    ∃ t, Evs (fun k => laws_szPlanarMap.f k N es ar 1048576) t ∧ (0 ≤ t → t ≤ 1048576 ∧ es.length ≤ 1048576 ∧ ar.length ≤ 1048576 ∧ ar.flatten.length ≤ 1048576) := by
  unfold laws_szPlanarMap.f laws_szGraph.f laws_szEdgeS.f
  rw [w64 (by omega) (by omega)]
  by_cases hc : (1048576 : Int) - es.length < 0
  · refine ⟨-1, ?_, fun h => absurd h (by omega)⟩
    rw [if_pos hc, Option.bind_some, if_pos (by omega)]
    exact Evs.bindc rfl (Evs.pos (by omega) (Evs.const _))
  · rw [if_neg hc, Option.bind_some, if_neg (by omega)]
    have hs := szIntSS_ev ar ((1048576 : Int) - es.length) h2 h3 (by omega) (by omega)
    generalize ht : (if (1048576 : Int) - es.length - ar.length < 0 then (-1 : Int) else lfts ar ((1048576 : Int) - es.length - ar.length)) = t at hs
    by_cases h0 : t < 0
    · exact ⟨-1, Evs.bindc rfl (Evs.neg (by omega) (Evs.bind hs (Evs.pos h0 (Evs.const _)))), fun h => absurd h (by omega)⟩
    · refine ⟨t, Evs.bindc rfl (Evs.neg (by omega) (Evs.bind hs (Evs.neg h0 (Evs.const _)))), fun _ => ?_⟩
      split at ht
      · omega
      · have := lfts_nn ar ((1048576 : Int) - es.length - ar.length) (by omega)
        omega

theorem inner_le {ar : List (List Int)} (h : ar.flatten.length ≤ 1048576) : ∀ x ∈ ar, x.length ≤ 1048576 := by
  intro x hx
  have : x.length ≤ ar.flatten.length := by
    have := List.sublist_flatten_of_mem hx
    exact this.length_le
  omega

end Go.Proofs.Ytpllghhgndfkhaa.PFnExactOrientedMatrix
