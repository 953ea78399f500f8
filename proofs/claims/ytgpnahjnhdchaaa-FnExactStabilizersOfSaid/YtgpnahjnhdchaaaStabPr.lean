/- StabilizersOf of the program and of the reference, in the printed texts' own form. -/
import Derived.Test.YtgpnahjnhdchaaaStabS
import Derived.Test.YtgpnahjnhdchaaaQS0
namespace Go.Proofs.Ytgpnahjnhdchaaa.PFnExactStabilizersOf
open Go.RowKit Go.Proofs.YtgpnahjnhdchaaaW.PrintWords Go.Proofs.YtgpnahjnhdchaaaW.PrintLast Go.Proofs.YtgpnahjnhdchaaaW.PrintMore

def gtOf (x : S67) : Gt := ⟨x.f0, x.f1, x.f2⟩
def plTo (u : Pl) : S28 := ⟨u.x, u.z, u.s⟩

theorem gates_of_C {w : World} {A : Option Addr} {c : Nat} {l : List S67} (h : Kd.C k67 w A l.length l) (hc : l.length ≤ c) (hcap : l.length ≤ 1048576) : Gates w A c (l.map gtOf) := by
  refine ⟨by simpa using hc, by simp; omega, fun k hk => ?_⟩
  have hk' : k < l.length := by simpa using hk
  obtain ⟨ad, e, hcell⟩ := h.2.2 (by omega)
  have hall : ∀ j (hj : j < l.length), w.cell? (ad.add (j * 3)) = some (.int .i64 l[j].f0) ∧ w.cell? (ad.add (j * 3 + 1)) = some (.int .i64 l[j].f1) ∧ w.cell? (ad.add (j * 3 + 2)) = some (.int .i64 l[j].f2) := by
    intro j hj
    obtain ⟨cc, _, hK, hc0⟩ := hcell j l[j] (List.getElem?_eq_getElem hj)
    obtain rfl := k67_open hK
    exact ⟨hc0 0 _ rfl, hc0 1 _ rfl, hc0 2 _ rfl⟩
  obtain ⟨b, o, spot⟩ := ad
  have h0 := (hall 0 (by omega)).1
  have hsp : spot = none := by simpa [Addr.add] using World.cell?_spot h0
  subst hsp
  refine ⟨b, o, e, ?_, fun j hj => ?_⟩
  · have := World.block_lt_of_cell? w _ h0
    simpa [Addr.add] using this
  · have hj' : j < l.length := by simpa using hj
    obtain ⟨a1, a2, a3⟩ := hall j hj'
    simp only [Addr.add_lit] at a1 a2 a3
    simpa [gtOf, Nat.add_assoc] using ⟨a1, a2, a3⟩

theorem R_of_ownP {w : World} {lo : Nat} {A : Option Addr} {c : Nat} {us : List Pl} (h : OwnP w lo A c us) : Kd.R k28 28 w lo (fun _ => True) (.slice A us.length c) (us.map plTo) := by
  refine ⟨fun _ _ => trivial, pcells us, ?_, ?_⟩
  · unfold OwnP at h
    rw [List.length_map]
    exact h
  · refine ⟨by rw [pcells_length, List.length_map]; rfl, fun j p hp => ?_⟩
    have hj : j < us.length := by
      have := (List.getElem?_eq_some_iff.1 hp).1
      simpa using this
    have hp' : p = plTo us[j] := by
      rw [List.getElem?_map, List.getElem?_eq_getElem hj] at hp
      simpa using hp.symm
    subst hp'
    obtain ⟨h1, h2, h3⟩ := pcells_at us j hj
    have e : ((pcells us).drop (j * 3)).take 3 = [.int .i64 us[j].x, .int .i64 us[j].z, .int .i64 us[j].s] := by
      apply List.ext_getElem?
      intro i
      rcases i with _ | _ | _ | i
      · simp [h1]
      · simp [h2]
      · simp [h3]
      · simp [List.getElem?_take]
        omega
    show k28.M w lo _ (plTo us[j]) (((pcells us).drop (j * 3)).take 3)
    rw [e]
    exact k28_mkM w lo _ (plTo us[j])

noncomputable def stabF (p q : Int) (l : List S67) (k : Int) : Option (List S28 × Bool) := if l.length ≤ 1048576 then some ((stabL p q (l.map gtOf) k).map plTo, stabB p q (l.map gtOf) k) else none
noncomputable def impl_StabilizersOf.f (_ : Nat) (p q : Int) (l : List S67) (k : Int) : Option (List S28 × Bool) := stabF p q l k
noncomputable def spec_StabilizersOf.f (_ : Nat) (p q : Int) (l : List S67) (k : Int) : Option (List S28 × Bool) := stabF p q l k
theorem impl_StabilizersOf.mono : ∀ a0 a1 a2 a3 k, LeO (impl_StabilizersOf.f k a0 a1 a2 a3) (impl_StabilizersOf.f (k + 1) a0 a1 a2 a3) := fun _ _ _ _ _ => LeO.refl _
theorem spec_StabilizersOf.mono : ∀ a0 a1 a2 a3 k, LeO (spec_StabilizersOf.f k a0 a1 a2 a3) (spec_StabilizersOf.f (k + 1) a0 a1 a2 a3) := fun _ _ _ _ _ => LeO.refl _

theorem stabF_some {p q k : Int} {l : List S67} {r : List S28 × Bool} (h : stabF p q l k = some r) : l.length ≤ 1048576 ∧ r = ((stabL p q (l.map gtOf) k).map plTo, stabB p q (l.map gtOf) k) := by
  unfold stabF at h
  split at h
  · rename_i hl
    exact ⟨hl, (Option.some.inj h).symm⟩
  · cases h

theorem impl_StabilizersOf.calls (k : Nat) (a0_0 : Int) (a0_1 : Int) (A0_2 : Option Addr) (c0_2 : Nat) (l0_2 : List (S67)) (a1 : Int) (r1 : List (S28)) (r2 : Bool) (w : World) (hr0_2 : Kd.C k67 w A0_2 l0_2.length l0_2) (hc0_2 : l0_2.length ≤ c0_2) (h : impl_StabilizersOf.f k a0_0 a0_1 l0_2 a1 = some (r1, r2)) :
    Calls Try.prog 16 #[.agg #[.int .i64 a0_0, .int .i64 a0_1, .slice A0_2 l0_2.length c0_2], .int .i64 a1] w fun e w' => ∃ v0_ : Value, e = .returned (.tuple #[v0_, .bool r2]) ∧ Kd.R k28 28 w' w.heap.size (fun _ => True) v0_ r1 ∧ Below w.heap.size w w' := by
  obtain ⟨hl, hr⟩ := stabF_some h
  simp only [Prod.mk.injEq] at hr
  obtain ⟨rfl, rfl⟩ := hr
  refine (implStabilizersOf_calls A0_2 l0_2.length c0_2 a0_0 a0_1 (l0_2.map gtOf) a1 w (by simp) (by omega) (gates_of_C hr0_2 hc0_2 hl)).mono ?_
  rintro e w' ⟨B, cB, rfl, ho, hx⟩
  exact ⟨_, rfl, R_of_ownP ho, hx⟩

theorem spec_StabilizersOf.calls (k : Nat) (a0_0 : Int) (a0_1 : Int) (A0_2 : Option Addr) (c0_2 : Nat) (l0_2 : List (S67)) (a1 : Int) (r1 : List (S28)) (r2 : Bool) (w : World) (hr0_2 : Kd.C k67 w A0_2 l0_2.length l0_2) (hc0_2 : l0_2.length ≤ c0_2) (h : spec_StabilizersOf.f k a0_0 a0_1 l0_2 a1 = some (r1, r2)) :
    Calls Try.prog 15 #[.agg #[.int .i64 a0_0, .int .i64 a0_1, .slice A0_2 l0_2.length c0_2], .int .i64 a1] w fun e w' => ∃ v0_ : Value, e = .returned (.tuple #[v0_, .bool r2]) ∧ Kd.R k28 28 w' w.heap.size (fun _ => True) v0_ r1 ∧ Below w.heap.size w w' := by
  obtain ⟨hl, hr⟩ := stabF_some h
  simp only [Prod.mk.injEq] at hr
  obtain ⟨rfl, rfl⟩ := hr
  refine (specStabilizersOf_calls A0_2 l0_2.length c0_2 a0_0 a0_1 (l0_2.map gtOf) a1 w (by simp) (by omega) (gates_of_C hr0_2 hc0_2 hl)).mono ?_
  rintro e w' ⟨B, cB, rfl, ho, hx⟩
  exact ⟨_, rfl, R_of_ownP ho, hx⟩

end Go.Proofs.Ytgpnahjnhdchaaa.PFnExactStabilizersOf
