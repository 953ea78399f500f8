/- The law FnExactStabilizersOf comes to true: the plain part. -/
import Derived.Test.YtgpnahjnhdchaaaQS2
import Derived.Test.YtgpnahjnhdchaaaEvs
namespace Go.Proofs.Ytgpnahjnhdchaaa.PFnExactStabilizersOf
open Go.RowKit Go.Proofs.YtgpnahjnhdchaaaW.PrintWords Go.Proofs.YtgpnahjnhdchaaaW.PrintLast Go.Proofs.YtgpnahjnhdchaaaW.PrintMore

def cv (x : S100) : S67 := ⟨x.f0, x.f1, x.f2⟩

theorem toGateS_ev (l : List S100) (hl : l.length ≤ 1048576) : Evs (fun k => laws_toGateS.f k l) (l.map cv) := by
  have key : ∀ (d i : Nat), i + d = l.length → Evs (fun k => laws_toGateS.l0 k l ((l.take i).map cv ++ List.replicate d z67) i) (l.map cv) := by
    intro d
    induction d with
    | zero =>
      intro i hi
      refine Evs.step (g' := fun _ => some (l.map cv)) (fun k => ?_) (Evs.const _)
      simp only [laws_toGateS.l0]
      rw [if_neg (by omega), List.take_of_length_le (by omega)]
      simp
    | succ d ih =>
      intro i hi
      refine Evs.step (fun k => ?_) (ih (i + 1) (by omega))
      simp only [laws_toGateS.l0, laws_toGate.f, Option.bind_some]
      rw [if_pos (by omega), if_pos (by omega), if_pos (by simp; omega), w64 (by omega) (by omega)]
      have e : (((l.take i).map cv ++ List.replicate (d + 1) z67).set ((i : Int)).toNat ⟨(rd_T100 l i).f0, (rd_T100 l i).f1, (rd_T100 l i).f2⟩) = (l.take (i + 1)).map cv ++ List.replicate d z67 := by
        have hr : rd_T100 l (i : Int) = l[i] := by unfold rd_T100; exact getD_cast (by omega)
        rw [hr, Int.toNat_natCast, List.replicate_succ, List.set_append_right _ _ (by simp; omega), List.take_succ_eq_append_getElem (by omega)]
        simp only [List.length_map, List.length_take]
        rw [show i - min i l.length = 0 by omega]
        rw [List.map_append, List.append_assoc]
        rfl
      rw [e]
      rfl
  unfold laws_toGateS.f
  refine Evs.pos (by omega) (Evs.pos (by simp; omega) ?_)
  have := key l.length 0 (by omega)
  simpa using this

theorem toCircuit_ev (p q : Int) (l : List S100) (hl : l.length ≤ 1048576) : Evs (fun k => laws_toCircuit.f k p q l) (p, q, l.map cv) := by
  unfold laws_toCircuit.f
  exact Evs.bind (toGateS_ev l hl) (Evs.const _)

theorem eqGateS_ev (l : List S67) (hl : l.length ≤ 1048576) : Evs (fun k => laws_eqGateS.f k l l) true := by
  have key : ∀ (d i : Nat), i + d = l.length → Evs (fun k => laws_eqGateS.l0 k l l i) true := by
    intro d
    induction d with
    | zero =>
      intro i hi
      refine Evs.step (g' := fun _ => some true) (fun k => ?_) (Evs.const _)
      simp only [laws_eqGateS.l0]
      rw [if_neg (by omega)]
    | succ d ih =>
      intro i hi
      refine Evs.step (fun k => ?_) (ih (i + 1) (by omega))
      simp only [laws_eqGateS.l0, laws_eqGate.f, if_true, Option.bind_some]
      rw [if_pos (by omega), if_pos (by omega), if_pos (by omega), w64 (by omega) (by omega)]
      rfl
  unfold laws_eqGateS.f
  exact Evs.pos rfl (by simpa using key l.length 0 (by omega))

theorem eqCircuit_ev (p q : Int) (l : List S67) (hl : l.length ≤ 1048576) : Evs (fun k => laws_eqCircuit.f k p q l p q l) true := by
  unfold laws_eqCircuit.f
  exact Evs.pos rfl (Evs.pos rfl (Evs.bind (eqGateS_ev l hl) (Evs.pos rfl (Evs.const _))))

theorem eqPauliS_ev (l : List S28) (hl : l.length ≤ 1048576) : Evs (fun k => laws_eqPauliS.f k l l) true := by
  have key : ∀ (d i : Nat), i + d = l.length → Evs (fun k => laws_eqPauliS.l0 k l l i) true := by
    intro d
    induction d with
    | zero =>
      intro i hi
      refine Evs.step (g' := fun _ => some true) (fun k => ?_) (Evs.const _)
      simp only [laws_eqPauliS.l0]
      rw [if_neg (by omega)]
    | succ d ih =>
      intro i hi
      refine Evs.step (fun k => ?_) (ih (i + 1) (by omega))
      simp only [laws_eqPauliS.l0, laws_eqPauli.f, if_true, Option.bind_some]
      rw [if_pos (by omega), if_pos (by omega), if_pos (by omega), w64 (by omega) (by omega)]
      rfl
  unfold laws_eqPauliS.f
  exact Evs.pos rfl (by simpa using key l.length 0 (by omega))

/-- The marks m, m + 1, .. -/
def mkG (m : Int) (n : Nat) : List S67 := (List.range n).map fun (i : Nat) => ⟨m + 3 * i, m + 3 * i + 1, m + 3 * i + 1 + 1⟩
def mkP (m : Int) (n : Nat) : List S28 := (List.range n).map fun (i : Nat) => ⟨m + 3 * i, m + 3 * i + 1, m + 3 * i + 1 + 1⟩
theorem mkG_length (m : Int) (n : Nat) : (mkG m n).length = n := by simp [mkG]
theorem mkP_length (m : Int) (n : Nat) : (mkP m n).length = n := by simp [mkP]
theorem mkG_succ (m : Int) (n : Nat) : mkG m (n + 1) = mkG m n ++ [⟨m + 3 * n, m + 3 * n + 1, m + 3 * n + 1 + 1⟩] := by simp [mkG, List.range_succ]
theorem mkP_succ (m : Int) (n : Nat) : mkP m (n + 1) = mkP m n ++ [⟨m + 3 * n, m + 3 * n + 1, m + 3 * n + 1 + 1⟩] := by simp [mkP, List.range_succ]

theorem set_mid {α : Type} (us : List α) (v : α) (vs : List α) (x : α) (i : Nat) (hi : us.length = i) : (us ++ v :: vs).set i x = us ++ x :: vs := by
  subst hi
  rw [List.set_append_right _ _ (Nat.le_refl _)]
  simp
theorem getD_mid {α : Type} (us : List α) (v : α) (vs : List α) (d : α) (i : Nat) (hi : us.length = i) : (us ++ v :: vs).getD i d = v := by
  subst hi
  simp

theorem markPauliS_ev (l : List S28) (hl : l.length ≤ 1048576) : Evs (fun k => laws_markPauliS.f k l 1) (1 + 3 * (l.length : Int), mkP 1 l.length) := by
  have key : ∀ (d i : Nat), i + d = l.length → Evs (fun k => laws_markPauliS.l0 k (mkP 1 i ++ l.drop i) (1 + 3 * (i : Int)) i) (1 + 3 * (l.length : Int), mkP 1 l.length) := by
    intro d
    induction d with
    | zero =>
      intro i hi
      obtain rfl : i = l.length := by omega
      refine Evs.step (g' := fun _ => some _) (fun k => ?_) (Evs.const _)
      simp only [laws_markPauliS.l0]
      rw [if_neg (by simp [mkP_length])]
      simp
    | succ d ih =>
      intro i hi
      refine Evs.step (fun k => ?_) (ih (i + 1) (by omega))
      have hd : l.drop i = l[i] :: l.drop (i + 1) := List.drop_eq_getElem_cons (by omega)
      simp only [laws_markPauliS.l0, Option.bind_some]
      rw [if_pos (by simp [mkP_length]; omega), if_pos (by omega), hd]
      simp only [rd_T28, Int.toNat_natCast]
      simp only [set_mid _ _ _ _ _ (mkP_length 1 i), getD_mid _ _ _ _ _ (mkP_length 1 i)]
      rw [w64 (x := 1 + 3 * (i : Int) + 1) (by omega) (by omega), w64 (x := 1 + 3 * (i : Int) + 1 + 1) (by omega) (by omega), w64 (x := 1 + 3 * (i : Int) + 1 + 1 + 1) (by omega) (by omega), w64 (x := (i : Int) + 1) (by omega) (by omega)]
      rw [mkP_succ, List.append_assoc, show (1 : Int) + 3 * (i : Int) + 1 + 1 + 1 = 1 + 3 * ((i + 1 : Nat) : Int) by omega]
      rfl
  unfold laws_markPauliS.f
  simpa [mkP] using key l.length 0 (by omega)

theorem markGateS_ev (l : List S67) (hl : l.length ≤ 1048576) : Evs (fun k => laws_markGateS.f k l 1) (1 + 3 * (l.length : Int), mkG 1 l.length) := by
  have key : ∀ (d i : Nat), i + d = l.length → Evs (fun k => laws_markGateS.l0 k (mkG 1 i ++ l.drop i) (1 + 3 * (i : Int)) i) (1 + 3 * (l.length : Int), mkG 1 l.length) := by
    intro d
    induction d with
    | zero =>
      intro i hi
      obtain rfl : i = l.length := by omega
      refine Evs.step (g' := fun _ => some _) (fun k => ?_) (Evs.const _)
      simp only [laws_markGateS.l0]
      rw [if_neg (by simp [mkG_length])]
      simp
    | succ d ih =>
      intro i hi
      refine Evs.step (fun k => ?_) (ih (i + 1) (by omega))
      have hd : l.drop i = l[i] :: l.drop (i + 1) := List.drop_eq_getElem_cons (by omega)
      simp only [laws_markGateS.l0, Option.bind_some]
      rw [if_pos (by simp [mkG_length]; omega), if_pos (by omega), hd]
      simp only [rd_T67, Int.toNat_natCast]
      simp only [set_mid _ _ _ _ _ (mkG_length 1 i), getD_mid _ _ _ _ _ (mkG_length 1 i)]
      rw [w64 (x := 1 + 3 * (i : Int) + 1) (by omega) (by omega), w64 (x := 1 + 3 * (i : Int) + 1 + 1) (by omega) (by omega), w64 (x := 1 + 3 * (i : Int) + 1 + 1 + 1) (by omega) (by omega), w64 (x := (i : Int) + 1) (by omega) (by omega)]
      rw [mkG_succ, List.append_assoc, show (1 : Int) + 3 * (i : Int) + 1 + 1 + 1 = 1 + 3 * ((i + 1 : Nat) : Int) by omega]
      rfl
  unfold laws_markGateS.f
  simpa [mkG] using key l.length 0 (by omega)

theorem heldPauliS_ev (n : Nat) (hn : n ≤ 1048576) : Evs (fun k => laws_heldPauliS.f k (mkP 1 n) 1) (1 + 3 * (n : Int)) := by
  have key : ∀ (d i : Nat), i + d = n → Evs (fun k => laws_heldPauliS.l0 k (mkP 1 n) (1 + 3 * (i : Int)) i) (1 + 3 * (n : Int)) := by
    intro d
    induction d with
    | zero =>
      intro i hi
      obtain rfl : i = n := by omega
      refine Evs.step (g' := fun _ => some _) (fun k => ?_) (Evs.const _)
      simp only [laws_heldPauliS.l0]
      rw [if_neg (by simp [mkP_length])]
    | succ d ih =>
      intro i hi
      refine Evs.step (fun k => ?_) (ih (i + 1) (by omega))
      have hr : rd_T28 (mkP 1 n) i = ⟨1 + 3 * i, 1 + 3 * i + 1, 1 + 3 * i + 1 + 1⟩ := by
        unfold rd_T28
        rw [getD_cast (by rw [mkP_length]; omega)]
        simp [mkP]
      simp only [laws_heldPauliS.l0, hr]
      rw [w64 (x := 1 + 3 * (i : Int) + 1) (by omega) (by omega), w64 (x := 1 + 3 * (i : Int) + 1 + 1) (by omega) (by omega), w64 (x := 1 + 3 * (i : Int) + 1 + 1 + 1) (by omega) (by omega), w64 (x := (i : Int) + 1) (by omega) (by omega)]
      rw [if_pos (by rw [mkP_length]; omega), if_pos (by omega), if_pos rfl, if_pos rfl, if_pos trivial, show (1 : Int) + 3 * (i : Int) + 1 + 1 + 1 = 1 + 3 * ((i + 1 : Nat) : Int) by omega]
      rfl
  unfold laws_heldPauliS.f
  simpa using key n 0 (by omega)

theorem two_pow_small (q : Nat) (h : q ≤ 5) : q ≤ 1048576 := by omega

theorem stabL_small (p q : Int) (gs : List Gt) (k : Int) : (stabL p q gs k).length ≤ 1048576 := by
  unfold stabL
  split
  · rename_i h
    have hq : q ≤ 5 := by
      by_cases hs : StabP p q gs k
      · exact hs.1.1.2.2.1
      · rw [stabB_false hs] at h; cases h
    rw [stabN_length]
    omega
  · simp

theorem law_ev (p q : Int) (l : List S100) (k : Int) (hlen : l.length ≤ 9223372036854775807) : Evs (fun r => laws_FnExactStabilizersOf.f r p q l k) true := by
  unfold laws_FnExactStabilizersOf.f
  have hsz : laws_szCircuit.f p q l 1048576 = some (if (l.length : Int) ≤ 1048576 then 1048576 - (l.length : Int) else -1) := by
    unfold laws_szCircuit.f laws_szGateS.f
    rw [w64 (by omega) (by omega)]
    by_cases h : (l.length : Int) ≤ 1048576
    · rw [if_neg (by omega), if_pos h, Option.bind_some, if_neg (by omega)]
    · rw [if_pos (by omega), if_neg h]; rfl
  refine Evs.bindc hsz ?_
  by_cases h : (l.length : Int) ≤ 1048576
  case neg => rw [if_neg h]; exact Evs.pos (by omega) (Evs.const _)
  have hl : l.length ≤ 1048576 := by omega
  have hl' : (l.map cv).length ≤ 1048576 := by simpa using hl
  rw [if_pos h]
  refine Evs.neg (by omega) (Evs.bind (toCircuit_ev p q l hl) ?_)
  have hS : stabF p q (l.map cv) k = some ((stabL p q ((l.map cv).map gtOf) k).map plTo, stabB p q ((l.map cv).map gtOf) k) := if_pos hl'
  have hsl := stabL_small p q ((l.map cv).map gtOf) k
  obtain ⟨us, hus⟩ : ∃ us, us = (stabL p q ((l.map cv).map gtOf) k).map plTo := ⟨_, rfl⟩
  obtain ⟨b, hb⟩ : ∃ b, b = stabB p q ((l.map cv).map gtOf) k := ⟨_, rfl⟩
  rw [← hus, ← hb] at hS
  have hul : us.length ≤ 1048576 := by rw [hus]; simpa using hsl
  have hbb : (b != b) = false := by simp
  refine Evs.bindc hS (Evs.bind (toCircuit_ev p q l hl) (Evs.bindc hS (Evs.bind (eqPauliS_ev us hul) (Evs.pos rfl ?_))))
  refine Evs.step (fun r => by simp only [laws_FnExactStabilizersOf.j0]; rfl) ?_
  rw [hbb]
  refine Evs.neg (by simp) (Evs.bind (toCircuit_ev p q l hl) (Evs.bind (eqCircuit_ev p q _ hl') (Evs.pos rfl ?_)))
  refine Evs.bind (r := (1 + 3 * ((l.map cv).length : Int), mkG 1 (l.map cv).length)) (by unfold laws_markCircuit.f; exact Evs.bind (markGateS_ev _ hl') (Evs.const _)) (Evs.neg (by simp; omega) ?_)
  refine Evs.bind (eqPauliS_ev us hul) (Evs.pos rfl ?_)
  refine Evs.step (fun r => by simp only [laws_FnExactStabilizersOf.j1]; rfl) ?_
  try rw [hbb]
  refine Evs.neg (by simp) (Evs.bind (markPauliS_ev us hul) (Evs.bind (heldPauliS_ev us.length hul) (Evs.neg (by omega) (Evs.pos rfl ?_))))
  refine Evs.bind (toCircuit_ev p q l hl) (Evs.bindc hS (Evs.bind (eqPauliS_ev us hul) (Evs.pos rfl ?_)))
  refine Evs.step (fun r => by simp only [laws_FnExactStabilizersOf.j2]; rfl) ?_
  try rw [hbb]
  exact Evs.neg (by simp) (Evs.bind (heldPauliS_ev us.length hul) (Evs.neg (by omega) (Evs.pos rfl (Evs.const _))))

end Go.Proofs.Ytgpnahjnhdchaaa.PFnExactStabilizersOf
