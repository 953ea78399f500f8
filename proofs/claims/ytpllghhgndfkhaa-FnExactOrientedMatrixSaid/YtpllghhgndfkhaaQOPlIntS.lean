/- What the laws' own functions on slices of integers come to. -/
import Derived.Test.YtpllghhgndfkhaaQOAll
import Derived.Test.YtpllghhgndfkhaaEvs
namespace Go.Proofs.Ytpllghhgndfkhaa.PFnExactOrientedMatrix
open Go.RowKit Go.Proofs.YtpllghhgndfkhaaW.PrintWords Go.Proofs.YtpllghhgndfkhaaW.PrintLast Go.Proofs.YtpllghhgndfkhaaW.PrintMore

theorem rd_at {l : List Int} {i : Nat} (h : i < l.length) : rd l (i : Int) = l[i] := by unfold rd; exact getD_cast h
theorem rdL2_at {l : List (List Int)} {i : Nat} (h : i < l.length) : rd_L2 l (i : Int) = l[i] := by unfold rd_L2; exact getD_cast h

theorem set_front {α : Type} {l : List α} {z : α} {i d : Nat} (h : i < l.length) : (l.take i ++ List.replicate (d + 1) z).set i l[i] = l.take (i + 1) ++ List.replicate d z := by
  rw [List.replicate_succ, List.set_append_right _ _ (by simp; omega), List.take_succ_eq_append_getElem h]
  simp only [List.length_take]
  rw [show i - min i l.length = 0 by omega, List.append_assoc]
  rfl

theorem toIntS_ev (l : List Int) (hl : l.length ≤ 1048576) : Evs (fun k => laws_toIntS.f k l) l := by
  have key : ∀ (d i : Nat), i + d = l.length → Evs (fun k => laws_toIntS.l0 k l (l.take i ++ List.replicate d 0) i) l := by
    intro d
    induction d with
    | zero =>
      intro i hi
      refine Evs.step (g' := fun _ => some l) (fun k => ?_) (Evs.const _)
      simp only [laws_toIntS.l0]
      rw [if_neg (by omega), List.take_of_length_le (by omega)]
      simp
    | succ d ih =>
      intro i hi
      refine Evs.step (fun k => ?_) (ih (i + 1) (by omega))
      simp only [laws_toIntS.l0]
      rw [if_pos (by omega), if_pos (by omega), if_pos (by simp; omega), w64 (by omega) (by omega), rd_at (by omega), Int.toNat_natCast, set_front (by omega)]
      rfl
  unfold laws_toIntS.f
  refine Evs.pos (by omega) (Evs.pos (by simp; omega) ?_)
  have := key l.length 0 (by omega)
  simpa using this

theorem toIntSS_ev (l : List (List Int)) (hl : l.length ≤ 1048576) (hin : ∀ x ∈ l, x.length ≤ 1048576) : Evs (fun k => laws_toIntSS.f k l) l := by
  have key : ∀ (d i : Nat), i + d = l.length → Evs (fun k => laws_toIntSS.l0 k l (l.take i ++ List.replicate d []) i) l := by
    intro d
    induction d with
    | zero =>
      intro i hi
      refine Evs.step (g' := fun _ => some l) (fun k => ?_) (Evs.const _)
      simp only [laws_toIntSS.l0]
      rw [if_neg (by omega), List.take_of_length_le (by omega)]
      simp
    | succ d ih =>
      intro i hi
      refine Evs.step (g' := fun k => (laws_toIntS.f k l[i]).bind fun t => laws_toIntSS.l0 k l ((l.take i ++ List.replicate (d + 1) []).set i t) ((i + 1 : Nat) : Int)) (fun k => ?_) (Evs.bind (toIntS_ev _ (hin _ (List.getElem_mem _))) ?_)
      · simp only [laws_toIntSS.l0]
        have hlt : (i : Int) < ((l.take i ++ List.replicate (d + 1) ([] : List Int)).length : Int) := by simp; omega
        rw [if_pos (by omega), if_pos (by omega), w64 (by omega) (by omega), rdL2_at (by omega), Int.toNat_natCast]
        simp only [hlt, if_true]
        rfl
      · show Evs (fun k => laws_toIntSS.l0 k l ((l.take i ++ List.replicate (d + 1) []).set i l[i]) ((i + 1 : Nat) : Int)) l
        rw [set_front (by omega)]
        exact ih (i + 1) (by omega)
  unfold laws_toIntSS.f
  refine Evs.pos (by omega) (Evs.pos (by simp; omega) ?_)
  have := key l.length 0 (by omega)
  simpa using this

theorem eqIntS_ev (l : List Int) (hl : l.length ≤ 1048576) : Evs (fun k => laws_eqIntS.f k l l) true := by
  have key : ∀ (d i : Nat), i + d = l.length → Evs (fun k => laws_eqIntS.l0 k l l i) true := by
    intro d
    induction d with
    | zero =>
      intro i hi
      refine Evs.step (g' := fun _ => some true) (fun k => ?_) (Evs.const _)
      simp only [laws_eqIntS.l0]
      rw [if_neg (by omega)]
    | succ d ih =>
      intro i hi
      refine Evs.step (fun k => ?_) (ih (i + 1) (by omega))
      simp only [laws_eqIntS.l0]
      rw [if_pos (by omega), if_pos (by omega), if_pos (by omega), if_pos trivial, w64 (by omega) (by omega)]
      rfl
  unfold laws_eqIntS.f
  exact Evs.pos rfl (by simpa using key l.length 0 (by omega))

theorem eqIntSS_ev (l : List (List Int)) (hl : l.length ≤ 1048576) (hin : ∀ x ∈ l, x.length ≤ 1048576) : Evs (fun k => laws_eqIntSS.f k l l) true := by
  have key : ∀ (d i : Nat), i + d = l.length → Evs (fun k => laws_eqIntSS.l0 k l l i) true := by
    intro d
    induction d with
    | zero =>
      intro i hi
      refine Evs.step (g' := fun _ => some true) (fun k => ?_) (Evs.const _)
      simp only [laws_eqIntSS.l0]
      rw [if_neg (by omega)]
    | succ d ih =>
      intro i hi
      refine Evs.step (g' := fun k => (laws_eqIntS.f k l[i] l[i]).bind fun t => if t = true then laws_eqIntSS.l0 k l l ((i + 1 : Nat) : Int) else some false) (fun k => ?_) (Evs.bind (eqIntS_ev _ (hin _ (List.getElem_mem _))) (Evs.pos rfl (ih (i + 1) (by omega))))
      simp only [laws_eqIntSS.l0]
      rw [if_pos (by omega), if_pos (by omega), if_pos (by omega), w64 (by omega) (by omega), rdL2_at (by omega)]
      rfl
  unfold laws_eqIntSS.f
  exact Evs.pos rfl (by simpa using key l.length 0 (by omega))

/-- What is left of a bound. -/
def lft (n : Nat) (a : Int) : Int := if a - n < 0 then -1 else a - n
theorem szIntS_ev (l : List Int) (a : Int) (hl : l.length ≤ 9223372036854775807) (h0 : 0 ≤ a) (h1 : a ≤ 1048576) : laws_szIntS.f l a = some (lft l.length a) := by
  unfold laws_szIntS.f lft
  rw [w64 (by omega) (by omega)]
  split <;> rfl

/-- What is left of a bound behind some rows. -/
def lfts : List (List Int) → Int → Int
  | [], a => a
  | x :: xs, a => if a - x.length < 0 then -1 else lfts xs (a - x.length)
theorem lfts_nn : ∀ (l : List (List Int)) (a : Int), 0 ≤ lfts l a → 0 ≤ a ∧ (l.flatten.length : Int) ≤ a ∧ lfts l a = a - l.flatten.length
  | [], a => by intro h; simp only [lfts] at h ⊢; simp; exact h
  | x :: xs, a => by
    intro h
    simp only [lfts] at h ⊢
    split at h
    · omega
    · rename_i h1
      rw [if_neg h1]
      have := lfts_nn xs _ h
      simp only [List.flatten_cons, List.length_append]
      omega
theorem szIntSS_ev (l : List (List Int)) (a : Int) (hl : l.length ≤ 9223372036854775807) (hin : ∀ x ∈ l, x.length ≤ 9223372036854775807) (h0 : 0 ≤ a) (h1 : a ≤ 1048576) :
    Evs (fun k => laws_szIntSS.f k l a) (if a - l.length < 0 then -1 else lfts l (a - l.length)) := by
  have key : ∀ (d i : Nat) (b : Int), i + d = l.length → 0 ≤ b → b ≤ 1048576 → l.length ≤ 1048576 → Evs (fun k => laws_szIntSS.l0 k l b i) (lfts (l.drop i) b) := by
    intro d
    induction d with
    | zero =>
      intro i b hi _ _ _
      refine Evs.step (g' := fun _ => some b) (fun k => ?_) ?_
      · simp only [laws_szIntSS.l0]
        rw [if_neg (by omega)]
      · rw [List.drop_of_length_le (by omega)]
        exact Evs.const _
    | succ d ih =>
      intro i b hi hb0 hb1 hll
      refine Evs.step (g' := fun k => if lft l[i].length b < 0 then some (-1) else laws_szIntSS.l0 k l (lft l[i].length b) ((i + 1 : Nat) : Int)) (fun k => ?_) ?_
      · simp only [laws_szIntSS.l0]
        rw [if_pos (by omega), if_pos (by omega), w64 (by omega) (by omega), rdL2_at (by omega), szIntS_ev _ _ (hin _ (List.getElem_mem _)) hb0 hb1, Option.bind_some]
        rfl
      · rw [List.drop_eq_getElem_cons (by omega : i < l.length)]
        simp only [lfts]
        unfold lft
        by_cases hc : b - l[i].length < 0
        · simp only [if_pos hc]
          exact Evs.pos (by omega) (Evs.const _)
        · simp only [if_neg hc]
          exact ih (i + 1) _ (by omega) (by omega) (by omega) hll
  unfold laws_szIntSS.f
  rw [w64 (by omega) (by omega)]
  by_cases hc : a - l.length < 0
  · rw [if_pos hc]
    exact Evs.pos hc (Evs.const _)
  · rw [if_neg hc]
    exact Evs.neg hc (by simpa using key l.length 0 _ (by omega) (by omega) (by omega) (by omega))

end Go.Proofs.Ytpllghhgndfkhaa.PFnExactOrientedMatrix
