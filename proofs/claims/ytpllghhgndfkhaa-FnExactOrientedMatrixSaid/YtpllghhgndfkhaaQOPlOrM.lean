/- OrientedMatrix of the program and of the reference. -/
import Derived.Test.YtpllghhgndfkhaaQOPlPrime
namespace Go.Proofs.Ytpllghhgndfkhaa.PFnExactOrientedMatrix
open Go.RowKit Go.Proofs.YtpllghhgndfkhaaW.PrintWords Go.Proofs.YtpllghhgndfkhaaW.PrintLast Go.Proofs.YtpllghhgndfkhaaW.PrintMore

def rowP (n : Nat) (o : List Int) : Prop := o.length = n ∧ ∀ x ∈ o, 0 ≤ x ∧ x ≤ 1
theorem rowP_not {n : Nat} {o : List Int} {i : Nat} (hi : i < o.length) (h : ¬ (0 ≤ o[i] ∧ o[i] ≤ 1)) : ¬ rowP n o := fun hp => h (hp.2 _ (List.getElem_mem hi))

theorem l34Row_ev (o : List Int) (n : Nat) (hl : o.length ≤ 1048576) : Evs (fun k => spec_l34Row.f k 2 o (n : Int)) (B (rowP n o)) := by
  have key : ∀ (d i : Nat), i + d = o.length → (∀ j (hj : j < o.length), j < i → 0 ≤ o[j] ∧ o[j] ≤ 1) → Evs (fun k => spec_l34Row.l0 k 2 o (n : Int) o (o.length : Int) i) (B (rowP n o)) := by
    intro d
    induction d with
    | zero =>
      intro i hi hall
      refine Evs.step (fun k => by simp only [spec_l34Row.l0]; rfl) (Evs.neg (by omega) ?_)
      by_cases hc : o.length = n
      · rw [B_true ⟨hc, fun x hx => by obtain ⟨j, hj, rfl⟩ := List.getElem_of_mem hx; exact hall j hj (by omega)⟩, hc]
        simp only [beq_self_eq_true]
        exact Evs.const _
      · rw [B_false fun h => hc h.1, beq_eq_false_iff_ne.2 (show (o.length : Int) ≠ (n : Int) by omega)]
        exact Evs.const _
    | succ d ih =>
      intro i hi hall
      refine Evs.step (fun k => by simp only [spec_l34Row.l0]; rfl) (Evs.pos (by omega) (Evs.pos (by omega) (Evs.pos (by omega) ?_)))
      rw [rd_at (by omega), w64 (x := (2 : Int) - 1) (by omega) (by omega), cast_succ (by omega)]
      refine Evs.bindc (l01In_eq _ _ _) ?_
      by_cases h : 0 ≤ o[i] ∧ o[i] ≤ 1
      · rw [inB_true (by omega)]
        refine Evs.yes (ih (i + 1) (by omega) fun j hj hji => ?_)
        by_cases e : j = i
        · subst e; exact h
        · exact hall j hj (by omega)
      · rw [inB_false (by omega), B_false (rowP_not (i := i) (by omega) h)]
        exact Evs.no (Evs.const _)
  unfold spec_l34Row.f
  exact key o.length 0 (by omega) (fun j _ hj => absurd hj (by omega))

theorem twos_ev (n : Nat) (hn : n ≤ 1048576) : Evs (fun k => impl_twos.f k (n : Int)) (List.replicate n 2) := by
  have key : ∀ (d i : Nat), i + d = n → Evs (fun k => impl_twos.l0 k (List.replicate i 2 ++ List.replicate d 0) (n : Int) i) (List.replicate n 2) := by
    intro d
    induction d with
    | zero =>
      intro i hi
      obtain rfl : i = n := by omega
      refine Evs.step (g' := fun _ => some _) (fun k => ?_) (Evs.const _)
      simp only [impl_twos.l0]
      rw [if_neg (by omega)]
      simp
    | succ d ih =>
      intro i hi
      refine Evs.step (fun k => by simp only [impl_twos.l0]; rfl) (Evs.pos (by omega) (Evs.pos (by omega) (Evs.pos (by simp; omega) ?_)))
      have e : (List.replicate i (2 : Int) ++ List.replicate (d + 1) 0).set ((i : Int)).toNat 2 = List.replicate (i + 1) 2 ++ List.replicate d 0 := by
        rw [Int.toNat_natCast, List.replicate_succ (n := d), List.set_append_right _ _ (by simp), List.length_replicate, Nat.sub_self, List.replicate_succ', List.append_assoc]
        rfl
      rw [e, cast_succ (by omega)]
      exact ih (i + 1) (by omega)
  unfold impl_twos.f
  refine Evs.pos (by omega) (Evs.pos (by omega) (Evs.bindc rfl ?_))
  have := key n 0 (by omega)
  simpa using this

theorem indexOk_ev (o : List Int) (n : Nat) (hl : o.length ≤ 1048576) : Evs (fun k => impl_indexOk.f k (List.replicate n 2) o) (B (rowP n o)) := by
  unfold impl_indexOk.f
  by_cases hc : o.length = n
  case neg =>
    rw [B_false fun h => hc h.1]
    exact Evs.neg (by rw [List.length_replicate]; omega) (Evs.const _)
  have key : ∀ (d i : Nat), i + d = o.length → (∀ j (hj : j < o.length), j < i → 0 ≤ o[j] ∧ o[j] ≤ 1) → Evs (fun k => impl_indexOk.l0 k (List.replicate n 2) o (o.length : Int) i) (B (rowP n o)) := by
    intro d
    induction d with
    | zero =>
      intro i hi hall
      rw [B_true ⟨hc, fun x hx => by obtain ⟨j, hj, rfl⟩ := List.getElem_of_mem hx; exact hall j hj (by omega)⟩]
      exact Evs.step (fun k => by simp only [impl_indexOk.l0]; rfl) (Evs.neg (by omega) (Evs.const _))
    | succ d ih =>
      intro i hi hall
      refine Evs.step (fun k => by simp only [impl_indexOk.l0]; rfl) (Evs.pos (by omega) (Evs.pos (by omega) (Evs.pos (by omega) ?_)))
      have h2 : rd (List.replicate n (2 : Int)) (i : Int) = 2 := by
        rw [rd_at (by rw [List.length_replicate]; omega)]
        simp
      rw [rd_at (show i < o.length by omega), h2, cast_succ (by omega)]
      by_cases h0 : o[i] < 0
      · rw [B_false (rowP_not (i := i) (by omega) (by omega))]
        exact Evs.pos h0 (Evs.const _)
      refine Evs.neg h0 (Evs.pos (by rw [List.length_replicate]; omega) ?_)
      by_cases h1 : o[i] ≥ 2
      · rw [B_false (rowP_not (i := i) (by omega) (by omega))]
        exact Evs.pos h1 (Evs.const _)
      refine Evs.neg h1 (ih (i + 1) (by omega) fun j hj hji => ?_)
      by_cases e : j = i
      · subst e; omega
      · exact hall j hj (by omega)
  exact Evs.pos (by rw [List.length_replicate]; omega) (key o.length 0 (by omega) (fun j _ hj => absurd hj (by omega)))

theorem idx_ok {N x y : Int} (hN : N ≤ 10) (hx0 : 0 ≤ x) (hx : x < N) (hy0 : 0 ≤ y) (hy : y < N) : wrap64 ((wrap64 (x * N)) + y) = x * N + y ∧ 0 ≤ x * N + y ∧ x * N + y < N * N ∧ N * N ≤ 100 := by
  have a := Int.mul_nonneg hx0 (show 0 ≤ N by omega)
  have b : x * N ≤ (N - 1) * N := Int.mul_le_mul_of_nonneg_right (by omega) (by omega)
  have c : (N - 1) * N = N * N - N := by rw [Int.sub_mul, Int.one_mul]
  have d : N * N ≤ 10 * N := Int.mul_le_mul_of_nonneg_right hN (by omega)
  rw [w64 (x := x * N) (by omega) (by omega), w64 (by omega) (by omega)]
  omega

theorem OrientedMatrix_ev (p N : Int) (es : List S78) (ar : List (List Int)) (o : List Int) (har : ar.length ≤ 1048576) (hfl : ar.flatten.length ≤ 1048576) (ho : o.length ≤ 1048576) :
    ∃ (r1 r2 : Int) (D : List Int) (b : Bool), Evs (fun k => spec_OrientedMatrix.f k p N es ar o) (r1, r2, D, b) ∧ Evs (fun k => impl_OrientedMatrix.f k p N es ar o) (r1, r2, D, b) ∧ D.length ≤ 100 := by
  obtain ⟨pb, p1, p2, hp⟩ := prime_both p
  have fail : ∀ {x}, x = true → Evs (fun k => spec_OrientedMatrix.j0 k p o x N es ar) (0, 0, [], false) ∧ Evs (fun k => impl_OrientedMatrix.j0 k p o x N es ar) (0, 0, [], false) := fun {x} hx => by
    subst hx
    exact ⟨Evs.step (fun k => by simp only [spec_OrientedMatrix.j0]; rfl) (Evs.tru (Evs.const _)), Evs.step (fun k => by simp only [impl_OrientedMatrix.j0]; rfl) (Evs.tru (Evs.const _))⟩
  cases pb with
  | false =>
    refine ⟨0, 0, [], false, ?_, ?_, by simp⟩
    · unfold spec_OrientedMatrix.f; exact Evs.bind p1 (Evs.no (fail rfl).1)
    · unfold impl_OrientedMatrix.f; exact Evs.bind p2 (Evs.no (fail rfl).2)
  | true =>
    have hpr := hp rfl
    have m1 := spec_MapOk_ev N es ar har hfl
    have m2 := impl_MapOk_ev N es ar har hfl
    by_cases hm : mapP N es ar
    case neg =>
      rw [B_false hm] at m1 m2
      refine ⟨0, 0, [], false, ?_, ?_, by simp⟩
      · unfold spec_OrientedMatrix.f; exact Evs.bind p1 (Evs.yes (Evs.bind m1 (Evs.no (fail rfl).1)))
      · unfold impl_OrientedMatrix.f; exact Evs.bind p2 (Evs.yes (Evs.bind m2 (Evs.no (fail rfl).2)))
    rw [B_true hm] at m1 m2
    have r1 := l34Row_ev o es.length ho
    have r2 := indexOk_ev o es.length ho
    have hE := hm.1.2.2.1
    have tw := twos_ev es.length (by omega)
    by_cases hro : rowP es.length o
    case neg =>
      rw [B_false hro] at r1 r2
      refine ⟨0, 0, [], false, ?_, ?_, by simp⟩
      · unfold spec_OrientedMatrix.f; exact Evs.bind p1 (Evs.yes (Evs.bind m1 (Evs.yes (Evs.bind r1 (fail rfl).1))))
      · unfold impl_OrientedMatrix.f; exact Evs.bind p2 (Evs.yes (Evs.bind m2 (Evs.yes (Evs.bind tw (Evs.bind r2 (fail rfl).2)))))
    rw [B_true hro] at r1 r2
    obtain ⟨hN0, hN1, _, hed⟩ := hm.1
    have hol := hro.1
    have hNN : 0 ≤ N * N ∧ N * N ≤ 100 := by
      have a := Int.mul_nonneg hN0 hN0
      have d : N * N ≤ 10 * N := Int.mul_le_mul_of_nonneg_right hN1 (by omega)
      omega
    have key : ∀ (c j : Nat) (D : List Int), j + c = es.length → (D.length : Int) = N * N → ∃ D', Evs (fun k => spec_OrientedMatrix.l0 k p o N es (es.length : Int) j N N D) (N, N, D', true) ∧ Evs (fun k => impl_OrientedMatrix.l0 k p o es (es.length : Int) j N N D) (N, N, D', true) ∧ (D'.length : Int) = N * N := by
      intro c
      induction c with
      | zero =>
        intro j D hj hD
        exact ⟨D, Evs.step (fun k => by simp only [spec_OrientedMatrix.l0]; rfl) (Evs.neg (by omega) (Evs.const _)), Evs.step (fun k => by simp only [impl_OrientedMatrix.l0]; rfl) (Evs.neg (by omega) (Evs.const _)), hD⟩
      | succ c ih =>
        intro j D hj hD
        have hjl : j < es.length := by omega
        obtain ⟨e0, e1, e2, e3⟩ := hed _ (List.getElem_mem hjl)
        obtain ⟨w1, q1, q2, _⟩ := idx_ok (N := N) (x := es[j].f0) (y := es[j].f1) hN1 e0 e1 e2 e3
        obtain ⟨w2, q3, q4, _⟩ := idx_ok (N := N) (x := es[j].f1) (y := es[j].f0) hN1 e2 e3 e0 e1
        by_cases h0 : rd o (j : Int) = 0
        · obtain ⟨y, hy⟩ : ∃ y, y = D.set (es[j].f1 * N + es[j].f0).toNat (Int.tmod (wrap64 ((rd D (es[j].f1 * N + es[j].f0)) + 1)) p) := ⟨_, rfl⟩
          have hyl : (y.length : Int) = N * N := by rw [hy]; simpa using hD
          obtain ⟨D', d1, d2, d3⟩ := ih (j + 1) (y.set (es[j].f0 * N + es[j].f1).toNat (Int.tmod (wrap64 ((wrap64 ((rd y (es[j].f0 * N + es[j].f1)) + p)) - 1)) p)) (by omega) (by simpa using hyl)
          refine ⟨D', ?_, ?_, d3⟩
          · refine Evs.step (fun k => by simp only [spec_OrientedMatrix.l0]; rfl) (Evs.pos (by omega) (Evs.pos (by omega) (Evs.pos (by omega) (Evs.pos (by omega) (Evs.pos h0 ?_)))))
            rw [rdT78_at hjl, w1, w2, cast_succ (by omega)]
            refine Evs.pos q3 (Evs.pos (by omega) (Evs.neg (by omega) (Evs.bindc (r := y) (by rw [hy]) (Evs.pos q1 (Evs.pos (by omega) d1)))))
          · refine Evs.step (fun k => by simp only [impl_OrientedMatrix.l0]; rfl) (Evs.pos (by omega) (Evs.pos (by omega) (Evs.pos (by omega) (Evs.pos (by omega) (Evs.pos h0 ?_)))))
            refine Evs.step (fun k => by simp only [impl_OrientedMatrix.j2, impl_Matrix_at.f, impl_Matrix_set.f]; rfl) ?_
            rw [rdT78_at hjl, w1, w2, cast_succ (by omega)]
            refine Evs.bindc (by rw [if_pos q3, if_pos (by omega)]) (Evs.neg (by omega) (Evs.bindc (r := y) (by rw [if_pos q3, if_pos (by omega), hy]) (Evs.bindc (by rw [if_pos q1, if_pos (by omega)]) (Evs.bindc (by rw [if_pos q1, if_pos (by omega)]) d2))))
        · obtain ⟨y, hy⟩ : ∃ y, y = D.set (es[j].f0 * N + es[j].f1).toNat (Int.tmod (wrap64 ((rd D (es[j].f0 * N + es[j].f1)) + 1)) p) := ⟨_, rfl⟩
          have hyl : (y.length : Int) = N * N := by rw [hy]; simpa using hD
          obtain ⟨D', d1, d2, d3⟩ := ih (j + 1) (y.set (es[j].f1 * N + es[j].f0).toNat (Int.tmod (wrap64 ((wrap64 ((rd y (es[j].f1 * N + es[j].f0)) + p)) - 1)) p)) (by omega) (by simpa using hyl)
          refine ⟨D', ?_, ?_, d3⟩
          · refine Evs.step (fun k => by simp only [spec_OrientedMatrix.l0]; rfl) (Evs.pos (by omega) (Evs.pos (by omega) (Evs.pos (by omega) (Evs.pos (by omega) (Evs.neg h0 ?_)))))
            rw [rdT78_at hjl, w1, w2, cast_succ (by omega)]
            refine Evs.pos q1 (Evs.pos (by omega) (Evs.neg (by omega) (Evs.bindc (r := y) (by rw [hy]) (Evs.pos q3 (Evs.pos (by omega) d1)))))
          · refine Evs.step (fun k => by simp only [impl_OrientedMatrix.l0]; rfl) (Evs.pos (by omega) (Evs.pos (by omega) (Evs.pos (by omega) (Evs.pos (by omega) (Evs.neg h0 ?_)))))
            refine Evs.step (fun k => by simp only [impl_OrientedMatrix.j2, impl_Matrix_at.f, impl_Matrix_set.f]; rfl) ?_
            rw [rdT78_at hjl, w1, w2, cast_succ (by omega)]
            refine Evs.bindc (by rw [if_pos q1, if_pos (by omega)]) (Evs.neg (by omega) (Evs.bindc (r := y) (by rw [if_pos q1, if_pos (by omega), hy]) (Evs.bindc (by rw [if_pos q3, if_pos (by omega)]) (Evs.bindc (by rw [if_pos q3, if_pos (by omega)]) d2))))
    obtain ⟨D', d1, d2, d3⟩ := key es.length 0 (List.replicate (N * N).toNat 0) (by omega) (by rw [List.length_replicate]; omega)
    have hw : wrap64 (N * N) = N * N := w64 (by omega) (by omega)
    refine ⟨N, N, D', true, ?_, ?_, by omega⟩
    · unfold spec_OrientedMatrix.f
      refine Evs.bind p1 (Evs.yes (Evs.bind m1 (Evs.yes (Evs.bind r1 ?_))))
      refine Evs.step (fun k => by simp only [spec_OrientedMatrix.j0]; rfl) (Evs.neg (by simp) ?_)
      exact Evs.bindc (r := (N, N, List.replicate (N * N).toNat 0)) (by unfold spec_l31New.f; rw [hw, if_pos hNN.1, if_pos (by omega)]) d1
    · unfold impl_OrientedMatrix.f
      refine Evs.bind p2 (Evs.yes (Evs.bind m2 (Evs.yes (Evs.bind tw (Evs.bind r2 ?_)))))
      refine Evs.step (fun k => by simp only [impl_OrientedMatrix.j0]; rfl) (Evs.neg (by simp) ?_)
      exact Evs.bindc (r := (N, N, List.replicate (N * N).toNat 0)) (by unfold impl_emptyMatrix.f; rw [hw, if_pos hNN.1, if_pos (by omega)]) d2

end Go.Proofs.Ytpllghhgndfkhaa.PFnExactOrientedMatrix
