/- Components of a graph, by the program and by the reference: one list. -/
import Derived.Test.YtpllghhgndfkhaaQGPlFace
namespace Go.Proofs.Ytpllghhgndfkhaa.PFnExactGenusOf
open Go.RowKit Go.Proofs.YtpllghhgndfkhaaW.PrintWords Go.Proofs.YtpllghhgndfkhaaW.PrintLast Go.Proofs.YtpllghhgndfkhaaW.PrintMore

/-- b's part goes over to a. -/
def relab (a b : Int) (p : List Int) : List Int := p.map fun x => if x = b then a else x
def edgeStep (p : List Int) (e : S78) : List Int := relab (mn (rd p e.f0) (rd p e.f1)) (mx (rd p e.f0) (rd p e.f1)) p
/-- For each node a node of its part. -/
def comps (n : Nat) (es : List S78) : List Int := es.foldl edgeStep (ups n)
theorem relab_length (a b : Int) (p : List Int) : (relab a b p).length = p.length := by simp [relab]
theorem comps_len (n : Nat) (es : List S78) : (comps n es).length = n := by
  have : ∀ (l : List S78) (p : List Int), (l.foldl edgeStep p).length = p.length := by
    intro l
    induction l with
    | nil => intro p; rfl
    | cons e l ih => intro p; rw [List.foldl_cons, ih]; simp [edgeStep, relab]
  rw [comps, this, ups_length]
theorem comps_succ (n : Nat) (es : List S78) {j : Nat} (h : j < es.length) : comps n (es.take (j + 1)) = edgeStep (comps n (es.take j)) es[j] := by
  rw [List.take_succ_eq_append_getElem h, comps, List.foldl_append]; rfl

theorem relab_step {a b : Int} {p : List Int} {i : Nat} (h : i < p.length) (hb : p[i] = b) : (relab a b (p.take i) ++ p.drop i).set i a = relab a b (p.take (i + 1)) ++ p.drop (i + 1) := by
  rw [List.drop_eq_getElem_cons h, List.set_append_right _ _ (by simp [relab]; omega), List.take_succ_eq_append_getElem h]
  simp only [relab, List.length_map, List.length_take, List.map_append]
  rw [show i - min i p.length = 0 by omega, List.append_assoc]
  simp [hb]
theorem relab_keep {a b : Int} {p : List Int} {i : Nat} (h : i < p.length) (hb : p[i] ≠ b) : relab a b (p.take i) ++ p.drop i = relab a b (p.take (i + 1)) ++ p.drop (i + 1) := by
  rw [List.drop_eq_getElem_cons h, List.take_succ_eq_append_getElem h]
  simp only [relab, List.map_append, List.map_cons, List.map_nil, if_neg hb, List.append_assoc, List.singleton_append]
theorem relab_rd {a b : Int} {p : List Int} {i : Nat} (h : i < p.length) : rd (relab a b (p.take i) ++ p.drop i) (i : Int) = p[i] := by
  have hl : (relab a b (p.take i)).length = i := by simp [relab]; omega
  rw [rd_at (by rw [List.length_append, hl, List.length_drop]; omega), List.getElem_append_right (by omega)]
  simp [hl]
theorem relab_len {a b : Int} {p : List Int} {i : Nat} : (relab a b (p.take i) ++ p.drop i).length = p.length := by
  simp [relab]; omega

theorem ups_succ (n : Nat) : ups (n + 1) = ups n ++ [(n : Int)] := by simp [ups, List.range_succ]

theorem l39Parts_ev {N : Int} {es : List S78} (hg : graphP N es) : Evs (fun k => spec_l39Parts.f k N es) (comps N.toNat es) := by
  obtain ⟨hN0, hN1, hE, hed⟩ := hg
  have key1 : ∀ (c j : Nat), j + c = es.length → Evs (fun k => spec_l39Parts.l1 k (comps N.toNat (es.take j)) es (es.length : Int) j) (comps N.toNat es) := by
    intro c
    induction c with
    | zero =>
      intro j hj
      refine Evs.step (fun k => by simp only [spec_l39Parts.l1]; rfl) (Evs.neg (by omega) ?_)
      rw [List.take_of_length_le (by omega)]
      exact Evs.const _
    | succ c ih =>
      intro j hj
      have hjl : j < es.length := by omega
      obtain ⟨e0, e1, e2, e3⟩ := hed _ (List.getElem_mem hjl)
      obtain ⟨p, hp⟩ : ∃ p, p = comps N.toNat (es.take j) := ⟨_, rfl⟩
      have hpl : p.length = N.toNat := by rw [hp, comps_len]
      rw [← hp]
      refine Evs.step (fun k => by simp only [spec_l39Parts.l1]; rfl) (Evs.pos (by omega) (Evs.pos (by omega) (Evs.pos (by omega) ?_)))
      rw [rdT78_at hjl]
      refine Evs.pos e0 (Evs.pos (by omega) (Evs.pos e2 (Evs.pos (by omega) ?_)))
      have ihj := ih (j + 1) (by omega)
      rw [comps_succ _ _ hjl, ← hp] at ihj
      unfold edgeStep at ihj
      generalize mn (rd p es[j].f0) (rd p es[j].f1) = a at ihj ⊢
      generalize mx (rd p es[j].f0) (rd p es[j].f1) = b at ihj ⊢
      have key2 : ∀ (d i : Nat), i + d = p.length → Evs (fun k => spec_l39Parts.l2 k (relab a b (p.take i) ++ p.drop i) a b es (es.length : Int) j (p.length : Int) i) (comps N.toNat es) := by
        intro d
        induction d with
        | zero =>
          intro i hi
          refine Evs.step (fun k => by simp only [spec_l39Parts.l2]; rfl) (Evs.neg (by omega) ?_)
          rw [cast_succ (by omega), List.take_of_length_le (by omega), List.drop_of_length_le (by omega), List.append_nil]
          exact ihj
        | succ d ihd =>
          intro i hi
          have hil : i < p.length := by omega
          refine Evs.step (fun k => by simp only [spec_l39Parts.l2]; rfl) (Evs.pos (by omega) (Evs.pos (by omega) (Evs.pos (by rw [relab_len]; omega) ?_)))
          rw [relab_rd hil, cast_succ (by omega), Int.toNat_natCast]
          by_cases h : p[i] = b
          · rw [relab_step hil h]
            exact Evs.pos h (ihd (i + 1) (by omega))
          · refine Evs.neg h ?_
            rw [relab_keep hil h]
            exact ihd (i + 1) (by omega)
      simpa [relab] using key2 p.length 0 (by omega)
  have key0 : ∀ (c i : Nat), i + c = N.toNat → Evs (fun k => spec_l39Parts.l0 k (ups i) i N es) (comps N.toNat es) := by
    intro c
    induction c with
    | zero =>
      intro i hi
      refine Evs.step (fun k => by simp only [spec_l39Parts.l0]; rfl) (Evs.neg (by omega) ?_)
      have := key1 es.length 0 (by omega)
      rw [show i = N.toNat by omega]
      simpa [comps] using this
    | succ c ih =>
      intro i hi
      refine Evs.step (fun k => by simp only [spec_l39Parts.l0]; rfl) (Evs.pos (by omega) (Evs.pos (by rw [ups_length]; omega) ?_))
      rw [← ups_succ, cast_succ (by omega)]
      exact ih (i + 1) (by omega)
  unfold spec_l39Parts.f
  simpa [ups] using key0 N.toNat 0 (by omega)

theorem full_bit (E k : Nat) (hE : E ≤ 10) (hk : k < E) : Go.bits .and .i64 (shr .i64 (wrap64 ((shl .i64 1 (E : Int)) - 1)) (k : Int)) 1 = 1 := by
  have h : ∀ E : Fin 11, ∀ k : Fin 10, k.1 < E.1 → Go.bits .and .i64 (shr .i64 (wrap64 ((shl .i64 1 (E.1 : Int)) - 1)) (k.1 : Int)) 1 = 1 := by decide +kernel
  exact h ⟨E, by omega⟩ ⟨k, by omega⟩ hk

theorem set_ups (n i : Nat) (h : i < n) : (ups i ++ List.replicate (n - i) 0).set i (i : Int) = ups (i + 1) ++ List.replicate (n - (i + 1)) 0 := by
  rw [show n - i = (n - (i + 1)) + 1 by omega, List.replicate_succ, List.set_append_right _ _ (by simp [ups]), ups_succ, ups_length, Nat.sub_self, List.append_assoc]
  rfl

theorem componentsOf_ev {N : Int} {es : List S78} (hg : graphP N es) : Evs (fun k => impl_componentsOf.f k N es (wrap64 ((shl .i64 1 (es.length : Int)) - 1))) (comps N.toNat es) := by
  obtain ⟨hN0, hN1, hE, hed⟩ := hg
  obtain ⟨S, hS⟩ : ∃ S, S = wrap64 ((shl .i64 1 (es.length : Int)) - 1) := ⟨_, rfl⟩
  rw [← hS]
  have key1 : ∀ (c j : Nat), j + c = es.length → Evs (fun k => impl_componentsOf.l1 k S (comps N.toNat (es.take j)) es (es.length : Int) j) (comps N.toNat es) := by
    intro c
    induction c with
    | zero =>
      intro j hj
      refine Evs.step (fun k => by simp only [impl_componentsOf.l1]; rfl) (Evs.neg (by omega) ?_)
      rw [List.take_of_length_le (by omega)]
      exact Evs.const _
    | succ c ih =>
      intro j hj
      have hjl : j < es.length := by omega
      obtain ⟨e0, e1, e2, e3⟩ := hed _ (List.getElem_mem hjl)
      obtain ⟨p, hp⟩ : ∃ p, p = comps N.toNat (es.take j) := ⟨_, rfl⟩
      have hpl : p.length = N.toNat := by rw [hp, comps_len]
      have hbit := full_bit es.length j hE hjl
      rw [← hp]
      refine Evs.step (fun k => by simp only [impl_componentsOf.l1]; rfl) (Evs.pos (by omega) (Evs.pos (by omega) (Evs.pos (by omega) ?_)))
      rw [hS, hbit, ← hS, rdT78_at hjl]
      refine Evs.neg (by omega) (Evs.pos e0 (Evs.pos (by omega) (Evs.pos e2 (Evs.pos (by omega) ?_))))
      have ihj := ih (j + 1) (by omega)
      rw [comps_succ _ _ hjl, ← hp] at ihj
      unfold edgeStep at ihj
      generalize mn (rd p es[j].f0) (rd p es[j].f1) = a at ihj ⊢
      generalize mx (rd p es[j].f0) (rd p es[j].f1) = b at ihj ⊢
      have key2 : ∀ (d i : Nat), i + d = p.length → Evs (fun k => impl_componentsOf.l2 k S (relab a b (p.take i) ++ p.drop i) a b es (es.length : Int) j (p.length : Int) i) (comps N.toNat es) := by
        intro d
        induction d with
        | zero =>
          intro i hi
          refine Evs.step (fun k => by simp only [impl_componentsOf.l2]; rfl) (Evs.neg (by omega) ?_)
          rw [cast_succ (by omega), List.take_of_length_le (by omega), List.drop_of_length_le (by omega), List.append_nil]
          exact ihj
        | succ d ihd =>
          intro i hi
          have hil : i < p.length := by omega
          refine Evs.step (fun k => by simp only [impl_componentsOf.l2]; rfl) (Evs.pos (by omega) (Evs.pos (by omega) (Evs.pos (by rw [relab_len]; omega) ?_)))
          rw [relab_rd hil, cast_succ (by omega), Int.toNat_natCast]
          by_cases h : p[i] = b
          · rw [relab_step hil h]
            exact Evs.pos h (ihd (i + 1) (by omega))
          · refine Evs.neg h ?_
            rw [relab_keep hil h]
            exact ihd (i + 1) (by omega)
      simpa [relab] using key2 p.length 0 (by omega)
  have key0 : ∀ (c i : Nat), i + c = N.toNat → Evs (fun k => impl_componentsOf.l0 k S (ups i ++ List.replicate (N.toNat - i) 0) (N.toNat : Int) i N es) (comps N.toNat es) := by
    intro c
    induction c with
    | zero =>
      intro i hi
      refine Evs.step (fun k => by simp only [impl_componentsOf.l0]; rfl) (Evs.neg (by omega) ?_)
      have := key1 es.length 0 (by omega)
      rw [show i = N.toNat by omega]
      simpa [comps] using this
    | succ c ih =>
      intro i hi
      refine Evs.step (fun k => by simp only [impl_componentsOf.l0]; rfl) (Evs.pos (by omega) (Evs.pos (by omega) (Evs.pos (by rw [List.length_append, ups_length, List.length_replicate]; omega) ?_)))
      rw [Int.toNat_natCast, set_ups _ _ (by omega), cast_succ (by omega)]
      exact ih (i + 1) (by omega)
  unfold impl_componentsOf.f
  refine Evs.pos hN0 (Evs.pos (by omega) (Evs.bindc rfl ?_))
  have := key0 N.toNat 0 (by omega)
  simpa [ups] using this

theorem GenusOf_ev (N : Int) (es : List S78) (ar : List (List Int)) (har : ar.length ≤ 1048576) (hfl : ar.flatten.length ≤ 1048576) :
    ∃ g, Evs (fun k => spec_GenusOf.f k N es ar) g ∧ Evs (fun k => impl_GenusOf.f k N es ar) g ∧ (¬ mapP N es ar → g = -1) := by
  by_cases hm : mapP N es ar
  case neg =>
    refine ⟨-1, ?_, ?_, fun _ => rfl⟩
    · unfold spec_GenusOf.f
      refine Evs.bind (spec_MapOk_ev N es ar har hfl) ?_
      rw [B_false hm]
      exact Evs.no (Evs.const _)
    · unfold impl_GenusOf.f
      refine Evs.bind (impl_MapOk_ev N es ar har hfl) ?_
      rw [B_false hm]
      exact Evs.no (Evs.const _)
  obtain ⟨F, f1, f2, _, _⟩ := FacesOf_ev N es ar har hfl
  have hg := hm.1
  have hN := hm.2.1
  have hpl : (comps N.toNat es).length = ar.length := by rw [comps_len]; omega
  generalize hp : comps N.toNat es = p at hpl
  have key : ∀ (d i : Nat) (c n : Int), i + d = ar.length → ∃ g, Evs (fun k => spec_GenusOf.l0 k p c n ar (ar.length : Int) i N es ar) g ∧ Evs (fun k => impl_GenusOf.l0 k p c n ar (ar.length : Int) i N es ar) g := by
    intro d
    induction d with
    | zero =>
      intro i c n hi
      refine ⟨wrap64 (Int.tdiv (wrap64 ((wrap64 ((wrap64 ((wrap64 (2 * c)) - n)) + (es.length : Int))) - (F.length : Int))) 2), ?_, ?_⟩
      · exact Evs.step (fun k => by simp only [spec_GenusOf.l0]; rfl) (Evs.neg (by omega) (Evs.bind f1 (Evs.const _)))
      · exact Evs.step (fun k => by simp only [impl_GenusOf.l0]; rfl) (Evs.neg (by omega) (Evs.bind f2 (Evs.const _)))
    | succ d ih =>
      intro i c n hi
      have hil : i < ar.length := by omega
      by_cases h0 : ar[i].length = 0
      · obtain ⟨g, g1, g2⟩ := ih (i + 1) c n (by omega)
        refine ⟨g, ?_, ?_⟩
        · refine Evs.step (fun k => by simp only [spec_GenusOf.l0]; rfl) (Evs.pos (by omega) (Evs.pos (by omega) (Evs.pos (by omega) ?_)))
          rw [rdL2_at hil, cast_succ (by omega)]
          exact Evs.neg (by omega) g1
        · refine Evs.step (fun k => by simp only [impl_GenusOf.l0]; rfl) (Evs.pos (by omega) (Evs.pos (by omega) (Evs.pos (by omega) ?_)))
          rw [rdL2_at hil, cast_succ (by omega)]
          exact Evs.pos (by omega) g2
      · by_cases h1 : rd p i = i
        · obtain ⟨g, g1, g2⟩ := ih (i + 1) (wrap64 (c + 1)) (wrap64 (n + 1)) (by omega)
          refine ⟨g, ?_, ?_⟩
          · refine Evs.step (fun k => by simp only [spec_GenusOf.l0]; rfl) (Evs.pos (by omega) (Evs.pos (by omega) (Evs.pos (by omega) ?_)))
            rw [rdL2_at hil, cast_succ (by omega)]
            exact Evs.pos (by omega) (Evs.pos (by omega) (Evs.pos h1 g1))
          · refine Evs.step (fun k => by simp only [impl_GenusOf.l0]; rfl) (Evs.pos (by omega) (Evs.pos (by omega) (Evs.pos (by omega) ?_)))
            rw [rdL2_at hil, cast_succ (by omega)]
            exact Evs.neg (by omega) (Evs.pos (by omega) (Evs.pos h1 g2))
        · obtain ⟨g, g1, g2⟩ := ih (i + 1) c (wrap64 (n + 1)) (by omega)
          refine ⟨g, ?_, ?_⟩
          · refine Evs.step (fun k => by simp only [spec_GenusOf.l0]; rfl) (Evs.pos (by omega) (Evs.pos (by omega) (Evs.pos (by omega) ?_)))
            rw [rdL2_at hil, cast_succ (by omega)]
            exact Evs.pos (by omega) (Evs.pos (by omega) (Evs.neg h1 g1))
          · refine Evs.step (fun k => by simp only [impl_GenusOf.l0]; rfl) (Evs.pos (by omega) (Evs.pos (by omega) (Evs.pos (by omega) ?_)))
            rw [rdL2_at hil, cast_succ (by omega)]
            exact Evs.neg (by omega) (Evs.pos (by omega) (Evs.neg h1 g2))
  obtain ⟨g, g1, g2⟩ := key ar.length 0 0 0 (by omega)
  have c1 := l39Parts_ev hg
  have c2 := componentsOf_ev hg
  rw [hp] at c1 c2
  refine ⟨g, ?_, ?_, fun h => absurd hm h⟩
  · unfold spec_GenusOf.f
    refine Evs.bind (spec_MapOk_ev N es ar har hfl) ?_
    rw [B_true hm]
    exact Evs.yes (Evs.bind c1 (by simpa using g1))
  · unfold impl_GenusOf.f
    refine Evs.bind (impl_MapOk_ev N es ar har hfl) ?_
    rw [B_true hm]
    exact Evs.yes (Evs.bind c2 (by simpa using g2))

end Go.Proofs.Ytpllghhgndfkhaa.PFnExactGenusOf
