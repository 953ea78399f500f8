/- Graphs and planar maps: what GraphOk and MapOk of the program and of the reference come to. -/
import Derived.Test.YtpllghhgndfkhaaQOPlIntS
namespace Go.Proofs.Ytpllghhgndfkhaa.PFnExactOrientedMatrix
open Go.RowKit Go.Proofs.YtpllghhgndfkhaaW.PrintWords Go.Proofs.YtpllghhgndfkhaaW.PrintLast Go.Proofs.YtpllghhgndfkhaaW.PrintMore

noncomputable def B (p : Prop) : Bool := @decide p (Classical.propDecidable p)
theorem B_true {p : Prop} (h : p) : B p = true := by simp [B, h]
theorem B_false {p : Prop} (h : ¬ p) : B p = false := by simp [B, h]

def inB (n lo hi : Int) : Bool := decide (lo ≤ n ∧ n ≤ hi)
theorem l01In_eq (n lo hi : Int) : spec_l01In.f n lo hi = some (inB n lo hi) := by
  unfold spec_l01In.f inB
  by_cases h : n ≥ lo
  · rw [if_pos h]; congr 1; simp; omega
  · rw [if_neg h]; congr 1; simp; omega
theorem inB_true {n lo hi : Int} (h : lo ≤ n ∧ n ≤ hi) : inB n lo hi = true := decide_eq_true h
theorem inB_false {n lo hi : Int} (h : ¬ (lo ≤ n ∧ n ≤ hi)) : inB n lo hi = false := decide_eq_false h

theorem rdT78_at {l : List S78} {i : Nat} (h : i < l.length) : rd_T78 l (i : Int) = l[i] := by unfold rd_T78; exact getD_cast h
theorem cast_succ {i : Nat} (h : i ≤ 1048576) : wrap64 ((i : Int) + 1) = ((i + 1 : Nat) : Int) := by rw [w64 (by omega) (by omega)]; omega

def edgeP (N : Int) (e : S78) : Prop := 0 ≤ e.f0 ∧ e.f0 < N ∧ 0 ≤ e.f1 ∧ e.f1 < N
def graphP (N : Int) (es : List S78) : Prop := 0 ≤ N ∧ N ≤ 10 ∧ es.length ≤ 10 ∧ ∀ e ∈ es, edgeP N e

theorem graphP_not {N : Int} {es : List S78} {i : Nat} (hi : i < es.length) (h : ¬ edgeP N es[i]) : ¬ graphP N es := fun hg => h (hg.2.2.2 _ (List.getElem_mem hi))

theorem spec_GraphOk_ev (N : Int) (es : List S78) : Evs (fun k => spec_GraphOk.f k N es) (B (graphP N es)) := by
  unfold spec_GraphOk.f
  refine Evs.bindc (l01In_eq N 0 10) ?_
  by_cases hN : 0 ≤ N ∧ N ≤ 10
  · rw [inB_true hN]
    refine Evs.yes (Evs.step (fun k => by simp only [spec_GraphOk.j0]; rfl) ?_)
    by_cases hl : es.length ≤ 10
    · refine Evs.neg (by simp; omega) ?_
      have key : ∀ (d i : Nat), i + d = es.length → (∀ j (hj : j < es.length), j < i → edgeP N es[j]) → Evs (fun k => spec_GraphOk.l0 k es (es.length : Int) i N es) (B (graphP N es)) := by
        intro d
        induction d with
        | zero =>
          intro i hi hall
          rw [B_true ⟨hN.1, hN.2, hl, fun e he => by obtain ⟨j, hj, rfl⟩ := List.getElem_of_mem he; exact hall j hj (by omega)⟩]
          exact Evs.step (fun k => by simp only [spec_GraphOk.l0]; rfl) (Evs.neg (by omega) (Evs.const _))
        | succ d ih =>
          intro i hi hall
          refine Evs.step (fun k => by simp only [spec_GraphOk.l0]; rfl) (Evs.pos (by omega) (Evs.pos (by omega) (Evs.pos (by omega) ?_)))
          rw [rdT78_at (by omega), w64 (x := N - 1) (by omega) (by omega), cast_succ (by omega)]
          refine Evs.bindc (l01In_eq _ _ _) ?_
          by_cases h0 : 0 ≤ es[i].f0 ∧ es[i].f0 ≤ N - 1
          · rw [inB_true h0]
            refine Evs.yes (Evs.bindc (l01In_eq _ _ _) ?_)
            by_cases h1 : 0 ≤ es[i].f1 ∧ es[i].f1 ≤ N - 1
            · rw [inB_true h1]
              refine Evs.yes (ih (i + 1) (by omega) fun j hj hji => ?_)
              by_cases e : j = i
              · subst e
                exact ⟨h0.1, by omega, h1.1, by omega⟩
              · exact hall j hj (by omega)
            · rw [inB_false h1, B_false (graphP_not (i := i) (by omega) fun h => h1 ⟨h.2.2.1, by have := h.2.2.2; omega⟩)]
              exact Evs.neg (by simp) (Evs.const _)
          · rw [inB_false h0, B_false (graphP_not (i := i) (by omega) fun h => h0 ⟨h.1, by have := h.2.1; omega⟩)]
            exact Evs.neg (by simp) (Evs.const _)
      exact key es.length 0 (by omega) (fun j _ hj => absurd hj (by omega))
    · rw [B_false fun h => hl h.2.2.1]
      exact Evs.pos (by simp; omega) (Evs.const _)
  · rw [inB_false hN, B_false fun h => hN ⟨h.1, h.2.1⟩]
    refine Evs.neg (by simp) (Evs.step (fun k => by simp only [spec_GraphOk.j0]; rfl) ?_)
    exact Evs.tru (Evs.const _)

theorem impl_GraphOk_ev (N : Int) (es : List S78) : Evs (fun k => impl_GraphOk.f k N es) (B (graphP N es)) := by
  unfold impl_GraphOk.f
  by_cases hN : N < 0
  · rw [B_false fun h => absurd h.1 (by omega)]
    exact Evs.pos hN (Evs.step (fun k => by simp only [impl_GraphOk.j0]; rfl) (Evs.tru (Evs.const _)))
  refine Evs.neg hN ?_
  by_cases hN' : N > 10
  · rw [B_false fun h => absurd h.2.1 (by omega)]
    exact Evs.pos hN' (Evs.step (fun k => by simp only [impl_GraphOk.j0]; rfl) (Evs.tru (Evs.const _)))
  refine Evs.neg hN' (Evs.step (fun k => by simp only [impl_GraphOk.j0]; rfl) ?_)
  by_cases hl : es.length ≤ 10
  · refine Evs.neg (by simp; omega) ?_
    have key : ∀ (d i : Nat), i + d = es.length → (∀ j (hj : j < es.length), j < i → edgeP N es[j]) → Evs (fun k => impl_GraphOk.l0 k es (es.length : Int) i N es) (B (graphP N es)) := by
      intro d
      induction d with
      | zero =>
        intro i hi hall
        rw [B_true ⟨by omega, by omega, hl, fun e he => by obtain ⟨j, hj, rfl⟩ := List.getElem_of_mem he; exact hall j hj (by omega)⟩]
        exact Evs.step (fun k => by simp only [impl_GraphOk.l0]; rfl) (Evs.neg (by omega) (Evs.const _))
      | succ d ih =>
        intro i hi hall
        refine Evs.step (fun k => by simp only [impl_GraphOk.l0]; rfl) (Evs.pos (by omega) (Evs.pos (by omega) (Evs.pos (by omega) ?_)))
        rw [rdT78_at (by omega), cast_succ (by omega)]
        by_cases h : edgeP N es[i]
        · obtain ⟨h0, h1, h2, h3⟩ := h
          refine Evs.neg (by omega) (Evs.neg (by omega) (Evs.neg (by omega) (Evs.neg (by omega) (ih (i + 1) (by omega) fun j hj hji => ?_))))
          by_cases e : j = i
          · subst e
            exact ⟨h0, h1, h2, h3⟩
          · exact hall j hj (by omega)
        · rw [B_false (graphP_not (i := i) (by omega) h)]
          by_cases h0 : es[i].f0 < 0
          · exact Evs.pos h0 (Evs.const _)
          refine Evs.neg h0 ?_
          by_cases h1 : es[i].f1 < 0
          · exact Evs.pos h1 (Evs.const _)
          refine Evs.neg h1 ?_
          by_cases h2 : es[i].f0 ≥ N
          · exact Evs.pos h2 (Evs.const _)
          refine Evs.neg h2 ?_
          by_cases h3 : es[i].f1 ≥ N
          · exact Evs.pos h3 (Evs.const _)
          exact absurd ⟨by omega, by omega, by omega, by omega⟩ h
    exact key es.length 0 (by omega) (fun j _ hj => absurd hj (by omega))
  · rw [B_false fun h => hl h.2.2.1]
    exact Evs.pos (by simp; omega) (Evs.const _)

/-! ### Darts -/

/-- The node of a dart. -/
def nodeD (es : List S78) (d : Int) : Int := if d % 2 = 0 then (es.getD (d / 2).toNat z78).f0 else (es.getD (d / 2).toNat z78).f1

theorem l39Node_eq (N : Int) (es : List S78) (d : Int) (h0 : 0 ≤ d) (h1 : d < 2 * es.length) (hl : es.length ≤ 10) : spec_l39Node.f N es d = some (nodeD es d) := by
  have e1 : Int.tmod d 2 = d % 2 := Int.tmod_eq_emod_of_nonneg h0
  have e2 : Int.tdiv d 2 = d / 2 := Int.tdiv_eq_ediv_of_nonneg h0
  unfold spec_l39Node.f nodeD rd_T78
  rw [e1, e2, w64 (by omega) (by omega)]
  by_cases h : d % 2 = 0
  · rw [if_pos h, if_pos (by omega), if_pos (by omega), if_pos h]
  · rw [if_neg h, if_pos (by omega), if_pos (by omega), if_neg h]
theorem nodeOf_eq (N : Int) (es : List S78) (d : Int) (h0 : 0 ≤ d) (h1 : d < 2 * es.length) (hl : es.length ≤ 10) : impl_nodeOf.f N es d = some (nodeD es d) := by
  have e1 : Int.tmod d 2 = d % 2 := Int.tmod_eq_emod_of_nonneg h0
  have e2 : Int.tdiv d 2 = d / 2 := Int.tdiv_eq_ediv_of_nonneg h0
  unfold impl_nodeOf.f nodeD rd_T78
  rw [e1, e2, w64 (by omega) (by omega)]
  by_cases h : d % 2 = 0
  · rw [if_pos h, if_pos (by omega), if_pos (by omega), if_pos h]
  · rw [if_neg h, if_pos (by omega), if_pos (by omega), if_neg h]
theorem nodeD_range {N : Int} {es : List S78} (hg : graphP N es) {d : Int} (h0 : 0 ≤ d) (h1 : d < 2 * es.length) : 0 ≤ nodeD es d ∧ nodeD es d < N := by
  have hi : (d / 2).toNat < es.length := by omega
  have h := hg.2.2.2 _ (List.getElem_mem hi)
  unfold nodeD
  rw [getD_lt hi]
  obtain ⟨a, b, c, e⟩ := h
  split
  · exact ⟨a, b⟩
  · exact ⟨c, e⟩

/-- The j-th dart around node i is right. -/
def dartP (es : List S78) (i : Nat) (l : List Int) (j : Nat) : Prop := ∀ h : j < l.length, 0 ≤ l[j] ∧ l[j] < 2 * es.length ∧ nodeD es l[j] = i ∧ l[j] ∉ l.take j
def mapP (N : Int) (es : List S78) (ar : List (List Int)) : Prop :=
  graphP N es ∧ (ar.length : Int) = N ∧ (∀ e ∈ es, e.f0 ≠ e.f1) ∧ (∀ i (h : i < ar.length) j, dartP es i ar[i] j) ∧ (ar.flatten.length : Int) = 2 * es.length
theorem mapP_not {N : Int} {es : List S78} {ar : List (List Int)} {i j : Nat} (hi : i < ar.length) (h : ¬ dartP es i ar[i] j) : ¬ mapP N es ar := fun hm => h (hm.2.2.2.1 i hi j)

theorem hasInt_ev (l : List Int) (x : Int) (hl : l.length ≤ 1048576) : Evs (fun k => impl_hasInt.f k l x) (decide (x ∈ l)) := by
  have key : ∀ (d i : Nat), i + d = l.length → (x ∉ l.take i) → Evs (fun k => impl_hasInt.l0 k x l (l.length : Int) i) (decide (x ∈ l)) := by
    intro d
    induction d with
    | zero =>
      intro i hi hn
      rw [List.take_of_length_le (by omega)] at hn
      rw [decide_eq_false hn]
      exact Evs.step (fun k => by simp only [impl_hasInt.l0]; rfl) (Evs.neg (by omega) (Evs.const _))
    | succ d ih =>
      intro i hi hn
      refine Evs.step (fun k => by simp only [impl_hasInt.l0]; rfl) (Evs.pos (by omega) (Evs.pos (by omega) (Evs.pos (by omega) ?_)))
      rw [rd_at (by omega), cast_succ (by omega)]
      by_cases h : x = l[i]
      · rw [decide_eq_true (h ▸ List.getElem_mem _)]
        exact Evs.pos h (Evs.const _)
      · refine Evs.neg h (ih (i + 1) (by omega) ?_)
        rw [List.take_succ_eq_append_getElem (by omega)]
        intro hm
        rcases List.mem_append.1 hm with h' | h'
        · exact hn h'
        · exact h (by simpa using h')
  unfold impl_hasInt.f
  exact key l.length 0 (by omega) (by simp)

theorem flat_take_succ {α : Type} {ar : List (List α)} {i : Nat} (h : i < ar.length) : (ar.take (i + 1)).flatten = (ar.take i).flatten ++ ar[i] := by
  rw [List.take_succ_eq_append_getElem h, List.flatten_append, List.flatten_singleton]
theorem flat_take_le {α : Type} {ar : List (List α)} (i : Nat) : (ar.take i).flatten.length ≤ ar.flatten.length := by
  have h : ar.flatten = (ar.take i).flatten ++ (ar.drop i).flatten := by rw [← List.flatten_append, List.take_append_drop]
  rw [h]; simp

theorem impl_MapOk_ev (N : Int) (es : List S78) (ar : List (List Int)) (har : ar.length ≤ 1048576) (hfl : ar.flatten.length ≤ 1048576) : Evs (fun k => impl_MapOk.f k N es ar) (B (mapP N es ar)) := by
  unfold impl_MapOk.f
  refine Evs.bind (impl_GraphOk_ev N es) ?_
  by_cases hg : graphP N es
  case neg =>
    rw [B_false hg, B_false fun h => hg h.1]
    exact Evs.neg (by simp) (Evs.step (fun k => by simp only [impl_MapOk.j0]; rfl) (Evs.tru (Evs.const _)))
  rw [B_true hg]
  refine Evs.yes (Evs.step (fun k => by simp only [impl_MapOk.j0]; rfl) ?_)
  by_cases hN : (ar.length : Int) = N
  case neg =>
    rw [B_false fun h => hN h.2.1]
    exact Evs.pos (by simpa using hN) (Evs.const _)
  refine Evs.neg (by simpa using hN) ?_
  have hE := hg.2.2.1
  -- the darts
  have key2 : ∀ (c i : Nat), i + c = ar.length → (∀ e ∈ es, e.f0 ≠ e.f1) → (∀ a (h : a < ar.length) j, a < i → dartP es a ar[a] j) →
      Evs (fun k => impl_MapOk.l1 k ((ar.take i).flatten.length : Int) ar (ar.length : Int) i N es ar) (B (mapP N es ar)) := by
    intro c
    induction c with
    | zero =>
      intro i hi hed hall
      refine Evs.step (fun k => by simp only [impl_MapOk.l1]; rfl) (Evs.neg (by omega) ?_)
      rw [List.take_of_length_le (by omega), w64 (by omega) (by omega)]
      by_cases hc : (ar.flatten.length : Int) = 2 * es.length
      · rw [B_true ⟨hg, hN, hed, fun a h j => hall a h j (by omega), hc⟩, hc]
        simp only [beq_self_eq_true]
        exact Evs.const _
      · rw [B_false fun h => hc h.2.2.2.2, beq_eq_false_iff_ne.2 hc]
        exact Evs.const _
    | succ c ihc =>
      intro i hi hed hall
      have hil : i < ar.length := by omega
      have hll : ar[i].length ≤ 1048576 := by
        have := flat_take_le (ar := ar) (i + 1)
        rw [flat_take_succ hil, List.length_append] at this
        omega
      refine Evs.step (fun k => by simp only [impl_MapOk.l1]; rfl) (Evs.pos (by omega) (Evs.pos (by omega) (Evs.pos (by omega) ?_)))
      rw [rdL2_at hil]
      have key3 : ∀ (d j : Nat), j + d = ar[i].length → (∀ q, q < j → dartP es i ar[i] q) →
          Evs (fun k => impl_MapOk.l2 k (((ar.take i).flatten.length : Int) + j) i ar[i] ar (ar.length : Int) i ar[i] (ar[i].length : Int) j N es ar) (B (mapP N es ar)) := by
        intro d
        induction d with
        | zero =>
          intro j hj hq
          refine Evs.step (fun k => by simp only [impl_MapOk.l2]; rfl) (Evs.neg (by omega) ?_)
          rw [cast_succ (by omega)]
          have := ihc (i + 1) (by omega) hed (fun a ha q hai => by
            by_cases e : a = i
            · subst e
              by_cases hql : q < ar[a].length
              · exact hq q (by omega)
              · exact fun h => absurd h hql
            · exact hall a ha q (by omega))
          rw [flat_take_succ hil, List.length_append, show j = ar[i].length by omega] at *
          simpa using this
        | succ d ihd =>
          intro j hj hq
          have hjl : j < ar[i].length := by omega
          refine Evs.step (fun k => by simp only [impl_MapOk.l2]; rfl) (Evs.pos (by omega) (Evs.pos (by omega) (Evs.pos (by omega) ?_)))
          have hcnt := flat_take_le (ar := ar) i
          rw [rd_at hjl, w64 (x := 2 * (es.length : Int)) (by omega) (by omega), cast_succ (by omega), w64 (x := ((ar.take i).flatten.length : Int) + j + 1) (by omega) (by omega), Int.toNat_natCast]
          by_cases h0 : ar[i][j] < 0
          · rw [B_false (mapP_not (i := i) (j := j) hil fun h => by have := (h hjl).1; omega)]
            exact Evs.pos h0 (Evs.const _)
          refine Evs.neg h0 ?_
          by_cases h1 : ar[i][j] ≥ 2 * (es.length : Int)
          · rw [B_false (mapP_not (i := i) (j := j) hil fun h => by have := (h hjl).2.1; omega)]
            exact Evs.pos h1 (Evs.const _)
          refine Evs.neg h1 (Evs.bindc (nodeOf_eq N es _ (by omega) (by omega) hE) ?_)
          by_cases h2 : nodeD es ar[i][j] = i
          case neg =>
            rw [B_false (mapP_not (i := i) (j := j) hil fun h => h2 (h hjl).2.2.1)]
            exact Evs.neg h2 (Evs.const _)
          refine Evs.pos h2 (Evs.pos (by omega) (Evs.bind (hasInt_ev (ar[i].take j) ar[i][j] (by simp; omega)) ?_))
          by_cases h3 : ar[i][j] ∈ ar[i].take j
          · rw [B_false (mapP_not (i := i) (j := j) hil fun h => (h hjl).2.2.2 h3)]
            exact Evs.pos (by simpa using h3) (Evs.const _)
          refine Evs.neg (by simpa using h3) ?_
          have := ihd (j + 1) (by omega) (fun q hqj => by
            by_cases e : q = j
            · subst e
              exact fun _ => ⟨by omega, by omega, h2, h3⟩
            · exact hq q (by omega))
          rw [show ((ar.take i).flatten.length : Int) + ((j + 1 : Nat) : Int) = ((ar.take i).flatten.length : Int) + j + 1 by omega] at this
          exact this
      simpa using key3 ar[i].length 0 (by omega) (fun q hq => absurd hq (by omega))
  -- the edges
  have key1 : ∀ (d i : Nat), i + d = es.length → (∀ j (hj : j < es.length), j < i → es[j].f0 ≠ es[j].f1) → Evs (fun k => impl_MapOk.l0 k es (es.length : Int) i N es ar) (B (mapP N es ar)) := by
    intro d
    induction d with
    | zero =>
      intro i hi hall
      refine Evs.step (fun k => by simp only [impl_MapOk.l0]; rfl) (Evs.neg (by omega) ?_)
      simpa using key2 ar.length 0 (by omega) (fun e he => by obtain ⟨j, hj, rfl⟩ := List.getElem_of_mem he; exact hall j hj (by omega)) (fun a _ j ha => absurd ha (by omega))
    | succ d ih =>
      intro i hi hall
      refine Evs.step (fun k => by simp only [impl_MapOk.l0]; rfl) (Evs.pos (by omega) (Evs.pos (by omega) (Evs.pos (by omega) ?_)))
      rw [rdT78_at (by omega), cast_succ (by omega)]
      by_cases h : es[i].f0 = es[i].f1
      · rw [B_false fun hm => hm.2.2.1 _ (List.getElem_mem _) h]
        exact Evs.pos h (Evs.const _)
      · refine Evs.neg h (ih (i + 1) (by omega) fun j hj hji => ?_)
        by_cases e : j = i
        · subst e; exact h
        · exact hall j hj (by omega)
  exact key1 es.length 0 (by omega) (fun j _ hj => absurd hj (by omega))

/-! ### The reference's MapOk: darts that have been seen -/

/-- The list tells which of the numbers below n lie in P. -/
def Seen (s : List Bool) (n : Nat) (P : List Int) : Prop := s.length = n ∧ ∀ d, d < n → (s.getD d false = true ↔ (d : Int) ∈ P)
theorem Seen.none (n : Nat) : Seen (List.replicate n false) n [] := ⟨by simp, fun d hd => by simp [hd]⟩
theorem Seen.put {s : List Bool} {n : Nat} {P : List Int} (h : Seen s n P) {x : Int} (h0 : 0 ≤ x) (hx : x < n) : Seen (s.set x.toNat true) n (P ++ [x]) := by
  refine ⟨by simpa using h.1, fun d hd => ?_⟩
  have hs := h.2 d hd
  rw [List.getD_eq_getElem?_getD] at hs ⊢
  by_cases e : x.toNat = d
  · have ex : x = d := by omega
    subst e
    rw [List.getElem?_set_self (by rw [h.1]; exact hd)]
    simp [← ex]
  · rw [List.getElem?_set_ne e, hs]
    have : (d : Int) ≠ x := by omega
    simp [this]
theorem Seen.rd {s : List Bool} {n : Nat} {P : List Int} (h : Seen s n P) {x : Int} (h0 : 0 ≤ x) (_ : x < n) : rdOf false s x = true ↔ x ∈ P := by
  unfold rdOf
  rw [h.2 _ (by omega)]
  rw [show ((x.toNat : Nat) : Int) = x by omega]

theorem spec_MapOk_ev (N : Int) (es : List S78) (ar : List (List Int)) (har : ar.length ≤ 1048576) (hfl : ar.flatten.length ≤ 1048576) : Evs (fun k => spec_MapOk.f k N es ar) (B (mapP N es ar)) := by
  unfold spec_MapOk.f
  refine Evs.bind (spec_GraphOk_ev N es) ?_
  by_cases hg : graphP N es
  case neg =>
    rw [B_false hg, B_false fun h => hg h.1]
    exact Evs.neg (by simp) (Evs.step (fun k => by simp only [spec_MapOk.j0]; rfl) (Evs.tru (Evs.const _)))
  rw [B_true hg]
  refine Evs.yes (Evs.step (fun k => by simp only [spec_MapOk.j0]; rfl) ?_)
  by_cases hN : (ar.length : Int) = N
  case neg =>
    rw [B_false fun h => hN h.2.1]
    exact Evs.pos (by simpa using hN) (Evs.const _)
  refine Evs.neg (by simpa using hN) ?_
  have hE := hg.2.2.1
  rw [w64 (x := 2 * (es.length : Int)) (by omega) (by omega)]
  refine Evs.pos (by omega) (Evs.pos (by omega) ?_)
  obtain ⟨n, hn⟩ : ∃ n : Nat, n = 2 * es.length := ⟨_, rfl⟩
  have hn2 : (2 * (es.length : Int)).toNat = n := by omega
  rw [hn2]
  -- the edges
  have key1 : ∀ (d i : Nat) (s : List Bool), s.length = n → i + d = es.length → (∀ j (hj : j < es.length), j < i → es[j].f0 ≠ es[j].f1) → (∀ a (h : a < ar.length) j, dartP es a ar[a] j) →
      Evs (fun k => spec_MapOk.l2 k (ar.flatten.length : Int) s es (es.length : Int) i) (B (mapP N es ar)) := by
    intro d
    induction d with
    | zero =>
      intro i s hs hi hall hda
      refine Evs.step (fun k => by simp only [spec_MapOk.l2]; rfl) (Evs.neg (by omega) ?_)
      by_cases hc : (ar.flatten.length : Int) = 2 * es.length
      · rw [B_true ⟨hg, hN, fun e he => by obtain ⟨j, hj, rfl⟩ := List.getElem_of_mem he; exact hall j hj (by omega), hda, hc⟩, show (ar.flatten.length : Int) = (s.length : Int) by omega]
        simp only [beq_self_eq_true]
        exact Evs.const _
      · rw [B_false fun h => hc h.2.2.2.2, beq_eq_false_iff_ne.2 (show (ar.flatten.length : Int) ≠ (s.length : Int) by omega)]
        exact Evs.const _
    | succ d ih =>
      intro i s hs hi hall hda
      refine Evs.step (fun k => by simp only [spec_MapOk.l2]; rfl) (Evs.pos (by omega) (Evs.pos (by omega) (Evs.pos (by omega) ?_)))
      rw [rdT78_at (by omega), cast_succ (by omega)]
      by_cases h : es[i].f0 = es[i].f1
      · rw [B_false fun hm => hm.2.2.1 _ (List.getElem_mem _) h]
        exact Evs.pos h (Evs.const _)
      · refine Evs.neg h (ih (i + 1) s hs (by omega) (fun j hj hji => ?_) hda)
        by_cases e : j = i
        · subst e; exact h
        · exact hall j hj (by omega)
  -- the darts
  have key2 : ∀ (c i : Nat) (s : List Bool), i + c = ar.length → Seen s n (ar.take i).flatten → (∀ a (h : a < ar.length) j, a < i → dartP es a ar[a] j) →
      Evs (fun k => spec_MapOk.l0 k ((ar.take i).flatten.length : Int) s ar (ar.length : Int) i N es ar) (B (mapP N es ar)) := by
    intro c
    induction c with
    | zero =>
      intro i s hi hs hall
      refine Evs.step (fun k => by simp only [spec_MapOk.l0]; rfl) (Evs.neg (by omega) ?_)
      rw [List.take_of_length_le (by omega)]
      exact key1 es.length 0 s hs.1 (by omega) (fun j _ hj => absurd hj (by omega)) (fun a h j => hall a h j (by omega))
    | succ c ihc =>
      intro i s hi hs hall
      have hil : i < ar.length := by omega
      have hll : ar[i].length ≤ 1048576 := by
        have := flat_take_le (ar := ar) (i + 1)
        rw [flat_take_succ hil, List.length_append] at this
        omega
      refine Evs.step (fun k => by simp only [spec_MapOk.l0]; rfl) (Evs.pos (by omega) (Evs.pos (by omega) (Evs.pos (by omega) ?_)))
      rw [rdL2_at hil]
      have key3 : ∀ (d j : Nat) (s : List Bool), j + d = ar[i].length → Seen s n ((ar.take i).flatten ++ ar[i].take j) → (∀ q, q < j → dartP es i ar[i] q) →
          Evs (fun k => spec_MapOk.l1 k (((ar.take i).flatten.length : Int) + j) s i ar (ar.length : Int) i ar[i] (ar[i].length : Int) j N es ar) (B (mapP N es ar)) := by
        intro d
        induction d with
        | zero =>
          intro j s hj hs hq
          refine Evs.step (fun k => by simp only [spec_MapOk.l1]; rfl) (Evs.neg (by omega) ?_)
          rw [cast_succ (by omega)]
          have := ihc (i + 1) s (by omega) (by rw [flat_take_succ hil]; rw [show ar[i].take j = ar[i] from List.take_of_length_le (by omega)] at hs; exact hs) (fun a ha q hai => by
            by_cases e : a = i
            · subst e
              by_cases hql : q < ar[a].length
              · exact hq q (by omega)
              · exact fun h => absurd h hql
            · exact hall a ha q (by omega))
          rw [flat_take_succ hil, List.length_append] at this
          rw [show j = ar[i].length by omega]
          simpa using this
        | succ d ihd =>
          intro j s hj hs hq
          have hjl : j < ar[i].length := by omega
          refine Evs.step (fun k => by simp only [spec_MapOk.l1]; rfl) (Evs.pos (by omega) (Evs.pos (by omega) (Evs.pos (by omega) ?_)))
          have hcnt := flat_take_le (ar := ar) i
          have hsl := hs.1
          rw [rd_at hjl, w64 (x := (s.length : Int) - 1) (by omega) (by omega), cast_succ (by omega), w64 (x := ((ar.take i).flatten.length : Int) + j + 1) (by omega) (by omega)]
          refine Evs.bindc (l01In_eq _ _ _) ?_
          by_cases h0 : 0 ≤ ar[i][j] ∧ ar[i][j] ≤ (s.length : Int) - 1
          case neg =>
            rw [inB_false h0, B_false (mapP_not (i := i) (j := j) hil fun h => by have := h hjl; omega)]
            exact Evs.neg (by simp) (Evs.const _)
          rw [inB_true h0]
          refine Evs.yes (Evs.pos h0.1 (Evs.pos (by omega) ?_))
          have hsr := hs.rd h0.1 (show ar[i][j] < n by omega)
          by_cases h3 : ar[i][j] ∈ (ar.take i).flatten ++ ar[i].take j
          · rw [B_false (mapP_not (i := i) (j := j) hil fun h => ?_)]
            · exact Evs.pos (hsr.2 h3) (Evs.const _)
            · obtain ⟨_, _, h6, h7⟩ := h hjl
              rcases List.mem_append.1 h3 with h4 | h4
              · obtain ⟨l, hl, hx⟩ := List.mem_flatten.1 h4
                obtain ⟨a, ha, rfl⟩ := List.getElem_of_mem hl
                obtain ⟨q, hq', hx'⟩ := List.getElem_of_mem hx
                simp only [List.length_take] at ha
                simp only [List.getElem_take] at hx' hq'
                have := (hall a (by omega) q (by omega) hq').2.2.1
                rw [hx'] at this
                omega
              · exact h7 h4
          refine Evs.neg (fun h => h3 (hsr.1 h)) (Evs.bindc (l39Node_eq N es _ h0.1 (by omega) hE) ?_)
          by_cases h2 : nodeD es ar[i][j] = i
          case neg =>
            rw [B_false (mapP_not (i := i) (j := j) hil fun h => h2 (h hjl).2.2.1)]
            exact Evs.neg h2 (Evs.const _)
          refine Evs.pos h2 ?_
          have := ihd (j + 1) (s.set ar[i][j].toNat true) (by omega) (by
            rw [List.take_succ_eq_append_getElem hjl, ← List.append_assoc]
            exact hs.put h0.1 (by omega)) (fun q hqj => by
            by_cases e : q = j
            · subst e
              exact fun _ => ⟨by omega, by omega, h2, fun h => h3 (List.mem_append_right _ h)⟩
            · exact hq q (by omega))
          rw [show ((ar.take i).flatten.length : Int) + ((j + 1 : Nat) : Int) = ((ar.take i).flatten.length : Int) + j + 1 by omega] at this
          exact this
      simpa using key3 ar[i].length 0 s (by omega) (by simpa using hs) (fun q hq => absurd hq (by omega))
  simpa using key2 ar.length 0 (List.replicate n false) (by omega) (by simpa using Seen.none n) (fun a _ j ha => absurd ha (by omega))

end Go.Proofs.Ytpllghhgndfkhaa.PFnExactOrientedMatrix
