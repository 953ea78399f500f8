/- l41Push at the composed kinds of gate: by the drawn regions of nested calls. -/
import Derived.Test.YtgpnahjnhdchaaaPushB
namespace Go.Proofs.Ytgpnahjnhdchaaa
open Go.RowKit

/-- The world under one name, behind a drawn region, with what is known of it. -/
theorem name_fact {K : Exit → Act → World → Prop} {e : Exit} {a : Act} {S : World → Prop} {W : World} (hS : S W) (h : ∀ w1, S w1 → K e a w1) : K e a W := h W hS

/-- The boxes of a push with a gate of its own besides (block h); the result's box (block r) holds something. -/
structure SBox (w w' : World) (u g r h : Nat) (p : Pl) (k a b k2 a2 : Int) : Prop where
  x : Ext w w'
  bu : Blk w' u 28 #[.int .i64 p.x, .int .i64 p.z, .int .i64 p.s]
  bg : Blk w' g 67 #[.int .i64 k, .int .i64 a, .int .i64 b]
  bh : Blk w' h 67 #[.int .i64 k2, .int .i64 a2, .int .i64 0]
  br : ∃ v0 v1 v2, Blk w' r 28 #[v0, v1, v2]
  nn : r ≠ u ∧ r ≠ g ∧ r ≠ h ∧ w.heap.size ≤ r

theorem SBox.ext {w w' w'' : World} {u g r h : Nat} {p : Pl} {k a b k2 a2 : Int} (s : SBox w w' u g r h p k a b k2 a2) (hx : Ext w' w'') : SBox w w'' u g r h p k a b k2 a2 :=
  ⟨s.x.trans hx, s.bu.ext hx, s.bg.ext hx, s.bh.ext hx, s.br.elim fun v0 h => h.elim fun v1 h => h.elim fun v2 h => ⟨v0, v1, v2, h.ext hx⟩, s.nn⟩
theorem SBox.drew {w w' : World} {u g r h : Nat} {p : Pl} {k a b k2 a2 : Int} (s : SBox w w' u g r h p k a b k2 a2) : SBox w w'.drew u g r h p k a b k2 a2 :=
  ⟨s.x.drew, s.bu.drew, s.bg.drew, s.bh.drew, s.br.elim fun v0 h => h.elim fun v1 h => h.elim fun v2 h => ⟨v0, v1, v2, h.drew⟩, s.nn⟩
theorem SBox.set_ {w w' : World} {u g r h : Nat} {p : Pl} {k a b k2 a2 : Int} (s : SBox w w' u g r h p k a b k2 a2) (x y z : Value) :
    SBox w (((w'.setCell ⟨r, 0, none⟩ x).setCell ⟨r, 1, none⟩ y).setCell ⟨r, 2, none⟩ z) u g r h p k a b k2 a2 := by
  obtain ⟨v0, v1, v2, hr⟩ := s.br
  obtain ⟨n1, n2, n3, n4⟩ := s.nn
  exact ⟨((s.x.setb n4 _).setb n4 _).setb n4 _, ((s.bu.farb n1.symm _).farb n1.symm _).farb n1.symm _, ((s.bg.farb n2.symm _).farb n2.symm _).farb n2.symm _, ((s.bh.farb n3.symm _).farb n3.symm _).farb n3.symm _,
    ⟨x, y, z, ((hr.set_ 0 x).set_ 1 y).set_ 2 z⟩, s.nn⟩
theorem SBox.setr {w w' : World} {u g r h : Nat} {p : Pl} {k a b k2 a2 : Int} (s : SBox w w' u g r h p k a b k2 a2) (x y z : Value) :
    Blk (((w'.setCell ⟨r, 0, none⟩ x).setCell ⟨r, 1, none⟩ y).setCell ⟨r, 2, none⟩ z) r 28 #[x, y, z] := by
  obtain ⟨v0, v1, v2, hr⟩ := s.br
  exact ((hr.set_ 0 x).set_ 1 y).set_ 2 z
theorem SBox.all {w w' : World} {u g r h : Nat} {p : Pl} {k a b k2 a2 : Int} (s : SBox w w' u g r h p k a b k2 a2) :
    SBox w w' u g r h p k a b k2 a2 ∧
    w'.cell? ⟨u, 0, none⟩ = some (.int .i64 p.x) ∧ w'.cell? ⟨u, 1, none⟩ = some (.int .i64 p.z) ∧ w'.cell? ⟨u, 2, none⟩ = some (.int .i64 p.s) ∧
    w'.cell? ⟨g, 1, none⟩ = some (.int .i64 a) ∧ w'.cell? ⟨g, 2, none⟩ = some (.int .i64 b) ∧
    w'.cell? ⟨h, 0, none⟩ = some (.int .i64 k2) ∧ w'.cell? ⟨h, 1, none⟩ = some (.int .i64 a2) ∧ w'.cell? ⟨h, 2, none⟩ = some (.int .i64 0) := by
  have c0 := s.bu.cell 0; have c1 := s.bu.cell 1; have c2 := s.bu.cell 2
  have d1 := s.bg.cell 1; have d2 := s.bg.cell 2
  have h0 := s.bh.cell 0; have h1 := s.bh.cell 1; have h2 := s.bh.cell 2
  simp at c0 c1 c2 d1 d2 h0 h1 h2
  exact ⟨s, c0, c1, c2, d1, d2, h0, h1, h2⟩
theorem SBox.rall {w w' : World} {u g r h : Nat} {p : Pl} {k a b k2 a2 : Int} (s : SBox w w' u g r h p k a b k2 a2) :
    ∃ v0 v1 v2, w'.cell? ⟨r, 0, none⟩ = some v0 ∧ w'.cell? ⟨r, 1, none⟩ = some v1 ∧ w'.cell? ⟨r, 2, none⟩ = some v2 ∧
      w'.frozen? ⟨r, 0, none⟩ = false ∧ w'.frozen? ⟨r, 1, none⟩ = false ∧ w'.frozen? ⟨r, 2, none⟩ = false := by
  obtain ⟨v0, v1, v2, hr⟩ := s.br
  have c0 := hr.cell 0; have c1 := hr.cell 1; have c2 := hr.cell 2
  simp at c0 c1 c2
  exact ⟨v0, v1, v2, c0, c1, c2, hr.frozen 0, hr.frozen 1, hr.frozen 2⟩

/-- The contract with the new operator under a name of its own. -/
theorem specPushE_calls (g : Gt) (u : Pl) (w : World) (h : BasicK g) :
    Calls Try.prog 36 #[.agg #[.int .i64 u.x, .int .i64 u.z, .int .i64 u.s], .agg #[.int .i64 g.k, .int .i64 g.a, .int .i64 g.b]] w
      (fun e w' => ∃ p : Pl, pushG g u = p ∧ e = .returned (.agg #[.int .i64 p.x, .int .i64 p.z, .int .i64 p.s]) ∧ Ext w w') :=
  (specPushB_calls g u w h).mono fun _ _ h => ⟨_, rfl, h.1, h.2⟩
theorem six_of {a b : Int} {u p1 p2 p3 : Pl} (h3 : pushG ⟨3, a, 0⟩ p2 = p3) (h2 : pushG ⟨3, a, 0⟩ p1 = p2) (h1 : pushG ⟨3, a, 0⟩ u = p1) : p3 = pushG ⟨6, a, b⟩ u := by
  rw [← h3, ← h2, ← h1]
  simp [pushG]
theorem nine_of {a b : Int} {u p1 p2 p3 : Pl} (h3 : pushG ⟨5, b, 0⟩ p2 = p3) (h2 : pushG ⟨8, a, b⟩ p1 = p2) (h1 : pushG ⟨5, b, 0⟩ u = p1) : p3 = pushG ⟨9, a, b⟩ u := by
  rw [← h3, ← h2, ← h1]
  simp [pushG]

set_option maxRecDepth 100000 in
set_option maxHeartbeats 2000000 in
theorem specPush6_calls (a b : Int) (u : Pl) (w : World) (ha : 0 ≤ a) (ha1 : a ≤ 4) (hb : 0 ≤ b) (hb1 : b ≤ 4) :
    Gives Try.prog 36 #[.agg #[.int .i64 u.x, .int .i64 u.z, .int .i64 u.s], .agg #[.int .i64 6, .int .i64 a, .int .i64 b]] w (.agg #[.int .i64 (pushG ⟨6, a, b⟩ u).x, .int .i64 (pushG ⟨6, a, b⟩ u).z, .int .i64 (pushG ⟨6, a, b⟩ u).s]) := by
  unfold Gives
  go_enter Try.func36, Try.ntmps36
  go_wp2_with fail
  refine wp_name fun w1 hw1 => ?_
  have S1 : SBox w w1 (w.heap.size) (w.heap.size + 1) (w.heap.size + 1 + 1) (w.heap.size + 1 + 1 + 1) u 6 a b 3 a := by
    rw [hw1]
    exact ⟨((((Ext.refl _).alloc _).alloc _).alloc _).alloc _, (((Blk.new w _ _).alloc _).alloc _).alloc _, by simpa using ((Blk.new (w.alloc _) _ _).alloc _).alloc _,
      by simpa using Blk.new (((w.alloc _).alloc _).alloc _) _ _, ⟨_, _, _, by simpa using (Blk.new ((w.alloc _).alloc _) _ _).alloc _⟩, by omega, by omega, by omega, by omega⟩
  clear hw1
  have A1 := S1.all
  clear S1
  go_region_held3 (fun w' => SBox w w' (w.heap.size) (w.heap.size + 1) (w.heap.size + 1 + 1) (w.heap.size + 1 + 1 + 1) u 6 a b 3 a ∧
    w'.cell? ⟨w.heap.size, 0, none⟩ = some (.int .i64 u.x) ∧ w'.cell? ⟨w.heap.size, 1, none⟩ = some (.int .i64 u.z) ∧ w'.cell? ⟨w.heap.size, 2, none⟩ = some (.int .i64 u.s) ∧
    w'.cell? ⟨w.heap.size + 1, 1, none⟩ = some (.int .i64 a) ∧ w'.cell? ⟨w.heap.size + 1, 2, none⟩ = some (.int .i64 b) ∧
    w'.cell? ⟨w.heap.size + 1 + 1 + 1, 0, none⟩ = some (.int .i64 3) ∧ w'.cell? ⟨w.heap.size + 1 + 1 + 1, 1, none⟩ = some (.int .i64 a) ∧ w'.cell? ⟨w.heap.size + 1 + 1 + 1, 2, none⟩ = some (.int .i64 0))
    (first
      | (go_split_ands; exact (SBox.ext (by assumption) (by assumption)).all)
      | (go_split_ands; exact (SBox.drew (by assumption)).all)
      | (go_split_ands; exact (SBox.set_ (by assumption) _ _ _).all)
      | assumption)
    ((go_at_call 36; refine (specPushE_calls ⟨_, _, _⟩ ⟨_, _, _⟩ _ (by refine ⟨by simp, ?_, ?_, ?_, ?_⟩ <;> (dsimp only; omega))).mono ?_; rintro e w3 ⟨⟨_, _, _⟩, hp, rfl, x3⟩; go_split_ands; obtain ⟨v0, v1, v2, hv⟩ := (SBox.ext (by assumption) x3).rall))
  refine name_fact (S := fun w' => ∃ p : Pl, p = pushG ⟨6, a, b⟩ u ∧ Ext w w' ∧ Blk w' (w.heap.size + 1 + 1) 28 #[.int .i64 p.x, .int .i64 p.z, .int .i64 p.s]) ?here fun w5 S5 => ?_
  case here =>
    go_split_ands
    refine ⟨⟨_, _, _⟩, ?_, SBox.x (by assumption), SBox.setr (SBox.ext (by assumption) x3) _ _ _⟩
    exact six_of (by with_reducible assumption) (by with_reducible assumption) (by with_reducible assumption)
  repeat (rename_i zz; clear zz)
  obtain ⟨q, hq, X5, B5⟩ := S5
  have R0 := B5.cell 0; have R1 := B5.cell 1; have R2 := B5.cell 2
  have F0 := B5.frozen 0; have F1 := B5.frozen 1; have F2 := B5.frozen 2
  simp at R0 R1 R2
  replace X5 := hide X5
  replace hq := hide hq
  clear B5
  go_wp2_with fail
  refine bodyPost_ret (v := .agg #[.int .i64 q.x, .int .i64 q.z, .int .i64 q.s]) ?_ rfl ?_
  · simp only [results, Try.results36]
    go_simp
    try exact ⟨rfl, rfl, rfl⟩
  · rw [hq.out]
    exact ⟨rfl, by repeat (first | (with_reducible exact X5.out) | (with_reducible refine Ext.setb ?_ (by omega) _))⟩

set_option maxRecDepth 100000 in
set_option maxHeartbeats 2000000 in
theorem specPush9_calls (a b : Int) (u : Pl) (w : World) (ha : 0 ≤ a) (ha1 : a ≤ 4) (hb : 0 ≤ b) (hb1 : b ≤ 4) :
    Gives Try.prog 36 #[.agg #[.int .i64 u.x, .int .i64 u.z, .int .i64 u.s], .agg #[.int .i64 9, .int .i64 a, .int .i64 b]] w (.agg #[.int .i64 (pushG ⟨9, a, b⟩ u).x, .int .i64 (pushG ⟨9, a, b⟩ u).z, .int .i64 (pushG ⟨9, a, b⟩ u).s]) := by
  unfold Gives
  go_enter Try.func36, Try.ntmps36
  go_wp2_with fail
  refine wp_name fun w1 hw1 => ?_
  have S1 : SBox w w1 (w.heap.size) (w.heap.size + 1) (w.heap.size + 1 + 1) (w.heap.size + 1 + 1 + 1) u 9 a b 5 b := by
    rw [hw1]
    exact ⟨((((Ext.refl _).alloc _).alloc _).alloc _).alloc _, (((Blk.new w _ _).alloc _).alloc _).alloc _, by simpa using ((Blk.new (w.alloc _) _ _).alloc _).alloc _,
      by simpa using Blk.new (((w.alloc _).alloc _).alloc _) _ _, ⟨_, _, _, by simpa using (Blk.new ((w.alloc _).alloc _) _ _).alloc _⟩, by omega, by omega, by omega, by omega⟩
  clear hw1
  have A1 := S1.all
  clear S1
  go_region_held3 (fun w' => SBox w w' (w.heap.size) (w.heap.size + 1) (w.heap.size + 1 + 1) (w.heap.size + 1 + 1 + 1) u 9 a b 5 b ∧
    w'.cell? ⟨w.heap.size, 0, none⟩ = some (.int .i64 u.x) ∧ w'.cell? ⟨w.heap.size, 1, none⟩ = some (.int .i64 u.z) ∧ w'.cell? ⟨w.heap.size, 2, none⟩ = some (.int .i64 u.s) ∧
    w'.cell? ⟨w.heap.size + 1, 1, none⟩ = some (.int .i64 a) ∧ w'.cell? ⟨w.heap.size + 1, 2, none⟩ = some (.int .i64 b) ∧
    w'.cell? ⟨w.heap.size + 1 + 1 + 1, 0, none⟩ = some (.int .i64 5) ∧ w'.cell? ⟨w.heap.size + 1 + 1 + 1, 1, none⟩ = some (.int .i64 b) ∧ w'.cell? ⟨w.heap.size + 1 + 1 + 1, 2, none⟩ = some (.int .i64 0))
    (first
      | (go_split_ands; exact (SBox.ext (by assumption) (by assumption)).all)
      | (go_split_ands; exact (SBox.drew (by assumption)).all)
      | (go_split_ands; exact (SBox.set_ (by assumption) _ _ _).all)
      | assumption)
    ((go_at_call 36; refine (specPushE_calls ⟨_, _, _⟩ ⟨_, _, _⟩ _ (by refine ⟨by simp, ?_, ?_, ?_, ?_⟩ <;> (dsimp only; omega))).mono ?_; rintro e w3 ⟨⟨_, _, _⟩, hp, rfl, x3⟩; go_split_ands; obtain ⟨v0, v1, v2, hv⟩ := (SBox.ext (by assumption) x3).rall))
  refine name_fact (S := fun w' => ∃ p : Pl, p = pushG ⟨9, a, b⟩ u ∧ Ext w w' ∧ Blk w' (w.heap.size + 1 + 1) 28 #[.int .i64 p.x, .int .i64 p.z, .int .i64 p.s]) ?here fun w5 S5 => ?_
  case here =>
    go_split_ands
    refine ⟨⟨_, _, _⟩, ?_, SBox.x (by assumption), SBox.setr (SBox.ext (by assumption) x3) _ _ _⟩
    exact nine_of (by with_reducible assumption) (by with_reducible assumption) (by with_reducible assumption)
  repeat (rename_i zz; clear zz)
  obtain ⟨q, hq, X5, B5⟩ := S5
  have R0 := B5.cell 0; have R1 := B5.cell 1; have R2 := B5.cell 2
  have F0 := B5.frozen 0; have F1 := B5.frozen 1; have F2 := B5.frozen 2
  simp at R0 R1 R2
  replace X5 := hide X5
  replace hq := hide hq
  clear B5
  go_wp2_with fail
  refine bodyPost_ret (v := .agg #[.int .i64 q.x, .int .i64 q.z, .int .i64 q.s]) ?_ rfl ?_
  · simp only [results, Try.results36]
    go_simp
    try exact ⟨rfl, rfl, rfl⟩
  · rw [hq.out]
    exact ⟨rfl, by repeat (first | (with_reducible exact X5.out) | (with_reducible refine Ext.setb ?_ (by omega) _))⟩

theorem specPush_calls (g : Gt) (u : Pl) (w : World) (h : CliffK g) :
    Gives Try.prog 36 #[.agg #[.int .i64 u.x, .int .i64 u.z, .int .i64 u.s], .agg #[.int .i64 g.k, .int .i64 g.a, .int .i64 g.b]] w (.agg #[.int .i64 (pushG g u).x, .int .i64 (pushG g u).z, .int .i64 (pushG g u).s]) := by
  obtain ⟨k, a, b⟩ := g
  obtain ⟨hk, h1, h2, h3, h4⟩ := h
  dsimp only at hk h1 h2 h3 h4 ⊢
  rcases hk with rfl | rfl | rfl | rfl | rfl | rfl | rfl
  · exact specPush1_calls a b u w h1 h2 h3 h4
  · exact specPush2_calls a b u w h1 h2 h3 h4
  · exact specPush3_calls a b u w h1 h2 h3 h4
  · exact specPush5_calls a b u w h1 h2 h3 h4
  · exact specPush6_calls a b u w h1 h2 h3 h4
  · exact specPush8_calls a b u w h1 h2 h3 h4
  · exact specPush9_calls a b u w h1 h2 h3 h4

end Go.Proofs.Ytgpnahjnhdchaaa
