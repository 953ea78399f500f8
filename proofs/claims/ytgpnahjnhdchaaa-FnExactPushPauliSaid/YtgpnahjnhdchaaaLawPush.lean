/- The law FnExactPushPauli: for every circuit and operator the program's PushPauli returns what the reference's returns. -/
import Derived.Test.YtgpnahjnhdchaaaPushP
import Derived.Deep.DeepCutAuto
namespace Go.Proofs.Ytgpnahjnhdchaaa
open Go.RowKit

/-- The law's two boxes of its arguments. -/
structure LB (W w' : World) (p q : Int) (A : Option Addr) (n c : Nat) (u : Pl) : Prop where
  x : Ext W w'
  c : Blk w' W.heap.size 24 #[.int .i64 p, .int .i64 q, .slice A n c]
  u : Blk w' (W.heap.size + 1) 26 #[.int .i64 u.x, .int .i64 u.z, .int .i64 u.s]
section
variable {W w' w'' : World} {p q : Int} {A : Option Addr} {n c : Nat} {u : Pl}
theorem LB.ext (h : LB W w' p q A n c u) (hx : Ext w' w'') : LB W w'' p q A n c u := ⟨h.x.trans hx, h.c.ext hx, h.u.ext hx⟩
theorem LB.alloc (h : LB W w' p q A n c u) (o : Obj) : LB W (w'.alloc o) p q A n c u := ⟨h.x.alloc _, h.c.alloc _, h.u.alloc _⟩
theorem LB.drew (h : LB W w' p q A n c u) : LB W w'.drew p q A n c u := ⟨h.x.drew, h.c.drew, h.u.drew⟩
theorem LB.setb (h : LB W w' p q A n c u) {b o : Nat} (hb : W.heap.size + 1 < b) (v : Value) : LB W (w'.setCell ⟨b, o, none⟩ v) p q A n c u := ⟨h.x.setb (by omega) _, h.c.farb (by omega) _, h.u.farb (by omega) _⟩
theorem LB.all (h : LB W w' p q A n c u) : LB W w' p q A n c u ∧
    w'.cell? ⟨W.heap.size, 0, none⟩ = some (.int .i64 p) ∧ w'.cell? ⟨W.heap.size, 1, none⟩ = some (.int .i64 q) ∧ w'.cell? ⟨W.heap.size, 2, none⟩ = some (.slice A n c) ∧
    w'.cell? ⟨W.heap.size + 1, 0, none⟩ = some (.int .i64 u.x) ∧ w'.cell? ⟨W.heap.size + 1, 1, none⟩ = some (.int .i64 u.z) ∧ w'.cell? ⟨W.heap.size + 1, 2, none⟩ = some (.int .i64 u.s) ∧
    W.heap.size + 1 < w'.heap.size := by
  have h0 := h.c.cell 0; have h1 := h.c.cell 1; have h2 := h.c.cell 2
  have g0 := h.u.cell 0; have g1 := h.u.cell 1; have g2 := h.u.cell 2
  simp at h0 h1 h2 g0 g1 g2
  exact ⟨h, h0, h1, h2, g0, g1, g2, h.u.lt⟩
end

theorem blk_ext {w w' : World} {g : Nat} {t : TypeId} {cs : Array Value} (hb : Ext w w') (h : Blk w g t cs) : Blk w' g t cs := h.ext hb

theorem blk3 {w : World} {b : Nat} {t : TypeId} {v0 v1 v2 : Value} (h : Blk w b t #[v0, v1, v2]) :
    w.cell? ⟨b, 0, none⟩ = some v0 ∧ w.cell? ⟨b, 1, none⟩ = some v1 ∧ w.cell? ⟨b, 2, none⟩ = some v2 ∧ w.frozen? ⟨b, 0, none⟩ = false ∧ w.frozen? ⟨b, 1, none⟩ = false ∧ w.frozen? ⟨b, 2, none⟩ = false ∧ b < w.heap.size := by
  have h0 := h.cell 0; have h1 := h.cell 1; have h2 := h.cell 2
  simp at h0 h1 h2
  exact ⟨h0, h1, h2, h.frozen 0, h.frozen 1, h.frozen 2, h.lt⟩

/-- What a statement 'v, ok := f(..)' leaves: a new box of the operator v. -/
def GotP (w' : World) (lo : Nat) (s : Value) (v : Pl) : Prop := ∃ b, s = .pointer (some ⟨b, 0, none⟩) ∧ lo ≤ b ∧ Blk w' b 28 #[.int .i64 v.x, .int .i64 v.z, .int .i64 v.s]

set_option maxRecDepth 100000 in
set_option maxHeartbeats 4000000 in
theorem lawPushPauli_calls (A : Option Addr) (c : Nat) (p q : Int) (gs : List Gt) (u : Pl) (W : World) (h : Gates W A c gs) :
    Gives Try.prog 3 #[.agg #[.int .i64 p, .int .i64 q, .slice A gs.length c], .agg #[.int .i64 u.x, .int .i64 u.z, .int .i64 u.s]] W (.bool true) := by
  unfold Gives
  have HT := hide h
  have hnc : gs.length ≤ 9223372036854775807 := by have := h.le; have := h.cap; omega
  have b0 : LB W ((W.alloc (Obj.cells #[.int .i64 p, .int .i64 q, .slice A gs.length c] 24)).alloc (Obj.cells #[.int .i64 u.x, .int .i64 u.z, .int .i64 u.s] 26)) p q A gs.length c u :=
    ⟨((Ext.refl _).alloc _).alloc _, (Blk.new _ _ _).alloc _, by simpa using Blk.new (W.alloc _) _ _⟩
  replace b0 := hide b0
  clear h
  go_enter Try.func3, Try.ntmps3
  go_wp2_with fail
  refine (szCircuit_calls _ _ _ _ _ _ _ hnc (by omega) (by omega)).use fun w1 x1 => ?_
  have b1 := b0.out.ext x1
  obtain ⟨_, c0, c1, c2, u0, u1, u2, l0⟩ := b1.all
  replace b1 := hide b1
  clear x1 b0
  by_cases s : szI gs.length 1048576 < 0
  · go_wp2_with fail
    go_ret
    exact ⟨rfl, b1.out.x⟩
  have hn : gs.length ≤ 1048576 := by unfold szI at s; split at s <;> omega
  go_upto_region 5 with fail
  go_cut [6, 7] (fun s6 s7 wx => LB W wx p q A gs.length c u ∧ GotP wx (W.heap.size + 1 + 1) s6 (pushR p q gs u) ∧ s7 = .bool (pushOk p q gs u))
  case first =>
    have S1 := b1.out.all
    clear c0 c1 c2 u0 u1 u2 l0
    go_region_held3 (fun w' => LB W w' p q A gs.length c u ∧
      w'.cell? ⟨W.heap.size, 0, none⟩ = some (.int .i64 p) ∧ w'.cell? ⟨W.heap.size, 1, none⟩ = some (.int .i64 q) ∧ w'.cell? ⟨W.heap.size, 2, none⟩ = some (.slice A gs.length c) ∧
      w'.cell? ⟨W.heap.size + 1, 0, none⟩ = some (.int .i64 u.x) ∧ w'.cell? ⟨W.heap.size + 1, 1, none⟩ = some (.int .i64 u.z) ∧ w'.cell? ⟨W.heap.size + 1, 2, none⟩ = some (.int .i64 u.s) ∧
      W.heap.size + 1 < w'.heap.size)
      (first
        | (go_split_ands; exact (LB.ext (by assumption) (by assumption)).all)
        | (go_split_ands; exact (LB.drew (by assumption)).all)
        | (go_split_ands; exact (LB.alloc (by assumption) _).all)
        | (go_split_ands; refine LB.all ?_; repeat (first | (with_reducible assumption) | (with_reducible refine LB.setb ?_ (by omega) _)))
        | assumption)
      (first
        | (go_at_call 10; go_split_ands; refine (toCircuit_calls _ _ _ _ _ gs _ rfl (HT.out.ext (LB.x (by assumption))) hn).mono ?_; rintro e w2 ⟨g, rfl, hg, k, x2⟩; (first | (have N2 := Blk.ext (Blk.new _ _ _) x2; obtain ⟨n0, n1, n2, n3, n4, n5, n6⟩ := blk3 N2) | (have N2 := Blk.ext (Blk.drew (Blk.new _ _ _)) x2; obtain ⟨n0, n1, n2, n3, n4, n5, n6⟩ := blk3 N2) | (have N2 := Blk.ext N1 x2; obtain ⟨n0, n1, n2, n3, n4, n5, n6⟩ := blk3 N2) | skip); have L2 := LB.ext (by assumption) x2; have l2 := L2.u.lt)
        | (go_at_call 11; refine (toPauli_calls _ _ _ _).use fun w3 x3 => ?_; (first | (have N3 := Blk.ext (Blk.new _ _ _) x3; obtain ⟨n0, n1, n2, n3, n4, n5, n6⟩ := blk3 N3) | (have N3 := Blk.ext (Blk.drew (Blk.new _ _ _)) x3; obtain ⟨n0, n1, n2, n3, n4, n5, n6⟩ := blk3 N3) | (have N3 := Blk.ext N2 x3; obtain ⟨n0, n1, n2, n3, n4, n5, n6⟩ := blk3 N3) | skip); go_split_ands; have L3 := LB.ext (by assumption) x3; have l3 := L3.u.lt)
        | (go_at_call 9; go_split_ands; refine Gives.use (specPushPauli_calls _ _ _ _ _ gs ⟨_, _, _⟩ _ rfl hn (Blk.gates (t := 67) ?_ hn)) ?_; (· (repeat (first | (with_reducible assumption) | (with_reducible refine Blk.alloc ?_ _) | ((with_reducible apply blk_ext); assumption)))); intro w4 x4; (first | (have N4 := Blk.ext (Blk.new _ _ _) x4; obtain ⟨n0, n1, n2, n3, n4, n5, n6⟩ := blk3 N4) | (have N4 := Blk.ext (Blk.drew (Blk.new _ _ _)) x4; obtain ⟨n0, n1, n2, n3, n4, n5, n6⟩ := blk3 N4) | (have N4 := Blk.ext N3 x4; obtain ⟨n0, n1, n2, n3, n4, n5, n6⟩ := blk3 N4) | skip); have L4 := LB.ext (by assumption) x4; have l4 := L4.u.lt))
    all_goals (go_wp2_with fail; go_meet; refine ⟨by go_split_ands; assumption, ?_, rfl⟩; first | exact ⟨_, rfl, by omega, Blk.new _ _ _⟩ | exact ⟨_, rfl, by omega, ((N4.set_ 0 _).set_ 1 _).set_ 2 _⟩)
  case rest =>
    clear c0 c1 c2 u0 u1 u2 l0 b1
    obtain ⟨b2, ⟨b, rfl, hb, B⟩, rfl⟩ := hcut
    obtain ⟨_, c0, c1, c2, u0, u1, u2, l0⟩ := b2.all
    obtain ⟨k0, k1, k2, k3, k4, k5, k6⟩ := blk3 B
    replace b2 := hide b2
    replace B := hide B
    go_wp2_with fail
    refine (toCircuit_calls _ _ _ _ _ gs _ rfl (HT.out.ext b2.out.x) hn).mono ?_
    rintro e w2 ⟨g, rfl, hg, k, x2⟩
    have b3 := b2.out.ext x2
    have B3 := B.out.ext x2
    have G3 := hide (Blk.gates k hn)
    clear c0 c1 c2 u0 u1 u2 l0 k0 k1 k2 k3 k4 k5 k6 x2 k
    obtain ⟨_, c0, c1, c2, u0, u1, u2, l0⟩ := b3.all
    obtain ⟨k0, k1, k2, k3, k4, k5, k6⟩ := blk3 B3
    replace b3 := hide b3
    replace B3 := hide B3
    go_upto_region 7 with fail
    refine wp_name fun w3 hw3 => ?_
    have b4 : LB W w3 p q A gs.length c u := by rw [hw3]; exact b3.out.alloc _
    have B4 : Blk w3 b 28 #[.int .i64 (pushR p q gs u).x, .int .i64 (pushR p q gs u).z, .int .i64 (pushR p q gs u).s] := by rw [hw3]; exact B3.out.alloc _
    have D4 : Blk w3 w2.heap.size 33 #[.int .i64 p, .int .i64 q, .slice (some ⟨g, 0, none⟩) gs.length gs.length] := by rw [hw3]; exact Blk.new _ _ _
    have G4 : Gates w3 (some ⟨g, 0, none⟩) gs.length gs := by rw [hw3]; exact G3.out.ext ((Ext.refl _).alloc _)
    clear c0 c1 c2 u0 u1 u2 l0 k0 k1 k2 k3 k4 k5 k6 hw3
    go_cut [9, 10] (fun s9 s10 wx => Ext w3 wx ∧ GotP wx (w3.heap.size) s9 (pushR p q gs u) ∧ s10 = .bool (pushOk p q gs u))
    case first =>
      obtain ⟨_, c0, c1, c2, u0, u1, u2, l0⟩ := b4.all
      obtain ⟨d0, d1, d2, _, _, _, d6⟩ := blk3 D4
      have mk : Hid (∀ w', Ext w3 w' → Ext w3 w' ∧ w'.cell? ⟨w2.heap.size, 0, none⟩ = some (.int .i64 p) ∧ w'.cell? ⟨w2.heap.size, 1, none⟩ = some (.int .i64 q) ∧ w'.cell? ⟨w2.heap.size, 2, none⟩ = some (.slice (some ⟨g, 0, none⟩) gs.length gs.length) ∧
          w'.cell? ⟨W.heap.size + 1, 0, none⟩ = some (.int .i64 u.x) ∧ w'.cell? ⟨W.heap.size + 1, 1, none⟩ = some (.int .i64 u.z) ∧ w'.cell? ⟨W.heap.size + 1, 2, none⟩ = some (.int .i64 u.s)) :=
        hide fun w' E => ⟨E, E.cell d0, E.cell d1, E.cell d2, E.cell u0, E.cell u1, E.cell u2⟩
      have S0 := mk.out w3 (Ext.refl _)
      replace D4 := hide D4
      replace B4 := hide B4
      replace G4 := hide G4
      replace b4 := hide b4
      clear c0 c1 c2 u0 u1 u2 l0 d0 d1 d2
      go_region_held3 (fun w' => Ext w3 w' ∧ w'.cell? ⟨w2.heap.size, 0, none⟩ = some (.int .i64 p) ∧ w'.cell? ⟨w2.heap.size, 1, none⟩ = some (.int .i64 q) ∧ w'.cell? ⟨w2.heap.size, 2, none⟩ = some (.slice (some ⟨g, 0, none⟩) gs.length gs.length) ∧
          w'.cell? ⟨W.heap.size + 1, 0, none⟩ = some (.int .i64 u.x) ∧ w'.cell? ⟨W.heap.size + 1, 1, none⟩ = some (.int .i64 u.z) ∧ w'.cell? ⟨W.heap.size + 1, 2, none⟩ = some (.int .i64 u.s))
        (first
          | (go_split_ands; exact mk.out _ (Ext.trans (by assumption) (by assumption)))
          | (go_split_ands; exact mk.out _ (Ext.drew (by assumption)))
          | (go_split_ands; exact mk.out _ (Ext.alloc (by assumption) _))
          | (go_split_ands; refine mk.out _ ?_; repeat (first | (with_reducible assumption) | (with_reducible refine Ext.setb ?_ (by omega) _))))
        (first
          | (go_at_call 11; go_split_ands; refine (toPauli_calls _ _ _ _).use fun w5 x5 => ?_; (first | (have N5 := Blk.ext (Blk.new _ _ _) x5; obtain ⟨n0, n1, n2, n3, n4, n5, n6⟩ := blk3 N5) | (have N5 := Blk.ext (Blk.drew (Blk.new _ _ _)) x5; obtain ⟨n0, n1, n2, n3, n4, n5, n6⟩ := blk3 N5) | skip); have L5 := Ext.trans (by assumption) x5; have l5 := L5.size)
          | (go_at_call 12; go_split_ands; refine (implPushPauli_calls _ _ _ _ _ gs ⟨_, _, _⟩ _ rfl hn (G4.out.ext (by assumption))).use fun w6 x6 => ?_; (first | (have N6 := Blk.ext (Blk.new _ _ _) x6; obtain ⟨n0, n1, n2, n3, n4, n5, n6⟩ := blk3 N6) | (have N6 := Blk.ext N5 x6; obtain ⟨n0, n1, n2, n3, n4, n5, n6⟩ := blk3 N6) | skip); have L6 := Ext.trans (by assumption) x6; have l6 := L6.size))
      all_goals (go_wp2_with fail; go_meet; refine ⟨by go_split_ands; assumption, ?_, rfl⟩; first | exact ⟨_, rfl, by omega, Blk.new _ _ _⟩ | exact ⟨_, rfl, by omega, ((N6.set_ 0 _).set_ 1 _).set_ 2 _⟩)
    case rest =>
      obtain ⟨X5, ⟨b', rfl, hb', B'⟩, rfl⟩ := hcut
      have b5 := b4.ext X5
      have B5 := B4.ext X5
      have D5 := D4.ext X5
      have G5 := hide (G4.ext X5)
      obtain ⟨k0, k1, k2, _, _, _, k6⟩ := blk3 B5
      obtain ⟨j0, j1, j2, _, _, _, j6⟩ := blk3 B'
      replace b5 := hide b5
      replace D5 := hide D5
      clear X5 G4 D4 b4 B4 B5 B'
      have hne : (pushOk p q gs u != pushOk p q gs u) = false := by simp
      go_wp2_with fail
      refine (eqPauli_calls _ _ _ _).use fun w6 x6 => ?_
      have b6 := b5.out.ext x6
      have D6 := D5.out.ext x6
      have G6 := hide (G5.out.ext x6)
      obtain ⟨_, c0, c1, c2, _, _, _, l0⟩ := b6.all
      obtain ⟨d0, d1, d2, _, _, _, d6⟩ := blk3 D6
      clear k0 k1 k2 k6 j0 j1 j2 j6 x6 D6
      replace b6 := hide b6
      go_wp2_with fail
      clear hne
      go_region_with (first
        | (go_at_call 10; refine (toCircuit_calls _ _ _ _ _ gs _ rfl (HT.out.ext b6.out.x.drew) hn).mono ?_; rintro e w7 ⟨g7, rfl, _, k7, x7⟩; have T7 := hide (Blk.gates k7 hn); have e0 := x7.cell (a := ⟨w2.heap.size, 0, none⟩) (v := .int .i64 p) d0; have e1 := x7.cell (a := ⟨w2.heap.size, 1, none⟩) (v := .int .i64 q) d1; have e2 := x7.cell (a := ⟨w2.heap.size, 2, none⟩) (v := .slice (some ⟨g, 0, none⟩) gs.length gs.length) d2; have X7 := hide (b6.out.x.drew.trans x7); have T67 := hide ((G6.out.ext (Ext.refl _).drew).ext x7); clear x7 k7)
        | (go_at_call 14; refine (eqCircuit_calls _ _ _ _ _ _ _ _ gs _ rfl rfl T67.out T7.out).use fun w8 x8 => ?_; have X8 := hide (X7.out.trans x8); clear x8))
      all_goals (go_wp2_with fail; go_ret; exact ⟨rfl, X8.out⟩)

end Go.Proofs.Ytgpnahjnhdchaaa
