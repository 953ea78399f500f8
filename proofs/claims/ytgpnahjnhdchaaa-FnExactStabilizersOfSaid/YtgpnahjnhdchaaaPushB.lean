/- pushGate and l41Push at the composed kinds of gate (GBackS, GCz), and at every kind of a Clifford circuit: one value for both. -/
import Derived.Test.YtgpnahjnhdchaaaPushA
import Derived.Deep.RegionHeld3
import Derived.Deep.RegionWith
namespace Go.Proofs.Ytgpnahjnhdchaaa
open Go.RowKit

def iterS (a : Int) (u : Pl) : Nat → Pl
  | 0 => u
  | k + 1 => pushS a (iterS a u k)

set_option maxRecDepth 100000 in
set_option maxHeartbeats 2000000 in
theorem implPush6_calls (a b : Int) (u : Pl) (w : World) (ha : 0 ≤ a) (ha1 : a ≤ 4) :
    Gives Try.prog 38 #[.agg #[.int .i64 6, .int .i64 a, .int .i64 b], .agg #[.int .i64 u.x, .int .i64 u.z, .int .i64 u.s]] w (.agg #[.int .i64 (pushS a (pushS a (pushS a u))).x, .int .i64 (pushS a (pushS a (pushS a u))).z, .int .i64 (pushS a (pushS a (pushS a u))).s]) := by
  unfold Gives
  go_enter Try.func38, Try.ntmps38
  go_wp2_with fail
  refine wp_name fun w1 hw1 => ?_
  have x1 : Ext w w1 := by rw [hw1]; exact (((Ext.refl _).alloc _).alloc _).alloc _
  have p1 : PBox w1 (w.heap.size + 1) (w.heap.size) (w.heap.size + 1 + 1) u 6 a b := by rw [hw1]; exact ⟨by simpa using (Blk.new (w.alloc _) _ _).alloc _, ((Blk.new w _ _).alloc _).alloc _, by simpa using Blk.new ((w.alloc _).alloc _) _ _⟩
  obtain ⟨⟨c0, c1, c2⟩, ⟨f0, f1, f2⟩, ⟨d0, d1, d2⟩, ⟨s0, s1, s2⟩, ⟨q0, q1, q2⟩, l0, l1, l2⟩ := p1.all
  replace p1 := hide p1
  replace x1 := hide x1
  clear hw1
  go_quiet (fail)
  go_wp2_with fail
  clear c0 c1 c2 f0 f1 f2 d0 d1 d2 s0 s1 s2 q0 q1 q2 l0 l1 l2
  go_loopw [7] (fun i wr => ∃ k : Nat, k ≤ 3 ∧ i = .int .i64 k ∧ PBox wr (w.heap.size + 1) (w.heap.size) (w.heap.size + 1 + 1) (iterS a u k) 6 a b ∧ Ext w wr) (fun i _ => 3 - (intOf i).toNat)
  case atStart => exact ⟨0, by omega, rfl, p1.out.drewN _, x1.out.drewN _⟩
  case round =>
    obtain ⟨k, hk, rfl, p2, x2⟩ := hrel
    obtain ⟨⟨c0, c1, c2⟩, ⟨f0, f1, f2⟩, ⟨d0, d1, d2⟩, ⟨s0, s1, s2⟩, ⟨q0, q1, q2⟩, l0, l1, l2⟩ := p2.all
    replace p2 := hide p2
    replace x2 := hide x2
    by_cases hlt : k < 3
    · go_wp2_with fail
      refine (implPush3_calls a 0 (iterS a u k) _ ha ha1).use fun w3 x3 => ?_
      have p3 := p2.out.ext x3
      have X3 := hide (x2.out.trans x3)
      clear c0 c1 c2 f0 f1 f2 d0 d1 d2 s0 s1 s2 q0 q1 q2 l0 l1 l2 x3
      obtain ⟨⟨c0, c1, c2⟩, ⟨f0, f1, f2⟩, ⟨d0, d1, d2⟩, ⟨s0, s1, s2⟩, ⟨q0, q1, q2⟩, l0, l1, l2⟩ := p3.all
      replace p3 := hide p3
      go_wp2_with fail
      go_roundw
      case rel =>
        refine ⟨k + 1, by omega, by go_num, ?_, ((X3.out.setb (by omega) _).setb (by omega) _).setb (by omega) _⟩
        exact ((p3.out.set0 (by omega) (by omega) (pushS a (iterS a u k)).x).set1 (by omega) (by omega) (pushS a (iterS a u k)).z).set2 (by omega) (by omega) (pushS a (iterS a u k)).s
      case measure => simp [intOf]; omega
    · have e : k = 3 := by omega
      subst e
      go_wp2_with fail
      refine bodyPost_ret (v := .agg #[.int .i64 (iterS a u 3).x, .int .i64 (iterS a u 3).z, .int .i64 (iterS a u 3).s]) ?_ rfl ?_
      · simp only [results, Try.results38]
        go_simp
      · exact ⟨rfl, by repeat (first | (with_reducible exact x2.out) | (with_reducible refine Ext.setb ?_ (by omega) _))⟩

set_option maxRecDepth 100000 in
set_option maxHeartbeats 2000000 in
theorem implPush9_calls (a b : Int) (u : Pl) (w : World) (ha : 0 ≤ a) (ha1 : a ≤ 4) (hb : 0 ≤ b) (hb1 : b ≤ 4) :
    Gives Try.prog 38 #[.agg #[.int .i64 9, .int .i64 a, .int .i64 b], .agg #[.int .i64 u.x, .int .i64 u.z, .int .i64 u.s]] w (.agg #[.int .i64 (pushH b (pushC a b (pushH b u))).x, .int .i64 (pushH b (pushC a b (pushH b u))).z, .int .i64 (pushH b (pushC a b (pushH b u))).s]) := by
  unfold Gives
  obtain ⟨u1, hu1⟩ : ∃ u1, u1 = pushH b u := ⟨_, rfl⟩
  obtain ⟨u2, hu2⟩ : ∃ u2, u2 = pushC a b u1 := ⟨_, rfl⟩
  obtain ⟨u3, hu3⟩ : ∃ u3, u3 = pushH b u2 := ⟨_, rfl⟩
  rw [← hu1, ← hu2, ← hu3]
  go_enter Try.func38, Try.ntmps38
  go_wp2_with fail
  refine wp_name fun w1 hw1 => ?_
  have x1 : Ext w w1 := by rw [hw1]; exact (((Ext.refl _).alloc _).alloc _).alloc _
  have p1 : PBox w1 (w.heap.size + 1) (w.heap.size) (w.heap.size + 1 + 1) u 9 a b := by rw [hw1]; exact ⟨by simpa using (Blk.new (w.alloc _) _ _).alloc _, ((Blk.new w _ _).alloc _).alloc _, by simpa using Blk.new ((w.alloc _).alloc _) _ _⟩
  obtain ⟨⟨c0, c1, c2⟩, ⟨f0, f1, f2⟩, ⟨d0, d1, d2⟩, ⟨s0, s1, s2⟩, ⟨q0, q1, q2⟩, l0, l1, l2⟩ := p1.all
  replace p1 := hide p1
  replace x1 := hide x1
  replace hu1 := hide hu1
  replace hu2 := hide hu2
  replace hu3 := hide hu3
  clear hw1
  go_quiet (fail)
  go_wp2_with fail
  refine (implPush5_calls b 0 u _ hb hb1).use fun w3 x3 => ?_
  rw [← hu1.out]
  have p3 := (p1.out.drewN nq).ext x3
  have X3 := hide ((x1.out.drewN nq).trans x3)
  clear c0 c1 c2 f0 f1 f2 d0 d1 d2 s0 s1 s2 q0 q1 q2 l0 l1 l2 x3
  obtain ⟨⟨c0, c1, c2⟩, ⟨f0, f1, f2⟩, ⟨d0, d1, d2⟩, ⟨s0, s1, s2⟩, ⟨q0, q1, q2⟩, l0, l1, l2⟩ := p3.all
  replace p3 := hide p3
  go_wp2_with fail
  refine (implPush8_calls a b u1 _ ha ha1 hb hb1).use fun w4 x4 => ?_
  rw [← hu2.out]
  have p4 := (((p3.out.set0 (by omega) (by omega) u1.x).set1 (by omega) (by omega) u1.z).set2 (by omega) (by omega) u1.s).ext x4
  have X4 := hide ((((X3.out.setb (by omega) _).setb (by omega) _).setb (by omega) _).trans x4)
  clear c0 c1 c2 f0 f1 f2 d0 d1 d2 s0 s1 s2 q0 q1 q2 l0 l1 l2 x4
  obtain ⟨⟨c0, c1, c2⟩, ⟨f0, f1, f2⟩, ⟨d0, d1, d2⟩, ⟨s0, s1, s2⟩, ⟨q0, q1, q2⟩, l0, l1, l2⟩ := p4.all
  replace p4 := hide p4
  go_wp2_with fail
  refine (implPush5_calls b 0 u2 _ hb hb1).use fun w5 x5 => ?_
  rw [← hu3.out]
  have p5 := (((p4.out.set0 (by omega) (by omega) u2.x).set1 (by omega) (by omega) u2.z).set2 (by omega) (by omega) u2.s).ext x5
  have X5 := hide ((((X4.out.setb (by omega) _).setb (by omega) _).setb (by omega) _).trans x5)
  clear c0 c1 c2 f0 f1 f2 d0 d1 d2 s0 s1 s2 q0 q1 q2 l0 l1 l2 x5
  obtain ⟨⟨c0, c1, c2⟩, ⟨f0, f1, f2⟩, ⟨d0, d1, d2⟩, ⟨s0, s1, s2⟩, ⟨q0, q1, q2⟩, l0, l1, l2⟩ := p5.all
  replace p5 := hide p5
  go_wp2_with fail
  refine bodyPost_ret (v := .agg #[.int .i64 u3.x, .int .i64 u3.z, .int .i64 u3.s]) ?_ rfl ?_
  · simp only [results, Try.results38]
    go_simp
  · exact ⟨rfl, by repeat (first | (with_reducible exact X5.out) | (with_reducible refine Ext.setb ?_ (by omega) _))⟩

/-- What a gate of a Clifford circuit on at most five qubits asks of its numbers, by the basic kinds. -/
def BasicK (g : Gt) : Prop := (g.k = 1 ∨ g.k = 2 ∨ g.k = 3 ∨ g.k = 5 ∨ g.k = 8) ∧ 0 ≤ g.a ∧ g.a ≤ 4 ∧ 0 ≤ g.b ∧ g.b ≤ 4
def CliffK (g : Gt) : Prop := (g.k = 1 ∨ g.k = 2 ∨ g.k = 3 ∨ g.k = 5 ∨ g.k = 6 ∨ g.k = 8 ∨ g.k = 9) ∧ 0 ≤ g.a ∧ g.a ≤ 4 ∧ 0 ≤ g.b ∧ g.b ≤ 4

theorem specPushB_calls (g : Gt) (u : Pl) (w : World) (h : BasicK g) :
    Gives Try.prog 36 #[.agg #[.int .i64 u.x, .int .i64 u.z, .int .i64 u.s], .agg #[.int .i64 g.k, .int .i64 g.a, .int .i64 g.b]] w (.agg #[.int .i64 (pushG g u).x, .int .i64 (pushG g u).z, .int .i64 (pushG g u).s]) := by
  obtain ⟨k, a, b⟩ := g
  obtain ⟨hk, h1, h2, h3, h4⟩ := h
  dsimp only at hk h1 h2 h3 h4 ⊢
  rcases hk with rfl | rfl | rfl | rfl | rfl
  · exact specPush1_calls a b u w h1 h2 h3 h4
  · exact specPush2_calls a b u w h1 h2 h3 h4
  · exact specPush3_calls a b u w h1 h2 h3 h4
  · exact specPush5_calls a b u w h1 h2 h3 h4
  · exact specPush8_calls a b u w h1 h2 h3 h4

theorem implPush_calls (g : Gt) (u : Pl) (w : World) (h : CliffK g) :
    Gives Try.prog 38 #[.agg #[.int .i64 g.k, .int .i64 g.a, .int .i64 g.b], .agg #[.int .i64 u.x, .int .i64 u.z, .int .i64 u.s]] w (.agg #[.int .i64 (pushG g u).x, .int .i64 (pushG g u).z, .int .i64 (pushG g u).s]) := by
  obtain ⟨k, a, b⟩ := g
  obtain ⟨hk, h1, h2, h3, h4⟩ := h
  dsimp only at hk h1 h2 h3 h4 ⊢
  rcases hk with rfl | rfl | rfl | rfl | rfl | rfl | rfl
  · exact implPush1_calls a b u w h1 h2
  · exact implPush2_calls a b u w h1 h2
  · exact implPush3_calls a b u w h1 h2
  · exact implPush5_calls a b u w h1 h2
  · exact implPush6_calls a b u w h1 h2
  · exact implPush8_calls a b u w h1 h2 h3 h4
  · exact implPush9_calls a b u w h1 h2 h3 h4

end Go.Proofs.Ytgpnahjnhdchaaa
