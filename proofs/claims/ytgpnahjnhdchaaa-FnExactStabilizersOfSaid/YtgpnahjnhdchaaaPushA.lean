/- pushGate of the program and l41Push of the reference at each kind of gate: one value for both. (Printed by wip/gen_push.py.) -/
import Derived.Test.YtgpnahjnhdchaaaPush
namespace Go.Proofs.Ytgpnahjnhdchaaa
open Go.RowKit

/-- The world under one name, whatever the goal. -/
theorem name_world {K : Act → World → Prop} {a : Act} {W : World} (h : ∀ w1, w1 = W → K a w1) : K a W := h W rfl

set_option maxRecDepth 100000 in
set_option maxHeartbeats 2000000 in
theorem implPush1_calls (a b : Int) (u : Pl) (w : World) (ha : 0 ≤ a) (ha1 : a ≤ 4) :
    Gives Try.prog 38 #[.agg #[.int .i64 1, .int .i64 a, .int .i64 b], .agg #[.int .i64 u.x, .int .i64 u.z, .int .i64 u.s]] w (.agg #[.int .i64 (pushX a u).x, .int .i64 (pushX a u).z, .int .i64 (pushX a u).s]) := by
  unfold Gives
  go_enter Try.func38, Try.ntmps38
  go_wp2_with fail
  refine wp_name fun w1 hw1 => ?_
  have x1 : Ext w w1 := by rw [hw1]; exact (((Ext.refl _).alloc _).alloc _).alloc _
  have p1 : PBox w1 (w.heap.size + 1) (w.heap.size) (w.heap.size + 1 + 1) u 1 a b := by rw [hw1]; exact ⟨by simpa using (Blk.new (w.alloc _) _ _).alloc _, ((Blk.new w _ _).alloc _).alloc _, by simpa using Blk.new ((w.alloc _).alloc _) _ _⟩
  obtain ⟨⟨c0, c1, c2⟩, ⟨f0, f1, f2⟩, ⟨d0, d1, d2⟩, ⟨s0, s1, s2⟩, ⟨q0, q1, q2⟩, l0, l1, l2⟩ := p1.all
  replace p1 := hide p1
  replace x1 := hide x1
  clear hw1
  go_quiet (fail)
  go_wp2_with fail
  refine bodyPost_ret (v := .agg #[.int .i64 (pushX a u).x, .int .i64 (pushX a u).z, .int .i64 (pushX a u).s]) ?_ rfl ?_
  · simp only [results, Try.results38]
    go_simp
    try exact ⟨rfl, rfl, rfl⟩
  · exact ⟨rfl, by repeat (first | (with_reducible exact (x1.out.drewN _)) | (with_reducible refine Ext.setb ?_ (by omega) _))⟩

set_option maxRecDepth 100000 in
set_option maxHeartbeats 2000000 in
theorem implPush2_calls (a b : Int) (u : Pl) (w : World) (ha : 0 ≤ a) (ha1 : a ≤ 4) :
    Gives Try.prog 38 #[.agg #[.int .i64 2, .int .i64 a, .int .i64 b], .agg #[.int .i64 u.x, .int .i64 u.z, .int .i64 u.s]] w (.agg #[.int .i64 (pushZ a u).x, .int .i64 (pushZ a u).z, .int .i64 (pushZ a u).s]) := by
  unfold Gives
  go_enter Try.func38, Try.ntmps38
  go_wp2_with fail
  refine wp_name fun w1 hw1 => ?_
  have x1 : Ext w w1 := by rw [hw1]; exact (((Ext.refl _).alloc _).alloc _).alloc _
  have p1 : PBox w1 (w.heap.size + 1) (w.heap.size) (w.heap.size + 1 + 1) u 2 a b := by rw [hw1]; exact ⟨by simpa using (Blk.new (w.alloc _) _ _).alloc _, ((Blk.new w _ _).alloc _).alloc _, by simpa using Blk.new ((w.alloc _).alloc _) _ _⟩
  obtain ⟨⟨c0, c1, c2⟩, ⟨f0, f1, f2⟩, ⟨d0, d1, d2⟩, ⟨s0, s1, s2⟩, ⟨q0, q1, q2⟩, l0, l1, l2⟩ := p1.all
  replace p1 := hide p1
  replace x1 := hide x1
  clear hw1
  go_quiet (fail)
  go_wp2_with fail
  refine bodyPost_ret (v := .agg #[.int .i64 (pushZ a u).x, .int .i64 (pushZ a u).z, .int .i64 (pushZ a u).s]) ?_ rfl ?_
  · simp only [results, Try.results38]
    go_simp
    try exact ⟨rfl, rfl, rfl⟩
  · exact ⟨rfl, by repeat (first | (with_reducible exact (x1.out.drewN _)) | (with_reducible refine Ext.setb ?_ (by omega) _))⟩

set_option maxRecDepth 100000 in
set_option maxHeartbeats 2000000 in
theorem implPush3_calls (a b : Int) (u : Pl) (w : World) (ha : 0 ≤ a) (ha1 : a ≤ 4) :
    Gives Try.prog 38 #[.agg #[.int .i64 3, .int .i64 a, .int .i64 b], .agg #[.int .i64 u.x, .int .i64 u.z, .int .i64 u.s]] w (.agg #[.int .i64 (pushS a u).x, .int .i64 (pushS a u).z, .int .i64 (pushS a u).s]) := by
  unfold Gives
  go_enter Try.func38, Try.ntmps38
  go_wp2_with fail
  refine wp_name fun w1 hw1 => ?_
  have x1 : Ext w w1 := by rw [hw1]; exact (((Ext.refl _).alloc _).alloc _).alloc _
  have p1 : PBox w1 (w.heap.size + 1) (w.heap.size) (w.heap.size + 1 + 1) u 3 a b := by rw [hw1]; exact ⟨by simpa using (Blk.new (w.alloc _) _ _).alloc _, ((Blk.new w _ _).alloc _).alloc _, by simpa using Blk.new ((w.alloc _).alloc _) _ _⟩
  obtain ⟨⟨c0, c1, c2⟩, ⟨f0, f1, f2⟩, ⟨d0, d1, d2⟩, ⟨s0, s1, s2⟩, ⟨q0, q1, q2⟩, l0, l1, l2⟩ := p1.all
  replace p1 := hide p1
  replace x1 := hide x1
  clear hw1
  go_quiet (fail)
  go_wp2_with fail
  refine wp_name fun w2 hw2 => ?_
  have x2 : Ext w w2 := by rw [hw2]; exact (x1.out.drewN _).setb (by omega) _
  have p2 : PBox w2 (w.heap.size + 1) (w.heap.size) (w.heap.size + 1 + 1) ⟨u.x, u.z, xorI u.s (andI (bitI u.x a) (bitI u.z a))⟩ 3 a b := by rw [hw2]; exact (p1.out.drewN _).set2 (by omega) (by omega) (xorI u.s (andI (bitI u.x a) (bitI u.z a)))
  clear c0 c1 c2 f0 f1 f2 d0 d1 d2 s0 s1 s2 q0 q1 q2 l0 l1 l2
  obtain ⟨⟨c0, c1, c2⟩, ⟨f0, f1, f2⟩, ⟨d0, d1, d2⟩, ⟨s0, s1, s2⟩, ⟨q0, q1, q2⟩, l0, l1, l2⟩ := p2.all
  replace p2 := hide p2
  replace x2 := hide x2
  clear hw2
  go_still_tail 8, (by kernel_rfl)
  change wpList _ _ _ _ _ w2.drew
  go_step
  go_step
  go_step
  go_step
  go_step
  go_step
  refine wp_name fun w3 hw3 => ?_
  have x3 : Ext w w3 := by rw [hw3]; exact (x2.out.setb (by omega) _).drew
  have p3 : PBox w3 (w.heap.size + 1) (w.heap.size) (w.heap.size + 1 + 1) (pushS a u) 3 a b := by rw [hw3]; exact (p2.out.set1 (by omega) (by omega) (xorI u.z (shlI (bitI u.x a) a))).drew
  clear c0 c1 c2 f0 f1 f2 d0 d1 d2 s0 s1 s2 q0 q1 q2 l0 l1 l2
  obtain ⟨⟨c0, c1, c2⟩, ⟨f0, f1, f2⟩, ⟨d0, d1, d2⟩, ⟨s0, s1, s2⟩, ⟨q0, q1, q2⟩, l0, l1, l2⟩ := p3.all
  replace p3 := hide p3
  replace x3 := hide x3
  clear hw3
  go_wp2_with fail
  refine bodyPost_ret (v := .agg #[.int .i64 (pushS a u).x, .int .i64 (pushS a u).z, .int .i64 (pushS a u).s]) ?_ rfl ?_
  · simp only [results, Try.results38]
    go_simp
    try exact ⟨rfl, rfl, rfl⟩
  · exact ⟨rfl, by repeat (first | (with_reducible exact x3.out) | (with_reducible refine Ext.setb ?_ (by omega) _))⟩

set_option maxRecDepth 100000 in
set_option maxHeartbeats 2000000 in
theorem implPush5_calls (a b : Int) (u : Pl) (w : World) (ha : 0 ≤ a) (ha1 : a ≤ 4) :
    Gives Try.prog 38 #[.agg #[.int .i64 5, .int .i64 a, .int .i64 b], .agg #[.int .i64 u.x, .int .i64 u.z, .int .i64 u.s]] w (.agg #[.int .i64 (pushH a u).x, .int .i64 (pushH a u).z, .int .i64 (pushH a u).s]) := by
  unfold Gives
  go_enter Try.func38, Try.ntmps38
  go_wp2_with fail
  refine wp_name fun w1 hw1 => ?_
  have x1 : Ext w w1 := by rw [hw1]; exact (((Ext.refl _).alloc _).alloc _).alloc _
  have p1 : PBox w1 (w.heap.size + 1) (w.heap.size) (w.heap.size + 1 + 1) u 5 a b := by rw [hw1]; exact ⟨by simpa using (Blk.new (w.alloc _) _ _).alloc _, ((Blk.new w _ _).alloc _).alloc _, by simpa using Blk.new ((w.alloc _).alloc _) _ _⟩
  obtain ⟨⟨c0, c1, c2⟩, ⟨f0, f1, f2⟩, ⟨d0, d1, d2⟩, ⟨s0, s1, s2⟩, ⟨q0, q1, q2⟩, l0, l1, l2⟩ := p1.all
  replace p1 := hide p1
  replace x1 := hide x1
  clear hw1
  go_quiet (fail)
  go_wp2_with fail
  refine wp_name fun w2 hw2 => ?_
  have x2 : Ext w w2 := by rw [hw2]; exact (x1.out.drewN _).setb (by omega) _
  have p2 : PBox w2 (w.heap.size + 1) (w.heap.size) (w.heap.size + 1 + 1) ⟨u.x, u.z, xorI u.s (andI (bitI u.x a) (bitI u.z a))⟩ 5 a b := by rw [hw2]; exact (p1.out.drewN _).set2 (by omega) (by omega) (xorI u.s (andI (bitI u.x a) (bitI u.z a)))
  clear c0 c1 c2 f0 f1 f2 d0 d1 d2 s0 s1 s2 q0 q1 q2 l0 l1 l2
  obtain ⟨⟨c0, c1, c2⟩, ⟨f0, f1, f2⟩, ⟨d0, d1, d2⟩, ⟨s0, s1, s2⟩, ⟨q0, q1, q2⟩, l0, l1, l2⟩ := p2.all
  replace p2 := hide p2
  replace x2 := hide x2
  clear hw2
  go_still_tail 10, (by kernel_rfl)
  change wpList _ _ _ _ _ w2.drew
  go_step
  go_step
  go_step
  go_step
  go_step
  go_step
  refine wp_name fun w3 hw3 => ?_
  have x3 : Ext w w3 := by rw [hw3]; exact (x2.out.setb (by omega) _).drew
  have p3 : PBox w3 (w.heap.size + 1) (w.heap.size) (w.heap.size + 1 + 1) ⟨xorI u.x (shlI (xorI (bitI u.x a) (bitI u.z a)) a), u.z, xorI u.s (andI (bitI u.x a) (bitI u.z a))⟩ 5 a b := by rw [hw3]; exact (p2.out.set0 (by omega) (by omega) (xorI u.x (shlI (xorI (bitI u.x a) (bitI u.z a)) a))).drew
  clear c0 c1 c2 f0 f1 f2 d0 d1 d2 s0 s1 s2 q0 q1 q2 l0 l1 l2
  obtain ⟨⟨c0, c1, c2⟩, ⟨f0, f1, f2⟩, ⟨d0, d1, d2⟩, ⟨s0, s1, s2⟩, ⟨q0, q1, q2⟩, l0, l1, l2⟩ := p3.all
  replace p3 := hide p3
  replace x3 := hide x3
  clear hw3
  go_still_tail 10, (by kernel_rfl)
  change wpList _ _ _ _ _ w3.drew
  go_step
  go_step
  go_step
  go_step
  go_step
  go_step
  refine wp_name fun w4 hw4 => ?_
  have x4 : Ext w w4 := by rw [hw4]; exact (x3.out.setb (by omega) _).drew
  have p4 : PBox w4 (w.heap.size + 1) (w.heap.size) (w.heap.size + 1 + 1) (pushH a u) 5 a b := by rw [hw4]; exact (p3.out.set1 (by omega) (by omega) (xorI u.z (shlI (xorI (bitI u.x a) (bitI u.z a)) a))).drew
  clear c0 c1 c2 f0 f1 f2 d0 d1 d2 s0 s1 s2 q0 q1 q2 l0 l1 l2
  obtain ⟨⟨c0, c1, c2⟩, ⟨f0, f1, f2⟩, ⟨d0, d1, d2⟩, ⟨s0, s1, s2⟩, ⟨q0, q1, q2⟩, l0, l1, l2⟩ := p4.all
  replace p4 := hide p4
  replace x4 := hide x4
  clear hw4
  go_wp2_with fail
  refine bodyPost_ret (v := .agg #[.int .i64 (pushH a u).x, .int .i64 (pushH a u).z, .int .i64 (pushH a u).s]) ?_ rfl ?_
  · simp only [results, Try.results38]
    go_simp
    try exact ⟨rfl, rfl, rfl⟩
  · exact ⟨rfl, by repeat (first | (with_reducible exact x4.out) | (with_reducible refine Ext.setb ?_ (by omega) _))⟩

set_option maxRecDepth 100000 in
set_option maxHeartbeats 2000000 in
theorem implPush8_calls (a b : Int) (u : Pl) (w : World) (ha : 0 ≤ a) (ha1 : a ≤ 4) (hb : 0 ≤ b) (hb1 : b ≤ 4) :
    Gives Try.prog 38 #[.agg #[.int .i64 8, .int .i64 a, .int .i64 b], .agg #[.int .i64 u.x, .int .i64 u.z, .int .i64 u.s]] w (.agg #[.int .i64 (pushC a b u).x, .int .i64 (pushC a b u).z, .int .i64 (pushC a b u).s]) := by
  unfold Gives
  go_enter Try.func38, Try.ntmps38
  go_wp2_with fail
  refine wp_name fun w1 hw1 => ?_
  have x1 : Ext w w1 := by rw [hw1]; exact (((Ext.refl _).alloc _).alloc _).alloc _
  have p1 : PBox w1 (w.heap.size + 1) (w.heap.size) (w.heap.size + 1 + 1) u 8 a b := by rw [hw1]; exact ⟨by simpa using (Blk.new (w.alloc _) _ _).alloc _, ((Blk.new w _ _).alloc _).alloc _, by simpa using Blk.new ((w.alloc _).alloc _) _ _⟩
  obtain ⟨⟨c0, c1, c2⟩, ⟨f0, f1, f2⟩, ⟨d0, d1, d2⟩, ⟨s0, s1, s2⟩, ⟨q0, q1, q2⟩, l0, l1, l2⟩ := p1.all
  replace p1 := hide p1
  replace x1 := hide x1
  clear hw1
  go_quiet (fail)
  go_wp2_with fail
  refine wp_name fun w2 hw2 => ?_
  have x2 : Ext w w2 := by rw [hw2]; exact x1.out.drewN _
  have p2 : PBox w2 (w.heap.size + 1) (w.heap.size) (w.heap.size + 1 + 1) u 8 a b := by rw [hw2]; exact p1.out.drewN _
  clear c0 c1 c2 f0 f1 f2 d0 d1 d2 s0 s1 s2 q0 q1 q2 l0 l1 l2
  obtain ⟨⟨c0, c1, c2⟩, ⟨f0, f1, f2⟩, ⟨d0, d1, d2⟩, ⟨s0, s1, s2⟩, ⟨q0, q1, q2⟩, l0, l1, l2⟩ := p2.all
  replace p2 := hide p2
  replace x2 := hide x2
  clear hw2
  go_quiet (fail)
  go_wp2_with fail
  refine wp_name fun w3 hw3 => ?_
  have x3 : Ext w w3 := by rw [hw3]; exact (x2.out.drewN _).setb (by omega) _
  have p3 : PBox w3 (w.heap.size + 1) (w.heap.size) (w.heap.size + 1 + 1) ⟨u.x, u.z, xorI u.s (andI (andI (bitI u.x a) (bitI u.z b)) (xorI (xorI 1 (bitI u.x b)) (bitI u.z a)))⟩ 8 a b := by rw [hw3]; exact (p2.out.drewN _).set2 (by omega) (by omega) (xorI u.s (andI (andI (bitI u.x a) (bitI u.z b)) (xorI (xorI 1 (bitI u.x b)) (bitI u.z a))))
  clear c0 c1 c2 f0 f1 f2 d0 d1 d2 s0 s1 s2 q0 q1 q2 l0 l1 l2
  obtain ⟨⟨c0, c1, c2⟩, ⟨f0, f1, f2⟩, ⟨d0, d1, d2⟩, ⟨s0, s1, s2⟩, ⟨q0, q1, q2⟩, l0, l1, l2⟩ := p3.all
  replace p3 := hide p3
  replace x3 := hide x3
  clear hw3
  go_still_tail 8, (by kernel_rfl)
  change wpList _ _ _ _ _ w3.drew
  go_step
  go_step
  go_step
  go_step
  go_step
  go_step
  refine wp_name fun w4 hw4 => ?_
  have x4 : Ext w w4 := by rw [hw4]; exact (x3.out.setb (by omega) _).drew
  have p4 : PBox w4 (w.heap.size + 1) (w.heap.size) (w.heap.size + 1 + 1) ⟨xorI u.x (shlI (bitI u.x a) b), u.z, xorI u.s (andI (andI (bitI u.x a) (bitI u.z b)) (xorI (xorI 1 (bitI u.x b)) (bitI u.z a)))⟩ 8 a b := by rw [hw4]; exact (p3.out.set0 (by omega) (by omega) (xorI u.x (shlI (bitI u.x a) b))).drew
  clear c0 c1 c2 f0 f1 f2 d0 d1 d2 s0 s1 s2 q0 q1 q2 l0 l1 l2
  obtain ⟨⟨c0, c1, c2⟩, ⟨f0, f1, f2⟩, ⟨d0, d1, d2⟩, ⟨s0, s1, s2⟩, ⟨q0, q1, q2⟩, l0, l1, l2⟩ := p4.all
  replace p4 := hide p4
  replace x4 := hide x4
  clear hw4
  go_still_tail 8, (by kernel_rfl)
  change wpList _ _ _ _ _ w4.drew
  go_step
  go_step
  go_step
  go_step
  go_step
  go_step
  refine wp_name fun w5 hw5 => ?_
  have x5 : Ext w w5 := by rw [hw5]; exact (x4.out.setb (by omega) _).drew
  have p5 : PBox w5 (w.heap.size + 1) (w.heap.size) (w.heap.size + 1 + 1) (pushC a b u) 8 a b := by rw [hw5]; exact (p4.out.set1 (by omega) (by omega) (xorI u.z (shlI (bitI u.z b) a))).drew
  clear c0 c1 c2 f0 f1 f2 d0 d1 d2 s0 s1 s2 q0 q1 q2 l0 l1 l2
  obtain ⟨⟨c0, c1, c2⟩, ⟨f0, f1, f2⟩, ⟨d0, d1, d2⟩, ⟨s0, s1, s2⟩, ⟨q0, q1, q2⟩, l0, l1, l2⟩ := p5.all
  replace p5 := hide p5
  replace x5 := hide x5
  clear hw5
  go_wp2_with fail
  refine bodyPost_ret (v := .agg #[.int .i64 (pushC a b u).x, .int .i64 (pushC a b u).z, .int .i64 (pushC a b u).s]) ?_ rfl ?_
  · simp only [results, Try.results38]
    go_simp
    try exact ⟨rfl, rfl, rfl⟩
  · exact ⟨rfl, by repeat (first | (with_reducible exact x5.out) | (with_reducible refine Ext.setb ?_ (by omega) _))⟩

set_option maxRecDepth 100000 in
set_option maxHeartbeats 2000000 in
theorem specPush1_calls (a b : Int) (u : Pl) (w : World) (ha : 0 ≤ a) (ha1 : a ≤ 4) (hb : 0 ≤ b) (hb1 : b ≤ 4) :
    Gives Try.prog 36 #[.agg #[.int .i64 u.x, .int .i64 u.z, .int .i64 u.s], .agg #[.int .i64 1, .int .i64 a, .int .i64 b]] w (.agg #[.int .i64 (pushX a u).x, .int .i64 (pushX a u).z, .int .i64 (pushX a u).s]) := by
  unfold Gives
  go_enter Try.func36, Try.ntmps36
  go_wp2_with fail
  refine bodyPost_ret (v := .agg #[.int .i64 (pushX a u).x, .int .i64 (pushX a u).z, .int .i64 (pushX a u).s]) ?_ rfl ?_
  · simp only [results, Try.results36]
    go_simp
    try exact ⟨rfl, rfl, rfl⟩
  · exact ⟨rfl, by repeat (first | (with_reducible exact Ext.refl _) | (with_reducible refine Ext.alloc ?_ _) | (with_reducible refine Ext.setb ?_ (by omega) _))⟩

set_option maxRecDepth 100000 in
set_option maxHeartbeats 2000000 in
theorem specPush2_calls (a b : Int) (u : Pl) (w : World) (ha : 0 ≤ a) (ha1 : a ≤ 4) (hb : 0 ≤ b) (hb1 : b ≤ 4) :
    Gives Try.prog 36 #[.agg #[.int .i64 u.x, .int .i64 u.z, .int .i64 u.s], .agg #[.int .i64 2, .int .i64 a, .int .i64 b]] w (.agg #[.int .i64 (pushZ a u).x, .int .i64 (pushZ a u).z, .int .i64 (pushZ a u).s]) := by
  unfold Gives
  go_enter Try.func36, Try.ntmps36
  go_wp2_with fail
  refine bodyPost_ret (v := .agg #[.int .i64 (pushZ a u).x, .int .i64 (pushZ a u).z, .int .i64 (pushZ a u).s]) ?_ rfl ?_
  · simp only [results, Try.results36]
    go_simp
    try exact ⟨rfl, rfl, rfl⟩
  · exact ⟨rfl, by repeat (first | (with_reducible exact Ext.refl _) | (with_reducible refine Ext.alloc ?_ _) | (with_reducible refine Ext.setb ?_ (by omega) _))⟩

set_option maxRecDepth 100000 in
set_option maxHeartbeats 2000000 in
theorem specPush3_calls (a b : Int) (u : Pl) (w : World) (ha : 0 ≤ a) (ha1 : a ≤ 4) (hb : 0 ≤ b) (hb1 : b ≤ 4) :
    Gives Try.prog 36 #[.agg #[.int .i64 u.x, .int .i64 u.z, .int .i64 u.s], .agg #[.int .i64 3, .int .i64 a, .int .i64 b]] w (.agg #[.int .i64 (pushS a u).x, .int .i64 (pushS a u).z, .int .i64 (pushS a u).s]) := by
  unfold Gives
  go_enter Try.func36, Try.ntmps36
  go_wp2_with fail
  refine wp_name fun w1 hw1 => ?_
  have x1 : Ext w w1 := by rw [hw1]; exact (((Ext.refl _).alloc _).alloc _).alloc _
  have p1 : PBox w1 (w.heap.size) (w.heap.size + 1) (w.heap.size + 1 + 1) ⟨u.x, u.z, xorI u.s (andI (bitI u.x a) (bitI u.z a))⟩ 3 a b := by rw [hw1]; exact ⟨((Blk.new w _ _).alloc _).alloc _, by simpa using (Blk.new (w.alloc _) _ _).alloc _, by simpa using Blk.new ((w.alloc _).alloc _) _ _⟩
  obtain ⟨⟨c0, c1, c2⟩, ⟨f0, f1, f2⟩, ⟨d0, d1, d2⟩, ⟨s0, s1, s2⟩, ⟨q0, q1, q2⟩, l0, l1, l2⟩ := p1.all
  replace p1 := hide p1
  replace x1 := hide x1
  clear hw1
  go_still_tail 8, (by kernel_rfl)
  change wpList _ _ _ _ _ w1.drew
  go_step
  go_step
  go_step
  go_step
  go_step
  go_step
  refine wp_name fun w2 hw2 => ?_
  have x2 : Ext w w2 := by rw [hw2]; exact (x1.out.setb (by omega) _).drew
  have p2 : PBox w2 (w.heap.size) (w.heap.size + 1) (w.heap.size + 1 + 1) (pushS a u) 3 a b := by rw [hw2]; exact (p1.out.set1 (by omega) (by omega) (xorI u.z (shlI (bitI u.x a) a))).drew
  clear c0 c1 c2 f0 f1 f2 d0 d1 d2 s0 s1 s2 q0 q1 q2 l0 l1 l2
  obtain ⟨⟨c0, c1, c2⟩, ⟨f0, f1, f2⟩, ⟨d0, d1, d2⟩, ⟨s0, s1, s2⟩, ⟨q0, q1, q2⟩, l0, l1, l2⟩ := p2.all
  replace p2 := hide p2
  replace x2 := hide x2
  clear hw2
  go_wp2_with fail
  refine bodyPost_ret (v := .agg #[.int .i64 (pushS a u).x, .int .i64 (pushS a u).z, .int .i64 (pushS a u).s]) ?_ rfl ?_
  · simp only [results, Try.results36]
    go_simp
    try exact ⟨rfl, rfl, rfl⟩
  · exact ⟨rfl, by repeat (first | (with_reducible exact x2.out) | (with_reducible refine Ext.setb ?_ (by omega) _))⟩

set_option maxRecDepth 100000 in
set_option maxHeartbeats 2000000 in
theorem specPush5_calls (a b : Int) (u : Pl) (w : World) (ha : 0 ≤ a) (ha1 : a ≤ 4) (hb : 0 ≤ b) (hb1 : b ≤ 4) :
    Gives Try.prog 36 #[.agg #[.int .i64 u.x, .int .i64 u.z, .int .i64 u.s], .agg #[.int .i64 5, .int .i64 a, .int .i64 b]] w (.agg #[.int .i64 (pushH a u).x, .int .i64 (pushH a u).z, .int .i64 (pushH a u).s]) := by
  unfold Gives
  go_enter Try.func36, Try.ntmps36
  go_wp2_with fail
  refine wp_name fun w1 hw1 => ?_
  have x1 : Ext w w1 := by rw [hw1]; exact (((Ext.refl _).alloc _).alloc _).alloc _
  have p1 : PBox w1 (w.heap.size) (w.heap.size + 1) (w.heap.size + 1 + 1) ⟨u.x, u.z, xorI u.s (andI (bitI u.x a) (bitI u.z a))⟩ 5 a b := by rw [hw1]; exact ⟨((Blk.new w _ _).alloc _).alloc _, by simpa using (Blk.new (w.alloc _) _ _).alloc _, by simpa using Blk.new ((w.alloc _).alloc _) _ _⟩
  obtain ⟨⟨c0, c1, c2⟩, ⟨f0, f1, f2⟩, ⟨d0, d1, d2⟩, ⟨s0, s1, s2⟩, ⟨q0, q1, q2⟩, l0, l1, l2⟩ := p1.all
  replace p1 := hide p1
  replace x1 := hide x1
  clear hw1
  go_still_tail 10, (by kernel_rfl)
  change wpList _ _ _ _ _ w1.drew
  go_step
  go_step
  go_step
  go_step
  go_step
  go_step
  refine wp_name fun w2 hw2 => ?_
  have x2 : Ext w w2 := by rw [hw2]; exact (x1.out.setb (by omega) _).drew
  have p2 : PBox w2 (w.heap.size) (w.heap.size + 1) (w.heap.size + 1 + 1) ⟨xorI u.x (shlI (xorI (bitI u.x a) (bitI u.z a)) a), u.z, xorI u.s (andI (bitI u.x a) (bitI u.z a))⟩ 5 a b := by rw [hw2]; exact (p1.out.set0 (by omega) (by omega) (xorI u.x (shlI (xorI (bitI u.x a) (bitI u.z a)) a))).drew
  clear c0 c1 c2 f0 f1 f2 d0 d1 d2 s0 s1 s2 q0 q1 q2 l0 l1 l2
  obtain ⟨⟨c0, c1, c2⟩, ⟨f0, f1, f2⟩, ⟨d0, d1, d2⟩, ⟨s0, s1, s2⟩, ⟨q0, q1, q2⟩, l0, l1, l2⟩ := p2.all
  replace p2 := hide p2
  replace x2 := hide x2
  clear hw2
  go_still_tail 10, (by kernel_rfl)
  change wpList _ _ _ _ _ w2.drew
  go_step
  go_step
  go_step
  go_step
  go_step
  go_step
  refine wp_name fun w3 hw3 => ?_
  have x3 : Ext w w3 := by rw [hw3]; exact (x2.out.setb (by omega) _).drew
  have p3 : PBox w3 (w.heap.size) (w.heap.size + 1) (w.heap.size + 1 + 1) (pushH a u) 5 a b := by rw [hw3]; exact (p2.out.set1 (by omega) (by omega) (xorI u.z (shlI (xorI (bitI u.x a) (bitI u.z a)) a))).drew
  clear c0 c1 c2 f0 f1 f2 d0 d1 d2 s0 s1 s2 q0 q1 q2 l0 l1 l2
  obtain ⟨⟨c0, c1, c2⟩, ⟨f0, f1, f2⟩, ⟨d0, d1, d2⟩, ⟨s0, s1, s2⟩, ⟨q0, q1, q2⟩, l0, l1, l2⟩ := p3.all
  replace p3 := hide p3
  replace x3 := hide x3
  clear hw3
  go_wp2_with fail
  refine bodyPost_ret (v := .agg #[.int .i64 (pushH a u).x, .int .i64 (pushH a u).z, .int .i64 (pushH a u).s]) ?_ rfl ?_
  · simp only [results, Try.results36]
    go_simp
    try exact ⟨rfl, rfl, rfl⟩
  · exact ⟨rfl, by repeat (first | (with_reducible exact x3.out) | (with_reducible refine Ext.setb ?_ (by omega) _))⟩

set_option maxRecDepth 100000 in
set_option maxHeartbeats 2000000 in
theorem specPush8_calls (a b : Int) (u : Pl) (w : World) (ha : 0 ≤ a) (ha1 : a ≤ 4) (hb : 0 ≤ b) (hb1 : b ≤ 4) :
    Gives Try.prog 36 #[.agg #[.int .i64 u.x, .int .i64 u.z, .int .i64 u.s], .agg #[.int .i64 8, .int .i64 a, .int .i64 b]] w (.agg #[.int .i64 (pushC a b u).x, .int .i64 (pushC a b u).z, .int .i64 (pushC a b u).s]) := by
  unfold Gives
  go_enter Try.func36, Try.ntmps36
  go_wp2_with fail
  refine wp_name fun w1 hw1 => ?_
  have x1 : Ext w w1 := by rw [hw1]; exact (((Ext.refl _).alloc _).alloc _).alloc _
  have p1 : PBox w1 (w.heap.size) (w.heap.size + 1) (w.heap.size + 1 + 1) ⟨u.x, u.z, xorI u.s (andI (andI (bitI u.x a) (bitI u.z b)) (xorI (xorI 1 (bitI u.x b)) (bitI u.z a)))⟩ 8 a b := by rw [hw1]; exact ⟨((Blk.new w _ _).alloc _).alloc _, by simpa using (Blk.new (w.alloc _) _ _).alloc _, by simpa using Blk.new ((w.alloc _).alloc _) _ _⟩
  obtain ⟨⟨c0, c1, c2⟩, ⟨f0, f1, f2⟩, ⟨d0, d1, d2⟩, ⟨s0, s1, s2⟩, ⟨q0, q1, q2⟩, l0, l1, l2⟩ := p1.all
  replace p1 := hide p1
  replace x1 := hide x1
  clear hw1
  go_still_tail 8, (by kernel_rfl)
  change wpList _ _ _ _ _ w1.drew
  go_step
  go_step
  go_step
  go_step
  go_step
  go_step
  refine wp_name fun w2 hw2 => ?_
  have x2 : Ext w w2 := by rw [hw2]; exact (x1.out.setb (by omega) _).drew
  have p2 : PBox w2 (w.heap.size) (w.heap.size + 1) (w.heap.size + 1 + 1) ⟨xorI u.x (shlI (bitI u.x a) b), u.z, xorI u.s (andI (andI (bitI u.x a) (bitI u.z b)) (xorI (xorI 1 (bitI u.x b)) (bitI u.z a)))⟩ 8 a b := by rw [hw2]; exact (p1.out.set0 (by omega) (by omega) (xorI u.x (shlI (bitI u.x a) b))).drew
  clear c0 c1 c2 f0 f1 f2 d0 d1 d2 s0 s1 s2 q0 q1 q2 l0 l1 l2
  obtain ⟨⟨c0, c1, c2⟩, ⟨f0, f1, f2⟩, ⟨d0, d1, d2⟩, ⟨s0, s1, s2⟩, ⟨q0, q1, q2⟩, l0, l1, l2⟩ := p2.all
  replace p2 := hide p2
  replace x2 := hide x2
  clear hw2
  go_still_tail 8, (by kernel_rfl)
  change wpList _ _ _ _ _ w2.drew
  go_step
  go_step
  go_step
  go_step
  go_step
  go_step
  refine wp_name fun w3 hw3 => ?_
  have x3 : Ext w w3 := by rw [hw3]; exact (x2.out.setb (by omega) _).drew
  have p3 : PBox w3 (w.heap.size) (w.heap.size + 1) (w.heap.size + 1 + 1) (pushC a b u) 8 a b := by rw [hw3]; exact (p2.out.set1 (by omega) (by omega) (xorI u.z (shlI (bitI u.z b) a))).drew
  clear c0 c1 c2 f0 f1 f2 d0 d1 d2 s0 s1 s2 q0 q1 q2 l0 l1 l2
  obtain ⟨⟨c0, c1, c2⟩, ⟨f0, f1, f2⟩, ⟨d0, d1, d2⟩, ⟨s0, s1, s2⟩, ⟨q0, q1, q2⟩, l0, l1, l2⟩ := p3.all
  replace p3 := hide p3
  replace x3 := hide x3
  clear hw3
  go_wp2_with fail
  refine bodyPost_ret (v := .agg #[.int .i64 (pushC a b u).x, .int .i64 (pushC a b u).z, .int .i64 (pushC a b u).s]) ?_ rfl ?_
  · simp only [results, Try.results36]
    go_simp
    try exact ⟨rfl, rfl, rfl⟩
  · exact ⟨rfl, by repeat (first | (with_reducible exact x3.out) | (with_reducible refine Ext.setb ?_ (by omega) _))⟩

end Go.Proofs.Ytgpnahjnhdchaaa
