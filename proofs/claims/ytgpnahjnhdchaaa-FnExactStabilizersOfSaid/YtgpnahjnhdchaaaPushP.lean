/- PushPauli of the program and of the reference: one value for both. -/
import Derived.Test.YtgpnahjnhdchaaaCliff
import Derived.Test.YtgpnahjnhdchaaaPushC
namespace Go.Proofs.Ytgpnahjnhdchaaa
open Go.RowKit

def pushL (gs : List Gt) (u : Pl) : Pl := gs.foldl (fun u g => pushG g u) u
theorem pushL_succ {gs : List Gt} {k : Nat} (h : k < gs.length) (u : Pl) : pushL (gs.take (k + 1)) u = pushG gs[k] (pushL (gs.take k) u) := by
  rw [List.take_succ_eq_append_getElem h, pushL, List.foldl_append]; rfl
noncomputable def pushOk (p q : Int) (gs : List Gt) (u : Pl) : Bool := cliffB p q gs && pauliB q u
noncomputable def pushR (p q : Int) (gs : List Gt) (u : Pl) : Pl := if pushOk p q gs u = true then pushL gs u else ⟨0, 0, 0⟩

theorem cliffK_of {p q : Int} {gs : List Gt} (h : CliffOk p q gs) {g : Gt} (hg : g ∈ gs) : CliffK g := by
  obtain ⟨h1, h2, h3, h4, h5, h6⟩ := h.1.2.2.2.2 g hg
  have h7 := h.2 g hg
  have h8 := h.1.2.2.1
  refine ⟨by omega, h3, by omega, ?_, ?_⟩
  · by_cases h : g.k < 8
    · rw [h5 h]; omega
    · exact (h6 (by omega)).1
  · by_cases h : g.k < 8
    · rw [h5 h]; omega
    · have := h6 (by omega); omega

/-- What the walk of PushPauli holds of the world: the boxes of the circuit, the operator and the result. -/
structure PP (w w' : World) (p q : Int) (A : Option Addr) (n c : Nat) (u : Pl) : Prop where
  x : Ext w w'
  c : Blk w' w.heap.size 33 #[.int .i64 p, .int .i64 q, .slice A n c]
  u : Blk w' (w.heap.size + 1) 28 #[.int .i64 u.x, .int .i64 u.z, .int .i64 u.s]
  r : Blk w' (w.heap.size + 1 + 1) 28 #[.int .i64 0, .int .i64 0, .int .i64 0]
section
variable {w w' w'' : World} {p q : Int} {A : Option Addr} {n c : Nat} {u : Pl}
theorem PP.ext (h : PP w w' p q A n c u) (hx : Ext w' w'') : PP w w'' p q A n c u := ⟨h.x.trans hx, h.c.ext hx, h.u.ext hx, h.r.ext hx⟩
theorem PP.alloc (h : PP w w' p q A n c u) (o : Obj) : PP w (w'.alloc o) p q A n c u := ⟨h.x.alloc _, h.c.alloc _, h.u.alloc _, h.r.alloc _⟩
theorem PP.set_ (h : PP w w' p q A n c u) (v : Pl) : PP w (((w'.setCell ⟨w.heap.size + 1, 0, none⟩ (.int .i64 v.x)).setCell ⟨w.heap.size + 1, 1, none⟩ (.int .i64 v.z)).setCell ⟨w.heap.size + 1, 2, none⟩ (.int .i64 v.s)) p q A n c v :=
  ⟨((h.x.setb (by omega) _).setb (by omega) _).setb (by omega) _, ((h.c.farb (by omega) _).farb (by omega) _).farb (by omega) _, ((h.u.set_ 0 _).set_ 1 _).set_ 2 _, ((h.r.farb (by omega) _).farb (by omega) _).farb (by omega) _⟩
theorem PP.all (h : PP w w' p q A n c u) :
    (w'.cell? ⟨w.heap.size, 0, none⟩ = some (.int .i64 p) ∧ w'.cell? ⟨w.heap.size, 1, none⟩ = some (.int .i64 q) ∧ w'.cell? ⟨w.heap.size, 2, none⟩ = some (.slice A n c)) ∧
    (w'.cell? ⟨w.heap.size + 1, 0, none⟩ = some (.int .i64 u.x) ∧ w'.cell? ⟨w.heap.size + 1, 1, none⟩ = some (.int .i64 u.z) ∧ w'.cell? ⟨w.heap.size + 1, 2, none⟩ = some (.int .i64 u.s)) ∧
    (w'.frozen? ⟨w.heap.size + 1, 0, none⟩ = false ∧ w'.frozen? ⟨w.heap.size + 1, 1, none⟩ = false ∧ w'.frozen? ⟨w.heap.size + 1, 2, none⟩ = false) ∧
    (w'.cell? ⟨w.heap.size + 1 + 1, 0, none⟩ = some (.int .i64 0) ∧ w'.cell? ⟨w.heap.size + 1 + 1, 1, none⟩ = some (.int .i64 0) ∧ w'.cell? ⟨w.heap.size + 1 + 1, 2, none⟩ = some (.int .i64 0)) ∧
    (w'.frozen? ⟨w.heap.size + 1 + 1, 0, none⟩ = false ∧ w'.frozen? ⟨w.heap.size + 1 + 1, 1, none⟩ = false ∧ w'.frozen? ⟨w.heap.size + 1 + 1, 2, none⟩ = false) ∧
    w.heap.size < w'.heap.size ∧ w.heap.size + 1 < w'.heap.size ∧ w.heap.size + 1 + 1 < w'.heap.size := by
  have h0 := h.c.cell 0; have h1 := h.c.cell 1; have h2 := h.c.cell 2
  have g0 := h.u.cell 0; have g1 := h.u.cell 1; have g2 := h.u.cell 2
  have r0 := h.r.cell 0; have r1 := h.r.cell 1; have r2 := h.r.cell 2
  simp at h0 h1 h2 g0 g1 g2 r0 r1 r2
  exact ⟨⟨h0, h1, h2⟩, ⟨g0, g1, g2⟩, ⟨h.u.frozen 0, h.u.frozen 1, h.u.frozen 2⟩, ⟨r0, r1, r2⟩, ⟨h.r.frozen 0, h.r.frozen 1, h.r.frozen 2⟩, h.c.lt, h.u.lt, h.r.lt⟩
end

set_option maxRecDepth 100000 in
set_option maxHeartbeats 2000000 in
theorem implPushPauli_calls (A : Option Addr) (n c : Nat) (p q : Int) (gs : List Gt) (u : Pl) (w : World) (hn : n = gs.length) (hn1 : n ≤ 1048576) (h : Gates w A c gs) :
    Gives Try.prog 12 #[.agg #[.int .i64 p, .int .i64 q, .slice A n c], .agg #[.int .i64 u.x, .int .i64 u.z, .int .i64 u.s]] w
      (.tuple #[.agg #[.int .i64 (pushR p q gs u).x, .int .i64 (pushR p q gs u).z, .int .i64 (pushR p q gs u).s], .bool (pushOk p q gs u)]) := by
  subst hn
  have HT := hide h
  obtain ⟨hl, hc, hr⟩ := h
  unfold Gives
  go_enter Try.func12, Try.ntmps12
  go_wp2_with fail
  have x0 : Ext w (((w.alloc (Obj.cells #[.int .i64 p, .int .i64 q, .slice A gs.length c] 33)).alloc (Obj.cells #[.int .i64 u.x, .int .i64 u.z, .int .i64 u.s] 28)).alloc (Obj.cells #[.int .i64 0, .int .i64 0, .int .i64 0] 28)) := (((Ext.refl _).alloc _).alloc _).alloc _
  have p0 : PP w (((w.alloc (Obj.cells #[.int .i64 p, .int .i64 q, .slice A gs.length c] 33)).alloc (Obj.cells #[.int .i64 u.x, .int .i64 u.z, .int .i64 u.s] 28)).alloc (Obj.cells #[.int .i64 0, .int .i64 0, .int .i64 0] 28)) p q A gs.length c u :=
    ⟨x0, ((Blk.new w _ _).alloc _).alloc _, by simpa using (Blk.new (w.alloc _) _ _).alloc _, by simpa using Blk.new ((w.alloc _).alloc _) _ _⟩
  refine (implIsClifford_calls _ _ _ p q gs _ rfl (HT.out.ext x0)).use fun w1 x1 => ?_
  have p1 := p0.ext x1
  clear p0 x0 x1
  obtain ⟨⟨c0, c1, c2⟩, ⟨u0, u1, u2⟩, ⟨f0, f1, f2⟩, ⟨r0, r1, r2⟩, ⟨q0, q1, q2⟩, l0, l1, l2⟩ := p1.all
  replace p1 := hide p1
  by_cases hcl : CliffOk p q gs
  · have C1 := cliffB_true hcl
    replace hcl := hide hcl
    rw [C1]
    go_wp2_with fail
    refine (implPauliOk_calls q u _).use fun w2 x2 => ?_
    have p2 := p1.out.ext x2
    clear c0 c1 c2 u0 u1 u2 f0 f1 f2 r0 r1 r2 q0 q1 q2 l0 l1 l2 x2
    obtain ⟨⟨c0, c1, c2⟩, ⟨u0, u1, u2⟩, ⟨f0, f1, f2⟩, ⟨r0, r1, r2⟩, ⟨q0, q1, q2⟩, l0, l1, l2⟩ := p2.all
    replace p2 := hide p2
    by_cases hpl : PauliP q u
    · have C2 := pauliB_true hpl
      have e1 : pushOk p q gs u = true := by simp [pushOk, C1, C2]
      have e2 : pushR p q gs u = pushL gs u := if_pos e1
      rw [C2]
      replace hpl := hide hpl
      replace e1 := hide e1
      replace e2 := hide e2
      clear C1 C2
      go_wp2_with fail
      clear c0 c1 c2 u0 u1 u2 f0 f1 f2 r0 r1 r2 q0 q1 q2 l0 l1 l2
      go_loopw [22] (fun i wr => ∃ k : Nat, k ≤ gs.length ∧ i = .int .i64 k ∧ PP w wr p q A gs.length c (pushL (gs.take k) u)) (fun i _ => gs.length - (intOf i).toNat)
      case atStart => exact ⟨0, by omega, rfl, p2.out⟩
      case round =>
        obtain ⟨k, hk, rfl, p3⟩ := hrel
        obtain ⟨⟨c0, c1, c2⟩, ⟨u0, u1, u2⟩, ⟨f0, f1, f2⟩, ⟨r0, r1, r2⟩, ⟨q0, q1, q2⟩, l0, l1, l2⟩ := p3.all
        by_cases hlt : k < gs.length
        · obtain ⟨b, o, rfl, hb, hcc⟩ := hr k hlt
          obtain ⟨h1, h2, h3⟩ := hcc k hlt
          have hck1 := p3.x.cell h1
          have hck2 := p3.x.cell h2
          have hck3 := p3.x.cell h3
          have hbr : b < wr.heap.size := Nat.lt_of_lt_of_le hb p3.x.size
          have K := cliffK_of hcl.out (List.getElem_mem hlt)
          replace p3 := hide p3
          clear hr hcc h1 h2 h3
          obtain ⟨⟨kk, a, bb⟩, hg⟩ : ∃ g, g = gs[k] := ⟨_, rfl⟩
          rw [← hg] at hck1 hck2 hck3 K
          dsimp only at hck1 hck2 hck3
          replace hg := hide hg
          replace K := hide K
          go_wp2_with fail
          refine (implPush_calls ⟨kk, a, bb⟩ (pushL (gs.take k) u) _ K.out).use fun w4 x4 => ?_
          have p4 := (p3.out.alloc _).ext x4
          rw [hg.out, ← pushL_succ hlt]
          clear c0 c1 c2 u0 u1 u2 f0 f1 f2 r0 r1 r2 q0 q1 q2 l0 l1 l2 x4 hck1 hck2 hck3
          obtain ⟨⟨c0, c1, c2⟩, ⟨u0, u1, u2⟩, ⟨f0, f1, f2⟩, ⟨r0, r1, r2⟩, ⟨q0, q1, q2⟩, l0, l1, l2⟩ := p4.all
          replace p4 := hide p4
          go_wp2_with fail
          go_roundw
          case rel =>
            exact ⟨k + 1, by omega, by go_num, p4.out.set_ _⟩
          case measure => simp [intOf]; omega
        · replace p3 := hide p3
          have e : gs.take k = gs := List.take_of_length_le (by omega)
          clear hr
          rw [e] at p3 u0 u1 u2
          clear e
          go_wp2_with fail
          refine bodyPost_ret (v := .tuple #[.agg #[.int .i64 (pushL gs u).x, .int .i64 (pushL gs u).z, .int .i64 (pushL gs u).s], .bool true]) ?_ rfl ?_
          · simp only [results, Try.results12]
            go_simp
          · rw [e1.out, e2.out]
            exact ⟨rfl, by repeat (first | (with_reducible exact p3.out.x) | (with_reducible refine Ext.setb ?_ (by omega) _))⟩
    · have C2 := pauliB_false hpl
      have e1 : pushOk p q gs u = false := by simp [pushOk, C2]
      have e2 : pushR p q gs u = ⟨0, 0, 0⟩ := if_neg (by rw [e1]; simp)
      rw [C2]
      replace e1 := hide e1
      replace e2 := hide e2
      clear hr C1 C2 hpl
      go_wp2_with fail
      refine bodyPost_ret (v := .tuple #[.agg #[.int .i64 0, .int .i64 0, .int .i64 0], .bool false]) ?_ rfl ?_
      · simp only [results, Try.results12]
        go_simp
      · rw [e1.out, e2.out]
        exact ⟨rfl, by repeat (first | (with_reducible exact p2.out.x) | (with_reducible refine Ext.setb ?_ (by omega) _))⟩
  · have C1 := cliffB_false hcl
    have e1 : pushOk p q gs u = false := by simp [pushOk, C1]
    have e2 : pushR p q gs u = ⟨0, 0, 0⟩ := if_neg (by rw [e1]; simp)
    rw [C1]
    replace e1 := hide e1
    replace e2 := hide e2
    clear hr C1 hcl
    go_wp2_with fail
    refine bodyPost_ret (v := .tuple #[.agg #[.int .i64 0, .int .i64 0, .int .i64 0], .bool false]) ?_ rfl ?_
    · simp only [results, Try.results12]
      go_simp
    · rw [e1.out, e2.out]
      exact ⟨rfl, by repeat (first | (with_reducible exact p1.out.x) | (with_reducible refine Ext.setb ?_ (by omega) _))⟩

set_option maxRecDepth 100000 in
set_option maxHeartbeats 2000000 in
theorem specPushPauli_calls (A : Option Addr) (n c : Nat) (p q : Int) (gs : List Gt) (u : Pl) (w : World) (hn : n = gs.length) (hn1 : n ≤ 1048576) (h : Gates w A c gs) :
    Gives Try.prog 9 #[.agg #[.int .i64 p, .int .i64 q, .slice A n c], .agg #[.int .i64 u.x, .int .i64 u.z, .int .i64 u.s]] w
      (.tuple #[.agg #[.int .i64 (pushR p q gs u).x, .int .i64 (pushR p q gs u).z, .int .i64 (pushR p q gs u).s], .bool (pushOk p q gs u)]) := by
  subst hn
  have HT := hide h
  obtain ⟨hl, hc, hr⟩ := h
  unfold Gives
  go_enter Try.func9, Try.ntmps9
  go_wp2_with fail
  have x0 : Ext w (((w.alloc (Obj.cells #[.int .i64 p, .int .i64 q, .slice A gs.length c] 33)).alloc (Obj.cells #[.int .i64 u.x, .int .i64 u.z, .int .i64 u.s] 28)).alloc (Obj.cells #[.int .i64 0, .int .i64 0, .int .i64 0] 28)) := (((Ext.refl _).alloc _).alloc _).alloc _
  have p0 : PP w (((w.alloc (Obj.cells #[.int .i64 p, .int .i64 q, .slice A gs.length c] 33)).alloc (Obj.cells #[.int .i64 u.x, .int .i64 u.z, .int .i64 u.s] 28)).alloc (Obj.cells #[.int .i64 0, .int .i64 0, .int .i64 0] 28)) p q A gs.length c u :=
    ⟨x0, ((Blk.new w _ _).alloc _).alloc _, by simpa using (Blk.new (w.alloc _) _ _).alloc _, by simpa using Blk.new ((w.alloc _).alloc _) _ _⟩
  refine (specIsClifford_calls _ _ _ p q gs _ rfl (by omega) (HT.out.ext x0)).use fun w1 x1 => ?_
  have p1 := p0.ext x1
  clear p0 x0 x1
  obtain ⟨⟨c0, c1, c2⟩, ⟨u0, u1, u2⟩, ⟨f0, f1, f2⟩, ⟨r0, r1, r2⟩, ⟨q0, q1, q2⟩, l0, l1, l2⟩ := p1.all
  replace p1 := hide p1
  by_cases hcl : CliffOk p q gs
  · have C1 := cliffB_true hcl
    replace hcl := hide hcl
    rw [C1]
    go_wp2_with fail
    refine (specPauliOk_calls q u _).use fun w2 x2 => ?_
    have p2 := p1.out.ext x2
    clear c0 c1 c2 u0 u1 u2 f0 f1 f2 r0 r1 r2 q0 q1 q2 l0 l1 l2 x2
    obtain ⟨⟨c0, c1, c2⟩, ⟨u0, u1, u2⟩, ⟨f0, f1, f2⟩, ⟨r0, r1, r2⟩, ⟨q0, q1, q2⟩, l0, l1, l2⟩ := p2.all
    replace p2 := hide p2
    by_cases hpl : PauliP q u
    · have C2 := pauliB_true hpl
      have e1 : pushOk p q gs u = true := by simp [pushOk, C1, C2]
      have e2 : pushR p q gs u = pushL gs u := if_pos e1
      rw [C2]
      replace hpl := hide hpl
      replace e1 := hide e1
      replace e2 := hide e2
      clear C1 C2
      go_wp2_with fail
      clear c0 c1 c2 u0 u1 u2 f0 f1 f2 r0 r1 r2 q0 q1 q2 l0 l1 l2
      go_loopw [22] (fun i wr => ∃ k : Nat, k ≤ gs.length ∧ i = .int .i64 k ∧ PP w wr p q A gs.length c (pushL (gs.take k) u)) (fun i _ => gs.length - (intOf i).toNat)
      case atStart => exact ⟨0, by omega, rfl, p2.out⟩
      case round =>
        obtain ⟨k, hk, rfl, p3⟩ := hrel
        obtain ⟨⟨c0, c1, c2⟩, ⟨u0, u1, u2⟩, ⟨f0, f1, f2⟩, ⟨r0, r1, r2⟩, ⟨q0, q1, q2⟩, l0, l1, l2⟩ := p3.all
        by_cases hlt : k < gs.length
        · obtain ⟨b, o, rfl, hb, hcc⟩ := hr k hlt
          obtain ⟨h1, h2, h3⟩ := hcc k hlt
          have hck1 := p3.x.cell h1
          have hck2 := p3.x.cell h2
          have hck3 := p3.x.cell h3
          have hbr : b < wr.heap.size := Nat.lt_of_lt_of_le hb p3.x.size
          have K := cliffK_of hcl.out (List.getElem_mem hlt)
          replace p3 := hide p3
          clear hr hcc h1 h2 h3
          obtain ⟨⟨kk, a, bb⟩, hg⟩ : ∃ g, g = gs[k] := ⟨_, rfl⟩
          rw [← hg] at hck1 hck2 hck3 K
          dsimp only at hck1 hck2 hck3
          replace hg := hide hg
          replace K := hide K
          go_wp2_with fail
          refine (specPush_calls ⟨kk, a, bb⟩ (pushL (gs.take k) u) _ K.out).use fun w4 x4 => ?_
          have p4 := (p3.out.alloc _).ext x4
          rw [hg.out, ← pushL_succ hlt]
          clear c0 c1 c2 u0 u1 u2 f0 f1 f2 r0 r1 r2 q0 q1 q2 l0 l1 l2 x4 hck1 hck2 hck3
          obtain ⟨⟨c0, c1, c2⟩, ⟨u0, u1, u2⟩, ⟨f0, f1, f2⟩, ⟨r0, r1, r2⟩, ⟨q0, q1, q2⟩, l0, l1, l2⟩ := p4.all
          replace p4 := hide p4
          go_wp2_with fail
          go_roundw
          case rel =>
            exact ⟨k + 1, by omega, by go_num, p4.out.set_ _⟩
          case measure => simp [intOf]; omega
        · replace p3 := hide p3
          have e : gs.take k = gs := List.take_of_length_le (by omega)
          clear hr
          rw [e] at p3 u0 u1 u2
          clear e
          go_wp2_with fail
          refine bodyPost_ret (v := .tuple #[.agg #[.int .i64 (pushL gs u).x, .int .i64 (pushL gs u).z, .int .i64 (pushL gs u).s], .bool true]) ?_ rfl ?_
          · simp only [results, Try.results9]
            go_simp
          · rw [e1.out, e2.out]
            exact ⟨rfl, by repeat (first | (with_reducible exact p3.out.x) | (with_reducible refine Ext.setb ?_ (by omega) _))⟩
    · have C2 := pauliB_false hpl
      have e1 : pushOk p q gs u = false := by simp [pushOk, C2]
      have e2 : pushR p q gs u = ⟨0, 0, 0⟩ := if_neg (by rw [e1]; simp)
      rw [C2]
      replace e1 := hide e1
      replace e2 := hide e2
      clear hr C1 C2 hpl
      go_wp2_with fail
      refine bodyPost_ret (v := .tuple #[.agg #[.int .i64 0, .int .i64 0, .int .i64 0], .bool false]) ?_ rfl ?_
      · simp only [results, Try.results9]
        go_simp
      · rw [e1.out, e2.out]
        exact ⟨rfl, by repeat (first | (with_reducible exact p2.out.x) | (with_reducible refine Ext.setb ?_ (by omega) _))⟩
  · have C1 := cliffB_false hcl
    have e1 : pushOk p q gs u = false := by simp [pushOk, C1]
    have e2 : pushR p q gs u = ⟨0, 0, 0⟩ := if_neg (by rw [e1]; simp)
    rw [C1]
    replace e1 := hide e1
    replace e2 := hide e2
    clear hr C1 hcl
    go_wp2_with fail
    refine bodyPost_ret (v := .tuple #[.agg #[.int .i64 0, .int .i64 0, .int .i64 0], .bool false]) ?_ rfl ?_
    · simp only [results, Try.results9]
      go_simp
    · rw [e1.out, e2.out]
      exact ⟨rfl, by repeat (first | (with_reducible exact p1.out.x) | (with_reducible refine Ext.setb ?_ (by omega) _))⟩

end Go.Proofs.Ytgpnahjnhdchaaa
