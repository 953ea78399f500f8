/- IsClifford and PauliOk of the program and of the reference: one value for both. -/
import Derived.Test.YtgpnahjnhdchaaaCircS
namespace Go.Proofs.Ytgpnahjnhdchaaa
open Go.RowKit

set_option maxHeartbeats 2000000 in
theorem implIsClifford_calls (A : Option Addr) (n c : Nat) (p q : Int) (gs : List Gt) (w : World) (hn : n = gs.length) (h : Gates w A c gs) :
    Gives Try.prog 25 #[.agg #[.int .i64 p, .int .i64 q, .slice A n c]] w (.bool (cliffB p q gs)) := by
  subst hn
  have HT := hide h
  obtain ⟨hl, hc, hr⟩ := h
  unfold Gives
  by_cases t1 : CircOk p q gs
  · have R := circB_true t1
    have t4 := t1.2.2.2.1
    replace t1 := hide t1
    go_enter Try.func25, Try.ntmps25
    go_wp2_with (go_at_call 53; refine (implCircuitOk_calls _ _ _ _ _ gs _ rfl (HT.out.ext ((Ext.refl _).alloc _))).use fun w1 x1 => ?_; have s1 : w.heap.size < w1.heap.size := (by have := x1.size; simp at this; omega); obtain ⟨r1, f1⟩ := x1.rules; replace x1 := hide x1)
    have X1 := hide (((Ext.refl w).alloc _).trans x1.out)
    clear r1 f1 x1
    go_loopw [11] (fun i wr => ∃ k : Nat, k ≤ gs.length ∧ i = .int .i64 k ∧ Ext w wr ∧ ∀ j (hj : j < gs.length), j < k → gs[j].k ≠ 4 ∧ gs[j].k ≠ 7) (fun i _ => gs.length - (intOf i).toNat)
    case atStart => exact ⟨0, by omega, rfl, X1.out, fun j _ hj => absurd hj (by omega)⟩
    case round =>
      obtain ⟨k, hk, rfl, hx, hok⟩ := hrel
      have X := hide hx
      have HK := hide hok
      clear hok
      by_cases hlt : k < gs.length
      · obtain ⟨b, o, rfl, hb, hcc⟩ := hr k hlt
        obtain ⟨h1, h2, h3⟩ := hcc k hlt
        have hck1 := hx.cell h1
        have hck2 := hx.cell h2
        have hck3 := hx.cell h3
        have hbr : b < wr.heap.size := Nat.lt_of_lt_of_le hb hx.size
        clear hr hcc hx h1 h2 h3
        obtain ⟨⟨kk, a, bb⟩, hg⟩ : ∃ g, g = gs[k] := ⟨_, rfl⟩
        rw [← hg] at hck1 hck2 hck3
        dsimp only at hck1 hck2 hck3
        replace hg := hide hg
        by_cases g1 : kk = 4
        · have H := hide (cliffB_false (p := p) (q := q) (gs := gs) fun hh => by have := (hh.2 _ (List.getElem_mem hlt)).1; rw [← hg.out] at this; exact this g1)
          subst g1
          go_wp2_with fail
          go_ret
          exact ⟨ret_bool H.out.symm, X.out.alloc _⟩
        by_cases g2 : kk = 7
        · have H := hide (cliffB_false (p := p) (q := q) (gs := gs) fun hh => by have := (hh.2 _ (List.getElem_mem hlt)).2; rw [← hg.out] at this; exact this g2)
          subst g2
          go_wp2_with fail
          go_ret
          exact ⟨ret_bool H.out.symm, X.out.alloc _⟩
        have e1 : (kk == 4) = false := by simpa using g1
        have e2 : (kk == 7) = false := by simpa using g2
        go_wp2_with fail
        go_roundw
        case rel =>
          refine ⟨k + 1, by omega, by go_num, X.out.alloc _, fun j hj hlt' => ?_⟩
          by_cases e : j = k
          · subst e; rw [← hg.out]; exact ⟨g1, g2⟩
          · exact HK.out j hj (by omega)
        case measure => simp [intOf]; omega
      · have H := hide (cliffB_true (p := p) (q := q) (gs := gs) ⟨t1.out, fun g hg => by
          obtain ⟨j, hj, rfl⟩ := List.getElem_of_mem hg
          exact HK.out j hj (by omega)⟩)
        clear hr hx
        go_wp2_with fail
        go_ret
        exact ⟨ret_bool H.out.symm, X.out⟩
  · have R := circB_false t1
    have H := hide (cliffB_false (p := p) (q := q) (gs := gs) fun hh => t1 hh.1)
    clear t1 hr
    go_enter Try.func25, Try.ntmps25
    go_wp2_with (go_at_call 53; refine (implCircuitOk_calls _ _ _ _ _ gs _ rfl (HT.out.ext ((Ext.refl _).alloc _))).use fun w1 x1 => ?_; replace x1 := hide x1)
    go_ret
    exact ⟨ret_bool H.out.symm, ((Ext.refl w).alloc _).trans x1.out⟩

set_option maxHeartbeats 2000000 in
theorem specIsClifford_calls (A : Option Addr) (n c : Nat) (p q : Int) (gs : List Gt) (w : World) (hn : n = gs.length) (hn1 : n ≤ 1048576) (h : Gates w A c gs) :
    Gives Try.prog 34 #[.agg #[.int .i64 p, .int .i64 q, .slice A n c]] w (.bool (cliffB p q gs)) := by
  subst hn
  have HT := hide h
  obtain ⟨hl, hc, hr⟩ := h
  unfold Gives
  go_enter Try.func34, Try.ntmps34
  go_wp2_with fail
  go_loopw [8] (fun i wr => ∃ k : Nat, k ≤ gs.length ∧ i = .int .i64 k ∧ Ext (w.alloc (Obj.cells #[.int .i64 p, .int .i64 q, .slice A gs.length c] 33)) wr ∧ ∀ j (hj : j < gs.length), j < k → gs[j].k ≠ 4 ∧ gs[j].k ≠ 7) (fun i _ => gs.length - (intOf i).toNat)
  case atStart => exact ⟨0, by omega, rfl, Ext.refl _, fun j _ hj => absurd hj (by omega)⟩
  case round =>
    obtain ⟨k, hk, rfl, hx0, hok⟩ := hrel
    have hx := ((Ext.refl w).alloc _).trans hx0
    have B := (Blk.new w 33 #[.int .i64 p, .int .i64 q, .slice A gs.length c]).ext hx0
    have b1 := B.cell 1
    have b0 := B.cell 0
    have b2 := B.cell 2
    simp at b0 b1 b2
    have hsz : w.heap.size < wr.heap.size := B.lt
    clear B
    have X := hide hx
    have X0 := hide hx0
    have HK := hide hok
    clear hok hx0
    by_cases hlt : k < gs.length
    · obtain ⟨b, o, rfl, hb, hcc⟩ := hr k hlt
      obtain ⟨h1, h2, h3⟩ := hcc k hlt
      have hck1 := hx.cell h1
      have hck2 := hx.cell h2
      have hck3 := hx.cell h3
      have hbr : b < wr.heap.size := Nat.lt_of_lt_of_le hb hx.size
      clear hr hcc hx h1 h2 h3
      obtain ⟨⟨kk, a, bb⟩, hg⟩ : ∃ g, g = gs[k] := ⟨_, rfl⟩
      rw [← hg] at hck1 hck2 hck3
      dsimp only at hck1 hck2 hck3
      replace hg := hide hg
      by_cases g1 : kk = 4
      · have H := hide (cliffB_false (p := p) (q := q) (gs := gs) fun hh => by have := (hh.2 _ (List.getElem_mem hlt)).1; rw [← hg.out] at this; exact this g1)
        subst g1
        go_wp2_with fail
        go_ret
        exact ⟨ret_bool H.out.symm, X.out.alloc _⟩
      by_cases g2 : kk = 7
      · have H := hide (cliffB_false (p := p) (q := q) (gs := gs) fun hh => by have := (hh.2 _ (List.getElem_mem hlt)).2; rw [← hg.out] at this; exact this g2)
        subst g2
        go_wp2_with fail
        go_ret
        exact ⟨ret_bool H.out.symm, X.out.alloc _⟩
      have e1 : (kk == 4) = false := by simpa using g1
      have e2 : (kk == 7) = false := by simpa using g2
      go_wp2_with fail
      go_roundw
      case rel =>
        refine ⟨k + 1, by omega, by go_num, X0.out.alloc _, fun j hj hlt' => ?_⟩
        by_cases e : j = k
        · subst e; rw [← hg.out]; exact ⟨g1, g2⟩
        · exact HK.out j hj (by omega)
      case measure => simp [intOf]; omega
    · have H : Hid (circB p q gs = cliffB p q gs) := hide (by
        have hall : ∀ g ∈ gs, g.k ≠ 4 ∧ g.k ≠ 7 := fun g hg => by
          obtain ⟨j, hj, rfl⟩ := List.getElem_of_mem hg
          exact HK.out j hj (by omega)
        by_cases hcc : CircOk p q gs
        · rw [circB_true hcc, cliffB_true ⟨hcc, hall⟩]
        · rw [circB_false hcc, cliffB_false fun hh => hcc hh.1])
      clear hr hx
      go_wp2_with (go_at_call 70; refine (specCircuitOk_calls _ _ _ _ _ gs _ rfl (HT.out.ext X.out)).use fun w1 x1 => ?_; replace x1 := hide x1)
      go_ret
      exact ⟨ret_bool H.out, X.out.trans x1.out⟩

/-- A Pauli operator on q qubits. -/
def PauliP (q : Int) (u : Pl) : Prop := 1 ≤ q ∧ q ≤ 5 ∧ 0 ≤ u.x ∧ u.x ≤ 2 ^ q.toNat - 1 ∧ 0 ≤ u.z ∧ u.z ≤ 2 ^ q.toNat - 1 ∧ 0 ≤ u.s ∧ u.s ≤ 1
noncomputable def pauliB (q : Int) (u : Pl) : Bool := @decide (PauliP q u) (Classical.propDecidable _)
theorem pauliB_true {q : Int} {u : Pl} (h : PauliP q u) : pauliB q u = true := by simp [pauliB, h]
theorem pauliB_false {q : Int} {u : Pl} (h : ¬ PauliP q u) : pauliB q u = false := by simp [pauliB, h]
theorem pauliB_iff {q : Int} {u : Pl} : pauliB q u = true ↔ PauliP q u := by simp [pauliB]
theorem two_pow {q : Int} (h1 : 1 ≤ q) (h2 : q ≤ 5) : 2 ≤ (2 : Int) ^ q.toNat ∧ (2 : Int) ^ q.toNat ≤ 32 := by
  have e : q = 1 ∨ q = 2 ∨ q = 3 ∨ q = 4 ∨ q = 5 := by omega
  rcases e with rfl | rfl | rfl | rfl | rfl <;> decide

set_option maxHeartbeats 2000000 in
theorem implPauliOk_calls (q : Int) (u : Pl) (w : World) :
    Gives Try.prog 32 #[.int .i64 q, .agg #[.int .i64 u.x, .int .i64 u.z, .int .i64 u.s]] w (.bool (pauliB q u)) := by
  unfold Gives
  by_cases t1 : 1 ≤ q ∧ q ≤ 5
  · obtain ⟨t1, t2⟩ := t1
    have hp := two_pow t1 t2
    have e1 : wrap64 (1 * 2 ^ q.toNat) = 2 ^ q.toNat := by rw [Int.one_mul]; exact IntWalk.wrap64_in _ ⟨by omega, by omega⟩
    have e2 : wrap64 (2 ^ q.toNat) = 2 ^ q.toNat := IntWalk.wrap64_in _ ⟨by omega, by omega⟩
    go_enter Try.func32, Try.ntmps32
    go_wp2_with fail
    all_goals (go_ret; refine ⟨ret_bool ?_, (Ext.refl _).alloc _⟩)
    all_goals (clear e1 e2; rw [Bool.eq_iff_iff]; rw [pauliB_iff]; simp [PauliP]; generalize (2 : Int) ^ q.toNat = P at *; omega)
  · have H := hide (pauliB_false (q := q) (u := u) fun h => t1 ⟨h.1, h.2.1⟩)
    go_enter Try.func32, Try.ntmps32
    go_wp2_with fail
    all_goals (first | (exfalso; omega) | (go_ret; exact ⟨ret_bool H.out.symm, (Ext.refl _).alloc _⟩))

theorem l01In_quiet (n lo hi : Int) (w : World) (m : Nat) : Calls Try.prog 40 #[.int .i64 n, .int .i64 lo, .int .i64 hi] (w.drewN m) fun e w'' => e = .returned (.bool (in01 n lo hi)) ∧ ∃ m', w'' = w.drewN m' :=
  Calls.quiet_of_same ((l01In_calls n lo hi _).mono fun _ _ ⟨h1, h2⟩ => ⟨h1, h2.symm⟩)

set_option maxHeartbeats 2000000 in
theorem specPauliOk_calls (q : Int) (u : Pl) (w : World) :
    Gives Try.prog 35 #[.int .i64 q, .agg #[.int .i64 u.x, .int .i64 u.z, .int .i64 u.s]] w (.bool (pauliB q u)) := by
  unfold Gives
  by_cases t1 : 1 ≤ q ∧ q ≤ 5
  · have I1 := in01_true t1.1 t1.2
    obtain ⟨t1, t2⟩ := t1
    have hp := two_pow t1 t2
    have e1 : wrap64 (1 * 2 ^ q.toNat) = 2 ^ q.toNat := by rw [Int.one_mul]; exact IntWalk.wrap64_in _ ⟨by omega, by omega⟩
    have e2 : wrap64 (2 ^ q.toNat) = 2 ^ q.toNat := IntWalk.wrap64_in _ ⟨by omega, by omega⟩
    have e3 : IntKind.i64.wrap (2 ^ q.toNat) = 2 ^ q.toNat := IntWalk.i64_in _ ⟨by omega, by omega⟩
    have e4 : IntKind.i64.wrap (2 ^ q.toNat - 1) = 2 ^ q.toNat - 1 := IntWalk.i64_in _ ⟨by omega, by omega⟩
    have H : Hid (pauliB q u = (in01 u.x 0 (2 ^ q.toNat - 1) && in01 u.z 0 (2 ^ q.toNat - 1) && in01 u.s 0 1)) := hide (by
      rw [Bool.eq_iff_iff, pauliB_iff]; simp only [Bool.and_eq_true, in01_iff, PauliP]; omega)
    cases I2 : in01 u.x 0 (2 ^ q.toNat - 1)
    · go_enter Try.func35, Try.ntmps35
      go_wp2_with fail
      go_quiet ((go_at_call 40; exact l01In_quiet _ _ _ _ _))
      go_wp2_with fail
      go_ret
      exact ⟨ret_bool (by rw [H.out, I2]; rfl), ((Ext.refl _).alloc _).drewN _⟩
    · cases I3 : in01 u.z 0 (2 ^ q.toNat - 1)
      · go_enter Try.func35, Try.ntmps35
        go_wp2_with fail
        go_quiet ((go_at_call 40; exact l01In_quiet _ _ _ _ _))
        go_wp2_with fail
        go_ret
        exact ⟨ret_bool (by rw [H.out, I2, I3]; rfl), ((Ext.refl _).alloc _).drewN _⟩
      · go_enter Try.func35, Try.ntmps35
        go_wp2_with fail
        go_quiet ((go_at_call 40; exact l01In_quiet _ _ _ _ _))
        go_wp2_with fail
        go_ret
        exact ⟨ret_bool (by rw [H.out, I2, I3]; simp), ((Ext.refl _).alloc _).drewN _⟩
  · have H := hide (pauliB_false (q := q) (u := u) fun h => t1 ⟨h.1, h.2.1⟩)
    have I1 := in01_false t1
    go_enter Try.func35, Try.ntmps35
    go_wp2_with fail
    go_quiet ((go_at_call 40; exact l01In_quiet _ _ _ _ _))
    go_wp2_with fail
    go_ret
    exact ⟨ret_bool H.out.symm, ((Ext.refl _).alloc _).drewN _⟩

end Go.Proofs.Ytgpnahjnhdchaaa
