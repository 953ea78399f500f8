/- Circuits and Clifford circuits: the checks of the program and of the reference, one value for both. -/
import Derived.Test.YtgpnahjnhdchaaaPush
import Derived.Test.YtgpnahjnhdchaaaPrime
namespace Go.Proofs.Ytgpnahjnhdchaaa
open Go.RowKit

def RingP (p : Int) : Prop := PrimeP p ∧ p ≠ 2
noncomputable def ringB (p : Int) : Bool := @decide (RingP p) (Classical.propDecidable _)
theorem ringB_true {n : Int} (h : RingP n) : ringB n = true := by simp [ringB, h]
theorem ringB_false {n : Int} (h : ¬ RingP n) : ringB n = false := by simp [ringB, h]

def GateOk (q : Int) (g : Gt) : Prop := 1 ≤ g.k ∧ g.k ≤ 9 ∧ 0 ≤ g.a ∧ g.a < q ∧ (g.k < 8 → g.b = 0) ∧ (8 ≤ g.k → 0 ≤ g.b ∧ g.b < q ∧ g.b ≠ g.a)
def CircOk (p q : Int) (gs : List Gt) : Prop := RingP p ∧ 1 ≤ q ∧ q ≤ 5 ∧ gs.length ≤ 24 ∧ ∀ g ∈ gs, GateOk q g
noncomputable def circB (p q : Int) (gs : List Gt) : Bool := @decide (CircOk p q gs) (Classical.propDecidable _)
theorem circB_true {p q : Int} {gs : List Gt} (h : CircOk p q gs) : circB p q gs = true := by simp [circB, h]
theorem circB_false {p q : Int} {gs : List Gt} (h : ¬ CircOk p q gs) : circB p q gs = false := by simp [circB, h]
def CliffOk (p q : Int) (gs : List Gt) : Prop := CircOk p q gs ∧ ∀ g ∈ gs, g.k ≠ 4 ∧ g.k ≠ 7
noncomputable def cliffB (p q : Int) (gs : List Gt) : Bool := @decide (CliffOk p q gs) (Classical.propDecidable _)
theorem cliffB_true {p q : Int} {gs : List Gt} (h : CliffOk p q gs) : cliffB p q gs = true := by simp [cliffB, h]
theorem cliffB_false {p q : Int} {gs : List Gt} (h : ¬ CliffOk p q gs) : cliffB p q gs = false := by simp [cliffB, h]

theorem omegaRing_calls (p : Int) (w : World) : Gives Try.prog 45 #[.int .i64 p] w (.agg #[.int .i64 8, .int .i64 p, .int .i64 0]) := by
  unfold Gives
  go_enter Try.func45, Try.ntmps45
  go_wp2
  refine bodyPost_ret (v := .agg #[.int .i64 8, .int .i64 p, .int .i64 0]) (by simp only [results, Try.results45]; go_simp) rfl ?_
  exact ⟨rfl, (Ext.refl _).alloc _⟩

theorem implRingOk8_calls (p : Int) (w : World) : Gives Try.prog 46 #[.agg #[.int .i64 8, .int .i64 p, .int .i64 0]] w (.bool (ringB p)) := by
  unfold Gives
  by_cases h1 : PrimeP p
  · have P1 := primeB_true h1
    by_cases h2 : p = 2
    · have H := hide (ringB_false (n := p) fun h => h.2 h2)
      replace h1 := hide h1
      subst h2
      go_enter Try.func46, Try.ntmps46
      go_wp2_with (go_at_call 76; refine (implIsPrime_calls _ _).use ?_)
      go_ret
      exact ⟨ret_bool H.out.symm, (Ext.refl _).alloc _⟩
    · have H := hide (ringB_true (n := p) ⟨h1, h2⟩)
      have h3 : (p != 2) = true := by simpa using h2
      replace h1 := hide h1
      go_enter Try.func46, Try.ntmps46
      go_wp2_with (go_at_call 76; refine (implIsPrime_calls _ _).use ?_)
      go_ret
      exact ⟨ret_bool H.out.symm, (Ext.refl _).alloc _⟩
  · have P1 := primeB_false h1
    have H := hide (ringB_false (n := p) fun h => h1 h.1)
    replace h1 := hide h1
    go_enter Try.func46, Try.ntmps46
    go_wp2_with (go_at_call 76; refine (implIsPrime_calls _ _).use ?_)
    go_ret
    exact ⟨ret_bool H.out.symm, (Ext.refl _).alloc _⟩

set_option maxHeartbeats 2000000 in
theorem implCircuitOk_calls (A : Option Addr) (n c : Nat) (p q : Int) (gs : List Gt) (w : World) (hn : n = gs.length) (h : Gates w A c gs) :
    Gives Try.prog 53 #[.agg #[.int .i64 p, .int .i64 q, .slice A n c]] w (.bool (circB p q gs)) := by
  subst hn
  obtain ⟨hl, hc, hr⟩ := h
  unfold Gives
  by_cases t1 : RingP p
  · have R := ringB_true t1
    by_cases t2 : 1 ≤ q ∧ q ≤ 5 ∧ gs.length ≤ 24
    · obtain ⟨t2, t3, t4⟩ := t2
      replace t1 := hide t1
      go_enter Try.func53, Try.ntmps53
      go_wp2_with (first
        | (go_at_call 45; refine (omegaRing_calls _ _).use fun w1 x1 => ?_; have s1 : w.heap.size < w1.heap.size := (by have := x1.size; simp at this; omega); obtain ⟨r1, f1⟩ := x1.rules; replace x1 := hide x1)
        | (go_at_call 46; refine (implRingOk8_calls _ _).use fun w2 x2 => ?_; have s2 : w.heap.size < w2.heap.size := (by have := x2.size; omega); obtain ⟨r2, f2⟩ := x2.rules; replace x2 := hide x2))
      have B2 := hide ((((Blk.new w 33 #[.int .i64 p, .int .i64 q, .slice A gs.length c]).ext x1.out)).ext x2.out)
      have X2 := hide ((((Ext.refl w).alloc _).trans x1.out).trans x2.out)
      clear r1 f1 r2 f2
      go_loopw [29] (fun i wr => ∃ k : Nat, k ≤ gs.length ∧ i = .int .i64 k ∧ Ext w2 wr ∧ ∀ j (hj : j < gs.length), j < k → GateOk q gs[j]) (fun i _ => gs.length - (intOf i).toNat)
      case atStart => exact ⟨0, by omega, rfl, Ext.refl _, fun j _ hj => absurd hj (by omega)⟩
      case round =>
        obtain ⟨k, hk, rfl, hx, hok⟩ := hrel
        have X := hide (X2.out.trans hx)
        have b1 := (B2.out.ext hx).cell 1
        simp at b1
        have hsz : w.heap.size < wr.heap.size := (B2.out.ext hx).lt
        have HX := hide hx
        have HK := hide hok
        clear hok
        by_cases hlt : k < gs.length
        · obtain ⟨b, o, rfl, hb, hcc⟩ := hr k hlt
          obtain ⟨h1, h2, h3⟩ := hcc k hlt
          have hck1 := X.out.cell h1
          have hck2 := X.out.cell h2
          have hck3 := X.out.cell h3
          have hbr : b < wr.heap.size := Nat.lt_of_lt_of_le hb X.out.size
          clear hr hcc hx h1 h2 h3
          obtain ⟨⟨kk, a, bb⟩, hg⟩ : ∃ g, g = gs[k] := ⟨_, rfl⟩
          rw [← hg] at hck1 hck2 hck3
          dsimp only at hck1 hck2 hck3
          replace hg := hide hg
          by_cases hG : GateOk q ⟨kk, a, bb⟩
          · obtain ⟨g1, g2, g3, g4, g5, g6⟩ := id hG
            replace hG := hide hG
            dsimp only at g1 g2 g3 g4 g5 g6
            have t5 : (bb != 0) = true ∨ (bb != 0) = false := by cases (bb != 0) <;> simp
            by_cases h8 : kk < 8
            · have e := g5 h8
              subst e
              clear g5 g6
              go_wp2_with fail
              go_roundw
              case rel =>
                refine ⟨k + 1, by omega, by go_num, HX.out.alloc _, fun j hj hlt' => ?_⟩
                by_cases e : j = k
                · subst e; rw [← hg.out]; exact hG.out
                · exact HK.out j hj (by omega)
              case measure => simp [intOf]; omega
            · obtain ⟨g7, g8, g9⟩ := g6 (by omega)
              have g10 : (bb == a) = false := by simpa using g9
              clear g5 g6
              go_wp2_with fail
              go_roundw
              case rel =>
                refine ⟨k + 1, by omega, by go_num, HX.out.alloc _, fun j hj hlt' => ?_⟩
                by_cases e : j = k
                · subst e; rw [← hg.out]; exact hG.out
                · exact HK.out j hj (by omega)
              case measure => simp [intOf]; omega
          · have H := hide (circB_false (p := p) (q := q) (gs := gs) fun hh => hG (by rw [hg.out]; exact hh.2.2.2.2 _ (List.getElem_mem hlt)))
            by_cases g1 : 1 ≤ kk ∧ kk ≤ 9 ∧ 0 ≤ a ∧ a < q
            · obtain ⟨g1, g2, g3, g4⟩ := g1
              by_cases h8 : kk < 8
              · have h5 : (bb != 0) = true := by
                  cases e : (bb != 0)
                  · exact absurd ⟨g1, g2, g3, g4, fun _ => by simpa using e, fun h => absurd h (by dsimp only; omega)⟩ hG
                  · rfl
                clear hG
                go_wp2_with fail
                all_goals (go_ret; exact ⟨ret_bool H.out.symm, X.out.alloc _⟩)
              · cases h6 : (bb == a)
                · have g7 : ¬ (0 ≤ bb ∧ bb < q) := fun h => hG ⟨g1, g2, g3, g4, fun h => absurd h (by dsimp only; omega), fun _ => ⟨h.1, h.2, by simpa using h6⟩⟩
                  clear hG
                  go_wp2_with fail
                  all_goals (first | (exfalso; omega) | (go_ret; exact ⟨ret_bool H.out.symm, X.out.alloc _⟩))
                · clear hG
                  go_wp2_with fail
                  all_goals (go_ret; exact ⟨ret_bool H.out.symm, X.out.alloc _⟩)
            · clear hG
              go_wp2_with fail
              all_goals (first | (exfalso; omega) | (go_ret; exact ⟨ret_bool H.out.symm, X.out.alloc _⟩))
        · have H := hide (circB_true (p := p) (q := q) (gs := gs) ⟨t1.out, t2, t3, t4, fun g hg => by
            obtain ⟨j, hj, rfl⟩ := List.getElem_of_mem hg
            exact HK.out j hj (by omega)⟩)
          clear hr hx
          go_wp2_with fail
          go_ret
          exact ⟨ret_bool H.out.symm, X.out⟩
    · have H := hide (circB_false (p := p) (q := q) (gs := gs) fun hh => t2 ⟨hh.2.1, hh.2.2.1, hh.2.2.2.1⟩)
      clear hr
      go_enter Try.func53, Try.ntmps53
      go_wp2_with (first
        | (go_at_call 45; refine (omegaRing_calls _ _).use fun w1 x1 => ?_; have s1 : w.heap.size < w1.heap.size := (by have := x1.size; simp at this; omega); obtain ⟨r1, f1⟩ := x1.rules; replace x1 := hide x1)
        | (go_at_call 46; refine (implRingOk8_calls _ _).use fun w2 x2 => ?_; have s2 : w.heap.size < w2.heap.size := (by have := x2.size; omega); obtain ⟨r2, f2⟩ := x2.rules; replace x2 := hide x2))
      all_goals (first | (exfalso; omega) | (go_ret; exact ⟨ret_bool H.out.symm, (((Ext.refl _).alloc _).trans x1.out).trans x2.out⟩))
  · have R := ringB_false t1
    have H := hide (circB_false (p := p) (q := q) (gs := gs) fun hh => t1 hh.1)
    clear hr t1
    go_enter Try.func53, Try.ntmps53
    go_wp2_with (first
      | (go_at_call 45; refine (omegaRing_calls _ _).use fun w1 x1 => ?_; have s1 : w.heap.size < w1.heap.size := (by have := x1.size; simp at this; omega); obtain ⟨r1, f1⟩ := x1.rules; replace x1 := hide x1)
      | (go_at_call 46; refine (implRingOk8_calls _ _).use fun w2 x2 => ?_; have s2 : w.heap.size < w2.heap.size := (by have := x2.size; omega); obtain ⟨r2, f2⟩ := x2.rules; replace x2 := hide x2))
    go_ret
    exact ⟨ret_bool H.out.symm, (((Ext.refl _).alloc _).trans x1.out).trans x2.out⟩

end Go.Proofs.Ytgpnahjnhdchaaa
