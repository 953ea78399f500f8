/- CircuitOk of the reference. -/
import Derived.Test.YtgpnahjnhdchaaaCirc
namespace Go.Proofs.Ytgpnahjnhdchaaa
open Go.RowKit

set_option maxHeartbeats 2000000 in
theorem specCircuitOk_calls (A : Option Addr) (n c : Nat) (p q : Int) (gs : List Gt) (w : World) (hn : n = gs.length) (h : Gates w A c gs) :
    Gives Try.prog 70 #[.agg #[.int .i64 p, .int .i64 q, .slice A n c]] w (.bool (circB p q gs)) := by
  subst hn
  obtain ⟨hl, hc, hr⟩ := h
  unfold Gives
  by_cases t1 : RingP p
  · have P1 := primeB_true t1.1
    have e2 : (p == 2) = false := by simpa using t1.2
    by_cases t2 : 1 ≤ q ∧ q ≤ 5
    · have I1 := in01_true t2.1 t2.2
      obtain ⟨t2, t3⟩ := t2
      by_cases t4 : gs.length ≤ 24
      · replace t1 := hide t1
        go_enter Try.func70, Try.ntmps70
        go_wp2_with (first
          | (go_at_call 87; refine (specIsPrime_calls _ _).use ?_)
          | (go_at_call 40; refine (l01In_calls _ _ _ _).use ?_))
        clear I1 P1 e2
        go_loopw [29] (fun i wr => ∃ k : Nat, k ≤ gs.length ∧ i = .int .i64 k ∧ Ext (w.alloc (Obj.cells #[.int .i64 p, .int .i64 q, .slice A gs.length c] 33)) wr ∧ ∀ j (hj : j < gs.length), j < k → GateOk q gs[j]) (fun i _ => gs.length - (intOf i).toNat)
        case atStart => exact ⟨0, by omega, rfl, Ext.refl _, fun j _ hj => absurd hj (by omega)⟩
        case round =>
          obtain ⟨k, hk, rfl, hx, hok⟩ := hrel
          have X := hide (((Ext.refl w).alloc _).trans hx)
          have B := (Blk.new w 33 #[.int .i64 p, .int .i64 q, .slice A gs.length c]).ext hx
          have b1 := B.cell 1
          have b0 := B.cell 0
          have b2 := B.cell 2
          simp at b0 b1 b2
          have hsz : w.heap.size < wr.heap.size := B.lt
          clear B
          have HX := hide hx
          have HK := hide hok
          clear hok
          by_cases hlt : k < gs.length
          · obtain ⟨b, o, rfl, hb, hcc⟩ := hr k hlt
            obtain ⟨h1, h2, h3⟩ := hcc k hlt
            have hck1 := X.out.cell h1
            have hck2 := X.out.cell h2
            have hck3 := X.out.cell h3
            have hbr : b < wr.heap.size := Nat.lt_of_lt_of_le hb X.out.size
            clear hr hcc hx h1 h2 h3
            obtain ⟨⟨kk, a, bb⟩, hg⟩ : ∃ g, g = gs[k] := ⟨_, rfl⟩
            rw [← hg] at hck1 hck2 hck3
            dsimp only at hck1 hck2 hck3
            replace hg := hide hg
            by_cases hG : GateOk q ⟨kk, a, bb⟩
            · obtain ⟨g1, g2, g3, g4, g5, g6⟩ := id hG
              replace hG := hide hG
              dsimp only at g1 g2 g3 g4 g5 g6
              have I1 := in01_true g1 g2
              have I2 : in01 a 0 (q - 1) = true := in01_true g3 (by omega)
              by_cases h8 : kk < 8
              · have e := g5 h8
                subst e
                clear g5 g6
                go_wp2_with (go_at_call 40; refine (l01In_calls _ _ _ _).use ?_)
                go_roundw
                case rel =>
                  refine ⟨k + 1, by omega, by go_num, HX.out.alloc _, fun j hj hlt' => ?_⟩
                  by_cases e : j = k
                  · subst e; rw [← hg.out]; exact hG.out
                  · exact HK.out j hj (by omega)
                case measure => simp [intOf]; omega
              · obtain ⟨g7, g8, g9⟩ := g6 (by omega)
                have g10 : (a == bb) = false := by simpa using fun h => g9 h.symm
                have I3 : in01 bb 0 (q - 1) = true := in01_true g7 (by omega)
                clear g5 g6
                go_wp2_with (go_at_call 40; refine (l01In_calls _ _ _ _).use ?_)
                go_roundw
                case rel =>
                  refine ⟨k + 1, by omega, by go_num, HX.out.alloc _, fun j hj hlt' => ?_⟩
                  by_cases e : j = k
                  · subst e; rw [← hg.out]; exact hG.out
                  · exact HK.out j hj (by omega)
                case measure => simp [intOf]; omega
            · have H := hide (circB_false (p := p) (q := q) (gs := gs) fun hh => hG (by rw [hg.out]; exact hh.2.2.2.2 _ (List.getElem_mem hlt)))
              by_cases g1 : 1 ≤ kk ∧ kk ≤ 9
              · have I1 := in01_true g1.1 g1.2
                by_cases g3 : 0 ≤ a ∧ a < q
                · have I2 : in01 a 0 (q - 1) = true := in01_true g3.1 (by omega)
                  obtain ⟨g1, g2⟩ := g1
                  obtain ⟨g3, g4⟩ := g3
                  by_cases h8 : kk < 8
                  · have h5 : (bb != 0) = true := by
                      cases e : (bb != 0)
                      · exact absurd ⟨g1, g2, g3, g4, fun _ => by simpa using e, fun h => absurd h (by dsimp only; omega)⟩ hG
                      · rfl
                    clear hG
                    go_wp2_with (go_at_call 40; refine (l01In_calls _ _ _ _).use ?_)
                    all_goals (go_ret; exact ⟨ret_bool H.out.symm, X.out.alloc _⟩)
                  · cases I3 : in01 bb 0 (q - 1)
                    · clear hG
                      go_wp2_with (go_at_call 40; refine (l01In_calls _ _ _ _).use ?_)
                      all_goals (go_ret; exact ⟨ret_bool H.out.symm, X.out.alloc _⟩)
                    · have g5 := in01_iff.1 I3
                      have h6 : (a == bb) = true := by
                        cases e : (a == bb)
                        · exact absurd ⟨g1, g2, g3, g4, fun h => absurd h (by dsimp only; omega), fun _ => ⟨g5.1, by dsimp only; omega, fun h => by simp at e; exact e h.symm⟩⟩ hG
                        · rfl
                      clear hG g5
                      go_wp2_with (go_at_call 40; refine (l01In_calls _ _ _ _).use ?_)
                      all_goals (go_ret; exact ⟨ret_bool H.out.symm, X.out.alloc _⟩)
                · have I2 : in01 a 0 (q - 1) = false := in01_false (by omega)
                  clear hG g1 g3
                  go_wp2_with (go_at_call 40; refine (l01In_calls _ _ _ _).use ?_)
                  go_ret
                  exact ⟨ret_bool H.out.symm, X.out.alloc _⟩
              · have I1 := in01_false g1
                clear hG g1
                go_wp2_with (go_at_call 40; refine (l01In_calls _ _ _ _).use ?_)
                go_ret
                exact ⟨ret_bool H.out.symm, X.out.alloc _⟩
          · have H := hide (circB_true (p := p) (q := q) (gs := gs) ⟨t1.out, t2, t3, t4, fun g hg => by
              obtain ⟨j, hj, rfl⟩ := List.getElem_of_mem hg
              exact HK.out j hj (by omega)⟩)
            clear hr hx
            go_wp2_with fail
            go_ret
            exact ⟨ret_bool H.out.symm, X.out⟩
      · have H := hide (circB_false (p := p) (q := q) (gs := gs) fun hh => t4 hh.2.2.2.1)
        clear hr t1
        go_enter Try.func70, Try.ntmps70
        go_wp2_with (first
          | (go_at_call 87; refine (specIsPrime_calls _ _).use ?_)
          | (go_at_call 40; refine (l01In_calls _ _ _ _).use ?_))
        go_ret
        exact ⟨ret_bool H.out.symm, (Ext.refl _).alloc _⟩
    · have H := hide (circB_false (p := p) (q := q) (gs := gs) fun hh => t2 ⟨hh.2.1, hh.2.2.1⟩)
      have I1 := in01_false t2
      clear hr t1 t2
      go_enter Try.func70, Try.ntmps70
      go_wp2_with (first
        | (go_at_call 87; refine (specIsPrime_calls _ _).use ?_)
        | (go_at_call 40; refine (l01In_calls _ _ _ _).use ?_))
      go_ret
      exact ⟨ret_bool H.out.symm, (Ext.refl _).alloc _⟩
  · have H := hide (circB_false (p := p) (q := q) (gs := gs) fun hh => t1 hh.1)
    clear hr
    by_cases h1 : PrimeP p
    · have P1 := primeB_true h1
      have h2 : p = 2 := Classical.byContradiction fun h => t1 ⟨h1, h⟩
      subst h2
      clear h1 t1
      go_enter Try.func70, Try.ntmps70
      go_wp2_with (go_at_call 87; refine (specIsPrime_calls _ _).use ?_)
      go_ret
      exact ⟨ret_bool H.out.symm, (Ext.refl _).alloc _⟩
    · have P1 := primeB_false h1
      clear h1 t1
      go_enter Try.func70, Try.ntmps70
      go_wp2_with (go_at_call 87; refine (specIsPrime_calls _ _).use ?_)
      go_ret
      exact ⟨ret_bool H.out.symm, (Ext.refl _).alloc _⟩

end Go.Proofs.Ytgpnahjnhdchaaa
