/- The law FnExactIntBound: for every integer network the program's IntBound returns what the reference's returns. -/
import Derived.Test.YtkilgbdkekpnpaaIntBnd
import Derived.Test.YtkilgbdkekpnpaaIntNet
namespace Go.Proofs.Ytkilgbdkekpnpaa
open Go.RowKit

set_option maxHeartbeats 2000000 in
theorem lawIntBound_calls (A : Option Addr) (c : Nat) (ts : List Ten) (W : World) (h : Tens W A c ts) :
    Gives Try.prog 4 #[.agg #[.slice A ts.length c]] W (.bool true) := by
  unfold Gives
  have HT := hide h
  clear h
  by_cases s : szTs ts 1048576 < 0
  · go_enter Try.func4, Try.ntmps4
    go_wp2_with fail
    refine (szIntNetwork_calls _ _ _ ts _ _ rfl (HT.out.ext ((Ext.refl _).alloc _)) (by omega) (by omega)).use fun w1 x1 => ?_
    replace x1 := hide x1
    go_wp2_with fail
    go_ret
    exact ⟨rfl, Ext.trans ((Ext.refl _).alloc _) x1.out⟩
  · obtain ⟨hn, hs⟩ := szTs_small (ts := ts) (left := 1048576) (by omega) (by omega) (by omega)
    replace hs := hide hs
    go_enter Try.func4, Try.ntmps4
    go_wp2_with fail
    refine (szIntNetwork_calls _ _ _ ts _ _ rfl (HT.out.ext ((Ext.refl _).alloc _)) (by omega) (by omega)).use fun w1 x1 => ?_
    have B1 : Blk w1 W.heap.size 24 #[.slice A ts.length c] := (Blk.new _ _ _).ext x1
    have X1 : Hid (Ext W w1) := hide (Ext.trans ((Ext.refl _).alloc _) x1)
    have c1 := B1.cell 0
    simp at c1
    have z1 := B1.lt
    replace B1 := hide B1
    clear x1
    go_wp2_with fail
    refine (toIntNetwork_calls _ _ _ ts _ rfl (HT.out.ext X1.out) hn hs.out).mono ?_
    rintro e w2 ⟨g2, gs2, rfl, _, k2, x2⟩
    have B2 := hide (B1.out.ext x2)
    have c2 := B2.out.cell 0
    simp at c2
    have z2 := B2.out.lt
    have X2 : Hid (Ext W w2) := hide (Ext.trans X1.out x2)
    have T2 := hide (k2.tens hn hs.out)
    clear x2 k2
    go_wp2_with fail
    refine (specIntBound_calls _ _ _ ts _ rfl T2.out).use fun w3 x3 => ?_
    have B3 := hide (B2.out.ext x3)
    have c3 := B3.out.cell 0
    simp at c3
    have z3 := B3.out.lt
    have X3 : Hid (Ext W w3) := hide (Ext.trans X2.out x3)
    clear x3
    go_wp2_with fail
    refine (toIntNetwork_calls _ _ _ ts _ rfl (HT.out.ext X3.out) hn hs.out).mono ?_
    rintro e w4 ⟨g4, gs4, rfl, _, k4, x4⟩
    have B4 := hide (B3.out.ext x4)
    have c4 := B4.out.cell 0
    simp at c4
    have z4 := B4.out.lt
    have X4 : Hid (Ext W w4) := hide (Ext.trans X3.out x4)
    have T4 := hide (k4.tens hn hs.out)
    clear x4 k4
    go_wp2_with fail
    refine (implIntBound_calls _ _ _ ts _ rfl (T4.out.ext ((Ext.refl _).alloc _))).use fun w5 x5 => ?_
    have B5 := hide ((B4.out.alloc _).ext x5)
    have c5 := B5.out.cell 0
    simp at c5
    have z5 := B5.out.lt
    have D5 : Blk w5 w4.heap.size 29 #[.slice (some ⟨g4, 0, none⟩) ts.length ts.length] := (Blk.new _ _ _).ext x5
    have d5 := D5.cell 0
    simp at d5
    have y5 := D5.lt
    have X5 : Hid (Ext W w5) := hide (Ext.trans (X4.out.alloc _) x5)
    have T5 := hide ((T4.out.ext ((Ext.refl _).alloc _)).ext x5)
    clear x5 D5
    go_wp2_with fail
    go_region_with (first
      | (go_at_call 10; refine (toIntNetwork_calls _ _ _ ts _ rfl (HT.out.ext X5.out.drew) hn hs.out).mono ?_; rintro e w6 ⟨g6, gs6, rfl, _, k6, x6⟩; have T6 := hide (k6.tens hn hs.out); have d6 := x6.cell (a := ⟨w4.heap.size, 0, none⟩) (v := .slice (some ⟨g4, 0, none⟩) ts.length ts.length) d5; have X6 := hide (X5.out.drew.trans x6); have T56 := hide ((T5.out.ext (Ext.refl _).drew).ext x6); clear x6 k6)
      | (go_at_call 12; refine (eqIntNetwork_calls _ _ _ _ _ _ ts _ rfl rfl T56.out T6.out).use fun w7 x7 => ?_; have X7 := hide (X6.out.trans x7); clear x7))
    all_goals (go_wp2_with fail; go_ret; exact ⟨rfl, X7.out⟩)

end Go.Proofs.Ytkilgbdkekpnpaa
