/- IntBound of the program and of the reference, one value for both. -/
import Derived.Test.YtkilgbdkekpnpaaIntOk
namespace Go.Proofs.Ytkilgbdkekpnpaa
open Go.RowKit

/-- The bound, -1 for what is no integer network. -/
noncomputable def ibnd (ts : List Ten) : Int := if intOkB ts = true then boundI ts else -1

set_option maxHeartbeats 1000000 in
theorem implIntBound_calls (A : Option Addr) (n c : Nat) (ts : List Ten) (w : World) (hn : n = ts.length) (h : Tens w A c ts) :
    Gives Try.prog 14 #[.agg #[.slice A n c]] w (.int .i64 (ibnd ts)) := by
  have HT := hide h
  replace hn := hide hn
  clear h
  unfold Gives
  by_cases g : IntOkP ts
  · have G := intOkB_true g
    have H : Hid (ibnd ts = boundI ts) := hide (if_pos G)
    have HS := hide (smallX_of g.2.1)
    clear g
    go_enter Try.func14, Try.ntmps14
    go_wp2_with fail
    refine (implIntOk_calls _ _ _ ts _ hn.out (HT.out.ext ((Ext.refl _).alloc _))).use fun w1 x1 => ?_
    obtain ⟨hc1, hf1⟩ := x1.rules
    have X1 := hide (Ext.trans ((Ext.refl _).alloc _) x1)
    clear x1
    go_wp2_with fail
    refine (boundOf_calls _ _ _ ts _ hn.out (HT.out.ext X1.out) HS.out).use fun w2 x2 => ?_
    replace x2 := hide x2
    go_wp2_with fail
    go_ret
    exact ⟨ret_int H.out.symm, X1.out.trans x2.out⟩
  · have G := intOkB_false g
    have H : Hid (ibnd ts = -1) := hide (if_neg (by simp [G]))
    clear g
    go_enter Try.func14, Try.ntmps14
    go_wp2_with fail
    refine (implIntOk_calls _ _ _ ts _ hn.out (HT.out.ext ((Ext.refl _).alloc _))).use fun w1 x1 => ?_
    have X1 := hide (Ext.trans ((Ext.refl _).alloc _) x1)
    clear x1
    go_wp2_with fail
    go_ret
    exact ⟨ret_int H.out.symm, X1.out⟩

set_option maxHeartbeats 1000000 in
theorem specIntBound_calls (A : Option Addr) (n c : Nat) (ts : List Ten) (w : World) (hn : n = ts.length) (h : Tens w A c ts) :
    Gives Try.prog 13 #[.agg #[.slice A n c]] w (.int .i64 (ibnd ts)) := by
  have HT := hide h
  replace hn := hide hn
  clear h
  unfold Gives
  by_cases g : IntOkP ts
  · have G := intOkB_true g
    have H : Hid (ibnd ts = boundI ts) := hide (if_pos G)
    have HS := hide (smallX_of g.2.1)
    clear g
    go_enter Try.func13, Try.ntmps13
    go_wp2_with fail
    refine (specIntOk_calls _ _ _ ts _ hn.out (HT.out.ext ((Ext.refl _).alloc _))).use fun w1 x1 => ?_
    obtain ⟨hc1, hf1⟩ := x1.rules
    have X1 := hide (Ext.trans ((Ext.refl _).alloc _) x1)
    clear x1
    go_wp2_with fail
    refine (l42Bound_calls _ _ _ ts _ hn.out (HT.out.ext X1.out) HS.out).use fun w2 x2 => ?_
    replace x2 := hide x2
    go_wp2_with fail
    go_ret
    exact ⟨ret_int H.out.symm, X1.out.trans x2.out⟩
  · have G := intOkB_false g
    have H : Hid (ibnd ts = -1) := hide (if_neg (by simp [G]))
    clear g
    go_enter Try.func13, Try.ntmps13
    go_wp2_with fail
    refine (specIntOk_calls _ _ _ ts _ hn.out (HT.out.ext ((Ext.refl _).alloc _))).use fun w1 x1 => ?_
    have X1 := hide (Ext.trans ((Ext.refl _).alloc _) x1)
    clear x1
    go_wp2_with fail
    go_ret
    exact ⟨ret_int H.out.symm, X1.out⟩

end Go.Proofs.Ytkilgbdkekpnpaa
