/- Contracts of the laws' own functions on integer networks. -/
import Derived.Test.YtkilgbdkekpnpaaTenB
import Derived.Deep.RegionWith
namespace Go.Proofs.Ytkilgbdkekpnpaa
open Go.RowKit

set_option maxHeartbeats 1000000 in
theorem szIntNetwork_calls (A : Option Addr) (n c : Nat) (ts : List Ten) (left : Int) (w : World) (hn : n = ts.length) (h : Tens w A c ts) (h0 : 0 ≤ left) (h1 : left ≤ 1048576) :
    Gives Try.prog 8 #[.agg #[.slice A n c], .int .i64 left] w (.int .i64 (szTs ts left)) := by
  unfold Gives
  have HT := hide (fun o => h.ext ((Ext.refl w).alloc o))
  replace hn := hide hn
  clear h
  by_cases s : szTs ts left < 0
  · have HS : Hid (szTs ts left = -1) := hide (by have := szTs_ge ts left; omega)
    go_enter Try.func8, Try.ntmps8
    go_wp2_with (go_at_call 28; refine (szTensorS_calls _ _ _ ts _ _ hn.out (HT.out _) h0 h1).use fun w1 x1 => ?_; replace x1 := hide x1)
    go_ret
    exact ⟨ret_int HS.out.symm, Ext.trans ((Ext.refl _).alloc _) x1.out⟩
  · go_enter Try.func8, Try.ntmps8
    go_wp2_with (go_at_call 28; refine (szTensorS_calls _ _ _ ts _ _ hn.out (HT.out _) h0 h1).use fun w1 x1 => ?_; replace x1 := hide x1)
    go_ret
    exact ⟨rfl, Ext.trans ((Ext.refl _).alloc _) x1.out⟩

set_option maxHeartbeats 1000000 in
theorem toIntNetwork_calls (A : Option Addr) (n c : Nat) (ts : List Ten) (w : World) (hn : n = ts.length) (h : Tens w A c ts) (hb : n ≤ 1048576) (hs : ∀ t ∈ ts, t.small) :
    Calls Try.prog 10 #[.agg #[.slice A n c]] w fun e w' => ∃ g gs, e = .returned (.agg #[.slice (some ⟨g, 0, none⟩) n n]) ∧ w.heap.size ≤ g ∧ CopyTs w' g gs ts ∧ Ext w w' := by
  have HT := hide h
  have HS := hide hs
  replace hn := hide hn
  clear h hs
  go_enter Try.func10, Try.ntmps10
  go_wp2_with fail
  refine (toTensorS_calls _ _ _ ts _ hn.out (HT.out.ext (((Ext.refl _).alloc _).alloc _ |>.alloc _)) hb HS.out).mono ?_
  rintro e w1 ⟨rfl, gs, k1, x1⟩
  obtain ⟨hc1, hf1⟩ := x1.rules
  have hz := x1.size
  simp at hz
  have hsa1 : w.heap.size < w1.heap.size := by omega
  have hsb1 : w.heap.size + 1 < w1.heap.size := by omega
  have hsc1 : w.heap.size + 1 + 1 < w1.heap.size := by omega
  have X1 : Hid (Ext w w1) := hide (Ext.trans (((Ext.refl _).alloc _).alloc _ |>.alloc _) x1)
  replace k1 := hide k1
  clear x1
  go_wp2_with fail
  refine bodyPost_ret (v := .agg #[.slice (some ⟨w.heap.size + 1 + 1 + 1, 0, none⟩) n n]) (by simp only [results, Try.results10]; go_simp) rfl ?_
  clear hc1 hf1
  have K1 := k1.out
  simp at K1
  refine ⟨_, gs, rfl, by omega, ⟨?_, ?_⟩, ?_⟩
  · exact (K1.b.farb (by omega) _).farb (by omega) _
  · exact (K1.ts.farb (by omega) _).farb (by omega) _
  · exact (X1.out.setb (by omega) _).setb (by omega) _

set_option maxHeartbeats 1000000 in
theorem eqIntNetwork_calls (A A' : Option Addr) (n c n' c' : Nat) (ts : List Ten) (w : World) (hn : n = ts.length) (hn' : n' = ts.length) (h : Tens w A c ts) (h' : Tens w A' c' ts) :
    Gives Try.prog 12 #[.agg #[.slice A n c], .agg #[.slice A' n' c']] w (.bool true) := by
  unfold Gives
  have HT := hide h
  have HT' := hide h'
  replace hn := hide hn
  replace hn' := hide hn'
  clear h h'
  go_enter Try.func12, Try.ntmps12
  go_wp2_with (go_at_call 37; refine (eqTensorS_calls _ _ _ _ _ _ ts _ hn.out hn'.out (HT.out.ext (((Ext.refl _).alloc _).alloc _)) (HT'.out.ext (((Ext.refl _).alloc _).alloc _))).use fun w1 x1 => ?_; replace x1 := hide x1)
  go_ret
  exact ⟨rfl, Ext.trans (((Ext.refl _).alloc _).alloc _) x1.out⟩

end Go.Proofs.Ytkilgbdkekpnpaa
