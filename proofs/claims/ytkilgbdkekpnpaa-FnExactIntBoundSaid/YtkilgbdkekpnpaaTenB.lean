/- Contracts of the laws' own functions on tensors: sizes and comparisons. -/
import Derived.Test.YtkilgbdkekpnpaaTens
import Derived.StillTailTactics
namespace Go.Proofs.Ytkilgbdkekpnpaa
open Go.RowKit

/-! ### Sizes -/

def szT (t : Ten) (left : Int) : Int :=
  if szI t.l.length left < 0 then -1 else if szI t.d.length (szI t.l.length left) < 0 then -1 else if szI t.x.length (szI t.d.length (szI t.l.length left)) < 0 then -1 else szI t.x.length (szI t.d.length (szI t.l.length left))

theorem szI_le {n : Nat} {left : Int} (h : 0 ≤ left) : szI n left ≤ left := by unfold szI; split <;> omega
theorem szI_ge (n : Nat) (left : Int) : -1 ≤ szI n left := by unfold szI; split <;> omega
theorem szI_len {n : Nat} {left : Int} (h : 0 ≤ szI n left) : (n : Int) ≤ left := by unfold szI at h; split at h <;> omega
theorem szI_self {left : Int} (h : 0 ≤ left) : szI 0 left = left := by unfold szI; split <;> omega

theorem szT_le {t : Ten} {left : Int} (h : 0 ≤ left) : szT t left ≤ left := by
  unfold szT
  have h1 := szI_le (n := t.l.length) h
  split
  · omega
  · have h2 := szI_le (n := t.d.length) (left := szI t.l.length left) (by omega)
    split
    · omega
    · have h3 := szI_le (n := t.x.length) (left := szI t.d.length (szI t.l.length left)) (by omega)
      split <;> omega
theorem szT_ge (t : Ten) (left : Int) : -1 ≤ szT t left := by
  unfold szT
  have h3 := szI_ge t.x.length (szI t.d.length (szI t.l.length left))
  split
  · omega
  · split
    · omega
    · split <;> omega
theorem szT_small {t : Ten} {left : Int} (h0 : 0 ≤ left) (h1 : left ≤ 1048576) (h : 0 ≤ szT t left) : t.small := by
  unfold szT at h
  split at h
  · omega
  · split at h
    · omega
    · split at h
      · omega
      · have a := szI_len (n := t.l.length) (left := left) (by omega)
        have b := szI_len (n := t.d.length) (left := szI t.l.length left) (by omega)
        have c := szI_len (n := t.x.length) (left := szI t.d.length (szI t.l.length left)) (by omega)
        have a' := szI_le (n := t.l.length) h0
        have b' := szI_le (n := t.d.length) (left := szI t.l.length left) (by omega)
        exact ⟨by omega, by omega, by omega⟩

/-- What the size function leaves behind the tensors of a list. -/
def szTsTo : List Ten → Int → Int
  | [], left => left
  | t :: ts, left => if szT t left < 0 then -1 else szTsTo ts (szT t left)
def szTs (ts : List Ten) (left : Int) : Int := if szI ts.length left < 0 then -1 else szTsTo ts (szI ts.length left)

theorem szTsTo_snoc (ts : List Ten) (t : Ten) (left : Int) (h : 0 ≤ szTsTo ts left) (hl : 0 ≤ left) : szTsTo (ts ++ [t]) left = if szT t (szTsTo ts left) < 0 then -1 else szT t (szTsTo ts left) := by
  induction ts generalizing left with
  | nil => rfl
  | cons a ts ih =>
    simp only [List.cons_append, szTsTo] at h ⊢
    split
    · rename_i hh; rw [if_pos hh] at h; omega
    · rename_i hh; rw [if_neg hh] at h; exact ih _ h (by omega)
theorem szTsTo_le {ts : List Ten} {left : Int} (h : 0 ≤ left) : szTsTo ts left ≤ left := by
  induction ts generalizing left with
  | nil => simp [szTsTo]
  | cons a ts ih =>
    have := szT_le (t := a) h
    simp only [szTsTo]
    split
    · omega
    · have := ih (left := szT a left) (by omega); omega
theorem szTsTo_small {ts : List Ten} {left : Int} (h0 : 0 ≤ left) (h1 : left ≤ 1048576) (h : 0 ≤ szTsTo ts left) : ∀ t ∈ ts, t.small := by
  induction ts generalizing left with
  | nil => intro t ht; cases ht
  | cons a ts ih =>
    have hle := szT_le (t := a) h0
    simp only [szTsTo] at h
    split at h
    · omega
    · intro t ht
      rcases List.mem_cons.1 ht with rfl | ht
      · exact szT_small h0 h1 (by omega)
      · exact ih (by omega) (by omega) h t ht
theorem szTsTo_neg_take {ts : List Ten} {left : Int} {k : Nat} (hl : 0 ≤ left) (h : k < ts.length) (hk : 0 ≤ szTsTo (ts.take k) left) (hn : szT ts[k] (szTsTo (ts.take k) left) < 0) : szTsTo ts left = -1 := by
  induction ts generalizing left k with
  | nil => simp at h
  | cons a ts ih =>
    cases k with
    | zero => simp [szTsTo] at hn ⊢; omega
    | succ k =>
      simp only [List.take_succ_cons, szTsTo, List.getElem_cons_succ] at hk hn ⊢
      split
      · rfl
      · rename_i hh
        rw [if_neg hh] at hk hn
        exact ih (by omega) (by simpa using h) hk hn
theorem szTs_small {ts : List Ten} {left : Int} (h0 : 0 ≤ left) (h1 : left ≤ 1048576) (h : 0 ≤ szTs ts left) : ts.length ≤ 1048576 ∧ ∀ t ∈ ts, t.small := by
  unfold szTs at h
  split at h
  · omega
  · have a := szI_len (n := ts.length) (left := left) (by omega)
    have b := szI_le (n := ts.length) h0
    exact ⟨by omega, szTsTo_small (by omega) (by omega) h⟩
theorem szTs_ge (ts : List Ten) (left : Int) : -1 ≤ szTs ts left := by
  unfold szTs
  split
  · omega
  · rename_i h
    generalize szI ts.length left = b at *
    have h : 0 ≤ b := by omega
    induction ts generalizing b with
    | nil => simp [szTsTo]; omega
    | cons a ts ih =>
      simp only [szTsTo]
      split
      · omega
      · exact ih _ (by omega) (by omega)

set_option maxHeartbeats 1000000 in
theorem szTensor_calls (A1 A2 A3 : Option Addr) (n1 c1 n2 c2 n3 c3 : Nat) (t : Ten) (left : Int) (w : World) (e1 : n1 = t.l.length) (e2 : n2 = t.d.length) (e3 : n3 = t.x.length)
    (b1 : n1 ≤ 9223372036854775807) (b2 : n2 ≤ 9223372036854775807) (b3 : n3 ≤ 9223372036854775807) (h0 : 0 ≤ left) (h1 : left ≤ 1048576) :
    Gives Try.prog 66 #[.agg #[.slice A1 n1 c1, .slice A2 n2 c2, .slice A3 n3 c3], .int .i64 left] w (.int .i64 (szT t left)) := by
  unfold Gives
  have H : Hid (szT t left = if szI n1 left < 0 then -1 else if szI n2 (szI n1 left) < 0 then -1 else if szI n3 (szI n2 (szI n1 left)) < 0 then -1 else szI n3 (szI n2 (szI n1 left))) := by
    subst e1 e2 e3; exact hide rfl
  clear e1 e2 e3
  have g1 := szI_le (n := n1) h0
  by_cases s1 : szI n1 left < 0
  · go_enter Try.func66, Try.ntmps66
    go_wp2_with fail
    refine (szIntS_calls _ _ _ _ _ b1 h0 h1).use ?_
    go_wp2_with fail
    go_ret
    exact ⟨ret_int (by rw [H.out, if_pos s1]), (Ext.refl _).alloc _⟩
  have g2 := szI_le (n := n2) (left := szI n1 left) (by omega)
  by_cases s2 : szI n2 (szI n1 left) < 0
  · go_enter Try.func66, Try.ntmps66
    go_wp2_with fail
    refine (szIntS_calls _ _ _ _ _ b1 h0 h1).use ?_
    go_wp2_with fail
    refine (szIntS_calls _ _ _ _ _ b2 (by omega) (by omega)).use ?_
    go_wp2_with fail
    go_ret
    exact ⟨ret_int (by rw [H.out, if_neg (by omega), if_pos s2]), (Ext.refl _).alloc _⟩
  by_cases s3 : szI n3 (szI n2 (szI n1 left)) < 0
  · go_enter Try.func66, Try.ntmps66
    go_wp2_with fail
    refine (szIntS_calls _ _ _ _ _ b1 h0 h1).use ?_
    go_wp2_with fail
    refine (szIntS_calls _ _ _ _ _ b2 (by omega) (by omega)).use ?_
    go_wp2_with fail
    refine (szIntS_calls _ _ _ _ _ b3 (by omega) (by omega)).use ?_
    go_wp2_with fail
    go_ret
    exact ⟨ret_int (by rw [H.out, if_neg (by omega), if_neg (by omega), if_pos s3]), (Ext.refl _).alloc _⟩
  go_enter Try.func66, Try.ntmps66
  go_wp2_with fail
  refine (szIntS_calls _ _ _ _ _ b1 h0 h1).use ?_
  go_wp2_with fail
  refine (szIntS_calls _ _ _ _ _ b2 (by omega) (by omega)).use ?_
  go_wp2_with fail
  refine (szIntS_calls _ _ _ _ _ b3 (by omega) (by omega)).use ?_
  go_wp2_with fail
  go_ret
  exact ⟨ret_int (by rw [H.out, if_neg (by omega), if_neg (by omega), if_neg (by omega)]), (Ext.refl _).alloc _⟩

/-- The lengths of a slice of tensors that came in. -/
theorem IsTen.lens {w : World} {r : TR} {t : Ten} (h : IsTen w r t) : t.l.length ≤ 9223372036854775807 ∧ t.d.length ≤ 9223372036854775807 ∧ t.x.length ≤ 9223372036854775807 :=
  ⟨Nat.le_trans h.l.le h.l.cap, Nat.le_trans h.d.le h.d.cap, Nat.le_trans h.x.le h.x.cap⟩

set_option maxHeartbeats 1000000 in
theorem szTensorS_calls (A : Option Addr) (n c : Nat) (ts : List Ten) (left : Int) (w : World) (hn : n = ts.length) (h : Tens w A c ts) (h0 : 0 ≤ left) (h1 : left ≤ 1048576) :
    Gives Try.prog 28 #[.slice A n c, .int .i64 left] w (.int .i64 (szTs ts left)) := by
  obtain ⟨hl, hc, hr⟩ := h
  have hn1 : n ≤ ts.length := by omega
  have hn2 : ts.length ≤ n := by omega
  have hb : n ≤ 9223372036854775807 := by omega
  have hw : wrap64 (left - n) = left - n := IntWalk.wrap64_in _ ⟨by omega, by omega⟩
  unfold Gives
  by_cases s : left - n < 0
  · have H := hide (show szTs ts left = -1 from if_pos (by rw [← hn, szI, if_pos s]; omega))
    clear hr hn
    go_enter Try.func28, Try.ntmps28
    go_wp2_with fail
    go_ret
    exact ⟨ret_int H.out.symm, Ext.refl _⟩
  have H := hide (show szTs ts left = szTsTo ts (left - n) by rw [szTs, ← hn, szI, if_neg s, if_neg s])
  clear hn
  have hm0 : 0 ≤ left - n := by omega
  have hm1 : left - n ≤ 1048576 := by omega
  go_enter Try.func28, Try.ntmps28
  go_wp2_with fail
  go_loopw [1, 5] (fun v i wr => ∃ k : Nat, k ≤ n ∧ i = .int .i64 k ∧ v = .int .i64 (szTsTo (ts.take k) (left - n)) ∧ 0 ≤ szTsTo (ts.take k) (left - n) ∧ Ext w wr) (fun _ i _ => n - (intOf i).toNat)
  case atStart => exact ⟨0, by omega, rfl, by simp [szTsTo], by simpa [szTsTo] using hm0, Ext.refl _⟩
  case round =>
    obtain ⟨k, hk, rfl, rfl, hs, hx⟩ := hrel
    have hs1 := szTsTo_le (ts := ts.take k) hm0
    by_cases hlt : k < n
    · obtain ⟨b, o, rfl, hb, hc⟩ := hr k (by omega)
      obtain ⟨⟨A1, c1, A2, c2, A3, c3⟩, ht, h1, h2, h3⟩ := hc k (by omega)
      have hck1 := hx.cell h1
      have hck2 := hx.cell h2
      have hck3 := hx.cell h3
      have hL := ht.lens
      have hbr : b < wr.heap.size := by have := hx.size; omega
      have HX := hide hx
      clear hr hc hx ht h1 h2 h3
      by_cases s2 : szT ts[k] (szTsTo (ts.take k) (left - n)) < 0
      · have HF := hide (szTsTo_neg_take hm0 (by omega) hs s2)
        go_wp2_with fail
        refine (szTensor_calls _ _ _ _ _ _ _ _ _ ts[k] _ _ rfl rfl rfl hL.1 hL.2.1 hL.2.2 hs (by omega)).use fun w1 x1 => ?_
        replace x1 := hide x1
        go_wp2_with fail
        go_ret
        exact ⟨ret_int (by rw [H.out, HF.out]), HX.out.trans x1.out⟩
      · have HF := hide (szTsTo_snoc (ts.take k) ts[k] (left - n) hs hm0)
        go_wp2_with fail
        refine (szTensor_calls _ _ _ _ _ _ _ _ _ ts[k] _ _ rfl rfl rfl hL.1 hL.2.1 hL.2.2 hs (by omega)).use fun w1 x1 => ?_
        replace x1 := hide x1
        go_wp2_with fail
        go_roundw
        case rel =>
          have e := HF.out
          rw [← List.take_succ_eq_append_getElem (show k < ts.length by omega), if_neg (by omega)] at e
          exact ⟨k + 1, by omega, by go_num, by rw [e], by omega, HX.out.trans x1.out⟩
        case measure => simp [intOf]; omega
    · have e : ts.take k = ts := List.take_of_length_le (by omega)
      rw [e]
      have HX := hide hx
      clear hr hx e
      go_wp2_with fail
      go_ret
      exact ⟨ret_int (by rw [H.out]), HX.out⟩

/-! ### Comparisons: where both read alike the answer is true -/

set_option maxHeartbeats 1000000 in
theorem eqTensor_calls (A1 A2 A3 A1' A2' A3' : Option Addr) (c1 c2 c3 c1' c2' c3' : Nat) (t : Ten) (w : World) (h : IsTen w ⟨A1, c1, A2, c2, A3, c3⟩ t) (h' : IsTen w ⟨A1', c1', A2', c2', A3', c3'⟩ t) :
    Gives Try.prog 70 #[.agg #[.slice A1 t.l.length c1, .slice A2 t.d.length c2, .slice A3 t.x.length c3], .agg #[.slice A1' t.l.length c1', .slice A2' t.d.length c2', .slice A3' t.x.length c3']] w (.bool true) := by
  unfold Gives
  obtain ⟨l, d, x⟩ := t
  have H := hide h
  have H' := hide h'
  clear h h'
  simp only
  go_enter Try.func70, Try.ntmps70
  go_wp2_with fail
  refine (eqIntS_calls _ _ _ _ _ _ l l _ rfl rfl (H.out.l.ext (((Ext.refl _).alloc _).alloc _)) (H'.out.l.ext (((Ext.refl _).alloc _).alloc _))).use fun w1 x1 => ?_
  obtain ⟨hc1, hf1⟩ := x1.rules
  have hs1 := x1.size
  simp at hs1
  have hsa1 : w.heap.size < w1.heap.size := by omega
  have hsb1 : w.heap.size + 1 < w1.heap.size := by omega
  have X1 : Hid (Ext w w1) := hide (Ext.trans (((Ext.refl _).alloc _).alloc _) x1)
  clear x1 hs1
  simp only [decide_true]
  go_wp2_with fail
  refine (eqIntS_calls _ _ _ _ _ _ d d _ rfl rfl (H.out.d.ext X1.out) (H'.out.d.ext X1.out)).use fun w2 x2 => ?_
  obtain ⟨hc2, hf2⟩ := x2.rules
  have hs2 := x2.size
  have hsa2 : w.heap.size < w2.heap.size := by omega
  have hsb2 : w.heap.size + 1 < w2.heap.size := by omega
  have X2 : Hid (Ext w w2) := hide (Ext.trans X1.out x2)
  clear x2 hs2
  simp only [decide_true]
  go_wp2_with fail
  refine (eqIntS_calls _ _ _ _ _ _ x x _ rfl rfl (H.out.x.ext X2.out) (H'.out.x.ext X2.out)).use fun w3 x3 => ?_
  have X3 : Hid (Ext w w3) := hide (Ext.trans X2.out x3)
  clear x3
  simp only [decide_true]
  go_wp2_with fail
  go_ret
  exact ⟨rfl, X3.out⟩

set_option maxHeartbeats 1000000 in
theorem eqTensorS_calls (A A' : Option Addr) (n c n' c' : Nat) (ts : List Ten) (w : World) (hn : n = ts.length) (hn' : n' = ts.length) (h : Tens w A c ts) (h' : Tens w A' c' ts) :
    Gives Try.prog 37 #[.slice A n c, .slice A' n' c'] w (.bool true) := by
  obtain ⟨hl, hc, hr⟩ := h
  obtain ⟨hl', hc', hr'⟩ := h'
  subst hn hn'
  have t0 : ((ts.length : Int) != (ts.length : Int)) = false := by simp
  unfold Gives
  go_enter Try.func37, Try.ntmps37
  go_wp2_with fail
  go_loopw [5] (fun i wr => ∃ k : Nat, k ≤ ts.length ∧ i = .int .i64 k ∧ Ext w wr) (fun i _ => ts.length - (intOf i).toNat)
  case atStart => exact ⟨0, by omega, rfl, Ext.refl _⟩
  case round =>
    obtain ⟨k, hk, rfl, hx⟩ := hrel
    by_cases hlt : k < ts.length
    · obtain ⟨b, o, rfl, hb, hc⟩ := hr k hlt
      obtain ⟨⟨A1, c1, A2, c2, A3, c3⟩, ht, h1, h2, h3⟩ := hc k hlt
      obtain ⟨b', o', rfl, hb', hc'⟩ := hr' k hlt
      obtain ⟨⟨A1', c1', A2', c2', A3', c3'⟩, ht', h1', h2', h3'⟩ := hc' k hlt
      have hck1 := hx.cell h1
      have hck2 := hx.cell h2
      have hck3 := hx.cell h3
      have hck1' := hx.cell h1'
      have hck2' := hx.cell h2'
      have hck3' := hx.cell h3'
      have HT := hide (ht.ext hx.drew)
      have HT' := hide (ht'.ext hx.drew)
      have HX := hide hx
      clear hr hc hx ht h1 h2 h3 hr' hc' ht' h1' h2' h3'
      go_wp2_with fail
      go_still_tail 8, (by kernel_rfl)
      go_wp2_with fail
      refine (eqTensor_calls _ _ _ _ _ _ _ _ _ _ _ _ ts[k] _ HT.out HT'.out).use fun w1 x1 => ?_
      have X1 : Hid (Ext w w1) := hide (HX.out.drew.trans x1)
      clear x1
      go_wp2_with fail
      go_roundw
      case rel => exact ⟨k + 1, by omega, by go_num, X1.out⟩
      case measure => simp [intOf]; omega
    · have HX := hide hx
      clear hr hr' hx
      go_wp2_with fail
      go_ret
      exact ⟨rfl, HX.out⟩

end Go.Proofs.Ytkilgbdkekpnpaa
