/- The bound of an integer network and IntOk: of the program and of the reference, one value for both. -/
import Derived.Test.YtkilgbdkekpnpaaDims
namespace Go.Proofs.Ytkilgbdkekpnpaa
open Go.RowKit

/-! ### Plain laws -/

def sumAbs (xs : List Int) : Int := xs.foldl (fun s x => s + max x (-x)) 0
theorem sumAbs_succ {l : List Int} {k : Nat} (h : k < l.length) : sumAbs (l.take (k + 1)) = sumAbs (l.take k) + max l[k] (-l[k]) := by
  rw [List.take_succ_eq_append_getElem h, sumAbs, List.foldl_append]; rfl
/-- One more than MaxBound. -/
def cap14 : Int := 100000000000001
def boundI (ts : List Ten) : Int := ts.foldl (fun b t => min (b * sumAbs t.x) 100000000000001) 1
theorem boundI_succ {ts : List Ten} {k : Nat} (h : k < ts.length) : boundI (ts.take (k + 1)) = min (boundI (ts.take k) * sumAbs ts[k].x) 100000000000001 := by
  rw [List.take_succ_eq_append_getElem h, boundI, List.foldl_append]; rfl

/-- Small entries: the tensors of an integer network. -/
def SmallX (ts : List Ten) : Prop := ∀ t ∈ ts, t.x.length ≤ 4096 ∧ ∀ x ∈ t.x, -9 ≤ x ∧ x ≤ 9

theorem foldl_zero (ts : List Ten) : ts.foldl (fun b t => min (b * sumAbs t.x) 100000000000001) 0 = 0 := by
  induction ts with
  | nil => rfl
  | cons t ts ih =>
    rw [List.foldl_cons, Int.zero_mul, show min (0 : Int) 100000000000001 = 0 by decide]
    exact ih
theorem boundI_zero {ts : List Ten} {k : Nat} (h : k < ts.length) (hz : sumAbs ts[k].x = 0) : boundI ts = 0 := by
  have e : boundI ts = (ts.drop (k + 1)).foldl (fun b t => min (b * sumAbs t.x) 100000000000001) (boundI (ts.take (k + 1))) := by
    unfold boundI
    rw [← List.foldl_append, List.take_append_drop]
  rw [e, boundI_succ h, hz, Int.mul_zero, show min (0 : Int) 100000000000001 = 0 by decide]
  exact foldl_zero _

theorem sumAbs_bounds {l : List Int} (h : ∀ x ∈ l, -9 ≤ x ∧ x ≤ 9) (k : Nat) : 0 ≤ sumAbs (l.take k) ∧ sumAbs (l.take k) ≤ 9 * k := by
  induction k with
  | zero => simp [sumAbs]
  | succ k ih =>
    by_cases hk : k < l.length
    · rw [sumAbs_succ hk]
      have := h _ (List.getElem_mem hk)
      omega
    · rw [List.take_of_length_le (by omega)] at ih ⊢
      omega
theorem sumAbs_all {l : List Int} (h : ∀ x ∈ l, -9 ≤ x ∧ x ≤ 9) (hl : l.length ≤ 4096) : 0 ≤ sumAbs l ∧ sumAbs l ≤ 36864 := by
  have := sumAbs_bounds h l.length
  rw [List.take_length] at this
  omega
theorem boundI_bounds {ts : List Ten} (h : SmallX ts) (k : Nat) : 0 ≤ boundI (ts.take k) ∧ boundI (ts.take k) ≤ 100000000000001 := by
  induction k with
  | zero => simp [boundI]
  | succ k ih =>
    by_cases hk : k < ts.length
    · rw [boundI_succ hk]
      have hx := h _ (List.getElem_mem hk)
      have hs := sumAbs_all hx.2 hx.1
      have := Int.mul_nonneg ih.1 hs.1
      omega
    · rw [List.take_of_length_le (by omega)] at ih ⊢
      exact ih
theorem mul_le_of {a b x y : Int} (h1 : 0 ≤ a) (h2 : a ≤ x) (h3 : 0 ≤ b) (h4 : b ≤ y) : 0 ≤ a * b ∧ a * b ≤ x * y :=
  ⟨Int.mul_nonneg h1 h3, Int.mul_le_mul h2 h4 h3 (by omega)⟩

theorem quo_gt {b s : Int} (hs : 0 < s) (h : 100000000000000 / s < b) : min (b * s) 100000000000001 = 100000000000001 := by
  have h1 : 100000000000000 < b * s := (Int.ediv_lt_iff_lt_mul hs).1 h
  omega
theorem quo_le {b s : Int} (hs : 0 < s) (h : ¬ 100000000000000 / s < b) : b * s ≤ 100000000000000 := by
  by_cases h1 : 100000000000000 < b * s
  · exact absurd ((Int.ediv_lt_iff_lt_mul hs).2 h1) h
  · omega

/-! ### Contracts -/

set_option maxHeartbeats 2000000 in
theorem boundOf_calls (A : Option Addr) (n c : Nat) (ts : List Ten) (w : World) (hn : n = ts.length) (h : Tens w A c ts) (hs : SmallX ts) :
    Gives Try.prog 36 #[.slice A n c] w (.int .i64 (boundI ts)) := by
  subst hn
  obtain ⟨hl, hc, hr⟩ := h
  replace hs := hide hs
  unfold Gives
  go_enter Try.func36, Try.ntmps36
  go_wp2_with fail
  go_loopw [3, 11] (fun v i wr => ∃ k : Nat, k ≤ ts.length ∧ i = .int .i64 k ∧ v = .int .i64 (boundI (ts.take k)) ∧ Ext w wr) (fun _ i _ => ts.length - (intOf i).toNat)
  case atStart => exact ⟨0, by omega, rfl, by simp [boundI], Ext.refl _⟩
  case round =>
    obtain ⟨k, hk, rfl, rfl, hx⟩ := hrel
    by_cases hlt : k < ts.length
    · obtain ⟨b, o, rfl, hb, hc⟩ := hr k hlt
      obtain ⟨⟨A1, c1, A2, c2, A3, c3⟩, ht, h1, h2, h3⟩ := hc k hlt
      have hck1 := hx.cell h1
      have hck2 := hx.cell h2
      have hck3 := hx.cell h3
      have hxx := hs.out _ (List.getElem_mem hlt)
      have hr3 := fun m hm => ht.x.at_ m hm
      have hsz := hx.size
      have HX := hide hx
      have HR3 := hide hr3
      have HXX := hide hxx
      have hlx : ts[k].x.length ≤ 4096 := hxx.1
      clear hr hc hx ht h1 h2 h3 hr3 hxx
      obtain ⟨wo, rfl⟩ : ∃ wo, wo = wr := ⟨_, rfl⟩
      go_wp2_with fail
      go_loop [6, 18] (fun s j => ∃ m : Nat, m ≤ ts[k].x.length ∧ j = .int .i64 m ∧ s = .int .i64 (sumAbs (ts[k].x.take m))) (fun _ j => ts[k].x.length - (intOf j).toNat)
      case atStart => exact ⟨0, by omega, rfl, by simp [sumAbs]⟩
      case round =>
        obtain ⟨m, hm, rfl, rfl⟩ := hrel
        have hsb := sumAbs_bounds HXX.out.2 m
        by_cases hlm : m < ts[k].x.length
        · obtain ⟨b3, o3, rfl, hb3, hc3⟩ := HR3.out m hlm
          have hc3' := HX.out.cell (hc3 m hlm)
          have hb3' : b3 < wo.heap.size := by have := HX.out.size; omega
          have hxb := HXX.out.2 _ (List.getElem_mem hlm)
          have HS := hide (sumAbs_succ hlm)
          clear hc3 HR3
          go_wp2_with fail
          go_round
          case rel => exact ⟨m + 1, by omega, by go_num, by rw [HS.out, ← go_max]⟩
          case measure => simp [intOf]; omega
        · have e : ts[k].x.take m = ts[k].x := List.take_of_length_le (by omega)
          rw [e] at hsb ⊢
          have hsb2 : sumAbs ts[k].x ≤ 36864 := by omega
          have hbb := boundI_bounds hs.out k
          have HS := hide (boundI_succ hlt)
          have hmul := mul_le_of hbb.1 hbb.2 hsb.1 hsb2
          by_cases e0 : sumAbs ts[k].x = 0
          · have t0 : (sumAbs ts[k].x == 0) = true := by simp [e0]
            have HF := hide (boundI_zero hlt e0)
            clear e e0 HR3 hmul
            go_wp2_with fail
            go_ret
            exact ⟨ret_int HF.out.symm, HX.out.alloc _⟩
          · have t0 : (sumAbs ts[k].x == 0) = false := by simp [e0]
            have hw : wrap64 (boundI (ts.take k) * sumAbs ts[k].x) = boundI (ts.take k) * sumAbs ts[k].x := IntWalk.wrap64_in _ ⟨by omega, by omega⟩
            clear e e0 HR3
            go_wp2_with fail
            go_roundw
            case rel => exact ⟨k + 1, by omega, by go_num, by rw [HS.out, ← go_min], HX.out.alloc _⟩
            case measure => simp [intOf]; omega
    · have e : ts.take k = ts := List.take_of_length_le (by omega)
      rw [e]
      have HX := hide hx
      clear hr hx e
      go_wp2_with fail
      go_ret
      exact ⟨rfl, HX.out⟩

set_option maxHeartbeats 2000000 in
theorem l42Bound_calls (A : Option Addr) (n c : Nat) (ts : List Ten) (w : World) (hn : n = ts.length) (h : Tens w A c ts) (hs : SmallX ts) :
    Gives Try.prog 32 #[.slice A n c] w (.int .i64 (boundI ts)) := by
  subst hn
  obtain ⟨hl, hc, hr⟩ := h
  replace hs := hide hs
  unfold Gives
  go_enter Try.func32, Try.ntmps32
  go_wp2_with fail
  go_loopw [3, 11] (fun v i wr => ∃ k : Nat, k ≤ ts.length ∧ i = .int .i64 k ∧ v = .int .i64 (boundI (ts.take k)) ∧ Ext w wr) (fun _ i _ => ts.length - (intOf i).toNat)
  case atStart => exact ⟨0, by omega, rfl, by simp [boundI], Ext.refl _⟩
  case round =>
    obtain ⟨k, hk, rfl, rfl, hx⟩ := hrel
    by_cases hlt : k < ts.length
    · obtain ⟨b, o, rfl, hb, hc⟩ := hr k hlt
      obtain ⟨⟨A1, c1, A2, c2, A3, c3⟩, ht, h1, h2, h3⟩ := hc k hlt
      have hck1 := hx.cell h1
      have hck2 := hx.cell h2
      have hck3 := hx.cell h3
      have hxx := hs.out _ (List.getElem_mem hlt)
      have hr3 := fun m hm => ht.x.at_ m hm
      have hsz := hx.size
      have HX := hide hx
      have HR3 := hide hr3
      have HXX := hide hxx
      have hlx : ts[k].x.length ≤ 4096 := hxx.1
      clear hr hc hx ht h1 h2 h3 hr3 hxx
      obtain ⟨wo, rfl⟩ : ∃ wo, wo = wr := ⟨_, rfl⟩
      go_wp2_with fail
      go_loop [6, 18] (fun s j => ∃ m : Nat, m ≤ ts[k].x.length ∧ j = .int .i64 m ∧ s = .int .i64 (sumAbs (ts[k].x.take m))) (fun _ j => ts[k].x.length - (intOf j).toNat)
      case atStart => exact ⟨0, by omega, rfl, by simp [sumAbs]⟩
      case round =>
        obtain ⟨m, hm, rfl, rfl⟩ := hrel
        have hsb := sumAbs_bounds HXX.out.2 m
        by_cases hlm : m < ts[k].x.length
        · obtain ⟨b3, o3, rfl, hb3, hc3⟩ := HR3.out m hlm
          have hc3' := HX.out.cell (hc3 m hlm)
          have hb3' : b3 < wo.heap.size := by have := HX.out.size; omega
          have hxb := HXX.out.2 _ (List.getElem_mem hlm)
          have HS := hide (sumAbs_succ hlm)
          clear hc3 HR3
          go_wp2_with fail
          go_round
          case rel => exact ⟨m + 1, by omega, by go_num, by rw [HS.out, ← go_max]⟩
          case measure => simp [intOf]; omega
        · have e : ts[k].x.take m = ts[k].x := List.take_of_length_le (by omega)
          rw [e] at hsb ⊢
          have hsb2 : sumAbs ts[k].x ≤ 36864 := by omega
          have hbb := boundI_bounds hs.out k
          have HS := hide (boundI_succ hlt)
          have hmul := mul_le_of hbb.1 hbb.2 hsb.1 hsb2
          have hw : wrap64 (boundI (ts.take k) * sumAbs ts[k].x) = boundI (ts.take k) * sumAbs ts[k].x := IntWalk.wrap64_in _ ⟨by omega, by omega⟩
          clear e HR3
          by_cases e0 : 0 < sumAbs ts[k].x
          · have e1 : 1 ≤ sumAbs ts[k].x := by omega
            by_cases e2 : 100000000000000 / sumAbs ts[k].x < boundI (ts.take k)
            · have HQ := hide (quo_gt e0 e2)
              go_wp2_with fail
              go_roundw
              case rel => exact ⟨k + 1, by omega, by go_num, by rw [HS.out, HQ.out], HX.out.alloc _⟩
              case measure => simp [intOf]; omega
            · go_wp2_with fail
              go_roundw
              case rel => exact ⟨k + 1, by omega, by go_num, by rw [HS.out, ← go_min], HX.out.alloc _⟩
              case measure => simp [intOf]; omega
          · go_wp2_with fail
            go_roundw
            case rel => exact ⟨k + 1, by omega, by go_num, by rw [HS.out, ← go_min], HX.out.alloc _⟩
            case measure => simp [intOf]; omega
    · have e : ts.take k = ts := List.take_of_length_le (by omega)
      rw [e]
      have HX := hide hx
      clear hr hx e
      go_wp2_with fail
      go_ret
      exact ⟨rfl, HX.out⟩

/-- A tensor of an integer network. -/
def TenOk (t : Ten) : Prop := 0 ≤ tsz t.l t.d ∧ (t.x.length : Int) = tsz t.l t.d ∧ ∀ x ∈ t.x, -9 ≤ x ∧ x ≤ 9
noncomputable def tenB (t : Ten) : Bool := @decide (TenOk t) (Classical.propDecidable _)
theorem tenB_true {t : Ten} (h : TenOk t) : tenB t = true := by simp [tenB, h]
theorem tenB_false {t : Ten} (h : ¬ TenOk t) : tenB t = false := by simp [tenB, h]
theorem TenOk.axes {t : Ten} (h : TenOk t) : AxesOk t.l t.d := by
  rcases tsz_cases t.l t.d with e | e
  · have := h.1; omega
  · exact e.1
theorem TenOk.small {t : Ten} (h : TenOk t) : t.x.length ≤ 4096 := by
  rcases tsz_cases t.l t.d with e | e
  · have := h.1; omega
  · have := h.2.1; omega

set_option maxHeartbeats 2000000 in
theorem intTensorOk_calls (A1 A2 A3 : Option Addr) (c1 c2 c3 : Nat) (t : Ten) (w : World) (h : IsTen w ⟨A1, c1, A2, c2, A3, c3⟩ t) :
    Gives Try.prog 34 #[.agg #[.slice A1 t.l.length c1, .slice A2 t.d.length c2, .slice A3 t.x.length c3]] w (.bool (tenB t)) := by
  unfold Gives
  have hm := h.x.cap
  have hm2 := h.x.le
  have hr3 := h.x.at_
  have HT := hide (fun o => h.ext ((Ext.refl w).alloc o))
  clear h
  simp only at hm hm2 hr3
  rcases tsz_cases t.l t.d with e | ⟨_, he2, he, he1⟩
  · have H := hide (tenB_false (t := t) fun hh => by have := hh.1; omega)
    clear hr3
    go_enter Try.func34, Try.ntmps34
    go_wp2_with (go_at_call 69; refine (tensorSize_calls _ _ _ _ _ _ _ _ _ t.l t.d _ rfl rfl (HT.out _).l (HT.out _).d).use fun w1 x1 => ?_; replace x1 := hide x1)
    go_ret
    exact ⟨ret_bool H.out.symm, Ext.trans ((Ext.refl _).alloc _) x1.out⟩
  · have t0 : (tsz t.l t.d == -1) = false := by rw [he]; simp; omega
    have t1 : 0 ≤ tsz t.l t.d := by omega
    have t2 : tsz t.l t.d ≤ 4096 := by omega
    clear he he1 he2
    by_cases hl : ¬ (t.x.length : Int) = tsz t.l t.d
    · have H := hide (tenB_false (t := t) fun hh => hl hh.2.1)
      have t3 : ((t.x.length : Int) != tsz t.l t.d) = true := by rw [bne_iff_ne]; exact hl
      clear hr3 hl
      go_enter Try.func34, Try.ntmps34
      go_wp2_with (go_at_call 69; refine (tensorSize_calls _ _ _ _ _ _ _ _ _ t.l t.d _ rfl rfl (HT.out _).l (HT.out _).d).use fun w1 x1 => ?_; obtain ⟨hc1, hf1⟩ := x1.rules; replace x1 := hide x1)
      go_ret
      exact ⟨ret_bool H.out.symm, Ext.trans ((Ext.refl _).alloc _) x1.out⟩
    · have t3 : ((t.x.length : Int) != tsz t.l t.d) = false := by rw [bne_eq_false_iff_eq]; omega
      have HL : Hid ((t.x.length : Int) = tsz t.l t.d) := hide (by omega)
      have hlx : t.x.length ≤ 4096 := by omega
      clear hl
      go_enter Try.func34, Try.ntmps34
      go_wp2_with fail
      refine (tensorSize_calls _ _ _ _ _ _ _ _ _ t.l t.d _ rfl rfl (HT.out _).l (HT.out _).d).use fun w1 x1 => ?_
      obtain ⟨hc1, hf1⟩ := x1.rules
      have hs1 := x1.size
      simp at hs1
      have hs1' : w.heap.size < w1.heap.size := by omega
      replace x1 := hide x1
      go_wp2_with fail
      have X1 : Hid (Ext w w1) := hide (Ext.trans ((Ext.refl _).alloc _) x1.out)
      clear hc1 hf1
      go_loop [20] (fun j => ∃ m : Nat, m ≤ t.x.length ∧ j = .int .i64 m ∧ ∀ i (hi : i < t.x.length), i < m → -9 ≤ t.x[i] ∧ t.x[i] ≤ 9) (fun j => t.x.length - (intOf j).toNat)
      case atStart => exact ⟨0, by omega, rfl, fun i _ hi => absurd hi (by omega)⟩
      case round =>
        obtain ⟨m, hm, rfl, hh⟩ := hrel
        replace hh := hide hh
        by_cases hlm : m < t.x.length
        · obtain ⟨b3, o3, rfl, hb3, hc3⟩ := hr3 m hlm
          have hc3' := X1.out.cell (hc3 m hlm)
          clear hc3 hr3
          by_cases hg : -9 ≤ t.x[m] ∧ t.x[m] ≤ 9
          · obtain ⟨g1, g2⟩ := hg
            go_wp2_with fail
            go_round
            case rel =>
              refine ⟨m + 1, by omega, by go_num, fun i hi hlt => ?_⟩
              by_cases e : i = m
              · subst e; exact ⟨by omega, by omega⟩
              · exact hh.out i hi (by omega)
            case measure => simp [intOf]; omega
          · have H := hide (tenB_false (t := t) fun hx => hg (hx.2.2 _ (List.getElem_mem hlm)))
            go_wp2_with fail
            all_goals (first | (exfalso; omega) | (go_ret; exact ⟨ret_bool H.out.symm, X1.out⟩))
        · have H := hide (tenB_true (t := t) ⟨t1, HL.out, fun x hx => by
            obtain ⟨i, hi, rfl⟩ := List.getElem_of_mem hx
            exact hh.out i hi (by omega)⟩)
          clear hr3
          go_wp2_with fail
          go_ret
          exact ⟨ret_bool H.out.symm, X1.out⟩

end Go.Proofs.Ytkilgbdkekpnpaa
