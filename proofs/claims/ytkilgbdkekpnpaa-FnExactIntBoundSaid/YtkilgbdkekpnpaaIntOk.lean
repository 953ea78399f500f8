/- IntOk and IntBound of the program and of the reference, one value for both. -/
import Derived.Test.YtkilgbdkekpnpaaBound
namespace Go.Proofs.Ytkilgbdkekpnpaa
open Go.RowKit

/-- An integer network with a bound within MaxBound. -/
def IntOkP (ts : List Ten) : Prop := ts.length ≤ 12 ∧ (∀ t ∈ ts, TenOk t) ∧ Cons ts ∧ boundI ts ≤ 100000000000000
noncomputable def intOkB (ts : List Ten) : Bool := @decide (IntOkP ts) (Classical.propDecidable _)
theorem intOkB_true {ts : List Ten} (h : IntOkP ts) : intOkB ts = true := by simp [intOkB, h]
theorem intOkB_false {ts : List Ten} (h : ¬ IntOkP ts) : intOkB ts = false := by simp [intOkB, h]
theorem intOkB_iff {ts : List Ten} : intOkB ts = true ↔ IntOkP ts := by simp [intOkB]
theorem smallX_of {ts : List Ten} (h : ∀ t ∈ ts, TenOk t) : SmallX ts := fun t ht => ⟨(h t ht).small, (h t ht).2.2⟩
theorem allAxes_of {ts : List Ten} (h : ∀ t ∈ ts, TenOk t) : AllAxes ts := fun t ht => (h t ht).axes

set_option maxHeartbeats 2000000 in
theorem implIntOk_calls (A : Option Addr) (n c : Nat) (ts : List Ten) (w : World) (hn : n = ts.length) (h : Tens w A c ts) :
    Gives Try.prog 11 #[.agg #[.slice A n c]] w (.bool (intOkB ts)) := by
  have HT := hide h
  subst hn
  obtain ⟨hl, hc, hr⟩ := h
  unfold Gives
  by_cases t1 : 12 < ts.length
  · have H := hide (intOkB_false (ts := ts) fun hh => by have := hh.1; omega)
    clear hr
    go_enter Try.func11, Try.ntmps11
    go_wp2_with fail
    go_ret
    exact ⟨ret_bool H.out.symm, (Ext.refl _).alloc _⟩
  go_enter Try.func11, Try.ntmps11
  go_wp2_with fail
  obtain ⟨w0, hw0⟩ : ∃ w0, w0 = w.alloc (Obj.cells #[.slice A ts.length c] 29) := ⟨_, rfl⟩
  rw [← hw0]
  have hX0 : Ext w w0 := by rw [hw0]; exact (Ext.refl _).alloc _
  have hB0 : Blk w0 w.heap.size 29 #[.slice A ts.length c] := by rw [hw0]; exact Blk.new _ _ _
  clear hw0
  go_loopw [14] (fun i wr => ∃ k : Nat, k ≤ ts.length ∧ i = .int .i64 k ∧ Ext w0 wr ∧ ∀ j (hj : j < ts.length), j < k → TenOk ts[j]) (fun i _ => ts.length - (intOf i).toNat)
  case atStart => exact ⟨0, by omega, rfl, Ext.refl _, fun j _ hj => absurd hj (by omega)⟩
  case round =>
    obtain ⟨k, hk, rfl, hx0, hok⟩ := hrel
    have hx := hX0.trans hx0
    by_cases hlt : k < ts.length
    · obtain ⟨b, o, rfl, hb, hc⟩ := hr k hlt
      obtain ⟨⟨A1, c1, A2, c2, A3, c3⟩, ht, h1, h2, h3⟩ := hc k hlt
      have hck1 := hx.cell h1
      have hck2 := hx.cell h2
      have hck3 := hx.cell h3
      have hbr : b < wr.heap.size := Nat.lt_of_lt_of_le hb hx.size
      have hT := hide (fun o => ht.ext (hx.alloc o))
      have HX := hide hx
      have HX0 := hide hx0
      have HK := hide hok
      clear hr hc hx hx0 hok ht h1 h2 h3
      by_cases hg : TenOk ts[k]
      · have G := tenB_true hg
        replace hg := hide hg
        go_wp2_with fail
        refine (intTensorOk_calls _ _ _ _ _ _ ts[k] _ (hT.out _)).use fun w1 x1 => ?_
        replace x1 := hide x1
        go_wp2_with fail
        go_roundw
        case rel =>
          refine ⟨k + 1, by omega, by go_num, (HX0.out.alloc _).trans x1.out, fun j hj hlt' => ?_⟩
          by_cases e : j = k
          · subst e; exact hg.out
          · exact HK.out j hj (by omega)
        case measure => simp [intOf]; omega
      · have G := tenB_false hg
        have H := hide (intOkB_false (ts := ts) fun hh => hg (hh.2.1 _ (List.getElem_mem hlt)))
        clear hg
        go_wp2_with fail
        refine (intTensorOk_calls _ _ _ _ _ _ ts[k] _ (hT.out _)).use fun w1 x1 => ?_
        replace x1 := hide x1
        go_wp2_with fail
        go_ret
        exact ⟨ret_bool H.out.symm, (HX.out.alloc _).trans x1.out⟩
    · have hall : ∀ t ∈ ts, TenOk t := fun t ht => by
        obtain ⟨j, hj, rfl⟩ := List.getElem_of_mem ht
        exact hok j hj (by omega)
      have HALL := hide hall
      have hbx := (hB0.ext hx0).cell 0
      simp at hbx
      have hB := hide (hB0.ext hx0)
      have hgl := (hB0.ext hx0).lt
      have HX := hide hx
      clear hr hx hx0 hok hall
      go_wp2_with fail
      refine (dimsOf_calls _ _ _ ts _ rfl (HT.out.ext HX.out) (allAxes_of HALL.out)).mono ?_
      rintro e w2 ⟨arr, rfl, hal, _, x2⟩
      replace hal := hide hal
      have X2 := hide (HX.out.trans x2)
      have B2 := hide (hB.out.ext x2)
      clear x2
      have T2 := hide (HT.out.ext X2.out)
      obtain ⟨w3, hw3⟩ : ∃ w3, w3 = (w2.alloc (Obj.cells Try.zeroCells64 64)).setRow w2.heap.size (ints arr) := ⟨_, rfl⟩
      have x3 : Ext w2 w3 := by rw [hw3]; exact ((Ext.refl _).alloc _).setRow (Nat.le_refl _) _
      have hb3 := (B2.out.ext x3).cell 0
      simp at hb3
      have X3 := hide (X2.out.trans x3)
      have T3 := hide (T2.out.ext x3)
      replace hw3 := hide hw3
      clear x3
      by_cases hcons : Cons ts
      · have C := consB_true hcons
        by_cases hbd : boundI ts ≤ 100000000000000
        · have H := hide (intOkB_true (ts := ts) ⟨by omega, HALL.out, hcons, hbd⟩)
          clear hcons
          go_wp2_with (first
            | (refine wpList_store_row rfl 64 (.tmp 5) (.tmp 26) rfl _ (ints arr) rfl rfl 64 Try.zeroCells64 (Blk.new _ _ _) (by rw [ints_size, hal.out]; exact arr_size) (by rw [arr_zero, ints_size, ints_size, hal.out, List.length_replicate]) (ints_oneCell' _) ?_; rw [← hw3.out])
            | (go_at_call 36; refine (boundOf_calls _ _ _ ts _ rfl T3.out (smallX_of HALL.out)).use fun w4 x4 => ?_; replace x4 := hide x4))
          go_ret
          exact ⟨ret_bool H.out.symm, X3.out.trans x4.out⟩
        · have H := hide (intOkB_false (ts := ts) fun hh => hbd hh.2.2.2)
          clear hcons
          go_wp2_with (first
            | (refine wpList_store_row rfl 64 (.tmp 5) (.tmp 26) rfl _ (ints arr) rfl rfl 64 Try.zeroCells64 (Blk.new _ _ _) (by rw [ints_size, hal.out]; exact arr_size) (by rw [arr_zero, ints_size, ints_size, hal.out, List.length_replicate]) (ints_oneCell' _) ?_; rw [← hw3.out])
            | (go_at_call 36; refine (boundOf_calls _ _ _ ts _ rfl T3.out (smallX_of HALL.out)).use fun w4 x4 => ?_; replace x4 := hide x4))
          go_ret
          exact ⟨ret_bool (by rw [H.out]; exact decide_eq_false (by omega)), X3.out.trans x4.out⟩
      · have C : consB ts = false := by simp [consB, hcons]
        have H := hide (intOkB_false (ts := ts) fun hh => hcons hh.2.2.1)
        clear hcons
        go_wp2_with (first
          | (refine wpList_store_row rfl 64 (.tmp 5) (.tmp 26) rfl _ (ints arr) rfl rfl 64 Try.zeroCells64 (Blk.new _ _ _) (by rw [ints_size, hal.out]; exact arr_size) (by rw [arr_zero, ints_size, ints_size, hal.out, List.length_replicate]) (ints_oneCell' _) ?_; rw [← hw3.out]))
        go_ret
        exact ⟨ret_bool H.out.symm, X3.out⟩

set_option maxHeartbeats 4000000 in
theorem specIntOk_calls (A : Option Addr) (n c : Nat) (ts : List Ten) (w : World) (hn : n = ts.length) (h : Tens w A c ts) :
    Gives Try.prog 9 #[.agg #[.slice A n c]] w (.bool (intOkB ts)) := by
  have HT := hide h
  subst hn
  obtain ⟨hl, hc, hr⟩ := h
  unfold Gives
  by_cases t1 : 12 < ts.length
  · have H := hide (intOkB_false (ts := ts) fun hh => by have := hh.1; omega)
    clear hr
    go_enter Try.func9, Try.ntmps9
    go_wp2_with fail
    go_ret
    exact ⟨ret_bool H.out.symm, (Ext.refl _).alloc _⟩
  go_enter Try.func9, Try.ntmps9
  go_wp2_with fail
  obtain ⟨w0, hw0⟩ : ∃ w0, w0 = w.alloc (Obj.cells #[.slice A ts.length c] 29) := ⟨_, rfl⟩
  rw [← hw0]
  have hX0 : Ext w w0 := by rw [hw0]; exact (Ext.refl _).alloc _
  have hB0 : Blk w0 w.heap.size 29 #[.slice A ts.length c] := by rw [hw0]; exact Blk.new _ _ _
  clear hw0
  go_loopw [18] (fun i wr => ∃ k : Nat, k ≤ ts.length ∧ i = .int .i64 k ∧ Ext w0 wr ∧ (∀ j (hj : j < ts.length), j < k → TenOk ts[j]) ∧ ∀ j, j < k → ∀ m, agreesAt ts j m) (fun i _ => ts.length - (intOf i).toNat)
  case atStart => exact ⟨0, by omega, rfl, Ext.refl _, fun j _ hj => absurd hj (by omega), fun j hj => absurd hj (by omega)⟩
  case round =>
    obtain ⟨k, hk, rfl, hx0, hok, hag⟩ := hrel
    have hx := hX0.trans hx0
    by_cases hlt : k < ts.length
    · obtain ⟨b, o, rfl, hb, hc⟩ := hr k hlt
      obtain ⟨⟨A1, c1, A2, c2, A3, c3⟩, ht, h1, h2, h3⟩ := hc k hlt
      have hck1 := hx.cell h1
      have hck2 := hx.cell h2
      have hck3 := hx.cell h3
      have hbr : b < wr.heap.size := Nat.lt_of_lt_of_le hb hx.size
      have hT := hide ht
      have HX := hide hx
      have HX0 := hide hx0
      have HK := hide hok
      have HAG := hide hag
      have hB := hide (hB0.ext hx0)
      have hgl := (hB0.ext hx0).lt
      clear hr hc hx hx0 hok hag ht h1 h2 h3
      obtain ⟨wo, rfl⟩ : ∃ wo, wo = wr := ⟨_, rfl⟩
      rcases tsz_cases ts[k].l ts[k].d with e | ⟨_, he2, he, he1⟩
      · have H := hide (intOkB_false (ts := ts) fun hh => by have := (hh.2.1 _ (List.getElem_mem hlt)).1; omega)
        go_wp2_with fail
        refine (specTensorSize_calls _ _ _ _ _ _ _ _ _ ts[k].l ts[k].d _ rfl rfl (hT.out.l.ext (HX.out.alloc _)) (hT.out.d.ext (HX.out.alloc _))).use fun w1 x1 => ?_
        replace x1 := hide x1
        go_wp2_with fail
        go_ret
        exact ⟨ret_bool H.out.symm, (HX.out.alloc _).trans x1.out⟩
      have t2 : 0 ≤ tsz ts[k].l ts[k].d := by omega
      have t3 : tsz ts[k].l ts[k].d ≤ 4096 := by omega
      have hax : Hid (AxesOk ts[k].l ts[k].d) := hide (by assumption)
      have h12 : ts[k].l.length ≤ 12 := hax.out.1
      clear he he1 he2
      by_cases hl : ¬ (ts[k].x.length : Int) = tsz ts[k].l ts[k].d
      · have H := hide (intOkB_false (ts := ts) fun hh => hl (hh.2.1 _ (List.getElem_mem hlt)).2.1)
        have t4 : ((ts[k].x.length : Int) != tsz ts[k].l ts[k].d) = true := by rw [bne_iff_ne]; exact hl
        clear hl
        go_wp2_with fail
        refine (specTensorSize_calls _ _ _ _ _ _ _ _ _ ts[k].l ts[k].d _ rfl rfl (hT.out.l.ext (HX.out.alloc _)) (hT.out.d.ext (HX.out.alloc _))).use fun w1 x1 => ?_
        obtain ⟨hc1, hf1⟩ := x1.rules
        have hs1 := x1.size
        simp at hs1
        have hs1' : wo.heap.size < w1.heap.size := by omega
        replace x1 := hide x1
        go_wp2_with fail
        go_ret
        exact ⟨ret_bool H.out.symm, (HX.out.alloc _).trans x1.out⟩
      have t4 : ((ts[k].x.length : Int) != tsz ts[k].l ts[k].d) = false := by rw [bne_eq_false_iff_eq]; omega
      have HL : Hid ((ts[k].x.length : Int) = tsz ts[k].l ts[k].d) := hide (by omega)
      have hlx : ts[k].x.length ≤ 4096 := by omega
      clear hl
      go_wp2_with fail
      refine (specTensorSize_calls _ _ _ _ _ _ _ _ _ ts[k].l ts[k].d _ rfl rfl (hT.out.l.ext (HX.out.alloc _)) (hT.out.d.ext (HX.out.alloc _))).use fun w1 x1 => ?_
      have hbt : Blk w1 wo.heap.size 57 #[.slice A1 ts[k].l.length c1, .slice A2 ts[k].d.length c2, .slice A3 ts[k].x.length c3] := (Blk.new _ _ _).ext x1
      have hbn : Blk w1 w.heap.size 29 #[.slice (some ⟨b, o, none⟩) ts.length c] := (hB.out.alloc _).ext x1
      have X1 := hide ((HX.out.alloc _).trans x1)
      have X10 := hide ((HX0.out.alloc _).trans x1)
      have g0 := hbt.cell 0
      have g1 := hbt.cell 1
      have g2 := hbt.cell 2
      have gn := hbn.cell 0
      simp at g0 g1 g2 gn
      have hs1' : wo.heap.size < w1.heap.size := hbt.lt
      have hgl1 := hbn.lt
      replace hbt := hide hbt
      replace hbn := hide hbn
      clear x1 hck1 hck2 hck3
      go_wp2_with fail
      go_loop [37] (fun j => ∃ m : Nat, m ≤ ts[k].x.length ∧ j = .int .i64 m ∧ ∀ i (hi : i < ts[k].x.length), i < m → -9 ≤ ts[k].x[i] ∧ ts[k].x[i] ≤ 9) (fun j => ts[k].x.length - (intOf j).toNat)
      case atStart => exact ⟨0, by omega, rfl, fun i _ hi => absurd hi (by omega)⟩
      case round =>
        obtain ⟨m, hm, rfl, hh⟩ := hrel
        replace hh := hide hh
        by_cases hlm : m < ts[k].x.length
        · obtain ⟨b3, o3, rfl, hb3, hc3⟩ := hT.out.x.at_ m hlm
          have hc3' := X1.out.cell (hc3 m hlm)
          clear hc3
          by_cases hg : -9 ≤ ts[k].x[m] ∧ ts[k].x[m] ≤ 9
          · have G := in01_true hg.1 hg.2
            replace hg := hide hg
            go_wp2_with (go_at_call 30; refine (l01In_calls _ _ _ _).use ?_)
            go_round
            case rel =>
              refine ⟨m + 1, by omega, by go_num, fun i hi hlt => ?_⟩
              by_cases e : i = m
              · subst e; exact hg.out
              · exact hh.out i hi (by omega)
            case measure => simp [intOf]; omega
          · have G := in01_false hg
            have H := hide (intOkB_false (ts := ts) fun hh => hg ((hh.2.1 _ (List.getElem_mem hlt)).2.2 _ (List.getElem_mem hlm)))
            clear hg
            go_wp2_with (go_at_call 30; refine (l01In_calls _ _ _ _).use ?_)
            go_ret
            exact ⟨ret_bool H.out.symm, X1.out⟩
        · have hten : Hid (TenOk ts[k]) := hide ⟨t2, HL.out, fun x hx => by
            obtain ⟨i, hi, rfl⟩ := List.getElem_of_mem hx
            exact hh.out i hi (by omega)⟩
          clear hh
          go_wp2_with fail
          go_loopw [48] (fun j wi => ∃ m : Nat, m ≤ ts[k].l.length ∧ j = .int .i64 m ∧ Ext w1 wi ∧ ∀ i, i < m → agreesAt ts k i) (fun j _ => ts[k].l.length - (intOf j).toNat)
          case atStart => exact ⟨0, by omega, rfl, Ext.refl _, fun i hi => absurd hi (by omega)⟩
          case round =>
            obtain ⟨q, hq, rfl, hxi, hga⟩ := hrel
            have g0' := hxi.cell g0
            have g1' := hxi.cell g1
            have gn' := hxi.cell gn
            have HXI := hide hxi
            have HGA := hide hga
            have XI := hide (X1.out.trans hxi)
            have hzi := hxi.size
            have hzi1 : w.heap.size < wr.heap.size := by omega
            have hzi2 : wo.heap.size < wr.heap.size := by omega
            clear hxi hga
            by_cases hlq : q < ts[k].l.length
            · have hld : q < ts[k].d.length := by have := hax.out.2.1; omega
              obtain ⟨b4, o4, rfl, hb4, hc4⟩ := hT.out.l.at_ q hlq
              obtain ⟨b5, o5, rfl, hb5, hc5⟩ := hT.out.d.at_ q hld
              have hc4' := XI.out.cell (hc4 q hlq)
              have hc5' := XI.out.cell (hc5 q hld)
              have hb4' : b4 < wr.heap.size := by have := XI.out.size; omega
              have hb5' : b5 < wr.heap.size := by have := XI.out.size; omega
              clear hc4 hc5
              have TT := hide ((HT.out.ext XI.out).take k)
              have hnk : Hid (k = (ts.take k).length) := hide (by simp; omega)
              have HS : Hid (∀ t ∈ ts.take k, t.l.length ≤ t.d.length) := hide fun t ht => by
                obtain ⟨j, hj, rfl⟩ := List.getElem_of_mem ht
                have hj1 : j < k := by simp at hj; omega
                have hj2 : j < ts.length := by omega
                have := (HK.out j hj2 hj1).axes.2.1
                simp
                omega
              have hdd : ts[k].d.getD q 0 = ts[k].d[q] := by simp [List.getD, hld]
              by_cases hp : 0 < dimOf (ts.take k) ts[k].l[q]
              · by_cases he : dimOf (ts.take k) ts[k].l[q] = ts[k].d[q]
                · have t5 : (dimOf (ts.take k) ts[k].l[q] != ts[k].d[q]) = false := by rw [bne_eq_false_iff_eq]; exact he
                  have HA : Hid (agreesAt ts k q) := hide fun _ _ _ => by rw [hdd]; exact he
                  replace he := hide he
                  clear hdd
                  go_wp2_with (go_at_call 31; refine (l12Dim_calls _ _ _ _ (ts.take k) _ hnk.out TT.out HS.out).use fun w5 x5 => ?_; obtain ⟨hc6, hf6⟩ := x5.rules; replace x5 := hide x5)
                  go_roundw
                  case rel =>
                    refine ⟨q + 1, by omega, by go_num, HXI.out.trans x5.out, fun i hi => ?_⟩
                    by_cases e : i = q
                    · subst e; exact HA.out
                    · exact HGA.out i (by omega)
                  case measure => simp [intOf]; omega
                · have t5 : (dimOf (ts.take k) ts[k].l[q] != ts[k].d[q]) = true := by rw [bne_iff_ne]; exact he
                  have H := hide (intOkB_false (ts := ts) fun hh => he (by rw [← hdd]; exact hh.2.2.1 k q hlt hlq hp))
                  clear hdd he
                  go_wp2_with (go_at_call 31; refine (l12Dim_calls _ _ _ _ (ts.take k) _ hnk.out TT.out HS.out).use fun w5 x5 => ?_; obtain ⟨hc6, hf6⟩ := x5.rules; replace x5 := hide x5)
                  go_ret
                  exact ⟨ret_bool H.out.symm, XI.out.trans x5.out⟩
              · have HA : Hid (agreesAt ts k q) := hide fun _ _ hh => absurd hh hp
                clear hdd
                go_wp2_with (go_at_call 31; refine (l12Dim_calls _ _ _ _ (ts.take k) _ hnk.out TT.out HS.out).use fun w5 x5 => ?_; obtain ⟨hc6, hf6⟩ := x5.rules; replace x5 := hide x5)
                go_roundw
                case rel =>
                  refine ⟨q + 1, by omega, by go_num, HXI.out.trans x5.out, fun i hi => ?_⟩
                  by_cases e : i = q
                  · subst e; exact HA.out
                  · exact HGA.out i (by omega)
                case measure => simp [intOf]; omega
            · go_wp2_with fail
              go_roundw
              case rel =>
                refine ⟨k + 1, by omega, by go_num, X10.out.trans HXI.out, fun j hj hlt' => ?_, fun j hj m' => ?_⟩
                · by_cases e : j = k
                  · subst e; exact hten.out
                  · exact HK.out j hj (by omega)
                · by_cases e : j = k
                  · subst e
                    intro hi hk' hp
                    exact HGA.out m' (by omega) hi hk' hp
                  · exact HAG.out j (by omega) m'
              case measure => simp [intOf]; omega
    · have hall : ∀ t ∈ ts, TenOk t := fun t ht => by
        obtain ⟨j, hj, rfl⟩ := List.getElem_of_mem ht
        exact hok j hj (by omega)
      have HALL := hide hall
      have hcons : Cons ts := fun i m hi hm => hag i (by omega) m hi hm
      have hbx := (hB0.ext hx0).cell 0
      simp at hbx
      have hgl := (hB0.ext hx0).lt
      have HX := hide hx
      clear hr hx hx0 hok hall hag
      by_cases hbd : boundI ts ≤ 100000000000000
      · have H := hide (intOkB_true (ts := ts) ⟨by omega, HALL.out, hcons, hbd⟩)
        clear hcons
        go_wp2_with (go_at_call 32; refine (l42Bound_calls _ _ _ ts _ rfl (HT.out.ext HX.out) (smallX_of HALL.out)).use fun w4 x4 => ?_; replace x4 := hide x4)
        go_ret
        exact ⟨ret_bool (by first | exact H.out.symm | (rw [H.out]; exact decide_eq_true (by omega))), HX.out.trans x4.out⟩
      · have H := hide (intOkB_false (ts := ts) fun hh => hbd hh.2.2.2)
        clear hcons
        go_wp2_with (go_at_call 32; refine (l42Bound_calls _ _ _ ts _ rfl (HT.out.ext HX.out) (smallX_of HALL.out)).use fun w4 x4 => ?_; replace x4 := hide x4)
        go_ret
        exact ⟨ret_bool (by first | exact H.out.symm | (rw [H.out]; exact decide_eq_false (by omega))), HX.out.trans x4.out⟩

end Go.Proofs.Ytkilgbdkekpnpaa
