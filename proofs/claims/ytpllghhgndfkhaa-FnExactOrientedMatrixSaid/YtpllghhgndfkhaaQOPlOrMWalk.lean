/- The law FnExactOrientedMatrix, walked: it returns true. -/
import Derived.Test.YtpllghhgndfkhaaQOPlOrM
import Derived.Test.YtpllghhgndfkhaaQOPlWalk
namespace Go.Proofs.Ytpllghhgndfkhaa.PFnExactOrientedMatrix
open Go.RowKit Go.Proofs.YtpllghhgndfkhaaW.PrintWords Go.Proofs.YtpllghhgndfkhaaW.PrintLast Go.Proofs.YtpllghhgndfkhaaW.PrintMore

theorem specOrM_calls {w : World} (p N : Int) {lo hi : Nat} {B1 B2 B3 : Option Addr} {e1 e2 e3 : Nat} {es : List S78} {ar : List (List Int)} {o : List Int} {r1 r2 : Int} {D : List Int} {b : Bool} (h : OwnMap w lo hi (.slice B1 es.length e1) (.slice B2 ar.length e2) es ar)
    {lo' hi' : Nat} (h3 : OR (Kd.int .i64) 3 w lo' hi' (.slice B3 o.length e3) o) (hF : Evs (fun k => spec_OrientedMatrix.f k p N es ar o) (r1, r2, D, b)) :
    Calls Try.prog 20 #[.int .i64 p, .agg #[.int .i64 N, .slice B1 es.length e1, .slice B2 ar.length e2], .slice B3 o.length e3] w fun e w' => ∃ A c, e = .returned (.tuple #[.agg #[.int .i64 r1, .int .i64 r2, .slice A D.length c], .bool b]) ∧ OR (Kd.int .i64) 3 w' w.heap.size w'.heap.size (.slice A D.length c) D ∧ Ext w w' := by
  obtain ⟨K, hK⟩ := hF.at_
  have s1 := Kd.R_reads' h.o1
  have s2 := Kd.S_reads' h.o2
  have s3 := Kd.R_reads' h3
  refine (spec_OrientedMatrix.calls K p N B1 e1 es B2 e2 ar B3 e3 o r1 r2 D b w s1.2.2 s1.2.1 s2.2.2 s2.2.1 s3.2.2 s3.2.1 hK).mono ?_
  rintro e w' ⟨v, rfl, hR, hx⟩
  obtain ⟨A, c, rfl⟩ := Kd.R_slice hR
  exact ⟨A, c, rfl, OR.of hR, hx⟩
theorem implOrM_calls {w : World} (p N : Int) {lo hi : Nat} {B1 B2 B3 : Option Addr} {e1 e2 e3 : Nat} {es : List S78} {ar : List (List Int)} {o : List Int} {r1 r2 : Int} {D : List Int} {b : Bool} (h : OwnMap w lo hi (.slice B1 es.length e1) (.slice B2 ar.length e2) es ar)
    {lo' hi' : Nat} (h3 : OR (Kd.int .i64) 3 w lo' hi' (.slice B3 o.length e3) o) (hF : Evs (fun k => impl_OrientedMatrix.f k p N es ar o) (r1, r2, D, b)) :
    Calls Try.prog 22 #[.int .i64 p, .agg #[.int .i64 N, .slice B1 es.length e1, .slice B2 ar.length e2], .slice B3 o.length e3] w fun e w' => ∃ A c, e = .returned (.tuple #[.agg #[.int .i64 r1, .int .i64 r2, .slice A D.length c], .bool b]) ∧ OR (Kd.int .i64) 3 w' w.heap.size w'.heap.size (.slice A D.length c) D ∧ Ext w w' := by
  obtain ⟨K, hK⟩ := hF.at_
  have s1 := Kd.R_reads' h.o1
  have s2 := Kd.S_reads' h.o2
  have s3 := Kd.R_reads' h3
  refine (impl_OrientedMatrix.calls K p N B1 e1 es B2 e2 ar B3 e3 o r1 r2 D b w s1.2.2 s1.2.1 s2.2.2 s2.2.1 s3.2.2 s3.2.1 hK).mono ?_
  rintro e w' ⟨v, rfl, hR, hx⟩
  obtain ⟨A, c, rfl⟩ := Kd.R_slice hR
  exact ⟨A, c, rfl, OR.of hR, hx⟩

theorem size_alloc (w : World) (o : Obj) : (w.alloc o).heap.size = w.heap.size + 1 := by simp

set_option maxRecDepth 100000 in
set_option maxHeartbeats 8000000 in
theorem lawOrM_calls (p N : Int) (A1 : Option Addr) (c1 : Nat) (es : List S127) (A2 : Option Addr) (c2 : Nat) (ar : List (List Int)) (A3 : Option Addr) (c3 : Nat) (o : List Int) (W : World) (q : MapArg W A1 c1 es A2 c2 ar) (q3 : IntArg W A3 c3 o) (q5 : ∀ x ∈ ar, x.length ≤ 9223372036854775807) :
    Calls Try.prog 5 #[.int .i64 p, .agg #[.int .i64 N, .slice A1 es.length c1, .slice A2 ar.length c2], .slice A3 o.length c3] W fun e w' => e = .returned (.bool true) ∧ Ext W w' := by
  have ho63 := q3.C.2.1
  obtain ⟨t, ht, hb⟩ := szPlanarMap_ev N es ar q.C1.2.1 q.C2.2.1 q5
  obtain ⟨K0, hK0⟩ := ht.at_
  have x0 : Ext W (W.alloc (.cells #[.int .i64 N, .slice A1 es.length c1, .slice A2 ar.length c2] 27)) := (Ext.refl _).alloc _
  have B0 : Blk (W.alloc (.cells #[.int .i64 N, .slice A1 es.length c1, .slice A2 ar.length c2] 27)) W.heap.size 27 #[.int .i64 N, .slice A1 es.length c1, .slice A2 ar.length c2] := Blk.new _ _ _
  have HC := hide (laws_szPlanarMap.calls K0 N A1 c1 es A2 c2 ar 1048576 t _ (q.ext x0).C1 q.l1 (q.ext x0).C2 q.l2 hK0)
  have Q := hide q
  have Q3 := hide q3
  replace x0 := hide x0
  replace B0 := hide B0
  clear q q3 hK0 ht q5
  by_cases ho : 1048576 < o.length
  · go_enter Try.func5, Try.ntmps5
    go_wp2_with fail
    go_ret
    exact ⟨rfl, x0.out⟩
  have ho' : o.length ≤ 1048576 := by omega
  clear ho
  go_enter Try.func5, Try.ntmps5
  go_wp2_with fail
  (with_reducible refine HC.out.mono ?_)
  rintro e w1 ⟨rfl, y1⟩
  have X1 : Hid (Ext W w1) := hide (x0.out.trans y1)
  have B1 := B0.out.ext y1
  obtain ⟨d0, d1, d2, _, _, _, d6⟩ := blk3c B1
  replace B1 := hide B1
  clear y1 HC x0 B0
  by_cases h0 : t < 0
  · go_wp2_with fail
    go_ret
    exact ⟨rfl, X1.out⟩
  obtain ⟨_, b1, b2, b3⟩ := hb (by omega)
  clear hb
  obtain ⟨es', hes⟩ : ∃ es', es' = es.map cvE := ⟨_, rfl⟩
  obtain ⟨r1, r2, D, b, f1, f2, hDl⟩ := OrientedMatrix_ev p N es' ar o b2 b3 ho'
  have b1' : es'.length ≤ 1048576 := by rw [hes]; simpa using b1
  have b3' : flen ar ≤ 1048576 := b3
  have tb : (b != b) = false := by simp
  replace b3 := hide b3
  replace hes := hide hes
  replace f1 := hide f1
  replace f2 := hide f2
  go_wp2_with fail
  (with_reducible refine (toMap_calls N es' hes.out (Q.out.ext X1.out) b1 b2 b3.out).mono ?_)
  rintro e w2 ⟨P1, p1, P2, p2, rfl, m2, y2⟩
  have X2 : Hid (Ext W w2) := hide (X1.out.trans y2)
  have B2 := hide (B1.out.ext y2)
  replace m2 := hide m2
  clear y2 B1 X1 d0 d1 d2 d6
  go_wp2_with fail
  (with_reducible refine (toInts_calls (Q3.out.ext X2.out) ho').mono ?_)
  rintro e w3 ⟨P3, p3, rfl, o3, y3⟩
  have X3 : Hid (Ext W w3) := hide (X2.out.trans y3)
  have B3 := hide (B2.out.ext y3)
  have m3 := hide (m2.out.ext y3)
  replace o3 := hide o3
  clear y3 B2 X2 m2
  go_wp2_with fail
  (with_reducible refine (specOrM_calls p N m3.out o3.out f1.out).mono ?_)
  rintro e w4 ⟨AS, cS, rfl, oS, y4⟩
  have y5 : Ext w3 (w4.alloc (.cells #[.int .i64 r1, .int .i64 r2, .slice AS D.length cS] 44)) := y4.alloc _
  have X5 : Hid (Ext W (w4.alloc (.cells #[.int .i64 r1, .int .i64 r2, .slice AS D.length cS] 44))) := hide (X3.out.trans y5)
  have B5 := B3.out.ext y5
  have E5 : Hid (Blk (w4.alloc (.cells #[.int .i64 r1, .int .i64 r2, .slice AS D.length cS] 44)) w4.heap.size 44 #[.int .i64 r1, .int .i64 r2, .slice AS D.length cS]) := hide (Blk.new _ _ _)
  have S5 := hide (oS.ext ((Ext.refl _).alloc (.cells #[.int .i64 r1, .int .i64 r2, .slice AS D.length cS] 44)))
  obtain ⟨d0, d1, d2, _, _, _, d6⟩ := blk3c B5
  have z3 := X3.out.size
  have z34 := y4.size
  replace B5 := hide B5
  have z5 := size_alloc w4 (.cells #[.int .i64 r1, .int .i64 r2, .slice AS D.length cS] 44)
  clear y4 y5 oS B3 X3 m3 o3
  go_wp2_with fail
  generalize w4.alloc (.cells #[.int .i64 r1, .int .i64 r2, .slice AS D.length cS] 44) = w5 at X5 B5 E5 S5 d0 d1 d2 d6 z5 ⊢
  (with_reducible refine (toMap_calls N es' hes.out (Q.out.ext X5.out) b1 b2 b3.out).mono ?_)
  rintro e w6 ⟨P1, p1, P2, p2, rfl, m6, y6⟩
  rw [z5] at m6
  have y7 : Ext w5 (w6.alloc (.cells #[.int .i64 N, .slice P1 es'.length p1, .slice P2 ar.length p2] 34)) := y6.alloc _
  have X7 : Hid (Ext W (w6.alloc (.cells #[.int .i64 N, .slice P1 es'.length p1, .slice P2 ar.length p2] 34))) := hide (X5.out.trans y7)
  have B7 := hide (B5.out.ext y7)
  have E7 := hide (E5.out.ext y7)
  have S7 := hide (S5.out.ext y7)
  have M7 := hide (m6.ext ((Ext.refl _).alloc (.cells #[.int .i64 N, .slice P1 es'.length p1, .slice P2 ar.length p2] 34)))
  have G7 : Hid (Blk (w6.alloc (.cells #[.int .i64 N, .slice P1 es'.length p1, .slice P2 ar.length p2] 34)) w6.heap.size 34 #[.int .i64 N, .slice P1 es'.length p1, .slice P2 ar.length p2]) := hide (Blk.new _ _ _)
  have z56 := y6.size
  have z7 := size_alloc w6 (.cells #[.int .i64 N, .slice P1 es'.length p1, .slice P2 ar.length p2] 34)
  clear y6 y7 m6 X5 B5 E5 S5 d0 d1 d2 d6
  go_wp2_with fail
  generalize w6.alloc (.cells #[.int .i64 N, .slice P1 es'.length p1, .slice P2 ar.length p2] 34) = w7 at X7 B7 E7 S7 M7 G7 z7 ⊢
  (with_reducible refine (toInts_calls (Q3.out.ext X7.out) ho').mono ?_)
  rintro e w8 ⟨P3, p3, rfl, o8, y8⟩
  rw [z7] at o8
  have X8 : Hid (Ext W w8) := hide (X7.out.trans y8)
  have B8 := hide (B7.out.ext y8)
  have E8 := hide (E7.out.ext y8)
  have S8 := hide (S7.out.ext y8)
  have M8 := hide (M7.out.ext y8)
  have G8 := G7.out.ext y8
  have z78 := y8.size
  obtain ⟨k0, k1, k2, _, _, _, k6⟩ := blk3c G8
  replace G8 := hide G8
  replace o8 := hide o8
  clear y8 X7 B7 E7 S7 M7 G7
  go_wp2_with fail
  (with_reducible refine (implOrM_calls p N M8.out o8.out f2.out).mono ?_)
  rintro e w9 ⟨AI, cI, rfl, oI, y9⟩
  have y10 : Ext w8 (w9.alloc (.cells #[.int .i64 r1, .int .i64 r2, .slice AI D.length cI] 44)) := y9.alloc _
  have X10 : Hid (Ext W (w9.alloc (.cells #[.int .i64 r1, .int .i64 r2, .slice AI D.length cI] 44))) := hide (X8.out.trans y10)
  have B10 := hide (B8.out.ext y10)
  have E10 := E8.out.ext y10
  have S10 := hide (S8.out.ext y10)
  have M10 := hide (M8.out.ext y10)
  have G10 := hide (G8.out.ext y10)
  have O10 := hide (o8.out.ext y10)
  have I10 := hide (oI.ext ((Ext.refl _).alloc (.cells #[.int .i64 r1, .int .i64 r2, .slice AI D.length cI] 44)))
  have H10 : Blk (w9.alloc (.cells #[.int .i64 r1, .int .i64 r2, .slice AI D.length cI] 44)) w9.heap.size 44 #[.int .i64 r1, .int .i64 r2, .slice AI D.length cI] := Blk.new _ _ _
  have z89 := y9.size
  have z10 := size_alloc w9 (.cells #[.int .i64 r1, .int .i64 r2, .slice AI D.length cI] 44)
  obtain ⟨n0, n1, n2, _, _, _, n6⟩ := blk3c E10
  replace H10 := hide H10
  replace E10 := hide E10
  clear y9 y10 oI X8 B8 E8 S8 M8 G8 o8 k0 k1 k2 k6
  go_wp2_with fail
  generalize w9.alloc (.cells #[.int .i64 r1, .int .i64 r2, .slice AI D.length cI] 44) = w10 at X10 B10 E10 S10 M10 G10 O10 I10 H10 z10 n0 n1 n2 n6 ⊢
  (with_reducible refine (eqMat_calls r1 r2 I10.out S10.out (by omega)).mono ?_)
  rintro e w11 ⟨rfl, y11⟩
  have X11 : Hid (Ext W w11) := hide (X10.out.trans y11)
  have B11 := B10.out.ext y11
  have E11 := hide (E10.out.ext y11)
  have S11 := hide (S10.out.ext y11)
  have M11 := hide (M10.out.ext y11)
  have G11 := G10.out.ext y11
  have O11 := hide (O10.out.ext y11)
  have I11 := hide (I10.out.ext y11)
  have H11 := hide (H10.out.ext y11)
  have z11 := y11.size
  obtain ⟨d0, d1, d2, _, _, _, d6⟩ := blk3c B11
  obtain ⟨k0, k1, k2, _, _, _, k6⟩ := blk3c G11
  replace B11 := hide B11
  replace G11 := hide G11
  clear y11 X10 B10 E10 S10 M10 G10 O10 I10 H10 n0 n1 n2 n6
  go_upto_region 13 with fail
  go_cut [60] (fun s60 wx => s60 = .bool false ∧ Ext w11 wx)
  case first =>
    go_region_with (first
      | (go_at_call 11; refine (toMap_calls N es' hes.out (Q.out.ext X11.out.drew) b1 b2 b3.out).mono ?_; rintro e w12 ⟨R1, r1', R2, r2', rfl, m12, y12⟩; have e0 := y12.cell (a := ⟨w6.heap.size, 0, none⟩) (v := .int .i64 N) k0; have e1 := y12.cell (a := ⟨w6.heap.size, 1, none⟩) (v := .slice P1 es'.length p1) k1; have e2 := y12.cell (a := ⟨w6.heap.size, 2, none⟩) (v := .slice P2 ar.length p2) k2; have Y12 := hide ((Ext.refl w11).drew.trans y12); clear y12)
      | (go_at_call 14; refine (eqMap_calls N (M11.out.ext Y12.out) m12 b1' b2 b3.out).mono ?_; rintro e w13 ⟨rfl, y13⟩; have Y13 := hide (Y12.out.trans y13); clear y13))
    all_goals (go_wp2_with fail; go_meet; exact ⟨rfl, Y13.out⟩)
  case rest =>
    obtain ⟨rfl, Y⟩ := hcut
    have Xc : Hid (Ext W wc) := hide (X11.out.trans Y)
    have Bc := hide (B11.out.ext Y)
    have Ec := hide (E11.out.ext Y)
    have Sc := hide (S11.out.ext Y)
    have Mc := hide (M11.out.ext Y)
    have Gc := hide (G11.out.ext Y)
    have Oc := hide (O11.out.ext Y)
    have Ic := hide (I11.out.ext Y)
    have Hc := hide (H11.out.ext Y)
    have zc := Y.size
    clear Y X11 B11 E11 S11 M11 G11 O11 I11 H11 d0 d1 d2 d6 k0 k1 k2 k6
    go_wp2_with fail
    (with_reducible refine (toInts_calls (Q3.out.ext Xc.out) ho').mono ?_)
    rintro e w14 ⟨R3, r3, rfl, o14, y14⟩
    have X14 : Hid (Ext W w14) := hide (Xc.out.trans y14)
    have B14 := hide (Bc.out.ext y14)
    have E14 := hide (Ec.out.ext y14)
    have S14 := hide (Sc.out.ext y14)
    have M14 := hide (Mc.out.ext y14)
    have G14 := hide (Gc.out.ext y14)
    have O14 := hide (Oc.out.ext y14)
    have I14 := hide (Ic.out.ext y14)
    have H14 := hide (Hc.out.ext y14)
    have z14 := y14.size
    replace o14 := hide o14
    clear y14 Xc Bc Ec Sc Mc Gc Oc Ic Hc
    go_wp2_with fail
    (with_reducible refine (eqInts_calls O14.out o14.out ho').mono ?_)
    rintro e w15 ⟨rfl, y15⟩
    have X15 : Hid (Ext W w15) := hide (X14.out.trans y15)
    have B15 := hide (B14.out.ext y15)
    have E15 := hide (E14.out.ext y15)
    have S15 := hide (S14.out.ext y15)
    have M15 := M14.out.ext y15
    have G15 := G14.out.ext y15
    have O15 := hide (O14.out.ext y15)
    have I15 := hide (I14.out.ext y15)
    have H15 := hide (H14.out.ext y15)
    have z15 := y15.size
    obtain ⟨k0, k1, k2, _, _, _, k6⟩ := blk3c G15
    obtain ⟨wa, hwa, xa⟩ := trunc w15 (w4.heap.size + 1) (by omega)
    rw [← hwa] at M15
    replace hwa := hide hwa
    clear y15 X14 B14 E14 S14 M14 G14 O14 I14 H14 o14
    go_wp2_with fail
    (with_reducible refine (markPlanarMap_calls N _ _ w6.heap.size es' ar wa w15 xa (by omega) M15.o1 M15.o2 b1' b2 b3').mono ?_)
    rintro e w16 ⟨rfl, g16⟩
    rw [hwa.out] at g16
    have X16 : Hid (Ext W w16) := hide (g16.ext X15.out fun k hk => by omega)
    have B16 := hide (B15.out.chg g16 (by omega))
    have E16 := hide (E15.out.chg g16 (by omega))
    have S16 := hide (S15.out.apart g16 (.inl (by omega)))
    have O16 := O15.out.apart g16 (.inr (by omega))
    have I16 := hide (I15.out.apart g16 (.inr (by omega)))
    have H16 := hide (H15.out.chg g16 (by omega))
    have z16 := g16.size
    obtain ⟨wb, hwb, xb⟩ := trunc w16 (w6.heap.size + 1) (by omega)
    rw [← hwb] at O16
    replace hwb := hide hwb
    clear g16 xa M15 G15 X15 B15 E15 S15 O15 I15 H15 k0 k1 k2 k6
    go_wp2_with fail
    (with_reducible refine (markInts_calls _ w8.heap.size o _ wb w16 xb O16 ho' (by omega) (by omega)).mono ?_)
    rintro e w17 ⟨rfl, _, g17⟩
    rw [hwb.out] at g17
    have X17 : Hid (Ext W w17) := hide (g17.ext X16.out fun k hk => by omega)
    have B17 := hide (B16.out.chg g17 (by omega))
    have E17 := E16.out.chg g17 (by omega)
    have S17 := hide (S16.out.apart g17 (.inl (by omega)))
    have I17 := hide (I16.out.apart g17 (.inr (by omega)))
    have H17 := H16.out.chg g17 (by omega)
    have z17 := g17.size
    obtain ⟨n0, n1, n2, _, _, _, n6⟩ := blk3c E17
    obtain ⟨v0, v1, v2, _, _, _, v6⟩ := blk3c H17
    replace E17 := hide E17
    replace H17 := hide H17
    clear g17 xb O16 X16 B16 E16 S16 I16 H16
    go_wp2_with fail
    (with_reducible refine (eqMat_calls r1 r2 I17.out S17.out (by omega)).mono ?_)
    rintro e w18 ⟨rfl, y18⟩
    have X18 : Hid (Ext W w18) := hide (X17.out.trans y18)
    have B18 := hide (B17.out.ext y18)
    have E18 := hide (E17.out.ext y18)
    have S18 := hide (S17.out.ext y18)
    have I18 := I17.out.ext y18
    have H18 := H17.out.ext y18
    have z18 := y18.size
    clear n0 n1 n2 n6 v0 v1 v2 v6
    obtain ⟨v0, v1, v2, _, _, _, v6⟩ := blk3c H18
    obtain ⟨wd, hwd, xd⟩ := trunc w18 w8.heap.size (by omega)
    rw [← hwd] at I18
    replace H18 := hide H18
    replace hwd := hide hwd
    clear y18 X17 B17 E17 S17 I17 H17
    go_wp2_with fail
    (with_reducible refine (markMat_calls r1 r2 _ w9.heap.size D wd w18 xd I18 (by omega)).mono ?_)
    rintro e w19 ⟨rfl, I19, g19⟩
    rw [hwd.out] at g19
    have X19 : Hid (Ext W w19) := hide (g19.ext X18.out fun k hk => by omega)
    have B19 := hide (B18.out.chg g19 (by omega))
    have E19 := hide (E18.out.chg g19 (by omega))
    have S19 := hide (S18.out.apart g19 (.inl (by omega)))
    have H19 := H18.out.chg g19 (by omega)
    obtain ⟨v0, v1, v2, _, _, _, v6⟩ := blk3c H19
    replace H19 := hide H19
    replace I19 := hide I19
    have tm : ((1 + (D.length : Int)) != (1 + (D.length : Int))) = false := by simp
    clear g19 xd I18 X18 B18 E18 S18 H18
    go_wp2_with fail
    (with_reducible refine (heldMat_calls r1 r2 I19.out (by omega)).mono ?_)
    rintro e w20 ⟨rfl, y20⟩
    have X20 : Hid (Ext W w20) := hide (X19.out.trans y20)
    have B20 := B19.out.ext y20
    have E20 := hide (E19.out.ext y20)
    have S20 := hide (S19.out.ext y20)
    have I20 := hide (I19.out.ext y20)
    have H20 := hide (H19.out.ext y20)
    obtain ⟨d0, d1, d2, _, _, _, d6⟩ := blk3c B20
    clear y20 X19 B19 B20 E19 S19 I19 H19 v0 v1 v2 v6
    go_wp2_with fail
    (with_reducible refine (toMap_calls N es' hes.out (Q.out.ext X20.out) b1 b2 b3.out).mono ?_)
    rintro e w21 ⟨T1, t1, T2, t2, rfl, m21, y21⟩
    have X21 : Hid (Ext W w21) := hide (X20.out.trans y21)
    have E21 := hide (E20.out.ext y21)
    have S21 := hide (S20.out.ext y21)
    have I21 := hide (I20.out.ext y21)
    have H21 := hide (H20.out.ext y21)
    replace m21 := hide m21
    clear y21 X20 E20 S20 I20 H20 d0 d1 d2 d6
    go_wp2_with fail
    (with_reducible refine (toInts_calls (Q3.out.ext X21.out) ho').mono ?_)
    rintro e w22 ⟨T3, t3, rfl, o22, y22⟩
    have X22 : Hid (Ext W w22) := hide (X21.out.trans y22)
    have E22 := hide (E21.out.ext y22)
    have S22 := hide (S21.out.ext y22)
    have I22 := hide (I21.out.ext y22)
    have H22 := hide (H21.out.ext y22)
    have m22 := hide (m21.out.ext y22)
    replace o22 := hide o22
    clear y22 X21 E21 S21 I21 H21 m21
    go_wp2_with fail
    (with_reducible refine (implOrM_calls p N m22.out o22.out f2.out).mono ?_)
    rintro e w23 ⟨AJ, cJ, rfl, oJ, y23⟩
    have y24 : Ext w22 (w23.alloc (.cells #[.int .i64 r1, .int .i64 r2, .slice AJ D.length cJ] 44)) := y23.alloc _
    have X24 : Hid (Ext W (w23.alloc (.cells #[.int .i64 r1, .int .i64 r2, .slice AJ D.length cJ] 44))) := hide (X22.out.trans y24)
    have E24 := E22.out.ext y24
    have S24 := hide (S22.out.ext y24)
    have I24 := hide (I22.out.ext y24)
    have H24 := hide (H22.out.ext y24)
    have J24 := hide (oJ.ext ((Ext.refl _).alloc (.cells #[.int .i64 r1, .int .i64 r2, .slice AJ D.length cJ] 44)))
    obtain ⟨n0, n1, n2, _, _, _, n6⟩ := blk3c E24
    clear y23 y24 oJ X22 E22 E24 S22 I22 H22 m22 o22
    go_wp2_with fail
    generalize w23.alloc (.cells #[.int .i64 r1, .int .i64 r2, .slice AJ D.length cJ] 44) = w24 at X24 S24 I24 H24 J24 n0 n1 n2 n6 ⊢
    (with_reducible refine (eqMat_calls r1 r2 J24.out S24.out (by omega)).mono ?_)
    rintro e w25 ⟨rfl, y25⟩
    have X25 : Hid (Ext W w25) := hide (X24.out.trans y25)
    have I25 := hide (I24.out.ext y25)
    have H25 := H24.out.ext y25
    obtain ⟨v0, v1, v2, _, _, _, v6⟩ := blk3c H25
    clear y25 X24 S24 I24 H24 H25 J24 n0 n1 n2 n6
    go_wp2_with fail
    (with_reducible refine (heldMat_calls r1 r2 I25.out (by omega)).mono ?_)
    rintro e w26 ⟨rfl, y26⟩
    have X26 : Hid (Ext W w26) := hide (X25.out.trans y26)
    clear y26 X25 I25 v0 v1 v2 v6
    go_wp2_with fail
    go_ret
    exact ⟨rfl, X26.out⟩

end Go.Proofs.Ytpllghhgndfkhaa.PFnExactOrientedMatrix
