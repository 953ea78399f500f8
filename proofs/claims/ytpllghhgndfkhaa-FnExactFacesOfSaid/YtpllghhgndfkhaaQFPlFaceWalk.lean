/- The law FnExactFacesOf, walked: it returns true. -/
import Derived.Test.YtpllghhgndfkhaaQFPlFace
import Derived.Test.YtpllghhgndfkhaaQFPlMapLaw
import Derived.Test.YtpllghhgndfkhaaQFPlMark
import Derived.Deep.RegionWith
import Derived.Deep.DeepCutAuto
import Derived.Outline
namespace Go.Proofs.Ytpllghhgndfkhaa.PFnExactFacesOf
open Go.RowKit Go.Proofs.YtpllghhgndfkhaaW.PrintWords Go.Proofs.YtpllghhgndfkhaaW.PrintLast Go.Proofs.YtpllghhgndfkhaaW.PrintMore

theorem markEdgeS_ev (l : List S78) (m : Int) (hl : l.length ≤ 1048576) (h0 : 0 ≤ m) (h1 : m ≤ 1000) : ∃ r, Evs (fun k => laws_markEdgeS.f k l m) (m + 2 * (l.length : Int), r) := by
  have key : ∀ (d i : Nat) (x : List S78), x.length = l.length → i + d = l.length → ∃ r, Evs (fun k => laws_markEdgeS.l0 k x (m + 2 * (i : Int)) i) (m + 2 * (l.length : Int), r) := by
    intro d
    induction d with
    | zero =>
      intro i x hx hi
      obtain rfl : i = l.length := by omega
      exact ⟨x, Evs.step (fun k => by simp only [laws_markEdgeS.l0]; rfl) (Evs.neg (by omega) (Evs.const _))⟩
    | succ d ih =>
      intro i x hx hi
      obtain ⟨r, hr⟩ := ih (i + 1) ((x.set ((i : Int)).toNat ⟨m + 2 * (i : Int), (rd_T78 x (i : Int)).f1⟩).set ((i : Int)).toNat ⟨(rd_T78 (x.set ((i : Int)).toNat ⟨m + 2 * (i : Int), (rd_T78 x (i : Int)).f1⟩) (i : Int)).f0, m + 2 * (i : Int) + 1⟩) (by simpa using hx) (by omega)
      · refine ⟨r, Evs.step (fun k => by simp only [laws_markEdgeS.l0]; rfl) (Evs.pos (by omega) (Evs.pos (by omega) (Evs.bindc rfl ?_)))⟩
        rw [w64 (x := m + 2 * (i : Int) + 1) (by omega) (by omega), w64 (x := m + 2 * (i : Int) + 1 + 1) (by omega) (by omega), w64 (x := (i : Int) + 1) (by omega) (by omega),
          show m + 2 * (i : Int) + 1 + 1 = m + 2 * ((i + 1 : Nat) : Int) by omega]
        exact hr
  obtain ⟨r, hr⟩ := key l.length 0 l rfl (by omega)
  exact ⟨r, by unfold laws_markEdgeS.f; simpa using hr⟩
theorem markGraph_ev (N : Int) (l : List S78) (m : Int) (hl : l.length ≤ 1048576) (h0 : 0 ≤ m) (h1 : m ≤ 1000) : ∃ r, Evs (fun k => laws_markGraph.f k N l m) (m + 2 * (l.length : Int), r) := by
  obtain ⟨r, hr⟩ := markEdgeS_ev l m hl h0 h1
  exact ⟨r, by unfold laws_markGraph.f; exact Evs.bind hr (Evs.const _)⟩

theorem blk3c {w : World} {b : Nat} {t : TypeId} {v0 v1 v2 : Value} (h : Blk w b t #[v0, v1, v2]) :
    w.cell? ⟨b, 0, none⟩ = some v0 ∧ w.cell? ⟨b, 1, none⟩ = some v1 ∧ w.cell? ⟨b, 2, none⟩ = some v2 ∧ w.frozen? ⟨b, 0, none⟩ = false ∧ w.frozen? ⟨b, 1, none⟩ = false ∧ w.frozen? ⟨b, 2, none⟩ = false ∧ b < w.heap.size := by
  have h0 := h.cell 0; have h1 := h.cell 1; have h2 := h.cell 2
  simp at h0 h1 h2
  exact ⟨h0, h1, h2, h.frozen 0, h.frozen 1, h.frozen 2, h.lt⟩

theorem S_apart_ {α : Type} {d : Kd α} {e e' : Nat} {W : World} {base : Nat} {ok : Nat → Prop} {u v : Value} {xs : List α} (h : Kd.S d e W base ok u xs) (hty : ∀ k, v.ownBlock = some k → ∃ cells, W.heap[k]? = some (.cells cells e' (0, 0))) (ht : ∀ q, q ∈ e :: d.E → q ≠ e') : Kd.S d e W base (fun k => ok k ∧ some k ≠ v.ownBlock) u xs := by
  obtain ⟨f, h⟩ := h
  exact ⟨f, Kd.R_apart' h hty ht⟩

set_option maxRecDepth 100000 in
set_option maxHeartbeats 2000000 in
theorem markPlanarMap_calls (N : Int) (v1 v2 : Value) (hi : Nat) (es : List S78) (ar : List (List Int)) (wb w : World) (hB : Ext wb w) (hhi : hi ≤ w.heap.size) (h1 : OR k78 78 w wb.heap.size hi v1 es) (h2 : OS w wb.heap.size hi v2 ar)
    (b1 : es.length ≤ 1048576) (b2 : ar.length ≤ 1048576) (b3 : flen ar ≤ 1048576) :
    Calls Try.prog 15 #[.agg #[.int .i64 N, v1, v2], .int .i64 1] w fun e w' => e = .returned (.int .i64 (1 + 2 * (es.length : Int) + (flen ar : Int))) ∧ Chg (fun k => wb.heap.size ≤ k ∧ k < hi) w w' := by
  obtain ⟨A1, c1, rfl, l1, C1⟩ := h1.reads
  obtain ⟨A2, c2, rfl, l2, C2⟩ := h2.reads
  obtain ⟨r2, hr2⟩ := markGraph_ev N es 1 b1 (by omega) (by omega)
  obtain ⟨K, hK⟩ := hr2.at_
  have x0 : Ext w (w.alloc (.cells #[.int .i64 N, .slice A1 es.length c1, .slice A2 ar.length c2] 34)) := (Ext.refl _).alloc _
  have B0 : Blk (w.alloc (.cells #[.int .i64 N, .slice A1 es.length c1, .slice A2 ar.length c2] 34)) w.heap.size 34 #[.int .i64 N, .slice A1 es.length c1, .slice A2 ar.length c2] := Blk.new _ _ _
  have hR := h1.ext x0
  have hS := h2.ext x0
  have hlt : ∀ k, (Value.slice A1 es.length c1).ownBlock = some k → wb.heap.size ≤ k ∧ k < hi := fun k hk => h1.1 k hk
  have HX := hide (hB.trans x0)
  have HC := laws_markGraph.calls K N (fun q => some q = (Value.slice A1 es.length c1).ownBlock) (.slice A1 es.length c1) es 1 _ _ wb _ HX.out (Kd.R_tight rfl hR) hK
  have HS1 := hide (S_apart_ hS (Kd.R_typed hR) (by decide))
  replace HC := hide HC
  replace hlt := hide hlt
  replace B0 := hide B0
  replace x0 := hide x0
  clear h1 h2 hK hr2 C1 C2 hR hS
  go_enter Try.func15, Try.ntmps15
  go_wp2_with fail
  (with_reducible refine HC.out.mono ?_)
  rintro e w1 ⟨rfl, hR1, hB1, hkp⟩
  have hsz := hkp.1
  have hc1 := hide (chg_of HX.out hB1 hkp)
  have B1 := B0.out.chg hc1.out (fun e => by have := hlt.out _ e.symm; omega)
  have hS1 : Hid (OS w1 wb.heap.size hi (.slice A2 ar.length c2) ar) := hide (Kd.S_mono (Kd.S_step HS1.out (fun k hk hl => hkp.2 k hl (fun h => hk.2 h))) fun _ hk => hk.1)
  obtain ⟨d0, d1, d2, _, _, _, d6⟩ := blk3c B1
  replace hB1 := hide hB1
  clear hR1 hkp HC HS1 B1 B0
  go_wp2_with fail
  have HC := markIntSS_calls (.slice A2 ar.length c2) hi ar (1 + 2 * (es.length : Int)) wb w1 hB1.out hS1.out b2 b3 (by omega) (by omega)
  (with_reducible refine HC.mono ?_)
  rintro e w2 ⟨rfl, hS2, hc2, hx2⟩
  have hc2' := hide hc2
  clear HC hS2 hc2 hx2
  go_wp2_with fail
  go_ret
  refine ⟨rfl, ((x0.out.chg _).trans (hc1.out.mono fun k hk => hlt.out k hk.symm)).trans hc2'.out⟩

/-- A world with fewer blocks. -/
theorem trunc (w : World) (n : Nat) (h : n ≤ w.heap.size) : ∃ wb : World, wb.heap.size = n ∧ Ext wb w := by
  refine ⟨{ w with heap := w.heap.extract 0 n }, by simp; omega, rfl, rfl, rfl, by simp; omega, fun i hi => ?_⟩
  have hi' : i < n := by simp at hi; omega
  simp [Array.getElem?_extract]
  intro _
  omega

/-- Blocks outside the marked ones. -/
theorem OS.apart {w w' : World} {a b lo hi : Nat} {v : Value} {l : List (List Int)} (h : OS w a b v l) (hx : Chg (fun k => lo ≤ k ∧ k < hi) w w') (hd : b ≤ lo ∨ hi ≤ a) : OS w' a b v l :=
  h.chg hx fun k h1 h2 h3 => by omega

/-- A law's argument of type PlanarMap. -/
structure MapArg (w : World) (A1 : Option Addr) (c1 : Nat) (es : List S127) (A2 : Option Addr) (c2 : Nat) (ar : List (List Int)) : Prop where
  C1 : Kd.C k127 w A1 es.length es
  l1 : es.length ≤ c1
  C2 : Kd.C (Kd.slice 3 (Kd.int .i64)) w A2 ar.length ar
  l2 : ar.length ≤ c2
section
variable {w w' : World} {A1 : Option Addr} {c1 : Nat} {es : List S127} {A2 : Option Addr} {c2 : Nat} {ar : List (List Int)}
theorem MapArg.ext (h : MapArg w A1 c1 es A2 c2 ar) (hx : Ext w w') : MapArg w' A1 c1 es A2 c2 ar := ⟨Kd.C_below h.C1 hx, h.l1, Kd.C_below h.C2 hx, h.l2⟩

/-- A map of the program's own kind. -/
structure OwnMap (w : World) (lo hi : Nat) (v1 v2 : Value) (es : List S78) (ar : List (List Int)) : Prop where
  o1 : OR k78 78 w lo hi v1 es
  o2 : OS w lo hi v2 ar
theorem OwnMap.ext {lo hi : Nat} {v1 v2 : Value} {es : List S78} (h : OwnMap w lo hi v1 v2 es ar) (hx : Ext w w') : OwnMap w' lo hi v1 v2 es ar := ⟨h.o1.ext hx, h.o2.ext hx⟩

theorem toMap_calls (N : Int) (es' : List S78) (he : es' = es.map cvE) (h : MapArg w A1 c1 es A2 c2 ar) (b1 : es.length ≤ 1048576) (b2 : ar.length ≤ 1048576) (b3 : ar.flatten.length ≤ 1048576) :
    Calls Try.prog 11 #[.agg #[.int .i64 N, .slice A1 es.length c1, .slice A2 ar.length c2]] w fun e w' => ∃ B1 e1 B2 e2, e = .returned (.agg #[.int .i64 N, .slice B1 es'.length e1, .slice B2 ar.length e2]) ∧
      OwnMap w' w.heap.size w'.heap.size (.slice B1 es'.length e1) (.slice B2 ar.length e2) es' ar ∧ Ext w w' := by
  subst he
  obtain ⟨K, hK⟩ := (toPlanarMap_ev N es ar b1 b2 (inner_le b3)).at_
  refine (laws_toPlanarMap.calls K N A1 c1 es A2 c2 ar N (es.map cvE) ar w h.C1 h.l1 h.C2 h.l2 hK).mono ?_
  rintro e w' ⟨v1, v2, rfl, h1, h2, hx⟩
  obtain ⟨B1, e1, rfl⟩ := Kd.R_slice h1
  obtain ⟨B2, e2, rfl⟩ := Kd.S_slice h2
  exact ⟨B1, e1, B2, e2, rfl, ⟨OR.of h1, OS.of h2⟩, hx⟩

theorem eqMap_calls (N : Int) {lo hi lo' hi' : Nat} {B1 B2 B1' B2' : Option Addr} {e1 e2 e1' e2' : Nat} {es : List S78} (h : OwnMap w lo hi (.slice B1 es.length e1) (.slice B2 ar.length e2) es ar) (h' : OwnMap w lo' hi' (.slice B1' es.length e1') (.slice B2' ar.length e2') es ar)
    (b1 : es.length ≤ 1048576) (b2 : ar.length ≤ 1048576) (b3 : ar.flatten.length ≤ 1048576) :
    Calls Try.prog 14 #[.agg #[.int .i64 N, .slice B1 es.length e1, .slice B2 ar.length e2], .agg #[.int .i64 N, .slice B1' es.length e1', .slice B2' ar.length e2']] w fun e w' => e = .returned (.bool true) ∧ Ext w w' := by
  obtain ⟨K, hK⟩ := (eqPlanarMap_ev N es ar b1 b2 (inner_le b3)).at_
  have r1 := Kd.R_reads' h.o1
  have r2 := Kd.S_reads' h.o2
  have s1 := Kd.R_reads' h'.o1
  have s2 := Kd.S_reads' h'.o2
  exact laws_eqPlanarMap.calls K N B1 e1 es B2 e2 ar N B1' e1' es B2' e2' ar true w r1.2.2 r1.2.1 r2.2.2 r2.2.1 s1.2.2 s1.2.1 s2.2.2 s2.2.1 hK

theorem eqSS_calls {lo hi lo' hi' : Nat} {A A' : Option Addr} {c c' : Nat} {l : List (List Int)} (h : OS w lo hi (.slice A l.length c) l) (h' : OS w lo' hi' (.slice A' l.length c') l) (b1 : l.length ≤ 1048576) (b2 : ∀ x ∈ l, x.length ≤ 1048576) :
    Calls Try.prog 13 #[.slice A l.length c, .slice A' l.length c'] w fun e w' => e = .returned (.bool true) ∧ Ext w w' := by
  obtain ⟨K, hK⟩ := (eqIntSS_ev l b1 b2).at_
  have r := Kd.S_reads' h
  have s := Kd.S_reads' h'
  exact (laws_eqIntSS.calls K A c l A' c' l true w r.2.2 r.2.1 s.2.2 s.2.1 hK).mono fun e w' ⟨he, hd⟩ => ⟨he, hd.below⟩

theorem specFaces_calls (N : Int) {lo hi : Nat} {B1 B2 : Option Addr} {e1 e2 : Nat} {es : List S78} {F : List (List Int)} (h : OwnMap w lo hi (.slice B1 es.length e1) (.slice B2 ar.length e2) es ar) (hF : Evs (fun k => spec_FacesOf.f k N es ar) F) :
    Calls Try.prog 10 #[.agg #[.int .i64 N, .slice B1 es.length e1, .slice B2 ar.length e2]] w fun e w' => ∃ A c, e = .returned (.slice A F.length c) ∧ OS w' w.heap.size w'.heap.size (.slice A F.length c) F ∧ Ext w w' := by
  obtain ⟨K, hK⟩ := hF.at_
  have r1 := Kd.R_reads' h.o1
  have r2 := Kd.S_reads' h.o2
  refine (spec_FacesOf.calls K N B1 e1 es B2 e2 ar F w r1.2.2 r1.2.1 r2.2.2 r2.2.1 hK).mono ?_
  rintro e w' ⟨v, rfl, hS, hx⟩
  obtain ⟨A, c, rfl⟩ := Kd.S_slice hS
  exact ⟨A, c, rfl, OS.of hS, hx⟩
theorem implFaces_calls (N : Int) {lo hi : Nat} {B1 B2 : Option Addr} {e1 e2 : Nat} {es : List S78} {F : List (List Int)} (h : OwnMap w lo hi (.slice B1 es.length e1) (.slice B2 ar.length e2) es ar) (hF : Evs (fun k => impl_FacesOf.f k N es ar) F) :
    Calls Try.prog 12 #[.agg #[.int .i64 N, .slice B1 es.length e1, .slice B2 ar.length e2]] w fun e w' => ∃ A c, e = .returned (.slice A F.length c) ∧ OS w' w.heap.size w'.heap.size (.slice A F.length c) F ∧ Ext w w' := by
  obtain ⟨K, hK⟩ := hF.at_
  have r1 := Kd.R_reads' h.o1
  have r2 := Kd.S_reads' h.o2
  refine (impl_FacesOf.calls K N B1 e1 es B2 e2 ar F w r1.2.2 r1.2.1 r2.2.2 r2.2.1 hK).mono ?_
  rintro e w' ⟨v, rfl, hS, hx⟩
  obtain ⟨A, c, rfl⟩ := Kd.S_slice hS
  exact ⟨A, c, rfl, OS.of hS, hx⟩

theorem heldSS_calls {lo hi : Nat} {A : Option Addr} {c : Nat} {l : List (List Int)} (h : OS w lo hi (.slice A l.length c) (mkP 1 l l.length)) (b1 : l.length ≤ 1048576) (b2 : flen l ≤ 1048576) :
    Calls Try.prog 17 #[.slice A l.length c, .int .i64 1] w fun e w' => e = .returned (.int .i64 (1 + (flen l : Int))) ∧ Ext w w' := by
  obtain ⟨K, hK⟩ := (heldIntSS_ev 1 l b1 b2 (by omega) (by omega)).at_
  have r := Kd.S_reads' h
  have e := mkP_length 1 l l.length
  have hC := laws_heldIntSS.calls K A c (mkP 1 l l.length) 1 _ w r.2.2 (by rw [← r.1]; exact r.2.1) hK
  rw [e] at hC
  exact hC.mono fun e w' ⟨he, hd⟩ => ⟨he, hd.below⟩
end

theorem faces_small {N : Int} {es : List S78} {ar F : List (List Int)} (h1 : mapP N es ar → FaceP es ar F) (h2 : ¬ mapP N es ar → F = []) : F.length ≤ 20 ∧ flen F ≤ 20 ∧ ∀ x ∈ F, x.length ≤ 1048576 := by
  by_cases hm : mapP N es ar
  · have hf := h1 hm
    have hE := hm.1.2.2.1
    have b := sub_len (l2 := ups (2 * es.length)) hf.nd (fun x hx => mem_ups.2 ⟨((hf.all x).1 hx).1, by have := ((hf.all x).1 hx).2; omega⟩)
    rw [ups_length] at b
    have flenle : ∀ (F : List (List Int)), (∀ f ∈ F, f ≠ []) → F.length ≤ F.flatten.length := by
      intro F
      induction F with
      | nil => intro _; simp
      | cons a F ih =>
        intro h
        have h1 := ih (fun f hf => h f (List.mem_cons_of_mem _ hf))
        have h2 := List.length_pos_iff.2 (h a (List.mem_cons_self ..))
        simp only [List.flatten_cons, List.length_append, List.length_cons]
        omega
    have c := flenle F hf.ne
    refine ⟨by omega, by unfold flen; omega, fun x hx => ?_⟩
    have := (List.sublist_flatten_of_mem hx).length_le
    omega
  · rw [h2 hm]
    exact ⟨by simp, by simp [flen], fun x hx => by simp at hx⟩

set_option maxRecDepth 100000 in
set_option maxHeartbeats 4000000 in
theorem lawFaces_calls (N : Int) (A1 : Option Addr) (c1 : Nat) (es : List S127) (A2 : Option Addr) (c2 : Nat) (ar : List (List Int)) (W : World) (q : MapArg W A1 c1 es A2 c2 ar) (q5 : ∀ x ∈ ar, x.length ≤ 9223372036854775807) :
    Calls Try.prog 3 #[.agg #[.int .i64 N, .slice A1 es.length c1, .slice A2 ar.length c2]] W fun e w' => e = .returned (.bool true) ∧ Ext W w' := by
  obtain ⟨t, ht, hb⟩ := szPlanarMap_ev N es ar q.C1.2.1 q.C2.2.1 q5
  obtain ⟨K0, hK0⟩ := ht.at_
  have x0 : Ext W (W.alloc (.cells #[.int .i64 N, .slice A1 es.length c1, .slice A2 ar.length c2] 27)) := (Ext.refl _).alloc _
  have B0 : Blk (W.alloc (.cells #[.int .i64 N, .slice A1 es.length c1, .slice A2 ar.length c2] 27)) W.heap.size 27 #[.int .i64 N, .slice A1 es.length c1, .slice A2 ar.length c2] := Blk.new _ _ _
  have HC := hide (laws_szPlanarMap.calls K0 N A1 c1 es A2 c2 ar 1048576 t _ (q.ext x0).C1 q.l1 (q.ext x0).C2 q.l2 hK0)
  have Q := hide q
  replace x0 := hide x0
  replace B0 := hide B0
  clear q hK0 ht q5
  go_enter Try.func3, Try.ntmps3
  go_wp2_with fail
  (with_reducible refine HC.out.mono ?_)
  rintro e w1 ⟨rfl, y1⟩
  have X1 : Hid (Ext W w1) := hide (x0.out.trans y1)
  have B1 := B0.out.ext y1
  obtain ⟨d0, d1, d2, _, _, _, d6⟩ := blk3c B1
  replace B1 := hide B1
  clear y1 HC x0 B0
  by_cases h0 : t < 0
  · go_wp2_with fail
    go_ret
    exact ⟨rfl, X1.out⟩
  obtain ⟨_, b1, b2, b3⟩ := hb (by omega)
  have hin := hide (inner_le b3)
  clear hb
  obtain ⟨es', hes⟩ : ∃ es', es' = es.map cvE := ⟨_, rfl⟩
  obtain ⟨F, f1, f2, hF1, hF2⟩ := FacesOf_ev N es' ar b2 b3
  obtain ⟨s1, s2, s3⟩ := faces_small hF1 hF2
  have b1' : es'.length ≤ 1048576 := by rw [hes]; simpa using b1
  have b3' : flen ar ≤ 1048576 := b3
  replace b3 := hide b3
  replace hes := hide hes
  replace f1 := hide f1
  replace f2 := hide f2
  replace s3 := hide s3
  clear hF1 hF2
  go_wp2_with fail
  (with_reducible refine (toMap_calls N es' hes.out (Q.out.ext X1.out) b1 b2 b3.out).mono ?_)
  rintro e w2 ⟨P1, p1, P2, p2, rfl, m2, y2⟩
  have X2 : Hid (Ext W w2) := hide (X1.out.trans y2)
  have B2 := hide (B1.out.ext y2)
  replace m2 := hide m2
  clear y2 B1 X1 d0 d1 d2 d6
  go_wp2_with fail
  (with_reducible refine (specFaces_calls N m2.out f1.out).mono ?_)
  rintro e w3 ⟨AF, cF, rfl, oF, y3⟩
  have X3 : Hid (Ext W w3) := hide (X2.out.trans y3)
  have B3 := B2.out.ext y3
  obtain ⟨d0, d1, d2, _, _, _, d6⟩ := blk3c B3
  replace B3 := hide B3
  replace oF := hide oF
  have z23 := y3.size
  clear y3 B2 X2 m2
  go_wp2_with fail
  (with_reducible refine (toMap_calls N es' hes.out (Q.out.ext X3.out) b1 b2 b3.out).mono ?_)
  rintro e w4 ⟨P1, p1, P2, p2, rfl, m4, y4⟩
  have x5 : Ext w4 (w4.alloc (.cells #[.int .i64 N, .slice P1 es'.length p1, .slice P2 ar.length p2] 34)) := (Ext.refl _).alloc _
  have X5 : Hid (Ext w3 (w4.alloc (.cells #[.int .i64 N, .slice P1 es'.length p1, .slice P2 ar.length p2] 34))) := hide (y4.trans x5)
  have D5 : Hid (Blk (w4.alloc (.cells #[.int .i64 N, .slice P1 es'.length p1, .slice P2 ar.length p2] 34)) w4.heap.size 34 #[.int .i64 N, .slice P1 es'.length p1, .slice P2 ar.length p2]) := hide (Blk.new _ _ _)
  have m5 := hide (m4.ext x5)
  have z34 := y4.size
  clear m4 y4 x5 d0 d1 d2
  go_wp2_with fail
  (with_reducible refine (implFaces_calls N m5.out f2.out).mono ?_)
  rintro e w6 ⟨AG, cG, rfl, oG, y6⟩
  rw [show (w4.alloc (.cells #[.int .i64 N, .slice P1 es'.length p1, .slice P2 ar.length p2] 34)).heap.size = w4.heap.size + 1 from by simp] at oG
  have X6 : Hid (Ext w3 w6) := hide (X5.out.trans y6)
  have D6 := hide (D5.out.ext y6)
  have m6 := hide (m5.out.ext y6)
  have Y6 := hide y6
  have z6 := y6.size
  rw [show (w4.alloc (.cells #[.int .i64 N, .slice P1 es'.length p1, .slice P2 ar.length p2] 34)).heap.size = w4.heap.size + 1 from by simp] at z6
  replace oG := hide oG
  clear y6 X5 D5 m5
  go_wp2_with fail
  (with_reducible refine (eqSS_calls oG.out (oF.out.ext X6.out) (by omega) s3.out).mono ?_)
  rintro e w7 ⟨rfl, y7⟩
  have X7 : Hid (Ext w3 w7) := hide (X6.out.trans y7)
  have Z7 : Hid (Ext w6 w7) := hide y7
  have D7 := D6.out.ext y7
  have B7 := B3.out.ext X7.out
  have m7 := hide (m6.out.ext y7)
  obtain ⟨d0, d1, d2, _, _, _, d6⟩ := blk3c B7
  obtain ⟨k0, k1, k2, _, _, _, k6⟩ := blk3c D7
  replace D7 := hide D7
  replace B7 := hide B7
  clear y7 X6 D6 m6
  go_upto_region 10 with fail
  go_cut [31] (fun s31 wx => s31 = .bool false ∧ Ext w7 wx)
  case first =>
    go_region_with (first
      | (go_at_call 11; refine (toMap_calls N es' hes.out (Q.out.ext (X3.out.trans (X7.out.drew))) b1 b2 b3.out).mono ?_; rintro e w8 ⟨R1, r1, R2, r2, rfl, m8, y8⟩; have e0 := y8.cell (a := ⟨w4.heap.size, 0, none⟩) (v := .int .i64 N) k0; have e1 := y8.cell (a := ⟨w4.heap.size, 1, none⟩) (v := .slice P1 es'.length p1) k1; have e2 := y8.cell (a := ⟨w4.heap.size, 2, none⟩) (v := .slice P2 ar.length p2) k2; have Y8 := hide ((Ext.refl w7).drew.trans y8); clear y8)
      | (go_at_call 14; refine (eqMap_calls N (m7.out.ext Y8.out) m8 b1' b2 b3.out).mono ?_; rintro e w9 ⟨rfl, y9⟩; have Y9 := hide (Y8.out.trans y9); clear y9))
    all_goals (go_wp2_with fail; go_meet; exact ⟨rfl, Y9.out⟩)
  case rest =>
    obtain ⟨rfl, Y⟩ := hcut
    have X9 : Hid (Ext w3 wc) := hide (X7.out.trans Y)
    have Z9 : Hid (Ext w6 wc) := hide (Z7.out.trans Y)
    have D9 := D7.out.ext Y
    have B9 := hide (B7.out.ext Y)
    have m9 := hide (m7.out.ext Y)
    have z9 := Z9.out.size
    clear d0 d1 d2 k0 k1 k2 D7 B7 m7
    obtain ⟨k0, k1, k2, _, _, _, k6⟩ := blk3c D9
    clear Y D9
    go_wp2_with fail
    (with_reducible refine (markPlanarMap_calls N _ _ w4.heap.size es' ar w3 wc X9.out (by omega) m9.out.o1 m9.out.o2 b1' b2 b3').mono ?_)
    rintro e w10 ⟨rfl, g10⟩
    have X10 : Hid (Ext W w10) := hide (g10.ext (X3.out.trans X9.out) fun k hk => by have := X3.out.size; omega)
    have oF10 := hide ((oF.out.ext X9.out).apart g10 (.inl (Nat.le_refl _)))
    have oG10 := hide ((oG.out.ext Z9.out).apart g10 (.inr (by omega)))
    have B10 := hide (B9.out.chg g10 (by omega))
    have z10 := g10.size
    clear g10 X9 Z9 B9 m9 k0 k1 k2
    go_wp2_with fail
    (with_reducible refine (eqSS_calls oG10.out oF10.out (by omega) s3.out).mono ?_)
    rintro e w11 ⟨rfl, y11⟩
    have X11 : Hid (Ext W w11) := hide (X10.out.trans y11)
    have oF11 := hide (oF10.out.ext y11)
    have oG11 := hide (oG10.out.ext y11)
    have B11 := hide (B10.out.ext y11)
    have z11 := y11.size
    obtain ⟨wb, hwb, xb⟩ := trunc w11 (w4.heap.size + 1) (by omega)
    replace oG11 := oG11.out
    rw [← hwb] at oG11
    replace oG11 := hide oG11
    replace hwb := hide hwb
    clear y11 X10 oF10 oG10 B10
    go_wp2_with fail
    (with_reducible refine (markIntSS_calls _ w6.heap.size F 1 wb w11 xb oG11.out (by omega) (by omega) (by omega) (by omega)).mono ?_)
    rintro e w12 ⟨rfl, oG12, g12, x12⟩
    rw [hwb.out] at g12
    have X12 : Hid (Ext W w12) := hide (g12.ext X11.out fun k hk => by have := X3.out.size; omega)
    have oF12 := hide (oF11.out.apart g12 (.inl (by omega)))
    have B12 := B11.out.chg g12 (by omega)
    replace oG12 := hide oG12
    have t1 : ((1 + (flen F : Int)) != (1 + (flen F : Int))) = false := by simp
    clear X11 oF11 oG11 B11 g12 x12 xb
    go_wp2_with fail
    (with_reducible refine (heldSS_calls oG12.out (by omega) (by omega)).mono ?_)
    rintro e w13 ⟨rfl, y13⟩
    have X13 : Hid (Ext W w13) := hide (X12.out.trans y13)
    have oF13 := hide (oF12.out.ext y13)
    have oG13 := hide (oG12.out.ext y13)
    have B13 := B12.ext y13
    obtain ⟨d0, d1, d2, _, _, _, d6⟩ := blk3c B13
    clear y13 X12 oF12 oG12 B12 B13
    go_wp2_with fail
    (with_reducible refine (toMap_calls N es' hes.out (Q.out.ext X13.out) b1 b2 b3.out).mono ?_)
    rintro e w14 ⟨R1, r1, R2, r2, rfl, m14, y14⟩
    have X14 : Hid (Ext W w14) := hide (X13.out.trans y14)
    have oF14 := hide (oF13.out.ext y14)
    have oG14 := hide (oG13.out.ext y14)
    replace m14 := hide m14
    clear y14 X13 oF13 oG13 d0 d1 d2 d6
    go_wp2_with fail
    (with_reducible refine (implFaces_calls N m14.out f2.out).mono ?_)
    rintro e w15 ⟨AH, cH, rfl, oH, y15⟩
    have X15 : Hid (Ext W w15) := hide (X14.out.trans y15)
    have oF15 := hide (oF14.out.ext y15)
    have oG15 := hide (oG14.out.ext y15)
    replace oH := hide oH
    clear y15 X14 oF14 oG14 m14
    go_wp2_with fail
    (with_reducible refine (eqSS_calls oH.out oF15.out (by omega) s3.out).mono ?_)
    rintro e w16 ⟨rfl, y16⟩
    have X16 : Hid (Ext W w16) := hide (X15.out.trans y16)
    have oG16 := hide (oG15.out.ext y16)
    clear y16 X15 oF15 oG15 oH
    go_wp2_with fail
    (with_reducible refine (heldSS_calls oG16.out (by omega) (by omega)).mono ?_)
    rintro e w17 ⟨rfl, y17⟩
    have X17 : Hid (Ext W w17) := hide (X16.out.trans y17)
    clear y17 X16 oG16
    go_wp2_with fail
    go_ret
    exact ⟨rfl, X17.out⟩

end Go.Proofs.Ytpllghhgndfkhaa.PFnExactFacesOf
