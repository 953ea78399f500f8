/- Maps in memory: the laws' functions on them, by contract. -/
import Derived.Test.YtpllghhgndfkhaaQOPlMapLaw
import Derived.Test.YtpllghhgndfkhaaQOPlMark
import Derived.Deep.RegionWith
import Derived.Deep.DeepCutAuto
import Derived.Outline
namespace Go.Proofs.Ytpllghhgndfkhaa.PFnExactOrientedMatrix
open Go.RowKit Go.Proofs.YtpllghhgndfkhaaW.PrintWords Go.Proofs.YtpllghhgndfkhaaW.PrintLast Go.Proofs.YtpllghhgndfkhaaW.PrintMore

theorem markEdgeS_ev (l : List S78) (m : Int) (hl : l.length ≤ 1048576) (h0 : 0 ≤ m) (h1 : m ≤ 1000) : ∃ r, Evs (fun k => laws_markEdgeS.f k l m) (m + 2 * (l.length : Int), r) := by
  have key : ∀ (d i : Nat) (x : List S78), x.length = l.length → i + d = l.length → ∃ r, Evs (fun k => laws_markEdgeS.l0 k x (m + 2 * (i : Int)) i) (m + 2 * (l.length : Int), r) := by
    intro d
    induction d with
    | zero =>
      intro i x hx hi
      obtain rfl : i = l.length := by omega
      exact ⟨x, Evs.step (fun k => by simp only [laws_markEdgeS.l0]; rfl) (Evs.neg (by omega) (Evs.const _))⟩
    | succ d ih =>
      intro i x hx hi
      obtain ⟨r, hr⟩ := ih (i + 1) ((x.set ((i : Int)).toNat ⟨m + 2 * (i : Int), (rd_T78 x (i : Int)).f1⟩).set ((i : Int)).toNat ⟨(rd_T78 (x.set ((i : Int)).toNat ⟨m + 2 * (i : Int), (rd_T78 x (i : Int)).f1⟩) (i : Int)).f0, m + 2 * (i : Int) + 1⟩) (by simpa using hx) (by omega)
      · refine ⟨r, Evs.step (fun k => by simp only [laws_markEdgeS.l0]; rfl) (Evs.pos (by omega) (Evs.pos (by omega) (Evs.bindc rfl ?_)))⟩
        rw [w64 (x := m + 2 * (i : Int) + 1) (by omega) (by omega), w64 (x := m + 2 * (i : Int) + 1 + 1) (by omega) (by omega), w64 (x := (i : Int) + 1) (by omega) (by omega),
          show m + 2 * (i : Int) + 1 + 1 = m + 2 * ((i + 1 : Nat) : Int) by omega]
        exact hr
  obtain ⟨r, hr⟩ := key l.length 0 l rfl (by omega)
  exact ⟨r, by unfold laws_markEdgeS.f; simpa using hr⟩
theorem markGraph_ev (N : Int) (l : List S78) (m : Int) (hl : l.length ≤ 1048576) (h0 : 0 ≤ m) (h1 : m ≤ 1000) : ∃ r, Evs (fun k => laws_markGraph.f k N l m) (m + 2 * (l.length : Int), r) := by
  obtain ⟨r, hr⟩ := markEdgeS_ev l m hl h0 h1
  exact ⟨r, by unfold laws_markGraph.f; exact Evs.bind hr (Evs.const _)⟩

theorem blk3c {w : World} {b : Nat} {t : TypeId} {v0 v1 v2 : Value} (h : Blk w b t #[v0, v1, v2]) :
    w.cell? ⟨b, 0, none⟩ = some v0 ∧ w.cell? ⟨b, 1, none⟩ = some v1 ∧ w.cell? ⟨b, 2, none⟩ = some v2 ∧ w.frozen? ⟨b, 0, none⟩ = false ∧ w.frozen? ⟨b, 1, none⟩ = false ∧ w.frozen? ⟨b, 2, none⟩ = false ∧ b < w.heap.size := by
  have h0 := h.cell 0; have h1 := h.cell 1; have h2 := h.cell 2
  simp at h0 h1 h2
  exact ⟨h0, h1, h2, h.frozen 0, h.frozen 1, h.frozen 2, h.lt⟩

theorem S_apart_ {α : Type} {d : Kd α} {e e' : Nat} {W : World} {base : Nat} {ok : Nat → Prop} {u v : Value} {xs : List α} (h : Kd.S d e W base ok u xs) (hty : ∀ k, v.ownBlock = some k → ∃ cells, W.heap[k]? = some (.cells cells e' (0, 0))) (ht : ∀ q, q ∈ e :: d.E → q ≠ e') : Kd.S d e W base (fun k => ok k ∧ some k ≠ v.ownBlock) u xs := by
  obtain ⟨f, h⟩ := h
  exact ⟨f, Kd.R_apart' h hty ht⟩

set_option maxRecDepth 100000 in
set_option maxHeartbeats 2000000 in
theorem markPlanarMap_calls (N : Int) (v1 v2 : Value) (hi : Nat) (es : List S78) (ar : List (List Int)) (wb w : World) (hB : Ext wb w) (hhi : hi ≤ w.heap.size) (h1 : OR k78 78 w wb.heap.size hi v1 es) (h2 : OS w wb.heap.size hi v2 ar)
    (b1 : es.length ≤ 1048576) (b2 : ar.length ≤ 1048576) (b3 : flen ar ≤ 1048576) :
    Calls Try.prog 15 #[.agg #[.int .i64 N, v1, v2], .int .i64 1] w fun e w' => e = .returned (.int .i64 (1 + 2 * (es.length : Int) + (flen ar : Int))) ∧ Chg (fun k => wb.heap.size ≤ k ∧ k < hi) w w' := by
  obtain ⟨A1, c1, rfl, l1, C1⟩ := h1.reads
  obtain ⟨A2, c2, rfl, l2, C2⟩ := h2.reads
  obtain ⟨r2, hr2⟩ := markGraph_ev N es 1 b1 (by omega) (by omega)
  obtain ⟨K, hK⟩ := hr2.at_
  have x0 : Ext w (w.alloc (.cells #[.int .i64 N, .slice A1 es.length c1, .slice A2 ar.length c2] 34)) := (Ext.refl _).alloc _
  have B0 : Blk (w.alloc (.cells #[.int .i64 N, .slice A1 es.length c1, .slice A2 ar.length c2] 34)) w.heap.size 34 #[.int .i64 N, .slice A1 es.length c1, .slice A2 ar.length c2] := Blk.new _ _ _
  have hR := h1.ext x0
  have hS := h2.ext x0
  have hlt : ∀ k, (Value.slice A1 es.length c1).ownBlock = some k → wb.heap.size ≤ k ∧ k < hi := fun k hk => h1.1 k hk
  have HX := hide (hB.trans x0)
  have HC := laws_markGraph.calls K N (fun q => some q = (Value.slice A1 es.length c1).ownBlock) (.slice A1 es.length c1) es 1 _ _ wb _ HX.out (Kd.R_tight rfl hR) hK
  have HS1 := hide (S_apart_ hS (Kd.R_typed hR) (by decide))
  replace HC := hide HC
  replace hlt := hide hlt
  replace B0 := hide B0
  replace x0 := hide x0
  clear h1 h2 hK hr2 C1 C2 hR hS
  go_enter Try.func15, Try.ntmps15
  go_wp2_with fail
  (with_reducible refine HC.out.mono ?_)
  rintro e w1 ⟨rfl, hR1, hB1, hkp⟩
  have hsz := hkp.1
  have hc1 := hide (chg_of HX.out hB1 hkp)
  have B1 := B0.out.chg hc1.out (fun e => by have := hlt.out _ e.symm; omega)
  have hS1 : Hid (OS w1 wb.heap.size hi (.slice A2 ar.length c2) ar) := hide (Kd.S_mono (Kd.S_step HS1.out (fun k hk hl => hkp.2 k hl (fun h => hk.2 h))) fun _ hk => hk.1)
  obtain ⟨d0, d1, d2, _, _, _, d6⟩ := blk3c B1
  replace hB1 := hide hB1
  clear hR1 hkp HC HS1 B1 B0
  go_wp2_with fail
  have HC := markIntSS_calls (.slice A2 ar.length c2) hi ar (1 + 2 * (es.length : Int)) wb w1 hB1.out hS1.out b2 b3 (by omega) (by omega)
  (with_reducible refine HC.mono ?_)
  rintro e w2 ⟨rfl, hS2, hc2, hx2⟩
  have hc2' := hide hc2
  clear HC hS2 hc2 hx2
  go_wp2_with fail
  go_ret
  refine ⟨rfl, ((x0.out.chg _).trans (hc1.out.mono fun k hk => hlt.out k hk.symm)).trans hc2'.out⟩

/-- A world with fewer blocks. -/
theorem trunc (w : World) (n : Nat) (h : n ≤ w.heap.size) : ∃ wb : World, wb.heap.size = n ∧ Ext wb w := by
  refine ⟨{ w with heap := w.heap.extract 0 n }, by simp; omega, rfl, rfl, rfl, by simp; omega, fun i hi => ?_⟩
  have hi' : i < n := by simp at hi; omega
  simp [Array.getElem?_extract]
  intro _
  omega

/-- Blocks outside the marked ones. -/
theorem OS.apart {w w' : World} {a b lo hi : Nat} {v : Value} {l : List (List Int)} (h : OS w a b v l) (hx : Chg (fun k => lo ≤ k ∧ k < hi) w w') (hd : b ≤ lo ∨ hi ≤ a) : OS w' a b v l :=
  h.chg hx fun k h1 h2 h3 => by omega

/-- A law's argument of type PlanarMap. -/
structure MapArg (w : World) (A1 : Option Addr) (c1 : Nat) (es : List S127) (A2 : Option Addr) (c2 : Nat) (ar : List (List Int)) : Prop where
  C1 : Kd.C k127 w A1 es.length es
  l1 : es.length ≤ c1
  C2 : Kd.C (Kd.slice 3 (Kd.int .i64)) w A2 ar.length ar
  l2 : ar.length ≤ c2
section
variable {w w' : World} {A1 : Option Addr} {c1 : Nat} {es : List S127} {A2 : Option Addr} {c2 : Nat} {ar : List (List Int)}
theorem MapArg.ext (h : MapArg w A1 c1 es A2 c2 ar) (hx : Ext w w') : MapArg w' A1 c1 es A2 c2 ar := ⟨Kd.C_below h.C1 hx, h.l1, Kd.C_below h.C2 hx, h.l2⟩

/-- A map of the program's own kind. -/
structure OwnMap (w : World) (lo hi : Nat) (v1 v2 : Value) (es : List S78) (ar : List (List Int)) : Prop where
  o1 : OR k78 78 w lo hi v1 es
  o2 : OS w lo hi v2 ar
theorem OwnMap.ext {lo hi : Nat} {v1 v2 : Value} {es : List S78} (h : OwnMap w lo hi v1 v2 es ar) (hx : Ext w w') : OwnMap w' lo hi v1 v2 es ar := ⟨h.o1.ext hx, h.o2.ext hx⟩

theorem toMap_calls (N : Int) (es' : List S78) (he : es' = es.map cvE) (h : MapArg w A1 c1 es A2 c2 ar) (b1 : es.length ≤ 1048576) (b2 : ar.length ≤ 1048576) (b3 : ar.flatten.length ≤ 1048576) :
    Calls Try.prog 11 #[.agg #[.int .i64 N, .slice A1 es.length c1, .slice A2 ar.length c2]] w fun e w' => ∃ B1 e1 B2 e2, e = .returned (.agg #[.int .i64 N, .slice B1 es'.length e1, .slice B2 ar.length e2]) ∧
      OwnMap w' w.heap.size w'.heap.size (.slice B1 es'.length e1) (.slice B2 ar.length e2) es' ar ∧ Ext w w' := by
  subst he
  obtain ⟨K, hK⟩ := (toPlanarMap_ev N es ar b1 b2 (inner_le b3)).at_
  refine (laws_toPlanarMap.calls K N A1 c1 es A2 c2 ar N (es.map cvE) ar w h.C1 h.l1 h.C2 h.l2 hK).mono ?_
  rintro e w' ⟨v1, v2, rfl, h1, h2, hx⟩
  obtain ⟨B1, e1, rfl⟩ := Kd.R_slice h1
  obtain ⟨B2, e2, rfl⟩ := Kd.S_slice h2
  exact ⟨B1, e1, B2, e2, rfl, ⟨OR.of h1, OS.of h2⟩, hx⟩

theorem eqMap_calls (N : Int) {lo hi lo' hi' : Nat} {B1 B2 B1' B2' : Option Addr} {e1 e2 e1' e2' : Nat} {es : List S78} (h : OwnMap w lo hi (.slice B1 es.length e1) (.slice B2 ar.length e2) es ar) (h' : OwnMap w lo' hi' (.slice B1' es.length e1') (.slice B2' ar.length e2') es ar)
    (b1 : es.length ≤ 1048576) (b2 : ar.length ≤ 1048576) (b3 : ar.flatten.length ≤ 1048576) :
    Calls Try.prog 14 #[.agg #[.int .i64 N, .slice B1 es.length e1, .slice B2 ar.length e2], .agg #[.int .i64 N, .slice B1' es.length e1', .slice B2' ar.length e2']] w fun e w' => e = .returned (.bool true) ∧ Ext w w' := by
  obtain ⟨K, hK⟩ := (eqPlanarMap_ev N es ar b1 b2 (inner_le b3)).at_
  have r1 := Kd.R_reads' h.o1
  have r2 := Kd.S_reads' h.o2
  have s1 := Kd.R_reads' h'.o1
  have s2 := Kd.S_reads' h'.o2
  exact laws_eqPlanarMap.calls K N B1 e1 es B2 e2 ar N B1' e1' es B2' e2' ar true w r1.2.2 r1.2.1 r2.2.2 r2.2.1 s1.2.2 s1.2.1 s2.2.2 s2.2.1 hK

theorem eqSS_calls {lo hi lo' hi' : Nat} {A A' : Option Addr} {c c' : Nat} {l : List (List Int)} (h : OS w lo hi (.slice A l.length c) l) (h' : OS w lo' hi' (.slice A' l.length c') l) (b1 : l.length ≤ 1048576) (b2 : ∀ x ∈ l, x.length ≤ 1048576) :
    Calls Try.prog 13 #[.slice A l.length c, .slice A' l.length c'] w fun e w' => e = .returned (.bool true) ∧ Ext w w' := by
  obtain ⟨K, hK⟩ := (eqIntSS_ev l b1 b2).at_
  have r := Kd.S_reads' h
  have s := Kd.S_reads' h'
  exact (laws_eqIntSS.calls K A c l A' c' l true w r.2.2 r.2.1 s.2.2 s.2.1 hK).mono fun e w' ⟨he, hd⟩ => ⟨he, hd.below⟩

end

/-! ### Slices of integers -/
/-- A law's argument of type []int. -/
structure IntArg (w : World) (A : Option Addr) (c : Nat) (l : List Int) : Prop where
  C : Kd.C (Kd.int .i64) w A l.length l
  le : l.length ≤ c
theorem IntArg.ext {w w' : World} {A : Option Addr} {c : Nat} {l : List Int} (h : IntArg w A c l) (hx : Ext w w') : IntArg w' A c l := ⟨Kd.C_below h.C hx, h.le⟩

theorem toInts_calls {w : World} {A : Option Addr} {c : Nat} {l : List Int} (h : IntArg w A c l) (b : l.length ≤ 1048576) :
    Calls Try.prog 21 #[.slice A l.length c] w fun e w' => ∃ A' c', e = .returned (.slice A' l.length c') ∧ OR (Kd.int .i64) 3 w' w.heap.size w'.heap.size (.slice A' l.length c') l ∧ Ext w w' := by
  obtain ⟨K, hK⟩ := (toIntS_ev l b).at_
  refine (laws_toIntS.calls K A c l l w h.C h.le hK).mono ?_
  rintro e w' ⟨v, rfl, hR, hx⟩
  obtain ⟨A', c', rfl⟩ := Kd.R_slice hR
  exact ⟨A', c', rfl, OR.of hR, hx⟩
theorem eqInts_calls {w : World} {A A' : Option Addr} {c c' : Nat} {l : List Int} {lo hi lo' hi' : Nat} (h : OR (Kd.int .i64) 3 w lo hi (.slice A l.length c) l) (h' : OR (Kd.int .i64) 3 w lo' hi' (.slice A' l.length c') l) (b : l.length ≤ 1048576) :
    Calls Try.prog 24 #[.slice A l.length c, .slice A' l.length c'] w fun e w' => e = .returned (.bool true) ∧ Ext w w' := by
  obtain ⟨K, hK⟩ := (eqIntS_ev l b).at_
  have r := Kd.R_reads' h
  have s := Kd.R_reads' h'
  exact (laws_eqIntS.calls K A c l A' c' l true w r.2.2 r.2.1 s.2.2 s.2.1 hK).mono fun e w' ⟨he, hd⟩ => ⟨he, hd.below⟩
theorem markInts_calls (v : Value) (hi : Nat) (l : List Int) (m : Int) (wb w : World) (hB : Ext wb w) (h : OR (Kd.int .i64) 3 w wb.heap.size hi v l) (hl : l.length ≤ 1048576) (h0 : 0 ≤ m) (h1 : m ≤ 1000000000) :
    Calls Try.prog 25 #[v, .int .i64 m] w fun e w' => e = .returned (.int .i64 (m + (l.length : Int))) ∧ OR (Kd.int .i64) 3 w' wb.heap.size hi v (mkI m l.length) ∧ Chg (fun k => wb.heap.size ≤ k ∧ k < hi) w w' := by
  obtain ⟨K, hK⟩ := (markIntS_ev l m hl h0 h1).at_
  have hown := h.1
  refine (laws_markIntS.calls K (fun q => some q = v.ownBlock) v l m _ _ wb w hB (Kd.R_tight rfl h) hK).mono ?_
  rintro e w' ⟨rfl, hR, hB', hk⟩
  exact ⟨rfl, Kd.R_mono (Kd.R_tight rfl hR) fun q hq => hown q hq.symm, (chg_of hB hB' hk).mono fun q hq => hown q hq.symm⟩
theorem OR.apart {α : Type} {d : Kd α} {e : Nat} {w w' : World} {a b lo hi : Nat} {v : Value} {l : List α} (h : OR d e w a b v l) (hx : Chg (fun k => lo ≤ k ∧ k < hi) w w') (hd : b ≤ lo ∨ hi ≤ a) : OR d e w' a b v l :=
  h.chg hx fun k h1 h2 h3 => by omega
theorem OwnMap.apart {w w' : World} {a b lo hi : Nat} {v1 v2 : Value} {es : List S78} {ar : List (List Int)} (h : OwnMap w a b v1 v2 es ar) (hx : Chg (fun k => lo ≤ k ∧ k < hi) w w') (hd : b ≤ lo ∨ hi ≤ a) : OwnMap w' a b v1 v2 es ar := ⟨h.o1.apart hx hd, h.o2.apart hx hd⟩

/-! ### Matrices -/
theorem eqMat_calls {w : World} (r1 r2 : Int) {A A' : Option Addr} {c c' : Nat} {l : List Int} {lo hi lo' hi' : Nat} (h : OR (Kd.int .i64) 3 w lo hi (.slice A l.length c) l) (h' : OR (Kd.int .i64) 3 w lo' hi' (.slice A' l.length c') l) (b : l.length ≤ 1048576) :
    Calls Try.prog 23 #[.agg #[.int .i64 r1, .int .i64 r2, .slice A l.length c], .agg #[.int .i64 r1, .int .i64 r2, .slice A' l.length c']] w fun e w' => e = .returned (.bool true) ∧ Ext w w' := by
  have hev : Evs (fun k => laws_eqMatrix.f k r1 r2 l r1 r2 l) true := by
    unfold laws_eqMatrix.f
    exact Evs.pos rfl (Evs.pos rfl (Evs.bind (eqIntS_ev l b) (Evs.yes (Evs.const _))))
  obtain ⟨K, hK⟩ := hev.at_
  have r := Kd.R_reads' h
  have s := Kd.R_reads' h'
  exact laws_eqMatrix.calls K r1 r2 A c l r1 r2 A' c' l true w r.2.2 r.2.1 s.2.2 s.2.1 hK
theorem markMat_calls (r1 r2 : Int) (v : Value) (hi : Nat) (l : List Int) (wb w : World) (hB : Ext wb w) (h : OR (Kd.int .i64) 3 w wb.heap.size hi v l) (hl : l.length ≤ 1048576) :
    Calls Try.prog 26 #[.agg #[.int .i64 r1, .int .i64 r2, v], .int .i64 1] w fun e w' => e = .returned (.int .i64 (1 + (l.length : Int))) ∧ OR (Kd.int .i64) 3 w' wb.heap.size hi v (mkI 1 l.length) ∧ Chg (fun k => wb.heap.size ≤ k ∧ k < hi) w w' := by
  have hev : Evs (fun k => laws_markMatrix.f k r1 r2 l 1) (1 + (l.length : Int), mkI 1 l.length) := by
    unfold laws_markMatrix.f
    exact Evs.bind (markIntS_ev l 1 hl (by omega) (by omega)) (Evs.const _)
  obtain ⟨K, hK⟩ := hev.at_
  have hown := h.1
  refine (laws_markMatrix.calls K r1 r2 (fun q => some q = v.ownBlock) v l 1 _ _ wb w hB (Kd.R_tight rfl h) hK).mono ?_
  rintro e w' ⟨rfl, hR, hB', hk⟩
  exact ⟨rfl, Kd.R_mono (Kd.R_tight rfl hR) fun q hq => hown q hq.symm, (chg_of hB hB' hk).mono fun q hq => hown q hq.symm⟩
theorem heldMat_calls {w : World} (r1 r2 : Int) {A : Option Addr} {c n lo hi : Nat} (h : OR (Kd.int .i64) 3 w lo hi (.slice A n c) (mkI 1 n)) (b : n ≤ 1048576) :
    Calls Try.prog 27 #[.agg #[.int .i64 r1, .int .i64 r2, .slice A n c], .int .i64 1] w fun e w' => e = .returned (.int .i64 (1 + (n : Int))) ∧ Ext w w' := by
  have hev : Evs (fun k => laws_heldMatrix.f k r1 r2 (mkI 1 n) 1) (1 + (n : Int)) := by
    unfold laws_heldMatrix.f
    exact Evs.bind (heldIntS_ev 1 n b (by omega) (by omega)) (Evs.neg (by omega) (Evs.const _))
  obtain ⟨K, hK⟩ := hev.at_
  have r := Kd.R_reads' h
  have e := mkI_length 1 n
  have hC := laws_heldMatrix.calls K r1 r2 A c (mkI 1 n) 1 _ w r.2.2 (by rw [← r.1]; exact r.2.1) hK
  rw [e] at hC
  exact hC

end Go.Proofs.Ytpllghhgndfkhaa.PFnExactOrientedMatrix
