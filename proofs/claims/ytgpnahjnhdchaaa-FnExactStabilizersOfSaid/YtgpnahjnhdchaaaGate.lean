/- Gates, circuits and Pauli operators in memory, and the contracts of the laws' own functions on them. -/
import Derived.Test.YtgpnahjnhdchaaaFlat
import Derived.StillTailTactics
import Derived.Deep.RegionWith
namespace Go.Proofs.Ytgpnahjnhdchaaa
open Go.RowKit

structure Gt where
  k : Int
  a : Int
  b : Int
def gcell (g : Gt) : Value × Value × Value := (.int .i64 g.k, .int .i64 g.a, .int .i64 g.b)

/-- The slice with address A and capacity c reads as the gates gs. -/
structure Gates (w : World) (A : Option Addr) (c : Nat) (gs : List Gt) : Prop where
  le : gs.length ≤ c
  cap : gs.length ≤ 9223372036854775807
  at_ : ∀ k, k < gs.length → ∃ b o, A = some ⟨b, o, none⟩ ∧ b < w.heap.size ∧ ∀ j (h : j < gs.length),
     w.cell? ⟨b, o + j * 3, none⟩ = some (.int .i64 gs[j].k) ∧ w.cell? ⟨b, o + j * 3 + 1, none⟩ = some (.int .i64 gs[j].a) ∧ w.cell? ⟨b, o + j * 3 + 2, none⟩ = some (.int .i64 gs[j].b)

theorem Gates.ext {w w' : World} {A : Option Addr} {c : Nat} {gs : List Gt} (h : Gates w A c gs) (hb : Ext w w') : Gates w' A c gs := ⟨h.le, h.cap, fun k hk =>
  let ⟨b, o, e, hlt, hc⟩ := h.at_ k hk
  ⟨b, o, e, Nat.lt_of_lt_of_le hlt hb.size, fun j hj => let ⟨h1, h2, h3⟩ := hc j hj; ⟨hb.cell h1, hb.cell h2, hb.cell h3⟩⟩⟩

def gcells (gs : List Gt) : List Value := flat3 (gs.map gcell)

theorem Blk.gates {w : World} {g : Nat} {t : TypeId} {gs : List Gt} (h : Blk w g t (gcells gs).toArray) (hn : gs.length ≤ 1048576) : Gates w (some ⟨g, 0, none⟩) gs.length gs := by
  refine ⟨Nat.le_refl _, by omega, fun _ _ => ⟨g, 0, rfl, h.lt, fun j hj => ?_⟩⟩
  have := flat3_at (gs.map gcell) j (by simpa using hj)
  simp only [h.cell, List.getElem?_toArray, Nat.zero_add, gcells]
  simpa [gcell] using this

/-! ### Contracts -/

theorem szGateS_calls (A : Option Addr) (n c : Nat) (left : Int) (w : World) (hn : n ≤ 9223372036854775807) (h0 : 0 ≤ left) (h1 : left ≤ 1048576) :
    Same Try.prog 33 #[.slice A n c, .int .i64 left] w (.int .i64 (szI n left)) := by
  unfold Same
  by_cases hlt : left - n < 0
  · have H := hide (show szI n left = -1 from if_pos hlt)
    go_enter Try.func33, Try.ntmps33
    go_wp2
    all_goals (go_ret; exact ⟨ret_int H.out.symm, rfl⟩)
  · have H := hide (show szI n left = left - n from if_neg hlt)
    go_enter Try.func33, Try.ntmps33
    go_wp2
    all_goals (go_ret; exact ⟨ret_int H.out.symm, rfl⟩)

theorem szCircuit_calls (A : Option Addr) (n c : Nat) (p q left : Int) (w : World) (hn : n ≤ 9223372036854775807) (h0 : 0 ≤ left) (h1 : left ≤ 1048576) :
    Gives Try.prog 8 #[.agg #[.int .i64 p, .int .i64 q, .slice A n c], .int .i64 left] w (.int .i64 (szI n left)) := by
  unfold Gives
  by_cases s : szI n left < 0
  · have HS : Hid (szI n left = -1) := hide (by unfold szI at s ⊢; split <;> rename_i h; · rfl
                                                · rw [if_neg h] at s; omega)
    go_enter Try.func8, Try.ntmps8
    go_wp2_with (go_at_call 33; refine (szGateS_calls _ _ _ _ _ hn h0 h1).use ?_)
    go_ret
    exact ⟨ret_int HS.out.symm, (Ext.refl _).alloc _⟩
  · go_enter Try.func8, Try.ntmps8
    go_wp2_with (go_at_call 33; refine (szGateS_calls _ _ _ _ _ hn h0 h1).use ?_)
    go_ret
    exact ⟨rfl, (Ext.refl _).alloc _⟩

theorem toGate_calls (k a b : Int) (w : World) : Gives Try.prog 71 #[.agg #[.int .i64 k, .int .i64 a, .int .i64 b]] w (.agg #[.int .i64 k, .int .i64 a, .int .i64 b]) := by
  unfold Gives
  go_enter Try.func71, Try.ntmps71
  go_wp2
  refine bodyPost_ret (v := .agg #[.int .i64 k, .int .i64 a, .int .i64 b]) (by simp only [results, Try.results71]; go_simp) rfl ?_
  exact ⟨rfl, (((Ext.refl _).alloc _).alloc _).alloc _⟩

theorem toPauli_calls (k a b : Int) (w : World) : Gives Try.prog 11 #[.agg #[.int .i64 k, .int .i64 a, .int .i64 b]] w (.agg #[.int .i64 k, .int .i64 a, .int .i64 b]) := by
  unfold Gives
  go_enter Try.func11, Try.ntmps11
  go_wp2
  refine bodyPost_ret (v := .agg #[.int .i64 k, .int .i64 a, .int .i64 b]) (by simp only [results, Try.results11]; go_simp) rfl ?_
  exact ⟨rfl, (((Ext.refl _).alloc _).alloc _).alloc _⟩

theorem gate_info : (Try.prog.info? 67).map (fun i => (i.zero, i.size, i.bytes)) = some (some (.agg #[.int .i64 0, .int .i64 0, .int .i64 0]), 3, 24) := by kernel_rfl

theorem made_gates (n : Nat) : madeCells (Value.cells (.agg #[.int .i64 0, .int .i64 0, .int .i64 0])) (n * 3) = (List.replicate (n * 3) (Value.int .i64 0)).toArray := by
  apply Array.ext_getElem?
  intro i
  simp only [madeCells, Value.cells]
  by_cases h : i < n * 3
  · have e : i % 3 = 0 ∨ i % 3 = 1 ∨ i % 3 = 2 := by omega
    rcases e with e | e | e <;> simp [h, e]
  · simp [h]

/-- make([]impl.Gate, n). -/
theorem make_gates (n : Nat) (hn : n ≤ 1048576) (w : World) : (Instr.makeSlice 31 (.int .i64 (n : Int)) (.int .i64 (n : Int))).run Try.prog w =
    .ok (.slice (some ⟨w.heap.size, 0, none⟩) n n) (w.alloc (.cells (List.replicate (n * 3) (Value.int .i64 0)).toArray 67)) := by
  obtain ⟨i, hi, hz, hs, hb⟩ := info_parts gate_info
  have := run_make (P := Try.prog) w 31 67 i _ Try.underlying31 hi hz .i64 .i64 n n (by omega) (by omega) (by rw [hb]; omega) (by omega)
  rw [this, hs]
  simp only [Int.toNat_natCast]
  rw [made_gates]

set_option maxHeartbeats 1000000 in
theorem toGateS_calls (A : Option Addr) (n c : Nat) (gs : List Gt) (w : World) (hn : n = gs.length) (h : Gates w A c gs) (hb : n ≤ 1048576) :
    Calls Try.prog 37 #[.slice A n c] w fun e w' => e = .returned (.slice (some ⟨w.heap.size, 0, none⟩) n n) ∧ Blk w' w.heap.size 67 (gcells gs).toArray ∧ Ext w w' := by
  obtain ⟨hl, hc, hr⟩ := h
  have hmk := make_gates n hb
  have hn1 : n ≤ gs.length := by omega
  have hn2 : gs.length ≤ n := by omega
  replace hn := hide hn
  go_enter Try.func37, Try.ntmps37
  go_wp2_with fail
  go_loopw [4] (fun i wr => ∃ k : Nat, k ≤ n ∧ i = .int .i64 k ∧ Blk wr w.heap.size 67 (gcells (gs.take k) ++ List.replicate ((n - k) * 3) (Value.int .i64 0)).toArray ∧ Ext w wr) (fun i _ => n - (intOf i).toNat)
  case atStart => exact ⟨0, by omega, rfl, by simpa [gcells, flat3] using Blk.new w 67 _, (Ext.refl _).alloc _⟩
  case round =>
    obtain ⟨k, hk, rfl, hbk, hx⟩ := hrel
    have hzl := hbk.lt
    by_cases hlt : k < n
    · obtain ⟨b, o, rfl, hb, hc⟩ := hr k (by omega)
      obtain ⟨h1, h2, h3⟩ := hc k (by omega)
      have hck1 := hx.cell h1
      have hck2 := hx.cell h2
      have hck3 := hx.cell h3
      have hbr : b < wr.heap.size := by have := hx.size; omega
      have HB := hide hbk
      have HX := hide hx
      clear hr hc hbk hx hmk h1 h2 h3
      go_wp2_with fail
      refine (toGate_calls _ _ _ _).use fun w1 x1 => ?_
      have hB1 := HB.out.ext x1
      have hl1 : (flat3 ((gs.take k).map gcell)).length = k * 3 := by rw [flat3_length]; simp; omega
      have f0 : w1.frozen? ⟨w.heap.size, k * 3, none⟩ = false := hB1.frozen _
      have f1 : w1.frozen? ⟨w.heap.size, k * 3 + 1, none⟩ = false := hB1.frozen _
      have f2 : w1.frozen? ⟨w.heap.size, k * 3 + 2, none⟩ = false := hB1.frozen _
      have old : ∀ i, i < n * 3 → k * 3 ≤ i → w1.cell? ⟨w.heap.size, i, none⟩ = some (Value.int .i64 0) := fun i hi hi' => by
        rw [hB1.cell, List.getElem?_toArray, gcells, List.getElem?_append_right (by omega), hl1, List.getElem?_replicate, if_pos (by omega)]
      have o0 := old (k * 3) (by omega) (by omega)
      have o1 := old (k * 3 + 1) (by omega) (by omega)
      have o2 := old (k * 3 + 2) (by omega) (by omega)
      have hz1 : w.heap.size < w1.heap.size := hB1.lt
      replace hB1 := hide hB1
      replace x1 := hide x1
      clear old hl1
      go_wp2_with fail
      go_roundw
      case rel =>
        refine ⟨k + 1, by omega, by go_num, ?_, (((HX.out.trans x1.out).setb (Nat.le_refl _) _).setb (Nat.le_refl _) _).setb (Nat.le_refl _) _⟩
        have h1 := ((hB1.out.set_ (k * 3) (.int .i64 gs[k].k)).set_ (k * 3 + 1) (.int .i64 gs[k].a)).set_ (k * 3 + 2) (.int .i64 gs[k].b)
        have e : List.replicate ((n - k) * 3) (Value.int .i64 0) = .int .i64 0 :: .int .i64 0 :: .int .i64 0 :: List.replicate ((n - (k + 1)) * 3) (Value.int .i64 0) := by
          rw [show (n - k) * 3 = (n - (k + 1)) * 3 + 1 + 1 + 1 by omega]; simp only [List.replicate_succ]
        rw [e, gcells, flat3_store _ _ _ _ _ _ _ _ k (by simp; omega)] at h1
        have e2 : (gs.take (k + 1)).map gcell = (gs.take k).map gcell ++ [gcell gs[k]] := by rw [List.take_succ_eq_append_getElem (show k < gs.length by omega), List.map_append]; rfl
        rw [gcells, e2]
        exact h1
      case measure => simp [intOf]; omega
    · have HB := hide hbk
      have HX := hide hx
      clear hr hbk hx hmk
      go_wp2_with fail
      go_ret
      refine ⟨rfl, ?_, HX.out⟩
      have := HB.out
      rw [show k = n by omega, List.take_of_length_le hn2] at this
      simpa using this

set_option maxHeartbeats 1000000 in
theorem toCircuit_calls (A : Option Addr) (n c : Nat) (p q : Int) (gs : List Gt) (w : World) (hn : n = gs.length) (h : Gates w A c gs) (hb : n ≤ 1048576) :
    Calls Try.prog 10 #[.agg #[.int .i64 p, .int .i64 q, .slice A n c]] w fun e w' => ∃ g, e = .returned (.agg #[.int .i64 p, .int .i64 q, .slice (some ⟨g, 0, none⟩) n n]) ∧ w.heap.size ≤ g ∧ Blk w' g 67 (gcells gs).toArray ∧ Ext w w' := by
  have HT := hide h
  replace hn := hide hn
  clear h
  go_enter Try.func10, Try.ntmps10
  go_wp2_with fail
  refine (toGateS_calls _ _ _ gs _ hn.out (HT.out.ext (((Ext.refl _).alloc _).alloc _ |>.alloc _)) hb).mono ?_
  rintro e w1 ⟨rfl, k1, x1⟩
  obtain ⟨hc1, hf1⟩ := x1.rules
  have hz := x1.size
  simp at hz
  have hsa1 : w.heap.size < w1.heap.size := by omega
  have hsb1 : w.heap.size + 1 < w1.heap.size := by omega
  have hsc1 : w.heap.size + 1 + 1 < w1.heap.size := by omega
  have X1 : Hid (Ext w w1) := hide (Ext.trans (((Ext.refl _).alloc _).alloc _ |>.alloc _) x1)
  replace k1 := hide k1
  clear x1
  go_wp2_with fail
  refine bodyPost_ret (v := .agg #[.int .i64 p, .int .i64 q, .slice (some ⟨w.heap.size + 1 + 1 + 1, 0, none⟩) n n]) (by simp only [results, Try.results10]; go_simp) rfl ?_
  clear hc1 hf1
  have K1 := k1.out
  simp at K1
  refine ⟨_, rfl, by omega, ?_, ?_⟩
  · repeat (first | (with_reducible exact K1) | (with_reducible refine Blk.farb ?_ (by omega) _))
  · repeat (first | (with_reducible exact X1.out) | (with_reducible refine Ext.setb ?_ (by omega) _))

theorem ne_self (a : Int) : (a != a) = false := by simp

theorem eqPauli_calls (k a b : Int) (w : World) : Gives Try.prog 13 #[.agg #[.int .i64 k, .int .i64 a, .int .i64 b], .agg #[.int .i64 k, .int .i64 a, .int .i64 b]] w (.bool true) := by
  unfold Gives
  have h1 := ne_self k
  have h2 := ne_self a
  have h3 := ne_self b
  go_enter Try.func13, Try.ntmps13
  go_wp2
  go_ret
  exact ⟨rfl, ((Ext.refl _).alloc _).alloc _⟩

theorem eqGate_calls (k a b : Int) (w : World) : Gives Try.prog 72 #[.agg #[.int .i64 k, .int .i64 a, .int .i64 b], .agg #[.int .i64 k, .int .i64 a, .int .i64 b]] w (.bool true) := by
  unfold Gives
  have h1 := ne_self k
  have h2 := ne_self a
  have h3 := ne_self b
  go_enter Try.func72, Try.ntmps72
  go_wp2
  go_ret
  exact ⟨rfl, ((Ext.refl _).alloc _).alloc _⟩

set_option maxRecDepth 100000 in
set_option maxHeartbeats 1000000 in
theorem eqGateS_calls (A A' : Option Addr) (n c n' c' : Nat) (gs : List Gt) (w : World) (hn : n = gs.length) (hn' : n' = gs.length) (h : Gates w A c gs) (h' : Gates w A' c' gs) :
    Gives Try.prog 39 #[.slice A n c, .slice A' n' c'] w (.bool true) := by
  obtain ⟨hl, hc, hr⟩ := h
  obtain ⟨hl', hc', hr'⟩ := h'
  subst hn hn'
  have t0 : ((gs.length : Int) != (gs.length : Int)) = false := by simp
  unfold Gives
  go_enter Try.func39, Try.ntmps39
  go_wp2_with fail
  go_loopw [5] (fun i wr => ∃ k : Nat, k ≤ gs.length ∧ i = .int .i64 k ∧ Ext w wr) (fun i _ => gs.length - (intOf i).toNat)
  case atStart => exact ⟨0, by omega, rfl, Ext.refl _⟩
  case round =>
    obtain ⟨k, hk, rfl, hx⟩ := hrel
    by_cases hlt : k < gs.length
    · obtain ⟨b, o, rfl, hb, hc⟩ := hr k hlt
      obtain ⟨h1, h2, h3⟩ := hc k hlt
      obtain ⟨b', o', rfl, hb', hc'⟩ := hr' k hlt
      obtain ⟨h1', h2', h3'⟩ := hc' k hlt
      have hck1 := hx.cell h1
      have hck2 := hx.cell h2
      have hck3 := hx.cell h3
      have hck1' := hx.cell h1'
      have hck2' := hx.cell h2'
      have hck3' := hx.cell h3'
      have HX := hide hx
      clear hr hc hx h1 h2 h3 hr' hc' h1' h2' h3'
      go_wp2_with fail
      go_still_tail 8, (by kernel_rfl)
      go_wp2_with fail
      refine (eqGate_calls _ _ _ _).use fun w1 x1 => ?_
      have X1 : Hid (Ext w w1) := hide (HX.out.drew.trans x1)
      clear x1
      go_wp2_with fail
      go_roundw
      case rel => exact ⟨k + 1, by omega, by go_num, X1.out⟩
      case measure => simp [intOf]; omega
    · have HX := hide hx
      clear hr hr' hx
      go_wp2_with fail
      go_ret
      exact ⟨rfl, HX.out⟩

set_option maxHeartbeats 1000000 in
theorem eqCircuit_calls (A A' : Option Addr) (n c n' c' : Nat) (p q : Int) (gs : List Gt) (w : World) (hn : n = gs.length) (hn' : n' = gs.length) (h : Gates w A c gs) (h' : Gates w A' c' gs) :
    Gives Try.prog 14 #[.agg #[.int .i64 p, .int .i64 q, .slice A n c], .agg #[.int .i64 p, .int .i64 q, .slice A' n' c']] w (.bool true) := by
  unfold Gives
  have HT := hide h
  have HT' := hide h'
  replace hn := hide hn
  replace hn' := hide hn'
  clear h h'
  have h1 := ne_self p
  have h2 := ne_self q
  go_enter Try.func14, Try.ntmps14
  go_wp2_with (go_at_call 39; refine (eqGateS_calls _ _ _ _ _ _ gs _ hn.out hn'.out (HT.out.ext (((Ext.refl _).alloc _).alloc _)) (HT'.out.ext (((Ext.refl _).alloc _).alloc _))).use fun w1 x1 => ?_; replace x1 := hide x1)
  go_ret
  exact ⟨rfl, Ext.trans (((Ext.refl _).alloc _).alloc _) x1.out⟩

end Go.Proofs.Ytgpnahjnhdchaaa
