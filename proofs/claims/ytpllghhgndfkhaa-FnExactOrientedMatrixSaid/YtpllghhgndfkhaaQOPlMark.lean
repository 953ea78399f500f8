/- Marks laid into slices of slices, and looked for. -/
import Derived.Test.YtpllghhgndfkhaaQOPlIntS
import Derived.Test.YtpllghhgndfkhaaChg
namespace Go.Proofs.Ytpllghhgndfkhaa.PFnExactOrientedMatrix
open Go.RowKit Go.Proofs.YtpllghhgndfkhaaW.PrintWords Go.Proofs.YtpllghhgndfkhaaW.PrintLast Go.Proofs.YtpllghhgndfkhaaW.PrintMore

/-- The marks m, m + 1, .. -/
def mkI (m : Int) (n : Nat) : List Int := (List.range n).map fun (i : Nat) => m + (i : Int)
theorem mkI_length (m : Int) (n : Nat) : (mkI m n).length = n := by simp [mkI]
theorem mkI_succ (m : Int) (n : Nat) : mkI m (n + 1) = mkI m n ++ [m + (n : Int)] := by simp [mkI, List.range_succ]
theorem set_mid {α : Type} (us : List α) (v : α) (vs : List α) (x : α) (i : Nat) (hi : us.length = i) : (us ++ v :: vs).set i x = us ++ x :: vs := by
  subst hi
  rw [List.set_append_right _ _ (Nat.le_refl _)]
  simp
theorem getD_mid {α : Type} (us : List α) (v : α) (vs : List α) (d : α) (i : Nat) (hi : us.length = i) : (us ++ v :: vs).getD i d = v := by
  subst hi
  simp

theorem markIntS_ev (l : List Int) (m : Int) (hl : l.length ≤ 1048576) (h0 : 0 ≤ m) (h1 : m ≤ 1000000000) : Evs (fun k => laws_markIntS.f k l m) (m + (l.length : Int), mkI m l.length) := by
  have key : ∀ (d i : Nat), i + d = l.length → Evs (fun k => laws_markIntS.l0 k (mkI m i ++ l.drop i) (m + (i : Int)) i) (m + (l.length : Int), mkI m l.length) := by
    intro d
    induction d with
    | zero =>
      intro i hi
      obtain rfl : i = l.length := by omega
      refine Evs.step (g' := fun _ => some _) (fun k => ?_) (Evs.const _)
      simp only [laws_markIntS.l0]
      rw [if_neg (by simp [mkI_length])]
      simp
    | succ d ih =>
      intro i hi
      refine Evs.step (fun k => ?_) (ih (i + 1) (by omega))
      have hd : l.drop i = l[i] :: l.drop (i + 1) := List.drop_eq_getElem_cons (by omega)
      simp only [laws_markIntS.l0]
      rw [if_pos (by simp [mkI_length]; omega), if_pos (by omega), hd, Int.toNat_natCast, set_mid _ _ _ _ _ (mkI_length m i)]
      rw [w64 (x := m + (i : Int) + 1) (by omega) (by omega), w64 (x := (i : Int) + 1) (by omega) (by omega)]
      rw [mkI_succ, List.append_assoc, show m + (i : Int) + 1 = m + ((i + 1 : Nat) : Int) by omega]
      rfl
  unfold laws_markIntS.f
  simpa [mkI] using key l.length 0 (by omega)

/-- The marks of the first j rows. -/
def mkP (m : Int) (l : List (List Int)) (j : Nat) : List (List Int) := (List.range j).map fun (a : Nat) => mkI (m + ((l.take a).flatten.length : Int)) (l.getD a []).length
theorem mkP_length (m : Int) (l : List (List Int)) (j : Nat) : (mkP m l j).length = j := by simp [mkP]
theorem mkP_succ (m : Int) (l : List (List Int)) {j : Nat} (h : j < l.length) : mkP m l (j + 1) = mkP m l j ++ [mkI (m + ((l.take j).flatten.length : Int)) l[j].length] := by
  simp only [mkP, List.range_succ, List.map_append, List.map_cons, List.map_nil]
  rw [getD_lt h]
theorem flat_succ {α : Type} {ar : List (List α)} {i : Nat} (h : i < ar.length) : (ar.take (i + 1)).flatten.length = (ar.take i).flatten.length + ar[i].length := by
  rw [List.take_succ_eq_append_getElem h, List.flatten_append, List.flatten_singleton, List.length_append]
theorem flat_le {α : Type} {ar : List (List α)} (i : Nat) : (ar.take i).flatten.length ≤ ar.flatten.length := by
  have h : ar.flatten = (ar.take i).flatten ++ (ar.drop i).flatten := by rw [← List.flatten_append, List.take_append_drop]
  rw [h]; simp
theorem row_le {ar : List (List Int)} {i : Nat} (h : i < ar.length) : (ar.take i).flatten.length + ar[i].length ≤ ar.flatten.length := by
  have := flat_le (ar := ar) (i + 1)
  rw [flat_succ h] at this
  exact this

theorem heldIntS_ev (m : Int) (n : Nat) (hn : n ≤ 1048576) (h0 : 0 ≤ m) (h1 : m ≤ 1000000000) : Evs (fun k => laws_heldIntS.f k (mkI m n) m) (m + (n : Int)) := by
  have key : ∀ (d i : Nat), i + d = n → Evs (fun k => laws_heldIntS.l0 k (mkI m n) (m + (i : Int)) i) (m + (n : Int)) := by
    intro d
    induction d with
    | zero =>
      intro i hi
      obtain rfl : i = n := by omega
      exact Evs.step (fun k => by simp only [laws_heldIntS.l0]; rfl) (Evs.neg (by simp [mkI_length]) (Evs.const _))
    | succ d ih =>
      intro i hi
      refine Evs.step (fun k => by simp only [laws_heldIntS.l0]; rfl) (Evs.pos (by rw [mkI_length]; omega) (Evs.pos (by omega) ?_))
      have hr : rd (mkI m n) (i : Int) = m + i := by
        rw [rd_at (by rw [mkI_length]; omega)]
        simp [mkI]
      rw [hr, w64 (x := m + (i : Int) + 1) (by omega) (by omega), w64 (x := (i : Int) + 1) (by omega) (by omega), show m + (i : Int) + 1 = m + ((i + 1 : Nat) : Int) by omega]
      exact Evs.pos rfl (ih (i + 1) (by omega))
  unfold laws_heldIntS.f
  simpa using key n 0 (by omega)

/-- How many numbers there are; in the first j rows. -/
def flen (l : List (List Int)) : Nat := l.flatten.length
def tot (l : List (List Int)) (j : Nat) : Nat := (l.take j).flatten.length
theorem tot_succ {l : List (List Int)} {j : Nat} (h : j < l.length) : tot l (j + 1) = tot l j + l[j].length := flat_succ h
theorem tot_row {l : List (List Int)} {j : Nat} (h : j < l.length) : tot l j + l[j].length ≤ flen l := row_le h
theorem tot_all (l : List (List Int)) : tot l l.length = flen l := by unfold tot flen; rw [List.take_length]
theorem tot_zero (l : List (List Int)) : tot l 0 = 0 := by simp [tot]

/-! ### In memory -/

/-- The slice v of slices is the call's own, in blocks from b on, no two of its rows in one block; its list is l. -/
def OS (w : World) (b hi : Nat) (v : Value) (l : List (List Int)) : Prop := Kd.S (Kd.slice 3 (Kd.int .i64)) 42 w b (fun k => b ≤ k ∧ k < hi) v l
theorem OS.of {w : World} {b : Nat} {v : Value} {l : List (List Int)} (h : Kd.S (Kd.slice 3 (Kd.int .i64)) 42 w b (fun _ => True) v l) : OS w b w.heap.size v l :=
  Kd.S_mono (Kd.S_bound h) fun _ hk => ⟨hk.2.1, hk.2.2.1⟩
theorem OS.ext {w w' : World} {b hi : Nat} {v : Value} {l : List (List Int)} (h : OS w b hi v l) (hx : Ext w w') : OS w' b hi v l := Kd.S_below h hx
theorem OS.chg {w w' : World} {S : Nat → Prop} {b hi : Nat} {v : Value} {l : List (List Int)} (h : OS w b hi v l) (hx : Chg S w w') (hd : ∀ k, b ≤ k → k < hi → ¬ S k) : OS w' b hi v l :=
  Kd.S_step h fun k hk hlt => hx.block k hlt (hd k hk.1 hk.2)
theorem OS.reads {w : World} {b hi : Nat} {v : Value} {l : List (List Int)} (h : OS w b hi v l) : ∃ A c, v = .slice A l.length c ∧ l.length ≤ c ∧ Kd.C (Kd.slice 3 (Kd.int .i64)) w A l.length l := by
  obtain ⟨A, c, rfl⟩ := Kd.S_slice h
  exact ⟨A, c, rfl, (Kd.S_reads' h).2.1, (Kd.S_reads' h).2.2⟩

/-- A flat row of the call's own, in blocks from b on. -/
def OR {α : Type} (d : Kd α) (e : Nat) (w : World) (b hi : Nat) (v : Value) (l : List α) : Prop := Kd.R d e w b (fun k => b ≤ k ∧ k < hi) v l
theorem OR.of {α : Type} {d : Kd α} {e : Nat} {w : World} {b : Nat} {v : Value} {l : List α} (h : Kd.R d e w b (fun _ => True) v l) : OR d e w b w.heap.size v l :=
  Kd.R_mono (Kd.R_bound h) fun _ hk => ⟨hk.2.1, hk.2.2.1⟩
theorem OR.ext {α : Type} {d : Kd α} {e : Nat} {w w' : World} {b hi : Nat} {v : Value} {l : List α} (h : OR d e w b hi v l) (hx : Ext w w') : OR d e w' b hi v l := Kd.R_below h hx
theorem OR.chg {α : Type} {d : Kd α} {e : Nat} {w w' : World} {S : Nat → Prop} {b hi : Nat} {v : Value} {l : List α} (h : OR d e w b hi v l) (hx : Chg S w w') (hd : ∀ k, b ≤ k → k < hi → ¬ S k) : OR d e w' b hi v l :=
  Kd.R_step h fun k hk hlt => hx.block k hlt (hd k hk.1 hk.2)
theorem OR.reads {α : Type} {d : Kd α} {e : Nat} {w : World} {b hi : Nat} {v : Value} {l : List α} (h : OR d e w b hi v l) : ∃ A c, v = .slice A l.length c ∧ l.length ≤ c ∧ Kd.C d w A l.length l := by
  obtain ⟨A, c, rfl⟩ := Kd.R_slice h
  exact ⟨A, c, rfl, (Kd.R_reads' h).2.1, (Kd.R_reads' h).2.2⟩

theorem chg_of {w0 w w' : World} {S : Nat → Prop} (hB : Below w0.heap.size w0 w) (hB' : Below w0.heap.size w0 w') (hk : Kept w w' S) : Chg S w w' :=
  ⟨hB'.os.trans hB.os.symm, hB'.tape.trans hB.tape.symm, hB'.output.trans hB.output.symm, hk.1, fun g hg hs => hk.2 g hg hs⟩

set_option maxRecDepth 100000 in
set_option maxHeartbeats 2000000 in
theorem markIntSS_calls (v : Value) (hi : Nat) (l : List (List Int)) (m : Int) (wb w : World) (hB : Ext wb w) (h : OS w wb.heap.size hi v l) (hl : l.length ≤ 1048576) (hf : flen l ≤ 1048576) (h0 : 0 ≤ m) (h1 : m ≤ 100000000) :
    Calls Try.prog 16 #[v, .int .i64 m] w fun e w' => e = .returned (.int .i64 (m + (flen l : Int))) ∧ OS w' wb.heap.size hi v (mkP m l l.length) ∧ Chg (fun k => wb.heap.size ≤ k ∧ k < hi) w w' ∧ Ext wb w' := by
  obtain ⟨A, c, rfl, hlc, hC⟩ := h.reads
  have HO := hide h
  have HB := hide hB
  clear h hC hB
  go_enter Try.func16, Try.ntmps16
  go_wp2_with fail
  go_loopw [1, 5] (fun kv i wr => ∃ j : Nat, j ≤ l.length ∧ i = .int .i64 j ∧ kv = .int .i64 (m + (tot l j : Int)) ∧ Hid (OS wr wb.heap.size hi (.slice A l.length c) (mkP m l j ++ l.drop j)) ∧ Hid (Ext wb wr) ∧ Hid (Chg (fun k => wb.heap.size ≤ k ∧ k < hi) w wr)) (fun _ i _ => l.length - (intOf i).toNat)
  case atStart => exact ⟨0, by omega, rfl, by rw [tot_zero]; simp, by simpa [mkP] using HO, HB, Chg.refl _ _⟩
  case round =>
    obtain ⟨j, hj, rfl, rfl, ho, hx, hc⟩ := hrel
    by_cases hlt : j < l.length
    · have hlen : (mkP m l j ++ l.drop j).length = l.length := by rw [List.length_append, mkP_length, List.length_drop]; omega
      have hd : l.drop j = l[j] :: l.drop (j + 1) := List.drop_eq_getElem_cons (by omega)
      obtain ⟨g, cap, eg, hg1, hg2, _⟩ := Kd.S_form ho.out (by rw [hlen]; omega)
      simp only [Value.slice.injEq] at eg
      obtain ⟨rfl, -, rfl⟩ := eg
      have hS : Kd.S (Kd.slice 3 (Kd.int .i64)) 42 wr wb.heap.size (fun k => wb.heap.size ≤ k ∧ k < hi) (.slice (some ⟨g, 0, none⟩) l.length c) (mkP m l j ++ l.drop j) := ho.out
      obtain ⟨oki, cs, hcl, hM, hcell, hoki, hH⟩ := Kd.S_lend hS [] (j : Int) (by omega) (by omega)
      obtain ⟨v', rfl, hR⟩ := hM
      have ex : (mkP m l j ++ l.drop j).getD ((j : Int)).toNat [] = l[j] := by rw [hd, Int.toNat_natCast, getD_mid _ _ _ _ _ (mkP_length m l j)]
      rw [ex] at hR
      have hcj : wr.cell? ⟨g, j, none⟩ = some v' := by
        have := hcell 0 v' rfl
        simpa [show (Kd.slice 3 (Kd.int .i64)).sz = 1 from rfl] using this
      obtain ⟨A', c', rfl⟩ := Kd.R_slice hR
      have hb := tot_row hlt
      obtain ⟨K, hK⟩ := (markIntS_ev l[j] (m + (tot l j : Int)) (by omega) (by omega) (by omega)).at_
      have hR' := Kd.R_tight rfl hR
      have hown := hR.1
      replace hR := hide hR
      replace hR' := hide hR'
      replace hown := hide hown
      replace hK := hide hK
      replace hH := hide hH
      replace hoki := hide hoki
      clear hS hcell hcl ex hlen
      go_wp2_with fail
      have HC := laws_markIntS.calls K (fun q => some q = (Value.slice A' l[j].length c').ownBlock) (.slice A' l[j].length c') l[j] _ _ _ wb wr hx.out hR'.out hK.out
      (with_reducible refine HC.mono ?_)
      clear HC
      rintro e w1 ⟨rfl, hR1, hB1, hkp⟩
      have hsz := hkp.1
      have hown1 := hide hR1.1
      have hR2 := hide (Kd.R_tight rfl hR1)
      have hc1 := hide (chg_of hx.out hB1 hkp)
      have hS1 : Hid (OS w1 wb.heap.size hi (.slice (some ⟨g, 0, none⟩) l.length c) (mkP m l (j + 1) ++ l.drop (j + 1))) := by
        refine hide ?_
        have h2 := Kd.H_step (w1 := w1) hH.out (fun q _ hq hlt' => hkp.2 q hlt' (fun hp => hq (hown.out q hp.symm)))
        have h3 := Kd.H_back h2 (x' := mkI (m + (tot l j : Int)) l[j].length) ⟨_, rfl, hR2.out⟩ (fun q hq => hown.out q hq.symm)
        rw [hd, Int.toNat_natCast, set_mid _ _ _ _ _ (mkP_length m l j)] at h3
        rw [mkP_succ _ _ hlt, List.append_assoc]
        exact h3
      replace hB1 := hide hB1
      clear hR1 hkp hR2 hH hR hR' hcj
      go_wp2_with fail
      go_roundw
      case rel =>
        refine ⟨j + 1, by omega, by go_num, ?_, hS1, hB1, ?_⟩
        · rw [tot_succ hlt]
          congr 1
          omega
        · refine hide (hc.out.trans (hc1.out.mono fun q hq => ?_))
          exact (hoki.out q (hown.out q hq.symm)).1
      case measure => simp [intOf]; omega
    · have e : j = l.length := by omega
      subst e
      go_wp2_with fail
      go_ret
      refine ⟨?_, ?_, hc.out, hx.out⟩
      · exact ret_int (by rw [tot_all])
      · have := ho.out
        rw [List.drop_length, List.append_nil] at this
        exact this

end Go.Proofs.Ytpllghhgndfkhaa.PFnExactOrientedMatrix
