/- StabilizersOf of the program and of the reference: one value for both. -/
import Derived.Test.YtgpnahjnhdchaaaRowP
import Derived.Deep.DeepCutAuto
import Derived.Deep.AppendLies
namespace Go.Proofs.Ytgpnahjnhdchaaa
open Go.RowKit

def StabP (p q : Int) (gs : List Gt) (k : Int) : Prop := CliffOk p q gs ∧ 0 ≤ k ∧ k < 2 ^ q.toNat
noncomputable def stabB (p q : Int) (gs : List Gt) (k : Int) : Bool := @decide (StabP p q gs k) (Classical.propDecidable _)
theorem stabB_true {p q : Int} {gs : List Gt} {k : Int} (h : StabP p q gs k) : stabB p q gs k = true := by simp [stabB, h]
theorem stabB_false {p q : Int} {gs : List Gt} {k : Int} (h : ¬ StabP p q gs k) : stabB p q gs k = false := by simp [stabB, h]
/-- The i-th stabilizer. -/
noncomputable def stabI (p q : Int) (gs : List Gt) (k : Int) (i : Nat) : Pl := pushR p q gs ⟨0, 2 ^ i, andI (k / 2 ^ i) 1⟩
noncomputable def stabN (p q : Int) (gs : List Gt) (k : Int) (n : Nat) : List Pl := (List.range n).map (stabI p q gs k)
noncomputable def stabL (p q : Int) (gs : List Gt) (k : Int) : List Pl := if stabB p q gs k = true then stabN p q gs k q.toNat else []
theorem stabN_succ (p q : Int) (gs : List Gt) (k : Int) (n : Nat) : stabN p q gs k (n + 1) = stabN p q gs k n ++ [stabI p q gs k n] := by
  simp [stabN, List.range_succ]
theorem stabN_length (p q : Int) (gs : List Gt) (k : Int) (n : Nat) : (stabN p q gs k n).length = n := by simp [stabN]

theorem pauli_info : (Try.prog.info? 28).map (fun i => (i.zero, i.size, i.bytes)) = some (some (.agg #[.int .i64 0, .int .i64 0, .int .i64 0]), 3, 24) := by kernel_rfl

theorem p3_oneCell (u : Pl) : ∀ v ∈ [Value.int .i64 u.x, Value.int .i64 u.z, Value.int .i64 u.s], v.oneCell' = true := by simp [Value.oneCell']
theorem le_alloc {a : Nat} {w : World} (h : a ≤ w.heap.size) (o : Obj) : a ≤ (w.alloc o).heap.size := by simp; omega

set_option maxRecDepth 100000 in
set_option maxHeartbeats 4000000 in
theorem implStabilizersOf_calls (A : Option Addr) (n c : Nat) (p q : Int) (gs : List Gt) (k : Int) (w : World) (hn : n = gs.length) (hn1 : n ≤ 1048576) (h : Gates w A c gs) :
    Calls Try.prog 16 #[.agg #[.int .i64 p, .int .i64 q, .slice A n c], .int .i64 k] w fun e w' => ∃ B cB,
      e = .returned (.tuple #[.slice B (stabL p q gs k).length cB, .bool (stabB p q gs k)]) ∧ OwnP w' w.heap.size B cB (stabL p q gs k) ∧ Ext w w' := by
  subst hn
  have HT := hide h
  clear h
  have p0 : Ext w (w.alloc (Obj.cells #[.int .i64 p, .int .i64 q, .slice A gs.length c] 33)) := (Ext.refl _).alloc _
  have B0 : Blk (w.alloc (Obj.cells #[.int .i64 p, .int .i64 q, .slice A gs.length c] 33)) w.heap.size 33 #[.int .i64 p, .int .i64 q, .slice A gs.length c] := Blk.new _ _ _
  replace p0 := hide p0
  replace B0 := hide B0
  go_enter Try.func16, Try.ntmps16
  go_wp2_with fail
  refine (implIsClifford_calls _ _ _ p q gs _ rfl (HT.out.ext p0.out)).use fun w1 x1 => ?_
  have B1 := B0.out.ext x1
  have X1 := hide (p0.out.trans x1)
  obtain ⟨d0, d1, d2, _, _, _, d6⟩ := blk3 B1
  replace B1 := hide B1
  clear x1 p0 B0
  by_cases hcl : CliffOk p q gs
  · have C1 := cliffB_true hcl
    obtain ⟨hq1, hq2⟩ : 1 ≤ q ∧ q ≤ 5 := ⟨hcl.1.2.1, hcl.1.2.2.1⟩
    have hp := two_pow hq1 hq2
    have e1 : wrap64 (1 * 2 ^ q.toNat) = 2 ^ q.toNat := by rw [Int.one_mul]; exact IntWalk.wrap64_in _ ⟨by omega, by omega⟩
    have e2 : wrap64 (2 ^ q.toNat) = 2 ^ q.toNat := IntWalk.wrap64_in _ ⟨by omega, by omega⟩
    rw [C1]
    by_cases hk : 0 ≤ k ∧ k < 2 ^ q.toNat
    · have H1 := hide (stabB_true ⟨hcl, hk⟩)
      have H2 : Hid (stabL p q gs k = stabN p q gs k q.toNat) := hide (if_pos H1.out)
      replace hcl := hide hcl
      obtain ⟨hk1, hk2⟩ := hk
      clear C1
      go_wp2_with fail
      clear e1 e2 d0 d1 d2
      go_loopw [6, 7] (fun lv i wr => ∃ (j : Nat) (B : Option Addr) (cB : Nat), (j : Int) ≤ q ∧ i = .int .i64 j ∧ lv = .slice B (stabN p q gs k j).length cB ∧ OwnP wr w1.heap.size B cB (stabN p q gs k j) ∧
        Ext w1 wr) (fun _ i _ => q.toNat - (intOf i).toNat)
      case atStart => exact ⟨0, none, 0, by omega, rfl, rfl, OwnP.nil _ _, Ext.refl _⟩
      case round =>
        obtain ⟨j, B, cB, hj, rfl, rfl, ho, hx⟩ := hrel
        obtain ⟨d0, d1, d2, _, _, _, d6⟩ := blk3 (B1.out.ext hx)
        have hl := ho.len
        replace ho := hide ho
        by_cases hlt : (j : Int) < q
        · have hj5 : j ≤ 4 := by omega
          have hpj : 1 ≤ (2 : Int) ^ j ∧ (2 : Int) ^ j ≤ 16 := by
            have e : j = 0 ∨ j = 1 ∨ j = 2 ∨ j = 3 ∨ j = 4 := by omega
            rcases e with rfl | rfl | rfl | rfl | rfl <;> decide
          have e3 : IntKind.i64.wrap (2 ^ j) = 2 ^ j := IntWalk.i64_in _ ⟨by omega, by omega⟩
          have e4 : wrap64 (2 ^ j) = 2 ^ j := IntWalk.wrap64_in _ ⟨by omega, by omega⟩
          go_upto_region 7 with fail
          go_cut [8] (fun s8 wx => ∃ b, s8 = .pointer (some ⟨b, 0, none⟩) ∧ wr.heap.size ≤ b ∧ Ext wr wx ∧ Blk wx b 28 #[.int .i64 (stabI p q gs k j).x, .int .i64 (stabI p q gs k j).z, .int .i64 (stabI p q gs k j).s])
          case first =>
            have G := hide ((HT.out.ext X1.out).ext hx)
            have CC : Hid (∀ w', Gates w' A c gs → Gives Try.prog 12 #[.agg #[.int .i64 p, .int .i64 q, .slice A gs.length c], .agg #[.int .i64 0, .int .i64 (2 ^ j), .int .i64 (bits BinOp.and IntKind.i64 (k / 2 ^ j) 1)]] w'
                (.tuple #[.agg #[.int .i64 (stabI p q gs k j).x, .int .i64 (stabI p q gs k j).z, .int .i64 (stabI p q gs k j).s], .bool (pushOk p q gs ⟨0, 2 ^ j, andI (k / 2 ^ j) 1⟩)])) :=
              hide fun w' hG => implPushPauli_calls A gs.length c p q gs ⟨0, 2 ^ j, andI (k / 2 ^ j) 1⟩ w' rfl hn1 hG
            have mk : Hid (∀ w', Ext wr w' → Ext wr w' ∧ w'.cell? ⟨w.heap.size, 0, none⟩ = some (.int .i64 p) ∧ w'.cell? ⟨w.heap.size, 1, none⟩ = some (.int .i64 q) ∧ w'.cell? ⟨w.heap.size, 2, none⟩ = some (.slice A gs.length c)) :=
              hide fun w' E => ⟨E, E.cell d0, E.cell d1, E.cell d2⟩
            have S0 := mk.out wr (Ext.refl _)
            clear hx d0 d1 d2
            go_region_held3 (fun w' => Ext wr w' ∧ w'.cell? ⟨w.heap.size, 0, none⟩ = some (.int .i64 p) ∧ w'.cell? ⟨w.heap.size, 1, none⟩ = some (.int .i64 q) ∧ w'.cell? ⟨w.heap.size, 2, none⟩ = some (.slice A gs.length c))
              (first
                | (go_split_ands; exact mk.out _ (Ext.trans (by assumption) (by assumption)))
                | (go_split_ands; exact mk.out _ (Ext.drew (by assumption)))
                | (go_split_ands; exact mk.out _ (Ext.alloc (by assumption) _))
                | (go_split_ands; refine mk.out _ ?_; repeat (first | (with_reducible assumption) | (with_reducible refine Ext.setb ?_ (by omega) _))))
              ((go_at_call 12; go_split_ands; refine (CC.out _ (G.out.ext (by assumption))).use fun w6 x6 => ?_; (first | (have N6 := Blk.ext (Blk.new _ _ _) x6; obtain ⟨n0, n1, n2, n3, n4, n5, n6⟩ := blk3 N6) | (have N6 := Blk.ext (Blk.drew (Blk.new _ _ _)) x6; obtain ⟨n0, n1, n2, n3, n4, n5, n6⟩ := blk3 N6) | skip); have L6 := Ext.trans (by assumption) x6; have l6 := L6.size))
            all_goals (go_wp2_with fail; go_meet; go_split_ands; first | exact ⟨_, rfl, by omega, by assumption, Blk.new _ _ _⟩ | exact ⟨_, rfl, by omega, by assumption, ((N6.set_ 0 _).set_ 1 _).set_ 2 _⟩)
          case rest =>
            obtain ⟨b, rfl, hb, E, BX⟩ := hcut
            obtain ⟨i0, hi, hz0, hz1, hz2⟩ := info_parts pauli_info
            obtain ⟨n0, n1, n2, _, _, _, n6⟩ := blk3 BX
            have hown := hide (ho.out.ext E)
            have hx' := hide (hx.trans E)
            have hw1 := hx.size
            have hX1 := X1.out.size
            have hE := E.size
            have hlen := stabN_length p q gs k j
            obtain ⟨u, hu⟩ : ∃ u, u = stabI p q gs k j := ⟨_, rfl⟩
            rw [← hu] at n0 n1 n2
            replace hu := hide hu
            replace hlen := hide hlen
            have l3 : (stabN p q gs k j).length + 1 ≤ maxLen := by rw [hlen.out]; unfold maxLen; omega
            have l4 : ((stabN p q gs k j).length + 1) * 24 ≤ 140737488355328 := by rw [hlen.out]; omega
            have l5 : w1.heap.size ≤ wc.heap.size := by omega
            clear hx E BX e3 e4 hpj ho
            go_wp2_with (at_builtin; refine wpList_append_own_at _ rfl _ _ 39 rfl w1.heap.size 28 i0 _ 3 24 Try.underlying39 hi hz0 hz1 hz2 rfl (by decide) _ _ _ rfl (World.ownsRow.alloc hown.out _) ⟨wc.heap.size, 0, none⟩ 1 1 [.int .i64 u.x, .int .i64 u.z, .int .i64 u.s] rfl rfl (World.news_of_block (cs := #[.int .i64 u.x, .int .i64 u.z, .int .i64 u.s]) (t := 28) (fr := (0, 0)) (heap_alloc_new wc _)) (p3_oneCell u) l3 l4 (le_alloc l5 _) ?_; intro v' w5 hown' hgrow hnil hloc; obtain ⟨g', cap', rfl, hg1, hg2⟩ := World.ownsRow.form hown' (Nat.succ_pos _); replace hown' := hide hown'; replace hgrow := hide hgrow; clear hnil hloc)
            go_roundw
            case rel =>
              have e5 : (stabN p q gs k (j + 1)).length = (stabN p q gs k j).length + 1 := by rw [stabN_length, stabN_length]
              refine ⟨j + 1, some ⟨g', 0, none⟩, cap', by omega, by go_num, by rw [e5], ?_, ?_⟩
              · have h1 := hown'.out
                unfold OwnP
                rw [e5, stabN_succ, pcells_snoc, ← hu.out]
                exact h1
              · exact OwnP.ext_grown (OwnP.ext hown.out ((Ext.refl _).alloc _)) (hx'.out.alloc _) (Nat.le_refl _) hgrow.out
            case measure => simp [intOf]; omega
        · have e : j = q.toNat := by omega
          subst e
          have hx' := hide hx
          clear hx
          go_wp2_with fail
          refine bodyPost_ret (v := .tuple #[.slice B (stabN p q gs k q.toNat).length cB, .bool true]) (by simp only [results, Try.results16]; go_simp) rfl ?_
          rw [H1.out, H2.out]
          exact ⟨_, _, rfl, ho.out.mono X1.out.size, X1.out.trans hx'.out⟩
    · have H1 := hide (stabB_false (p := p) (q := q) (gs := gs) (k := k) fun h => hk h.2)
      have H2 : Hid (stabL p q gs k = []) := hide (if_neg (by rw [H1.out]; simp))
      replace hcl := hide hcl
      clear C1
      go_wp2_with fail
      all_goals (first | (exfalso; omega) | skip)
      all_goals (refine bodyPost_ret (v := .tuple #[.slice none 0 0, .bool false]) (by simp only [results, Try.results16]; go_simp) rfl ?_; rw [H1.out, H2.out]; exact ⟨none, 0, rfl, OwnP.nil _ _, X1.out⟩)
  · have C1 := cliffB_false hcl
    have H1 := hide (stabB_false (p := p) (q := q) (gs := gs) (k := k) fun h => hcl h.1)
    have H2 : Hid (stabL p q gs k = []) := hide (if_neg (by rw [H1.out]; simp))
    rw [C1]
    clear C1 hcl
    go_wp2_with fail
    refine bodyPost_ret (v := .tuple #[.slice none 0 0, .bool false]) (by simp only [results, Try.results16]; go_simp) rfl ?_
    rw [H1.out, H2.out]
    exact ⟨none, 0, rfl, OwnP.nil _ _, X1.out⟩

end Go.Proofs.Ytgpnahjnhdchaaa
