/- The dimensions of labels in a list of tensors: of the reference (l12Dim) and of the program (dimsOf). -/
import Derived.Test.YtkilgbdkekpnpaaSize
namespace Go.Proofs.Ytkilgbdkekpnpaa
open Go.RowKit

/-! ### Plain laws -/

/-- The dimension of a label in the first tensor that has it, or 0. -/
def dimOf : List Ten → Int → Int
  | [], _ => 0
  | t :: r, x => if x ∈ t.l then t.d.getD (t.l.idxOf x) 0 else dimOf r x

theorem dimOf_none {ts : List Ten} {x : Int} (h : ∀ j (hj : j < ts.length), x ∉ ts[j].l) : dimOf ts x = 0 := by
  induction ts with
  | nil => rfl
  | cons t ts ih =>
    rw [dimOf, if_neg (show x ∉ t.l from h 0 (by simp))]
    exact ih fun j hj => h (j + 1) (by simpa using hj)
theorem dimOf_at {ts : List Ten} {x : Int} {k : Nat} (hk : k < ts.length) (h : ∀ j (hj : j < ts.length), j < k → x ∉ ts[j].l) (hm : x ∈ ts[k].l) : dimOf ts x = ts[k].d.getD (ts[k].l.idxOf x) 0 := by
  induction ts generalizing k with
  | nil => simp at hk
  | cons t ts ih =>
    cases k with
    | zero => exact if_pos hm
    | succ k =>
      rw [dimOf, if_neg (show x ∉ t.l from h 0 (by simp) (by omega))]
      exact ih (by simpa using hk) (fun j hj hlt => h (j + 1) (by simpa using hj) (by omega)) (by simpa using hm)
theorem dimOf_snoc (ts : List Ten) (t : Ten) (x : Int) : dimOf (ts ++ [t]) x = if (∃ u ∈ ts, x ∈ u.l) then dimOf ts x else if x ∈ t.l then t.d.getD (t.l.idxOf x) 0 else 0 := by
  induction ts with
  | nil => simp [dimOf]
  | cons u ts ih =>
    simp only [List.cons_append, dimOf]
    by_cases hu : x ∈ u.l
    · rw [if_pos hu, if_pos ⟨u, by simp, hu⟩, if_pos hu]
    · rw [if_neg hu, ih]
      by_cases he : ∃ v ∈ ts, x ∈ v.l
      · obtain ⟨v, hv, hx⟩ := he
        rw [if_pos ⟨v, hv, hx⟩, if_pos ⟨v, by simp [hv], hx⟩, if_neg hu]
      · have he' : ¬ ∃ v ∈ u :: ts, x ∈ v.l := by
          rintro ⟨v, hv, hx⟩
          rcases List.mem_cons.1 hv with rfl | hv
          · exact hu hx
          · exact he ⟨v, hv, hx⟩
        rw [if_neg he, if_neg he']

theorem dimOf_zero {ts : List Ten} {x : Int} (h : ¬ ∃ u ∈ ts, x ∈ u.l) : dimOf ts x = 0 :=
  dimOf_none fun j hj hm => h ⟨ts[j], List.getElem_mem hj, hm⟩

/-- All axes are right. -/
def AllAxes (ts : List Ten) : Prop := ∀ t ∈ ts, AxesOk t.l t.d

theorem AxesOk.getD {t : Ten} (h : AxesOk t.l t.d) {k : Nat} (hk : k < t.l.length) : 1 ≤ t.d.getD k 0 ∧ t.d.getD k 0 ≤ 8 := by
  have hk' : k < t.d.length := by have := h.2.1; omega
  have := h.2.2 k hk hk'
  simp only [List.getD_eq_getElem?_getD, List.getElem?_eq_getElem hk', Option.getD_some]
  omega
theorem dimOf_pos {ts : List Ten} (ha : AllAxes ts) {x : Int} (h : ∃ u ∈ ts, x ∈ u.l) : 1 ≤ dimOf ts x ∧ dimOf ts x ≤ 8 := by
  induction ts with
  | nil => obtain ⟨u, hu, _⟩ := h; cases hu
  | cons t ts ih =>
    rw [dimOf]
    by_cases hm : x ∈ t.l
    · rw [if_pos hm]
      exact (ha t (by simp)).getD (List.idxOf_lt_length_of_mem hm)
    · rw [if_neg hm]
      refine ih (fun u hu => ha u (by simp [hu])) ?_
      obtain ⟨u, hu, hx⟩ := h
      rcases List.mem_cons.1 hu with rfl | hu
      · exact absurd hx hm
      · exact ⟨u, hu, hx⟩
theorem dimOf_iff {ts : List Ten} (ha : AllAxes ts) {x : Int} : (0 < dimOf ts x ↔ ∃ u ∈ ts, x ∈ u.l) := by
  constructor
  · intro h
    apply Classical.byContradiction
    intro hn
    rw [dimOf_zero hn] at h
    omega
  · intro h
    have := dimOf_pos ha h
    omega
theorem dimOf_bounds {ts : List Ten} (ha : AllAxes ts) (x : Int) : 0 ≤ dimOf ts x ∧ dimOf ts x ≤ 8 := by
  by_cases h : ∃ u ∈ ts, x ∈ u.l
  · have := dimOf_pos ha h; omega
  · rw [dimOf_zero h]; omega
theorem AllAxes.take {ts : List Ten} (ha : AllAxes ts) (i : Nat) : AllAxes (ts.take i) := fun t ht => ha t (List.mem_of_mem_take ht)

/-- At tensor i and its label k the earlier tensors agree. -/
def agreesAt (ts : List Ten) (i k : Nat) : Prop := ∀ (hi : i < ts.length) (hk : k < ts[i].l.length), 0 < dimOf (ts.take i) ts[i].l[k] → dimOf (ts.take i) ts[i].l[k] = ts[i].d.getD k 0
/-- A label has one dimension. -/
def Cons (ts : List Ten) : Prop := ∀ i k, agreesAt ts i k
noncomputable def consB (ts : List Ten) : Bool := @decide (Cons ts) (Classical.propDecidable _)
theorem consB_true {ts : List Ten} (h : Cons ts) : consB ts = true := by simp [consB, h]
theorem consB_false {ts : List Ten} {i k : Nat} (h : ¬ agreesAt ts i k) : consB ts = false := by simp [consB]; exact fun hh => h (hh i k)
theorem consB_iff {ts : List Ten} : consB ts = true ↔ Cons ts := by simp [consB]

theorem idxOf_at {l : List Int} {k : Nat} (hk : k < l.length) (h : hasInt (l.take k) l[k] = false) : l.idxOf l[k] = k := by
  have h1 := fnd_some (x := l[k]) hk (fun j hj hlt e => by
    have : hasInt (l.take k) l[k] = true := by
      rw [hasInt, List.any_eq_true]
      refine ⟨l[j], ?_, by simp [e]⟩
      rw [List.mem_take_iff_getElem]
      exact ⟨j, by omega, rfl⟩
    rw [this] at h
    cases h) rfl
  rw [fnd, if_pos (List.getElem_mem hk)] at h1
  omega
theorem not_mem_take {l : List Int} {k : Nat} {x : Int} (h : hasInt (l.take k) x = false) : x ∉ l.take k := fun hm => by
  have : hasInt (l.take k) x = true := by
    rw [hasInt, List.any_eq_true]
    exact ⟨x, hm, by simp⟩
  rw [this] at h
  cases h

/-- What the program's table holds behind the tensors before i and the first k labels of tensor i. -/
def dimAt (ts : List Ten) (i k : Nat) (x : Int) : Int := if x ∈ (ts.getD i ⟨[], [], []⟩).l.take k then (ts.getD i ⟨[], [], []⟩).d.getD ((ts.getD i ⟨[], [], []⟩).l.idxOf x) 0 else dimOf (ts.take i) x

theorem getD_ten {ts : List Ten} {i : Nat} (hi : i < ts.length) : ts.getD i ⟨[], [], []⟩ = ts[i] := by simp [List.getD, hi]

theorem dimAt_zero (ts : List Ten) (i : Nat) (x : Int) : dimAt ts i 0 x = dimOf (ts.take i) x := by simp [dimAt]
theorem dimAt_fresh {ts : List Ten} {i k : Nat} (hi : i < ts.length) (hk : k < ts[i].l.length) (ha : AllAxes ts) : dimAt ts i k ts[i].l[k] = dimOf (ts.take i) ts[i].l[k] := by
  have hx := ha _ (List.getElem_mem hi)
  have hk' : k < ts[i].d.length := by have := hx.2.1; omega
  unfold dimAt
  rw [getD_ten hi, if_neg (not_mem_take (hx.2.2 k hk hk').2.2.2.2)]
theorem dimAt_succ {ts : List Ten} {i k : Nat} (hi : i < ts.length) (hk : k < ts[i].l.length) (ha : AllAxes ts) (x : Int) : dimAt ts i (k + 1) x = if x = ts[i].l[k] then ts[i].d.getD k 0 else dimAt ts i k x := by
  have hx := ha _ (List.getElem_mem hi)
  have hk' : k < ts[i].d.length := by have := hx.2.1; omega
  have hd := (hx.2.2 k hk hk').2.2.2.2
  unfold dimAt
  rw [getD_ten hi, List.take_succ_eq_append_getElem hk]
  by_cases e : x = ts[i].l[k]
  · subst e
    rw [if_pos (List.mem_append_right _ (by simp)), if_pos rfl, idxOf_at hk hd]
  · rw [if_neg e]
    by_cases hm : x ∈ ts[i].l.take k
    · rw [if_pos (List.mem_append_left _ hm), if_pos hm]
    · rw [if_neg hm, if_neg fun h => ?_]
      rcases List.mem_append.1 h with h | h
      · exact hm h
      · exact e (by simpa using h)
theorem dimAt_all {ts : List Ten} {i : Nat} (hi : i < ts.length) (ha : AllAxes ts) (hc : ∀ k, k < ts[i].l.length → agreesAt ts i k) (x : Int) : dimAt ts i ts[i].l.length x = dimOf (ts.take (i + 1)) x := by
  unfold dimAt
  rw [getD_ten hi, List.take_length, List.take_succ_eq_append_getElem hi, dimOf_snoc]
  by_cases hm : x ∈ ts[i].l
  · rw [if_pos hm, if_pos hm]
    split
    · rename_i he
      obtain ⟨k, hk, e⟩ := List.getElem_of_mem hm
      have hp := (dimOf_iff (ha.take i)).2 he
      have hx := ha _ (List.getElem_mem hi)
      have hk' : k < ts[i].d.length := by have := hx.2.1; omega
      have := hc k hk hi hk (by rw [e]; exact hp)
      rw [e] at this
      rw [this, ← e, idxOf_at hk (hx.2.2 k hk hk').2.2.2.2]
    · rfl
  · rw [if_neg hm, if_neg hm]
    split
    · rfl
    · rename_i he
      exact dimOf_zero he

/-! ### The reference -/

set_option maxHeartbeats 1000000 in
theorem l12Dim_calls (A : Option Addr) (n c : Nat) (x : Int) (ts : List Ten) (w : World) (hn : n = ts.length) (h : Tens w A c ts) (hs : ∀ t ∈ ts, t.l.length ≤ t.d.length) :
    Gives Try.prog 31 #[.slice A n c, .int .i64 x] w (.int .i64 (dimOf ts x)) := by
  subst hn
  obtain ⟨hl, hc, hr⟩ := h
  unfold Gives
  go_enter Try.func31, Try.ntmps31
  go_wp2_with fail
  go_loopw [10] (fun i wr => ∃ k : Nat, k ≤ ts.length ∧ i = .int .i64 k ∧ Ext w wr ∧ ∀ j (hj : j < ts.length), j < k → x ∉ ts[j].l) (fun i _ => ts.length - (intOf i).toNat)
  case atStart => exact ⟨0, by omega, rfl, Ext.refl _, fun j _ hj => absurd hj (by omega)⟩
  case round =>
    obtain ⟨k, hk, rfl, hx, hno⟩ := hrel
    by_cases hlt : k < ts.length
    · obtain ⟨b, o, rfl, hb, hc⟩ := hr k hlt
      obtain ⟨⟨A1, c1, A2, c2, A3, c3⟩, ht, h1, h2, h3⟩ := hc k hlt
      have hck1 := hx.cell h1
      have hck2 := hx.cell h2
      have hck3 := hx.cell h3
      have hT := hide (fun o => ht.ext (hx.alloc o))
      have HX := hide hx
      have hsk := hs _ (List.getElem_mem hlt)
      have HNO := hide hno
      by_cases hm : x ∈ ts[k].l
      · have hi := List.idxOf_lt_length_of_mem hm
        have hf : fnd ts[k].l x = (ts[k].l.idxOf x : Int) := if_pos hm
        obtain ⟨b', o', rfl, hb', hc'⟩ := ht.d.at_ (ts[k].l.idxOf x) (by omega)
        have hcd := hx.cell (hc' (ts[k].l.idxOf x) (by omega))
        have hbr : b' < wr.heap.size := Nat.lt_of_lt_of_le hb' hx.size
        have HF : Hid (dimOf ts x = ts[k].d[ts[k].l.idxOf x]'(by omega)) := hide (by rw [dimOf_at hlt hno hm]; simp [List.getD, show ts[k].l.idxOf x < ts[k].d.length by omega])
        clear hr hc hx hno ht h1 h2 h3 hc' hm
        go_wp2_with (go_at_call 42; refine (l05Find_calls _ _ _ _ ts[k].l _ rfl (hT.out _).l).use ?_)
        go_ret
        exact ⟨ret_int HF.out.symm, HX.out.alloc _⟩
      · have hf : fnd ts[k].l x = -1 := if_neg hm
        have HM := hide hm
        clear hr hc hx hno ht h1 h2 h3 hm
        go_wp2_with (go_at_call 42; refine (l05Find_calls _ _ _ _ ts[k].l _ rfl (hT.out _).l).use ?_)
        go_roundw
        case rel =>
          refine ⟨k + 1, by omega, by go_num, HX.out.alloc _, fun j hj hlt' => ?_⟩
          by_cases e : j = k
          · subst e; exact HM.out
          · exact HNO.out j hj (by omega)
        case measure => simp [intOf]; omega
    · have HF := hide (dimOf_none (ts := ts) (x := x) fun j hj => hno j hj (by omega))
      have HX := hide hx
      clear hr hno hx
      go_wp2_with fail
      go_ret
      exact ⟨ret_int HF.out.symm, HX.out⟩

/-! ### The program's table of dimensions -/

theorem results_cell_tmp {P : Program} {fn : Func} {p q : Tmp} {ty : TypeId} (h : fn.results = #[.cell p ty, .tmp q]) (tmps : Array Value) (w : World) (g : Nat) (t : TypeId) (cs : Array Value) (d : TypeDesc)
    (hp : tmps.getD p undef = .pointer (some ⟨g, 0, none⟩)) (hg : Blk w g t cs)
    (hu : P.underlying ty = some d) (hd : (match d with | .struct _ | .array _ _ => true | _ => false) = true) (hi : (P.info? ty).map (·.size) = some cs.size) :
    (results fn tmps).run P w = .ok (.tuple #[.agg cs, tmps.getD q undef]) w := by
  have hp' : tmps[p]?.getD undef = .pointer (some ⟨g, 0, none⟩) := by simpa using hp
  simp [results, h, hp', asAddr, run_loadVar_row w g t ty cs (0, 0) d hg hu hd hi]

theorem Blk.setRow {w : World} {g : Nat} {t : TypeId} {old : Array Value} (h : Blk w g t old) (cs : Array Value) : Blk (w.setRow g cs) g t cs := setRow_heap w g old cs t (0, 0) h
theorem Ext.setRow {a b : World} (h : Ext a b) {g : Nat} (hg : a.heap.size ≤ g) (cs : Array Value) : Ext a (b.setRow g cs) :=
  Below.trans h ⟨rfl, rfl, rfl, by simp, fun k hk => by
    show (b.heap.modify g _)[k]? = _
    rw [Array.getElem?_modify, if_neg (by omega)]⟩

theorem ints_oneCell' (xs : List Int) : (ints xs).all (·.oneCell') = true := by
  rw [Array.all_eq_true_iff_forall_mem]
  intro v hv
  simp only [ints, List.mem_toArray, List.mem_map] at hv
  obtain ⟨_, _, rfl⟩ := hv
  rfl

theorem arr_size : (Try.prog.info? 64).map (·.size) = some 100 := by kernel_rfl
theorem arr_zero : Try.zeroCells64 = ints (List.replicate 100 0) := by kernel_rfl

set_option maxHeartbeats 2000000 in
theorem dimsOf_calls (A : Option Addr) (n c : Nat) (ts : List Ten) (w : World) (hn : n = ts.length) (h : Tens w A c ts) (ha : AllAxes ts) :
    Calls Try.prog 35 #[.slice A n c] w fun e w' => ∃ arr : List Int, e = .returned (.tuple #[.agg (ints arr), .bool (consB ts)]) ∧ arr.length = 100 ∧ (Cons ts → ∀ x : Nat, x < 100 → arr[x]? = some (dimOf ts x)) ∧ Ext w w' := by
  obtain ⟨hl, hc, hr⟩ := h
  subst hn
  replace ha := hide ha
  go_enter Try.func35, Try.ntmps35
  go_wp2_with fail
  obtain ⟨w0, hw0⟩ : ∃ w0, w0 = (w.alloc (Obj.cells Try.zeroCells64 64)).alloc (Obj.cells Try.zeroCells64 64) := ⟨_, rfl⟩
  rw [← hw0]
  have hB0 : Blk w0 w.heap.size 64 (ints (List.replicate 100 0)) := by rw [hw0, ← arr_zero]; exact (Blk.new _ _ _).alloc _
  have hB1 : Blk w0 (w.heap.size + 1) 64 (ints (List.replicate 100 0)) := by rw [hw0, ← arr_zero]; simpa using Blk.new (w.alloc (Obj.cells Try.zeroCells64 64)) 64 Try.zeroCells64
  have hX0 : Ext w w0 := by rw [hw0]; exact ((Ext.refl _).alloc _).alloc _
  clear hw0
  go_loopw [11] (fun i wr => ∃ k : Nat, k ≤ ts.length ∧ i = .int .i64 k ∧ Ext w wr ∧ (∃ cs, Blk wr w.heap.size 64 (ints cs) ∧ cs.length = 100) ∧ (∀ j, j < k → ∀ m, agreesAt ts j m) ∧
    ∃ arr, arr.length = 100 ∧ Blk wr (w.heap.size + 1) 64 (ints arr) ∧ ∀ x : Nat, x < 100 → arr[x]? = some (dimOf (ts.take k) x)) (fun i _ => ts.length - (intOf i).toNat)
  case atStart =>
    refine ⟨0, by omega, rfl, hX0, ⟨_, hB0, by rw [List.length_replicate]⟩, fun j hj => absurd hj (by omega), _, by rw [List.length_replicate], hB1, fun x hx => ?_⟩
    rw [List.getElem?_replicate, if_pos hx, List.take_zero]
    rfl
  case round =>
    obtain ⟨k, hk, rfl, hx, hres, hag, arr, hal, hbk, harr⟩ := hrel
    clear hB0 hB1 hX0
    by_cases hlt : k < ts.length
    · obtain ⟨b, o, rfl, hb, hc⟩ := hr k hlt
      obtain ⟨⟨A1, c1, A2, c2, A3, c3⟩, ht, h1, h2, h3⟩ := hc k hlt
      have hck1 := hx.cell h1
      have hck2 := hx.cell h2
      have hck3 := hx.cell h3
      have HT := hide ht
      have HX := hide hx
      have HRES := hide hres
      have HAG := hide hag
      have HB := hide hbk
      have HA := hide harr
      have HAL := hide hal
      clear hr hc hx hres hag hal hbk harr ht h1 h2 h3
      obtain ⟨wo, rfl⟩ : ∃ wo, wo = wr := ⟨_, rfl⟩
      have hzo : w.heap.size + 1 < wo.heap.size := HB.out.lt
      go_wp2_with fail
      go_loopw [18] (fun i wi => ∃ m : Nat, m ≤ ts[k].l.length ∧ i = .int .i64 m ∧ Ext w wi ∧ wo.heap.size < wi.heap.size ∧
        Blk wi wo.heap.size 57 #[.slice A1 ts[k].l.length c1, .slice A2 ts[k].d.length c2, .slice A3 ts[k].x.length c3] ∧
        (∃ cs, Blk wi w.heap.size 64 (ints cs) ∧ cs.length = 100) ∧ (∀ j, j < m → agreesAt ts k j) ∧
        ∃ arr, arr.length = 100 ∧ Blk wi (w.heap.size + 1) 64 (ints arr) ∧ ∀ x : Nat, x < 100 → arr[x]? = some (dimAt ts k m x)) (fun i _ => ts[k].l.length - (intOf i).toNat)
      case atStart =>
        obtain ⟨cs, hcs, hcl⟩ := HRES.out
        exact ⟨0, by omega, rfl, HX.out.alloc _, by simp, Blk.new _ _ _, ⟨cs, hcs.alloc _, hcl⟩, fun j hj => absurd hj (by omega), arr, HAL.out, HB.out.alloc _, fun x hx => by rw [dimAt_zero]; exact HA.out x hx⟩
      case round =>
        obtain ⟨m, hm, rfl, hx, hzi, hbt, hres, hag, arr', hal, hbk, harr⟩ := hrel
        clear HRES HB HA HAL hck1 hck2 hck3
        have ht := HT.out.ext hx
        by_cases hlm : m < ts[k].l.length
        · have hax := ha.out _ (List.getElem_mem hlt)
          have hmd : m < ts[k].d.length := by have := hax.2.1; omega
          obtain ⟨v0, v1, _, _, _⟩ := hax.2.2 m hlm hmd
          have h12 := hax.1
          obtain ⟨b1, o1, rfl, hb1, hc1⟩ := ht.l.at_ m hlm
          obtain ⟨b2, o2, rfl, hb2, hc2⟩ := ht.d.at_ m hmd
          have hcl := hc1 m hlm
          have hcd := hc2 m hmd
          obtain ⟨q, hq⟩ := Int.eq_ofNat_of_zero_le v0
          have hq99 : q < 100 := by omega
          obtain ⟨dk, hdk⟩ : ∃ dk, dk = ts[k].d[m] := ⟨_, rfl⟩
          have hfr := dimAt_fresh hlt hlm ha.out
          obtain ⟨dv, hdv⟩ : ∃ dv, dv = dimOf (ts.take k) ts[k].l[m] := ⟨_, rfl⟩
          rw [← hdv] at hfr
          have hav := harr q hq99
          rw [← hq, hfr] at hav
          have hqa : q < arr'.length := by omega
          rw [List.getElem?_eq_getElem hqa] at hav
          have hav' : arr'[q] = dv := by simpa using hav
          have hdb := dimOf_bounds (ha.out.take k) ts[k].l[m]
          rw [← hdv] at hdb
          have hct := hbk.cell q
          rw [ints_at hqa, hav'] at hct
          have hcf := hbk.frozen q
          have ht0 := hbt.cell 0
          have ht1 := hbt.cell 1
          have ht2 := hbt.cell 2
          simp at ht0 ht1 ht2
          rw [hq] at hcl
          rw [← hdk] at hcd
          have hg : agreesAt ts k m ↔ (0 < dv → dv = dk) := by
            rw [hdv, hdk]
            constructor
            · intro h hp; have := h hlt hlm hp; rw [this]; simp [List.getD, hmd]
            · intro h _ _ hp; rw [h hp]; simp [List.getD, hmd]
          replace hdv := hide hdv
          replace hdk := hide hdk
          replace hq := hide hq
          have HX := hide hx
          have HBT := hide hbt
          have HRES := hide hres
          have HAG' := hide hag
          have HB := hide hbk
          have HA := hide harr
          have HAL := hide hal
          have HG := hide hg
          clear hax hc1 hc2 hfr hav hav' hx hbt ht hres hag hal hbk harr v0 v1 hg
          by_cases e2 : ¬ dv = 0 ∧ ¬ dv = dk
          · have t0 : (dv != 0) = true := by simp [e2.1]
            have t1 : (dv != dk) = true := by simp [e2.2]
            have HN := hide (consB_false (ts := ts) (i := k) (k := m) fun hh => by have := HG.out.1 hh (by omega); exact e2.2 this)
            obtain ⟨cs, hcs, hcl⟩ := HRES.out
            have HR := hide hcs
            have HR2 := hide hcl
            clear e2 hcs hcl
            go_wp2_with fail
            go_quiet (fail)
            go_wp2_with (first
              | (refine wpList_load_row rfl 64 (.tmp 4) rfl (w.heap.size + 1) rfl 64 (ints arr') (0, 0) _ (HB.out.drewN _) Try.underlying64 rfl (by rw [ints_size, HAL.out]; exact arr_size) ?_)
              | (refine wpList_store_row rfl 64 (.tmp 2) (.tmp 38) rfl w.heap.size (ints arr') rfl rfl 64 (ints cs) (HR.out.drewN _) (by rw [ints_size, HAL.out]; exact arr_size) (by rw [ints_size, ints_size, HR2.out, HAL.out]) (ints_oneCell' _) ?_))
            refine bodyPost_ret (results_cell_tmp rfl _ _ w.heap.size 64 (ints arr') _ rfl (HR.out.drewN _ |>.setRow _) Try.underlying64 rfl (by rw [ints_size, HAL.out]; exact arr_size)) rfl ?_
            refine ⟨arr', by rw [HN.out]; rfl, HAL.out, fun hc => ?_, (HX.out.drewN _).setRow (Nat.le_refl _) _⟩
            rw [consB_true hc] at HN
            cases HN.out
          · have t2 : dv = 0 ∨ dv = dk := by omega
            have HC : Hid (agreesAt ts k m) := hide (HG.out.2 fun h => by omega)
            replace t2 := hide t2
            clear e2
            by_cases e0 : dv = 0
            · have t0 : (dv != 0) = false := by simp [e0]
              replace e0 := hide e0
              go_wp2_with fail
              go_quiet (fail)
              go_wp2_with fail
              go_roundw
              case rel =>
                refine ⟨m + 1, by omega, by go_num, (HX.out.drewN _).setb (by omega) _, by simpa using hzi, (HBT.out.drewN _).farb (by omega) _, ?_, ?_, ?_⟩
                · obtain ⟨cs, h1, h2⟩ := HRES.out
                  exact ⟨cs, (h1.drewN _).farb (by omega) _, h2⟩
                · intro j hj
                  by_cases e : j = m
                  · subst e; exact HC.out
                  · exact HAG'.out j (by omega)
                · refine ⟨arr'.set q dk, by rw [List.length_set]; exact HAL.out, ?_, fun x hx => ?_⟩
                  · have := (HB.out.drewN nq).set_ q (.int .i64 dk)
                    rw [ints_set] at this
                    exact this
                  · rw [dimAt_succ hlt hlm ha.out, hq.out]
                    by_cases e : x = q
                    · subst e
                      rw [if_pos rfl, List.getElem?_set_self hqa, hdk.out]
                      simp [List.getD, hmd]
                    · rw [if_neg (by omega), List.getElem?_set_ne (by omega)]
                      exact HA.out x hx
              case measure => simp [intOf]; omega
            · have t0 : (dv != 0) = true := by simp [e0]
              have t1 : (dv != dk) = false := by have := t2.out; simp; omega
              replace e0 := hide e0
              go_wp2_with fail
              go_quiet (fail)
              go_wp2_with fail
              go_roundw
              case rel =>
                refine ⟨m + 1, by omega, by go_num, (HX.out.drewN _).setb (by omega) _, by simpa using hzi, (HBT.out.drewN _).farb (by omega) _, ?_, ?_, ?_⟩
                · obtain ⟨cs, h1, h2⟩ := HRES.out
                  exact ⟨cs, (h1.drewN _).farb (by omega) _, h2⟩
                · intro j hj
                  by_cases e : j = m
                  · subst e; exact HC.out
                  · exact HAG'.out j (by omega)
                · refine ⟨arr'.set q dk, by rw [List.length_set]; exact HAL.out, ?_, fun x hx => ?_⟩
                  · have := (HB.out.drewN nq).set_ q (.int .i64 dk)
                    rw [ints_set] at this
                    exact this
                  · rw [dimAt_succ hlt hlm ha.out, hq.out]
                    by_cases e : x = q
                    · subst e
                      rw [if_pos rfl, List.getElem?_set_self hqa, hdk.out]
                      simp [List.getD, hmd]
                    · rw [if_neg (by omega), List.getElem?_set_ne (by omega)]
                      exact HA.out x hx
              case measure => simp [intOf]; omega
        · have HX := hide hx
          have HRES := hide hres
          have HAG' := hide hag
          have HB := hide hbk
          have HA := hide harr
          have HAL := hide hal
          have h12 := (ha.out _ (List.getElem_mem hlt)).1
          have ht0 := hbt.cell 0
          clear hx hres hag hbk harr hal hbt ht
          go_wp2_with fail
          go_roundw
          case rel =>
            have hag : ∀ j, j < ts[k].l.length → agreesAt ts k j := fun j hj => HAG'.out j (by omega)
            refine ⟨k + 1, by omega, by go_num, HX.out, HRES.out, fun j hj m' => ?_, arr', HAL.out, HB.out, fun x hx => ?_⟩
            · by_cases e : j = k
              · subst e
                intro hi hk' hp
                exact hag m' hk' hi hk' hp
              · exact HAG.out j (by omega) m'
            · rw [HA.out x hx, ← dimAt_all hlt ha.out hag, show m = ts[k].l.length by omega]
          case measure => simp [intOf]; omega
    · have HN : Hid (Cons ts) := hide fun i m hi hm => hag i (by omega) m hi hm
      have HE : Hid (ts.take k = ts) := hide (List.take_of_length_le (by omega))
      obtain ⟨cs, hcs, hcl⟩ := hres
      have HR := hide hcs
      have HR2 := hide hcl
      have HX := hide hx
      have HB := hide hbk
      have HA := hide harr
      have HAL := hide hal
      clear hr hcs hcl hx hag hbk harr hal
      go_wp2_with (first
        | (refine wpList_load_row rfl 64 (.tmp 4) rfl (w.heap.size + 1) rfl 64 (ints arr) (0, 0) _ HB.out Try.underlying64 rfl (by rw [ints_size, HAL.out]; exact arr_size) ?_)
        | (refine wpList_store_row rfl 64 (.tmp 2) (.tmp 48) rfl w.heap.size (ints arr) rfl rfl 64 (ints cs) HR.out (by rw [ints_size, HAL.out]; exact arr_size) (by rw [ints_size, ints_size, HR2.out, HAL.out]) (ints_oneCell' _) ?_))
      refine bodyPost_ret (results_cell_tmp rfl _ _ w.heap.size 64 (ints arr) _ rfl (HR.out.setRow _) Try.underlying64 rfl (by rw [ints_size, HAL.out]; exact arr_size)) rfl ?_
      refine ⟨arr, by rw [consB_true HN.out]; rfl, HAL.out, fun _ x hx => ?_, HX.out.setRow (Nat.le_refl _) _⟩
      have := HA.out x hx
      rw [HE.out] at this
      exact this

end Go.Proofs.Ytkilgbdkekpnpaa
