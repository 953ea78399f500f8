/- TensorSize of the program and of the reference, and what they call: one value for both. -/
import Derived.Test.YtkilgbdkekpnpaaTenB
import Derived.WalkLawsBesides
namespace Go.Proofs.Ytkilgbdkekpnpaa
open Go.RowKit

/-! ### Plain laws -/

theorem snocRec {α : Type} {motive : List α → Prop} (nil : motive []) (snoc : ∀ l x, motive l → motive (l ++ [x])) (l : List α) : motive l := by
  have h : ∀ n (l : List α), l.length = n → motive l := by
    intro n
    induction n with
    | zero => intro l hl; rw [List.eq_nil_of_length_eq_zero hl]; exact nil
    | succ n ih =>
      intro l hl
      have hne : l ≠ [] := fun e => by subst e; simp at hl
      rw [← List.dropLast_concat_getLast hne]
      exact snoc _ _ (ih _ (by simp [hl]))
  exact h _ l rfl

def prodI (l : List Int) : Int := l.foldl (· * ·) 1
theorem prodI_nil : prodI [] = 1 := rfl
theorem prodI_snoc (l : List Int) (x : Int) : prodI (l ++ [x]) = prodI l * x := by simp [prodI]
theorem prodI_succ {l : List Int} {k : Nat} (h : k < l.length) : prodI (l.take (k + 1)) = prodI (l.take k) * l[k] := by
  rw [List.take_succ_eq_append_getElem h, prodI_snoc]
/-- The product, capped at m at each step. -/
def capP (l : List Int) (m : Int) : Int := l.foldl (fun n d => min (n * d) m) 1
theorem capP_nil (m : Int) : capP [] m = 1 := rfl
theorem capP_snoc (l : List Int) (x m : Int) : capP (l ++ [x]) m = min (capP l m * x) m := by simp [capP]
theorem capP_succ {l : List Int} {k : Nat} (m : Int) (h : k < l.length) : capP (l.take (k + 1)) m = min (capP (l.take k) m * l[k]) m := by
  rw [List.take_succ_eq_append_getElem h, capP_snoc]

theorem mul_pos_le {a b x y : Int} (h1 : 1 ≤ a) (h2 : a ≤ x) (h3 : 1 ≤ b) (h4 : b ≤ y) : 1 ≤ a * b ∧ a * b ≤ x * y := by
  constructor
  · have := Int.mul_le_mul h1 h3 (by omega) (by omega); omega
  · exact Int.mul_le_mul h2 h4 (by omega) (by omega)

theorem mul_ge_left {a b : Int} (h1 : 0 ≤ a) (h2 : 1 ≤ b) : a ≤ a * b := by
  have := Int.mul_le_mul_of_nonneg_left h2 h1
  omega

/-- Lists whose members are at least 1. -/
def Pos1 (l : List Int) : Prop := ∀ x ∈ l, 1 ≤ x

theorem prodI_pos {l : List Int} (h : Pos1 l) : 1 ≤ prodI l := by
  induction l using snocRec with
  | nil => exact Int.le_refl _
  | snoc l x ih =>
    rw [prodI_snoc]
    have h1 := ih fun y hy => h y (by simp [hy])
    have h2 := h x (by simp)
    have := Int.mul_le_mul h1 h2 (by omega) (by omega)
    omega
theorem capP_min {l : List Int} {m : Int} (hm : 1 ≤ m) (h : Pos1 l) : capP l m = min (prodI l) m := by
  induction l using snocRec with
  | nil => simp [capP_nil, prodI_nil]; omega
  | snoc l x ih =>
    have hl : Pos1 l := fun y hy => h y (by simp [hy])
    have h2 := h x (by simp)
    have h1 := prodI_pos hl
    rw [capP_snoc, prodI_snoc, ih hl]
    by_cases hle : prodI l ≤ m
    · rw [Int.min_eq_left hle]
    · rw [Int.min_eq_right (show m ≤ prodI l by omega)]
      have a := mul_ge_left (a := m) (b := x) (by omega) h2
      have b := mul_ge_left (a := prodI l) (b := x) (by omega) h2
      omega
theorem prodI_take_le {l : List Int} (h : Pos1 l) (k : Nat) : prodI (l.take k) ≤ prodI l := by
  induction l using snocRec with
  | nil => simp
  | snoc l x ih =>
    have hl : Pos1 l := fun y hy => h y (by simp [hy])
    by_cases hk : k ≤ l.length
    · rw [List.take_append_of_le_length hk, prodI_snoc]
      have a := mul_ge_left (a := prodI l) (b := x) (by have := prodI_pos hl; omega) (h x (by simp))
      have := ih hl
      omega
    · rw [List.take_of_length_le (by simp; omega)]; exact Int.le_refl _

/-- Labels and dimensions are right. -/
def AxesOk (ls ds : List Int) : Prop := ls.length ≤ 12 ∧ ls.length = ds.length ∧ ∀ k (h : k < ls.length) (h' : k < ds.length), 0 ≤ ls[k] ∧ ls[k] ≤ 99 ∧ 1 ≤ ds[k] ∧ ds[k] ≤ 8 ∧ hasInt (ls.take k) ls[k] = false
noncomputable def axesB (ls ds : List Int) : Bool := @decide (AxesOk ls ds) (Classical.propDecidable _)
theorem axesB_true {ls ds : List Int} (h : AxesOk ls ds) : axesB ls ds = true := by simp [axesB, h]
theorem axesB_false {ls ds : List Int} (h : ¬ AxesOk ls ds) : axesB ls ds = false := by simp [axesB, h]
theorem axesB_iff {ls ds : List Int} : axesB ls ds = true ↔ AxesOk ls ds := by simp [axesB]
theorem AxesOk.pos {ls ds : List Int} (h : AxesOk ls ds) : Pos1 ds := fun x hx => by
  obtain ⟨k, hk, rfl⟩ := List.getElem_of_mem hx
  exact (h.2.2 k (by have := h.2.1; omega) hk).2.2.1
theorem AxesOk.le8 {ls ds : List Int} (h : AxesOk ls ds) : ∀ x ∈ ds, x ≤ 8 := fun x hx => by
  obtain ⟨k, hk, rfl⟩ := List.getElem_of_mem hx
  exact (h.2.2 k (by have := h.2.1; omega) hk).2.2.2.1

/-- The size of a tensor by its axes; -1 if they are not right or it is too great. -/
noncomputable def tsz (ls ds : List Int) : Int := if axesB ls ds = true ∧ prodI ds ≤ 4096 then prodI ds else -1
theorem tsz_bad {ls ds : List Int} (h : ¬ AxesOk ls ds) : tsz ls ds = -1 := if_neg fun hh => h (axesB_iff.1 hh.1)
theorem tsz_big {ls ds : List Int} (h : ¬ prodI ds ≤ 4096) : tsz ls ds = -1 := if_neg fun hh => h hh.2
theorem tsz_ok {ls ds : List Int} (h : AxesOk ls ds) (h' : prodI ds ≤ 4096) : tsz ls ds = prodI ds := if_pos ⟨axesB_true h, h'⟩
theorem tsz_cases (ls ds : List Int) : tsz ls ds = -1 ∨ (AxesOk ls ds ∧ prodI ds ≤ 4096 ∧ tsz ls ds = prodI ds ∧ 1 ≤ prodI ds) := by
  by_cases h : AxesOk ls ds
  · by_cases h' : prodI ds ≤ 4096
    · exact .inr ⟨h, h', tsz_ok h h', prodI_pos h.pos⟩
    · exact .inl (tsz_big h')
  · exact .inl (tsz_bad h)

theorem hasInt_fnd (l : List Int) (x : Int) : hasInt l x = decide (0 ≤ fnd l x) := by
  unfold hasInt fnd
  by_cases h : x ∈ l
  · rw [if_pos h]
    simp
    exact h
  · rw [if_neg h]
    simp
    intro y hy e
    subst e
    exact h hy

/-! ### Contracts -/

/-- Go's min and max as the walk writes them. -/
theorem go_min (a b : Int) : (if b < a then b else a) = min a b := by split <;> omega
theorem go_max (a b : Int) : (if a < b then b else a) = max a b := by split <;> omega
theorem min_le_r (a b : Int) : min a b ≤ b := Int.min_le_right a b

set_option maxHeartbeats 400000 in
theorem l05Product_calls (A : Option Addr) (n c : Nat) (limit : Int) (ds : List Int) (w : World) (hn : n = ds.length) (h : Ints w A c ds) (hp : Pos1 ds) (h8 : ∀ x ∈ ds, x ≤ 8) (hl0 : 0 ≤ limit) (hl1 : limit ≤ 1000000) :
    Same Try.prog 40 #[.slice A n c, .int .i64 limit] w (.int .i64 (capP ds (limit + 1))) := by
  subst hn
  obtain ⟨hl, hc, hr⟩ := h
  unfold Same
  go_enter Try.func40, Try.ntmps40
  go_wp2
  go_loop [5, 10] (fun v i => ∃ k : Nat, k ≤ ds.length ∧ i = .int .i64 k ∧ v = .int .i64 (capP (ds.take k) (limit + 1)) ∧ 1 ≤ capP (ds.take k) (limit + 1) ∧ capP (ds.take k) (limit + 1) ≤ 1000001) (fun _ i => ds.length - (intOf i).toNat)
  case atStart => exact ⟨0, by omega, rfl, by simp [capP_nil], by simp [capP_nil], by simp [capP_nil]⟩
  case round =>
    obtain ⟨k, hk, rfl, rfl, h1, h2⟩ := hrel
    by_cases hlt : k < ds.length
    · obtain ⟨b, o, rfl, hb, hc⟩ := hr k hlt
      have hck := hc k hlt
      have a1 := hp _ (List.getElem_mem hlt)
      have a2 := h8 _ (List.getElem_mem hlt)
      have hm := mul_pos_le h1 h2 a1 a2
      have hw : wrap64 (capP (ds.take k) (limit + 1) * ds[k]) = capP (ds.take k) (limit + 1) * ds[k] := IntWalk.wrap64_in _ ⟨by omega, by omega⟩
      have HS := hide (capP_succ (limit + 1) hlt)
      clear hr hc
      have hmin := min_le_r (capP (ds.take k) (limit + 1) * ds[k]) (limit + 1)
      go_wp2
      go_round
      case rel =>
        have e := HS.out
        refine ⟨k + 1, by omega, by go_num, by rw [e, go_min], ?_, ?_⟩
        · rw [e]; omega
        · rw [e]; omega
      case measure => simp [intOf]; omega
    · have e : ds.take k = ds := List.take_of_length_le (by omega)
      rw [e]
      clear hr e
      go_wp2
      go_ret
      exact ⟨rfl, rfl⟩

set_option maxHeartbeats 1000000 in
theorem l05Axes_calls (A A' : Option Addr) (n c n' c' : Nat) (ls ds : List Int) (w : World) (hn : n = ls.length) (hn' : n' = ds.length) (h : Ints w A c ls) (h' : Ints w A' c' ds) :
    Same Try.prog 67 #[.slice A n c, .slice A' n' c'] w (.bool (axesB ls ds)) := by
  subst hn hn'
  obtain ⟨l1, b1, r1⟩ := h
  obtain ⟨l2, b2, r2⟩ := h'
  unfold Same
  by_cases t1 : 12 < ls.length
  · have H := hide (axesB_false (ls := ls) (ds := ds) fun hh => by have := hh.1; omega)
    clear r1 r2
    go_enter Try.func67, Try.ntmps67
    go_wp2_with fail
    go_ret
    exact ⟨ret_bool H.out.symm, rfl⟩
  by_cases t2 : ¬ ls.length = ds.length
  · have H := hide (axesB_false (ls := ls) (ds := ds) fun hh => by have := hh.2.1; omega)
    have t3 : ((ls.length : Int) != (ds.length : Int)) = true := by rw [bne_iff_ne]; omega
    clear r1 r2
    go_enter Try.func67, Try.ntmps67
    go_wp2_with fail
    go_ret
    exact ⟨ret_bool H.out.symm, rfl⟩
  have t3 : ((ls.length : Int) != (ds.length : Int)) = false := by rw [bne_eq_false_iff_eq]; omega
  have T2 : Hid (ls.length = ds.length) := hide (by omega)
  have t4 : ls.length ≤ ds.length := by omega
  clear t2
  go_enter Try.func67, Try.ntmps67
  go_wp2_with fail
  go_loop [19] (fun i => ∃ k : Nat, k ≤ ls.length ∧ i = .int .i64 k ∧ ∀ j (h : j < ls.length) (h' : j < ds.length), j < k → 0 ≤ ls[j] ∧ ls[j] ≤ 99 ∧ 1 ≤ ds[j] ∧ ds[j] ≤ 8 ∧ hasInt (ls.take j) ls[j] = false) (fun i => ls.length - (intOf i).toNat)
  case atStart => exact ⟨0, by omega, rfl, fun j _ _ hj => absurd hj (by omega)⟩
  case round =>
    obtain ⟨k, hk, rfl, hh⟩ := hrel
    replace hh := hide hh
    by_cases hlt : k < ls.length
    · obtain ⟨b, o, rfl, hb, hc⟩ := r1 k hlt
      obtain ⟨b', o', rfl, hb', hc'⟩ := r2 k (by omega)
      have hck := hc k hlt
      have hck' := hc' k (by omega)
      have hi := hide (Ints.take (Ints.mk (w := w) l1 b1 r1) k)
      have hnk : k = (ls.take k).length := by simp; omega
      replace hnk := hide hnk
      clear r1 hc r2 hc'
      have hkd : k < ds.length := by omega
      by_cases g1 : ¬ (0 ≤ ls[k] ∧ ls[k] ≤ 99)
      · have G1 := in01_false g1
        have H := hide (axesB_false (ls := ls) (ds := ds) fun hh => g1 ⟨(hh.2.2 k hlt hkd).1, (hh.2.2 k hlt hkd).2.1⟩)
        clear g1
        go_wp2_with (go_at_call 30; refine (l01In_calls _ _ _ _).use ?_)
        go_ret
        exact ⟨ret_bool H.out.symm, rfl⟩
      have G1 := in01_true (n := ls[k]) (lo := 0) (hi := 99) (by omega) (by omega)
      by_cases g2 : ¬ (1 ≤ ds[k] ∧ ds[k] ≤ 8)
      · have G2 := in01_false g2
        have H := hide (axesB_false (ls := ls) (ds := ds) fun hh => g2 ⟨(hh.2.2 k hlt hkd).2.2.1, (hh.2.2 k hlt hkd).2.2.2.1⟩)
        clear g1 g2
        go_wp2_with (go_at_call 30; refine (l01In_calls _ _ _ _).use ?_)
        go_ret
        exact ⟨ret_bool H.out.symm, rfl⟩
      have G2 := in01_true (n := ds[k]) (lo := 1) (hi := 8) (by omega) (by omega)
      by_cases g3 : 0 ≤ fnd (ls.take k) ls[k]
      · have H := hide (axesB_false (ls := ls) (ds := ds) fun hh => by have := (hh.2.2 k hlt hkd).2.2.2.2; rw [hasInt_fnd] at this; simp at this; omega)
        clear g1 g2
        go_wp2_with (first | (go_at_call 30; refine (l01In_calls _ _ _ _).use ?_) | (go_at_call 42; refine (l05Find_calls _ _ _ _ (ls.take k) _ hnk.out hi.out).use ?_))
        go_ret
        exact ⟨ret_bool H.out.symm, rfl⟩
      have HR : Hid (0 ≤ ls[k] ∧ ls[k] ≤ 99 ∧ 1 ≤ ds[k] ∧ ds[k] ≤ 8 ∧ hasInt (ls.take k) ls[k] = false) := hide ⟨by omega, by omega, by omega, by omega, by rw [hasInt_fnd]; simp; omega⟩
      clear g1 g2
      go_wp2_with (first | (go_at_call 30; refine (l01In_calls _ _ _ _).use ?_) | (go_at_call 42; refine (l05Find_calls _ _ _ _ (ls.take k) _ hnk.out hi.out).use ?_))
      go_round
      case rel =>
        refine ⟨k + 1, by omega, by go_num, fun j h1 h2 hj => ?_⟩
        by_cases e : j = k
        · subst e; exact HR.out
        · exact hh.out j h1 h2 (by omega)
      case measure => simp [intOf]; omega
    · have H := hide (axesB_true (ls := ls) (ds := ds) ⟨by omega, T2.out, fun j h1 h2 => hh.out j h1 h2 (by omega)⟩)
      clear r1 r2
      go_wp2
      go_ret
      exact ⟨ret_bool H.out.symm, rfl⟩

set_option maxHeartbeats 1000000 in
theorem specTensorSize_calls (A1 A2 A3 : Option Addr) (n1 c1 n2 c2 n3 c3 : Nat) (ls ds : List Int) (w : World) (e1 : n1 = ls.length) (e2 : n2 = ds.length) (h1 : Ints w A1 c1 ls) (h2 : Ints w A2 c2 ds) :
    Gives Try.prog 29 #[.agg #[.slice A1 n1 c1, .slice A2 n2 c2, .slice A3 n3 c3]] w (.int .i64 (tsz ls ds)) := by
  have h1' := hide (fun o => h1.ext ((Ext.refl w).alloc o))
  have h2' := hide (fun o => h2.ext ((Ext.refl w).alloc o))
  replace e1 := hide e1
  replace e2 := hide e2
  clear h1 h2
  unfold Gives
  by_cases g : ¬ AxesOk ls ds
  · have G := axesB_false g
    have H := hide (tsz_bad g)
    clear g
    go_enter Try.func29, Try.ntmps29
    go_wp2_with (go_at_call 67; refine (l05Axes_calls _ _ _ _ _ _ ls ds _ e1.out e2.out (h1'.out _) (h2'.out _)).use ?_)
    go_ret
    exact ⟨ret_int H.out.symm, (Ext.refl _).alloc _⟩
  have g' : AxesOk ls ds := Classical.byContradiction g
  have G := axesB_true g'
  have P1 := hide g'.pos
  have P8 := hide g'.le8
  have HM := hide (capP_min (l := ds) (m := 4097) (by omega) g'.pos)
  have hp := prodI_pos g'.pos
  by_cases g2 : prodI ds ≤ 4096
  · have H := hide (tsz_ok g' g2)
    have HC : capP ds 4097 ≤ 4096 := by rw [HM.out]; omega
    have HC' : Hid (capP ds 4097 = prodI ds) := hide (by rw [HM.out]; omega)
    clear g g' hp g2
    go_enter Try.func29, Try.ntmps29
    go_wp2_with (first | (go_at_call 67; refine (l05Axes_calls _ _ _ _ _ _ ls ds _ e1.out e2.out (h1'.out _) (h2'.out _)).use ?_) | (go_at_call 40; refine (l05Product_calls _ _ _ _ ds _ e2.out (h2'.out _) P1.out P8.out (by omega) (by omega)).use ?_))
    go_ret
    exact ⟨ret_int (by rw [H.out]; exact HC'.out), (Ext.refl _).alloc _⟩
  · have H := hide (tsz_big (ls := ls) g2)
    have HC : 4096 < capP ds 4097 := by rw [HM.out]; omega
    clear g g' hp g2
    go_enter Try.func29, Try.ntmps29
    go_wp2_with (first | (go_at_call 67; refine (l05Axes_calls _ _ _ _ _ _ ls ds _ e1.out e2.out (h1'.out _) (h2'.out _)).use ?_) | (go_at_call 40; refine (l05Product_calls _ _ _ _ ds _ e2.out (h2'.out _) P1.out P8.out (by omega) (by omega)).use ?_))
    go_ret
    exact ⟨ret_int H.out.symm, (Ext.refl _).alloc _⟩

/-! ### The program's TensorSize -/

def tsGood (ls ds : List Int) (k : Nat) : Prop := ∀ (h : k < ls.length) (h' : k < ds.length), 0 ≤ ls[k] ∧ ls[k] ≤ 99 ∧ hasInt (ls.take k) ls[k] = false ∧ 1 ≤ ds[k] ∧ ds[k] ≤ 8 ∧ prodI (ds.take k) * ds[k] ≤ 4096

theorem tsz_not {ls ds : List Int} {k : Nat} (_h1 : k < ls.length) (_h2 : k < ds.length) (h : ¬ tsGood ls ds k) : tsz ls ds = -1 := by
  rcases tsz_cases ls ds with e | ⟨ha, hp, _, _⟩
  · exact e
  · refine absurd (fun h h' => ?_) h
    obtain ⟨a, b, c, d, e⟩ := ha.2.2 k h h'
    have hle := prodI_take_le ha.pos (k + 1)
    rw [prodI_succ h'] at hle
    exact ⟨a, b, e, c, d, by omega⟩
theorem tsz_all {ls ds : List Int} (h1 : ls.length ≤ 12) (h2 : ls.length = ds.length) (h : ∀ j, j < ls.length → tsGood ls ds j) (hp : prodI ds ≤ 4096) : tsz ls ds = prodI ds :=
  tsz_ok ⟨h1, h2, fun k a b => let ⟨x, y, z, u, v, _⟩ := h k a a b; ⟨x, y, u, v, z⟩⟩ hp

set_option maxHeartbeats 1000000 in
theorem tensorSize_calls (A1 A2 A3 : Option Addr) (n1 c1 n2 c2 n3 c3 : Nat) (ls ds : List Int) (w : World) (e1 : n1 = ls.length) (e2 : n2 = ds.length) (h1 : Ints w A1 c1 ls) (h2 : Ints w A2 c2 ds) :
    Gives Try.prog 69 #[.agg #[.slice A1 n1 c1, .slice A2 n2 c2, .slice A3 n3 c3]] w (.int .i64 (tsz ls ds)) := by
  subst e1 e2
  obtain ⟨l1, b1, r1⟩ := h1
  obtain ⟨l2, b2, r2⟩ := h2
  unfold Gives
  by_cases t1 : 12 < ls.length
  · have H := hide (tsz_bad (ls := ls) (ds := ds) fun hh => by have := hh.1; omega)
    clear r1 r2
    go_enter Try.func69, Try.ntmps69
    go_wp2_with fail
    go_ret
    exact ⟨ret_int H.out.symm, (Ext.refl _).alloc _⟩
  by_cases t2 : ¬ ls.length = ds.length
  · have H := hide (tsz_bad (ls := ls) (ds := ds) fun hh => by have := hh.2.1; omega)
    have t3 : ((ls.length : Int) != (ds.length : Int)) = true := by rw [bne_iff_ne]; omega
    clear r1 r2
    go_enter Try.func69, Try.ntmps69
    go_wp2_with fail
    go_ret
    exact ⟨ret_int H.out.symm, (Ext.refl _).alloc _⟩
  have t3 : ((ls.length : Int) != (ds.length : Int)) = false := by rw [bne_eq_false_iff_eq]; omega
  have T2 : Hid (ls.length = ds.length) := hide (by omega)
  have t4 : ls.length ≤ ds.length := by omega
  have t5 : ds.length ≤ ls.length := by omega
  clear t2
  go_enter Try.func69, Try.ntmps69
  go_wp2_with fail
  go_loop [3, 23] (fun s i => ∃ k : Nat, k ≤ ls.length ∧ i = .int .i64 k ∧ s = .int .i64 (prodI (ds.take k)) ∧ (∀ j, j < k → tsGood ls ds j) ∧ 1 ≤ prodI (ds.take k) ∧ prodI (ds.take k) ≤ 4096) (fun _ i => ls.length - (intOf i).toNat)
  case atStart => exact ⟨0, by omega, rfl, by simp [prodI_nil], by intro j hj; omega, by simp [prodI_nil], by simp [prodI_nil]⟩
  case round =>
    obtain ⟨k, hk, rfl, rfl, hg, hp1, hp2⟩ := hrel
    replace hg := hide hg
    by_cases hlt : k < ls.length
    · obtain ⟨b, o, rfl, hb, hc⟩ := r1 k hlt
      obtain ⟨b', o', rfl, hb', hc'⟩ := r2 k (by omega)
      have hck := hc k hlt
      have hck2 := hc' k (by omega)
      have hi := hide (Ints.mk (w := w) l1 b1 r1)
      have hkd : k < ds.length := by omega
      clear r1 hc r2 hc'
      have hP : 1 ≤ ds[k] → ds[k] ≤ 8 → wrap64 (prodI (ds.take k) * ds[k]) = prodI (ds.take k) * ds[k] := fun a b => by
        have := mul_pos_le hp1 hp2 a b
        exact IntWalk.wrap64_in _ ⟨by omega, by omega⟩
      cases hq : hasInt (ls.take k) ls[k]
      · have HB := hide hq
        go_wp2_with (go_at_call 72; refine (hasInt_calls _ _ _ _ (ls.take k) _ (by simp; omega) ((Ints.take hi.out k).ext ((Ext.refl _).alloc _))).use ?_)
        all_goals first
          | (go_ret; exact ⟨ret_int (tsz_not (k := k) hlt hkd fun hh => by have := hh hlt hkd; omega).symm, (Ext.refl _).alloc _⟩)
          | skip
        go_round
        case rel =>
          have hm := mul_pos_le hp1 hp2 (b := ds[k]) (y := 8) (by omega) (by omega)
          refine ⟨k + 1, by omega, by go_num, by rw [prodI_succ hkd, hP (by omega) (by omega)], ?_, by rw [prodI_succ hkd]; omega, by rw [prodI_succ hkd]; omega⟩
          intro j hj
          by_cases e : j = k
          · subst e; exact fun _ _ => ⟨by omega, by omega, HB.out, by omega, by omega, by omega⟩
          · exact hg.out j (by omega)
        case measure => simp [intOf]; omega
      · have HB := hide hq
        go_wp2_with (go_at_call 72; refine (hasInt_calls _ _ _ _ (ls.take k) _ (by simp; omega) ((Ints.take hi.out k).ext ((Ext.refl _).alloc _))).use ?_)
        all_goals (go_ret; exact ⟨ret_int (tsz_not (k := k) hlt hkd fun hh => by have := (hh hlt hkd).2.2.1; rw [HB.out] at this; cases this).symm, (Ext.refl _).alloc _⟩)
    · have e : ds.take k = ds := List.take_of_length_le (by omega)
      rw [e] at hp2 ⊢
      have H := hide (tsz_all (by omega) T2.out (fun j hj => hg.out j (by omega)) hp2)
      clear e r1 r2
      go_wp2
      go_ret
      exact ⟨ret_int H.out.symm, (Ext.refl _).alloc _⟩

end Go.Proofs.Ytkilgbdkekpnpaa
