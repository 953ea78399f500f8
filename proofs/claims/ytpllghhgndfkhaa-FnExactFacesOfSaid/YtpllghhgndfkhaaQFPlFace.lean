/- The faces of a planar map: the program and the reference come to the same list; what is known of it. -/
import Derived.Test.YtpllghhgndfkhaaQFPlMap
import Derived.Laws.BitsAllLaws
import Derived.Laws.BitsLemmas
namespace Go.Proofs.Ytpllghhgndfkhaa.PFnExactFacesOf
open Go.RowKit Go.Proofs.YtpllghhgndfkhaaW.PrintWords Go.Proofs.YtpllghhgndfkhaaW.PrintLast Go.Proofs.YtpllghhgndfkhaaW.PrintMore

/-! ### Lists without repetition -/
theorem sub_len {α : Type} [DecidableEq α] : ∀ {l1 l2 : List α}, l1.Nodup → (∀ x ∈ l1, x ∈ l2) → l1.length ≤ l2.length := by
  intro l1
  induction l1 with
  | nil => intro l2 _ _; simp
  | cons a l1 ih =>
    intro l2 hn hs
    obtain ⟨ha, hn'⟩ := List.nodup_cons.1 hn
    have h1 := ih (l2 := l2.erase a) hn' (fun x hx => (List.mem_erase_of_ne (fun e => ha (by rw [← e]; exact hx))).2 (hs x (List.mem_cons_of_mem _ hx)))
    have h2 : a ∈ l2 := hs a (List.mem_cons_self ..)
    rw [List.length_erase_of_mem h2] at h1
    have h3 := List.length_pos_of_mem h2
    simp only [List.length_cons]
    omega
theorem sub_all {α : Type} [DecidableEq α] {l1 l2 : List α} (hn : l1.Nodup) (hs : ∀ x ∈ l1, x ∈ l2) (hl : l2.length ≤ l1.length) : ∀ x ∈ l2, x ∈ l1 := by
  intro x hx
  refine Classical.byContradiction fun hc => ?_
  have := sub_len (l2 := l2.erase x) hn (fun y hy => (List.mem_erase_of_ne (fun e => hc (by rw [← e]; exact hy))).2 (hs y hy))
  rw [List.length_erase_of_mem hx] at this
  have := List.length_pos_of_mem hx
  omega
def ups (n : Nat) : List Int := (List.range n).map fun (k : Nat) => (k : Int)
theorem ups_length (n : Nat) : (ups n).length = n := by simp [ups]
theorem mem_ups {n : Nat} {x : Int} : x ∈ ups n ↔ 0 ≤ x ∧ x < n := by
  simp only [ups, List.mem_map, List.mem_range]
  constructor
  · rintro ⟨k, hk, rfl⟩; omega
  · rintro ⟨h0, h1⟩; exact ⟨x.toNat, by omega, by omega⟩
theorem idx_min {l : List Int} {x : Int} : ∀ {i : Nat} (h : i < l.length), i < l.idxOf x → l[i] ≠ x := by
  induction l with
  | nil => intro i h; simp at h
  | cons a l ih =>
    intro i h hi
    rw [List.idxOf_cons] at hi
    by_cases e : a = x
    · subst e; simp at hi
    · have e' : (a == x) = false := by simpa using e
      rw [e'] at hi
      simp only [cond_false] at hi
      cases i with
      | zero => simpa using e
      | succ i => simpa using ih (by simpa using h) (by omega)
theorem nodup_get {l : List Int} (h : l.Nodup) {i j : Nat} (hi : i < l.length) (hj : j < l.length) (e : l[i] = l[j]) : i = j := by
  have hp := List.pairwise_iff_getElem.1 h
  rcases Nat.lt_trichotomy i j with hlt | heq | hgt
  · exact absurd e (hp i j hi hj hlt)
  · exact heq
  · exact absurd e.symm (hp j i hj hi hgt)

/-! ### Darts of a map -/
section
variable {N : Int} {es : List S78} {ar : List (List Int)}

theorem mapP_row (hm : mapP N es ar) {i : Nat} (hi : i < ar.length) : ar[i].Nodup ∧ ∀ x ∈ ar[i], 0 ≤ x ∧ x < 2 * es.length ∧ nodeD es x = i := by
  have h := hm.2.2.2.1 i hi
  refine ⟨List.pairwise_iff_getElem.2 fun a b ha hb hab e => ?_, fun x hx => ?_⟩
  · have := (h b hb).2.2.2
    rw [← e] at this
    exact this (List.mem_take_iff_getElem.2 ⟨a, by omega, rfl⟩)
  · obtain ⟨j, hj, rfl⟩ := List.getElem_of_mem hx
    exact ⟨(h j hj).1, (h j hj).2.1, (h j hj).2.2.1⟩
theorem mapP_nodup (hm : mapP N es ar) : ar.flatten.Nodup := by
  refine List.pairwise_flatten.2 ⟨fun l hl => ?_, List.pairwise_iff_getElem.2 fun i j hi hj hij x hx y hy e => ?_⟩
  · obtain ⟨i, hi, rfl⟩ := List.getElem_of_mem hl
    exact (mapP_row hm hi).1
  · subst e
    have h1 := ((mapP_row hm hi).2 x hx).2.2
    have h2 := ((mapP_row hm hj).2 x hy).2.2
    omega
theorem mapP_all (hm : mapP N es ar) {d : Int} (h0 : 0 ≤ d) (h1 : d < 2 * es.length) : d ∈ ar.flatten := by
  have hl := hm.2.2.2.2
  refine sub_all (l1 := ar.flatten) (l2 := ups (2 * es.length)) (mapP_nodup hm) (fun x hx => ?_) (by rw [ups_length]; omega) d (mem_ups.2 ⟨h0, by omega⟩)
  obtain ⟨l, hl, hx⟩ := List.mem_flatten.1 hx
  obtain ⟨i, hi, rfl⟩ := List.getElem_of_mem hl
  have := (mapP_row hm hi).2 x hx
  exact mem_ups.2 ⟨this.1, by omega⟩
/-- The row of a dart's node. -/
def rowD (es : List S78) (ar : List (List Int)) (d : Int) : List Int := ar.getD (nodeD es d).toNat []
theorem rowD_mem (hm : mapP N es ar) {d : Int} (h0 : 0 ≤ d) (h1 : d < 2 * es.length) : d ∈ rowD es ar d ∧ (nodeD es d).toNat < ar.length ∧ 0 ≤ nodeD es d ∧ (rowD es ar d).Nodup ∧ ∀ x ∈ rowD es ar d, 0 ≤ x ∧ x < 2 * es.length ∧ nodeD es x = nodeD es d := by
  obtain ⟨a, b⟩ := nodeD_range hm.1 h0 h1
  have hN := hm.2.1
  have hi : (nodeD es d).toNat < ar.length := by omega
  unfold rowD
  rw [getD_lt hi]
  obtain ⟨r1, r2⟩ := mapP_row hm hi
  refine ⟨?_, hi, a, r1, fun x hx => ⟨(r2 x hx).1, (r2 x hx).2.1, by have := (r2 x hx).2.2; omega⟩⟩
  obtain ⟨l, hl, hx⟩ := List.mem_flatten.1 (mapP_all hm h0 h1)
  obtain ⟨i, hi', rfl⟩ := List.getElem_of_mem hl
  have := ((mapP_row hm hi').2 d hx).2.2
  have e : i = (nodeD es d).toNat := by omega
  subst e
  exact hx

/-- The other dart of an edge. -/
def xr (d : Int) : Int := if d % 2 = 0 then d + 1 else d - 1
theorem xr_range {d : Int} {n : Nat} (h0 : 0 ≤ d) (h1 : d < 2 * n) : 0 ≤ xr d ∧ xr d < 2 * n := by unfold xr; split <;> omega
theorem xr_xr {d : Int} : xr (xr d) = d := by unfold xr; split <;> split <;> omega
theorem xor_one (a : Nat) (h : a < 20) : a ^^^ 1 = if a % 2 = 0 then a + 1 else a - 1 := by
  have : ∀ a < 20, a ^^^ 1 = if a % 2 = 0 then a + 1 else a - 1 := by decide
  exact this a h
theorem ofInt_i64 (a : Nat) (ha : a < 9223372036854775808) : (BitVec.ofInt 64 (a : Int)).toNat = a := by
  rw [BitVec.ofInt_natCast, BitVec.toNat_ofNat]; exact Nat.mod_eq_of_lt (by omega)
theorem i64_xor_nat (a b : Nat) (ha : a < 9223372036854775808) (hb : b < 9223372036854775808) : bits .xor .i64 (a : Int) (b : Int) = ((a ^^^ b : Nat) : Int) := by
  have hx : a ^^^ b < 2 ^ 63 := Nat.xor_lt_two_pow (by omega) (by omega)
  show IntKind.i64.wrap ((BitVec.ofInt 64 (a : Int) ^^^ BitVec.ofInt 64 (b : Int)).toNat : Int) = _
  rw [BitVec.toNat_xor, ofInt_i64 a ha, ofInt_i64 b hb, IntKind.wrap_i64]
  omega
theorem xr_eq {d : Int} (h0 : 0 ≤ d) (h1 : d < 20) : bits .xor .i64 d 1 = xr d := by
  obtain ⟨a, rfl⟩ := Int.eq_ofNat_of_zero_le h0
  have := i64_xor_nat a 1 (by omega) (by omega)
  rw [show ((1 : Nat) : Int) = 1 from rfl] at this
  rw [this, xor_one a (by omega)]
  unfold xr
  split <;> split <;> omega

/-- The next dart of a face. -/
def nxD (es : List S78) (ar : List (List Int)) (d : Int) : Int := (rowD es ar (xr d)).getD (((rowD es ar (xr d)).idxOf (xr d) + 1) % (rowD es ar (xr d)).length) 0
theorem nxD_at (hm : mapP N es ar) {d : Int} (h0 : 0 ≤ d) (h1 : d < 2 * es.length) : ∃ h : ((rowD es ar (xr d)).idxOf (xr d) + 1) % (rowD es ar (xr d)).length < (rowD es ar (xr d)).length,
    nxD es ar d = (rowD es ar (xr d))[((rowD es ar (xr d)).idxOf (xr d) + 1) % (rowD es ar (xr d)).length] := by
  obtain ⟨x0, x1⟩ := xr_range h0 h1
  have hp := List.length_pos_of_mem (rowD_mem hm x0 x1).1
  have h := Nat.mod_lt ((rowD es ar (xr d)).idxOf (xr d) + 1) hp
  exact ⟨h, by unfold nxD; rw [getD_lt h]⟩
theorem nxD_mem (hm : mapP N es ar) {d : Int} (h0 : 0 ≤ d) (h1 : d < 2 * es.length) : nxD es ar d ∈ rowD es ar (xr d) := by
  obtain ⟨h, e⟩ := nxD_at hm h0 h1
  rw [e]
  exact List.getElem_mem h
theorem nxD_range (hm : mapP N es ar) {d : Int} (h0 : 0 ≤ d) (h1 : d < 2 * es.length) : 0 ≤ nxD es ar d ∧ nxD es ar d < 2 * es.length ∧ nodeD es (nxD es ar d) = nodeD es (xr d) := by
  obtain ⟨x0, x1⟩ := xr_range h0 h1
  exact (rowD_mem hm x0 x1).2.2.2.2 _ (nxD_mem hm h0 h1)
theorem succ_mod_inj {a b n : Nat} (ha : a < n) (hb : b < n) (h : (a + 1) % n = (b + 1) % n) : a = b := by
  have key : ∀ c, c < n → (c + 1) % n = if c + 1 = n then 0 else c + 1 := fun c hc => by
    split
    · rename_i e; rw [e, Nat.mod_self]
    · exact Nat.mod_eq_of_lt (by omega)
  rw [key a ha, key b hb] at h
  split at h <;> split at h <;> omega
theorem nxD_inj (hm : mapP N es ar) {d e : Int} (hd0 : 0 ≤ d) (hd1 : d < 2 * es.length) (he0 : 0 ≤ e) (he1 : e < 2 * es.length) (h : nxD es ar d = nxD es ar e) : d = e := by
  have n1 := (nxD_range hm hd0 hd1).2.2
  have n2 := (nxD_range hm he0 he1).2.2
  have er : rowD es ar (xr d) = rowD es ar (xr e) := by unfold rowD; rw [← n1, h, n2]
  obtain ⟨hx, e1⟩ := nxD_at hm hd0 hd1
  obtain ⟨hy, e2⟩ := nxD_at hm he0 he1
  obtain ⟨x0, x1⟩ := xr_range hd0 hd1
  obtain ⟨y0, y1⟩ := xr_range he0 he1
  obtain ⟨mx, _, _, nd, _⟩ := rowD_mem hm x0 x1
  have my := (rowD_mem hm y0 y1).1
  rw [e1, e2] at h
  simp only [← er] at h hy my
  have := nodup_get nd hx hy h
  have := succ_mod_inj (List.idxOf_lt_length_of_mem mx) (List.idxOf_lt_length_of_mem my) this
  have g1 := List.getElem_idxOf (List.idxOf_lt_length_of_mem mx)
  have g2 := List.getElem_idxOf (List.idxOf_lt_length_of_mem my)
  have : xr d = xr e := by rw [← g1, ← g2]; congr 1
  rw [← xr_xr (d := d), this, xr_xr]
end

/-! ### The next dart, by the program and by the reference -/
theorem l05Find_ev (l : List Int) (x : Int) (hx : x ∈ l) (hl : l.length ≤ 1048576) : Evs (fun k => spec_l05Find.f k l x) (l.idxOf x : Int) := by
  have hlt := List.idxOf_lt_length_of_mem hx
  have key : ∀ (d i : Nat), i + d = l.idxOf x → Evs (fun k => spec_l05Find.l0 k x l (l.length : Int) i) (l.idxOf x : Int) := by
    intro d
    induction d with
    | zero =>
      intro i hi
      refine Evs.step (fun k => by simp only [spec_l05Find.l0]; rfl) (Evs.pos (by omega) (Evs.pos (by omega) (Evs.pos (by omega) ?_)))
      rw [rd_at (by omega)]
      have e : l[i] = x := by
        have := List.getElem_idxOf hlt
        simpa only [show i = l.idxOf x by omega] using this
      rw [show (l.idxOf x : Int) = i by omega]
      exact Evs.pos e (Evs.const _)
    | succ d ih =>
      intro i hi
      refine Evs.step (fun k => by simp only [spec_l05Find.l0]; rfl) (Evs.pos (by omega) (Evs.pos (by omega) (Evs.pos (by omega) ?_)))
      rw [rd_at (by omega), cast_succ (by omega)]
      exact Evs.neg (idx_min (i := i) (by omega) (by omega)) (ih (i + 1) (by omega))
  unfold spec_l05Find.f
  exact key (l.idxOf x) 0 (by omega)

section
variable {N : Int} {es : List S78} {ar : List (List Int)}
theorem row_small (hm : mapP N es ar) {d : Int} (h0 : 0 ≤ d) (h1 : d < 2 * es.length) : (rowD es ar d).length ≤ 20 := by
  have hE := hm.1.2.2.1
  obtain ⟨_, _, _, nd, hall⟩ := rowD_mem hm h0 h1
  have := sub_len (l2 := ups (2 * es.length)) nd (fun x hx => mem_ups.2 ⟨(hall x hx).1, by have := (hall x hx).2.1; omega⟩)
  rw [ups_length] at this
  omega
theorem rdL2_row {d : Int} (_ : 0 ≤ nodeD es d) : rd_L2 ar (nodeD es d) = rowD es ar d := by unfold rd_L2 rowD; rfl

theorem cast_mod (i n : Nat) : ((i : Int) + 1) % (n : Int) = (((i + 1) % n : Nat) : Int) := by rw [Int.natCast_emod]; simp

theorem l39Next_ev (hm : mapP N es ar) {d : Int} (h0 : 0 ≤ d) (h1 : d < 2 * es.length) : Evs (fun k => spec_l39Next.f k N es ar d) (nxD es ar d) := by
  have hE := hm.1.2.2.1
  obtain ⟨x0, x1⟩ := xr_range h0 h1
  obtain ⟨mx, hi, hn, nd, hall⟩ := rowD_mem hm x0 x1
  have hlt := List.idxOf_lt_length_of_mem mx
  have hs := row_small hm x0 x1
  obtain ⟨hz, e1⟩ := nxD_at hm h0 h1
  unfold spec_l39Next.f
  rw [xr_eq h0 (by omega)]
  refine Evs.bindc (l39Node_eq N es _ x0 x1 hE) (Evs.pos hn (Evs.pos (by omega) ?_))
  rw [rdL2_row hn]
  refine Evs.bind (l05Find_ev _ _ mx (by omega)) (Evs.neg (by omega) ?_)
  have e2 : Int.tmod (wrap64 (((rowD es ar (xr d)).idxOf (xr d) : Int) + 1)) ((rowD es ar (xr d)).length : Int) = ((((rowD es ar (xr d)).idxOf (xr d) + 1) % (rowD es ar (xr d)).length : Nat) : Int) := by
    rw [w64 (by omega) (by omega), Int.tmod_eq_emod_of_nonneg (by omega), cast_mod]
  rw [e2, e1]
  generalize ((rowD es ar (xr d)).idxOf (xr d) + 1) % (rowD es ar (xr d)).length = m at hz ⊢
  refine Evs.pos (by omega) (Evs.pos (by omega) ?_)
  rw [rd_at hz]
  exact Evs.const _

theorem nextDart_ev (hm : mapP N es ar) {d : Int} (h0 : 0 ≤ d) (h1 : d < 2 * es.length) : Evs (fun k => impl_nextDart.f k N es ar d) (nxD es ar d) := by
  have hE := hm.1.2.2.1
  obtain ⟨x0, x1⟩ := xr_range h0 h1
  obtain ⟨mx, hi, hn, nd, hall⟩ := rowD_mem hm x0 x1
  have hlt := List.idxOf_lt_length_of_mem mx
  have hs := row_small hm x0 x1
  obtain ⟨hz, e1⟩ := nxD_at hm h0 h1
  unfold impl_nextDart.f
  rw [xr_eq h0 (by omega)]
  refine Evs.bindc (nodeOf_eq N es _ x0 x1 hE) (Evs.pos hn (Evs.pos (by omega) ?_))
  rw [rdL2_row hn]
  have key : ∀ (c i : Nat), i + c = (rowD es ar (xr d)).idxOf (xr d) → Evs (fun k => impl_nextDart.l0 k d (xr d) (rowD es ar (xr d)) (rowD es ar (xr d)) ((rowD es ar (xr d)).length : Int) i) (nxD es ar d) := by
    intro c
    induction c with
    | zero =>
      intro i hi'
      refine Evs.step (fun k => by simp only [impl_nextDart.l0]; rfl) (Evs.pos (by omega) (Evs.pos (by omega) (Evs.pos (by omega) ?_)))
      rw [rd_at (by omega)]
      have e : (rowD es ar (xr d))[i] = xr d := by
        have := List.getElem_idxOf hlt
        simpa only [show i = (rowD es ar (xr d)).idxOf (xr d) by omega] using this
      refine Evs.pos e (Evs.neg (by omega) ?_)
      have e2 : Int.tmod (wrap64 ((i : Int) + 1)) ((rowD es ar (xr d)).length : Int) = ((((rowD es ar (xr d)).idxOf (xr d) + 1) % (rowD es ar (xr d)).length : Nat) : Int) := by
        rw [w64 (by omega) (by omega), Int.tmod_eq_emod_of_nonneg (by omega), show (rowD es ar (xr d)).idxOf (xr d) = i by omega, cast_mod]
      rw [e2, e1]
      clear e1 e2 e
      generalize ((rowD es ar (xr d)).idxOf (xr d) + 1) % (rowD es ar (xr d)).length = m at hz ⊢
      refine Evs.pos (by omega) (Evs.pos (by omega) ?_)
      rw [rd_at hz]
      exact Evs.const _
    | succ c ih =>
      intro i hi'
      refine Evs.step (fun k => by simp only [impl_nextDart.l0]; rfl) (Evs.pos (by omega) (Evs.pos (by omega) (Evs.pos (by omega) ?_)))
      rw [rd_at (show i < (rowD es ar (xr d)).length by omega), cast_succ (show i ≤ 1048576 by omega)]
      exact Evs.neg (idx_min (i := i) (by omega) (by omega)) (ih (i + 1) (by omega))
  exact key ((rowD es ar (xr d)).idxOf (xr d)) 0 (by omega)

/-- A list of faces: every dart once, each face closed. -/
structure FaceP (es : List S78) (ar : List (List Int)) (r : List (List Int)) : Prop where
  nd : r.flatten.Nodup
  all : ∀ d : Int, d ∈ r.flatten ↔ 0 ≤ d ∧ d < 2 * es.length
  ne : ∀ f ∈ r, f ≠ []
  cl : ∀ f ∈ r, ∀ x ∈ f, nxD es ar x ∈ f

/-- What has been found when the search stands at dart i: the faces F. -/
structure Part (es : List S78) (ar : List (List Int)) (F : List (List Int)) (i : Nat) : Prop where
  nd : F.flatten.Nodup
  rg : ∀ d ∈ F.flatten, 0 ≤ d ∧ d < 2 * es.length
  low : ∀ d : Int, 0 ≤ d → d < i → d ∈ F.flatten
  ne : ∀ f ∈ F, f ≠ []
  cl : ∀ f ∈ F, ∀ x ∈ f, nxD es ar x ∈ f
/-- The face that is being walked: f, from dart i on; x is the next dart. -/
structure Walk (es : List S78) (ar : List (List Int)) (F : List (List Int)) (i : Nat) (f : List Int) (x : Int) : Prop where
  nd : (F.flatten ++ f).Nodup
  rg : ∀ d ∈ f, 0 ≤ d ∧ d < 2 * es.length
  x0 : 0 ≤ x
  x1 : x < 2 * es.length
  fst : f.head?.getD x = i
  stp : ∀ k (h : k + 1 < f.length), f[k + 1] = nxD es ar f[k]
  lst : ∀ h : f ≠ [], x = nxD es ar (f.getLast h)
  at_ : (i : Int) ∉ F.flatten

theorem closed_surj (hm : mapP N es ar) {f : List Int} (hn : f.Nodup) (hr : ∀ d ∈ f, 0 ≤ d ∧ d < 2 * es.length) (hc : ∀ x ∈ f, nxD es ar x ∈ f) {x : Int} (hx : x ∈ f) : ∃ y ∈ f, nxD es ar y = x := by
  have h1 : (f.map (nxD es ar)).Nodup := by
    refine List.pairwise_map.2 (List.Pairwise.imp_of_mem (fun {a b} ha hb hab e => hab ?_) hn)
    exact nxD_inj hm (hr a ha).1 (hr a ha).2 (hr b hb).1 (hr b hb).2 e
  have h2 := sub_all (l1 := f.map (nxD es ar)) (l2 := f) h1 (fun y hy => by obtain ⟨z, hz, rfl⟩ := List.mem_map.1 hy; exact hc z hz) (by simp) x hx
  obtain ⟨y, hy, e⟩ := List.mem_map.1 h2
  exact ⟨y, hy, e⟩

theorem walk_done (hm : mapP N es ar) {F : List (List Int)} {i : Nat} {f : List Int} {x : Int} (hp : Part es ar F i) (hw : Walk es ar F i f x) (hx : x ∈ F.flatten ++ f) : Part es ar (F ++ [f]) (i + 1) := by
  have hfn : f ≠ [] := by
    intro e
    subst e
    have hf := hw.fst
    simp at hf
    simp at hx
    have := hw.at_
    rw [← hf] at this
    exact this (by simpa using hx)
  have hpos : 0 < f.length := List.length_pos_iff.2 hfn
  have hnf : f.Nodup := (List.nodup_append.1 hw.nd).2.1
  have hl := hw.lst hfn
  have hlm : f.getLast hfn ∈ f := List.getLast_mem hfn
  have hf0 : f[0] = (i : Int) := by
    have := hw.fst
    rw [List.head?_eq_getElem?, List.getElem?_eq_getElem hpos] at this
    simpa using this
  have hx0 : x = f[0] := by
    rcases List.mem_append.1 hx with h | h
    · exfalso
      obtain ⟨g, hg, hxg⟩ := List.mem_flatten.1 h
      have hgF : ∀ d ∈ g, d ∈ F.flatten := fun d hd => List.mem_flatten.2 ⟨g, hg, hd⟩
      have hgn : g.Nodup := (List.pairwise_flatten.1 hp.nd).1 g hg
      obtain ⟨y, hy, e⟩ := closed_surj hm hgn (fun d hd => hp.rg d (hgF d hd)) (hp.cl g hg) hxg
      have hyr := hp.rg y (hgF y hy)
      have hlr := hw.rg _ hlm
      have := nxD_inj hm hyr.1 hyr.2 hlr.1 hlr.2 (e.trans hl)
      exact (List.nodup_append.1 hw.nd).2.2 y (hgF y hy) _ hlm this
    · obtain ⟨k, hk, e⟩ := List.getElem_of_mem h
      cases k with
      | zero => exact e.symm
      | succ k =>
        exfalso
        have h1 := hw.stp k hk
        rw [e, hl] at h1
        have hkr := hw.rg f[k] (List.getElem_mem _)
        have hlr := hw.rg _ hlm
        have h2 := nxD_inj hm hlr.1 hlr.2 hkr.1 hkr.2 h1
        rw [List.getLast_eq_getElem] at h2
        have := nodup_get hnf (by omega) (by omega) h2
        omega
  refine ⟨?_, ?_, ?_, ?_, ?_⟩
  · rw [List.flatten_append, List.flatten_singleton]; exact hw.nd
  · intro d hd
    rw [List.flatten_append, List.flatten_singleton] at hd
    rcases List.mem_append.1 hd with h | h
    · exact hp.rg d h
    · exact hw.rg d h
  · intro d h0 h1
    rw [List.flatten_append, List.flatten_singleton]
    by_cases e : d = i
    · subst e
      exact List.mem_append_right _ (hf0 ▸ List.getElem_mem _)
    · exact List.mem_append_left _ (hp.low d h0 (by omega))
  · intro g hg
    rcases List.mem_append.1 hg with h | h
    · exact hp.ne g h
    · rw [List.mem_singleton.1 h]; exact hfn
  · intro g hg y hy
    rcases List.mem_append.1 hg with h | h
    · exact hp.cl g h y hy
    · rw [List.mem_singleton.1 h] at hy ⊢
      obtain ⟨k, hk, rfl⟩ := List.getElem_of_mem hy
      by_cases e : k + 1 < f.length
      · rw [← hw.stp k e]; exact List.getElem_mem _
      · have e2 : f[k] = f.getLast hfn := by
          rw [List.getLast_eq_getElem]
          congr 1
          omega
        rw [e2, ← hl, hx0]
        exact List.getElem_mem _

theorem walk_step (hm : mapP N es ar) {F : List (List Int)} {i : Nat} {f : List Int} {x : Int} (hw : Walk es ar F i f x) (hx : x ∉ F.flatten ++ f) : Walk es ar F i (f ++ [x]) (nxD es ar x) := by
  have hnx := nxD_range hm hw.x0 hw.x1
  refine ⟨?_, ?_, hnx.1, hnx.2.1, ?_, ?_, ?_, hw.at_⟩
  · rw [← List.append_assoc]
    refine List.nodup_append.2 ⟨hw.nd, by simp, fun a ha b hb e => ?_⟩
    rw [List.mem_singleton.1 hb] at e
    exact hx (e ▸ ha)
  · intro d hd
    rcases List.mem_append.1 hd with h | h
    · exact hw.rg d h
    · rw [List.mem_singleton.1 h]; exact ⟨hw.x0, hw.x1⟩
  · have := hw.fst
    cases f with
    | nil => simpa using this
    | cons a f => simpa using this
  · intro k h
    simp only [List.length_append, List.length_singleton] at h
    by_cases e : k + 1 < f.length
    · rw [List.getElem_append_left e, List.getElem_append_left (by omega)]
      exact hw.stp k e
    · have hk : k + 1 = f.length := by omega
      have hfn : f ≠ [] := by intro e; subst e; simp at hk
      rw [List.getElem_append_right (by omega), List.getElem_append_left (by omega)]
      have := hw.lst hfn
      rw [List.getLast_eq_getElem] at this
      simp only [hk, Nat.sub_self, List.getElem_cons_zero]
      rw [this]
      congr 2
      omega
  · intro h
    simp

theorem faces_both (hm : mapP N es ar) (n : Nat) (hn : n = 2 * es.length) : ∀ (M : Nat),
    (∀ (F : List (List Int)) (s : List Bool) (i : Nat), 2 * (n - i) + 1 + (n - F.flatten.length) ≤ M → i ≤ n → Part es ar F i → Seen s n F.flatten →
      ∃ r, Evs (fun k => spec_FacesOf.l0 k F s (n : Int) i N es ar) r ∧ Evs (fun k => impl_FacesOf.l0 k F s (n : Int) i N es ar) r ∧ FaceP es ar r) ∧
    (∀ (F : List (List Int)) (s : List Bool) (i : Nat) (f : List Int) (x : Int), 2 * (n - i) + (n - (F.flatten ++ f).length) ≤ M → i < n → Part es ar F i → Walk es ar F i f x → Seen s n (F.flatten ++ f) →
      ∃ r, Evs (fun k => spec_FacesOf.l1 k F s f x (n : Int) i N es ar) r ∧ Evs (fun k => impl_FacesOf.l1 k F s f x (n : Int) i N es ar) r ∧ FaceP es ar r) := by
  have hE := hm.1.2.2.1
  have bound : ∀ (P : List Int), P.Nodup → (∀ d ∈ P, 0 ≤ d ∧ d < 2 * es.length) → P.length ≤ n := fun P h1 h2 => by
    have := sub_len (l2 := ups (2 * es.length)) h1 (fun x hx => mem_ups.2 ⟨(h2 x hx).1, by have := (h2 x hx).2; omega⟩)
    rw [ups_length] at this
    omega
  have flen : ∀ (F : List (List Int)), (∀ f ∈ F, f ≠ []) → F.length ≤ F.flatten.length := by
    intro F
    induction F with
    | nil => intro _; simp
    | cons a F ih =>
      intro h
      have h1 := ih (fun f hf => h f (List.mem_cons_of_mem _ hf))
      have h2 := List.length_pos_iff.2 (h a (List.mem_cons_self ..))
      simp only [List.flatten_cons, List.length_append, List.length_cons]
      omega
  intro M
  induction M with
  | zero => exact ⟨fun F s i h => absurd h (by omega), fun F s i f x h hi => absurd h (by omega)⟩
  | succ M ih =>
    obtain ⟨ih0, ih1⟩ := ih
    refine ⟨fun F s i hM hi hp hs => ?_, fun F s i f x hM hi hp hw hs => ?_⟩
    · by_cases hlt : i < n
      · have hsl := hs.1
        by_cases hseen : (i : Int) ∈ F.flatten
        · have hb := (hs.rd (x := (i : Int)) (by omega) (by omega)).2 hseen
          have hp' : Part es ar F (i + 1) := ⟨hp.nd, hp.rg, fun d h0 h1 => by
            by_cases e : d = i
            · rw [e]; exact hseen
            · exact hp.low d h0 (by omega), hp.ne, hp.cl⟩
          obtain ⟨r, r1, r2, r3⟩ := ih0 F s (i + 1) (by omega) (by omega) hp' hs
          refine ⟨r, ?_, ?_, r3⟩
          · refine Evs.step (fun k => by simp only [spec_FacesOf.l0]; rfl) (Evs.pos (by omega) (Evs.pos (by omega) (Evs.pos (by omega) (Evs.pos hb ?_))))
            rw [cast_succ (by omega)]
            exact r1
          · refine Evs.step (fun k => by simp only [impl_FacesOf.l0]; rfl) (Evs.pos (by omega) (Evs.pos (by omega) (Evs.pos (by omega) (Evs.pos hb ?_))))
            rw [cast_succ (by omega)]
            exact r2
        · have hb : ¬ rdOf false s (i : Int) = true := fun h => hseen ((hs.rd (x := (i : Int)) (by omega) (by omega)).1 h)
          have hw : Walk es ar F i [] i := ⟨by simpa using hp.nd, fun d hd => by simp at hd, by omega, by omega, rfl, fun k h => by simp at h, fun h => absurd rfl h, hseen⟩
          obtain ⟨r, r1, r2, r3⟩ := ih1 F s i [] i (by rw [List.append_nil]; omega) hlt hp hw (by simpa using hs)
          refine ⟨r, ?_, ?_, r3⟩
          · exact Evs.step (fun k => by simp only [spec_FacesOf.l0]; rfl) (Evs.pos (by omega) (Evs.pos (by omega) (Evs.pos (by omega) (Evs.neg hb r1))))
          · exact Evs.step (fun k => by simp only [impl_FacesOf.l0]; rfl) (Evs.pos (by omega) (Evs.pos (by omega) (Evs.pos (by omega) (Evs.neg hb r2))))
      · refine ⟨F, ?_, ?_, ⟨hp.nd, fun d => ⟨hp.rg d, fun h => hp.low d h.1 (by omega)⟩, hp.ne, hp.cl⟩⟩
        · exact Evs.step (fun k => by simp only [spec_FacesOf.l0]; rfl) (Evs.neg (by omega) (Evs.const _))
        · exact Evs.step (fun k => by simp only [impl_FacesOf.l0]; rfl) (Evs.neg (by omega) (Evs.const _))
    · have hsl := hs.1
      have hx0 := hw.x0
      have hx1 := hw.x1
      have hrg : ∀ d ∈ F.flatten ++ f, 0 ≤ d ∧ d < 2 * es.length := fun d hd => by
        rcases List.mem_append.1 hd with h | h
        · exact hp.rg d h
        · exact hw.rg d h
      have hb1 := bound _ hw.nd hrg
      have hfl := flen F hp.ne
      simp only [List.length_append] at hb1
      by_cases hseen : x ∈ F.flatten ++ f
      · have hb := (hs.rd hx0 (by omega)).2 hseen
        have hp' := walk_done hm hp hw hseen
        have hfl2 : (F ++ [f]).flatten = F.flatten ++ f := by simp
        obtain ⟨r, r1, r2, r3⟩ := ih0 (F ++ [f]) s (i + 1) (by rw [hfl2]; omega) (by omega) hp' (by rw [hfl2]; exact hs)
        refine ⟨r, ?_, ?_, r3⟩
        · refine Evs.step (fun k => by simp only [spec_FacesOf.l1]; rfl) (Evs.pos hx0 (Evs.pos (by omega) (Evs.pos hb (Evs.pos (by omega) ?_))))
          rw [cast_succ (by omega)]
          exact r1
        · refine Evs.step (fun k => by simp only [impl_FacesOf.l1]; rfl) (Evs.pos hx0 (Evs.pos (by omega) (Evs.pos hb (Evs.pos (by omega) ?_))))
          rw [cast_succ (by omega)]
          exact r2
      · have hb : ¬ rdOf false s x = true := fun h => hseen ((hs.rd hx0 (by omega)).1 h)
        have hw' := walk_step hm hw hseen
        have hb2 := bound _ hw'.nd (fun d hd => by
          rw [← List.append_assoc] at hd
          rcases List.mem_append.1 hd with h | h
          · exact hrg d h
          · rw [List.mem_singleton.1 h]; exact ⟨hx0, hx1⟩)
        simp only [List.length_append, List.length_singleton] at hb2
        have hs' : Seen (s.set x.toNat true) n (F.flatten ++ (f ++ [x])) := by
          rw [← List.append_assoc]
          exact hs.put hx0 (by omega)
        obtain ⟨r, r1, r2, r3⟩ := ih1 F (s.set x.toNat true) i (f ++ [x]) (nxD es ar x) (by simp only [List.length_append, List.length_singleton] at hM ⊢; omega) hi hp hw' hs'
        refine ⟨r, ?_, ?_, r3⟩
        · exact Evs.step (fun k => by simp only [spec_FacesOf.l1]; rfl) (Evs.pos hx0 (Evs.pos (by omega) (Evs.neg hb (Evs.pos (by omega) (Evs.bind (l39Next_ev hm hx0 hx1) r1)))))
        · exact Evs.step (fun k => by simp only [impl_FacesOf.l1]; rfl) (Evs.pos hx0 (Evs.pos (by omega) (Evs.neg hb (Evs.pos (by omega) (Evs.bind (nextDart_ev hm hx0 hx1) r2)))))
end

theorem FacesOf_ev (N : Int) (es : List S78) (ar : List (List Int)) (har : ar.length ≤ 1048576) (hfl : ar.flatten.length ≤ 1048576) :
    ∃ r, Evs (fun k => spec_FacesOf.f k N es ar) r ∧ Evs (fun k => impl_FacesOf.f k N es ar) r ∧ (mapP N es ar → FaceP es ar r) ∧ (¬ mapP N es ar → r = []) := by
  by_cases hm : mapP N es ar
  · have hE := hm.1.2.2.1
    obtain ⟨r, r1, r2, r3⟩ := (faces_both hm (2 * es.length) rfl (2 * (2 * es.length - 0) + 1 + (2 * es.length - 0))).1 [] (List.replicate (2 * es.length) false) 0 (by simp) (by omega)
      ⟨by simp, fun d hd => by simp at hd, fun d h0 h1 => by omega, fun f hf => by simp at hf, fun f hf => by simp at hf⟩ (by simpa using Seen.none _)
    have e : (2 * (es.length : Int)).toNat = 2 * es.length := by omega
    refine ⟨r, ?_, ?_, fun _ => r3, fun h => absurd hm h⟩
    · unfold spec_FacesOf.f
      refine Evs.bind (spec_MapOk_ev N es ar har hfl) ?_
      rw [B_true hm, w64 (x := 2 * (es.length : Int)) (by omega) (by omega)]
      refine Evs.yes (Evs.pos (by omega) (Evs.pos (by omega) ?_))
      rw [e]
      simpa using r1
    · unfold impl_FacesOf.f
      refine Evs.bind (impl_MapOk_ev N es ar har hfl) ?_
      rw [B_true hm, w64 (x := 2 * (es.length : Int)) (by omega) (by omega)]
      refine Evs.yes (Evs.pos (by omega) (Evs.pos (by omega) ?_))
      rw [e]
      simpa using r2
  · refine ⟨[], ?_, ?_, fun h => absurd h hm, fun _ => rfl⟩
    · unfold spec_FacesOf.f
      refine Evs.bind (spec_MapOk_ev N es ar har hfl) ?_
      rw [B_false hm]
      exact Evs.no (Evs.const _)
    · unfold impl_FacesOf.f
      refine Evs.bind (impl_MapOk_ev N es ar har hfl) ?_
      rw [B_false hm]
      exact Evs.no (Evs.const _)

end Go.Proofs.Ytpllghhgndfkhaa.PFnExactFacesOf
