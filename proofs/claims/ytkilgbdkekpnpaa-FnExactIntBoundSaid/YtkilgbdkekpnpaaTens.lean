/- Tensors in memory, and the contracts of the laws' own functions on them: sizes, copies, comparisons. -/
import Derived.Test.YtkilgbdkekpnpaaInts
namespace Go.Proofs.Ytkilgbdkekpnpaa
open Go.RowKit

/-! ### Tensors as data and in memory -/

structure Ten where
  l : List Int
  d : List Int
  x : List Int

/-- Where the three slices of a tensor lie. -/
structure TR where
  a1 : Option Addr
  c1 : Nat
  a2 : Option Addr
  c2 : Nat
  a3 : Option Addr
  c3 : Nat

structure IsTen (w : World) (r : TR) (t : Ten) : Prop where
  l : Ints w r.a1 r.c1 t.l
  d : Ints w r.a2 r.c2 t.d
  x : Ints w r.a3 r.c3 t.x

theorem IsTen.ext {w w' : World} {r : TR} {t : Ten} (h : IsTen w r t) (hb : Ext w w') : IsTen w' r t := ⟨h.l.ext hb, h.d.ext hb, h.x.ext hb⟩

/-- The slice with address A and capacity c reads as the tensors ts. -/
structure Tens (w : World) (A : Option Addr) (c : Nat) (ts : List Ten) : Prop where
  le : ts.length ≤ c
  cap : c ≤ 9223372036854775807
  at_ : ∀ k, k < ts.length → ∃ b o, A = some ⟨b, o, none⟩ ∧ b < w.heap.size ∧ ∀ j (h : j < ts.length), ∃ r : TR, IsTen w r ts[j] ∧
     w.cell? ⟨b, o + j * 3, none⟩ = some (.slice r.a1 ts[j].l.length r.c1) ∧ w.cell? ⟨b, o + j * 3 + 1, none⟩ = some (.slice r.a2 ts[j].d.length r.c2) ∧ w.cell? ⟨b, o + j * 3 + 2, none⟩ = some (.slice r.a3 ts[j].x.length r.c3)

theorem Tens.ext {w w' : World} {A : Option Addr} {c : Nat} {ts : List Ten} (h : Tens w A c ts) (hb : Ext w w') : Tens w' A c ts := ⟨h.le, h.cap, fun k hk =>
  let ⟨b, o, e, hlt, hc⟩ := h.at_ k hk
  ⟨b, o, e, Nat.lt_of_lt_of_le hlt hb.size, fun j hj => let ⟨r, h0, h1, h2, h3⟩ := hc j hj; ⟨r, h0.ext hb, hb.cell h1, hb.cell h2, hb.cell h3⟩⟩⟩

theorem Tens.take {w : World} {A : Option Addr} {c : Nat} {ts : List Ten} (h : Tens w A c ts) (n : Nat) : Tens w A c (ts.take n) := ⟨by have := List.length_take_le' n ts; have := h.le; omega, h.cap, fun k hk => by
  have hk' : k < ts.length := by have := List.length_take_le' n ts; omega
  obtain ⟨b, o, e, hb, hc⟩ := h.at_ k hk'
  refine ⟨b, o, e, hb, fun j hj => ?_⟩
  have hj' : j < ts.length := by have := List.length_take_le' n ts; omega
  simpa using hc j hj'⟩

/-! ### Triples of cells in a row -/

def flat3 (vs : List (Value × Value × Value)) : List Value := vs.flatMap fun v => [v.1, v.2.1, v.2.2]

theorem flat3_cons (v : Value × Value × Value) (vs : List (Value × Value × Value)) : flat3 (v :: vs) = v.1 :: v.2.1 :: v.2.2 :: flat3 vs := by simp [flat3]
theorem flat3_append (us vs : List (Value × Value × Value)) : flat3 (us ++ vs) = flat3 us ++ flat3 vs := by simp [flat3]
theorem flat3_length (vs : List (Value × Value × Value)) : (flat3 vs).length = vs.length * 3 := by
  induction vs with
  | nil => rfl
  | cons v vs ih => simp [flat3_cons, ih]; omega
theorem flat3_at (vs : List (Value × Value × Value)) : ∀ j (h : j < vs.length), (flat3 vs)[j * 3]? = some vs[j].1 ∧ (flat3 vs)[j * 3 + 1]? = some vs[j].2.1 ∧ (flat3 vs)[j * 3 + 2]? = some vs[j].2.2 := by
  induction vs with
  | nil => intro j h; simp at h
  | cons v vs ih =>
    intro j h
    cases j with
    | zero => simp [flat3_cons]
    | succ j =>
      have := ih j (by simpa using h)
      rw [flat3_cons, show (j + 1) * 3 = j * 3 + 3 by omega, show j * 3 + 3 + 1 = (j * 3 + 1) + 3 by omega, show j * 3 + 3 + 2 = (j * 3 + 2) + 3 by omega]
      simpa using this
theorem flat3_set (us : List (Value × Value × Value)) (z1 z2 z3 a b c : Value) (rest : List Value) (k : Nat) (hk : k = us.length) :
    (((flat3 us ++ z1 :: z2 :: z3 :: rest).set (k * 3) a).set (k * 3 + 1) b).set (k * 3 + 2) c = flat3 (us ++ [(a, b, c)]) ++ rest := by
  have hl := flat3_length us
  subst hk
  rw [List.set_append_right _ _ (by omega), List.set_append_right _ _ (by omega), List.set_append_right _ _ (by omega), hl, flat3_append]
  rw [show us.length * 3 - us.length * 3 = 0 by omega, show us.length * 3 + 1 - us.length * 3 = 1 by omega, show us.length * 3 + 2 - us.length * 3 = 2 by omega]
  simp [flat3]

/-- The three cells of a tensor. -/
def tcell (v : TR × Ten) : Value × Value × Value := (.slice v.1.a1 v.2.l.length v.1.c1, .slice v.1.a2 v.2.d.length v.1.c2, .slice v.1.a3 v.2.x.length v.1.c3)
def tcells (vs : List (TR × Ten)) : List Value := flat3 (vs.map tcell)

theorem tcells_at (vs : List (TR × Ten)) (j : Nat) (h : j < vs.length) : (tcells vs)[j * 3]? = some (.slice vs[j].1.a1 vs[j].2.l.length vs[j].1.c1) ∧ (tcells vs)[j * 3 + 1]? = some (.slice vs[j].1.a2 vs[j].2.d.length vs[j].1.c2) ∧
    (tcells vs)[j * 3 + 2]? = some (.slice vs[j].1.a3 vs[j].2.x.length vs[j].1.c3) := by
  have := flat3_at (vs.map tcell) j (by simpa using h)
  simpa [tcells, tcell] using this
theorem tcells_length (vs : List (TR × Ten)) : (tcells vs).length = vs.length * 3 := by simp [tcells, flat3_length]

theorem tcells_store (vs : List (TR × Ten)) (v : TR × Ten) (m k : Nat) (hk : vs.length = k) (a b c : Value) (ha : a = (tcell v).1) (hb : b = (tcell v).2.1) (hc : c = (tcell v).2.2) :
    (((tcells vs ++ List.replicate ((m + 1) * 3) (Value.slice none 0 0)).toArray.setIfInBounds (k * 3) a).setIfInBounds (k * 3 + 1) b).setIfInBounds (k * 3 + 2) c = (tcells (vs ++ [v]) ++ List.replicate (m * 3) (Value.slice none 0 0)).toArray := by
  have e : List.replicate ((m + 1) * 3) (Value.slice none 0 0) = .slice none 0 0 :: .slice none 0 0 :: .slice none 0 0 :: List.replicate (m * 3) (Value.slice none 0 0) := by
    rw [show (m + 1) * 3 = m * 3 + 1 + 1 + 1 by omega]; simp only [List.replicate_succ]
  rw [e]
  simp only [List.setIfInBounds_toArray, tcells]
  rw [flat3_set _ _ _ _ _ _ _ _ k (by simp [hk]), ha, hb, hc]
  simp

/-! ### A tensor whose three slices are the call's own, in blocks of their own -/

/-- A copy made by 'make' and a loop: its three blocks. -/
structure NewT (w : World) (lo : Nat) (g1 g2 g3 : Nat) (t : Ten) : Prop where
  h0 : lo ≤ g1
  h1 : g1 < g2
  h2 : g2 < g3
  b1 : Blk w g1 3 (ints t.l)
  b2 : Blk w g2 3 (ints t.d)
  b3 : Blk w g3 3 (ints t.x)

def newTR (g1 g2 g3 : Nat) (t : Ten) : TR := ⟨some ⟨g1, 0, none⟩, t.l.length, some ⟨g2, 0, none⟩, t.d.length, some ⟨g3, 0, none⟩, t.x.length⟩

theorem Blk.ints {w : World} {g : Nat} {xs : List Int} (h : Blk w g 3 (ints xs)) (hx : xs.length ≤ 1048576) : Ints w (some ⟨g, 0, none⟩) xs.length xs :=
  ⟨Nat.le_refl _, by omega, fun _ _ => ⟨g, 0, rfl, h.lt, fun j hj => by rw [Nat.zero_add, h.cell, ints_at hj]⟩⟩

/-- Small enough for the laws. -/
def Ten.small (t : Ten) : Prop := t.l.length ≤ 1048576 ∧ t.d.length ≤ 1048576 ∧ t.x.length ≤ 1048576

theorem NewT.isTen {w : World} {lo g1 g2 g3 : Nat} {t : Ten} (h : NewT w lo g1 g2 g3 t) (hs : t.small) : IsTen w (newTR g1 g2 g3 t) t := ⟨h.b1.ints hs.1, h.b2.ints hs.2.1, h.b3.ints hs.2.2⟩
theorem NewT.ext {w w' : World} {lo g1 g2 g3 : Nat} {t : Ten} (h : NewT w lo g1 g2 g3 t) (hb : Ext w w') : NewT w' lo g1 g2 g3 t := ⟨h.h0, h.h1, h.h2, h.b1.ext hb, h.b2.ext hb, h.b3.ext hb⟩
theorem NewT.farb {w : World} {lo g1 g2 g3 b o : Nat} {t : Ten} (h : NewT w lo g1 g2 g3 t) (hb : b < lo) (u : Value) : NewT (w.setCell ⟨b, o, none⟩ u) lo g1 g2 g3 t := by
  obtain ⟨a0, a1, a2, c1, c2, c3⟩ := h
  exact ⟨a0, a1, a2, c1.farb (by omega) u, c2.farb (by omega) u, c3.farb (by omega) u⟩

/-- The copies of several tensors: their blocks ascend. -/
def NewTs (w : World) : (lo : Nat) → List (Nat × Nat × Nat) → List Ten → Prop
  | _, [], [] => True
  | lo, g :: gs, t :: ts => NewT w lo g.1 g.2.1 g.2.2 t ∧ NewTs w (g.2.2 + 1) gs ts
  | _, _, _ => False

def newVs (gs : List (Nat × Nat × Nat)) (ts : List Ten) : List (TR × Ten) := (gs.zip ts).map fun v => (newTR v.1.1 v.1.2.1 v.1.2.2 v.2, v.2)

theorem NewTs.length {w : World} {gs : List (Nat × Nat × Nat)} {ts : List Ten} {lo : Nat} (h : NewTs w lo gs ts) : gs.length = ts.length := by
  induction gs generalizing lo ts with
  | nil => cases ts with
    | nil => rfl
    | cons t ts => exact h.elim
  | cons g gs ih => cases ts with
    | nil => exact h.elim
    | cons t ts => simp [ih h.2]
theorem NewTs.ext {w w' : World} {gs : List (Nat × Nat × Nat)} {ts : List Ten} {lo : Nat} (h : NewTs w lo gs ts) (hb : Ext w w') : NewTs w' lo gs ts := by
  induction gs generalizing lo ts with
  | nil => cases ts with
    | nil => trivial
    | cons t ts => exact h.elim
  | cons g gs ih => cases ts with
    | nil => exact h.elim
    | cons t ts => exact ⟨h.1.ext hb, ih h.2⟩
theorem NewTs.farb {w : World} {gs : List (Nat × Nat × Nat)} {ts : List Ten} {lo b o : Nat} (h : NewTs w lo gs ts) (hb : b < lo) (u : Value) : NewTs (w.setCell ⟨b, o, none⟩ u) lo gs ts := by
  induction gs generalizing lo ts with
  | nil => cases ts with
    | nil => trivial
    | cons t ts => exact h.elim
  | cons g gs ih => cases ts with
    | nil => exact h.elim
    | cons t ts => exact ⟨h.1.farb hb u, ih h.2 (by have := h.1.h0; have := h.1.h1; have := h.1.h2; omega)⟩
theorem NewTs.snoc {w : World} {gs : List (Nat × Nat × Nat)} {ts : List Ten} {lo : Nat} (h : NewTs w lo gs ts) {g : Nat × Nat × Nat} {t : Ten} (hlo : lo ≤ g.1) (hg : ∀ x ∈ gs, x.2.2 < g.1) (ht : NewT w g.1 g.1 g.2.1 g.2.2 t) : NewTs w lo (gs ++ [g]) (ts ++ [t]) := by
  induction gs generalizing lo ts with
  | nil => cases ts with
    | nil => exact ⟨⟨hlo, ht.h1, ht.h2, ht.b1, ht.b2, ht.b3⟩, trivial⟩
    | cons t ts => exact h.elim
  | cons g' gs ih => cases ts with
    | nil => exact h.elim
    | cons t ts => exact ⟨h.1, ih h.2 (by have := hg g' (by simp); omega) (fun x hx => hg x (by simp [hx]))⟩
theorem NewTs.at_ {w : World} {gs : List (Nat × Nat × Nat)} {ts : List Ten} {lo : Nat} (h : NewTs w lo gs ts) : ∀ j (h1 : j < gs.length) (h2 : j < ts.length), NewT w lo gs[j].1 gs[j].2.1 gs[j].2.2 ts[j] := by
  induction gs generalizing lo ts with
  | nil => intro j h1; simp at h1
  | cons g gs ih => cases ts with
    | nil => exact h.elim
    | cons t ts =>
      intro j h1 h2
      cases j with
      | zero => exact h.1
      | succ j =>
        have := ih h.2 j (by simpa using h1) (by simpa using h2)
        have a := h.1.h0; have b := h.1.h1; have c := h.1.h2; have d := this.h0
        exact ⟨by simp only [List.getElem_cons_succ]; omega, this.h1, this.h2, this.b1, this.b2, this.b3⟩
theorem newVs_length {gs : List (Nat × Nat × Nat)} {ts : List Ten} (h : gs.length = ts.length) : (newVs gs ts).length = ts.length := by simp [newVs, h]
theorem newVs_snoc {gs : List (Nat × Nat × Nat)} {ts : List Ten} (h : gs.length = ts.length) (g : Nat × Nat × Nat) (t : Ten) : newVs (gs ++ [g]) (ts ++ [t]) = newVs gs ts ++ [(newTR g.1 g.2.1 g.2.2 t, t)] := by
  simp [newVs, List.zip_append h]

/-- The copy of a []Tensor: its own block g, and the copies of the tensors behind it. -/
structure CopyTs (w : World) (g : Nat) (gs : List (Nat × Nat × Nat)) (ts : List Ten) : Prop where
  b : Blk w g 57 (tcells (newVs gs ts)).toArray
  ts : NewTs w (g + 1) gs ts

theorem CopyTs.ext {w w' : World} {g : Nat} {gs : List (Nat × Nat × Nat)} {ts : List Ten} (h : CopyTs w g gs ts) (hb : Ext w w') : CopyTs w' g gs ts := ⟨h.b.ext hb, h.ts.ext hb⟩

theorem CopyTs.tens {w : World} {g : Nat} {gs : List (Nat × Nat × Nat)} {ts : List Ten} (h : CopyTs w g gs ts) (hn : ts.length ≤ 1048576) (hs : ∀ t ∈ ts, t.small) : Tens w (some ⟨g, 0, none⟩) ts.length ts := by
  refine ⟨Nat.le_refl _, by omega, fun _ _ => ⟨g, 0, rfl, h.b.lt, fun j hj => ?_⟩⟩
  have hl := h.ts.length
  have hn := h.ts.at_ j (by omega) hj
  refine ⟨_, hn.isTen (hs _ (List.getElem_mem hj)), ?_⟩
  have := tcells_at (newVs gs ts) j (by rw [newVs_length hl]; exact hj)
  simp only [h.b.cell, List.getElem?_toArray, Nat.zero_add]
  simpa [newVs, newTR] using this

/-! ### Contracts -/

set_option maxHeartbeats 1000000 in
theorem toTensor_calls (A1 A2 A3 : Option Addr) (c1 c2 c3 : Nat) (t : Ten) (w : World) (h : IsTen w ⟨A1, c1, A2, c2, A3, c3⟩ t) (hs : t.small) :
    Calls Try.prog 68 #[.agg #[.slice A1 t.l.length c1, .slice A2 t.d.length c2, .slice A3 t.x.length c3]] w fun e w' => ∃ g1 g2 g3,
      e = .returned (.agg #[.slice (some ⟨g1, 0, none⟩) t.l.length t.l.length, .slice (some ⟨g2, 0, none⟩) t.d.length t.d.length, .slice (some ⟨g3, 0, none⟩) t.x.length t.x.length]) ∧ NewT w' w.heap.size g1 g2 g3 t ∧ Ext w w' := by
  obtain ⟨l, d, x⟩ := t
  obtain ⟨b1, b2, b3⟩ := hs
  obtain ⟨h1, h2, h3⟩ := h
  replace h1 : Ints w A1 c1 l := h1
  replace h2 : Ints w A2 c2 d := h2
  replace h3 : Ints w A3 c3 x := h3
  simp only
  dsimp only at b1 b2 b3
  obtain ⟨n1, e1⟩ : ∃ n, n = l.length := ⟨_, rfl⟩
  obtain ⟨n2, e2⟩ : ∃ n, n = d.length := ⟨_, rfl⟩
  obtain ⟨n3, e3⟩ : ∃ n, n = x.length := ⟨_, rfl⟩
  rw [← e1, ← e2, ← e3]
  rw [← e1] at b1
  rw [← e2] at b2
  rw [← e3] at b3
  have H1 := hide h1
  have H2 := hide h2
  have H3 := hide h3
  have E1 := hide e1
  have E2 := hide e2
  have E3 := hide e3
  clear h1 h2 h3 e1 e2 e3
  go_enter Try.func68, Try.ntmps68
  go_wp2_with fail
  refine (toIntS_calls _ _ _ l _ E1.out (H1.out.ext (((Ext.refl _).alloc _).alloc _ |>.alloc _)) b1).mono ?_
  rintro e w1 ⟨rfl, k1, x1, s1⟩
  obtain ⟨hc1, hf1⟩ := x1.rules
  simp at s1
  have hsa1 : w.heap.size < w1.heap.size := by omega
  have hsb1 : w.heap.size + 1 < w1.heap.size := by omega
  have hsc1 : w.heap.size + 1 + 1 < w1.heap.size := by omega
  have X1 : Hid (Ext w w1) := hide (Ext.trans (((Ext.refl _).alloc _).alloc _ |>.alloc _) x1)
  replace s1 := hide s1
  replace k1 := hide k1
  clear x1
  go_wp2_with fail
  refine (toIntS_calls _ _ _ d _ E2.out (H2.out.ext (X1.out.setb (by omega) _)) b2).mono ?_
  rintro e w2 ⟨rfl, k2, x2, s2⟩
  obtain ⟨hc2, hf2⟩ := x2.rules
  simp at s2
  have hsa2 : w.heap.size < w2.heap.size := by omega
  have hsb2 : w.heap.size + 1 < w2.heap.size := by omega
  have hsc2 : w.heap.size + 1 + 1 < w2.heap.size := by omega
  have X2 : Hid (Ext w w2) := hide (Ext.trans (X1.out.setb (by omega) _) x2)
  replace k1 := hide ((k1.out.farb (b := w.heap.size + 1 + 1) (o := 0) (by simp) _).ext x2)
  replace s2 := hide s2
  replace k2 := hide k2
  clear x2
  go_wp2_with fail
  refine (toIntS_calls _ _ _ x _ E3.out (H3.out.ext (X2.out.setb (by omega) _)) b3).mono ?_
  rintro e w3 ⟨rfl, k3, x3, s3⟩
  obtain ⟨hc3, hf3⟩ := x3.rules
  simp at s3
  have hsa3 : w.heap.size < w3.heap.size := by omega
  have hsb3 : w.heap.size + 1 < w3.heap.size := by omega
  have hsc3 : w.heap.size + 1 + 1 < w3.heap.size := by omega
  have X3 : Hid (Ext w w3) := hide (Ext.trans (X2.out.setb (by omega) _) x3)
  replace s3 := hide s3
  replace k3 := hide k3
  have S1 := s1.out
  replace k1 := hide ((k1.out.farb (b := w.heap.size + 1 + 1) (o := 1) (by simp) _).ext x3)
  replace k2 := hide ((k2.out.farb (b := w.heap.size + 1 + 1) (o := 1) (by simp; omega) _).ext x3)
  clear x3 S1
  go_wp2_with fail
  refine bodyPost_ret (v := .agg #[.slice (some ⟨w.heap.size + 1 + 1 + 1, 0, none⟩) n1 n1, .slice (some ⟨w1.heap.size, 0, none⟩) n2 n2, .slice (some ⟨w2.heap.size, 0, none⟩) n3 n3]) (by simp only [results, Try.results68]; go_simp) rfl ?_
  have S1 := s1.out; have S2 := s2.out; have S3 := s3.out
  have K1 := k1.out; have K2 := k2.out; have K3 := k3.out; have XX := X3.out
  clear hc1 hc2 hc3 hf1 hf2 hf3
  simp at K1 K2 K3
  refine ⟨_, _, _, rfl, ⟨by omega, by omega, by omega, ?_, ?_, ?_⟩, ?_⟩
  · repeat (first | (with_reducible exact K1) | (with_reducible refine Blk.farb ?_ (by omega) _))
  · repeat (first | (with_reducible exact K2) | (with_reducible refine Blk.farb ?_ (by omega) _))
  · repeat (first | (with_reducible exact K3) | (with_reducible refine Blk.farb ?_ (by omega) _))
  · repeat (first | (with_reducible exact XX) | (with_reducible refine Ext.setb ?_ (by omega) _))

theorem ten_info : (Try.prog.info? 57).map (fun i => (i.zero, i.size, i.bytes)) = some (some (.agg #[.slice none 0 0, .slice none 0 0, .slice none 0 0]), 3, 72) := by kernel_rfl

theorem made_tens (n : Nat) : madeCells (Value.cells (.agg #[.slice none 0 0, .slice none 0 0, .slice none 0 0])) (n * 3) = (List.replicate (n * 3) (Value.slice none 0 0)).toArray := by
  apply Array.ext_getElem?
  intro i
  simp only [madeCells, Value.cells]
  by_cases h : i < n * 3
  · have e : i % 3 = 0 ∨ i % 3 = 1 ∨ i % 3 = 2 := by omega
    rcases e with e | e | e <;> simp [h, e]
  · simp [h]

/-- make([]impl.Tensor, n). -/
theorem make_tens (n : Nat) (hn : n ≤ 1048576) (w : World) : (Instr.makeSlice 27 (.int .i64 (n : Int)) (.int .i64 (n : Int))).run Try.prog w =
    .ok (.slice (some ⟨w.heap.size, 0, none⟩) n n) (w.alloc (.cells (List.replicate (n * 3) (Value.slice none 0 0)).toArray 57)) := by
  obtain ⟨i, hi, hz, hs, hb⟩ := info_parts ten_info
  have := run_make (P := Try.prog) w 27 57 i _ Try.underlying27 hi hz .i64 .i64 n n (by omega) (by omega) (by rw [hb]; omega) (by omega)
  rw [this, hs]
  simp only [Int.toNat_natCast]
  rw [made_tens]

set_option maxHeartbeats 1000000 in
theorem toTensorS_calls (A : Option Addr) (n c : Nat) (ts : List Ten) (w : World) (hn : n = ts.length) (h : Tens w A c ts) (hb : n ≤ 1048576) (hs : ∀ t ∈ ts, t.small) :
    Calls Try.prog 33 #[.slice A n c] w fun e w' => e = .returned (.slice (some ⟨w.heap.size, 0, none⟩) n n) ∧ ∃ gs, CopyTs w' w.heap.size gs ts ∧ Ext w w' := by
  obtain ⟨hl, hc, hr⟩ := h
  have hmk := make_tens n hb
  have hn1 : n ≤ ts.length := by omega
  have hn2 : ts.length ≤ n := by omega
  replace hn := hide hn
  go_enter Try.func33, Try.ntmps33
  go_wp2_with fail
  go_loopw [4] (fun i wr => ∃ k : Nat, k ≤ n ∧ i = .int .i64 k ∧ ∃ gs, Blk wr w.heap.size 57 (tcells (newVs gs (ts.take k)) ++ List.replicate ((n - k) * 3) (Value.slice none 0 0)).toArray ∧ NewTs wr (w.heap.size + 1) gs (ts.take k) ∧ (∀ x ∈ gs, x.2.2 < wr.heap.size) ∧ Ext w wr ∧ w.heap.size + 1 ≤ wr.heap.size) (fun i _ => n - (intOf i).toNat)
  case atStart => exact ⟨0, by omega, rfl, [], by simpa [tcells, newVs, flat3] using Blk.new w 57 _, trivial, by simp, (Ext.refl _).alloc _, by simp⟩
  case round =>
    obtain ⟨k, hk, rfl, gs, hbk, hts, hgs, hx, hsz⟩ := hrel
    by_cases hlt : k < n
    · obtain ⟨b, o, rfl, hb, hc⟩ := hr k (by omega)
      obtain ⟨⟨A1, c1, A2, c2, A3, c3⟩, ht, h1, h2, h3⟩ := hc k (by omega)
      have hck1 := hx.cell h1
      have hck2 := hx.cell h2
      have hck3 := hx.cell h3
      have hT := hide (ht.ext hx)
      have hS := hide (hs ts[k] (List.getElem_mem _))
      have hbr : b < wr.heap.size := by have := hx.size; omega
      have HB := hide hbk
      have HX := hide hx
      have HT := hide hts
      have HG := hide hgs
      have hzl : w.heap.size < wr.heap.size := by omega
      clear hr hc hbk hx hts hgs hmk ht h1 h2 h3
      go_wp2_with fail
      refine (toTensor_calls _ _ _ _ _ _ ts[k] _ hT.out hS.out).mono ?_
      rintro e w1 ⟨g1, g2, g3, rfl, k1, x1⟩
      have hB1 := HB.out.ext x1
      have hl1 : (newVs gs (ts.take k)).length = k := by
        rw [newVs_length HT.out.length]; simp; omega
      have f0 : w1.frozen? ⟨w.heap.size, k * 3, none⟩ = false := hB1.frozen _
      have f1 : w1.frozen? ⟨w.heap.size, k * 3 + 1, none⟩ = false := hB1.frozen _
      have f2 : w1.frozen? ⟨w.heap.size, k * 3 + 2, none⟩ = false := hB1.frozen _
      have old : ∀ i, i < n * 3 → k * 3 ≤ i → w1.cell? ⟨w.heap.size, i, none⟩ = some (Value.slice none 0 0) := fun i hi hi' => by
        rw [hB1.cell, List.getElem?_toArray, List.getElem?_append_right (by rw [tcells_length, hl1]; omega), tcells_length, hl1, List.getElem?_replicate, if_pos (by omega)]
      have o0 := old (k * 3) (by omega) (by omega)
      have o1 := old (k * 3 + 1) (by omega) (by omega)
      have o2 := old (k * 3 + 2) (by omega) (by omega)
      replace hB1 := hide hB1
      replace k1 := hide k1
      replace x1 := hide x1
      replace hl1 := hide hl1
      clear old
      have hz1 : w.heap.size < w1.heap.size := Nat.lt_of_lt_of_le hzl x1.out.size
      go_wp2_with fail
      go_roundw
      case rel =>
        have hg := k1.out
        have hX := x1.out
        have hL := hl1.out
        have hzz := hX.size
        refine ⟨k + 1, by omega, by go_num, gs ++ [(g1, g2, g3)], ?_, ?_, ?_, ?_, ?_⟩
        · have h1 := ((hB1.out.set_ (k * 3) (.slice (some ⟨g1, 0, none⟩) ts[k].l.length ts[k].l.length)).set_ (k * 3 + 1) (.slice (some ⟨g2, 0, none⟩) ts[k].d.length ts[k].d.length)).set_ (k * 3 + 2) (.slice (some ⟨g3, 0, none⟩) ts[k].x.length ts[k].x.length)
          rw [show n - k = n - (k + 1) + 1 by omega, tcells_store (newVs gs (ts.take k)) (newTR g1 g2 g3 ts[k], ts[k]) (n - (k + 1)) k hL (.slice (some ⟨g1, 0, none⟩) ts[k].l.length ts[k].l.length) (.slice (some ⟨g2, 0, none⟩) ts[k].d.length ts[k].d.length) (.slice (some ⟨g3, 0, none⟩) ts[k].x.length ts[k].x.length) rfl rfl rfl, ← newVs_snoc HT.out.length (g1, g2, g3) ts[k], ← List.take_succ_eq_append_getElem (show k < ts.length by omega)] at h1
          exact h1
        · have h1 := HT.out.ext hX
          rw [List.take_succ_eq_append_getElem (show k < ts.length by omega)]
          refine NewTs.farb (NewTs.farb (NewTs.farb (h1.snoc (g := (g1, g2, g3)) (by have := hg.h0; simp only; omega) (fun x hx => by have := HG.out x hx; have := hg.h0; simp only; omega) ?_) ?_ _) ?_ _) ?_ _
          · exact ⟨Nat.le_refl _, hg.h1, hg.h2, hg.b1, hg.b2, hg.b3⟩
          · omega
          · omega
          · omega
        · intro x hx
          have h3 := hg.b3.lt
          rcases List.mem_append.1 hx with hx | hx
          · have := HG.out x hx; simp only [World.size_setCell]; omega
          · simp at hx; subst hx; simp only [World.size_setCell]; omega
        · exact ((((HX.out.trans hX).setb (Nat.le_refl _) _).setb (Nat.le_refl _) _).setb (Nat.le_refl _) _)
        · simp only [World.size_setCell]; omega
      case measure => simp [intOf]; omega
    · have HB := hide hbk
      have HX := hide hx
      have HT := hide hts
      clear hr hbk hx hts hgs hmk
      go_wp2_with fail
      go_ret
      refine ⟨rfl, gs, ⟨?_, ?_⟩, HX.out⟩
      · have := HB.out
        rw [show k = n by omega, List.take_of_length_le hn2] at this
        simpa using this
      · have := HT.out
        rw [show k = n by omega, List.take_of_length_le hn2] at this
        exact this

end Go.Proofs.Ytkilgbdkekpnpaa
