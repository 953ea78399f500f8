/- Words for memory used by all walks of this seat: slices of integers that are read, rows of a call's own, what a call leaves alone. -/
import Derived.Test.YtpllghhgndfkhaaProg
import Derived.WalkKit
import Derived.WalkSpells
import Derived.Deep.Draws
namespace Go.Proofs.Ytpllghhgndfkhaa
open Go.RowKit

theorem hide {p : Prop} (h : p) : Hid p := h

/-- The slice with address A and capacity c reads as the integers xs. -/
structure Ints (w : World) (A : Option Addr) (c : Nat) (xs : List Int) : Prop where
  le : xs.length ≤ c
  cap : c ≤ 9223372036854775807
  at_ : ∀ k, k < xs.length → ∃ b o, A = some ⟨b, o, none⟩ ∧ b < w.heap.size ∧ ∀ j (h : j < xs.length), w.cell? ⟨b, o + j, none⟩ = some (.int .i64 xs[j])

/-- Nothing that was there has turned. -/
def Ext (w w' : World) : Prop := Below w.heap.size w w'

theorem Ext.refl (w : World) : Ext w w := Below.refl _ _
theorem Ext.trans {a b c : World} (h : Ext a b) (k : Ext b c) : Ext a c := Below.trans h (Below.mono k h.size)
theorem Ext.alloc {a b : World} (h : Ext a b) (o : Obj) : Ext a (b.alloc o) := Below.alloc h h.size o
theorem Ext.drew {a b : World} (h : Ext a b) : Ext a b.drew := Below.drew h
theorem Ext.drewN {a b : World} (h : Ext a b) (n : Nat) : Ext a (b.drewN n) := ⟨h.os, h.tape, h.output, h.size, h.block⟩
theorem Ext.setCell {a b : World} (h : Ext a b) {p : Addr} (hp : a.heap.size ≤ p.block) (u : Value) : Ext a (b.setCell p u) := Below.setCell h hp u
theorem Ext.setb {a b : World} (h : Ext a b) {g o : Nat} (hp : a.heap.size ≤ g) (u : Value) : Ext a (b.setCell ⟨g, o, none⟩ u) := Below.setCell h hp u
theorem Ext.below {a b : World} (h : Ext a b) : Below a.heap.size a b := h
theorem Ext.size {a b : World} (h : Ext a b) : a.heap.size ≤ b.heap.size := Below.size h

theorem Ext.cell {w w' : World} (h : Ext w w') {a : Addr} {v : Value} (hc : w.cell? a = some v) : w'.cell? a = some v :=
  (Below.cell h (World.block_lt_of_cell? w a hc)).trans hc

/-- Two rules for the walk behind a call: old cells and old marks read as before. -/
theorem Ext.rules {W w1 : World} (hb : Ext W w1) : (∀ b o, b < W.heap.size → w1.cell? ⟨b, o, none⟩ = W.cell? ⟨b, o, none⟩) ∧ (∀ b o, b < W.heap.size → w1.frozen? ⟨b, o, none⟩ = W.frozen? ⟨b, o, none⟩) :=
  ⟨fun b o h => hb.below.cell (p := ⟨b, o, none⟩) h, fun b o h => hb.below.frozen (p := ⟨b, o, none⟩) h⟩

theorem Ext.block {w w' : World} (h : Ext w w') {g : Nat} {o : Obj} (hc : w.heap[g]? = some o) : w'.heap[g]? = some o :=
  (Below.block h g (Array.getElem?_eq_some_iff.1 hc).1).trans hc

theorem Ints.ext {w w' : World} {A : Option Addr} {c : Nat} {xs : List Int} (h : Ints w A c xs) (hb : Ext w w') : Ints w' A c xs := ⟨h.le, h.cap, fun k hk =>
  let ⟨b, o, e, hlt, hc⟩ := h.at_ k hk
  ⟨b, o, e, Nat.lt_of_lt_of_le hlt hb.size, fun j hj => hb.cell (hc j hj)⟩⟩

theorem Ints.nil (w : World) (A : Option Addr) (c : Nat) (hc : c ≤ 9223372036854775807) : Ints w A c [] := ⟨by simp, hc, fun k hk => absurd hk (by simp)⟩

/-- A call that makes memory at most, and gives v. -/
def Gives (P : Program) (f : FuncId) (args : Array Value) (w : World) (v : Value) : Prop := Calls P f args w fun e w' => e = .returned v ∧ Ext w w'

theorem Gives.use {P : Program} {f : FuncId} {args : Array Value} {w : World} {v : Value} (h : Gives P f args w v) {R : Ending → World → Prop} (hR : ∀ w', Ext w w' → R (.returned v) w') : Calls P f args w R :=
  h.mono fun e w' ⟨he, hw⟩ => by rw [he]; exact hR w' hw

/-- A call that turns nothing at all, and gives v. -/
def Same (P : Program) (f : FuncId) (args : Array Value) (w : World) (v : Value) : Prop := Calls P f args w fun e w' => e = .returned v ∧ w = w'

theorem Same.use {P : Program} {f : FuncId} {args : Array Value} {w : World} {v : Value} (h : Same P f args w v) {R : Ending → World → Prop} (hR : R (.returned v) w) : Calls P f args w R :=
  h.mono fun e w' ⟨he, hw⟩ => by rw [he, ← hw]; exact hR

theorem Same.gives {P : Program} {f : FuncId} {args : Array Value} {w : World} {v : Value} (h : Same P f args w v) : Gives P f args w v :=
  h.mono fun _ _ ⟨he, hw⟩ => ⟨he, hw ▸ Ext.refl _⟩

theorem ret_int {k : IntKind} {a b : Int} (h : a = b) : Ending.returned (.int k a) = .returned (.int k b) := by rw [h]
theorem ret_bool {a b : Bool} (h : a = b) : Ending.returned (.bool a) = .returned (.bool b) := by rw [h]

/-- A slice cut behind: the same address. -/
theorem Ints.take {w : World} {A : Option Addr} {c : Nat} {xs : List Int} (h : Ints w A c xs) (n : Nat) : Ints w A c (xs.take n) := ⟨by have := List.length_take_le' n xs; have := h.le; omega, h.cap, fun k hk => by
  have hk' : k < xs.length := by have := List.length_take_le' n xs; omega
  obtain ⟨b, o, e, hb, hc⟩ := h.at_ k hk'
  refine ⟨b, o, e, hb, fun j hj => ?_⟩
  have hj' : j < xs.length := by have := List.length_take_le' n xs; omega
  rw [hc j hj']
  simp⟩

/-! ### Rows of a call's own -/

/-- Block g is just the cells cs of element type t, none frozen. -/
def Blk (w : World) (g : Nat) (t : TypeId) (cs : Array Value) : Prop := w.heap[g]? = some (.cells cs t (0, 0))

section
variable {w w' : World} {g : Nat} {t : TypeId} {cs : Array Value}
theorem Blk.lt (h : Blk w g t cs) : g < w.heap.size := (Array.getElem?_eq_some_iff.1 h).1
theorem Blk.cell (h : Blk w g t cs) (i : Nat) : w.cell? ⟨g, i, none⟩ = cs[i]? := cell_of_row w g i cs t (0, 0) h
theorem Blk.frozen (h : Blk w g t cs) (i : Nat) : w.frozen? ⟨g, i, none⟩ = false := by
  unfold Blk at h
  simp [World.frozen?, h]
theorem Blk.new (w : World) (t : TypeId) (cs : Array Value) : Blk (w.alloc (.cells cs t)) w.heap.size t cs := heap_alloc_new w _
theorem Blk.set_ (h : Blk w g t cs) (i : Nat) (u : Value) : Blk (w.setCell ⟨g, i, none⟩ u) g t (cs.setIfInBounds i u) := by
  unfold Blk at h ⊢
  simp [World.setCell, Array.getElem?_modify, h]
theorem Blk.far (h : Blk w g t cs) {p : Addr} (hp : g ≠ p.block) (u : Value) : Blk (w.setCell p u) g t cs := (Below.heap_setCell w p u g hp).trans h
theorem Blk.farb (h : Blk w g t cs) {b o : Nat} (hp : g ≠ b) (u : Value) : Blk (w.setCell ⟨b, o, none⟩ u) g t cs := h.far (p := ⟨b, o, none⟩) hp u
theorem Blk.alloc (h : Blk w g t cs) (o : Obj) : Blk (w.alloc o) g t cs := (Below.heap_alloc w o g h.lt).trans h
theorem Blk.drew (h : Blk w g t cs) : Blk w.drew g t cs := h
theorem Blk.drewN (h : Blk w g t cs) (n : Nat) : Blk (w.drewN n) g t cs := h
theorem Blk.ext (h : Blk w g t cs) (hb : Ext w w') : Blk w' g t cs := hb.block h
theorem Blk.grown {row : Option Nat} (h : Blk w g t cs) (hb : w.grownBy w' row) (hg : some g ≠ row) : Blk w' g t cs := (hb.block g h.lt hg).trans h
end

/-- The cells of a list of integers. -/
def ints (xs : List Int) : Array Value := (xs.map (Value.int .i64)).toArray
theorem ints_size (xs : List Int) : (ints xs).size = xs.length := by simp [ints]
theorem ints_at {xs : List Int} {k : Nat} (h : k < xs.length) : (ints xs)[k]? = some (.int .i64 xs[k]) := by simp [ints, h]
theorem ints_set (xs : List Int) (k : Nat) (v : Int) : (ints xs).setIfInBounds k (.int .i64 v) = ints (xs.set k v) := by
  simp [ints, List.map_set]
theorem ints_toList (xs : List Int) : (ints xs).toList = xs.map (Value.int .i64) := by simp [ints]

/-- The slice with address A and capacity c is the call's own (blocks from lo on), and holds the integers xs. -/
def OwnI (w : World) (lo : Nat) (A : Option Addr) (c : Nat) (xs : List Int) : Prop := w.ownsRow lo 3 1 (.slice A xs.length c) xs.length (xs.map (Value.int .i64))

section
variable {w w' : World} {lo : Nat} {A : Option Addr} {c : Nat} {xs : List Int}
theorem OwnI.cases (h : OwnI w lo A c xs) : (A = none ∧ c = 0 ∧ xs = []) ∨ ∃ g cur, A = some ⟨g, 0, none⟩ ∧ lo ≤ g ∧ Blk w g 3 cur ∧ xs.length ≤ c ∧ c ≤ maxLen ∧ cur.size = c ∧ cur.toList.take xs.length = xs.map (Value.int .i64) := by
  obtain ⟨_, h⟩ := h
  rcases h with ⟨h, hn⟩ | ⟨g, cap, cur, h, h1, h2, h3, h4, h5, h6⟩
  · simp only [Value.slice.injEq] at h
    exact .inl ⟨h.1, h.2.2, List.eq_nil_of_length_eq_zero hn⟩
  · simp only [Value.slice.injEq] at h
    obtain ⟨rfl, _, rfl⟩ := h
    exact .inr ⟨g, cur, rfl, h1, h2, h3, h4, by omega, by simpa using h6⟩
theorem OwnI.nil (w : World) (lo : Nat) : OwnI w lo none 0 [] := ⟨rfl, .inl ⟨rfl, rfl⟩⟩
theorem OwnI.mk {g : Nat} {cur : Array Value} (h1 : lo ≤ g) (h2 : Blk w g 3 cur) (h3 : xs.length ≤ c) (h4 : c ≤ maxLen) (h5 : cur.size = c) (h6 : cur.toList.take xs.length = xs.map (Value.int .i64)) : OwnI w lo (some ⟨g, 0, none⟩) c xs :=
  ⟨by simp, .inr ⟨g, c, cur, rfl, h1, h2, h3, h4, by omega, by simpa using h6⟩⟩
theorem OwnI.whole {g : Nat} (h1 : lo ≤ g) (h2 : Blk w g 3 (ints xs)) (h4 : xs.length ≤ maxLen) : OwnI w lo (some ⟨g, 0, none⟩) xs.length xs :=
  .mk h1 h2 (Nat.le_refl _) h4 (ints_size _) (by rw [ints_toList, List.take_of_length_le (by simp)])
theorem OwnI.ints (h : OwnI w lo A c xs) : Ints w A c xs := by
  rcases h.cases with ⟨rfl, rfl, rfl⟩ | ⟨g, cur, rfl, h1, h2, h3, h4, h5, h6⟩
  · exact Ints.nil _ _ _ (by omega)
  · refine ⟨h3, by simpa [maxLen] using h4, fun k hk => ⟨g, 0, rfl, h2.lt, fun j hj => ?_⟩⟩
    rw [Nat.zero_add, h2.cell]
    have : (cur.toList.take xs.length)[j]? = some (.int .i64 xs[j]) := by rw [h6]; simp [hj]
    rw [List.getElem?_take_of_lt hj] at this
    simpa using this
theorem OwnI.ext (h : OwnI w lo A c xs) (hb : Ext w w') : OwnI w' lo A c xs := by
  rcases h.cases with ⟨rfl, rfl, rfl⟩ | ⟨g, cur, rfl, h1, h2, h3, h4, h5, h6⟩
  · exact OwnI.nil _ _
  · exact .mk h1 (h2.ext hb) h3 h4 h5 h6
theorem OwnI.mono (h : OwnI w lo A c xs) {lo' : Nat} (hl : lo' ≤ lo) : OwnI w lo' A c xs := by
  rcases h.cases with ⟨rfl, rfl, rfl⟩ | ⟨g, cur, rfl, h1, h2, h3, h4, h5, h6⟩
  · exact OwnI.nil _ _
  · exact .mk (by omega) h2 h3 h4 h5 h6
theorem OwnI.grown {row : Option Nat} (h : OwnI w lo A c xs) (hb : w.grownBy w' row) (hg : ∀ g, A = some ⟨g, 0, none⟩ → some g ≠ row) : OwnI w' lo A c xs := by
  rcases h.cases with ⟨rfl, rfl, rfl⟩ | ⟨g, cur, rfl, h1, h2, h3, h4, h5, h6⟩
  · exact OwnI.nil _ _
  · exact .mk h1 (h2.grown hb (hg g rfl)) h3 h4 h5 h6
end

end Go.Proofs.Ytpllghhgndfkhaa
