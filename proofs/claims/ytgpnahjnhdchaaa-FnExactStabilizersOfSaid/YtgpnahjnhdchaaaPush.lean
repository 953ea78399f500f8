/- One gate pushed through a Pauli operator: of the program and of the reference, one value for both. -/
import Derived.Test.YtgpnahjnhdchaaaGate
import Derived.WalkLawsBesides
import Derived.Deep.QuietTactic
import Derived.BigQuiet
namespace Go.Proofs.Ytgpnahjnhdchaaa
open Go.RowKit

/-- The world under one name. -/
theorem wp_name {P : Program} {c : Code} {Q : Exit → Act → World → Prop} {a : Act} {W : World} (h : ∀ w1, w1 = W → c.wp P Q a w1) : c.wp P Q a W := h W rfl

structure Pl where
  x : Int
  z : Int
  s : Int
def andI (a b : Int) : Int := bits BinOp.and IntKind.i64 a b
def xorI (a b : Int) : Int := bits BinOp.xor IntKind.i64 a b
def bitI (x a : Int) : Int := andI (x / 2 ^ a.toNat) 1
def shlI (x a : Int) : Int := wrap64 (x * 2 ^ a.toNat)

def pushX (a : Int) (u : Pl) : Pl := ⟨u.x, u.z, xorI u.s (bitI u.z a)⟩
def pushZ (a : Int) (u : Pl) : Pl := ⟨u.x, u.z, xorI u.s (bitI u.x a)⟩
def pushS (a : Int) (u : Pl) : Pl := ⟨u.x, xorI u.z (shlI (bitI u.x a) a), xorI u.s (andI (bitI u.x a) (bitI u.z a))⟩
def pushH (a : Int) (u : Pl) : Pl := ⟨xorI u.x (shlI (xorI (bitI u.x a) (bitI u.z a)) a), xorI u.z (shlI (xorI (bitI u.x a) (bitI u.z a)) a), xorI u.s (andI (bitI u.x a) (bitI u.z a))⟩
def pushC (a b : Int) (u : Pl) : Pl :=
  ⟨xorI u.x (shlI (bitI u.x a) b), xorI u.z (shlI (bitI u.z b) a), xorI u.s (andI (andI (bitI u.x a) (bitI u.z b)) (xorI (xorI 1 (bitI u.x b)) (bitI u.z a)))⟩
/-- A gate of a Clifford circuit pushed through. -/
def pushG (g : Gt) (u : Pl) : Pl :=
  if g.k = 1 then pushX g.a u else if g.k = 2 then pushZ g.a u else if g.k = 3 then pushS g.a u else if g.k = 5 then pushH g.a u
  else if g.k = 6 then pushS g.a (pushS g.a (pushS g.a u)) else if g.k = 8 then pushC g.a g.b u
  else if g.k = 9 then pushH g.b (pushC g.a g.b (pushH g.b u)) else u

/-- The boxes of a push: the operator's (block u), the gate's (block g), the result's (block r). -/
structure PBox (w : World) (u g r : Nat) (p : Pl) (k a b : Int) : Prop where
  u : Blk w u 28 #[.int .i64 p.x, .int .i64 p.z, .int .i64 p.s]
  g : Blk w g 67 #[.int .i64 k, .int .i64 a, .int .i64 b]
  r : Blk w r 28 #[.int .i64 0, .int .i64 0, .int .i64 0]

theorem PBox.all {w : World} {u g r : Nat} {p : Pl} {k a b : Int} (h : PBox w u g r p k a b) :
    (w.cell? ⟨u, 0, none⟩ = some (.int .i64 p.x) ∧ w.cell? ⟨u, 1, none⟩ = some (.int .i64 p.z) ∧ w.cell? ⟨u, 2, none⟩ = some (.int .i64 p.s)) ∧
    (w.frozen? ⟨u, 0, none⟩ = false ∧ w.frozen? ⟨u, 1, none⟩ = false ∧ w.frozen? ⟨u, 2, none⟩ = false) ∧
    (w.cell? ⟨g, 0, none⟩ = some (.int .i64 k) ∧ w.cell? ⟨g, 1, none⟩ = some (.int .i64 a) ∧ w.cell? ⟨g, 2, none⟩ = some (.int .i64 b)) ∧
    (w.cell? ⟨r, 0, none⟩ = some (.int .i64 0) ∧ w.cell? ⟨r, 1, none⟩ = some (.int .i64 0) ∧ w.cell? ⟨r, 2, none⟩ = some (.int .i64 0)) ∧
    (w.frozen? ⟨r, 0, none⟩ = false ∧ w.frozen? ⟨r, 1, none⟩ = false ∧ w.frozen? ⟨r, 2, none⟩ = false) ∧ u < w.heap.size ∧ g < w.heap.size ∧ r < w.heap.size := by
  have h0 := h.u.cell 0; have h1 := h.u.cell 1; have h2 := h.u.cell 2
  have g0 := h.g.cell 0; have g1 := h.g.cell 1; have g2 := h.g.cell 2
  have r0 := h.r.cell 0; have r1 := h.r.cell 1; have r2 := h.r.cell 2
  simp at h0 h1 h2 g0 g1 g2 r0 r1 r2
  exact ⟨⟨h0, h1, h2⟩, ⟨h.u.frozen 0, h.u.frozen 1, h.u.frozen 2⟩, ⟨g0, g1, g2⟩, ⟨r0, r1, r2⟩, ⟨h.r.frozen 0, h.r.frozen 1, h.r.frozen 2⟩, h.u.lt, h.g.lt, h.r.lt⟩

theorem PBox.drewN {w : World} {u g r : Nat} {p : Pl} {k a b : Int} (h : PBox w u g r p k a b) (n : Nat) : PBox (w.drewN n) u g r p k a b := ⟨h.u.drewN n, h.g.drewN n, h.r.drewN n⟩
theorem PBox.drew {w : World} {u g r : Nat} {p : Pl} {k a b : Int} (h : PBox w u g r p k a b) : PBox w.drew u g r p k a b := ⟨h.u.drew, h.g.drew, h.r.drew⟩
theorem PBox.ext {w w' : World} {u g r : Nat} {p : Pl} {k a b : Int} (h : PBox w u g r p k a b) (hx : Ext w w') : PBox w' u g r p k a b := ⟨h.u.ext hx, h.g.ext hx, h.r.ext hx⟩
theorem PBox.set0 {w : World} {u g r : Nat} {p : Pl} {k a b : Int} (h : PBox w u g r p k a b) (h1 : g ≠ u) (h2 : r ≠ u) (v : Int) : PBox (w.setCell ⟨u, 0, none⟩ (.int .i64 v)) u g r ⟨v, p.z, p.s⟩ k a b := ⟨h.u.set_ 0 _, h.g.farb h1 _, h.r.farb h2 _⟩
theorem PBox.set1 {w : World} {u g r : Nat} {p : Pl} {k a b : Int} (h : PBox w u g r p k a b) (h1 : g ≠ u) (h2 : r ≠ u) (v : Int) : PBox (w.setCell ⟨u, 1, none⟩ (.int .i64 v)) u g r ⟨p.x, v, p.s⟩ k a b := ⟨h.u.set_ 1 _, h.g.farb h1 _, h.r.farb h2 _⟩
theorem PBox.set2 {w : World} {u g r : Nat} {p : Pl} {k a b : Int} (h : PBox w u g r p k a b) (h1 : g ≠ u) (h2 : r ≠ u) (v : Int) : PBox (w.setCell ⟨u, 2, none⟩ (.int .i64 v)) u g r ⟨p.x, p.z, v⟩ k a b := ⟨h.u.set_ 2 _, h.g.farb h1 _, h.r.farb h2 _⟩

end Go.Proofs.Ytgpnahjnhdchaaa
