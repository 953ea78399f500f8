/- Calls that store into some old blocks alone. -/
import Derived.Test.YtpllghhgndfkhaaBase
namespace Go.Proofs.Ytpllghhgndfkhaa
open Go.RowKit

/-- Of what was there only the blocks of S have turned. -/
structure Chg (S : Nat → Prop) (w w' : World) : Prop where
  os : w'.os = w.os
  tape : w'.tape = w.tape
  output : w'.output = w.output
  size : w.heap.size ≤ w'.heap.size
  block : ∀ g, g < w.heap.size → ¬ S g → w'.heap[g]? = w.heap[g]?

section
variable {S : Nat → Prop} {w w' w'' : World}
theorem Chg.refl (S : Nat → Prop) (w : World) : Chg S w w := ⟨rfl, rfl, rfl, Nat.le_refl _, fun _ _ _ => rfl⟩
theorem Chg.trans (h : Chg S w w') (k : Chg S w' w'') : Chg S w w'' := ⟨k.os.trans h.os, k.tape.trans h.tape, k.output.trans h.output, Nat.le_trans h.size k.size, fun g hg hs => (k.block g (Nat.lt_of_lt_of_le hg h.size) hs).trans (h.block g hg hs)⟩
theorem Chg.mono {T : Nat → Prop} (h : Chg S w w') (hST : ∀ g, S g → T g) : Chg T w w' := ⟨h.os, h.tape, h.output, h.size, fun g hg hs => h.block g hg fun hh => hs (hST g hh)⟩
theorem Ext.chg (h : Ext w w') (S : Nat → Prop) : Chg S w w' := ⟨h.os, h.tape, h.output, h.size, fun g hg _ => Below.block (Ext.below h) g hg⟩
theorem Chg.setb (h : Chg S w w') {g o : Nat} (hs : S g ∨ w.heap.size ≤ g) (v : Value) : Chg S w (w'.setCell ⟨g, o, none⟩ v) :=
  ⟨h.os, h.tape, h.output, by simpa using h.size, fun b hb hn => (Below.heap_setCell w' ⟨g, o, none⟩ v b (by rcases hs with hs | hs; · exact fun e => hn (e ▸ hs)
                                                                                                             · exact fun (e : b = g) => by omega)).trans (h.block b hb hn)⟩
theorem Chg.ext {W : World} (h : Chg S w w') (hW : Ext W w) (hS : ∀ g, S g → W.heap.size ≤ g) : Ext W w' :=
  ⟨h.os.trans hW.os, h.tape.trans hW.tape, h.output.trans hW.output, Nat.le_trans hW.size h.size, fun g hg => (h.block g (Nat.lt_of_lt_of_le hg hW.size) (fun hs => by have := hS g hs; omega)).trans (Below.block (Ext.below hW) g hg)⟩
theorem Blk.chg {g : Nat} {t : TypeId} {cs : Array Value} (h : Blk w g t cs) (hb : Chg S w w') (hS : ¬ S g) : Blk w' g t cs := (hb.block g h.lt hS).trans h
theorem ownsRow_chg {lo : Nat} {e : TypeId} {size : Nat} {A : Option Addr} {n c : Nat} {xs : List Value} (h : w.ownsRow lo e size (.slice A n c) n xs) (hb : Chg S w w') (hS : ∀ g, A = some ⟨g, 0, none⟩ → ¬ S g) : w'.ownsRow lo e size (.slice A n c) n xs := by
  refine ⟨h.1, ?_⟩
  rcases h.2 with hn | ⟨g, cap, cur, he, h1, h2, rest⟩
  · exact .inl hn
  · refine .inr ⟨g, cap, cur, he, h1, ?_, rest⟩
    simp only [Value.slice.injEq] at he
    exact Blk.chg (t := e) (cs := cur) h2 hb (hS g he.1)
theorem ownsRow_lt {lo : Nat} {e : TypeId} {size : Nat} {A : Option Addr} {n c : Nat} {xs : List Value} (h : w.ownsRow lo e size (.slice A n c) n xs) : ∀ g, A = some ⟨g, 0, none⟩ → lo ≤ g ∧ g < w.heap.size := fun g hg => World.ownsRow.lt h g (by rw [hg]; rfl)
end

end Go.Proofs.Ytpllghhgndfkhaa
