/- Rows of Pauli operators of a call's own, and the laws' functions on them. -/
import Derived.Test.YtgpnahjnhdchaaaPushP
import Derived.Maps.AppendAt
import Derived.Laws.OwnMore
import Derived.OwnWalk
namespace Go.Proofs.Ytgpnahjnhdchaaa
open Go.RowKit

def pcell (u : Pl) : Value × Value × Value := (.int .i64 u.x, .int .i64 u.z, .int .i64 u.s)
def pcells (us : List Pl) : List Value := flat3 (us.map pcell)
theorem pcells_length (us : List Pl) : (pcells us).length = us.length * 3 := by rw [pcells, flat3_length]; simp
theorem pcells_snoc (us : List Pl) (u : Pl) : pcells (us ++ [u]) = pcells us ++ [.int .i64 u.x, .int .i64 u.z, .int .i64 u.s] := by
  simp [pcells, flat3, pcell]
theorem pcells_at (us : List Pl) (j : Nat) (h : j < us.length) : (pcells us)[j * 3]? = some (.int .i64 us[j].x) ∧ (pcells us)[j * 3 + 1]? = some (.int .i64 us[j].z) ∧ (pcells us)[j * 3 + 2]? = some (.int .i64 us[j].s) := by
  have := flat3_at (us.map pcell) j (by simpa using h)
  simpa [pcells, pcell] using this

/-- The slice with address A and capacity c is the call's own (blocks from lo on), and holds the operators us. -/
def OwnP (w : World) (lo : Nat) (A : Option Addr) (c : Nat) (us : List Pl) : Prop := w.ownsRow lo 28 3 (.slice A us.length c) us.length (pcells us)

section
variable {w w' : World} {lo : Nat} {A : Option Addr} {c : Nat} {us : List Pl}
theorem OwnP.nil (w : World) (lo : Nat) : OwnP w lo none 0 [] := World.ownsRow_nil w lo _ _
theorem OwnP.lit (w : World) {lo : Nat} (h : lo ≤ w.heap.size) : OwnP (w.alloc (.cells #[] 28)) lo (some ⟨w.heap.size, 0, none⟩) 0 [] := World.ownsRow_lit w #[] 0 h (by simp) (by simp)
theorem OwnP.ext (h : OwnP w lo A c us) (hb : Ext w w') : OwnP w' lo A c us := by
  unfold OwnP at h ⊢
  refine ⟨h.1, ?_⟩
  rcases h.2 with hn | ⟨g, cap, cur, e, hb', hgg, rest⟩
  · exact .inl hn
  · exact .inr ⟨g, cap, cur, e, hb', hb.block hgg, rest⟩
theorem OwnP.mono (h : OwnP w lo A c us) {lo' : Nat} (hl : lo' ≤ lo) : OwnP w lo' A c us := by
  unfold OwnP at h ⊢
  refine ⟨h.1, ?_⟩
  rcases h.2 with hn | ⟨g, cap, cur, e, hb', hgg, rest⟩
  · exact .inl hn
  · exact .inr ⟨g, cap, cur, e, Nat.le_trans hl hb', hgg, rest⟩
/-- Nothing below lo has turned where a row of the call's own has grown. -/
theorem OwnP.ext_grown (h : OwnP w lo A c us) {W : World} (hW : Ext W w) (hl : W.heap.size ≤ lo) (hg : w.grownBy w' (Value.slice A us.length c).ownBlock) : Ext W w' :=
  ⟨hg.os.trans hW.os, hg.tape.trans hW.tape, hg.output.trans hW.output, Nat.le_trans hW.size hg.size, fun i hi =>
    (hg.block i (Nat.lt_of_lt_of_le hi hW.size) (fun e => by have := (World.ownsRow.lt h i e.symm).1; omega)).trans (Below.block (Ext.below hW) i hi)⟩
/-- The row read: its elements' cells. -/
theorem OwnP.at_ (h : OwnP w lo A c us) (k : Nat) (hk : k < us.length) : ∃ g, A = some ⟨g, 0, none⟩ ∧ lo ≤ g ∧ g < w.heap.size ∧ ∀ j (hj : j < us.length),
    w.cell? ⟨g, j * 3, none⟩ = some (.int .i64 us[j].x) ∧ w.cell? ⟨g, j * 3 + 1, none⟩ = some (.int .i64 us[j].z) ∧ w.cell? ⟨g, j * 3 + 2, none⟩ = some (.int .i64 us[j].s) := by
  unfold OwnP at h
  rcases h.2 with ⟨_, hn⟩ | ⟨g, cap, cur, e, hb', hgg, rest⟩
  · omega
  · simp only [Value.slice.injEq] at e
    obtain ⟨rfl, _, rfl⟩ := e
    refine ⟨g, rfl, hb', (Array.getElem?_eq_some_iff.1 hgg).1, fun j hj => ?_⟩
    obtain ⟨h1, h2, h3⟩ := pcells_at us j hj
    rw [World.ownsRow.cellAt h _ (by omega), World.ownsRow.cellAt h _ (by omega), World.ownsRow.cellAt h _ (by omega)]
    exact ⟨h1, h2, h3⟩
theorem OwnP.len (h : OwnP w lo A c us) : us.length ≤ c ∧ c ≤ 9223372036854775807 := by
  unfold OwnP at h
  rcases h.2 with ⟨e, hn⟩ | ⟨g, cap, cur, e, hb', hgg, h1, h2, _⟩
  · simp only [Value.slice.injEq] at e
    omega
  · simp only [Value.slice.injEq] at e
    simp only [maxLen] at h2
    omega
end

theorem blk_ext {w w' : World} {g : Nat} {t : TypeId} {cs : Array Value} (hb : Ext w w') (h : Blk w g t cs) : Blk w' g t cs := h.ext hb
theorem blk3 {w : World} {b : Nat} {t : TypeId} {v0 v1 v2 : Value} (h : Blk w b t #[v0, v1, v2]) :
    w.cell? ⟨b, 0, none⟩ = some v0 ∧ w.cell? ⟨b, 1, none⟩ = some v1 ∧ w.cell? ⟨b, 2, none⟩ = some v2 ∧ w.frozen? ⟨b, 0, none⟩ = false ∧ w.frozen? ⟨b, 1, none⟩ = false ∧ w.frozen? ⟨b, 2, none⟩ = false ∧ b < w.heap.size := by
  have h0 := h.cell 0; have h1 := h.cell 1; have h2 := h.cell 2
  simp at h0 h1 h2
  exact ⟨h0, h1, h2, h.frozen 0, h.frozen 1, h.frozen 2, h.lt⟩


end Go.Proofs.Ytgpnahjnhdchaaa
