/-
  No cell of these rows narrows 'for every input' (looked for: loops, veiled, ifaces, maps, wideKeys, modest, calm, conditions, laid).
  DERIVED. THE GIVEN ROWS OF THIS SEAT. 6 by the template 'for every input the law returns true; each argument reads behind the call as it read before'; 0 by the template 'total and deterministic' (their statements: YtpllghhgndfkhaaTotals.lean).
  GIVEN WITH THE SEED: the statements are not yours to turn. If you find one false, say at which input.
  Laid BY PROGRAM, IN A SANDBOX (cutbox-rows.mjs): the forced cells as the released guide's own fill.sh prints them over the translation ebf91c0df7206dcd… (all of the seat's roots in one cut). By AI agents, Wed Nov 11 2026. No macro, syntax, notation, axiom, sorry.
-/
import Derived.Test.YtpllghhgndfkhaaChecked
import GoSem.Claim
import GoSem.ClaimJoined
import GoSem.ClaimMapViews
import Derived.JoinedTies
import Derived.KernelRfl
namespace Go.Proofs.Ytpllghhgndfkhaa
/- THE CELL 'sum', in the pinned program and in every row, IS THE sha256 OF THE DUMP (.gsa) THAT YtpllghhgndfkhaaProg.lean LOADS. Nothing in Lean hashes anything: it is a label: what it is worth is what the hold of that sum in a sandbox is worth. -/
noncomputable def Try.pinned : Pinned := { name := "ytpllghhgndfkhaa", sum := "ebf91c0df7206dcda2f98138c51607a113b7f65e1b6c4ea8fa7075979fce0e4f", checked := Try.checked }
namespace Rows
def none {H : Type} : Left H := { results := [], args := [] }

/-- 'laws.FnExactFacesOf': WHATEVER THE INPUT: true; the input reads as it did. -/
def fnExactFacesOfSpec : ChangeSpec := { name := "fnExactFacesOf", fn := fun _ => fun
  | [d] => { results := [.lit (.bool true)], args := [d] }
  | _ => none }
def fnExactFacesOfRow : OpenClaim := { program := "ytpllghhgndfkhaa", sum := "ebf91c0df7206dcda2f98138c51607a113b7f65e1b6c4ea8fa7075979fce0e4f", func := "loop.example/g03211/laws.FnExactFacesOf", spec := "fnExactFacesOf", apart := false }
def FnExactFacesOfSaid : Prop := fnExactFacesOfRow.holds Try.pinned (OpenSpec.ofChange fnExactFacesOfSpec)

/-- ITS FALSE NEIGHBOUR: 'it returns false'. Refute it at one input. -/
def fnExactFacesOfWrong : ChangeSpec := { name := "fnExactFacesOf", fn := fun _ => fun
  | [d] => { results := [.lit (.bool false)], args := [d] }
  | _ => none }
def FnExactFacesOfWrongFalsely : Prop := fnExactFacesOfRow.holds Try.pinned (OpenSpec.ofChange fnExactFacesOfWrong)

/-- 'laws.FnExactGenusOf': WHATEVER THE INPUT: true; the input reads as it did. -/
def fnExactGenusOfSpec : ChangeSpec := { name := "fnExactGenusOf", fn := fun _ => fun
  | [d] => { results := [.lit (.bool true)], args := [d] }
  | _ => none }
def fnExactGenusOfRow : OpenClaim := { program := "ytpllghhgndfkhaa", sum := "ebf91c0df7206dcda2f98138c51607a113b7f65e1b6c4ea8fa7075979fce0e4f", func := "loop.example/g03211/laws.FnExactGenusOf", spec := "fnExactGenusOf", apart := false }
def FnExactGenusOfSaid : Prop := fnExactGenusOfRow.holds Try.pinned (OpenSpec.ofChange fnExactGenusOfSpec)

/-- ITS FALSE NEIGHBOUR: 'it returns false'. Refute it at one input. -/
def fnExactGenusOfWrong : ChangeSpec := { name := "fnExactGenusOf", fn := fun _ => fun
  | [d] => { results := [.lit (.bool false)], args := [d] }
  | _ => none }
def FnExactGenusOfWrongFalsely : Prop := fnExactGenusOfRow.holds Try.pinned (OpenSpec.ofChange fnExactGenusOfWrong)

/-- 'laws.FnExactOrientedMatrix': WHATEVER THE INPUT: true; the input reads as it did. -/
def fnExactOrientedMatrixSpec : ChangeSpec := { name := "fnExactOrientedMatrix", fn := fun _ => fun
  | [d1, d2, d3] => { results := [.lit (.bool true)], args := [d1, d2, d3] }
  | _ => none }
def fnExactOrientedMatrixRow : OpenClaim := { program := "ytpllghhgndfkhaa", sum := "ebf91c0df7206dcda2f98138c51607a113b7f65e1b6c4ea8fa7075979fce0e4f", func := "loop.example/g03211/laws.FnExactOrientedMatrix", spec := "fnExactOrientedMatrix", apart := false }
def FnExactOrientedMatrixSaid : Prop := fnExactOrientedMatrixRow.holds Try.pinned (OpenSpec.ofChange fnExactOrientedMatrixSpec)

/-- ITS FALSE NEIGHBOUR: 'it returns false'. Refute it at one input. -/
def fnExactOrientedMatrixWrong : ChangeSpec := { name := "fnExactOrientedMatrix", fn := fun _ => fun
  | [d1, d2, d3] => { results := [.lit (.bool false)], args := [d1, d2, d3] }
  | _ => none }
def FnExactOrientedMatrixWrongFalsely : Prop := fnExactOrientedMatrixRow.holds Try.pinned (OpenSpec.ofChange fnExactOrientedMatrixWrong)

/-- 'laws.FnFaces': WHATEVER THE INPUT: true; the input reads as it did. -/
def fnFacesSpec : ChangeSpec := { name := "fnFaces", fn := fun _ => fun
  | [d] => { results := [.lit (.bool true)], args := [d] }
  | _ => none }
def fnFacesRow : OpenClaim := { program := "ytpllghhgndfkhaa", sum := "ebf91c0df7206dcda2f98138c51607a113b7f65e1b6c4ea8fa7075979fce0e4f", func := "loop.example/g03211/laws.FnFaces", spec := "fnFaces", apart := false }
def FnFacesSaid : Prop := fnFacesRow.holds Try.pinned (OpenSpec.ofChange fnFacesSpec)

/-- ITS FALSE NEIGHBOUR: 'it returns false'. Refute it at one input. -/
def fnFacesWrong : ChangeSpec := { name := "fnFaces", fn := fun _ => fun
  | [d] => { results := [.lit (.bool false)], args := [d] }
  | _ => none }
def FnFacesWrongFalsely : Prop := fnFacesRow.holds Try.pinned (OpenSpec.ofChange fnFacesWrong)

/-- 'laws.FnExactOrientMap': WHATEVER THE INPUT: true; the input reads as it did. -/
def fnExactOrientMapSpec : ChangeSpec := { name := "fnExactOrientMap", fn := fun _ => fun
  | [d] => { results := [.lit (.bool true)], args := [d] }
  | _ => none }
def fnExactOrientMapRow : OpenClaim := { program := "ytpllghhgndfkhaa", sum := "ebf91c0df7206dcda2f98138c51607a113b7f65e1b6c4ea8fa7075979fce0e4f", func := "loop.example/g03211/laws.FnExactOrientMap", spec := "fnExactOrientMap", apart := false }
def FnExactOrientMapSaid : Prop := fnExactOrientMapRow.holds Try.pinned (OpenSpec.ofChange fnExactOrientMapSpec)

/-- ITS FALSE NEIGHBOUR: 'it returns false'. Refute it at one input. -/
def fnExactOrientMapWrong : ChangeSpec := { name := "fnExactOrientMap", fn := fun _ => fun
  | [d] => { results := [.lit (.bool false)], args := [d] }
  | _ => none }
def FnExactOrientMapWrongFalsely : Prop := fnExactOrientMapRow.holds Try.pinned (OpenSpec.ofChange fnExactOrientMapWrong)

/-- 'laws.FnPerfect': WHATEVER THE INPUT: true; the input reads as it did. -/
def fnPerfectSpec : ChangeSpec := { name := "fnPerfect", fn := fun _ => fun
  | [d] => { results := [.lit (.bool true)], args := [d] }
  | _ => none }
def fnPerfectRow : OpenClaim := { program := "ytpllghhgndfkhaa", sum := "ebf91c0df7206dcda2f98138c51607a113b7f65e1b6c4ea8fa7075979fce0e4f", func := "loop.example/g03211/laws.FnPerfect", spec := "fnPerfect", apart := false }
def FnPerfectSaid : Prop := fnPerfectRow.holds Try.pinned (OpenSpec.ofChange fnPerfectSpec)

/-- ITS FALSE NEIGHBOUR: 'it returns false'. Refute it at one input. -/
def fnPerfectWrong : ChangeSpec := { name := "fnPerfect", fn := fun _ => fun
  | [d] => { results := [.lit (.bool false)], args := [d] }
  | _ => none }
def FnPerfectWrongFalsely : Prop := fnPerfectRow.holds Try.pinned (OpenSpec.ofChange fnPerfectWrong)

/- THE SECOND FORM. 'bulk': how many values and letters a reading holds, each counted each time it is reached (what is shared counts as often as it is met; a slice's spare places count too). A statement '..UptoSaid' is the law's where the arguments, and the package variables that the reading takes, are together of bulk at most 1048576: NARROWER than '..Said'. Prove '..Said' where nothing that the law and all that it calls make is longer than what came in: it says more and counts as full. Else prove '..UptoSaid'. A law counts once. -/
mutual
def uptoBulk {H : Type} : DataW H → Nat
  | .lit (.string bytes) => bytes.length + 1
  | .lit _ => 1
  | .nil => 1
  | .ptr d => uptoBulk d + 1
  | .slice elems spare => uptoBulkAll elems + uptoBulkAll spare + 1
  | .agg parts => uptoBulkAll parts + 1
  | .iface _ d => uptoBulk d + 1
  | .map entries => uptoBulkEntries entries + 1
  | .held _ => 1
def uptoBulkAll {H : Type} : List (DataW H) → Nat
  | [] => 0
  | d :: r => uptoBulk d + uptoBulkAll r
def uptoBulkEntries {H : Type} : List (Lit × DataW H) → Nat
  | [] => 0
  | x :: r => uptoBulkEntry x + uptoBulkEntries r
def uptoBulkEntry {H : Type} : Lit × DataW H → Nat
  | (.string bytes, d) => bytes.length + uptoBulk d + 1
  | (_, d) => uptoBulk d + 1
 end
def uptoSmall : (H : Type) → List (DataW H) → Bool := fun _ ds => decide (uptoBulkAll ds ≤ 1048576)
def OpenSpec.upto (s : _root_.Go.ChangeSpec) : _root_.Go.OpenSpec := { _root_.Go.OpenSpec.ofChange s with cond := some uptoSmall }

/-- 'laws.FnExactFacesOf', WHERE WHAT IT READS IS OF BULK AT MOST 1048576: true; the input reads as it did. -/
def fnExactFacesOfUptoRow : OpenClaim := { program := "ytpllghhgndfkhaa", sum := "ebf91c0df7206dcda2f98138c51607a113b7f65e1b6c4ea8fa7075979fce0e4f", func := "loop.example/g03211/laws.FnExactFacesOf", spec := "fnExactFacesOf", apart := false, narrowed := true }
def FnExactFacesOfUptoSaid : Prop := fnExactFacesOfUptoRow.holds Try.pinned (OpenSpec.upto fnExactFacesOfSpec)

/-- 'laws.FnExactGenusOf', WHERE WHAT IT READS IS OF BULK AT MOST 1048576: true; the input reads as it did. -/
def fnExactGenusOfUptoRow : OpenClaim := { program := "ytpllghhgndfkhaa", sum := "ebf91c0df7206dcda2f98138c51607a113b7f65e1b6c4ea8fa7075979fce0e4f", func := "loop.example/g03211/laws.FnExactGenusOf", spec := "fnExactGenusOf", apart := false, narrowed := true }
def FnExactGenusOfUptoSaid : Prop := fnExactGenusOfUptoRow.holds Try.pinned (OpenSpec.upto fnExactGenusOfSpec)

/-- 'laws.FnExactOrientedMatrix', WHERE WHAT IT READS IS OF BULK AT MOST 1048576: true; the input reads as it did. -/
def fnExactOrientedMatrixUptoRow : OpenClaim := { program := "ytpllghhgndfkhaa", sum := "ebf91c0df7206dcda2f98138c51607a113b7f65e1b6c4ea8fa7075979fce0e4f", func := "loop.example/g03211/laws.FnExactOrientedMatrix", spec := "fnExactOrientedMatrix", apart := false, narrowed := true }
def FnExactOrientedMatrixUptoSaid : Prop := fnExactOrientedMatrixUptoRow.holds Try.pinned (OpenSpec.upto fnExactOrientedMatrixSpec)

/-- 'laws.FnFaces', WHERE WHAT IT READS IS OF BULK AT MOST 1048576: true; the input reads as it did. -/
def fnFacesUptoRow : OpenClaim := { program := "ytpllghhgndfkhaa", sum := "ebf91c0df7206dcda2f98138c51607a113b7f65e1b6c4ea8fa7075979fce0e4f", func := "loop.example/g03211/laws.FnFaces", spec := "fnFaces", apart := false, narrowed := true }
def FnFacesUptoSaid : Prop := fnFacesUptoRow.holds Try.pinned (OpenSpec.upto fnFacesSpec)

/-- 'laws.FnExactOrientMap', WHERE WHAT IT READS IS OF BULK AT MOST 1048576: true; the input reads as it did. -/
def fnExactOrientMapUptoRow : OpenClaim := { program := "ytpllghhgndfkhaa", sum := "ebf91c0df7206dcda2f98138c51607a113b7f65e1b6c4ea8fa7075979fce0e4f", func := "loop.example/g03211/laws.FnExactOrientMap", spec := "fnExactOrientMap", apart := false, narrowed := true }
def FnExactOrientMapUptoSaid : Prop := fnExactOrientMapUptoRow.holds Try.pinned (OpenSpec.upto fnExactOrientMapSpec)

/-- 'laws.FnPerfect', WHERE WHAT IT READS IS OF BULK AT MOST 1048576: true; the input reads as it did. -/
def fnPerfectUptoRow : OpenClaim := { program := "ytpllghhgndfkhaa", sum := "ebf91c0df7206dcda2f98138c51607a113b7f65e1b6c4ea8fa7075979fce0e4f", func := "loop.example/g03211/laws.FnPerfect", spec := "fnPerfect", apart := false, narrowed := true }
def FnPerfectUptoSaid : Prop := fnPerfectUptoRow.holds Try.pinned (OpenSpec.upto fnPerfectSpec)

end Rows
end Go.Proofs.Ytpllghhgndfkhaa
