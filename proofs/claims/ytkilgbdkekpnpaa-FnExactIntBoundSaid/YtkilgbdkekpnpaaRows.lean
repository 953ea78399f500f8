/-
  No cell of these rows narrows 'for every input' (looked for: loops, veiled, ifaces, maps, wideKeys, modest, calm, conditions, laid).
  DERIVED. THE GIVEN ROWS OF THIS SEAT. 5 by the template 'for every input the law returns true; each argument reads behind the call as it read before'; 0 by the template 'total and deterministic' (their statements: YtkilgbdkekpnpaaTotals.lean).
  GIVEN WITH THE SEED: the statements are not yours to turn. If you find one false, say at which input.
  Laid BY PROGRAM, IN A SANDBOX (cutbox-rows.mjs): the forced cells as the released guide's own fill.sh prints them over the translation 9d9c7dfcaf766a9b… (all of the seat's roots in one cut). By AI agents, Wed Nov 11 2026. No macro, syntax, notation, axiom, sorry.
-/
import Derived.Test.YtkilgbdkekpnpaaChecked
import GoSem.Claim
import GoSem.ClaimJoined
import GoSem.ClaimMapViews
import Derived.JoinedTies
import Derived.KernelRfl
namespace Go.Proofs.Ytkilgbdkekpnpaa
/- THE CELL 'sum', in the pinned program and in every row, IS THE sha256 OF THE DUMP (.gsa) THAT YtkilgbdkekpnpaaProg.lean LOADS. Nothing in Lean hashes anything: it is a label: what it is worth is what the hold of that sum in a sandbox is worth. -/
noncomputable def Try.pinned : Pinned := { name := "ytkilgbdkekpnpaa", sum := "9d9c7dfcaf766a9b2f2b89339a6fe20e4b5b058b5ce7401a3d2d9da3b6098ffc", checked := Try.checked }
namespace Rows
def none {H : Type} : Left H := { results := [], args := [] }

/-- 'laws.FnExactIntOk': WHATEVER THE INPUT: true; the input reads as it did. -/
def fnExactIntOkSpec : ChangeSpec := { name := "fnExactIntOk", fn := fun _ => fun
  | [d] => { results := [.lit (.bool true)], args := [d] }
  | _ => none }
def fnExactIntOkRow : OpenClaim := { program := "ytkilgbdkekpnpaa", sum := "9d9c7dfcaf766a9b2f2b89339a6fe20e4b5b058b5ce7401a3d2d9da3b6098ffc", func := "loop.example/g03211/laws.FnExactIntOk", spec := "fnExactIntOk", apart := false }
def FnExactIntOkSaid : Prop := fnExactIntOkRow.holds Try.pinned (OpenSpec.ofChange fnExactIntOkSpec)

/-- ITS FALSE NEIGHBOUR: 'it returns false'. Refute it at one input. -/
def fnExactIntOkWrong : ChangeSpec := { name := "fnExactIntOk", fn := fun _ => fun
  | [d] => { results := [.lit (.bool false)], args := [d] }
  | _ => none }
def FnExactIntOkWrongFalsely : Prop := fnExactIntOkRow.holds Try.pinned (OpenSpec.ofChange fnExactIntOkWrong)

/-- 'laws.FnExactIntBound': WHATEVER THE INPUT: true; the input reads as it did. -/
def fnExactIntBoundSpec : ChangeSpec := { name := "fnExactIntBound", fn := fun _ => fun
  | [d] => { results := [.lit (.bool true)], args := [d] }
  | _ => none }
def fnExactIntBoundRow : OpenClaim := { program := "ytkilgbdkekpnpaa", sum := "9d9c7dfcaf766a9b2f2b89339a6fe20e4b5b058b5ce7401a3d2d9da3b6098ffc", func := "loop.example/g03211/laws.FnExactIntBound", spec := "fnExactIntBound", apart := false }
def FnExactIntBoundSaid : Prop := fnExactIntBoundRow.holds Try.pinned (OpenSpec.ofChange fnExactIntBoundSpec)

/-- ITS FALSE NEIGHBOUR: 'it returns false'. Refute it at one input. -/
def fnExactIntBoundWrong : ChangeSpec := { name := "fnExactIntBound", fn := fun _ => fun
  | [d] => { results := [.lit (.bool false)], args := [d] }
  | _ => none }
def FnExactIntBoundWrongFalsely : Prop := fnExactIntBoundRow.holds Try.pinned (OpenSpec.ofChange fnExactIntBoundWrong)

/-- 'laws.FnExactIntValue': WHATEVER THE INPUT: true; the input reads as it did. -/
def fnExactIntValueSpec : ChangeSpec := { name := "fnExactIntValue", fn := fun _ => fun
  | [d] => { results := [.lit (.bool true)], args := [d] }
  | _ => none }
def fnExactIntValueRow : OpenClaim := { program := "ytkilgbdkekpnpaa", sum := "9d9c7dfcaf766a9b2f2b89339a6fe20e4b5b058b5ce7401a3d2d9da3b6098ffc", func := "loop.example/g03211/laws.FnExactIntValue", spec := "fnExactIntValue", apart := false }
def FnExactIntValueSaid : Prop := fnExactIntValueRow.holds Try.pinned (OpenSpec.ofChange fnExactIntValueSpec)

/-- ITS FALSE NEIGHBOUR: 'it returns false'. Refute it at one input. -/
def fnExactIntValueWrong : ChangeSpec := { name := "fnExactIntValue", fn := fun _ => fun
  | [d] => { results := [.lit (.bool false)], args := [d] }
  | _ => none }
def FnExactIntValueWrongFalsely : Prop := fnExactIntValueRow.holds Try.pinned (OpenSpec.ofChange fnExactIntValueWrong)

/-- 'laws.FnExactCertifiedValue': WHATEVER THE INPUT: true; the input reads as it did. -/
def fnExactCertifiedValueSpec : ChangeSpec := { name := "fnExactCertifiedValue", fn := fun _ => fun
  | [d1, d2] => { results := [.lit (.bool true)], args := [d1, d2] }
  | _ => none }
def fnExactCertifiedValueRow : OpenClaim := { program := "ytkilgbdkekpnpaa", sum := "9d9c7dfcaf766a9b2f2b89339a6fe20e4b5b058b5ce7401a3d2d9da3b6098ffc", func := "loop.example/g03211/laws.FnExactCertifiedValue", spec := "fnExactCertifiedValue", apart := false }
def FnExactCertifiedValueSaid : Prop := fnExactCertifiedValueRow.holds Try.pinned (OpenSpec.ofChange fnExactCertifiedValueSpec)

/-- ITS FALSE NEIGHBOUR: 'it returns false'. Refute it at one input. -/
def fnExactCertifiedValueWrong : ChangeSpec := { name := "fnExactCertifiedValue", fn := fun _ => fun
  | [d1, d2] => { results := [.lit (.bool false)], args := [d1, d2] }
  | _ => none }
def FnExactCertifiedValueWrongFalsely : Prop := fnExactCertifiedValueRow.holds Try.pinned (OpenSpec.ofChange fnExactCertifiedValueWrong)

/-- 'laws.FnExactModNetwork': WHATEVER THE INPUT: true; the input reads as it did. -/
def fnExactModNetworkSpec : ChangeSpec := { name := "fnExactModNetwork", fn := fun _ => fun
  | [d1, d2] => { results := [.lit (.bool true)], args := [d1, d2] }
  | _ => none }
def fnExactModNetworkRow : OpenClaim := { program := "ytkilgbdkekpnpaa", sum := "9d9c7dfcaf766a9b2f2b89339a6fe20e4b5b058b5ce7401a3d2d9da3b6098ffc", func := "loop.example/g03211/laws.FnExactModNetwork", spec := "fnExactModNetwork", apart := false }
def FnExactModNetworkSaid : Prop := fnExactModNetworkRow.holds Try.pinned (OpenSpec.ofChange fnExactModNetworkSpec)

/-- ITS FALSE NEIGHBOUR: 'it returns false'. Refute it at one input. -/
def fnExactModNetworkWrong : ChangeSpec := { name := "fnExactModNetwork", fn := fun _ => fun
  | [d1, d2] => { results := [.lit (.bool false)], args := [d1, d2] }
  | _ => none }
def FnExactModNetworkWrongFalsely : Prop := fnExactModNetworkRow.holds Try.pinned (OpenSpec.ofChange fnExactModNetworkWrong)

/- THE SECOND FORM. 'bulk': how many values and letters a reading holds, each counted each time it is reached (what is shared counts as often as it is met; a slice's spare places count too). A statement '..UptoSaid' is the law's where the arguments, and the package variables that the reading takes, are together of bulk at most 1048576: NARROWER than '..Said'. Prove '..Said' where nothing that the law and all that it calls make is longer than what came in: it says more and counts as full. Else prove '..UptoSaid'. A law counts once. -/
mutual
def uptoBulk {H : Type} : DataW H → Nat
  | .lit (.string bytes) => bytes.length + 1
  | .lit _ => 1
  | .nil => 1
  | .ptr d => uptoBulk d + 1
  | .slice elems spare => uptoBulkAll elems + uptoBulkAll spare + 1
  | .agg parts => uptoBulkAll parts + 1
  | .iface _ d => uptoBulk d + 1
  | .map entries => uptoBulkEntries entries + 1
  | .held _ => 1
def uptoBulkAll {H : Type} : List (DataW H) → Nat
  | [] => 0
  | d :: r => uptoBulk d + uptoBulkAll r
def uptoBulkEntries {H : Type} : List (Lit × DataW H) → Nat
  | [] => 0
  | x :: r => uptoBulkEntry x + uptoBulkEntries r
def uptoBulkEntry {H : Type} : Lit × DataW H → Nat
  | (.string bytes, d) => bytes.length + uptoBulk d + 1
  | (_, d) => uptoBulk d + 1
 end
def uptoSmall : (H : Type) → List (DataW H) → Bool := fun _ ds => decide (uptoBulkAll ds ≤ 1048576)
def OpenSpec.upto (s : _root_.Go.ChangeSpec) : _root_.Go.OpenSpec := { _root_.Go.OpenSpec.ofChange s with cond := some uptoSmall }

/-- 'laws.FnExactIntOk', WHERE WHAT IT READS IS OF BULK AT MOST 1048576: true; the input reads as it did. -/
def fnExactIntOkUptoRow : OpenClaim := { program := "ytkilgbdkekpnpaa", sum := "9d9c7dfcaf766a9b2f2b89339a6fe20e4b5b058b5ce7401a3d2d9da3b6098ffc", func := "loop.example/g03211/laws.FnExactIntOk", spec := "fnExactIntOk", apart := false, narrowed := true }
def FnExactIntOkUptoSaid : Prop := fnExactIntOkUptoRow.holds Try.pinned (OpenSpec.upto fnExactIntOkSpec)

/-- 'laws.FnExactIntBound', WHERE WHAT IT READS IS OF BULK AT MOST 1048576: true; the input reads as it did. -/
def fnExactIntBoundUptoRow : OpenClaim := { program := "ytkilgbdkekpnpaa", sum := "9d9c7dfcaf766a9b2f2b89339a6fe20e4b5b058b5ce7401a3d2d9da3b6098ffc", func := "loop.example/g03211/laws.FnExactIntBound", spec := "fnExactIntBound", apart := false, narrowed := true }
def FnExactIntBoundUptoSaid : Prop := fnExactIntBoundUptoRow.holds Try.pinned (OpenSpec.upto fnExactIntBoundSpec)

/-- 'laws.FnExactIntValue', WHERE WHAT IT READS IS OF BULK AT MOST 1048576: true; the input reads as it did. -/
def fnExactIntValueUptoRow : OpenClaim := { program := "ytkilgbdkekpnpaa", sum := "9d9c7dfcaf766a9b2f2b89339a6fe20e4b5b058b5ce7401a3d2d9da3b6098ffc", func := "loop.example/g03211/laws.FnExactIntValue", spec := "fnExactIntValue", apart := false, narrowed := true }
def FnExactIntValueUptoSaid : Prop := fnExactIntValueUptoRow.holds Try.pinned (OpenSpec.upto fnExactIntValueSpec)

/-- 'laws.FnExactCertifiedValue', WHERE WHAT IT READS IS OF BULK AT MOST 1048576: true; the input reads as it did. -/
def fnExactCertifiedValueUptoRow : OpenClaim := { program := "ytkilgbdkekpnpaa", sum := "9d9c7dfcaf766a9b2f2b89339a6fe20e4b5b058b5ce7401a3d2d9da3b6098ffc", func := "loop.example/g03211/laws.FnExactCertifiedValue", spec := "fnExactCertifiedValue", apart := false, narrowed := true }
def FnExactCertifiedValueUptoSaid : Prop := fnExactCertifiedValueUptoRow.holds Try.pinned (OpenSpec.upto fnExactCertifiedValueSpec)

/-- 'laws.FnExactModNetwork', WHERE WHAT IT READS IS OF BULK AT MOST 1048576: true; the input reads as it did. -/
def fnExactModNetworkUptoRow : OpenClaim := { program := "ytkilgbdkekpnpaa", sum := "9d9c7dfcaf766a9b2f2b89339a6fe20e4b5b058b5ce7401a3d2d9da3b6098ffc", func := "loop.example/g03211/laws.FnExactModNetwork", spec := "fnExactModNetwork", apart := false, narrowed := true }
def FnExactModNetworkUptoSaid : Prop := fnExactModNetworkUptoRow.holds Try.pinned (OpenSpec.upto fnExactModNetworkSpec)

end Rows
end Go.Proofs.Ytkilgbdkekpnpaa
