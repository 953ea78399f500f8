/-
  No cell of these rows narrows 'for every input' (looked for: loops, veiled, ifaces, maps, wideKeys, modest, calm, conditions, laid).
  DERIVED. THE GIVEN ROWS OF THIS SEAT. 5 by the template 'for every input the law returns true; each argument reads behind the call as it read before'; 0 by the template 'total and deterministic' (their statements: YtgpnahjnhdchaaaTotals.lean).
  GIVEN WITH THE SEED: the statements are not yours to turn. If you find one false, say at which input.
  Laid BY PROGRAM, IN A SANDBOX (cutbox-rows.mjs): the forced cells as the released guide's own fill.sh prints them over the translation 7ce51240dc2f4ca6… (all of the seat's roots in one cut). By AI agents, Wed Nov 11 2026. No macro, syntax, notation, axiom, sorry.
-/
import Derived.Test.YtgpnahjnhdchaaaChecked
import GoSem.Claim
import GoSem.ClaimJoined
import GoSem.ClaimMapViews
import Derived.JoinedTies
import Derived.KernelRfl
namespace Go.Proofs.Ytgpnahjnhdchaaa
/- THE CELL 'sum', in the pinned program and in every row, IS THE sha256 OF THE DUMP (.gsa) THAT YtgpnahjnhdchaaaProg.lean LOADS. Nothing in Lean hashes anything: it is a label: what it is worth is what the hold of that sum in a sandbox is worth. -/
noncomputable def Try.pinned : Pinned := { name := "ytgpnahjnhdchaaa", sum := "7ce51240dc2f4ca6610b63c8241fa2499ce70df7b9e2489f781248e70d84fdd9", checked := Try.checked }
namespace Rows
def none {H : Type} : Left H := { results := [], args := [] }

/-- 'laws.FnExactPushPauli': WHATEVER THE INPUT: true; the input reads as it did. -/
def fnExactPushPauliSpec : ChangeSpec := { name := "fnExactPushPauli", fn := fun _ => fun
  | [d1, d2] => { results := [.lit (.bool true)], args := [d1, d2] }
  | _ => none }
def fnExactPushPauliRow : OpenClaim := { program := "ytgpnahjnhdchaaa", sum := "7ce51240dc2f4ca6610b63c8241fa2499ce70df7b9e2489f781248e70d84fdd9", func := "loop.example/g03211/laws.FnExactPushPauli", spec := "fnExactPushPauli", recurses := true, apart := false }
def FnExactPushPauliSaid : Prop := fnExactPushPauliRow.holds Try.pinned (OpenSpec.ofChange fnExactPushPauliSpec)

/-- ITS FALSE NEIGHBOUR: 'it returns false'. Refute it at one input. -/
def fnExactPushPauliWrong : ChangeSpec := { name := "fnExactPushPauli", fn := fun _ => fun
  | [d1, d2] => { results := [.lit (.bool false)], args := [d1, d2] }
  | _ => none }
def FnExactPushPauliWrongFalsely : Prop := fnExactPushPauliRow.holds Try.pinned (OpenSpec.ofChange fnExactPushPauliWrong)

/-- 'laws.FnExactStabilizersOf': WHATEVER THE INPUT: true; the input reads as it did. -/
def fnExactStabilizersOfSpec : ChangeSpec := { name := "fnExactStabilizersOf", fn := fun _ => fun
  | [d1, d2] => { results := [.lit (.bool true)], args := [d1, d2] }
  | _ => none }
def fnExactStabilizersOfRow : OpenClaim := { program := "ytgpnahjnhdchaaa", sum := "7ce51240dc2f4ca6610b63c8241fa2499ce70df7b9e2489f781248e70d84fdd9", func := "loop.example/g03211/laws.FnExactStabilizersOf", spec := "fnExactStabilizersOf", recurses := true, apart := false }
def FnExactStabilizersOfSaid : Prop := fnExactStabilizersOfRow.holds Try.pinned (OpenSpec.ofChange fnExactStabilizersOfSpec)

/-- ITS FALSE NEIGHBOUR: 'it returns false'. Refute it at one input. -/
def fnExactStabilizersOfWrong : ChangeSpec := { name := "fnExactStabilizersOf", fn := fun _ => fun
  | [d1, d2] => { results := [.lit (.bool false)], args := [d1, d2] }
  | _ => none }
def FnExactStabilizersOfWrongFalsely : Prop := fnExactStabilizersOfRow.holds Try.pinned (OpenSpec.ofChange fnExactStabilizersOfWrong)

/-- 'laws.FnStabilizers': WHATEVER THE INPUT: true; the input reads as it did. -/
def fnStabilizersSpec : ChangeSpec := { name := "fnStabilizers", fn := fun _ => fun
  | [d] => { results := [.lit (.bool true)], args := [d] }
  | _ => none }
def fnStabilizersRow : OpenClaim := { program := "ytgpnahjnhdchaaa", sum := "7ce51240dc2f4ca6610b63c8241fa2499ce70df7b9e2489f781248e70d84fdd9", func := "loop.example/g03211/laws.FnStabilizers", spec := "fnStabilizers", recurses := true, apart := false }
def FnStabilizersSaid : Prop := fnStabilizersRow.holds Try.pinned (OpenSpec.ofChange fnStabilizersSpec)

/-- ITS FALSE NEIGHBOUR: 'it returns false'. Refute it at one input. -/
def fnStabilizersWrong : ChangeSpec := { name := "fnStabilizers", fn := fun _ => fun
  | [d] => { results := [.lit (.bool false)], args := [d] }
  | _ => none }
def FnStabilizersWrongFalsely : Prop := fnStabilizersRow.holds Try.pinned (OpenSpec.ofChange fnStabilizersWrong)

/-- 'laws.FnCommute': WHATEVER THE INPUT: true; the input reads as it did. -/
def fnCommuteSpec : ChangeSpec := { name := "fnCommute", fn := fun _ => fun
  | [d] => { results := [.lit (.bool true)], args := [d] }
  | _ => none }
def fnCommuteRow : OpenClaim := { program := "ytgpnahjnhdchaaa", sum := "7ce51240dc2f4ca6610b63c8241fa2499ce70df7b9e2489f781248e70d84fdd9", func := "loop.example/g03211/laws.FnCommute", spec := "fnCommute", recurses := true, apart := false }
def FnCommuteSaid : Prop := fnCommuteRow.holds Try.pinned (OpenSpec.ofChange fnCommuteSpec)

/-- ITS FALSE NEIGHBOUR: 'it returns false'. Refute it at one input. -/
def fnCommuteWrong : ChangeSpec := { name := "fnCommute", fn := fun _ => fun
  | [d] => { results := [.lit (.bool false)], args := [d] }
  | _ => none }
def FnCommuteWrongFalsely : Prop := fnCommuteRow.holds Try.pinned (OpenSpec.ofChange fnCommuteWrong)

/-- 'laws.FnPushed': WHATEVER THE INPUT: true; the input reads as it did. -/
def fnPushedSpec : ChangeSpec := { name := "fnPushed", fn := fun _ => fun
  | [d] => { results := [.lit (.bool true)], args := [d] }
  | _ => none }
def fnPushedRow : OpenClaim := { program := "ytgpnahjnhdchaaa", sum := "7ce51240dc2f4ca6610b63c8241fa2499ce70df7b9e2489f781248e70d84fdd9", func := "loop.example/g03211/laws.FnPushed", spec := "fnPushed", recurses := true, apart := false }
def FnPushedSaid : Prop := fnPushedRow.holds Try.pinned (OpenSpec.ofChange fnPushedSpec)

/-- ITS FALSE NEIGHBOUR: 'it returns false'. Refute it at one input. -/
def fnPushedWrong : ChangeSpec := { name := "fnPushed", fn := fun _ => fun
  | [d] => { results := [.lit (.bool false)], args := [d] }
  | _ => none }
def FnPushedWrongFalsely : Prop := fnPushedRow.holds Try.pinned (OpenSpec.ofChange fnPushedWrong)

/- THE SECOND FORM. 'bulk': how many values and letters a reading holds, each counted each time it is reached (what is shared counts as often as it is met; a slice's spare places count too). A statement '..UptoSaid' is the law's where the arguments, and the package variables that the reading takes, are together of bulk at most 1048576: NARROWER than '..Said'. Prove '..Said' where nothing that the law and all that it calls make is longer than what came in: it says more and counts as full. Else prove '..UptoSaid'. A law counts once. -/
mutual
def uptoBulk {H : Type} : DataW H → Nat
  | .lit (.string bytes) => bytes.length + 1
  | .lit _ => 1
  | .nil => 1
  | .ptr d => uptoBulk d + 1
  | .slice elems spare => uptoBulkAll elems + uptoBulkAll spare + 1
  | .agg parts => uptoBulkAll parts + 1
  | .iface _ d => uptoBulk d + 1
  | .map entries => uptoBulkEntries entries + 1
  | .held _ => 1
def uptoBulkAll {H : Type} : List (DataW H) → Nat
  | [] => 0
  | d :: r => uptoBulk d + uptoBulkAll r
def uptoBulkEntries {H : Type} : List (Lit × DataW H) → Nat
  | [] => 0
  | x :: r => uptoBulkEntry x + uptoBulkEntries r
def uptoBulkEntry {H : Type} : Lit × DataW H → Nat
  | (.string bytes, d) => bytes.length + uptoBulk d + 1
  | (_, d) => uptoBulk d + 1
 end
def uptoSmall : (H : Type) → List (DataW H) → Bool := fun _ ds => decide (uptoBulkAll ds ≤ 1048576)
def OpenSpec.upto (s : _root_.Go.ChangeSpec) : _root_.Go.OpenSpec := { _root_.Go.OpenSpec.ofChange s with cond := some uptoSmall }

/-- 'laws.FnExactPushPauli', WHERE WHAT IT READS IS OF BULK AT MOST 1048576: true; the input reads as it did. -/
def fnExactPushPauliUptoRow : OpenClaim := { program := "ytgpnahjnhdchaaa", sum := "7ce51240dc2f4ca6610b63c8241fa2499ce70df7b9e2489f781248e70d84fdd9", func := "loop.example/g03211/laws.FnExactPushPauli", spec := "fnExactPushPauli", recurses := true, apart := false, narrowed := true }
def FnExactPushPauliUptoSaid : Prop := fnExactPushPauliUptoRow.holds Try.pinned (OpenSpec.upto fnExactPushPauliSpec)

/-- 'laws.FnExactStabilizersOf', WHERE WHAT IT READS IS OF BULK AT MOST 1048576: true; the input reads as it did. -/
def fnExactStabilizersOfUptoRow : OpenClaim := { program := "ytgpnahjnhdchaaa", sum := "7ce51240dc2f4ca6610b63c8241fa2499ce70df7b9e2489f781248e70d84fdd9", func := "loop.example/g03211/laws.FnExactStabilizersOf", spec := "fnExactStabilizersOf", recurses := true, apart := false, narrowed := true }
def FnExactStabilizersOfUptoSaid : Prop := fnExactStabilizersOfUptoRow.holds Try.pinned (OpenSpec.upto fnExactStabilizersOfSpec)

/-- 'laws.FnStabilizers', WHERE WHAT IT READS IS OF BULK AT MOST 1048576: true; the input reads as it did. -/
def fnStabilizersUptoRow : OpenClaim := { program := "ytgpnahjnhdchaaa", sum := "7ce51240dc2f4ca6610b63c8241fa2499ce70df7b9e2489f781248e70d84fdd9", func := "loop.example/g03211/laws.FnStabilizers", spec := "fnStabilizers", recurses := true, apart := false, narrowed := true }
def FnStabilizersUptoSaid : Prop := fnStabilizersUptoRow.holds Try.pinned (OpenSpec.upto fnStabilizersSpec)

/-- 'laws.FnCommute', WHERE WHAT IT READS IS OF BULK AT MOST 1048576: true; the input reads as it did. -/
def fnCommuteUptoRow : OpenClaim := { program := "ytgpnahjnhdchaaa", sum := "7ce51240dc2f4ca6610b63c8241fa2499ce70df7b9e2489f781248e70d84fdd9", func := "loop.example/g03211/laws.FnCommute", spec := "fnCommute", recurses := true, apart := false, narrowed := true }
def FnCommuteUptoSaid : Prop := fnCommuteUptoRow.holds Try.pinned (OpenSpec.upto fnCommuteSpec)

/-- 'laws.FnPushed', WHERE WHAT IT READS IS OF BULK AT MOST 1048576: true; the input reads as it did. -/
def fnPushedUptoRow : OpenClaim := { program := "ytgpnahjnhdchaaa", sum := "7ce51240dc2f4ca6610b63c8241fa2499ce70df7b9e2489f781248e70d84fdd9", func := "loop.example/g03211/laws.FnPushed", spec := "fnPushed", recurses := true, apart := false, narrowed := true }
def FnPushedUptoSaid : Prop := fnPushedUptoRow.holds Try.pinned (OpenSpec.upto fnPushedSpec)

end Rows
end Go.Proofs.Ytgpnahjnhdchaaa
