/-
  No cell of these rows narrows 'for every input' (looked for: loops, veiled, ifaces, maps, wideKeys, modest, calm, conditions, laid).
  DERIVED. THE GIVEN ROWS OF THIS SEAT. 12 by the template 'for every input the law returns true; each argument reads behind the call as it read before'; 0 by the template 'total and deterministic' (their statements: YmbrbtTotals.lean).
  GIVEN WITH THE SEED: the statements are not yours to turn. If you find one false, say at which input.
  Laid BY PROGRAM, IN A SANDBOX (cutbox-rows.mjs): the forced cells as the released guide's own fill.sh prints them over the translation 59df270c0a210af1… (all of the seat's roots in one cut). By AI agents, Wed Nov 11 2026. No macro, syntax, notation, axiom, sorry.
-/
import Derived.Test.YmbrbtChecked
import GoSem.Claim
import GoSem.ClaimJoined
import GoSem.ClaimMapViews
import Derived.JoinedTies
import Derived.KernelRfl
namespace Go.Proofs.Ymbrbt
/- THE CELL 'sum', in the pinned program and in every row, IS THE sha256 OF THE DUMP (.gsa) THAT YmbrbtProg.lean LOADS. Nothing in Lean hashes anything: it is a label: what it is worth is what the hold of that sum in a sandbox is worth. -/
noncomputable def Ybtm.pinned : Pinned := { name := "ymbrbt", sum := "59df270c0a210af1fa50f5f85e6d61b9b9dc96450b52313036a9091ffe0b07b6", checked := Ybtm.checked }
namespace Rows
def none {H : Type} : Left H := { results := [], args := [] }

/-- 'expr.LawS930015ATree': WHATEVER THE INPUT: true; the input reads as it did. -/
def lawS930015ATreeSpec : ChangeSpec := { name := "lawS930015ATree", fn := fun _ => fun
  | [d] => { results := [.lit (.bool true)], args := [d] }
  | _ => none }
def lawS930015ATreeRow : OpenClaim := { program := "ymbrbt", sum := "59df270c0a210af1fa50f5f85e6d61b9b9dc96450b52313036a9091ffe0b07b6", func := "example.com/own/expr.LawS930015ATree", spec := "lawS930015ATree", recurses := true, apart := false }
def LawS930015ATreeSaid : Prop := lawS930015ATreeRow.holds Ybtm.pinned (OpenSpec.ofChange lawS930015ATreeSpec)

/-- ITS FALSE NEIGHBOUR: 'it returns false'. Refute it at one input. -/
def lawS930015ATreeWrong : ChangeSpec := { name := "lawS930015ATree", fn := fun _ => fun
  | [d] => { results := [.lit (.bool false)], args := [d] }
  | _ => none }
def LawS930015ATreeWrongFalsely : Prop := lawS930015ATreeRow.holds Ybtm.pinned (OpenSpec.ofChange lawS930015ATreeWrong)

/-- 'expr.LawS930015ASyntax': WHATEVER THE INPUT: true; the input reads as it did. -/
def lawS930015ASyntaxSpec : ChangeSpec := { name := "lawS930015ASyntax", fn := fun _ => fun
  | [d] => { results := [.lit (.bool true)], args := [d] }
  | _ => none }
def lawS930015ASyntaxRow : OpenClaim := { program := "ymbrbt", sum := "59df270c0a210af1fa50f5f85e6d61b9b9dc96450b52313036a9091ffe0b07b6", func := "example.com/own/expr.LawS930015ASyntax", spec := "lawS930015ASyntax", apart := false }
def LawS930015ASyntaxSaid : Prop := lawS930015ASyntaxRow.holds Ybtm.pinned (OpenSpec.ofChange lawS930015ASyntaxSpec)

/-- ITS FALSE NEIGHBOUR: 'it returns false'. Refute it at one input. -/
def lawS930015ASyntaxWrong : ChangeSpec := { name := "lawS930015ASyntax", fn := fun _ => fun
  | [d] => { results := [.lit (.bool false)], args := [d] }
  | _ => none }
def LawS930015ASyntaxWrongFalsely : Prop := lawS930015ASyntaxRow.holds Ybtm.pinned (OpenSpec.ofChange lawS930015ASyntaxWrong)

/-- 'expr.LawS930015ACompose': WHATEVER THE INPUT: true; the input reads as it did. -/
def lawS930015AComposeSpec : ChangeSpec := { name := "lawS930015ACompose", fn := fun _ => fun
  | [d1, d2, d3, d4] => { results := [.lit (.bool true)], args := [d1, d2, d3, d4] }
  | _ => none }
def lawS930015AComposeRow : OpenClaim := { program := "ymbrbt", sum := "59df270c0a210af1fa50f5f85e6d61b9b9dc96450b52313036a9091ffe0b07b6", func := "example.com/own/expr.LawS930015ACompose", spec := "lawS930015ACompose", apart := false }
def LawS930015AComposeSaid : Prop := lawS930015AComposeRow.holds Ybtm.pinned (OpenSpec.ofChange lawS930015AComposeSpec)

/-- ITS FALSE NEIGHBOUR: 'it returns false'. Refute it at one input. -/
def lawS930015AComposeWrong : ChangeSpec := { name := "lawS930015ACompose", fn := fun _ => fun
  | [d1, d2, d3, d4] => { results := [.lit (.bool false)], args := [d1, d2, d3, d4] }
  | _ => none }
def LawS930015AComposeWrongFalsely : Prop := lawS930015AComposeRow.holds Ybtm.pinned (OpenSpec.ofChange lawS930015AComposeWrong)

/-- 'expr.LawS930015BMachine': WHATEVER THE INPUT: true; the input reads as it did. -/
def lawS930015BMachineSpec : ChangeSpec := { name := "lawS930015BMachine", fn := fun _ => fun
  | [d] => { results := [.lit (.bool true)], args := [d] }
  | _ => none }
def lawS930015BMachineRow : OpenClaim := { program := "ymbrbt", sum := "59df270c0a210af1fa50f5f85e6d61b9b9dc96450b52313036a9091ffe0b07b6", func := "example.com/own/expr.LawS930015BMachine", spec := "lawS930015BMachine", apart := false }
def LawS930015BMachineSaid : Prop := lawS930015BMachineRow.holds Ybtm.pinned (OpenSpec.ofChange lawS930015BMachineSpec)

/-- ITS FALSE NEIGHBOUR: 'it returns false'. Refute it at one input. -/
def lawS930015BMachineWrong : ChangeSpec := { name := "lawS930015BMachine", fn := fun _ => fun
  | [d] => { results := [.lit (.bool false)], args := [d] }
  | _ => none }
def LawS930015BMachineWrongFalsely : Prop := lawS930015BMachineRow.holds Ybtm.pinned (OpenSpec.ofChange lawS930015BMachineWrong)

/-- 'expr.LawS930015BSpelling': WHATEVER THE INPUT: true; the input reads as it did. -/
def lawS930015BSpellingSpec : ChangeSpec := { name := "lawS930015BSpelling", fn := fun _ => fun
  | [d1, d2, d3] => { results := [.lit (.bool true)], args := [d1, d2, d3] }
  | _ => none }
def lawS930015BSpellingRow : OpenClaim := { program := "ymbrbt", sum := "59df270c0a210af1fa50f5f85e6d61b9b9dc96450b52313036a9091ffe0b07b6", func := "example.com/own/expr.LawS930015BSpelling", spec := "lawS930015BSpelling", apart := false }
def LawS930015BSpellingSaid : Prop := lawS930015BSpellingRow.holds Ybtm.pinned (OpenSpec.ofChange lawS930015BSpellingSpec)

/-- ITS FALSE NEIGHBOUR: 'it returns false'. Refute it at one input. -/
def lawS930015BSpellingWrong : ChangeSpec := { name := "lawS930015BSpelling", fn := fun _ => fun
  | [d1, d2, d3] => { results := [.lit (.bool false)], args := [d1, d2, d3] }
  | _ => none }
def LawS930015BSpellingWrongFalsely : Prop := lawS930015BSpellingRow.holds Ybtm.pinned (OpenSpec.ofChange lawS930015BSpellingWrong)

/-- 'expr.LawS930015BLiteral': WHATEVER THE INPUT: true; the input reads as it did. -/
def lawS930015BLiteralSpec : ChangeSpec := { name := "lawS930015BLiteral", fn := fun _ => fun
  | [d1, d2, d3] => { results := [.lit (.bool true)], args := [d1, d2, d3] }
  | _ => none }
def lawS930015BLiteralRow : OpenClaim := { program := "ymbrbt", sum := "59df270c0a210af1fa50f5f85e6d61b9b9dc96450b52313036a9091ffe0b07b6", func := "example.com/own/expr.LawS930015BLiteral", spec := "lawS930015BLiteral", apart := false }
def LawS930015BLiteralSaid : Prop := lawS930015BLiteralRow.holds Ybtm.pinned (OpenSpec.ofChange lawS930015BLiteralSpec)

/-- ITS FALSE NEIGHBOUR: 'it returns false'. Refute it at one input. -/
def lawS930015BLiteralWrong : ChangeSpec := { name := "lawS930015BLiteral", fn := fun _ => fun
  | [d1, d2, d3] => { results := [.lit (.bool false)], args := [d1, d2, d3] }
  | _ => none }
def LawS930015BLiteralWrongFalsely : Prop := lawS930015BLiteralRow.holds Ybtm.pinned (OpenSpec.ofChange lawS930015BLiteralWrong)

/-- 'expr.LawS930015CExact': WHATEVER THE INPUT: true; the input reads as it did. -/
def lawS930015CExactSpec : ChangeSpec := { name := "lawS930015CExact", fn := fun _ => fun
  | [d1, d2] => { results := [.lit (.bool true)], args := [d1, d2] }
  | _ => none }
def lawS930015CExactRow : OpenClaim := { program := "ymbrbt", sum := "59df270c0a210af1fa50f5f85e6d61b9b9dc96450b52313036a9091ffe0b07b6", func := "example.com/own/expr.LawS930015CExact", spec := "lawS930015CExact", recurses := true, apart := false }
def LawS930015CExactSaid : Prop := lawS930015CExactRow.holds Ybtm.pinned (OpenSpec.ofChange lawS930015CExactSpec)

/-- ITS FALSE NEIGHBOUR: 'it returns false'. Refute it at one input. -/
def lawS930015CExactWrong : ChangeSpec := { name := "lawS930015CExact", fn := fun _ => fun
  | [d1, d2] => { results := [.lit (.bool false)], args := [d1, d2] }
  | _ => none }
def LawS930015CExactWrongFalsely : Prop := lawS930015CExactRow.holds Ybtm.pinned (OpenSpec.ofChange lawS930015CExactWrong)

/-- 'expr.LawS930015CRoundTrip': WHATEVER THE INPUT: true; the input reads as it did. -/
def lawS930015CRoundTripSpec : ChangeSpec := { name := "lawS930015CRoundTrip", fn := fun _ => fun
  | [d] => { results := [.lit (.bool true)], args := [d] }
  | _ => none }
def lawS930015CRoundTripRow : OpenClaim := { program := "ymbrbt", sum := "59df270c0a210af1fa50f5f85e6d61b9b9dc96450b52313036a9091ffe0b07b6", func := "example.com/own/expr.LawS930015CRoundTrip", spec := "lawS930015CRoundTrip", recurses := true, apart := false }
def LawS930015CRoundTripSaid : Prop := lawS930015CRoundTripRow.holds Ybtm.pinned (OpenSpec.ofChange lawS930015CRoundTripSpec)

/-- ITS FALSE NEIGHBOUR: 'it returns false'. Refute it at one input. -/
def lawS930015CRoundTripWrong : ChangeSpec := { name := "lawS930015CRoundTrip", fn := fun _ => fun
  | [d] => { results := [.lit (.bool false)], args := [d] }
  | _ => none }
def LawS930015CRoundTripWrongFalsely : Prop := lawS930015CRoundTripRow.holds Ybtm.pinned (OpenSpec.ofChange lawS930015CRoundTripWrong)

/-- 'expr.LawS930015DExact': WHATEVER THE INPUT: true; the input reads as it did. -/
def lawS930015DExactSpec : ChangeSpec := { name := "lawS930015DExact", fn := fun _ => fun
  | [d] => { results := [.lit (.bool true)], args := [d] }
  | _ => none }
def lawS930015DExactRow : OpenClaim := { program := "ymbrbt", sum := "59df270c0a210af1fa50f5f85e6d61b9b9dc96450b52313036a9091ffe0b07b6", func := "example.com/own/expr.LawS930015DExact", spec := "lawS930015DExact", recurses := true, apart := false }
def LawS930015DExactSaid : Prop := lawS930015DExactRow.holds Ybtm.pinned (OpenSpec.ofChange lawS930015DExactSpec)

/-- ITS FALSE NEIGHBOUR: 'it returns false'. Refute it at one input. -/
def lawS930015DExactWrong : ChangeSpec := { name := "lawS930015DExact", fn := fun _ => fun
  | [d] => { results := [.lit (.bool false)], args := [d] }
  | _ => none }
def LawS930015DExactWrongFalsely : Prop := lawS930015DExactRow.holds Ybtm.pinned (OpenSpec.ofChange lawS930015DExactWrong)

/-- 'expr.LawS930015DRoundTrip': WHATEVER THE INPUT: true; the input reads as it did. -/
def lawS930015DRoundTripSpec : ChangeSpec := { name := "lawS930015DRoundTrip", fn := fun _ => fun
  | [d] => { results := [.lit (.bool true)], args := [d] }
  | _ => none }
def lawS930015DRoundTripRow : OpenClaim := { program := "ymbrbt", sum := "59df270c0a210af1fa50f5f85e6d61b9b9dc96450b52313036a9091ffe0b07b6", func := "example.com/own/expr.LawS930015DRoundTrip", spec := "lawS930015DRoundTrip", apart := false }
def LawS930015DRoundTripSaid : Prop := lawS930015DRoundTripRow.holds Ybtm.pinned (OpenSpec.ofChange lawS930015DRoundTripSpec)

/-- ITS FALSE NEIGHBOUR: 'it returns false'. Refute it at one input. -/
def lawS930015DRoundTripWrong : ChangeSpec := { name := "lawS930015DRoundTrip", fn := fun _ => fun
  | [d] => { results := [.lit (.bool false)], args := [d] }
  | _ => none }
def LawS930015DRoundTripWrongFalsely : Prop := lawS930015DRoundTripRow.holds Ybtm.pinned (OpenSpec.ofChange lawS930015DRoundTripWrong)

/-- 'expr.LawS930015DAccepts': WHATEVER THE INPUT: true; the input reads as it did. -/
def lawS930015DAcceptsSpec : ChangeSpec := { name := "lawS930015DAccepts", fn := fun _ => fun
  | [d] => { results := [.lit (.bool true)], args := [d] }
  | _ => none }
def lawS930015DAcceptsRow : OpenClaim := { program := "ymbrbt", sum := "59df270c0a210af1fa50f5f85e6d61b9b9dc96450b52313036a9091ffe0b07b6", func := "example.com/own/expr.LawS930015DAccepts", spec := "lawS930015DAccepts", apart := false }
def LawS930015DAcceptsSaid : Prop := lawS930015DAcceptsRow.holds Ybtm.pinned (OpenSpec.ofChange lawS930015DAcceptsSpec)

/-- ITS FALSE NEIGHBOUR: 'it returns false'. Refute it at one input. -/
def lawS930015DAcceptsWrong : ChangeSpec := { name := "lawS930015DAccepts", fn := fun _ => fun
  | [d] => { results := [.lit (.bool false)], args := [d] }
  | _ => none }
def LawS930015DAcceptsWrongFalsely : Prop := lawS930015DAcceptsRow.holds Ybtm.pinned (OpenSpec.ofChange lawS930015DAcceptsWrong)

/-- 'expr.LawS930015EValue': WHATEVER THE INPUT: true; the input reads as it did. -/
def lawS930015EValueSpec : ChangeSpec := { name := "lawS930015EValue", fn := fun _ => fun
  | [d1, d2, d3] => { results := [.lit (.bool true)], args := [d1, d2, d3] }
  | _ => none }
def lawS930015EValueRow : OpenClaim := { program := "ymbrbt", sum := "59df270c0a210af1fa50f5f85e6d61b9b9dc96450b52313036a9091ffe0b07b6", func := "example.com/own/expr.LawS930015EValue", spec := "lawS930015EValue", recurses := true, apart := false }
def LawS930015EValueSaid : Prop := lawS930015EValueRow.holds Ybtm.pinned (OpenSpec.ofChange lawS930015EValueSpec)

/-- ITS FALSE NEIGHBOUR: 'it returns false'. Refute it at one input. -/
def lawS930015EValueWrong : ChangeSpec := { name := "lawS930015EValue", fn := fun _ => fun
  | [d1, d2, d3] => { results := [.lit (.bool false)], args := [d1, d2, d3] }
  | _ => none }
def LawS930015EValueWrongFalsely : Prop := lawS930015EValueRow.holds Ybtm.pinned (OpenSpec.ofChange lawS930015EValueWrong)

end Rows
end Go.Proofs.Ymbrbt
