/-
  No cell of these rows narrows 'for every input' (looked for: loops, veiled, ifaces, maps, wideKeys, modest, calm, conditions, laid).
  DERIVED. THE GIVEN ROWS OF THIS SEAT. 12 by the template 'for every input the law returns true; each argument reads behind the call as it read before'; 0 by the template 'total and deterministic' (their statements: YmbrbuTotals.lean).
  GIVEN WITH THE SEED: the statements are not yours to turn. If you find one false, say at which input.
  Laid BY PROGRAM, IN A SANDBOX (cutbox-rows.mjs): the forced cells as the released guide's own fill.sh prints them over the translation a1d13a78de5ee424… (all of the seat's roots in one cut). By AI agents, Wed Nov 11 2026. No macro, syntax, notation, axiom, sorry.
-/
import Derived.Test.YmbrbuChecked
import GoSem.Claim
import GoSem.ClaimJoined
import GoSem.ClaimMapViews
import Derived.JoinedTies
import Derived.KernelRfl
namespace Go.Proofs.Ymbrbu
/- THE CELL 'sum', in the pinned program and in every row, IS THE sha256 OF THE DUMP (.gsa) THAT YmbrbuProg.lean LOADS. Nothing in Lean hashes anything: it is a label: what it is worth is what the hold of that sum in a sandbox is worth. -/
noncomputable def Ybum.pinned : Pinned := { name := "ymbrbu", sum := "a1d13a78de5ee42454ec899f716b542c8afd3104b7dc2725942a04040d545e98", checked := Ybum.checked }
namespace Rows
def none {H : Type} : Left H := { results := [], args := [] }

/-- 'expr.LawS930015EDigits': WHATEVER THE INPUT: true; the input reads as it did. -/
def lawS930015EDigitsSpec : ChangeSpec := { name := "lawS930015EDigits", fn := fun _ => fun
  | [d1, d2] => { results := [.lit (.bool true)], args := [d1, d2] }
  | _ => none }
def lawS930015EDigitsRow : OpenClaim := { program := "ymbrbu", sum := "a1d13a78de5ee42454ec899f716b542c8afd3104b7dc2725942a04040d545e98", func := "example.com/own/expr.LawS930015EDigits", spec := "lawS930015EDigits", recurses := true, apart := false }
def LawS930015EDigitsSaid : Prop := lawS930015EDigitsRow.holds Ybum.pinned (OpenSpec.ofChange lawS930015EDigitsSpec)

/-- ITS FALSE NEIGHBOUR: 'it returns false'. Refute it at one input. -/
def lawS930015EDigitsWrong : ChangeSpec := { name := "lawS930015EDigits", fn := fun _ => fun
  | [d1, d2] => { results := [.lit (.bool false)], args := [d1, d2] }
  | _ => none }
def LawS930015EDigitsWrongFalsely : Prop := lawS930015EDigitsRow.holds Ybum.pinned (OpenSpec.ofChange lawS930015EDigitsWrong)

/-- 'expr.LawS930015FGrammar': WHATEVER THE INPUT: true; the input reads as it did. -/
def lawS930015FGrammarSpec : ChangeSpec := { name := "lawS930015FGrammar", fn := fun _ => fun
  | [d1, d2, d3] => { results := [.lit (.bool true)], args := [d1, d2, d3] }
  | _ => none }
def lawS930015FGrammarRow : OpenClaim := { program := "ymbrbu", sum := "a1d13a78de5ee42454ec899f716b542c8afd3104b7dc2725942a04040d545e98", func := "example.com/own/expr.LawS930015FGrammar", spec := "lawS930015FGrammar", recurses := true, apart := false }
def LawS930015FGrammarSaid : Prop := lawS930015FGrammarRow.holds Ybum.pinned (OpenSpec.ofChange lawS930015FGrammarSpec)

/-- ITS FALSE NEIGHBOUR: 'it returns false'. Refute it at one input. -/
def lawS930015FGrammarWrong : ChangeSpec := { name := "lawS930015FGrammar", fn := fun _ => fun
  | [d1, d2, d3] => { results := [.lit (.bool false)], args := [d1, d2, d3] }
  | _ => none }
def LawS930015FGrammarWrongFalsely : Prop := lawS930015FGrammarRow.holds Ybum.pinned (OpenSpec.ofChange lawS930015FGrammarWrong)

/-- 'expr.LawS930015FNested': WHATEVER THE INPUT: true; the input reads as it did. -/
def lawS930015FNestedSpec : ChangeSpec := { name := "lawS930015FNested", fn := fun _ => fun
  | [d1, d2] => { results := [.lit (.bool true)], args := [d1, d2] }
  | _ => none }
def lawS930015FNestedRow : OpenClaim := { program := "ymbrbu", sum := "a1d13a78de5ee42454ec899f716b542c8afd3104b7dc2725942a04040d545e98", func := "example.com/own/expr.LawS930015FNested", spec := "lawS930015FNested", apart := false }
def LawS930015FNestedSaid : Prop := lawS930015FNestedRow.holds Ybum.pinned (OpenSpec.ofChange lawS930015FNestedSpec)

/-- ITS FALSE NEIGHBOUR: 'it returns false'. Refute it at one input. -/
def lawS930015FNestedWrong : ChangeSpec := { name := "lawS930015FNested", fn := fun _ => fun
  | [d1, d2] => { results := [.lit (.bool false)], args := [d1, d2] }
  | _ => none }
def LawS930015FNestedWrongFalsely : Prop := lawS930015FNestedRow.holds Ybum.pinned (OpenSpec.ofChange lawS930015FNestedWrong)

/-- 'expr.LawS930015FBinary': WHATEVER THE INPUT: true; the input reads as it did. -/
def lawS930015FBinarySpec : ChangeSpec := { name := "lawS930015FBinary", fn := fun _ => fun
  | [d1, d2, d3, d4] => { results := [.lit (.bool true)], args := [d1, d2, d3, d4] }
  | _ => none }
def lawS930015FBinaryRow : OpenClaim := { program := "ymbrbu", sum := "a1d13a78de5ee42454ec899f716b542c8afd3104b7dc2725942a04040d545e98", func := "example.com/own/expr.LawS930015FBinary", spec := "lawS930015FBinary", apart := false }
def LawS930015FBinarySaid : Prop := lawS930015FBinaryRow.holds Ybum.pinned (OpenSpec.ofChange lawS930015FBinarySpec)

/-- ITS FALSE NEIGHBOUR: 'it returns false'. Refute it at one input. -/
def lawS930015FBinaryWrong : ChangeSpec := { name := "lawS930015FBinary", fn := fun _ => fun
  | [d1, d2, d3, d4] => { results := [.lit (.bool false)], args := [d1, d2, d3, d4] }
  | _ => none }
def LawS930015FBinaryWrongFalsely : Prop := lawS930015FBinaryRow.holds Ybum.pinned (OpenSpec.ofChange lawS930015FBinaryWrong)

/-- 'expr.LawS930015GSpec': WHATEVER THE INPUT: true; the input reads as it did. -/
def lawS930015GSpecSpec : ChangeSpec := { name := "lawS930015GSpec", fn := fun _ => fun
  | [d1, d2, d3, d4] => { results := [.lit (.bool true)], args := [d1, d2, d3, d4] }
  | _ => none }
def lawS930015GSpecRow : OpenClaim := { program := "ymbrbu", sum := "a1d13a78de5ee42454ec899f716b542c8afd3104b7dc2725942a04040d545e98", func := "example.com/own/expr.LawS930015GSpec", spec := "lawS930015GSpec", apart := false }
def LawS930015GSpecSaid : Prop := lawS930015GSpecRow.holds Ybum.pinned (OpenSpec.ofChange lawS930015GSpecSpec)

/-- ITS FALSE NEIGHBOUR: 'it returns false'. Refute it at one input. -/
def lawS930015GSpecWrong : ChangeSpec := { name := "lawS930015GSpec", fn := fun _ => fun
  | [d1, d2, d3, d4] => { results := [.lit (.bool false)], args := [d1, d2, d3, d4] }
  | _ => none }
def LawS930015GSpecWrongFalsely : Prop := lawS930015GSpecRow.holds Ybum.pinned (OpenSpec.ofChange lawS930015GSpecWrong)

/-- 'expr.LawS930015GDigits': WHATEVER THE INPUT: true; the input reads as it did. -/
def lawS930015GDigitsSpec : ChangeSpec := { name := "lawS930015GDigits", fn := fun _ => fun
  | [d1, d2, d3] => { results := [.lit (.bool true)], args := [d1, d2, d3] }
  | _ => none }
def lawS930015GDigitsRow : OpenClaim := { program := "ymbrbu", sum := "a1d13a78de5ee42454ec899f716b542c8afd3104b7dc2725942a04040d545e98", func := "example.com/own/expr.LawS930015GDigits", spec := "lawS930015GDigits", apart := false }
def LawS930015GDigitsSaid : Prop := lawS930015GDigitsRow.holds Ybum.pinned (OpenSpec.ofChange lawS930015GDigitsSpec)

/-- ITS FALSE NEIGHBOUR: 'it returns false'. Refute it at one input. -/
def lawS930015GDigitsWrong : ChangeSpec := { name := "lawS930015GDigits", fn := fun _ => fun
  | [d1, d2, d3] => { results := [.lit (.bool false)], args := [d1, d2, d3] }
  | _ => none }
def LawS930015GDigitsWrongFalsely : Prop := lawS930015GDigitsRow.holds Ybum.pinned (OpenSpec.ofChange lawS930015GDigitsWrong)

/-- 'expr.LawS930015GRoundTrip': WHATEVER THE INPUT: true; the input reads as it did. -/
def lawS930015GRoundTripSpec : ChangeSpec := { name := "lawS930015GRoundTrip", fn := fun _ => fun
  | [d1, d2, d3, d4, d5] => { results := [.lit (.bool true)], args := [d1, d2, d3, d4, d5] }
  | _ => none }
def lawS930015GRoundTripRow : OpenClaim := { program := "ymbrbu", sum := "a1d13a78de5ee42454ec899f716b542c8afd3104b7dc2725942a04040d545e98", func := "example.com/own/expr.LawS930015GRoundTrip", spec := "lawS930015GRoundTrip", apart := false }
def LawS930015GRoundTripSaid : Prop := lawS930015GRoundTripRow.holds Ybum.pinned (OpenSpec.ofChange lawS930015GRoundTripSpec)

/-- ITS FALSE NEIGHBOUR: 'it returns false'. Refute it at one input. -/
def lawS930015GRoundTripWrong : ChangeSpec := { name := "lawS930015GRoundTrip", fn := fun _ => fun
  | [d1, d2, d3, d4, d5] => { results := [.lit (.bool false)], args := [d1, d2, d3, d4, d5] }
  | _ => none }
def LawS930015GRoundTripWrongFalsely : Prop := lawS930015GRoundTripRow.holds Ybum.pinned (OpenSpec.ofChange lawS930015GRoundTripWrong)

/-- 'expr.LawS930015HVerdict': WHATEVER THE INPUT: true; the input reads as it did. -/
def lawS930015HVerdictSpec : ChangeSpec := { name := "lawS930015HVerdict", fn := fun _ => fun
  | [d1, d2, d3] => { results := [.lit (.bool true)], args := [d1, d2, d3] }
  | _ => none }
def lawS930015HVerdictRow : OpenClaim := { program := "ymbrbu", sum := "a1d13a78de5ee42454ec899f716b542c8afd3104b7dc2725942a04040d545e98", func := "example.com/own/expr.LawS930015HVerdict", spec := "lawS930015HVerdict", apart := false }
def LawS930015HVerdictSaid : Prop := lawS930015HVerdictRow.holds Ybum.pinned (OpenSpec.ofChange lawS930015HVerdictSpec)

/-- ITS FALSE NEIGHBOUR: 'it returns false'. Refute it at one input. -/
def lawS930015HVerdictWrong : ChangeSpec := { name := "lawS930015HVerdict", fn := fun _ => fun
  | [d1, d2, d3] => { results := [.lit (.bool false)], args := [d1, d2, d3] }
  | _ => none }
def LawS930015HVerdictWrongFalsely : Prop := lawS930015HVerdictRow.holds Ybum.pinned (OpenSpec.ofChange lawS930015HVerdictWrong)

/-- 'expr.LawS930015HFlat': WHATEVER THE INPUT: true; the input reads as it did. -/
def lawS930015HFlatSpec : ChangeSpec := { name := "lawS930015HFlat", fn := fun _ => fun
  | [d1, d2] => { results := [.lit (.bool true)], args := [d1, d2] }
  | _ => none }
def lawS930015HFlatRow : OpenClaim := { program := "ymbrbu", sum := "a1d13a78de5ee42454ec899f716b542c8afd3104b7dc2725942a04040d545e98", func := "example.com/own/expr.LawS930015HFlat", spec := "lawS930015HFlat", apart := false }
def LawS930015HFlatSaid : Prop := lawS930015HFlatRow.holds Ybum.pinned (OpenSpec.ofChange lawS930015HFlatSpec)

/-- ITS FALSE NEIGHBOUR: 'it returns false'. Refute it at one input. -/
def lawS930015HFlatWrong : ChangeSpec := { name := "lawS930015HFlat", fn := fun _ => fun
  | [d1, d2] => { results := [.lit (.bool false)], args := [d1, d2] }
  | _ => none }
def LawS930015HFlatWrongFalsely : Prop := lawS930015HFlatRow.holds Ybum.pinned (OpenSpec.ofChange lawS930015HFlatWrong)

/-- 'expr.LawS930015HTree': WHATEVER THE INPUT: true; the input reads as it did. -/
def lawS930015HTreeSpec : ChangeSpec := { name := "lawS930015HTree", fn := fun _ => fun
  | [d1, d2] => { results := [.lit (.bool true)], args := [d1, d2] }
  | _ => none }
def lawS930015HTreeRow : OpenClaim := { program := "ymbrbu", sum := "a1d13a78de5ee42454ec899f716b542c8afd3104b7dc2725942a04040d545e98", func := "example.com/own/expr.LawS930015HTree", spec := "lawS930015HTree", apart := false }
def LawS930015HTreeSaid : Prop := lawS930015HTreeRow.holds Ybum.pinned (OpenSpec.ofChange lawS930015HTreeSpec)

/-- ITS FALSE NEIGHBOUR: 'it returns false'. Refute it at one input. -/
def lawS930015HTreeWrong : ChangeSpec := { name := "lawS930015HTree", fn := fun _ => fun
  | [d1, d2] => { results := [.lit (.bool false)], args := [d1, d2] }
  | _ => none }
def LawS930015HTreeWrongFalsely : Prop := lawS930015HTreeRow.holds Ybum.pinned (OpenSpec.ofChange lawS930015HTreeWrong)

/-- 'expr.LawS930015IExact': WHATEVER THE INPUT: true; the input reads as it did. -/
def lawS930015IExactSpec : ChangeSpec := { name := "lawS930015IExact", fn := fun _ => fun
  | [d1, d2, d3, d4] => { results := [.lit (.bool true)], args := [d1, d2, d3, d4] }
  | _ => none }
def lawS930015IExactRow : OpenClaim := { program := "ymbrbu", sum := "a1d13a78de5ee42454ec899f716b542c8afd3104b7dc2725942a04040d545e98", func := "example.com/own/expr.LawS930015IExact", spec := "lawS930015IExact", apart := false }
def LawS930015IExactSaid : Prop := lawS930015IExactRow.holds Ybum.pinned (OpenSpec.ofChange lawS930015IExactSpec)

/-- ITS FALSE NEIGHBOUR: 'it returns false'. Refute it at one input. -/
def lawS930015IExactWrong : ChangeSpec := { name := "lawS930015IExact", fn := fun _ => fun
  | [d1, d2, d3, d4] => { results := [.lit (.bool false)], args := [d1, d2, d3, d4] }
  | _ => none }
def LawS930015IExactWrongFalsely : Prop := lawS930015IExactRow.holds Ybum.pinned (OpenSpec.ofChange lawS930015IExactWrong)

/-- 'expr.LawS930015IStages': WHATEVER THE INPUT: true; the input reads as it did. -/
def lawS930015IStagesSpec : ChangeSpec := { name := "lawS930015IStages", fn := fun _ => fun
  | [d1, d2, d3, d4, d5] => { results := [.lit (.bool true)], args := [d1, d2, d3, d4, d5] }
  | _ => none }
def lawS930015IStagesRow : OpenClaim := { program := "ymbrbu", sum := "a1d13a78de5ee42454ec899f716b542c8afd3104b7dc2725942a04040d545e98", func := "example.com/own/expr.LawS930015IStages", spec := "lawS930015IStages", apart := false }
def LawS930015IStagesSaid : Prop := lawS930015IStagesRow.holds Ybum.pinned (OpenSpec.ofChange lawS930015IStagesSpec)

/-- ITS FALSE NEIGHBOUR: 'it returns false'. Refute it at one input. -/
def lawS930015IStagesWrong : ChangeSpec := { name := "lawS930015IStages", fn := fun _ => fun
  | [d1, d2, d3, d4, d5] => { results := [.lit (.bool false)], args := [d1, d2, d3, d4, d5] }
  | _ => none }
def LawS930015IStagesWrongFalsely : Prop := lawS930015IStagesRow.holds Ybum.pinned (OpenSpec.ofChange lawS930015IStagesWrong)

end Rows
end Go.Proofs.Ymbrbu
