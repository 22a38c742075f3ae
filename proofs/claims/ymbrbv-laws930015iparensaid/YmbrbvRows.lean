/-
  No cell of these rows narrows 'for every input' (looked for: loops, veiled, ifaces, maps, wideKeys, modest, calm, conditions, laid).
  DERIVED. THE GIVEN ROWS OF THIS SEAT. 10 by the template 'for every input the law returns true; each argument reads behind the call as it read before'; 0 by the template 'total and deterministic' (their statements: YmbrbvTotals.lean).
  GIVEN WITH THE SEED: the statements are not yours to turn. If you find one false, say at which input.
  Laid BY PROGRAM, IN A SANDBOX (cutbox-rows.mjs): the forced cells as the released guide's own fill.sh prints them over the translation 705baffe6f55f21a… (all of the seat's roots in one cut). By AI agents, Wed Nov 11 2026. No macro, syntax, notation, axiom, sorry.
-/
import Derived.Test.YmbrbvChecked
import GoSem.Claim
import GoSem.ClaimJoined
import GoSem.ClaimMapViews
import Derived.JoinedTies
import Derived.KernelRfl
namespace Go.Proofs.Ymbrbv
/- THE CELL 'sum', in the pinned program and in every row, IS THE sha256 OF THE DUMP (.gsa) THAT YmbrbvProg.lean LOADS. Nothing in Lean hashes anything: it is a label: what it is worth is what the hold of that sum in a sandbox is worth. -/
noncomputable def Ybvm.pinned : Pinned := { name := "ymbrbv", sum := "705baffe6f55f21ae9a5faf85c1441dac0f8230d18fa59970d8498b2a6fdf7b6", checked := Ybvm.checked }
namespace Rows
def none {H : Type} : Left H := { results := [], args := [] }

/-- 'expr.LawS930015IParen': WHATEVER THE INPUT: true; the input reads as it did. -/
def lawS930015IParenSpec : ChangeSpec := { name := "lawS930015IParen", fn := fun _ => fun
  | [d1, d2] => { results := [.lit (.bool true)], args := [d1, d2] }
  | _ => none }
def lawS930015IParenRow : OpenClaim := { program := "ymbrbv", sum := "705baffe6f55f21ae9a5faf85c1441dac0f8230d18fa59970d8498b2a6fdf7b6", func := "example.com/own/expr.LawS930015IParen", spec := "lawS930015IParen", apart := false }
def LawS930015IParenSaid : Prop := lawS930015IParenRow.holds Ybvm.pinned (OpenSpec.ofChange lawS930015IParenSpec)

/-- ITS FALSE NEIGHBOUR: 'it returns false'. Refute it at one input. -/
def lawS930015IParenWrong : ChangeSpec := { name := "lawS930015IParen", fn := fun _ => fun
  | [d1, d2] => { results := [.lit (.bool false)], args := [d1, d2] }
  | _ => none }
def LawS930015IParenWrongFalsely : Prop := lawS930015IParenRow.holds Ybvm.pinned (OpenSpec.ofChange lawS930015IParenWrong)

/-- 'expr.LawS930015JSums': WHATEVER THE INPUT: true; the input reads as it did. -/
def lawS930015JSumsSpec : ChangeSpec := { name := "lawS930015JSums", fn := fun _ => fun
  | [d1, d2, d3, d4, d5] => { results := [.lit (.bool true)], args := [d1, d2, d3, d4, d5] }
  | _ => none }
def lawS930015JSumsRow : OpenClaim := { program := "ymbrbv", sum := "705baffe6f55f21ae9a5faf85c1441dac0f8230d18fa59970d8498b2a6fdf7b6", func := "example.com/own/expr.LawS930015JSums", spec := "lawS930015JSums", apart := false }
def LawS930015JSumsSaid : Prop := lawS930015JSumsRow.holds Ybvm.pinned (OpenSpec.ofChange lawS930015JSumsSpec)

/-- ITS FALSE NEIGHBOUR: 'it returns false'. Refute it at one input. -/
def lawS930015JSumsWrong : ChangeSpec := { name := "lawS930015JSums", fn := fun _ => fun
  | [d1, d2, d3, d4, d5] => { results := [.lit (.bool false)], args := [d1, d2, d3, d4, d5] }
  | _ => none }
def LawS930015JSumsWrongFalsely : Prop := lawS930015JSumsRow.holds Ybvm.pinned (OpenSpec.ofChange lawS930015JSumsWrong)

/-- 'expr.LawS930015JProducts': WHATEVER THE INPUT: true; the input reads as it did. -/
def lawS930015JProductsSpec : ChangeSpec := { name := "lawS930015JProducts", fn := fun _ => fun
  | [d1, d2, d3, d4, d5] => { results := [.lit (.bool true)], args := [d1, d2, d3, d4, d5] }
  | _ => none }
def lawS930015JProductsRow : OpenClaim := { program := "ymbrbv", sum := "705baffe6f55f21ae9a5faf85c1441dac0f8230d18fa59970d8498b2a6fdf7b6", func := "example.com/own/expr.LawS930015JProducts", spec := "lawS930015JProducts", apart := false }
def LawS930015JProductsSaid : Prop := lawS930015JProductsRow.holds Ybvm.pinned (OpenSpec.ofChange lawS930015JProductsSpec)

/-- ITS FALSE NEIGHBOUR: 'it returns false'. Refute it at one input. -/
def lawS930015JProductsWrong : ChangeSpec := { name := "lawS930015JProducts", fn := fun _ => fun
  | [d1, d2, d3, d4, d5] => { results := [.lit (.bool false)], args := [d1, d2, d3, d4, d5] }
  | _ => none }
def LawS930015JProductsWrongFalsely : Prop := lawS930015JProductsRow.holds Ybvm.pinned (OpenSpec.ofChange lawS930015JProductsWrong)

/-- 'expr.LawS930015JCodes': WHATEVER THE INPUT: true; the input reads as it did. -/
def lawS930015JCodesSpec : ChangeSpec := { name := "lawS930015JCodes", fn := fun _ => fun
  | [d1, d2, d3, d4, d5, d6] => { results := [.lit (.bool true)], args := [d1, d2, d3, d4, d5, d6] }
  | _ => none }
def lawS930015JCodesRow : OpenClaim := { program := "ymbrbv", sum := "705baffe6f55f21ae9a5faf85c1441dac0f8230d18fa59970d8498b2a6fdf7b6", func := "example.com/own/expr.LawS930015JCodes", spec := "lawS930015JCodes", apart := false }
def LawS930015JCodesSaid : Prop := lawS930015JCodesRow.holds Ybvm.pinned (OpenSpec.ofChange lawS930015JCodesSpec)

/-- ITS FALSE NEIGHBOUR: 'it returns false'. Refute it at one input. -/
def lawS930015JCodesWrong : ChangeSpec := { name := "lawS930015JCodes", fn := fun _ => fun
  | [d1, d2, d3, d4, d5, d6] => { results := [.lit (.bool false)], args := [d1, d2, d3, d4, d5, d6] }
  | _ => none }
def LawS930015JCodesWrongFalsely : Prop := lawS930015JCodesRow.holds Ybvm.pinned (OpenSpec.ofChange lawS930015JCodesWrong)

/-- 'expr.LawS930015KExact': WHATEVER THE INPUT: true; the input reads as it did. -/
def lawS930015KExactSpec : ChangeSpec := { name := "lawS930015KExact", fn := fun _ => fun
  | [d1, d2] => { results := [.lit (.bool true)], args := [d1, d2] }
  | _ => none }
def lawS930015KExactRow : OpenClaim := { program := "ymbrbv", sum := "705baffe6f55f21ae9a5faf85c1441dac0f8230d18fa59970d8498b2a6fdf7b6", func := "example.com/own/expr.LawS930015KExact", spec := "lawS930015KExact", apart := false }
def LawS930015KExactSaid : Prop := lawS930015KExactRow.holds Ybvm.pinned (OpenSpec.ofChange lawS930015KExactSpec)

/-- ITS FALSE NEIGHBOUR: 'it returns false'. Refute it at one input. -/
def lawS930015KExactWrong : ChangeSpec := { name := "lawS930015KExact", fn := fun _ => fun
  | [d1, d2] => { results := [.lit (.bool false)], args := [d1, d2] }
  | _ => none }
def LawS930015KExactWrongFalsely : Prop := lawS930015KExactRow.holds Ybvm.pinned (OpenSpec.ofChange lawS930015KExactWrong)

/-- 'expr.LawS930015KEdge': WHATEVER THE INPUT: true; the input reads as it did. -/
def lawS930015KEdgeSpec : ChangeSpec := { name := "lawS930015KEdge", fn := fun _ => fun
  | [d] => { results := [.lit (.bool true)], args := [d] }
  | _ => none }
def lawS930015KEdgeRow : OpenClaim := { program := "ymbrbv", sum := "705baffe6f55f21ae9a5faf85c1441dac0f8230d18fa59970d8498b2a6fdf7b6", func := "example.com/own/expr.LawS930015KEdge", spec := "lawS930015KEdge", apart := false }
def LawS930015KEdgeSaid : Prop := lawS930015KEdgeRow.holds Ybvm.pinned (OpenSpec.ofChange lawS930015KEdgeSpec)

/-- ITS FALSE NEIGHBOUR: 'it returns false'. Refute it at one input. -/
def lawS930015KEdgeWrong : ChangeSpec := { name := "lawS930015KEdge", fn := fun _ => fun
  | [d] => { results := [.lit (.bool false)], args := [d] }
  | _ => none }
def LawS930015KEdgeWrongFalsely : Prop := lawS930015KEdgeRow.holds Ybvm.pinned (OpenSpec.ofChange lawS930015KEdgeWrong)

/-- 'expr.LawS930015KSwap': WHATEVER THE INPUT: true; the input reads as it did. -/
def lawS930015KSwapSpec : ChangeSpec := { name := "lawS930015KSwap", fn := fun _ => fun
  | [d1, d2] => { results := [.lit (.bool true)], args := [d1, d2] }
  | _ => none }
def lawS930015KSwapRow : OpenClaim := { program := "ymbrbv", sum := "705baffe6f55f21ae9a5faf85c1441dac0f8230d18fa59970d8498b2a6fdf7b6", func := "example.com/own/expr.LawS930015KSwap", spec := "lawS930015KSwap", apart := false }
def LawS930015KSwapSaid : Prop := lawS930015KSwapRow.holds Ybvm.pinned (OpenSpec.ofChange lawS930015KSwapSpec)

/-- ITS FALSE NEIGHBOUR: 'it returns false'. Refute it at one input. -/
def lawS930015KSwapWrong : ChangeSpec := { name := "lawS930015KSwap", fn := fun _ => fun
  | [d1, d2] => { results := [.lit (.bool false)], args := [d1, d2] }
  | _ => none }
def LawS930015KSwapWrongFalsely : Prop := lawS930015KSwapRow.holds Ybvm.pinned (OpenSpec.ofChange lawS930015KSwapWrong)

/-- 'expr.LawS930015LExact': WHATEVER THE INPUT: true; the input reads as it did. -/
def lawS930015LExactSpec : ChangeSpec := { name := "lawS930015LExact", fn := fun _ => fun
  | [d1, d2] => { results := [.lit (.bool true)], args := [d1, d2] }
  | _ => none }
def lawS930015LExactRow : OpenClaim := { program := "ymbrbv", sum := "705baffe6f55f21ae9a5faf85c1441dac0f8230d18fa59970d8498b2a6fdf7b6", func := "example.com/own/expr.LawS930015LExact", spec := "lawS930015LExact", apart := false }
def LawS930015LExactSaid : Prop := lawS930015LExactRow.holds Ybvm.pinned (OpenSpec.ofChange lawS930015LExactSpec)

/-- ITS FALSE NEIGHBOUR: 'it returns false'. Refute it at one input. -/
def lawS930015LExactWrong : ChangeSpec := { name := "lawS930015LExact", fn := fun _ => fun
  | [d1, d2] => { results := [.lit (.bool false)], args := [d1, d2] }
  | _ => none }
def LawS930015LExactWrongFalsely : Prop := lawS930015LExactRow.holds Ybvm.pinned (OpenSpec.ofChange lawS930015LExactWrong)

/-- 'expr.LawS930015LFlip': WHATEVER THE INPUT: true; the input reads as it did. -/
def lawS930015LFlipSpec : ChangeSpec := { name := "lawS930015LFlip", fn := fun _ => fun
  | [d1, d2, d3] => { results := [.lit (.bool true)], args := [d1, d2, d3] }
  | _ => none }
def lawS930015LFlipRow : OpenClaim := { program := "ymbrbv", sum := "705baffe6f55f21ae9a5faf85c1441dac0f8230d18fa59970d8498b2a6fdf7b6", func := "example.com/own/expr.LawS930015LFlip", spec := "lawS930015LFlip", apart := false }
def LawS930015LFlipSaid : Prop := lawS930015LFlipRow.holds Ybvm.pinned (OpenSpec.ofChange lawS930015LFlipSpec)

/-- ITS FALSE NEIGHBOUR: 'it returns false'. Refute it at one input. -/
def lawS930015LFlipWrong : ChangeSpec := { name := "lawS930015LFlip", fn := fun _ => fun
  | [d1, d2, d3] => { results := [.lit (.bool false)], args := [d1, d2, d3] }
  | _ => none }
def LawS930015LFlipWrongFalsely : Prop := lawS930015LFlipRow.holds Ybvm.pinned (OpenSpec.ofChange lawS930015LFlipWrong)

/-- 'expr.LawS930015LJoin': WHATEVER THE INPUT: true; the input reads as it did. -/
def lawS930015LJoinSpec : ChangeSpec := { name := "lawS930015LJoin", fn := fun _ => fun
  | [d1, d2, d3] => { results := [.lit (.bool true)], args := [d1, d2, d3] }
  | _ => none }
def lawS930015LJoinRow : OpenClaim := { program := "ymbrbv", sum := "705baffe6f55f21ae9a5faf85c1441dac0f8230d18fa59970d8498b2a6fdf7b6", func := "example.com/own/expr.LawS930015LJoin", spec := "lawS930015LJoin", apart := false }
def LawS930015LJoinSaid : Prop := lawS930015LJoinRow.holds Ybvm.pinned (OpenSpec.ofChange lawS930015LJoinSpec)

/-- ITS FALSE NEIGHBOUR: 'it returns false'. Refute it at one input. -/
def lawS930015LJoinWrong : ChangeSpec := { name := "lawS930015LJoin", fn := fun _ => fun
  | [d1, d2, d3] => { results := [.lit (.bool false)], args := [d1, d2, d3] }
  | _ => none }
def LawS930015LJoinWrongFalsely : Prop := lawS930015LJoinRow.holds Ybvm.pinned (OpenSpec.ofChange lawS930015LJoinWrong)

end Rows
end Go.Proofs.Ymbrbv
