/-
  No cell of these rows narrows 'for every input' (looked for: loops, veiled, ifaces, maps, wideKeys, modest, calm, conditions, laid).
  DERIVED. THE GIVEN ROWS OF THIS SEAT. 6 by the template 'for every input the law returns true; each argument reads behind the call as it read before'; 0 by the template 'total and deterministic' (their statements: YmwhapTotals.lean).
  GIVEN WITH THE SEED: the statements are not yours to turn. If you find one false, say at which input.
  Laid BY PROGRAM, IN A SANDBOX (cutbox-rows.mjs): the forced cells as the released guide's own fill.sh prints them over the translation 2aa4cfb030dfb8aa… (all of the seat's roots in one cut). By AI agents, Wed Nov 11 2026. No macro, syntax, notation, axiom, sorry.
-/
import Derived.Test.YmwhapChecked
import GoSem.Claim
import GoSem.ClaimJoined
import GoSem.ClaimMapViews
import Derived.JoinedTies
import Derived.KernelRfl
namespace Go.Proofs.Ymwhap
/- THE CELL 'sum', in the pinned program and in every row, IS THE sha256 OF THE DUMP (.gsa) THAT YmwhapProg.lean LOADS. Nothing in Lean hashes anything: it is a label: what it is worth is what the hold of that sum in a sandbox is worth. -/
noncomputable def Yapv.pinned : Pinned := { name := "ymwhap", sum := "2aa4cfb030dfb8aa22f18913b1105be158f3d5aec7abfe4db406504a4651dee2", checked := Yapv.checked }
namespace Rows
def none {H : Type} : Left H := { results := [], args := [] }

/-- 'interval.LawS930006QAAWhole': WHATEVER THE INPUT: true; the input reads as it did. -/
def lawS930006QAAWholeSpec : ChangeSpec := { name := "lawS930006QAAWhole", fn := fun _ => fun
  | [d1, d2] => { results := [.lit (.bool true)], args := [d1, d2] }
  | _ => none }
def lawS930006QAAWholeRow : OpenClaim := { program := "ymwhap", sum := "2aa4cfb030dfb8aa22f18913b1105be158f3d5aec7abfe4db406504a4651dee2", func := "example.com/own/interval.LawS930006QAAWhole", spec := "lawS930006QAAWhole", apart := false }
def LawS930006QAAWholeSaid : Prop := lawS930006QAAWholeRow.holds Yapv.pinned (OpenSpec.ofChange lawS930006QAAWholeSpec)

/-- ITS FALSE NEIGHBOUR: 'it returns false'. Refute it at one input. -/
def lawS930006QAAWholeWrong : ChangeSpec := { name := "lawS930006QAAWhole", fn := fun _ => fun
  | [d1, d2] => { results := [.lit (.bool false)], args := [d1, d2] }
  | _ => none }
def LawS930006QAAWholeWrongFalsely : Prop := lawS930006QAAWholeRow.holds Yapv.pinned (OpenSpec.ofChange lawS930006QAAWholeWrong)

/-- 'interval.LawS930006QAEWhole': WHATEVER THE INPUT: true; the input reads as it did. -/
def lawS930006QAEWholeSpec : ChangeSpec := { name := "lawS930006QAEWhole", fn := fun _ => fun
  | [d1, d2] => { results := [.lit (.bool true)], args := [d1, d2] }
  | _ => none }
def lawS930006QAEWholeRow : OpenClaim := { program := "ymwhap", sum := "2aa4cfb030dfb8aa22f18913b1105be158f3d5aec7abfe4db406504a4651dee2", func := "example.com/own/interval.LawS930006QAEWhole", spec := "lawS930006QAEWhole", apart := false }
def LawS930006QAEWholeSaid : Prop := lawS930006QAEWholeRow.holds Yapv.pinned (OpenSpec.ofChange lawS930006QAEWholeSpec)

/-- ITS FALSE NEIGHBOUR: 'it returns false'. Refute it at one input. -/
def lawS930006QAEWholeWrong : ChangeSpec := { name := "lawS930006QAEWhole", fn := fun _ => fun
  | [d1, d2] => { results := [.lit (.bool false)], args := [d1, d2] }
  | _ => none }
def LawS930006QAEWholeWrongFalsely : Prop := lawS930006QAEWholeRow.holds Yapv.pinned (OpenSpec.ofChange lawS930006QAEWholeWrong)

/-- 'interval.LawS930006QABWhole': WHATEVER THE INPUT: true; the input reads as it did. -/
def lawS930006QABWholeSpec : ChangeSpec := { name := "lawS930006QABWhole", fn := fun _ => fun
  | [d1, d2] => { results := [.lit (.bool true)], args := [d1, d2] }
  | _ => none }
def lawS930006QABWholeRow : OpenClaim := { program := "ymwhap", sum := "2aa4cfb030dfb8aa22f18913b1105be158f3d5aec7abfe4db406504a4651dee2", func := "example.com/own/interval.LawS930006QABWhole", spec := "lawS930006QABWhole", apart := false }
def LawS930006QABWholeSaid : Prop := lawS930006QABWholeRow.holds Yapv.pinned (OpenSpec.ofChange lawS930006QABWholeSpec)

/-- ITS FALSE NEIGHBOUR: 'it returns false'. Refute it at one input. -/
def lawS930006QABWholeWrong : ChangeSpec := { name := "lawS930006QABWhole", fn := fun _ => fun
  | [d1, d2] => { results := [.lit (.bool false)], args := [d1, d2] }
  | _ => none }
def LawS930006QABWholeWrongFalsely : Prop := lawS930006QABWholeRow.holds Yapv.pinned (OpenSpec.ofChange lawS930006QABWholeWrong)

/-- 'interval.LawS930006QADWhole': WHATEVER THE INPUT: true; the input reads as it did. -/
def lawS930006QADWholeSpec : ChangeSpec := { name := "lawS930006QADWhole", fn := fun _ => fun
  | [d] => { results := [.lit (.bool true)], args := [d] }
  | _ => none }
def lawS930006QADWholeRow : OpenClaim := { program := "ymwhap", sum := "2aa4cfb030dfb8aa22f18913b1105be158f3d5aec7abfe4db406504a4651dee2", func := "example.com/own/interval.LawS930006QADWhole", spec := "lawS930006QADWhole", recurses := true, apart := false }
def LawS930006QADWholeSaid : Prop := lawS930006QADWholeRow.holds Yapv.pinned (OpenSpec.ofChange lawS930006QADWholeSpec)

/-- ITS FALSE NEIGHBOUR: 'it returns false'. Refute it at one input. -/
def lawS930006QADWholeWrong : ChangeSpec := { name := "lawS930006QADWhole", fn := fun _ => fun
  | [d] => { results := [.lit (.bool false)], args := [d] }
  | _ => none }
def LawS930006QADWholeWrongFalsely : Prop := lawS930006QADWholeRow.holds Yapv.pinned (OpenSpec.ofChange lawS930006QADWholeWrong)

/-- 'interval.LawS930006QAFWhole': WHATEVER THE INPUT: true; the input reads as it did. -/
def lawS930006QAFWholeSpec : ChangeSpec := { name := "lawS930006QAFWhole", fn := fun _ => fun
  | [d1, d2, d3] => { results := [.lit (.bool true)], args := [d1, d2, d3] }
  | _ => none }
def lawS930006QAFWholeRow : OpenClaim := { program := "ymwhap", sum := "2aa4cfb030dfb8aa22f18913b1105be158f3d5aec7abfe4db406504a4651dee2", func := "example.com/own/interval.LawS930006QAFWhole", spec := "lawS930006QAFWhole", apart := false }
def LawS930006QAFWholeSaid : Prop := lawS930006QAFWholeRow.holds Yapv.pinned (OpenSpec.ofChange lawS930006QAFWholeSpec)

/-- ITS FALSE NEIGHBOUR: 'it returns false'. Refute it at one input. -/
def lawS930006QAFWholeWrong : ChangeSpec := { name := "lawS930006QAFWhole", fn := fun _ => fun
  | [d1, d2, d3] => { results := [.lit (.bool false)], args := [d1, d2, d3] }
  | _ => none }
def LawS930006QAFWholeWrongFalsely : Prop := lawS930006QAFWholeRow.holds Yapv.pinned (OpenSpec.ofChange lawS930006QAFWholeWrong)

/-- 'interval.LawS930006QACWhole': WHATEVER THE INPUT: true; the input reads as it did. -/
def lawS930006QACWholeSpec : ChangeSpec := { name := "lawS930006QACWhole", fn := fun _ => fun
  | [d1, d2] => { results := [.lit (.bool true)], args := [d1, d2] }
  | _ => none }
def lawS930006QACWholeRow : OpenClaim := { program := "ymwhap", sum := "2aa4cfb030dfb8aa22f18913b1105be158f3d5aec7abfe4db406504a4651dee2", func := "example.com/own/interval.LawS930006QACWhole", spec := "lawS930006QACWhole", apart := false }
def LawS930006QACWholeSaid : Prop := lawS930006QACWholeRow.holds Yapv.pinned (OpenSpec.ofChange lawS930006QACWholeSpec)

/-- ITS FALSE NEIGHBOUR: 'it returns false'. Refute it at one input. -/
def lawS930006QACWholeWrong : ChangeSpec := { name := "lawS930006QACWhole", fn := fun _ => fun
  | [d1, d2] => { results := [.lit (.bool false)], args := [d1, d2] }
  | _ => none }
def LawS930006QACWholeWrongFalsely : Prop := lawS930006QACWholeRow.holds Yapv.pinned (OpenSpec.ofChange lawS930006QACWholeWrong)

end Rows
end Go.Proofs.Ymwhap
