/-
  No cell of these rows narrows 'for every input' (looked for: loops, veiled, ifaces, maps, wideKeys, modest, calm, conditions, laid).
  DERIVED. THE GIVEN ROWS OF THIS SEAT. 2 by the template 'for every input the law returns true; each argument reads behind the call as it read before'; 0 by the template 'total and deterministic' (their statements: YmwhbbTotals.lean).
  GIVEN WITH THE SEED: the statements are not yours to turn. If you find one false, say at which input.
  Laid BY PROGRAM, IN A SANDBOX (cutbox-rows.mjs): the forced cells as the released guide's own fill.sh prints them over the translation d2c2aded89c8de78… (all of the seat's roots in one cut). By AI agents, Wed Nov 11 2026. No macro, syntax, notation, axiom, sorry.
-/
import Derived.Test.YmwhbbChecked
import GoSem.Claim
import GoSem.ClaimJoined
import GoSem.ClaimMapViews
import Derived.JoinedTies
import Derived.KernelRfl
namespace Go.Proofs.Ymwhbb
/- THE CELL 'sum', in the pinned program and in every row, IS THE sha256 OF THE DUMP (.gsa) THAT YmwhbbProg.lean LOADS. Nothing in Lean hashes anything: it is a label: what it is worth is what the hold of that sum in a sandbox is worth. -/
noncomputable def Ybbv.pinned : Pinned := { name := "ymwhbb", sum := "d2c2aded89c8de78c9275f6a6508d211fc8484ee2319b0110c5212249b79d64e", checked := Ybbv.checked }
namespace Rows
def none {H : Type} : Left H := { results := [], args := [] }

/-- 'textwrap.LawS930019QAAWhole': WHATEVER THE INPUT: true; the input reads as it did. -/
def lawS930019QAAWholeSpec : ChangeSpec := { name := "lawS930019QAAWhole", fn := fun _ => fun
  | [d] => { results := [.lit (.bool true)], args := [d] }
  | _ => none }
def lawS930019QAAWholeRow : OpenClaim := { program := "ymwhbb", sum := "d2c2aded89c8de78c9275f6a6508d211fc8484ee2319b0110c5212249b79d64e", func := "example.com/own/textwrap.LawS930019QAAWhole", spec := "lawS930019QAAWhole", apart := false }
def LawS930019QAAWholeSaid : Prop := lawS930019QAAWholeRow.holds Ybbv.pinned (OpenSpec.ofChange lawS930019QAAWholeSpec)

/-- ITS FALSE NEIGHBOUR: 'it returns false'. Refute it at one input. -/
def lawS930019QAAWholeWrong : ChangeSpec := { name := "lawS930019QAAWhole", fn := fun _ => fun
  | [d] => { results := [.lit (.bool false)], args := [d] }
  | _ => none }
def LawS930019QAAWholeWrongFalsely : Prop := lawS930019QAAWholeRow.holds Ybbv.pinned (OpenSpec.ofChange lawS930019QAAWholeWrong)

/-- 'textwrap.LawS930019QABWhole': WHATEVER THE INPUT: true; the input reads as it did. -/
def lawS930019QABWholeSpec : ChangeSpec := { name := "lawS930019QABWhole", fn := fun _ => fun
  | [d] => { results := [.lit (.bool true)], args := [d] }
  | _ => none }
def lawS930019QABWholeRow : OpenClaim := { program := "ymwhbb", sum := "d2c2aded89c8de78c9275f6a6508d211fc8484ee2319b0110c5212249b79d64e", func := "example.com/own/textwrap.LawS930019QABWhole", spec := "lawS930019QABWhole", apart := false }
def LawS930019QABWholeSaid : Prop := lawS930019QABWholeRow.holds Ybbv.pinned (OpenSpec.ofChange lawS930019QABWholeSpec)

/-- ITS FALSE NEIGHBOUR: 'it returns false'. Refute it at one input. -/
def lawS930019QABWholeWrong : ChangeSpec := { name := "lawS930019QABWhole", fn := fun _ => fun
  | [d] => { results := [.lit (.bool false)], args := [d] }
  | _ => none }
def LawS930019QABWholeWrongFalsely : Prop := lawS930019QABWholeRow.holds Ybbv.pinned (OpenSpec.ofChange lawS930019QABWholeWrong)

end Rows
end Go.Proofs.Ymwhbb
