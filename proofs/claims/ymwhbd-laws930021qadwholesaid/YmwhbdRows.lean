/-
  No cell of these rows narrows 'for every input' (looked for: loops, veiled, ifaces, maps, wideKeys, modest, calm, conditions, laid).
  DERIVED. THE GIVEN ROWS OF THIS SEAT. 5 by the template 'for every input the law returns true; each argument reads behind the call as it read before'; 0 by the template 'total and deterministic' (their statements: YmwhbdTotals.lean).
  GIVEN WITH THE SEED: the statements are not yours to turn. If you find one false, say at which input.
  Laid BY PROGRAM, IN A SANDBOX (cutbox-rows.mjs): the forced cells as the released guide's own fill.sh prints them over the translation 92cc4f25b244c1e0… (all of the seat's roots in one cut). By AI agents, Wed Nov 11 2026. No macro, syntax, notation, axiom, sorry.
-/
import Derived.Test.YmwhbdChecked
import GoSem.Claim
import GoSem.ClaimJoined
import GoSem.ClaimMapViews
import Derived.JoinedTies
import Derived.KernelRfl
namespace Go.Proofs.Ymwhbd
/- THE CELL 'sum', in the pinned program and in every row, IS THE sha256 OF THE DUMP (.gsa) THAT YmwhbdProg.lean LOADS. Nothing in Lean hashes anything: it is a label: what it is worth is what the hold of that sum in a sandbox is worth. -/
noncomputable def Ybdv.pinned : Pinned := { name := "ymwhbd", sum := "92cc4f25b244c1e04a1075eb1f2837dadc46624815b85d565f276ca9f3cbac52", checked := Ybdv.checked }
namespace Rows
def none {H : Type} : Left H := { results := [], args := [] }

/-- 'topo.LawS930021QABWhole': WHATEVER THE INPUT: true; the input reads as it did. -/
def lawS930021QABWholeSpec : ChangeSpec := { name := "lawS930021QABWhole", fn := fun _ => fun
  | [d1, d2] => { results := [.lit (.bool true)], args := [d1, d2] }
  | _ => none }
def lawS930021QABWholeRow : OpenClaim := { program := "ymwhbd", sum := "92cc4f25b244c1e04a1075eb1f2837dadc46624815b85d565f276ca9f3cbac52", func := "example.com/own/topo.LawS930021QABWhole", spec := "lawS930021QABWhole", apart := false }
def LawS930021QABWholeSaid : Prop := lawS930021QABWholeRow.holds Ybdv.pinned (OpenSpec.ofChange lawS930021QABWholeSpec)

/-- ITS FALSE NEIGHBOUR: 'it returns false'. Refute it at one input. -/
def lawS930021QABWholeWrong : ChangeSpec := { name := "lawS930021QABWhole", fn := fun _ => fun
  | [d1, d2] => { results := [.lit (.bool false)], args := [d1, d2] }
  | _ => none }
def LawS930021QABWholeWrongFalsely : Prop := lawS930021QABWholeRow.holds Ybdv.pinned (OpenSpec.ofChange lawS930021QABWholeWrong)

/-- 'topo.LawS930021QACWhole': WHATEVER THE INPUT: true; the input reads as it did. -/
def lawS930021QACWholeSpec : ChangeSpec := { name := "lawS930021QACWhole", fn := fun _ => fun
  | [d1, d2] => { results := [.lit (.bool true)], args := [d1, d2] }
  | _ => none }
def lawS930021QACWholeRow : OpenClaim := { program := "ymwhbd", sum := "92cc4f25b244c1e04a1075eb1f2837dadc46624815b85d565f276ca9f3cbac52", func := "example.com/own/topo.LawS930021QACWhole", spec := "lawS930021QACWhole", apart := false }
def LawS930021QACWholeSaid : Prop := lawS930021QACWholeRow.holds Ybdv.pinned (OpenSpec.ofChange lawS930021QACWholeSpec)

/-- ITS FALSE NEIGHBOUR: 'it returns false'. Refute it at one input. -/
def lawS930021QACWholeWrong : ChangeSpec := { name := "lawS930021QACWhole", fn := fun _ => fun
  | [d1, d2] => { results := [.lit (.bool false)], args := [d1, d2] }
  | _ => none }
def LawS930021QACWholeWrongFalsely : Prop := lawS930021QACWholeRow.holds Ybdv.pinned (OpenSpec.ofChange lawS930021QACWholeWrong)

/-- 'topo.LawS930021QAAWhole': WHATEVER THE INPUT: true; the input reads as it did. -/
def lawS930021QAAWholeSpec : ChangeSpec := { name := "lawS930021QAAWhole", fn := fun _ => fun
  | [d1, d2, d3, d4] => { results := [.lit (.bool true)], args := [d1, d2, d3, d4] }
  | _ => none }
def lawS930021QAAWholeRow : OpenClaim := { program := "ymwhbd", sum := "92cc4f25b244c1e04a1075eb1f2837dadc46624815b85d565f276ca9f3cbac52", func := "example.com/own/topo.LawS930021QAAWhole", spec := "lawS930021QAAWhole", apart := false }
def LawS930021QAAWholeSaid : Prop := lawS930021QAAWholeRow.holds Ybdv.pinned (OpenSpec.ofChange lawS930021QAAWholeSpec)

/-- ITS FALSE NEIGHBOUR: 'it returns false'. Refute it at one input. -/
def lawS930021QAAWholeWrong : ChangeSpec := { name := "lawS930021QAAWhole", fn := fun _ => fun
  | [d1, d2, d3, d4] => { results := [.lit (.bool false)], args := [d1, d2, d3, d4] }
  | _ => none }
def LawS930021QAAWholeWrongFalsely : Prop := lawS930021QAAWholeRow.holds Ybdv.pinned (OpenSpec.ofChange lawS930021QAAWholeWrong)

/-- 'topo.LawS930021QAEWhole': WHATEVER THE INPUT: true; the input reads as it did. -/
def lawS930021QAEWholeSpec : ChangeSpec := { name := "lawS930021QAEWhole", fn := fun _ => fun
  | [d1, d2, d3, d4] => { results := [.lit (.bool true)], args := [d1, d2, d3, d4] }
  | _ => none }
def lawS930021QAEWholeRow : OpenClaim := { program := "ymwhbd", sum := "92cc4f25b244c1e04a1075eb1f2837dadc46624815b85d565f276ca9f3cbac52", func := "example.com/own/topo.LawS930021QAEWhole", spec := "lawS930021QAEWhole", apart := false }
def LawS930021QAEWholeSaid : Prop := lawS930021QAEWholeRow.holds Ybdv.pinned (OpenSpec.ofChange lawS930021QAEWholeSpec)

/-- ITS FALSE NEIGHBOUR: 'it returns false'. Refute it at one input. -/
def lawS930021QAEWholeWrong : ChangeSpec := { name := "lawS930021QAEWhole", fn := fun _ => fun
  | [d1, d2, d3, d4] => { results := [.lit (.bool false)], args := [d1, d2, d3, d4] }
  | _ => none }
def LawS930021QAEWholeWrongFalsely : Prop := lawS930021QAEWholeRow.holds Ybdv.pinned (OpenSpec.ofChange lawS930021QAEWholeWrong)

/-- 'topo.LawS930021QADWhole': WHATEVER THE INPUT: true; the input reads as it did. -/
def lawS930021QADWholeSpec : ChangeSpec := { name := "lawS930021QADWhole", fn := fun _ => fun
  | [d1, d2] => { results := [.lit (.bool true)], args := [d1, d2] }
  | _ => none }
def lawS930021QADWholeRow : OpenClaim := { program := "ymwhbd", sum := "92cc4f25b244c1e04a1075eb1f2837dadc46624815b85d565f276ca9f3cbac52", func := "example.com/own/topo.LawS930021QADWhole", spec := "lawS930021QADWhole", apart := false }
def LawS930021QADWholeSaid : Prop := lawS930021QADWholeRow.holds Ybdv.pinned (OpenSpec.ofChange lawS930021QADWholeSpec)

/-- ITS FALSE NEIGHBOUR: 'it returns false'. Refute it at one input. -/
def lawS930021QADWholeWrong : ChangeSpec := { name := "lawS930021QADWhole", fn := fun _ => fun
  | [d1, d2] => { results := [.lit (.bool false)], args := [d1, d2] }
  | _ => none }
def LawS930021QADWholeWrongFalsely : Prop := lawS930021QADWholeRow.holds Ybdv.pinned (OpenSpec.ofChange lawS930021QADWholeWrong)

end Rows
end Go.Proofs.Ymwhbd
