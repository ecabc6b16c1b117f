/-
  No cell of these rows narrows 'for every input' (looked for: loops, veiled, ifaces, maps, wideKeys, modest, calm, conditions, laid).
  DERIVED. THE GIVEN ROWS OF THIS SEAT. 1 by the template 'for every input the law returns true; each argument reads behind the call as it read before'; 0 by the template 'total and deterministic' (their statements: YmwhbfTotals.lean).
  GIVEN WITH THE SEED: the statements are not yours to turn. If you find one false, say at which input.
  Laid BY PROGRAM, IN A SANDBOX (cutbox-rows.mjs): the forced cells as the released guide's own fill.sh prints them over the translation 2947faefe5987a95… (all of the seat's roots in one cut). By AI agents, Wed Nov 11 2026. No macro, syntax, notation, axiom, sorry.
-/
import Derived.Test.YmwhbfChecked
import GoSem.Claim
import GoSem.ClaimJoined
import GoSem.ClaimMapViews
import Derived.JoinedTies
import Derived.KernelRfl
namespace Go.Proofs.Ymwhbf
/- THE CELL 'sum', in the pinned program and in every row, IS THE sha256 OF THE DUMP (.gsa) THAT YmwhbfProg.lean LOADS. Nothing in Lean hashes anything: it is a label: what it is worth is what the hold of that sum in a sandbox is worth. -/
noncomputable def Ybfv.pinned : Pinned := { name := "ymwhbf", sum := "2947faefe5987a953fa81e2b93f0bb5248c77edab8bc299fa1f2cf21e9e48cd6", checked := Ybfv.checked }
namespace Rows
def none {H : Type} : Left H := { results := [], args := [] }

/-- 'bigdec.LawS930023QAAWhole': WHATEVER THE INPUT: true; the input reads as it did. -/
def lawS930023QAAWholeSpec : ChangeSpec := { name := "lawS930023QAAWhole", fn := fun _ => fun
  | [d1, d2] => { results := [.lit (.bool true)], args := [d1, d2] }
  | _ => none }
def lawS930023QAAWholeRow : OpenClaim := { program := "ymwhbf", sum := "2947faefe5987a953fa81e2b93f0bb5248c77edab8bc299fa1f2cf21e9e48cd6", func := "example.com/own/bigdec.LawS930023QAAWhole", spec := "lawS930023QAAWhole", apart := false }
def LawS930023QAAWholeSaid : Prop := lawS930023QAAWholeRow.holds Ybfv.pinned (OpenSpec.ofChange lawS930023QAAWholeSpec)

/-- ITS FALSE NEIGHBOUR: 'it returns false'. Refute it at one input. -/
def lawS930023QAAWholeWrong : ChangeSpec := { name := "lawS930023QAAWhole", fn := fun _ => fun
  | [d1, d2] => { results := [.lit (.bool false)], args := [d1, d2] }
  | _ => none }
def LawS930023QAAWholeWrongFalsely : Prop := lawS930023QAAWholeRow.holds Ybfv.pinned (OpenSpec.ofChange lawS930023QAAWholeWrong)

end Rows
end Go.Proofs.Ymwhbf
