/- Functions of rows of numbers that stand for what functions of the program give: none here. Plain Lean; no program. -/
import Derived.Maps.AppendAt
import Derived.Laws.Entries
import Derived.Laws.NewBlocks
import Derived.Orders
import Derived.Below
namespace Go.Proofs.Ytongkjihhkgpnab.E
open Go Go.RowKit
set_option linter.unusedVariables false
def J (f : Nat) (a : List Int) (as : List (List Int)) : List Int := []
def JJ (f : Nat) (a : List Int) (as : List (List Int)) : List (List Int) := []
/-- what stands in a block that keeps a rule of its own. -/
def KI (c : Nat) (s : Int) (o : Obj) : Prop := False
end Go.Proofs.Ytongkjihhkgpnab.E
