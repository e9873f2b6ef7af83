/- Functions of rows of numbers that stand for what functions of the program give: none here. Plain Lean; no program. -/
import Derived.Maps.AppendAt
import Derived.Laws.Entries
import Derived.Laws.NewBlocks
import Derived.Orders
import Derived.Below
namespace Go.Proofs.Ytnklnboglijcbaa.E
open Go Go.RowKit
set_option linter.unusedVariables false
/-- numbers round a prime: product, power. -/
def mulM : Int → Int → Int
  | .ofNat a, .ofNat b => bif Nat.blt a 2147483579 && Nat.blt b 2147483579 then .ofNat (a * b % 2147483579) else 0
  | _, _ => 0
def powL : Nat → Int → Nat → Int → Int
  | 0, _, _, n => n
  | k + 1, b, e, n => bif Nat.beq e 0 then n else powL k (mulM b b) (e / 2) (bif Nat.beq (e % 2) 1 then mulM n b else n)
def powM : Int → Int → Int
  | .ofNat b, .ofNat e => bif Nat.blt b 2147483579 && Nat.ble e 1073741789 then powL 62 (.ofNat b) e 1 else 0
  | _, _ => 0
/-- is it a public key? -/
def isM : Int → Int
  | .ofNat y => bif Nat.blt 1 y && Nat.blt y 2147483579 && (match powM (.ofNat y) 1073741789 with | .ofNat z => Nat.beq z 1 | _ => false) then 1 else 0
  | _ => 0
def J (f : Nat) (a : List Int) (as : List (List Int)) : List Int := match f with
  | 1 => [mulM (a.getD 0 0) (a.getD 1 0)]
  | 2 => [powM (a.getD 0 0) (a.getD 1 0)]
  | 4 => [isM (a.getD 0 0)]
  | 3 => [powL 62 (a.getD 0 0) (a.getD 1 0).toNat (a.getD 2 0)]
  | _ => []
def JJ (f : Nat) (a : List Int) (as : List (List Int)) : List (List Int) := []
/-- what stands in a block that keeps a rule of its own. -/
def KI (c : Nat) (s : Int) (o : Obj) : Prop := False
end Go.Proofs.Ytnklnboglijcbaa.E
