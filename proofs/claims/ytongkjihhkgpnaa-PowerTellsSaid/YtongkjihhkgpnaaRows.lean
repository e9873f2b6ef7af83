/-
  No cell of these rows narrows 'for every input' (looked for: loops, veiled, ifaces, maps, wideKeys, modest, calm, conditions, laid).
  DERIVED. THE GIVEN ROWS OF THIS SEAT. 6 by the template 'for every input the law returns true; each argument reads behind the call as it read before'; 0 by the template 'total and deterministic' (their statements: YtongkjihhkgpnaaTotals.lean).
  GIVEN WITH THE SEED: the statements are not yours to turn. If you find one false, say at which input.
  Laid BY PROGRAM, IN A SANDBOX (cutbox-rows.mjs): the forced cells as the released guide's own fill.sh prints them over the translation 11804eec2aa283d1… (all of the seat's roots in one cut). By AI agents, Wed Nov 11 2026. No macro, syntax, notation, axiom, sorry.
-/
import Derived.Test.YtongkjihhkgpnaaChecked
import GoSem.Claim
import GoSem.ClaimJoined
import GoSem.ClaimMapViews
import Derived.JoinedTies
import Derived.KernelRfl
namespace Go.Proofs.Ytongkjihhkgpnaa
/- THE CELL 'sum', in the pinned program and in every row, IS THE sha256 OF THE DUMP (.gsa) THAT YtongkjihhkgpnaaProg.lean LOADS. Nothing in Lean hashes anything: it is a label: what it is worth is what the hold of that sum in a sandbox is worth. -/
noncomputable def Try.pinned : Pinned := { name := "ytongkjihhkgpnaa", sum := "11804eec2aa283d19008e6fc56ab02f13a99693f211f40af8c2c64680b119b49", checked := Try.checked }
namespace Rows
def none {H : Type} : Left H := { results := [], args := [] }

/-- 'curialaw2.PowerTells': WHATEVER THE INPUT: true; the input reads as it did. -/
def powerTellsSpec : ChangeSpec := { name := "powerTells", fn := fun _ => fun
  | [d1, d2, d3] => { results := [.lit (.bool true)], args := [d1, d2, d3] }
  | _ => none }
def powerTellsRow : OpenClaim := { program := "ytongkjihhkgpnaa", sum := "11804eec2aa283d19008e6fc56ab02f13a99693f211f40af8c2c64680b119b49", func := "curia/curialaw2.PowerTells", spec := "powerTells", apart := false }
def PowerTellsSaid : Prop := powerTellsRow.holds Try.pinned (OpenSpec.ofChange powerTellsSpec)

/-- ITS FALSE NEIGHBOUR: 'it returns false'. Refute it at one input. -/
def powerTellsWrong : ChangeSpec := { name := "powerTells", fn := fun _ => fun
  | [d1, d2, d3] => { results := [.lit (.bool false)], args := [d1, d2, d3] }
  | _ => none }
def PowerTellsWrongFalsely : Prop := powerTellsRow.holds Try.pinned (OpenSpec.ofChange powerTellsWrong)

/-- 'curialaw2.PowerAdds': WHATEVER THE INPUT: true; the input reads as it did. -/
def powerAddsSpec : ChangeSpec := { name := "powerAdds", fn := fun _ => fun
  | [d1, d2, d3] => { results := [.lit (.bool true)], args := [d1, d2, d3] }
  | _ => none }
def powerAddsRow : OpenClaim := { program := "ytongkjihhkgpnaa", sum := "11804eec2aa283d19008e6fc56ab02f13a99693f211f40af8c2c64680b119b49", func := "curia/curialaw2.PowerAdds", spec := "powerAdds", apart := false }
def PowerAddsSaid : Prop := powerAddsRow.holds Try.pinned (OpenSpec.ofChange powerAddsSpec)

/-- ITS FALSE NEIGHBOUR: 'it returns false'. Refute it at one input. -/
def powerAddsWrong : ChangeSpec := { name := "powerAdds", fn := fun _ => fun
  | [d1, d2, d3] => { results := [.lit (.bool false)], args := [d1, d2, d3] }
  | _ => none }
def PowerAddsWrongFalsely : Prop := powerAddsRow.holds Try.pinned (OpenSpec.ofChange powerAddsWrong)

/-- 'curialaw2.PowerRound': WHATEVER THE INPUT: true; the input reads as it did. -/
def powerRoundSpec : ChangeSpec := { name := "powerRound", fn := fun _ => fun
  | [d] => { results := [.lit (.bool true)], args := [d] }
  | _ => none }
def powerRoundRow : OpenClaim := { program := "ytongkjihhkgpnaa", sum := "11804eec2aa283d19008e6fc56ab02f13a99693f211f40af8c2c64680b119b49", func := "curia/curialaw2.PowerRound", spec := "powerRound", apart := false }
def PowerRoundSaid : Prop := powerRoundRow.holds Try.pinned (OpenSpec.ofChange powerRoundSpec)

/-- ITS FALSE NEIGHBOUR: 'it returns false'. Refute it at one input. -/
def powerRoundWrong : ChangeSpec := { name := "powerRound", fn := fun _ => fun
  | [d] => { results := [.lit (.bool false)], args := [d] }
  | _ => none }
def PowerRoundWrongFalsely : Prop := powerRoundRow.holds Try.pinned (OpenSpec.ofChange powerRoundWrong)

/-- 'curialaw2.PowerMul': WHATEVER THE INPUT: true; the input reads as it did. -/
def powerMulSpec : ChangeSpec := { name := "powerMul", fn := fun _ => fun
  | [d1, d2, d3] => { results := [.lit (.bool true)], args := [d1, d2, d3] }
  | _ => none }
def powerMulRow : OpenClaim := { program := "ytongkjihhkgpnaa", sum := "11804eec2aa283d19008e6fc56ab02f13a99693f211f40af8c2c64680b119b49", func := "curia/curialaw2.PowerMul", spec := "powerMul", apart := false }
def PowerMulSaid : Prop := powerMulRow.holds Try.pinned (OpenSpec.ofChange powerMulSpec)

/-- ITS FALSE NEIGHBOUR: 'it returns false'. Refute it at one input. -/
def powerMulWrong : ChangeSpec := { name := "powerMul", fn := fun _ => fun
  | [d1, d2, d3] => { results := [.lit (.bool false)], args := [d1, d2, d3] }
  | _ => none }
def PowerMulWrongFalsely : Prop := powerMulRow.holds Try.pinned (OpenSpec.ofChange powerMulWrong)

/-- 'curialaw2.PowerBounds': WHATEVER THE INPUT: true; the input reads as it did. -/
def powerBoundsSpec : ChangeSpec := { name := "powerBounds", fn := fun _ => fun
  | [d1, d2] => { results := [.lit (.bool true)], args := [d1, d2] }
  | _ => none }
def powerBoundsRow : OpenClaim := { program := "ytongkjihhkgpnaa", sum := "11804eec2aa283d19008e6fc56ab02f13a99693f211f40af8c2c64680b119b49", func := "curia/curialaw2.PowerBounds", spec := "powerBounds", apart := false }
def PowerBoundsSaid : Prop := powerBoundsRow.holds Try.pinned (OpenSpec.ofChange powerBoundsSpec)

/-- ITS FALSE NEIGHBOUR: 'it returns false'. Refute it at one input. -/
def powerBoundsWrong : ChangeSpec := { name := "powerBounds", fn := fun _ => fun
  | [d1, d2] => { results := [.lit (.bool false)], args := [d1, d2] }
  | _ => none }
def PowerBoundsWrongFalsely : Prop := powerBoundsRow.holds Try.pinned (OpenSpec.ofChange powerBoundsWrong)

/-- 'curialaw2.PowerInverse': WHATEVER THE INPUT: true; the input reads as it did. -/
def powerInverseSpec : ChangeSpec := { name := "powerInverse", fn := fun _ => fun
  | [d] => { results := [.lit (.bool true)], args := [d] }
  | _ => none }
def powerInverseRow : OpenClaim := { program := "ytongkjihhkgpnaa", sum := "11804eec2aa283d19008e6fc56ab02f13a99693f211f40af8c2c64680b119b49", func := "curia/curialaw2.PowerInverse", spec := "powerInverse", apart := false }
def PowerInverseSaid : Prop := powerInverseRow.holds Try.pinned (OpenSpec.ofChange powerInverseSpec)

/-- ITS FALSE NEIGHBOUR: 'it returns false'. Refute it at one input. -/
def powerInverseWrong : ChangeSpec := { name := "powerInverse", fn := fun _ => fun
  | [d] => { results := [.lit (.bool false)], args := [d] }
  | _ => none }
def PowerInverseWrongFalsely : Prop := powerInverseRow.holds Try.pinned (OpenSpec.ofChange powerInverseWrong)

/- THE SECOND FORM. 'bulk': how many values and letters a reading holds, each counted each time it is reached (what is shared counts as often as it is met; a slice's spare places count too). A statement '..UptoSaid' is the law's where the arguments, and the package variables that the reading takes, are together of bulk at most 1048576: NARROWER than '..Said'. Prove '..Said' where nothing that the law and all that it calls make is longer than what came in: it says more and counts as full. Else prove '..UptoSaid'. A law counts once. -/
mutual
def uptoBulk {H : Type} : DataW H → Nat
  | .lit (.string bytes) => bytes.length + 1
  | .lit _ => 1
  | .nil => 1
  | .ptr d => uptoBulk d + 1
  | .slice elems spare => uptoBulkAll elems + uptoBulkAll spare + 1
  | .agg parts => uptoBulkAll parts + 1
  | .iface _ d => uptoBulk d + 1
  | .map entries => uptoBulkEntries entries + 1
  | .held _ => 1
def uptoBulkAll {H : Type} : List (DataW H) → Nat
  | [] => 0
  | d :: r => uptoBulk d + uptoBulkAll r
def uptoBulkEntries {H : Type} : List (Lit × DataW H) → Nat
  | [] => 0
  | x :: r => uptoBulkEntry x + uptoBulkEntries r
def uptoBulkEntry {H : Type} : Lit × DataW H → Nat
  | (.string bytes, d) => bytes.length + uptoBulk d + 1
  | (_, d) => uptoBulk d + 1
 end
def uptoSmall : (H : Type) → List (DataW H) → Bool := fun _ ds => decide (uptoBulkAll ds ≤ 1048576)
def OpenSpec.upto (s : _root_.Go.ChangeSpec) : _root_.Go.OpenSpec := { _root_.Go.OpenSpec.ofChange s with cond := some uptoSmall }

/-- 'curialaw2.PowerTells', WHERE WHAT IT READS IS OF BULK AT MOST 1048576: true; the input reads as it did. -/
def powerTellsUptoRow : OpenClaim := { program := "ytongkjihhkgpnaa", sum := "11804eec2aa283d19008e6fc56ab02f13a99693f211f40af8c2c64680b119b49", func := "curia/curialaw2.PowerTells", spec := "powerTells", apart := false, narrowed := true }
def PowerTellsUptoSaid : Prop := powerTellsUptoRow.holds Try.pinned (OpenSpec.upto powerTellsSpec)

/-- 'curialaw2.PowerAdds', WHERE WHAT IT READS IS OF BULK AT MOST 1048576: true; the input reads as it did. -/
def powerAddsUptoRow : OpenClaim := { program := "ytongkjihhkgpnaa", sum := "11804eec2aa283d19008e6fc56ab02f13a99693f211f40af8c2c64680b119b49", func := "curia/curialaw2.PowerAdds", spec := "powerAdds", apart := false, narrowed := true }
def PowerAddsUptoSaid : Prop := powerAddsUptoRow.holds Try.pinned (OpenSpec.upto powerAddsSpec)

/-- 'curialaw2.PowerRound', WHERE WHAT IT READS IS OF BULK AT MOST 1048576: true; the input reads as it did. -/
def powerRoundUptoRow : OpenClaim := { program := "ytongkjihhkgpnaa", sum := "11804eec2aa283d19008e6fc56ab02f13a99693f211f40af8c2c64680b119b49", func := "curia/curialaw2.PowerRound", spec := "powerRound", apart := false, narrowed := true }
def PowerRoundUptoSaid : Prop := powerRoundUptoRow.holds Try.pinned (OpenSpec.upto powerRoundSpec)

/-- 'curialaw2.PowerMul', WHERE WHAT IT READS IS OF BULK AT MOST 1048576: true; the input reads as it did. -/
def powerMulUptoRow : OpenClaim := { program := "ytongkjihhkgpnaa", sum := "11804eec2aa283d19008e6fc56ab02f13a99693f211f40af8c2c64680b119b49", func := "curia/curialaw2.PowerMul", spec := "powerMul", apart := false, narrowed := true }
def PowerMulUptoSaid : Prop := powerMulUptoRow.holds Try.pinned (OpenSpec.upto powerMulSpec)

/-- 'curialaw2.PowerBounds', WHERE WHAT IT READS IS OF BULK AT MOST 1048576: true; the input reads as it did. -/
def powerBoundsUptoRow : OpenClaim := { program := "ytongkjihhkgpnaa", sum := "11804eec2aa283d19008e6fc56ab02f13a99693f211f40af8c2c64680b119b49", func := "curia/curialaw2.PowerBounds", spec := "powerBounds", apart := false, narrowed := true }
def PowerBoundsUptoSaid : Prop := powerBoundsUptoRow.holds Try.pinned (OpenSpec.upto powerBoundsSpec)

/-- 'curialaw2.PowerInverse', WHERE WHAT IT READS IS OF BULK AT MOST 1048576: true; the input reads as it did. -/
def powerInverseUptoRow : OpenClaim := { program := "ytongkjihhkgpnaa", sum := "11804eec2aa283d19008e6fc56ab02f13a99693f211f40af8c2c64680b119b49", func := "curia/curialaw2.PowerInverse", spec := "powerInverse", apart := false, narrowed := true }
def PowerInverseUptoSaid : Prop := powerInverseUptoRow.holds Try.pinned (OpenSpec.upto powerInverseSpec)

end Rows
end Go.Proofs.Ytongkjihhkgpnaa
