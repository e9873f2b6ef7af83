/-
  No cell of these rows narrows 'for every input' (looked for: loops, veiled, ifaces, maps, wideKeys, modest, calm, conditions, laid).
  DERIVED. THE GIVEN ROWS OF THIS SEAT. 4 by the template 'for every input the law returns true; each argument reads behind the call as it read before'; 0 by the template 'total and deterministic' (their statements: YtongkjihhkgpnabTotals.lean).
  GIVEN WITH THE SEED: the statements are not yours to turn. If you find one false, say at which input.
  Laid BY PROGRAM, IN A SANDBOX (cutbox-rows.mjs): the forced cells as the released guide's own fill.sh prints them over the translation 4073871aed106a0c… (all of the seat's roots in one cut). By AI agents, Wed Nov 11 2026. No macro, syntax, notation, axiom, sorry.
-/
import Derived.Test.YtongkjihhkgpnabChecked
import GoSem.Claim
import GoSem.ClaimJoined
import GoSem.ClaimMapViews
import Derived.JoinedTies
import Derived.KernelRfl
namespace Go.Proofs.Ytongkjihhkgpnab
/- THE CELL 'sum', in the pinned program and in every row, IS THE sha256 OF THE DUMP (.gsa) THAT YtongkjihhkgpnabProg.lean LOADS. Nothing in Lean hashes anything: it is a label: what it is worth is what the hold of that sum in a sandbox is worth. -/
noncomputable def Try.pinned : Pinned := { name := "ytongkjihhkgpnab", sum := "4073871aed106a0c686dfefead279e0d00804ca07f926a98d7d3ea6718f5db84", checked := Try.checked }
namespace Rows
def none {H : Type} : Left H := { results := [], args := [] }

/-- 'curialaw2.PowerClosed': WHATEVER THE INPUT: true; the input reads as it did. -/
def powerClosedSpec : ChangeSpec := { name := "powerClosed", fn := fun _ => fun
  | [d1, d2] => { results := [.lit (.bool true)], args := [d1, d2] }
  | _ => none }
def powerClosedRow : OpenClaim := { program := "ytongkjihhkgpnab", sum := "4073871aed106a0c686dfefead279e0d00804ca07f926a98d7d3ea6718f5db84", func := "curia/curialaw2.PowerClosed", spec := "powerClosed", apart := false }
def PowerClosedSaid : Prop := powerClosedRow.holds Try.pinned (OpenSpec.ofChange powerClosedSpec)

/-- ITS FALSE NEIGHBOUR: 'it returns false'. Refute it at one input. -/
def powerClosedWrong : ChangeSpec := { name := "powerClosed", fn := fun _ => fun
  | [d1, d2] => { results := [.lit (.bool false)], args := [d1, d2] }
  | _ => none }
def PowerClosedWrongFalsely : Prop := powerClosedRow.holds Try.pinned (OpenSpec.ofChange powerClosedWrong)

/-- 'curialaw2.PowerSteps': WHATEVER THE INPUT: true; the input reads as it did. -/
def powerStepsSpec : ChangeSpec := { name := "powerSteps", fn := fun _ => fun
  | [d1, d2] => { results := [.lit (.bool true)], args := [d1, d2] }
  | _ => none }
def powerStepsRow : OpenClaim := { program := "ytongkjihhkgpnab", sum := "4073871aed106a0c686dfefead279e0d00804ca07f926a98d7d3ea6718f5db84", func := "curia/curialaw2.PowerSteps", spec := "powerSteps", apart := false }
def PowerStepsSaid : Prop := powerStepsRow.holds Try.pinned (OpenSpec.ofChange powerStepsSpec)

/-- ITS FALSE NEIGHBOUR: 'it returns false'. Refute it at one input. -/
def powerStepsWrong : ChangeSpec := { name := "powerSteps", fn := fun _ => fun
  | [d1, d2] => { results := [.lit (.bool false)], args := [d1, d2] }
  | _ => none }
def PowerStepsWrongFalsely : Prop := powerStepsRow.holds Try.pinned (OpenSpec.ofChange powerStepsWrong)

/-- 'curialaw2.PowerTurned': WHATEVER THE INPUT: true; the input reads as it did. -/
def powerTurnedSpec : ChangeSpec := { name := "powerTurned", fn := fun _ => fun
  | [d] => { results := [.lit (.bool true)], args := [d] }
  | _ => none }
def powerTurnedRow : OpenClaim := { program := "ytongkjihhkgpnab", sum := "4073871aed106a0c686dfefead279e0d00804ca07f926a98d7d3ea6718f5db84", func := "curia/curialaw2.PowerTurned", spec := "powerTurned", apart := false }
def PowerTurnedSaid : Prop := powerTurnedRow.holds Try.pinned (OpenSpec.ofChange powerTurnedSpec)

/-- ITS FALSE NEIGHBOUR: 'it returns false'. Refute it at one input. -/
def powerTurnedWrong : ChangeSpec := { name := "powerTurned", fn := fun _ => fun
  | [d] => { results := [.lit (.bool false)], args := [d] }
  | _ => none }
def PowerTurnedWrongFalsely : Prop := powerTurnedRow.holds Try.pinned (OpenSpec.ofChange powerTurnedWrong)

/-- 'curialaw2.PowerSums': WHATEVER THE INPUT: true; the input reads as it did. -/
def powerSumsSpec : ChangeSpec := { name := "powerSums", fn := fun _ => fun
  | [d] => { results := [.lit (.bool true)], args := [d] }
  | _ => none }
def powerSumsRow : OpenClaim := { program := "ytongkjihhkgpnab", sum := "4073871aed106a0c686dfefead279e0d00804ca07f926a98d7d3ea6718f5db84", func := "curia/curialaw2.PowerSums", spec := "powerSums", apart := false }
def PowerSumsSaid : Prop := powerSumsRow.holds Try.pinned (OpenSpec.ofChange powerSumsSpec)

/-- ITS FALSE NEIGHBOUR: 'it returns false'. Refute it at one input. -/
def powerSumsWrong : ChangeSpec := { name := "powerSums", fn := fun _ => fun
  | [d] => { results := [.lit (.bool false)], args := [d] }
  | _ => none }
def PowerSumsWrongFalsely : Prop := powerSumsRow.holds Try.pinned (OpenSpec.ofChange powerSumsWrong)

/- THE SECOND FORM. 'bulk': how many values and letters a reading holds, each counted each time it is reached (what is shared counts as often as it is met; a slice's spare places count too). A statement '..UptoSaid' is the law's where the arguments, and the package variables that the reading takes, are together of bulk at most 1048576: NARROWER than '..Said'. Prove '..Said' where nothing that the law and all that it calls make is longer than what came in: it says more and counts as full. Else prove '..UptoSaid'. A law counts once. -/
mutual
def uptoBulk {H : Type} : DataW H → Nat
  | .lit (.string bytes) => bytes.length + 1
  | .lit _ => 1
  | .nil => 1
  | .ptr d => uptoBulk d + 1
  | .slice elems spare => uptoBulkAll elems + uptoBulkAll spare + 1
  | .agg parts => uptoBulkAll parts + 1
  | .iface _ d => uptoBulk d + 1
  | .map entries => uptoBulkEntries entries + 1
  | .held _ => 1
def uptoBulkAll {H : Type} : List (DataW H) → Nat
  | [] => 0
  | d :: r => uptoBulk d + uptoBulkAll r
def uptoBulkEntries {H : Type} : List (Lit × DataW H) → Nat
  | [] => 0
  | x :: r => uptoBulkEntry x + uptoBulkEntries r
def uptoBulkEntry {H : Type} : Lit × DataW H → Nat
  | (.string bytes, d) => bytes.length + uptoBulk d + 1
  | (_, d) => uptoBulk d + 1
 end
def uptoSmall : (H : Type) → List (DataW H) → Bool := fun _ ds => decide (uptoBulkAll ds ≤ 1048576)
def OpenSpec.upto (s : _root_.Go.ChangeSpec) : _root_.Go.OpenSpec := { _root_.Go.OpenSpec.ofChange s with cond := some uptoSmall }

/-- 'curialaw2.PowerClosed', WHERE WHAT IT READS IS OF BULK AT MOST 1048576: true; the input reads as it did. -/
def powerClosedUptoRow : OpenClaim := { program := "ytongkjihhkgpnab", sum := "4073871aed106a0c686dfefead279e0d00804ca07f926a98d7d3ea6718f5db84", func := "curia/curialaw2.PowerClosed", spec := "powerClosed", apart := false, narrowed := true }
def PowerClosedUptoSaid : Prop := powerClosedUptoRow.holds Try.pinned (OpenSpec.upto powerClosedSpec)

/-- 'curialaw2.PowerSteps', WHERE WHAT IT READS IS OF BULK AT MOST 1048576: true; the input reads as it did. -/
def powerStepsUptoRow : OpenClaim := { program := "ytongkjihhkgpnab", sum := "4073871aed106a0c686dfefead279e0d00804ca07f926a98d7d3ea6718f5db84", func := "curia/curialaw2.PowerSteps", spec := "powerSteps", apart := false, narrowed := true }
def PowerStepsUptoSaid : Prop := powerStepsUptoRow.holds Try.pinned (OpenSpec.upto powerStepsSpec)

/-- 'curialaw2.PowerTurned', WHERE WHAT IT READS IS OF BULK AT MOST 1048576: true; the input reads as it did. -/
def powerTurnedUptoRow : OpenClaim := { program := "ytongkjihhkgpnab", sum := "4073871aed106a0c686dfefead279e0d00804ca07f926a98d7d3ea6718f5db84", func := "curia/curialaw2.PowerTurned", spec := "powerTurned", apart := false, narrowed := true }
def PowerTurnedUptoSaid : Prop := powerTurnedUptoRow.holds Try.pinned (OpenSpec.upto powerTurnedSpec)

/-- 'curialaw2.PowerSums', WHERE WHAT IT READS IS OF BULK AT MOST 1048576: true; the input reads as it did. -/
def powerSumsUptoRow : OpenClaim := { program := "ytongkjihhkgpnab", sum := "4073871aed106a0c686dfefead279e0d00804ca07f926a98d7d3ea6718f5db84", func := "curia/curialaw2.PowerSums", spec := "powerSums", apart := false, narrowed := true }
def PowerSumsUptoSaid : Prop := powerSumsUptoRow.holds Try.pinned (OpenSpec.upto powerSumsSpec)

end Rows
end Go.Proofs.Ytongkjihhkgpnab
