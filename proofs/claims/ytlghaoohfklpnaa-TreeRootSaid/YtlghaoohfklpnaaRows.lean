/-
  No cell of these rows narrows 'for every input' (looked for: loops, veiled, ifaces, maps, wideKeys, modest, calm, conditions, laid).
  DERIVED. THE GIVEN ROWS OF THIS SEAT. 8 by the template 'for every input the law returns true; each argument reads behind the call as it read before'; 0 by the template 'total and deterministic' (their statements: YtlghaoohfklpnaaTotals.lean).
  GIVEN WITH THE SEED: the statements are not yours to turn. If you find one false, say at which input.
  Laid BY PROGRAM, IN A SANDBOX (cutbox-rows.mjs): the forced cells as the released guide's own fill.sh prints them over the translation e8384070d616af9d… (all of the seat's roots in one cut). By AI agents, Wed Nov 11 2026. No macro, syntax, notation, axiom, sorry.
-/
import Derived.Test.YtlghaoohfklpnaaChecked
import GoSem.Claim
import GoSem.ClaimJoined
import GoSem.ClaimMapViews
import Derived.JoinedTies
import Derived.KernelRfl
namespace Go.Proofs.Ytlghaoohfklpnaa
/- THE CELL 'sum', in the pinned program and in every row, IS THE sha256 OF THE DUMP (.gsa) THAT YtlghaoohfklpnaaProg.lean LOADS. Nothing in Lean hashes anything: it is a label: what it is worth is what the hold of that sum in a sandbox is worth. -/
noncomputable def Try.pinned : Pinned := { name := "ytlghaoohfklpnaa", sum := "e8384070d616af9df5b73762fd11c963a0ebabec79eccba7a9f2a588d02f759d", checked := Try.checked }
namespace Rows
def none {H : Type} : Left H := { results := [], args := [] }

/-- 'curialaw7.TreeRoot': WHATEVER THE INPUT: true; the input reads as it did. -/
def treeRootSpec : ChangeSpec := { name := "treeRoot", fn := fun _ => fun
  | [d1, d2] => { results := [.lit (.bool true)], args := [d1, d2] }
  | _ => none }
def treeRootRow : OpenClaim := { program := "ytlghaoohfklpnaa", sum := "e8384070d616af9df5b73762fd11c963a0ebabec79eccba7a9f2a588d02f759d", func := "curia/curialaw7.TreeRoot", spec := "treeRoot", recurses := true, apart := false }
def TreeRootSaid : Prop := treeRootRow.holds Try.pinned (OpenSpec.ofChange treeRootSpec)

/-- ITS FALSE NEIGHBOUR: 'it returns false'. Refute it at one input. -/
def treeRootWrong : ChangeSpec := { name := "treeRoot", fn := fun _ => fun
  | [d1, d2] => { results := [.lit (.bool false)], args := [d1, d2] }
  | _ => none }
def TreeRootWrongFalsely : Prop := treeRootRow.holds Try.pinned (OpenSpec.ofChange treeRootWrong)

/-- 'curialaw12.WireOwn': WHATEVER THE INPUT: true; the input reads as it did. -/
def wireOwnSpec : ChangeSpec := { name := "wireOwn", fn := fun _ => fun
  | [d] => { results := [.lit (.bool true)], args := [d] }
  | _ => none }
def wireOwnRow : OpenClaim := { program := "ytlghaoohfklpnaa", sum := "e8384070d616af9df5b73762fd11c963a0ebabec79eccba7a9f2a588d02f759d", func := "curia/curialaw12.WireOwn", spec := "wireOwn", unfollowed := true, recurses := true, apart := false }
def WireOwnSaid : Prop := wireOwnRow.holds Try.pinned (OpenSpec.ofChange wireOwnSpec)

/-- ITS FALSE NEIGHBOUR: 'it returns false'. Refute it at one input. -/
def wireOwnWrong : ChangeSpec := { name := "wireOwn", fn := fun _ => fun
  | [d] => { results := [.lit (.bool false)], args := [d] }
  | _ => none }
def WireOwnWrongFalsely : Prop := wireOwnRow.holds Try.pinned (OpenSpec.ofChange wireOwnWrong)

/-- 'curialaw15.AuditStrangers': WHATEVER THE INPUT: true; the input reads as it did. -/
def auditStrangersSpec : ChangeSpec := { name := "auditStrangers", fn := fun _ => fun
  | [d1, d2] => { results := [.lit (.bool true)], args := [d1, d2] }
  | _ => none }
def auditStrangersRow : OpenClaim := { program := "ytlghaoohfklpnaa", sum := "e8384070d616af9df5b73762fd11c963a0ebabec79eccba7a9f2a588d02f759d", func := "curia/curialaw15.AuditStrangers", spec := "auditStrangers", inPlace := ["sync/atomic.StoreUint32", "sync/atomic.LoadUint32", "(*internal/sync.Mutex).Lock", "internal/race.Disable", "sync/atomic.CompareAndSwapInt32", "internal/race.Enable", "internal/race.Acquire", "(*internal/sync.Mutex).lockSlow", "internal/sync.runtime_canSpin", "internal/sync.runtime_doSpin", "internal/sync.throw", "internal/sync.runtime_nanotime", "internal/sync.runtime_SemacquireMutex", "sync/atomic.AddInt32", "(*internal/sync.Mutex).Unlock", "internal/race.ReleaseMerge", "(*internal/sync.Mutex).unlockSlow", "internal/sync.fatal", "internal/sync.runtime_Semrelease"], unfollowed := true, recurses := true, apart := false }
def AuditStrangersSaid : Prop := auditStrangersRow.holds Try.pinned (OpenSpec.ofChange auditStrangersSpec)

/-- ITS FALSE NEIGHBOUR: 'it returns false'. Refute it at one input. -/
def auditStrangersWrong : ChangeSpec := { name := "auditStrangers", fn := fun _ => fun
  | [d1, d2] => { results := [.lit (.bool false)], args := [d1, d2] }
  | _ => none }
def AuditStrangersWrongFalsely : Prop := auditStrangersRow.holds Try.pinned (OpenSpec.ofChange auditStrangersWrong)

/-- 'curialaw12.WireBox': WHATEVER THE INPUT: true; the input reads as it did. -/
def wireBoxSpec : ChangeSpec := { name := "wireBox", fn := fun _ => fun
  | [d1, d2, d3] => { results := [.lit (.bool true)], args := [d1, d2, d3] }
  | _ => none }
def wireBoxRow : OpenClaim := { program := "ytlghaoohfklpnaa", sum := "e8384070d616af9df5b73762fd11c963a0ebabec79eccba7a9f2a588d02f759d", func := "curia/curialaw12.WireBox", spec := "wireBox", unfollowed := true, recurses := true, apart := false }
def WireBoxSaid : Prop := wireBoxRow.holds Try.pinned (OpenSpec.ofChange wireBoxSpec)

/-- ITS FALSE NEIGHBOUR: 'it returns false'. Refute it at one input. -/
def wireBoxWrong : ChangeSpec := { name := "wireBox", fn := fun _ => fun
  | [d1, d2, d3] => { results := [.lit (.bool false)], args := [d1, d2, d3] }
  | _ => none }
def WireBoxWrongFalsely : Prop := wireBoxRow.holds Try.pinned (OpenSpec.ofChange wireBoxWrong)

/-- 'curialaw12.WireTakes': WHATEVER THE INPUT: true; the input reads as it did. -/
def wireTakesSpec : ChangeSpec := { name := "wireTakes", fn := fun _ => fun
  | [d] => { results := [.lit (.bool true)], args := [d] }
  | _ => none }
def wireTakesRow : OpenClaim := { program := "ytlghaoohfklpnaa", sum := "e8384070d616af9df5b73762fd11c963a0ebabec79eccba7a9f2a588d02f759d", func := "curia/curialaw12.WireTakes", spec := "wireTakes", unfollowed := true, recurses := true, apart := false }
def WireTakesSaid : Prop := wireTakesRow.holds Try.pinned (OpenSpec.ofChange wireTakesSpec)

/-- ITS FALSE NEIGHBOUR: 'it returns false'. Refute it at one input. -/
def wireTakesWrong : ChangeSpec := { name := "wireTakes", fn := fun _ => fun
  | [d] => { results := [.lit (.bool false)], args := [d] }
  | _ => none }
def WireTakesWrongFalsely : Prop := wireTakesRow.holds Try.pinned (OpenSpec.ofChange wireTakesWrong)

/-- 'curialaw12.WireWelcomes': WHATEVER THE INPUT: true; the input reads as it did. -/
def wireWelcomesSpec : ChangeSpec := { name := "wireWelcomes", fn := fun _ => fun
  | [d1, d2] => { results := [.lit (.bool true)], args := [d1, d2] }
  | _ => none }
def wireWelcomesRow : OpenClaim := { program := "ytlghaoohfklpnaa", sum := "e8384070d616af9df5b73762fd11c963a0ebabec79eccba7a9f2a588d02f759d", func := "curia/curialaw12.WireWelcomes", spec := "wireWelcomes", unfollowed := true, recurses := true, apart := false }
def WireWelcomesSaid : Prop := wireWelcomesRow.holds Try.pinned (OpenSpec.ofChange wireWelcomesSpec)

/-- ITS FALSE NEIGHBOUR: 'it returns false'. Refute it at one input. -/
def wireWelcomesWrong : ChangeSpec := { name := "wireWelcomes", fn := fun _ => fun
  | [d1, d2] => { results := [.lit (.bool false)], args := [d1, d2] }
  | _ => none }
def WireWelcomesWrongFalsely : Prop := wireWelcomesRow.holds Try.pinned (OpenSpec.ofChange wireWelcomesWrong)

/-- 'curialaw12.WireApart': WHATEVER THE INPUT: true; the input reads as it did. -/
def wireApartSpec : ChangeSpec := { name := "wireApart", fn := fun _ => fun
  | [d] => { results := [.lit (.bool true)], args := [d] }
  | _ => none }
def wireApartRow : OpenClaim := { program := "ytlghaoohfklpnaa", sum := "e8384070d616af9df5b73762fd11c963a0ebabec79eccba7a9f2a588d02f759d", func := "curia/curialaw12.WireApart", spec := "wireApart", unfollowed := true, recurses := true, apart := false }
def WireApartSaid : Prop := wireApartRow.holds Try.pinned (OpenSpec.ofChange wireApartSpec)

/-- ITS FALSE NEIGHBOUR: 'it returns false'. Refute it at one input. -/
def wireApartWrong : ChangeSpec := { name := "wireApart", fn := fun _ => fun
  | [d] => { results := [.lit (.bool false)], args := [d] }
  | _ => none }
def WireApartWrongFalsely : Prop := wireApartRow.holds Try.pinned (OpenSpec.ofChange wireApartWrong)

/-- 'curialaw12.WireOnce': WHATEVER THE INPUT: true; the input reads as it did. -/
def wireOnceSpec : ChangeSpec := { name := "wireOnce", fn := fun _ => fun
  | [d] => { results := [.lit (.bool true)], args := [d] }
  | _ => none }
def wireOnceRow : OpenClaim := { program := "ytlghaoohfklpnaa", sum := "e8384070d616af9df5b73762fd11c963a0ebabec79eccba7a9f2a588d02f759d", func := "curia/curialaw12.WireOnce", spec := "wireOnce", unfollowed := true, recurses := true, apart := false }
def WireOnceSaid : Prop := wireOnceRow.holds Try.pinned (OpenSpec.ofChange wireOnceSpec)

/-- ITS FALSE NEIGHBOUR: 'it returns false'. Refute it at one input. -/
def wireOnceWrong : ChangeSpec := { name := "wireOnce", fn := fun _ => fun
  | [d] => { results := [.lit (.bool false)], args := [d] }
  | _ => none }
def WireOnceWrongFalsely : Prop := wireOnceRow.holds Try.pinned (OpenSpec.ofChange wireOnceWrong)

/- THE SECOND FORM. 'bulk': how many values and letters a reading holds, each counted each time it is reached (what is shared counts as often as it is met; a slice's spare places count too). A statement '..UptoSaid' is the law's where the arguments, and the package variables that the reading takes, are together of bulk at most 1048576: NARROWER than '..Said'. Prove '..Said' where nothing that the law and all that it calls make is longer than what came in: it says more and counts as full. Else prove '..UptoSaid'. A law counts once. -/
mutual
def uptoBulk {H : Type} : DataW H → Nat
  | .lit (.string bytes) => bytes.length + 1
  | .lit _ => 1
  | .nil => 1
  | .ptr d => uptoBulk d + 1
  | .slice elems spare => uptoBulkAll elems + uptoBulkAll spare + 1
  | .agg parts => uptoBulkAll parts + 1
  | .iface _ d => uptoBulk d + 1
  | .map entries => uptoBulkEntries entries + 1
  | .held _ => 1
def uptoBulkAll {H : Type} : List (DataW H) → Nat
  | [] => 0
  | d :: r => uptoBulk d + uptoBulkAll r
def uptoBulkEntries {H : Type} : List (Lit × DataW H) → Nat
  | [] => 0
  | x :: r => uptoBulkEntry x + uptoBulkEntries r
def uptoBulkEntry {H : Type} : Lit × DataW H → Nat
  | (.string bytes, d) => bytes.length + uptoBulk d + 1
  | (_, d) => uptoBulk d + 1
 end
def uptoSmall : (H : Type) → List (DataW H) → Bool := fun _ ds => decide (uptoBulkAll ds ≤ 1048576)
def OpenSpec.upto (s : _root_.Go.ChangeSpec) : _root_.Go.OpenSpec := { _root_.Go.OpenSpec.ofChange s with cond := some uptoSmall }

/-- 'curialaw7.TreeRoot', WHERE WHAT IT READS IS OF BULK AT MOST 1048576: true; the input reads as it did. -/
def treeRootUptoRow : OpenClaim := { program := "ytlghaoohfklpnaa", sum := "e8384070d616af9df5b73762fd11c963a0ebabec79eccba7a9f2a588d02f759d", func := "curia/curialaw7.TreeRoot", spec := "treeRoot", recurses := true, apart := false, narrowed := true }
def TreeRootUptoSaid : Prop := treeRootUptoRow.holds Try.pinned (OpenSpec.upto treeRootSpec)

/-- 'curialaw12.WireOwn', WHERE WHAT IT READS IS OF BULK AT MOST 1048576: true; the input reads as it did. -/
def wireOwnUptoRow : OpenClaim := { program := "ytlghaoohfklpnaa", sum := "e8384070d616af9df5b73762fd11c963a0ebabec79eccba7a9f2a588d02f759d", func := "curia/curialaw12.WireOwn", spec := "wireOwn", unfollowed := true, recurses := true, apart := false, narrowed := true }
def WireOwnUptoSaid : Prop := wireOwnUptoRow.holds Try.pinned (OpenSpec.upto wireOwnSpec)

/-- 'curialaw15.AuditStrangers', WHERE WHAT IT READS IS OF BULK AT MOST 1048576: true; the input reads as it did. -/
def auditStrangersUptoRow : OpenClaim := { program := "ytlghaoohfklpnaa", sum := "e8384070d616af9df5b73762fd11c963a0ebabec79eccba7a9f2a588d02f759d", func := "curia/curialaw15.AuditStrangers", spec := "auditStrangers", inPlace := ["sync/atomic.StoreUint32", "sync/atomic.LoadUint32", "(*internal/sync.Mutex).Lock", "internal/race.Disable", "sync/atomic.CompareAndSwapInt32", "internal/race.Enable", "internal/race.Acquire", "(*internal/sync.Mutex).lockSlow", "internal/sync.runtime_canSpin", "internal/sync.runtime_doSpin", "internal/sync.throw", "internal/sync.runtime_nanotime", "internal/sync.runtime_SemacquireMutex", "sync/atomic.AddInt32", "(*internal/sync.Mutex).Unlock", "internal/race.ReleaseMerge", "(*internal/sync.Mutex).unlockSlow", "internal/sync.fatal", "internal/sync.runtime_Semrelease"], unfollowed := true, recurses := true, apart := false, narrowed := true }
def AuditStrangersUptoSaid : Prop := auditStrangersUptoRow.holds Try.pinned (OpenSpec.upto auditStrangersSpec)

/-- 'curialaw12.WireBox', WHERE WHAT IT READS IS OF BULK AT MOST 1048576: true; the input reads as it did. -/
def wireBoxUptoRow : OpenClaim := { program := "ytlghaoohfklpnaa", sum := "e8384070d616af9df5b73762fd11c963a0ebabec79eccba7a9f2a588d02f759d", func := "curia/curialaw12.WireBox", spec := "wireBox", unfollowed := true, recurses := true, apart := false, narrowed := true }
def WireBoxUptoSaid : Prop := wireBoxUptoRow.holds Try.pinned (OpenSpec.upto wireBoxSpec)

/-- 'curialaw12.WireTakes', WHERE WHAT IT READS IS OF BULK AT MOST 1048576: true; the input reads as it did. -/
def wireTakesUptoRow : OpenClaim := { program := "ytlghaoohfklpnaa", sum := "e8384070d616af9df5b73762fd11c963a0ebabec79eccba7a9f2a588d02f759d", func := "curia/curialaw12.WireTakes", spec := "wireTakes", unfollowed := true, recurses := true, apart := false, narrowed := true }
def WireTakesUptoSaid : Prop := wireTakesUptoRow.holds Try.pinned (OpenSpec.upto wireTakesSpec)

/-- 'curialaw12.WireWelcomes', WHERE WHAT IT READS IS OF BULK AT MOST 1048576: true; the input reads as it did. -/
def wireWelcomesUptoRow : OpenClaim := { program := "ytlghaoohfklpnaa", sum := "e8384070d616af9df5b73762fd11c963a0ebabec79eccba7a9f2a588d02f759d", func := "curia/curialaw12.WireWelcomes", spec := "wireWelcomes", unfollowed := true, recurses := true, apart := false, narrowed := true }
def WireWelcomesUptoSaid : Prop := wireWelcomesUptoRow.holds Try.pinned (OpenSpec.upto wireWelcomesSpec)

/-- 'curialaw12.WireApart', WHERE WHAT IT READS IS OF BULK AT MOST 1048576: true; the input reads as it did. -/
def wireApartUptoRow : OpenClaim := { program := "ytlghaoohfklpnaa", sum := "e8384070d616af9df5b73762fd11c963a0ebabec79eccba7a9f2a588d02f759d", func := "curia/curialaw12.WireApart", spec := "wireApart", unfollowed := true, recurses := true, apart := false, narrowed := true }
def WireApartUptoSaid : Prop := wireApartUptoRow.holds Try.pinned (OpenSpec.upto wireApartSpec)

/-- 'curialaw12.WireOnce', WHERE WHAT IT READS IS OF BULK AT MOST 1048576: true; the input reads as it did. -/
def wireOnceUptoRow : OpenClaim := { program := "ytlghaoohfklpnaa", sum := "e8384070d616af9df5b73762fd11c963a0ebabec79eccba7a9f2a588d02f759d", func := "curia/curialaw12.WireOnce", spec := "wireOnce", unfollowed := true, recurses := true, apart := false, narrowed := true }
def WireOnceUptoSaid : Prop := wireOnceUptoRow.holds Try.pinned (OpenSpec.upto wireOnceSpec)

end Rows
end Go.Proofs.Ytlghaoohfklpnaa
