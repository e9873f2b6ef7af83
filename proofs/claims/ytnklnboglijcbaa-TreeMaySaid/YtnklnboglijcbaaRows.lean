/-
  No cell of these rows narrows 'for every input' (looked for: loops, veiled, ifaces, maps, wideKeys, modest, calm, conditions, laid).
  DERIVED. THE GIVEN ROWS OF THIS SEAT. 8 by the template 'for every input the law returns true; each argument reads behind the call as it read before'; 0 by the template 'total and deterministic' (their statements: YtnklnboglijcbaaTotals.lean).
  GIVEN WITH THE SEED: the statements are not yours to turn. If you find one false, say at which input.
  Laid BY PROGRAM, IN A SANDBOX (cutbox-rows.mjs): the forced cells as the released guide's own fill.sh prints them over the translation bda115d51ccf9632… (all of the seat's roots in one cut). By AI agents, Wed Nov 11 2026. No macro, syntax, notation, axiom, sorry.
-/
import Derived.Test.YtnklnboglijcbaaChecked
import GoSem.Claim
import GoSem.ClaimJoined
import GoSem.ClaimMapViews
import Derived.JoinedTies
import Derived.KernelRfl
namespace Go.Proofs.Ytnklnboglijcbaa
/- THE CELL 'sum', in the pinned program and in every row, IS THE sha256 OF THE DUMP (.gsa) THAT YtnklnboglijcbaaProg.lean LOADS. Nothing in Lean hashes anything: it is a label: what it is worth is what the hold of that sum in a sandbox is worth. -/
noncomputable def Try.pinned : Pinned := { name := "ytnklnboglijcbaa", sum := "bda115d51ccf9632bcd538e270866fb01d93349f28d2fb61b066b3d5bf4bfd5b", checked := Try.checked }
namespace Rows
def none {H : Type} : Left H := { results := [], args := [] }

/-- 'curialaw7.TreeSides': WHATEVER THE INPUT: true; the input reads as it did. -/
def treeSidesSpec : ChangeSpec := { name := "treeSides", fn := fun _ => fun
  | [d1, d2] => { results := [.lit (.bool true)], args := [d1, d2] }
  | _ => none }
def treeSidesRow : OpenClaim := { program := "ytnklnboglijcbaa", sum := "bda115d51ccf9632bcd538e270866fb01d93349f28d2fb61b066b3d5bf4bfd5b", func := "curia/curialaw7.TreeSides", spec := "treeSides", apart := false }
def TreeSidesSaid : Prop := treeSidesRow.holds Try.pinned (OpenSpec.ofChange treeSidesSpec)

/-- ITS FALSE NEIGHBOUR: 'it returns false'. Refute it at one input. -/
def treeSidesWrong : ChangeSpec := { name := "treeSides", fn := fun _ => fun
  | [d1, d2] => { results := [.lit (.bool false)], args := [d1, d2] }
  | _ => none }
def TreeSidesWrongFalsely : Prop := treeSidesRow.holds Try.pinned (OpenSpec.ofChange treeSidesWrong)

/-- 'curialaw7.TreePairs': WHATEVER THE INPUT: true; the input reads as it did. -/
def treePairsSpec : ChangeSpec := { name := "treePairs", fn := fun _ => fun
  | [d1, d2] => { results := [.lit (.bool true)], args := [d1, d2] }
  | _ => none }
def treePairsRow : OpenClaim := { program := "ytnklnboglijcbaa", sum := "bda115d51ccf9632bcd538e270866fb01d93349f28d2fb61b066b3d5bf4bfd5b", func := "curia/curialaw7.TreePairs", spec := "treePairs", apart := false }
def TreePairsSaid : Prop := treePairsRow.holds Try.pinned (OpenSpec.ofChange treePairsSpec)

/-- ITS FALSE NEIGHBOUR: 'it returns false'. Refute it at one input. -/
def treePairsWrong : ChangeSpec := { name := "treePairs", fn := fun _ => fun
  | [d1, d2] => { results := [.lit (.bool false)], args := [d1, d2] }
  | _ => none }
def TreePairsWrongFalsely : Prop := treePairsRow.holds Try.pinned (OpenSpec.ofChange treePairsWrong)

/-- 'curialaw7.TreePuts': WHATEVER THE INPUT: true; the input reads as it did. -/
def treePutsSpec : ChangeSpec := { name := "treePuts", fn := fun _ => fun
  | [d1, d2, d3] => { results := [.lit (.bool true)], args := [d1, d2, d3] }
  | _ => none }
def treePutsRow : OpenClaim := { program := "ytnklnboglijcbaa", sum := "bda115d51ccf9632bcd538e270866fb01d93349f28d2fb61b066b3d5bf4bfd5b", func := "curia/curialaw7.TreePuts", spec := "treePuts", apart := false }
def TreePutsSaid : Prop := treePutsRow.holds Try.pinned (OpenSpec.ofChange treePutsSpec)

/-- ITS FALSE NEIGHBOUR: 'it returns false'. Refute it at one input. -/
def treePutsWrong : ChangeSpec := { name := "treePuts", fn := fun _ => fun
  | [d1, d2, d3] => { results := [.lit (.bool false)], args := [d1, d2, d3] }
  | _ => none }
def TreePutsWrongFalsely : Prop := treePutsRow.holds Try.pinned (OpenSpec.ofChange treePutsWrong)

/-- 'curialaw7.TreeTwice': WHATEVER THE INPUT: true; the input reads as it did. -/
def treeTwiceSpec : ChangeSpec := { name := "treeTwice", fn := fun _ => fun
  | [d1, d2, d3, d4] => { results := [.lit (.bool true)], args := [d1, d2, d3, d4] }
  | _ => none }
def treeTwiceRow : OpenClaim := { program := "ytnklnboglijcbaa", sum := "bda115d51ccf9632bcd538e270866fb01d93349f28d2fb61b066b3d5bf4bfd5b", func := "curia/curialaw7.TreeTwice", spec := "treeTwice", apart := false }
def TreeTwiceSaid : Prop := treeTwiceRow.holds Try.pinned (OpenSpec.ofChange treeTwiceSpec)

/-- ITS FALSE NEIGHBOUR: 'it returns false'. Refute it at one input. -/
def treeTwiceWrong : ChangeSpec := { name := "treeTwice", fn := fun _ => fun
  | [d1, d2, d3, d4] => { results := [.lit (.bool false)], args := [d1, d2, d3, d4] }
  | _ => none }
def TreeTwiceWrongFalsely : Prop := treeTwiceRow.holds Try.pinned (OpenSpec.ofChange treeTwiceWrong)

/-- 'curialaw7.TreeReach': WHATEVER THE INPUT: true; the input reads as it did. -/
def treeReachSpec : ChangeSpec := { name := "treeReach", fn := fun _ => fun
  | [d1, d2] => { results := [.lit (.bool true)], args := [d1, d2] }
  | _ => none }
def treeReachRow : OpenClaim := { program := "ytnklnboglijcbaa", sum := "bda115d51ccf9632bcd538e270866fb01d93349f28d2fb61b066b3d5bf4bfd5b", func := "curia/curialaw7.TreeReach", spec := "treeReach", recurses := true, apart := false }
def TreeReachSaid : Prop := treeReachRow.holds Try.pinned (OpenSpec.ofChange treeReachSpec)

/-- ITS FALSE NEIGHBOUR: 'it returns false'. Refute it at one input. -/
def treeReachWrong : ChangeSpec := { name := "treeReach", fn := fun _ => fun
  | [d1, d2] => { results := [.lit (.bool false)], args := [d1, d2] }
  | _ => none }
def TreeReachWrongFalsely : Prop := treeReachRow.holds Try.pinned (OpenSpec.ofChange treeReachWrong)

/-- 'curialaw7.TreeOnce': WHATEVER THE INPUT: true; the input reads as it did. -/
def treeOnceSpec : ChangeSpec := { name := "treeOnce", fn := fun _ => fun
  | [d1, d2] => { results := [.lit (.bool true)], args := [d1, d2] }
  | _ => none }
def treeOnceRow : OpenClaim := { program := "ytnklnboglijcbaa", sum := "bda115d51ccf9632bcd538e270866fb01d93349f28d2fb61b066b3d5bf4bfd5b", func := "curia/curialaw7.TreeOnce", spec := "treeOnce", recurses := true, apart := false }
def TreeOnceSaid : Prop := treeOnceRow.holds Try.pinned (OpenSpec.ofChange treeOnceSpec)

/-- ITS FALSE NEIGHBOUR: 'it returns false'. Refute it at one input. -/
def treeOnceWrong : ChangeSpec := { name := "treeOnce", fn := fun _ => fun
  | [d1, d2] => { results := [.lit (.bool false)], args := [d1, d2] }
  | _ => none }
def TreeOnceWrongFalsely : Prop := treeOnceRow.holds Try.pinned (OpenSpec.ofChange treeOnceWrong)

/-- 'curialaw7.TreeRoot': WHATEVER THE INPUT: true; the input reads as it did. -/
def treeRootSpec : ChangeSpec := { name := "treeRoot", fn := fun _ => fun
  | [d1, d2] => { results := [.lit (.bool true)], args := [d1, d2] }
  | _ => none }
def treeRootRow : OpenClaim := { program := "ytnklnboglijcbaa", sum := "bda115d51ccf9632bcd538e270866fb01d93349f28d2fb61b066b3d5bf4bfd5b", func := "curia/curialaw7.TreeRoot", spec := "treeRoot", recurses := true, apart := false }
def TreeRootSaid : Prop := treeRootRow.holds Try.pinned (OpenSpec.ofChange treeRootSpec)

/-- ITS FALSE NEIGHBOUR: 'it returns false'. Refute it at one input. -/
def treeRootWrong : ChangeSpec := { name := "treeRoot", fn := fun _ => fun
  | [d1, d2] => { results := [.lit (.bool false)], args := [d1, d2] }
  | _ => none }
def TreeRootWrongFalsely : Prop := treeRootRow.holds Try.pinned (OpenSpec.ofChange treeRootWrong)

/-- 'curialaw7.TreeMay': WHATEVER THE INPUT: true; the input reads as it did. -/
def treeMaySpec : ChangeSpec := { name := "treeMay", fn := fun _ => fun
  | [d1, d2, d3] => { results := [.lit (.bool true)], args := [d1, d2, d3] }
  | _ => none }
def treeMayRow : OpenClaim := { program := "ytnklnboglijcbaa", sum := "bda115d51ccf9632bcd538e270866fb01d93349f28d2fb61b066b3d5bf4bfd5b", func := "curia/curialaw7.TreeMay", spec := "treeMay", apart := false }
def TreeMaySaid : Prop := treeMayRow.holds Try.pinned (OpenSpec.ofChange treeMaySpec)

/-- ITS FALSE NEIGHBOUR: 'it returns false'. Refute it at one input. -/
def treeMayWrong : ChangeSpec := { name := "treeMay", fn := fun _ => fun
  | [d1, d2, d3] => { results := [.lit (.bool false)], args := [d1, d2, d3] }
  | _ => none }
def TreeMayWrongFalsely : Prop := treeMayRow.holds Try.pinned (OpenSpec.ofChange treeMayWrong)

/- THE SECOND FORM. 'bulk': how many values and letters a reading holds, each counted each time it is reached (what is shared counts as often as it is met; a slice's spare places count too). A statement '..UptoSaid' is the law's where the arguments, and the package variables that the reading takes, are together of bulk at most 1048576: NARROWER than '..Said'. Prove '..Said' where nothing that the law and all that it calls make is longer than what came in: it says more and counts as full. Else prove '..UptoSaid'. A law counts once. -/
mutual
def uptoBulk {H : Type} : DataW H → Nat
  | .lit (.string bytes) => bytes.length + 1
  | .lit _ => 1
  | .nil => 1
  | .ptr d => uptoBulk d + 1
  | .slice elems spare => uptoBulkAll elems + uptoBulkAll spare + 1
  | .agg parts => uptoBulkAll parts + 1
  | .iface _ d => uptoBulk d + 1
  | .map entries => uptoBulkEntries entries + 1
  | .held _ => 1
def uptoBulkAll {H : Type} : List (DataW H) → Nat
  | [] => 0
  | d :: r => uptoBulk d + uptoBulkAll r
def uptoBulkEntries {H : Type} : List (Lit × DataW H) → Nat
  | [] => 0
  | x :: r => uptoBulkEntry x + uptoBulkEntries r
def uptoBulkEntry {H : Type} : Lit × DataW H → Nat
  | (.string bytes, d) => bytes.length + uptoBulk d + 1
  | (_, d) => uptoBulk d + 1
 end
def uptoSmall : (H : Type) → List (DataW H) → Bool := fun _ ds => decide (uptoBulkAll ds ≤ 1048576)
def OpenSpec.upto (s : _root_.Go.ChangeSpec) : _root_.Go.OpenSpec := { _root_.Go.OpenSpec.ofChange s with cond := some uptoSmall }

/-- 'curialaw7.TreeSides', WHERE WHAT IT READS IS OF BULK AT MOST 1048576: true; the input reads as it did. -/
def treeSidesUptoRow : OpenClaim := { program := "ytnklnboglijcbaa", sum := "bda115d51ccf9632bcd538e270866fb01d93349f28d2fb61b066b3d5bf4bfd5b", func := "curia/curialaw7.TreeSides", spec := "treeSides", apart := false, narrowed := true }
def TreeSidesUptoSaid : Prop := treeSidesUptoRow.holds Try.pinned (OpenSpec.upto treeSidesSpec)

/-- 'curialaw7.TreePairs', WHERE WHAT IT READS IS OF BULK AT MOST 1048576: true; the input reads as it did. -/
def treePairsUptoRow : OpenClaim := { program := "ytnklnboglijcbaa", sum := "bda115d51ccf9632bcd538e270866fb01d93349f28d2fb61b066b3d5bf4bfd5b", func := "curia/curialaw7.TreePairs", spec := "treePairs", apart := false, narrowed := true }
def TreePairsUptoSaid : Prop := treePairsUptoRow.holds Try.pinned (OpenSpec.upto treePairsSpec)

/-- 'curialaw7.TreePuts', WHERE WHAT IT READS IS OF BULK AT MOST 1048576: true; the input reads as it did. -/
def treePutsUptoRow : OpenClaim := { program := "ytnklnboglijcbaa", sum := "bda115d51ccf9632bcd538e270866fb01d93349f28d2fb61b066b3d5bf4bfd5b", func := "curia/curialaw7.TreePuts", spec := "treePuts", apart := false, narrowed := true }
def TreePutsUptoSaid : Prop := treePutsUptoRow.holds Try.pinned (OpenSpec.upto treePutsSpec)

/-- 'curialaw7.TreeTwice', WHERE WHAT IT READS IS OF BULK AT MOST 1048576: true; the input reads as it did. -/
def treeTwiceUptoRow : OpenClaim := { program := "ytnklnboglijcbaa", sum := "bda115d51ccf9632bcd538e270866fb01d93349f28d2fb61b066b3d5bf4bfd5b", func := "curia/curialaw7.TreeTwice", spec := "treeTwice", apart := false, narrowed := true }
def TreeTwiceUptoSaid : Prop := treeTwiceUptoRow.holds Try.pinned (OpenSpec.upto treeTwiceSpec)

/-- 'curialaw7.TreeReach', WHERE WHAT IT READS IS OF BULK AT MOST 1048576: true; the input reads as it did. -/
def treeReachUptoRow : OpenClaim := { program := "ytnklnboglijcbaa", sum := "bda115d51ccf9632bcd538e270866fb01d93349f28d2fb61b066b3d5bf4bfd5b", func := "curia/curialaw7.TreeReach", spec := "treeReach", recurses := true, apart := false, narrowed := true }
def TreeReachUptoSaid : Prop := treeReachUptoRow.holds Try.pinned (OpenSpec.upto treeReachSpec)

/-- 'curialaw7.TreeOnce', WHERE WHAT IT READS IS OF BULK AT MOST 1048576: true; the input reads as it did. -/
def treeOnceUptoRow : OpenClaim := { program := "ytnklnboglijcbaa", sum := "bda115d51ccf9632bcd538e270866fb01d93349f28d2fb61b066b3d5bf4bfd5b", func := "curia/curialaw7.TreeOnce", spec := "treeOnce", recurses := true, apart := false, narrowed := true }
def TreeOnceUptoSaid : Prop := treeOnceUptoRow.holds Try.pinned (OpenSpec.upto treeOnceSpec)

/-- 'curialaw7.TreeRoot', WHERE WHAT IT READS IS OF BULK AT MOST 1048576: true; the input reads as it did. -/
def treeRootUptoRow : OpenClaim := { program := "ytnklnboglijcbaa", sum := "bda115d51ccf9632bcd538e270866fb01d93349f28d2fb61b066b3d5bf4bfd5b", func := "curia/curialaw7.TreeRoot", spec := "treeRoot", recurses := true, apart := false, narrowed := true }
def TreeRootUptoSaid : Prop := treeRootUptoRow.holds Try.pinned (OpenSpec.upto treeRootSpec)

/-- 'curialaw7.TreeMay', WHERE WHAT IT READS IS OF BULK AT MOST 1048576: true; the input reads as it did. -/
def treeMayUptoRow : OpenClaim := { program := "ytnklnboglijcbaa", sum := "bda115d51ccf9632bcd538e270866fb01d93349f28d2fb61b066b3d5bf4bfd5b", func := "curia/curialaw7.TreeMay", spec := "treeMay", apart := false, narrowed := true }
def TreeMayUptoSaid : Prop := treeMayUptoRow.holds Try.pinned (OpenSpec.upto treeMaySpec)

end Rows
end Go.Proofs.Ytnklnboglijcbaa
