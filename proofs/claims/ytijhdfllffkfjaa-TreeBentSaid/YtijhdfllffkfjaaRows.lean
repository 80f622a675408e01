/-
  No cell of these rows narrows 'for every input' (looked for: loops, veiled, ifaces, maps, wideKeys, modest, calm, conditions, laid).
  DERIVED. THE GIVEN ROWS OF THIS SEAT. 10 by the template 'for every input the law returns true; each argument reads behind the call as it read before'; 0 by the template 'total and deterministic' (their statements: YtijhdfllffkfjaaTotals.lean).
  GIVEN WITH THE SEED: the statements are not yours to turn. If you find one false, say at which input.
  Laid BY PROGRAM, IN A SANDBOX (cutbox-rows.mjs): the forced cells as the released guide's own fill.sh prints them over the translation e1c9ab644b1f1063… (all of the seat's roots in one cut). By AI agents, Wed Nov 11 2026. No macro, syntax, notation, axiom, sorry.
-/
import Derived.Test.YtijhdfllffkfjaaChecked
import GoSem.Claim
import GoSem.ClaimJoined
import GoSem.ClaimMapViews
import Derived.JoinedTies
import Derived.KernelRfl
namespace Go.Proofs.Ytijhdfllffkfjaa
/- THE CELL 'sum', in the pinned program and in every row, IS THE sha256 OF THE DUMP (.gsa) THAT YtijhdfllffkfjaaProg.lean LOADS. Nothing in Lean hashes anything: it is a label: what it is worth is what the hold of that sum in a sandbox is worth. -/
noncomputable def Try.pinned : Pinned := { name := "ytijhdfllffkfjaa", sum := "e1c9ab644b1f1063802dd177c2ae110163ea4df84c3cabd150cf90ced978c034", checked := Try.checked }
namespace Rows
def none {H : Type} : Left H := { results := [], args := [] }

/-- 'sorteslaw12.TreeRoots': WHATEVER THE INPUT: true; the input reads as it did. -/
def treeRootsSpec : ChangeSpec := { name := "treeRoots", fn := fun _ => fun
  | [d1, d2, d3] => { results := [.lit (.bool true)], args := [d1, d2, d3] }
  | _ => none }
def treeRootsRow : OpenClaim := { program := "ytijhdfllffkfjaa", sum := "e1c9ab644b1f1063802dd177c2ae110163ea4df84c3cabd150cf90ced978c034", func := "sortes/sorteslaw12.TreeRoots", spec := "treeRoots", unfollowed := true, recurses := true, apart := false }
def TreeRootsSaid : Prop := treeRootsRow.holds Try.pinned (OpenSpec.ofChange treeRootsSpec)

/-- ITS FALSE NEIGHBOUR: 'it returns false'. Refute it at one input. -/
def treeRootsWrong : ChangeSpec := { name := "treeRoots", fn := fun _ => fun
  | [d1, d2, d3] => { results := [.lit (.bool false)], args := [d1, d2, d3] }
  | _ => none }
def TreeRootsWrongFalsely : Prop := treeRootsRow.holds Try.pinned (OpenSpec.ofChange treeRootsWrong)

/-- 'sorteslaw12.TreeBinds': WHATEVER THE INPUT: true; the input reads as it did. -/
def treeBindsSpec : ChangeSpec := { name := "treeBinds", fn := fun _ => fun
  | [d1, d2, d3] => { results := [.lit (.bool true)], args := [d1, d2, d3] }
  | _ => none }
def treeBindsRow : OpenClaim := { program := "ytijhdfllffkfjaa", sum := "e1c9ab644b1f1063802dd177c2ae110163ea4df84c3cabd150cf90ced978c034", func := "sortes/sorteslaw12.TreeBinds", spec := "treeBinds", unfollowed := true, recurses := true, apart := false }
def TreeBindsSaid : Prop := treeBindsRow.holds Try.pinned (OpenSpec.ofChange treeBindsSpec)

/-- ITS FALSE NEIGHBOUR: 'it returns false'. Refute it at one input. -/
def treeBindsWrong : ChangeSpec := { name := "treeBinds", fn := fun _ => fun
  | [d1, d2, d3] => { results := [.lit (.bool false)], args := [d1, d2, d3] }
  | _ => none }
def TreeBindsWrongFalsely : Prop := treeBindsRow.holds Try.pinned (OpenSpec.ofChange treeBindsWrong)

/-- 'sorteslaw12.TreePaths': WHATEVER THE INPUT: true; the input reads as it did. -/
def treePathsSpec : ChangeSpec := { name := "treePaths", fn := fun _ => fun
  | [d1, d2] => { results := [.lit (.bool true)], args := [d1, d2] }
  | _ => none }
def treePathsRow : OpenClaim := { program := "ytijhdfllffkfjaa", sum := "e1c9ab644b1f1063802dd177c2ae110163ea4df84c3cabd150cf90ced978c034", func := "sortes/sorteslaw12.TreePaths", spec := "treePaths", unfollowed := true, recurses := true, apart := false }
def TreePathsSaid : Prop := treePathsRow.holds Try.pinned (OpenSpec.ofChange treePathsSpec)

/-- ITS FALSE NEIGHBOUR: 'it returns false'. Refute it at one input. -/
def treePathsWrong : ChangeSpec := { name := "treePaths", fn := fun _ => fun
  | [d1, d2] => { results := [.lit (.bool false)], args := [d1, d2] }
  | _ => none }
def TreePathsWrongFalsely : Prop := treePathsRow.holds Try.pinned (OpenSpec.ofChange treePathsWrong)

/-- 'sorteslaw12.TreeChecks': WHATEVER THE INPUT: true; the input reads as it did. -/
def treeChecksSpec : ChangeSpec := { name := "treeChecks", fn := fun _ => fun
  | [d1, d2, d3] => { results := [.lit (.bool true)], args := [d1, d2, d3] }
  | _ => none }
def treeChecksRow : OpenClaim := { program := "ytijhdfllffkfjaa", sum := "e1c9ab644b1f1063802dd177c2ae110163ea4df84c3cabd150cf90ced978c034", func := "sortes/sorteslaw12.TreeChecks", spec := "treeChecks", unfollowed := true, recurses := true, apart := false }
def TreeChecksSaid : Prop := treeChecksRow.holds Try.pinned (OpenSpec.ofChange treeChecksSpec)

/-- ITS FALSE NEIGHBOUR: 'it returns false'. Refute it at one input. -/
def treeChecksWrong : ChangeSpec := { name := "treeChecks", fn := fun _ => fun
  | [d1, d2, d3] => { results := [.lit (.bool false)], args := [d1, d2, d3] }
  | _ => none }
def TreeChecksWrongFalsely : Prop := treeChecksRow.holds Try.pinned (OpenSpec.ofChange treeChecksWrong)

/-- 'sorteslaw12.TreeExtends': WHATEVER THE INPUT: true; the input reads as it did. -/
def treeExtendsSpec : ChangeSpec := { name := "treeExtends", fn := fun _ => fun
  | [d1, d2, d3] => { results := [.lit (.bool true)], args := [d1, d2, d3] }
  | _ => none }
def treeExtendsRow : OpenClaim := { program := "ytijhdfllffkfjaa", sum := "e1c9ab644b1f1063802dd177c2ae110163ea4df84c3cabd150cf90ced978c034", func := "sortes/sorteslaw12.TreeExtends", spec := "treeExtends", unfollowed := true, recurses := true, apart := false }
def TreeExtendsSaid : Prop := treeExtendsRow.holds Try.pinned (OpenSpec.ofChange treeExtendsSpec)

/-- ITS FALSE NEIGHBOUR: 'it returns false'. Refute it at one input. -/
def treeExtendsWrong : ChangeSpec := { name := "treeExtends", fn := fun _ => fun
  | [d1, d2, d3] => { results := [.lit (.bool false)], args := [d1, d2, d3] }
  | _ => none }
def TreeExtendsWrongFalsely : Prop := treeExtendsRow.holds Try.pinned (OpenSpec.ofChange treeExtendsWrong)

/-- 'sorteslaw12.TreeGrows': WHATEVER THE INPUT: true; the input reads as it did. -/
def treeGrowsSpec : ChangeSpec := { name := "treeGrows", fn := fun _ => fun
  | [d1, d2] => { results := [.lit (.bool true)], args := [d1, d2] }
  | _ => none }
def treeGrowsRow : OpenClaim := { program := "ytijhdfllffkfjaa", sum := "e1c9ab644b1f1063802dd177c2ae110163ea4df84c3cabd150cf90ced978c034", func := "sortes/sorteslaw12.TreeGrows", spec := "treeGrows", unfollowed := true, recurses := true, apart := false }
def TreeGrowsSaid : Prop := treeGrowsRow.holds Try.pinned (OpenSpec.ofChange treeGrowsSpec)

/-- ITS FALSE NEIGHBOUR: 'it returns false'. Refute it at one input. -/
def treeGrowsWrong : ChangeSpec := { name := "treeGrows", fn := fun _ => fun
  | [d1, d2] => { results := [.lit (.bool false)], args := [d1, d2] }
  | _ => none }
def TreeGrowsWrongFalsely : Prop := treeGrowsRow.holds Try.pinned (OpenSpec.ofChange treeGrowsWrong)

/-- 'sorteslaw12.TreeBent': WHATEVER THE INPUT: true; the input reads as it did. -/
def treeBentSpec : ChangeSpec := { name := "treeBent", fn := fun _ => fun
  | [d1, d2, d3] => { results := [.lit (.bool true)], args := [d1, d2, d3] }
  | _ => none }
def treeBentRow : OpenClaim := { program := "ytijhdfllffkfjaa", sum := "e1c9ab644b1f1063802dd177c2ae110163ea4df84c3cabd150cf90ced978c034", func := "sortes/sorteslaw12.TreeBent", spec := "treeBent", unfollowed := true, recurses := true, apart := false }
def TreeBentSaid : Prop := treeBentRow.holds Try.pinned (OpenSpec.ofChange treeBentSpec)

/-- ITS FALSE NEIGHBOUR: 'it returns false'. Refute it at one input. -/
def treeBentWrong : ChangeSpec := { name := "treeBent", fn := fun _ => fun
  | [d1, d2, d3] => { results := [.lit (.bool false)], args := [d1, d2, d3] }
  | _ => none }
def TreeBentWrongFalsely : Prop := treeBentRow.holds Try.pinned (OpenSpec.ofChange treeBentWrong)

/-- 'sorteslaw12.TreeLarge': WHATEVER THE INPUT: true; the input reads as it did. -/
def treeLargeSpec : ChangeSpec := { name := "treeLarge", fn := fun _ => fun
  | [d1, d2, d3] => { results := [.lit (.bool true)], args := [d1, d2, d3] }
  | _ => none }
def treeLargeRow : OpenClaim := { program := "ytijhdfllffkfjaa", sum := "e1c9ab644b1f1063802dd177c2ae110163ea4df84c3cabd150cf90ced978c034", func := "sortes/sorteslaw12.TreeLarge", spec := "treeLarge", unfollowed := true, recurses := true, apart := false }
def TreeLargeSaid : Prop := treeLargeRow.holds Try.pinned (OpenSpec.ofChange treeLargeSpec)

/-- ITS FALSE NEIGHBOUR: 'it returns false'. Refute it at one input. -/
def treeLargeWrong : ChangeSpec := { name := "treeLarge", fn := fun _ => fun
  | [d1, d2, d3] => { results := [.lit (.bool false)], args := [d1, d2, d3] }
  | _ => none }
def TreeLargeWrongFalsely : Prop := treeLargeRow.holds Try.pinned (OpenSpec.ofChange treeLargeWrong)

/-- 'sorteslaw12.TreeTwice': WHATEVER THE INPUT: true; the input reads as it did. -/
def treeTwiceSpec : ChangeSpec := { name := "treeTwice", fn := fun _ => fun
  | [d1, d2, d3] => { results := [.lit (.bool true)], args := [d1, d2, d3] }
  | _ => none }
def treeTwiceRow : OpenClaim := { program := "ytijhdfllffkfjaa", sum := "e1c9ab644b1f1063802dd177c2ae110163ea4df84c3cabd150cf90ced978c034", func := "sortes/sorteslaw12.TreeTwice", spec := "treeTwice", unfollowed := true, recurses := true, apart := false }
def TreeTwiceSaid : Prop := treeTwiceRow.holds Try.pinned (OpenSpec.ofChange treeTwiceSpec)

/-- ITS FALSE NEIGHBOUR: 'it returns false'. Refute it at one input. -/
def treeTwiceWrong : ChangeSpec := { name := "treeTwice", fn := fun _ => fun
  | [d1, d2, d3] => { results := [.lit (.bool false)], args := [d1, d2, d3] }
  | _ => none }
def TreeTwiceWrongFalsely : Prop := treeTwiceRow.holds Try.pinned (OpenSpec.ofChange treeTwiceWrong)

/-- 'sorteslaw12.TreeKeeps': WHATEVER THE INPUT: true; the input reads as it did. -/
def treeKeepsSpec : ChangeSpec := { name := "treeKeeps", fn := fun _ => fun
  | [d1, d2] => { results := [.lit (.bool true)], args := [d1, d2] }
  | _ => none }
def treeKeepsRow : OpenClaim := { program := "ytijhdfllffkfjaa", sum := "e1c9ab644b1f1063802dd177c2ae110163ea4df84c3cabd150cf90ced978c034", func := "sortes/sorteslaw12.TreeKeeps", spec := "treeKeeps", unfollowed := true, recurses := true, apart := false }
def TreeKeepsSaid : Prop := treeKeepsRow.holds Try.pinned (OpenSpec.ofChange treeKeepsSpec)

/-- ITS FALSE NEIGHBOUR: 'it returns false'. Refute it at one input. -/
def treeKeepsWrong : ChangeSpec := { name := "treeKeeps", fn := fun _ => fun
  | [d1, d2] => { results := [.lit (.bool false)], args := [d1, d2] }
  | _ => none }
def TreeKeepsWrongFalsely : Prop := treeKeepsRow.holds Try.pinned (OpenSpec.ofChange treeKeepsWrong)

/- THE SECOND FORM. 'bulk': how many values and letters a reading holds, each counted each time it is reached (what is shared counts as often as it is met; a slice's spare places count too). A statement '..UptoSaid' is the law's where the arguments, and the package variables that the reading takes, are together of bulk at most 1048576: NARROWER than '..Said'. Prove '..Said' where nothing that the law and all that it calls make is longer than what came in: it says more and counts as full. Else prove '..UptoSaid'. A law counts once. -/
mutual
def uptoBulk {H : Type} : DataW H → Nat
  | .lit (.string bytes) => bytes.length + 1
  | .lit _ => 1
  | .nil => 1
  | .ptr d => uptoBulk d + 1
  | .slice elems spare => uptoBulkAll elems + uptoBulkAll spare + 1
  | .agg parts => uptoBulkAll parts + 1
  | .iface _ d => uptoBulk d + 1
  | .map entries => uptoBulkEntries entries + 1
  | .held _ => 1
def uptoBulkAll {H : Type} : List (DataW H) → Nat
  | [] => 0
  | d :: r => uptoBulk d + uptoBulkAll r
def uptoBulkEntries {H : Type} : List (Lit × DataW H) → Nat
  | [] => 0
  | x :: r => uptoBulkEntry x + uptoBulkEntries r
def uptoBulkEntry {H : Type} : Lit × DataW H → Nat
  | (.string bytes, d) => bytes.length + uptoBulk d + 1
  | (_, d) => uptoBulk d + 1
 end
def uptoSmall : (H : Type) → List (DataW H) → Bool := fun _ ds => decide (uptoBulkAll ds ≤ 1048576)
def OpenSpec.upto (s : _root_.Go.ChangeSpec) : _root_.Go.OpenSpec := { _root_.Go.OpenSpec.ofChange s with cond := some uptoSmall }

/-- 'sorteslaw12.TreeRoots', WHERE WHAT IT READS IS OF BULK AT MOST 1048576: true; the input reads as it did. -/
def treeRootsUptoRow : OpenClaim := { program := "ytijhdfllffkfjaa", sum := "e1c9ab644b1f1063802dd177c2ae110163ea4df84c3cabd150cf90ced978c034", func := "sortes/sorteslaw12.TreeRoots", spec := "treeRoots", unfollowed := true, recurses := true, apart := false, narrowed := true }
def TreeRootsUptoSaid : Prop := treeRootsUptoRow.holds Try.pinned (OpenSpec.upto treeRootsSpec)

/-- 'sorteslaw12.TreeBinds', WHERE WHAT IT READS IS OF BULK AT MOST 1048576: true; the input reads as it did. -/
def treeBindsUptoRow : OpenClaim := { program := "ytijhdfllffkfjaa", sum := "e1c9ab644b1f1063802dd177c2ae110163ea4df84c3cabd150cf90ced978c034", func := "sortes/sorteslaw12.TreeBinds", spec := "treeBinds", unfollowed := true, recurses := true, apart := false, narrowed := true }
def TreeBindsUptoSaid : Prop := treeBindsUptoRow.holds Try.pinned (OpenSpec.upto treeBindsSpec)

/-- 'sorteslaw12.TreePaths', WHERE WHAT IT READS IS OF BULK AT MOST 1048576: true; the input reads as it did. -/
def treePathsUptoRow : OpenClaim := { program := "ytijhdfllffkfjaa", sum := "e1c9ab644b1f1063802dd177c2ae110163ea4df84c3cabd150cf90ced978c034", func := "sortes/sorteslaw12.TreePaths", spec := "treePaths", unfollowed := true, recurses := true, apart := false, narrowed := true }
def TreePathsUptoSaid : Prop := treePathsUptoRow.holds Try.pinned (OpenSpec.upto treePathsSpec)

/-- 'sorteslaw12.TreeChecks', WHERE WHAT IT READS IS OF BULK AT MOST 1048576: true; the input reads as it did. -/
def treeChecksUptoRow : OpenClaim := { program := "ytijhdfllffkfjaa", sum := "e1c9ab644b1f1063802dd177c2ae110163ea4df84c3cabd150cf90ced978c034", func := "sortes/sorteslaw12.TreeChecks", spec := "treeChecks", unfollowed := true, recurses := true, apart := false, narrowed := true }
def TreeChecksUptoSaid : Prop := treeChecksUptoRow.holds Try.pinned (OpenSpec.upto treeChecksSpec)

/-- 'sorteslaw12.TreeExtends', WHERE WHAT IT READS IS OF BULK AT MOST 1048576: true; the input reads as it did. -/
def treeExtendsUptoRow : OpenClaim := { program := "ytijhdfllffkfjaa", sum := "e1c9ab644b1f1063802dd177c2ae110163ea4df84c3cabd150cf90ced978c034", func := "sortes/sorteslaw12.TreeExtends", spec := "treeExtends", unfollowed := true, recurses := true, apart := false, narrowed := true }
def TreeExtendsUptoSaid : Prop := treeExtendsUptoRow.holds Try.pinned (OpenSpec.upto treeExtendsSpec)

/-- 'sorteslaw12.TreeGrows', WHERE WHAT IT READS IS OF BULK AT MOST 1048576: true; the input reads as it did. -/
def treeGrowsUptoRow : OpenClaim := { program := "ytijhdfllffkfjaa", sum := "e1c9ab644b1f1063802dd177c2ae110163ea4df84c3cabd150cf90ced978c034", func := "sortes/sorteslaw12.TreeGrows", spec := "treeGrows", unfollowed := true, recurses := true, apart := false, narrowed := true }
def TreeGrowsUptoSaid : Prop := treeGrowsUptoRow.holds Try.pinned (OpenSpec.upto treeGrowsSpec)

/-- 'sorteslaw12.TreeBent', WHERE WHAT IT READS IS OF BULK AT MOST 1048576: true; the input reads as it did. -/
def treeBentUptoRow : OpenClaim := { program := "ytijhdfllffkfjaa", sum := "e1c9ab644b1f1063802dd177c2ae110163ea4df84c3cabd150cf90ced978c034", func := "sortes/sorteslaw12.TreeBent", spec := "treeBent", unfollowed := true, recurses := true, apart := false, narrowed := true }
def TreeBentUptoSaid : Prop := treeBentUptoRow.holds Try.pinned (OpenSpec.upto treeBentSpec)

/-- 'sorteslaw12.TreeLarge', WHERE WHAT IT READS IS OF BULK AT MOST 1048576: true; the input reads as it did. -/
def treeLargeUptoRow : OpenClaim := { program := "ytijhdfllffkfjaa", sum := "e1c9ab644b1f1063802dd177c2ae110163ea4df84c3cabd150cf90ced978c034", func := "sortes/sorteslaw12.TreeLarge", spec := "treeLarge", unfollowed := true, recurses := true, apart := false, narrowed := true }
def TreeLargeUptoSaid : Prop := treeLargeUptoRow.holds Try.pinned (OpenSpec.upto treeLargeSpec)

/-- 'sorteslaw12.TreeTwice', WHERE WHAT IT READS IS OF BULK AT MOST 1048576: true; the input reads as it did. -/
def treeTwiceUptoRow : OpenClaim := { program := "ytijhdfllffkfjaa", sum := "e1c9ab644b1f1063802dd177c2ae110163ea4df84c3cabd150cf90ced978c034", func := "sortes/sorteslaw12.TreeTwice", spec := "treeTwice", unfollowed := true, recurses := true, apart := false, narrowed := true }
def TreeTwiceUptoSaid : Prop := treeTwiceUptoRow.holds Try.pinned (OpenSpec.upto treeTwiceSpec)

/-- 'sorteslaw12.TreeKeeps', WHERE WHAT IT READS IS OF BULK AT MOST 1048576: true; the input reads as it did. -/
def treeKeepsUptoRow : OpenClaim := { program := "ytijhdfllffkfjaa", sum := "e1c9ab644b1f1063802dd177c2ae110163ea4df84c3cabd150cf90ced978c034", func := "sortes/sorteslaw12.TreeKeeps", spec := "treeKeeps", unfollowed := true, recurses := true, apart := false, narrowed := true }
def TreeKeepsUptoSaid : Prop := treeKeepsUptoRow.holds Try.pinned (OpenSpec.upto treeKeepsSpec)

end Rows
end Go.Proofs.Ytijhdfllffkfjaa
