/-
  No cell of these rows narrows 'for every input' (looked for: loops, veiled, ifaces, maps, wideKeys, modest, calm, conditions, laid).
  DERIVED. THE GIVEN ROWS OF THIS SEAT. 8 by the template 'for every input the law returns true; each argument reads behind the call as it read before'; 0 by the template 'total and deterministic' (their statements: YtiljlopgjlgfoaaTotals.lean).
  GIVEN WITH THE SEED: the statements are not yours to turn. If you find one false, say at which input.
  Laid BY PROGRAM, IN A SANDBOX (cutbox-rows.mjs): the forced cells as the released guide's own fill.sh prints them over the translation bc21239ae2072231… (all of the seat's roots in one cut). By AI agents, Wed Nov 11 2026. No macro, syntax, notation, axiom, sorry.
-/
import Derived.Test.YtiljlopgjlgfoaaChecked
import GoSem.Claim
import GoSem.ClaimJoined
import GoSem.ClaimMapViews
import Derived.JoinedTies
import Derived.KernelRfl
namespace Go.Proofs.Ytiljlopgjlgfoaa
/- THE CELL 'sum', in the pinned program and in every row, IS THE sha256 OF THE DUMP (.gsa) THAT YtiljlopgjlgfoaaProg.lean LOADS. Nothing in Lean hashes anything: it is a label: what it is worth is what the hold of that sum in a sandbox is worth. -/
noncomputable def Try.pinned : Pinned := { name := "ytiljlopgjlgfoaa", sum := "bc21239ae2072231de0db5d2e8abed172f5270c30a50e6e99c78494977e72bec", checked := Try.checked }
namespace Rows
def none {H : Type} : Left H := { results := [], args := [] }

/-- 'sorteslaw04.GroupSums': WHATEVER THE INPUT: true; the input reads as it did. -/
def groupSumsSpec : ChangeSpec := { name := "groupSums", fn := fun _ => fun
  | [d1, d2, d3] => { results := [.lit (.bool true)], args := [d1, d2, d3] }
  | _ => none }
def groupSumsRow : OpenClaim := { program := "ytiljlopgjlgfoaa", sum := "bc21239ae2072231de0db5d2e8abed172f5270c30a50e6e99c78494977e72bec", func := "sortes/sorteslaw04.GroupSums", spec := "groupSums", unfollowed := true, recurses := true, named := ["math/bits.divideError", "math/bits.overflowError"], apart := false }
def GroupSumsSaid : Prop := groupSumsRow.holds Try.pinned (OpenSpec.ofChange groupSumsSpec)

/-- ITS FALSE NEIGHBOUR: 'it returns false'. Refute it at one input. -/
def groupSumsWrong : ChangeSpec := { name := "groupSums", fn := fun _ => fun
  | [d1, d2, d3] => { results := [.lit (.bool false)], args := [d1, d2, d3] }
  | _ => none }
def GroupSumsWrongFalsely : Prop := groupSumsRow.holds Try.pinned (OpenSpec.ofChange groupSumsWrong)

/-- 'sorteslaw04.GroupPows': WHATEVER THE INPUT: true; the input reads as it did. -/
def groupPowsSpec : ChangeSpec := { name := "groupPows", fn := fun _ => fun
  | [d1, d2, d3] => { results := [.lit (.bool true)], args := [d1, d2, d3] }
  | _ => none }
def groupPowsRow : OpenClaim := { program := "ytiljlopgjlgfoaa", sum := "bc21239ae2072231de0db5d2e8abed172f5270c30a50e6e99c78494977e72bec", func := "sortes/sorteslaw04.GroupPows", spec := "groupPows", unfollowed := true, recurses := true, named := ["math/bits.divideError", "math/bits.overflowError"], apart := false }
def GroupPowsSaid : Prop := groupPowsRow.holds Try.pinned (OpenSpec.ofChange groupPowsSpec)

/-- ITS FALSE NEIGHBOUR: 'it returns false'. Refute it at one input. -/
def groupPowsWrong : ChangeSpec := { name := "groupPows", fn := fun _ => fun
  | [d1, d2, d3] => { results := [.lit (.bool false)], args := [d1, d2, d3] }
  | _ => none }
def GroupPowsWrongFalsely : Prop := groupPowsRow.holds Try.pinned (OpenSpec.ofChange groupPowsWrong)

/-- 'sorteslaw04.GroupNats': WHATEVER THE INPUT: true; the input reads as it did. -/
def groupNatsSpec : ChangeSpec := { name := "groupNats", fn := fun _ => fun
  | [d1, d2, d3] => { results := [.lit (.bool true)], args := [d1, d2, d3] }
  | _ => none }
def groupNatsRow : OpenClaim := { program := "ytiljlopgjlgfoaa", sum := "bc21239ae2072231de0db5d2e8abed172f5270c30a50e6e99c78494977e72bec", func := "sortes/sorteslaw04.GroupNats", spec := "groupNats", unfollowed := true, recurses := true, named := ["math/bits.divideError", "math/bits.overflowError"], apart := false }
def GroupNatsSaid : Prop := groupNatsRow.holds Try.pinned (OpenSpec.ofChange groupNatsSpec)

/-- ITS FALSE NEIGHBOUR: 'it returns false'. Refute it at one input. -/
def groupNatsWrong : ChangeSpec := { name := "groupNats", fn := fun _ => fun
  | [d1, d2, d3] => { results := [.lit (.bool false)], args := [d1, d2, d3] }
  | _ => none }
def GroupNatsWrongFalsely : Prop := groupNatsRow.holds Try.pinned (OpenSpec.ofChange groupNatsWrong)

/-- 'sorteslaw04.GroupRing': WHATEVER THE INPUT: true; the input reads as it did. -/
def groupRingSpec : ChangeSpec := { name := "groupRing", fn := fun _ => fun
  | [d1, d2] => { results := [.lit (.bool true)], args := [d1, d2] }
  | _ => none }
def groupRingRow : OpenClaim := { program := "ytiljlopgjlgfoaa", sum := "bc21239ae2072231de0db5d2e8abed172f5270c30a50e6e99c78494977e72bec", func := "sortes/sorteslaw04.GroupRing", spec := "groupRing", unfollowed := true, recurses := true, named := ["math/bits.divideError", "math/bits.overflowError"], apart := false }
def GroupRingSaid : Prop := groupRingRow.holds Try.pinned (OpenSpec.ofChange groupRingSpec)

/-- ITS FALSE NEIGHBOUR: 'it returns false'. Refute it at one input. -/
def groupRingWrong : ChangeSpec := { name := "groupRing", fn := fun _ => fun
  | [d1, d2] => { results := [.lit (.bool false)], args := [d1, d2] }
  | _ => none }
def GroupRingWrongFalsely : Prop := groupRingRow.holds Try.pinned (OpenSpec.ofChange groupRingWrong)

/-- 'sorteslaw04.GroupMembers': WHATEVER THE INPUT: true; the input reads as it did. -/
def groupMembersSpec : ChangeSpec := { name := "groupMembers", fn := fun _ => fun
  | [d] => { results := [.lit (.bool true)], args := [d] }
  | _ => none }
def groupMembersRow : OpenClaim := { program := "ytiljlopgjlgfoaa", sum := "bc21239ae2072231de0db5d2e8abed172f5270c30a50e6e99c78494977e72bec", func := "sortes/sorteslaw04.GroupMembers", spec := "groupMembers", unfollowed := true, recurses := true, named := ["math/bits.divideError", "math/bits.overflowError"], apart := false }
def GroupMembersSaid : Prop := groupMembersRow.holds Try.pinned (OpenSpec.ofChange groupMembersSpec)

/-- ITS FALSE NEIGHBOUR: 'it returns false'. Refute it at one input. -/
def groupMembersWrong : ChangeSpec := { name := "groupMembers", fn := fun _ => fun
  | [d] => { results := [.lit (.bool false)], args := [d] }
  | _ => none }
def GroupMembersWrongFalsely : Prop := groupMembersRow.holds Try.pinned (OpenSpec.ofChange groupMembersWrong)

/-- 'sorteslaw04.GroupRanges': WHATEVER THE INPUT: true; the input reads as it did. -/
def groupRangesSpec : ChangeSpec := { name := "groupRanges", fn := fun _ => fun
  | [d1, d2, d3] => { results := [.lit (.bool true)], args := [d1, d2, d3] }
  | _ => none }
def groupRangesRow : OpenClaim := { program := "ytiljlopgjlgfoaa", sum := "bc21239ae2072231de0db5d2e8abed172f5270c30a50e6e99c78494977e72bec", func := "sortes/sorteslaw04.GroupRanges", spec := "groupRanges", unfollowed := true, recurses := true, named := ["math/bits.divideError", "math/bits.overflowError"], apart := false }
def GroupRangesSaid : Prop := groupRangesRow.holds Try.pinned (OpenSpec.ofChange groupRangesSpec)

/-- ITS FALSE NEIGHBOUR: 'it returns false'. Refute it at one input. -/
def groupRangesWrong : ChangeSpec := { name := "groupRanges", fn := fun _ => fun
  | [d1, d2, d3] => { results := [.lit (.bool false)], args := [d1, d2, d3] }
  | _ => none }
def GroupRangesWrongFalsely : Prop := groupRangesRow.holds Try.pinned (OpenSpec.ofChange groupRangesWrong)

/-- 'sorteslaw04.GroupPowers': WHATEVER THE INPUT: true; the input reads as it did. -/
def groupPowersSpec : ChangeSpec := { name := "groupPowers", fn := fun _ => fun
  | [d1, d2, d3] => { results := [.lit (.bool true)], args := [d1, d2, d3] }
  | _ => none }
def groupPowersRow : OpenClaim := { program := "ytiljlopgjlgfoaa", sum := "bc21239ae2072231de0db5d2e8abed172f5270c30a50e6e99c78494977e72bec", func := "sortes/sorteslaw04.GroupPowers", spec := "groupPowers", unfollowed := true, recurses := true, named := ["math/bits.divideError", "math/bits.overflowError"], apart := false }
def GroupPowersSaid : Prop := groupPowersRow.holds Try.pinned (OpenSpec.ofChange groupPowersSpec)

/-- ITS FALSE NEIGHBOUR: 'it returns false'. Refute it at one input. -/
def groupPowersWrong : ChangeSpec := { name := "groupPowers", fn := fun _ => fun
  | [d1, d2, d3] => { results := [.lit (.bool false)], args := [d1, d2, d3] }
  | _ => none }
def GroupPowersWrongFalsely : Prop := groupPowersRow.holds Try.pinned (OpenSpec.ofChange groupPowersWrong)

/-- 'sorteslaw04.GroupTexts': WHATEVER THE INPUT: true; the input reads as it did. -/
def groupTextsSpec : ChangeSpec := { name := "groupTexts", fn := fun _ => fun
  | [d] => { results := [.lit (.bool true)], args := [d] }
  | _ => none }
def groupTextsRow : OpenClaim := { program := "ytiljlopgjlgfoaa", sum := "bc21239ae2072231de0db5d2e8abed172f5270c30a50e6e99c78494977e72bec", func := "sortes/sorteslaw04.GroupTexts", spec := "groupTexts", unfollowed := true, recurses := true, named := ["math/bits.divideError", "math/bits.overflowError"], apart := false }
def GroupTextsSaid : Prop := groupTextsRow.holds Try.pinned (OpenSpec.ofChange groupTextsSpec)

/-- ITS FALSE NEIGHBOUR: 'it returns false'. Refute it at one input. -/
def groupTextsWrong : ChangeSpec := { name := "groupTexts", fn := fun _ => fun
  | [d] => { results := [.lit (.bool false)], args := [d] }
  | _ => none }
def GroupTextsWrongFalsely : Prop := groupTextsRow.holds Try.pinned (OpenSpec.ofChange groupTextsWrong)

/- THE SECOND FORM. 'bulk': how many values and letters a reading holds, each counted each time it is reached (what is shared counts as often as it is met; a slice's spare places count too). A statement '..UptoSaid' is the law's where the arguments, and the package variables that the reading takes, are together of bulk at most 1048576: NARROWER than '..Said'. Prove '..Said' where nothing that the law and all that it calls make is longer than what came in: it says more and counts as full. Else prove '..UptoSaid'. A law counts once. -/
mutual
def uptoBulk {H : Type} : DataW H → Nat
  | .lit (.string bytes) => bytes.length + 1
  | .lit _ => 1
  | .nil => 1
  | .ptr d => uptoBulk d + 1
  | .slice elems spare => uptoBulkAll elems + uptoBulkAll spare + 1
  | .agg parts => uptoBulkAll parts + 1
  | .iface _ d => uptoBulk d + 1
  | .map entries => uptoBulkEntries entries + 1
  | .held _ => 1
def uptoBulkAll {H : Type} : List (DataW H) → Nat
  | [] => 0
  | d :: r => uptoBulk d + uptoBulkAll r
def uptoBulkEntries {H : Type} : List (Lit × DataW H) → Nat
  | [] => 0
  | x :: r => uptoBulkEntry x + uptoBulkEntries r
def uptoBulkEntry {H : Type} : Lit × DataW H → Nat
  | (.string bytes, d) => bytes.length + uptoBulk d + 1
  | (_, d) => uptoBulk d + 1
 end
def uptoSmall : (H : Type) → List (DataW H) → Bool := fun _ ds => decide (uptoBulkAll ds ≤ 1048576)
def OpenSpec.upto (s : _root_.Go.ChangeSpec) : _root_.Go.OpenSpec := { _root_.Go.OpenSpec.ofChange s with cond := some uptoSmall }

/-- 'sorteslaw04.GroupSums', WHERE WHAT IT READS IS OF BULK AT MOST 1048576: true; the input reads as it did. -/
def groupSumsUptoRow : OpenClaim := { program := "ytiljlopgjlgfoaa", sum := "bc21239ae2072231de0db5d2e8abed172f5270c30a50e6e99c78494977e72bec", func := "sortes/sorteslaw04.GroupSums", spec := "groupSums", unfollowed := true, recurses := true, named := ["math/bits.divideError", "math/bits.overflowError"], apart := false, narrowed := true }
def GroupSumsUptoSaid : Prop := groupSumsUptoRow.holds Try.pinned (OpenSpec.upto groupSumsSpec)

/-- 'sorteslaw04.GroupPows', WHERE WHAT IT READS IS OF BULK AT MOST 1048576: true; the input reads as it did. -/
def groupPowsUptoRow : OpenClaim := { program := "ytiljlopgjlgfoaa", sum := "bc21239ae2072231de0db5d2e8abed172f5270c30a50e6e99c78494977e72bec", func := "sortes/sorteslaw04.GroupPows", spec := "groupPows", unfollowed := true, recurses := true, named := ["math/bits.divideError", "math/bits.overflowError"], apart := false, narrowed := true }
def GroupPowsUptoSaid : Prop := groupPowsUptoRow.holds Try.pinned (OpenSpec.upto groupPowsSpec)

/-- 'sorteslaw04.GroupNats', WHERE WHAT IT READS IS OF BULK AT MOST 1048576: true; the input reads as it did. -/
def groupNatsUptoRow : OpenClaim := { program := "ytiljlopgjlgfoaa", sum := "bc21239ae2072231de0db5d2e8abed172f5270c30a50e6e99c78494977e72bec", func := "sortes/sorteslaw04.GroupNats", spec := "groupNats", unfollowed := true, recurses := true, named := ["math/bits.divideError", "math/bits.overflowError"], apart := false, narrowed := true }
def GroupNatsUptoSaid : Prop := groupNatsUptoRow.holds Try.pinned (OpenSpec.upto groupNatsSpec)

/-- 'sorteslaw04.GroupRing', WHERE WHAT IT READS IS OF BULK AT MOST 1048576: true; the input reads as it did. -/
def groupRingUptoRow : OpenClaim := { program := "ytiljlopgjlgfoaa", sum := "bc21239ae2072231de0db5d2e8abed172f5270c30a50e6e99c78494977e72bec", func := "sortes/sorteslaw04.GroupRing", spec := "groupRing", unfollowed := true, recurses := true, named := ["math/bits.divideError", "math/bits.overflowError"], apart := false, narrowed := true }
def GroupRingUptoSaid : Prop := groupRingUptoRow.holds Try.pinned (OpenSpec.upto groupRingSpec)

/-- 'sorteslaw04.GroupMembers', WHERE WHAT IT READS IS OF BULK AT MOST 1048576: true; the input reads as it did. -/
def groupMembersUptoRow : OpenClaim := { program := "ytiljlopgjlgfoaa", sum := "bc21239ae2072231de0db5d2e8abed172f5270c30a50e6e99c78494977e72bec", func := "sortes/sorteslaw04.GroupMembers", spec := "groupMembers", unfollowed := true, recurses := true, named := ["math/bits.divideError", "math/bits.overflowError"], apart := false, narrowed := true }
def GroupMembersUptoSaid : Prop := groupMembersUptoRow.holds Try.pinned (OpenSpec.upto groupMembersSpec)

/-- 'sorteslaw04.GroupRanges', WHERE WHAT IT READS IS OF BULK AT MOST 1048576: true; the input reads as it did. -/
def groupRangesUptoRow : OpenClaim := { program := "ytiljlopgjlgfoaa", sum := "bc21239ae2072231de0db5d2e8abed172f5270c30a50e6e99c78494977e72bec", func := "sortes/sorteslaw04.GroupRanges", spec := "groupRanges", unfollowed := true, recurses := true, named := ["math/bits.divideError", "math/bits.overflowError"], apart := false, narrowed := true }
def GroupRangesUptoSaid : Prop := groupRangesUptoRow.holds Try.pinned (OpenSpec.upto groupRangesSpec)

/-- 'sorteslaw04.GroupPowers', WHERE WHAT IT READS IS OF BULK AT MOST 1048576: true; the input reads as it did. -/
def groupPowersUptoRow : OpenClaim := { program := "ytiljlopgjlgfoaa", sum := "bc21239ae2072231de0db5d2e8abed172f5270c30a50e6e99c78494977e72bec", func := "sortes/sorteslaw04.GroupPowers", spec := "groupPowers", unfollowed := true, recurses := true, named := ["math/bits.divideError", "math/bits.overflowError"], apart := false, narrowed := true }
def GroupPowersUptoSaid : Prop := groupPowersUptoRow.holds Try.pinned (OpenSpec.upto groupPowersSpec)

/-- 'sorteslaw04.GroupTexts', WHERE WHAT IT READS IS OF BULK AT MOST 1048576: true; the input reads as it did. -/
def groupTextsUptoRow : OpenClaim := { program := "ytiljlopgjlgfoaa", sum := "bc21239ae2072231de0db5d2e8abed172f5270c30a50e6e99c78494977e72bec", func := "sortes/sorteslaw04.GroupTexts", spec := "groupTexts", unfollowed := true, recurses := true, named := ["math/bits.divideError", "math/bits.overflowError"], apart := false, narrowed := true }
def GroupTextsUptoSaid : Prop := groupTextsUptoRow.holds Try.pinned (OpenSpec.upto groupTextsSpec)

end Rows
end Go.Proofs.Ytiljlopgjlgfoaa
