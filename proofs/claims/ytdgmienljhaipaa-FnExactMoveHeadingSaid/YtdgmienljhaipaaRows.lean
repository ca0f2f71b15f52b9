/-
  No cell of these rows narrows 'for every input' (looked for: loops, veiled, ifaces, maps, wideKeys, modest, calm, conditions, laid).
  DERIVED. THE GIVEN ROWS OF THIS SEAT. 5 by the template 'for every input the law returns true; each argument reads behind the call as it read before'; 0 by the template 'total and deterministic' (their statements: YtdgmienljhaipaaTotals.lean).
  GIVEN WITH THE SEED: the statements are not yours to turn. If you find one false, say at which input.
  Laid BY PROGRAM, IN A SANDBOX (cutbox-rows.mjs): the forced cells as the released guide's own fill.sh prints them over the translation e3e042b858aa7e12… (all of the seat's roots in one cut). By AI agents, Wed Nov 11 2026. No macro, syntax, notation, axiom, sorry.
-/
import Derived.Test.YtdgmienljhaipaaChecked
import GoSem.Claim
import GoSem.ClaimJoined
import GoSem.ClaimMapViews
import Derived.JoinedTies
import Derived.KernelRfl
namespace Go.Proofs.Ytdgmienljhaipaa
/- THE CELL 'sum', in the pinned program and in every row, IS THE sha256 OF THE DUMP (.gsa) THAT YtdgmienljhaipaaProg.lean LOADS. Nothing in Lean hashes anything: it is a label: what it is worth is what the hold of that sum in a sandbox is worth. -/
noncomputable def Try.pinned : Pinned := { name := "ytdgmienljhaipaa", sum := "e3e042b858aa7e12dc1247de235f5abe21f6d7fa20dfecb306b12679a66c75ce", checked := Try.checked }
namespace Rows
def none {H : Type} : Left H := { results := [], args := [] }

/-- 'laws.FnExactValidOutline': WHATEVER THE INPUT: true; the input reads as it did. -/
def fnExactValidOutlineSpec : ChangeSpec := { name := "fnExactValidOutline", fn := fun _ => fun
  | [d] => { results := [.lit (.bool true)], args := [d] }
  | _ => none }
def fnExactValidOutlineRow : OpenClaim := { program := "ytdgmienljhaipaa", sum := "e3e042b858aa7e12dc1247de235f5abe21f6d7fa20dfecb306b12679a66c75ce", func := "loop.example/typesetting/laws.FnExactValidOutline", spec := "fnExactValidOutline", apart := false }
def FnExactValidOutlineSaid : Prop := fnExactValidOutlineRow.holds Try.pinned (OpenSpec.ofChange fnExactValidOutlineSpec)

/-- ITS FALSE NEIGHBOUR: 'it returns false'. Refute it at one input. -/
def fnExactValidOutlineWrong : ChangeSpec := { name := "fnExactValidOutline", fn := fun _ => fun
  | [d] => { results := [.lit (.bool false)], args := [d] }
  | _ => none }
def FnExactValidOutlineWrongFalsely : Prop := fnExactValidOutlineRow.holds Try.pinned (OpenSpec.ofChange fnExactValidOutlineWrong)

/-- 'laws.FnExactParentOf': WHATEVER THE INPUT: true; the input reads as it did. -/
def fnExactParentOfSpec : ChangeSpec := { name := "fnExactParentOf", fn := fun _ => fun
  | [d1, d2] => { results := [.lit (.bool true)], args := [d1, d2] }
  | _ => none }
def fnExactParentOfRow : OpenClaim := { program := "ytdgmienljhaipaa", sum := "e3e042b858aa7e12dc1247de235f5abe21f6d7fa20dfecb306b12679a66c75ce", func := "loop.example/typesetting/laws.FnExactParentOf", spec := "fnExactParentOf", apart := false }
def FnExactParentOfSaid : Prop := fnExactParentOfRow.holds Try.pinned (OpenSpec.ofChange fnExactParentOfSpec)

/-- ITS FALSE NEIGHBOUR: 'it returns false'. Refute it at one input. -/
def fnExactParentOfWrong : ChangeSpec := { name := "fnExactParentOf", fn := fun _ => fun
  | [d1, d2] => { results := [.lit (.bool false)], args := [d1, d2] }
  | _ => none }
def FnExactParentOfWrongFalsely : Prop := fnExactParentOfRow.holds Try.pinned (OpenSpec.ofChange fnExactParentOfWrong)

/-- 'laws.FnExactMoveHeading': WHATEVER THE INPUT: true; the input reads as it did. -/
def fnExactMoveHeadingSpec : ChangeSpec := { name := "fnExactMoveHeading", fn := fun _ => fun
  | [d1, d2, d3] => { results := [.lit (.bool true)], args := [d1, d2, d3] }
  | _ => none }
def fnExactMoveHeadingRow : OpenClaim := { program := "ytdgmienljhaipaa", sum := "e3e042b858aa7e12dc1247de235f5abe21f6d7fa20dfecb306b12679a66c75ce", func := "loop.example/typesetting/laws.FnExactMoveHeading", spec := "fnExactMoveHeading", inPlace := ["slices.overlaps[int]"], apart := false }
def FnExactMoveHeadingSaid : Prop := fnExactMoveHeadingRow.holds Try.pinned (OpenSpec.ofChange fnExactMoveHeadingSpec)

/-- ITS FALSE NEIGHBOUR: 'it returns false'. Refute it at one input. -/
def fnExactMoveHeadingWrong : ChangeSpec := { name := "fnExactMoveHeading", fn := fun _ => fun
  | [d1, d2, d3] => { results := [.lit (.bool false)], args := [d1, d2, d3] }
  | _ => none }
def FnExactMoveHeadingWrongFalsely : Prop := fnExactMoveHeadingRow.holds Try.pinned (OpenSpec.ofChange fnExactMoveHeadingWrong)

/-- 'laws.FnMoveOwn': WHATEVER THE INPUT: true; the input reads as it did. -/
def fnMoveOwnSpec : ChangeSpec := { name := "fnMoveOwn", fn := fun _ => fun
  | [d] => { results := [.lit (.bool true)], args := [d] }
  | _ => none }
def fnMoveOwnRow : OpenClaim := { program := "ytdgmienljhaipaa", sum := "e3e042b858aa7e12dc1247de235f5abe21f6d7fa20dfecb306b12679a66c75ce", func := "loop.example/typesetting/laws.FnMoveOwn", spec := "fnMoveOwn", inPlace := ["slices.overlaps[int]"], apart := false }
def FnMoveOwnSaid : Prop := fnMoveOwnRow.holds Try.pinned (OpenSpec.ofChange fnMoveOwnSpec)

/-- ITS FALSE NEIGHBOUR: 'it returns false'. Refute it at one input. -/
def fnMoveOwnWrong : ChangeSpec := { name := "fnMoveOwn", fn := fun _ => fun
  | [d] => { results := [.lit (.bool false)], args := [d] }
  | _ => none }
def FnMoveOwnWrongFalsely : Prop := fnMoveOwnRow.holds Try.pinned (OpenSpec.ofChange fnMoveOwnWrong)

/-- 'laws.FnMoveHeading': WHATEVER THE INPUT: true; the input reads as it did. -/
def fnMoveHeadingSpec : ChangeSpec := { name := "fnMoveHeading", fn := fun _ => fun
  | [d] => { results := [.lit (.bool true)], args := [d] }
  | _ => none }
def fnMoveHeadingRow : OpenClaim := { program := "ytdgmienljhaipaa", sum := "e3e042b858aa7e12dc1247de235f5abe21f6d7fa20dfecb306b12679a66c75ce", func := "loop.example/typesetting/laws.FnMoveHeading", spec := "fnMoveHeading", inPlace := ["slices.overlaps[int]"], apart := false }
def FnMoveHeadingSaid : Prop := fnMoveHeadingRow.holds Try.pinned (OpenSpec.ofChange fnMoveHeadingSpec)

/-- ITS FALSE NEIGHBOUR: 'it returns false'. Refute it at one input. -/
def fnMoveHeadingWrong : ChangeSpec := { name := "fnMoveHeading", fn := fun _ => fun
  | [d] => { results := [.lit (.bool false)], args := [d] }
  | _ => none }
def FnMoveHeadingWrongFalsely : Prop := fnMoveHeadingRow.holds Try.pinned (OpenSpec.ofChange fnMoveHeadingWrong)

/- THE SECOND FORM. 'bulk': how many values and letters a reading holds, each counted each time it is reached (what is shared counts as often as it is met; a slice's spare places count too). A statement '..UptoSaid' is the law's where the arguments, and the package variables that the reading takes, are together of bulk at most 1048576: NARROWER than '..Said'. Prove '..Said' where nothing that the law and all that it calls make is longer than what came in: it says more and counts as full. Else prove '..UptoSaid'. A law counts once. -/
mutual
def uptoBulk {H : Type} : DataW H → Nat
  | .lit (.string bytes) => bytes.length + 1
  | .lit _ => 1
  | .nil => 1
  | .ptr d => uptoBulk d + 1
  | .slice elems spare => uptoBulkAll elems + uptoBulkAll spare + 1
  | .agg parts => uptoBulkAll parts + 1
  | .iface _ d => uptoBulk d + 1
  | .map entries => uptoBulkEntries entries + 1
  | .held _ => 1
def uptoBulkAll {H : Type} : List (DataW H) → Nat
  | [] => 0
  | d :: r => uptoBulk d + uptoBulkAll r
def uptoBulkEntries {H : Type} : List (Lit × DataW H) → Nat
  | [] => 0
  | x :: r => uptoBulkEntry x + uptoBulkEntries r
def uptoBulkEntry {H : Type} : Lit × DataW H → Nat
  | (.string bytes, d) => bytes.length + uptoBulk d + 1
  | (_, d) => uptoBulk d + 1
 end
def uptoSmall : (H : Type) → List (DataW H) → Bool := fun _ ds => decide (uptoBulkAll ds ≤ 1048576)
def OpenSpec.upto (s : _root_.Go.ChangeSpec) : _root_.Go.OpenSpec := { _root_.Go.OpenSpec.ofChange s with cond := some uptoSmall }

/-- 'laws.FnExactValidOutline', WHERE WHAT IT READS IS OF BULK AT MOST 1048576: true; the input reads as it did. -/
def fnExactValidOutlineUptoRow : OpenClaim := { program := "ytdgmienljhaipaa", sum := "e3e042b858aa7e12dc1247de235f5abe21f6d7fa20dfecb306b12679a66c75ce", func := "loop.example/typesetting/laws.FnExactValidOutline", spec := "fnExactValidOutline", apart := false, narrowed := true }
def FnExactValidOutlineUptoSaid : Prop := fnExactValidOutlineUptoRow.holds Try.pinned (OpenSpec.upto fnExactValidOutlineSpec)

/-- 'laws.FnExactParentOf', WHERE WHAT IT READS IS OF BULK AT MOST 1048576: true; the input reads as it did. -/
def fnExactParentOfUptoRow : OpenClaim := { program := "ytdgmienljhaipaa", sum := "e3e042b858aa7e12dc1247de235f5abe21f6d7fa20dfecb306b12679a66c75ce", func := "loop.example/typesetting/laws.FnExactParentOf", spec := "fnExactParentOf", apart := false, narrowed := true }
def FnExactParentOfUptoSaid : Prop := fnExactParentOfUptoRow.holds Try.pinned (OpenSpec.upto fnExactParentOfSpec)

/-- 'laws.FnExactMoveHeading', WHERE WHAT IT READS IS OF BULK AT MOST 1048576: true; the input reads as it did. -/
def fnExactMoveHeadingUptoRow : OpenClaim := { program := "ytdgmienljhaipaa", sum := "e3e042b858aa7e12dc1247de235f5abe21f6d7fa20dfecb306b12679a66c75ce", func := "loop.example/typesetting/laws.FnExactMoveHeading", spec := "fnExactMoveHeading", inPlace := ["slices.overlaps[int]"], apart := false, narrowed := true }
def FnExactMoveHeadingUptoSaid : Prop := fnExactMoveHeadingUptoRow.holds Try.pinned (OpenSpec.upto fnExactMoveHeadingSpec)

/-- 'laws.FnMoveOwn', WHERE WHAT IT READS IS OF BULK AT MOST 1048576: true; the input reads as it did. -/
def fnMoveOwnUptoRow : OpenClaim := { program := "ytdgmienljhaipaa", sum := "e3e042b858aa7e12dc1247de235f5abe21f6d7fa20dfecb306b12679a66c75ce", func := "loop.example/typesetting/laws.FnMoveOwn", spec := "fnMoveOwn", inPlace := ["slices.overlaps[int]"], apart := false, narrowed := true }
def FnMoveOwnUptoSaid : Prop := fnMoveOwnUptoRow.holds Try.pinned (OpenSpec.upto fnMoveOwnSpec)

/-- 'laws.FnMoveHeading', WHERE WHAT IT READS IS OF BULK AT MOST 1048576: true; the input reads as it did. -/
def fnMoveHeadingUptoRow : OpenClaim := { program := "ytdgmienljhaipaa", sum := "e3e042b858aa7e12dc1247de235f5abe21f6d7fa20dfecb306b12679a66c75ce", func := "loop.example/typesetting/laws.FnMoveHeading", spec := "fnMoveHeading", inPlace := ["slices.overlaps[int]"], apart := false, narrowed := true }
def FnMoveHeadingUptoSaid : Prop := fnMoveHeadingUptoRow.holds Try.pinned (OpenSpec.upto fnMoveHeadingSpec)

end Rows
end Go.Proofs.Ytdgmienljhaipaa
