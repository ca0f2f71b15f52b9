/-
  No cell of these rows narrows 'for every input' (looked for: loops, veiled, ifaces, maps, wideKeys, modest, calm, conditions, laid).
  DERIVED. THE GIVEN ROWS OF THIS SEAT. 7 by the template 'for every input the law returns true; each argument reads behind the call as it read before'; 0 by the template 'total and deterministic' (their statements: YtigcbnehcofbcaaTotals.lean).
  GIVEN WITH THE SEED: the statements are not yours to turn. If you find one false, say at which input.
  Laid BY PROGRAM, IN A SANDBOX (cutbox-rows.mjs): the forced cells as the released guide's own fill.sh prints them over the translation ab5ae3b20e1493c6… (all of the seat's roots in one cut). By AI agents, Wed Nov 11 2026. No macro, syntax, notation, axiom, sorry.
-/
import Derived.Test.YtigcbnehcofbcaaChecked
import GoSem.Claim
import GoSem.ClaimJoined
import GoSem.ClaimMapViews
import Derived.JoinedTies
import Derived.KernelRfl
namespace Go.Proofs.Ytigcbnehcofbcaa
/- THE CELL 'sum', in the pinned program and in every row, IS THE sha256 OF THE DUMP (.gsa) THAT YtigcbnehcofbcaaProg.lean LOADS. Nothing in Lean hashes anything: it is a label: what it is worth is what the hold of that sum in a sandbox is worth. -/
noncomputable def Try.pinned : Pinned := { name := "ytigcbnehcofbcaa", sum := "ab5ae3b20e1493c65c239a7a232dc9fe277ff298411343c5d80e919a3c46bd01", checked := Try.checked }
namespace Rows
def none {H : Type} : Left H := { results := [], args := [] }

/-- 'laws.FnExactValidPlaced': WHATEVER THE INPUT: true; the input reads as it did. -/
def fnExactValidPlacedSpec : ChangeSpec := { name := "fnExactValidPlaced", fn := fun _ => fun
  | [d1, d2, d3] => { results := [.lit (.bool true)], args := [d1, d2, d3] }
  | _ => none }
def fnExactValidPlacedRow : OpenClaim := { program := "ytigcbnehcofbcaa", sum := "ab5ae3b20e1493c65c239a7a232dc9fe277ff298411343c5d80e919a3c46bd01", func := "loop.example/typesetting/laws.FnExactValidPlaced", spec := "fnExactValidPlaced", apart := false }
def FnExactValidPlacedSaid : Prop := fnExactValidPlacedRow.holds Try.pinned (OpenSpec.ofChange fnExactValidPlacedSpec)

/-- ITS FALSE NEIGHBOUR: 'it returns false'. Refute it at one input. -/
def fnExactValidPlacedWrong : ChangeSpec := { name := "fnExactValidPlaced", fn := fun _ => fun
  | [d1, d2, d3] => { results := [.lit (.bool false)], args := [d1, d2, d3] }
  | _ => none }
def FnExactValidPlacedWrongFalsely : Prop := fnExactValidPlacedRow.holds Try.pinned (OpenSpec.ofChange fnExactValidPlacedWrong)

/-- 'laws.FnValidPlaced': WHATEVER THE INPUT: true; the input reads as it did. -/
def fnValidPlacedSpec : ChangeSpec := { name := "fnValidPlaced", fn := fun _ => fun
  | [d1, d2] => { results := [.lit (.bool true)], args := [d1, d2] }
  | _ => none }
def fnValidPlacedRow : OpenClaim := { program := "ytigcbnehcofbcaa", sum := "ab5ae3b20e1493c65c239a7a232dc9fe277ff298411343c5d80e919a3c46bd01", func := "loop.example/typesetting/laws.FnValidPlaced", spec := "fnValidPlaced", apart := false }
def FnValidPlacedSaid : Prop := fnValidPlacedRow.holds Try.pinned (OpenSpec.ofChange fnValidPlacedSpec)

/-- ITS FALSE NEIGHBOUR: 'it returns false'. Refute it at one input. -/
def fnValidPlacedWrong : ChangeSpec := { name := "fnValidPlaced", fn := fun _ => fun
  | [d1, d2] => { results := [.lit (.bool false)], args := [d1, d2] }
  | _ => none }
def FnValidPlacedWrongFalsely : Prop := fnValidPlacedRow.holds Try.pinned (OpenSpec.ofChange fnValidPlacedWrong)

/-- 'laws.FnExactOverlaps': WHATEVER THE INPUT: true; the input reads as it did. -/
def fnExactOverlapsSpec : ChangeSpec := { name := "fnExactOverlaps", fn := fun _ => fun
  | [d1, d2, d3] => { results := [.lit (.bool true)], args := [d1, d2, d3] }
  | _ => none }
def fnExactOverlapsRow : OpenClaim := { program := "ytigcbnehcofbcaa", sum := "ab5ae3b20e1493c65c239a7a232dc9fe277ff298411343c5d80e919a3c46bd01", func := "loop.example/typesetting/laws.FnExactOverlaps", spec := "fnExactOverlaps", apart := false }
def FnExactOverlapsSaid : Prop := fnExactOverlapsRow.holds Try.pinned (OpenSpec.ofChange fnExactOverlapsSpec)

/-- ITS FALSE NEIGHBOUR: 'it returns false'. Refute it at one input. -/
def fnExactOverlapsWrong : ChangeSpec := { name := "fnExactOverlaps", fn := fun _ => fun
  | [d1, d2, d3] => { results := [.lit (.bool false)], args := [d1, d2, d3] }
  | _ => none }
def FnExactOverlapsWrongFalsely : Prop := fnExactOverlapsRow.holds Try.pinned (OpenSpec.ofChange fnExactOverlapsWrong)

/-- 'laws.FnOverlaps': WHATEVER THE INPUT: true; the input reads as it did. -/
def fnOverlapsSpec : ChangeSpec := { name := "fnOverlaps", fn := fun _ => fun
  | [d] => { results := [.lit (.bool true)], args := [d] }
  | _ => none }
def fnOverlapsRow : OpenClaim := { program := "ytigcbnehcofbcaa", sum := "ab5ae3b20e1493c65c239a7a232dc9fe277ff298411343c5d80e919a3c46bd01", func := "loop.example/typesetting/laws.FnOverlaps", spec := "fnOverlaps", apart := false }
def FnOverlapsSaid : Prop := fnOverlapsRow.holds Try.pinned (OpenSpec.ofChange fnOverlapsSpec)

/-- ITS FALSE NEIGHBOUR: 'it returns false'. Refute it at one input. -/
def fnOverlapsWrong : ChangeSpec := { name := "fnOverlaps", fn := fun _ => fun
  | [d] => { results := [.lit (.bool false)], args := [d] }
  | _ => none }
def FnOverlapsWrongFalsely : Prop := fnOverlapsRow.holds Try.pinned (OpenSpec.ofChange fnOverlapsWrong)

/-- 'laws.FnDrawLast': WHATEVER THE INPUT: true; the input reads as it did. -/
def fnDrawLastSpec : ChangeSpec := { name := "fnDrawLast", fn := fun _ => fun
  | [d] => { results := [.lit (.bool true)], args := [d] }
  | _ => none }
def fnDrawLastRow : OpenClaim := { program := "ytigcbnehcofbcaa", sum := "ab5ae3b20e1493c65c239a7a232dc9fe277ff298411343c5d80e919a3c46bd01", func := "loop.example/typesetting/laws.FnDrawLast", spec := "fnDrawLast", inPlace := ["internal/bytealg.MakeNoZero"], apart := false }
def FnDrawLastSaid : Prop := fnDrawLastRow.holds Try.pinned (OpenSpec.ofChange fnDrawLastSpec)

/-- ITS FALSE NEIGHBOUR: 'it returns false'. Refute it at one input. -/
def fnDrawLastWrong : ChangeSpec := { name := "fnDrawLast", fn := fun _ => fun
  | [d] => { results := [.lit (.bool false)], args := [d] }
  | _ => none }
def FnDrawLastWrongFalsely : Prop := fnDrawLastRow.holds Try.pinned (OpenSpec.ofChange fnDrawLastWrong)

/-- 'laws.FnDrawOrder': WHATEVER THE INPUT: true; the input reads as it did. -/
def fnDrawOrderSpec : ChangeSpec := { name := "fnDrawOrder", fn := fun _ => fun
  | [d] => { results := [.lit (.bool true)], args := [d] }
  | _ => none }
def fnDrawOrderRow : OpenClaim := { program := "ytigcbnehcofbcaa", sum := "ab5ae3b20e1493c65c239a7a232dc9fe277ff298411343c5d80e919a3c46bd01", func := "loop.example/typesetting/laws.FnDrawOrder", spec := "fnDrawOrder", inPlace := ["internal/bytealg.MakeNoZero"], apart := false }
def FnDrawOrderSaid : Prop := fnDrawOrderRow.holds Try.pinned (OpenSpec.ofChange fnDrawOrderSpec)

/-- ITS FALSE NEIGHBOUR: 'it returns false'. Refute it at one input. -/
def fnDrawOrderWrong : ChangeSpec := { name := "fnDrawOrder", fn := fun _ => fun
  | [d] => { results := [.lit (.bool false)], args := [d] }
  | _ => none }
def FnDrawOrderWrongFalsely : Prop := fnDrawOrderRow.holds Try.pinned (OpenSpec.ofChange fnDrawOrderWrong)

/-- 'laws.FnExactDraw': WHATEVER THE INPUT: true; the input reads as it did. -/
def fnExactDrawSpec : ChangeSpec := { name := "fnExactDraw", fn := fun _ => fun
  | [d1, d2, d3] => { results := [.lit (.bool true)], args := [d1, d2, d3] }
  | _ => none }
def fnExactDrawRow : OpenClaim := { program := "ytigcbnehcofbcaa", sum := "ab5ae3b20e1493c65c239a7a232dc9fe277ff298411343c5d80e919a3c46bd01", func := "loop.example/typesetting/laws.FnExactDraw", spec := "fnExactDraw", inPlace := ["internal/bytealg.MakeNoZero"], apart := false }
def FnExactDrawSaid : Prop := fnExactDrawRow.holds Try.pinned (OpenSpec.ofChange fnExactDrawSpec)

/-- ITS FALSE NEIGHBOUR: 'it returns false'. Refute it at one input. -/
def fnExactDrawWrong : ChangeSpec := { name := "fnExactDraw", fn := fun _ => fun
  | [d1, d2, d3] => { results := [.lit (.bool false)], args := [d1, d2, d3] }
  | _ => none }
def FnExactDrawWrongFalsely : Prop := fnExactDrawRow.holds Try.pinned (OpenSpec.ofChange fnExactDrawWrong)

/- THE SECOND FORM. 'bulk': how many values and letters a reading holds, each counted each time it is reached (what is shared counts as often as it is met; a slice's spare places count too). A statement '..UptoSaid' is the law's where the arguments, and the package variables that the reading takes, are together of bulk at most 1048576: NARROWER than '..Said'. Prove '..Said' where nothing that the law and all that it calls make is longer than what came in: it says more and counts as full. Else prove '..UptoSaid'. A law counts once. -/
mutual
def uptoBulk {H : Type} : DataW H → Nat
  | .lit (.string bytes) => bytes.length + 1
  | .lit _ => 1
  | .nil => 1
  | .ptr d => uptoBulk d + 1
  | .slice elems spare => uptoBulkAll elems + uptoBulkAll spare + 1
  | .agg parts => uptoBulkAll parts + 1
  | .iface _ d => uptoBulk d + 1
  | .map entries => uptoBulkEntries entries + 1
  | .held _ => 1
def uptoBulkAll {H : Type} : List (DataW H) → Nat
  | [] => 0
  | d :: r => uptoBulk d + uptoBulkAll r
def uptoBulkEntries {H : Type} : List (Lit × DataW H) → Nat
  | [] => 0
  | x :: r => uptoBulkEntry x + uptoBulkEntries r
def uptoBulkEntry {H : Type} : Lit × DataW H → Nat
  | (.string bytes, d) => bytes.length + uptoBulk d + 1
  | (_, d) => uptoBulk d + 1
 end
def uptoSmall : (H : Type) → List (DataW H) → Bool := fun _ ds => decide (uptoBulkAll ds ≤ 1048576)
def OpenSpec.upto (s : _root_.Go.ChangeSpec) : _root_.Go.OpenSpec := { _root_.Go.OpenSpec.ofChange s with cond := some uptoSmall }

/-- 'laws.FnExactValidPlaced', WHERE WHAT IT READS IS OF BULK AT MOST 1048576: true; the input reads as it did. -/
def fnExactValidPlacedUptoRow : OpenClaim := { program := "ytigcbnehcofbcaa", sum := "ab5ae3b20e1493c65c239a7a232dc9fe277ff298411343c5d80e919a3c46bd01", func := "loop.example/typesetting/laws.FnExactValidPlaced", spec := "fnExactValidPlaced", apart := false, narrowed := true }
def FnExactValidPlacedUptoSaid : Prop := fnExactValidPlacedUptoRow.holds Try.pinned (OpenSpec.upto fnExactValidPlacedSpec)

/-- 'laws.FnValidPlaced', WHERE WHAT IT READS IS OF BULK AT MOST 1048576: true; the input reads as it did. -/
def fnValidPlacedUptoRow : OpenClaim := { program := "ytigcbnehcofbcaa", sum := "ab5ae3b20e1493c65c239a7a232dc9fe277ff298411343c5d80e919a3c46bd01", func := "loop.example/typesetting/laws.FnValidPlaced", spec := "fnValidPlaced", apart := false, narrowed := true }
def FnValidPlacedUptoSaid : Prop := fnValidPlacedUptoRow.holds Try.pinned (OpenSpec.upto fnValidPlacedSpec)

/-- 'laws.FnExactOverlaps', WHERE WHAT IT READS IS OF BULK AT MOST 1048576: true; the input reads as it did. -/
def fnExactOverlapsUptoRow : OpenClaim := { program := "ytigcbnehcofbcaa", sum := "ab5ae3b20e1493c65c239a7a232dc9fe277ff298411343c5d80e919a3c46bd01", func := "loop.example/typesetting/laws.FnExactOverlaps", spec := "fnExactOverlaps", apart := false, narrowed := true }
def FnExactOverlapsUptoSaid : Prop := fnExactOverlapsUptoRow.holds Try.pinned (OpenSpec.upto fnExactOverlapsSpec)

/-- 'laws.FnOverlaps', WHERE WHAT IT READS IS OF BULK AT MOST 1048576: true; the input reads as it did. -/
def fnOverlapsUptoRow : OpenClaim := { program := "ytigcbnehcofbcaa", sum := "ab5ae3b20e1493c65c239a7a232dc9fe277ff298411343c5d80e919a3c46bd01", func := "loop.example/typesetting/laws.FnOverlaps", spec := "fnOverlaps", apart := false, narrowed := true }
def FnOverlapsUptoSaid : Prop := fnOverlapsUptoRow.holds Try.pinned (OpenSpec.upto fnOverlapsSpec)

/-- 'laws.FnDrawLast', WHERE WHAT IT READS IS OF BULK AT MOST 1048576: true; the input reads as it did. -/
def fnDrawLastUptoRow : OpenClaim := { program := "ytigcbnehcofbcaa", sum := "ab5ae3b20e1493c65c239a7a232dc9fe277ff298411343c5d80e919a3c46bd01", func := "loop.example/typesetting/laws.FnDrawLast", spec := "fnDrawLast", inPlace := ["internal/bytealg.MakeNoZero"], apart := false, narrowed := true }
def FnDrawLastUptoSaid : Prop := fnDrawLastUptoRow.holds Try.pinned (OpenSpec.upto fnDrawLastSpec)

/-- 'laws.FnDrawOrder', WHERE WHAT IT READS IS OF BULK AT MOST 1048576: true; the input reads as it did. -/
def fnDrawOrderUptoRow : OpenClaim := { program := "ytigcbnehcofbcaa", sum := "ab5ae3b20e1493c65c239a7a232dc9fe277ff298411343c5d80e919a3c46bd01", func := "loop.example/typesetting/laws.FnDrawOrder", spec := "fnDrawOrder", inPlace := ["internal/bytealg.MakeNoZero"], apart := false, narrowed := true }
def FnDrawOrderUptoSaid : Prop := fnDrawOrderUptoRow.holds Try.pinned (OpenSpec.upto fnDrawOrderSpec)

/-- 'laws.FnExactDraw', WHERE WHAT IT READS IS OF BULK AT MOST 1048576: true; the input reads as it did. -/
def fnExactDrawUptoRow : OpenClaim := { program := "ytigcbnehcofbcaa", sum := "ab5ae3b20e1493c65c239a7a232dc9fe277ff298411343c5d80e919a3c46bd01", func := "loop.example/typesetting/laws.FnExactDraw", spec := "fnExactDraw", inPlace := ["internal/bytealg.MakeNoZero"], apart := false, narrowed := true }
def FnExactDrawUptoSaid : Prop := fnExactDrawUptoRow.holds Try.pinned (OpenSpec.upto fnExactDrawSpec)

end Rows
end Go.Proofs.Ytigcbnehcofbcaa
