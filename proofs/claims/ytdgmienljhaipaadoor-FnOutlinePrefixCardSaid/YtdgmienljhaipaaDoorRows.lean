/-
  NARROWER THAN 'FOR EVERY INPUT', by the rows' own cells (each row's printed sentence says how): FnOutlinePrefix: laid · FnParentOf: laid · FnNumberHeadings: laid · FnExactNumberHeadings: laid · FnOutlineFlat: laid.
  DERIVED. THE GIVEN ROWS OF THIS SEAT. 5 by the template 'for every input the law returns true; each argument reads behind the call as it read before'; 0 by the template 'total and deterministic' (their statements: YtdgmienljhaipaaDoorTotals.lean).
  GIVEN WITH THE SEED: the statements are not yours to turn. If you find one false, say at which input.
  Laid BY PROGRAM, IN A SANDBOX (cutbox-rows.mjs): the forced cells as the released guide's own fill.sh prints them over the translation 475bb0c5b5e432ed… (all of the seat's roots in one cut). By AI agents, Wed Nov 11 2026. No macro, syntax, notation, axiom, sorry.
-/
import Derived.Test.YtdgmienljhaipaaDoorChecked
import GoSem.Claim
import GoSem.ClaimJoined
import GoSem.ClaimMapViews
import Derived.JoinedTies
import Derived.KernelRfl
namespace Go.Proofs.YtdgmienljhaipaaDoor
/- THE CELL 'sum', in the pinned program and in every row, IS THE sha256 OF THE DUMP (.gsa) THAT YtdgmienljhaipaaDoorProg.lean LOADS. Nothing in Lean hashes anything: it is a label: what it is worth is what the hold of that sum in a sandbox is worth. -/
noncomputable def Tryd.pinned : Pinned := { name := "ytdgmienljhaipaadoor", sum := "475bb0c5b5e432ed93d0c13eaa73ef814ca3ee2998f024c03eafc05e53c36918", checked := Tryd.checked }
namespace Rows
def none {H : Type} : Left H := { results := [], args := [] }

/- WHAT THE LISTED PACKAGE-LEVEL VARIABLES READ AS WHEN THE CALL BEGINS. Each datum BY PROGRAM (the guide's laid-datum.mjs) off the statement by which the dump's own 'gosem.cut.vars' lays the variable. In a bare row this is a premise. The card (YtdgmienljhaipaaDoorCards.lean) ties it to the program's text. -/
def laid_math_bits_deBruijn32tab {H : Type} : DataW H := .agg [.lit (.int .u8 0), .lit (.int .u8 1), .lit (.int .u8 28), .lit (.int .u8 2), .lit (.int .u8 29), .lit (.int .u8 14), .lit (.int .u8 24), .lit (.int .u8 3), .lit (.int .u8 30), .lit (.int .u8 22), .lit (.int .u8 20), .lit (.int .u8 15), .lit (.int .u8 25), .lit (.int .u8 17), .lit (.int .u8 4), .lit (.int .u8 8), .lit (.int .u8 31), .lit (.int .u8 27), .lit (.int .u8 13), .lit (.int .u8 23), .lit (.int .u8 21), .lit (.int .u8 19), .lit (.int .u8 16), .lit (.int .u8 7), .lit (.int .u8 26), .lit (.int .u8 12), .lit (.int .u8 18), .lit (.int .u8 6), .lit (.int .u8 11), .lit (.int .u8 5), .lit (.int .u8 10), .lit (.int .u8 9)]
def laid_math_bits_deBruijn64tab {H : Type} : DataW H := .agg [.lit (.int .u8 0), .lit (.int .u8 1), .lit (.int .u8 56), .lit (.int .u8 2), .lit (.int .u8 57), .lit (.int .u8 49), .lit (.int .u8 28), .lit (.int .u8 3), .lit (.int .u8 61), .lit (.int .u8 58), .lit (.int .u8 42), .lit (.int .u8 50), .lit (.int .u8 38), .lit (.int .u8 29), .lit (.int .u8 17), .lit (.int .u8 4), .lit (.int .u8 62), .lit (.int .u8 47), .lit (.int .u8 59), .lit (.int .u8 36), .lit (.int .u8 45), .lit (.int .u8 43), .lit (.int .u8 51), .lit (.int .u8 22), .lit (.int .u8 53), .lit (.int .u8 39), .lit (.int .u8 33), .lit (.int .u8 30), .lit (.int .u8 24), .lit (.int .u8 18), .lit (.int .u8 12), .lit (.int .u8 5), .lit (.int .u8 63), .lit (.int .u8 55), .lit (.int .u8 48), .lit (.int .u8 27), .lit (.int .u8 60), .lit (.int .u8 41), .lit (.int .u8 37), .lit (.int .u8 16), .lit (.int .u8 46), .lit (.int .u8 35), .lit (.int .u8 44), .lit (.int .u8 21), .lit (.int .u8 52), .lit (.int .u8 32), .lit (.int .u8 23), .lit (.int .u8 11), .lit (.int .u8 54), .lit (.int .u8 26), .lit (.int .u8 40), .lit (.int .u8 15), .lit (.int .u8 34), .lit (.int .u8 20), .lit (.int .u8 31), .lit (.int .u8 10), .lit (.int .u8 25), .lit (.int .u8 14), .lit (.int .u8 19), .lit (.int .u8 9), .lit (.int .u8 13), .lit (.int .u8 8), .lit (.int .u8 7), .lit (.int .u8 6)]
def laid_internal_strconv_uint64pow10 {H : Type} : DataW H := .agg [.lit (.int .u64 1), .lit (.int .u64 10), .lit (.int .u64 100), .lit (.int .u64 1000), .lit (.int .u64 10000), .lit (.int .u64 100000), .lit (.int .u64 1000000), .lit (.int .u64 10000000), .lit (.int .u64 100000000), .lit (.int .u64 1000000000), .lit (.int .u64 10000000000), .lit (.int .u64 100000000000), .lit (.int .u64 1000000000000), .lit (.int .u64 10000000000000), .lit (.int .u64 100000000000000), .lit (.int .u64 1000000000000000), .lit (.int .u64 10000000000000000), .lit (.int .u64 100000000000000000), .lit (.int .u64 1000000000000000000), .lit (.int .u64 10000000000000000000)]
def laid_loop_example_typesetting_impl_romanSigns {H : Type} : DataW H := .agg [.agg [.lit (.string [109]), .lit (.int .i64 1000)], .agg [.lit (.string [99, 109]), .lit (.int .i64 900)], .agg [.lit (.string [100]), .lit (.int .i64 500)], .agg [.lit (.string [99, 100]), .lit (.int .i64 400)], .agg [.lit (.string [99]), .lit (.int .i64 100)], .agg [.lit (.string [120, 99]), .lit (.int .i64 90)], .agg [.lit (.string [108]), .lit (.int .i64 50)], .agg [.lit (.string [120, 108]), .lit (.int .i64 40)], .agg [.lit (.string [120]), .lit (.int .i64 10)], .agg [.lit (.string [105, 120]), .lit (.int .i64 9)], .agg [.lit (.string [118]), .lit (.int .i64 5)], .agg [.lit (.string [105, 118]), .lit (.int .i64 4)], .agg [.lit (.string [105]), .lit (.int .i64 1)]]

/-- 'laws.FnOutlinePrefix': WHATEVER THE INPUT: true; the input reads as it did. -/
def fnOutlinePrefixSpec : ChangeSpec := { name := "fnOutlinePrefix", fn := fun _ => fun
  | [d1, d2] => { results := [.lit (.bool true)], args := [d1, d2] }
  | _ => none }
def fnOutlinePrefixRow : OpenClaim := { program := "ytdgmienljhaipaadoor", sum := "475bb0c5b5e432ed93d0c13eaa73ef814ca3ee2998f024c03eafc05e53c36918", func := "loop.example/typesetting/laws.FnOutlinePrefix", spec := "fnOutlinePrefix", inPlace := ["internal/abi.NoEscape", "internal/bytealg.MakeNoZero"], named := ["internal/strconv.uint64pow10", "math/bits.deBruijn32tab", "math/bits.deBruijn64tab"], apart := false, laid := [("math/bits.deBruijn32tab", laid_math_bits_deBruijn32tab), ("math/bits.deBruijn64tab", laid_math_bits_deBruijn64tab), ("internal/strconv.uint64pow10", laid_internal_strconv_uint64pow10)] }
def FnOutlinePrefixSaid : Prop := fnOutlinePrefixRow.holds Tryd.pinned (OpenSpec.ofChange fnOutlinePrefixSpec)

/-- ITS FALSE NEIGHBOUR: 'it returns false'. Refute it at one input. -/
def fnOutlinePrefixWrong : ChangeSpec := { name := "fnOutlinePrefix", fn := fun _ => fun
  | [d1, d2] => { results := [.lit (.bool false)], args := [d1, d2] }
  | _ => none }
def FnOutlinePrefixWrongFalsely : Prop := fnOutlinePrefixRow.holds Tryd.pinned (OpenSpec.ofChange fnOutlinePrefixWrong)

/-- 'laws.FnParentOf': WHATEVER THE INPUT: true; the input reads as it did. -/
def fnParentOfSpec : ChangeSpec := { name := "fnParentOf", fn := fun _ => fun
  | [d] => { results := [.lit (.bool true)], args := [d] }
  | _ => none }
def fnParentOfRow : OpenClaim := { program := "ytdgmienljhaipaadoor", sum := "475bb0c5b5e432ed93d0c13eaa73ef814ca3ee2998f024c03eafc05e53c36918", func := "loop.example/typesetting/laws.FnParentOf", spec := "fnParentOf", inPlace := ["internal/abi.NoEscape", "internal/bytealg.MakeNoZero"], named := ["internal/strconv.uint64pow10", "math/bits.deBruijn32tab", "math/bits.deBruijn64tab"], apart := false, laid := [("math/bits.deBruijn32tab", laid_math_bits_deBruijn32tab), ("math/bits.deBruijn64tab", laid_math_bits_deBruijn64tab), ("internal/strconv.uint64pow10", laid_internal_strconv_uint64pow10)] }
def FnParentOfSaid : Prop := fnParentOfRow.holds Tryd.pinned (OpenSpec.ofChange fnParentOfSpec)

/-- ITS FALSE NEIGHBOUR: 'it returns false'. Refute it at one input. -/
def fnParentOfWrong : ChangeSpec := { name := "fnParentOf", fn := fun _ => fun
  | [d] => { results := [.lit (.bool false)], args := [d] }
  | _ => none }
def FnParentOfWrongFalsely : Prop := fnParentOfRow.holds Tryd.pinned (OpenSpec.ofChange fnParentOfWrong)

/-- 'laws.FnNumberHeadings': WHATEVER THE INPUT: true; the input reads as it did. -/
def fnNumberHeadingsSpec : ChangeSpec := { name := "fnNumberHeadings", fn := fun _ => fun
  | [d] => { results := [.lit (.bool true)], args := [d] }
  | _ => none }
def fnNumberHeadingsRow : OpenClaim := { program := "ytdgmienljhaipaadoor", sum := "475bb0c5b5e432ed93d0c13eaa73ef814ca3ee2998f024c03eafc05e53c36918", func := "loop.example/typesetting/laws.FnNumberHeadings", spec := "fnNumberHeadings", inPlace := ["internal/abi.NoEscape", "internal/bytealg.MakeNoZero"], recurses := true, named := ["internal/strconv.uint64pow10", "math/bits.deBruijn32tab", "math/bits.deBruijn64tab"], apart := false, laid := [("math/bits.deBruijn32tab", laid_math_bits_deBruijn32tab), ("math/bits.deBruijn64tab", laid_math_bits_deBruijn64tab), ("internal/strconv.uint64pow10", laid_internal_strconv_uint64pow10)] }
def FnNumberHeadingsSaid : Prop := fnNumberHeadingsRow.holds Tryd.pinned (OpenSpec.ofChange fnNumberHeadingsSpec)

/-- ITS FALSE NEIGHBOUR: 'it returns false'. Refute it at one input. -/
def fnNumberHeadingsWrong : ChangeSpec := { name := "fnNumberHeadings", fn := fun _ => fun
  | [d] => { results := [.lit (.bool false)], args := [d] }
  | _ => none }
def FnNumberHeadingsWrongFalsely : Prop := fnNumberHeadingsRow.holds Tryd.pinned (OpenSpec.ofChange fnNumberHeadingsWrong)

/-- 'laws.FnExactNumberHeadings': WHATEVER THE INPUT: true; the input reads as it did. -/
def fnExactNumberHeadingsSpec : ChangeSpec := { name := "fnExactNumberHeadings", fn := fun _ => fun
  | [d] => { results := [.lit (.bool true)], args := [d] }
  | _ => none }
def fnExactNumberHeadingsRow : OpenClaim := { program := "ytdgmienljhaipaadoor", sum := "475bb0c5b5e432ed93d0c13eaa73ef814ca3ee2998f024c03eafc05e53c36918", func := "loop.example/typesetting/laws.FnExactNumberHeadings", spec := "fnExactNumberHeadings", inPlace := ["internal/abi.NoEscape", "internal/bytealg.MakeNoZero"], recurses := true, named := ["internal/strconv.uint64pow10", "math/bits.deBruijn32tab", "math/bits.deBruijn64tab"], apart := false, laid := [("math/bits.deBruijn32tab", laid_math_bits_deBruijn32tab), ("math/bits.deBruijn64tab", laid_math_bits_deBruijn64tab), ("internal/strconv.uint64pow10", laid_internal_strconv_uint64pow10)] }
def FnExactNumberHeadingsSaid : Prop := fnExactNumberHeadingsRow.holds Tryd.pinned (OpenSpec.ofChange fnExactNumberHeadingsSpec)

/-- ITS FALSE NEIGHBOUR: 'it returns false'. Refute it at one input. -/
def fnExactNumberHeadingsWrong : ChangeSpec := { name := "fnExactNumberHeadings", fn := fun _ => fun
  | [d] => { results := [.lit (.bool false)], args := [d] }
  | _ => none }
def FnExactNumberHeadingsWrongFalsely : Prop := fnExactNumberHeadingsRow.holds Tryd.pinned (OpenSpec.ofChange fnExactNumberHeadingsWrong)

/-- 'laws.FnOutlineFlat': WHATEVER THE INPUT: true; the input reads as it did. -/
def fnOutlineFlatSpec : ChangeSpec := { name := "fnOutlineFlat", vars := ["loop.example/typesetting/impl.romanSigns"], fn := fun _ => fun
  | [d, g1] => { results := [.lit (.bool true)], args := [d], vars := [g1] }
  | _ => none }
def fnOutlineFlatRow : OpenClaim := { program := "ytdgmienljhaipaadoor", sum := "475bb0c5b5e432ed93d0c13eaa73ef814ca3ee2998f024c03eafc05e53c36918", func := "loop.example/typesetting/laws.FnOutlineFlat", spec := "fnOutlineFlat", inPlace := ["internal/abi.NoEscape", "internal/bytealg.MakeNoZero"], recurses := true, named := ["internal/strconv.uint64pow10", "math/bits.deBruijn32tab", "math/bits.deBruijn64tab", "loop.example/typesetting/impl.romanSigns"], apart := false, laid := [("math/bits.deBruijn32tab", laid_math_bits_deBruijn32tab), ("math/bits.deBruijn64tab", laid_math_bits_deBruijn64tab), ("internal/strconv.uint64pow10", laid_internal_strconv_uint64pow10), ("loop.example/typesetting/impl.romanSigns", laid_loop_example_typesetting_impl_romanSigns)] }
def FnOutlineFlatSaid : Prop := fnOutlineFlatRow.holds Tryd.pinned (OpenSpec.ofChange fnOutlineFlatSpec)

/-- ITS FALSE NEIGHBOUR: 'it returns false'. Refute it at one input. -/
def fnOutlineFlatWrong : ChangeSpec := { name := "fnOutlineFlat", vars := ["loop.example/typesetting/impl.romanSigns"], fn := fun _ => fun
  | [d, g1] => { results := [.lit (.bool false)], args := [d], vars := [g1] }
  | _ => none }
def FnOutlineFlatWrongFalsely : Prop := fnOutlineFlatRow.holds Tryd.pinned (OpenSpec.ofChange fnOutlineFlatWrong)

/- THE SECOND FORM. 'bulk': how many values and letters a reading holds, each counted each time it is reached (what is shared counts as often as it is met; a slice's spare places count too). A statement '..UptoSaid' is the law's where the arguments, and the package variables that the reading takes, are together of bulk at most 1048576: NARROWER than '..Said'. Prove '..Said' where nothing that the law and all that it calls make is longer than what came in: it says more and counts as full. Else prove '..UptoSaid'. A law counts once. -/
mutual
def uptoBulk {H : Type} : DataW H → Nat
  | .lit (.string bytes) => bytes.length + 1
  | .lit _ => 1
  | .nil => 1
  | .ptr d => uptoBulk d + 1
  | .slice elems spare => uptoBulkAll elems + uptoBulkAll spare + 1
  | .agg parts => uptoBulkAll parts + 1
  | .iface _ d => uptoBulk d + 1
  | .map entries => uptoBulkEntries entries + 1
  | .held _ => 1
def uptoBulkAll {H : Type} : List (DataW H) → Nat
  | [] => 0
  | d :: r => uptoBulk d + uptoBulkAll r
def uptoBulkEntries {H : Type} : List (Lit × DataW H) → Nat
  | [] => 0
  | x :: r => uptoBulkEntry x + uptoBulkEntries r
def uptoBulkEntry {H : Type} : Lit × DataW H → Nat
  | (.string bytes, d) => bytes.length + uptoBulk d + 1
  | (_, d) => uptoBulk d + 1
 end
def uptoSmall : (H : Type) → List (DataW H) → Bool := fun _ ds => decide (uptoBulkAll ds ≤ 1048576)
def OpenSpec.upto (s : _root_.Go.ChangeSpec) : _root_.Go.OpenSpec := { _root_.Go.OpenSpec.ofChange s with cond := some uptoSmall }

/-- 'laws.FnOutlinePrefix', WHERE WHAT IT READS IS OF BULK AT MOST 1048576: true; the input reads as it did. -/
def fnOutlinePrefixUptoRow : OpenClaim := { program := "ytdgmienljhaipaadoor", sum := "475bb0c5b5e432ed93d0c13eaa73ef814ca3ee2998f024c03eafc05e53c36918", func := "loop.example/typesetting/laws.FnOutlinePrefix", spec := "fnOutlinePrefix", inPlace := ["internal/abi.NoEscape", "internal/bytealg.MakeNoZero"], named := ["internal/strconv.uint64pow10", "math/bits.deBruijn32tab", "math/bits.deBruijn64tab"], apart := false, laid := [("math/bits.deBruijn32tab", laid_math_bits_deBruijn32tab), ("math/bits.deBruijn64tab", laid_math_bits_deBruijn64tab), ("internal/strconv.uint64pow10", laid_internal_strconv_uint64pow10)], narrowed := true }
def FnOutlinePrefixUptoSaid : Prop := fnOutlinePrefixUptoRow.holds Tryd.pinned (OpenSpec.upto fnOutlinePrefixSpec)

/-- 'laws.FnParentOf', WHERE WHAT IT READS IS OF BULK AT MOST 1048576: true; the input reads as it did. -/
def fnParentOfUptoRow : OpenClaim := { program := "ytdgmienljhaipaadoor", sum := "475bb0c5b5e432ed93d0c13eaa73ef814ca3ee2998f024c03eafc05e53c36918", func := "loop.example/typesetting/laws.FnParentOf", spec := "fnParentOf", inPlace := ["internal/abi.NoEscape", "internal/bytealg.MakeNoZero"], named := ["internal/strconv.uint64pow10", "math/bits.deBruijn32tab", "math/bits.deBruijn64tab"], apart := false, laid := [("math/bits.deBruijn32tab", laid_math_bits_deBruijn32tab), ("math/bits.deBruijn64tab", laid_math_bits_deBruijn64tab), ("internal/strconv.uint64pow10", laid_internal_strconv_uint64pow10)], narrowed := true }
def FnParentOfUptoSaid : Prop := fnParentOfUptoRow.holds Tryd.pinned (OpenSpec.upto fnParentOfSpec)

/-- 'laws.FnNumberHeadings', WHERE WHAT IT READS IS OF BULK AT MOST 1048576: true; the input reads as it did. -/
def fnNumberHeadingsUptoRow : OpenClaim := { program := "ytdgmienljhaipaadoor", sum := "475bb0c5b5e432ed93d0c13eaa73ef814ca3ee2998f024c03eafc05e53c36918", func := "loop.example/typesetting/laws.FnNumberHeadings", spec := "fnNumberHeadings", inPlace := ["internal/abi.NoEscape", "internal/bytealg.MakeNoZero"], recurses := true, named := ["internal/strconv.uint64pow10", "math/bits.deBruijn32tab", "math/bits.deBruijn64tab"], apart := false, laid := [("math/bits.deBruijn32tab", laid_math_bits_deBruijn32tab), ("math/bits.deBruijn64tab", laid_math_bits_deBruijn64tab), ("internal/strconv.uint64pow10", laid_internal_strconv_uint64pow10)], narrowed := true }
def FnNumberHeadingsUptoSaid : Prop := fnNumberHeadingsUptoRow.holds Tryd.pinned (OpenSpec.upto fnNumberHeadingsSpec)

/-- 'laws.FnExactNumberHeadings', WHERE WHAT IT READS IS OF BULK AT MOST 1048576: true; the input reads as it did. -/
def fnExactNumberHeadingsUptoRow : OpenClaim := { program := "ytdgmienljhaipaadoor", sum := "475bb0c5b5e432ed93d0c13eaa73ef814ca3ee2998f024c03eafc05e53c36918", func := "loop.example/typesetting/laws.FnExactNumberHeadings", spec := "fnExactNumberHeadings", inPlace := ["internal/abi.NoEscape", "internal/bytealg.MakeNoZero"], recurses := true, named := ["internal/strconv.uint64pow10", "math/bits.deBruijn32tab", "math/bits.deBruijn64tab"], apart := false, laid := [("math/bits.deBruijn32tab", laid_math_bits_deBruijn32tab), ("math/bits.deBruijn64tab", laid_math_bits_deBruijn64tab), ("internal/strconv.uint64pow10", laid_internal_strconv_uint64pow10)], narrowed := true }
def FnExactNumberHeadingsUptoSaid : Prop := fnExactNumberHeadingsUptoRow.holds Tryd.pinned (OpenSpec.upto fnExactNumberHeadingsSpec)

/-- 'laws.FnOutlineFlat', WHERE WHAT IT READS IS OF BULK AT MOST 1048576: true; the input reads as it did. -/
def fnOutlineFlatUptoRow : OpenClaim := { program := "ytdgmienljhaipaadoor", sum := "475bb0c5b5e432ed93d0c13eaa73ef814ca3ee2998f024c03eafc05e53c36918", func := "loop.example/typesetting/laws.FnOutlineFlat", spec := "fnOutlineFlat", inPlace := ["internal/abi.NoEscape", "internal/bytealg.MakeNoZero"], recurses := true, named := ["internal/strconv.uint64pow10", "math/bits.deBruijn32tab", "math/bits.deBruijn64tab", "loop.example/typesetting/impl.romanSigns"], apart := false, laid := [("math/bits.deBruijn32tab", laid_math_bits_deBruijn32tab), ("math/bits.deBruijn64tab", laid_math_bits_deBruijn64tab), ("internal/strconv.uint64pow10", laid_internal_strconv_uint64pow10), ("loop.example/typesetting/impl.romanSigns", laid_loop_example_typesetting_impl_romanSigns)], narrowed := true }
def FnOutlineFlatUptoSaid : Prop := fnOutlineFlatUptoRow.holds Tryd.pinned (OpenSpec.upto fnOutlineFlatSpec)

end Rows
end Go.Proofs.YtdgmienljhaipaaDoor
