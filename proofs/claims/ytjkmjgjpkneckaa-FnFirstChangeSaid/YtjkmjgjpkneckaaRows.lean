/-
  No cell of these rows narrows 'for every input' (looked for: loops, veiled, ifaces, maps, wideKeys, modest, calm, conditions, laid).
  DERIVED. THE GIVEN ROWS OF THIS SEAT. 10 by the template 'for every input the law returns true; each argument reads behind the call as it read before'; 0 by the template 'total and deterministic' (their statements: YtjkmjgjpkneckaaTotals.lean).
  GIVEN WITH THE SEED: the statements are not yours to turn. If you find one false, say at which input.
  Laid BY PROGRAM, IN A SANDBOX (cutbox-rows.mjs): the forced cells as the released guide's own fill.sh prints them over the translation dbe2d68c8729c847… (all of the seat's roots in one cut). By AI agents, Wed Nov 11 2026. No macro, syntax, notation, axiom, sorry.
-/
import Derived.Test.YtjkmjgjpkneckaaChecked
import GoSem.Claim
import GoSem.ClaimJoined
import GoSem.ClaimMapViews
import Derived.JoinedTies
import Derived.KernelRfl
namespace Go.Proofs.Ytjkmjgjpkneckaa
/- THE CELL 'sum', in the pinned program and in every row, IS THE sha256 OF THE DUMP (.gsa) THAT YtjkmjgjpkneckaaProg.lean LOADS. Nothing in Lean hashes anything: it is a label: what it is worth is what the hold of that sum in a sandbox is worth. -/
noncomputable def Try.pinned : Pinned := { name := "ytjkmjgjpkneckaa", sum := "dbe2d68c8729c847ab8a1ef475014e10023fa9be5f555cc7f5148732ca0d0cae", checked := Try.checked }
namespace Rows
def none {H : Type} : Left H := { results := [], args := [] }

/-- 'laws.FnExactKeptLines': WHATEVER THE INPUT: true; the input reads as it did. -/
def fnExactKeptLinesSpec : ChangeSpec := { name := "fnExactKeptLines", fn := fun _ => fun
  | [d1, d2] => { results := [.lit (.bool true)], args := [d1, d2] }
  | _ => none }
def fnExactKeptLinesRow : OpenClaim := { program := "ytjkmjgjpkneckaa", sum := "dbe2d68c8729c847ab8a1ef475014e10023fa9be5f555cc7f5148732ca0d0cae", func := "loop.example/typesetting/laws.FnExactKeptLines", spec := "fnExactKeptLines", apart := false }
def FnExactKeptLinesSaid : Prop := fnExactKeptLinesRow.holds Try.pinned (OpenSpec.ofChange fnExactKeptLinesSpec)

/-- ITS FALSE NEIGHBOUR: 'it returns false'. Refute it at one input. -/
def fnExactKeptLinesWrong : ChangeSpec := { name := "fnExactKeptLines", fn := fun _ => fun
  | [d1, d2] => { results := [.lit (.bool false)], args := [d1, d2] }
  | _ => none }
def FnExactKeptLinesWrongFalsely : Prop := fnExactKeptLinesRow.holds Try.pinned (OpenSpec.ofChange fnExactKeptLinesWrong)

/-- 'laws.FnKeptLines': WHATEVER THE INPUT: true; the input reads as it did. -/
def fnKeptLinesSpec : ChangeSpec := { name := "fnKeptLines", fn := fun _ => fun
  | [d] => { results := [.lit (.bool true)], args := [d] }
  | _ => none }
def fnKeptLinesRow : OpenClaim := { program := "ytjkmjgjpkneckaa", sum := "dbe2d68c8729c847ab8a1ef475014e10023fa9be5f555cc7f5148732ca0d0cae", func := "loop.example/typesetting/laws.FnKeptLines", spec := "fnKeptLines", apart := false }
def FnKeptLinesSaid : Prop := fnKeptLinesRow.holds Try.pinned (OpenSpec.ofChange fnKeptLinesSpec)

/-- ITS FALSE NEIGHBOUR: 'it returns false'. Refute it at one input. -/
def fnKeptLinesWrong : ChangeSpec := { name := "fnKeptLines", fn := fun _ => fun
  | [d] => { results := [.lit (.bool false)], args := [d] }
  | _ => none }
def FnKeptLinesWrongFalsely : Prop := fnKeptLinesRow.holds Try.pinned (OpenSpec.ofChange fnKeptLinesWrong)

/-- 'laws.FnExactCommonItems': WHATEVER THE INPUT: true; the input reads as it did. -/
def fnExactCommonItemsSpec : ChangeSpec := { name := "fnExactCommonItems", fn := fun _ => fun
  | [d1, d2] => { results := [.lit (.bool true)], args := [d1, d2] }
  | _ => none }
def fnExactCommonItemsRow : OpenClaim := { program := "ytjkmjgjpkneckaa", sum := "dbe2d68c8729c847ab8a1ef475014e10023fa9be5f555cc7f5148732ca0d0cae", func := "loop.example/typesetting/laws.FnExactCommonItems", spec := "fnExactCommonItems", apart := false }
def FnExactCommonItemsSaid : Prop := fnExactCommonItemsRow.holds Try.pinned (OpenSpec.ofChange fnExactCommonItemsSpec)

/-- ITS FALSE NEIGHBOUR: 'it returns false'. Refute it at one input. -/
def fnExactCommonItemsWrong : ChangeSpec := { name := "fnExactCommonItems", fn := fun _ => fun
  | [d1, d2] => { results := [.lit (.bool false)], args := [d1, d2] }
  | _ => none }
def FnExactCommonItemsWrongFalsely : Prop := fnExactCommonItemsRow.holds Try.pinned (OpenSpec.ofChange fnExactCommonItemsWrong)

/-- 'laws.FnCommonItems': WHATEVER THE INPUT: true; the input reads as it did. -/
def fnCommonItemsSpec : ChangeSpec := { name := "fnCommonItems", fn := fun _ => fun
  | [d] => { results := [.lit (.bool true)], args := [d] }
  | _ => none }
def fnCommonItemsRow : OpenClaim := { program := "ytjkmjgjpkneckaa", sum := "dbe2d68c8729c847ab8a1ef475014e10023fa9be5f555cc7f5148732ca0d0cae", func := "loop.example/typesetting/laws.FnCommonItems", spec := "fnCommonItems", apart := false }
def FnCommonItemsSaid : Prop := fnCommonItemsRow.holds Try.pinned (OpenSpec.ofChange fnCommonItemsSpec)

/-- ITS FALSE NEIGHBOUR: 'it returns false'. Refute it at one input. -/
def fnCommonItemsWrong : ChangeSpec := { name := "fnCommonItems", fn := fun _ => fun
  | [d] => { results := [.lit (.bool false)], args := [d] }
  | _ => none }
def FnCommonItemsWrongFalsely : Prop := fnCommonItemsRow.holds Try.pinned (OpenSpec.ofChange fnCommonItemsWrong)

/-- 'laws.FnReplaceBack': WHATEVER THE INPUT: true; the input reads as it did. -/
def fnReplaceBackSpec : ChangeSpec := { name := "fnReplaceBack", fn := fun _ => fun
  | [d] => { results := [.lit (.bool true)], args := [d] }
  | _ => none }
def fnReplaceBackRow : OpenClaim := { program := "ytjkmjgjpkneckaa", sum := "dbe2d68c8729c847ab8a1ef475014e10023fa9be5f555cc7f5148732ca0d0cae", func := "loop.example/typesetting/laws.FnReplaceBack", spec := "fnReplaceBack", apart := false }
def FnReplaceBackSaid : Prop := fnReplaceBackRow.holds Try.pinned (OpenSpec.ofChange fnReplaceBackSpec)

/-- ITS FALSE NEIGHBOUR: 'it returns false'. Refute it at one input. -/
def fnReplaceBackWrong : ChangeSpec := { name := "fnReplaceBack", fn := fun _ => fun
  | [d] => { results := [.lit (.bool false)], args := [d] }
  | _ => none }
def FnReplaceBackWrongFalsely : Prop := fnReplaceBackRow.holds Try.pinned (OpenSpec.ofChange fnReplaceBackWrong)

/-- 'laws.FnReplaceItems': WHATEVER THE INPUT: true; the input reads as it did. -/
def fnReplaceItemsSpec : ChangeSpec := { name := "fnReplaceItems", fn := fun _ => fun
  | [d] => { results := [.lit (.bool true)], args := [d] }
  | _ => none }
def fnReplaceItemsRow : OpenClaim := { program := "ytjkmjgjpkneckaa", sum := "dbe2d68c8729c847ab8a1ef475014e10023fa9be5f555cc7f5148732ca0d0cae", func := "loop.example/typesetting/laws.FnReplaceItems", spec := "fnReplaceItems", apart := false }
def FnReplaceItemsSaid : Prop := fnReplaceItemsRow.holds Try.pinned (OpenSpec.ofChange fnReplaceItemsSpec)

/-- ITS FALSE NEIGHBOUR: 'it returns false'. Refute it at one input. -/
def fnReplaceItemsWrong : ChangeSpec := { name := "fnReplaceItems", fn := fun _ => fun
  | [d] => { results := [.lit (.bool false)], args := [d] }
  | _ => none }
def FnReplaceItemsWrongFalsely : Prop := fnReplaceItemsRow.holds Try.pinned (OpenSpec.ofChange fnReplaceItemsWrong)

/-- 'laws.FnExactReplaceItems': WHATEVER THE INPUT: true; the input reads as it did. -/
def fnExactReplaceItemsSpec : ChangeSpec := { name := "fnExactReplaceItems", fn := fun _ => fun
  | [d1, d2, d3, d4] => { results := [.lit (.bool true)], args := [d1, d2, d3, d4] }
  | _ => none }
def fnExactReplaceItemsRow : OpenClaim := { program := "ytjkmjgjpkneckaa", sum := "dbe2d68c8729c847ab8a1ef475014e10023fa9be5f555cc7f5148732ca0d0cae", func := "loop.example/typesetting/laws.FnExactReplaceItems", spec := "fnExactReplaceItems", apart := false }
def FnExactReplaceItemsSaid : Prop := fnExactReplaceItemsRow.holds Try.pinned (OpenSpec.ofChange fnExactReplaceItemsSpec)

/-- ITS FALSE NEIGHBOUR: 'it returns false'. Refute it at one input. -/
def fnExactReplaceItemsWrong : ChangeSpec := { name := "fnExactReplaceItems", fn := fun _ => fun
  | [d1, d2, d3, d4] => { results := [.lit (.bool false)], args := [d1, d2, d3, d4] }
  | _ => none }
def FnExactReplaceItemsWrongFalsely : Prop := fnExactReplaceItemsRow.holds Try.pinned (OpenSpec.ofChange fnExactReplaceItemsWrong)

/-- 'laws.FnExactFirstChange': WHATEVER THE INPUT: true; the input reads as it did. -/
def fnExactFirstChangeSpec : ChangeSpec := { name := "fnExactFirstChange", fn := fun _ => fun
  | [d1, d2, d3] => { results := [.lit (.bool true)], args := [d1, d2, d3] }
  | _ => none }
def fnExactFirstChangeRow : OpenClaim := { program := "ytjkmjgjpkneckaa", sum := "dbe2d68c8729c847ab8a1ef475014e10023fa9be5f555cc7f5148732ca0d0cae", func := "loop.example/typesetting/laws.FnExactFirstChange", spec := "fnExactFirstChange", apart := false }
def FnExactFirstChangeSaid : Prop := fnExactFirstChangeRow.holds Try.pinned (OpenSpec.ofChange fnExactFirstChangeSpec)

/-- ITS FALSE NEIGHBOUR: 'it returns false'. Refute it at one input. -/
def fnExactFirstChangeWrong : ChangeSpec := { name := "fnExactFirstChange", fn := fun _ => fun
  | [d1, d2, d3] => { results := [.lit (.bool false)], args := [d1, d2, d3] }
  | _ => none }
def FnExactFirstChangeWrongFalsely : Prop := fnExactFirstChangeRow.holds Try.pinned (OpenSpec.ofChange fnExactFirstChangeWrong)

/-- 'laws.FnChangeCommon': WHATEVER THE INPUT: true; the input reads as it did. -/
def fnChangeCommonSpec : ChangeSpec := { name := "fnChangeCommon", fn := fun _ => fun
  | [d] => { results := [.lit (.bool true)], args := [d] }
  | _ => none }
def fnChangeCommonRow : OpenClaim := { program := "ytjkmjgjpkneckaa", sum := "dbe2d68c8729c847ab8a1ef475014e10023fa9be5f555cc7f5148732ca0d0cae", func := "loop.example/typesetting/laws.FnChangeCommon", spec := "fnChangeCommon", apart := false }
def FnChangeCommonSaid : Prop := fnChangeCommonRow.holds Try.pinned (OpenSpec.ofChange fnChangeCommonSpec)

/-- ITS FALSE NEIGHBOUR: 'it returns false'. Refute it at one input. -/
def fnChangeCommonWrong : ChangeSpec := { name := "fnChangeCommon", fn := fun _ => fun
  | [d] => { results := [.lit (.bool false)], args := [d] }
  | _ => none }
def FnChangeCommonWrongFalsely : Prop := fnChangeCommonRow.holds Try.pinned (OpenSpec.ofChange fnChangeCommonWrong)

/-- 'laws.FnFirstChange': WHATEVER THE INPUT: true; the input reads as it did. -/
def fnFirstChangeSpec : ChangeSpec := { name := "fnFirstChange", fn := fun _ => fun
  | [d] => { results := [.lit (.bool true)], args := [d] }
  | _ => none }
def fnFirstChangeRow : OpenClaim := { program := "ytjkmjgjpkneckaa", sum := "dbe2d68c8729c847ab8a1ef475014e10023fa9be5f555cc7f5148732ca0d0cae", func := "loop.example/typesetting/laws.FnFirstChange", spec := "fnFirstChange", apart := false }
def FnFirstChangeSaid : Prop := fnFirstChangeRow.holds Try.pinned (OpenSpec.ofChange fnFirstChangeSpec)

/-- ITS FALSE NEIGHBOUR: 'it returns false'. Refute it at one input. -/
def fnFirstChangeWrong : ChangeSpec := { name := "fnFirstChange", fn := fun _ => fun
  | [d] => { results := [.lit (.bool false)], args := [d] }
  | _ => none }
def FnFirstChangeWrongFalsely : Prop := fnFirstChangeRow.holds Try.pinned (OpenSpec.ofChange fnFirstChangeWrong)

/- THE SECOND FORM. 'bulk': how many values and letters a reading holds, each counted each time it is reached (what is shared counts as often as it is met; a slice's spare places count too). A statement '..UptoSaid' is the law's where the arguments, and the package variables that the reading takes, are together of bulk at most 1048576: NARROWER than '..Said'. Prove '..Said' where nothing that the law and all that it calls make is longer than what came in: it says more and counts as full. Else prove '..UptoSaid'. A law counts once. -/
mutual
def uptoBulk {H : Type} : DataW H → Nat
  | .lit (.string bytes) => bytes.length + 1
  | .lit _ => 1
  | .nil => 1
  | .ptr d => uptoBulk d + 1
  | .slice elems spare => uptoBulkAll elems + uptoBulkAll spare + 1
  | .agg parts => uptoBulkAll parts + 1
  | .iface _ d => uptoBulk d + 1
  | .map entries => uptoBulkEntries entries + 1
  | .held _ => 1
def uptoBulkAll {H : Type} : List (DataW H) → Nat
  | [] => 0
  | d :: r => uptoBulk d + uptoBulkAll r
def uptoBulkEntries {H : Type} : List (Lit × DataW H) → Nat
  | [] => 0
  | x :: r => uptoBulkEntry x + uptoBulkEntries r
def uptoBulkEntry {H : Type} : Lit × DataW H → Nat
  | (.string bytes, d) => bytes.length + uptoBulk d + 1
  | (_, d) => uptoBulk d + 1
 end
def uptoSmall : (H : Type) → List (DataW H) → Bool := fun _ ds => decide (uptoBulkAll ds ≤ 1048576)
def OpenSpec.upto (s : _root_.Go.ChangeSpec) : _root_.Go.OpenSpec := { _root_.Go.OpenSpec.ofChange s with cond := some uptoSmall }

/-- 'laws.FnExactKeptLines', WHERE WHAT IT READS IS OF BULK AT MOST 1048576: true; the input reads as it did. -/
def fnExactKeptLinesUptoRow : OpenClaim := { program := "ytjkmjgjpkneckaa", sum := "dbe2d68c8729c847ab8a1ef475014e10023fa9be5f555cc7f5148732ca0d0cae", func := "loop.example/typesetting/laws.FnExactKeptLines", spec := "fnExactKeptLines", apart := false, narrowed := true }
def FnExactKeptLinesUptoSaid : Prop := fnExactKeptLinesUptoRow.holds Try.pinned (OpenSpec.upto fnExactKeptLinesSpec)

/-- 'laws.FnKeptLines', WHERE WHAT IT READS IS OF BULK AT MOST 1048576: true; the input reads as it did. -/
def fnKeptLinesUptoRow : OpenClaim := { program := "ytjkmjgjpkneckaa", sum := "dbe2d68c8729c847ab8a1ef475014e10023fa9be5f555cc7f5148732ca0d0cae", func := "loop.example/typesetting/laws.FnKeptLines", spec := "fnKeptLines", apart := false, narrowed := true }
def FnKeptLinesUptoSaid : Prop := fnKeptLinesUptoRow.holds Try.pinned (OpenSpec.upto fnKeptLinesSpec)

/-- 'laws.FnExactCommonItems', WHERE WHAT IT READS IS OF BULK AT MOST 1048576: true; the input reads as it did. -/
def fnExactCommonItemsUptoRow : OpenClaim := { program := "ytjkmjgjpkneckaa", sum := "dbe2d68c8729c847ab8a1ef475014e10023fa9be5f555cc7f5148732ca0d0cae", func := "loop.example/typesetting/laws.FnExactCommonItems", spec := "fnExactCommonItems", apart := false, narrowed := true }
def FnExactCommonItemsUptoSaid : Prop := fnExactCommonItemsUptoRow.holds Try.pinned (OpenSpec.upto fnExactCommonItemsSpec)

/-- 'laws.FnCommonItems', WHERE WHAT IT READS IS OF BULK AT MOST 1048576: true; the input reads as it did. -/
def fnCommonItemsUptoRow : OpenClaim := { program := "ytjkmjgjpkneckaa", sum := "dbe2d68c8729c847ab8a1ef475014e10023fa9be5f555cc7f5148732ca0d0cae", func := "loop.example/typesetting/laws.FnCommonItems", spec := "fnCommonItems", apart := false, narrowed := true }
def FnCommonItemsUptoSaid : Prop := fnCommonItemsUptoRow.holds Try.pinned (OpenSpec.upto fnCommonItemsSpec)

/-- 'laws.FnReplaceBack', WHERE WHAT IT READS IS OF BULK AT MOST 1048576: true; the input reads as it did. -/
def fnReplaceBackUptoRow : OpenClaim := { program := "ytjkmjgjpkneckaa", sum := "dbe2d68c8729c847ab8a1ef475014e10023fa9be5f555cc7f5148732ca0d0cae", func := "loop.example/typesetting/laws.FnReplaceBack", spec := "fnReplaceBack", apart := false, narrowed := true }
def FnReplaceBackUptoSaid : Prop := fnReplaceBackUptoRow.holds Try.pinned (OpenSpec.upto fnReplaceBackSpec)

/-- 'laws.FnReplaceItems', WHERE WHAT IT READS IS OF BULK AT MOST 1048576: true; the input reads as it did. -/
def fnReplaceItemsUptoRow : OpenClaim := { program := "ytjkmjgjpkneckaa", sum := "dbe2d68c8729c847ab8a1ef475014e10023fa9be5f555cc7f5148732ca0d0cae", func := "loop.example/typesetting/laws.FnReplaceItems", spec := "fnReplaceItems", apart := false, narrowed := true }
def FnReplaceItemsUptoSaid : Prop := fnReplaceItemsUptoRow.holds Try.pinned (OpenSpec.upto fnReplaceItemsSpec)

/-- 'laws.FnExactReplaceItems', WHERE WHAT IT READS IS OF BULK AT MOST 1048576: true; the input reads as it did. -/
def fnExactReplaceItemsUptoRow : OpenClaim := { program := "ytjkmjgjpkneckaa", sum := "dbe2d68c8729c847ab8a1ef475014e10023fa9be5f555cc7f5148732ca0d0cae", func := "loop.example/typesetting/laws.FnExactReplaceItems", spec := "fnExactReplaceItems", apart := false, narrowed := true }
def FnExactReplaceItemsUptoSaid : Prop := fnExactReplaceItemsUptoRow.holds Try.pinned (OpenSpec.upto fnExactReplaceItemsSpec)

/-- 'laws.FnExactFirstChange', WHERE WHAT IT READS IS OF BULK AT MOST 1048576: true; the input reads as it did. -/
def fnExactFirstChangeUptoRow : OpenClaim := { program := "ytjkmjgjpkneckaa", sum := "dbe2d68c8729c847ab8a1ef475014e10023fa9be5f555cc7f5148732ca0d0cae", func := "loop.example/typesetting/laws.FnExactFirstChange", spec := "fnExactFirstChange", apart := false, narrowed := true }
def FnExactFirstChangeUptoSaid : Prop := fnExactFirstChangeUptoRow.holds Try.pinned (OpenSpec.upto fnExactFirstChangeSpec)

/-- 'laws.FnChangeCommon', WHERE WHAT IT READS IS OF BULK AT MOST 1048576: true; the input reads as it did. -/
def fnChangeCommonUptoRow : OpenClaim := { program := "ytjkmjgjpkneckaa", sum := "dbe2d68c8729c847ab8a1ef475014e10023fa9be5f555cc7f5148732ca0d0cae", func := "loop.example/typesetting/laws.FnChangeCommon", spec := "fnChangeCommon", apart := false, narrowed := true }
def FnChangeCommonUptoSaid : Prop := fnChangeCommonUptoRow.holds Try.pinned (OpenSpec.upto fnChangeCommonSpec)

/-- 'laws.FnFirstChange', WHERE WHAT IT READS IS OF BULK AT MOST 1048576: true; the input reads as it did. -/
def fnFirstChangeUptoRow : OpenClaim := { program := "ytjkmjgjpkneckaa", sum := "dbe2d68c8729c847ab8a1ef475014e10023fa9be5f555cc7f5148732ca0d0cae", func := "loop.example/typesetting/laws.FnFirstChange", spec := "fnFirstChange", apart := false, narrowed := true }
def FnFirstChangeUptoSaid : Prop := fnFirstChangeUptoRow.holds Try.pinned (OpenSpec.upto fnFirstChangeSpec)

end Rows
end Go.Proofs.Ytjkmjgjpkneckaa
