/-
  No cell of these rows narrows 'for every input' (looked for: loops, veiled, ifaces, maps, wideKeys, modest, calm, conditions, laid).
  DERIVED. THE GIVEN ROWS OF THIS SEAT. 6 by the template 'for every input the law returns true; each argument reads behind the call as it read before'; 0 by the template 'total and deterministic' (their statements: YtonkminebememaaTotals.lean).
  GIVEN WITH THE SEED: the statements are not yours to turn. If you find one false, say at which input.
  Laid BY PROGRAM, IN A SANDBOX (cutbox-rows.mjs): the forced cells as the released guide's own fill.sh prints them over the translation 9d9d050954483a0f… (all of the seat's roots in one cut). By AI agents, Wed Nov 11 2026. No macro, syntax, notation, axiom, sorry.
-/
import Derived.Test.YtonkminebememaaChecked
import GoSem.Claim
import GoSem.ClaimJoined
import GoSem.ClaimMapViews
import Derived.JoinedTies
import Derived.KernelRfl
namespace Go.Proofs.Ytonkminebememaa
/- THE CELL 'sum', in the pinned program and in every row, IS THE sha256 OF THE DUMP (.gsa) THAT YtonkminebememaaProg.lean LOADS. Nothing in Lean hashes anything: it is a label: what it is worth is what the hold of that sum in a sandbox is worth. -/
noncomputable def Try.pinned : Pinned := { name := "ytonkminebememaa", sum := "9d9d050954483a0f8e7cc1eea10a254f3eefe9f4955a8990f80dd04c231f7579", checked := Try.checked }
namespace Rows
def none {H : Type} : Left H := { results := [], args := [] }

/-- 'laws.FnLevelsDigits': WHATEVER THE INPUT: true; the input reads as it did. -/
def fnLevelsDigitsSpec : ChangeSpec := { name := "fnLevelsDigits", fn := fun _ => fun
  | [d] => { results := [.lit (.bool true)], args := [d] }
  | _ => none }
def fnLevelsDigitsRow : OpenClaim := { program := "ytonkminebememaa", sum := "9d9d050954483a0f8e7cc1eea10a254f3eefe9f4955a8990f80dd04c231f7579", func := "loop.example/typesetting/laws.FnLevelsDigits", spec := "fnLevelsDigits", apart := false }
def FnLevelsDigitsSaid : Prop := fnLevelsDigitsRow.holds Try.pinned (OpenSpec.ofChange fnLevelsDigitsSpec)

/-- ITS FALSE NEIGHBOUR: 'it returns false'. Refute it at one input. -/
def fnLevelsDigitsWrong : ChangeSpec := { name := "fnLevelsDigits", fn := fun _ => fun
  | [d] => { results := [.lit (.bool false)], args := [d] }
  | _ => none }
def FnLevelsDigitsWrongFalsely : Prop := fnLevelsDigitsRow.holds Try.pinned (OpenSpec.ofChange fnLevelsDigitsWrong)

/-- 'laws.FnLevelsOf': WHATEVER THE INPUT: true; the input reads as it did. -/
def fnLevelsOfSpec : ChangeSpec := { name := "fnLevelsOf", fn := fun _ => fun
  | [d] => { results := [.lit (.bool true)], args := [d] }
  | _ => none }
def fnLevelsOfRow : OpenClaim := { program := "ytonkminebememaa", sum := "9d9d050954483a0f8e7cc1eea10a254f3eefe9f4955a8990f80dd04c231f7579", func := "loop.example/typesetting/laws.FnLevelsOf", spec := "fnLevelsOf", apart := false }
def FnLevelsOfSaid : Prop := fnLevelsOfRow.holds Try.pinned (OpenSpec.ofChange fnLevelsOfSpec)

/-- ITS FALSE NEIGHBOUR: 'it returns false'. Refute it at one input. -/
def fnLevelsOfWrong : ChangeSpec := { name := "fnLevelsOf", fn := fun _ => fun
  | [d] => { results := [.lit (.bool false)], args := [d] }
  | _ => none }
def FnLevelsOfWrongFalsely : Prop := fnLevelsOfRow.holds Try.pinned (OpenSpec.ofChange fnLevelsOfWrong)

/-- 'laws.FnExactShowText': WHATEVER THE INPUT: true; the input reads as it did. -/
def fnExactShowTextSpec : ChangeSpec := { name := "fnExactShowText", fn := fun _ => fun
  | [d1, d2] => { results := [.lit (.bool true)], args := [d1, d2] }
  | _ => none }
def fnExactShowTextRow : OpenClaim := { program := "ytonkminebememaa", sum := "9d9d050954483a0f8e7cc1eea10a254f3eefe9f4955a8990f80dd04c231f7579", func := "loop.example/typesetting/laws.FnExactShowText", spec := "fnExactShowText", inPlace := ["internal/abi.NoEscape"], apart := false }
def FnExactShowTextSaid : Prop := fnExactShowTextRow.holds Try.pinned (OpenSpec.ofChange fnExactShowTextSpec)

/-- ITS FALSE NEIGHBOUR: 'it returns false'. Refute it at one input. -/
def fnExactShowTextWrong : ChangeSpec := { name := "fnExactShowText", fn := fun _ => fun
  | [d1, d2] => { results := [.lit (.bool false)], args := [d1, d2] }
  | _ => none }
def FnExactShowTextWrongFalsely : Prop := fnExactShowTextRow.holds Try.pinned (OpenSpec.ofChange fnExactShowTextWrong)

/-- 'laws.FnLevelsBase': WHATEVER THE INPUT: true; the input reads as it did. -/
def fnLevelsBaseSpec : ChangeSpec := { name := "fnLevelsBase", fn := fun _ => fun
  | [d] => { results := [.lit (.bool true)], args := [d] }
  | _ => none }
def fnLevelsBaseRow : OpenClaim := { program := "ytonkminebememaa", sum := "9d9d050954483a0f8e7cc1eea10a254f3eefe9f4955a8990f80dd04c231f7579", func := "loop.example/typesetting/laws.FnLevelsBase", spec := "fnLevelsBase", inPlace := ["internal/abi.NoEscape"], apart := false }
def FnLevelsBaseSaid : Prop := fnLevelsBaseRow.holds Try.pinned (OpenSpec.ofChange fnLevelsBaseSpec)

/-- ITS FALSE NEIGHBOUR: 'it returns false'. Refute it at one input. -/
def fnLevelsBaseWrong : ChangeSpec := { name := "fnLevelsBase", fn := fun _ => fun
  | [d] => { results := [.lit (.bool false)], args := [d] }
  | _ => none }
def FnLevelsBaseWrongFalsely : Prop := fnLevelsBaseRow.holds Try.pinned (OpenSpec.ofChange fnLevelsBaseWrong)

/-- 'laws.FnShowPlain': WHATEVER THE INPUT: true; the input reads as it did. -/
def fnShowPlainSpec : ChangeSpec := { name := "fnShowPlain", fn := fun _ => fun
  | [d] => { results := [.lit (.bool true)], args := [d] }
  | _ => none }
def fnShowPlainRow : OpenClaim := { program := "ytonkminebememaa", sum := "9d9d050954483a0f8e7cc1eea10a254f3eefe9f4955a8990f80dd04c231f7579", func := "loop.example/typesetting/laws.FnShowPlain", spec := "fnShowPlain", inPlace := ["internal/abi.NoEscape"], apart := false }
def FnShowPlainSaid : Prop := fnShowPlainRow.holds Try.pinned (OpenSpec.ofChange fnShowPlainSpec)

/-- ITS FALSE NEIGHBOUR: 'it returns false'. Refute it at one input. -/
def fnShowPlainWrong : ChangeSpec := { name := "fnShowPlain", fn := fun _ => fun
  | [d] => { results := [.lit (.bool false)], args := [d] }
  | _ => none }
def FnShowPlainWrongFalsely : Prop := fnShowPlainRow.holds Try.pinned (OpenSpec.ofChange fnShowPlainWrong)

/-- 'laws.FnShowText': WHATEVER THE INPUT: true; the input reads as it did. -/
def fnShowTextSpec : ChangeSpec := { name := "fnShowText", fn := fun _ => fun
  | [d] => { results := [.lit (.bool true)], args := [d] }
  | _ => none }
def fnShowTextRow : OpenClaim := { program := "ytonkminebememaa", sum := "9d9d050954483a0f8e7cc1eea10a254f3eefe9f4955a8990f80dd04c231f7579", func := "loop.example/typesetting/laws.FnShowText", spec := "fnShowText", inPlace := ["internal/abi.NoEscape"], apart := false }
def FnShowTextSaid : Prop := fnShowTextRow.holds Try.pinned (OpenSpec.ofChange fnShowTextSpec)

/-- ITS FALSE NEIGHBOUR: 'it returns false'. Refute it at one input. -/
def fnShowTextWrong : ChangeSpec := { name := "fnShowText", fn := fun _ => fun
  | [d] => { results := [.lit (.bool false)], args := [d] }
  | _ => none }
def FnShowTextWrongFalsely : Prop := fnShowTextRow.holds Try.pinned (OpenSpec.ofChange fnShowTextWrong)

/- THE SECOND FORM. 'bulk': how many values and letters a reading holds, each counted each time it is reached (what is shared counts as often as it is met; a slice's spare places count too). A statement '..UptoSaid' is the law's where the arguments, and the package variables that the reading takes, are together of bulk at most 1048576: NARROWER than '..Said'. Prove '..Said' where nothing that the law and all that it calls make is longer than what came in: it says more and counts as full. Else prove '..UptoSaid'. A law counts once. -/
mutual
def uptoBulk {H : Type} : DataW H → Nat
  | .lit (.string bytes) => bytes.length + 1
  | .lit _ => 1
  | .nil => 1
  | .ptr d => uptoBulk d + 1
  | .slice elems spare => uptoBulkAll elems + uptoBulkAll spare + 1
  | .agg parts => uptoBulkAll parts + 1
  | .iface _ d => uptoBulk d + 1
  | .map entries => uptoBulkEntries entries + 1
  | .held _ => 1
def uptoBulkAll {H : Type} : List (DataW H) → Nat
  | [] => 0
  | d :: r => uptoBulk d + uptoBulkAll r
def uptoBulkEntries {H : Type} : List (Lit × DataW H) → Nat
  | [] => 0
  | x :: r => uptoBulkEntry x + uptoBulkEntries r
def uptoBulkEntry {H : Type} : Lit × DataW H → Nat
  | (.string bytes, d) => bytes.length + uptoBulk d + 1
  | (_, d) => uptoBulk d + 1
 end
def uptoSmall : (H : Type) → List (DataW H) → Bool := fun _ ds => decide (uptoBulkAll ds ≤ 1048576)
def OpenSpec.upto (s : _root_.Go.ChangeSpec) : _root_.Go.OpenSpec := { _root_.Go.OpenSpec.ofChange s with cond := some uptoSmall }

/-- 'laws.FnLevelsDigits', WHERE WHAT IT READS IS OF BULK AT MOST 1048576: true; the input reads as it did. -/
def fnLevelsDigitsUptoRow : OpenClaim := { program := "ytonkminebememaa", sum := "9d9d050954483a0f8e7cc1eea10a254f3eefe9f4955a8990f80dd04c231f7579", func := "loop.example/typesetting/laws.FnLevelsDigits", spec := "fnLevelsDigits", apart := false, narrowed := true }
def FnLevelsDigitsUptoSaid : Prop := fnLevelsDigitsUptoRow.holds Try.pinned (OpenSpec.upto fnLevelsDigitsSpec)

/-- 'laws.FnLevelsOf', WHERE WHAT IT READS IS OF BULK AT MOST 1048576: true; the input reads as it did. -/
def fnLevelsOfUptoRow : OpenClaim := { program := "ytonkminebememaa", sum := "9d9d050954483a0f8e7cc1eea10a254f3eefe9f4955a8990f80dd04c231f7579", func := "loop.example/typesetting/laws.FnLevelsOf", spec := "fnLevelsOf", apart := false, narrowed := true }
def FnLevelsOfUptoSaid : Prop := fnLevelsOfUptoRow.holds Try.pinned (OpenSpec.upto fnLevelsOfSpec)

/-- 'laws.FnExactShowText', WHERE WHAT IT READS IS OF BULK AT MOST 1048576: true; the input reads as it did. -/
def fnExactShowTextUptoRow : OpenClaim := { program := "ytonkminebememaa", sum := "9d9d050954483a0f8e7cc1eea10a254f3eefe9f4955a8990f80dd04c231f7579", func := "loop.example/typesetting/laws.FnExactShowText", spec := "fnExactShowText", inPlace := ["internal/abi.NoEscape"], apart := false, narrowed := true }
def FnExactShowTextUptoSaid : Prop := fnExactShowTextUptoRow.holds Try.pinned (OpenSpec.upto fnExactShowTextSpec)

/-- 'laws.FnLevelsBase', WHERE WHAT IT READS IS OF BULK AT MOST 1048576: true; the input reads as it did. -/
def fnLevelsBaseUptoRow : OpenClaim := { program := "ytonkminebememaa", sum := "9d9d050954483a0f8e7cc1eea10a254f3eefe9f4955a8990f80dd04c231f7579", func := "loop.example/typesetting/laws.FnLevelsBase", spec := "fnLevelsBase", inPlace := ["internal/abi.NoEscape"], apart := false, narrowed := true }
def FnLevelsBaseUptoSaid : Prop := fnLevelsBaseUptoRow.holds Try.pinned (OpenSpec.upto fnLevelsBaseSpec)

/-- 'laws.FnShowPlain', WHERE WHAT IT READS IS OF BULK AT MOST 1048576: true; the input reads as it did. -/
def fnShowPlainUptoRow : OpenClaim := { program := "ytonkminebememaa", sum := "9d9d050954483a0f8e7cc1eea10a254f3eefe9f4955a8990f80dd04c231f7579", func := "loop.example/typesetting/laws.FnShowPlain", spec := "fnShowPlain", inPlace := ["internal/abi.NoEscape"], apart := false, narrowed := true }
def FnShowPlainUptoSaid : Prop := fnShowPlainUptoRow.holds Try.pinned (OpenSpec.upto fnShowPlainSpec)

/-- 'laws.FnShowText', WHERE WHAT IT READS IS OF BULK AT MOST 1048576: true; the input reads as it did. -/
def fnShowTextUptoRow : OpenClaim := { program := "ytonkminebememaa", sum := "9d9d050954483a0f8e7cc1eea10a254f3eefe9f4955a8990f80dd04c231f7579", func := "loop.example/typesetting/laws.FnShowText", spec := "fnShowText", inPlace := ["internal/abi.NoEscape"], apart := false, narrowed := true }
def FnShowTextUptoSaid : Prop := fnShowTextUptoRow.holds Try.pinned (OpenSpec.upto fnShowTextSpec)

end Rows
end Go.Proofs.Ytonkminebememaa
