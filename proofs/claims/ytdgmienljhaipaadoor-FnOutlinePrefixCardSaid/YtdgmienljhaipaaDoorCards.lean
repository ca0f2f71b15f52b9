/-
  DERIVED. GIVEN WITH THE SEED: THE CARDS: each row of YtdgmienljhaipaaDoorRows.lean that lists a variable, with what it lists TIED to the program's text (the seventh form; the later family's looks); each row that meets fmt, with fmt's text TOLD by the authors' own Lean function (tested against real Go, not proved from fmt's source: count such statements apart). THE CARD IS WHAT COUNTS. Prove the row's statement (the work); the ties are given (YtdgmienljhaipaaDoorTie.lean); close each card by the builder's one call (the guide's Derived/Test/ToyasCard.lean, 'card_holds'). Laid BY PROGRAM, IN A SANDBOX (cutbox-door.mjs). By AI agents, Wed Nov 11 2026. No macro, syntax, notation, axiom, sorry.
-/
import Derived.Test.YtdgmienljhaipaaDoorRows
import GoSem.ClaimSeven
namespace Go.Proofs.YtdgmienljhaipaaDoor
namespace Rows

/-- THE TIED CARD OF 'laws.FnOutlinePrefix'. -/
def fnOutlinePrefixCard : Claim7 := { stood := { row := fnOutlinePrefixRow, standIns := [], harness := (true, "a65268f1b713a452dde584c5a9e0e1cf5a8e00135cdfb45b2b1e10ddeb85042b"), looks := false }, kinds := [], alts := [], laidByText := true, laidKinds := [.data, .data, .data], laidTests := true, laidLooks := .later }
def FnOutlinePrefixCardSaid : Prop := Claim7.holds Tryd.pinned (.plain (OpenSpec.ofChange fnOutlinePrefixSpec)) fnOutlinePrefixCard

/-- THE TIED CARD OF 'laws.FnParentOf'. -/
def fnParentOfCard : Claim7 := { stood := { row := fnParentOfRow, standIns := [], harness := (true, "a65268f1b713a452dde584c5a9e0e1cf5a8e00135cdfb45b2b1e10ddeb85042b"), looks := false }, kinds := [], alts := [], laidByText := true, laidKinds := [.data, .data, .data], laidTests := true, laidLooks := .later }
def FnParentOfCardSaid : Prop := Claim7.holds Tryd.pinned (.plain (OpenSpec.ofChange fnParentOfSpec)) fnParentOfCard

/-- THE TIED CARD OF 'laws.FnNumberHeadings'. -/
def fnNumberHeadingsCard : Claim7 := { stood := { row := fnNumberHeadingsRow, standIns := [], harness := (true, "a65268f1b713a452dde584c5a9e0e1cf5a8e00135cdfb45b2b1e10ddeb85042b"), looks := false }, kinds := [], alts := [], laidByText := true, laidKinds := [.data, .data, .data], laidTests := true, laidLooks := .later }
def FnNumberHeadingsCardSaid : Prop := Claim7.holds Tryd.pinned (.plain (OpenSpec.ofChange fnNumberHeadingsSpec)) fnNumberHeadingsCard

/-- THE TIED CARD OF 'laws.FnExactNumberHeadings'. -/
def fnExactNumberHeadingsCard : Claim7 := { stood := { row := fnExactNumberHeadingsRow, standIns := [], harness := (true, "a65268f1b713a452dde584c5a9e0e1cf5a8e00135cdfb45b2b1e10ddeb85042b"), looks := false }, kinds := [], alts := [], laidByText := true, laidKinds := [.data, .data, .data], laidTests := true, laidLooks := .later }
def FnExactNumberHeadingsCardSaid : Prop := Claim7.holds Tryd.pinned (.plain (OpenSpec.ofChange fnExactNumberHeadingsSpec)) fnExactNumberHeadingsCard

/-- THE TIED CARD OF 'laws.FnOutlineFlat'. -/
def fnOutlineFlatCard : Claim7 := { stood := { row := fnOutlineFlatRow, standIns := [], harness := (true, "a65268f1b713a452dde584c5a9e0e1cf5a8e00135cdfb45b2b1e10ddeb85042b"), looks := false }, kinds := [], alts := [], laidByText := true, laidKinds := [.data, .data, .data, .data], laidTests := true, laidLooks := .later }
def FnOutlineFlatCardSaid : Prop := Claim7.holds Tryd.pinned (.plain (OpenSpec.ofChange fnOutlineFlatSpec)) fnOutlineFlatCard

/-- THE SECOND FORM's CARD OF 'laws.FnOutlinePrefix'. -/
def fnOutlinePrefixUptoCard : Claim7 := { stood := { row := fnOutlinePrefixUptoRow, standIns := [], harness := (true, "a65268f1b713a452dde584c5a9e0e1cf5a8e00135cdfb45b2b1e10ddeb85042b"), looks := false }, kinds := [], alts := [], laidByText := true, laidKinds := [.data, .data, .data], laidTests := true, laidLooks := .later }
def FnOutlinePrefixUptoCardSaid : Prop := Claim7.holds Tryd.pinned (.plain (OpenSpec.upto fnOutlinePrefixSpec)) fnOutlinePrefixUptoCard

/-- THE SECOND FORM's CARD OF 'laws.FnParentOf'. -/
def fnParentOfUptoCard : Claim7 := { stood := { row := fnParentOfUptoRow, standIns := [], harness := (true, "a65268f1b713a452dde584c5a9e0e1cf5a8e00135cdfb45b2b1e10ddeb85042b"), looks := false }, kinds := [], alts := [], laidByText := true, laidKinds := [.data, .data, .data], laidTests := true, laidLooks := .later }
def FnParentOfUptoCardSaid : Prop := Claim7.holds Tryd.pinned (.plain (OpenSpec.upto fnParentOfSpec)) fnParentOfUptoCard

/-- THE SECOND FORM's CARD OF 'laws.FnNumberHeadings'. -/
def fnNumberHeadingsUptoCard : Claim7 := { stood := { row := fnNumberHeadingsUptoRow, standIns := [], harness := (true, "a65268f1b713a452dde584c5a9e0e1cf5a8e00135cdfb45b2b1e10ddeb85042b"), looks := false }, kinds := [], alts := [], laidByText := true, laidKinds := [.data, .data, .data], laidTests := true, laidLooks := .later }
def FnNumberHeadingsUptoCardSaid : Prop := Claim7.holds Tryd.pinned (.plain (OpenSpec.upto fnNumberHeadingsSpec)) fnNumberHeadingsUptoCard

/-- THE SECOND FORM's CARD OF 'laws.FnExactNumberHeadings'. -/
def fnExactNumberHeadingsUptoCard : Claim7 := { stood := { row := fnExactNumberHeadingsUptoRow, standIns := [], harness := (true, "a65268f1b713a452dde584c5a9e0e1cf5a8e00135cdfb45b2b1e10ddeb85042b"), looks := false }, kinds := [], alts := [], laidByText := true, laidKinds := [.data, .data, .data], laidTests := true, laidLooks := .later }
def FnExactNumberHeadingsUptoCardSaid : Prop := Claim7.holds Tryd.pinned (.plain (OpenSpec.upto fnExactNumberHeadingsSpec)) fnExactNumberHeadingsUptoCard

/-- THE SECOND FORM's CARD OF 'laws.FnOutlineFlat'. -/
def fnOutlineFlatUptoCard : Claim7 := { stood := { row := fnOutlineFlatUptoRow, standIns := [], harness := (true, "a65268f1b713a452dde584c5a9e0e1cf5a8e00135cdfb45b2b1e10ddeb85042b"), looks := false }, kinds := [], alts := [], laidByText := true, laidKinds := [.data, .data, .data, .data], laidTests := true, laidLooks := .later }
def FnOutlineFlatUptoCardSaid : Prop := Claim7.holds Tryd.pinned (.plain (OpenSpec.upto fnOutlineFlatSpec)) fnOutlineFlatUptoCard
end Rows
end Go.Proofs.YtdgmienljhaipaaDoor
