/-
  DERIVED. GIVEN WITH THE SEED: THE CARDS: each row of YtmljofijeladoaaGreatDoorRows.lean that lists a variable, with what it lists TIED to the program's text (the seventh form; the later family's looks); each row that meets fmt, with fmt's text TOLD by the authors' own Lean function (tested against real Go, not proved from fmt's source: count such statements apart). THE CARD IS WHAT COUNTS. Prove the row's statement (the work); the ties are given (YtmljofijeladoaaGreatDoorTie.lean); close each card by the builder's one call (the guide's Derived/Test/ToyasCard.lean, 'card_holds'). Laid BY PROGRAM, IN A SANDBOX (cutbox-door.mjs). By AI agents, Wed Nov 11 2026. No macro, syntax, notation, axiom, sorry.
-/
import Derived.Test.YtmljofijeladoaaGreatDoorRows
import GoSem.ClaimSeven
namespace Go.Proofs.YtmljofijeladoaaGreatDoor
namespace Rows

/-- THE TIED CARD OF 'laws.FnSessionEmpty'. -/
def fnSessionEmptyCard : Claim7 := { stood := { row := fnSessionEmptyRow, standIns := [], harness := (true, "59eb6525b1a046f1706ee937a5d328aac47f42cedbbea55c22f85cc88a0bb9dd"), looks := true }, kinds := [], alts := [], laidByText := true, laidKinds := [.data, .data, .data, .data, .sentinel, .sentinel, .pinned], laidTests := true, laidLooks := .later }
def FnSessionEmptyCardSaid : Prop := Claim7.holds Tryz.pinned (.plain (OpenSpec.ofChange fnSessionEmptySpec)) fnSessionEmptyCard

/-- THE TIED CARD OF 'laws.FnSessionPrefix'. -/
def fnSessionPrefixCard : Claim7 := { stood := { row := fnSessionPrefixRow, standIns := [], harness := (true, "59eb6525b1a046f1706ee937a5d328aac47f42cedbbea55c22f85cc88a0bb9dd"), looks := true }, kinds := [], alts := [], laidByText := true, laidKinds := [.data, .data, .data, .data, .sentinel, .sentinel, .pinned], laidTests := true, laidLooks := .later }
def FnSessionPrefixCardSaid : Prop := Claim7.holds Tryz.pinned (.plain (OpenSpec.ofChange fnSessionPrefixSpec)) fnSessionPrefixCard

/-- THE TIED CARD OF 'laws.FnSessionWidth'. -/
def fnSessionWidthCard : Claim7 := { stood := { row := fnSessionWidthRow, standIns := [], harness := (true, "59eb6525b1a046f1706ee937a5d328aac47f42cedbbea55c22f85cc88a0bb9dd"), looks := true }, kinds := [], alts := [], laidByText := true, laidKinds := [.data, .data, .data, .data, .sentinel, .sentinel, .pinned], laidTests := true, laidLooks := .later }
def FnSessionWidthCardSaid : Prop := Claim7.holds Tryz.pinned (.plain (OpenSpec.ofChange fnSessionWidthSpec)) fnSessionWidthCard

/-- THE SECOND FORM's CARD OF 'laws.FnSessionEmpty'. -/
def fnSessionEmptyUptoCard : Claim7 := { stood := { row := fnSessionEmptyUptoRow, standIns := [], harness := (true, "59eb6525b1a046f1706ee937a5d328aac47f42cedbbea55c22f85cc88a0bb9dd"), looks := true }, kinds := [], alts := [], laidByText := true, laidKinds := [.data, .data, .data, .data, .sentinel, .sentinel, .pinned], laidTests := true, laidLooks := .later }
def FnSessionEmptyUptoCardSaid : Prop := Claim7.holds Tryz.pinned (.plain (OpenSpec.upto fnSessionEmptySpec)) fnSessionEmptyUptoCard

/-- THE SECOND FORM's CARD OF 'laws.FnSessionPrefix'. -/
def fnSessionPrefixUptoCard : Claim7 := { stood := { row := fnSessionPrefixUptoRow, standIns := [], harness := (true, "59eb6525b1a046f1706ee937a5d328aac47f42cedbbea55c22f85cc88a0bb9dd"), looks := true }, kinds := [], alts := [], laidByText := true, laidKinds := [.data, .data, .data, .data, .sentinel, .sentinel, .pinned], laidTests := true, laidLooks := .later }
def FnSessionPrefixUptoCardSaid : Prop := Claim7.holds Tryz.pinned (.plain (OpenSpec.upto fnSessionPrefixSpec)) fnSessionPrefixUptoCard

/-- THE SECOND FORM's CARD OF 'laws.FnSessionWidth'. -/
def fnSessionWidthUptoCard : Claim7 := { stood := { row := fnSessionWidthUptoRow, standIns := [], harness := (true, "59eb6525b1a046f1706ee937a5d328aac47f42cedbbea55c22f85cc88a0bb9dd"), looks := true }, kinds := [], alts := [], laidByText := true, laidKinds := [.data, .data, .data, .data, .sentinel, .sentinel, .pinned], laidTests := true, laidLooks := .later }
def FnSessionWidthUptoCardSaid : Prop := Claim7.holds Tryz.pinned (.plain (OpenSpec.upto fnSessionWidthSpec)) fnSessionWidthUptoCard
end Rows
end Go.Proofs.YtmljofijeladoaaGreatDoor
