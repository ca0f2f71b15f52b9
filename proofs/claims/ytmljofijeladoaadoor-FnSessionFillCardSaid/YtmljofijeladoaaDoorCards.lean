/-
  DERIVED. GIVEN WITH THE SEED: THE CARDS: each row of YtmljofijeladoaaDoorRows.lean that lists a variable, with what it lists TIED to the program's text (the seventh form; the later family's looks); each row that meets fmt, with fmt's text TOLD by the authors' own Lean function (tested against real Go, not proved from fmt's source: count such statements apart). THE CARD IS WHAT COUNTS. Prove the row's statement (the work); the ties are given (YtmljofijeladoaaDoorTie.lean); close each card by the builder's one call (the guide's Derived/Test/ToyasCard.lean, 'card_holds'). Laid BY PROGRAM, IN A SANDBOX (cutbox-door.mjs). By AI agents, Wed Nov 11 2026. No macro, syntax, notation, axiom, sorry.
-/
import Derived.Test.YtmljofijeladoaaDoorRows
import GoSem.ClaimSeven
namespace Go.Proofs.YtmljofijeladoaaDoor
namespace Rows

/-- THE TIED CARD OF 'laws.FnSessionFill'. -/
def fnSessionFillCard : Claim7 := { stood := { row := fnSessionFillRow, standIns := [], harness := (true, "e7266e21682b7681c60c4d8d0b6d37fe53456c402ef128a160ca494b313db910"), looks := true }, kinds := [], alts := [], laidByText := true, laidKinds := [.data, .data, .data, .data, .sentinel, .sentinel, .pinned], laidTests := true, laidLooks := .later }
def FnSessionFillCardSaid : Prop := Claim7.holds Tryd.pinned (.plain (OpenSpec.ofChange fnSessionFillSpec)) fnSessionFillCard

/-- THE TIED CARD OF 'laws.FnExactRunSession'. -/
def fnExactRunSessionCard : Claim7 := { stood := { row := fnExactRunSessionRow, standIns := [], harness := (true, "e7266e21682b7681c60c4d8d0b6d37fe53456c402ef128a160ca494b313db910"), looks := true }, kinds := [], alts := [], laidByText := true, laidKinds := [.data, .data, .data, .data, .sentinel, .sentinel, .pinned], laidTests := true, laidLooks := .later }
def FnExactRunSessionCardSaid : Prop := Claim7.holds Tryd.pinned (.plain (OpenSpec.ofChange fnExactRunSessionSpec)) fnExactRunSessionCard

/-- THE SECOND FORM's CARD OF 'laws.FnSessionFill'. -/
def fnSessionFillUptoCard : Claim7 := { stood := { row := fnSessionFillUptoRow, standIns := [], harness := (true, "e7266e21682b7681c60c4d8d0b6d37fe53456c402ef128a160ca494b313db910"), looks := true }, kinds := [], alts := [], laidByText := true, laidKinds := [.data, .data, .data, .data, .sentinel, .sentinel, .pinned], laidTests := true, laidLooks := .later }
def FnSessionFillUptoCardSaid : Prop := Claim7.holds Tryd.pinned (.plain (OpenSpec.upto fnSessionFillSpec)) fnSessionFillUptoCard

/-- THE SECOND FORM's CARD OF 'laws.FnExactRunSession'. -/
def fnExactRunSessionUptoCard : Claim7 := { stood := { row := fnExactRunSessionUptoRow, standIns := [], harness := (true, "e7266e21682b7681c60c4d8d0b6d37fe53456c402ef128a160ca494b313db910"), looks := true }, kinds := [], alts := [], laidByText := true, laidKinds := [.data, .data, .data, .data, .sentinel, .sentinel, .pinned], laidTests := true, laidLooks := .later }
def FnExactRunSessionUptoCardSaid : Prop := Claim7.holds Tryd.pinned (.plain (OpenSpec.upto fnExactRunSessionSpec)) fnExactRunSessionUptoCard
end Rows
end Go.Proofs.YtmljofijeladoaaDoor
