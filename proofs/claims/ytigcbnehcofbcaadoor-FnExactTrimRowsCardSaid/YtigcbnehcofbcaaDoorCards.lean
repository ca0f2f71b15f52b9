/-
  DERIVED. GIVEN WITH THE SEED: THE CARDS: each row of YtigcbnehcofbcaaDoorRows.lean that lists a variable, with what it lists TIED to the program's text (the seventh form; the later family's looks); each row that meets fmt, with fmt's text TOLD by the authors' own Lean function (tested against real Go, not proved from fmt's source: count such statements apart). THE CARD IS WHAT COUNTS. Prove the row's statement (the work); the ties are given (YtigcbnehcofbcaaDoorTie.lean); close each card by the builder's one call (the guide's Derived/Test/ToyasCard.lean, 'card_holds'). Laid BY PROGRAM, IN A SANDBOX (cutbox-door.mjs). By AI agents, Wed Nov 11 2026. No macro, syntax, notation, axiom, sorry.
-/
import Derived.Test.YtigcbnehcofbcaaDoorRows
import GoSem.ClaimSeven
namespace Go.Proofs.YtigcbnehcofbcaaDoor
namespace Rows

/-- THE TIED CARD OF 'laws.FnTrimRows'. -/
def fnTrimRowsCard : Claim7 := { stood := { row := fnTrimRowsRow, standIns := [], harness := (true, "3c5f158ba59e9704b03367f97e5e050423b7458a1f092bbf2a576367a5dc53d8"), looks := false }, kinds := [], alts := [], laidByText := true, laidKinds := [.data, .pinned], laidTests := true, laidLooks := .later }
def FnTrimRowsCardSaid : Prop := Claim7.holds Tryd.pinned (.plain (OpenSpec.ofChange fnTrimRowsSpec)) fnTrimRowsCard

/-- THE TIED CARD OF 'laws.FnExactTrimRows'. -/
def fnExactTrimRowsCard : Claim7 := { stood := { row := fnExactTrimRowsRow, standIns := [], harness := (true, "3c5f158ba59e9704b03367f97e5e050423b7458a1f092bbf2a576367a5dc53d8"), looks := false }, kinds := [], alts := [], laidByText := true, laidKinds := [.data, .pinned], laidTests := true, laidLooks := .later }
def FnExactTrimRowsCardSaid : Prop := Claim7.holds Tryd.pinned (.plain (OpenSpec.ofChange fnExactTrimRowsSpec)) fnExactTrimRowsCard

/-- THE TIED CARD OF 'laws.FnDraw'. -/
def fnDrawCard : Claim7 := { stood := { row := fnDrawRow, standIns := [], harness := (true, "3c5f158ba59e9704b03367f97e5e050423b7458a1f092bbf2a576367a5dc53d8"), looks := false }, kinds := [], alts := [], laidByText := true, laidKinds := [.data, .pinned], laidTests := true, laidLooks := .later }
def FnDrawCardSaid : Prop := Claim7.holds Tryd.pinned (.plain (OpenSpec.ofChange fnDrawSpec)) fnDrawCard

/-- THE TIED CARD OF 'laws.FnTrimDraw'. -/
def fnTrimDrawCard : Claim7 := { stood := { row := fnTrimDrawRow, standIns := [], harness := (true, "3c5f158ba59e9704b03367f97e5e050423b7458a1f092bbf2a576367a5dc53d8"), looks := false }, kinds := [], alts := [], laidByText := true, laidKinds := [.data, .pinned], laidTests := true, laidLooks := .later }
def FnTrimDrawCardSaid : Prop := Claim7.holds Tryd.pinned (.plain (OpenSpec.ofChange fnTrimDrawSpec)) fnTrimDrawCard

/-- THE SECOND FORM's CARD OF 'laws.FnTrimRows'. -/
def fnTrimRowsUptoCard : Claim7 := { stood := { row := fnTrimRowsUptoRow, standIns := [], harness := (true, "3c5f158ba59e9704b03367f97e5e050423b7458a1f092bbf2a576367a5dc53d8"), looks := false }, kinds := [], alts := [], laidByText := true, laidKinds := [.data, .pinned], laidTests := true, laidLooks := .later }
def FnTrimRowsUptoCardSaid : Prop := Claim7.holds Tryd.pinned (.plain (OpenSpec.upto fnTrimRowsSpec)) fnTrimRowsUptoCard

/-- THE SECOND FORM's CARD OF 'laws.FnExactTrimRows'. -/
def fnExactTrimRowsUptoCard : Claim7 := { stood := { row := fnExactTrimRowsUptoRow, standIns := [], harness := (true, "3c5f158ba59e9704b03367f97e5e050423b7458a1f092bbf2a576367a5dc53d8"), looks := false }, kinds := [], alts := [], laidByText := true, laidKinds := [.data, .pinned], laidTests := true, laidLooks := .later }
def FnExactTrimRowsUptoCardSaid : Prop := Claim7.holds Tryd.pinned (.plain (OpenSpec.upto fnExactTrimRowsSpec)) fnExactTrimRowsUptoCard

/-- THE SECOND FORM's CARD OF 'laws.FnDraw'. -/
def fnDrawUptoCard : Claim7 := { stood := { row := fnDrawUptoRow, standIns := [], harness := (true, "3c5f158ba59e9704b03367f97e5e050423b7458a1f092bbf2a576367a5dc53d8"), looks := false }, kinds := [], alts := [], laidByText := true, laidKinds := [.data, .pinned], laidTests := true, laidLooks := .later }
def FnDrawUptoCardSaid : Prop := Claim7.holds Tryd.pinned (.plain (OpenSpec.upto fnDrawSpec)) fnDrawUptoCard

/-- THE SECOND FORM's CARD OF 'laws.FnTrimDraw'. -/
def fnTrimDrawUptoCard : Claim7 := { stood := { row := fnTrimDrawUptoRow, standIns := [], harness := (true, "3c5f158ba59e9704b03367f97e5e050423b7458a1f092bbf2a576367a5dc53d8"), looks := false }, kinds := [], alts := [], laidByText := true, laidKinds := [.data, .pinned], laidTests := true, laidLooks := .later }
def FnTrimDrawUptoCardSaid : Prop := Claim7.holds Tryd.pinned (.plain (OpenSpec.upto fnTrimDrawSpec)) fnTrimDrawUptoCard
end Rows
end Go.Proofs.YtigcbnehcofbcaaDoor
