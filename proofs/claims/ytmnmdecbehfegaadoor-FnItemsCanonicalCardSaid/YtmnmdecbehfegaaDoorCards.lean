/-
  DERIVED. GIVEN WITH THE SEED: THE CARDS: each row of YtmnmdecbehfegaaDoorRows.lean that lists a variable, with what it lists TIED to the program's text (the seventh form; the later family's looks); each row that meets fmt, with fmt's text TOLD by the authors' own Lean function (tested against real Go, not proved from fmt's source: count such statements apart). THE CARD IS WHAT COUNTS. Prove the row's statement (the work); the ties are given (YtmnmdecbehfegaaDoorTie.lean); close each card by the builder's one call (the guide's Derived/Test/ToyasCard.lean, 'card_holds'). Laid BY PROGRAM, IN A SANDBOX (cutbox-door.mjs). By AI agents, Wed Nov 11 2026. No macro, syntax, notation, axiom, sorry.
-/
import Derived.Test.YtmnmdecbehfegaaDoorRows
import GoSem.ClaimSeven
namespace Go.Proofs.YtmnmdecbehfegaaDoor
namespace Rows

/-- THE TIED CARD OF 'laws.FnExactEncodeItem'. -/
def fnExactEncodeItemCard : Claim7 := { stood := { row := fnExactEncodeItemRow, standIns := [], harness := (true, "dc2ddd9a44838376fcd256b01cd2f64075be1bba26f871f63c013780fa53aff9"), looks := true }, kinds := [], alts := [], laidByText := true, laidKinds := [.data, .data, .data], laidTests := true, laidLooks := .later }
def FnExactEncodeItemCardSaid : Prop := Claim7.holds Tryd.pinned (.plain (OpenSpec.ofChange fnExactEncodeItemSpec)) fnExactEncodeItemCard

/-- THE TIED CARD OF 'laws.FnExactEncodeItems'. -/
def fnExactEncodeItemsCard : Claim7 := { stood := { row := fnExactEncodeItemsRow, standIns := [], harness := (true, "dc2ddd9a44838376fcd256b01cd2f64075be1bba26f871f63c013780fa53aff9"), looks := true }, kinds := [], alts := [], laidByText := true, laidKinds := [.data, .data, .data], laidTests := true, laidLooks := .later }
def FnExactEncodeItemsCardSaid : Prop := Claim7.holds Tryd.pinned (.plain (OpenSpec.ofChange fnExactEncodeItemsSpec)) fnExactEncodeItemsCard

/-- THE TIED CARD OF 'laws.FnItemRoundTrip'. -/
def fnItemRoundTripCard : Claim7 := { stood := { row := fnItemRoundTripRow, standIns := [], harness := (true, "dc2ddd9a44838376fcd256b01cd2f64075be1bba26f871f63c013780fa53aff9"), looks := true }, kinds := [], alts := [], laidByText := true, laidKinds := [.data, .data, .data, .data, .sentinel, .sentinel, .pinned], laidTests := true, laidLooks := .later }
def FnItemRoundTripCardSaid : Prop := Claim7.holds Tryd.pinned (.plain (OpenSpec.ofChange fnItemRoundTripSpec)) fnItemRoundTripCard

/-- THE TIED CARD OF 'laws.FnExactDecodeItem'. -/
def fnExactDecodeItemCard : Claim7 := { stood := { row := fnExactDecodeItemRow, standIns := [], harness := (true, "dc2ddd9a44838376fcd256b01cd2f64075be1bba26f871f63c013780fa53aff9"), looks := true }, kinds := [], alts := [], laidByText := true, laidKinds := [.data, .data, .data, .data, .sentinel, .sentinel, .pinned], laidTests := true, laidLooks := .later }
def FnExactDecodeItemCardSaid : Prop := Claim7.holds Tryd.pinned (.plain (OpenSpec.ofChange fnExactDecodeItemSpec)) fnExactDecodeItemCard

/-- THE TIED CARD OF 'laws.FnItemCanonical'. -/
def fnItemCanonicalCard : Claim7 := { stood := { row := fnItemCanonicalRow, standIns := [], harness := (true, "dc2ddd9a44838376fcd256b01cd2f64075be1bba26f871f63c013780fa53aff9"), looks := true }, kinds := [], alts := [], laidByText := true, laidKinds := [.data, .data, .data, .data, .sentinel, .sentinel, .pinned], laidTests := true, laidLooks := .later }
def FnItemCanonicalCardSaid : Prop := Claim7.holds Tryd.pinned (.plain (OpenSpec.ofChange fnItemCanonicalSpec)) fnItemCanonicalCard

/-- THE TIED CARD OF 'laws.FnExactDecodeItems'. -/
def fnExactDecodeItemsCard : Claim7 := { stood := { row := fnExactDecodeItemsRow, standIns := [], harness := (true, "dc2ddd9a44838376fcd256b01cd2f64075be1bba26f871f63c013780fa53aff9"), looks := true }, kinds := [], alts := [], laidByText := true, laidKinds := [.data, .data, .data, .data, .sentinel, .sentinel, .pinned], laidTests := true, laidLooks := .later }
def FnExactDecodeItemsCardSaid : Prop := Claim7.holds Tryd.pinned (.plain (OpenSpec.ofChange fnExactDecodeItemsSpec)) fnExactDecodeItemsCard

/-- THE TIED CARD OF 'laws.FnItemsRoundTrip'. -/
def fnItemsRoundTripCard : Claim7 := { stood := { row := fnItemsRoundTripRow, standIns := [], harness := (true, "dc2ddd9a44838376fcd256b01cd2f64075be1bba26f871f63c013780fa53aff9"), looks := true }, kinds := [], alts := [], laidByText := true, laidKinds := [.data, .data, .data, .data, .sentinel, .sentinel, .pinned], laidTests := true, laidLooks := .later }
def FnItemsRoundTripCardSaid : Prop := Claim7.holds Tryd.pinned (.plain (OpenSpec.ofChange fnItemsRoundTripSpec)) fnItemsRoundTripCard

/-- THE TIED CARD OF 'laws.FnItemsCanonical'. -/
def fnItemsCanonicalCard : Claim7 := { stood := { row := fnItemsCanonicalRow, standIns := [], harness := (true, "dc2ddd9a44838376fcd256b01cd2f64075be1bba26f871f63c013780fa53aff9"), looks := true }, kinds := [], alts := [], laidByText := true, laidKinds := [.data, .data, .data, .data, .sentinel, .sentinel, .pinned], laidTests := true, laidLooks := .later }
def FnItemsCanonicalCardSaid : Prop := Claim7.holds Tryd.pinned (.plain (OpenSpec.ofChange fnItemsCanonicalSpec)) fnItemsCanonicalCard

/-- THE SECOND FORM's CARD OF 'laws.FnExactEncodeItem'. -/
def fnExactEncodeItemUptoCard : Claim7 := { stood := { row := fnExactEncodeItemUptoRow, standIns := [], harness := (true, "dc2ddd9a44838376fcd256b01cd2f64075be1bba26f871f63c013780fa53aff9"), looks := true }, kinds := [], alts := [], laidByText := true, laidKinds := [.data, .data, .data], laidTests := true, laidLooks := .later }
def FnExactEncodeItemUptoCardSaid : Prop := Claim7.holds Tryd.pinned (.plain (OpenSpec.upto fnExactEncodeItemSpec)) fnExactEncodeItemUptoCard

/-- THE SECOND FORM's CARD OF 'laws.FnExactEncodeItems'. -/
def fnExactEncodeItemsUptoCard : Claim7 := { stood := { row := fnExactEncodeItemsUptoRow, standIns := [], harness := (true, "dc2ddd9a44838376fcd256b01cd2f64075be1bba26f871f63c013780fa53aff9"), looks := true }, kinds := [], alts := [], laidByText := true, laidKinds := [.data, .data, .data], laidTests := true, laidLooks := .later }
def FnExactEncodeItemsUptoCardSaid : Prop := Claim7.holds Tryd.pinned (.plain (OpenSpec.upto fnExactEncodeItemsSpec)) fnExactEncodeItemsUptoCard

/-- THE SECOND FORM's CARD OF 'laws.FnItemRoundTrip'. -/
def fnItemRoundTripUptoCard : Claim7 := { stood := { row := fnItemRoundTripUptoRow, standIns := [], harness := (true, "dc2ddd9a44838376fcd256b01cd2f64075be1bba26f871f63c013780fa53aff9"), looks := true }, kinds := [], alts := [], laidByText := true, laidKinds := [.data, .data, .data, .data, .sentinel, .sentinel, .pinned], laidTests := true, laidLooks := .later }
def FnItemRoundTripUptoCardSaid : Prop := Claim7.holds Tryd.pinned (.plain (OpenSpec.upto fnItemRoundTripSpec)) fnItemRoundTripUptoCard

/-- THE SECOND FORM's CARD OF 'laws.FnExactDecodeItem'. -/
def fnExactDecodeItemUptoCard : Claim7 := { stood := { row := fnExactDecodeItemUptoRow, standIns := [], harness := (true, "dc2ddd9a44838376fcd256b01cd2f64075be1bba26f871f63c013780fa53aff9"), looks := true }, kinds := [], alts := [], laidByText := true, laidKinds := [.data, .data, .data, .data, .sentinel, .sentinel, .pinned], laidTests := true, laidLooks := .later }
def FnExactDecodeItemUptoCardSaid : Prop := Claim7.holds Tryd.pinned (.plain (OpenSpec.upto fnExactDecodeItemSpec)) fnExactDecodeItemUptoCard

/-- THE SECOND FORM's CARD OF 'laws.FnItemCanonical'. -/
def fnItemCanonicalUptoCard : Claim7 := { stood := { row := fnItemCanonicalUptoRow, standIns := [], harness := (true, "dc2ddd9a44838376fcd256b01cd2f64075be1bba26f871f63c013780fa53aff9"), looks := true }, kinds := [], alts := [], laidByText := true, laidKinds := [.data, .data, .data, .data, .sentinel, .sentinel, .pinned], laidTests := true, laidLooks := .later }
def FnItemCanonicalUptoCardSaid : Prop := Claim7.holds Tryd.pinned (.plain (OpenSpec.upto fnItemCanonicalSpec)) fnItemCanonicalUptoCard

/-- THE SECOND FORM's CARD OF 'laws.FnExactDecodeItems'. -/
def fnExactDecodeItemsUptoCard : Claim7 := { stood := { row := fnExactDecodeItemsUptoRow, standIns := [], harness := (true, "dc2ddd9a44838376fcd256b01cd2f64075be1bba26f871f63c013780fa53aff9"), looks := true }, kinds := [], alts := [], laidByText := true, laidKinds := [.data, .data, .data, .data, .sentinel, .sentinel, .pinned], laidTests := true, laidLooks := .later }
def FnExactDecodeItemsUptoCardSaid : Prop := Claim7.holds Tryd.pinned (.plain (OpenSpec.upto fnExactDecodeItemsSpec)) fnExactDecodeItemsUptoCard

/-- THE SECOND FORM's CARD OF 'laws.FnItemsRoundTrip'. -/
def fnItemsRoundTripUptoCard : Claim7 := { stood := { row := fnItemsRoundTripUptoRow, standIns := [], harness := (true, "dc2ddd9a44838376fcd256b01cd2f64075be1bba26f871f63c013780fa53aff9"), looks := true }, kinds := [], alts := [], laidByText := true, laidKinds := [.data, .data, .data, .data, .sentinel, .sentinel, .pinned], laidTests := true, laidLooks := .later }
def FnItemsRoundTripUptoCardSaid : Prop := Claim7.holds Tryd.pinned (.plain (OpenSpec.upto fnItemsRoundTripSpec)) fnItemsRoundTripUptoCard

/-- THE SECOND FORM's CARD OF 'laws.FnItemsCanonical'. -/
def fnItemsCanonicalUptoCard : Claim7 := { stood := { row := fnItemsCanonicalUptoRow, standIns := [], harness := (true, "dc2ddd9a44838376fcd256b01cd2f64075be1bba26f871f63c013780fa53aff9"), looks := true }, kinds := [], alts := [], laidByText := true, laidKinds := [.data, .data, .data, .data, .sentinel, .sentinel, .pinned], laidTests := true, laidLooks := .later }
def FnItemsCanonicalUptoCardSaid : Prop := Claim7.holds Tryd.pinned (.plain (OpenSpec.upto fnItemsCanonicalSpec)) fnItemsCanonicalUptoCard
end Rows
end Go.Proofs.YtmnmdecbehfegaaDoor
