/-
  DERIVED. GIVEN WITH THE SEED: THE CARDS: each row of YtjgohmfmalcjoaaDoorRows.lean that lists a variable, with what it lists TIED to the program's text (the seventh form; the later family's looks); each row that meets fmt, with fmt's text TOLD by the authors' own Lean function (tested against real Go, not proved from fmt's source: count such statements apart). THE CARD IS WHAT COUNTS. Prove the row's statement (the work); the ties are given (YtjgohmfmalcjoaaDoorTie.lean); close each card by the builder's one call (the guide's Derived/Test/ToyasCard.lean, 'card_holds'). Laid BY PROGRAM, IN A SANDBOX (cutbox-door.mjs). By AI agents, Wed Nov 11 2026. No macro, syntax, notation, axiom, sorry.
-/
import Derived.Test.YtjgohmfmalcjoaaDoorRows
import GoSem.ClaimSeven
namespace Go.Proofs.YtjgohmfmalcjoaaDoor
namespace Rows

/-- THE TIED CARD OF 'posthouselaw2.TransferEncodeMatchesSpec'. -/
def transferEncodeMatchesSpecCard : Claim7 := { stood := { row := transferEncodeMatchesSpecRow, standIns := [], harness := (true, "c3d2139f1a88d08e4c9e0bd64bdc7a519ebc889852ea3a7d024900076b87cee7"), looks := false }, kinds := [], alts := [], laidByText := true, laidKinds := [.data, .pinned], laidTests := true, laidLooks := .later }
def TransferEncodeMatchesSpecCardSaid : Prop := Claim7.holds Tryd.pinned (.plain (OpenSpec.ofChange transferEncodeMatchesSpecSpec)) transferEncodeMatchesSpecCard

/-- THE TIED CARD OF 'posthouselaw2.TransferDecodeMatchesSpec'. -/
def transferDecodeMatchesSpecCard : Claim7 := { stood := { row := transferDecodeMatchesSpecRow, standIns := [], harness := (true, "c3d2139f1a88d08e4c9e0bd64bdc7a519ebc889852ea3a7d024900076b87cee7"), looks := false }, kinds := [], alts := [], laidByText := true, laidKinds := [.data, .pinned], laidTests := true, laidLooks := .later }
def TransferDecodeMatchesSpecCardSaid : Prop := Claim7.holds Tryd.pinned (.plain (OpenSpec.ofChange transferDecodeMatchesSpecSpec)) transferDecodeMatchesSpecCard

/-- THE TIED CARD OF 'posthouselaw2.TransferChooseMatchesSpec'. -/
def transferChooseMatchesSpecCard : Claim7 := { stood := { row := transferChooseMatchesSpecRow, standIns := [], harness := (true, "c3d2139f1a88d08e4c9e0bd64bdc7a519ebc889852ea3a7d024900076b87cee7"), looks := false }, kinds := [], alts := [], laidByText := true, laidKinds := [.data, .pinned], laidTests := true, laidLooks := .later }
def TransferChooseMatchesSpecCardSaid : Prop := Claim7.holds Tryd.pinned (.plain (OpenSpec.ofChange transferChooseMatchesSpecSpec)) transferChooseMatchesSpecCard

/-- THE TIED CARD OF 'posthouselaw2.TransferRoundTrip'. -/
def transferRoundTripCard : Claim7 := { stood := { row := transferRoundTripRow, standIns := [], harness := (true, "c3d2139f1a88d08e4c9e0bd64bdc7a519ebc889852ea3a7d024900076b87cee7"), looks := false }, kinds := [], alts := [], laidByText := true, laidKinds := [.data, .pinned], laidTests := true, laidLooks := .later }
def TransferRoundTripCardSaid : Prop := Claim7.holds Tryd.pinned (.plain (OpenSpec.ofChange transferRoundTripSpec)) transferRoundTripCard

/-- THE TIED CARD OF 'posthouselaw2.TransferChosenFits'. -/
def transferChosenFitsCard : Claim7 := { stood := { row := transferChosenFitsRow, standIns := [], harness := (true, "c3d2139f1a88d08e4c9e0bd64bdc7a519ebc889852ea3a7d024900076b87cee7"), looks := false }, kinds := [], alts := [], laidByText := true, laidKinds := [.data, .pinned], laidTests := true, laidLooks := .later }
def TransferChosenFitsCardSaid : Prop := Claim7.holds Tryd.pinned (.plain (OpenSpec.ofChange transferChosenFitsSpec)) transferChosenFitsCard

/-- THE TIED CARD OF 'posthouselaw2.MessageWriteMatchesSpec'. -/
def messageWriteMatchesSpecCard : Claim7 := { stood := { row := messageWriteMatchesSpecRow, standIns := [], harness := (true, "c3d2139f1a88d08e4c9e0bd64bdc7a519ebc889852ea3a7d024900076b87cee7"), looks := false }, kinds := [], alts := [], laidByText := true, laidKinds := [.data, .pinned], laidTests := true, laidLooks := .later }
def MessageWriteMatchesSpecCardSaid : Prop := Claim7.holds Tryd.pinned (.plain (OpenSpec.ofChange messageWriteMatchesSpecSpec)) messageWriteMatchesSpecCard

/-- THE TIED CARD OF 'posthouselaw2.MessageRoundTrip'. -/
def messageRoundTripCard : Claim7 := { stood := { row := messageRoundTripRow, standIns := [], harness := (true, "c3d2139f1a88d08e4c9e0bd64bdc7a519ebc889852ea3a7d024900076b87cee7"), looks := false }, kinds := [], alts := [], laidByText := true, laidKinds := [.data, .pinned], laidTests := true, laidLooks := .later }
def MessageRoundTripCardSaid : Prop := Claim7.holds Tryd.pinned (.plain (OpenSpec.ofChange messageRoundTripSpec)) messageRoundTripCard

/-- THE TIED CARD OF 'posthouselaw2.MessageIdMatchesSpec'. -/
def messageIdMatchesSpecCard : Claim7 := { stood := { row := messageIdMatchesSpecRow, standIns := [], harness := (true, "c3d2139f1a88d08e4c9e0bd64bdc7a519ebc889852ea3a7d024900076b87cee7"), looks := false }, kinds := [], alts := [], laidByText := true, laidKinds := [.data, .pinned], laidTests := true, laidLooks := .later }
def MessageIdMatchesSpecCardSaid : Prop := Claim7.holds Tryd.pinned (.plain (OpenSpec.ofChange messageIdMatchesSpecSpec)) messageIdMatchesSpecCard

/-- THE TIED CARD OF 'posthouselaw2.MessageReadsOnce'. -/
def messageReadsOnceCard : Claim7 := { stood := { row := messageReadsOnceRow, standIns := [], harness := (true, "c3d2139f1a88d08e4c9e0bd64bdc7a519ebc889852ea3a7d024900076b87cee7"), looks := false }, kinds := [], alts := [], laidByText := true, laidKinds := [.data, .pinned], laidTests := true, laidLooks := .later }
def MessageReadsOnceCardSaid : Prop := Claim7.holds Tryd.pinned (.plain (OpenSpec.ofChange messageReadsOnceSpec)) messageReadsOnceCard

/-- THE SECOND FORM's CARD OF 'posthouselaw2.TransferEncodeMatchesSpec'. -/
def transferEncodeMatchesSpecUptoCard : Claim7 := { stood := { row := transferEncodeMatchesSpecUptoRow, standIns := [], harness := (true, "c3d2139f1a88d08e4c9e0bd64bdc7a519ebc889852ea3a7d024900076b87cee7"), looks := false }, kinds := [], alts := [], laidByText := true, laidKinds := [.data, .pinned], laidTests := true, laidLooks := .later }
def TransferEncodeMatchesSpecUptoCardSaid : Prop := Claim7.holds Tryd.pinned (.plain (OpenSpec.upto transferEncodeMatchesSpecSpec)) transferEncodeMatchesSpecUptoCard

/-- THE SECOND FORM's CARD OF 'posthouselaw2.TransferDecodeMatchesSpec'. -/
def transferDecodeMatchesSpecUptoCard : Claim7 := { stood := { row := transferDecodeMatchesSpecUptoRow, standIns := [], harness := (true, "c3d2139f1a88d08e4c9e0bd64bdc7a519ebc889852ea3a7d024900076b87cee7"), looks := false }, kinds := [], alts := [], laidByText := true, laidKinds := [.data, .pinned], laidTests := true, laidLooks := .later }
def TransferDecodeMatchesSpecUptoCardSaid : Prop := Claim7.holds Tryd.pinned (.plain (OpenSpec.upto transferDecodeMatchesSpecSpec)) transferDecodeMatchesSpecUptoCard

/-- THE SECOND FORM's CARD OF 'posthouselaw2.TransferChooseMatchesSpec'. -/
def transferChooseMatchesSpecUptoCard : Claim7 := { stood := { row := transferChooseMatchesSpecUptoRow, standIns := [], harness := (true, "c3d2139f1a88d08e4c9e0bd64bdc7a519ebc889852ea3a7d024900076b87cee7"), looks := false }, kinds := [], alts := [], laidByText := true, laidKinds := [.data, .pinned], laidTests := true, laidLooks := .later }
def TransferChooseMatchesSpecUptoCardSaid : Prop := Claim7.holds Tryd.pinned (.plain (OpenSpec.upto transferChooseMatchesSpecSpec)) transferChooseMatchesSpecUptoCard

/-- THE SECOND FORM's CARD OF 'posthouselaw2.TransferRoundTrip'. -/
def transferRoundTripUptoCard : Claim7 := { stood := { row := transferRoundTripUptoRow, standIns := [], harness := (true, "c3d2139f1a88d08e4c9e0bd64bdc7a519ebc889852ea3a7d024900076b87cee7"), looks := false }, kinds := [], alts := [], laidByText := true, laidKinds := [.data, .pinned], laidTests := true, laidLooks := .later }
def TransferRoundTripUptoCardSaid : Prop := Claim7.holds Tryd.pinned (.plain (OpenSpec.upto transferRoundTripSpec)) transferRoundTripUptoCard

/-- THE SECOND FORM's CARD OF 'posthouselaw2.TransferChosenFits'. -/
def transferChosenFitsUptoCard : Claim7 := { stood := { row := transferChosenFitsUptoRow, standIns := [], harness := (true, "c3d2139f1a88d08e4c9e0bd64bdc7a519ebc889852ea3a7d024900076b87cee7"), looks := false }, kinds := [], alts := [], laidByText := true, laidKinds := [.data, .pinned], laidTests := true, laidLooks := .later }
def TransferChosenFitsUptoCardSaid : Prop := Claim7.holds Tryd.pinned (.plain (OpenSpec.upto transferChosenFitsSpec)) transferChosenFitsUptoCard

/-- THE SECOND FORM's CARD OF 'posthouselaw2.MessageWriteMatchesSpec'. -/
def messageWriteMatchesSpecUptoCard : Claim7 := { stood := { row := messageWriteMatchesSpecUptoRow, standIns := [], harness := (true, "c3d2139f1a88d08e4c9e0bd64bdc7a519ebc889852ea3a7d024900076b87cee7"), looks := false }, kinds := [], alts := [], laidByText := true, laidKinds := [.data, .pinned], laidTests := true, laidLooks := .later }
def MessageWriteMatchesSpecUptoCardSaid : Prop := Claim7.holds Tryd.pinned (.plain (OpenSpec.upto messageWriteMatchesSpecSpec)) messageWriteMatchesSpecUptoCard

/-- THE SECOND FORM's CARD OF 'posthouselaw2.MessageRoundTrip'. -/
def messageRoundTripUptoCard : Claim7 := { stood := { row := messageRoundTripUptoRow, standIns := [], harness := (true, "c3d2139f1a88d08e4c9e0bd64bdc7a519ebc889852ea3a7d024900076b87cee7"), looks := false }, kinds := [], alts := [], laidByText := true, laidKinds := [.data, .pinned], laidTests := true, laidLooks := .later }
def MessageRoundTripUptoCardSaid : Prop := Claim7.holds Tryd.pinned (.plain (OpenSpec.upto messageRoundTripSpec)) messageRoundTripUptoCard

/-- THE SECOND FORM's CARD OF 'posthouselaw2.MessageIdMatchesSpec'. -/
def messageIdMatchesSpecUptoCard : Claim7 := { stood := { row := messageIdMatchesSpecUptoRow, standIns := [], harness := (true, "c3d2139f1a88d08e4c9e0bd64bdc7a519ebc889852ea3a7d024900076b87cee7"), looks := false }, kinds := [], alts := [], laidByText := true, laidKinds := [.data, .pinned], laidTests := true, laidLooks := .later }
def MessageIdMatchesSpecUptoCardSaid : Prop := Claim7.holds Tryd.pinned (.plain (OpenSpec.upto messageIdMatchesSpecSpec)) messageIdMatchesSpecUptoCard

/-- THE SECOND FORM's CARD OF 'posthouselaw2.MessageReadsOnce'. -/
def messageReadsOnceUptoCard : Claim7 := { stood := { row := messageReadsOnceUptoRow, standIns := [], harness := (true, "c3d2139f1a88d08e4c9e0bd64bdc7a519ebc889852ea3a7d024900076b87cee7"), looks := false }, kinds := [], alts := [], laidByText := true, laidKinds := [.data, .pinned], laidTests := true, laidLooks := .later }
def MessageReadsOnceUptoCardSaid : Prop := Claim7.holds Tryd.pinned (.plain (OpenSpec.upto messageReadsOnceSpec)) messageReadsOnceUptoCard
end Rows
end Go.Proofs.YtjgohmfmalcjoaaDoor
