/-
  DERIVED. GIVEN WITH THE SEED: THE CARDS: each row of YtmbpnkacggngkaaGreatDoorRows.lean that lists a variable, with what it lists TIED to the program's text (the seventh form; the later family's looks); each row that meets fmt, with fmt's text TOLD by the authors' own Lean function (tested against real Go, not proved from fmt's source: count such statements apart). THE CARD IS WHAT COUNTS. Prove the row's statement (the work); the ties are given (YtmbpnkacggngkaaGreatDoorTie.lean); close each card by the builder's one call (the guide's Derived/Test/ToyasCard.lean, 'card_holds'). Laid BY PROGRAM, IN A SANDBOX (cutbox-door.mjs). By AI agents, Wed Nov 11 2026. No macro, syntax, notation, axiom, sorry.
-/
import Derived.Test.YtmbpnkacggngkaaGreatDoorRows
import GoSem.ClaimSeven
namespace Go.Proofs.YtmbpnkacggngkaaGreatDoor
namespace Rows

/-- THE TIED CARD OF 'brevetlaw15.LedgerApplies'. -/
def ledgerAppliesCard : Claim7 := { stood := { row := ledgerAppliesRow, standIns := [], harness := (true, "5689d19d95497777e16411387646bb0f9f594f01f07e464f12123ab8e375f005"), looks := false }, kinds := [], alts := [], laidByText := true, laidKinds := [.data, .data, .pinned], laidTests := true, laidLooks := .later }
def LedgerAppliesCardSaid : Prop := Claim7.holds Tryz.pinned (.plain (OpenSpec.ofChange ledgerAppliesSpec)) ledgerAppliesCard

/-- THE TIED CARD OF 'brevetlaw15.LedgerStays'. -/
def ledgerStaysCard : Claim7 := { stood := { row := ledgerStaysRow, standIns := [], harness := (true, "5689d19d95497777e16411387646bb0f9f594f01f07e464f12123ab8e375f005"), looks := false }, kinds := [], alts := [], laidByText := true, laidKinds := [.data, .data, .pinned], laidTests := true, laidLooks := .later }
def LedgerStaysCardSaid : Prop := Claim7.holds Tryz.pinned (.plain (OpenSpec.ofChange ledgerStaysSpec)) ledgerStaysCard

/-- THE TIED CARD OF 'brevetlaw15.LedgerWell'. -/
def ledgerWellCard : Claim7 := { stood := { row := ledgerWellRow, standIns := [], harness := (true, "5689d19d95497777e16411387646bb0f9f594f01f07e464f12123ab8e375f005"), looks := false }, kinds := [], alts := [], laidByText := true, laidKinds := [.data, .data, .pinned], laidTests := true, laidLooks := .later }
def LedgerWellCardSaid : Prop := Claim7.holds Tryz.pinned (.plain (OpenSpec.ofChange ledgerWellSpec)) ledgerWellCard

/-- THE TIED CARD OF 'brevetlaw15.LedgerOnce'. -/
def ledgerOnceCard : Claim7 := { stood := { row := ledgerOnceRow, standIns := [], harness := (true, "5689d19d95497777e16411387646bb0f9f594f01f07e464f12123ab8e375f005"), looks := false }, kinds := [], alts := [], laidByText := true, laidKinds := [.data, .data, .pinned], laidTests := true, laidLooks := .later }
def LedgerOnceCardSaid : Prop := Claim7.holds Tryz.pinned (.plain (OpenSpec.ofChange ledgerOnceSpec)) ledgerOnceCard

/-- THE TIED CARD OF 'brevetlaw15.LedgerBans'. -/
def ledgerBansCard : Claim7 := { stood := { row := ledgerBansRow, standIns := [], harness := (true, "5689d19d95497777e16411387646bb0f9f594f01f07e464f12123ab8e375f005"), looks := false }, kinds := [], alts := [], laidByText := true, laidKinds := [.data, .data, .pinned], laidTests := true, laidLooks := .later }
def LedgerBansCardSaid : Prop := Claim7.holds Tryz.pinned (.plain (OpenSpec.ofChange ledgerBansSpec)) ledgerBansCard

/-- THE TIED CARD OF 'brevetlaw15.LedgerCodes'. -/
def ledgerCodesCard : Claim7 := { stood := { row := ledgerCodesRow, standIns := [], harness := (true, "5689d19d95497777e16411387646bb0f9f594f01f07e464f12123ab8e375f005"), looks := false }, kinds := [], alts := [], laidByText := true, laidKinds := [.data, .data, .pinned], laidTests := true, laidLooks := .later }
def LedgerCodesCardSaid : Prop := Claim7.holds Tryz.pinned (.plain (OpenSpec.ofChange ledgerCodesSpec)) ledgerCodesCard

/-- THE TIED CARD OF 'brevetlaw15.LedgerDecodes'. -/
def ledgerDecodesCard : Claim7 := { stood := { row := ledgerDecodesRow, standIns := [], harness := (true, "5689d19d95497777e16411387646bb0f9f594f01f07e464f12123ab8e375f005"), looks := false }, kinds := [], alts := [], laidByText := true, laidKinds := [.data, .data, .pinned], laidTests := true, laidLooks := .later }
def LedgerDecodesCardSaid : Prop := Claim7.holds Tryz.pinned (.plain (OpenSpec.ofChange ledgerDecodesSpec)) ledgerDecodesCard

/-- THE TIED CARD OF 'brevetlaw15.LedgerItems'. -/
def ledgerItemsCard : Claim7 := { stood := { row := ledgerItemsRow, standIns := [], harness := (true, "5689d19d95497777e16411387646bb0f9f594f01f07e464f12123ab8e375f005"), looks := false }, kinds := [], alts := [], laidByText := true, laidKinds := [.data, .data, .pinned], laidTests := true, laidLooks := .later }
def LedgerItemsCardSaid : Prop := Claim7.holds Tryz.pinned (.plain (OpenSpec.ofChange ledgerItemsSpec)) ledgerItemsCard

/-- THE SECOND FORM's CARD OF 'brevetlaw15.LedgerApplies'. -/
def ledgerAppliesUptoCard : Claim7 := { stood := { row := ledgerAppliesUptoRow, standIns := [], harness := (true, "5689d19d95497777e16411387646bb0f9f594f01f07e464f12123ab8e375f005"), looks := false }, kinds := [], alts := [], laidByText := true, laidKinds := [.data, .data, .pinned], laidTests := true, laidLooks := .later }
def LedgerAppliesUptoCardSaid : Prop := Claim7.holds Tryz.pinned (.plain (OpenSpec.upto ledgerAppliesSpec)) ledgerAppliesUptoCard

/-- THE SECOND FORM's CARD OF 'brevetlaw15.LedgerStays'. -/
def ledgerStaysUptoCard : Claim7 := { stood := { row := ledgerStaysUptoRow, standIns := [], harness := (true, "5689d19d95497777e16411387646bb0f9f594f01f07e464f12123ab8e375f005"), looks := false }, kinds := [], alts := [], laidByText := true, laidKinds := [.data, .data, .pinned], laidTests := true, laidLooks := .later }
def LedgerStaysUptoCardSaid : Prop := Claim7.holds Tryz.pinned (.plain (OpenSpec.upto ledgerStaysSpec)) ledgerStaysUptoCard

/-- THE SECOND FORM's CARD OF 'brevetlaw15.LedgerWell'. -/
def ledgerWellUptoCard : Claim7 := { stood := { row := ledgerWellUptoRow, standIns := [], harness := (true, "5689d19d95497777e16411387646bb0f9f594f01f07e464f12123ab8e375f005"), looks := false }, kinds := [], alts := [], laidByText := true, laidKinds := [.data, .data, .pinned], laidTests := true, laidLooks := .later }
def LedgerWellUptoCardSaid : Prop := Claim7.holds Tryz.pinned (.plain (OpenSpec.upto ledgerWellSpec)) ledgerWellUptoCard

/-- THE SECOND FORM's CARD OF 'brevetlaw15.LedgerOnce'. -/
def ledgerOnceUptoCard : Claim7 := { stood := { row := ledgerOnceUptoRow, standIns := [], harness := (true, "5689d19d95497777e16411387646bb0f9f594f01f07e464f12123ab8e375f005"), looks := false }, kinds := [], alts := [], laidByText := true, laidKinds := [.data, .data, .pinned], laidTests := true, laidLooks := .later }
def LedgerOnceUptoCardSaid : Prop := Claim7.holds Tryz.pinned (.plain (OpenSpec.upto ledgerOnceSpec)) ledgerOnceUptoCard

/-- THE SECOND FORM's CARD OF 'brevetlaw15.LedgerBans'. -/
def ledgerBansUptoCard : Claim7 := { stood := { row := ledgerBansUptoRow, standIns := [], harness := (true, "5689d19d95497777e16411387646bb0f9f594f01f07e464f12123ab8e375f005"), looks := false }, kinds := [], alts := [], laidByText := true, laidKinds := [.data, .data, .pinned], laidTests := true, laidLooks := .later }
def LedgerBansUptoCardSaid : Prop := Claim7.holds Tryz.pinned (.plain (OpenSpec.upto ledgerBansSpec)) ledgerBansUptoCard

/-- THE SECOND FORM's CARD OF 'brevetlaw15.LedgerCodes'. -/
def ledgerCodesUptoCard : Claim7 := { stood := { row := ledgerCodesUptoRow, standIns := [], harness := (true, "5689d19d95497777e16411387646bb0f9f594f01f07e464f12123ab8e375f005"), looks := false }, kinds := [], alts := [], laidByText := true, laidKinds := [.data, .data, .pinned], laidTests := true, laidLooks := .later }
def LedgerCodesUptoCardSaid : Prop := Claim7.holds Tryz.pinned (.plain (OpenSpec.upto ledgerCodesSpec)) ledgerCodesUptoCard

/-- THE SECOND FORM's CARD OF 'brevetlaw15.LedgerDecodes'. -/
def ledgerDecodesUptoCard : Claim7 := { stood := { row := ledgerDecodesUptoRow, standIns := [], harness := (true, "5689d19d95497777e16411387646bb0f9f594f01f07e464f12123ab8e375f005"), looks := false }, kinds := [], alts := [], laidByText := true, laidKinds := [.data, .data, .pinned], laidTests := true, laidLooks := .later }
def LedgerDecodesUptoCardSaid : Prop := Claim7.holds Tryz.pinned (.plain (OpenSpec.upto ledgerDecodesSpec)) ledgerDecodesUptoCard

/-- THE SECOND FORM's CARD OF 'brevetlaw15.LedgerItems'. -/
def ledgerItemsUptoCard : Claim7 := { stood := { row := ledgerItemsUptoRow, standIns := [], harness := (true, "5689d19d95497777e16411387646bb0f9f594f01f07e464f12123ab8e375f005"), looks := false }, kinds := [], alts := [], laidByText := true, laidKinds := [.data, .data, .pinned], laidTests := true, laidLooks := .later }
def LedgerItemsUptoCardSaid : Prop := Claim7.holds Tryz.pinned (.plain (OpenSpec.upto ledgerItemsSpec)) ledgerItemsUptoCard
end Rows
end Go.Proofs.YtmbpnkacggngkaaGreatDoor
