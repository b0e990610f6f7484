/-
  DERIVED. GIVEN WITH THE SEED: THE CARDS: each row of YtjndogfbhhbfcaaDoorRows.lean that lists a variable, with what it lists TIED to the program's text (the seventh form; the later family's looks); each row that meets fmt, with fmt's text TOLD by the authors' own Lean function (tested against real Go, not proved from fmt's source: count such statements apart). THE CARD IS WHAT COUNTS. Prove the row's statement (the work); the ties are given (YtjndogfbhhbfcaaDoorTie.lean); close each card by the builder's one call (the guide's Derived/Test/ToyasCard.lean, 'card_holds'). Laid BY PROGRAM, IN A SANDBOX (cutbox-door.mjs). By AI agents, Wed Nov 11 2026. No macro, syntax, notation, axiom, sorry.
-/
import Derived.Test.YtjndogfbhhbfcaaDoorRows
import GoSem.ClaimSeven
namespace Go.Proofs.YtjndogfbhhbfcaaDoor
namespace Rows

/-- THE TIED CARD OF 'brevetlaw09.IdsParses'. -/
def idsParsesCard : Claim7 := { stood := { row := idsParsesRow, standIns := [], harness := (true, "dcb51ebe75e85a3cc1edc9d722d5b84d1f5916d06b5b7e1c96917f98c716347e"), looks := false }, kinds := [], alts := [], laidByText := true, laidKinds := [.data, .pinned], laidTests := true, laidLooks := .later }
def IdsParsesCardSaid : Prop := Claim7.holds Tryd.pinned (.plain (OpenSpec.ofChange idsParsesSpec)) idsParsesCard

/-- THE TIED CARD OF 'brevetlaw09.IdsSets'. -/
def idsSetsCard : Claim7 := { stood := { row := idsSetsRow, standIns := [], harness := (true, "dcb51ebe75e85a3cc1edc9d722d5b84d1f5916d06b5b7e1c96917f98c716347e"), looks := false }, kinds := [], alts := [], laidByText := true, laidKinds := [.data, .pinned], laidTests := true, laidLooks := .later }
def IdsSetsCardSaid : Prop := Claim7.holds Tryd.pinned (.plain (OpenSpec.ofChange idsSetsSpec)) idsSetsCard

/-- THE TIED CARD OF 'brevetlaw09.IdsOwns'. -/
def idsOwnsCard : Claim7 := { stood := { row := idsOwnsRow, standIns := [], harness := (true, "dcb51ebe75e85a3cc1edc9d722d5b84d1f5916d06b5b7e1c96917f98c716347e"), looks := false }, kinds := [], alts := [], laidByText := true, laidKinds := [.data, .pinned], laidTests := true, laidLooks := .later }
def IdsOwnsCardSaid : Prop := Claim7.holds Tryd.pinned (.plain (OpenSpec.ofChange idsOwnsSpec)) idsOwnsCard

/-- THE TIED CARD OF 'brevetlaw09.IdsRound'. -/
def idsRoundCard : Claim7 := { stood := { row := idsRoundRow, standIns := [], harness := (true, "dcb51ebe75e85a3cc1edc9d722d5b84d1f5916d06b5b7e1c96917f98c716347e"), looks := false }, kinds := [], alts := [], laidByText := true, laidKinds := [.data, .pinned], laidTests := true, laidLooks := .later }
def IdsRoundCardSaid : Prop := Claim7.holds Tryd.pinned (.plain (OpenSpec.ofChange idsRoundSpec)) idsRoundCard

/-- THE TIED CARD OF 'brevetlaw09.IdsParts'. -/
def idsPartsCard : Claim7 := { stood := { row := idsPartsRow, standIns := [], harness := (true, "dcb51ebe75e85a3cc1edc9d722d5b84d1f5916d06b5b7e1c96917f98c716347e"), looks := false }, kinds := [], alts := [], laidByText := true, laidKinds := [.data, .pinned], laidTests := true, laidLooks := .later }
def IdsPartsCardSaid : Prop := Claim7.holds Tryd.pinned (.plain (OpenSpec.ofChange idsPartsSpec)) idsPartsCard

/-- THE TIED CARD OF 'brevetlaw09.IdsAgents'. -/
def idsAgentsCard : Claim7 := { stood := { row := idsAgentsRow, standIns := [], harness := (true, "dcb51ebe75e85a3cc1edc9d722d5b84d1f5916d06b5b7e1c96917f98c716347e"), looks := false }, kinds := [], alts := [], laidByText := true, laidKinds := [.data, .pinned], laidTests := true, laidLooks := .later }
def IdsAgentsCardSaid : Prop := Claim7.holds Tryd.pinned (.plain (OpenSpec.ofChange idsAgentsSpec)) idsAgentsCard

/-- THE TIED CARD OF 'brevetlaw09.IdsWithin'. -/
def idsWithinCard : Claim7 := { stood := { row := idsWithinRow, standIns := [], harness := (true, "dcb51ebe75e85a3cc1edc9d722d5b84d1f5916d06b5b7e1c96917f98c716347e"), looks := false }, kinds := [], alts := [], laidByText := true, laidKinds := [.data, .pinned], laidTests := true, laidLooks := .later }
def IdsWithinCardSaid : Prop := Claim7.holds Tryd.pinned (.plain (OpenSpec.ofChange idsWithinSpec)) idsWithinCard

/-- THE SECOND FORM's CARD OF 'brevetlaw09.IdsParses'. -/
def idsParsesUptoCard : Claim7 := { stood := { row := idsParsesUptoRow, standIns := [], harness := (true, "dcb51ebe75e85a3cc1edc9d722d5b84d1f5916d06b5b7e1c96917f98c716347e"), looks := false }, kinds := [], alts := [], laidByText := true, laidKinds := [.data, .pinned], laidTests := true, laidLooks := .later }
def IdsParsesUptoCardSaid : Prop := Claim7.holds Tryd.pinned (.plain (OpenSpec.upto idsParsesSpec)) idsParsesUptoCard

/-- THE SECOND FORM's CARD OF 'brevetlaw09.IdsSets'. -/
def idsSetsUptoCard : Claim7 := { stood := { row := idsSetsUptoRow, standIns := [], harness := (true, "dcb51ebe75e85a3cc1edc9d722d5b84d1f5916d06b5b7e1c96917f98c716347e"), looks := false }, kinds := [], alts := [], laidByText := true, laidKinds := [.data, .pinned], laidTests := true, laidLooks := .later }
def IdsSetsUptoCardSaid : Prop := Claim7.holds Tryd.pinned (.plain (OpenSpec.upto idsSetsSpec)) idsSetsUptoCard

/-- THE SECOND FORM's CARD OF 'brevetlaw09.IdsOwns'. -/
def idsOwnsUptoCard : Claim7 := { stood := { row := idsOwnsUptoRow, standIns := [], harness := (true, "dcb51ebe75e85a3cc1edc9d722d5b84d1f5916d06b5b7e1c96917f98c716347e"), looks := false }, kinds := [], alts := [], laidByText := true, laidKinds := [.data, .pinned], laidTests := true, laidLooks := .later }
def IdsOwnsUptoCardSaid : Prop := Claim7.holds Tryd.pinned (.plain (OpenSpec.upto idsOwnsSpec)) idsOwnsUptoCard

/-- THE SECOND FORM's CARD OF 'brevetlaw09.IdsRound'. -/
def idsRoundUptoCard : Claim7 := { stood := { row := idsRoundUptoRow, standIns := [], harness := (true, "dcb51ebe75e85a3cc1edc9d722d5b84d1f5916d06b5b7e1c96917f98c716347e"), looks := false }, kinds := [], alts := [], laidByText := true, laidKinds := [.data, .pinned], laidTests := true, laidLooks := .later }
def IdsRoundUptoCardSaid : Prop := Claim7.holds Tryd.pinned (.plain (OpenSpec.upto idsRoundSpec)) idsRoundUptoCard

/-- THE SECOND FORM's CARD OF 'brevetlaw09.IdsParts'. -/
def idsPartsUptoCard : Claim7 := { stood := { row := idsPartsUptoRow, standIns := [], harness := (true, "dcb51ebe75e85a3cc1edc9d722d5b84d1f5916d06b5b7e1c96917f98c716347e"), looks := false }, kinds := [], alts := [], laidByText := true, laidKinds := [.data, .pinned], laidTests := true, laidLooks := .later }
def IdsPartsUptoCardSaid : Prop := Claim7.holds Tryd.pinned (.plain (OpenSpec.upto idsPartsSpec)) idsPartsUptoCard

/-- THE SECOND FORM's CARD OF 'brevetlaw09.IdsAgents'. -/
def idsAgentsUptoCard : Claim7 := { stood := { row := idsAgentsUptoRow, standIns := [], harness := (true, "dcb51ebe75e85a3cc1edc9d722d5b84d1f5916d06b5b7e1c96917f98c716347e"), looks := false }, kinds := [], alts := [], laidByText := true, laidKinds := [.data, .pinned], laidTests := true, laidLooks := .later }
def IdsAgentsUptoCardSaid : Prop := Claim7.holds Tryd.pinned (.plain (OpenSpec.upto idsAgentsSpec)) idsAgentsUptoCard

/-- THE SECOND FORM's CARD OF 'brevetlaw09.IdsWithin'. -/
def idsWithinUptoCard : Claim7 := { stood := { row := idsWithinUptoRow, standIns := [], harness := (true, "dcb51ebe75e85a3cc1edc9d722d5b84d1f5916d06b5b7e1c96917f98c716347e"), looks := false }, kinds := [], alts := [], laidByText := true, laidKinds := [.data, .pinned], laidTests := true, laidLooks := .later }
def IdsWithinUptoCardSaid : Prop := Claim7.holds Tryd.pinned (.plain (OpenSpec.upto idsWithinSpec)) idsWithinUptoCard
end Rows
end Go.Proofs.YtjndogfbhhbfcaaDoor
