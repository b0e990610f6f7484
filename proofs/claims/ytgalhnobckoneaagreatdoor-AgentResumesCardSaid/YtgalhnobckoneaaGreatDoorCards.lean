/-
  DERIVED. GIVEN WITH THE SEED: THE CARDS: each row of YtgalhnobckoneaaGreatDoorRows.lean that lists a variable, with what it lists TIED to the program's text (the seventh form; the later family's looks); each row that meets fmt, with fmt's text TOLD by the authors' own Lean function (tested against real Go, not proved from fmt's source: count such statements apart). THE CARD IS WHAT COUNTS. Prove the row's statement (the work); the ties are given (YtgalhnobckoneaaGreatDoorTie.lean); close each card by the builder's one call (the guide's Derived/Test/ToyasCard.lean, 'card_holds'). Laid BY PROGRAM, IN A SANDBOX (cutbox-door.mjs). By AI agents, Wed Nov 11 2026. No macro, syntax, notation, axiom, sorry.
-/
import Derived.Test.YtgalhnobckoneaaGreatDoorRows
import GoSem.ClaimSeven
namespace Go.Proofs.YtgalhnobckoneaaGreatDoor
namespace Rows

/-- THE TIED CARD OF 'brevetlaw24.AgentResumes'. -/
def agentResumesCard : Claim7 := { stood := { row := agentResumesRow, standIns := [], harness := (true, "abe3f14b6a6586ea33ff72d29f8abe977604791417a37dd007648b8bfd617d78"), looks := false }, kinds := [], alts := [], laidByText := true, laidKinds := [.data, .data, .data, .data, .data, .pinned], laidTests := true, laidLooks := .later }
def AgentResumesCardSaid : Prop := Claim7.holds Tryz.pinned (.plain (OpenSpec.ofChange agentResumesSpec)) agentResumesCard

/-- THE TIED CARD OF 'brevetlaw24.AgentNews'. -/
def agentNewsCard : Claim7 := { stood := { row := agentNewsRow, standIns := [], harness := (true, "abe3f14b6a6586ea33ff72d29f8abe977604791417a37dd007648b8bfd617d78"), looks := false }, kinds := [], alts := [], laidByText := true, laidKinds := [.data, .data, .data, .data, .data, .pinned], laidTests := true, laidLooks := .later }
def AgentNewsCardSaid : Prop := Claim7.holds Tryz.pinned (.plain (OpenSpec.ofChange agentNewsSpec)) agentNewsCard

/-- THE SECOND FORM's CARD OF 'brevetlaw24.AgentResumes'. -/
def agentResumesUptoCard : Claim7 := { stood := { row := agentResumesUptoRow, standIns := [], harness := (true, "abe3f14b6a6586ea33ff72d29f8abe977604791417a37dd007648b8bfd617d78"), looks := false }, kinds := [], alts := [], laidByText := true, laidKinds := [.data, .data, .data, .data, .data, .pinned], laidTests := true, laidLooks := .later }
def AgentResumesUptoCardSaid : Prop := Claim7.holds Tryz.pinned (.plain (OpenSpec.upto agentResumesSpec)) agentResumesUptoCard

/-- THE SECOND FORM's CARD OF 'brevetlaw24.AgentNews'. -/
def agentNewsUptoCard : Claim7 := { stood := { row := agentNewsUptoRow, standIns := [], harness := (true, "abe3f14b6a6586ea33ff72d29f8abe977604791417a37dd007648b8bfd617d78"), looks := false }, kinds := [], alts := [], laidByText := true, laidKinds := [.data, .data, .data, .data, .data, .pinned], laidTests := true, laidLooks := .later }
def AgentNewsUptoCardSaid : Prop := Claim7.holds Tryz.pinned (.plain (OpenSpec.upto agentNewsSpec)) agentNewsUptoCard
end Rows
end Go.Proofs.YtgalhnobckoneaaGreatDoor
