/-
  No cell of these rows narrows 'for every input' (looked for: loops, veiled, ifaces, maps, wideKeys, modest, calm, conditions, laid).
  DERIVED. THE GIVEN ROWS OF THIS SEAT. 6 by the template 'for every input the law returns true; each argument reads behind the call as it read before'; 0 by the template 'total and deterministic' (their statements: YtgaplcgenlphdaaTotals.lean).
  GIVEN WITH THE SEED: the statements are not yours to turn. If you find one false, say at which input.
  Laid BY PROGRAM, IN A SANDBOX (cutbox-rows.mjs): the forced cells as the released guide's own fill.sh prints them over the translation bb9921ce9e1afcf5… (all of the seat's roots in one cut). By AI agents, Wed Nov 11 2026. No macro, syntax, notation, axiom, sorry.
-/
import Derived.Test.YtgaplcgenlphdaaChecked
import GoSem.Claim
import GoSem.ClaimJoined
import GoSem.ClaimMapViews
import Derived.JoinedTies
import Derived.KernelRfl
namespace Go.Proofs.Ytgaplcgenlphdaa
/- THE CELL 'sum', in the pinned program and in every row, IS THE sha256 OF THE DUMP (.gsa) THAT YtgaplcgenlphdaaProg.lean LOADS. Nothing in Lean hashes anything: it is a label: what it is worth is what the hold of that sum in a sandbox is worth. -/
noncomputable def Try.pinned : Pinned := { name := "ytgaplcgenlphdaa", sum := "bb9921ce9e1afcf582ab380bd4fff0d481a1ebafcedecd9f28e19c27b6497907", checked := Try.checked }
namespace Rows
def none {H : Type} : Left H := { results := [], args := [] }

/-- 'brevetlaw14.WalSizes': WHATEVER THE INPUT: true; the input reads as it did. -/
def walSizesSpec : ChangeSpec := { name := "walSizes", fn := fun _ => fun
  | [d] => { results := [.lit (.bool true)], args := [d] }
  | _ => none }
def walSizesRow : OpenClaim := { program := "ytgaplcgenlphdaa", sum := "bb9921ce9e1afcf582ab380bd4fff0d481a1ebafcedecd9f28e19c27b6497907", func := "brevet/brevetlaw14.WalSizes", spec := "walSizes", unfollowed := true, recurses := true, apart := false }
def WalSizesSaid : Prop := walSizesRow.holds Try.pinned (OpenSpec.ofChange walSizesSpec)

/-- ITS FALSE NEIGHBOUR: 'it returns false'. Refute it at one input. -/
def walSizesWrong : ChangeSpec := { name := "walSizes", fn := fun _ => fun
  | [d] => { results := [.lit (.bool false)], args := [d] }
  | _ => none }
def WalSizesWrongFalsely : Prop := walSizesRow.holds Try.pinned (OpenSpec.ofChange walSizesWrong)

/-- 'brevetlaw14.WalOrder': WHATEVER THE INPUT: true; the input reads as it did. -/
def walOrderSpec : ChangeSpec := { name := "walOrder", fn := fun _ => fun
  | [d] => { results := [.lit (.bool true)], args := [d] }
  | _ => none }
def walOrderRow : OpenClaim := { program := "ytgaplcgenlphdaa", sum := "bb9921ce9e1afcf582ab380bd4fff0d481a1ebafcedecd9f28e19c27b6497907", func := "brevet/brevetlaw14.WalOrder", spec := "walOrder", unfollowed := true, recurses := true, apart := false }
def WalOrderSaid : Prop := walOrderRow.holds Try.pinned (OpenSpec.ofChange walOrderSpec)

/-- ITS FALSE NEIGHBOUR: 'it returns false'. Refute it at one input. -/
def walOrderWrong : ChangeSpec := { name := "walOrder", fn := fun _ => fun
  | [d] => { results := [.lit (.bool false)], args := [d] }
  | _ => none }
def WalOrderWrongFalsely : Prop := walOrderRow.holds Try.pinned (OpenSpec.ofChange walOrderWrong)

/-- 'brevetlaw14.WalRaw': WHATEVER THE INPUT: true; the input reads as it did. -/
def walRawSpec : ChangeSpec := { name := "walRaw", fn := fun _ => fun
  | [d] => { results := [.lit (.bool true)], args := [d] }
  | _ => none }
def walRawRow : OpenClaim := { program := "ytgaplcgenlphdaa", sum := "bb9921ce9e1afcf582ab380bd4fff0d481a1ebafcedecd9f28e19c27b6497907", func := "brevet/brevetlaw14.WalRaw", spec := "walRaw", unfollowed := true, recurses := true, apart := false }
def WalRawSaid : Prop := walRawRow.holds Try.pinned (OpenSpec.ofChange walRawSpec)

/-- ITS FALSE NEIGHBOUR: 'it returns false'. Refute it at one input. -/
def walRawWrong : ChangeSpec := { name := "walRaw", fn := fun _ => fun
  | [d] => { results := [.lit (.bool false)], args := [d] }
  | _ => none }
def WalRawWrongFalsely : Prop := walRawRow.holds Try.pinned (OpenSpec.ofChange walRawWrong)

/-- 'brevetlaw14.WalOwns': WHATEVER THE INPUT: true; the input reads as it did. -/
def walOwnsSpec : ChangeSpec := { name := "walOwns", fn := fun _ => fun
  | [d] => { results := [.lit (.bool true)], args := [d] }
  | _ => none }
def walOwnsRow : OpenClaim := { program := "ytgaplcgenlphdaa", sum := "bb9921ce9e1afcf582ab380bd4fff0d481a1ebafcedecd9f28e19c27b6497907", func := "brevet/brevetlaw14.WalOwns", spec := "walOwns", unfollowed := true, recurses := true, apart := false }
def WalOwnsSaid : Prop := walOwnsRow.holds Try.pinned (OpenSpec.ofChange walOwnsSpec)

/-- ITS FALSE NEIGHBOUR: 'it returns false'. Refute it at one input. -/
def walOwnsWrong : ChangeSpec := { name := "walOwns", fn := fun _ => fun
  | [d] => { results := [.lit (.bool false)], args := [d] }
  | _ => none }
def WalOwnsWrongFalsely : Prop := walOwnsRow.holds Try.pinned (OpenSpec.ofChange walOwnsWrong)

/-- 'brevetlaw14.WalTorn': WHATEVER THE INPUT: true; the input reads as it did. -/
def walTornSpec : ChangeSpec := { name := "walTorn", fn := fun _ => fun
  | [d1, d2, d3, d4] => { results := [.lit (.bool true)], args := [d1, d2, d3, d4] }
  | _ => none }
def walTornRow : OpenClaim := { program := "ytgaplcgenlphdaa", sum := "bb9921ce9e1afcf582ab380bd4fff0d481a1ebafcedecd9f28e19c27b6497907", func := "brevet/brevetlaw14.WalTorn", spec := "walTorn", unfollowed := true, recurses := true, apart := false }
def WalTornSaid : Prop := walTornRow.holds Try.pinned (OpenSpec.ofChange walTornSpec)

/-- ITS FALSE NEIGHBOUR: 'it returns false'. Refute it at one input. -/
def walTornWrong : ChangeSpec := { name := "walTorn", fn := fun _ => fun
  | [d1, d2, d3, d4] => { results := [.lit (.bool false)], args := [d1, d2, d3, d4] }
  | _ => none }
def WalTornWrongFalsely : Prop := walTornRow.holds Try.pinned (OpenSpec.ofChange walTornWrong)

/-- 'brevetlaw14.WalPlays': WHATEVER THE INPUT: true; the input reads as it did. -/
def walPlaysSpec : ChangeSpec := { name := "walPlays", fn := fun _ => fun
  | [d1, d2] => { results := [.lit (.bool true)], args := [d1, d2] }
  | _ => none }
def walPlaysRow : OpenClaim := { program := "ytgaplcgenlphdaa", sum := "bb9921ce9e1afcf582ab380bd4fff0d481a1ebafcedecd9f28e19c27b6497907", func := "brevet/brevetlaw14.WalPlays", spec := "walPlays", unfollowed := true, recurses := true, apart := false }
def WalPlaysSaid : Prop := walPlaysRow.holds Try.pinned (OpenSpec.ofChange walPlaysSpec)

/-- ITS FALSE NEIGHBOUR: 'it returns false'. Refute it at one input. -/
def walPlaysWrong : ChangeSpec := { name := "walPlays", fn := fun _ => fun
  | [d1, d2] => { results := [.lit (.bool false)], args := [d1, d2] }
  | _ => none }
def WalPlaysWrongFalsely : Prop := walPlaysRow.holds Try.pinned (OpenSpec.ofChange walPlaysWrong)

/- THE SECOND FORM. 'bulk': how many values and letters a reading holds, each counted each time it is reached (what is shared counts as often as it is met; a slice's spare places count too). A statement '..UptoSaid' is the law's where the arguments, and the package variables that the reading takes, are together of bulk at most 1048576: NARROWER than '..Said'. Prove '..Said' where nothing that the law and all that it calls make is longer than what came in: it says more and counts as full. Else prove '..UptoSaid'. A law counts once. -/
mutual
def uptoBulk {H : Type} : DataW H → Nat
  | .lit (.string bytes) => bytes.length + 1
  | .lit _ => 1
  | .nil => 1
  | .ptr d => uptoBulk d + 1
  | .slice elems spare => uptoBulkAll elems + uptoBulkAll spare + 1
  | .agg parts => uptoBulkAll parts + 1
  | .iface _ d => uptoBulk d + 1
  | .map entries => uptoBulkEntries entries + 1
  | .held _ => 1
def uptoBulkAll {H : Type} : List (DataW H) → Nat
  | [] => 0
  | d :: r => uptoBulk d + uptoBulkAll r
def uptoBulkEntries {H : Type} : List (Lit × DataW H) → Nat
  | [] => 0
  | x :: r => uptoBulkEntry x + uptoBulkEntries r
def uptoBulkEntry {H : Type} : Lit × DataW H → Nat
  | (.string bytes, d) => bytes.length + uptoBulk d + 1
  | (_, d) => uptoBulk d + 1
 end
def uptoSmall : (H : Type) → List (DataW H) → Bool := fun _ ds => decide (uptoBulkAll ds ≤ 1048576)
def OpenSpec.upto (s : _root_.Go.ChangeSpec) : _root_.Go.OpenSpec := { _root_.Go.OpenSpec.ofChange s with cond := some uptoSmall }

/-- 'brevetlaw14.WalSizes', WHERE WHAT IT READS IS OF BULK AT MOST 1048576: true; the input reads as it did. -/
def walSizesUptoRow : OpenClaim := { program := "ytgaplcgenlphdaa", sum := "bb9921ce9e1afcf582ab380bd4fff0d481a1ebafcedecd9f28e19c27b6497907", func := "brevet/brevetlaw14.WalSizes", spec := "walSizes", unfollowed := true, recurses := true, apart := false, narrowed := true }
def WalSizesUptoSaid : Prop := walSizesUptoRow.holds Try.pinned (OpenSpec.upto walSizesSpec)

/-- 'brevetlaw14.WalOrder', WHERE WHAT IT READS IS OF BULK AT MOST 1048576: true; the input reads as it did. -/
def walOrderUptoRow : OpenClaim := { program := "ytgaplcgenlphdaa", sum := "bb9921ce9e1afcf582ab380bd4fff0d481a1ebafcedecd9f28e19c27b6497907", func := "brevet/brevetlaw14.WalOrder", spec := "walOrder", unfollowed := true, recurses := true, apart := false, narrowed := true }
def WalOrderUptoSaid : Prop := walOrderUptoRow.holds Try.pinned (OpenSpec.upto walOrderSpec)

/-- 'brevetlaw14.WalRaw', WHERE WHAT IT READS IS OF BULK AT MOST 1048576: true; the input reads as it did. -/
def walRawUptoRow : OpenClaim := { program := "ytgaplcgenlphdaa", sum := "bb9921ce9e1afcf582ab380bd4fff0d481a1ebafcedecd9f28e19c27b6497907", func := "brevet/brevetlaw14.WalRaw", spec := "walRaw", unfollowed := true, recurses := true, apart := false, narrowed := true }
def WalRawUptoSaid : Prop := walRawUptoRow.holds Try.pinned (OpenSpec.upto walRawSpec)

/-- 'brevetlaw14.WalOwns', WHERE WHAT IT READS IS OF BULK AT MOST 1048576: true; the input reads as it did. -/
def walOwnsUptoRow : OpenClaim := { program := "ytgaplcgenlphdaa", sum := "bb9921ce9e1afcf582ab380bd4fff0d481a1ebafcedecd9f28e19c27b6497907", func := "brevet/brevetlaw14.WalOwns", spec := "walOwns", unfollowed := true, recurses := true, apart := false, narrowed := true }
def WalOwnsUptoSaid : Prop := walOwnsUptoRow.holds Try.pinned (OpenSpec.upto walOwnsSpec)

/-- 'brevetlaw14.WalTorn', WHERE WHAT IT READS IS OF BULK AT MOST 1048576: true; the input reads as it did. -/
def walTornUptoRow : OpenClaim := { program := "ytgaplcgenlphdaa", sum := "bb9921ce9e1afcf582ab380bd4fff0d481a1ebafcedecd9f28e19c27b6497907", func := "brevet/brevetlaw14.WalTorn", spec := "walTorn", unfollowed := true, recurses := true, apart := false, narrowed := true }
def WalTornUptoSaid : Prop := walTornUptoRow.holds Try.pinned (OpenSpec.upto walTornSpec)

/-- 'brevetlaw14.WalPlays', WHERE WHAT IT READS IS OF BULK AT MOST 1048576: true; the input reads as it did. -/
def walPlaysUptoRow : OpenClaim := { program := "ytgaplcgenlphdaa", sum := "bb9921ce9e1afcf582ab380bd4fff0d481a1ebafcedecd9f28e19c27b6497907", func := "brevet/brevetlaw14.WalPlays", spec := "walPlays", unfollowed := true, recurses := true, apart := false, narrowed := true }
def WalPlaysUptoSaid : Prop := walPlaysUptoRow.holds Try.pinned (OpenSpec.upto walPlaysSpec)

end Rows
end Go.Proofs.Ytgaplcgenlphdaa
