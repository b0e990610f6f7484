/-
  NARROWER THAN 'FOR EVERY INPUT', by the rows' own cells (each row's printed sentence says how): IdsParses: laid · IdsSets: laid · IdsOwns: laid · IdsRound: laid · IdsParts: laid · IdsAgents: laid · IdsWithin: laid.
  DERIVED. THE GIVEN ROWS OF THIS SEAT. 7 by the template 'for every input the law returns true; each argument reads behind the call as it read before'; 0 by the template 'total and deterministic' (their statements: YtjndogfbhhbfcaaDoorTotals.lean).
  GIVEN WITH THE SEED: the statements are not yours to turn. If you find one false, say at which input.
  Laid BY PROGRAM, IN A SANDBOX (cutbox-rows.mjs): the forced cells as the released guide's own fill.sh prints them over the translation 88d46b2b4d9a7f8c… (all of the seat's roots in one cut). By AI agents, Wed Nov 11 2026. No macro, syntax, notation, axiom, sorry.
-/
import Derived.Test.YtjndogfbhhbfcaaDoorChecked
import GoSem.PinnedTables
import GoSem.Claim
import GoSem.ClaimJoined
import GoSem.ClaimMapViews
import Derived.JoinedTies
import Derived.KernelRfl
namespace Go.Proofs.YtjndogfbhhbfcaaDoor
/- THE CELL 'sum', in the pinned program and in every row, IS THE sha256 OF THE DUMP (.gsa) THAT YtjndogfbhhbfcaaDoorProg.lean LOADS. Nothing in Lean hashes anything: it is a label: what it is worth is what the hold of that sum in a sandbox is worth. -/
noncomputable def Tryd.pinned : Pinned := { name := "ytjndogfbhhbfcaadoor", sum := "88d46b2b4d9a7f8c7c0871ede25fa4f1f5a2d54514853ac9a2fdecd9bcff19af", checked := Tryd.checked }
namespace Rows
def none {H : Type} : Left H := { results := [], args := [] }

/- WHAT THE LISTED PACKAGE-LEVEL VARIABLES READ AS WHEN THE CALL BEGINS. Each datum BY PROGRAM (the guide's laid-datum.mjs) off the statement by which the dump's own 'gosem.cut.vars' lays the variable. In a bare row this is a premise. The card (YtjndogfbhhbfcaaDoorCards.lean) ties it to the program's text. -/
def laid_unicode_utf8_acceptRanges {H : Type} : DataW H := .agg [.agg [.lit (.int .u8 128), .lit (.int .u8 191)], .agg [.lit (.int .u8 160), .lit (.int .u8 191)], .agg [.lit (.int .u8 128), .lit (.int .u8 159)], .agg [.lit (.int .u8 144), .lit (.int .u8 191)], .agg [.lit (.int .u8 128), .lit (.int .u8 143)], .agg [.lit (.int .u8 0), .lit (.int .u8 0)], .agg [.lit (.int .u8 0), .lit (.int .u8 0)], .agg [.lit (.int .u8 0), .lit (.int .u8 0)], .agg [.lit (.int .u8 0), .lit (.int .u8 0)], .agg [.lit (.int .u8 0), .lit (.int .u8 0)], .agg [.lit (.int .u8 0), .lit (.int .u8 0)], .agg [.lit (.int .u8 0), .lit (.int .u8 0)], .agg [.lit (.int .u8 0), .lit (.int .u8 0)], .agg [.lit (.int .u8 0), .lit (.int .u8 0)], .agg [.lit (.int .u8 0), .lit (.int .u8 0)], .agg [.lit (.int .u8 0), .lit (.int .u8 0)]]
/-- One of Go's own tables, pinned by name: the form's constant. -/
def laid_unicode_utf8_first : DataW Unit := Go.Pinned.utf8First

/-- 'brevetlaw09.IdsParses': WHATEVER THE INPUT: true; the input reads as it did. -/
def idsParsesSpec : ChangeSpec := { name := "idsParses", fn := fun _ => fun
  | [d] => { results := [.lit (.bool true)], args := [d] }
  | _ => none }
def idsParsesRow : OpenClaim := { program := "ytjndogfbhhbfcaadoor", sum := "88d46b2b4d9a7f8c7c0871ede25fa4f1f5a2d54514853ac9a2fdecd9bcff19af", func := "brevet/brevetlaw09.IdsParses", spec := "idsParses", inPlace := ["internal/bytealg.IndexByteString", "internal/bytealg.IndexString", "internal/bytealg.CountString"], unfollowed := true, recurses := true, named := ["unicode/utf8.first", "unicode/utf8.acceptRanges", "internal/bytealg.MaxLen"], apart := false, laid := [("unicode/utf8.acceptRanges", laid_unicode_utf8_acceptRanges), ("unicode/utf8.first", laid_unicode_utf8_first)] }
def IdsParsesSaid : Prop := idsParsesRow.holds Tryd.pinned (OpenSpec.ofChange idsParsesSpec)

/-- ITS FALSE NEIGHBOUR: 'it returns false'. Refute it at one input. -/
def idsParsesWrong : ChangeSpec := { name := "idsParses", fn := fun _ => fun
  | [d] => { results := [.lit (.bool false)], args := [d] }
  | _ => none }
def IdsParsesWrongFalsely : Prop := idsParsesRow.holds Tryd.pinned (OpenSpec.ofChange idsParsesWrong)

/-- 'brevetlaw09.IdsSets': WHATEVER THE INPUT: true; the input reads as it did. -/
def idsSetsSpec : ChangeSpec := { name := "idsSets", fn := fun _ => fun
  | [d] => { results := [.lit (.bool true)], args := [d] }
  | _ => none }
def idsSetsRow : OpenClaim := { program := "ytjndogfbhhbfcaadoor", sum := "88d46b2b4d9a7f8c7c0871ede25fa4f1f5a2d54514853ac9a2fdecd9bcff19af", func := "brevet/brevetlaw09.IdsSets", spec := "idsSets", inPlace := ["internal/bytealg.IndexByteString", "internal/bytealg.IndexString", "internal/bytealg.CountString"], unfollowed := true, recurses := true, named := ["internal/bytealg.MaxLen", "unicode/utf8.first", "unicode/utf8.acceptRanges"], apart := false, laid := [("unicode/utf8.acceptRanges", laid_unicode_utf8_acceptRanges), ("unicode/utf8.first", laid_unicode_utf8_first)] }
def IdsSetsSaid : Prop := idsSetsRow.holds Tryd.pinned (OpenSpec.ofChange idsSetsSpec)

/-- ITS FALSE NEIGHBOUR: 'it returns false'. Refute it at one input. -/
def idsSetsWrong : ChangeSpec := { name := "idsSets", fn := fun _ => fun
  | [d] => { results := [.lit (.bool false)], args := [d] }
  | _ => none }
def IdsSetsWrongFalsely : Prop := idsSetsRow.holds Tryd.pinned (OpenSpec.ofChange idsSetsWrong)

/-- 'brevetlaw09.IdsOwns': WHATEVER THE INPUT: true; the input reads as it did. -/
def idsOwnsSpec : ChangeSpec := { name := "idsOwns", fn := fun _ => fun
  | [d] => { results := [.lit (.bool true)], args := [d] }
  | _ => none }
def idsOwnsRow : OpenClaim := { program := "ytjndogfbhhbfcaadoor", sum := "88d46b2b4d9a7f8c7c0871ede25fa4f1f5a2d54514853ac9a2fdecd9bcff19af", func := "brevet/brevetlaw09.IdsOwns", spec := "idsOwns", inPlace := ["internal/bytealg.IndexByteString", "internal/bytealg.IndexString", "internal/bytealg.CountString"], unfollowed := true, recurses := true, named := ["internal/bytealg.MaxLen", "unicode/utf8.first", "unicode/utf8.acceptRanges"], apart := false, laid := [("unicode/utf8.acceptRanges", laid_unicode_utf8_acceptRanges), ("unicode/utf8.first", laid_unicode_utf8_first)] }
def IdsOwnsSaid : Prop := idsOwnsRow.holds Tryd.pinned (OpenSpec.ofChange idsOwnsSpec)

/-- ITS FALSE NEIGHBOUR: 'it returns false'. Refute it at one input. -/
def idsOwnsWrong : ChangeSpec := { name := "idsOwns", fn := fun _ => fun
  | [d] => { results := [.lit (.bool false)], args := [d] }
  | _ => none }
def IdsOwnsWrongFalsely : Prop := idsOwnsRow.holds Tryd.pinned (OpenSpec.ofChange idsOwnsWrong)

/-- 'brevetlaw09.IdsRound': WHATEVER THE INPUT: true; the input reads as it did. -/
def idsRoundSpec : ChangeSpec := { name := "idsRound", fn := fun _ => fun
  | [d1, d2] => { results := [.lit (.bool true)], args := [d1, d2] }
  | _ => none }
def idsRoundRow : OpenClaim := { program := "ytjndogfbhhbfcaadoor", sum := "88d46b2b4d9a7f8c7c0871ede25fa4f1f5a2d54514853ac9a2fdecd9bcff19af", func := "brevet/brevetlaw09.IdsRound", spec := "idsRound", inPlace := ["internal/bytealg.IndexByteString", "internal/bytealg.IndexString", "internal/bytealg.CountString"], unfollowed := true, recurses := true, named := ["unicode/utf8.first", "unicode/utf8.acceptRanges", "internal/bytealg.MaxLen"], apart := false, laid := [("unicode/utf8.acceptRanges", laid_unicode_utf8_acceptRanges), ("unicode/utf8.first", laid_unicode_utf8_first)] }
def IdsRoundSaid : Prop := idsRoundRow.holds Tryd.pinned (OpenSpec.ofChange idsRoundSpec)

/-- ITS FALSE NEIGHBOUR: 'it returns false'. Refute it at one input. -/
def idsRoundWrong : ChangeSpec := { name := "idsRound", fn := fun _ => fun
  | [d1, d2] => { results := [.lit (.bool false)], args := [d1, d2] }
  | _ => none }
def IdsRoundWrongFalsely : Prop := idsRoundRow.holds Tryd.pinned (OpenSpec.ofChange idsRoundWrong)

/-- 'brevetlaw09.IdsParts': WHATEVER THE INPUT: true; the input reads as it did. -/
def idsPartsSpec : ChangeSpec := { name := "idsParts", fn := fun _ => fun
  | [d] => { results := [.lit (.bool true)], args := [d] }
  | _ => none }
def idsPartsRow : OpenClaim := { program := "ytjndogfbhhbfcaadoor", sum := "88d46b2b4d9a7f8c7c0871ede25fa4f1f5a2d54514853ac9a2fdecd9bcff19af", func := "brevet/brevetlaw09.IdsParts", spec := "idsParts", inPlace := ["internal/bytealg.IndexByteString", "internal/bytealg.IndexString", "internal/bytealg.CountString"], unfollowed := true, recurses := true, named := ["unicode/utf8.first", "unicode/utf8.acceptRanges", "internal/bytealg.MaxLen"], apart := false, laid := [("unicode/utf8.acceptRanges", laid_unicode_utf8_acceptRanges), ("unicode/utf8.first", laid_unicode_utf8_first)] }
def IdsPartsSaid : Prop := idsPartsRow.holds Tryd.pinned (OpenSpec.ofChange idsPartsSpec)

/-- ITS FALSE NEIGHBOUR: 'it returns false'. Refute it at one input. -/
def idsPartsWrong : ChangeSpec := { name := "idsParts", fn := fun _ => fun
  | [d] => { results := [.lit (.bool false)], args := [d] }
  | _ => none }
def IdsPartsWrongFalsely : Prop := idsPartsRow.holds Tryd.pinned (OpenSpec.ofChange idsPartsWrong)

/-- 'brevetlaw09.IdsAgents': WHATEVER THE INPUT: true; the input reads as it did. -/
def idsAgentsSpec : ChangeSpec := { name := "idsAgents", fn := fun _ => fun
  | [d1, d2] => { results := [.lit (.bool true)], args := [d1, d2] }
  | _ => none }
def idsAgentsRow : OpenClaim := { program := "ytjndogfbhhbfcaadoor", sum := "88d46b2b4d9a7f8c7c0871ede25fa4f1f5a2d54514853ac9a2fdecd9bcff19af", func := "brevet/brevetlaw09.IdsAgents", spec := "idsAgents", inPlace := ["internal/bytealg.CountString", "internal/bytealg.IndexByteString", "internal/bytealg.IndexString"], unfollowed := true, recurses := true, named := ["unicode/utf8.first", "unicode/utf8.acceptRanges", "internal/bytealg.MaxLen"], apart := false, laid := [("unicode/utf8.acceptRanges", laid_unicode_utf8_acceptRanges), ("unicode/utf8.first", laid_unicode_utf8_first)] }
def IdsAgentsSaid : Prop := idsAgentsRow.holds Tryd.pinned (OpenSpec.ofChange idsAgentsSpec)

/-- ITS FALSE NEIGHBOUR: 'it returns false'. Refute it at one input. -/
def idsAgentsWrong : ChangeSpec := { name := "idsAgents", fn := fun _ => fun
  | [d1, d2] => { results := [.lit (.bool false)], args := [d1, d2] }
  | _ => none }
def IdsAgentsWrongFalsely : Prop := idsAgentsRow.holds Tryd.pinned (OpenSpec.ofChange idsAgentsWrong)

/-- 'brevetlaw09.IdsWithin': WHATEVER THE INPUT: true; the input reads as it did. -/
def idsWithinSpec : ChangeSpec := { name := "idsWithin", fn := fun _ => fun
  | [d1, d2] => { results := [.lit (.bool true)], args := [d1, d2] }
  | _ => none }
def idsWithinRow : OpenClaim := { program := "ytjndogfbhhbfcaadoor", sum := "88d46b2b4d9a7f8c7c0871ede25fa4f1f5a2d54514853ac9a2fdecd9bcff19af", func := "brevet/brevetlaw09.IdsWithin", spec := "idsWithin", inPlace := ["internal/bytealg.IndexByteString", "internal/bytealg.IndexString", "internal/bytealg.CountString"], unfollowed := true, recurses := true, named := ["unicode/utf8.first", "unicode/utf8.acceptRanges", "internal/bytealg.MaxLen"], apart := false, laid := [("unicode/utf8.acceptRanges", laid_unicode_utf8_acceptRanges), ("unicode/utf8.first", laid_unicode_utf8_first)] }
def IdsWithinSaid : Prop := idsWithinRow.holds Tryd.pinned (OpenSpec.ofChange idsWithinSpec)

/-- ITS FALSE NEIGHBOUR: 'it returns false'. Refute it at one input. -/
def idsWithinWrong : ChangeSpec := { name := "idsWithin", fn := fun _ => fun
  | [d1, d2] => { results := [.lit (.bool false)], args := [d1, d2] }
  | _ => none }
def IdsWithinWrongFalsely : Prop := idsWithinRow.holds Tryd.pinned (OpenSpec.ofChange idsWithinWrong)

/- THE SECOND FORM. 'bulk': how many values and letters a reading holds, each counted each time it is reached (what is shared counts as often as it is met; a slice's spare places count too). A statement '..UptoSaid' is the law's where the arguments, and the package variables that the reading takes, are together of bulk at most 1048576: NARROWER than '..Said'. Prove '..Said' where nothing that the law and all that it calls make is longer than what came in: it says more and counts as full. Else prove '..UptoSaid'. A law counts once. -/
mutual
def uptoBulk {H : Type} : DataW H → Nat
  | .lit (.string bytes) => bytes.length + 1
  | .lit _ => 1
  | .nil => 1
  | .ptr d => uptoBulk d + 1
  | .slice elems spare => uptoBulkAll elems + uptoBulkAll spare + 1
  | .agg parts => uptoBulkAll parts + 1
  | .iface _ d => uptoBulk d + 1
  | .map entries => uptoBulkEntries entries + 1
  | .held _ => 1
def uptoBulkAll {H : Type} : List (DataW H) → Nat
  | [] => 0
  | d :: r => uptoBulk d + uptoBulkAll r
def uptoBulkEntries {H : Type} : List (Lit × DataW H) → Nat
  | [] => 0
  | x :: r => uptoBulkEntry x + uptoBulkEntries r
def uptoBulkEntry {H : Type} : Lit × DataW H → Nat
  | (.string bytes, d) => bytes.length + uptoBulk d + 1
  | (_, d) => uptoBulk d + 1
 end
def uptoSmall : (H : Type) → List (DataW H) → Bool := fun _ ds => decide (uptoBulkAll ds ≤ 1048576)
def OpenSpec.upto (s : _root_.Go.ChangeSpec) : _root_.Go.OpenSpec := { _root_.Go.OpenSpec.ofChange s with cond := some uptoSmall }

/-- 'brevetlaw09.IdsParses', WHERE WHAT IT READS IS OF BULK AT MOST 1048576: true; the input reads as it did. -/
def idsParsesUptoRow : OpenClaim := { program := "ytjndogfbhhbfcaadoor", sum := "88d46b2b4d9a7f8c7c0871ede25fa4f1f5a2d54514853ac9a2fdecd9bcff19af", func := "brevet/brevetlaw09.IdsParses", spec := "idsParses", inPlace := ["internal/bytealg.IndexByteString", "internal/bytealg.IndexString", "internal/bytealg.CountString"], unfollowed := true, recurses := true, named := ["unicode/utf8.first", "unicode/utf8.acceptRanges", "internal/bytealg.MaxLen"], apart := false, laid := [("unicode/utf8.acceptRanges", laid_unicode_utf8_acceptRanges), ("unicode/utf8.first", laid_unicode_utf8_first)], narrowed := true }
def IdsParsesUptoSaid : Prop := idsParsesUptoRow.holds Tryd.pinned (OpenSpec.upto idsParsesSpec)

/-- 'brevetlaw09.IdsSets', WHERE WHAT IT READS IS OF BULK AT MOST 1048576: true; the input reads as it did. -/
def idsSetsUptoRow : OpenClaim := { program := "ytjndogfbhhbfcaadoor", sum := "88d46b2b4d9a7f8c7c0871ede25fa4f1f5a2d54514853ac9a2fdecd9bcff19af", func := "brevet/brevetlaw09.IdsSets", spec := "idsSets", inPlace := ["internal/bytealg.IndexByteString", "internal/bytealg.IndexString", "internal/bytealg.CountString"], unfollowed := true, recurses := true, named := ["internal/bytealg.MaxLen", "unicode/utf8.first", "unicode/utf8.acceptRanges"], apart := false, laid := [("unicode/utf8.acceptRanges", laid_unicode_utf8_acceptRanges), ("unicode/utf8.first", laid_unicode_utf8_first)], narrowed := true }
def IdsSetsUptoSaid : Prop := idsSetsUptoRow.holds Tryd.pinned (OpenSpec.upto idsSetsSpec)

/-- 'brevetlaw09.IdsOwns', WHERE WHAT IT READS IS OF BULK AT MOST 1048576: true; the input reads as it did. -/
def idsOwnsUptoRow : OpenClaim := { program := "ytjndogfbhhbfcaadoor", sum := "88d46b2b4d9a7f8c7c0871ede25fa4f1f5a2d54514853ac9a2fdecd9bcff19af", func := "brevet/brevetlaw09.IdsOwns", spec := "idsOwns", inPlace := ["internal/bytealg.IndexByteString", "internal/bytealg.IndexString", "internal/bytealg.CountString"], unfollowed := true, recurses := true, named := ["internal/bytealg.MaxLen", "unicode/utf8.first", "unicode/utf8.acceptRanges"], apart := false, laid := [("unicode/utf8.acceptRanges", laid_unicode_utf8_acceptRanges), ("unicode/utf8.first", laid_unicode_utf8_first)], narrowed := true }
def IdsOwnsUptoSaid : Prop := idsOwnsUptoRow.holds Tryd.pinned (OpenSpec.upto idsOwnsSpec)

/-- 'brevetlaw09.IdsRound', WHERE WHAT IT READS IS OF BULK AT MOST 1048576: true; the input reads as it did. -/
def idsRoundUptoRow : OpenClaim := { program := "ytjndogfbhhbfcaadoor", sum := "88d46b2b4d9a7f8c7c0871ede25fa4f1f5a2d54514853ac9a2fdecd9bcff19af", func := "brevet/brevetlaw09.IdsRound", spec := "idsRound", inPlace := ["internal/bytealg.IndexByteString", "internal/bytealg.IndexString", "internal/bytealg.CountString"], unfollowed := true, recurses := true, named := ["unicode/utf8.first", "unicode/utf8.acceptRanges", "internal/bytealg.MaxLen"], apart := false, laid := [("unicode/utf8.acceptRanges", laid_unicode_utf8_acceptRanges), ("unicode/utf8.first", laid_unicode_utf8_first)], narrowed := true }
def IdsRoundUptoSaid : Prop := idsRoundUptoRow.holds Tryd.pinned (OpenSpec.upto idsRoundSpec)

/-- 'brevetlaw09.IdsParts', WHERE WHAT IT READS IS OF BULK AT MOST 1048576: true; the input reads as it did. -/
def idsPartsUptoRow : OpenClaim := { program := "ytjndogfbhhbfcaadoor", sum := "88d46b2b4d9a7f8c7c0871ede25fa4f1f5a2d54514853ac9a2fdecd9bcff19af", func := "brevet/brevetlaw09.IdsParts", spec := "idsParts", inPlace := ["internal/bytealg.IndexByteString", "internal/bytealg.IndexString", "internal/bytealg.CountString"], unfollowed := true, recurses := true, named := ["unicode/utf8.first", "unicode/utf8.acceptRanges", "internal/bytealg.MaxLen"], apart := false, laid := [("unicode/utf8.acceptRanges", laid_unicode_utf8_acceptRanges), ("unicode/utf8.first", laid_unicode_utf8_first)], narrowed := true }
def IdsPartsUptoSaid : Prop := idsPartsUptoRow.holds Tryd.pinned (OpenSpec.upto idsPartsSpec)

/-- 'brevetlaw09.IdsAgents', WHERE WHAT IT READS IS OF BULK AT MOST 1048576: true; the input reads as it did. -/
def idsAgentsUptoRow : OpenClaim := { program := "ytjndogfbhhbfcaadoor", sum := "88d46b2b4d9a7f8c7c0871ede25fa4f1f5a2d54514853ac9a2fdecd9bcff19af", func := "brevet/brevetlaw09.IdsAgents", spec := "idsAgents", inPlace := ["internal/bytealg.CountString", "internal/bytealg.IndexByteString", "internal/bytealg.IndexString"], unfollowed := true, recurses := true, named := ["unicode/utf8.first", "unicode/utf8.acceptRanges", "internal/bytealg.MaxLen"], apart := false, laid := [("unicode/utf8.acceptRanges", laid_unicode_utf8_acceptRanges), ("unicode/utf8.first", laid_unicode_utf8_first)], narrowed := true }
def IdsAgentsUptoSaid : Prop := idsAgentsUptoRow.holds Tryd.pinned (OpenSpec.upto idsAgentsSpec)

/-- 'brevetlaw09.IdsWithin', WHERE WHAT IT READS IS OF BULK AT MOST 1048576: true; the input reads as it did. -/
def idsWithinUptoRow : OpenClaim := { program := "ytjndogfbhhbfcaadoor", sum := "88d46b2b4d9a7f8c7c0871ede25fa4f1f5a2d54514853ac9a2fdecd9bcff19af", func := "brevet/brevetlaw09.IdsWithin", spec := "idsWithin", inPlace := ["internal/bytealg.IndexByteString", "internal/bytealg.IndexString", "internal/bytealg.CountString"], unfollowed := true, recurses := true, named := ["unicode/utf8.first", "unicode/utf8.acceptRanges", "internal/bytealg.MaxLen"], apart := false, laid := [("unicode/utf8.acceptRanges", laid_unicode_utf8_acceptRanges), ("unicode/utf8.first", laid_unicode_utf8_first)], narrowed := true }
def IdsWithinUptoSaid : Prop := idsWithinUptoRow.holds Tryd.pinned (OpenSpec.upto idsWithinSpec)

end Rows
end Go.Proofs.YtjndogfbhhbfcaaDoor
