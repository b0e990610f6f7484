/-
  No cell of these rows narrows 'for every input' (looked for: loops, veiled, ifaces, maps, wideKeys, modest, calm, conditions, laid).
  DERIVED. THE GIVEN ROWS OF THIS SEAT. 5 by the template 'for every input the law returns true; each argument reads behind the call as it read before'; 0 by the template 'total and deterministic' (their statements: YtjjgejdblibkmaaTotals.lean).
  GIVEN WITH THE SEED: the statements are not yours to turn. If you find one false, say at which input.
  Laid BY PROGRAM, IN A SANDBOX (cutbox-rows.mjs): the forced cells as the released guide's own fill.sh prints them over the translation f3c25e625ea00036… (all of the seat's roots in one cut). By AI agents, Wed Nov 11 2026. No macro, syntax, notation, axiom, sorry.
-/
import Derived.Test.YtjjgejdblibkmaaChecked
import GoSem.Claim
import GoSem.ClaimJoined
import GoSem.ClaimMapViews
import Derived.JoinedTies
import Derived.KernelRfl
namespace Go.Proofs.Ytjjgejdblibkmaa
/- THE CELL 'sum', in the pinned program and in every row, IS THE sha256 OF THE DUMP (.gsa) THAT YtjjgejdblibkmaaProg.lean LOADS. Nothing in Lean hashes anything: it is a label: what it is worth is what the hold of that sum in a sandbox is worth. -/
noncomputable def Try.pinned : Pinned := { name := "ytjjgejdblibkmaa", sum := "f3c25e625ea00036d9460c2590a7bda1bd582076dcbbd714cad6cd5f6e5d9d06", checked := Try.checked }
namespace Rows
def none {H : Type} : Left H := { results := [], args := [] }

/-- 'brevetlaw02.CrcSums': WHATEVER THE INPUT: true; the input reads as it did. -/
def crcSumsSpec : ChangeSpec := { name := "crcSums", fn := fun _ => fun
  | [d] => { results := [.lit (.bool true)], args := [d] }
  | _ => none }
def crcSumsRow : OpenClaim := { program := "ytjjgejdblibkmaa", sum := "f3c25e625ea00036d9460c2590a7bda1bd582076dcbbd714cad6cd5f6e5d9d06", func := "brevet/brevetlaw02.CrcSums", spec := "crcSums", apart := false }
def CrcSumsSaid : Prop := crcSumsRow.holds Try.pinned (OpenSpec.ofChange crcSumsSpec)

/-- ITS FALSE NEIGHBOUR: 'it returns false'. Refute it at one input. -/
def crcSumsWrong : ChangeSpec := { name := "crcSums", fn := fun _ => fun
  | [d] => { results := [.lit (.bool false)], args := [d] }
  | _ => none }
def CrcSumsWrongFalsely : Prop := crcSumsRow.holds Try.pinned (OpenSpec.ofChange crcSumsWrong)

/-- 'brevetlaw02.CrcTwo': WHATEVER THE INPUT: true; the input reads as it did. -/
def crcTwoSpec : ChangeSpec := { name := "crcTwo", fn := fun _ => fun
  | [d1, d2] => { results := [.lit (.bool true)], args := [d1, d2] }
  | _ => none }
def crcTwoRow : OpenClaim := { program := "ytjjgejdblibkmaa", sum := "f3c25e625ea00036d9460c2590a7bda1bd582076dcbbd714cad6cd5f6e5d9d06", func := "brevet/brevetlaw02.CrcTwo", spec := "crcTwo", apart := false }
def CrcTwoSaid : Prop := crcTwoRow.holds Try.pinned (OpenSpec.ofChange crcTwoSpec)

/-- ITS FALSE NEIGHBOUR: 'it returns false'. Refute it at one input. -/
def crcTwoWrong : ChangeSpec := { name := "crcTwo", fn := fun _ => fun
  | [d1, d2] => { results := [.lit (.bool false)], args := [d1, d2] }
  | _ => none }
def CrcTwoWrongFalsely : Prop := crcTwoRow.holds Try.pinned (OpenSpec.ofChange crcTwoWrong)

/-- 'brevetlaw02.CrcSeals': WHATEVER THE INPUT: true; the input reads as it did. -/
def crcSealsSpec : ChangeSpec := { name := "crcSeals", fn := fun _ => fun
  | [d] => { results := [.lit (.bool true)], args := [d] }
  | _ => none }
def crcSealsRow : OpenClaim := { program := "ytjjgejdblibkmaa", sum := "f3c25e625ea00036d9460c2590a7bda1bd582076dcbbd714cad6cd5f6e5d9d06", func := "brevet/brevetlaw02.CrcSeals", spec := "crcSeals", apart := false }
def CrcSealsSaid : Prop := crcSealsRow.holds Try.pinned (OpenSpec.ofChange crcSealsSpec)

/-- ITS FALSE NEIGHBOUR: 'it returns false'. Refute it at one input. -/
def crcSealsWrong : ChangeSpec := { name := "crcSeals", fn := fun _ => fun
  | [d] => { results := [.lit (.bool false)], args := [d] }
  | _ => none }
def CrcSealsWrongFalsely : Prop := crcSealsRow.holds Try.pinned (OpenSpec.ofChange crcSealsWrong)

/-- 'brevetlaw02.CrcRound': WHATEVER THE INPUT: true; the input reads as it did. -/
def crcRoundSpec : ChangeSpec := { name := "crcRound", fn := fun _ => fun
  | [d1, d2, d3] => { results := [.lit (.bool true)], args := [d1, d2, d3] }
  | _ => none }
def crcRoundRow : OpenClaim := { program := "ytjjgejdblibkmaa", sum := "f3c25e625ea00036d9460c2590a7bda1bd582076dcbbd714cad6cd5f6e5d9d06", func := "brevet/brevetlaw02.CrcRound", spec := "crcRound", apart := false }
def CrcRoundSaid : Prop := crcRoundRow.holds Try.pinned (OpenSpec.ofChange crcRoundSpec)

/-- ITS FALSE NEIGHBOUR: 'it returns false'. Refute it at one input. -/
def crcRoundWrong : ChangeSpec := { name := "crcRound", fn := fun _ => fun
  | [d1, d2, d3] => { results := [.lit (.bool false)], args := [d1, d2, d3] }
  | _ => none }
def CrcRoundWrongFalsely : Prop := crcRoundRow.holds Try.pinned (OpenSpec.ofChange crcRoundWrong)

/-- 'brevetlaw02.CrcOwns': WHATEVER THE INPUT: true; the input reads as it did. -/
def crcOwnsSpec : ChangeSpec := { name := "crcOwns", fn := fun _ => fun
  | [d] => { results := [.lit (.bool true)], args := [d] }
  | _ => none }
def crcOwnsRow : OpenClaim := { program := "ytjjgejdblibkmaa", sum := "f3c25e625ea00036d9460c2590a7bda1bd582076dcbbd714cad6cd5f6e5d9d06", func := "brevet/brevetlaw02.CrcOwns", spec := "crcOwns", apart := false }
def CrcOwnsSaid : Prop := crcOwnsRow.holds Try.pinned (OpenSpec.ofChange crcOwnsSpec)

/-- ITS FALSE NEIGHBOUR: 'it returns false'. Refute it at one input. -/
def crcOwnsWrong : ChangeSpec := { name := "crcOwns", fn := fun _ => fun
  | [d] => { results := [.lit (.bool false)], args := [d] }
  | _ => none }
def CrcOwnsWrongFalsely : Prop := crcOwnsRow.holds Try.pinned (OpenSpec.ofChange crcOwnsWrong)

/- THE SECOND FORM. 'bulk': how many values and letters a reading holds, each counted each time it is reached (what is shared counts as often as it is met; a slice's spare places count too). A statement '..UptoSaid' is the law's where the arguments, and the package variables that the reading takes, are together of bulk at most 1048576: NARROWER than '..Said'. Prove '..Said' where nothing that the law and all that it calls make is longer than what came in: it says more and counts as full. Else prove '..UptoSaid'. A law counts once. -/
mutual
def uptoBulk {H : Type} : DataW H → Nat
  | .lit (.string bytes) => bytes.length + 1
  | .lit _ => 1
  | .nil => 1
  | .ptr d => uptoBulk d + 1
  | .slice elems spare => uptoBulkAll elems + uptoBulkAll spare + 1
  | .agg parts => uptoBulkAll parts + 1
  | .iface _ d => uptoBulk d + 1
  | .map entries => uptoBulkEntries entries + 1
  | .held _ => 1
def uptoBulkAll {H : Type} : List (DataW H) → Nat
  | [] => 0
  | d :: r => uptoBulk d + uptoBulkAll r
def uptoBulkEntries {H : Type} : List (Lit × DataW H) → Nat
  | [] => 0
  | x :: r => uptoBulkEntry x + uptoBulkEntries r
def uptoBulkEntry {H : Type} : Lit × DataW H → Nat
  | (.string bytes, d) => bytes.length + uptoBulk d + 1
  | (_, d) => uptoBulk d + 1
 end
def uptoSmall : (H : Type) → List (DataW H) → Bool := fun _ ds => decide (uptoBulkAll ds ≤ 1048576)
def OpenSpec.upto (s : _root_.Go.ChangeSpec) : _root_.Go.OpenSpec := { _root_.Go.OpenSpec.ofChange s with cond := some uptoSmall }

/-- 'brevetlaw02.CrcSums', WHERE WHAT IT READS IS OF BULK AT MOST 1048576: true; the input reads as it did. -/
def crcSumsUptoRow : OpenClaim := { program := "ytjjgejdblibkmaa", sum := "f3c25e625ea00036d9460c2590a7bda1bd582076dcbbd714cad6cd5f6e5d9d06", func := "brevet/brevetlaw02.CrcSums", spec := "crcSums", apart := false, narrowed := true }
def CrcSumsUptoSaid : Prop := crcSumsUptoRow.holds Try.pinned (OpenSpec.upto crcSumsSpec)

/-- 'brevetlaw02.CrcTwo', WHERE WHAT IT READS IS OF BULK AT MOST 1048576: true; the input reads as it did. -/
def crcTwoUptoRow : OpenClaim := { program := "ytjjgejdblibkmaa", sum := "f3c25e625ea00036d9460c2590a7bda1bd582076dcbbd714cad6cd5f6e5d9d06", func := "brevet/brevetlaw02.CrcTwo", spec := "crcTwo", apart := false, narrowed := true }
def CrcTwoUptoSaid : Prop := crcTwoUptoRow.holds Try.pinned (OpenSpec.upto crcTwoSpec)

/-- 'brevetlaw02.CrcSeals', WHERE WHAT IT READS IS OF BULK AT MOST 1048576: true; the input reads as it did. -/
def crcSealsUptoRow : OpenClaim := { program := "ytjjgejdblibkmaa", sum := "f3c25e625ea00036d9460c2590a7bda1bd582076dcbbd714cad6cd5f6e5d9d06", func := "brevet/brevetlaw02.CrcSeals", spec := "crcSeals", apart := false, narrowed := true }
def CrcSealsUptoSaid : Prop := crcSealsUptoRow.holds Try.pinned (OpenSpec.upto crcSealsSpec)

/-- 'brevetlaw02.CrcRound', WHERE WHAT IT READS IS OF BULK AT MOST 1048576: true; the input reads as it did. -/
def crcRoundUptoRow : OpenClaim := { program := "ytjjgejdblibkmaa", sum := "f3c25e625ea00036d9460c2590a7bda1bd582076dcbbd714cad6cd5f6e5d9d06", func := "brevet/brevetlaw02.CrcRound", spec := "crcRound", apart := false, narrowed := true }
def CrcRoundUptoSaid : Prop := crcRoundUptoRow.holds Try.pinned (OpenSpec.upto crcRoundSpec)

/-- 'brevetlaw02.CrcOwns', WHERE WHAT IT READS IS OF BULK AT MOST 1048576: true; the input reads as it did. -/
def crcOwnsUptoRow : OpenClaim := { program := "ytjjgejdblibkmaa", sum := "f3c25e625ea00036d9460c2590a7bda1bd582076dcbbd714cad6cd5f6e5d9d06", func := "brevet/brevetlaw02.CrcOwns", spec := "crcOwns", apart := false, narrowed := true }
def CrcOwnsUptoSaid : Prop := crcOwnsUptoRow.holds Try.pinned (OpenSpec.upto crcOwnsSpec)

end Rows
end Go.Proofs.Ytjjgejdblibkmaa
