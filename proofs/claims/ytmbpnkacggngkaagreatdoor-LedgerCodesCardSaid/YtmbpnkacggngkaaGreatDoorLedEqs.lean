/- HOW THE MODEL COMPARES a ledger's structs. -/
import Derived.Test.YtmbpnkacggngkaaGreatDoorLedOpW
import Derived.Laws.StructEq
namespace Go.Proofs.YtmbpnkacggngkaaGreatDoor
open Go.RowKit Mem Led

def jwkRow (k : Led.Jwk) : List Value := [tx k.kid, tx k.x]
def nodeRow (n : Led.Node) : List Value := [tx n.name, tx n.key, nm n.expires, nm n.seq, tx n.doc]
def joinRow (j : Led.Join) : List Value := [tx j.text, tx j.name, nm j.expires, .bool j.used]
def keyRow (k : Led.Key) : List Value := [tx k.kid, tx k.seed, nm k.state, nm k.since]
def jwkEq (a b : Led.Jwk) : Bool := a.kid == b.kid && a.x == b.x
def nodeEq (a b : Led.Node) : Bool := a.name == b.name && a.key == b.key && a.expires == b.expires && a.seq == b.seq && a.doc == b.doc
def joinEq (a b : Led.Join) : Bool := a.text == b.text && a.name == b.name && a.expires == b.expires && a.used == b.used
def keyEq (a b : Led.Key) : Bool := a.kid == b.kid && a.seed == b.seed && a.state == b.state && a.since == b.since
theorem jwkEq_iff {a b : Led.Jwk} : jwkEq a b = true ↔ a = b := by
  cases a; cases b; simp [jwkEq]
theorem nodeEq_iff {a b : Led.Node} : nodeEq a b = true ↔ a = b := by
  cases a; cases b; simp [nodeEq, and_assoc]
theorem joinEq_iff {a b : Led.Join} : joinEq a b = true ↔ a = b := by
  cases a; cases b; simp [joinEq, and_assoc]
theorem keyEq_iff {a b : Led.Key} : keyEq a b = true ↔ a = b := by
  cases a; cases b; simp [keyEq, and_assoc]
theorem str_list_beq (a b : Txt) : ((str a).toList == (str b).toList) = (a == b) := by
  rw [str_bytes, str_bytes]
theorem neq_jwk (a b : Led.Jwk) (w : World) : (Go.binOp .neq 54 (.agg (jwkRow a).toArray) (.agg (jwkRow b).toArray)).run Tryz.prog w = .ok (.bool (!jwkEq a b)) w := by
  have u3 := Tryz.underlying9
  have hS : Tryz.prog.underlying 54 = some (.struct (Tryz.prog.fieldsOf 54)) := by kernel_rfl
  have hp : Tryz.prog.stoodInHeld 54 = false := by kernel_rfl
  unfold jwkEq
  simp only [jwkRow, tx]
  rw [run_neq_struct, show (10000 : Nat) = 9999 + 1 from rfl, run_equalIn_agg w 9999 54 _ _ hS hp]
  simp only [Program.fieldsOf, Tryz.underlying54]
  go_simp
  by_cases h1 : a.kid = b.kid <;> by_cases h2 : a.x = b.x <;> simp [h1, h2]
end Go.Proofs.YtmbpnkacggngkaaGreatDoor
