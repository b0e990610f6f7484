/- string(b), s[k:] at []byte: no function of a package. -/
import Derived.Test.YtfdffdfglhfepaaRows
import Derived.Test.YtfdffdfglhfepaaMem
import Derived.WalkLawsBesides
import Derived.BigQuiet
namespace Go.Proofs.Ytfdffdfglhfepaa
open Go.RowKit Mem

theorem info8 : (Try.prog.info? 5).map (fun i => (i.zero, i.size, i.bytes)) = some (some (.int .u8 0), 1, 1) := by kernel_rfl

theorem ret_bool {a b : Bool} (h : a = b) : Ending.returned (.bool a) = .returned (.bool b) := by rw [h]
theorem ret_int {k : IntKind} {a b : Int} (h : a = b) : Ending.returned (.int k a) = .returned (.int k b) := by rw [h]

/-- 'string(b)'. -/
theorem conv {w : World} {B n : Nat} {A : Option Addr} {l : List UInt8} (h : Bs w B A n l) (c : Nat) : (convert 22 9 (.slice A n c)).run Try.prog w = .ok (.string (str l)) w :=
  run_string h _ _ _ c Try.underlying22 Try.underlying5 Try.underlying9

/-- 's[k:]'. -/
theorem slice_from (w : World) (A : Option Addr) (n c k : Nat) (hk : k ≤ n) : (Instr.slice 22 (.slice A n c) (some (.int .i64 (k : Int))) none none).run Try.prog w = .ok (.slice (dropAt A c k) (n - k) (c - k)) w := by
  have he : Try.prog.elem 22 = 5 := by simp [Program.elem, Try.underlying22]
  have hs : (sizeOf 5).run Try.prog w = .ok 1 w := by
    obtain ⟨i0, hi, _, hz1, _⟩ := info_parts info8
    simp [sizeOf, typeInfo, hi, hz1]
  rw [run_slice_l w 22 A n c (by rw [he]; exact Try.underlying22) .i64 (k : Int) (by omega) (by omega), he, hs]
  simp [Result.andThen, sliced, dropAt]

end Go.Proofs.Ytfdffdfglhfepaa
