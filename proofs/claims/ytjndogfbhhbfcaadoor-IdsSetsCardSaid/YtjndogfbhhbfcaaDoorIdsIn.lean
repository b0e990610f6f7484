/- WHAT CAME IN (ids): a string, a []string. -/
import Derived.Test.YtjndogfbhhbfcaaDoorIdsWalks
import Derived.Deep.Slices
import Derived.Deep.Strs
namespace Go.Proofs.YtjndogfbhhbfcaaDoor
open Go.RowKit Mem

theorem str_of (s : ByteArray) : s = str s.data.toList := by
  cases s
  simp [str]
theorem str_len {s : ByteArray} (ws : s.size ≤ maxLen) : s.data.toList.length ≤ 9223372036854775807 := by
  unfold maxLen at ws
  have : s.data.toList.length = s.size := (Lib.size_eq s).symm
  rw [this]
  exact ws
theorem idsParts_in (s : ByteArray) (w : World) (ws : s.size ≤ maxLen) : Calls Tryd.prog 7 #[.string s] w fun e w' => e = .returned (.bool true) ∧ Below w.heap.size w w' := by
  rw [str_of s]; exact idsParts_walk _ w (str_len ws)
theorem idsParses_in (s : ByteArray) (w : World) (ws : s.size ≤ maxLen) : Calls Tryd.prog 3 #[.string s] w fun e w' => e = .returned (.bool true) ∧ Below w.heap.size w w' := by
  rw [str_of s]; exact idsParses_walk _ w (str_len ws)
end Go.Proofs.YtjndogfbhhbfcaaDoor
