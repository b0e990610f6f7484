/- WHAT CAME IN (ids): two strings. -/
import Derived.Test.YtjndogfbhhbfcaaDoorIdsWalks2
import Derived.Test.YtjndogfbhhbfcaaDoorIdsIn
import Derived.Deep.Slices
import Derived.Deep.Strs
namespace Go.Proofs.YtjndogfbhhbfcaaDoor
open Go.RowKit Mem

theorem idsRound_in (s s' : ByteArray) (w : World) (ws : s.size ≤ maxLen) (ws' : s'.size ≤ maxLen) : Calls Tryd.prog 6 #[.string s, .string s'] w fun e w' => e = .returned (.bool true) ∧ Below w.heap.size w w' := by
  rw [str_of s, str_of s']; exact idsRound_walk _ _ w (str_len ws) (str_len ws')
theorem idsAgents_in (s s' : ByteArray) (w : World) (ws : s.size ≤ maxLen) (ws' : s'.size ≤ maxLen) : Calls Tryd.prog 8 #[.string s, .string s'] w fun e w' => e = .returned (.bool true) ∧ Below w.heap.size w w' := by
  rw [str_of s, str_of s']; exact idsAgents_walk _ _ w (str_len ws) (str_len ws')
end Go.Proofs.YtjndogfbhhbfcaaDoor
