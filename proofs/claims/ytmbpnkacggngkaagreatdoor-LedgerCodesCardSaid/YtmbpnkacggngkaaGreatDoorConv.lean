/- '[]byte(s)' of a text that is a variable. -/
import Derived.Test.YtmbpnkacggngkaaGreatDoorMem
import Derived.Test.YtmbpnkacggngkaaGreatDoorProg
import Derived.Laws.IdiomStrings
namespace Go.Proofs.YtmbpnkacggngkaaGreatDoor
open Go.RowKit Mem

theorem conv_txt (l : List UInt8) (w : World) : ∃ W2 c, (convert 9 62 (.string (str l))).run Tryz.prog w = .ok (.slice (some ⟨w.heap.size, 0, none⟩) l.length c) W2 ∧ Bs W2 W2.heap.size (some ⟨w.heap.size, 0, none⟩) l.length l ∧ Below w.heap.size w W2 := by
  have h := run_bytes_of_string (P := Tryz.prog) w 9 62 5 (str l) Tryz.underlying9 Tryz.underlying62 Tryz.underlying5
  rw [str_size] at h
  refine ⟨_, _, h, ⟨by rw [bv_length]; omega, fun j u hj => ⟨_, rfl, by simp, ?_⟩⟩, ((Below.refl _ _).drew).alloc (Nat.le_refl _) _⟩
  rw [zero_add_]
  have hjl : j < l.length := by
    have := (List.getElem?_eq_some_iff.1 hj).1
    rwa [bv_length] at this
  have hc := cell_new w.drew (bytesRow (str l) (grownCap w l.length 0 5)) 5 ((bytesRow (str l) (grownCap w l.length 0 5)).size, (bytesRow (str l) (grownCap w l.length 0 5)).size + 1) j
  refine hc.trans ?_
  rw [← hj, bv_at]
  unfold bytesRow
  simp only [str]
  rw [Array.getElem?_append_left (by simpa using hjl)]
  simp [hjl]
end Go.Proofs.YtmbpnkacggngkaaGreatDoor
