/- SHIFTS AND MASKS of small numbers. -/
import Derived.Test.YtfdffdfglhfepaaB64Bits
import Derived.Laws.BitsLemmas
namespace Go.Proofs.Ytfdffdfglhfepaa
open Go.RowKit

theorem wraps_i64_20 (n : Int) (h₀ : 0 ≤ n) (h₁ : n < 2 ^ 20) : IntKind.i64.wrap n = n := by rw [IntKind.wrap_i64]; omega
section
variable (x : Nat) (hx : x < 1048576)
include hx
theorem and63 : Go.bits .and .i64 (x : Int) 63 = ((x % 64 : Nat) : Int) := by
  have := bits_mask .i64 20 (by decide) wraps_i64_20 6 (by decide) (x : Int) (by omega) (by omega)
  simpa using this
theorem and15 : Go.bits .and .i64 (x : Int) 15 = ((x % 16 : Nat) : Int) := by
  have := bits_mask .i64 20 (by decide) wraps_i64_20 4 (by decide) (x : Int) (by omega) (by omega)
  simpa using this
theorem and3 : Go.bits .and .i64 (x : Int) 3 = ((x % 4 : Nat) : Int) := by
  have := bits_mask .i64 20 (by decide) wraps_i64_20 2 (by decide) (x : Int) (by omega) (by omega)
  simpa using this
theorem and0 : Go.bits .and .i64 (x : Int) 0 = ((x % 1 : Nat) : Int) := by
  have := bits_mask .i64 20 (by decide) wraps_i64_20 0 (by decide) (x : Int) (by omega) (by omega)
  simpa [Nat.mod_one, Int.emod_one] using this
end
theorem or256 (x y : Nat) (hx : x < 4096) (hy : y < 256) : Go.bits .or .i64 ((x : Int) * 256) (y : Int) = ((x * 256 + y : Nat) : Int) := by
  have := bits_join .i64 20 (by decide) wraps_i64_20 8 ((x : Int) * 256) (y : Int) (by omega) (by omega) (by omega) (by omega) (by omega) (by omega)
  rw [this]
  omega
theorem or64 (x y : Nat) (hx : x < 4096) (hy : y < 64) : Go.bits .or .i64 ((x : Int) * 64) (y : Int) = ((x * 64 + y : Nat) : Int) := by
  have := bits_join .i64 20 (by decide) wraps_i64_20 6 ((x : Int) * 64) (y : Int) (by omega) (by omega) (by omega) (by omega) (by omega) (by omega)
  rw [this]
  omega
theorem mask_any (x sh : Nat) (hx : x < 1048576) (h : sh ≤ 7) : Go.bits .and .i64 (x : Int) (wrap64 (wrap64 (2 ^ sh) - 1)) = ((x % 2 ^ sh : Nat) : Int) := by
  have key : ∀ i, i ≤ 7 → wrap64 (wrap64 (2 ^ i) - 1) = 2 ^ i - 1 := by decide +kernel
  rw [key sh h, bits_mask .i64 20 (by decide) wraps_i64_20 sh (by omega) (x : Int) (by omega) (by omega)]
  simp
end Go.Proofs.Ytfdffdfglhfepaa
