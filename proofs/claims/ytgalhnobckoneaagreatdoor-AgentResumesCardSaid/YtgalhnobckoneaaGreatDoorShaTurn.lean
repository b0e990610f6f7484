/- TURNS of words of 32 bits, as shifts and or. -/
import Derived.Test.YtgalhnobckoneaaGreatDoorShaSpec
namespace Go.Proofs.YtgalhnobckoneaaGreatDoor
namespace Sha
theorem down_eq : ∀ (n m : Nat), down n m = m / 2 ^ n
  | 0, m => by simp [down]
  | n + 1, m => by rw [down, down_eq n m, Nat.div_div_eq_div_mul, ← Nat.pow_succ]
theorem turn_eq (m : Nat) : ∀ n, n ≤ 32 → turn n m = m / 2 ^ n + m % 2 ^ n * 2 ^ (32 - n)
  | 0, _ => by simp [turn, Nat.mod_one]
  | n + 1, h => by
    rw [turn, turn_eq m n (by omega)]
    have e1 : 2 ^ (32 - n) = 2 * 2 ^ (32 - (n + 1)) := by rw [← Nat.pow_succ']; congr 1; omega
    have e2 : m % 2 ^ (n + 1) = m % 2 ^ n + 2 ^ n * (m / 2 ^ n % 2) := Nat.mod_pow_succ
    have e3 : m / 2 ^ (n + 1) = m / 2 ^ n / 2 := by rw [Nat.div_div_eq_div_mul, ← Nat.pow_succ]
    have e4 : 2 ^ n * 2 ^ (32 - (n + 1)) = 2147483648 := by rw [← Nat.pow_add, show n + (32 - (n + 1)) = 31 by omega]
    have e5 : 2 ^ n * (m / 2 ^ n % 2) * 2 ^ (32 - (n + 1)) = m / 2 ^ n % 2 * 2147483648 := by
      rw [← e4, Nat.mul_comm (2 ^ n) (m / 2 ^ n % 2), Nat.mul_assoc]
    rw [e1, e2, e3, Nat.add_mul, e5]
    unfold half
    generalize m / 2 ^ n = a
    have e6 : m % 2 ^ n * (2 * 2 ^ (32 - (n + 1))) = 2 * (m % 2 ^ n * 2 ^ (32 - (n + 1))) := by rw [Nat.mul_left_comm]
    rw [e6]
    generalize m % 2 ^ n * 2 ^ (32 - (n + 1)) = b
    omega
theorem turn_or (m : Nat) (hm : m < 4294967296) (n : Nat) (hn : n ≤ 32) : m / 2 ^ n ||| m * 2 ^ (32 - n) % 4294967296 = turn n m := by
  have e : 4294967296 = 2 ^ n * 2 ^ (32 - n) := by rw [← Nat.pow_add, show n + (32 - n) = 32 by omega]
  have h1 : m / 2 ^ n < 2 ^ (32 - n) := by
    rw [Nat.div_lt_iff_lt_mul (Nat.two_pow_pos n), Nat.mul_comm, ← e]
    exact hm
  rw [turn_eq m n hn]
  have h2 : m * 2 ^ (32 - n) % 4294967296 = 2 ^ (32 - n) * (m % 2 ^ n) := by
    rw [e, Nat.mul_mod_mul_right, Nat.mul_comm]
  rw [h2, Nat.or_comm, ← Nat.two_pow_add_eq_or_of_lt h1, Nat.mul_comm (m % 2 ^ n), Nat.add_comm]
end Sha
end Go.Proofs.YtgalhnobckoneaaGreatDoor
