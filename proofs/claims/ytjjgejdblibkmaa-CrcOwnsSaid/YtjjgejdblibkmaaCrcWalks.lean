/- THE WALKS of crc.step, crc.Sum and the reference's Sum: what they tell. -/
import Derived.Test.YtjjgejdblibkmaaRows
import Derived.Test.YtjjgejdblibkmaaCrcSpec
import Derived.Test.YtjjgejdblibkmaaMem
import Derived.WalkLawsBesides
import Derived.BigQuiet
namespace Go.Proofs.Ytjjgejdblibkmaa
open Go.RowKit Mem

set_option maxHeartbeats 400000 in
theorem step_any (s c : Nat) (w : World) (hs : s < 4294967296) (hc : c < 256) :
    Calls Try.prog 16 #[.int .u32 s, .int .u8 c] w fun e w' => e = .returned (.int .u32 (Crc.step s c : Nat)) ∧ w = w' := by
  go_enter Try.func16, Try.ntmps16
  go_wp2
  go_loop [0, 10] (fun t i => ∃ k : Nat, k ≤ 8 ∧ i = .int .i64 k ∧ t = .int .u32 (Crc.rounds k (s ^^^ c) : Nat)) (fun _ i => 8 - (intOf i).toNat)
  case atStart => exact ⟨0, by omega, rfl, by rw [u32_xor_nat s c (by omega) (by omega)]; rfl⟩
  case round =>
    obtain ⟨k, hk, rfl, rfl⟩ := hrel
    have hr : Crc.rounds k (s ^^^ c) < 4294967296 := Crc.rounds_lt (Crc.xor_lt32 hs hc) k
    by_cases hlt : k < 8
    · go_wp2
      go_round
      case rel => exact ⟨k + 1, by omega, by go_num, by rw [Crc.half_u32 _ hr]; rfl⟩
      case measure => simp [intOf]; omega
    · go_wp2
      obtain rfl : k = 8 := by omega
      go_ret
      exact ⟨rfl, rfl⟩

theorem ret_int {k : IntKind} {a b : Int} (h : a = b) : Ending.returned (.int k a) = .returned (.int k b) := by rw [h]
theorem run_take_succ (l : List UInt8) (k : Nat) (hk : k < l.length) (s : Nat) : Crc.run (l.take (k + 1)) s = Crc.step (Crc.run (l.take k) s) (l[k].toNat) := by
  rw [List.take_succ_eq_append_getElem hk, Crc.run_snoc]

set_option maxHeartbeats 400000 in
theorem sum_any (A : Option Addr) (n c B : Nat) (l : List UInt8) (w : World) (hd : Bs w B A n l) (hn : n ≤ 9223372036854775807) :
    Calls Try.prog 9 #[.slice A n c] w fun e w' => e = .returned (.int .i64 (Crc.sum l : Nat)) ∧ w = w' := by
  go_enter Try.func9, Try.ntmps9
  go_wp2
  go_loop [3, 8] (fun t i => ∃ k : Nat, k ≤ n ∧ i = .int .i64 k ∧ t = .int .u32 (Crc.run (l.take k) 4294967295 : Nat)) (fun _ i => n - (intOf i).toNat)
  case atStart => exact ⟨0, by omega, rfl, rfl⟩
  case round =>
    obtain ⟨k, hk, rfl, rfl⟩ := hrel
    have hr : Crc.run (l.take k) 4294967295 < 4294967296 := Crc.run_lt _ (by omega)
    by_cases hlt : k < n
    · obtain ⟨ad, hl, rfl, hb, hc⟩ := hd.at_ hlt
      have hbt : l[k].toNat < 256 := l[k].toNat_lt
      go_wp2_with (go_at_call 16; refine (step_any _ _ _ hr hbt).mono ?_; rintro e w' ⟨rfl, rfl⟩)
      go_round
      case rel => exact ⟨k + 1, by omega, by go_num, by rw [run_take_succ l k hl]⟩
      case measure => simp [intOf]; omega
    · go_wp2
      obtain rfl : k = n := by omega
      go_ret
      exact ⟨ret_int (by rw [Crc.final_u32 _ hr, List.take_of_length_le (by rw [hd.len]; omega)]; have := Crc.sum_lt l; unfold Crc.sum at *; unfold wrap64; omega), rfl⟩

set_option maxHeartbeats 400000 in
theorem refsum_any (A : Option Addr) (n c B : Nat) (l : List UInt8) (w : World) (hd : Bs w B A n l) (hn : n ≤ 9223372036854775807) :
    Calls Try.prog 10 #[.slice A n c] w fun e w' => e = .returned (.int .i64 (Crc.sum l : Nat)) ∧ w = w' := by
  go_enter Try.func10, Try.ntmps10
  go_wp2
  go_loop [3, 4] (fun t i => ∃ k : Nat, k ≤ n ∧ i = .int .i64 k ∧ t = .int .i64 (Crc.run (l.take k) 4294967295 : Nat)) (fun _ i => n - (intOf i).toNat)
  case atStart => exact ⟨0, by omega, rfl, rfl⟩
  case round =>
    obtain ⟨k, hk, rfl, rfl⟩ := hrel
    have hr : Crc.run (l.take k) 4294967295 < 4294967296 := Crc.run_lt _ (by omega)
    by_cases hlt : k < n
    · obtain ⟨ad, hl, rfl, hb, hc⟩ := hd.at_ hlt
      have hbt : l[k].toNat < 256 := l[k].toNat_lt
      go_wp2
      go_loop [3, 5] (fun t i => ∃ j : Nat, j ≤ 8 ∧ i = .int .i64 j ∧ t = .int .i64 (Crc.rounds j (Crc.run (l.take k) 4294967295 ^^^ l[k].toNat) : Nat)) (fun _ i => 8 - (intOf i).toNat)
      case atStart => exact ⟨0, by omega, rfl, by rw [Crc.xor_i64 _ _ hr (by omega)]; rfl⟩
      case round =>
        obtain ⟨j, hj, rfl, rfl⟩ := hrel
        have hrr : Crc.rounds j (Crc.run (l.take k) 4294967295 ^^^ l[k].toNat) < 4294967296 := Crc.rounds_lt (Crc.xor_lt32 hr hbt) j
        by_cases hj8 : j < 8
        · go_wp2
          · go_round
            case rel => exact ⟨j + 1, by omega, by go_num, by rw [Crc.half_odd _ hrr (by assumption)]; rfl⟩
            case measure => simp [intOf]; omega
          · go_round
            case rel => exact ⟨j + 1, by omega, by go_num, by rw [Crc.half_even _ (by assumption)]; rfl⟩
            case measure => simp [intOf]; omega
        · obtain rfl : j = 8 := by omega
          go_wp2
          go_round
          case rel => exact ⟨k + 1, by omega, by go_num, by rw [run_take_succ l k hl]; rfl⟩
          case measure => simp [intOf]; omega
    · obtain rfl : k = n := by omega
      go_wp2
      go_ret
      exact ⟨ret_int (by rw [List.take_of_length_le (by rw [hd.len]; omega)] at hr ⊢; unfold Crc.sum; omega), rfl⟩

/-- The document's example. -/
theorem example_sum : Crc.sum [49, 50, 51, 52, 53, 54, 55, 56, 57] = 3421780262 := by decide +kernel

set_option maxHeartbeats 400000 in
theorem lives_any (w : World) :
    Calls Try.prog 11 #[] w fun e w' => e = .returned (.bool true) ∧ Below w.heap.size w w' := by
  have kc := fun (w : World) (C : Array Value) (n c : Nat) => Lib.run_convert_bytes_const (P := Try.prog) w 22 5 C n c Try.underlying22 Try.underlying5
  go_enter Try.func11, Try.ntmps11
  go_wp2_with fail
  refine (sum_any _ 9 _ _ [49, 50, 51, 52, 53, 54, 55, 56, 57] _ (Bs.new w _ _ _ _ _ rfl rfl) (by omega)).mono ?_
  rintro e w' ⟨rfl, rfl⟩
  rw [example_sum]
  go_wp2
  go_ret
  exact ⟨rfl, (Below.refl _ _).alloc (Nat.le_refl _) _⟩

/-- 'few': the first 400 bytes. -/
theorem few_any (A : Option Addr) (n c : Nat) (w : World) (hn : n ≤ c) :
    Calls Try.prog 8 #[.slice A n c] w fun e w' => e = .returned (.slice A (min n 400) c) ∧ w = w' := by
  by_cases h : 400 < n
  · go_enter Try.func8, Try.ntmps8
    go_wp2
    go_ret
    exact ⟨by rw [Nat.min_eq_right (by omega)]; rfl, rfl⟩
  · go_enter Try.func8, Try.ntmps8
    go_wp2
    go_ret
    exact ⟨by rw [Nat.min_eq_left (by omega)]; rfl, rfl⟩

/-- 'CrcSums' itself. -/
theorem crcSums_walk (A : Option Addr) (n c : Nat) (l : List UInt8) (w : World) (hd : Bs w w.heap.size A n l) (hn : n ≤ c) (hc : c ≤ 9223372036854775807) :
    Calls Try.prog 3 #[.slice A n c] w fun e w' => e = .returned (.bool true) ∧ Below w.heap.size w w' := by
  have hm : min n 400 ≤ 9223372036854775807 := by omega
  have hf := hd.take (k := min n 400) (by omega)
  go_enter Try.func3, Try.ntmps3
  go_wp2_with fail
  refine (few_any _ _ _ _ hn).mono ?_
  rintro e w' ⟨rfl, rfl⟩
  go_wp2_with fail
  refine (sum_any _ _ _ _ _ _ hf hm).mono ?_
  rintro e w' ⟨rfl, rfl⟩
  go_wp2_with fail
  refine (refsum_any _ _ _ _ _ _ hf hm).mono ?_
  rintro e w' ⟨rfl, rfl⟩
  go_wp2_with fail
  refine (lives_any _).mono ?_
  rintro e w' ⟨rfl, hb⟩
  go_wp2
  go_ret
  exact ⟨rfl, hb⟩
end Go.Proofs.Ytjjgejdblibkmaa
