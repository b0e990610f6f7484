/- THE WALKS of the reference's value, letter, bits, number; of few. -/
import Derived.Test.YtfdffdfglhfepaaB64Spec
import Derived.Test.YtfdffdfglhfepaaBytesMin
namespace Go.Proofs.Ytfdffdfglhfepaa
open Go.RowKit Mem B64

theorem few_at (A : Option Addr) (n c k : Nat) (w : World) (hn : n ≤ c) (hk : Hid (min n 200 = k)) :
    Calls Try.prog 8 #[.slice A n c] w fun e w' => e = .returned (.slice A k c) ∧ w = w' := by
  have hk' := hk.out
  by_cases h : 200 < n
  · obtain rfl : k = 200 := by omega
    go_enter Try.func8, Try.ntmps8
    go_wp2
    go_ret
    exact ⟨rfl, rfl⟩
  · obtain rfl : k = n := by omega
    go_enter Try.func8, Try.ntmps8
    go_wp2
    go_ret
    exact ⟨rfl, rfl⟩

def valI (m : Nat) : Int := if 65 ≤ m ∧ m ≤ 90 then (m : Int) - 65 else if 97 ≤ m ∧ m ≤ 122 then (m : Int) - 97 + 26 else if 48 ≤ m ∧ m ≤ 57 then (m : Int) - 48 + 52 else if m = 45 then 62 else if m = 95 then 63 else -1
theorem valI_eq (c : UInt8) : valI c.toNat = match val c with
    | some n => (n : Int)
    | none => -1 := by
  unfold valI val
  split
  · simp; omega
  · split
    · simp; omega
    · split
      · simp; omega
      · split
        · rfl
        · split <;> rfl
theorem value_any (m : Nat) (hm : m < 256) (w : World) : Calls Try.prog 20 #[.int .u8 (m : Int)] w fun e w' => e = .returned (.int .i64 (valI m)) ∧ w = w' := by
  by_cases h1 : 65 ≤ m ∧ m ≤ 90
  · have e : valI m = (m : Int) - 65 := by unfold valI; rw [if_pos h1]
    rw [e]
    obtain ⟨a1, a2⟩ := h1
    clear e
    go_enter Try.func20, Try.ntmps20
    go_wp2
    go_ret
    exact ⟨rfl, rfl⟩
  by_cases h2 : 97 ≤ m ∧ m ≤ 122
  · have e : valI m = (m : Int) - 97 + 26 := by unfold valI; rw [if_neg h1, if_pos h2]
    rw [e]
    obtain ⟨a1, a2⟩ := h2
    have a3 : ¬ m ≤ 90 := by omega
    have a4 : 65 ≤ m := by omega
    clear e h1
    go_enter Try.func20, Try.ntmps20
    go_wp2
    go_ret
    exact ⟨rfl, rfl⟩
  by_cases h3 : 48 ≤ m ∧ m ≤ 57
  · have e : valI m = (m : Int) - 48 + 52 := by unfold valI; rw [if_neg h1, if_neg h2, if_pos h3]
    rw [e]
    obtain ⟨a1, a2⟩ := h3
    have a3 : ¬ 65 ≤ m := by omega
    have a4 : ¬ 97 ≤ m := by omega
    clear e h1 h2
    go_enter Try.func20, Try.ntmps20
    go_wp2
    go_ret
    exact ⟨rfl, rfl⟩
  by_cases h4 : m = 45
  · subst h4
    have e : valI 45 = 62 := rfl
    rw [e]
    clear e h1 h2 h3
    go_enter Try.func20, Try.ntmps20
    go_wp2
    go_ret
    exact ⟨rfl, rfl⟩
  by_cases h5 : m = 95
  · subst h5
    have e : valI 95 = 63 := rfl
    rw [e]
    clear e h1 h2 h3 h4
    go_enter Try.func20, Try.ntmps20
    go_wp2
    go_ret
    exact ⟨rfl, rfl⟩
  have e : valI m = -1 := by unfold valI; rw [if_neg h1, if_neg h2, if_neg h3, if_neg h4, if_neg h5]
  rw [e]
  have d4 : ((m : Int) == 45) = false := by simp; omega
  have d5 : ((m : Int) == 95) = false := by simp; omega
  have parts : (m < 48) ∨ (57 < m ∧ m < 65) ∨ (90 < m ∧ m < 97) ∨ 122 < m := by omega
  clear e h1 h2 h3 h4 h5
  rcases parts with h | ⟨h, h'⟩ | ⟨h, h'⟩ | h
  · have b1 : ¬ 65 ≤ m := by omega
    have b2 : ¬ 97 ≤ m := by omega
    have b3 : ¬ 48 ≤ m := by omega
    go_enter Try.func20, Try.ntmps20
    go_wp2
    go_ret
    exact ⟨rfl, rfl⟩
  · have b1 : ¬ 65 ≤ m := by omega
    have b2 : ¬ 97 ≤ m := by omega
    have b3 : 48 ≤ m := by omega
    have b4 : ¬ m ≤ 57 := by omega
    go_enter Try.func20, Try.ntmps20
    go_wp2
    go_ret
    exact ⟨rfl, rfl⟩
  · have b1 : 65 ≤ m := by omega
    have b2 : ¬ m ≤ 90 := by omega
    have b3 : 48 ≤ m := by omega
    have b4 : ¬ m ≤ 57 := by omega
    have b5 : ¬ 97 ≤ m := by omega
    go_enter Try.func20, Try.ntmps20
    go_wp2
    go_ret
    exact ⟨rfl, rfl⟩
  · have b1 : 65 ≤ m := by omega
    have b2 : ¬ m ≤ 90 := by omega
    have b3 : 48 ≤ m := by omega
    have b4 : ¬ m ≤ 57 := by omega
    have b5 : 97 ≤ m := by omega
    have b6 : ¬ m ≤ 122 := by omega
    go_enter Try.func20, Try.ntmps20
    go_wp2
    go_ret
    exact ⟨rfl, rfl⟩

theorem lett_lt : ∀ n, n < 64 → (lett n).toNat < 128 := by decide +kernel
/-- The first byte whose number n is: the letter. -/
theorem valI_lett {n : Nat} (hn : n < 64) : valI (lett n).toNat = n := by rw [valI_eq, val_lett n hn]
theorem valI_ne {n k : Nat} (hn : n < 64) (hk : k < (lett n).toNat) : ¬ valI k = n := by
  intro h
  have hk2 : k < 256 := by have := lett_lt n hn; omega
  have h1 := valI_eq (UInt8.ofNat k)
  rw [UInt8.toNat_ofNat_of_lt' (by exact hk2), h] at h1
  cases hv : val (UInt8.ofNat k) with
  | none => rw [hv] at h1; simp at h1
  | some m =>
    rw [hv] at h1
    simp at h1
    obtain rfl : n = m := by omega
    have h2 := (val_some hv).2
    rw [h2, UInt8.toNat_ofNat_of_lt' (by exact hk2)] at hk
    omega
set_option maxRecDepth 100000 in
theorem letter_any (n : Nat) (hn : n < 64) (w : World) : Calls Try.prog 17 #[.int .i64 (n : Int)] w fun e w' => e = .returned (.int .u8 ((lett n).toNat : Int)) ∧ w = w' := by
  have ht := lett_lt n hn
  have hval := valI_lett hn
  have hne := fun k => valI_ne (k := k) hn
  generalize (lett n).toNat = t at ht hval hne
  have HV := Lib.hid hval
  have HN := Lib.hid hne
  clear hval hne
  go_enter Try.func17, Try.ntmps17
  go_wp2
  go_loopw [3] (fun i wr => ∃ k : Nat, k ≤ t ∧ i = .int .i64 k ∧ w = wr) (fun i _ => 128 - (intOf i).toNat)
  case atStart => exact ⟨0, by omega, rfl, rfl⟩
  case round =>
    obtain ⟨k, hk, rfl, rfl⟩ := hrel
    have hv := value_any k (by omega) w
    by_cases hlt : k < t
    · have hn' := HN.out k hlt
      obtain ⟨v, hv'⟩ : ∃ v, valI k = v := ⟨_, rfl⟩
      rw [hv'] at hv hn'
      have hb : (v == (n : Int)) = false := beq_eq_false_iff_ne.2 hn'
      clear hv'
      go_wp2_with fail
      refine hv.mono ?_
      rintro e w' ⟨rfl, rfl⟩
      go_wp2
      go_roundw
      case rel => exact ⟨k + 1, by omega, by go_num, trivial⟩
      case measure => simp [intOf]; omega
    · obtain rfl : k = t := by omega
      rw [HV.out] at hv
      go_wp2_with fail
      refine hv.mono ?_
      rintro e w' ⟨rfl, rfl⟩
      go_wp2
      go_ret
      exact ⟨rfl, rfl⟩
end Go.Proofs.Ytfdffdfglhfepaa
