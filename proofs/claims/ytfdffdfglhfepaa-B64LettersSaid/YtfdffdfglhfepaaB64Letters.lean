/- THE WALK of B64Letters. -/
import Derived.Test.YtfdffdfglhfepaaB64Lives
namespace Go.Proofs.Ytfdffdfglhfepaa
open Go.RowKit Mem B64

theorem val_ranges {c : UInt8} {n : Nat} (h : val c = some n) : (65 ≤ c.toNat ∧ c.toNat ≤ 90) ∨ (97 ≤ c.toNat ∧ c.toNat ≤ 122) ∨ (48 ≤ c.toNat ∧ c.toNat ≤ 57) ∨ c.toNat = 45 ∨ c.toNat = 95 := by
  unfold val at h
  split at h
  · omega
  · split at h
    · omega
    · split at h
      · omega
      · split at h
        · omega
        · split at h
          · omega
          · cases h

set_option maxRecDepth 100000 in
set_option maxHeartbeats 2000000 in
theorem b64Letters_walk (A : Option Addr) (n c : Nat) (l : List UInt8) (w : World) (hd : Bs w w.heap.size A n l) (hn : n ≤ c) (_hc : c ≤ 9223372036854775807) :
    Calls Try.prog 7 #[.slice A n c] w fun e w' => e = .returned (.bool true) ∧ Below w.heap.size w w' := by
  obtain ⟨k, hk⟩ : ∃ k, min n 200 = k := ⟨_, rfl⟩
  have HK := Lib.hid hk
  have hd2 : Bs w w.heap.size A k (l.take k) := by rw [← hk]; exact hd.take (Nat.min_le_left _ _)
  have hk2 : k ≤ 200 := by omega
  generalize l.take k = lt at hd2
  clear hk hd
  have h1 := encode_any A k c _ lt w hd2 (by omega) (Nat.le_refl _)
  have hval : ∀ i, (h : i < (enc lt).length) → ∃ v, val (enc lt)[i] = some v := by
    intro i h
    have := List.all_eq_true.1 (enc_valid lt) _ (List.getElem_mem h)
    exact Option.isSome_iff_exists.1 this
  have hlen := enc_length lt
  rw [hd2.len] at hlen
  generalize enc lt = E at *
  obtain ⟨M, hM⟩ : ∃ M, E.length = M := ⟨_, rfl⟩
  have hsz := str_size E
  rw [hM] at hlen hsz
  have hlen2 : ((8 : Int) * k + 5) / 6 = (M : Int) := by omega
  have HM := Lib.hid hM
  have HV := Lib.hid hval
  have HL := Lib.hid hlen2
  have hM2 : M ≤ 300 := by omega
  clear hM hval hlen hlen2 hd2
  go_enter Try.func7, Try.ntmps7
  go_wp2_with fail
  refine (few_at _ _ _ _ _ hn HK).mono ?_
  rintro e w' ⟨rfl, rfl⟩
  go_wp2_with fail
  refine h1.mono ?_
  rintro e w1 ⟨rfl, hb1⟩
  clear h1
  go_wp2
  go_loopw [4] (fun i wr => ∃ j : Nat, j ≤ M ∧ i = .int .i64 j ∧ w1 = wr) (fun i _ => M - (intOf i).toNat)
  case atStart => exact ⟨0, by omega, rfl, rfl⟩
  case round =>
    obtain ⟨j, hj, rfl, rfl⟩ := hrel
    by_cases hlt : j < M
    · have hjs : j < (str E).size := by omega
      have hjl : j < E.length := by rw [HM.out]; exact hlt
      obtain ⟨v, hv⟩ := HV.out j hjl
      have hr := val_ranges hv
      have hce : (str E)[j] = E[j] := rfl
      rw [← hce] at hr
      have hnxt : ∃ j' : Nat, j' ≤ M ∧ Value.int .i64 ((j : Int) + 1) = .int .i64 j' := ⟨j + 1, by omega, by go_num⟩
      have HX := Lib.hid hnxt
      clear hv hce hnxt
      have hm256 := (str E)[j].toNat_lt
      rcases hr with ⟨a1, a2⟩ | ⟨a1, a2⟩ | ⟨a1, a2⟩ | a1 | a1
      · have b1 : ¬ (str E)[j].toNat < 65 := by omega
        go_wp2
        go_roundw
        case rel => exact ⟨j + 1, by omega, by go_num, trivial⟩
        case measure => simp [intOf]; omega
      · have b1 : ¬ (str E)[j].toNat ≤ 90 := by omega
        have b2 : 65 ≤ (str E)[j].toNat := by omega
        go_wp2
        go_roundw
        case rel => exact ⟨j + 1, by omega, by go_num, trivial⟩
        case measure => simp [intOf]; omega
      · have b1 : ¬ 65 ≤ (str E)[j].toNat := by omega
        have b2 : ¬ 97 ≤ (str E)[j].toNat := by omega
        go_wp2
        go_roundw
        case rel => exact ⟨j + 1, by omega, by go_num, trivial⟩
        case measure => simp [intOf]; omega
      · clear hm256
        go_wp2
        go_roundw
        case rel => exact ⟨j + 1, by omega, by go_num, trivial⟩
        case measure => simp [intOf]; omega
      · clear hm256
        have b1 : (((str E)[j].toNat : Int) != 45) = true := by rw [a1]; decide
        have b2 : (((str E)[j].toNat : Int) != 95) = false := by rw [a1]; decide
        have b3 : decide (((str E)[j].toNat : Int) ≤ 90) = false := by rw [a1]; decide
        have b4 : decide (((str E)[j].toNat : Int) ≤ 57) = false := by rw [a1]; decide
        have b5 : ¬ (str E)[j].toNat ≤ 90 := by omega
        have b6 : ¬ (str E)[j].toNat ≤ 57 := by omega
        have b7 : ¬ 97 ≤ (str E)[j].toNat := by omega
        have b8 : 65 ≤ (str E)[j].toNat := by omega
        have b9 : 48 ≤ (str E)[j].toNat := by omega
        have HA1 := Lib.hid a1
        clear a1
        go_wp2
        · exfalso
          rename_i h9 _
          obtain ⟨_, h9⟩ := h9
          exact absurd (show (((str E)[j].toNat : Nat) : Int) = 95 by rw [HA1.out]; rfl) (bne_iff_ne.1 h9)
        go_roundw
        case rel => exact ⟨j + 1, by omega, by go_num, trivial⟩
        case measure => simp [intOf]; omega
    · obtain rfl : j = M := by omega
      have hl := HL.out
      clear hlt
      go_wp2_with fail
      refine (lives_any _).mono ?_
      rintro e w4 ⟨rfl, hb4⟩
      go_wp2
      go_ret
      exact ⟨rfl, hb1.trans (hb4.mono hb1.size)⟩
end Go.Proofs.Ytfdffdfglhfepaa
