/- THE WALKS of the law's example, and of B64Encodes and B64Letters. -/
import Derived.Test.YtfdffdfglhfepaaB64Dec
namespace Go.Proofs.Ytfdffdfglhfepaa
open Go.RowKit Mem B64

theorem dec_agl : dec [97, 71, 108] = none := by decide +kernel
theorem enc_hi : enc [104, 105] = [97, 71, 107] := by decide +kernel

set_option maxHeartbeats 2000000 in
theorem lives_any (w : World) : Calls Try.prog 11 #[] w fun e w' => e = .returned (.bool true) ∧ Below w.heap.size w w' := by
  have kc := fun (w : World) (C : Array Value) (n c : Nat) => Lib.run_convert_bytes_const (P := Try.prog) w 22 5 C n c Try.underlying22 Try.underlying5
  have hd := decode_any [97, 71, 108] w (by simp)
  have hdA : Calls Try.prog 12 #[.string (str [97, 71, 108])] w fun e w' => ∃ A c, e = .returned (.tuple #[.slice A 0 c, .int .i64 13]) ∧ Below w.heap.size w w' := by
    refine hd.mono ?_
    rintro e w' ⟨A, n, c, rfl, _, hown, hb⟩
    rw [dec_agl] at hown ⊢
    have h0 : n = 0 := by have := hown.1; simp [bv] at this; omega
    subst h0
    exact ⟨A, c, rfl, hb⟩
  clear hd
  go_enter Try.func11, Try.ntmps11
  go_wp2_with fail
  refine hdA.mono ?_
  rintro e w1 ⟨A, c, rfl, hb1⟩
  have he := fun C => encode_any (some ⟨w1.heap.size, 0, none⟩) 2 C _ [104, 105] (w1.alloc (.cells #[.int .u8 104, .int .u8 105] 5 (2, 3))) (Bs.new w1 #[.int .u8 104, .int .u8 105] 5 (2, 3) 2 [104, 105] rfl rfl) (by omega) (by simp)
  rw [enc_hi] at he
  clear hdA
  go_wp2_with fail
  refine (he 2).mono ?_
  rintro e w2 ⟨rfl, hb2⟩
  have hend : Below w.heap.size w w2 := (hb1.alloc hb1.size (.cells #[.int .u8 104, .int .u8 105] 5 (2, 3))).trans (hb2.mono (by have := hb1.size; simp; omega))
  have hq : str [97, 71, 107] = ⟨#[97, 71, 107]⟩ := rfl
  rw [hq]
  clear he hb1 hb2 hq
  go_wp2
  go_ret
  exact ⟨rfl, hend⟩

set_option maxHeartbeats 2000000 in
theorem b64Encodes_walk (A : Option Addr) (n c : Nat) (l : List UInt8) (w : World) (hd : Bs w w.heap.size A n l) (hn : n ≤ c) (_hc : c ≤ 9223372036854775807) :
    Calls Try.prog 3 #[.slice A n c] w fun e w' => e = .returned (.bool true) ∧ Below w.heap.size w w' := by
  obtain ⟨k, hk⟩ : ∃ k, min n 200 = k := ⟨_, rfl⟩
  have HK := Lib.hid hk
  have hd2 : Bs w w.heap.size A k (l.take k) := by rw [← hk]; exact hd.take (Nat.min_le_left _ _)
  have hk2 : k ≤ 200 := by omega
  generalize l.take k = lt at hd2
  clear hk hd
  obtain ⟨E, hE⟩ : ∃ E, enc lt = E := ⟨_, rfl⟩
  have h1 := encode_any A k c _ lt w hd2 (by omega) (Nat.le_refl _)
  have h2 := fun w' (hb : Below w.heap.size w w') => refEncode_any A k c _ lt w' (hd2.below hb) (by omega) hb.size
  rw [hE] at h1 h2
  have hself : (E == E) = true := beq_self_eq_true _
  clear hE
  go_enter Try.func3, Try.ntmps3
  go_wp2_with fail
  refine (few_at _ _ _ _ _ hn HK).mono ?_
  rintro e w' ⟨rfl, rfl⟩
  go_wp2_with fail
  refine h1.mono ?_
  rintro e w1 ⟨rfl, hb1⟩
  go_wp2_with fail
  refine (h2 w1 hb1).mono ?_
  rintro e w2 ⟨rfl, hb2⟩
  have hb12 := hb1.trans (hb2.mono hb1.size)
  go_wp2_with fail
  refine (lives_any _).mono ?_
  rintro e w4 ⟨rfl, hb4⟩
  go_wp2
  go_ret
  exact ⟨rfl, hb12.trans (hb4.mono hb12.size)⟩
end Go.Proofs.Ytfdffdfglhfepaa
