/- THE WALK of B64Decodes. -/
import Derived.Test.YtfdffdfglhfepaaB64RefDec
import Derived.Test.YtfdffdfglhfepaaB64Lives
namespace Go.Proofs.Ytfdffdfglhfepaa
open Go.RowKit Mem B64
namespace Dcs

theorem str_of (s : ByteArray) : s = str s.data.toList := by
  cases s
  simp [str]
theorem take_str (l : List UInt8) (k : Nat) : (str l).extract 0 k = str (l.take k) := by
  apply ByteArray.ext
  simp [str]

set_option maxRecDepth 100000 in
set_option maxHeartbeats 2000000 in
theorem dec_at (st sf : List UInt8) (w : World) (hst : st.length ≤ 200) (h : (sf = st ∧ (str sf).size ≤ 200) ∨ ((str sf).extract 0 200 = str st ∧ 200 < (str sf).size ∧ (str sf).size ≤ 9223372036854775807)) :
    Calls Try.prog 4 #[.string (str sf)] w fun e w' => e = .returned (.bool true) ∧ Below w.heap.size w w' := by
  cases hdec : dec st with
  | none =>
    have h2 : ∀ w1, Calls Try.prog 12 #[.string (str st)] w1 fun e w' => ∃ A c, e = .returned (.tuple #[.slice A 0 c, .int .i64 13]) ∧ Below w1.heap.size w1 w' := by
      intro w1
      refine (decode_any st w1 (by omega)).mono ?_
      rintro e w' ⟨A, n, c, rfl, _, hown, hb⟩
      rw [hdec] at hown ⊢
      have h0 : n = 0 := by have := hown.1; simp [bv] at this; omega
      subst h0
      exact ⟨A, c, rfl, hb⟩
    have h3 : ∀ w1, Calls Try.prog 13 #[.string (str st)] w1 fun e w' => ∃ A n c, e = .returned (.tuple #[.slice A n c, .bool false]) ∧ Below w1.heap.size w1 w' := by
      intro w1
      refine (refDecode_any st w1 (by omega)).mono ?_
      rintro e w' ⟨A, n, c, rfl, _, hown, hb⟩
      rw [hdec]
      exact ⟨A, n, c, rfl, hb⟩
    clear hdec
    rcases h with ⟨rfl, hsf⟩ | ⟨hcut, hsf, hsf2⟩
    all_goals
      go_enter Try.func4, Try.ntmps4
      go_wp2_with fail
      refine (h2 w).mono ?_
      rintro e w1 ⟨A2, c2, rfl, hb2⟩
      go_wp2_with fail
      refine (h3 w1).mono ?_
      rintro e w2 ⟨A3, n3, c3, rfl, hb3⟩
      have hb13 := hb2.trans (hb3.mono hb2.size)
      go_wp2_with fail
      refine (lives_any _).mono ?_
      rintro e w4 ⟨rfl, hb4⟩
      go_wp2
      go_ret
      exact ⟨rfl, hb13.trans (hb4.mono hb13.size)⟩
  | some y =>
    have h2 : ∀ w1, Calls Try.prog 12 #[.string (str st)] w1 fun e w' => ∃ A n c, e = .returned (.tuple #[.slice A n c, .int .i64 0]) ∧ w'.ownsRow w1.heap.size 5 1 (.slice A n c) n (bv y) ∧ Below w1.heap.size w1 w' := by
      intro w1
      refine (decode_any st w1 (by omega)).mono ?_
      rintro e w' ⟨A, n, c, rfl, _, hown, hb⟩
      rw [hdec] at hown ⊢
      exact ⟨A, n, c, rfl, hown, hb⟩
    have h3 : ∀ w1, Calls Try.prog 13 #[.string (str st)] w1 fun e w' => ∃ A n c, e = .returned (.tuple #[.slice A n c, .bool true]) ∧ w'.ownsRow w1.heap.size 5 1 (.slice A n c) n (bv y) ∧ Below w1.heap.size w1 w' := by
      intro w1
      refine (refDecode_any st w1 (by omega)).mono ?_
      rintro e w' ⟨A, n, c, rfl, _, hown, hb⟩
      rw [hdec] at hown ⊢
      exact ⟨A, n, c, rfl, hown, hb⟩
    clear hdec
    have hselfS : (y == y) = true := beq_self_eq_true _
    rcases h with ⟨rfl, hsf⟩ | ⟨hcut, hsf, hsf2⟩
    all_goals
      go_enter Try.func4, Try.ntmps4
      go_wp2_with fail
      refine (h2 w).mono ?_
      rintro e w1 ⟨A2, n2, c2, rfl, hown2, hb2⟩
      go_wp2_with fail
      refine (h3 w1).mono ?_
      rintro e w2 ⟨A3, n3, c3, rfl, hown3, hb3⟩
      have hb13 := hb2.trans (hb3.mono hb2.size)
      have hx2 := conv (l := y) (Bs.of_own (own_below hown2 hb3 (Nat.le_refl _))) c2
      have hx3 := conv (l := y) (Bs.of_own hown3) c3
      clear hown3 hown2
      go_wp2_with fail
      refine (lives_any _).mono ?_
      rintro e w4 ⟨rfl, hb4⟩
      go_wp2
      go_ret
      exact ⟨rfl, hb13.trans (hb4.mono hb13.size)⟩
end Dcs
theorem b64Decodes_walk (s : ByteArray) (w : World) (ws : s.size ≤ maxLen) :
    Calls Try.prog 4 #[.string s] w fun e w' => e = .returned (.bool true) ∧ Below w.heap.size w w' := by
  have hs := Dcs.str_of s
  have hl : s.data.toList.length = s.size := Array.length_toList
  by_cases h : s.size ≤ 200
  · rw [hs]
    exact Dcs.dec_at s.data.toList s.data.toList w (by rw [hl]; exact h) (.inl ⟨rfl, by rw [← hs]; exact h⟩)
  · rw [hs]
    refine Dcs.dec_at (s.data.toList.take 200) s.data.toList w (by rw [List.length_take]; omega) (.inr ⟨Dcs.take_str _ _, ?_, ?_⟩)
    · rw [← hs]; omega
    · rw [← hs]; unfold maxLen at ws; omega
end Go.Proofs.Ytfdffdfglhfepaa
