/- THE WALK of WalSizes. -/
import Derived.Test.YtgaplcgenlphdaaWalCalls
namespace Go.Proofs.Ytgaplcgenlphdaa
open Go.RowKit Mem Wal

set_option maxRecDepth 100000 in
set_option maxHeartbeats 8000000 in
theorem walSizes_walk (x : Int) (w : World) (wx : (Lit.int .i64 x).wf = true) : Calls Try.prog 3 #[.int .i64 x] w fun e w' => e = .returned (.bool true) ∧ Below w.heap.size w w' := by
  obtain ⟨hx1, hx2⟩ := wf_int wx
  have main : (∃ m k : Nat, m ≤ 9223372036854775807 ∧ k < 31 ∧ x = (m : Int) ∧ Hid ((m : Int) % 31 = (k : Int))) ∨ (∃ m k : Nat, m ≤ 9223372036854775807 ∧ k < 31 ∧ x = -(m : Int) - 1 ∧ Hid ((m : Int) % 31 = (k : Int))) := by
    by_cases h : 0 ≤ x
    · obtain ⟨m, rfl⟩ := Int.eq_ofNat_of_zero_le h
      exact .inl ⟨m, m % 31, by omega, by omega, rfl, Lib.hid (by omega)⟩
    · obtain ⟨m, hm⟩ := Int.eq_ofNat_of_zero_le (show 0 ≤ -x - 1 by omega)
      exact .inr ⟨m, m % 31, by omega, by omega, by omega, Lib.hid (by omega)⟩
  clear wx
  rcases main with ⟨m, k, hm, hk, rfl, HM⟩ | ⟨m, k, hm, hk, rfl, HM⟩
  all_goals
    have hmk := HM.out
    by_cases h0 : k = 0
    · subst h0
      have hnew := new_none 0 w (by omega)
      go_enter Try.func3, Try.ntmps3
      go_wp2_with fail
      refine hnew.mono ?_
      rintro e w' ⟨rfl, rfl⟩
      go_wp2_with fail
      refine (open_nil _).mono ?_
      rintro e w' ⟨rfl, rfl⟩
      go_wp2_with fail
      refine (lives_any _).mono ?_
      rintro e w4 ⟨rfl, hb4⟩
      go_wp2
      go_ret
      exact ⟨rfl, hb4⟩
    · by_cases h7 : k < 7
      · have hnew := new_any k w (by omega) (by omega)
        go_enter Try.func3, Try.ntmps3
        go_wp2_with fail
        refine hnew.mono ?_
        rintro e w1 ⟨p, g, rfl, i1, hb1, hp, hg⟩
        go_wp2_with fail
        refine (wopen_few i1 (by simpa [DS.fresh] using h7)).mono ?_
        rintro e w' ⟨rfl, rfl⟩
        go_wp2_with fail
        refine (lives_any _).mono ?_
        rintro e w4 ⟨rfl, hb4⟩
        go_wp2
        go_ret
        exact ⟨rfl, hb1.trans (hb4.mono hb1.size)⟩
      · have hnew := new_any k w (by omega) (by omega)
        have hk7 : 7 ≤ k := by omega
        obtain ⟨hf, hhf⟩ : ∃ hf, Wal.half k = hf := ⟨_, rfl⟩
        have hdiv : ((k : Int) - 3) / 2 = (hf : Int) := by rw [← hhf]; unfold Wal.half; omega
        go_enter Try.func3, Try.ntmps3
        go_wp2_with fail
        refine hnew.mono ?_
        rintro e w1 ⟨p, g, rfl, i1, hb1, hp, hg⟩
        go_wp2_with fail
        refine (open_fresh i1 (by omega) (by omega)).mono ?_
        rintro e w2 ⟨d2, q, A2, c2, xs2, rfl, i2, l2, v2, hq, _, n2, wr2, lf2, hc2⟩
        have hb2 : Below w.heap.size w w2 := ((Chg.of_below (S := []) hb1).trans hc2 (by intro s hs; simp at hs; exact .inr (by omega))).below (by simp)
        have hh := half_any l2 i2 (by omega)
        rw [n2, hhf] at hh
        have hu := used_any l2
        clear i1 i2 v2 hnew
        go_wp2_with fail
        refine hh.mono ?_
        rintro e w' ⟨rfl, rfl⟩
        go_wp2_with fail
        refine hu.mono ?_
        rintro e w' ⟨rfl, rfl⟩
        go_wp2_with fail
        refine (lives_any _).mono ?_
        rintro e w4 ⟨rfl, hb4⟩
        go_wp2
        go_ret
        exact ⟨rfl, hb2.trans (hb4.mono hb2.size)⟩
end Go.Proofs.Ytgaplcgenlphdaa
