/- THE WALKS of CrcSeals, CrcTwo, CrcRound, CrcOwns. -/
import Derived.Test.YtjjgejdblibkmaaCrcOpen
namespace Go.Proofs.Ytjjgejdblibkmaa
open Go.RowKit Mem

theorem few_at (A : Option Addr) (n c k : Nat) (w : World) (hn : n ≤ c) (hk : Hid (min n 400 = k)) :
    Calls Try.prog 8 #[.slice A n c] w fun e w' => e = .returned (.slice A k c) ∧ w = w' := by
  have h := few_any A n c w hn
  rw [hk.out] at h
  exact h

set_option maxHeartbeats 1000000 in
theorem crcSeals_walk (A : Option Addr) (n c : Nat) (l : List UInt8) (w : World) (hd : Bs w w.heap.size A n l) (hn : n ≤ c) (hc : c ≤ 9223372036854775807) :
    Calls Try.prog 5 #[.slice A n c] w fun e w' => e = .returned (.bool true) ∧ Below w.heap.size w w' := by
  have hf := hd.take (k := min n 400) (by omega)
  by_cases h4 : min n 400 < 4
  · obtain ⟨k, hk⟩ : ∃ k, min n 400 = k := ⟨_, rfl⟩
    rw [hk] at hf h4
    have hkc : k ≤ c := by omega
    have hk' : Hid (min n 400 = k) := hk
    clear hk
    go_enter Try.func5, Try.ntmps5
    go_wp2_with fail
    refine (few_at _ _ _ _ _ hn hk').mono ?_
    rintro e w' ⟨rfl, rfl⟩
    go_wp2_with fail
    refine (seal_any _ _ _ _ _ _ hf (by omega) (Nat.le_refl _)).mono ?_
    rintro e w1 ⟨A1, c1, rfl, g1, g2, hown1, hb1⟩
    go_wp2_with fail
    have hB1 := hb1.size
    refine (refseal_any _ _ _ _ _ _ (hf.below hb1) (by omega) hB1).mono ?_
    rintro e w2 ⟨A2, c2, rfl, g3, g4, hown2, hb2⟩
    go_wp2_with fail
    refine (open_short _ _ _ _ h4).mono ?_
    rintro e w' ⟨rfl, rfl⟩
    go_wp2_with fail
    refine (refopen_short _ _ _ _ h4).mono ?_
    rintro e w' ⟨rfl, rfl⟩
    have hx1 := conv ((Bs.of_own hown1).below hb2) c1
    have hx2 := conv (Bs.of_own hown2) c2
    have hx3 := conv (Bs.empty w2 0 none) 0
    go_wp2_with fail
    refine (lives_any _).mono ?_
    rintro e w3 ⟨rfl, hb3⟩
    go_wp2
    go_ret
    have hb12 := hb1.trans (hb2.mono hB1)
    exact ⟨rfl, hb12.trans (hb3.mono hb12.size)⟩
  · obtain ⟨m, hk⟩ : ∃ m, min n 400 = m + 4 := ⟨min n 400 - 4, by omega⟩
    generalize l.take (min n 400) = lf at hf
    rw [hk] at hf
    have hmc : m + 4 ≤ c := by omega
    have hm4 : m + 4 ≤ 400 := by omega
    have hk' : Hid (min n 400 = m + 4) := hk
    clear hk h4
    cases ho : (Crc.seal_ (lf.take m) == lf)
    · go_enter Try.func5, Try.ntmps5
      go_wp2_with fail
      refine (few_at _ _ _ _ _ hn hk').mono ?_
      rintro e w' ⟨rfl, rfl⟩
      go_wp2_with fail
      refine (seal_any _ _ _ _ _ _ hf (by omega) (Nat.le_refl _)).mono ?_
      rintro e w1 ⟨A1, c1, rfl, g1, g2, hown1, hb1⟩
      go_wp2_with fail
      have hB1 := hb1.size
      refine (refseal_any _ _ _ _ _ _ (hf.below hb1) (by omega) hB1).mono ?_
      rintro e w2 ⟨A2, c2, rfl, g3, g4, hown2, hb2⟩
      go_wp2_with fail
      have hb12 := hb1.trans (hb2.mono hB1)
      have hB2 := hb12.size
      refine (open_no _ _ _ _ _ _ (hf.below hb12) hmc (by omega) hB2 ho).mono ?_
      rintro e w3 ⟨rfl, hb3⟩
      go_wp2_with fail
      have hb13 := hb12.trans (hb3.mono hB2)
      have hB3 := hb13.size
      refine (refopen_no _ _ _ _ _ _ (hf.below hb13) hmc (by omega) hB3 ho).mono ?_
      rintro e w4 ⟨rfl, hb4⟩
      have hb14 := hb13.trans (hb4.mono hB3)
      have hb24 := hb3.trans (hb4.mono hb3.size)
      have hx3 := conv (Bs.empty w4 0 none) 0
      have hx1 := conv (((Bs.of_own hown1).below hb2).below (hb24.mono hb2.size)) c1
      have hx2 := conv ((Bs.of_own hown2).below hb24) c2
      go_wp2_with fail
      refine (lives_any _).mono ?_
      rintro e w5 ⟨rfl, hb5⟩
      go_wp2
      go_ret
      exact ⟨rfl, hb14.trans (hb5.mono hb14.size)⟩
    · go_enter Try.func5, Try.ntmps5
      go_wp2_with fail
      refine (few_at _ _ _ _ _ hn hk').mono ?_
      rintro e w' ⟨rfl, rfl⟩
      go_wp2_with fail
      refine (seal_any _ _ _ _ _ _ hf (by omega) (Nat.le_refl _)).mono ?_
      rintro e w1 ⟨A1, c1, rfl, g1, g2, hown1, hb1⟩
      go_wp2_with fail
      have hB1 := hb1.size
      refine (refseal_any _ _ _ _ _ _ (hf.below hb1) (by omega) hB1).mono ?_
      rintro e w2 ⟨A2, c2, rfl, g3, g4, hown2, hb2⟩
      go_wp2_with fail
      have hb12 := hb1.trans (hb2.mono hB1)
      have hB2 := hb12.size
      refine (open_yes _ _ _ _ _ _ (hf.below hb12) hmc (by omega) hB2 ho).mono ?_
      rintro e w3 ⟨A3, c3, rfl, g5, g6, hown3, hb3⟩
      go_wp2_with fail
      have hb13 := hb12.trans (hb3.mono hB2)
      have hB3 := hb13.size
      refine (refopen_yes _ _ _ _ _ _ (hf.below hb13) hmc (by omega) hB3 ho).mono ?_
      rintro e w4 ⟨rfl, hb4⟩
      have hb14 := hb13.trans (hb4.mono hB3)
      have hb24 := hb3.trans (hb4.mono hb3.size)
      have hx3 := conv ((Bs.of_own hown3).below hb4) c3
      have hx4 := conv ((hf.take (k := m) (by omega)).below hb14) c
      have hx1 := conv (((Bs.of_own hown1).below hb2).below (hb24.mono hb2.size)) c1
      have hx2 := conv ((Bs.of_own hown2).below hb24) c2
      go_wp2_with fail
      refine (lives_any _).mono ?_
      rintro e w5 ⟨rfl, hb5⟩
      go_wp2
      go_ret
      exact ⟨rfl, hb14.trans (hb5.mono hb14.size)⟩

theorem seal_tail (l : List UInt8) {k : Nat} (h : l.length = k) : (Crc.seal_ l).drop k = Crc.le4 (Crc.sum l) := by
  subst h
  simp [Crc.seal_]

theorem two_cases (a b : List UInt8) :
    ((Crc.le4 (Crc.sum a) == Crc.le4 (Crc.sum b)) = true ∧ (((Crc.sum a : Nat) : Int) == ((Crc.sum b : Nat) : Int)) = true ∧ (a == b) = true) ∨
    ((Crc.le4 (Crc.sum a) == Crc.le4 (Crc.sum b)) = true ∧ (((Crc.sum a : Nat) : Int) == ((Crc.sum b : Nat) : Int)) = true ∧ (a == b) = false) ∨
    ((Crc.le4 (Crc.sum a) == Crc.le4 (Crc.sum b)) = false ∧ (((Crc.sum a : Nat) : Int) == ((Crc.sum b : Nat) : Int)) = false ∧ (a == b) = false) := by
  by_cases h : Crc.sum a = Crc.sum b
  · have h1 : (Crc.le4 (Crc.sum a) == Crc.le4 (Crc.sum b)) = true := by rw [h]; exact beq_self_eq_true _
    have h2 : (((Crc.sum a : Nat) : Int) == ((Crc.sum b : Nat) : Int)) = true := by rw [h]; exact beq_self_eq_true _
    cases hl : a == b
    · exact .inr (.inl ⟨h1, h2, rfl⟩)
    · exact .inl ⟨h1, h2, rfl⟩
  · refine .inr (.inr ⟨?_, ?_, ?_⟩)
    · exact beq_eq_false_iff_ne.2 fun e => h (Crc.le4_inj (Crc.sum_lt a) (Crc.sum_lt b) e)
    · exact beq_eq_false_iff_ne.2 fun e => h (by omega)
    · refine beq_eq_false_iff_ne.2 fun e => h ?_
      rw [e]
theorem below_drewN' (B : Nat) (w : World) (q : Nat) : Below B w (w.drewN q) := ⟨rfl, rfl, rfl, Nat.le_refl _, fun _ _ => rfl⟩

set_option maxHeartbeats 2000000 in
theorem crcTwo_walk (A : Option Addr) (n c : Nat) (l : List UInt8) (A' : Option Addr) (n' c' : Nat) (l' : List UInt8) (w : World) (hd : Bs w w.heap.size A n l) (hn : n ≤ c) (hc : c ≤ 9223372036854775807)
    (hd' : Bs w w.heap.size A' n' l') (hn' : n' ≤ c') (hc' : c' ≤ 9223372036854775807) :
    Calls Try.prog 4 #[.slice A n c, .slice A' n' c'] w fun e w' => e = .returned (.bool true) ∧ Below w.heap.size w w' := by
  have hf := hd.take (k := min n 400) (by omega)
  have hf' := hd'.take (k := min n' 400) (by omega)
  obtain ⟨k, hk⟩ : ∃ k, min n 400 = k := ⟨_, rfl⟩
  obtain ⟨k', hk'⟩ : ∃ k, min n' 400 = k := ⟨_, rfl⟩
  generalize l.take (min n 400) = lf at hf
  generalize l'.take (min n' 400) = lf' at hf'
  rw [hk] at hf
  rw [hk'] at hf'
  have h400 : k ≤ 400 := by omega
  have h400' : k' ≤ 400 := by omega
  have H : Hid (min n 400 = k) := hk
  have H' : Hid (min n' 400 = k') := hk'
  clear hk hk' hd hd'
  go_enter Try.func4, Try.ntmps4
  go_wp2_with fail
  refine (few_at _ _ _ _ _ hn H).mono ?_
  rintro e w' ⟨rfl, rfl⟩
  go_wp2_with fail
  refine (few_at _ _ _ _ _ hn' H').mono ?_
  rintro e w' ⟨rfl, rfl⟩
  go_wp2_with fail
  refine (seal_any _ _ _ _ _ _ hf (by omega) (Nat.le_refl _)).mono ?_
  rintro e w1 ⟨A1, c1, rfl, g1, g2, hown1, hb1⟩
  have hB1 := hb1.size
  go_wp2_with fail
  refine (seal_any _ _ _ _ _ _ (hf'.below hb1) (by omega) hB1).mono ?_
  rintro e w2 ⟨A2, c2, rfl, g3, g4, hown2, hb2⟩
  have hb12 := hb1.trans (hb2.mono hB1)
  have hs1 := (Bs.of_own hown1).below hb2
  have hs2 := Bs.of_own hown2
  have hne1 : ¬ c1 = k := by omega
  have hne2 : ¬ c2 = k' := by omega
  have hle1 : (k : Int) ≤ (k : Int) + 4 := by omega
  have hle2 : (k' : Int) ≤ (k' : Int) + 4 := by omega
  have ht1 : Bs w2 w1.heap.size (A1.map fun x => x.add k) 4 (Crc.le4 (Crc.sum lf)) := by
    have := hs1.tail (k := k) (by omega) g1 hne1
    rw [Nat.add_sub_cancel_left, seal_tail lf hf.len] at this
    exact this
  have ht2 : Bs w2 w2.heap.size (A2.map fun x => x.add k') 4 (Crc.le4 (Crc.sum lf')) := by
    have := hs2.tail (k := k') (by omega) g3 hne2
    rw [Nat.add_sub_cancel_left, seal_tail lf' hf'.len] at this
    exact this
  have hx1 := fun q => conv (ht1.drewN q) (c1 - k)
  have hx2 := fun q => conv (ht2.drewN q) (c2 - k')
  have hxa := fun q => conv ((hf.below hb12).drewN q) c
  have hxb := fun q => conv ((hf'.below hb12).drewN q) c'
  have hB2 := hb12.size
  rcases two_cases lf lf' with ⟨hP, hQ, hL⟩ | ⟨hP, hQ, hL⟩ | ⟨hP, hQ, hL⟩
  all_goals
    go_wp2_with fail
    go_quiet (fail)
    go_wp2_with fail
    refine (sum_any _ _ _ _ _ _ ((hf.below hb12).drewN nq) (by omega)).mono ?_
    rintro e w' ⟨rfl, rfl⟩
    go_wp2_with fail
    refine (sum_any _ _ _ _ _ _ ((hf'.below hb12).drewN nq) (by omega)).mono ?_
    rintro e w' ⟨rfl, rfl⟩
    go_wp2_with fail
    refine (lives_any _).mono ?_
    rintro e w3 ⟨rfl, hb3⟩
    go_wp2
    go_ret
    exact ⟨rfl, (hb12.trans (below_drewN' w.heap.size w2 nq)).trans (hb3.mono hB2)⟩
end Go.Proofs.Ytjjgejdblibkmaa
