/- THE WALK of CrcRound. -/
import Derived.Test.YtjjgejdblibkmaaCrcLaws
namespace Go.Proofs.Ytjjgejdblibkmaa
open Go.RowKit Mem

/-- 's[k] = s[k] ^ by; Open(s)' is refused: the bytes behind the store. -/
theorem opens_set_ (l : List UInt8) (j b : Nat) (hj : j < (Crc.seal_ l).length) (hb : b < 256) (hb0 : b ≠ 0) :
    (Crc.seal_ (((Crc.seal_ l).set j (UInt8.ofNat ((Crc.seal_ l)[j].toNat ^^^ b))).take l.length) == (Crc.seal_ l).set j (UInt8.ofNat ((Crc.seal_ l)[j].toNat ^^^ b))) = false := by
  have hx : (Crc.seal_ l)[j].toNat ^^^ b < 256 := Nat.xor_lt_two_pow (n := 8) ((Crc.seal_ l)[j].toNat_lt) (by omega)
  have h := Crc.opens_set l j (UInt8.ofNat ((Crc.seal_ l)[j].toNat ^^^ b)) hj (by
    intro e
    have e2 := congrArg UInt8.toNat e
    rw [UInt8.toNat_ofNat_of_lt' hx] at e2
    apply hb0
    have := congrArg (fun t => (Crc.seal_ l)[j].toNat ^^^ t) e2
    simp only [Nat.xor_self, ← Nat.xor_assoc, Nat.zero_xor] at this
    exact this.symm)
  simp only [Crc.opens, List.length_set, Crc.seal_length, Nat.add_sub_cancel, Nat.le_add_left, decide_true, Bool.true_and] at h
  exact h


set_option maxHeartbeats 2000000 in
theorem crcRound_walk (A : Option Addr) (n c : Nat) (l : List UInt8) (x y : Int) (w : World) (hd : Bs w w.heap.size A n l) (hn : n ≤ c) (hc : c ≤ 9223372036854775807)
    (wx : (Lit.int .i64 x).wf = true) (wy : (Lit.int .u8 y).wf = true) :
    Calls Try.prog 6 #[.slice A n c, .int .i64 x, .int .u8 y] w fun e w' => e = .returned (.bool true) ∧ Below w.heap.size w w' := by
  obtain ⟨hx1, hx2⟩ := wf_int wx
  obtain ⟨hy1, hy2⟩ := wf_u8 wy
  clear wx wy
  have hf := hd.take (k := min n 400) (by omega)
  obtain ⟨k, hk⟩ : ∃ k, min n 400 = k := ⟨_, rfl⟩
  generalize l.take (min n 400) = lf at hf
  rw [hk] at hf
  have h400 : k ≤ 400 := by omega
  have H : Hid (min n 400 = k) := hk
  clear hk hd
  have hop : (Crc.seal_ ((Crc.seal_ lf).take k) == Crc.seal_ lf) = true := by
    have := Crc.opens_seal lf
    simp only [Crc.opens, Crc.seal_length, Nat.add_sub_cancel, Bool.and_eq_true] at this
    rw [← hf.len]
    exact this.2
  have htk : (Crc.seal_ lf).take k = lf := by
    rw [← hf.len]
    simp [Crc.seal_]
  go_enter Try.func6, Try.ntmps6
  go_wp2_with fail
  refine (few_at _ _ _ _ _ hn H).mono ?_
  rintro e w' ⟨rfl, rfl⟩
  go_wp2_with fail
  refine (seal_any _ _ _ _ _ _ hf (by omega) (Nat.le_refl _)).mono ?_
  rintro e w1 ⟨A1, c1, rfl, g1, g2, hown1, hb1⟩
  have hB1 := hb1.size
  obtain ⟨G1, rfl, hG1, hG1'⟩ := own_some hown1 (by omega)
  go_wp2_with fail
  refine (open_yes _ k _ _ _ _ (Bs.of_own hown1) g1 (by omega) (Nat.le_refl _) hop).mono ?_
  rw [htk]
  rintro e w2 ⟨A2, c2, rfl, g3, g4, hown2, hb2⟩
  have hb12 := hb1.trans (hb2.mono hB1)
  have hB2 := hb12.size
  have hx3 := conv (Bs.of_own hown2) c2
  have hx4 := conv (hf.below hb12) c
  by_cases hy0 : y = 0
  · subst hy0
    go_wp2_with fail
    refine (lives_any _).mono ?_
    rintro e w3 ⟨rfl, hb3⟩
    go_wp2
    go_ret
    exact ⟨rfl, hb12.trans (hb3.mono hB2)⟩
  · obtain ⟨b, rfl⟩ := Int.eq_ofNat_of_zero_le hy1
    have hb256 : b < 256 := by omega
    have hb0 : b ≠ 0 := by omega
    have hown12 := own_below hown1 hb2 (Nat.le_refl _)
    have key : ∀ m : Nat, ∃ t : Nat, t < 256 ∧ w2.cell? ⟨G1, m % (k + 4), none⟩ = some (.int .u8 (t : Int)) ∧ w2.frozen? ⟨G1, m % (k + 4), none⟩ = false ∧
        ∃ l2 : List UInt8, l2.length = k + 4 ∧ (Crc.seal_ (l2.take k) == l2) = false ∧ ((w2.setCell ⟨G1, m % (k + 4), none⟩ (.int .u8 (bits .xor .u8 (t : Int) (b : Int)))).ownsRow w.heap.size 5 1 (.slice (some ⟨G1, 0, none⟩) (k + 4) c1) (k + 4) (bv l2)) := by
      intro m
      have hj : m % (k + 4) < (Crc.seal_ lf).length := by rw [Crc.seal_length, hf.len]; exact Nat.mod_lt _ (by omega)
      refine ⟨((Crc.seal_ lf)[m % (k + 4)]).toNat, UInt8.toNat_lt _, ?_, hown12.frozenAt _, (Crc.seal_ lf).set (m % (k + 4)) (UInt8.ofNat ((Crc.seal_ lf)[m % (k + 4)].toNat ^^^ b)), ?_, ?_, ?_⟩
      · rw [hown12.cellAt _ (by have := Nat.mod_lt m (show 0 < k + 4 by omega); omega), bv_at, List.getElem?_eq_getElem hj]
        rfl
      · rw [List.length_set, Crc.seal_length, hf.len]
      · have := opens_set_ lf (m % (k + 4)) b hj hb256 hb0
        rw [hf.len] at this
        exact this
      · have h := (hown12.stored (m % (k + 4)) (.int .u8 (bits .xor .u8 (((Crc.seal_ lf)[m % (k + 4)].toNat : Nat) : Int) (b : Int)))).1
        have hxx : (Crc.seal_ lf)[m % (k + 4)].toNat ^^^ b < 256 := Nat.xor_lt_two_pow (n := 8) (UInt8.toNat_lt _) (by omega)
        have e : bits .xor .u8 (((Crc.seal_ lf)[m % (k + 4)].toNat : Nat) : Int) (b : Int) = (((UInt8.ofNat ((Crc.seal_ lf)[m % (k + 4)].toNat ^^^ b)).toNat : Nat) : Int) := by
          rw [u8_xor_nat _ _ (UInt8.toNat_lt _) hb256, u8_val _ hxx]
        rw [e, bv_set] at h
        rw [e]
        exact h
    clear hown2 hown1 hown12
    have fin : ∀ m : Nat, (0 : Int) ≤ (m : Int) % ((k : Int) + 4) ∧ (m : Int) % ((k : Int) + 4) < (k : Int) + 4 := fun m => ⟨Int.emod_nonneg _ (by omega), Int.emod_lt_of_pos _ (by omega)⟩
    rcases Int.lt_or_le x 0 with hx0 | hx0
    · obtain ⟨m, rfl⟩ : ∃ m : Nat, x = -(m : Int) - 1 := ⟨(-x - 1).toNat, by omega⟩
      obtain ⟨t, ht, hcell, hfroz, l2, hl2, hop2, hown2⟩ := key m
      obtain ⟨f1, f2⟩ := fin m
      clear key fin
      have HL := Lib.hid hl2
      clear hl2
      go_wp2_with fail
      refine (open_no _ k _ _ _ _ (Bs.of_own hown2) g1 (by omega) (by simp) hop2).mono ?_
      rintro e w3 ⟨rfl, hb3⟩
      go_wp2_with fail
      refine (lives_any _).mono ?_
      rintro e w4 ⟨rfl, hb4⟩
      go_wp2
      go_ret
      have hbs : Below w.heap.size w (w2.setCell ⟨G1, m % (k + 4), none⟩ (.int .u8 (bits .xor .u8 (t : Int) (b : Int)))) := hb12.setCell (p := ⟨G1, m % (k + 4), none⟩) hG1 _
      have hbs3 := hbs.trans (hb3.mono hbs.size)
      exact ⟨rfl, hbs3.trans (hb4.mono hbs3.size)⟩
    · obtain ⟨m, rfl⟩ := Int.eq_ofNat_of_zero_le hx0
      obtain ⟨t, ht, hcell, hfroz, l2, hl2, hop2, hown2⟩ := key m
      obtain ⟨f1, f2⟩ := fin m
      clear key fin
      have HL := Lib.hid hl2
      clear hl2
      go_wp2_with fail
      refine (open_no _ k _ _ _ _ (Bs.of_own hown2) g1 (by omega) (by simp) hop2).mono ?_
      rintro e w3 ⟨rfl, hb3⟩
      go_wp2_with fail
      refine (lives_any _).mono ?_
      rintro e w4 ⟨rfl, hb4⟩
      go_wp2
      go_ret
      have hbs : Below w.heap.size w (w2.setCell ⟨G1, m % (k + 4), none⟩ (.int .u8 (bits .xor .u8 (t : Int) (b : Int)))) := hb12.setCell (p := ⟨G1, m % (k + 4), none⟩) hG1 _
      have hbs3 := hbs.trans (hb3.mono hbs.size)
      exact ⟨rfl, hbs3.trans (hb4.mono hbs3.size)⟩
end Go.Proofs.Ytjjgejdblibkmaa
