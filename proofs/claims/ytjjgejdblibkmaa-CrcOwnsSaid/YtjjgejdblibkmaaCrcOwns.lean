/- THE WALK of CrcOwns. -/
import Derived.Test.YtjjgejdblibkmaaCrcLaws
namespace Go.Proofs.Ytjjgejdblibkmaa
open Go.RowKit Mem

set_option maxHeartbeats 2000000 in
theorem crcOwns_walk (A : Option Addr) (n c : Nat) (l : List UInt8) (w : World) (hd : Bs w w.heap.size A n l) (hn : n ≤ c) (hc : c ≤ 9223372036854775807) :
    Calls Try.prog 7 #[.slice A n c] w fun e w' => e = .returned (.bool true) ∧ Below w.heap.size w w' := by
  have hf := hd.take (k := min n 400) (by omega)
  obtain ⟨k, hk⟩ : ∃ k, min n 400 = k := ⟨_, rfl⟩
  generalize l.take (min n 400) = lf at hf
  rw [hk] at hf
  have h400 : k ≤ 400 := by omega
  have H : Hid (min n 400 = k) := hk
  clear hk hd
  have hop : (Crc.seal_ ((Crc.seal_ lf).take k) == Crc.seal_ lf) = true := by
    have := Crc.opens_seal lf
    simp only [Crc.opens, Crc.seal_length, Nat.add_sub_cancel, Bool.and_eq_true] at this
    rw [← hf.len]
    exact this.2
  have htk : (Crc.seal_ lf).take k = lf := by
    rw [← hf.len]
    simp [Crc.seal_]
  have hx0 := conv hf c
  go_enter Try.func7, Try.ntmps7
  go_wp2_with fail
  refine (few_at _ _ _ _ _ hn H).mono ?_
  rintro e w' ⟨rfl, rfl⟩
  go_wp2_with fail
  refine (seal_any _ _ _ _ _ _ hf (by omega) (Nat.le_refl _)).mono ?_
  rintro e w1 ⟨A1, c1, rfl, g1, g2, hown1, hb1⟩
  have hB1 := hb1.size
  obtain ⟨G1, rfl, hG1, hG1'⟩ := own_some hown1 (by omega)
  have hx1 := conv (Bs.of_own hown1) c1
  go_wp2_with fail
  refine (open_yes _ k _ _ _ _ (Bs.of_own hown1) g1 (by omega) (Nat.le_refl _) hop).mono ?_
  rw [htk]
  rintro e w2 ⟨A2, c2, rfl, g3, g4, hown2, hb2⟩
  have hb12 := hb1.trans (hb2.mono hB1)
  clear hx0 hx1
  go_wp2_with fail
  go_loopw [8] (fun i wr => ∃ j : Nat, ∃ l2 : List UInt8, j ≤ k ∧ i = .int .i64 j ∧ wr.ownsRow w1.heap.size 5 1 (.slice A2 k c2) k (bv l2) ∧ Below w1.heap.size w1 wr) (fun i _ => k - (intOf i).toNat)
  case atStart => exact ⟨0, lf, by omega, rfl, hown2, hb2⟩
  case round =>
    obtain ⟨j, l2, hj, rfl, hown3, hb3⟩ := hrel
    clear hown2 hb2
    by_cases hlt : j < k
    · obtain ⟨G2, rfl, hG2, hG2'⟩ := own_some hown3 (by omega)
      have hcell := hown3.cellAt j (by omega)
      have hl2 : j < l2.length := by have := (Bs.of_own hown3).len; omega
      rw [bv_at, List.getElem?_eq_getElem hl2] at hcell
      simp only [Option.map_some] at hcell
      have hfz := hown3.frozenAt j
      have hst := (hown3.stored j (.int .u8 ((9 : UInt8).toNat : Int))).1
      rw [bv_set] at hst
      have hb4 : Below w1.heap.size w1 (wr.setCell ⟨G2, j, none⟩ (.int .u8 ((9 : UInt8).toNat : Int))) := hb3.setCell (p := ⟨G2, j, none⟩) hG2 _
      clear hown3
      go_wp2
      go_roundw
      case rel => exact ⟨j + 1, l2.set j 9, by omega, by go_num, hst, hb4⟩
      case measure => simp [intOf]; omega
    · have hb13 := hb1.trans (hb3.mono hB1)
      have hB3 := hb13.size
      have hx1 := conv ((Bs.of_own hown1).below hb3) c1
      have hown13 := own_below hown1 hb3 (Nat.le_refl _)
      clear hown3 hown1
      go_wp2_with fail
      go_loopw [9] (fun i wq => ∃ j : Nat, ∃ l2 : List UInt8, j ≤ k + 4 ∧ i = .int .i64 j ∧ wq.ownsRow w.heap.size 5 1 (.slice (some ⟨G1, 0, none⟩) (k + 4) c1) (k + 4) (bv l2) ∧ Below w.heap.size w wq) (fun i _ => k + 4 - (intOf i).toNat)
      case atStart => exact ⟨0, Crc.seal_ lf, by omega, rfl, hown13, hb13⟩
      case round =>
        obtain ⟨i, l3, hi, rfl, hown4, hb4⟩ := hrel
        by_cases hlt : i < k + 4
        · have hcell := hown4.cellAt i (by omega)
          have hl3 : i < l3.length := by have := (Bs.of_own hown4).len; omega
          rw [bv_at, List.getElem?_eq_getElem hl3] at hcell
          simp only [Option.map_some] at hcell
          have hfz := hown4.frozenAt i
          have hst := (hown4.stored i (.int .u8 ((7 : UInt8).toNat : Int))).1
          rw [bv_set] at hst
          have hb5 : Below w.heap.size w (wr.setCell ⟨G1, i, none⟩ (.int .u8 ((7 : UInt8).toNat : Int))) := hb4.setCell (p := ⟨G1, i, none⟩) hG1 _
          clear hown4 hown13 hx1
          go_wp2
          go_roundw
          case rel => exact ⟨i + 1, l3.set i 7, by omega, by go_num, hst, hb5⟩
          case measure => simp [intOf]; omega
        · have hB4 := hb4.size
          have hx5 := conv (hf.below hb4) c
          clear hown4 hown13 hx1
          go_wp2_with fail
          refine (seal_any _ _ _ _ _ _ (hf.below hb4) (by omega) hB4).mono ?_
          rintro e w5 ⟨A5, c5, rfl, g5, g6, hown5, hb5⟩
          have hx6 := conv (Bs.of_own hown5) c5
          go_wp2_with fail
          refine (lives_any _).mono ?_
          rintro e w6 ⟨rfl, hb6⟩
          have hb45 := hb4.trans (hb5.mono hB4)
          go_wp2
          go_ret
          exact ⟨rfl, hb45.trans (hb6.mono hb45.size)⟩
end Go.Proofs.Ytjjgejdblibkmaa
