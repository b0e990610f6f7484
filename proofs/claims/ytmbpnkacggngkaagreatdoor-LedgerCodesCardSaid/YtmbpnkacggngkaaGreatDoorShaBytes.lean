/- THE WALK of the reference's bytes. -/
import Derived.Test.YtmbpnkacggngkaaGreatDoorShaWord
namespace Go.Proofs.YtmbpnkacggngkaaGreatDoor
open Go.RowKit Mem

theorem rem_le (n : Nat) : ∀ j, Sha.rem n j ≤ n
  | 0 => Nat.le_refl _
  | j + 1 => Nat.le_trans (Nat.div_le_self _ _) (rem_le n j)
set_option maxRecDepth 100000 in
set_option maxHeartbeats 2000000 in
theorem rbytes_any (hc : List Value) (h : H32 hc) (m : Nat) (hm : m < 18446744073709551616) (w : World) :
    Calls Tryz.prog 128 #[.agg hc.toArray, .int .u64 (m : Int)] w fun e w' => e = .returned (.slice (some ⟨w.heap.size + 1, 0, none⟩) 4 4) ∧ Blk w' (w.heap.size + 1) (bv (Sha.be 4 m)) 5 ∧ Below w.heap.size w w' := by
  have hbits := h.bits
  have B := Blk.new w hc 114
  obtain ⟨W, hW⟩ : ∃ W, w.alloc (.cells hc.toArray 114) = W := ⟨_, rfl⟩
  have hz : W.heap.size = w.heap.size + 1 := by rw [← hW]; simp
  have hbW : Below w.heap.size w W := by rw [← hW]; exact (Below.refl _ _).alloc (Nat.le_refl _) _
  have hmk : (Instr.makeSlice 62 (.int .i64 4) (.int .i64 4)).run Tryz.prog W = _ := makeB W 4 (by omega)
  have B1 := Blk.new W (bv (List.replicate 4 0)) 5
  obtain ⟨W2, hW2⟩ : ∃ W2, W.alloc (.cells (bv (List.replicate 4 0)).toArray 5) = W2 := ⟨_, rfl⟩
  have hb2 : Below w.heap.size w W2 := by rw [← hW2]; exact hbW.alloc (by omega) _
  have B0 : Blk W2 w.heap.size hc 114 := by rw [← hW2, ← hW]; exact B.alloc _
  rw [hW2, hz] at B1
  rw [hW2, hz, ← hW] at hmk
  have k0 : W2.cell? ⟨w.heap.size, 0, none⟩ = some (.int .i64 32) := (B0.cell 0).trans hbits
  have hB2 : Blk W2 (w.heap.size + 1) (bv (List.replicate (4 - 0) 0 ++ Sha.be 0 m)) 5 := B1
  clear B B1 hW2 hW hz hbW
  go_enter Tryz.func128, Tryz.ntmps128
  go_wp2
  go_loopw [1, 6] (fun v i wr => ∃ j : Nat, j ≤ 4 ∧ i = .int .i64 (3 - (j : Int)) ∧ v = .int .u64 ((Sha.rem m j : Nat) : Int) ∧ Below w.heap.size w wr ∧ Blk wr (w.heap.size + 1) (bv (List.replicate (4 - j) 0 ++ Sha.be j m)) 5) (fun _ i _ => (intOf i + 1).toNat)
  case atStart => exact ⟨0, by omega, rfl, rfl, hb2, hB2⟩
  case round =>
    clear hmk k0 B0 hB2 hb2 hbits
    obtain ⟨j, hj, rfl, rfl, hb, hB⟩ := hrel
    by_cases h4 : j < 4
    · obtain ⟨d, hd⟩ : ∃ d : Nat, 3 - j = d := ⟨_, rfl⟩
      have e1 : (3 - (j : Int)) = (d : Int) := by omega
      have hd3 : d ≤ 3 := by omega
      have hx : Sha.rem m j < 18446744073709551616 := Nat.lt_of_le_of_lt (rem_le m j) hm
      have HS := Lib.hid (Sha.be_set 4 j m h4)
      rw [show 4 - j - 1 = d by omega] at HS
      have HR := Lib.hid (show Sha.rem m (j + 1) = Sha.rem m j / 256 from rfl)
      have hl : (List.replicate (4 - j) 0 ++ Sha.be j m).length = 4 := by rw [List.length_append, List.length_replicate, Sha.be_len]; omega
      generalize List.replicate (4 - j) 0 ++ Sha.be j m = O at *
      generalize Sha.rem m j = x at *
      have cd : wr.cell? ⟨w.heap.size + 1, d, none⟩ = some (.int .u8 (O[d]'(by omega)).toNat) := by
        rw [hB.cell d, bv_at, List.getElem?_eq_getElem (by omega)]
        rfl
      have cf : wr.frozen? ⟨w.heap.size + 1, d, none⟩ = false := hB.froz d
      have ch : w.heap.size + 1 < wr.heap.size := hB.lt
      generalize (O[d]'(by omega)).toNat = od at *
      have hr := nat_tmod x 256
      have hq := nat_tdiv x 256
      obtain ⟨r, hr2⟩ : ∃ r, x % 256 = r := ⟨_, rfl⟩
      obtain ⟨q, hq2⟩ : ∃ q, x / 256 = q := ⟨_, rfl⟩
      have hr3 : r < 256 := by omega
      have hq3 : q < 18446744073709551616 := by omega
      rw [hr2] at hr HS
      rw [hq2] at hq HR
      have hr : Int.tmod (x : Int) 256 = (r : Int) := hr
      have hq : Int.tdiv (x : Int) 256 = (q : Int) := hq
      have hB3 := hB.set d (.int .u8 ((UInt8.ofNat r).toNat : Int))
      rw [bv_set, HS.out, UInt8.toNat_ofNat_of_lt' (show r < 256 from hr3)] at hB3
      have hms : (intOf (Value.int IntKind.i64 ((d : Int) - 1)) + 1).toNat < (intOf (Value.int IntKind.i64 (d : Int)) + 1).toNat := by
        show ((d : Int) - 1 + 1).toNat < ((d : Int) + 1).toNat
        omega
      have HE := Lib.hid (show ((d : Int) - 1) = 3 - ((j + 1 : Nat) : Int) by omega)
      have HB3 := Lib.hid hB3
      have hb3 := hb.setCell (p := ⟨w.heap.size + 1, d, none⟩) (by simp) (.int .u8 (r : Int))
      clear hr2 hq2 hd hB HS hl hx hB3
      rw [e1]
      clear e1
      go_wp2
      go_roundw
      case rel => exact ⟨j + 1, by omega, by rw [HE.out], by rw [HR.out], hb3, HB3.out⟩
      case measure => exact hms
    · obtain rfl : j = 4 := by omega
      go_wp2
      go_ret
      exact ⟨rfl, by simpa using hB, hb⟩
end Go.Proofs.YtmbpnkacggngkaaGreatDoor
