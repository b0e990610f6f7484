/- THE WALKS of the program's sha at 64 bits, that they return: turned, all, cut, row. -/
import Derived.Test.YtgalhnobckoneaaGreatDoorCryA
import Derived.Test.YtgalhnobckoneaaGreatDoorPshWord
namespace Go.Proofs.YtgalhnobckoneaaGreatDoor
open Go.RowKit Mem
namespace Cry

/-- How the program makes a digest of 64 bytes: the cells. -/
def formM : List Value := [.int .i64 64, .int .i64 80, .int .i64 28, .int .i64 34, .int .i64 39, .int .i64 14, .int .i64 18, .int .i64 41, .int .i64 1, .int .i64 8, .int .i64 7, .int .i64 19, .int .i64 61, .int .i64 6]
structure F64 (hc : List Value) : Prop where
  len : hc.length = 14
  bits : hc[0]? = some (.int .i64 64)
  many : hc[1]? = some (.int .i64 80)
theorem form64 : F64 formM := ⟨rfl, rfl, rfl⟩
set_option maxRecDepth 100000 in
set_option maxHeartbeats 1000000 in
theorem turned_ex (hc : List Value) (h : F64 hc) (m : Int) (n : Nat) (hn : n ≤ 64) : ∃ r : Int, ∀ w, Calls Tryz.prog 268 #[.agg hc.toArray, .int .u64 m, .int .i64 (n : Int)] w fun e w' => e = .returned (.int .u64 r) ∧ Below w.heap.size w w' := by
  have hbits := h.bits
  apply Exists.intro
  intro w
  go_enter Tryz.func268, Tryz.ntmps268
  go_wp2
  refine Batch.wp_region_grew (by kernel_rfl) (by kernel_rfl) ?_
  repeat (go_big_quiet_step (fail))
  refine wpQuiet_nil ?_
  rintro _ ⟨p, rfl⟩
  have hb := Batch.grew_below (w.alloc (.cells hc.toArray 232)) p
  generalize Batch.grew (w.alloc (.cells hc.toArray 232)) p = w1 at *
  go_wp2
  go_ret
  exact ⟨rfl, ((Below.refl _ _).alloc (Nat.le_refl _) _).trans (hb.mono (by simp))⟩
theorem cut_ex (x : Int) : ∃ r : Int, ∀ w, Calls Tryz.prog 230 #[.int .u64 x] w fun e w' => e = .returned (.int .u64 r) ∧ Below w.heap.size w w' := by
  apply Exists.intro
  intro w
  go_enter Tryz.func230, Tryz.ntmps230
  go_wp2
  go_ret
  exact ⟨rfl, Below.refl _ _⟩
set_option maxRecDepth 100000 in
set_option maxHeartbeats 2000000 in
theorem all_ex (hc : List Value) (h : F64 hc) (a b c : Nat) (m : Int) (ha : a ≤ 64) (hb : b ≤ 64) (hcc : c ≤ 64) (sh : Bool) :
    ∃ r : Int, ∀ w, Calls Tryz.prog 253 #[.agg hc.toArray, .int .u64 m, .agg #[.int .i64 (a : Int), .int .i64 (b : Int), .int .i64 (c : Int)], .bool sh] w fun e w' => e = .returned (.int .u64 r) ∧ Below w.heap.size w w' := by
  obtain ⟨ra, ka⟩ := turned_ex hc h m a ha
  obtain ⟨rb, kb⟩ := turned_ex hc h m b hb
  obtain ⟨rc, kc⟩ := turned_ex hc h m c hcc
  have KA := Lib.hid ka
  have KB := Lib.hid kb
  have KC := Lib.hid kc
  clear ka kb kc
  have main : ∃ r : Int, ∀ w W, Hid ((w.alloc (.cells hc.toArray 232)).alloc (.cells ([.int .i64 (a : Int), .int .i64 (b : Int), .int .i64 (c : Int)] : List Value).toArray 228) = W) → Calls Tryz.prog 253 #[.agg hc.toArray, .int .u64 m, .agg #[.int .i64 (a : Int), .int .i64 (b : Int), .int .i64 (c : Int)], .bool sh] w fun e w' => e = .returned (.int .u64 r) ∧ Below w.heap.size w w' := by
    cases sh
    all_goals
      apply Exists.intro
      intro w W HW
      have B : Blk W w.heap.size hc 232 := by rw [← HW.out]; exact (Blk.new _ _ _).alloc _
      have B1 : Blk W (w.heap.size + 1) [.int .i64 (a : Int), .int .i64 (b : Int), .int .i64 (c : Int)] 228 := by
        have := Blk.new (w.alloc (.cells hc.toArray 232)) [.int .i64 (a : Int), .int .i64 (b : Int), .int .i64 (c : Int)] 228
        rw [← HW.out]
        simpa using this
      have hbw : Below w.heap.size w W := by rw [← HW.out]; exact ((Below.refl _ _).alloc (Nat.le_refl _) _).alloc (by simp) _
      have hlen := h.len
      have l0 := load_F B hlen
      have i2 : W.cell? ⟨w.heap.size + 1, 2, none⟩ = some (.int .i64 (c : Int)) := B1.cell 2
      go_enter Tryz.func253, Tryz.ntmps253
      go_upto_region 1 with fail
      rw [show ((w.alloc (.cells hc.toArray 232)).alloc (.cells #[.int .i64 (a : Int), .int .i64 (b : Int), .int .i64 (c : Int)] 228)) = W from HW.out]
      go_wp2_with fail
      refine (KC.out _).mono ?_
      rintro e w1 ⟨rfl, hb1⟩
      have b1 := B.below hb1
      have b2 := B1.below hb1
      have hbw1 : Below w.heap.size w w1 := hbw.trans (hb1.mono hbw.size)
      have f0 : ∀ p, (loadF (.pointer (some ⟨w.heap.size, 0, none⟩))).run Tryz.prog (Batch.grew w1 p) = .ok (.agg hc.toArray) (Batch.grew w1 p) := fun p => load_F (b1.below (Batch.grew_below w1 p)) hlen
      have f1 : ∀ p, (Batch.grew w1 p).cell? ⟨w.heap.size + 1, 0, none⟩ = some (.int .i64 (a : Int)) := fun p => (b2.below (Batch.grew_below w1 p)).cell 0
      have f2 : ∀ p, (Batch.grew w1 p).cell? ⟨w.heap.size + 1, 1, none⟩ = some (.int .i64 (b : Int)) := fun p => (b2.below (Batch.grew_below w1 p)).cell 1
      have i3 : w1.cell? ⟨w.heap.size + 1, 2, none⟩ = some (.int .i64 (c : Int)) := b2.cell 2
      clear l0 i2 HW B B1 b1 b2
      go_wp2_with fail
      refine Batch.wp_region_grew (by kernel_rfl) (by kernel_rfl) ?_
      repeat (go_big_quiet_step (fail))
      go_big_quiet_step ((go_at_call 268; exact Batch.calls_grew (KA.out _)))
      repeat (go_big_quiet_step (fail))
      go_big_quiet_step ((go_at_call 268; exact Batch.calls_grew (KB.out _)))
      repeat (go_big_quiet_step (fail))
      refine wpQuiet_nil ?_
      rintro _ ⟨p, rfl⟩
      have hbp := Batch.grew_below w1 p
      generalize Batch.grew w1 p = w2 at *
      go_wp2
      go_ret
      exact ⟨rfl, hbw1.trans (hbp.mono hbw1.size)⟩
  obtain ⟨r, hr⟩ := main
  exact ⟨r, fun w => hr w _ (Lib.hid rfl)⟩
theorem makeW (w : World) (n : Nat) (h : n ≤ 100000) : (Instr.makeSlice 176 (.int .i64 (n : Int)) (.int .i64 (n : Int))).run Tryz.prog w = .ok (.slice (some ⟨w.heap.size, 0, none⟩) n n) (w.alloc (.cells (us (List.replicate n 0)).toArray 77)) := by
  obtain ⟨i0, hi, hz0, hz1, hz2⟩ := info_parts (show (Tryz.prog.info? 77).map (fun i => (i.zero, i.size, i.bytes)) = some (some (.int .u64 0), 1, 8) by kernel_rfl)
  have hr := run_make (P := Tryz.prog) w 176 77 i0 _ Tryz.underlying176 hi hz0 .i64 .i64 (n : Int) (n : Int) (by omega) (by omega) (by rw [hz2]; omega) (by omega)
  rw [hz1] at hr
  rw [show (us (List.replicate n 0)).toArray = madeCells (.int .u64 0 : Value).cells (n * 1) by rw [made_one _ rfl]; simp [us]]
  exact hr
set_option maxRecDepth 100000 in
set_option maxHeartbeats 4000000 in
theorem row_ex (hc : List Value) (hF : hc = formM) (A : Option Addr) (c : Nat) (b : List Int) (w : World) (hb : Vs w w.heap.size 1 A 128 (i8 b)) (hcap : 128 ≤ c) :
    Calls Tryz.prog 252 #[.agg hc.toArray, .slice A 128 c] w fun e w' => ∃ g, e = .returned (.slice (some ⟨g, 0, none⟩) 80 80) ∧ w.heap.size ≤ g ∧ Ub w' g 80 77 ∧ Below w.heap.size w w' := by
  have hf : F64 hc := by rw [hF]; exact form64
  have HF := Lib.hid hF
  clear hF
  have hbl : b.length = 128 := by have := Vs.len hb; rw [i8_length] at this; omega
  obtain ⟨blk, off, rfl, hblk, hx⟩ := vs_lit hb (by omega)
  obtain ⟨W, hW⟩ : ∃ W, w.alloc (.cells hc.toArray 232) = W := ⟨_, rfl⟩
  have B : Blk W w.heap.size hc 232 := by rw [← hW]; exact Blk.new _ _ _
  have hbw : Below w.heap.size w W := by rw [← hW]; exact (Below.refl _ _).alloc (Nat.le_refl _) _
  have hz : W.heap.size = w.heap.size + 1 := by rw [← hW]; simp
  have hbits := hf.bits
  have hmany := hf.many
  have hmk : (Instr.makeSlice 176 (.int .i64 80) (.int .i64 80)).run Tryz.prog W = _ := makeW W 80 (by omega)
  have BG : Ub _ _ 80 _ := Ub.new W (List.replicate 80 0) 77
  have hb0 : Below w.heap.size w (W.alloc (.cells (us (List.replicate 80 0)).toArray 77)) := hbw.alloc hbw.size _
  have B0 := B.alloc (.cells (us (List.replicate 80 0)).toArray 77)
  rw [hz] at hmk BG
  have i0 : W.cell? ⟨w.heap.size, 0, none⟩ = some (.int .i64 64) := (B.cell 0).trans hbits
  have i1 : W.cell? ⟨w.heap.size, 1, none⟩ = some (.int .i64 80) := (B.cell 1).trans hmany
  have i2 : (W.alloc (.cells (us (List.replicate 80 0)).toArray 77)).cell? ⟨w.heap.size, 0, none⟩ = some (.int .i64 64) := (B0.cell 0).trans hbits
  have HW := Lib.hid hW
  obtain ⟨W1, hW1⟩ : ∃ W1, W.alloc (.cells (us (List.replicate 80 0)).toArray 77) = W1 := ⟨_, rfl⟩
  rw [hW1] at hmk BG hb0 B0 i2
  clear hW hW1
  go_enter Tryz.func252, Tryz.ntmps252
  go_upto_region 1 with fail
  rw [HW.out]
  clear HW
  go_wp2_with fail
  go_loopw [7, 9, 10, 11, 20] (fun _ _ _ _ i wr => ∃ t : Nat, t ≤ 80 ∧ i = .int .i64 (t : Int) ∧ Below w.heap.size w wr ∧ Blk wr w.heap.size hc 232 ∧ Ub wr (w.heap.size + 1) 80 77) (fun _ _ _ _ i _ => 80 - (intOf i).toNat)
  case atStart => exact ⟨0, by omega, rfl, hb0, B0, BG⟩
  case round =>
    obtain ⟨t, ht, rfl, hbr, B1, B2⟩ := hrel
    obtain ⟨wy, hwy⟩ : ∃ wy, wy = wr := ⟨_, rfl⟩
    subst hwy
    by_cases hlt : t < 80
    · by_cases h16 : t < 16
      · have z0 : wy.cell? ⟨w.heap.size, 0, none⟩ = some (.int .i64 64) := (B1.cell 0).trans hbits
        go_wp2_with fail
        go_loopw [9, 35] (fun _ i wx => ∃ k : Nat, k ≤ 8 ∧ i = .int .i64 (k : Int) ∧ Below w.heap.size w wx ∧ Blk wx w.heap.size hc 232 ∧ Ub wx (w.heap.size + 1) 80 77) (fun _ i _ => 8 - (intOf i).toNat)
        case atStart => exact ⟨0, by omega, rfl, hbr, B1, B2⟩
        case round =>
          obtain ⟨k, hk, rfl, hbx, C1, C2⟩ := hrel
          by_cases hk8 : k < 8
          · have hby : wr.cell? ⟨blk, off + t * 8 + k, none⟩ = some (.int .u8 (b.getD (8 * t + k) 0)) := by
              rw [show off + t * 8 + k = off + (8 * t + k) by omega]
              exact (hbx.cell (p := ⟨blk, off + (8 * t + k), none⟩) hblk).trans (hx (8 * t + k) _ (i8_at b (by omega)))
            obtain ⟨x, hcw⟩ := C2.cell (k := t) (by omega)
            have hcf : wr.frozen? ⟨w.heap.size + 1, t, none⟩ = false := C2.froz _
            generalize b.getD (8 * t + k) 0 = z at *
            go_wp2_with fail
            go_roundw
            case rel => exact ⟨k + 1, by omega, by go_num, hbx.setCell (by simp) _, C1.set_ne (by simp) _, C2.set _ _⟩
            case measure => simp [intOf]; omega
          · obtain rfl : k = 8 := by omega
            go_wp2_with fail
            go_roundw
            case rel => exact ⟨t + 1, by omega, by go_num, hbx, C1, C2⟩
            case measure => simp [intOf]; omega
      · obtain ⟨x15, k15⟩ := B2.cell (k := t - 15) (by omega)
        obtain ⟨x2, k2⟩ := B2.cell (k := t - 2) (by omega)
        obtain ⟨x16, k16⟩ := B2.cell (k := t - 16) (by omega)
        obtain ⟨x7, k7⟩ := B2.cell (k := t - 7) (by omega)
        have f0 : ∀ p, (loadF (.pointer (some ⟨w.heap.size, 0, none⟩))).run Tryz.prog (Batch.grew wy p) = .ok (.agg hc.toArray) (Batch.grew wy p) := fun p => load_F (B1.below (Batch.grew_below wy p)) hf.len
        have f1 : ∀ p, (loadA3 (.pointer (some ⟨w.heap.size, 8, none⟩))).run Tryz.prog (Batch.grew wy p) = .ok (.agg #[.int .i64 ((1 : Nat) : Int), .int .i64 ((8 : Nat) : Int), .int .i64 ((7 : Nat) : Int)]) (Batch.grew wy p) := fun p => load_A3 (B1.below (Batch.grew_below wy p)) (by rw [HF.out]; rfl) (by rw [HF.out]; rfl) (by rw [HF.out]; rfl)
        have f2 : ∀ p, (loadA3 (.pointer (some ⟨w.heap.size, 11, none⟩))).run Tryz.prog (Batch.grew wy p) = .ok (.agg #[.int .i64 ((19 : Nat) : Int), .int .i64 ((61 : Nat) : Int), .int .i64 ((6 : Nat) : Int)]) (Batch.grew wy p) := fun p => load_A3 (B1.below (Batch.grew_below wy p)) (by rw [HF.out]; rfl) (by rw [HF.out]; rfl) (by rw [HF.out]; rfl)
        have f3 : ∀ p, (Batch.grew wy p).cell? ⟨w.heap.size + 1, t - 15, none⟩ = some (.int .u64 x15) := fun p => (Batch.grew_cell (a := ⟨w.heap.size + 1, t - 15, none⟩) B2.lt p).trans k15
        have f4 : ∀ p, (Batch.grew wy p).cell? ⟨w.heap.size + 1, t - 2, none⟩ = some (.int .u64 x2) := fun p => (Batch.grew_cell (a := ⟨w.heap.size + 1, t - 2, none⟩) B2.lt p).trans k2
        obtain ⟨y0, hA1⟩ := all_ex hc hf 1 8 7 x15 (by omega) (by omega) (by omega) true
        obtain ⟨y1, hA2⟩ := all_ex hc hf 19 61 6 x2 (by omega) (by omega) (by omega) true
        have HA1 := Lib.hid hA1
        have HA2 := Lib.hid hA2
        clear hA1 hA2
        go_upto_region 12 with fail
        refine Batch.wp_region_grew (by kernel_rfl) (by kernel_rfl) ?_
        repeat (go_big_quiet_step (fail))
        go_big_quiet_step ((go_at_call 253; exact Batch.calls_grew (HA1.out _)))
        repeat (go_big_quiet_step (fail))
        go_big_quiet_step ((go_at_call 253; exact Batch.calls_grew (HA2.out _)))
        repeat (go_big_quiet_step (fail))
        refine wpQuiet_nil ?_
        rintro _ ⟨p, rfl⟩
        have hp := Batch.grew_below wy p
        clear f0 f1 f2 f3 f4 HA1 HA2 k15 k2
        have D1 := B1.below hp
        have D2 := B2.below hp
        have hbp : Below w.heap.size w (Batch.grew wy p) := hbr.trans (hp.mono hbr.size)
        have q16 : ∀ p', (Batch.grew (Batch.grew wy p) p').cell? ⟨w.heap.size + 1, t - 16, none⟩ = some (.int .u64 x16) := fun p' => (Batch.grew_cell (a := ⟨w.heap.size + 1, t - 16, none⟩) D2.lt p').trans ((Batch.grew_cell (a := ⟨w.heap.size + 1, t - 16, none⟩) B2.lt p).trans k16)
        have q7 : ∀ p', (Batch.grew (Batch.grew wy p) p').cell? ⟨w.heap.size + 1, t - 7, none⟩ = some (.int .u64 x7) := fun p' => (Batch.grew_cell (a := ⟨w.heap.size + 1, t - 7, none⟩) D2.lt p').trans ((Batch.grew_cell (a := ⟨w.heap.size + 1, t - 7, none⟩) B2.lt p).trans k7)
        generalize Batch.grew wy p = wz at *
        have HC : Hid (∀ x : Int, ∃ r : Int, ∀ W, Calls Tryz.prog 230 #[.int .u64 x] W fun e w' => e = .returned (.int .u64 r) ∧ Below W.heap.size W w') := Lib.hid cut_ex
        go_upto_region 13 with fail
        refine Batch.wp_region_grew_tail 18 (by kernel_rfl) (by kernel_rfl) ?_
        simp only [List.take_succ_cons, List.take_zero, List.drop_succ_cons, List.drop_zero]
        repeat (go_big_quiet_step (fail))
        go_big_quiet_step ((go_at_call 230; exact Batch.calls_grew ((HC.out _).choose_spec _)))
        repeat (go_big_quiet_step (fail))
        refine wpQuiet_nil ?_
        rintro _ ⟨px, rfl⟩
        have hpx := Batch.grew_below wz px
        have F1 := D1.below hpx
        have F2 := D2.below hpx
        have cf : (Batch.grew wz px).frozen? ⟨w.heap.size + 1, t, none⟩ = false := F2.froz _
        have hbx : Below w.heap.size w (Batch.grew wz px) := hbp.trans (hpx.mono hbp.size)
        have hlt4 := F2.lt
        obtain ⟨vt, hct⟩ := F2.cell (k := t) (by omega)
        clear q16 q7 D1 D2
        generalize Batch.grew wz px = w4 at *
        go_wp2_with fail
        (try rw [Batch.Qn_normal])
        (try go_wp2)
        go_roundw
        case rel => exact ⟨t + 1, by omega, by go_num, hbx.setCell (by simp) _, F1.set_ne (by simp) _, F2.set _ _⟩
        case measure => simp [intOf]; omega
    · obtain rfl : t = 80 := by omega
      go_wp2_with fail
      go_ret
      exact ⟨_, rfl, by omega, B2, hbr⟩
end Cry
end Go.Proofs.YtgalhnobckoneaaGreatDoor
