/- THE WALKS of the program's field, that they return: least, Bytes, Odd. -/
import Derived.Test.YtgalhnobckoneaaGreatDoorCryE
namespace Go.Proofs.YtgalhnobckoneaaGreatDoor
open Go.RowKit Mem
namespace Cry

set_option maxRecDepth 100000 in
set_option maxHeartbeats 4000000 in
theorem least_ex (xs : List Int) (hx : xs.length = 5) (w : World) : Calls Tryz.prog 140 #[.agg (us xs).toArray] w (Ans (Uv 5) w) := by
  obtain ⟨W, HW, A0, A1, hbw, hz⟩ := boxes2 w (us xs) 80 (us z5) 80
  have A0 := Blk.ub A0 hx
  have A1 : Ub _ _ 5 _ := Blk.ub A1 rfl
  obtain ⟨es, ha, hl⟩ := A0.loadE 0 (by omega)
  have hl := hl W (Below.refl _ _)
  go_enter Tryz.func140, Tryz.ntmps140
  go_upto_region 1 with fail
  rw [show ((w.alloc (.cells (us xs).toArray 80)).alloc (.cells #[.int .u64 0, .int .u64 0, .int .u64 0, .int .u64 0, .int .u64 0] 80)) = W from HW.out]
  clear HW
  go_wp2_with fail
  refine (carried_ex es ha _).mono ?_
  rintro e w1 ⟨⟨_, rfl, bs, hb, rfl⟩, hb1⟩
  go_wp2_with fail
  refine (carried_ex bs hb _).mono ?_
  rintro e w2 ⟨⟨_, rfl, cs, hc, rfl⟩, hb2⟩
  obtain ⟨w3, hst, U0, hcg⟩ := ((A0.below hb1).below hb2).storeE hc
  have U1 := ((A1.below hb1).below hb2).chg hcg (by simp)
  have hbw1 := hbw.trans (hb1.mono hbw.size)
  have hbw2 := hbw1.trans (hb2.mono hbw1.size)
  have hb3 : Below w.heap.size w w3 := hbw2.trans (hcg.below' hbw2.size (by simp))
  obtain ⟨x0, k0⟩ := U0.cell (k := 0) (by omega)
  clear hl hcg hb1 hb2 hbw hbw1 hbw2 A0 A1
  go_wp2_with fail
  clear hst
  go_loopw [3, 5, 18] (fun q _ i wr => ∃ (t : Nat) (x : Int), t ≤ 4 ∧ i = .int .i64 (t : Int) ∧ q = .int .u64 x ∧ wr = w3) (fun _ _ i _ => 4 - (intOf i).toNat)
  case atStart => exact ⟨0, _, by omega, rfl, rfl, rfl⟩
  case round =>
    obtain ⟨t, x, ht, rfl, rfl, hw⟩ := hrel
    have hw := hw.symm
    subst hw
    by_cases hlt : t < 4
    · obtain ⟨y, h0⟩ := U0.cell (k := 1 + t) (by omega)
      go_wp2_with fail
      go_roundw
      case rel => exact ⟨t + 1, _, by omega, by go_num, rfl, by trivial⟩
      case measure => simp [intOf]; omega
    · obtain rfl : t = 4 := by omega
      have f0 := U0.froz 0
      go_wp2_with fail
      go_loopw [6, 35] (fun _ i wr => ∃ t : Nat, t ≤ 4 ∧ i = .int .i64 (t : Int) ∧ Below w.heap.size w wr ∧ Ub wr w.heap.size 5 80 ∧ Ub wr (w.heap.size + 1) 5 80) (fun _ i _ => 4 - (intOf i).toNat)
      case atStart => exact ⟨0, by omega, rfl, hb3.setCell (by simp) _, U0.set _ _, U1.set_ne (by simp) _⟩
      case round =>
        clear hb3 U0 U1 k0 f0
        obtain ⟨t, ht, rfl, hbr, B0, B1⟩ := hrel
        obtain ⟨wz, hwz⟩ : ∃ wz, wz = wr := ⟨_, rfl⟩
        subst hwz
        by_cases hlt : t < 4
        · obtain ⟨y0, h0⟩ := B0.cell (k := t) (by omega)
          obtain ⟨y1, h1⟩ := B0.cell (k := t + 1) (by omega)
          have k0 : ∀ p, (Batch.grew wz p).cell? ⟨w.heap.size, t, none⟩ = some (.int .u64 y0) := fun p => (Batch.grew_cell (a := ⟨w.heap.size, t, none⟩) B0.lt p).trans h0
          have k1 : ∀ p, (Batch.grew wz p).cell? ⟨w.heap.size, t + 1, none⟩ = some (.int .u64 y1) := fun p => (Batch.grew_cell (a := ⟨w.heap.size, t + 1, none⟩) B0.lt p).trans h1
          clear h0 h1
          go_upto_region 12 with fail
          refine Batch.wp_region_grew_tail 13 (by kernel_rfl) (by kernel_rfl) ?_
          simp only [List.take_succ_cons, List.take_zero, List.drop_succ_cons, List.drop_zero]
          repeat (go_big_quiet_step (fail))
          refine wpQuiet_nil ?_
          rintro _ ⟨p, rfl⟩
          have hbp := Batch.grew_below wz p
          have kc := k1 p
          have kd := k0 p
          have G0 := B0.below hbp
          have G1 := B1.below hbp
          have hbq : Below w.heap.size w (Batch.grew wz p) := hbr.trans (hbp.mono hbr.size)
          have kf := fun k => G0.froz k
          clear k0 k1 B0 B1
          generalize Batch.grew wz p = wq at *
          have ke : ∀ v, (wq.setCell ⟨w.heap.size, t + 1, none⟩ v).cell? ⟨w.heap.size, t, none⟩ = some (.int .u64 y0) := fun v => (setc_ne _ _ _ _ _ (by omega)).trans kd
          go_wp2_with fail
          (try rw [Batch.Qn_normal])
          (try go_wp2)
          go_roundw
          case rel => exact ⟨t + 1, by omega, by go_num, (hbq.setCell (by simp) _).setCell (by simp) _, (G0.set _ _).set _ _, (G1.set_ne (by simp) _).set_ne (by simp) _⟩
          case measure => simp [intOf]; omega
        · obtain rfl : t = 4 := by omega
          obtain ⟨y4, k4⟩ := B0.cell (k := 4) (by omega)
          have f4 := B0.froz 4
          have C0 := B0.set 4 (bits .and .u64 y4 2251799813685247)
          have C1 := B1.set_ne (p := ⟨w.heap.size, 4, none⟩) (by simp) (.int .u64 (bits .and .u64 y4 2251799813685247))
          have hb4 := hbr.setCell (p := ⟨w.heap.size, 4, none⟩) (by simp) (.int .u64 (bits .and .u64 y4 2251799813685247))
          obtain ⟨w4, hw4⟩ : ∃ w4, wz.setCell ⟨w.heap.size, 4, none⟩ (.int .u64 (bits .and .u64 y4 2251799813685247)) = w4 := ⟨_, rfl⟩
          rw [hw4] at C0 C1 hb4
          obtain ⟨es, ha, hl⟩ := C0.loadE 0 (by omega)
          have hl := hl w4 (Below.refl _ _)
          obtain ⟨w5, hst, U2, hcg⟩ := C1.storeE ha
          have hb5 : Below w.heap.size w w5 := hb4.trans (hcg.below' hb4.size (by simp))
          obtain ⟨r1, r2⟩ := U2.res
          rw [← hw4] at hl hst
          clear hw4
          go_wp2
          refine bodyPost_ret (results_arr (P := Tryz.prog) Tryz.results140 _ _ (w.heap.size + 1) 0 5 _ rfl Tryz.underlying80 rfl size_E r1) rfl ?_
          exact ⟨⟨_, rfl, r2⟩, hb5⟩
set_option maxRecDepth 100000 in
set_option maxHeartbeats 4000000 in
theorem odd_ex (xs : List Int) (hx : xs.length = 5) (w : World) : Calls Tryz.prog 85 #[.agg (us xs).toArray] w fun e w' => (∃ b : Bool, e = .returned (.bool b)) ∧ Below w.heap.size w w' := by
  obtain ⟨W, HW, A0, hbw, hz⟩ := boxes1 w (us xs) 80
  have A0 := Blk.ub A0 hx
  obtain ⟨es, ha, hl⟩ := A0.loadE 0 (by omega)
  have hl := hl W (Below.refl _ _)
  go_enter Tryz.func85, Tryz.ntmps85
  go_upto_region 1 with fail
  rw [show (w.alloc (.cells (us xs).toArray 80)) = W from HW.out]
  clear HW
  go_wp2_with fail
  refine (least_ex es ha _).mono ?_
  rintro e w1 ⟨⟨_, rfl, bs, hb, rfl⟩, hb1⟩
  obtain ⟨b0, b1, b2, b3, b4, rfl⟩ := us5 hb
  have hf : ∀ W, (Instr.field 80 (.agg (us [b0, b1, b2, b3, b4]).toArray) 0).run Tryz.prog W = .ok (.agg (us [b0, b1, b2, b3, b4]).toArray) W := fun W => by kernel_rfl
  have hi : ∀ W, (Instr.index 78 (.agg (us [b0, b1, b2, b3, b4]).toArray) (.int .i64 0)).run Tryz.prog W = .ok (.int .u64 b0) W := fun W => index_L5 [b0, b1, b2, b3, b4] rfl W 0 (by omega)
  go_wp2
  go_ret
  exact ⟨⟨_, rfl⟩, hbw.trans (hb1.mono hbw.size)⟩
end Cry
end Go.Proofs.YtgalhnobckoneaaGreatDoor
