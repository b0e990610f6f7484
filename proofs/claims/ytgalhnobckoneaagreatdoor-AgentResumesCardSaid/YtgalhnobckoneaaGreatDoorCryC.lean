/- THE WALK of the program's sha at 64 bits, that it returns: mix. -/
import Derived.Test.YtgalhnobckoneaaGreatDoorCryB
namespace Go.Proofs.YtgalhnobckoneaaGreatDoor
open Go.RowKit Mem
namespace Cry

/-- The table of the steps' words. -/
def TabM (w : World) : Prop := ∀ t, t < 80 → ∃ v : Int, w.cell? ⟨4, t, none⟩ = some (.int .u64 v)
theorem TabM.below {w w' : World} (h : TabM w) (hb : Below w.heap.size w w') : TabM w' := fun t ht => by
  obtain ⟨v, h1⟩ := h t ht
  exact ⟨v, (hb.cell (p := ⟨4, t, none⟩) (World.block_lt_of_cell? w _ h1)).trans h1⟩
theorem isz64 : (Tryz.prog.info? 77).map (·.size) = some 1 := by kernel_rfl
theorem us8 {l : List Int} (h : l.length = 8) : ∃ a b c d e f g i, l = [a, b, c, d, e, f, g, i] := by
  match l, h with
  | [a, b, c, d, e, f, g, i], _ => exact ⟨a, b, c, d, e, f, g, i, rfl⟩
set_option maxRecDepth 100000 in
set_option maxHeartbeats 8000000 in
theorem mix_ex (hc : List Value) (hF : hc = formM) (s : List Int) (hs8 : s.length = 8) (A : Option Addr) (c : Nat) (b : List Int) (w : World) (hb : Vs w w.heap.size 1 A 128 (i8 b)) (hcap : 128 ≤ c) (hT : TabM w) :
    Calls Tryz.prog 231 #[.agg hc.toArray, .agg (us s).toArray, .slice A 128 c] w fun e w' => Ans (Uv 8) w e w' := by
  have hf : F64 hc := by rw [hF]; exact form64
  obtain ⟨W, hW⟩ : ∃ W, ((w.alloc (.cells hc.toArray 232)).alloc (.cells (us s).toArray 273)).alloc (.cells (us (List.replicate 8 0)).toArray 273) = W := ⟨_, rfl⟩
  have B0 : Blk W w.heap.size hc 232 := by rw [← hW]; exact ((Blk.new _ _ _).alloc _).alloc _
  have B1 : Blk W (w.heap.size + 1) (us s) 273 := by
    have := Blk.new (w.alloc (.cells hc.toArray 232)) (us s) 273
    rw [← hW]
    exact Blk.alloc (by simpa using this) _
  have B2 : Blk W (w.heap.size + 2) (us (List.replicate 8 0)) 273 := by
    have := Blk.new ((w.alloc (.cells hc.toArray 232)).alloc (.cells (us s).toArray 273)) (us (List.replicate 8 0)) 273
    rw [← hW]
    simpa using this
  have hbw : Below w.heap.size w W := by rw [← hW]; exact (((Below.refl _ _).alloc (Nat.le_refl _) _).alloc (by simp) _).alloc (by simp; omega) _
  have hz : W.heap.size = w.heap.size + 3 := by rw [← hW]; simp
  have hus : (us s).length = 8 := by rw [us_length]; exact hs8
  have l0 := load_B8 B1 hus
  have bn := Blk.new W (us (List.replicate 8 0)) 273
  obtain ⟨hst, B3⟩ := store_B8 bn rfl hus (us_one s)
  obtain ⟨W1, hW1⟩ : ∃ W1, (W.alloc (.cells (us (List.replicate 8 0)).toArray 273)).setCells W.heap.size 0 (us s) = W1 := ⟨_, rfl⟩
  have hcn : Chg [] W W1 := by rw [← hW1]; exact ((Chg.refl _ _).alloc _).setCells _ (.inr (Nat.le_refl _))
  rw [hW1] at hst B3
  have e0 := B0.chg hcn (by simp)
  have e1 := Blk.ub (B1.chg hcn (by simp)) hs8
  have e2 : Ub _ _ 8 _ := Blk.ub (B2.chg hcn (by simp)) rfl
  have hbW1 := hcn.below (fun _ h => by cases h)
  have hbw1 : Below w.heap.size w W1 := hbw.trans (hbW1.mono hbw.size)
  rw [hz] at hst B3
  have B3 := Blk.ub B3 hs8
  have hrow := row_ex hc hF A c b W1 (vs_below hb hbw1) hcap
  have l1 := load_F e0 hf.len
  have HW := Lib.hid hW
  have HF := Lib.hid hF
  clear hW hW1 bn hcn hF
  go_enter Tryz.func231, Tryz.ntmps231
  go_upto_region 1 with fail
  rw [show (((w.alloc (.cells hc.toArray 232)).alloc (.cells (us s).toArray 273)).alloc (.cells #[.int .u64 0, .int .u64 0, .int .u64 0, .int .u64 0, .int .u64 0, .int .u64 0, .int .u64 0, .int .u64 0] 273)) = W from HW.out]
  have hst : (storeB8 (.pointer (some ⟨w.heap.size + 3, 0, none⟩)) (.agg (us s).toArray)).run Tryz.prog (W.alloc (.cells #[.int .u64 0, .int .u64 0, .int .u64 0, .int .u64 0, .int .u64 0, .int .u64 0, .int .u64 0, .int .u64 0] 273)) = .ok () W1 := hst
  go_wp2_with fail
  refine hrow.mono ?_
  rintro e w1 ⟨g, rfl, hg, B4, hb1⟩
  have f0 := e0.below hb1
  have f1 := e1.below hb1
  have f2 := e2.below hb1
  have f3 := B3.below hb1
  have hbr : Below w.heap.size w w1 := hbw1.trans (hb1.mono hbw1.size)
  have hg3 : w.heap.size + 4 ≤ g := by have := B3.lt; omega
  clear hst
  clear hrow l0 l1 hst e0 e1 e2 B0 B1 B2 B3 HW hbW1 hb1
  go_wp2_with fail
  go_loopw [8, 9, 10, 11, 12, 13, 14, 21] (fun _ _ _ _ _ _ _ i wr => ∃ t : Nat, t ≤ 80 ∧ i = .int .i64 (t : Int) ∧ Below w.heap.size w wr ∧ Blk wr w.heap.size hc 232 ∧ Ub wr (w.heap.size + 1) 8 273 ∧ Ub wr (w.heap.size + 2) 8 273 ∧ Ub wr (w.heap.size + 3) 8 273 ∧ Ub wr g 80 77) (fun _ _ _ _ _ _ _ i _ => 80 - (intOf i).toNat)
  case atStart => exact ⟨0, by omega, rfl, hbr, f0, f1, f2, f3, B4⟩
  case round =>
    obtain ⟨t, ht, rfl, hbx, C0, C1, C2, C3, C4⟩ := hrel
    obtain ⟨wy, hwy⟩ : ∃ wy, wy = wr := ⟨_, rfl⟩
    subst hwy
    by_cases hlt : t < 80
    · obtain ⟨wt, cw⟩ := C4.cell (k := t) hlt
      have hf3 : ∀ p, (Batch.grew wy p).cell? ⟨w.heap.size, 0, none⟩ = some (.int .i64 64) := fun p => (Batch.grew_cell (a := ⟨w.heap.size, 0, none⟩) C0.lt p).trans ((C0.cell 0).trans hf.bits)
      obtain ⟨vt, hv1⟩ := hT t hlt
      have hv1b := World.block_lt_of_cell? w _ hv1
      have f5 : ∀ p, (Batch.grew wy p).cell? ⟨4, t, none⟩ = some (.int .u64 vt) := fun p => ((hbx.trans ((Batch.grew_below wy p).mono hbx.size)).cell (p := ⟨4, t, none⟩) hv1b).trans hv1
      have HC : Hid (∀ x : Int, ∃ r : Int, ∀ W, Calls Tryz.prog 230 #[.int .u64 x] W fun e w' => e = .returned (.int .u64 r) ∧ Below W.heap.size W w') := Lib.hid cut_ex
      clear hv1 hv1b
      go_upto_region 5 with fail
      refine Batch.wp_region_grew (by kernel_rfl) (by kernel_rfl) ?_
      repeat (go_big_quiet_step (fail))
      go_big_quiet_step ((go_at_call 230; exact Batch.calls_grew ((HC.out _).choose_spec _)))
      repeat (go_big_quiet_step (fail))
      refine wpQuiet_nil ?_
      rintro _ ⟨p, rfl⟩
      have hbp := Batch.grew_below wy p
      have C0 := C0.below hbp
      have C1 := C1.below hbp
      have C2 := C2.below hbp
      have C3 := C3.below hbp
      have C4 := C4.below hbp
      have hbx : Below w.heap.size w (Batch.grew wy p) := hbx.trans (hbp.mono hbx.size)
      clear f5 hf3 cw hbp
      generalize Batch.grew wy p = w2 at *
      obtain ⟨R, hsl, C3⟩ := C3
      obtain ⟨r0, r1, r2, r3, r4, r5, r6, r7, rfl⟩ := us8 hsl
      obtain ⟨b1, hA1⟩ := all_ex hc hf 14 18 41 r4 (by omega) (by omega) (by omega) false
      obtain ⟨b0, hA2⟩ := all_ex hc hf 28 34 39 r0 (by omega) (by omega) (by omega) false
      have HA1 := Lib.hid hA1
      have HA2 := Lib.hid hA2
      generalize (HC.out (vt / 1)).choose = kt at *
      have K0 : ∀ W', Below w2.heap.size w2 W' → ∀ i v, (us [r0, r1, r2, r3, r4, r5, r6, r7])[i]? = some v → W'.cell? ⟨w.heap.size + 3, i, none⟩ = some v := fun W' hb i v h => ((C3.below hb).cell i).trans h
      clear hA1 hA2 hsl
      have a0 : ∀ p, (Batch.grew w2 p).cell? ⟨w.heap.size + 3, 0, none⟩ = some (.int .u64 r0) := fun p => K0 _ (Batch.grew_below w2 p) 0 _ rfl
      have a4 : ∀ p, (Batch.grew w2 p).cell? ⟨w.heap.size + 3, 4, none⟩ = some (.int .u64 r4) := fun p => K0 _ (Batch.grew_below w2 p) 4 _ rfl
      go_upto_region 6 with fail
      refine Batch.wp_region_grew (by kernel_rfl) (by kernel_rfl) ?_
      repeat (go_big_quiet_step (fail))
      refine wpQuiet_nil ?_
      rintro _ ⟨p, rfl⟩
      have hb3 := Batch.grew_below w2 p
      clear a0 a4
      generalize Batch.grew w2 p = w3 at *
      have B3' : ∀ p, Below w2.heap.size w2 (Batch.grew w3 p) := fun p => hb3.trans ((Batch.grew_below w3 p).mono hb3.size)
      have a5 : ∀ p, (Batch.grew w3 p).cell? ⟨w.heap.size + 3, 5, none⟩ = some (.int .u64 r5) := fun p => K0 _ (B3' p) 5 _ rfl
      have a6 : ∀ p, (Batch.grew w3 p).cell? ⟨w.heap.size + 3, 6, none⟩ = some (.int .u64 r6) := fun p => K0 _ (B3' p) 6 _ rfl
      have a7 : ∀ p, (Batch.grew w3 p).cell? ⟨w.heap.size + 3, 7, none⟩ = some (.int .u64 r7) := fun p => K0 _ (B3' p) 7 _ rfl
      have aF : ∀ p, (loadF (.pointer (some ⟨w.heap.size, 0, none⟩))).run Tryz.prog (Batch.grew w3 p) = .ok (.agg hc.toArray) (Batch.grew w3 p) := fun p => load_F (C0.below (B3' p)) hf.len
      have aA : ∀ p, (loadA3 (.pointer (some ⟨w.heap.size, 5, none⟩))).run Tryz.prog (Batch.grew w3 p) = .ok (.agg #[.int .i64 ((14 : Nat) : Int), .int .i64 ((18 : Nat) : Int), .int .i64 ((41 : Nat) : Int)]) (Batch.grew w3 p) := fun p => load_A3 (C0.below (B3' p)) (by rw [HF.out]; rfl) (by rw [HF.out]; rfl) (by rw [HF.out]; rfl)
      go_upto_region 7 with fail
      refine Batch.wp_region_grew (by kernel_rfl) (by kernel_rfl) ?_
      repeat (go_big_quiet_step (fail))
      go_big_quiet_step ((go_at_call 253; exact Batch.calls_grew (HA1.out _)))
      repeat (go_big_quiet_step (fail))
      go_big_quiet_step ((go_at_call 230; exact Batch.calls_grew ((HC.out _).choose_spec _)))
      repeat (go_big_quiet_step (fail))
      refine wpQuiet_nil ?_
      rintro _ ⟨p, rfl⟩
      have hb4 := B3' p
      clear a5 a6 a7 aF aA B3' HA1
      generalize Batch.grew w3 p = w4 at *
      have B4' : ∀ p, Below w2.heap.size w2 (Batch.grew w4 p) := fun p => hb4.trans ((Batch.grew_below w4 p).mono hb4.size)
      have a1 : ∀ p, (Batch.grew w4 p).cell? ⟨w.heap.size + 3, 1, none⟩ = some (.int .u64 r1) := fun p => K0 _ (B4' p) 1 _ rfl
      have a2 : ∀ p, (Batch.grew w4 p).cell? ⟨w.heap.size + 3, 2, none⟩ = some (.int .u64 r2) := fun p => K0 _ (B4' p) 2 _ rfl
      have aF : ∀ p, (loadF (.pointer (some ⟨w.heap.size, 0, none⟩))).run Tryz.prog (Batch.grew w4 p) = .ok (.agg hc.toArray) (Batch.grew w4 p) := fun p => load_F (C0.below (B4' p)) hf.len
      have aA : ∀ p, (loadA3 (.pointer (some ⟨w.heap.size, 2, none⟩))).run Tryz.prog (Batch.grew w4 p) = .ok (.agg #[.int .i64 ((28 : Nat) : Int), .int .i64 ((34 : Nat) : Int), .int .i64 ((39 : Nat) : Int)]) (Batch.grew w4 p) := fun p => load_A3 (C0.below (B4' p)) (by rw [HF.out]; rfl) (by rw [HF.out]; rfl) (by rw [HF.out]; rfl)
      go_upto_region 8 with fail
      refine Batch.wp_region_grew (by kernel_rfl) (by kernel_rfl) ?_
      repeat (go_big_quiet_step (fail))
      go_big_quiet_step ((go_at_call 253; exact Batch.calls_grew (HA2.out _)))
      repeat (go_big_quiet_step (fail))
      go_big_quiet_step ((go_at_call 230; exact Batch.calls_grew ((HC.out _).choose_spec _)))
      repeat (go_big_quiet_step (fail))
      refine wpQuiet_nil ?_
      rintro _ ⟨p, rfl⟩
      have hb5 := B4' p
      clear a1 a2 aF aA B4' HA2
      generalize Batch.grew w4 p = w5 at *
      go_upto_region 9 with fail
      refine Batch.wp_region_grew_tail 2 (by kernel_rfl) (by kernel_rfl) ?_
      simp only [List.take_succ_cons, List.take_zero, List.drop_succ_cons, List.drop_zero]
      repeat (go_big_quiet_step (fail))
      refine wpQuiet_nil ?_
      rintro _ ⟨p, rfl⟩
      have hb6 : Below w2.heap.size w2 (Batch.grew w5 p) := hb5.trans ((Batch.grew_below w5 p).mono hb5.size)
      clear hb3 hb4 hb5
      generalize Batch.grew w5 p = w6 at *
      have D0 := C0.below hb6
      have D1 := C1.below hb6
      have D2 := C2.below hb6
      have D3 := C3.below hb6
      have D4 := C4.below hb6
      have hbw6 : Below w.heap.size w w6 := hbx.trans (hb6.mono hbx.size)
      have hcp : ∀ ty, (Builtin.copy_ #[176, 176] ty #[.slice (some ⟨w.heap.size + 3, 1, none⟩) 7 7, .slice (some ⟨w.heap.size + 3, 0, none⟩) 7 8]).run Tryz.prog w6 = .ok (goInt 7) (w6.setRow (w.heap.size + 3) (us [r0, r0, r1, r2, r3, r4, r5, r6]).toArray) := fun ty =>
        run_copyK (m := 7) (k := 1) (cs := us [r0, r1, r2, r3, r4, r5, r6]) Tryz.underlying176 isz64 D3 rfl rfl (fun j v hj => by
          have hlt : j < 7 := by
            have := (List.getElem?_eq_some_iff.1 hj).1
            rw [us_length] at this
            exact this
          rw [show (⟨w.heap.size + 3, 0, none⟩ : Addr).add j = ⟨w.heap.size + 3, j, none⟩ by simp [Addr.add]; omega, D3.cell]
          rw [← hj]
          match j, hlt with
          | 0, _ => rfl
          | 1, _ => rfl
          | 2, _ => rfl
          | 3, _ => rfl
          | 4, _ => rfl
          | 5, _ => rfl
          | 6, _ => rfl) (by simp [us]) (us_one _)
      obtain ⟨w7, hw7⟩ : ∃ w7, w6.setRow (w.heap.size + 3) (us [r0, r0, r1, r2, r3, r4, r5, r6]).toArray = w7 := ⟨_, rfl⟩
      have E3 : Blk w7 (w.heap.size + 3) (us [r0, r0, r1, r2, r3, r4, r5, r6]) 273 := by rw [← hw7]; exact blk_setRow D3
      have oth : ∀ {g' : Nat} {M : List Value} {e : TypeId}, Blk w6 g' M e → g' ≠ w.heap.size + 3 → Blk w7 g' M e := fun h hne => by
        rw [← hw7]
        unfold Blk at *
        rw [setRow_other _ _ _ _ hne]
        exact h
      have othU : ∀ {g' n : Nat} {e : TypeId}, Ub w6 g' n e → g' ≠ w.heap.size + 3 → Ub w7 g' n e := fun ⟨xs, hl, h⟩ hne => ⟨xs, hl, oth h hne⟩
      have E0 := oth D0 (by omega)
      have E1 := othU D1 (by omega)
      have E2 := othU D2 (by omega)
      have E4 := othU D4 (by omega)
      have hbw7 : Below w.heap.size w w7 := by
        rw [← hw7]
        exact ⟨hbw6.os, hbw6.tape, hbw6.output, by simp [World.setRow]; exact hbw6.size, fun i hi => by rw [setRow_other _ _ _ _ (by omega)]; exact hbw6.block i hi⟩
      rw [hw7] at hcp
      have s4 : w7.cell? ⟨w.heap.size + 3, 4, none⟩ = some (.int .u64 r3) := E3.cell 4
      have s0 : w7.cell? ⟨w.heap.size + 3, 0, none⟩ = some (.int .u64 r0) := E3.cell 0
      have z4 : w7.frozen? ⟨w.heap.size + 3, 4, none⟩ = false := E3.froz 4
      have z0 : w7.frozen? ⟨w.heap.size + 3, 0, none⟩ = false := E3.froz 0
      have hw7s := E3.lt
      have E3 : Ub w7 (w.heap.size + 3) 8 273 := Blk.ub E3 rfl
      clear K0 C0 C1 C2 C3 C4 D0 D1 D2 D3 D4 oth othU hw7 hb6 hbx hbw6
      go_wp2_with (at_builtin; refine wpList_copyR _ rfl _ _ 176 176 rfl _ _ rfl rfl (hcp _) ?_)
      (try rw [Batch.Qn_normal])
      (try go_wp2)
      go_roundw
      case rel => exact ⟨t + 1, by omega, by go_num, (hbw7.setCell (by simp) _).setCell (by simp) _, (E0.set_ne (by simp) _).set_ne (by simp) _, (E1.set_ne (by simp) _).set_ne (by simp) _, (E2.set_ne (by simp) _).set_ne (by simp) _, (E3.set _ _).set _ _, (E4.set_ne (by simp; omega) _).set_ne (by simp; omega) _⟩
      case measure => simp [intOf]; omega
    · obtain rfl : t = 80 := by omega
      clear hT B4 f0 f1 f2 f3
      go_wp2_with fail
      go_loopw [15, 99] (fun _ i wr => ∃ j : Nat, j ≤ 8 ∧ i = .int .i64 (j : Int) ∧ Below w.heap.size w wr ∧ Ub wr (w.heap.size + 1) 8 273 ∧ Ub wr (w.heap.size + 2) 8 273 ∧ Ub wr (w.heap.size + 3) 8 273) (fun _ i _ => 8 - (intOf i).toNat)
      case atStart => exact ⟨0, by omega, rfl, hbx, C1, C2, C3⟩
      case round =>
        obtain ⟨j, hj, rfl, hbz, F1, F2, F3⟩ := hrel
        obtain ⟨wz, hwz⟩ : ∃ wz, wz = wr := ⟨_, rfl⟩
        subst hwz
        by_cases hjl : j < 8
        · obtain ⟨x, h3⟩ := F3.cell (k := j) hjl
          obtain ⟨y, h1⟩ := F1.cell (k := j) hjl
          have k3 : ∀ p, (Batch.grew wz p).cell? ⟨w.heap.size + 3, j, none⟩ = some (.int .u64 x) := fun p => (Batch.grew_cell (a := ⟨w.heap.size + 3, j, none⟩) F3.lt p).trans h3
          have k1 : ∀ p, (Batch.grew wz p).cell? ⟨w.heap.size + 1, j, none⟩ = some (.int .u64 y) := fun p => (Batch.grew_cell (a := ⟨w.heap.size + 1, j, none⟩) F1.lt p).trans h1
          clear h1 h3
          go_upto_region 16 with fail
          refine Batch.wp_region_grew_tail 8 (by kernel_rfl) (by kernel_rfl) ?_
          simp only [List.take_succ_cons, List.take_zero, List.drop_succ_cons, List.drop_zero]
          repeat (go_big_quiet_step (fail))
          refine wpQuiet_nil ?_
          rintro _ ⟨p, rfl⟩
          have hbp := Batch.grew_below wz p
          have kc := k3 p
          have G1 := F1.below hbp
          have G2 := F2.below hbp
          have G3 := F3.below hbp
          have hbq : Below w.heap.size w (Batch.grew wz p) := hbz.trans (hbp.mono hbz.size)
          have kf : (Batch.grew wz p).frozen? ⟨w.heap.size + 3, j, none⟩ = false := G3.froz _
          have hlt3 := G3.lt
          clear k3 k1 F1 F2 F3
          generalize Batch.grew wz p = wq at *
          go_wp2_with fail
          (try rw [Batch.Qn_normal])
          (try go_wp2)
          go_roundw
          case rel => exact ⟨j + 1, by omega, by go_num, hbq.setCell (by simp) _, G1.set_ne (by simp) _, G2.set_ne (by simp) _, G3.set _ _⟩
          case measure => simp [intOf]; omega
        · obtain rfl : j = 8 := by omega
          obtain ⟨xs, hxl, F3⟩ := F3
          obtain ⟨ys, hyl, F2⟩ := F2
          have hxs : (us xs).length = 8 := by rw [us_length]; exact hxl
          have hys : (us ys).length = 8 := by rw [us_length]; exact hyl
          have hld := load_B8 F3 hxs
          obtain ⟨hst, hSt⟩ := store_B8 F2 hys (vs := us xs) hxs (us_one _)
          obtain ⟨wf, hwf⟩ : ∃ wf, wz.setCells (w.heap.size + 2) 0 (us xs) = wf := ⟨_, rfl⟩
          have hbf : Below w.heap.size w wf := by
            rw [← hwf]
            exact ((Chg.of_below (S := []) hbz).setCells _ (.inr (by omega))).below (by simp)
          rw [hwf] at hst hSt
          have hHh : Has wf (w.heap.size + 2) 0 8 := blk_has hSt hxs
          have hA := blk_arr hSt (n := 8) hxs
          clear hwf
          go_wp2
          refine bodyPost_ret (results_arr (P := Tryz.prog) Tryz.results231 _ _ (w.heap.size + 2) 0 8 _ rfl Tryz.underlying273 rfl size_B8 hHh) rfl ?_
          exact ⟨⟨_, rfl, xs, hxl, by rw [hA]⟩, hbf⟩
end Cry
end Go.Proofs.YtgalhnobckoneaaGreatDoor
