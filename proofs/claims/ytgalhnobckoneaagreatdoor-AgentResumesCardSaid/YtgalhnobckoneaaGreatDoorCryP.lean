/- THE WALKS of the program's field, that they return: Bytes, Inv. -/
import Derived.Test.YtgalhnobckoneaaGreatDoorCryF
import Derived.Test.YtgalhnobckoneaaGreatDoorCryN
namespace Go.Proofs.YtgalhnobckoneaaGreatDoor
open Go.RowKit Mem
namespace Cry

theorem make32 (w : World) : (Instr.makeSlice 27 (.int .i64 32) (.int .i64 32)).run Tryz.prog w = .ok (.slice (some ⟨w.heap.size, 0, none⟩) 32 32) (w.alloc (.cells (i8 (List.replicate 32 0)).toArray 5)) := by
  obtain ⟨i0, hi, hz0, hz1, hz2⟩ := info_parts infoU8
  have hr := run_make (P := Tryz.prog) w 27 5 i0 _ Tryz.underlying27 hi hz0 .i64 .i64 32 32 (by omega) (by omega) (by rw [hz2]; omega) (by omega)
  rw [hz1] at hr
  rw [show (i8 (List.replicate 32 0)).toArray = madeCells (.int .u8 0 : Value).cells (32 * 1) by rw [made_one _ rfl]; rfl]
  exact hr
/-- A block of n bytes, whatever they are. -/
def Yb (w : World) (g n : Nat) (t : TypeId) : Prop := ∃ l : List Int, l.length = n ∧ Blk w g (i8 l) t
section
variable {w w' : World} {g n : Nat} {t : TypeId}
theorem Yb.lt (h : Yb w g n t) : g < w.heap.size := by obtain ⟨_, _, h⟩ := h; exact h.lt
theorem Yb.froz (h : Yb w g n t) (k : Nat) : w.frozen? ⟨g, k, none⟩ = false := by obtain ⟨_, _, h⟩ := h; exact h.froz k
theorem Yb.cell (h : Yb w g n t) {k : Nat} (hk : k < n) : ∃ x : Int, w.cell? ⟨g, k, none⟩ = some (.int .u8 x) := by
  obtain ⟨xs, hl, h⟩ := h
  exact ⟨_, (h.cell k).trans (i8_at xs (by omega))⟩
theorem Yb.set (h : Yb w g n t) (k : Nat) (x : Int) : Yb (w.setCell ⟨g, k, none⟩ (.int .u8 x)) g n t := by
  obtain ⟨xs, hl, h⟩ := h
  exact ⟨xs.set k x, by simpa using hl, by rw [← i8_set]; exact h.set k _⟩
theorem Yb.set_ne (h : Yb w g n t) {p : Addr} (hp : g ≠ p.block) (v : Value) : Yb (w.setCell p v) g n t := by
  obtain ⟨xs, hl, h⟩ := h
  exact ⟨xs, hl, h.set_ne hp v⟩
theorem Yb.below (h : Yb w g n t) (hb : Below w.heap.size w w') : Yb w' g n t := by
  obtain ⟨xs, hl, h⟩ := h
  exact ⟨xs, hl, h.below hb⟩
end
set_option maxRecDepth 100000 in
set_option maxHeartbeats 4000000 in
theorem inv_ex (xs : List Int) (hx : xs.length = 5) (w : World) : Calls Tryz.prog 82 #[.agg (us xs).toArray] w (Ans (Uv 5) w) := by
  obtain ⟨W, HW, A0, A1, hbw, hz⟩ := boxes2 w (us xs) 80 (us z5) 80
  have A0 := Blk.ub A0 hx
  have A1 : Ub _ _ 5 _ := Blk.ub A1 rfl
  have hmk := make32 W
  have E0 : Yb _ _ 32 _ := ⟨_, rfl, Blk.new W (i8 (List.replicate 32 0)) 5⟩
  have hbm : Below W.heap.size W (W.alloc (.cells (i8 (List.replicate 32 0)).toArray 5)) := (Below.refl _ _).alloc (Nat.le_refl _) _
  have A0 := A0.below hbm
  have A1 := A1.below hbm
  have hb1 := hbw.trans (hbm.mono hbw.size)
  rw [hz] at hmk E0
  obtain ⟨W1, hW1⟩ : ∃ W1, W.alloc (.cells (i8 (List.replicate 32 0)).toArray 5) = W1 := ⟨_, rfl⟩
  rw [hW1] at hmk E0 A0 A1 hb1
  clear hW1 hbm
  go_enter Tryz.func82, Tryz.ntmps82
  go_upto_region 1 with fail
  rw [show ((w.alloc (.cells (us xs).toArray 80)).alloc (.cells #[.int .u64 0, .int .u64 0, .int .u64 0, .int .u64 0, .int .u64 0] 80)) = W from HW.out]
  clear HW
  go_wp2_with fail
  clear hmk
  go_loopw [4, 8] (fun _ i wr => ∃ t : Nat, t ≤ 32 ∧ i = .int .i64 (t : Int) ∧ Below w.heap.size w wr ∧ Ub wr w.heap.size 5 80 ∧ Ub wr (w.heap.size + 1) 5 80 ∧ Yb wr (w.heap.size + 2) 32 5) (fun _ i _ => 32 - (intOf i).toNat)
  case atStart => exact ⟨0, by omega, rfl, hb1, A0, A1, E0⟩
  case round =>
    clear hb1 A0 A1 E0
    obtain ⟨t, ht, rfl, hbr, B0, B1, E⟩ := hrel
    by_cases hlt : t < 32
    · obtain ⟨x, hx⟩ := E.cell hlt
      have hf := E.froz t
      go_wp2_with fail
      go_roundw
      case rel => exact ⟨t + 1, by omega, by go_num, hbr.setCell (by simp) _, B0.set_ne (by simp <;> omega) _, B1.set_ne (by simp) _, E.set _ _⟩
      case measure => simp [intOf]; omega
    · obtain rfl : t = 32 := by omega
      obtain ⟨x, hx⟩ := E.cell (k := 0) (by omega)
      have hf := E.froz 0
      have E1 := E.set 0 235
      have hb2 := hbr.setCell (p := ⟨w.heap.size + 2, 0, none⟩) (by simp) (.int .u8 235)
      have C0 := B0.set_ne (p := ⟨w.heap.size + 2, 0, none⟩) (by simp <;> omega) (.int .u8 235)
      have C1 := B1.set_ne (p := ⟨w.heap.size + 2, 0, none⟩) (by simp) (.int .u8 235)
      obtain ⟨y, hy⟩ := E1.cell (k := 31) (by omega)
      have hg := E1.froz 31
      have E2 := E1.set 31 127
      have hb3 := hb2.setCell (p := ⟨w.heap.size + 2, 31, none⟩) (by simp) (.int .u8 127)
      have D0 := C0.set_ne (p := ⟨w.heap.size + 2, 31, none⟩) (by simp <;> omega) (.int .u8 127)
      have D1 := C1.set_ne (p := ⟨w.heap.size + 2, 31, none⟩) (by simp) (.int .u8 127)
      obtain ⟨w4, hw4⟩ : ∃ w4, (wr.setCell ⟨w.heap.size + 2, 0, none⟩ (.int .u8 235)).setCell ⟨w.heap.size + 2, 31, none⟩ (.int .u8 127) = w4 := ⟨_, rfl⟩
      rw [hw4] at E2 hb3 D0 D1
      obtain ⟨es, he, hl⟩ := D0.loadE 0 (by omega)
      have hl := hl w4 (Below.refl _ _)
      obtain ⟨el, hel, hE⟩ := E2
      rw [← hw4] at hl
      have HW4 := Lib.hid hw4
      clear hw4
      go_wp2_with fail
      rw [HW4.out]
      refine (pow_ex es he _ 32 el w4 hel hE (by omega)).mono ?_
      rintro e w5 ⟨⟨_, rfl, cs, hc, rfl⟩, hb5⟩
      obtain ⟨w6, hst, U2, hcg⟩ := (D1.below hb5).storeE hc
      have hbw5 := hb3.trans (hb5.mono hb3.size)
      have hb6 : Below w.heap.size w w6 := hbw5.trans (hcg.below' hbw5.size (by simp))
      obtain ⟨r1, r2⟩ := U2.res
      clear hl HW4
      go_wp2
      refine bodyPost_ret (results_arr (P := Tryz.prog) Tryz.results82 _ _ (w.heap.size + 1) 0 5 _ rfl Tryz.underlying80 rfl size_E r1) rfl ?_
      exact ⟨⟨_, rfl, r2⟩, hb6⟩
/-- A byte's bits, of two bytes. -/
theorem or_byte (b : UInt8) (y : Int) (h0 : 0 ≤ y) (h1 : y < 256) : ∃ b' : UInt8, bits .or .u8 ((b.toNat : Nat) : Int) y = ((b'.toNat : Nat) : Int) := by
  obtain ⟨n, rfl⟩ := Int.eq_ofNat_of_zero_le h0
  have hb := b.toNat_lt
  have := u8_or_nat b.toNat n (by omega) (by omega)
  rw [this]
  have hlt : b.toNat ||| n < 256 := Nat.or_lt_two_pow (n := 8) (by omega) (by omega)
  exact ⟨UInt8.ofNat (b.toNat ||| n), by rw [UInt8.toNat_ofNat_of_lt' hlt]⟩
/-- A block of n bytes. -/
def Bb (w : World) (g n : Nat) (t : TypeId) : Prop := ∃ l : List UInt8, l.length = n ∧ Blk w g (bv l) t
theorem Bb.below {w w' : World} {g n : Nat} {t : TypeId} (h : Bb w g n t) (hb : Below w.heap.size w w') : Bb w' g n t := by
  obtain ⟨xs, hl, h⟩ := h
  exact ⟨xs, hl, h.below hb⟩
theorem Bb.set_ne {w : World} {g n : Nat} {t : TypeId} (h : Bb w g n t) {p : Addr} (hp : g ≠ p.block) (v : Value) : Bb (w.setCell p v) g n t := by
  obtain ⟨xs, hl, h⟩ := h
  exact ⟨xs, hl, h.set_ne hp v⟩
set_option maxRecDepth 100000 in
set_option maxHeartbeats 8000000 in
theorem bytes_ex (xs : List Int) (hx : xs.length = 5) (w : World) : Calls Tryz.prog 84 #[.agg (us xs).toArray] w fun e w' => ∃ g, w.heap.size ≤ g ∧ e = .returned (.slice (some ⟨g, 0, none⟩) 32 32) ∧ Bb w' g 32 5 ∧ Below w.heap.size w w' := by
  obtain ⟨W, HW, A0, hbw, hz⟩ := boxes1 w (us xs) 80
  have A0 := Blk.ub A0 hx
  obtain ⟨es, ha, hl⟩ := A0.loadE 0 (by omega)
  have hl := hl W (Below.refl _ _)
  go_enter Tryz.func84, Tryz.ntmps84
  go_upto_region 1 with fail
  rw [show (w.alloc (.cells (us xs).toArray 80)) = W from HW.out]
  clear HW
  go_wp2_with fail
  refine (least_ex es ha _).mono ?_
  rintro e w1 ⟨⟨_, rfl, bs, hb, rfl⟩, hb1⟩
  obtain ⟨w2, hst, U0, hcg⟩ := (A0.below hb1).storeE hb
  have hbw1 := hbw.trans (hb1.mono hbw.size)
  have hb2 : Below w.heap.size w w2 := hbw1.trans (hcg.below' hbw1.size (by simp))
  have hs2 := hcg.size
  have hs1 := hb1.size
  have hmk := make32 w2
  have E0 : Bb _ _ 32 _ := ⟨List.replicate 32 0, rfl, Blk.new w2 (i8 (List.replicate 32 0)) 5⟩
  have hbm : Below w2.heap.size w2 (w2.alloc (.cells (i8 (List.replicate 32 0)).toArray 5)) := (Below.refl _ _).alloc (Nat.le_refl _) _
  have U0 := U0.below hbm
  have hb3 := hb2.trans (hbm.mono hb2.size)
  obtain ⟨w3, hw3⟩ : ∃ w3, w2.alloc (.cells (i8 (List.replicate 32 0)).toArray 5) = w3 := ⟨_, rfl⟩
  rw [hw3] at hmk E0 U0 hb3
  have hg : w.heap.size + 1 ≤ w2.heap.size := by omega
  obtain ⟨ls, hl5, hld⟩ := U0.loadL5 0 (by omega)
  have hld := hld w3 (Below.refl _ _)
  clear hl hcg hbm hw3 hb1 hbw1 A0
  go_wp2_with fail
  generalize w2.heap.size = gO at *
  clear hst hmk hld
  go_loopw [4, 5, 6, 7, 13] (fun _ _ _ _ i wr => ∃ t : Nat, t ≤ 5 ∧ i = .int .i64 (t : Int) ∧ Below w.heap.size w wr ∧ Bb wr gO 32 5) (fun _ _ _ _ i _ => 5 - (intOf i).toNat)
  case atStart => exact ⟨0, by omega, rfl, hb3, E0⟩
  case round =>
    clear hb3 E0 U0
    obtain ⟨t, ht, rfl, hbr, E⟩ := hrel
    obtain ⟨wz, hwz⟩ : ∃ wz, wz = wr := ⟨_, rfl⟩
    subst hwz
    by_cases hlt : t < 5
    · have hdec : decide ((t : Int) < 5) = true := by simp; omega
      have hix := fun W => index_L5 ls hl5 W t hlt
      generalize ls.getD t 0 = lx at *
      go_wp2_with fail
      go_loopw [6, 7, 17] (fun _ _ j wr => ∃ u : Nat, u ≤ 51 ∧ j = .int .i64 (u : Int) ∧ Below w.heap.size w wr ∧ Bb wr gO 32 5) (fun _ _ j _ => 51 - (intOf j).toNat)
      case atStart => exact ⟨0, by omega, rfl, hbr, E⟩
      case round =>
        clear hbr E hix
        obtain ⟨u, hu, rfl, hbr, E⟩ := hrel
        obtain ⟨wy, hwy⟩ : ∃ wy, wy = wr := ⟨_, rfl⟩
        subst hwy
        by_cases hlu : u < 51
        · obtain ⟨a, ha⟩ : ∃ a : Nat, t * 51 + u = a := ⟨_, rfl⟩
          have ha1 : (t : Int) * 51 + (u : Int) = (a : Int) := by omega
          have ha2 : a < 255 := by omega
          obtain ⟨q, hq⟩ : ∃ q : Nat, a / 8 = q := ⟨_, rfl⟩
          obtain ⟨r, hr⟩ : ∃ r : Nat, a % 8 = r := ⟨_, rfl⟩
          have hq1 : (a : Int) / 8 = (q : Int) := by omega
          have hq2 : Int.tdiv (a : Int) 8 = (q : Int) := by rw [Int.tdiv_eq_ediv_of_nonneg (by omega)]; exact hq1
          have hr1 : (a : Int) % 8 = (r : Int) := by omega
          have hr2 : Int.tmod (a : Int) 8 = (r : Int) := by rw [Int.tmod_eq_emod_of_nonneg (by omega)]; exact hr1
          have hq32 : q < 32 := by omega
          obtain ⟨ol, hol, hO⟩ := E
          obtain ⟨ob, hob⟩ : ∃ ob, ol[q]? = some ob := ⟨_, List.getElem?_eq_getElem (by omega)⟩
          have hcell : ∀ p, (Batch.grew wy p).cell? ⟨gO, q, none⟩ = some (.int .u8 ((ob.toNat : Nat) : Int)) := fun p => (Batch.grew_cell (a := ⟨gO, q, none⟩) hO.lt p).trans ((hO.cell q).trans (by rw [bv_at, hob]; rfl))
          obtain ⟨nb, hnb⟩ := or_byte ob (bits .and .u64 (lx / 2 ^ u) 1 % 256 * 2 ^ r % 256) (Int.emod_nonneg _ (by omega)) (Int.emod_lt_of_pos _ (by omega))
          have HNB := Lib.hid hnb
          clear hnb
          go_upto_region 10 with fail
          refine Batch.wp_region_grew_tail 15 (by kernel_rfl) (by kernel_rfl) ?_
          simp only [List.take_succ_cons, List.take_zero, List.drop_succ_cons, List.drop_zero]
          repeat (go_big_quiet_step (fail))
          refine wpQuiet_nil ?_
          rintro _ ⟨p, rfl⟩
          rw [HNB.out]
          have hbp := Batch.grew_below wy p
          have kc := hcell p
          have G := hO.below hbp
          have hbq : Below w.heap.size w (Batch.grew wy p) := hbr.trans (hbp.mono hbr.size)
          have kf := G.froz q
          have hgl : w.heap.size ≤ gO := by omega
          clear hcell hbr hO HNB hbp
          generalize Batch.grew wy p = wq at *
          go_wp2_with fail
          (try rw [Batch.Qn_normal])
          (try go_wp2)
          go_roundw
          case rel => exact ⟨u + 1, by omega, by go_num, hbq.setCell (by simpa using hgl) _, ol.set q nb, by simpa using hol, by rw [← bv_set]; exact G.set _ _⟩
          case measure => simp [intOf]; omega
        · obtain rfl : u = 51 := by omega
          go_wp2_with fail
          go_roundw
          case rel => exact ⟨t + 1, by omega, by go_num, hbr, E⟩
          case measure => simp [intOf]; omega
    · obtain rfl : t = 5 := by omega
      go_wp2_with fail
      go_ret
      exact ⟨gO, by omega, rfl, E, hbr⟩
end Cry
end Go.Proofs.YtgalhnobckoneaaGreatDoor
