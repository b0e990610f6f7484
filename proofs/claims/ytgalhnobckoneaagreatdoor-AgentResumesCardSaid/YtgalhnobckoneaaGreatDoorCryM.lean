/- THE WALK of the program's field, that it returns: Mul. -/
import Derived.Test.YtgalhnobckoneaaGreatDoorCryG
namespace Go.Proofs.YtgalhnobckoneaaGreatDoor
open Go.RowKit Mem
namespace Cry

/-- What Mul keeps while it goes. -/
def MulAt (w wr : World) : Prop := Below w.heap.size w wr ∧ Ub wr w.heap.size 5 80 ∧ Ub wr (w.heap.size + 1) 5 80 ∧ Ub wr (w.heap.size + 2) 5 80 ∧ Rb wr (w.heap.size + 3) 188
theorem MulAt.step {w wr w1 : World} (h : MulAt w wr) (hb : Below wr.heap.size wr w1) {k : Nat} (hk : k < 5) (a : Int) {b : Int} (hl : Lo b) :
    ∃ w2, (storeWd (.pointer (some ⟨w.heap.size + 3, k * 2, none⟩)) (.agg #[.int .u64 a, .int .u64 b])).run Tryz.prog w1 = .ok () w2 ∧ MulAt w w2 := by
  obtain ⟨h0, h1, h2, h3, h4⟩ := h
  obtain ⟨w2, hs, hR, hc⟩ := (h4.below hb).store hk a hl
  have hb1 := h0.trans (hb.mono h0.size)
  exact ⟨w2, hs, hb1.trans (hc.below' hb1.size (by simp)), (h1.below hb).chg hc (by simp), (h2.below hb).chg hc (by simp), (h3.below hb).chg hc (by simp), hR⟩
set_option maxRecDepth 100000 in
set_option maxHeartbeats 8000000 in
theorem mul_ex (xs ys : List Int) (hx : xs.length = 5) (hy : ys.length = 5) (w : World) : Calls Tryz.prog 83 #[.agg (us xs).toArray, .agg (us ys).toArray] w (Ans (Uv 5) w) := by
  obtain ⟨W, HW, A0, A1, A2, A3, hbw, hz⟩ := boxes4 w (us xs) 80 (us ys) 80 (us z5) 80 (us (z5 ++ z5)) 188
  have A0 := Blk.ub A0 hx
  have A1 := Blk.ub A1 hy
  have A2 : Ub _ _ 5 _ := Blk.ub A2 rfl
  have A3 : Rb W (w.heap.size + 3) 188 := ⟨_, rfl, by unfold Lo; decide, A3⟩
  have AT : MulAt w W := ⟨hbw, A0, A1, A2, A3⟩
  obtain ⟨ls, hl5, hld⟩ := A0.loadL5 0 (by omega)
  have hld := hld W (Below.refl _ _)
  clear A0 A1 A2 A3 hbw
  go_enter Tryz.func83, Tryz.ntmps83
  go_upto_region 2 with fail
  rw [show ((((w.alloc (.cells (us xs).toArray 80)).alloc (.cells (us ys).toArray 80)).alloc (.cells #[.int .u64 0, .int .u64 0, .int .u64 0, .int .u64 0, .int .u64 0] 80)).alloc (.cells #[.int .u64 0, .int .u64 0, .int .u64 0, .int .u64 0, .int .u64 0, .int .u64 0, .int .u64 0, .int .u64 0, .int .u64 0, .int .u64 0] 188)) = W from HW.out]
  clear HW
  go_wp2_with fail
  go_loopw [6, 7, 8, 9, 10, 16] (fun _ _ _ _ _ i wr => ∃ t : Nat, t ≤ 5 ∧ i = .int .i64 (t : Int) ∧ MulAt w wr) (fun _ _ _ _ _ i _ => 5 - (intOf i).toNat)
  case atStart => exact ⟨0, by omega, rfl, AT⟩
  case round =>
    clear AT hld
    obtain ⟨t, ht, rfl, AT⟩ := hrel
    obtain ⟨wz, hwz⟩ : ∃ wz, wz = wr := ⟨_, rfl⟩
    subst hwz
    by_cases hlt : t < 5
    · have hdec : decide ((t : Int) < 5) = true := by simp; omega
      have hix := fun W => index_L5 ls hl5 W t hlt
      generalize ls.getD t 0 = lx at *
      obtain ⟨bs, hb5, hld⟩ := AT.2.2.1.loadL5 0 (by omega)
      have hld := hld wz (Below.refl _ _)
      go_wp2_with fail
      go_loopw [8, 9, 10, 22] (fun _ _ _ j wr => ∃ u : Nat, u ≤ 5 ∧ j = .int .i64 (u : Int) ∧ MulAt w wr) (fun _ _ _ j _ => 5 - (intOf j).toNat)
      case atStart => exact ⟨0, by omega, rfl, AT⟩
      case round =>
        clear AT hld hix
        obtain ⟨u, hu, rfl, AT⟩ := hrel
        by_cases hlu : u < 5
        · have hix := fun W => index_L5 bs hb5 W u hlu
          generalize bs.getD u 0 = ly at *
          by_cases h5 : 5 ≤ t + u
          · obtain ⟨k, hk⟩ : ∃ k : Nat, t + u = 5 + k := ⟨t + u - 5, by omega⟩
            have hk5 : k < 5 := by omega
            have hk1 : (t : Int) + (u : Int) = 5 + (k : Int) := by omega
            have hk2 : (t : Int) + (u : Int) - 5 = (k : Int) := by omega
            obtain ⟨a, b, hl, hld⟩ := AT.2.2.2.2.load hk5
            have hld := hld wr (Below.refl _ _)
            go_wp2_with fail
            refine (plus_ex a b _ _ hl _).mono ?_
            rintro e w1 ⟨⟨a', b', hl', rfl⟩, hb1⟩
            obtain ⟨w2, hst, AT2⟩ := AT.step hb1 hk5 a' hl'
            clear AT hld hix hb1
            go_wp2_with fail
            go_roundw
            case rel => exact ⟨u + 1, by omega, by go_num, AT2⟩
            case measure => simp [intOf]; omega
          · obtain ⟨k, hk⟩ : ∃ k : Nat, t + u = k := ⟨_, rfl⟩
            have hk5 : k < 5 := by omega
            have hk1 : (t : Int) + (u : Int) = (k : Int) := by omega
            obtain ⟨a, b, hl, hld⟩ := AT.2.2.2.2.load hk5
            have hld := hld wr (Below.refl _ _)
            go_wp2_with fail
            refine (plus_ex a b _ _ hl _).mono ?_
            rintro e w1 ⟨⟨a', b', hl', rfl⟩, hb1⟩
            obtain ⟨w2, hst, AT2⟩ := AT.step hb1 hk5 a' hl'
            clear AT hld hix hb1
            go_wp2_with fail
            go_roundw
            case rel => exact ⟨u + 1, by omega, by go_num, AT2⟩
            case measure => simp [intOf]; omega
        · obtain rfl : u = 5 := by omega
          go_wp2_with fail
          go_roundw
          case rel => exact ⟨t + 1, by omega, by go_num, AT⟩
          case measure => simp [intOf]; omega
    · have hdec : decide ((t : Int) < 5) = false := by simp; omega
      have hge : (5 : Int) ≤ (t : Int) := by omega
      obtain ⟨hb, _, _, U2, R⟩ := AT
      have hR4 := R.ub.lt
      obtain ⟨W2, HW2, O, hbo, hzo⟩ := boxes1 wz (us z5) 80
      have O : Ub _ _ 5 _ := Blk.ub O rfl
      have R := R.below hbo
      have U2 := U2.below hbo
      have hne : w.heap.size + 4 ≤ wz.heap.size := by omega
      have hb := hb.trans (hbo.mono hb.size)
      go_upto_region 15 with fail
      rw [show (wz.alloc (.cells #[.int .u64 0, .int .u64 0, .int .u64 0, .int .u64 0, .int .u64 0] 80)) = W2 from HW2.out]
      clear HW2 hbo
      go_wp2_with fail
      go_loopw [12, 13, 60] (fun _ _ i wr => ∃ t : Nat, t ≤ 5 ∧ i = .int .i64 (t : Int) ∧ Below w.heap.size w wr ∧ Rb wr (w.heap.size + 3) 188 ∧ Ub wr wz.heap.size 5 80 ∧ Ub wr (w.heap.size + 2) 5 80) (fun _ _ i _ => 5 - (intOf i).toNat)
      case atStart => exact ⟨0, by omega, rfl, hb, R, O, U2⟩
      case round =>
        clear hb R O U2
        obtain ⟨t, ht, rfl, hbr, R, O, U2⟩ := hrel
        by_cases hlt : t < 5
        · obtain ⟨a0, b0, _, l0⟩ := R.load (k := 0) (by omega)
          obtain ⟨a1, b1, _, l1⟩ := R.load (k := 1) (by omega)
          obtain ⟨a2, b2, _, l2⟩ := R.load (k := 2) (by omega)
          obtain ⟨a3, b3, _, l3⟩ := R.load (k := 3) (by omega)
          obtain ⟨a4, b4, _, l4⟩ := R.load (k := 4) (by omega)
          have l0 : (loadWd (.pointer (some ⟨w.heap.size + 3, 0, none⟩))).run Tryz.prog wr = _ := l0 wr (Below.refl _ _)
          have l1 : (loadWd (.pointer (some ⟨w.heap.size + 3, 2, none⟩))).run Tryz.prog wr = _ := l1 wr (Below.refl _ _)
          have l2 : (loadWd (.pointer (some ⟨w.heap.size + 3, 4, none⟩))).run Tryz.prog wr = _ := l2 wr (Below.refl _ _)
          have l3 : (loadWd (.pointer (some ⟨w.heap.size + 3, 6, none⟩))).run Tryz.prog wr = _ := l3 wr (Below.refl _ _)
          have l4 : (loadWd (.pointer (some ⟨w.heap.size + 3, 8, none⟩))).run Tryz.prog wr = _ := l4 wr (Below.refl _ _)
          have hc : t = 0 ∨ t = 1 ∨ t = 2 ∨ t = 3 ∨ t = 4 := by omega
          rcases hc with rfl | rfl | rfl | rfl | rfl
          all_goals
            go_wp2_with fail
            refine (over_ex _ _ _).mono ?_
            rintro e w1 ⟨⟨ov, rfl⟩, hb1⟩
            have R1 := R.below hb1
            have O1 := O.below hb1
            have V1 := U2.below hb1
            have hB1 := hbr.trans (hb1.mono hbr.size)
            obtain ⟨x1, k1⟩ := R1.ub.cell (k := 1) (by omega)
            obtain ⟨x3, k3⟩ := R1.ub.cell (k := 3) (by omega)
            obtain ⟨x5, k5⟩ := R1.ub.cell (k := 5) (by omega)
            obtain ⟨x7, k7⟩ := R1.ub.cell (k := 7) (by omega)
            obtain ⟨x9, k9⟩ := R1.ub.cell (k := 9) (by omega)
            obtain ⟨y0, o0⟩ := O1.cell (k := 0) (by omega)
            obtain ⟨y1, o1⟩ := O1.cell (k := 1) (by omega)
            obtain ⟨y2, o2⟩ := O1.cell (k := 2) (by omega)
            obtain ⟨y3, o3⟩ := O1.cell (k := 3) (by omega)
            obtain ⟨y4, o4⟩ := O1.cell (k := 4) (by omega)
            have of := fun k => O1.froz k
            clear l0 l1 l2 l3 l4 R O U2 hbr hb1
            go_wp2_with fail
            go_roundw
            case rel =>
              have hh := fun (o : Nat) (v : Int) => And.intro (hB1.setCell (p := ⟨wz.heap.size, o, none⟩) (by show w.heap.size ≤ wz.heap.size; omega) (.int .u64 v)) (And.intro (R1.chg (S := [wz.heap.size]) ((Chg.refl _ _).setCell (p := ⟨wz.heap.size, o, none⟩) (.inl (by simp)) (.int .u64 v)) (by simp; omega)) (And.intro (O1.set o v) (V1.set_ne (p := ⟨wz.heap.size, o, none⟩) (by show w.heap.size + 2 ≠ wz.heap.size; omega) (.int .u64 v))))
              first | exact ⟨1, by omega, rfl, hh _ _⟩ | exact ⟨2, by omega, rfl, hh _ _⟩ | exact ⟨3, by omega, rfl, hh _ _⟩ | exact ⟨4, by omega, rfl, hh _ _⟩ | exact ⟨5, by omega, rfl, hh _ _⟩
            case measure => simp [intOf]
        · obtain rfl : t = 5 := by omega
          obtain ⟨es, ha, hl⟩ := O.loadE 0 (by omega)
          have hl := hl wr (Below.refl _ _)
          go_wp2_with fail
          refine (carried_ex es ha _).mono ?_
          rintro e w1 ⟨⟨_, rfl, cs, hc, rfl⟩, hb1⟩
          obtain ⟨w2, hst, U2, hcg⟩ := (U2.below hb1).storeE hc
          have hbw1 := hbr.trans (hb1.mono hbr.size)
          have hb2 : Below w.heap.size w w2 := hbw1.trans (hcg.below' hbw1.size (by simp))
          obtain ⟨r1, r2⟩ := U2.res
          go_wp2
          refine bodyPost_ret (results_arr (P := Tryz.prog) Tryz.results83 _ _ (w.heap.size + 2) 0 5 _ rfl Tryz.underlying80 rfl size_E r1) rfl ?_
          exact ⟨⟨_, rfl, r2⟩, hb2⟩
end Cry
end Go.Proofs.YtgalhnobckoneaaGreatDoor
