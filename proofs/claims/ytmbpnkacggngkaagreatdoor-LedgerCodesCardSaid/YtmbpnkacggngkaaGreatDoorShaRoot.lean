/- THE WALK of the reference's Root (printed by genroot.py). -/
import Derived.Test.YtmbpnkacggngkaaGreatDoorShaMul
namespace Go.Proofs.YtmbpnkacggngkaaGreatDoor
open Go.RowKit Mem

theorem ret_val {a b : Value} (h : a = b) : Ending.returned a = .returned b := by rw [h]
theorem iv_rep (n : Nat) : (iv (List.replicate n 0)).length = n := by simp [iv]

set_option maxRecDepth 100000 in
set_option maxHeartbeats 4000000 in
theorem rroot3_any (p : Int) (w : World) :
    Calls Tryz.prog 126 #[.int .i64 p, .int .i64 3] w fun e w' => e = .returned (.int .u64 ((Sha.root p 3 : Nat) : Int)) ∧ Below w.heap.size w w' := by
  rw [Sha.root_cast]
  obtain ⟨rv, hrv⟩ : ∃ rv, Sha.rootSum (Sha.rootX p 3 69) = rv := ⟨_, rfl⟩
  rw [hrv]
  have HRV := Lib.hid hrv
  clear hrv
  have hmk : (Instr.makeSlice 111 (.int .i64 13) (.int .i64 13)).run Tryz.prog w = .ok (.slice (some ⟨w.heap.size, 0, none⟩) 13 13) (w.alloc (.cells (iv (List.replicate 13 0)).toArray 3)) := makeI w 13 (by omega)
  have b0 := Blk.new w (iv (List.replicate 13 0)) 3
  have c0 : (w.alloc (.cells (iv (List.replicate 13 0)).toArray 3)).cell? ⟨w.heap.size, 12, none⟩ = some (.int .i64 0) := (b0.cell 12).trans rfl
  have f0 : (w.alloc (.cells (iv (List.replicate 13 0)).toArray 3)).frozen? ⟨w.heap.size, 12, none⟩ = false := b0.froz 12
  have e1 : ((iv (List.replicate 13 0)).toArray.setIfInBounds 12 (.int .i64 p)) = (iv (Sha.target p 3)).toArray := by
    rw [List.setIfInBounds_toArray, iv_set]
    rfl
  have b1 := Blk.new w (iv (Sha.target p 3)) 3
  have hz1 : (w.alloc (.cells (iv (Sha.target p 3)).toArray 3)).heap.size = w.heap.size + 1 := by simp
  have hmk2 : (Instr.makeSlice 111 (.int .i64 5) (.int .i64 5)).run Tryz.prog (w.alloc (.cells (iv (Sha.target p 3)).toArray 3)) = _ := makeI _ 5 (by omega)
  rw [hz1] at hmk2
  obtain ⟨W2, hW2⟩ : ∃ W2, (w.alloc (.cells (iv (Sha.target p 3)).toArray 3)).alloc (.cells (iv (List.replicate 5 0)).toArray 3) = W2 := ⟨_, rfl⟩
  have B0 : Blk W2 w.heap.size (iv (Sha.target p 3)) 3 := by rw [← hW2]; exact b1.alloc _
  have B1 : Blk W2 (w.heap.size + 1) (iv (Sha.rootX p 3 0)) 3 := by
    have := Blk.new (w.alloc (.cells (iv (Sha.target p 3)).toArray 3)) (iv (List.replicate 5 0)) 3
    rw [hz1, hW2] at this
    exact this
  have hbW : Below w.heap.size w W2 := by rw [← hW2]; exact ((Below.refl _ _).alloc (Nat.le_refl _) _).alloc (by rw [hz1]; omega) _
  rw [hW2, ← e1] at hmk2
  clear hW2 hz1 b1 b0 e1
  generalize (iv (List.replicate 13 0)).toArray = Z at *
  go_enter Tryz.func126, Tryz.ntmps126
  go_wp2
  go_loopw [7] (fun bit wr => ∃ t : Nat, t ≤ 69 ∧ bit = .int .i64 (68 - (t : Int)) ∧ Below w.heap.size w wr ∧ Blk wr w.heap.size (iv (Sha.target p 3)) 3 ∧ Blk wr (w.heap.size + 1) (iv (Sha.rootX p 3 t)) 3) (fun bit _ => (intOf bit + 1).toNat)
  case atStart => exact ⟨0, by omega, by go_num, hbW, B0, B1⟩
  case round =>
    clear hmk hmk2 c0 f0 hbW B0 B1
    obtain ⟨t, ht, rfl, hb, B0, B1⟩ := hrel
    by_cases h69 : t = 69
    · subst h69
      have hl5 := Sha.rootX_len p 3 69
      have HRS := HRV.out
      unfold Sha.rootSum at HRS
      generalize Sha.rootX p 3 69 = X at *
      have k0 : wr.cell? ⟨w.heap.size + 1, 0, none⟩ = some (.int .i64 (X.getD 0 0)) := (B1.cell 0).trans (iv_at X (by omega))
      have k1 : wr.cell? ⟨w.heap.size + 1, 1, none⟩ = some (.int .i64 (X.getD 1 0)) := (B1.cell 1).trans (iv_at X (by omega))
      have k2 : wr.cell? ⟨w.heap.size + 1, 2, none⟩ = some (.int .i64 (X.getD 2 0)) := (B1.cell 2).trans (iv_at X (by omega))
      have k3 : wr.cell? ⟨w.heap.size + 1, 3, none⟩ = some (.int .i64 (X.getD 3 0)) := (B1.cell 3).trans (iv_at X (by omega))
      generalize X.getD 0 0 = x0 at *
      generalize X.getD 1 0 = x1 at *
      generalize X.getD 2 0 = x2 at *
      generalize X.getD 3 0 = x3 at *
      have HR2 := Lib.hid HRS
      clear B0 B1 HRS
      go_wp2
      go_region
      all_goals
        go_wp2
        go_ret
        exact ⟨ret_val (by rw [HR2.out]; rfl), hb.drew⟩
    · obtain ⟨b, hbt⟩ : ∃ b : Nat, b = 68 - t := ⟨_, rfl⟩
      have e1 : (68 - (t : Int)) = (b : Int) := by omega
      have hb68 : b ≤ 68 := by omega
      have hstep := Sha.rootX_len p 3 t
      have HS := Lib.hid (show Sha.rootX p 3 (t + 1) = Sha.rootStep p 3 b (Sha.rootX p 3 t) by rw [hbt]; rfl)
      obtain ⟨r, hr⟩ : ∃ r, Hid (b % 16 = r) := ⟨_, Lib.hid rfl⟩
      obtain ⟨q, hq⟩ : ∃ q, Hid (b / 16 = q) := ⟨_, Lib.hid rfl⟩
      have hr15 : r ≤ 15 := by rw [← hr.out]; omega
      have hq4 : q ≤ 4 := by rw [← hq.out]; omega
      have r16 : Int.tmod (b : Int) 16 = (r : Int) := by
        rw [Int.tmod_eq_emod_of_nonneg (by omega), ← hr.out]
        omega
      have q16 : Int.tdiv (b : Int) 16 = (q : Int) := by
        rw [Int.tdiv_eq_ediv_of_nonneg (by omega), ← hq.out]
        omega
      have ht1 : t < 69 := by omega
      rw [e1]
      have HB := Lib.hid e1
      have H5 := Lib.hid hstep
      clear e1 hbt hstep h69 ht
      go_wp2
      go_loop [8, 9] (fun d i => ∃ j : Nat, j ≤ r ∧ i = .int .i64 j ∧ d = .int .i64 (Sha.dbl j)) (fun _ i => r - (intOf i).toNat)
      case atStart => exact ⟨0, by omega, rfl, rfl⟩
      case round =>
        obtain ⟨j, hj, rfl, rfl⟩ := hrel
        by_cases hj2 : j < r
        · have HD := Lib.hid (show Sha.dbl (j + 1) = wrap64 (2 * Sha.dbl j) from rfl)
          generalize Sha.dbl j = dj at *
          go_wp2
          go_round
          case rel => exact ⟨j + 1, by omega, by go_num, by rw [HD.out]⟩
          case measure => simp [intOf]; omega
        · have hjb : j = r := by omega
          subst hjb
          clear hj hj2
          have hl5 := H5.out
          have hx1l : ∀ v, ((Sha.rootX p 3 t).set q v).length = 5 := fun v => by rw [List.length_set]; exact hl5
          have HS2 := HS
          unfold Sha.rootStep at HS2
          rw [hr.out, hq.out] at HS2
          generalize Sha.rootX p 3 t = X at *
          have k0 : wr.cell? ⟨w.heap.size + 1, q, none⟩ = some (.int .i64 (X.getD q 0)) := (B1.cell q).trans (iv_at X (by omega))
          have kf : wr.frozen? ⟨w.heap.size + 1, q, none⟩ = false := B1.froz q
          have kl : w.heap.size + 1 < wr.heap.size := B1.lt
          generalize X.getD q 0 = xq at *
          generalize Sha.dbl j = d at *
          obtain ⟨WA, hWA⟩ : ∃ WA, wr.setCell ⟨w.heap.size + 1, q, none⟩ (.int .i64 (wrap64 (xq + d))) = WA := ⟨_, rfl⟩
          have A1 := B1.set q (.int .i64 (wrap64 (xq + d)))
          rw [hWA, iv_set] at A1
          have A0 : Blk WA w.heap.size (iv (Sha.target p 3)) 3 := by rw [← hWA]; exact B0.set_ne (by simp) _
          have hbA : Below w.heap.size w WA := by rw [← hWA]; exact hb.setCell (by simp) _
          have hXl := hx1l (wrap64 (xq + d))
          generalize X.set q (wrap64 (xq + d)) = X1 at *
          have I1 := Is.of_blk A1
          rw [hXl] at I1
          have hm := rmul_any _ 5 5 X1 _ 5 5 X1 WA I1 I1 (by omega) (by omega)
          have HW := Lib.hid hWA
          simp only [Nat.reduceAdd] at hm
          clear hWA B0 B1 hb HS hx1l
          go_wp2_with fail
          rw [HW.out]
          refine hm.mono ?_
          rintro e w3 ⟨rfl, A2, hb3⟩
          have I2 : Is w3 (some ⟨WA.heap.size, 0, none⟩) 10 (Sha.mul X1 X1) := by
            have := Is.of_blk A2
            rwa [Sha.mul_len, hXl] at this
          have hbw3 : Below w.heap.size w w3 := hbA.trans (hb3.mono hbA.size)
          have D0 := A0.below hb3
          have D1 := A1.below hb3
          have HX := Lib.hid hXl
          have HX5 := Lib.hid hl5
          clear hm A0 A1 A2 hb3 hXl hl5 hbA k0 kf kl HW
          have hp : Sha.power 3 X1 = Sha.mul (Sha.mul X1 X1) X1 := rfl
          rw [hp] at HS2
          have I3 : Is w3 (some ⟨w.heap.size + 1, 0, none⟩) 5 X1 := by
            have := Is.of_blk D1
            rwa [HX.out] at this
          have hm2 := rmul_any _ 10 10 _ _ 5 5 X1 w3 I2 I3 (by omega) (by omega)
          simp only [Nat.reduceAdd] at hm2
          clear hp I1 I2 I3
          go_wp2_with fail
          refine hm2.mono ?_
          rintro e w4 ⟨rfl, A4, hb4⟩
          have I4 : Is w4 (some ⟨w3.heap.size, 0, none⟩) 15 (Sha.mul (Sha.mul X1 X1) X1) := by
            have := Is.of_blk A4
            rwa [Sha.mul_len, Sha.mul_len, HX.out] at this
          have E0 := D0.below hb4
          have E1 := D1.below hb4
          have hbw4 : Below w.heap.size w w4 := hbw3.trans (hb4.mono hbw3.size)
          clear hm2 D0 D1 A4 hb4
          generalize Sha.mul (Sha.mul X1 X1) X1 = PW at *
          have hle := rless_any (some ⟨w.heap.size, 0, none⟩) 13 13 (Sha.target p 3) _ 15 15 PW w4 (by have := Is.of_blk E0; rwa [show (Sha.target p 3).length = 13 by simp [Sha.target]] at this) I4 (by omega) (by omega)
          have kq : w4.cell? ⟨w.heap.size + 1, q, none⟩ = some (.int .i64 (X1.getD q 0)) := (E1.cell q).trans (iv_at X1 (by rw [HX.out]; omega))
          have kf : w4.frozen? ⟨w.heap.size + 1, q, none⟩ = false := E1.froz q
          have kl : w.heap.size + 1 < w4.heap.size := E1.lt
          generalize X1.getD q 0 = xq1 at *
          have hbt1 : ((b : Int) - 1) = 68 - ((t + 1 : Nat) : Int) := by
            have h := HB.out
            clear q16 r16
            omega
          have hms : (intOf (Value.int IntKind.i64 ((b : Int) - 1)) + 1).toNat < (intOf (Value.int IntKind.i64 (b : Int)) + 1).toNat := by
            show ((b : Int) - 1 + 1).toNat < ((b : Int) + 1).toNat
            clear q16 r16 hbt1
            omega
          have HT := Lib.hid hbt1
          clear hbt1
          cases hmo : Sha.less (Sha.target p 3) PW
          · rw [hmo] at hle HS2
            simp only [Bool.false_eq_true, if_false] at HS2
            clear hmo
            go_wp2_with fail
            refine hle.mono ?_
            rintro e w5 ⟨rfl, rfl⟩
            clear hle
            go_wp2_with fail
            go_roundw
            case rel => exact ⟨t + 1, by omega, by rw [HT.out], hbw4, E0, by rw [HS2.out]; exact E1⟩
            case measure => exact hms
          · rw [hmo] at hle HS2
            simp only [if_true] at HS2
            clear hmo
            have F1 := E1.set q (.int .i64 (wrap64 (xq1 - d)))
            rw [iv_set] at F1
            have F0 := E0.set_ne (p := ⟨w.heap.size + 1, q, none⟩) (by simp) (.int .i64 (wrap64 (xq1 - d)))
            have hbF := hbw4.setCell (p := ⟨w.heap.size + 1, q, none⟩) (by simp) (.int .i64 (wrap64 (xq1 - d)))
            go_wp2_with fail
            refine hle.mono ?_
            rintro e w5 ⟨rfl, rfl⟩
            clear hle E0 E1
            go_wp2_with fail
            go_roundw
            case rel => exact ⟨t + 1, by omega, by rw [HT.out], hbF, F0, by rw [HS2.out]; exact F1⟩
            case measure => exact hms

set_option maxRecDepth 100000 in
set_option maxHeartbeats 4000000 in
theorem rroot2_any (p : Int) (w : World) :
    Calls Tryz.prog 126 #[.int .i64 p, .int .i64 2] w fun e w' => e = .returned (.int .u64 ((Sha.root p 2 : Nat) : Int)) ∧ Below w.heap.size w w' := by
  rw [Sha.root_cast]
  obtain ⟨rv, hrv⟩ : ∃ rv, Sha.rootSum (Sha.rootX p 2 69) = rv := ⟨_, rfl⟩
  rw [hrv]
  have HRV := Lib.hid hrv
  clear hrv
  have hmk : (Instr.makeSlice 111 (.int .i64 9) (.int .i64 9)).run Tryz.prog w = .ok (.slice (some ⟨w.heap.size, 0, none⟩) 9 9) (w.alloc (.cells (iv (List.replicate 9 0)).toArray 3)) := makeI w 9 (by omega)
  have b0 := Blk.new w (iv (List.replicate 9 0)) 3
  have c0 : (w.alloc (.cells (iv (List.replicate 9 0)).toArray 3)).cell? ⟨w.heap.size, 8, none⟩ = some (.int .i64 0) := (b0.cell 8).trans rfl
  have f0 : (w.alloc (.cells (iv (List.replicate 9 0)).toArray 3)).frozen? ⟨w.heap.size, 8, none⟩ = false := b0.froz 8
  have e1 : ((iv (List.replicate 9 0)).toArray.setIfInBounds 8 (.int .i64 p)) = (iv (Sha.target p 2)).toArray := by
    rw [List.setIfInBounds_toArray, iv_set]
    rfl
  have b1 := Blk.new w (iv (Sha.target p 2)) 3
  have hz1 : (w.alloc (.cells (iv (Sha.target p 2)).toArray 3)).heap.size = w.heap.size + 1 := by simp
  have hmk2 : (Instr.makeSlice 111 (.int .i64 5) (.int .i64 5)).run Tryz.prog (w.alloc (.cells (iv (Sha.target p 2)).toArray 3)) = _ := makeI _ 5 (by omega)
  rw [hz1] at hmk2
  obtain ⟨W2, hW2⟩ : ∃ W2, (w.alloc (.cells (iv (Sha.target p 2)).toArray 3)).alloc (.cells (iv (List.replicate 5 0)).toArray 3) = W2 := ⟨_, rfl⟩
  have B0 : Blk W2 w.heap.size (iv (Sha.target p 2)) 3 := by rw [← hW2]; exact b1.alloc _
  have B1 : Blk W2 (w.heap.size + 1) (iv (Sha.rootX p 2 0)) 3 := by
    have := Blk.new (w.alloc (.cells (iv (Sha.target p 2)).toArray 3)) (iv (List.replicate 5 0)) 3
    rw [hz1, hW2] at this
    exact this
  have hbW : Below w.heap.size w W2 := by rw [← hW2]; exact ((Below.refl _ _).alloc (Nat.le_refl _) _).alloc (by rw [hz1]; omega) _
  rw [hW2, ← e1] at hmk2
  clear hW2 hz1 b1 b0 e1
  generalize (iv (List.replicate 9 0)).toArray = Z at *
  go_enter Tryz.func126, Tryz.ntmps126
  go_wp2
  go_loopw [7] (fun bit wr => ∃ t : Nat, t ≤ 69 ∧ bit = .int .i64 (68 - (t : Int)) ∧ Below w.heap.size w wr ∧ Blk wr w.heap.size (iv (Sha.target p 2)) 3 ∧ Blk wr (w.heap.size + 1) (iv (Sha.rootX p 2 t)) 3) (fun bit _ => (intOf bit + 1).toNat)
  case atStart => exact ⟨0, by omega, by go_num, hbW, B0, B1⟩
  case round =>
    clear hmk hmk2 c0 f0 hbW B0 B1
    obtain ⟨t, ht, rfl, hb, B0, B1⟩ := hrel
    by_cases h69 : t = 69
    · subst h69
      have hl5 := Sha.rootX_len p 2 69
      have HRS := HRV.out
      unfold Sha.rootSum at HRS
      generalize Sha.rootX p 2 69 = X at *
      have k0 : wr.cell? ⟨w.heap.size + 1, 0, none⟩ = some (.int .i64 (X.getD 0 0)) := (B1.cell 0).trans (iv_at X (by omega))
      have k1 : wr.cell? ⟨w.heap.size + 1, 1, none⟩ = some (.int .i64 (X.getD 1 0)) := (B1.cell 1).trans (iv_at X (by omega))
      have k2 : wr.cell? ⟨w.heap.size + 1, 2, none⟩ = some (.int .i64 (X.getD 2 0)) := (B1.cell 2).trans (iv_at X (by omega))
      have k3 : wr.cell? ⟨w.heap.size + 1, 3, none⟩ = some (.int .i64 (X.getD 3 0)) := (B1.cell 3).trans (iv_at X (by omega))
      generalize X.getD 0 0 = x0 at *
      generalize X.getD 1 0 = x1 at *
      generalize X.getD 2 0 = x2 at *
      generalize X.getD 3 0 = x3 at *
      have HR2 := Lib.hid HRS
      clear B0 B1 HRS
      go_wp2
      go_region
      all_goals
        go_wp2
        go_ret
        exact ⟨ret_val (by rw [HR2.out]; rfl), hb.drew⟩
    · obtain ⟨b, hbt⟩ : ∃ b : Nat, b = 68 - t := ⟨_, rfl⟩
      have e1 : (68 - (t : Int)) = (b : Int) := by omega
      have hb68 : b ≤ 68 := by omega
      have hstep := Sha.rootX_len p 2 t
      have HS := Lib.hid (show Sha.rootX p 2 (t + 1) = Sha.rootStep p 2 b (Sha.rootX p 2 t) by rw [hbt]; rfl)
      obtain ⟨r, hr⟩ : ∃ r, Hid (b % 16 = r) := ⟨_, Lib.hid rfl⟩
      obtain ⟨q, hq⟩ : ∃ q, Hid (b / 16 = q) := ⟨_, Lib.hid rfl⟩
      have hr15 : r ≤ 15 := by rw [← hr.out]; omega
      have hq4 : q ≤ 4 := by rw [← hq.out]; omega
      have r16 : Int.tmod (b : Int) 16 = (r : Int) := by
        rw [Int.tmod_eq_emod_of_nonneg (by omega), ← hr.out]
        omega
      have q16 : Int.tdiv (b : Int) 16 = (q : Int) := by
        rw [Int.tdiv_eq_ediv_of_nonneg (by omega), ← hq.out]
        omega
      have ht1 : t < 69 := by omega
      rw [e1]
      have HB := Lib.hid e1
      have H5 := Lib.hid hstep
      clear e1 hbt hstep h69 ht
      go_wp2
      go_loop [8, 9] (fun d i => ∃ j : Nat, j ≤ r ∧ i = .int .i64 j ∧ d = .int .i64 (Sha.dbl j)) (fun _ i => r - (intOf i).toNat)
      case atStart => exact ⟨0, by omega, rfl, rfl⟩
      case round =>
        obtain ⟨j, hj, rfl, rfl⟩ := hrel
        by_cases hj2 : j < r
        · have HD := Lib.hid (show Sha.dbl (j + 1) = wrap64 (2 * Sha.dbl j) from rfl)
          generalize Sha.dbl j = dj at *
          go_wp2
          go_round
          case rel => exact ⟨j + 1, by omega, by go_num, by rw [HD.out]⟩
          case measure => simp [intOf]; omega
        · have hjb : j = r := by omega
          subst hjb
          clear hj hj2
          have hl5 := H5.out
          have hx1l : ∀ v, ((Sha.rootX p 2 t).set q v).length = 5 := fun v => by rw [List.length_set]; exact hl5
          have HS2 := HS
          unfold Sha.rootStep at HS2
          rw [hr.out, hq.out] at HS2
          generalize Sha.rootX p 2 t = X at *
          have k0 : wr.cell? ⟨w.heap.size + 1, q, none⟩ = some (.int .i64 (X.getD q 0)) := (B1.cell q).trans (iv_at X (by omega))
          have kf : wr.frozen? ⟨w.heap.size + 1, q, none⟩ = false := B1.froz q
          have kl : w.heap.size + 1 < wr.heap.size := B1.lt
          generalize X.getD q 0 = xq at *
          generalize Sha.dbl j = d at *
          obtain ⟨WA, hWA⟩ : ∃ WA, wr.setCell ⟨w.heap.size + 1, q, none⟩ (.int .i64 (wrap64 (xq + d))) = WA := ⟨_, rfl⟩
          have A1 := B1.set q (.int .i64 (wrap64 (xq + d)))
          rw [hWA, iv_set] at A1
          have A0 : Blk WA w.heap.size (iv (Sha.target p 2)) 3 := by rw [← hWA]; exact B0.set_ne (by simp) _
          have hbA : Below w.heap.size w WA := by rw [← hWA]; exact hb.setCell (by simp) _
          have hXl := hx1l (wrap64 (xq + d))
          generalize X.set q (wrap64 (xq + d)) = X1 at *
          have I1 := Is.of_blk A1
          rw [hXl] at I1
          have hm := rmul_any _ 5 5 X1 _ 5 5 X1 WA I1 I1 (by omega) (by omega)
          have HW := Lib.hid hWA
          simp only [Nat.reduceAdd] at hm
          clear hWA B0 B1 hb HS hx1l
          go_wp2_with fail
          rw [HW.out]
          refine hm.mono ?_
          rintro e w3 ⟨rfl, A2, hb3⟩
          have I2 : Is w3 (some ⟨WA.heap.size, 0, none⟩) 10 (Sha.mul X1 X1) := by
            have := Is.of_blk A2
            rwa [Sha.mul_len, hXl] at this
          have hbw3 : Below w.heap.size w w3 := hbA.trans (hb3.mono hbA.size)
          have D0 := A0.below hb3
          have D1 := A1.below hb3
          have HX := Lib.hid hXl
          have HX5 := Lib.hid hl5
          clear hm A0 A1 A2 hb3 hXl hl5 hbA k0 kf kl HW
          have hp : Sha.power 2 X1 = Sha.mul X1 X1 := rfl
          rw [hp] at HS2
          clear hp I1
          generalize Sha.mul X1 X1 = PW at *
          have E0 := D0
          have E1 := D1
          have hbw4 := hbw3
          have hle := rless_any (some ⟨w.heap.size, 0, none⟩) 9 9 (Sha.target p 2) _ 10 10 PW w3 (by have := Is.of_blk E0; rwa [show (Sha.target p 2).length = 9 by simp [Sha.target]] at this) I2 (by omega) (by omega)
          clear I2 D0 D1 hbw3
          have kq : w3.cell? ⟨w.heap.size + 1, q, none⟩ = some (.int .i64 (X1.getD q 0)) := (E1.cell q).trans (iv_at X1 (by rw [HX.out]; omega))
          have kf : w3.frozen? ⟨w.heap.size + 1, q, none⟩ = false := E1.froz q
          have kl : w.heap.size + 1 < w3.heap.size := E1.lt
          generalize X1.getD q 0 = xq1 at *
          have hbt1 : ((b : Int) - 1) = 68 - ((t + 1 : Nat) : Int) := by
            have h := HB.out
            clear q16 r16
            omega
          have hms : (intOf (Value.int IntKind.i64 ((b : Int) - 1)) + 1).toNat < (intOf (Value.int IntKind.i64 (b : Int)) + 1).toNat := by
            show ((b : Int) - 1 + 1).toNat < ((b : Int) + 1).toNat
            clear q16 r16 hbt1
            omega
          have HT := Lib.hid hbt1
          clear hbt1
          cases hmo : Sha.less (Sha.target p 2) PW
          · rw [hmo] at hle HS2
            simp only [Bool.false_eq_true, if_false] at HS2
            clear hmo
            go_wp2_with fail
            refine hle.mono ?_
            rintro e w5 ⟨rfl, rfl⟩
            clear hle
            go_wp2_with fail
            go_roundw
            case rel => exact ⟨t + 1, by omega, by rw [HT.out], hbw4, E0, by rw [HS2.out]; exact E1⟩
            case measure => exact hms
          · rw [hmo] at hle HS2
            simp only [if_true] at HS2
            clear hmo
            have F1 := E1.set q (.int .i64 (wrap64 (xq1 - d)))
            rw [iv_set] at F1
            have F0 := E0.set_ne (p := ⟨w.heap.size + 1, q, none⟩) (by simp) (.int .i64 (wrap64 (xq1 - d)))
            have hbF := hbw4.setCell (p := ⟨w.heap.size + 1, q, none⟩) (by simp) (.int .i64 (wrap64 (xq1 - d)))
            go_wp2_with fail
            refine hle.mono ?_
            rintro e w5 ⟨rfl, rfl⟩
            clear hle E0 E1
            go_wp2_with fail
            go_roundw
            case rel => exact ⟨t + 1, by omega, by rw [HT.out], hbF, F0, by rw [HS2.out]; exact F1⟩
            case measure => exact hms
end Go.Proofs.YtmbpnkacggngkaaGreatDoor
