/- THE WALKS of the program's sha at 64 bits, that they return: first, sum (of 32 bytes), Sum512. -/
import Derived.Test.YtgalhnobckoneaaGreatDoorCryC
namespace Go.Proofs.YtgalhnobckoneaaGreatDoor
open Go.RowKit Mem
namespace Cry

theorem index_B8 (fv : List Int) (hl : fv.length = 8) (W : World) (j : Nat) (hj : j < 8) : (Instr.index 273 (.agg (us fv).toArray) (.int .i64 (j : Int))).run Tryz.prog W = .ok (.int .u64 (fv.getD j 0)) W := by
  have h1 : (Go.sizeOf 77).run Tryz.prog W = .ok 1 W := by kernel_rfl
  have h2 : (Go.isAgg 77).run Tryz.prog W = .ok false W := by kernel_rfl
  have h3 : (0 : Int) ≤ (j : Int) ∧ (j : Int) < ((8 : Nat) : Int) := by omega
  have h := us_at fv (k := j) (by omega)
  unfold Instr.index
  simp only [asIntOf, Sem.run_bind, Sem.run_pure, run_underlying Tryz.underlying273, Result.andThen_ok, if_pos h3, h1, Go.part, h2, Bool.false_eq_true, if_false, Int.toNat_natCast, Nat.mul_one, List.getElem?_toArray, h]
set_option maxRecDepth 100000 in
theorem first_ex (w : World) : Calls Tryz.prog 229 #[] w fun e w' => Ans (Uv 8) w e w' := by
  have bn := Blk.new w (us (List.replicate 8 0)) 273
  obtain ⟨hst, hSt⟩ := store_B8 bn rfl (vs := us [7640891576956012808, 13503953896175478587, 4354685564936845355, 11912009170470909681, 5840696475078001361, 11170449401992604703, 2270897969802886507, 6620516959819538809]) rfl (us_one _)
  obtain ⟨w1, hw1⟩ : ∃ w1, (w.alloc (.cells (us (List.replicate 8 0)).toArray 273)).setCells w.heap.size 0 (us [7640891576956012808, 13503953896175478587, 4354685564936845355, 11912009170470909681, 5840696475078001361, 11170449401992604703, 2270897969802886507, 6620516959819538809]) = w1 := ⟨_, rfl⟩
  have hcn : Chg [] w w1 := by rw [← hw1]; exact ((Chg.refl _ _).alloc _).setCells _ (.inr (Nat.le_refl _))
  rw [hw1] at hst hSt
  have hb := hcn.below (fun _ h => by cases h)
  have hHh : Has w1 w.heap.size 0 8 := blk_has hSt rfl
  have hA := blk_arr hSt (n := 8) rfl
  have hst : (storeB8 (.pointer (some ⟨w.heap.size, 0, none⟩)) (.agg #[.int .u64 7640891576956012808, .int .u64 13503953896175478587, .int .u64 4354685564936845355, .int .u64 11912009170470909681, .int .u64 5840696475078001361, .int .u64 11170449401992604703, .int .u64 2270897969802886507, .int .u64 6620516959819538809])).run Tryz.prog (w.alloc (.cells #[.int .u64 0, .int .u64 0, .int .u64 0, .int .u64 0, .int .u64 0, .int .u64 0, .int .u64 0, .int .u64 0] 273)) = .ok () w1 := hst
  clear hw1 hcn bn
  go_enter Tryz.func229, Tryz.ntmps229
  go_wp2
  refine bodyPost_ret (results_arr (P := Tryz.prog) Tryz.results229 _ _ w.heap.size 0 8 _ rfl Tryz.underlying273 rfl size_B8 hHh) rfl ?_
  exact ⟨⟨_, rfl, _, rfl, by rw [hA]⟩, hb⟩
set_option maxRecDepth 100000 in
set_option maxHeartbeats 8000000 in
theorem sum_ex (hc : List Value) (hF : hc = formM) (A : Option Addr) (c : Nat) (d : List Int) (w : World) (hd : Vs w w.heap.size 1 A 32 (i8 d)) (hT : TabM w) :
    Calls Tryz.prog 186 #[.agg hc.toArray, .slice A 32 c] w fun e w' => ∃ A' c' l, e = .returned (.slice A' 64 c') ∧ 64 ≤ c' ∧ w'.ownsRow w.heap.size 5 1 (.slice A' 64 c') 64 (i8 l) ∧ Below w.heap.size w w' := by
  obtain ⟨i0, hi, hz0, hz1, hz2⟩ := info_parts infoU8
  have hf : F64 hc := by rw [hF]; exact form64
  obtain ⟨W, hW⟩ : ∃ W, w.alloc (.cells hc.toArray 232) = W := ⟨_, rfl⟩
  have BH : Blk W w.heap.size hc 232 := by rw [← hW]; exact Blk.new _ _ _
  have hbW : Below w.heap.size w W := by rw [← hW]; exact (Below.refl _ _).alloc (Nat.le_refl _) _
  have hWs : w.heap.size ≤ W.heap.size := hbW.size
  have hdW : Vs W W.heap.size 1 A 32 (i8 d) := vs_below hd hbW
  have f0 : ∀ p, (Batch.grew W p).cell? ⟨w.heap.size, 0, none⟩ = some (.int .i64 64) := fun p => ((BH.below (Batch.grew_below W p)).cell 0).trans hf.bits
  have HW := Lib.hid hW
  have HF := Lib.hid hF
  have h63 : 0 + 32 ≤ maxLen := by unfold maxLen; omega
  have h63b : 32 + 1 ≤ maxLen := by unfold maxLen; omega
  clear hW hd hF
  go_enter Tryz.func186, Tryz.ntmps186
  go_upto_region 1 with fail
  rw [HW.out]
  refine Batch.wp_region_grew (by kernel_rfl) (by kernel_rfl) ?_
  repeat (go_big_quiet_step (fail))
  refine wpQuiet_nil ?_
  rintro _ ⟨p, rfl⟩
  have hbp := Batch.grew_below W p
  have BH := BH.below hbp
  have hdW := vs_below hdW hbp
  have hbW : Below w.heap.size w (Batch.grew W p) := hbW.trans (hbp.mono hbW.size)
  have hWs : w.heap.size ≤ (Batch.grew W p).heap.size := hbW.size
  clear f0 HW
  generalize Batch.grew W p = W1 at *
  have hN0 : (W1.alloc (.cells #[] 5)).ownsRow W1.heap.size 5 1 (.slice (some ⟨W1.heap.size, 0, none⟩) 0 0) 0 [] := own_of_row (M := []) (Nat.le_refl _) (Blk.new W1 [] 5) (Nat.le_refl _) (by omega) rfl rfl
  have hbN : Below W1.heap.size W1 (W1.alloc (.cells #[] 5)) := (Below.refl _ _).alloc (Nat.le_refl _) _
  have hdN := vs_below hdW hbN
  have hB0 := hbN.size
  have hzN : (W1.alloc (.cells #[] 5)).heap.size = W1.heap.size + 1 := by simp
  go_upto_region 2 with fail
  go_wp2_with (at_builtin; go_must (refine wpList_append (W1.alloc (.cells #[] 5)) rfl (.tmp 23) (.tmp 24) 27 rfl W1.heap.size 5 i0 (.int .u8 0) 1 1 Tryz.underlying27 hi hz0 hz1 hz2 rfl (by omega) _ 0 [] rfl hN0 _ _ 32 _ _ rfl hdN (i8_one _) h63 (by omega) hB0 ?_))
  intro A5 c5 w5 hown5 g5 g5' hgr
  have hb5 : Below W1.heap.size W1 w5 := below_grown hbN hgr hB0 hN0
  have hown5 : w5.ownsRow W1.heap.size 5 1 (.slice A5 32 c5) 32 (i8 d) := by simpa using hown5
  have hB1 : W1.heap.size ≤ w5.heap.size := hb5.size
  clear hgr hdW hdN hN0 hbN hB0 hzN
  go_wp2_with (at_builtin; go_must (refine wpList_push rfl (.tmp 26) (.tmp 27) 27 rfl W1.heap.size i0 (.int .u8 0) 1 Tryz.underlying27 hi hz0 hz1 hz2 rfl _ _ _ rfl hown5 rfl rfl h63b (by omega) hB1 ?_))
  intro A6 c6 w6 hown6 g6 g6' hgr6
  have hb6 := below_push hb5 hgr6 hB1 hown5 (Nat.le_refl _)
  rw [i8_push] at hown6
  generalize d ++ [128] = d1 at *
  clear hown5 hgr6 hb5 hB1 g5 g5' g6 g6' h63 h63b
  go_wp2_with fail
  go_loopw [7] (fun v wr => ∃ (k : Nat) (A5 : Option Addr) (c5 : Nat) (l : List Int), 33 ≤ k ∧ k ≤ 120 ∧ v = .slice A5 k c5 ∧ Below W1.heap.size W1 wr ∧ wr.ownsRow W1.heap.size 5 1 (.slice A5 k c5) k (i8 l)) (fun v _ => 121 - lenV v)
  case atStart => exact ⟨33, A6, c6, d1, by omega, by omega, rfl, hb6, hown6⟩
  case round =>
    clear hown6 hb6
    obtain ⟨k, A5, c5, l, hk1, hk2, rfl, hbr, hown⟩ := hrel
    by_cases hlt : k < 120
    · have ht : Int.tmod (k : Int) 128 = (k : Int) := by
        have := nat_tmod k 128
        rw [Nat.mod_eq_of_lt (by omega)] at this
        exact this
      have ht2 : (k : Int) % 128 = (k : Int) := by omega
      have hrn : ((k : Int) != 120) = true := by simp; omega
      have h63 : k + 1 ≤ maxLen := by unfold maxLen; omega
      have hB1 : W1.heap.size ≤ wr.heap.size := hbr.size
      go_wp2_with (at_builtin; go_must (refine wpList_push rfl (.tmp 36) (.tmp 37) 27 rfl W1.heap.size i0 (.int .u8 0) 1 Tryz.underlying27 hi hz0 hz1 hz2 rfl _ _ _ rfl hown rfl rfl h63 (by omega) hB1 ?_))
      intro A' c' w2 hown' g1' g2' hgr
      have hb2 := below_push hbr hgr hB1 hown (Nat.le_refl _)
      rw [i8_push] at hown'
      clear hown hgr hbr ht ht2 hrn
      go_wp2
      go_roundw
      case rel => exact ⟨k + 1, A', c', _, by omega, by omega, rfl, hb2, hown'⟩
      case measure => simp [lenV]; omega
    · obtain rfl : k = 120 := by omega
      obtain ⟨wo, hwo⟩ : ∃ wo, wo = wr := ⟨_, rfl⟩
      subst hwo
      go_wp2_with fail
      go_loopw [7, 8] (fun v i wx => ∃ (q m : Nat) (A8 : Option Addr) (c8 : Nat) (l : List Int), q ≤ 8 ∧ i = .int .i64 (56 - 8 * (q : Int)) ∧ Hid (m = 120 + q) ∧ m ≤ 128 ∧ v = .slice A8 m c8 ∧ Below W1.heap.size W1 wx ∧ wx.ownsRow W1.heap.size 5 1 (.slice A8 m c8) m (i8 l)) (fun _ i _ => (intOf i + 8).toNat)
      case atStart => exact ⟨0, 120, A5, c5, l, by omega, rfl, Lib.hid rfl, by omega, rfl, hbr, hown⟩
      case round =>
        clear hown hbr
        obtain ⟨q, m, A8, c8, l, hq, rfl, HM, hm, rfl, hbr, hown⟩ := hrel
        by_cases hq8 : q < 8
        · obtain ⟨sh, hsh⟩ : ∃ sh : Nat, 8 * (7 - q) = sh := ⟨_, rfl⟩
          have e1 : (56 - 8 * (q : Int)) = (sh : Int) := by omega
          have hsh2 : sh ≤ 56 := by omega
          have h63 : m + 1 ≤ maxLen := by unfold maxLen; omega
          have hB1 : W1.heap.size ≤ wr.heap.size := hbr.size
          have HE := Lib.hid (show (sh : Int) - 8 = 56 - 8 * ((q + 1 : Nat) : Int) by omega)
          have HN := Lib.hid (show q + 1 ≤ 8 from hq8)
          have hms : (intOf (Value.int IntKind.i64 ((sh : Int) - 8)) + 8).toNat < (intOf (Value.int IntKind.i64 (sh : Int)) + 8).toNat := by
            show ((sh : Int) - 8 + 8).toNat < ((sh : Int) + 8).toNat
            omega
          have HMS := Lib.hid hms
          rw [e1]
          clear e1 hsh hq hq8 hms
          go_wp2_with (at_builtin; go_must (refine wpList_push rfl (.tmp 67) (.tmp 75) 27 rfl W1.heap.size i0 (.int .u8 0) 1 Tryz.underlying27 hi hz0 hz1 hz2 rfl _ _ _ rfl hown rfl rfl h63 (by omega) hB1 ?_))
          intro A' c' w2 hown' g1' g2' hgr
          have hb2 := below_push hbr hgr hB1 hown (Nat.le_refl _)
          rw [i8_push] at hown'
          have HM2 := Lib.hid (show m + 1 = 120 + (q + 1) by rw [HM.out]; omega)
          have HMB := Lib.hid (show m + 1 ≤ 128 by have := HM.out; have := HN.out; omega)
          clear hown hgr hbr
          go_wp2
          go_roundw
          case rel => exact ⟨q + 1, m + 1, A', c', _, HN.out, by rw [HE.out], HM2, HMB.out, rfl, hb2, hown'⟩
          case measure => exact HMS.out
        · have hneg : (56 - 8 * (q : Int)) = -8 := by omega
          obtain ⟨w2, hw2⟩ : ∃ w2, w2 = wr := ⟨_, rfl⟩
          subst hw2
          obtain rfl : m = 128 := by have := HM.out; omega
          obtain ⟨ga, rfl, hga1, hga2⟩ := own_some hown (by omega)
          have hmc : 128 ≤ c8 := by obtain ⟨_, _, e, h1, _⟩ := own_form hown; injection e with _ _ e; omega
          have hb0w2 : Below w.heap.size w w2 := hbW.trans (hbr.mono hWs)
          have hT2 := hT.below hb0w2
          have B2 := BH.below hbr
          have hfi := first_ex (w2.alloc (.cells (us (List.replicate 8 0)).toArray 273))
          have BS : Ub _ _ 8 _ := Ub.new w2 (List.replicate 8 0) 273
          have hbS : Below w2.heap.size w2 (w2.alloc (.cells (us (List.replicate 8 0)).toArray 273)) := (Below.refl _ _).alloc (Nat.le_refl _) _
          obtain ⟨w3, hw3⟩ : ∃ w3, Hid (w2.alloc (.cells (us (List.replicate 8 0)).toArray 273) = w3) := ⟨_, Lib.hid rfl⟩
          rw [hw3.out] at hfi BS hbS
          have HW3 : Hid (w2.alloc (.cells #[.int .u64 0, .int .u64 0, .int .u64 0, .int .u64 0, .int .u64 0, .int .u64 0, .int .u64 0, .int .u64 0] 273) = w3) := Lib.hid hw3.out
          clear hw3 hq8 hT HM hm
          rw [hneg]
          clear hneg hq
          go_upto_region 13 with fail
          rw [HW3.out]
          go_wp2_with fail
          refine hfi.mono ?_
          rintro e w4 ⟨⟨_, rfl, fv, hfv, rfl⟩, hb4⟩
          have BS4 := BS.below hb4
          have hb24 : Below w2.heap.size w2 w4 := hbS.trans (hb4.mono hbS.size)
          clear hfi BS hbS hb4 HW3
          go_wp2_with fail
          go_loopw [10, 11, 78] (fun _ _ i wx => ∃ j : Nat, j ≤ 8 ∧ i = .int .i64 (j : Int) ∧ Below w2.heap.size w2 wx ∧ Ub wx w2.heap.size 8 273) (fun _ _ i _ => 8 - (intOf i).toNat)
          case atStart => exact ⟨0, by omega, rfl, hb24, BS4⟩
          case round =>
            clear BS4 hb24
            obtain ⟨j, hj, rfl, hbj, BJ⟩ := hrel
            by_cases hj8 : j < 8
            · have k0 : wr.cell? ⟨w.heap.size, 0, none⟩ = some (.int .i64 64) := ((B2.below hbj).cell 0).trans hf.bits
              have hjz : (j : Int) < 8 := by omega
              have hix := fun W => index_B8 fv hfv W j hj8
              generalize fv.getD j 0 = fj at *
              have HC : Hid (∀ x : Int, ∃ r : Int, ∀ W, Calls Tryz.prog 230 #[.int .u64 x] W fun e w' => e = .returned (.int .u64 r) ∧ Below W.heap.size W w') := Lib.hid cut_ex
              go_wp2_with fail
              refine ((HC.out _).choose_spec _).mono ?_
              rintro e w5 ⟨rfl, hb5⟩
              have BJ5 := BJ.below hb5
              have hbj5 : Below w2.heap.size w2 w5 := hbj.trans (hb5.mono hbj.size)
              obtain ⟨vj, c5⟩ := BJ5.cell (k := j) hj8
              have z5 : w5.frozen? ⟨w2.heap.size, j, none⟩ = false := BJ5.froz _
              have hlt5 := BJ5.lt
              clear hix k0 hb5 hbj BJ
              generalize (HC.out _).choose = yj at *
              go_wp2_with fail
              go_roundw
              case rel => exact ⟨j + 1, by omega, by go_num, hbj5.setCell (by simp) _, BJ5.set _ _⟩
              case measure => simp [intOf]; omega
            · have hje : j = 8 := by omega
              have hdec : decide ((j : Int) < 8) = false := by simp; omega
              have hjge : (8 : Int) ≤ (j : Int) := by omega
              obtain ⟨w7, hw7⟩ : ∃ w7, w7 = wr := ⟨_, rfl⟩
              subst hw7
              have hjle : (j : Int) ≤ 8 := by omega
              clear hje
              go_wp2_with fail
              go_loopw [12] (fun i wx => ∃ q : Int, (q = 0 ∨ q = 128) ∧ i = .int .i64 q ∧ Below w2.heap.size w2 wx ∧ Ub wx w2.heap.size 8 273) (fun i _ => 128 - (intOf i).toNat)
              case atStart => exact ⟨0, .inl rfl, rfl, hbj, BJ⟩
              case round =>
                clear BJ hbj hdec
                obtain ⟨q2, hq2, rfl, hbx, BX⟩ := hrel
                obtain ⟨wx, hwx⟩ : ∃ wx, wx = wr := ⟨_, rfl⟩
                subst hwx
                rcases hq2 with rfl | rfl
                · have hownx := below_own hown hbx
                  have hrd2 : Vs wx wx.heap.size 1 (some ⟨ga, 0, none⟩) 128 (i8 l) := Vs.of_own hownx
                  obtain ⟨s, hs8, BXs⟩ := BX
                  have hcl8 : (us s).length = 8 := by rw [us_length]; exact hs8
                  have fld : ∀ p, (loadF (.pointer (some ⟨w.heap.size, 0, none⟩))).run Tryz.prog (Batch.grew wx p) = .ok (.agg hc.toArray) (Batch.grew wx p) := fun p => load_F ((B2.below hbx).below (Batch.grew_below wx p)) hf.len
                  have fl8 : ∀ p, (loadB8 (.pointer (some ⟨w2.heap.size, 0, none⟩))).run Tryz.prog (Batch.grew wx p) = .ok (.agg (us s).toArray) (Batch.grew wx p) := fun p => load_B8 (BXs.below (Batch.grew_below wx p)) hcl8
                  have hmix := fun p => mix_ex hc HF.out s hs8 (some ⟨ga, 0, none⟩) c8 l (Batch.grew wx p) (vs_below hrd2 (Batch.grew_below wx p)) hmc ((hT2.below hbx).below (Batch.grew_below wx p))
                  have HMX := Lib.hid hmix
                  have i4 : (128 : Int) ≤ (c8 : Int) := by omega
                  clear hmix hrd2 hownx
                  go_upto_region 21 with fail
                  refine Batch.wp_region_grew_tail 8 (by kernel_rfl) (by kernel_rfl) ?_
                  simp only [List.take_succ_cons, List.take_zero, List.drop_succ_cons, List.drop_zero]
                  repeat (go_big_quiet_step (fail))
                  refine wpQuiet_nil ?_
                  rintro _ ⟨pz, rfl⟩
                  have hg := Batch.grew_below wx pz
                  have hmx := HMX.out pz
                  have BG := BXs.below hg
                  have hgx : Below w2.heap.size w2 (Batch.grew wx pz) := hbx.trans (hg.mono hbx.size)
                  clear fld fl8 i4 HMX hg hbx BXs
                  generalize Batch.grew wx pz = w8 at *
                  go_wp2_with fail
                  refine hmx.mono ?_
                  rintro e w9 ⟨⟨_, rfl, s1, hs1, rfl⟩, hb9⟩
                  have hS8 : (us s1).length = 8 := by rw [us_length]; exact hs1
                  have BX9 := BG.below hb9
                  have hb29 : Below w2.heap.size w2 w9 := hgx.trans (hb9.mono hgx.size)
                  obtain ⟨hst, hSt⟩ := store_B8 BX9 hcl8 (vs := us s1) hS8 (us_one _)
                  obtain ⟨wA, hwA⟩ : ∃ wA, w9.setCells w2.heap.size 0 (us s1) = wA := ⟨_, rfl⟩
                  have hbA : Below w2.heap.size w2 wA := by
                    rw [← hwA]
                    exact ((Chg.of_below (S := []) hb29).setCells _ (.inr (by omega))).below (by simp)
                  rw [hwA] at hst hSt
                  clear hmx hb9 hwA BX9 BG hgx hb29
                  go_wp2
                  (try rw [Batch.Qn_normal])
                  (try go_wp2)
                  go_roundw
                  case rel => exact ⟨128, .inr rfl, rfl, hbA, Blk.ub hSt hs1⟩
                  case measure => simp [intOf]
                · obtain ⟨s, hs8, BXs⟩ := BX
                  have hl8 := load_B8 BXs (by rw [us_length]; exact hs8)
                  have hb0x : Below w.heap.size w wx := hb0w2.trans (hbx.mono hb0w2.size)
                  have B9 := B2.below hbx
                  clear BXs hT2 hown
                  go_wp2_with fail
                  go_loopw [13, 15, 16, 108] (fun v _ _ i wz => ∃ (j m9 : Nat) (A9 : Option Addr) (c9 : Nat) (l : List Int), j ≤ 8 ∧ Hid (m9 = 8 * j) ∧ m9 ≤ 64 ∧ i = .int .i64 (j : Int) ∧ v = .slice A9 m9 c9 ∧ m9 ≤ c9 ∧ Below wx.heap.size wx wz ∧ wz.ownsRow wx.heap.size 5 1 (.slice A9 m9 c9) m9 (i8 l)) (fun _ _ _ i _ => 8 - (intOf i).toNat)
                  case atStart => exact ⟨0, 0, none, 0, [], by omega, Lib.hid rfl, by omega, rfl, rfl, by omega, Below.refl _ _, World.ownsRow_nil _ _ _ _⟩
                  case round =>
                    obtain ⟨j, m9, A9, c9, l, hj, HM9, hm9, rfl, rfl, hmc9, hby, hown9⟩ := hrel
                    obtain ⟨wb, hwb⟩ : ∃ wb, wb = wr := ⟨_, rfl⟩
                    subst hwb
                    by_cases hj8 : j < 8
                    · have hix := fun W => index_B8 s hs8 W j hj8
                      have k0 : wb.cell? ⟨w.heap.size, 0, none⟩ = some (.int .i64 64) := ((B9.below hby).cell 0).trans hf.bits
                      have hjz : (j : Int) < 8 := by omega
                      generalize s.getD j 0 = y at *
                      go_wp2_with fail
                      go_loopw [13, 16] (fun v i wz => ∃ (q mq : Nat) (A9 : Option Addr) (c9 : Nat) (l : List Int), q ≤ 8 ∧ i = .int .i64 (56 - 8 * (q : Int)) ∧ Hid (mq = m9 + q) ∧ mq ≤ m9 + 8 ∧ v = .slice A9 mq c9 ∧ mq ≤ c9 ∧ Below wx.heap.size wx wz ∧ wz.ownsRow wx.heap.size 5 1 (.slice A9 mq c9) mq (i8 l)) (fun _ i _ => (intOf i + 8).toNat)
                      case atStart => exact ⟨0, m9, A9, c9, l, by omega, rfl, Lib.hid rfl, by omega, rfl, hmc9, hby, hown9⟩
                      case round =>
                        clear hown9 k0 hix hby
                        obtain ⟨q, mq, A9, c9, l, hq, rfl, HMQ, hmq, rfl, hmcq, hbz, hownz⟩ := hrel
                        by_cases hq8 : q < 8
                        · obtain ⟨sh, hsh⟩ : ∃ sh : Nat, 8 * (7 - q) = sh := ⟨_, rfl⟩
                          have e1 : (56 - 8 * (q : Int)) = (sh : Int) := by omega
                          have hsh2 : sh ≤ 56 := by omega
                          have h63 : mq + 1 ≤ maxLen := by unfold maxLen; omega
                          have hB1 : wx.heap.size ≤ wr.heap.size := hbz.size
                          have HE := Lib.hid (show (sh : Int) - 8 = 56 - 8 * ((q + 1 : Nat) : Int) by omega)
                          have HN := Lib.hid (show q + 1 ≤ 8 from hq8)
                          have hms : (intOf (Value.int IntKind.i64 ((sh : Int) - 8)) + 8).toNat < (intOf (Value.int IntKind.i64 (sh : Int)) + 8).toNat := by
                            show ((sh : Int) - 8 + 8).toNat < ((sh : Int) + 8).toNat
                            omega
                          have HMS := Lib.hid hms
                          rw [e1]
                          clear e1 hsh hq hq8 hms
                          go_wp2_with (at_builtin; go_must (refine wpList_push rfl (.tmp 118) (.tmp 123) 27 rfl wx.heap.size i0 (.int .u8 0) 1 Tryz.underlying27 hi hz0 hz1 hz2 rfl _ _ _ rfl hownz rfl rfl h63 (by omega) hB1 ?_))
                          intro A' c' w8 hown' g1' g2' hgr
                          have hb8 := below_push hbz hgr hB1 hownz (Nat.le_refl _)
                          rw [i8_push] at hown'
                          have HM2 := Lib.hid (show mq + 1 = m9 + (q + 1) by rw [HMQ.out]; omega)
                          have HMB := Lib.hid (show mq + 1 ≤ m9 + 8 by have := HMQ.out; have := HN.out; omega)
                          clear hownz hgr hbz
                          go_wp2
                          go_roundw
                          case rel => exact ⟨q + 1, mq + 1, A', c', _, HN.out, by rw [HE.out], HM2, HMB.out, rfl, g1', hb8, hown'⟩
                          case measure => exact HMS.out
                        · have hqe : q = 8 := by omega
                          have hneg : (56 - 8 * (q : Int)) = -8 := by omega
                          have HM4 := Lib.hid (show mq = 8 * (j + 1) by rw [HMQ.out, HM9.out, hqe]; omega)
                          have HM5 := Lib.hid (show mq ≤ 64 by have := HM4.out; omega)
                          rw [hneg]
                          clear hqe hneg hq hq8
                          go_wp2
                          go_roundw
                          case rel => exact ⟨j + 1, mq, A9, c9, l, by omega, HM4, HM5.out, by go_num, rfl, hmcq, hbz, hownz⟩
                          case measure => simp [intOf]; omega
                    · have hje : j = 8 := by omega
                      have hme : m9 = 64 := by rw [HM9.out, hje]
                      have hjge : (8 : Int) ≤ (j : Int) := by omega
                      rw [hme] at hown9 hmc9
                      rw [hme]
                      have hbF := hb0x.trans (hby.mono hb0x.size)
                      clear hje hme
                      go_wp2
                      go_ret
                      exact ⟨A9, c9, l, rfl, hmc9, own_base hown9 hb0x.size, hbF⟩
set_option maxRecDepth 100000 in
set_option maxHeartbeats 4000000 in
theorem sum512_ex (A : Option Addr) (c : Nat) (d : List Int) (w : World) (hd : Vs w w.heap.size 1 A 32 (i8 d)) (hT : TabM w) :
    Calls Tryz.prog 130 #[.slice A 32 c] w fun e w' => ∃ A' c' l, e = .returned (.slice A' 64 c') ∧ 64 ≤ c' ∧ w'.ownsRow w.heap.size 5 1 (.slice A' 64 c') 64 (i8 l) ∧ Below w.heap.size w w' := by
  have hs := sum_ex formM rfl A c d w hd hT
  unfold formM at hs
  go_enter Tryz.func130, Tryz.ntmps130
  go_wp2_with fail
  refine hs.mono ?_
  rintro e w1 ⟨A', c', l, rfl, h1, h2, h3⟩
  go_wp2
  go_ret
  exact ⟨A', c', l, rfl, h1, h2, h3⟩
end Cry
end Go.Proofs.YtgalhnobckoneaaGreatDoor
