/- THE WALK of LedgerOnce. -/
import Derived.Test.YtmbpnkacggngkaaGreatDoorLB15
section
namespace Go.Proofs.YtmbpnkacggngkaaGreatDoor
open Go.RowKit Mem Led
set_option maxRecDepth 100000 in
set_option maxHeartbeats 8000000 in
theorem once_at (A : Option Addr) (n c : Nat) (L : List OpV) (t t' : Txt) (w : World) (hd : OpsIn w A n L) (hz : t.length ≤ 9223372036854775807) (ht : (t.length ≤ 60 ∧ t' = t) ∨ (60 < t.length ∧ t' = few t)) (hT : Tab Sha.kkL w) :
  Calls Tryz.prog 6 #[.slice A n c, .string (str t)] w fun e w' => e = .returned (.bool true) ∧ Below w.heap.size w w' := by
 have hsz := Lib.hid (str_size t)
 have HD := Lib.hid hd
 have HL := Lib.hid hd.len
 have HT := Lib.hid hT
 obtain ⟨W0, hW0⟩ : ∃ W0, w.alloc (.cells (lgCells (.slice none 0 0)).toArray 30) = W0 := ⟨_, rfl⟩
 have hV0 : LgVar w.heap.size W0 (lgCells (.slice none 0 0)) none' [] [] := by rw [← hW0]; exact LgVar.new w
 have hb0 : Below w.heap.size w W0 := by rw [← hW0]; exact (Below.refl _ _).alloc (Nat.le_refl _) _
 have HW0 : Hid (w.alloc (.cells #[.slice none 0 0, .slice none 0 0, .slice none 0 0, .slice none 0 0, .slice none 0 0, .slice none 0 0] 30) = W0) := Lib.hid hW0
 clear hW0 hd hT
 have HV0 := Lib.hid hV0
 clear hV0
 have hsl : ∀ w', 60 < t.length → (Instr.slice 9 (.string (str t)) none (some (.int .i64 60)) none).run Tryz.prog w' = .ok (.string (str (Led.few t))) w' := fun w' h => by
  have h1 : 60 < (str t).size := by rw [hsz.out]; omega
  have e : (str t).extract 0 60 = str (Led.few t) := by
   apply ByteArray.ext
   apply Array.toList_inj.1
   simp [str, Led.few]
  have hj : (0 : Int) ≤ 60 ∧ (60 : Int) ≤ ((str t).size : Int) := ⟨by omega, by omega⟩
  rw [← e]
  simp [Instr.slice, Instr.sliceBounds, Instr.sliceBound, asIntOf, run_underlying Tryz.underlying9, hj]
 go_enter Tryz.func6, Tryz.ntmps6
 go_upto_region 1 with fail
 have HST : Hid ((t.length ≤ 60 ∧ t' = t) ∨ (60 < t.length ∧ t' = few t)) := Lib.hid ht
 rcases ht with ⟨h60, he⟩ | ⟨h60, he⟩
 ·have h1 : (str t).size ≤ 60 := by rw [hsz.out]; exact h60
  have hdc : decide ((60 : Int) < ((str t).size : Int)) = false := by simp; omega
  have HE := Lib.hid he
  clear hsl he h60
  go_upto_region 4 with fail
  rw [HW0.out, ← HE.out]
  clear h1 HE
  clear HW0 HST hsz hz
  go_wp2_with fail
  go_loopw [6, 7, 8, 9] (fun m i _ _ wx => ∃ (j k : Nat) (cs : List Value) (Lg : Led.Ledger) (E : List (Led.Entry × Value)) (U : List (Led.Bundle × Value)), j ≤ n ∧ j ≤ 40 ∧ i = .int .i64 (j : Int) ∧ m = .int .i64 (k : Int) ∧ Below w.heap.size w wx ∧ Hid (LgVar w.heap.size wx cs Lg E U) ∧ Hid Lg.Wf ∧ Hid (k = 0 ∨ (k = 1 ∧ Spent Lg t')) ∧ k ≤ 1) (fun _ i _ _ _ => n - (intOf i).toNat)
  case atStart => exact ⟨0, 0, _, _, _, _, by omega, by omega, rfl, rfl, hb0, HV0, Lib.hid none_wf, Lib.hid (.inl rfl), by omega⟩
  case round =>
   clear hb0 HV0
   obtain ⟨j, k, cs, Lg, E, U, hj, hj40, rfl, rfl, hbx, HV, HWf, HK, hk1⟩ := hrel
   obtain ⟨wx, hwx⟩ : ∃ wx, wx = wr := ⟨_, rfl⟩
   subst hwx
   have hgw : w.heap.size < wx.heap.size := HV.out.blk.lt
   by_cases hlt : j < n
   ·have hjz : (j : Int) < (n : Int) := by omega
    by_cases h40 : j < 40
    ·have hj4 : (j : Int) < 40 := by omega
     have hjl : j < L.length := by rw [HL.out]; exact hlt
     obtain ⟨bk, ok, rfl, hbk, hld⟩ := ldOp_es HD.out.es hjl
     have hld1 := hld wx hbx
     have HIN : Hid (L[j].In wx) := Lib.hid (OpIn.below (HD.out.each _ (List.getElem_mem hjl)) hbx)
     generalize L[j] = x at *
     have HC := Lib.hid (cutv_any x wx HIN.out)
     obtain ⟨CX, hCX⟩ : ∃ CX, Hid ((opvRow x).toArray = CX) := ⟨_, Lib.hid rfl⟩
     rw [hCX.out] at hld1 HC
     clear hld HIN hCX
     go_wp2_with fail
     refine HC.out.mono ?_
     rintro e w1 ⟨A1, c1, A2, c2, KK, rfl, f1, f2, t1, t2, hKT, hb1⟩
     clear HC hld1
     obtain ⟨hso, hkz⟩ := cut_sized (fun x r h => by rw [h, Sha.nameOf_len]; omega) hKT
     have HSO := Lib.hid hso
     have HKZ := Lib.hid hkz
     have HSIZE := Lib.hid (show (cutOp x.o KK).entry.sels.length ≤ 1000 ∧ (cutOp x.o KK).bundle.keys.length ≤ 1000 from ⟨hso.el, hso.ul⟩)
     generalize cutOp x.o KK = o at *
     have hsv1 := own_texts (L := o.entry.sels) (by rw [tv_rows]; exact t1)
     have hkv1 := own_elems (enc := jwkRow) (L := o.bundle.keys) t2
     obtain ⟨w2, hst, B2, hb2⟩ := new_opv w1 (opCells o (.slice A1 (min x.ns 6) c1) (.slice A2 (min x.nk 9) c2)) rfl (opCells_one _ _ _ _ _ _ _)
     have HSV := Lib.hid (hsv1.below hb2)
     have HKV := Lib.hid (hkv1.below hb2)
     have hb12 := hb1.trans (hb2.mono hb1.size)
     have hbw2 : Below w.heap.size w w2 := hbx.trans (hb12.mono hbx.size)
     have hV2 := HV.out.below hb12
     have q0 : w2.cell? ⟨w1.heap.size, 0, none⟩ = some (.int .i64 o.kind) := B2.cell 0
     have hlo := load_op B2 rfl
     have hll := hV2.load
     have HB2 := Lib.hid B2
     have HV2 := Lib.hid hV2
     have HRAW : Hid (o.kind ≤ 100 → Calls Tryz.prog 14 #[.agg cs.toArray, .agg (opCells o (.slice A1 (min x.ns 6) c1) (.slice A2 (min x.nk 9) c2)).toArray] w2 (Applied (fun r => r = does (Led.pmay o.bundle) Lg o) Lg w2)) := Lib.hid fun h => applyc_any cs Lg E U o _ _ w2 HV2.out.at_ HWf.out HSO.out h HSV.out HKV.out HKZ.out (HT.out.below hbw2)
     have hsz12 := hb1.size
     have hsz2 := hb2.size
     clear hso hkz t1 t2 hKT hsv1 hkv1 HSV HKV HSO HKZ hb1 hb2 hb12 hV2 B2 f1 f2 HV
     obtain ⟨CO, hCO⟩ : ∃ CO, Hid ((opCells o (.slice A1 (min x.ns 6) c1) (.slice A2 (min x.nk 9) c2)).toArray = CO) := ⟨_, Lib.hid rfl⟩
     rw [hCO.out] at hst hlo HRAW
     obtain ⟨CL, hCL⟩ : ∃ CL, Hid (cs.toArray = CL) := ⟨_, Lib.hid rfl⟩
     rw [hCL.out] at hll HRAW
     rw [hCO.out]
     by_cases hraw : o.kind ≤ 100
     ·have hnr : ¬ (100 : Int) < o.kind := by omega
      have hap := HRAW.out hraw
      clear HRAW hCO
      go_wp2_with fail
      refine hap.mono ?_
      rintro e w3 ⟨r, hr, vE, vN, vB, vJ, vK, vU, E', U', rfl, hWk, hb3⟩
      have hWf' : (does (Led.pmay o.bundle) Lg o).1.Wf := does_wf HWf.out HSIZE.out.1 HSIZE.out.2
      rw [hr, after_does] at hWk
      obtain ⟨w4, hst4, hV4, hc4, hWk4⟩ := HV2.out.put hb3 hWk (by omega)
      have B4 := (HB2.out.below hb3).chg hc4 (by simp; omega)
      have q0 : w4.cell? ⟨w1.heap.size, 0, none⟩ = some (.int .i64 o.kind) := B4.cell 0
      have q2 : w4.cell? ⟨w1.heap.size, 2, none⟩ = some (.string (str o.name)) := B4.cell 2
      have hsz3 := hb3.size
      have hbw4 : Below w.heap.size w w4 := (hbw2.trans (hb3.mono hbw2.size)).trans (hc4.below' (by omega) (by simp))
      have HDO : Hid ((does (Led.pmay o.bundle) Lg o) = r) := Lib.hid hr.symm
      rw [HDO.out] at hWf' hV4
      obtain ⟨er, her⟩ : ∃ er, Hid (r.2 = er) := ⟨_, Lib.hid rfl⟩
      rw [her.out]
      have HWf' := Lib.hid hWf'
      have HV4 := Lib.hid hV4
      have hcase : ((er == 0) = false ∨ ((er == 0) = true ∧ (o.kind == 4) = false) ∨ ((er == 0) = true ∧ (o.kind == 4) = true ∧ (o.name == t') = false)) ∨ ((er == 0) = true ∧ (o.kind == 4) = true ∧ (o.name == t') = true) := by
       cases (er == 0) <;> cases (o.kind == 4) <;> cases (o.name == t') <;> simp
      have HK2 : Hid (k = 0 ∨ (k = 1 ∧ Spent r.1 t')) := Lib.hid (HK.out.imp_right fun h => ⟨h.1, by rw [← HDO.out]; exact spent_stays h.2⟩)
      clear hr hWk hWk4 hc4 hb3 hap hlo hll hst HV2 HB2 B4 hV4 hWf' hbw2 hnr hbx
      rcases hcase with hcase | ⟨e1, e2, e3⟩
      ·clear HK HWf HDO her
       rcases hcase with e1 | ⟨e1, e2⟩ | ⟨e1, e2, e3⟩
       all_goals
        go_wp2_with fail
        go_roundw
        case rel => exact ⟨j + 1, k, _, _, _, _, by omega, by omega, by go_num, rfl, hbw4, HV4, HWf', HK2, hk1⟩
        case measure => simp [intOf]; omega
      ·have hk0 : k = 0 := by
        rcases HK.out with h | ⟨_, h⟩
        ·exact h
        ·have := spent_refused (ok := Led.pmay o.bundle) (o := o) HWf.out h (by simpa using e2) (by simpa using e3)
         rw [HDO.out, her.out] at this
         simp at e1
         contradiction
       have HK3 : Hid (k + 1 = 0 ∨ (k + 1 = 1 ∧ Spent r.1 t')) := Lib.hid (.inr ⟨by omega, by
        have := join_spends (ok := Led.pmay o.bundle) (L := Lg) (o := o) (t := t') (by rw [HDO.out, her.out]; simpa using e1) (by simpa using e2) (by simpa using e3)
        rw [HDO.out] at this
        exact this⟩)
       have HKE := Lib.hid hk0
       clear HK HWf HDO her HK2 hk0
       go_wp2_with fail
       go_roundw
       case rel => exact ⟨j + 1, k + 1, _, _, _, _, by omega, by omega, by go_num, by go_num, hbw4, HV4, HWf', HK3, by have := HKE.out; omega⟩
       case measure => simp [intOf]; omega
     ·have hnr : (100 : Int) < o.kind := by omega
      clear HRAW hCO hlo hll HB2 hraw
      go_wp2_with fail
      go_roundw
      case rel => exact ⟨j + 1, k, _, _, _, _, by omega, by omega, by go_num, rfl, hbw2, HV2, HWf, HK, hk1⟩
      case measure => simp [intOf]; omega
    ·have hj4 : ¬ (j : Int) < 40 := by omega
     have hl := lives_any wx
     have hk2 : (k : Int) ≤ 1 := by omega
     clear HV HWf HK
     go_wp2_with fail
     refine hl.mono ?_
     rintro e w7 ⟨rfl, hb8⟩
     go_wp2
     go_ret
     exact ⟨rfl, hbx.trans (hb8.mono hbx.size)⟩
   ·have hjz : ¬ (j : Int) < (n : Int) := by omega
    have hl := lives_any wx
    have hk2 : (k : Int) ≤ 1 := by omega
    clear HV HWf HK
    go_wp2_with fail
    refine hl.mono ?_
    rintro e w7 ⟨rfl, hb8⟩
    go_wp2
    go_ret
    exact ⟨rfl, hbx.trans (hb8.mono hbx.size)⟩
 ·have h1 : 60 < (str t).size := by rw [hsz.out]; omega
  have h2 : (str t).size ≤ 9223372036854775807 := by rw [hsz.out]; omega
  have hdc : decide ((60 : Int) < ((str t).size : Int)) = true := by simp; omega
  have hs := fun w' => hsl w' h60
  have HE := Lib.hid he
  clear hsl he h60
  go_upto_region 4 with fail
  rw [HW0.out, ← HE.out]
  clear h1 h2 hs HE
  clear HW0 HST hsz hz
  go_wp2_with fail
  go_loopw [6, 7, 8, 9] (fun m i _ _ wx => ∃ (j k : Nat) (cs : List Value) (Lg : Led.Ledger) (E : List (Led.Entry × Value)) (U : List (Led.Bundle × Value)), j ≤ n ∧ j ≤ 40 ∧ i = .int .i64 (j : Int) ∧ m = .int .i64 (k : Int) ∧ Below w.heap.size w wx ∧ Hid (LgVar w.heap.size wx cs Lg E U) ∧ Hid Lg.Wf ∧ Hid (k = 0 ∨ (k = 1 ∧ Spent Lg t')) ∧ k ≤ 1) (fun _ i _ _ _ => n - (intOf i).toNat)
  case atStart => exact ⟨0, 0, _, _, _, _, by omega, by omega, rfl, rfl, hb0, HV0, Lib.hid none_wf, Lib.hid (.inl rfl), by omega⟩
  case round =>
   clear hb0 HV0
   obtain ⟨j, k, cs, Lg, E, U, hj, hj40, rfl, rfl, hbx, HV, HWf, HK, hk1⟩ := hrel
   obtain ⟨wx, hwx⟩ : ∃ wx, wx = wr := ⟨_, rfl⟩
   subst hwx
   have hgw : w.heap.size < wx.heap.size := HV.out.blk.lt
   by_cases hlt : j < n
   ·have hjz : (j : Int) < (n : Int) := by omega
    by_cases h40 : j < 40
    ·have hj4 : (j : Int) < 40 := by omega
     have hjl : j < L.length := by rw [HL.out]; exact hlt
     obtain ⟨bk, ok, rfl, hbk, hld⟩ := ldOp_es HD.out.es hjl
     have hld1 := hld wx hbx
     have HIN : Hid (L[j].In wx) := Lib.hid (OpIn.below (HD.out.each _ (List.getElem_mem hjl)) hbx)
     generalize L[j] = x at *
     have HC := Lib.hid (cutv_any x wx HIN.out)
     obtain ⟨CX, hCX⟩ : ∃ CX, Hid ((opvRow x).toArray = CX) := ⟨_, Lib.hid rfl⟩
     rw [hCX.out] at hld1 HC
     clear hld HIN hCX
     go_wp2_with fail
     refine HC.out.mono ?_
     rintro e w1 ⟨A1, c1, A2, c2, KK, rfl, f1, f2, t1, t2, hKT, hb1⟩
     clear HC hld1
     obtain ⟨hso, hkz⟩ := cut_sized (fun x r h => by rw [h, Sha.nameOf_len]; omega) hKT
     have HSO := Lib.hid hso
     have HKZ := Lib.hid hkz
     have HSIZE := Lib.hid (show (cutOp x.o KK).entry.sels.length ≤ 1000 ∧ (cutOp x.o KK).bundle.keys.length ≤ 1000 from ⟨hso.el, hso.ul⟩)
     generalize cutOp x.o KK = o at *
     have hsv1 := own_texts (L := o.entry.sels) (by rw [tv_rows]; exact t1)
     have hkv1 := own_elems (enc := jwkRow) (L := o.bundle.keys) t2
     obtain ⟨w2, hst, B2, hb2⟩ := new_opv w1 (opCells o (.slice A1 (min x.ns 6) c1) (.slice A2 (min x.nk 9) c2)) rfl (opCells_one _ _ _ _ _ _ _)
     have HSV := Lib.hid (hsv1.below hb2)
     have HKV := Lib.hid (hkv1.below hb2)
     have hb12 := hb1.trans (hb2.mono hb1.size)
     have hbw2 : Below w.heap.size w w2 := hbx.trans (hb12.mono hbx.size)
     have hV2 := HV.out.below hb12
     have q0 : w2.cell? ⟨w1.heap.size, 0, none⟩ = some (.int .i64 o.kind) := B2.cell 0
     have hlo := load_op B2 rfl
     have hll := hV2.load
     have HB2 := Lib.hid B2
     have HV2 := Lib.hid hV2
     have HRAW : Hid (o.kind ≤ 100 → Calls Tryz.prog 14 #[.agg cs.toArray, .agg (opCells o (.slice A1 (min x.ns 6) c1) (.slice A2 (min x.nk 9) c2)).toArray] w2 (Applied (fun r => r = does (Led.pmay o.bundle) Lg o) Lg w2)) := Lib.hid fun h => applyc_any cs Lg E U o _ _ w2 HV2.out.at_ HWf.out HSO.out h HSV.out HKV.out HKZ.out (HT.out.below hbw2)
     have hsz12 := hb1.size
     have hsz2 := hb2.size
     clear hso hkz t1 t2 hKT hsv1 hkv1 HSV HKV HSO HKZ hb1 hb2 hb12 hV2 B2 f1 f2 HV
     obtain ⟨CO, hCO⟩ : ∃ CO, Hid ((opCells o (.slice A1 (min x.ns 6) c1) (.slice A2 (min x.nk 9) c2)).toArray = CO) := ⟨_, Lib.hid rfl⟩
     rw [hCO.out] at hst hlo HRAW
     obtain ⟨CL, hCL⟩ : ∃ CL, Hid (cs.toArray = CL) := ⟨_, Lib.hid rfl⟩
     rw [hCL.out] at hll HRAW
     rw [hCO.out]
     by_cases hraw : o.kind ≤ 100
     ·have hnr : ¬ (100 : Int) < o.kind := by omega
      have hap := HRAW.out hraw
      clear HRAW hCO
      go_wp2_with fail
      refine hap.mono ?_
      rintro e w3 ⟨r, hr, vE, vN, vB, vJ, vK, vU, E', U', rfl, hWk, hb3⟩
      have hWf' : (does (Led.pmay o.bundle) Lg o).1.Wf := does_wf HWf.out HSIZE.out.1 HSIZE.out.2
      rw [hr, after_does] at hWk
      obtain ⟨w4, hst4, hV4, hc4, hWk4⟩ := HV2.out.put hb3 hWk (by omega)
      have B4 := (HB2.out.below hb3).chg hc4 (by simp; omega)
      have q0 : w4.cell? ⟨w1.heap.size, 0, none⟩ = some (.int .i64 o.kind) := B4.cell 0
      have q2 : w4.cell? ⟨w1.heap.size, 2, none⟩ = some (.string (str o.name)) := B4.cell 2
      have hsz3 := hb3.size
      have hbw4 : Below w.heap.size w w4 := (hbw2.trans (hb3.mono hbw2.size)).trans (hc4.below' (by omega) (by simp))
      have HDO : Hid ((does (Led.pmay o.bundle) Lg o) = r) := Lib.hid hr.symm
      rw [HDO.out] at hWf' hV4
      obtain ⟨er, her⟩ : ∃ er, Hid (r.2 = er) := ⟨_, Lib.hid rfl⟩
      rw [her.out]
      have HWf' := Lib.hid hWf'
      have HV4 := Lib.hid hV4
      have hcase : ((er == 0) = false ∨ ((er == 0) = true ∧ (o.kind == 4) = false) ∨ ((er == 0) = true ∧ (o.kind == 4) = true ∧ (o.name == t') = false)) ∨ ((er == 0) = true ∧ (o.kind == 4) = true ∧ (o.name == t') = true) := by
       cases (er == 0) <;> cases (o.kind == 4) <;> cases (o.name == t') <;> simp
      have HK2 : Hid (k = 0 ∨ (k = 1 ∧ Spent r.1 t')) := Lib.hid (HK.out.imp_right fun h => ⟨h.1, by rw [← HDO.out]; exact spent_stays h.2⟩)
      clear hr hWk hWk4 hc4 hb3 hap hlo hll hst HV2 HB2 B4 hV4 hWf' hbw2 hnr hbx
      rcases hcase with hcase | ⟨e1, e2, e3⟩
      ·clear HK HWf HDO her
       rcases hcase with e1 | ⟨e1, e2⟩ | ⟨e1, e2, e3⟩
       all_goals
        go_wp2_with fail
        go_roundw
        case rel => exact ⟨j + 1, k, _, _, _, _, by omega, by omega, by go_num, rfl, hbw4, HV4, HWf', HK2, hk1⟩
        case measure => simp [intOf]; omega
      ·have hk0 : k = 0 := by
        rcases HK.out with h | ⟨_, h⟩
        ·exact h
        ·have := spent_refused (ok := Led.pmay o.bundle) (o := o) HWf.out h (by simpa using e2) (by simpa using e3)
         rw [HDO.out, her.out] at this
         simp at e1
         contradiction
       have HK3 : Hid (k + 1 = 0 ∨ (k + 1 = 1 ∧ Spent r.1 t')) := Lib.hid (.inr ⟨by omega, by
        have := join_spends (ok := Led.pmay o.bundle) (L := Lg) (o := o) (t := t') (by rw [HDO.out, her.out]; simpa using e1) (by simpa using e2) (by simpa using e3)
        rw [HDO.out] at this
        exact this⟩)
       have HKE := Lib.hid hk0
       clear HK HWf HDO her HK2 hk0
       go_wp2_with fail
       go_roundw
       case rel => exact ⟨j + 1, k + 1, _, _, _, _, by omega, by omega, by go_num, by go_num, hbw4, HV4, HWf', HK3, by have := HKE.out; omega⟩
       case measure => simp [intOf]; omega
     ·have hnr : (100 : Int) < o.kind := by omega
      clear HRAW hCO hlo hll HB2 hraw
      go_wp2_with fail
      go_roundw
      case rel => exact ⟨j + 1, k, _, _, _, _, by omega, by omega, by go_num, rfl, hbw2, HV2, HWf, HK, hk1⟩
      case measure => simp [intOf]; omega
    ·have hj4 : ¬ (j : Int) < 40 := by omega
     have hl := lives_any wx
     have hk2 : (k : Int) ≤ 1 := by omega
     clear HV HWf HK
     go_wp2_with fail
     refine hl.mono ?_
     rintro e w7 ⟨rfl, hb8⟩
     go_wp2
     go_ret
     exact ⟨rfl, hbx.trans (hb8.mono hbx.size)⟩
   ·have hjz : ¬ (j : Int) < (n : Int) := by omega
    have hl := lives_any wx
    have hk2 : (k : Int) ≤ 1 := by omega
    clear HV HWf HK
    go_wp2_with fail
    refine hl.mono ?_
    rintro e w7 ⟨rfl, hb8⟩
    go_wp2
    go_ret
    exact ⟨rfl, hbx.trans (hb8.mono hbx.size)⟩
theorem ledgerOnce_in (A : Option Addr) (n c : Nat) (L : List OpV) (s : ByteArray) (w : World) (hT : Tab Sha.kkL w) (hd : OpsIn w A n L) (_hn : n ≤ c) (_hc : c ≤ 9223372036854775807) (ws : s.size ≤ maxLen) :
  Calls Tryz.prog 6 #[.slice A n c, .string s] w fun e w' => e = .returned (.bool true) ∧ Below w.heap.size w w' := by
 have hs : s = str s.data.toList := by
  cases s
  simp [str]
 have hl : s.data.toList.length = s.size := Array.length_toList
 rw [hs]
 unfold maxLen at ws
 rcases Nat.lt_or_ge 60 s.data.toList.length with h | h
 ·exact once_at A n c L s.data.toList (few s.data.toList) w hd (by omega) (.inr ⟨h, rfl⟩) hT
 ·exact once_at A n c L s.data.toList s.data.toList w hd (by omega) (.inl ⟨h, rfl⟩) hT
end Go.Proofs.YtmbpnkacggngkaaGreatDoor
end
