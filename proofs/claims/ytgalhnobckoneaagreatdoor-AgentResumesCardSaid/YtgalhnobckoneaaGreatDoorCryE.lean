/- THE WALKS of the program's field, that they return: carried, Int, least, Bytes, Add, Sub. -/
import Derived.Test.YtgalhnobckoneaaGreatDoorCryA
namespace Go.Proofs.YtgalhnobckoneaaGreatDoor
open Go.RowKit Mem
namespace Cry

theorem size_E : (Tryz.prog.info? 80).map (·.size) = some 5 := by kernel_rfl
theorem size_L5 : (Tryz.prog.info? 78).map (·.size) = some 5 := by kernel_rfl
/-- An element, read and written, behind names that the walk does not open. -/
def loadE (x : Value) : Sem Value := Instr.loadAt 80 x
def storeE (x v : Value) : Sem Unit := Instr.storeAt 80 x v
def loadL5 (x : Value) : Sem Value := Instr.loadAt 78 x
theorem named_load_E (x : Value) : Instr.loadAt 80 x = loadE x := rfl
theorem named_store_E (x v : Value) : Instr.storeAt 80 x v = storeE x v := rfl
theorem named_load_L5 (x : Value) : Instr.loadAt 78 x = loadL5 x := rfl
attribute [go_sem ↓] named_load_E named_store_E named_load_L5
section
variable {w : World} {g n : Nat} {t : TypeId}
theorem Ub.loadE (h : Ub w g n t) (o : Nat) (ho : o + 5 ≤ n) : ∃ xs : List Int, xs.length = 5 ∧ ∀ w', Below w.heap.size w w' → (Cry.loadE (.pointer (some ⟨g, o, none⟩))).run Tryz.prog w' = .ok (.agg (us xs).toArray) w' := Ub.load Tryz.underlying80 rfl size_E h o ho
theorem Ub.loadL5 (h : Ub w g n t) (o : Nat) (ho : o + 5 ≤ n) : ∃ xs : List Int, xs.length = 5 ∧ ∀ w', Below w.heap.size w w' → (Cry.loadL5 (.pointer (some ⟨g, o, none⟩))).run Tryz.prog w' = .ok (.agg (us xs).toArray) w' := Ub.load Tryz.underlying78 rfl size_L5 h o ho
theorem Ub.storeE (h : Ub w g 5 t) {xs : List Int} (hx : xs.length = 5) : ∃ w1, (Cry.storeE (.pointer (some ⟨g, 0, none⟩)) (.agg (us xs).toArray)).run Tryz.prog w = .ok () w1 ∧ Ub w1 g 5 t ∧ Chg [g] w w1 := Ub.store size_E h hx
end
theorem index_L5 (fv : List Int) (hl : fv.length = 5) (W : World) (j : Nat) (hj : j < 5) : (Instr.index 78 (.agg (us fv).toArray) (.int .i64 (j : Int))).run Tryz.prog W = .ok (.int .u64 (fv.getD j 0)) W := by
  have h1 : (Go.sizeOf 77).run Tryz.prog W = .ok 1 W := by kernel_rfl
  have h2 : (Go.isAgg 77).run Tryz.prog W = .ok false W := by kernel_rfl
  have h3 : (0 : Int) ≤ (j : Int) ∧ (j : Int) < ((5 : Nat) : Int) := by omega
  have h := us_at fv (k := j) (by omega)
  unfold Instr.index
  simp only [asIntOf, Sem.run_bind, Sem.run_pure, run_underlying Tryz.underlying78, Result.andThen_ok, if_pos h3, h1, Go.part, h2, Bool.false_eq_true, if_false, Int.toNat_natCast, Nat.mul_one, List.getElem?_toArray, h]
def z5 : List Int := [0, 0, 0, 0, 0]
set_option maxRecDepth 100000 in
set_option maxHeartbeats 4000000 in
theorem carried_ex (xs : List Int) (h5 : xs.length = 5) (w : World) : Calls Tryz.prog 135 #[.agg (us xs).toArray] w (Ans (Uv 5) w) := by
  obtain ⟨W, HW, A0, A1, A2, hbw, hz⟩ := boxes3 w (us xs) 80 (us z5) 80 (us z5) 78
  have A0 := Blk.ub A0 h5
  have A1 : Ub _ _ 5 _ := Blk.ub A1 rfl
  have A2 : Ub _ _ 5 _ := Blk.ub A2 rfl
  obtain ⟨ls, hl5, hld⟩ := A0.loadL5 0 (by omega)
  have hld := hld W (Below.refl _ _)
  go_enter Tryz.func135, Tryz.ntmps135
  go_upto_region 2 with fail
  rw [show (((w.alloc (.cells (us xs).toArray 80)).alloc (.cells #[.int .u64 0, .int .u64 0, .int .u64 0, .int .u64 0, .int .u64 0] 80)).alloc (.cells #[.int .u64 0, .int .u64 0, .int .u64 0, .int .u64 0, .int .u64 0] 78)) = W from HW.out]
  clear HW
  go_wp2_with fail
  go_loopw [4, 5, 10] (fun _ _ i wr => ∃ t : Nat, t ≤ 5 ∧ i = .int .i64 (t : Int) ∧ Below w.heap.size w wr ∧ Ub wr w.heap.size 5 80 ∧ Ub wr (w.heap.size + 1) 5 80 ∧ Ub wr (w.heap.size + 2) 5 78) (fun _ _ i _ => 5 - (intOf i).toNat)
  case atStart => exact ⟨0, by omega, rfl, hbw, A0, A1, A2⟩
  case round =>
    clear A0 A1 A2 hbw hld
    obtain ⟨t, ht, rfl, hbr, B0, B1, B2⟩ := hrel
    by_cases hlt : t < 5
    · have hix := fun W => index_L5 ls hl5 W t hlt
      generalize ls.getD t 0 = lx at *
      obtain ⟨x, hx⟩ := B2.cell hlt
      have hf := B2.froz t
      go_wp2_with fail
      go_roundw
      case rel => exact ⟨t + 1, by omega, by go_num, hbr.setCell (by simp <;> omega) _, B0.set_ne (by simp <;> omega) _, B1.set_ne (by simp <;> omega) _, B2.set _ _⟩
      case measure => simp [intOf]; omega
    · obtain rfl : t = 5 := by omega
      obtain ⟨wo, hwo⟩ : ∃ wo, wo = wr := ⟨_, rfl⟩
      subst hwo
      go_wp2_with fail
      go_loopw [6, 7, 19] (fun _ _ i wr => ∃ t : Nat, t ≤ 5 ∧ i = .int .i64 (t : Int) ∧ Below w.heap.size w wr ∧ Ub wr w.heap.size 5 80 ∧ Ub wr (w.heap.size + 1) 5 80 ∧ Ub wr (w.heap.size + 2) 5 78) (fun _ _ i _ => 5 - (intOf i).toNat)
      case atStart => exact ⟨0, by omega, rfl, hbr, B0, B1, B2⟩
      case round =>
        clear B0 B1 B2 hbr
        obtain ⟨t, ht, rfl, hbr, B0, B1, B2⟩ := hrel
        by_cases hlt : t < 5
        · obtain ⟨c0, g0⟩ := B2.cell (k := 0) (by omega)
          obtain ⟨c1, g1⟩ := B2.cell (k := 1) (by omega)
          obtain ⟨c2, g2⟩ := B2.cell (k := 2) (by omega)
          obtain ⟨c3, g3⟩ := B2.cell (k := 3) (by omega)
          obtain ⟨c4, g4⟩ := B2.cell (k := 4) (by omega)
          obtain ⟨x, hx⟩ := B0.cell hlt
          have hf := B0.froz t
          have hc : t = 0 ∨ t = 1 ∨ t = 2 ∨ t = 3 ∨ t = 4 := by omega
          rcases hc with rfl | rfl | rfl | rfl | rfl
          all_goals
            go_wp2_with fail
            go_roundw
            case rel => have hh := fun (o : Nat) (v : Int) => And.intro (hbr.setCell (p := ⟨w.heap.size, o, none⟩) (by simp) (.int .u64 v)) (And.intro (B0.set o v) (And.intro (B1.set_ne (p := ⟨w.heap.size, o, none⟩) (by simp) (.int .u64 v)) (B2.set_ne (p := ⟨w.heap.size, o, none⟩) (by simp) (.int .u64 v)))); first | exact ⟨1, by omega, rfl, hh _ _⟩ | exact ⟨2, by omega, rfl, hh _ _⟩ | exact ⟨3, by omega, rfl, hh _ _⟩ | exact ⟨4, by omega, rfl, hh _ _⟩ | exact ⟨5, by omega, rfl, hh _ _⟩
            case measure => simp [intOf]
        · obtain rfl : t = 5 := by omega
          obtain ⟨ys, hy, hl⟩ := B0.loadE 0 (by omega)
          have hl := hl wr (Below.refl _ _)
          obtain ⟨w1, hst, U1, hcg⟩ := B1.storeE hy
          have hb1 : Below w.heap.size w w1 := hbr.trans (hcg.below' hbr.size (by simp))
          obtain ⟨r1, r2⟩ := U1.res
          go_wp2
          refine bodyPost_ret (results_arr (P := Tryz.prog) Tryz.results135 _ _ (w.heap.size + 1) 0 5 _ rfl Tryz.underlying80 rfl size_E r1) rfl ?_
          exact ⟨⟨_, rfl, r2⟩, hb1⟩
set_option maxRecDepth 100000 in
set_option maxHeartbeats 4000000 in
theorem add_ex (xs ys : List Int) (hx : xs.length = 5) (hy : ys.length = 5) (w : World) : Calls Tryz.prog 80 #[.agg (us xs).toArray, .agg (us ys).toArray] w (Ans (Uv 5) w) := by
  obtain ⟨W, HW, A0, A1, A2, hbw, hz⟩ := boxes3 w (us xs) 80 (us ys) 80 (us z5) 80
  have A0 := Blk.ub A0 hx
  have A1 := Blk.ub A1 hy
  have A2 : Ub _ _ 5 _ := Blk.ub A2 rfl
  go_enter Tryz.func80, Tryz.ntmps80
  go_upto_region 1 with fail
  rw [show (((w.alloc (.cells (us xs).toArray 80)).alloc (.cells (us ys).toArray 80)).alloc (.cells #[.int .u64 0, .int .u64 0, .int .u64 0, .int .u64 0, .int .u64 0] 80)) = W from HW.out]
  clear HW
  go_wp2_with fail
  go_loopw [5, 6] (fun _ i wr => ∃ t : Nat, t ≤ 5 ∧ i = .int .i64 (t : Int) ∧ Below w.heap.size w wr ∧ Ub wr w.heap.size 5 80 ∧ Ub wr (w.heap.size + 1) 5 80 ∧ Ub wr (w.heap.size + 2) 5 80) (fun _ i _ => 5 - (intOf i).toNat)
  case atStart => exact ⟨0, by omega, rfl, hbw, A0, A1, A2⟩
  case round =>
    clear A0 A1 A2 hbw
    obtain ⟨t, ht, rfl, hbr, B0, B1, B2⟩ := hrel
    obtain ⟨wz, hwz⟩ : ∃ wz, wz = wr := ⟨_, rfl⟩
    subst hwz
    by_cases hlt : t < 5
    · obtain ⟨x, h0⟩ := B0.cell hlt
      obtain ⟨y, h1⟩ := B1.cell hlt
      have k0 : ∀ p, (Batch.grew wz p).cell? ⟨w.heap.size, t, none⟩ = some (.int .u64 x) := fun p => (Batch.grew_cell (a := ⟨w.heap.size, t, none⟩) B0.lt p).trans h0
      have k1 : ∀ p, (Batch.grew wz p).cell? ⟨w.heap.size + 1, t, none⟩ = some (.int .u64 y) := fun p => (Batch.grew_cell (a := ⟨w.heap.size + 1, t, none⟩) B1.lt p).trans h1
      clear h0 h1
      go_upto_region 4 with fail
      refine Batch.wp_region_grew_tail 11 (by kernel_rfl) (by kernel_rfl) ?_
      simp only [List.take_succ_cons, List.take_zero, List.drop_succ_cons, List.drop_zero]
      repeat (go_big_quiet_step (fail))
      refine wpQuiet_nil ?_
      rintro _ ⟨p, rfl⟩
      have hbp := Batch.grew_below wz p
      have kc := k0 p
      have G0 := B0.below hbp
      have G1 := B1.below hbp
      have G2 := B2.below hbp
      have hbq : Below w.heap.size w (Batch.grew wz p) := hbr.trans (hbp.mono hbr.size)
      have kf : (Batch.grew wz p).frozen? ⟨w.heap.size, t, none⟩ = false := G0.froz _
      clear k0 k1 B0 B1 B2
      generalize Batch.grew wz p = wq at *
      go_wp2_with fail
      (try rw [Batch.Qn_normal])
      (try go_wp2)
      go_roundw
      case rel => exact ⟨t + 1, by omega, by go_num, hbq.setCell (by simp <;> omega) _, G0.set _ _, G1.set_ne (by simp <;> omega) _, G2.set_ne (by simp <;> omega) _⟩
      case measure => simp [intOf]; omega
    · obtain rfl : t = 5 := by omega
      obtain ⟨es, ha, hl⟩ := B0.loadE 0 (by omega)
      have hl := hl wz (Below.refl _ _)
      go_wp2_with fail
      refine (carried_ex es ha _).mono ?_
      rintro e w1 ⟨⟨_, rfl, cs, hc, rfl⟩, hb1⟩
      obtain ⟨w2, hst, U2, hcg⟩ := (B2.below hb1).storeE hc
      have hbw1 := hbr.trans (hb1.mono hbr.size)
      have hb2 : Below w.heap.size w w2 := hbw1.trans (hcg.below' hbw1.size (by simp))
      obtain ⟨r1, r2⟩ := U2.res
      go_wp2
      refine bodyPost_ret (results_arr (P := Tryz.prog) Tryz.results80 _ _ (w.heap.size + 2) 0 5 _ rfl Tryz.underlying80 rfl size_E r1) rfl ?_
      exact ⟨⟨_, rfl, r2⟩, hb2⟩
set_option maxRecDepth 100000 in
set_option maxHeartbeats 4000000 in
theorem sub_ex (xs ys : List Int) (hx : xs.length = 5) (hy : ys.length = 5) (w : World) : Calls Tryz.prog 136 #[.agg (us xs).toArray, .agg (us ys).toArray] w (Ans (Uv 5) w) := by
  obtain ⟨W, HW, A0, A1, A2, hbw, hz⟩ := boxes3 w (us xs) 80 (us ys) 80 (us z5) 80
  have A0 := Blk.ub A0 hx
  have A1 := Blk.ub A1 hy
  have A2 : Ub _ _ 5 _ := Blk.ub A2 rfl
  obtain ⟨es, ha, hl⟩ := A1.loadE 0 (by omega)
  have hl := hl W (Below.refl _ _)
  go_enter Tryz.func136, Tryz.ntmps136
  go_upto_region 1 with fail
  rw [show (((w.alloc (.cells (us xs).toArray 80)).alloc (.cells (us ys).toArray 80)).alloc (.cells #[.int .u64 0, .int .u64 0, .int .u64 0, .int .u64 0, .int .u64 0] 80)) = W from HW.out]
  clear HW
  go_wp2_with fail
  refine (carried_ex es ha _).mono ?_
  rintro e w1 ⟨⟨_, rfl, cs, hc, rfl⟩, hb1⟩
  obtain ⟨w2, hst, U2, hcg⟩ := (A1.below hb1).storeE hc
  have A0 := (A0.below hb1).chg hcg (by simp)
  have A2 := (A2.below hb1).chg hcg (by simp)
  have hbw1 := hbw.trans (hb1.mono hbw.size)
  have hb2 : Below w.heap.size w w2 := hbw1.trans (hcg.below' hbw1.size (by simp))
  clear hl hcg hb1 hbw hbw1 A1
  go_wp2_with fail
  clear hst
  go_loopw [5, 6, 9] (fun _ _ i wr => ∃ t : Nat, t ≤ 5 ∧ i = .int .i64 (t : Int) ∧ Below w.heap.size w wr ∧ Ub wr w.heap.size 5 80 ∧ Ub wr (w.heap.size + 1) 5 80 ∧ Ub wr (w.heap.size + 2) 5 80) (fun _ _ i _ => 5 - (intOf i).toNat)
  case atStart => exact ⟨0, by omega, rfl, hb2, A0, U2, A2⟩
  case round =>
    clear A0 A2 U2 hb2
    obtain ⟨t, ht, rfl, hbr, B0, B1, B2⟩ := hrel
    obtain ⟨wz, hwz⟩ : ∃ wz, wz = wr := ⟨_, rfl⟩
    subst hwz
    by_cases hlt : t < 5
    · obtain ⟨x, h0⟩ := B0.cell hlt
      obtain ⟨y, h1⟩ := B1.cell hlt
      have k0 : ∀ p, (Batch.grew wz p).cell? ⟨w.heap.size, t, none⟩ = some (.int .u64 x) := fun p => (Batch.grew_cell (a := ⟨w.heap.size, t, none⟩) B0.lt p).trans h0
      have k1 : ∀ p, (Batch.grew wz p).cell? ⟨w.heap.size + 1, t, none⟩ = some (.int .u64 y) := fun p => (Batch.grew_cell (a := ⟨w.heap.size + 1, t, none⟩) B1.lt p).trans h1
      clear h0 h1
      have hc : t = 0 ∨ 0 < t := by omega
      rcases hc with rfl | hpos
      all_goals
        go_upto_region 8 with fail
        refine Batch.wp_region_grew_tail 13 (by kernel_rfl) (by kernel_rfl) ?_
        simp only [List.take_succ_cons, List.take_zero, List.drop_succ_cons, List.drop_zero]
        repeat (go_big_quiet_step (fail))
        refine wpQuiet_nil ?_
        rintro _ ⟨p, rfl⟩
        have hbp := Batch.grew_below wz p
        have kc := k0 p
        have G0 := B0.below hbp
        have G1 := B1.below hbp
        have G2 := B2.below hbp
        have hbq : Below w.heap.size w (Batch.grew wz p) := hbr.trans (hbp.mono hbr.size)
        have kf := fun k => G0.froz k
        clear k0 k1 B0 B1 B2
        generalize Batch.grew wz p = wq at *
        go_wp2_with fail
        (try rw [Batch.Qn_normal])
        (try go_wp2)
        go_roundw
        case rel => first | exact ⟨1, by omega, rfl, hbq.setCell (by simp <;> omega) _, G0.set _ _, G1.set_ne (by simp <;> omega) _, G2.set_ne (by simp <;> omega) _⟩ | exact ⟨t + 1, by omega, by go_num, hbq.setCell (by simp <;> omega) _, G0.set _ _, G1.set_ne (by simp <;> omega) _, G2.set_ne (by simp <;> omega) _⟩
        case measure => simp [intOf] <;> omega
    · obtain rfl : t = 5 := by omega
      obtain ⟨es, ha, hl⟩ := B0.loadE 0 (by omega)
      have hl := hl wz (Below.refl _ _)
      go_wp2_with fail
      refine (carried_ex es ha _).mono ?_
      rintro e w1 ⟨⟨_, rfl, cs, hc, rfl⟩, hb1⟩
      obtain ⟨w2, hst, U2, hcg⟩ := (B2.below hb1).storeE hc
      have hbw1 := hbr.trans (hb1.mono hbr.size)
      have hb2 : Below w.heap.size w w2 := hbw1.trans (hcg.below' hbw1.size (by simp))
      obtain ⟨r1, r2⟩ := U2.res
      go_wp2
      refine bodyPost_ret (results_arr (P := Tryz.prog) Tryz.results136 _ _ (w.heap.size + 2) 0 5 _ rfl Tryz.underlying80 rfl size_E r1) rfl ?_
      exact ⟨⟨_, rfl, r2⟩, hb2⟩
set_option maxRecDepth 100000 in
set_option maxHeartbeats 4000000 in
theorem int_ex (k : Int) (hk : k = 0 ∨ k = 1) (w : World) : Calls Tryz.prog 134 #[.int .i64 k] w (Ans (Uv 5) w) := by
  obtain ⟨W, HW, A0, A1, hbw, hz⟩ := boxes2 w (us z5) 80 (us z5) 80
  have A0 : Ub _ _ 5 _ := Blk.ub A0 rfl
  have A1 : Ub _ _ 5 _ := Blk.ub A1 rfl
  obtain ⟨w1, hst, U1, hcg⟩ := A1.storeE (xs := [k, 0, 0, 0, 0]) rfl
  have U0 := A0.chg hcg (by simp)
  obtain ⟨ys, hy, hl⟩ := U1.loadE 0 (by omega)
  have hl := hl w1 (Below.refl _ _)
  obtain ⟨w2, hst2, U2, hcg2⟩ := U0.storeE hy
  have hb1 : Below w.heap.size w w1 := hbw.trans (hcg.below' hbw.size (by simp))
  have hb2 : Below w.heap.size w w2 := hb1.trans (hcg2.below' hb1.size (by simp))
  obtain ⟨r1, r2⟩ := U2.res
  have hst : (storeE (.pointer (some ⟨w.heap.size + 1, 0, none⟩)) (.agg #[.int .u64 k, .int .u64 0, .int .u64 0, .int .u64 0, .int .u64 0])).run Tryz.prog ((w.alloc (.cells #[.int .u64 0, .int .u64 0, .int .u64 0, .int .u64 0, .int .u64 0] 80)).alloc (.cells #[.int .u64 0, .int .u64 0, .int .u64 0, .int .u64 0, .int .u64 0] 80)) = .ok () w1 := by
    rw [show ((w.alloc (.cells #[.int .u64 0, .int .u64 0, .int .u64 0, .int .u64 0, .int .u64 0] 80)).alloc (.cells #[.int .u64 0, .int .u64 0, .int .u64 0, .int .u64 0, .int .u64 0] 80)) = W from HW.out]
    exact hst
  clear HW hcg hcg2 A0 A1 U0 U1
  have e0 : bits .and .u64 0 2251799813685247 = 0 := by kernel_rfl
  have e1 : bits .and .u64 1 2251799813685247 = 1 := by kernel_rfl
  rcases hk with rfl | rfl
  all_goals
    go_enter Tryz.func134, Tryz.ntmps134
    go_wp2
    refine bodyPost_ret (results_arr (P := Tryz.prog) Tryz.results134 _ _ w.heap.size 0 5 _ rfl Tryz.underlying80 rfl size_E r1) rfl ?_
    exact ⟨⟨_, rfl, r2⟩, hb2⟩
end Cry
end Go.Proofs.YtgalhnobckoneaaGreatDoor
