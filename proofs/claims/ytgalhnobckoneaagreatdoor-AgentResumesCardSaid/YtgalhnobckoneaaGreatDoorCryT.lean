/- THE WALKS of the program's curve, that they return: known, d, of, Zero, Base. -/
import Derived.Test.YtgalhnobckoneaaGreatDoorCryS
import Derived.Test.YtgalhnobckoneaaGreatDoorCryH
namespace Go.Proofs.YtgalhnobckoneaaGreatDoor
open Go.RowKit Mem
namespace Cry

set_option maxRecDepth 100000 in
set_option maxHeartbeats 4000000 in
theorem known_ex (l : List UInt8) (h : l.length = 32) (w : World) : Calls Tryz.prog 76 #[.agg (bv l).toArray] w (Ans (Uv 5) w) := by
  obtain ⟨W, HW, A0, A1, hbw, hz⟩ := boxes2 w (bv l) 127 (us z5) 80
  have A0 : Bb W w.heap.size 32 127 := ⟨l, h, A0⟩
  have A1 : Ub _ _ 5 _ := Blk.ub A1 rfl
  go_enter Tryz.func76, Tryz.ntmps76
  go_upto_region 1 with fail
  rw [show ((w.alloc (.cells (bv l).toArray 127)).alloc (.cells #[.int .u64 0, .int .u64 0, .int .u64 0, .int .u64 0, .int .u64 0] 80)) = W from HW.out]
  clear HW
  go_wp2_with fail
  refine (rev_ex w.heap.size 127 W A0).mono ?_
  rintro e w1 ⟨rfl, B0, hc⟩
  have B1 := A1.chg hc (by simp)
  have hb1 : Below w.heap.size w w1 := hbw.trans (hc.below' hbw.size (by simp))
  go_wp2_with fail
  refine (read_ex w.heap.size 127 w1 B0).mono ?_
  rintro e w2 ⟨⟨v, z, rfl, xs, hx, rfl⟩, hb2⟩
  have C1 := B1.below hb2
  have hw2 := hb1.trans (hb2.mono hb1.size)
  obtain ⟨W3, HW3, O, hbo, hzo⟩ := boxes1 w2 (us z5) 80
  have O : Ub _ _ 5 _ := Blk.ub O rfl
  have D1 := C1.below hbo
  have hw3 := hw2.trans (hbo.mono hw2.size)
  have hs2 := hw2.size
  obtain ⟨w4, hst, O4, hcg⟩ := O.storeE hx
  have E1 := O.kept O4 hcg D1
  have hw4 : Below w.heap.size w w4 := hw3.trans (hcg.below' hw3.size (by simp; omega))
  obtain ⟨ys, hy, hl⟩ := O4.loadE 0 (by omega)
  have hl := hl w4 (Below.refl _ _)
  obtain ⟨w5, hst5, E5, hcg5⟩ := E1.storeE hy
  have hw5 : Below w.heap.size w w5 := hw4.trans (hcg5.below' hw4.size (by simp))
  obtain ⟨r1, r2⟩ := E5.res
  have hst : (storeE (.pointer (some ⟨w2.heap.size, 0, none⟩)) (.agg (us xs).toArray)).run Tryz.prog (w2.alloc (.cells #[.int .u64 0, .int .u64 0, .int .u64 0, .int .u64 0, .int .u64 0] 80)) = .ok () w4 := by
    rw [show (w2.alloc (.cells #[.int .u64 0, .int .u64 0, .int .u64 0, .int .u64 0, .int .u64 0] 80)) = W3 from HW3.out]
    exact hst
  clear HW3
  go_wp2
  refine bodyPost_ret (results_arr (P := Tryz.prog) Tryz.results76 _ _ (w.heap.size + 1) 0 5 _ rfl Tryz.underlying80 rfl size_E r1) rfl ?_
  exact ⟨⟨_, rfl, r2⟩, hw5⟩
theorem d_ex (w : World) : Calls Tryz.prog 79 #[] w (Ans (Uv 5) w) := by
  obtain ⟨W, HW, A0, hbw, hz⟩ := boxes1 w (us z5) 80
  have A0 : Ub _ _ 5 _ := Blk.ub A0 rfl
  go_enter Tryz.func79, Tryz.ntmps79
  go_upto_region 1 with fail
  rw [show (w.alloc (.cells #[.int .u64 0, .int .u64 0, .int .u64 0, .int .u64 0, .int .u64 0] 80)) = W from HW.out]
  clear HW
  go_wp2_with fail
  refine (known_ex [82, 3, 108, 238, 43, 111, 254, 115, 140, 199, 64, 121, 119, 121, 232, 152, 0, 112, 10, 77, 65, 65, 216, 171, 117, 235, 77, 202, 19, 89, 120, 163] rfl _).mono ?_
  rintro e w1 ⟨⟨_, rfl, xs, hx, rfl⟩, hb1⟩
  obtain ⟨w2, hst, U2, hcg⟩ := (A0.below hb1).storeE hx
  have hbw1 := hbw.trans (hb1.mono hbw.size)
  have hb2 : Below w.heap.size w w2 := hbw1.trans (hcg.below' hbw1.size (by simp))
  obtain ⟨r1, r2⟩ := U2.res
  go_wp2
  refine bodyPost_ret (results_arr (P := Tryz.prog) Tryz.results79 _ _ w.heap.size 0 5 _ rfl Tryz.underlying80 rfl size_E r1) rfl ?_
  exact ⟨⟨_, rfl, r2⟩, hb2⟩
set_option maxRecDepth 100000 in
set_option maxHeartbeats 8000000 in
theorem of_ex (xs ys : List Int) (hx : xs.length = 5) (hy : ys.length = 5) (w : World) : Calls Tryz.prog 77 #[.agg (us xs).toArray, .agg (us ys).toArray] w (Ans (Uv 20) w) := by
  obtain ⟨W, HW, A0, A1, A2, hB, hz⟩ := boxes3 w (us xs) 80 (us ys) 80 (us z20) 82
  have A0 := Blk.ub A0 hx
  have A1 := Blk.ub A1 hy
  have A2 : Ub _ _ 20 _ := Blk.ub A2 rfl
  obtain ⟨pa, hpa, la⟩ := A0.loadE 0 (by omega)
  obtain ⟨pb, hpb, lb⟩ := A1.loadE 0 (by omega)
  have fa : ∀ p, (loadE (.pointer (some ⟨w.heap.size, 0, none⟩))).run Tryz.prog (Batch.grew W p) = .ok (.agg (us pa).toArray) (Batch.grew W p) := fun p => la _ (Batch.grew_below W p)
  have fb : ∀ p, (loadE (.pointer (some ⟨w.heap.size + 1, 0, none⟩))).run Tryz.prog (Batch.grew W p) = .ok (.agg (us pb).toArray) (Batch.grew W p) := fun p => lb _ (Batch.grew_below W p)
  go_enter Tryz.func77, Tryz.ntmps77
  go_upto_region 1 with fail
  rw [show (((w.alloc (.cells (us xs).toArray 80)).alloc (.cells (us ys).toArray 80)).alloc (.cells #[.int .u64 0, .int .u64 0, .int .u64 0, .int .u64 0, .int .u64 0, .int .u64 0, .int .u64 0, .int .u64 0, .int .u64 0, .int .u64 0, .int .u64 0, .int .u64 0, .int .u64 0, .int .u64 0, .int .u64 0, .int .u64 0, .int .u64 0, .int .u64 0, .int .u64 0, .int .u64 0] 82)) = W from HW.out]
  clear HW
  refine Batch.wp_region_free [([0, 1], 2, [], fun v _ => Uv 5 v), ([3, 4], 5, [], fun v _ => Uv 5 v)] [6, 7] (by kernel_rfl) (by kernel_rfl) (by
    intro x hx
    simp only [List.mem_cons, List.not_mem_nil, or_false] at hx
    rcases hx with rfl | rfl
    · exact stable_uv
    · exact stable_uv) ?_
  refine Batch.freeR_cons ?_
  simp only [Batch.pick, List.getD_cons_zero, List.getD_cons_succ]
  repeat (go_big_quiet_step (fail))
  refine wpQuiet_nil ?_
  refine ⟨_, rfl, rfl, ⟨_, W, z5, rfl, rfl⟩, ?_, ?_⟩
  · intro w5 hw5 _
    go_simp
    exact ⟨rfl, gives_ans (int_ex 1 (.inr rfl) w5)⟩
  rintro _ ⟨_, v0, hv0, rfl⟩
  refine Batch.freeR_cons ?_
  simp only [Batch.pick, List.getD_cons_zero, List.getD_cons_succ, List.getElem_toArray, List.getElem_cons_succ, List.getElem_cons_zero, Act.put, List.setIfInBounds_toArray, List.set_cons_zero, List.set_cons_succ]
  repeat (go_big_quiet_step (fail))
  refine wpQuiet_nil ?_
  refine ⟨_, rfl, rfl, ⟨_, W, z5, rfl, rfl⟩, ?_, ?_⟩
  · intro w5 hw5 _
    go_simp
    exact ⟨rfl, gives_ans (mul_ex pa pb hpa hpb w5)⟩
  rintro _ ⟨_, v1, hv1, rfl⟩
  intro w8 hw8 _
  have hb8 := hw8.below
  have R0 := A2.below hb8
  have hB8 : Below w.heap.size w w8 := hB.trans (hb8.mono hB.size)
  obtain ⟨a0, a1, a2, a3, a4, rfl⟩ := us5 hpa
  obtain ⟨b0, b1, b2, b3, b4, rfl⟩ := us5 hpb
  obtain ⟨c0, c1, c2, c3, c4, rfl⟩ := us5 hv0
  obtain ⟨d0, d1, d2, d3, d4, rfl⟩ := us5 hv1
  clear fa fb la lb hw8
  simp only [us_lit]
  obtain ⟨w9, hst9, Ut, hc9⟩ := R0.storeP (xs := [a0, a1, a2, a3, a4, b0, b1, b2, b3, b4, c0, c1, c2, c3, c4, d0, d1, d2, d3, d4]) rfl
  have hB9 : Below w.heap.size w w9 := hB8.trans (hc9.below' hB8.size (by simp))
  obtain ⟨r1, r2⟩ := Ut.res
  have hst9 : (storeP (.pointer (some ⟨w.heap.size + 2, 0, none⟩)) (.agg #[.int .u64 a0, .int .u64 a1, .int .u64 a2, .int .u64 a3, .int .u64 a4, .int .u64 b0, .int .u64 b1, .int .u64 b2, .int .u64 b3, .int .u64 b4, .int .u64 c0, .int .u64 c1, .int .u64 c2, .int .u64 c3, .int .u64 c4, .int .u64 d0, .int .u64 d1, .int .u64 d2, .int .u64 d3, .int .u64 d4])).run Tryz.prog w8 = .ok () w9 := hst9
  go_wp2
  refine bodyPost_ret (results_arr (P := Tryz.prog) Tryz.results77 _ _ (w.heap.size + 2) 0 20 _ rfl Tryz.underlying82 rfl size_P r1) rfl ?_
  exact ⟨⟨_, rfl, r2⟩, hB9⟩
set_option maxRecDepth 100000 in
set_option maxHeartbeats 4000000 in
theorem zero_ex (w : World) : Calls Tryz.prog 78 #[] w (Ans (Uv 20) w) := by
  obtain ⟨W, HW, A0, hbw, hz⟩ := boxes1 w (us z20) 82
  have A0 : Ub _ _ 20 _ := Blk.ub A0 rfl
  go_enter Tryz.func78, Tryz.ntmps78
  go_upto_region 1 with fail
  rw [show (w.alloc (.cells #[.int .u64 0, .int .u64 0, .int .u64 0, .int .u64 0, .int .u64 0, .int .u64 0, .int .u64 0, .int .u64 0, .int .u64 0, .int .u64 0, .int .u64 0, .int .u64 0, .int .u64 0, .int .u64 0, .int .u64 0, .int .u64 0, .int .u64 0, .int .u64 0, .int .u64 0, .int .u64 0] 82)) = W from HW.out]
  clear HW
  go_wp2_with fail
  refine (int_ex 0 (.inl rfl) _).mono ?_
  rintro e w1 ⟨⟨_, rfl, xs, hx, rfl⟩, hb1⟩
  go_wp2_with fail
  refine (int_ex 1 (.inr rfl) _).mono ?_
  rintro e w2 ⟨⟨_, rfl, ys, hy, rfl⟩, hb2⟩
  go_wp2_with fail
  refine (of_ex xs ys hx hy _).mono ?_
  rintro e w3 ⟨⟨_, rfl, ps, hp, rfl⟩, hb3⟩
  obtain ⟨w4, hst, U2, hcg⟩ := (((A0.below hb1).below hb2).below hb3).storeP hp
  have hbw1 := hbw.trans (hb1.mono hbw.size)
  have hbw2 := hbw1.trans (hb2.mono hbw1.size)
  have hbw3 := hbw2.trans (hb3.mono hbw2.size)
  have hb4 : Below w.heap.size w w4 := hbw3.trans (hcg.below' hbw3.size (by simp))
  obtain ⟨r1, r2⟩ := U2.res
  go_wp2
  refine bodyPost_ret (results_arr (P := Tryz.prog) Tryz.results78 _ _ w.heap.size 0 20 _ rfl Tryz.underlying82 rfl size_P r1) rfl ?_
  exact ⟨⟨_, rfl, r2⟩, hb4⟩
end Cry
end Go.Proofs.YtgalhnobckoneaaGreatDoor
