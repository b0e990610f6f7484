/- THE WALKS of the program's curve, that they return: Base, Mul, Bytes. -/
import Derived.Test.YtgalhnobckoneaaGreatDoorCryT
namespace Go.Proofs.YtgalhnobckoneaaGreatDoor
open Go.RowKit Mem
namespace Cry

theorem size_Y : (Tryz.prog.info? 127).map (·.size) = some 32 := by kernel_rfl
def loadY (x : Value) : Sem Value := Instr.loadAt 127 x
def storeY (x v : Value) : Sem Unit := Instr.storeAt 127 x v
theorem named_load_Y (x : Value) : Instr.loadAt 127 x = loadY x := rfl
theorem named_store_Y (x v : Value) : Instr.storeAt 127 x v = storeY x v := rfl
attribute [go_sem ↓] named_load_Y named_store_Y
section
variable {w w' : World} {g n : Nat} {t : TypeId}
theorem Bb.lt (h : Bb w g n t) : g < w.heap.size := by obtain ⟨_, _, h⟩ := h; exact h.lt
theorem Bb.froz (h : Bb w g n t) (k : Nat) : w.frozen? ⟨g, k, none⟩ = false := by obtain ⟨_, _, h⟩ := h; exact h.froz k
theorem Bb.chg {S : List Nat} (h : Bb w g n t) (hc : Chg S w w') (hS : g ∉ S) : Bb w' g n t := by
  obtain ⟨xs, hl, h⟩ := h
  exact ⟨xs, hl, h.chg hc hS⟩
theorem Bb.set (h : Bb w g n t) (k : Nat) (b : UInt8) : Bb (w.setCell ⟨g, k, none⟩ (.int .u8 ((b.toNat : Nat) : Int))) g n t := by
  obtain ⟨xs, hl, h⟩ := h
  exact ⟨xs.set k b, by simpa using hl, by rw [← bv_set]; exact h.set k _⟩
theorem Bb.loadY (h : Bb w g 32 t) : ∃ l : List UInt8, l.length = 32 ∧ ∀ w', Below w.heap.size w w' → (Cry.loadY (.pointer (some ⟨g, 0, none⟩))).run Tryz.prog w' = .ok (.agg (bv l).toArray) w' := by
  obtain ⟨l, hl, hB⟩ := h
  exact ⟨l, hl, fun w' hb => load_cells (P := Tryz.prog) (T := 127) (k := 32) Tryz.underlying127 rfl size_Y (by rw [bv_length]; exact hl) fun j u hj => by rw [Nat.zero_add, (hB.below hb).cell]; exact hj⟩
theorem Bb.storeY (h : Bb w g 32 t) : ∃ w1, (Cry.storeY (.pointer (some ⟨g, 0, none⟩)) (.agg (bv (List.replicate 32 0)).toArray)).run Tryz.prog w = .ok () w1 ∧ Bb w1 g 32 t ∧ Chg [g] w w1 := by
  obtain ⟨ys, hl, hB⟩ := h
  have hn : (bv ys).length = 32 := by rw [bv_length]; exact hl
  have h2 := run_store_arr (P := Tryz.prog) w 127 g 0 32 size_Y (bv (List.replicate 32 0)).toArray (bv_cells _ rfl) (blk_has hB hn) (fun j _ => hB.froz _)
  have h3 := set_all (bv (List.replicate 32 0)) w g 0 (bv ys) t hB (by rw [bv_length, bv_length]; simp; omega)
  have e : (bv ys).take 0 ++ bv (List.replicate 32 0) ++ (bv ys).drop (0 + (bv (List.replicate 32 0)).length) = bv (List.replicate 32 0) := by
    rw [List.drop_of_length_le (by rw [bv_length, bv_length]; simp; omega)]
    simp
  rw [e] at h3
  exact ⟨_, h2, ⟨_, rfl, h3⟩, (Chg.refl _ _).setCells _ (.inl (by simp))⟩
end
set_option maxRecDepth 100000 in
set_option maxHeartbeats 8000000 in
theorem base_ex (w : World) : Calls Tryz.prog 40 #[] w (Ans (Uv 20) w) := by
  obtain ⟨W, HW, A0, hbw, hz⟩ := boxes1 w (us z20) 82
  have A0 : Ub _ _ 20 _ := Blk.ub A0 rfl
  go_enter Tryz.func40, Tryz.ntmps40
  go_upto_region 1 with fail
  rw [show (w.alloc (.cells #[.int .u64 0, .int .u64 0, .int .u64 0, .int .u64 0, .int .u64 0, .int .u64 0, .int .u64 0, .int .u64 0, .int .u64 0, .int .u64 0, .int .u64 0, .int .u64 0, .int .u64 0, .int .u64 0, .int .u64 0, .int .u64 0, .int .u64 0, .int .u64 0, .int .u64 0, .int .u64 0] 82)) = W from HW.out]
  clear HW
  go_wp2_with fail
  refine (known_ex [33, 105, 54, 211, 205, 110, 83, 254, 192, 164, 226, 49, 253, 214, 220, 92, 105, 44, 199, 96, 149, 37, 167, 178, 201, 86, 45, 96, 143, 37, 213, 26] rfl _).mono ?_
  rintro e w1 ⟨⟨_, rfl, xs, hx, rfl⟩, hb1⟩
  have B0 := A0.below hb1
  have hw1 := hbw.trans (hb1.mono hbw.size)
  obtain ⟨W2, HW2, X2, hb2, hz2⟩ := boxes1 w1 (us z5) 80
  have X2 : Ub _ _ 5 _ := Blk.ub X2 rfl
  obtain ⟨w3, hst3, X3, hc3⟩ := X2.storeE hx
  have hw2 := hw1.trans (hb2.mono hw1.size)
  have hw3 : Below w.heap.size w w3 := hw2.trans (hc3.below' hw2.size (by simp; have := hw1.size; omega))
  have B3 := X2.kept X3 hc3 (B0.below hb2)
  obtain ⟨W4, HW4, Y4, hb4, hz4⟩ := boxes1 w3 (bv (List.replicate 32 0)) 127
  have Y4 : Bb W4 w3.heap.size 32 127 := ⟨_, rfl, Y4⟩
  obtain ⟨w5, hst5, Y5, hc5⟩ := Y4.storeY
  have hlX := X3.lt
  have hlB := B3.lt
  have X5 := (X3.below hb4).chg hc5 (by simp; omega)
  have B5 := (B3.below hb4).chg hc5 (by simp; omega)
  have hw4 := hw3.trans (hb4.mono hw3.size)
  have hw5 : Below w.heap.size w w5 := hw4.trans (hc5.below' hw4.size (by simp; have := hw3.size; omega))
  have hst3 : (storeE (.pointer (some ⟨w1.heap.size, 0, none⟩)) (.agg (us xs).toArray)).run Tryz.prog (w1.alloc (.cells #[.int .u64 0, .int .u64 0, .int .u64 0, .int .u64 0, .int .u64 0] 80)) = .ok () w3 := by
    rw [show (w1.alloc (.cells #[.int .u64 0, .int .u64 0, .int .u64 0, .int .u64 0, .int .u64 0] 80)) = W2 from HW2.out]
    exact hst3
  have hst5 : (storeY (.pointer (some ⟨w3.heap.size, 0, none⟩)) (.agg #[.int .u8 0, .int .u8 0, .int .u8 0, .int .u8 0, .int .u8 0, .int .u8 0, .int .u8 0, .int .u8 0, .int .u8 0, .int .u8 0, .int .u8 0, .int .u8 0, .int .u8 0, .int .u8 0, .int .u8 0, .int .u8 0, .int .u8 0, .int .u8 0, .int .u8 0, .int .u8 0, .int .u8 0, .int .u8 0, .int .u8 0, .int .u8 0, .int .u8 0, .int .u8 0, .int .u8 0, .int .u8 0, .int .u8 0, .int .u8 0, .int .u8 0, .int .u8 0])).run Tryz.prog (w3.alloc (.cells #[.int .u8 0, .int .u8 0, .int .u8 0, .int .u8 0, .int .u8 0, .int .u8 0, .int .u8 0, .int .u8 0, .int .u8 0, .int .u8 0, .int .u8 0, .int .u8 0, .int .u8 0, .int .u8 0, .int .u8 0, .int .u8 0, .int .u8 0, .int .u8 0, .int .u8 0, .int .u8 0, .int .u8 0, .int .u8 0, .int .u8 0, .int .u8 0, .int .u8 0, .int .u8 0, .int .u8 0, .int .u8 0, .int .u8 0, .int .u8 0, .int .u8 0, .int .u8 0] 127)) = .ok () w5 := by
    rw [show (w3.alloc (.cells #[.int .u8 0, .int .u8 0, .int .u8 0, .int .u8 0, .int .u8 0, .int .u8 0, .int .u8 0, .int .u8 0, .int .u8 0, .int .u8 0, .int .u8 0, .int .u8 0, .int .u8 0, .int .u8 0, .int .u8 0, .int .u8 0, .int .u8 0, .int .u8 0, .int .u8 0, .int .u8 0, .int .u8 0, .int .u8 0, .int .u8 0, .int .u8 0, .int .u8 0, .int .u8 0, .int .u8 0, .int .u8 0, .int .u8 0, .int .u8 0, .int .u8 0, .int .u8 0] 127)) = W4 from HW4.out]
    exact hst5
  have hgx : w.heap.size + 1 ≤ w1.heap.size := by have := hb1.size; omega
  have hgy : w1.heap.size + 1 ≤ w3.heap.size := by omega
  clear HW2 HW4 hc3 hc5 hb1 hb2 hb4 hw1 hw2 hw3 hw4 X2 X3 Y4 B0 B3 A0
  go_wp2_with fail
  generalize w3.heap.size = gY at *
  generalize w1.heap.size = gX at *
  clear hst3 hst5
  go_loopw [3, 7] (fun _ i wr => ∃ t : Nat, t ≤ 32 ∧ i = .int .i64 (t : Int) ∧ Below w.heap.size w wr ∧ Ub wr w.heap.size 20 82 ∧ Ub wr gX 5 80 ∧ Bb wr gY 32 127) (fun _ i _ => 32 - (intOf i).toNat)
  case atStart => exact ⟨0, by omega, rfl, hw5, B5, X5, Y5⟩
  case round =>
    clear hw5 B5 X5 Y5
    obtain ⟨t, ht, rfl, hbr, B, X, Y⟩ := hrel
    by_cases hlt : t < 32
    · obtain ⟨x, hx⟩ := Y.cell hlt
      have hf := Y.froz t
      go_wp2_with fail
      go_roundw
      case rel => exact ⟨t + 1, by omega, by go_num, hbr.setCell (by show w.heap.size ≤ gY; omega) _, B.set_ne (by show w.heap.size ≠ gY; omega) _, X.set_ne (by show gX ≠ gY; omega) _, Y.set t 102⟩
      case measure => simp [intOf]; omega
    · obtain rfl : t = 32 := by omega
      obtain ⟨x, hx⟩ := Y.cell (k := 31) (by omega)
      have hf := Y.froz 31
      have Y1 := Y.set 31 88
      have X1 := X.set_ne (p := ⟨gY, 31, none⟩) (by show gX ≠ gY; omega) (.int .u8 88)
      have B1 := B.set_ne (p := ⟨gY, 31, none⟩) (by show w.heap.size ≠ gY; omega) (.int .u8 88)
      have hw6 := hbr.setCell (p := ⟨gY, 31, none⟩) (by show w.heap.size ≤ gY; omega) (.int .u8 88)
      obtain ⟨w6, h6⟩ : ∃ w6, wr.setCell ⟨gY, 31, none⟩ (.int .u8 88) = w6 := ⟨_, rfl⟩
      have Y1 : Bb (wr.setCell ⟨gY, 31, none⟩ (.int .u8 88)) gY 32 127 := Y1
      rw [h6] at Y1 X1 B1 hw6
      have H6 := Lib.hid h6
      clear h6
      obtain ⟨es, he, lE⟩ := X1.loadE 0 (by omega)
      obtain ⟨yl, hyl, lY⟩ := Y1.loadY
      have fE : ∀ p, (loadE (.pointer (some ⟨gX, 0, none⟩))).run Tryz.prog (Batch.grew w6 p) = .ok (.agg (us es).toArray) (Batch.grew w6 p) := fun p => lE _ (Batch.grew_below w6 p)
      have fY : ∀ p, (loadY (.pointer (some ⟨gY, 0, none⟩))).run Tryz.prog (Batch.grew w6 p) = .ok (.agg (bv yl).toArray) (Batch.grew w6 p) := fun p => lY _ (Batch.grew_below w6 p)
      go_upto_region 9 with fail
      rw [H6.out]
      clear H6 lE lY hbr B X Y
      refine Batch.wp_region_free [([1], 2, [], fun v _ => Uv 5 v), ([0], 3, [], fun v _ => Uv 20 v)] [4] (by kernel_rfl) (by kernel_rfl) (by
        intro x hx
        simp only [List.mem_cons, List.not_mem_nil, or_false] at hx
        rcases hx with rfl | rfl
        · exact stable_uv
        · exact stable_uv) ?_
      refine Batch.freeR_cons ?_
      simp only [Batch.pick, List.getD_cons_zero, List.getD_cons_succ]
      repeat (go_big_quiet_step (fail))
      refine wpQuiet_nil ?_
      refine ⟨_, rfl, rfl, ⟨_, w6, z5, rfl, rfl⟩, ?_, ?_⟩
      · intro w5 hw5 _
        go_simp
        exact ⟨rfl, gives_ans (known_ex yl hyl w5)⟩
      rintro _ ⟨_, v0, hv0, rfl⟩
      refine Batch.freeR_cons ?_
      simp only [Batch.pick, List.getD_cons_zero, List.getD_cons_succ, List.getElem_toArray, List.getElem_cons_succ, List.getElem_cons_zero, Act.put, List.setIfInBounds_toArray, List.set_cons_zero, List.set_cons_succ]
      repeat (go_big_quiet_step (fail))
      refine wpQuiet_nil ?_
      refine ⟨_, rfl, rfl, ⟨_, w6, z20, rfl, rfl⟩, ?_, ?_⟩
      · intro w5 hw5 _
        go_simp
        exact ⟨rfl, gives_ans (of_ex es v0 he hv0 w5)⟩
      rintro _ ⟨_, v1, hv1, rfl⟩
      intro w8 hw8 _
      have hb8 := hw8.below
      have R0 := B1.below hb8
      have hB8 : Below w.heap.size w w8 := hw6.trans (hb8.mono hw6.size)
      clear fE fY hw8
      obtain ⟨w9, hst9, Ut, hc9⟩ := R0.storeP hv1
      have hB9 : Below w.heap.size w w9 := hB8.trans (hc9.below' hB8.size (by simp))
      obtain ⟨r1, r2⟩ := Ut.res
      go_wp2
      refine bodyPost_ret (results_arr (P := Tryz.prog) Tryz.results40 _ _ w.heap.size 0 20 _ rfl Tryz.underlying82 rfl size_P r1) rfl ?_
      exact ⟨⟨_, rfl, r2⟩, hB9⟩
/-- Bytes of one's own, from a block's start on. -/
structure Kb (w : World) (g n : Nat) : Prop where
  lt : g < w.heap.size
  cell : ∀ {k : Nat}, k < n → ∃ x : Int, w.cell? ⟨g, k, none⟩ = some (.int .u8 x)
  froz : ∀ {k : Nat}, k < n → w.frozen? ⟨g, k, none⟩ = false
theorem Kb.set {w : World} {g n : Nat} (h : Kb w g n) (k : Nat) (x : Int) : Kb (w.setCell ⟨g, k, none⟩ (.int .u8 x)) g n := by
  refine ⟨by simpa using h.lt, fun {j} hj => ?_, fun {j} hj => ?_⟩
  · obtain ⟨y, hy⟩ := h.cell hj
    by_cases e : k = j
    · subst e
      exact ⟨x, setc_same _ _ _ _ _ hy⟩
    · exact ⟨y, (setc_ne _ _ _ _ _ e).trans hy⟩
  · have h1 : Fre w g j 1 := fun i hi => by
      obtain rfl : i = 0 := by omega
      exact h.froz hj
    exact (fre_setCell _ _).2 h1 0 (by omega)
theorem Kb.below {w w' : World} {g n : Nat} (h : Kb w g n) (hb : Below w.heap.size w w') : Kb w' g n :=
  ⟨Nat.lt_of_lt_of_le h.lt hb.size, fun {k} hk => by obtain ⟨x, hx⟩ := h.cell hk; exact ⟨x, (hb.cell (p := ⟨g, k, none⟩) h.lt).trans hx⟩, fun {k} hk => ((Chg.of_below (S := []) hb).frozen (p := ⟨g, k, none⟩) h.lt (by simp)).trans (h.froz hk)⟩
set_option maxRecDepth 100000 in
set_option maxHeartbeats 8000000 in
theorem mulp_ex (ps : List Int) (hp : ps.length = 20) (gk n c : Nat) (w : World) (hK : Kb w gk n) (hn : 32 ≤ n) (hc : 32 ≤ c) : Calls Tryz.prog 41 #[.agg (us ps).toArray, .slice (some ⟨gk, 0, none⟩) 32 c] w (Ans (Uv 20) w) := by
  obtain ⟨W, HW, A0, A1, hbw, hz⟩ := boxes2 w (us ps) 82 (us z20) 82
  have A0 := Blk.ub A0 hp
  have A1 : Ub _ _ 20 _ := Blk.ub A1 rfl
  have hgk := hK.lt
  go_enter Tryz.func41, Tryz.ntmps41
  go_upto_region 1 with fail
  rw [show ((w.alloc (.cells (us ps).toArray 82)).alloc (.cells #[.int .u64 0, .int .u64 0, .int .u64 0, .int .u64 0, .int .u64 0, .int .u64 0, .int .u64 0, .int .u64 0, .int .u64 0, .int .u64 0, .int .u64 0, .int .u64 0, .int .u64 0, .int .u64 0, .int .u64 0, .int .u64 0, .int .u64 0, .int .u64 0, .int .u64 0, .int .u64 0] 82)) = W from HW.out]
  clear HW
  go_wp2_with fail
  refine (zero_ex _).mono ?_
  rintro e w1 ⟨⟨_, rfl, os, ho, rfl⟩, hb1⟩
  go_wp2_with fail
  refine (d_ex _).mono ?_
  rintro e w2 ⟨⟨_, rfl, d1, hd1, rfl⟩, hb2⟩
  go_wp2_with fail
  refine (d_ex _).mono ?_
  rintro e w3 ⟨⟨_, rfl, d2, hd2, rfl⟩, hb3⟩
  go_wp2_with fail
  refine (add_ex d1 d2 hd1 hd2 _).mono ?_
  rintro e w4 ⟨⟨_, rfl, tw, htw, rfl⟩, hb4⟩
  have hw1 := hbw.trans (hb1.mono hbw.size)
  have hw2 := hw1.trans (hb2.mono hw1.size)
  have hw3 := hw2.trans (hb3.mono hw2.size)
  have hw4 := hw3.trans (hb4.mono hw3.size)
  have B0 := (((A0.below hb1).below hb2).below hb3).below hb4
  have B1 := (((A1.below hb1).below hb2).below hb3).below hb4
  have hs4 : w.heap.size + 2 ≤ w4.heap.size := by have := hb1.size; have := hb2.size; have := hb3.size; have := hb4.size; omega
  obtain ⟨W5, HW5, O5, T5, hb5, hz5⟩ := boxes2 w4 (us z20) 82 (us z5) 80
  have O5 : Ub _ _ 20 _ := Blk.ub O5 rfl
  have T5 : Ub _ _ 5 _ := Blk.ub T5 rfl
  obtain ⟨w6, hst6, O6, hc6⟩ := O5.storeP ho
  have T6 := T5.chg hc6 (by simp)
  obtain ⟨w7, hst7, T7, hc7⟩ := T6.storeE htw
  have O7 := O6.chg hc7 (by simp)
  have C0 := ((B0.below hb5).chg hc6 (by simp; omega)).chg hc7 (by simp; omega)
  have C1 := ((B1.below hb5).chg hc6 (by simp; omega)).chg hc7 (by simp; omega)
  have hw5 := hw4.trans (hb5.mono hw4.size)
  have hw6 : Below w.heap.size w w6 := hw5.trans (hc6.below' hw5.size (by simp; omega))
  have hw7 : Below w.heap.size w w7 := hw6.trans (hc7.below' hw6.size (by simp; omega))
  have hst6 : (storeP (.pointer (some ⟨w4.heap.size, 0, none⟩)) (.agg (us os).toArray)).run Tryz.prog ((w4.alloc (.cells #[.int .u64 0, .int .u64 0, .int .u64 0, .int .u64 0, .int .u64 0, .int .u64 0, .int .u64 0, .int .u64 0, .int .u64 0, .int .u64 0, .int .u64 0, .int .u64 0, .int .u64 0, .int .u64 0, .int .u64 0, .int .u64 0, .int .u64 0, .int .u64 0, .int .u64 0, .int .u64 0] 82)).alloc (.cells #[.int .u64 0, .int .u64 0, .int .u64 0, .int .u64 0, .int .u64 0] 80)) = .ok () w6 := by
    rw [show ((w4.alloc (.cells #[.int .u64 0, .int .u64 0, .int .u64 0, .int .u64 0, .int .u64 0, .int .u64 0, .int .u64 0, .int .u64 0, .int .u64 0, .int .u64 0, .int .u64 0, .int .u64 0, .int .u64 0, .int .u64 0, .int .u64 0, .int .u64 0, .int .u64 0, .int .u64 0, .int .u64 0, .int .u64 0] 82)).alloc (.cells #[.int .u64 0, .int .u64 0, .int .u64 0, .int .u64 0, .int .u64 0] 80)) = W5 from HW5.out]
    exact hst6
  clear HW5 hc6 hc7 hb1 hb2 hb3 hb4 hb5 hw1 hw2 hw3 hw4 hw5 hw6 A0 A1 B0 B1 O5 T5 T6 O6
  go_wp2_with fail
  generalize w4.heap.size = gO at *
  clear hst6 hst7
  go_loopw [7, 8] (fun i _ wr => ∃ t : Nat, t ≤ 32 ∧ i = .int .i64 ((t : Int) - 1) ∧ Below w.heap.size w wr ∧ Ub wr w.heap.size 20 82 ∧ Ub wr (w.heap.size + 1) 20 82 ∧ Ub wr gO 20 82 ∧ Ub wr (gO + 1) 5 80) (fun i _ _ => (intOf i + 1).toNat)
  case atStart => exact ⟨32, by omega, rfl, hw7, C0, C1, O7, T7⟩
  case round =>
    clear hw7 C0 C1 O7 T7
    obtain ⟨t, ht, rfl, hbr, B0, B1, O, T⟩ := hrel
    rcases Nat.eq_zero_or_pos t with rfl | hpos
    · obtain ⟨es, ha, hl⟩ := O.loadP 0 (by omega)
      have hl := hl wr (Below.refl _ _)
      obtain ⟨w2, hst, U2, hcg⟩ := B1.storeP ha
      have hb2 : Below w.heap.size w w2 := hbr.trans (hcg.below' hbr.size (by simp))
      obtain ⟨r1, r2⟩ := U2.res
      go_wp2
      refine bodyPost_ret (results_arr (P := Tryz.prog) Tryz.results41 _ _ (w.heap.size + 1) 0 20 _ rfl Tryz.underlying82 rfl size_P r1) rfl ?_
      exact ⟨⟨_, rfl, r2⟩, hb2⟩
    · obtain ⟨u, rfl⟩ : ∃ u, t = u + 1 := ⟨t - 1, by omega⟩
      have e1 : (((u + 1 : Nat) : Int) - 1) = (u : Int) := by omega
      have hms : Hid ((intOf (Value.int IntKind.i64 ((u : Int) - 1)) + 1).toNat < (intOf (Value.int IntKind.i64 (u : Int)) + 1).toNat) := Lib.hid (by show ((u : Int) - 1 + 1).toNat < ((u : Int) + 1).toNat; omega)
      rw [e1]
      clear e1
      go_wp2_with fail
      go_loopw [8] (fun j wr => ∃ s : Nat, s ≤ 8 ∧ j = .int .i64 ((s : Int) - 1) ∧ Below w.heap.size w wr ∧ Ub wr w.heap.size 20 82 ∧ Ub wr (w.heap.size + 1) 20 82 ∧ Ub wr gO 20 82 ∧ Ub wr (gO + 1) 5 80) (fun j _ => (intOf j + 1).toNat)
      case atStart => exact ⟨8, by omega, rfl, hbr, B0, B1, O, T⟩
      case round =>
        clear hbr B0 B1 O T
        obtain ⟨s, hs, rfl, hbr, B0, B1, O, T⟩ := hrel
        rcases Nat.eq_zero_or_pos s with rfl | hpos2
        · go_wp2_with fail
          go_roundw
          case rel => exact ⟨u, by omega, rfl, hbr, B0, B1, O, T⟩
          case measure => exact hms.out
        · obtain ⟨v, rfl⟩ : ∃ v, s = v + 1 := ⟨s - 1, by omega⟩
          have e1 : (((v + 1 : Nat) : Int) - 1) = (v : Int) := by omega
          have hmv : Hid ((intOf (Value.int IntKind.i64 ((v : Int) - 1)) + 1).toNat < (intOf (Value.int IntKind.i64 (v : Int)) + 1).toNat) := Lib.hid (by show ((v : Int) - 1 + 1).toNat < ((v : Int) + 1).toNat; omega)
          rw [e1]
          clear e1
          obtain ⟨es, ha, hl2⟩ := O.loadP 0 (by omega)
          have hl2 := hl2 wr (Below.refl _ _)
          obtain ⟨ts, hts, hl3⟩ := T.loadE 0 (by omega)
          have hl3 := hl3 wr (Below.refl _ _)
          go_wp2_with fail
          refine (sum_pt es es ts ha ha hts _).mono ?_
          rintro e w4 ⟨⟨_, rfl, ms, hm, rfl⟩, hb4⟩
          have O4 := O.below hb4
          obtain ⟨w5, hst, O5, hcg⟩ := O4.storeP hm
          have C0 := O4.kept O5 hcg (B0.below hb4)
          have C1 := O4.kept O5 hcg (B1.below hb4)
          have T5 := O4.kept O5 hcg (T.below hb4)
          have hw4 := hbr.trans (hb4.mono hbr.size)
          have hw5 : Below w.heap.size w w5 := hw4.trans (hcg.below' hw4.size (by simp; omega))
          obtain ⟨eb, kE0⟩ := hK.cell (k := u) (by omega)
          have kE : w5.cell? ⟨gk, u, none⟩ = some (.int .u8 eb) := (hw5.cell (p := ⟨gk, u, none⟩) hgk).trans kE0
          clear hl2 hl3 hcg hb4 hw4 hbr B0 B1 O T O4 kE0
          cases hbb : (bits .and .u8 (eb / 2 ^ v) 1 == 1)
          · go_wp2_with fail
            go_roundw
            case rel => exact ⟨v, by omega, rfl, hw5, C0, C1, O5, T5⟩
            case measure => exact hmv.out
          · obtain ⟨fs, hf, hl3⟩ := O5.loadP 0 (by omega)
            have hl3 := hl3 w5 (Below.refl _ _)
            obtain ⟨gs, hg, hl4⟩ := C0.loadP 0 (by omega)
            have hl4 := hl4 w5 (Below.refl _ _)
            obtain ⟨t2, ht2, hl5⟩ := T5.loadE 0 (by omega)
            have hl5 := hl5 w5 (Below.refl _ _)
            go_wp2_with fail
            refine (sum_pt fs gs t2 hf hg ht2 _).mono ?_
            rintro e w6 ⟨⟨_, rfl, ns, hn2, rfl⟩, hb6⟩
            have O6 := O5.below hb6
            obtain ⟨w7, hst7, O7, hcg⟩ := O6.storeP hn2
            have D0 := O6.kept O7 hcg (C0.below hb6)
            have D1 := O6.kept O7 hcg (C1.below hb6)
            have T7 := O6.kept O7 hcg (T5.below hb6)
            have hw6 := hw5.trans (hb6.mono hw5.size)
            have hw7 : Below w.heap.size w w7 := hw6.trans (hcg.below' hw6.size (by simp; omega))
            go_wp2_with fail
            go_roundw
            case rel => exact ⟨v, by omega, rfl, hw7, D0, D1, O7, T7⟩
            case measure => exact hmv.out
set_option maxRecDepth 100000 in
set_option maxHeartbeats 8000000 in
theorem bytesp_ex (ps : List Int) (hp : ps.length = 20) (w : World) : Calls Tryz.prog 42 #[.agg (us ps).toArray] w fun e w' => ∃ g, w.heap.size ≤ g ∧ e = .returned (.slice (some ⟨g, 0, none⟩) 32 32) ∧ Bb w' g 32 5 ∧ Below w.heap.size w w' := by
  obtain ⟨W, HW, A0, hbw, hz⟩ := boxes1 w (us ps) 82
  have A0 := Blk.ub A0 hp
  obtain ⟨zs, hzs, lz⟩ := A0.loadE 10 (by omega)
  have lz := lz W (Below.refl _ _)
  go_enter Tryz.func42, Tryz.ntmps42
  go_upto_region 1 with fail
  rw [show (w.alloc (.cells (us ps).toArray 82)) = W from HW.out]
  clear HW
  go_wp2_with fail
  refine (inv_ex zs hzs _).mono ?_
  rintro e w1 ⟨⟨_, rfl, vs, hvs, rfl⟩, hb1⟩
  have B0 := A0.below hb1
  have hw1 := hbw.trans (hb1.mono hbw.size)
  obtain ⟨W2, HW2, I2, hb2, hz2⟩ := boxes1 w1 (us z5) 80
  have I2 : Ub _ _ 5 _ := Blk.ub I2 rfl
  obtain ⟨w3, hst3, I3, hc3⟩ := I2.storeE hvs
  have hw2 := hw1.trans (hb2.mono hw1.size)
  have hw3 : Below w.heap.size w w3 := hw2.trans (hc3.below' hw2.size (by simp; have := hw1.size; omega))
  have B3 := I2.kept I3 hc3 (B0.below hb2)
  have hst3 : (storeE (.pointer (some ⟨w1.heap.size, 0, none⟩)) (.agg (us vs).toArray)).run Tryz.prog (w1.alloc (.cells #[.int .u64 0, .int .u64 0, .int .u64 0, .int .u64 0, .int .u64 0] 80)) = .ok () w3 := by
    rw [show (w1.alloc (.cells #[.int .u64 0, .int .u64 0, .int .u64 0, .int .u64 0, .int .u64 0] 80)) = W2 from HW2.out]
    exact hst3
  obtain ⟨y5, hy5, ly⟩ := B3.loadE 5 (by omega)
  have ly := ly w3 (Below.refl _ _)
  obtain ⟨i5, hi5, li⟩ := I3.loadE 0 (by omega)
  have li := li w3 (Below.refl _ _)
  clear HW2 hc3 hb1 hb2 hw1 hw2 lz A0 B0 I2
  go_wp2_with fail
  refine (mul_ex y5 i5 hy5 hi5 _).mono ?_
  rintro e w4 ⟨⟨_, rfl, ms, hms, rfl⟩, hb4⟩
  go_wp2_with fail
  refine (bytes_ex ms hms _).mono ?_
  rintro e w5 ⟨gb, hgb, rfl, Y5, hb5⟩
  have B5 := (B3.below hb4).below hb5
  have I5 := (I3.below hb4).below hb5
  have hw4 := hw3.trans (hb4.mono hw3.size)
  have hw5 := hw4.trans (hb5.mono hw4.size)
  have hgw : w.heap.size ≤ gb := by have := hw4.size; omega
  obtain ⟨x5, hx5, lx⟩ := B5.loadE 0 (by omega)
  have lx := lx w5 (Below.refl _ _)
  obtain ⟨j5, hj5, lj⟩ := I5.loadE 0 (by omega)
  have lj := lj w5 (Below.refl _ _)
  clear ly li hst3 hb4 hb5 hw4
  go_wp2_with fail
  refine (mul_ex x5 j5 hx5 hj5 _).mono ?_
  rintro e w6 ⟨⟨_, rfl, ns, hns, rfl⟩, hb6⟩
  go_wp2_with fail
  refine (odd_ex ns hns _).mono ?_
  rintro e w7 ⟨⟨bb, rfl⟩, hb7⟩
  have Y7 := (Y5.below hb6).below hb7
  have hw6 := hw5.trans (hb6.mono hw5.size)
  have hw7 := hw6.trans (hb7.mono hw6.size)
  clear lx lj hb6 hb7 hw6
  cases bb
  · go_wp2
    go_ret
    exact ⟨gb, hgw, rfl, Y7, hw7⟩
  · obtain ⟨l, hl, hB⟩ := Y7
    obtain ⟨ob, hob⟩ : ∃ ob, l[31]? = some ob := ⟨_, List.getElem?_eq_getElem (by omega)⟩
    have hcell : w7.cell? ⟨gb, 31, none⟩ = some (.int .u8 ((ob.toNat : Nat) : Int)) := (hB.cell 31).trans (by rw [bv_at, hob]; rfl)
    obtain ⟨nb, hnb⟩ := or_byte ob 128 (by omega) (by omega)
    have hf := hB.froz 31
    go_wp2
    go_ret
    exact ⟨gb, hgw, rfl, ⟨l.set 31 nb, by simpa using hl, by rw [← bv_set, ← hnb]; exact hB.set 31 _⟩, hw7.setCell (by show w.heap.size ≤ gb; exact hgw) _⟩
end Cry
end Go.Proofs.YtgalhnobckoneaaGreatDoor
