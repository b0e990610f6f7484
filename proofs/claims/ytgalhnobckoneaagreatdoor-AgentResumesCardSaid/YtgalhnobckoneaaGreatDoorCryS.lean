/- THE WALK of field.Read, that it returns. -/
import Derived.Test.YtgalhnobckoneaaGreatDoorCryR
namespace Go.Proofs.YtgalhnobckoneaaGreatDoor
open Go.RowKit Mem
namespace Cry

theorem conv8 {w : World} {B n : Nat} {A : Option Addr} {l : List UInt8} (h : Bs w B A n l) (c : Nat) : (convert 27 9 (.slice A n c)).run Tryz.prog w = .ok (.string (str l)) w :=
  run_string (P := Tryz.prog) h 27 5 9 c Tryz.underlying27 Tryz.underlying5 Tryz.underlying9
theorem Bb.bs {w : World} {g n : Nat} {t : TypeId} (h : Bb w g n t) : ∃ l : List UInt8, Bs w w.heap.size (some ⟨g, 0, none⟩) n l := by
  obtain ⟨l, hl, hB⟩ := h
  exact ⟨l, by rw [bv_length]; omega, fun j u hj => ⟨_, rfl, hB.lt, by rw [zero_add_]; exact (hB.cell j).trans hj⟩⟩
theorem Bb.cell {w : World} {g n : Nat} {t : TypeId} (h : Bb w g n t) {k : Nat} (hk : k < n) : ∃ x : Int, w.cell? ⟨g, k, none⟩ = some (.int .u8 x) := by
  obtain ⟨l, hl, hB⟩ := h
  exact ⟨_, (hB.cell k).trans (by rw [bv_at, List.getElem?_eq_getElem (by omega)]; rfl)⟩
/-- Bytes new in memory. -/
def NewB (v : Value) (w' : World) : Prop := ∃ g, v = .slice (some ⟨g, 0, none⟩) 32 32 ∧ Bb w' g 32 5
set_option maxRecDepth 100000 in
set_option maxHeartbeats 8000000 in
theorem read_ex (gb : Nat) (t0 : TypeId) (w : World) (hb : Bb w gb 32 t0) : Calls Tryz.prog 133 #[.slice (some ⟨gb, 0, none⟩) 32 32] w fun e w' => (∃ v z, e = .returned (.tuple #[v, .int .i64 z]) ∧ Uv 5 v) ∧ Below w.heap.size w w' := by
  obtain ⟨W, HW, A0, A1, hbw, hz⟩ := boxes2 w (us z5) 80 (us z5) 80
  have A0 : Ub _ _ 5 _ := Blk.ub A0 rfl
  have A1 : Ub _ _ 5 _ := Blk.ub A1 rfl
  have hbW := hb.below hbw
  obtain ⟨W0, hW0⟩ : ∃ W0, Hid (w.alloc (.cells (us z5).toArray 80) = W0) := ⟨_, Lib.hid rfl⟩
  go_enter Tryz.func133, Tryz.ntmps133
  go_upto_region 4 with fail
  rw [show ((w.alloc (.cells #[.int .u64 0, .int .u64 0, .int .u64 0, .int .u64 0, .int .u64 0] 80)).alloc (.cells #[.int .u64 0, .int .u64 0, .int .u64 0, .int .u64 0, .int .u64 0] 80)) = W from HW.out]
  clear HW hW0
  go_wp2_with fail
  go_loopw [5, 6, 7, 8, 13] (fun _ _ _ _ i wr => ∃ t : Int, 0 ≤ t ∧ t ≤ 5 ∧ i = .int .i64 t ∧ Below w.heap.size w wr ∧ Bb wr gb 32 t0 ∧ Ub wr w.heap.size 5 80 ∧ Ub wr (w.heap.size + 1) 5 80) (fun _ _ _ _ i _ => (5 - intOf i).toNat)
  case atStart => exact ⟨0, by omega, by omega, rfl, hbw, hbW, A0, A1⟩
  case round =>
    clear hbw hbW A0 A1
    obtain ⟨t, ht0, ht5, rfl, hbr, hbb, U0, U1⟩ := hrel
    obtain ⟨wz, hwz⟩ : ∃ wz, wz = wr := ⟨_, rfl⟩
    subst hwz
    have hc : t = 0 ∨ t = 1 ∨ t = 2 ∨ t = 3 ∨ t = 4 ∨ t = 5 := by omega
    have hst := fun (o : Nat) (v : Int) => And.intro (hbr.setCell (p := ⟨w.heap.size + 1, o, none⟩) (by simp) (.int .u64 v)) (And.intro (hbb.set_ne (p := ⟨w.heap.size + 1, o, none⟩) (by have := hb; obtain ⟨_, _, hB⟩ := hb; have := hB.lt; show gb ≠ w.heap.size + 1; omega) (.int .u64 v)) (And.intro (U0.set_ne (p := ⟨w.heap.size + 1, o, none⟩) (by simp) (.int .u64 v)) (U1.set o v)))
    have kE : ∀ o, o < 5 → ∃ x : Int, wz.cell? ⟨w.heap.size + 1, o, none⟩ = some (.int .u64 x) := fun o ho => U1.cell ho
    have kf := fun o => U1.froz o
    rcases hc with rfl | rfl | rfl | rfl | rfl | rfl
    case inr.inr.inr.inr.inr =>
      obtain ⟨es, he, hl⟩ := U1.loadE 0 (by omega)
      obtain ⟨bl, hbl⟩ := hbb.bs
      have fE : ∀ p, (loadE (.pointer (some ⟨w.heap.size + 1, 0, none⟩))).run Tryz.prog (Batch.grew wz p) = .ok (.agg (us es).toArray) (Batch.grew wz p) := fun p => hl _ (Batch.grew_below wz p)
      clear kE kf hst
      go_upto_region 17 with fail
      refine Batch.wp_region_free [([0], 1, [], NewB), ([], 2, [1], fun v _ => ∃ l : List UInt8, v = .string (str l)), ([3], 4, [], fun v _ => v = .string (str bl))] [5] (by kernel_rfl) (by kernel_rfl) (by
        intro x hx
        simp only [List.mem_cons, List.not_mem_nil, or_false] at hx
        rcases hx with rfl | rfl | rfl
        · exact Batch.stable_gr fun v w w' hb ⟨g, e, h⟩ => ⟨g, e, h.below hb⟩
        · exact Batch.stable_gr fun v w w' hb h => h
        · exact Batch.stable_gr fun v w w' hb h => h) ?_
      refine Batch.freeR_cons ?_
      simp only [Batch.pick, List.getD_cons_zero, List.getD_cons_succ]
      repeat (go_big_quiet_step (fail))
      refine wpQuiet_nil ?_
      refine ⟨_, rfl, rfl, ⟨_, _, wz.heap.size, rfl, List.replicate 32 0, rfl, Blk.new wz (bv (List.replicate 32 0)) 5⟩, ?_, ?_⟩
      · intro w5 hw5 _
        go_simp
        exact ⟨rfl, (bytes_ex es he w5).mono fun e w6 ⟨g, _, h2, h3, h4⟩ => ⟨_, h2, Batch.GR.of h4, g, rfl, h3⟩⟩
      rintro _ ⟨_, g1, rfl, _⟩
      refine Batch.freeR_cons ?_
      simp only [Batch.pick, List.getElem_toArray, List.getElem_cons_succ, List.getElem_cons_zero, Act.put, List.setIfInBounds_toArray, List.set_cons_zero, List.set_cons_succ]
      refine wpQuiet_nil ?_
      refine ⟨_, rfl, rfl, ⟨_, wz, [], rfl⟩, ?_, ?_⟩
      · rintro w5 hw5 ⟨h8, _⟩
        obtain ⟨g2, he2, hbs⟩ := h8 rfl
        injection he2 with he3 _ _
        rw [he3]
        obtain ⟨l2, hl2⟩ := hbs.bs
        have hcv := conv8 hl2 32
        go_simp
        exact ⟨Batch.GR.of (Below.refl _ _), l2, rfl⟩
      rintro _ ⟨_, l2, rfl⟩
      refine Batch.freeR_cons ?_
      simp only [Batch.pick, List.getD_cons_zero, List.getD_cons_succ, List.getElem_toArray, List.getElem_cons_succ, List.getElem_cons_zero, Act.put, List.setIfInBounds_toArray, List.set_cons_zero, List.set_cons_succ]
      repeat (go_big_quiet_step (fail))
      refine wpQuiet_nil ?_
      refine ⟨_, rfl, rfl, ⟨_, wz, rfl⟩, ?_, ?_⟩
      · intro w5 hw5 _
        have hcv := conv8 (vs_below hbl hw5.below) 32
        go_simp
        exact ⟨Batch.GR.of (Below.refl _ _), rfl⟩
      rintro _ ⟨_, rfl⟩ w6 hw6 _
      have hb6 := hw6.below
      have V0 := U0.below hb6
      have V1 := U1.below hb6
      have hbr6 := hbr.trans (hb6.mono hbr.size)
      clear fE hl hw6 hb6 U0 U1 hbr hbb
      cases hee : (l2 == bl)
      · obtain ⟨w7, hst, T0, hcg⟩ := V0.storeE (xs := z5) rfl
        have hb7 : Below w.heap.size w w7 := hbr6.trans (hcg.below' hbr6.size (by simp))
        obtain ⟨r1, r2⟩ := T0.res
        have hst : (storeE (.pointer (some ⟨w.heap.size, 0, none⟩)) (.agg #[.int .u64 0, .int .u64 0, .int .u64 0, .int .u64 0, .int .u64 0])).run Tryz.prog w6 = .ok () w7 := hst
        go_wp2
        refine bodyPost_ret (results_arr2 (P := Tryz.prog) Tryz.results133 _ _ w.heap.size 0 5 _ rfl Tryz.underlying80 rfl size_E r1) rfl ?_
        exact ⟨⟨_, ⟨_, rfl⟩, r2⟩, hb7⟩
      · obtain ⟨fs, hf, hl2⟩ := V1.loadE 0 (by omega)
        have hl2 := hl2 w6 (Below.refl _ _)
        obtain ⟨w7, hst, T0, hcg⟩ := V0.storeE hf
        have hb7 : Below w.heap.size w w7 := hbr6.trans (hcg.below' hbr6.size (by simp))
        obtain ⟨r1, r2⟩ := T0.res
        go_wp2
        refine bodyPost_ret (results_arr2 (P := Tryz.prog) Tryz.results133 _ _ w.heap.size 0 5 _ rfl Tryz.underlying80 rfl size_E r1) rfl ?_
        exact ⟨⟨_, ⟨_, rfl⟩, r2⟩, hb7⟩
    all_goals
      go_wp2_with fail
      go_loopw [7, 8, 18] (fun v _ j wr => ∃ u : Nat, u ≤ 8 ∧ j = .int .i64 (u : Int) ∧ (∃ x, v = .int .u64 x) ∧ wr = wz) (fun _ _ j _ => 8 - (intOf j).toNat)
      case atStart => exact ⟨0, by omega, rfl, ⟨_, rfl⟩, rfl⟩
      case round =>
        obtain ⟨u, hu, rfl, ⟨x, rfl⟩, hw⟩ := hrel
        have hw := hw.symm
        subst hw
        by_cases hu7 : u < 7
        · obtain ⟨b0, k0⟩ := hbb.cell (k := u) (by omega)
          obtain ⟨b1, k1⟩ := hbb.cell (k := 6 + u) (by omega)
          obtain ⟨b2, k2⟩ := hbb.cell (k := 12 + u) (by omega)
          obtain ⟨b3, k3⟩ := hbb.cell (k := 19 + u) (by omega)
          obtain ⟨b4, k4⟩ := hbb.cell (k := 25 + u) (by omega)
          obtain ⟨s, hs⟩ : ∃ s : Nat, 8 * u = s := ⟨_, rfl⟩
          have hs1 : (8 : Int) * (u : Int) = (s : Int) := by omega
          go_wp2_with fail
          go_roundw
          case rel => exact ⟨u + 1, by omega, by go_num, ⟨_, rfl⟩, by trivial⟩
          case measure => simp [intOf]; omega
        · by_cases hu8 : u < 8
          · obtain rfl : u = 7 := by omega
            obtain ⟨b0, k0⟩ := hbb.cell (k := 7) (by omega)
            obtain ⟨b1, k1⟩ := hbb.cell (k := 13) (by omega)
            obtain ⟨b2, k2⟩ := hbb.cell (k := 19) (by omega)
            obtain ⟨b3, k3⟩ := hbb.cell (k := 26) (by omega)
            go_wp2_with fail
            go_roundw
            case rel => exact ⟨8, by omega, by go_num, ⟨_, rfl⟩, by trivial⟩
            case measure => simp [intOf]
          · obtain rfl : u = 8 := by omega
            obtain ⟨y0, q0⟩ := kE 0 (by omega)
            obtain ⟨y1, q1⟩ := kE 1 (by omega)
            obtain ⟨y2, q2⟩ := kE 2 (by omega)
            obtain ⟨y3, q3⟩ := kE 3 (by omega)
            obtain ⟨y4, q4⟩ := kE 4 (by omega)
            go_wp2_with fail
            go_roundw
            case rel => first | exact ⟨1, by omega, by omega, rfl, hst _ _⟩ | exact ⟨2, by omega, by omega, rfl, hst _ _⟩ | exact ⟨3, by omega, by omega, rfl, hst _ _⟩ | exact ⟨4, by omega, by omega, rfl, hst _ _⟩ | exact ⟨5, by omega, by omega, rfl, hst _ _⟩
            case measure => simp [intOf]
end Cry
end Go.Proofs.YtgalhnobckoneaaGreatDoor
