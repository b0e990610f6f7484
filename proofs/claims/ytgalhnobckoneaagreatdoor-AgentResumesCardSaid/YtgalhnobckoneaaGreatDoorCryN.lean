/- THE WALKS of the program's field, that they return: Pow, Inv. -/
import Derived.Test.YtgalhnobckoneaaGreatDoorCryM
namespace Go.Proofs.YtgalhnobckoneaaGreatDoor
open Go.RowKit Mem
namespace Cry

set_option maxRecDepth 100000 in
set_option maxHeartbeats 8000000 in
theorem pow_ex (xs : List Int) (hx : xs.length = 5) (ge c : Nat) (l : List Int) (w : World) (hl : l.length = 32) (hE : Blk w ge (i8 l) 5) (hc : 32 ≤ c) : Calls Tryz.prog 137 #[.agg (us xs).toArray, .slice (some ⟨ge, 0, none⟩) 32 c] w (Ans (Uv 5) w) := by
  obtain ⟨W, HW, A0, A1, hbw, hz⟩ := boxes2 w (us xs) 80 (us z5) 80
  have A0 := Blk.ub A0 hx
  have A1 : Ub _ _ 5 _ := Blk.ub A1 rfl
  have hge := hE.lt
  go_enter Tryz.func137, Tryz.ntmps137
  go_upto_region 1 with fail
  rw [show ((w.alloc (.cells (us xs).toArray 80)).alloc (.cells #[.int .u64 0, .int .u64 0, .int .u64 0, .int .u64 0, .int .u64 0] 80)) = W from HW.out]
  clear HW
  go_wp2_with fail
  refine (int_ex 1 (.inr rfl) _).mono ?_
  rintro e w1 ⟨⟨_, rfl, os, ho, rfl⟩, hb1⟩
  have B0 := A0.below hb1
  have B1 := A1.below hb1
  have hw1 := hbw.trans (hb1.mono hbw.size)
  have hs1 := hb1.size
  obtain ⟨W2, HW2, O, hbo, hzo⟩ := boxes1 w1 (us z5) 80
  have O : Ub _ _ 5 _ := Blk.ub O rfl
  obtain ⟨w3, hst, O3, hcg⟩ := O.storeE ho
  have B0 := (B0.below hbo).chg hcg (by simp; omega)
  have B1 := (B1.below hbo).chg hcg (by simp; omega)
  have hw2 := hw1.trans (hbo.mono hw1.size)
  have hw3 : Below w.heap.size w w3 := hw2.trans (hcg.below' hw2.size (by simp; omega))
  have hgo : w.heap.size + 2 ≤ w1.heap.size := by omega
  have hst : (storeE (.pointer (some ⟨w1.heap.size, 0, none⟩)) (.agg (us os).toArray)).run Tryz.prog (w1.alloc (.cells #[.int .u64 0, .int .u64 0, .int .u64 0, .int .u64 0, .int .u64 0] 80)) = .ok () w3 := by
    rw [show (w1.alloc (.cells #[.int .u64 0, .int .u64 0, .int .u64 0, .int .u64 0, .int .u64 0] 80)) = W2 from HW2.out]
    exact hst
  clear HW2 hcg hbo O A0 A1 hb1 hw1 hw2 hzo
  go_wp2_with fail
  generalize w1.heap.size = gO at *
  clear hst
  go_loopw [6, 7] (fun i _ wr => ∃ t : Nat, t ≤ 32 ∧ i = .int .i64 ((t : Int) - 1) ∧ Below w.heap.size w wr ∧ Ub wr w.heap.size 5 80 ∧ Ub wr (w.heap.size + 1) 5 80 ∧ Ub wr gO 5 80) (fun i _ _ => (intOf i + 1).toNat)
  case atStart => exact ⟨32, by omega, rfl, hw3, B0, B1, O3⟩
  case round =>
    clear hw3 B0 B1 O3
    obtain ⟨t, ht, rfl, hbr, B0, B1, O⟩ := hrel
    rcases Nat.eq_zero_or_pos t with rfl | hpos
    · obtain ⟨es, ha, hl⟩ := O.loadE 0 (by omega)
      have hl := hl wr (Below.refl _ _)
      obtain ⟨w2, hst, U2, hcg⟩ := B1.storeE ha
      have hb2 : Below w.heap.size w w2 := hbr.trans (hcg.below' hbr.size (by simp))
      obtain ⟨r1, r2⟩ := U2.res
      go_wp2
      refine bodyPost_ret (results_arr (P := Tryz.prog) Tryz.results137 _ _ (w.heap.size + 1) 0 5 _ rfl Tryz.underlying80 rfl size_E r1) rfl ?_
      exact ⟨⟨_, rfl, r2⟩, hb2⟩
    · obtain ⟨u, rfl⟩ : ∃ u, t = u + 1 := ⟨t - 1, by omega⟩
      have e1 : (((u + 1 : Nat) : Int) - 1) = (u : Int) := by omega
      have hms : Hid ((intOf (Value.int IntKind.i64 ((u : Int) - 1)) + 1).toNat < (intOf (Value.int IntKind.i64 (u : Int)) + 1).toNat) := Lib.hid (by show ((u : Int) - 1 + 1).toNat < ((u : Int) + 1).toNat; omega)
      rw [e1]
      clear e1
      go_wp2_with fail
      go_loopw [7] (fun j wr => ∃ s : Nat, s ≤ 8 ∧ j = .int .i64 ((s : Int) - 1) ∧ Below w.heap.size w wr ∧ Ub wr w.heap.size 5 80 ∧ Ub wr (w.heap.size + 1) 5 80 ∧ Ub wr gO 5 80) (fun j _ => (intOf j + 1).toNat)
      case atStart => exact ⟨8, by omega, rfl, hbr, B0, B1, O⟩
      case round =>
        clear hbr B0 B1 O
        obtain ⟨s, hs, rfl, hbr, B0, B1, O⟩ := hrel
        rcases Nat.eq_zero_or_pos s with rfl | hpos2
        · go_wp2_with fail
          go_roundw
          case rel => exact ⟨u, by omega, rfl, hbr, B0, B1, O⟩
          case measure => exact hms.out
        · obtain ⟨v, rfl⟩ : ∃ v, s = v + 1 := ⟨s - 1, by omega⟩
          have e1 : (((v + 1 : Nat) : Int) - 1) = (v : Int) := by omega
          have hmv : Hid ((intOf (Value.int IntKind.i64 ((v : Int) - 1)) + 1).toNat < (intOf (Value.int IntKind.i64 (v : Int)) + 1).toNat) := Lib.hid (by show ((v : Int) - 1 + 1).toNat < ((v : Int) + 1).toNat; omega)
          rw [e1]
          clear e1
          obtain ⟨es, ha, hl2⟩ := O.loadE 0 (by omega)
          have hl2 := hl2 wr (Below.refl _ _)
          go_wp2_with fail
          refine (mul_ex es es ha ha _).mono ?_
          rintro e w4 ⟨⟨_, rfl, ms, hm, rfl⟩, hb4⟩
          obtain ⟨w5, hst, O5, hcg⟩ := (O.below hb4).storeE hm
          have C0 := (B0.below hb4).chg hcg (by simp; omega)
          have C1 := (B1.below hb4).chg hcg (by simp; omega)
          have hw4 := hbr.trans (hb4.mono hbr.size)
          have hw5 : Below w.heap.size w w5 := hw4.trans (hcg.below' hw4.size (by simp; omega))
          have kE : w5.cell? ⟨ge, u, none⟩ = some (.int .u8 (l.getD u 0)) := (hw5.cell (p := ⟨ge, u, none⟩) hge).trans ((hE.cell u).trans (i8_at l (by omega)))
          clear hl2 hcg hb4 hw4 hbr B0 B1 O
          generalize l.getD u 0 = eb at *
          cases hbb : (bits .and .u8 (eb / 2 ^ v) 1 == 1)
          · go_wp2_with fail
            go_roundw
            case rel => exact ⟨v, by omega, rfl, hw5, C0, C1, O5⟩
            case measure => exact hmv.out
          · obtain ⟨fs, hf, hl3⟩ := O5.loadE 0 (by omega)
            have hl3 := hl3 w5 (Below.refl _ _)
            obtain ⟨gs, hg, hl4⟩ := C0.loadE 0 (by omega)
            have hl4 := hl4 w5 (Below.refl _ _)
            go_wp2_with fail
            refine (mul_ex fs gs hf hg _).mono ?_
            rintro e w6 ⟨⟨_, rfl, ns, hn, rfl⟩, hb6⟩
            obtain ⟨w7, hst7, O7, hcg⟩ := (O5.below hb6).storeE hn
            have D0 := (C0.below hb6).chg hcg (by simp; omega)
            have D1 := (C1.below hb6).chg hcg (by simp; omega)
            have hw6 := hw5.trans (hb6.mono hw5.size)
            have hw7 : Below w.heap.size w w7 := hw6.trans (hcg.below' hw6.size (by simp; omega))
            go_wp2_with fail
            go_roundw
            case rel => exact ⟨v, by omega, rfl, hw7, D0, D1, O7⟩
            case measure => exact hmv.out
end Cry
end Go.Proofs.YtgalhnobckoneaaGreatDoor
