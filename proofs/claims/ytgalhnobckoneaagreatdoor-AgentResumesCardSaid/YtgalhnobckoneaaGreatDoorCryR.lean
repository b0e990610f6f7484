/- THE WALKS, that they return: slices.Reverse, field.Read. -/
import Derived.Test.YtgalhnobckoneaaGreatDoorCryP
import Derived.Test.YtgalhnobckoneaaGreatDoorCryQ
import Derived.Test.YtgalhnobckoneaaGreatDoorMixF
namespace Go.Proofs.YtgalhnobckoneaaGreatDoor
open Go.RowKit Mem
namespace Cry

set_option maxRecDepth 100000 in
set_option maxHeartbeats 4000000 in
theorem rev_ex (g : Nat) (t0 : TypeId) (w : World) (h : Bb w g 32 t0) : Calls Tryz.prog 132 #[.slice (some ⟨g, 0, none⟩) 32 32] w fun e w' => e = .returned (.tuple #[]) ∧ Bb w' g 32 t0 ∧ Chg [g] w w' := by
  go_enter Tryz.func132, Tryz.ntmps132
  go_wp2_with fail
  go_loopw [2, 3] (fun i j wr => ∃ t : Nat, t ≤ 16 ∧ i = .int .i64 (t : Int) ∧ j = .int .i64 (31 - (t : Int)) ∧ Bb wr g 32 t0 ∧ Chg [g] w wr) (fun i _ _ => 16 - (intOf i).toNat)
  case atStart => exact ⟨0, by omega, rfl, rfl, h, Chg.refl _ _⟩
  case round =>
    obtain ⟨t, ht, rfl, rfl, B, hc⟩ := hrel
    obtain ⟨wz, hwz⟩ : ∃ wz, wz = wr := ⟨_, rfl⟩
    subst hwz
    by_cases hlt : t < 16
    · obtain ⟨s, hs⟩ : ∃ s : Nat, s + t = 31 := ⟨31 - t, by omega⟩
      have hs1 : (31 : Int) - (t : Int) = (s : Int) := by omega
      have hts : (t : Int) < (s : Int) := by omega
      obtain ⟨l, hl, hB⟩ := B
      obtain ⟨x, hx⟩ : ∃ x, l[t]? = some x := ⟨_, List.getElem?_eq_getElem (by omega)⟩
      obtain ⟨y, hy⟩ : ∃ y, l[s]? = some y := ⟨_, List.getElem?_eq_getElem (by omega)⟩
      have k0 : ∀ p, (Batch.grew wz p).cell? ⟨g, t, none⟩ = some (.int .u8 ((x.toNat : Nat) : Int)) := fun p => (Batch.grew_cell (a := ⟨g, t, none⟩) hB.lt p).trans ((hB.cell t).trans (by rw [bv_at, hx]; rfl))
      have k1 : ∀ p, (Batch.grew wz p).cell? ⟨g, s, none⟩ = some (.int .u8 ((y.toNat : Nat) : Int)) := fun p => (Batch.grew_cell (a := ⟨g, s, none⟩) hB.lt p).trans ((hB.cell s).trans (by rw [bv_at, hy]; rfl))
      have hsub : (s : Int) - 1 = 31 - ((t + 1 : Nat) : Int) := by omega
      have HSUB := Lib.hid hsub
      rw [hs1]
      clear hs1 hsub
      go_upto_region 3 with fail
      refine Batch.wp_region_grew_move [2, 3] [0, 1, 4, 5, 6, 7, 8, 9, 10, 11] 12 (by kernel_rfl) (by kernel_rfl) ?_
      simp only [Batch.pick, List.getD_cons_zero, List.getD_cons_succ, List.drop_succ_cons, List.drop_zero]
      repeat (go_big_quiet_step (fail))
      refine wpQuiet_nil ?_
      repeat (go_big_quiet_step (fail))
      refine wpQuiet_nil ?_
      rintro _ ⟨p, rfl⟩
      have hbp := Batch.grew_below wz p
      have G := hB.below hbp
      have kc := k0 p
      have kd := k1 p
      have kf := fun k => G.froz k
      have hcg := hc.and_below hbp
      clear k0 k1 hB hc hbp
      generalize Batch.grew wz p = wq at *
      have ke : ∀ v, (wq.setCell ⟨g, t, none⟩ v).cell? ⟨g, s, none⟩ = some (.int .u8 ((y.toNat : Nat) : Int)) := fun v => (setc_ne _ _ _ _ _ (by omega)).trans kd
      go_wp2_with fail
      (try rw [Batch.Qn_normal])
      (try go_wp2)
      go_roundw
      case rel => exact ⟨t + 1, by omega, by go_num, by rw [← HSUB.out], ⟨(l.set t y).set s x, by simpa using hl, by rw [← bv_set, ← bv_set]; exact (G.set t _).set s _⟩, (hcg.setCell (.inl (by simp)) _).setCell (.inl (by simp)) _⟩
      case measure => simp [intOf]; omega
    · obtain rfl : t = 16 := by omega
      go_wp2_with fail
      go_end0
      exact ⟨rfl, B, hc⟩
end Cry
end Go.Proofs.YtgalhnobckoneaaGreatDoor
