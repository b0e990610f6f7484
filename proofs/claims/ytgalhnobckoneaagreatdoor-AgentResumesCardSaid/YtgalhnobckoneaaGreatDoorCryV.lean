/- THE WALKS, that they return: slices.Grow, Concat, sign.digest, secret, Public. -/
import Derived.Test.YtgalhnobckoneaaGreatDoorCryU
import Derived.Test.YtgalhnobckoneaaGreatDoorCryD
import Derived.Lib.AppendZeros
namespace Go.Proofs.YtgalhnobckoneaaGreatDoor
open Go.RowKit Mem
namespace Cry

set_option maxRecDepth 100000 in
theorem grow_ex (w : World) : Calls Tryz.prog 187 #[.slice none 0 0, .int .i64 32] w fun e w' => ∃ c g, e = .returned (.slice (some ⟨g, 0, none⟩) 0 c) ∧ w'.ownsRow w.heap.size 5 1 (.slice (some ⟨g, 0, none⟩) 0 c) 0 [] ∧ Below w.heap.size w w' := by
  obtain ⟨i0, hi, hz0, hz1, hz2⟩ := info_parts infoU8
  obtain ⟨G, hG⟩ : ∃ G, grownCap w 32 0 5 = G := ⟨_, rfl⟩
  have hG1 : 32 ≤ G := by rw [← hG]; exact grownCap_ge _ _ _ _
  have hG2 : G ≤ maxLen := by rw [← hG]; exact grownCap_le_maxLen _ _ _ _ (by unfold maxLen; omega)
  have hrz : ∀ ty, (Builtin.append_ #[27, 3] ty #[.slice none 0 0, .int .i64 32]).run Tryz.prog w = .ok (.slice (some ⟨w.heap.size, 0, none⟩) 32 G) (w.drew.alloc (.cells (Builtin.zeroCells (.int .u8 0 : Value).cells 32 ++ Builtin.zeroCells (.int .u8 0 : Value).cells (G - 32)) 5)) := fun ty => by
    rw [← hG]
    exact Lib.run_append_nil_zeros (P := Tryz.prog) w 27 3 ty 5 i0 (.int .u8 0) .i64 .i64 Tryz.underlying27 Tryz.underlying3 hi hz0 32 (by omega) (by rw [hz1]; omega) (by omega) (by rw [hz2]; omega)
  obtain ⟨M, hM⟩ : ∃ M : List Value, (Builtin.zeroCells (.int .u8 0 : Value).cells 32 ++ Builtin.zeroCells (.int .u8 0 : Value).cells (G - 32)) = M.toArray := ⟨(Builtin.zeroCells (.int .u8 0 : Value).cells 32 ++ Builtin.zeroCells (.int .u8 0 : Value).cells (G - 32)).toList, by simp⟩
  have hMl : M.length = G := by
    have := congrArg Array.size hM
    rw [Array.size_append, size_zeroCells, size_zeroCells] at this
    have h1 : (Value.int IntKind.u8 0).cells.size = 1 := rfl
    rw [h1] at this
    simp at this
    omega
  rw [hM] at hrz
  have hB := Blk.new w.drew M 5
  have hown := own_of_row (k := 1) (n := 0) (c := G) (xs := []) (Nat.le_refl _) hB (by omega) hG2 (by omega) (by simp)
  have hbw : Below w.heap.size w (w.drew.alloc (.cells M.toArray 5)) := ((Below.refl _ _).drew).alloc (Nat.le_refl _) _
  have hown : (w.drew.alloc (.cells M.toArray 5)).ownsRow w.heap.size 5 1 (.slice (some ⟨w.heap.size, 0, none⟩) 0 G) 0 [] := hown
  obtain ⟨w1, hw1⟩ : ∃ w1, w.drew.alloc (.cells M.toArray 5) = w1 := ⟨_, rfl⟩
  rw [hw1] at hrz hown hbw
  clear hw1 hB hM
  go_enter Tryz.func187, Tryz.ntmps187
  go_wp2_with (at_builtin; refine Lib.wpList_append_run _ rfl _ _ _ _ rfl _ _ rfl rfl _ _ (hrz _) ?_)
  go_wp2
  go_ret
  exact ⟨G, w.heap.size, rfl, hown, hbw⟩
set_option maxRecDepth 100000 in
set_option maxHeartbeats 4000000 in
theorem concat_ex (gs : Nat) (A : Option Addr) (c : Nat) (d : List Int) (w : World) (hs : gs < w.heap.size) (hS : w.cell? ⟨gs, 0, none⟩ = some (.slice A 32 c)) (hd : Vs w w.heap.size 1 A 32 (i8 d)) :
    Calls Tryz.prog 131 #[.slice (some ⟨gs, 0, none⟩) 1 1] w fun e w' => ∃ A' c' l, e = .returned (.slice A' 32 c') ∧ w'.ownsRow w.heap.size 5 1 (.slice A' 32 c') 32 (i8 l) ∧ Below w.heap.size w w' := by
  obtain ⟨i0, hi, hz0, hz1, hz2⟩ := info_parts infoU8
  go_enter Tryz.func131, Tryz.ntmps131
  go_wp2_with fail
  go_loopw [3, 5, 11] (fun sz _ i wr => (sz = .int .i64 0 ∧ i = .int .i64 0 ∨ sz = .int .i64 32 ∧ i = .int .i64 1) ∧ wr = w) (fun _ _ i _ => (1 - intOf i).toNat)
  case atStart => exact ⟨.inl ⟨rfl, rfl⟩, rfl⟩
  case round =>
    obtain ⟨hr, hw⟩ := hrel
    have hw := hw.symm
    subst hw
    rcases hr with ⟨rfl, rfl⟩ | ⟨rfl, rfl⟩
    · go_wp2_with fail
      go_roundw
      case rel => exact ⟨.inr ⟨rfl, rfl⟩, by trivial⟩
      case measure => simp [intOf]
    · go_wp2_with fail
      refine (grow_ex w).mono ?_
      rintro e w1 ⟨c1, g1, rfl, hown, hb1⟩
      go_wp2_with fail
      go_loopw [6, 8, 27] (fun v _ i wr => ∃ (k : Nat) (A5 : Option Addr) (c5 : Nat) (l : List Int), (k = 0 ∧ i = .int .i64 0 ∨ k = 32 ∧ i = .int .i64 1) ∧ v = .slice A5 k c5 ∧ Below w.heap.size w wr ∧ wr.ownsRow w.heap.size 5 1 (.slice A5 k c5) k (i8 l)) (fun _ _ i _ => (1 - intOf i).toNat)
      case atStart => exact ⟨0, _, _, [], .inl ⟨rfl, rfl⟩, rfl, hb1, hown⟩
      case round =>
        clear hown hb1
        obtain ⟨k, A5, c5, l, hr, rfl, hbr, hown⟩ := hrel
        rcases hr with ⟨rfl, rfl⟩ | ⟨rfl, rfl⟩
        · have hS2 : wr.cell? ⟨gs, 0, none⟩ = some (.slice A 32 c) := (hbr.cell (p := ⟨gs, 0, none⟩) hs).trans hS
          have hd2 := vs_below hd hbr
          have h63 : 0 + 32 ≤ maxLen := by unfold maxLen; omega
          have hB0 := hbr.size
          go_wp2_with (at_builtin; go_must (refine wpList_append wr rfl (.tmp 31) (.tmp 32) 27 rfl w.heap.size 5 i0 (.int .u8 0) 1 1 Tryz.underlying27 hi hz0 hz1 hz2 rfl (by omega) _ 0 _ rfl hown _ _ 32 _ _ rfl hd2 (i8_one _) h63 (by omega) hB0 ?_))
          intro A6 c6 w5 hown5 g5 g5' hgr
          have hb5 : Below w.heap.size w w5 := below_grown hbr hgr hB0 hown
          rw [i8_app] at hown5
          clear hown hgr hd2 hS2
          go_wp2
          go_roundw
          case rel => exact ⟨32, A6, c6, _, .inr ⟨rfl, rfl⟩, rfl, hb5, hown5⟩
          case measure => simp [intOf]
        · go_wp2_with fail
          go_ret
          exact ⟨_, _, _, rfl, hown, hbr⟩
set_option maxRecDepth 100000 in
theorem digest_ex (gs : Nat) (A : Option Addr) (c : Nat) (d : List Int) (w : World) (hs : gs < w.heap.size) (hS : w.cell? ⟨gs, 0, none⟩ = some (.slice A 32 c)) (hd : Vs w w.heap.size 1 A 32 (i8 d)) (hT : TabM w) :
    Calls Tryz.prog 75 #[.slice (some ⟨gs, 0, none⟩) 1 1] w fun e w' => ∃ A' c' l, e = .returned (.slice A' 64 c') ∧ 64 ≤ c' ∧ w'.ownsRow w.heap.size 5 1 (.slice A' 64 c') 64 (i8 l) ∧ Below w.heap.size w w' := by
  have hcc := concat_ex gs A c d w hs hS hd
  go_enter Tryz.func75, Tryz.ntmps75
  go_wp2_with fail
  refine hcc.mono ?_
  rintro e w1 ⟨A1, c1, l1, rfl, hown, hb1⟩
  go_wp2_with fail
  refine (sum512_ex A1 c1 l1 w1 (Vs.of_own hown) (hT.below hb1)).mono ?_
  rintro e w2 ⟨A2, c2, l2, rfl, h64, hown2, hb2⟩
  go_wp2
  go_ret
  exact ⟨A2, c2, l2, rfl, h64, own_base hown2 hb1.size, hb1.trans (hb2.mono hb1.size)⟩
theorem Kb.of_own {w : World} {base n c g : Nat} {l : List Int} (h : w.ownsRow base 5 1 (.slice (some ⟨g, 0, none⟩) n c) n (i8 l)) (hn : 0 < n) : Kb w g n := by
  have hl : l.length = n := by have := h.1; rw [i8_length] at this; omega
  obtain ⟨g', he, _, hg⟩ := own_some h hn
  injection he with he
  injection he with he _ _
  subst he
  have hv := Vs.of_own h
  refine ⟨hg, fun {k} hk => ?_, fun {k} hk => ?_⟩
  · obtain ⟨ad, ha, _, hc⟩ := hv.rd k _ (i8_at l (by omega))
    injection ha with ha
    subst ha
    rw [zero_add_] at hc
    exact ⟨_, hc⟩
  · rcases h.2 with ⟨h0, _⟩ | ⟨g2, cap, cur, he, _, hg2, _⟩
    · cases h0
    · injection he with he _ _
      injection he with he
      injection he with he _ _
      subst he
      exact frozen_of_row w _ k cur _ hg2
set_option maxRecDepth 100000 in
set_option maxHeartbeats 4000000 in
theorem secret_ex (A : Option Addr) (c : Nat) (d : List Int) (w : World) (hd : Vs w w.heap.size 1 A 32 (i8 d)) (hT : TabM w) :
    Calls Tryz.prog 39 #[.slice A 32 c] w fun e w' => ∃ g v, e = .returned (.tuple #[.slice (some ⟨g, 0, none⟩) 32 32, v]) ∧ Kb w' g 64 ∧ Below w.heap.size w w' := by
  obtain ⟨W, HW, A0, hbw, hz⟩ := boxes1 w [.slice A 32 c] 27
  have hdg := digest_ex w.heap.size A c d W A0.lt (A0.cell 0) (vs_below hd hbw) (hT.below hbw)
  have hdg : Calls Tryz.prog 75 #[.slice (some ⟨w.heap.size, 0, none⟩) 1 1] (w.alloc (.cells #[.slice A 32 c] 27)) fun e w' => ∃ A' c' l, e = .returned (.slice A' 64 c') ∧ 64 ≤ c' ∧ w'.ownsRow W.heap.size 5 1 (.slice A' 64 c') 64 (i8 l) ∧ Below W.heap.size W w' := by
    rw [show (w.alloc (.cells #[.slice A 32 c] 27)) = W from HW.out]
    exact hdg
  clear HW
  go_enter Tryz.func39, Tryz.ntmps39
  go_wp2_with fail
  refine hdg.mono ?_
  rintro e w1 ⟨A1, c1, l, rfl, h64, hown, hb1⟩
  obtain ⟨g, rfl, hg1, hg2⟩ := own_some hown (by omega)
  have K := Kb.of_own hown (by omega)
  have hbw1 := hbw.trans (hb1.mono hbw.size)
  have hgw : w.heap.size ≤ g := by omega
  clear hown hdg hb1 A0
  obtain ⟨x0, k0⟩ := K.cell (k := 0) (by omega)
  have f0 := K.froz (k := 0) (by omega)
  have K1 := fun x => K.set 0 x
  go_upto_region 3 with fail
  have hb2 := hbw1.setCell (p := ⟨g, 0, none⟩) (by show w.heap.size ≤ g; exact hgw) (.int .u8 (bits .andNot .u8 x0 7))
  have K2 := K1 (bits .andNot .u8 x0 7)
  generalize w1.setCell ⟨g, 0, none⟩ (.int .u8 (bits .andNot .u8 x0 7)) = w2 at *
  clear k0 f0 K K1
  obtain ⟨x1, k1⟩ := K2.cell (k := 31) (by omega)
  have f1 := K2.froz (k := 31) (by omega)
  go_upto_region 4 with fail
  have hb3 := hb2.setCell (p := ⟨g, 31, none⟩) (by show w.heap.size ≤ g; exact hgw) (.int .u8 (bits .andNot .u8 x1 128))
  have K3 := K2.set 31 (bits .andNot .u8 x1 128)
  generalize w2.setCell ⟨g, 31, none⟩ (.int .u8 (bits .andNot .u8 x1 128)) = w3 at *
  clear k1 f1 K2 hb2
  obtain ⟨x2, k2⟩ := K3.cell (k := 31) (by omega)
  have f2 := K3.froz (k := 31) (by omega)
  go_upto_region 5 with fail
  have hb4 := hb3.setCell (p := ⟨g, 31, none⟩) (by show w.heap.size ≤ g; exact hgw) (.int .u8 (bits .or .u8 x2 64))
  have K4 := K3.set 31 (bits .or .u8 x2 64)
  generalize w3.setCell ⟨g, 31, none⟩ (.int .u8 (bits .or .u8 x2 64)) = w4 at *
  clear k2 f2 K3 hb3
  have hc1 : (64 : Int) ≤ (c1 : Int) := by omega
  have hc2 : (32 : Int) ≤ (c1 : Int) := by omega
  go_quiet (fail)
  go_wp2
  go_ret2
  exact ⟨g, _, rfl, K4.below (((Chg.refl [] w4).drewN _).below (by simp)), hb4.trans ((((Chg.refl [] w4).drewN _).below (by simp)).mono hb4.size)⟩
set_option maxRecDepth 100000 in
set_option maxHeartbeats 4000000 in
theorem public_ex (A : Option Addr) (c : Nat) (d : List Int) (w : World) (hd : Vs w w.heap.size 1 A 32 (i8 d)) (hT : TabM w) :
    Calls Tryz.prog 19 #[.slice A 32 c] w fun e w' => ∃ g, w.heap.size ≤ g ∧ e = .returned (.tuple #[.slice (some ⟨g, 0, none⟩) 32 32, .int .i64 0]) ∧ Bb w' g 32 5 ∧ Below w.heap.size w w' := by
  have hse := secret_ex A c d w hd hT
  go_enter Tryz.func19, Tryz.ntmps19
  go_wp2_with fail
  refine hse.mono ?_
  rintro e w1 ⟨g, v, rfl, K, hb1⟩
  go_wp2_with fail
  refine (base_ex _).mono ?_
  rintro e w2 ⟨⟨_, rfl, ps, hp, rfl⟩, hb2⟩
  have K2 := K.below hb2
  go_wp2_with fail
  refine (mulp_ex ps hp g 64 32 w2 K2 (by omega) (by omega)).mono ?_
  rintro e w3 ⟨⟨_, rfl, qs, hq, rfl⟩, hb3⟩
  go_wp2_with fail
  refine (bytesp_ex qs hq _).mono ?_
  rintro e w4 ⟨gb, hgb, rfl, Y, hb4⟩
  have h2 := hb1.trans (hb2.mono hb1.size)
  have h3 := h2.trans (hb3.mono h2.size)
  have h4 := h3.trans (hb4.mono h3.size)
  have hs3 := h3.size
  go_wp2
  go_ret2
  exact ⟨gb, by omega, rfl, Y, h4⟩
end Cry
end Go.Proofs.YtgalhnobckoneaaGreatDoor
