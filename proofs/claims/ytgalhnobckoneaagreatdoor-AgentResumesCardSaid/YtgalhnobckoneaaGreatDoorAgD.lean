/- THE WALKS of the agent's example and of AgentResumes. -/
import Derived.Test.YtgalhnobckoneaaGreatDoorAgC
namespace Go.Proofs.YtgalhnobckoneaaGreatDoor
open Go.RowKit Mem
namespace Ag
open Cry

theorem Yb.vs {w : World} {g n : Nat} {t : TypeId} (h : Yb w g n t) : ∃ l : List Int, Vs w w.heap.size 1 (some ⟨g, 0, none⟩) n (i8 l) := by
  obtain ⟨l, hl, hB⟩ := h
  exact ⟨l, by rw [i8_length]; omega, fun j u hj => ⟨_, rfl, hB.lt, by rw [zero_add_]; exact (hB.cell j).trans hj⟩⟩
set_option maxRecDepth 100000 in
theorem seed_ex (w : World) : Calls Tryz.prog 7 #[.int .i64 0] w fun e w' => ∃ g, e = .returned (.slice (some ⟨g, 0, none⟩) 32 32) ∧ w.heap.size ≤ g ∧ Yb w' g 32 5 ∧ Below w.heap.size w w' := by
  have hmk := make32 w
  have E0 : Yb _ _ 32 _ := ⟨_, rfl, Blk.new w (i8 (List.replicate 32 0)) 5⟩
  have hbm : Below w.heap.size w (w.alloc (.cells (i8 (List.replicate 32 0)).toArray 5)) := (Below.refl _ _).alloc (Nat.le_refl _) _
  obtain ⟨W, hW⟩ : ∃ W, w.alloc (.cells (i8 (List.replicate 32 0)).toArray 5) = W := ⟨_, rfl⟩
  rw [hW] at hmk E0 hbm
  obtain ⟨x, hx⟩ := E0.cell (k := 0) (by omega)
  obtain ⟨y, hy⟩ := (E0.set 0 0).cell (k := 5) (by omega)
  obtain ⟨z, hz⟩ := E0.cell (k := 5) (by omega)
  have f := fun k => E0.froz k
  have E2 := (E0.set 0 0).set 5 77
  have hb2 := (hbm.setCell (p := ⟨w.heap.size, 0, none⟩) (Nat.le_refl _) (.int .u8 0)).setCell (p := ⟨w.heap.size, 5, none⟩) (Nat.le_refl _) (.int .u8 77)
  clear hW E0
  go_enter Tryz.func7, Tryz.ntmps7
  go_wp2
  go_ret
  exact ⟨_, rfl, Nat.le_refl _, E2, hb2⟩
theorem name_ex (w : World) : Calls Tryz.prog 6 #[.int .i64 0] w fun e w' => e = .returned (.string (str [47, 97, 103, 101, 110, 116, 47, 97])) ∧ Below w.heap.size w w' := by
  obtain ⟨W, HW, N, hbw, hz⟩ := boxes1 w (bv [97]) 5
  have hB : Bb W w.heap.size 1 5 := ⟨[97], rfl, N⟩
  have hbs : Bs W W.heap.size (some ⟨w.heap.size, 0, none⟩) 1 [97] := ⟨rfl, fun j u hj => ⟨_, rfl, N.lt, by rw [zero_add_]; exact (N.cell j).trans hj⟩⟩
  have hcv := conv8 hbs 1
  have hcv : (convert 27 9 (.slice (some ⟨w.heap.size, 0, none⟩) 1 1)).run Tryz.prog (w.alloc (.cells #[.int .u8 97] 5)) = .ok (.string ⟨#[97]⟩) (w.alloc (.cells #[.int .u8 97] 5)) := by
    rw [show (w.alloc (.cells #[.int .u8 97] 5)) = W from HW.out]
    exact hcv
  go_enter Tryz.func6, Tryz.ntmps6
  go_wp2
  go_ret
  rw [show (w.alloc (.cells #[.int .u8 97] 5)) = W from HW.out]
  exact ⟨rfl, hbw⟩
def dom : List UInt8 := [97, 46, 111, 114, 103]
def path : List UInt8 := [47, 97, 103, 101, 110, 116, 47, 97]
theorem dom_ok : Ids.domain dom = true := by decide +kernel
theorem path_ok : Ids.agent path = true := by decide +kernel
set_option maxRecDepth 100000 in
set_option maxHeartbeats 8000000 in
theorem lives_any (w : World) (hT : TabM w) : Calls Tryz.prog 10 #[] w fun e w' => e = .returned (.bool true) ∧ Below w.heap.size w w' := by
  have hmk := make32 w
  have E0 : Yb _ _ 32 _ := ⟨_, rfl, Blk.new w (i8 (List.replicate 32 0)) 5⟩
  have hbm : Below w.heap.size w (w.alloc (.cells (i8 (List.replicate 32 0)).toArray 5)) := (Below.refl _ _).alloc (Nat.le_refl _) _
  obtain ⟨W, hW⟩ : ∃ W, w.alloc (.cells (i8 (List.replicate 32 0)).toArray 5) = W := ⟨_, rfl⟩
  rw [hW] at hmk E0 hbm
  obtain ⟨l, hl⟩ := Yb.vs E0
  have hnw := new_nil dom path dom_ok path_ok (by decide) (by decide) (some ⟨w.heap.size, 0, none⟩) 32 l W hl (hT.below hbm)
  have hnw : Calls Tryz.prog 5 #[.string ⟨#[97, 46, 111, 114, 103]⟩, .string ⟨#[47, 97, 103, 101, 110, 116, 47, 97]⟩, .slice (some ⟨w.heap.size, 0, none⟩) 32 32, .string ⟨#[]⟩, .string ⟨#[]⟩, .slice none 0 0] W _ := hnw
  clear hW E0 hl
  go_enter Tryz.func10, Tryz.ntmps10
  go_wp2_with fail
  refine hnw.mono ?_
  rintro e w1 ⟨g, rfl, hA, hb1⟩
  have hw1 := hbm.trans (hb1.mono hbm.size)
  have hgw : w.heap.size ≤ g := by have := hA.ge; have := hbm.size; omega
  clear hnw hmk hb1
  go_wp2_with fail
  refine (fetch_none hA _ _).mono ?_
  rintro e w2 ⟨rfl, hb2⟩
  have hA2 := hA.below hb2
  have hw2 := hw1.trans (hb2.mono hw1.size)
  go_wp2_with fail
  refine (validate_nil g _ _ _).mono ?_
  rintro e w3 ⟨rfl, hb3⟩
  have hA3 := hA2.below hb3
  have hw3 := hw2.trans (hb3.mono hw2.size)
  clear hA hA2 hb2 hb3 hw1 hw2
  go_wp2_with fail
  refine (poll_first hA3).mono ?_
  rintro e w4 ⟨rfl, hc4⟩
  have hw4 := hw3.trans (hc4.below' hw3.size (by simp; exact hgw))
  go_wp2
  go_ret
  exact ⟨rfl, hw4⟩
set_option maxRecDepth 100000 in
set_option maxHeartbeats 8000000 in
theorem agentResumes_in (s u q : Int) (w : World) (hT : TabM w) : Calls Tryz.prog 3 #[.int .i64 s, .int .i64 u, .int .i64 q] w fun e w' => e = .returned (.bool true) ∧ Below w.heap.size w w' := by
  go_enter Tryz.func3, Tryz.ntmps3
  go_wp2_with fail
  refine (name_ex w).mono ?_
  rintro e w1 ⟨rfl, hb1⟩
  go_wp2_with fail
  refine (seed_ex w1).mono ?_
  rintro e w2 ⟨gs, rfl, hgs, hS, hb2⟩
  have hw2 := hb1.trans (hb2.mono hb1.size)
  obtain ⟨l, hl⟩ := Yb.vs hS
  have hnw := new_nil dom path dom_ok path_ok (by decide) (by decide) (some ⟨gs, 0, none⟩) 32 l w2 hl (hT.below hw2)
  have hnw : Calls Tryz.prog 5 #[.string ⟨#[97, 46, 111, 114, 103]⟩, .string (str [47, 97, 103, 101, 110, 116, 47, 97]), .slice (some ⟨gs, 0, none⟩) 32 32, .string ⟨#[]⟩, .string ⟨#[]⟩, .slice none 0 0] w2 _ := hnw
  go_wp2_with fail
  refine hnw.mono ?_
  rintro e w3 ⟨g, rfl, hA, hb3⟩
  have hw3 := hw2.trans (hb3.mono hw2.size)
  have hgw : w.heap.size ≤ g := by have := hA.ge; have := hw2.size; omega
  have hlv := fun W (h : Below w.heap.size w W) => lives_any W (hT.below h)
  clear hnw hb1 hb2 hb3 hw2 hS hl
  by_cases hm : May s u q
  · go_wp2_with fail
    refine (resume_ok hA s u q hm).mono ?_
    rintro e w4 ⟨rfl, hA4, hc4⟩
    have hw4 := hw3.trans (hc4.below' hw3.size (by simp; exact hgw))
    go_wp2_with fail
    refine (saved_any hA4).mono ?_
    rintro e w5 ⟨rfl, hb5⟩
    have hA5 := hA4.below hb5
    have hw5 := hw4.trans (hb5.mono hw4.size)
    obtain ⟨m1, m2, m3, m4, m5, m6⟩ := hm
    have hat := attested_any hA5 s
    have hlv5 := hlv w5 hw5
    clear hlv hA hA4 hA5 hc4 hb5 hw3 hw4
    have hq : (decide (0 < u) && !decide (u ≤ s)) = decide (s < u) := by
      by_cases hsu : s < u
      · simp [hsu]; omega
      · simp [hsu]; omega
    rw [hq] at hat
    go_wp2_with fail
    refine hat.mono ?_
    rintro e w6 ⟨rfl, hw⟩
    have := hw.symm
    subst this
    go_wp2_with fail
    refine hlv5.mono ?_
    rintro e w7 ⟨rfl, hb7⟩
    go_wp2
    go_ret
    exact ⟨rfl, hw5.trans (hb7.mono hw5.size)⟩
  · go_wp2_with fail
    refine (resume_no hA s u q hm).mono ?_
    rintro e w4 ⟨rfl, hA4, hc4⟩
    have hw4 := hw3.trans (hc4.below' hw3.size (by simp; exact hgw))
    go_wp2_with fail
    refine (saved_any hA4).mono ?_
    rintro e w5 ⟨rfl, hb5⟩
    have hw5 := hw4.trans (hb5.mono hw4.size)
    have hlv5 := hlv w5 hw5
    have hc := not_may hm
    clear hlv hA hA4 hc4 hb5 hw3 hw4 hm
    rcases hc with m1 | ⟨m1, m2⟩ | ⟨m1, m2, m3⟩ | ⟨m1, m2, m3, m4⟩ | ⟨m1, m2, m3, m4, m5⟩ | ⟨m1, m2, m3, m4, m5, m6⟩
    all_goals
      go_wp2_with fail
      refine hlv5.mono ?_
      rintro e w7 ⟨rfl, hb7⟩
      go_wp2
      go_ret
      exact ⟨rfl, hw5.trans (hb7.mono hw5.size)⟩
end Ag
end Go.Proofs.YtgalhnobckoneaaGreatDoor
