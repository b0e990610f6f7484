/- THE WALKS of the agent: Resume, Saved, Poll at first, Fetch and Validate where nothing is attested. -/
import Derived.Test.YtgalhnobckoneaaGreatDoorAgA
namespace Go.Proofs.YtgalhnobckoneaaGreatDoor
open Go.RowKit Mem
namespace Ag
open Cry

section
variable {w w' : World} {B g : Nat} {held : Value} {seq turn since till : Int}
theorem At.ge (h : At w B g held seq turn since till) : B ≤ g := by obtain ⟨_, _, _, _, _, _, h1, _⟩ := h; exact h1
theorem At.sz (h : At w B g held seq turn since till) : g < w.heap.size := by obtain ⟨_, _, _, _, _, _, _, _, _, h4, _⟩ := h; exact h4.lt
end
/-- What may be saved. -/
def May (s u q : Int) : Prop := 0 ≤ s ∧ 0 ≤ u ∧ 0 ≤ q ∧ s ≤ 1099511627776 ∧ u ≤ 1099511627776 ∧ q ≤ 1099511627776
theorem not_may {s u q : Int} (h : ¬ May s u q) : s < 0 ∨ (0 ≤ s ∧ u < 0) ∨ (0 ≤ s ∧ 0 ≤ u ∧ q < 0) ∨ (0 ≤ s ∧ 0 ≤ u ∧ 0 ≤ q ∧ 1099511627776 < s) ∨ (0 ≤ s ∧ 0 ≤ u ∧ 0 ≤ q ∧ s ≤ 1099511627776 ∧ 1099511627776 < u) ∨ (0 ≤ s ∧ 0 ≤ u ∧ 0 ≤ q ∧ s ≤ 1099511627776 ∧ u ≤ 1099511627776 ∧ 1099511627776 < q) := by
  unfold May at h
  omega
set_option maxRecDepth 100000 in
set_option maxHeartbeats 4000000 in
theorem resume_ok {w : World} {B g : Nat} {held : Value} {seq turn since till : Int} (h : At w B g held seq turn since till) (s u q : Int) (hm : May s u q) : Calls Tryz.prog 8 #[.pointer (some ⟨g, 0, none⟩), .int .i64 s, .int .i64 u, .int .i64 q] w fun e w' => e = .returned (.tuple #[]) ∧ At w' B g held q turn s u ∧ Chg [g] w w' := by
  obtain ⟨dom, path, sv, pub, mp, gc, h1, h2, h3, h4, h5⟩ := h
  have k7 : w.cell? ⟨g, 7, none⟩ = some (.int .i64 seq) := h4.cell 7
  have k11 : w.cell? ⟨g, 11, none⟩ = some (.int .i64 since) := h4.cell 11
  have k12 : w.cell? ⟨g, 12, none⟩ = some (.int .i64 till) := h4.cell 12
  have f := fun k => h4.froz k
  have b3 := ((h4.set 11 (.int .i64 s)).set 12 (.int .i64 u)).set 7 (.int .i64 q)
  have c3 := ((h5.set_ne (p := ⟨g, 11, none⟩) h3 (.int .i64 s)).set_ne (p := ⟨g, 12, none⟩) h3 (.int .i64 u)).set_ne (p := ⟨g, 7, none⟩) h3 (.int .i64 q)
  have hc := (((Chg.refl [g] w).setCell (p := ⟨g, 11, none⟩) (.inl (by simp)) (.int .i64 s)).setCell (p := ⟨g, 12, none⟩) (.inl (by simp)) (.int .i64 u)).setCell (p := ⟨g, 7, none⟩) (.inl (by simp)) (.int .i64 q)
  have hAt : At (((w.setCell ⟨g, 11, none⟩ (.int .i64 s)).setCell ⟨g, 12, none⟩ (.int .i64 u)).setCell ⟨g, 7, none⟩ (.int .i64 q)) B g held q turn s u := ⟨dom, path, sv, pub, mp, gc, h1, h2, h3, b3, c3⟩
  obtain ⟨m1, m2, m3, m4, m5, m6⟩ := hm
  clear h4 h5 b3 c3
  go_enter Tryz.func8, Tryz.ntmps8
  go_wp2
  go_end0
  exact ⟨rfl, hAt, hc⟩
set_option maxRecDepth 100000 in
set_option maxHeartbeats 4000000 in
theorem resume_no {w : World} {B g : Nat} {held : Value} {seq turn since till : Int} (h : At w B g held seq turn since till) (s u q : Int) (hm : ¬ May s u q) : Calls Tryz.prog 8 #[.pointer (some ⟨g, 0, none⟩), .int .i64 s, .int .i64 u, .int .i64 q] w fun e w' => e = .returned (.tuple #[]) ∧ At w' B g held seq turn since till ∧ Chg [g] w w' := by
  have hc := not_may hm
  clear hm
  rcases hc with m1 | ⟨m1, m2⟩ | ⟨m1, m2, m3⟩ | ⟨m1, m2, m3, m4⟩ | ⟨m1, m2, m3, m4, m5⟩ | ⟨m1, m2, m3, m4, m5, m6⟩
  all_goals
    go_enter Tryz.func8, Tryz.ntmps8
    go_wp2
    go_end0
    exact ⟨rfl, h, Chg.refl _ _⟩
set_option maxRecDepth 100000 in
theorem saved_any {w : World} {B g : Nat} {held : Value} {seq turn since till : Int} (h : At w B g held seq turn since till) : Calls Tryz.prog 9 #[.pointer (some ⟨g, 0, none⟩)] w fun e w' => e = .returned (.tuple #[.int .i64 since, .int .i64 till, .int .i64 seq]) ∧ Below w.heap.size w w' := by
  obtain ⟨dom, path, sv, pub, mp, gc, h1, h2, h3, h4, h5⟩ := h
  have k7 : w.cell? ⟨g, 7, none⟩ = some (.int .i64 seq) := h4.cell 7
  have k11 : w.cell? ⟨g, 11, none⟩ = some (.int .i64 since) := h4.cell 11
  have k12 : w.cell? ⟨g, 12, none⟩ = some (.int .i64 till) := h4.cell 12
  go_enter Tryz.func9, Tryz.ntmps9
  go_upto_region 1 with fail
  go_quiet (fail)
  go_wp2
  go_ret3
  exact ⟨rfl, ((Chg.refl [] w).drewN _).below (by simp)⟩
theorem cloneK_nil (w : World) : Calls Tryz.prog 106 #[.slice none 0 0] w fun e w' => e = .returned (.slice none 0 0) ∧ w' = w := by
  have hnil : ∀ W, (Go.binOp .eql 92 (.slice none 0 0) (.slice none 0 0)).run Tryz.prog W = .ok (.bool true) W := fun W => by kernel_rfl
  go_enter Tryz.func106, Tryz.ntmps106
  go_wp2
  go_ret
  exact ⟨rfl, rfl⟩
theorem idxK_nil (f : Value) (w : World) : Calls Tryz.prog 54 #[.slice none 0 0, f] w fun e w' => e = .returned (.int .i64 (-1)) ∧ w' = w := by
  go_enter Tryz.func54, Tryz.ntmps54
  go_wp2_with fail
  go_loopw [5, 8] (fun _ i wr => i = .int .i64 0 ∧ wr = w) (fun _ _ _ => 0)
  case atStart => exact ⟨rfl, rfl⟩
  case round =>
    obtain ⟨rfl, hw⟩ := hrel
    have hw := hw.symm
    subst hw
    go_wp2
    go_ret
    exact ⟨rfl, rfl⟩
theorem delK_nil (f : Value) (w : World) : Calls Tryz.prog 171 #[.slice none 0 0, f] w fun e w' => e = .returned (.slice none 0 0) ∧ w' = w := by
  have hi := idxK_nil f w
  go_enter Tryz.func171, Tryz.ntmps171
  go_wp2_with fail
  refine hi.mono ?_
  rintro e w1 ⟨rfl, hw⟩
  have := hw.symm
  subst this
  go_wp2
  go_ret
  exact ⟨rfl, rfl⟩
theorem due_nil (gc : Nat) (now : Int) (w : World) (hC : Blk w gc [.slice none 0 0, .int .i64 0] 94) : Calls Tryz.prog 122 #[.pointer (some ⟨gc, 0, none⟩), .int .i64 now] w fun e w' => e = .returned (.slice none 0 0) ∧ Below w.heap.size w w' := by
  obtain ⟨W, HW, N, hbw, hz⟩ := boxes1 w [.int .i64 now] 3
  have k0 : W.cell? ⟨gc, 0, none⟩ = some (.slice none 0 0) := (hC.below hbw).cell 0
  have hall : Calls Tryz.prog 55 #[.pointer (some ⟨gc, 0, none⟩)] W fun e w' => e = .returned (.slice none 0 0) ∧ w' = W := by
    go_enter Tryz.func55, Tryz.ntmps55
    go_wp2_with fail
    refine (cloneK_nil W).mono ?_
    rintro e w1 ⟨rfl, hw⟩
    have := hw.symm
    subst this
    go_wp2
    go_ret
    exact ⟨rfl, rfl⟩
  go_enter Tryz.func122, Tryz.ntmps122
  go_upto_region 1 with fail
  rw [show (w.alloc (.cells #[.int .i64 now] 3)) = W from HW.out]
  clear HW
  go_wp2_with fail
  refine hall.mono ?_
  rintro e w1 ⟨rfl, hw⟩
  have := hw.symm
  subst this
  go_wp2_with fail
  refine (delK_nil _ _).mono ?_
  rintro e w2 ⟨rfl, hw⟩
  have := hw.symm
  subst this
  go_wp2
  go_ret
  exact ⟨rfl, hbw⟩
set_option maxRecDepth 100000 in
set_option maxHeartbeats 4000000 in
theorem next_none {w : World} {B g : Nat} {held : Value} {seq turn since till : Int} (h : At w B g held seq turn since till) (now : Int) : Calls Tryz.prog 67 #[.pointer (some ⟨g, 0, none⟩), .int .i64 now] w fun e w' => e = .returned (.tuple #[.agg #[.int .i64 0, .string ⟨#[]⟩], .bool false]) ∧ Below w.heap.size w w' := by
  obtain ⟨dom, path, sv, pub, mp, gc, h1, h2, h3, h4, h5⟩ := h
  obtain ⟨W, HW, R, hbw, hz⟩ := boxes1 w [.int .i64 0, .string ⟨#[]⟩] 106
  have h4 := h4.below hbw
  have h5 := h5.below hbw
  have k15 : W.cell? ⟨g, 15, none⟩ = some (.pointer (some ⟨gc, 0, none⟩)) := h4.cell 15
  have k16 : W.cell? ⟨g, 16, none⟩ = some (.slice none 0 0) := h4.cell 16
  go_enter Tryz.func67, Tryz.ntmps67
  go_upto_region 1 with fail
  rw [show (w.alloc (.cells #[.int .i64 0, .string ⟨#[]⟩] 106)) = W from HW.out]
  clear HW
  go_wp2_with fail
  refine (due_nil gc now W h5).mono ?_
  rintro e w1 ⟨rfl, hb1⟩
  have R1 := R.below hb1
  have x0 : w1.cell? ⟨w.heap.size, 0, none⟩ = some (.int .i64 0) := R1.cell 0
  have x1 : w1.cell? ⟨w.heap.size, 1, none⟩ = some (.string ⟨#[]⟩) := R1.cell 1
  have f0 := R1.froz 0
  have f1 := R1.froz 1
  have R2 := (R1.set 0 (.int .i64 0)).set 1 (.string ⟨#[]⟩)
  have hb2 := hbw.trans (hb1.mono hbw.size)
  have hb3 := (hb2.setCell (p := ⟨w.heap.size, 0, none⟩) (Nat.le_refl _) (.int .i64 0)).setCell (p := ⟨w.heap.size, 1, none⟩) (Nat.le_refl _) (.string ⟨#[]⟩)
  have r1 := blk_has R2 (n := 2) rfl
  have r2 := blk_arr R2 (n := 2) rfl
  go_wp2
  refine bodyPost_ret (results_arr2 (P := Tryz.prog) Tryz.results67 _ _ w.heap.size 0 2 _ rfl Tryz.underlying106 rfl (by kernel_rfl) r1) rfl ?_
  exact ⟨by rw [r2]; rfl, hb3⟩
theorem prove_none {w : World} {B g : Nat} {held : Value} {seq turn since till : Int} (h : At w B g held seq turn since till) : Calls Tryz.prog 69 #[.pointer (some ⟨g, 0, none⟩)] w fun e w' => e = .returned (.slice none 0 0) ∧ w' = w := by
  obtain ⟨dom, path, sv, pub, mp, gc, h1, h2, h3, h4, h5⟩ := h
  have k10 : w.cell? ⟨g, 10, none⟩ = some (.string ⟨#[]⟩) := h4.cell 10
  have k5 : w.cell? ⟨g, 5, none⟩ = some (.string ⟨#[]⟩) := h4.cell 5
  have k4 : w.cell? ⟨g, 4, none⟩ = some (.string ⟨#[]⟩) := h4.cell 4
  go_enter Tryz.func69, Tryz.ntmps69
  go_wp2
  go_ret
  exact ⟨rfl, rfl⟩
set_option maxRecDepth 100000 in
set_option maxHeartbeats 4000000 in
theorem poll_first {w : World} {B g : Nat} {held : Value} {since : Int} (h : At w B g held 0 0 since 0) : Calls Tryz.prog 27 #[.pointer (some ⟨g, 0, none⟩), .int .i64 1] w fun e w' => e = .returned (.slice none 0 0) ∧ Chg [g] w w' := by
  have hgs := h.sz
  obtain ⟨dom, path, sv, pub, mp, gc, h1, h2, h3, h4, h5⟩ := h
  have k7 : w.cell? ⟨g, 7, none⟩ = some (.int .i64 0) := h4.cell 7
  have k8 : w.cell? ⟨g, 8, none⟩ = some (.int .i64 0) := h4.cell 8
  have f8 := h4.froz 8
  have b1 := h4.set 8 (.int .i64 1)
  have c1 := h5.set_ne (p := ⟨g, 8, none⟩) h3 (.int .i64 1)
  have hc := (Chg.refl [g] w).setCell (p := ⟨g, 8, none⟩) (.inl (by simp)) (.int .i64 1)
  have hA : At (w.setCell ⟨g, 8, none⟩ (.int .i64 1)) B g held 0 1 since 0 := ⟨dom, path, sv, pub, mp, gc, h1, h2, h3, b1, c1⟩
  obtain ⟨w1, hw1⟩ : ∃ w1, w.setCell ⟨g, 8, none⟩ (.int .i64 1) = w1 := ⟨_, rfl⟩
  rw [hw1] at hA hc
  have HW := Lib.hid hw1
  clear hw1 b1 c1 h4 h5
  go_enter Tryz.func27, Tryz.ntmps27
  go_upto_region 4 with fail
  rw [HW.out]
  clear HW k7 k8 f8
  go_wp2_with fail
  refine (next_none hA 1).mono ?_
  rintro e w2 ⟨rfl, hb2⟩
  obtain ⟨W3, HW3, R3, hb3, hz3⟩ := boxes1 w2 [.int .i64 0, .string ⟨#[]⟩] 106
  have hA2 := hA.below hb2
  have hA3 := hA2.below hb3
  have hg2 := hA2.sz
  have x0 : W3.cell? ⟨w2.heap.size, 0, none⟩ = some (.int .i64 0) := R3.cell 0
  have x1 : W3.cell? ⟨w2.heap.size, 1, none⟩ = some (.string ⟨#[]⟩) := R3.cell 1
  have f0 := R3.froz 0
  have f1 := R3.froz 1
  have hc4 : Chg [g] w W3 := (hc.and_below hb2).and_below hb3
  clear hA hA2 hc hb2
  have k8 : W3.cell? ⟨g, 8, none⟩ = some (.int .i64 1) := by
    obtain ⟨_, _, _, _, _, _, _, _, _, h4, _⟩ := hA3
    exact h4.cell 8
  go_upto_region 5 with fail
  rw [show (w2.alloc (.cells #[.int .i64 0, .string ⟨#[]⟩] 106)) = W3 from HW3.out]
  clear HW3 x0 x1 f0 f1 R3 hb3
  go_wp2_with fail
  refine (attested_any hA3 1).mono ?_
  rintro e w5 ⟨rfl, hw⟩
  have := hw.symm
  subst this
  go_wp2_with fail
  refine (prove_none hA3).mono ?_
  rintro e w5 ⟨rfl, hw⟩
  have := hw.symm
  subst this
  go_wp2
  go_ret
  exact ⟨rfl, hc4⟩
set_option maxRecDepth 100000 in
set_option maxHeartbeats 4000000 in
theorem fetch_none {w : World} {B g : Nat} {held : Value} {seq turn since : Int} (h : At w B g held seq turn since 0) (s : ByteArray) (now : Int) : Calls Tryz.prog 25 #[.pointer (some ⟨g, 0, none⟩), .slice none 0 0, .string s, .int .i64 now] w fun e w' => e = .returned (.tuple #[.string ⟨#[]⟩, .int .i64 24]) ∧ Below w.heap.size w w' := by
  obtain ⟨W, HW, N, N2, hbw, hz⟩ := boxes2 w [.slice none 0 0] 71 [.string s] 9
  have hA := h.below hbw
  go_enter Tryz.func25, Tryz.ntmps25
  go_upto_region 1 with fail
  rw [show ((w.alloc (.cells #[.slice none 0 0] 71)).alloc (.cells #[.string s] 9)) = W from HW.out]
  clear HW
  go_wp2_with fail
  refine (attested_any hA now).mono ?_
  rintro e w5 ⟨rfl, hw⟩
  have := hw.symm
  subst this
  go_wp2
  go_ret2
  exact ⟨rfl, hbw⟩
end Ag
end Go.Proofs.YtgalhnobckoneaaGreatDoor
