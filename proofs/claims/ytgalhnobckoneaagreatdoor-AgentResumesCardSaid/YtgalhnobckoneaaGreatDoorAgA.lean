/- THE WALKS of the agent: New (no bundles), Resume, Saved, Attested. -/
import Derived.Test.YtgalhnobckoneaaGreatDoorCryV
import Derived.Test.YtgalhnobckoneaaGreatDoorIdsAll
import Derived.Test.YtgalhnobckoneaaGreatDoorMixF
import Derived.Carry
namespace Go.Proofs.YtgalhnobckoneaaGreatDoor
open Go.RowKit Mem
namespace Ag
open Cry

/-- An agent's cells. -/
def cells (dom path : ByteArray) (sv : Value) (pub : ByteArray) (held mp cp : Value) (seq turn since till : Int) : List Value :=
  [.string dom, .string path, sv, .string pub, .string ⟨#[]⟩, .string ⟨#[]⟩, held, .int .i64 seq, .int .i64 turn, mp, .string ⟨#[]⟩, .int .i64 since, .int .i64 till, .bool false, .slice none 0 0, cp, .slice none 0 0]
/-- An agent in memory: no doc, no token, no entries, no wants; its cache is empty. -/
def At (w : World) (B g : Nat) (held : Value) (seq turn since till : Int) : Prop :=
  ∃ dom path sv pub mp gc, B ≤ g ∧ B ≤ gc ∧ gc ≠ g ∧ Blk w g (cells dom path sv pub held mp (.pointer (some ⟨gc, 0, none⟩)) seq turn since till) 56 ∧ Blk w gc [.slice none 0 0, .int .i64 0] 94
section
variable {w w' : World} {B g : Nat} {held : Value} {seq turn since till : Int}
theorem At.below (h : At w B g held seq turn since till) (hb : Below w.heap.size w w') : At w' B g held seq turn since till := by
  obtain ⟨dom, path, sv, pub, mp, gc, h1, h2, h3, h4, h5⟩ := h
  exact ⟨dom, path, sv, pub, mp, gc, h1, h2, h3, h4.below hb, h5.below hb⟩
end
set_option maxRecDepth 100000 in
theorem cloneB_ex (A : Option Addr) (c : Nat) (d : List Int) (w : World) (hd : Vs w w.heap.size 1 A 32 (i8 d)) : Calls Tryz.prog 22 #[.slice A 32 c] w fun e w' => (∃ v, e = .returned v ∧ ∃ A' n' c', v = .slice A' n' c') ∧ Below w.heap.size w w' := by
  obtain ⟨i0, hi, hz0, hz1, hz2⟩ := info_parts infoU8
  have hl : d.length = 32 := by have := Vs.len hd; rw [i8_length] at this; omega
  obtain ⟨blk, off, rfl, hblk, hx⟩ := vs_lit hd (by omega)
  have hnil : ∀ W, (Go.binOp .eql 27 (.slice (some ⟨blk, off, none⟩) 32 c) (.slice none 0 0)).run Tryz.prog W = .ok (.bool false) W := fun W => by kernel_rfl
  have hN0 : (w.alloc (.cells #[] 5)).ownsRow w.heap.size 5 1 (.slice (some ⟨w.heap.size, 0, none⟩) 0 0) 0 [] := own_of_row (M := []) (Nat.le_refl _) (Blk.new w [] 5) (Nat.le_refl _) (by omega) rfl rfl
  have hbN : Below w.heap.size w (w.alloc (.cells #[] 5)) := (Below.refl _ _).alloc (Nat.le_refl _) _
  have hdN := vs_below hd hbN
  have hB0 := hbN.size
  have h63 : 0 + 32 ≤ maxLen := by unfold maxLen; omega
  go_enter Tryz.func22, Tryz.ntmps22
  go_wp2_with (at_builtin; go_must (refine wpList_append (w.alloc (.cells #[] 5)) rfl (.tmp 5) (.tmp 6) 27 rfl w.heap.size 5 i0 (.int .u8 0) 1 1 Tryz.underlying27 hi hz0 hz1 hz2 rfl (by omega) _ 0 [] rfl hN0 _ _ 32 _ _ rfl hdN (i8_one _) h63 (by omega) hB0 ?_))
  intro A5 c5 w5 hown5 g5 g5' hgr
  have hb5 : Below w.heap.size w w5 := Mem.below_grown hbN hgr hB0 hN0
  clear hown5 hgr
  go_wp2
  go_ret
  exact ⟨⟨.slice A5 32 c5, rfl, _, _, _, rfl⟩, hb5⟩
theorem cnew_ex (w : World) : Calls Tryz.prog 23 #[] w fun e w' => ∃ g, w.heap.size ≤ g ∧ e = .returned (.pointer (some ⟨g, 0, none⟩)) ∧ Blk w' g [.slice none 0 0, .int .i64 0] 94 ∧ Below w.heap.size w w' := by
  obtain ⟨W, HW, C, hbw, hz⟩ := boxes1 w [.slice none 0 0, .int .i64 0] 94
  go_enter Tryz.func23, Tryz.ntmps23
  go_wp2
  go_ret
  rw [show (w.alloc (.cells #[.slice none 0 0, .int .i64 0] 94)) = W from HW.out]
  exact ⟨w.heap.size, Nat.le_refl _, rfl, C, hbw⟩
set_option maxRecDepth 100000 in
set_option maxHeartbeats 8000000 in
theorem new_nil (dom path : List UInt8) (hd : Ids.domain dom = true) (hp : Ids.agent path = true) (hd1 : dom.length ≤ 1000) (hp1 : path.length ≤ 1000) (A : Option Addr) (c : Nat) (l : List Int) (w : World) (hs : Vs w w.heap.size 1 A 32 (i8 l)) (hT : TabM w) :
    Calls Tryz.prog 5 #[.string (str dom), .string (str path), .slice A 32 c, .string ⟨#[]⟩, .string ⟨#[]⟩, .slice none 0 0] w fun e w' => ∃ g, e = .returned (.tuple #[.pointer (some ⟨g, 0, none⟩), .int .i64 0]) ∧ At w' w.heap.size g (.slice none 0 0) 0 0 0 0 ∧ Below w.heap.size w w' := by
  have hpb := public_ex A c l w hs hT
  have hdm := fun W => domain_any dom W (by omega)
  have hag := fun W => agent_any path W (by omega)
  rw [hd] at hdm
  rw [hp] at hag
  go_enter Tryz.func5, Tryz.ntmps5
  go_wp2_with fail
  refine hpb.mono ?_
  rintro e w1 ⟨gp, hgp, rfl, P, hb1⟩
  go_wp2_with fail
  refine (hdm _).mono ?_
  rintro e w2 ⟨rfl, hb2⟩
  go_wp2_with fail
  refine (hag _).mono ?_
  rintro e w3 ⟨rfl, hb3⟩
  have hw2 := hb1.trans (hb2.mono hb1.size)
  have hw3 := hw2.trans (hb3.mono hw2.size)
  obtain ⟨pl, hpl⟩ := ((P.below hb2).below hb3).bs
  have hs3 := vs_below hs hw3
  have hz3 := hw3.size
  clear hdm hag hpb P hb1 hb2 hb3 hw2
  go_upto_region 4 with fail
  refine Batch.wp_region_free [([2], 3, [], fun v _ => ∃ A' n' c', v = .slice A' n' c'), ([4], 5, [], fun v _ => v = .string (str pl)), ([], 8, [], fun v _ => ∃ k, v = .map (some k)), ([0, 1, 6, 7], 9, [], fun v w' => ∃ g, w3.heap.size ≤ g ∧ v = .pointer (some ⟨g, 0, none⟩) ∧ Blk w' g [.slice none 0 0, .int .i64 0] 94)] [10, 11, 12] (by kernel_rfl) (by kernel_rfl) (by
    intro x hx
    simp only [List.mem_cons, List.not_mem_nil, or_false] at hx
    rcases hx with rfl | rfl | rfl | rfl
    · exact Batch.stable_gr fun v w w' hb h => h
    · exact Batch.stable_gr fun v w w' hb h => h
    · exact Batch.stable_gr fun v w w' hb h => h
    · exact Batch.stable_gr fun v w w' hb ⟨g, h1, h2, h3⟩ => ⟨g, h1, h2, h3.below hb⟩) ?_
  refine Batch.freeR_cons ?_
  simp only [Batch.pick, List.getD_cons_zero, List.getD_cons_succ]
  repeat (go_big_quiet_step (fail))
  refine wpQuiet_nil ?_
  refine ⟨_, rfl, rfl, ⟨_, w3, none, 0, 0, rfl⟩, ?_, ?_⟩
  · intro w5 hw5 _
    go_simp
    exact ⟨rfl, (cloneB_ex A c l w5 (vs_below hs3 hw5.below)).mono fun e w6 ⟨⟨v, h1, h2⟩, h3⟩ => ⟨v, h1, Batch.GR.of h3, h2⟩⟩
  rintro _ ⟨_, A4, n4, c4, rfl⟩
  refine Batch.freeR_cons ?_
  simp only [Batch.pick, List.getD_cons_zero, List.getD_cons_succ, List.getElem_toArray, List.getElem_cons_succ, List.getElem_cons_zero, Act.put, List.setIfInBounds_toArray, List.set_cons_zero, List.set_cons_succ]
  repeat (go_big_quiet_step (fail))
  refine wpQuiet_nil ?_
  refine ⟨_, rfl, rfl, ⟨_, w3, rfl⟩, ?_, ?_⟩
  · intro w5 hw5 _
    have hcv := conv8 (vs_below hpl hw5.below) 32
    go_simp
    exact ⟨Batch.GR.of (Below.refl _ _), rfl⟩
  rintro _ ⟨_, rfl⟩
  refine Batch.freeR_cons ?_
  simp only [Batch.pick, List.getElem_toArray, List.getElem_cons_succ, List.getElem_cons_zero, Act.put, List.setIfInBounds_toArray, List.set_cons_zero, List.set_cons_succ]
  refine wpQuiet_nil ?_
  refine ⟨_, rfl, rfl, ⟨_, w3, 0, rfl⟩, ?_, ?_⟩
  · intro w5 hw5 _
    have hmm := run_makeMap (P := Tryz.prog) 51 w5
    go_simp
    exact ⟨Batch.GR.of ((Below.refl _ _).alloc (Nat.le_refl _) _), _, rfl⟩
  rintro _ ⟨_, km, rfl⟩
  refine Batch.freeR_cons ?_
  simp only [Batch.pick, List.getD_cons_zero, List.getD_cons_succ, List.getElem_toArray, List.getElem_cons_succ, List.getElem_cons_zero, Act.put, List.setIfInBounds_toArray, List.set_cons_zero, List.set_cons_succ]
  repeat (go_big_quiet_step (fail))
  refine wpQuiet_nil ?_
  refine ⟨_, rfl, rfl, ⟨_, _, _, Nat.le_refl _, rfl, Blk.new w3 [.slice none 0 0, .int .i64 0] _⟩, ?_, ?_⟩
  · intro w5 hw5 _
    have hz5 := hw5.below.size
    go_simp
    exact ⟨rfl, (cnew_ex w5).mono fun e w6 ⟨g, h1, h2, h3, h4⟩ => ⟨_, h2, Batch.GR.of h4, g, by omega, rfl, h3⟩⟩
  rintro v4 - w6 hw6 ⟨⟨gc, hgc, rfl, hC⟩, _⟩
  have hb6 := hw6.below
  have hB6 := hw3.trans (hb6.mono hw3.size)
  have hz6 := hb6.size
  have hgl := hC.lt
  obtain ⟨W7, HW7, AG, hb7, hz7⟩ := boxes1 w6 (cells (str dom) (str path) (.slice A4 n4 c4) (str pl) (.slice none 0 0) (.map (some km)) (.pointer (some ⟨gc, 0, none⟩)) 0 0 0 0) 56
  have hC7 := hC.below hb7
  have hB7 := hB6.trans (hb7.mono hB6.size)
  have hAt : At W7 w.heap.size w6.heap.size (.slice none 0 0) 0 0 0 0 := ⟨_, _, _, _, _, gc, by omega, by omega, by omega, AG, hC7⟩
  clear hw6 hb6 hC hC7 AG hb7 hs3 hpl hs hT hw3
  go_upto_region 5 with fail
  rw [show (w6.alloc (.cells #[.string (str dom), .string (str path), .slice A4 n4 c4, .string (str pl), .string ⟨#[]⟩, .string ⟨#[]⟩, .slice none 0 0, .int .i64 0, .int .i64 0, .map (some km), .string ⟨#[]⟩, .int .i64 0, .int .i64 0, .bool false, .slice none 0 0, .pointer (some ⟨gc, 0, none⟩), .slice none 0 0] 56)) = W7 from HW7.out]
  clear HW7
  go_wp2_with fail
  go_loopw [15, 18, 50] (fun _ _ i wr => i = .int .i64 0 ∧ wr = W7) (fun _ _ _ _ => 0)
  case atStart => exact ⟨rfl, rfl⟩
  case round =>
    obtain ⟨rfl, hw⟩ := hrel
    have hw := hw.symm
    subst hw
    go_wp2
    go_ret2
    exact ⟨_, rfl, hAt, hB7⟩
theorem over_any (a b : Int) (w : World) : Calls Tryz.prog 28 #[.int .i64 a, .int .i64 b] w fun e w' => e = .returned (.bool (decide (b ≤ a))) ∧ w' = w := by
  go_enter Tryz.func28, Tryz.ntmps28
  go_wp2
  go_ret
  exact ⟨rfl, rfl⟩
theorem attested_any {w : World} {B g : Nat} {held : Value} {seq turn since till : Int} (h : At w B g held seq turn since till) (now : Int) : Calls Tryz.prog 11 #[.pointer (some ⟨g, 0, none⟩), .int .i64 now] w fun e w' => e = .returned (.bool (decide (0 < till) && !decide (till ≤ now))) ∧ w' = w := by
  obtain ⟨dom, path, sv, pub, mp, gc, h1, h2, h3, h4, h5⟩ := h
  have k : w.cell? ⟨g, 12, none⟩ = some (.int .i64 till) := h4.cell 12
  have ho := over_any now till w
  cases ha : decide (0 < till)
  · go_enter Tryz.func11, Tryz.ntmps11
    go_wp2
    go_ret
    exact ⟨rfl, rfl⟩
  · go_enter Tryz.func11, Tryz.ntmps11
    go_wp2_with fail
    refine ho.mono ?_
    rintro e w1 ⟨rfl, hw⟩
    have := hw.symm
    subst this
    go_wp2
    go_ret
    exact ⟨by simp, rfl⟩
end Ag
end Go.Proofs.YtgalhnobckoneaaGreatDoor
