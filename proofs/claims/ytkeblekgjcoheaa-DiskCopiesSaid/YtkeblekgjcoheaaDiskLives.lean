/- THE WALK of the law's example. -/
import Derived.Test.YtkeblekgjcoheaaDiskLike
namespace Go.Proofs.Ytkeblekgjcoheaa
open Go.RowKit Mem

def dA : DS := (DS.fresh 2).arm 0 [120]
def dB : DS := dA.write 1 [97, 98, 99]
theorem dA_err : dA.writeErr 1 [97, 98, 99] = 26 := by decide
theorem dB_err : dB.up.readErr 1 = 0 := by decide
theorem dB_read : dB.up.read 1 = fill [120] := by decide +kernel

set_option maxHeartbeats 2000000 in
theorem lives_any (w : World) : Calls Try.prog 10 #[] w fun e w' => e = .returned (.bool true) ∧ Below w.heap.size w w' := by
  have kc := fun (w : World) (C : Array Value) (n c : Nat) => Lib.run_convert_bytes_const (P := Try.prog) w 23 5 C n c Try.underlying23 Try.underlying5
  have hn := new_any 2 w (by omega) (by omega)
  go_enter Try.func10, Try.ntmps10
  go_wp2_with fail
  refine hn.mono ?_
  rintro e w1 ⟨p, g, rfl, i1, hb1, hp, hg⟩
  clear hn
  have i2 := i1.chg ((Chg.refl [] w1).alloc (.cells #[.int .u8 120] 5 (1, 2))) (by simp) (by simp)
  have ha := arm_any i2 0 (by omega) (by omega) _ 1 1 _ [120] (Bs.new w1 #[.int .u8 120] 5 (1, 2) 1 [120] rfl rfl) (by simp)
  go_wp2_with fail
  refine ha.mono ?_
  rintro e w2 ⟨rfl, i3, hc2⟩
  clear ha
  have hb2 : Below w.heap.size w w2 := (hb1.alloc hb1.size _).trans (hc2.below' (by have := hb1.size; simp; omega) (by intro s hs; simp at hs; rcases hs with rfl | rfl <;> assumption))
  have i4 := i3.chg ((Chg.refl [] w2).alloc (.cells #[.int .u8 97, .int .u8 98, .int .u8 99] 5 (3, 4))) (by simp) (by simp)
  have hplt := i3.plt
  have hglt := i3.glt
  have hw := write_any i4 1 _ 3 3 [97, 98, 99] (fun W hW => bs_chgAt (Bs.new w2 #[.int .u8 97, .int .u8 98, .int .u8 99] 5 (3, 4) 3 [97, 98, 99] rfl rfl) hW (by simp; omega) (by simp)) (by show (0 : Nat) < _; omega)
  go_wp2_with fail
  refine hw.mono ?_
  rintro e w3 ⟨rfl, i5, hc3⟩
  clear hw
  have hb3 : Below w.heap.size w w3 := (hb2.alloc hb2.size _).trans (hc3.below' (by have := hb2.size; simp; omega) (by intro s hs; simp at hs; rcases hs with rfl | rfl <;> assumption))
  have e1 : DS.writeErr (DS.arm (DS.fresh 2) 0 [120]) 1 [97, 98, 99] = 26 := dA_err
  rw [e1]
  go_wp2_with fail
  refine (up_any i5).mono ?_
  rintro e w4 ⟨rfl, i6, hc4⟩
  have hb4 : Below w.heap.size w w4 := hb3.trans (hc4.below' hb3.size (by intro s hs; simp at hs; rcases hs with rfl | rfl <;> assumption))
  have hr := read_any i6 1
  have e2 : DS.read (DS.up (DS.write (DS.arm (DS.fresh 2) 0 [120]) 1 [97, 98, 99])) 1 = fill [120] := dB_read
  have e3 : DS.readErr (DS.up (DS.write (DS.arm (DS.fresh 2) 0 [120]) 1 [97, 98, 99])) 1 = 0 := dB_err
  rw [e2, e3] at hr
  go_wp2_with fail
  refine hr.mono ?_
  rintro e w5 ⟨A5, n5, c5, rfl, g1, g2, hown, hb5⟩
  have hb45 := hb4.trans (hb5.mono hb4.size)
  have hxa := conv (Bs.drew (Bs.of_own hown)) c5
  have hxb := fun o => conv (Bs.drew ((Bs.of_own hown).alloc (Nat.le_refl _) o)) c5
  obtain ⟨lf, hlf⟩ : ∃ lf, fill [120] = lf := ⟨_, rfl⟩
  rw [hlf] at hxa hxb hown
  have hself : (lf == lf) = true := beq_self_eq_true _
  have HL := Lib.hid hlf
  clear hr i6 i5 i4 i3 i2 i1 hlf e1 e2 e3
  go_wp2_with fail
  have kd : ∀ (W : World) (C : Array Value) (n c : Nat), (convert 23 23 (.slice (some ⟨W.heap.size, 0, none⟩) n c)).run Try.prog ((W.alloc (.cells C 5)).drew) = .ok (.slice (some ⟨W.heap.size, 0, none⟩) n c) ((W.alloc (.cells C 5 (C.size, C.size + 1))).drew) := fun W C n c => kc W.drew C n c
  have hf := fill_any _ 1 1 _ [120] ((w5.alloc (.cells #[.int .u8 120] 5 (1, 2))).drew) (Bs.drew (Bs.new w5 #[.int .u8 120] 5 (1, 2) 1 [120] rfl rfl)) (by show _ ≤ (w5.alloc _).heap.size; simp)
  rw [HL.out] at hf
  have hend : ∀ w6, Below ((w5.alloc (.cells #[.int .u8 120] 5 (1, 2))).drew).heap.size ((w5.alloc (.cells #[.int .u8 120] 5 (1, 2))).drew) w6 → Below w.heap.size w w6 := fun w6 hb6 =>
    hb45.trans ((((Below.refl w.heap.size w5).alloc hb45.size (.cells #[.int .u8 120] 5 (1, 2))).drew).trans (hb6.mono (by have := hb45.size; show _ ≤ (w5.alloc _).heap.size; simp; omega)))
  have HEND := Lib.hid hend
  have HF := Lib.hid hf
  clear hf hend
  have hown' := Lib.hid hown
  clear hown
  go_region_with (go_at_call 15; refine HF.out.mono ?_; rintro e w6 ⟨rfl, hb6⟩; have hxc := conv ((Bs.drew ((Bs.of_own hown'.out).alloc (Nat.le_refl _) (.cells #[.int .u8 120] 5 (1, 2)))).next (by show _ ≤ (w5.alloc _).heap.size; simp) hb6) c5)
  all_goals go_wp2
  all_goals go_ret
  all_goals refine ⟨?_, HEND.out _ hb6⟩
  all_goals go_simp
end Go.Proofs.Ytkeblekgjcoheaa
