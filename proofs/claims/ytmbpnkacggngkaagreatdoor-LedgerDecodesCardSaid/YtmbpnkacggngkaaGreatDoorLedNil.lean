/- THE WALKS of the ledger's helpers where a list is nil. -/
import Derived.Test.YtmbpnkacggngkaaGreatDoorLedMem
import Derived.Test.YtmbpnkacggngkaaGreatDoorTexts
import Derived.Deep.DeepMust
namespace Go.Proofs.YtmbpnkacggngkaaGreatDoor
open Go.RowKit Mem

set_option maxRecDepth 100000 in
theorem cloneEntries_nil (w : World) : Calls Tryz.prog 57 #[.slice none 0 0] w fun e w' => e = .returned (.slice none 0 0) ∧ w = w' := by
  have e0 : ∀ w, (Go.binOp .eql 23 (.slice none 0 0) (.slice none 0 0)).run Tryz.prog w = .ok (.bool true) w := fun w => by kernel_rfl
  go_enter Tryz.func57, Tryz.ntmps57
  go_wp2
  go_ret
  exact ⟨rfl, rfl⟩
set_option maxRecDepth 100000 in
theorem cloneNodes_nil (w : World) : Calls Tryz.prog 58 #[.slice none 0 0] w fun e w' => e = .returned (.slice none 0 0) ∧ w = w' := by
  have e0 : ∀ w, (Go.binOp .eql 24 (.slice none 0 0) (.slice none 0 0)).run Tryz.prog w = .ok (.bool true) w := fun w => by kernel_rfl
  go_enter Tryz.func58, Tryz.ntmps58
  go_wp2
  go_ret
  exact ⟨rfl, rfl⟩
set_option maxRecDepth 100000 in
theorem cloneJoins_nil (w : World) : Calls Tryz.prog 59 #[.slice none 0 0] w fun e w' => e = .returned (.slice none 0 0) ∧ w = w' := by
  have e0 : ∀ w, (Go.binOp .eql 26 (.slice none 0 0) (.slice none 0 0)).run Tryz.prog w = .ok (.bool true) w := fun w => by kernel_rfl
  go_enter Tryz.func59, Tryz.ntmps59
  go_wp2
  go_ret
  exact ⟨rfl, rfl⟩
set_option maxRecDepth 100000 in
theorem cloneKeys_nil (w : World) : Calls Tryz.prog 60 #[.slice none 0 0] w fun e w' => e = .returned (.slice none 0 0) ∧ w = w' := by
  have e0 : ∀ w, (Go.binOp .eql 27 (.slice none 0 0) (.slice none 0 0)).run Tryz.prog w = .ok (.bool true) w := fun w => by kernel_rfl
  go_enter Tryz.func60, Tryz.ntmps60
  go_wp2
  go_ret
  exact ⟨rfl, rfl⟩
set_option maxRecDepth 100000 in
theorem cloneBundles_nil (w : World) : Calls Tryz.prog 61 #[.slice none 0 0] w fun e w' => e = .returned (.slice none 0 0) ∧ w = w' := by
  have e0 : ∀ w, (Go.binOp .eql 28 (.slice none 0 0) (.slice none 0 0)).run Tryz.prog w = .ok (.bool true) w := fun w => by kernel_rfl
  go_enter Tryz.func61, Tryz.ntmps61
  go_wp2
  go_ret
  exact ⟨rfl, rfl⟩
set_option maxRecDepth 100000 in
theorem cloneJwks_nil (w : World) : Calls Tryz.prog 29 #[.slice none 0 0] w fun e w' => e = .returned (.slice none 0 0) ∧ w = w' := by
  have e0 : ∀ w, (Go.binOp .eql 43 (.slice none 0 0) (.slice none 0 0)).run Tryz.prog w = .ok (.bool true) w := fun w => by kernel_rfl
  go_enter Tryz.func29, Tryz.ntmps29
  go_wp2
  go_ret
  exact ⟨rfl, rfl⟩
set_option maxRecDepth 100000 in
theorem cloneTexts_nil (w : World) : Calls Tryz.prog 28 #[.slice none 0 0] w fun e w' => e = .returned (.slice none 0 0) ∧ w = w' := by
  have e0 : ∀ w, (Go.binOp .eql 25 (.slice none 0 0) (.slice none 0 0)).run Tryz.prog w = .ok (.bool true) w := fun w => by kernel_rfl
  go_enter Tryz.func28, Tryz.ntmps28
  go_wp2
  go_ret
  exact ⟨rfl, rfl⟩
theorem indexEntries_nil (f : Value) (w : World) : Calls Tryz.prog 134 #[.slice none 0 0, f] w fun e w' => e = .returned (.int .i64 (-1)) ∧ w = w' := by
  go_enter Tryz.func134, Tryz.ntmps134
  go_wp2
  go_loopw [5, 8] (fun _ i wr => i = .int .i64 0 ∧ w = wr) (fun _ _ _ => 0)
  case atStart => exact ⟨rfl, rfl⟩
  case round =>
    obtain ⟨rfl, rfl⟩ := hrel
    go_wp2
    go_ret
    exact ⟨rfl, rfl⟩
theorem indexNodes_nil (f : Value) (w : World) : Calls Tryz.prog 114 #[.slice none 0 0, f] w fun e w' => e = .returned (.int .i64 (-1)) ∧ w = w' := by
  go_enter Tryz.func114, Tryz.ntmps114
  go_wp2
  go_loopw [5, 8] (fun _ i wr => i = .int .i64 0 ∧ w = wr) (fun _ _ _ => 0)
  case atStart => exact ⟨rfl, rfl⟩
  case round =>
    obtain ⟨rfl, rfl⟩ := hrel
    go_wp2
    go_ret
    exact ⟨rfl, rfl⟩
theorem goneEntries_nil (g k : Nat) (f : Value) (w : World) (h : w.cell? ⟨g, k, none⟩ = some (.slice none 0 0)) : Calls Tryz.prog 82 #[.pointer (some ⟨g, k, none⟩), f] w fun e w' => e = .returned (.int .i64 7) ∧ w = w' := by
  have hi := indexEntries_nil f w
  go_enter Tryz.func82, Tryz.ntmps82
  go_wp2_with fail
  refine hi.mono ?_
  rintro e w1 ⟨rfl, rfl⟩
  go_wp2
  go_ret
  exact ⟨rfl, rfl⟩
theorem goneNodes_nil (g k : Nat) (f : Value) (w : World) (h : w.cell? ⟨g, k, none⟩ = some (.slice none 0 0)) : Calls Tryz.prog 98 #[.pointer (some ⟨g, k, none⟩), f] w fun e w' => e = .returned (.int .i64 7) ∧ w = w' := by
  have hi := indexNodes_nil f w
  go_enter Tryz.func98, Tryz.ntmps98
  go_wp2_with fail
  refine hi.mono ?_
  rintro e w1 ⟨rfl, rfl⟩
  go_wp2
  go_ret
  exact ⟨rfl, rfl⟩
theorem search_nil (x f : Value) (w : World) : Calls Tryz.prog 141 #[.slice none 0 0, x, f] w fun e w' => e = .returned (.tuple #[.int .i64 0, .bool false]) ∧ w = w' := by
  go_enter Tryz.func141, Tryz.ntmps141
  go_wp2
  go_loopw [9, 10, 11] (fun i j _ wr => i = .int .i64 0 ∧ j = .int .i64 0 ∧ w = wr) (fun _ _ _ _ => 0)
  case atStart => exact ⟨rfl, rfl, rfl⟩
  case round =>
    obtain ⟨rfl, rfl, rfl⟩ := hrel
    go_wp2
    go_ret2
    exact ⟨rfl, rfl⟩
/-- A new list of one text. -/
def OneText (w : World) (x : List UInt8) (e : Ending) (w' : World) : Prop := ∃ A c, e = .returned (.slice A 1 c) ∧ 1 ≤ c ∧ c ≤ 9223372036854775807 ∧ w'.ownsRow w.heap.size 9 1 (.slice A 1 c) 1 (tv [x]) ∧ Below w.heap.size w w'
theorem insert_nil (g : Nat) (x : List UInt8) (w : World) (h : Blk w g (tv [x]) 9) : Calls Tryz.prog 142 #[.slice none 0 0, .int .i64 0, .slice (some ⟨g, 0, none⟩) 1 1] w (OneText w x) := by
  obtain ⟨iT, hiT, hzT, hsT, hbT⟩ := info_parts infoT
  have hv : Vs w w.heap.size 1 (some ⟨g, 0, none⟩) 1 (tv [x]) := ⟨rfl, fun j u hj => ⟨_, rfl, h.lt, by rw [zero_add_, h.cell j]; exact hj⟩⟩
  go_enter Tryz.func142, Tryz.ntmps142
  go_wp2_with (at_builtin; go_must (refine wpList_append w rfl (.tmp 23) (.tmp 24) 25 rfl w.heap.size 9 iT (.string ⟨#[]⟩) 1 16 Tryz.underlying25 hiT hzT hsT hbT rfl (by omega) (.slice none 0 0) 0 [] rfl (World.ownsRow_nil _ _ _ _) w.heap.size (some ⟨g, 0, none⟩) 1 1 _ rfl hv (tv_one _) (by decide) (by decide) (Nat.le_refl _) ?_))
  intro A' c' w2 hown2 g1 g2 hgr
  have hb2 : Below w.heap.size w w2 := below_grown (Below.refl _ _) hgr (Nat.le_refl _) (World.ownsRow_nil w w.heap.size 9 1) (Nat.le_refl _)
  go_wp2
  go_ret
  exact ⟨A', c', rfl, g1, g2, hown2, hb2⟩
theorem put_nil (g k : Nat) (x : List UInt8) (f : Value) (w : World) (h : w.cell? ⟨g, k, none⟩ = some (.slice none 0 0)) (hf : w.frozen? ⟨g, k, none⟩ = false) :
    Calls Tryz.prog 95 #[.pointer (some ⟨g, k, none⟩), .string (str x), .int .i64 8, f] w fun e w' => e = .returned (.int .i64 0) ∧ ∃ A c w1, 1 ≤ c ∧ c ≤ 9223372036854775807 ∧ Below w.heap.size w w1 ∧ w1.ownsRow w.heap.size 9 1 (.slice A 1 c) 1 (tv [x]) ∧ w' = w1.setCell ⟨g, k, none⟩ (.slice A 1 c) := by
  have hs := search_nil (.string (str x)) f w
  have hglt := World.block_lt_of_cell? w _ h
  simp only [] at hglt
  go_enter Tryz.func95, Tryz.ntmps95
  go_wp2_with fail
  refine hs.mono ?_
  rintro e w1 ⟨rfl, rfl⟩
  go_wp2_with fail
  refine (insert_nil w.heap.size x (w.alloc (.cells #[.string (str x)] 9)) (Blk.new w (tv [x]) 9)).mono ?_
  rintro e w2 ⟨A, c, rfl, g1, g2, hown, hb⟩
  have hb0 : Below w.heap.size w (w.alloc (.cells #[.string (str x)] 9)) := (Below.refl _ _).alloc (Nat.le_refl _) _
  have hb2 : Below w.heap.size w w2 := hb0.trans (hb.mono hb0.size)
  have k0 := (hb2.cell (p := ⟨g, k, none⟩) hglt).trans h
  have k1 := (hb2.frozen (p := ⟨g, k, none⟩) hglt).trans hf
  have hown2 := own_base hown (b' := w.heap.size) (by simp)
  go_wp2
  go_ret
  exact ⟨rfl, A, c, w2, g1, g2, hb2, hown2, rfl⟩
end Go.Proofs.YtmbpnkacggngkaaGreatDoor
