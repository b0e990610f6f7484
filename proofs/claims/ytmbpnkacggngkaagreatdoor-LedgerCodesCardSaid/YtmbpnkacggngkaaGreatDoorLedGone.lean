/- LedNil, LedDo (put together by merge.py). -/
import Derived.Test.YtmbpnkacggngkaaGreatDoorLedMem
import Derived.Test.YtmbpnkacggngkaaGreatDoorTexts
import Derived.Deep.DeepMust
import Derived.Test.YtmbpnkacggngkaaGreatDoorLedDec
import Derived.Test.YtmbpnkacggngkaaGreatDoorIdsAll
import Derived.Test.YtmbpnkacggngkaaGreatDoorShelf
import Derived.BigQuiet
import Derived.Deep.RegionWith
/- THE WALKS of the ledger's helpers where a list is nil. -/
namespace Go.Proofs.YtmbpnkacggngkaaGreatDoor
open Go.RowKit Mem

set_option maxRecDepth 100000 in
theorem cloneEntries_nil (w : World) : Calls Tryz.prog 57 #[.slice none 0 0] w fun e w' => e = .returned (.slice none 0 0) ∧ w = w' := by
  have e0 : ∀ w, (Go.binOp .eql 23 (.slice none 0 0) (.slice none 0 0)).run Tryz.prog w = .ok (.bool true) w := fun w => by kernel_rfl
  go_enter Tryz.func57, Tryz.ntmps57
  go_wp2
  go_ret
  exact ⟨rfl, rfl⟩
set_option maxRecDepth 100000 in
theorem cloneNodes_nil (w : World) : Calls Tryz.prog 58 #[.slice none 0 0] w fun e w' => e = .returned (.slice none 0 0) ∧ w = w' := by
  have e0 : ∀ w, (Go.binOp .eql 24 (.slice none 0 0) (.slice none 0 0)).run Tryz.prog w = .ok (.bool true) w := fun w => by kernel_rfl
  go_enter Tryz.func58, Tryz.ntmps58
  go_wp2
  go_ret
  exact ⟨rfl, rfl⟩
set_option maxRecDepth 100000 in
theorem cloneJoins_nil (w : World) : Calls Tryz.prog 59 #[.slice none 0 0] w fun e w' => e = .returned (.slice none 0 0) ∧ w = w' := by
  have e0 : ∀ w, (Go.binOp .eql 26 (.slice none 0 0) (.slice none 0 0)).run Tryz.prog w = .ok (.bool true) w := fun w => by kernel_rfl
  go_enter Tryz.func59, Tryz.ntmps59
  go_wp2
  go_ret
  exact ⟨rfl, rfl⟩
set_option maxRecDepth 100000 in
theorem cloneKeys_nil (w : World) : Calls Tryz.prog 60 #[.slice none 0 0] w fun e w' => e = .returned (.slice none 0 0) ∧ w = w' := by
  have e0 : ∀ w, (Go.binOp .eql 27 (.slice none 0 0) (.slice none 0 0)).run Tryz.prog w = .ok (.bool true) w := fun w => by kernel_rfl
  go_enter Tryz.func60, Tryz.ntmps60
  go_wp2
  go_ret
  exact ⟨rfl, rfl⟩
set_option maxRecDepth 100000 in
theorem cloneBundles_nil (w : World) : Calls Tryz.prog 61 #[.slice none 0 0] w fun e w' => e = .returned (.slice none 0 0) ∧ w = w' := by
  have e0 : ∀ w, (Go.binOp .eql 28 (.slice none 0 0) (.slice none 0 0)).run Tryz.prog w = .ok (.bool true) w := fun w => by kernel_rfl
  go_enter Tryz.func61, Tryz.ntmps61
  go_wp2
  go_ret
  exact ⟨rfl, rfl⟩
set_option maxRecDepth 100000 in
theorem cloneJwks_nil (w : World) : Calls Tryz.prog 29 #[.slice none 0 0] w fun e w' => e = .returned (.slice none 0 0) ∧ w = w' := by
  have e0 : ∀ w, (Go.binOp .eql 43 (.slice none 0 0) (.slice none 0 0)).run Tryz.prog w = .ok (.bool true) w := fun w => by kernel_rfl
  go_enter Tryz.func29, Tryz.ntmps29
  go_wp2
  go_ret
  exact ⟨rfl, rfl⟩
set_option maxRecDepth 100000 in
theorem cloneTexts_nil (w : World) : Calls Tryz.prog 28 #[.slice none 0 0] w fun e w' => e = .returned (.slice none 0 0) ∧ w = w' := by
  have e0 : ∀ w, (Go.binOp .eql 25 (.slice none 0 0) (.slice none 0 0)).run Tryz.prog w = .ok (.bool true) w := fun w => by kernel_rfl
  go_enter Tryz.func28, Tryz.ntmps28
  go_wp2
  go_ret
  exact ⟨rfl, rfl⟩
theorem indexEntries_nil (f : Value) (w : World) : Calls Tryz.prog 134 #[.slice none 0 0, f] w fun e w' => e = .returned (.int .i64 (-1)) ∧ w = w' := by
  go_enter Tryz.func134, Tryz.ntmps134
  go_wp2
  go_loopw [5, 8] (fun _ i wr => i = .int .i64 0 ∧ w = wr) (fun _ _ _ => 0)
  case atStart => exact ⟨rfl, rfl⟩
  case round =>
    obtain ⟨rfl, rfl⟩ := hrel
    go_wp2
    go_ret
    exact ⟨rfl, rfl⟩
theorem indexNodes_nil (f : Value) (w : World) : Calls Tryz.prog 114 #[.slice none 0 0, f] w fun e w' => e = .returned (.int .i64 (-1)) ∧ w = w' := by
  go_enter Tryz.func114, Tryz.ntmps114
  go_wp2
  go_loopw [5, 8] (fun _ i wr => i = .int .i64 0 ∧ w = wr) (fun _ _ _ => 0)
  case atStart => exact ⟨rfl, rfl⟩
  case round =>
    obtain ⟨rfl, rfl⟩ := hrel
    go_wp2
    go_ret
    exact ⟨rfl, rfl⟩
theorem goneEntries_nil (g k : Nat) (f : Value) (w : World) (h : w.cell? ⟨g, k, none⟩ = some (.slice none 0 0)) : Calls Tryz.prog 82 #[.pointer (some ⟨g, k, none⟩), f] w fun e w' => e = .returned (.int .i64 7) ∧ w = w' := by
  have hi := indexEntries_nil f w
  go_enter Tryz.func82, Tryz.ntmps82
  go_wp2_with fail
  refine hi.mono ?_
  rintro e w1 ⟨rfl, rfl⟩
  go_wp2
  go_ret
  exact ⟨rfl, rfl⟩
theorem goneNodes_nil (g k : Nat) (f : Value) (w : World) (h : w.cell? ⟨g, k, none⟩ = some (.slice none 0 0)) : Calls Tryz.prog 98 #[.pointer (some ⟨g, k, none⟩), f] w fun e w' => e = .returned (.int .i64 7) ∧ w = w' := by
  have hi := indexNodes_nil f w
  go_enter Tryz.func98, Tryz.ntmps98
  go_wp2_with fail
  refine hi.mono ?_
  rintro e w1 ⟨rfl, rfl⟩
  go_wp2
  go_ret
  exact ⟨rfl, rfl⟩
theorem search_nil (x f : Value) (w : World) : Calls Tryz.prog 141 #[.slice none 0 0, x, f] w fun e w' => e = .returned (.tuple #[.int .i64 0, .bool false]) ∧ w = w' := by
  go_enter Tryz.func141, Tryz.ntmps141
  go_wp2
  go_loopw [9, 10, 11] (fun i j _ wr => i = .int .i64 0 ∧ j = .int .i64 0 ∧ w = wr) (fun _ _ _ _ => 0)
  case atStart => exact ⟨rfl, rfl, rfl⟩
  case round =>
    obtain ⟨rfl, rfl, rfl⟩ := hrel
    go_wp2
    go_ret2
    exact ⟨rfl, rfl⟩
/-- A new list of one text. -/
def OneText (w : World) (x : List UInt8) (e : Ending) (w' : World) : Prop := ∃ A c, e = .returned (.slice A 1 c) ∧ 1 ≤ c ∧ c ≤ 9223372036854775807 ∧ w'.ownsRow w.heap.size 9 1 (.slice A 1 c) 1 (tv [x]) ∧ Below w.heap.size w w'
theorem insert_nil (g : Nat) (x : List UInt8) (w : World) (h : Blk w g (tv [x]) 9) : Calls Tryz.prog 142 #[.slice none 0 0, .int .i64 0, .slice (some ⟨g, 0, none⟩) 1 1] w (OneText w x) := by
  obtain ⟨iT, hiT, hzT, hsT, hbT⟩ := info_parts infoT
  have hv : Vs w w.heap.size 1 (some ⟨g, 0, none⟩) 1 (tv [x]) := ⟨rfl, fun j u hj => ⟨_, rfl, h.lt, by rw [zero_add_, h.cell j]; exact hj⟩⟩
  go_enter Tryz.func142, Tryz.ntmps142
  go_wp2_with (at_builtin; go_must (refine wpList_append w rfl (.tmp 23) (.tmp 24) 25 rfl w.heap.size 9 iT (.string ⟨#[]⟩) 1 16 Tryz.underlying25 hiT hzT hsT hbT rfl (by omega) (.slice none 0 0) 0 [] rfl (World.ownsRow_nil _ _ _ _) w.heap.size (some ⟨g, 0, none⟩) 1 1 _ rfl hv (tv_one _) (by decide) (by decide) (Nat.le_refl _) ?_))
  intro A' c' w2 hown2 g1 g2 hgr
  have hb2 : Below w.heap.size w w2 := below_grown (Below.refl _ _) hgr (Nat.le_refl _) (World.ownsRow_nil w w.heap.size 9 1) (Nat.le_refl _)
  go_wp2
  go_ret
  exact ⟨A', c', rfl, g1, g2, hown2, hb2⟩
theorem put_nil (g k : Nat) (x : List UInt8) (f : Value) (w : World) (h : w.cell? ⟨g, k, none⟩ = some (.slice none 0 0)) (hf : w.frozen? ⟨g, k, none⟩ = false) :
    Calls Tryz.prog 95 #[.pointer (some ⟨g, k, none⟩), .string (str x), .int .i64 8, f] w fun e w' => e = .returned (.int .i64 0) ∧ ∃ A c w1, 1 ≤ c ∧ c ≤ 9223372036854775807 ∧ Below w.heap.size w w1 ∧ w1.ownsRow w.heap.size 9 1 (.slice A 1 c) 1 (tv [x]) ∧ w' = w1.setCell ⟨g, k, none⟩ (.slice A 1 c) := by
  have hs := search_nil (.string (str x)) f w
  have hglt := World.block_lt_of_cell? w _ h
  simp only [] at hglt
  go_enter Tryz.func95, Tryz.ntmps95
  go_wp2_with fail
  refine hs.mono ?_
  rintro e w1 ⟨rfl, rfl⟩
  go_wp2_with fail
  refine (insert_nil w.heap.size x (w.alloc (.cells #[.string (str x)] 9)) (Blk.new w (tv [x]) 9)).mono ?_
  rintro e w2 ⟨A, c, rfl, g1, g2, hown, hb⟩
  have hb0 : Below w.heap.size w (w.alloc (.cells #[.string (str x)] 9)) := (Below.refl _ _).alloc (Nat.le_refl _) _
  have hb2 : Below w.heap.size w w2 := hb0.trans (hb.mono hb0.size)
  have k0 := (hb2.cell (p := ⟨g, k, none⟩) hglt).trans h
  have k1 := (hb2.frozen (p := ⟨g, k, none⟩) hglt).trans hf
  have hown2 := own_base hown (b' := w.heap.size) (by simp)
  go_wp2
  go_ret
  exact ⟨rfl, A, c, w2, g1, g2, hb2, hown2, rfl⟩
end Go.Proofs.YtmbpnkacggngkaaGreatDoor
/- THE WALKS of goneEntry, evict, ban on a ledger of which all lists but the bans are nil. -/
namespace Go.Proofs.YtmbpnkacggngkaaGreatDoor
open Go.RowKit Mem Led

theorem quiet_of {P : Program} {f : FuncId} {args : Array Value} {w : World} {n : Nat} {v : Value}
    (h : Calls P f args (w.drewN n) fun e w' => e = .returned v ∧ w.drewN n = w') : Calls P f args (w.drewN n) fun e w'' => e = .returned v ∧ ∃ m, w'' = w.drewN m :=
  h.mono fun _ _ ⟨he, hm⟩ => ⟨he, n, hm.symm⟩
/-- A ledger's cells of which all lists but the bans are nil. -/
def lgCells (v : Value) : List Value := [.slice none 0 0, .slice none 0 0, v, .slice none 0 0, .slice none 0 0, .slice none 0 0]
theorem goneEntry_nil (gl : Nat) (ops : List Value) (v : Value) (w : World) (hb : Blk w gl (lgCells v) 30) :
    Calls Tryz.prog 43 #[.pointer (some ⟨gl, 0, none⟩), .agg ops.toArray] w fun e w' => e = .returned (.int .i64 7) ∧ Below w.heap.size w w' := by
  have h0 : ∀ o, (w.alloc o).cell? ⟨gl, 0, none⟩ = some (.slice none 0 0) := fun o => (hb.alloc o).cell 0
  have hg := fun o f => goneEntries_nil gl 0 f (w.alloc o) (h0 o)
  go_enter Tryz.func43, Tryz.ntmps43
  go_wp2_with fail
  refine (hg _ _).mono ?_
  rintro e w1 ⟨rfl, rfl⟩
  go_wp2
  go_ret
  exact ⟨rfl, (Below.refl _ _).alloc (Nat.le_refl _) _⟩
theorem evict_nil (gl : Nat) (ops : List Value) (v : Value) (w : World) (hb : Blk w gl (lgCells v) 30) :
    Calls Tryz.prog 49 #[.pointer (some ⟨gl, 0, none⟩), .agg ops.toArray] w fun e w' => e = .returned (.int .i64 7) ∧ Below w.heap.size w w' := by
  have h0 : ∀ o, (w.alloc o).cell? ⟨gl, 1, none⟩ = some (.slice none 0 0) := fun o => (hb.alloc o).cell 1
  have hg := fun o f => goneNodes_nil gl 1 f (w.alloc o) (h0 o)
  go_enter Tryz.func49, Tryz.ntmps49
  go_wp2_with fail
  refine (hg _ _).mono ?_
  rintro e w1 ⟨rfl, rfl⟩
  go_wp2
  go_ret
  exact ⟨rfl, (Below.refl _ _).alloc (Nat.le_refl _) _⟩
theorem contains_one (A : Option Addr) (c : Nat) (x : List UInt8) (w : World) (h : Ts w A 1 [x]) :
    Calls Tryz.prog 90 #[.slice A 1 c, .string (str x)] w fun e w' => e = .returned (.bool true) ∧ w' = w := by
  obtain ⟨b, off, rfl, hc⟩ := h.lit (i := 0) (by simp)
  refine (Tryz.slices_Contains_string b off 1 c [str x] (str x) w (by simp) (by omega) (fun j hj => ?_)).mono ?_
  · have : j = 0 := by simpa using hj
    subst this
    exact hc
  · rintro e w' ⟨rfl, rfl⟩
    exact ⟨by simp [Lib.containsS, Lib.idxOfS, Lib.idxFromS], rfl⟩
/-- A first ban. -/
def Banned (gl : Nat) (x : List UInt8) (w : World) (e : Ending) (w' : World) : Prop :=
  e = .returned (.int .i64 0) ∧ ∃ A c, 1 ≤ c ∧ c ≤ 9223372036854775807 ∧ Blk w' gl (lgCells (.slice A 1 c)) 30 ∧ w'.ownsRow w.heap.size 9 1 (.slice A 1 c) 1 (tv [x]) ∧ Chg [gl] w w'
set_option maxRecDepth 100000 in
set_option maxHeartbeats 4000000 in
theorem ban_nil (gl : Nat) (ops : List Value) (x : List UInt8) (w : World) (hb : Blk w gl (lgCells (.slice none 0 0)) 30) (h24 : ops.length = 24) (hx : ops[2]? = some (tx x)) (ha : Ids.agent x = true) (hl : x.length ≤ 1000) :
    Calls Tryz.prog 47 #[.pointer (some ⟨gl, 0, none⟩), .agg ops.toArray] w (Banned gl x w) := by
  have hglt := hb.lt
  obtain ⟨W, hW⟩ : ∃ W, w.alloc (.cells ops.toArray 47) = W := ⟨_, rfl⟩
  have b0 : Blk W w.heap.size ops 47 := by rw [← hW]; exact Blk.new w ops _
  have b1 : Blk W gl (lgCells (.slice none 0 0)) 30 := by rw [← hW]; exact hb.alloc _
  have hbW : Below w.heap.size w W := by rw [← hW]; exact (Below.refl _ _).alloc (Nat.le_refl _) _
  have hag := agent_any x W (by omega)
  rw [ha] at hag
  have k2 : (w.alloc (.cells ops.toArray 47)).cell? ⟨w.heap.size, 2, none⟩ = some (.string (str x)) := by rw [hW]; exact (b0.cell 2).trans hx
  have HW := Lib.hid hW
  clear hW
  go_enter Tryz.func47, Tryz.ntmps47
  go_wp2_with fail
  rw [HW.out]
  refine hag.mono ?_
  rintro e w1 ⟨rfl, hb1⟩
  have c0 := b0.below hb1
  have c1 := b1.below hb1
  have m2 : w1.cell? ⟨w.heap.size, 2, none⟩ = some (.string (str x)) := (c0.cell 2).trans hx
  have m3 : w1.cell? ⟨gl, 2, none⟩ = some (.slice none 0 0) := c1.cell 2
  have hz1 := hb1.size
  have hct := fun W => Tryz.slices_Contains_string_empty none 0 (str x) W
  have hbw1 : Below w.heap.size w w1 := hbW.trans (hb1.mono hbW.size)
  go_wp2_with fail
  go_quiet ((go_at_call 90; exact quiet_of ((hct _).mono fun e w' ⟨he, hw⟩ => ⟨he, hw.symm⟩)))
  obtain ⟨wy, hwy⟩ : ∃ wy, w1.drewN nq = wy := ⟨_, rfl⟩
  have d0 : Blk wy w.heap.size ops 47 := by rw [← hwy]; exact c0.drewN nq
  have d1 : Blk wy gl (lgCells (.slice none 0 0)) 30 := by rw [← hwy]; exact c1.drewN nq
  have hby : Below w.heap.size w wy := by rw [← hwy]; exact ⟨hbw1.os, hbw1.tape, hbw1.output, by simpa using hbw1.size, fun i hi => by simpa using hbw1.block i hi⟩
  rw [hwy]
  clear hwy c0 c1 m2 m3 hbw1 hb1 hz1 hct
  have e2 : wy.cell? ⟨w.heap.size, 2, none⟩ = some (.string (str x)) := (d0.cell 2).trans hx
  have hput := fun f => put_nil gl 2 x f wy.drew (d1.cell 2) (d1.froz 2)
  go_wp2_with fail
  go_region_with (go_at_call 95; refine (hput _).mono ?_; rintro e w2 ⟨rfl, A, c, w3, g1, g2, hb3, hown, rfl⟩)
  obtain ⟨W3, hW3⟩ : ∃ W3, w3.setCell ⟨gl, 2, none⟩ (.slice A 1 c) = W3 := ⟨_, rfl⟩
  have hby2 : Below w.heap.size w w3 := hby.drew.trans (hb3.mono hby.size)
  have f0 : Blk W3 w.heap.size ops 47 := by rw [← hW3]; exact (d0.drew.below hb3).set_ne (p := ⟨gl, 2, none⟩) (by simp; omega) _
  have f1 : Blk W3 gl (lgCells (.slice A 1 c)) 30 := by
    have := (d1.drew.below hb3).set 2 (.slice A 1 c)
    rw [← hW3]
    exact this
  have hown3 : W3.ownsRow w.heap.size 9 1 (.slice A 1 c) 1 (tv [x]) := by
    rw [← hW3]
    exact ownsRow_setCell_below (own_base hown hby.size) hglt _
  have hc3 : Chg [gl] w W3 := by rw [← hW3]; exact (Chg.of_below hby2).setCell (.inl (by simp)) _
  rw [hW3]
  clear hW3 hown hb3 d0 d1 hput hby2 e2
  have hld := load_op f0 h24
  have hev := evict_nil gl ops (.slice A 1 c) W3 f1
  go_wp2_with fail
  refine hev.mono ?_
  rintro e w4 ⟨rfl, hb4⟩
  go_wp2
  go_ret
  exact ⟨rfl, A, c, g1, g2, f1.below hb4, own_below hown3 hb4 (Nat.le_refl _), hc3.and_below hb4⟩
set_option maxRecDepth 100000 in
set_option maxHeartbeats 4000000 in
theorem ban_again (gl : Nat) (ops : List Value) (x : List UInt8) (A : Option Addr) (c : Nat) (w : World) (hb : Blk w gl (lgCells (.slice A 1 c)) 30) (hx : ops[2]? = some (tx x)) (ha : Ids.agent x = true) (hl : x.length ≤ 1000) (hts : Ts w A 1 [x]) :
    Calls Tryz.prog 47 #[.pointer (some ⟨gl, 0, none⟩), .agg ops.toArray] w fun e w' => e = .returned (.int .i64 8) ∧ Below w.heap.size w w' := by
  have hglt := hb.lt
  obtain ⟨W, hW⟩ : ∃ W, w.alloc (.cells ops.toArray 47) = W := ⟨_, rfl⟩
  have b0 : Blk W w.heap.size ops 47 := by rw [← hW]; exact Blk.new w ops _
  have b1 : Blk W gl (lgCells (.slice A 1 c)) 30 := by rw [← hW]; exact hb.alloc _
  have hbW : Below w.heap.size w W := by rw [← hW]; exact (Below.refl _ _).alloc (Nat.le_refl _) _
  have hag := agent_any x W (by omega)
  rw [ha] at hag
  have k2 : (w.alloc (.cells ops.toArray 47)).cell? ⟨w.heap.size, 2, none⟩ = some (.string (str x)) := by rw [hW]; exact (b0.cell 2).trans hx
  have HW := Lib.hid hW
  clear hW
  go_enter Tryz.func47, Tryz.ntmps47
  go_wp2_with fail
  rw [HW.out]
  refine hag.mono ?_
  rintro e w1 ⟨rfl, hb1⟩
  have c0 := b0.below hb1
  have c1 := b1.below hb1
  have m2 : w1.cell? ⟨w.heap.size, 2, none⟩ = some (.string (str x)) := (c0.cell 2).trans hx
  have m3 : w1.cell? ⟨gl, 2, none⟩ = some (.slice A 1 c) := c1.cell 2
  have hbw1 : Below w.heap.size w w1 := hbW.trans (hb1.mono hbW.size)
  have hct := fun n => contains_one A c x (w1.drewN n) (Ts.below (Ts.below hts hbw1) ⟨rfl, rfl, rfl, Nat.le_refl _, fun _ _ => rfl⟩)
  go_wp2_with fail
  go_quiet ((go_at_call 90; exact quiet_of ((hct _).mono fun e w' ⟨he, hw⟩ => ⟨he, hw.symm⟩)))
  have hby : Below w.heap.size w (w1.drewN nq) := ⟨hbw1.os, hbw1.tape, hbw1.output, by simpa using hbw1.size, fun i hi => by simpa using hbw1.block i hi⟩
  go_wp2
  go_ret
  exact ⟨rfl, hby⟩
end Go.Proofs.YtmbpnkacggngkaaGreatDoor
