/- THE WALKS of goneEntry, evict, ban on a ledger of which all lists but the bans are nil. -/
import Derived.Test.YtmbpnkacggngkaaGreatDoorLedNil
import Derived.Test.YtmbpnkacggngkaaGreatDoorLedDec
import Derived.Test.YtmbpnkacggngkaaGreatDoorIdsMake
import Derived.Test.YtmbpnkacggngkaaGreatDoorShelf
import Derived.BigQuiet
import Derived.Deep.RegionWith
namespace Go.Proofs.YtmbpnkacggngkaaGreatDoor
open Go.RowKit Mem Led

theorem quiet_of {P : Program} {f : FuncId} {args : Array Value} {w : World} {n : Nat} {v : Value}
    (h : Calls P f args (w.drewN n) fun e w' => e = .returned v ∧ w.drewN n = w') : Calls P f args (w.drewN n) fun e w'' => e = .returned v ∧ ∃ m, w'' = w.drewN m :=
  h.mono fun _ _ ⟨he, hm⟩ => ⟨he, n, hm.symm⟩
/-- A ledger's cells of which all lists but the bans are nil. -/
def lgCells (v : Value) : List Value := [.slice none 0 0, .slice none 0 0, v, .slice none 0 0, .slice none 0 0, .slice none 0 0]
theorem goneEntry_nil (gl : Nat) (ops : List Value) (v : Value) (w : World) (hb : Blk w gl (lgCells v) 30) :
    Calls Tryz.prog 43 #[.pointer (some ⟨gl, 0, none⟩), .agg ops.toArray] w fun e w' => e = .returned (.int .i64 7) ∧ Below w.heap.size w w' := by
  have h0 : ∀ o, (w.alloc o).cell? ⟨gl, 0, none⟩ = some (.slice none 0 0) := fun o => (hb.alloc o).cell 0
  have hg := fun o f => goneEntries_nil gl 0 f (w.alloc o) (h0 o)
  go_enter Tryz.func43, Tryz.ntmps43
  go_wp2_with fail
  refine (hg _ _).mono ?_
  rintro e w1 ⟨rfl, rfl⟩
  go_wp2
  go_ret
  exact ⟨rfl, (Below.refl _ _).alloc (Nat.le_refl _) _⟩
theorem evict_nil (gl : Nat) (ops : List Value) (v : Value) (w : World) (hb : Blk w gl (lgCells v) 30) :
    Calls Tryz.prog 49 #[.pointer (some ⟨gl, 0, none⟩), .agg ops.toArray] w fun e w' => e = .returned (.int .i64 7) ∧ Below w.heap.size w w' := by
  have h0 : ∀ o, (w.alloc o).cell? ⟨gl, 1, none⟩ = some (.slice none 0 0) := fun o => (hb.alloc o).cell 1
  have hg := fun o f => goneNodes_nil gl 1 f (w.alloc o) (h0 o)
  go_enter Tryz.func49, Tryz.ntmps49
  go_wp2_with fail
  refine (hg _ _).mono ?_
  rintro e w1 ⟨rfl, rfl⟩
  go_wp2
  go_ret
  exact ⟨rfl, (Below.refl _ _).alloc (Nat.le_refl _) _⟩
theorem contains_one (A : Option Addr) (c : Nat) (x : List UInt8) (w : World) (h : Ts w A 1 [x]) :
    Calls Tryz.prog 90 #[.slice A 1 c, .string (str x)] w fun e w' => e = .returned (.bool true) ∧ w' = w := by
  obtain ⟨b, off, rfl, hc⟩ := h.lit (i := 0) (by simp)
  refine (Tryz.slices_Contains_string b off 1 c [str x] (str x) w (by simp) (by omega) (fun j hj => ?_)).mono ?_
  · have : j = 0 := by simpa using hj
    subst this
    exact hc
  · rintro e w' ⟨rfl, rfl⟩
    exact ⟨by simp [Lib.containsS, Lib.idxOfS, Lib.idxFromS], rfl⟩
/-- A first ban. -/
def Banned (gl : Nat) (x : List UInt8) (w : World) (e : Ending) (w' : World) : Prop :=
  e = .returned (.int .i64 0) ∧ ∃ A c, 1 ≤ c ∧ c ≤ 9223372036854775807 ∧ Blk w' gl (lgCells (.slice A 1 c)) 30 ∧ w'.ownsRow w.heap.size 9 1 (.slice A 1 c) 1 (tv [x]) ∧ Chg [gl] w w'
set_option maxRecDepth 100000 in
set_option maxHeartbeats 4000000 in
theorem ban_nil (gl : Nat) (ops : List Value) (x : List UInt8) (w : World) (hb : Blk w gl (lgCells (.slice none 0 0)) 30) (h24 : ops.length = 24) (hx : ops[2]? = some (tx x)) (ha : Ids.agent x = true) (hl : x.length ≤ 1000) :
    Calls Tryz.prog 47 #[.pointer (some ⟨gl, 0, none⟩), .agg ops.toArray] w (Banned gl x w) := by
  have hglt := hb.lt
  obtain ⟨W, hW⟩ : ∃ W, w.alloc (.cells ops.toArray 47) = W := ⟨_, rfl⟩
  have b0 : Blk W w.heap.size ops 47 := by rw [← hW]; exact Blk.new w ops _
  have b1 : Blk W gl (lgCells (.slice none 0 0)) 30 := by rw [← hW]; exact hb.alloc _
  have hbW : Below w.heap.size w W := by rw [← hW]; exact (Below.refl _ _).alloc (Nat.le_refl _) _
  have hag := agent_any x W (by omega)
  rw [ha] at hag
  have k2 : (w.alloc (.cells ops.toArray 47)).cell? ⟨w.heap.size, 2, none⟩ = some (.string (str x)) := by rw [hW]; exact (b0.cell 2).trans hx
  have HW := Lib.hid hW
  clear hW
  go_enter Tryz.func47, Tryz.ntmps47
  go_wp2_with fail
  rw [HW.out]
  refine hag.mono ?_
  rintro e w1 ⟨rfl, hb1⟩
  have c0 := b0.below hb1
  have c1 := b1.below hb1
  have m2 : w1.cell? ⟨w.heap.size, 2, none⟩ = some (.string (str x)) := (c0.cell 2).trans hx
  have m3 : w1.cell? ⟨gl, 2, none⟩ = some (.slice none 0 0) := c1.cell 2
  have hz1 := hb1.size
  have hct := fun W => Tryz.slices_Contains_string_empty none 0 (str x) W
  have hbw1 : Below w.heap.size w w1 := hbW.trans (hb1.mono hbW.size)
  go_wp2_with fail
  go_quiet ((go_at_call 90; exact quiet_of ((hct _).mono fun e w' ⟨he, hw⟩ => ⟨he, hw.symm⟩)))
  obtain ⟨wy, hwy⟩ : ∃ wy, w1.drewN nq = wy := ⟨_, rfl⟩
  have d0 : Blk wy w.heap.size ops 47 := by rw [← hwy]; exact c0.drewN nq
  have d1 : Blk wy gl (lgCells (.slice none 0 0)) 30 := by rw [← hwy]; exact c1.drewN nq
  have hby : Below w.heap.size w wy := by rw [← hwy]; exact ⟨hbw1.os, hbw1.tape, hbw1.output, by simpa using hbw1.size, fun i hi => by simpa using hbw1.block i hi⟩
  rw [hwy]
  clear hwy c0 c1 m2 m3 hbw1 hb1 hz1 hct
  have e2 : wy.cell? ⟨w.heap.size, 2, none⟩ = some (.string (str x)) := (d0.cell 2).trans hx
  have hput := fun f => put_nil gl 2 x f wy.drew (d1.cell 2) (d1.froz 2)
  go_wp2_with fail
  go_region_with (go_at_call 95; refine (hput _).mono ?_; rintro e w2 ⟨rfl, A, c, w3, g1, g2, hb3, hown, rfl⟩)
  obtain ⟨W3, hW3⟩ : ∃ W3, w3.setCell ⟨gl, 2, none⟩ (.slice A 1 c) = W3 := ⟨_, rfl⟩
  have hby2 : Below w.heap.size w w3 := hby.drew.trans (hb3.mono hby.size)
  have f0 : Blk W3 w.heap.size ops 47 := by rw [← hW3]; exact (d0.drew.below hb3).set_ne (p := ⟨gl, 2, none⟩) (by simp; omega) _
  have f1 : Blk W3 gl (lgCells (.slice A 1 c)) 30 := by
    have := (d1.drew.below hb3).set 2 (.slice A 1 c)
    rw [← hW3]
    exact this
  have hown3 : W3.ownsRow w.heap.size 9 1 (.slice A 1 c) 1 (tv [x]) := by
    rw [← hW3]
    exact ownsRow_setCell_below (own_base hown hby.size) hglt _
  have hc3 : Chg [gl] w W3 := by rw [← hW3]; exact (Chg.of_below hby2).setCell (.inl (by simp)) _
  rw [hW3]
  clear hW3 hown hb3 d0 d1 hput hby2 e2
  have hld := load_op f0 h24
  have hev := evict_nil gl ops (.slice A 1 c) W3 f1
  go_wp2_with fail
  refine hev.mono ?_
  rintro e w4 ⟨rfl, hb4⟩
  go_wp2
  go_ret
  exact ⟨rfl, A, c, g1, g2, f1.below hb4, own_below hown3 hb4 (Nat.le_refl _), hc3.and_below hb4⟩
set_option maxRecDepth 100000 in
set_option maxHeartbeats 4000000 in
theorem ban_again (gl : Nat) (ops : List Value) (x : List UInt8) (A : Option Addr) (c : Nat) (w : World) (hb : Blk w gl (lgCells (.slice A 1 c)) 30) (hx : ops[2]? = some (tx x)) (ha : Ids.agent x = true) (hl : x.length ≤ 1000) (hts : Ts w A 1 [x]) :
    Calls Tryz.prog 47 #[.pointer (some ⟨gl, 0, none⟩), .agg ops.toArray] w fun e w' => e = .returned (.int .i64 8) ∧ Below w.heap.size w w' := by
  have hglt := hb.lt
  obtain ⟨W, hW⟩ : ∃ W, w.alloc (.cells ops.toArray 47) = W := ⟨_, rfl⟩
  have b0 : Blk W w.heap.size ops 47 := by rw [← hW]; exact Blk.new w ops _
  have b1 : Blk W gl (lgCells (.slice A 1 c)) 30 := by rw [← hW]; exact hb.alloc _
  have hbW : Below w.heap.size w W := by rw [← hW]; exact (Below.refl _ _).alloc (Nat.le_refl _) _
  have hag := agent_any x W (by omega)
  rw [ha] at hag
  have k2 : (w.alloc (.cells ops.toArray 47)).cell? ⟨w.heap.size, 2, none⟩ = some (.string (str x)) := by rw [hW]; exact (b0.cell 2).trans hx
  have HW := Lib.hid hW
  clear hW
  go_enter Tryz.func47, Tryz.ntmps47
  go_wp2_with fail
  rw [HW.out]
  refine hag.mono ?_
  rintro e w1 ⟨rfl, hb1⟩
  have c0 := b0.below hb1
  have c1 := b1.below hb1
  have m2 : w1.cell? ⟨w.heap.size, 2, none⟩ = some (.string (str x)) := (c0.cell 2).trans hx
  have m3 : w1.cell? ⟨gl, 2, none⟩ = some (.slice A 1 c) := c1.cell 2
  have hbw1 : Below w.heap.size w w1 := hbW.trans (hb1.mono hbW.size)
  have hct := fun n => contains_one A c x (w1.drewN n) (Ts.below (Ts.below hts hbw1) ⟨rfl, rfl, rfl, Nat.le_refl _, fun _ _ => rfl⟩)
  go_wp2_with fail
  go_quiet ((go_at_call 90; exact quiet_of ((hct _).mono fun e w' ⟨he, hw⟩ => ⟨he, hw.symm⟩)))
  have hby : Below w.heap.size w (w1.drewN nq) := ⟨hbw1.os, hbw1.tape, hbw1.output, by simpa using hbw1.size, fun i hi => by simpa using hbw1.block i hi⟩
  go_wp2
  go_ret
  exact ⟨rfl, hby⟩
end Go.Proofs.YtmbpnkacggngkaaGreatDoor
