/- THE WALK of doers. -/
import Derived.Test.YtmbpnkacggngkaaGreatDoorLedMap
namespace Go.Proofs.YtmbpnkacggngkaaGreatDoor
open Go.RowKit Mem

def doL : List (Int × Value) := [(1, .func (.func 42) #[] #[]), (2, .func (.func 43) #[] #[]), (3, .func (.func 44) #[] #[]), (4, .func (.func 45) #[] #[]), (5, .func (.func 46) #[] #[]), (6, .func (.func 47) #[] #[]), (7, .func (.func 48) #[] #[]), (8, .func (.func 49) #[] #[]), (9, .func (.func 50) #[] #[]), (10, .func (.func 51) #[] #[]), (11, .func (.func 52) #[] #[]), (12, .func (.func 53) #[] #[]), (13, .func (.func 54) #[] #[]), (14, .func (.func 55) #[] #[]), (101, .func (.func 56) #[] #[]), (103, .func (.func 56) #[] #[]), (105, .func (.func 56) #[] #[]), (106, .func (.func 56) #[] #[]), (109, .func (.func 56) #[] #[]), (112, .func (.func 56) #[] #[])]
/-- The map behind j entries. -/
def mo (j : Nat) : Obj := mobj (doL.take j)
theorem mo_zero : (.map #[] 0 : Obj) = mo 0 := rfl
set_option maxRecDepth 100000 in
set_option maxHeartbeats 2000000 in
theorem doers_any (w : World) : Calls Tryz.prog 26 #[] w fun e w' => e = .returned (.map (some w.heap.size)) ∧ w' = w.alloc (mo 20) := by
  have hm := @run_makeMap Tryz.prog
  have i0 : (Instr.mapUpdate 73 (.map (some w.heap.size)) (.int .i64 1) (.func (.func 42) #[] #[])).run Tryz.prog (w.alloc (.map #[] 0)) = .ok () (w.alloc (mo 1)) := run_insert_last (P := Tryz.prog) w (doL.take 0) 1 (.func (.func 42) #[] #[]) _ _ _ Tryz.underlying73 Tryz.underlying3 rfl
  have i1 : (Instr.mapUpdate 73 (.map (some w.heap.size)) (.int .i64 2) (.func (.func 43) #[] #[])).run Tryz.prog (w.alloc (mo 1)) = .ok () (w.alloc (mo 2)) := run_insert_last (P := Tryz.prog) w (doL.take 1) 2 (.func (.func 43) #[] #[]) _ _ _ Tryz.underlying73 Tryz.underlying3 rfl
  have i2 : (Instr.mapUpdate 73 (.map (some w.heap.size)) (.int .i64 3) (.func (.func 44) #[] #[])).run Tryz.prog (w.alloc (mo 2)) = .ok () (w.alloc (mo 3)) := run_insert_last (P := Tryz.prog) w (doL.take 2) 3 (.func (.func 44) #[] #[]) _ _ _ Tryz.underlying73 Tryz.underlying3 rfl
  have i3 : (Instr.mapUpdate 73 (.map (some w.heap.size)) (.int .i64 4) (.func (.func 45) #[] #[])).run Tryz.prog (w.alloc (mo 3)) = .ok () (w.alloc (mo 4)) := run_insert_last (P := Tryz.prog) w (doL.take 3) 4 (.func (.func 45) #[] #[]) _ _ _ Tryz.underlying73 Tryz.underlying3 rfl
  have i4 : (Instr.mapUpdate 73 (.map (some w.heap.size)) (.int .i64 5) (.func (.func 46) #[] #[])).run Tryz.prog (w.alloc (mo 4)) = .ok () (w.alloc (mo 5)) := run_insert_last (P := Tryz.prog) w (doL.take 4) 5 (.func (.func 46) #[] #[]) _ _ _ Tryz.underlying73 Tryz.underlying3 rfl
  have i5 : (Instr.mapUpdate 73 (.map (some w.heap.size)) (.int .i64 6) (.func (.func 47) #[] #[])).run Tryz.prog (w.alloc (mo 5)) = .ok () (w.alloc (mo 6)) := run_insert_last (P := Tryz.prog) w (doL.take 5) 6 (.func (.func 47) #[] #[]) _ _ _ Tryz.underlying73 Tryz.underlying3 rfl
  have i6 : (Instr.mapUpdate 73 (.map (some w.heap.size)) (.int .i64 7) (.func (.func 48) #[] #[])).run Tryz.prog (w.alloc (mo 6)) = .ok () (w.alloc (mo 7)) := run_insert_last (P := Tryz.prog) w (doL.take 6) 7 (.func (.func 48) #[] #[]) _ _ _ Tryz.underlying73 Tryz.underlying3 rfl
  have i7 : (Instr.mapUpdate 73 (.map (some w.heap.size)) (.int .i64 8) (.func (.func 49) #[] #[])).run Tryz.prog (w.alloc (mo 7)) = .ok () (w.alloc (mo 8)) := run_insert_last (P := Tryz.prog) w (doL.take 7) 8 (.func (.func 49) #[] #[]) _ _ _ Tryz.underlying73 Tryz.underlying3 rfl
  have i8 : (Instr.mapUpdate 73 (.map (some w.heap.size)) (.int .i64 9) (.func (.func 50) #[] #[])).run Tryz.prog (w.alloc (mo 8)) = .ok () (w.alloc (mo 9)) := run_insert_last (P := Tryz.prog) w (doL.take 8) 9 (.func (.func 50) #[] #[]) _ _ _ Tryz.underlying73 Tryz.underlying3 rfl
  have i9 : (Instr.mapUpdate 73 (.map (some w.heap.size)) (.int .i64 10) (.func (.func 51) #[] #[])).run Tryz.prog (w.alloc (mo 9)) = .ok () (w.alloc (mo 10)) := run_insert_last (P := Tryz.prog) w (doL.take 9) 10 (.func (.func 51) #[] #[]) _ _ _ Tryz.underlying73 Tryz.underlying3 rfl
  have i10 : (Instr.mapUpdate 73 (.map (some w.heap.size)) (.int .i64 11) (.func (.func 52) #[] #[])).run Tryz.prog (w.alloc (mo 10)) = .ok () (w.alloc (mo 11)) := run_insert_last (P := Tryz.prog) w (doL.take 10) 11 (.func (.func 52) #[] #[]) _ _ _ Tryz.underlying73 Tryz.underlying3 rfl
  have i11 : (Instr.mapUpdate 73 (.map (some w.heap.size)) (.int .i64 12) (.func (.func 53) #[] #[])).run Tryz.prog (w.alloc (mo 11)) = .ok () (w.alloc (mo 12)) := run_insert_last (P := Tryz.prog) w (doL.take 11) 12 (.func (.func 53) #[] #[]) _ _ _ Tryz.underlying73 Tryz.underlying3 rfl
  have i12 : (Instr.mapUpdate 73 (.map (some w.heap.size)) (.int .i64 13) (.func (.func 54) #[] #[])).run Tryz.prog (w.alloc (mo 12)) = .ok () (w.alloc (mo 13)) := run_insert_last (P := Tryz.prog) w (doL.take 12) 13 (.func (.func 54) #[] #[]) _ _ _ Tryz.underlying73 Tryz.underlying3 rfl
  have i13 : (Instr.mapUpdate 73 (.map (some w.heap.size)) (.int .i64 14) (.func (.func 55) #[] #[])).run Tryz.prog (w.alloc (mo 13)) = .ok () (w.alloc (mo 14)) := run_insert_last (P := Tryz.prog) w (doL.take 13) 14 (.func (.func 55) #[] #[]) _ _ _ Tryz.underlying73 Tryz.underlying3 rfl
  have i14 : (Instr.mapUpdate 73 (.map (some w.heap.size)) (.int .i64 101) (.func (.func 56) #[] #[])).run Tryz.prog (w.alloc (mo 14)) = .ok () (w.alloc (mo 15)) := run_insert_last (P := Tryz.prog) w (doL.take 14) 101 (.func (.func 56) #[] #[]) _ _ _ Tryz.underlying73 Tryz.underlying3 rfl
  have i15 : (Instr.mapUpdate 73 (.map (some w.heap.size)) (.int .i64 103) (.func (.func 56) #[] #[])).run Tryz.prog (w.alloc (mo 15)) = .ok () (w.alloc (mo 16)) := run_insert_last (P := Tryz.prog) w (doL.take 15) 103 (.func (.func 56) #[] #[]) _ _ _ Tryz.underlying73 Tryz.underlying3 rfl
  have i16 : (Instr.mapUpdate 73 (.map (some w.heap.size)) (.int .i64 105) (.func (.func 56) #[] #[])).run Tryz.prog (w.alloc (mo 16)) = .ok () (w.alloc (mo 17)) := run_insert_last (P := Tryz.prog) w (doL.take 16) 105 (.func (.func 56) #[] #[]) _ _ _ Tryz.underlying73 Tryz.underlying3 rfl
  have i17 : (Instr.mapUpdate 73 (.map (some w.heap.size)) (.int .i64 106) (.func (.func 56) #[] #[])).run Tryz.prog (w.alloc (mo 17)) = .ok () (w.alloc (mo 18)) := run_insert_last (P := Tryz.prog) w (doL.take 17) 106 (.func (.func 56) #[] #[]) _ _ _ Tryz.underlying73 Tryz.underlying3 rfl
  have i18 : (Instr.mapUpdate 73 (.map (some w.heap.size)) (.int .i64 109) (.func (.func 56) #[] #[])).run Tryz.prog (w.alloc (mo 18)) = .ok () (w.alloc (mo 19)) := run_insert_last (P := Tryz.prog) w (doL.take 18) 109 (.func (.func 56) #[] #[]) _ _ _ Tryz.underlying73 Tryz.underlying3 rfl
  have i19 : (Instr.mapUpdate 73 (.map (some w.heap.size)) (.int .i64 112) (.func (.func 56) #[] #[])).run Tryz.prog (w.alloc (mo 19)) = .ok () (w.alloc (mo 20)) := run_insert_last (P := Tryz.prog) w (doL.take 19) 112 (.func (.func 56) #[] #[]) _ _ _ Tryz.underlying73 Tryz.underlying3 rfl
  go_enter Tryz.func26, Tryz.ntmps26
  go_wp2
  go_ret
  exact ⟨rfl, rfl⟩
end Go.Proofs.YtmbpnkacggngkaaGreatDoor
