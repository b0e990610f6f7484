/- THE WALKS of the agent: a token of no bytes; the example; the walk of AgentResumes. -/
import Derived.Test.YtgalhnobckoneaaGreatDoorAgB
namespace Go.Proofs.YtgalhnobckoneaaGreatDoor
open Go.RowKit Mem
namespace Ag
open Cry

theorem results_mid {P : Program} {fn : Func} {r p s : Tmp} {ty : TypeId} (h : fn.results = #[.tmp r, .cell p ty, .tmp s]) (tmps : Array Value) (w : World) (g o n : Nat) (d : TypeDesc)
    (hp : tmps.getD p undef = .pointer (some ⟨g, o, none⟩)) (hu : P.underlying ty = some d) (hd : (match d with | .struct _ | .array _ _ => true | _ => false) = true) (hi : (P.info? ty).map (·.size) = some n) (hh : Has w g o n) :
    (results fn tmps).run P w = .ok (.tuple #[tmps.getD r undef, .agg (Mem.arr w g o n), tmps.getD s undef]) w := by
  have hp' : tmps[p]?.getD undef = .pointer (some ⟨g, o, none⟩) := by simpa using hp
  have hl := run_load_arr (P := P) w ty g o n d hu hd hi hh
  simp only [Instr.loadAt, Instr.sureAddr, Sem.run_bind, Sem.run_pure, Result.andThen_ok] at hl
  simp [results, h, hp', asAddr, hl]
theorem split_nil (w : World) : Calls Tryz.prog 73 #[.string ⟨#[]⟩, .string ⟨#[46]⟩] w fun e w' => e = .returned (.slice (some ⟨w.heap.size, 0, none⟩) 1 1) ∧ Below w.heap.size w w' := by
  have h1 : 1 ≤ (⟨#[46]⟩ : ByteArray).size := by decide
  have h0 : (⟨#[]⟩ : ByteArray).size = 0 := rfl
  have hcb : Lib.countB ⟨#[]⟩ ⟨#[46]⟩ = 0 := by decide
  have c := Any.strings_genSplit_core Tryz.lays221 (by kernel_rfl) ⟨#[]⟩ ⟨#[46]⟩ 0 (-1) (Lib.countB ⟨#[]⟩ ⟨#[46]⟩ + 1) w (by omega) h1 (Nat.zero_le _)
    (fun x cs _ => (Any.strings_Index_one Tryz.lays143 x 46 _).mono fun e w' ⟨he, hw⟩ => ⟨by rw [he]; congr 2; exact (Lib.index_one x.data.toList 46).symm, hw⟩)
    ((Any.strings_Count_one Tryz.lays138 ⟨#[]⟩ 46 w).mono fun e w' ⟨he, hw⟩ => ⟨by rw [he]; congr 3 <;> exact (Lib.count_one 46 []).symm, hw⟩)
    (by decide) (by decide) (by rw [if_pos (by decide)]; omega)
  rw [hcb] at c
  go_enter Tryz.func73, Tryz.ntmps73
  go_wp2_with fail
  refine c.mono ?_
  rintro e w' ⟨rfl, hw⟩
  rw [hw]
  have hsp : (Lib.splitB ⟨#[46]⟩ 0 (0 + 1 - 1) ⟨#[]⟩).length = 1 := by decide
  rw [hsp]
  go_wp2
  go_ret
  exact ⟨rfl, (Below.refl _ _).alloc (Nat.le_refl _) _⟩
def zc : List Value := [.string ⟨#[]⟩, .slice none 0 0, .int .i64 0, .int .i64 0]
set_option maxRecDepth 100000 in
set_option maxHeartbeats 4000000 in
theorem jread_nil (w : World) : Calls Tryz.prog 60 #[.string ⟨#[]⟩] w fun e w' => e = .returned (.tuple #[.string ⟨#[]⟩, .agg zc.toArray, .int .i64 13]) ∧ Below w.heap.size w w' := by
  obtain ⟨W, HW, R, hbw, hz⟩ := boxes1 w zc 109
  go_enter Tryz.func60, Tryz.ntmps60
  go_upto_region 1 with fail
  rw [show (w.alloc (.cells #[.string ⟨#[]⟩, .slice none 0 0, .int .i64 0, .int .i64 0] 109)) = W from HW.out]
  clear HW
  go_wp2_with fail
  refine (split_nil W).mono ?_
  rintro e w1 ⟨rfl, hb1⟩
  have R1 := R.below hb1
  have x0 : w1.cell? ⟨w.heap.size, 0, none⟩ = some (.string ⟨#[]⟩) := R1.cell 0
  have x1 : w1.cell? ⟨w.heap.size, 1, none⟩ = some (.slice none 0 0) := R1.cell 1
  have x2 : w1.cell? ⟨w.heap.size, 2, none⟩ = some (.int .i64 0) := R1.cell 2
  have x3 : w1.cell? ⟨w.heap.size, 3, none⟩ = some (.int .i64 0) := R1.cell 3
  have f := fun k => R1.froz k
  have R2 := (((R1.set 0 (.string ⟨#[]⟩)).set 1 (.slice none 0 0)).set 2 (.int .i64 0)).set 3 (.int .i64 0)
  have r1 := blk_has R2 (n := 4) rfl
  have r2 := blk_arr R2 (n := 4) rfl
  have hb2 := ((((hbw.trans (hb1.mono hbw.size)).setCell (p := ⟨w.heap.size, 0, none⟩) (Nat.le_refl _) (.string ⟨#[]⟩)).setCell (p := ⟨w.heap.size, 1, none⟩) (Nat.le_refl _) (.slice none 0 0)).setCell (p := ⟨w.heap.size, 2, none⟩) (Nat.le_refl _) (.int .i64 0)).setCell (p := ⟨w.heap.size, 3, none⟩) (Nat.le_refl _) (.int .i64 0)
  go_wp2
  refine bodyPost_ret (results_mid (P := Tryz.prog) Tryz.results60 _ _ w.heap.size 0 4 _ rfl Tryz.underlying109 rfl (by kernel_rfl) r1) rfl ?_
  exact ⟨by rw [r2]; rfl, hb2⟩
set_option maxRecDepth 100000 in
set_option maxHeartbeats 4000000 in
theorem validate_nil (g : Nat) (s : ByteArray) (now : Int) (w : World) : Calls Tryz.prog 26 #[.pointer (some ⟨g, 0, none⟩), .string ⟨#[]⟩, .string s, .int .i64 now] w fun e w' => e = .returned (.tuple #[.string ⟨#[]⟩, .int .i64 13]) ∧ Below w.heap.size w w' := by
  go_enter Tryz.func26, Tryz.ntmps26
  go_wp2_with fail
  refine (jread_nil _).mono ?_
  rintro e w1 ⟨rfl, hb1⟩
  unfold zc
  obtain ⟨W3, HW3, R, C, hb3, hz3⟩ := boxes2 w1 [.string ⟨#[]⟩] 9 zc 109
  have x0 : W3.cell? ⟨w1.heap.size, 0, none⟩ = some (.string ⟨#[]⟩) := R.cell 0
  have y0 : W3.cell? ⟨w1.heap.size + 1, 0, none⟩ = some (.string ⟨#[]⟩) := C.cell 0
  have y1 : W3.cell? ⟨w1.heap.size + 1, 1, none⟩ = some (.slice none 0 0) := C.cell 1
  have y2 : W3.cell? ⟨w1.heap.size + 1, 2, none⟩ = some (.int .i64 0) := C.cell 2
  have y3 : W3.cell? ⟨w1.heap.size + 1, 3, none⟩ = some (.int .i64 0) := C.cell 3
  have f0 := fun k => R.froz k
  have f1 := fun k => C.froz k
  have hb := hb1.trans (hb3.mono hb1.size)
  go_upto_region 2 with fail
  rw [show ((w1.alloc (.cells #[.string ⟨#[]⟩] 9)).alloc (.cells #[.string ⟨#[]⟩, .slice none 0 0, .int .i64 0, .int .i64 0] 109)) = W3 from HW3.out]
  clear HW3
  go_wp2
  go_ret2
  exact ⟨rfl, hb⟩
end Ag
end Go.Proofs.YtgalhnobckoneaaGreatDoor
