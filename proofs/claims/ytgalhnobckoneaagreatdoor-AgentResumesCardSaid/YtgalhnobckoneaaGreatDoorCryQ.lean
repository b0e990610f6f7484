/- WHAT the agent's texts take besides. -/
import Derived.Test.YtgalhnobckoneaaGreatDoorCryO
namespace Go.Proofs.YtgalhnobckoneaaGreatDoor
open Go.RowKit Mem
namespace Cry
theorem results_arr2 {P : Program} {fn : Func} {p s : Tmp} {ty : TypeId} (h : fn.results = #[.cell p ty, .tmp s]) (tmps : Array Value) (w : World) (g o n : Nat) (d : TypeDesc)
    (hp : tmps.getD p undef = .pointer (some ⟨g, o, none⟩)) (hu : P.underlying ty = some d) (hd : (match d with | .struct _ | .array _ _ => true | _ => false) = true) (hi : (P.info? ty).map (·.size) = some n) (hh : Has w g o n) :
    (results fn tmps).run P w = .ok (.tuple #[.agg (Mem.arr w g o n), tmps.getD s undef]) w := by
  have hp' : tmps[p]?.getD undef = .pointer (some ⟨g, o, none⟩) := by simpa using hp
  have hl := run_load_arr (P := P) w ty g o n d hu hd hi hh
  simp only [Instr.loadAt, Instr.sureAddr, Sem.run_bind, Sem.run_pure, Result.andThen_ok] at hl
  simp [results, h, hp', asAddr, hl]
end Cry
end Go.Proofs.YtgalhnobckoneaaGreatDoor
