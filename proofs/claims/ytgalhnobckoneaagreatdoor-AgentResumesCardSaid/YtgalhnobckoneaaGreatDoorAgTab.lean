/- THE TABLE OF STEPS, as the card lays it, all 80 words; the walk of AgentResumes as the frame wants it. -/
import Derived.Test.YtgalhnobckoneaaGreatDoorRows
import Derived.Test.YtgalhnobckoneaaGreatDoorAgD
import Derived.WalkKit
import Derived.ProofKit
import Derived.OpenShut
import Derived.LaidMore
import Derived.Lay
namespace Go.Proofs.YtgalhnobckoneaaGreatDoor
open Go.ChangeShapes Go.WideShapes Go.ChangeAt Go.RowKit
theorem steps_tabM {W : World} {r : List (String × DataW Unit)} (h : laidMet Tryz.prog (("brevet/sha.steps", Rows.laid_brevet_sha_steps) :: r) W) : Cry.TabM W := by
  obtain ⟨ps, ⟨g, t, cs, fuel, p, q, hg, ht, hv, hd, _, _⟩, _, _⟩ := h
  obtain rfl := Option.some.inj ((show Tryz.prog.globalNamed "brevet/sha.steps" = some 4 by kernel_rfl).symm.trans hg)
  obtain rfl := Option.some.inj ((show (Tryz.prog.globals[4]?).map (·.type) = some 300 by kernel_rfl).symm.trans ht)
  obtain ⟨xs, m, _, ex, _, hl, hel⟩ := DataW.trod_array Tryz.underlying300 hd
  have c5 : Tryz.prog.cellsOf 77 = 1 := by kernel_rfl
  intro k hk
  have hE := hel k hk
  rw [c5, Nat.mul_one, List.getElem?_eq_getElem (by omega)] at hE
  obtain ⟨z, e1, e2, _⟩ := DataW.trod_int Tryz.underlying77 hE
  refine ⟨z, ?_⟩
  rw [World.var?_cell hg hv k]
  have : cs.toList[k]? = some (.int .u64 z) := by
    have h0 : ((cs.toList.drop k).take 1)[0]? = some (.int .u64 z) := by rw [e1]; rfl
    simpa using h0
  simpa using this
theorem agentResumes_in (x0 x1 x2 : Int) (W : World) (hT : Cry.TabM W) (_ : (Lit.int .i64 x0).wf = true) (_ : (Lit.int .i64 x1).wf = true) (_ : (Lit.int .i64 x2).wf = true) : Calls Tryz.prog 3 #[.int .i64 x0, .int .i64 x1, .int .i64 x2] W fun e w' => e = .returned (.bool true) ∧ Below W.heap.size W w' := Ag.agentResumes_in x0 x1 x2 W hT
end Go.Proofs.YtgalhnobckoneaaGreatDoor
