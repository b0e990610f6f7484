/- What was saved of an agent is so again, if it may be.
The card ties the listed variables (two tables of Go's library) to the program's text; no other condition is added: the type is the given constant. -/
import Derived.Test.YtgalhnobckoneaaGreatDoorRows
import Derived.Test.YtgalhnobckoneaaGreatDoorTie
import Derived.Test.YtgalhnobckoneaaGreatDoorCards
import Derived.Test.YtgalhnobckoneaaGreatDoorAgTab
import Derived.WalkKit
import Derived.ProofKit
import Derived.OpenShut
import Derived.ShutString
import Derived.ChangeOld
import Derived.Below
import Derived.LaidMore
import Derived.Lay
import Derived.SevenTiedAt
import Derived.Stop.Joined
namespace Go.Proofs.YtgalhnobckoneaaGreatDoor
open Go
namespace agentResumes
open Go.ChangeShapes Go.WideShapes Go.ChangeAt Go.RowKit
open Go.ChangeMaps (open_string shut_string)
theorem own : ownKnob Tryz.prog.godebug = none := by kernel_rfl
theorem laidOut : laidOutB Tryz.prog = true := by kernel_rfl
set_option maxRecDepth 100000 in
theorem lifted (os : Os) (started : os.Started) (H : Type) (enc : TypeId × Value → H) :
    ReturnsInHanded {} Tryz.checked os 3 .any (fun w args => (Rows.agentResumesSpec.pre enc Tryz.prog Tryz.f3 Rows.agentResumesRow.domain false w args ∧ laidMetH Tryz.prog Rows.agentResumesRow.laid w) ∧ sizedMet enc Tryz.prog Tryz.f3 (OpenSpec.ofChange Rows.agentResumesSpec) false w args)
      (Rows.agentResumesSpec.post enc Tryz.prog Tryz.f3 false true false false) := by
  refine returnsInHanded_of_change_and (C := Tryz.checked) (X := fun w _ => laidMetH Tryz.prog Rows.agentResumesRow.laid w) (fun _ _ _ hh h => h.of_heap hh) own started (by kernel_rfl) Tryz.func3
    (ChangeSpec.witness_shaped (enc := enc) (C := Tryz.checked) (os := os) (X := fun w _ => laidMetH Tryz.prog Rows.agentResumesRow.laid w) false (World.laidAll Tryz.prog os Rows.agentResumesRow.laid) #[.int .i64 0, .int .i64 0, .int .i64 0] 8 (World.laidAll_os _ _ _)
      (World.shaped_of_ZipB (by kernel_rfl) (by kernel_rfl)) (by kernel_rfl) (by kernel_rfl) (by kernel_rfl)
      (by rw [MakeChecks.laidMetH_plain _ _ _ (by kernel_rfl)]; exact laidMet_laidAll _ (by kernel_rfl) (by kernel_rfl))) ?_
  intro W base args ds gs before hval0 hW _ _ hL _
  rw [MakeChecks.laidMetH_plain _ _ _ (by kernel_rfl)] at hL
  have hTabM : Cry.TabM W := steps_tabM hL
  have hval : ∀ (j : Nat) t v, Tryz.f3.params[j]? = some t → args[j]? = some v → Value.okWide Tryz.prog W .any base t v := hval0
  have hW' := hW
  obtain ⟨p, q, hA0, hV, rfl, _, _⟩ := hW
  have hA : DataW.TrodAll enc Tryz.prog W 0 (fun _ => true) true Tryz.f3.params.toList args.toList ds p := hA0
  rw [Tryz.params3] at hA hval
  obtain ⟨v0, vs0, d0, ds0, p0, q0, hargs, rfl, rfl, h0, r0⟩ := trodAll_cons hA
  obtain ⟨v1, vs1, d1, ds1, p1, q1, rfl, rfl, rfl, h1, r1⟩ := trodAll_cons r0
  obtain ⟨v2, vs2, d2, ds2, p2, q2, rfl, rfl, rfl, h2, r2⟩ := trodAll_cons r1
  obtain ⟨rfl, rfl, rfl⟩ := trodAll_nil r2
  obtain rfl : args = #[v0, v1, v2] := by cases args; simp_all
  obtain ⟨rfl, rfl⟩ := trodVars_none hV
  obtain ⟨x0, rfl, rfl, rfl, wx0⟩ := open_int Tryz.underlying3 (hval 0 3 v0 rfl rfl) h0
  obtain ⟨x1, rfl, rfl, rfl, wx1⟩ := open_int Tryz.underlying3 (hval 1 3 v1 rfl rfl) h1
  obtain ⟨x2, rfl, rfl, rfl, wx2⟩ := open_int Tryz.underlying3 (hval 2 3 v2 rfl rfl) h2
  clear hA0 hval0
  refine (agentResumes_in x0 x1 x2 W hTabM wx0 wx1 wx2).mono fun e W' ⟨he, bel⟩ => ?_
  subst he
  exact ⟨_, rfl, _, _, _, [], _, [], hW', trodAll_mk1 (shut_bool Tryz.underlying4 _), (trodAll_cons_mk (shut_int Tryz.underlying3 wx0) (trodAll_cons_mk (shut_int Tryz.underlying3 wx1) (trodAll_cons_mk (shut_int Tryz.underlying3 wx2) trodAll_mk0))), by first | rfl | simp, bel.frame _, fun h => by cases h⟩
end agentResumes
theorem agentResumes.fact0 : mapsRowed Tryz.prog = true := by kernel_rfl
theorem agentResumes.fact1 : (Rows.agentResumesRow.inPlace == Tryz.prog.inPlace 3) = true := by kernel_rfl
theorem agentResumes.fact2 : (Rows.agentResumesRow.unfollowed == Tryz.prog.unfollowed 3) = true := by kernel_rfl
theorem agentResumes.fact3 : (Rows.agentResumesRow.recurses == Tryz.prog.recurses 3) = true := by kernel_rfl
theorem agentResumes.fact4 : (Rows.agentResumesRow.named == Tryz.prog.varsNamed 3) = true := by kernel_rfl
theorem agentResumes.fact5 : Tryz.prog.stopsHeard = true := by kernel_rfl
theorem agentResumes.fact6 : Tryz.prog.mayEnter = true := by kernel_rfl
theorem agentResumes.fact7 : (Rows.agentResumesRow.lifted == Tryz.prog.liftsFinal) = true := by kernel_rfl
theorem agentResumes.and_t {a b : Bool} (ha : a = true) (hb : b = true) : (a && b) = true := by rw [ha, hb]; rfl
theorem agentResumes.joined : joinedFacts Tryz.prog 3 Tryz.f3 Rows.agentResumesSpec Rows.agentResumesRow = true := by
  unfold joinedFacts
  exact agentResumes.and_t (agentResumes.and_t (agentResumes.and_t (agentResumes.and_t (agentResumes.and_t (agentResumes.and_t (agentResumes.and_t (agentResumes.and_t (agentResumes.and_t (agentResumes.and_t (agentResumes.and_t (agentResumes.and_t (agentResumes.and_t (agentResumes.and_t (agentResumes.and_t (agentResumes.and_t (agentResumes.and_t (agentResumes.and_t (agentResumes.and_t (agentResumes.and_t (agentResumes.and_t (agentResumes.and_t (agentResumes.and_t (agentResumes.and_t (agentResumes.and_t (agentResumes.and_t (agentResumes.and_t (agentResumes.and_t (agentResumes.and_t (agentResumes.and_t (agentResumes.and_t ((by kernel_rfl)) agentResumes.laidOut) agentResumes.fact0) (by kernel_rfl)) (by kernel_rfl)) (by kernel_rfl)) (by kernel_rfl)) (by kernel_rfl)) (by kernel_rfl)) agentResumes.fact1) agentResumes.fact2) agentResumes.fact3) agentResumes.fact4) (by kernel_rfl)) (by kernel_rfl)) (by kernel_rfl)) (by kernel_rfl)) (by kernel_rfl)) (by kernel_rfl)) (by kernel_rfl)) (by kernel_rfl)) (by kernel_rfl)) (by kernel_rfl)) (by kernel_rfl)) agentResumes.fact5) agentResumes.fact6) agentResumes.fact7) (by kernel_rfl)) (by kernel_rfl)) (by kernel_rfl)) (by kernel_rfl)) (by kernel_rfl)
theorem agentResumes_row_holds : Rows.AgentResumesSaid :=
  OpenClaim.holds_of_wide 3 Tryz.f3 rfl rfl rfl rfl rfl rfl rfl ⟨rfl, rfl, rfl, rfl, rfl⟩ rfl rfl rfl rfl rfl (by kernel_rfl) Tryz.func3 agentResumes.joined
    (of_decide_eq_true (by kernel_rfl)) (by unfold Func.isWrapper; first | (rw [if_pos (by decide +kernel)]; kernel_rfl) | (rw [if_neg (by decide +kernel)]; exact ⟨rfl, rfl⟩))
    (fun os started H enc _ => agentResumes.lifted os started H enc)
theorem agentResumes_holds : Rows.AgentResumesCardSaid :=
  Claim7.holds_tied_plain_at .later [] Rows.agentResumesCard.laidKinds true Rows.agentResumesCard.stood.harness false agentResumes_row_holds (fun _ h => by cases h) (by kernel_rfl) (fun _ h => by cases h) agentResumes_row_tie rfl ⟨rfl, rfl⟩ (by kernel_rfl) rfl
    (fun f fn hf hfn => by
      obtain rfl : f = 3 := Option.some.inj ((show Tryz.prog.funcNamed Rows.agentResumesRow.func = some 3 by kernel_rfl).symm.trans hf) |>.symm
      obtain rfl : fn = Tryz.f3 := (Option.some.inj (Tryz.func3.symm.trans hfn)).symm
      exact ⟨by kernel_rfl, fun j t ht => by
        rw [Tryz.params3] at ht
        have hm : t ∈ [3, 3, 3] := by simpa using Array.mem_of_getElem? ht
        have hall : ([3, 3, 3].all fun u => !Tryz.prog.wantsStandIn u) = true := by kernel_rfl
        exact (show Tryz.prog.wantsStandIn t = false by simpa using List.all_eq_true.1 hall t hm)⟩)
    (by kernel_rfl)
#print axioms agentResumes_holds
end Go.Proofs.YtgalhnobckoneaaGreatDoor
