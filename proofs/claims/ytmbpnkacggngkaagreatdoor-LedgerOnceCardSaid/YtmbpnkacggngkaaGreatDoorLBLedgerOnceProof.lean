/- LedgerOnce: a join token is used once.
The card ties the listed variables (two tables of Go's library) to the program's text; no other condition is added: the type is the given constant. -/
import Derived.Test.YtmbpnkacggngkaaGreatDoorRows
import Derived.Test.YtmbpnkacggngkaaGreatDoorTie
import Derived.Test.YtmbpnkacggngkaaGreatDoorCards
import Derived.WalkKit
import Derived.ProofKit
import Derived.OpenShut
import Derived.ShutString
import Derived.ChangeOld
import Derived.Below
import Derived.LaidMore
import Derived.Lay
import Derived.SevenTiedAt
import Derived.Stop.Joined
import Derived.Test.YtmbpnkacggngkaaGreatDoorLB15
import Derived.Test.YtmbpnkacggngkaaGreatDoorLBLedOnce
import Derived.Test.YtmbpnkacggngkaaGreatDoorLBOpen
section
namespace Go.Proofs.YtmbpnkacggngkaaGreatDoor
open Go
namespace ledgerOnce
open Go.ChangeShapes Go.WideShapes Go.ChangeAt Go.RowKit
open Go.ChangeMaps (open_string shut_string)
theorem own : ownKnob Tryz.prog.godebug = none := by kernel_rfl
theorem laidOut : laidOutB Tryz.prog = true := by kernel_rfl
set_option maxRecDepth 100000 in
theorem lifted (os : Os) (started : os.Started) (H : Type) (enc : TypeId × Value → H) :
  ReturnsInHanded {} Tryz.checked os 6 .any (fun w args => (Rows.ledgerOnceSpec.pre enc Tryz.prog Tryz.f6 Rows.ledgerOnceRow.domain false w args ∧ laidMetH Tryz.prog Rows.ledgerOnceRow.laid w) ∧ sizedMet enc Tryz.prog Tryz.f6 (OpenSpec.ofChange Rows.ledgerOnceSpec) false w args)
   (Rows.ledgerOnceSpec.post enc Tryz.prog Tryz.f6 false true false false) := by
 refine returnsInHanded_of_change_and (C := Tryz.checked) (X := fun w _ => laidMetH Tryz.prog Rows.ledgerOnceRow.laid w) (fun _ _ _ hh h => h.of_heap hh) own started (by kernel_rfl) Tryz.func6
  (ChangeSpec.witness_shaped (enc := enc) (C := Tryz.checked) (os := os) (X := fun w _ => laidMetH Tryz.prog Rows.ledgerOnceRow.laid w) false (World.laidAll Tryz.prog os Rows.ledgerOnceRow.laid) #[.slice none 0 0, .string ByteArray.empty] 8 (World.laidAll_os _ _ _)
   (World.shaped_of_ZipB (by kernel_rfl) (by kernel_rfl)) (by kernel_rfl) (by kernel_rfl) (by kernel_rfl)
   (by rw [MakeChecks.laidMetH_plain _ _ _ (by kernel_rfl)]; exact laidMet_laidAll _ (by kernel_rfl) (by kernel_rfl))) ?_
 intro W base args ds gs before hval0 hW _ _ hL _
 have hTab : Tab Sha.kkL W := by
  rw [MakeChecks.laidMetH_plain _ _ _ (by kernel_rfl)] at hL
  exact steps_tab hL
 have hval : ∀ (j : Nat) t v, Tryz.f6.params[j]? = some t → args[j]? = some v → Value.okWide Tryz.prog W .any base t v := hval0
 have hW' := hW
 obtain ⟨p, q, hA0, hV, rfl, _, _⟩ := hW
 have hA : DataW.TrodAll enc Tryz.prog W 0 (fun _ => true) true Tryz.f6.params.toList args.toList ds p := hA0
 rw [Tryz.params6] at hA hval
 obtain ⟨v0, vs0, d0, ds0, p0, q0, hargs, rfl, rfl, h0, r0⟩ := trodAll_cons hA
 obtain ⟨v1, vs1, d1, ds1, p1, q1, rfl, rfl, rfl, h1, r1⟩ := trodAll_cons r0
 obtain ⟨rfl, rfl, rfl⟩ := trodAll_nil r1
 obtain rfl : args = #[v0, v1] := by cases args; simp_all
 obtain ⟨rfl, rfl⟩ := trodVars_none hV
 obtain ⟨A0, n0, c0, rfl⟩ := okWide_slice Tryz.underlying22 (hval 0 22 v0 rfl rfl)
 have k0 := h0
 have lt0 : ∀ x ∈ p0, x.block < W.heap.size := by obtain ⟨m, hm⟩ := k0; exact DataW.trod_lt m _ _ _ hm
 obtain ⟨fuel0, hf0⟩ := h0
 obtain ⟨A0', n0', c0', L0, hcs0, hd0, hn0, hc0⟩ := open_ops hf0
 simp [Value.cells] at hcs0
 obtain ⟨rfl, rfl, rfl⟩ := hcs0
 obtain ⟨s1, rfl, rfl, rfl, ws1⟩ := open_string Tryz.underlying9 (hval 1 9 v1 rfl rfl) h1
 clear hA0 hval0
 refine (ledgerOnce_in A0 n0 c0 L0 s1 W hTab hd0 hn0 hc0 ws1).mono fun e W' ⟨he, bel⟩ => ?_
 subst he
 exact ⟨_, rfl, _, _, _, [], _, [], hW', trodAll_mk1 (shut_bool Tryz.underlying4 _), (trodAll_cons_mk (Below.trod laidOut (by kernel_rfl) (of_decide_eq_true (by kernel_rfl)) k0 bel lt0) (trodAll_cons_mk (shut_string Tryz.underlying9 ws1) trodAll_mk0)), by first | rfl | simp, bel.frame _, fun h => by cases h⟩
end ledgerOnce
theorem ledgerOnce.fact0 : mapsRowed Tryz.prog = true := by kernel_rfl
theorem ledgerOnce.fact1 : (Rows.ledgerOnceRow.inPlace == Tryz.prog.inPlace 6) = true := by kernel_rfl
theorem ledgerOnce.fact2 : (Rows.ledgerOnceRow.unfollowed == Tryz.prog.unfollowed 6) = true := by kernel_rfl
theorem ledgerOnce.fact3 : (Rows.ledgerOnceRow.recurses == Tryz.prog.recurses 6) = true := by kernel_rfl
theorem ledgerOnce.fact4 : (Rows.ledgerOnceRow.named == Tryz.prog.varsNamed 6) = true := by kernel_rfl
theorem ledgerOnce.fact5 : Tryz.prog.stopsHeard = true := by kernel_rfl
theorem ledgerOnce.fact6 : Tryz.prog.mayEnter = true := by kernel_rfl
theorem ledgerOnce.fact7 : (Rows.ledgerOnceRow.lifted == Tryz.prog.liftsFinal) = true := by kernel_rfl
theorem ledgerOnce.and_t {a b : Bool} (ha : a = true) (hb : b = true) : (a && b) = true := by rw [ha, hb]; rfl
theorem ledgerOnce.joined : joinedFacts Tryz.prog 6 Tryz.f6 Rows.ledgerOnceSpec Rows.ledgerOnceRow = true := by
 unfold joinedFacts
 exact ledgerOnce.and_t (ledgerOnce.and_t (ledgerOnce.and_t (ledgerOnce.and_t (ledgerOnce.and_t (ledgerOnce.and_t (ledgerOnce.and_t (ledgerOnce.and_t (ledgerOnce.and_t (ledgerOnce.and_t (ledgerOnce.and_t (ledgerOnce.and_t (ledgerOnce.and_t (ledgerOnce.and_t (ledgerOnce.and_t (ledgerOnce.and_t (ledgerOnce.and_t (ledgerOnce.and_t (ledgerOnce.and_t (ledgerOnce.and_t (ledgerOnce.and_t (ledgerOnce.and_t (ledgerOnce.and_t (ledgerOnce.and_t (ledgerOnce.and_t (ledgerOnce.and_t (ledgerOnce.and_t (ledgerOnce.and_t (ledgerOnce.and_t (ledgerOnce.and_t (ledgerOnce.and_t ((by kernel_rfl)) ledgerOnce.laidOut) ledgerOnce.fact0) (by kernel_rfl)) (by kernel_rfl)) (by kernel_rfl)) (by kernel_rfl)) (by kernel_rfl)) (by kernel_rfl)) ledgerOnce.fact1) ledgerOnce.fact2) ledgerOnce.fact3) ledgerOnce.fact4) (by kernel_rfl)) (by kernel_rfl)) (by kernel_rfl)) (by kernel_rfl)) (by kernel_rfl)) (by kernel_rfl)) (by kernel_rfl)) (by kernel_rfl)) (by kernel_rfl)) (by kernel_rfl)) (by kernel_rfl)) ledgerOnce.fact5) ledgerOnce.fact6) ledgerOnce.fact7) (by kernel_rfl)) (by kernel_rfl)) (by kernel_rfl)) (by kernel_rfl)) (by kernel_rfl)
theorem ledgerOnce_row_holds : Rows.LedgerOnceSaid :=
 OpenClaim.holds_of_wide 6 Tryz.f6 rfl rfl rfl rfl rfl rfl rfl ⟨rfl, rfl, rfl, rfl, rfl⟩ rfl rfl rfl rfl rfl (by kernel_rfl) Tryz.func6 ledgerOnce.joined
  (of_decide_eq_true (by kernel_rfl)) (by unfold Func.isWrapper; first | (rw [if_pos (by decide +kernel)]; kernel_rfl) | (rw [if_neg (by decide +kernel)]; exact ⟨rfl, rfl⟩))
  (fun os started H enc _ => ledgerOnce.lifted os started H enc)
theorem ledgerOnce_holds : Rows.LedgerOnceCardSaid :=
 Claim7.holds_tied_plain_at .later [] Rows.ledgerOnceCard.laidKinds true Rows.ledgerOnceCard.stood.harness false ledgerOnce_row_holds (fun _ h => by cases h) (by kernel_rfl) (fun _ h => by cases h) ledgerOnce_row_tie rfl ⟨rfl, rfl⟩ (by kernel_rfl) rfl
  (fun f fn hf hfn => by
   obtain rfl : f = 6 := Option.some.inj ((show Tryz.prog.funcNamed Rows.ledgerOnceRow.func = some 6 by kernel_rfl).symm.trans hf) |>.symm
   obtain rfl : fn = Tryz.f6 := (Option.some.inj (Tryz.func6.symm.trans hfn)).symm
   exact ⟨by kernel_rfl, fun j t ht => by
    rw [Tryz.params6] at ht
    have hm : t ∈ [22, 9] := by simpa using Array.mem_of_getElem? ht
    have hall : ([22, 9].all fun u => !Tryz.prog.wantsStandIn u) = true := by kernel_rfl
    exact (show Tryz.prog.wantsStandIn t = false by simpa using List.all_eq_true.1 hall t hm)⟩)
  (by kernel_rfl)
#print axioms ledgerOnce_holds
end Go.Proofs.YtmbpnkacggngkaaGreatDoor
end
