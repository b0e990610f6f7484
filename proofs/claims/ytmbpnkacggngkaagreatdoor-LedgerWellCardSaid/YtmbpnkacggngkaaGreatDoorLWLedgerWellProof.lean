/- LedgerWell: whatever is done, each part of a ledger may be, its lists rise, and at most one key is prepared, and one active.
The card ties the listed variables (two tables of Go's library) to the program's text; no other condition is added: the type is the given constant. -/
import Derived.Test.YtmbpnkacggngkaaGreatDoorTie
import Derived.Test.YtmbpnkacggngkaaGreatDoorCards
import Derived.ShutString
import Derived.ChangeOld
import Derived.SevenTiedAt
import Derived.Stop.Joined
import Derived.Test.YtmbpnkacggngkaaGreatDoorLWLedWell
set_option maxRecDepth 100000
set_option maxHeartbeats 16000000
namespace Go.Proofs.YtmbpnkacggngkaaGreatDoor
section
open Go
namespace ledgerWell
open Go.ChangeShapes Go.WideShapes Go.ChangeAt Go.RowKit
open Go.ChangeMaps (open_string shut_string)
theorem own:ownKnob Tryz.prog.godebug=none:=by kernel_rfl
theorem laidOut:laidOutB Tryz.prog=true:=by kernel_rfl
theorem lifted(os:Os) (started:os.Started) (H:Type) (enc:TypeId × Value→H) :
  ReturnsInHanded {} Tryz.checked os 5 .any (fun w args=>(Rows.ledgerWellSpec.pre enc Tryz.prog Tryz.f5 Rows.ledgerWellRow.domain false w args∧laidMetH Tryz.prog Rows.ledgerWellRow.laid w)∧sizedMet enc Tryz.prog Tryz.f5 (OpenSpec.ofChange Rows.ledgerWellSpec) false w args)
   (Rows.ledgerWellSpec.post enc Tryz.prog Tryz.f5 false true false false):=by
 refine returnsInHanded_of_change_and (C:=Tryz.checked) (X:=fun w _=>laidMetH Tryz.prog Rows.ledgerWellRow.laid w) (fun _ _ _ hh h=>h.of_heap hh) own started (by kernel_rfl) Tryz.func5
  (ChangeSpec.witness_shaped (enc:=enc) (C:=Tryz.checked) (os:=os) (X:=fun w _=>laidMetH Tryz.prog Rows.ledgerWellRow.laid w) false (World.laidAll Tryz.prog os Rows.ledgerWellRow.laid) #[.slice none 0 0] 8 (World.laidAll_os _ _ _)
   (World.shaped_of_ZipB (by kernel_rfl) (by kernel_rfl)) (by kernel_rfl) (by kernel_rfl) (by kernel_rfl)
   (by rw [MakeChecks.laidMetH_plain _ _ _ (by kernel_rfl)]; exact laidMet_laidAll _ (by kernel_rfl) (by kernel_rfl))) ?_
 intro W base args ds gs before hval0 hW _ _ hL _
 have hTab:Tab Sha.kkL W:=by
  rw [MakeChecks.laidMetH_plain _ _ _ (by kernel_rfl)] at hL; exact steps_tab hL
 have hval:∀ (j:Nat) t v,Tryz.f5.params[j]?=some t→args[j]?=some v→Value.okWide Tryz.prog W .any base t v:=hval0
 have hW':=hW
 obtain⟨p,q,hA0,hV,rfl,_,_⟩:=hW
 have hA:DataW.TrodAll enc Tryz.prog W 0 (fun _=>true) true Tryz.f5.params.toList args.toList ds p:=hA0
 rw [Tryz.params5] at hA hval
 obtain⟨v0,vs0,d0,ds0,p0,q0,hargs,rfl,rfl,h0,r0⟩:=trodAll_cons hA
 obtain⟨rfl,rfl,rfl⟩:=trodAll_nil r0
 obtain rfl:args=#[v0]:=by cases args; simp_all
 obtain⟨rfl,rfl⟩:=trodVars_none hV
 obtain⟨A0,n0,c0,rfl⟩:=okWide_slice Tryz.underlying22 (hval 0 22 v0 rfl rfl)
 have k0:=h0
 have lt0:∀ x∈p0,x.block<W.heap.size:=by obtain⟨m,hm⟩:=k0; exact DataW.trod_lt m _ _ _ hm
 obtain⟨fuel0,hf0⟩:=h0
 obtain⟨A0',n0',c0',L0,hcs0,hd0,hn0,hc0⟩:=open_ops hf0
 simp [Value.cells] at hcs0
 obtain⟨rfl,rfl,rfl⟩:=hcs0
 clear hA0 hval0
 refine(ledgerWell_in A0 n0 c0 L0 W hTab hd0 hn0 hc0).mono fun e W' ⟨he,bel⟩=>?_
 subst he
 exact⟨_,rfl,_,_,_,[],_,[],hW',trodAll_mk1 (shut_bool Tryz.underlying4 _),(trodAll_cons_mk (Below.trod laidOut (by kernel_rfl) (of_decide_eq_true (by kernel_rfl)) k0 bel lt0) trodAll_mk0),by first|rfl|simp,bel.frame _,fun h=>by cases h⟩
end ledgerWell
theorem ledgerWell.fact0:mapsRowed Tryz.prog=true:=by kernel_rfl
theorem ledgerWell.fact1:(Rows.ledgerWellRow.inPlace==Tryz.prog.inPlace 5)=true:=by kernel_rfl
theorem ledgerWell.fact2:(Rows.ledgerWellRow.unfollowed==Tryz.prog.unfollowed 5)=true:=by kernel_rfl
theorem ledgerWell.fact3:(Rows.ledgerWellRow.recurses==Tryz.prog.recurses 5)=true:=by kernel_rfl
theorem ledgerWell.fact4:(Rows.ledgerWellRow.named==Tryz.prog.varsNamed 5)=true:=by kernel_rfl
theorem ledgerWell.fact5:Tryz.prog.stopsHeard=true:=by kernel_rfl
theorem ledgerWell.fact6:Tryz.prog.mayEnter=true:=by kernel_rfl
theorem ledgerWell.fact7:(Rows.ledgerWellRow.lifted==Tryz.prog.liftsFinal)=true:=by kernel_rfl
theorem ledgerWell.and_t{a b:Bool} (ha:a=true) (hb:b=true):(a&&b)=true:=by rw [ha,hb]; rfl
theorem ledgerWell.joined:joinedFacts Tryz.prog 5 Tryz.f5 Rows.ledgerWellSpec Rows.ledgerWellRow=true:=by
 unfold joinedFacts
 exact ledgerWell.and_t (ledgerWell.and_t (ledgerWell.and_t (ledgerWell.and_t (ledgerWell.and_t (ledgerWell.and_t (ledgerWell.and_t (ledgerWell.and_t (ledgerWell.and_t (ledgerWell.and_t (ledgerWell.and_t (ledgerWell.and_t (ledgerWell.and_t (ledgerWell.and_t (ledgerWell.and_t (ledgerWell.and_t (ledgerWell.and_t (ledgerWell.and_t (ledgerWell.and_t (ledgerWell.and_t (ledgerWell.and_t (ledgerWell.and_t (ledgerWell.and_t (ledgerWell.and_t (ledgerWell.and_t (ledgerWell.and_t (ledgerWell.and_t (ledgerWell.and_t (ledgerWell.and_t (ledgerWell.and_t (ledgerWell.and_t ((by kernel_rfl)) ledgerWell.laidOut) ledgerWell.fact0) (by kernel_rfl)) (by kernel_rfl)) (by kernel_rfl)) (by kernel_rfl)) (by kernel_rfl)) (by kernel_rfl)) ledgerWell.fact1) ledgerWell.fact2) ledgerWell.fact3) ledgerWell.fact4) (by kernel_rfl)) (by kernel_rfl)) (by kernel_rfl)) (by kernel_rfl)) (by kernel_rfl)) (by kernel_rfl)) (by kernel_rfl)) (by kernel_rfl)) (by kernel_rfl)) (by kernel_rfl)) (by kernel_rfl)) ledgerWell.fact5) ledgerWell.fact6) ledgerWell.fact7) (by kernel_rfl)) (by kernel_rfl)) (by kernel_rfl)) (by kernel_rfl)) (by kernel_rfl)
theorem ledgerWell_row_holds:Rows.LedgerWellSaid :=
 OpenClaim.holds_of_wide 5 Tryz.f5 rfl rfl rfl rfl rfl rfl rfl ⟨rfl,rfl,rfl,rfl,rfl⟩ rfl rfl rfl rfl rfl (by kernel_rfl) Tryz.func5 ledgerWell.joined
  (of_decide_eq_true (by kernel_rfl)) (by unfold Func.isWrapper; first|(rw [if_pos (by decide +kernel)]; kernel_rfl)|(rw [if_neg (by decide +kernel)]; exact⟨rfl,rfl⟩))
  (fun os started H enc _=>ledgerWell.lifted os started H enc)
theorem ledgerWell_holds:Rows.LedgerWellCardSaid :=
 Claim7.holds_tied_plain_at .later [] Rows.ledgerWellCard.laidKinds true Rows.ledgerWellCard.stood.harness false ledgerWell_row_holds (fun _ h=>by cases h) (by kernel_rfl) (fun _ h=>by cases h) ledgerWell_row_tie rfl ⟨rfl,rfl⟩ (by kernel_rfl) rfl
  (fun f fn hf hfn=>by
   obtain rfl:f=5:=Option.some.inj ((show Tryz.prog.funcNamed Rows.ledgerWellRow.func=some 5 by kernel_rfl).symm.trans hf) |>.symm; obtain rfl:fn=Tryz.f5:=(Option.some.inj (Tryz.func5.symm.trans hfn)).symm; exact⟨by kernel_rfl,fun j t ht=>by
    rw [Tryz.params5] at ht; have hm:t∈[22]:=by simpa using Array.mem_of_getElem? ht
    have hall:([22].all fun u=>!Tryz.prog.wantsStandIn u)=true:=by kernel_rfl
    exact(show Tryz.prog.wantsStandIn t=false by simpa using List.all_eq_true.1 hall t hm)⟩)
  (by kernel_rfl)
#print axioms ledgerWell_holds
end
end Go.Proofs.YtmbpnkacggngkaaGreatDoor
