/- LedgerApplies: behind any operations a ledger is just the document's, and what is refused is refused as it says.
The card ties the listed variables (two tables of Go's library) to the program's text; no other condition is added: the type is the given constant. -/
import Derived.Test.YtmbpnkacggngkaaGreatDoorTie
import Derived.Test.YtmbpnkacggngkaaGreatDoorCards
import Derived.ShutString
import Derived.ChangeOld
import Derived.SevenTiedAt
import Derived.Stop.Joined
import Derived.Test.YtmbpnkacggngkaaGreatDoorLXLedAppl
set_option maxRecDepth 100000
set_option maxHeartbeats 16000000
namespace Go.Proofs.YtmbpnkacggngkaaGreatDoor
section
open Go
namespace ledgerApplies
open Go.ChangeShapes Go.WideShapes Go.ChangeAt Go.RowKit
open Go.ChangeMaps (open_string shut_string)
theorem own:ownKnob Tryz.prog.godebug=none:=by kernel_rfl
theorem laidOut:laidOutB Tryz.prog=true:=by kernel_rfl
theorem lifted(os:Os) (started:os.Started) (H:Type) (enc:TypeId × Value->H) :
  ReturnsInHanded {} Tryz.checked os 3 .any (fun w args=>(Rows.ledgerAppliesSpec.pre enc Tryz.prog Tryz.f3 Rows.ledgerAppliesRow.domain false w args/\laidMetH Tryz.prog Rows.ledgerAppliesRow.laid w)/\sizedMet enc Tryz.prog Tryz.f3 (OpenSpec.ofChange Rows.ledgerAppliesSpec) false w args)
   (Rows.ledgerAppliesSpec.post enc Tryz.prog Tryz.f3 false true false false):=by
 refine returnsInHanded_of_change_and (C:=Tryz.checked) (X:=fun w _=>laidMetH Tryz.prog Rows.ledgerAppliesRow.laid w) (fun _ _ _ hh h=>h.of_heap hh) own started (by kernel_rfl) Tryz.func3
  (ChangeSpec.witness_shaped (enc:=enc) (C:=Tryz.checked) (os:=os) (X:=fun w _=>laidMetH Tryz.prog Rows.ledgerAppliesRow.laid w) false (World.laidAll Tryz.prog os Rows.ledgerAppliesRow.laid) #[.slice none 0 0] 8 (World.laidAll_os _ _ _)
   (World.shaped_of_ZipB (by kernel_rfl) (by kernel_rfl)) (by kernel_rfl) (by kernel_rfl) (by kernel_rfl)
   (by rw [MakeChecks.laidMetH_plain _ _ _ (by kernel_rfl)]; exact laidMet_laidAll _ (by kernel_rfl) (by kernel_rfl))) ?_
 intro W base args ds gs before hval0 hW _ _ hL _
 have hTab:Tab Sha.kkL W:=by
  rw [MakeChecks.laidMetH_plain _ _ _ (by kernel_rfl)] at hL; exact mS hL
 have hval:∀ (j:Nat) t v,Tryz.f3.params[j]?=some t->args[j]?=some v->Value.okWide Tryz.prog W .any base t v:=hval0
 have hW':=hW
 obtain⟨p,q,hA0,hV,rfl,_,_⟩:=hW
 have hA:DataW.TrodAll enc Tryz.prog W 0 (fun _=>true) true Tryz.f3.params.toList args.toList ds p:=hA0
 rw [Tryz.params3] at hA hval
 obtain⟨v0,vs0,d0,ds0,p0,q0,hargs,rfl,rfl,h0,r0⟩:=trodAll_cons hA
 obtain⟨rfl,rfl,rfl⟩:=trodAll_nil r0
 obtain rfl:args=#[v0]:=by cases args; simp_all
 obtain⟨rfl,rfl⟩:=trodVars_none hV
 obtain⟨A0,n0,c0,rfl⟩:=okWide_slice Tryz.underlying22 (hval 0 22 v0 rfl rfl)
 have k0:=h0
 have lt0:∀ x∈p0,x.block<W.heap.size:=by obtain⟨m,hm⟩:=k0; exact DataW.trod_lt m _ _ _ hm
 obtain⟨fuel0,hf0⟩:=h0
 obtain⟨A0',n0',c0',L0,hcs0,hd0,hn0,hc0⟩:=ms hf0
 simp [Value.cells] at hcs0
 obtain⟨rfl,rfl,rfl⟩:=hcs0
 clear hA0 hval0
 refine(ledgerApplies_in A0 n0 c0 L0 W hTab hd0 hn0 hc0).mono fun e W' ⟨he,bel⟩=>?_
 subst he
 exact⟨_,rfl,_,_,_,[],_,[],hW',trodAll_mk1 (shut_bool Tryz.underlying4 _),(trodAll_cons_mk (Below.trod laidOut (by kernel_rfl) (of_decide_eq_true (by kernel_rfl)) k0 bel lt0) trodAll_mk0),by first|rfl|simp,bel.frame _,fun h=>by cases h⟩
end ledgerApplies
theorem ledgerApplies.fact0:mapsRowed Tryz.prog=true:=by kernel_rfl
theorem ledgerApplies.fact1:(Rows.ledgerAppliesRow.inPlace==Tryz.prog.inPlace 3)=true:=by kernel_rfl
theorem ledgerApplies.fact2:(Rows.ledgerAppliesRow.unfollowed==Tryz.prog.unfollowed 3)=true:=by kernel_rfl
theorem ledgerApplies.fact3:(Rows.ledgerAppliesRow.recurses==Tryz.prog.recurses 3)=true:=by kernel_rfl
theorem ledgerApplies.fact4:(Rows.ledgerAppliesRow.named==Tryz.prog.varsNamed 3)=true:=by kernel_rfl
theorem ledgerApplies.fact5:Tryz.prog.stopsHeard=true:=by kernel_rfl
theorem ledgerApplies.fact6:Tryz.prog.mayEnter=true:=by kernel_rfl
theorem ledgerApplies.fact7:(Rows.ledgerAppliesRow.lifted==Tryz.prog.liftsFinal)=true:=by kernel_rfl
theorem zT{a b:Bool} (ha:a=true) (hb:b=true):(a&&b)=true:=by rw [ha,hb]; rfl
theorem ledgerApplies.joined:joinedFacts Tryz.prog 3 Tryz.f3 Rows.ledgerAppliesSpec Rows.ledgerAppliesRow=true:=by
 unfold joinedFacts
 exact zT (zT (zT (zT (zT (zT (zT (zT (zT (zT (zT (zT (zT (zT (zT (zT (zT (zT (zT (zT (zT (zT (zT (zT (zT (zT (zT (zT (zT (zT (zT ((by kernel_rfl)) ledgerApplies.laidOut) ledgerApplies.fact0) (by kernel_rfl)) (by kernel_rfl)) (by kernel_rfl)) (by kernel_rfl)) (by kernel_rfl)) (by kernel_rfl)) ledgerApplies.fact1) ledgerApplies.fact2) ledgerApplies.fact3) ledgerApplies.fact4) (by kernel_rfl)) (by kernel_rfl)) (by kernel_rfl)) (by kernel_rfl)) (by kernel_rfl)) (by kernel_rfl)) (by kernel_rfl)) (by kernel_rfl)) (by kernel_rfl)) (by kernel_rfl)) (by kernel_rfl)) ledgerApplies.fact5) ledgerApplies.fact6) ledgerApplies.fact7) (by kernel_rfl)) (by kernel_rfl)) (by kernel_rfl)) (by kernel_rfl)) (by kernel_rfl)
theorem ledgerApplies_row_holds:Rows.LedgerAppliesSaid :=
 OpenClaim.holds_of_wide 3 Tryz.f3 rfl rfl rfl rfl rfl rfl rfl ⟨rfl,rfl,rfl,rfl,rfl⟩ rfl rfl rfl rfl rfl (by kernel_rfl) Tryz.func3 ledgerApplies.joined
  (of_decide_eq_true (by kernel_rfl)) (by unfold Func.isWrapper; first|(rw [if_pos (by decide +kernel)]; kernel_rfl)|(rw [if_neg (by decide +kernel)]; exact⟨rfl,rfl⟩))
  (fun os started H enc _=>ledgerApplies.lifted os started H enc)
theorem ledgerApplies_holds:Rows.LedgerAppliesCardSaid :=
 Claim7.holds_tied_plain_at .later [] Rows.ledgerAppliesCard.laidKinds true Rows.ledgerAppliesCard.stood.harness false ledgerApplies_row_holds (fun _ h=>by cases h) (by kernel_rfl) (fun _ h=>by cases h) ledgerApplies_row_tie rfl ⟨rfl,rfl⟩ (by kernel_rfl) rfl
  (fun f fn hf hfn=>by
   obtain rfl:f=3:=Option.some.inj ((show Tryz.prog.funcNamed Rows.ledgerAppliesRow.func=some 3 by kernel_rfl).symm.trans hf) |>.symm; obtain rfl:fn=Tryz.f3:=(Option.some.inj (Tryz.func3.symm.trans hfn)).symm; exact⟨by kernel_rfl,fun j t ht=>by
    rw [Tryz.params3] at ht; have hm:t∈[22]:=by simpa using Array.mem_of_getElem? ht
    have hall:([22].all fun u=>!Tryz.prog.wantsStandIn u)=true:=by kernel_rfl
    exact(show Tryz.prog.wantsStandIn t=false by simpa using List.all_eq_true.1 hall t hm)⟩)
  (by kernel_rfl)
#print axioms ledgerApplies_holds
end
end Go.Proofs.YtmbpnkacggngkaaGreatDoor
