/- LedgerItems: the operations that are told of a ledger make it, and whether two are the same is told so.
The card ties the listed variables (two tables of Go's library) to the program's text; no other condition is added: the type is the given constant. -/
import Derived.Test.YtmbpnkacggngkaaGreatDoorTie
import Derived.Test.YtmbpnkacggngkaaGreatDoorCards
import Derived.ShutString
import Derived.ChangeOld
import Derived.SevenTiedAt
import Derived.Stop.Joined
import Derived.Test.YtmbpnkacggngkaaGreatDoorLILedItemsW
set_option maxRecDepth 100000
set_option maxHeartbeats 16000000
namespace Go.Proofs.YtmbpnkacggngkaaGreatDoor
section
open Go
namespace ledgerItems
open Go.ChangeShapes Go.WideShapes Go.ChangeAt Go.RowKit
open Go.ChangeMaps (open_string shut_string)
theorem own:ownKnob Tryz.prog.godebug=none:=by kernel_rfl
theorem laidOut:laidOutB Tryz.prog=true:=by kernel_rfl
theorem lifted(os:Os) (started:os.Started) (H:Type) (enc:TypeId × Value->H) :
  ReturnsInHanded {} Tryz.checked os 10 .any (fun w args=>(Rows.ledgerItemsSpec.pre enc Tryz.prog Tryz.f10 Rows.ledgerItemsRow.domain false w args/\laidMetH Tryz.prog Rows.ledgerItemsRow.laid w)/\sizedMet enc Tryz.prog Tryz.f10 (OpenSpec.ofChange Rows.ledgerItemsSpec) false w args)
   (Rows.ledgerItemsSpec.post enc Tryz.prog Tryz.f10 false true false false):=by
 refine returnsInHanded_of_change_and (C:=Tryz.checked) (X:=fun w _=>laidMetH Tryz.prog Rows.ledgerItemsRow.laid w) (fun _ _ _ hh h=>h.of_heap hh) own started (by kernel_rfl) Tryz.func10
  (ChangeSpec.witness_shaped (enc:=enc) (C:=Tryz.checked) (os:=os) (X:=fun w _=>laidMetH Tryz.prog Rows.ledgerItemsRow.laid w) false (World.laidAll Tryz.prog os Rows.ledgerItemsRow.laid) #[.slice none 0 0,.slice none 0 0] 8 (World.laidAll_os _ _ _)
   (World.shaped_of_ZipB (by kernel_rfl) (by kernel_rfl)) (by kernel_rfl) (by kernel_rfl) (by kernel_rfl)
   (by rw [MakeChecks.laidMetH_plain _ _ _ (by kernel_rfl)]; exact laidMet_laidAll _ (by kernel_rfl) (by kernel_rfl))) ?_
 intro W base args ds gs before hval0 hW _ _ hL _
 have hTab:Tab Sha.kkL W:=by
  rw [MakeChecks.laidMetH_plain _ _ _ (by kernel_rfl)] at hL; exact steps_tab hL
 have hval:∀ (j:Nat) t v,Tryz.f10.params[j]?=some t->args[j]?=some v->Value.okWide Tryz.prog W .any base t v:=hval0
 have hW':=hW
 obtain⟨p,q,hA0,hV,rfl,_,_⟩:=hW
 have hA:DataW.TrodAll enc Tryz.prog W 0 (fun _=>true) true Tryz.f10.params.toList args.toList ds p:=hA0
 rw [Tryz.params10] at hA hval
 obtain⟨v0,vs0,d0,ds0,p0,q0,hargs,rfl,rfl,h0,r0⟩:=trodAll_cons hA
 obtain⟨v1,vs1,d1,ds1,p1,q1,rfl,rfl,rfl,h1,r1⟩:=trodAll_cons r0
 obtain⟨rfl,rfl,rfl⟩:=trodAll_nil r1
 obtain rfl:args=#[v0,v1]:=by cases args; simp_all
 obtain⟨rfl,rfl⟩:=trodVars_none hV
 obtain⟨A0,n0,c0,rfl⟩:=okWide_slice Tryz.underlying22 (hval 0 22 v0 rfl rfl)
 have k0:=h0
 have lt0:∀ x∈p0,x.block<W.heap.size:=by obtain⟨m,hm⟩:=k0; exact DataW.trod_lt m _ _ _ hm
 obtain⟨fuel0,hf0⟩:=h0
 obtain⟨A0',n0',c0',L0,hcs0,hd0,hn0,hc0⟩:=open_ops hf0
 simp [Value.cells] at hcs0
 obtain⟨rfl,rfl,rfl⟩:=hcs0
 obtain⟨A1,n1,c1,rfl⟩:=okWide_slice Tryz.underlying22 (hval 1 22 v1 rfl rfl)
 have k1:=h1
 have lt1:∀ x∈p1,x.block<W.heap.size:=by obtain⟨m,hm⟩:=k1; exact DataW.trod_lt m _ _ _ hm
 obtain⟨fuel1,hf1⟩:=h1
 obtain⟨A1',n1',c1',L1,hcs1,hd1,hn1,hc1⟩:=open_ops hf1
 simp [Value.cells] at hcs1
 obtain⟨rfl,rfl,rfl⟩:=hcs1
 clear hA0 hval0
 refine(ledgerItems_in A0 n0 c0 L0 A1 n1 c1 L1 W hTab hd0 hn0 hc0 hd1 hn1 hc1).mono fun e W' ⟨he,bel⟩=>?_
 subst he
 exact⟨_,rfl,_,_,_,[],_,[],hW',trodAll_mk1 (shut_bool Tryz.underlying4 _),(trodAll_cons_mk (Below.trod laidOut (by kernel_rfl) (of_decide_eq_true (by kernel_rfl)) k0 bel lt0) (trodAll_cons_mk (Below.trod laidOut (by kernel_rfl) (of_decide_eq_true (by kernel_rfl)) k1 bel lt1) trodAll_mk0)),by first|rfl|simp,bel.frame _,fun h=>by cases h⟩
end ledgerItems
theorem ledgerItems.fact0:mapsRowed Tryz.prog=true:=by kernel_rfl
theorem ledgerItems.fact1:(Rows.ledgerItemsRow.inPlace==Tryz.prog.inPlace 10)=true:=by kernel_rfl
theorem ledgerItems.fact2:(Rows.ledgerItemsRow.unfollowed==Tryz.prog.unfollowed 10)=true:=by kernel_rfl
theorem ledgerItems.fact3:(Rows.ledgerItemsRow.recurses==Tryz.prog.recurses 10)=true:=by kernel_rfl
theorem ledgerItems.fact4:(Rows.ledgerItemsRow.named==Tryz.prog.varsNamed 10)=true:=by kernel_rfl
theorem ledgerItems.fact5:Tryz.prog.stopsHeard=true:=by kernel_rfl
theorem ledgerItems.fact6:Tryz.prog.mayEnter=true:=by kernel_rfl
theorem ledgerItems.fact7:(Rows.ledgerItemsRow.lifted==Tryz.prog.liftsFinal)=true:=by kernel_rfl
theorem zT{a b:Bool} (ha:a=true) (hb:b=true):(a&&b)=true:=by rw [ha,hb]; rfl
theorem ledgerItems.joined:joinedFacts Tryz.prog 10 Tryz.f10 Rows.ledgerItemsSpec Rows.ledgerItemsRow=true:=by
 unfold joinedFacts
 exact zT (zT (zT (zT (zT (zT (zT (zT (zT (zT (zT (zT (zT (zT (zT (zT (zT (zT (zT (zT (zT (zT (zT (zT (zT (zT (zT (zT (zT (zT (zT ((by kernel_rfl)) ledgerItems.laidOut) ledgerItems.fact0) (by kernel_rfl)) (by kernel_rfl)) (by kernel_rfl)) (by kernel_rfl)) (by kernel_rfl)) (by kernel_rfl)) ledgerItems.fact1) ledgerItems.fact2) ledgerItems.fact3) ledgerItems.fact4) (by kernel_rfl)) (by kernel_rfl)) (by kernel_rfl)) (by kernel_rfl)) (by kernel_rfl)) (by kernel_rfl)) (by kernel_rfl)) (by kernel_rfl)) (by kernel_rfl)) (by kernel_rfl)) (by kernel_rfl)) ledgerItems.fact5) ledgerItems.fact6) ledgerItems.fact7) (by kernel_rfl)) (by kernel_rfl)) (by kernel_rfl)) (by kernel_rfl)) (by kernel_rfl)
theorem ledgerItems_row_holds:Rows.LedgerItemsSaid :=
 OpenClaim.holds_of_wide 10 Tryz.f10 rfl rfl rfl rfl rfl rfl rfl ⟨rfl,rfl,rfl,rfl,rfl⟩ rfl rfl rfl rfl rfl (by kernel_rfl) Tryz.func10 ledgerItems.joined
  (of_decide_eq_true (by kernel_rfl)) (by unfold Func.isWrapper; first|(rw [if_pos (by decide +kernel)]; kernel_rfl)|(rw [if_neg (by decide +kernel)]; exact⟨rfl,rfl⟩))
  (fun os started H enc _=>ledgerItems.lifted os started H enc)
theorem ledgerItems_holds:Rows.LedgerItemsCardSaid :=
 Claim7.holds_tied_plain_at .later [] Rows.ledgerItemsCard.laidKinds true Rows.ledgerItemsCard.stood.harness false ledgerItems_row_holds (fun _ h=>by cases h) (by kernel_rfl) (fun _ h=>by cases h) ledgerItems_row_tie rfl ⟨rfl,rfl⟩ (by kernel_rfl) rfl
  (fun f fn hf hfn=>by
   obtain rfl:f=10:=Option.some.inj ((show Tryz.prog.funcNamed Rows.ledgerItemsRow.func=some 10 by kernel_rfl).symm.trans hf) |>.symm; obtain rfl:fn=Tryz.f10:=(Option.some.inj (Tryz.func10.symm.trans hfn)).symm; exact⟨by kernel_rfl,fun j t ht=>by
    rw [Tryz.params10] at ht; have hm:t∈[22,22]:=by simpa using Array.mem_of_getElem? ht
    have hall:([22,22].all fun u=>!Tryz.prog.wantsStandIn u)=true:=by kernel_rfl
    exact(show Tryz.prog.wantsStandIn t=false by simpa using List.all_eq_true.1 hall t hm)⟩)
  (by kernel_rfl)
#print axioms ledgerItems_holds
end
end Go.Proofs.YtmbpnkacggngkaaGreatDoor
