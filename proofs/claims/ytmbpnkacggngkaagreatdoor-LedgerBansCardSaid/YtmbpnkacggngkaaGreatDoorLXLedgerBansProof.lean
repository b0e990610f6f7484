/- LedgerBans: a ban stays till it is lifted, whatever else is done, and no banned name is a node.
The card ties the listed variables (two tables of Go's library) to the program's text; no other condition is added: the type is the given constant. -/
import Derived.Test.YtmbpnkacggngkaaGreatDoorTie
import Derived.Test.YtmbpnkacggngkaaGreatDoorCards
import Derived.ShutString
import Derived.ChangeOld
import Derived.SevenTiedAt
import Derived.Stop.Joined
import Derived.Test.YtmbpnkacggngkaaGreatDoorLXLedBans
set_option maxRecDepth 100000
set_option maxHeartbeats 16000000
namespace Go.Proofs.YtmbpnkacggngkaaGreatDoor
section
open Go
namespace ledgerBans
open Go.ChangeShapes Go.WideShapes Go.ChangeAt Go.RowKit
open Go.ChangeMaps (open_string shut_string)
theorem own:ownKnob Tryz.prog.godebug=none:=by kernel_rfl
theorem laidOut:laidOutB Tryz.prog=true:=by kernel_rfl
theorem lifted(os:Os) (started:os.Started) (H:Type) (enc:TypeId × Value->H) :
  ReturnsInHanded {} Tryz.checked os 7 .any (fun w args=>(Rows.ledgerBansSpec.pre enc Tryz.prog Tryz.f7 Rows.ledgerBansRow.domain false w args/\laidMetH Tryz.prog Rows.ledgerBansRow.laid w)/\sizedMet enc Tryz.prog Tryz.f7 (OpenSpec.ofChange Rows.ledgerBansSpec) false w args)
   (Rows.ledgerBansSpec.post enc Tryz.prog Tryz.f7 false true false false):=by
 refine returnsInHanded_of_change_and (C:=Tryz.checked) (X:=fun w _=>laidMetH Tryz.prog Rows.ledgerBansRow.laid w) (fun _ _ _ hh h=>h.of_heap hh) own started (by kernel_rfl) Tryz.func7
  (ChangeSpec.witness_shaped (enc:=enc) (C:=Tryz.checked) (os:=os) (X:=fun w _=>laidMetH Tryz.prog Rows.ledgerBansRow.laid w) false (World.laidAll Tryz.prog os Rows.ledgerBansRow.laid) #[.slice none 0 0,.string ByteArray.empty,.slice none 0 0] 8 (World.laidAll_os _ _ _)
   (World.shaped_of_ZipB (by kernel_rfl) (by kernel_rfl)) (by kernel_rfl) (by kernel_rfl) (by kernel_rfl)
   (by rw [MakeChecks.laidMetH_plain _ _ _ (by kernel_rfl)]; exact laidMet_laidAll _ (by kernel_rfl) (by kernel_rfl))) ?_
 intro W base args ds gs before hval0 hW _ _ hL _
 have hTab:Tab Sha.kkL W:=by
  rw [MakeChecks.laidMetH_plain _ _ _ (by kernel_rfl)] at hL; exact mS hL
 have hval:∀ (j:Nat) t v,Tryz.f7.params[j]?=some t->args[j]?=some v->Value.okWide Tryz.prog W .any base t v:=hval0
 have hW':=hW
 obtain⟨p,q,hA0,hV,rfl,_,_⟩:=hW
 have hA:DataW.TrodAll enc Tryz.prog W 0 (fun _=>true) true Tryz.f7.params.toList args.toList ds p:=hA0
 rw [Tryz.params7] at hA hval
 obtain⟨v0,vs0,d0,ds0,p0,q0,hargs,rfl,rfl,h0,r0⟩:=trodAll_cons hA
 obtain⟨v1,vs1,d1,ds1,p1,q1,rfl,rfl,rfl,h1,r1⟩:=trodAll_cons r0
 obtain⟨v2,vs2,d2,ds2,p2,q2,rfl,rfl,rfl,h2,r2⟩:=trodAll_cons r1
 obtain⟨rfl,rfl,rfl⟩:=trodAll_nil r2
 obtain rfl:args=#[v0,v1,v2]:=by cases args; simp_all
 obtain⟨rfl,rfl⟩:=trodVars_none hV
 obtain⟨A0,n0,c0,rfl⟩:=okWide_slice Tryz.underlying22 (hval 0 22 v0 rfl rfl)
 have k0:=h0
 have lt0:∀ x∈p0,x.block<W.heap.size:=by obtain⟨m,hm⟩:=k0; exact DataW.trod_lt m _ _ _ hm
 obtain⟨fuel0,hf0⟩:=h0
 obtain⟨A0',n0',c0',L0,hcs0,hd0,hn0,hc0⟩:=ms hf0
 simp [Value.cells] at hcs0
 obtain⟨rfl,rfl,rfl⟩:=hcs0
 obtain⟨s1,rfl,rfl,rfl,ws1⟩:=open_string Tryz.underlying9 (hval 1 9 v1 rfl rfl) h1
 obtain⟨A2,n2,c2,rfl⟩:=okWide_slice Tryz.underlying22 (hval 2 22 v2 rfl rfl)
 have k2:=h2
 have lt2:∀ x∈p2,x.block<W.heap.size:=by obtain⟨m,hm⟩:=k2; exact DataW.trod_lt m _ _ _ hm
 obtain⟨fuel2,hf2⟩:=h2
 obtain⟨A2',n2',c2',L2,hcs2,hd2,hn2,hc2⟩:=ms hf2
 simp [Value.cells] at hcs2
 obtain⟨rfl,rfl,rfl⟩:=hcs2
 clear hA0 hval0
 refine(ledgerBans_in A0 n0 c0 L0 s1 A2 n2 c2 L2 W hTab hd0 hn0 hc0 ws1 hd2 hn2 hc2).mono fun e W' ⟨he,bel⟩=>?_
 subst he
 exact⟨_,rfl,_,_,_,[],_,[],hW',trodAll_mk1 (shut_bool Tryz.underlying4 _),(trodAll_cons_mk (Below.trod laidOut (by kernel_rfl) (of_decide_eq_true (by kernel_rfl)) k0 bel lt0) (trodAll_cons_mk (shut_string Tryz.underlying9 ws1) (trodAll_cons_mk (Below.trod laidOut (by kernel_rfl) (of_decide_eq_true (by kernel_rfl)) k2 bel lt2) trodAll_mk0))),by first|rfl|simp,bel.frame _,fun h=>by cases h⟩
end ledgerBans
theorem ledgerBans.fact0:mapsRowed Tryz.prog=true:=by kernel_rfl
theorem ledgerBans.fact1:(Rows.ledgerBansRow.inPlace==Tryz.prog.inPlace 7)=true:=by kernel_rfl
theorem ledgerBans.fact2:(Rows.ledgerBansRow.unfollowed==Tryz.prog.unfollowed 7)=true:=by kernel_rfl
theorem ledgerBans.fact3:(Rows.ledgerBansRow.recurses==Tryz.prog.recurses 7)=true:=by kernel_rfl
theorem ledgerBans.fact4:(Rows.ledgerBansRow.named==Tryz.prog.varsNamed 7)=true:=by kernel_rfl
theorem ledgerBans.fact5:Tryz.prog.stopsHeard=true:=by kernel_rfl
theorem ledgerBans.fact6:Tryz.prog.mayEnter=true:=by kernel_rfl
theorem ledgerBans.fact7:(Rows.ledgerBansRow.lifted==Tryz.prog.liftsFinal)=true:=by kernel_rfl
theorem zT{a b:Bool} (ha:a=true) (hb:b=true):(a&&b)=true:=by rw [ha,hb]; rfl
theorem ledgerBans.joined:joinedFacts Tryz.prog 7 Tryz.f7 Rows.ledgerBansSpec Rows.ledgerBansRow=true:=by
 unfold joinedFacts
 exact zT (zT (zT (zT (zT (zT (zT (zT (zT (zT (zT (zT (zT (zT (zT (zT (zT (zT (zT (zT (zT (zT (zT (zT (zT (zT (zT (zT (zT (zT (zT ((by kernel_rfl)) ledgerBans.laidOut) ledgerBans.fact0) (by kernel_rfl)) (by kernel_rfl)) (by kernel_rfl)) (by kernel_rfl)) (by kernel_rfl)) (by kernel_rfl)) ledgerBans.fact1) ledgerBans.fact2) ledgerBans.fact3) ledgerBans.fact4) (by kernel_rfl)) (by kernel_rfl)) (by kernel_rfl)) (by kernel_rfl)) (by kernel_rfl)) (by kernel_rfl)) (by kernel_rfl)) (by kernel_rfl)) (by kernel_rfl)) (by kernel_rfl)) (by kernel_rfl)) ledgerBans.fact5) ledgerBans.fact6) ledgerBans.fact7) (by kernel_rfl)) (by kernel_rfl)) (by kernel_rfl)) (by kernel_rfl)) (by kernel_rfl)
theorem ledgerBans_row_holds:Rows.LedgerBansSaid :=
 OpenClaim.holds_of_wide 7 Tryz.f7 rfl rfl rfl rfl rfl rfl rfl ⟨rfl,rfl,rfl,rfl,rfl⟩ rfl rfl rfl rfl rfl (by kernel_rfl) Tryz.func7 ledgerBans.joined
  (of_decide_eq_true (by kernel_rfl)) (by unfold Func.isWrapper; first|(rw [if_pos (by decide +kernel)]; kernel_rfl)|(rw [if_neg (by decide +kernel)]; exact⟨rfl,rfl⟩))
  (fun os started H enc _=>ledgerBans.lifted os started H enc)
theorem ledgerBans_holds:Rows.LedgerBansCardSaid :=
 Claim7.holds_tied_plain_at .later [] Rows.ledgerBansCard.laidKinds true Rows.ledgerBansCard.stood.harness false ledgerBans_row_holds (fun _ h=>by cases h) (by kernel_rfl) (fun _ h=>by cases h) ledgerBans_row_tie rfl ⟨rfl,rfl⟩ (by kernel_rfl) rfl
  (fun f fn hf hfn=>by
   obtain rfl:f=7:=Option.some.inj ((show Tryz.prog.funcNamed Rows.ledgerBansRow.func=some 7 by kernel_rfl).symm.trans hf) |>.symm; obtain rfl:fn=Tryz.f7:=(Option.some.inj (Tryz.func7.symm.trans hfn)).symm; exact⟨by kernel_rfl,fun j t ht=>by
    rw [Tryz.params7] at ht; have hm:t∈[22,9,22]:=by simpa using Array.mem_of_getElem? ht
    have hall:([22,9,22].all fun u=>!Tryz.prog.wantsStandIn u)=true:=by kernel_rfl
    exact(show Tryz.prog.wantsStandIn t=false by simpa using List.all_eq_true.1 hall t hm)⟩)
  (by kernel_rfl)
#print axioms ledgerBans_holds
end
end Go.Proofs.YtmbpnkacggngkaaGreatDoor
