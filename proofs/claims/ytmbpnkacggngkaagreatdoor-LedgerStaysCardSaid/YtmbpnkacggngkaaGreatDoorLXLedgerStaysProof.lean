/- LedgerStays: an operation that is refused changes nothing, and none changes the ledger that is handed in.
The card ties the listed variables (two tables of Go's library) to the program's text; no other condition is added: the type is the given constant. -/
import Derived.Test.YtmbpnkacggngkaaGreatDoorTie
import Derived.Test.YtmbpnkacggngkaaGreatDoorCards
import Derived.ShutString
import Derived.ChangeOld
import Derived.SevenTiedAt
import Derived.Stop.Joined
import Derived.Test.YtmbpnkacggngkaaGreatDoorLXLedStays
set_option maxRecDepth 100000
set_option maxHeartbeats 16000000
namespace Go.Proofs.YtmbpnkacggngkaaGreatDoor
section
open Go
namespace ledgerStays
open Go.ChangeShapes Go.WideShapes Go.ChangeAt Go.RowKit
open Go.ChangeMaps (open_string shut_string)
theorem own:ownKnob Tryz.prog.godebug=none:=by kernel_rfl
theorem laidOut:laidOutB Tryz.prog=true:=by kernel_rfl
theorem lifted(os:Os) (started:os.Started) (H:Type) (enc:TypeId × Value->H) :
  ReturnsInHanded {} Tryz.checked os 4 .any (fun w args=>(Rows.ledgerStaysSpec.pre enc Tryz.prog Tryz.f4 Rows.ledgerStaysRow.domain false w args/\laidMetH Tryz.prog Rows.ledgerStaysRow.laid w)/\sizedMet enc Tryz.prog Tryz.f4 (OpenSpec.ofChange Rows.ledgerStaysSpec) false w args)
   (Rows.ledgerStaysSpec.post enc Tryz.prog Tryz.f4 false true false false):=by
 refine returnsInHanded_of_change_and (C:=Tryz.checked) (X:=fun w _=>laidMetH Tryz.prog Rows.ledgerStaysRow.laid w) (fun _ _ _ hh h=>h.of_heap hh) own started (by kernel_rfl) Tryz.func4
  (ChangeSpec.witness_shaped (enc:=enc) (C:=Tryz.checked) (os:=os) (X:=fun w _=>laidMetH Tryz.prog Rows.ledgerStaysRow.laid w) false (World.laidAll Tryz.prog os Rows.ledgerStaysRow.laid) #[.slice none 0 0,.agg #[.int .i64 0,.int .i64 0,.string ByteArray.empty,.int .i64 0,.string ByteArray.empty,.string ByteArray.empty,.int .i64 0,.slice none 0 0,.string ByteArray.empty,.string ByteArray.empty,.int .i64 0,.bool false,.string ByteArray.empty,.string ByteArray.empty,.int .i64 0,.int .i64 0,.string ByteArray.empty,.string ByteArray.empty,.string ByteArray.empty,.int .i64 0,.int .i64 0,.string ByteArray.empty,.int .i64 0,.slice none 0 0]] 8 (World.laidAll_os _ _ _)
   (World.shaped_of_ZipB (by kernel_rfl) (by kernel_rfl)) (by kernel_rfl) (by kernel_rfl) (by kernel_rfl)
   (by rw [MakeChecks.laidMetH_plain _ _ _ (by kernel_rfl)]; exact laidMet_laidAll _ (by kernel_rfl) (by kernel_rfl))) ?_
 intro W base args ds gs before hval0 hW _ _ hL _
 have hTab:Tab Sha.kkL W:=by
  rw [MakeChecks.laidMetH_plain _ _ _ (by kernel_rfl)] at hL; exact mS hL
 have hval:∀ (j:Nat) t v,Tryz.f4.params[j]?=some t->args[j]?=some v->Value.okWide Tryz.prog W .any base t v:=hval0
 have hW':=hW
 obtain⟨p,q,hA0,hV,rfl,_,_⟩:=hW
 have hA:DataW.TrodAll enc Tryz.prog W 0 (fun _=>true) true Tryz.f4.params.toList args.toList ds p:=hA0
 rw [Tryz.params4] at hA hval
 obtain⟨v0,vs0,d0,ds0,p0,q0,hargs,rfl,rfl,h0,r0⟩:=trodAll_cons hA
 obtain⟨v1,vs1,d1,ds1,p1,q1,rfl,rfl,rfl,h1,r1⟩:=trodAll_cons r0
 obtain⟨rfl,rfl,rfl⟩:=trodAll_nil r1
 obtain rfl:args=#[v0,v1]:=by cases args; simp_all
 obtain⟨rfl,rfl⟩:=trodVars_none hV
 obtain⟨A0,n0,c0,rfl⟩:=okWide_slice Tryz.underlying22 (hval 0 22 v0 rfl rfl)
 have k0:=h0
 have lt0:∀ x∈p0,x.block<W.heap.size:=by obtain⟨m,hm⟩:=k0; exact DataW.trod_lt m _ _ _ hm
 obtain⟨fuel0,hf0⟩:=h0
 obtain⟨A0',n0',c0',L0,hcs0,hd0,hn0,hc0⟩:=ms hf0
 simp [Value.cells] at hcs0
 obtain⟨rfl,rfl,rfl⟩:=hcs0
 obtain⟨C1,rfl,hC1⟩:=okWide_struct Tryz.underlying47 (hval 1 47 v1 rfl rfl)
 have k1:=h1
 have lt1:∀ x∈p1,x.block<W.heap.size:=by obtain⟨m,hm⟩:=k1; exact DataW.trod_lt m _ _ _ hm
 obtain⟨fuel1,hf1⟩:=h1
 obtain⟨o1,As1,ns1,cS1,Ak1,nk1,cK1,hcs1,hin1⟩:=open_op ⟨fuel1,_,hf1⟩
 obtain rfl:C1=(ah o1 (.slice As1 ns1 cS1) (.slice Ak1 nk1 cK1)).toArray:=by
  rw [<-hcs1]; simp [Value.cells]
 clear hA0 hval0
 refine(ledgerStays_in A0 n0 c0 L0 o1 As1 ns1 cS1 Ak1 nk1 cK1 W hTab hd0 hn0 hc0 hin1).mono fun e W' ⟨he,bel⟩=>?_
 subst he
 exact⟨_,rfl,_,_,_,[],_,[],hW',trodAll_mk1 (shut_bool Tryz.underlying4 _),(trodAll_cons_mk (Below.trod laidOut (by kernel_rfl) (of_decide_eq_true (by kernel_rfl)) k0 bel lt0) (trodAll_cons_mk (Below.trod laidOut (by kernel_rfl) (of_decide_eq_true (by kernel_rfl)) k1 bel lt1) trodAll_mk0)),by first|rfl|simp,bel.frame _,fun h=>by cases h⟩
end ledgerStays
theorem ledgerStays.fact0:mapsRowed Tryz.prog=true:=by kernel_rfl
theorem ledgerStays.fact1:(Rows.ledgerStaysRow.inPlace==Tryz.prog.inPlace 4)=true:=by kernel_rfl
theorem ledgerStays.fact2:(Rows.ledgerStaysRow.unfollowed==Tryz.prog.unfollowed 4)=true:=by kernel_rfl
theorem ledgerStays.fact3:(Rows.ledgerStaysRow.recurses==Tryz.prog.recurses 4)=true:=by kernel_rfl
theorem ledgerStays.fact4:(Rows.ledgerStaysRow.named==Tryz.prog.varsNamed 4)=true:=by kernel_rfl
theorem ledgerStays.fact5:Tryz.prog.stopsHeard=true:=by kernel_rfl
theorem ledgerStays.fact6:Tryz.prog.mayEnter=true:=by kernel_rfl
theorem ledgerStays.fact7:(Rows.ledgerStaysRow.lifted==Tryz.prog.liftsFinal)=true:=by kernel_rfl
theorem zT{a b:Bool} (ha:a=true) (hb:b=true):(a&&b)=true:=by rw [ha,hb]; rfl
theorem ledgerStays.joined:joinedFacts Tryz.prog 4 Tryz.f4 Rows.ledgerStaysSpec Rows.ledgerStaysRow=true:=by
 unfold joinedFacts
 exact zT (zT (zT (zT (zT (zT (zT (zT (zT (zT (zT (zT (zT (zT (zT (zT (zT (zT (zT (zT (zT (zT (zT (zT (zT (zT (zT (zT (zT (zT (zT ((by kernel_rfl)) ledgerStays.laidOut) ledgerStays.fact0) (by kernel_rfl)) (by kernel_rfl)) (by kernel_rfl)) (by kernel_rfl)) (by kernel_rfl)) (by kernel_rfl)) ledgerStays.fact1) ledgerStays.fact2) ledgerStays.fact3) ledgerStays.fact4) (by kernel_rfl)) (by kernel_rfl)) (by kernel_rfl)) (by kernel_rfl)) (by kernel_rfl)) (by kernel_rfl)) (by kernel_rfl)) (by kernel_rfl)) (by kernel_rfl)) (by kernel_rfl)) (by kernel_rfl)) ledgerStays.fact5) ledgerStays.fact6) ledgerStays.fact7) (by kernel_rfl)) (by kernel_rfl)) (by kernel_rfl)) (by kernel_rfl)) (by kernel_rfl)
theorem ledgerStays_row_holds:Rows.LedgerStaysSaid :=
 OpenClaim.holds_of_wide 4 Tryz.f4 rfl rfl rfl rfl rfl rfl rfl ⟨rfl,rfl,rfl,rfl,rfl⟩ rfl rfl rfl rfl rfl (by kernel_rfl) Tryz.func4 ledgerStays.joined
  (of_decide_eq_true (by kernel_rfl)) (by unfold Func.isWrapper; first|(rw [if_pos (by decide +kernel)]; kernel_rfl)|(rw [if_neg (by decide +kernel)]; exact⟨rfl,rfl⟩))
  (fun os started H enc _=>ledgerStays.lifted os started H enc)
theorem ledgerStays_holds:Rows.LedgerStaysCardSaid :=
 Claim7.holds_tied_plain_at .later [] Rows.ledgerStaysCard.laidKinds true Rows.ledgerStaysCard.stood.harness false ledgerStays_row_holds (fun _ h=>by cases h) (by kernel_rfl) (fun _ h=>by cases h) ledgerStays_row_tie rfl ⟨rfl,rfl⟩ (by kernel_rfl) rfl
  (fun f fn hf hfn=>by
   obtain rfl:f=4:=Option.some.inj ((show Tryz.prog.funcNamed Rows.ledgerStaysRow.func=some 4 by kernel_rfl).symm.trans hf) |>.symm; obtain rfl:fn=Tryz.f4:=(Option.some.inj (Tryz.func4.symm.trans hfn)).symm; exact⟨by kernel_rfl,fun j t ht=>by
    rw [Tryz.params4] at ht; have hm:t∈[22,47]:=by simpa using Array.mem_of_getElem? ht
    have hall:([22,47].all fun u=>!Tryz.prog.wantsStandIn u)=true:=by kernel_rfl
    exact(show Tryz.prog.wantsStandIn t=false by simpa using List.all_eq_true.1 hall t hm)⟩)
  (by kernel_rfl)
#print axioms ledgerStays_holds
end
end Go.Proofs.YtmbpnkacggngkaaGreatDoor
