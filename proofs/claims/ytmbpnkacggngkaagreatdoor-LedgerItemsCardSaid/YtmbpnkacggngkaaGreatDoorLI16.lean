/- LedRDoes, LedLiv2, LedRApply, LedSameZ, ShaExact, ShaKons, LedItLaw, LedMade (put together by bundle.py: only what is needed). -/
import Derived.Test.YtmbpnkacggngkaaGreatDoorLI15
set_option maxRecDepth 100000
set_option maxHeartbeats 16000000
namespace Go.Proofs.YtmbpnkacggngkaaGreatDoor
open Batch
open Tryz
section
open Go.RowKit Mem Led
theorem bE.from{base gl:Nat}{r:Led.Ledger × Int}{w W w':World}{x:Ending}(A:Below base w W)(h:bE base gl r W x w'):bE base gl r w x w':=⟨h.1,A.trans h.2.1,h.2.2⟩
theorem tf(x:Led.Entry)(v:Value):∀(d:Bool) (E:List (Led.Entry × Value)),(aU (fun a b:Led.Entry × Value=>cE a.1 b.1) (x,v) d E).map Prod.fst=aU cE x d (E.map Prod.fst)
 | d,[]=>by cases d<;>rfl
 | d,y::l=>by
  rw[List.map_cons,aU,aU,List.map_append,List.map_append,tf x v _ l];congr 1
  congr 1
  .cases (!d&&decide (0<=cE y.1 x))<;>rfl
  .cases decide (cE y.1 x=0)<;>rfl
theorem ent_one'(x:Led.Entry × Value)(h:x.2.oneCell'=true):∀u∈ag x,u.oneCell'=true:=by
 intro u A
 simp only[ag,List.mem_cons,List.not_mem_nil,or_false] at A
 rcases A with rfl|rfl|rfl|rfl|rfl
 .rfl
 .rfl
 .rfl
 .rfl
 .exact h
theorem cap_of2{w:World}{base k m n c:Nat}{e:TypeId}{A:Option Addr}{xs:List Value}(h:w.ownsRow base e k (.slice A n c) m xs):n<=c:=by
 obtain⟨B,C,e',f,_⟩:=cl h
 injection e' with _ e2 e3
 subst e2 e3
 exact f.1
theorem gone_at{L:Led.Ledger}{n:Int}{i:Nat}(hi:i<L.entries.length)(A:∀x∈L.entries.take i,(x.n==n)=false)(B:(L.entries[i].n==n)=true):im L n=({ L with entries:=L.entries.take i++L.entries.drop (i+1) },0):=by
 unfold im
 rw[if_pos (List.any_eq_true.2 ⟨_,List.getElem_mem hi,B⟩),rI (p:=fun e:Led.Entry=>e.n==n) hi A B]
theorem rdoes_any{base gl:Nat}{vE vN vB vJ vK vU:Value}{L:Led.Ledger}{E:List (Led.Entry × Value)}{U:List (Led.Bundle × Value)}(o:Led.Op)(sv kv:Value)(w:World)(H:RAt base gl w vE vN vB vJ vK vU L E U)(hL:L.Wf)(ho:Sized o)(AC:NT base w sv o.entry.sels)(AD:NK base w kv o.bundle.keys) :
  Calls prog 40 #[.pointer (some ⟨gl,0,none⟩),.agg (ac o sv kv).toArray] w (bE base gl (does (az o.bundle) L o) w):=by
 obtain⟨AE,Y,rfl,fE,_⟩:=cl H.rk.oE
 have AF:E.length=L.entries.length:=by rw[<-H.rk.ents,List.length_map]
 have zE:=hL.e3
 obtain⟨W,hW⟩:=eC (w.alloc (.cells (ac o sv kv).toArray 47))
 have b0:Blk W w.heap.size (ac o sv kv) 47:=by rw[<-hW];exact Blk.new w _ _
 have J:eF w W:=eG hW
 have HW:=eA hW
 clear hW
 have hH:=H.below J
 have AG:NT base W sv o.entry.sels:=AC.chg (Chg.of_below (S:=[]) J) Far.none H.hb
 have AH:NK base W kv o.bundle.keys:=AD.chg (Chg.of_below (S:=[]) J) (by simp) H.hb
 have q:=eS b0 rfl
 obtain⟨M,d⟩:=eD (o.kind)
 have c0:W.cell? ⟨w.heap.size,0,none⟩=some (.int .i64 M):=(b0.cell 0).trans (by rw[<-d.out];rfl)
 have s:Hid (∀{r:Led.Ledger × Int} {F:FuncId} {args:Array Value},Calls prog F args W (bE base gl r W)->Calls prog F args W (bE base gl r w)):=eA fun h=>h.mono fun _ _ h=>bE.from (J.mono H.hb) h
 obtain⟨R,hR⟩:=eD (does (az o.bundle) L o)
 have u:=fun hk=>s.out (rjoins_any (az o.bundle) o sv kv W hH hL ho hk)
 have Av:=s.out (mV o.node W hH hL ho.nn)
 have y:=fun hk=>s.out (rnames_any (az o.bundle) o sv kv W hH hL ho hk)
 have z:=fun hk=>s.out (rkeys_any (az o.bundle) o sv kv W hH hL hk)
 have Aa:=fun hk=>s.out (uz o sv kv W hH hL ho AH hk)
 have K:=nr b0
 have Ab:=lv b0
 obtain⟨CS,AV⟩:=eD ((ac o sv kv).toArray)
 obtain⟨CN,AW⟩:=eD ((ae o.node).toArray)
 obtain⟨CE,Ah⟩:=eD ((ag (o.entry,sv)).toArray)
 rw[AV.out] at HW q u y z Aa ⊢
 rw[AW.out] at Av K
 rw[Ah.out] at Ab
 rw[hR.out] at u y z Aa ⊢
 rw[d.out] at u y z Aa
 have D:=eA u
 have I:=eA Av
 have B:=eA y
 have C:=eA z
 have G:=eA Aa
 have HH:=eA hH
 have Aw:=eA b0
 have HB:=eA H.hb
 have Ax:=eA AG
 clear u Av y z Aa hH b0 H AC AD AH AG fE
 obtain⟨n,hn⟩:=eC (E.length)
 have HN:=eA hn
 rw[hn] at HH
 have Ay:Hid (L.entries.length=n):=eA (by rw[<-AF,hn])
 rw[Ay.out] at zE
 clear hn AF
 have f:(M=1\/M=2)\/(M=3\/M=4\/M=5\/M=6\/M=7\/M=8\/M=9\/M=10\/M=11\/M=12\/M=13\/M=14)\/((M==1)=false/\(M==2)=false/\(M==3)=false/\(M==4)=false/\(M==5)=false/\(M==6)=false/\(M==7)=false/\(M==8)=false/\(M==9)=false/\(M==10)=false/\(M==11)=false/\(M==12)=false/\(M==13)=false/\(M==14)=false):=by
  simp only[beq_eq_false_iff_ne];omega
 go_enter func40,ntmps40
 go_upto_region 1 with fail
 rw[HW.out]
 clear HW
 rcases f with(rfl|rfl)|f|f
 .have hd:R=fA L o.entry:=by
   rw[<-hR.out];unfold does;rw[d.out];rfl
  have HD:=eA hd;have g:=rentry_any o.entry sv W (Ax.out.at (Nat.le_trans HB.out J.size)) ho.el ho.es ho.ep ho.er;rw[Ah.out] at g;clear hd D I B C G q K
  cases hm:cq o.entry
  .rw [hm] at g
   have HE:Hid (R=(L,1)):=eA (by rw[HD.out];unfold fA;rw[hm];rfl)
   clear hm HD;go_wp2_with fail
   refine g.mono ?_;rintro e T ⟨rfl,Z⟩;go_wp2;go_ret;exact bE.err ((J.trans (Z.mono J.size)).mono HB.out) HE.out (by decide)
  .rw [hm] at g
   have HM:=eA hm;clear hm;go_wp2_with fail
   refine g.mono ?_;rintro e T ⟨rfl,Z⟩;have Ac:=J.trans (Z.mono J.size);have Ai:=eA (HH.out.below Z);have AI:=eA (Aw.out.below Z);have Ad:=eA (Ax.out.chg (Chg.of_below (S:=[]) Z) Far.none (Nat.le_trans HB.out J.size));have f0:∀p,(ab T p).cell? ⟨gl,0,none⟩=some (.slice AE n Y):=fun p=>(Ai.out.blk.below (aa T p)).cell 0;have f1:∀p,(gz (.pointer (some ⟨w.heap.size,3,none⟩))).run prog (ab T p)=.ok (.agg CE) (ab T p):=fun p=>by rw[<-Ah.out];exact lv (AI.out.below (aa T p))
   have AJ:Hid (∀w5,eF T w5->Calls prog 71 #[.slice AE n Y,.agg CE] w5 fun e w'=>∃v,e=.returned v/\GR w5 w'/\w'.ownsRow base 36 5 v (aU (fun a b:Led.Entry × Value=>cE a.1 b.1) (o.entry,sv) false E).length (ah ag (aU (fun a b:Led.Entry × Value=>cE a.1 b.1) (o.entry,sv) false E))):=eA fun w5 k=>by
    have H5:=Ai.out.below k;have ht:Es ag 5 w5 AE n E:=by
     obtain⟨A,n',c,e,_,ht⟩:=bc H5.rk.oE;injection e with e1 e2 e3
     subst e1 e2 e3;exact ht
    rw[<-Ah.out];refine(scanEnt_any AE n Y E (o.entry,sv) w5 ht (by omega) (lX (pN (w:=w5) (E:=E) (fun p hp=>(H5.rk.sels p hp).at H5.hb))) (ent_one' (o.entry,sv) Ad.out.one)).mono ?_;rintro e w' ⟨v,he,ho,AX⟩;exact⟨v,he,GR.of AX,aG ho H5.hb⟩
   clear g Ab c0 HH Aw Ax Z;go_upto_region 6 with fail
   refine aE [([0,1,2,3,4,5],(6,fun v w'=>w'.ownsRow base 36 5 v (aU (fun a b:Led.Entry × Value=>cE a.1 b.1) (o.entry,sv) false E).length (ah ag (aU (fun a b:Led.Entry × Value=>cE a.1 b.1) (o.entry,sv) false E))))] [7] (by kernel_rfl) (by kernel_rfl) (by
    intro x hx;simp only[List.mem_cons,List.not_mem_nil,or_false] at hx;subst hx;exact ao fun v w w' k h=>af h k eH) ?_
   refine aw ?_;simp only[pick,List.getD_cons_zero,List.getD_cons_succ];repeat (go_big_quiet_step (fail))
   refine wpQuiet_nil ?_;refine⟨_,rfl,rfl,?_,?_⟩
   .intro w5 AY _
    go_simp
    exact⟨rfl,AJ.out w5 AY.below⟩
   rintro v1-w6 AK hF;obtain⟨_,Az⟩:=hF;obtain⟨A9,c9,rfl,_,_⟩:=aj Az;have Aj:=AK.below;have H6:=Ai.out.below Aj;have Ae:(aU (fun a b:Led.Entry × Value=>cE a.1 b.1) (o.entry,sv) false E).map Prod.fst=ins cE o.entry L.entries:=by rw[tf,H6.rk.ents,gE rX hL.e1]
   have Ao:(aU (fun a b:Led.Entry × Value=>cE a.1 b.1) (o.entry,sv) false E).length=(ins cE o.entry L.entries).length:=by rw[<-Ae,List.length_map]
   have q6:w6.cell? ⟨gl,0,none⟩=some (.slice AE n Y):=H6.blk.cell 0;have Bc:=H6.blk.froz 0;have Ap:=Ac.trans (Aj.mono Ac.size);have H7:=H6.setE (l:=ins cE o.entry L.entries) Az Ae (fun p hp=>by
    rcases mT hp with rfl|h
    .exact Ad.out.chg (Chg.of_below (S:=[]) Aj) Far.none (Nat.le_trans HB.out Ac.size)
    .exact H6.rk.sels p h)
   have Ak:=(Ap.mono HB.out).setCell (p:=⟨gl,0,none⟩) H6.hg (.slice A9 (aU (fun a b:Led.Entry × Value=>cE a.1 b.1) (o.entry,sv) false E).length c9);have Al:=eA H7;have Aq:=eA Ao;clear f0 f1 AJ Ai H6 H7 Az AK Aj AI Ad Ae Ao;obtain⟨m,hm⟩:=eC ((aU (fun a b:Led.Entry × Value=>cE a.1 b.1) (o.entry,sv) false E).length);rw[hm] at Al Ak Aq ⊢;have Ar:put cE 24 o.entry L.entries=if m<=24 then some (ins cE o.entry L.entries) else none:=by unfold put;rw[<-Aq.out]
   have HP:=eA Ar;clear hm Ar;by_cases AL:m<=24
   .have hz:¬(24:Int)<(m:Int):=by omega
    have HE:Hid (R=({ L with entries:=ins cE o.entry L.entries },0)):=eA (by rw[HD.out];unfold fA;rw[HM.out,HP.out,if_pos AL];rfl)
    have Af:Hid (bE base gl R w (.returned (.int .i64 0)) (w6.setCell ⟨gl,0,none⟩ (.slice A9 m c9))):=eA (by
     rw[HE.out];exact⟨rfl,Ak,fun _=>⟨_,_,_,_,_,_,_,_,Al.out⟩⟩)
    clear Al Ak HD HP;go_wp2;(try rw[ak])
    (try go_wp2)
    go_ret;exact Af.out
   .have hz:(24:Int)<(m:Int):=by omega
    have HE:Hid (R=(L,6)):=eA (by rw[HD.out];unfold fA;rw[HM.out,HP.out,if_neg AL];rfl)
    clear Al Ak HD HP;go_wp2;(try rw[ak])
    (try go_wp2)
    go_ret;exact bE.err (Ap.mono HB.out) HE.out (by decide)
 .have hd:R=im L o.n:=by
   rw[<-hR.out];unfold does;rw[d.out];rfl
  have HD:=eA hd;have AM:=eA HH.out.rk.ents;have hE:Es ag 5 W AE n E:=by
   obtain⟨A,n',c,e,_,ht⟩:=bc HH.out.rk.oE;injection e with e1 e2 e3
   subst e1 e2 e3;exact ht
  have A0:=eA hE;clear hd D I B C G q K Ab hE;go_wp2_with fail
  go_loopw [7] (fun i wr=>∃j:Nat,j<=n/\i=.int .i64 (j:Int)/\eF W wr/\Hid (∀x∈L.entries.take j,(x.n==o.n)=false)) (fun i _=>n-(intOf i).toNat)
  case atStart=>exact⟨0,by omega,rfl,Below.refl _ _,eA (by simp)⟩
  case round =>
   obtain⟨j,hj,rfl,k,HT⟩:=hrel;obtain⟨wx,AZ⟩:∃wx,wx=wr:=⟨_,rfl⟩;subst AZ;have Hx:=HH.out.below k;have cg:wx.cell? ⟨gl,0,none⟩=some (.slice AE n Y):=Hx.blk.cell 0;have AN:=J.trans (k.mono J.size);by_cases A3:j<n
   .have Ba:(j:Int)<(n:Int):=by omega
    have Am:j<E.length:=by rw[HN.out];exact A3
    have A4:j<L.entries.length:=by rw[Ay.out];exact A3
    have As:L.entries[j]=E[j].1:=mE AM.out Am A4;obtain⟨b,Ag,e,h1,N⟩:=A0.out.lit bf (by omega) Am;subst e;have f0:∀p,(ab wx p).cell? ⟨gl,0,none⟩=some (.slice (some ⟨b,Ag,none⟩) n Y):=fun p=>(Hx.blk.below (aa wx p)).cell 0;have f1:∀p,(ab wx p).cell? ⟨b,Ag+j*5,none⟩=some (.int .i64 E[j].1.n):=fun p=>ey bf (by omega) A0.out Am (k.trans ((aa wx p).mono k.size)) (j:=0) rfl;have f2:∀p,(ab wx p).cell? ⟨w.heap.size,1,none⟩=some (.int .i64 o.n):=fun p=>(Aw.out.below (k.trans ((aa wx p).mono k.size))).cell 1;have V:=eA fun h=>dP (p:=fun e:Led.Entry=>e.n==o.n) A4 HT.out h;have X:=eA fun h=>gone_at (n:=o.n) A4 HT.out h;rw[As] at V X;clear N As;generalize E[j].1.n=en at *;clear Am;go_upto_region 15 with fail
    refine au ?_;repeat (go_big_quiet_step (fail))
    refine wpQuiet_nil ?_;rintro _ ⟨p,rfl⟩;have AO:=aa wx p;have An:=k.trans (AO.mono k.size);have AP:=f0 p;generalize ab wx p=w2 at *;clear f0 f1 f2 AO Hx cg AN k
    cases hq:(en==o.n)
    .have HX:=eA (V.out hq)
     clear V X HT;go_wp2_with fail
     go_roundw
     case rel=>exact⟨j+1,by omega,by go_num,An,HX⟩
     case measure=>simp[intOf];omega
    .have HE:Hid (R=({ L with entries:=L.entries.take j++L.entries.drop (j+1) },0)):=eA (by rw[HD.out];exact X.out hq)
     have H2:=HH.out.below An;have Au:=J.trans (An.mono J.size);have AQ:Es ag 5 w2 (some ⟨b,Ag,none⟩) n E:=A0.out.below An;obtain⟨A1,c1,A2,c2,B1,d1,w3,B2,d2,w4,s1,s2,AR,Bb,AS,A5,AT⟩:=o4 bf (by omega) (t:=23) (e:=36) gR rfl underlying23 (by omega) AQ (cap_of2 H2.rk.oE) (by omega) A3 (lX (pN (w:=w2) (E:=E) (fun p hp=>(H2.rk.sels p hp).at H2.hb)));have Bd:w3.cell? ⟨gl,0,none⟩=some (.slice (some ⟨b,Ag,none⟩) n Y):=(Bb.cell (p:=⟨gl,0,none⟩) H2.blk.lt).trans AP;have Be:w4.cell? ⟨gl,0,none⟩=some (.slice (some ⟨b,Ag,none⟩) n Y):=(A5.cell (p:=⟨gl,0,none⟩) H2.blk.lt).trans AP;have H4:=H2.below A5;have Bf:w4.frozen? ⟨gl,0,none⟩=false:=H4.blk.froz 0;have H5:=H4.setE (l:=L.entries.take j++L.entries.drop (j+1)) (aG AT H2.hb) (by rw[List.map_append,List.map_take,List.map_drop,AM.out]) (fun p hp=>H4.rk.sels p (by
      rcases List.mem_append.1 hp with h|h
      .exact List.mem_of_mem_take h
      .exact List.mem_of_mem_drop h))
     have AU:Below base w (w4.setCell ⟨gl,0,none⟩ (.slice B2 (n-1) d2)):=((Au.trans (A5.mono Au.size)).mono HB.out).setCell (p:=⟨gl,0,none⟩) H4.hg _;have Af:Hid (bE base gl R w (.returned (.int .i64 0)) (w4.setCell ⟨gl,0,none⟩ (.slice B2 (n-1) d2))):=eA (by
      rw[HE.out];exact⟨rfl,AU,fun _=>⟨_,_,_,_,_,_,_,_,H5⟩⟩)
     have Bg:(j:Int)+1<=9223372036854775807:=by omega
     clear V X HT HD H2 H4 H5 AU AT AQ;go_wp2_with (at_builtin;first|refine Lib.wpList_append_run _ rfl _ _ _ _ rfl _ _ rfl rfl _ _ AR ?_|refine Lib.wpList_append_run _ rfl _ _ _ _ rfl _ _ rfl rfl _ _ AS ?_)
     go_ret;exact Af.out
   .have Ba:¬(j:Int)<(n:Int):=by omega
    have HE:Hid (R=(L,7)):=eA (by
     have h:=HT.out;rw[List.take_of_length_le (by rw[Ay.out];omega)] at h
     rw[HD.out];unfold im;rw[if_neg];rw[Bool.not_eq_true,List.any_eq_false];intro x hx;rw[h x hx];simp)
    clear HT HD Hx;go_wp2_with fail
    go_ret;exact bE.err (AN.mono HB.out) HE.out (by decide)
 .clear Ab
  rcases f with rfl|rfl|rfl|rfl|rfl|rfl|rfl|rfl|rfl|rfl|rfl|rfl
  .have Q:=(D.out (by omega))
   clear D I B C G K;go_wp2_with fail
   refine Q.mono ?_;rintro e T ⟨rfl,N,O⟩;go_wp2;go_ret;exact⟨rfl,N,O⟩
  .have Q:=(D.out (by omega))
   clear D I B C G K;go_wp2_with fail
   refine Q.mono ?_;rintro e T ⟨rfl,N,O⟩;go_wp2;go_ret;exact⟨rfl,N,O⟩
  .have h:R=aR L o.node:=by
    rw[<-hR.out];unfold does;rw[d.out];rfl
   have Q:=I.out;rw[<-h] at Q;clear h D I B C G q;go_wp2_with fail
   refine Q.mono ?_;rintro e T ⟨rfl,N,O⟩;go_wp2;go_ret;exact⟨rfl,N,O⟩
  .have Q:=(B.out (by omega))
   clear D I B C G K;go_wp2_with fail
   refine Q.mono ?_;rintro e T ⟨rfl,N,O⟩;go_wp2;go_ret;exact⟨rfl,N,O⟩
  .have Q:=(B.out (by omega))
   clear D I B C G K;go_wp2_with fail
   refine Q.mono ?_;rintro e T ⟨rfl,N,O⟩;go_wp2;go_ret;exact⟨rfl,N,O⟩
  .have Q:=(B.out (by omega))
   clear D I B C G K;go_wp2_with fail
   refine Q.mono ?_;rintro e T ⟨rfl,N,O⟩;go_wp2;go_ret;exact⟨rfl,N,O⟩
  .have Q:=(C.out (by omega))
   clear D I B C G K;go_wp2_with fail
   refine Q.mono ?_;rintro e T ⟨rfl,N,O⟩;go_wp2;go_ret;exact⟨rfl,N,O⟩
  .have Q:=(C.out (by omega))
   clear D I B C G K;go_wp2_with fail
   refine Q.mono ?_;rintro e T ⟨rfl,N,O⟩;go_wp2;go_ret;exact⟨rfl,N,O⟩
  .have Q:=(C.out (by omega))
   clear D I B C G K;go_wp2_with fail
   refine Q.mono ?_;rintro e T ⟨rfl,N,O⟩;go_wp2;go_ret;exact⟨rfl,N,O⟩
  .have Q:=(G.out (by omega))
   clear D I B C G K;go_wp2_with fail
   refine Q.mono ?_;rintro e T ⟨rfl,N,O⟩;go_wp2;go_ret;exact⟨rfl,N,O⟩
  .have Q:=(G.out (by omega))
   clear D I B C G K;go_wp2_with fail
   refine Q.mono ?_;rintro e T ⟨rfl,N,O⟩;go_wp2;go_ret;exact⟨rfl,N,O⟩
  .have Q:=(B.out (by omega))
   clear D I B C G K;go_wp2_with fail
   refine Q.mono ?_;rintro e T ⟨rfl,N,O⟩;go_wp2;go_ret;exact⟨rfl,N,O⟩
 .have HE:Hid (R=(L,1)):=eA (by
   rw[<-hR.out];unfold does;rw[d.out];obtain⟨h1,N,O,h4,h5,h6,h7,h8,h9,A6,A7,A8,AA,AB⟩:=f;simp only[beq_eq_false_iff_ne] at h1 N O h4 h5 h6 h7 h8 h9 A6 A7 A8 AA AB;simp only[h1,N,O,h4,h5,h6,h7,h8,h9,A6,A7,A8,AA,AB,if_false])
  obtain⟨h1,N,O,h4,h5,h6,h7,h8,h9,A6,A7,A8,AA,AB⟩:=f;clear D I B C G q K Ab;go_wp2_with fail
  go_ret;exact bE.err (J.mono HB.out) HE.out (by decide)
end
section
open Go.RowKit Mem Led
def lvA:Txt:=[47,97,103,101,110,116,47,97]
def uV:Led.Op:={ fe with kind:=2,n:=5 }
def ph:Led.Op:={ fe with kind:=6,name:=lvA }
def lvM:Led.Ledger:={ none' with bans:=[lvA] }
theorem tA:Ids.agent lvA=true:=by decide +kernel
theorem lv1(ok:Bool):does ok none' uV=(none',7):=rfl
theorem lv2(ok:Bool):does ok none' ph=(lvM,0):=by
 show ii none' lvA=_
 unfold ii
 rw[tA]
 rfl
theorem lv3(ok:Bool):does ok lvM ph=(lvM,8):=by
 show ii lvM lvA=_
 unfold ii
 rw[tA]
 rfl
theorem ra:Sized uV/\Sized ph:=by
 constructor<;>constructor<;>first|decide|(intro x hx;cases hx)
theorem lvM_wf:lvM.Wf:=by
 have:=does_wf (ok:=true) (L:=none') (o:=ph) pP (by decide) (by decide)
 rwa [lv2] at this
theorem lv_lg(w:World):dk w (aB (.slice none 0 0)) none' [] []:=by
 have e:∀{α:Type} (enc:α->List Value) (k:Nat),aV enc k w (.slice none 0 0) []:=fun enc k=>⟨none,0,0,rfl,⟨by omega,by omega,fun _=>rfl⟩,Es.empty _ _⟩
 exact⟨⟨_,_,_,_,_,_,rfl,e _ _,e _ _,⟨none,0,0,rfl,⟨by omega,by omega,fun _=>rfl⟩,Ts.empty _ _⟩,e _ _,e _ _,e _ _⟩,rfl,rfl,fun p A=>(by cases A),fun p A=>(by cases A)⟩
theorem rc(w:World):br w (.slice none 0 0) ([]:List Txt)/\aV aN 2 w (.slice none 0 0) []/\dk w (aB (.slice none 0 0)) none' [] [] :=
 ⟨⟨none,0,0,rfl,⟨by omega,by omega,fun _=>rfl⟩,Ts.empty _ _⟩,⟨none,0,0,rfl,⟨by omega,by omega,fun _=>rfl⟩,Es.empty _ _⟩,lv_lg w⟩
def pQ(o:Led.Op):List Value:=ac o (.slice none 0 0) (.slice none 0 0)
theorem lv_ap(o:Led.Op)(cs:List Value)(L L':Led.Ledger)(D:Int)(E:List (Led.Entry × Value))(U:List (Led.Bundle × Value))(w:World)(I:Tab Sha.kkL w)(J:Sized o)(C:o.kind<=100)(K:o.entry.sels=[])(F:o.bundle.keys=[])(M:dk w cs L E U)(N:L.Wf)(hd:∀ok,does ok L o=(L',D)) :
  Calls prog 14 #[.agg cs.toArray,.agg (pQ o).toArray] w fun e w'=>∃vE vN A c vJ vK vU G H,e=.returned (.tuple #[.agg #[vE,vN,.slice A L'.bans.length c,vJ,vK,vU],.int .i64 D])/\(∀v∈[vE,vN,.slice A L'.bans.length c,vJ,vK,vU],v.oneCell'=true)/\dk w' [vE,vN,.slice A L'.bans.length c,vJ,vK,vU] L' G H/\eF w w':=by
 refine(r8 cs L E U o _ _ w M N J C (by rw[K];exact(rc w).1) (by rw[F];exact(rc w).2.1) (by rw[F];intro k C;cases C) I).mono ?_
 rintro e w' ⟨r,rfl,vE,vN,vB,vJ,vK,vU,G,H,rfl,B,O⟩
 rw[se] at B
 rw[hd] at B ⊢
 obtain⟨A,c,rfl,_⟩:=aj B.oB
 exact⟨_,_,_,_,_,_,_,_,_,rfl,B.ones,B.at,O⟩
theorem uU(w:World)(cs:List Value)(h:cs.length=6)(D:∀v∈cs,v.oneCell'=true) :
  ∃A,(ir (.pointer (some ⟨w.heap.size,0,none⟩)) (.agg cs.toArray)).run prog (w.alloc (.cells #[.slice none 0 0,.slice none 0 0,.slice none 0 0,.slice none 0 0,.slice none 0 0,.slice none 0 0] 30))=.ok () A/\Blk A w.heap.size cs 30/\eF w A:=by
 have E:=Blk.new w (aB (.slice none 0 0)) 30
 obtain⟨B,F⟩:=bX E rfl h D
 have C:Chg [] w ((w.alloc (.cells (aB (.slice none 0 0)).toArray 30)).setCells w.heap.size 0 cs):=((Chg.refl _ _).alloc _).setCells _ (.inr eH)
 exact⟨_,B,F,C.below (fun _ h=>by cases h)⟩
theorem lives2_any(w:World)(j:Tab Sha.kkL w):Calls prog 12 #[] w fun e w'=>e=.returned (.bool true)/\eF w w':=by
 obtain⟨u,C⟩:=eC (w.alloc (.cells (aB (.slice none 0 0)).toArray 30))
 have R:=da.new w
 have F:eF w u:=eG C
 rw[C] at R
 have x:=R.blk
 have D:=R.load
 have g:=lv_ap uV _ _ _ _ _ _ u (j.below F) ra.1 (by decide) rfl rfl R.at_ pP lv1
 rw[<-C] at D
 have L:=eA C
 clear C R
 unfold aB at D L g
 unfold pQ uV ac fe at g
 go_enter func12,ntmps12
 go_wp2_with fail
 rw[L.out]
 refine g.mono ?_
 rintro e y ⟨Aa,Ab,A1,c1,Ac,Ad,Ae,E1,U1,rfl,S,T,M⟩
 clear D L g
 have G:eF w y:=F.trans (M.mono F.size)
 have z:=x.below M
 obtain⟨k,l,B2,N⟩:=uU y _ rfl S
 have E:eF w k:=G.trans (N.mono G.size)
 have b2:=z.below N
 have H:=cY b2 rfl
 have h:=lv_ap ph _ _ _ _ _ _ k (j.below E) ra.2 (by decide) rfl rfl (rc k).2.2 pP lv2
 unfold aB at H h
 unfold pQ ph ac fe at h
 clear T S z B2 F x M
 go_wp2_with fail
 refine h.mono ?_
 rintro e m ⟨n,o,A,c,q,r,s,E3,U3,rfl,U,I,V⟩
 have J:eF w m:=E.trans (V.mono E.size)
 obtain⟨w4,X,t,Y⟩:=uU m _ rfl U
 have B:eF w w4:=J.trans (Y.mono J.size)
 have K:=cY t rfl
 have i:=lv_ap ph _ _ _ _ _ _ w4 (j.below B) ra.2 (by decide) rfl rfl (I.below Y) lvM_wf lv3
 unfold pQ ph ac fe at i
 clear I U l H b2 N V h
 obtain⟨CS,O⟩:=eD (#[n,o,.slice A lvM.bans.length c,q,r,s])
 rw[O.out] at X K i
 rw[O.out]
 go_wp2_with fail
 refine i.mono ?_
 rintro e w5 ⟨Af,Ag,A5,c5,Ah,Ai,Aj,E5,U5,rfl,Z,b,Q⟩
 obtain⟨w6,Ak,B6,d⟩:=uU w5 _ rfl Z
 have b4:=(t.below Q).below d
 have m4:w6.cell? ⟨m.heap.size,2,none⟩=some (.slice A 1 c):=b4.cell 2
 have f:eF w w6:=(B.trans (Q.mono B.size)).trans (d.mono (Nat.le_trans B.size Q.size))
 clear X K O i t B6 b4 b Z
 go_wp2
 go_ret
 exact⟨rfl,f⟩
end
section
open Go.RowKit Mem Led
def RApplied(r:Led.Ledger × Int)(w:World)(x:Ending)(w':World):Prop :=
 ∃cs E U,x=.returned (.tuple #[.agg cs.toArray,.int .i64 r.2])/\(∀v∈cs,v.oneCell'=true)/\dk w' cs r.1 E U/\gN w' cs E U/\eF w w'
theorem dk.ones{w:World}{cs:List Value}{L:Led.Ledger}{E:List (Led.Entry × Value)}{U:List (Led.Bundle × Value)}(h:dk w cs L E U):∀v∈cs,v.oneCell'=true:=by
 obtain⟨⟨vE,vN,vB,vJ,vK,vU,rfl,⟨_,_,_,rfl,_⟩,⟨_,_,_,rfl,_⟩,⟨_,_,_,rfl,_⟩,⟨_,_,_,rfl,_⟩,⟨_,_,_,rfl,_⟩,⟨_,_,_,rfl,_⟩⟩,_⟩:=h
 intro v A
 simp only[List.mem_cons,List.not_mem_nil,or_false] at A
 rcases A with rfl|rfl|rfl|rfl|rfl|rfl<;>rfl
theorem Vs.past{w w':World}{B size n g:Nat}{A:Option Addr}{xs M:List Value}{t:TypeId}(h:Vs w B size A n xs)(hx:∀u,xs[0]?=some u->∀A n c,u≠.slice A n c)(H:Chg [g] w w')(O:B<=w.heap.size)(I:Blk w g M t)(J:∀u∈M,∃A n c,u=.slice A n c):Vs w' B size A n xs:=by
 refine⟨h.len,fun j u E=>?_⟩
 obtain⟨Q,e,K,F⟩:=h.rd j u E
 have R:=(List.getElem?_eq_some_iff.1 E).1
 obtain⟨b,G,e2,L,C⟩:=Vs.lit h (by omega)
 rw[e2] at e
 injection e with e
 subst e
 refine⟨_,e2,K,?_⟩
 have N:=C j u E
 rw[Addr.add_lit]
 have D:b≠g:=fun D=>by
  subst D;have h0:=C 0 _ (List.getElem?_eq_getElem (show 0<xs.length by omega));rw[I.cell] at h0;obtain⟨S,n',T,e'⟩:=J _ (List.mem_of_getElem? h0);exact hx _ (List.getElem?_eq_getElem (show 0<xs.length by omega)) _ _ _ e'
 exact(World.cell?_of_block (a:=⟨b,G+j,none⟩) (H.block b (by omega) (by simpa using D))).trans N
theorem aV.past{α:Type}{enc:α->List Value}{k:Nat}(E:∀x,∃u r,enc x=u::r/\∀A n c,u≠.slice A n c){w w':World}{g:Nat}{M:List Value}{t:TypeId}{v:Value}{L:List α}(h:aV enc k w v L)(D:Chg [g] w w')(F:Blk w g M t)(G:∀u∈M,∃A n c,u=.slice A n c):aV enc k w' v L:=by
 obtain⟨A,n,c,H,I,C⟩:=h
 have C:Vs w w.heap.size k A n (ah enc L):=C
 refine⟨A,n,c,H,I,(Vs.past C (fun u B=>?_) D eH F G).mono D.size⟩
 cases L with
 | nil=>simp[ah] at B
 | cons x l =>
  obtain⟨K,r,e,J⟩:=E x;rw[bM,e] at B;simp only[List.cons_append,List.getElem?_cons_zero,Option.some.injEq] at B;rw[<-B];exact J
theorem br.past{w w':World}{g:Nat}{M:List Value}{t:TypeId}{v:Value}{L:List Txt}(h:br w v L)(C:Chg [g] w w')(D:Blk w g M t)(E:∀u∈M,∃A n c,u=.slice A n c):br w' v L:=by
 obtain⟨A,n,c,F,G,B⟩:=h
 have B:Vs w w.heap.size 1 A n (tv L):=B
 refine⟨A,n,c,F,G,(Vs.past B (fun u H=>?_) C eH D E).mono C.size⟩
 obtain⟨x,_,rfl⟩:=List.mem_map.1 (List.mem_of_getElem? H)
 intro A n c e
 cases e
theorem dk.slices{w:World}{cs:List Value}{L:Led.Ledger}{E:List (Led.Entry × Value)}{U:List (Led.Bundle × Value)}(h:dk w cs L E U):∀v∈cs,∃A n c,v=.slice A n c:=by
 obtain⟨⟨vE,vN,vB,vJ,vK,vU,rfl,⟨_,_,_,rfl,_⟩,⟨_,_,_,rfl,_⟩,⟨_,_,_,rfl,_⟩,⟨_,_,_,rfl,_⟩,⟨_,_,_,rfl,_⟩,⟨_,_,_,rfl,_⟩⟩,_⟩:=h
 intro v B
 simp only[List.mem_cons,List.not_mem_nil,or_false] at B
 rcases B with rfl|rfl|rfl|rfl|rfl|rfl<;>exact⟨_,_,_,rfl⟩
theorem dk.past{w w':World}{cs M:List Value}{L:Led.Ledger}{E:List (Led.Entry × Value)}{U:List (Led.Bundle × Value)}{g:Nat}{t:TypeId}(h:dk w cs L E U)(B:Chg [g] w w')(C:Blk w g M t)(D:∀u∈M,∃A n c,u=.slice A n c):dk w' cs L E U:=by
 obtain⟨⟨vE,vN,vB,vJ,vK,vU,h0,G,H,I,J,K,N⟩,e,u,s,k⟩:=h
 exact⟨⟨vE,vN,vB,vJ,vK,vU,h0,G.past (fun x=>⟨_,_,rfl,fun _ _ _ e=>by cases e⟩) B C D,H.past (fun x=>⟨_,_,rfl,fun _ _ _ e=>by cases e⟩) B C D,I.past B C D,J.past (fun x=>⟨_,_,rfl,fun _ _ _ e=>by cases e⟩) B C D,K.past (fun x=>⟨_,_,rfl,fun _ _ _ e=>by cases e⟩) B C D,N.past (fun x=>⟨_,_,rfl,fun _ _ _ e=>by cases e⟩) B C D⟩,e,u,fun p F=>(s p F).past B C D,fun p F=>(k p F).past (fun x=>⟨_,_,rfl,fun _ _ _ e=>by cases e⟩) B C D⟩
theorem rapply_any(cs:List Value)(L:Led.Ledger)(E:List (Led.Entry × Value))(U:List (Led.Bundle × Value))(o:Led.Op)(sv kv:Value)(w:World)(hL:dk w cs L E U)(hW:L.Wf)(ho:Sized o)(m:br w sv o.entry.sels)(q:aV aN 2 w kv o.bundle.keys)(hN:gN w cs E U)(s:Nop w sv)(t:Nop w kv) :
  Calls prog 23 #[.agg cs.toArray,.agg (ac o sv kv).toArray] w (RApplied (does (az o.bundle) L o) w):=by
 obtain⟨W,F⟩:=eC (((w.alloc (.cells cs.toArray 30)).alloc (.cells (ac o sv kv).toArray 47)).alloc (.cells (aB (.slice none 0 0)).toArray 30))
 have b0:Blk W w.heap.size cs 30:=by rw[<-F];exact((Blk.new _ _ _).alloc _).alloc _
 have b1:Blk W (w.heap.size+1) (ac o sv kv) 47:=by
  have:=Blk.new (w.alloc (.cells cs.toArray 30)) (ac o sv kv) 47;rw[<-F];exact Blk.alloc (by simpa using this) _
 have b2:Blk W (w.heap.size+2) (aB (.slice none 0 0)) 30:=by
  have:=Blk.new ((w.alloc (.cells cs.toArray 30)).alloc (.cells (ac o sv kv).toArray 47)) (aB (.slice none 0 0)) 30;rw[<-F];simpa using this
 have A:eF w W:=by rw[<-F];exact(eI.alloc (by simp) _).alloc (by simp;omega) _
 have Ar:W.heap.size=w.heap.size+3:=by rw[<-F];simp
 have R:=rcopy_any cs L E U W (hL.below A) hW.small (hN.below A).2.2
 have u:=cY b0 hL.len
 have x:NT W.heap.size W sv o.entry.sels:=NT.old (m.below A) (s.below A)
 have y:NK W.heap.size W kv o.bundle.keys:=NK.old (q.below A) (t.below A)
 have z:=eA F
 unfold aB at z
 clear F
 obtain⟨CL,Aa⟩:=eD (cs.toArray)
 rw[Aa.out] at z R u ⊢
 obtain⟨CS,T⟩:=eD ((ac o sv kv).toArray)
 rw[T.out] at z ⊢
 obtain⟨r,hr⟩:=eD (does (az o.bundle) L o)
 have Ab:Hid (r.2=0\/r.1=L):=eA (by
  rw[<-hr.out];rcases does_or (az o.bundle) L o with h|h
  .exact .inr h
  .exact .inl h)
 have Ag:=eA b0
 have Ah:=eA b1
 have Ai:=eA b2
 have Aj:=eA x
 have Ak:=eA y
 have V:=eA hL
 have Al:=eA hN
 rw[hr.out]
 clear b0 b1 b2 x y hL m q hN s t
 go_enter func23,ntmps23
 go_upto_region 1 with fail
 rw[z.out]
 clear z
 go_wp2_with fail
 refine R.mono ?_
 rintro e w1 ⟨vE,vN,vB,vJ,vK,vU,E1,rfl,X,M⟩
 obtain⟨w2,Am,B2,Y⟩:=uU w1 [vE,vN,vB,vJ,vK,vU] rfl X.ones
 have B:=M.trans (Y.mono M.size)
 have Ap:=A.trans (B.mono A.size)
 have C:RAt W.heap.size w1.heap.size w2 vE vN vB vJ vK vU L E1 U:=⟨B.size,M.size,X.below Y M.size,B2⟩
 have Z:=rdoes_any o sv kv w2 C hW ho (Aj.out.chg (Chg.of_below (S:=[]) B) Far.none eH) (Ak.out.chg (Chg.of_below (S:=[]) B) (by simp) eH)
 rw[hr.out,T.out] at Z
 have Ac:=eS (Ah.out.below B) rfl
 rw[T.out] at Ac
 clear R u C B2 Y X
 go_wp2_with fail
 refine Z.mono ?_
 rintro e w3 ⟨rfl,An,Ad⟩
 have I:eF W w3:=B.trans An
 have Q:=A.trans (I.mono A.size)
 have q0:=Ag.out.below I
 have q2:=Ai.out.below I
 have N:=eA Ad
 clear Ad Z Ac Am
 obtain⟨en,b⟩:=eD (r.2)
 rw[b.out] at N Ab ⊢
 by_cases hz:en=0
 .subst hz
  obtain⟨c,d,f,g,i,j,E',U',C⟩:=N.out rfl;have Aq:=cY C.blk rfl;obtain⟨O,K⟩:=bX q2 rfl (vs:=[c,d,f,g,i,j]) rfl C.rk.ones;obtain⟨l,G⟩:=eC (w3.setCells (w.heap.size+2) 0 [c,d,f,g,i,j]);have H:Chg [w.heap.size+2] w3 l:=by rw[<-G];exact(Chg.refl _ _).setCells _ (.inl (by simp))
  rw[G] at O K;have Ae:dk l [c,d,f,g,i,j] r.1 E' U':=(C.rk.at C.hb).past H q2 (by simp[aB]);have Af:=C.rk.nops.turn H K (by decide);have k:=eA Af;have hH:=K.has (n:=6) rfl;have hA:=K.arr (n:=6) rfl;have D:eF w l:=((Chg.of_below (S:=[w.heap.size+2]) Q).and H).below' eH (by simp);have J:=eA Ae;clear G H K C Ae Af N q0;go_wp2;refine bodyPost_ret (fS (P:=prog) Tryz.results23 _ _ (w.heap.size+2) 0 6 _ rfl underlying30 rfl bT hH) rfl ?_;exact⟨_,E',U',by rw[hA,b.out];rfl,J.out.ones,J.out,k.out,D⟩
 .have As:(en != 0)=true:=by simpa using hz
  have hE:r.1=L:=by
   rcases Ab.out with h|h
   .contradiction
   .exact h
  have Ao:=cY q0 V.out.len;obtain⟨O,K⟩:=bX q2 rfl (vs:=cs) V.out.len V.out.ones;obtain⟨l,G⟩:=eC (w3.setCells (w.heap.size+2) 0 cs);have H:Chg [w.heap.size+2] w3 l:=by rw[<-G];exact(Chg.refl _ _).setCells _ (.inl (by simp))
  rw[G] at O K;have hH:=K.has (n:=6) V.out.len;have hA:=K.arr (n:=6) V.out.len;have D:eF w l:=((Chg.of_below (S:=[w.heap.size+2]) Q).and H).below' eH (by simp);have J:=eA (V.out.below D);have k:=eA (Al.out.below D);rw[<-hE] at J;rw[Aa.out] at Ao O;clear G H K N hE hz;go_wp2;refine bodyPost_ret (fS (P:=prog) Tryz.results23 _ _ (w.heap.size+2) 0 6 _ rfl underlying30 rfl bT hH) rfl ?_;exact⟨cs,E,U,by rw[hA,b.out];rfl,V.out.ones,J.out,k.out,D⟩
end
section
open Go.RowKit Mem Led
theorem rf(cs Ay:List Value)(L L':Led.Ledger)(E E':List (Led.Entry × Value))(U U':List (Led.Bundle × Value))(w:World)(h:dk w cs L E U)(h':dk w Ay L' E' U') :
  Calls prog 15 #[.agg cs.toArray,.agg Ay.toArray] w (fC w (L=L')):=by
 obtain⟨p,HP⟩:∃p:Prop,Hid (p=(L=L')):=⟨_,eA rfl⟩
 rw[<-HP.out]
 have NO:=eA (fun (w2:World) (h:¬L=L') (B:eF w w2)=>show fC w p (.returned (.bool false)) w2 from .no (eA fun e=>h (HP.out.mp e)) B)
 obtain⟨⟨vE,vN,vB,vJ,vK,vU,rfl,⟨A1,n1,c1,rfl,f1,x1⟩,⟨A2,n2,c2,rfl,f2,x2⟩,⟨A3,n3,c3,rfl,f3,x3⟩,⟨A4,n4,c4,rfl,f4,x4⟩,⟨A5,n5,c5,rfl,f5,x5⟩,⟨A6,n6,c6,rfl,f6,x6⟩⟩,eE,eU,sE,sU⟩:=h
 obtain⟨⟨vE,vN,vB,vJ,vK,vU,rfl,⟨B1,m1,d1,rfl,g1,y1⟩,⟨B2,m2,d2,rfl,g2,y2⟩,⟨B3,m3,d3,rfl,g3,y3⟩,⟨B4,m4,d4,rfl,g4,y4⟩,⟨B5,m5,d5,rfl,g5,y5⟩,⟨B6,m6,d6,rfl,g6,y6⟩⟩,Az,A0,AF,AG⟩:=h'
 have l1:=x1.len bf (by decide)
 have l6:=x6.len aQ (by decide)
 have A7:E.length=L.entries.length:=by rw[<-eE,List.length_map]
 have A8:E'.length=L'.entries.length:=by rw[<-Az,List.length_map]
 have A9:U.length=L.bundles.length:=by rw[<-eU,List.length_map]
 have AA:U'.length=L'.bundles.length:=by rw[<-A0,List.length_map]
 have k1:=y1.len bf (by decide)
 have k6:=y6.len aQ (by decide)
 have l2:=x2.len aM (by decide)
 have l4:=x4.len bm (by decide)
 have l5:=x5.len aP (by decide)
 have k2:=y2.len aM (by decide)
 have k4:=y4.len bm (by decide)
 have k5:=y5.len aP (by decide)
 have Au:=fun W B=>qu A3 n3 c3 L.bans B3 m3 d3 L'.bans W (Ts.below x3 B) (Ts.below y3 B) (Nat.le_trans f3.1 f3.2.1) (Nat.le_trans g3.1 g3.2.1)
 have z1:n1<=9223372036854775807:=Nat.le_trans f1.1 f1.2.1
 have z2:n2<=9223372036854775807:=Nat.le_trans f2.1 f2.2.1
 have z4:n4<=9223372036854775807:=Nat.le_trans f4.1 f4.2.1
 have z5:n5<=9223372036854775807:=Nat.le_trans f5.1 f5.2.1
 have z6:n6<=9223372036854775807:=Nat.le_trans f6.1 f6.2.1
 have t1:m1<=9223372036854775807:=Nat.le_trans g1.1 g1.2.1
 have t2:m2<=9223372036854775807:=Nat.le_trans g2.1 g2.2.1
 have t4:m4<=9223372036854775807:=Nat.le_trans g4.1 g4.2.1
 have t5:m5<=9223372036854775807:=Nat.le_trans g5.1 g5.2.1
 have t6:m6<=9223372036854775807:=Nat.le_trans g6.1 g6.2.1
 clear f1 g1 f2 g2 f3 g3 f4 g4 f5 g5 f6 g6
 obtain⟨Z1,AB⟩:∃Z,Hid (([.slice A1 n1 c1,.slice A2 n2 c2,.slice A3 n3 c3,.slice A4 n4 c4,.slice A5 n5 c5,.slice A6 n6 c6]:List Value)=Z):=⟨_,eA rfl⟩
 obtain⟨Z2,AC⟩:∃Z,Hid (([.slice B1 m1 d1,.slice B2 m2 d2,.slice B3 m3 d3,.slice B4 m4 d4,.slice B5 m5 d5,.slice B6 m6 d6]:List Value)=Z):=⟨_,eA rfl⟩
 have HA:=eA fun (W:World) (B:Blk W w.heap.size Z1 30)=>show W.cell? ⟨w.heap.size,0,none⟩=some (.slice A1 n1 c1)/\W.cell? ⟨w.heap.size,1,none⟩=some (.slice A2 n2 c2)/\W.cell? ⟨w.heap.size,2,none⟩=some (.slice A3 n3 c3)/\W.cell? ⟨w.heap.size,3,none⟩=some (.slice A4 n4 c4)/\W.cell? ⟨w.heap.size,4,none⟩=some (.slice A5 n5 c5)/\W.cell? ⟨w.heap.size,5,none⟩=some (.slice A6 n6 c6) by
  rw[<-AB.out] at B;exact⟨B.cell 0,B.cell 1,B.cell 2,B.cell 3,B.cell 4,B.cell 5⟩
 have HB:=eA fun (W:World) (B:Blk W (w.heap.size+1) Z2 30)=>show W.cell? ⟨w.heap.size+1,0,none⟩=some (.slice B1 m1 d1)/\W.cell? ⟨w.heap.size+1,1,none⟩=some (.slice B2 m2 d2)/\W.cell? ⟨w.heap.size+1,2,none⟩=some (.slice B3 m3 d3)/\W.cell? ⟨w.heap.size+1,3,none⟩=some (.slice B4 m4 d4)/\W.cell? ⟨w.heap.size+1,4,none⟩=some (.slice B5 m5 d5)/\W.cell? ⟨w.heap.size+1,5,none⟩=some (.slice B6 m6 d6) by
  rw[<-AC.out] at B;exact⟨B.cell 0,B.cell 1,B.cell 2,B.cell 3,B.cell 4,B.cell 5⟩
 have M:=eA (And.intro l1 (And.intro l2 (And.intro l4 (And.intro l5 l6))))
 have N:=eA (And.intro k1 (And.intro k2 (And.intro k4 (And.intro k5 k6))))
 have f:=eA (And.intro A7 (And.intro A8 (And.intro A9 AA)))
 clear l1 l2 l4 l5 l6 k1 k2 k4 k5 k6 A7 A8 A9 AA
 obtain⟨W,hW⟩:=eC ((w.alloc (.cells Z1.toArray 30)).alloc (.cells Z2.toArray 30))
 have b0:Blk W w.heap.size Z1 30:=by rw[<-hW];exact(Blk.new w Z1 _).alloc _
 have b1:Blk W (w.heap.size+1) Z2 30:=by
  have:=Blk.new (w.alloc (.cells Z1.toArray 30)) Z2 30;rw[<-hW];simpa using this
 have Aq:eF w W:=by rw[<-hW];exact eI.alloc (by simp) _
 have Ac:=Au W Aq
 clear Au
 obtain⟨rb,Aw⟩:∃rb,Hid (decide (L.bans=L'.bans)=rb):=⟨_,eA rfl⟩
 rw[Aw.out] at Ac
 rw[<-AB.out,<-AC.out] at hW
 have HW:=eA hW
 obtain⟨H,V,g,X,Y,d⟩:=HA.out W b0
 obtain⟨j,p1,p2,p3,p4,p5⟩:=HB.out W b1
 clear hW H j V p1 X p3 Y p4 d p5
 go_enter func15,ntmps15
 go_upto_region 1 with fail
 rw[HW.out]
 go_wp2_with fail
 refine Ac.mono ?_
 rintro e w1 ⟨rfl,Ar⟩
 have B:eF w w1:=Aq.trans (Ar.mono Aq.size)
 have F:=b0.below Ar
 have I:=b1.below Ar
 clear Ar b0 b1 Aq HW Ac g p2
 obtain⟨H,V,g,X,Y,d⟩:=HA.out w1 F
 obtain⟨j,p1,p2,p3,p4,p5⟩:=HB.out w1 I
 cases rb
 .have hx:=eA (NO.out _ (fun e=>by have:=of_decide_eq_false Aw.out;exact this (by rw[e])) B)
  go_wp2_with fail
  go_ret;exact hx.out
 by_cases e1:n1=m1
 rotate_left
 .have hx:=eA (NO.out _ (fun e=>e1 (by have h1:=M.out.1;have h2:=N.out.1;rw[f.out.1] at h1;rw[f.out.2.1] at h2;rw[<-h1,<-h2,e])) B)
  go_wp2_with fail
  go_ret;exact hx.out
 subst e1
 by_cases e2:n2=m2
 rotate_left
 .have hx:=eA (NO.out _ (fun e=>e2 (by rw[<-M.out.2.1,<-N.out.2.1,e])) B)
  go_wp2_with fail
  go_ret;exact hx.out
 subst e2
 by_cases e4:n4=m4
 rotate_left
 .have hx:=eA (NO.out _ (fun e=>e4 (by rw[<-M.out.2.2.1,<-N.out.2.2.1,e])) B)
  go_wp2_with fail
  go_ret;exact hx.out
 subst e4
 by_cases e5:n5=m5
 rotate_left
 .have hx:=eA (NO.out _ (fun e=>e5 (by rw[<-M.out.2.2.2.1,<-N.out.2.2.2.1,e])) B)
  go_wp2_with fail
  go_ret;exact hx.out
 subst e5
 by_cases e6:n6=m6
 rotate_left
 .have hx:=eA (NO.out _ (fun e=>e6 (by have h1:=M.out.2.2.2.2;have h2:=N.out.2.2.2.2;rw[f.out.2.2.1] at h1;rw[f.out.2.2.2] at h2;rw[<-h1,<-h2,e])) B)
  go_wp2_with fail
  go_ret;exact hx.out
 subst e6
 have AH:Hid (L.bans=L'.bans):=eA (of_decide_eq_true Aw.out)
 go_wp2_with fail
 clear H j V p1 g p2 X p3 Y p4 d p5
 go_loopw [6,7,8,9] (fun i _ _ _ wr=>∃k:Nat,k<=n1/\i=.int .i64 k/\Hid (L.entries.take k=L'.entries.take k)/\eF w wr/\Blk wr w.heap.size Z1 30/\Blk wr (w.heap.size+1) Z2 30) (fun i _ _ _ _=>n1-(intOf i).toNat)
 case atStart=>exact⟨0,by omega,rfl,eA rfl,B,F,I⟩
 case round =>
  clear B F I;obtain⟨k,hk,rfl,t,B,F,I⟩:=hrel;by_cases O:k<n1
  .obtain⟨H,-⟩:=HA.out wr F
   obtain⟨j,-⟩:=HB.out wr I;have u:k<E.length:=by rw[M.out.1];exact O
   have Q:k<L.entries.length:=by rw[<-f.out.1];exact u
   have R:k<E'.length:=by rw[N.out.1];exact O
   have S:k<L'.entries.length:=by rw[<-f.out.2.1];exact R
   have hf:=mE eE u Q;have Ad:=mE Az R S;obtain⟨l,m,rfl,Af,C⟩:=gZ (x1.below B) u;obtain⟨J,K,rfl,z,A⟩:=gZ (y1.below B) R;have u0:=C wr (Below.refl _ _);have v0:=A wr (Below.refl _ _);obtain⟨SA,sn,sc,Aj,Ak,Ag⟩:=(sE E[k] (List.getElem_mem u)).below B;obtain⟨SB,tn,tc,Al,Am,Ah⟩:=(AF E'[k] (List.getElem_mem R)).below B;rw[<-hf] at Ag;rw[<-Ad] at Ah;have s:ag E[k]=ag (L.entries[k],.slice SA sn sc):=by rw[hf,<-Aj]
   have Ai:ag E'[k]=ag (L'.entries[k],.slice SB tn tc):=by rw[Ad,<-Al]
   rw[s] at u0;rw[Ai] at v0;have HX:=eA (fun (h:¬L.entries[k]=L'.entries[k]) (e:L=L')=>h (by subst e;rfl))
   have o:=eA (fun h=>fH t.out Q S h);generalize L.entries[k]=x at *;generalize L'.entries[k]=y at *;have hi:(k:Int)<(n1:Int):=by omega
   have AQ:=F.lt;have AR:=I.lt;obtain⟨AD,C1⟩:=n9 (Blk.new wr [.int .i64 0,.string ⟨#[]⟩,.string ⟨#[]⟩,.int .i64 0,.slice none 0 0] 36) rfl (vs:=ag (x,.slice SA sn sc)) rfl (gL _ rfl);have An:eF wr ((wr.alloc (.cells #[.int .i64 0,.string ⟨#[]⟩,.string ⟨#[]⟩,.int .i64 0,.slice none 0 0] 36)).setCells wr.heap.size 0 (ag (x,.slice SA sn sc))):=(((Chg.refl _ _).alloc _).setCells _ (.inr eH):Chg [] wr _).below (fun _ h=>by cases h);have hz:((wr.alloc (.cells #[.int .i64 0,.string ⟨#[]⟩,.string ⟨#[]⟩,.int .i64 0,.slice none 0 0] 36)).setCells wr.heap.size 0 (ag (x,.slice SA sn sc))).heap.size=wr.heap.size+1:=by simp[ag,World.setCells]
   generalize (wr.alloc (.cells #[.int .i64 0,.string ⟨#[]⟩,.string ⟨#[]⟩,.int .i64 0,.slice none 0 0] 36)).setCells wr.heap.size 0 (ag (x,.slice SA sn sc))=V1 at *;obtain⟨Av,e1⟩:=n9 (Blk.new V1 [.int .i64 0,.string ⟨#[]⟩,.string ⟨#[]⟩,.int .i64 0,.slice none 0 0] 36) rfl (vs:=ag (y,.slice SB tn tc)) rfl (gL _ rfl);rw[hz] at e1 Av;have Ax:Chg [] V1 ((V1.alloc (.cells #[.int .i64 0,.string ⟨#[]⟩,.string ⟨#[]⟩,.int .i64 0,.slice none 0 0] 36)).setCells (wr.heap.size+1) 0 (ag (y,.slice SB tn tc))):=((Chg.refl _ _).alloc _).setCells _ (.inr (by omega));have gb:=An.trans ((Ax.below (fun _ h=>by cases h)).mono An.size);have e0:=C1.below (Ax.below (fun _ h=>by cases h));have AE:=A V1 An;rw[Ai] at AE;have AI:V1.cell? ⟨w.heap.size+1,0,none⟩=some (.slice (some ⟨J,K,none⟩) n1 d1):=(HB.out V1 (I.below An)).1;generalize (V1.alloc (.cells #[.int .i64 0,.string ⟨#[]⟩,.string ⟨#[]⟩,.int .i64 0,.slice none 0 0] 36)).setCells (wr.heap.size+1) 0 (ag (y,.slice SB tn tc))=W2 at *;clear C A s Ai hf Ad Aj Al Ax C1;go_upto_region 9 with fail
   clear AD Av AE AI hz An;clear u0 v0 H j;have r4:W2.cell? ⟨wr.heap.size,4,none⟩=some (.slice SA sn sc):=e0.cell 4;have s4:W2.cell? ⟨wr.heap.size+1,4,none⟩=some (.slice SB tn tc):=e1.cell 4;have Ac:=qu SA sn sc x.sels SB tn tc y.sels W2 (Ts.below Ag gb) (Ts.below Ah gb) (Nat.le_trans Ak.1 Ak.2.1) (Nat.le_trans Am.1 Am.2.1);obtain⟨rs,As⟩:∃rs,Hid (decide (x.sels=y.sels)=rs):=⟨_,eA rfl⟩;rw[As.out] at Ac;go_wp2_with fail
   refine Ac.mono ?_;rintro e W3 ⟨rfl,g3⟩;have gw:eF wr W3:=gb.trans (g3.mono gb.size);have Ao:=e0.below g3;have Ap:=e1.below g3;clear Ac e0 e1 r4 s4 g3 gb;have r0:W3.cell? ⟨wr.heap.size,0,none⟩=some (.int .i64 x.n):=Ao.cell 0;have r1:W3.cell? ⟨wr.heap.size,1,none⟩=some (.string (str x.path)):=Ao.cell 1;have r2:W3.cell? ⟨wr.heap.size,2,none⟩=some (.string (str x.parent)):=Ao.cell 2;have r3:W3.cell? ⟨wr.heap.size,3,none⟩=some (.int .i64 x.ttl):=Ao.cell 3;have s0:W3.cell? ⟨wr.heap.size+1,0,none⟩=some (.int .i64 y.n):=Ap.cell 0;have s1:W3.cell? ⟨wr.heap.size+1,1,none⟩=some (.string (str y.path)):=Ap.cell 1;have s2:W3.cell? ⟨wr.heap.size+1,2,none⟩=some (.string (str y.parent)):=Ap.cell 2;have s3:W3.cell? ⟨wr.heap.size+1,3,none⟩=some (.int .i64 y.ttl):=Ap.cell 3;have Ab:=eA (fun h=>NO.out _ (HX.out h) (B.trans (gw.mono B.size)));clear Ao Ap HX
   cases rs
   .have hx:=eA (Ab.out (fun e=>of_decide_eq_false As.out (by rw[e])))
    go_wp2_with fail
    go_ret;exact hx.out
   by_cases h0:x.n=y.n
   rotate_left
   .have hx:=eA (Ab.out (fun e=>h0 (by rw[e])))
    go_wp2_with fail
    go_ret;exact hx.out
   by_cases h1:x.path=y.path
   rotate_left
   .have hx:=eA (Ab.out (fun e=>h1 (by rw[e])))
    have AJ:(x.path==y.path)=false:=by rw[beq_eq_false_iff_ne];exact h1
    go_wp2_with fail
    go_ret;exact hx.out
   have AO:(x.path==y.path)=true:=by rw[beq_iff_eq];exact h1
   by_cases h2:x.parent=y.parent
   rotate_left
   .have hx:=eA (Ab.out (fun e=>h2 (by rw[e])))
    have AJ:(x.parent==y.parent)=false:=by rw[beq_eq_false_iff_ne];exact h2
    go_wp2_with fail
    go_ret;exact hx.out
   have AP:(x.parent==y.parent)=true:=by rw[beq_iff_eq];exact h2
   by_cases h3:x.ttl=y.ttl
   rotate_left
   .have hx:=eA (Ab.out (fun e=>h3 (by rw[e])))
    go_wp2_with fail
    go_ret;exact hx.out
   have Aa:=eA (o.out (entry_eq h0 h1 h2 h3 (of_decide_eq_true As.out)));clear o Ab As;go_wp2_with fail
   go_roundw
   case rel=>exact⟨k+1,by omega,by go_num,Aa,B.trans (gw.mono B.size),F.below gw,I.below gw⟩
   case measure=>simp[intOf];omega
  .have T:k=n1:=by omega
   have D:=t.out;rw[T] at D;have AK:=eA (iO D (f.out.1.symm.trans M.out.1) (f.out.2.1.symm.trans N.out.1));clear t D T;have hi:¬((k:Int)<(n1:Int)):=by omega
   obtain⟨H,V,g,X,Y,d⟩:=HA.out wr F;obtain⟨j,p1,p2,p3,p4,p5⟩:=HB.out wr I;go_wp2_with fail
   clear H V g X Y d j p1 p2 p3 p4 p5;go_loopw [10] (fun i wr=>∃k:Nat,k<=n2/\i=.int .i64 k/\Hid (L.nodes.take k=L'.nodes.take k)/\eF w wr/\Blk wr w.heap.size Z1 30/\Blk wr (w.heap.size+1) Z2 30) (fun i _=>n2-(intOf i).toNat)
   case atStart=>exact⟨0,by omega,rfl,eA rfl,B,F,I⟩
   case round =>
    clear B F I;obtain⟨k,hk,rfl,t,B,F,I⟩:=hrel;by_cases O:k<n2
    .have G:=fun p=>aa wr p
     have H:∀p,(ab wr p).cell? ⟨w.heap.size,1,none⟩=some (.slice A2 n2 c2):=fun p=>by obtain⟨H,V,g,X,Y,d⟩:=HA.out _ (F.below (G p));exact V
     have j:∀p,(ab wr p).cell? ⟨w.heap.size+1,1,none⟩=some (.slice B2 n2 d2):=fun p=>by obtain⟨H,V,g,X,Y,d⟩:=HB.out _ (I.below (G p));exact V
     have Ae:wr.cell? ⟨w.heap.size,1,none⟩=some (.slice A2 n2 c2):=by obtain⟨H,V,g,X,Y,d⟩:=HA.out _ F;exact V
     have Q:k<L.nodes.length:=by rw[M.out.2.1];exact O
     have S:k<L'.nodes.length:=by rw[N.out.2.1];exact O
     obtain⟨l,m,rfl,Af,C⟩:=gY (x2.below B) Q;obtain⟨J,K,rfl,z,A⟩:=gY (y2.below B) S;have HX:=eA (fun (h:¬L.nodes[k]=L'.nodes[k]) (e:L=L')=>h (by subst e;rfl))
     have o:=eA (fun h=>fH t.out Q S h);generalize L.nodes[k]=x at *;generalize L'.nodes[k]=y at *;have u0:∀p,(fI (.pointer (some ⟨l,m+k*5,none⟩))).run prog (ab wr p)=.ok (.agg #[.string (str x.name),.string (str x.key),.int .i64 x.expires,.int .i64 x.seq,.string (str x.doc)]) (ab wr p):=fun p=>C _ (G p);have v0:∀p,(fI (.pointer (some ⟨J,K+k*5,none⟩))).run prog (ab wr p)=.ok (.agg #[.string (str y.name),.string (str y.key),.int .i64 y.expires,.int .i64 y.seq,.string (str y.doc)]) (ab wr p):=fun p=>A _ (G p);have hq:=fun W=>neq_node x y W;obtain⟨r,s⟩:=eD (qQ x y);rw[s.out] at hq;unfold ae tx nm at hq;have hi:(k:Int)<(n2:Int):=by omega
     clear C A;go_wp2_with fail
     refine au ?_;repeat (go_big_quiet_step (fail))
     refine wpQuiet_nil ?_;rintro _ ⟨px,rfl⟩;have gx:=G px;clear G H j Ae u0 v0;generalize ab wr px=w5 at *
     cases r
     .have hx:=eA (NO.out _ (HX.out (fun e=>by rw[qP.2 e] at s;cases s.out)) (B.trans (gx.mono B.size)))
      go_wp2_with fail
      go_ret;exact hx.out
     have Aa:=eA (o.out (qP.1 s.out));go_wp2_with fail
     go_roundw
     case rel=>exact⟨k+1,by omega,by go_num,Aa,B.trans (gx.mono B.size),F.below gx,I.below gx⟩
     case measure=>simp[intOf];omega
    .have T:k=n2:=by omega
     have D:=t.out;rw[T] at D;have Ab:=eA (iO D (M.out.2.1) (N.out.2.1));clear t D T;have hi:¬((k:Int)<(n2:Int)):=by omega
     obtain⟨H,V,g,X,Y,d⟩:=HA.out wr F;obtain⟨j,p1,p2,p3,p4,p5⟩:=HB.out wr I;go_wp2_with fail
     clear H V g X Y d j p1 p2 p3 p4 p5;go_loopw [11] (fun i wr=>∃k:Nat,k<=n4/\i=.int .i64 k/\Hid (L.joins.take k=L'.joins.take k)/\eF w wr/\Blk wr w.heap.size Z1 30/\Blk wr (w.heap.size+1) Z2 30) (fun i _=>n4-(intOf i).toNat)
     case atStart=>exact⟨0,by omega,rfl,eA rfl,B,F,I⟩
     case round =>
      clear B F I;obtain⟨k,hk,rfl,t,B,F,I⟩:=hrel;by_cases O:k<n4
      .have G:=fun p=>aa wr p
       have H:∀p,(ab wr p).cell? ⟨w.heap.size,3,none⟩=some (.slice A4 n4 c4):=fun p=>by obtain⟨H,V,g,X,Y,d⟩:=HA.out _ (F.below (G p));exact X
       have j:∀p,(ab wr p).cell? ⟨w.heap.size+1,3,none⟩=some (.slice B4 n4 d4):=fun p=>by obtain⟨H,V,g,X,Y,d⟩:=HB.out _ (I.below (G p));exact X
       have Ae:wr.cell? ⟨w.heap.size,3,none⟩=some (.slice A4 n4 c4):=by obtain⟨H,V,g,X,Y,d⟩:=HA.out _ F;exact X
       have Q:k<L.joins.length:=by rw[M.out.2.2.1];exact O
       have S:k<L'.joins.length:=by rw[N.out.2.2.1];exact O
       obtain⟨l,m,rfl,Af,C⟩:=nx (x4.below B) Q;obtain⟨J,K,rfl,z,A⟩:=nx (y4.below B) S;have HX:=eA (fun (h:¬L.joins[k]=L'.joins[k]) (e:L=L')=>h (by subst e;rfl))
       have o:=eA (fun h=>fH t.out Q S h);generalize L.joins[k]=x at *;generalize L'.joins[k]=y at *;have u0:∀p,(ny (.pointer (some ⟨l,m+k*4,none⟩))).run prog (ab wr p)=.ok (.agg #[.string (str x.text),.string (str x.name),.int .i64 x.expires,.bool x.used]) (ab wr p):=fun p=>C _ (G p);have v0:∀p,(ny (.pointer (some ⟨J,K+k*4,none⟩))).run prog (ab wr p)=.ok (.agg #[.string (str y.text),.string (str y.name),.int .i64 y.expires,.bool y.used]) (ab wr p):=fun p=>A _ (G p);have hq:=fun W=>neq_join x y W;obtain⟨r,s⟩:=eD (ru x y);rw[s.out] at hq;unfold vq tx nm at hq;have hi:(k:Int)<(n4:Int):=by omega
       clear C A;go_wp2_with fail
       refine au ?_;repeat (go_big_quiet_step (fail))
       refine wpQuiet_nil ?_;rintro _ ⟨px,rfl⟩;have gx:=G px;clear G H j Ae u0 v0;generalize ab wr px=w5 at *
       cases r
       .have hx:=eA (NO.out _ (HX.out (fun e=>by rw[rr.2 e] at s;cases s.out)) (B.trans (gx.mono B.size)))
        go_wp2_with fail
        go_ret;exact hx.out
       have Aa:=eA (o.out (rr.1 s.out));go_wp2_with fail
       go_roundw
       case rel=>exact⟨k+1,by omega,by go_num,Aa,B.trans (gx.mono B.size),F.below gx,I.below gx⟩
       case measure=>simp[intOf];omega
      .have T:k=n4:=by omega
       have D:=t.out;rw[T] at D;have AL:=eA (iO D (M.out.2.2.1) (N.out.2.2.1));clear t D T;have hi:¬((k:Int)<(n4:Int)):=by omega
       obtain⟨H,V,g,X,Y,d⟩:=HA.out wr F;obtain⟨j,p1,p2,p3,p4,p5⟩:=HB.out wr I;go_wp2_with fail
       clear H V g X Y d j p1 p2 p3 p4 p5;go_loopw [12] (fun i wr=>∃k:Nat,k<=n5/\i=.int .i64 k/\Hid (L.keys.take k=L'.keys.take k)/\eF w wr/\Blk wr w.heap.size Z1 30/\Blk wr (w.heap.size+1) Z2 30) (fun i _=>n5-(intOf i).toNat)
       case atStart=>exact⟨0,by omega,rfl,eA rfl,B,F,I⟩
       case round =>
        clear B F I;obtain⟨k,hk,rfl,t,B,F,I⟩:=hrel;by_cases O:k<n5
        .have G:=fun p=>aa wr p
         have H:∀p,(ab wr p).cell? ⟨w.heap.size,4,none⟩=some (.slice A5 n5 c5):=fun p=>by obtain⟨H,V,g,X,Y,d⟩:=HA.out _ (F.below (G p));exact Y
         have j:∀p,(ab wr p).cell? ⟨w.heap.size+1,4,none⟩=some (.slice B5 n5 d5):=fun p=>by obtain⟨H,V,g,X,Y,d⟩:=HB.out _ (I.below (G p));exact Y
         have Ae:wr.cell? ⟨w.heap.size,4,none⟩=some (.slice A5 n5 c5):=by obtain⟨H,V,g,X,Y,d⟩:=HA.out _ F;exact Y
         have Q:k<L.keys.length:=by rw[M.out.2.2.2.1];exact O
         have S:k<L'.keys.length:=by rw[N.out.2.2.2.1];exact O
         obtain⟨l,m,rfl,Af,C⟩:=nu (x5.below B) Q;obtain⟨J,K,rfl,z,A⟩:=nu (y5.below B) S;have HX:=eA (fun (h:¬L.keys[k]=L'.keys[k]) (e:L=L')=>h (by subst e;rfl))
         have o:=eA (fun h=>fH t.out Q S h);generalize L.keys[k]=x at *;generalize L'.keys[k]=y at *;have u0:∀p,(nv (.pointer (some ⟨l,m+k*4,none⟩))).run prog (ab wr p)=.ok (.agg #[.string (str x.kid),.string (str x.seed),.int .i64 x.state,.int .i64 x.since]) (ab wr p):=fun p=>C _ (G p);have v0:∀p,(nv (.pointer (some ⟨J,K+k*4,none⟩))).run prog (ab wr p)=.ok (.agg #[.string (str y.kid),.string (str y.seed),.int .i64 y.state,.int .i64 y.since]) (ab wr p):=fun p=>A _ (G p);have hq:=fun W=>neq_key x y W;obtain⟨r,s⟩:=eD (keyEq x y);rw[s.out] at hq;unfold ar tx nm at hq;have hi:(k:Int)<(n5:Int):=by omega
         clear C A;go_wp2_with fail
         refine au ?_;repeat (go_big_quiet_step (fail))
         refine wpQuiet_nil ?_;rintro _ ⟨px,rfl⟩;have gx:=G px;clear G H j Ae u0 v0;generalize ab wr px=w5 at *
         cases r
         .have hx:=eA (NO.out _ (HX.out (fun e=>by rw[tC.2 e] at s;cases s.out)) (B.trans (gx.mono B.size)))
          go_wp2_with fail
          go_ret;exact hx.out
         have Aa:=eA (o.out (tC.1 s.out));go_wp2_with fail
         go_roundw
         case rel=>exact⟨k+1,by omega,by go_num,Aa,B.trans (gx.mono B.size),F.below gx,I.below gx⟩
         case measure=>simp[intOf];omega
        .have T:k=n5:=by omega
         have D:=t.out;rw[T] at D;have AM:=eA (iO D (M.out.2.2.2.1) (N.out.2.2.2.1));clear t D T;have hi:¬((k:Int)<(n5:Int)):=by omega
         obtain⟨H,V,g,X,Y,d⟩:=HA.out wr F;obtain⟨j,p1,p2,p3,p4,p5⟩:=HB.out wr I;go_wp2_with fail
         clear H V g X Y d j p1 p2 p3 p4 p5;go_loopw [13,14] (fun i _ wr=>∃k:Nat,k<=n6/\i=.int .i64 k/\Hid (L.bundles.take k=L'.bundles.take k)/\eF w wr/\Blk wr w.heap.size Z1 30/\Blk wr (w.heap.size+1) Z2 30) (fun i _ _=>n6-(intOf i).toNat)
         case atStart=>exact⟨0,by omega,rfl,eA rfl,B,F,I⟩
         case round =>
          clear B F I;obtain⟨k,hk,rfl,t,B,F,I⟩:=hrel;by_cases O:k<n6
          .have u:k<U.length:=by rw[M.out.2.2.2.2];exact O
           have Q:k<L.bundles.length:=by rw[<-f.out.2.2.1];exact u
           have R:k<U'.length:=by rw[N.out.2.2.2.2];exact O
           have S:k<L'.bundles.length:=by rw[<-f.out.2.2.2];exact R
           have hf:=mE eU u Q;have Ad:=mE A0 R S;obtain⟨l,m,rfl,Af,C⟩:=jb (x6.below B) u;obtain⟨J,K,rfl,z,A⟩:=jb (y6.below B) R;obtain⟨SA,sn,sc,Aj,Ak,Ag⟩:=(sU U[k] (List.getElem_mem u)).below B;obtain⟨SB,tn,tc,Al,Am,Ah⟩:=(AG U'[k] (List.getElem_mem R)).below B;rw[<-hf] at Ag;rw[<-Ad] at Ah;have s:ai U[k]=ai (L.bundles[k],.slice SA sn sc):=by rw[hf,<-Aj]
           have Ai:ai U'[k]=ai (L'.bundles[k],.slice SB tn tc):=by rw[Ad,<-Al]
           rw[s] at C;rw[Ai] at A;have HX:=eA (fun (h:¬L.bundles[k]=L'.bundles[k]) (e:L=L')=>h (by subst e;rfl))
           have o:=eA (fun h=>fH t.out Q S h);generalize L.bundles[k]=x at *;generalize L'.bundles[k]=y at *;have G:=fun p=>aa wr p;have H:∀p,(ab wr p).cell? ⟨w.heap.size,5,none⟩=some (.slice (some ⟨l,m,none⟩) n6 c6):=fun p=>by obtain⟨H,V,g,X,Y,d⟩:=HA.out _ (F.below (G p));exact d
           have j:∀p,(ab wr p).cell? ⟨w.heap.size+1,5,none⟩=some (.slice (some ⟨J,K,none⟩) n6 d6):=fun p=>by obtain⟨H,V,g,X,Y,d⟩:=HB.out _ (I.below (G p));exact d
           have Ae:wr.cell? ⟨w.heap.size,5,none⟩=some (.slice (some ⟨l,m,none⟩) n6 c6):=by obtain⟨H,V,g,X,Y,d⟩:=HA.out _ F;exact d
           have u0:∀p,(fo (.pointer (some ⟨l,m+k*3,none⟩))).run prog (ab wr p)=.ok (.agg #[.string (str x.domain),.int .i64 x.number,.slice SA sn sc]) (ab wr p):=fun p=>C _ (G p);have v0:∀p,(fo (.pointer (some ⟨J,K+k*3,none⟩))).run prog (ab wr p)=.ok (.agg #[.string (str y.domain),.int .i64 y.number,.slice SB tn tc]) (ab wr p):=fun p=>A _ (G p);obtain⟨r,hv⟩:∃r:Bool,Hid (r=true↔x=y):=⟨@decide _ (Classical.propDecidable _),eA ⟨@of_decide_eq_true _ (Classical.propDecidable _),@decide_eq_true _ (Classical.propDecidable _)⟩⟩;have HC:Hid (∀p,Calls prog 31 #[.agg #[.string (str x.domain),.int .i64 x.number,.slice SA sn sc],.agg #[.string (str y.domain),.int .i64 y.number,.slice SB tn tc]] (ab wr p) fun e w'=>e=.returned (.bool r)/\Below (ab wr p).heap.size (ab wr p) w'):=eA fun p=>(bsame_any x.domain y.domain x.number y.number SA sn sc x.keys SB tn tc y.keys (ab wr p) (Ag.below (G p)) (Ah.below (G p)) (Nat.le_trans Ak.1 Ak.2.1) (Nat.le_trans Am.1 Am.2.1)).mono fun e w' ⟨q,h1,h2,h3⟩=>⟨by
            rw[h1,show q=r by rw[Bool.eq_iff_iff,h2,hv.out];exact⟨fun ⟨a,b,c⟩=>bundle_eq a b c,fun e=>by rw[e];exact⟨rfl,rfl,rfl⟩⟩],h3⟩
           have hi:(k:Int)<(n6:Int):=by omega
           clear C A Aj Al s Ai hf Ad Ag Ah;go_wp2_with fail
           refine au ?_;repeat (go_big_quiet_step (first|(go_at_call 31;exact aq (HC.out _))|fail))
           refine wpQuiet_nil ?_;rintro _ ⟨px,rfl⟩;have gx:=G px;clear G H j Ae u0 v0 HC;generalize ab wr px=w5 at *
           cases r
           .have hx:=eA (NO.out _ (HX.out (fun e=>by have:=hv.out.2 e;cases this)) (B.trans (gx.mono B.size)))
            go_wp2_with fail
            go_ret;exact hx.out
           have Aa:=eA (o.out (hv.out.1 rfl));go_wp2_with fail
           go_roundw
           case rel=>exact⟨k+1,by omega,by go_num,Aa,B.trans (gx.mono B.size),F.below gx,I.below gx⟩
           case measure=>simp[intOf];omega
          .have T:k=n6:=by omega
           have D:=t.out;rw[T] at D;have AN:=eA (iO D (f.out.2.2.1.symm.trans M.out.2.2.2.2) (f.out.2.2.2.symm.trans N.out.2.2.2.2));clear t D T;have hi:¬((k:Int)<(n6:Int)):=by omega
           obtain⟨H,V,g,X,Y,d⟩:=HA.out wr F;obtain⟨j,p1,p2,p3,p4,p5⟩:=HB.out wr I;go_wp2_with fail
           go_ret;exact .yes (eA (HP.out.mpr (ledger_eq AK.out Ab.out AH.out AL.out AM.out AN.out))) B
theorem lsame_eq(cs A:List Value)(L:Led.Ledger)(E B:List (Led.Entry × Value))(U C:List (Led.Bundle × Value))(w:World)(h:dk w cs L E U)(D:dk w A L B C) :
  Calls prog 15 #[.agg cs.toArray,.agg A.toArray] w fun e w'=>e=.returned (.bool true)/\eF w w' :=
 (rf cs A L L E B U C w h D).mono fun e w' ⟨r,h1,h2,h3⟩=>⟨by rw[h1,h2.2 rfl],h3⟩
end
section
namespace Sha
open Go.RowKit
def V(l:List Int):Nat->Int
 | 0=>0
 | n+1=>V l n+l.getD n 0*65536 ^ n
def Dig(l:List Int):Prop:=∀i,0<=l.getD i 0/\l.getD i 0<65536
theorem pow_pos'(n:Nat):(0:Int)<65536 ^ n:=Int.pow_pos (by decide)
theorem nR{l:List Int}(h:Dig l):∀n,0<=V l n/\V l n<65536 ^ n
 | 0=>by simp[V]
 | n+1=>by
  obtain⟨E,B⟩:=nR h n;obtain⟨C,F⟩:=h n;have A:=pow_pos' n;simp only[V];rw[Int.pow_succ];obtain⟨P,D⟩:=eC ((65536:Int) ^ n);rw[D] at A B ⊢;have G:0<=l.getD n 0*P:=Int.mul_nonneg C (Int.le_of_lt A);have H:l.getD n 0*P<=65535*P:=Int.mul_le_mul_of_nonneg_right (by omega) (Int.le_of_lt A);exact⟨by omega,by omega⟩
theorem jd(l:List Int)(i j:Nat)(x:Int):(l.set i x).getD j 0=if i=j/\i<l.length then x else l.getD j 0:=by
 simp only[List.getD_eq_getElem?_getD,List.getElem?_set]
 by_cases h:i=j
 .subst h
  by_cases A:i<l.length
  .simp [A]
  .simp [A]
 .simp [h]
theorem V_set(l:List Int)(i:Nat)(x:Int)(hi:i<l.length):∀n,V (l.set i x) n=V l n+if i<n then (x-l.getD i 0)*65536 ^ i else 0
 | 0=>by simp[V]
 | n+1=>by
  simp only[V,V_set l i x hi n,jd];by_cases h:i=n
  .subst h
   rw[if_neg (Nat.lt_irrefl i),if_pos ⟨rfl,hi⟩,if_pos (Nat.lt_succ_self i),Int.sub_mul];omega
  .rw [if_neg (fun B:i=n/\i<l.length=>h B.1)]
   by_cases A:i<n
   .rw [if_pos A,if_pos (by omega)]
    omega
   .rw [if_neg A,if_neg (by omega)]
    omega
theorem Dig.set{l:List Int}(h:Dig l)(i:Nat){x:Int}(h0:0<=x)(A:x<65536):Dig (l.set i x):=fun j=>by
 rw[jd]
 split
 .exact⟨h0,A⟩
 .exact h j
theorem j8{x:Int}(h0:0<=x)(A:x<9223372036854775808):wrap64 x=x:=by unfold wrap64;omega
theorem qW{a b:List Int}(F:Dig a)(G:Dig b)(i:Nat){A:List Int}(H:Dig A)(N:Nat):∀j,i+j<=A.length->A.length<=N ->
  Dig (dB a b i A j).1/\0<=(dB a b i A j).2/\(dB a b i A j).2<65536/\V (dB a b i A j).1 N+(dB a b i A j).2*65536 ^ (i+j)=V A N+a.getD i 0*V b j*65536 ^ i /\
   (∀t,i+j<=t->(dB a b i A j).1.getD t 0=A.getD t 0)
 | 0,_,_=>by simp[dB,V,H]
 | j+1,hj,hN=>by
  obtain⟨g1,U,X,Y,L⟩:=qW F G i H N j (by omega) hN;have I:=jL a b i A j;simp only[dB];generalize (dB a b i A j).1=q at *;generalize (dB a b i A j).2=c at *;obtain⟨Z,d⟩:=g1 (i+j);obtain⟨M,f⟩:=F i;obtain⟨J,g⟩:=G j;have O:0<=a.getD i 0*b.getD j 0:=Int.mul_nonneg M J;have h:a.getD i 0*b.getD j 0<=65535*65535:=Int.mul_le_mul (by omega) (by omega) J (by omega);have B:wrap64 (a.getD i 0*b.getD j 0)=a.getD i 0*b.getD j 0:=j8 O (by omega);have C:wrap64 (q.getD (i+j) 0+a.getD i 0*b.getD j 0)=q.getD (i+j) 0+a.getD i 0*b.getD j 0:=j8 (by omega) (by omega);have D:wrap64 (q.getD (i+j) 0+a.getD i 0*b.getD j 0+c)=q.getD (i+j) 0+a.getD i 0*b.getD j 0+c:=j8 (by omega) (by omega);rw[B,C,D];obtain⟨v,Q⟩:∃v,v=q.getD (i+j) 0+a.getD i 0*b.getD j 0+c:=⟨_,rfl⟩;rw[<-Q];have K:0<=v:=by omega
  have k:v<=65535*65537:=by omega
  have R:v.tmod 65536=v % 65536:=Int.tmod_eq_emod_of_nonneg K;have S:v.tdiv 65536=v / 65536:=Int.tdiv_eq_ediv_of_nonneg K;have E:wrap64 (v.tdiv 65536)=v / 65536:=by rw[S];exact j8 (by omega) (by omega)
  rw[E,R];refine⟨g1.set _ (by omega) (by omega),by omega,by omega,?_,fun t ht=>?_⟩
  .rw [V_set _ _ _ (by omega),if_pos (by omega)]
   simp only[V];have e:(65536:Int) ^ (i+(j+1))=65536*65536 ^ (i+j):=by rw[<-Nat.add_assoc,Int.pow_succ,Int.mul_comm]
   have e2:(65536:Int) ^ (i+j)=65536 ^ j*65536 ^ i:=by rw[Int.pow_add,Int.mul_comm]
   have e3:v % 65536=v-65536*(v / 65536):=by omega
   rw[e,e3];have e4:(v-65536*(v / 65536)-q.getD (i+j) 0)*65536 ^ (i+j)+v / 65536*(65536*65536 ^ (i+j))=(v-q.getD (i+j) 0)*65536 ^ (i+j):=by
    rw[Int.sub_mul,Int.sub_mul,Int.sub_mul,Int.mul_assoc 65536,Int.mul_left_comm (v / 65536)];omega
   have l:(v-q.getD (i+j) 0)*65536 ^ (i+j)=a.getD i 0*(b.getD j 0*65536 ^ j)*65536 ^ i+c*65536 ^ (i+j):=by
    rw[show v-q.getD (i+j) 0=a.getD i 0*b.getD j 0+c by omega,Int.add_mul,e2];simp only[Int.mul_assoc]
   have T:a.getD i 0*(V b j+b.getD j 0*65536 ^ j)*65536 ^ i=a.getD i 0*V b j*65536 ^ i+a.getD i 0*(b.getD j 0*65536 ^ j)*65536 ^ i:=by
    rw[Int.mul_add,Int.add_mul]
   rw[T];omega
  .rw [jd,if_neg (by omega),L t (by omega)]
theorem gK(n i:Nat):(List.replicate n (0:Int)).getD i 0=0:=by
 rw[List.getD_eq_getElem?_getD,List.getElem?_replicate]
 split<;>rfl
theorem pZ(m:Nat):∀n,V (List.replicate m (0:Int)) n=0
 | 0=>rfl
 | n+1=>by simp only[V,pZ m n,gK];simp
theorem pg{a b:List Int}(A:Dig a)(B:Dig b):∀i,i<=a.length ->
  Dig (bR a b i)/\V (bR a b i) (a.length+b.length)=V a i*V b b.length/\∀t,i+b.length<=t->(bR a b i).getD t 0=0
 | 0,_=>by
  simp only[bR];refine⟨fun j=>by rw[gK];omega,by rw[pZ];simp[V],fun t _=>gK _ _⟩
 | i+1,hi=>by
  obtain⟨g1,E,C⟩:=pg A B i (by omega);have H:=ky a b i;obtain⟨F,k2,k3,k4,k5⟩:=qW A B i g1 (a.length+b.length) b.length (by omega) (by omega);have G:=jL a b i (bR a b i) b.length;simp only[bR];generalize (dB a b i (bR a b i) b.length).1=q at *;generalize (dB a b i (bR a b i) b.length).2=c at *;have D:q.getD (i+b.length) 0=0:=by rw[k5 _ eH,C _ eH]
  rw[D,show wrap64 (0+c)=c by rw[Int.zero_add];exact j8 k2 (by omega)]
  refine⟨F.set _ k2 k3,?_,fun t ht=>?_⟩
  .rw [V_set _ _ _ (by omega),if_pos (by omega),D,Int.sub_zero,k4,E]
   simp only[V];rw[Int.add_mul,Int.mul_right_comm]
  .rw [jd,if_neg (by omega),k5 t (by omega),C t (by omega)]
theorem mul_spec{a b:List Int}(A:Dig a)(B:Dig b):Dig (mul a b)/\V (mul a b) (a.length+b.length)=V a a.length*V b b.length:=by
 obtain⟨C,D,_⟩:=pg A B a.length eH
 exact⟨C,D⟩
theorem tB{a b:List Int}(C:Dig a)(D:Dig b):∀n,eu a b n=true↔V a n<V b n
 | 0=>by simp[eu,V]
 | n+1=>by
  obtain⟨J,F⟩:=nR C n;obtain⟨K,b2⟩:=nR D n;have A:=pow_pos' n;have ih:=tB C D n;have G:V a (n+1)=V a n+a.getD n 0*65536 ^ n:=rfl;have H:V b (n+1)=V b n+b.getD n 0*65536 ^ n:=rfl;rw[G,H];simp only[eu];obtain⟨P,I⟩:=eC ((65536:Int) ^ n);rw[I] at A F b2 ⊢;by_cases h:a.getD n 0=b.getD n 0
  .rw [if_pos h,h,ih]
   omega
  .rw [if_neg h,decide_eq_true_eq]
   generalize a.getD n 0=x at *;generalize b.getD n 0=y at *;constructor
   .intro B
    have:(x+1)*P<=y*P:=Int.mul_le_mul_of_nonneg_right (by omega) (Int.le_of_lt A);rw[Int.add_mul] at this;omega
   .intro B
    rcases Int.lt_or_gt_of_ne h with E|E
    .exact E
    .have:(y+1)*P<=x*P:=Int.mul_le_mul_of_nonneg_right (by omega) (Int.le_of_lt A)
     rw[Int.add_mul] at this;omega
def pw(k:Nat)(x:Int):Int:=if k=3 then x*x*x else x*x
theorem pw_mono(k:Nat){x y:Int}(h0:0<=x)(h:x<=y):pw k x<=pw k y:=by
 have A:x*x<=y*y:=Int.mul_le_mul h h h0 (by omega)
 unfold pw
 split
 .exact Int.mul_le_mul A h h0 (Int.mul_nonneg (by omega) (by omega))
 .exact A
theorem dbl_fin:∀r,r<16->dbl r=((2 ^ r:Nat):Int):=by decide +kernel
theorem dbl_spec(r:Nat)(A:r<16):∃D:Int,dbl r=D/\D=2 ^ r/\0<D/\∀x:Int,0<=x->x<65536->x % (2*D)=0->x+D<65536/\(x+D) % D=0/\x % D=0:=by
 refine⟨_,dbl_fin r A,by simp,by have:=Nat.two_pow_pos r;omega,?_⟩
 have:r=0\/r=1\/r=2\/r=3\/r=4\/r=5\/r=6\/r=7\/r=8\/r=9\/r=10\/r=11\/r=12\/r=13\/r=14\/r=15:=by omega
 rcases this with rfl|rfl|rfl|rfl|rfl|rfl|rfl|rfl|rfl|rfl|rfl|rfl|rfl|rfl|rfl|rfl
 all_goals
  intro x h0 C B;simp only[Nat.reducePow] at B ⊢;omega
theorem dig_target{p:Int}(h0:0<=p)(A:p<65536)(k:Nat):Dig (target p k):=by
 unfold target
 exact Dig.set (fun j=>by rw[gK];omega) _ h0 A
theorem V_target(p:Int)(k n:Nat)(h:4*k<n):V (target p k) n=p*65536 ^ (4*k):=by
 unfold target
 rw[V_set _ _ _ (by simp),pZ,if_pos h,gK]
 simp
theorem power_spec(k:Nat){x:List Int}(hx:Dig x)(D:x.length=5):Dig (kO k x)/\(kO k x).length=(if k=3 then 15 else 10)/\V (kO k x) (kO k x).length=pw k (V x 5):=by
 obtain⟨E,B⟩:=mul_spec hx hx
 have A:=mb x x
 rw[D] at B A
 unfold kO pw
 split
 .obtain⟨G,F⟩:=mul_spec E hx
  have C:=mb (mul x x) x;rw[A,D] at C F;refine⟨G,C,?_⟩;rw[C,F,B]
 .refine⟨E,A,?_⟩
  rw[A,B]
structure RootAt(p:Int)(k t:Nat)(x:List Int):Prop where
 dig:Dig x
 len:x.length=5
 low:∀i,i<(69-t) / 16->x.getD i 0=0
 mid:x.getD ((69-t) / 16) 0 % 2 ^ ((69-t) % 16)=0
 lo:pw k (V x 5)<=p*65536 ^ (4*k)
 hi:p*65536 ^ (4*k)<pw k (V x 5+2 ^ (69-t))
theorem pow_split(a r:Nat):(2:Int) ^ (16*a+r)=2 ^ r*65536 ^ a:=by
 rw[Int.pow_add,Int.mul_comm,show (16*a)=a*16 by omega]
 congr 1
 induction a with
 | zero=>rfl
 | succ a ih=>rw[show (a+1)*16=a*16+16 by omega,Int.pow_add,ih,Int.pow_succ];rfl
theorem set_back(x:List Int)(i:Nat)(v:Int):(x.set i v).set i (x.getD i 0)=x:=by
 rw[List.set_set]
 apply List.ext_getElem?
 intro j
 rw[List.getElem?_set]
 split
 .rename_i h
  subst h;split
  .rename_i h2
   rw[List.getD_eq_getElem?_getD,List.getElem?_eq_getElem h2];rfl
  .rename_i h2
   rw[List.getElem?_eq_none (by omega)]
 .rfl
theorem root_step{p:Int}{k t:Nat}(U:0<=p)(q:p<65536)(m:k=2\/k=3)(ht:t<69){x:List Int}(h:RootAt p k t x):RootAt p k (t+1) (fm p k (68-t) x):=by
 obtain⟨B,s⟩:=eC (68-t)
 have X:69-t=B+1:=by omega
 have C:69-(t+1)=B:=by omega
 rw[s]
 obtain⟨hd,n,E,F,Y,L⟩:=h
 rw[X] at E F L
 obtain⟨A,G⟩:∃a,B / 16=a:=⟨_,rfl⟩
 obtain⟨r,Z⟩:=eC (B % 16)
 have M:r<16:=by omega
 have b:A<5:=by omega
 have N:B=16*A+r:=by omega
 obtain⟨D,u,J,y,c⟩:=dbl_spec r M
 obtain⟨o,z⟩:=hd A
 have O:x.getD A 0 % (2*D)=0:=by
  rcases Nat.lt_or_ge r 15 with d|d
  .have e1:(B+1) / 16=A:=by omega
   have e2:(B+1) % 16=r+1:=by omega
   rw[e1,e2,Int.pow_succ,<-J,Int.mul_comm] at F;exact F
  .rw [E A (by omega)]
   simp
 obtain⟨y1,y2,y3⟩:=c _ o z O
 have hw:wrap64 (x.getD A 0+D)=x.getD A 0+D:=j8 (by omega) (by omega)
 have Q:Dig (x.set A (x.getD A 0+D)):=hd.set _ (by omega) y1
 have R:(x.set A (x.getD A 0+D)).length=5:=by rw[List.length_set];exact n
 have K:V (x.set A (x.getD A 0+D)) 5=V x 5+2 ^ B:=by
  rw[V_set _ _ _ (by omega),if_pos b,N,pow_split,<-J,show x.getD A 0+D-x.getD A 0=D by omega]
 obtain⟨f,S,g⟩:=power_spec k Q R
 have H:less (target p k) (kO k (x.set A (x.getD A 0+D)))=true↔p*65536 ^ (4*k)<pw k (V x 5+2 ^ B):=by
  unfold less;have hm:max (target p k).length (kO k (x.set A (x.getD A 0+D))).length=(kO k (x.set A (x.getD A 0+D))).length:=by
   rw[S];unfold target;rw[List.length_set,List.length_replicate];rcases m with rfl|rfl<;>decide
  rw[hm,tB (dig_target U q k) f,g,K,V_target p k _ (by rw[S];rcases m with rfl|rfl<;>decide)]
 have j:fm p k B x=if less (target p k) (kO k (x.set A (x.getD A 0+D)))=true then x else x.set A (x.getD A 0+D):=by
  unfold fm;simp only[G,Z,u,hw];split
  .rename_i hh
   rw[jd,if_pos ⟨rfl,by omega⟩,show x.getD A 0+D-D=x.getD A 0 by omega,j8 o (by omega)];exact set_back _ _ _
  .rfl
 rw[j]
 have T:(2:Int) ^ (B+1)=2 ^ B+2 ^ B:=by rw[Int.pow_succ];omega
 have I:∀i,i<A->x.getD i 0=0:=fun i hi=>E i (by omega)
 split
 .rename_i hh
  refine⟨hd,n,?_,?_,Y,?_⟩
  .rw [C,G];exact I
  .rw [C,G,Z,<-J];exact y3
  .rw [C];exact H.1 hh
 .rename_i hh
  refine⟨Q,R,?_,?_,?_,?_⟩
  .rw [C,G]
   intro i hi;rw[jd,if_neg (by omega)];exact I i hi
  .rw [C,G,Z,<-J,jd,if_pos ⟨rfl,by omega⟩];exact y2
  .rw [K]
   exact Int.not_lt.1 fun l=>hh (H.2 l)
  .rw [C,K,Int.add_assoc,<-T]
   exact L
theorem root_at{p:Int}{k:Nat}(A:0<=p)(D:p<65536)(E:k=2\/k=3)(B:p*65536 ^ (4*k)<pw k (2 ^ 69)):∀t,t<=69->RootAt p k t (bF p k t)
 | 0,_=>by
  have C:∀i,([0,0,0,0,0]:List Int).getD i 0=0:=fun i=>gK 5 i;have F:V [0,0,0,0,0] 5=0:=pZ 5 5;refine⟨fun i=>?_,rfl,fun i _=>C i,?_,?_,?_⟩
  .show 0<=([0,0,0,0,0]:List Int).getD i 0/\_
   rw[show (bF p k 0).getD i 0=0 from C i,C i];omega
  .rw [show (bF p k 0).getD ((69-0) / 16) 0=0 from C _]
   simp
  .rw [show V (bF p k 0) 5=0 from F]
   have:pw k 0=0:=by unfold pw;split<;>rfl
   rw[this];exact Int.mul_nonneg A (Int.le_of_lt (pow_pos' _))
  .rw [show V (bF p k 0) 5=0 from F,Int.zero_add]
   exact B
 | t+1,ht=>by
  rw[bF];exact root_step A D E (by omega) (root_at A D E B t (by omega))
theorem rootSum_V{x:List Int}(h:Dig x):ix x=V x 4:=by
 obtain⟨A,B⟩:=h 0
 obtain⟨C,D⟩:=h 1
 obtain⟨E,F⟩:=h 2
 obtain⟨G,H⟩:=h 3
 simp only[ix,V,IntKind.wrap_u64]
 omega
theorem root_exact{p:Int}{k:Nat}(B:0<=p)(D:p<65536)(E:k=2\/k=3)(C:p*65536 ^ (4*k)<pw k (2 ^ 69))(K:Int)(L:0<=K)(M:pw k K<=p*65536 ^ (4*k))(N:p*65536 ^ (4*k)<pw k (K+1)) :
  mW p k=(K % 18446744073709551616).toNat:=by
 obtain⟨hd,O,_,_,F,A⟩:=root_at B D E C 69 eH
 have G:=(nR hd 5).1
 have e:V (bF p k 69) 5=K:=by
  have A:p*65536 ^ (4*k)<pw k (V (bF p k 69) 5+1):=A;rcases Int.lt_trichotomy (V (bF p k 69) 5) K with h|h|h
  .have:=pw_mono k (x:=V (bF p k 69) 5+1) (y:=K) (by omega) (by omega)
   omega
  .exact h
  .have:=pw_mono k (x:=K+1) (y:=V (bF p k 69) 5) (by omega) (by omega)
   omega
 unfold mW
 rw[rootSum_V hd,<-e]
 have H:=nR hd 4
 have I:V (bF p k 69) 5=V (bF p k 69) 4+(bF p k 69).getD 4 0*65536 ^ 4:=rfl
 rw[I]
 have J:(65536:Int) ^ 4=18446744073709551616:=by decide
 rw[J] at H ⊢
 congr 1
 omega
end Sha
end
section
namespace Sha
def K3:List Int:=[23241441160490167842,26604808713878332877,31543488660544240431,35287351959220771772,41025191555757552952,43374469216020582425,47431773444313272219,49223322299838333208,52460086356995146306,56674242196778545086,57948244932766773900,61468643694135456994,63608380943893236079,64626287408284341937,66571091106846937653,69291241975837173396,71813108563482594002,72615556083564357091,74922338351982630325,76384605279477341285,77095200552867529333,79152035218479047811,80466001307761769428,82360010132597855157,84757271453788200875,85906662539289440784,86470001012957192511,87575168524888248036,88117443448470540226,89182409882623190821,92723033081372705391,93686458245878541936,95095488024300105724,95556006044611561766,97794660939065469677,98230277650290947039,99514478923103560670,100766364611844223656,101583977345534766822,102786266195516601659,103961068102722061156,104346826991781163009,106234157551817627537,106603670640207904304,107335108066752287256,107697117917222381840,109819772810290077738,111863398698143437240,112528278492720320712,112857792170093030227,113511107980111571865,114477206417490790568,114795642568024087139,116361942610802215627,117281838038729876339,118187525164200278179,119079540232616391420,119373928427484032864,120248493880617511794,120824543361758411244,121110519679094562344,122520547622920568297,124441674862916172053,124979807718728684331]
def K2:List Int:=[26087635650665564424,31950697969885030203,41248173712355948587,48805497317890012913,61180928696206656209,66510681623121259551,76057874264641092971,80407493254657745273]
def goodK(k:Nat)(A:List Int)(W:List Nat)(i:Nat):Bool :=
 decide (((prL.getD i 0:Nat):Int)<65536)&&decide (((prL.getD i 0:Nat):Int)*65536 ^ (4*k)<pw k (2 ^ 69))&&decide (0<=A.getD i 0)&&decide (pw k (A.getD i 0)<=((prL.getD i 0:Nat):Int)*65536 ^ (4*k))&&decide (((prL.getD i 0:Nat):Int)*65536 ^ (4*k)<pw k (A.getD i 0+1))&&decide ((A.getD i 0 % 18446744073709551616).toNat / 4294967296=W.getD i 0)
theorem pr_all:pr 408=prL:=by decide +kernel
theorem tops_next(k n:Nat)(L:List Nat)(h:pr 408=L):bJ k (n+1)=bJ k n++[mW ((L.getD n 0:Nat):Int) k / 4294967296]:=by
 subst h
 rfl
theorem ug{k:Nat}(E:k=2\/k=3)(B:List Int)(W:List Nat):∀n,(List.range n).all (goodK k B W)=true->bJ k n=(List.range n).map (W.getD · 0)
 | 0,_=>rfl
 | n+1,h=>by
  rw[List.range_succ,List.all_append,Bool.and_eq_true] at h;obtain⟨F,A⟩:=h;rw[List.all_cons,List.all_nil,Bool.and_true] at A;unfold goodK at A;obtain⟨p,C⟩:∃p:Int,((prL.getD n 0:Nat):Int)=p:=⟨_,rfl⟩;have D:0<=p:=by rw[<-C];exact Int.natCast_nonneg _
  rw[tops_next k n _ pr_all,ug E B W n F,List.range_succ,List.map_append];rw[C] at A ⊢;clear C;generalize B.getD n 0=K at *;rw[Bool.and_eq_true,Bool.and_eq_true,Bool.and_eq_true,Bool.and_eq_true,Bool.and_eq_true] at A;obtain⟨⟨⟨⟨⟨g1,G⟩,H⟩,I⟩,J⟩,L⟩:=A;rw[root_exact D (of_decide_eq_true g1) E (of_decide_eq_true G) _ (of_decide_eq_true H) (of_decide_eq_true I) (of_decide_eq_true J),of_decide_eq_true L];rfl
theorem tops3:bJ 3 64=kkL:=by rw[ug (.inr rfl) K3 kkL 64 (by decide +kernel)];decide +kernel
theorem tops2:bJ 2 8=ffL:=by rw[ug (.inl rfl) K2 ffL 8 (by decide +kernel)];decide +kernel
theorem pname_eq(d:List UInt8):iW d=cm d:=by unfold iW cm pC kg;rw[tops3,tops2]
end Sha
end
section
open Led
namespace Led
theorem vg(ok:Bool)(L:Ledger)(o:Op):∀b∈(does ok L o).1.bundles,b∈L.bundles\/(b=o.bundle/\ok=true):=by
 unfold does
 by_cases D:o.kind=4
 .simp only [D]
  have F:(fF L o.name o.node).1.bundles=L.bundles:=by
   unfold fF;split
   .rfl
   .split
    .rfl
    .split
     .split
      .rcases kx L o.node with⟨_,h⟩|⟨_,_,_,_,h⟩<;>rw[h]
      .rfl
     .rfl
  intro b A;exact .inl (by simpa [F] using A)
 by_cases E:o.kind=5
 .simp only [E]
  intro b A;refine .inl ?_;have G:(aR L o.node).1.bundles=L.bundles:=by rcases kx L o.node with⟨_,h⟩|⟨_,_,_,_,h⟩<;>rw[h]
  simpa [G] using A
 by_cases B:o.kind=12
 .simp only [B]
  intro b A;have A:b∈(bQ ok L o.bundle).1.bundles:=by simpa using A
  unfold bQ at A;split at A
  .rename_i hok
   split at A
   .exact .inl A
   .split at A
    .rename_i l hl
     unfold put at hl;split at hl
     .injection hl with hl
      subst hl;rcases gP A with h|h
      .exact .inr ⟨h,hok⟩
      .exact .inl h
     .cases hl
    .exact .inl A
  .exact .inl A
 by_cases C:o.kind=13
 .simp only [C]
  intro b A;have A:b∈(dz L o.name).1.bundles:=by simpa using A
  unfold dz at A;split at A
  .exact .inl (bV A)
  .exact .inl A
 simp only[D,E,B,C,if_false]
 intro b A
 have H:∀l,l=L.bundles->b∈l->b∈L.bundles:=fun l e h=>by rw[<-e];exact h
 refine .inl (H _ ?_ A)
 have I:∀{c:Prop} [Decidable c] {x y:Ledger × Int},x.1.bundles=L.bundles->y.1.bundles=L.bundles->(if c then x else y).1.bundles=L.bundles:=by
  intro c _ x y J K;split
  .exact J
  .exact K
 unfold fA im vr ii jg gq dU dK jh jZ
 repeat' (first|rfl|apply I|split)
theorem does_may{L:Ledger}{o:Op}(h:∀b∈L.bundles,az b=true):∀b∈(does (az o.bundle) L o).1.bundles,az b=true:=fun b B=>by
 rcases vg _ _ _ b B with A|⟨A,C⟩
 .exact h b A
 .rw [A];exact C
def itE(e:Entry):Op:={ fe with kind:=101,entry:=e }
def itJ(j:Join):Op:={ fe with kind:=103,join:=j }
def itN(n:Node):Op:={ fe with kind:=105,node:=n }
def itB(s:Txt):Op:={ fe with kind:=106,name:=s }
def itK(k:Key):Op:={ fe with kind:=109,key:=k }
def itU(b:Bundle):Op:={ fe with kind:=112,bundle:=b }
def iH(k:Int):Prop:=k=101\/k=103\/k=105\/k=106\/k=109\/k=112
instance (k:Int):Decidable (iH k):=by unfold iH;infer_instance
def dm(L:Ledger)(o:Op):Ledger :=
 if o.kind=101 then { L with entries:=L.entries++[o.entry] } else if o.kind=103 then { L with joins:=L.joins++[o.join] } else if o.kind=105 then { L with nodes:=L.nodes++[o.node] }
 else if o.kind=106 then { L with bans:=L.bans++[o.name] } else if o.kind=109 then { L with keys:=L.keys++[o.key] } else { L with bundles:=L.bundles++[o.bundle] }
def aO(L:Ledger):List Op:=L.entries.map itE++L.joins.map itJ++L.nodes.map itN++L.bans.map itB++L.keys.map itK++L.bundles.map itU
theorem itemsOf_inj{L M:Ledger}(h:aO L=aO M):L=M:=by
 have pick:∀{α:Type} (f:Op->α) (K:Int),((aO L).filter (fun o=>o.kind==K)).map f=((aO M).filter (fun o=>o.kind==K)).map f:=fun f K=>by rw[h]
 have A:=pick Op.entry 101
 have B:=pick Op.join 103
 have C:=pick Op.node 105
 have D:=pick Op.name 106
 have E:=pick Op.key 109
 have F:=pick Op.bundle 112
 simp[aO,List.filter_map,Function.comp_def,itE,itJ,itN,itB,itK,itU] at A B C D E F
 have G:∀{α:Type} (l:List α),l.filter (fun _=>true)=l:=fun l=>List.filter_eq_self.2 (fun _ _=>rfl)
 have H:∀{α:Type} (l:List α),l.filter (fun _=>false)=[]:=fun l=>List.filter_eq_nil_iff.2 (fun _ _=>by decide)
 simp only[G,H,List.map_nil,List.nil_append,List.append_nil] at A B C D E F
 cases L
 cases M
 simp only at A B C D E F
 subst A B C D E F
 rfl
theorem oP{s:Txt}(h:Ids.agent s=true):s.length<=40:=by
 unfold Ids.agent at h
 simp only[Bool.and_eq_true] at h
 have A:=h.1.2
 unfold Ids.path at A
 split at A
 .simp
 .simp only [Bool.and_eq_true,decide_eq_true_eq] at A
  simpa using A.1.1
theorem path_len{s:Txt}(h:Ids.path s=true):s.length<=40:=by
 unfold Ids.path at h
 split at h
 .simp
 .simp only [Bool.and_eq_true,decide_eq_true_eq] at h
  simpa using h.1.1
theorem i64_in{n a b:Int}(h:aD n a b=true)(A : -9223372036854775808<=a)(B:b<=9223372036854775807):I64 n:=by
 unfold aD at h
 simp only[decide_eq_true_eq] at h
 unfold I64
 omega
theorem jK{k:Int}(h0:0<=k)(A:k<256):({ fe with kind:=k }:Op).Fit:=by
 constructor<;>simp[fe,I64,h0,A]
theorem sel_len{s:Txt}(h:Ids.selector s=true):s.length<=25:=by
 unfold Ids.selector at h
 simp only[Bool.and_eq_true,decide_eq_true_eq] at h
 obtain⟨⟨⟨⟨_,A⟩,_⟩,B⟩,_⟩:=h
 omega
theorem uniq_all{p:Txt->Bool}{l:List Txt}(h:l.all p=true):∀x∈Ids.qj l,p x=true:=fun x hx=>List.all_eq_true.1 h x ((Ids.sV l).2 x |>.1 hx)
theorem tF{L:Ledger}(h:L.Wf)(M:∀b∈L.bundles,az b=true):∀o∈aO L,o.Fit/\iH o.kind:=by
 intro o G
 unfold aO at G
 simp only[List.mem_append,List.mem_map] at G
 rcases G with((((⟨x,hx,rfl⟩|⟨x,hx,rfl⟩)|⟨x,hx,rfl⟩)|⟨x,hx,rfl⟩)|⟨x,hx,rfl⟩)|⟨x,hx,rfl⟩
 .have A:=h.e2 x hx
  unfold cq at A;simp only[Bool.and_eq_true,beq_iff_eq] at A;obtain⟨⟨⟨⟨⟨⟨⟨D,E⟩,_⟩,N⟩,_⟩,O⟩,B⟩,C⟩:=A;have:=path_len N;have:=path_len O;have Q:x.sels.length<=4/\∀y∈x.sels,y.length<=25:=by
   unfold Ids.ej at D E;split at D
   .rename_i hall
    split at D
    .cases D
    .rename_i hle
     rw[if_pos hall,if_neg hle] at E;simp only[Option.getD_some] at E;rw[<-E];exact⟨by omega,fun y H=>sel_len (uniq_all hall y H)⟩
   .cases D
  exact⟨{ jK (k:=101) (by decide) (by decide) with en:=i64_in B (by decide) (by decide),epath:=by show x.path.length<_;omega,eparent:=by show x.parent.length<_;omega,ettl:=i64_in C (by decide) (by decide),esels:=by show x.sels.length<_;omega,esel:=fun y H=>by have:=Q.2 y H;omega },.inl rfl⟩
 .have A:=h.j2 x hx
  unfold cI at A;simp only[Bool.and_eq_true] at A;obtain⟨⟨⟨_,I⟩,B⟩,C⟩:=A;have:=oP I;unfold aD at B;simp only[decide_eq_true_eq] at B;exact⟨{ jK (k:=103) (by decide) (by decide) with jtext:=by show x.text.length<_;omega,jname:=by show x.name.length<_;omega,jexp:=i64_in C (by decide) (by decide) },.inr (.inl rfl)⟩
 .have A:=h.n2 x hx
  unfold cH at A;simp only[Bool.and_eq_true,beq_iff_eq,decide_eq_true_eq] at A;obtain⟨⟨⟨⟨I,J⟩,B⟩,C⟩,F⟩:=A;have:=oP I;exact⟨{ jK (k:=105) (by decide) (by decide) with nname:=by show x.name.length<_;omega,nkey:=by show x.key.length<_;omega,nexp:=i64_in B (by decide) (by decide),nseq:=i64_in C (by decide) (by decide),ndoc:=by show x.doc.length<_;omega },.inr (.inr (.inl rfl))⟩
 .have:=oP (h.b2 x hx)
  exact⟨{ jK (k:=106) (by decide) (by decide) with name:=by show x.length<_;omega },.inr (.inr (.inr (.inl rfl)))⟩
 .have A:=h.k2 x hx
  unfold dx at A;simp only[Bool.and_eq_true,beq_iff_eq] at A;obtain⟨⟨⟨D,B⟩,C⟩,R⟩:=A;unfold aD at B;simp only[decide_eq_true_eq] at B;exact⟨{ jK (k:=109) (by decide) (by decide) with kkid:=by show x.kid.length<_;omega,kseed:=by show x.seed.length<_;omega,kstate:=i64_in C (by decide) (by decide),ksince:=i64_in R (by decide) (by decide) },.inr (.inr (.inr (.inr (.inl rfl))))⟩
 .have A:=M x hx
  unfold az at A;simp only[Bool.and_eq_true,decide_eq_true_eq] at A;obtain⟨⟨⟨⟨F,B⟩,U⟩,J⟩,_⟩:=A;have hd:x.domain.length<=16:=by
   unfold Ids.domain at F;simp only[Bool.and_eq_true,decide_eq_true_eq] at F;exact F.1.1
  have S:∀k∈x.keys,k.kid.length<65536/\k.x.length<65536:=fun k T=>by
   have K:=List.all_eq_true.1 J k T;simp only[Bool.and_eq_true,beq_iff_eq] at K;have:=Sha.qV k.x;rw[<-K.2] at this;omega
  exact⟨{ jK (k:=112) (by decide) (by decide) with bdom:=by show x.domain.length<_;omega,bnum:=i64_in B (by decide) (by decide),bkeys:=by show x.keys.length<_;omega,bkey:=S },.inr (.inr (.inr (.inr (.inr rfl))))⟩
def il(l:List Op):Ledger:=l.foldl dm none'
theorem tq(L:Ledger):il (aO L)=L:=by
 have e:∀(l:List Entry) (A:Ledger),(l.map itE).foldl dm A={ A with entries:=A.entries++l }:=by
  intro l;induction l with
  | nil=>intro A;simp
  | cons x l ih=>intro A;rw[List.map_cons,List.foldl_cons,ih];simp[dm,itE]
 have j:∀(l:List Join) (A:Ledger),(l.map itJ).foldl dm A={ A with joins:=A.joins++l }:=by
  intro l;induction l with
  | nil=>intro A;simp
  | cons x l ih=>intro A;rw[List.map_cons,List.foldl_cons,ih];simp[dm,itJ]
 have n:∀(l:List Node) (A:Ledger),(l.map itN).foldl dm A={ A with nodes:=A.nodes++l }:=by
  intro l;induction l with
  | nil=>intro A;simp
  | cons x l ih=>intro A;rw[List.map_cons,List.foldl_cons,ih];simp[dm,itN]
 have b:∀(l:List Txt) (A:Ledger),(l.map itB).foldl dm A={ A with bans:=A.bans++l }:=by
  intro l;induction l with
  | nil=>intro A;simp
  | cons x l ih=>intro A;rw[List.map_cons,List.foldl_cons,ih];simp[dm,itB]
 have k:∀(l:List Key) (A:Ledger),(l.map itK).foldl dm A={ A with keys:=A.keys++l }:=by
  intro l;induction l with
  | nil=>intro A;simp
  | cons x l ih=>intro A;rw[List.map_cons,List.foldl_cons,ih];simp[dm,itK]
 have u:∀(l:List Bundle) (A:Ledger),(l.map itU).foldl dm A={ A with bundles:=A.bundles++l }:=by
  intro l;induction l with
  | nil=>intro A;simp
  | cons x l ih=>intro A;rw[List.map_cons,List.foldl_cons,ih];simp[dm,itU]
 unfold il aO
 simp only[List.foldl_append,e,j,n,b,k,u]
 simp[none']
structure Ledger.Part(L M:Ledger):Prop where
 e:L.entries <+: M.entries
 n:L.nodes <+: M.nodes
 b:L.bans <+: M.bans
 j:L.joins <+: M.joins
 k:L.keys <+: M.keys
 u:L.bundles <+: M.bundles
theorem tw(L:Ledger):L.Part L:=⟨List.prefix_refl _,List.prefix_refl _,List.prefix_refl _,List.prefix_refl _,List.prefix_refl _,List.prefix_refl _⟩
theorem part_all(l:List Op):∀A:Ledger,A.Part (l.foldl dm A):=by
 induction l with
 | nil=>exact tw
 | cons o l ih =>
  intro A;rw[List.foldl_cons];have h:=ih (dm A o);have h0:A.Part (dm A o):=by
   have p:=tw A;unfold dm;repeat' split
   .exact { p with e:=List.prefix_append _ _ }
   .exact { p with j:=List.prefix_append _ _ }
   .exact { p with n:=List.prefix_append _ _ }
   .exact { p with b:=List.prefix_append _ _ }
   .exact { p with k:=List.prefix_append _ _ }
   .exact { p with u:=List.prefix_append _ _ }
  exact⟨h0.e.trans h.e,h0.n.trans h.n,h0.b.trans h.b,h0.j.trans h.j,h0.k.trans h.k,h0.u.trans h.u⟩
theorem part_take(L:Ledger)(i:Nat):(il ((aO L).take i)).Part L:=by
 have h:=part_all ((aO L).drop i) (il ((aO L).take i))
 unfold il at h ⊢
 rw[<-List.foldl_append,List.take_append_drop] at h
 have e:=tq L
 unfold il at e
 rw[e] at h
 exact h
theorem rawAll_succ(l:List Op)(i:Nat)(h:i<l.length):il (l.take (i+1))=dm (il (l.take i)) l[i]:=by
 unfold il
 rw[List.take_succ_eq_append_getElem h,List.foldl_append]
 rfl
theorem enc_inj{o B:Op}(h:o.Fit)(C:B.Fit)(D:enc o=enc B):o=B:=by
 have A:=read_op h false
 have E:=read_op C false
 rw[D,E] at A
 injection A with A
 exact A.symm
theorem encs_inj:∀{l m:List Op},(∀o∈l,o.Fit)->(∀o∈m,o.Fit)->l.map enc=m.map enc->l=m
 | [],[],_,_,_=>rfl
 | [],_::_,_,_,h=>by cases h
 | _::_,[],_,_,h=>by cases h
 | a::l,b::m,h1,h2,h=>by
  injection h with h3 h4
  rw[enc_inj (h1 a (by simp)) (h2 b (by simp)) h3,encs_inj (fun o A=>h1 o (List.mem_cons_of_mem _ A)) (fun o A=>h2 o (List.mem_cons_of_mem _ A)) h4]
end Led
end
section
open Go.RowKit Mem Led
theorem pmay_eq(b:Led.Bundle):Led.jI b=az b:=by
 unfold Led.jI az
 simp only[Sha.pname_eq]
def Made(w:World)(x:Ending)(w':World):Prop :=
 ∃A B C D E E2 U2,x=.returned (.tuple #[.agg A.toArray,.agg B.toArray,.bool true])/\dk w' A C D E/\dk w' B C E2 U2/\C.Wf/\eF w w'/\Hid (gN w' A D E/\gN w' B E2 U2)/\Hid (∀b∈C.bundles,az b=true)
theorem uA{P:Program}{F:Func}{p q s:Tmp}{ty:TypeId}(h:F.results=#[.cell p ty,.cell q ty,.tmp s])(tmps:Array Value)(w:World)(g A n:Nat)(d:TypeDesc)
  (I:tmps.getD p undef=.pointer (some ⟨g,0,none⟩)) (J:tmps.getD q undef=.pointer (some ⟨A,0,none⟩)) (G:P.underlying ty=some d) (hd:(match d with|.struct _|.array _ _=>true|_=>false)=true) (hi:(P.info? ty).map (·.size)=some n) (K:Has w g 0 n) (C:Has w A 0 n) :
  (results F tmps).run P w=.ok (.tuple #[.agg (Mem.arr w g 0 n),.agg (Mem.arr w A 0 n),tmps.getD s undef]) w:=by
 have D:tmps[p]?.getD undef=.pointer (some ⟨g,0,none⟩):=by simpa using I
 have E:tmps[q]?.getD undef=.pointer (some ⟨A,0,none⟩):=by simpa using J
 have H:=bH (P:=P) w ty g 0 n d G hd hi K
 have B:=bH (P:=P) w ty A 0 n d G hd hi C
 simp only[Instr.loadAt,Instr.sureAddr,Sem.run_bind,Sem.run_pure,Result.andThen_ok] at H B
 simp[results,h,D,E,asAddr,H,B]
theorem da.past{g A:Nat}{w w':World}{cs B:List Value}{L L':Led.Ledger}{E F:List (Led.Entry × Value)}{U G:List (Led.Bundle × Value)}(h:da g w cs L E U)(C:da A w B L' F G)(D:Chg [A] w w')(H:g≠A):da g w' cs L E U :=
 ⟨h.blk.chg D (by simpa using H),h.len,h.at_.past D C.blk C.at_.slices⟩
theorem da.put2{g:Nat}{w w':World}{cs A:List Value}{L L':Led.Ledger}{E G:List (Led.Entry × Value)}{U H:List (Led.Bundle × Value)}(h:da g w cs L E U)(I:eF w w')(C:dk w' A L' G H) :
  ∃D,(ir (.pointer (some ⟨g,0,none⟩)) (.agg A.toArray)).run prog w'=.ok () D/\da g D A L' G H/\Chg [g] w' D:=by
 obtain⟨F,B⟩:=bX (h.blk.below I) h.len (vs:=A) C.len C.ones
 have J:Chg [g] w' (w'.setCells g 0 A):=(Chg.refl _ _).setCells _ (.inl (by simp))
 exact⟨_,F,⟨B,C.len,C.past J (h.blk.below I) h.at_.slices⟩,J⟩
theorem made_any(A:Option Addr)(n c:Nat)(L:List OpV)(M:Nat)(w:World)(hT:Tab Sha.kkL w)(hd:nS w A n L)(hM:M<=1000) :
  Calls prog 11 #[.slice A n c,.int .i64 (M:Int)] w (Made w):=by
 have HD:=eA hd
 have HL:=eA hd.len
 have HT:=eA hT
 obtain⟨Z,hZ⟩:=eC (aB (.slice none 0 0))
 have Af:Z.length=6:=by rw[<-hZ];rfl
 obtain⟨d,S⟩:=eC ((((w.alloc (.cells Z.toArray 30)).alloc (.cells Z.toArray 30)).alloc (.cells Z.toArray 30)).alloc (.cells Z.toArray 30))
 have b0:Blk d w.heap.size Z 30:=by rw[<-S];exact(((Blk.new _ _ _).alloc _).alloc _).alloc _
 have b1:Blk d (w.heap.size+1) Z 30:=by
  have:=Blk.new (w.alloc (.cells Z.toArray 30)) Z 30;rw[<-S];exact Blk.alloc (Blk.alloc (by simpa using this) _) _
 have b2:Blk d (w.heap.size+2) Z 30:=by
  have:=Blk.new ((w.alloc (.cells Z.toArray 30)).alloc (.cells Z.toArray 30)) Z 30;rw[<-S];exact Blk.alloc (by simpa using this) _
 have b3:Blk d (w.heap.size+3) Z 30:=by
  have:=Blk.new (((w.alloc (.cells Z.toArray 30)).alloc (.cells Z.toArray 30)).alloc (.cells Z.toArray 30)) Z 30;rw[<-S];simpa using this
 have AP:eF w d:=by rw[<-S];exact((eI.alloc (by simp) _).alloc (by simp;omega) _).alloc (by simp;omega) _
 have Bv:d.heap.size=w.heap.size+4:=by rw[<-S];simp
 have AQ:da (w.heap.size+2) d Z none' [] []:=⟨b2,Af,by rw[<-hZ];exact lv_lg d⟩
 have AR:da (w.heap.size+3) d Z none' [] []:=⟨b3,Af,by rw[<-hZ];exact lv_lg d⟩
 have K:Hid (gN d Z [] []/\gN d Z [] []):=by
  have h0:gN d Z [] []:=by
   refine⟨fun v hv=>?_,fun p hp=>(by cases hp),fun p hp=>(by cases hp)⟩;rw[<-hZ] at hv;simp only[aB,List.mem_cons,List.not_mem_nil,or_false] at hv;rcases hv with rfl|rfl|rfl|rfl|rfl|rfl<;>exact fun a n c e _=>by cases e
  exact eA ⟨h0,h0⟩
 have HZ:=eA hZ
 have AS:Hid ((((w.alloc (.cells #[.slice none 0 0,.slice none 0 0,.slice none 0 0,.slice none 0 0,.slice none 0 0,.slice none 0 0] 30)).alloc (.cells #[.slice none 0 0,.slice none 0 0,.slice none 0 0,.slice none 0 0,.slice none 0 0,.slice none 0 0] 30)).alloc (.cells #[.slice none 0 0,.slice none 0 0,.slice none 0 0,.slice none 0 0,.slice none 0 0,.slice none 0 0] 30)).alloc (.cells #[.slice none 0 0,.slice none 0 0,.slice none 0 0,.slice none 0 0,.slice none 0 0,.slice none 0 0] 30)=d):=eA (by rw[<-S,<-hZ];rfl)
 have HR:=eA (show Blk d w.heap.size Z 30/\Blk d (w.heap.size+1) Z 30 from⟨b0,b1⟩)
 have N:=eA AQ
 have H:=eA AR
 clear S hd hT b0 b1 b2 b3 AQ AR hZ
 go_enter func11,ntmps11
 go_upto_region 2 with fail
 rw[AS.out]
 clear AS
 go_wp2_with fail
 go_loopw [9] (fun i wx=>∃(j:Nat) (D E:List Value) (m:Led.Ledger) (E1:List (Led.Entry × Value)) (U1:List (Led.Bundle × Value)) (E2:List (Led.Entry × Value)) (U2:List (Led.Bundle × Value)),j<=n/\j<=M/\i=.int .i64 (j:Int)/\eF w wx/\w.heap.size+4<=wx.heap.size/\Hid (da (w.heap.size+2) wx D m E1 U1)/\Hid (da (w.heap.size+3) wx E m E2 U2)/\Hid (Blk wx w.heap.size Z 30/\Blk wx (w.heap.size+1) Z 30)/\Hid m.Wf/\Hid (gN wx D E1 U1/\gN wx E E2 U2)/\Hid (∀b∈m.bundles,az b=true)) (fun i _=>n-(intOf i).toNat)
 case atStart=>exact⟨0,_,_,_,_,_,_,_,by omega,by omega,rfl,AP,by omega,N,H,HR,eA pP,K,eA (fun b y=>by cases y)⟩
 case round =>
  clear AP N H HR Bv K;obtain⟨j,D,E,m,E1,U1,E2,U2,hj,BL,rfl,f,BM,N,H,HR,z,K,AA⟩:=hrel;obtain⟨wx,Bw⟩:∃wx,wx=wr:=⟨_,rfl⟩;subst Bw;have AB:(j<n/\(j:Int)<(n:Int)/\(j:Int)<(M:Int))\/(¬(j:Int)<(n:Int))\/((j:Int)<(n:Int)/\¬(j:Int)<(M:Int)):=by omega
  rcases AB with⟨Bx,AT,By⟩|AB
  .have AU:j<L.length:=by rw[HL.out];exact Bx
   obtain⟨bk,ok,rfl,BN,AV⟩:=ldOp_es HD.out.es AU;have As:=AV wx f;have AW:Hid (L[j].In wx):=eA (OpIn.below (HD.out.each _ (List.getElem_mem AU)) f);generalize L[j]=x at *;have HC:=eA (cutv_any x wx AW.out);obtain⟨CX,AX⟩:=eD ((lq x).toArray);rw[AX.out] at As HC;clear AV AW AX;go_wp2_with fail
   refine HC.out.mono ?_;rintro e w1 ⟨A1,c1,A2,c2,KK,rfl,f1,f2,t1,t2,AY,Ag⟩;clear HC As;obtain⟨Ah,AZ⟩:=cut_sized (fun x r h=>by rw[h,Sha.qV];omega) AY
   have Ai:=eA Ah;have Ba:=eA AZ;have g:=eA (show (pl x.o KK).entry.sels.length<=1000/\(pl x.o KK).bundle.keys.length<=1000 from⟨Ah.el,Ah.ul⟩);generalize pl x.o KK=o at *;have Au:=dR (L:=o.entry.sels) (by rw[ke];exact t1)
   have Av:=bc (enc:=aN) (L:=o.bundle.keys) t2;obtain⟨O,Bb,B2,k⟩:=uQ w1 (ac o (.slice A1 (min x.ns 6) c1) (.slice A2 (min x.nk 9) c2)) rfl (opCells_one _ _ _ _ _ _ _);have Aj:=eA (Au.below k);have Ak:=eA (Av.below k);have G:=Ag.trans (k.mono Ag.size);have J:eF w O:=f.trans (G.mono f.size);have AC:=N.out.below G;have Aa:=eA (H.out.below G);have Al:=eA (show Blk O w.heap.size Z 30/\Blk O (w.heap.size+1) Z 30 from⟨HR.out.1.below G,HR.out.2.below G⟩);have q0:O.cell? ⟨w1.heap.size,0,none⟩=some (.int .i64 o.kind):=B2.cell 0;have AD:=eS B2 rfl;have AE:=AC.load;have AF:=eA B2;have F:=eA AC;have T:Hid (o.kind<=100->Calls prog 14 #[.agg D.toArray,.agg (ac o (.slice A1 (min x.ns 6) c1) (.slice A2 (min x.nk 9) c2)).toArray] O (mj (fun r=>r=does (az o.bundle) m o) m O)):=eA fun h=>by
    rw[<-pmay_eq];exact r8 D m E1 U1 o _ _ O F.out.at_ z.out Ai.out h Aj.out Ak.out Ba.out (HT.out.below J)
   have Ab:Hid (gN O D E1 U1/\gN O E E2 U2):=eA ⟨K.out.1.below G,K.out.2.below G⟩;have Am:Hid (Nop O (.slice A1 (min x.ns 6) c1)/\Nop O (.slice A2 (min x.nk 9) c2)):=eA ⟨(Nop.own t1 (by decide)).below k,(Nop.own t2 (by decide)).below k⟩;have Bz:=Ag.size;have BF:=k.size;clear Ah AZ t1 t2 AY Au Av Ba Ag k G AC B2 f1 f2 N H HR K;obtain⟨CO,An⟩:=eD ((ac o (.slice A1 (min x.ns 6) c1) (.slice A2 (min x.nk 9) c2)).toArray);rw[An.out] at Bb AD T;obtain⟨CL,B0⟩:=eD (D.toArray);rw[B0.out] at AE T;rw[An.out];by_cases Aw:o.kind<=100
   .have Bc:¬(100:Int)<o.kind:=by omega
    have Bd:=T.out Aw;clear T;go_wp2_with fail
    refine Bd.mono ?_;rintro e w3 ⟨r,hr,vE,vN,vB,vJ,vK,vU,E',U',rfl,Ao,C⟩;have Ac:(does (az o.bundle) m o).1.Wf:=does_wf z.out g.out.1 g.out.2;have Be:Hid (∀b∈r.1.bundles,az b=true):=eA (by rw[hr];exact does_may AA.out)
    rw[hr,se] at Ao;obtain⟨R,Bf,l,B⟩:=F.out.put2 C Ao.at;have B3:=AF.out.below C;have B4:=B3.chg B (by simp;omega)
    have U:=eA ((Aa.out.below C).past (F.out.below C) B (by omega));have AG:=eA (show Blk R w.heap.size Z 30/\Blk R (w.heap.size+1) Z 30 from⟨(Al.out.1.below C).chg B (by simp),(Al.out.2.below C).chg B (by simp)⟩);have Ad:Hid (gN R [vE,vN,vB,vJ,vK,vU] E' U'/\gN R E E2 U2):=eA ⟨Ao.nops.turn B l.blk (by decide),(Ab.out.2.below C).turn B l.blk (by decide)⟩;have Ax:=(Am.out.1.below C).turn B l.blk (by decide);have Ay:=(Am.out.2.below C).turn B l.blk (by decide);have Az:=U.out.load;have A0:=eS B4 rfl;have q:eF w R:=(J.trans (C.mono J.size)).trans (B.below' (by have:=J.size;have:=C.size;omega) (by simp))
    have V:=rapply_any E m E2 U2 o _ _ R U.out.at_ z.out Ai.out ((Aj.out.below C).past B (F.out.below C).blk (F.out.below C).at_.slices) ((Ak.out.below C).past (fun x=>⟨_,_,rfl,fun _ _ _ e=>by cases e⟩) B (F.out.below C).blk (F.out.below C).at_.slices) Ad.out.2 Ax Ay;have B1:Hid ((does (az o.bundle) m o)=r):=eA hr.symm;rw[B1.out] at Ac l V;rw[An.out] at A0 V;obtain⟨CM,B5⟩:=eD (E.toArray);rw[B5.out] at Az V;have Bg:=eA Ac;have Bh:=eA l;have B6:=eA B4;have BG:=C.size;have BH:=B.size;clear hr Ao B C Bd AD AE Bb F Aa AF B3 B4 l Ac J Bc Al Aj Ak Ai g f Ax Ay Am Ab;obtain⟨er,B7⟩:=eD (r.2);go_wp2_with fail
    refine V.mono ?_;rintro e w5 ⟨AH,E5,U5,rfl,AI,A3,A4,I⟩;obtain⟨w6,A5,t,X⟩:=U.out.put2 I A3;have s:=(Bh.out.below I).past (U.out.below I) X (by omega);have Ae:Hid (gN w6 [vE,vN,vB,vJ,vK,vU] E' U'/\gN w6 AH E5 U5):=eA ⟨(Ad.out.1.below I).turn X t.blk (by decide),A4.turn X t.blk (by decide)⟩;have AJ:=eA (show Blk w6 w.heap.size Z 30/\Blk w6 (w.heap.size+1) Z 30 from⟨(AG.out.1.below I).chg X (by simp),(AG.out.2.below I).chg X (by simp)⟩);have A6:eF w w6:=(q.trans (I.mono q.size)).trans (X.below' (by have:=q.size;have:=I.size;omega) (by simp))
    have AK:=s.load;have Ap:=t.load;have AL:=lsame_eq _ _ _ _ _ _ _ w6 s.at_ t.at_;have A7:=eA s;have Bi:=eA t;have BI:=I.size;have BJ:=X.size;clear V A0 Az Bf U AG A3 AI A4 Ad I X s t Bh q B6;obtain⟨CP,Bj⟩:=eD (AH.toArray);rw[Bj.out] at A5 Ap AL;rw[Bj.out,B7.out];go_wp2_with fail
    refine AL.mono ?_;rintro e w7 ⟨rfl,Q⟩;have Bk:=A6.trans (Q.mono A6.size);have B8:=eA (A7.out.below Q);have B9:=eA (Bi.out.below Q);have Bl:Hid (gN w7 [vE,vN,vB,vJ,vK,vU] E' U'/\gN w7 AH E5 U5):=eA ⟨Ae.out.1.below Q,Ae.out.2.below Q⟩;have BA:=eA (show Blk w7 w.heap.size Z 30/\Blk w7 (w.heap.size+1) Z 30 from⟨AJ.out.1.below Q,AJ.out.2.below Q⟩);have BK:=Q.size;have BO:(er != er)=false:=by simp
    clear AK Ap A5 A7 Bi AJ Q AL Ae;go_wp2_with fail
    go_roundw
    case rel=>exact⟨j+1,_,_,_,_,_,_,_,by omega,by omega,by go_num,Bk,by omega,B8,B9,BA,Bg,Bl,Be⟩
    case measure=>simp[intOf];omega
   .have Bc:(100:Int)<o.kind:=by omega
    clear T An AD AE AF Aw Aj Ak Ai Am;go_wp2_with fail
    go_roundw
    case rel=>exact⟨j+1,_,_,_,_,_,_,_,by omega,by omega,by go_num,J,by omega,F,Aa,Al,z,Ab,AA⟩
    case measure=>simp[intOf];omega
  .obtain⟨b0,b1⟩:=HR.out
   have AK:=N.out.load;have Ap:=H.out.load;have AM:eF wx wx.drew:=(Below.refl _ wx).drew;have f0:=(N.out.below AM).load;have f1:=(H.out.below AM).load;have Aq:Hid (∀O,eF wx O->∃w3 R,(ir (.pointer (some ⟨w.heap.size,0,none⟩)) (.agg D.toArray)).run prog O=.ok () w3/\(gH (.pointer (some ⟨w.heap.size+3,0,none⟩))).run prog w3=.ok (.agg E.toArray) w3/\(ir (.pointer (some ⟨w.heap.size+1,0,none⟩)) (.agg E.toArray)).run prog w3=.ok () R/\Has R w.heap.size 0 6/\Has R (w.heap.size+1) 0 6/\Mem.arr R w.heap.size 0 6=D.toArray/\Mem.arr R (w.heap.size+1) 0 6=E.toArray/\dk R D m E1 U1/\dk R E m E2 U2/\eF w R/\Hid (gN R D E1 U1/\gN R E E2 U2)):=eA fun O y=>by
    have Ar:∀u∈Z,∃A n c,u=.slice A n c:=by rw[<-HZ.out];simp[aB]
    have h1:=N.out.at_;have h2:=H.out.at_;obtain⟨Bm,B3⟩:=bX (b0.below y) Af (vs:=D) h1.len h1.ones;have Y:Chg [w.heap.size] O (O.setCells w.heap.size 0 D):=(Chg.refl _ _).setCells _ (.inl (by simp));have AN:=(b1.below y).chg Y (by simp);obtain⟨Bn,B4⟩:=bX AN Af (vs:=E) h2.len h2.ones;have B:Chg [w.heap.size+1] (O.setCells w.heap.size 0 D) ((O.setCells w.heap.size 0 D).setCells (w.heap.size+1) 0 E):=(Chg.refl _ _).setCells _ (.inl (by simp));have Bo:=B3.chg B (by simp);refine⟨_,_,Bm,cY (((H.out.below y).blk).chg Y (by simp)) h2.len,Bn,Bo.has h1.len,B4.has h2.len,Bo.arr h1.len,B4.arr h2.len,((h1.below y).past Y (b0.below y) Ar).past B AN Ar,((h2.below y).past Y (b0.below y) Ar).past B AN Ar,?_,eA ⟨((K.out.1.below y).turn Y B3 (by decide)).turn B B4 (by decide),((K.out.2.below y).turn Y B3 (by decide)).turn B B4 (by decide)⟩⟩;have AO:=f.trans (y.mono f.size);exact(AO.trans (Y.below' AO.size (by simp))).trans (B.below' (Nat.le_trans AO.size Y.size) (by simp))
   clear b0 b1 HR N H HZ K;obtain⟨CA,Bp⟩:=eD (D.toArray);obtain⟨CB,Bq⟩:=eD (E.toArray);rw[Bp.out] at f0 Aq;rw[Bq.out] at f1 Aq;obtain⟨w3,R,Bm,BP,Bn,hH,Br,hA,Bt,A8,A9,BB,Bu⟩:=Aq.out wx.drew AM;have HA:=eA hA;have BC:=eA Bt;have H1:=eA A8;have H2:=eA A9;have BD:=eA hH;have BE:=eA Br;clear hA Bt A8 A9 hH Br Aq AK Ap;rcases AB with AT|⟨AT,By⟩
   all_goals
    go_upto_region 14 with fail
    go_region_with (fail)
    all_goals
     (try go_wp2)
     refine bodyPost_ret (uA (P:=prog) Tryz.results11 _ _ w.heap.size (w.heap.size+1) 6 _ rfl rfl underlying30 rfl bT BD.out BE.out) rfl ?_;exact⟨D,E,m,E1,U1,E2,U2,by rw[HA.out,BC.out,Bp.out,Bq.out];rfl,H1.out,H2.out,z.out,BB,Bu,AA⟩
theorem two_lg(w:World){A B:List Value}(N:A.length=6)(O:∀v∈A,v.oneCell'=true)(Q:B.length=6)(R:∀v∈B,v.oneCell'=true) :
  ∃L F,(ir (.pointer (some ⟨w.heap.size,0,none⟩)) (.agg A.toArray)).run prog ((w.alloc (.cells #[.slice none 0 0,.slice none 0 0,.slice none 0 0,.slice none 0 0,.slice none 0 0,.slice none 0 0] 30)).alloc (.cells #[.slice none 0 0,.slice none 0 0,.slice none 0 0,.slice none 0 0,.slice none 0 0,.slice none 0 0] 30))=.ok () L /\
   (ir (.pointer (some ⟨w.heap.size+1,0,none⟩)) (.agg B.toArray)).run prog L=.ok () F/\Blk F w.heap.size A 30/\Blk F (w.heap.size+1) B 30/\eF w F:=by
 obtain⟨W,G⟩:=eC ((w.alloc (.cells (aB (.slice none 0 0)).toArray 30)).alloc (.cells (aB (.slice none 0 0)).toArray 30))
 have S:Blk W w.heap.size (aB (.slice none 0 0)) 30:=by rw[<-G];exact(Blk.new _ _ _).alloc _
 have T:Blk W (w.heap.size+1) (aB (.slice none 0 0)) 30:=by
  have:=Blk.new (w.alloc (.cells (aB (.slice none 0 0)).toArray 30)) (aB (.slice none 0 0)) 30;rw[<-G];simpa using this
 have H:eF w W:=by rw[<-G];exact eI.alloc (by simp) _
 obtain⟨D,M⟩:=bX S rfl N O
 have C:Chg [w.heap.size] W (W.setCells w.heap.size 0 A):=(Chg.refl _ _).setCells _ (.inl (by simp))
 obtain⟨I,J⟩:=eC (W.setCells w.heap.size 0 A)
 rw[J] at D M C
 obtain⟨K,U⟩:=bX (T.chg C (by simp)) rfl Q R
 have E:Chg [w.heap.size+1] I (I.setCells (w.heap.size+1) 0 B):=(Chg.refl _ _).setCells _ (.inl (by simp))
 refine⟨I,_,?_,K,M.chg E (by simp),U,(H.trans (C.below' H.size (by simp))).trans (E.below' (Nat.le_trans H.size C.size) (by simp))⟩
 have e:(w.alloc (.cells #[.slice none 0 0,.slice none 0 0,.slice none 0 0,.slice none 0 0,.slice none 0 0,.slice none 0 0] 30)).alloc (.cells #[.slice none 0 0,.slice none 0 0,.slice none 0 0,.slice none 0 0,.slice none 0 0,.slice none 0 0] 30)=W:=G
 rw[e]
 exact D
end
end Go.Proofs.YtmbpnkacggngkaaGreatDoor
