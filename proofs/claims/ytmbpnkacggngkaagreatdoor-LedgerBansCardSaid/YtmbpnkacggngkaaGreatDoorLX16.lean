/- LedRDoes, LedLiv2, LedRApply, LedSameY, ShaExact, ShaKons, LedItLaw, LedMade, LedTab, LedLoose (put together by bundle.py: only what is needed). -/
import Derived.Test.YtmbpnkacggngkaaGreatDoorRows
import Derived.LaidMore
import Derived.Lay
import Derived.Test.YtmbpnkacggngkaaGreatDoorLX15
set_option maxRecDepth 100000
set_option maxHeartbeats 16000000
namespace Go.Proofs.YtmbpnkacggngkaaGreatDoor
open Batch
open Go.Proofs.Tryz
section
open Go.RowKit Mem Led
theorem bB.from{base gl:Nat} {r:Led.Ledger × Int} {w W w':World} {x:Ending} (A:Below base w W) (h:bB base gl r W x w'):bB base gl r w x w':=⟨h.1,A.trans h.2.1,h.2.2⟩
theorem rG(x:Led.Entry) (v:Value):∀ (d:Bool) (E:List (Led.Entry × Value)),(aM (fun a b:Led.Entry × Value=>cE a.1 b.1) (x,v) d E).map Prod.fst=aM cE x d (E.map Prod.fst)
 | d,[]=>by cases d <;> rfl
 | d,y::l=>by
  rw [List.map_cons,aM,aM,List.map_append,List.map_append,rG x v _ l]; congr 1
  congr 1
  .cases (!d&&decide (0<=cE y.1 x)) <;> rfl
  .cases decide (cE y.1 x=0) <;> rfl
theorem ent_one'(x:Led.Entry × Value) (h:x.2.oneCell'=true):∀ u∈ag x,u.oneCell'=true:=by
 intro u A
 simp only [ag,List.mem_cons,List.not_mem_nil,or_false] at A
 rcases A with rfl|rfl|rfl|rfl|rfl
 .rfl
 .rfl
 .rfl
 .rfl
 .exact h
theorem cap_of2{w:World} {base k m n c:Nat} {e:TypeId} {A:Option Addr} {xs:List Value} (h:w.ownsRow base e k (.slice A n c) m xs):n<=c:=by
 obtain⟨B,C,e',f,_⟩:=dy h
 injection e' with _ e2 e3
 subst e2 e3
 exact f.1
theorem gone_at{L:Led.Ledger} {n:Int} {i:Nat} (hi:i<L.entries.length) (A:∀ x∈L.entries.take i,(x.n==n)=false) (B:(L.entries[i].n==n)=true):fZ L n=({ L with entries:=L.entries.take i++L.entries.drop (i+1) },0):=by
 unfold fZ
 rw [if_pos (List.any_eq_true.2 ⟨_,List.getElem_mem hi,B⟩),qr (p:=fun e:Led.Entry=>e.n==n) hi A B]
theorem rdoes_any{base gl:Nat} {vE vN vB vJ vK vU:Value} {L:Led.Ledger} {E:List (Led.Entry × Value)} {U:List (Led.Bundle × Value)} (o:Led.Op) (sv kv:Value) (w:World) (H:RAt base gl w vE vN vB vJ vK vU L E U) (hL:L.Wf) (ho:Sized o) (AB:NT base w sv o.entry.sels) (AC:NK base w kv o.bundle.keys) :
  Calls prog 40 #[.pointer (some ⟨gl,0,none⟩),.agg (ah o sv kv).toArray] w (bB base gl (does (aD o.bundle) L o) w):=by
 obtain⟨AE,Y,rfl,fE,_⟩:=dy H.rk.oE
 have AD:E.length=L.entries.length:=by rw [<-H.rk.ents,List.length_map]
 have zE:=hL.e3
 obtain⟨W,hW⟩:=eA (w.alloc (.cells (ah o sv kv).toArray 47))
 have b0:Blk W w.heap.size (ah o sv kv) 47:=by rw [<-hW]; exact Blk.new w _ _
 have J:eD w W:=eF hW
 have HW:=hO hW
 clear hW
 have hH:=H.below J
 have AF:NT base W sv o.entry.sels:=AB.chg (Chg.of_below (S:=[]) J) Far.none H.hb
 have AG:NK base W kv o.bundle.keys:=AC.chg (Chg.of_below (S:=[]) J) (by simp) H.hb
 have q:=fy b0 rfl
 obtain⟨M,d⟩:=eC (o.kind)
 have c0:W.cell? ⟨w.heap.size,0,none⟩=some (.int .i64 M):=(b0.cell 0).trans (by rw [<-d.out]; rfl)
 have s:Hid (∀ {r:Led.Ledger × Int} {F:FuncId} {args:Array Value},Calls prog F args W (bB base gl r W)->Calls prog F args W (bB base gl r w)):=hO fun h=>h.mono fun _ _ h=>bB.from (J.mono H.hb) h
 obtain⟨R,hR⟩:=eC (does (aD o.bundle) L o)
 have u:=fun hk=>s.out (rjoins_any (aD o.bundle) o sv kv W hH hL ho hk)
 have Au:=s.out (mi o.node W hH hL ho.nn)
 have y:=fun hk=>s.out (rnames_any (aD o.bundle) o sv kv W hH hL ho hk)
 have z:=fun hk=>s.out (rkeys_any (aD o.bundle) o sv kv W hH hL hk)
 have Aa:=fun hk=>s.out (th o sv kv W hH hL ho AG hk)
 have K:=mA b0
 have Ab:=kz b0
 obtain⟨CS,AU⟩:=eC ((ah o sv kv).toArray)
 obtain⟨CN,AV⟩:=eC ((ac o.node).toArray)
 obtain⟨CE,Ah⟩:=eC ((ag (o.entry,sv)).toArray)
 rw [AU.out] at HW q u y z Aa ⊢
 rw [AV.out] at Au K
 rw [Ah.out] at Ab
 rw [hR.out] at u y z Aa ⊢
 rw [d.out] at u y z Aa
 have D:=hO u
 have I:=hO Au
 have B:=hO y
 have C:=hO z
 have G:=hO Aa
 have HH:=hO hH
 have Av:=hO b0
 have HB:=hO H.hb
 have Aw:=hO AF
 clear u Au y z Aa hH b0 H AB AC AG AF fE
 obtain⟨n,hn⟩:=eA (E.length)
 have HN:=hO hn
 rw [hn] at HH
 have Ax:Hid (L.entries.length=n):=hO (by rw [<-AD,hn])
 rw [Ax.out] at zE
 clear hn AD
 have f:(M=1\/M=2)\/(M=3\/M=4\/M=5\/M=6\/M=7\/M=8\/M=9\/M=10\/M=11\/M=12\/M=13\/M=14)\/((M==1)=false/\(M==2)=false/\(M==3)=false/\(M==4)=false/\(M==5)=false/\(M==6)=false/\(M==7)=false/\(M==8)=false/\(M==9)=false/\(M==10)=false/\(M==11)=false/\(M==12)=false/\(M==13)=false/\(M==14)=false):=by
  simp only [beq_eq_false_iff_ne]; omega
 go_enter func40,ntmps40
 go_upto_region 1 with fail
 rw [HW.out]
 clear HW
 rcases f with(rfl|rfl)|f|f
 .have hd:R=em L o.entry:=by
   rw [<-hR.out]; unfold does; rw [d.out]; rfl
  have HD:=hO hd; have g:=rentry_any o.entry sv W (Aw.out.at (Nat.le_trans HB.out J.size)) ho.el ho.es ho.ep ho.er; rw [Ah.out] at g; clear hd D I B C G q K
  cases hm:cM o.entry
  .rw [hm] at g
   have HE:Hid (R=(L,1)):=hO (by rw [HD.out]; unfold em; rw [hm]; rfl)
   clear hm HD; go_wp2_with fail
   refine g.mono ?_; rintro e T ⟨rfl,Z⟩; go_wp2; go_ret; exact bB.err ((J.trans (Z.mono J.size)).mono HB.out) HE.out (by decide)
  .rw [hm] at g
   have HM:=hO hm; clear hm; go_wp2_with fail
   refine g.mono ?_; rintro e T ⟨rfl,Z⟩; have Ac:=J.trans (Z.mono J.size); have Ai:=hO (HH.out.below Z); have AH:=hO (Av.out.below Z); have Ad:=hO (Aw.out.chg (Chg.of_below (S:=[]) Z) Far.none (Nat.le_trans HB.out J.size)); have f0:∀ p,(ab T p).cell? ⟨gl,0,none⟩=some (.slice AE n Y):=fun p=>(Ai.out.blk.below (aa T p)).cell 0; have f1:∀ p,(fM (.pointer (some ⟨w.heap.size,3,none⟩))).run prog (ab T p)=.ok (.agg CE) (ab T p):=fun p=>by rw [<-Ah.out]; exact kz (AH.out.below (aa T p))
   have AI:Hid (∀ w5,eD T w5->Calls prog 71 #[.slice AE n Y,.agg CE] w5 fun e w'=>∃ v,e=.returned v/\GR w5 w'/\w'.ownsRow base 36 5 v (aM (fun a b:Led.Entry × Value=>cE a.1 b.1) (o.entry,sv) false E).length (af ag (aM (fun a b:Led.Entry × Value=>cE a.1 b.1) (o.entry,sv) false E))):=hO fun w5 k=>by
    have H5:=Ai.out.below k; have ht:Es ag 5 w5 AE n E:=by
     obtain⟨A,n',c,e,_,ht⟩:=aY H5.rk.oE; injection e with e1 e2 e3
     subst e1 e2 e3; exact ht
    rw [<-Ah.out]; refine(scanEnt_any AE n Y E (o.entry,sv) w5 ht (by omega) (lc (oG (w:=w5) (E:=E) (fun p hp=>(H5.rk.sels p hp).at H5.hb))) (ent_one' (o.entry,sv) Ad.out.one)).mono ?_; rintro e w' ⟨v,he,ho,AW⟩; exact⟨v,he,GR.of AW,aG ho H5.hb⟩
   clear g Ab c0 HH Av Aw Z; go_upto_region 6 with fail
   refine aN [([0,1,2,3,4,5],(6,fun v w'=>w'.ownsRow base 36 5 v (aM (fun a b:Led.Entry × Value=>cE a.1 b.1) (o.entry,sv) false E).length (af ag (aM (fun a b:Led.Entry × Value=>cE a.1 b.1) (o.entry,sv) false E))))] [7] (by kernel_rfl) (by kernel_rfl) (by
    intro x hx; simp only [List.mem_cons,List.not_mem_nil,or_false] at hx; subst hx; exact ax fun v w w' k h=>ae h k eG) ?_
   refine aH ?_; simp only [pick,List.getD_cons_zero,List.getD_cons_succ]; repeat (go_big_quiet_step (fail))
   refine wpQuiet_nil ?_; refine⟨_,rfl,rfl,?_,?_⟩
   .intro w5 AX _
    go_simp
    exact⟨rfl,AI.out w5 AX.below⟩
   rintro v1 - w6 AJ hF; obtain⟨_,Ay⟩:=hF; obtain⟨A9,c9,rfl,_,_⟩:=ak Ay; have Aj:=AJ.below; have H6:=Ai.out.below Aj; have Ae:(aM (fun a b:Led.Entry × Value=>cE a.1 b.1) (o.entry,sv) false E).map Prod.fst=ins cE o.entry L.entries:=by rw [rG,H6.rk.ents,fS qE hL.e1]
   have Ao:(aM (fun a b:Led.Entry × Value=>cE a.1 b.1) (o.entry,sv) false E).length=(ins cE o.entry L.entries).length:=by rw [<-Ae,List.length_map]
   have q6:w6.cell? ⟨gl,0,none⟩=some (.slice AE n Y):=H6.blk.cell 0; have Bb:=H6.blk.froz 0; have Ap:=Ac.trans (Aj.mono Ac.size); have H7:=H6.setE (l:=ins cE o.entry L.entries) Ay Ae (fun p hp=>by
    rcases mh hp with rfl|h
    .exact Ad.out.chg (Chg.of_below (S:=[]) Aj) Far.none (Nat.le_trans HB.out Ac.size)
    .exact H6.rk.sels p h)
   have Ak:=(Ap.mono HB.out).setCell (p:=⟨gl,0,none⟩) H6.hg (.slice A9 (aM (fun a b:Led.Entry × Value=>cE a.1 b.1) (o.entry,sv) false E).length c9); have Al:=hO H7; have Aq:=hO Ao; clear f0 f1 AI Ai H6 H7 Ay AJ Aj AH Ad Ae Ao; obtain⟨m,hm⟩:=eA ((aM (fun a b:Led.Entry × Value=>cE a.1 b.1) (o.entry,sv) false E).length); rw [hm] at Al Ak Aq ⊢; have Ar:put cE 24 o.entry L.entries=if m<=24 then some (ins cE o.entry L.entries) else none:=by unfold put; rw [<-Aq.out]
   have HP:=hO Ar; clear hm Ar; by_cases AK:m<=24
   .have hz:¬ (24:Int)<(m:Int):=by omega
    have HE:Hid (R=({ L with entries:=ins cE o.entry L.entries },0)):=hO (by rw [HD.out]; unfold em; rw [HM.out,HP.out,if_pos AK]; rfl)
    have Af:Hid (bB base gl R w (.returned (.int .i64 0)) (w6.setCell ⟨gl,0,none⟩ (.slice A9 m c9))):=hO (by
     rw [HE.out]; exact⟨rfl,Ak,fun _=>⟨_,_,_,_,_,_,_,_,Al.out⟩⟩)
    clear Al Ak HD HP; go_wp2; (try rw [am])
    (try go_wp2)
    go_ret; exact Af.out
   .have hz:(24:Int)<(m:Int):=by omega
    have HE:Hid (R=(L,6)):=hO (by rw [HD.out]; unfold em; rw [HM.out,HP.out,if_neg AK]; rfl)
    clear Al Ak HD HP; go_wp2; (try rw [am])
    (try go_wp2)
    go_ret; exact bB.err (Ap.mono HB.out) HE.out (by decide)
 .have hd:R=fZ L o.n:=by
   rw [<-hR.out]; unfold does; rw [d.out]; rfl
  have HD:=hO hd; have AL:=hO HH.out.rk.ents; have hE:Es ag 5 W AE n E:=by
   obtain⟨A,n',c,e,_,ht⟩:=aY HH.out.rk.oE; injection e with e1 e2 e3
   subst e1 e2 e3; exact ht
  have Az:=hO hE; clear hd D I B C G q K Ab hE; go_wp2_with fail
  go_loopw [7] (fun i wr=>∃ j:Nat,j<=n/\i=.int .i64 (j:Int)/\eD W wr/\Hid (∀ x∈L.entries.take j,(x.n==o.n)=false)) (fun i _=>n - (intOf i).toNat)
  case atStart=>exact⟨0,by omega,rfl,Below.refl _ _,hO (by simp)⟩
  case round =>
   obtain⟨j,hj,rfl,k,HT⟩:=hrel; obtain⟨wx,AY⟩:∃ wx,wx=wr:=⟨_,rfl⟩; subst AY; have Hx:=HH.out.below k; have cg:wx.cell? ⟨gl,0,none⟩=some (.slice AE n Y):=Hx.blk.cell 0; have AM:=J.trans (k.mono J.size); by_cases A0:j<n
   .have AZ:(j:Int)<(n:Int):=by omega
    have Am:j<E.length:=by rw [HN.out]; exact A0
    have A3:j<L.entries.length:=by rw [Ax.out]; exact A0
    have As:L.entries[j]=E[j].1:=lS AL.out Am A3; obtain⟨b,Ag,e,h1,N⟩:=Az.out.lit aZ (by omega) Am; subst e; have f0:∀ p,(ab wx p).cell? ⟨gl,0,none⟩=some (.slice (some ⟨b,Ag,none⟩) n Y):=fun p=>(Hx.blk.below (aa wx p)).cell 0; have f1:∀ p,(ab wx p).cell? ⟨b,Ag+j * 5,none⟩=some (.int .i64 E[j].1.n):=fun p=>dZ aZ (by omega) Az.out Am (k.trans ((aa wx p).mono k.size)) (j:=0) rfl; have f2:∀ p,(ab wx p).cell? ⟨w.heap.size,1,none⟩=some (.int .i64 o.n):=fun p=>(Av.out.below (k.trans ((aa wx p).mono k.size))).cell 1; have V:=hO fun h=>dL (p:=fun e:Led.Entry=>e.n==o.n) A3 HT.out h; have X:=hO fun h=>gone_at (n:=o.n) A3 HT.out h; rw [As] at V X; clear N As; generalize E[j].1.n=en at *; clear Am; go_upto_region 15 with fail
    refine az ?_; repeat (go_big_quiet_step (fail))
    refine wpQuiet_nil ?_; rintro _ ⟨p,rfl⟩; have AN:=aa wx p; have An:=k.trans (AN.mono k.size); have AO:=f0 p; generalize ab wx p=w2 at *; clear f0 f1 f2 AN Hx cg AM k
    cases hq:(en==o.n)
    .have HX:=hO (V.out hq)
     clear V X HT; go_wp2_with fail
     go_roundw
     case rel=>exact⟨j+1,by omega,by go_num,An,HX⟩
     case measure=>simp [intOf]; omega
    .have HE:Hid (R=({ L with entries:=L.entries.take j++L.entries.drop (j+1) },0)):=hO (by rw [HD.out]; exact X.out hq)
     have H2:=HH.out.below An; have At:=J.trans (An.mono J.size); have AP:Es ag 5 w2 (some ⟨b,Ag,none⟩) n E:=Az.out.below An; obtain⟨A1,c1,A2,c2,B1,d1,w3,B2,d2,w4,s1,s2,AQ,Ba,AR,A4,AS⟩:=nP aZ (by omega) (t:=23) (e:=36) jN rfl underlying23 (by omega) AP (cap_of2 H2.rk.oE) (by omega) A0 (lc (oG (w:=w2) (E:=E) (fun p hp=>(H2.rk.sels p hp).at H2.hb))); have Bc:w3.cell? ⟨gl,0,none⟩=some (.slice (some ⟨b,Ag,none⟩) n Y):=(Ba.cell (p:=⟨gl,0,none⟩) H2.blk.lt).trans AO; have Bd:w4.cell? ⟨gl,0,none⟩=some (.slice (some ⟨b,Ag,none⟩) n Y):=(A4.cell (p:=⟨gl,0,none⟩) H2.blk.lt).trans AO; have H4:=H2.below A4; have Be:w4.frozen? ⟨gl,0,none⟩=false:=H4.blk.froz 0; have H5:=H4.setE (l:=L.entries.take j++L.entries.drop (j+1)) (aG AS H2.hb) (by rw [List.map_append,List.map_take,List.map_drop,AL.out]) (fun p hp=>H4.rk.sels p (by
      rcases List.mem_append.1 hp with h|h
      .exact List.mem_of_mem_take h
      .exact List.mem_of_mem_drop h))
     have AT:Below base w (w4.setCell ⟨gl,0,none⟩ (.slice B2 (n - 1) d2)):=((At.trans (A4.mono At.size)).mono HB.out).setCell (p:=⟨gl,0,none⟩) H4.hg _; have Af:Hid (bB base gl R w (.returned (.int .i64 0)) (w4.setCell ⟨gl,0,none⟩ (.slice B2 (n - 1) d2))):=hO (by
      rw [HE.out]; exact⟨rfl,AT,fun _=>⟨_,_,_,_,_,_,_,_,H5⟩⟩)
     have Bf:(j:Int)+1<=9223372036854775807:=by omega
     clear V X HT HD H2 H4 H5 AT AS AP; go_wp2_with (at_builtin; first|refine Lib.wpList_append_run _ rfl _ _ _ _ rfl _ _ rfl rfl _ _ AQ ?_|refine Lib.wpList_append_run _ rfl _ _ _ _ rfl _ _ rfl rfl _ _ AR ?_)
     go_ret; exact Af.out
   .have AZ:¬ (j:Int)<(n:Int):=by omega
    have HE:Hid (R=(L,7)):=hO (by
     have h:=HT.out; rw [List.take_of_length_le (by rw [Ax.out]; omega)] at h
     rw [HD.out]; unfold fZ; rw [if_neg]; rw [Bool.not_eq_true,List.any_eq_false]; intro x hx; rw [h x hx]; simp)
    clear HT HD Hx; go_wp2_with fail
    go_ret; exact bB.err (AM.mono HB.out) HE.out (by decide)
 .clear Ab
  rcases f with rfl|rfl|rfl|rfl|rfl|rfl|rfl|rfl|rfl|rfl|rfl|rfl
  .have Q:=(D.out (by omega))
   clear D I B C G K; go_wp2_with fail
   refine Q.mono ?_; rintro e T ⟨rfl,N,O⟩; go_wp2; go_ret; exact⟨rfl,N,O⟩
  .have Q:=(D.out (by omega))
   clear D I B C G K; go_wp2_with fail
   refine Q.mono ?_; rintro e T ⟨rfl,N,O⟩; go_wp2; go_ret; exact⟨rfl,N,O⟩
  .have h:R=aX L o.node:=by
    rw [<-hR.out]; unfold does; rw [d.out]; rfl
   have Q:=I.out; rw [<-h] at Q; clear h D I B C G q; go_wp2_with fail
   refine Q.mono ?_; rintro e T ⟨rfl,N,O⟩; go_wp2; go_ret; exact⟨rfl,N,O⟩
  .have Q:=(B.out (by omega))
   clear D I B C G K; go_wp2_with fail
   refine Q.mono ?_; rintro e T ⟨rfl,N,O⟩; go_wp2; go_ret; exact⟨rfl,N,O⟩
  .have Q:=(B.out (by omega))
   clear D I B C G K; go_wp2_with fail
   refine Q.mono ?_; rintro e T ⟨rfl,N,O⟩; go_wp2; go_ret; exact⟨rfl,N,O⟩
  .have Q:=(B.out (by omega))
   clear D I B C G K; go_wp2_with fail
   refine Q.mono ?_; rintro e T ⟨rfl,N,O⟩; go_wp2; go_ret; exact⟨rfl,N,O⟩
  .have Q:=(C.out (by omega))
   clear D I B C G K; go_wp2_with fail
   refine Q.mono ?_; rintro e T ⟨rfl,N,O⟩; go_wp2; go_ret; exact⟨rfl,N,O⟩
  .have Q:=(C.out (by omega))
   clear D I B C G K; go_wp2_with fail
   refine Q.mono ?_; rintro e T ⟨rfl,N,O⟩; go_wp2; go_ret; exact⟨rfl,N,O⟩
  .have Q:=(C.out (by omega))
   clear D I B C G K; go_wp2_with fail
   refine Q.mono ?_; rintro e T ⟨rfl,N,O⟩; go_wp2; go_ret; exact⟨rfl,N,O⟩
  .have Q:=(G.out (by omega))
   clear D I B C G K; go_wp2_with fail
   refine Q.mono ?_; rintro e T ⟨rfl,N,O⟩; go_wp2; go_ret; exact⟨rfl,N,O⟩
  .have Q:=(G.out (by omega))
   clear D I B C G K; go_wp2_with fail
   refine Q.mono ?_; rintro e T ⟨rfl,N,O⟩; go_wp2; go_ret; exact⟨rfl,N,O⟩
  .have Q:=(B.out (by omega))
   clear D I B C G K; go_wp2_with fail
   refine Q.mono ?_; rintro e T ⟨rfl,N,O⟩; go_wp2; go_ret; exact⟨rfl,N,O⟩
 .have HE:Hid (R=(L,1)):=hO (by
   rw [<-hR.out]; unfold does; rw [d.out]; obtain⟨h1,N,O,h4,h5,h6,h7,h8,h9,A5,A6,A7,A8,AA⟩:=f; simp only [beq_eq_false_iff_ne] at h1 N O h4 h5 h6 h7 h8 h9 A5 A6 A7 A8 AA; simp only [h1,N,O,h4,h5,h6,h7,h8,h9,A5,A6,A7,A8,AA,if_false])
  obtain⟨h1,N,O,h4,h5,h6,h7,h8,h9,A5,A6,A7,A8,AA⟩:=f; clear D I B C G q K Ab; go_wp2_with fail
  go_ret; exact bB.err (J.mono HB.out) HE.out (by decide)
end
section
open Go.RowKit Mem Led
def lvA:Txt:=[47,97,103,101,110,116,47,97]
def tJ:Led.Op:={ lv with kind:=2,n:=5 }
def nV:Led.Op:={ lv with kind:=6,name:=lvA }
def lvM:Led.Ledger:={ none' with bans:=[lvA] }
theorem rQ:Ids.agent lvA=true:=by decide +kernel
theorem lv1(ok:Bool):does ok none' tJ=(none',7):=rfl
theorem lv2(ok:Bool):does ok none' nV=(lvM,0):=by
 show cX none' lvA=_
 unfold cX
 rw [rQ]
 rfl
theorem lv3(ok:Bool):does ok lvM nV=(lvM,8):=by
 show cX lvM lvA=_
 unfold cX
 rw [rQ]
 rfl
theorem pT:Sized tJ/\Sized nV:=by
 constructor <;> constructor <;> first|decide|(intro x hx; cases hx)
theorem lvM_wf:lvM.Wf:=by
 have:=oR (ok:=true) (L:=none') (o:=nV) oI (by decide) (by decide)
 rwa [lv2] at this
theorem lv_lg(w:World):cZ w (aE (.slice none 0 0)) none' [] []:=by
 have e:∀ {α:Type} (enc:α->List Value) (k:Nat),a8 enc k w (.slice none 0 0) []:=fun enc k=>⟨none,0,0,rfl,⟨by omega,by omega,fun _=>rfl⟩,Es.empty _ _⟩
 exact⟨⟨_,_,_,_,_,_,rfl,e _ _,e _ _,⟨none,0,0,rfl,⟨by omega,by omega,fun _=>rfl⟩,Ts.empty _ _⟩,e _ _,e _ _,e _ _⟩,rfl,rfl,fun p A=>(by cases A),fun p A=>(by cases A)⟩
theorem pU(w:World):bm w (.slice none 0 0) ([]:List Txt)/\a8 aV 2 w (.slice none 0 0) []/\cZ w (aE (.slice none 0 0)) none' [] [] :=
 ⟨⟨none,0,0,rfl,⟨by omega,by omega,fun _=>rfl⟩,Ts.empty _ _⟩,⟨none,0,0,rfl,⟨by omega,by omega,fun _=>rfl⟩,Es.empty _ _⟩,lv_lg w⟩
def oL (o:Led.Op):List Value:=ah o (.slice none 0 0) (.slice none 0 0)
theorem lv_ap(o:Led.Op) (cs:List Value) (L L':Led.Ledger) (D:Int) (E:List (Led.Entry × Value)) (U:List (Led.Bundle × Value)) (w:World) (I:Tab Sha.kkL w) (J:Sized o) (C:o.kind<=100) (K:o.entry.sels=[]) (F:o.bundle.keys=[]) (M:cZ w cs L E U) (N:L.Wf) (hd:∀ ok,does ok L o=(L',D)) :
  Calls prog 14 #[.agg cs.toArray,.agg (oL o).toArray] w fun e w'=>∃ vE vN A c vJ vK vU G H,e=.returned (.tuple #[.agg #[vE,vN,.slice A L'.bans.length c,vJ,vK,vU],.int .i64 D])/\(∀ v∈[vE,vN,.slice A L'.bans.length c,vJ,vK,vU],v.oneCell'=true)/\cZ w' [vE,vN,.slice A L'.bans.length c,vJ,vK,vU] L' G H/\eD w w':=by
 refine(iw cs L E U o _ _ w M N J C (by rw [K]; exact(pU w).1) (by rw [F]; exact(pU w).2.1) (by rw [F]; intro k C; cases C) I).mono ?_
 rintro e w' ⟨r,rfl,vE,vN,vB,vJ,vK,vU,G,H,rfl,B,O⟩
 rw [jU] at B
 rw [hd] at B ⊢
 obtain⟨A,c,rfl,_⟩:=ak B.oB
 exact⟨_,_,_,_,_,_,_,_,_,rfl,B.ones,B.at,O⟩
theorem pV(w:World) (cs:List Value) (h:cs.length=6) (D:∀ v∈cs,v.oneCell'=true) :
  ∃ A,(gQ (.pointer (some ⟨w.heap.size,0,none⟩)) (.agg cs.toArray)).run prog (w.alloc (.cells #[.slice none 0 0,.slice none 0 0,.slice none 0 0,.slice none 0 0,.slice none 0 0,.slice none 0 0] 30))=.ok () A/\Blk A w.heap.size cs 30/\eD w A:=by
 have E:=Blk.new w (aE (.slice none 0 0)) 30
 obtain⟨B,F⟩:=cH E rfl h D
 have C:Chg [] w ((w.alloc (.cells (aE (.slice none 0 0)).toArray 30)).setCells w.heap.size 0 cs):=((Chg.refl _ _).alloc _).setCells _ (.inr eG)
 exact⟨_,B,F,C.below (fun _ h=>by cases h)⟩
theorem jK(w:World) (j:Tab Sha.kkL w):Calls prog 12 #[] w fun e w'=>e=.returned (.bool true)/\eD w w':=by
 obtain⟨u,C⟩:=eA (w.alloc (.cells (aE (.slice none 0 0)).toArray 30))
 have R:=ed.new w
 have F:eD w u:=eF C
 rw [C] at R
 have x:=R.blk
 have D:=R.load
 have g:=lv_ap tJ _ _ _ _ _ _ u (j.below F) pT.1 (by decide) rfl rfl R.at_ oI lv1
 rw [<-C] at D
 have L:=hO C
 clear C R
 unfold aE at D L g
 unfold oL tJ ah lv at g
 go_enter func12,ntmps12
 go_wp2_with fail
 rw [L.out]
 refine g.mono ?_
 rintro e y ⟨Aa,Ab,A1,c1,Ac,Ad,Ae,E1,U1,rfl,S,T,M⟩
 clear D L g
 have G:eD w y:=F.trans (M.mono F.size)
 have z:=x.below M
 obtain⟨k,l,B2,N⟩:=pV y _ rfl S
 have E:eD w k:=G.trans (N.mono G.size)
 have b2:=z.below N
 have H:=dD b2 rfl
 have h:=lv_ap nV _ _ _ _ _ _ k (j.below E) pT.2 (by decide) rfl rfl (pU k).2.2 oI lv2
 unfold aE at H h
 unfold oL nV ah lv at h
 clear T S z B2 F x M
 go_wp2_with fail
 refine h.mono ?_
 rintro e m ⟨n,o,A,c,q,r,s,E3,U3,rfl,U,I,V⟩
 have J:eD w m:=E.trans (V.mono E.size)
 obtain⟨w4,X,t,Y⟩:=pV m _ rfl U
 have B:eD w w4:=J.trans (Y.mono J.size)
 have K:=dD t rfl
 have i:=lv_ap nV _ _ _ _ _ _ w4 (j.below B) pT.2 (by decide) rfl rfl (I.below Y) lvM_wf lv3
 unfold oL nV ah lv at i
 clear I U l H b2 N V h
 obtain⟨CS,O⟩:=eC (#[n,o,.slice A lvM.bans.length c,q,r,s])
 rw [O.out] at X K i
 rw [O.out]
 go_wp2_with fail
 refine i.mono ?_
 rintro e w5 ⟨Af,Ag,A5,c5,Ah,Ai,Aj,E5,U5,rfl,Z,b,Q⟩
 obtain⟨w6,Ak,B6,d⟩:=pV w5 _ rfl Z
 have b4:=(t.below Q).below d
 have m4:w6.cell? ⟨m.heap.size,2,none⟩=some (.slice A 1 c):=b4.cell 2
 have f:eD w w6:=(B.trans (Q.mono B.size)).trans (d.mono (Nat.le_trans B.size Q.size))
 clear X K O i t B6 b4 b Z
 go_wp2
 go_ret
 exact⟨rfl,f⟩
end
section
open Go.RowKit Mem Led
def RApplied (r:Led.Ledger × Int) (w:World) (x:Ending) (w':World):Prop :=
 ∃ cs E U,x=.returned (.tuple #[.agg cs.toArray,.int .i64 r.2])/\(∀ v∈cs,v.oneCell'=true)/\cZ w' cs r.1 E U/\fl w' cs E U/\eD w w'
theorem cZ.ones{w:World} {cs:List Value} {L:Led.Ledger} {E:List (Led.Entry × Value)} {U:List (Led.Bundle × Value)} (h:cZ w cs L E U):∀ v∈cs,v.oneCell'=true:=by
 obtain⟨⟨vE,vN,vB,vJ,vK,vU,rfl,⟨_,_,_,rfl,_⟩,⟨_,_,_,rfl,_⟩,⟨_,_,_,rfl,_⟩,⟨_,_,_,rfl,_⟩,⟨_,_,_,rfl,_⟩,⟨_,_,_,rfl,_⟩⟩,_⟩:=h
 intro v A
 simp only [List.mem_cons,List.not_mem_nil,or_false] at A
 rcases A with rfl|rfl|rfl|rfl|rfl|rfl <;> rfl
theorem Vs.past{w w':World} {B size n g:Nat} {A:Option Addr} {xs M:List Value} {t:TypeId} (h:Vs w B size A n xs) (hx:∀ u,xs[0]?=some u->∀ A n c,u≠.slice A n c) (H:Chg [g] w w') (O:B<=w.heap.size) (I:Blk w g M t) (J:∀ u∈M,∃ A n c,u=.slice A n c):Vs w' B size A n xs:=by
 refine⟨h.len,fun j u E=>?_⟩
 obtain⟨Q,e,K,F⟩:=h.rd j u E
 have R:=(List.getElem?_eq_some_iff.1 E).1
 obtain⟨b,G,e2,L,C⟩:=Vs.lit h (by omega)
 rw [e2] at e
 injection e with e
 subst e
 refine⟨_,e2,K,?_⟩
 have N:=C j u E
 rw [Addr.add_lit]
 have D:b≠g:=fun D=>by
  subst D; have h0:=C 0 _ (List.getElem?_eq_getElem (show 0<xs.length by omega)); rw [I.cell] at h0; obtain⟨S,n',T,e'⟩:=J _ (List.mem_of_getElem? h0); exact hx _ (List.getElem?_eq_getElem (show 0<xs.length by omega)) _ _ _ e'
 exact(World.cell?_of_block (a:=⟨b,G+j,none⟩) (H.block b (by omega) (by simpa using D))).trans N
theorem a8.past{α:Type} {enc:α->List Value} {k:Nat} (E:∀ x,∃ u r,enc x=u::r/\∀ A n c,u≠.slice A n c) {w w':World} {g:Nat} {M:List Value} {t:TypeId} {v:Value} {L:List α} (h:a8 enc k w v L) (D:Chg [g] w w') (F:Blk w g M t) (G:∀ u∈M,∃ A n c,u=.slice A n c):a8 enc k w' v L:=by
 obtain⟨A,n,c,H,I,C⟩:=h
 have C:Vs w w.heap.size k A n (af enc L):=C
 refine⟨A,n,c,H,I,(Vs.past C (fun u B=>?_) D eG F G).mono D.size⟩
 cases L with
 | nil=>simp [af] at B
 | cons x l =>
  obtain⟨K,r,e,J⟩:=E x; rw [bT,e] at B; simp only [List.cons_append,List.getElem?_cons_zero,Option.some.injEq] at B; rw [<-B]; exact J
theorem bm.past{w w':World} {g:Nat} {M:List Value} {t:TypeId} {v:Value} {L:List Txt} (h:bm w v L) (C:Chg [g] w w') (D:Blk w g M t) (E:∀ u∈M,∃ A n c,u=.slice A n c):bm w' v L:=by
 obtain⟨A,n,c,F,G,B⟩:=h
 have B:Vs w w.heap.size 1 A n (tv L):=B
 refine⟨A,n,c,F,G,(Vs.past B (fun u H=>?_) C eG D E).mono C.size⟩
 obtain⟨x,_,rfl⟩:=List.mem_map.1 (List.mem_of_getElem? H)
 intro A n c e
 cases e
theorem cZ.slices{w:World} {cs:List Value} {L:Led.Ledger} {E:List (Led.Entry × Value)} {U:List (Led.Bundle × Value)} (h:cZ w cs L E U):∀ v∈cs,∃ A n c,v=.slice A n c:=by
 obtain⟨⟨vE,vN,vB,vJ,vK,vU,rfl,⟨_,_,_,rfl,_⟩,⟨_,_,_,rfl,_⟩,⟨_,_,_,rfl,_⟩,⟨_,_,_,rfl,_⟩,⟨_,_,_,rfl,_⟩,⟨_,_,_,rfl,_⟩⟩,_⟩:=h
 intro v B
 simp only [List.mem_cons,List.not_mem_nil,or_false] at B
 rcases B with rfl|rfl|rfl|rfl|rfl|rfl <;> exact⟨_,_,_,rfl⟩
theorem cZ.past{w w':World} {cs M:List Value} {L:Led.Ledger} {E:List (Led.Entry × Value)} {U:List (Led.Bundle × Value)} {g:Nat} {t:TypeId} (h:cZ w cs L E U) (B:Chg [g] w w') (C:Blk w g M t) (D:∀ u∈M,∃ A n c,u=.slice A n c):cZ w' cs L E U:=by
 obtain⟨⟨vE,vN,vB,vJ,vK,vU,h0,G,H,I,J,K,N⟩,e,u,s,k⟩:=h
 exact⟨⟨vE,vN,vB,vJ,vK,vU,h0,G.past (fun x=>⟨_,_,rfl,fun _ _ _ e=>by cases e⟩) B C D,H.past (fun x=>⟨_,_,rfl,fun _ _ _ e=>by cases e⟩) B C D,I.past B C D,J.past (fun x=>⟨_,_,rfl,fun _ _ _ e=>by cases e⟩) B C D,K.past (fun x=>⟨_,_,rfl,fun _ _ _ e=>by cases e⟩) B C D,N.past (fun x=>⟨_,_,rfl,fun _ _ _ e=>by cases e⟩) B C D⟩,e,u,fun p F=>(s p F).past B C D,fun p F=>(k p F).past (fun x=>⟨_,_,rfl,fun _ _ _ e=>by cases e⟩) B C D⟩
theorem rapply_any(cs:List Value) (L:Led.Ledger) (E:List (Led.Entry × Value)) (U:List (Led.Bundle × Value)) (o:Led.Op) (sv kv:Value) (w:World) (hL:cZ w cs L E U) (hW:L.Wf) (ho:Sized o) (m:bm w sv o.entry.sels) (q:a8 aV 2 w kv o.bundle.keys) (hN:fl w cs E U) (s:Nop w sv) (t:Nop w kv) :
  Calls prog 23 #[.agg cs.toArray,.agg (ah o sv kv).toArray] w (RApplied (does (aD o.bundle) L o) w):=by
 obtain⟨W,F⟩:=eA (((w.alloc (.cells cs.toArray 30)).alloc (.cells (ah o sv kv).toArray 47)).alloc (.cells (aE (.slice none 0 0)).toArray 30))
 have b0:Blk W w.heap.size cs 30:=by rw [<-F]; exact((Blk.new _ _ _).alloc _).alloc _
 have b1:Blk W (w.heap.size+1) (ah o sv kv) 47:=by
  have:=Blk.new (w.alloc (.cells cs.toArray 30)) (ah o sv kv) 47; rw [<-F]; exact Blk.alloc (by simpa using this) _
 have b2:Blk W (w.heap.size+2) (aE (.slice none 0 0)) 30:=by
  have:=Blk.new ((w.alloc (.cells cs.toArray 30)).alloc (.cells (ah o sv kv).toArray 47)) (aE (.slice none 0 0)) 30; rw [<-F]; simpa using this
 have A:eD w W:=by rw [<-F]; exact(eH.alloc (by simp) _).alloc (by simp; omega) _
 have Ar:W.heap.size=w.heap.size+3:=by rw [<-F]; simp
 have R:=rcopy_any cs L E U W (hL.below A) hW.small (hN.below A).2.2
 have u:=dD b0 hL.len
 have x:NT W.heap.size W sv o.entry.sels:=NT.old (m.below A) (s.below A)
 have y:NK W.heap.size W kv o.bundle.keys:=NK.old (q.below A) (t.below A)
 have z:=hO F
 unfold aE at z
 clear F
 obtain⟨CL,Aa⟩:=eC (cs.toArray)
 rw [Aa.out] at z R u ⊢
 obtain⟨CS,T⟩:=eC ((ah o sv kv).toArray)
 rw [T.out] at z ⊢
 obtain⟨r,hr⟩:=eC (does (aD o.bundle) L o)
 have Ab:Hid (r.2=0\/r.1=L):=hO (by
  rw [<-hr.out]; rcases does_or (aD o.bundle) L o with h|h
  .exact .inr h
  .exact .inl h)
 have Ag:=hO b0
 have Ah:=hO b1
 have Ai:=hO b2
 have Aj:=hO x
 have Ak:=hO y
 have V:=hO hL
 have Al:=hO hN
 rw [hr.out]
 clear b0 b1 b2 x y hL m q hN s t
 go_enter func23,ntmps23
 go_upto_region 1 with fail
 rw [z.out]
 clear z
 go_wp2_with fail
 refine R.mono ?_
 rintro e w1 ⟨vE,vN,vB,vJ,vK,vU,E1,rfl,X,M⟩
 obtain⟨w2,Am,B2,Y⟩:=pV w1 [vE,vN,vB,vJ,vK,vU] rfl X.ones
 have B:=M.trans (Y.mono M.size)
 have Ap:=A.trans (B.mono A.size)
 have C:RAt W.heap.size w1.heap.size w2 vE vN vB vJ vK vU L E1 U:=⟨B.size,M.size,X.below Y M.size,B2⟩
 have Z:=rdoes_any o sv kv w2 C hW ho (Aj.out.chg (Chg.of_below (S:=[]) B) Far.none eG) (Ak.out.chg (Chg.of_below (S:=[]) B) (by simp) eG)
 rw [hr.out,T.out] at Z
 have Ac:=fy (Ah.out.below B) rfl
 rw [T.out] at Ac
 clear R u C B2 Y X
 go_wp2_with fail
 refine Z.mono ?_
 rintro e w3 ⟨rfl,An,Ad⟩
 have I:eD W w3:=B.trans An
 have Q:=A.trans (I.mono A.size)
 have q0:=Ag.out.below I
 have q2:=Ai.out.below I
 have N:=hO Ad
 clear Ad Z Ac Am
 obtain⟨en,b⟩:=eC (r.2)
 rw [b.out] at N Ab ⊢
 by_cases hz:en=0
 .subst hz
  obtain⟨c,d,f,g,i,j,E',U',C⟩:=N.out rfl; have Aq:=dD C.blk rfl; obtain⟨O,K⟩:=cH q2 rfl (vs:=[c,d,f,g,i,j]) rfl C.rk.ones; obtain⟨l,G⟩:=eA (w3.setCells (w.heap.size+2) 0 [c,d,f,g,i,j]); have H:Chg [w.heap.size+2] w3 l:=by rw [<-G]; exact(Chg.refl _ _).setCells _ (.inl (by simp))
  rw [G] at O K; have Ae:cZ l [c,d,f,g,i,j] r.1 E' U':=(C.rk.at C.hb).past H q2 (by simp [aE]); have Af:=C.rk.nops.turn H K (by decide); have k:=hO Af; have hH:=K.has (n:=6) rfl; have hA:=K.arr (n:=6) rfl; have D:eD w l:=((Chg.of_below (S:=[w.heap.size+2]) Q).and H).below' eG (by simp); have J:=hO Ae; clear G H K C Ae Af N q0; go_wp2; refine bodyPost_ret (fo (P:=prog) Tryz.results23 _ _ (w.heap.size+2) 0 6 _ rfl underlying30 rfl bQ hH) rfl ?_; exact⟨_,E',U',by rw [hA,b.out]; rfl,J.out.ones,J.out,k.out,D⟩
 .have As:(en != 0)=true:=by simpa using hz
  have hE:r.1=L:=by
   rcases Ab.out with h|h
   .contradiction
   .exact h
  have Ao:=dD q0 V.out.len; obtain⟨O,K⟩:=cH q2 rfl (vs:=cs) V.out.len V.out.ones; obtain⟨l,G⟩:=eA (w3.setCells (w.heap.size+2) 0 cs); have H:Chg [w.heap.size+2] w3 l:=by rw [<-G]; exact(Chg.refl _ _).setCells _ (.inl (by simp))
  rw [G] at O K; have hH:=K.has (n:=6) V.out.len; have hA:=K.arr (n:=6) V.out.len; have D:eD w l:=((Chg.of_below (S:=[w.heap.size+2]) Q).and H).below' eG (by simp); have J:=hO (V.out.below D); have k:=hO (Al.out.below D); rw [<-hE] at J; rw [Aa.out] at Ao O; clear G H K N hE hz; go_wp2; refine bodyPost_ret (fo (P:=prog) Tryz.results23 _ _ (w.heap.size+2) 0 6 _ rfl underlying30 rfl bQ hH) rfl ?_; exact⟨cs,E,U,by rw [hA,b.out]; rfl,V.out.ones,J.out,k.out,D⟩
end
section
open Go.RowKit Mem Led
theorem mw(cs At:List Value) (L:Led.Ledger) (E E':List (Led.Entry × Value)) (U U':List (Led.Bundle × Value)) (w:World) (h:cZ w cs L E U) (h':cZ w At L E' U') :
  Calls prog 15 #[.agg cs.toArray,.agg At.toArray] w fun e w'=>e=.returned (.bool true)/\eD w w':=by
 obtain⟨⟨vE,vN,vB,vJ,vK,vU,rfl,⟨A1,n1,c1,rfl,f1,x1⟩,⟨A2,n2,c2,rfl,f2,x2⟩,⟨A3,n3,c3,rfl,f3,x3⟩,⟨A4,o,c4,rfl,f4,x4⟩,⟨A5,q,c5,rfl,f5,x5⟩,⟨A6,s,c6,rfl,f6,x6⟩⟩,eE,eU,sE,sU⟩:=h
 obtain⟨⟨vE,vN,vB,vJ,vK,vU,rfl,⟨B1,m1,d1,rfl,g1,y1⟩,⟨B2,m2,d2,rfl,g2,y2⟩,⟨B3,m3,d3,rfl,g3,y3⟩,⟨B4,m4,d4,rfl,g4,y4⟩,⟨B5,m5,d5,rfl,g5,y5⟩,⟨B6,m6,d6,rfl,g6,y6⟩⟩,Au,Av,A0,A7⟩:=h'
 have l1:=x1.len aZ (by decide)
 have l6:=x6.len aU (by decide)
 have Ao:E.length=L.entries.length:=by rw [<-eE,List.length_map]
 have Ap:E'.length=L.entries.length:=by rw [<-Au,List.length_map]
 have Aq:U.length=L.bundles.length:=by rw [<-eU,List.length_map]
 have Ar:U'.length=L.bundles.length:=by rw [<-Av,List.length_map]
 obtain rfl:n1=m1:=by rw [<-l1,Ao,<-Ap]; exact y1.len aZ (by decide)
 obtain rfl:s=m6:=by rw [<-l6,Aq,<-Ar]; exact y6.len aU (by decide)
 have l2:=x2.len aR (by decide)
 have l4:=x4.len a9 (by decide)
 have l5:=x5.len aP (by decide)
 obtain rfl:n2=m2:=l2.symm.trans (y2.len aR (by decide))
 obtain rfl:o=m4:=l4.symm.trans (y4.len a9 (by decide))
 obtain rfl:q=m5:=l5.symm.trans (y5.len aP (by decide))
 have Am:=fun W C=>pk A3 n3 c3 L.bans B3 m3 d3 L.bans W (Ts.below x3 C) (Ts.below y3 C) (Nat.le_trans f3.1 f3.2.1) (Nat.le_trans g3.1 g3.2.1)
 have z1:n1<=9223372036854775807:=Nat.le_trans f1.1 f1.2.1
 have z2:n2<=9223372036854775807:=Nat.le_trans f2.1 f2.2.1
 have z4:o<=9223372036854775807:=Nat.le_trans f4.1 f4.2.1
 have z5:q<=9223372036854775807:=Nat.le_trans f5.1 f5.2.1
 have z6:s<=9223372036854775807:=Nat.le_trans f6.1 f6.2.1
 clear f1 g1 f2 g2 f3 g3 f4 g4 f5 g5 f6 g6
 obtain⟨Z1,Aw⟩:∃ Z,Hid (([.slice A1 n1 c1,.slice A2 n2 c2,.slice A3 n3 c3,.slice A4 o c4,.slice A5 q c5,.slice A6 s c6]:List Value)=Z):=⟨_,hO rfl⟩
 obtain⟨Z2,Ax⟩:∃ Z,Hid (([.slice B1 n1 d1,.slice B2 n2 d2,.slice B3 m3 d3,.slice B4 o d4,.slice B5 q d5,.slice B6 s d6]:List Value)=Z):=⟨_,hO rfl⟩
 have f:=hO fun (W:World) (C:Blk W w.heap.size Z1 30)=>show W.cell? ⟨w.heap.size,0,none⟩=some (.slice A1 n1 c1)/\W.cell? ⟨w.heap.size,1,none⟩=some (.slice A2 n2 c2)/\W.cell? ⟨w.heap.size,2,none⟩=some (.slice A3 n3 c3)/\W.cell? ⟨w.heap.size,3,none⟩=some (.slice A4 o c4)/\W.cell? ⟨w.heap.size,4,none⟩=some (.slice A5 q c5)/\W.cell? ⟨w.heap.size,5,none⟩=some (.slice A6 s c6) by
  rw [<-Aw.out] at C; exact⟨C.cell 0,C.cell 1,C.cell 2,C.cell 3,C.cell 4,C.cell 5⟩
 have u:=hO fun (W:World) (C:Blk W (w.heap.size+1) Z2 30)=>show W.cell? ⟨w.heap.size+1,0,none⟩=some (.slice B1 n1 d1)/\W.cell? ⟨w.heap.size+1,1,none⟩=some (.slice B2 n2 d2)/\W.cell? ⟨w.heap.size+1,2,none⟩=some (.slice B3 m3 d3)/\W.cell? ⟨w.heap.size+1,3,none⟩=some (.slice B4 o d4)/\W.cell? ⟨w.heap.size+1,4,none⟩=some (.slice B5 q d5)/\W.cell? ⟨w.heap.size+1,5,none⟩=some (.slice B6 s d6) by
  rw [<-Ax.out] at C; exact⟨C.cell 0,C.cell 1,C.cell 2,C.cell 3,C.cell 4,C.cell 5⟩
 have Ab:=hO (And.intro l1 (And.intro l2 (And.intro l4 (And.intro l5 l6))))
 have Aj:=hO (And.intro Ao (And.intro Ap (And.intro Aq Ar)))
 clear l1 l2 l4 l5 l6 Ao Ap Aq Ar
 obtain⟨W,hW⟩:=eA ((w.alloc (.cells Z1.toArray 30)).alloc (.cells Z2.toArray 30))
 have b0:Blk W w.heap.size Z1 30:=by rw [<-hW]; exact(Blk.new w Z1 _).alloc _
 have b1:Blk W (w.heap.size+1) Z2 30:=by
  have:=Blk.new (w.alloc (.cells Z1.toArray 30)) Z2 30; rw [<-hW]; simpa using this
 have Ak:eD w W:=by rw [<-hW]; exact eH.alloc (by simp) _
 have g:=Am W Ak
 clear Am
 rw [show decide (L.bans=L.bans)=true from decide_eq_true rfl] at g
 rw [<-Aw.out,<-Ax.out] at hW
 have HW:=hO hW
 obtain⟨F,M,R,N,O,Q⟩:=f.out W b0
 obtain⟨T,p1,p2,p3,p4,p5⟩:=u.out W b1
 clear hW F T M p1 N p3 O p4 Q p5
 go_enter func15,ntmps15
 go_upto_region 1 with fail
 rw [HW.out]
 go_wp2_with fail
 refine g.mono ?_
 rintro e w1 ⟨rfl,Al⟩
 have C:eD w w1:=Ak.trans (Al.mono Ak.size)
 have D:=b0.below Al
 have H:=b1.below Al
 clear Al b0 b1 Ak HW g R p2
 obtain⟨F,M,R,N,O,Q⟩:=f.out w1 D
 obtain⟨T,p1,p2,p3,p4,p5⟩:=u.out w1 H
 go_wp2_with fail
 clear F T M p1 R p2 N p3 O p4 Q p5
 go_loopw [6,7,8,9] (fun i _ _ _ wr=>∃ k:Nat,k<=n1/\i=.int .i64 k/\eD w wr/\Blk wr w.heap.size Z1 30/\Blk wr (w.heap.size+1) Z2 30) (fun i _ _ _ _=>n1 - (intOf i).toNat)
 case atStart=>exact⟨0,by omega,rfl,C,D,H⟩
 case round =>
  clear C D H; obtain⟨k,hk,rfl,C,D,H⟩:=hrel; obtain⟨wx,Y⟩:∃ wx,wx=wr:=⟨_,rfl⟩; subst Y; by_cases b:k<n1
  .obtain⟨F,-⟩:=f.out wx D
   obtain⟨T,-⟩:=u.out wx H; have c:k<E.length:=by rw [Ab.out.1]; exact b
   have I:k<L.entries.length:=by rw [<-Aj.out.1]; exact c
   have S:k<E'.length:=by rw [Aj.out.2.1]; exact I
   have hf:=lS eE c I; have j:=lS Au S I; obtain⟨V,X,rfl,t,B⟩:=kC (x1.below C) c; obtain⟨J,K,rfl,d,A⟩:=kC (y1.below C) S; have u0:=B wx (Below.refl _ _); have v0:=A wx (Below.refl _ _); obtain⟨SA,sn,sc,Ac,Ad,y⟩:=(sE E[k] (List.getElem_mem c)).below C; obtain⟨SB,tn,tc,Ae,Af,z⟩:=(A0 E'[k] (List.getElem_mem S)).below C; rw [<-hf] at y; rw [<-j] at z; have hr:ag E[k]=ag (L.entries[k],.slice SA sn sc):=by rw [hf,<-Ac]
   have Aa:ag E'[k]=ag (L.entries[k],.slice SB tn tc):=by rw [j,<-Ae]
   rw [hr] at u0; rw [Aa] at v0; generalize L.entries[k]=x at *; have hi:(k:Int)<(n1:Int):=by omega
   have AB:=D.lt; have AC:=H.lt; obtain⟨Ay,C1⟩:=store_ent (Blk.new wx [.int .i64 0,.string ⟨#[]⟩,.string ⟨#[]⟩,.int .i64 0,.slice none 0 0] 36) rfl (vs:=ag (x,.slice SA sn sc)) rfl (jR _ rfl); have Ag:eD wx ((wx.alloc (.cells #[.int .i64 0,.string ⟨#[]⟩,.string ⟨#[]⟩,.int .i64 0,.slice none 0 0] 36)).setCells wx.heap.size 0 (ag (x,.slice SA sn sc))):=(((Chg.refl _ _).alloc _).setCells _ (.inr eG):Chg [] wx _).below (fun _ h=>by cases h); have hz:((wx.alloc (.cells #[.int .i64 0,.string ⟨#[]⟩,.string ⟨#[]⟩,.int .i64 0,.slice none 0 0] 36)).setCells wx.heap.size 0 (ag (x,.slice SA sn sc))).heap.size=wx.heap.size+1:=by simp [ag,World.setCells]
   generalize (wx.alloc (.cells #[.int .i64 0,.string ⟨#[]⟩,.string ⟨#[]⟩,.int .i64 0,.slice none 0 0] 36)).setCells wx.heap.size 0 (ag (x,.slice SA sn sc))=V1 at *; obtain⟨An,e1⟩:=store_ent (Blk.new V1 [.int .i64 0,.string ⟨#[]⟩,.string ⟨#[]⟩,.int .i64 0,.slice none 0 0] 36) rfl (vs:=ag (x,.slice SB tn tc)) rfl (jR _ rfl); rw [hz] at e1 An; have As:Chg [] V1 ((V1.alloc (.cells #[.int .i64 0,.string ⟨#[]⟩,.string ⟨#[]⟩,.int .i64 0,.slice none 0 0] 36)).setCells (wx.heap.size+1) 0 (ag (x,.slice SB tn tc))):=((Chg.refl _ _).alloc _).setCells _ (.inr (by omega)); have gb:=Ag.trans ((As.below (fun _ h=>by cases h)).mono Ag.size); have e0:=C1.below (As.below (fun _ h=>by cases h)); have Az:=A V1 Ag; rw [Aa] at Az; have A8:V1.cell? ⟨w.heap.size+1,0,none⟩=some (.slice (some ⟨J,K,none⟩) n1 d1):=(u.out V1 (H.below Ag)).1; generalize (V1.alloc (.cells #[.int .i64 0,.string ⟨#[]⟩,.string ⟨#[]⟩,.int .i64 0,.slice none 0 0] 36)).setCells (wx.heap.size+1) 0 (ag (x,.slice SB tn tc))=W2 at *; clear B A hr Aa hf j Ac Ae As C1; go_upto_region 9 with fail
   clear Ay An Az A8 hz Ag; clear u0 v0 F T; have r4:W2.cell? ⟨wx.heap.size,4,none⟩=some (.slice SA sn sc):=e0.cell 4; have s4:W2.cell? ⟨wx.heap.size+1,4,none⟩=some (.slice SB tn tc):=e1.cell 4; have g:=pk SA sn sc x.sels SB tn tc x.sels W2 (Ts.below y gb) (Ts.below z gb) (Nat.le_trans Ad.1 Ad.2.1) (Nat.le_trans Af.1 Af.2.1); rw [show decide (x.sels=x.sels)=true from decide_eq_true rfl] at g; go_wp2_with fail
   refine g.mono ?_; rintro e W3 ⟨rfl,g3⟩; have gw:eD wx W3:=gb.trans (g3.mono gb.size); have Ah:=e0.below g3; have Ai:=e1.below g3; clear g e0 e1 r4 s4 g3 gb; have r0:W3.cell? ⟨wx.heap.size,0,none⟩=some (.int .i64 x.n):=Ah.cell 0; have r1:W3.cell? ⟨wx.heap.size,1,none⟩=some (.string (str x.path)):=Ah.cell 1; have r2:W3.cell? ⟨wx.heap.size,2,none⟩=some (.string (str x.parent)):=Ah.cell 2; have r3:W3.cell? ⟨wx.heap.size,3,none⟩=some (.int .i64 x.ttl):=Ah.cell 3; have s0:W3.cell? ⟨wx.heap.size+1,0,none⟩=some (.int .i64 x.n):=Ai.cell 0; have s1:W3.cell? ⟨wx.heap.size+1,1,none⟩=some (.string (str x.path)):=Ai.cell 1; have s2:W3.cell? ⟨wx.heap.size+1,2,none⟩=some (.string (str x.parent)):=Ai.cell 2; have s3:W3.cell? ⟨wx.heap.size+1,3,none⟩=some (.int .i64 x.ttl):=Ai.cell 3; have A9:(x.path==x.path)=true:=by rw [beq_iff_eq]
   have AA:(x.parent==x.parent)=true:=by rw [beq_iff_eq]
   clear Ah Ai; go_wp2_with fail
   go_roundw
   case rel=>exact⟨k+1,by omega,by go_num,C.trans (gw.mono C.size),D.below gw,H.below gw⟩
   case measure=>simp [intOf]; omega
  .have hi:¬ ((k:Int)<(n1:Int)):=by omega
   obtain⟨F,M,R,N,O,Q⟩:=f.out wx D; obtain⟨T,p1,p2,p3,p4,p5⟩:=u.out wx H; go_wp2_with fail
   clear F M R N O Q T p1 p2 p3 p4 p5; go_loopw [10] (fun i wr=>∃ k:Nat,k<=n2/\i=.int .i64 k/\eD w wr/\Blk wr w.heap.size Z1 30/\Blk wr (w.heap.size+1) Z2 30) (fun i _=>n2 - (intOf i).toNat)
   case atStart=>exact⟨0,by omega,rfl,C,D,H⟩
   case round =>
    clear C D H; obtain⟨k,hk,rfl,C,D,H⟩:=hrel; obtain⟨wx,Y⟩:∃ wx,wx=wr:=⟨_,rfl⟩; subst Y; by_cases b:k<n2
    .have G:=fun p=>aa wx p
     have F:∀ p,(ab wx p).cell? ⟨w.heap.size,1,none⟩=some (.slice A2 n2 c2):=fun p=>by obtain⟨F,M,R,N,O,Q⟩:=f.out _ (D.below (G p)); exact M
     have T:∀ p,(ab wx p).cell? ⟨w.heap.size+1,1,none⟩=some (.slice B2 n2 d2):=fun p=>by obtain⟨F,M,R,N,O,Q⟩:=u.out _ (H.below (G p)); exact M
     have l:wx.cell? ⟨w.heap.size,1,none⟩=some (.slice A2 n2 c2):=by obtain⟨F,M,R,N,O,Q⟩:=f.out _ D; exact M
     have I:k<L.nodes.length:=by rw [Ab.out.2.1]; exact b
     obtain⟨V,X,rfl,t,B⟩:=kA (x2.below C) I; obtain⟨J,K,rfl,d,A⟩:=kA (y2.below C) I; generalize L.nodes[k]=x at *; have u0:∀ p,(fL (.pointer (some ⟨V,X+k * 5,none⟩))).run prog (ab wx p)=.ok (.agg #[.string (str x.name),.string (str x.key),.int .i64 x.expires,.int .i64 x.seq,.string (str x.doc)]) (ab wx p):=fun p=>B _ (G p); have v0:∀ p,(fL (.pointer (some ⟨J,K+k * 5,none⟩))).run prog (ab wx p)=.ok (.agg #[.string (str x.name),.string (str x.key),.int .i64 x.expires,.int .i64 x.seq,.string (str x.doc)]) (ab wx p):=fun p=>A _ (G p); have hq:=fun W=>neq_node x x W; rw [nodeEq_iff.2 rfl] at hq; unfold ac tx nm at hq; have hi:(k:Int)<(n2:Int):=by omega
     clear B A; go_wp2_with fail
     refine az ?_; repeat (go_big_quiet_step (fail))
     refine wpQuiet_nil ?_; rintro _ ⟨px,rfl⟩; have m:=G px; clear G F T l u0 v0; generalize ab wx px=w5 at *; go_wp2_with fail
     go_roundw
     case rel=>exact⟨k+1,by omega,by go_num,C.trans (m.mono C.size),D.below m,H.below m⟩
     case measure=>simp [intOf]; omega
    .have hi:¬ ((k:Int)<(n2:Int)):=by omega
     obtain⟨F,M,R,N,O,Q⟩:=f.out wx D; obtain⟨T,p1,p2,p3,p4,p5⟩:=u.out wx H; go_wp2_with fail
     clear F M R N O Q T p1 p2 p3 p4 p5; go_loopw [11] (fun i wr=>∃ k:Nat,k<=o/\i=.int .i64 k/\eD w wr/\Blk wr w.heap.size Z1 30/\Blk wr (w.heap.size+1) Z2 30) (fun i _=>o - (intOf i).toNat)
     case atStart=>exact⟨0,by omega,rfl,C,D,H⟩
     case round =>
      clear C D H; obtain⟨k,hk,rfl,C,D,H⟩:=hrel; obtain⟨wx,Y⟩:∃ wx,wx=wr:=⟨_,rfl⟩; subst Y; by_cases b:k<o
      .have G:=fun p=>aa wx p
       have F:∀ p,(ab wx p).cell? ⟨w.heap.size,3,none⟩=some (.slice A4 o c4):=fun p=>by obtain⟨F,M,R,N,O,Q⟩:=f.out _ (D.below (G p)); exact N
       have T:∀ p,(ab wx p).cell? ⟨w.heap.size+1,3,none⟩=some (.slice B4 o d4):=fun p=>by obtain⟨F,M,R,N,O,Q⟩:=u.out _ (H.below (G p)); exact N
       have l:wx.cell? ⟨w.heap.size,3,none⟩=some (.slice A4 o c4):=by obtain⟨F,M,R,N,O,Q⟩:=f.out _ D; exact N
       have I:k<L.joins.length:=by rw [Ab.out.2.2.1]; exact b
       obtain⟨V,X,rfl,t,B⟩:=ldJoi_es (x4.below C) I; obtain⟨J,K,rfl,d,A⟩:=ldJoi_es (y4.below C) I; generalize L.joins[k]=x at *; have u0:∀ p,(rT (.pointer (some ⟨V,X+k * 4,none⟩))).run prog (ab wx p)=.ok (.agg #[.string (str x.text),.string (str x.name),.int .i64 x.expires,.bool x.used]) (ab wx p):=fun p=>B _ (G p); have v0:∀ p,(rT (.pointer (some ⟨J,K+k * 4,none⟩))).run prog (ab wx p)=.ok (.agg #[.string (str x.text),.string (str x.name),.int .i64 x.expires,.bool x.used]) (ab wx p):=fun p=>A _ (G p); have hq:=fun W=>neq_join x x W; rw [joinEq_iff.2 rfl] at hq; unfold ao tx nm at hq; have hi:(k:Int)<(o:Int):=by omega
       clear B A; go_wp2_with fail
       refine az ?_; repeat (go_big_quiet_step (fail))
       refine wpQuiet_nil ?_; rintro _ ⟨px,rfl⟩; have m:=G px; clear G F T l u0 v0; generalize ab wx px=w5 at *; go_wp2_with fail
       go_roundw
       case rel=>exact⟨k+1,by omega,by go_num,C.trans (m.mono C.size),D.below m,H.below m⟩
       case measure=>simp [intOf]; omega
      .have hi:¬ ((k:Int)<(o:Int)):=by omega
       obtain⟨F,M,R,N,O,Q⟩:=f.out wx D; obtain⟨T,p1,p2,p3,p4,p5⟩:=u.out wx H; go_wp2_with fail
       clear F M R N O Q T p1 p2 p3 p4 p5; go_loopw [12] (fun i wr=>∃ k:Nat,k<=q/\i=.int .i64 k/\eD w wr/\Blk wr w.heap.size Z1 30/\Blk wr (w.heap.size+1) Z2 30) (fun i _=>q - (intOf i).toNat)
       case atStart=>exact⟨0,by omega,rfl,C,D,H⟩
       case round =>
        clear C D H; obtain⟨k,hk,rfl,C,D,H⟩:=hrel; obtain⟨wx,Y⟩:∃ wx,wx=wr:=⟨_,rfl⟩; subst Y; by_cases b:k<q
        .have G:=fun p=>aa wx p
         have F:∀ p,(ab wx p).cell? ⟨w.heap.size,4,none⟩=some (.slice A5 q c5):=fun p=>by obtain⟨F,M,R,N,O,Q⟩:=f.out _ (D.below (G p)); exact O
         have T:∀ p,(ab wx p).cell? ⟨w.heap.size+1,4,none⟩=some (.slice B5 q d5):=fun p=>by obtain⟨F,M,R,N,O,Q⟩:=u.out _ (H.below (G p)); exact O
         have l:wx.cell? ⟨w.heap.size,4,none⟩=some (.slice A5 q c5):=by obtain⟨F,M,R,N,O,Q⟩:=f.out _ D; exact O
         have I:k<L.keys.length:=by rw [Ab.out.2.2.2.1]; exact b
         obtain⟨V,X,rfl,t,B⟩:=ldKey_es (x5.below C) I; obtain⟨J,K,rfl,d,A⟩:=ldKey_es (y5.below C) I; generalize L.keys[k]=x at *; have u0:∀ p,(rS (.pointer (some ⟨V,X+k * 4,none⟩))).run prog (ab wx p)=.ok (.agg #[.string (str x.kid),.string (str x.seed),.int .i64 x.state,.int .i64 x.since]) (ab wx p):=fun p=>B _ (G p); have v0:∀ p,(rS (.pointer (some ⟨J,K+k * 4,none⟩))).run prog (ab wx p)=.ok (.agg #[.string (str x.kid),.string (str x.seed),.int .i64 x.state,.int .i64 x.since]) (ab wx p):=fun p=>A _ (G p); have hq:=fun W=>neq_key x x W; rw [keyEq_iff.2 rfl] at hq; unfold aq tx nm at hq; have hi:(k:Int)<(q:Int):=by omega
         clear B A; go_wp2_with fail
         refine az ?_; repeat (go_big_quiet_step (fail))
         refine wpQuiet_nil ?_; rintro _ ⟨px,rfl⟩; have m:=G px; clear G F T l u0 v0; generalize ab wx px=w5 at *; go_wp2_with fail
         go_roundw
         case rel=>exact⟨k+1,by omega,by go_num,C.trans (m.mono C.size),D.below m,H.below m⟩
         case measure=>simp [intOf]; omega
        .have hi:¬ ((k:Int)<(q:Int)):=by omega
         obtain⟨F,M,R,N,O,Q⟩:=f.out wx D; obtain⟨T,p1,p2,p3,p4,p5⟩:=u.out wx H; go_wp2_with fail
         clear F M R N O Q T p1 p2 p3 p4 p5; go_loopw [13,14] (fun i _ wr=>∃ k:Nat,k<=s/\i=.int .i64 k/\eD w wr/\Blk wr w.heap.size Z1 30/\Blk wr (w.heap.size+1) Z2 30) (fun i _ _=>s - (intOf i).toNat)
         case atStart=>exact⟨0,by omega,rfl,C,D,H⟩
         case round =>
          clear C D H; obtain⟨k,hk,rfl,C,D,H⟩:=hrel; obtain⟨wx,Y⟩:∃ wx,wx=wr:=⟨_,rfl⟩; subst Y; by_cases b:k<s
          .have c:k<U.length:=by rw [Ab.out.2.2.2.2]; exact b
           have I:k<L.bundles.length:=by rw [<-Aj.out.2.2.1]; exact c
           have S:k<U'.length:=by rw [Aj.out.2.2.2]; exact I
           have hf:=lS eU c I; have j:=lS Av S I; obtain⟨V,X,rfl,t,B⟩:=mD (x6.below C) c; obtain⟨J,K,rfl,d,A⟩:=mD (y6.below C) S; obtain⟨SA,sn,sc,Ac,Ad,y⟩:=(sU U[k] (List.getElem_mem c)).below C; obtain⟨SB,tn,tc,Ae,Af,z⟩:=(A7 U'[k] (List.getElem_mem S)).below C; rw [<-hf] at y; rw [<-j] at z; have hr:ai U[k]=ai (L.bundles[k],.slice SA sn sc):=by rw [hf,<-Ac]
           have Aa:ai U'[k]=ai (L.bundles[k],.slice SB tn tc):=by rw [j,<-Ae]
           rw [hr] at B; rw [Aa] at A; generalize L.bundles[k]=x at *; have G:=fun p=>aa wx p; have F:∀ p,(ab wx p).cell? ⟨w.heap.size,5,none⟩=some (.slice (some ⟨V,X,none⟩) s c6):=fun p=>by obtain⟨F,M,R,N,O,Q⟩:=f.out _ (D.below (G p)); exact Q
           have T:∀ p,(ab wx p).cell? ⟨w.heap.size+1,5,none⟩=some (.slice (some ⟨J,K,none⟩) s d6):=fun p=>by obtain⟨F,M,R,N,O,Q⟩:=u.out _ (H.below (G p)); exact Q
           have l:wx.cell? ⟨w.heap.size,5,none⟩=some (.slice (some ⟨V,X,none⟩) s c6):=by obtain⟨F,M,R,N,O,Q⟩:=f.out _ D; exact Q
           have u0:∀ p,(fz (.pointer (some ⟨V,X+k * 3,none⟩))).run prog (ab wx p)=.ok (.agg #[.string (str x.domain),.int .i64 x.number,.slice SA sn sc]) (ab wx p):=fun p=>B _ (G p); have v0:∀ p,(fz (.pointer (some ⟨J,K+k * 3,none⟩))).run prog (ab wx p)=.ok (.agg #[.string (str x.domain),.int .i64 x.number,.slice SB tn tc]) (ab wx p):=fun p=>A _ (G p); have HC:Hid (∀ p,Calls prog 31 #[.agg #[.string (str x.domain),.int .i64 x.number,.slice SA sn sc],.agg #[.string (str x.domain),.int .i64 x.number,.slice SB tn tc]] (ab wx p) fun e w'=>e=.returned (.bool true)/\Below (ab wx p).heap.size (ab wx p) w'):=hO fun p=>(bsame_any x.domain x.domain x.number x.number SA sn sc x.keys SB tn tc x.keys (ab wx p) (y.below (G p)) (z.below (G p)) (Nat.le_trans Ad.1 Ad.2.1) (Nat.le_trans Af.1 Af.2.1)).mono fun e w' ⟨r,h1,h2,h3⟩=>⟨by rw [h1,h2.2 ⟨rfl,rfl,rfl⟩],h3⟩; have hi:(k:Int)<(s:Int):=by omega
           clear B A Ac Ae hr Aa hf j y z; go_wp2_with fail
           refine az ?_; repeat (go_big_quiet_step (first|(go_at_call 31; exact aw (HC.out _))|fail))
           refine wpQuiet_nil ?_; rintro _ ⟨px,rfl⟩; have m:=G px; clear G F T l u0 v0 HC; generalize ab wx px=w5 at *; go_wp2_with fail
           go_roundw
           case rel=>exact⟨k+1,by omega,by go_num,C.trans (m.mono C.size),D.below m,H.below m⟩
           case measure=>simp [intOf]; omega
          .have hi:¬ ((k:Int)<(s:Int)):=by omega
           obtain⟨F,M,R,N,O,Q⟩:=f.out wx D; obtain⟨T,p1,p2,p3,p4,p5⟩:=u.out wx H; go_wp2_with fail
           go_ret; exact⟨rfl,C⟩
end
section
namespace Sha
open Go.RowKit
def V (l:List Int):Nat->Int
 | 0=>0
 | n+1=>V l n+l.getD n 0 * 65536 ^ n
def Dig (l:List Int):Prop:=∀ i,0<=l.getD i 0/\l.getD i 0<65536
theorem pow_pos'(n:Nat):(0:Int)<65536 ^ n:=Int.pow_pos (by decide)
theorem mM{l:List Int} (h:Dig l):∀ n,0<=V l n/\V l n<65536 ^ n
 | 0=>by simp [V]
 | n+1=>by
  obtain⟨E,B⟩:=mM h n; obtain⟨C,F⟩:=h n; have A:=pow_pos' n; simp only [V]; rw [Int.pow_succ]; obtain⟨P,D⟩:=eA ((65536:Int) ^ n); rw [D] at A B ⊢; have G:0<=l.getD n 0 * P:=Int.mul_nonneg C (Int.le_of_lt A); have H:l.getD n 0 * P<=65535 * P:=Int.mul_le_mul_of_nonneg_right (by omega) (Int.le_of_lt A); exact⟨by omega,by omega⟩
theorem iq(l:List Int) (i j:Nat) (x:Int):(l.set i x).getD j 0=if i=j/\i<l.length then x else l.getD j 0:=by
 simp only [List.getD_eq_getElem?_getD,List.getElem?_set]
 by_cases h:i=j
 .subst h
  by_cases A:i<l.length
  .simp [A]
  .simp [A]
 .simp [h]
theorem V_set(l:List Int) (i:Nat) (x:Int) (hi:i<l.length):∀ n,V (l.set i x) n=V l n+if i<n then (x - l.getD i 0) * 65536 ^ i else 0
 | 0=>by simp [V]
 | n+1=>by
  simp only [V,V_set l i x hi n,iq]; by_cases h:i=n
  .subst h
   rw [if_neg (Nat.lt_irrefl i),if_pos ⟨rfl,hi⟩,if_pos (Nat.lt_succ_self i),Int.sub_mul]; omega
  .rw [if_neg (fun B:i=n/\i<l.length=>h B.1)]
   by_cases A:i<n
   .rw [if_pos A,if_pos (by omega)]
    omega
   .rw [if_neg A,if_neg (by omega)]
    omega
theorem Dig.set{l:List Int} (h:Dig l) (i:Nat) {x:Int} (h0:0<=x) (A:x<65536):Dig (l.set i x):=fun j=>by
 rw [iq]
 split
 .exact⟨h0,A⟩
 .exact h j
theorem jx{x:Int} (h0:0<=x) (A:x<9223372036854775808):wrap64 x=x:=by unfold wrap64; omega
theorem pP{a b:List Int} (F:Dig a) (G:Dig b) (i:Nat) {A:List Int} (H:Dig A) (N:Nat):∀ j,i+j<=A.length->A.length<=N ->
  Dig (du a b i A j).1/\0<=(du a b i A j).2/\(du a b i A j).2<65536/\V (du a b i A j).1 N+(du a b i A j).2 * 65536 ^ (i+j)=V A N+a.getD i 0 * V b j * 65536 ^ i /\
   (∀ t,i+j<=t->(du a b i A j).1.getD t 0=A.getD t 0)
 | 0,_,_=>by simp [du,V,H]
 | j+1,hj,hN=>by
  obtain⟨I,X,Y,Z,M⟩:=pP F G i H N j (by omega) hN; have J:=jf a b i A j; simp only [du]; generalize (du a b i A j).1=q at *; generalize (du a b i A j).2=c at *; obtain⟨d,f⟩:=I (i+j); obtain⟨O,g⟩:=F i; obtain⟨K,h⟩:=G j; have Q:0<=a.getD i 0 * b.getD j 0:=Int.mul_nonneg O K; have k:a.getD i 0 * b.getD j 0<=65535 * 65535:=Int.mul_le_mul (by omega) (by omega) K (by omega); have B:wrap64 (a.getD i 0 * b.getD j 0)=a.getD i 0 * b.getD j 0:=jx Q (by omega); have C:wrap64 (q.getD (i+j) 0+a.getD i 0 * b.getD j 0)=q.getD (i+j) 0+a.getD i 0 * b.getD j 0:=jx (by omega) (by omega); have D:wrap64 (q.getD (i+j) 0+a.getD i 0 * b.getD j 0+c)=q.getD (i+j) 0+a.getD i 0 * b.getD j 0+c:=jx (by omega) (by omega); rw [B,C,D]; obtain⟨v,R⟩:∃ v,v=q.getD (i+j) 0+a.getD i 0 * b.getD j 0+c:=⟨_,rfl⟩; rw [<-R]; have L:0<=v:=by omega
  have l:v<=65535 * 65537:=by omega
  have S:v.tmod 65536=v % 65536:=Int.tmod_eq_emod_of_nonneg L; have T:v.tdiv 65536=v / 65536:=Int.tdiv_eq_ediv_of_nonneg L; have E:wrap64 (v.tdiv 65536)=v / 65536:=by rw [T]; exact jx (by omega) (by omega)
  rw [E,S]; refine⟨I.set _ (by omega) (by omega),by omega,by omega,?_,fun t ht=>?_⟩
  .rw [V_set _ _ _ (by omega),if_pos (by omega)]
   simp only [V]; have e:(65536:Int) ^ (i+(j+1))=65536 * 65536 ^ (i+j):=by rw [<-Nat.add_assoc,Int.pow_succ,Int.mul_comm]
   have e2:(65536:Int) ^ (i+j)=65536 ^ j * 65536 ^ i:=by rw [Int.pow_add,Int.mul_comm]
   have e3:v % 65536=v - 65536 * (v / 65536):=by omega
   rw [e,e3]; have e4:(v - 65536 * (v / 65536) - q.getD (i+j) 0) * 65536 ^ (i+j)+v / 65536 * (65536 * 65536 ^ (i+j))=(v - q.getD (i+j) 0) * 65536 ^ (i+j):=by
    rw [Int.sub_mul,Int.sub_mul,Int.sub_mul,Int.mul_assoc 65536,Int.mul_left_comm (v / 65536)]; omega
   have m:(v - q.getD (i+j) 0) * 65536 ^ (i+j)=a.getD i 0 * (b.getD j 0 * 65536 ^ j) * 65536 ^ i+c * 65536 ^ (i+j):=by
    rw [show v - q.getD (i+j) 0=a.getD i 0 * b.getD j 0+c by omega,Int.add_mul,e2]; simp only [Int.mul_assoc]
   have U:a.getD i 0 * (V b j+b.getD j 0 * 65536 ^ j) * 65536 ^ i=a.getD i 0 * V b j * 65536 ^ i+a.getD i 0 * (b.getD j 0 * 65536 ^ j) * 65536 ^ i:=by
    rw [Int.mul_add,Int.add_mul]
   rw [U]; omega
  .rw [iq,if_neg (by omega),M t (by omega)]
theorem fY(n i:Nat):(List.replicate n (0:Int)).getD i 0=0:=by
 rw [List.getD_eq_getElem?_getD,List.getElem?_replicate]
 split <;> rfl
theorem oV(m:Nat):∀ n,V (List.replicate m (0:Int)) n=0
 | 0=>rfl
 | n+1=>by simp only [V,oV m n,fY]; simp
theorem nT{a b:List Int} (A:Dig a) (B:Dig b):∀ i,i<=a.length ->
  Dig (bO a b i)/\V (bO a b i) (a.length+b.length)=V a i * V b b.length/\∀ t,i+b.length<=t->(bO a b i).getD t 0=0
 | 0,_=>by
  simp only [bO]; refine⟨fun j=>by rw [fY]; omega,by rw [oV]; simp [V],fun t _=>fY _ _⟩
 | i+1,hi=>by
  obtain⟨E,F,C⟩:=nT A B i (by omega); have I:=jI a b i; obtain⟨G,k2,k3,k4,k5⟩:=pP A B i E (a.length+b.length) b.length (by omega) (by omega); have H:=jf a b i (bO a b i) b.length; simp only [bO]; generalize (du a b i (bO a b i) b.length).1=q at *; generalize (du a b i (bO a b i) b.length).2=c at *; have D:q.getD (i+b.length) 0=0:=by rw [k5 _ eG,C _ eG]
  rw [D,show wrap64 (0+c)=c by rw [Int.zero_add]; exact jx k2 (by omega)]
  refine⟨G.set _ k2 k3,?_,fun t ht=>?_⟩
  .rw [V_set _ _ _ (by omega),if_pos (by omega),D,Int.sub_zero,k4,F]
   simp only [V]; rw [Int.add_mul,Int.mul_right_comm]
  .rw [iq,if_neg (by omega),k5 t (by omega),C t (by omega)]
theorem mul_spec{a b:List Int} (A:Dig a) (B:Dig b):Dig (mul a b)/\V (mul a b) (a.length+b.length)=V a a.length * V b b.length:=by
 obtain⟨C,D,_⟩:=nT A B a.length eG
 exact⟨C,D⟩
theorem rR{a b:List Int} (C:Dig a) (D:Dig b):∀ n,dX a b n=true↔V a n<V b n
 | 0=>by simp [dX,V]
 | n+1=>by
  obtain⟨J,F⟩:=mM C n; obtain⟨K,b2⟩:=mM D n; have A:=pow_pos' n; have ih:=rR C D n; have G:V a (n+1)=V a n+a.getD n 0 * 65536 ^ n:=rfl; have H:V b (n+1)=V b n+b.getD n 0 * 65536 ^ n:=rfl; rw [G,H]; simp only [dX]; obtain⟨P,I⟩:=eA ((65536:Int) ^ n); rw [I] at A F b2 ⊢; by_cases h:a.getD n 0=b.getD n 0
  .rw [if_pos h,h,ih]
   omega
  .rw [if_neg h,decide_eq_true_eq]
   generalize a.getD n 0=x at *; generalize b.getD n 0=y at *; constructor
   .intro B
    have:(x+1) * P<=y * P:=Int.mul_le_mul_of_nonneg_right (by omega) (Int.le_of_lt A); rw [Int.add_mul] at this; omega
   .intro B
    rcases Int.lt_or_gt_of_ne h with E|E
    .exact E
    .have:(y+1) * P<=x * P:=Int.mul_le_mul_of_nonneg_right (by omega) (Int.le_of_lt A)
     rw [Int.add_mul] at this; omega
def pw (k:Nat) (x:Int):Int:=if k=3 then x * x * x else x * x
theorem pw_mono(k:Nat) {x y:Int} (h0:0<=x) (h:x<=y):pw k x<=pw k y:=by
 have A:x * x<=y * y:=Int.mul_le_mul h h h0 (by omega)
 unfold pw
 split
 .exact Int.mul_le_mul A h h0 (Int.mul_nonneg (by omega) (by omega))
 .exact A
theorem dbl_fin:∀ r,r<16->dbl r=((2 ^ r:Nat):Int):=by decide +kernel
theorem dbl_spec(r:Nat) (A:r<16):∃ D:Int,dbl r=D/\D=2 ^ r/\0<D/\∀ x:Int,0<=x->x<65536->x % (2 * D)=0->x+D<65536/\(x+D) % D=0/\x % D=0:=by
 refine⟨_,dbl_fin r A,by simp,by have:=Nat.two_pow_pos r; omega,?_⟩
 have:r=0\/r=1\/r=2\/r=3\/r=4\/r=5\/r=6\/r=7\/r=8\/r=9\/r=10\/r=11\/r=12\/r=13\/r=14\/r=15:=by omega
 rcases this with rfl|rfl|rfl|rfl|rfl|rfl|rfl|rfl|rfl|rfl|rfl|rfl|rfl|rfl|rfl|rfl
 all_goals
  intro x h0 C B; simp only [Nat.reducePow] at B ⊢; omega
theorem dig_target{p:Int} (h0:0<=p) (A:p<65536) (k:Nat):Dig (target p k):=by
 unfold target
 exact Dig.set (fun j=>by rw [fY]; omega) _ h0 A
theorem V_target(p:Int) (k n:Nat) (h:4 * k<n):V (target p k) n=p * 65536 ^ (4 * k):=by
 unfold target
 rw [V_set _ _ _ (by simp),oV,if_pos h,fY]
 simp
theorem power_spec(k:Nat) {x:List Int} (hx:Dig x) (D:x.length=5):Dig (jX k x)/\(jX k x).length=(if k=3 then 15 else 10)/\V (jX k x) (jX k x).length=pw k (V x 5):=by
 obtain⟨E,B⟩:=mul_spec hx hx
 have A:=lg x x
 rw [D] at B A
 unfold jX pw
 split
 .obtain⟨G,F⟩:=mul_spec E hx
  have C:=lg (mul x x) x; rw [A,D] at C F; refine⟨G,C,?_⟩; rw [C,F,B]
 .refine⟨E,A,?_⟩
  rw [A,B]
structure RootAt (p:Int) (k t:Nat) (x:List Int):Prop where
 dig:Dig x
 len:x.length=5
 low:∀ i,i<(69 - t) / 16->x.getD i 0=0
 mid:x.getD ((69 - t) / 16) 0 % 2 ^ ((69 - t) % 16)=0
 lo:pw k (V x 5)<=p * 65536 ^ (4 * k)
 hi:p * 65536 ^ (4 * k)<pw k (V x 5+2 ^ (69 - t))
theorem pow_split(a r:Nat):(2:Int) ^ (16 * a+r)=2 ^ r * 65536 ^ a:=by
 rw [Int.pow_add,Int.mul_comm,show (16 * a)=a * 16 by omega]
 congr 1
 induction a with
 | zero=>rfl
 | succ a ih=>rw [show (a+1) * 16=a * 16+16 by omega,Int.pow_add,ih,Int.pow_succ]; rfl
theorem set_back(x:List Int) (i:Nat) (v:Int):(x.set i v).set i (x.getD i 0)=x:=by
 rw [List.set_set]
 apply List.ext_getElem?
 intro j
 rw [List.getElem?_set]
 split
 .rename_i h
  subst h; split
  .rename_i h2
   rw [List.getD_eq_getElem?_getD,List.getElem?_eq_getElem h2]; rfl
  .rename_i h2
   rw [List.getElem?_eq_none (by omega)]
 .rfl
theorem root_step{p:Int} {k t:Nat} (U:0<=p) (q:p<65536) (m:k=2\/k=3) (ht:t<69) {x:List Int} (h:RootAt p k t x):RootAt p k (t+1) (eR p k (68 - t) x):=by
 obtain⟨B,s⟩:=eA (68 - t)
 have X:69 - t=B+1:=by omega
 have C:69 - (t+1)=B:=by omega
 rw [s]
 obtain⟨hd,n,E,F,Y,L⟩:=h
 rw [X] at E F L
 obtain⟨A,G⟩:∃ a,B / 16=a:=⟨_,rfl⟩
 obtain⟨r,Z⟩:=eA (B % 16)
 have M:r<16:=by omega
 have b:A<5:=by omega
 have N:B=16 * A+r:=by omega
 obtain⟨D,u,J,y,c⟩:=dbl_spec r M
 obtain⟨o,z⟩:=hd A
 have O:x.getD A 0 % (2 * D)=0:=by
  rcases Nat.lt_or_ge r 15 with d|d
  .have e1:(B+1) / 16=A:=by omega
   have e2:(B+1) % 16=r+1:=by omega
   rw [e1,e2,Int.pow_succ,<-J,Int.mul_comm] at F; exact F
  .rw [E A (by omega)]
   simp
 obtain⟨y1,y2,y3⟩:=c _ o z O
 have hw:wrap64 (x.getD A 0+D)=x.getD A 0+D:=jx (by omega) (by omega)
 have Q:Dig (x.set A (x.getD A 0+D)):=hd.set _ (by omega) y1
 have R:(x.set A (x.getD A 0+D)).length=5:=by rw [List.length_set]; exact n
 have K:V (x.set A (x.getD A 0+D)) 5=V x 5+2 ^ B:=by
  rw [V_set _ _ _ (by omega),if_pos b,N,pow_split,<-J,show x.getD A 0+D - x.getD A 0=D by omega]
 obtain⟨f,S,g⟩:=power_spec k Q R
 have H:tK (target p k) (jX k (x.set A (x.getD A 0+D)))=true↔p * 65536 ^ (4 * k)<pw k (V x 5+2 ^ B):=by
  unfold tK; have hm:max (target p k).length (jX k (x.set A (x.getD A 0+D))).length=(jX k (x.set A (x.getD A 0+D))).length:=by
   rw [S]; unfold target; rw [List.length_set,List.length_replicate]; rcases m with rfl|rfl <;> decide
  rw [hm,rR (dig_target U q k) f,g,K,V_target p k _ (by rw [S]; rcases m with rfl|rfl <;> decide)]
 have j:eR p k B x=if tK (target p k) (jX k (x.set A (x.getD A 0+D)))=true then x else x.set A (x.getD A 0+D):=by
  unfold eR; simp only [G,Z,u,hw]; split
  .rename_i hh
   rw [iq,if_pos ⟨rfl,by omega⟩,show x.getD A 0+D - D=x.getD A 0 by omega,jx o (by omega)]; exact set_back _ _ _
  .rfl
 rw [j]
 have T:(2:Int) ^ (B+1)=2 ^ B+2 ^ B:=by rw [Int.pow_succ]; omega
 have I:∀ i,i<A->x.getD i 0=0:=fun i hi=>E i (by omega)
 split
 .rename_i hh
  refine⟨hd,n,?_,?_,Y,?_⟩
  .rw [C,G]; exact I
  .rw [C,G,Z,<-J]; exact y3
  .rw [C]; exact H.1 hh
 .rename_i hh
  refine⟨Q,R,?_,?_,?_,?_⟩
  .rw [C,G]
   intro i hi; rw [iq,if_neg (by omega)]; exact I i hi
  .rw [C,G,Z,<-J,iq,if_pos ⟨rfl,by omega⟩]; exact y2
  .rw [K]
   exact Int.not_lt.1 fun l=>hh (H.2 l)
  .rw [C,K,Int.add_assoc,<-T]
   exact L
theorem root_at{p:Int} {k:Nat} (A:0<=p) (D:p<65536) (E:k=2\/k=3) (B:p * 65536 ^ (4 * k)<pw k (2 ^ 69)):∀ t,t<=69->RootAt p k t (bC p k t)
 | 0,_=>by
  have C:∀ i,([0,0,0,0,0]:List Int).getD i 0=0:=fun i=>fY 5 i; have F:V [0,0,0,0,0] 5=0:=oV 5 5; refine⟨fun i=>?_,rfl,fun i _=>C i,?_,?_,?_⟩
  .show 0<=([0,0,0,0,0]:List Int).getD i 0/\_
   rw [show (bC p k 0).getD i 0=0 from C i,C i]; omega
  .rw [show (bC p k 0).getD ((69 - 0) / 16) 0=0 from C _]
   simp
  .rw [show V (bC p k 0) 5=0 from F]
   have:pw k 0=0:=by unfold pw; split <;> rfl
   rw [this]; exact Int.mul_nonneg A (Int.le_of_lt (pow_pos' _))
  .rw [show V (bC p k 0) 5=0 from F,Int.zero_add]
   exact B
 | t+1,ht=>by
  rw [bC]; exact root_step A D E (by omega) (root_at A D E B t (by omega))
theorem rootSum_V{x:List Int} (h:Dig x):gT x=V x 4:=by
 obtain⟨A,B⟩:=h 0
 obtain⟨C,D⟩:=h 1
 obtain⟨E,F⟩:=h 2
 obtain⟨G,H⟩:=h 3
 simp only [gT,V,IntKind.wrap_u64]
 omega
theorem root_exact{p:Int} {k:Nat} (B:0<=p) (D:p<65536) (E:k=2\/k=3) (C:p * 65536 ^ (4 * k)<pw k (2 ^ 69)) (K:Int) (L:0<=K) (M:pw k K<=p * 65536 ^ (4 * k)) (N:p * 65536 ^ (4 * k)<pw k (K+1)) :
  mj p k=(K % 18446744073709551616).toNat:=by
 obtain⟨hd,O,_,_,F,A⟩:=root_at B D E C 69 eG
 have G:=(mM hd 5).1
 have e:V (bC p k 69) 5=K:=by
  have A:p * 65536 ^ (4 * k)<pw k (V (bC p k 69) 5+1):=A; rcases Int.lt_trichotomy (V (bC p k 69) 5) K with h|h|h
  .have:=pw_mono k (x:=V (bC p k 69) 5+1) (y:=K) (by omega) (by omega)
   omega
  .exact h
  .have:=pw_mono k (x:=K+1) (y:=V (bC p k 69) 5) (by omega) (by omega)
   omega
 unfold mj
 rw [rootSum_V hd,<-e]
 have H:=mM hd 4
 have I:V (bC p k 69) 5=V (bC p k 69) 4+(bC p k 69).getD 4 0 * 65536 ^ 4:=rfl
 rw [I]
 have J:(65536:Int) ^ 4=18446744073709551616:=by decide
 rw [J] at H ⊢
 congr 1
 omega
end Sha
end
section
namespace Sha
def K3:List Int:=[23241441160490167842,26604808713878332877,31543488660544240431,35287351959220771772,41025191555757552952,43374469216020582425,47431773444313272219,49223322299838333208,52460086356995146306,56674242196778545086,57948244932766773900,61468643694135456994,63608380943893236079,64626287408284341937,66571091106846937653,69291241975837173396,71813108563482594002,72615556083564357091,74922338351982630325,76384605279477341285,77095200552867529333,79152035218479047811,80466001307761769428,82360010132597855157,84757271453788200875,85906662539289440784,86470001012957192511,87575168524888248036,88117443448470540226,89182409882623190821,92723033081372705391,93686458245878541936,95095488024300105724,95556006044611561766,97794660939065469677,98230277650290947039,99514478923103560670,100766364611844223656,101583977345534766822,102786266195516601659,103961068102722061156,104346826991781163009,106234157551817627537,106603670640207904304,107335108066752287256,107697117917222381840,109819772810290077738,111863398698143437240,112528278492720320712,112857792170093030227,113511107980111571865,114477206417490790568,114795642568024087139,116361942610802215627,117281838038729876339,118187525164200278179,119079540232616391420,119373928427484032864,120248493880617511794,120824543361758411244,121110519679094562344,122520547622920568297,124441674862916172053,124979807718728684331]
def K2:List Int:=[26087635650665564424,31950697969885030203,41248173712355948587,48805497317890012913,61180928696206656209,66510681623121259551,76057874264641092971,80407493254657745273]
def goodK (k:Nat) (A:List Int) (W:List Nat) (i:Nat):Bool :=
 decide (((prL.getD i 0:Nat):Int)<65536)&&decide (((prL.getD i 0:Nat):Int) * 65536 ^ (4 * k)<pw k (2 ^ 69))&&decide (0<=A.getD i 0)&&decide (pw k (A.getD i 0)<=((prL.getD i 0:Nat):Int) * 65536 ^ (4 * k))&&decide (((prL.getD i 0:Nat):Int) * 65536 ^ (4 * k)<pw k (A.getD i 0+1))&&decide ((A.getD i 0 % 18446744073709551616).toNat / 4294967296=W.getD i 0)
theorem pr_all:pr 408=prL:=by decide +kernel
theorem tops_next(k n:Nat) (L:List Nat) (h:pr 408=L):bI k (n+1)=bI k n++[mj ((L.getD n 0:Nat):Int) k / 4294967296]:=by
 subst h
 rfl
theorem sQ{k:Nat} (E:k=2\/k=3) (B:List Int) (W:List Nat):∀ n,(List.range n).all (goodK k B W)=true->bI k n=(List.range n).map (W.getD · 0)
 | 0,_=>rfl
 | n+1,h=>by
  rw [List.range_succ,List.all_append,Bool.and_eq_true] at h; obtain⟨F,A⟩:=h; rw [List.all_cons,List.all_nil,Bool.and_true] at A; unfold goodK at A; obtain⟨p,C⟩:∃ p:Int,((prL.getD n 0:Nat):Int)=p:=⟨_,rfl⟩; have D:0<=p:=by rw [<-C]; exact Int.natCast_nonneg _
  rw [tops_next k n _ pr_all,sQ E B W n F,List.range_succ,List.map_append]; rw [C] at A ⊢; clear C; generalize B.getD n 0=K at *; rw [Bool.and_eq_true,Bool.and_eq_true,Bool.and_eq_true,Bool.and_eq_true,Bool.and_eq_true] at A; obtain⟨⟨⟨⟨⟨G,H⟩,I⟩,J⟩,L⟩,M⟩:=A; rw [root_exact D (of_decide_eq_true G) E (of_decide_eq_true H) _ (of_decide_eq_true I) (of_decide_eq_true J) (of_decide_eq_true L),of_decide_eq_true M]; rfl
theorem tops3:bI 3 64=kkL:=by rw [sQ (.inr rfl) K3 kkL 64 (by decide +kernel)]; decide +kernel
theorem tops2:bI 2 8=ffL:=by rw [sQ (.inl rfl) K2 ffL 8 (by decide +kernel)]; decide +kernel
theorem pname_eq(d:List UInt8):ij d=bZ d:=by unfold ij bZ oq jB; rw [tops3,tops2]
end Sha
end
section
open Led
namespace Led
theorem tV(ok:Bool) (L:Ledger) (o:Op):∀ b∈(does ok L o).1.bundles,b∈L.bundles\/(b=o.bundle/\ok=true):=by
 unfold does
 by_cases D:o.kind=4
 .simp only [D]
  have F:(eO L o.name o.node).1.bundles=L.bundles:=by
   unfold eO; split
   .rfl
   .split
    .rfl
    .split
     .split
      .rcases fW L o.node with⟨_,h⟩|⟨_,_,_,_,h⟩ <;> rw [h]
      .rfl
     .rfl
  intro b A; exact .inl (by simpa [F] using A)
 by_cases E:o.kind=5
 .simp only [E]
  intro b A; refine .inl ?_; have G:(aX L o.node).1.bundles=L.bundles:=by rcases fW L o.node with⟨_,h⟩|⟨_,_,_,_,h⟩ <;> rw [h]
  simpa [G] using A
 by_cases B:o.kind=12
 .simp only [B]
  intro b A; have A:b∈(bH ok L o.bundle).1.bundles:=by simpa using A
  unfold bH at A; split at A
  .rename_i hok
   split at A
   .exact .inl A
   .split at A
    .rename_i l hl
     unfold put at hl; split at hl
     .injection hl with hl
      subst hl; rcases gj A with h|h
      .exact .inr ⟨h,hok⟩
      .exact .inl h
     .cases hl
    .exact .inl A
  .exact .inl A
 by_cases C:o.kind=13
 .simp only [C]
  intro b A; have A:b∈(cP L o.name).1.bundles:=by simpa using A
  unfold cP at A; split at A
  .exact .inl (bU A)
  .exact .inl A
 simp only [D,E,B,C,if_false]
 intro b A
 have H:∀ l,l=L.bundles->b∈l->b∈L.bundles:=fun l e h=>by rw [<-e]; exact h
 refine .inl (H _ ?_ A)
 have I:∀ {c:Prop} [Decidable c] {x y:Ledger × Int},x.1.bundles=L.bundles->y.1.bundles=L.bundles->(if c then x else y).1.bundles=L.bundles:=by
  intro c _ x y J K; split
  .exact J
  .exact K
 unfold em fZ dE cX gJ eX dp dq gK iC
 repeat' (first|rfl|apply I|split)
theorem does_may{L:Ledger} {o:Op} (h:∀ b∈L.bundles,aD b=true):∀ b∈(does (aD o.bundle) L o).1.bundles,aD b=true:=fun b B=>by
 rcases tV _ _ _ b B with A|⟨A,C⟩
 .exact h b A
 .rw [A]; exact C
def jV (k:Int):Prop:=k=101\/k=103\/k=105\/k=106\/k=109\/k=112
instance (k:Int):Decidable (jV k):=by unfold jV; infer_instance
def lx (L:Ledger) (o:Op):Ledger :=
 if o.kind=101 then { L with entries:=L.entries++[o.entry] } else if o.kind=103 then { L with joins:=L.joins++[o.join] } else if o.kind=105 then { L with nodes:=L.nodes++[o.node] }
 else if o.kind=106 then { L with bans:=L.bans++[o.name] } else if o.kind=109 then { L with keys:=L.keys++[o.key] } else { L with bundles:=L.bundles++[o.bundle] }
end Led
end
section
open Go.RowKit Mem Led
theorem pmay_eq(b:Led.Bundle):Led.eS b=aD b:=by
 unfold Led.eS aD
 simp only [Sha.pname_eq]
def Made (w:World) (x:Ending) (w':World):Prop :=
 ∃ A B C D E E2 U2,x=.returned (.tuple #[.agg A.toArray,.agg B.toArray,.bool true])/\cZ w' A C D E/\cZ w' B C E2 U2/\C.Wf/\eD w w'/\Hid (fl w' A D E/\fl w' B E2 U2)/\Hid (∀ b∈C.bundles,aD b=true)
theorem ti{P:Program} {F:Func} {p q s:Tmp} {ty:TypeId} (h:F.results=#[.cell p ty,.cell q ty,.tmp s]) (tmps:Array Value) (w:World) (g A n:Nat) (d:TypeDesc)
  (I:tmps.getD p undef=.pointer (some ⟨g,0,none⟩)) (J:tmps.getD q undef=.pointer (some ⟨A,0,none⟩)) (G:P.underlying ty=some d) (hd:(match d with|.struct _|.array _ _=>true|_=>false)=true) (hi:(P.info? ty).map (·.size)=some n) (K:Has w g 0 n) (C:Has w A 0 n) :
  (results F tmps).run P w=.ok (.tuple #[.agg (Mem.arr w g 0 n),.agg (Mem.arr w A 0 n),tmps.getD s undef]) w:=by
 have D:tmps[p]?.getD undef=.pointer (some ⟨g,0,none⟩):=by simpa using I
 have E:tmps[q]?.getD undef=.pointer (some ⟨A,0,none⟩):=by simpa using J
 have H:=bF (P:=P) w ty g 0 n d G hd hi K
 have B:=bF (P:=P) w ty A 0 n d G hd hi C
 simp only [Instr.loadAt,Instr.sureAddr,Sem.run_bind,Sem.run_pure,Result.andThen_ok] at H B
 simp [results,h,D,E,asAddr,H,B]
theorem ed.past{g A:Nat} {w w':World} {cs B:List Value} {L L':Led.Ledger} {E F:List (Led.Entry × Value)} {U G:List (Led.Bundle × Value)} (h:ed g w cs L E U) (C:ed A w B L' F G) (D:Chg [A] w w') (H:g≠A):ed g w' cs L E U :=
 ⟨h.blk.chg D (by simpa using H),h.len,h.at_.past D C.blk C.at_.slices⟩
theorem ed.put2{g:Nat} {w w':World} {cs A:List Value} {L L':Led.Ledger} {E G:List (Led.Entry × Value)} {U H:List (Led.Bundle × Value)} (h:ed g w cs L E U) (I:eD w w') (C:cZ w' A L' G H) :
  ∃ D,(gQ (.pointer (some ⟨g,0,none⟩)) (.agg A.toArray)).run prog w'=.ok () D/\ed g D A L' G H/\Chg [g] w' D:=by
 obtain⟨F,B⟩:=cH (h.blk.below I) h.len (vs:=A) C.len C.ones
 have J:Chg [g] w' (w'.setCells g 0 A):=(Chg.refl _ _).setCells _ (.inl (by simp))
 exact⟨_,F,⟨B,C.len,C.past J (h.blk.below I) h.at_.slices⟩,J⟩
theorem pS(A:Option Addr) (n c:Nat) (L:List OpV) (M:Nat) (w:World) (hT:Tab Sha.kkL w) (hd:iF w A n L) (hM:M<=1000) :
  Calls prog 11 #[.slice A n c,.int .i64 (M:Int)] w (Made w):=by
 have HD:=hO hd
 have HL:=hO hd.len
 have HT:=hO hT
 obtain⟨Z,hZ⟩:=eA (aE (.slice none 0 0))
 have Af:Z.length=6:=by rw [<-hZ]; rfl
 obtain⟨d,S⟩:=eA ((((w.alloc (.cells Z.toArray 30)).alloc (.cells Z.toArray 30)).alloc (.cells Z.toArray 30)).alloc (.cells Z.toArray 30))
 have b0:Blk d w.heap.size Z 30:=by rw [<-S]; exact(((Blk.new _ _ _).alloc _).alloc _).alloc _
 have b1:Blk d (w.heap.size+1) Z 30:=by
  have:=Blk.new (w.alloc (.cells Z.toArray 30)) Z 30; rw [<-S]; exact Blk.alloc (Blk.alloc (by simpa using this) _) _
 have b2:Blk d (w.heap.size+2) Z 30:=by
  have:=Blk.new ((w.alloc (.cells Z.toArray 30)).alloc (.cells Z.toArray 30)) Z 30; rw [<-S]; exact Blk.alloc (by simpa using this) _
 have b3:Blk d (w.heap.size+3) Z 30:=by
  have:=Blk.new (((w.alloc (.cells Z.toArray 30)).alloc (.cells Z.toArray 30)).alloc (.cells Z.toArray 30)) Z 30; rw [<-S]; simpa using this
 have AO:eD w d:=by rw [<-S]; exact((eH.alloc (by simp) _).alloc (by simp; omega) _).alloc (by simp; omega) _
 have Bu:d.heap.size=w.heap.size+4:=by rw [<-S]; simp
 have AP:ed (w.heap.size+2) d Z none' [] []:=⟨b2,Af,by rw [<-hZ]; exact lv_lg d⟩
 have AQ:ed (w.heap.size+3) d Z none' [] []:=⟨b3,Af,by rw [<-hZ]; exact lv_lg d⟩
 have K:Hid (fl d Z [] []/\fl d Z [] []):=by
  have h0:fl d Z [] []:=by
   refine⟨fun v hv=>?_,fun p hp=>(by cases hp),fun p hp=>(by cases hp)⟩; rw [<-hZ] at hv; simp only [aE,List.mem_cons,List.not_mem_nil,or_false] at hv; rcases hv with rfl|rfl|rfl|rfl|rfl|rfl <;> exact fun a n c e _=>by cases e
  exact hO ⟨h0,h0⟩
 have HZ:=hO hZ
 have AR:Hid ((((w.alloc (.cells #[.slice none 0 0,.slice none 0 0,.slice none 0 0,.slice none 0 0,.slice none 0 0,.slice none 0 0] 30)).alloc (.cells #[.slice none 0 0,.slice none 0 0,.slice none 0 0,.slice none 0 0,.slice none 0 0,.slice none 0 0] 30)).alloc (.cells #[.slice none 0 0,.slice none 0 0,.slice none 0 0,.slice none 0 0,.slice none 0 0,.slice none 0 0] 30)).alloc (.cells #[.slice none 0 0,.slice none 0 0,.slice none 0 0,.slice none 0 0,.slice none 0 0,.slice none 0 0] 30)=d):=hO (by rw [<-S,<-hZ]; rfl)
 have HR:=hO (show Blk d w.heap.size Z 30/\Blk d (w.heap.size+1) Z 30 from⟨b0,b1⟩)
 have N:=hO AP
 have H:=hO AQ
 clear S hd hT b0 b1 b2 b3 AP AQ hZ
 go_enter func11,ntmps11
 go_upto_region 2 with fail
 rw [AR.out]
 clear AR
 go_wp2_with fail
 go_loopw [9] (fun i wx=>∃ (j:Nat) (D E:List Value) (m:Led.Ledger) (E1:List (Led.Entry × Value)) (U1:List (Led.Bundle × Value)) (E2:List (Led.Entry × Value)) (U2:List (Led.Bundle × Value)),j<=n/\j<=M/\i=.int .i64 (j:Int)/\eD w wx/\w.heap.size+4<=wx.heap.size/\Hid (ed (w.heap.size+2) wx D m E1 U1)/\Hid (ed (w.heap.size+3) wx E m E2 U2)/\Hid (Blk wx w.heap.size Z 30/\Blk wx (w.heap.size+1) Z 30)/\Hid m.Wf/\Hid (fl wx D E1 U1/\fl wx E E2 U2)/\Hid (∀ b∈m.bundles,aD b=true)) (fun i _=>n - (intOf i).toNat)
 case atStart=>exact⟨0,_,_,_,_,_,_,_,by omega,by omega,rfl,AO,by omega,N,H,HR,hO oI,K,hO (fun b y=>by cases y)⟩
 case round =>
  clear AO N H HR Bu K; obtain⟨j,D,E,m,E1,U1,E2,U2,hj,BK,rfl,f,BL,N,H,HR,z,K,A9⟩:=hrel; obtain⟨wx,Bv⟩:∃ wx,wx=wr:=⟨_,rfl⟩; subst Bv; have AA:(j<n/\(j:Int)<(n:Int)/\(j:Int)<(M:Int))\/(¬ (j:Int)<(n:Int))\/((j:Int)<(n:Int)/\¬ (j:Int)<(M:Int)):=by omega
  rcases AA with⟨Bw,AS,Bx⟩|AA
  .have AT:j<L.length:=by rw [HL.out]; exact Bw
   obtain⟨bk,ok,rfl,BM,AU⟩:=ldOp_es HD.out.es AT; have As:=AU wx f; have AV:Hid (L[j].In wx):=hO (qK.below (HD.out.each _ (List.getElem_mem AT)) f); generalize L[j]=x at *; have HC:=hO (qw x wx AV.out); obtain⟨CX,AW⟩:=eC ((fT x).toArray); rw [AW.out] at As HC; clear AU AV AW; go_wp2_with fail
   refine HC.out.mono ?_; rintro e w1 ⟨A1,c1,A2,c2,KK,rfl,f1,f2,t1,t2,AX,Ag⟩; clear HC As; obtain⟨Ah,AY⟩:=nw (fun x r h=>by rw [h,Sha.lI]; omega) AX
   have Ai:=hO Ah; have AZ:=hO AY; have g:=hO (show (jY x.o KK).entry.sels.length<=1000/\(jY x.o KK).bundle.keys.length<=1000 from⟨Ah.el,Ah.ul⟩); generalize jY x.o KK=o at *; have At:=dg (L:=o.entry.sels) (by rw [gP]; exact t1)
   have Au:=aY (enc:=aV) (L:=o.bundle.keys) t2; obtain⟨O,Ba,B2,k⟩:=new_opv w1 (ah o (.slice A1 (min x.ns 6) c1) (.slice A2 (min x.nk 9) c2)) rfl (ky _ _ _ _ _ _ _); have Aj:=hO (At.below k); have Ak:=hO (Au.below k); have G:=Ag.trans (k.mono Ag.size); have J:eD w O:=f.trans (G.mono f.size); have AB:=N.out.below G; have Aa:=hO (H.out.below G); have Al:=hO (show Blk O w.heap.size Z 30/\Blk O (w.heap.size+1) Z 30 from⟨HR.out.1.below G,HR.out.2.below G⟩); have q0:O.cell? ⟨w1.heap.size,0,none⟩=some (.int .i64 o.kind):=B2.cell 0; have AC:=fy B2 rfl; have AD:=AB.load; have AE:=hO B2; have F:=hO AB; have T:Hid (o.kind<=100->Calls prog 14 #[.agg D.toArray,.agg (ah o (.slice A1 (min x.ns 6) c1) (.slice A2 (min x.nk 9) c2)).toArray] O (iG (fun r=>r=does (aD o.bundle) m o) m O)):=hO fun h=>by
    rw [<-pmay_eq]; exact iw D m E1 U1 o _ _ O F.out.at_ z.out Ai.out h Aj.out Ak.out AZ.out (HT.out.below J)
   have Ab:Hid (fl O D E1 U1/\fl O E E2 U2):=hO ⟨K.out.1.below G,K.out.2.below G⟩; have Am:Hid (Nop O (.slice A1 (min x.ns 6) c1)/\Nop O (.slice A2 (min x.nk 9) c2)):=hO ⟨(Nop.own t1 (by decide)).below k,(Nop.own t2 (by decide)).below k⟩; have By:=Ag.size; have BE:=k.size; clear Ah AY t1 t2 AX At Au AZ Ag k G AB B2 f1 f2 N H HR K; obtain⟨CO,An⟩:=eC ((ah o (.slice A1 (min x.ns 6) c1) (.slice A2 (min x.nk 9) c2)).toArray); rw [An.out] at Ba AC T; obtain⟨CL,Bz⟩:=eC (D.toArray); rw [Bz.out] at AD T; rw [An.out]; by_cases Av:o.kind<=100
   .have Bb:¬ (100:Int)<o.kind:=by omega
    have Bc:=T.out Av; clear T; go_wp2_with fail
    refine Bc.mono ?_; rintro e w3 ⟨r,hr,vE,vN,vB,vJ,vK,vU,E',U',rfl,Ao,C⟩; have Ac:(does (aD o.bundle) m o).1.Wf:=oR z.out g.out.1 g.out.2; have Bd:Hid (∀ b∈r.1.bundles,aD b=true):=hO (by rw [hr]; exact does_may A9.out)
    rw [hr,jU] at Ao; obtain⟨R,Be,l,B⟩:=F.out.put2 C Ao.at; have B3:=AE.out.below C; have B4:=B3.chg B (by simp; omega)
    have U:=hO ((Aa.out.below C).past (F.out.below C) B (by omega)); have AF:=hO (show Blk R w.heap.size Z 30/\Blk R (w.heap.size+1) Z 30 from⟨(Al.out.1.below C).chg B (by simp),(Al.out.2.below C).chg B (by simp)⟩); have Ad:Hid (fl R [vE,vN,vB,vJ,vK,vU] E' U'/\fl R E E2 U2):=hO ⟨Ao.nops.turn B l.blk (by decide),(Ab.out.2.below C).turn B l.blk (by decide)⟩; have Aw:=(Am.out.1.below C).turn B l.blk (by decide); have Ax:=(Am.out.2.below C).turn B l.blk (by decide); have Ay:=U.out.load; have Az:=fy B4 rfl; have q:eD w R:=(J.trans (C.mono J.size)).trans (B.below' (by have:=J.size; have:=C.size; omega) (by simp))
    have V:=rapply_any E m E2 U2 o _ _ R U.out.at_ z.out Ai.out ((Aj.out.below C).past B (F.out.below C).blk (F.out.below C).at_.slices) ((Ak.out.below C).past (fun x=>⟨_,_,rfl,fun _ _ _ e=>by cases e⟩) B (F.out.below C).blk (F.out.below C).at_.slices) Ad.out.2 Aw Ax; have B0:Hid ((does (aD o.bundle) m o)=r):=hO hr.symm; rw [B0.out] at Ac l V; rw [An.out] at Az V; obtain⟨CM,B1⟩:=eC (E.toArray); rw [B1.out] at Ay V; have Bf:=hO Ac; have Bg:=hO l; have B5:=hO B4; have BF:=C.size; have BG:=B.size; clear hr Ao B C Bc AC AD Ba F Aa AE B3 B4 l Ac J Bb Al Aj Ak Ai g f Aw Ax Am Ab; obtain⟨er,B6⟩:=eC (r.2); go_wp2_with fail
    refine V.mono ?_; rintro e w5 ⟨AG,E5,U5,rfl,AH,A0,A3,I⟩; obtain⟨w6,A4,t,X⟩:=U.out.put2 I A0; have s:=(Bg.out.below I).past (U.out.below I) X (by omega); have Ae:Hid (fl w6 [vE,vN,vB,vJ,vK,vU] E' U'/\fl w6 AG E5 U5):=hO ⟨(Ad.out.1.below I).turn X t.blk (by decide),A3.turn X t.blk (by decide)⟩; have AI:=hO (show Blk w6 w.heap.size Z 30/\Blk w6 (w.heap.size+1) Z 30 from⟨(AF.out.1.below I).chg X (by simp),(AF.out.2.below I).chg X (by simp)⟩); have A5:eD w w6:=(q.trans (I.mono q.size)).trans (X.below' (by have:=q.size; have:=I.size; omega) (by simp))
    have AJ:=s.load; have Ap:=t.load; have AK:=mw _ _ _ _ _ _ _ w6 s.at_ t.at_; have A6:=hO s; have Bh:=hO t; have BH:=I.size; have BI:=X.size; clear V Az Ay Be U AF A0 AH A3 Ad I X s t Bg q B5; obtain⟨CP,Bi⟩:=eC (AG.toArray); rw [Bi.out] at A4 Ap AK; rw [Bi.out,B6.out]; go_wp2_with fail
    refine AK.mono ?_; rintro e w7 ⟨rfl,Q⟩; have Bj:=A5.trans (Q.mono A5.size); have B7:=hO (A6.out.below Q); have B8:=hO (Bh.out.below Q); have Bk:Hid (fl w7 [vE,vN,vB,vJ,vK,vU] E' U'/\fl w7 AG E5 U5):=hO ⟨Ae.out.1.below Q,Ae.out.2.below Q⟩; have B9:=hO (show Blk w7 w.heap.size Z 30/\Blk w7 (w.heap.size+1) Z 30 from⟨AI.out.1.below Q,AI.out.2.below Q⟩); have BJ:=Q.size; have BN:(er != er)=false:=by simp
    clear AJ Ap A4 A6 Bh AI Q AK Ae; go_wp2_with fail
    go_roundw
    case rel=>exact⟨j+1,_,_,_,_,_,_,_,by omega,by omega,by go_num,Bj,by omega,B7,B8,B9,Bf,Bk,Bd⟩
    case measure=>simp [intOf]; omega
   .have Bb:(100:Int)<o.kind:=by omega
    clear T An AC AD AE Av Aj Ak Ai Am; go_wp2_with fail
    go_roundw
    case rel=>exact⟨j+1,_,_,_,_,_,_,_,by omega,by omega,by go_num,J,by omega,F,Aa,Al,z,Ab,A9⟩
    case measure=>simp [intOf]; omega
  .obtain⟨b0,b1⟩:=HR.out
   have AJ:=N.out.load; have Ap:=H.out.load; have AL:eD wx wx.drew:=(Below.refl _ wx).drew; have f0:=(N.out.below AL).load; have f1:=(H.out.below AL).load; have Aq:Hid (∀ O,eD wx O->∃ w3 R,(gQ (.pointer (some ⟨w.heap.size,0,none⟩)) (.agg D.toArray)).run prog O=.ok () w3/\(jJ (.pointer (some ⟨w.heap.size+3,0,none⟩))).run prog w3=.ok (.agg E.toArray) w3/\(gQ (.pointer (some ⟨w.heap.size+1,0,none⟩)) (.agg E.toArray)).run prog w3=.ok () R/\Has R w.heap.size 0 6/\Has R (w.heap.size+1) 0 6/\Mem.arr R w.heap.size 0 6=D.toArray/\Mem.arr R (w.heap.size+1) 0 6=E.toArray/\cZ R D m E1 U1/\cZ R E m E2 U2/\eD w R/\Hid (fl R D E1 U1/\fl R E E2 U2)):=hO fun O y=>by
    have Ar:∀ u∈Z,∃ A n c,u=.slice A n c:=by rw [<-HZ.out]; simp [aE]
    have h1:=N.out.at_; have h2:=H.out.at_; obtain⟨Bl,B3⟩:=cH (b0.below y) Af (vs:=D) h1.len h1.ones; have Y:Chg [w.heap.size] O (O.setCells w.heap.size 0 D):=(Chg.refl _ _).setCells _ (.inl (by simp)); have AM:=(b1.below y).chg Y (by simp); obtain⟨Bm,B4⟩:=cH AM Af (vs:=E) h2.len h2.ones; have B:Chg [w.heap.size+1] (O.setCells w.heap.size 0 D) ((O.setCells w.heap.size 0 D).setCells (w.heap.size+1) 0 E):=(Chg.refl _ _).setCells _ (.inl (by simp)); have Bn:=B3.chg B (by simp); refine⟨_,_,Bl,dD (((H.out.below y).blk).chg Y (by simp)) h2.len,Bm,Bn.has h1.len,B4.has h2.len,Bn.arr h1.len,B4.arr h2.len,((h1.below y).past Y (b0.below y) Ar).past B AM Ar,((h2.below y).past Y (b0.below y) Ar).past B AM Ar,?_,hO ⟨((K.out.1.below y).turn Y B3 (by decide)).turn B B4 (by decide),((K.out.2.below y).turn Y B3 (by decide)).turn B B4 (by decide)⟩⟩; have AN:=f.trans (y.mono f.size); exact(AN.trans (Y.below' AN.size (by simp))).trans (B.below' (Nat.le_trans AN.size Y.size) (by simp))
   clear b0 b1 HR N H HZ K; obtain⟨CA,Bo⟩:=eC (D.toArray); obtain⟨CB,Bp⟩:=eC (E.toArray); rw [Bo.out] at f0 Aq; rw [Bp.out] at f1 Aq; obtain⟨w3,R,Bl,BO,Bm,hH,Bq,hA,Br,A7,A8,BA,Bt⟩:=Aq.out wx.drew AL; have HA:=hO hA; have BB:=hO Br; have H1:=hO A7; have H2:=hO A8; have BC:=hO hH; have BD:=hO Bq; clear hA Br A7 A8 hH Bq Aq AJ Ap; rcases AA with AS|⟨AS,Bx⟩
   all_goals
    go_upto_region 14 with fail
    go_region_with (fail)
    all_goals
     (try go_wp2)
     refine bodyPost_ret (ti (P:=prog) Tryz.results11 _ _ w.heap.size (w.heap.size+1) 6 _ rfl rfl underlying30 rfl bQ BC.out BD.out) rfl ?_; exact⟨D,E,m,E1,U1,E2,U2,by rw [HA.out,BB.out,Bo.out,Bp.out]; rfl,H1.out,H2.out,z.out,BA,Bt,A9⟩
theorem two_lg(w:World) {A B:List Value} (N:A.length=6) (O:∀ v∈A,v.oneCell'=true) (Q:B.length=6) (R:∀ v∈B,v.oneCell'=true) :
  ∃ L F,(gQ (.pointer (some ⟨w.heap.size,0,none⟩)) (.agg A.toArray)).run prog ((w.alloc (.cells #[.slice none 0 0,.slice none 0 0,.slice none 0 0,.slice none 0 0,.slice none 0 0,.slice none 0 0] 30)).alloc (.cells #[.slice none 0 0,.slice none 0 0,.slice none 0 0,.slice none 0 0,.slice none 0 0,.slice none 0 0] 30))=.ok () L /\
   (gQ (.pointer (some ⟨w.heap.size+1,0,none⟩)) (.agg B.toArray)).run prog L=.ok () F/\Blk F w.heap.size A 30/\Blk F (w.heap.size+1) B 30/\eD w F:=by
 obtain⟨W,G⟩:=eA ((w.alloc (.cells (aE (.slice none 0 0)).toArray 30)).alloc (.cells (aE (.slice none 0 0)).toArray 30))
 have S:Blk W w.heap.size (aE (.slice none 0 0)) 30:=by rw [<-G]; exact(Blk.new _ _ _).alloc _
 have T:Blk W (w.heap.size+1) (aE (.slice none 0 0)) 30:=by
  have:=Blk.new (w.alloc (.cells (aE (.slice none 0 0)).toArray 30)) (aE (.slice none 0 0)) 30; rw [<-G]; simpa using this
 have H:eD w W:=by rw [<-G]; exact eH.alloc (by simp) _
 obtain⟨D,M⟩:=cH S rfl N O
 have C:Chg [w.heap.size] W (W.setCells w.heap.size 0 A):=(Chg.refl _ _).setCells _ (.inl (by simp))
 obtain⟨I,J⟩:=eA (W.setCells w.heap.size 0 A)
 rw [J] at D M C
 obtain⟨K,U⟩:=cH (T.chg C (by simp)) rfl Q R
 have E:Chg [w.heap.size+1] I (I.setCells (w.heap.size+1) 0 B):=(Chg.refl _ _).setCells _ (.inl (by simp))
 refine⟨I,_,?_,K,M.chg E (by simp),U,(H.trans (C.below' H.size (by simp))).trans (E.below' (Nat.le_trans H.size C.size) (by simp))⟩
 have e:(w.alloc (.cells #[.slice none 0 0,.slice none 0 0,.slice none 0 0,.slice none 0 0,.slice none 0 0,.slice none 0 0] 30)).alloc (.cells #[.slice none 0 0,.slice none 0 0,.slice none 0 0,.slice none 0 0,.slice none 0 0,.slice none 0 0] 30)=W:=G
 rw [e]
 exact D
end
section
open Go.ChangeShapes Go.WideShapes Go.ChangeAt Go.RowKit
theorem mS {W : World} {r : List (String × DataW Unit)} (h : laidMet prog (("brevet/sha.steps", Rows.laid_brevet_sha_steps) :: r) W) : Tab Sha.kkL W := by
 obtain⟨Z,L,A⟩:∃ Z:List Int,(Rows.laid_brevet_sha_steps:DataW Unit)=.agg (Z.map fun n=>.lit (.int .u64 n))/\Z.length=80/\((List.range 64).all fun t=>decide (0<=Z.getD t 0)&&decide ((Z.getD t 0).toNat<18446744073709551616)&&decide ((Z.getD t 0).toNat / 4294967296=Sha.kkL.getD t 0))=true :=
  ⟨(match (Rows.laid_brevet_sha_steps:DataW Unit) with|.agg l=>l.map (fun d=>match d with|.lit (.int _ n)=>n|_=>0)|_=>[]),by kernel_rfl,by kernel_rfl,by kernel_rfl⟩
 obtain⟨M,A⟩:=A
 obtain⟨T,⟨g,t,cs,fuel,p,q,E,ht,N,hd,_,_⟩,_,_⟩:=h
 obtain rfl := Option.some.inj ((show prog.globalNamed "brevet/sha.steps" = some 1 by kernel_rfl).symm.trans E)
 obtain rfl:=Option.some.inj ((show (prog.globals[1]?).map (·.type)=some 292 by kernel_rfl).symm.trans ht)
 obtain⟨xs,m,_,F,_,U,D⟩:=DataW.trod_array underlying292 hd
 have O:prog.cellsOf 151=1:=by kernel_rfl
 intro k Q
 have C:k<80:=by omega
 have G:=D k C
 rw [O,Nat.mul_one,List.getElem?_eq_getElem (by omega)] at G
 obtain⟨z,R,e2,_⟩:=DataW.trod_int underlying151 G
 rw [L] at F
 have e3:(xs.map (·.1))=Z.map fun n=>.lit (.int .u64 n):=(DataW.agg.inj (Prod.mk.inj F).1).symm
 have e4:(xs.map (·.1))[k]?=(Z.map fun n=>(DataW.lit (.int .u64 n):DataW Unit))[k]?:=by rw [e3]
 rw [List.getElem?_map,List.getElem?_map,List.getElem?_eq_getElem (by omega:k<xs.length),List.getElem?_eq_getElem (by omega:k<Z.length),e2] at e4
 have S:z=Z.getD k 0:=by
  simp only [Option.map_some,Option.some.injEq,DataW.lit.injEq,Lit.int.injEq,true_and] at e4; rw [e4,List.getD,List.getElem?_eq_getElem (by omega:k<Z.length)]; rfl
 have B:W.cell? ⟨1,k,none⟩=some (.int .u64 z):=by
  rw [World.var?_cell E N k]; have:cs.toList[k]?=some (.int .u64 z):=by
   have h0:((cs.toList.drop k).take 1)[0]?=some (.int .u64 z):=by rw [R]; rfl
   simpa using h0
  simpa using this
 have H:=List.all_eq_true.1 A k (List.mem_range.2 Q)
 simp only [Bool.and_eq_true,decide_eq_true_eq] at H
 obtain⟨⟨I,J⟩,K⟩:=H
 rw [<-S] at I J K
 exact⟨z.toNat,by rw [B,Int.toNat_of_nonneg I],J,K⟩
end
section
open Go.RowKit Mem Led
def Rm (w:World) (base:Nat) (e:TypeId) (k:Nat) (A:Option Addr) (n:Nat):Prop :=
 n=0\/∃ g M,A=some ⟨g,0,none⟩/\base<=g/\Blk w g M e/\n * k<=M.length
def Rm2 (w:World) (base:Nat) (e:TypeId) (k f:Nat) (ei:TypeId) (ki:Nat) (A:Option Addr) (n:Nat):Prop :=
 n=0\/∃ g M,A=some ⟨g,0,none⟩/\base<=g/\Blk w g M e/\n * k<=M.length/\∀ j,j<n->∃ B m c,M[j * k+f]?=some (.slice B m c)/\m<=9223372036854775807/\Rm w base ei ki B m
theorem jq{w:World} {g B:Nat} {M M':List Value} {e e':TypeId} (h:Blk w g M e) (A:Blk w B M' e') (C:e≠e'):g≠B:=fun D=>by
 subst D
 unfold Blk at h A
 rw [h] at A
 injection A with A
 injection A with _ h2 _
 exact C h2
section
variable {w w':World} {base b:Nat} {e e' ei:TypeId} {k f ki n g o:Nat} {A:Option Addr} {u:Value} {M':List Value}
theorem Rm.set(h:Rm w base e k A n):Rm (w.setCell ⟨g,o,none⟩ u) base e k A n:=by
 rcases h with h|⟨B,M,C,D,E,F⟩
 .exact .inl h
 .by_cases G:B=g
  .subst G
   exact .inr ⟨B,M.set o u,C,D,E.set o u,by rw [List.length_set]; exact F⟩
  .exact .inr ⟨B,M,C,D,E.set_ne (p:=⟨g,o,none⟩) G u,F⟩
theorem Rm.below(h:Rm w base e k A n) (C:eD w w'):Rm w' base e k A n:=by
 rcases h with h|⟨D,M,E,B,F,G⟩
 .exact .inl h
 .exact .inr ⟨D,M,E,B,F.below C,G⟩
theorem Rm.at(h:Rm w base e k A n) {j:Nat} (C:j<n) (H:f<k) :
  ∃ g,A=some ⟨g,0,none⟩/\base<=g/\(∃ u,w.cell? ⟨g,j * k+f,none⟩=some u)/\w.frozen? ⟨g,j * k+f,none⟩=false/\∃ M,Blk w g M e:=by
 rcases h with h|⟨D,M,E,F,B,I⟩
 .omega
 .have:j * k+f<M.length:=by
   have G:(j+1) * k<=n * k:=Nat.mul_le_mul_right _ C; rw [Nat.succ_mul] at G; omega
  exact⟨D,E,F,⟨M[j * k+f],by rw [B.cell,List.getElem?_eq_getElem this]⟩,B.froz _,M,B⟩
theorem Rm2.rm(h:Rm2 w base e k f ei ki A n):Rm w base e k A n:=by
 rcases h with h|⟨B,M,C,D,E,F,_⟩
 .exact .inl h
 .exact .inr ⟨B,M,C,D,E,F⟩
theorem Rm2.below(h:Rm2 w base e k f ei ki A n) (C:eD w w'):Rm2 w' base e k f ei ki A n:=by
 rcases h with h|⟨D,M,E,B,F,G,hi⟩
 .exact .inl h
 .exact .inr ⟨D,M,E,B,F.below C,G,fun j H=>by
   obtain⟨I,m,c,J,K,L⟩:=hi j H; exact⟨I,m,c,J,K,L.below C⟩⟩
theorem Rm2.set(h:Rm2 w base e k f ei ki A n) (C:Blk w g M' e') (D:e≠e'):Rm2 (w.setCell ⟨g,o,none⟩ u) base e k f ei ki A n:=by
 rcases h with h|⟨E,M,F,G,B,H,hi⟩
 .exact .inl h
 .exact .inr ⟨E,M,F,G,B.set_ne (p:=⟨g,o,none⟩) (jq B C D) u,H,fun j I=>by
   obtain⟨J,m,c,K,L,N⟩:=hi j I; exact⟨J,m,c,K,L,N.set⟩⟩
theorem mul_add_inj{k i j f f':Nat} (B:f<k) (A:f'<k) (h:i * k+f=j * k+f'):f=f':=by
 have C:(i * k+f) % k=f:=by rw [Nat.add_comm,Nat.add_mul_mod_self_right,Nat.mod_eq_of_lt B]
 have D:(j * k+f') % k=f':=by rw [Nat.add_comm,Nat.add_mul_mod_self_right,Nat.mod_eq_of_lt A]
 rw [<-C,<-D,h]
theorem Rm2.put(h:Rm2 w base e k f ei ki (some ⟨g,0,none⟩) n) {j' f':Nat} (E:f<k) (B:f'<k) (C:f≠f'):Rm2 (w.setCell ⟨g,j' * k+f',none⟩ u) base e k f ei ki (some ⟨g,0,none⟩) n:=by
 rcases h with h|⟨N,M,A,F,D,G,hi⟩
 .exact .inl h
 .injection A with A
  injection A with A _
  subst A; exact .inr ⟨g,M.set (j' * k+f') u,rfl,F,D.set _ u,by rw [List.length_set]; exact G,fun j H=>by
   obtain⟨I,m,c,J,K,L⟩:=hi j H; exact⟨I,m,c,by rw [List.getElem?_set_ne (fun h=>C (mul_add_inj E B h.symm))]; exact J,K,L.set⟩⟩
theorem Rm2.at(h:Rm2 w base e k f ei ki A n) {j:Nat} (D:j<n) :
  ∃ g B m c,A=some ⟨g,0,none⟩/\base<=g/\w.cell? ⟨g,j * k+f,none⟩=some (.slice B m c)/\m<=9223372036854775807/\Rm w base ei ki B m/\(∃ M,Blk w g M e):=by
 rcases h with h|⟨E,M,F,G,C,K,hi⟩
 .omega
 .obtain⟨B,m,c,H,I,J⟩:=hi j D
  exact⟨E,B,m,c,F,G,by rw [C.cell]; exact H,I,J,M,C⟩
theorem ne{v:Value} {xs:List Value} (h:w.ownsRow base e k v n xs):∃ A c,v=.slice A n c/\Rm w base e k A n:=by
 rcases aW h with⟨rfl,rfl,rfl⟩|⟨g,c,M,rfl,B,_,C,D,_,E,_⟩
 .exact⟨_,_,rfl,.inl rfl⟩
 .exact⟨_,_,rfl,.inr ⟨g,M,rfl,B,C,by rw [E]; exact Nat.mul_le_mul_right _ D⟩⟩
theorem pt{α:Type} {enc:α × Value->List Value} {E:List (α × Value)} {v:Value} (H:∀ x,(enc x).length=k) (B:∀ x,(enc x)[f]?=some x.2) (I:f<k) (h:w.ownsRow base e k v n (af enc E)) (V:E.length=n)
  (hi:∀ p∈E,∃ m xs,w.ownsRow base ei ki p.2 m xs):∃ A c,v=.slice A n c/\Rm2 w base e k f ei ki A n:=by
 rcases aW h with⟨rfl,rfl,_⟩|⟨g,c,M,rfl,J,_,K,L,_,N,D⟩
 .exact⟨_,_,rfl,.inl rfl⟩
 .refine⟨_,_,rfl,.inr ⟨g,M,rfl,J,K,by rw [N]; exact Nat.mul_le_mul_right _ L,fun j O=>?_⟩⟩
  have C:j<E.length:=by omega
  obtain⟨m,xs,F⟩:=hi _ (List.getElem_mem C); obtain⟨X,Y,Z,b,d⟩:=ak F; obtain⟨Q,R,S,T⟩:=ne F; refine⟨Q,m,R,?_,by omega,T⟩; have G:=jF H (enc:=enc) C I; have U:(j+1) * k<=n * k:=Nat.mul_le_mul_right _ O; rw [Nat.succ_mul] at U; rw [<-D,List.getElem?_take,if_pos (by omega)] at G; rw [G,B,S]
end
end
end Go.Proofs.YtmbpnkacggngkaaGreatDoor
