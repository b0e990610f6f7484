/- THE WALK of LedgerBans. -/
import Derived.Test.YtmbpnkacggngkaaGreatDoorLX16
set_option maxRecDepth 100000
set_option maxHeartbeats 16000000
namespace Go.Proofs.YtmbpnkacggngkaaGreatDoor
open Batch
open Go.Proofs.Tryz
section
open Go.RowKit Mem Led
theorem any_snoc(l:List Txt) (s:Txt) (q:Nat) (h:q<l.length):(l.take (q+1)).any (·==s)=((l.take q).any (·==s)||l[q]==s):=by
 rw [List.take_succ_eq_append_getElem h,List.any_append]
 simp
theorem bans_at(A:Option Addr) (n c:Nat) (L:List OpV) (A2:Option Addr) (n2 c2:Nat) (L2:List OpV) (t C:Txt) (w:World) (hT:Tab Sha.kkL w) (hd:iF w A n L) (Ar:iF w A2 n2 L2) (hz:t.length<=9223372036854775807) (ht:(t.length<=60/\C=t)\/(60<t.length/\C=few t)) :
  Calls prog 7 #[.slice A n c,.string (str t),.slice A2 n2 c2] w fun e w'=>e=.returned (.bool true)/\eD w w':=by
 have hm:=pS A n c L 25 w hT hd (by omega)
 have Ah:=hO (aJ t)
 have HT:=hO hT
 have HD:=hO Ar
 have HL:=hO Ar.len
 have Bm:Hid (C.length<=9223372036854775807):=hO (by
  rcases ht with⟨_,rfl⟩|⟨_,rfl⟩
  .exact hz
  .have:=mI t; omega)
 have A8:∀ w',60<t.length->(Instr.slice 9 (.string (str t)) none (some (.int .i64 60)) none).run prog w'=.ok (.string (str (Led.few t))) w':=fun w' h=>by
  have h1:60<(str t).size:=by rw [Ah.out]; omega
  have e:(str t).extract 0 60=str (Led.few t):=by
   apply ByteArray.ext
   apply Array.toList_inj.1
   simp [str,Led.few]
  have hj:(0:Int)<=60/\(60:Int)<=((str t).size:Int):=⟨by omega,by omega⟩; rw [<-e]; simp [Instr.slice,Instr.sliceBounds,Instr.sliceBound,asIntOf,run_underlying underlying9,hj]
 have A9:=hO A8
 have Q:=hO ht
 clear hT hd Ar A8 ht hz
 go_enter func7,ntmps7
 go_wp2_with fail
 refine hm.mono ?_
 rintro e w1 ⟨As,Bn,F,E1,U1,E2,U2,rfl,N,g,AA,K,_,_⟩
 obtain⟨w3,Y,AC,AD,B1,B2,At⟩:=two_lg w1 N.len N.ones g.len g.ones
 have l:=K.trans (At.mono K.size)
 have hV:ed w1.heap.size Y As F E1 U1:=⟨B1,N.len,N.below At⟩
 have AE:=hV.load
 have HV:=hO hV
 have H:=hO AA
 have AF:w.heap.size<=w1.heap.size:=K.size
 have Bo:w1.heap.size<Y.heap.size:=B1.lt
 obtain⟨CA,Au⟩:=eC (As.toArray)
 obtain⟨CB,AG⟩:=eC (Bn.toArray)
 rw [Au.out] at AC AE ⊢
 rw [AG.out] at AD ⊢
 clear hm N g AA B1 B2 At K hV
 go_upto_if 26 with fail
 clear AC AD
 generalize w1.heap.size=G at *
 go_cut [1] (fun s1 wx=>s1=.string (str C)/\Y=wx)
 case first =>
  rcases Q.out with⟨m,he⟩|⟨m,he⟩
  .have h1:(str t).size<=60:=by rw [Ah.out]; exact m
   have Bp:decide ((60:Int)<((str t).size:Int))=false:=by simp; omega
   have HE:=hO he; clear he m; go_wp2_with fail
   go_meet
   case rel=>exact⟨by rw [HE.out],rfl⟩
  .have h1:60<(str t).size:=by rw [Ah.out]; omega
   have Bp:decide ((60:Int)<((str t).size:Int))=true:=by simp; omega
   have hs:=fun w'=>A9.out w' m; have HE:=hO he; clear he m; go_wp2_with fail
   go_meet
   case rel=>exact⟨by rw [HE.out],rfl⟩
 case rest =>
  obtain⟨rfl,Bq⟩:=hcut; obtain⟨wa,Br⟩:∃ wa,wa=wc:=⟨_,rfl⟩; subst Br; subst Bq; have R:=iw As F E1 U1 { lv with kind:=6,name:=C } (.slice none 0 0) (.slice none 0 0) Y HV.out.at_ H.out ⟨Bm.out,Nat.zero_le _,Nat.zero_le _,by(intro x hx; cases hx),Nat.zero_le _,Nat.zero_le _,Nat.zero_le _,Nat.zero_le _,Nat.zero_le _,Nat.zero_le _⟩ (show (6:Int)<=100 by decide) (pU Y).1 (pU Y).2.1 (by intro k hk; cases hk) (HT.out.below l)
  rw [Au.out] at R; unfold ah lv at R; clear Q A9 Ah Au AG; go_wp2_with fail
  refine R.mono ?_; rintro e w5 ⟨r,hr,vE,vN,vB,vJ,vK,vU,E',U',rfl,M,u⟩; have Av:r=cX F C:=hr; have I:(cX F C).1.Wf:=by
   have:=oR (ok:=Led.eS lv.bundle) (o:={ lv with kind:=6,name:=C }) H.out (Nat.zero_le _) (Nat.zero_le _); exact this
  rw [hr,jU,<-hr] at M; obtain⟨w6,AH,AI,Aw⟩:=HV.out.put2 u M.at; have O:eD w w6:=(l.trans (u.mono l.size)).trans (Aw.below' (by have:=l.size; have:=u.size; omega) (by simpa using AF))
  have AJ:G<w6.heap.size:=by have:=u.size; have:=Aw.size; omega
  have Ax:=hO AI; rw [<-Av] at I; have B:=hO I; have HR:=hO Av; obtain⟨er,y⟩:=eC (r.2); rw [y.out]; clear R AE hr Av M Aw u AI I HV H l Bo; by_cases hz:er=0
  .have HB:Hid (C∈r.1.bans):=hO (by rw [HR.out]; exact ban_ok (by rw [<-HR.out,y.out,hz]))
   subst hz; clear HR y; go_wp2_with fail
   go_loopw [11] (fun i wx=>∃ (j:Nat) (cs:List Value) (F:Led.Ledger) (E:List (Led.Entry × Value)) (U:List (Led.Bundle × Value)),j<=n2/\j<=25/\i=.int .i64 (j:Int)/\eD w wx/\Hid (ed G wx cs F E U)/\Hid F.Wf/\Hid (C∈F.bans)) (fun i _=>n2 - (intOf i).toNat)
   case atStart=>exact⟨0,_,_,_,_,by omega,by omega,rfl,O,Ax,B,HB⟩
   case round =>
    clear O Ax B HB AJ AH; obtain⟨j,cs,F,E,U,hj,B3,rfl,S,HV,H,HB⟩:=hrel; obtain⟨wx,Bt⟩:∃ wx,wx=wr:=⟨_,rfl⟩; subst Bt; have B4:G<wx.heap.size:=HV.out.blk.lt; have z:(j<n2/\(j:Int)<(n2:Int)/\(j:Int)<25)\/(¬ (j:Int)<(n2:Int))\/((j:Int)<(n2:Int)/\¬ (j:Int)<25):=by omega
    rcases z with⟨Bu,AK,Bv⟩|z
    .have AL:j<L2.length:=by rw [HL.out]; exact Bu
     obtain⟨bk,ok,rfl,B5,AM⟩:=ldOp_es HD.out.es AL; have Ao:=AM wx S; have AO:Hid (L2[j].In wx):=hO (qK.below (HD.out.each _ (List.getElem_mem AL)) S); generalize L2[j]=x at *; have HC:=hO (qw x wx AO.out); obtain⟨CX,AP⟩:=eC ((fT x).toArray); rw [AP.out] at Ao HC; clear AM AO AP; go_wp2_with fail
     refine HC.out.mono ?_; rintro e w1 ⟨A1,c1,A2,c2,KK,rfl,f1,f2,t1,t2,AQ,K⟩; clear HC Ao; obtain⟨Ai,AR⟩:=nw (fun x r h=>by rw [h,Sha.lI]; omega) AQ
     have AS:=hO Ai; have AT:=hO AR; have T:=hO (show (jY x.o KK).entry.sels.length<=1000/\(jY x.o KK).bundle.keys.length<=1000 from⟨Ai.el,Ai.ul⟩); generalize jY x.o KK=o at *; have Ap:=dg (L:=o.entry.sels) (by rw [gP]; exact t1)
     have Aq:=aY (enc:=aV) (L:=o.bundle.keys) t2; obtain⟨w2,AU,B2,Aa⟩:=new_opv w1 (ah o (.slice A1 (min x.ns 6) c1) (.slice A2 (min x.nk 9) c2)) rfl (ky _ _ _ _ _ _ _); have AV:=hO (Ap.below Aa); have AW:=hO (Aq.below Aa); have Ab:=K.trans (Aa.mono K.size); have D:eD w w2:=S.trans (Ab.mono S.size); have Ay:=HV.out.below Ab; have q0:w2.cell? ⟨w1.heap.size,0,none⟩=some (.int .i64 o.kind):=B2.cell 0; have q2:w2.cell? ⟨w1.heap.size,2,none⟩=some (.string (str o.name)):=B2.cell 2; have Aj:=fy B2 rfl; have Ak:=Ay.load; have Ac:=hO Ay; have J:Hid (o.kind<=100->Calls prog 14 #[.agg cs.toArray,.agg (ah o (.slice A1 (min x.ns 6) c1) (.slice A2 (min x.nk 9) c2)).toArray] w2 (iG (fun r=>r=does (Led.eS o.bundle) F o) F w2)):=hO fun h=>iw cs F E U o _ _ w2 Ac.out.at_ H.out AS.out h AV.out AW.out AT.out (HT.out.below D); have AX:=Aa.size; have Az:=K.size; clear Ai AR t1 t2 AQ Ap Aq AV AW AS AT K Aa Ab Ay B2 f1 f2 HV; obtain⟨CO,Ad⟩:=eC ((ah o (.slice A1 (min x.ns 6) c1) (.slice A2 (min x.nk 9) c2)).toArray); rw [Ad.out] at AU Aj J; obtain⟨CL,Bw⟩:=eC (cs.toArray); rw [Bw.out] at Ak J; rw [Ad.out]; have hk:((o.kind==7)=false\/((o.kind==7)=true/\(o.name==C)=false))\/((o.kind==7)=true/\(o.name==C)=true):=by
      cases (o.kind==7) <;> cases (o.name==C) <;> simp
     by_cases V:o.kind<=100
     .have Bx:¬ (100:Int)<o.kind:=by omega
      rcases hk with hk|⟨k1,k2⟩
      .have Q:Hid (C∈(does (Led.eS o.bundle) F o).1.bans):=hO (ban_stays HB.out (by
        rintro ⟨h1,h2⟩; rw [h1,h2] at hk; simp at hk))
       have R:=J.out V; clear J Ad V; rcases hk with k1|⟨k1,k2⟩
       all_goals
        go_wp2_with fail
        refine R.mono ?_; rintro e w3 ⟨r,hr,vE,vN,vB,vJ,vK,vU,E',U',rfl,M,Al⟩; have I:(does (Led.eS o.bundle) F o).1.Wf:=oR H.out T.out.1 T.out.2; rw [hr,jU] at M; obtain⟨AN,cN,rfl,fN,eN⟩:=dy M.oN; obtain⟨AB,cB,rfl,fB,eB⟩:=dy M.oB; obtain⟨Y,Ae,Z,AY⟩:=Ac.out.put2 Al M.at; have AZ:eD w Y:=(D.trans (Al.mono D.size)).trans (AY.below' (by have:=D.size; have:=Al.size; omega) (by simpa using AF))
        have Ba:=hO Z; have B:=hO I; have Bb:Y.cell? ⟨G,1,none⟩=some (.slice AN (does (Led.eS o.bundle) F o).1.nodes.length cN):=Z.blk.cell 1; have Bc:Y.cell? ⟨G,2,none⟩=some (.slice AB (does (Led.eS o.bundle) F o).1.bans.length cB):=Z.blk.cell 2; have A0:Es ac 5 Y AN (does (Led.eS o.bundle) F o).1.nodes.length (does (Led.eS o.bundle) F o).1.nodes:=by
         obtain⟨⟨_,_,_,_,_,_,d,_,⟨A',n',c',e1,_,h⟩,_⟩,_⟩:=Z.at_; injection d with _ d
         injection d with d _
         rw [<-d] at e1; injection e1 with x1 x2 x3
         subst x1 x2 x3; exact h
        have A3:Ts Y AB (does (Led.eS o.bundle) F o).1.bans.length (does (Led.eS o.bundle) F o).1.bans:=by
         obtain⟨⟨_,_,_,_,_,_,d,_,_,⟨A',n',c',e1,_,h⟩,_⟩,_⟩:=Z.at_; injection d with _ d
         injection d with _ d
         injection d with d _
         rw [<-d] at e1; injection e1 with x1 x2 x3
         subst x1 x2 x3; exact h
        obtain⟨f,A4⟩:=eC ((does (Led.eS o.bundle) F o).1); rw [A4.out] at Ba B Bb Bc A0 A3 Q Ae; have Bd:=hO A0; have Be:=hO A3; obtain⟨nN,Am⟩:=eC (f.nodes.length); obtain⟨nB,Af⟩:=eC (f.bans.length); rw [Am.out] at Bb Bd Ae; rw [Af.out] at Bc Be Ae; have zN:nN<=4:=by rw [<-Am.out]; exact B.out.n3
        have zB:nB<=8:=by rw [<-Af.out]; exact B.out.b3
        rw [A4.out,Am.out,Af.out]; generalize r.2=er at *; clear hr M R Aj Ak AU Ac AY Al Z I eN eB A0 A3 D A4 T H HB AX Az q0 q2; go_wp2_with fail
        go_loopw [13,14] (fun b0 i wy=>∃ (q:Nat) (b:Value),q<=nB/\i=.int .i64 (q:Int)/\b=b0/\Hid (b=.bool ((f.bans.take q).any (·==C)))/\wy=Y) (fun _ i _=>nB - (intOf i).toNat)
        case atStart=>exact⟨0,_,by omega,rfl,rfl,hO rfl,rfl⟩
        case round =>
         obtain⟨q,bx,hq,rfl,rfl,An,A5⟩:=hrel; subst A5; by_cases By:q<nB
         .have Bz:(q:Int)<(nB:Int):=by omega
          have Ag:q<f.bans.length:=by rw [Af.out]; exact By
          obtain⟨b,Bf,rfl,B0⟩:=Be.out.lit (i:=q) Ag; have Bg:=any_snoc f.bans C q Ag; have A6:=hO Bg; clear Bg; generalize f.bans[q]=s at *; obtain⟨av,Bh⟩:=eC ((f.bans.take q).any (·==C)); have X:=An.out; rw [Bh.out] at X A6; subst X; have Bi:=hO (fun bb (h:(av||s==C)=bb)=>show Value.bool bb=.bool ((f.bans.take (q+1)).any (·==C)) by rw [A6.out,h]); clear An A6 Bh
          cases av
          .cases Bj:(s==C)
           all_goals
            go_wp2_with fail
            go_roundw
            case rel=>exact⟨q+1,_,by omega,by go_num,rfl,hO (Bi.out _ (by rw [Bj]; rfl)),by trivial⟩
            case measure=>simp [intOf]; omega
          .go_wp2_with fail
           go_roundw
           case rel=>exact⟨q+1,_,by omega,by go_num,rfl,hO (Bi.out _ rfl),by trivial⟩
           case measure=>simp [intOf]; omega
         .have Bz:¬ (q:Int)<(nB:Int):=by omega
          have X:bx=.bool true:=by
           rw [An.out,List.take_of_length_le (by rw [Af.out]; omega)]
           congr 1
           rw [List.any_eq_true]; exact⟨C,Q.out,by simp⟩
          subst X; clear An; go_wp2_with fail
          go_loopw [15] (fun i wy=>∃ q:Nat,q<=nN/\i=.int .i64 (q:Int)/\wy=wr) (fun i _=>nN - (intOf i).toNat)
          case atStart=>exact⟨0,by omega,rfl,rfl⟩
          case round =>
           obtain⟨q2,B6,rfl,A5⟩:=hrel; subst A5; by_cases Bk:q2<nN
           .have Bl:(q2:Int)<(nN:Int):=by omega
            have Ag:q2<f.nodes.length:=by rw [Am.out]; exact Bk
            obtain⟨b,Bf,e,h1,h2⟩:=Bd.out.lit aR (by omega) Ag; subst e; have cq:wr.cell? ⟨b,Bf+q2 * 5,none⟩=some (.string (str f.nodes[q2].name)):=h2 0 _ rfl; have B7:(f.nodes[q2].name==C)=false:=by
             rw [beq_eq_false_iff_ne]; intro e; exact B.out.b4 _ (List.getElem_mem Ag) (by rw [e]; exact Q.out)
            clear h2; generalize f.nodes[q2].name=nn at *; go_wp2_with fail
            go_roundw
            case rel=>exact⟨q2+1,by omega,by go_num,by trivial⟩
            case measure=>simp [intOf]; omega
           .have Bl:¬ (q2:Int)<(nN:Int):=by omega
            go_wp2_with fail
            go_roundw
            case rel=>exact⟨j+1,_,_,_,_,by omega,by omega,by go_num,AZ,Ba,B,Q⟩
            case measure=>simp [intOf]; omega
      .clear J Ad Aj Ak V
       go_wp2_with fail
       go_roundw
       case rel=>exact⟨j+1,_,_,_,_,by omega,by omega,by go_num,D,Ac,H,HB⟩
       case measure=>simp [intOf]; omega
     .have Bx:(100:Int)<o.kind:=by omega
      clear J Ad Aj Ak V hk; go_wp2_with fail
      go_roundw
      case rel=>exact⟨j+1,_,_,_,_,by omega,by omega,by go_num,D,Ac,H,HB⟩
      case measure=>simp [intOf]; omega
    .have hl:=jK wx (HT.out.below S)
     clear HV H HB; rcases z with AK|⟨AK,Bv⟩
     all_goals
      go_wp2_with fail
      refine hl.mono ?_; rintro e w7 ⟨rfl,A7⟩; go_wp2; go_ret; exact⟨rfl,S.trans (A7.mono S.size)⟩
  .have z:er=1\/er=8\/er=6:=by
    have h:=ban_errs F C; rw [<-HR.out,y.out] at h; omega
   have hl:=jK w6 (HT.out.below O); clear HR y Ax B hz; rcases z with rfl|rfl|rfl
   all_goals
    go_wp2_with fail
    refine hl.mono ?_; rintro e w7 ⟨rfl,A7⟩; go_wp2; go_ret; exact⟨rfl,O.trans (A7.mono O.size)⟩
theorem ledgerBans_in(A:Option Addr) (n c:Nat) (L:List OpV) (s:ByteArray) (D:Option Addr) (n2 B:Nat) (E:List OpV) (w:World) (F:Tab Sha.kkL w) (hd:iF w A n L) (_hn:n<=c) (_hc:c<=9223372036854775807) (G:s.size<=maxLen) (C:iF w D n2 E) (_hn2:n2<=B) (_hc2:B<=9223372036854775807) :
  Calls prog 7 #[.slice A n c,.string s,.slice D n2 B] w fun e w'=>e=.returned (.bool true)/\eD w w':=by
 have H:s=str s.data.toList:=by
  cases s
  simp [str]
 have I:s.data.toList.length=s.size:=Array.length_toList
 rw [H]
 unfold maxLen at G
 rcases Nat.lt_or_ge 60 s.data.toList.length with h|h
 .exact bans_at A n c L D n2 B E s.data.toList (few s.data.toList) w F hd C (by omega) (.inr ⟨h,rfl⟩)
 .exact bans_at A n c L D n2 B E s.data.toList s.data.toList w F hd C (by omega) (.inl ⟨h,rfl⟩)
end
end Go.Proofs.YtmbpnkacggngkaaGreatDoor
