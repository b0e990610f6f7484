/- LedRJoin, LedRKeys, LedRNames, LedRMay, LedRForeign (put together by bundle.py: only what is needed). -/
import Derived.Test.YtmbpnkacggngkaaGreatDoorLI14
set_option maxRecDepth 100000
set_option maxHeartbeats 16000000
namespace Go.Proofs.YtmbpnkacggngkaaGreatDoor
open Batch
open Tryz
section
open Go.RowKit Mem Led
theorem bE.err{base gl:Nat}{L:Led.Ledger}{r:Led.Ledger × Int}{k:Int}{w w':World}(A:Below base w w')(h:r=(L,k))(B:k≠0):bE base gl r w (.returned (.int .i64 k)) w':=by
 rw[h]
 exact⟨rfl,A,fun e=>absurd e B⟩
theorem pX{α:Type}(p:α->Bool)(L:List α):L.any p=decide (0<=aX p L):=(iB p L).symm
theorem node_joins(L:Led.Ledger)(n:Led.Node):(aR L n).1.joins=L.joins:=by
 unfold aR
 split
 .split
  .rfl
  .cases put cN 4 n L.nodes<;>rfl
 .rfl
section
variable {L:Led.Ledger}{t:Txt}{n:Led.Node}
theorem join_none(h:(L.joins.any fun j=>j.text==t)=false):fF L t n=(L,7):=by
 unfold fF
 have:L.joins.find? (fun d=>d.text==t)=none:=by
  rw[List.find?_eq_none];intro x hx;rw[List.any_eq_false] at h;exact h x hx
 rw[this]
theorem join_at{i:Nat}{d:Led.Join}(hi:i<L.joins.length)(hd:L.joins[i]=d)(A:∀x∈L.joins.take i,(x.text==t)=false)(B:(L.joins[i].text==t)=true) :
  fF L t n=if d.used then (L,20) else if n.name==d.name then (if (aR L n).2==0 then ({ (aR L n).1 with joins:=L.joins.set i { d with used:=true } },0) else (L,(aR L n).2)) else (L,1):=by
 subst hd
 unfold fF
 rw[nG (p:=fun j:Led.Join=>j.text==t) hi A B,fY (p:=fun j:Led.Join=>j.text==t) hi A B]
end
theorem rjoins_any{base gl:Nat}{vE vN vB vJ vK vU:Value}{L:Led.Ledger}{E:List (Led.Entry × Value)}{U:List (Led.Bundle × Value)}(ok:Bool)(o:Led.Op)(sv kv:Value)(w:World)(H:RAt base gl w vE vN vB vJ vK vU L E U)(hL:L.Wf)(ho:Sized o)(hk:o.kind=3\/o.kind=4) :
  Calls prog 72 #[.pointer (some ⟨gl,0,none⟩),.agg (ac o sv kv).toArray] w (bE base gl (does ok L o) w):=by
 obtain⟨AJ,cJ,rfl,fJ,eJ⟩:=cl H.rk.oJ
 have eJ:Es vq 4 w AJ L.joins.length L.joins:=eJ
 have zJ:=hL.j3
 obtain⟨b3,Ao⟩:=eC ((o.kind==3))
 have HK:Hid ((b3=true/\does ok L o=vr L o.join)\/(b3=false/\does ok L o=fF L o.name o.node)):=eA (by
  rcases hk with hk|hk
  .exact .inl ⟨by rw[<-Ao,hk];rfl,by unfold does;simp[hk]⟩
  .exact .inr ⟨by rw[<-Ao,hk];rfl,by unfold does;simp[hk]⟩)
 clear hk
 obtain⟨R,hR⟩:=eD (does ok L o)
 rw[hR.out] at HK ⊢
 clear hR
 obtain⟨W,hW⟩:=eC (w.alloc (.cells (ac o sv kv).toArray 47))
 have b0:Blk W w.heap.size (ac o sv kv) 47:=by rw[<-hW];exact Blk.new w _ _
 have I:eF w W:=eG hW
 have AE:=nt b0
 have A:=rjoin_any o.join W ho.jt ho.jn
 have q0:W.cell? ⟨w.heap.size,0,none⟩=some (.int .i64 o.kind):=b0.cell 0
 have q2:W.cell? ⟨w.heap.size,2,none⟩=some (.string (str o.name)):=b0.cell 2
 have q8:W.cell? ⟨w.heap.size,8,none⟩=some (.string (str o.join.text)):=b0.cell 8
 have HW:=eA hW
 clear hW
 obtain⟨CS,AF⟩:=eD ((ac o sv kv).toArray)
 rw[AF.out] at HW ⊢
 have N:=eA b0
 have HH:=eA H
 have HB:=eA H.hb
 have HO:=eA ho
 clear b0 H ho
 obtain⟨t,ht⟩:∃t,Hid ((if b3=true then o.join.text else o.name)=t):=⟨_,eA rfl⟩
 go_enter func72,ntmps72
 go_upto_region 1 with fail
 rw[HW.out]
 clear HW
 go_upto_if 14 with fail
 go_cut [6] (fun s6 wx=>s6=.string (str t)/\Hid (b3=true->cI o.join=true/\o.join.used=false)/\eF W wx)
 case first =>
  cases b3
  .have C:o.name=t:=by rw[<-ht.out];rfl
   rw[C];clear ht C;go_wp2_with fail
   go_meet
   case rel=>exact⟨rfl,eA (fun h=>by cases h),Below.refl _ _⟩
  .have C:o.join.text=t:=by rw[<-ht.out];rfl
   have HT:=eA C;have hd:R=vr L o.join:=by
    rcases HK.out with h|h
    .exact h.2
    .cases h.1
   have D:=eA hd;clear ht C hd HK
   cases hm:cI o.join
   .rw [hm] at A
    have K:=eA (show R=(L,1) by rw[D.out];unfold vr;rw[hm];rfl)
    clear hm D;go_wp2_with fail
    refine A.mono ?_;rintro e w1 ⟨rfl,F⟩;go_wp2;go_ret;exact bE.err ((I.trans (F.mono I.size)).mono HB.out) K.out (by decide)
   .rw [hm] at A
    have HM:=eA hm;clear hm
    cases X:o.join.used
    .have HU:=eA X
     clear D;go_wp2_with fail
     refine A.mono ?_;rintro e w1 ⟨rfl,F⟩;have AG:w1.cell? ⟨w.heap.size,11,none⟩=some (.bool false):=by rw[(N.out.below F).cell 11,<-HU.out];rfl
     have c8:w1.cell? ⟨w.heap.size,8,none⟩=some (.string (str o.join.text)):=(N.out.below F).cell 8;rw[HT.out] at c8;go_wp2_with fail
     go_meet
     case rel=>exact⟨rfl,eA (fun _=>⟨HM.out,HU.out⟩),F⟩
    .have K:=eA (show R=(L,1) by rw[D.out];unfold vr;rw[X,HM.out];rfl)
     have HU:=eA X;clear X D;go_wp2_with fail
     refine A.mono ?_;rintro e w1 ⟨rfl,F⟩;have AG:w1.cell? ⟨w.heap.size,11,none⟩=some (.bool true):=by rw[(N.out.below F).cell 11,<-HU.out];rfl
     go_wp2_with fail
     go_ret;exact bE.err ((I.trans (F.mono I.size)).mono HB.out) K.out (by decide)
 case rest =>
  obtain⟨rfl,Y,Aa⟩:=hcut;obtain⟨wa,AH⟩:∃wa,wa=wc:=⟨_,rfl⟩;subst AH;have B:=I.trans (Aa.mono I.size);have Ha:=HH.out.below B;have cg:wa.cell? ⟨gl,3,none⟩=some (.slice AJ L.joins.length cJ):=Ha.blk.cell 3;have c0:wa.cell? ⟨w.heap.size,0,none⟩=some (.int .i64 o.kind):=(N.out.below Aa).cell 0;have Z:=eA (N.out.below Aa);have O:=eA Ha;have Af:Es vq 4 wa AJ L.joins.length L.joins:=by
   obtain⟨A2,c2,e2,_,ea⟩:=cl Ha.rk.oJ;injection e2 with e2 _ e3
   subst e2 e3;exact ea
  obtain⟨n,hn⟩:=eC (L.joins.length);have HN:=eA hn;rw[hn] at cg Af zJ;obtain⟨r,hr⟩:=eD (aX (fun j:Led.Join=>j.text==t) L.joins);have c:=eA Af;clear AE A q0 q2 q8 Aa I N HH Ha Af hn eJ fJ;go_wp2_with fail
  go_loopw [5,8] (fun AI i wr=>∃(k:Nat) (iv:Int) (av:Value),k<=n/\iv=(k:Int)-1/\i=.int .i64 iv/\av=AI/\Hid (av=.int .i64 (gA (fun j:Led.Join=>j.text==t) L.joins k))/\wr=wa) (fun _ i _=>(intOf i+1).toNat)
  case atStart=>exact⟨n,(n:Int)-1,_,by omega,rfl,by go_num,rfl,eA (by rw[lD (by rw[HN.out];exact eH)]),rfl⟩
  case round =>
   obtain⟨k,iv,av,hk,Ap,rfl,rfl,f,AK⟩:=hrel;subst AK;by_cases hi:0<=iv
   .obtain⟨j,rfl⟩:∃j:Nat,iv=j:=⟨iv.toNat,by omega⟩
    have hj:j<n:=by omega
    have Ag:j<L.joins.length:=by rw[HN.out];exact hj
    have Aq:k=j+1:=by omega
    have AU:(j:Int)<(n:Int):=by omega
    obtain⟨b,G,e,h1,h2⟩:=c.out.lit bm (by omega) Ag;subst e;have q:wr.cell? ⟨b,G+j*4,none⟩=some (.string (str L.joins[j].text)):=h2 0 _ rfl;have l:=eA (fun h=>down_hit (p:=fun j:Led.Join=>j.text==t) Ag h);have J:=eA (fun h=>tV (p:=fun j:Led.Join=>j.text==t) Ag h);have AL:=eA Aq;clear h2 Aq Ap hk
    cases hq:(L.joins[j].text==t)
    .have HX:Hid (av=.int .i64 (gA (fun j:Led.Join=>j.text==t) L.joins j)):=eA (by rw[f.out,AL.out,J.out hq])
     generalize L.joins[j].text=x at *;clear l J f;go_wp2_with fail
     go_roundw
     case rel=>exact⟨j,(j:Int)-1,_,by omega,rfl,by go_num,rfl,HX,by trivial⟩
     case measure=>simp[intOf]<;>omega
    .have HX:Hid (Value.int .i64 (j:Int)=.int .i64 (gA (fun j:Led.Join=>j.text==t) L.joins j)):=eA (by rw[l.out hq])
     generalize L.joins[j].text=x at *;clear l J f;go_wp2_with fail
     go_roundw
     case rel=>exact⟨j,(j:Int)-1,_,by omega,rfl,by go_num,rfl,HX,by trivial⟩
     case measure=>simp[intOf]<;>omega
   .have Ar:k=0:=by omega
    have As:av=.int .i64 r:=by rw[f.out,Ar,jY,hr.out]
    subst As;clear f Ar Ap
    cases b3
    .have hd:R=fF L t o.node:=by
      rcases HK.out with h|h
      .cases h.1
      .rw [h.2,<-ht.out];rfl
     have D:=eA hd;clear hd HK ht Y;rcases bh (fun j:Led.Join=>j.text==t) L.joins with⟨hx,ha⟩|⟨i,Q,hx,ha,Au,Av⟩
     .have AV:r<0:=by rw[<-hr.out,hx];decide
      have K:=eA (D.out.trans (join_none (n:=o.node) ha));clear hx ha D;go_wp2_with fail
      go_ret;exact bE.err (B.mono HB.out) K.out (by decide)
     .have AM:r=(i:Int):=by rw[<-hr.out,hx]
      subst AM;have AW:¬(i:Int)<0:=by omega
      have AX:(i:Int)<(n:Int):=by rw[<-HN.out];omega
      obtain⟨b,G,e,h1,h2⟩:=c.out.lit bm (by omega) Q;subst e;obtain⟨d,hd⟩:=eC (L.joins[i]);have cu:wr.cell? ⟨b,G+i*4+3,none⟩=some (.bool d.used):=by
       rw[Nat.add_assoc];exact h2 3 _ (by rw[hd];rfl)
      have Ah:=eA fun (w':World) (hb:eF wr w')=>show w'.cell? ⟨b,G+i*4+1,none⟩=some (.string (str d.name)) from ey bm (by omega) c.out Q hb (j:=1) (by rw[hd];rfl)
      have m:=eA Q;have s:=eA (show L.joins[i]?=some d by rw[List.getElem?_eq_getElem Q,hd]);have S:=eA (D.out.trans (join_at (n:=o.node) Q hd Av Au));clear h2 hx ha Au Av hd D Q hr c
      cases X:d.used
      .have K:=eA X
       have c5:wr.cell? ⟨b,G+i*4+3,none⟩=some (.bool false):=by rw[cu,X]
       have f0:∀p,(ab wr p).cell? ⟨gl,3,none⟩=some (.slice (some ⟨b,G,none⟩) n cJ):=fun p=>(O.out.blk.below (aa wr p)).cell 3 |>.trans (by rw[<-HN.out];rfl)
       have f1:∀p,(ab wr p).cell? ⟨b,G+i*4+1,none⟩=some (.string (str d.name)):=fun p=>Ah.out _ (aa wr p);have f2:∀p,(ab wr p).cell? ⟨w.heap.size,12,none⟩=some (.string (str o.node.name)):=fun p=>(Z.out.below (aa wr p)).cell 12;clear X cu Ah;go_upto_region 24 with fail
       refine au ?_;repeat (go_big_quiet_step (fail))
       refine wpQuiet_nil ?_;rintro _ ⟨p,rfl⟩;have T:=aa wr p;have Aw:=B.trans (T.mono B.size);have Ax:=eA (O.out.below T);have B2:=Z.out.below T;generalize ab wr p=w2 at *;clear f0 f1 f2 T O Z c5 h1 cg c0
       cases Ai:(d.name==o.node.name)
       .have HF:=eA (show R=(L,1) by rw[S.out,K.out,show (o.node.name==d.name)=false by rw[<-Ai];exact Bool.beq_comm];rfl)
        clear S s;go_wp2_with fail
        go_ret;exact bE.err (Aw.mono HB.out) HF.out (by decide)
       .have HF:=eA (show R=(if (aR L o.node).2==0 then ({ (aR L o.node).1 with joins:=L.joins.set i { d with used:=true } },0) else (L,(aR L o.node).2)) by rw[S.out,K.out,show (o.node.name==d.name)=true by rw[<-Ai];exact Bool.beq_comm];rfl)
        have Ay:=nr B2;have Aj:=mV o.node w2 Ax.out hL HO.out.nn;obtain⟨CN,AN⟩:=eD ((ae o.node).toArray);rw[AN.out] at Ay Aj;clear Ai S B2 Ax;go_wp2_with fail
        refine Aj.mono ?_;rintro e w4 ⟨rfl,AO,Az⟩;have Ad:Below base w w4:=(Aw.mono HB.out).trans AO;have Ab:=eA Az;obtain⟨en,A0⟩:=eD ((aR L o.node).2);rw[A0.out] at HF Ab ⊢;clear Az Aj Ay;by_cases hz:en=0
        .have HZ:=eA hz
         subst hz;obtain⟨AY,AZ,Ba,Bb,Bc,Bd,E',U',H4⟩:=Ab.out rfl;have V:(aR L o.node).1.joins=L.joins:=node_joins L o.node;have Ak:=H4.rk.oJ;rcases aS Ak with⟨_,h0,_⟩|⟨g,c',M,he,T,Be,Ac,A1,A3,hM,A4⟩
         .have:=m.out
          rw[V] at h0;omega
         subst he;have AP:gl≠g:=fun e=>ax Ak H4.blk (by decide) (by simp[Value.ownBlock,e]);have A5:i<(aR L o.node).1.joins.length:=by rw[V];exact m.out
         have A6:(aR L o.node).1.joins[i]=d:=by
          have h:(aR L o.node).1.joins[i]?=some d:=by rw[V];exact s.out
          exact(List.getElem?_eq_some_iff.1 h).2
         have hS:=jE (x':={ d with used:=true }) (u:=.bool true) (j:=3) bm (Below.refl _ w4) T Ac A1 A3 hM A4 A5 (by omega) (by rw[A6];rfl) AP H4.blk (sl:=3) rfl
         obtain⟨v5,H5,A7⟩:=H4.slotJ hS;have Bf:w4.cell? ⟨gl,3,none⟩=some (.slice (some ⟨g,0,none⟩) n c'):=(H4.blk.cell 3).trans (by rw[V,HN.out];rfl)
         have Bg:w4.frozen? ⟨g,i*4+3,none⟩=false:=Ac.froz _;have Al:∃u,w4.cell? ⟨g,i*4+3,none⟩=some u:=by
          refine⟨M[i*4+3]'(by rw[hM];omega),?_⟩
          rw[Ac.cell,List.getElem?_eq_getElem]
         obtain⟨u,Bh⟩:=Al;have y:Hid (bE base gl R w (.returned (.int .i64 0)) (w4.setCell ⟨g,i*4+3,none⟩ (.bool true))):=eA (by
          have e:R=({ (aR L o.node).1 with joins:=L.joins.set i { d with used:=true } },0):=by rw[HF.out];rfl
          rw[e];simp only[V] at H5;exact⟨rfl,Ad.trans A7,fun _=>⟨_,_,_,_,_,_,_,_,H5⟩⟩)
         clear HF Ab H4 Ak Ac hM A4 hS H5 A7 A6 A5 V s m;go_wp2_with fail
         go_ret;exact y.out
        .have AQ:(en==0)=false:=by simpa using hz
         have AR:=eA (show R=(L,en) by rw[HF.out,AQ];rfl)
         have HZ:=eA hz;clear HF Ab hz s m A0;go_wp2_with fail
         go_ret;exact bE.err Ad AR.out HZ.out
      .have HF:=eA (show R=(L,20) by rw[S.out,X];rfl)
       have c5:wr.cell? ⟨b,G+i*4+3,none⟩=some (.bool true):=by rw[cu,X]
       clear X cu S Ah s m;go_wp2_with fail
       go_ret;exact bE.err (B.mono HB.out) HF.out (by decide)
    .have hd:R=vr L o.join:=by
      rcases HK.out with h|h
      .exact h.2
      .cases h.1
     have C:o.join.text=t:=by rw[<-ht.out];rfl
     obtain⟨m1,m2⟩:=Y.out rfl;have z:=pX (fun j:Led.Join=>j.text==t) L.joins;rw[hr.out] at z;have A8:R=if decide (0<=r)=true then (L,8) else if 16<=n then (L,6) else ({ L with joins:=L.joins++[o.join] },0):=by
      rw[hd];unfold vr;rw[m1,m2,C,<-z,HN.out];rfl
     have D:=eA A8;clear hd A8 z m1 m2 C HK ht Y hr;by_cases Am:0<=r
     .have K:=eA (show R=(L,8) by rw[D.out,decide_eq_true Am];rfl)
      clear D;go_wp2_with fail
      go_ret;exact bE.err (B.mono HB.out) K.out (by decide)
     .by_cases A9:16<=n
      .have K:=eA (show R=(L,6) by rw[D.out,decide_eq_false Am,if_neg (by decide),if_pos A9])
       have AA:(16:Int)<=(n:Int):=by omega
       clear D;go_wp2_with fail
       go_ret;exact bE.err (B.mono HB.out) K.out (by decide)
      .have K:=eA (show R=({ L with joins:=L.joins++[o.join] },0) by rw[D.out,decide_eq_false Am,if_neg (by decide),if_neg A9])
       have AA:¬(16:Int)<=(n:Int):=by omega
       have f1:∀p,(ab wr p).cell? ⟨gl,3,none⟩=some (.slice AJ n cJ):=fun p=>(O.out.blk.below (aa wr p)).cell 3 |>.trans (by rw[<-HN.out];rfl)
       have f2:∀p,(ny (.pointer (some ⟨w.heap.size,8,none⟩))).run prog (ab wr p)=.ok (.agg #[.string (str o.join.text),.string (str o.join.name),.int .i64 o.join.expires,.bool o.join.used]) (ab wr p):=fun p=>nt (Z.out.below (aa wr p));clear D c;go_upto_region 18 with fail
       refine bq [0] [1,2,3,4,5,6] 7 [8,9,10,11] (vq o.join) 38 ?_;simp only[pick,List.getD_cons_zero,List.getD_cons_succ];repeat (go_big_quiet_step (fail))
       refine wpQuiet_nil ?_;repeat (go_big_quiet_step (fail))
       refine wpQuiet_nil ?_;refine⟨_,rfl,rfl,fun w4 AS=>?_,fun gx w6 AB Bi AC=>?_⟩
       .go_simp
        exact eR AS
       .have AD:=B.trans (AB.below.mono B.size)
        have H6:=O.out.below AB.below;obtain⟨A',c',w7,Ae,AT,Bj,hS⟩:=dQ (enc:=vq) (L:=L.joins) (x:=o.join) (sl:=3) nz underlying26 H6.hb H6.blk rfl (ax H6.rk.oJ H6.blk (by decide)) H6.rk.oJ rfl (by rw[HN.out];omega) (jm _) AC
        obtain⟨v8,H8,An⟩:=H6.slotJ hS;rw[HN.out] at Ae AT H8 An;have y:Hid (bE base gl R w (.returned (.int .i64 0)) (w7.setCell ⟨gl,3,none⟩ (.slice A' (n+1) c'))):=eA (by
         rw[K.out];exact⟨rfl,(AD.mono HB.out).trans An,fun _=>⟨_,_,_,_,_,_,_,_,H8⟩⟩)
        clear hS H8 An AC H6 f1 f2 O Z;go_wp2_with (at_builtin;refine Lib.wpList_append_run _ rfl _ _ _ _ rfl _ _ rfl rfl _ _ Ae ?_)
        (try rw[ak])
        (try go_wp2)
        go_ret;exact y.out
end
section
open Go.RowKit Mem Led
theorem rkeys_any{base gl:Nat}{vE vN vB vJ vK vU:Value}{L:Led.Ledger}{E:List (Led.Entry × Value)}{U:List (Led.Bundle × Value)}(ok:Bool)(o:Led.Op)(sv kv:Value)(w:World)(H:RAt base gl w vE vN vB vJ vK vU L E U)(hL:L.Wf)(hk:o.kind=9\/o.kind=10\/o.kind=11) :
  Calls prog 75 #[.pointer (some ⟨gl,0,none⟩),.agg (ac o sv kv).toArray] w (bE base gl (does ok L o) w):=by
 obtain⟨AK,u,rfl,fK,_⟩:=cl H.rk.oK
 have zK:=hL.k3
 have B3:Hid (∀g,AK=some ⟨g,0,none⟩->g<w.heap.size):=eA fun g hg=>(du H.rk.oK (by rw[hg];rfl)).2
 obtain⟨W,hW⟩:=eC (w.alloc (.cells (ac o sv kv).toArray 47))
 have b0:Blk W w.heap.size (ac o sv kv) 47:=by rw[<-hW];exact Blk.new w _ _
 have AG:eF w W:=eG hW
 have HW:=eA hW
 clear hW
 obtain⟨CS,B4⟩:=eD ((ac o sv kv).toArray)
 rw[B4.out] at HW ⊢
 have hH:=H.below AG
 have cg:W.cell? ⟨gl,4,none⟩=some (.slice AK L.keys.length u):=hH.blk.cell 4
 have eK:Es ar 4 W AK L.keys.length L.keys:=by
  obtain⟨A2,c2,e2,_,ea⟩:=cl hH.rk.oK;injection e2 with e2 _ e3
  subst e2 e3;exact ea
 obtain⟨n,hn⟩:=eC (L.keys.length)
 have Q:=eA hn
 rw[hn] at cg eK zK
 have An:=eA eK
 have Ax:=eA b0
 have HH:=eA hH
 have HB:=eA H.hb
 have HK:=eA hk
 obtain⟨r1,Ay⟩:∃r,Hid (aX (fun k:Led.Key=>k.state==1) L.keys=r):=⟨_,eA rfl⟩
 obtain⟨r2,AH⟩:∃r,Hid (aX (fun k:Led.Key=>k.state==2) L.keys=r):=⟨_,eA rfl⟩
 obtain⟨r3,AX⟩:∃r,Hid (aX (fun k:Led.Key=>k.kid==o.key.kid) L.keys=r):=⟨_,eA rfl⟩
 obtain⟨r4,AI⟩:∃r,Hid (aX (fun k:Led.Key=>k.kid==o.name&&k.state==3) L.keys=r):=⟨_,eA rfl⟩
 obtain⟨R,hR⟩:=eD (does ok L o)
 rw[hR.out]
 clear b0 H hH eK fK hk hn
 go_enter func75,ntmps75
 go_upto_region 1 with fail
 rw[HW.out]
 clear HW
 go_wp2_with fail
 go_loopw [5,6,7,8,9] (fun b1 b2 b3 b4 i wr=>∃(k:Nat) (iv:Int) (a1 a2 a3 a4:Value),k<=n/\iv=(k:Int)-1/\i=.int .i64 iv/\a1=b1/\a2=b2/\a3=b3/\a4=b4/\Hid (a1=.int .i64 (gA (fun k:Led.Key=>k.state==1) L.keys k))/\Hid (a2=.int .i64 (gA (fun k:Led.Key=>k.state==2) L.keys k))/\Hid (a3=.int .i64 (gA (fun k:Led.Key=>k.kid==o.key.kid) L.keys k))/\Hid (a4=.int .i64 (gA (fun k:Led.Key=>k.kid==o.name&&k.state==3) L.keys k))/\eF W wr) (fun _ _ _ _ i _=>(intOf i+1).toNat)
 case atStart=>exact⟨n,(n:Int)-1,_,_,_,_,by omega,rfl,by go_num,rfl,rfl,rfl,rfl,eA (by rw[lD (by rw[Q.out];exact eH)]),eA (by rw[lD (by rw[Q.out];exact eH)]),eA (by rw[lD (by rw[Q.out];exact eH)]),eA (by rw[lD (by rw[Q.out];exact eH)]),Below.refl _ _⟩
 case round =>
  obtain⟨k,iv,a1,a2,a3,a4,hk,AY,rfl,rfl,rfl,rfl,rfl,g1,g2,g3,g4,K⟩:=hrel;obtain⟨wx,B5⟩:∃wx,wx=wr:=⟨_,rfl⟩;subst B5;by_cases hi:0<=iv
  .obtain⟨j,rfl⟩:∃j:Nat,iv=j:=⟨iv.toNat,by omega⟩
   have hj:j<n:=by omega
   have Ai:j<L.keys.length:=by rw[Q.out];exact hj
   have BK:(j:Int)<(n:Int):=by omega
   obtain⟨b,Z,e,h1,h2⟩:=An.out.lit aP (by omega) Ai;subst e;have step:∀(p:Led.Key->Bool) (a:Value),Hid (a=.int .i64 (gA p L.keys k))->Hid (∀v,(p L.keys[j]=true->v=.int .i64 (j:Int))->(p L.keys[j]=false->v=a)->v=.int .i64 (gA p L.keys j)):=fun p a y=>eA fun v h1 h2=>by
    have y:=y.out;rw[show k=j+1 by omega] at y
    cases hp:p L.keys[j]
    .rw [h2 hp,y,tV Ai hp]
    .rw [h1 hp,down_hit Ai hp]
   have x1:=step _ _ g1;have x2:=step _ _ g2;have x3:=step _ _ g3;have x4:=step _ _ g4;have f1:∀w',eF W w'->w'.cell? ⟨b,Z+j*4+0,none⟩=some (.string (str L.keys[j].kid)):=fun w' K=>ey aP (by omega) An.out Ai K (j:=0) rfl;have f2:∀w',eF W w'->w'.cell? ⟨b,Z+j*4+2,none⟩=some (.int .i64 L.keys[j].state):=fun w' K=>ey aP (by omega) An.out Ai K (j:=2) rfl;have z:∀X:Int,((X==1)=true/\(X==2)=false/\(X==3)=false)\/((X==1)=false/\(X==2)=true/\(X==3)=false)\/((X==1)=false/\(X==2)=false/\(X==3)=true)\/((X==1)=false/\(X==2)=false/\(X==3)=false):=fun X=>by
    simp only[beq_iff_eq,beq_eq_false_iff_ne];omega
   have z:=z L.keys[j].state;obtain⟨kd,AZ⟩:=eD (L.keys[j].kid);obtain⟨X,Ba⟩:=eD (L.keys[j].state);rw[Ba.out] at x1 x2 x4 f2 z;rw[AZ.out] at x3 x4 f1;have F1:=eA f1;have F2:=eA f2;have CG:Hid (∀w',eF W w'->w'.cell? ⟨gl,4,none⟩=some (.slice (some ⟨b,Z,none⟩) n u)):=eA fun w' K=>(HH.out.below K).blk.cell 4 |>.trans (by rw[<-Q.out];rfl)
   have CO:Hid (∀w',eF W w'->w'.cell? ⟨w.heap.size,17,none⟩=some (.string (str o.key.kid))/\w'.cell? ⟨w.heap.size,2,none⟩=some (.string (str o.name))):=eA fun w' K=>⟨(Ax.out.below K).cell 17,(Ax.out.below K).cell 2⟩;obtain⟨c1,AJ⟩:=eD ((kd==o.key.kid));obtain⟨c2,AL⟩:=eD ((kd==o.name));rw[AJ.out] at x3;rw[AL.out] at x4;obtain⟨s1,AM⟩:∃s,Hid ((X==1)=s):=⟨_,eA rfl⟩;obtain⟨s2,AN⟩:∃s,Hid ((X==2)=s):=⟨_,eA rfl⟩;obtain⟨s3,AO⟩:∃s,Hid ((X==3)=s):=⟨_,eA rfl⟩;rw[AM.out] at x1 z;rw[AN.out] at x2 z;rw[AO.out] at x4 z;have y1:=AM.out;have y2:=AN.out;have y3:=AO.out;have y4:=AJ.out;have y5:=AL.out;have k1:=F2.out wx K;have k2:=CG.out wx K;clear g1 g2 g3 g4 step f1 f2 h1 h2 AZ Ba AY hk AM AN AO AJ AL An cg Ai;rcases z with⟨rfl,rfl,rfl⟩|⟨rfl,rfl,rfl⟩|⟨rfl,rfl,rfl⟩|⟨rfl,rfl,rfl⟩
   all_goals
    cases c1
   all_goals
    cases c2
   all_goals
    have m0:∀p,(ab wx p).cell? ⟨gl,4,none⟩=some (.slice (some ⟨b,Z,none⟩) n u):=fun p=>CG.out _ (K.trans ((aa wx p).mono K.size));have m1:∀p,(ab wx p).cell? ⟨b,Z+j*4,none⟩=some (.string (str kd)):=fun p=>F1.out _ (K.trans ((aa wx p).mono K.size));have m2:∀p,(ab wx p).cell? ⟨w.heap.size,17,none⟩=some (.string (str o.key.kid)):=fun p=>(CO.out _ (K.trans ((aa wx p).mono K.size))).1;go_upto_region 12 with fail
    refine au ?_;repeat (go_big_quiet_step (fail))
    refine wpQuiet_nil ?_;rintro _ ⟨p,rfl⟩;have Ao:=aa wx p;have B:=K.trans (Ao.mono K.size);generalize ab wx p=T at *;clear m0 m1 m2 Ao;have m0:∀p,(ab T p).cell? ⟨gl,4,none⟩=some (.slice (some ⟨b,Z,none⟩) n u):=fun p=>CG.out _ (B.trans ((aa T p).mono B.size));have m1:∀p,(ab T p).cell? ⟨b,Z+j*4,none⟩=some (.string (str kd)):=fun p=>F1.out _ (B.trans ((aa T p).mono B.size));have m2:∀p,(ab T p).cell? ⟨w.heap.size,2,none⟩=some (.string (str o.name)):=fun p=>(CO.out _ (B.trans ((aa T p).mono B.size))).2;have m3:∀p,(ab T p).cell? ⟨b,Z+j*4+2,none⟩=some (.int .i64 X):=fun p=>F2.out _ (B.trans ((aa T p).mono B.size));go_upto_region 14 with fail
    refine au ?_;repeat (go_big_quiet_step (fail))
    refine wpQuiet_nil ?_;rintro _ ⟨p,rfl⟩;have Ao:=aa T p;have A:=B.trans (Ao.mono B.size);generalize ab T p=Y at *;clear m0 m1 m2 m3 Ao;go_wp2_with fail
    go_roundw
    case rel=>exact⟨j,(j:Int)-1,_,_,_,_,by omega,rfl,by go_num,rfl,rfl,rfl,rfl,eA (x1.out _ (fun h=>by first|rfl|cases h) (fun h=>by first|rfl|cases h)),eA (x2.out _ (fun h=>by first|rfl|cases h) (fun h=>by first|rfl|cases h)),eA (x3.out _ (fun h=>by first|rfl|cases h) (fun h=>by first|rfl|cases h)),eA (x4.out _ (fun h=>by first|rfl|cases h) (fun h=>by first|rfl|cases h)),A⟩
    case measure=>simp[intOf]<;>omega
  .have Ap:k=0:=by omega
   have e1:a1=.int .i64 r1:=by rw[g1.out,Ap,jY,Ay.out]
   have e2:a2=.int .i64 r2:=by rw[g2.out,Ap,jY,AH.out]
   have e3:a3=.int .i64 r3:=by rw[g3.out,Ap,jY,AX.out]
   have e4:a4=.int .i64 r4:=by rw[g4.out,Ap,jY,AI.out]
   subst e1 e2 e3 e4;have Hx:=HH.out.below K;have Bx:=Ax.out.below K;have Aa:=AG.trans (K.mono AG.size);have D:=eA Hx;have I:=eA Bx;have c0:wx.cell? ⟨w.heap.size,0,none⟩=some (.int .i64 o.kind):=Bx.cell 0;have Aj:wx.cell? ⟨gl,4,none⟩=some (.slice AK n u):=by rw[<-Q.out];exact Hx.blk.cell 4
   have C:Hid (∀k T,R=(L,k)->k≠0->eF wx T->bE base gl R w (.returned (.int .i64 k)) T):=eA fun k T he hk K=>bE.err ((Aa.trans (K.mono Aa.size)).mono HB.out) he hk;obtain⟨kk,Az⟩:=eD (o.kind);have Bb:=HK.out;rw[Az.out] at c0 Bb;clear g1 g2 g3 g4 Ap AY hk An cg Ax HH Hx Bx HK;rcases Bb with rfl|rfl|rfl
   .have hd:R=if (!dx o.key||!(o.key.state==1))=true then (L,1) else if (decide (0<=r1)||decide (0<=r3))=true then (L,8) else if 8<=n then (L,6) else ({ L with keys:=L.keys++[o.key] },0):=by
     rw[<-hR.out];unfold does;rw[Az.out];show dU L o.key=_
     unfold dU;rw[pX (fun k:Led.Key=>k.state==1),pX (fun k:Led.Key=>k.kid==o.key.kid),Ay.out,AX.out,Q.out]
    have S:=eA hd;have V:=rkey_any o.key wx;have B6:=rj I.out;have Ak:wx.cell? ⟨w.heap.size,19,none⟩=some (.int .i64 o.key.state):=I.out.cell 19;clear hd
    cases hm:dx o.key
    .rw [hm] at V S
     have M:=eA (S.out.trans rfl);clear S hm;go_wp2_with fail
     refine V.mono ?_;rintro e Y ⟨rfl,A⟩;go_wp2_with fail
     go_ret;exact C.out _ _ M.out (by decide) A
    rw[hm] at V S;have HM:=eA hm;clear hm;by_cases hs:o.key.state=1
    rotate_left
    .have A0:(o.key.state==1)=false:=by simpa using hs
     have M:Hid (R=(L,1)):=eA (by rw[S.out,A0];rfl)
     clear S;go_wp2_with fail
     refine V.mono ?_;rintro e Y ⟨rfl,A⟩;have c3:Y.cell? ⟨w.heap.size,19,none⟩=some (.int .i64 o.key.state):=(I.out.below A).cell 19;go_wp2_with fail
     go_ret;exact C.out _ _ M.out (by decide) A
    have A0:(o.key.state==1)=true:=by simpa using hs
    have c:Hid (R=if (decide (0<=r1)||decide (0<=r3))=true then (L,8) else if 8<=n then (L,6) else ({ L with keys:=L.keys++[o.key] },0)):=eA (by rw[S.out,A0];rfl)
    rw[hs] at Ak;clear S hs A0;have AP:(((0<=r1)\/(¬0<=r1/\0<=r3))\/(¬0<=r1/\¬0<=r3/\(8:Int)<=(n:Int)))\/(¬0<=r1/\¬0<=r3/\¬(8:Int)<=(n:Int)):=by omega
    rcases AP with((q1|⟨q1,q2⟩)|⟨q1,q2,q3⟩)|⟨q1,q2,q3⟩
    .have M:Hid (R=(L,8)):=eA (by rw[c.out,decide_eq_true q1];rfl)
     clear c;go_wp2_with fail
     refine V.mono ?_;rintro e Y ⟨rfl,A⟩;have c3:Y.cell? ⟨w.heap.size,19,none⟩=some (.int .i64 1):=(A.cell (p:=⟨w.heap.size,19,none⟩) I.out.lt).trans Ak;go_wp2_with fail
     go_ret;exact C.out _ _ M.out (by decide) A
    .have M:Hid (R=(L,8)):=eA (by rw[c.out,decide_eq_false q1,decide_eq_true q2];rfl)
     clear c;go_wp2_with fail
     refine V.mono ?_;rintro e Y ⟨rfl,A⟩;have c3:Y.cell? ⟨w.heap.size,19,none⟩=some (.int .i64 1):=(A.cell (p:=⟨w.heap.size,19,none⟩) I.out.lt).trans Ak;go_wp2_with fail
     go_ret;exact C.out _ _ M.out (by decide) A
    .have M:Hid (R=(L,6)):=eA (by rw[c.out,decide_eq_false q1,decide_eq_false q2,if_neg (by decide),if_pos (by omega)])
     clear c;go_wp2_with fail
     refine V.mono ?_;rintro e Y ⟨rfl,A⟩;have c3:Y.cell? ⟨w.heap.size,19,none⟩=some (.int .i64 1):=(A.cell (p:=⟨w.heap.size,19,none⟩) I.out.lt).trans Ak;have c4:Y.cell? ⟨gl,4,none⟩=some (.slice AK n u):=(A.cell (p:=⟨gl,4,none⟩) D.out.blk.lt).trans Aj;go_wp2_with fail
     go_ret;exact C.out _ _ M.out (by decide) A
    .have M:Hid (R=({ L with keys:=L.keys++[o.key] },0)):=eA (by rw[c.out,decide_eq_false q1,decide_eq_false q2,if_neg (by decide),if_neg (by omega)])
     clear c C;go_wp2_with fail
     refine V.mono ?_;rintro e Y ⟨rfl,A⟩;have c3:Y.cell? ⟨w.heap.size,19,none⟩=some (.int .i64 1):=(A.cell (p:=⟨w.heap.size,19,none⟩) I.out.lt).trans Ak;have c4:Y.cell? ⟨gl,4,none⟩=some (.slice AK n u):=(A.cell (p:=⟨gl,4,none⟩) D.out.blk.lt).trans Aj;have A4:=Aa.trans (A.mono Aa.size);have AQ:=eA (D.out.below A);have Bc:=eA (I.out.below A);have f1:∀p,(ab Y p).cell? ⟨gl,4,none⟩=some (.slice AK n u):=fun p=>(AQ.out.blk.below (aa Y p)).cell 4 |>.trans (by rw[<-Q.out];rfl)
     have f2:∀p,(nv (.pointer (some ⟨w.heap.size,17,none⟩))).run prog (ab Y p)=.ok (.agg #[.string (str o.key.kid),.string (str o.key.seed),.int .i64 o.key.state,.int .i64 o.key.since]) (ab Y p):=fun p=>rj (Bc.out.below (aa Y p));clear B6 V Aj Ak D I c0;go_upto_region 25 with fail
     refine bq [0] [1,2,3,4,5,6] 7 [8,9,10,11] (ar o.key) 42 ?_;simp only[pick,List.getD_cons_zero,List.getD_cons_succ];repeat (go_big_quiet_step (fail))
     refine wpQuiet_nil ?_;repeat (go_big_quiet_step (fail))
     refine wpQuiet_nil ?_;refine⟨_,rfl,rfl,fun w4 B7=>?_,fun gx w6 Bd BL Be=>?_⟩
     .go_simp
      exact eR B7
     .have Bf:=A4.trans (Bd.below.mono A4.size)
      have H6:=AQ.out.below Bd.below;obtain⟨A',c',w7,A5,B8,BM,hS⟩:=dQ (enc:=ar) (L:=L.keys) (x:=o.key) (sl:=4) kC underlying27 H6.hb H6.blk rfl (ax H6.rk.oK H6.blk (by decide)) H6.rk.oK rfl (by rw[Q.out];omega) (kz _) Be
      obtain⟨v8,H8,AR⟩:=H6.slotK hS;rw[Q.out] at A5 B8 H8 AR;have N:Hid (bE base gl R w (.returned (.int .i64 0)) (w7.setCell ⟨gl,4,none⟩ (.slice A' (n+1) c'))):=eA (by
       rw[M.out];exact⟨rfl,(Bf.mono HB.out).trans AR,fun _=>⟨_,_,_,_,_,_,_,_,H8⟩⟩)
      clear hS H8 AR Be H6 f1 f2 AQ Bc;go_wp2_with (at_builtin;refine Lib.wpList_append_run _ rfl _ _ _ _ rfl _ _ rfl rfl _ _ A5 ?_)
      (try rw[ak])
      (try go_wp2)
      go_ret;exact N.out
   .have hd:R=dK L o.n:=by
     rw[<-hR.out];unfold does;rw[Az.out];rfl
    have S:=eA hd;have c1:wx.cell? ⟨w.heap.size,1,none⟩=some (.int .i64 o.n):=I.out.cell 1;clear hd
    cases J:aD o.n 0 1099511627776
    .have M:Hid (R=(L,1)):=eA (by rw[S.out];unfold dK;rw[J];rfl)
     have AP:o.n<0\/(¬o.n<0/\1099511627776<o.n):=by
      unfold aD at J;simp only[decide_eq_false_iff_not] at J;omega
     clear S J;rcases AP with h1|⟨h1,h2⟩
     all_goals
      go_wp2_with fail
      go_ret;exact C.out _ _ M.out (by decide) (Below.refl _ _)
    have Bg:¬o.n<0/\¬1099511627776<o.n:=by
     unfold aD at J;simp only[decide_eq_true_eq] at J;omega
    obtain⟨n1,n2⟩:=Bg;rcases bh (fun k:Led.Key=>k.state==1) L.keys with⟨hx,y⟩|⟨i,Ab,hx,y,d,Ac⟩
    .have hr:r1<0:=by rw[<-Ay.out,hx];decide
     have M:Hid (R=(L,7)):=eA (by rw[S.out];unfold dK;rw[J,y];rfl)
     clear hx y S J;go_wp2_with fail
     go_ret;exact C.out _ _ M.out (by decide) (Below.refl _ _)
    have AS:r1=(i:Int):=by rw[<-Ay.out,hx]
    subst AS;have B9:¬(i:Int)<0:=by omega
    have BG:(i:Int)<(n:Int):=by rw[<-Q.out];omega
    have M:Hid (R=({ L with keys:=dH (fun j=>j.state==1) (fun j=>{ j with state:=2,since:=o.n }) (eo o.n L.keys) },0)):=eA (by rw[S.out];unfold dK;rw[J,y];rfl)
    obtain⟨g,BN,eg,_⟩:=D.out.turnK Ab;injection eg with eg1 _ eg3
    subst eg1 eg3;have BO:g<w.heap.size:=by
     have:=B3.out g rfl;exact this
    have A6:=Aa.mono HB.out;clear S J y hx C Aj;rcases bh (fun k:Led.Key=>k.state==2) L.keys with⟨hy,B⟩|⟨i2,A7,hy,B,Aq,A8⟩
    .have hr:r2<0:=by rw[<-AH.out,hy];decide
     have BP:¬0<=r2:=by omega
     have HF:Hid (R=({ L with keys:=L.keys.set i { L.keys[i] with state:=2,since:=o.n } },0)):=eA (by rw[M.out,show eo o.n L.keys=L.keys from oz B,fY (p:=fun j:Led.Key=>j.state==1) Ab Ac d]);clear M hy B Ac d hr;have hT:=D.out.twoK Ab 2 o.n;obtain⟨Bh,⟨u1,AT⟩,AU,Ar,l⟩:=hT;have As:Blk (wx.setCell ⟨g,i*4+2,none⟩ (.int .i64 2)) w.heap.size (ac o sv kv) 47:=I.out.set_ne (p:=⟨g,i*4+2,none⟩) (show w.heap.size≠g by omega) _;have Ad:=eA Ar;have O:=eA l;have G:=eA As;have AV:wx.cell? ⟨gl,4,none⟩=some (.slice (some ⟨g,0,none⟩) n u):=by rw[<-Q.out];exact D.out.blk.cell 4
     clear Ar l As;go_upto_region 35 with fail
     obtain⟨F,m⟩:∃wa,wx.setCell ⟨g,i*4+2,none⟩ (.int .i64 2)=wa:=⟨_,rfl⟩;rw[m] at Ad O G ⊢;clear m AT AU AV;have f0:∀p,(ab F p).cell? ⟨gl,4,none⟩=some (.slice (some ⟨g,0,none⟩) n u):=fun p=>by rw[<-Q.out];exact(Ad.out.blk.below (aa F p)).cell 4
     have f1:∀p,(ab F p).cell? ⟨w.heap.size,1,none⟩=some (.int .i64 o.n):=fun p=>(G.out.below (aa F p)).cell 1;refine bz 9 ?_;simp only[List.take_succ_cons,List.take_zero,List.drop_succ_cons,List.drop_zero];repeat (go_big_quiet_step (fail))
     refine wpQuiet_nil ?_;rintro _ ⟨p,rfl⟩;obtain⟨⟨v1,Bi⟩,Bj,Au,q⟩:=O.out _ (aa F p);have Av:=(G.out.below (aa F p)).set_ne (p:=⟨g,i*4+3,none⟩) (show w.heap.size≠g by omega) (.int .i64 o.n);clear f0 f1;generalize ab F p=Bk at *;have Al:=eA Au;have Af:=eA Av;have Ag:=A6.trans q;clear Au Av Ad O G q;have N:=eA (show bE base gl R w (.returned (.int .i64 0)) _ by rw[HF.out];exact⟨rfl,Ag,fun _=>⟨_,_,_,_,_,_,_,_,Al.out⟩⟩)
     clear Al Af HF;go_wp2;(try rw[ak])
     (try go_wp2)
     go_ret;exact N.out
    .have Bl:r2=(i2:Int):=by rw[<-AH.out,hy]
     subst Bl;have BH:(0:Int)<=(i2:Int):=by omega
     have BI:(i2:Int)<(n:Int):=by rw[<-Q.out];omega
     have Bm:i≠i2:=fun e=>by
      subst e;rw[beq_iff_eq] at d Aq;omega
     obtain⟨K1,Am⟩:∃K1,L.keys.set i2 { L.keys[i2] with state:=3,since:=o.n }=K1:=⟨_,rfl⟩;have A9:eo o.n L.keys=K1:=(fY (p:=fun j:Led.Key=>j.state==2) (f:=fun j=>{ j with state:=3,since:=o.n }) A7 A8 Aq).trans Am;have BA:K1.length=L.keys.length:=by rw[<-Am,List.length_set]
     have AA:i<K1.length:=by omega
     have AB:(K1[i].state==1)=true:=by
      have:K1[i]=L.keys[i]:=by
       simp only[<-Am];exact List.getElem_set_ne (Ne.symm Bm) _
      rw[this];exact d
     have AC:∀x∈K1.take i,(x.state==1)=false:=by
      intro x hx;rw[<-Am] at hx;rcases List.mem_or_eq_of_mem_set (by rw[List.take_set] at hx;exact hx) with h|h
      .exact Ac x h
      .subst h
       rfl
     have HF:Hid (R=({ L with keys:=K1.set i { K1[i] with state:=2,since:=o.n } },0)):=eA (by rw[M.out,A9,fY (p:=fun j:Led.Key=>j.state==1) AA AC AB]);have BB:=eA Am;clear M hy B Ac d A8 Aq A9 AB AC Bm Am BA;have hT:=D.out.twoK A7 3 o.n;obtain⟨Bh,⟨u1,AT⟩,AU,Ar,l⟩:=hT;have As:Blk (wx.setCell ⟨g,i2*4+2,none⟩ (.int .i64 3)) w.heap.size (ac o sv kv) 47:=I.out.set_ne (p:=⟨g,i2*4+2,none⟩) (show w.heap.size≠g by omega) _;have Ad:=eA Ar;have O:=eA l;have G:=eA As;have AV:wx.cell? ⟨gl,4,none⟩=some (.slice (some ⟨g,0,none⟩) n u):=by rw[<-Q.out];exact D.out.blk.cell 4
     clear Ar l As;go_upto_region 33 with fail
     obtain⟨F,m⟩:∃wa,wx.setCell ⟨g,i2*4+2,none⟩ (.int .i64 3)=wa:=⟨_,rfl⟩;rw[m] at Ad O G ⊢;clear m AT AU AV;have f0:∀p,(ab F p).cell? ⟨gl,4,none⟩=some (.slice (some ⟨g,0,none⟩) n u):=fun p=>by rw[<-Q.out];exact(Ad.out.blk.below (aa F p)).cell 4
     have f1:∀p,(ab F p).cell? ⟨w.heap.size,1,none⟩=some (.int .i64 o.n):=fun p=>(G.out.below (aa F p)).cell 1;refine bz 9 ?_;simp only[List.take_succ_cons,List.take_zero,List.drop_succ_cons,List.drop_zero];repeat (go_big_quiet_step (fail))
     refine wpQuiet_nil ?_;rintro _ ⟨p,rfl⟩;obtain⟨⟨v1,Bi⟩,Bj,Au,q⟩:=O.out _ (aa F p);have Av:=(G.out.below (aa F p)).set_ne (p:=⟨g,i2*4+3,none⟩) (show w.heap.size≠g by omega) (.int .i64 o.n);clear f0 f1;generalize ab F p=Bk at *;have Al:=eA Au;have Af:=eA Av;have Ag:=A6.trans q;clear Au Av Ad O G q;obtain⟨wy,A3⟩:=eC (Bk.setCell ⟨g,i2*4+3,none⟩ (.int .i64 o.n));rw[A3,BB.out] at Al;rw[A3] at Af Ag;have Bn:=eA A3;clear A3;(try go_upto_region 34 with fail)
     (try rw[ak])
     (try go_upto_region 34 with fail)
     rw[Bn.out];clear Bn Bi Bj;have hT:=Al.out.twoK AA 2 o.n;obtain⟨BJ,⟨u2,BC⟩,BD,Bo,AD⟩:=hT;have Bp:Blk (wy.setCell ⟨g,i*4+2,none⟩ (.int .i64 2)) w.heap.size (ac o sv kv) 47:=Af.out.set_ne (p:=⟨g,i*4+2,none⟩) (show w.heap.size≠g by omega) _;have AW:=eA Bo;have Aw:=eA AD;have Ah:=eA Bp;have BE:wy.cell? ⟨gl,4,none⟩=some (.slice (some ⟨g,0,none⟩) n u):=by rw[<-Q.out];exact Al.out.blk.cell 4
     clear Bo AD Bp;go_upto_region 35 with fail
     obtain⟨Ae,AE⟩:∃wa,wy.setCell ⟨g,i*4+2,none⟩ (.int .i64 2)=wa:=⟨_,rfl⟩;rw[AE] at AW Aw Ah ⊢;clear AE BC BD BE;have f0:∀p,(ab Ae p).cell? ⟨gl,4,none⟩=some (.slice (some ⟨g,0,none⟩) n u):=fun p=>by rw[<-Q.out];exact(AW.out.blk.below (aa Ae p)).cell 4
     have f1:∀p,(ab Ae p).cell? ⟨w.heap.size,1,none⟩=some (.int .i64 o.n):=fun p=>(Ah.out.below (aa Ae p)).cell 1;refine bz 9 ?_;simp only[List.take_succ_cons,List.take_zero,List.drop_succ_cons,List.drop_zero];repeat (go_big_quiet_step (fail))
     refine wpQuiet_nil ?_;rintro _ ⟨p,rfl⟩;obtain⟨⟨v2,BQ⟩,BR,Bq,AF⟩:=Aw.out _ (aa Ae p);have Br:=(Ah.out.below (aa Ae p)).set_ne (p:=⟨g,i*4+3,none⟩) (show w.heap.size≠g by omega) (.int .i64 o.n);clear f0 f1;generalize ab Ae p=BS at *;have Bt:=eA Bq;have Bu:=eA Br;have Bv:=Ag.trans AF;clear Bq Br AW Aw Ah AF;have N:=eA (show bE base gl R w (.returned (.int .i64 0)) _ by rw[HF.out];exact⟨rfl,Bv,fun _=>⟨_,_,_,_,_,_,_,_,Bt.out⟩⟩)
     clear Bt Bu HF;go_wp2;(try rw[ak])
     (try go_wp2)
     go_ret;exact N.out
   .have hd:R=jh L o.name:=by
     rw[<-hR.out];unfold does;rw[Az.out];rfl
    have S:=eA hd;clear hd;rcases bh (fun k:Led.Key=>k.kid==o.name&&k.state==3) L.keys with⟨hx,y⟩|⟨i,Ab,hx,y,d,Ac⟩
    .have hr:r4<0:=by rw[<-AI.out,hx];decide
     have M:Hid (R=(L,7)):=eA (by rw[S.out];unfold jh;rw[y];rfl)
     clear hx y S;go_wp2_with fail
     go_ret;exact C.out _ _ M.out (by decide) (Below.refl _ _)
    .have AS:r4=(i:Int):=by rw[<-AI.out,hx]
     subst AS;have B9:¬(i:Int)<0:=by omega
     have J:i<n:=by rw[<-Q.out];exact Ab
     have M:Hid (R=({ L with keys:=L.keys.take i++L.keys.drop (i+1) },0)):=eA (by rw[S.out];unfold jh;rw[y,rI (p:=fun k:Led.Key=>k.kid==o.name&&k.state==3) Ab Ac d];rfl)
     have hE:Es ar 4 wx AK n L.keys:=by
      obtain⟨A2,c2,e2,_,ea⟩:=cl D.out.rk.oK;injection e2 with e2 _ e3
      subst e2 e3;rw[Q.out] at ea;exact ea
     obtain⟨A1,c1,A2,c2,B1,d1,w1,B2,d2,T,s1,s2,Bw,BF,By,B,Bz⟩:=o4 aP (by omega) (t:=27) (e:=42) kC rfl underlying27 (by omega) hE (cap_of D.out.rk.oK Q.out) (by omega) J (lX (pM L.keys));have BT:w1.cell? ⟨gl,4,none⟩=some (.slice AK n u):=(BF.cell (p:=⟨gl,4,none⟩) D.out.blk.lt).trans Aj;have B0:=Aa.trans (B.mono Aa.size);have H2:=D.out.below B;have BU:T.cell? ⟨gl,4,none⟩=some (.slice AK n u):=(B.cell (p:=⟨gl,4,none⟩) D.out.blk.lt).trans Aj;have BV:T.frozen? ⟨gl,4,none⟩=false:=H2.blk.froz 4;have H3:=H2.setK (aG Bz D.out.hb);have A:Below base w (T.setCell ⟨gl,4,none⟩ (.slice B2 (n-1) d2)):=(B0.mono HB.out).setCell (p:=⟨gl,4,none⟩) H2.hg _;have N:Hid (bE base gl R w (.returned (.int .i64 0)) (T.setCell ⟨gl,4,none⟩ (.slice B2 (n-1) d2))):=eA (by
      rw[M.out];exact⟨rfl,A,fun _=>⟨_,_,_,_,_,_,_,_,H3⟩⟩)
     have BW:(i:Int)+1<=9223372036854775807:=by omega
     clear hx y d Ac S hE H2 H3 A Bz Ab C D I;go_wp2_with (at_builtin;first|refine Lib.wpList_append_run _ rfl _ _ _ _ rfl _ _ rfl rfl _ _ Bw ?_|refine Lib.wpList_append_run _ rfl _ _ _ _ rfl _ _ rfl rfl _ _ By ?_)
     go_ret;exact N.out
end
section
open Go.RowKit Mem Led
theorem mD{l:List Txt}{s:Txt}:l.contains s=l.any (fun t=>t==s):=by
 rw[List.contains_eq_any_beq]
 congr 1
 funext y
 exact Bool.beq_comm
theorem scan_bans{L:Led.Ledger}(A:L.Wf)(s:Txt):aU ord s true L.bans=L.bans.eraseP (fun t=>t==s):=by
 rw[iK,<-iC ord_cmp' A.b1]
 congr 1
 funext y
 rw[Bool.eq_iff_iff]
 simp[lp]
theorem qt{L:Led.Ledger}(A:L.Wf)(x:Led.Node):aU cN x true L.nodes=L.nodes.eraseP (fun n=>n.name==x.name):=by
 rw[iK,<-iC rW A.n1]
 congr 1
 funext y
 rw[Bool.eq_iff_iff]
 simp[cN,lp]
theorem bans_fit{L:Led.Ledger}(A:L.Wf){s:Txt}(h:L.bans.contains s=false):(ins ord s L.bans).length=L.bans.length+1:=by
 rw[kA ord_cmp' A.b1,show (L.bans.any fun y=>decide (ord y s=0))=L.bans.any (fun t=>t==s) from uK id s L.bans,<-mD,h]
 rfl
section
variable {L:Led.Ledger}{s:Txt}{n:Int}
theorem seq_none(h:(L.nodes.any fun d=>d.name==s)=false):jZ L s n=(L,7):=by
 unfold jZ
 have:L.nodes.find? (fun d=>d.name==s)=none:=by
  rw[List.find?_eq_none];intro x hx;rw[List.any_eq_false] at h;exact h x hx
 rw[this]
theorem seq_at{i:Nat}{C:Int}(hi:i<L.nodes.length)(B:L.nodes[i].seq=C)(A:∀x∈L.nodes.take i,(x.name==s)=false)(D:(L.nodes[i].name==s)=true) :
  jZ L s n=if n<=C||n > 1099511627776 then (L,22) else ({ L with nodes:=L.nodes.set i { L.nodes[i] with seq:=n } },0):=by
 subst B
 unfold jZ
 rw[nG (p:=fun d:Led.Node=>d.name==s) hi A D,fY (p:=fun d:Led.Node=>d.name==s) hi A D]
end
theorem rnames_any{base gl:Nat}{vE vN vB vJ vK vU:Value}{L:Led.Ledger}{E:List (Led.Entry × Value)}{U:List (Led.Bundle × Value)}(ok:Bool)(o:Led.Op)(sv kv:Value)(w:World)(H:RAt base gl w vE vN vB vJ vK vU L E U)(hL:L.Wf)(ho:Sized o)(hk:o.kind=6\/o.kind=7\/o.kind=8\/o.kind=14) :
  Calls prog 74 #[.pointer (some ⟨gl,0,none⟩),.agg (ac o sv kv).toArray] w (bE base gl (does ok L o) w):=by
 obtain⟨AN,G,rfl,fN,_⟩:=cl H.rk.oN
 obtain⟨AB,Y,rfl,fB,_⟩:=cl H.rk.oB
 have zN:=hL.n3
 have zB:=hL.b3
 obtain⟨W,hW⟩:=eC (w.alloc (.cells (ac o sv kv).toArray 47))
 have b0:Blk W w.heap.size (ac o sv kv) 47:=by rw[<-hW];exact Blk.new w _ _
 have Ag:eF w W:=eG hW
 have HW:=eA hW
 clear hW
 obtain⟨CS,AC⟩:=eD ((ac o sv kv).toArray)
 rw[AC.out] at HW ⊢
 have HH:=eA (H.below Ag)
 have Am:=eA b0
 have HB:=eA H.hb
 have AO:gl<w.heap.size:=H.blk.lt
 obtain⟨kk,S⟩:=eD (o.kind)
 rw[S.out] at hk
 have HK:=eA hk
 obtain⟨R,hR⟩:=eD (does ok L o)
 rw[hR.out]
 have l:=eA fun W=>ks o.name W ho.nm
 obtain⟨N,hN⟩:=eC (L.nodes.length)
 obtain⟨M,hM⟩:=eC (L.bans.length)
 have HN:=eA hN
 have HM:=eA hM
 rw[hN] at zN HH fN
 rw[hM] at zB HH fB
 clear b0 H hk hN hM
 have Z:∀p,(ab W p).cell? ⟨gl,2,none⟩=some (.slice AB M Y):=fun p=>(HH.out.blk.below (aa W p)).cell 2
 have b:∀p,(ab W p).cell? ⟨w.heap.size,2,none⟩=some (.string (str o.name)):=fun p=>(Am.out.below (aa W p)).cell 2
 have HC:Hid (∀p,Calls prog 117 #[.slice AB M Y,.string (str o.name)] (ab W p) fun e w'=>e=.returned (.bool (L.bans.contains o.name))/\Below (ab W p).heap.size (ab W p) w'):=eA fun p=>by
  obtain⟨A,n',c,e,_,ht⟩:=dR (HH.out.below (aa W p)).rk.oB;injection e with e1 e2 e3
  subst e1 e2 e3;exact(rhas_any _ _ _ L.bans o.name _ ht (by omega)).mono fun e w' ⟨h1,h2⟩=>⟨h1,h2▸Below.refl _ _⟩
 go_enter func74,ntmps74
 go_upto_region 1 with fail
 rw[HW.out]
 clear HW
 refine au ?_
 repeat (go_big_quiet_step (first|(go_at_call 117;exact aq (HC.out _))|fail))
 refine wpQuiet_nil ?_
 rintro _ ⟨p,rfl⟩
 have B:=aa W p
 have An:=Ag.trans (B.mono Ag.size)
 have Ah:=eA (HH.out.below B)
 have Ao:=eA (Am.out.below B)
 generalize ab W p=w1 at *
 clear Z b HC HH Am B Ag
 obtain⟨bn,f⟩:=eD (L.bans.contains o.name)
 rw[f.out]
 obtain⟨r,hr⟩:=eD (aX (fun d:Led.Node=>d.name==o.name) L.nodes)
 have Z:∀p,(ab w1 p).cell? ⟨gl,1,none⟩=some (.slice AN N G):=fun p=>(Ah.out.blk.below (aa w1 p)).cell 1
 have b:∀p,(ab w1 p).cell? ⟨w.heap.size,2,none⟩=some (.string (str o.name)):=fun p=>(Ao.out.below (aa w1 p)).cell 2
 have HE:Hid (∀w',eF w1 w'->Es ae 5 w' AN N L.nodes):=eA fun w' k=>by
  obtain⟨A,n',c,e,_,ht⟩:=bc (Ah.out.below k).rk.oN;injection e with e1 e2 e3
  subst e1 e2 e3;exact ht
 have HC:Hid (∀p,Calls prog 118 #[.slice AN N G,.string (str o.name)] (ab w1 p) fun e w'=>e=.returned (.int .i64 r)/\Below (ab w1 p).heap.size (ab w1 p) w'):=eA fun p=>by
  rw[<-hr.out];exact mX AN N G L.nodes o.name _ (HE.out _ (aa w1 p)) (by omega)
 go_upto_region 2 with fail
 refine au ?_
 repeat (go_big_quiet_step (first|(go_at_call 118;exact aq (HC.out _))|fail))
 refine wpQuiet_nil ?_
 rintro _ ⟨p,rfl⟩
 have B:=aa w1 p
 have C:=An.trans (B.mono An.size)
 have D:=eA (Ah.out.below B)
 have I:=eA (Ao.out.below B)
 have Ap:Hid (∀w',Below (ab w1 p).heap.size (ab w1 p) w'->Es ae 5 w' AN N L.nodes):=eA fun w' k=>HE.out w' (B.trans (k.mono B.size))
 generalize ab w1 p=F at *
 clear Z b HC Ah Ao B An HE
 have k0:F.cell? ⟨w.heap.size,0,none⟩=some (.int .i64 kk):=(I.out.cell 0).trans (by rw[<-S.out];rfl)
 have k1:F.cell? ⟨w.heap.size,2,none⟩=some (.string (str o.name)):=I.out.cell 2
 have k2:F.cell? ⟨gl,2,none⟩=some (.slice AB M Y):=D.out.blk.cell 2
 have AD:=eA (iB (fun d:Led.Node=>d.name==o.name) L.nodes)
 have T:Hid (∀(g:Bool) (V:World),eF F V->Calls prog 120 #[.slice AB M Y,.string (str o.name),.bool g] V fun e w'=>∃v,e=.returned v/\GR V w'/\w'.ownsRow base 9 1 v (aU ord o.name g L.bans).length (ah al (aU ord o.name g L.bans))):=eA fun g V k=>by
  have ht:Es al 1 V AB M L.bans:=by
   obtain⟨A,n',c,e,_,ht⟩:=bc (D.out.below k).rk.oB;injection e with e1 e2 e3
   subst e1 e2 e3;exact ht
  refine(scanStr_any AB M Y L.bans o.name g V ht (by omega) (fun y _=>gB y) (gB o.name)).mono ?_;rintro e w' ⟨v,he,ho,Aq⟩;exact⟨v,he,GR.of Aq,aG ho (Nat.le_trans D.out.hb k.size)⟩
 obtain⟨z,Ar⟩:∃z:Led.Node,Hid (z=⟨o.name,[],0,0,[]⟩):=⟨_,eA rfl⟩
 have X:Hid (∀(Ay:Nat) (A':Option Addr) (c':Nat) (V:World),(∃vE vB vJ vK vU L2 E U,RAt base Ay V vE (.slice A' N c') vB vJ vK vU L2 E U/\L2.nodes=L.nodes)->Calls prog 119 #[.slice A' N c',.agg #[.string (str o.name),.string ⟨#[]⟩,.int .i64 0,.int .i64 0,.string ⟨#[]⟩],.bool true] V fun e w'=>∃v,e=.returned v/\GR V w'/\w'.ownsRow base 40 5 v (aU cN z true L.nodes).length (ah ae (aU cN z true L.nodes))):=eA fun Ay A' c' V ⟨vE,vB,vJ,vK,vU,L2,E,U,H5,hl⟩=>by
  have ht:Es ae 5 V A' N L.nodes:=by
   obtain⟨A,n',c,e,_,ht⟩:=bc H5.rk.oN;injection e with e1 e2 e3
   subst e1 e2 e3;rw[hl] at ht;exact ht
  have h:=oZ A' N c' L.nodes z true V ht (by omega) (fun y _=>cX y) (cX z);rw[Ar.out] at h ⊢;refine Calls.mono h ?_;rintro e w' ⟨v,he,ho,Aq⟩;exact⟨v,he,GR.of Aq,aG ho H5.hb⟩
 rcases HK.out with rfl|rfl|rfl|rfl
 .have J:=eA (show R=ii L o.name by rw[<-hR.out];unfold does;rw[S.out];rfl)
  clear hR S HK Ap
  cases Ab:Ids.agent o.name
  .have K:=eA (show R=(L,1) by rw[J.out];unfold ii;rw[Ab];rfl)
   have h:=l.out F;rw[Ab] at h;clear J l T X Ab;go_wp2_with fail
   refine h.mono ?_;rintro e w3 ⟨rfl,rfl⟩;go_wp2;go_ret;exact bE.err (C.mono HB.out) K.out (by decide)
  .have h:=l.out F
   rw[Ab] at h;have As:=eA Ab;clear l Ab
   cases bn
   .by_cases h8:8<=M
    .have K:=eA (show R=(L,6) by rw[J.out];unfold ii put;rw[As.out,f.out,bans_fit hL f.out,HM.out,if_neg (show ¬M+1<=8 by omega)];rfl)
     have AE:(8:Int)<=(M:Int):=by omega
     clear J T X;go_wp2_with fail
     refine h.mono ?_;rintro e w3 ⟨rfl,rfl⟩;go_wp2;go_ret;exact bE.err (C.mono HB.out) K.out (by decide)
    .have K:=eA (show R=({ L with bans:=aU ord o.name false L.bans,nodes:=aU cN z true L.nodes },0) by rw[J.out,qt hL,gE ord_cmp' hL.b1,Ar.out];unfold ii put;rw[As.out,f.out,bans_fit hL f.out,HM.out,if_pos (show M+1<=8 by omega)];rfl)
     have AE:¬(8:Int)<=(M:Int):=by omega
     clear J;go_wp2_with fail
     refine h.mono ?_;rintro e w3 ⟨rfl,AF⟩;subst AF;clear h;go_upto_region 12 with fail
     have Z:∀p,(ab F p).cell? ⟨gl,2,none⟩=some (.slice AB M Y):=fun p=>(D.out.blk.below (aa F p)).cell 2;have b:∀p,(ab F p).cell? ⟨w.heap.size,2,none⟩=some (.string (str o.name)):=fun p=>(I.out.below (aa F p)).cell 2;refine aE [([0,1,2,3,4,5,6],(7,fun v w'=>w'.ownsRow base 9 1 v (aU ord o.name false L.bans).length (ah al (aU ord o.name false L.bans))))] [8,9,10] (by kernel_rfl) (by kernel_rfl) (by
      intro x hx;simp only[List.mem_cons,List.not_mem_nil,or_false] at hx;subst hx;exact ao fun v w w' k h=>af h k eH) ?_
     refine aw ?_;simp only[pick,List.getD_cons_zero,List.getD_cons_succ];repeat (go_big_quiet_step (fail))
     refine wpQuiet_nil ?_;refine⟨_,rfl,rfl,?_,?_⟩
     .intro V m _
      go_simp
      exact⟨rfl,T.out false V m.below⟩
     rintro v1-w6 Ac hF;obtain⟨_,q⟩:=hF;obtain⟨A9,c9,rfl,_,_⟩:=aj q;have j:=Ac.below;have O:=D.out.below j;have q6:w6.cell? ⟨gl,2,none⟩=some (.slice AB M Y):=O.blk.cell 2;have Az:=O.blk.froz 2;have H7:=O.setB q;have Au:=(I.out.below j).set_ne (p:=⟨gl,2,none⟩) (show w.heap.size≠gl by omega) (.slice A9 (aU ord o.name false L.bans).length c9);have A0:Below base w (w6.setCell ⟨gl,2,none⟩ (.slice A9 (aU ord o.name false L.bans).length c9)):=((C.trans (j.mono C.size)).mono HB.out).setCell (p:=⟨gl,2,none⟩) O.hg _;obtain⟨w7,Av⟩:=eC (w6.setCell ⟨gl,2,none⟩ (.slice A9 (aU ord o.name false L.bans).length c9));rw[Av] at H7 Au A0;have AG:=eA Av;have Ad:=eA H7;have A1:=eA Au;clear Z b T D O I Ac j q H7 Au Av C k0 k1 k2;go_wp2;(try rw[ak])
     rw[AG.out];clear q6 Az;have Z:∀p,(ab w7 p).cell? ⟨gl,1,none⟩=some (.slice AN N G):=fun p=>(Ad.out.blk.below (aa w7 p)).cell 1;have b:∀p,(ab w7 p).cell? ⟨w.heap.size,2,none⟩=some (.string (str o.name)):=fun p=>(A1.out.below (aa w7 p)).cell 2;go_upto_region 13 with fail
     refine aE [([0,1,2,3,4,5,6,7],(8,fun v w'=>w'.ownsRow base 40 5 v (aU cN z true L.nodes).length (ah ae (aU cN z true L.nodes))))] [9,10,11] (by kernel_rfl) (by kernel_rfl) (by
      intro x hx;simp only[List.mem_cons,List.not_mem_nil,or_false] at hx;subst hx;exact ao fun v w w' k h=>af h k eH) ?_
     refine aw ?_;simp only[pick,List.getD_cons_zero,List.getD_cons_succ];repeat (go_big_quiet_step (fail))
     refine wpQuiet_nil ?_;refine⟨_,rfl,rfl,?_,?_⟩
     .intro V m _
      go_simp
      exact⟨rfl,X.out gl AN G V ⟨_,_,_,_,_,_,_,_,Ad.out.below m.below,rfl⟩⟩
     rintro v2-w8 Ae hF;obtain⟨_,s⟩:=hF;obtain⟨A8,c8,rfl,_,_⟩:=aj s;have t:=Ae.below;have H8:=Ad.out.below t;have q8:w8.cell? ⟨gl,1,none⟩=some (.slice AN N G):=H8.blk.cell 1;have AH:=H8.blk.froz 1;have H9:=H8.setN s;have Q:Hid (bE base gl R w (.returned (.int .i64 0)) (w8.setCell ⟨gl,1,none⟩ (.slice A8 (aU cN z true L.nodes).length c8))):=eA (by
      rw[K.out];exact⟨rfl,(A0.trans (t.mono Ad.out.hb)).setCell (p:=⟨gl,1,none⟩) H8.hg _,fun _=>⟨_,_,_,_,_,_,_,_,H9⟩⟩)
     clear Z b H8 H9 s Ae t X Ad A1;go_wp2;(try rw[ak])
     (try go_wp2)
     go_ret;exact Q.out
   .have K:=eA (show R=(L,8) by rw[J.out];unfold ii;rw[As.out,f.out];rfl)
    clear J T X;go_wp2_with fail
    refine h.mono ?_;rintro e w3 ⟨rfl,rfl⟩;go_wp2;go_ret;exact bE.err (C.mono HB.out) K.out (by decide)
 .have J:=eA (show R=jg L o.name by rw[<-hR.out];unfold does;rw[S.out];rfl)
  clear hR S HK Ap X l
  cases bn
  .have K:=eA (show R=(L,7) by rw[J.out];unfold jg;rw[<-mD,f.out];rfl)
   clear J T;go_wp2_with fail
   go_ret;exact bE.err (C.mono HB.out) K.out (by decide)
  .have K:=eA (show R=({ L with bans:=aU ord o.name true L.bans },0) by rw[J.out,scan_bans hL];unfold jg;rw[<-mD,f.out];rfl)
   clear J;have Z:∀p,(ab F p).cell? ⟨gl,2,none⟩=some (.slice AB M Y):=fun p=>(D.out.blk.below (aa F p)).cell 2;have b:∀p,(ab F p).cell? ⟨w.heap.size,2,none⟩=some (.string (str o.name)):=fun p=>(I.out.below (aa F p)).cell 2;go_upto_region 17 with fail
   refine aE [([0,1,2,3,4,5,6],(7,fun v w'=>w'.ownsRow base 9 1 v (aU ord o.name true L.bans).length (ah al (aU ord o.name true L.bans))))] [8,9,10] (by kernel_rfl) (by kernel_rfl) (by
    intro x hx;simp only[List.mem_cons,List.not_mem_nil,or_false] at hx;subst hx;exact ao fun v w w' k h=>af h k eH) ?_
   refine aw ?_;simp only[pick,List.getD_cons_zero,List.getD_cons_succ];repeat (go_big_quiet_step (fail))
   refine wpQuiet_nil ?_;refine⟨_,rfl,rfl,?_,?_⟩
   .intro V m _
    go_simp
    exact⟨rfl,T.out true V m.below⟩
   rintro v1-w6 Ac hF;obtain⟨_,q⟩:=hF;obtain⟨A9,c9,rfl,_,_⟩:=aj q;have j:=Ac.below;have O:=D.out.below j;have q6:w6.cell? ⟨gl,2,none⟩=some (.slice AB M Y):=O.blk.cell 2;have Az:=O.blk.froz 2;have H7:=O.setB q;have Q:Hid (bE base gl R w (.returned (.int .i64 0)) (w6.setCell ⟨gl,2,none⟩ (.slice A9 (aU ord o.name true L.bans).length c9))):=eA (by
    rw[K.out];exact⟨rfl,((C.trans (j.mono C.size)).mono HB.out).setCell (p:=⟨gl,2,none⟩) O.hg _,fun _=>⟨_,_,_,_,_,_,_,_,H7⟩⟩)
   clear Z b T D O I Ac j q H7 k0 k1 k2;go_wp2;(try rw[ak])
   (try go_wp2)
   go_ret;exact Q.out
 .have J:=eA (show R=gq L o.name by rw[<-hR.out];unfold does;rw[S.out];rfl)
  have Af:=AD.out;rw[hr.out] at Af;have HA:=eA Af;clear hR S HK Ap T l Af;by_cases AI:r<0
  .have K:=eA (show R=(L,7) by rw[J.out];unfold gq;rw[<-HA.out,decide_eq_false (by omega)];rfl)
   clear J X;go_wp2_with fail
   go_ret;exact bE.err (C.mono HB.out) K.out (by decide)
  .have K:=eA (show R=({ L with nodes:=aU cN z true L.nodes },0) by rw[J.out,qt hL,Ar.out];unfold gq;rw[<-HA.out,decide_eq_true (by omega)];rfl)
   have AJ:=C.mono HB.out;clear J k1 k2;have Z:∀p,(ab F p).cell? ⟨gl,1,none⟩=some (.slice AN N G):=fun p=>(D.out.blk.below (aa F p)).cell 1;have b:∀p,(ab F p).cell? ⟨w.heap.size,2,none⟩=some (.string (str o.name)):=fun p=>(I.out.below (aa F p)).cell 2;go_upto_region 21 with fail
   refine aE [([0,1,2,3,4,5,6,7],(8,fun v w'=>w'.ownsRow base 40 5 v (aU cN z true L.nodes).length (ah ae (aU cN z true L.nodes))))] [9,10,11] (by kernel_rfl) (by kernel_rfl) (by
    intro x hx;simp only[List.mem_cons,List.not_mem_nil,or_false] at hx;subst hx;exact ao fun v w w' k h=>af h k eH) ?_
   refine aw ?_;simp only[pick,List.getD_cons_zero,List.getD_cons_succ];repeat (go_big_quiet_step (fail))
   refine wpQuiet_nil ?_;refine⟨_,rfl,rfl,?_,?_⟩
   .intro V m _
    go_simp
    exact⟨rfl,X.out gl AN G V ⟨_,_,_,_,_,_,_,_,D.out.below m.below,rfl⟩⟩
   rintro v2-w8 Ae hF;obtain⟨_,s⟩:=hF;obtain⟨A8,c8,rfl,_,_⟩:=aj s;have t:=Ae.below;have H8:=D.out.below t;have q8:w8.cell? ⟨gl,1,none⟩=some (.slice AN N G):=H8.blk.cell 1;have AH:=H8.blk.froz 1;have H9:=H8.setN s;have Q:Hid (bE base gl R w (.returned (.int .i64 0)) (w8.setCell ⟨gl,1,none⟩ (.slice A8 (aU cN z true L.nodes).length c8))):=eA (by
    rw[K.out];exact⟨rfl,(AJ.trans (t.mono D.out.hb)).setCell (p:=⟨gl,1,none⟩) H8.hg _,fun _=>⟨_,_,_,_,_,_,_,_,H9⟩⟩)
   clear Z b H8 H9 s Ae t X D I;go_wp2;(try rw[ak])
   (try go_wp2)
   go_ret;exact Q.out
 .have J:=eA (show R=jZ L o.name o.n by rw[<-hR.out];unfold does;rw[S.out];rfl)
  clear hR S HK T l X;rcases bh (fun d:Led.Node=>d.name==o.name) L.nodes with⟨hx,ha⟩|⟨i,Ai,hx,ha,A2,A3⟩
  .have AI:r<0:=by rw[<-hr.out,hx];decide
   have K:=eA (J.out.trans (seq_none (n:=o.n) ha));clear hx ha J;go_wp2_with fail
   go_ret;exact bE.err (C.mono HB.out) K.out (by decide)
  .have AK:r=(i:Int):=by rw[<-hr.out,hx]
   subst AK;have AP:¬(i:Int)<0:=by omega
   have AQ:(i:Int)<(N:Int):=by rw[<-HN.out];omega
   obtain⟨g,cg,eg,AR,Aw,Ax⟩:=D.out.turnN Ai;injection eg with eg1 _ eg3
   subst eg1 eg3;have Aj:=eA fun (w':World) (k:eF F w')=>(D.out.below k).turnN Ai;obtain⟨sq,A4⟩:=eD (L.nodes[i].seq);have HS:=eA (J.out.trans (seq_at (n:=o.n) Ai A4.out A3 A2));have Z:∀p,(ab F p).cell? ⟨gl,1,none⟩=some (.slice (some ⟨g,0,none⟩) N G):=fun p=>(D.out.blk.below (aa F p)).cell 1;have b:∀p,(ab F p).cell? ⟨w.heap.size,1,none⟩=some (.int .i64 o.n):=fun p=>(I.out.below (aa F p)).cell 1;have f2:∀p,(ab F p).cell? ⟨g,i*5+3,none⟩=some (.int .i64 sq):=fun p=>by
    obtain⟨g',c',e',_,Ak,_⟩:=Aj.out _ (aa F p);injection e' with e1 _ _
    injection e1 with e1
    injection e1 with e1
    subst e1;rw[<-A4.out];exact(Ak 3 _ rfl).1
   have AL:((o.n<=sq)\/(¬o.n<=sq/\1099511627776<o.n))\/(¬o.n<=sq/\¬1099511627776<o.n):=by omega
   clear Aw Ax hx ha A2 A3 J k1 k2;go_upto_region 25 with fail
   refine au ?_;rcases AL with(q1|⟨q1,q2⟩)|⟨q1,q2⟩
   .have K:Hid (R=(L,22)):=eA (by rw[HS.out,decide_eq_true q1];rfl)
    clear HS Aj;repeat (go_big_quiet_step (fail))
    refine wpQuiet_nil ?_;rintro _ ⟨p,rfl⟩;have B:=aa F p;generalize ab F p=w3 at *;clear Z b f2;go_wp2_with fail
    go_ret;exact bE.err ((C.trans (B.mono C.size)).mono HB.out) K.out (by decide)
   .have K:Hid (R=(L,22)):=eA (by rw[HS.out,decide_eq_false q1,show decide (o.n > 1099511627776)=true from decide_eq_true q2];rfl)
    clear HS Aj;repeat (go_big_quiet_step (fail))
    refine wpQuiet_nil ?_;rintro _ ⟨p,rfl⟩;have B:=aa F p;generalize ab F p=w3 at *;clear Z b f2;go_wp2_with fail
    go_ret;exact bE.err ((C.trans (B.mono C.size)).mono HB.out) K.out (by decide)
   .have K:Hid (R=({ L with nodes:=L.nodes.set i { L.nodes[i] with seq:=o.n } },0)):=eA (by rw[HS.out,decide_eq_false q1,show decide (o.n > 1099511627776)=false from decide_eq_false q2];rfl)
    clear HS;repeat (go_big_quiet_step (fail))
    refine wpQuiet_nil ?_;rintro _ ⟨p,rfl⟩;have B:=aa F p;have AM:=(C.trans (B.mono C.size)).mono HB.out;have Al:=eA (D.out.below B);have A5:=eA (I.out.below B);generalize ab F p=w3 at *;clear Z b f2 Aj;have Z:∀p,(ab w3 p).cell? ⟨gl,1,none⟩=some (.slice (some ⟨g,0,none⟩) N G):=fun p=>(Al.out.blk.below (aa w3 p)).cell 1;have b:∀p,(ab w3 p).cell? ⟨w.heap.size,1,none⟩=some (.int .i64 o.n):=fun p=>(A5.out.below (aa w3 p)).cell 1;go_upto_region 27 with fail
    refine bz 9 ?_;simp only[List.take_succ_cons,List.take_zero,List.drop_succ_cons,List.drop_zero];repeat (go_big_quiet_step (fail))
    refine wpQuiet_nil ?_;rintro _ ⟨p,rfl⟩;have A6:=aa w3 p;obtain⟨g',c',e',_,Ak,Aa⟩:=(Al.out.below A6).turnN Ai;injection e' with e1 _ e3
    injection e1 with e1
    injection e1 with e1
    subst e1 e3;obtain⟨k4,k5⟩:=Ak 3 _ rfl;obtain⟨H9,A7⟩:=Aa 3 (.int .i64 o.n) { L.nodes[i] with seq:=o.n } (by omega) rfl;have Q:Hid (bE base gl R w (.returned (.int .i64 0)) ((ab w3 p).setCell ⟨g,i*5+3,none⟩ (.int .i64 o.n))):=eA (by
     rw[K.out];exact⟨rfl,(AM.trans (A6.mono Al.out.hb)).trans A7,fun _=>⟨_,_,_,_,_,_,_,_,H9⟩⟩)
    obtain⟨u9,AA⟩:∃u,(nm L.nodes[i].seq)=u:=⟨_,rfl⟩;have k4:(ab w3 p).cell? ⟨g,i*5+3,none⟩=some u9:=by rw[<-AA];exact k4
    clear Z b H9 A7 Al A5 Aa Ak AA;generalize ab w3 p=w4 at *;go_wp2;(try rw[ak])
    (try go_wp2)
    go_ret;exact Q.out
end
section
open Go.RowKit Mem Led
theorem rmay_any(b:Led.Bundle)(kv:Value)(w:World)(Ay:aV aN 2 w kv b.keys)(hd:b.domain.length<=9223372036854775807)(hk:b.keys.length<=1000) :
  Calls prog 122 #[.agg (ai (b,kv)).toArray] w fun e w'=>e=.returned (.bool (az b))/\eF w w':=by
 obtain⟨A,n,c,rfl,hf,hv⟩:=Ay
 have hl:=hv.len cG (by omega)
 obtain⟨W,hW⟩:=eC (w.alloc (.cells ([.string (str b.domain),.int .i64 b.number,.slice A n c]:List Value).toArray 45))
 have B:Blk W w.heap.size [.string (str b.domain),.int .i64 b.number,.slice A n c] 45:=by rw[<-hW];exact Blk.new _ _ _
 have D:eF w W:=eG hW
 have J:=(rdomain_any b.domain W hd).mono fun e w' h=>(⟨h.1,h.2▸Below.refl _ _⟩:e=.returned (.bool (Ids.domain b.domain))/\eF W w')
 have c0:W.cell? ⟨w.heap.size,0,none⟩=some (.string (str b.domain)):=B.cell 0
 have HW:=eA hW
 have Az:∀o,eF w (W.alloc o):=fun o=>D.alloc D.size _
 clear hW
 show Calls prog 122 #[.agg #[.string (str b.domain),.int .i64 b.number,.slice A n c]] w _
 by_cases C:(Ids.domain b.domain&&aD b.number 0 1099511627776&&decide (b.keys.length<=8))=true
 .simp only [Bool.and_eq_true,decide_eq_true_eq] at C
  obtain⟨⟨T,f⟩,h3⟩:=C;rw[T] at J;have AH:0<=b.number/\b.number<=1099511627776:=by unfold aD at f;simpa using f
  have A0:n<=8:=by omega
  have l:Hid (az b=(b.keys.all (fun k=>k.x.length==32&&k.kid==Sha.cm k.x)&&decide (b.keys.map Jwk.kid).Nodup)):=eA (by
   unfold az;rw[T,f,decide_eq_true h3];rfl)
  clear T f;go_enter func122,ntmps122
  go_upto_region 1 with fail
  rw[show w.alloc (.cells #[.string (str b.domain),.int .i64 b.number,.slice A n c] 45)=W from HW.out];go_wp2_with fail
  refine J.mono ?_;rintro e Q ⟨rfl,E⟩;have U:=B.below E;have d1:Q.cell? ⟨w.heap.size,1,none⟩=some (.int .i64 b.number):=U.cell 1;have d2:Q.cell? ⟨w.heap.size,2,none⟩=some (.slice A n c):=U.cell 2;have t:eF w Q:=D.trans (E.mono D.size);clear J c0;have Am:=eA U;clear Az D B HW U;go_wp2_with fail
  go_loopw [4] (fun i wx=>∃j:Nat,j<=n/\i=.int .i64 (j:Int)/\eF Q wx/\Hid ((b.keys.take j).all (fun k=>k.x.length==32&&k.kid==Sha.cm k.x)=true/\((b.keys.take j).map Jwk.kid).Nodup)) (fun i _=>n-(intOf i).toNat)
  case atStart=>exact⟨0,by omega,rfl,Below.refl _ _,eA ⟨rfl,List.nodup_nil⟩⟩
  case round =>
   clear d1 d2;obtain⟨j,hj,rfl,L,u⟩:=hrel;obtain⟨wx,A1⟩:∃wx,wx=wr:=⟨_,rfl⟩;subst A1;have m:eF w wx:=t.trans (L.mono t.size);have d2:wx.cell? ⟨w.heap.size,2,none⟩=some (.slice A n c):=(Am.out.below L).cell 2;by_cases AI:j<n
   .have Ab:j<b.keys.length:=by omega
    obtain⟨bk,ok,rfl,AJ,An⟩:=rl hv Ab;have y:=An wx m;have R:=eA (show b.keys.take (j+1)=b.keys.take j++[b.keys[j]] by rw[List.take_add_one,List.getElem?_eq_getElem Ab];rfl)
    have M:=eA (List.getElem_mem Ab);generalize b.keys[j]=k at *;have bn:=Blk.new wx [.string ⟨#[]⟩,.string ⟨#[]⟩] 54;obtain⟨Ac,BK⟩:=n8 bn rfl (vs:=[.string (str k.kid),.string (str k.x)]) rfl (mA k);obtain⟨d,Ad⟩:=eC ((wx.alloc (.cells ([.string ⟨#[]⟩,.string ⟨#[]⟩]:List Value).toArray 54)).setCells wx.heap.size 0 [.string (str k.kid),.string (str k.x)]);have Ao:Chg [] wx d:=by rw[<-Ad];exact((Chg.refl _ _).alloc _).setCells _ (.inr eH)
    rw[Ad] at Ac BK;have Ae:=Ao.below (fun _ h=>by cases h);have I:eF w d:=m.trans (Ae.mono m.size);have Af:(rm (.pointer (some ⟨bk,ok+j*2,none⟩))).run prog wx=.ok (.agg #[.string (str k.kid),.string (str k.x)]) wx:=y;have Ap:(stJwk (.pointer (some ⟨wx.heap.size,0,none⟩)) (.agg #[.string (str k.kid),.string (str k.x)])).run prog (wx.alloc (.cells #[.string ⟨#[]⟩,.string ⟨#[]⟩] 54))=.ok () d:=Ac;have AK:(j:Int)<(n:Int):=by omega
    have AL:=aC k.x;have f0:∀p,(ab d p).cell? ⟨wx.heap.size,0,none⟩=some (.string (str k.kid)):=fun p=>(BK.below (aa d p)).cell 0;have f1:∀p,(ab d p).cell? ⟨wx.heap.size,1,none⟩=some (.string (str k.x)):=fun p=>(BK.below (aa d p)).cell 1;clear An y Ac bn Ao Ad;by_cases V:k.x.length=32
    .have A2:((k.x.length:Int) != 32)=false:=by simp;omega
     have F:Hid (∀(g c:Nat) (K:World),eF d K->Bs K K.heap.size (some ⟨g,0,none⟩) 32 k.x->Calls prog 25 #[.slice (some ⟨g,0,none⟩) 32 c] K fun e w'=>e=.returned (.string (str (Sha.cm k.x)))/\eF K w'):=eA fun g c K _ h =>
      th (some ⟨g,0,none⟩) 32 c k.x K h (by omega)
     obtain⟨nm,Ag⟩:=eD (Sha.cm k.x);rw[Ag.out] at F;have F:Hid (∀(g c:Nat) (K:World),eF d K->Bs K K.heap.size (some ⟨g,0,none⟩) 32 k.x->Calls prog 25 #[.slice (some ⟨g,0,none⟩) 32 c] K (fun x A3=>∃v,x=.returned v/\GR K A3/\v=.string (str nm))):=eA fun g c K T f=>(F.out g c K T f).mono fun e w' ⟨he,hb⟩=>⟨_,he,GR.of hb,rfl⟩;obtain⟨X,Aa⟩:∃X:Bool,Hid ((!(k.kid==nm))=X):=⟨_,eA rfl⟩;go_upto_region 8 with fail
     refine aE [([0,1,2,3,4,5,6,7,8],(9,fun v w'=>∃g c,v=.slice (some ⟨g,0,none⟩) 32 c/\Bs w' w'.heap.size (some ⟨g,0,none⟩) 32 k.x)),([],(10,fun v w'=>v=.string (str (nm)))),([11],(12,fun v w'=>v=.bool X))] [] (by kernel_rfl) (by kernel_rfl) (by
      intro x hx;simp only[List.mem_cons,List.not_mem_nil,or_false] at hx;rcases hx with rfl|rfl|rfl
      .exact ao fun v w w' hb ⟨g,c,e,h⟩=>⟨g,c,e,cV h hb⟩
      .exact ao fun v w w' hb h=>h
      .exact ao fun v w w' hb h=>h) ?_
     refine aw ?_;simp only[pick,List.getD_cons_zero,List.getD_cons_succ];repeat (go_big_quiet_step (fail))
     refine wpQuiet_nil ?_;refine⟨_,rfl,rfl,?_,?_⟩
     .intro w5 r _
      obtain⟨wc,cc,A4,s,A5⟩:=ji k.x w5;rw[V] at A4 s;go_simp
      exact⟨GR.of A5,_,⟨cc,rfl⟩,s⟩
     rintro v1 ⟨_,g1,c1,rfl,_⟩;refine aw ?_;simp only[pick,List.getElem_toArray,List.getElem_cons_succ,List.getElem_cons_zero,Act.put,List.setIfInBounds_toArray,List.set_cons_zero,List.set_cons_succ];refine wpQuiet_nil ?_;refine⟨_,rfl,rfl,?_,?_⟩
     .rintro w5 r ⟨_,g2,c2,he,s⟩
      injection he with he1 he2 he3
      injection he1 with he1
      injection he1 with he1
      subst he1;go_simp
      exact⟨rfl,F.out g1 _ w5 r.below s⟩
     rintro v2 ⟨_,rfl⟩;refine aw ?_;simp only[pick,List.getD_cons_zero,List.getD_cons_succ,List.getElem_toArray,List.getElem_cons_succ,List.getElem_cons_zero,Act.put,List.setIfInBounds_toArray,List.set_cons_zero,List.set_cons_succ]
     cases Y:(k.kid==nm)
     .have H:Hid (az b=false):=eA (by
       rw[l.out];have:b.keys.all (fun k=>k.x.length==32&&k.kid==Sha.cm k.x)=false:=by
        rw[List.all_eq_false];exact⟨k,M.out,by rw[Ag.out,Y];simp⟩
       rw[this];rfl)
      have Ah:X=true:=by rw[<-Aa.out,Y];rfl
      subst Ah;repeat (go_big_quiet_step (fail))
      refine wpQuiet_nil ?_;refine⟨_,rfl,rfl,?_,?_⟩
      .intro w5 r _
       go_simp
       exact⟨GR.of (Below.refl _ _),by simp⟩
      rintro v3 ⟨_,rfl⟩ w6 Z hF;have S:=I.trans (Z.below.mono I.size);clear f0 f1 F u R hF Z;go_wp2_with fail
      (try rw[ak])
      (try go_wp2_with fail)
      go_ret;exact⟨by rw[H.out];rfl,S⟩
     .have Ah:X=false:=by rw[<-Aa.out,Y];rfl
      subst Ah;repeat (go_big_quiet_step (fail))
      refine wpQuiet_nil ?_;refine⟨_,rfl,rfl,?_,?_⟩
      .intro w5 r _
       go_simp
       exact⟨GR.of (Below.refl _ _),by simp⟩
      rintro v3 ⟨_,rfl⟩ w6 Z hF;have Ai:=Z.below;have S:=I.trans (Ai.mono I.size);have A6:=eA (BK.below Ai);have N:eF Q w6:=L.trans ((Ae.trans (Ai.mono Ae.size)).mono L.size);have Aq:=eA (show (k.x.length==32&&k.kid==Sha.cm k.x)=true by rw[Ag.out,Y,V];rfl)
      clear f0 f1 F hF Z Ap Af d2 Y;go_wp2_with fail
      (try rw[ak])
      (try go_wp2_with fail)
      go_loopw [6] (fun i wy=>∃q:Nat,q<=j/\i=.int .i64 (q:Int)/\eF w6 wy/\Hid (∀x∈b.keys.take q,(x.kid==k.kid)=false)) (fun i _=>j-(intOf i).toNat)
      case atStart=>exact⟨0,by omega,rfl,Below.refl _ _,eA (by simp)⟩
      case round =>
       obtain⟨q,hq,rfl,G,HQ⟩:=hrel;obtain⟨wy,A7⟩:∃wy,wy=wr:=⟨_,rfl⟩;subst A7;have O:eF w wy:=S.trans (G.mono S.size);by_cases A8:q<j
       .have A9:(q:Int)<(j:Int):=by omega
        have AM:(q:Int)<(n:Int):=by omega
        have Aj:q<b.keys.length:=by omega
        have g0:∀p,(ab wy p).cell? ⟨w.heap.size,2,none⟩=some (.slice (some ⟨bk,ok,none⟩) n c):=fun p=>(Am.out.below (N.trans ((G.trans ((aa wy p).mono G.size)).mono N.size))).cell 2;have g1:∀p,(ab wy p).cell? ⟨bk,ok+q*2,none⟩=some (.string (str b.keys[q].kid)):=fun p=>ey cG (by omega) hv Aj (O.trans ((aa wy p).mono O.size)) (j:=0) rfl;have g2:∀p,(ab wy p).cell? ⟨wx.heap.size,0,none⟩=some (.string (str k.kid)):=fun p=>(A6.out.below (G.trans ((aa wy p).mono G.size))).cell 0;have Ak:=eA (show b.keys.take (q+1)=b.keys.take q++[b.keys[q]] by rw[List.take_add_one,List.getElem?_eq_getElem Aj];rfl)
        have Ar:=eA (show ∃z,z<j/\b.keys[z]?=some b.keys[q] from⟨q,A8,List.getElem?_eq_getElem Aj⟩);generalize b.keys[q]=kq at *;go_upto_region 13 with fail
        refine au ?_;repeat (go_big_quiet_step (fail))
        refine wpQuiet_nil ?_;rintro _ ⟨p,rfl⟩;have Al:=aa wy p;have AA:=G.trans (Al.mono G.size);have As:=O.trans (Al.mono O.size);generalize ab wy p=w7 at *;clear g0 g1 g2 Al
        cases Au:(kq.kid==k.kid)
        .have AB:Hid (∀x∈b.keys.take (q+1),(x.kid==k.kid)=false):=eA (by
          rw[Ak.out];intro x hx;rcases List.mem_append.1 hx with h|h
          .exact HQ.out x h
          .rw [List.mem_singleton.1 h,Au])
         clear HQ Ak;go_wp2_with fail
         go_roundw
         case rel=>exact⟨q+1,by omega,by go_num,AA,AB⟩
         case measure=>simp[intOf];omega
        .have H:Hid (az b=false):=eA (by
          rw[l.out];have:¬(b.keys.map Jwk.kid).Nodup:=fun hn=>by
           obtain⟨z,hz,AC⟩:=Ar.out;have e:b.keys.map Jwk.kid=(b.keys.take (j+1)).map Jwk.kid++(b.keys.drop (j+1)).map Jwk.kid:=by rw[<-List.map_append,List.take_append_drop]
           rw[e,R.out,List.map_append] at hn;have f:=(List.nodup_append.1 hn).1;have hm:kq∈b.keys.take j:=List.mem_of_getElem? (i:=z) (by rw[List.getElem?_take,if_pos hz];exact AC)
           exact(List.nodup_append.1 f).2.2 kq.kid (List.mem_map.2 ⟨kq,hm,rfl⟩) k.kid (by simp) (by simpa using Au)
          rw[decide_eq_false this,Bool.and_false])
         clear HQ Ak Ar u R M;go_wp2_with fail
         go_ret;exact⟨by rw[H.out];rfl,As⟩
       .have Av:q=j:=by omega
        have A9:¬(q:Int)<(j:Int):=by omega
        have AD:=eA (show (b.keys.take (j+1)).all (fun k=>k.x.length==32&&k.kid==Sha.cm k.x)=true/\((b.keys.take (j+1)).map Jwk.kid).Nodup by
         have h:=HQ.out;rw[Av] at h;rw[R.out,List.map_append];refine⟨?_,?_⟩
         .rw [List.all_append,u.out.1,List.all_cons,Aq.out]
          rfl
         .refine kw u.out.2 (fun hm=>?_)
          obtain⟨x,hx,he⟩:=List.mem_map.1 hm;have:=h x hx;rw[he] at this;simp at this)
        have Aw:=N.trans (G.mono N.size);clear HQ u R Av M;go_wp2_with fail
        go_roundw
        case rel=>exact⟨j+1,by omega,by go_num,Aw,AD⟩
        case measure=>simp[intOf];omega
    .have A2:((k.x.length:Int) != 32)=true:=by simp;omega
     have H:Hid (az b=false):=eA (by
      rw[l.out];have:b.keys.all (fun k=>k.x.length==32&&k.kid==Sha.cm k.x)=false:=by
       rw[List.all_eq_false];exact⟨k,M.out,by simp[V]⟩
      rw[this];rfl)
     clear u R;go_upto_region 8 with fail
     refine au ?_;repeat (go_big_quiet_step (fail))
     refine wpQuiet_nil ?_;rintro _ ⟨p,rfl⟩;have AE:=aa d p;have S:=I.trans (AE.mono I.size);clear f0 f1;go_wp2_with fail
     go_ret;exact⟨by rw[H.out];rfl,S⟩
   .have Ax:j=n:=by omega
    have AF:Hid (az b=true):=eA (by
     rw[l.out];have hI:=u.out;rw[Ax,<-hl,List.take_length] at hI;rw[hI.1,decide_eq_true hI.2];rfl)
    have AG:(n:Int)<=(j:Int):=by omega
    clear Ax u;go_wp2_with fail
    go_ret;exact⟨by rw[AF.out];rfl,m⟩
 .have H:Hid (az b=false):=eA (by
   unfold az;rw[Bool.eq_false_iff.2 C];rfl)
  have AN:Int.ofNat n=(n:Int):=rfl;go_enter func122,ntmps122
  go_upto_region 1 with fail
  rw[show w.alloc (.cells #[.string (str b.domain),.int .i64 b.number,.slice A n c] 45)=W from HW.out]
  cases T:Ids.domain b.domain
  .rw [T] at J
   clear C T;go_wp2_with fail
   refine J.mono ?_;rintro e Q ⟨rfl,E⟩;go_wp2_with fail
   go_ret;exact⟨by rw[H.out];rfl,D.trans (E.mono D.size)⟩
  .rw [T] at J C
   by_cases f:b.number<0
   .clear C T
    go_wp2_with fail
    refine J.mono ?_;rintro e Q ⟨rfl,E⟩;have U:=B.below E;have d1:Q.cell? ⟨w.heap.size,1,none⟩=some (.int .i64 b.number):=U.cell 1;go_wp2_with fail
    go_ret;exact⟨by rw[H.out];rfl,D.trans (E.mono D.size)⟩
   .by_cases h3:1099511627776<b.number
    .clear C T
     go_wp2_with fail
     refine J.mono ?_;rintro e Q ⟨rfl,E⟩;have U:=B.below E;have d1:Q.cell? ⟨w.heap.size,1,none⟩=some (.int .i64 b.number):=U.cell 1;go_wp2_with fail
     go_ret;exact⟨by rw[H.out];rfl,D.trans (E.mono D.size)⟩
    .have hw:aD b.number 0 1099511627776=true:=by unfold aD;simp;omega
     have h8:¬b.keys.length<=8:=fun h=>C (by rw[hw,decide_eq_true h];rfl)
     have A0:(8:Int)<(n:Int):=by omega
     clear C T;go_wp2_with fail
     refine J.mono ?_;rintro e Q ⟨rfl,E⟩;have U:=B.below E;have d1:Q.cell? ⟨w.heap.size,1,none⟩=some (.int .i64 b.number):=U.cell 1;have d2:Q.cell? ⟨w.heap.size,2,none⟩=some (.slice A n c):=U.cell 2;go_wp2_with fail
     go_ret;exact⟨by rw[H.out];rfl,D.trans (E.mono D.size)⟩
end
section
open Go.RowKit Mem Led
theorem lW(x:Led.Bundle)(v:Value):∀(d:Bool) (U:List (Led.Bundle × Value)),(aU (fun a b:Led.Bundle × Value=>cB a.1 b.1) (x,v) d U).map Prod.fst=aU cB x d (U.map Prod.fst)
 | d,[]=>by cases d<;>rfl
 | d,y::l=>by
  rw[List.map_cons,aU,aU,List.map_append,List.map_append,lW x v _ l];congr 1
  congr 1
  .cases (!d&&decide (0<=cB y.1 x))<;>rfl
  .cases decide (cB y.1 x=0)<;>rfl
theorem mT{α:Type}{c:α->α->Int}{x u:α}:∀{d:Bool} {l:List α},u∈aU c x d l->u=x\/u∈l
 | d,[],h=>by
  rw[aU] at h;split at h
  .cases h
  .exact .inl (List.mem_singleton.1 h)
 | d,y::l,h=>by
  rw[aU] at h;rcases List.mem_append.1 h with h|h
  .rcases List.mem_append.1 h with h|h
   .split at h
    .exact .inl (List.mem_singleton.1 h)
    .cases h
   .split at h
    .cases h
    .exact .inr (by rw[List.mem_singleton.1 h];exact List.mem_cons_self)
  .rcases mT h with h|h
   .exact .inl h
   .exact .inr (List.mem_cons_of_mem _ h)
theorem scan_keep{α:Type}{c:α->α->Int}{x u:α}:∀{l:List α},u∈aU c x true l->u∈l
 | l,h=>by
  rw[iK] at h;exact(List.mem_filter.1 h).1
theorem scan_buns{L:Led.Ledger}(A:L.Wf)(x:Led.Bundle):aU cB x true L.bundles=L.bundles.eraseP (fun b=>b.domain==x.domain):=by
 rw[iK,<-iC lI A.u1]
 congr 1
 funext y
 rw[Bool.eq_iff_iff]
 simp[cB,lp]
theorem bun_one{L:Led.Ledger}(A:L.Wf){s:Txt}{i:Nat}(hi:i<L.bundles.length)(B:(L.bundles[i].domain==s)=true):∀x∈L.bundles.drop (i+1),(x.domain==s)=false:=by
 intro x hx
 have h:=A.u1
 have e:L.bundles=L.bundles.take i++L.bundles[i]::L.bundles.drop (i+1):=by rw[<-List.drop_eq_getElem_cons hi,List.take_append_drop]
 unfold aY at h
 rw[e,List.pairwise_append,List.pairwise_cons] at h
 have C:=h.2.1.1 x hx
 have D:ord L.bundles[i].domain x.domain<0:=C
 rw[beq_eq_false_iff_ne]
 intro E
 have F:L.bundles[i].domain=s:=by simpa using B
 rw[F,<-E] at D
 have G:ord x.domain x.domain=0:=lp.2 rfl
 omega
theorem bun_over{L:Led.Ledger}(E:L.Wf){s:Txt}{n:Int}{i:Nat}(hi:i<L.bundles.length)(B:∀x∈L.bundles.take i,(x.domain==s)=false)(C:(L.bundles[i].domain==s)=true):L.bundles.any (fun o=>o.domain==s&&decide (o.number > n))=decide (L.bundles[i].number > n):=by
 have e:L.bundles=L.bundles.take i++L.bundles[i]::L.bundles.drop (i+1):=by rw[<-List.drop_eq_getElem_cons hi,List.take_append_drop]
 have hd:=bun_one E hi C
 generalize L.bundles[i]=y at *
 generalize L.bundles.take i=A at *
 generalize L.bundles.drop (i+1)=D at *
 rw[e,List.any_append,List.any_cons,C,Bool.true_and]
 have F:A.any (fun o=>o.domain==s&&decide (o.number > n))=false:=by
  rw[List.any_eq_false];intro x hx;rw[B x hx];simp
 have G:D.any (fun o=>o.domain==s&&decide (o.number > n))=false:=by
  rw[List.any_eq_false];intro x hx;rw[hd x hx];simp
 rw[F,G,Bool.false_or,Bool.or_false]
theorem bun_none{L:Led.Ledger}{s:Txt}{n:Int}(h:(L.bundles.any fun b=>b.domain==s)=false):L.bundles.any (fun o=>o.domain==s&&decide (o.number > n))=false:=by
 rw[List.any_eq_false] at h ⊢
 intro x hx
 have:=h x hx
 simp only[Bool.not_eq_true] at this
 rw[this]
 simp
theorem bun_fits{L:Led.Ledger}(A:L.Wf)(b:Led.Bundle):(ins cB b L.bundles).length=L.bundles.length+if (L.bundles.any fun x=>x.domain==b.domain)=true then 0 else 1:=by
 rw[kA lI A.u1,show (L.bundles.any fun y=>decide (cB y b=0))=L.bundles.any fun y=>y.domain==b.domain from uK Led.Bundle.domain b L.bundles]
theorem bun_one'(x:Led.Bundle × Value)(h:x.2.oneCell'=true):∀u∈ai x,u.oneCell'=true:=by
 intro u A
 simp only[ai,List.mem_cons,List.not_mem_nil,or_false] at A
 rcases A with rfl|rfl|rfl
 .rfl
 .rfl
 .exact h
theorem uz{base gl:Nat}{vE vN vB vJ vK vU:Value}{L:Led.Ledger}{E:List (Led.Entry × Value)}{U:List (Led.Bundle × Value)}(o:Led.Op)(sv kv:Value)(w:World)(H:RAt base gl w vE vN vB vJ vK vU L E U)(hL:L.Wf)(ho:Sized o)(A1:NK base w kv o.bundle.keys)(hk:o.kind=12\/o.kind=13) :
  Calls prog 76 #[.pointer (some ⟨gl,0,none⟩),.agg (ac o sv kv).toArray] w (bE base gl (does (az o.bundle) L o) w):=by
 obtain⟨AU,cU,rfl,fU,_⟩:=cl H.rk.oU
 have A3:U.length=L.bundles.length:=by rw[<-H.rk.buns,List.length_map]
 have zU:=hL.u3
 obtain⟨Y,Ac⟩:∃b,(o.kind==12)=b:=⟨_,rfl⟩
 have AW:(o.kind==13)=!Y:=by
  rw[<-Ac];rcases hk with h|h<;>rw[h]<;>rfl
 have HK:Hid ((Y=true/\does (az o.bundle) L o=bQ (az o.bundle) L o.bundle)\/(Y=false/\does (az o.bundle) L o=dz L o.name)):=eA (by
  rcases hk with hk|hk
  .exact .inl ⟨by rw[<-Ac,hk];rfl,by unfold does;simp[hk]⟩
  .exact .inr ⟨by rw[<-Ac,hk];rfl,by unfold does;simp[hk]⟩)
 obtain⟨R,hR⟩:=eD (does (az o.bundle) L o)
 rw[hR.out] at HK ⊢
 clear hk hR
 obtain⟨W,hW⟩:=eC (w.alloc (.cells (ac o sv kv).toArray 47))
 have b0:Blk W w.heap.size (ac o sv kv) 47:=by rw[<-hW];exact Blk.new w _ _
 have K:eF w W:=eG hW
 have A4:=jN b0
 have Au:NK base W kv o.bundle.keys:=A1.chg (Chg.of_below (S:=[]) K) (by simp) H.hb
 have I:=rmay_any o.bundle kv W (Au.at (Nat.le_trans H.hb K.size)) ho.ud ho.ul
 have q0:W.cell? ⟨w.heap.size,0,none⟩=some (.int .i64 o.kind):=b0.cell 0
 have q2:W.cell? ⟨w.heap.size,2,none⟩=some (.string (str o.name)):=b0.cell 2
 have HW:=eA hW
 clear hW
 obtain⟨CS,AH⟩:=eD ((ac o sv kv).toArray)
 rw[AH.out] at HW ⊢
 obtain⟨CB,An⟩:=eD ((ai (o.bundle,kv)).toArray)
 rw[An.out] at A4 I
 have Ao:=eA b0
 have HH:=eA (H.below K)
 have HB:=eA H.hb
 have A5:=eA Au
 have AV:gl<w.heap.size:=H.blk.lt
 clear b0 H A1 Au
 obtain⟨t,ht⟩:∃t,Hid ((if Y=true then o.bundle.domain else o.name)=t):=⟨_,eA rfl⟩
 go_enter func76,ntmps76
 go_upto_region 1 with fail
 rw[HW.out]
 clear HW
 go_upto_if 13 with fail
 go_cut [5] (fun s5 wx=>s5=.string (str t)/\Hid (Y=true->az o.bundle=true)/\eF W wx)
 case first =>
  cases Y
  .have M:o.name=t:=by rw[<-ht.out];rfl
   rw[M];clear ht M;go_wp2_with fail
   go_meet
   case rel=>exact⟨rfl,eA (fun h=>by cases h),Below.refl _ _⟩
  .have M:o.bundle.domain=t:=by rw[<-ht.out];rfl
   have HT:=eA M;have hd:R=bQ (az o.bundle) L o.bundle:=by
    rcases HK.out with h|h
    .exact h.2
    .cases h.1
   have Z:=eA hd;clear ht M hd HK
   cases hm:az o.bundle
   .rw [hm] at I Z
    have HE:=eA (show R=(L,1) by rw[Z.out];rfl)
    clear hm Z;go_wp2_with fail
    refine I.mono ?_;rintro e w1 ⟨rfl,Ap⟩;go_wp2;go_ret;exact bE.err ((K.trans (Ap.mono K.size)).mono HB.out) HE.out (by decide)
   .rw [hm] at I
    have HM:=eA hm;clear hm Z;go_wp2_with fail
    refine I.mono ?_;rintro e w1 ⟨rfl,Ap⟩;have c8:w1.cell? ⟨w.heap.size,21,none⟩=some (.string (str o.bundle.domain)):=(Ao.out.below Ap).cell 21;rw[HT.out] at c8;go_wp2_with fail
    go_meet
    case rel=>exact⟨rfl,eA (fun _=>HM.out),Ap⟩
 case rest =>
  obtain⟨rfl,Ad,Aa⟩:=hcut;obtain⟨wa,AI⟩:∃wa,wa=wc:=⟨_,rfl⟩;subst AI;have D:=K.trans (Aa.mono K.size);have Ha:=HH.out.below Aa;have cg:wa.cell? ⟨gl,5,none⟩=some (.slice AU U.length cU):=Ha.blk.cell 5;have c0:wa.cell? ⟨w.heap.size,0,none⟩=some (.int .i64 o.kind):=(Ao.out.below Aa).cell 0;have Ae:=eA (Ao.out.below Aa);have d:=eA Ha;have Av:Es ai 3 wa AU U.length U:=by
   obtain⟨A2,c2,e2,_,ea⟩:=cl Ha.rk.oU;injection e2 with e2 _ e3
   subst e2 e3;exact ea
  have Af:=eA (A5.out.chg (Chg.of_below (S:=[]) Aa) (by simp) (Nat.le_trans HB.out K.size));obtain⟨n,hn⟩:=eC (U.length);have HN:=eA hn;have f:Hid (L.bundles.length=n):=eA (by rw[<-A3,hn]);rw[hn] at cg Av;rw[f.out] at zU;obtain⟨r,hr⟩:=eD (aX (fun b:Led.Bundle=>b.domain==t) L.bundles);have Ag:=eA Av;have A6:=eA Ha.rk.buns;clear A4 I q0 q2 Aa K Ao HH Ha Av hn fU A5 A3;have As:Hid (∀(j:Nat) (hj:j<L.bundles.length),(L.bundles[j].domain==t)=true->r=j):=eA fun j hj hp=>by
   rw[<-hr.out];rcases bh (fun b:Led.Bundle=>b.domain==t) L.bundles with⟨_,ha⟩|⟨i,N,hi,_,Ab,Aq⟩
   .rw [List.any_eq_false] at ha
    exact absurd hp (ha _ (List.getElem_mem hj))
   .rw [hi]
    rcases Nat.lt_trichotomy j i with h|h|h
    .have:=Aq L.bundles[j] (List.mem_take_iff_getElem.2 ⟨j,by omega,rfl⟩)
     rw[hp] at this
     cases this
    .rw [h]
    .have:=bun_one hL N Ab L.bundles[j] (List.mem_drop_iff_getElem.2 ⟨j-(i+1),by omega,by congr 1;omega⟩)
     rw[hp] at this
     cases this
  have Ah:Hid (∀(j:Nat) (hj:j<L.bundles.length),(L.bundles[j].domain==t)=false->r≠j):=eA fun j hj hp e=>by
   rw[<-hr.out] at e;rcases bh (fun b:Led.Bundle=>b.domain==t) L.bundles with⟨h,_⟩|⟨i,N,hi,_,Ab,Aq⟩
   .omega
   .have:i=j:=by omega
    subst this;rw[hp] at Ab
    cases Ab
  have A7:Hid (r<(n:Int)):=eA (by
   rw[<-hr.out];rcases bh (fun b:Led.Bundle=>b.domain==t) L.bundles with⟨h,_⟩|⟨i,N,hi,_⟩
   .omega
   .rw [hi,<-f.out];omega)
  go_wp2_with fail
  go_loopw [7,8] (fun AJ i wr=>∃(j:Nat) (av:Value),j<=n/\i=.int .i64 (j:Int)/\av=AJ/\Hid (av=.int .i64 (if r<(j:Int) then r else -1))/\wr=wa) (fun _ i _=>n-(intOf i).toNat)
  case atStart=>exact⟨0,_,by omega,rfl,rfl,eA (by
   split
   .rename_i h
    rw[<-hr.out] at h ⊢;rcases bh (fun b:Led.Bundle=>b.domain==t) L.bundles with⟨h,_⟩|⟨i,N,hi,_⟩
    .rw [h]
    .rw [hi] at h;omega
   .rfl),rfl⟩
  case round =>
   obtain⟨j,av,hj,rfl,rfl,Ai,AK⟩:=hrel;subst AK;by_cases A8:j<n
   .have AL:(j:Int)<(n:Int):=by omega
    have AA:j<U.length:=by rw[HN.out];exact A8
    have Aw:j<L.bundles.length:=by rw[f.out];exact A8
    have y:L.bundles[j]=U[j].1:=mE A6.out AA Aw;have hh:=As.out j Aw;have hm:=Ah.out j Aw;rw[y] at hh hm;obtain⟨b,m,e,h1,h2⟩:=Ag.out.lit aQ (by omega) AA;subst e;have q:wr.cell? ⟨b,m+j*3,none⟩=some (.string (str U[j].1.domain)):=h2 0 _ rfl;have Ax:=eA hh;have Ay:=eA hm;clear h2 hh hm y
    cases hq:(U[j].1.domain==t)
    .have HX:Hid (av=.int .i64 (if r<((j+1:Nat):Int) then r else -1)):=eA (by
      have AX:=Ay.out hq;rw[Ai.out];congr 1
      by_cases h:r<(j:Int)
      .rw [if_pos h,if_pos (by omega)]
      .rw [if_neg h,if_neg (by omega)])
     generalize U[j].1.domain=x at *;clear Ax Ay Ai;go_wp2_with fail
     go_roundw
     case rel=>exact⟨j+1,_,by omega,by go_num,rfl,HX,by trivial⟩
     case measure=>simp[intOf];omega
    .have HX:Hid (Value.int .i64 (j:Int)=.int .i64 (if r<((j+1:Nat):Int) then r else -1)):=eA (by
      have he:=Ax.out hq;rw[he,if_pos (by omega)])
     generalize U[j].1.domain=x at *;clear Ax Ay Ai;go_wp2_with fail
     go_roundw
     case rel=>exact⟨j+1,_,by omega,by go_num,rfl,HX,by trivial⟩
     case measure=>simp[intOf];omega
   .have AB:j=n:=by omega
    have AL:¬(j:Int)<(n:Int):=by omega
    have AC:av=.int .i64 r:=by rw[Ai.out,AB,if_pos A7.out]
    subst AC;have Aj:=pX (fun b:Led.Bundle=>b.domain==t) L.bundles;rw[hr.out] at Aj;have J:=eA Aj;have Ak:Hid (∀(x:Led.Bundle × Value) (g:Bool) (O:World),x.2.oneCell'=true->eF wr O->Calls prog 123 #[.slice AU n cU,.agg (ai x).toArray,.bool g] O fun e w'=>∃v,e=.returned v/\GR O w'/\w'.ownsRow base 45 3 v (aU (fun a b:Led.Bundle × Value=>cB a.1 b.1) x g U).length (ah ai (aU (fun a b:Led.Bundle × Value=>cB a.1 b.1) x g U))):=eA fun x g O hx hb=>by
     have H5:=d.out.below hb;have ht:Es ai 3 O AU n U:=by
      obtain⟨A,n',c,e,_,ht⟩:=bc H5.rk.oU;injection e with e1 e2 e3
      subst e1 e2 e3;rw[HN.out] at ht;exact ht
     refine(scanBun_any AU n cU U x g O ht (by omega) (lX (pO (w:=O) (U:=U) (fun p hp=>(H5.rk.keyss p hp).at H5.hb))) (bun_one' x hx)).mono ?_;rintro e w' ⟨v,he,ho,AM⟩;exact⟨v,he,GR.of AM,aG ho H5.hb⟩
    clear Ai AB As Ah A7 Aj
    cases Y
    .have hd:R=dz L t:=by
      rcases HK.out with h|h
      .cases h.1
      .rw [h.2,<-ht.out];rfl
     have Z:=eA hd;clear hd HK ht Ad;by_cases Az:r<0
     .have HE:=eA (show R=(L,7) by rw[Z.out];unfold dz;rw[J.out,decide_eq_false (by omega)];rfl)
      clear Z Ak;go_wp2_with fail
      go_ret;exact bE.err (D.mono HB.out) HE.out (by decide)
     .have HE:=eA (show R=({ L with bundles:=aU cB ⟨t,0,[]⟩ true L.bundles },0) by rw[Z.out,scan_buns hL];unfold dz;rw[J.out,decide_eq_true (by omega)];rfl)
      have Ar:=Ak.out (⟨t,0,[]⟩,.slice none 0 0) true wr rfl (Below.refl _ _);have Ar:Calls prog 123 #[.slice AU n cU,.agg #[.string (str t),.int .i64 0,.slice none 0 0],.bool true] wr _:=Ar;clear Z Ak;go_wp2_with fail
      refine Ar.mono ?_;rintro e w6 ⟨v,rfl,AD,F⟩;have C:=AD.below;obtain⟨A9,c9,rfl,_,_⟩:=aj F;have G:=d.out.below C;have q6:w6.cell? ⟨gl,5,none⟩=some (.slice AU n cU):=by rw[<-HN.out];exact G.blk.cell 5
      have AE:=G.blk.froz 5;have H7:=G.setU (l:=aU cB ⟨t,0,[]⟩ true L.bundles) F (by rw[lW,G.rk.buns]) (fun p hp=>G.rk.keyss p (scan_keep hp));have Q:Hid (bE base gl R w (.returned (.int .i64 0)) (w6.setCell ⟨gl,5,none⟩ (.slice A9 (aU (fun a b:Led.Bundle × Value=>cB a.1 b.1) (⟨t,0,[]⟩,.slice none 0 0) true U).length c9))):=eA (by
       rw[HE.out];exact⟨rfl,((D.trans (C.mono D.size)).mono HB.out).setCell (p:=⟨gl,5,none⟩) G.hg _,fun _=>⟨_,_,_,_,_,_,_,_,H7⟩⟩)
      clear G H7 F AD C Ar;go_wp2_with fail
      go_ret;exact Q.out
    .have M:o.bundle.domain=t:=by rw[<-ht.out];rfl
     have hd:R=bQ true L o.bundle:=by
      rcases HK.out with h|h
      .rw [h.2,Ad.out rfl]
      .cases h.1
     have Z:=eA hd;have HT:=eA M;clear hd HK ht Ad M;have f2:∀p,(ab wr p).cell? ⟨w.heap.size,22,none⟩=some (.int .i64 o.bundle.number):=fun p=>(Ae.out.below (aa wr p)).cell 22;have f0:∀p,(ab wr p).cell? ⟨gl,5,none⟩=some (.slice AU n cU):=fun p=>by rw[<-HN.out];exact(d.out.blk.below (aa wr p)).cell 5
     have AN:(r<0/\((Hid (R=(L,6))/\3<=n)\/(Hid (R=({ L with bundles:=ins cB o.bundle L.bundles },0))/\¬3<=n)))\/(∃i:Nat,∃hi:i<U.length,r=(i:Int)/\((o.bundle.number<U[i].1.number/\Hid (R=(L,22)))\/(¬o.bundle.number<U[i].1.number/\Hid (R=({ L with bundles:=ins cB o.bundle L.bundles },0))))):=by
      have hf:=bun_fits hL o.bundle;rw[HT.out,J.out] at hf;by_cases Az:r<0
      .rw [decide_eq_false (by omega),if_neg (by decide)] at hf
       have T:L.bundles.any (fun x=>x.domain==o.bundle.domain&&decide (x.number > o.bundle.number))=false:=bun_none (by rw[HT.out,J.out,decide_eq_false (by omega)]);refine .inl ⟨Az,?_⟩;by_cases h3:3<=n
       .refine .inl ⟨eA ?_,h3⟩
        rw[Z.out];unfold bQ put;rw[T,if_neg (show ¬(ins cB o.bundle L.bundles).length<=3 by rw[hf,f.out];omega)]
        rfl
       .refine .inr ⟨eA ?_,h3⟩
        rw[Z.out];unfold bQ put;rw[T,if_pos (show (ins cB o.bundle L.bundles).length<=3 by rw[hf,f.out];omega)]
        rfl
      .rw [decide_eq_true (by omega),if_pos rfl] at hf
       have hx:=J.out;rcases bh (fun b:Led.Bundle=>b.domain==t) L.bundles with⟨_,ha⟩|⟨i,N,hi,_,Ab,Aq⟩
       .rw [ha,decide_eq_true (by omega)] at hx
        cases hx
       .have AO:r=(i:Int):=by rw[<-hr.out,hi]
        have AF:i<U.length:=by rw[HN.out,<-f.out];exact N
        have y:L.bundles[i]=U[i].1:=mE A6.out AF N;have T:=bun_over (n:=o.bundle.number) hL N Aq Ab;rw[y,<-HT.out] at T;refine .inr ⟨i,AF,AO,?_⟩;by_cases h:o.bundle.number<U[i].1.number
        .refine .inl ⟨h,eA ?_⟩
         rw[Z.out];unfold bQ;rw[T,decide_eq_true h];rfl
        .refine .inr ⟨h,eA ?_⟩
         rw[Z.out];unfold bQ put;rw[T,decide_eq_false h,if_pos (show (ins cB o.bundle L.bundles).length<=3 by rw[hf,f.out];omega)]
         rfl
     clear Z HT J hr;have s:=eA fun O hb=>Ak.out (o.bundle,kv) false O Af.out.one hb;rw[An.out] at s;clear Ak;have z:Hid (∀k V,R=(L,k)->k≠0->eF wr V->bE base gl R w (.returned (.int .i64 k)) V):=eA fun k V he hk hb=>bE.err ((D.trans (hb.mono D.size)).mono HB.out) he hk;rcases AN with⟨Az,⟨HE,h3⟩|⟨HE,h3⟩⟩|⟨i,hi,rfl,⟨T,HE⟩|⟨T,HE⟩⟩
     .have AP:(3:Int)<=(n:Int):=by omega
      have AG:¬0<=r:=by omega
      clear s;go_upto_region 18 with fail
      refine au ?_;repeat (go_big_quiet_step (fail))
      refine wpQuiet_nil ?_;rintro _ ⟨p,rfl⟩;have B:=aa wr p;have AQ:=f0 p;generalize ab wr p=V at *;clear f0 f2;go_wp2_with fail
      go_ret;exact z.out _ _ HE.out (by decide) B
     rotate_left
     .obtain⟨b,m,e,h1,h2⟩:=Ag.out.lit aQ (by omega) hi
      subst e;have f1:∀p,(ab wr p).cell? ⟨b,m+i*3+1,none⟩=some (.int .i64 U[i].1.number):=fun p=>ey aQ (by omega) Ag.out hi (aa wr p) (j:=1) rfl;have AR:¬(i:Int)<0:=by omega
      have AS:(0:Int)<=(i:Int):=by omega
      have AT:(i:Int)<(n:Int):=by rw[<-HN.out];omega
      generalize U[i].1.number=un at *;clear s h2;go_upto_region 18 with fail
      refine au ?_;repeat (go_big_quiet_step (fail))
      refine wpQuiet_nil ?_;rintro _ ⟨p,rfl⟩;have B:=aa wr p;generalize ab wr p=V at *;clear f0 f1 f2;go_wp2_with fail
      go_ret;exact z.out _ _ HE.out (by decide) B
     .obtain⟨b,m,e,h1,h2⟩:=Ag.out.lit aQ (by omega) hi
      subst e;have f1:∀p,(ab wr p).cell? ⟨b,m+i*3+1,none⟩=some (.int .i64 U[i].1.number):=fun p=>ey aQ (by omega) Ag.out hi (aa wr p) (j:=1) rfl;have AR:¬(i:Int)<0:=by omega
      have AS:(0:Int)<=(i:Int):=by omega
      have AT:(i:Int)<(n:Int):=by rw[<-HN.out];omega
      generalize U[i].1.number=un at *;clear h2 z;go_upto_region 18 with fail
      refine au ?_;repeat (go_big_quiet_step (fail))
      refine wpQuiet_nil ?_;rintro _ ⟨p,rfl⟩;have B:=aa wr p;have u:=eA (d.out.below B);have Al:=eA (Ae.out.below B);have X:=eA fun O hb=>s.out O (B.trans (Below.mono hb B.size));generalize ab wr p=V at *;clear f0 f1 f2 s d Ae cg c0;have f0:∀p,(ab V p).cell? ⟨gl,5,none⟩=some (.slice (some ⟨b,m,none⟩) n cU):=fun p=>by rw[<-HN.out];exact(u.out.blk.below (aa V p)).cell 5
      have f1:∀p,(fo (.pointer (some ⟨w.heap.size,21,none⟩))).run prog (ab V p)=.ok (.agg CB) (ab V p):=fun p=>by rw[<-An.out];exact jN (Al.out.below (aa V p))
      go_upto_region 22 with fail
      refine aE [([0,1,2,3,4,5,6],(7,fun v w'=>w'.ownsRow base 45 3 v (aU (fun a b:Led.Bundle × Value=>cB a.1 b.1) (o.bundle,kv) false U).length (ah ai (aU (fun a b:Led.Bundle × Value=>cB a.1 b.1) (o.bundle,kv) false U))))] [8,9,10] (by kernel_rfl) (by kernel_rfl) (by
       intro x hx;simp only[List.mem_cons,List.not_mem_nil,or_false] at hx;subst hx;exact ao fun v w w' hb h=>af h hb eH) ?_
      refine aw ?_;simp only[pick,List.getD_cons_zero,List.getD_cons_succ];repeat (go_big_quiet_step (fail))
      refine wpQuiet_nil ?_;refine⟨_,rfl,rfl,?_,?_⟩
      .intro O A0 _
       go_simp
       exact⟨rfl,X.out O A0.below⟩
      rintro v1-w6 Am hF;obtain⟨_,F⟩:=hF;obtain⟨A9,c9,rfl,_,_⟩:=aj F;have C:=Am.below;have G:=u.out.below C;have q6:w6.cell? ⟨gl,5,none⟩=some (.slice (some ⟨b,m,none⟩) n cU):=by rw[<-HN.out];exact G.blk.cell 5
      have AE:=G.blk.froz 5;have H7:=G.setU (l:=ins cB o.bundle L.bundles) F (by rw[lW,G.rk.buns,gE lI hL.u1]) (fun p hp=>by
       rcases mT hp with rfl|h
       .exact Af.out.chg (Chg.of_below (S:=[]) (B.trans (C.mono B.size))) (by simp) (Nat.le_trans HB.out D.size)
       .exact G.rk.keyss p h)
      have Q:Hid (bE base gl R w (.returned (.int .i64 0)) (w6.setCell ⟨gl,5,none⟩ (.slice A9 (aU (fun a b:Led.Bundle × Value=>cB a.1 b.1) (o.bundle,kv) false U).length c9))):=eA (by
       rw[HE.out];exact⟨rfl,((D.trans ((B.trans (C.mono B.size)).mono D.size)).mono HB.out).setCell (p:=⟨gl,5,none⟩) G.hg _,fun _=>⟨_,_,_,_,_,_,_,_,H7⟩⟩)
      clear f0 f1 G H7 F Am C X u Al;go_wp2;(try rw[ak])
      (try go_wp2)
      go_ret;exact Q.out
     .have AP:¬(3:Int)<=(n:Int):=by omega
      have AG:¬0<=r:=by omega
      clear z;go_upto_region 18 with fail
      refine au ?_;repeat (go_big_quiet_step (fail))
      refine wpQuiet_nil ?_;rintro _ ⟨p,rfl⟩;have B:=aa wr p;have u:=eA (d.out.below B);have Al:=eA (Ae.out.below B);have X:=eA fun O hb=>s.out O (B.trans (Below.mono hb B.size));have AQ:=f0 p;generalize ab wr p=V at *;clear f0 f2 s d Ae cg c0;have f0:∀p,(ab V p).cell? ⟨gl,5,none⟩=some (.slice AU n cU):=fun p=>by rw[<-HN.out];exact(u.out.blk.below (aa V p)).cell 5
      have f1:∀p,(fo (.pointer (some ⟨w.heap.size,21,none⟩))).run prog (ab V p)=.ok (.agg CB) (ab V p):=fun p=>by rw[<-An.out];exact jN (Al.out.below (aa V p))
      go_upto_region 22 with fail
      refine aE [([0,1,2,3,4,5,6],(7,fun v w'=>w'.ownsRow base 45 3 v (aU (fun a b:Led.Bundle × Value=>cB a.1 b.1) (o.bundle,kv) false U).length (ah ai (aU (fun a b:Led.Bundle × Value=>cB a.1 b.1) (o.bundle,kv) false U))))] [8,9,10] (by kernel_rfl) (by kernel_rfl) (by
       intro x hx;simp only[List.mem_cons,List.not_mem_nil,or_false] at hx;subst hx;exact ao fun v w w' hb h=>af h hb eH) ?_
      refine aw ?_;simp only[pick,List.getD_cons_zero,List.getD_cons_succ];repeat (go_big_quiet_step (fail))
      refine wpQuiet_nil ?_;refine⟨_,rfl,rfl,?_,?_⟩
      .intro O A0 _
       go_simp
       exact⟨rfl,X.out O A0.below⟩
      rintro v1-w6 Am hF;obtain⟨_,F⟩:=hF;obtain⟨A9,c9,rfl,_,_⟩:=aj F;have C:=Am.below;have G:=u.out.below C;have q6:w6.cell? ⟨gl,5,none⟩=some (.slice AU n cU):=by rw[<-HN.out];exact G.blk.cell 5
      have AE:=G.blk.froz 5;have H7:=G.setU (l:=ins cB o.bundle L.bundles) F (by rw[lW,G.rk.buns,gE lI hL.u1]) (fun p hp=>by
       rcases mT hp with rfl|h
       .exact Af.out.chg (Chg.of_below (S:=[]) (B.trans (C.mono B.size))) (by simp) (Nat.le_trans HB.out D.size)
       .exact G.rk.keyss p h)
      have Q:Hid (bE base gl R w (.returned (.int .i64 0)) (w6.setCell ⟨gl,5,none⟩ (.slice A9 (aU (fun a b:Led.Bundle × Value=>cB a.1 b.1) (o.bundle,kv) false U).length c9))):=eA (by
       rw[HE.out];exact⟨rfl,((D.trans ((B.trans (C.mono B.size)).mono D.size)).mono HB.out).setCell (p:=⟨gl,5,none⟩) G.hg _,fun _=>⟨_,_,_,_,_,_,_,_,H7⟩⟩)
      clear f0 f1 G H7 F Am C X u Al;go_wp2;(try rw[ak])
      (try go_wp2)
      go_ret;exact Q.out
end
end Go.Proofs.YtmbpnkacggngkaaGreatDoor
