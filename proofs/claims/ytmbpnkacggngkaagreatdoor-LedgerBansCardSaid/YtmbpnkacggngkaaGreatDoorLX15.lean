/- LedRJoin, LedRKeys, LedRNames, LedRMay, LedRForeign (put together by bundle.py: only what is needed). -/
import Derived.Test.YtmbpnkacggngkaaGreatDoorLX14
set_option maxRecDepth 100000
set_option maxHeartbeats 16000000
namespace Go.Proofs.YtmbpnkacggngkaaGreatDoor
open Batch
open Tryz
section
open Go.RowKit Mem Led
theorem bB.err{base gl:Nat} {L:Led.Ledger} {r:Led.Ledger × Int} {k:Int} {w w':World} (A:Below base w w') (h:r=(L,k)) (B:k≠0):bB base gl r w (.returned (.int .i64 k)) w':=by
 rw [h]
 exact⟨rfl,A,fun e=>absurd e B⟩
theorem oS{α:Type} (p:α->Bool) (L:List α):L.any p=decide (0<=bc p L):=(gV p L).symm
theorem node_joins(L:Led.Ledger) (n:Led.Node):(aX L n).1.joins=L.joins:=by
 unfold aX
 split
 .split
  .rfl
  .cases put cN 4 n L.nodes <;> rfl
 .rfl
section
variable {L:Led.Ledger} {t:Txt} {n:Led.Node}
theorem join_none(h:(L.joins.any fun j=>j.text==t)=false):eO L t n=(L,7):=by
 unfold eO
 have:L.joins.find? (fun d=>d.text==t)=none:=by
  rw [List.find?_eq_none]; intro x hx; rw [List.any_eq_false] at h; exact h x hx
 rw [this]
theorem join_at{i:Nat} {d:Led.Join} (hi:i<L.joins.length) (hd:L.joins[i]=d) (A:∀ x∈L.joins.take i,(x.text==t)=false) (B:(L.joins[i].text==t)=true) :
  eO L t n=if d.used then (L,20) else if n.name==d.name then (if (aX L n).2==0 then ({ (aX L n).1 with joins:=L.joins.set i { d with used:=true } },0) else (L,(aX L n).2)) else (L,1):=by
 subst hd
 unfold eO
 rw [mH (p:=fun j:Led.Join=>j.text==t) hi A B,fw (p:=fun j:Led.Join=>j.text==t) hi A B]
end
theorem rjoins_any{base gl:Nat} {vE vN vB vJ vK vU:Value} {L:Led.Ledger} {E:List (Led.Entry × Value)} {U:List (Led.Bundle × Value)} (ok:Bool) (o:Led.Op) (sv kv:Value) (w:World) (H:RAt base gl w vE vN vB vJ vK vU L E U) (hL:L.Wf) (ho:Sized o) (hk:o.kind=3\/o.kind=4) :
  Calls prog 72 #[.pointer (some ⟨gl,0,none⟩),.agg (ah o sv kv).toArray] w (bB base gl (does ok L o) w):=by
 obtain⟨AJ,cJ,rfl,fJ,eJ⟩:=dy H.rk.oJ
 have eJ:Es ao 4 w AJ L.joins.length L.joins:=eJ
 have zJ:=hL.j3
 obtain⟨b3,Av⟩:=eA ((o.kind==3))
 have HK:Hid ((b3=true/\does ok L o=dE L o.join)\/(b3=false/\does ok L o=eO L o.name o.node)):=hO (by
  rcases hk with hk|hk
  .exact .inl ⟨by rw [<-Av,hk]; rfl,by unfold does; simp [hk]⟩
  .exact .inr ⟨by rw [<-Av,hk]; rfl,by unfold does; simp [hk]⟩)
 clear hk
 obtain⟨R,hR⟩:=eC (does ok L o)
 rw [hR.out] at HK ⊢
 clear hR
 obtain⟨W,hW⟩:=eA (w.alloc (.cells (ah o sv kv).toArray 47))
 have b0:Blk W w.heap.size (ah o sv kv) 47:=by rw [<-hW]; exact Blk.new w _ _
 have J:eD w W:=eF hW
 have AN:=mB b0
 have A:=rjoin_any o.join W ho.jt ho.jn
 have q0:W.cell? ⟨w.heap.size,0,none⟩=some (.int .i64 o.kind):=b0.cell 0
 have q2:W.cell? ⟨w.heap.size,2,none⟩=some (.string (str o.name)):=b0.cell 2
 have q8:W.cell? ⟨w.heap.size,8,none⟩=some (.string (str o.join.text)):=b0.cell 8
 have HW:=hO hW
 clear hW
 obtain⟨CS,AO⟩:=eC ((ah o sv kv).toArray)
 rw [AO.out] at HW ⊢
 have O:=hO b0
 have HH:=hO H
 have HB:=hO H.hb
 have HO:=hO ho
 clear b0 H ho
 obtain⟨t,ht⟩:∃ t,Hid ((if b3=true then o.join.text else o.name)=t):=⟨_,hO rfl⟩
 go_enter func72,ntmps72
 go_upto_region 1 with fail
 rw [HW.out]
 clear HW
 go_upto_if 14 with fail
 go_cut [6] (fun s6 wx=>s6=.string (str t)/\Hid (b3=true->cL o.join=true/\o.join.used=false)/\eD W wx)
 case first =>
  cases b3
  .have D:o.name=t:=by rw [<-ht.out]; rfl
   rw [D]; clear ht D; go_wp2_with fail
   go_meet
   case rel=>exact⟨rfl,hO (fun h=>by cases h),Below.refl _ _⟩
  .have D:o.join.text=t:=by rw [<-ht.out]; rfl
   have HT:=hO D; have hd:R=dE L o.join:=by
    rcases HK.out with h|h
    .exact h.2
    .cases h.1
   have F:=hO hd; clear ht D hd HK
   cases hm:cL o.join
   .rw [hm] at A
    have N:=hO (show R=(L,1) by rw [F.out]; unfold dE; rw [hm]; rfl)
    clear hm F; go_wp2_with fail
    refine A.mono ?_; rintro e w1 ⟨rfl,G⟩; go_wp2; go_ret; exact bB.err ((J.trans (G.mono J.size)).mono HB.out) N.out (by decide)
   .rw [hm] at A
    have HM:=hO hm; clear hm
    cases Y:o.join.used
    .have HU:=hO Y
     clear F; go_wp2_with fail
     refine A.mono ?_; rintro e w1 ⟨rfl,G⟩; have AP:w1.cell? ⟨w.heap.size,11,none⟩=some (.bool false):=by rw [(O.out.below G).cell 11,<-HU.out]; rfl
     have c8:w1.cell? ⟨w.heap.size,8,none⟩=some (.string (str o.join.text)):=(O.out.below G).cell 8; rw [HT.out] at c8; go_wp2_with fail
     go_meet
     case rel=>exact⟨rfl,hO (fun _=>⟨HM.out,HU.out⟩),G⟩
    .have N:=hO (show R=(L,1) by rw [F.out]; unfold dE; rw [Y,HM.out]; rfl)
     have HU:=hO Y; clear Y F; go_wp2_with fail
     refine A.mono ?_; rintro e w1 ⟨rfl,G⟩; have AP:w1.cell? ⟨w.heap.size,11,none⟩=some (.bool true):=by rw [(O.out.below G).cell 11,<-HU.out]; rfl
     go_wp2_with fail
     go_ret; exact bB.err ((J.trans (G.mono J.size)).mono HB.out) N.out (by decide)
 case rest =>
  obtain⟨rfl,Z,Ae⟩:=hcut; obtain⟨wa,AQ⟩:∃ wa,wa=wc:=⟨_,rfl⟩; subst AQ; have B:=J.trans (Ae.mono J.size); have Ha:=HH.out.below B; have cg:wa.cell? ⟨gl,3,none⟩=some (.slice AJ L.joins.length cJ):=Ha.blk.cell 3; have c0:wa.cell? ⟨w.heap.size,0,none⟩=some (.int .i64 o.kind):=(O.out.below Ae).cell 0; have c:=hO (O.out.below Ae); have Q:=hO Ha; have Ak:Es ao 4 wa AJ L.joins.length L.joins:=by
   obtain⟨A2,c2,e2,_,ea⟩:=dy Ha.rk.oJ; injection e2 with e2 _ e3
   subst e2 e3; exact ea
  obtain⟨n,hn⟩:=eA (L.joins.length); have f:=hO hn; rw [hn] at cg Ak zJ; obtain⟨r,hr⟩:=eC (bc (fun j:Led.Join=>j.text==t) L.joins); have l:=hO Ak; clear AN A q0 q2 q8 Ae J O HH Ha Ak hn eJ fJ; go_wp2_with fail
  go_loopw [5,8] (fun AR i wr=>∃ (k:Nat) (iv:Int) (av:Value),k<=n/\iv=(k:Int) - 1/\i=.int .i64 iv/\av=AR/\Hid (av=.int .i64 (fO (fun j:Led.Join=>j.text==t) L.joins k))/\wr=wa) (fun _ i _=>(intOf i+1).toNat)
  case atStart=>exact⟨n,(n:Int) - 1,_,by omega,rfl,by go_num,rfl,hO (by rw [kI (by rw [f.out]; exact eG)]),rfl⟩
  case round =>
   obtain⟨k,iv,av,hk,Aw,rfl,rfl,m,AS⟩:=hrel; subst AS; by_cases hi:0<=iv
   .obtain⟨j,rfl⟩:∃ j:Nat,iv=j:=⟨iv.toNat,by omega⟩
    have hj:j<n:=by omega
    have Al:j<L.joins.length:=by rw [f.out]; exact hj
    have Ax:k=j+1:=by omega
    have Bh:(j:Int)<(n:Int):=by omega
    obtain⟨b,I,e,h1,h2⟩:=l.out.lit a9 (by omega) Al; subst e; have q:wr.cell? ⟨b,I+j * 4,none⟩=some (.string (str L.joins[j].text)):=h2 0 _ rfl; have s:=hO (fun h=>down_hit (p:=fun j:Led.Join=>j.text==t) Al h); have K:=hO (fun h=>so (p:=fun j:Led.Join=>j.text==t) Al h); have AT:=hO Ax; clear h2 Ax Aw hk
    cases hq:(L.joins[j].text==t)
    .have HX:Hid (av=.int .i64 (fO (fun j:Led.Join=>j.text==t) L.joins j)):=hO (by rw [m.out,AT.out,K.out hq])
     generalize L.joins[j].text=x at *; clear s K m; go_wp2_with fail
     go_roundw
     case rel=>exact⟨j,(j:Int) - 1,_,by omega,rfl,by go_num,rfl,HX,by trivial⟩
     case measure=>simp [intOf] <;> omega
    .have HX:Hid (Value.int .i64 (j:Int)=.int .i64 (fO (fun j:Led.Join=>j.text==t) L.joins j)):=hO (by rw [s.out hq])
     generalize L.joins[j].text=x at *; clear s K m; go_wp2_with fail
     go_roundw
     case rel=>exact⟨j,(j:Int) - 1,_,by omega,rfl,by go_num,rfl,HX,by trivial⟩
     case measure=>simp [intOf] <;> omega
   .have Ay:k=0:=by omega
    have Az:av=.int .i64 r:=by rw [m.out,Ay,jp,hr.out]
    subst Az; clear m Ay Aw
    cases b3
    .have hd:R=eO L t o.node:=by
      rcases HK.out with h|h
      .cases h.1
      .rw [h.2,<-ht.out]; rfl
     have F:=hO hd; clear hd HK ht Z; rcases bg (fun j:Led.Join=>j.text==t) L.joins with⟨hx,ha⟩|⟨i,S,hx,ha,A0,A1⟩
     .have Bi:r<0:=by rw [<-hr.out,hx]; decide
      have N:=hO (F.out.trans (join_none (n:=o.node) ha)); clear hx ha F; go_wp2_with fail
      go_ret; exact bB.err (B.mono HB.out) N.out (by decide)
     .have AU:r=(i:Int):=by rw [<-hr.out,hx]
      subst AU; have Bj:¬ (i:Int)<0:=by omega
      have Bk:(i:Int)<(n:Int):=by rw [<-f.out]; omega
      obtain⟨b,I,e,h1,h2⟩:=l.out.lit a9 (by omega) S; subst e; obtain⟨d,hd⟩:=eA (L.joins[i]); have cu:wr.cell? ⟨b,I+i * 4+3,none⟩=some (.bool d.used):=by
       rw [Nat.add_assoc]; exact h2 3 _ (by rw [hd]; rfl)
      have Am:=hO fun (w':World) (hb:eD wr w')=>show w'.cell? ⟨b,I+i * 4+1,none⟩=some (.string (str d.name)) from dZ a9 (by omega) l.out S hb (j:=1) (by rw [hd]; rfl)
      have y:=hO S; have Aa:=hO (show L.joins[i]?=some d by rw [List.getElem?_eq_getElem S,hd]); have T:=hO (F.out.trans (join_at (n:=o.node) S hd A1 A0)); clear h2 hx ha A0 A1 hd F S hr l
      cases Y:d.used
      .have N:=hO Y
       have c5:wr.cell? ⟨b,I+i * 4+3,none⟩=some (.bool false):=by rw [cu,Y]
       have f0:∀ p,(ab wr p).cell? ⟨gl,3,none⟩=some (.slice (some ⟨b,I,none⟩) n cJ):=fun p=>(Q.out.blk.below (aa wr p)).cell 3 |>.trans (by rw [<-f.out]; rfl)
       have f1:∀ p,(ab wr p).cell? ⟨b,I+i * 4+1,none⟩=some (.string (str d.name)):=fun p=>Am.out _ (aa wr p); have f2:∀ p,(ab wr p).cell? ⟨w.heap.size,12,none⟩=some (.string (str o.node.name)):=fun p=>(c.out.below (aa wr p)).cell 12; clear Y cu Am; go_upto_region 24 with fail
       refine az ?_; repeat (go_big_quiet_step (fail))
       refine wpQuiet_nil ?_; rintro _ ⟨p,rfl⟩; have V:=aa wr p; have A3:=B.trans (V.mono B.size); have A4:=hO (Q.out.below V); have B2:=c.out.below V; generalize ab wr p=w2 at *; clear f0 f1 f2 V Q c c5 h1 cg c0
       cases An:(d.name==o.node.name)
       .have HF:=hO (show R=(L,1) by rw [T.out,N.out,show (o.node.name==d.name)=false by rw [<-An]; exact Bool.beq_comm]; rfl)
        clear T Aa; go_wp2_with fail
        go_ret; exact bB.err (A3.mono HB.out) HF.out (by decide)
       .have HF:=hO (show R=(if (aX L o.node).2==0 then ({ (aX L o.node).1 with joins:=L.joins.set i { d with used:=true } },0) else (L,(aX L o.node).2)) by rw [T.out,N.out,show (o.node.name==d.name)=true by rw [<-An]; exact Bool.beq_comm]; rfl)
        have A5:=mA B2; have Ao:=mi o.node w2 A4.out hL HO.out.nn; obtain⟨CN,AV⟩:=eC ((ac o.node).toArray); rw [AV.out] at A5 Ao; clear An T B2 A4; go_wp2_with fail
        refine Ao.mono ?_; rintro e w4 ⟨rfl,AW,A6⟩; have Ah:Below base w w4:=(A3.mono HB.out).trans AW; have Af:=hO A6; obtain⟨en,A7⟩:=eC ((aX L o.node).2); rw [A7.out] at HF Af ⊢; clear A6 Ao A5; by_cases hz:en=0
        .have HZ:=hO hz
         subst hz; obtain⟨Bl,Bm,Bn,Bo,Bp,Bq,E',U',H4⟩:=Af.out rfl; have X:(aX L o.node).1.joins=L.joins:=node_joins L o.node; have Ap:=H4.rk.oJ; rcases aW Ap with⟨_,h0,_⟩|⟨g,c',M,he,V,Br,Ag,A8,A9,hM,AA⟩
         .have:=y.out
          rw [X] at h0; omega
         subst he; have AX:gl≠g:=fun e=>aC Ap H4.blk (by decide) (by simp [Value.ownBlock,e]); have AB:i<(aX L o.node).1.joins.length:=by rw [X]; exact y.out
         have AC:(aX L o.node).1.joins[i]=d:=by
          have h:(aX L o.node).1.joins[i]?=some d:=by rw [X]; exact Aa.out
          exact(List.getElem?_eq_some_iff.1 h).2
         have hS:=iY (x':={ d with used:=true }) (u:=.bool true) (j:=3) a9 (Below.refl _ w4) V Ag A8 A9 hM AA AB (by omega) (by rw [AC]; rfl) AX H4.blk (sl:=3) rfl
         obtain⟨v5,H5,AD⟩:=H4.slotJ hS; have Bt:w4.cell? ⟨gl,3,none⟩=some (.slice (some ⟨g,0,none⟩) n c'):=(H4.blk.cell 3).trans (by rw [X,f.out]; rfl)
         have Bu:w4.frozen? ⟨g,i * 4+3,none⟩=false:=Ag.froz _; have Aq:∃ u,w4.cell? ⟨g,i * 4+3,none⟩=some u:=by
          refine⟨M[i * 4+3]'(by rw [hM]; omega),?_⟩
          rw [Ag.cell,List.getElem?_eq_getElem]
         obtain⟨u,Bv⟩:=Aq; have Ab:Hid (bB base gl R w (.returned (.int .i64 0)) (w4.setCell ⟨g,i * 4+3,none⟩ (.bool true))):=hO (by
          have e:R=({ (aX L o.node).1 with joins:=L.joins.set i { d with used:=true } },0):=by rw [HF.out]; rfl
          rw [e]; simp only [X] at H5; exact⟨rfl,Ah.trans AD,fun _=>⟨_,_,_,_,_,_,_,_,H5⟩⟩)
         clear HF Af H4 Ap Ag hM AA hS H5 AD AC AB X Aa y; go_wp2_with fail
         go_ret; exact Ab.out
        .have AY:(en==0)=false:=by simpa using hz
         have AZ:=hO (show R=(L,en) by rw [HF.out,AY]; rfl)
         have HZ:=hO hz; clear HF Af hz Aa y A7; go_wp2_with fail
         go_ret; exact bB.err Ah AZ.out HZ.out
      .have HF:=hO (show R=(L,20) by rw [T.out,Y]; rfl)
       have c5:wr.cell? ⟨b,I+i * 4+3,none⟩=some (.bool true):=by rw [cu,Y]
       clear Y cu T Am Aa y; go_wp2_with fail
       go_ret; exact bB.err (B.mono HB.out) HF.out (by decide)
    .have hd:R=dE L o.join:=by
      rcases HK.out with h|h
      .exact h.2
      .cases h.1
     have D:o.join.text=t:=by rw [<-ht.out]; rfl
     obtain⟨m1,m2⟩:=Z.out rfl; have Ac:=oS (fun j:Led.Join=>j.text==t) L.joins; rw [hr.out] at Ac; have AE:R=if decide (0<=r)=true then (L,8) else if 16<=n then (L,6) else ({ L with joins:=L.joins++[o.join] },0):=by
      rw [hd]; unfold dE; rw [m1,m2,D,<-Ac,f.out]; rfl
     have F:=hO AE; clear hd AE Ac m1 m2 D HK ht Z hr; by_cases Ar:0<=r
     .have N:=hO (show R=(L,8) by rw [F.out,decide_eq_true Ar]; rfl)
      clear F; go_wp2_with fail
      go_ret; exact bB.err (B.mono HB.out) N.out (by decide)
     .by_cases AF:16<=n
      .have N:=hO (show R=(L,6) by rw [F.out,decide_eq_false Ar,if_neg (by decide),if_pos AF])
       have AG:(16:Int)<=(n:Int):=by omega
       clear F; go_wp2_with fail
       go_ret; exact bB.err (B.mono HB.out) N.out (by decide)
      .have N:=hO (show R=({ L with joins:=L.joins++[o.join] },0) by rw [F.out,decide_eq_false Ar,if_neg (by decide),if_neg AF])
       have AG:¬ (16:Int)<=(n:Int):=by omega
       have f1:∀ p,(ab wr p).cell? ⟨gl,3,none⟩=some (.slice AJ n cJ):=fun p=>(Q.out.blk.below (aa wr p)).cell 3 |>.trans (by rw [<-f.out]; rfl)
       have f2:∀ p,(rT (.pointer (some ⟨w.heap.size,8,none⟩))).run prog (ab wr p)=.ok (.agg #[.string (str o.join.text),.string (str o.join.name),.int .i64 o.join.expires,.bool o.join.used]) (ab wr p):=fun p=>mB (c.out.below (aa wr p)); clear F l; go_upto_region 18 with fail
       refine aK [0] [] [1,2,3,4,5,6] [(7,fun v w'=>∃ gx,wr.heap.size<=gx/\v=.slice (some ⟨gx,0,none⟩) 1 1/\Blk w' gx (ao o.join) 38)] [8,9,10,11] (by kernel_rfl) (by kernel_rfl) (by kernel_rfl) (by
        intro z hz; simp only [List.mem_cons,List.not_mem_nil,or_false] at hz; subst hz; exact ax fun v w w' hb ⟨gx,e0,e,h⟩=>⟨gx,e0,e,h.below hb⟩) ?_
       simp only [ix,pick,List.getD_cons_zero,List.getD_cons_succ]; repeat (go_big_quiet_step (fail))
       refine wpQuiet_nil ?_; repeat (go_big_quiet_step (fail))
       refine wpQuiet_nil ?_; refine⟨_,rfl,rfl,?_,?_⟩
       .intro w4 Ba
        have Bb:=Ba.below.size; go_simp
        exact⟨GR.of eH,w4.heap.size,Bb,rfl,Blk.new w4 (ao o.join) _⟩
       .rintro v w6 Bc ⟨_,gx,Bw,rfl,As⟩
        have AH:=Bc.below; have AI:eD w w6:=B.trans (AH.mono B.size); have H6:=Q.out.below AH; obtain⟨iT,Bd,Be,Bf,Bg⟩:=al mE; have AK:Vs w6 w6.heap.size 4 (some ⟨gx,0,none⟩) 1 (ao o.join):=⟨by rw [a9],fun j u hj=>⟨_,rfl,As.lt,by rw [aO,As.cell j]; exact hj⟩⟩
        obtain⟨v',w7,Ai,C,At,AL⟩:=aT (P:=prog) w6 base 26 26 38 iT _ 4 48 underlying26 Bd Be Bf Bg rfl (by omega) _ L.joins.length _ H6.rk.oJ w6.heap.size (some ⟨gx,0,none⟩) 1 1 (ao o.join) AK (kD _) (by unfold maxLen; rw [f.out]; omega) (by rw [f.out]; omega) H6.hb
        obtain⟨A',c',rfl,_,_⟩:=ak C; have AM:=aC H6.rk.oJ H6.blk (by decide); have Ad:=At.block gl H6.blk.lt (fun e=>AM e.symm); have Bx:w7.cell? ⟨gl,3,none⟩=some (.slice AJ n cJ):=(World.cell?_of_block (a:=⟨gl,3,none⟩) Ad).trans ((H6.blk.cell 3).trans (by rw [<-f.out]; rfl))
        have By:w7.frozen? ⟨gl,3,none⟩=false:=(World.frozen?_of_block (a:=⟨gl,3,none⟩) Ad).trans (H6.blk.froz 3); have Aj:af ao L.joins++ao o.join=af ao (L.joins++[o.join]):=by rw [aL]; simp [af]
        rw [Aj] at C; have hS:bu ao 4 38 base gl 3 (.slice AJ L.joins.length cJ) (L.joins++[o.join]) w6 (w7.setCell ⟨gl,3,none⟩ (.slice A' (L.joins.length+1) c')):=⟨_,w7,rfl,At,by rw [List.length_append]; exact C,AL.imp id (fun h=>⟨_,eG,h⟩)⟩
        obtain⟨v8,H8,Au⟩:=H6.slotJ hS; rw [f.out] at Ai H8 Au; have Ab:Hid (bB base gl R w (.returned (.int .i64 0)) (w7.setCell ⟨gl,3,none⟩ (.slice A' (n+1) c'))):=hO (by
         rw [N.out]; exact⟨rfl,(AI.mono HB.out).trans Au,fun _=>⟨_,_,_,_,_,_,_,_,H8⟩⟩)
        clear hS H8 Au C At AL Ad AK As H6 f1 f2 Aj AM Q c; go_wp2_with (at_builtin; refine Lib.wpList_append_run _ rfl _ _ _ _ rfl _ _ rfl rfl _ _ Ai ?_)
        (try rw [am])
        (try go_wp2)
        go_ret; exact Ab.out
end
section
open Go.RowKit Mem Led
theorem rkeys_any{base gl:Nat} {vE vN vB vJ vK vU:Value} {L:Led.Ledger} {E:List (Led.Entry × Value)} {U:List (Led.Bundle × Value)} (ok:Bool) (o:Led.Op) (sv kv:Value) (w:World) (H:RAt base gl w vE vN vB vJ vK vU L E U) (hL:L.Wf) (hk:o.kind=9\/o.kind=10\/o.kind=11) :
  Calls prog 75 #[.pointer (some ⟨gl,0,none⟩),.agg (ah o sv kv).toArray] w (bB base gl (does ok L o) w):=by
 obtain⟨AK,Z,rfl,fK,_⟩:=dy H.rk.oK
 have zK:=hL.k3
 have BA:Hid (∀ g,AK=some ⟨g,0,none⟩->g<w.heap.size):=hO fun g hg=>(dA H.rk.oK (by rw [hg]; rfl)).2
 obtain⟨W,hW⟩:=eA (w.alloc (.cells (ah o sv kv).toArray 47))
 have b0:Blk W w.heap.size (ah o sv kv) 47:=by rw [<-hW]; exact Blk.new w _ _
 have AJ:eD w W:=eF hW
 have HW:=hO hW
 clear hW
 obtain⟨CS,BB⟩:=eC ((ah o sv kv).toArray)
 rw [BB.out] at HW ⊢
 have hH:=H.below AJ
 have cg:W.cell? ⟨gl,4,none⟩=some (.slice AK L.keys.length Z):=hH.blk.cell 4
 have eK:Es aq 4 W AK L.keys.length L.keys:=by
  obtain⟨A2,c2,e2,_,ea⟩:=dy hH.rk.oK; injection e2 with e2 _ e3
  subst e2 e3; exact ea
 obtain⟨n,hn⟩:=eA (L.keys.length)
 have M:=hO hn
 rw [hn] at cg eK zK
 have Ap:=hO eK
 have Az:=hO b0
 have HH:=hO hH
 have HB:=hO H.hb
 have HK:=hO hk
 obtain⟨r1,A0⟩:∃ r,Hid (bc (fun k:Led.Key=>k.state==1) L.keys=r):=⟨_,hO rfl⟩
 obtain⟨r2,AL⟩:∃ r,Hid (bc (fun k:Led.Key=>k.state==2) L.keys=r):=⟨_,hO rfl⟩
 obtain⟨r3,Bc⟩:∃ r,Hid (bc (fun k:Led.Key=>k.kid==o.key.kid) L.keys=r):=⟨_,hO rfl⟩
 obtain⟨r4,AM⟩:∃ r,Hid (bc (fun k:Led.Key=>k.kid==o.name&&k.state==3) L.keys=r):=⟨_,hO rfl⟩
 obtain⟨R,hR⟩:=eC (does ok L o)
 rw [hR.out]
 clear b0 H hH eK fK hk hn
 go_enter func75,ntmps75
 go_upto_region 1 with fail
 rw [HW.out]
 clear HW
 go_wp2_with fail
 go_loopw [5,6,7,8,9] (fun b1 b2 b3 b4 i wr=>∃ (k:Nat) (iv:Int) (a1 a2 a3 a4:Value),k<=n/\iv=(k:Int) - 1/\i=.int .i64 iv/\a1=b1/\a2=b2/\a3=b3/\a4=b4/\Hid (a1=.int .i64 (fO (fun k:Led.Key=>k.state==1) L.keys k))/\Hid (a2=.int .i64 (fO (fun k:Led.Key=>k.state==2) L.keys k))/\Hid (a3=.int .i64 (fO (fun k:Led.Key=>k.kid==o.key.kid) L.keys k))/\Hid (a4=.int .i64 (fO (fun k:Led.Key=>k.kid==o.name&&k.state==3) L.keys k))/\eD W wr) (fun _ _ _ _ i _=>(intOf i+1).toNat)
 case atStart=>exact⟨n,(n:Int) - 1,_,_,_,_,by omega,rfl,by go_num,rfl,rfl,rfl,rfl,hO (by rw [kI (by rw [M.out]; exact eG)]),hO (by rw [kI (by rw [M.out]; exact eG)]),hO (by rw [kI (by rw [M.out]; exact eG)]),hO (by rw [kI (by rw [M.out]; exact eG)]),Below.refl _ _⟩
 case round =>
  obtain⟨k,iv,a1,a2,a3,a4,hk,Bd,rfl,rfl,rfl,rfl,rfl,g1,g2,g3,g4,J⟩:=hrel; obtain⟨wx,BC⟩:∃ wx,wx=wr:=⟨_,rfl⟩; subst BC; by_cases hi:0<=iv
  .obtain⟨j,rfl⟩:∃ j:Nat,iv=j:=⟨iv.toNat,by omega⟩
   have hj:j<n:=by omega
   have Ak:j<L.keys.length:=by rw [M.out]; exact hj
   have BW:(j:Int)<(n:Int):=by omega
   obtain⟨b,d,e,h1,h2⟩:=Ap.out.lit aP (by omega) Ak; subst e; have step:∀ (p:Led.Key->Bool) (a:Value),Hid (a=.int .i64 (fO p L.keys k))->Hid (∀ v,(p L.keys[j]=true->v=.int .i64 (j:Int))->(p L.keys[j]=false->v=a)->v=.int .i64 (fO p L.keys j)):=fun p a ha=>hO fun v h1 h2=>by
    have ha:=ha.out; rw [show k=j+1 by omega] at ha
    cases hp:p L.keys[j]
    .rw [h2 hp,ha,so Ak hp]
    .rw [h1 hp,down_hit Ak hp]
   have x1:=step _ _ g1; have x2:=step _ _ g2; have x3:=step _ _ g3; have x4:=step _ _ g4; have f1:∀ w',eD W w'->w'.cell? ⟨b,d+j * 4+0,none⟩=some (.string (str L.keys[j].kid)):=fun w' J=>dZ aP (by omega) Ap.out Ak J (j:=0) rfl; have f2:∀ w',eD W w'->w'.cell? ⟨b,d+j * 4+2,none⟩=some (.int .i64 L.keys[j].state):=fun w' J=>dZ aP (by omega) Ap.out Ak J (j:=2) rfl; have Ab:∀ c:Int,((c==1)=true/\(c==2)=false/\(c==3)=false)\/((c==1)=false/\(c==2)=true/\(c==3)=false)\/((c==1)=false/\(c==2)=false/\(c==3)=true)\/((c==1)=false/\(c==2)=false/\(c==3)=false):=fun c=>by
    simp only [beq_iff_eq,beq_eq_false_iff_ne]; omega
   have Ab:=Ab L.keys[j].state; obtain⟨kd,Be⟩:=eC (L.keys[j].kid); obtain⟨c,Bf⟩:=eC (L.keys[j].state); rw [Bf.out] at x1 x2 x4 f2 Ab; rw [Be.out] at x3 x4 f1; have F1:=hO f1; have F2:=hO f2; have CG:Hid (∀ w',eD W w'->w'.cell? ⟨gl,4,none⟩=some (.slice (some ⟨b,d,none⟩) n Z)):=hO fun w' J=>(HH.out.below J).blk.cell 4 |>.trans (by rw [<-M.out]; rfl)
   have CO:Hid (∀ w',eD W w'->w'.cell? ⟨w.heap.size,17,none⟩=some (.string (str o.key.kid))/\w'.cell? ⟨w.heap.size,2,none⟩=some (.string (str o.name))):=hO fun w' J=>⟨(Az.out.below J).cell 17,(Az.out.below J).cell 2⟩; obtain⟨c1,AN⟩:=eC ((kd==o.key.kid)); obtain⟨c2,AO⟩:=eC ((kd==o.name)); rw [AN.out] at x3; rw [AO.out] at x4; obtain⟨s1,AP⟩:∃ s,Hid ((c==1)=s):=⟨_,hO rfl⟩; obtain⟨s2,AQ⟩:∃ s,Hid ((c==2)=s):=⟨_,hO rfl⟩; obtain⟨s3,AR⟩:∃ s,Hid ((c==3)=s):=⟨_,hO rfl⟩; rw [AP.out] at x1 Ab; rw [AQ.out] at x2 Ab; rw [AR.out] at x4 Ab; have y1:=AP.out; have y2:=AQ.out; have y3:=AR.out; have y4:=AN.out; have y5:=AO.out; have k1:=F2.out wx J; have k2:=CG.out wx J; clear g1 g2 g3 g4 step f1 f2 h1 h2 Be Bf Bd hk AP AQ AR AN AO Ap cg Ak; rcases Ab with⟨rfl,rfl,rfl⟩|⟨rfl,rfl,rfl⟩|⟨rfl,rfl,rfl⟩|⟨rfl,rfl,rfl⟩
   all_goals
    cases c1
   all_goals
    cases c2
   all_goals
    have m0:∀ p,(ab wx p).cell? ⟨gl,4,none⟩=some (.slice (some ⟨b,d,none⟩) n Z):=fun p=>CG.out _ (J.trans ((aa wx p).mono J.size)); have m1:∀ p,(ab wx p).cell? ⟨b,d+j * 4,none⟩=some (.string (str kd)):=fun p=>F1.out _ (J.trans ((aa wx p).mono J.size)); have m2:∀ p,(ab wx p).cell? ⟨w.heap.size,17,none⟩=some (.string (str o.key.kid)):=fun p=>(CO.out _ (J.trans ((aa wx p).mono J.size))).1; go_upto_region 12 with fail
    refine az ?_; repeat (go_big_quiet_step (fail))
    refine wpQuiet_nil ?_; rintro _ ⟨p,rfl⟩; have Aq:=aa wx p; have B:=J.trans (Aq.mono J.size); generalize ab wx p=T at *; clear m0 m1 m2 Aq; have m0:∀ p,(ab T p).cell? ⟨gl,4,none⟩=some (.slice (some ⟨b,d,none⟩) n Z):=fun p=>CG.out _ (B.trans ((aa T p).mono B.size)); have m1:∀ p,(ab T p).cell? ⟨b,d+j * 4,none⟩=some (.string (str kd)):=fun p=>F1.out _ (B.trans ((aa T p).mono B.size)); have m2:∀ p,(ab T p).cell? ⟨w.heap.size,2,none⟩=some (.string (str o.name)):=fun p=>(CO.out _ (B.trans ((aa T p).mono B.size))).2; have m3:∀ p,(ab T p).cell? ⟨b,d+j * 4+2,none⟩=some (.int .i64 c):=fun p=>F2.out _ (B.trans ((aa T p).mono B.size)); go_upto_region 14 with fail
    refine az ?_; repeat (go_big_quiet_step (fail))
    refine wpQuiet_nil ?_; rintro _ ⟨p,rfl⟩; have Aq:=aa T p; have A:=B.trans (Aq.mono B.size); generalize ab T p=V at *; clear m0 m1 m2 m3 Aq; go_wp2_with fail
    go_roundw
    case rel=>exact⟨j,(j:Int) - 1,_,_,_,_,by omega,rfl,by go_num,rfl,rfl,rfl,rfl,hO (x1.out _ (fun h=>by first|rfl|cases h) (fun h=>by first|rfl|cases h)),hO (x2.out _ (fun h=>by first|rfl|cases h) (fun h=>by first|rfl|cases h)),hO (x3.out _ (fun h=>by first|rfl|cases h) (fun h=>by first|rfl|cases h)),hO (x4.out _ (fun h=>by first|rfl|cases h) (fun h=>by first|rfl|cases h)),A⟩
    case measure=>simp [intOf] <;> omega
  .have Ar:k=0:=by omega
   have e1:a1=.int .i64 r1:=by rw [g1.out,Ar,jp,A0.out]
   have e2:a2=.int .i64 r2:=by rw [g2.out,Ar,jp,AL.out]
   have e3:a3=.int .i64 r3:=by rw [g3.out,Ar,jp,Bc.out]
   have e4:a4=.int .i64 r4:=by rw [g4.out,Ar,jp,AM.out]
   subst e1 e2 e3 e4; have Hx:=HH.out.below J; have Bx:=Az.out.below J; have Ac:=AJ.trans (J.mono AJ.size); have D:=hO Hx; have I:=hO Bx; have c0:wx.cell? ⟨w.heap.size,0,none⟩=some (.int .i64 o.kind):=Bx.cell 0; have Al:wx.cell? ⟨gl,4,none⟩=some (.slice AK n Z):=by rw [<-M.out]; exact Hx.blk.cell 4
   have C:Hid (∀ k T,R=(L,k)->k≠0->eD wx T->bB base gl R w (.returned (.int .i64 k)) T):=hO fun k T he hk J=>bB.err ((Ac.trans (J.mono Ac.size)).mono HB.out) he hk; obtain⟨kk,A3⟩:=eC (o.kind); have Bg:=HK.out; rw [A3.out] at c0 Bg; clear g1 g2 g3 g4 Ar Bd hk Ap cg Az HH Hx Bx HK; rcases Bg with rfl|rfl|rfl
   .have hd:R=if (!dC o.key||!(o.key.state==1))=true then (L,1) else if (decide (0<=r1)||decide (0<=r3))=true then (L,8) else if 8<=n then (L,6) else ({ L with keys:=L.keys++[o.key] },0):=by
     rw [<-hR.out]; unfold does; rw [A3.out]; show dp L o.key=_
     unfold dp; rw [oS (fun k:Led.Key=>k.state==1),oS (fun k:Led.Key=>k.kid==o.key.kid),A0.out,Bc.out,M.out]
    have S:=hO hd; have X:=rkey_any o.key wx; have BD:=p7 I.out; have Am:wx.cell? ⟨w.heap.size,19,none⟩=some (.int .i64 o.key.state):=I.out.cell 19; clear hd
    cases hm:dC o.key
    .rw [hm] at X S
     have N:=hO (S.out.trans rfl); clear S hm; go_wp2_with fail
     refine X.mono ?_; rintro e V ⟨rfl,A⟩; go_wp2_with fail
     go_ret; exact C.out _ _ N.out (by decide) A
    rw [hm] at X S; have HM:=hO hm; clear hm; by_cases hs:o.key.state=1
    rotate_left
    .have A4:(o.key.state==1)=false:=by simpa using hs
     have N:Hid (R=(L,1)):=hO (by rw [S.out,A4]; rfl)
     clear S; go_wp2_with fail
     refine X.mono ?_; rintro e V ⟨rfl,A⟩; have c3:V.cell? ⟨w.heap.size,19,none⟩=some (.int .i64 o.key.state):=(I.out.below A).cell 19; go_wp2_with fail
     go_ret; exact C.out _ _ N.out (by decide) A
    have A4:(o.key.state==1)=true:=by simpa using hs
    have l:Hid (R=if (decide (0<=r1)||decide (0<=r3))=true then (L,8) else if 8<=n then (L,6) else ({ L with keys:=L.keys++[o.key] },0)):=hO (by rw [S.out,A4]; rfl)
    rw [hs] at Am; clear S hs A4; have AS:(((0<=r1)\/(¬ 0<=r1/\0<=r3))\/(¬ 0<=r1/\¬ 0<=r3/\(8:Int)<=(n:Int)))\/(¬ 0<=r1/\¬ 0<=r3/\¬ (8:Int)<=(n:Int)):=by omega
    rcases AS with((q1|⟨q1,q2⟩)|⟨q1,q2,q3⟩)|⟨q1,q2,q3⟩
    .have N:Hid (R=(L,8)):=hO (by rw [l.out,decide_eq_true q1]; rfl)
     clear l; go_wp2_with fail
     refine X.mono ?_; rintro e V ⟨rfl,A⟩; have c3:V.cell? ⟨w.heap.size,19,none⟩=some (.int .i64 1):=(A.cell (p:=⟨w.heap.size,19,none⟩) I.out.lt).trans Am; go_wp2_with fail
     go_ret; exact C.out _ _ N.out (by decide) A
    .have N:Hid (R=(L,8)):=hO (by rw [l.out,decide_eq_false q1,decide_eq_true q2]; rfl)
     clear l; go_wp2_with fail
     refine X.mono ?_; rintro e V ⟨rfl,A⟩; have c3:V.cell? ⟨w.heap.size,19,none⟩=some (.int .i64 1):=(A.cell (p:=⟨w.heap.size,19,none⟩) I.out.lt).trans Am; go_wp2_with fail
     go_ret; exact C.out _ _ N.out (by decide) A
    .have N:Hid (R=(L,6)):=hO (by rw [l.out,decide_eq_false q1,decide_eq_false q2,if_neg (by decide),if_pos (by omega)])
     clear l; go_wp2_with fail
     refine X.mono ?_; rintro e V ⟨rfl,A⟩; have c3:V.cell? ⟨w.heap.size,19,none⟩=some (.int .i64 1):=(A.cell (p:=⟨w.heap.size,19,none⟩) I.out.lt).trans Am; have c4:V.cell? ⟨gl,4,none⟩=some (.slice AK n Z):=(A.cell (p:=⟨gl,4,none⟩) D.out.blk.lt).trans Al; go_wp2_with fail
     go_ret; exact C.out _ _ N.out (by decide) A
    .have N:Hid (R=({ L with keys:=L.keys++[o.key] },0)):=hO (by rw [l.out,decide_eq_false q1,decide_eq_false q2,if_neg (by decide),if_neg (by omega)])
     clear l C; go_wp2_with fail
     refine X.mono ?_; rintro e V ⟨rfl,A⟩; have c3:V.cell? ⟨w.heap.size,19,none⟩=some (.int .i64 1):=(A.cell (p:=⟨w.heap.size,19,none⟩) I.out.lt).trans Am; have c4:V.cell? ⟨gl,4,none⟩=some (.slice AK n Z):=(A.cell (p:=⟨gl,4,none⟩) D.out.blk.lt).trans Al; have A6:=Ac.trans (A.mono Ac.size); have AT:=hO (D.out.below A); have Bh:=hO (I.out.below A); have f1:∀ p,(ab V p).cell? ⟨gl,4,none⟩=some (.slice AK n Z):=fun p=>(AT.out.blk.below (aa V p)).cell 4 |>.trans (by rw [<-M.out]; rfl)
     have f2:∀ p,(rS (.pointer (some ⟨w.heap.size,17,none⟩))).run prog (ab V p)=.ok (.agg #[.string (str o.key.kid),.string (str o.key.seed),.int .i64 o.key.state,.int .i64 o.key.since]) (ab V p):=fun p=>p7 (Bh.out.below (aa V p)); clear BD X Al Am D I c0; go_upto_region 25 with fail
     refine aK [0] [] [1,2,3,4,5,6] [(7,fun v w'=>∃ gx,V.heap.size<=gx/\v=.slice (some ⟨gx,0,none⟩) 1 1/\Blk w' gx (aq o.key) 42)] [8,9,10,11] (by kernel_rfl) (by kernel_rfl) (by kernel_rfl) (by
      intro z hz; simp only [List.mem_cons,List.not_mem_nil,or_false] at hz; subst hz; exact ax fun v w w' J ⟨gx,e0,e,h⟩=>⟨gx,e0,e,h.below J⟩) ?_
     simp only [ix,pick,List.getD_cons_zero,List.getD_cons_succ]; repeat (go_big_quiet_step (fail))
     refine wpQuiet_nil ?_; repeat (go_big_quiet_step (fail))
     refine wpQuiet_nil ?_; refine⟨_,rfl,rfl,?_,?_⟩
     .intro w4 BE
      have BF:=BE.below.size; go_simp
      exact⟨GR.of eH,w4.heap.size,BF,rfl,Blk.new w4 (aq o.key) _⟩
     .rintro v w6 BG ⟨_,gx,BX,rfl,AU⟩
      have Bi:=BG.below; have Bj:eD w w6:=A6.trans (Bi.mono A6.size); have H6:=AT.out.below Bi; obtain⟨iT,BH,BI,BJ,BK⟩:=al jM; have Bk:Vs w6 w6.heap.size 4 (some ⟨gx,0,none⟩) 1 (aq o.key):=⟨by rw [aP],fun j u hj=>⟨_,rfl,AU.lt,by rw [aO,AU.cell j]; exact hj⟩⟩
      obtain⟨v',w7,A7,Y,AV,Bl⟩:=aT (P:=prog) w6 base 27 27 42 iT _ 4 48 underlying27 BH BI BJ BK rfl (by omega) _ L.keys.length _ H6.rk.oK w6.heap.size (some ⟨gx,0,none⟩) 1 1 (aq o.key) Bk (lO _) (by unfold maxLen; rw [M.out]; omega) (by rw [M.out]; omega) H6.hb
      obtain⟨A',c',rfl,_,_⟩:=ak Y; have Bm:=aC H6.rk.oK H6.blk (by decide); have As:=AV.block gl H6.blk.lt (fun e=>Bm e.symm); have BY:w7.cell? ⟨gl,4,none⟩=some (.slice AK n Z):=(World.cell?_of_block (a:=⟨gl,4,none⟩) As).trans ((H6.blk.cell 4).trans (by rw [<-M.out]; rfl))
      have BZ:w7.frozen? ⟨gl,4,none⟩=false:=(World.frozen?_of_block (a:=⟨gl,4,none⟩) As).trans (H6.blk.froz 4); have A8:af aq L.keys++aq o.key=af aq (L.keys++[o.key]):=by rw [aL]; simp [af]
      rw [A8] at Y; have hS:bu aq 4 42 base gl 4 (.slice AK L.keys.length Z) (L.keys++[o.key]) w6 (w7.setCell ⟨gl,4,none⟩ (.slice A' (L.keys.length+1) c')):=⟨_,w7,rfl,AV,by rw [List.length_append]; exact Y,Bl.imp id (fun h=>⟨_,eG,h⟩)⟩
      obtain⟨v8,H8,AW⟩:=H6.slotK hS; rw [M.out] at A7 H8 AW; have O:Hid (bB base gl R w (.returned (.int .i64 0)) (w7.setCell ⟨gl,4,none⟩ (.slice A' (n+1) c'))):=hO (by
       rw [N.out]; exact⟨rfl,(Bj.mono HB.out).trans AW,fun _=>⟨_,_,_,_,_,_,_,_,H8⟩⟩)
      clear hS H8 AW Y AV Bl As Bk AU H6 f1 f2 A8 Bm AT Bh; go_wp2_with (at_builtin; refine Lib.wpList_append_run _ rfl _ _ _ _ rfl _ _ rfl rfl _ _ A7 ?_)
      (try rw [am])
      (try go_wp2)
      go_ret; exact O.out
   .have hd:R=dq L o.n:=by
     rw [<-hR.out]; unfold does; rw [A3.out]; rfl
    have S:=hO hd; have c1:wx.cell? ⟨w.heap.size,1,none⟩=some (.int .i64 o.n):=I.out.cell 1; clear hd
    cases K:aI o.n 0 1099511627776
    .have N:Hid (R=(L,1)):=hO (by rw [S.out]; unfold dq; rw [K]; rfl)
     have AS:o.n<0\/(¬ o.n<0/\1099511627776<o.n):=by
      unfold aI at K; simp only [decide_eq_false_iff_not] at K; omega
     clear S K; rcases AS with h1|⟨h1,h2⟩
     all_goals
      go_wp2_with fail
      go_ret; exact C.out _ _ N.out (by decide) (Below.refl _ _)
    have Bn:¬ o.n<0/\¬ 1099511627776<o.n:=by
     unfold aI at K; simp only [decide_eq_true_eq] at K; omega
    obtain⟨n1,n2⟩:=Bn; rcases bg (fun k:Led.Key=>k.state==1) L.keys with⟨hx,ha⟩|⟨i,Ad,hx,ha,m,Ae⟩
    .have hr:r1<0:=by rw [<-A0.out,hx]; decide
     have N:Hid (R=(L,7)):=hO (by rw [S.out]; unfold dq; rw [K,ha]; rfl)
     clear hx ha S K; go_wp2_with fail
     go_ret; exact C.out _ _ N.out (by decide) (Below.refl _ _)
    have AX:r1=(i:Int):=by rw [<-A0.out,hx]
    subst AX; have BL:¬ (i:Int)<0:=by omega
    have BS:(i:Int)<(n:Int):=by rw [<-M.out]; omega
    have N:Hid (R=({ L with keys:=dB (fun j=>j.state==1) (fun j=>{ j with state:=2,since:=o.n }) (dW o.n L.keys) },0)):=hO (by rw [S.out]; unfold dq; rw [K,ha]; rfl)
    obtain⟨g,Ca,eg,_⟩:=D.out.turnK Ad; injection eg with eg1 _ eg3
    subst eg1 eg3; have Cb:g<w.heap.size:=by
     have:=BA.out g rfl; exact this
    have A9:=Ac.mono HB.out; clear S K ha hx C Al; rcases bg (fun k:Led.Key=>k.state==2) L.keys with⟨hy,B⟩|⟨i2,AA,hy,B,At,AB⟩
    .have hr:r2<0:=by rw [<-AL.out,hy]; decide
     have Cc:¬ 0<=r2:=by omega
     have HF:Hid (R=({ L with keys:=L.keys.set i { L.keys[i] with state:=2,since:=o.n } },0)):=hO (by rw [N.out,show dW o.n L.keys=L.keys from nh B,fw (p:=fun j:Led.Key=>j.state==1) Ad Ae m]); clear N hy B Ae m hr; have hT:=D.out.twoK Ad 2 o.n; obtain⟨Bo,⟨u1,AY⟩,AZ,Au,q⟩:=hT; have Av:Blk (wx.setCell ⟨g,i * 4+2,none⟩ (.int .i64 2)) w.heap.size (ah o sv kv) 47:=I.out.set_ne (p:=⟨g,i * 4+2,none⟩) (show w.heap.size≠g by omega) _; have Af:=hO Au; have Q:=hO q; have G:=hO Av; have Ba:wx.cell? ⟨gl,4,none⟩=some (.slice (some ⟨g,0,none⟩) n Z):=by rw [<-M.out]; exact D.out.blk.cell 4
     clear Au q Av; go_upto_region 35 with fail
     obtain⟨F,y⟩:∃ wa,wx.setCell ⟨g,i * 4+2,none⟩ (.int .i64 2)=wa:=⟨_,rfl⟩; rw [y] at Af Q G ⊢; clear y AY AZ Ba; have f0:∀ p,(ab F p).cell? ⟨gl,4,none⟩=some (.slice (some ⟨g,0,none⟩) n Z):=fun p=>by rw [<-M.out]; exact(Af.out.blk.below (aa F p)).cell 4
     have f1:∀ p,(ab F p).cell? ⟨w.heap.size,1,none⟩=some (.int .i64 o.n):=fun p=>(G.out.below (aa F p)).cell 1; refine bp 9 ?_; simp only [List.take_succ_cons,List.take_zero,List.drop_succ_cons,List.drop_zero]; repeat (go_big_quiet_step (fail))
     refine wpQuiet_nil ?_; rintro _ ⟨p,rfl⟩; obtain⟨⟨v1,Bp⟩,Bq,Aw,Aa⟩:=Q.out _ (aa F p); have Ax:=(G.out.below (aa F p)).set_ne (p:=⟨g,i * 4+3,none⟩) (show w.heap.size≠g by omega) (.int .i64 o.n); clear f0 f1; generalize ab F p=Br at *; have An:=hO Aw; have Ah:=hO Ax; have Ai:=A9.trans Aa; clear Aw Ax Af Q G Aa; have O:=hO (show bB base gl R w (.returned (.int .i64 0)) _ by rw [HF.out]; exact⟨rfl,Ai,fun _=>⟨_,_,_,_,_,_,_,_,An.out⟩⟩)
     clear An Ah HF; go_wp2; (try rw [am])
     (try go_wp2)
     go_ret; exact O.out
    .have Bt:r2=(i2:Int):=by rw [<-AL.out,hy]
     subst Bt; have BT:(0:Int)<=(i2:Int):=by omega
     have BU:(i2:Int)<(n:Int):=by rw [<-M.out]; omega
     have Bu:i≠i2:=fun e=>by
      subst e; rw [beq_iff_eq] at m At; omega
     obtain⟨K1,Ao⟩:∃ K1,L.keys.set i2 { L.keys[i2] with state:=3,since:=o.n }=K1:=⟨_,rfl⟩; have AC:dW o.n L.keys=K1:=(fw (p:=fun j:Led.Key=>j.state==2) (f:=fun j=>{ j with state:=3,since:=o.n }) AA AB At).trans Ao; have BM:K1.length=L.keys.length:=by rw [<-Ao,List.length_set]
     have AD:i<K1.length:=by omega
     have AE:(K1[i].state==1)=true:=by
      have:K1[i]=L.keys[i]:=by
       simp only [<-Ao]; exact List.getElem_set_ne (Ne.symm Bu) _
      rw [this]; exact m
     have AF:∀ x∈K1.take i,(x.state==1)=false:=by
      intro x hx; rw [<-Ao] at hx; rcases List.mem_or_eq_of_mem_set (by rw [List.take_set] at hx; exact hx) with h|h
      .exact Ae x h
      .subst h
       rfl
     have HF:Hid (R=({ L with keys:=K1.set i { K1[i] with state:=2,since:=o.n } },0)):=hO (by rw [N.out,AC,fw (p:=fun j:Led.Key=>j.state==1) AD AF AE]); have BN:=hO Ao; clear N hy B Ae m AB At AC AE AF Bu Ao BM; have hT:=D.out.twoK AA 3 o.n; obtain⟨Bo,⟨u1,AY⟩,AZ,Au,q⟩:=hT; have Av:Blk (wx.setCell ⟨g,i2 * 4+2,none⟩ (.int .i64 3)) w.heap.size (ah o sv kv) 47:=I.out.set_ne (p:=⟨g,i2 * 4+2,none⟩) (show w.heap.size≠g by omega) _; have Af:=hO Au; have Q:=hO q; have G:=hO Av; have Ba:wx.cell? ⟨gl,4,none⟩=some (.slice (some ⟨g,0,none⟩) n Z):=by rw [<-M.out]; exact D.out.blk.cell 4
     clear Au q Av; go_upto_region 33 with fail
     obtain⟨F,y⟩:∃ wa,wx.setCell ⟨g,i2 * 4+2,none⟩ (.int .i64 3)=wa:=⟨_,rfl⟩; rw [y] at Af Q G ⊢; clear y AY AZ Ba; have f0:∀ p,(ab F p).cell? ⟨gl,4,none⟩=some (.slice (some ⟨g,0,none⟩) n Z):=fun p=>by rw [<-M.out]; exact(Af.out.blk.below (aa F p)).cell 4
     have f1:∀ p,(ab F p).cell? ⟨w.heap.size,1,none⟩=some (.int .i64 o.n):=fun p=>(G.out.below (aa F p)).cell 1; refine bp 9 ?_; simp only [List.take_succ_cons,List.take_zero,List.drop_succ_cons,List.drop_zero]; repeat (go_big_quiet_step (fail))
     refine wpQuiet_nil ?_; rintro _ ⟨p,rfl⟩; obtain⟨⟨v1,Bp⟩,Bq,Aw,Aa⟩:=Q.out _ (aa F p); have Ax:=(G.out.below (aa F p)).set_ne (p:=⟨g,i2 * 4+3,none⟩) (show w.heap.size≠g by omega) (.int .i64 o.n); clear f0 f1; generalize ab F p=Br at *; have An:=hO Aw; have Ah:=hO Ax; have Ai:=A9.trans Aa; clear Aw Ax Af Q G Aa; obtain⟨wy,A5⟩:=eA (Br.setCell ⟨g,i2 * 4+3,none⟩ (.int .i64 o.n)); rw [A5,BN.out] at An; rw [A5] at Ah Ai; have Bv:=hO A5; clear A5; (try go_upto_region 34 with fail)
     (try rw [am])
     (try go_upto_region 34 with fail)
     rw [Bv.out]; clear Bv Bp Bq; have hT:=An.out.twoK AD 2 o.n; obtain⟨BV,⟨u2,BO⟩,BP,Bw,AG⟩:=hT; have By:Blk (wy.setCell ⟨g,i * 4+2,none⟩ (.int .i64 2)) w.heap.size (ah o sv kv) 47:=Ah.out.set_ne (p:=⟨g,i * 4+2,none⟩) (show w.heap.size≠g by omega) _; have Bb:=hO Bw; have Ay:=hO AG; have Aj:=hO By; have BQ:wy.cell? ⟨gl,4,none⟩=some (.slice (some ⟨g,0,none⟩) n Z):=by rw [<-M.out]; exact An.out.blk.cell 4
     clear Bw AG By; go_upto_region 35 with fail
     obtain⟨Ag,AH⟩:∃ wa,wy.setCell ⟨g,i * 4+2,none⟩ (.int .i64 2)=wa:=⟨_,rfl⟩; rw [AH] at Bb Ay Aj ⊢; clear AH BO BP BQ; have f0:∀ p,(ab Ag p).cell? ⟨gl,4,none⟩=some (.slice (some ⟨g,0,none⟩) n Z):=fun p=>by rw [<-M.out]; exact(Bb.out.blk.below (aa Ag p)).cell 4
     have f1:∀ p,(ab Ag p).cell? ⟨w.heap.size,1,none⟩=some (.int .i64 o.n):=fun p=>(Aj.out.below (aa Ag p)).cell 1; refine bp 9 ?_; simp only [List.take_succ_cons,List.take_zero,List.drop_succ_cons,List.drop_zero]; repeat (go_big_quiet_step (fail))
     refine wpQuiet_nil ?_; rintro _ ⟨p,rfl⟩; obtain⟨⟨v2,Cd⟩,Ce,Bz,AI⟩:=Ay.out _ (aa Ag p); have B0:=(Aj.out.below (aa Ag p)).set_ne (p:=⟨g,i * 4+3,none⟩) (show w.heap.size≠g by omega) (.int .i64 o.n); clear f0 f1; generalize ab Ag p=Cf at *; have B3:=hO Bz; have B4:=hO B0; have B5:=Ai.trans AI; clear Bz B0 Bb Ay Aj AI; have O:=hO (show bB base gl R w (.returned (.int .i64 0)) _ by rw [HF.out]; exact⟨rfl,B5,fun _=>⟨_,_,_,_,_,_,_,_,B3.out⟩⟩)
     clear B3 B4 HF; go_wp2; (try rw [am])
     (try go_wp2)
     go_ret; exact O.out
   .have hd:R=gK L o.name:=by
     rw [<-hR.out]; unfold does; rw [A3.out]; rfl
    have S:=hO hd; clear hd; rcases bg (fun k:Led.Key=>k.kid==o.name&&k.state==3) L.keys with⟨hx,ha⟩|⟨i,Ad,hx,ha,m,Ae⟩
    .have hr:r4<0:=by rw [<-AM.out,hx]; decide
     have N:Hid (R=(L,7)):=hO (by rw [S.out]; unfold gK; rw [ha]; rfl)
     clear hx ha S; go_wp2_with fail
     go_ret; exact C.out _ _ N.out (by decide) (Below.refl _ _)
    .have AX:r4=(i:Int):=by rw [<-AM.out,hx]
     subst AX; have BL:¬ (i:Int)<0:=by omega
     have K:i<n:=by rw [<-M.out]; exact Ad
     have N:Hid (R=({ L with keys:=L.keys.take i++L.keys.drop (i+1) },0)):=hO (by rw [S.out]; unfold gK; rw [ha,qr (p:=fun k:Led.Key=>k.kid==o.name&&k.state==3) Ad Ae m]; rfl)
     have hE:Es aq 4 wx AK n L.keys:=by
      obtain⟨A2,c2,e2,_,ea⟩:=dy D.out.rk.oK; injection e2 with e2 _ e3
      subst e2 e3; rw [M.out] at ea; exact ea
     obtain⟨A1,c1,A2,c2,B1,d1,w1,B2,d2,T,s1,s2,B6,BR,B7,B,B8⟩:=nP aP (by omega) (t:=27) (e:=42) jM rfl underlying27 (by omega) hE (cap_of D.out.rk.oK M.out) (by omega) K (lc (oF L.keys)); have Cg:w1.cell? ⟨gl,4,none⟩=some (.slice AK n Z):=(BR.cell (p:=⟨gl,4,none⟩) D.out.blk.lt).trans Al; have B9:=Ac.trans (B.mono Ac.size); have H2:=D.out.below B; have Ch:T.cell? ⟨gl,4,none⟩=some (.slice AK n Z):=(B.cell (p:=⟨gl,4,none⟩) D.out.blk.lt).trans Al; have Ci:T.frozen? ⟨gl,4,none⟩=false:=H2.blk.froz 4; have H3:=H2.setK (aG B8 D.out.hb); have A:Below base w (T.setCell ⟨gl,4,none⟩ (.slice B2 (n - 1) d2)):=(B9.mono HB.out).setCell (p:=⟨gl,4,none⟩) H2.hg _; have O:Hid (bB base gl R w (.returned (.int .i64 0)) (T.setCell ⟨gl,4,none⟩ (.slice B2 (n - 1) d2))):=hO (by
      rw [N.out]; exact⟨rfl,A,fun _=>⟨_,_,_,_,_,_,_,_,H3⟩⟩)
     have Cj:(i:Int)+1<=9223372036854775807:=by omega
     clear hx ha m Ae S hE H2 H3 A B8 Ad C D I; go_wp2_with (at_builtin; first|refine Lib.wpList_append_run _ rfl _ _ _ _ rfl _ _ rfl rfl _ _ B6 ?_|refine Lib.wpList_append_run _ rfl _ _ _ _ rfl _ _ rfl rfl _ _ B7 ?_)
     go_ret; exact O.out
end
section
open Go.RowKit Mem Led
theorem lR{l:List Txt} {s:Txt}:l.contains s=l.any (fun t=>t==s):=by
 rw [List.contains_eq_any_beq]
 congr 1
 funext y
 exact Bool.beq_comm
theorem scan_bans{L:Led.Ledger} (A:L.Wf) (s:Txt):aM ord s true L.bans=L.bans.eraseP (fun t=>t==s):=by
 rw [gZ,<-gW ord_cmp' A.b1]
 congr 1
 funext y
 rw [Bool.eq_iff_iff]
 simp [kx]
theorem pj{L:Led.Ledger} (A:L.Wf) (x:Led.Node):aM cN x true L.nodes=L.nodes.eraseP (fun n=>n.name==x.name):=by
 rw [gZ,<-gW qD A.n1]
 congr 1
 funext y
 rw [Bool.eq_iff_iff]
 simp [cN,kx]
theorem bans_fit{L:Led.Ledger} (A:L.Wf) {s:Txt} (h:L.bans.contains s=false):(ins ord s L.bans).length=L.bans.length+1:=by
 rw [jL ord_cmp' A.b1,show (L.bans.any fun y=>decide (ord y s=0))=L.bans.any (fun t=>t==s) from tB id s L.bans,<-lR,h]
 rfl
section
variable {L:Led.Ledger} {s:Txt} {n:Int}
theorem seq_none(h:(L.nodes.any fun d=>d.name==s)=false):iC L s n=(L,7):=by
 unfold iC
 have:L.nodes.find? (fun d=>d.name==s)=none:=by
  rw [List.find?_eq_none]; intro x hx; rw [List.any_eq_false] at h; exact h x hx
 rw [this]
theorem seq_at{i:Nat} {C:Int} (hi:i<L.nodes.length) (B:L.nodes[i].seq=C) (A:∀ x∈L.nodes.take i,(x.name==s)=false) (D:(L.nodes[i].name==s)=true) :
  iC L s n=if n<=C||n > 1099511627776 then (L,22) else ({ L with nodes:=L.nodes.set i { L.nodes[i] with seq:=n } },0):=by
 subst B
 unfold iC
 rw [mH (p:=fun d:Led.Node=>d.name==s) hi A D,fw (p:=fun d:Led.Node=>d.name==s) hi A D]
end
theorem rnames_any{base gl:Nat} {vE vN vB vJ vK vU:Value} {L:Led.Ledger} {E:List (Led.Entry × Value)} {U:List (Led.Bundle × Value)} (ok:Bool) (o:Led.Op) (sv kv:Value) (w:World) (H:RAt base gl w vE vN vB vJ vK vU L E U) (hL:L.Wf) (ho:Sized o) (hk:o.kind=6\/o.kind=7\/o.kind=8\/o.kind=14) :
  Calls prog 74 #[.pointer (some ⟨gl,0,none⟩),.agg (ah o sv kv).toArray] w (bB base gl (does ok L o) w):=by
 obtain⟨AN,G,rfl,fN,_⟩:=dy H.rk.oN
 obtain⟨AB,Y,rfl,fB,_⟩:=dy H.rk.oB
 have zN:=hL.n3
 have zB:=hL.b3
 obtain⟨W,hW⟩:=eA (w.alloc (.cells (ah o sv kv).toArray 47))
 have b0:Blk W w.heap.size (ah o sv kv) 47:=by rw [<-hW]; exact Blk.new w _ _
 have Ag:eD w W:=eF hW
 have HW:=hO hW
 clear hW
 obtain⟨CS,AA⟩:=eC ((ah o sv kv).toArray)
 rw [AA.out] at HW ⊢
 have HH:=hO (H.below Ag)
 have Am:=hO b0
 have HB:=hO H.hb
 have AM:gl<w.heap.size:=H.blk.lt
 obtain⟨kk,S⟩:=eC (o.kind)
 rw [S.out] at hk
 have HK:=hO hk
 obtain⟨R,hR⟩:=eC (does ok L o)
 rw [hR.out]
 have l:=hO fun W=>jG o.name W ho.nm
 obtain⟨N,hN⟩:=eA (L.nodes.length)
 obtain⟨M,hM⟩:=eA (L.bans.length)
 have HN:=hO hN
 have HM:=hO hM
 rw [hN] at zN HH fN
 rw [hM] at zB HH fB
 clear b0 H hk hN hM
 have Z:∀ p,(ab W p).cell? ⟨gl,2,none⟩=some (.slice AB M Y):=fun p=>(HH.out.blk.below (aa W p)).cell 2
 have b:∀ p,(ab W p).cell? ⟨w.heap.size,2,none⟩=some (.string (str o.name)):=fun p=>(Am.out.below (aa W p)).cell 2
 have HC:Hid (∀ p,Calls prog 117 #[.slice AB M Y,.string (str o.name)] (ab W p) fun e w'=>e=.returned (.bool (L.bans.contains o.name))/\Below (ab W p).heap.size (ab W p) w'):=hO fun p=>by
  obtain⟨A,n',c,e,_,ht⟩:=dg (HH.out.below (aa W p)).rk.oB; injection e with e1 e2 e3
  subst e1 e2 e3; exact(rhas_any _ _ _ L.bans o.name _ ht (by omega)).mono fun e w' ⟨h1,h2⟩=>⟨h1,h2▸Below.refl _ _⟩
 go_enter func74,ntmps74
 go_upto_region 1 with fail
 rw [HW.out]
 clear HW
 refine az ?_
 repeat (go_big_quiet_step (first|(go_at_call 117; exact aw (HC.out _))|fail))
 refine wpQuiet_nil ?_
 rintro _ ⟨p,rfl⟩
 have B:=aa W p
 have An:=Ag.trans (B.mono Ag.size)
 have Ah:=hO (HH.out.below B)
 have Ao:=hO (Am.out.below B)
 generalize ab W p=w1 at *
 clear Z b HC HH Am B Ag
 obtain⟨bn,f⟩:=eC (L.bans.contains o.name)
 rw [f.out]
 obtain⟨r,hr⟩:=eC (bc (fun d:Led.Node=>d.name==o.name) L.nodes)
 have Z:∀ p,(ab w1 p).cell? ⟨gl,1,none⟩=some (.slice AN N G):=fun p=>(Ah.out.blk.below (aa w1 p)).cell 1
 have b:∀ p,(ab w1 p).cell? ⟨w.heap.size,2,none⟩=some (.string (str o.name)):=fun p=>(Ao.out.below (aa w1 p)).cell 2
 have HE:Hid (∀ w',eD w1 w'->Es ac 5 w' AN N L.nodes):=hO fun w' k=>by
  obtain⟨A,n',c,e,_,ht⟩:=aY (Ah.out.below k).rk.oN; injection e with e1 e2 e3
  subst e1 e2 e3; exact ht
 have HC:Hid (∀ p,Calls prog 118 #[.slice AN N G,.string (str o.name)] (ab w1 p) fun e w'=>e=.returned (.int .i64 r)/\Below (ab w1 p).heap.size (ab w1 p) w'):=hO fun p=>by
  rw [<-hr.out]; exact ml AN N G L.nodes o.name _ (HE.out _ (aa w1 p)) (by omega)
 go_upto_region 2 with fail
 refine az ?_
 repeat (go_big_quiet_step (first|(go_at_call 118; exact aw (HC.out _))|fail))
 refine wpQuiet_nil ?_
 rintro _ ⟨p,rfl⟩
 have B:=aa w1 p
 have C:=An.trans (B.mono An.size)
 have D:=hO (Ah.out.below B)
 have I:=hO (Ao.out.below B)
 have Ap:Hid (∀ w',Below (ab w1 p).heap.size (ab w1 p) w'->Es ac 5 w' AN N L.nodes):=hO fun w' k=>HE.out w' (B.trans (k.mono B.size))
 generalize ab w1 p=F at *
 clear Z b HC Ah Ao B An HE
 have k0:F.cell? ⟨w.heap.size,0,none⟩=some (.int .i64 kk):=(I.out.cell 0).trans (by rw [<-S.out]; rfl)
 have k1:F.cell? ⟨w.heap.size,2,none⟩=some (.string (str o.name)):=I.out.cell 2
 have k2:F.cell? ⟨gl,2,none⟩=some (.slice AB M Y):=D.out.blk.cell 2
 have AC:=hO (gV (fun d:Led.Node=>d.name==o.name) L.nodes)
 have T:Hid (∀ (g:Bool) (V:World),eD F V->Calls prog 120 #[.slice AB M Y,.string (str o.name),.bool g] V fun e w'=>∃ v,e=.returned v/\GR V w'/\w'.ownsRow base 9 1 v (aM ord o.name g L.bans).length (af aj (aM ord o.name g L.bans))):=hO fun g V k=>by
  have ht:Es aj 1 V AB M L.bans:=by
   obtain⟨A,n',c,e,_,ht⟩:=aY (D.out.below k).rk.oB; injection e with e1 e2 e3
   subst e1 e2 e3; exact ht
  refine(scanStr_any AB M Y L.bans o.name g V ht (by omega) (fun y _=>fP y) (fP o.name)).mono ?_; rintro e w' ⟨v,he,ho,Aq⟩; exact⟨v,he,GR.of Aq,aG ho (Nat.le_trans D.out.hb k.size)⟩
 obtain⟨z,Ar⟩:∃ z:Led.Node,Hid (z=⟨o.name,[],0,0,[]⟩):=⟨_,hO rfl⟩
 have X:Hid (∀ (Ax:Nat) (A':Option Addr) (c':Nat) (V:World),(∃ vE vB vJ vK vU L2 E U,RAt base Ax V vE (.slice A' N c') vB vJ vK vU L2 E U/\L2.nodes=L.nodes)->Calls prog 119 #[.slice A' N c',.agg #[.string (str o.name),.string ⟨#[]⟩,.int .i64 0,.int .i64 0,.string ⟨#[]⟩],.bool true] V fun e w'=>∃ v,e=.returned v/\GR V w'/\w'.ownsRow base 40 5 v (aM cN z true L.nodes).length (af ac (aM cN z true L.nodes))):=hO fun Ax A' c' V ⟨vE,vB,vJ,vK,vU,L2,E,U,H5,hl⟩=>by
  have ht:Es ac 5 V A' N L.nodes:=by
   obtain⟨A,n',c,e,_,ht⟩:=aY H5.rk.oN; injection e with e1 e2 e3
   subst e1 e2 e3; rw [hl] at ht; exact ht
  have h:=nO A' N c' L.nodes z true V ht (by omega) (fun y _=>dt y) (dt z); rw [Ar.out] at h ⊢; refine Calls.mono h ?_; rintro e w' ⟨v,he,ho,Aq⟩; exact⟨v,he,GR.of Aq,aG ho H5.hb⟩
 rcases HK.out with rfl|rfl|rfl|rfl
 .have J:=hO (show R=cX L o.name by rw [<-hR.out]; unfold does; rw [S.out]; rfl)
  clear hR S HK Ap
  cases Ab:Ids.agent o.name
  .have K:=hO (show R=(L,1) by rw [J.out]; unfold cX; rw [Ab]; rfl)
   have h:=l.out F; rw [Ab] at h; clear J l T X Ab; go_wp2_with fail
   refine h.mono ?_; rintro e w3 ⟨rfl,rfl⟩; go_wp2; go_ret; exact bB.err (C.mono HB.out) K.out (by decide)
  .have h:=l.out F
   rw [Ab] at h; have As:=hO Ab; clear l Ab
   cases bn
   .by_cases h8:8<=M
    .have K:=hO (show R=(L,6) by rw [J.out]; unfold cX put; rw [As.out,f.out,bans_fit hL f.out,HM.out,if_neg (show ¬ M+1<=8 by omega)]; rfl)
     have AD:(8:Int)<=(M:Int):=by omega
     clear J T X; go_wp2_with fail
     refine h.mono ?_; rintro e w3 ⟨rfl,rfl⟩; go_wp2; go_ret; exact bB.err (C.mono HB.out) K.out (by decide)
    .have K:=hO (show R=({ L with bans:=aM ord o.name false L.bans,nodes:=aM cN z true L.nodes },0) by rw [J.out,pj hL,fS ord_cmp' hL.b1,Ar.out]; unfold cX put; rw [As.out,f.out,bans_fit hL f.out,HM.out,if_pos (show M+1<=8 by omega)]; rfl)
     have AD:¬ (8:Int)<=(M:Int):=by omega
     clear J; go_wp2_with fail
     refine h.mono ?_; rintro e w3 ⟨rfl,AE⟩; subst AE; clear h; go_upto_region 12 with fail
     have Z:∀ p,(ab F p).cell? ⟨gl,2,none⟩=some (.slice AB M Y):=fun p=>(D.out.blk.below (aa F p)).cell 2; have b:∀ p,(ab F p).cell? ⟨w.heap.size,2,none⟩=some (.string (str o.name)):=fun p=>(I.out.below (aa F p)).cell 2; refine aN [([0,1,2,3,4,5,6],(7,fun v w'=>w'.ownsRow base 9 1 v (aM ord o.name false L.bans).length (af aj (aM ord o.name false L.bans))))] [8,9,10] (by kernel_rfl) (by kernel_rfl) (by
      intro x hx; simp only [List.mem_cons,List.not_mem_nil,or_false] at hx; subst hx; exact ax fun v w w' k h=>ae h k eG) ?_
     refine aH ?_; simp only [pick,List.getD_cons_zero,List.getD_cons_succ]; repeat (go_big_quiet_step (fail))
     refine wpQuiet_nil ?_; refine⟨_,rfl,rfl,?_,?_⟩
     .intro V m _
      go_simp
      exact⟨rfl,T.out false V m.below⟩
     rintro v1 - w6 Ac hF; obtain⟨_,q⟩:=hF; obtain⟨A9,c9,rfl,_,_⟩:=ak q; have j:=Ac.below; have O:=D.out.below j; have q6:w6.cell? ⟨gl,2,none⟩=some (.slice AB M Y):=O.blk.cell 2; have Ay:=O.blk.froz 2; have H7:=O.setB q; have At:=(I.out.below j).set_ne (p:=⟨gl,2,none⟩) (show w.heap.size≠gl by omega) (.slice A9 (aM ord o.name false L.bans).length c9); have Az:Below base w (w6.setCell ⟨gl,2,none⟩ (.slice A9 (aM ord o.name false L.bans).length c9)):=((C.trans (j.mono C.size)).mono HB.out).setCell (p:=⟨gl,2,none⟩) O.hg _; obtain⟨w7,Au⟩:=eA (w6.setCell ⟨gl,2,none⟩ (.slice A9 (aM ord o.name false L.bans).length c9)); rw [Au] at H7 At Az; have AF:=hO Au; have Ad:=hO H7; have A0:=hO At; clear Z b T D O I Ac j q H7 At Au C k0 k1 k2; go_wp2; (try rw [am])
     rw [AF.out]; clear q6 Ay; have Z:∀ p,(ab w7 p).cell? ⟨gl,1,none⟩=some (.slice AN N G):=fun p=>(Ad.out.blk.below (aa w7 p)).cell 1; have b:∀ p,(ab w7 p).cell? ⟨w.heap.size,2,none⟩=some (.string (str o.name)):=fun p=>(A0.out.below (aa w7 p)).cell 2; go_upto_region 13 with fail
     refine aN [([0,1,2,3,4,5,6,7],(8,fun v w'=>w'.ownsRow base 40 5 v (aM cN z true L.nodes).length (af ac (aM cN z true L.nodes))))] [9,10,11] (by kernel_rfl) (by kernel_rfl) (by
      intro x hx; simp only [List.mem_cons,List.not_mem_nil,or_false] at hx; subst hx; exact ax fun v w w' k h=>ae h k eG) ?_
     refine aH ?_; simp only [pick,List.getD_cons_zero,List.getD_cons_succ]; repeat (go_big_quiet_step (fail))
     refine wpQuiet_nil ?_; refine⟨_,rfl,rfl,?_,?_⟩
     .intro V m _
      go_simp
      exact⟨rfl,X.out gl AN G V ⟨_,_,_,_,_,_,_,_,Ad.out.below m.below,rfl⟩⟩
     rintro v2 - w8 Ae hF; obtain⟨_,s⟩:=hF; obtain⟨A8,c8,rfl,_,_⟩:=ak s; have t:=Ae.below; have H8:=Ad.out.below t; have q8:w8.cell? ⟨gl,1,none⟩=some (.slice AN N G):=H8.blk.cell 1; have AG:=H8.blk.froz 1; have H9:=H8.setN s; have Q:Hid (bB base gl R w (.returned (.int .i64 0)) (w8.setCell ⟨gl,1,none⟩ (.slice A8 (aM cN z true L.nodes).length c8))):=hO (by
      rw [K.out]; exact⟨rfl,(Az.trans (t.mono Ad.out.hb)).setCell (p:=⟨gl,1,none⟩) H8.hg _,fun _=>⟨_,_,_,_,_,_,_,_,H9⟩⟩)
     clear Z b H8 H9 s Ae t X Ad A0; go_wp2; (try rw [am])
     (try go_wp2)
     go_ret; exact Q.out
   .have K:=hO (show R=(L,8) by rw [J.out]; unfold cX; rw [As.out,f.out]; rfl)
    clear J T X; go_wp2_with fail
    refine h.mono ?_; rintro e w3 ⟨rfl,rfl⟩; go_wp2; go_ret; exact bB.err (C.mono HB.out) K.out (by decide)
 .have J:=hO (show R=gJ L o.name by rw [<-hR.out]; unfold does; rw [S.out]; rfl)
  clear hR S HK Ap X l
  cases bn
  .have K:=hO (show R=(L,7) by rw [J.out]; unfold gJ; rw [<-lR,f.out]; rfl)
   clear J T; go_wp2_with fail
   go_ret; exact bB.err (C.mono HB.out) K.out (by decide)
  .have K:=hO (show R=({ L with bans:=aM ord o.name true L.bans },0) by rw [J.out,scan_bans hL]; unfold gJ; rw [<-lR,f.out]; rfl)
   clear J; have Z:∀ p,(ab F p).cell? ⟨gl,2,none⟩=some (.slice AB M Y):=fun p=>(D.out.blk.below (aa F p)).cell 2; have b:∀ p,(ab F p).cell? ⟨w.heap.size,2,none⟩=some (.string (str o.name)):=fun p=>(I.out.below (aa F p)).cell 2; go_upto_region 17 with fail
   refine aN [([0,1,2,3,4,5,6],(7,fun v w'=>w'.ownsRow base 9 1 v (aM ord o.name true L.bans).length (af aj (aM ord o.name true L.bans))))] [8,9,10] (by kernel_rfl) (by kernel_rfl) (by
    intro x hx; simp only [List.mem_cons,List.not_mem_nil,or_false] at hx; subst hx; exact ax fun v w w' k h=>ae h k eG) ?_
   refine aH ?_; simp only [pick,List.getD_cons_zero,List.getD_cons_succ]; repeat (go_big_quiet_step (fail))
   refine wpQuiet_nil ?_; refine⟨_,rfl,rfl,?_,?_⟩
   .intro V m _
    go_simp
    exact⟨rfl,T.out true V m.below⟩
   rintro v1 - w6 Ac hF; obtain⟨_,q⟩:=hF; obtain⟨A9,c9,rfl,_,_⟩:=ak q; have j:=Ac.below; have O:=D.out.below j; have q6:w6.cell? ⟨gl,2,none⟩=some (.slice AB M Y):=O.blk.cell 2; have Ay:=O.blk.froz 2; have H7:=O.setB q; have Q:Hid (bB base gl R w (.returned (.int .i64 0)) (w6.setCell ⟨gl,2,none⟩ (.slice A9 (aM ord o.name true L.bans).length c9))):=hO (by
    rw [K.out]; exact⟨rfl,((C.trans (j.mono C.size)).mono HB.out).setCell (p:=⟨gl,2,none⟩) O.hg _,fun _=>⟨_,_,_,_,_,_,_,_,H7⟩⟩)
   clear Z b T D O I Ac j q H7 k0 k1 k2; go_wp2; (try rw [am])
   (try go_wp2)
   go_ret; exact Q.out
 .have J:=hO (show R=eX L o.name by rw [<-hR.out]; unfold does; rw [S.out]; rfl)
  have Af:=AC.out; rw [hr.out] at Af; have HA:=hO Af; clear hR S HK Ap T l Af; by_cases AH:r<0
  .have K:=hO (show R=(L,7) by rw [J.out]; unfold eX; rw [<-HA.out,decide_eq_false (by omega)]; rfl)
   clear J X; go_wp2_with fail
   go_ret; exact bB.err (C.mono HB.out) K.out (by decide)
  .have K:=hO (show R=({ L with nodes:=aM cN z true L.nodes },0) by rw [J.out,pj hL,Ar.out]; unfold eX; rw [<-HA.out,decide_eq_true (by omega)]; rfl)
   have AI:=C.mono HB.out; clear J k1 k2; have Z:∀ p,(ab F p).cell? ⟨gl,1,none⟩=some (.slice AN N G):=fun p=>(D.out.blk.below (aa F p)).cell 1; have b:∀ p,(ab F p).cell? ⟨w.heap.size,2,none⟩=some (.string (str o.name)):=fun p=>(I.out.below (aa F p)).cell 2; go_upto_region 21 with fail
   refine aN [([0,1,2,3,4,5,6,7],(8,fun v w'=>w'.ownsRow base 40 5 v (aM cN z true L.nodes).length (af ac (aM cN z true L.nodes))))] [9,10,11] (by kernel_rfl) (by kernel_rfl) (by
    intro x hx; simp only [List.mem_cons,List.not_mem_nil,or_false] at hx; subst hx; exact ax fun v w w' k h=>ae h k eG) ?_
   refine aH ?_; simp only [pick,List.getD_cons_zero,List.getD_cons_succ]; repeat (go_big_quiet_step (fail))
   refine wpQuiet_nil ?_; refine⟨_,rfl,rfl,?_,?_⟩
   .intro V m _
    go_simp
    exact⟨rfl,X.out gl AN G V ⟨_,_,_,_,_,_,_,_,D.out.below m.below,rfl⟩⟩
   rintro v2 - w8 Ae hF; obtain⟨_,s⟩:=hF; obtain⟨A8,c8,rfl,_,_⟩:=ak s; have t:=Ae.below; have H8:=D.out.below t; have q8:w8.cell? ⟨gl,1,none⟩=some (.slice AN N G):=H8.blk.cell 1; have AG:=H8.blk.froz 1; have H9:=H8.setN s; have Q:Hid (bB base gl R w (.returned (.int .i64 0)) (w8.setCell ⟨gl,1,none⟩ (.slice A8 (aM cN z true L.nodes).length c8))):=hO (by
    rw [K.out]; exact⟨rfl,(AI.trans (t.mono D.out.hb)).setCell (p:=⟨gl,1,none⟩) H8.hg _,fun _=>⟨_,_,_,_,_,_,_,_,H9⟩⟩)
   clear Z b H8 H9 s Ae t X D I; go_wp2; (try rw [am])
   (try go_wp2)
   go_ret; exact Q.out
 .have J:=hO (show R=iC L o.name o.n by rw [<-hR.out]; unfold does; rw [S.out]; rfl)
  clear hR S HK T l X; rcases bg (fun d:Led.Node=>d.name==o.name) L.nodes with⟨hx,ha⟩|⟨i,Ai,hx,ha,A1,A2⟩
  .have AH:r<0:=by rw [<-hr.out,hx]; decide
   have K:=hO (J.out.trans (seq_none (n:=o.n) ha)); clear hx ha J; go_wp2_with fail
   go_ret; exact bB.err (C.mono HB.out) K.out (by decide)
  .have AJ:r=(i:Int):=by rw [<-hr.out,hx]
   subst AJ; have AO:¬ (i:Int)<0:=by omega
   have AP:(i:Int)<(N:Int):=by rw [<-HN.out]; omega
   obtain⟨g,cg,eg,AQ,Av,Aw⟩:=D.out.turnN Ai; injection eg with eg1 _ eg3
   subst eg1 eg3; have Aj:=hO fun (w':World) (k:eD F w')=>(D.out.below k).turnN Ai; obtain⟨sq,A3⟩:=eC (L.nodes[i].seq); have HS:=hO (J.out.trans (seq_at (n:=o.n) Ai A3.out A2 A1)); have Z:∀ p,(ab F p).cell? ⟨gl,1,none⟩=some (.slice (some ⟨g,0,none⟩) N G):=fun p=>(D.out.blk.below (aa F p)).cell 1; have b:∀ p,(ab F p).cell? ⟨w.heap.size,1,none⟩=some (.int .i64 o.n):=fun p=>(I.out.below (aa F p)).cell 1; have f2:∀ p,(ab F p).cell? ⟨g,i * 5+3,none⟩=some (.int .i64 sq):=fun p=>by
    obtain⟨g',c',e',_,Ak,_⟩:=Aj.out _ (aa F p); injection e' with e1 _ _
    injection e1 with e1
    injection e1 with e1
    subst e1; rw [<-A3.out]; exact(Ak 3 _ rfl).1
   have AK:((o.n<=sq)\/(¬ o.n<=sq/\1099511627776<o.n))\/(¬ o.n<=sq/\¬ 1099511627776<o.n):=by omega
   clear Av Aw hx ha A1 A2 J k1 k2; go_upto_region 25 with fail
   refine az ?_; rcases AK with(q1|⟨q1,q2⟩)|⟨q1,q2⟩
   .have K:Hid (R=(L,22)):=hO (by rw [HS.out,decide_eq_true q1]; rfl)
    clear HS Aj; repeat (go_big_quiet_step (fail))
    refine wpQuiet_nil ?_; rintro _ ⟨p,rfl⟩; have B:=aa F p; generalize ab F p=w3 at *; clear Z b f2; go_wp2_with fail
    go_ret; exact bB.err ((C.trans (B.mono C.size)).mono HB.out) K.out (by decide)
   .have K:Hid (R=(L,22)):=hO (by rw [HS.out,decide_eq_false q1,show decide (o.n > 1099511627776)=true from decide_eq_true q2]; rfl)
    clear HS Aj; repeat (go_big_quiet_step (fail))
    refine wpQuiet_nil ?_; rintro _ ⟨p,rfl⟩; have B:=aa F p; generalize ab F p=w3 at *; clear Z b f2; go_wp2_with fail
    go_ret; exact bB.err ((C.trans (B.mono C.size)).mono HB.out) K.out (by decide)
   .have K:Hid (R=({ L with nodes:=L.nodes.set i { L.nodes[i] with seq:=o.n } },0)):=hO (by rw [HS.out,decide_eq_false q1,show decide (o.n > 1099511627776)=false from decide_eq_false q2]; rfl)
    clear HS; repeat (go_big_quiet_step (fail))
    refine wpQuiet_nil ?_; rintro _ ⟨p,rfl⟩; have B:=aa F p; have AL:=(C.trans (B.mono C.size)).mono HB.out; have Al:=hO (D.out.below B); have A4:=hO (I.out.below B); generalize ab F p=w3 at *; clear Z b f2 Aj; have Z:∀ p,(ab w3 p).cell? ⟨gl,1,none⟩=some (.slice (some ⟨g,0,none⟩) N G):=fun p=>(Al.out.blk.below (aa w3 p)).cell 1; have b:∀ p,(ab w3 p).cell? ⟨w.heap.size,1,none⟩=some (.int .i64 o.n):=fun p=>(A4.out.below (aa w3 p)).cell 1; go_upto_region 27 with fail
    refine bp 9 ?_; simp only [List.take_succ_cons,List.take_zero,List.drop_succ_cons,List.drop_zero]; repeat (go_big_quiet_step (fail))
    refine wpQuiet_nil ?_; rintro _ ⟨p,rfl⟩; have A5:=aa w3 p; obtain⟨g',c',e',_,Ak,Aa⟩:=(Al.out.below A5).turnN Ai; injection e' with e1 _ e3
    injection e1 with e1
    injection e1 with e1
    subst e1 e3; obtain⟨k4,k5⟩:=Ak 3 _ rfl; obtain⟨H9,A6⟩:=Aa 3 (.int .i64 o.n) { L.nodes[i] with seq:=o.n } (by omega) rfl; have Q:Hid (bB base gl R w (.returned (.int .i64 0)) ((ab w3 p).setCell ⟨g,i * 5+3,none⟩ (.int .i64 o.n))):=hO (by
     rw [K.out]; exact⟨rfl,(AL.trans (A5.mono Al.out.hb)).trans A6,fun _=>⟨_,_,_,_,_,_,_,_,H9⟩⟩)
    obtain⟨u9,A7⟩:∃ u,(nm L.nodes[i].seq)=u:=⟨_,rfl⟩; have k4:(ab w3 p).cell? ⟨g,i * 5+3,none⟩=some u9:=by rw [<-A7]; exact k4
    clear Z b H9 A6 Al A4 Aa Ak A7; generalize ab w3 p=w4 at *; go_wp2; (try rw [am])
    (try go_wp2)
    go_ret; exact Q.out
end
section
open Go.RowKit Mem Led
theorem rmay_any(b:Led.Bundle) (kv:Value) (w:World) (Ax:a8 aV 2 w kv b.keys) (hd:b.domain.length<=9223372036854775807) (hk:b.keys.length<=1000) :
  Calls prog 122 #[.agg (ai (b,kv)).toArray] w fun e w'=>e=.returned (.bool (aD b))/\eD w w':=by
 obtain⟨A,n,c,rfl,hf,hv⟩:=Ax
 have hl:=hv.len cm (by omega)
 obtain⟨W,hW⟩:=eA (w.alloc (.cells ([.string (str b.domain),.int .i64 b.number,.slice A n c]:List Value).toArray 45))
 have B:Blk W w.heap.size [.string (str b.domain),.int .i64 b.number,.slice A n c] 45:=by rw [<-hW]; exact Blk.new _ _ _
 have D:eD w W:=eF hW
 have J:=(rdomain_any b.domain W hd).mono fun e w' h=>(⟨h.1,h.2▸Below.refl _ _⟩:e=.returned (.bool (Ids.domain b.domain))/\eD W w')
 have c0:W.cell? ⟨w.heap.size,0,none⟩=some (.string (str b.domain)):=B.cell 0
 have HW:=hO hW
 have Ay:∀ o,eD w (W.alloc o):=fun o=>D.alloc D.size _
 clear hW
 show Calls prog 122 #[.agg #[.string (str b.domain),.int .i64 b.number,.slice A n c]] w _
 by_cases C:(Ids.domain b.domain&&aI b.number 0 1099511627776&&decide (b.keys.length<=8))=true
 .simp only [Bool.and_eq_true,decide_eq_true_eq] at C
  obtain⟨⟨T,f⟩,h3⟩:=C; rw [T] at J; have AG:0<=b.number/\b.number<=1099511627776:=by unfold aI at f; simpa using f
  have Az:n<=8:=by omega
  have l:Hid (aD b=(b.keys.all (fun k=>k.x.length==32&&k.kid==Sha.bZ k.x)&&decide (b.keys.map Jwk.kid).Nodup)):=hO (by
   unfold aD; rw [T,f,decide_eq_true h3]; rfl)
  clear T f; go_enter func122,ntmps122
  go_upto_region 1 with fail
  rw [show w.alloc (.cells #[.string (str b.domain),.int .i64 b.number,.slice A n c] 45)=W from HW.out]; go_wp2_with fail
  refine J.mono ?_; rintro e Q ⟨rfl,E⟩; have U:=B.below E; have d1:Q.cell? ⟨w.heap.size,1,none⟩=some (.int .i64 b.number):=U.cell 1; have d2:Q.cell? ⟨w.heap.size,2,none⟩=some (.slice A n c):=U.cell 2; have t:eD w Q:=D.trans (E.mono D.size); clear J c0; have Am:=hO U; clear Ay D B HW U; go_wp2_with fail
  go_loopw [4] (fun i wx=>∃ j:Nat,j<=n/\i=.int .i64 (j:Int)/\eD Q wx/\Hid ((b.keys.take j).all (fun k=>k.x.length==32&&k.kid==Sha.bZ k.x)=true/\((b.keys.take j).map Jwk.kid).Nodup)) (fun i _=>n - (intOf i).toNat)
  case atStart=>exact⟨0,by omega,rfl,Below.refl _ _,hO ⟨rfl,List.nodup_nil⟩⟩
  case round =>
   clear d1 d2; obtain⟨j,hj,rfl,L,u⟩:=hrel; obtain⟨wx,A0⟩:∃ wx,wx=wr:=⟨_,rfl⟩; subst A0; have m:eD w wx:=t.trans (L.mono t.size); have d2:wx.cell? ⟨w.heap.size,2,none⟩=some (.slice A n c):=(Am.out.below L).cell 2; by_cases AH:j<n
   .have Ab:j<b.keys.length:=by omega
    obtain⟨bk,ok,rfl,AI,An⟩:=p8 hv Ab; have y:=An wx m; have R:=hO (show b.keys.take (j+1)=b.keys.take j++[b.keys[j]] by rw [List.take_add_one,List.getElem?_eq_getElem Ab]; rfl)
    have M:=hO (List.getElem_mem Ab); generalize b.keys[j]=k at *; have bn:=Blk.new wx [.string ⟨#[]⟩,.string ⟨#[]⟩] 54; obtain⟨Ac,BK⟩:=mR bn rfl (vs:=[.string (str k.kid),.string (str k.x)]) rfl (lP k); obtain⟨d,Ad⟩:=eA ((wx.alloc (.cells ([.string ⟨#[]⟩,.string ⟨#[]⟩]:List Value).toArray 54)).setCells wx.heap.size 0 [.string (str k.kid),.string (str k.x)]); have Ao:Chg [] wx d:=by rw [<-Ad]; exact((Chg.refl _ _).alloc _).setCells _ (.inr eG)
    rw [Ad] at Ac BK; have Ae:=Ao.below (fun _ h=>by cases h); have I:eD w d:=m.trans (Ae.mono m.size); have Af:(qa (.pointer (some ⟨bk,ok+j * 2,none⟩))).run prog wx=.ok (.agg #[.string (str k.kid),.string (str k.x)]) wx:=y; have Ap:(stJwk (.pointer (some ⟨wx.heap.size,0,none⟩)) (.agg #[.string (str k.kid),.string (str k.x)])).run prog (wx.alloc (.cells #[.string ⟨#[]⟩,.string ⟨#[]⟩] 54))=.ok () d:=Ac; have AJ:(j:Int)<(n:Int):=by omega
    have AK:=aJ k.x; have f0:∀ p,(ab d p).cell? ⟨wx.heap.size,0,none⟩=some (.string (str k.kid)):=fun p=>(BK.below (aa d p)).cell 0; have f1:∀ p,(ab d p).cell? ⟨wx.heap.size,1,none⟩=some (.string (str k.x)):=fun p=>(BK.below (aa d p)).cell 1; clear An y Ac bn Ao Ad; by_cases V:k.x.length=32
    .have A1:((k.x.length:Int) != 32)=false:=by simp; omega
     have F:Hid (∀ (g c:Nat) (K:World),eD d K->Bs K K.heap.size (some ⟨g,0,none⟩) 32 k.x->Calls prog 25 #[.slice (some ⟨g,0,none⟩) 32 c] K fun e w'=>e=.returned (.string (str (Sha.bZ k.x)))/\eD K w'):=hO fun g c K _ h =>
      rI (some ⟨g,0,none⟩) 32 c k.x K h (by omega)
     obtain⟨nm,Ag⟩:=eC (Sha.bZ k.x); rw [Ag.out] at F; have F:Hid (∀ (g c:Nat) (K:World),eD d K->Bs K K.heap.size (some ⟨g,0,none⟩) 32 k.x->Calls prog 25 #[.slice (some ⟨g,0,none⟩) 32 c] K (fun x A2=>∃ v,x=.returned v/\GR K A2/\v=.string (str nm))):=hO fun g c K T f=>(F.out g c K T f).mono fun e w' ⟨he,hb⟩=>⟨_,he,GR.of hb,rfl⟩; obtain⟨X,Aa⟩:∃ X:Bool,Hid ((!(k.kid==nm))=X):=⟨_,hO rfl⟩; go_upto_region 8 with fail
     refine aN [([0,1,2,3,4,5,6,7,8],(9,fun v w'=>∃ g c,v=.slice (some ⟨g,0,none⟩) 32 c/\Bs w' w'.heap.size (some ⟨g,0,none⟩) 32 k.x)),([],(10,fun v w'=>v=.string (str (nm)))),([11],(12,fun v w'=>v=.bool X))] [] (by kernel_rfl) (by kernel_rfl) (by
      intro x hx; simp only [List.mem_cons,List.not_mem_nil,or_false] at hx; rcases hx with rfl|rfl|rfl
      .exact ax fun v w w' hb ⟨g,c,e,h⟩=>⟨g,c,e,dF h hb⟩
      .exact ax fun v w w' hb h=>h
      .exact ax fun v w w' hb h=>h) ?_
     refine aH ?_; simp only [pick,List.getD_cons_zero,List.getD_cons_succ]; repeat (go_big_quiet_step (fail))
     refine wpQuiet_nil ?_; refine⟨_,rfl,rfl,?_,?_⟩
     .intro w5 r _
      obtain⟨wc,cc,A3,s,A4⟩:=kO k.x w5; rw [V] at A3 s; go_simp
      exact⟨GR.of A4,_,⟨cc,rfl⟩,s⟩
     rintro v1 ⟨_,g1,c1,rfl,_⟩; refine aH ?_; simp only [pick,List.getElem_toArray,List.getElem_cons_succ,List.getElem_cons_zero,Act.put,List.setIfInBounds_toArray,List.set_cons_zero,List.set_cons_succ]; refine wpQuiet_nil ?_; refine⟨_,rfl,rfl,?_,?_⟩
     .rintro w5 r ⟨_,g2,c2,he,s⟩
      injection he with he1 he2 he3
      injection he1 with he1
      injection he1 with he1
      subst he1; go_simp
      exact⟨rfl,F.out g1 _ w5 r.below s⟩
     rintro v2 ⟨_,rfl⟩; refine aH ?_; simp only [pick,List.getD_cons_zero,List.getD_cons_succ,List.getElem_toArray,List.getElem_cons_succ,List.getElem_cons_zero,Act.put,List.setIfInBounds_toArray,List.set_cons_zero,List.set_cons_succ]
     cases Y:(k.kid==nm)
     .have H:Hid (aD b=false):=hO (by
       rw [l.out]; have:b.keys.all (fun k=>k.x.length==32&&k.kid==Sha.bZ k.x)=false:=by
        rw [List.all_eq_false]; exact⟨k,M.out,by rw [Ag.out,Y]; simp⟩
       rw [this]; rfl)
      have Ah:X=true:=by rw [<-Aa.out,Y]; rfl
      subst Ah; repeat (go_big_quiet_step (fail))
      refine wpQuiet_nil ?_; refine⟨_,rfl,rfl,?_,?_⟩
      .intro w5 r _
       go_simp
       exact⟨GR.of (Below.refl _ _),by simp⟩
      rintro v3 ⟨_,rfl⟩ w6 Z hF; have S:=I.trans (Z.below.mono I.size); clear f0 f1 F u R hF Z; go_wp2_with fail
      (try rw [am])
      (try go_wp2_with fail)
      go_ret; exact⟨by rw [H.out]; rfl,S⟩
     .have Ah:X=false:=by rw [<-Aa.out,Y]; rfl
      subst Ah; repeat (go_big_quiet_step (fail))
      refine wpQuiet_nil ?_; refine⟨_,rfl,rfl,?_,?_⟩
      .intro w5 r _
       go_simp
       exact⟨GR.of (Below.refl _ _),by simp⟩
      rintro v3 ⟨_,rfl⟩ w6 Z hF; have Ai:=Z.below; have S:=I.trans (Ai.mono I.size); have A5:=hO (BK.below Ai); have N:eD Q w6:=L.trans ((Ae.trans (Ai.mono Ae.size)).mono L.size); have Aq:=hO (show (k.x.length==32&&k.kid==Sha.bZ k.x)=true by rw [Ag.out,Y,V]; rfl)
      clear f0 f1 F hF Z Ap Af d2 Y; go_wp2_with fail
      (try rw [am])
      (try go_wp2_with fail)
      go_loopw [6] (fun i wy=>∃ q:Nat,q<=j/\i=.int .i64 (q:Int)/\eD w6 wy/\Hid (∀ x∈b.keys.take q,(x.kid==k.kid)=false)) (fun i _=>j - (intOf i).toNat)
      case atStart=>exact⟨0,by omega,rfl,Below.refl _ _,hO (by simp)⟩
      case round =>
       obtain⟨q,hq,rfl,G,HQ⟩:=hrel; obtain⟨wy,A6⟩:∃ wy,wy=wr:=⟨_,rfl⟩; subst A6; have O:eD w wy:=S.trans (G.mono S.size); by_cases A7:q<j
       .have A8:(q:Int)<(j:Int):=by omega
        have AL:(q:Int)<(n:Int):=by omega
        have Aj:q<b.keys.length:=by omega
        have g0:∀ p,(ab wy p).cell? ⟨w.heap.size,2,none⟩=some (.slice (some ⟨bk,ok,none⟩) n c):=fun p=>(Am.out.below (N.trans ((G.trans ((aa wy p).mono G.size)).mono N.size))).cell 2; have g1:∀ p,(ab wy p).cell? ⟨bk,ok+q * 2,none⟩=some (.string (str b.keys[q].kid)):=fun p=>dZ cm (by omega) hv Aj (O.trans ((aa wy p).mono O.size)) (j:=0) rfl; have g2:∀ p,(ab wy p).cell? ⟨wx.heap.size,0,none⟩=some (.string (str k.kid)):=fun p=>(A5.out.below (G.trans ((aa wy p).mono G.size))).cell 0; have Ak:=hO (show b.keys.take (q+1)=b.keys.take q++[b.keys[q]] by rw [List.take_add_one,List.getElem?_eq_getElem Aj]; rfl)
        have Ar:=hO (show ∃ z,z<j/\b.keys[z]?=some b.keys[q] from⟨q,A7,List.getElem?_eq_getElem Aj⟩); generalize b.keys[q]=kq at *; go_upto_region 13 with fail
        refine az ?_; repeat (go_big_quiet_step (fail))
        refine wpQuiet_nil ?_; rintro _ ⟨p,rfl⟩; have Al:=aa wy p; have A9:=G.trans (Al.mono G.size); have As:=O.trans (Al.mono O.size); generalize ab wy p=w7 at *; clear g0 g1 g2 Al
        cases At:(kq.kid==k.kid)
        .have AA:Hid (∀ x∈b.keys.take (q+1),(x.kid==k.kid)=false):=hO (by
          rw [Ak.out]; intro x hx; rcases List.mem_append.1 hx with h|h
          .exact HQ.out x h
          .rw [List.mem_singleton.1 h,At])
         clear HQ Ak; go_wp2_with fail
         go_roundw
         case rel=>exact⟨q+1,by omega,by go_num,A9,AA⟩
         case measure=>simp [intOf]; omega
        .have H:Hid (aD b=false):=hO (by
          rw [l.out]; have:¬ (b.keys.map Jwk.kid).Nodup:=fun hn=>by
           obtain⟨z,hz,AB⟩:=Ar.out; have e:b.keys.map Jwk.kid=(b.keys.take (j+1)).map Jwk.kid++(b.keys.drop (j+1)).map Jwk.kid:=by rw [<-List.map_append,List.take_append_drop]
           rw [e,R.out,List.map_append] at hn; have f:=(List.nodup_append.1 hn).1; have hm:kq∈b.keys.take j:=List.mem_of_getElem? (i:=z) (by rw [List.getElem?_take,if_pos hz]; exact AB)
           exact(List.nodup_append.1 f).2.2 kq.kid (List.mem_map.2 ⟨kq,hm,rfl⟩) k.kid (by simp) (by simpa using At)
          rw [decide_eq_false this,Bool.and_false])
         clear HQ Ak Ar u R M; go_wp2_with fail
         go_ret; exact⟨by rw [H.out]; rfl,As⟩
       .have Au:q=j:=by omega
        have A8:¬ (q:Int)<(j:Int):=by omega
        have AC:=hO (show (b.keys.take (j+1)).all (fun k=>k.x.length==32&&k.kid==Sha.bZ k.x)=true/\((b.keys.take (j+1)).map Jwk.kid).Nodup by
         have h:=HQ.out; rw [Au] at h; rw [R.out,List.map_append]; refine⟨?_,?_⟩
         .rw [List.all_append,u.out.1,List.all_cons,Aq.out]
          rfl
         .refine jH u.out.2 (fun hm=>?_)
          obtain⟨x,hx,he⟩:=List.mem_map.1 hm; have:=h x hx; rw [he] at this; simp at this)
        have Av:=N.trans (G.mono N.size); clear HQ u R Au M; go_wp2_with fail
        go_roundw
        case rel=>exact⟨j+1,by omega,by go_num,Av,AC⟩
        case measure=>simp [intOf]; omega
    .have A1:((k.x.length:Int) != 32)=true:=by simp; omega
     have H:Hid (aD b=false):=hO (by
      rw [l.out]; have:b.keys.all (fun k=>k.x.length==32&&k.kid==Sha.bZ k.x)=false:=by
       rw [List.all_eq_false]; exact⟨k,M.out,by simp [V]⟩
      rw [this]; rfl)
     clear u R; go_upto_region 8 with fail
     refine az ?_; repeat (go_big_quiet_step (fail))
     refine wpQuiet_nil ?_; rintro _ ⟨p,rfl⟩; have AD:=aa d p; have S:=I.trans (AD.mono I.size); clear f0 f1; go_wp2_with fail
     go_ret; exact⟨by rw [H.out]; rfl,S⟩
   .have Aw:j=n:=by omega
    have AE:Hid (aD b=true):=hO (by
     rw [l.out]; have hI:=u.out; rw [Aw,<-hl,List.take_length] at hI; rw [hI.1,decide_eq_true hI.2]; rfl)
    have AF:(n:Int)<=(j:Int):=by omega
    clear Aw u; go_wp2_with fail
    go_ret; exact⟨by rw [AE.out]; rfl,m⟩
 .have H:Hid (aD b=false):=hO (by
   unfold aD; rw [Bool.eq_false_iff.2 C]; rfl)
  have AM:Int.ofNat n=(n:Int):=rfl; go_enter func122,ntmps122
  go_upto_region 1 with fail
  rw [show w.alloc (.cells #[.string (str b.domain),.int .i64 b.number,.slice A n c] 45)=W from HW.out]
  cases T:Ids.domain b.domain
  .rw [T] at J
   clear C T; go_wp2_with fail
   refine J.mono ?_; rintro e Q ⟨rfl,E⟩; go_wp2_with fail
   go_ret; exact⟨by rw [H.out]; rfl,D.trans (E.mono D.size)⟩
  .rw [T] at J C
   by_cases f:b.number<0
   .clear C T
    go_wp2_with fail
    refine J.mono ?_; rintro e Q ⟨rfl,E⟩; have U:=B.below E; have d1:Q.cell? ⟨w.heap.size,1,none⟩=some (.int .i64 b.number):=U.cell 1; go_wp2_with fail
    go_ret; exact⟨by rw [H.out]; rfl,D.trans (E.mono D.size)⟩
   .by_cases h3:1099511627776<b.number
    .clear C T
     go_wp2_with fail
     refine J.mono ?_; rintro e Q ⟨rfl,E⟩; have U:=B.below E; have d1:Q.cell? ⟨w.heap.size,1,none⟩=some (.int .i64 b.number):=U.cell 1; go_wp2_with fail
     go_ret; exact⟨by rw [H.out]; rfl,D.trans (E.mono D.size)⟩
    .have hw:aI b.number 0 1099511627776=true:=by unfold aI; simp; omega
     have h8:¬ b.keys.length<=8:=fun h=>C (by rw [hw,decide_eq_true h]; rfl)
     have Az:(8:Int)<(n:Int):=by omega
     clear C T; go_wp2_with fail
     refine J.mono ?_; rintro e Q ⟨rfl,E⟩; have U:=B.below E; have d1:Q.cell? ⟨w.heap.size,1,none⟩=some (.int .i64 b.number):=U.cell 1; have d2:Q.cell? ⟨w.heap.size,2,none⟩=some (.slice A n c):=U.cell 2; go_wp2_with fail
     go_ret; exact⟨by rw [H.out]; rfl,D.trans (E.mono D.size)⟩
end
section
open Go.RowKit Mem Led
theorem la(x:Led.Bundle) (v:Value):∀ (d:Bool) (U:List (Led.Bundle × Value)),(aM (fun a b:Led.Bundle × Value=>cB a.1 b.1) (x,v) d U).map Prod.fst=aM cB x d (U.map Prod.fst)
 | d,[]=>by cases d <;> rfl
 | d,y::l=>by
  rw [List.map_cons,aM,aM,List.map_append,List.map_append,la x v _ l]; congr 1
  congr 1
  .cases (!d&&decide (0<=cB y.1 x)) <;> rfl
  .cases decide (cB y.1 x=0) <;> rfl
theorem mh{α:Type} {c:α->α->Int} {x u:α}:∀ {d:Bool} {l:List α},u∈aM c x d l->u=x\/u∈l
 | d,[],h=>by
  rw [aM] at h; split at h
  .cases h
  .exact .inl (List.mem_singleton.1 h)
 | d,y::l,h=>by
  rw [aM] at h; rcases List.mem_append.1 h with h|h
  .rcases List.mem_append.1 h with h|h
   .split at h
    .exact .inl (List.mem_singleton.1 h)
    .cases h
   .split at h
    .cases h
    .exact .inr (by rw [List.mem_singleton.1 h]; exact List.mem_cons_self)
  .rcases mh h with h|h
   .exact .inl h
   .exact .inr (List.mem_cons_of_mem _ h)
theorem scan_keep{α:Type} {c:α->α->Int} {x u:α}:∀ {l:List α},u∈aM c x true l->u∈l
 | l,h=>by
  rw [gZ] at h; exact(List.mem_filter.1 h).1
theorem scan_buns{L:Led.Ledger} (A:L.Wf) (x:Led.Bundle):aM cB x true L.bundles=L.bundles.eraseP (fun b=>b.domain==x.domain):=by
 rw [gZ,<-gW kQ A.u1]
 congr 1
 funext y
 rw [Bool.eq_iff_iff]
 simp [cB,kx]
theorem bun_one{L:Led.Ledger} (A:L.Wf) {s:Txt} {i:Nat} (hi:i<L.bundles.length) (B:(L.bundles[i].domain==s)=true):∀ x∈L.bundles.drop (i+1),(x.domain==s)=false:=by
 intro x hx
 have h:=A.u1
 have e:L.bundles=L.bundles.take i++L.bundles[i]::L.bundles.drop (i+1):=by rw [<-List.drop_eq_getElem_cons hi,List.take_append_drop]
 unfold bd at h
 rw [e,List.pairwise_append,List.pairwise_cons] at h
 have C:=h.2.1.1 x hx
 have D:ord L.bundles[i].domain x.domain<0:=C
 rw [beq_eq_false_iff_ne]
 intro E
 have F:L.bundles[i].domain=s:=by simpa using B
 rw [F,<-E] at D
 have G:ord x.domain x.domain=0:=kx.2 rfl
 omega
theorem bun_over{L:Led.Ledger} (E:L.Wf) {s:Txt} {n:Int} {i:Nat} (hi:i<L.bundles.length) (B:∀ x∈L.bundles.take i,(x.domain==s)=false) (C:(L.bundles[i].domain==s)=true):L.bundles.any (fun o=>o.domain==s&&decide (o.number > n))=decide (L.bundles[i].number > n):=by
 have e:L.bundles=L.bundles.take i++L.bundles[i]::L.bundles.drop (i+1):=by rw [<-List.drop_eq_getElem_cons hi,List.take_append_drop]
 have hd:=bun_one E hi C
 generalize L.bundles[i]=y at *
 generalize L.bundles.take i=A at *
 generalize L.bundles.drop (i+1)=D at *
 rw [e,List.any_append,List.any_cons,C,Bool.true_and]
 have F:A.any (fun o=>o.domain==s&&decide (o.number > n))=false:=by
  rw [List.any_eq_false]; intro x hx; rw [B x hx]; simp
 have G:D.any (fun o=>o.domain==s&&decide (o.number > n))=false:=by
  rw [List.any_eq_false]; intro x hx; rw [hd x hx]; simp
 rw [F,G,Bool.false_or,Bool.or_false]
theorem bun_none{L:Led.Ledger} {s:Txt} {n:Int} (h:(L.bundles.any fun b=>b.domain==s)=false):L.bundles.any (fun o=>o.domain==s&&decide (o.number > n))=false:=by
 rw [List.any_eq_false] at h ⊢
 intro x hx
 have:=h x hx
 simp only [Bool.not_eq_true] at this
 rw [this]
 simp
theorem bun_fits{L:Led.Ledger} (A:L.Wf) (b:Led.Bundle):(ins cB b L.bundles).length=L.bundles.length+if (L.bundles.any fun x=>x.domain==b.domain)=true then 0 else 1:=by
 rw [jL kQ A.u1,show (L.bundles.any fun y=>decide (cB y b=0))=L.bundles.any fun y=>y.domain==b.domain from tB Led.Bundle.domain b L.bundles]
theorem bun_one'(x:Led.Bundle × Value) (h:x.2.oneCell'=true):∀ u∈ai x,u.oneCell'=true:=by
 intro u A
 simp only [ai,List.mem_cons,List.not_mem_nil,or_false] at A
 rcases A with rfl|rfl|rfl
 .rfl
 .rfl
 .exact h
theorem th{base gl:Nat} {vE vN vB vJ vK vU:Value} {L:Led.Ledger} {E:List (Led.Entry × Value)} {U:List (Led.Bundle × Value)} (o:Led.Op) (sv kv:Value) (w:World) (H:RAt base gl w vE vN vB vJ vK vU L E U) (hL:L.Wf) (ho:Sized o) (A0:NK base w kv o.bundle.keys) (hk:o.kind=12\/o.kind=13) :
  Calls prog 76 #[.pointer (some ⟨gl,0,none⟩),.agg (ah o sv kv).toArray] w (bB base gl (does (aD o.bundle) L o) w):=by
 obtain⟨AU,cU,rfl,fU,_⟩:=dy H.rk.oU
 have A1:U.length=L.bundles.length:=by rw [<-H.rk.buns,List.length_map]
 have zU:=hL.u3
 obtain⟨Y,Ac⟩:∃ b,(o.kind==12)=b:=⟨_,rfl⟩
 have AV:(o.kind==13)=!Y:=by
  rw [<-Ac]; rcases hk with h|h <;> rw [h] <;> rfl
 have HK:Hid ((Y=true/\does (aD o.bundle) L o=bH (aD o.bundle) L o.bundle)\/(Y=false/\does (aD o.bundle) L o=cP L o.name)):=hO (by
  rcases hk with hk|hk
  .exact .inl ⟨by rw [<-Ac,hk]; rfl,by unfold does; simp [hk]⟩
  .exact .inr ⟨by rw [<-Ac,hk]; rfl,by unfold does; simp [hk]⟩)
 obtain⟨R,hR⟩:=eC (does (aD o.bundle) L o)
 rw [hR.out] at HK ⊢
 clear hk hR
 obtain⟨W,hW⟩:=eA (w.alloc (.cells (ah o sv kv).toArray 47))
 have b0:Blk W w.heap.size (ah o sv kv) 47:=by rw [<-hW]; exact Blk.new w _ _
 have K:eD w W:=eF hW
 have A3:=jh b0
 have At:NK base W kv o.bundle.keys:=A0.chg (Chg.of_below (S:=[]) K) (by simp) H.hb
 have I:=rmay_any o.bundle kv W (At.at (Nat.le_trans H.hb K.size)) ho.ud ho.ul
 have q0:W.cell? ⟨w.heap.size,0,none⟩=some (.int .i64 o.kind):=b0.cell 0
 have q2:W.cell? ⟨w.heap.size,2,none⟩=some (.string (str o.name)):=b0.cell 2
 have HW:=hO hW
 clear hW
 obtain⟨CS,AG⟩:=eC ((ah o sv kv).toArray)
 rw [AG.out] at HW ⊢
 obtain⟨CB,An⟩:=eC ((ai (o.bundle,kv)).toArray)
 rw [An.out] at A3 I
 have Ao:=hO b0
 have HH:=hO (H.below K)
 have HB:=hO H.hb
 have A4:=hO At
 have AT:gl<w.heap.size:=H.blk.lt
 clear b0 H A0 At
 obtain⟨t,ht⟩:∃ t,Hid ((if Y=true then o.bundle.domain else o.name)=t):=⟨_,hO rfl⟩
 go_enter func76,ntmps76
 go_upto_region 1 with fail
 rw [HW.out]
 clear HW
 go_upto_if 13 with fail
 go_cut [5] (fun s5 wx=>s5=.string (str t)/\Hid (Y=true->aD o.bundle=true)/\eD W wx)
 case first =>
  cases Y
  .have M:o.name=t:=by rw [<-ht.out]; rfl
   rw [M]; clear ht M; go_wp2_with fail
   go_meet
   case rel=>exact⟨rfl,hO (fun h=>by cases h),Below.refl _ _⟩
  .have M:o.bundle.domain=t:=by rw [<-ht.out]; rfl
   have HT:=hO M; have hd:R=bH (aD o.bundle) L o.bundle:=by
    rcases HK.out with h|h
    .exact h.2
    .cases h.1
   have Z:=hO hd; clear ht M hd HK
   cases hm:aD o.bundle
   .rw [hm] at I Z
    have HE:=hO (show R=(L,1) by rw [Z.out]; rfl)
    clear hm Z; go_wp2_with fail
    refine I.mono ?_; rintro e w1 ⟨rfl,Ap⟩; go_wp2; go_ret; exact bB.err ((K.trans (Ap.mono K.size)).mono HB.out) HE.out (by decide)
   .rw [hm] at I
    have HM:=hO hm; clear hm Z; go_wp2_with fail
    refine I.mono ?_; rintro e w1 ⟨rfl,Ap⟩; have c8:w1.cell? ⟨w.heap.size,21,none⟩=some (.string (str o.bundle.domain)):=(Ao.out.below Ap).cell 21; rw [HT.out] at c8; go_wp2_with fail
    go_meet
    case rel=>exact⟨rfl,hO (fun _=>HM.out),Ap⟩
 case rest =>
  obtain⟨rfl,Ad,Aa⟩:=hcut; obtain⟨wa,AH⟩:∃ wa,wa=wc:=⟨_,rfl⟩; subst AH; have D:=K.trans (Aa.mono K.size); have Ha:=HH.out.below Aa; have cg:wa.cell? ⟨gl,5,none⟩=some (.slice AU U.length cU):=Ha.blk.cell 5; have c0:wa.cell? ⟨w.heap.size,0,none⟩=some (.int .i64 o.kind):=(Ao.out.below Aa).cell 0; have Ae:=hO (Ao.out.below Aa); have d:=hO Ha; have Au:Es ai 3 wa AU U.length U:=by
   obtain⟨A2,c2,e2,_,ea⟩:=dy Ha.rk.oU; injection e2 with e2 _ e3
   subst e2 e3; exact ea
  have Af:=hO (A4.out.chg (Chg.of_below (S:=[]) Aa) (by simp) (Nat.le_trans HB.out K.size)); obtain⟨n,hn⟩:=eA (U.length); have HN:=hO hn; have f:Hid (L.bundles.length=n):=hO (by rw [<-A1,hn]); rw [hn] at cg Au; rw [f.out] at zU; obtain⟨r,hr⟩:=eC (bc (fun b:Led.Bundle=>b.domain==t) L.bundles); have Ag:=hO Au; have A5:=hO Ha.rk.buns; clear A3 I q0 q2 Aa K Ao HH Ha Au hn fU A4 A1; have As:Hid (∀ (j:Nat) (hj:j<L.bundles.length),(L.bundles[j].domain==t)=true->r=j):=hO fun j hj hp=>by
   rw [<-hr.out]; rcases bg (fun b:Led.Bundle=>b.domain==t) L.bundles with⟨_,ha⟩|⟨i,N,hi,_,Ab,Aq⟩
   .rw [List.any_eq_false] at ha
    exact absurd hp (ha _ (List.getElem_mem hj))
   .rw [hi]
    rcases Nat.lt_trichotomy j i with h|h|h
    .have:=Aq L.bundles[j] (List.mem_take_iff_getElem.2 ⟨j,by omega,rfl⟩)
     rw [hp] at this
     cases this
    .rw [h]
    .have:=bun_one hL N Ab L.bundles[j] (List.mem_drop_iff_getElem.2 ⟨j - (i+1),by omega,by congr 1; omega⟩)
     rw [hp] at this
     cases this
  have Ah:Hid (∀ (j:Nat) (hj:j<L.bundles.length),(L.bundles[j].domain==t)=false->r≠j):=hO fun j hj hp e=>by
   rw [<-hr.out] at e; rcases bg (fun b:Led.Bundle=>b.domain==t) L.bundles with⟨h,_⟩|⟨i,N,hi,_,Ab,Aq⟩
   .omega
   .have:i=j:=by omega
    subst this; rw [hp] at Ab
    cases Ab
  have A6:Hid (r<(n:Int)):=hO (by
   rw [<-hr.out]; rcases bg (fun b:Led.Bundle=>b.domain==t) L.bundles with⟨h,_⟩|⟨i,N,hi,_⟩
   .omega
   .rw [hi,<-f.out]; omega)
  go_wp2_with fail
  go_loopw [7,8] (fun AI i wr=>∃ (j:Nat) (av:Value),j<=n/\i=.int .i64 (j:Int)/\av=AI/\Hid (av=.int .i64 (if r<(j:Int) then r else -1))/\wr=wa) (fun _ i _=>n - (intOf i).toNat)
  case atStart=>exact⟨0,_,by omega,rfl,rfl,hO (by
   split
   .rename_i h
    rw [<-hr.out] at h ⊢; rcases bg (fun b:Led.Bundle=>b.domain==t) L.bundles with⟨h,_⟩|⟨i,N,hi,_⟩
    .rw [h]
    .rw [hi] at h; omega
   .rfl),rfl⟩
  case round =>
   obtain⟨j,av,hj,rfl,rfl,Ai,AJ⟩:=hrel; subst AJ; by_cases A7:j<n
   .have AK:(j:Int)<(n:Int):=by omega
    have A8:j<U.length:=by rw [HN.out]; exact A7
    have Av:j<L.bundles.length:=by rw [f.out]; exact A7
    have y:L.bundles[j]=U[j].1:=lS A5.out A8 Av; have hh:=As.out j Av; have hm:=Ah.out j Av; rw [y] at hh hm; obtain⟨b,m,e,h1,h2⟩:=Ag.out.lit aU (by omega) A8; subst e; have q:wr.cell? ⟨b,m+j * 3,none⟩=some (.string (str U[j].1.domain)):=h2 0 _ rfl; have Aw:=hO hh; have Ax:=hO hm; clear h2 hh hm y
    cases hq:(U[j].1.domain==t)
    .have HX:Hid (av=.int .i64 (if r<((j+1:Nat):Int) then r else -1)):=hO (by
      have AW:=Ax.out hq; rw [Ai.out]; congr 1
      by_cases h:r<(j:Int)
      .rw [if_pos h,if_pos (by omega)]
      .rw [if_neg h,if_neg (by omega)])
     generalize U[j].1.domain=x at *; clear Aw Ax Ai; go_wp2_with fail
     go_roundw
     case rel=>exact⟨j+1,_,by omega,by go_num,rfl,HX,by trivial⟩
     case measure=>simp [intOf]; omega
    .have HX:Hid (Value.int .i64 (j:Int)=.int .i64 (if r<((j+1:Nat):Int) then r else -1)):=hO (by
      have he:=Aw.out hq; rw [he,if_pos (by omega)])
     generalize U[j].1.domain=x at *; clear Aw Ax Ai; go_wp2_with fail
     go_roundw
     case rel=>exact⟨j+1,_,by omega,by go_num,rfl,HX,by trivial⟩
     case measure=>simp [intOf]; omega
   .have AA:j=n:=by omega
    have AK:¬ (j:Int)<(n:Int):=by omega
    have AB:av=.int .i64 r:=by rw [Ai.out,AA,if_pos A6.out]
    subst AB; have Aj:=oS (fun b:Led.Bundle=>b.domain==t) L.bundles; rw [hr.out] at Aj; have J:=hO Aj; have Ak:Hid (∀ (x:Led.Bundle × Value) (g:Bool) (O:World),x.2.oneCell'=true->eD wr O->Calls prog 123 #[.slice AU n cU,.agg (ai x).toArray,.bool g] O fun e w'=>∃ v,e=.returned v/\GR O w'/\w'.ownsRow base 45 3 v (aM (fun a b:Led.Bundle × Value=>cB a.1 b.1) x g U).length (af ai (aM (fun a b:Led.Bundle × Value=>cB a.1 b.1) x g U))):=hO fun x g O hx hb=>by
     have H5:=d.out.below hb; have ht:Es ai 3 O AU n U:=by
      obtain⟨A,n',c,e,_,ht⟩:=aY H5.rk.oU; injection e with e1 e2 e3
      subst e1 e2 e3; rw [HN.out] at ht; exact ht
     refine(scanBun_any AU n cU U x g O ht (by omega) (lc (oH (w:=O) (U:=U) (fun p hp=>(H5.rk.keyss p hp).at H5.hb))) (bun_one' x hx)).mono ?_; rintro e w' ⟨v,he,ho,AL⟩; exact⟨v,he,GR.of AL,aG ho H5.hb⟩
    clear Ai AA As Ah A6 Aj
    cases Y
    .have hd:R=cP L t:=by
      rcases HK.out with h|h
      .cases h.1
      .rw [h.2,<-ht.out]; rfl
     have Z:=hO hd; clear hd HK ht Ad; by_cases Ay:r<0
     .have HE:=hO (show R=(L,7) by rw [Z.out]; unfold cP; rw [J.out,decide_eq_false (by omega)]; rfl)
      clear Z Ak; go_wp2_with fail
      go_ret; exact bB.err (D.mono HB.out) HE.out (by decide)
     .have HE:=hO (show R=({ L with bundles:=aM cB ⟨t,0,[]⟩ true L.bundles },0) by rw [Z.out,scan_buns hL]; unfold cP; rw [J.out,decide_eq_true (by omega)]; rfl)
      have Ar:=Ak.out (⟨t,0,[]⟩,.slice none 0 0) true wr rfl (Below.refl _ _); have Ar:Calls prog 123 #[.slice AU n cU,.agg #[.string (str t),.int .i64 0,.slice none 0 0],.bool true] wr _:=Ar; clear Z Ak; go_wp2_with fail
      refine Ar.mono ?_; rintro e w6 ⟨v,rfl,AC,F⟩; have C:=AC.below; obtain⟨A9,c9,rfl,_,_⟩:=ak F; have G:=d.out.below C; have q6:w6.cell? ⟨gl,5,none⟩=some (.slice AU n cU):=by rw [<-HN.out]; exact G.blk.cell 5
      have AD:=G.blk.froz 5; have H7:=G.setU (l:=aM cB ⟨t,0,[]⟩ true L.bundles) F (by rw [la,G.rk.buns]) (fun p hp=>G.rk.keyss p (scan_keep hp)); have Q:Hid (bB base gl R w (.returned (.int .i64 0)) (w6.setCell ⟨gl,5,none⟩ (.slice A9 (aM (fun a b:Led.Bundle × Value=>cB a.1 b.1) (⟨t,0,[]⟩,.slice none 0 0) true U).length c9))):=hO (by
       rw [HE.out]; exact⟨rfl,((D.trans (C.mono D.size)).mono HB.out).setCell (p:=⟨gl,5,none⟩) G.hg _,fun _=>⟨_,_,_,_,_,_,_,_,H7⟩⟩)
      clear G H7 F AC C Ar; go_wp2_with fail
      go_ret; exact Q.out
    .have M:o.bundle.domain=t:=by rw [<-ht.out]; rfl
     have hd:R=bH true L o.bundle:=by
      rcases HK.out with h|h
      .rw [h.2,Ad.out rfl]
      .cases h.1
     have Z:=hO hd; have HT:=hO M; clear hd HK ht Ad M; have f2:∀ p,(ab wr p).cell? ⟨w.heap.size,22,none⟩=some (.int .i64 o.bundle.number):=fun p=>(Ae.out.below (aa wr p)).cell 22; have f0:∀ p,(ab wr p).cell? ⟨gl,5,none⟩=some (.slice AU n cU):=fun p=>by rw [<-HN.out]; exact(d.out.blk.below (aa wr p)).cell 5
     have AM:(r<0/\((Hid (R=(L,6))/\3<=n)\/(Hid (R=({ L with bundles:=ins cB o.bundle L.bundles },0))/\¬ 3<=n)))\/(∃ i:Nat,∃ hi:i<U.length,r=(i:Int)/\((o.bundle.number<U[i].1.number/\Hid (R=(L,22)))\/(¬ o.bundle.number<U[i].1.number/\Hid (R=({ L with bundles:=ins cB o.bundle L.bundles },0))))):=by
      have hf:=bun_fits hL o.bundle; rw [HT.out,J.out] at hf; by_cases Ay:r<0
      .rw [decide_eq_false (by omega),if_neg (by decide)] at hf
       have T:L.bundles.any (fun x=>x.domain==o.bundle.domain&&decide (x.number > o.bundle.number))=false:=bun_none (by rw [HT.out,J.out,decide_eq_false (by omega)]); refine .inl ⟨Ay,?_⟩; by_cases h3:3<=n
       .refine .inl ⟨hO ?_,h3⟩
        rw [Z.out]; unfold bH put; rw [T,if_neg (show ¬ (ins cB o.bundle L.bundles).length<=3 by rw [hf,f.out]; omega)]
        rfl
       .refine .inr ⟨hO ?_,h3⟩
        rw [Z.out]; unfold bH put; rw [T,if_pos (show (ins cB o.bundle L.bundles).length<=3 by rw [hf,f.out]; omega)]
        rfl
      .rw [decide_eq_true (by omega),if_pos rfl] at hf
       have hx:=J.out; rcases bg (fun b:Led.Bundle=>b.domain==t) L.bundles with⟨_,ha⟩|⟨i,N,hi,_,Ab,Aq⟩
       .rw [ha,decide_eq_true (by omega)] at hx
        cases hx
       .have AN:r=(i:Int):=by rw [<-hr.out,hi]
        have AE:i<U.length:=by rw [HN.out,<-f.out]; exact N
        have y:L.bundles[i]=U[i].1:=lS A5.out AE N; have T:=bun_over (n:=o.bundle.number) hL N Aq Ab; rw [y,<-HT.out] at T; refine .inr ⟨i,AE,AN,?_⟩; by_cases h:o.bundle.number<U[i].1.number
        .refine .inl ⟨h,hO ?_⟩
         rw [Z.out]; unfold bH; rw [T,decide_eq_true h]; rfl
        .refine .inr ⟨h,hO ?_⟩
         rw [Z.out]; unfold bH put; rw [T,decide_eq_false h,if_pos (show (ins cB o.bundle L.bundles).length<=3 by rw [hf,f.out]; omega)]
         rfl
     clear Z HT J hr; have s:=hO fun O hb=>Ak.out (o.bundle,kv) false O Af.out.one hb; rw [An.out] at s; clear Ak; have z:Hid (∀ k V,R=(L,k)->k≠0->eD wr V->bB base gl R w (.returned (.int .i64 k)) V):=hO fun k V he hk hb=>bB.err ((D.trans (hb.mono D.size)).mono HB.out) he hk; rcases AM with⟨Ay,⟨HE,h3⟩|⟨HE,h3⟩⟩|⟨i,hi,rfl,⟨T,HE⟩|⟨T,HE⟩⟩
     .have AO:(3:Int)<=(n:Int):=by omega
      have AF:¬ 0<=r:=by omega
      clear s; go_upto_region 18 with fail
      refine az ?_; repeat (go_big_quiet_step (fail))
      refine wpQuiet_nil ?_; rintro _ ⟨p,rfl⟩; have B:=aa wr p; have AP:=f0 p; generalize ab wr p=V at *; clear f0 f2; go_wp2_with fail
      go_ret; exact z.out _ _ HE.out (by decide) B
     rotate_left
     .obtain⟨b,m,e,h1,h2⟩:=Ag.out.lit aU (by omega) hi
      subst e; have f1:∀ p,(ab wr p).cell? ⟨b,m+i * 3+1,none⟩=some (.int .i64 U[i].1.number):=fun p=>dZ aU (by omega) Ag.out hi (aa wr p) (j:=1) rfl; have AQ:¬ (i:Int)<0:=by omega
      have AR:(0:Int)<=(i:Int):=by omega
      have AS:(i:Int)<(n:Int):=by rw [<-HN.out]; omega
      generalize U[i].1.number=un at *; clear s h2; go_upto_region 18 with fail
      refine az ?_; repeat (go_big_quiet_step (fail))
      refine wpQuiet_nil ?_; rintro _ ⟨p,rfl⟩; have B:=aa wr p; generalize ab wr p=V at *; clear f0 f1 f2; go_wp2_with fail
      go_ret; exact z.out _ _ HE.out (by decide) B
     .obtain⟨b,m,e,h1,h2⟩:=Ag.out.lit aU (by omega) hi
      subst e; have f1:∀ p,(ab wr p).cell? ⟨b,m+i * 3+1,none⟩=some (.int .i64 U[i].1.number):=fun p=>dZ aU (by omega) Ag.out hi (aa wr p) (j:=1) rfl; have AQ:¬ (i:Int)<0:=by omega
      have AR:(0:Int)<=(i:Int):=by omega
      have AS:(i:Int)<(n:Int):=by rw [<-HN.out]; omega
      generalize U[i].1.number=un at *; clear h2 z; go_upto_region 18 with fail
      refine az ?_; repeat (go_big_quiet_step (fail))
      refine wpQuiet_nil ?_; rintro _ ⟨p,rfl⟩; have B:=aa wr p; have u:=hO (d.out.below B); have Al:=hO (Ae.out.below B); have X:=hO fun O hb=>s.out O (B.trans (Below.mono hb B.size)); generalize ab wr p=V at *; clear f0 f1 f2 s d Ae cg c0; have f0:∀ p,(ab V p).cell? ⟨gl,5,none⟩=some (.slice (some ⟨b,m,none⟩) n cU):=fun p=>by rw [<-HN.out]; exact(u.out.blk.below (aa V p)).cell 5
      have f1:∀ p,(fz (.pointer (some ⟨w.heap.size,21,none⟩))).run prog (ab V p)=.ok (.agg CB) (ab V p):=fun p=>by rw [<-An.out]; exact jh (Al.out.below (aa V p))
      go_upto_region 22 with fail
      refine aN [([0,1,2,3,4,5,6],(7,fun v w'=>w'.ownsRow base 45 3 v (aM (fun a b:Led.Bundle × Value=>cB a.1 b.1) (o.bundle,kv) false U).length (af ai (aM (fun a b:Led.Bundle × Value=>cB a.1 b.1) (o.bundle,kv) false U))))] [8,9,10] (by kernel_rfl) (by kernel_rfl) (by
       intro x hx; simp only [List.mem_cons,List.not_mem_nil,or_false] at hx; subst hx; exact ax fun v w w' hb h=>ae h hb eG) ?_
      refine aH ?_; simp only [pick,List.getD_cons_zero,List.getD_cons_succ]; repeat (go_big_quiet_step (fail))
      refine wpQuiet_nil ?_; refine⟨_,rfl,rfl,?_,?_⟩
      .intro O Az _
       go_simp
       exact⟨rfl,X.out O Az.below⟩
      rintro v1 - w6 Am hF; obtain⟨_,F⟩:=hF; obtain⟨A9,c9,rfl,_,_⟩:=ak F; have C:=Am.below; have G:=u.out.below C; have q6:w6.cell? ⟨gl,5,none⟩=some (.slice (some ⟨b,m,none⟩) n cU):=by rw [<-HN.out]; exact G.blk.cell 5
      have AD:=G.blk.froz 5; have H7:=G.setU (l:=ins cB o.bundle L.bundles) F (by rw [la,G.rk.buns,fS kQ hL.u1]) (fun p hp=>by
       rcases mh hp with rfl|h
       .exact Af.out.chg (Chg.of_below (S:=[]) (B.trans (C.mono B.size))) (by simp) (Nat.le_trans HB.out D.size)
       .exact G.rk.keyss p h)
      have Q:Hid (bB base gl R w (.returned (.int .i64 0)) (w6.setCell ⟨gl,5,none⟩ (.slice A9 (aM (fun a b:Led.Bundle × Value=>cB a.1 b.1) (o.bundle,kv) false U).length c9))):=hO (by
       rw [HE.out]; exact⟨rfl,((D.trans ((B.trans (C.mono B.size)).mono D.size)).mono HB.out).setCell (p:=⟨gl,5,none⟩) G.hg _,fun _=>⟨_,_,_,_,_,_,_,_,H7⟩⟩)
      clear f0 f1 G H7 F Am C X u Al; go_wp2; (try rw [am])
      (try go_wp2)
      go_ret; exact Q.out
     .have AO:¬ (3:Int)<=(n:Int):=by omega
      have AF:¬ 0<=r:=by omega
      clear z; go_upto_region 18 with fail
      refine az ?_; repeat (go_big_quiet_step (fail))
      refine wpQuiet_nil ?_; rintro _ ⟨p,rfl⟩; have B:=aa wr p; have u:=hO (d.out.below B); have Al:=hO (Ae.out.below B); have X:=hO fun O hb=>s.out O (B.trans (Below.mono hb B.size)); have AP:=f0 p; generalize ab wr p=V at *; clear f0 f2 s d Ae cg c0; have f0:∀ p,(ab V p).cell? ⟨gl,5,none⟩=some (.slice AU n cU):=fun p=>by rw [<-HN.out]; exact(u.out.blk.below (aa V p)).cell 5
      have f1:∀ p,(fz (.pointer (some ⟨w.heap.size,21,none⟩))).run prog (ab V p)=.ok (.agg CB) (ab V p):=fun p=>by rw [<-An.out]; exact jh (Al.out.below (aa V p))
      go_upto_region 22 with fail
      refine aN [([0,1,2,3,4,5,6],(7,fun v w'=>w'.ownsRow base 45 3 v (aM (fun a b:Led.Bundle × Value=>cB a.1 b.1) (o.bundle,kv) false U).length (af ai (aM (fun a b:Led.Bundle × Value=>cB a.1 b.1) (o.bundle,kv) false U))))] [8,9,10] (by kernel_rfl) (by kernel_rfl) (by
       intro x hx; simp only [List.mem_cons,List.not_mem_nil,or_false] at hx; subst hx; exact ax fun v w w' hb h=>ae h hb eG) ?_
      refine aH ?_; simp only [pick,List.getD_cons_zero,List.getD_cons_succ]; repeat (go_big_quiet_step (fail))
      refine wpQuiet_nil ?_; refine⟨_,rfl,rfl,?_,?_⟩
      .intro O Az _
       go_simp
       exact⟨rfl,X.out O Az.below⟩
      rintro v1 - w6 Am hF; obtain⟨_,F⟩:=hF; obtain⟨A9,c9,rfl,_,_⟩:=ak F; have C:=Am.below; have G:=u.out.below C; have q6:w6.cell? ⟨gl,5,none⟩=some (.slice AU n cU):=by rw [<-HN.out]; exact G.blk.cell 5
      have AD:=G.blk.froz 5; have H7:=G.setU (l:=ins cB o.bundle L.bundles) F (by rw [la,G.rk.buns,fS kQ hL.u1]) (fun p hp=>by
       rcases mh hp with rfl|h
       .exact Af.out.chg (Chg.of_below (S:=[]) (B.trans (C.mono B.size))) (by simp) (Nat.le_trans HB.out D.size)
       .exact G.rk.keyss p h)
      have Q:Hid (bB base gl R w (.returned (.int .i64 0)) (w6.setCell ⟨gl,5,none⟩ (.slice A9 (aM (fun a b:Led.Bundle × Value=>cB a.1 b.1) (o.bundle,kv) false U).length c9))):=hO (by
       rw [HE.out]; exact⟨rfl,((D.trans ((B.trans (C.mono B.size)).mono D.size)).mono HB.out).setCell (p:=⟨gl,5,none⟩) G.hg _,fun _=>⟨_,_,_,_,_,_,_,_,H7⟩⟩)
      clear f0 f1 G H7 F Am C X u Al; go_wp2; (try rw [am])
      (try go_wp2)
      go_ret; exact Q.out
end
end Go.Proofs.YtmbpnkacggngkaaGreatDoor
