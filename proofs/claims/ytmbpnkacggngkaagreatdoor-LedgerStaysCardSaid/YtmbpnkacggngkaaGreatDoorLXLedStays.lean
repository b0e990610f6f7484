/- THE WALK of LedgerStays. -/
import Derived.Test.YtmbpnkacggngkaaGreatDoorLX17
set_option maxRecDepth 100000
set_option maxHeartbeats 16000000
namespace Go.Proofs.YtmbpnkacggngkaaGreatDoor
open Batch
open Go.Proofs.Tryz
section
open Go.RowKit Mem Led
theorem Vs.nop{w w':World} {size n c g:Nat} {A:Option Addr} {xs M:List Value} (h:Vs w w.heap.size size A n xs) (J:Nop w (.slice A n c)) (I:Chg [g] w w') (B:Blk w g M 47):Vs w' w'.heap.size size A n xs:=by
 refine Vs.mono ?_ I.size
 refine⟨h.len,fun j u F=>?_⟩
 obtain⟨Q,e,K,G⟩:=h.rd j u F
 have R:=(List.getElem?_eq_some_iff.1 F).1
 obtain⟨b,D,e2,L,E⟩:=Vs.lit h (by omega)
 rw [e2] at e
 injection e with e
 subst e
 refine⟨_,e2,K,?_⟩
 have N:=E j u F
 rw [Addr.add_lit]
 have O:0<n:=Nat.pos_of_ne_zero fun h0=>by
  subst h0; have:=h.len; omega
 obtain⟨M',t,H,ht⟩:=J ⟨b,D,none⟩ n c (by rw [e2]) O
 have C:b≠g:=fun C=>by
  subst C; unfold Blk at H B; simp only at H; rw [H] at B; injection B with B
  injection B with _ B _
  exact ht B
 exact(World.cell?_of_block (a:=⟨b,D+j,none⟩) (I.block b (by omega) (by simpa using C))).trans N
theorem cZ.nop{w w':World} {cs M:List Value} {L:Led.Ledger} {E:List (Led.Entry × Value)} {U:List (Led.Bundle × Value)} {g:Nat} (h:cZ w cs L E U) (B:fl w cs E U) (F:Chg [g] w w') (G:Blk w g M 47):cZ w' cs L E U:=by
 obtain⟨⟨vE,vN,vB,vJ,vK,vU,rfl,H,I,J,K,N,O⟩,e,u,s,k⟩:=h
 have key:∀ {α:Type} {enc:α->List Value} {k:Nat} {v:Value} {l:List α},a8 enc k w v l->Nop w v->a8 enc k w' v l:=fun ⟨A,n,c,e1,e2,e3⟩ hn=>by
  subst e1; exact⟨A,n,c,rfl,e2,Vs.nop e3 hn F G⟩
 have C:∀ {v:Value} {l:List Txt},bm w v l->Nop w v->bm w' v l:=fun ⟨A,n,c,e1,e2,e3⟩ hn=>by
  subst e1; exact⟨A,n,c,rfl,e2,Vs.nop e3 hn F G⟩
 exact⟨⟨vE,vN,vB,vJ,vK,vU,rfl,key H (B.1 _ (by simp)),key I (B.1 _ (by simp)),C J (B.1 _ (by simp)),key K (B.1 _ (by simp)),key N (B.1 _ (by simp)),key O (B.1 _ (by simp))⟩,e,u,fun p D=>C (s p D) (B.2.1 p D),fun p D=>key (k p D) (B.2.2 p D)⟩
structure Scr (w6:World) (gn:Nat) (AE:Option Addr) (nE cE:Nat) (AN:Option Addr) (nN cN:Nat) (AB:Option Addr) (nB cB:Nat) (AU:Option Addr) (nU cU:Nat) (vJ vK:Value) (wx:World):Prop where
 bel:eD w6 wx
 n:Blk wx gn [.slice AE nE cE,.slice AN nN cN,.slice AB nB cB,vJ,vK,.slice AU nU cU] 30
 e:Rm2 wx w6.heap.size 36 5 4 9 1 AE nE
 d:Rm wx w6.heap.size 40 5 AN nN
 b:Rm wx w6.heap.size 9 1 AB nB
 u:Rm2 wx w6.heap.size 45 3 2 54 2 AU nU
section
variable {w6:World} {gn:Nat} {AE:Option Addr} {nE cE:Nat} {AN:Option Addr} {nN cN:Nat} {AB:Option Addr} {nB cB:Nat} {AU:Option Addr} {nU cU:Nat} {vJ vK:Value} {wx wy:World}
theorem Scr.below(h:Scr w6 gn AE nE cE AN nN cN AB nB cB AU nU cU vJ vK wx) (A:eD wx wy):Scr w6 gn AE nE cE AN nN cN AB nB cB AU nU cU vJ vK wy :=
 ⟨h.bel.trans (A.mono h.bel.size),h.n.below A,h.e.below A,h.d.below A,h.b.below A,h.u.below A⟩
theorem Scr.set(h:Scr w6 gn AE nE cE AN nN cN AB nB cB AU nU cU vJ vK wx) {g o:Nat} {M:List Value} {t:TypeId} (u:Value) (B:w6.heap.size<=g) (A:Blk wx g M t) (C:36≠t) (D:45≠t) (E:30≠t):Scr w6 gn AE nE cE AN nN cN AB nB cB AU nU cU vJ vK (wx.setCell ⟨g,o,none⟩ u) :=
 ⟨h.bel.setCell (p:=⟨g,o,none⟩) B _,h.n.set_ne (p:=⟨g,o,none⟩) (jq h.n A E) _,h.e.set A C,h.d.set,h.b.set,h.u.set A D⟩
theorem Scr.num{g i:Nat} {c:Nat} (h:Scr w6 gn (some ⟨g,0,none⟩) nE c AN nN cN AB nB cB AU nU cU vJ vK wx) (hi:i<nE) (u:Value):Scr w6 gn (some ⟨g,0,none⟩) nE c AN nN cN AB nB cB AU nU cU vJ vK (wx.setCell ⟨g,i * 5,none⟩ u):=by
 obtain⟨D,_,_,_,e,B,_,_,_,M,A⟩:=h.e.at hi
 injection e with e
 injection e with e
 subst e
 have C:=h.e.put (j':=i) (f':=0) (u:=u) (by omega) (by omega) (by omega)
 exact⟨h.bel.setCell (p:=⟨g,i * 5,none⟩) B _,h.n.set_ne (p:=⟨g,i * 5,none⟩) (jq h.n A (by decide)) _,C,h.d.set,h.b.set,h.u.set A (by decide)⟩
end
theorem scr_of{gn:Nat} {w6 wx:World} {vE vN vB vJ vK vU:Value} {L:Led.Ledger} {E:List (Led.Entry × Value)} {U:List (Led.Bundle × Value)} (C:eD w6 wx) (A:Wk w6.heap.size wx vE vN vB vJ vK vU L E U) (D:Blk wx gn [vE,vN,vB,vJ,vK,vU] 30) :
  ∃ AE nE cE AN nN cN AB nB cB AU nU cU,[vE,vN,vB,vJ,vK,vU]=[.slice AE nE cE,.slice AN nN cN,.slice AB nB cB,vJ,vK,.slice AU nU cU]/\nE<=9223372036854775807/\nN<=9223372036854775807/\nB<=9223372036854775807/\nU<=9223372036854775807/\Scr w6 gn AE nE cE AN nN cN AB nB cB AU nU cU vJ vK wx:=by
 obtain⟨AE,cE,rfl,F⟩:=pt (enc:=ag) (f:=4) (ei:=9) (ki:=1) aZ (fun _=>rfl) (by omega) A.oE rfl (fun p B=>⟨_,_,(A.sels p B).1⟩)
 obtain⟨AU,cU,rfl,G⟩:=pt (enc:=ai) (f:=2) (ei:=54) (ki:=2) aU (fun _=>rfl) (by omega) A.oU rfl (fun p B=>⟨_,_,A.keyss p B⟩)
 obtain⟨AN,cN,rfl,H⟩:=ne A.oN
 obtain⟨AB,cB,rfl,I⟩:=ne A.oB
 obtain⟨_,_,_,J,K⟩:=ak A.oE
 obtain⟨_,_,_,M,b2⟩:=ak A.oN
 obtain⟨_,_,_,N,O⟩:=ak A.oB
 obtain⟨_,_,_,Q,R⟩:=ak A.oU
 exact⟨AE,_,cE,AN,_,cN,AB,_,cB,AU,_,cU,rfl,by omega,by omega,by omega,by omega,⟨C,D,F,H,I,G⟩⟩
theorem stays_at(A:Option Addr) (n c:Nat) (L:List OpV) (x:OpV) (w:World) (hT:Tab Sha.kkL w) (hd:iF w A n L) (A5:x.In w) :
  Calls prog 4 #[.slice A n c,.agg (fT x).toArray] w fun e w'=>e=.returned (.bool true)/\eD w w':=by
 obtain⟨W,hW⟩:=eA (w.alloc (.cells (fT x).toArray 47))
 have b0:Blk W w.heap.size (fT x) 47:=by rw [<-hW]; exact Blk.new w _ _
 have Aj:eD w W:=eF hW
 have hm:=pS A n c L 25 W (hT.below Aj) (hd.below Aj) (by omega)
 have HT:=hO hT
 have Bb:=hO A5
 have HW:=hO hW
 obtain⟨CX,A6⟩:=eC ((fT x).toArray)
 rw [A6.out] at HW ⊢
 clear hT hd A5 hW
 go_enter func4,ntmps4
 go_upto_region 1 with fail
 rw [HW.out]
 clear HW
 go_wp2_with fail
 refine hm.mono ?_
 rintro e w1 ⟨X,R,Lg,E1,U1,E2,U2,rfl,S,T,A7,z,At,_⟩
 obtain⟨w3,w4,A8,A9,B1,B2,U⟩:=two_lg w1 S.len S.ones T.len T.ones
 have Aa:=Aj.trans (z.mono Aj.size)
 have G:=Aa.trans (U.mono Aa.size)
 have b4:=b0.below (z.trans (U.mono z.size))
 have AA:=fy b4 rfl
 have HC:=hO (qw x w4 (qK.below Bb.out G))
 have Bj:w.heap.size<w1.heap.size:=by have:=z.size; have:=b0.lt; omega
 have J:Hid (cZ w4 X Lg E1 U1/\cZ w4 R Lg E2 U2/\fl w4 X E1 U1/\fl w4 R E2 U2/\Lg.Wf):=hO ⟨S.below U,T.below U,At.out.1.below U,At.out.2.below U,A7⟩
 have AC:=hO B1
 have AD:=hO B2
 have Bc:=U.size
 obtain⟨CA,Au⟩:=eC (X.toArray)
 obtain⟨CB,AF⟩:=eC (R.toArray)
 rw [Au.out] at A8 ⊢
 rw [AF.out] at A9 ⊢
 rw [A6.out] at AA HC
 have Bd:=hO S.len
 have Be:=hO T.len
 clear hm S T A7 B1 B2 U z At b0 Aa
 go_wp2_with fail
 refine HC.out.mono ?_
 rintro e w5 ⟨A1,c1,A2,c2,KK,rfl,f1,f2,t1,t2,AG,F⟩
 obtain⟨AH,AI⟩:=nw (fun x r h=>by rw [h,Sha.lI]; omega) AG
 have AJ:=hO AH
 have AK:=hO AI
 generalize jY x.o KK=o at *
 obtain⟨Av,B6⟩:=pd (b4.below F) rfl (vs:=ah o (.slice A1 (min x.ns 6) c1) (.slice A2 (min x.nk 9) c2)) rfl (ky _ _ _ _ _ _ _)
 have K:Chg [w.heap.size] w5 (w5.setCells w.heap.size 0 (ah o (.slice A1 (min x.ns 6) c1) (.slice A2 (min x.nk 9) c2))):=(Chg.refl _ _).setCells _ (.inl (by simp))
 obtain⟨w6,AL⟩:=eA (w5.setCells w.heap.size 0 (ah o (.slice A1 (min x.ns 6) c1) (.slice A2 (min x.nk 9) c2)))
 rw [AL] at Av B6 K
 have Aq:=fy B6 rfl
 have V:ed w1.heap.size w6 X Lg E1 U1:=⟨(AC.out.below F).chg K (by simp; omega),Bd.out,(J.out.1.below F).nop (J.out.2.2.1.below F) K (b4.below F)⟩
 have N:ed (w1.heap.size+1) w6 R Lg E2 U2:=⟨(AD.out.below F).chg K (by simp; omega),Be.out,(J.out.2.1.below F).nop (J.out.2.2.2.1.below F) K (b4.below F)⟩
 have Ab:eD w w6:=(G.trans (F.mono G.size)).trans (K.below' (by have:=G.size; have:=F.size; omega) (by simp))
 have AM:=dg (L:=o.entry.sels) (by rw [gP]; exact mr t1 K (by have:=G.size; omega))
 have AO:=aY (enc:=aV) (L:=o.bundle.keys) (mr t2 K (by have:=G.size; omega))
 have Ak:=applyr_any X Lg E1 U1 o _ _ w6 V.at_ J.out.2.2.2.2 AJ.out AM AO AK.out (HT.out.below Ab)
 have Al:=V.load
 have Am:=hO V
 have An:=hO N
 have Bk:w1.heap.size+2<=w6.heap.size:=by have:=N.blk.lt; omega
 obtain⟨CO,Bf⟩:=eC ((ah o (.slice A1 (min x.ns 6) c1) (.slice A2 (min x.nk 9) c2)).toArray)
 rw [Bf.out] at Av Aq Ak ⊢
 rw [Au.out] at Al Ak
 clear HC AA b4 J AC AD AH AI AG t1 t2 f1 f2 F K AL V N AM AO AJ AK A8 A9 B6 G Bc
 go_wp2_with fail
 refine Ak.mono ?_
 rintro e H ⟨r,-,vE,vN,vB,vJ,vK,vU,E',U',rfl,Aw,Ao⟩
 obtain⟨w8,Bg,B8,Ax⟩:=pV H [vE,vN,vB,vJ,vK,vU] rfl Aw.ones
 have s:=Ao.trans (Ax.mono Ao.size)
 have Ac:=Aw.below Ax
 have V:=Am.out.below s
 have N:=An.out.below s
 have Ap:=mw _ _ _ _ _ _ _ w8 V.at_ N.at_
 have Al:=V.load
 have AP:=N.load
 have Bh:=dD B8 rfl
 have y:Hid (∀ wy,eD w8 wy->r.2≠0->Calls prog 15 #[.agg #[vE,vN,vB,vJ,vK,vU],.agg R.toArray] wy fun e w'=>e=.returned (.bool true)/\eD wy w'):=hO fun wy hy Ad=>by
  have hA:qM Lg r=Lg:=by unfold qM; rw [if_neg Ad]
  have AQ:=Ac.below hy; rw [hA] at AQ; exact mw _ _ _ _ _ _ _ wy AQ.at (N.below hy).at_
 have Ay:Hid (∀ wy,eD w8 wy->(jJ (.pointer (some ⟨H.heap.size,0,none⟩))).run prog wy=.ok (.agg #[vE,vN,vB,vJ,vK,vU]) wy/\(jJ (.pointer (some ⟨w1.heap.size+1,0,none⟩))).run prog wy=.ok (.agg R.toArray) wy):=hO fun wy hy=>⟨dD (B8.below hy) rfl,(N.below hy).load⟩
 obtain⟨AE,nE,cE,AN,nN,cN,AB,nB,cB,AU,nU,cU,Bi,zE,zN,zB,zU,Ar⟩:=scr_of (gn:=H.heap.size) s Ac B8
 have As:=hO Ar
 have t:Hid (∀ wy,eD w6 wy->Calls prog 15 #[.agg X.toArray,.agg R.toArray] wy (fun e w'=>e=.returned (.bool true)/\eD wy w')/\(jJ (.pointer (some ⟨w1.heap.size,0,none⟩))).run prog wy=.ok (.agg X.toArray) wy/\(jJ (.pointer (some ⟨w1.heap.size+1,0,none⟩))).run prog wy=.ok (.agg R.toArray) wy):=hO fun wy hy=>⟨mw _ _ _ _ _ _ _ wy (Am.out.below hy).at_ (An.out.below hy).at_,(Am.out.below hy).load,(An.out.below hy).load⟩
 obtain⟨er,AR⟩:=eC (r.2)
 rw [AR.out] at y
 rw [Au.out] at Al Ap t
 rw [AF.out] at AP Ap y Ay t
 rw [AR.out]
 have Bl:=Ao.size
 have Bm:H.heap.size<w8.heap.size:=B8.lt
 clear Ak Aq Av Aw Ac B8 Ao Ax V N Am An Ar Bi Bh s
 go_wp2_with fail
 refine Ap.mono ?_
 rintro e w9 ⟨rfl,Ae⟩
 have AS:=hO (As.out.below Ae)
 have Bn:=Ae.size
 go_upto_if 39 with fail
 go_cut [] (fun wx=>eD w9 wx)
 case first =>
  obtain⟨Bo,Bp⟩:=Ay.out w9 Ae; by_cases Ad:er=0
  .have h0:(er != 0)=false:=by simp [Ad]
   clear y; go_wp2_with fail
   go_meet
   case rel=>exact Below.refl _ _
  .have h0:(er != 0)=true:=by simpa using Ad
   have hq:=y.out w9 Ae Ad; clear y; go_wp2_with fail
   refine hq.mono ?_; rintro e AT ⟨rfl,Af⟩; go_wp2_with fail
   go_meet
   case rel=>exact Af
 case rest =>
  have C:=hO (AS.out.below hcut); have Bq:=hcut.size; clear Al AP Bg Ap y Ay As AS Ae hcut; go_wp2_with fail
  go_loopw [12] (fun i wx=>∃ j:Nat,j<=nE/\i=.int .i64 (j:Int)/\Hid (Scr w6 H.heap.size AE nE cE AN nN cN AB nB cB AU nU cU vJ vK wx)) (fun i _=>nE - (intOf i).toNat)
  case atStart=>exact⟨0,by omega,rfl,C⟩
  case round =>
   clear C; obtain⟨j,hj,rfl,C⟩:=hrel; obtain⟨wx,Y⟩:∃ wx,wx=wr:=⟨_,rfl⟩; subst Y; have g0:wx.cell? ⟨H.heap.size,0,none⟩=some (.slice AE nE cE):=C.out.n.cell 0; by_cases E:j<nE
   .have I:(j:Int)<(nE:Int):=by omega
    obtain⟨g,A',m,c',rfl,hg,Ag,hm,hR,M,hB⟩:=C.out.e.at E; have AV:=C.out.num E (.int .i64 (-1)); have D:=hB.set (j * 5) (.int .i64 (-1)); have B:Hid (Scr w6 H.heap.size (some ⟨g,0,none⟩) nE cE AN nN cN AB nB cB AU nU cU vJ vK (wx.setCell ⟨g,j * 5,none⟩ (.int .i64 (-1)))/\Rm (wx.setCell ⟨g,j * 5,none⟩ (.int .i64 (-1))) w6.heap.size 9 1 A' m/\(wx.setCell ⟨g,j * 5,none⟩ (.int .i64 (-1))).cell? ⟨g,j * 5+4,none⟩=some (.slice A' m c')):=hO ⟨AV,hR.set,by rw [D.cell,List.getElem?_set_ne (by omega),<-hB.cell]; exact Ag⟩
    obtain⟨g1,e1,_,⟨u0,AW⟩,AX,_⟩:=C.out.e.rm.at E (f:=0) (by omega); injection e1 with e1
    injection e1 with e1
    subst e1; rw [Nat.add_zero] at AW AX; clear AV D hR hB Ag C; go_wp2_with fail
    go_loopw [13] (fun i wy=>∃ q:Nat,q<=m/\i=.int .i64 (q:Int)/\Hid (Scr w6 H.heap.size (some ⟨g,0,none⟩) nE cE AN nN cN AB nB cB AU nU cU vJ vK wy/\Rm wy w6.heap.size 9 1 A' m/\wy.cell? ⟨g,j * 5+4,none⟩=some (.slice A' m c'))) (fun i _=>m - (intOf i).toNat)
    case atStart=>exact⟨0,by omega,rfl,B⟩
    case round =>
     clear B g0 AW AX; obtain⟨q,hq,rfl,B⟩:=hrel; obtain⟨wy,Az⟩:∃ wy,wy=wr:=⟨_,rfl⟩; subst Az; have g0:wy.cell? ⟨H.heap.size,0,none⟩=some (.slice (some ⟨g,0,none⟩) nE cE):=B.out.1.n.cell 0; have g4:=B.out.2.2; by_cases A0:q<m
     .have A3:(q:Int)<(m:Int):=by omega
      obtain⟨O,rfl,Z,⟨u1,k⟩,l,M2,D⟩:=B.out.2.1.at A0 (f:=0) (by omega); rw [Nat.mul_one,Nat.add_zero] at k l; obtain⟨g3,_,_,_,e3,_,_,_,_,M3,Q⟩:=B.out.1.e.at E; injection e3 with e3
      injection e3 with e3
      subst e3; have Ah:Hid (∀ u,Scr w6 H.heap.size (some ⟨g,0,none⟩) nE cE AN nN cN AB nB cB AU nU cU vJ vK (wy.setCell ⟨O,q,none⟩ u)/\Rm (wy.setCell ⟨O,q,none⟩ u) w6.heap.size 9 1 (some ⟨O,0,none⟩) m/\(wy.setCell ⟨O,q,none⟩ u).cell? ⟨g,j * 5+4,none⟩=some (.slice (some ⟨O,0,none⟩) m c')):=hO fun u=>⟨B.out.1.set u Z D (by decide) (by decide) (by decide),B.out.2.1.set,by rw [(Q.set_ne (p:=⟨O,q,none⟩) (jq Q D (by decide)) u).cell,<-Q.cell]; exact g4⟩
      clear B D Q; go_wp2_with fail
      go_roundw
      case rel=>exact⟨q+1,by omega,by go_num,hO (Ah.out _)⟩
      case measure=>simp [intOf]; omega
     .have A3:¬ (q:Int)<(m:Int):=by omega
      have C:=hO B.out.1; clear B; go_wp2_with fail
      go_roundw
      case rel=>exact⟨j+1,by omega,by go_num,C⟩
      case measure=>simp [intOf]; omega
   .have I:¬ (j:Int)<(nE:Int):=by omega
    go_wp2_with fail
    clear I g0 E hj; go_loopw [14] (fun i wx=>∃ j:Nat,j<=nN/\i=.int .i64 (j:Int)/\Hid (Scr w6 H.heap.size AE nE cE AN nN cN AB nB cB AU nU cU vJ vK wx)) (fun i _=>nN - (intOf i).toNat)
    case atStart=>exact⟨0,by omega,rfl,C⟩
    case round =>
     clear C; obtain⟨j,hj,rfl,C⟩:=hrel; obtain⟨wx,Y⟩:∃ wx,wx=wr:=⟨_,rfl⟩; subst Y; have g0:wx.cell? ⟨H.heap.size,1,none⟩=some (.slice AN nN cN):=C.out.n.cell 1; by_cases E:j<nN
     .have I:(j:Int)<(nN:Int):=by omega
      obtain⟨O,rfl,Z,⟨u1,k⟩,l,M2,D⟩:=C.out.d.at E (f:=0) (by omega); rw [Nat.add_zero] at k l; have A4:Hid (∀ u,Scr w6 H.heap.size AE nE cE (some ⟨O,0,none⟩) nN cN AB nB cB AU nU cU vJ vK (wx.setCell ⟨O,j * 5,none⟩ u)):=hO fun u=>C.out.set u Z D (by decide) (by decide) (by decide); clear C D; go_wp2_with fail
      go_roundw
      case rel=>exact⟨j+1,by omega,by go_num,hO (A4.out _)⟩
      case measure=>simp [intOf]; omega
     .have I:¬ (j:Int)<(nN:Int):=by omega
      go_wp2_with fail
      clear I g0 E hj; go_loopw [15] (fun i wx=>∃ j:Nat,j<=nB/\i=.int .i64 (j:Int)/\Hid (Scr w6 H.heap.size AE nE cE AN nN cN AB nB cB AU nU cU vJ vK wx)) (fun i _=>nB - (intOf i).toNat)
      case atStart=>exact⟨0,by omega,rfl,C⟩
      case round =>
       clear C; obtain⟨j,hj,rfl,C⟩:=hrel; obtain⟨wx,Y⟩:∃ wx,wx=wr:=⟨_,rfl⟩; subst Y; have g0:wx.cell? ⟨H.heap.size,2,none⟩=some (.slice AB nB cB):=C.out.n.cell 2; by_cases E:j<nB
       .have I:(j:Int)<(nB:Int):=by omega
        obtain⟨O,rfl,Z,⟨u1,k⟩,l,M2,D⟩:=C.out.b.at E (f:=0) (by omega); rw [Nat.mul_one,Nat.add_zero] at k l; have A4:Hid (∀ u,Scr w6 H.heap.size AE nE cE AN nN cN (some ⟨O,0,none⟩) nB cB AU nU cU vJ vK (wx.setCell ⟨O,j,none⟩ u)):=hO fun u=>C.out.set u Z D (by decide) (by decide) (by decide); clear C D; go_wp2_with fail
        go_roundw
        case rel=>exact⟨j+1,by omega,by go_num,hO (A4.out _)⟩
        case measure=>simp [intOf]; omega
       .have I:¬ (j:Int)<(nB:Int):=by omega
        go_wp2_with fail
        clear I g0 E hj; go_loopw [16] (fun i wx=>∃ j:Nat,j<=nU/\i=.int .i64 (j:Int)/\Hid (Scr w6 H.heap.size AE nE cE AN nN cN AB nB cB AU nU cU vJ vK wx)) (fun i _=>nU - (intOf i).toNat)
        case atStart=>exact⟨0,by omega,rfl,C⟩
        case round =>
         clear C; obtain⟨j,hj,rfl,C⟩:=hrel; obtain⟨wx,Y⟩:∃ wx,wx=wr:=⟨_,rfl⟩; subst Y; have g0:wx.cell? ⟨H.heap.size,5,none⟩=some (.slice AU nU cU):=C.out.n.cell 5; by_cases E:j<nU
         .have I:(j:Int)<(nU:Int):=by omega
          obtain⟨g,A',m,c',rfl,hg,Ag,hm,hR,M,hB⟩:=C.out.u.at E; have B:Hid (Scr w6 H.heap.size AE nE cE AN nN cN AB nB cB (some ⟨g,0,none⟩) nU cU vJ vK wx/\Rm wx w6.heap.size 54 2 A' m/\wx.cell? ⟨g,j * 3+2,none⟩=some (.slice A' m c')):=hO ⟨C.out,hR,Ag⟩; clear hR hB Ag C; go_wp2_with fail
          go_loopw [17] (fun i wy=>∃ q:Nat,q<=m/\i=.int .i64 (q:Int)/\Hid (Scr w6 H.heap.size AE nE cE AN nN cN AB nB cB (some ⟨g,0,none⟩) nU cU vJ vK wy/\Rm wy w6.heap.size 54 2 A' m/\wy.cell? ⟨g,j * 3+2,none⟩=some (.slice A' m c'))) (fun i _=>m - (intOf i).toNat)
          case atStart=>exact⟨0,by omega,rfl,B⟩
          case round =>
           clear B g0; obtain⟨q,hq,rfl,B⟩:=hrel; obtain⟨wy,Az⟩:∃ wy,wy=wr:=⟨_,rfl⟩; subst Az; have g0:wy.cell? ⟨H.heap.size,5,none⟩=some (.slice (some ⟨g,0,none⟩) nU cU):=B.out.1.n.cell 5; have g4:=B.out.2.2; by_cases A0:q<m
           .have A3:(q:Int)<(m:Int):=by omega
            obtain⟨O,rfl,Z,⟨u1,k⟩,l,M2,D⟩:=B.out.2.1.at A0 (f:=0) (by omega); rw [Nat.add_zero] at k l; obtain⟨g3,_,_,_,e3,_,_,_,_,M3,Q⟩:=B.out.1.u.at E; injection e3 with e3
            injection e3 with e3
            subst e3; have Ah:Hid (∀ u,Scr w6 H.heap.size AE nE cE AN nN cN AB nB cB (some ⟨g,0,none⟩) nU cU vJ vK (wy.setCell ⟨O,q * 2,none⟩ u)/\Rm (wy.setCell ⟨O,q * 2,none⟩ u) w6.heap.size 54 2 (some ⟨O,0,none⟩) m/\(wy.setCell ⟨O,q * 2,none⟩ u).cell? ⟨g,j * 3+2,none⟩=some (.slice (some ⟨O,0,none⟩) m c')):=hO fun u=>⟨B.out.1.set u Z D (by decide) (by decide) (by decide),B.out.2.1.set,by rw [(Q.set_ne (p:=⟨O,q * 2,none⟩) (jq Q D (by decide)) u).cell,<-Q.cell]; exact g4⟩
            clear B D Q; go_wp2_with fail
            go_roundw
            case rel=>exact⟨q+1,by omega,by go_num,hO (Ah.out _)⟩
            case measure=>simp [intOf]; omega
           .have A3:¬ (q:Int)<(m:Int):=by omega
            have C:=hO B.out.1; clear B; go_wp2_with fail
            go_roundw
            case rel=>exact⟨j+1,by omega,by go_num,C⟩
            case measure=>simp [intOf]; omega
         .have I:¬ (j:Int)<(nU:Int):=by omega
          obtain⟨hq,k1,k2⟩:=t.out wx C.out.bel; have AY:eD w wx:=Ab.trans (C.out.bel.mono Ab.size); have AZ:=fun W (h:eD w W)=>jK W (HT.out.below h); clear t C HT; go_wp2_with fail
          refine hq.mono ?_; rintro e AT ⟨rfl,Af⟩; have Ai:=AY.trans (Af.mono AY.size); have hl:=AZ AT Ai; clear AZ k1 k2 hq; go_wp2_with fail
          refine hl.mono ?_; rintro e Br ⟨rfl,Ba⟩; go_wp2; go_ret; exact⟨rfl,Ai.trans (Ba.mono Ai.size)⟩
theorem ledgerStays_in(A:Option Addr) (n c:Nat) (L:List OpV) (o:Led.Op) (B:Option Addr) (C D:Nat) (E:Option Addr) (F G:Nat) (w:World) (I:Tab Sha.kkL w) (hd:iF w A n L) (_hn:n<=c) (_hc:c<=9223372036854775807) (H:qK w o B C D E F G) :
  Calls prog 4 #[.slice A n c,.agg (ah o (.slice B C D) (.slice E F G)).toArray] w fun e w'=>e=.returned (.bool true)/\eD w w' :=
 stays_at A n c L ⟨o,B,C,D,E,F,G⟩ w I hd H
end
end Go.Proofs.YtmbpnkacggngkaaGreatDoor
