/- THE WALK of LedgerItems. -/
import Derived.Test.YtmbpnkacggngkaaGreatDoorLI17
set_option maxRecDepth 100000
set_option maxHeartbeats 16000000
namespace Go.Proofs.YtmbpnkacggngkaaGreatDoor
open Batch
open Go.Proofs.Tryz
section
open Go.RowKit Mem Led
theorem part_small{L M:Led.Ledger}(h:L.Part M)(A:M.Small):L.Small :=
 ⟨Nat.le_trans h.e.length_le A.e,Nat.le_trans h.n.length_le A.n,Nat.le_trans h.b.length_le A.b,Nat.le_trans h.j.length_le A.j,Nat.le_trans h.k.length_le A.k,Nat.le_trans h.u.length_le A.u,fun x hx=>A.s x (h.e.subset hx),fun x hx=>A.y x (h.u.subset hx)⟩
def nT(w:World)(A:Option Addr)(P:List (Led.Op × Value × Value)):Prop:=Es bg 24 w A P.length P/\∀p∈P,nV w p
theorem nT.below{w w':World}{A:Option Addr}{P:List (Led.Op × Value × Value)}(h:nT w A P)(B:eF w w'):nT w' A P:=⟨h.1.below B,fun p C=>(h.2 p C).below B⟩
theorem nT.past{w w':World}{A:Option Addr}{P:List (Led.Op × Value × Value)}{g:Nat}{M:List Value}{t:TypeId}(h:nT w A P)(B:Chg [g] w w')(D:Blk w g M t)(E:∀u∈M,∃A n c,u=.slice A n c):nT w' A P:=by
 refine⟨?_,fun p F=>⟨(h.2 p F).1.past B D E,(h.2 p F).2.past (fun x=>⟨_,_,rfl,fun _ _ _ e=>by cases e⟩) B D E⟩⟩
 refine Vs.mono (Vs.past h.1 (fun u C=>?_) B eH D E) B.size
 cases P with
 | nil=>cases C
 | cons x l =>
  rw[bM] at C;simp only[bg,ac,List.cons_append,List.getElem?_cons_zero,Option.some.injEq] at C;rw[<-C];intro A n c e
  cases e
def RwV(W:World)(L:Led.Ledger)(v:Value)(w:World):Prop :=
 w.output=W.output->∃vE vN vB vJ vK vU E U,v=.tuple #[.agg #[vE,vN,vB,vJ,vK,vU],.int .i64 0]/\Wk W.heap.size w vE vN vB vJ vK vU L E U
theorem RwV.some(W:World)(L:Led.Ledger):∃v w,RwV W L v w :=
 ⟨.bool true,{ W with output:=W.output.push (0,⟨#[]⟩) },fun h=>by
  have:=congrArg Array.size h;simp at this⟩
theorem RwV.stable(W:World)(L:Led.Ledger):io GR (RwV W L):=ao fun v w w' A h B=>by
 obtain⟨vE,vN,vB,vJ,vK,vU,E,U,C,D⟩:=h (A.output.symm.trans B)
 exact⟨vE,vN,vB,vJ,vK,vU,E,U,C,D.below A⟩
theorem rwv_any(W:World)(cs:List Value)(L:Led.Ledger)(E:List (Led.Entry × Value))(U:List (Led.Bundle × Value))(p:Led.Op × Value × Value)(w:World)(G:eF W w)(H:dk w cs L E U)(I:L.Small)(D:nV w p)(F:p.1.Fit)(J:iH p.1.kind) :
  Calls prog 14 #[.agg cs.toArray,.agg (bg p).toArray] w (fun x A=>∃v,x=.returned v/\GR w A/\RwV W (dm L p.1) v A):=by
 obtain⟨o,sv,kv⟩:=p
 refine(vk cs L E U o sv kv w H I D.1 D.2 (by have:o.entry.sels.length<256:=F.esels;omega) (by have:o.bundle.keys.length<256:=F.bkeys;omega) J).mono ?_
 rintro x w' ⟨r,rfl,vE,vN,vB,vJ,vK,vU,K,M,rfl,B,C⟩
 exact⟨_,rfl,GR.of C,fun _=>⟨vE,vN,vB,vJ,vK,vU,K,M,rfl,B.lower G.size⟩⟩
theorem small_nums{k:Int}(h:iH k):¬k<=100:=by unfold iH at h;omega
theorem ledgerItems_in(A:Option Addr)(n c:Nat)(L:List OpV)(A2:Option Addr)(n2 c2:Nat)(L2:List OpV)(w:World)(hT:Tab Sha.kkL w)(hd:nS w A n L)(_hn:n<=c)(_hc:c<=9223372036854775807)(Az:nS w A2 n2 L2)(_hn2:n2<=c2)(_hc2:c2<=9223372036854775807) :
  Calls prog 10 #[.slice A n c,.slice A2 n2 c2] w fun e w'=>e=.returned (.bool true)/\eF w w':=by
 have hm:=made_any A n c L 25 w hT hd (by omega)
 have HT:=eA hT
 have HD:=eA Az
 clear hT hd Az
 go_enter func10,ntmps10
 go_wp2_with fail
 refine hm.mono ?_
 rintro e w1 ⟨O,d,D,E1,U1,E2,U2,rfl,F,G,A0,Ac,-,A1⟩
 obtain⟨w3,w4,A4,A5,B1,B2,Ad⟩:=two_lg w1 F.len F.ones G.len G.ones
 have T:=Ac.trans (Ad.mono Ac.size)
 have A6:=made_any A2 n2 c2 L2 25 w4 (HT.out.below T) (HD.out.below T) (by omega)
 have f:Hid (da w1.heap.size w4 O D E1 U1/\da (w1.heap.size+1) w4 d D E2 U2/\D.Wf):=eA ⟨⟨B1,F.len,F.below Ad⟩,⟨B2,G.len,G.below Ad⟩,A0⟩
 have Bf:w1.heap.size+1<w4.heap.size:=B2.lt
 obtain⟨CA,Aq⟩:=eD (O.toArray)
 obtain⟨CB,A7⟩:=eD (d.toArray)
 rw[Aq.out] at A4 ⊢
 rw[A7.out] at A5 ⊢
 clear hm F G A0 B1 B2 Ad Ac
 go_upto_region 2 with fail
 clear A4 A5
 generalize w1.heap.size=G1 at *
 go_wp2_with fail
 refine A6.mono ?_
 rintro e w5 ⟨Ae,Af,Lh,E3,U3,E4,U4,rfl,H,I,g,Ar,-,Am⟩
 obtain⟨w7,N,A8,A9,B3,B4,Ag⟩:=two_lg w5 H.len H.ones I.len I.ones
 have V:=Ar.trans (Ag.mono Ar.size)
 have X:=T.trans (V.mono T.size)
 have B:Hid ((da G1 N O D E1 U1/\da (G1+1) N d D E2 U2/\D.Wf)/\da w5.heap.size N Ae Lh E3 U3/\da (w5.heap.size+1) N Af Lh E4 U4/\Lh.Wf):=eA ⟨⟨f.out.1.below V,f.out.2.1.below V,f.out.2.2⟩,⟨B3,H.len,H.below Ag⟩,⟨B4,I.len,I.below Ag⟩,g⟩
 have J:Hid ((∀o∈aO D,o.Fit/\iH o.kind)/\∀o∈aO Lh,o.Fit):=eA ⟨tF f.out.2.2 A1.out,fun o ho=>(tF g Am.out o ho).1⟩
 obtain⟨w9,Ah⟩:=eC (N.alloc (.cells (aB (.slice none 0 0)).toArray 30))
 have hX:da N.heap.size w9 (aB (.slice none 0 0)) none' [] []:=by rw[<-Ah];exact da.new N
 have k:eF N w9:=eG Ah
 have b:=tG O D E1 U1 w9 (B.out.1.1.below k).at_ B.out.1.2.2.small
 have AA:=(B.out.1.1.below k).load
 have AB:=eA hX
 have As:=eA Ah
 unfold aB at As
 obtain⟨CC,AC⟩:=eD (Ae.toArray)
 obtain⟨CD,AD⟩:=eD (Af.toArray)
 rw[AC.out] at A8 ⊢
 rw[AD.out] at A9 ⊢
 rw[Aq.out] at b AA
 clear A6 H I g B3 B4 Ag Ar V f Ah hX A1 Am HD
 go_upto_region 3 with fail
 clear A8 A9
 generalize w5.heap.size=G2 at *
 go_upto_region 6 with fail
 rw[As.out]
 clear As
 go_wp2_with fail
 refine b.mono ?_
 rintro e AU ⟨A3,c3,P,rfl,l,An,Ao,m⟩
 have Q:=k.trans (m.mono k.size)
 have q:=eA (AB.out.below m)
 have Ap:Hid (nT AU A3 P):=eA ⟨Vs.of_own l,Ao⟩
 have Ai:Hid (P.map (fun p=>p.1)=aO D):=eA An
 obtain⟨_,_,_,AV,AW⟩:=aj l
 have Bg:P.length<=9223372036854775807:=by omega
 clear b AA l An Ao k m AB AV AW
 have HZ:Hid (il ((aO D).take 0)=none'):=eA rfl
 rw[<-HZ.out] at q
 have Au:=X.trans (Q.mono X.size)
 go_wp2_with fail
 go_loopw [13] (fun i wx=>∃(j:Nat) (cs:List Value) (E:List (Led.Entry × Value)) (U:List (Led.Bundle × Value)),j<=P.length/\i=.int .i64 (j:Int)/\eF N wx/\Hid (da N.heap.size wx cs (il ((aO D).take j)) E U)/\Hid (nT wx A3 P)) (fun i _=>P.length-(intOf i).toNat)
 case atStart=>exact⟨0,_,_,_,by omega,rfl,Q,q,Ap⟩
 case round =>
  clear Q q Ap HZ Au;obtain⟨j,cs,E,U,hj,rfl,K,HX,s⟩:=hrel;obtain⟨wx,AX⟩:∃wx,wx=wr:=⟨_,rfl⟩;subst AX;by_cases Aj:j<P.length
  .have AY:(j:Int)<(P.length:Int):=by omega
   have AE:j<(aO D).length:=by rw[<-Ai.out,List.length_map];exact Aj
   have AF:(aO D)[j]=P[j].1:=by simp only[<-Ai.out,List.getElem_map]
   obtain⟨t,Y⟩:=J.out.1 _ (List.getElem_mem AE);have R:=rawAll_succ (aO D) j AE;rw[AF] at t Y R;obtain⟨b1,o1,rfl,Ac,AG⟩:=fZ underlying47 rfl kn gI (by omega) s.out.1 Aj;have AH:∀pp,(lu (.pointer (some ⟨b1,o1+j*24,none⟩))).run prog (ab wx pp)=.ok (.agg (bg P[j]).toArray) (ab wx pp):=fun pp=>AG _ (aa wx pp);have AI:∀pp,(gH (.pointer (some ⟨N.heap.size,0,none⟩))).run prog (ab wx pp)=.ok (.agg cs.toArray) (ab wx pp):=fun pp=>cY (HX.out.blk.below (aa wx pp)) HX.out.len;have b:=s.out.2 _ (List.getElem_mem Aj);have u:=eA (fun w5 (hb:eF wx w5)=>rwv_any wx cs _ E U P[j] w5 hb (HX.out.at_.below hb) (part_small (part_take D j) B.out.1.2.2.small) (b.below hb) t Y);rw[<-R] at u;have AJ:∀wy,nT wy (some ⟨b1,o1,none⟩) P->wy.cell? ⟨b1,o1+j*24,none⟩=some (.int .i64 P[j].1.kind):=fun wy hy=>by
    obtain⟨b2,o2,e2,_,AK⟩:=Vs.lit hy.1 (by rw[aJ gI];omega)
    injection e2 with e2
    injection e2 with e3 e4
    subst e3 e4;exact AK (j*24) _ (by
     have:=kr gI (enc:=bg) Aj (j:=0) (by omega);rw[Nat.add_zero] at this;rw[this];rfl)
   have Bh:¬P[j].1.kind<=100:=small_nums Y;have AL:=eA AJ;obtain⟨CP,AM⟩:∃C,Hid ((bg P[j]).toArray=C):=⟨_,eA rfl⟩;obtain⟨CX,Ak⟩:∃C,Hid (cs.toArray=C):=⟨_,eA rfl⟩;rw[AM.out] at AH u;rw[Ak.out] at AI u;generalize P[j].1.kind=kd at *;clear AG b t Y R AF AJ AM Ak;go_upto_region 11 with fail
   refine qb [([0,1,2,3,4],5,[],RwV wx (il ((aO D).take (j+1))))] [6] 8 [7,9] [10] (by kernel_rfl) (by kernel_rfl) (by
    intro x hx;simp only[List.mem_cons,List.not_mem_nil,or_false] at hx;subst hx;exact RwV.stable _ _) ?_
   refine aI ?_;simp only[pick,List.getD_cons_zero,List.getD_cons_succ];repeat (go_big_quiet_step (fail))
   refine wpQuiet_nil ?_;refine⟨_,rfl,rfl,RwV.some _ _,?_,?_⟩
   .intro w5 AZ _
    go_simp
    exact⟨rfl,u.out w5 AZ.below⟩
   rintro v5-wq AN ⟨h5,_⟩;have S:=AN.below;obtain⟨vE,vN,vB,vJ,vK,vU,E',U',rfl,AO⟩:=h5 S.output;obtain⟨ws,Bi,AP,Av⟩:=HX.out.put2 S AO.at;have Z:=eA ((s.out.below S).past Av (HX.out.blk.below S) HX.out.at_.slices);have Bj:=AL.out ws Z.out;have Aw:=eA AP;have Ax:eF N ws:=(K.trans (S.mono K.size)).trans (Av.below' (by have:=K.size;have:=S.size;omega) (by simp))
   clear u h5 AO AP Av HX s AL AH AI AN S;simp only[List.getElem_toArray,List.getElem_cons_succ,List.getElem_cons_zero,Act.put,List.setIfInBounds_toArray,List.set_cons_zero,List.set_cons_succ];go_wp2_with fail
   rw[oQ];simp only[Ins,List.cons_append,List.nil_append,pick,List.getD_cons_zero,List.getD_cons_succ];refine⟨?_,?_⟩;rotate_left
   .go_wp2_with fail
    rw[oQ];refine⟨?_,?_⟩;rotate_left
    .go_wp2_with fail
     rw[oQ];go_wp2_with fail
     go_roundw
     case rel=>exact⟨j+1,_,_,_,by omega,by go_num,Ax,Aw,Z⟩
     case measure=>simp[intOf];omega
    .go_wp2_with fail
     go_roundw
     case rel=>exact⟨j+1,_,_,_,by omega,by go_num,Ax,Aw,Z⟩
     case measure=>simp[intOf];omega
   .go_wp2_with fail
    go_roundw
    case rel=>exact⟨j+1,_,_,_,by omega,by go_num,Ax,Aw,Z⟩
    case measure=>simp[intOf];omega
  .have AY:¬(j:Int)<(P.length:Int):=by omega
   have AQ:j=(aO D).length:=by rw[<-Ai.out,List.length_map];omega
   have hX:da N.heap.size wx cs D E U:=by
    have h:=HX.out;rw[AQ,List.take_length,tq] at h;exact h
   have V1:=B.out.1.1.below K;have V2:=B.out.1.2.1.below K;have V4:=B.out.2.2.1.below K;have k1:=lsame_eq _ _ _ _ _ _ _ wx hX.at_ V2.at_;have l1:=hX.load;have l2:=V2.load;have M:Hid (∀wy,eF N wy->Calls prog 15 #[.agg d.toArray,.agg Af.toArray] wy (fC wy (D=Lh))/\(gH (.pointer (some ⟨G1+1,0,none⟩))).run prog wy=.ok (.agg d.toArray) wy/\(gH (.pointer (some ⟨G2+1,0,none⟩))).run prog wy=.ok (.agg Af.toArray) wy /\
     (gH (.pointer (some ⟨G1,0,none⟩))).run prog wy=.ok (.agg O.toArray) wy/\(gH (.pointer (some ⟨G2,0,none⟩))).run prog wy=.ok (.agg Ae.toArray) wy /\
     Calls prog 22 #[.agg O.toArray,.agg Ae.toArray] wy (fun e w'=>e=.returned (.bool ((aO D).map enc==(aO Lh).map enc))/\eF wy w')):=eA fun wy hy=>by
    have v1:=B.out.1.1.below hy;have v2:=B.out.1.2.1.below hy;have v3:=B.out.2.1.below hy;have v4:=B.out.2.2.1.below hy;exact⟨rf _ _ _ _ _ _ _ _ wy v2.at_ v4.at_,v2.load,v4.load,v1.load,v3.load,tt _ _ _ _ _ _ _ _ wy v1.at_ v3.at_ B.out.1.2.2.small B.out.2.2.2.small (fun o ho=>(J.out.1 o ho).1) J.out.2⟩
   have Al:Hid (∀wy,eF wx wy->Calls prog 22 #[.agg O.toArray,.agg cs.toArray] wy (fun e w'=>e=.returned (.bool true)/\eF wy w')/\(gH (.pointer (some ⟨N.heap.size,0,none⟩))).run prog wy=.ok (.agg cs.toArray) wy):=eA fun wy hy=>by
    have h:=tt _ _ _ _ _ _ _ _ wy (V1.below hy).at_ (hX.below hy).at_ B.out.1.2.2.small B.out.1.2.2.small (fun o ho=>(J.out.1 o ho).1) (fun o ho=>(J.out.1 o ho).1);rw[beq_self_eq_true] at h;exact⟨h,(hX.below hy).load⟩
   obtain⟨bb,AR,AS⟩:∃bb,Hid (((aO D).map enc==(aO Lh).map enc)=bb)/\Hid (bb=true↔D=Lh):=⟨_,eA rfl,eA (by
    rw[beq_iff_eq];exact⟨fun h=>itemsOf_inj (encs_inj (fun o ho=>(J.out.1 o ho).1) J.out.2 h),fun h=>by rw[h]⟩)⟩
   have Ba:=eA (fun W (h:eF w W)=>lives2_any W (HT.out.below h));obtain⟨CX,Ak⟩:∃C,Hid (cs.toArray=C):=⟨_,eA rfl⟩;rw[Ak.out] at k1 l1 Al;rw[A7.out] at k1 l2 M;rw[Aq.out] at M Al;rw[AC.out,AD.out] at M;rw[AR.out] at M;clear HX s hX V1 V2 V4 AQ AR HT B J Ai;go_wp2_with fail
   refine k1.mono ?_;rintro e y1 ⟨rfl,Ay⟩;have y:eF N y1:=K.trans (Ay.mono K.size);obtain⟨k2,m1,m2,-⟩:=M.out y1 y;clear k1 l1 l2;go_wp2_with fail
   refine k2.mono ?_;rintro e y2 ⟨r,rfl,hr,AT⟩;have z:=y.trans (AT.mono y.size);obtain⟨k3,m3⟩:=Al.out y2 (Ay.trans (AT.mono Ay.size));obtain⟨-,-,-,m4,-⟩:=M.out y2 z;have Bb:bb=r:=by
    rw[Bool.eq_iff_iff];exact AS.out.trans hr.symm
   subst Bb;clear k2 m1 m2 hr AS Al;go_wp2_with fail
   refine k3.mono ?_;rintro e y3 ⟨rfl,Bc⟩;have Aa:=z.trans (Bc.mono z.size);obtain⟨-,-,-,m5,m6,k4⟩:=M.out y3 Aa;have Bk:(bb==bb)=true:=by simp
   clear k3 m3 m4 M;go_wp2_with fail
   refine k4.mono ?_;rintro e y4 ⟨rfl,Bd⟩;have Ab:=X.trans ((Aa.trans (Bd.mono Aa.size)).mono X.size);have hl:=Ba.out y4 Ab;clear k4 m5 m6;go_wp2_with fail
   refine hl.mono ?_;rintro e y5 ⟨rfl,Be⟩;go_wp2;go_ret;exact⟨rfl,Ab.trans (Be.mono Ab.size)⟩
end
end Go.Proofs.YtmbpnkacggngkaaGreatDoor
