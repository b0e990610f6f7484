/- ShaBlock, ShaSum, ShaMul, ShaRoot, ShaPrimes, Mix (put together by bundle.py: only what is needed). -/
import Derived.Test.YtmbpnkacggngkaaGreatDoorLI2
set_option maxRecDepth 100000
set_option maxHeartbeats 16000000
namespace Go.Proofs.YtmbpnkacggngkaaGreatDoor
open Batch
open Tryz
section
open Go.RowKit Mem
structure HIn(w:World)(hc:List Value)(A:Option Addr)(cA:Nat)(B:Option Addr)(cB:Nat)(C:Option Addr)(cC:Nat)(D:Option Addr)(cD:Nat)(K:Option Addr)(cK:Nat)(F:Option Addr)(cF:Nat):Prop where
 eq:hc=[.int .i64 32,.int .i64 64,.slice A 3 cA,.slice B 3 cB,.slice C 3 cC,.slice D 3 cD,.slice K 64 cK,.slice F 8 cF]
 a:Is w A 3 [((2:Nat):Int),((13:Nat):Int),((22:Nat):Int)]
 b:Is w B 3 [((6:Nat):Int),((11:Nat):Int),((25:Nat):Int)]
 c:Is w C 3 [((7:Nat):Int),((18:Nat):Int),((3:Nat):Int)]
 d:Is w D 3 [((17:Nat):Int),((19:Nat):Int),((10:Nat):Int)]
 k:Ws w K 64 (Sha.bJ 3 64)
 f:Ws w F 8 (Sha.bJ 2 8)
 kc:64<=cK
 fc:8<=cF
theorem HIn.h32{w:World}{E:List Value}{A B C D K F:Option Addr}{H cB I J L M:Nat}(h:HIn w E A H B cB C I D J K L F M):H32 E:=by
 rw[h.eq]
 refine⟨rfl,rfl,rfl,fun v G=>?_⟩
 simp only[List.mem_cons,List.not_mem_nil,or_false] at G
 rcases G with rfl|rfl|rfl|rfl|rfl|rfl|rfl|rfl<;>rfl
theorem HIn.below{w w':World}{G:List Value}{A B C D K F:Option Addr}{H cB I J L M:Nat}(h:HIn w G A H B cB C I D J K L F M)(E:eF w w'):HIn w' G A H B cB C I D J K L F M :=
 ⟨h.eq,h.a.below E,h.b.below E,h.c.below E,h.d.below E,h.k.below E,h.f.below E,h.kc,h.fc⟩
theorem own_lit{w:World}{base n c:Nat}{e:TypeId}{A:Option Addr}{xs:List Value}(h:w.ownsRow base e 1 (.slice A n c) n xs)(B:0<n):∃g,A=some ⟨g,0,none⟩/\base<=g/\g<w.heap.size/\∀k u,xs[k]?=some u->w.cell? ⟨g,k,none⟩=some u:=by
 obtain⟨g,e,C,D⟩:=fT h B
 subst e
 refine⟨g,rfl,C,D,fun k u E=>?_⟩
 have:=h.cells (g:=g) rfl k u E
 rwa [aZ] at this
inductive lP(w:World):Option Addr->Nat->Nat->Bool->Nat->Prop
 | mk (P:Option Addr) (cap m a b c:Nat) (sh:Bool) (h:Is w P 3 [(a:Int),(b:Int),(c:Int)]) (hm:m<4294967296) (ha:a<=64) (hb:b<=64) (hc:c<=64):lP w P cap m sh (Sha.mixed a b c sh m)
theorem mix_arg{w:World}{P:Option Addr}{cap m z:Nat}{B:Bool}(h:lP w P cap m B z){C:List Value}(D:H32 C){w':World}(E:eF w w') :
  Calls prog 157 #[.agg C.toArray,.int .u64 (m:Int),.slice P 3 cap,.bool B] w' fun e A=>e=.returned (.int .u64 (z:Int))/\eF w A:=by
 match h with
 | .mk _ _ _ a b c _ h1 hm ha hb' hc'=>exact(qA C D a b c m hm ha hb' hc' B P cap w' (h1.below E)).mono fun e A ⟨F,hb2⟩=>⟨F,E.trans (hb2.mono E.size)⟩
theorem mix_any{w:World}{P:Option Addr}{cap m z:Nat}{A:Bool}(h:lP w P cap m A z){B:List Value}(C:H32 B){w':World}(E:eF w w') :
  Calls prog 157 #[.agg B.toArray,.int .u64 (m:Int),.slice P 3 cap,.bool A] w' fun e D=>e=.returned (.int .u64 (z:Int))/\eF w' D:=by
 match h with
 | .mk _ _ _ a b c _ h1 hm ha hb' hc'=>exact qA B C a b c m hm ha hb' hc' A P cap w' (h1.below E)
structure StepR(Rn:List Nat)(r0 r1 r2 r3 r4 r5 r6 r7 kt wt p1 p2:Nat):Prop where
 b0:r0<4294967296
 b1:r1<4294967296
 b2:r2<4294967296
 b3:r3<4294967296
 b4:r4<4294967296
 b5:r5<4294967296
 b6:r6<4294967296
 b7:r7<4294967296
 bk:kt<4294967296
 bw:wt<4294967296
 q1:p1<4294967296
 q2:p2<4294967296
 eq:Rn=[((r7+p1+((r4 &&& r5) ^^^ ((4294967295 ^^^ r4) &&& r6))+kt+wt) % 4294967296+(p2+((r0 &&& r1) ^^^ (r0 &&& r2) ^^^ (r1 &&& r2))) % 4294967296) % 4294967296,r0,r1,r2,(r3+(r7+p1+((r4 &&& r5) ^^^ ((4294967295 ^^^ r4) &&& r6))+kt+wt) % 4294967296) % 4294967296,r4,r5,r6]
theorem StepR.mk'{R C:List Nat}{A B:Nat}(h:Sha.eP R)(D:A<4294967296)(E:B<4294967296)(F:C=Sha.step A B R) :
  StepR C (R.getD 0 0) (R.getD 1 0) (R.getD 2 0) (R.getD 3 0) (R.getD 4 0) (R.getD 5 0) (R.getD 6 0) (R.getD 7 0) A B (Sha.big1 (R.getD 4 0)) (Sha.big0 (R.getD 0 0)) :=
 ⟨h.at_ 0,h.at_ 1,h.at_ 2,h.at_ 3,h.at_ 4,h.at_ 5,h.at_ 6,h.at_ 7,D,E,Sha.gX (h.at_ 4) _ _ _ _,Sha.gX (h.at_ 0) _ _ _ _,F⟩
theorem stepX_int{A B C G H I J:Nat}(b4:A<4294967296)(Q:C<4294967296)(R:B<4294967296) :
  (IntKind.u64.wrap (IntKind.u64.wrap (IntKind.u64.wrap (IntKind.u64.wrap ((G:Int)+J)+bits BinOp.xor IntKind.u64 (bits BinOp.and IntKind.u64 A B) (bits BinOp.and IntKind.u64 (bits BinOp.xor IntKind.u64 4294967295 A) C))+H)+I)).tmod 4294967296 =
   (((G+J+((A &&& B) ^^^ ((4294967295 ^^^ A) &&& C))+H+I) % 4294967296:Nat):Int):=by
 have K:=u64_and_nat A B (by omega) (by omega)
 have L:bits .xor .u64 4294967295 (A:Int)=((4294967295 ^^^ A:Nat):Int):=u64_xor_nat 4294967295 A (by omega) (by omega)
 have D:=Sha.ik (show 4294967295<4294967296 by omega) b4
 have M:=u64_and_nat (4294967295 ^^^ A) C (by omega) (by omega)
 have E:=Sha.jy (b:=B) b4
 have F:=Sha.jy (b:=C) D
 have N:=u64_xor_nat (A &&& B) ((4294967295 ^^^ A) &&& C) (by omega) (by omega)
 have O:=Sha.ik E F
 rw[K,L,M,N]
 generalize (A &&& B) ^^^ ((4294967295 ^^^ A) &&& C)=z at *
 simp only[IntKind.wrap_u64]
 rw[Int.tmod_eq_emod_of_nonneg (by omega)]
 omega
theorem stepY_int{B C A H:Nat}(I:B<4294967296)(J:C<4294967296)(b2:A<4294967296) :
  (IntKind.u64.wrap ((H:Int)+bits BinOp.xor IntKind.u64 (bits BinOp.xor IntKind.u64 (bits BinOp.and IntKind.u64 B C) (bits BinOp.and IntKind.u64 B A)) (bits BinOp.and IntKind.u64 C A))).tmod 4294967296 =
   (((H+((B &&& C) ^^^ (B &&& A) ^^^ (C &&& A))) % 4294967296:Nat):Int):=by
 have K:=u64_and_nat B C (by omega) (by omega)
 have L:=u64_and_nat B A (by omega) (by omega)
 have M:=u64_and_nat C A (by omega) (by omega)
 have D:=Sha.jy (b:=C) I
 have E:=Sha.jy (b:=A) I
 have F:=Sha.jy (b:=A) J
 have N:=u64_xor_nat (B &&& C) (B &&& A) (by omega) (by omega)
 have G:=Sha.ik D E
 have O:=u64_xor_nat ((B &&& C) ^^^ (B &&& A)) (C &&& A) (by omega) (by omega)
 have Q:=Sha.ik G F
 rw[K,L,M,N,O]
 generalize (B &&& C) ^^^ (B &&& A) ^^^ (C &&& A)=z at *
 simp only[IntKind.wrap_u64]
 rw[Int.tmod_eq_emod_of_nonneg (by omega)]
 omega
theorem uh(x y:Nat):((x:Int)+y).tmod 4294967296=(((x+y) % 4294967296:Nat):Int):=by
 rw[Int.tmod_eq_emod_of_nonneg (by omega)]
 omega
theorem bs_lit{w:World}{A:Option Addr}{n:Nat}{l:List UInt8}(h:Bs w w.heap.size A n l)(D:0<n):∃B C,A=some ⟨B,C,none⟩/\B<w.heap.size/\∀k,k<n->w.cell? ⟨B,C+k,none⟩=some (.int .u8 (((l.getD k 0).toNat:Nat):Int)):=by
 have F:=h.len
 obtain⟨B,C,e,E,hx⟩:=dY h D
 refine⟨B,C,e,E,fun k G=>hx k _ ?_⟩
 rw[pt,List.getElem?_eq_getElem (by omega)]
 simp[List.getD_eq_getElem?_getD,show k<l.length by omega]
theorem dX{w w':World}{base:Nat}{e:TypeId}{v:Value}{n:Nat}{xs:List Value}(h:w.ownsRow base e 1 v n xs)(C:eF w w'):w'.ownsRow base e 1 v n xs:=by
 refine⟨h.1,?_⟩
 rcases h.2 with D|⟨g,cap,A,E,F,B,r⟩
 .exact .inl D
 .exact .inr ⟨g,cap,A,E,F,by rw[C.block g (Array.getElem?_eq_some_iff.1 B).1];exact B,r⟩
theorem rblock_any(o:List Value)(A:Option Addr)(cA:Nat)(B:Option Addr)(cB:Nat)(C:Option Addr)(cC:Nat)(D:Option Addr)(cD:Nat)(K:Option Addr)(cK:Nat)(F:Option Addr)(cF:Nat)
  (As:Option Addr) (cs:Nat) (s:List Nat) (Ab:Option Addr) (cb:Nat) (b:List UInt8) (w:World) (h:HIn w o A cA B cB C cC D cD K cK F cF) (hs:Ws w As 8 s) (Au:Sha.eP s) (Cv:8<=cs) (hb:Bs w w.heap.size Ab 64 b) :
  Calls prog 127 #[.agg o.toArray,.slice As 8 cs,.slice Ab 64 cb] w fun e w'=>∃A' c',e=.returned (.slice A' 8 c')/\8<=c'/\Ws w' A' 8 (Sha.block (Sha.bJ 3 64) s b)/\eF w w':=by
 obtain⟨i0,hi,AA,AB,AC⟩:=an infoW
 have U:=h.h32
 obtain⟨W,hW⟩:=eC (w.alloc (.cells o.toArray 114))
 have BH:Blk W w.heap.size o 114:=by rw[<-hW];exact Blk.new _ _ _
 have Av:eF w W:=eG hW
 have HH:HIn W o A cA B cB C cC D cD K cK F cF:=h.below Av
 have Bb:=hs.below Av
 have Bc:Bs W W.heap.size Ab 64 b:=cV hb Av
 obtain⟨bb,ob,rfl,BL,Bd⟩:=bs_lit Bc (by omega)
 have c0:∀wr,eF W wr->wr.cell? ⟨w.heap.size,0,none⟩=some (.int .i64 32):=fun wr hr=>((BH.below hr).cell 0).trans U.bits
 have c1:∀wr,eF W wr->wr.cell? ⟨w.heap.size,1,none⟩=some (.int .i64 64):=fun wr hr=>((BH.below hr).cell 1).trans U.steps
 have BM:=eA c0
 have Be:=eA c1
 have BN:Hid (∀wr,eF W wr->∀k,k<64->wr.cell? ⟨bb,ob+k,none⟩=some (.int .u8 (((b.getD k 0).toNat:Nat):Int))):=eA fun wr hr k hk=>(hr.cell (p:=⟨bb,ob+k,none⟩) BL).trans (Bd k hk)
 have HW:=eA hW
 clear hW c0 c1 Bd hb hs h
 go_enter func127,ntmps127
 go_upto_region 2 with fail
 rw[HW.out]
 go_wp2_with fail
 go_loopw [7,8,9,10] (fun v t _ _ wr=>∃(T:Nat) (A7:Option Addr) (c7:Nat),T<=16/\t=.int .i64 T/\v=.slice A7 T c7/\eF W wr/\wr.ownsRow W.heap.size 151 1 (.slice A7 T c7) T (wv (Sha.gD b T))) (fun _ t _ _ _=>16-(intOf t).toNat)
 case atStart=>exact⟨0,none,0,by omega,rfl,rfl,Below.refl _ _,World.ownsRow_nil _ _ _ _⟩
 case round =>
  obtain⟨T,A7,c7,hT,rfl,rfl,H,I⟩:=hrel;have k0:=BM.out _ H;by_cases Cw:T<16
  .have HB:=eA (BN.out _ H)
   have Bf:Int.tdiv ((T:Int)*32) 8=((4*T:Nat):Int):=by
    rw[Int.tdiv_eq_ediv_of_nonneg (by omega)];omega
   have HS:=eA (show Sha.gD b (T+1)=Sha.gD b T++[Sha.bI b T 4] from rfl);obtain⟨u,hu⟩:=eD (4*T);have Cs:u<=60:=by rw[<-hu.out];omega
   rw[hu.out] at Bf;go_wp2;go_loop [9,10] (fun v k=>∃j:Nat,j<=4/\k=.int .i64 j/\v=.int .u64 ((Sha.bI b T j:Nat):Int)) (fun _ k=>4-(intOf k).toNat)
   case atStart=>exact⟨0,by omega,rfl,rfl⟩
   case round =>
    obtain⟨j,hj,rfl,rfl⟩:=hrel;by_cases h4:j<4
    .have cj:=HB.out (u+j) (by omega)
     have HX:=eA (show Sha.bI b T (j+1)=Sha.bI b T j*256+(b.getD (4*T+j) 0).toNat from rfl);rw[hu.out] at HX;have Bg:=Sha.jD b T j;have Cx:Sha.bI b T j<16777216:=Nat.lt_of_lt_of_le Bg (Nat.le_trans (Nat.pow_le_pow_right (by omega) (show j<=3 by omega)) (by decide));have hy:=(b.getD (u+j) 0).toNat_lt;generalize (b.getD (u+j) 0).toNat=y at *;generalize Sha.bI b T j=x at *;clear Bg;have hy:y<256:=hy;go_wp2;go_round
     case rel=>exact⟨j+1,by omega,by go_num,by rw[HX.out,Int.natCast_add,Int.natCast_mul];rfl⟩
     case measure=>simp[intOf];omega
    .obtain rfl:j=4:=by omega
     have Aw:T+1<=maxLen:=by unfold maxLen;omega
     have Ao:W.heap.size<=wr.heap.size:=H.size;clear HB Bf hu;go_wp2_with (at_builtin;go_must (refine bi rfl (.tmp 47) (.tmp 49) 112 rfl W.heap.size i0 (.int .u64 0) 8 underlying112 hi AA AB AC rfl _ _ _ rfl I rfl rfl Aw (by omega) Ao ?_))
     intro A' c' w2 O AM Bh J;have Z:=bC H J Ao I eH;rw[show wv (Sha.gD b T)++[.int .u64 ((Sha.bI b T 4:Nat):Int)]=wv (Sha.gD b (T+1)) by rw[HS.out,jC];rfl] at O
     clear I J H;go_wp2;go_roundw
     case rel=>exact⟨T+1,A',c',by omega,by go_num,rfl,Z,O⟩
     case measure=>simp[intOf];omega
  .have AG:T=16:=by omega
   have HT:=eA AG;have Cy:T<=16:=hT;clear k0 AG hT;have Bi:=eA (Sha.jF b);have BO:=eA (Sha.iR b);have I:wr.ownsRow W.heap.size 151 1 (.slice A7 T c7) T (wv (Sha.bZ b 0)):=by
    have:=I;rw[show Sha.gD b T=Sha.bZ b 0 by rw[HT.out];rfl] at this
    exact this
   go_wp2_with fail
   go_loopw [7,11,12] (fun v t _ wr=>∃(u:Nat) (A7:Option Addr) (n c7:Nat),u<=48/\n=16+u/\t=.int .i64 (n:Int)/\v=.slice A7 n c7/\eF W wr/\wr.ownsRow W.heap.size 151 1 (.slice A7 n c7) n (wv (Sha.bZ b u))) (fun _ t _ _=>(100-intOf t).toNat)
   case atStart=>exact⟨0,A7,T,c7,by omega,by rw[HT.out],by rw[HT.out];rfl,rfl,H,I⟩
   case round =>
    clear I H;obtain⟨u,A7,n,c7,hu,hn,rfl,rfl,H,I⟩:=hrel;have k1:=Be.out _ H;by_cases Cz:u<48
    .have N:=BH.below H
     have Ax:=HH.below H;obtain⟨f,rfl,C0,AD,Ay⟩:=own_lit I (by omega);have BP:=BO.out u;have Ac:=Bi.out u;have HS:=eA (show Sha.bZ b (u+1)=Sha.bZ b u++[Sha.next (Sha.bZ b u) u] from rfl);unfold Sha.next at HS;obtain⟨j1,AN⟩:∃j,u+1=j:=⟨_,rfl⟩;obtain⟨j9,Bj⟩:∃j,u+9=j:=⟨_,rfl⟩;obtain⟨q,AH⟩:∃j,u+14=j:=⟨_,rfl⟩;rw[AN,Bj,AH] at HS;have e0:=Ay u _ (gT _ (by omega));have e1:=Ay (j1) _ (gT _ (by omega));have e9:=Ay (j9) _ (gT _ (by omega));have Bk:=Ay (q) _ (gT _ (by omega));have b0:=Ac.at_ u;have b1:=Ac.at_ (j1);have b9:=Ac.at_ (j9);have AO:=Ac.at_ (q);generalize Sha.bZ b u=L7 at *;generalize L7.getD u 0=x0 at *;generalize L7.getD (j1) 0=x1 at *;generalize L7.getD (j9) 0=x9 at *;generalize L7.getD (q) 0=Ad at *;have C1:Sha.sig0 x1<4294967296:=Sha.gX b1 _ _ _ _;have C2:Sha.sig1 Ad<4294967296:=Sha.gX AO _ _ _ _;have M1:lP wr C cC x1 true (Sha.sig0 x1):=.mk _ _ _ _ _ _ _ Ax.c b1 (by omega) (by omega) (by omega);have M2:lP wr D cD Ad true (Sha.sig1 Ad):=.mk _ _ _ _ _ _ _ Ax.d AO (by omega) (by omega) (by omega);generalize Sha.sig0 x1=z1 at *;generalize Sha.sig1 Ad=z2 at *;have r:∀w',eF wr w'->w'.cell? ⟨f,u,none⟩=some (.int .u64 (x0:Int))/\w'.cell? ⟨f,j1,none⟩=some (.int .u64 (x1:Int))/\w'.cell? ⟨f,j9,none⟩=some (.int .u64 (x9:Int))/\w'.cell? ⟨f,q,none⟩=some (.int .u64 (Ad:Int))/\w'.cell? ⟨w.heap.size,4,none⟩=some (.slice C 3 cC)/\w'.cell? ⟨w.heap.size,5,none⟩=some (.slice D 3 cD)/\(eZ (.pointer (some ⟨w.heap.size,0,none⟩))).run prog w'=.ok (.agg o.toArray) w'/\eF wr w':=fun w' L =>
      ⟨(L.cell (p:=⟨f,u,none⟩) AD).trans e0,(L.cell (p:=⟨f,j1,none⟩) AD).trans e1,(L.cell (p:=⟨f,j9,none⟩) AD).trans e9,(L.cell (p:=⟨f,q,none⟩) AD).trans Bk,
       ((N.below L).cell 4).trans (by rw[Ax.eq];rfl),((N.below L).cell 5).trans (by rw[Ax.eq];rfl),ja (N.below L) U.len,L⟩
     have Bl:Hid (∀P cap m z,lP wr P cap m true z->∀w',(w'.cell? ⟨f,u,none⟩=some (.int .u64 (x0:Int))/\w'.cell? ⟨f,j1,none⟩=some (.int .u64 (x1:Int))/\w'.cell? ⟨f,j9,none⟩=some (.int .u64 (x9:Int))/\w'.cell? ⟨f,q,none⟩=some (.int .u64 (Ad:Int))/\w'.cell? ⟨w.heap.size,4,none⟩=some (.slice C 3 cC)/\w'.cell? ⟨w.heap.size,5,none⟩=some (.slice D 3 cD)/\(eZ (.pointer (some ⟨w.heap.size,0,none⟩))).run prog w'=.ok (.agg o.toArray) w'/\eF wr w') ->
       Calls prog 157 #[.agg o.toArray,.int .u64 (m:Int),.slice P 3 cap,.bool true] w' fun e V=>e=.returned (.int .u64 (z:Int))/\(V.cell? ⟨f,u,none⟩=some (.int .u64 (x0:Int))/\V.cell? ⟨f,j1,none⟩=some (.int .u64 (x1:Int))/\V.cell? ⟨f,j9,none⟩=some (.int .u64 (x9:Int))/\V.cell? ⟨f,q,none⟩=some (.int .u64 (Ad:Int))/\V.cell? ⟨w.heap.size,4,none⟩=some (.slice C 3 cC)/\V.cell? ⟨w.heap.size,5,none⟩=some (.slice D 3 cD)/\(eZ (.pointer (some ⟨w.heap.size,0,none⟩))).run prog V=.ok (.agg o.toArray) V/\eF wr V)) :=
      eA fun P cap m z hM w' hS=>(mix_arg hM U hS.2.2.2.2.2.2.2).mono fun e V ⟨he,Z⟩=>⟨he,r V Z⟩
     have Bm:=eA (r wr (Below.refl _ _));have AP:=eA (r wr.drew (Below.refl _ _).drew);clear e0 e1 e9 Bk Ay r BP Ac b1 AO Ax;have BQ:IntKind.i64.wrap ((n:Int)-16)=(u:Int):=by rw[IntKind.wrap_i64];omega
     have BR:IntKind.i64.wrap ((n:Int)-15)=(j1:Int):=by rw[IntKind.wrap_i64];omega
     have BS:IntKind.i64.wrap ((n:Int)-7)=(j9:Int):=by rw[IntKind.wrap_i64];omega
     have Bn:IntKind.i64.wrap ((n:Int)-2)=(q:Int):=by rw[IntKind.wrap_i64];omega
     have p0:(0:Int)<=(u:Int):=by omega
     have p1:(0:Int)<=(j1:Int):=by omega
     have p9:(0:Int)<=(j9:Int):=by omega
     have BT:(0:Int)<=(q:Int):=by omega
     have q0:(u:Int)<(n:Int):=by omega
     have q1:(j1:Int)<(n:Int):=by omega
     have q9:(j9:Int)<(n:Int):=by omega
     have BU:(q:Int)<(n:Int):=by omega
     have Bo:(n:Int)<64:=by omega
     have HN:=eA hn;have BV:=eA AN;clear AN Bj AH;clear hn;go_wp2_with fail
     go_region_held3 (fun w'=>w'.cell? ⟨f,u,none⟩=some (.int .u64 (x0:Int))/\w'.cell? ⟨f,j1,none⟩=some (.int .u64 (x1:Int))/\w'.cell? ⟨f,j9,none⟩=some (.int .u64 (x9:Int))/\w'.cell? ⟨f,q,none⟩=some (.int .u64 (Ad:Int))/\w'.cell? ⟨w.heap.size,4,none⟩=some (.slice C 3 cC)/\w'.cell? ⟨w.heap.size,5,none⟩=some (.slice D 3 cD)/\(eZ (.pointer (some ⟨w.heap.size,0,none⟩))).run prog w'=.ok (.agg o.toArray) w'/\eF wr w') (first|exact AP.out|exact Bm.out|assumption|go_keep) (first|(go_at_call 157;refine(Bl.out _ _ _ _ (by assumption) _ (by first|assumption|exact AP.out)).mono ?_;rintro e wq ⟨rfl,BW⟩))
     clear Bm AP Bl M1 M2 BQ BR BS Bn p0 p1 p9 BT q1 q9 BU;obtain⟨_,_,_,_,_,_,BX,AQ⟩:=BW;have Az:=dX I AQ;have A0:eF W wq:=H.trans (AQ.mono H.size);have Aj:=ti o U ((x0:Int)+(z1:Int)+(x9:Int)+(z2:Int)) wq;have Bp:Int.tmod ((x0:Int)+(z1:Int)+(x9:Int)+(z2:Int)) 4294967296=(((x0+z1+x9+z2) % 4294967296:Nat):Int):=by
      rw[Int.tmod_eq_emod_of_nonneg (by omega)];omega
     rw[Bp] at Aj;obtain⟨y,hy⟩:=eC ((x0+z1+x9+z2) % 4294967296);rw[hy] at Aj HS;clear hy Bp;have BY:n<64:=by omega
     go_wp2_with fail
     refine Aj.mono ?_;rintro e w5 ⟨rfl,Af⟩;have Ag:=dX Az Af;have A1:=A0.trans (Af.mono A0.size);have Aw:n+1<=maxLen:=by unfold maxLen;omega
     have Ao:W.heap.size<=w5.heap.size:=A1.size;clear Aj I Az AQ Af BX;go_wp2_with (at_builtin;go_must (refine bi rfl (.tmp 88) (.tmp 92) 112 rfl W.heap.size i0 (.int .u64 0) 8 underlying112 hi AA AB AC rfl _ _ _ rfl Ag rfl rfl Aw (by omega) Ao ?_))
     intro A' c' g O AM Bh J;have Aa:=bC A1 J Ao Ag eH;have Ae:wv L7++[.int .u64 (y:Int)]=wv (Sha.bZ b j1):=by rw[HS.out,jC];rfl
     rw[Ae] at O;clear Ag J Ae A0 A1;have A2:Hid (u+1<=48/\n+1=16+(u+1)/\g.ownsRow W.heap.size 151 1 (.slice A' (n+1) c') (n+1) (wv (Sha.bZ b (u+1)))):=eA ⟨by omega,by have:=HN.out;omega,by rw[BV.out];exact O⟩
     go_wp2;go_roundw
     case rel=>exact⟨u+1,A',n+1,c',A2.out.1,A2.out.2.1,by go_num,rfl,Aa,A2.out.2.2⟩
     case measure=>simp[intOf];omega
    .have Bq:u=48:=by omega
     subst Bq;have Ct:=eA (show n=64 by omega);have Bo:64<=n:=by omega
     clear hn hu;have AI:0+8<=maxLen:=by unfold maxLen;omega
     have Ao:W.heap.size<=wr.heap.size:=H.size;have Ap:=Bb.below H;go_wp2_with (at_builtin;go_must (refine aK wr rfl (.tmp 94) (.tmp 95) 112 rfl wr.heap.size 151 i0 (.int .u64 0) 1 8 underlying112 hi AA AB AC rfl (by omega) _ 0 [] rfl (World.ownsRow_nil _ _ _ _) wr.heap.size _ 8 _ _ rfl Ap (t7 _) AI (by omega) eH ?_))
     intro Br BZ W5 Ak Bt Bu J;have Af:eF wr W5:=Mem.aH (Below.refl _ _) J eH (World.ownsRow_nil wr wr.heap.size 151 1);have Al:eF W W5:=H.trans (Af.mono H.size);have AE:Ws W5 A7 n (Sha.bZ b 48):=(Ws.of_own I).below Af;have AR:Ws W5 Br 8 s:=Ws.of_own Ak;have AS:=HH.below Al;have AJ:=eA (BH.below Al);have Bv:s.length=8:=AR.len;have HK:=eA (Sha.pG 3 64);obtain⟨Ks,AF⟩:=eC (Sha.bJ 3 64);rw[AF] at HK;have AT:Ws W5 K 64 Ks:=by rw[<-AF];exact AS.k
     have AU:=eA (Sha.jF b 48);obtain⟨Ww,AV⟩:=eC (Sha.bZ b 48);rw[AV] at AE AU;have Ca:=eA AF;have Bw:=eA AV;obtain⟨gk,ok,Cb,Bx,By⟩:=dY AT (by omega);subst Cb;obtain⟨f,o7,Cc,Bz,B0⟩:=dY AE (by omega);subst Cc;have B1:=AT.len;have B2:=AE.len;have B3:=eA By;have B4:=eA B0;have B5:=eA B1;have B6:=eA B2;have Cd:=eA Bv;clear Ap J I Ak Af AE AT By B0 B1 B2 Bv AF AV H k1 AI;go_wp2_with fail
     go_loopw [13,14,15,16,17,18,19] (fun rv t _ _ _ _ _ wr=>∃(Q:Nat) (Ar:Option Addr) (cr:Nat),Q<=64/\t=.int .i64 (Q:Int)/\rv=.slice Ar 8 cr/\8<=cr/\eF W5 wr/\Ws wr Ar 8 (Sha.steps Ks Ww s Q)) (fun _ t _ _ _ _ _ _=>64-(intOf t).toNat)
     case atStart=>exact⟨0,Br,BZ,by omega,rfl,rfl,Bt,Below.refl _ _,AR⟩
     case round =>
      clear AR Bt Bu;obtain⟨Q,Ar,cr,hQ,rfl,rfl,C3,H,hR⟩:=hrel;have A3:eF W wr:=Al.trans (H.mono Al.size);have k1:=Be.out _ A3;by_cases AK:Q<64
      .have N:=AJ.out.below H
       have Aq:=AS.below H;obtain⟨S,G,AW,J,l⟩:=dY hR (by omega);subst AW;have Ce:=hR.len;have Am:=Sha.lf Au Ks Ww Q;have HS:=eA (show Sha.steps Ks Ww s (Q+1)=Sha.step (Ks.getD Q 0) (Ww.getD Q 0) (Sha.steps Ks Ww s Q) from rfl);generalize Sha.steps Ks Ww s Q=R at *;have e0:wr.cell? ⟨S,G,none⟩=some (.int .u64 ((R.getD 0 0:Nat):Int)):=l 0 _ (gT R (by omega));have e1:=l 1 _ (gT R (by omega));have e2:=l 2 _ (gT R (by omega));have e3:=l 3 _ (gT R (by omega));have e4:=l 4 _ (gT R (by omega));have e5:=l 5 _ (gT R (by omega));have e6:=l 6 _ (gT R (by omega));have e7:=l 7 _ (gT R (by omega));have ek:=(H.cell (p:=⟨gk,ok+Q,none⟩) Bx).trans (B3.out Q _ (gT Ks (by rw[B5.out];exact AK)))
       have ew:=(H.cell (p:=⟨f,o7+Q,none⟩) Bz).trans (B4.out Q _ (gT Ww (by rw[B6.out];omega)))
       have SR:=eA (StepR.mk' Am (HK.out.at_ Q) (AU.out.at_ Q) HS.out);have b0:=Am.at_ 0;have b4:=Am.at_ 4;have M1:=eA (show lP wr B cB (R.getD 4 0) false (Sha.big1 (R.getD 4 0)) from .mk _ _ _ _ _ _ _ Aq.b b4 (by omega) (by omega) (by omega));have M2:=eA (show lP wr A cA (R.getD 0 0) false (Sha.big0 (R.getD 0 0)) from .mk _ _ _ _ _ _ _ Aq.a b0 (by omega) (by omega) (by omega));generalize R.getD 0 0=r0 at *;generalize R.getD 1 0=r1 at *;generalize R.getD 2 0=r2 at *;generalize R.getD 3 0=r3 at *;generalize R.getD 4 0=r4 at *;generalize R.getD 5 0=r5 at *;generalize R.getD 6 0=r6 at *;generalize R.getD 7 0=r7 at *;generalize Ks.getD Q 0=kt at *;generalize Ww.getD Q 0=wt at *;generalize Sha.big1 r4=p1 at *;generalize Sha.big0 r0=p2 at *;have r:∀w',eF wr w'->w'.cell? ⟨S,G+1,none⟩=some (.int .u64 (r1:Int))/\w'.cell? ⟨S,G+2,none⟩=some (.int .u64 (r2:Int))/\w'.cell? ⟨S,G+3,none⟩=some (.int .u64 (r3:Int))/\w'.cell? ⟨S,G+5,none⟩=some (.int .u64 (r5:Int))/\w'.cell? ⟨S,G+6,none⟩=some (.int .u64 (r6:Int))/\w'.cell? ⟨S,G+7,none⟩=some (.int .u64 (r7:Int))/\w'.cell? ⟨gk,ok+Q,none⟩=some (.int .u64 (kt:Int))/\w'.cell? ⟨f,o7+Q,none⟩=some (.int .u64 (wt:Int))/\w'.cell? ⟨w.heap.size,2,none⟩=some (.slice A 3 cA)/\w'.cell? ⟨w.heap.size,3,none⟩=some (.slice B 3 cB)/\w'.cell? ⟨w.heap.size,6,none⟩=some (.slice (some ⟨gk,ok,none⟩) 64 cK)/\(eZ (.pointer (some ⟨w.heap.size,0,none⟩))).run prog w'=.ok (.agg o.toArray) w':=fun w' L =>
        ⟨(L.cell (p:=⟨S,G+1,none⟩) J).trans e1,(L.cell (p:=⟨S,G+2,none⟩) J).trans e2,(L.cell (p:=⟨S,G+3,none⟩) J).trans e3,(L.cell (p:=⟨S,G+5,none⟩) J).trans e5,(L.cell (p:=⟨S,G+6,none⟩) J).trans e6,(L.cell (p:=⟨S,G+7,none⟩) J).trans e7,(L.cell (p:=⟨gk,ok+Q,none⟩) (Nat.lt_of_lt_of_le Bx H.size)).trans ek,(L.cell (p:=⟨f,o7+Q,none⟩) (Nat.lt_of_lt_of_le Bz H.size)).trans ew,((N.below L).cell 2).trans (by rw[Aq.eq];rfl),((N.below L).cell 3).trans (by rw[Aq.eq];rfl),((N.below L).cell 6).trans (by rw[Aq.eq];rfl),ja (N.below L) U.len⟩
       have E:=eA r;clear r;have Cf:=ja N U.len;have A4:=eA (ti o U 18446744073709551615 wr);have C4:(Q:Int)<64:=by omega
       have C5:(Q:Int)<(n:Int):=by omega
       have C6:(0:Int)<=(Q:Int):=by omega
       clear l e1 e2 e3 e5 e6 e7 ek ew Aq Ce Am b0 b4;go_wp2_with fail
       refine(A4.out).mono ?_;rintro e g ⟨rfl,Aa⟩;rw[show Int.tmod (18446744073709551615:Int) 4294967296=4294967295 by decide];clear A4 Cf e0 e4;go_wp2_with fail
       have M:∀p,eF wr (ab g p):=fun p=>Aa.trans ((aa g p).mono Aa.size);have f0:∀p,(ab g p).cell? ⟨S,G+1,none⟩=some (.int .u64 (r1:Int)):=fun p=>(E.out _ (M p)).1;have f1:∀p,(ab g p).cell? ⟨S,G+2,none⟩=some (.int .u64 (r2:Int)):=fun p=>(E.out _ (M p)).2.1;have f2:∀p,(ab g p).cell? ⟨S,G+3,none⟩=some (.int .u64 (r3:Int)):=fun p=>(E.out _ (M p)).2.2.1;have f3:∀p,(ab g p).cell? ⟨S,G+5,none⟩=some (.int .u64 (r5:Int)):=fun p=>(E.out _ (M p)).2.2.2.1;have f4:∀p,(ab g p).cell? ⟨S,G+6,none⟩=some (.int .u64 (r6:Int)):=fun p=>(E.out _ (M p)).2.2.2.2.1;have f5:∀p,(ab g p).cell? ⟨S,G+7,none⟩=some (.int .u64 (r7:Int)):=fun p=>(E.out _ (M p)).2.2.2.2.2.1;have f6:∀p,(ab g p).cell? ⟨gk,ok+Q,none⟩=some (.int .u64 (kt:Int)):=fun p=>(E.out _ (M p)).2.2.2.2.2.2.1;have f7:∀p,(ab g p).cell? ⟨f,o7+Q,none⟩=some (.int .u64 (wt:Int)):=fun p=>(E.out _ (M p)).2.2.2.2.2.2.2.1;have f8:∀p,(ab g p).cell? ⟨w.heap.size,2,none⟩=some (.slice A 3 cA):=fun p=>(E.out _ (M p)).2.2.2.2.2.2.2.2.1;have f9:∀p,(ab g p).cell? ⟨w.heap.size,3,none⟩=some (.slice B 3 cB):=fun p=>(E.out _ (M p)).2.2.2.2.2.2.2.2.2.1;have A5:∀p,(ab g p).cell? ⟨w.heap.size,6,none⟩=some (.slice (some ⟨gk,ok,none⟩) 64 cK):=fun p=>(E.out _ (M p)).2.2.2.2.2.2.2.2.2.2.1;have Ah:∀p,(eZ (.pointer (some ⟨w.heap.size,0,none⟩))).run prog (ab g p)=.ok (.agg o.toArray) (ab g p):=fun p=>(E.out _ (M p)).2.2.2.2.2.2.2.2.2.2.2;have HM:Hid (∀p,Calls prog 157 #[.agg o.toArray,.int .u64 (r4:Int),.slice B 3 cB,.bool false] (ab g p) fun e V=>e=.returned (.int .u64 (p1:Int))/\Below (ab g p).heap.size (ab g p) V):=eA fun p=>mix_any M1.out U (M p);refine au ?_;repeat (go_big_quiet_step (first|(go_at_call 157;exact aq (HM.out _))|(go_at_call 158;exact aq (ti o U _ _))))
       refine wpQuiet_nil ?_;rintro _ ⟨px,rfl⟩;clear HM M Ah f0 f1 f2 f3 f4 f5 f6 f7 f8 f9 A5;rw[stepX_int SR.out.b4 SR.out.b6 SR.out.b5];have B7:=eA SR.out.eq;have C7:(r7+p1+((r4 &&& r5) ^^^ ((4294967295 ^^^ r4) &&& r6))+kt+wt) % 4294967296<4294967296:=Nat.mod_lt _ (by omega);generalize (r7+p1+((r4 &&& r5) ^^^ ((4294967295 ^^^ r4) &&& r6))+kt+wt) % 4294967296=X at *;have A6:eF wr (ab g px):=Aa.trans ((aa g px).mono Aa.size);generalize ab g px=w7 at *;clear Aa g;go_wp2_with fail
       have M:∀p,eF wr (ab w7 p):=fun p=>A6.trans ((aa w7 p).mono A6.size);have f0:∀p,(ab w7 p).cell? ⟨S,G+1,none⟩=some (.int .u64 (r1:Int)):=fun p=>(E.out _ (M p)).1;have f1:∀p,(ab w7 p).cell? ⟨S,G+2,none⟩=some (.int .u64 (r2:Int)):=fun p=>(E.out _ (M p)).2.1;have f2:∀p,(ab w7 p).cell? ⟨S,G+3,none⟩=some (.int .u64 (r3:Int)):=fun p=>(E.out _ (M p)).2.2.1;have f3:∀p,(ab w7 p).cell? ⟨S,G+5,none⟩=some (.int .u64 (r5:Int)):=fun p=>(E.out _ (M p)).2.2.2.1;have f4:∀p,(ab w7 p).cell? ⟨S,G+6,none⟩=some (.int .u64 (r6:Int)):=fun p=>(E.out _ (M p)).2.2.2.2.1;have f5:∀p,(ab w7 p).cell? ⟨S,G+7,none⟩=some (.int .u64 (r7:Int)):=fun p=>(E.out _ (M p)).2.2.2.2.2.1;have f6:∀p,(ab w7 p).cell? ⟨gk,ok+Q,none⟩=some (.int .u64 (kt:Int)):=fun p=>(E.out _ (M p)).2.2.2.2.2.2.1;have f7:∀p,(ab w7 p).cell? ⟨f,o7+Q,none⟩=some (.int .u64 (wt:Int)):=fun p=>(E.out _ (M p)).2.2.2.2.2.2.2.1;have f8:∀p,(ab w7 p).cell? ⟨w.heap.size,2,none⟩=some (.slice A 3 cA):=fun p=>(E.out _ (M p)).2.2.2.2.2.2.2.2.1;have f9:∀p,(ab w7 p).cell? ⟨w.heap.size,3,none⟩=some (.slice B 3 cB):=fun p=>(E.out _ (M p)).2.2.2.2.2.2.2.2.2.1;have A5:∀p,(ab w7 p).cell? ⟨w.heap.size,6,none⟩=some (.slice (some ⟨gk,ok,none⟩) 64 cK):=fun p=>(E.out _ (M p)).2.2.2.2.2.2.2.2.2.2.1;have Ah:∀p,(eZ (.pointer (some ⟨w.heap.size,0,none⟩))).run prog (ab w7 p)=.ok (.agg o.toArray) (ab w7 p):=fun p=>(E.out _ (M p)).2.2.2.2.2.2.2.2.2.2.2;have HM:Hid (∀p,Calls prog 157 #[.agg o.toArray,.int .u64 (r0:Int),.slice A 3 cA,.bool false] (ab w7 p) fun e V=>e=.returned (.int .u64 (p2:Int))/\Below (ab w7 p).heap.size (ab w7 p) V):=eA fun p=>mix_any M2.out U (M p);refine au ?_;repeat (go_big_quiet_step (first|(go_at_call 157;exact aq (HM.out _))|(go_at_call 158;exact aq (ti o U _ _))))
       refine wpQuiet_nil ?_;rintro _ ⟨py,rfl⟩;clear HM M Ah f0 f1 f2 f3 f4 f5 f6 f7 f8 f9 A5;rw[stepY_int SR.out.b0 SR.out.b1 SR.out.b2];have C8:(p2+((r0 &&& r1) ^^^ (r0 &&& r2) ^^^ (r1 &&& r2))) % 4294967296<4294967296:=Nat.mod_lt _ (by omega);generalize (p2+((r0 &&& r1) ^^^ (r0 &&& r2) ^^^ (r1 &&& r2))) % 4294967296=Y at *;have A8:eF wr (ab w7 py):=A6.trans ((aa w7 py).mono A6.size);generalize ab w7 py=w8 at *;clear A6 w7;go_wp2_with fail
       have b3:=SR.out.b3;have M:∀p,eF wr (ab w8 p):=fun p=>A8.trans ((aa w8 p).mono A8.size);have f0:∀p,(ab w8 p).cell? ⟨S,G+1,none⟩=some (.int .u64 (r1:Int)):=fun p=>(E.out _ (M p)).1;have f1:∀p,(ab w8 p).cell? ⟨S,G+2,none⟩=some (.int .u64 (r2:Int)):=fun p=>(E.out _ (M p)).2.1;have f2:∀p,(ab w8 p).cell? ⟨S,G+3,none⟩=some (.int .u64 (r3:Int)):=fun p=>(E.out _ (M p)).2.2.1;have f3:∀p,(ab w8 p).cell? ⟨S,G+5,none⟩=some (.int .u64 (r5:Int)):=fun p=>(E.out _ (M p)).2.2.2.1;have f4:∀p,(ab w8 p).cell? ⟨S,G+6,none⟩=some (.int .u64 (r6:Int)):=fun p=>(E.out _ (M p)).2.2.2.2.1;have f5:∀p,(ab w8 p).cell? ⟨S,G+7,none⟩=some (.int .u64 (r7:Int)):=fun p=>(E.out _ (M p)).2.2.2.2.2.1;have f6:∀p,(ab w8 p).cell? ⟨gk,ok+Q,none⟩=some (.int .u64 (kt:Int)):=fun p=>(E.out _ (M p)).2.2.2.2.2.2.1;have f7:∀p,(ab w8 p).cell? ⟨f,o7+Q,none⟩=some (.int .u64 (wt:Int)):=fun p=>(E.out _ (M p)).2.2.2.2.2.2.2.1;have f8:∀p,(ab w8 p).cell? ⟨w.heap.size,2,none⟩=some (.slice A 3 cA):=fun p=>(E.out _ (M p)).2.2.2.2.2.2.2.2.1;have f9:∀p,(ab w8 p).cell? ⟨w.heap.size,3,none⟩=some (.slice B 3 cB):=fun p=>(E.out _ (M p)).2.2.2.2.2.2.2.2.2.1;have A5:∀p,(ab w8 p).cell? ⟨w.heap.size,6,none⟩=some (.slice (some ⟨gk,ok,none⟩) 64 cK):=fun p=>(E.out _ (M p)).2.2.2.2.2.2.2.2.2.2.1;have Ah:∀p,(eZ (.pointer (some ⟨w.heap.size,0,none⟩))).run prog (ab w8 p)=.ok (.agg o.toArray) (ab w8 p):=fun p=>(E.out _ (M p)).2.2.2.2.2.2.2.2.2.2.2;refine bz 26 ?_;simp only[List.take_succ_cons,List.take_zero,List.drop_succ_cons,List.drop_zero];repeat (go_big_quiet_step (first|(go_at_call 158;exact aq (ti o U _ _))))
       refine wpQuiet_nil ?_;rintro _ ⟨pz,rfl⟩;clear M Ah f0 f1 f2 f3 f4 f5 f6 f7 f8 f9 A5;rw[uh X Y,uh r3 X];generalize (X+Y) % 4294967296=Z0 at *;generalize (r3+X) % 4294967296=Z4 at *;have B8:eF wr (ab w8 pz):=A8.trans ((aa w8 pz).mono A8.size);generalize ab w8 pz=w9 at *;clear A8 w8;have B9:Blk (w9.alloc (.cells (wv (Sha.steps Ks Ww s (Q+1))).toArray 151)) w9.heap.size (wv (Sha.steps Ks Ww s (Q+1))) 151:=Blk.new _ _ _;have An:=eA (Ws.of_blk B9);have BA:=eA (show (Sha.steps Ks Ww s (Q+1)).length=8 from Sha.og Cd.out _ _ _);have A9:=(H.trans (B8.mono H.size)).alloc (Nat.le_trans H.size B8.size) (.cells (wv (Sha.steps Ks Ww s (Q+1))).toArray 151);rw[BA.out] at An;clear B9;rw[B7.out] at An A9;have AX:eF W5 (w9.alloc (.cells (wv _).toArray 151)):=A9;simp only[wv,List.map_cons,List.map_nil] at An AX;have Cg:=eA AX;clear A9 AX;go_wp2;go_roundw
       case rel=>exact⟨Q+1,some ⟨w9.heap.size,0,none⟩,8,by omega,by go_num,rfl,by omega,Cg.out,by rw[B7.out];exact An.out⟩
       case measure=>simp[intOf];omega
      .have BB:Q=64:=by omega
       have AY:=eA (AJ.out.below H);have Ap:=Bb.below A3;have BC:=hR.len;have BD:=Ap.len;have BE:=eA (Sha.lf Au Ks Ww Q);have AZ:=eA Au;have Ch:=eA (show Sha.block Ks s b=Sha.li (Sha.steps Ks Ww s Q) s 8 by unfold Sha.block;rw[<-Bw.out,BB])
       have Cu:64<=Q:=by omega
       clear BB AK hQ;have AL:=Av.trans (A3.mono Av.size);obtain⟨S,G,AW,J,l⟩:=dY hR (by omega);subst AW;obtain⟨gs,os,Ci,BF,BG⟩:=dY Ap (by omega);subst Ci;have Cj:=eA l;have Ck:=eA BG;have Cl:=eA BC;have BI:=eA BD;clear Ap hR l BG BC BD HK AU AS HH B3 B4 B5 B6 Bw;generalize Sha.steps Ks Ww s Q=R at *;obtain⟨wo,Cm⟩:∃wo,wo=wr:=⟨_,rfl⟩;subst Cm;go_wp2_with fail
       go_loopw [20,21] (fun v i wx=>∃(j:Nat) (A7:Option Addr) (c7:Nat),j<=8/\i=.int .i64 (j:Int)/\v=.slice A7 j c7/\j<=c7/\eF wo wx/\wx.ownsRow wo.heap.size 151 1 (.slice A7 j c7) j (wv (Sha.li R s j))) (fun _ i _=>8-(intOf i).toNat)
       case atStart=>exact⟨0,none,0,by omega,rfl,rfl,by omega,Below.refl _ _,World.ownsRow_nil _ _ _ _⟩
       case round =>
        obtain⟨j,Cn,Co,hj,rfl,rfl,Cq,Z,I⟩:=hrel;by_cases BJ:j<8
        .have N:=AY.out.below Z
         have HS:=eA (show Sha.li R s (j+1)=Sha.li R s j++[(R.getD j 0+s.getD j 0) % 4294967296] from rfl);have er:=(Z.cell (p:=⟨S,G+j,none⟩) J).trans (Cj.out j _ (gT R (by rw[Cl.out];exact BJ)))
         have es:=(Z.cell (p:=⟨gs,os+j,none⟩) BF).trans (Ck.out j _ (gT s (by rw[BI.out];exact BJ)))
         have bx:=BE.out.at_ j;have bs:=AZ.out.at_ j;generalize R.getD j 0=x at *;generalize s.getD j 0=y at *;have f1:∀p,(ab wr p).cell? ⟨S,G+j,none⟩=some (.int .u64 (x:Int)):=fun p=>(ap (Nat.lt_of_lt_of_le J Z.size) p).trans er;have f2:∀p,(ab wr p).cell? ⟨gs,os+j,none⟩=some (.int .u64 (y:Int)):=fun p=>(ap (Nat.lt_of_lt_of_le BF Z.size) p).trans es;have Ah:∀p,(eZ (.pointer (some ⟨w.heap.size,0,none⟩))).run prog (ab wr p)=.ok (.agg o.toArray) (ab wr p):=fun p=>ja (N.below (aa wr p)) U.len;have C9:(0:Int)<=(j:Int):=by omega
         have CA:(j:Int)<8:=by omega
         have CB:(j:Int)<(cs:Int):=by omega
         have Aw:j+1<=maxLen:=by unfold maxLen;omega
         clear er es N;go_wp2_with fail
         refine fd [0] [1,2,3,4,5,6,7,8,9,10,11] 12 (by kernel_rfl) (by kernel_rfl) ?_;simp only[pick,List.getD_cons_zero,List.getD_cons_succ,List.drop_succ_cons,List.drop_zero];repeat (go_big_quiet_step (fail))
         refine wpQuiet_nil ?_;repeat (go_big_quiet_step (first|(go_at_call 158;exact aq (ti o U _ _))))
         refine wpQuiet_nil ?_;rintro _ ⟨pz,rfl⟩;clear f1 f2 Ah;rw[uh x y];generalize (x+y) % 4294967296=z at *;have Ba:eF wo (ab wr pz):=Z.trans ((aa wr pz).mono Z.size);have Ai:=dX I (aa wr pz);generalize ab wr pz=w3 at *;have BK:wo.heap.size<=w3.heap.size:=Ba.size;clear I Z;go_wp2_with (at_builtin;go_must (refine bi rfl (.tmp 205) (.tmp 217) 112 rfl wo.heap.size i0 (.int .u64 0) 8 underlying112 hi AA AB AC rfl _ _ _ rfl Ai rfl rfl Aw (by omega) BK ?_))
         intro A' c' g O AM Bh J;have Aa:=bC Ba J BK Ai eH;have Ae:wv (Sha.li R s j)++[.int .u64 (z:Int)]=wv (Sha.li R s (j+1)):=by rw[HS.out,jC];rfl
         rw[Ae] at O;clear Ai J Ae Ba;go_wp2;rw[ak];go_wp2;go_roundw
         case rel=>exact⟨j+1,A',c',by omega,by go_num,rfl,AM,Aa,O⟩
         case measure=>simp[intOf];omega
        .have Cr:j=8:=by omega
         subst Cr;go_wp2;go_ret;exact⟨Cn,Co,rfl,Cq,by rw[Ca.out,Ch.out];exact Ws.of_own I,AL.trans (Z.mono AL.size)⟩
end
section
open Go.RowKit Mem
def vx(d:List UInt8)(z:Nat):List UInt8:=d++[128]++List.replicate z 0
theorem pad_zero(d:List UInt8):bv d++[.int .u8 128]=bv (vx d 0):=by simp[vx,bv]
theorem pad_more(d:List UInt8)(z:Nat):bv (vx d z)++[.int .u8 0]=bv (vx d (z+1)):=by
 unfold vx
 rw[List.replicate_succ',<-List.append_assoc,dW (d++[128]++List.replicate z 0)]
 rfl
theorem full_pad(d:List UInt8):bv (vx d (Sha.ee d.length))++bv (Sha.be 8 (8*d.length))=bv (Sha.dh d):=by rw[<-dW];rfl
theorem rep_more(j:Nat):bv (List.replicate j 0)++[.int .u8 0]=bv (List.replicate (j+1) 0):=by
 rw[List.replicate_succ',dW]
 rfl
def lenV:Value->Nat
 | .slice _ n _=>n
 | _=>0
theorem p7{n z k:Nat}(B:k=n+1+z)(A:z<Sha.ee n):∃r,0<r/\(k+8) % 64=r:=by
 refine⟨_,?_,rfl⟩
 unfold Sha.ee at A
 omega
theorem p8{n z k:Nat}(B:k=n+1+z)(A:z=Sha.ee n):(k+8) % 64=0:=by
 unfold Sha.ee at A
 omega
theorem rsum_any(hc:List Value)(A:Option Addr)(cA:Nat)(B:Option Addr)(cB:Nat)(C:Option Addr)(cC:Nat)(D:Option Addr)(cD:Nat)(K:Option Addr)(cK:Nat)(F:Option Addr)(cF:Nat)
  (Ad:Option Addr) (n c:Nat) (d:List UInt8) (w:World) (h:HIn w hc A cA B cB C cC D cD K cK F cF) (hd:Bs w w.heap.size Ad n d) (hn:n<=1000000) :
  Calls prog 78 #[.agg hc.toArray,.slice Ad n c] w fun e w'=>∃A' c',e=.returned (.slice A' 32 c')/\32<=c'/\w'.ownsRow w.heap.size 5 1 (.slice A' 32 c') 32 (bv (Sha.sum (Sha.bJ 3 64) (Sha.bJ 2 8) d))/\eF w w':=by
 obtain⟨i0,hi,Ac,Ae,Af⟩:=an rx
 obtain⟨i1,Bg,Bh,Bi,Aq⟩:=an infoW
 have Al:=h.h32
 have Bj:=eA hd.len
 obtain⟨W,hW⟩:=eC (w.alloc (.cells hc.toArray 114))
 have BH:Blk W w.heap.size hc 114:=by rw[<-hW];exact Blk.new _ _ _
 have l:eF w W:=eG hW
 have BS:w.heap.size<=W.heap.size:=l.size
 have HH:HIn W hc A cA B cB C cC D cD K cK F cF:=h.below l
 have AO:Bs W W.heap.size Ad n d:=cV hd l
 have Ar:Hid (∀wr,eF W wr->wr.cell? ⟨w.heap.size,0,none⟩=some (.int .i64 32)):=eA fun wr hr=>((BH.below hr).cell 0).trans Al.bits
 have HW:=eA hW
 have J:0+n<=maxLen:=by unfold maxLen;omega
 have A0:n+1<=maxLen:=by unfold maxLen;omega
 clear hW hd h
 go_enter func78,ntmps78
 go_upto_region 1 with fail
 rw[HW.out]
 go_wp2_with (at_builtin;go_must (refine aK W rfl (.tmp 15) (.tmp 16) 62 rfl W.heap.size 5 i0 (.int .u8 0) 1 1 underlying62 hi Ac Ae Af rfl (by omega) _ 0 [] rfl (World.ownsRow_nil _ _ _ _) W.heap.size _ n _ _ rfl AO (jj _) J (by omega) eH ?_))
 intro A5 c5 w5 N g5 Bk G
 have AB:eF W w5:=Mem.aH (Below.refl _ _) G eH (World.ownsRow_nil W W.heap.size 5 1)
 have N:w5.ownsRow W.heap.size 5 1 (.slice A5 n c5) n (bv d):=by simpa using N
 have L:W.heap.size<=w5.heap.size:=AB.size
 clear G AO
 go_wp2_with (at_builtin;go_must (refine bi rfl (.tmp 18) (.tmp 19) 62 rfl W.heap.size i0 (.int .u8 0) 1 underlying62 hi Ac Ae Af rfl _ _ _ rfl N rfl rfl A0 (by omega) L ?_))
 intro A6 c6 w6 X g6 Bl A1
 have AC:=bC AB A1 L N eH
 have X:w6.ownsRow W.heap.size 5 1 (.slice A6 (n+1) c6) (n+1) (bv (vx d 0)):=by rw[<-pad_zero];exact X
 have k6:=Ar.out _ AC
 clear N A1 AB L g5 Bk g6 Bl J A0
 go_wp2_with fail
 go_loopw [5] (fun v wr=>∃(z k:Nat) (A5:Option Addr) (c5:Nat),z<=Sha.ee n/\Hid (k=n+1+z)/\k<=n+65/\v=.slice A5 k c5/\eF W wr/\wr.ownsRow W.heap.size 5 1 (.slice A5 k c5) k (bv (vx d z))) (fun v _=>n+66-lenV v)
 case atStart=>exact⟨0,n+1,A6,c6,by omega,eA rfl,by omega,rfl,AC,X⟩
 case round =>
  clear k6 X AC;obtain⟨z,k,A5,c5,hz,HK,hk,rfl,R,U⟩:=hrel;have k0:=Ar.out _ R;have Bm:(k:Int)+8<=2000000:=by omega
  have Bn:(0:Int)<=(k:Int):=by omega
  by_cases Au:z<Sha.ee n
  .obtain⟨r,Bo,hr⟩:=p7 HK.out Au
   have ht:Int.tmod ((k:Int)+8) 64=(r:Int):=by rw[<-hr];exact fX (k+8) 64
   have AD:((k:Int)+8) % 64=(r:Int):=by rw[<-hr];omega
   have Bp:((r:Int) != 0)=true:=by simp;omega
   have HZ:=eA Au;have J:k+1<=maxLen:=by unfold maxLen;omega
   have L:W.heap.size<=wr.heap.size:=R.size;clear hr hz Au;go_wp2_with (at_builtin;go_must (refine bi rfl (.tmp 33) (.tmp 34) 62 rfl W.heap.size i0 (.int .u8 0) 1 underlying62 hi Ac Ae Af rfl _ _ _ rfl U rfl rfl J (by omega) L ?_))
   intro A' c' w2 H AE AP G;have AF:=bC R G L U eH;rw[pad_more] at H;have Bq:z<Sha.ee n:=HZ.out;have AQ:Sha.ee n<64:=Nat.mod_lt _ (by omega);have Br:=eA (show k+1<=n+65 by have:=HK.out;omega)
   clear U G R ht AD Bp Bo Bq AQ;go_wp2;go_roundw
   case rel=>exact⟨z+1,k+1,A',c',HZ.out,eA (by rw[HK.out];omega),Br.out,rfl,AF,H⟩
   case measure=>simp[lenV];omega
  .have Av:z=Sha.ee n:=by omega
   have hr:=p8 HK.out Av;have ht:Int.tmod ((k:Int)+8) 64=0:=by
    have:=fX (k+8) 64;rw[hr] at this;exact this
   have AD:((k:Int)+8) % 64=0:=by omega
   rw[Av] at U;have BT:=eA (show k=n+1+Sha.ee n by rw[HK.out,Av]);clear hr hz Au Av HK;obtain⟨wo,Bt⟩:∃wo,wo=wr:=⟨_,rfl⟩;subst Bt;go_wp2_with fail
   have BU:k+8<=2000000:=by omega
   have Am:=R;clear ht AD k0 Bm Bn;go_loopw [8,9] (fun v i wx=>∃(j:Nat) (A8:Option Addr) (c8:Nat),j<=8/\i=.int .i64 (j:Int)/\v=.slice A8 j c8/\eF wo wx/\wx.ownsRow wo.heap.size 5 1 (.slice A8 j c8) j (bv (List.replicate j 0))) (fun _ i _=>8-(intOf i).toNat)
   case atStart=>exact⟨0,none,0,by omega,rfl,rfl,Below.refl _ _,World.ownsRow_nil _ _ _ _⟩
   case round =>
    obtain⟨j,A8,c8,hj,rfl,rfl,R,E⟩:=hrel;by_cases AG:j<8
    .have J:j+1<=maxLen:=by unfold maxLen;omega
     have L:wo.heap.size<=wr.heap.size:=R.size;go_wp2_with (at_builtin;go_must (refine bi rfl (.tmp 44) (.tmp 45) 62 rfl wo.heap.size i0 (.int .u8 0) 1 underlying62 hi Ac Ae Af rfl _ _ _ rfl E rfl rfl J (by omega) L ?_))
     intro A' c' w2 H AE AP G;have AF:=bC R G L E eH;rw[rep_more] at H;clear E G R;go_wp2;go_roundw
     case rel=>exact⟨j+1,A',c',by omega,by go_num,rfl,AF,H⟩
     case measure=>simp[intOf];omega
    .have Ag:j=8:=by omega
     have HJ:=eA Ag;have BL:8<=j:=by omega
     have BM:j<=8:=by omega
     obtain⟨g8,rfl,AR,BN⟩:=fT E (by omega);have BO:j<=c8:=by obtain⟨_,_,e,h1,_⟩:=aj E;injection e with _ _ e;omega
     obtain⟨w1,Bu⟩:∃w1,w1=wr:=⟨_,rfl⟩;subst Bu;have Ab:w1.ownsRow wo.heap.size 5 1 (.slice (some ⟨g8,0,none⟩) j c8) j (bv (List.replicate (8-0) 0++Sha.be 0 (8*n))):=by rw[Ag] at E ⊢;exact E
     have A2:=R;clear hj Ag E AG;go_wp2_with fail
     go_loopw [7,10] (fun v i wx=>∃q:Nat,q<=8/\i=.int .i64 (7-(q:Int))/\v=.int .i64 ((Sha.rem (8*n) q:Nat):Int)/\eF wo wx/\wx.ownsRow wo.heap.size 5 1 (.slice (some ⟨g8,0,none⟩) j c8) j (bv (List.replicate (8-q) 0++Sha.be q (8*n)))) (fun _ i _=>(intOf i+1).toNat)
     case atStart=>exact⟨0,by omega,rfl,by simp[Sha.rem],A2,Ab⟩
     case round =>
      clear Ab A2;obtain⟨q,hq,rfl,rfl,hb,E⟩:=hrel;by_cases h8:q<8
      .obtain⟨V,Bv⟩:∃V:Nat,7-q=V:=⟨_,rfl⟩
       have e1:(7-(q:Int))=(V:Int):=by omega
       have BV:V<=7:=by omega
       have BW:(V:Int)<(j:Int):=by omega
       have hx:Sha.rem (8*n) q<=8000000:=Nat.le_trans (rem_le _ q) (by omega);have HS:=eA (Sha.be_set 8 q (8*n) h8);rw[show 8-q-1=V by omega] at HS;have HR:=eA (show Sha.rem (8*n) (q+1)=Sha.rem (8*n) q / 256 from rfl);have hl:(List.replicate (8-q) 0++Sha.be q (8*n)).length=8:=by rw[List.length_append,List.length_replicate,Sha.lO];omega
       generalize List.replicate (8-q) 0++Sha.be q (8*n)=O at *;generalize Sha.rem (8*n) q=x at *;have cd:wr.cell? ⟨g8,V,none⟩=some (.int .u8 (O[V]'(by omega)).toNat):=by
        have:=E.cells (g:=g8) rfl V (.int .u8 (O[V]'(by omega)).toNat) (by rw[pt,List.getElem?_eq_getElem (by omega)];rfl)
        rwa [aZ] at this
       have cf:wr.frozen? ⟨g8,V,none⟩=false:=E.frozenAt V;have ch:g8<wr.heap.size:=(E.lt g8 rfl).2;generalize (O[V]'(by omega)).toNat=od at *;have hr:=fX x 256;have AH:=iY x 256;obtain⟨r,AS⟩:=eC (x % 256);obtain⟨y,Aq⟩:=eC (x / 256);have Bw:r<256:=by omega
       have BX:y<=8000000:=by omega
       have BY:(x:Int) % 256=(r:Int):=by omega
       have BZ:(x:Int) / 256=(y:Int):=by omega
       rw[AS] at hr HS;rw[Aq] at AH HR;have hr:Int.tmod (x:Int) 256=(r:Int):=hr;have AH:Int.tdiv (x:Int) 256=(y:Int):=AH;have AI:=(E.stored V (.int .u8 ((UInt8.ofNat r).toNat:Int))).1;rw[bv_set,HS.out,UInt8.toNat_ofNat_of_lt' (show r<256 from Bw)] at AI;have Bx:(intOf (Value.int IntKind.i64 ((V:Int)-1))+1).toNat<(intOf (Value.int IntKind.i64 (V:Int))+1).toNat:=by
        show ((V:Int)-1+1).toNat<((V:Int)+1).toNat
        omega
       have HE:=eA (show ((V:Int)-1)=7-((q+1:Nat):Int) by omega);have By:=eA AI;have Z:=hb.setCell (p:=⟨g8,V,none⟩) AR (.int .u8 (r:Int));clear AS Aq Bv E HS hl AI hb;rw[e1];clear e1;go_wp2;go_roundw
       case rel=>exact⟨q+1,by omega,by rw[HE.out],by rw[HR.out],Z,By.out⟩
       case measure=>exact Bx
      .have An:q=8:=by omega
       have M:wr.ownsRow wo.heap.size 5 1 (.slice (some ⟨g8,0,none⟩) j c8) j (bv (Sha.be 8 (8*n))):=by rw[An] at E;simpa using E
       have AT:(7-(q:Int)) = -1:=by omega
       obtain⟨w2,Bz⟩:∃w2,w2=wr:=⟨_,rfl⟩;subst Bz;have HQ:=eA An;have Ca:8<=q:=by omega
       have HB:=eA hb;have o:=dX U hb;have AJ:=Am.trans (hb.mono Am.size);have b:Vs w2 w2.heap.size 1 (some ⟨g8,0,none⟩) j (bv (Sha.be 8 (8*n))):=Bs.of_own M;have J:k+j<=maxLen:=by unfold maxLen;omega
       have L:W.heap.size<=w2.heap.size:=AJ.size;clear E An AT hq h8 hb U M Am;go_wp2_with (at_builtin;go_must (refine aK w2 rfl (.tmp 61) (.tmp 62) 62 rfl W.heap.size 5 i0 (.int .u8 0) 1 1 underlying62 hi Ac Ae Af rfl (by omega) _ _ _ rfl o w2.heap.size _ j _ _ rfl b (jj _) J (by omega) L ?_))
       intro AA Aw w3 Q gF Cb G;have Z:=Mem.aH AJ G L o;have AU:bv (vx d (Sha.ee n))++bv (Sha.be 8 (8*n))=bv (Sha.dh d):=by rw[<-Bj.out];exact full_pad d
       rw[AU] at Q;clear G o b AU L J AJ;obtain⟨KK,Ax⟩:=eC (k+j);have Cc:KK<=2000000:=by omega
       have AV:=eA (show (Sha.dh d).length=KK by have:=Bs.len (Bs.of_own Q);rw[this,Ax])
       have B0:=eA (show KK % 64=0 by rw[<-AV.out];exact Sha.full_len d)
       have B1:0<KK:=by omega
       rw[Ax] at Q gF;rw[Ax];clear Ax;obtain⟨ga,rfl,BP,BQ⟩:=fT Q B1;have AW:Ws w3 F 8 (Sha.bJ 2 8):=HH.f.below Z;have J:0+8<=maxLen:=by unfold maxLen;omega
       have k7:w3.cell? ⟨w.heap.size,7,none⟩=some (.slice F 8 cF):=((BH.below Z).cell 7).trans (by rw[HH.eq];rfl)
       go_wp2_with (at_builtin;go_must (refine aK w3 rfl (.tmp 64) (.tmp 66) 112 rfl w3.heap.size 151 i1 (.int .u64 0) 1 8 underlying112 Bg Bh Bi Aq rfl (by omega) _ 0 [] rfl (World.ownsRow_nil _ _ _ _) w3.heap.size _ 8 _ _ rfl AW (t7 _) J (by omega) eH ?_))
       intro As cs w4 Y gS B2 G;have Y:w4.ownsRow w3.heap.size 151 1 (.slice As 8 cs) 8 (wv (Sha.bJ 2 8)):=by simpa using Y
       have AX:Ws w4 As 8 (Sha.bY (Sha.bJ 3 64) (Sha.bJ 2 8) (Sha.dh d) 0):=Ws.of_own Y;have AY:eF w3 w4:=Mem.aH (Below.refl _ _) G eH (World.ownsRow_nil w3 w3.heap.size 151 1);clear G Y AW k7 J B2;go_wp2_with fail
       go_loopw [11,12] (fun v i wx=>∃(t q:Nat) (As:Option Addr) (cs:Nat),Hid (q=64*t)/\q<=KK/\i=.int .i64 (q:Int)/\v=.slice As 8 cs/\8<=cs/\eF w3 wx/\Ws wx As 8 (Sha.bY (Sha.bJ 3 64) (Sha.bJ 2 8) (Sha.dh d) t)) (fun _ i _=>KK-(intOf i).toNat)
       case atStart=>exact⟨0,0,As,cs,eA rfl,by omega,rfl,rfl,gS,AY,AX⟩
       case round =>
        clear AX AY gS;obtain⟨t,T,As,cs,Ay,B3,rfl,rfl,B4,Ah,Az⟩:=hrel;have I:=Z.trans (Ah.mono Z.size);have k0:=Ar.out _ I;by_cases B5:T<KK
        .have AZ:T+64<=KK:=by have:=B0.out;have:=Ay.out;omega
         have HS:=eA (show Sha.bY (Sha.bJ 3 64) (Sha.bJ 2 8) (Sha.dh d) (t+1)=Sha.block (Sha.bJ 3 64) (Sha.bY (Sha.bJ 3 64) (Sha.bJ 2 8) (Sha.dh d) t) (((Sha.dh d).drop (64*t)).take 64) from rfl);have Ba:=eA (Sha.lS (Sha.pG 2 8) (Sha.bJ 3 64) (Sha.dh d) t);rw[<-Ay.out] at HS;have b:=(Bs.of_own Q).below Ah;have A3:Bs wr w3.heap.size (some ⟨ga,T,none⟩) 64 (((Sha.dh d).drop T).take 64):=by
          have h1:=(b.tail (k:=T) (cap:=Aw) (by omega) gF (by omega)).take (k:=64) (by omega);simpa [aZ] using h1
         have AK:∀p,(eZ (.pointer (some ⟨w.heap.size,0,none⟩))).run prog (ab wr p)=.ok (.agg hc.toArray) (ab wr p):=fun p=>ja ((BH.below I).below (aa wr p)) Al.len;have f0:∀p,(ab wr p).cell? ⟨w.heap.size,0,none⟩=some (.int .i64 32):=fun p=>((BH.below I).below (aa wr p)).cell 0 |>.trans Al.bits;have B6:IntKind.i64.wrap ((T:Int)+64)=(T:Int)+64:=by rw[IntKind.wrap_i64];omega
         have i2:(0:Int)<=(T:Int):=by omega
         have i3:(T:Int)<=(T:Int)+64:=by omega
         have i4:(T:Int)+64<=(Aw:Int):=by omega
         have i5:¬Aw=T:=by omega
         have i6:((T:Int)+64).toNat=T+64:=by omega
         clear b;go_wp2_with fail
         refine bz 10 ?_;simp only[List.take_succ_cons,List.take_zero,List.drop_succ_cons,List.drop_zero];repeat (go_big_quiet_step (fail))
         refine wpQuiet_nil ?_;rintro _ ⟨pz,rfl⟩;have hg:=aa wr pz;have Ai:=rblock_any hc A cA B cB C cC D cD K cK F cF As cs _ (some ⟨ga,T,none⟩) (Aw-T) _ (ab wr pz) (HH.below (I.trans (hg.mono I.size))) (Az.below hg) Ba.out B4 ((A3.mono Ah.size).below hg |>.mono hg.size);have AL:eF w3 (ab wr pz):=Ah.trans (hg.mono Ah.size);rw[<-HS.out] at Ai;generalize ab wr pz=wg at *;clear AK f0 B6 i2 i3 i4 i5 i6 A3 Az hg Ah I k0;go_wp2_with fail
         refine Ai.mono ?_;rintro e w7 ⟨A7,c7,rfl,B7,B8,Aj⟩;have Ak:=AL.trans (Aj.mono AL.size);have k7:=Ar.out _ (Z.trans (Ak.mono Z.size));have B9:=eA (show T+64=64*(t+1) by rw[Ay.out];omega)
         clear Ai Aj AL;go_wp2;go_roundw
         case rel=>exact⟨t+1,T+64,A7,c7,B9,AZ,by go_num,rfl,B7,Ak,B8⟩
         case measure=>simp[intOf];omega
        .have An:T=KK:=by omega
         have HT:Hid (t=(Sha.dh d).length / 64):=eA (by have:=Ay.out;rw[AV.out];omega)
         have Bb:KK<=T:=by omega
         have BA:=eA (Sha.km (F:=Sha.bJ 2 8) (by simp[Sha.tops_len]) (Sha.bJ 3 64) (Sha.dh d) t);have Bc:=eA (Sha.lS (Sha.pG 2 8) (Sha.bJ 3 64) (Sha.dh d) t);have Bd:=eA (show Sha.sum (Sha.bJ 3 64) (Sha.bJ 2 8) d=Sha.fh (Sha.bY (Sha.bJ 3 64) (Sha.bJ 2 8) (Sha.dh d) t) 8 by unfold Sha.sum;rw[<-HT.out])
         generalize Sha.bY (Sha.bJ 3 64) (Sha.bJ 2 8) (Sha.dh d) t=S at *;obtain⟨gs,os,rfl,Be,Bf⟩:=dY Az (by omega);have BB:=eA Bf;obtain⟨w5,BC⟩:∃w5,w5=wr:=⟨_,rfl⟩;subst BC;have BR:decide (T<KK)=false:=by simp;omega
         clear An B5 B3 k0 Bf Az;go_wp2_with fail
         clear Bb;go_loopw [13,14] (fun v i wx=>∃(j m:Nat) (A9:Option Addr) (c9:Nat),j<=8/\Hid (m=4*j)/\m<=32/\i=.int .i64 (j:Int)/\v=.slice A9 m c9/\m<=c9/\eF w5 wx/\wx.ownsRow w5.heap.size 5 1 (.slice A9 m c9) m (bv (Sha.fh S j))) (fun _ i _=>8-(intOf i).toNat)
         case atStart=>exact⟨0,0,none,0,by omega,eA rfl,by omega,rfl,rfl,by omega,Below.refl _ _,World.ownsRow_nil _ _ _ _⟩
         case round =>
          obtain⟨j,m,A9,c9,hj,HM,hm,rfl,rfl,BD,s,M⟩:=hrel;by_cases AG:j<8
          .have HS:=eA (show Sha.fh S (j+1)=Sha.fh S j++Sha.be 4 (S.getD j 0) from rfl)
           have es:=(s.cell (p:=⟨gs,os+j,none⟩) Be).trans (BB.out j _ (gT S (by rw[BA.out];exact AG)))
           have bs:=Bc.out.at_ j;generalize S.getD j 0=y at *;have A4:=I.trans (s.mono I.size);have f2:∀p,(ab wr p).cell? ⟨gs,os+j,none⟩=some (.int .u64 (y:Int)):=fun p=>(ap (Nat.lt_of_lt_of_le Be s.size) p).trans es;have AK:∀p,(eZ (.pointer (some ⟨w.heap.size,0,none⟩))).run prog (ab wr p)=.ok (.agg hc.toArray) (ab wr p):=fun p=>ja ((BH.below A4).below (aa wr p)) Al.len;have Cd:(0:Int)<=(j:Int):=by omega
           have Ce:(j:Int)<8:=by omega
           have J:m+4<=maxLen:=by unfold maxLen;omega
           clear es;go_wp2_with fail
           refine fd [0] [1,2,3,4,5] 6 (by kernel_rfl) (by kernel_rfl) ?_;simp only[pick,List.getD_cons_zero,List.getD_cons_succ,List.drop_succ_cons,List.drop_zero];repeat (go_big_quiet_step (fail))
           refine wpQuiet_nil ?_;repeat (go_big_quiet_step (fail))
           refine wpQuiet_nil ?_;rintro _ ⟨pz,rfl⟩;have hg:=aa wr pz;have Ao:eF w5 (ab wr pz):=s.trans (hg.mono s.size);have Ap:=dX M hg;have Ai:=rbytes_any hc Al y (by omega) (ab wr pz);generalize ab wr pz=w6 at *;clear f2 AK M s hg A4;go_wp2_with fail
           refine Ai.mono ?_;rintro e w7 ⟨rfl,AM,Aj⟩;have Aa:=dX Ap Aj;have Ak:=Ao.trans (Aj.mono Ao.size);have AN:w5.heap.size<=w7.heap.size:=Ak.size;have b:Vs w7 w7.heap.size 1 (some ⟨w6.heap.size+1,0,none⟩) 4 (bv (Sha.be 4 y)):=⟨by rw[dV,Sha.lO],fun k u hk=>⟨_,rfl,AM.lt,by rw[aZ];exact(AM.cell k).trans hk⟩⟩
           clear Ai AM Ap Aj Ao;go_wp2_with (at_builtin;go_must (refine aK w7 rfl (.tmp 92) (.tmp 98) 62 rfl w5.heap.size 5 i0 (.int .u8 0) 1 1 underlying62 hi Ac Ae Af rfl (by omega) _ _ _ rfl Aa w7.heap.size _ 4 _ _ rfl b (jj _) J (by omega) AN ?_))
           intro A' c' w8 H AE AP G;have BE:=Mem.aH Ak G AN Aa;rw[<-dW,<-HS.out] at H;have BF:=eA (show m+4=4*(j+1) by rw[HM.out];omega)
           have BG:=eA (show m+4<=32 by have:=HM.out;omega)
           clear Aa G Ak b AN J;go_wp2;rw[ak];go_wp2;go_roundw
           case rel=>exact⟨j+1,m+4,A',c',by omega,BF,BG.out,by go_num,rfl,AE,BE,H⟩
           case measure=>simp[intOf];omega
          .have Ag:j=8:=by omega
           have BI:m=32:=by rw[HM.out,Ag]
           subst Ag;subst BI;have BJ:=(l.trans (I.mono l.size)).trans (s.mono (Nat.le_trans l.size I.size));have BK:w.heap.size<=w5.heap.size:=Nat.le_trans l.size I.size;go_wp2;go_ret;exact⟨A9,c9,rfl,BD,by rw[Bd.out];exact aG M BK,BJ⟩
end
section
open Go.RowKit Mem
theorem qz(A:Option Addr)(n c:Nat)(xs:List Int)(V:Option Addr)(n' d:Nat)(ys:List Int)(w:World)(h:Is w A n xs)(X:Is w V n' ys)(u:n<=1000)(f:n'<=1000) :
  Calls prog 155 #[.slice A n c,.slice V n' d] w fun e w'=>e=.returned (.slice (some ⟨w.heap.size,0,none⟩) (n+n') (n+n'))/\Blk w' w.heap.size (iv (Sha.mul xs ys)) 3/\eF w w':=by
 have H:=h.len
 have E:=X.len
 have I:=makeI w (n+n') (by omega)
 have J:=Blk.new w (iv (List.replicate (n+n') 0)) 3
 have K:List.replicate (n+n') 0=Sha.bR xs ys 0:=by unfold Sha.bR;rw[H,E]
 rw[K] at I J
 rw[Int.natCast_add] at I
 have T:eF w (w.alloc (.cells (iv (Sha.bR xs ys 0)).toArray 3)):=eI
 have L:∀i,(Sha.bR xs ys i).length=n+n':=fun i=>by rw[Sha.ky,H,E]
 have C:∀i o j,(Sha.dB xs ys i o j).1.length=o.length:=fun i o j=>by rw[Sha.jL]
 unfold Sha.mul
 have g:=eA H
 have M:=eA E
 rw[H]
 clear H E K
 go_enter func155,ntmps155
 go_wp2
 go_loopw [6] (fun i wr=>∃k:Nat,k<=n/\i=.int .i64 k/\eF w wr/\Blk wr w.heap.size (iv (Sha.bR xs ys k)) 3) (fun i _=>n-(intOf i).toNat)
 case atStart=>exact⟨0,by omega,rfl,T,J⟩
 case round =>
  obtain⟨k,z,rfl,Y,Z⟩:=hrel;by_cases U:k<n
  .have ho:=L k
   have b:Sha.bR xs ys (k+1)=((Sha.dB xs ys k (Sha.bR xs ys k) n').1.set (k+n') (wrap64 ((Sha.dB xs ys k (Sha.bR xs ys k) n').1.getD (k+n') 0+(Sha.dB xs ys k (Sha.bR xs ys k) n').2))):=by
    conv=>lhs;unfold Sha.bR
    rw[M.out]
   have m:=eA b;clear b;generalize Sha.bR xs ys k=o at *;go_wp2;go_loopw [7,8,9] (fun N j _ wr=>∃l:Nat,l<=n'/\j=.int .i64 l/\N=.int .i64 (Sha.dB xs ys k o l).2/\eF w wr/\Blk wr w.heap.size (iv (Sha.dB xs ys k o l).1) 3) (fun _ j _ _=>n' - (intOf j).toNat)
   case atStart=>exact⟨0,by omega,rfl,rfl,Y,Z⟩
   case round =>
    obtain⟨l,H,rfl,rfl,F,B⟩:=hrel;by_cases O:l<n'
    .obtain⟨ba,oa,rfl,r,Q⟩:=dY (h.below F) (by omega)
     obtain⟨bb,ob,rfl,s,R⟩:=dY (X.below F) (by omega);have ca:=Q k _ (dy xs (by rw[g.out];exact U))
     have cb:=R l _ (dy ys (by rw[M.out];exact O))
     have G:=C k o l;have S:=eA (show Sha.dB xs ys k o (l+1)=(let q:=Sha.dB xs ys k o l
      let v:=wrap64 (wrap64 (q.1.getD (k+l) 0+wrap64 (xs.getD k 0*ys.getD l 0))+q.2)
      (q.1.set (k+l) (v.tmod 65536),wrap64 (v.tdiv 65536))) from rfl)
     generalize Sha.dB xs ys k o l=q at *;obtain⟨P,N⟩:=q;dsimp only at *
     have t:wr.cell? ⟨w.heap.size,k+l,none⟩=some (.int .i64 (P.getD (k+l) 0)):=(B.cell _).trans (dy P (by omega));have cf:wr.frozen? ⟨w.heap.size,k+l,none⟩=false:=B.froz _;clear Q R G;generalize xs.getD k 0=x at *;generalize ys.getD l 0=y at *;generalize P.getD (k+l) 0=p at *;go_wp2;go_region
     all_goals
      go_wp2;go_roundw
      case rel =>
       have D:=(B.set (k+l) (.int .i64 ((wrap64 (wrap64 (p+wrap64 (x*y))+N)).tmod 65536))).drew;rw[lx] at D;exact⟨l+1,by omega,by go_num,by rw[S.out],(F.setCell eH _).drew,by rw[S.out];exact D⟩
      case measure=>simp[intOf];omega
    .obtain rfl:l=n':=by omega
     have G:=C k o l;generalize Sha.dB xs ys k o l=q at *;obtain⟨P,N⟩:=q;dsimp only at *
     have t:wr.cell? ⟨w.heap.size,k+l,none⟩=some (.int .i64 (P.getD (k+l) 0)):=(B.cell _).trans (dy P (by omega));have cf:wr.frozen? ⟨w.heap.size,k+l,none⟩=false:=B.froz _;clear G;generalize P.getD (k+l) 0=p at *;go_wp2;go_roundw
     case rel =>
      have D:=B.set (k+l) (.int .i64 (wrap64 (p+N)));rw[lx] at D;exact⟨k+1,by omega,by go_num,F.setCell eH _,by rw[m.out];exact D⟩
     case measure=>simp[intOf];omega
  .obtain rfl:k=n:=by omega
   go_wp2;go_ret;exact⟨rfl,Z,Y⟩
theorem np{xs ys:List Int}(j:Nat):Sha.eu xs ys (j+1)=if xs.getD j 0=ys.getD j 0 then Sha.eu xs ys j else decide (xs.getD j 0<ys.getD j 0):=rfl
theorem nD(xs:List Int)(j:Nat)(h:¬j<xs.length):xs.getD j 0=0:=by
 rw[List.getD_eq_getElem?_getD,List.getElem?_eq_none (by omega)]
 rfl
theorem tj(A:Option Addr)(n c:Nat)(xs:List Int)(Y:Option Addr)(n' l:Nat)(ys:List Int)(w:World)(h:Is w A n xs)(b:Is w Y n' ys)(hn:n<=1000)(o:n'<=1000) :
  Calls prog 156 #[.slice A n c,.slice Y n' l] w fun e w'=>e=.returned (.bool (Sha.less xs ys))/\w=w':=by
 have L:=eA h.len
 have E:=eA b.len
 obtain⟨m,Z⟩:=eD (max n n')
 have g:Sha.less xs ys=Sha.eu xs ys m:=by unfold Sha.less;rw[L.out,E.out,Z.out]
 rw[g]
 obtain⟨r,H⟩:=eC (Sha.eu xs ys m)
 rw[H]
 have M:=eA H
 have q:m<=1000:=by rw[<-Z.out];omega
 clear g H
 by_cases hc:n<n'
 .have N:Hid (n'=m):=eA (by rw[<-Z.out];omega)
  go_enter func156,ntmps156
  go_wp2;go_loop [6] (fun i=>∃k:Nat,k<=m/\i=.int .i64 ((k:Int)-1)/\Hid (Sha.eu xs ys k=r)) (fun i=>(intOf i+1).toNat)
  case atStart=>exact⟨m,by omega,by rw[<-N.out],M⟩
  case round =>
   obtain⟨k,s,rfl,O⟩:=hrel;rcases k with _|j
   .have I:r=false:=by rw[<-O.out];rfl
    subst I;go_wp2;go_ret;exact⟨rfl,rfl⟩
   .have d:(((j+1:Nat):Int)-1)=(j:Int):=by omega
    rw[d];have f:=eA (np (xs:=xs) (ys:=ys) j);have Q:j<n->∃B C,A=some ⟨B,C,none⟩/\w.cell? ⟨B,C+j,none⟩=some (.int .i64 (xs.getD j 0)):=fun D=>by
     obtain⟨B,C,e,_,hx⟩:=dY h (by omega);exact⟨B,C,e,hx j _ (dy xs (by rw[L.out];exact D))⟩
    have R:j<n'->∃B C,Y=some ⟨B,C,none⟩/\w.cell? ⟨B,C+j,none⟩=some (.int .i64 (ys.getD j 0)):=fun D=>by
     obtain⟨B,C,e,_,hx⟩:=dY b (by omega);exact⟨B,C,e,hx j _ (dy ys (by rw[E.out];exact D))⟩
    have S:¬j<n->xs.getD j 0=0:=fun D=>nD xs j (by rw[L.out];exact D)
    have T:¬j<n'->ys.getD j 0=0:=fun D=>nD ys j (by rw[E.out];exact D)
    generalize xs.getD j 0=x at *;generalize ys.getD j 0=y at *;by_cases U:j<n<;>by_cases V:j<n'<;>by_cases F:x=y
    all_goals
     try (exfalso;have:=N.out;omega)
    all_goals
     first|(have J:=S U;subst J)|(obtain⟨t,u,rfl,z⟩:=Q U)
     first|(have K:=T V;first|subst K|skip)|(obtain⟨bb,ob,rfl,cb⟩:=R V)
     clear Q R S T;have G:=f.out;rw[O.out] at G;first|rw[if_pos F] at G|rw[if_neg F] at G
     have X:=eA G;clear G;go_wp2;all_goals
      first
      | (go_ret;exact⟨by rw[X.out];rfl,rfl⟩)
      | (go_round;(case rel=>exact⟨j,by omega,by go_num,eA X.out.symm⟩);(case measure=>simp[intOf]))
 .have N:Hid (n=m):=eA (by rw[<-Z.out];omega)
  go_enter func156,ntmps156
  go_wp2;go_loop [6] (fun i=>∃k:Nat,k<=m/\i=.int .i64 ((k:Int)-1)/\Hid (Sha.eu xs ys k=r)) (fun i=>(intOf i+1).toNat)
  case atStart=>exact⟨m,by omega,by rw[<-N.out],M⟩
  case round =>
   obtain⟨k,s,rfl,O⟩:=hrel;rcases k with _|j
   .have I:r=false:=by rw[<-O.out];rfl
    subst I;go_wp2;go_ret;exact⟨rfl,rfl⟩
   .have d:(((j+1:Nat):Int)-1)=(j:Int):=by omega
    rw[d];have f:=eA (np (xs:=xs) (ys:=ys) j);have Q:j<n->∃B C,A=some ⟨B,C,none⟩/\w.cell? ⟨B,C+j,none⟩=some (.int .i64 (xs.getD j 0)):=fun D=>by
     obtain⟨B,C,e,_,hx⟩:=dY h (by omega);exact⟨B,C,e,hx j _ (dy xs (by rw[L.out];exact D))⟩
    have R:j<n'->∃B C,Y=some ⟨B,C,none⟩/\w.cell? ⟨B,C+j,none⟩=some (.int .i64 (ys.getD j 0)):=fun D=>by
     obtain⟨B,C,e,_,hx⟩:=dY b (by omega);exact⟨B,C,e,hx j _ (dy ys (by rw[E.out];exact D))⟩
    have S:¬j<n->xs.getD j 0=0:=fun D=>nD xs j (by rw[L.out];exact D)
    have T:¬j<n'->ys.getD j 0=0:=fun D=>nD ys j (by rw[E.out];exact D)
    generalize xs.getD j 0=x at *;generalize ys.getD j 0=y at *;by_cases U:j<n<;>by_cases V:j<n'<;>by_cases F:x=y
    all_goals
     try (exfalso;have:=N.out;omega)
    all_goals
     first|(have J:=S U;subst J)|(obtain⟨t,u,rfl,z⟩:=Q U)
     first|(have K:=T V;first|subst K|skip)|(obtain⟨bb,ob,rfl,cb⟩:=R V)
     clear Q R S T;have G:=f.out;rw[O.out] at G;first|rw[if_pos F] at G|rw[if_neg F] at G
     have X:=eA G;clear G;go_wp2;all_goals
      first
      | (go_ret;exact⟨by rw[X.out];rfl,rfl⟩)
      | (go_round;(case rel=>exact⟨j,by omega,by go_num,eA X.out.symm⟩);(case measure=>simp[intOf]))
end
section
open Go.RowKit Mem
theorem ret_val{a b:Value}(h:a=b):Ending.returned a=.returned b:=by rw[h]
theorem rroot3_any(p:Int)(w:World) :
  Calls prog 126 #[.int .i64 p,.int .i64 3] w fun e w'=>e=.returned (.int .u64 ((Sha.mW p 3:Nat):Int))/\eF w w':=by
 rw[Sha.ov]
 obtain⟨rv,T⟩:=eC (Sha.ix (Sha.bF p 3 69))
 rw[T]
 have Aa:=eA T
 clear T
 have Ab:(Instr.makeSlice 111 (.int .i64 13) (.int .i64 13)).run prog w=.ok (.slice (some ⟨w.heap.size,0,none⟩) 13 13) (w.alloc (.cells (iv (List.replicate 13 0)).toArray 3)):=makeI w 13 (by omega)
 have b0:=Blk.new w (iv (List.replicate 13 0)) 3
 have c0:(w.alloc (.cells (iv (List.replicate 13 0)).toArray 3)).cell? ⟨w.heap.size,12,none⟩=some (.int .i64 0):=(b0.cell 12).trans rfl
 have f0:(w.alloc (.cells (iv (List.replicate 13 0)).toArray 3)).frozen? ⟨w.heap.size,12,none⟩=false:=b0.froz 12
 have g:((iv (List.replicate 13 0)).toArray.setIfInBounds 12 (.int .i64 p))=(iv (Sha.target p 3)).toArray:=by
  rw[List.setIfInBounds_toArray,lx];rfl
 have b1:=Blk.new w (iv (Sha.target p 3)) 3
 have J:(w.alloc (.cells (iv (Sha.target p 3)).toArray 3)).heap.size=w.heap.size+1:=by simp
 have E:(Instr.makeSlice 111 (.int .i64 5) (.int .i64 5)).run prog (w.alloc (.cells (iv (Sha.target p 3)).toArray 3))=_:=makeI _ 5 (by omega)
 rw[J] at E
 obtain⟨W2,F⟩:=eC ((w.alloc (.cells (iv (Sha.target p 3)).toArray 3)).alloc (.cells (iv (List.replicate 5 0)).toArray 3))
 have k:Blk W2 w.heap.size (iv (Sha.target p 3)) 3:=by rw[<-F];exact b1.alloc _
 have C:Blk W2 (w.heap.size+1) (iv (Sha.bF p 3 0)) 3:=by
  have:=Blk.new (w.alloc (.cells (iv (Sha.target p 3)).toArray 3)) (iv (List.replicate 5 0)) 3;rw[J,F] at this;exact this
 have n:eF w W2:=by rw[<-F];exact eI.alloc (by rw[J];omega) _
 rw[F,<-g] at E
 clear F J b1 b0 g
 generalize (iv (List.replicate 13 0)).toArray=Z at *
 go_enter func126,ntmps126
 go_wp2
 go_loopw [7] (fun U wr=>∃t:Nat,t<=69/\U=.int .i64 (68-(t:Int))/\eF w wr/\Blk wr w.heap.size (iv (Sha.target p 3)) 3/\Blk wr (w.heap.size+1) (iv (Sha.bF p 3 t)) 3) (fun U _=>(intOf U+1).toNat)
 case atStart=>exact⟨0,by omega,by go_num,n,k,C⟩
 case round =>
  clear Ab E c0 f0 n k C;obtain⟨t,ht,rfl,hb,k,C⟩:=hrel;by_cases o:t=69
  .subst o
   have K:=Sha.jH p 3 69;have V:=Aa.out;unfold Sha.ix at V;generalize Sha.bF p 3 69=X at *;have k0:wr.cell? ⟨w.heap.size+1,0,none⟩=some (.int .i64 (X.getD 0 0)):=(C.cell 0).trans (dy X (by omega));have k1:wr.cell? ⟨w.heap.size+1,1,none⟩=some (.int .i64 (X.getD 1 0)):=(C.cell 1).trans (dy X (by omega));have k2:wr.cell? ⟨w.heap.size+1,2,none⟩=some (.int .i64 (X.getD 2 0)):=(C.cell 2).trans (dy X (by omega));have k3:wr.cell? ⟨w.heap.size+1,3,none⟩=some (.int .i64 (X.getD 3 0)):=(C.cell 3).trans (dy X (by omega));generalize X.getD 0 0=x0 at *;generalize X.getD 1 0=x1 at *;generalize X.getD 2 0=x2 at *;generalize X.getD 3 0=x3 at *;have Ac:=eA V;clear k C V;go_wp2;go_region
   all_goals
    go_wp2;go_ret;exact⟨ret_val (by rw[Ac.out];rfl),hb.drew⟩
  .obtain⟨b,s⟩:∃b:Nat,b=68-t:=⟨_,rfl⟩
   have g:(68-(t:Int))=(b:Int):=by omega
   have Ag:b<=68:=by omega
   have G:=Sha.jH p 3 t;have HS:=eA (show Sha.bF p 3 (t+1)=Sha.fm p 3 b (Sha.bF p 3 t) by rw[s];rfl)
   obtain⟨r,hr⟩:=eD (b % 16);obtain⟨q,hq⟩:=eD (b / 16);have Ah:r<=15:=by rw[<-hr.out];omega
   have Ai:q<=4:=by rw[<-hq.out];omega
   have u:Int.tmod (b:Int) 16=(r:Int):=by
    rw[Int.tmod_eq_emod_of_nonneg (by omega),<-hr.out];omega
   have x:Int.tdiv (b:Int) 16=(q:Int):=by
    rw[Int.tdiv_eq_ediv_of_nonneg (by omega),<-hq.out];omega
   have Aj:t<69:=by omega
   rw[g];have HB:=eA g;have H5:=eA G;clear g s G o ht;go_wp2;go_loop [8,9] (fun d i=>∃j:Nat,j<=r/\i=.int .i64 j/\d=.int .i64 (Sha.dbl j)) (fun _ i=>r-(intOf i).toNat)
   case atStart=>exact⟨0,by omega,rfl,rfl⟩
   case round =>
    obtain⟨j,hj,rfl,rfl⟩:=hrel;by_cases Ad:j<r
    .have HD:=eA (show Sha.dbl (j+1)=wrap64 (2*Sha.dbl j) from rfl)
     generalize Sha.dbl j=dj at *;go_wp2;go_round
     case rel=>exact⟨j+1,by omega,by go_num,by rw[HD.out]⟩
     case measure=>simp[intOf];omega
    .have Ae:j=r:=by omega
     subst Ae;clear hj Ad;have K:=H5.out;have Q:∀v,((Sha.bF p 3 t).set q v).length=5:=fun v=>by rw[List.length_set];exact K
     have A:=HS;unfold Sha.fm at A;rw[hr.out,hq.out] at A;generalize Sha.bF p 3 t=X at *;have k0:wr.cell? ⟨w.heap.size+1,q,none⟩=some (.int .i64 (X.getD q 0)):=(C.cell q).trans (dy X (by omega));have kf:wr.frozen? ⟨w.heap.size+1,q,none⟩=false:=C.froz q;have kl:w.heap.size+1<wr.heap.size:=C.lt;generalize X.getD q 0=xq at *;generalize Sha.dbl j=d at *;obtain⟨WA,H⟩:=eC (wr.setCell ⟨w.heap.size+1,q,none⟩ (.int .i64 (wrap64 (xq+d))));have A1:=C.set q (.int .i64 (wrap64 (xq+d)));rw[H,lx] at A1;have A0:Blk WA w.heap.size (iv (Sha.target p 3)) 3:=by rw[<-H];exact k.set_ne (by simp) _
     have Y:eF w WA:=by rw[<-H];exact hb.setCell (by simp) _
     have L:=Q (wrap64 (xq+d));generalize X.set q (wrap64 (xq+d))=B at *;have I1:=Is.of_blk A1;rw[L] at I1;have hm:=qz _ 5 5 B _ 5 5 B WA I1 I1 (by omega) (by omega);have HW:=eA H;simp only[Nat.reduceAdd] at hm;clear H k C hb HS Q;go_wp2_with fail
     rw[HW.out];refine hm.mono ?_;rintro e y ⟨rfl,A2,M⟩;have I2:Is y (some ⟨WA.heap.size,0,none⟩) 10 (Sha.mul B B):=by
      have:=Is.of_blk A2;rwa [Sha.mb,L] at this
     have R:eF w y:=Y.trans (M.mono Y.size);have D0:=A0.below M;have D1:=A1.below M;have HX:=eA L;have Ak:=eA K;clear hm A0 A1 A2 M L K Y k0 kf kl HW;have hp:Sha.kO 3 B=Sha.mul (Sha.mul B B) B:=rfl;rw[hp] at A;have I3:Is y (some ⟨w.heap.size+1,0,none⟩) 5 B:=by
      have:=Is.of_blk D1;rwa [HX.out] at this
     have c:=qz _ 10 10 _ _ 5 5 B y I2 I3 (by omega) (by omega);simp only[Nat.reduceAdd] at c;clear hp I1 I2 I3;go_wp2_with fail
     refine c.mono ?_;rintro e l ⟨rfl,A4,N⟩;have I4:Is l (some ⟨y.heap.size,0,none⟩) 15 (Sha.mul (Sha.mul B B) B):=by
      have:=Is.of_blk A4;rwa [Sha.mb,Sha.mb,HX.out] at this
     have E0:=D0.below N;have m:=D1.below N;have S:eF w l:=R.trans (N.mono R.size);clear c D0 D1 A4 N;generalize Sha.mul (Sha.mul B B) B=PW at *;have D:=tj (some ⟨w.heap.size,0,none⟩) 13 13 (Sha.target p 3) _ 15 15 PW l (by have:=Is.of_blk E0;rwa [show (Sha.target p 3).length=13 by simp[Sha.target]] at this) I4 (by omega) (by omega)
     have kq:l.cell? ⟨w.heap.size+1,q,none⟩=some (.int .i64 (B.getD q 0)):=(m.cell q).trans (dy B (by rw[HX.out];omega))
     have kf:l.frozen? ⟨w.heap.size+1,q,none⟩=false:=m.froz q;have kl:w.heap.size+1<l.heap.size:=m.lt;generalize B.getD q 0=f at *;have I:((b:Int)-1)=68-((t+1:Nat):Int):=by
      have h:=HB.out;clear x u;omega
     have z:(intOf (Value.int IntKind.i64 ((b:Int)-1))+1).toNat<(intOf (Value.int IntKind.i64 (b:Int))+1).toNat:=by
      show ((b:Int)-1+1).toNat<((b:Int)+1).toNat
      clear x u I;omega
     have HT:=eA I;clear I
     cases O:Sha.less (Sha.target p 3) PW
     .rw [O] at D A
      simp only[Bool.false_eq_true,if_false] at A;clear O;go_wp2_with fail
      refine D.mono ?_;rintro e w5 ⟨rfl,rfl⟩;clear D;go_wp2_with fail
      go_roundw
      case rel=>exact⟨t+1,by omega,by rw[HT.out],S,E0,by rw[A.out];exact m⟩
      case measure=>exact z
     .rw [O] at D A
      simp only[if_true] at A;clear O;have F1:=m.set q (.int .i64 (wrap64 (f-d)));rw[lx] at F1;have F0:=E0.set_ne (p:=⟨w.heap.size+1,q,none⟩) (by simp) (.int .i64 (wrap64 (f-d)));have Af:=S.setCell (p:=⟨w.heap.size+1,q,none⟩) (by simp) (.int .i64 (wrap64 (f-d)));go_wp2_with fail
      refine D.mono ?_;rintro e w5 ⟨rfl,rfl⟩;clear D E0 m;go_wp2_with fail
      go_roundw
      case rel=>exact⟨t+1,by omega,by rw[HT.out],Af,F0,by rw[A.out];exact F1⟩
      case measure=>exact z
theorem rroot2_any(p:Int)(w:World) :
  Calls prog 126 #[.int .i64 p,.int .i64 2] w fun e w'=>e=.returned (.int .u64 ((Sha.mW p 2:Nat):Int))/\eF w w':=by
 rw[Sha.ov]
 obtain⟨rv,S⟩:=eC (Sha.ix (Sha.bF p 2 69))
 rw[S]
 have Aa:=eA S
 clear S
 have Ab:(Instr.makeSlice 111 (.int .i64 9) (.int .i64 9)).run prog w=.ok (.slice (some ⟨w.heap.size,0,none⟩) 9 9) (w.alloc (.cells (iv (List.replicate 9 0)).toArray 3)):=makeI w 9 (by omega)
 have b0:=Blk.new w (iv (List.replicate 9 0)) 3
 have c0:(w.alloc (.cells (iv (List.replicate 9 0)).toArray 3)).cell? ⟨w.heap.size,8,none⟩=some (.int .i64 0):=(b0.cell 8).trans rfl
 have f0:(w.alloc (.cells (iv (List.replicate 9 0)).toArray 3)).frozen? ⟨w.heap.size,8,none⟩=false:=b0.froz 8
 have c:((iv (List.replicate 9 0)).toArray.setIfInBounds 8 (.int .i64 p))=(iv (Sha.target p 2)).toArray:=by
  rw[List.setIfInBounds_toArray,lx];rfl
 have b1:=Blk.new w (iv (Sha.target p 2)) 3
 have J:(w.alloc (.cells (iv (Sha.target p 2)).toArray 3)).heap.size=w.heap.size+1:=by simp
 have E:(Instr.makeSlice 111 (.int .i64 5) (.int .i64 5)).run prog (w.alloc (.cells (iv (Sha.target p 2)).toArray 3))=_:=makeI _ 5 (by omega)
 rw[J] at E
 obtain⟨W2,F⟩:=eC ((w.alloc (.cells (iv (Sha.target p 2)).toArray 3)).alloc (.cells (iv (List.replicate 5 0)).toArray 3))
 have f:Blk W2 w.heap.size (iv (Sha.target p 2)) 3:=by rw[<-F];exact b1.alloc _
 have B:Blk W2 (w.heap.size+1) (iv (Sha.bF p 2 0)) 3:=by
  have:=Blk.new (w.alloc (.cells (iv (Sha.target p 2)).toArray 3)) (iv (List.replicate 5 0)) 3;rw[J,F] at this;exact this
 have l:eF w W2:=by rw[<-F];exact eI.alloc (by rw[J];omega) _
 rw[F,<-c] at E
 clear F J b1 b0 c
 generalize (iv (List.replicate 9 0)).toArray=Z at *
 go_enter func126,ntmps126
 go_wp2
 go_loopw [7] (fun T wr=>∃t:Nat,t<=69/\T=.int .i64 (68-(t:Int))/\eF w wr/\Blk wr w.heap.size (iv (Sha.target p 2)) 3/\Blk wr (w.heap.size+1) (iv (Sha.bF p 2 t)) 3) (fun T _=>(intOf T+1).toNat)
 case atStart=>exact⟨0,by omega,by go_num,l,f,B⟩
 case round =>
  clear Ab E c0 f0 l f B;obtain⟨t,ht,rfl,hb,f,B⟩:=hrel;by_cases m:t=69
  .subst m
   have K:=Sha.jH p 2 69;have U:=Aa.out;unfold Sha.ix at U;generalize Sha.bF p 2 69=X at *;have k0:wr.cell? ⟨w.heap.size+1,0,none⟩=some (.int .i64 (X.getD 0 0)):=(B.cell 0).trans (dy X (by omega));have k1:wr.cell? ⟨w.heap.size+1,1,none⟩=some (.int .i64 (X.getD 1 0)):=(B.cell 1).trans (dy X (by omega));have k2:wr.cell? ⟨w.heap.size+1,2,none⟩=some (.int .i64 (X.getD 2 0)):=(B.cell 2).trans (dy X (by omega));have k3:wr.cell? ⟨w.heap.size+1,3,none⟩=some (.int .i64 (X.getD 3 0)):=(B.cell 3).trans (dy X (by omega));generalize X.getD 0 0=x0 at *;generalize X.getD 1 0=x1 at *;generalize X.getD 2 0=x2 at *;generalize X.getD 3 0=x3 at *;have Ac:=eA U;clear f B U;go_wp2;go_region
   all_goals
    go_wp2;go_ret;exact⟨ret_val (by rw[Ac.out];rfl),hb.drew⟩
  .obtain⟨b,n⟩:∃b:Nat,b=68-t:=⟨_,rfl⟩
   have c:(68-(t:Int))=(b:Int):=by omega
   have Ag:b<=68:=by omega
   have G:=Sha.jH p 2 t;have HS:=eA (show Sha.bF p 2 (t+1)=Sha.fm p 2 b (Sha.bF p 2 t) by rw[n];rfl)
   obtain⟨r,hr⟩:=eD (b % 16);obtain⟨q,hq⟩:=eD (b / 16);have Ah:r<=15:=by rw[<-hr.out];omega
   have Ai:q<=4:=by rw[<-hq.out];omega
   have o:Int.tmod (b:Int) 16=(r:Int):=by
    rw[Int.tmod_eq_emod_of_nonneg (by omega),<-hr.out];omega
   have s:Int.tdiv (b:Int) 16=(q:Int):=by
    rw[Int.tdiv_eq_ediv_of_nonneg (by omega),<-hq.out];omega
   have Aj:t<69:=by omega
   rw[c];have HB:=eA c;have H5:=eA G;clear c n G m ht;go_wp2;go_loop [8,9] (fun d i=>∃j:Nat,j<=r/\i=.int .i64 j/\d=.int .i64 (Sha.dbl j)) (fun _ i=>r-(intOf i).toNat)
   case atStart=>exact⟨0,by omega,rfl,rfl⟩
   case round =>
    obtain⟨j,hj,rfl,rfl⟩:=hrel;by_cases Ad:j<r
    .have HD:=eA (show Sha.dbl (j+1)=wrap64 (2*Sha.dbl j) from rfl)
     generalize Sha.dbl j=dj at *;go_wp2;go_round
     case rel=>exact⟨j+1,by omega,by go_num,by rw[HD.out]⟩
     case measure=>simp[intOf];omega
    .have Ae:j=r:=by omega
     subst Ae;clear hj Ad;have K:=H5.out;have O:∀v,((Sha.bF p 2 t).set q v).length=5:=fun v=>by rw[List.length_set];exact K
     have A:=HS;unfold Sha.fm at A;rw[hr.out,hq.out] at A;generalize Sha.bF p 2 t=X at *;have k0:wr.cell? ⟨w.heap.size+1,q,none⟩=some (.int .i64 (X.getD q 0)):=(B.cell q).trans (dy X (by omega));have kf:wr.frozen? ⟨w.heap.size+1,q,none⟩=false:=B.froz q;have kl:w.heap.size+1<wr.heap.size:=B.lt;generalize X.getD q 0=x at *;generalize Sha.dbl j=d at *;obtain⟨y,H⟩:=eC (wr.setCell ⟨w.heap.size+1,q,none⟩ (.int .i64 (wrap64 (x+d))));have z:=B.set q (.int .i64 (wrap64 (x+d)));rw[H,lx] at z;have A0:Blk y w.heap.size (iv (Sha.target p 2)) 3:=by rw[<-H];exact f.set_ne (by simp) _
     have V:eF w y:=by rw[<-H];exact hb.setCell (by simp) _
     have L:=O (wrap64 (x+d));generalize X.set q (wrap64 (x+d))=D at *;have I1:=Is.of_blk z;rw[L] at I1;have hm:=qz _ 5 5 D _ 5 5 D y I1 I1 (by omega) (by omega);have HW:=eA H;simp only[Nat.reduceAdd] at hm;clear H f B hb HS O;go_wp2_with fail
     rw[HW.out];refine hm.mono ?_;rintro e g ⟨rfl,A2,M⟩;have I2:Is g (some ⟨y.heap.size,0,none⟩) 10 (Sha.mul D D):=by
      have:=Is.of_blk A2;rwa [Sha.mb,L] at this
     have Q:eF w g:=V.trans (M.mono V.size);have D0:=A0.below M;have D1:=z.below M;have HX:=eA L;have Ak:=eA K;clear hm A0 z A2 M L K V k0 kf kl HW;have hp:Sha.kO 2 D=Sha.mul D D:=rfl;rw[hp] at A;clear hp I1;generalize Sha.mul D D=PW at *;have E0:=D0;have k:=D1;have R:=Q;have C:=tj (some ⟨w.heap.size,0,none⟩) 9 9 (Sha.target p 2) _ 10 10 PW g (by have:=Is.of_blk E0;rwa [show (Sha.target p 2).length=9 by simp[Sha.target]] at this) I2 (by omega) (by omega)
     clear I2 D0 D1 Q;have kq:g.cell? ⟨w.heap.size+1,q,none⟩=some (.int .i64 (D.getD q 0)):=(k.cell q).trans (dy D (by rw[HX.out];omega))
     have kf:g.frozen? ⟨w.heap.size+1,q,none⟩=false:=k.froz q;have kl:w.heap.size+1<g.heap.size:=k.lt;generalize D.getD q 0=Y at *;have I:((b:Int)-1)=68-((t+1:Nat):Int):=by
      have h:=HB.out;clear s o;omega
     have u:(intOf (Value.int IntKind.i64 ((b:Int)-1))+1).toNat<(intOf (Value.int IntKind.i64 (b:Int))+1).toNat:=by
      show ((b:Int)-1+1).toNat<((b:Int)+1).toNat
      clear s o I;omega
     have HT:=eA I;clear I
     cases N:Sha.less (Sha.target p 2) PW
     .rw [N] at C A
      simp only[Bool.false_eq_true,if_false] at A;clear N;go_wp2_with fail
      refine C.mono ?_;rintro e w5 ⟨rfl,rfl⟩;clear C;go_wp2_with fail
      go_roundw
      case rel=>exact⟨t+1,by omega,by rw[HT.out],R,E0,by rw[A.out];exact k⟩
      case measure=>exact u
     .rw [N] at C A
      simp only[if_true] at A;clear N;have F1:=k.set q (.int .i64 (wrap64 (Y-d)));rw[lx] at F1;have F0:=E0.set_ne (p:=⟨w.heap.size+1,q,none⟩) (by simp) (.int .i64 (wrap64 (Y-d)));have Af:=R.setCell (p:=⟨w.heap.size+1,q,none⟩) (by simp) (.int .i64 (wrap64 (Y-d)));go_wp2_with fail
      refine C.mono ?_;rintro e w5 ⟨rfl,rfl⟩;clear C E0 k;go_wp2_with fail
      go_roundw
      case rel=>exact⟨t+1,by omega,by rw[HT.out],Af,F0,by rw[A.out];exact F1⟩
      case measure=>exact u
end
section
open Go.RowKit Mem
def sJ(l:List Nat):List Int:=l.map fun x:Nat=>(x:Int)
theorem ints_length(l:List Nat):(sJ l).length=l.length:=by simp[sJ]
theorem pT(l:List Nat)(j:Nat):(sJ l).getD j 0=((l.getD j 0:Nat):Int):=by
 rcases Nat.lt_or_ge j l.length with h|h
 .simp [sJ,List.getD_eq_getElem?_getD,h]
 .simp [sJ,List.getD_eq_getElem?_getD,h]
theorem pr_at{t j:Nat}(h:j<(Sha.pr t).length):2<=(Sha.pr t).getD j 0/\(Sha.pr t).getD j 0<t+2:=by
 have:(Sha.pr t).getD j 0=(Sha.pr t)[j]:=by simp[List.getD_eq_getElem?_getD,h]
 rw[this]
 exact Sha.qJ t _ (List.getElem_mem h)
theorem sP{p:Nat->Bool}{l:List Nat}{j:Nat}(h:j<l.length):(l.take (j+1)).all p=((l.take j).all p&&p (l.getD j 0)):=by
 rw[List.take_succ_eq_append_getElem h,List.all_append]
 simp[List.getD_eq_getElem?_getD,h]
theorem rprimes_any(w:World) :
  Calls prog 124 #[.int .i64 80] w fun e w'=>∃A c,e=.returned (.slice A 80 c)/\Is w' A 80 (sJ (Sha.pr 408))/\eF w w':=by
 obtain⟨m,hi,V,X,Y⟩:=an infoI
 go_enter func124,ntmps124
 go_wp2
 go_loopw [3,4,5,6] (fun v k _ _ wr=>∃(t:Nat) (A:Option Addr) (n c:Nat),t<=408/\n<=80/\k=.int .i64 ((t:Int)+2)/\v=.slice A n c/\Hid ((Sha.pr t).length=n)/\eF w wr/\wr.ownsRow w.heap.size 3 1 (.slice A n c) n (iv (sJ (Sha.pr t)))) (fun _ k _ _ _=>(500-intOf k).toNat)
 case atStart=>exact⟨0,none,0,0,by omega,by omega,rfl,rfl,eA rfl,Below.refl _ _,World.ownsRow_nil _ _ _ _⟩
 case round =>
  obtain⟨t,A,n,c,ht,g,rfl,rfl,G,M,B⟩:=hrel;by_cases E:t=408
  .subst E
   have h:n=80:=by rw[<-G.out,Sha.pr_408]
   subst h;go_wp2;go_ret;exact⟨A,c,rfl,Is.of_own B,M⟩
  .have h:n<80:=by rw[<-G.out];exact Sha.pr_short (by omega)
   have H:∀j,j<n->2<=(Sha.pr t).getD j 0/\(Sha.pr t).getD j 0<t+2:=fun j R=>pr_at (by rw[G.out];exact R)
   have K:=eA (show Sha.pr (t+1)=if (Sha.pr t).all (fun p=>(t+2) % p != 0) then Sha.pr t++[t+2] else Sha.pr t from rfl);have S:Hid (∀j,j<n->j<(Sha.pr t).length):=eA fun j R=>by rw[G.out];exact R
   have hI:=Is.of_own B;have o:t<408:=by omega
   generalize Sha.pr t=L at *;clear E;go_wp2;go_loop [5,6] (fun q i=>∃j:Nat,j<=n/\i=.int .i64 j/\q=.bool ((L.take j).all fun p=>(t+2) % p != 0)) (fun _ i=>n-(intOf i).toNat)
   case atStart=>exact⟨0,by omega,rfl,rfl⟩
   case round =>
    obtain⟨j,R,rfl,rfl⟩:=hrel;by_cases I:j<n
    .obtain⟨r,s,rfl,_,hx⟩:=dY hI (by omega)
     have x:=hx j _ (dy _ (by rw[ints_length];exact S.out j I))
     rw[pT] at x;obtain⟨g1,g2⟩:=H j I;have T:Hid ((L.take (j+1)).all (fun p=>(t+2) % p != 0)=((L.take j).all (fun p=>(t+2) % p != 0)&&((t+2) % (L.getD j 0) != 0))):=eA (sP (S.out j I));generalize L.getD j 0=p at *;generalize (L.take j).all (fun p=>(t+2) % p != 0)=a at *;have Z:Int.tmod ((t:Int)+2) (p:Int)=(((t+2) % p:Nat):Int):=by
      have:=Int.ofNat_tmod (t+2) p;exact this.symm
     have y:¬(p:Int)=0:=by omega
     obtain⟨u,l⟩:=eC ((t+2) % p);rw[l] at Z T;clear hx l;by_cases N:u=0
     .subst N
      have Z:Int.tmod ((t:Int)+2) (p:Int)=0:=Z;go_wp2;go_round
      case rel=>exact⟨j+1,by omega,by go_num,by rw[T.out];cases a<;>rfl⟩
      case measure=>simp[intOf];omega
     .have b:(u != 0)=true:=by simp[N]
      rw[b] at T;go_wp2;go_round
      case rel=>exact⟨j+1,by omega,by go_num,by rw[T.out];cases a<;>rfl⟩
      case measure=>simp[intOf];omega
    .obtain rfl:j=n:=by omega
     have J:(L.take j).all (fun p=>(t+2) % p != 0)=L.all (fun p=>(t+2) % p != 0):=by
      rw[List.take_of_length_le (by rw[G.out];exact eH)]
     rw[J]
     cases U:L.all (fun p=>(t+2) % p != 0)
     .rw [U] at K
      have C:Hid (Sha.pr (t+1)=L):=eA K.out;clear H hI S K U J;go_wp2;go_roundw
      case rel=>exact⟨t+1,A,j,c,by omega,by omega,by go_num,rfl,by rw[C.out];exact G,M,by rw[C.out];exact B⟩
      case measure=>simp[intOf];omega
     .rw [U] at K
      have C:Hid (Sha.pr (t+1)=L++[t+2]):=eA K.out;clear H hI S K U J;have d:j+1<=maxLen:=by unfold maxLen;omega
      have O:=M.size;go_wp2_with (at_builtin;go_must (refine bi rfl (.tmp 27) (.tmp 29) 111 rfl w.heap.size m (.int .i64 0) 8 underlying111 hi V X Y rfl _ _ _ rfl B rfl rfl d (by omega) O ?_))
      intro z c' w2 D Aa Ab Q;have f:=bC M Q O B eH;have F:iv (sJ (L++[t+2]))=iv (sJ L)++[.int .i64 ((t:Int)+2)]:=by simp[sJ,iv]
      rw[<-F] at D;clear B Q M F;go_wp2;go_roundw
      case rel=>exact⟨t+1,z,j+1,c',by omega,by omega,by go_num,rfl,by rw[C.out];exact eA (by rw[List.length_append,G.out];rfl),f,by rw[C.out];exact D⟩
      case measure=>simp[intOf];omega
end
section
namespace Batch
open Go.RowKit
def calm:Op->Bool
 | .load _ _=>true
 | .build _ _=>true
 | .nilCheck _=>true
 | o=>mu o
theorem calm_value{P:Program}{o:Oper}(h:calm o.op=true)(F:Operand->Value)(w w':World)(n:Next)(A:(execOp F o).run P w=.ok n w'):∃u,n=.value u:=by
 by_cases I:mu o.op=true
 .exact mN I F w w' n A
 .obtain⟨K,L,J,M,G,H⟩:=o
  cases L<;>first|(exfalso;simp[calm,mu] at h I;done)|skip
  case neg.nilCheck x =>
   unfold execOp at A;simp only at A;generalize F x=y at A;have E:(runtimePanic .nilDeref:Sem Next).run P w=.ok n w'->False:=fun h=>by simp[runtimePanic] at h
   split at A
   .exact(E A).elim
   .exact(E A).elim
   .exact(E A).elim
   .split at A
    .exact(E A).elim
    .rename_i t vv _
     simp only[Sem.run_bind] at A
     cases C:(program:Sem Program).run P w with
     | halt q w1=>rw[C] at A;cases A
     | ok u w1 =>
      rw[C] at A;simp only[Result.andThen_ok] at A
      cases D:(nilAhead (u.types.size+Made.depth) t vv _).run P w1 with
      | halt q w2=>rw[D] at A;cases A
      | ok b w2 =>
       rw[D] at A;simp only[Result.andThen_ok] at A;split at A
       .simp at A
       .simp at A
        exact⟨_,A.1.symm⟩
    .simp at A
     exact⟨_,A.1.symm⟩
   .simp at A
    exact⟨_,A.1.symm⟩
  all_goals
   have key:∀(s:Sem Value),(do pure (Next.value (<-s)):Sem Next).run P w=.ok n w'->∃u,n=.value u:=fun s B=>by
    rw[Sem.run_bind] at B
    cases C:s.run P w with
    | halt q w1=>rw[C] at B;cases B
    | ok u w1 =>
     rw[C] at B;simp only[Result.andThen_ok,Sem.run_pure,Result.ok.injEq] at B;exact⟨u,B.1.symm⟩
   exact key _ A
section
variable {P:Program}{ops:Array Oper}{md:Region.Mode}{R:World->World->Prop}{w0:World}
end
def GR(w w':World):Prop:=∃p:eY,w'=ab w p
theorem GR.below{w w':World}(h:GR w w'):eF w w':=by
 obtain⟨p,rfl⟩:=h
 exact aa w p
theorem GR.of{w w':World}(h:eF w w'):GR w w':=nC h
theorem uB:Rely GR:=⟨fun w=>.of (Below.refl _ w),fun {_ _ _} h k=>.of (h.below.trans (k.below.mono h.below.size))⟩
theorem ao{T:Value->World->Prop}(h:∀v w w',eF w w'->T v w->T v w'):io GR T:=fun v w w' A ht=>h v w w' A.below ht
def pA(md:Region.Mode)(ops:Array Oper):List Nat->Array Bool->Bool
 | [],listed=>(Region.ready md ops listed).isEmpty
 | k::T,listed=>decide (Region.ready md ops listed=[k])&&pA md ops T (listed.setIfInBounds k true)
theorem fl{P:Program}{md:Region.Mode}{ops:Array Oper}{Q':Exit->Act->World->Prop}:∀(T:List Nat) (listed:Array Bool) (a:Act) (w:World),pA md ops T listed=true->wpList P ops Q' (T.filterMap (ops[·]?)) a w->wpAny P md ops Q' T.length listed a w
 | [],listed,a,w,hB,h=>⟨by simpa [pA] using hB,h⟩
 | k::T,listed,a,w,hB,h=>by
  simp only[pA,Bool.and_eq_true,decide_eq_true_eq] at hB;refine⟨fun C=>(by rw[hB.1] at C;cases C),fun i hi=>?_⟩
  have A:=hi;rw[hB.1] at hi;have B:i=k:=by simpa using hi
  subst B;obtain⟨_,o,h0,_⟩:=mem_ready.1 A;rw[List.filterMap_cons_some h0] at h;have D:wpOp P ops Q' i (wpList P ops Q' (T.filterMap (ops[·]?))) a w:=by unfold wpOp;simp only[h0];exact h
  exact wpOp_mono (fun E w' F=>fl T _ E w' hB.2 F) D
end Batch
end
end Go.Proofs.YtmbpnkacggngkaaGreatDoor
