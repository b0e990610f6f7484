/- PshSum, PshName, StrMap, JwkMay, JwkKey, JwkWrite, LedApC, LedRk (put together by bundle.py: only what is needed). -/
import Derived.Test.YtmbpnkacggngkaaGreatDoorLI12
set_option maxRecDepth 100000
set_option maxHeartbeats 16000000
namespace Go.Proofs.YtmbpnkacggngkaaGreatDoor
open Batch
open Tryz
section
open Go.RowKit Mem
def FirstOk(B:List Nat)(A:List Value):Prop:=A.length=8/\∀j,j<8->∃v:Nat,A[j]?=some (.int .u64 (v:Int))/\v<18446744073709551616/\v / 4294967296=B.getD j 0
theorem index_u64(A:List Value)(W:World)(j:Nat)(v:Value)(E:j<8)(h:A[j]?=some v):(Instr.index 282 (.agg A.toArray) (.int .i64 (j:Int))).run prog W=.ok v W:=by
 have B:(Go.sizeOf 151).run prog W=.ok 1 W:=by kernel_rfl
 have C:(Go.isAgg 151).run prog W=.ok false W:=by kernel_rfl
 have D:(0:Int)<=(j:Int)/\(j:Int)<((8:Nat):Int):=by omega
 unfold Instr.index
 simp only[asIntOf,Sem.run_bind,Sem.run_pure,run_underlying underlying282,Result.andThen_ok,if_pos D,B,Go.part,C,Bool.false_eq_true,if_false,Int.toNat_natCast,Nat.mul_one,List.getElem?_toArray,h]
theorem index_u32(A:List Value)(W:World)(j:Nat)(v:Value)(E:j<8)(h:A[j]?=some v):(Instr.index 281 (.agg A.toArray) (.int .i64 (j:Int))).run prog W=.ok v W:=by
 have B:(Go.sizeOf 228).run prog W=.ok 1 W:=by kernel_rfl
 have C:(Go.isAgg 228).run prog W=.ok false W:=by kernel_rfl
 have D:(0:Int)<=(j:Int)/\(j:Int)<((8:Nat):Int):=by omega
 unfold Instr.index
 simp only[asIntOf,Sem.run_bind,Sem.run_pure,run_underlying underlying281,Result.andThen_ok,if_pos D,B,Go.part,C,Bool.false_eq_true,if_false,Int.toNat_natCast,Nat.mul_one,List.getElem?_toArray,h]
theorem rem_pow(n:Nat):∀j,Sha.rem n j=n / 2 ^ (8*j)
 | 0=>by simp[Sha.rem]
 | j+1=>by
  rw[Sha.rem,rem_pow n j,Nat.div_div_eq_div_mul,show (256:Nat)=2 ^ 8 from rfl,<-Nat.pow_add];rfl
theorem be_at:∀(k n q:Nat),q<k->(Sha.be k n)[q]?=some (UInt8.ofNat (Sha.rem n (k-1-q) % 256))
 | 0,_,_,h=>by omega
 | k+1,n,0,_=>rfl
 | k+1,n,q+1,h=>by
  rw[Sha.be,List.getElem?_cons_succ,be_at k n q (by omega),show k+1-1-(q+1)=k-1-q by omega]
theorem be_more(k n q:Nat)(h:q<k)(s:Nat)(A:s=8*(k-1-q)):bv ((Sha.be k n).take q)++[.int .u8 ((n / 2 ^ s % 256:Nat):Int)]=bv ((Sha.be k n).take (q+1)):=by
 rw[List.take_add_one,be_at k n q h,dW,rem_pow,<-A]
 simp[bv]
theorem psum_any(hc:List Value)(hF:hc=rG)(Q D:List Nat)(A:Option Addr)(c n:Nat)(d:List UInt8)(w:World)(hd:Bs w w.heap.size A n d)(hn:n<=1000000)(hT:Tab Q w)(An:D.length=8)(A0:Sha.eP D)(fv:List Value)(AZ:FirstOk D fv)
  (u:∀W',Calls prog 268 #[] W' fun e w'=>e=.returned (.agg fv.toArray)/\eF W' w') :
  Calls prog 256 #[.agg hc.toArray,.slice A n c] w fun e w'=>∃A' c',e=.returned (.slice A' 32 c')/\32<=c'/\w'.ownsRow w.heap.size 5 1 (.slice A' 32 c') 32 (bv (Sha.sum Q D d))/\eF w w':=by
 obtain⟨i0,hi,Ab,Ac,Ad⟩:=an rx
 have hf:F32 hc:=by rw[hF];exact form32
 have BD:=eA hd.len
 obtain⟨W,hW⟩:=eC (w.alloc (.cells hc.toArray 269))
 have BH:Blk W w.heap.size hc 269:=by rw[<-hW];exact Blk.new _ _ _
 have f:eF w W:=eG hW
 have Ba:w.heap.size<=W.heap.size:=f.size
 have Ao:Bs W W.heap.size A n d:=cV hd f
 have f0:∀p,(ab W p).cell? ⟨w.heap.size,0,none⟩=some (.int .i64 32):=fun p=>((BH.below (aa W p)).cell 0).trans hf.bits
 have HW:=eA hW
 have HF:=eA hF
 have V:0+n<=maxLen:=by unfold maxLen;omega
 have A1:n+1<=maxLen:=by unfold maxLen;omega
 clear hW hd hF
 go_enter func256,ntmps256
 go_upto_region 1 with fail
 rw[HW.out]
 refine au ?_
 repeat (go_big_quiet_step (fail))
 refine wpQuiet_nil ?_
 rintro _ ⟨p,rfl⟩
 have AE:=aa W p
 have BH:=BH.below AE
 have Ao:=cV Ao AE
 have f:eF w (ab W p):=f.trans (AE.mono f.size)
 have Ba:w.heap.size<=(ab W p).heap.size:=f.size
 clear f0 HW
 generalize ab W p=H at *
 have AF:(H.alloc (.cells #[] 5)).ownsRow H.heap.size 5 1 (.slice (some ⟨H.heap.size,0,none⟩) 0 0) 0 []:=dG (M:=[]) eH (Blk.new H [] 5) eH (by omega) rfl rfl
 have Ap:eF H (H.alloc (.cells #[] 5)):=eI
 have Bb:=cV Ao Ap
 have AG:=Ap.size
 have BE:(H.alloc (.cells #[] 5)).heap.size=H.heap.size+1:=by simp
 go_upto_region 2 with fail
 go_wp2_with (at_builtin;go_must (refine aK (H.alloc (.cells #[] 5)) rfl (.tmp 23) (.tmp 24) 62 rfl H.heap.size 5 i0 (.int .u8 0) 1 1 underlying62 hi Ab Ac Ad rfl (by omega) _ 0 [] rfl AF _ _ n _ _ rfl Bb (jj _) V (by omega) AG ?_))
 intro A5 c5 w5 J g5 BF K
 have g:eF H w5:=Mem.aH Ap K AG AF
 have J:w5.ownsRow H.heap.size 5 1 (.slice A5 n c5) n (bv d):=by simpa using J
 have I:H.heap.size<=w5.heap.size:=g.size
 clear K Ao Bb AF Ap AG BE
 go_wp2_with (at_builtin;go_must (refine bi rfl (.tmp 26) (.tmp 27) 62 rfl H.heap.size i0 (.int .u8 0) 1 underlying62 hi Ab Ac Ad rfl _ _ _ rfl J rfl rfl A1 (by omega) I ?_))
 intro A6 c6 w6 R g6 BI A2
 have Bc:=bC g A2 I J eH
 have R:w6.ownsRow H.heap.size 5 1 (.slice A6 (n+1) c6) (n+1) (bv (vx d 0)):=by rw[<-pad_zero];exact R
 clear J A2 g I g5 BF g6 BI V A1
 go_wp2_with fail
 go_loopw [7] (fun v wr=>∃(z k:Nat) (A5:Option Addr) (c5:Nat),z<=Sha.ee n/\Hid (k=n+1+z)/\k<=n+65/\v=.slice A5 k c5/\eF H wr/\wr.ownsRow H.heap.size 5 1 (.slice A5 k c5) k (bv (vx d z))) (fun v _=>n+66-lenV v)
 case atStart=>exact⟨0,n+1,A6,c6,by omega,eA rfl,by omega,rfl,Bc,R⟩
 case round =>
  clear R Bc;obtain⟨z,k,A5,c5,hz,HK,hk,rfl,L,B⟩:=hrel;have BK:(k:Int)+8<=2000000:=by omega
  have BL:(0:Int)<=(k:Int):=by omega
  by_cases Aq:z<Sha.ee n
  .obtain⟨r,BM,hr⟩:=p7 HK.out Aq
   obtain⟨r2,h⟩:=eC (k % 64);have Cu:r2≠56:=by omega
   have ht:Int.tmod (k:Int) 64=(r2:Int):=by rw[<-h];exact fX k 64
   have AH:(k:Int) % 64=(r2:Int):=by rw[<-h];omega
   have BO:((r2:Int) != 56)=true:=by simp;omega
   have HZ:=eA Aq;have V:k+1<=maxLen:=by unfold maxLen;omega
   have I:H.heap.size<=wr.heap.size:=L.size;clear hr hz Aq h BM;go_wp2_with (at_builtin;go_must (refine bi rfl (.tmp 36) (.tmp 37) 62 rfl H.heap.size i0 (.int .u8 0) 1 underlying62 hi Ab Ac Ad rfl _ _ _ rfl B rfl rfl V (by omega) I ?_))
   intro A' c' E C AI Bd K;have AJ:=bC L K I B eH;rw[pad_more] at C;have BP:z<Sha.ee n:=HZ.out;have Be:Sha.ee n<64:=Nat.mod_lt _ (by omega);have BQ:=eA (show k+1<=n+65 by have:=HK.out;omega)
   clear B K L ht AH BO BP Be;go_wp2;go_roundw
   case rel=>exact⟨z+1,k+1,A',c',HZ.out,eA (by rw[HK.out];omega),BQ.out,rfl,AJ,C⟩
   case measure=>simp[lenV];omega
  .have Ar:z=Sha.ee n:=by omega
   have hr:=p8 HK.out Ar;have h:k % 64=56:=by omega
   have ht:Int.tmod (k:Int) 64=56:=by
    have:=fX k 64;rw[h] at this;exact this
   have AH:(k:Int) % 64=56:=by omega
   rw[Ar] at B;have Cv:=eA (show k=n+1+Sha.ee n by rw[HK.out,Ar]);have BR:=eA h;clear hr hz Aq Ar HK h;obtain⟨wo,BT⟩:∃wo,wo=wr:=⟨_,rfl⟩;subst BT;go_wp2_with fail
   have Cw:k+8<=2000000:=by omega
   clear ht AH BK BL;go_loopw [7,8] (fun v i wx=>∃(q m:Nat) (A8:Option Addr) (c8:Nat),q<=8/\i=.int .i64 (56-8*(q:Int))/\Hid (m=k+q)/\m<=k+8/\v=.slice A8 m c8/\eF H wx/\wx.ownsRow H.heap.size 5 1 (.slice A8 m c8) m (bv (vx d (Sha.ee n))++bv ((Sha.be 8 (8*n)).take q))) (fun _ i _=>(intOf i+8).toNat)
   case atStart=>exact⟨0,k,A5,c5,by omega,rfl,eA rfl,by omega,rfl,L,by simpa [bv] using B⟩
   case round =>
    clear B L;obtain⟨q,m,A8,c8,hq,rfl,HM,hm,rfl,L,B⟩:=hrel;by_cases As:q<8
    .obtain⟨F,Ae⟩:∃F:Nat,8*(7-q)=F:=⟨_,rfl⟩
     have e1:(56-8*(q:Int))=(F:Int):=by omega
     have Bf:F<=56:=by omega
     have V:m+1<=maxLen:=by unfold maxLen;omega
     have I:H.heap.size<=wr.heap.size:=L.size;have AK:=eA (be_more 8 (8*n) q As F Ae.symm);have HE:=eA (show (F:Int)-8=56-8*((q+1:Nat):Int) by omega);have HN:=eA (show q+1<=8 from As);have Af:(intOf (Value.int IntKind.i64 ((F:Int)-8))+8).toNat<(intOf (Value.int IntKind.i64 (F:Int))+8).toNat:=by
      show ((F:Int)-8+8).toNat<((F:Int)+8).toNat
      omega
     have AL:=eA Af;have BU:((n:Int)*8) / 2 ^ F % 256=((8*n / 2 ^ F % 256:Nat):Int):=by
      rw[Int.natCast_emod,Int.natCast_ediv,Int.natCast_mul,Int.natCast_pow,Int.mul_comm];rfl
     rw[e1];clear e1 Ae hq As Af;go_wp2_with (at_builtin;go_must (refine bi rfl (.tmp 67) (.tmp 75) 62 rfl H.heap.size i0 (.int .u8 0) 1 underlying62 hi Ab Ac Ad rfl _ _ _ rfl B rfl rfl V (by omega) I ?_))
     intro A' c' E C AI Bd K;have AJ:=bC L K I B eH;have T:E.ownsRow H.heap.size 5 1 (.slice A' (m+1) c') (m+1) (bv (vx d (Sha.ee n))++bv ((Sha.be 8 (8*n)).take (q+1))):=by
      have e:((8*n / 2 ^ F % 256:Nat):Int)=8*(n:Int) / 2 ^ F % 256:=by
       rw[Int.natCast_emod,Int.natCast_ediv,Int.natCast_mul,Int.natCast_pow];rfl
      rw[<-AK.out,e];exact C
     have AM:=eA (show m+1=k+(q+1) by rw[HM.out];omega)
     have AN:=eA (show m+1<=k+8 by have:=HM.out;have:=HN.out;omega)
     clear B C K L BU;go_wp2;go_roundw
     case rel=>exact⟨q+1,m+1,A',c',HN.out,by rw[HE.out],AM,AN.out,rfl,AJ,T⟩
     case measure=>exact AL.out
    .have X:q=8:=by omega
     have Y:(56-8*(q:Int)) = -8:=by omega
     obtain⟨E,BV⟩:∃E,E=wr:=⟨_,rfl⟩;subst BV;have N:E.ownsRow H.heap.size 5 1 (.slice A8 m c8) m (bv (Sha.dh d)):=by
      rw[X] at B;have e:(Sha.be 8 (8*n)).take 8=Sha.be 8 (8*n):=List.take_of_length_le (by rw[Sha.lO];omega)
      have e2:bv (vx d (Sha.ee n))++bv (Sha.be 8 (8*n))=bv (Sha.dh d):=by rw[<-BD.out];exact full_pad d
      rw[e,e2] at B;exact B
     have Bg:=eA (show (Sha.dh d).length=m by have:=Bs.len (Bs.of_own N);exact this)
     have Bh:=eA (show m % 64=0 by rw[<-Bg.out];exact Sha.full_len d)
     have Co:64<=m:=by have:=HM.out;have:=Bh.out;have:=BR.out;omega
     obtain⟨ga,rfl,Cq,Bi⟩:=fT N (by omega);have BW:m<=c8:=by obtain⟨_,_,e,h1,_⟩:=aj N;injection e with _ _ e;omega
     have l:eF w E:=f.trans (L.mono Ba);have Bj:=hT.below l;have B2:=BH.below L;have AO:=u (E.alloc (.cells (uv (List.replicate 8 0)).toArray 281));have BS:=Blk.new E (uv (List.replicate 8 0)) 281;have Au:eF E (E.alloc (.cells (uv (List.replicate 8 0)).toArray 281)):=eI;obtain⟨w3,AP⟩:=eD (E.alloc (.cells (uv (List.replicate 8 0)).toArray 281));rw[AP.out] at AO BS Au;have Bk:Hid (E.alloc (.cells #[.int .u32 0,.int .u32 0,.int .u32 0,.int .u32 0,.int .u32 0,.int .u32 0,.int .u32 0,.int .u32 0] 281)=w3):=eA AP.out;clear AP B As u hT;rw[Y];clear Y X hq;go_upto_region 13 with fail
     rw[Bk.out];go_wp2_with fail
     refine AO.mono ?_;rintro e w4 ⟨rfl,AQ⟩;have Bl:Blk w4 E.heap.size (uv (cO (D.take 0) 8)) 281:=BS.below AQ;have A3:eF E w4:=Au.trans (AQ.mono Au.size);clear AO BS Au AQ Bk;go_wp2_with fail
     go_loopw [10,11,78] (fun _ _ i wx=>∃j:Nat,j<=8/\i=.int .i64 (j:Int)/\eF E wx/\Blk wx E.heap.size (uv (cO (D.take j) 8)) 281) (fun _ _ i _=>8-(intOf i).toNat)
     case atStart=>exact⟨0,by omega,rfl,A3,Bl⟩
     case round =>
      clear Bl A3;obtain⟨j,hj,rfl,Aa,BJ⟩:=hrel;by_cases Ag:j<8
      .obtain⟨fj,Bm,Cx,Bn⟩:=AZ.2 j Ag
       have k0:wr.cell? ⟨w.heap.size,0,none⟩=some (.int .i64 32):=((B2.below Aa).cell 0).trans hf.bits;have hcut:=lj ((fj:Int) / 4294967296) wr;rw[show IntKind.u32.wrap ((fj:Int) / 4294967296)=((D.getD j 0:Nat):Int) by rw[<-Bn,IntKind.wrap_u32];omega] at hcut
       have Ah:=oG (D.take j) (n:=8) (by rw[List.length_take];omega) (D.getD j 0)
       have AR:(D.take j).length=j:=by rw[List.length_take];omega
       have Bo:D.take j++[D.getD j 0]=D.take (j+1):=by
        rw[List.take_add_one,List.getElem?_eq_getElem (by omega)];simp[List.getD_eq_getElem?_getD,List.getElem?_eq_getElem (show j<D.length by omega)]
       rw[AR,Bo] at Ah;have Bp:=eA Ah;have Bq:(cO (D.take j) 8).length=8:=oH _ (by rw[AR];omega)
       obtain⟨vj,Br⟩:∃v,(uv (cO (D.take j) 8))[j]?=some v:=⟨_,oY _ (by omega)⟩;have BY:=eA Br;clear Ah Bo AR Bq Br Bn;generalize D.getD j 0=yj at *;have BZ:(j:Int)<8:=by omega
       have AS:=fun W=>index_u64 fv W j _ Ag Bm;clear Bm;go_wp2_with fail
       refine hcut.mono ?_;rintro e w5 ⟨rfl,g⟩;have Ai:=BJ.below g;have Bt:eF E w5:=Aa.trans (g.mono Aa.size);have c5:w5.cell? ⟨E.heap.size,j,none⟩=some vj:=(Ai.cell j).trans BY.out;have z5:w5.frozen? ⟨E.heap.size,j,none⟩=false:=Ai.froz _;have Cr:=Ai.lt;have BN:=Ai.set j (.int .u32 (yj:Int));rw[ua,Bp.out] at BN;clear hcut AS k0 g Aa BJ Ai;go_wp2_with fail
       go_roundw
       case rel=>exact⟨j+1,by omega,by go_num,Bt.setCell (by simp) _,BN⟩
       case measure=>simp[intOf];omega
      .have Aj:j=8:=by omega
       have Bu:cO (D.take j) 8=Sha.bY Q D (Sha.dh d) 0:=by
        rw[Aj,List.take_of_length_le (by omega)];unfold cO;rw[An];simp[Sha.bY]
       rw[Bu] at BJ;have A4:decide ((j:Int)<8)=false:=by simp;omega
       have Bv:(8:Int)<=(j:Int):=by omega
       obtain⟨w7,Ca⟩:∃w7,w7=wr:=⟨_,rfl⟩;subst Ca;have Cs:ga<E.heap.size:=Bi;have Ct:(j:Int)<=8:=by omega
       clear Bu AZ Aj;go_wp2_with fail
       go_loopw [12] (fun i wx=>∃(t q:Nat),Hid (q=64*t)/\q<=m/\i=.int .i64 (q:Int)/\eF E wx/\Blk wx E.heap.size (uv (Sha.bY Q D (Sha.dh d) t)) 281) (fun i _=>m-(intOf i).toNat)
       case atStart=>exact⟨0,0,eA rfl,by omega,rfl,Aa,BJ⟩
       case round =>
        clear BJ Aa A4;obtain⟨t,o,Av,Cb,rfl,Z,BX⟩:=hrel;obtain⟨wx,Cc⟩:∃wx,wx=wr:=⟨_,rfl⟩;subst Cc;by_cases Cd:o<m
        .have Bw:o+64<=m:=by have:=Bh.out;have:=Av.out;omega
         have HS:=eA (show Sha.bY Q D (Sha.dh d) (t+1)=Sha.block Q (Sha.bY Q D (Sha.dh d) t) (((Sha.dh d).drop (64*t)).take 64) from rfl);rw[<-Av.out] at HS;have Aw:=Sha.km An Q (Sha.dh d) t;have A7:=Sha.lS A0 Q (Sha.dh d) t;have Ak:=dX N Z;have AA:Bs wx wx.heap.size (some ⟨ga,o,none⟩) 64 (((Sha.dh d).drop o).take 64):=by
          have h1:=((Bs.of_own Ak).tail (k:=o) (cap:=c8) (by omega) BW (by omega)).take (k:=64) (by omega);simpa [aZ] using h1
         have Ce:∀p,(rg (.pointer (some ⟨w.heap.size,0,none⟩))).run prog (ab wx p)=.ok (.agg hc.toArray) (ab wx p):=fun p=>mz ((B2.below Z).below (aa wx p)) hf.len;have Bx:∀p,(loadA8 (.pointer (some ⟨E.heap.size,0,none⟩))).run prog (ab wx p)=.ok (.agg (uv (Sha.bY Q D (Sha.dh d) t)).toArray) (ab wx p):=fun p=>pR (BX.below (aa wx p)) (by rw[dM];exact Aw)
         have b:=fun p=>pmix_any hc HF.out (Sha.bY Q D (Sha.dh d) t) Aw A7 (some ⟨ga,o,none⟩) (c8-o) (((Sha.dh d).drop o).take 64) (ab wx p) (cV AA (aa wx p)) (by omega) Q ((Bj.below Z).below (aa wx p));rw[<-HS.out] at b;have By:(uv (Sha.bY Q D (Sha.dh d) (t+1))).length=8:=by rw[dM];exact Sha.km An Q (Sha.dh d) (t+1)
         have AB:(uv (Sha.bY Q D (Sha.dh d) t)).length=8:=by rw[dM];exact Aw
         obtain⟨S0,Cf⟩:=eD (Sha.bY Q D (Sha.dh d) t);obtain⟨S1,Bz⟩:=eD (Sha.bY Q D (Sha.dh d) (t+1));rw[Cf.out] at Bx b BX AB;rw[Bz.out] at b By;have B0:=eA b;have i2:(0:Int)<=(o:Int):=by omega
         have i4:(o:Int)+64<=(c8:Int):=by omega
         clear b Aw A7 HS AA Ak;go_upto_region 21 with fail
         refine bz 8 ?_;simp only[List.take_succ_cons,List.take_zero,List.drop_succ_cons,List.drop_zero];repeat (go_big_quiet_step (fail))
         refine wpQuiet_nil ?_;rintro _ ⟨pz,rfl⟩;have hg:=aa wx pz;have B1:=B0.out pz;have BG:=BX.below hg;have AT:eF E (ab wx pz):=Z.trans (hg.mono Z.size);have Cg:=eA (show o+64=64*(t+1) by rw[Av.out];omega)
         clear Ce Bx i2 i4 B0 hg Z BX;generalize ab wx pz=w8 at *;go_wp2_with fail
         refine B1.mono ?_;rintro e w9 ⟨rfl,AU⟩;have B3:=BG.below AU;have AC:eF E w9:=AT.trans (AU.mono AT.size);obtain⟨Ch,AV⟩:=qn B3 AB (vs:=uv S1) By (ub _);obtain⟨wA,AW⟩:=eC (w9.setCells E.heap.size 0 (uv S1));have Ci:eF E wA:=by
          rw[<-AW];exact((Chg.of_below (S:=[]) AC).setCells _ (.inr (by omega))).below (by simp)
         rw[AW] at Ch AV;rw[<-Bz.out] at AV;clear B1 AU AW B3 BG AT AC;go_wp2;(try rw[ak])
         (try go_wp2)
         go_roundw
         case rel=>exact⟨t+1,o+64,Cg,Bw,by go_num,Ci,AV⟩
         case measure=>simp[intOf];omega
        .have X:o=m:=by omega
         have Cj:Hid (t=(Sha.dh d).length / 64):=eA (by have:=Av.out;rw[Bg.out];omega)
         have B4:m<=o:=by omega
         have B5:=eA (Sha.km An Q (Sha.dh d) t);have B6:=eA (Sha.lS A0 Q (Sha.dh d) t);have B7:=eA (show Sha.sum Q D d=Sha.fh (Sha.bY Q D (Sha.dh d) t) 8 by unfold Sha.sum;rw[<-Cj.out])
         generalize Sha.bY Q D (Sha.dh d) t=S at *;have Cy:=pR BX (by rw[dM];exact B5.out)
         have A4:decide (o<m)=false:=by simp;omega
         have Al:eF w wx:=l.trans (Z.mono l.size);have B9:=B2.below Z;clear X Cd Cb BX Bj N;go_wp2_with fail
         clear B4;go_loopw [13,15,16,108] (fun v _ _ i wz=>∃(j s:Nat) (A9:Option Addr) (x:Nat),j<=8/\Hid (s=4*j)/\s<=32/\i=.int .i64 (j:Int)/\v=.slice A9 s x/\s<=x/\eF wx wz/\wz.ownsRow wx.heap.size 5 1 (.slice A9 s x) s (bv (Sha.fh S j))) (fun _ _ _ i _=>8-(intOf i).toNat)
         case atStart=>exact⟨0,0,none,0,by omega,eA rfl,by omega,rfl,rfl,by omega,Below.refl _ _,World.ownsRow_nil _ _ _ _⟩
         case round =>
          obtain⟨j,s,A9,x,hj,B8,Cz,rfl,rfl,Am,Ax,O⟩:=hrel;obtain⟨wb,Ck⟩:∃wb,wb=wr:=⟨_,rfl⟩;subst Ck;by_cases Ag:j<8
          .have HD:=eA (show Sha.fh S (j+1)=Sha.fh S j++Sha.be 4 (S.getD j 0) from rfl)
           have C0:=B6.out.at_ j;have AS:=fun W=>index_u32 (uv S) W j _ Ag (oY S (by rw[B5.out];exact Ag))
           have k0:wb.cell? ⟨w.heap.size,0,none⟩=some (.int .i64 32):=((B9.below Ax).cell 0).trans hf.bits;have BZ:(j:Int)<8:=by omega
           generalize S.getD j 0=y at *;have AD:wb.ownsRow wx.heap.size 5 1 (.slice A9 s x) s (bv (Sha.fh S j)++bv ((Sha.be 4 y).take 0)):=by simpa [bv] using O
           clear O;go_wp2_with fail
           go_loopw [13,16] (fun v i wz=>∃(q U:Nat) (A9:Option Addr) (x:Nat),q<=4/\i=.int .i64 (24-8*(q:Int))/\Hid (U=s+q)/\U<=s+4/\v=.slice A9 U x/\U<=x/\eF wx wz/\wz.ownsRow wx.heap.size 5 1 (.slice A9 U x) U (bv (Sha.fh S j)++bv ((Sha.be 4 y).take q))) (fun _ i _=>(intOf i+8).toNat)
           case atStart=>exact⟨0,s,A9,x,by omega,rfl,eA rfl,by omega,rfl,Am,Ax,AD⟩
           case round =>
            clear AD k0 AS Ax;obtain⟨q,U,A9,x,hq,rfl,AX,C1,rfl,BA,Ay,G⟩:=hrel;by_cases Az:q<4
            .obtain⟨F,Ae⟩:∃F:Nat,8*(3-q)=F:=⟨_,rfl⟩
             have e1:(24-8*(q:Int))=(F:Int):=by omega
             have Bf:F<=24:=by omega
             have V:U+1<=maxLen:=by unfold maxLen;omega
             have I:wx.heap.size<=wr.heap.size:=Ay.size;have AK:=eA (be_more 4 y q Az F Ae.symm);have HE:=eA (show (F:Int)-8=24-8*((q+1:Nat):Int) by omega);have HN:=eA (show q+1<=4 from Az);have Af:(intOf (Value.int IntKind.i64 ((F:Int)-8))+8).toNat<(intOf (Value.int IntKind.i64 (F:Int))+8).toNat:=by
              show ((F:Int)-8+8).toNat<((F:Int)+8).toNat
              omega
             have AL:=eA Af;rw[e1];clear e1 Ae hq Az Af;go_wp2_with (at_builtin;go_must (refine bi rfl (.tmp 118) (.tmp 124) 62 rfl wx.heap.size i0 (.int .u8 0) 1 underlying62 hi Ab Ac Ad rfl _ _ _ rfl G rfl rfl V (by omega) I ?_))
             intro A' c' w8 C AI Bd K;have Cl:=bC Ay K I G eH;have T:w8.ownsRow wx.heap.size 5 1 (.slice A' (U+1) c') (U+1) (bv (Sha.fh S j)++bv ((Sha.be 4 y).take (q+1))):=by
              have e:((y / 2 ^ F % 256:Nat):Int)=(y:Int) / 2 ^ F % 256:=by
               rw[Int.natCast_emod,Int.natCast_ediv,Int.natCast_pow];rfl
              rw[<-AK.out,e];exact C
             have AM:=eA (show U+1=s+(q+1) by rw[AX.out];omega)
             have AN:=eA (show U+1<=s+4 by have:=AX.out;have:=HN.out;omega)
             clear G C K Ay;go_wp2;go_roundw
             case rel=>exact⟨q+1,U+1,A',c',HN.out,by rw[HE.out],AM,AN.out,rfl,AI,Cl,T⟩
             case measure=>exact AL.out
            .have X:q=4:=by omega
             have Y:(24-8*(q:Int)) = -8:=by omega
             have AY:wr.ownsRow wx.heap.size 5 1 (.slice A9 U x) U (bv (Sha.fh S (j+1))):=by
              rw[HD.out,dW];rw[X,List.take_of_length_le (show (Sha.be 4 y).length<=4 by rw[Sha.lO];omega)] at G
              exact G
             have BB:=eA (show U=4*(j+1) by rw[AX.out,B8.out,X];omega)
             have Cm:=eA (show U<=32 by have:=BB.out;omega)
             rw[Y];clear G X Y hq Az;go_wp2;go_roundw
             case rel=>exact⟨j+1,U,A9,x,by omega,BB,Cm.out,by go_num,rfl,BA,Ay,AY⟩
             case measure=>simp[intOf];omega
          .have Aj:j=8:=by omega
           have BC:s=32:=by rw[B8.out,Aj]
           have Bv:(8:Int)<=(j:Int):=by omega
           rw[Aj] at O;rw[BC] at O Am;rw[BC];have Cn:=Al.trans (Ax.mono Al.size);go_wp2;go_ret;exact⟨A9,x,rfl,Am,by rw[B7.out];exact aG O Al.size,Cn⟩
end
section
open Go.RowKit Mem
def fvN:List Nat:=[7640891576956012808,13503953896175478587,4354685564936845355,11912009170470909681,5840696475078001361,11170449401992604703,2270897969802886507,6620516959819538809]
def fvL:List Value:=fvN.map fun x:Nat=>Value.int .u64 (x:Int)
theorem fv_ok:FirstOk Sha.ffL fvL:=by
 refine⟨rfl,fun j A=>?_⟩
 have:j=0\/j=1\/j=2\/j=3\/j=4\/j=5\/j=6\/j=7:=by omega
 rcases this with rfl|rfl|rfl|rfl|rfl|rfl|rfl|rfl
 .exact⟨7640891576956012808,rfl,by decide,by decide⟩
 .exact⟨13503953896175478587,rfl,by decide,by decide⟩
 .exact⟨4354685564936845355,rfl,by decide,by decide⟩
 .exact⟨11912009170470909681,rfl,by decide,by decide⟩
 .exact⟨5840696475078001361,rfl,by decide,by decide⟩
 .exact⟨11170449401992604703,rfl,by decide,by decide⟩
 .exact⟨2270897969802886507,rfl,by decide,by decide⟩
 .exact⟨6620516959819538809,rfl,by decide,by decide⟩
theorem size_B8:(prog.info? 282).map (·.size)=some 8:=by kernel_rfl
def um(x v:Value):Sem Unit:=Instr.storeAt 282 x v
theorem qT(x v:Value):Instr.storeAt 282 x v=um x v:=rfl
attribute [go_sem ↓] qT
theorem store_B8{w:World}{g:Nat}{cs vs:List Value}{t:TypeId}(h:Blk w g cs t)(A:cs.length=8)(B:vs.length=8)(D:∀v∈vs,v.oneCell'=true) :
  (um (.pointer (some ⟨g,0,none⟩)) (.agg vs.toArray)).run prog w=.ok () (w.setCells g 0 vs)/\Blk (w.setCells g 0 vs) g vs t:=by
 have E:=bu (P:=prog) w 282 g 0 8 size_B8 vs.toArray ⟨by simpa using B,by simpa using D⟩ (eX h A) (fun j _=>h.froz _)
 have C:=jk vs w g 0 cs t h (by omega)
 simp[B,<-A] at C
 exact⟨E,C⟩
theorem fvL_one:∀v∈fvL,v.oneCell'=true:=by
 intro v A
 simp only[fvL,List.mem_map] at A
 obtain⟨x,_,rfl⟩:=A
 rfl
theorem pfirst_any(w:World):Calls prog 268 #[] w fun e w'=>e=.returned (.agg fvL.toArray)/\eF w w':=by
 have G:=Blk.new w (wv (List.replicate 8 0)) 282
 obtain⟨A,B⟩:=store_B8 G rfl (vs:=fvL) rfl fvL_one
 obtain⟨E,C⟩:=eC ((w.alloc (.cells (wv (List.replicate 8 0)).toArray 282)).setCells w.heap.size 0 fvL)
 have D:Chg [] w E:=by rw[<-C];exact((Chg.refl _ _).alloc _).setCells _ (.inr eH)
 rw[C] at A B
 have H:=D.below (fun _ h=>by cases h)
 have F:Has E w.heap.size 0 8:=eX B rfl
 have I:=mh B (n:=8) rfl
 have A:(um (.pointer (some ⟨w.heap.size,0,none⟩)) (.agg #[.int .u64 7640891576956012808,.int .u64 13503953896175478587,.int .u64 4354685564936845355,.int .u64 11912009170470909681,.int .u64 5840696475078001361,.int .u64 11170449401992604703,.int .u64 2270897969802886507,.int .u64 6620516959819538809])).run prog (w.alloc (.cells #[.int .u64 0,.int .u64 0,.int .u64 0,.int .u64 0,.int .u64 0,.int .u64 0,.int .u64 0,.int .u64 0] 282))=.ok () E:=A
 clear C D G
 go_enter func268,ntmps268
 go_wp2
 refine bodyPost_ret (dA (P:=prog) Tryz.results268 _ _ w.heap.size 0 8 _ rfl underlying282 rfl size_B8 F) rfl ?_
 exact⟨by rw[I],H⟩
theorem psum256_any(A:Option Addr)(n c:Nat)(d:List UInt8)(w:World)(hd:Bs w w.heap.size A n d)(E:n<=1000000)(F:Tab Sha.kkL w) :
  Calls prog 226 #[.slice A n c] w fun e w'=>∃C B,e=.returned (.slice C 32 B)/\32<=B/\w'.ownsRow w.heap.size 5 1 (.slice C 32 B) 32 (bv (Sha.pC d))/\eF w w':=by
 have D:=psum_any rG rfl Sha.kkL Sha.ffL A c n d w hd E F rfl (by unfold Sha.eP Sha.ffL;decide) fvL fv_ok (fun G=>pfirst_any G)
 have e:Sha.sum Sha.kkL Sha.ffL d=Sha.pC d:=rfl
 rw[e] at D
 generalize Sha.pC d=S at *
 clear e
 unfold rG at D
 go_enter func226,ntmps226
 go_wp2_with fail
 refine D.mono ?_
 rintro e K ⟨C,B,rfl,H,I,J⟩
 go_wp2
 go_ret
 exact⟨C,B,rfl,H,I,J⟩
theorem tK(a:Nat)(h:a<16)(w:World):(Instr.index 9 (.string ⟨#[48,49,50,51,52,53,54,55,56,57,97,98,99,100,101,102]⟩) (.int .u8 (a:Int))).run prog w=.ok (.int .u8 (((Sha.dp a).toNat:Nat):Int)) w:=by
 have key:∀a:Fin 16,∃h:((a.1:Int)).toNat<(⟨#[48,49,50,51,52,53,54,55,56,57,97,98,99,100,101,102]⟩:ByteArray).size,(⟨#[48,49,50,51,52,53,54,55,56,57,97,98,99,100,101,102]⟩:ByteArray)[((a.1:Int)).toNat]'h=Sha.dp a.1:=by decide
 obtain⟨C,A⟩:=key ⟨a,h⟩
 have B:(0:Int)<=(a:Int)/\(a:Int)<((⟨#[48,49,50,51,52,53,54,55,56,57,97,98,99,100,101,102]⟩:ByteArray).size:Int):=⟨by omega,by show (a:Int)<16;omega⟩
 refine(run_index_string _ _ _ _ _ underlying9).trans ?_
 rw[dif_pos B]
 exact congrArg (fun b:UInt8=>Result.ok (Value.int .u8 (b.toNat:Int)) w) A
theorem and15(x:Nat)(h:x<256):bits .and .u8 (x:Int) 15=((x % 16:Nat):Int):=by
 have:=u8_and_nat x 15 h (by omega)
 rw[show ((15:Nat):Int)=15 from rfl] at this
 rw[this]
 congr 1
 exact Nat.and_two_pow_sub_one_eq_mod x 4
theorem pname_any(Z:Option Addr)(n c:Nat)(d:List UInt8)(w:World)(hd:Bs w w.heap.size Z n d)(hn:n<=1000000)(hT:Tab Sha.kkL w) :
  Calls prog 197 #[.slice Z n c] w fun e w'=>e=.returned (.string (str (Sha.iW d)))/\eF w w':=by
 obtain⟨i0,hi,b,f,k⟩:=an rx
 go_enter func197,ntmps197
 go_wp2_with fail
 refine(psum256_any Z n c d w hd hn hT).mono ?_
 rintro e K ⟨A,c1,rfl,h1,l,h3⟩
 obtain⟨g,rfl,Aj,o⟩:=fT l (by omega)
 have HN:=eA (show Sha.iW d=Sha.kD (Sha.pC d) 4 from rfl)
 have HL:=eA (Sha.psum_len d)
 have D:∀j,j<32->K.cell? ⟨g,j,none⟩=some (.int .u8 (((Sha.pC d).getD j 0).toNat:Int)):=fun j hj=>by
  have hl:(Sha.pC d).length=32:=HL.out;have:=l.cells (g:=g) rfl j (.int .u8 (((Sha.pC d).getD j 0).toNat:Int)) (by rw[pt,List.getElem?_eq_getElem (by omega)];simp[List.getD_eq_getElem?_getD,show j<(Sha.pC d).length by omega])
  rwa [aZ] at this
 have HC:=eA D
 clear D l HL hd hT
 generalize Sha.pC d=S at *
 go_wp2_with fail
 go_loopw [3,5,10] (fun v _ i wx=>∃(t m:Nat) (X:Option Addr) (Y:Nat),t<=4/\i=.int .i64 (t:Int)/\Hid (m=2*t)/\m<=8/\v=.slice X m Y/\eF K wx/\wx.ownsRow K.heap.size 5 1 (.slice X m Y) m (bv (Sha.kD S t))) (fun _ _ i _=>4-(intOf i).toNat)
 case atStart=>exact⟨0,0,none,0,by omega,rfl,eA rfl,by omega,rfl,Below.refl _ _,World.ownsRow_nil _ _ _ _⟩
 case round =>
  obtain⟨t,m,X,Y,ht,rfl,HM,hm,rfl,N,C⟩:=hrel;obtain⟨L,s⟩:∃L,L=wr:=⟨_,rfl⟩;subst s;by_cases Ak:t<4
  .have y:=(N.cell (p:=⟨g,t,none⟩) o).trans (HC.out t (by omega))
   have z:=eA (tM S t);have hx:=(S.getD t 0).toNat_lt;generalize (S.getD t 0).toNat=x at *;have I:x<256:=hx;have ha:=and15 x I;have O:(x:Int) / 16=((x / 16:Nat):Int):=by omega
   obtain⟨q,hq⟩:=eC (x / 16);obtain⟨r,hr⟩:=eC (x % 16);have Aa:q<16:=by omega
   have Ab:r<16:=by omega
   rw[hq] at O z;rw[hr] at ha z;have Ac:=fun W=>tK q Aa W;have Ae:=fun W=>tK r Ab W;have e1:[Sha.dp q,Sha.dp r]=[Sha.dp q,Sha.dp r]:=rfl;have Af:m+2<=maxLen:=by unfold maxLen;omega
   clear hq hr hx;go_upto_region 5 with fail
   refine fd [0] [1,2,3,4,5,6] 7 (by kernel_rfl) (by kernel_rfl) ?_;simp only[pick,List.getD_cons_zero,List.getD_cons_succ,List.drop_succ_cons,List.drop_zero];repeat (go_big_quiet_step (fail))
   refine wpQuiet_nil ?_;repeat (go_big_quiet_step (fail))
   refine wpQuiet_nil ?_;rintro _ ⟨p,rfl⟩;have hg:=aa L p;have E:=dX C hg;have G:eF K (ab L p):=N.trans (hg.mono N.size);clear C N hg y ha O Ac Ae e1;generalize ab L p=M at *;have H:Vs (M.alloc (.cells #[.int .u8 (((Sha.dp q).toNat:Nat):Int),.int .u8 (((Sha.dp r).toNat:Nat):Int)] 5)) (M.alloc (.cells #[.int .u8 (((Sha.dp q).toNat:Nat):Int),.int .u8 (((Sha.dp r).toNat:Nat):Int)] 5)).heap.size 1 (some ⟨M.heap.size,0,none⟩) 2 (bv [Sha.dp q,Sha.dp r]) :=
    ⟨rfl,fun j u hj=>⟨_,rfl,by simp,by rw[aZ];exact((Blk.new M (bv [Sha.dp q,Sha.dp r]) 5).cell j).trans hj⟩⟩
   have J:K.heap.size<=(M.alloc (.cells #[.int .u8 (((Sha.dp q).toNat:Nat):Int),.int .u8 (((Sha.dp r).toNat:Nat):Int)] 5)).heap.size:=by have:=G.size;simp;omega
   have B:=E.alloc (.cells #[.int .u8 (((Sha.dp q).toNat:Nat):Int),.int .u8 (((Sha.dp r).toNat:Nat):Int)] 5);have Q:=G.alloc G.size (.cells #[.int .u8 (((Sha.dp q).toNat:Nat):Int),.int .u8 (((Sha.dp r).toNat:Nat):Int)] 5);go_wp2_with (at_builtin;go_must (refine aK (M.alloc (.cells #[.int .u8 (((Sha.dp q).toNat:Nat):Int),.int .u8 (((Sha.dp r).toNat:Nat):Int)] 5)) rfl (.tmp 14) (.tmp 21) 62 rfl K.heap.size 5 i0 (.int .u8 0) 1 1 underlying62 hi b f k rfl (by omega) _ _ _ rfl B _ _ 2 _ _ rfl H (jj _) Af (by omega) J ?_))
   intro A' c' w8 F Al Am R;have Ag:=Mem.aH Q R J B;have HZ:=eA (show Sha.kD S t++[Sha.dp q,Sha.dp r]=Sha.kD S (t+1) by rw[z.out,List.append_assoc];rfl)
   rw[<-dW,HZ.out] at F;have Ah:=eA (show m+2=2*(t+1) by rw[HM.out];omega)
   have Ai:=eA (show m+2<=8 by have:=HM.out;omega)
   clear E R H B Q J G;go_wp2;(try rw[ak])
   (try go_wp2)
   go_roundw
   case rel=>exact⟨t+1,m+2,A',c',by omega,by go_num,Ah,Ai.out,rfl,Ag,F⟩
   case measure=>simp[intOf];omega
  .have T:t=4:=by omega
   have U:=fun W (h:Bs W W.heap.size X m (Sha.kD S t))=>qw (P:=prog) h 62 5 9 Y underlying62 underlying5 underlying9;have V:=U L (Bs.of_own C);have An:(4:Int)<=(t:Int):=by omega
   have HE:=eA (show str (Sha.kD S t)=str (Sha.iW d) by rw[HN.out,T]);rw[HE.out] at V;clear T U C;go_wp2_with fail
   go_ret;exact⟨rfl,h3.trans (N.mono h3.size)⟩
end
section
open Go.RowKit Mem Led
theorem str_beq2(a b:List UInt8):(str a==str b)=(a==b):=by
 by_cases h:a=b
 .subst h
  rw[(Go.MapKept.bytes_beq _ _).2 rfl,beq_self_eq_true]
 .have A:(str a==str b)=false:=by
   cases B:(str a==str b)
   .rfl
   .exact absurd (ui ((Go.MapKept.bytes_beq _ _).1 B)) h
  rw[A,beq_eq_false_iff_ne.2 h]
def jo:Nat->List Txt->List MapEntry
 | _,[]=>[]
 | i,k::r=>{ key:=.string (str k),val:=.int .i64 1,born:=i }::jo (i+1) r
theorem rL:∀(i:Nat) (l:List Txt) (k:Txt),jo i (l++[k])=jo i l++[{ key:=.string (str k),val:=.int .i64 1,born:=i+l.length }]
 | i,[],k=>by simp[jo]
 | i,k'::r,k=>by
  have ih:=rL (i+1) r k;simp only[List.cons_append,jo,ih,List.length_cons];congr 4
  omega
theorem jx(k:Txt):∀(i j:Nat) (l:List Txt),Instr.findNow .string (.string (str k)) (jo i l) j=some ((l.findIdx? fun p=>k==p).map fun n=>(j+n,.int .i64 1))
 | i,j,[]=>rfl
 | i,j,k'::r=>by
  have ih:=jx k (i+1) (j+1) r;simp only[jo,Instr.findNow,Instr.sameNow,str_beq2];by_cases h:k=k'
  .subst h
   simp[List.findIdx?_cons]
  .have A:(k==k')=false:=by simp[h]
   simp only[A,ih,List.findIdx?_cons];congr 1
   cases B:List.findIdx? (fun p:Txt=>k==p) r with
   | none=>simp
   | some n=>simp[Nat.add_assoc,Nat.add_comm 1 n]
def jM(l:List Txt):Obj:=.map (jo 0 l).toArray l.length
def lh(w:World)(r:Nat)(l:List Txt):World:={ w with heap:=w.heap.setIfInBounds r (jM l) }
theorem setMap_at{w:World}{r:Nat}(l:List Txt)(h:r<w.heap.size):(lh w r l).heap[r]?=some (jM l):=by
 show (w.heap.setIfInBounds r (jM l))[r]?=_
 rw[Array.getElem?_setIfInBounds_self_of_lt h]
theorem us{w:World}{r g:Nat}(l:List Txt)(h:g≠r):(lh w r l).heap[g]?=w.heap[g]?:=by
 show (w.heap.setIfInBounds r (jM l))[g]?=_
 rw[Array.getElem?_setIfInBounds_ne (Ne.symm h)]
theorem ut{w0 w:World}{B r:Nat}(l:List Txt)(A:Below B w0 w)(h:B<=r):Below B w0 (lh w r l) :=
 ⟨A.os,A.tape,A.output,by show _<=(w.heap.setIfInBounds r (jM l)).size;rw[Array.size_setIfInBounds];exact A.size,fun i hi=>by rw[us l (by omega)];exact A.block i hi⟩
theorem tg{P:Program}(w:World)(r:Nat)(l:List Txt)(k:Txt)(t C D:TypeId)(ht:P.underlying t=some (.map C D))(E:P.underlying C=some .string)(G:(zeroValue D).run P w=.ok (.int .i64 0) w)(H:w.heap[r]?=some (jM l)) :
  (Instr.lookup t (.map (some r)) (.string (str k)) false).run P w=.ok (.int .i64 (if k∈l then 1 else 0)) w:=by
 have I:=Go.MapKept.run_getObj_map (P:=P) (w:=w) (r:=r) (es:=(jo 0 l).toArray) (clock:=l.length) H
 have J:=Go.MapKept.run_checkKey (P:=P) (w:=w) E (k:=.string (str k)) trivial (jo 0 l).toArray.isEmpty 9999
 have K:=Go.MapKept.run_findKey (P:=P) (w:=w) E (jx k 0 0 l)
 unfold Instr.lookup
 simp only[Sem.run_bind,run_underlying ht,Result.andThen_ok,I,J,K,Sem.run_pure]
 cases F:List.findIdx? (fun p:Txt=>k==p) l with
 | none =>
  have A:k∉l:=fun B=>by
   have:=List.findIdx?_eq_none_iff.1 F k B;simp at this
  simp[G,A]
 | some n =>
  have B:k∈l:=by
   obtain⟨A,h,_⟩:=List.findIdx?_eq_some_iff_getElem.1 F;have:k=l[n]:=by simpa using h
   rw[this];exact List.getElem_mem A
  simp[B]
theorem run_updS{P:Program}(w:World)(r:Nat)(l:List Txt)(k:Txt)(t A E:TypeId)(ht:P.underlying t=some (.map A E))(B:P.underlying A=some .string)(F:k∉l)(C:w.heap[r]?=some (jM l)) :
  (Instr.mapUpdate t (.map (some r)) (.string (str k)) (.int .i64 1)).run P w=.ok () (lh w r (l++[k])):=by
 have G:=Go.MapKept.run_getObj_map (P:=P) (w:=w) (r:=r) (es:=(jo 0 l).toArray) (clock:=l.length) C
 have H:=Go.MapKept.run_checkKey (P:=P) (w:=w) B (k:=.string (str k)) trivial false 9999
 have I:Instr.findNow .string (.string (str k)) (jo 0 l) 0=some none:=by
  rw[jx,List.findIdx?_eq_none_iff.2 (fun x hx=>by simp;intro e;exact F (e▸hx))]
  rfl
 have J:=Go.MapKept.run_findKey (P:=P) (w:=w) B I
 have D:=Go.MapKept.run_setObj_map (P:=P) (w:=w) (r:=r) (.map ((jo 0 l).toArray.push { key:=.string (str k),val:=.int .i64 1,born:=l.length }) (l.length+1)) C
 have K:{ w with heap:=w.heap.setIfInBounds r (.map ((jo 0 l).toArray.push { key:=.string (str k),val:=.int .i64 1,born:=l.length }) (l.length+1)) }=lh w r (l++[k]):=by
  unfold lh jM;rw[rL];simp only[Nat.zero_add,List.push_toArray,List.length_append,List.length_cons,List.length_nil]
 rw[K] at D
 unfold Instr.mapUpdate
 simp only[Sem.run_bind,run_underlying ht,Result.andThen_ok,G,H,J,D]
end
section
open Go.RowKit Mem Led
namespace Led
def jI(b:Bundle):Bool:=Ids.domain b.domain&&aD b.number 0 1099511627776&&decide (b.keys.length<=8)&&b.keys.all (fun k=>k.x.length==32&&k.kid==Sha.iW k.x)&&decide (b.keys.map Jwk.kid).Nodup
end Led
theorem qq:(prog.info? 54).map (·.size)=some 2:=by kernel_rfl
def rm(x:Value):Sem Value:=Instr.loadAt 54 x
def stJwk(x v:Value):Sem Unit:=Instr.storeAt 54 x v
theorem named_ldJwk(x:Value):Instr.loadAt 54 x=rm x:=rfl
theorem named_stJwk(x v:Value):Instr.storeAt 54 x v=stJwk x v:=rfl
attribute [go_sem ↓] named_ldJwk named_stJwk
theorem n8{w:World}{g:Nat}{cs vs:List Value}{t:TypeId}(h:Blk w g cs t)(A:cs.length=2)(B:vs.length=2)(D:∀v∈vs,v.oneCell'=true) :
  (stJwk (.pointer (some ⟨g,0,none⟩)) (.agg vs.toArray)).run prog w=.ok () (w.setCells g 0 vs)/\Blk (w.setCells g 0 vs) g vs t:=by
 have E:=bu (P:=prog) w 54 g 0 2 qq vs.toArray ⟨by simpa using B,by simpa using D⟩ (eX h A) (fun j _=>h.froz _)
 have C:=jk vs w g 0 cs t h (by omega)
 simp[B,<-A] at C
 exact⟨E,C⟩
theorem rl{w:World}{A:Option Addr}{n:Nat}{L:List Led.Jwk}(h:Es aN 2 w A n L){i:Nat}(hi:i<L.length) :
  ∃b B,A=some ⟨b,B,none⟩/\b<w.heap.size/\∀w',eF w w'->(rm (.pointer (some ⟨b,B+i*2,none⟩))).run prog w'=.ok (.agg (aN L[i]).toArray) w' :=
 fZ underlying54 rfl qq cG (by omega) h hi
theorem mA(k:Led.Jwk):∀u∈aN k,u.oneCell'=true:=by
 intro u A
 simp[aN,tx] at A
 rcases A with rfl|rfl<;>rfl
theorem may_any(b:Led.Bundle)(kv:Value)(w:World)(Ar:aV aN 2 w kv b.keys)(hd:b.domain.length<=9223372036854775807)(hk:b.keys.length<=1000)(As:∀k∈b.keys,k.kid.length<=1000000/\k.x.length<=1000000)(hT:Tab Sha.kkL w) :
  Calls prog 176 #[.agg (ai (b,kv)).toArray] w fun e w'=>e=.returned (.bool (Led.jI b))/\eF w w':=by
 obtain⟨A,n,c,rfl,hf,hv⟩:=Ar
 have hl:=hv.len cG (by omega)
 obtain⟨W,hW⟩:=eC (w.alloc (.cells ([.string (str b.domain),.int .i64 b.number,.slice A n c]:List Value).toArray 45))
 have B:Blk W w.heap.size [.string (str b.domain),.int .i64 b.number,.slice A n c] 45:=by rw[<-hW];exact Blk.new _ _ _
 have F:eF w W:=eG hW
 have K:=domain_any b.domain W hd
 have c0:W.cell? ⟨w.heap.size,0,none⟩=some (.string (str b.domain)):=B.cell 0
 have HW:=eA hW
 have Au:∀o,eF w (W.alloc o):=fun o=>F.alloc F.size _
 clear hW
 show Calls prog 176 #[.agg #[.string (str b.domain),.int .i64 b.number,.slice A n c]] w _
 by_cases E:(Ids.domain b.domain&&aD b.number 0 1099511627776&&decide (b.keys.length<=8))=true
 .simp only [Bool.and_eq_true,decide_eq_true_eq] at E
  obtain⟨⟨T,l⟩,h3⟩:=E;rw[T] at K;have AE:0<=b.number/\b.number<=1099511627776:=by unfold aD at l;simpa using l
  have Av:n<=8:=by omega
  have m:Hid (Led.jI b=(b.keys.all (fun k=>k.x.length==32&&k.kid==Sha.iW k.x)&&decide (b.keys.map Jwk.kid).Nodup)):=eA (by
   unfold Led.jI;rw[T,l,decide_eq_true h3];rfl)
  clear T l;go_enter func176,ntmps176
  go_upto_region 1 with fail
  rw[show w.alloc (.cells #[.string (str b.domain),.int .i64 b.number,.slice A n c] 45)=W from HW.out];go_wp2_with fail
  refine K.mono ?_;rintro e D ⟨rfl,G⟩;have U:=B.below G;have d1:D.cell? ⟨w.heap.size,1,none⟩=some (.int .i64 b.number):=U.cell 1;have d2:D.cell? ⟨w.heap.size,2,none⟩=some (.slice A n c):=U.cell 2;have V:eF w D:=F.trans (G.mono F.size);clear K c0;have hm:=@run_makeMap prog;have BM:Blk (D.alloc (.map #[] 0)) w.heap.size [.string (str b.domain),.int .i64 b.number,.slice A n c] 45:=U.alloc _;have e2:(D.alloc (.map #[] 0)).cell? ⟨w.heap.size,2,none⟩=some (.slice A n c):=BM.cell 2;have Ab:eF w (D.alloc (.map #[] 0)):=V.alloc V.size _;have Ac:(D.alloc (.map #[] 0)).heap[D.heap.size]?=some (jM ((b.keys.take 0).map Jwk.kid)):=heap_alloc_new D _;have Aw:w.heap.size<=D.heap.size:=V.size;go_wp2_with fail
  obtain⟨wM,Ai⟩:=eC (D.alloc (.map #[] 0));rw[Ai] at Ac Ab ⊢;have Aj:=eA Ac;clear Ai BM e2 Ac d1 d2 U Au F B HW hm;go_loopw [5,30] (fun _ i wx=>∃j:Nat,j<=n/\i=.int .i64 (j:Int)/\eF w wx/\Hid (wx.heap[D.heap.size]?=some (jM ((b.keys.take j).map Jwk.kid))/\(b.keys.take j).all (fun k=>k.x.length==32&&k.kid==Sha.iW k.x)=true/\((b.keys.take j).map Jwk.kid).Nodup)) (fun _ i _=>n-(intOf i).toNat)
  case atStart=>exact⟨0,by omega,rfl,Ab,eA ⟨Aj.out,rfl,List.nodup_nil⟩⟩
  case round =>
   clear Aj Ab;obtain⟨j,hj,rfl,q,f⟩:=hrel;obtain⟨wx,Ax⟩:∃wx,wx=wr:=⟨_,rfl⟩;subst Ax;by_cases AF:j<n
   .have r:j<b.keys.length:=by omega
    obtain⟨bk,ok,rfl,AG,Ak⟩:=rl hv r;have y:=Ak wx q;have AB:=As _ (List.getElem_mem r);have O:=eA (show b.keys.take (j+1)=b.keys.take j++[b.keys[j]] by rw[List.take_add_one,List.getElem?_eq_getElem r];rfl)
    have z:=eA (List.getElem_mem r);generalize b.keys[j]=k at *;have bn:=Blk.new wx [.string ⟨#[]⟩,.string ⟨#[]⟩] 54;obtain⟨Ad,BK⟩:=n8 bn rfl (vs:=[.string (str k.kid),.string (str k.x)]) rfl (mA k);obtain⟨L,Ae⟩:=eC ((wx.alloc (.cells ([.string ⟨#[]⟩,.string ⟨#[]⟩]:List Value).toArray 54)).setCells wx.heap.size 0 [.string (str k.kid),.string (str k.x)]);have Al:Chg [] wx L:=by rw[<-Ae];exact((Chg.refl _ _).alloc _).setCells _ (.inr eH)
    rw[Ae] at Ad BK;have Am:=Al.below (fun _ h=>by cases h);have H:eF w L:=q.trans (Am.mono q.size);have Ay:(rm (.pointer (some ⟨bk,ok+j*2,none⟩))).run prog wx=.ok (.agg #[.string (str k.kid),.string (str k.x)]) wx:=y;have AC:(stJwk (.pointer (some ⟨wx.heap.size,0,none⟩)) (.agg #[.string (str k.kid),.string (str k.x)])).run prog (wx.alloc (.cells #[.string ⟨#[]⟩,.string ⟨#[]⟩] 54))=.ok () L:=Ad;have AH:(j:Int)<(n:Int):=by omega
    have AI:=aC k.x;have f0:∀p,(ab L p).cell? ⟨wx.heap.size,0,none⟩=some (.string (str k.kid)):=fun p=>(BK.below (aa L p)).cell 0;have f1:∀p,(ab L p).cell? ⟨wx.heap.size,1,none⟩=some (.string (str k.x)):=fun p=>(BK.below (aa L p)).cell 1;have An:L.heap[D.heap.size]?=some (jM ((b.keys.take j).map Jwk.kid)):=by
     have Ao:D.heap.size<wx.heap.size:=(Array.getElem?_eq_some_iff.1 f.out.1).1;rw[Am.block _ Ao];exact f.out.1
    have X:=eA An;clear Ak y Ad bn Al Ae An;by_cases Y:k.x.length=32
    .have Az:((k.x.length:Int) != 32)=false:=by simp;omega
     have Q:Hid (∀p,(Instr.lookup 209 (.map (some D.heap.size)) (.string (str k.kid)) false).run prog (ab L p)=.ok (.int .i64 (if k.kid∈(b.keys.take j).map Jwk.kid then 1 else 0)) (ab L p)):=eA fun p =>
      tg (ab L p) D.heap.size _ k.kid _ _ _ underlying209 underlying9 (by kernel_rfl) (by rw[(aa L p).block _ (Array.getElem?_eq_some_iff.1 X.out).1];exact X.out)
     have C:Hid (∀(g c:Nat) (M:World),eF L M->Bs M M.heap.size (some ⟨g,0,none⟩) 32 k.x->Calls prog 197 #[.slice (some ⟨g,0,none⟩) 32 c] M fun e w'=>e=.returned (.string (str (Sha.iW k.x)))/\eF M w'):=eA fun g c M hb h =>
      pname_any (some ⟨g,0,none⟩) 32 c k.x M h (by omega) (hT.below (H.trans (hb.mono H.size)))
     obtain⟨nm,Af⟩:=eD (Sha.iW k.x);rw[Af.out] at C;have C:Hid (∀(g c:Nat) (M:World),eF L M->Bs M M.heap.size (some ⟨g,0,none⟩) 32 k.x->Calls prog 197 #[.slice (some ⟨g,0,none⟩) 32 c] M (fun x A0=>∃v,x=.returned v/\GR M A0/\v=.string (str nm))):=eA fun g c M T l=>(C.out g c M T l).mono fun e w' ⟨he,hb⟩=>⟨_,he,GR.of hb,rfl⟩;obtain⟨cnt,N⟩:∃cnt:Int,Hid ((if k.kid∈(b.keys.take j).map Jwk.kid then 1 else 0:Int)=cnt):=⟨_,eA rfl⟩;rw[N.out] at Q;obtain⟨Z,Aa⟩:∃Z:Bool,Hid ((!(k.kid==nm)||decide (0<cnt))=Z):=⟨_,eA rfl⟩;have Q:=Q.out;go_upto_region 7 with fail
     refine aE [([0,1,2,3,4,5,6,7,8],(9,fun v w'=>∃g c,v=.slice (some ⟨g,0,none⟩) 32 c/\Bs w' w'.heap.size (some ⟨g,0,none⟩) 32 k.x)),([],(10,fun v w'=>v=.string (str (nm)))),([11,12,13,14,15,16,17,18],(19,fun v w'=>v=.bool Z))] [] (by kernel_rfl) (by kernel_rfl) (by
      intro x hx;simp only[List.mem_cons,List.not_mem_nil,or_false] at hx;rcases hx with rfl|rfl|rfl
      .exact ao fun v w w' hb ⟨g,c,e,h⟩=>⟨g,c,e,cV h hb⟩
      .exact ao fun v w w' hb h=>h
      .exact ao fun v w w' hb h=>h) ?_
     refine aw ?_;simp only[pick,List.getD_cons_zero,List.getD_cons_succ];repeat (go_big_quiet_step (fail))
     refine wpQuiet_nil ?_;refine⟨_,rfl,rfl,?_,?_⟩
     .intro w5 s _
      obtain⟨wc,cc,A1,t,A2⟩:=ji k.x w5;rw[Y] at A1 t;go_simp
      exact⟨GR.of A2,_,⟨cc,rfl⟩,t⟩
     rintro v1 ⟨_,g1,c1,rfl,_⟩;refine aw ?_;simp only[pick,List.getElem_toArray,List.getElem_cons_succ,List.getElem_cons_zero,Act.put,List.setIfInBounds_toArray,List.set_cons_zero,List.set_cons_succ];refine wpQuiet_nil ?_;refine⟨_,rfl,rfl,?_,?_⟩
     .rintro w5 s ⟨_,g2,c2,he,t⟩
      injection he with he1 he2 he3
      injection he1 with he1
      injection he1 with he1
      subst he1;go_simp
      exact⟨rfl,C.out g1 _ w5 s.below t⟩
     rintro v2 ⟨_,rfl⟩;refine aw ?_;simp only[pick,List.getD_cons_zero,List.getD_cons_succ,List.getElem_toArray,List.getElem_cons_succ,List.getElem_cons_zero,Act.put,List.setIfInBounds_toArray,List.set_cons_zero,List.set_cons_succ]
     cases u:(k.kid==nm)
     .have J:Hid (Led.jI b=false):=eA (by
       rw[m.out];have:b.keys.all (fun k=>k.x.length==32&&k.kid==Sha.iW k.x)=false:=by
        rw[List.all_eq_false];exact⟨k,z.out,by rw[Af.out,u];simp⟩
       rw[this];rfl)
      have Ag:Z=true:=by rw[<-Aa.out,u];rfl
      subst Ag;repeat (go_big_quiet_step (fail))
      refine wpQuiet_nil ?_;refine⟨_,rfl,rfl,?_,?_⟩
      .intro w5 s _
       go_simp
       exact⟨GR.of (Below.refl _ _),by simp⟩
      rintro v3 ⟨_,rfl⟩ w6 R hF;have S:=H.trans (R.below.mono H.size);clear f0 f1 Q C f O hF R;go_wp2_with fail
      (try rw[ak])
      (try go_wp2_with fail)
      go_ret;exact⟨by rw[J.out];rfl,S⟩
     .have Ag:Z=decide (0<cnt):=by rw[<-Aa.out,u];rfl
      subst Ag;repeat (go_big_quiet_step (fail))
      refine wpQuiet_nil ?_;refine⟨_,rfl,rfl,?_,?_⟩
      .intro w5 s _
       go_simp
       exact⟨GR.of (Below.refl _ _),by simp⟩
      rintro v3 ⟨_,rfl⟩ w6 R hF;have Ah:=R.below;have S:=H.trans (Ah.mono H.size);have A3:=BK.below Ah;have d:w6.heap[D.heap.size]?=some (jM ((b.keys.take j).map Jwk.kid)):=by
       rw[Ah.block _ (Array.getElem?_eq_some_iff.1 X.out).1];exact X.out
      by_cases I:k.kid∈(b.keys.take j).map Jwk.kid
      .have J:Hid (Led.jI b=false):=eA (by
        rw[m.out];have:¬(b.keys.map Jwk.kid).Nodup:=fun hn=>by
         have e:b.keys.map Jwk.kid=(b.keys.take (j+1)).map Jwk.kid++(b.keys.drop (j+1)).map Jwk.kid:=by rw[<-List.map_append,List.take_append_drop]
         rw[e,O.out,List.map_append] at hn;have l:=(List.nodup_append.1 hn).1;exact(List.nodup_append.1 l).2.2 _ I _ (by simp) rfl
        rw[decide_eq_false this,Bool.and_false])
       have A4:cnt=1:=by rw[<-N.out,if_pos I]
       subst A4;clear f0 f1 Q C f O hF R d I;go_wp2_with fail
       (try rw[ak])
       (try go_wp2_with fail)
       go_ret;exact⟨by rw[J.out];rfl,S⟩
      .have A5:cnt=0:=by rw[<-N.out,if_neg I]
       subst A5;have AJ:w6.cell? ⟨wx.heap.size,0,none⟩=some (.string (str k.kid)):=A3.cell 0;have A6:=tg (P:=prog) w6 D.heap.size _ k.kid _ _ _ underlying209 underlying9 (by kernel_rfl) d;rw[if_neg I] at A6;have AK:=run_updS (P:=prog) w6 D.heap.size _ k.kid _ _ _ underlying209 underlying9 I d;have Ap:=(Array.getElem?_eq_some_iff.1 d).1;have A7:=ut ((b.keys.take j).map Jwk.kid++[k.kid]) S Aw;have A8:=eA (show (lh w6 D.heap.size ((b.keys.take j).map Jwk.kid++[k.kid])).heap[D.heap.size]?=some (jM ((b.keys.take (j+1)).map Jwk.kid))/\(b.keys.take (j+1)).all (fun k=>k.x.length==32&&k.kid==Sha.iW k.x)=true/\((b.keys.take (j+1)).map Jwk.kid).Nodup by
        rw[O.out,List.map_append];refine⟨setMap_at _ Ap,?_,?_⟩
        .rw [List.all_append,f.out.2.1]
         simp[Y,Af.out,u]
        .exact kw f.out.2.2 I)
       clear f0 f1 Q C f O hF R d I X N;generalize lh w6 D.heap.size ((b.keys.take j).map Jwk.kid++[k.kid])=wU at *;go_wp2_with fail
       (try rw[ak])
       (try go_wp2_with fail)
       go_roundw
       case rel=>exact⟨j+1,by omega,by go_num,A7,A8⟩
       case measure=>simp[intOf];omega
    .have Az:((k.x.length:Int) != 32)=true:=by simp;omega
     have J:Hid (Led.jI b=false):=eA (by
      rw[m.out];have:b.keys.all (fun k=>k.x.length==32&&k.kid==Sha.iW k.x)=false:=by
       rw[List.all_eq_false];exact⟨k,z.out,by simp[Y]⟩
      rw[this];rfl)
     clear f O;go_upto_region 7 with fail
     refine au ?_;repeat (go_big_quiet_step (fail))
     refine wpQuiet_nil ?_;rintro _ ⟨p,rfl⟩;have A9:=aa L p;have S:=H.trans (A9.mono H.size);clear f0 f1;go_wp2_with fail
     go_ret;exact⟨by rw[J.out];rfl,S⟩
   .have Aq:j=n:=by omega
    have AA:Hid (Led.jI b=true):=eA (by
     rw[m.out];have hI:=f.out;rw[Aq,<-hl,List.take_length] at hI;rw[hI.2.1,decide_eq_true hI.2.2];rfl)
    have AD:(n:Int)<=(j:Int):=by omega
    clear Aq f;go_wp2_with fail
    go_ret;exact⟨by rw[AA.out];rfl,q⟩
 .have J:Hid (Led.jI b=false):=eA (by
   unfold Led.jI;rw[Bool.eq_false_iff.2 E];rfl)
  have AL:Int.ofNat n=(n:Int):=rfl;go_enter func176,ntmps176
  go_upto_region 1 with fail
  rw[show w.alloc (.cells #[.string (str b.domain),.int .i64 b.number,.slice A n c] 45)=W from HW.out]
  cases T:Ids.domain b.domain
  .rw [T] at K
   clear E T;go_wp2_with fail
   refine K.mono ?_;rintro e D ⟨rfl,G⟩;go_wp2_with fail
   go_ret;exact⟨by rw[J.out];rfl,F.trans (G.mono F.size)⟩
  .rw [T] at K E
   by_cases l:b.number<0
   .clear E T
    go_wp2_with fail
    refine K.mono ?_;rintro e D ⟨rfl,G⟩;have U:=B.below G;have d1:D.cell? ⟨w.heap.size,1,none⟩=some (.int .i64 b.number):=U.cell 1;go_wp2_with fail
    go_ret;exact⟨by rw[J.out];rfl,F.trans (G.mono F.size)⟩
   .by_cases h3:1099511627776<b.number
    .clear E T
     go_wp2_with fail
     refine K.mono ?_;rintro e D ⟨rfl,G⟩;have U:=B.below G;have d1:D.cell? ⟨w.heap.size,1,none⟩=some (.int .i64 b.number):=U.cell 1;go_wp2_with fail
     go_ret;exact⟨by rw[J.out];rfl,F.trans (G.mono F.size)⟩
    .have hw:aD b.number 0 1099511627776=true:=by unfold aD;simp;omega
     have h8:¬b.keys.length<=8:=fun h=>E (by rw[hw,decide_eq_true h];rfl)
     have Av:(8:Int)<(n:Int):=by omega
     clear E T;go_wp2_with fail
     refine K.mono ?_;rintro e D ⟨rfl,G⟩;have U:=B.below G;have d1:D.cell? ⟨w.heap.size,1,none⟩=some (.int .i64 b.number):=U.cell 1;have d2:D.cell? ⟨w.heap.size,2,none⟩=some (.slice A n c):=U.cell 2;go_wp2_with fail
     go_ret;exact⟨by rw[J.out];rfl,F.trans (G.mono F.size)⟩
end
section
open Go.RowKit Mem Led
def jtv(t:Txt):Value:=.agg #[.int .i64 3,.int .i64 0,.string (str t),.slice none 0 0,.slice none 0 0]
theorem jc(t:Txt)(W:World):Calls prog 179 #[.string (str t)] W (fun x A=>∃v,x=.returned v/\GR W A/\v=jtv t) :=
 (jtext_any t W).mono fun _ _ ⟨B,hb⟩=>⟨_,B,GR.of hb,rfl⟩
def ia(a b c d:Txt):List Value:=ah am [bt a,bt b,bt c,bt d]
theorem mt{w:World}{g k n:Nat}{M:List Value}{e:TypeId}(h:Blk w g M e)(A:M.length=n*k):Vs w w.heap.size k (some ⟨g,0,none⟩) n M :=
 ⟨A,fun j u B=>⟨_,rfl,h.lt,by rw[show (⟨g,0,none⟩:Addr).add j=⟨g,j,none⟩ by simp[Addr.add];intro h;exact h.symm,h.cell];exact B⟩⟩
def j6(g:Nat)(w:World)(v:JsV):Prop:=∃(B:Nat) (A x:Txt),v=⟨5,0,[],.slice (some ⟨B,0,none⟩) 4 4,.slice (some ⟨g,0,none⟩) 4 4⟩/\Blk w B (tv gd) 9/\Blk w g (ia tEd A mO x) 197/\mK A/\mK x/\A.length<=60/\x.length<=60
theorem j6.keyV{g:Nat}{w:World}{v:JsV}(h:j6 g w v):KeyV w.heap.size w v:=by
 obtain⟨D,A,x,rfl,B,C,h⟩:=h
 exact⟨_,_,_,_,A,x,rfl,⟨by omega,by omega,fun h=>by cases h⟩,mt B rfl,mt C rfl,h⟩
theorem j6.chg{g:Nat}{S:Option Nat}{w w':World}{v:JsV}(h:j6 g w v)(F:S≠some g)(G:∀k M,S=some k->Blk w k M 9->False)(D:∀k,k<w.heap.size->S≠some k->w'.heap[k]?=w.heap[k]?):j6 g w' v:=by
 obtain⟨A,B,x,rfl,C,E,h⟩:=h
 refine⟨A,B,x,rfl,?_,?_,h⟩
 .unfold Blk
  rw[D A C.lt (fun e=>G A _ e C)];exact C
 .unfold Blk
  rw[D g E.lt F];exact E
theorem j6.below{g:Nat}{w w':World}{v:JsV}(h:j6 g w v)(A:eF w w'):j6 g w' v:=h.chg (S:=none) (by simp) (fun _ _ h=>by cases h) fun k B _=>A.block k B
theorem jkey_any(k:Led.Jwk)(w:World)(hx:k.x.length<=40)(hk:mK k.kid)(y:k.kid.length<=60) :
  Calls prog 177 #[.agg #[.string (str k.kid),.string (str k.x)]] w fun e w'=>∃v:JsV,e=.returned (.agg (am v).toArray)/\(∃g,w.heap.size<=g/\j6 g w' v)/\eF w w':=by
 obtain⟨W,Y⟩:=eC ((w.alloc (.cells ([.string (str k.kid),.string (str k.x)]:List Value).toArray 54)).alloc (.cells (am ⟨0,0,[],.slice none 0 0,.slice none 0 0⟩).toArray 197))
 have z:Blk W w.heap.size [.string (str k.kid),.string (str k.x)] 54:=by rw[<-Y];exact(Blk.new _ _ _).alloc _
 have B1:Blk W (w.heap.size+1) (am ⟨0,0,[],.slice none 0 0,.slice none 0 0⟩) 197:=by
  have:=Blk.new (w.alloc (.cells ([.string (str k.kid),.string (str k.x)]:List Value).toArray 54)) (am ⟨0,0,[],.slice none 0 0,.slice none 0 0⟩) 197;rw[<-Y];simpa using this
 have M:eF w W:=by rw[<-Y];exact eI.alloc (by simp) _
 have HW:Hid ((w.alloc (.cells #[.string (str k.kid),.string (str k.x)] 54)).alloc (.cells #[.int .i64 0,.int .i64 0,.string ⟨#[]⟩,.slice none 0 0,.slice none 0 0] 197)=W):=eA Y
 clear Y
 have f0:∀p,(ab W p).cell? ⟨w.heap.size,0,none⟩=some (.string (str k.kid)):=fun p=>(z.below (aa W p)).cell 0
 have f1:∀p,(ab W p).cell? ⟨w.heap.size,1,none⟩=some (.string (str k.x)):=fun p=>(z.below (aa W p)).cell 1
 have N:Hid (∀(g c:Nat) (D:World),Bs D D.heap.size (some ⟨g,0,none⟩) k.x.length k.x->Calls prog 198 #[.slice (some ⟨g,0,none⟩) k.x.length c] D (fun x Aa=>∃v,x=.returned v/\GR D Aa/\v=.string (str (B64.enc k.x)))):=eA fun g c D h =>
  (encode_any (some ⟨g,0,none⟩) k.x.length c D.heap.size k.x D h (by omega) eH).mono fun e w' ⟨he,hb⟩=>⟨_,he,GR.of hb,rfl⟩
 have O:=eA (fine_enc k.x)
 have Q:=eA (show (B64.enc k.x).length<=60 by rw[B64.enc_length];omega)
 obtain⟨J,Ab⟩:=eD (B64.enc k.x)
 rw[Ab.out] at N O Q
 have Z:str tEd=⟨#[69,100,50,53,53,49,57]⟩:=rfl
 have b:str mO=⟨#[79,75,80]⟩:=rfl
 have R:=eA (fun D=>jc tEd D)
 have d:=eA (fun D=>jc k.kid D)
 have S:=eA (fun D=>jc mO D)
 have f:=eA (fun D=>jc J D)
 rw[Z] at R
 rw[b] at S
 clear Z b
 go_enter func177,ntmps177
 go_upto_region 1 with fail
 rw[HW.out]
 clear HW
 refine eh [([],1,[],fun v w'=>v=jtv tEd),([2,3],4,[],fun v w'=>v=jtv k.kid),([],5,[],fun v w'=>v=jtv mO),([6,7],8,[],fun v w'=>∃g c,v=.slice (some ⟨g,0,none⟩) k.x.length c/\Bs w' w'.heap.size (some ⟨g,0,none⟩) k.x.length k.x),([],9,[8],fun v w'=>v=.string (str J)),([],10,[],fun v w'=>v=jtv J),([],0,[],fun v w'=>∃g,v=.slice (some ⟨g,0,none⟩) 4 4/\Blk w' g (tv gd) 9),([],11,[],fun v w'=>∃g,W.heap.size<=g/\v=.slice (some ⟨g,0,none⟩) 4 4/\Blk w' g (ia tEd k.kid mO J) 197)] [12,13] (by kernel_rfl) (by kernel_rfl) (by
  intro x hx;simp only[List.mem_cons,List.not_mem_nil,or_false] at hx;rcases hx with rfl|rfl|rfl|rfl|rfl|rfl|rfl|rfl
  .exact ao fun v w w' hb h=>h
  .exact ao fun v w w' hb h=>h
  .exact ao fun v w w' hb h=>h
  .exact ao fun v w w' hb ⟨g,c,e,h⟩=>⟨g,c,e,cV h hb⟩
  .exact ao fun v w w' hb h=>h
  .exact ao fun v w w' hb h=>h
  .exact ao fun v w w' hb ⟨g,e,h⟩=>⟨g,e,h.below hb⟩
  .exact ao fun v w w' hb ⟨g,hg,e,h⟩=>⟨g,hg,e,h.below hb⟩) ?_
 refine aI ?_
 simp only[pick,List.getD_cons_zero,List.getD_cons_succ]
 refine wpQuiet_nil ?_
 refine⟨_,rfl,rfl,?_,?_,?_⟩
 .exact⟨_,W,rfl⟩
 .intro B C _
  go_simp
  exact⟨rfl,R.out B⟩
 rintro v1 ⟨_,rfl⟩
 refine aI ?_
 simp only[pick,List.getD_cons_zero,List.getD_cons_succ,List.getElem_toArray,List.getElem_cons_succ,List.getElem_cons_zero,Act.put,List.setIfInBounds_toArray,List.set_cons_zero,List.set_cons_succ]
 repeat (go_big_quiet_step (fail))
 refine wpQuiet_nil ?_
 refine⟨_,rfl,rfl,?_,?_,?_⟩
 .exact⟨_,W,rfl⟩
 .intro B C _
  go_simp
  exact⟨rfl,d.out B⟩
 rintro v2 ⟨_,rfl⟩
 refine aI ?_
 simp only[pick,List.getElem_toArray,List.getElem_cons_succ,List.getElem_cons_zero,Act.put,List.setIfInBounds_toArray,List.set_cons_zero,List.set_cons_succ]
 refine wpQuiet_nil ?_
 refine⟨_,rfl,rfl,?_,?_,?_⟩
 .exact⟨_,W,rfl⟩
 .intro B C _
  go_simp
  exact⟨rfl,S.out B⟩
 rintro v3 ⟨_,rfl⟩
 refine aI ?_
 simp only[pick,List.getD_cons_zero,List.getD_cons_succ,List.getElem_toArray,List.getElem_cons_succ,List.getElem_cons_zero,Act.put,List.setIfInBounds_toArray,List.set_cons_zero,List.set_cons_succ]
 repeat (go_big_quiet_step (fail))
 refine wpQuiet_nil ?_
 refine⟨_,rfl,rfl,?_,?_,?_⟩
 .obtain⟨wc,cc,_,E,_⟩:=ji k.x W
  exact⟨_,wc,_,cc,rfl,E⟩
 .intro B C _
  obtain⟨wc,cc,Ah,E,Ac⟩:=ji k.x B;go_simp
  exact⟨GR.of Ac,_,⟨cc,rfl⟩,E⟩
 rintro v4 ⟨_,g1,c1,rfl,_⟩
 refine aI ?_
 simp only[pick,List.getElem_toArray,List.getElem_cons_succ,List.getElem_cons_zero,Act.put,List.setIfInBounds_toArray,List.set_cons_zero,List.set_cons_succ]
 refine wpQuiet_nil ?_
 refine⟨_,rfl,rfl,?_,?_,?_⟩
 .exact⟨_,W,rfl⟩
 .rintro B C ⟨h8,_⟩
  obtain⟨g2,c2,he,E⟩:=h8 rfl;injection he with he1 he2 he3
  injection he1 with he1
  injection he1 with he1
  subst he1;go_simp
  exact⟨rfl,N.out g1 _ B E⟩
 rintro v5 ⟨_,rfl⟩
 refine aI ?_
 simp only[pick,List.getElem_toArray,List.getElem_cons_succ,List.getElem_cons_zero,Act.put,List.setIfInBounds_toArray,List.set_cons_zero,List.set_cons_succ]
 refine wpQuiet_nil ?_
 refine⟨_,rfl,rfl,?_,?_,?_⟩
 .exact⟨_,W,rfl⟩
 .intro B C _
  go_simp
  exact⟨rfl,f.out B⟩
 rintro v6 ⟨_,rfl⟩
 refine aI ?_
 simp only[pick,List.getElem_toArray,List.getElem_cons_succ,List.getElem_cons_zero,Act.put,List.setIfInBounds_toArray,List.set_cons_zero,List.set_cons_succ]
 refine wpQuiet_nil ?_
 refine⟨_,rfl,rfl,?_,?_,?_⟩
 .exact⟨_,_,_,rfl,Blk.new W (tv gd) _⟩
 .intro B C _
  go_simp
  exact⟨GR.of eI,B.heap.size,rfl,Blk.new B (tv gd) _⟩
 rintro v7 ⟨_,j,rfl,_⟩
 refine aI ?_
 simp only[pick,List.getElem_toArray,List.getElem_cons_zero,Act.put,List.setIfInBounds_toArray,List.set_cons_zero,List.set_cons_succ]
 unfold jtv
 refine wpQuiet_nil ?_
 refine⟨_,rfl,rfl,?_,?_,?_⟩
 .exact⟨_,_,_,eH,rfl,Blk.new W (ia tEd k.kid mO J) _⟩
 .intro B C _
  go_simp
  exact⟨GR.of eI,B.heap.size,C.below.size,rfl,Blk.new B (ia tEd k.kid mO J) _⟩
 rintro v8 ⟨_,X,Ad,rfl,_⟩ r l hF
 obtain⟨h8,h7,_⟩:=hF
 obtain⟨_,T,G⟩:=h7
 obtain⟨_,_,U,H⟩:=h8
 injection T with T
 injection T with T
 injection T with T
 subst T
 injection U with U
 injection U with U
 injection U with U
 subst U
 have V:=l.below
 have s:=B1.below V
 have F:=M.trans (V.mono M.size)
 obtain⟨v,t⟩:∃v:JsV,v=⟨5,0,[],.slice (some ⟨j,0,none⟩) 4 4,.slice (some ⟨X,0,none⟩) 4 4⟩:=⟨_,rfl⟩
 obtain⟨I,u⟩:=ld s (vs:=am v) rfl rfl (iL _ (by rw[t];rfl) (by rw[t];rfl))
 have Ae:j≠w.heap.size+1:=fun e=>by
  rw[e] at G;have:=G.symm.trans s;simp at this
 have Af:X≠w.heap.size+1:=fun e=>by
  rw[e] at H;have:=H.symm.trans s;injection this with this
  injection this with this
  have:=congrArg Array.size this;simp[ia,ah,am] at this
 have A:Chg [w.heap.size+1] r (r.setCells (w.heap.size+1) 0 (am v)):=(Chg.refl _ _).setCells _ (.inl (by simp))
 obtain⟨m,o⟩:=eC (r.setCells (w.heap.size+1) 0 (am v))
 rw[o] at I u A
 have K:Blk m j (tv gd) 9:=G.chg A (by simpa using Ae)
 have L:Blk m X (ia tEd k.kid mO J) 197:=H.chg A (by simpa using Af)
 have q:eF w m:=F.trans ⟨A.os,A.tape,A.output,A.size,fun i hi=>A.block i (Nat.lt_of_lt_of_le hi F.size) (by simp;omega)⟩
 have Ag:(stJs (.pointer (some ⟨w.heap.size+1,0,none⟩)) (.agg #[.int .i64 5,.int .i64 0,.string ⟨#[]⟩,.slice (some ⟨j,0,none⟩) 4 4,.slice (some ⟨X,0,none⟩) 4 4])).run prog r=.ok () m:=by
  rw[t] at I;exact I
 have hH:=u.has (n:=5) rfl
 have hA:=u.arr (n:=5) rfl
 have hK:j6 X m v:=⟨j,k.kid,J,t,K,L,hk,O.out,y,Q.out⟩
 have HK:=eA hK
 clear hK I o A G H K L s u l V F R d S f N O Q f0 f1 z B1
 go_wp2_with fail
 (try rw[ak])
 (try go_wp2)
 refine bodyPost_ret (dA (P:=prog) Tryz.results177 _ _ (w.heap.size+1) 0 5 _ rfl underlying197 rfl ol hH) rfl ?_
 exact⟨v,congrArg (fun a=>Ending.returned (Value.agg a)) hA,⟨X,Nat.le_trans M.size Ad,HK.out⟩,q⟩
end
section
open Go.RowKit Mem Led
theorem infoJs:(prog.info? 197).map (fun i=>(i.zero,i.size,i.bytes))=some (some (.agg #[.int .i64 0,.int .i64 0,.string ⟨#[]⟩,.slice none 0 0,.slice none 0 0]),5,80):=by kernel_rfl
theorem inner_fine:∀n,n<256->Ids.inner (UInt8.ofNat n)=true->(UInt8.ofNat n).toNat<=126/\32<=(UInt8.ofNat n).toNat/\(UInt8.ofNat n).toNat≠34/\(UInt8.ofNat n).toNat≠92:=by decide +kernel
theorem domain_fine{t:Txt}(h:Ids.domain t=true):mK t/\t.length<=300:=by
 unfold Ids.domain Ids.bG at h
 simp only[Bool.and_eq_true,decide_eq_true_eq] at h
 have key:∀c∈t,c.toNat<=126/\32<=c.toNat/\c.toNat≠34/\c.toNat≠92:=fun c A=>by
  have B:=inner_fine c.toNat c.toNat_lt;rw[UInt8.ofNat_toNat] at B;exact B (List.all_eq_true.1 h.1.2.1 c A)
 exact⟨⟨fun c A=>(key c A).1,fun c A=>(key c A).2⟩,by omega⟩
theorem pmay_spec{b:Led.Bundle}(h:Led.jI b=true):mK b.domain/\b.domain.length<=300/\(∃m:Nat,b.number=(m:Int)/\m<=1000000000000000)/\b.keys.length<=8/\∀k∈b.keys,k.x.length<=40/\mK k.kid/\k.kid.length<=60:=by
 unfold Led.jI aD at h
 simp only[Bool.and_eq_true,decide_eq_true_eq] at h
 obtain⟨⟨⟨⟨A,G,B⟩,C⟩,D⟩,_⟩:=h
 obtain⟨g1,E⟩:=domain_fine A
 refine⟨g1,E,⟨b.number.toNat,by omega,by omega⟩,C,fun k F=>?_⟩
 have:=List.all_eq_true.1 D k F
 simp only[Bool.and_eq_true,beq_iff_eq] at this
 rw[this.2]
 exact⟨by omega,fine_pname _,by rw[Sha.pname_len];omega⟩
theorem own_kids{w:World}{base n g:Nat}{v:Value}{A:List JsV}{k:JsV}(h:w.ownsRow base 197 5 v n (ah am A))(E:∀k∈A,k.kind=5)(h0:A≠[])(F:j6 g w k):v.ownBlock≠some g:=by
 obtain⟨M,G,x,rfl,_,H,_⟩:=F
 rcases h.2 with⟨rfl,_⟩|⟨g1,c,I,rfl,_,J,_,_,_,B⟩
 .simp [Value.ownBlock]
 .intro C
  simp only[Value.ownBlock,Option.some.injEq] at C;subst C;have e:=H.symm.trans J;injection e with e
  injection e with e
  rw[<-e] at B
  cases A with
  | nil=>exact h0 rfl
  | cons k1 A =>
   have N:=E k1 List.mem_cons_self;have K:=h.1;rw[bM,List.length_append,eV] at K;have D:=congrArg (fun L=>L[0]?) B;simp only[bM] at D;rw[List.getElem?_append_left (by rw[eV];omega),List.getElem?_take_of_lt (by omega)] at D
   simp[ia,ah,am,bt] at D
   omega
theorem keys_grown{w w':World}{base n:Nat}{v:Value}{D:List JsV}{xs:List Value}(h:w.ownsRow base 197 5 v n xs)(E:w.grownBy w' v.ownBlock)(B:∀k∈D,∃g,j6 g w k/\v.ownBlock≠some g):∀k∈D,∃g,j6 g w' k:=fun k F=>by
 obtain⟨g,G,H⟩:=B k F
 exact⟨g,G.chg (S:=v.ownBlock) H (fun q M C I=>ax h I (by decide) C) fun q C A=>E.block q C (fun e=>A e.symm)⟩
theorem ldJwk_blk{w:World}{g:Nat}{k:Led.Jwk}{t:TypeId}(h:Blk w g (aN k) t):(rm (.pointer (some ⟨g,0,none⟩))).run prog w=.ok (.agg (aN k).toArray) w :=
 cz underlying54 rfl qq rfl fun j u A=>by rw[h.cell,Nat.zero_add];exact A
theorem u7(b:Led.Bundle)(kv:Value)(w:World)(AL:aV aN 2 w kv b.keys)(hd:b.domain.length<=9223372036854775807)(Z:b.keys.length<=1000)(A2:∀k∈b.keys,k.kid.length<=1000000/\k.x.length<=1000000)(hT:Tab Sha.kkL w) :
  Calls prog 149 #[.agg (ai (b,kv)).toArray] w fun e w'=>(∃s,e=.returned (.tuple #[.string s,.int .i64 (if Led.jI b then 0 else 1)]))/\eF w w':=by
 obtain⟨A,n,c,rfl,hf,hv⟩:=AL
 have hl:=hv.len cG (by omega)
 obtain⟨W,hW⟩:=eC (w.alloc (.cells ([.string (str b.domain),.int .i64 b.number,.slice A n c]:List Value).toArray 45))
 have B:Blk W w.heap.size [.string (str b.domain),.int .i64 b.number,.slice A n c] 45:=by rw[<-hW];exact Blk.new _ _ _
 have R:eF w W:=eG hW
 have E:=may_any b (.slice A n c) W ⟨A,n,c,rfl,hf,hv.below R⟩ hd Z A2 (hT.below R)
 have u:(fo (.pointer (some ⟨w.heap.size,0,none⟩))).run prog W=.ok (.agg #[.string (str b.domain),.int .i64 b.number,.slice A n c]) W:=cR B rfl
 have E:Calls prog 176 #[.agg #[.string (str b.domain),.int .i64 b.number,.slice A n c]] W fun e w'=>e=.returned (.bool (Led.jI b))/\eF W w':=E
 have HW:=eA hW
 clear hW
 show Calls prog 149 #[.agg #[.string (str b.domain),.int .i64 b.number,.slice A n c]] w _
 cases y:Led.jI b
 .rw [y] at E
  clear y;go_enter func149,ntmps149
  go_upto_region 1 with fail
  rw[show w.alloc (.cells #[.string (str b.domain),.int .i64 b.number,.slice A n c] 45)=W from HW.out];go_wp2_with fail
  refine E.mono ?_;rintro e D ⟨rfl,z⟩;go_wp2_with fail
  go_ret2;exact⟨⟨_,rfl⟩,R.trans (z.mono R.size)⟩
 .rw [y] at E
  obtain⟨AM,A3,⟨nb,A4,Bb⟩,AN,AO⟩:=pmay_spec y;rw[A4] at E u B HW ⊢;clear y A4 hT hd A2;rw[hl] at AN;obtain⟨iJ,AP,AQ,AR,AS⟩:=an infoJs;rw[if_pos rfl];go_enter func149,ntmps149
  go_upto_region 1 with fail
  rw[show w.alloc (.cells #[.string (str b.domain),.int .i64 (nb:Int),.slice A n c] 45)=W from HW.out];go_wp2_with fail
  refine E.mono ?_;rintro e D ⟨rfl,z⟩;have B1:=B.below z;have Al:eF w D:=R.trans (z.mono R.size);have bn:=Blk.new D (am ⟨0,0,[],.slice none 0 0,.slice none 0 0⟩) 197;obtain⟨T,BK⟩:=ld bn (vs:=am ⟨4,0,[],.slice none 0 0,.slice none 0 0⟩) rfl rfl (iL _ rfl rfl);obtain⟨w2,Ar⟩:=eC ((D.alloc (.cells (am ⟨0,0,[],.slice none 0 0,.slice none 0 0⟩).toArray 197)).setCells D.heap.size 0 (am ⟨4,0,[],.slice none 0 0,.slice none 0 0⟩));have Aa:Chg [] D w2:=by rw[<-Ar];exact((Chg.refl _ _).alloc _).setCells _ (.inr eH)
  rw[Ar] at T BK;have As:=Aa.below (fun _ h=>by cases h);have Am:eF w w2:=Al.trans (As.mono Al.size);have Ab:(stJs (.pointer (some ⟨D.heap.size,0,none⟩)) (.agg #[.int .i64 4,.int .i64 0,.string ⟨#[]⟩,.slice none 0 0,.slice none 0 0])).run prog (D.alloc (.cells #[.int .i64 0,.int .i64 0,.string ⟨#[]⟩,.slice none 0 0,.slice none 0 0] 197))=.ok () w2:=T;have B2:=B1.below As;have d2:w2.cell? ⟨w.heap.size,2,none⟩=some (.slice A n c):=B2.cell 2;have Ac:w2.ownsRow (D.heap.size+1) 197 5 (.slice none 0 0) 0 (ah am []):=World.ownsRow_nil _ _ _ _;have Be:w.heap.size<D.heap.size:=B1.lt;clear E u B HW T bn Aa Ar As z R B1;go_wp2_with fail
  clear Ab;go_loopw [6,14] (fun _ i wx=>∃(j:Nat) (Kv:Value) (Ks:List JsV),j<=n/\i=.int .i64 (j:Int)/\eF w wx/\Blk wx w.heap.size [.string (str b.domain),.int .i64 (nb:Int),.slice A n c] 45/\Blk wx D.heap.size (am ⟨4,0,[],.slice none 0 0,Kv⟩) 197/\Hid (wx.ownsRow (D.heap.size+1) 197 5 Kv j (ah am Ks))/\Hid (∀k∈Ks,k.kind=5/\∃g,j6 g wx k)/\Ks.length=j) (fun _ i _=>n-(intOf i).toNat)
  case atStart=>exact⟨0,_,[],by omega,rfl,Am,B2,BK,eA Ac,eA (fun k Z=>by cases Z),rfl⟩
  case round =>
   clear Am B2 BK Ac d2;obtain⟨j,Kv,Ks,hj,rfl,m,BB,BK,G,Ad,Bf⟩:=hrel;obtain⟨wx,AT⟩:∃wx,wx=wr:=⟨_,rfl⟩;subst AT;by_cases Bg:j<n
   .have A5:j<b.keys.length:=by omega
    obtain⟨bk,ok,rfl,Bh,u⟩:=rl hv A5;have An:=u wx m;have HK:=eA (AO _ (List.getElem_mem A5));generalize b.keys[j]=k at *;have bn:=Blk.new wx [.string ⟨#[]⟩,.string ⟨#[]⟩] 54;obtain⟨T,BN⟩:=n8 bn rfl (vs:=[.string (str k.kid),.string (str k.x)]) rfl (mA k);obtain⟨t,Au⟩:=eC ((wx.alloc (.cells ([.string ⟨#[]⟩,.string ⟨#[]⟩]:List Value).toArray 54)).setCells wx.heap.size 0 [.string (str k.kid),.string (str k.x)]);have Aa:Chg [] wx t:=by rw[<-Au];exact((Chg.refl _ _).alloc _).setCells _ (.inr eH)
    rw[Au] at T BN;have U:=Aa.below (fun _ h=>by cases h);have Ao:eF w t:=m.trans (U.mono m.size);have Av:(rm (.pointer (some ⟨bk,ok+j*2,none⟩))).run prog wx=.ok (.agg #[.string (str k.kid),.string (str k.x)]) wx:=An;have Ab:(stJwk (.pointer (some ⟨wx.heap.size,0,none⟩)) (.agg #[.string (str k.kid),.string (str k.x)])).run prog (wx.alloc (.cells #[.string ⟨#[]⟩,.string ⟨#[]⟩] 54))=.ok () t:=T;have AU:(j:Int)<(n:Int):=by omega
    have f0:∀p,(rm (.pointer (some ⟨wx.heap.size,0,none⟩))).run prog (ab t p)=.ok (.agg #[.string (str k.kid),.string (str k.x)]) (ab t p):=fun p=>ldJwk_blk (BN.below (aa t p));have Aw:=BK.below U;have f1:∀p,(ab t p).cell? ⟨D.heap.size,4,none⟩=some Kv:=fun p=>(Aw.below (aa t p)).cell 4;have A6:Hid (∀J,Calls prog 177 #[.agg #[.string (str k.kid),.string (str k.x)]] J (fun x A7=>∃v,x=.returned v/\GR J A7/\(∃C g,J.heap.size<=g/\v=.agg #[.int .i64 5,.int .i64 0,.string ⟨#[]⟩,.slice (some ⟨C,0,none⟩) 4 4,.slice (some ⟨g,0,none⟩) 4 4]/\j6 g A7 ⟨5,0,[],.slice (some ⟨C,0,none⟩) 4 4,.slice (some ⟨g,0,none⟩) 4 4⟩))):=eA fun J =>
     (jkey_any k J HK.out.1 HK.out.2.1 HK.out.2.2).mono fun e w' ⟨v,he,⟨g,hg,hG⟩,hb⟩=>by
      obtain⟨C,AV,x,rfl,h⟩:=hG;exact⟨_,he,GR.of hb,C,g,hg,rfl,C,AV,x,rfl,h⟩
    clear u An T bn Aa Au BN BK HK;go_upto_region 7 with fail
    clear Av Ab;have Ax:∀g,Kv.ownBlock=some g->g<wx.heap.size:=fun g hg=>(G.out.lt g hg).2;have Ae:=eA (af G.out U eH);have Ap:Hid (∀k∈Ks,k.kind=5/\∃g,j6 g t k/\Kv.ownBlock≠some g):=eA fun q d=>by
     obtain⟨h1,g,h2⟩:=Ad.out q d;refine⟨h1,g,h2.below U,own_kids G.out (fun k Z=>(Ad.out k Z).1) (fun e=>by rw[e] at d;cases d) h2⟩
    have Bc:=U.size;have A8:=BB.below U;clear G Ad BB U m;refine aE [([0,1,2],(3,fun v w'=>∃C g,t.heap.size<=g/\v=.agg #[.int .i64 5,.int .i64 0,.string ⟨#[]⟩,.slice (some ⟨C,0,none⟩) 4 4,.slice (some ⟨g,0,none⟩) 4 4]/\j6 g w' ⟨5,0,[],.slice (some ⟨C,0,none⟩) 4 4,.slice (some ⟨g,0,none⟩) 4 4⟩)),([],(4,fun v w'=>∃C g H,t.heap.size<=g/\t.heap.size<=H/\v=.slice (some ⟨H,0,none⟩) 1 1/\Blk w' H (am ⟨5,0,[],.slice (some ⟨C,0,none⟩) 4 4,.slice (some ⟨g,0,none⟩) 4 4⟩) 197/\j6 g w' ⟨5,0,[],.slice (some ⟨C,0,none⟩) 4 4,.slice (some ⟨g,0,none⟩) 4 4⟩))] [5,6,7] (by kernel_rfl) (by kernel_rfl) (by
     intro x hx;simp only[List.mem_cons,List.not_mem_nil,or_false] at hx;rcases hx with rfl|rfl
     .exact ao fun v w w' hb ⟨C,g,hg,e,h⟩=>⟨C,g,hg,e,h.below hb⟩
     .exact ao fun v w w' hb ⟨C,g,H,hg,hg8,e,hB,h⟩=>⟨C,g,H,hg,hg8,e,hB.below hb,h.below hb⟩) ?_
    refine aw ?_;simp only[pick,List.getD_cons_zero,List.getD_cons_succ];repeat (go_big_quiet_step (fail))
    refine wpQuiet_nil ?_;refine⟨_,rfl,rfl,?_,?_⟩
    .intro N F _
     go_simp
     refine⟨rfl,(A6.out N).mono ?_⟩;rintro e w' ⟨v,he,hG,C,g,hg,hv,hK⟩;exact⟨v,he,hG,C,g,Nat.le_trans F.below.size hg,hv,hK⟩
    rintro v1 ⟨_,C,g,hg,rfl,_⟩;refine aw ?_;simp only[pick,List.getElem_toArray,List.getElem_cons_succ,List.getElem_cons_zero,Act.put,List.setIfInBounds_toArray,List.set_cons_zero,List.set_cons_succ];refine wpQuiet_nil ?_;refine⟨_,rfl,rfl,?_,?_⟩
    .rintro N F ⟨_,Bi,g',Bj,he,hK⟩
     injection he with he
     injection he with he
     injection he with _ he
     injection he with _ he
     injection he with _ he
     injection he with he7 he
     injection he with he8 _
     injection he7 with he7 _ _
     injection he7 with he7
     injection he7 with he7
     injection he8 with he8 _ _
     injection he8 with he8
     injection he8 with he8
     subst he7 he8;go_simp
     refine⟨GR.of eI,C,g,hg,N.heap.size,F.below.size,rfl,Blk.new N _ _,hK.below eI⟩
    rintro v2 ⟨_,Bk,gb,H,Bl,hg8,rfl,_⟩ w6 Af hF;have K:=Af.below;obtain⟨_,Ay,gc,AW,Bm,_,he,L,A9⟩:=hF;injection he with he _ _
    injection he with he
    injection he with he
    subst he;have Bd:=K.size;have I:=af Ae.out K eH;have f:Hid (∀k∈Ks++[⟨5,0,[],.slice (some ⟨Ay,0,none⟩) 4 4,.slice (some ⟨gc,0,none⟩) 4 4⟩],k.kind=5/\∃g,j6 g w6 k/\Kv.ownBlock≠some g):=eA fun q d=>by
     rcases List.mem_append.1 d with d|d
     .obtain⟨h1,g,h2,h3⟩:=Ap.out q d
      exact⟨h1,g,h2.below K,h3⟩
     .rw [List.mem_singleton] at d
      subst d;exact⟨rfl,gc,A9,fun hg=>by have:=Ax gc hg;omega⟩
    have Az:=Aw.below K;have AA:=A8.below K;have l:=Ao.trans (K.mono Ao.size);obtain⟨kJ,Aj⟩:∃kJ:JsV,kJ=⟨5,0,[],.slice (some ⟨Ay,0,none⟩) 4 4,.slice (some ⟨gc,0,none⟩) 4 4⟩:=⟨_,rfl⟩;rw[<-Aj] at L f;have AB:=iL kJ (by rw[Aj];rfl) (by rw[Aj];rfl)
    have AC:Vs w6 w6.heap.size 5 (some ⟨H,0,none⟩) 1 (am kJ):=mt L rfl;have AX:j+1<=maxLen:=by unfold maxLen;omega
    have AD:D.heap.size+1<=w6.heap.size:=Az.lt;clear Aj A9 L Ap Ae Aw A8 Af f0 f1 A6;go_wp2_with (at_builtin;go_must (refine aK w6 rfl (.tmp 19) (.tmp 22) 195 rfl (D.heap.size+1) 197 iJ (.agg #[.int .i64 0,.int .i64 0,.string ⟨#[]⟩,.slice none 0 0,.slice none 0 0]) 5 80 underlying195 AP AQ AR AS rfl (by omega) _ _ _ rfl I _ _ 1 _ _ rfl AC AB AX (by omega) AD ?_))
    intro O Q w7 Ag Bn Bo A0;have Ak:Below (D.heap.size+1) w6 w7:=Mem.aH (Below.refl (D.heap.size+1) w6) A0 AD I;have Ah:=keys_grown I A0 (fun k Z=>(f.out k Z).2);have Aq:=eA (fun k Z=>(f.out k Z).1);have o:Blk w7 D.heap.size (am ⟨4,0,[],.slice none 0 0,Kv⟩) 197:=by unfold Blk;rw[Ak.block _ (by omega)];exact Az
    have AE:Blk w7 w.heap.size [.string (str b.domain),.int .i64 (nb:Int),.slice (some ⟨bk,ok,none⟩) n c] 45:=by unfold Blk;rw[Ak.block _ (by omega)];exact AA
    have q4:w7.cell? ⟨D.heap.size,4,none⟩=some Kv:=o.cell 4;have Bp:=o.froz 4;have AY:Blk (w7.setCell ⟨D.heap.size,4,none⟩ (.slice O (j+1) Q)) D.heap.size (am ⟨4,0,[],.slice none 0 0,.slice O (j+1) Q⟩) 197:=o.set 4 (.slice O (j+1) Q);have AZ:=AE.set_ne (p:=⟨D.heap.size,4,none⟩) (by simp;omega) (.slice O (j+1) Q)
    have V:=ownsRow_setCell_below Ag (a:=⟨D.heap.size,4,none⟩) (by simp) (.slice O (j+1) Q);have Ba:=eA fun k Z=>by
     obtain⟨g,hK⟩:=Ah k Z;refine(⟨Aq.out k Z,g,hK.chg (S:=some D.heap.size) (w':=w7.setCell ⟨D.heap.size,4,none⟩ (.slice O (j+1) Q)) ?_ ?_ ?_⟩:k.kind=5/\∃g,j6 g (w7.setCell ⟨D.heap.size,4,none⟩ (.slice O (j+1) Q)) k)
     .intro e
      injection e with e
      obtain⟨_,_,_,_,_,h8,_⟩:=hK;rw[<-e] at h8;have:=h8.symm.trans o;injection this with this
      injection this with this
      have:=congrArg Array.size this;simp[ia,ah,am] at this
     .intro q M e d
      injection e with e
      subst e;have:=d.symm.trans o;simp at this
     .intro q _ d
      exact heap_setCell_other w7 ⟨D.heap.size,4,none⟩ q _ (fun e=>d (by rw[e]))
    have AF:=(l.trans (Ak.mono (by omega))).setCell (p:=⟨D.heap.size,4,none⟩) (by simp;omega) (.slice O (j+1) Q)
    have HR:=eA (show ah am (Ks++[kJ])=ah am Ks++am kJ by unfold ah;simp)
    rw[<-HR.out] at V;have A1:=eA V;clear Ah Aq Ag V o AE A0 I AC Ak Az AA f l;go_wp2;(try rw[ak])
    (try go_wp2)
    go_roundw
    case rel=>exact⟨j+1,_,Ks++[kJ],by omega,by go_num,AF,AZ,AY,A1,Ba,by simp;omega⟩
    case measure=>simp[intOf];omega
   .have AU:¬(j:Int)<(n:Int):=by omega
    have Bq:=eA (show j=n by omega);obtain⟨O,Q,rfl,r1,r2⟩:=aj G.out;have f0:∀p,(ab wx p).cell? ⟨w.heap.size,0,none⟩=some (.string (str b.domain)):=fun p=>(BB.below (aa wx p)).cell 0;have f1:∀p,(ab wx p).cell? ⟨w.heap.size,1,none⟩=some (.int .i64 (nb:Int)):=fun p=>(BB.below (aa wx p)).cell 1;have f2:∀p,(nw (.pointer (some ⟨D.heap.size,0,none⟩))).run prog (ab wx p)=.ok (.agg #[.int .i64 4,.int .i64 0,.string ⟨#[]⟩,.slice none 0 0,.slice O j Q]) (ab wx p):=fun p=>bP (BK.below (aa wx p));have AG:=eA (fun J=>jc b.domain J);have AH:Hid (∀C H J,eF wx J->Blk J C (tv eO) 9->Blk J H (ah am [bt b.domain,⟨4,0,[],.slice none 0 0,.slice O j Q⟩,⟨2,(nb:Int),[],.slice none 0 0,.slice none 0 0⟩]) 197 ->
      Calls prog 178 #[.agg #[.int .i64 5,.int .i64 0,.string ⟨#[]⟩,.slice (some ⟨C,0,none⟩) 3 3,.slice (some ⟨H,0,none⟩) 3 3]] J (fun e w'=>∃v,e=.returned v/\GR J w'/\∃s,v=.tuple #[.string s,.int .i64 0])):=eA fun C H J hb Ai L=>by
     have I:=af G.out hb eH;have AI:BunV J.heap.size J ⟨5,0,[],.slice (some ⟨C,0,none⟩) 3 3,.slice (some ⟨H,0,none⟩) 3 3⟩ :=
      ⟨_,_,O,3,3,j,Q,b.domain,nb,Ks,rfl,⟨by omega,by omega,fun h=>by cases h⟩,mt Ai rfl,mt L rfl,AM,A3,by omega,by omega,Vs.of_own I,fun k Z=>by
       obtain⟨_,g,hK⟩:=Ad.out k Z;exact(hK.below hb).keyV⟩
     have AJ:=jwrite_any ⟨5,0,[],.slice (some ⟨C,0,none⟩) 3 3,.slice (some ⟨H,0,none⟩) 3 3⟩ J AI;have AK:Calls prog 178 #[.agg #[.int .i64 5,.int .i64 0,.string ⟨#[]⟩,.slice (some ⟨C,0,none⟩) 3 3,.slice (some ⟨H,0,none⟩) 3 3]] J (fun e w'=>(∃s,e=.returned (.tuple #[.string s,.int .i64 0]))/\eF J w'):=AJ;exact AK.mono fun e w' ⟨⟨s,he⟩,hb⟩=>⟨_,he,GR.of hb,s,rfl⟩
    clear BB BK G Ad;go_upto_region 9 with fail
    refine eh [([1,2],3,[],fun v w'=>v=jtv b.domain),([4,5,6,7],8,[],fun v w'=>∃g,v=.slice (some ⟨g,0,none⟩) 3 3/\Blk w' g (ah am [bt b.domain,⟨4,0,[],.slice none 0 0,.slice O j Q⟩,⟨2,(nb:Int),[],.slice none 0 0,.slice none 0 0⟩]) 197),([],0,[],fun v w'=>∃g,v=.slice (some ⟨g,0,none⟩) 3 3/\Blk w' g (tv eO) 9),([],9,[0,8],fun v w'=>∃C H,v=.agg #[.int .i64 5,.int .i64 0,.string ⟨#[]⟩,.slice (some ⟨C,0,none⟩) 3 3,.slice (some ⟨H,0,none⟩) 3 3]/\Blk w' C (tv eO) 9/\Blk w' H (ah am [bt b.domain,⟨4,0,[],.slice none 0 0,.slice O j Q⟩,⟨2,(nb:Int),[],.slice none 0 0,.slice none 0 0⟩]) 197),([],10,[9],fun v w'=>∃s,v=.tuple #[.string s,.int .i64 0]),([],11,[],fun v w'=>∃s,v=.string s),([],12,[],fun v w'=>v=.int .i64 0),([],13,[],fun v w'=>∃s,v=.string s)] [14] (by kernel_rfl) (by kernel_rfl) (by
     intro x hx;simp only[List.mem_cons,List.not_mem_nil,or_false] at hx;rcases hx with rfl|rfl|rfl|rfl|rfl|rfl|rfl|rfl
     .exact ao fun v w w' hb h=>h
     .exact ao fun v w w' hb ⟨g,e,h⟩=>⟨g,e,h.below hb⟩
     .exact ao fun v w w' hb ⟨g,e,h⟩=>⟨g,e,h.below hb⟩
     .exact ao fun v w w' hb ⟨C,H,e,h7,h8⟩=>⟨C,H,e,h7.below hb,h8.below hb⟩
     .exact ao fun v w w' hb h=>h
     .exact ao fun v w w' hb h=>h
     .exact ao fun v w w' hb h=>h
     .exact ao fun v w w' hb h=>h) ?_
    refine aI ?_;simp only[pick,List.getD_cons_zero,List.getD_cons_succ];repeat (go_big_quiet_step (fail))
    refine wpQuiet_nil ?_;refine⟨_,rfl,rfl,?_,?_,?_⟩
    .exact⟨_,wx,rfl⟩
    .intro N F _
     go_simp
     exact⟨rfl,AG.out N⟩
    rintro v1 ⟨_,rfl⟩;refine aI ?_;simp only[pick,List.getD_cons_zero,List.getD_cons_succ,List.getElem_toArray,List.getElem_cons_succ,List.getElem_cons_zero,Act.put,List.setIfInBounds_toArray,List.set_cons_zero,List.set_cons_succ];repeat (go_big_quiet_step (fail))
    refine wpQuiet_nil ?_;unfold jtv;refine⟨_,rfl,rfl,?_,?_,?_⟩
    .exact⟨_,_,_,rfl,Blk.new wx _ _⟩
    .intro N F _
     go_simp
     exact⟨GR.of eI,N.heap.size,rfl,Blk.new N (ah am [bt b.domain,⟨4,0,[],.slice none 0 0,.slice O j Q⟩,⟨2,(nb:Int),[],.slice none 0 0,.slice none 0 0⟩]) _⟩
    rintro v2 ⟨_,H,rfl,_⟩;refine aI ?_;simp only[pick,List.getElem_toArray,List.getElem_cons_succ,List.getElem_cons_zero,Act.put,List.setIfInBounds_toArray,List.set_cons_zero,List.set_cons_succ];refine wpQuiet_nil ?_;refine⟨_,rfl,rfl,?_,?_,?_⟩
    .exact⟨_,_,_,rfl,Blk.new wx (tv eO) _⟩
    .intro N F _
     go_simp
     exact⟨GR.of eI,N.heap.size,rfl,Blk.new N (tv eO) _⟩
    rintro v3 ⟨_,C,rfl,_⟩;refine aI ?_;simp only[pick,List.getElem_toArray,List.getElem_cons_zero,Act.put,List.setIfInBounds_toArray,List.set_cons_zero,List.set_cons_succ];refine wpQuiet_nil ?_;refine⟨_,rfl,rfl,?_,?_,?_⟩
    .exact⟨_,(wx.alloc (.cells (tv eO).toArray 9)).alloc (.cells (ah am [bt b.domain,⟨4,0,[],.slice none 0 0,.slice O j Q⟩,⟨2,(nb:Int),[],.slice none 0 0,.slice none 0 0⟩]).toArray 197),wx.heap.size,wx.heap.size+1,rfl,(Blk.new wx _ _).alloc _,by
      have:=Blk.new (wx.alloc (.cells (tv eO).toArray 9)) (ah am [bt b.domain,⟨4,0,[],.slice none 0 0,.slice O j Q⟩,⟨2,(nb:Int),[],.slice none 0 0,.slice none 0 0⟩]) 197;simpa using this⟩
    .rintro N F ⟨h7,h8,_⟩
     obtain⟨_,X,Ai⟩:=h7 rfl;obtain⟨_,Y,L⟩:=h8 rfl;injection X with X
     injection X with X
     injection X with X
     subst X;injection Y with Y
     injection Y with Y
     injection Y with Y
     subst Y;go_simp
     exact⟨GR.of (Below.refl _ _),_,_,rfl,Ai,L⟩
    rintro v9 ⟨_,Ay,AW,rfl,_⟩;refine aI ?_;simp only[pick,List.getElem_toArray,List.getElem_cons_succ,List.getElem_cons_zero,Act.put,List.setIfInBounds_toArray,List.set_cons_zero,List.set_cons_succ];refine wpQuiet_nil ?_;refine⟨_,rfl,rfl,?_,?_,?_⟩
    .exact⟨_,wx,⟨#[]⟩,rfl⟩
    .rintro N F ⟨h9,_⟩
     obtain⟨Br,Bt,r,Ai,L⟩:=h9 rfl;injection r with r
     injection r with r
     injection r with _ r
     injection r with _ r
     injection r with _ r
     injection r with X r
     injection r with Y _
     injection X with X _ _
     injection X with X
     injection X with X
     injection Y with Y _ _
     injection Y with Y
     injection Y with Y
     subst X Y;go_simp
     exact⟨rfl,AH.out _ _ N F.below Ai L⟩
    rintro Bu ⟨_,s,rfl⟩;refine aI ?_;simp only[pick,List.getElem_toArray,List.getElem_cons_succ,List.getElem_cons_zero,Act.put,List.setIfInBounds_toArray,List.set_cons_zero,List.set_cons_succ];refine wpQuiet_nil ?_;refine⟨_,rfl,rfl,?_,?_,?_⟩
    .exact⟨_,wx,⟨#[]⟩,rfl⟩
    .intro N F _
     go_simp
     exact(by first|exact⟨GR.of (Below.refl _ _),⟨_,rfl⟩⟩|exact GR.of (Below.refl _ _))
    rintro Bv ⟨_,s1,rfl⟩;refine aI ?_;simp only[pick,List.getElem_toArray,List.getElem_cons_succ,List.getElem_cons_zero,Act.put,List.setIfInBounds_toArray,List.set_cons_zero,List.set_cons_succ];refine wpQuiet_nil ?_;refine⟨_,rfl,rfl,?_,?_,?_⟩
    .exact⟨_,wx,rfl⟩
    .intro N F _
     go_simp
     exact(by first|exact⟨GR.of (Below.refl _ _),rfl⟩|exact GR.of (Below.refl _ _))
    rintro Bw ⟨_,rfl⟩;refine aI ?_;simp only[pick,List.getElem_toArray,List.getElem_cons_succ,List.getElem_cons_zero,Act.put,List.setIfInBounds_toArray,List.set_cons_zero,List.set_cons_succ];refine wpQuiet_nil ?_;refine⟨_,rfl,rfl,?_,?_,?_⟩
    .exact⟨_,wx,⟨#[]⟩,rfl⟩
    .intro N F _
     go_simp
     exact(by first|exact⟨GR.of (Below.refl _ _),⟨_,rfl⟩⟩|exact GR.of (Below.refl _ _))
    rintro Bx ⟨_,s',rfl⟩ w6 Af _;have K:=Af.below;have l:=m.trans (K.mono m.size);clear Af K f0 f1 f2 AG AH;go_wp2;(try rw[ak])
    (try go_wp2)
    go_ret2;exact⟨⟨_,rfl⟩,l⟩
end
section
open Go.RowKit Mem Led
theorem bundle_any(b:Led.Bundle)(kv:Value)(w:World)(C:aV aN 2 w kv b.keys)(hd:b.domain.length<=9223372036854775807)(G:b.keys.length<=1000)(E:∀k∈b.keys,k.kid.length<=1000000/\k.x.length<=1000000)(H:Tab Sha.kkL w) :
  Calls prog 107 #[.agg (ai (b,kv)).toArray] w fun e w'=>e=.returned (.bool (Led.jI b))/\eF w w':=by
 obtain⟨W,D⟩:=eC (w.alloc (.cells (ai (b,kv)).toArray 45))
 have B:Blk W w.heap.size (ai (b,kv)) 45:=by rw[<-D];exact Blk.new _ _ _
 have A:eF w W:=eG D
 have I:=cR B rfl
 have h:=u7 b kv W (C.below A) hd G E (H.below A)
 have J:=eA D
 clear D C B
 cases F:Led.jI b
 all_goals
  rw[F] at h;clear F;generalize (ai (b,kv)).toArray=X at *;go_enter func107,ntmps107
  go_upto_region 1 with fail
  rw[J.out];go_wp2_with fail
  refine h.mono ?_;rintro e L ⟨⟨s,rfl⟩,K⟩;go_wp2;go_ret;exact⟨rfl,A.trans (K.mono A.size)⟩
theorem Led.does_kind{ok A:Bool}{L:Led.Ledger}{o:Led.Op}(h:o.kind=12->ok=A):does ok L o=does A L o:=by
 by_cases B:o.kind=12
 .rw [h B]
 .unfold does
  simp only[B,if_false]
theorem r8(cs:List Value)(L:Led.Ledger)(E:List (Led.Entry × Value))(U:List (Led.Bundle × Value))(o:Led.Op)(sv kv:Value)(w:World)(J:dk w cs L E U)(K:L.Wf)(B:Sized o)(A:o.kind<=100)(C:br w sv o.entry.sels)(D:aV aN 2 w kv o.bundle.keys)
  (F:∀k∈o.bundle.keys,k.kid.length<=1000000/\k.x.length<=1000000) (M:Tab Sha.kkL w) :
  Calls prog 14 #[.agg cs.toArray,.agg (ac o sv kv).toArray] w (mj (fun r=>r=does (Led.jI o.bundle) L o) L w):=by
 refine(apply_any (fun ok=>ok=Led.jI o.bundle) cs L E U o sv kv w J K B A C D (fun N G O H=>?_)).mono ?_
 .exact(bundle_any o.bundle G N H B.ud B.ul F (M.below O)).mono fun e w' ⟨I,h2⟩=>⟨_,rfl,I,h2⟩
 .rintro e w' ⟨r,⟨ok,I,rfl⟩,h2⟩
  exact⟨_,does_kind I,h2⟩
theorem uQ(w:World)(cs:List Value)(h:cs.length=24)(D:∀v∈cs,v.oneCell'=true) :
  ∃A,(uj (.pointer (some ⟨w.heap.size,0,none⟩)) (.agg cs.toArray)).run prog (w.alloc (.cells #[.int .i64 0,.int .i64 0,.string ⟨#[]⟩,.int .i64 0,.string ⟨#[]⟩,.string ⟨#[]⟩,.int .i64 0,.slice none 0 0,.string ⟨#[]⟩,.string ⟨#[]⟩,.int .i64 0,.bool false,.string ⟨#[]⟩,.string ⟨#[]⟩,.int .i64 0,.int .i64 0,.string ⟨#[]⟩,.string ⟨#[]⟩,.string ⟨#[]⟩,.int .i64 0,.int .i64 0,.string ⟨#[]⟩,.int .i64 0,.slice none 0 0] 47))=.ok () A/\Blk A w.heap.size cs 47/\eF w A:=by
 have E:=Blk.new w (ac fe (.slice none 0 0) (.slice none 0 0)) 47
 obtain⟨B,F⟩:=store_op E rfl h D
 have C:Chg [] w ((w.alloc (.cells (ac fe (.slice none 0 0) (.slice none 0 0)).toArray 47)).setCells w.heap.size 0 cs):=((Chg.refl _ _).alloc _).setCells _ (.inr eH)
 exact⟨_,B,F,C.below (fun _ h=>by cases h)⟩
theorem cut_sized{R:Txt->Txt->Prop}{o:Led.Op}{A:List Jwk}(B:∀x r,R x r->r.length<=60)(h:dZ R (o.bundle.keys.take 9) A):Sized (pl o A)/\∀k∈(pl o A).bundle.keys,k.kid.length<=1000000/\k.x.length<=1000000:=by
 have f:∀s:Txt,(few s).length<=9223372036854775807:=fun s=>by have:=pV s;omega
 have C:=h.length
 rw[List.length_take] at C
 refine⟨⟨f _,f _,f _,?_,?_,f _,f _,f _,f _,?_⟩,fun k D=>?_⟩
 .intro x hx
  obtain⟨y,_,rfl⟩:=List.mem_map.1 hx;exact f _
 .show ((o.entry.sels.take 6).map few).length<=1000
  rw[List.length_map,List.length_take];omega
 .show A.length<=1000
  omega
 .have:=h.len B k D
  omega
theorem Wk.chg{base g:Nat}{w w':World}{vE vN vB vJ vK vU:Value}{L:Led.Ledger}{E:List (Led.Entry × Value)}{U:List (Led.Bundle × Value)}(h:Wk base w vE vN vB vJ vK vU L E U)(A:Chg [g] w w')(B:g<base):Wk base w' vE vN vB vJ vK vU L E U :=
 ⟨cW h.oE A B,cW h.oN A B,cW h.oB A B,cW h.oJ A B,cW h.oK A B,cW h.oU A B,h.ents,h.buns,fun p C=>⟨cW (h.sels p C).1 A B,(h.sels p C).2⟩,fun p C=>cW (h.keyss p C) A B⟩
structure da(g:Nat)(w:World)(cs:List Value)(L:Led.Ledger)(E:List (Led.Entry × Value))(U:List (Led.Bundle × Value)):Prop where
 blk:Blk w g cs 30
 len:cs.length=6
 at_:dk w cs L E U
theorem da.below{g:Nat}{w w':World}{cs:List Value}{L:Led.Ledger}{E:List (Led.Entry × Value)}{U:List (Led.Bundle × Value)}(h:da g w cs L E U)(A:eF w w'):da g w' cs L E U :=
 ⟨h.blk.below A,h.len,h.at_.below A⟩
theorem da.load{g:Nat}{w:World}{cs:List Value}{L:Led.Ledger}{E:List (Led.Entry × Value)}{U:List (Led.Bundle × Value)}(h:da g w cs L E U):(gH (.pointer (some ⟨g,0,none⟩))).run prog w=.ok (.agg cs.toArray) w:=cY h.blk h.len
theorem da.new(w:World):da w.heap.size (w.alloc (.cells (aB (.slice none 0 0)).toArray 30)) (aB (.slice none 0 0)) none' [] []:=by
 have e:∀{α:Type} (enc:α->List Value) (k:Nat) (W:World),aV enc k W (.slice none 0 0) []:=fun enc k W=>⟨none,0,0,rfl,⟨by omega,by omega,fun _=>rfl⟩,Es.empty _ _⟩
 exact⟨Blk.new _ _ _,rfl,⟨⟨_,_,_,_,_,_,rfl,e _ _ _,e _ _ _,⟨none,0,0,rfl,⟨by omega,by omega,fun _=>rfl⟩,Ts.empty _ _⟩,e _ _ _,e _ _ _,e _ _ _⟩,rfl,rfl,fun p A=>(by cases A),fun p A=>(by cases A)⟩⟩
theorem se{ok:Bool}{L:Led.Ledger}{o:Led.Op}:After L (does ok L o)=(does ok L o).1:=by
 unfold After
 split
 .rfl
 .rcases does_or ok L o with h|h
  .exact h.symm
  .contradiction
end
section
open Go.RowKit Mem Led
def Nop(w:World)(v:Value):Prop:=∀a n c,v=.slice (some a) n c->0<n->∃M e,Blk w a.block M e/\e≠47
theorem Nop.below{w w':World}{v:Value}(h:Nop w v)(A:eF w w'):Nop w' v:=fun a n c e B=>by
 obtain⟨M,t,C,D⟩:=h a n c e B
 exact⟨M,t,C.below A,D⟩
theorem Nop.turn{w w':World}{v:Value}{g:Nat}{M:List Value}{t:TypeId}(h:Nop w v)(B:Chg [g] w w')(C:Blk w' g M t)(ht:t≠47):Nop w' v:=fun a n c e D=>by
 obtain⟨E,F,G,H⟩:=h a n c e D
 by_cases A:a.block=g
 .exact⟨M,t,by rw[A];exact C,ht⟩
 .exact⟨E,F,G.chg B (by simpa using A),H⟩
theorem Nop.own{w:World}{b k n:Nat}{e:TypeId}{v:Value}{xs:List Value}(h:w.ownsRow b e k v n xs)(A:e≠47):Nop w v:=fun a m c e' _=>by
 rcases aS h with⟨rfl,_⟩|⟨g,C,M,rfl,_,_,B,_⟩
 .cases e'
 .injection e' with e' _ _
  injection e' with e'
  subst e';exact⟨M,e,B,A⟩
def NT(base:Nat)(w:World)(v:Value)(L:List Txt):Prop:=(∃A n c,v=.slice A n c/\Fit n c A/\Vs w base 1 A n (tv L)/\Nop w v)\/w.ownsRow base 9 1 v L.length (ah al L)
def NK(base:Nat)(w:World)(v:Value)(L:List Led.Jwk):Prop:=∃A n c,v=.slice A n c/\Fit n c A/\Vs w base 2 A n (ah aN L)/\Nop w v
def Far(base:Nat)(S:List Nat)(w:World):Prop:=∀s∈S,base<=s/\∀M,¬Blk w s M 9
section
variable {base:Nat}{S:List Nat}{w w':World}{v:Value}{L:List Txt}{K:List Led.Jwk}
theorem Far.none:Far base [] w:=fun s A=>by cases A
theorem Far.one{g:Nat}{M:List Value}{e:TypeId}(B:base<=g)(h:Blk w g M e)(C:e≠9):Far base [g] w:=fun s A=>by
 rw[List.mem_singleton] at A
 subst A
 refine⟨B,fun M' D=>C ?_⟩
 have:=h.symm.trans D
 injection this with this
 injection this
theorem Vs.chg_below{size n:Nat}{A:Option Addr}{xs:List Value}(h:Vs w base size A n xs)(B:Chg S w w')(C:∀s∈S,base<=s)(E:base<=w.heap.size):Vs w' base size A n xs :=
 h.keep fun p F=>World.cell?_of_block (B.block p.block (by omega) (fun D=>by have:=C _ D;omega))
theorem jl{b k n:Nat}{e:TypeId}{xs:List Value}(h:w.ownsRow b e k v n xs)(D:Chg S w w')(E:∀g,v.ownBlock=some g->g∉S):w'.ownsRow b e k v n xs:=by
 refine⟨h.1,?_⟩
 rcases h.2 with F|⟨g,cap,A,B,G,C,r⟩
 .exact .inl F
 .refine .inr ⟨g,cap,A,B,G,?_,r⟩
  rw[D.block g (Array.getElem?_eq_some_iff.1 C).1 (E g (by rw[B];rfl))]
  exact C
theorem own_far{n:Nat}{xs:List Value}{b:Nat}(h:w.ownsRow b 9 1 v n xs)(B:Far base S w)(g:Nat)(A:v.ownBlock=some g):g∉S:=fun C=>by
 rcases aS h with⟨rfl,_⟩|⟨E,c,M,rfl,_,_,D,_⟩
 .simp [Value.ownBlock] at A
 .simp only [Value.ownBlock,Option.some.injEq] at A
  subst A;exact(B _ C).2 _ D
theorem Nop.chg_below{size n c:Nat}{A:Option Addr}{xs:List Value}(h0:Nop w (.slice A n c))(h:Vs w base size A n xs)(C:0<size)(D:Chg S w w')(E:∀s∈S,base<=s):Nop w' (.slice A n c):=fun a m F e B=>by
 obtain⟨M,t,G,H⟩:=h0 a m F e B
 injection e with e1 e2 e3
 subst e1 e2
 obtain⟨g,I,e4,J,_⟩:=Vs.lit h (by rw[h.len];exact Nat.mul_pos B C)
 injection e4 with e4
 subst e4
 exact⟨M,t,G.chg D (fun K=>by have:=E _ K;simp only at this;omega),H⟩
theorem NT.chg(h:NT base w v L)(B:Chg S w w')(C:Far base S w)(F:base<=w.heap.size):NT base w' v L:=by
 rcases h with⟨A,n,c,rfl,G,E,H⟩|h
 .exact .inl ⟨A,n,c,rfl,G,Vs.chg_below E B (fun s D=>(C s D).1) F,H.chg_below E (by omega) B (fun s D=>(C s D).1)⟩
 .exact .inr (jl h B (own_far h C))
theorem NK.chg(h:NK base w v K)(B:Chg S w w')(C:∀s∈S,base<=s)(E:base<=w.heap.size):NK base w' v K:=by
 obtain⟨A,n,c,rfl,F,D,G⟩:=h
 exact⟨A,n,c,rfl,F,Vs.chg_below D B C E,G.chg_below D (by omega) B C⟩
theorem NT.at(h:NT base w v L)(B:base<=w.heap.size):br w v L:=by
 rcases h with⟨A,n,c,rfl,C,D,_⟩|h
 .exact⟨A,n,c,rfl,C,D.mono B⟩
 .exact dR h
theorem NK.at(h:NK base w v K)(B:base<=w.heap.size):aV aN 2 w v K:=by
 obtain⟨A,n,c,rfl,C,D,_⟩:=h
 exact⟨A,n,c,rfl,C,D.mono B⟩
theorem NT.old(h:br w v L)(B:Nop w v):NT w.heap.size w v L:=by
 obtain⟨A,n,c,rfl,C,D⟩:=h
 exact .inl ⟨A,n,c,rfl,C,D,B⟩
theorem NK.old(h:aV aN 2 w v K)(B:Nop w v):NK w.heap.size w v K:=by
 obtain⟨A,n,c,rfl,C,D⟩:=h
 exact⟨A,n,c,rfl,C,D,B⟩
theorem NT.nop(h:NT base w v L):Nop w v:=by
 rcases h with⟨_,_,_,_,_,_,h⟩|h
 .exact h
 .exact Nop.own h (by decide)
theorem NK.nop(h:NK base w v K):Nop w v:=by
 obtain⟨_,_,_,_,_,_,h⟩:=h
 exact h
theorem NT.one(h:NT base w v L):v.oneCell'=true:=by
 rcases h with⟨A,n,c,rfl,_⟩|h
 .rfl
 .obtain⟨A,c,rfl,_⟩:=cl h
  rfl
theorem NK.one(h:NK base w v K):v.oneCell'=true:=by
 obtain⟨A,n,c,rfl,_⟩:=h
 rfl
end
def gN(w:World)(cs:List Value)(E:List (Led.Entry × Value))(U:List (Led.Bundle × Value)):Prop:=(∀v∈cs,Nop w v)/\(∀p∈E,Nop w p.2)/\∀p∈U,Nop w p.2
theorem gN.below{w w':World}{cs:List Value}{E:List (Led.Entry × Value)}{U:List (Led.Bundle × Value)}(h:gN w cs E U)(A:eF w w'):gN w' cs E U :=
 ⟨fun v C=>(h.1 v C).below A,fun p B=>(h.2.1 p B).below A,fun p B=>(h.2.2 p B).below A⟩
theorem gN.turn{w w':World}{cs:List Value}{E:List (Led.Entry × Value)}{U:List (Led.Bundle × Value)}{g:Nat}{M:List Value}{t:TypeId}(h:gN w cs E U)(A:Chg [g] w w')(B:Blk w' g M t)(ht:t≠47):gN w' cs E U :=
 ⟨fun v D=>(h.1 v D).turn A B ht,fun p C=>(h.2.1 p C).turn A B ht,fun p C=>(h.2.2 p C).turn A B ht⟩
theorem iD{w w':World}{r:Option Nat}(h:w.grownBy w' r):Chg (r.toList) w w' :=
 ⟨h.os,h.tape,h.output,h.size,fun k A B=>h.block k A (fun e=>B (by rw[<-e];simp))⟩
structure Rk(base:Nat)(w:World)(vE vN vB vJ vK vU:Value)(L:Led.Ledger)(E:List (Led.Entry × Value))(U:List (Led.Bundle × Value)):Prop where
 oE:w.ownsRow base 36 5 vE E.length (ah ag E)
 oN:w.ownsRow base 40 5 vN L.nodes.length (ah ae L.nodes)
 oB:w.ownsRow base 9 1 vB L.bans.length (ah al L.bans)
 oJ:w.ownsRow base 38 4 vJ L.joins.length (ah vq L.joins)
 oK:w.ownsRow base 42 4 vK L.keys.length (ah ar L.keys)
 oU:w.ownsRow base 45 3 vU U.length (ah ai U)
 ents:E.map Prod.fst=L.entries
 buns:U.map Prod.fst=L.bundles
 sels:∀p∈E,NT base w p.2 p.1.sels
 keyss:∀p∈U,NK base w p.2 p.1.keys
section
variable {base:Nat}{w w':World}{vE vN vB vJ vK vU:Value}{L:Led.Ledger}{E:List (Led.Entry × Value)}{U:List (Led.Bundle × Value)}
theorem Rk.at(h:Rk base w vE vN vB vJ vK vU L E U)(B:base<=w.heap.size):dk w [vE,vN,vB,vJ,vK,vU] L E U :=
 ⟨⟨vE,vN,vB,vJ,vK,vU,rfl,bc h.oE,bc h.oN,dR h.oB,bc h.oJ,bc h.oK,bc h.oU⟩,h.ents,h.buns,fun p A=>(h.sels p A).at B,fun p A=>(h.keyss p A).at B⟩
theorem Rk.ones(h:Rk base w vE vN vB vJ vK vU L E U):∀v∈[vE,vN,vB,vJ,vK,vU],v.oneCell'=true:=by
 have key:∀{e:TypeId} {k n:Nat} {v:Value} {xs:List Value},w.ownsRow base e k v n xs->v.oneCell'=true:=fun B=>by
  obtain⟨A,c,rfl,_⟩:=aj B;rfl
 intro v B
 simp only[List.mem_cons,List.not_mem_nil,or_false] at B
 rcases B with rfl|rfl|rfl|rfl|rfl|rfl
 .exact key h.oE
 .exact key h.oN
 .exact key h.oB
 .exact key h.oJ
 .exact key h.oK
 .exact key h.oU
theorem Rk.nops(h:Rk base w vE vN vB vJ vK vU L E U):gN w [vE,vN,vB,vJ,vK,vU] E U:=by
 refine⟨fun v B=>?_,fun p A=>(h.sels p A).nop,fun p A=>(h.keyss p A).nop⟩
 simp only[List.mem_cons,List.not_mem_nil,or_false] at B
 rcases B with rfl|rfl|rfl|rfl|rfl|rfl
 .exact Nop.own h.oE (by decide)
 .exact Nop.own h.oN (by decide)
 .exact Nop.own h.oB (by decide)
 .exact Nop.own h.oJ (by decide)
 .exact Nop.own h.oK (by decide)
 .exact Nop.own h.oU (by decide)
theorem Wk.nops(h:Wk base w vE vN vB vJ vK vU L E U):gN w [vE,vN,vB,vJ,vK,vU] E U:=by
 refine⟨fun v B=>?_,fun p A=>Nop.own (h.sels p A).1 (by decide),fun p A=>Nop.own (h.keyss p A) (by decide)⟩
 simp only[List.mem_cons,List.not_mem_nil,or_false] at B
 rcases B with rfl|rfl|rfl|rfl|rfl|rfl
 .exact Nop.own h.oE (by decide)
 .exact Nop.own h.oN (by decide)
 .exact Nop.own h.oB (by decide)
 .exact Nop.own h.oJ (by decide)
 .exact Nop.own h.oK (by decide)
 .exact Nop.own h.oU (by decide)
theorem Rk.chg{S:List Nat}(h:Rk base w vE vN vB vJ vK vU L E U)(A:Chg S w w')(C:Far base S w)(F:base<=w.heap.size)(B:∀v∈[vE,vN,vJ,vK,vU],∀g,v.ownBlock=some g->g∉S):Rk base w' vE vN vB vJ vK vU L E U :=
 ⟨jl h.oE A (B vE (by simp)),jl h.oN A (B vN (by simp)),jl h.oB A (own_far h.oB C),jl h.oJ A (B vJ (by simp)),jl h.oK A (B vK (by simp)),jl h.oU A (B vU (by simp)),h.ents,h.buns,
  fun p D=>(h.sels p D).chg A C F,fun p D=>(h.keyss p D).chg A (fun s G=>(C s G).1) F⟩
theorem Rk.below(h:Rk base w vE vN vB vJ vK vU L E U)(B:eF w w')(A:base<=w.heap.size):Rk base w' vE vN vB vJ vK vU L E U :=
 h.chg (S:=[]) (Chg.of_below B) Far.none A (fun _ _ _ _=>by simp)
end
theorem n9{w:World}{g:Nat}{cs vs:List Value}{t:TypeId}(h:Blk w g cs t)(A:cs.length=5)(B:vs.length=5)(D:∀v∈vs,v.oneCell'=true) :
  (stEnt (.pointer (some ⟨g,0,none⟩)) (.agg vs.toArray)).run prog w=.ok () (w.setCells g 0 vs)/\Blk (w.setCells g 0 vs) g vs t:=by
 have E:=bu (P:=prog) w 36 g 0 5 lT vs.toArray ⟨by simpa using B,by simpa using D⟩ (eX h A) (fun j _=>h.froz _)
 have C:=jk vs w g 0 cs t h (by omega)
 simp[B,<-A] at C
 exact⟨E,C⟩
end
end Go.Proofs.YtmbpnkacggngkaaGreatDoor
