/- PshRow, PshMix, PshSum, PshName, StrMap, JwkMay (put together by bundle.py: only what is needed). -/
import Derived.Test.YtmbpnkacggngkaaGreatDoorLX11
set_option maxRecDepth 100000
set_option maxHeartbeats 16000000
namespace Go.Proofs.YtmbpnkacggngkaaGreatDoor
open Batch
open Tryz
section
open Go.RowKit Mem
namespace Sha
def sch (b:List UInt8) (t:Nat):List Nat:=if t<=16 then fR b t else bY b (t - 16)
theorem sch_len(b:List UInt8) (t:Nat):(sch b t).length=t:=by
 unfold sch
 split
 .exact lF b t
 .rw [ig]; omega
theorem sch_lo(b:List UInt8) {t:Nat} (h:t<16):sch b (t+1)=sch b t++[bG b t 4]:=by
 unfold sch
 rw [if_pos (by omega),if_pos (by omega)]
 rfl
theorem sch_hi(b:List UInt8) (u:Nat):sch b (u+16+1)=sch b (u+16)++[next (sch b (u+16)) u]:=by
 have e:sch b (u+16)=bY b u:=by
  unfold sch; split
  .obtain rfl:u=0:=by omega
   rfl
  .rfl
 rw [e]
 unfold sch
 rw [if_neg (by omega)]
 rfl
theorem sch_32(b:List UInt8) (t:Nat):ee (sch b t):=by
 unfold sch
 split
 .exact mZ b t
 .exact ja b _
theorem sch_end(b:List UInt8):sch b 64=bY b 48:=rfl
end Sha
def uv (l:List Nat):List Value:=l.map fun x:Nat=>Value.int .u32 (x:Int)
theorem dJ(l:List Nat):(uv l).length=l.length:=by simp [uv]
theorem nM(l:List Nat) {k:Nat} (h:k<l.length):(uv l)[k]?=some (.int .u32 ((l.getD k 0:Nat):Int)):=by simp [uv,h]
theorem sJ(l:List Nat) (k:Nat) (x:Nat):(uv l).set k (.int .u32 (x:Int))=uv (l.set k x):=by simp [uv,List.map_set]
theorem sL(l:List Nat):∀ u∈uv l,u.oneCell'=true:=by
 intro u A
 simp only [uv,List.mem_map] at A
 obtain⟨b,_,rfl⟩:=A
 rfl
theorem infoU:(prog.info? 228).map (fun i=>(i.zero,i.size,i.bytes))=some (some (.int .u32 0),1,4):=by kernel_rfl
theorem makeU(w:World) (n:Nat) (h:n<=100000):(Instr.makeSlice 290 (.int .i64 (n:Int)) (.int .i64 (n:Int))).run prog w=.ok (.slice (some ⟨w.heap.size,0,none⟩) n n) (w.alloc (.cells (uv (List.replicate n 0)).toArray 228)):=by
 obtain⟨E,hi,A,B,C⟩:=al infoU
 have D:=run_make (P:=prog) w 290 228 E _ underlying290 hi A .i64 .i64 (n:Int) (n:Int) (by omega) (by omega) (by rw [C]; omega) (by omega)
 rw [B] at D
 rw [show (uv (List.replicate n 0)).toArray=madeCells (.int .u32 0:Value).cells (n * 1) by rw [pR _ rfl]; simp [uv]]
 exact D
def cG (A:List Nat) (n:Nat):List Nat:=A++List.replicate (n - A.length) 0
theorem nv(A:List Nat) {n:Nat} (h:A.length<=n):(cG A n).length=n:=by unfold cG; simp; omega
theorem nu(A:List Nat) {n:Nat} (h:A.length<n) (x:Nat):(cG A n).set A.length x=cG (A++[x]) n:=by
 unfold cG
 rw [List.set_append_right _ _ eG,Nat.sub_self,List.length_append]
 obtain⟨d,hd⟩:∃ d,n - A.length=d+1:=⟨n - A.length - 1,by omega⟩
 rw [hd,List.replicate_succ,show n - (A.length+[x].length)=d by simp; omega]
 simp
theorem fillM_get(A:List Nat) {n k:Nat} (h:k<A.length):(cG A n).getD k 0=A.getD k 0:=by
 unfold cG
 rw [List.getD_eq_getElem?_getD,List.getD_eq_getElem?_getD,List.getElem?_append_left h]
theorem fillM_zero(A:List Nat) {n:Nat} (h:A.length<n):(cG A n).getD A.length 0=0:=by
 unfold cG
 rw [List.getD_eq_getElem?_getD,List.getElem?_append_right eG,Nat.sub_self]
 obtain⟨d,hd⟩:∃ d,n - A.length=d+1:=⟨n - A.length - 1,by omega⟩
 rw [hd]
 rfl
theorem size_A3:(prog.info? 265).map (·.size)=some 3:=by kernel_rfl
def nl (x:Value):Sem Value:=Instr.loadAt 265 x
theorem rh(x:Value):Instr.loadAt 265 x=nl x:=rfl
attribute [go_sem ↓] rh
theorem oO{w:World} {g o:Nat} {a b c:Nat} {cs:List Value} {t:TypeId} (h:Blk w g cs t) (h0:cs[o]?=some (.int .i64 (a:Int))) (B:cs[o+1]?=some (.int .i64 (b:Int))) (C:cs[o+2]?=some (.int .i64 (c:Int))) :
  (nl (.pointer (some ⟨g,o,none⟩))).run prog w=.ok (.agg #[.int .i64 (a:Int),.int .i64 (b:Int),.int .i64 (c:Int)]) w:=by
 exact cl (P:=prog) (T:=265) (k:=3) underlying265 rfl size_A3 (cs:=[.int .i64 (a:Int),.int .i64 (b:Int),.int .i64 (c:Int)]) rfl fun j u A=>by
  rw [h.cell]; match j,A with
  | 0,A=>rw [<-A]; exact h0
  | 1,A=>rw [<-A]; exact B
  | 2,A=>rw [<-A]; exact C
  | j+3,A=>simp at A
theorem form32:F32 qq:=⟨rfl,rfl,rfl,fun v A=>by
 simp only [qq,List.mem_cons,List.not_mem_nil,or_false] at A
 rcases A with rfl|rfl|rfl|rfl|rfl|rfl|rfl|rfl|rfl|rfl|rfl|rfl|rfl|rfl <;> rfl⟩
theorem word_step(b:List UInt8) (t k:Nat) (A:k<4):bits .or .u32 ((Sha.bG b t k:Int) * 256 % 4294967296) (((b.getD (4 * t+k) 0).toNat:Nat):Int)=((Sha.bG b t (k+1):Nat):Int):=by
 have B:=Sha.iX b t k
 have C:=(b.getD (4 * t+k) 0).toNat_lt
 have D:(256:Nat) ^ k<=256 ^ 3:=Nat.pow_le_pow_right (by omega) (by omega)
 have e:(Sha.bG b t k:Int) * 256 % 4294967296=((2 ^ 8 * Sha.bG b t k:Nat):Int):=by
  rw [Int.natCast_mul]; have:((2 ^ 8:Nat):Int)=256:=rfl; rw [this]; omega
 rw [e,u32_or_nat _ _ (by omega) (by omega),<-Nat.two_pow_add_eq_or_of_lt (by omega)]
 show _=((Sha.bG b t k * 256+(b.getD (4 * t+k) 0).toNat:Nat):Int)
 omega
theorem prow_any(J:List Value) (hF:J=qq) (A:Option Addr) (c:Nat) (b:List UInt8) (w:World) (hb:Bs w w.heap.size A 64 b) (Ap:64<=c) :
  Calls prog 276 #[.agg J.toArray,.slice A 64 c] w fun e w'=>∃ g,e=.returned (.slice (some ⟨g,0,none⟩) 64 64)/\w.heap.size<=g/\Blk w' g (uv (Sha.bY b 48)) 228/\eD w w':=by
 have Y:F32 J:=by rw [hF]; exact form32
 have V:=hO hF
 clear hF
 have Au:=hb.len
 obtain⟨Z,L,rfl,d,hx⟩:=dO hb (by omega)
 obtain⟨W,f⟩:=eA (w.alloc (.cells J.toArray 269))
 have B:Blk W w.heap.size J 269:=by rw [<-f]; exact Blk.new _ _ _
 have j:eD w W:=eF f
 have hz:W.heap.size=w.heap.size+1:=by rw [<-f]; simp
 have C:=Y.bits
 have S:=Y.many
 have l:(Instr.makeSlice 290 (.int .i64 64) (.int .i64 64)).run prog W=_:=makeU W 64 (by omega)
 have BG:=Blk.new W (uv (List.replicate 64 0)) 228
 have m:eD w (W.alloc (.cells (uv (List.replicate 64 0)).toArray 228)):=j.alloc j.size _
 have B0:=B.alloc (.cells (uv (List.replicate 64 0)).toArray 228)
 rw [hz] at l BG
 have i0:W.cell? ⟨w.heap.size,0,none⟩=some (.int .i64 32):=(B.cell 0).trans C
 have i1:W.cell? ⟨w.heap.size,1,none⟩=some (.int .i64 64):=(B.cell 1).trans S
 have i2:(W.alloc (.cells (uv (List.replicate 64 0)).toArray 228)).cell? ⟨w.heap.size,0,none⟩=some (.int .i64 32):=(B0.cell 0).trans C
 have HW:=hO f
 obtain⟨W1,o⟩:=eA (W.alloc (.cells (uv (List.replicate 64 0)).toArray 228))
 rw [o] at l BG m B0 i2
 clear f o
 go_enter func276,ntmps276
 go_upto_region 1 with fail
 rw [HW.out]
 clear HW
 go_wp2_with fail
 go_loopw [7,9,10,11,20] (fun _ _ _ _ i wr=>∃ t:Nat,t<=64/\i=.int .i64 (t:Int)/\eD w wr/\Blk wr w.heap.size J 269/\Blk wr (w.heap.size+1) (uv (cG (Sha.sch b t) 64)) 228) (fun _ _ _ _ i _=>64 - (intOf i).toNat)
 case atStart=>exact⟨0,by omega,rfl,m,B0,BG⟩
 case round =>
  obtain⟨t,ht,rfl,M,X,K⟩:=hrel; obtain⟨wy,Ah⟩:∃ wy,wy=wr:=⟨_,rfl⟩; subst Ah; by_cases Ai:t<64
  .by_cases Aj:t<16
   .have z0:wy.cell? ⟨w.heap.size,0,none⟩=some (.int .i64 32):=(X.cell 0).trans C
    have E:=Sha.sch_len b t; have T:(cG (Sha.sch b t) 64).length=64:=nv _ (by omega); have Ak:(cG (Sha.sch b t) 64).set t (Sha.bG b t 0)=cG (Sha.sch b t) 64:=by
     have:=fillM_zero (Sha.sch b t) (n:=64) (by omega); rw [E] at this; apply List.ext_getElem?
     intro i; rw [List.getElem?_set]; split
     .rename_i hi
      subst hi; rw [if_pos (by omega)]; rw [List.getD_eq_getElem?_getD,List.getElem?_eq_getElem (by omega)] at this; rw [List.getElem?_eq_getElem (by omega)]; simp only [Option.getD_some] at this; rw [this]; rfl
     .rfl
    have HS:=hO (show cG (Sha.sch b (t+1)) 64=(cG (Sha.sch b t) 64).set t (Sha.bG b t 4) by
     rw [Sha.sch_lo b Aj,<-nu _ (by omega),E])
    go_wp2_with fail
    go_loopw [9,35] (fun _ i wx=>∃ k:Nat,k<=4/\i=.int .i64 (k:Int)/\eD w wx/\Blk wx w.heap.size J 269/\Blk wx (w.heap.size+1) (uv ((cG (Sha.sch b t) 64).set t (Sha.bG b t k))) 228) (fun _ i _=>4 - (intOf i).toNat)
    case atStart=>exact⟨0,by omega,rfl,M,X,by rw [Ak]; exact K⟩
    case round =>
     obtain⟨k,hk,rfl,F,C1,C2⟩:=hrel; by_cases Al:k<4
     .have Av:wr.cell? ⟨Z,L+t * 4+k,none⟩=some (.int .u8 (((b.getD (4 * t+k) 0).toNat:Nat):Int)):=by
       rw [show L+t * 4+k=L+(4 * t+k) by omega]; exact(F.cell (p:=⟨Z,L+(4 * t+k),none⟩) d).trans (hx (4 * t+k) _ (by rw [ol,List.getElem?_eq_getElem (by omega)]; simp [List.getD_eq_getElem?_getD,List.getElem?_eq_getElem (show 4 * t+k<b.length by omega)]))
      have Aw:wr.cell? ⟨w.heap.size+1,t,none⟩=some (.int .u32 ((Sha.bG b t k:Nat):Int)):=(C2.cell t).trans (by rw [nM _ (by rw [List.length_set]; omega)]; simp [List.getD_eq_getElem?_getD,T,Ai])
      have Ax:wr.frozen? ⟨w.heap.size+1,t,none⟩=false:=C2.froz _; have q:=word_step b t k Al; have Am:=(b.getD (4 * t+k) 0).toNat_lt; have Aq:Sha.bG b t k<16777216:=by
       have h1:=Sha.iX b t k; have h3:(256:Nat) ^ k<=256 ^ 3:=Nat.pow_le_pow_right (by omega) (by omega); omega
      have E2:=(C2.set t (.int .u32 ((Sha.bG b t (k+1):Nat):Int))); rw [sJ,List.set_set] at E2; generalize (b.getD (4 * t+k) 0).toNat=z at *; generalize Sha.bG b t k=x at *; have Q:(x:Int) * 256 % 4294967296=(x:Int) * 256:=by omega
      rw [Q] at q; clear Q; obtain⟨y,hy⟩:=eC (Sha.bG b t (k+1)); rw [hy.out] at q E2; go_wp2_with fail
      go_roundw
      case rel=>exact⟨k+1,by omega,by go_num,F.setCell (by simp) _,C1.set_ne (by simp) _,by rw [hy.out]; exact E2⟩
      case measure=>simp [intOf]; omega
     .obtain rfl:k=4:=by omega
      go_wp2_with fail
      go_roundw
      case rel=>exact⟨t+1,by omega,by go_num,F,C1,by rw [HS.out]; exact C2⟩
      case measure=>simp [intOf]; omega
   .have Ar:16<=t:=by omega
    have E:=Sha.sch_len b t; have G:=Sha.sch_32 b t; have T:(cG (Sha.sch b t) 64).length=64:=nv _ (by omega); have H:∀ k,k<t->wy.cell? ⟨w.heap.size+1,k,none⟩=some (.int .u32 (((Sha.sch b t).getD k 0:Nat):Int)):=fun k hk=>(K.cell k).trans (by rw [nM _ (by omega),fillM_get _ (by omega)]); have r:Sha.sch b (t+1)=Sha.sch b t++[Sha.next (Sha.sch b t) (t - 16)]:=by
     have:=Sha.sch_hi b (t - 16); rw [show t - 16+16=t by omega] at this; exact this
    have hE:=nu (Sha.sch b t) (n:=64) (by omega) (Sha.next (Sha.sch b t) (t - 16)); rw [E,<-r] at hE; have I:Sha.next (Sha.sch b t) (t - 16)=((Sha.sch b t).getD (t - 16) 0+Sha.sig0 ((Sha.sch b t).getD (t - 15) 0)+(Sha.sch b t).getD (t - 7) 0+Sha.sig1 ((Sha.sch b t).getD (t - 2) 0)) % 4294967296:=by
     unfold Sha.next; rw [show t - 16+1=t - 15 by omega,show t - 16+9=t - 7 by omega,show t - 16+14=t - 2 by omega]
    have E2:∀ w',Blk w' (w.heap.size+1) (uv (cG (Sha.sch b t) 64)) 228->Blk (w'.setCell ⟨w.heap.size+1,t,none⟩ (.int .u32 ((Sha.next (Sha.sch b t) (t - 16):Nat):Int))) (w.heap.size+1) (uv (cG (Sha.sch b (t+1)) 64)) 228:=fun w' h=>by
     have:=h.set t (.int .u32 ((Sha.next (Sha.sch b t) (t - 16):Nat):Int)); rw [sJ,hE] at this; exact this
    rw [I] at E2; have s:=G.at_ (t - 15); have m2:=G.at_ (t - 2); have Ay:=G.at_ (t - 16); have m7:=G.at_ (t - 7); have u:=H (t - 15) (by omega); have k2:=H (t - 2) (by omega); have An:=H (t - 16) (by omega); have k7:=H (t - 7) (by omega); have HE:=hO E2; have cf:wy.frozen? ⟨w.heap.size+1,t,none⟩=false:=K.froz _; have Aa:∃ v,(uv (cG (Sha.sch b t) 64))[t]?=some v:=⟨_,nM _ (by omega)⟩; clear H r hE I E2 T E G; generalize (Sha.sch b t).getD (t - 15) 0=N at *; generalize (Sha.sch b t).getD (t - 2) 0=x2 at *; generalize (Sha.sch b t).getD (t - 16) 0=O at *; generalize (Sha.sch b t).getD (t - 7) 0=x7 at *; have f0:∀ p,(pX (.pointer (some ⟨w.heap.size,0,none⟩))).run prog (ab wy p)=.ok (.agg J.toArray) (ab wy p):=fun p=>lM (X.below (aa wy p)) Y.len; have f1:∀ p,(nl (.pointer (some ⟨w.heap.size,8,none⟩))).run prog (ab wy p)=.ok (.agg #[.int .i64 ((7:Nat):Int),.int .i64 ((18:Nat):Int),.int .i64 ((3:Nat):Int)]) (ab wy p):=fun p=>oO (X.below (aa wy p)) (by rw [V.out]; rfl) (by rw [V.out]; rfl) (by rw [V.out]; rfl)
    have f2:∀ p,(nl (.pointer (some ⟨w.heap.size,11,none⟩))).run prog (ab wy p)=.ok (.agg #[.int .i64 ((17:Nat):Int),.int .i64 ((19:Nat):Int),.int .i64 ((10:Nat):Int)]) (ab wy p):=fun p=>oO (X.below (aa wy p)) (by rw [V.out]; rfl) (by rw [V.out]; rfl) (by rw [V.out]; rfl)
    have f3:∀ p,(ab wy p).cell? ⟨w.heap.size+1,t - 15,none⟩=some (.int .u32 (N:Int)):=fun p=>(ap (a:=⟨w.heap.size+1,t - 15,none⟩) K.lt p).trans u; have f4:∀ p,(ab wy p).cell? ⟨w.heap.size+1,t - 2,none⟩=some (.int .u32 (x2:Int)):=fun p=>(ap (a:=⟨w.heap.size+1,t - 2,none⟩) K.lt p).trans k2; have Ab:=fun p=>mn J Y 7 18 3 N s (by omega) (by omega) (by omega) true (ab wy p); have Ac:=fun p=>mn J Y 17 19 10 x2 m2 (by omega) (by omega) (by omega) true (ab wy p); have Az:=Sha.gz s 7 18 3 true; have A0:=Sha.gz m2 17 19 10 true; have HE:Hid (∀ w',Blk w' (w.heap.size+1) (uv (cG (Sha.sch b t) 64)) 228->Blk (w'.setCell ⟨w.heap.size+1,t,none⟩ (.int .u32 (((O+Sha.mixed 7 18 3 true N+x7+Sha.mixed 17 19 10 true x2) % 4294967296:Nat):Int))) (w.heap.size+1) (uv (cG (Sha.sch b (t+1)) 64)) 228):=HE; generalize Sha.mixed 7 18 3 true N=y0 at *; generalize Sha.mixed 17 19 10 true x2=y1 at *; have Ad:=hO Ab; have Ae:=hO Ac; clear Ab Ac; go_upto_region 12 with fail
    refine az ?_; repeat (go_big_quiet_step (fail))
    go_big_quiet_step ((go_at_call 277; exact aw (Ad.out _)))
    repeat (go_big_quiet_step (fail))
    go_big_quiet_step ((go_at_call 277; exact aw (Ae.out _)))
    repeat (go_big_quiet_step (fail))
    refine wpQuiet_nil ?_; rintro _ ⟨p,rfl⟩; have hp:=aa wy p; clear f0 f1 f2 f3 f4 Ad Ae u k2; have D1:=X.below hp; have D2:=K.below hp; have Af:eD w (ab wy p):=M.trans (hp.mono M.size); have Ao:∀ D,(ab (ab wy p) D).cell? ⟨w.heap.size+1,t - 16,none⟩=some (.int .u32 (O:Int)):=fun D=>(ap (a:=⟨w.heap.size+1,t - 16,none⟩) D2.lt D).trans ((ap (a:=⟨w.heap.size+1,t - 16,none⟩) K.lt p).trans An); have q7:∀ D,(ab (ab wy p) D).cell? ⟨w.heap.size+1,t - 7,none⟩=some (.int .u32 (x7:Int)):=fun D=>(ap (a:=⟨w.heap.size+1,t - 7,none⟩) D2.lt D).trans ((ap (a:=⟨w.heap.size+1,t - 7,none⟩) K.lt p).trans k7); generalize ab wy p=R at *; obtain⟨z,hz⟩:∃ z:Nat,(y0+y1) % 4294967296=z:=⟨_,rfl⟩; have As:z<4294967296:=by omega
    have HC:Hid (∀ D,Calls prog 269 #[.int .u64 ((y0:Int)+(y1:Int))] (ab R D) fun e w'=>e=.returned (.int .u32 (z:Int))/\Below (ab R D).heap.size (ab R D) w'):=hO fun D=>(ks _ _).mono fun e w' ⟨he,hb⟩=>⟨by rw [he,<-hz,IntKind.wrap_u32,Int.natCast_emod,Int.natCast_add]; rfl,hb⟩
    have HV:Hid (((((O:Int)+(x7:Int))+(z:Int)) % 4294967296:Int)=(((O+y0+x7+y1) % 4294967296:Nat):Int)):=hO (by omega); clear hz; go_upto_region 13 with fail
    refine bp 18 ?_; simp only [List.take_succ_cons,List.take_zero,List.drop_succ_cons,List.drop_zero]; repeat (go_big_quiet_step (fail))
    go_big_quiet_step ((go_at_call 269; exact aw (HC.out _)))
    repeat (go_big_quiet_step (fail))
    refine wpQuiet_nil ?_; rintro _ ⟨px,rfl⟩; have U:=aa R px; have F1:=D1.below U; have F2:=D2.below U; have cf:(ab R px).frozen? ⟨w.heap.size+1,t,none⟩=false:=F2.froz _; have F:eD w (ab R px):=Af.trans (U.mono Af.size); have At:=F2.lt; obtain⟨vt,Ag⟩:=Aa; have Aa:(ab R px).cell? ⟨w.heap.size+1,t,none⟩=some vt:=(F2.cell t).trans Ag; clear Ag; clear Ao q7 HC D1 D2; generalize ab R px=w4 at *; have G2:=hO (HE.out w4 F2); go_wp2_with fail
    (try rw [am])
    (try go_wp2)
    go_roundw
    case rel=>exact⟨t+1,by omega,by go_num,F.setCell (by simp) _,F1.set_ne (by simp) _,by first|exact G2.out|(rw [HV.out]; exact G2.out)⟩
    case measure=>simp [intOf]; omega
  .obtain rfl:t=64:=by omega
   go_wp2_with fail
   go_ret; refine⟨_,rfl,by omega,?_,M⟩; have:cG (Sha.sch b 64) 64=Sha.bY b 48:=by
    rw [Sha.sch_end]; unfold cG; rw [Sha.ig]; simp
   rw [this] at K; exact K
end
section
open Go.RowKit Mem
theorem s7:(prog.info? 281).map (·.size)=some 8:=by kernel_rfl
def loadA8 (x:Value):Sem Value:=Instr.loadAt 281 x
def sY (x v:Value):Sem Unit:=Instr.storeAt 281 x v
theorem rg(x:Value):Instr.loadAt 281 x=loadA8 x:=rfl
theorem pO(x v:Value):Instr.storeAt 281 x v=sY x v:=rfl
attribute [go_sem ↓] rg pO
theorem oM{w:World} {g:Nat} {cs:List Value} {t:TypeId} (h:Blk w g cs t) (A:cs.length=8):(loadA8 (.pointer (some ⟨g,0,none⟩))).run prog w=.ok (.agg cs.toArray) w:=by
 have:=bF (P:=prog) w 281 g 0 8 _ underlying281 rfl s7 (ev h A)
 rw [lr h A] at this
 exact this
theorem pf{w:World} {g:Nat} {cs vs:List Value} {t:TypeId} (h:Blk w g cs t) (A:cs.length=8) (B:vs.length=8) (D:∀ v∈vs,v.oneCell'=true) :
  (sY (.pointer (some ⟨g,0,none⟩)) (.agg vs.toArray)).run prog w=.ok () (w.setCells g 0 vs)/\Blk (w.setCells g 0 vs) g vs t:=by
 have E:=bE (P:=prog) w 281 g 0 8 s7 vs.toArray ⟨by simpa using B,by simpa using D⟩ (ev h A) (fun j _=>h.froz _)
 have C:=iy vs w g 0 cs t h (by omega)
 simp [B,<-A] at C
 exact⟨E,C⟩
def plF (R s:List Nat) (i:Nat):List Nat:=Sha.kr R s i++R.drop i
theorem plF_len{R s:List Nat} (h:R.length=8) {i:Nat} (hi:i<=8):(plF R s i).length=8:=by unfold plF; rw [List.length_append,Sha.ik,List.length_drop]; omega
theorem plF_get{R s:List Nat} {i:Nat}:(plF R s i).getD i 0=R.getD i 0:=by
 unfold plF
 rw [List.getD_eq_getElem?_getD,List.getElem?_append_right (by rw [Sha.ik]; omega),Sha.ik,Nat.sub_self,List.getElem?_drop,Nat.add_zero,List.getD_eq_getElem?_getD]
theorem plF_set{R s:List Nat} (h:R.length=8) {i:Nat} (hi:i<8):(plF R s i).set i ((R.getD i 0+s.getD i 0) % 4294967296)=plF R s (i+1):=by
 unfold plF
 have e:(R.drop i).set 0 ((R.getD i 0+s.getD i 0) % 4294967296)=(R.getD i 0+s.getD i 0) % 4294967296::R.drop (i+1):=by
  rw [List.drop_eq_getElem_cons (show i<R.length by omega)]; rfl
 rw [List.set_append_right _ _ (by rw [Sha.ik]; omega),Sha.ik,Nat.sub_self,e]
 show _=(Sha.kr R s i++[(R.getD i 0+s.getD i 0) % 4294967296])++_
 rw [List.append_assoc]
 rfl
theorem iszU:(prog.info? 228).map (·.size)=some 1:=by kernel_rfl
theorem list8{l:List Nat} (h:l.length=8):∃ a b c d e f g i,l=[a,b,c,d,e,f,g,i]:=by
 match l,h with
 | [a,b,c,d,e,f,g,i],_=>exact⟨a,b,c,d,e,f,g,i,rfl⟩
def Tab (A:List Nat) (w:World):Prop:=∀ t,t<64->∃ v:Nat,w.cell? ⟨1,t,none⟩=some (.int .u64 (v:Int))/\v<18446744073709551616/\v / 4294967296=A.getD t 0
theorem Tab.below{A:List Nat} {w w':World} (h:Tab A w) (C:eD w w'):Tab A w':=fun t ht=>by
 obtain⟨v,B,D⟩:=h t ht
 exact⟨v,(C.cell (p:=⟨1,t,none⟩) (World.block_lt_of_cell? w _ B)).trans B,D⟩
theorem pmix_any(Z:List Value) (hF:Z=qq) (s:List Nat) (Ai:s.length=8) (Aj:Sha.ee s) (A:Option Addr) (c:Nat) (b:List UInt8) (w:World) (f:Bs w w.heap.size A 64 b) (Aw:64<=c) (K:List Nat) (hT:Tab K w) :
  Calls prog 270 #[.agg Z.toArray,.agg (uv s).toArray,.slice A 64 c] w fun e w'=>e=.returned (.agg (uv (Sha.block K s b)).toArray)/\eD w w':=by
 have hf:F32 Z:=by rw [hF]; exact form32
 obtain⟨L,u⟩:=eC (Sha.bY b 48)
 have AL:L.length=64:=by rw [<-u.out]; exact Sha.ig b 48
 unfold Sha.block
 rw [u.out]
 obtain⟨W,hW⟩:=eA (((w.alloc (.cells Z.toArray 269)).alloc (.cells (uv s).toArray 281)).alloc (.cells (uv (List.replicate 8 0)).toArray 281))
 have B0:Blk W w.heap.size Z 269:=by rw [<-hW]; exact((Blk.new _ _ _).alloc _).alloc _
 have B1:Blk W (w.heap.size+1) (uv s) 281:=by
  have:=Blk.new (w.alloc (.cells Z.toArray 269)) (uv s) 281; rw [<-hW]; exact Blk.alloc (by simpa using this) _
 have B2:Blk W (w.heap.size+2) (uv (List.replicate 8 0)) 281:=by
  have:=Blk.new ((w.alloc (.cells Z.toArray 269)).alloc (.cells (uv s).toArray 281)) (uv (List.replicate 8 0)) 281; rw [<-hW]; simpa using this
 have Ax:eD w W:=by rw [<-hW]; exact(eH.alloc (by simp) _).alloc (by simp; omega) _
 have hz:W.heap.size=w.heap.size+3:=by rw [<-hW]; simp
 have Ay:(uv s).length=8:=by rw [dJ]; exact Ai
 have l0:=oM B1 Ay
 have bn:=Blk.new W (uv (List.replicate 8 0)) 281
 obtain⟨N,B3⟩:=pf bn rfl Ay (sL s)
 obtain⟨W1,Ak⟩:=eA ((W.alloc (.cells (uv (List.replicate 8 0)).toArray 281)).setCells W.heap.size 0 (uv s))
 have z:Chg [] W W1:=by rw [<-Ak]; exact((Chg.refl _ _).alloc _).setCells _ (.inr eG)
 rw [Ak] at N B3
 have e0:=B0.chg z (by simp)
 have e1:=B1.chg z (by simp)
 have e2:=B2.chg z (by simp)
 have Af:=z.below (fun _ h=>by cases h)
 have d:eD w W1:=Ax.trans (Af.mono Ax.size)
 rw [hz] at N B3
 have Aa:=prow_any Z hF A c b W1 (f.next eG d |>.mono d.size) Aw
 rw [u.out] at Aa
 have Ab:Sha.ee L:=by rw [<-u.out]; exact Sha.ja b 48
 clear u
 have l1:=lM e0 hf.len
 have HW:=hO hW
 have HF:=hO hF
 clear hW Ak bn z hF
 go_enter func270,ntmps270
 go_upto_region 1 with fail
 rw [show (((w.alloc (.cells Z.toArray 269)).alloc (.cells (uv s).toArray 281)).alloc (.cells #[.int .u32 0,.int .u32 0,.int .u32 0,.int .u32 0,.int .u32 0,.int .u32 0,.int .u32 0,.int .u32 0] 281))=W from HW.out]
 have N:(sY (.pointer (some ⟨w.heap.size+3,0,none⟩)) (.agg (uv s).toArray)).run prog (W.alloc (.cells #[.int .u32 0,.int .u32 0,.int .u32 0,.int .u32 0,.int .u32 0,.int .u32 0,.int .u32 0,.int .u32 0] 281))=.ok () W1:=N
 go_wp2_with fail
 refine Aa.mono ?_
 rintro e w1 ⟨g,rfl,hg,B4,l⟩
 have f0:=e0.below l
 have f1:=e1.below l
 obtain⟨ZZ,Az⟩:=eC (uv (List.replicate 8 0))
 have AM:ZZ.length=8:=by rw [<-Az.out]; rfl
 have f2:=e2.below l
 rw [Az.out] at f2
 have f3:=B3.below l
 have AN:eD w w1:=d.trans (l.mono d.size)
 have Bc:w.heap.size+4<=g:=by have:=B3.lt; omega
 clear N
 clear Aa l0 l1 N e0 e1 e2 B0 B1 B2 B3 HW Af l
 go_wp2_with fail
 go_loopw [8,9,10,11,12,13,14,21] (fun _ _ _ _ _ _ _ i wr=>∃ t:Nat,t<=64/\i=.int .i64 (t:Int)/\eD w wr/\Blk wr w.heap.size Z 269/\Blk wr (w.heap.size+1) (uv s) 281/\Blk wr (w.heap.size+2) ZZ 281/\Blk wr (w.heap.size+3) (uv (Sha.steps K L s t)) 281/\Blk wr g (uv L) 228) (fun _ _ _ _ _ _ _ i _=>64 - (intOf i).toNat)
 case atStart=>exact⟨0,by omega,rfl,AN,f0,f1,f2,f3,B4⟩
 case round =>
  obtain⟨t,ht,rfl,J,C0,C1,C2,C3,C4⟩:=hrel; obtain⟨wy,AO⟩:∃ wy,wy=wr:=⟨_,rfl⟩; subst AO; by_cases Al:t<64
  .have cw:wy.cell? ⟨g,t,none⟩=some (.int .u32 ((L.getD t 0:Nat):Int)):=(C4.cell t).trans (nM _ (by omega))
   obtain⟨wt,Am⟩:=eC (L.getD t 0); rw [Am.out] at cw; have AP:∀ p,(ab wy p).cell? ⟨w.heap.size,0,none⟩=some (.int .i64 32):=fun p=>(ap (a:=⟨w.heap.size,0,none⟩) C0.lt p).trans ((C0.cell 0).trans hf.bits); obtain⟨vt,An,Bd,A0⟩:=hT t Al; have Ag:=World.block_lt_of_cell? w _ An; have f5:∀ p,(ab wy p).cell? ⟨1,t,none⟩=some (.int .u64 (vt:Int)):=fun p=>((J.trans ((aa wy p).mono J.size)).cell (p:=⟨1,t,none⟩) Ag).trans An; have HC:Hid (∀ p',Calls prog 269 #[.int .u64 ((vt:Int) / 4294967296)] (ab wy p') fun e w'=>e=.returned (.int .u32 ((K.getD t 0:Nat):Int))/\Below (ab wy p').heap.size (ab wy p') w'):=hO fun p'=>(ks _ _).mono fun e w' ⟨he,f⟩=>⟨by rw [he,<-A0,IntKind.wrap_u32]; congr 2; omega,f⟩
   have AY:K.getD t 0<4294967296:=by omega
   have HS:=hO (show Sha.steps K L s (t+1)=Sha.step (K.getD t 0) (L.getD t 0) (Sha.steps K L s t) from rfl); rw [Am.out] at HS; clear An A0 Ag; generalize K.getD t 0=kt at *; go_upto_region 5 with fail
   refine az ?_; repeat (go_big_quiet_step (fail))
   go_big_quiet_step ((go_at_call 269; exact aw (HC.out _)))
   repeat (go_big_quiet_step (fail))
   refine wpQuiet_nil ?_; rintro _ ⟨p,rfl⟩; have F:=aa wy p; have C0:=C0.below F; have C1:=C1.below F; have C2:=C2.below F; have C3:=C3.below F; have C4:=C4.below F; have J:eD w (ab wy p):=J.trans (F.mono J.size); have A1:=Sha.mT Ai K L t; have D:=Sha.ko Aj K L t; have AZ:wt<4294967296:=by rw [<-Am.out]; exact Ab.at_ t
   clear f5 AP HC cw F; generalize ab wy p=w2 at *; generalize Sha.steps K L s t=R at *; obtain⟨B,G,H,o,C,O,Q,r7,rfl⟩:=list8 A1; have m0:B<4294967296:=D _ (by simp); have m1:G<4294967296:=D _ (by simp); have m2:H<4294967296:=D _ (by simp); have m3:o<4294967296:=D _ (by simp); have m4:C<4294967296:=D _ (by simp); have m5:O<4294967296:=D _ (by simp); have m6:Q<4294967296:=D _ (by simp); have m7:r7<4294967296:=D _ (by simp); have Ao:Hid (Sha.steps K L s (t+1)=[((r7+Sha.mixed 6 11 25 false C+((C &&& O) ^^^ ((4294967295 ^^^ C) &&& Q))+kt+wt) % 4294967296+(Sha.mixed 2 13 22 false B+((B &&& G) ^^^ (B &&& H) ^^^ (G &&& H))) % 4294967296) % 4294967296,B,G,H,(o+(r7+Sha.mixed 6 11 25 false C+((C &&& O) ^^^ ((4294967295 ^^^ C) &&& Q))+kt+wt) % 4294967296) % 4294967296,C,O,Q]):=HS; have A2:=fun E=>mn Z hf 6 11 25 C m4 (by omega) (by omega) (by omega) false E; have A3:=fun E=>mn Z hf 2 13 22 B m0 (by omega) (by omega) (by omega) false E; have n1:Sha.mixed 6 11 25 false C<4294967296:=Sha.gz m4 6 11 25 false; have n2:Sha.mixed 2 13 22 false B<4294967296:=Sha.gz m0 2 13 22 false; have x1:=u32_and_nat C O m4 m5; have x2:bits BinOp.xor IntKind.u32 (if IntKind.u32.signed=true then -1 else IntKind.u32.max) (C:Int)=((4294967295 ^^^ C:Nat):Int):=u32_xor_nat 4294967295 C (by omega) m4; have A4:4294967295 ^^^ C<4294967296:=Sha.gI (by omega) m4; have x3:=u32_and_nat (4294967295 ^^^ C) Q A4 m6; have A5:C &&& O<4294967296:=Sha.iP m4; have A6:(4294967295 ^^^ C) &&& Q<4294967296:=Sha.iP A4; have x4:=u32_xor_nat (C &&& O) ((4294967295 ^^^ C) &&& Q) A5 A6; have Be:=Sha.gI A5 A6; have y1:=u32_and_nat B G m0 m1; have y2:=u32_and_nat B H m0 m2; have y3:=u32_and_nat G H m1 m2; have A7:B &&& G<4294967296:=Sha.iP m0; have A8:B &&& H<4294967296:=Sha.iP m0; have A9:G &&& H<4294967296:=Sha.iP m1; have y4:=u32_xor_nat (B &&& G) (B &&& H) A7 A8; have AA:=Sha.gI A7 A8; have y5:=u32_xor_nat ((B &&& G) ^^^ (B &&& H)) (G &&& H) AA A9; have Bf:=Sha.gI AA A9; generalize Sha.mixed 6 11 25 false C=b1 at *; generalize Sha.mixed 2 13 22 false B=b0 at *; generalize (C &&& O) ^^^ ((4294967295 ^^^ C) &&& Q)=cx at *; generalize (4294967295 ^^^ C) &&& Q=Bg at *; generalize 4294967295 ^^^ C=Bh at *; generalize C &&& O=Bi at *; generalize (B &&& G) ^^^ (B &&& H) ^^^ (G &&& H)=cy at *; generalize (B &&& G) ^^^ (B &&& H)=Bj at *; generalize B &&& G=Bk at *; generalize B &&& H=Bl at *; generalize G &&& H=Bm at *; obtain⟨X,hX⟩:=eA ((r7+b1+cx+kt+wt) % 4294967296); obtain⟨Y,hY⟩:=eA ((b0+cy) % 4294967296); rw [hX,hY] at Ao; have Bn:X<4294967296:=by omega
   have Bo:Y<4294967296:=by omega
   have AB:Hid ((((r7:Int)+b1+cx+kt) % 4294967296+wt) % 4294967296=(X:Int)):=hO (by omega); have AC:Hid (((b0:Int)+cy) % 4294967296=(Y:Int)):=hO (by omega); have AD:=hO A2; have AE:=hO A3; have AF:Hid (∀ E,Calls prog 269 #[.int .u64 (b1:Int)] E fun e w'=>e=.returned (.int .u32 (b1:Int))/\eD E w'):=hO fun E=>(ks _ _).mono fun e w' ⟨he,f⟩=>⟨by rw [he,IntKind.wrap_u32]; congr 2; omega,f⟩
   have AG:Hid (∀ E,Calls prog 269 #[.int .u64 (b0:Int)] E fun e w'=>e=.returned (.int .u32 (b0:Int))/\eD E w'):=hO fun E=>(ks _ _).mono fun e w' ⟨he,f⟩=>⟨by rw [he,IntKind.wrap_u32]; congr 2; omega,f⟩
   have K0:∀ E,eD w2 E->∀ i v,(uv [B,G,H,o,C,O,Q,r7])[i]?=some v->E.cell? ⟨w.heap.size+3,i,none⟩=some v:=fun E f i v h=>((C3.below f).cell i).trans h; clear A2 A3 HS hX hY A1 D Ab; have a0:∀ p,(ab w2 p).cell? ⟨w.heap.size+3,0,none⟩=some (.int .u32 (B:Int)):=fun p=>K0 _ (aa w2 p) 0 _ rfl; have a4:∀ p,(ab w2 p).cell? ⟨w.heap.size+3,4,none⟩=some (.int .u32 (C:Int)):=fun p=>K0 _ (aa w2 p) 4 _ rfl; go_upto_region 6 with fail
   refine az ?_; repeat (go_big_quiet_step (fail))
   refine wpQuiet_nil ?_; rintro _ ⟨p,rfl⟩; have Ap:=aa w2 p; clear a0 a4; generalize ab w2 p=w3 at *; have T:∀ p,eD w2 (ab w3 p):=fun p=>Ap.trans ((aa w3 p).mono Ap.size); have a5:∀ p,(ab w3 p).cell? ⟨w.heap.size+3,5,none⟩=some (.int .u32 (O:Int)):=fun p=>K0 _ (T p) 5 _ rfl; have a6:∀ p,(ab w3 p).cell? ⟨w.heap.size+3,6,none⟩=some (.int .u32 (Q:Int)):=fun p=>K0 _ (T p) 6 _ rfl; have a7:∀ p,(ab w3 p).cell? ⟨w.heap.size+3,7,none⟩=some (.int .u32 (r7:Int)):=fun p=>K0 _ (T p) 7 _ rfl; have aF:∀ p,(pX (.pointer (some ⟨w.heap.size,0,none⟩))).run prog (ab w3 p)=.ok (.agg Z.toArray) (ab w3 p):=fun p=>lM (C0.below (T p)) hf.len; have aA:∀ p,(nl (.pointer (some ⟨w.heap.size,5,none⟩))).run prog (ab w3 p)=.ok (.agg #[.int .i64 ((6:Nat):Int),.int .i64 ((11:Nat):Int),.int .i64 ((25:Nat):Int)]) (ab w3 p):=fun p=>oO (C0.below (T p)) (by rw [HF.out]; rfl) (by rw [HF.out]; rfl) (by rw [HF.out]; rfl)
   go_upto_region 7 with fail
   refine az ?_; repeat (go_big_quiet_step (fail))
   go_big_quiet_step ((go_at_call 277; exact aw (AD.out _)))
   repeat (go_big_quiet_step (fail))
   go_big_quiet_step ((go_at_call 269; exact aw (AF.out _)))
   repeat (go_big_quiet_step (fail))
   refine wpQuiet_nil ?_; rintro _ ⟨p,rfl⟩; rw [AB.out]; have Aq:=T p; clear a5 a6 a7 aF aA T AD AF x1 x2 x3 x4; generalize ab w3 p=w4 at *; have q:∀ p,eD w2 (ab w4 p):=fun p=>Aq.trans ((aa w4 p).mono Aq.size); have a1:∀ p,(ab w4 p).cell? ⟨w.heap.size+3,1,none⟩=some (.int .u32 (G:Int)):=fun p=>K0 _ (q p) 1 _ rfl; have a2:∀ p,(ab w4 p).cell? ⟨w.heap.size+3,2,none⟩=some (.int .u32 (H:Int)):=fun p=>K0 _ (q p) 2 _ rfl; have aF:∀ p,(pX (.pointer (some ⟨w.heap.size,0,none⟩))).run prog (ab w4 p)=.ok (.agg Z.toArray) (ab w4 p):=fun p=>lM (C0.below (q p)) hf.len; have aA:∀ p,(nl (.pointer (some ⟨w.heap.size,2,none⟩))).run prog (ab w4 p)=.ok (.agg #[.int .i64 ((2:Nat):Int),.int .i64 ((13:Nat):Int),.int .i64 ((22:Nat):Int)]) (ab w4 p):=fun p=>oO (C0.below (q p)) (by rw [HF.out]; rfl) (by rw [HF.out]; rfl) (by rw [HF.out]; rfl)
   go_upto_region 8 with fail
   refine az ?_; repeat (go_big_quiet_step (fail))
   go_big_quiet_step ((go_at_call 277; exact aw (AE.out _)))
   repeat (go_big_quiet_step (fail))
   go_big_quiet_step ((go_at_call 269; exact aw (AG.out _)))
   repeat (go_big_quiet_step (fail))
   refine wpQuiet_nil ?_; rintro _ ⟨p,rfl⟩; rw [AC.out]; have Ar:=q p; clear a1 a2 aF aA q AE AG y1 y2 y3 y4 y5; generalize ab w4 p=w5 at *; go_upto_region 9 with fail
   refine bp 2 ?_; simp only [List.take_succ_cons,List.take_zero,List.drop_succ_cons,List.drop_zero]; repeat (go_big_quiet_step (fail))
   refine wpQuiet_nil ?_; rintro _ ⟨p,rfl⟩; have U:eD w2 (ab w5 p):=Ar.trans ((aa w5 p).mono Ar.size); clear Ap Aq Ar; generalize ab w5 p=w6 at *; have D0:=C0.below U; have D1:=C1.below U; have D2:=C2.below U; have D3:=C3.below U; have D4:=C4.below U; have I:eD w w6:=J.trans (U.mono J.size); have AH:∀ ty,(Builtin.copy_ #[290,290] ty #[.slice (some ⟨w.heap.size+3,1,none⟩) 7 7,.slice (some ⟨w.heap.size+3,0,none⟩) 7 8]).run prog w6=.ok (goInt 7) (w6.setRow (w.heap.size+3) (uv [B,B,G,H,o,C,O,Q]).toArray):=fun ty =>
    jb (m:=7) (k:=1) (cs:=uv [B,G,H,o,C,O,Q]) underlying290 iszU D3 rfl rfl (fun j v hj=>by
     have Al:j<7:=by
      have:=(List.getElem?_eq_some_iff.1 hj).1; rw [dJ] at this; exact this
     rw [show (⟨w.heap.size+3,0,none⟩:Addr).add j=⟨w.heap.size+3,j,none⟩ by simp [Addr.add]; omega,D3.cell]
     rw [<-hj]; match j,Al with
     | 0,_=>rfl
     | 1,_=>rfl
     | 2,_=>rfl
     | 3,_=>rfl
     | 4,_=>rfl
     | 5,_=>rfl
     | 6,_=>rfl) (by simp [uv]) (sL _)
   obtain⟨w7,Ac⟩:=eA (w6.setRow (w.heap.size+3) (uv [B,B,G,H,o,C,O,Q]).toArray); have E3:Blk w7 (w.heap.size+3) (uv [B,B,G,H,o,C,O,Q]) 281:=by rw [<-Ac]; exact D3.setRow
   have Ad:∀ {g':Nat} {M:List Value} {e:TypeId},Blk w6 g' M e->g'≠w.heap.size+3->Blk w7 g' M e:=fun h AQ=>by
    rw [<-Ac]; unfold Blk at *; rw [setRow_other _ _ _ _ AQ]; exact h
   have E0:=Ad D0 (by omega); have E1:=Ad D1 (by omega); have E2:=Ad D2 (by omega); have E4:=Ad D4 (by omega); have AI:eD w w7:=by
    rw [<-Ac]; exact⟨I.os,I.tape,I.output,by simp [World.setRow]; exact I.size,fun i hi=>by rw [setRow_other _ _ _ _ (by omega)]; exact I.block i hi⟩
   rw [Ac] at AH; have s4:w7.cell? ⟨w.heap.size+3,4,none⟩=some (.int .u32 (o:Int)):=E3.cell 4; have s0:w7.cell? ⟨w.heap.size+3,0,none⟩=some (.int .u32 (B:Int)):=E3.cell 0; have z4:w7.frozen? ⟨w.heap.size+3,4,none⟩=false:=E3.froz 4; have z0:w7.frozen? ⟨w.heap.size+3,0,none⟩=false:=E3.froz 0; have G3:=(E3.set 4 (.int .u32 (((o+X) % 4294967296:Nat):Int))).set 0 (.int .u32 (((X+Y) % 4294967296:Nat):Int)); have As:=hO (show Blk ((w7.setCell ⟨w.heap.size+3,4,none⟩ (.int .u32 (((o+X) % 4294967296:Nat):Int))).setCell ⟨w.heap.size+3,0,none⟩ (.int .u32 (((X+Y) % 4294967296:Nat):Int))) (w.heap.size+3) (uv (Sha.steps K L s (t+1))) 281 by rw [Ao.out]; exact G3)
   have q1:((o:Int)+X) % 4294967296=(((o+X) % 4294967296:Nat):Int):=by omega
   have q2:((X:Int)+Y) % 4294967296=(((X+Y) % 4294967296:Nat):Int):=by omega
   have Ba:=E3.lt; clear K0 C0 C1 C2 C3 C4 D0 D1 D2 D3 D4 Ad Ac U J I G3 Ao AB AC; generalize (o+X) % 4294967296=V4 at *; generalize (X+Y) % 4294967296=V0 at *; go_wp2_with (at_builtin; refine wpList_copyR _ rfl _ _ 290 290 rfl _ _ rfl rfl (AH _) ?_)
   (try rw [am])
   (try go_wp2)
   go_roundw
   case rel=>exact⟨t+1,by omega,by go_num,(AI.setCell (by simp) _).setCell (by simp) _,(E0.set_ne (by simp) _).set_ne (by simp) _,(E1.set_ne (by simp) _).set_ne (by simp) _,(E2.set_ne (by simp) _).set_ne (by simp) _,by first|exact As.out|(rw [<-q1,<-q2] at As; exact As.out),(E4.set_ne (by simp; omega) _).set_ne (by simp; omega) _⟩
   case measure=>simp [intOf]; omega
  .obtain rfl:t=64:=by omega
   have Ae:=Sha.mT Ai K L 64; have Ah:=Sha.ko Aj K L 64; obtain⟨R,hR⟩:=eC (Sha.steps K L s 64); rw [hR.out] at Ae Ah C3; have AR:Blk wy (w.heap.size+3) (uv (plF R s 0)) 281:=C3; clear C3 Ab AL hT B4 f0 f1 f2 f3; go_wp2_with fail
   go_loopw [15,101] (fun _ i wr=>∃ j:Nat,j<=8/\i=.int .i64 (j:Int)/\eD w wr/\Blk wr (w.heap.size+1) (uv s) 281/\Blk wr (w.heap.size+2) ZZ 281/\Blk wr (w.heap.size+3) (uv (plF R s j)) 281) (fun _ i _=>8 - (intOf i).toNat)
   case atStart=>exact⟨0,by omega,rfl,J,C1,C2,AR⟩
   case round =>
    obtain⟨j,hj,rfl,At,F1,F2,F3⟩:=hrel; obtain⟨r,AS⟩:∃ r,r=wr:=⟨_,rfl⟩; subst AS; by_cases AT:j<8
    .have V:=plF_len (s:=s) Ae (i:=j) (by omega)
     have AU:=Ah.at_ j; have Bp:=Aj.at_ j; have g3:∀ E,eD r E->E.cell? ⟨w.heap.size+3,j,none⟩=some (.int .u32 ((R.getD j 0:Nat):Int)):=fun E f=>((F3.below f).cell j).trans (by rw [nM _ (by omega),plF_get]); have g1:∀ E,eD r E->E.cell? ⟨w.heap.size+1,j,none⟩=some (.int .u32 ((s.getD j 0:Nat):Int)):=fun E f=>((F1.below f).cell j).trans (nM _ (by omega)); have gs:Hid (∀ E,Blk E (w.heap.size+3) (uv (plF R s j)) 281->Blk (E.setCell ⟨w.heap.size+3,j,none⟩ (.int .u32 (((R.getD j 0+s.getD j 0) % 4294967296:Nat):Int))) (w.heap.size+3) (uv (plF R s (j+1))) 281):=hO fun E h=>by
      have:=h.set j (.int .u32 (((R.getD j 0+s.getD j 0) % 4294967296:Nat):Int)); rw [sJ,plF_set Ae AT] at this; exact this
     generalize R.getD j 0=x at *; generalize s.getD j 0=y at *; have k3:∀ p,(ab r p).cell? ⟨w.heap.size+3,j,none⟩=some (.int .u32 (x:Int)):=fun p=>g3 _ (aa r p); have k1:∀ p,(ab r p).cell? ⟨w.heap.size+1,j,none⟩=some (.int .u32 (y:Int)):=fun p=>g1 _ (aa r p); have qv:((x:Int)+y) % 4294967296=(((x+y) % 4294967296:Nat):Int):=by omega
     clear g1 V AU; go_upto_region 16 with fail
     refine bp 8 ?_; simp only [List.take_succ_cons,List.take_zero,List.drop_succ_cons,List.drop_zero]; repeat (go_big_quiet_step (fail))
     refine wpQuiet_nil ?_; rintro _ ⟨p,rfl⟩; have F:=aa r p; have kc:=k3 p; have G1:=F1.below F; have G2:=F2.below F; have G3:=F3.below F; have AV:eD w (ab r p):=At.trans (F.mono At.size); have kf:(ab r p).frozen? ⟨w.heap.size+3,j,none⟩=false:=G3.froz _; have AJ:=hO (gs.out _ G3); have Bb:=G3.lt; clear k3 k1 g3 F1 F2 F3; generalize ab r p=wq at *; generalize (x+y) % 4294967296=xy at *; go_wp2_with fail
     (try rw [am])
     (try go_wp2)
     go_roundw
     case rel=>exact⟨j+1,by omega,by go_num,AV.setCell (by simp) _,G1.set_ne (by simp) _,G2.set_ne (by simp) _,by first|exact AJ.out|(rw [qv]; exact AJ.out)⟩
     case measure=>simp [intOf]; omega
    .obtain rfl:j=8:=by omega
     have V:=plF_len (s:=s) Ae (i:=8) (by omega); have AK:plF R s 8=Sha.kr R s 8:=by
      unfold plF; rw [List.drop_of_length_le (by omega),List.append_nil]
     rw [AK] at F3 V; clear AK; have Bq:=oM F3 (by rw [dJ]; exact V)
     obtain⟨N,Au⟩:=pf F2 AM (vs:=uv (Sha.kr R s 8)) (by rw [dJ]; exact V) (sL _)
     obtain⟨wf,Av⟩:=eA (r.setCells (w.heap.size+2) 0 (uv (Sha.kr R s 8))); have AW:eD w wf:=by
      rw [<-Av]; exact((Chg.of_below (S:=[]) At).setCells _ (.inr (by omega))).below (by simp)
     rw [Av] at N Au; have AX:Has wf (w.heap.size+2) 0 8:=ev Au (by rw [dJ]; exact V)
     have hA:=lr Au (n:=8) (by rw [dJ]; exact V)
     clear Av; go_wp2; refine bodyPost_ret (dr (P:=prog) Tryz.results270 _ _ (w.heap.size+2) 0 8 _ rfl underlying281 rfl s7 AX) rfl ?_; exact⟨by rw [hA,<-hR.out],AW⟩
end
section
open Go.RowKit Mem
def FirstOk (B:List Nat) (A:List Value):Prop:=A.length=8/\∀ j,j<8->∃ v:Nat,A[j]?=some (.int .u64 (v:Int))/\v<18446744073709551616/\v / 4294967296=B.getD j 0
theorem index_u64(A:List Value) (W:World) (j:Nat) (v:Value) (E:j<8) (h:A[j]?=some v):(Instr.index 282 (.agg A.toArray) (.int .i64 (j:Int))).run prog W=.ok v W:=by
 have B:(Go.sizeOf 151).run prog W=.ok 1 W:=by kernel_rfl
 have C:(Go.isAgg 151).run prog W=.ok false W:=by kernel_rfl
 have D:(0:Int)<=(j:Int)/\(j:Int)<((8:Nat):Int):=by omega
 unfold Instr.index
 simp only [asIntOf,Sem.run_bind,Sem.run_pure,run_underlying underlying282,Result.andThen_ok,if_pos D,B,Go.part,C,Bool.false_eq_true,if_false,Int.toNat_natCast,Nat.mul_one,List.getElem?_toArray,h]
theorem index_u32(A:List Value) (W:World) (j:Nat) (v:Value) (E:j<8) (h:A[j]?=some v):(Instr.index 281 (.agg A.toArray) (.int .i64 (j:Int))).run prog W=.ok v W:=by
 have B:(Go.sizeOf 228).run prog W=.ok 1 W:=by kernel_rfl
 have C:(Go.isAgg 228).run prog W=.ok false W:=by kernel_rfl
 have D:(0:Int)<=(j:Int)/\(j:Int)<((8:Nat):Int):=by omega
 unfold Instr.index
 simp only [asIntOf,Sem.run_bind,Sem.run_pure,run_underlying underlying281,Result.andThen_ok,if_pos D,B,Go.part,C,Bool.false_eq_true,if_false,Int.toNat_natCast,Nat.mul_one,List.getElem?_toArray,h]
theorem rem_pow(n:Nat):∀ j,Sha.rem n j=n / 2 ^ (8 * j)
 | 0=>by simp [Sha.rem]
 | j+1=>by
  rw [Sha.rem,rem_pow n j,Nat.div_div_eq_div_mul,show (256:Nat)=2 ^ 8 from rfl,<-Nat.pow_add]; rfl
theorem be_at:∀ (k n q:Nat),q<k->(Sha.be k n)[q]?=some (UInt8.ofNat (Sha.rem n (k - 1 - q) % 256))
 | 0,_,_,h=>by omega
 | k+1,n,0,_=>rfl
 | k+1,n,q+1,h=>by
  rw [Sha.be,List.getElem?_cons_succ,be_at k n q (by omega),show k+1 - 1 - (q+1)=k - 1 - q by omega]
theorem be_more(k n q:Nat) (h:q<k) (s:Nat) (A:s=8 * (k - 1 - q)):bv ((Sha.be k n).take q)++[.int .u8 ((n / 2 ^ s % 256:Nat):Int)]=bv ((Sha.be k n).take (q+1)):=by
 rw [List.take_add_one,be_at k n q h,eu,rem_pow,<-A]
 simp [bv]
theorem psum_any(hc:List Value) (hF:hc=qq) (Q D:List Nat) (A:Option Addr) (c n:Nat) (d:List UInt8) (w:World) (hd:Bs w w.heap.size A n d) (hn:n<=1000000) (hT:Tab Q w) (An:D.length=8) (Az:Sha.ee D) (fv:List Value) (AY:FirstOk D fv)
  (u:∀ W',Calls prog 268 #[] W' fun e w'=>e=.returned (.agg fv.toArray)/\eD W' w') :
  Calls prog 256 #[.agg hc.toArray,.slice A n c] w fun e w'=>∃ A' c',e=.returned (.slice A' 32 c')/\32<=c'/\w'.ownsRow w.heap.size 5 1 (.slice A' 32 c') 32 (bv (Sha.sum Q D d))/\eD w w':=by
 obtain⟨i0,hi,Ab,Ac,Ad⟩:=al qi
 have hf:F32 hc:=by rw [hF]; exact form32
 have BC:=hO hd.len
 obtain⟨W,hW⟩:=eA (w.alloc (.cells hc.toArray 269))
 have BH:Blk W w.heap.size hc 269:=by rw [<-hW]; exact Blk.new _ _ _
 have f:eD w W:=eF hW
 have AZ:w.heap.size<=W.heap.size:=f.size
 have Ao:Bs W W.heap.size A n d:=dF hd f
 have f0:∀ p,(ab W p).cell? ⟨w.heap.size,0,none⟩=some (.int .i64 32):=fun p=>((BH.below (aa W p)).cell 0).trans hf.bits
 have HW:=hO hW
 have HF:=hO hF
 have V:0+n<=maxLen:=by unfold maxLen; omega
 have A0:n+1<=maxLen:=by unfold maxLen; omega
 clear hW hd hF
 go_enter func256,ntmps256
 go_upto_region 1 with fail
 rw [HW.out]
 refine az ?_
 repeat (go_big_quiet_step (fail))
 refine wpQuiet_nil ?_
 rintro _ ⟨p,rfl⟩
 have AD:=aa W p
 have BH:=BH.below AD
 have Ao:=dF Ao AD
 have f:eD w (ab W p):=f.trans (AD.mono f.size)
 have AZ:w.heap.size<=(ab W p).heap.size:=f.size
 clear f0 HW
 generalize ab W p=H at *
 have AE:(H.alloc (.cells #[] 5)).ownsRow H.heap.size 5 1 (.slice (some ⟨H.heap.size,0,none⟩) 0 0) 0 []:=dz (M:=[]) eG (Blk.new H [] 5) eG (by omega) rfl rfl
 have Ap:eD H (H.alloc (.cells #[] 5)):=eH
 have Ba:=dF Ao Ap
 have AF:=Ap.size
 have BD:(H.alloc (.cells #[] 5)).heap.size=H.heap.size+1:=by simp
 go_upto_region 2 with fail
 go_wp2_with (at_builtin; go_must (refine au (H.alloc (.cells #[] 5)) rfl (.tmp 23) (.tmp 24) 62 rfl H.heap.size 5 i0 (.int .u8 0) 1 1 underlying62 hi Ab Ac Ad rfl (by omega) _ 0 [] rfl AE _ _ n _ _ rfl Ba (iu _) V (by omega) AF ?_))
 intro A5 c5 w5 J g5 BE K
 have g:eD H w5:=Mem.ay Ap K AF AE
 have J:w5.ownsRow H.heap.size 5 1 (.slice A5 n c5) n (bv d):=by simpa using J
 have I:H.heap.size<=w5.heap.size:=g.size
 clear K Ao Ba AE Ap AF BD
 go_wp2_with (at_builtin; go_must (refine bi rfl (.tmp 26) (.tmp 27) 62 rfl H.heap.size i0 (.int .u8 0) 1 underlying62 hi Ab Ac Ad rfl _ _ _ rfl J rfl rfl A0 (by omega) I ?_))
 intro A6 c6 w6 R g6 BF A1
 have Bb:=bz g A1 I J eG
 have R:w6.ownsRow H.heap.size 5 1 (.slice A6 (n+1) c6) (n+1) (bv (dS d 0)):=by rw [<-pad_zero]; exact R
 clear J A1 g I g5 BE g6 BF V A0
 go_wp2_with fail
 go_loopw [7] (fun v wr=>∃ (z k:Nat) (A5:Option Addr) (c5:Nat),z<=Sha.dU n/\Hid (k=n+1+z)/\k<=n+65/\v=.slice A5 k c5/\eD H wr/\wr.ownsRow H.heap.size 5 1 (.slice A5 k c5) k (bv (dS d z))) (fun v _=>n+66 - lenV v)
 case atStart=>exact⟨0,n+1,A6,c6,by omega,hO rfl,by omega,rfl,Bb,R⟩
 case round =>
  clear R Bb; obtain⟨z,k,A5,c5,hz,HK,hk,rfl,L,B⟩:=hrel; have BI:(k:Int)+8<=2000000:=by omega
  have BK:(0:Int)<=(k:Int):=by omega
  by_cases Aq:z<Sha.dU n
  .obtain⟨r,BL,hr⟩:=oW HK.out Aq
   obtain⟨r2,h⟩:=eA (k % 64); have Cs:r2≠56:=by omega
   have ht:Int.tmod (k:Int) 64=(r2:Int):=by rw [<-h]; exact fu k 64
   have AG:(k:Int) % 64=(r2:Int):=by rw [<-h]; omega
   have BM:((r2:Int) != 56)=true:=by simp; omega
   have HZ:=hO Aq; have V:k+1<=maxLen:=by unfold maxLen; omega
   have I:H.heap.size<=wr.heap.size:=L.size; clear hr hz Aq h BL; go_wp2_with (at_builtin; go_must (refine bi rfl (.tmp 36) (.tmp 37) 62 rfl H.heap.size i0 (.int .u8 0) 1 underlying62 hi Ab Ac Ad rfl _ _ _ rfl B rfl rfl V (by omega) I ?_))
   intro A' c' E C AH Bc K; have AI:=bz L K I B eG; rw [pad_more] at C; have BO:z<Sha.dU n:=HZ.out; have Bd:Sha.dU n<64:=Nat.mod_lt _ (by omega); have BP:=hO (show k+1<=n+65 by have:=HK.out; omega)
   clear B K L ht AG BM BO Bd; go_wp2; go_roundw
   case rel=>exact⟨z+1,k+1,A',c',HZ.out,hO (by rw [HK.out]; omega),BP.out,rfl,AI,C⟩
   case measure=>simp [lenV]; omega
  .have Ar:z=Sha.dU n:=by omega
   have hr:=oX HK.out Ar; have h:k % 64=56:=by omega
   have ht:Int.tmod (k:Int) 64=56:=by
    have:=fu k 64; rw [h] at this; exact this
   have AG:(k:Int) % 64=56:=by omega
   rw [Ar] at B; have Ct:=hO (show k=n+1+Sha.dU n by rw [HK.out,Ar]); have BQ:=hO h; clear hr hz Aq Ar HK h; obtain⟨wo,BR⟩:∃ wo,wo=wr:=⟨_,rfl⟩; subst BR; go_wp2_with fail
   have Cu:k+8<=2000000:=by omega
   clear ht AG BI BK; go_loopw [7,8] (fun v i wx=>∃ (q m:Nat) (A8:Option Addr) (c8:Nat),q<=8/\i=.int .i64 (56 - 8 * (q:Int))/\Hid (m=k+q)/\m<=k+8/\v=.slice A8 m c8/\eD H wx/\wx.ownsRow H.heap.size 5 1 (.slice A8 m c8) m (bv (dS d (Sha.dU n))++bv ((Sha.be 8 (8 * n)).take q))) (fun _ i _=>(intOf i+8).toNat)
   case atStart=>exact⟨0,k,A5,c5,by omega,rfl,hO rfl,by omega,rfl,L,by simpa [bv] using B⟩
   case round =>
    clear B L; obtain⟨q,m,A8,c8,hq,rfl,HM,hm,rfl,L,B⟩:=hrel; by_cases As:q<8
    .obtain⟨F,Ae⟩:∃ F:Nat,8 * (7 - q)=F:=⟨_,rfl⟩
     have e1:(56 - 8 * (q:Int))=(F:Int):=by omega
     have Be:F<=56:=by omega
     have V:m+1<=maxLen:=by unfold maxLen; omega
     have I:H.heap.size<=wr.heap.size:=L.size; have AJ:=hO (be_more 8 (8 * n) q As F Ae.symm); have HE:=hO (show (F:Int) - 8=56 - 8 * ((q+1:Nat):Int) by omega); have HN:=hO (show q+1<=8 from As); have Af:(intOf (Value.int IntKind.i64 ((F:Int) - 8))+8).toNat<(intOf (Value.int IntKind.i64 (F:Int))+8).toNat:=by
      show ((F:Int) - 8+8).toNat<((F:Int)+8).toNat
      omega
     have AK:=hO Af; have BT:((n:Int) * 8) / 2 ^ F % 256=((8 * n / 2 ^ F % 256:Nat):Int):=by
      rw [Int.natCast_emod,Int.natCast_ediv,Int.natCast_mul,Int.natCast_pow,Int.mul_comm]; rfl
     rw [e1]; clear e1 Ae hq As Af; go_wp2_with (at_builtin; go_must (refine bi rfl (.tmp 67) (.tmp 75) 62 rfl H.heap.size i0 (.int .u8 0) 1 underlying62 hi Ab Ac Ad rfl _ _ _ rfl B rfl rfl V (by omega) I ?_))
     intro A' c' E C AH Bc K; have AI:=bz L K I B eG; have T:E.ownsRow H.heap.size 5 1 (.slice A' (m+1) c') (m+1) (bv (dS d (Sha.dU n))++bv ((Sha.be 8 (8 * n)).take (q+1))):=by
      have e:((8 * n / 2 ^ F % 256:Nat):Int)=8 * (n:Int) / 2 ^ F % 256:=by
       rw [Int.natCast_emod,Int.natCast_ediv,Int.natCast_mul,Int.natCast_pow]; rfl
      rw [<-AJ.out,e]; exact C
     have AL:=hO (show m+1=k+(q+1) by rw [HM.out]; omega)
     have AM:=hO (show m+1<=k+8 by have:=HM.out; have:=HN.out; omega)
     clear B C K L BT; go_wp2; go_roundw
     case rel=>exact⟨q+1,m+1,A',c',HN.out,by rw [HE.out],AL,AM.out,rfl,AI,T⟩
     case measure=>exact AK.out
    .have X:q=8:=by omega
     have Y:(56 - 8 * (q:Int)) = -8:=by omega
     obtain⟨E,BU⟩:∃ E,E=wr:=⟨_,rfl⟩; subst BU; have N:E.ownsRow H.heap.size 5 1 (.slice A8 m c8) m (bv (Sha.cV d)):=by
      rw [X] at B; have e:(Sha.be 8 (8 * n)).take 8=Sha.be 8 (8 * n):=List.take_of_length_le (by rw [Sha.kV]; omega)
      have e2:bv (dS d (Sha.dU n))++bv (Sha.be 8 (8 * n))=bv (Sha.cV d):=by rw [<-BC.out]; exact full_pad d
      rw [e,e2] at B; exact B
     have Bf:=hO (show (Sha.cV d).length=m by have:=Bs.len (Bs.of_own N); exact this)
     have Bg:=hO (show m % 64=0 by rw [<-Bf.out]; exact Sha.full_len d)
     have Cn:64<=m:=by have:=HM.out; have:=Bg.out; have:=BQ.out; omega
     obtain⟨ga,rfl,Co,Bh⟩:=fp N (by omega); have BV:m<=c8:=by obtain⟨_,_,e,h1,_⟩:=ak N; injection e with _ _ e; omega
     have l:eD w E:=f.trans (L.mono AZ); have Bi:=hT.below l; have B2:=BH.below L; have AN:=u (E.alloc (.cells (uv (List.replicate 8 0)).toArray 281)); have BS:=Blk.new E (uv (List.replicate 8 0)) 281; have At:eD E (E.alloc (.cells (uv (List.replicate 8 0)).toArray 281)):=eH; obtain⟨w3,AO⟩:=eC (E.alloc (.cells (uv (List.replicate 8 0)).toArray 281)); rw [AO.out] at AN BS At; have Bj:Hid (E.alloc (.cells #[.int .u32 0,.int .u32 0,.int .u32 0,.int .u32 0,.int .u32 0,.int .u32 0,.int .u32 0,.int .u32 0] 281)=w3):=hO AO.out; clear AO B As u hT; rw [Y]; clear Y X hq; go_upto_region 13 with fail
     rw [Bj.out]; go_wp2_with fail
     refine AN.mono ?_; rintro e w4 ⟨rfl,AP⟩; have Bk:Blk w4 E.heap.size (uv (cG (D.take 0) 8)) 281:=BS.below AP; have A2:eD E w4:=At.trans (AP.mono At.size); clear AN BS At AP Bj; go_wp2_with fail
     go_loopw [10,11,78] (fun _ _ i wx=>∃ j:Nat,j<=8/\i=.int .i64 (j:Int)/\eD E wx/\Blk wx E.heap.size (uv (cG (D.take j) 8)) 281) (fun _ _ i _=>8 - (intOf i).toNat)
     case atStart=>exact⟨0,by omega,rfl,A2,Bk⟩
     case round =>
      clear Bk A2; obtain⟨j,hj,rfl,Aa,BJ⟩:=hrel; by_cases Ag:j<8
      .obtain⟨fj,Bl,Cv,Bm⟩:=AY.2 j Ag
       have k0:wr.cell? ⟨w.heap.size,0,none⟩=some (.int .i64 32):=((B2.below Aa).cell 0).trans hf.bits; have hcut:=ks ((fj:Int) / 4294967296) wr; rw [show IntKind.u32.wrap ((fj:Int) / 4294967296)=((D.getD j 0:Nat):Int) by rw [<-Bm,IntKind.wrap_u32]; omega] at hcut
       have Ah:=nu (D.take j) (n:=8) (by rw [List.length_take]; omega) (D.getD j 0)
       have AQ:(D.take j).length=j:=by rw [List.length_take]; omega
       have Bn:D.take j++[D.getD j 0]=D.take (j+1):=by
        rw [List.take_add_one,List.getElem?_eq_getElem (by omega)]; simp [List.getD_eq_getElem?_getD,List.getElem?_eq_getElem (show j<D.length by omega)]
       rw [AQ,Bn] at Ah; have Bo:=hO Ah; have Bp:(cG (D.take j) 8).length=8:=nv _ (by rw [AQ]; omega)
       obtain⟨vj,Bq⟩:∃ v,(uv (cG (D.take j) 8))[j]?=some v:=⟨_,nM _ (by omega)⟩; have BW:=hO Bq; clear Ah Bn AQ Bp Bq Bm; generalize D.getD j 0=yj at *; have BY:(j:Int)<8:=by omega
       have AR:=fun W=>index_u64 fv W j _ Ag Bl; clear Bl; go_wp2_with fail
       refine hcut.mono ?_; rintro e w5 ⟨rfl,g⟩; have Ai:=BJ.below g; have Br:eD E w5:=Aa.trans (g.mono Aa.size); have c5:w5.cell? ⟨E.heap.size,j,none⟩=some vj:=(Ai.cell j).trans BW.out; have z5:w5.frozen? ⟨E.heap.size,j,none⟩=false:=Ai.froz _; have Cp:=Ai.lt; have BN:=Ai.set j (.int .u32 (yj:Int)); rw [sJ,Bo.out] at BN; clear hcut AR k0 g Aa BJ Ai; go_wp2_with fail
       go_roundw
       case rel=>exact⟨j+1,by omega,by go_num,Br.setCell (by simp) _,BN⟩
       case measure=>simp [intOf]; omega
      .have Aj:j=8:=by omega
       have Bt:cG (D.take j) 8=Sha.bX Q D (Sha.cV d) 0:=by
        rw [Aj,List.take_of_length_le (by omega)]; unfold cG; rw [An]; simp [Sha.bX]
       rw [Bt] at BJ; have A3:decide ((j:Int)<8)=false:=by simp; omega
       have Bu:(8:Int)<=(j:Int):=by omega
       obtain⟨w7,BZ⟩:∃ w7,w7=wr:=⟨_,rfl⟩; subst BZ; have Cq:ga<E.heap.size:=Bh; have Cr:(j:Int)<=8:=by omega
       clear Bt AY Aj; go_wp2_with fail
       go_loopw [12] (fun i wx=>∃ (t q:Nat),Hid (q=64 * t)/\q<=m/\i=.int .i64 (q:Int)/\eD E wx/\Blk wx E.heap.size (uv (Sha.bX Q D (Sha.cV d) t)) 281) (fun i _=>m - (intOf i).toNat)
       case atStart=>exact⟨0,0,hO rfl,by omega,rfl,Aa,BJ⟩
       case round =>
        clear BJ Aa A3; obtain⟨t,o,Au,Ca,rfl,Z,BX⟩:=hrel; obtain⟨wx,Cb⟩:∃ wx,wx=wr:=⟨_,rfl⟩; subst Cb; by_cases Cc:o<m
        .have Bv:o+64<=m:=by have:=Bg.out; have:=Au.out; omega
         have HS:=hO (show Sha.bX Q D (Sha.cV d) (t+1)=Sha.block Q (Sha.bX Q D (Sha.cV d) t) (((Sha.cV d).drop (64 * t)).take 64) from rfl); rw [<-Au.out] at HS; have Av:=Sha.jD An Q (Sha.cV d) t; have A4:=Sha.kZ Az Q (Sha.cV d) t; have Ak:=dN N Z; have A7:Bs wx wx.heap.size (some ⟨ga,o,none⟩) 64 (((Sha.cV d).drop o).take 64):=by
          have h1:=((Bs.of_own Ak).tail (k:=o) (cap:=c8) (by omega) BV (by omega)).take (k:=64) (by omega); simpa [aO] using h1
         have Cd:∀ p,(pX (.pointer (some ⟨w.heap.size,0,none⟩))).run prog (ab wx p)=.ok (.agg hc.toArray) (ab wx p):=fun p=>lM ((B2.below Z).below (aa wx p)) hf.len; have Bw:∀ p,(loadA8 (.pointer (some ⟨E.heap.size,0,none⟩))).run prog (ab wx p)=.ok (.agg (uv (Sha.bX Q D (Sha.cV d) t)).toArray) (ab wx p):=fun p=>oM (BX.below (aa wx p)) (by rw [dJ]; exact Av)
         have b:=fun p=>pmix_any hc HF.out (Sha.bX Q D (Sha.cV d) t) Av A4 (some ⟨ga,o,none⟩) (c8 - o) (((Sha.cV d).drop o).take 64) (ab wx p) (dF A7 (aa wx p)) (by omega) Q ((Bi.below Z).below (aa wx p)); rw [<-HS.out] at b; have Bx:(uv (Sha.bX Q D (Sha.cV d) (t+1))).length=8:=by rw [dJ]; exact Sha.jD An Q (Sha.cV d) (t+1)
         have AA:(uv (Sha.bX Q D (Sha.cV d) t)).length=8:=by rw [dJ]; exact Av
         obtain⟨S0,Ce⟩:=eC (Sha.bX Q D (Sha.cV d) t); obtain⟨S1,By⟩:=eC (Sha.bX Q D (Sha.cV d) (t+1)); rw [Ce.out] at Bw b BX AA; rw [By.out] at b Bx; have Bz:=hO b; have i2:(0:Int)<=(o:Int):=by omega
         have i4:(o:Int)+64<=(c8:Int):=by omega
         clear b Av A4 HS A7 Ak; go_upto_region 21 with fail
         refine bp 8 ?_; simp only [List.take_succ_cons,List.take_zero,List.drop_succ_cons,List.drop_zero]; repeat (go_big_quiet_step (fail))
         refine wpQuiet_nil ?_; rintro _ ⟨pz,rfl⟩; have hg:=aa wx pz; have B0:=Bz.out pz; have BG:=BX.below hg; have AS:eD E (ab wx pz):=Z.trans (hg.mono Z.size); have Cf:=hO (show o+64=64 * (t+1) by rw [Au.out]; omega)
         clear Cd Bw i2 i4 Bz hg Z BX; generalize ab wx pz=w8 at *; go_wp2_with fail
         refine B0.mono ?_; rintro e w9 ⟨rfl,AT⟩; have B1:=BG.below AT; have AB:eD E w9:=AS.trans (AT.mono AS.size); obtain⟨Cg,AU⟩:=pf B1 AA (vs:=uv S1) Bx (sL _); obtain⟨wA,AV⟩:=eA (w9.setCells E.heap.size 0 (uv S1)); have Ch:eD E wA:=by
          rw [<-AV]; exact((Chg.of_below (S:=[]) AB).setCells _ (.inr (by omega))).below (by simp)
         rw [AV] at Cg AU; rw [<-By.out] at AU; clear B0 AT AV B1 BG AS AB; go_wp2; (try rw [am])
         (try go_wp2)
         go_roundw
         case rel=>exact⟨t+1,o+64,Cf,Bv,by go_num,Ch,AU⟩
         case measure=>simp [intOf]; omega
        .have X:o=m:=by omega
         have Ci:Hid (t=(Sha.cV d).length / 64):=hO (by have:=Au.out; rw [Bf.out]; omega)
         have B3:m<=o:=by omega
         have B4:=hO (Sha.jD An Q (Sha.cV d) t); have B5:=hO (Sha.kZ Az Q (Sha.cV d) t); have B6:=hO (show Sha.sum Q D d=Sha.eP (Sha.bX Q D (Sha.cV d) t) 8 by unfold Sha.sum; rw [<-Ci.out])
         generalize Sha.bX Q D (Sha.cV d) t=S at *; have Cw:=oM BX (by rw [dJ]; exact B4.out)
         have A3:decide (o<m)=false:=by simp; omega
         have Al:eD w wx:=l.trans (Z.mono l.size); have B9:=B2.below Z; clear X Cc Ca BX Bi N; go_wp2_with fail
         clear B3; go_loopw [13,15,16,108] (fun v _ _ i wz=>∃ (j s:Nat) (A9:Option Addr) (x:Nat),j<=8/\Hid (s=4 * j)/\s<=32/\i=.int .i64 (j:Int)/\v=.slice A9 s x/\s<=x/\eD wx wz/\wz.ownsRow wx.heap.size 5 1 (.slice A9 s x) s (bv (Sha.eP S j))) (fun _ _ _ i _=>8 - (intOf i).toNat)
         case atStart=>exact⟨0,0,none,0,by omega,hO rfl,by omega,rfl,rfl,by omega,Below.refl _ _,World.ownsRow_nil _ _ _ _⟩
         case round =>
          obtain⟨j,s,A9,x,hj,B7,Cx,rfl,rfl,Am,Aw,O⟩:=hrel; obtain⟨wb,Cj⟩:∃ wb,wb=wr:=⟨_,rfl⟩; subst Cj; by_cases Ag:j<8
          .have HD:=hO (show Sha.eP S (j+1)=Sha.eP S j++Sha.be 4 (S.getD j 0) from rfl)
           have Cy:=B5.out.at_ j; have AR:=fun W=>index_u32 (uv S) W j _ Ag (nM S (by rw [B4.out]; exact Ag))
           have k0:wb.cell? ⟨w.heap.size,0,none⟩=some (.int .i64 32):=((B9.below Aw).cell 0).trans hf.bits; have BY:(j:Int)<8:=by omega
           generalize S.getD j 0=y at *; have AC:wb.ownsRow wx.heap.size 5 1 (.slice A9 s x) s (bv (Sha.eP S j)++bv ((Sha.be 4 y).take 0)):=by simpa [bv] using O
           clear O; go_wp2_with fail
           go_loopw [13,16] (fun v i wz=>∃ (q U:Nat) (A9:Option Addr) (x:Nat),q<=4/\i=.int .i64 (24 - 8 * (q:Int))/\Hid (U=s+q)/\U<=s+4/\v=.slice A9 U x/\U<=x/\eD wx wz/\wz.ownsRow wx.heap.size 5 1 (.slice A9 U x) U (bv (Sha.eP S j)++bv ((Sha.be 4 y).take q))) (fun _ i _=>(intOf i+8).toNat)
           case atStart=>exact⟨0,s,A9,x,by omega,rfl,hO rfl,by omega,rfl,Am,Aw,AC⟩
           case round =>
            clear AC k0 AR Aw; obtain⟨q,U,A9,x,hq,rfl,AW,Cz,rfl,B8,Ax,G⟩:=hrel; by_cases Ay:q<4
            .obtain⟨F,Ae⟩:∃ F:Nat,8 * (3 - q)=F:=⟨_,rfl⟩
             have e1:(24 - 8 * (q:Int))=(F:Int):=by omega
             have Be:F<=24:=by omega
             have V:U+1<=maxLen:=by unfold maxLen; omega
             have I:wx.heap.size<=wr.heap.size:=Ax.size; have AJ:=hO (be_more 4 y q Ay F Ae.symm); have HE:=hO (show (F:Int) - 8=24 - 8 * ((q+1:Nat):Int) by omega); have HN:=hO (show q+1<=4 from Ay); have Af:(intOf (Value.int IntKind.i64 ((F:Int) - 8))+8).toNat<(intOf (Value.int IntKind.i64 (F:Int))+8).toNat:=by
              show ((F:Int) - 8+8).toNat<((F:Int)+8).toNat
              omega
             have AK:=hO Af; rw [e1]; clear e1 Ae hq Ay Af; go_wp2_with (at_builtin; go_must (refine bi rfl (.tmp 118) (.tmp 124) 62 rfl wx.heap.size i0 (.int .u8 0) 1 underlying62 hi Ab Ac Ad rfl _ _ _ rfl G rfl rfl V (by omega) I ?_))
             intro A' c' w8 C AH Bc K; have Ck:=bz Ax K I G eG; have T:w8.ownsRow wx.heap.size 5 1 (.slice A' (U+1) c') (U+1) (bv (Sha.eP S j)++bv ((Sha.be 4 y).take (q+1))):=by
              have e:((y / 2 ^ F % 256:Nat):Int)=(y:Int) / 2 ^ F % 256:=by
               rw [Int.natCast_emod,Int.natCast_ediv,Int.natCast_pow]; rfl
              rw [<-AJ.out,e]; exact C
             have AL:=hO (show U+1=s+(q+1) by rw [AW.out]; omega)
             have AM:=hO (show U+1<=s+4 by have:=AW.out; have:=HN.out; omega)
             clear G C K Ax; go_wp2; go_roundw
             case rel=>exact⟨q+1,U+1,A',c',HN.out,by rw [HE.out],AL,AM.out,rfl,AH,Ck,T⟩
             case measure=>exact AK.out
            .have X:q=4:=by omega
             have Y:(24 - 8 * (q:Int)) = -8:=by omega
             have AX:wr.ownsRow wx.heap.size 5 1 (.slice A9 U x) U (bv (Sha.eP S (j+1))):=by
              rw [HD.out,eu]; rw [X,List.take_of_length_le (show (Sha.be 4 y).length<=4 by rw [Sha.kV]; omega)] at G
              exact G
             have BA:=hO (show U=4 * (j+1) by rw [AW.out,B7.out,X]; omega)
             have Cl:=hO (show U<=32 by have:=BA.out; omega)
             rw [Y]; clear G X Y hq Ay; go_wp2; go_roundw
             case rel=>exact⟨j+1,U,A9,x,by omega,BA,Cl.out,by go_num,rfl,B8,Ax,AX⟩
             case measure=>simp [intOf]; omega
          .have Aj:j=8:=by omega
           have BB:s=32:=by rw [B7.out,Aj]
           have Bu:(8:Int)<=(j:Int):=by omega
           rw [Aj] at O; rw [BB] at O Am; rw [BB]; have Cm:=Al.trans (Aw.mono Al.size); go_wp2; go_ret; exact⟨A9,x,rfl,Am,by rw [B6.out]; exact aG O Al.size,Cm⟩
end
section
open Go.RowKit Mem
def fvN:List Nat:=[7640891576956012808,13503953896175478587,4354685564936845355,11912009170470909681,5840696475078001361,11170449401992604703,2270897969802886507,6620516959819538809]
def fvL:List Value:=fvN.map fun x:Nat=>Value.int .u64 (x:Int)
theorem fv_ok:FirstOk Sha.ffL fvL:=by
 refine⟨rfl,fun j A=>?_⟩
 have:j=0\/j=1\/j=2\/j=3\/j=4\/j=5\/j=6\/j=7:=by omega
 rcases this with rfl|rfl|rfl|rfl|rfl|rfl|rfl|rfl
 .exact⟨7640891576956012808,rfl,by decide,by decide⟩
 .exact⟨13503953896175478587,rfl,by decide,by decide⟩
 .exact⟨4354685564936845355,rfl,by decide,by decide⟩
 .exact⟨11912009170470909681,rfl,by decide,by decide⟩
 .exact⟨5840696475078001361,rfl,by decide,by decide⟩
 .exact⟨11170449401992604703,rfl,by decide,by decide⟩
 .exact⟨2270897969802886507,rfl,by decide,by decide⟩
 .exact⟨6620516959819538809,rfl,by decide,by decide⟩
theorem size_B8:(prog.info? 282).map (·.size)=some 8:=by kernel_rfl
def sX (x v:Value):Sem Unit:=Instr.storeAt 282 x v
theorem pN(x v:Value):Instr.storeAt 282 x v=sX x v:=rfl
attribute [go_sem ↓] pN
theorem store_B8{w:World} {g:Nat} {cs vs:List Value} {t:TypeId} (h:Blk w g cs t) (A:cs.length=8) (B:vs.length=8) (D:∀ v∈vs,v.oneCell'=true) :
  (sX (.pointer (some ⟨g,0,none⟩)) (.agg vs.toArray)).run prog w=.ok () (w.setCells g 0 vs)/\Blk (w.setCells g 0 vs) g vs t:=by
 have E:=bE (P:=prog) w 282 g 0 8 size_B8 vs.toArray ⟨by simpa using B,by simpa using D⟩ (ev h A) (fun j _=>h.froz _)
 have C:=iy vs w g 0 cs t h (by omega)
 simp [B,<-A] at C
 exact⟨E,C⟩
theorem fvL_one:∀ v∈fvL,v.oneCell'=true:=by
 intro v A
 simp only [fvL,List.mem_map] at A
 obtain⟨x,_,rfl⟩:=A
 rfl
theorem pfirst_any(w:World):Calls prog 268 #[] w fun e w'=>e=.returned (.agg fvL.toArray)/\eD w w':=by
 have G:=Blk.new w (wv (List.replicate 8 0)) 282
 obtain⟨A,B⟩:=store_B8 G rfl (vs:=fvL) rfl fvL_one
 obtain⟨E,C⟩:=eA ((w.alloc (.cells (wv (List.replicate 8 0)).toArray 282)).setCells w.heap.size 0 fvL)
 have D:Chg [] w E:=by rw [<-C]; exact((Chg.refl _ _).alloc _).setCells _ (.inr eG)
 rw [C] at A B
 have H:=D.below (fun _ h=>by cases h)
 have F:Has E w.heap.size 0 8:=ev B rfl
 have I:=lr B (n:=8) rfl
 have A:(sX (.pointer (some ⟨w.heap.size,0,none⟩)) (.agg #[.int .u64 7640891576956012808,.int .u64 13503953896175478587,.int .u64 4354685564936845355,.int .u64 11912009170470909681,.int .u64 5840696475078001361,.int .u64 11170449401992604703,.int .u64 2270897969802886507,.int .u64 6620516959819538809])).run prog (w.alloc (.cells #[.int .u64 0,.int .u64 0,.int .u64 0,.int .u64 0,.int .u64 0,.int .u64 0,.int .u64 0,.int .u64 0] 282))=.ok () E:=A
 clear C D G
 go_enter func268,ntmps268
 go_wp2
 refine bodyPost_ret (dr (P:=prog) Tryz.results268 _ _ w.heap.size 0 8 _ rfl underlying282 rfl size_B8 F) rfl ?_
 exact⟨by rw [I],H⟩
theorem psum256_any(A:Option Addr) (n c:Nat) (d:List UInt8) (w:World) (hd:Bs w w.heap.size A n d) (E:n<=1000000) (F:Tab Sha.kkL w) :
  Calls prog 226 #[.slice A n c] w fun e w'=>∃ C B,e=.returned (.slice C 32 B)/\32<=B/\w'.ownsRow w.heap.size 5 1 (.slice C 32 B) 32 (bv (Sha.oq d))/\eD w w':=by
 have D:=psum_any qq rfl Sha.kkL Sha.ffL A c n d w hd E F rfl (by unfold Sha.ee Sha.ffL; decide) fvL fv_ok (fun G=>pfirst_any G)
 have e:Sha.sum Sha.kkL Sha.ffL d=Sha.oq d:=rfl
 rw [e] at D
 generalize Sha.oq d=S at *
 clear e
 unfold qq at D
 go_enter func226,ntmps226
 go_wp2_with fail
 refine D.mono ?_
 rintro e K ⟨C,B,rfl,H,I,J⟩
 go_wp2
 go_ret
 exact⟨C,B,rfl,H,I,J⟩
theorem r8(a:Nat) (h:a<16) (w:World):(Instr.index 9 (.string ⟨#[48,49,50,51,52,53,54,55,56,57,97,98,99,100,101,102]⟩) (.int .u8 (a:Int))).run prog w=.ok (.int .u8 (((Sha.cY a).toNat:Nat):Int)) w:=by
 have key:∀ a:Fin 16,∃ h:((a.1:Int)).toNat<(⟨#[48,49,50,51,52,53,54,55,56,57,97,98,99,100,101,102]⟩:ByteArray).size,(⟨#[48,49,50,51,52,53,54,55,56,57,97,98,99,100,101,102]⟩:ByteArray)[((a.1:Int)).toNat]'h=Sha.cY a.1:=by decide
 obtain⟨C,A⟩:=key ⟨a,h⟩
 have B:(0:Int)<=(a:Int)/\(a:Int)<((⟨#[48,49,50,51,52,53,54,55,56,57,97,98,99,100,101,102]⟩:ByteArray).size:Int):=⟨by omega,by show (a:Int)<16; omega⟩
 refine(run_index_string _ _ _ _ _ underlying9).trans ?_
 rw [dif_pos B]
 exact congrArg (fun b:UInt8=>Result.ok (Value.int .u8 (b.toNat:Int)) w) A
theorem and15(x:Nat) (h:x<256):bits .and .u8 (x:Int) 15=((x % 16:Nat):Int):=by
 have:=u8_and_nat x 15 h (by omega)
 rw [show ((15:Nat):Int)=15 from rfl] at this
 rw [this]
 congr 1
 exact Nat.and_two_pow_sub_one_eq_mod x 4
theorem pname_any(Z:Option Addr) (n c:Nat) (d:List UInt8) (w:World) (hd:Bs w w.heap.size Z n d) (hn:n<=1000000) (hT:Tab Sha.kkL w) :
  Calls prog 197 #[.slice Z n c] w fun e w'=>e=.returned (.string (str (Sha.ij d)))/\eD w w':=by
 obtain⟨i0,hi,b,f,k⟩:=al qi
 go_enter func197,ntmps197
 go_wp2_with fail
 refine(psum256_any Z n c d w hd hn hT).mono ?_
 rintro e K ⟨A,c1,rfl,h1,l,h3⟩
 obtain⟨g,rfl,Aj,o⟩:=fp l (by omega)
 have HN:=hO (show Sha.ij d=Sha.jO (Sha.oq d) 4 from rfl)
 have HL:=hO (Sha.psum_len d)
 have D:∀ j,j<32->K.cell? ⟨g,j,none⟩=some (.int .u8 (((Sha.oq d).getD j 0).toNat:Int)):=fun j hj=>by
  have hl:(Sha.oq d).length=32:=HL.out; have:=l.cells (g:=g) rfl j (.int .u8 (((Sha.oq d).getD j 0).toNat:Int)) (by rw [ol,List.getElem?_eq_getElem (by omega)]; simp [List.getD_eq_getElem?_getD,show j<(Sha.oq d).length by omega])
  rwa [aO] at this
 have HC:=hO D
 clear D l HL hd hT
 generalize Sha.oq d=S at *
 go_wp2_with fail
 go_loopw [3,5,10] (fun v _ i wx=>∃ (t m:Nat) (X:Option Addr) (Y:Nat),t<=4/\i=.int .i64 (t:Int)/\Hid (m=2 * t)/\m<=8/\v=.slice X m Y/\eD K wx/\wx.ownsRow K.heap.size 5 1 (.slice X m Y) m (bv (Sha.jO S t))) (fun _ _ i _=>4 - (intOf i).toNat)
 case atStart=>exact⟨0,0,none,0,by omega,rfl,hO rfl,by omega,rfl,Below.refl _ _,World.ownsRow_nil _ _ _ _⟩
 case round =>
  obtain⟨t,m,X,Y,ht,rfl,HM,hm,rfl,N,C⟩:=hrel; obtain⟨L,s⟩:∃ L,L=wr:=⟨_,rfl⟩; subst s; by_cases Ak:t<4
  .have y:=(N.cell (p:=⟨g,t,none⟩) o).trans (HC.out t (by omega))
   have z:=hO (sa S t); have hx:=(S.getD t 0).toNat_lt; generalize (S.getD t 0).toNat=x at *; have I:x<256:=hx; have ha:=and15 x I; have O:(x:Int) / 16=((x / 16:Nat):Int):=by omega
   obtain⟨q,hq⟩:=eA (x / 16); obtain⟨r,hr⟩:=eA (x % 16); have Aa:q<16:=by omega
   have Ab:r<16:=by omega
   rw [hq] at O z; rw [hr] at ha z; have Ac:=fun W=>r8 q Aa W; have Ae:=fun W=>r8 r Ab W; have e1:[Sha.cY q,Sha.cY r]=[Sha.cY q,Sha.cY r]:=rfl; have Af:m+2<=maxLen:=by unfold maxLen; omega
   clear hq hr hx; go_upto_region 5 with fail
   refine eL [0] [1,2,3,4,5,6] 7 (by kernel_rfl) (by kernel_rfl) ?_; simp only [pick,List.getD_cons_zero,List.getD_cons_succ,List.drop_succ_cons,List.drop_zero]; repeat (go_big_quiet_step (fail))
   refine wpQuiet_nil ?_; repeat (go_big_quiet_step (fail))
   refine wpQuiet_nil ?_; rintro _ ⟨p,rfl⟩; have hg:=aa L p; have E:=dN C hg; have G:eD K (ab L p):=N.trans (hg.mono N.size); clear C N hg y ha O Ac Ae e1; generalize ab L p=M at *; have H:Vs (M.alloc (.cells #[.int .u8 (((Sha.cY q).toNat:Nat):Int),.int .u8 (((Sha.cY r).toNat:Nat):Int)] 5)) (M.alloc (.cells #[.int .u8 (((Sha.cY q).toNat:Nat):Int),.int .u8 (((Sha.cY r).toNat:Nat):Int)] 5)).heap.size 1 (some ⟨M.heap.size,0,none⟩) 2 (bv [Sha.cY q,Sha.cY r]) :=
    ⟨rfl,fun j u hj=>⟨_,rfl,by simp,by rw [aO]; exact((Blk.new M (bv [Sha.cY q,Sha.cY r]) 5).cell j).trans hj⟩⟩
   have J:K.heap.size<=(M.alloc (.cells #[.int .u8 (((Sha.cY q).toNat:Nat):Int),.int .u8 (((Sha.cY r).toNat:Nat):Int)] 5)).heap.size:=by have:=G.size; simp; omega
   have B:=E.alloc (.cells #[.int .u8 (((Sha.cY q).toNat:Nat):Int),.int .u8 (((Sha.cY r).toNat:Nat):Int)] 5); have Q:=G.alloc G.size (.cells #[.int .u8 (((Sha.cY q).toNat:Nat):Int),.int .u8 (((Sha.cY r).toNat:Nat):Int)] 5); go_wp2_with (at_builtin; go_must (refine au (M.alloc (.cells #[.int .u8 (((Sha.cY q).toNat:Nat):Int),.int .u8 (((Sha.cY r).toNat:Nat):Int)] 5)) rfl (.tmp 14) (.tmp 21) 62 rfl K.heap.size 5 i0 (.int .u8 0) 1 1 underlying62 hi b f k rfl (by omega) _ _ _ rfl B _ _ 2 _ _ rfl H (iu _) Af (by omega) J ?_))
   intro A' c' w8 F Al Am R; have Ag:=Mem.ay Q R J B; have HZ:=hO (show Sha.jO S t++[Sha.cY q,Sha.cY r]=Sha.jO S (t+1) by rw [z.out,List.append_assoc]; rfl)
   rw [<-eu,HZ.out] at F; have Ah:=hO (show m+2=2 * (t+1) by rw [HM.out]; omega)
   have Ai:=hO (show m+2<=8 by have:=HM.out; omega)
   clear E R H B Q J G; go_wp2; (try rw [am])
   (try go_wp2)
   go_roundw
   case rel=>exact⟨t+1,m+2,A',c',by omega,by go_num,Ah,Ai.out,rfl,Ag,F⟩
   case measure=>simp [intOf]; omega
  .have T:t=4:=by omega
   have U:=fun W (h:Bs W W.heap.size X m (Sha.jO S t))=>run_string (P:=prog) h 62 5 9 Y underlying62 underlying5 underlying9; have V:=U L (Bs.of_own C); have An:(4:Int)<=(t:Int):=by omega
   have HE:=hO (show str (Sha.jO S t)=str (Sha.ij d) by rw [HN.out,T]); rw [HE.out] at V; clear T U C; go_wp2_with fail
   go_ret; exact⟨rfl,h3.trans (N.mono h3.size)⟩
end
section
open Go.RowKit Mem Led
theorem str_beq2(a b:List UInt8):(str a==str b)=(a==b):=by
 by_cases h:a=b
 .subst h
  rw [(Go.MapKept.bytes_beq _ _).2 rfl,beq_self_eq_true]
 .have A:(str a==str b)=false:=by
   cases B:(str a==str b)
   .rfl
   .exact absurd (sS ((Go.MapKept.bytes_beq _ _).1 B)) h
  rw [A,beq_eq_false_iff_ne.2 h]
def iB:Nat->List Txt->List MapEntry
 | _,[]=>[]
 | i,k::r=>{ key:=.string (str k),val:=.int .i64 1,born:=i }::iB (i+1) r
theorem qs:∀ (i:Nat) (l:List Txt) (k:Txt),iB i (l++[k])=iB i l++[{ key:=.string (str k),val:=.int .i64 1,born:=i+l.length }]
 | i,[],k=>by simp [iB]
 | i,k'::r,k=>by
  have ih:=qs (i+1) r k; simp only [List.cons_append,iB,ih,List.length_cons]; congr 4
  omega
theorem iO(k:Txt):∀ (i j:Nat) (l:List Txt),Instr.findNow .string (.string (str k)) (iB i l) j=some ((l.findIdx? fun p=>k==p).map fun n=>(j+n,.int .i64 1))
 | i,j,[]=>rfl
 | i,j,k'::r=>by
  have ih:=iO k (i+1) (j+1) r; simp only [iB,Instr.findNow,Instr.sameNow,str_beq2]; by_cases h:k=k'
  .subst h
   simp [List.findIdx?_cons]
  .have A:(k==k')=false:=by simp [h]
   simp only [A,ih,List.findIdx?_cons]; congr 1
   cases B:List.findIdx? (fun p:Txt=>k==p) r with
   | none=>simp
   | some n=>simp [Nat.add_assoc,Nat.add_comm 1 n]
def jg (l:List Txt):Obj:=.map (iB 0 l).toArray l.length
def kp (w:World) (r:Nat) (l:List Txt):World:={ w with heap:=w.heap.setIfInBounds r (jg l) }
theorem setMap_at{w:World} {r:Nat} (l:List Txt) (h:r<w.heap.size):(kp w r l).heap[r]?=some (jg l):=by
 show (w.heap.setIfInBounds r (jg l))[r]?=_
 rw [Array.getElem?_setIfInBounds_self_of_lt h]
theorem s9{w:World} {r g:Nat} (l:List Txt) (h:g≠r):(kp w r l).heap[g]?=w.heap[g]?:=by
 show (w.heap.setIfInBounds r (jg l))[g]?=_
 rw [Array.getElem?_setIfInBounds_ne (Ne.symm h)]
theorem ta{w0 w:World} {B r:Nat} (l:List Txt) (A:Below B w0 w) (h:B<=r):Below B w0 (kp w r l) :=
 ⟨A.os,A.tape,A.output,by show _<=(w.heap.setIfInBounds r (jg l)).size; rw [Array.size_setIfInBounds]; exact A.size,fun i hi=>by rw [s9 l (by omega)]; exact A.block i hi⟩
theorem rH{P:Program} (w:World) (r:Nat) (l:List Txt) (k:Txt) (t C D:TypeId) (ht:P.underlying t=some (.map C D)) (E:P.underlying C=some .string) (G:(zeroValue D).run P w=.ok (.int .i64 0) w) (H:w.heap[r]?=some (jg l)) :
  (Instr.lookup t (.map (some r)) (.string (str k)) false).run P w=.ok (.int .i64 (if k∈l then 1 else 0)) w:=by
 have I:=Go.MapKept.run_getObj_map (P:=P) (w:=w) (r:=r) (es:=(iB 0 l).toArray) (clock:=l.length) H
 have J:=Go.MapKept.run_checkKey (P:=P) (w:=w) E (k:=.string (str k)) trivial (iB 0 l).toArray.isEmpty 9999
 have K:=Go.MapKept.run_findKey (P:=P) (w:=w) E (iO k 0 0 l)
 unfold Instr.lookup
 simp only [Sem.run_bind,run_underlying ht,Result.andThen_ok,I,J,K,Sem.run_pure]
 cases F:List.findIdx? (fun p:Txt=>k==p) l with
 | none =>
  have A:k∉l:=fun B=>by
   have:=List.findIdx?_eq_none_iff.1 F k B; simp at this
  simp [G,A]
 | some n =>
  have B:k∈l:=by
   obtain⟨A,h,_⟩:=List.findIdx?_eq_some_iff_getElem.1 F; have:k=l[n]:=by simpa using h
   rw [this]; exact List.getElem_mem A
  simp [B]
theorem run_updS{P:Program} (w:World) (r:Nat) (l:List Txt) (k:Txt) (t A E:TypeId) (ht:P.underlying t=some (.map A E)) (B:P.underlying A=some .string) (F:k∉l) (C:w.heap[r]?=some (jg l)) :
  (Instr.mapUpdate t (.map (some r)) (.string (str k)) (.int .i64 1)).run P w=.ok () (kp w r (l++[k])):=by
 have G:=Go.MapKept.run_getObj_map (P:=P) (w:=w) (r:=r) (es:=(iB 0 l).toArray) (clock:=l.length) C
 have H:=Go.MapKept.run_checkKey (P:=P) (w:=w) B (k:=.string (str k)) trivial false 9999
 have I:Instr.findNow .string (.string (str k)) (iB 0 l) 0=some none:=by
  rw [iO,List.findIdx?_eq_none_iff.2 (fun x hx=>by simp; intro e; exact F (e▸hx))]
  rfl
 have J:=Go.MapKept.run_findKey (P:=P) (w:=w) B I
 have D:=Go.MapKept.run_setObj_map (P:=P) (w:=w) (r:=r) (.map ((iB 0 l).toArray.push { key:=.string (str k),val:=.int .i64 1,born:=l.length }) (l.length+1)) C
 have K:{ w with heap:=w.heap.setIfInBounds r (.map ((iB 0 l).toArray.push { key:=.string (str k),val:=.int .i64 1,born:=l.length }) (l.length+1)) }=kp w r (l++[k]):=by
  unfold kp jg; rw [qs]; simp only [Nat.zero_add,List.push_toArray,List.length_append,List.length_cons,List.length_nil]
 rw [K] at D
 unfold Instr.mapUpdate
 simp only [Sem.run_bind,run_underlying ht,Result.andThen_ok,G,H,J,D]
end
section
open Go.RowKit Mem Led
namespace Led
def eS (b:Bundle):Bool:=Ids.domain b.domain&&aI b.number 0 1099511627776&&decide (b.keys.length<=8)&&b.keys.all (fun k=>k.x.length==32&&k.kid==Sha.ij k.x)&&decide (b.keys.map Jwk.kid).Nodup
end Led
theorem ph:(prog.info? 54).map (·.size)=some 2:=by kernel_rfl
def qa (x:Value):Sem Value:=Instr.loadAt 54 x
def stJwk (x v:Value):Sem Unit:=Instr.storeAt 54 x v
theorem named_ldJwk(x:Value):Instr.loadAt 54 x=qa x:=rfl
theorem named_stJwk(x v:Value):Instr.storeAt 54 x v=stJwk x v:=rfl
attribute [go_sem ↓] named_ldJwk named_stJwk
theorem mR{w:World} {g:Nat} {cs vs:List Value} {t:TypeId} (h:Blk w g cs t) (A:cs.length=2) (B:vs.length=2) (D:∀ v∈vs,v.oneCell'=true) :
  (stJwk (.pointer (some ⟨g,0,none⟩)) (.agg vs.toArray)).run prog w=.ok () (w.setCells g 0 vs)/\Blk (w.setCells g 0 vs) g vs t:=by
 have E:=bE (P:=prog) w 54 g 0 2 ph vs.toArray ⟨by simpa using B,by simpa using D⟩ (ev h A) (fun j _=>h.froz _)
 have C:=iy vs w g 0 cs t h (by omega)
 simp [B,<-A] at C
 exact⟨E,C⟩
theorem p8{w:World} {A:Option Addr} {n:Nat} {L:List Led.Jwk} (h:Es aV 2 w A n L) {i:Nat} (hi:i<L.length) :
  ∃ b B,A=some ⟨b,B,none⟩/\b<w.heap.size/\∀ w',eD w w'->(qa (.pointer (some ⟨b,B+i * 2,none⟩))).run prog w'=.ok (.agg (aV L[i]).toArray) w' :=
 iA underlying54 rfl ph cm (by omega) h hi
theorem lP(k:Led.Jwk):∀ u∈aV k,u.oneCell'=true:=by
 intro u A
 simp [aV,tx] at A
 rcases A with rfl|rfl <;> rfl
theorem may_any(b:Led.Bundle) (kv:Value) (w:World) (Ar:a8 aV 2 w kv b.keys) (hd:b.domain.length<=9223372036854775807) (hk:b.keys.length<=1000) (As:∀ k∈b.keys,k.kid.length<=1000000/\k.x.length<=1000000) (hT:Tab Sha.kkL w) :
  Calls prog 176 #[.agg (ai (b,kv)).toArray] w fun e w'=>e=.returned (.bool (Led.eS b))/\eD w w':=by
 obtain⟨A,n,c,rfl,hf,hv⟩:=Ar
 have hl:=hv.len cm (by omega)
 obtain⟨W,hW⟩:=eA (w.alloc (.cells ([.string (str b.domain),.int .i64 b.number,.slice A n c]:List Value).toArray 45))
 have B:Blk W w.heap.size [.string (str b.domain),.int .i64 b.number,.slice A n c] 45:=by rw [<-hW]; exact Blk.new _ _ _
 have F:eD w W:=eF hW
 have K:=domain_any b.domain W hd
 have c0:W.cell? ⟨w.heap.size,0,none⟩=some (.string (str b.domain)):=B.cell 0
 have HW:=hO hW
 have At:∀ o,eD w (W.alloc o):=fun o=>F.alloc F.size _
 clear hW
 show Calls prog 176 #[.agg #[.string (str b.domain),.int .i64 b.number,.slice A n c]] w _
 by_cases E:(Ids.domain b.domain&&aI b.number 0 1099511627776&&decide (b.keys.length<=8))=true
 .simp only [Bool.and_eq_true,decide_eq_true_eq] at E
  obtain⟨⟨T,l⟩,h3⟩:=E; rw [T] at K; have AD:0<=b.number/\b.number<=1099511627776:=by unfold aI at l; simpa using l
  have Au:n<=8:=by omega
  have m:Hid (Led.eS b=(b.keys.all (fun k=>k.x.length==32&&k.kid==Sha.ij k.x)&&decide (b.keys.map Jwk.kid).Nodup)):=hO (by
   unfold Led.eS; rw [T,l,decide_eq_true h3]; rfl)
  clear T l; go_enter func176,ntmps176
  go_upto_region 1 with fail
  rw [show w.alloc (.cells #[.string (str b.domain),.int .i64 b.number,.slice A n c] 45)=W from HW.out]; go_wp2_with fail
  refine K.mono ?_; rintro e D ⟨rfl,G⟩; have U:=B.below G; have d1:D.cell? ⟨w.heap.size,1,none⟩=some (.int .i64 b.number):=U.cell 1; have d2:D.cell? ⟨w.heap.size,2,none⟩=some (.slice A n c):=U.cell 2; have V:eD w D:=F.trans (G.mono F.size); clear K c0; have hm:=@run_makeMap prog; have BM:Blk (D.alloc (.map #[] 0)) w.heap.size [.string (str b.domain),.int .i64 b.number,.slice A n c] 45:=U.alloc _; have e2:(D.alloc (.map #[] 0)).cell? ⟨w.heap.size,2,none⟩=some (.slice A n c):=BM.cell 2; have Ab:eD w (D.alloc (.map #[] 0)):=V.alloc V.size _; have Ac:(D.alloc (.map #[] 0)).heap[D.heap.size]?=some (jg ((b.keys.take 0).map Jwk.kid)):=heap_alloc_new D _; have Av:w.heap.size<=D.heap.size:=V.size; go_wp2_with fail
  obtain⟨wM,Ai⟩:=eA (D.alloc (.map #[] 0)); rw [Ai] at Ac Ab ⊢; have Aj:=hO Ac; clear Ai BM e2 Ac d1 d2 U At F B HW hm; go_loopw [5,30] (fun _ i wx=>∃ j:Nat,j<=n/\i=.int .i64 (j:Int)/\eD w wx/\Hid (wx.heap[D.heap.size]?=some (jg ((b.keys.take j).map Jwk.kid))/\(b.keys.take j).all (fun k=>k.x.length==32&&k.kid==Sha.ij k.x)=true/\((b.keys.take j).map Jwk.kid).Nodup)) (fun _ i _=>n - (intOf i).toNat)
  case atStart=>exact⟨0,by omega,rfl,Ab,hO ⟨Aj.out,rfl,List.nodup_nil⟩⟩
  case round =>
   clear Aj Ab; obtain⟨j,hj,rfl,q,f⟩:=hrel; obtain⟨wx,Aw⟩:∃ wx,wx=wr:=⟨_,rfl⟩; subst Aw; by_cases AE:j<n
   .have r:j<b.keys.length:=by omega
    obtain⟨bk,ok,rfl,AF,Ak⟩:=p8 hv r; have y:=Ak wx q; have AA:=As _ (List.getElem_mem r); have O:=hO (show b.keys.take (j+1)=b.keys.take j++[b.keys[j]] by rw [List.take_add_one,List.getElem?_eq_getElem r]; rfl)
    have z:=hO (List.getElem_mem r); generalize b.keys[j]=k at *; have bn:=Blk.new wx [.string ⟨#[]⟩,.string ⟨#[]⟩] 54; obtain⟨Ad,BK⟩:=mR bn rfl (vs:=[.string (str k.kid),.string (str k.x)]) rfl (lP k); obtain⟨L,Ae⟩:=eA ((wx.alloc (.cells ([.string ⟨#[]⟩,.string ⟨#[]⟩]:List Value).toArray 54)).setCells wx.heap.size 0 [.string (str k.kid),.string (str k.x)]); have Al:Chg [] wx L:=by rw [<-Ae]; exact((Chg.refl _ _).alloc _).setCells _ (.inr eG)
    rw [Ae] at Ad BK; have Am:=Al.below (fun _ h=>by cases h); have H:eD w L:=q.trans (Am.mono q.size); have Ax:(qa (.pointer (some ⟨bk,ok+j * 2,none⟩))).run prog wx=.ok (.agg #[.string (str k.kid),.string (str k.x)]) wx:=y; have AB:(stJwk (.pointer (some ⟨wx.heap.size,0,none⟩)) (.agg #[.string (str k.kid),.string (str k.x)])).run prog (wx.alloc (.cells #[.string ⟨#[]⟩,.string ⟨#[]⟩] 54))=.ok () L:=Ad; have AG:(j:Int)<(n:Int):=by omega
    have AH:=aJ k.x; have f0:∀ p,(ab L p).cell? ⟨wx.heap.size,0,none⟩=some (.string (str k.kid)):=fun p=>(BK.below (aa L p)).cell 0; have f1:∀ p,(ab L p).cell? ⟨wx.heap.size,1,none⟩=some (.string (str k.x)):=fun p=>(BK.below (aa L p)).cell 1; have An:L.heap[D.heap.size]?=some (jg ((b.keys.take j).map Jwk.kid)):=by
     have Ao:D.heap.size<wx.heap.size:=(Array.getElem?_eq_some_iff.1 f.out.1).1; rw [Am.block _ Ao]; exact f.out.1
    have X:=hO An; clear Ak y Ad bn Al Ae An; by_cases Y:k.x.length=32
    .have Ay:((k.x.length:Int) != 32)=false:=by simp; omega
     have Q:Hid (∀ p,(Instr.lookup 209 (.map (some D.heap.size)) (.string (str k.kid)) false).run prog (ab L p)=.ok (.int .i64 (if k.kid∈(b.keys.take j).map Jwk.kid then 1 else 0)) (ab L p)):=hO fun p =>
      rH (ab L p) D.heap.size _ k.kid _ _ _ underlying209 underlying9 (by kernel_rfl) (by rw [(aa L p).block _ (Array.getElem?_eq_some_iff.1 X.out).1]; exact X.out)
     have C:Hid (∀ (g c:Nat) (M:World),eD L M->Bs M M.heap.size (some ⟨g,0,none⟩) 32 k.x->Calls prog 197 #[.slice (some ⟨g,0,none⟩) 32 c] M fun e w'=>e=.returned (.string (str (Sha.ij k.x)))/\eD M w'):=hO fun g c M hb h =>
      pname_any (some ⟨g,0,none⟩) 32 c k.x M h (by omega) (hT.below (H.trans (hb.mono H.size)))
     obtain⟨nm,Af⟩:=eC (Sha.ij k.x); rw [Af.out] at C; have C:Hid (∀ (g c:Nat) (M:World),eD L M->Bs M M.heap.size (some ⟨g,0,none⟩) 32 k.x->Calls prog 197 #[.slice (some ⟨g,0,none⟩) 32 c] M (fun x Az=>∃ v,x=.returned v/\GR M Az/\v=.string (str nm))):=hO fun g c M T l=>(C.out g c M T l).mono fun e w' ⟨he,hb⟩=>⟨_,he,GR.of hb,rfl⟩; obtain⟨cnt,N⟩:∃ cnt:Int,Hid ((if k.kid∈(b.keys.take j).map Jwk.kid then 1 else 0:Int)=cnt):=⟨_,hO rfl⟩; rw [N.out] at Q; obtain⟨Z,Aa⟩:∃ Z:Bool,Hid ((!(k.kid==nm)||decide (0<cnt))=Z):=⟨_,hO rfl⟩; have Q:=Q.out; go_upto_region 7 with fail
     refine aN [([0,1,2,3,4,5,6,7,8],(9,fun v w'=>∃ g c,v=.slice (some ⟨g,0,none⟩) 32 c/\Bs w' w'.heap.size (some ⟨g,0,none⟩) 32 k.x)),([],(10,fun v w'=>v=.string (str (nm)))),([11,12,13,14,15,16,17,18],(19,fun v w'=>v=.bool Z))] [] (by kernel_rfl) (by kernel_rfl) (by
      intro x hx; simp only [List.mem_cons,List.not_mem_nil,or_false] at hx; rcases hx with rfl|rfl|rfl
      .exact ax fun v w w' hb ⟨g,c,e,h⟩=>⟨g,c,e,dF h hb⟩
      .exact ax fun v w w' hb h=>h
      .exact ax fun v w w' hb h=>h) ?_
     refine aH ?_; simp only [pick,List.getD_cons_zero,List.getD_cons_succ]; repeat (go_big_quiet_step (fail))
     refine wpQuiet_nil ?_; refine⟨_,rfl,rfl,?_,?_⟩
     .intro w5 s _
      obtain⟨wc,cc,A0,t,A1⟩:=kO k.x w5; rw [Y] at A0 t; go_simp
      exact⟨GR.of A1,_,⟨cc,rfl⟩,t⟩
     rintro v1 ⟨_,g1,c1,rfl,_⟩; refine aH ?_; simp only [pick,List.getElem_toArray,List.getElem_cons_succ,List.getElem_cons_zero,Act.put,List.setIfInBounds_toArray,List.set_cons_zero,List.set_cons_succ]; refine wpQuiet_nil ?_; refine⟨_,rfl,rfl,?_,?_⟩
     .rintro w5 s ⟨_,g2,c2,he,t⟩
      injection he with he1 he2 he3
      injection he1 with he1
      injection he1 with he1
      subst he1; go_simp
      exact⟨rfl,C.out g1 _ w5 s.below t⟩
     rintro v2 ⟨_,rfl⟩; refine aH ?_; simp only [pick,List.getD_cons_zero,List.getD_cons_succ,List.getElem_toArray,List.getElem_cons_succ,List.getElem_cons_zero,Act.put,List.setIfInBounds_toArray,List.set_cons_zero,List.set_cons_succ]
     cases u:(k.kid==nm)
     .have J:Hid (Led.eS b=false):=hO (by
       rw [m.out]; have:b.keys.all (fun k=>k.x.length==32&&k.kid==Sha.ij k.x)=false:=by
        rw [List.all_eq_false]; exact⟨k,z.out,by rw [Af.out,u]; simp⟩
       rw [this]; rfl)
      have Ag:Z=true:=by rw [<-Aa.out,u]; rfl
      subst Ag; repeat (go_big_quiet_step (fail))
      refine wpQuiet_nil ?_; refine⟨_,rfl,rfl,?_,?_⟩
      .intro w5 s _
       go_simp
       exact⟨GR.of (Below.refl _ _),by simp⟩
      rintro v3 ⟨_,rfl⟩ w6 R hF; have S:=H.trans (R.below.mono H.size); clear f0 f1 Q C f O hF R; go_wp2_with fail
      (try rw [am])
      (try go_wp2_with fail)
      go_ret; exact⟨by rw [J.out]; rfl,S⟩
     .have Ag:Z=decide (0<cnt):=by rw [<-Aa.out,u]; rfl
      subst Ag; repeat (go_big_quiet_step (fail))
      refine wpQuiet_nil ?_; refine⟨_,rfl,rfl,?_,?_⟩
      .intro w5 s _
       go_simp
       exact⟨GR.of (Below.refl _ _),by simp⟩
      rintro v3 ⟨_,rfl⟩ w6 R hF; have Ah:=R.below; have S:=H.trans (Ah.mono H.size); have A2:=BK.below Ah; have d:w6.heap[D.heap.size]?=some (jg ((b.keys.take j).map Jwk.kid)):=by
       rw [Ah.block _ (Array.getElem?_eq_some_iff.1 X.out).1]; exact X.out
      by_cases I:k.kid∈(b.keys.take j).map Jwk.kid
      .have J:Hid (Led.eS b=false):=hO (by
        rw [m.out]; have:¬ (b.keys.map Jwk.kid).Nodup:=fun hn=>by
         have e:b.keys.map Jwk.kid=(b.keys.take (j+1)).map Jwk.kid++(b.keys.drop (j+1)).map Jwk.kid:=by rw [<-List.map_append,List.take_append_drop]
         rw [e,O.out,List.map_append] at hn; have l:=(List.nodup_append.1 hn).1; exact(List.nodup_append.1 l).2.2 _ I _ (by simp) rfl
        rw [decide_eq_false this,Bool.and_false])
       have A3:cnt=1:=by rw [<-N.out,if_pos I]
       subst A3; clear f0 f1 Q C f O hF R d I; go_wp2_with fail
       (try rw [am])
       (try go_wp2_with fail)
       go_ret; exact⟨by rw [J.out]; rfl,S⟩
      .have A4:cnt=0:=by rw [<-N.out,if_neg I]
       subst A4; have AI:w6.cell? ⟨wx.heap.size,0,none⟩=some (.string (str k.kid)):=A2.cell 0; have A5:=rH (P:=prog) w6 D.heap.size _ k.kid _ _ _ underlying209 underlying9 (by kernel_rfl) d; rw [if_neg I] at A5; have AJ:=run_updS (P:=prog) w6 D.heap.size _ k.kid _ _ _ underlying209 underlying9 I d; have Ap:=(Array.getElem?_eq_some_iff.1 d).1; have A6:=ta ((b.keys.take j).map Jwk.kid++[k.kid]) S Av; have A7:=hO (show (kp w6 D.heap.size ((b.keys.take j).map Jwk.kid++[k.kid])).heap[D.heap.size]?=some (jg ((b.keys.take (j+1)).map Jwk.kid))/\(b.keys.take (j+1)).all (fun k=>k.x.length==32&&k.kid==Sha.ij k.x)=true/\((b.keys.take (j+1)).map Jwk.kid).Nodup by
        rw [O.out,List.map_append]; refine⟨setMap_at _ Ap,?_,?_⟩
        .rw [List.all_append,f.out.2.1]
         simp [Y,Af.out,u]
        .exact jH f.out.2.2 I)
       clear f0 f1 Q C f O hF R d I X N; generalize kp w6 D.heap.size ((b.keys.take j).map Jwk.kid++[k.kid])=wU at *; go_wp2_with fail
       (try rw [am])
       (try go_wp2_with fail)
       go_roundw
       case rel=>exact⟨j+1,by omega,by go_num,A6,A7⟩
       case measure=>simp [intOf]; omega
    .have Ay:((k.x.length:Int) != 32)=true:=by simp; omega
     have J:Hid (Led.eS b=false):=hO (by
      rw [m.out]; have:b.keys.all (fun k=>k.x.length==32&&k.kid==Sha.ij k.x)=false:=by
       rw [List.all_eq_false]; exact⟨k,z.out,by simp [Y]⟩
      rw [this]; rfl)
     clear f O; go_upto_region 7 with fail
     refine az ?_; repeat (go_big_quiet_step (fail))
     refine wpQuiet_nil ?_; rintro _ ⟨p,rfl⟩; have A8:=aa L p; have S:=H.trans (A8.mono H.size); clear f0 f1; go_wp2_with fail
     go_ret; exact⟨by rw [J.out]; rfl,S⟩
   .have Aq:j=n:=by omega
    have A9:Hid (Led.eS b=true):=hO (by
     rw [m.out]; have hI:=f.out; rw [Aq,<-hl,List.take_length] at hI; rw [hI.2.1,decide_eq_true hI.2.2]; rfl)
    have AC:(n:Int)<=(j:Int):=by omega
    clear Aq f; go_wp2_with fail
    go_ret; exact⟨by rw [A9.out]; rfl,q⟩
 .have J:Hid (Led.eS b=false):=hO (by
   unfold Led.eS; rw [Bool.eq_false_iff.2 E]; rfl)
  have AK:Int.ofNat n=(n:Int):=rfl; go_enter func176,ntmps176
  go_upto_region 1 with fail
  rw [show w.alloc (.cells #[.string (str b.domain),.int .i64 b.number,.slice A n c] 45)=W from HW.out]
  cases T:Ids.domain b.domain
  .rw [T] at K
   clear E T; go_wp2_with fail
   refine K.mono ?_; rintro e D ⟨rfl,G⟩; go_wp2_with fail
   go_ret; exact⟨by rw [J.out]; rfl,F.trans (G.mono F.size)⟩
  .rw [T] at K E
   by_cases l:b.number<0
   .clear E T
    go_wp2_with fail
    refine K.mono ?_; rintro e D ⟨rfl,G⟩; have U:=B.below G; have d1:D.cell? ⟨w.heap.size,1,none⟩=some (.int .i64 b.number):=U.cell 1; go_wp2_with fail
    go_ret; exact⟨by rw [J.out]; rfl,F.trans (G.mono F.size)⟩
   .by_cases h3:1099511627776<b.number
    .clear E T
     go_wp2_with fail
     refine K.mono ?_; rintro e D ⟨rfl,G⟩; have U:=B.below G; have d1:D.cell? ⟨w.heap.size,1,none⟩=some (.int .i64 b.number):=U.cell 1; go_wp2_with fail
     go_ret; exact⟨by rw [J.out]; rfl,F.trans (G.mono F.size)⟩
    .have hw:aI b.number 0 1099511627776=true:=by unfold aI; simp; omega
     have h8:¬ b.keys.length<=8:=fun h=>E (by rw [hw,decide_eq_true h]; rfl)
     have Au:(8:Int)<(n:Int):=by omega
     clear E T; go_wp2_with fail
     refine K.mono ?_; rintro e D ⟨rfl,G⟩; have U:=B.below G; have d1:D.cell? ⟨w.heap.size,1,none⟩=some (.int .i64 b.number):=U.cell 1; have d2:D.cell? ⟨w.heap.size,2,none⟩=some (.slice A n c):=U.cell 2; go_wp2_with fail
     go_ret; exact⟨by rw [J.out]; rfl,F.trans (G.mono F.size)⟩
end
end Go.Proofs.YtmbpnkacggngkaaGreatDoor
