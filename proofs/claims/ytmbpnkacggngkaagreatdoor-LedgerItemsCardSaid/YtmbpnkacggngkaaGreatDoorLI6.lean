/- LedInsert, LedDelete, LedIdx, LedWf, LedInsLaw, LedFind (put together by bundle.py: only what is needed). -/
import Derived.Shelf.RegionOpenPlain
import Derived.Test.YtmbpnkacggngkaaGreatDoorLI5
set_option maxRecDepth 100000
set_option maxHeartbeats 16000000
namespace Go.Proofs.YtmbpnkacggngkaaGreatDoor
open Batch
open Tryz
section
open Go.RowKit Mem Led
theorem fL{w:World}{g:Nat}{M:List Value}{e:TypeId}(h:Blk w g M e):w.shape? g=some (e,M.length):=by
 unfold World.shape?
 rw[h]
 simp
theorem tO{w w':World}{r:Option Nat}{g:Nat}{M':Array Value}(h:w.grownBy w' r)(C:w.heap.size<=g):w.grownBy (w'.setRow g M') r :=
 ⟨h.os,h.tape,h.output,by simp[World.setRow];exact h.size,fun k B A=>by rw[setRow_other w' g k M' (by omega)];exact h.block k B A⟩
def al(s:Txt):List Value:=[tx s]
theorem gC(s:Txt):(al s).length=1:=rfl
def fw{α:Type}(enc:α->List Value)(k:Nat)(e:TypeId)(base:Nat)(v:Value)(n:Nat)(L':List α)(w:World)(x:Ending)(w':World):Prop :=
 ∃A c,x=.returned (.slice A (n+1) c)/\w'.ownsRow base e k (.slice A (n+1) c) (n+1) (ah enc L')/\w.grownBy w' v.ownBlock/\((Value.slice A (n+1) c).ownBlock=v.ownBlock\/∃g,w.heap.size<=g/\(Value.slice A (n+1) c).ownBlock=some g)
theorem gR:(prog.info? 36).map (fun i=>(i.zero,i.size,i.bytes))=some (some (.agg #[.int .i64 0,.string ⟨#[]⟩,.string ⟨#[]⟩,.int .i64 0,.slice none 0 0]),5,72):=by kernel_rfl
theorem iszEnt:(prog.info? 36).map (·.size)=some 5:=by kernel_rfl
theorem iz:(prog.info? 40).map (fun i=>(i.zero,i.size,i.bytes))=some (some (.agg #[.string ⟨#[]⟩,.string ⟨#[]⟩,.int .i64 0,.int .i64 0,.string ⟨#[]⟩]),5,64):=by kernel_rfl
theorem iszNod:(prog.info? 40).map (·.size)=some 5:=by kernel_rfl
theorem iA:(prog.info? 45).map (fun i=>(i.zero,i.size,i.bytes))=some (some (.agg #[.string ⟨#[]⟩,.int .i64 0,.slice none 0 0]),3,48):=by kernel_rfl
theorem iszBun:(prog.info? 45).map (·.size)=some 3:=by kernel_rfl
theorem gQ:(prog.info? 9).map (fun i=>(i.zero,i.size,i.bytes))=some (some (.string ⟨#[]⟩),1,16):=by kernel_rfl
theorem iszStr:(prog.info? 9).map (·.size)=some 1:=by kernel_rfl
theorem pU{α:Type}{enc:α->List Value}{k B:Nat}(hk:∀x,(enc x).length=k)(h0:0<k){t e:TypeId}{z:Value}{iT:TypeInfo}(Ak:prog.info? e=some iT)(Al:iT.zero=some z)(Am:iT.size=k)(Aa:iT.bytes=B)(An:B<=1000)(I:(prog.info? e).map (·.size)=some k)(Ao:z.cells.size=k)(ht:prog.underlying t=some (.slice e))
  {L:List α} {x:α} {n i base g T c:Nat} {M:List Value} {w:World} (hL:L.length=n) (Az:i<n) (hn:n<=1000) (Ap:base<=g) (V:base<=w.heap.size) (hB:Blk w g M e) (hx:Blk w T (enc x) e) (Aq:T≠g) (Ar:n<=c) (As:c<=maxLen) (hM:M.length=c*k) (Au:M.take (n*k)=ah enc L) (h1:∀y∈L,∀u∈enc y,u.oneCell'=true) (Y:∀u∈enc x,u.oneCell'=true) :
  (n+1<=c->∃W1 W2,(∀ty K sc,(Builtin.copy_ #[t,t] ty #[.slice (some ⟨g,(i+1)*k,none⟩) (n-i) K,.slice (some ⟨g,i*k,none⟩) (n+1-i) sc]).run prog w.drew=.ok (goInt ((n-i:Nat):Int)) W1) /\
   (∀ty K,(Builtin.copy_ #[t,t] ty #[.slice (some ⟨g,i*k,none⟩) (n+1-i) K,.slice (some ⟨T,0,none⟩) 1 1]).run prog W1=.ok (goInt 1) W2)/\fw enc k e base (.slice (some ⟨g,0,none⟩) n c) n (L.take i++x::L.drop i) w (.returned (.slice (some ⟨g,0,none⟩) (n+1) c)) W2) /\
  (¬n+1<=c->∃G W1 W2 W3,n+1<=G/\G<=maxLen/\(∀b,prog.underlying b=some (.int .i64)->∀ty,(Builtin.append_ #[t,b] ty #[.slice (some ⟨g,0,none⟩) i c,.int .i64 ((n:Int)+1-(i:Int))]).run prog w=.ok (.slice (some ⟨w.heap.size,0,none⟩) (n+1) G) W1) /\
   (∀ty K,(Builtin.copy_ #[t,t] ty #[.slice (some ⟨w.heap.size,i*k,none⟩) (n+1-i) K,.slice (some ⟨T,0,none⟩) 1 1]).run prog W1=.ok (goInt 1) W2) /\
   (∀ty K sc,(Builtin.copy_ #[t,t] ty #[.slice (some ⟨w.heap.size,(i+1)*k,none⟩) (n-i) K,.slice (some ⟨g,i*k,none⟩) (n-i) sc]).run prog W2.drew=.ok (goInt ((n-i:Nat):Int)) W3)/\fw enc k e base (.slice (some ⟨g,0,none⟩) n c) n (L.take i++x::L.drop i) w (.returned (.slice (some ⟨w.heap.size,0,none⟩) (n+1) G)) W3):=by
 have m1:(i+1)*k=i*k+k:=Nat.succ_mul i k
 have m2:(n-i)*k=n*k-i*k:=Nat.sub_mul n i k
 have m3:i*k<=n*k:=Nat.mul_le_mul_right k (by omega)
 have m4:n*k<=c*k:=Nat.mul_le_mul_right k Ar
 have m5:(i+1)*k<=n*k:=Nat.mul_le_mul_right k (by omega)
 have m6:(n+1-i)*k=n*k+k-i*k:=by rw[Nat.sub_mul,Nat.succ_mul]
 obtain⟨A,hA⟩:=eC (ah enc (L.take i))
 obtain⟨D,hD⟩:=eC (ah enc (L.drop i))
 obtain⟨R,hR⟩:=eC (M.drop (n*k))
 obtain⟨X,hX⟩:=eC (enc x)
 have d:A.length=i*k:=by rw[<-hA,aJ hk,List.length_take,Nat.min_eq_left (by omega)]
 have Ab:D.length=(n-i)*k:=by rw[<-hD,aJ hk,List.length_drop,hL]
 have Ac:X.length=k:=by rw[<-hX];exact hk _
 have A0:R.length=c*k-n*k:=by rw[<-hR,List.length_drop,hM]
 have f:M=A++D++R:=by
  rw[<-hA,<-hD,<-aT,List.take_append_drop,<-Au,<-hR,List.take_append_drop]
 have U:ah enc (L.take i++x::L.drop i)=A++X++D:=by
  rw[aT,bM,hA,hD,hX,List.append_assoc]
 have Ad:∀u∈D,u.oneCell'=true:=by
  intro u hu;rw[<-hD] at hu;unfold ah at hu;obtain⟨r,hr,Av⟩:=List.mem_flatten.1 hu;obtain⟨y,hy,rfl⟩:=List.mem_map.1 hr;exact h1 y (List.mem_of_mem_drop hy) u Av
 rw[hX] at hx Y
 have N:∀W,Blk W g M e->∀j u,D[j]?=some u->W.cell? ((⟨g,i*k,none⟩:Addr).add j)=some u:=fun W hW j u l=>by
  rw[Addr.add_lit,hW.cell,f,List.append_assoc,List.getElem?_append_right (by omega),show i*k+j-A.length=j by omega,List.getElem?_append_left (List.getElem?_eq_some_iff.1 l).1];exact l
 have O:∀W,Blk W T X e->∀j u,X[j]?=some u->W.cell? ((⟨T,0,none⟩:Addr).add j)=some u:=fun W hW j u l=>by
  rw[Addr.add_lit,Nat.zero_add,hW.cell];exact l
 refine⟨fun C=>?_,fun C=>?_⟩
 .have m7:(n+1)*k<=c*k:=Nat.mul_le_mul_right k C
  rw[Nat.succ_mul] at m7;have Aw:k<=R.length:=by omega
  obtain⟨J,E⟩:=eC (splice M ((i+1)*k) D);obtain⟨o,F⟩:=eC (splice J (i*k) X);have q:o=A++X++D++R.drop k:=by
   have:=sr (A:=A) (D:=D) (R:=R) Ac Aw;rw[<-f,show A.length+k=(i+1)*k by omega,d,E,F] at this;exact this
  have Q:J.length=M.length:=by rw[<-E];exact length_splice _ _ _ (by omega)
  have S:o.length=M.length:=by rw[<-F,<-Q];exact length_splice _ _ _ (by omega)
  have b1:Blk w.drew g M e:=hB.drew;have b3:Blk (w.drew.setRow g J.toArray) T X e:=by
   unfold Blk;rw[setRow_other _ g T _ Aq];exact hx
  refine⟨w.drew.setRow g J.toArray,(w.drew.setRow g J.toArray).setRow g o.toArray,fun ty K sc=>?_,fun ty K=>?_,?_⟩
  .rw [<-E]
   refine jG (m:=n-i) ht I b1 ?_ Ab (N _ b1) ?_ Ad
   .simp only [Nat.min_def]
    split<;>omega
   .omega
  .rw [<-F]
   refine jG (m:=1) ht I b1.setRow ?_ (by omega) (O _ b3) ?_ Y
   .simp only [Nat.min_def]
    split<;>omega
   .omega
  .refine⟨_,c,rfl,dG Ap ((hB.drew.setRow (M':=J)).setRow) C As (by rw[S,hM]) ?_,cZ (cZ (gJ (fD _ _))),.inl rfl⟩
   rw[q,U,List.take_append_of_le_length (by simp only[List.length_append,Nat.succ_mul];omega),List.take_of_length_le (by simp only[List.length_append,Nat.succ_mul];omega)]
 .obtain⟨G,hG⟩:=eC (grownCap w (n+1) c e)
  have s:n+1<=G:=by rw[<-hG];exact grownCap_ge w _ _ _
  have Ae:G<=maxLen:=by rw[<-hG];exact grownCap_le_maxLen w _ _ _ (by unfold maxLen;omega)
  have m7:(n+1)*k<=G*k:=Nat.mul_le_mul_right k s;rw[Nat.succ_mul] at m7;have m8:(G-i)*k=G*k-i*k:=Nat.sub_mul G i k;have m9:(G-(n+1))*k=G*k-(n*k+k):=by rw[Nat.sub_mul,Nat.succ_mul]
  have Af:(Builtin.firstCells iT.size i (.slice (some ⟨g,0,none⟩) i c)).run prog w.drew=.ok A.toArray w.drew:=by
   rw[Am];exact run_firstCells_some w.drew k i ⟨g,0,none⟩ i c A d (fun j u l=>by
    rw[Addr.add_lit,Nat.zero_add,hB.drew.cell,f,List.append_assoc,List.getElem?_append_left (List.getElem?_eq_some_iff.1 l).1];exact l)
  obtain⟨Z1,Ag⟩:=eC (Builtin.zeroCells (Value.cells z) (n+1-i));obtain⟨Z2,Ah⟩:=eC (Builtin.zeroCells (Value.cells z) (G-(n+1)));obtain⟨H,Ai⟩:=eC ((Z1++Z2).toList);have A1:H.length=(G-i)*k:=by
   rw[<-Ai,Array.length_toList,Array.size_append,<-Ag,<-Ah,size_zeroCells,size_zeroCells,Ao,m6,m9];omega
  have Aj:∀m,m<=2000->m*B<=2000*1000:=fun m hm=>Nat.mul_le_mul hm An;have Ax:∀b,prog.underlying b=some (.int .i64)->∀ty,(Builtin.append_ #[t,b] ty #[.slice (some ⟨g,0,none⟩) i c,.int .i64 ((n:Int)+1-(i:Int))]).run prog w=.ok (.slice (some ⟨w.heap.size,0,none⟩) (n+1) G) (w.drew.alloc (.cells (A++H).toArray e)):=fun b Ay ty=>by
   have A2:=Aj (n+1) (by omega);have A3:=Aj (n+1-i) (by omega);have h:=Lib.run_append_grow_zeros w t b ty e iT _ .i64 .i64 ht Ay Ak Al (some ⟨g,0,none⟩) i c A Af (n+1-i) (by omega) (by omega) (by omega) (by omega) (by rw[Aa];omega) (by rw[Aa,show i+(n+1-i)=n+1 by omega];exact growslice_fits (by omega) (by omega))
   rw[show i+(n+1-i)=n+1 by omega,hG] at h;rw[Ag,Ah] at h;rw[show (n:Int)+1-(i:Int)=((n+1-i:Nat):Int) by omega,h,<-Ai];congr 4
   simp
  obtain⟨J,E⟩:=eC (splice (A++H) (i*k) X);obtain⟨o,F⟩:=eC (splice J ((i+1)*k) D);have q:o=A++X++D++H.drop (k+D.length):=by
   have:=uq (A:=A) (D:=D) (Z:=H) Ac;rw[show A.length+k=(i+1)*k by omega,d,E,F] at this;exact this
  have Q:J.length=G*k:=by rw[<-E,length_splice _ _ _ (by rw[List.length_append];omega),List.length_append];omega
  have S:o.length=G*k:=by rw[<-F,<-Q];exact length_splice _ _ _ (by omega)
  have b1:Blk (w.alloc (.cells (A++H).toArray e)).drew w.heap.size (A++H) e:=(Blk.new w (A++H) e).drew;have b2:Blk (w.alloc (.cells (A++H).toArray e)).drew T X e:=(hx.alloc _).drew;have b3:Blk (w.alloc (.cells (A++H).toArray e)).drew g M e:=(hB.alloc _).drew;have b4:Blk ((w.alloc (.cells (A++H).toArray e)).drew.setRow w.heap.size J.toArray).drew w.heap.size J e:=b1.setRow.drew;have b5:Blk ((w.alloc (.cells (A++H).toArray e)).drew.setRow w.heap.size J.toArray).drew g M e:=by
   refine Blk.drew ?_;unfold Blk;rw[setRow_other _ w.heap.size g _ (by have:=hB.lt;omega)]
   exact b3
  refine⟨G,(w.alloc (.cells (A++H).toArray e)).drew,(w.alloc (.cells (A++H).toArray e)).drew.setRow w.heap.size J.toArray,((w.alloc (.cells (A++H).toArray e)).drew.setRow w.heap.size J.toArray).drew.setRow w.heap.size o.toArray,s,Ae,Ax,fun ty K=>?_,fun ty K sc=>?_,?_⟩
  .rw [<-E]
   refine jG (m:=1) ht I b1 ?_ (by omega) (O _ b2) ?_ Y
   .simp only [Nat.min_def]
    split<;>omega
   .rw [List.length_append]
    omega
  .rw [<-F]
   refine jG (m:=n-i) ht I b4 ?_ Ab (N _ b5) ?_ Ad
   .simp only [Nat.min_def]
    split<;>omega
   .omega
  .refine⟨_,G,rfl,dG V b4.setRow s Ae S ?_,tO (gJ (tO (gJ (World.grownBy_alloc w _ _)) eH)) eH,.inr ⟨w.heap.size,eH,rfl⟩⟩
   rw[q,U,List.take_append_of_le_length (by simp only[List.length_append,Nat.succ_mul];omega),List.take_of_length_le (by simp only[List.length_append,Nat.succ_mul];omega)]
theorem insEnt_any(L:List (Led.Entry × Value))(x:Led.Entry × Value)(n i base:Nat)(v:Value)(J:Nat)(w:World)(hL:L.length=n)(C:w.ownsRow base 36 5 v n (ah ag L))(hx:Blk w J (ag x) 36)(S:v.ownBlock≠some J)(hi:i<=n)(hn:n<=1000)(F:base<=w.heap.size)
  (f:∀y∈L,∀u∈ag y,u.oneCell'=true) (I:∀u∈ag x,u.oneCell'=true) :
  Calls prog 133 #[v,.int .i64 i,.slice (some ⟨J,0,none⟩) 1 1] w (fw ag 5 36 base v n (L.take i++x::L.drop i) w):=by
 obtain⟨iT,T,U,V,X⟩:=an gR
 have K:Vs w w.heap.size 5 (some ⟨J,0,none⟩) 1 (ag x):=⟨by rw[bf],fun j u hj=>⟨_,rfl,hx.lt,by rw[aZ,hx.cell j];exact hj⟩⟩
 by_cases k:i=n
 .subst k
  have HR:Hid (ah ag L++ag x=ah ag (L.take i++x::L.drop i)):=eA (by
   rw[List.take_of_length_le (by omega),List.drop_of_length_le (by omega),aT];simp[ah])
  obtain⟨v',w',Y,B,hg,hb⟩:=bj (P:=prog) w base 23 23 36 iT _ 5 72 underlying23 T U V X rfl (by omega) v i _ C w.heap.size (some ⟨J,0,none⟩) 1 1 (ag x) K I (by unfold maxLen;omega) (by omega) F
  obtain⟨A,c,rfl,_,_⟩:=aj B;rw[HR.out] at B;have D:Hid (fw ag 5 36 base v i (L.take i++x::L.drop i) w (.returned (.slice A (i+1) c)) w'):=eA ⟨A,c,rfl,B,hg,hb.imp id (fun h=>⟨_,eH,h⟩)⟩;obtain⟨A0,c0,l,Af,Ag⟩:=aj C;subst l;clear C B hg hb HR K hx S f I;by_cases m:c0=i
  all_goals
   go_enter func133,ntmps133
   go_wp2_with (at_builtin;refine Lib.wpList_append_run _ rfl _ _ _ _ rfl _ _ rfl rfl _ _ Y ?_)
   go_ret;exact D.out
 .have o:i<n:=by omega
  rcases aS C with⟨_,h0,_⟩|⟨g,c,M,rfl,q,Ah,r,s,Z,z,b⟩
  .omega
  have Ac:c<=9223372036854775807:=Z;have d:J≠g:=fun e=>S (by simp[Value.ownBlock,e]);obtain⟨gr,gg⟩:=pU bf (by omega) (t:=23) T U V X (by omega) iszEnt rfl underlying23 hL o hn q F r hx d s Z z b f I;have N:M.length=c*5->∀lb cb,(callFunc 168 #[.slice (some ⟨J,0,none⟩) 1 1,.slice (some ⟨g,(i+1)*5,none⟩) lb cb]).run prog w=.ok (.value (.bool false)) w:=fun Ai lb cb=>by
   rw[run_callFunc_extern func168 (by kernel_rfl) (by kernel_rfl) (by kernel_rfl) (e:=Extern.SlicesOverlaps.overlaps #[23,23] #[4]) (by kernel_rfl),
    Lib.run_overlaps_apart w 23 4 36 underlying23 5 Tryz.sizeOf36 ⟨J,0,none⟩ ⟨g,(i+1)*5,none⟩ 1 1 lb cb d 36 36 (ag x).length M.length (fL hx) (fL r) (by omega) (hx.froz _) (hx.froz _)]
   rfl
  have N:=N z;have Aj:¬((i:Int)=(n:Int)):=by omega
  have Ad:i<=n:=hi;have m:¬c=i:=by omega
  have Ak:IntKind.i64.wrap ((i:Int)+1)=(i:Int)+1:=by rw[IntKind.wrap_i64];omega
  have Al:(0:Int)<=(i:Int)+1:=by omega
  have Am:(i:Int)+1<=(n:Int)+1:=by omega
  have An:((i:Int)+1).toNat=i+1:=by omega
  have Ao:(i:Int)<=(n:Int)+1:=by omega
  clear hx r C f I K b z;by_cases H:n+1<=c
  .obtain⟨W1,W2,O,Q,E⟩:=gr H
   have D:=eA E;have Aa:(n:Int)+1<=(c:Int):=by omega
   have Ap:¬c=i+1:=by omega
   have Aq:¬c<n+1:=by omega
   clear E gr gg;go_enter func133,ntmps133
   go_wp2_with (simp only[N])
   go_region_law (refine step_copyR rfl _ _ 23 23 rfl _ _ (by simp[Act.eval,Act.put]) (by simp[Act.eval,Act.put]) (O _ _ _) ?_)
   go_wp2_with (at_builtin;refine wpList_copyR _ rfl _ _ 23 23 rfl _ _ rfl rfl (Q _ _) ?_)
   go_ret;exact D.out
  .obtain⟨G,W1,W2,W3,Ar,Ab,R,O,Q,E⟩:=gg H
   have R:=R 3 underlying3;have Ae:G<=9223372036854775807:=Ab;have D:=eA E;have Aa:(c:Int)<(n:Int)+1:=by omega
   have As:¬G=i:=by omega
   have Au:¬G=i+1:=by omega
   have Av:(i:Int)<=(n:Int):=by omega
   clear E gr gg;go_enter func133,ntmps133
   go_wp2_with (first|(at_builtin;refine Lib.wpList_append_run _ rfl _ _ _ _ rfl _ _ rfl rfl _ _ (R _) ?_)|(at_builtin;refine wpList_copyR _ rfl _ _ 23 23 rfl _ _ rfl rfl (O _ _) ?_))
   go_region_law (refine step_copyR rfl _ _ 23 23 rfl _ _ (by simp[Act.eval,Act.put]) (by simp[Act.eval,Act.put]) (Q _ _ _) ?_)
   go_wp2;go_ret;exact D.out
theorem insNod_any(L:List (Led.Node))(x:Led.Node)(n i base:Nat)(v:Value)(J:Nat)(w:World)(hL:L.length=n)(C:w.ownsRow base 40 5 v n (ah ae L))(hx:Blk w J (ae x) 40)(S:v.ownBlock≠some J)(hi:i<=n)(hn:n<=1000)(F:base<=w.heap.size)
  (f:∀y∈L,∀u∈ae y,u.oneCell'=true) (I:∀u∈ae x,u.oneCell'=true) :
  Calls prog 138 #[v,.int .i64 i,.slice (some ⟨J,0,none⟩) 1 1] w (fw ae 5 40 base v n (L.take i++x::L.drop i) w):=by
 obtain⟨iT,T,U,V,X⟩:=an iz
 have K:Vs w w.heap.size 5 (some ⟨J,0,none⟩) 1 (ae x):=⟨by rw[aM],fun j u hj=>⟨_,rfl,hx.lt,by rw[aZ,hx.cell j];exact hj⟩⟩
 by_cases k:i=n
 .subst k
  have HR:Hid (ah ae L++ae x=ah ae (L.take i++x::L.drop i)):=eA (by
   rw[List.take_of_length_le (by omega),List.drop_of_length_le (by omega),aT];simp[ah])
  obtain⟨v',w',Y,B,hg,hb⟩:=bj (P:=prog) w base 24 24 40 iT _ 5 64 underlying24 T U V X rfl (by omega) v i _ C w.heap.size (some ⟨J,0,none⟩) 1 1 (ae x) K I (by unfold maxLen;omega) (by omega) F
  obtain⟨A,c,rfl,_,_⟩:=aj B;rw[HR.out] at B;have D:Hid (fw ae 5 40 base v i (L.take i++x::L.drop i) w (.returned (.slice A (i+1) c)) w'):=eA ⟨A,c,rfl,B,hg,hb.imp id (fun h=>⟨_,eH,h⟩)⟩;obtain⟨A0,c0,l,Af,Ag⟩:=aj C;subst l;clear C B hg hb HR K hx S f I;by_cases m:c0=i
  all_goals
   go_enter func138,ntmps138
   go_wp2_with (at_builtin;refine Lib.wpList_append_run _ rfl _ _ _ _ rfl _ _ rfl rfl _ _ Y ?_)
   go_ret;exact D.out
 .have o:i<n:=by omega
  rcases aS C with⟨_,h0,_⟩|⟨g,c,M,rfl,q,Ah,r,s,Z,z,b⟩
  .omega
  have Ac:c<=9223372036854775807:=Z;have d:J≠g:=fun e=>S (by simp[Value.ownBlock,e]);obtain⟨gr,gg⟩:=pU aM (by omega) (t:=24) T U V X (by omega) iszNod rfl underlying24 hL o hn q F r hx d s Z z b f I;have N:M.length=c*5->∀lb cb,(callFunc 170 #[.slice (some ⟨J,0,none⟩) 1 1,.slice (some ⟨g,(i+1)*5,none⟩) lb cb]).run prog w=.ok (.value (.bool false)) w:=fun Ai lb cb=>by
   rw[run_callFunc_extern func170 (by kernel_rfl) (by kernel_rfl) (by kernel_rfl) (e:=Extern.SlicesOverlaps.overlaps #[24,24] #[4]) (by kernel_rfl),
    Lib.run_overlaps_apart w 24 4 40 underlying24 5 Tryz.sizeOf40 ⟨J,0,none⟩ ⟨g,(i+1)*5,none⟩ 1 1 lb cb d 40 40 (ae x).length M.length (fL hx) (fL r) (by omega) (hx.froz _) (hx.froz _)]
   rfl
  have N:=N z;have Aj:¬((i:Int)=(n:Int)):=by omega
  have Ad:i<=n:=hi;have m:¬c=i:=by omega
  have Ak:IntKind.i64.wrap ((i:Int)+1)=(i:Int)+1:=by rw[IntKind.wrap_i64];omega
  have Al:(0:Int)<=(i:Int)+1:=by omega
  have Am:(i:Int)+1<=(n:Int)+1:=by omega
  have An:((i:Int)+1).toNat=i+1:=by omega
  have Ao:(i:Int)<=(n:Int)+1:=by omega
  clear hx r C f I K b z;by_cases H:n+1<=c
  .obtain⟨W1,W2,O,Q,E⟩:=gr H
   have D:=eA E;have Aa:(n:Int)+1<=(c:Int):=by omega
   have Ap:¬c=i+1:=by omega
   have Aq:¬c<n+1:=by omega
   clear E gr gg;go_enter func138,ntmps138
   go_wp2_with (simp only[N])
   go_region_law (refine step_copyR rfl _ _ 24 24 rfl _ _ (by simp[Act.eval,Act.put]) (by simp[Act.eval,Act.put]) (O _ _ _) ?_)
   go_wp2_with (at_builtin;refine wpList_copyR _ rfl _ _ 24 24 rfl _ _ rfl rfl (Q _ _) ?_)
   go_ret;exact D.out
  .obtain⟨G,W1,W2,W3,Ar,Ab,R,O,Q,E⟩:=gg H
   have R:=R 3 underlying3;have Ae:G<=9223372036854775807:=Ab;have D:=eA E;have Aa:(c:Int)<(n:Int)+1:=by omega
   have As:¬G=i:=by omega
   have Au:¬G=i+1:=by omega
   have Av:(i:Int)<=(n:Int):=by omega
   clear E gr gg;go_enter func138,ntmps138
   go_wp2_with (first|(at_builtin;refine Lib.wpList_append_run _ rfl _ _ _ _ rfl _ _ rfl rfl _ _ (R _) ?_)|(at_builtin;refine wpList_copyR _ rfl _ _ 24 24 rfl _ _ rfl rfl (O _ _) ?_))
   go_region_law (refine step_copyR rfl _ _ 24 24 rfl _ _ (by simp[Act.eval,Act.put]) (by simp[Act.eval,Act.put]) (Q _ _ _) ?_)
   go_wp2;go_ret;exact D.out
theorem insBun_any(L:List (Led.Bundle × Value))(x:Led.Bundle × Value)(n i base:Nat)(v:Value)(J:Nat)(w:World)(hL:L.length=n)(C:w.ownsRow base 45 3 v n (ah ai L))(hx:Blk w J (ai x) 45)(S:v.ownBlock≠some J)(hi:i<=n)(hn:n<=1000)(F:base<=w.heap.size)
  (f:∀y∈L,∀u∈ai y,u.oneCell'=true) (I:∀u∈ai x,u.oneCell'=true) :
  Calls prog 152 #[v,.int .i64 i,.slice (some ⟨J,0,none⟩) 1 1] w (fw ai 3 45 base v n (L.take i++x::L.drop i) w):=by
 obtain⟨iT,T,U,V,X⟩:=an iA
 have K:Vs w w.heap.size 3 (some ⟨J,0,none⟩) 1 (ai x):=⟨by rw[aQ],fun j u hj=>⟨_,rfl,hx.lt,by rw[aZ,hx.cell j];exact hj⟩⟩
 by_cases k:i=n
 .subst k
  have HR:Hid (ah ai L++ai x=ah ai (L.take i++x::L.drop i)):=eA (by
   rw[List.take_of_length_le (by omega),List.drop_of_length_le (by omega),aT];simp[ah])
  obtain⟨v',w',Y,B,hg,hb⟩:=bj (P:=prog) w base 28 28 45 iT _ 3 48 underlying28 T U V X rfl (by omega) v i _ C w.heap.size (some ⟨J,0,none⟩) 1 1 (ai x) K I (by unfold maxLen;omega) (by omega) F
  obtain⟨A,c,rfl,_,_⟩:=aj B;rw[HR.out] at B;have D:Hid (fw ai 3 45 base v i (L.take i++x::L.drop i) w (.returned (.slice A (i+1) c)) w'):=eA ⟨A,c,rfl,B,hg,hb.imp id (fun h=>⟨_,eH,h⟩)⟩;obtain⟨A0,c0,l,Af,Ag⟩:=aj C;subst l;clear C B hg hb HR K hx S f I;by_cases m:c0=i
  all_goals
   go_enter func152,ntmps152
   go_wp2_with (at_builtin;refine Lib.wpList_append_run _ rfl _ _ _ _ rfl _ _ rfl rfl _ _ Y ?_)
   go_ret;exact D.out
 .have o:i<n:=by omega
  rcases aS C with⟨_,h0,_⟩|⟨g,c,M,rfl,q,Ah,r,s,Z,z,b⟩
  .omega
  have Ac:c<=9223372036854775807:=Z;have d:J≠g:=fun e=>S (by simp[Value.ownBlock,e]);obtain⟨gr,gg⟩:=pU aQ (by omega) (t:=28) T U V X (by omega) iszBun rfl underlying28 hL o hn q F r hx d s Z z b f I;have N:M.length=c*3->∀lb cb,(callFunc 180 #[.slice (some ⟨J,0,none⟩) 1 1,.slice (some ⟨g,(i+1)*3,none⟩) lb cb]).run prog w=.ok (.value (.bool false)) w:=fun Ai lb cb=>by
   rw[run_callFunc_extern func180 (by kernel_rfl) (by kernel_rfl) (by kernel_rfl) (e:=Extern.SlicesOverlaps.overlaps #[28,28] #[4]) (by kernel_rfl),
    Lib.run_overlaps_apart w 28 4 45 underlying28 3 Tryz.sizeOf45 ⟨J,0,none⟩ ⟨g,(i+1)*3,none⟩ 1 1 lb cb d 45 45 (ai x).length M.length (fL hx) (fL r) (by omega) (hx.froz _) (hx.froz _)]
   rfl
  have N:=N z;have Aj:¬((i:Int)=(n:Int)):=by omega
  have Ad:i<=n:=hi;have m:¬c=i:=by omega
  have Ak:IntKind.i64.wrap ((i:Int)+1)=(i:Int)+1:=by rw[IntKind.wrap_i64];omega
  have Al:(0:Int)<=(i:Int)+1:=by omega
  have Am:(i:Int)+1<=(n:Int)+1:=by omega
  have An:((i:Int)+1).toNat=i+1:=by omega
  have Ao:(i:Int)<=(n:Int)+1:=by omega
  clear hx r C f I K b z;by_cases H:n+1<=c
  .obtain⟨W1,W2,O,Q,E⟩:=gr H
   have D:=eA E;have Aa:(n:Int)+1<=(c:Int):=by omega
   have Ap:¬c=i+1:=by omega
   have Aq:¬c<n+1:=by omega
   clear E gr gg;go_enter func152,ntmps152
   go_wp2_with (simp only[N])
   go_region_law (refine step_copyR rfl _ _ 28 28 rfl _ _ (by simp[Act.eval,Act.put]) (by simp[Act.eval,Act.put]) (O _ _ _) ?_)
   go_wp2_with (at_builtin;refine wpList_copyR _ rfl _ _ 28 28 rfl _ _ rfl rfl (Q _ _) ?_)
   go_ret;exact D.out
  .obtain⟨G,W1,W2,W3,Ar,Ab,R,O,Q,E⟩:=gg H
   have R:=R 3 underlying3;have Ae:G<=9223372036854775807:=Ab;have D:=eA E;have Aa:(c:Int)<(n:Int)+1:=by omega
   have As:¬G=i:=by omega
   have Au:¬G=i+1:=by omega
   have Av:(i:Int)<=(n:Int):=by omega
   clear E gr gg;go_enter func152,ntmps152
   go_wp2_with (first|(at_builtin;refine Lib.wpList_append_run _ rfl _ _ _ _ rfl _ _ rfl rfl _ _ (R _) ?_)|(at_builtin;refine wpList_copyR _ rfl _ _ 28 28 rfl _ _ rfl rfl (O _ _) ?_))
   go_region_law (refine step_copyR rfl _ _ 28 28 rfl _ _ (by simp[Act.eval,Act.put]) (by simp[Act.eval,Act.put]) (Q _ _ _) ?_)
   go_wp2;go_ret;exact D.out
theorem insStr_any(L:List (Txt))(x:Txt)(n i base:Nat)(v:Value)(N:Nat)(w:World)(hL:L.length=n)(C:w.ownsRow base 9 1 v n (ah al L))(hx:Blk w N (al x) 9)(S:v.ownBlock≠some N)(hi:i<=n)(hn:n<=1000)(F:base<=w.heap.size)
  (f:∀y∈L,∀u∈al y,u.oneCell'=true) (K:∀u∈al x,u.oneCell'=true) :
  Calls prog 142 #[v,.int .i64 i,.slice (some ⟨N,0,none⟩) 1 1] w (fw al 1 9 base v n (L.take i++x::L.drop i) w):=by
 obtain⟨iT,T,U,V,X⟩:=an gQ
 have O:Vs w w.heap.size 1 (some ⟨N,0,none⟩) 1 (al x):=⟨by rw[gC],fun j u hj=>⟨_,rfl,hx.lt,by rw[aZ,hx.cell j];exact hj⟩⟩
 by_cases k:i=n
 .subst k
  have HR:Hid (ah al L++al x=ah al (L.take i++x::L.drop i)):=eA (by
   rw[List.take_of_length_le (by omega),List.drop_of_length_le (by omega),aT];simp[ah])
  obtain⟨v',w',Y,B,hg,hb⟩:=bj (P:=prog) w base 25 25 9 iT _ 1 16 underlying25 T U V X rfl (by omega) v i _ C w.heap.size (some ⟨N,0,none⟩) 1 1 (al x) O K (by unfold maxLen;omega) (by omega) F
  obtain⟨A,c,rfl,_,_⟩:=aj B;rw[HR.out] at B;have D:Hid (fw al 1 9 base v i (L.take i++x::L.drop i) w (.returned (.slice A (i+1) c)) w'):=eA ⟨A,c,rfl,B,hg,hb.imp id (fun h=>⟨_,eH,h⟩)⟩;obtain⟨A0,c0,l,Af,Ag⟩:=aj C;subst l;clear C B hg hb HR O hx S f K;by_cases m:c0=i
  all_goals
   go_enter func142,ntmps142
   go_wp2_with (at_builtin;refine Lib.wpList_append_run _ rfl _ _ _ _ rfl _ _ rfl rfl _ _ Y ?_)
   go_ret;exact D.out
 .have o:i<n:=by omega
  rcases aS C with⟨_,h0,_⟩|⟨g,c,M,rfl,q,Ah,r,s,Z,z,b⟩
  .omega
  have Ac:c<=9223372036854775807:=Z;have d:N≠g:=fun e=>S (by simp[Value.ownBlock,e]);obtain⟨gr,gg⟩:=pU gC (by omega) (t:=25) T U V X (by omega) iszStr rfl underlying25 hL o hn q F r hx d s Z z b f K;have Q:M.length=c*1->∀lb cb,(callFunc 174 #[.slice (some ⟨N,0,none⟩) 1 1,.slice (some ⟨g,i+1,none⟩) lb cb]).run prog w=.ok (.value (.bool false)) w:=fun Ai lb cb=>by
   rw[run_callFunc_extern func174 (by kernel_rfl) (by kernel_rfl) (by kernel_rfl) (e:=Extern.SlicesOverlaps.overlaps #[25,25] #[4]) (by kernel_rfl),
    Lib.run_overlaps_apart w 25 4 9 underlying25 1 Tryz.sizeOf9 ⟨N,0,none⟩ ⟨g,i+1,none⟩ 1 1 lb cb d 9 9 (al x).length M.length (fL hx) (fL r) (by omega) (hx.froz _) (hx.froz _)]
   rfl
  have Q:=Q z;have Aj:¬((i:Int)=(n:Int)):=by omega
  have Ad:i<=n:=hi;have m:¬c=i:=by omega
  have Ak:IntKind.i64.wrap ((i:Int)+1)=(i:Int)+1:=by rw[IntKind.wrap_i64];omega
  have Al:(0:Int)<=(i:Int)+1:=by omega
  have Am:(i:Int)+1<=(n:Int)+1:=by omega
  have An:((i:Int)+1).toNat=i+1:=by omega
  have Ao:(i:Int)<=(n:Int)+1:=by omega
  clear hx r C f K O b z;by_cases H:n+1<=c
  .obtain⟨W1,W2,I,J,E⟩:=gr H
   simp only[Nat.mul_one] at I J;have D:=eA E;have Aa:(n:Int)+1<=(c:Int):=by omega
   have Ap:¬c=i+1:=by omega
   have Aq:¬c<n+1:=by omega
   clear E gr gg;go_enter func142,ntmps142
   go_wp2_with (simp only[Q])
   go_region_law (refine step_copyR rfl _ _ 25 25 rfl _ _ (by simp[Act.eval,Act.put]) (by simp[Act.eval,Act.put]) (I _ _ _) ?_)
   go_wp2_with (at_builtin;refine wpList_copyR _ rfl _ _ 25 25 rfl _ _ rfl rfl (J _ _) ?_)
   go_ret;exact D.out
  .obtain⟨G,W1,W2,W3,Ar,Ab,R,I,J,E⟩:=gg H
   simp only[Nat.mul_one] at I J;have R:=R 3 underlying3;have Ae:G<=9223372036854775807:=Ab;have D:=eA E;have Aa:(c:Int)<(n:Int)+1:=by omega
   have As:¬G=i:=by omega
   have Au:¬G=i+1:=by omega
   have Av:(i:Int)<=(n:Int):=by omega
   clear E gr gg;go_enter func142,ntmps142
   go_wp2_with (first|(at_builtin;refine Lib.wpList_append_run _ rfl _ _ _ _ rfl _ _ rfl rfl _ _ (R _) ?_)|(at_builtin;refine wpList_copyR _ rfl _ _ 25 25 rfl _ _ rfl rfl (I _ _) ?_))
   go_region_law (refine step_copyR rfl _ _ 25 25 rfl _ _ (by simp[Act.eval,Act.put]) (by simp[Act.eval,Act.put]) (J _ _ _) ?_)
   go_wp2;go_ret;exact D.out
end
section
open Go.RowKit Mem Led
def kL{α:Type}(enc:α->List Value)(k:Nat)(e:TypeId)(base:Nat)(v:Value)(n:Nat)(L':List α)(w:World)(x:Ending)(w':World):Prop :=
 ∃A c,x=.returned (.slice A n c)/\w'.ownsRow base e k (.slice A n c) n (ah enc L')/\w.grownBy w' v.ownBlock/\(Value.slice A n c).ownBlock=v.ownBlock
theorem splice_nil{α:Type}(L:List α)(o:Nat):splice L o []=L:=by simp[splice]
theorem su{α:Type}{A Y D R Z:List α}{k:Nat}(F:Y.length=k)(B:Z.length=k):splice (splice (A++Y++D++R) A.length D) (A.length+D.length) Z=A++D++Z++R:=by
 unfold splice
 have C:(A++Y++D++R).take A.length=A:=by simp only[List.append_assoc];rw[List.take_append_of_le_length eH,List.take_of_length_le eH]
 rw[C]
 have e2:((A++Y++D++R).drop (A.length+D.length)).length=k+R.length:=by simp only[List.length_drop,List.length_append];omega
 have e3:((A++Y++D++R).drop (A.length+D.length)).drop k=R:=by
  rw[List.drop_drop,show A.length+D.length+k=(A++Y++D).length by simp only[List.length_append];omega,List.drop_append_of_le_length eH,List.drop_of_length_le eH,List.nil_append]
 generalize (A++Y++D++R).drop (A.length+D.length)=S at *
 have e4:(A++(D++S)).take (A.length+D.length)=A++D:=by
  rw[<-List.append_assoc,List.take_append_of_le_length (by simp only[List.length_append];omega),List.take_of_length_le (by simp only[List.length_append];omega)]
 have E:(A++(D++S)).drop (A.length+D.length+Z.length)=R:=by
  rw[<-List.append_assoc,List.drop_append,List.drop_of_length_le (by simp only[List.length_append];omega),List.nil_append,List.length_append,B,show A.length+D.length+k-(A.length+D.length)=k by omega,e3]
 rw[e4,E]
 simp only[List.append_assoc]
theorem kC:(prog.info? 42).map (fun i=>(i.zero,i.size,i.bytes))=some (some (.agg #[.string ⟨#[]⟩,.string ⟨#[]⟩,.int .i64 0,.int .i64 0]),4,48):=by kernel_rfl
theorem nO{α:Type}{enc:α->List Value}{k:Nat}(q:∀x,(enc x).length=k)(h0:0<k){t e:TypeId}{z:Value}{s:TypeInfo}(Aa:prog.info? e=some s)(C:s.size=k)(J:z.cells.size=k)(K:∀v∈z.cells.toList,v.oneCell'=true)(N:∀w,(zeroValue e).run prog w=.ok z w)(ht:prog.underlying t=some (.slice e))
  {L:List α} {i m base g c:Nat} {M:List Value} {w:World} (hL:L.length=i+1+m) (Ab:base<=g) (hB:Blk w g M e) (Ac:i+1+m<=c) (Ad:c<=maxLen) (hM:M.length=c*k) (Ae:M.take ((i+1+m)*k)=ah enc L) (h1:∀y∈L,∀u∈enc y,u.oneCell'=true) :
  ∃W1 W2,(m=0->W1=w.drew)/\(0<m->∀ty sc,(Builtin.append_ #[t,t] ty #[.slice (some ⟨g,0,none⟩) i c,.slice (some ⟨g,(i+1)*k,none⟩) m sc]).run prog w.drew=.ok (.slice (some ⟨g,0,none⟩) (i+m) c) W1) /\
   (Builtin.clear_ #[t] 0 #[.slice (some ⟨g,(i+m)*k,none⟩) 1 (c-(i+m))]).run prog W1=.ok (.tuple #[]) W2 /\
   kL enc k e base (.slice (some ⟨g,0,none⟩) (i+1+m) c) (i+m) (L.take i++L.drop (i+1)) w (.returned (.slice (some ⟨g,0,none⟩) (i+m) c)) W2:=by
 have m1:(i+1)*k=i*k+k:=Nat.succ_mul i k
 have m2:(i+1+m)*k=i*k+k+m*k:=by rw[Nat.add_mul,Nat.succ_mul]
 have m3:(i+m)*k=i*k+m*k:=Nat.add_mul i m k
 have m4:(i+1+m)*k<=c*k:=Nat.mul_le_mul_right k Ac
 have Af:i<L.length:=by omega
 obtain⟨A,hA⟩:=eC (ah enc (L.take i))
 obtain⟨Y,hY⟩:=eC (enc L[i])
 obtain⟨D,f⟩:=eC (ah enc (L.drop (i+1)))
 obtain⟨R,hR⟩:=eC (M.drop ((i+1+m)*k))
 have O:A.length=i*k:=by rw[<-hA,aJ q,List.length_take,Nat.min_eq_left (by omega)]
 have Q:D.length=m*k:=by rw[<-f,aJ q,List.length_drop,hL,Nat.add_sub_cancel_left]
 have Ag:Y.length=k:=by rw[<-hY];exact q _
 have Ak:R.length=c*k-(i+1+m)*k:=by rw[<-hR,List.length_drop,hM]
 have E:M=A++Y++D++R:=by
  have e:ah enc L=A++Y++D:=by
   rw[<-hA,<-hY,<-f,List.append_assoc,<-bM,<-aT,<-List.drop_eq_getElem_cons Af,List.take_append_drop]
  rw[<-e,<-Ae,<-hR,List.take_append_drop]
 have S:ah enc (L.take i++L.drop (i+1))=A++D:=by rw[aT,hA,f]
 have Ah:∀u∈D,u.oneCell'=true:=by
  intro u hu;rw[<-f] at hu;unfold ah at hu;obtain⟨r,hr,Ai⟩:=List.mem_flatten.1 hu;obtain⟨y,hy,rfl⟩:=List.mem_map.1 hr;exact h1 y (List.mem_of_mem_drop hy) u Ai
 have T:=fun (Z:List Value) (J:Z.length=k)=>su (A:=A) (Y:=Y) (D:=D) (R:=R) Ag J
 have U:∀W M' B,Blk W g M' e->M'.length=M.length->w.grownBy W (some g)->B.length=1*k->splice M' ((i+m)*k) B=A++D++B++R->kL enc k e base (.slice (some ⟨g,0,none⟩) (i+1+m) c) (i+m) (L.take i++L.drop (i+1)) w (.returned (.slice (some ⟨g,0,none⟩) (i+m) c)) (W.setRow g (splice M' ((i+m)*k) B).toArray):=fun W M' B l hl hg J he=>by
  refine⟨_,c,rfl,dG Ab l.setRow (by omega) Ad (by rw[length_splice _ _ _ (by omega),hl,hM]) ?_,cZ hg,rfl⟩;rw[he,S,List.append_assoc,List.take_append_of_le_length (by simp only[List.length_append];omega),List.take_of_length_le (by simp only[List.length_append];omega)]
 rcases Nat.eq_zero_or_pos m with V|V
 .subst V
  have X:D=[]:=List.eq_nil_of_length_eq_zero (by rw[Q,Nat.zero_mul]);have b0:Blk w.drew g M e:=hB.drew;obtain⟨B,F,G⟩:=qy (P:=prog) (t:=t) (e:=e) (ty:=0) (n:=1) (c:=c-(i+0)) (k:=k) (o:=(i+0)*k) ht N J K (by omega) b0 (by omega);refine⟨_,_,fun _=>rfl,fun h=>absurd h (by omega),G,U w.drew M B b0 rfl (gJ (fD _ _)) F ?_⟩;have:=T B (by omega);rw[X] at this ⊢;simp only[List.append_nil,List.length_nil,Nat.add_zero] at this ⊢;rw[O,splice_nil] at this;rw[E,X];simp only[List.append_nil];exact this
 .obtain⟨b,H⟩:=eC (splice M (i*k) D)
  have d:b.length=M.length:=by rw[<-H];exact length_splice _ _ _ (by omega)
  have b1:Blk (w.drew.setRow g b.toArray) g b e:=hB.drew.setRow;obtain⟨B,F,G⟩:=qy (P:=prog) (t:=t) (e:=e) (ty:=0) (n:=1) (c:=c-(i+m)) (k:=k) (o:=(i+m)*k) ht N J K (by omega) b1 (by omega);refine⟨_,_,fun h=>absurd h (by omega),fun _ ty sc=>?_,G,U (w.drew.setRow g b.toArray) b B b1 d (cZ (gJ (fD _ _))) F ?_⟩
  .have l:=hB.drew
   have I:∀j u,D[j]?=some u->w.drew.cell? ((⟨g,(i+1)*k,none⟩:Addr).add j)=some u:=fun j u hj=>by
    have Aj:=(List.getElem?_eq_some_iff.1 hj).1;rw[Addr.add_lit,l.cell,E,List.append_assoc,List.getElem?_append_right (by rw[List.length_append];omega),List.length_append,show (i+1)*k+j-(A.length+Y.length)=j by omega,List.getElem?_append_left Aj]
    exact hj
   have:=run_append_room (P:=prog) w.drew t ty e s ht Aa g i c M.toArray l ⟨g,(i+1)*k,none⟩ m sc D (by rw[C,Q]) I Ah (by omega) (by rw[C];simp;omega)
   rw[this,<-H,C];unfold splice;simp
  .have:=T B (by omega)
   rw[<-E,show A.length+D.length=(i+m)*k by omega,O,H] at this;exact this
theorem delEnt_any(L:List (Led.Entry × Value))(i m base:Nat)(v:Value)(w:World)(Z:L.length=i+1+m)(C:w.ownsRow base 36 5 v (i+1+m) (ah ag L))(r:i+1+m<=1000)(T:∀y∈L,∀u∈ag y,u.oneCell'=true) :
  Calls prog 135 #[v,.int .i64 i,.int .i64 ((i:Int)+1)] w (kL ag 5 36 base v (i+m) (L.take i++L.drop (i+1)) w):=by
 obtain⟨s,I,_,J,_⟩:=an gR
 rcases aS C with⟨_,h0,_⟩|⟨g,c,M,rfl,K,b,U,N,F,d,O⟩
 .omega
 have V:c<=9223372036854775807:=F
 have x:=U.drew
 obtain⟨z,W2,Q,R,A,D⟩:=nO bf (by omega) (t:=23) I J rfl (by intro v G;simp[Value.cells] at G;first|(rcases G with rfl|rfl|rfl|rfl|rfl<;>rfl)|(rcases G with rfl|rfl|rfl|rfl<;>rfl)|(rcases G with rfl|rfl|rfl<;>rfl)|(subst G;rfl)) Tryz.zeroValue36 underlying23 Z K U N F d O T
 have B:=eA D
 have f:IntKind.i64.wrap ((i:Int)+1)=(i:Int)+1:=by rw[IntKind.wrap_i64];omega
 have h:(0:Int)<=(i:Int)+1:=by omega
 have j:(i:Int)+1<=(i:Int)+1+(m:Int):=by omega
 have k:((i:Int)+1).toNat=i+1:=by omega
 have l:¬c=i:=by omega
 have n:¬c=i+m:=by omega
 have o:¬((i:Int)=(i:Int)+1):=by omega
 have q:(i:Int)<=(i:Int)+1:=by omega
 have X:(i:Int)<=(c:Int):=by omega
 have Y:(0:Int)<=(m:Int):=by omega
 clear D T C
 rcases Nat.eq_zero_or_pos m with E|E
 .subst E
  obtain rfl:=Q rfl;simp only[Nat.add_zero] at A;clear Q R;by_cases H:c=i+1
  .subst H
   rw[show i+1-i=1 by omega] at A;go_enter func135,ntmps135
   go_wp2_with fail
   go_region
   go_wp2_with (at_builtin;refine wpList_clearR _ rfl _ 23 rfl _ rfl (A) ?_)
   go_ret;exact B.out
  .go_enter func135,ntmps135
   go_wp2_with fail
   go_region
   go_wp2_with (at_builtin;refine wpList_clearR _ rfl _ 23 rfl _ rfl (A) ?_)
   go_ret;exact B.out
 .have H:¬c=i+1:=by omega
  have S:=R E;rw[<-show i+1+m-(i+m)=1 by omega] at A;clear Q R;go_enter func135,ntmps135
  go_wp2_with fail
  go_region_law (refine fQ rfl (.tmp 22) (.tmp 25) 23 23 rfl (.slice (some ⟨g,0,none⟩) i c) (.slice (some ⟨g,(i+1)*5,none⟩) m (c-(i+1))) (by simp[Act.eval,Act.put]) (by simp[Act.eval,Act.put]) (S 23 (c-(i+1))) ?_)
  go_wp2_with (at_builtin;refine wpList_clearR _ rfl _ 23 rfl _ rfl (A) ?_)
  go_ret;exact B.out
theorem delNod_any(L:List (Led.Node))(i m base:Nat)(v:Value)(w:World)(Z:L.length=i+1+m)(C:w.ownsRow base 40 5 v (i+1+m) (ah ae L))(r:i+1+m<=1000)(T:∀y∈L,∀u∈ae y,u.oneCell'=true) :
  Calls prog 145 #[v,.int .i64 i,.int .i64 ((i:Int)+1)] w (kL ae 5 40 base v (i+m) (L.take i++L.drop (i+1)) w):=by
 obtain⟨s,I,_,J,_⟩:=an iz
 rcases aS C with⟨_,h0,_⟩|⟨g,c,M,rfl,K,b,U,N,F,d,O⟩
 .omega
 have V:c<=9223372036854775807:=F
 have x:=U.drew
 obtain⟨z,W2,Q,R,A,D⟩:=nO aM (by omega) (t:=24) I J rfl (by intro v G;simp[Value.cells] at G;first|(rcases G with rfl|rfl|rfl|rfl|rfl<;>rfl)|(rcases G with rfl|rfl|rfl|rfl<;>rfl)|(rcases G with rfl|rfl|rfl<;>rfl)|(subst G;rfl)) Tryz.zeroValue40 underlying24 Z K U N F d O T
 have B:=eA D
 have f:IntKind.i64.wrap ((i:Int)+1)=(i:Int)+1:=by rw[IntKind.wrap_i64];omega
 have h:(0:Int)<=(i:Int)+1:=by omega
 have j:(i:Int)+1<=(i:Int)+1+(m:Int):=by omega
 have k:((i:Int)+1).toNat=i+1:=by omega
 have l:¬c=i:=by omega
 have n:¬c=i+m:=by omega
 have o:¬((i:Int)=(i:Int)+1):=by omega
 have q:(i:Int)<=(i:Int)+1:=by omega
 have X:(i:Int)<=(c:Int):=by omega
 have Y:(0:Int)<=(m:Int):=by omega
 clear D T C
 rcases Nat.eq_zero_or_pos m with E|E
 .subst E
  obtain rfl:=Q rfl;simp only[Nat.add_zero] at A;clear Q R;by_cases H:c=i+1
  .subst H
   rw[show i+1-i=1 by omega] at A;go_enter func145,ntmps145
   go_wp2_with fail
   go_region
   go_wp2_with (at_builtin;refine wpList_clearR _ rfl _ 24 rfl _ rfl (A) ?_)
   go_ret;exact B.out
  .go_enter func145,ntmps145
   go_wp2_with fail
   go_region
   go_wp2_with (at_builtin;refine wpList_clearR _ rfl _ 24 rfl _ rfl (A) ?_)
   go_ret;exact B.out
 .have H:¬c=i+1:=by omega
  have S:=R E;rw[<-show i+1+m-(i+m)=1 by omega] at A;clear Q R;go_enter func145,ntmps145
  go_wp2_with fail
  go_region_law (refine fQ rfl (.tmp 22) (.tmp 25) 24 24 rfl (.slice (some ⟨g,0,none⟩) i c) (.slice (some ⟨g,(i+1)*5,none⟩) m (c-(i+1))) (by simp[Act.eval,Act.put]) (by simp[Act.eval,Act.put]) (S 24 (c-(i+1))) ?_)
  go_wp2_with (at_builtin;refine wpList_clearR _ rfl _ 24 rfl _ rfl (A) ?_)
  go_ret;exact B.out
theorem delKey_any(L:List (Led.Key))(i m base:Nat)(v:Value)(w:World)(Z:L.length=i+1+m)(C:w.ownsRow base 42 4 v (i+1+m) (ah ar L))(r:i+1+m<=1000)(T:∀y∈L,∀u∈ar y,u.oneCell'=true) :
  Calls prog 148 #[v,.int .i64 i,.int .i64 ((i:Int)+1)] w (kL ar 4 42 base v (i+m) (L.take i++L.drop (i+1)) w):=by
 obtain⟨s,I,_,J,_⟩:=an kC
 rcases aS C with⟨_,h0,_⟩|⟨g,c,M,rfl,K,b,U,N,F,d,O⟩
 .omega
 have V:c<=9223372036854775807:=F
 have x:=U.drew
 obtain⟨z,W2,Q,R,A,D⟩:=nO aP (by omega) (t:=27) I J rfl (by intro v G;simp[Value.cells] at G;first|(rcases G with rfl|rfl|rfl|rfl|rfl<;>rfl)|(rcases G with rfl|rfl|rfl|rfl<;>rfl)|(rcases G with rfl|rfl|rfl<;>rfl)|(subst G;rfl)) Tryz.zeroValue42 underlying27 Z K U N F d O T
 have B:=eA D
 have f:IntKind.i64.wrap ((i:Int)+1)=(i:Int)+1:=by rw[IntKind.wrap_i64];omega
 have h:(0:Int)<=(i:Int)+1:=by omega
 have j:(i:Int)+1<=(i:Int)+1+(m:Int):=by omega
 have k:((i:Int)+1).toNat=i+1:=by omega
 have l:¬c=i:=by omega
 have n:¬c=i+m:=by omega
 have o:¬((i:Int)=(i:Int)+1):=by omega
 have q:(i:Int)<=(i:Int)+1:=by omega
 have X:(i:Int)<=(c:Int):=by omega
 have Y:(0:Int)<=(m:Int):=by omega
 clear D T C
 rcases Nat.eq_zero_or_pos m with E|E
 .subst E
  obtain rfl:=Q rfl;simp only[Nat.add_zero] at A;clear Q R;by_cases H:c=i+1
  .subst H
   rw[show i+1-i=1 by omega] at A;go_enter func148,ntmps148
   go_wp2_with fail
   go_region
   go_wp2_with (at_builtin;refine wpList_clearR _ rfl _ 27 rfl _ rfl (A) ?_)
   go_ret;exact B.out
  .go_enter func148,ntmps148
   go_wp2_with fail
   go_region
   go_wp2_with (at_builtin;refine wpList_clearR _ rfl _ 27 rfl _ rfl (A) ?_)
   go_ret;exact B.out
 .have H:¬c=i+1:=by omega
  have S:=R E;rw[<-show i+1+m-(i+m)=1 by omega] at A;clear Q R;go_enter func148,ntmps148
  go_wp2_with fail
  go_region_law (refine fQ rfl (.tmp 22) (.tmp 25) 27 27 rfl (.slice (some ⟨g,0,none⟩) i c) (.slice (some ⟨g,(i+1)*4,none⟩) m (c-(i+1))) (by simp[Act.eval,Act.put]) (by simp[Act.eval,Act.put]) (S 27 (c-(i+1))) ?_)
  go_wp2_with (at_builtin;refine wpList_clearR _ rfl _ 27 rfl _ rfl (A) ?_)
  go_ret;exact B.out
theorem delBun_any(L:List (Led.Bundle × Value))(i m base:Nat)(v:Value)(w:World)(Z:L.length=i+1+m)(C:w.ownsRow base 45 3 v (i+1+m) (ah ai L))(r:i+1+m<=1000)(T:∀y∈L,∀u∈ai y,u.oneCell'=true) :
  Calls prog 153 #[v,.int .i64 i,.int .i64 ((i:Int)+1)] w (kL ai 3 45 base v (i+m) (L.take i++L.drop (i+1)) w):=by
 obtain⟨s,I,_,J,_⟩:=an iA
 rcases aS C with⟨_,h0,_⟩|⟨g,c,M,rfl,K,b,U,N,F,d,O⟩
 .omega
 have V:c<=9223372036854775807:=F
 have x:=U.drew
 obtain⟨z,W2,Q,R,A,D⟩:=nO aQ (by omega) (t:=28) I J rfl (by intro v G;simp[Value.cells] at G;first|(rcases G with rfl|rfl|rfl|rfl|rfl<;>rfl)|(rcases G with rfl|rfl|rfl|rfl<;>rfl)|(rcases G with rfl|rfl|rfl<;>rfl)|(subst G;rfl)) Tryz.zeroValue45 underlying28 Z K U N F d O T
 have B:=eA D
 have f:IntKind.i64.wrap ((i:Int)+1)=(i:Int)+1:=by rw[IntKind.wrap_i64];omega
 have h:(0:Int)<=(i:Int)+1:=by omega
 have j:(i:Int)+1<=(i:Int)+1+(m:Int):=by omega
 have k:((i:Int)+1).toNat=i+1:=by omega
 have l:¬c=i:=by omega
 have n:¬c=i+m:=by omega
 have o:¬((i:Int)=(i:Int)+1):=by omega
 have q:(i:Int)<=(i:Int)+1:=by omega
 have X:(i:Int)<=(c:Int):=by omega
 have Y:(0:Int)<=(m:Int):=by omega
 clear D T C
 rcases Nat.eq_zero_or_pos m with E|E
 .subst E
  obtain rfl:=Q rfl;simp only[Nat.add_zero] at A;clear Q R;by_cases H:c=i+1
  .subst H
   rw[show i+1-i=1 by omega] at A;go_enter func153,ntmps153
   go_wp2_with fail
   go_region
   go_wp2_with (at_builtin;refine wpList_clearR _ rfl _ 28 rfl _ rfl (A) ?_)
   go_ret;exact B.out
  .go_enter func153,ntmps153
   go_wp2_with fail
   go_region
   go_wp2_with (at_builtin;refine wpList_clearR _ rfl _ 28 rfl _ rfl (A) ?_)
   go_ret;exact B.out
 .have H:¬c=i+1:=by omega
  have S:=R E;rw[<-show i+1+m-(i+m)=1 by omega] at A;clear Q R;go_enter func153,ntmps153
  go_wp2_with fail
  go_region_law (refine fQ rfl (.tmp 22) (.tmp 25) 28 28 rfl (.slice (some ⟨g,0,none⟩) i c) (.slice (some ⟨g,(i+1)*3,none⟩) m (c-(i+1))) (by simp[Act.eval,Act.put]) (by simp[Act.eval,Act.put]) (S 28 (c-(i+1))) ?_)
  go_wp2_with (at_builtin;refine wpList_clearR _ rfl _ 28 rfl _ rfl (A) ?_)
  go_ret;exact B.out
theorem delStr_any(L:List (Txt))(i m base:Nat)(v:Value)(w:World)(Z:L.length=i+1+m)(C:w.ownsRow base 9 1 v (i+1+m) (ah al L))(r:i+1+m<=1000)(T:∀y∈L,∀u∈al y,u.oneCell'=true) :
  Calls prog 144 #[v,.int .i64 i,.int .i64 ((i:Int)+1)] w (kL al 1 9 base v (i+m) (L.take i++L.drop (i+1)) w):=by
 obtain⟨s,J,_,K,_⟩:=an gQ
 rcases aS C with⟨_,h0,_⟩|⟨g,c,M,rfl,N,b,U,O,F,d,Q⟩
 .omega
 have V:c<=9223372036854775807:=F
 have x:=U.drew
 obtain⟨z,W2,R,S,A,D⟩:=nO gC (by omega) (t:=25) J K rfl (by intro v G;simp[Value.cells] at G;first|(rcases G with rfl|rfl|rfl|rfl|rfl<;>rfl)|(rcases G with rfl|rfl|rfl|rfl<;>rfl)|(rcases G with rfl|rfl|rfl<;>rfl)|(subst G;rfl)) Tryz.zeroValue9 underlying25 Z N U O F d Q T
 have B:=eA D
 have f:IntKind.i64.wrap ((i:Int)+1)=(i:Int)+1:=by rw[IntKind.wrap_i64];omega
 have h:(0:Int)<=(i:Int)+1:=by omega
 have j:(i:Int)+1<=(i:Int)+1+(m:Int):=by omega
 have k:((i:Int)+1).toNat=i+1:=by omega
 have l:¬c=i:=by omega
 have n:¬c=i+m:=by omega
 have o:¬((i:Int)=(i:Int)+1):=by omega
 have q:(i:Int)<=(i:Int)+1:=by omega
 have X:(i:Int)<=(c:Int):=by omega
 have Y:(0:Int)<=(m:Int):=by omega
 clear D T C
 rcases Nat.eq_zero_or_pos m with E|E
 .subst E
  obtain rfl:=R rfl;simp only[Nat.add_zero,Nat.mul_one] at A;clear R S;by_cases H:c=i+1
  .subst H
   rw[show i+1-i=1 by omega] at A;go_enter func144,ntmps144
   go_wp2_with fail
   go_region
   go_wp2_with (at_builtin;refine wpList_clearR _ rfl _ 25 rfl _ rfl (A) ?_)
   go_ret;exact B.out
  .go_enter func144,ntmps144
   go_wp2_with fail
   go_region
   go_wp2_with (at_builtin;refine wpList_clearR _ rfl _ 25 rfl _ rfl (A) ?_)
   go_ret;exact B.out
 .have H:¬c=i+1:=by omega
  have I:=S E;simp only[Nat.mul_one] at A I;rw[<-show i+1+m-(i+m)=1 by omega] at A;clear R S;go_enter func144,ntmps144
  go_wp2_with fail
  go_region_law (refine fQ rfl (.tmp 22) (.tmp 25) 25 25 rfl (.slice (some ⟨g,0,none⟩) i c) (.slice (some ⟨g,i+1,none⟩) m (c-(i+1))) (by simp[Act.eval,Act.put]) (by simp[Act.eval,Act.put]) (I 25 (c-(i+1))) ?_)
  go_wp2_with (at_builtin;refine wpList_clearR _ rfl _ 25 rfl _ rfl (A) ?_)
  go_ret;exact B.out
end
section
open Go.RowKit Mem Led
theorem idxEnt_any(g:Nat)(lb:Array Value)(Y:∀args w,(callFunc g args).run prog w=.ok (.enter g args) w)(p:Led.Entry × Value->Bool)(A:Option Addr)(n c:Nat)(L:List (Led.Entry × Value))(w:World)(h:Es ag 5 w A n L)(Z:n<=9223372036854775807)
  (Q:∀(W:World) (x:Led.Entry × Value),x∈L->eF w W->Calls prog g (#[.agg (ag x).toArray]++lb) W fun e w'=>e=.returned (.bool (p x))/\eF W w') :
  Calls prog 134 #[.slice A n c,.func (.func g) #[] lb] w fun e w'=>e=.returned (.int .i64 (aX p L))/\eF w w':=by
 have C:=h.len bf (by decide)
 have G:=eA C
 obtain⟨r,J⟩:=eD (aX p L)
 rw[J.out]
 have R:=eA Q
 clear Q
 go_enter func134,ntmps134
 go_wp2
 go_loopw [8,5] (fun i _ wr=>∃k:Nat,k<=n/\i=.int .i64 k/\Hid (∀x∈L.take k,p x=false)/\eF w wr) (fun i _ _=>n-(intOf i).toNat)
 case atStart=>exact⟨0,by omega,rfl,eA (by simp),Below.refl _ _⟩
 case round =>
  obtain⟨k,d,rfl,K,D⟩:=hrel;by_cases M:k<n
  .have B:k<L.length:=by rw[C];exact M
   obtain⟨b,S,rfl,T,H⟩:=gZ (h.below D) B;have f:=H wr (Below.refl _ _);clear H;have I:=R.out wr L[k] (List.getElem_mem B) D;have hi:(k:Int)<(n:Int):=by omega
   cases F:p L[k]
   .have U:=eA (dP B K.out F)
    rw[F] at I;generalize (ag L[k]).toArray=X at *;clear F;go_wp2_with fail
    refine I.mono ?_;rintro e V ⟨rfl,E⟩;go_wp2;go_roundw
    case rel=>exact⟨k+1,by omega,by go_num,U,D.trans (E.mono D.size)⟩
    case measure=>simp[intOf];omega
   .have N:=eA (gi B K.out F)
    rw[F] at I;generalize (ag L[k]).toArray=X at *;clear F;go_wp2_with fail
    refine I.mono ?_;rintro e V ⟨rfl,E⟩;go_wp2;go_ret;exact⟨by rw[<-J.out,N.out];rfl,D.trans (E.mono D.size)⟩
  .have O:k=n:=by omega
   have N:=eA (gj (p:=p) (L:=L) (by have:=K.out;rwa [O,List.take_of_length_le (by rw[G.out];exact eH)] at this))
   have hi:¬((k:Int)<(n:Int)):=by omega
   go_wp2;go_ret;exact⟨by rw[<-J.out,N.out];rfl,D⟩
theorem rz(g:Nat)(lb:Array Value)(Y:∀args w,(callFunc g args).run prog w=.ok (.enter g args) w)(p:Led.Node->Bool)(A:Option Addr)(n c:Nat)(L:List (Led.Node))(w:World)(h:Es ae 5 w A n L)(Z:n<=9223372036854775807)
  (Q:∀(W:World) (x:Led.Node),x∈L->eF w W->Calls prog g (#[.agg (ae x).toArray]++lb) W fun e w'=>e=.returned (.bool (p x))/\eF W w') :
  Calls prog 114 #[.slice A n c,.func (.func g) #[] lb] w fun e w'=>e=.returned (.int .i64 (aX p L))/\eF w w':=by
 have C:=h.len aM (by decide)
 have G:=eA C
 obtain⟨r,J⟩:=eD (aX p L)
 rw[J.out]
 have R:=eA Q
 clear Q
 go_enter func114,ntmps114
 go_wp2
 go_loopw [8,5] (fun i _ wr=>∃k:Nat,k<=n/\i=.int .i64 k/\Hid (∀x∈L.take k,p x=false)/\eF w wr) (fun i _ _=>n-(intOf i).toNat)
 case atStart=>exact⟨0,by omega,rfl,eA (by simp),Below.refl _ _⟩
 case round =>
  obtain⟨k,d,rfl,K,D⟩:=hrel;by_cases M:k<n
  .have B:k<L.length:=by rw[C];exact M
   obtain⟨b,S,rfl,T,H⟩:=gY (h.below D) B;have f:=H wr (Below.refl _ _);clear H;have I:=R.out wr L[k] (List.getElem_mem B) D;have hi:(k:Int)<(n:Int):=by omega
   cases F:p L[k]
   .have U:=eA (dP B K.out F)
    rw[F] at I;generalize (ae L[k]).toArray=X at *;clear F;go_wp2_with fail
    refine I.mono ?_;rintro e V ⟨rfl,E⟩;go_wp2;go_roundw
    case rel=>exact⟨k+1,by omega,by go_num,U,D.trans (E.mono D.size)⟩
    case measure=>simp[intOf];omega
   .have N:=eA (gi B K.out F)
    rw[F] at I;generalize (ae L[k]).toArray=X at *;clear F;go_wp2_with fail
    refine I.mono ?_;rintro e V ⟨rfl,E⟩;go_wp2;go_ret;exact⟨by rw[<-J.out,N.out];rfl,D.trans (E.mono D.size)⟩
  .have O:k=n:=by omega
   have N:=eA (gj (p:=p) (L:=L) (by have:=K.out;rwa [O,List.take_of_length_le (by rw[G.out];exact eH)] at this))
   have hi:¬((k:Int)<(n:Int)):=by omega
   go_wp2;go_ret;exact⟨by rw[<-J.out,N.out];rfl,D⟩
theorem rA(g:Nat)(lb:Array Value)(Y:∀args w,(callFunc g args).run prog w=.ok (.enter g args) w)(p:Led.Join->Bool)(A:Option Addr)(n c:Nat)(L:List (Led.Join))(w:World)(h:Es vq 4 w A n L)(Z:n<=9223372036854775807)
  (Q:∀(W:World) (x:Led.Join),x∈L->eF w W->Calls prog g (#[.agg (vq x).toArray]++lb) W fun e w'=>e=.returned (.bool (p x))/\eF W w') :
  Calls prog 87 #[.slice A n c,.func (.func g) #[] lb] w fun e w'=>e=.returned (.int .i64 (aX p L))/\eF w w':=by
 have C:=h.len bm (by decide)
 have G:=eA C
 obtain⟨r,J⟩:=eD (aX p L)
 rw[J.out]
 have R:=eA Q
 clear Q
 go_enter func87,ntmps87
 go_wp2
 go_loopw [8,5] (fun i _ wr=>∃k:Nat,k<=n/\i=.int .i64 k/\Hid (∀x∈L.take k,p x=false)/\eF w wr) (fun i _ _=>n-(intOf i).toNat)
 case atStart=>exact⟨0,by omega,rfl,eA (by simp),Below.refl _ _⟩
 case round =>
  obtain⟨k,d,rfl,K,D⟩:=hrel;by_cases M:k<n
  .have B:k<L.length:=by rw[C];exact M
   obtain⟨b,S,rfl,T,H⟩:=nx (h.below D) B;have f:=H wr (Below.refl _ _);clear H;have I:=R.out wr L[k] (List.getElem_mem B) D;have hi:(k:Int)<(n:Int):=by omega
   cases F:p L[k]
   .have U:=eA (dP B K.out F)
    rw[F] at I;generalize (vq L[k]).toArray=X at *;clear F;go_wp2_with fail
    refine I.mono ?_;rintro e V ⟨rfl,E⟩;go_wp2;go_roundw
    case rel=>exact⟨k+1,by omega,by go_num,U,D.trans (E.mono D.size)⟩
    case measure=>simp[intOf];omega
   .have N:=eA (gi B K.out F)
    rw[F] at I;generalize (vq L[k]).toArray=X at *;clear F;go_wp2_with fail
    refine I.mono ?_;rintro e V ⟨rfl,E⟩;go_wp2;go_ret;exact⟨by rw[<-J.out,N.out];rfl,D.trans (E.mono D.size)⟩
  .have O:k=n:=by omega
   have N:=eA (gj (p:=p) (L:=L) (by have:=K.out;rwa [O,List.take_of_length_le (by rw[G.out];exact eH)] at this))
   have hi:¬((k:Int)<(n:Int)):=by omega
   go_wp2;go_ret;exact⟨by rw[<-J.out,N.out];rfl,D⟩
theorem mB(g:Nat)(lb:Array Value)(Y:∀args w,(callFunc g args).run prog w=.ok (.enter g args) w)(p:Led.Key->Bool)(A:Option Addr)(n c:Nat)(L:List (Led.Key))(w:World)(h:Es ar 4 w A n L)(Z:n<=9223372036854775807)
  (Q:∀(W:World) (x:Led.Key),x∈L->eF w W->Calls prog g (#[.agg (ar x).toArray]++lb) W fun e w'=>e=.returned (.bool (p x))/\eF W w') :
  Calls prog 146 #[.slice A n c,.func (.func g) #[] lb] w fun e w'=>e=.returned (.int .i64 (aX p L))/\eF w w':=by
 have C:=h.len aP (by decide)
 have G:=eA C
 obtain⟨r,J⟩:=eD (aX p L)
 rw[J.out]
 have R:=eA Q
 clear Q
 go_enter func146,ntmps146
 go_wp2
 go_loopw [8,5] (fun i _ wr=>∃k:Nat,k<=n/\i=.int .i64 k/\Hid (∀x∈L.take k,p x=false)/\eF w wr) (fun i _ _=>n-(intOf i).toNat)
 case atStart=>exact⟨0,by omega,rfl,eA (by simp),Below.refl _ _⟩
 case round =>
  obtain⟨k,d,rfl,K,D⟩:=hrel;by_cases M:k<n
  .have B:k<L.length:=by rw[C];exact M
   obtain⟨b,S,rfl,T,H⟩:=nu (h.below D) B;have f:=H wr (Below.refl _ _);clear H;have I:=R.out wr L[k] (List.getElem_mem B) D;have hi:(k:Int)<(n:Int):=by omega
   cases F:p L[k]
   .have U:=eA (dP B K.out F)
    rw[F] at I;generalize (ar L[k]).toArray=X at *;clear F;go_wp2_with fail
    refine I.mono ?_;rintro e V ⟨rfl,E⟩;go_wp2;go_roundw
    case rel=>exact⟨k+1,by omega,by go_num,U,D.trans (E.mono D.size)⟩
    case measure=>simp[intOf];omega
   .have N:=eA (gi B K.out F)
    rw[F] at I;generalize (ar L[k]).toArray=X at *;clear F;go_wp2_with fail
    refine I.mono ?_;rintro e V ⟨rfl,E⟩;go_wp2;go_ret;exact⟨by rw[<-J.out,N.out];rfl,D.trans (E.mono D.size)⟩
  .have O:k=n:=by omega
   have N:=eA (gj (p:=p) (L:=L) (by have:=K.out;rwa [O,List.take_of_length_le (by rw[G.out];exact eH)] at this))
   have hi:¬((k:Int)<(n:Int)):=by omega
   go_wp2;go_ret;exact⟨by rw[<-J.out,N.out];rfl,D⟩
theorem rC(g:Nat)(lb:Array Value)(Y:∀args w,(callFunc g args).run prog w=.ok (.enter g args) w)(p:Led.Bundle × Value->Bool)(A:Option Addr)(n c:Nat)(L:List (Led.Bundle × Value))(w:World)(h:Es ai 3 w A n L)(Z:n<=9223372036854775807)
  (Q:∀(W:World) (x:Led.Bundle × Value),x∈L->eF w W->Calls prog g (#[.agg (ai x).toArray]++lb) W fun e w'=>e=.returned (.bool (p x))/\eF W w') :
  Calls prog 150 #[.slice A n c,.func (.func g) #[] lb] w fun e w'=>e=.returned (.int .i64 (aX p L))/\eF w w':=by
 have C:=h.len aQ (by decide)
 have G:=eA C
 obtain⟨r,J⟩:=eD (aX p L)
 rw[J.out]
 have R:=eA Q
 clear Q
 go_enter func150,ntmps150
 go_wp2
 go_loopw [8,5] (fun i _ wr=>∃k:Nat,k<=n/\i=.int .i64 k/\Hid (∀x∈L.take k,p x=false)/\eF w wr) (fun i _ _=>n-(intOf i).toNat)
 case atStart=>exact⟨0,by omega,rfl,eA (by simp),Below.refl _ _⟩
 case round =>
  obtain⟨k,d,rfl,K,D⟩:=hrel;by_cases M:k<n
  .have B:k<L.length:=by rw[C];exact M
   obtain⟨b,S,rfl,T,H⟩:=jb (h.below D) B;have f:=H wr (Below.refl _ _);clear H;have I:=R.out wr L[k] (List.getElem_mem B) D;have hi:(k:Int)<(n:Int):=by omega
   cases F:p L[k]
   .have U:=eA (dP B K.out F)
    rw[F] at I;generalize (ai L[k]).toArray=X at *;clear F;go_wp2_with fail
    refine I.mono ?_;rintro e V ⟨rfl,E⟩;go_wp2;go_roundw
    case rel=>exact⟨k+1,by omega,by go_num,U,D.trans (E.mono D.size)⟩
    case measure=>simp[intOf];omega
   .have N:=eA (gi B K.out F)
    rw[F] at I;generalize (ai L[k]).toArray=X at *;clear F;go_wp2_with fail
    refine I.mono ?_;rintro e V ⟨rfl,E⟩;go_wp2;go_ret;exact⟨by rw[<-J.out,N.out];rfl,D.trans (E.mono D.size)⟩
  .have O:k=n:=by omega
   have N:=eA (gj (p:=p) (L:=L) (by have:=K.out;rwa [O,List.take_of_length_le (by rw[G.out];exact eH)] at this))
   have hi:¬((k:Int)<(n:Int)):=by omega
   go_wp2;go_ret;exact⟨by rw[<-J.out,N.out];rfl,D⟩
end
section
namespace Led
theorem gV{α:Type}{c:α->α->Int}{p:α->Bool}{l:List α}(h:aY c l):aY c (l.eraseP p):=h.sublist List.eraseP_sublist
theorem bV{α:Type}{p:α->Bool}{l:List α}{y:α}(h:y∈l.eraseP p):y∈l:=List.eraseP_sublist.mem h
theorem jW{α:Type}{p:α->Bool}{l:List α}{n:Nat}(h:l.length<=n):(l.eraseP p).length<=n:=Nat.le_trans List.eraseP_sublist.length_le h
theorem wf_entry{L:Ledger}{e:Entry}(h:L.Wf)(B:e.sels.length<=1000):(fA L e).1.Wf:=by
 unfold fA
 split
 .rename_i hm
  split
  .rename_i l hl
   obtain⟨rfl,A⟩:=mZ hl;exact { h with
    e1:=me rX h.e1
    e2:=fun x hx=>by
     rcases gP hx with rfl|hx
     .exact hm
     .exact h.e2 _ hx
    e3:=A
    e4:=fun x hx=>by
     rcases gP hx with rfl|hx
     .exact B
     .exact h.e4 _ hx }
  .exact h
 .exact h
theorem wf_gone{L:Ledger}{n:Int}(h:L.Wf):(im L n).1.Wf:=by
 unfold im
 split
 .exact { h with e1:=gV h.e1,e2:=fun x hx=>h.e2 _ (bV hx),e3:=jW h.e3,e4:=fun x hx=>h.e4 _ (bV hx) }
 .exact h
theorem kw{α:Type}{l:List α}{x:α}(h:l.Nodup)(hx:x∉l):(l++[x]).Nodup:=by
 rw[List.nodup_append]
 refine⟨h,by simp,?_⟩
 intro a B b A
 simp at A
 subst A
 intro e
 exact hx (e▸B)
theorem wf_token{L:Ledger}{j:Join}(h:L.Wf):(vr L j).1.Wf:=by
 unfold vr
 split
 .exact h
 .rename_i hm
  split
  .exact h
  .rename_i ha
   split
   .exact h
   .rename_i hl
    simp only[Bool.or_eq_true,Bool.not_eq_true',not_or,Bool.not_eq_false] at hm;refine { h with j1:=?_,j2:=?_,j3:=?_ }
    .show ((L.joins++[j]).map Join.text).Nodup
     rw[List.map_append];refine kw h.j1 ?_;intro hx;obtain⟨k,A,B⟩:=List.mem_map.1 hx;exact ha (List.any_eq_true.2 ⟨k,A,by simp[B]⟩)
    .intro k A
     rcases List.mem_append.1 A with A|A
     .exact h.j2 _ A
     .simp at A
      subst A;exact hm.1
    .show (L.joins++[j]).length<=16
     simp
     omega
theorem kx(L:Ledger)(n:Node):((aR L n).2≠0/\(aR L n).1=L)\/((aR L n).2=0/\cH n=true/\n.name∉L.bans/\(ins cN n L.nodes).length<=4/\(aR L n).1={ L with nodes:=ins cN n L.nodes }):=by
 unfold aR
 split
 .rename_i hm
  split
  .exact .inl ⟨by simp,rfl⟩
  .rename_i hb
   split
   .rename_i l hl
    obtain⟨rfl,A⟩:=mZ hl;exact .inr ⟨rfl,hm,by simpa using hb,A,rfl⟩
   .exact .inl ⟨by simp,rfl⟩
 .exact .inl ⟨by simp,rfl⟩
theorem wf_node{L:Ledger}{n:Node}(h:L.Wf):(aR L n).1.Wf:=by
 rcases kx L n with⟨_,A⟩|⟨_,C,D,B,A⟩
 .rw [A];exact h
 .rw [A]
  exact { h with
   n1:=me rW h.n1
   n2:=fun x hx=>by
    rcases gP hx with rfl|hx
    .exact C
    .exact h.n2 _ hx
   n3:=B
   b4:=fun x hx=>by
    rcases gP hx with rfl|hx
    .exact D
    .exact h.b4 _ hx }
theorem uT{j:Join}:cI { j with used:=true }=cI j:=rfl
theorem wf_join{L:Ledger}{t:Txt}{n:Node}(h:L.Wf):(fF L t n).1.Wf:=by
 unfold fF
 split
 .exact h
 .split
  .exact h
  .split
   .split
    .have B:=wf_node (n:=n) h
     rcases kx L n with⟨D,C⟩|⟨_,_,_,_,C⟩
     .rename_i hz
      simp at hz
      exact absurd hz D
     .rw [C] at B ⊢
      refine { B with j1:=?_,j2:=?_,j3:=?_ }
      .show ((dH _ _ L.joins).map Join.text).Nodup
       rw[ng (f:=fun j:Join=>{ j with used:=true }) Join.text (fun _=>rfl)];exact h.j1
      .intro k A
       rcases iZ A with A|⟨a,E,_,rfl⟩
       .exact h.j2 _ A
       .rw [uT];exact h.j2 _ E
      .show (dH _ _ L.joins).length<=16
       rw[gW];exact h.j3
    .exact h
   .exact h
theorem pk{s:Txt}{x:Node}:∀{l:List Node},aY cN l->x∈l.eraseP (fun n=>n.name==s)->¬x.name=s
 | a::l,hr,hx,hs=>by
  unfold aY at hr;rw[List.pairwise_cons] at hr;by_cases B:(a.name==s)=true
  .have e:(a::l).eraseP (fun n=>n.name==s)=l:=by simp only[List.eraseP_cons,B];rfl
   have A:x∈l:=by rw[<-e];exact hx
   have:=hr.1 x A;unfold cN at this;rw[mw,show a.name=s from by simpa using B,hs] at this;exact List.lt_irrefl _ this
  .have e:(a::l).eraseP (fun n=>n.name==s)=a::l.eraseP (fun n=>n.name==s):=by simp only[List.eraseP_cons,B];rfl
   have A:x∈a::l.eraseP (fun n=>n.name==s):=by rw[<-e];exact hx
   rcases List.mem_cons.1 A with rfl|A
   .exact B (by simp[hs])
   .exact pk (l:=l) hr.2 A hs
theorem wf_ban{L:Ledger}{s:Txt}(h:L.Wf):(ii L s).1.Wf:=by
 unfold ii
 split
 .rename_i hm
  split
  .exact h
  .split
   .rename_i l hl
    obtain⟨rfl,B⟩:=mZ hl;refine { h with b1:=me ord_cmp' h.b1,b2:=?_,b3:=B,n1:=gV h.n1,n2:=fun x hx=>h.n2 _ (bV hx),n3:=jW h.n3,b4:=?_ }
    .intro x hx
     rcases gP hx with rfl|hx
     .exact hm
     .exact h.b2 _ hx
    .intro x hx A
     rcases gP A with C|A
     .exact pk h.n1 hx C
     .exact h.b4 _ (bV hx) A
   .exact h
 .exact h
theorem wf_lift{L:Ledger}{s:Txt}(h:L.Wf):(jg L s).1.Wf:=by
 unfold jg
 split
 .exact { h with b1:=gV h.b1,b2:=fun x hx=>h.b2 _ (bV hx),b3:=jW h.b3,b4:=fun x hx A=>h.b4 _ hx (bV A) }
 .exact h
theorem wf_evict{L:Ledger}{s:Txt}(h:L.Wf):(gq L s).1.Wf:=by
 unfold gq
 split
 .exact { h with n1:=gV h.n1,n2:=fun x hx=>h.n2 _ (bV hx),n3:=jW h.n3,b4:=fun x hx A=>h.b4 _ (bV hx) A }
 .exact h
theorem count_none{α:Type}{p:α->Bool}{l:List α}(h:¬l.any p=true):l.countP p=0:=by
 rw[List.countP_eq_zero]
 intro a A B
 exact h (List.any_eq_true.2 ⟨a,A,B⟩)
theorem wf_prepare{L:Ledger}{k:Key}(h:L.Wf):(dU L k).1.Wf:=by
 unfold dU
 split
 .exact h
 .rename_i hm
  split
  .exact h
  .rename_i ha
   split
   .exact h
   .rename_i hl
    simp only[Bool.or_eq_true,Bool.not_eq_true',not_or,Bool.not_eq_false] at hm ha;have B:k.state=1:=by simpa using hm.2
    refine { h with k1:=?_,k2:=?_,k3:=?_,k4:=?_,k5:=?_ }
    .show ((L.keys++[k]).map Key.kid).Nodup
     rw[List.map_append];refine kw h.k1 ?_;intro hx;obtain⟨j,A,C⟩:=List.mem_map.1 hx;exact ha.2 (List.any_eq_true.2 ⟨j,A,by simp[C]⟩)
    .intro j A
     rcases List.mem_append.1 A with A|A
     .exact h.k2 _ A
     .simp at A
      subst A;exact hm.1
    .show (L.keys++[k]).length<=8
     simp
     omega
    .show (L.keys++[k]).countP _<=1
     rw[List.countP_append,count_none ha.1];exact Nat.le_trans (Nat.add_le_add (Nat.le_refl 0) List.countP_le_length) (by simp)
    .show (L.keys++[k]).countP _<=1
     rw[List.countP_append];have:[k].countP (fun k=>k.state==2)=0:=by simp[B]
     rw[this];exact h.k5
theorem mF{α:Type}{p q:α->Bool}{f:α->α}(A:∀a,p a=true->q (f a)=false):∀{l:List α},(dH p f l).countP q<=l.countP q
 | []=>eH
 | a::l=>by
  unfold dH;split
  .rename_i hp
   rw[List.countP_cons,List.countP_cons,A a hp];simp
  .rw [List.countP_cons,List.countP_cons]
   have:=mF A (l:=l);omega
theorem rQ{α:Type}{p:α->Bool}{f:α->α}(A:∀a,p (f a)=false):∀{l:List α},(dH p f l).countP p=l.countP p-1
 | []=>rfl
 | a::l=>by
  unfold dH;split
  .rename_i hp
   rw[List.countP_cons,List.countP_cons,A a,hp];simp
  .rename_i hp
   rw[List.countP_cons,List.countP_cons];have:=rQ A (l:=l);simp[hp,this]
theorem rP{α:Type}{p q:α->Bool}{f:α->α}:∀{l:List α},(dH p f l).countP q<=l.countP q+1
 | []=>by simp[dH]
 | a::l=>by
  unfold dH;split
  .rw [List.countP_cons,List.countP_cons]
   split<;>split<;>omega
  .rw [List.countP_cons,List.countP_cons]
   have:=rP (p:=p) (q:=q) (f:=f) (l:=l);omega
theorem nh{k:Key}{s n:Int}(h:dx k=true)(A:1<=s/\s<=3)(B:aD n 0 1099511627776=true):dx { k with state:=s,since:=n }=true:=by
 unfold dx at h ⊢
 simp only[Bool.and_eq_true] at h ⊢
 exact⟨⟨h.1.1,by simp[aD,A]⟩,B⟩
theorem wf_active{L:Ledger}{n:Int}(h:L.Wf):(dK L n).1.Wf:=by
 unfold dK
 split
 .rename_i hn
  split
  .refine { h with k1:=?_,k2:=?_,k3:=?_,k4:=?_,k5:=?_ }
   .show ((dH _ _ (eo n L.keys)).map Key.kid).Nodup
    unfold eo;rw[ng (f:=fun j:Key=>{ j with state:=2,since:=n }) Key.kid (fun _=>rfl),ng (f:=fun j:Key=>{ j with state:=3,since:=n }) Key.kid (fun _=>rfl)];exact h.k1
   .intro k A
    have D:∀j∈eo n L.keys,dx j=true:=fun j B=>by
     rcases iZ B with B|⟨a,C,_,rfl⟩
     .exact h.k2 _ B
     .exact nh (h.k2 _ C) (by omega) hn
    rcases iZ A with A|⟨a,C,_,rfl⟩
    .exact D _ A
    .exact nh (D _ C) (by omega) hn
   .show (dH _ _ (eo n L.keys)).length<=8
    unfold eo;rw[gW,gW];exact h.k3
   .show (dH _ _ (eo n L.keys)).countP _<=1
    refine Nat.le_trans (mF (fun a _=>rfl)) (Nat.le_trans (mF (fun a _=>rfl)) h.k4)
   .show (dH _ _ (eo n L.keys)).countP _<=1
    have E:=rP (p:=fun j:Key=>j.state==1) (q:=fun j:Key=>j.state==2) (f:=fun j=>{ j with state:=2,since:=n }) (l:=eo n L.keys);have F:(eo n L.keys).countP (fun j=>j.state==2)=L.keys.countP (fun j=>j.state==2)-1:=rQ (fun a=>rfl);have:=h.k5;omega
  .exact h
 .exact h
theorem wf_drop{L:Ledger}{s:Txt}(h:L.Wf):(jh L s).1.Wf:=by
 unfold jh
 split
 .refine { h with k1:=?_,k2:=fun x hx=>h.k2 _ (bV hx),k3:=jW h.k3,k4:=?_,k5:=?_ }
  .exact h.k1.sublist (List.eraseP_sublist.map _)
  .exact Nat.le_trans (List.eraseP_sublist.countP_le) h.k4
  .exact Nat.le_trans (List.eraseP_sublist.countP_le) h.k5
 .exact h
theorem wf_bundle{ok:Bool}{L:Ledger}{b:Bundle}(h:L.Wf)(B:b.keys.length<=1000):(bQ ok L b).1.Wf:=by
 unfold bQ
 split
 .split
  .exact h
  .split
   .rename_i l hl
    obtain⟨rfl,A⟩:=mZ hl;exact { h with
     u1:=me lI h.u1
     u2:=fun x hx=>by
      rcases gP hx with rfl|hx
      .exact B
      .exact h.u2 _ hx
     u3:=A }
   .exact h
 .exact h
theorem wf_unbind{L:Ledger}{s:Txt}(h:L.Wf):(dz L s).1.Wf:=by
 unfold dz
 split
 .exact { h with u1:=gV h.u1,u2:=fun x hx=>h.u2 _ (bV hx),u3:=jW h.u3 }
 .exact h
theorem qB{α:Type}{c:α->α->Int}{p:α->Bool}{f:α->α}(C:∀a b,c (f a) b=c a b)(D:∀a b,c a (f b)=c a b):∀{l:List α},aY c l->aY c (dH p f l)
 | [],h=>h
 | a::l,h=>by
  unfold aY at h ⊢;rw[List.pairwise_cons] at h;unfold dH;split
  .rw [List.pairwise_cons]
   exact⟨fun b A=>by rw[C];exact h.1 _ A,h.2⟩
  .rw [List.pairwise_cons]
   refine⟨fun b A=>?_,qB C D h.2⟩;rcases iZ A with A|⟨b',B,_,rfl⟩
   .exact h.1 _ A
   .rw [D];exact h.1 _ B
theorem wf_seq{L:Ledger}{s:Txt}{n:Int}(h:L.Wf):(jZ L s n).1.Wf:=by
 unfold jZ
 split
 .exact h
 .rename_i d hd
  split
  .exact h
  .rename_i hc
   simp only[Bool.or_eq_true,decide_eq_true_eq,not_or] at hc;refine { h with n1:=qB (f:=fun d:Node=>{ d with seq:=n }) (fun _ _=>rfl) (fun _ _=>rfl) h.n1,n2:=?_,n3:=?_,b4:=?_ }
   .intro x hx
    rcases iZ hx with hx|⟨a,C,_,rfl⟩
    .exact h.n2 _ hx
    .have A:=h.n2 _ C
     have B:=h.n2 _ (List.mem_of_find?_eq_some hd);unfold cH aD at A B ⊢;simp only[Bool.and_eq_true,decide_eq_true_eq] at A B ⊢;exact⟨⟨A.1.1,by omega⟩,A.2⟩
   .show (dH _ _ L.nodes).length<=4
    rw[gW];exact h.n3
   .intro x hx
    rcases iZ hx with hx|⟨a,C,_,rfl⟩
    .exact h.b4 _ hx
    .exact h.b4 a C
theorem does_wf{ok:Bool}{L:Ledger}{o:Op}(h:L.Wf)(Q:o.entry.sels.length<=1000)(R:o.bundle.keys.length<=1000):(does ok L o).1.Wf:=by
 unfold does
 by_cases E:o.kind=1
 .rw [if_pos E];exact wf_entry h Q
 rw[if_neg E]
 by_cases H:o.kind=2
 .rw [if_pos H];exact wf_gone h
 rw[if_neg H]
 by_cases F:o.kind=3
 .rw [if_pos F];exact wf_token h
 rw[if_neg F]
 by_cases I:o.kind=4
 .rw [if_pos I];exact wf_join h
 rw[if_neg I]
 by_cases J:o.kind=5
 .rw [if_pos J];exact wf_node h
 rw[if_neg J]
 by_cases N:o.kind=6
 .rw [if_pos N];exact wf_ban h
 rw[if_neg N]
 by_cases K:o.kind=7
 .rw [if_pos K];exact wf_lift h
 rw[if_neg K]
 by_cases G:o.kind=8
 .rw [if_pos G];exact wf_evict h
 rw[if_neg G]
 by_cases A:o.kind=9
 .rw [if_pos A];exact wf_prepare h
 rw[if_neg A]
 by_cases B:o.kind=10
 .rw [if_pos B];exact wf_active h
 rw[if_neg B]
 by_cases M:o.kind=11
 .rw [if_pos M];exact wf_drop h
 rw[if_neg M]
 by_cases C:o.kind=12
 .rw [if_pos C];exact wf_bundle h R
 rw[if_neg C]
 by_cases D:o.kind=13
 .rw [if_pos D];exact wf_unbind h
 rw[if_neg D]
 by_cases O:o.kind=14
 .rw [if_pos O];exact wf_seq h
 rw[if_neg O]
 exact h
end Led
end
section
namespace Led
section
variable {α:Type}{c:α->α->Int}{x:α}
def aU(c:α->α->Int)(x:α):Bool->List α->List α
 | d,[]=>if d then [] else [x]
 | d,y::l=>(if !d&&decide (0<=c y x) then [x] else [])++(if decide (c y x=0) then [] else [y])++aU c x (d||decide (0<=c y x)) l
theorem iK:∀l:List α,aU c x true l=l.filter (fun y=>!decide (c y x=0))
 | []=>rfl
 | y::l=>by
  rw[aU,Bool.true_or,iK l,List.filter_cons];by_cases h:c y x=0<;>simp[h]
theorem pu{y:α}{t:List α}(B:Cmp c)(h:∀z∈t,c y z<0)(h0:0<=c y x):∀z∈t,0<c z x:=by
 intro z C
 have A:=h z C
 rw[<-B.flip]
 by_cases D:c y x=0
 .exact(B.left _ _ _ D).1 A
 .have:c x y<0:=(B.flip _ _).2 (by omega)
  exact B.trans _ _ _ this A
theorem dD{p:α->Bool}{t:List α}(h:∀z∈t,p z=false):t.filter p=[]:=by
 rw[List.filter_eq_nil_iff]
 intro z A
 rw[h z A]
 simp
theorem di{p:α->Bool}{t:List α}(h:∀z∈t,p z=true):t.filter p=t:=List.filter_eq_self.2 h
theorem gE(E:Cmp c):∀{l:List α},aY c l->aU c x false l=ins c x l
 | [],_=>rfl
 | y::l,h=>by
  unfold aY at h;rw[List.pairwise_cons] at h;by_cases h0:0<=c y x
  .have B:=pu E h.1 h0
   rw[aU];simp only[h0,decide_true,Bool.not_false,Bool.and_true,Bool.or_true,iK];unfold ins;rw[List.filter_cons,List.filter_cons,dD (t:=l) (fun z A=>decide_eq_false (by have:=B z A;omega)),di (t:=l) (fun z A=>decide_eq_true (B z A)),
    di (t:=l) (fun z A=>by have:=B z A;rw[decide_eq_false (by omega)];rfl)]
   by_cases F:c y x=0
   .simp [F]
   .have C:¬c y x<0:=by omega
    have D:0<c y x:=by omega
    simp[F,C,D]
  .have ih:=gE E (l:=l) h.2
   have C:c y x<0:=by omega
   have D:¬c y x=0:=by omega
   have G:¬0<c y x:=by omega
   rw[aU];simp only[h0,D,decide_false,Bool.and_false,Bool.or_false,ih];unfold ins;simp[C,G]
theorem iC(B:Cmp c):∀{l:List α},aY c l->l.eraseP (fun y=>decide (c y x=0))=l.filter (fun y=>!decide (c y x=0))
 | [],_=>rfl
 | y::l,h=>by
  unfold aY at h;rw[List.pairwise_cons] at h;by_cases A:c y x=0
  .have C:=pu (x:=x) B h.1 (by omega)
   have e:(y::l).eraseP (fun y=>decide (c y x=0))=l:=by simp only[List.eraseP_cons,A,decide_true];rfl
   rw[e,List.filter_cons];simp only[A,decide_true,Bool.not_true];exact(di (fun z D=>by have:=C z D;rw[decide_eq_false (by omega)];rfl)).symm
  .have ih:=iC B (l:=l) h.2
   have e:(y::l).eraseP (fun y=>decide (c y x=0))=y::l.eraseP (fun y=>decide (c y x=0)):=by simp only[List.eraseP_cons,A,decide_false];rfl
   rw[e,ih,List.filter_cons];simp[A]
structure j5(c:α->α->Int)(x:α)(l:List α)(k:Nat):Prop where
 le:k<=l.length
 lo:∀y∈l.take k,c y x<0
 hi:∀y∈l.drop k,0<=c y x
theorem j5.ins_set(G:Cmp c){l:List α}{k:Nat}(h:aY c l)(H:j5 c x l k)(E:k<l.length)(I:c l[k] x=0):ins c x l=l.set k x:=by
 have e:l=l.take k++l[k]::l.drop (k+1):=by rw[<-List.drop_eq_getElem_cons E,List.take_append_drop]
 have hd:∀z∈l.drop (k+1),0<c z x:=by
  have F:aY c (l[k]::l.drop (k+1)):=by rw[<-List.drop_eq_getElem_cons E];exact h.sublist (List.drop_sublist _ _)
  unfold aY at F;rw[List.pairwise_cons] at F;exact pu G F.1 (by omega)
 rw[List.set_eq_take_append_cons_drop,if_pos E]
 have D:=H.lo
 generalize l.take k=A at *
 generalize l.drop (k+1)=B at *
 generalize l[k]=y at *
 rw[e]
 unfold ins
 rw[List.filter_append,List.filter_append,List.filter_cons,List.filter_cons,di (t:=A) (fun z C=>decide_eq_true (D z C)),dD (t:=B) (fun z C=>decide_eq_false (by have:=hd z C;omega)),
  dD (t:=A) (fun z C=>decide_eq_false (by have:=D z C;omega)),di (t:=B) (fun z C=>decide_eq_true (hd z C))]
 simp[I]
theorem j5.ins_new{l:List α}{k:Nat}(F:j5 c x l k)(G:∀y∈l.drop k,c y x≠0):ins c x l=l.take k++x::l.drop k:=by
 have D:=F.lo
 have E:=F.hi
 have e:l=l.take k++l.drop k:=(List.take_append_drop k l).symm
 generalize l.take k=A at *
 generalize l.drop k=B at *
 rw[e]
 unfold ins
 rw[List.filter_append,List.filter_append,di (t:=A) (fun z C=>decide_eq_true (D z C)),dD (t:=B) (fun z C=>decide_eq_false (by have:=E z C;omega)),
  dD (t:=A) (fun z C=>decide_eq_false (by have:=D z C;omega)),di (t:=B) (fun z C=>decide_eq_true (by have:=E z C;have:=G z C;omega))]
 simp
theorem j5.new_of(E:Cmp c){l:List α}{k:Nat}(h:aY c l)(F:j5 c x l k)(G:∀B:k<l.length,c l[k] x≠0):∀y∈l.drop k,c y x≠0:=by
 intro y A
 by_cases B:k<l.length
 .have H:=F.hi l[k] (by rw[List.drop_eq_getElem_cons B];exact List.mem_cons_self)
  have C:=G B;rw[List.drop_eq_getElem_cons B] at A;have D:aY c (l[k]::l.drop (k+1)):=by rw[<-List.drop_eq_getElem_cons B];exact h.sublist (List.drop_sublist _ _)
  unfold aY at D;rw[List.pairwise_cons] at D;rcases List.mem_cons.1 A with rfl|A
  .exact C
  .have:=pu E D.1 (x:=x) (by omega) y A
   omega
 .rw [List.drop_of_length_le (by omega)] at A
  cases A
structure cL(c:α->α->Int)(x:α)(l:List α)(i j:Nat):Prop where
 le:i<=j
 len:j<=l.length
 lo:∀y∈l.take i,c y x<0
 hi:∀y∈l.drop j,0<=c y x
theorem cL.start(l:List α):cL c x l 0 l.length:=⟨Nat.zero_le _,eH,by simp,by simp⟩
theorem cL.place{l:List α}{i:Nat}(h:cL c x l i i):j5 c x l i:=⟨h.len,h.lo,h.hi⟩
theorem cL.up(E:Cmp c){l:List α}{i j m:Nat}(F:aY c l)(h:cL c x l i j)(H:m<j)(D:m<l.length)(B:c l[m] x<0):cL c x l (m+1) j:=by
 refine⟨by omega,h.len,?_,h.hi⟩
 intro y A
 rw[List.take_succ_eq_append_getElem D] at A
 rcases List.mem_append.1 A with A|A
 .obtain⟨k,G,rfl⟩:=List.mem_iff_getElem.1 A
  have C:k<m:=by simp at G;omega
  have:=List.pairwise_iff_getElem.1 F k m (by omega) D C;rw[List.getElem_take];exact E.trans _ _ _ this B
 .simp at A
  subst A;exact B
theorem cL.down(D:Cmp c){l:List α}{i j m:Nat}(E:aY c l)(h:cL c x l i j)(F:i<=m)(G:m<l.length)(A:¬c l[m] x<0):cL c x l i m:=by
 refine⟨F,by omega,h.lo,?_⟩
 intro y H
 obtain⟨k,I,rfl⟩:=List.mem_iff_getElem.1 H
 rw[List.getElem_drop]
 rcases Nat.eq_zero_or_pos k with rfl|J
 .simpa using A
 .have B:m+k<l.length:=by simp at I;omega
  have C:=List.pairwise_iff_getElem.1 E m (m+k) G B (by omega);have K:0<=c l[m] x:=by omega
  have:=pu (c:=c) (x:=x) (y:=l[m]) (t:=[l[m+k]]) D (by simpa using C) K l[m+k] (by simp);omega
end
end Led
end
section
open Go.RowKit Mem Led
theorem iB{α:Type}(p:α->Bool)(L:List α):decide (0<=aX p L)=L.any p:=by
 unfold aX
 cases h:L.findIdx? p with
 | none =>
  rw[List.findIdx?_eq_none_iff] at h;have:L.any p=false:=by rw[List.any_eq_false];intro x hx;rw[h x hx];simp
  rw[this];rfl
 | some i =>
  obtain⟨hi,A,_⟩:=List.findIdx?_eq_some_iff_getElem.1 h;have:L.any p=true:=List.any_eq_true.2 ⟨_,List.getElem_mem hi,A⟩;rw[this];simp
def Found{α:Type}(c:α->α->Int)(x:α)(L:List α)(w:World)(e:Ending)(w':World):Prop :=
 ∃k,∃f:Bool,e=.returned (.tuple #[.int .i64 (k:Nat),.bool f])/\Led.j5 c x L k/\(f=true↔∃A:k<L.length,c L[k] x=0)/\eF w w'
theorem hasJoi_any(g:Nat)(lb:Array Value)(C:∀args w,(callFunc g args).run prog w=.ok (.enter g args) w)(p:Led.Join->Bool)(A:Option Addr)(n c:Nat)(L:List (Led.Join))(w:World)(h:Es vq 4 w A n L)(D:n<=9223372036854775807)
  (E:∀(W:World) (x:Led.Join),x∈L->eF w W->Calls prog g (#[.agg (vq x).toArray]++lb) W fun e w'=>e=.returned (.bool (p x))/\eF W w') :
  Calls prog 85 #[.slice A n c,.func (.func g) #[] lb] w fun e w'=>e=.returned (.bool (L.any p))/\eF w w':=by
 have F:=rA g lb C p A n c L w h D E
 rw[<-iB]
 generalize aX p L=r at *
 go_enter func85,ntmps85
 go_wp2_with fail
 refine F.mono ?_
 rintro e G ⟨rfl,B⟩
 go_wp2
 go_ret
 exact⟨by first|rfl|simp,B⟩
theorem hasKey_any(g:Nat)(lb:Array Value)(C:∀args w,(callFunc g args).run prog w=.ok (.enter g args) w)(p:Led.Key->Bool)(A:Option Addr)(n c:Nat)(L:List (Led.Key))(w:World)(h:Es ar 4 w A n L)(D:n<=9223372036854775807)
  (E:∀(W:World) (x:Led.Key),x∈L->eF w W->Calls prog g (#[.agg (ar x).toArray]++lb) W fun e w'=>e=.returned (.bool (p x))/\eF W w') :
  Calls prog 102 #[.slice A n c,.func (.func g) #[] lb] w fun e w'=>e=.returned (.bool (L.any p))/\eF w w':=by
 have F:=mB g lb C p A n c L w h D E
 rw[<-iB]
 generalize aX p L=r at *
 go_enter func102,ntmps102
 go_wp2_with fail
 refine F.mono ?_
 rintro e G ⟨rfl,B⟩
 go_wp2
 go_ret
 exact⟨by first|rfl|simp,B⟩
theorem hasBun_any(g:Nat)(lb:Array Value)(C:∀args w,(callFunc g args).run prog w=.ok (.enter g args) w)(p:Led.Bundle × Value->Bool)(A:Option Addr)(n c:Nat)(L:List (Led.Bundle × Value))(w:World)(h:Es ai 3 w A n L)(D:n<=9223372036854775807)
  (E:∀(W:World) (x:Led.Bundle × Value),x∈L->eF w W->Calls prog g (#[.agg (ai x).toArray]++lb) W fun e w'=>e=.returned (.bool (p x))/\eF W w') :
  Calls prog 108 #[.slice A n c,.func (.func g) #[] lb] w fun e w'=>e=.returned (.bool (L.any p))/\eF w w':=by
 have F:=rC g lb C p A n c L w h D E
 rw[<-iB]
 generalize aX p L=r at *
 go_enter func108,ntmps108
 go_wp2_with fail
 refine F.mono ?_
 rintro e G ⟨rfl,B⟩
 go_wp2
 go_ret
 exact⟨by first|rfl|simp,B⟩
theorem bsEnt_any(g:Nat)(eg:∀args w,(callFunc g args).run prog w=.ok (.enter g args) w)(cf:Led.Entry × Value->Led.Entry × Value->Int)(R:Cmp cf)(x:Led.Entry × Value)(A:Option Addr)(n c:Nat)(L:List (Led.Entry × Value))(u:aY cf L)(w:World)(h:Es ag 5 w A n L)(hn:n<=4000000000000000000)
  (z:∀(W:World) (y:Led.Entry × Value),y∈L->eF w W->Calls prog g (#[.agg (ag y).toArray,.agg (ag x).toArray]) W fun e w'=>e=.returned (.int .i64 (cf y x))/\eF W w') :
  Calls prog 132 #[.slice A n c,.agg (ag x).toArray,.func (.func g) #[] #[]] w (Found cf x L w):=by
 have C:=h.len bf (by decide)
 have Aa:=eA C
 have l:=eA z
 have HR:=eA u
 have HC:=eA R
 clear z u R
 obtain⟨Y,d⟩:=eC ((ag x).toArray)
 obtain⟨W,S⟩:=eC (w.alloc (.cells (ag x).toArray 36))
 have G:Blk W w.heap.size (ag x) 36:=by rw[<-S];exact Blk.new w _ _
 have T:eF w W:=eG S
 rw[d] at S
 have HW:=eA S
 have f:=eA d
 rw[d]
 clear S d
 go_enter func132,ntmps132
 go_upto_region 1 with fail
 rw[HW.out]
 clear HW
 go_wp2_with fail
 go_loopw [9,10,11] (fun i j _ wr=>∃a b:Nat,i=.int .i64 a/\j=.int .i64 b/\a<=n/\b<=n/\Hid (cL cf x L a b)/\eF w wr/\Blk wr w.heap.size (ag x) 36) (fun i j _ _=>(intOf j).toNat-(intOf i).toNat)
 case atStart=>exact⟨0,n,rfl,rfl,by omega,by omega,eA (by have:=cL.start (c:=cf) (x:=x) L;rwa [C] at this),T,G⟩
 case round =>
  clear T G;obtain⟨a,b,rfl,rfl,ha,hb,D,B,G⟩:=hrel;have Ac:=D.out.le;by_cases Ad:a<b
  .have hi:(a:Int)<(b:Int):=by omega
   obtain⟨m,hm⟩:∃m:Nat,(a+b) / 2=m:=⟨_,rfl⟩;have o:a<=m:=by omega
   have q:m<b:=by omega
   have F:m<L.length:=by rw[C];omega
   have Ab:((a:Int)+(b:Int)) / 2=(m:Int):=by omega
   have hv:=l.out;obtain⟨J,K,rfl,U,E⟩:=gZ (h.below B) F;have r:∀p,(gz (.pointer (some ⟨J,K+m*5,none⟩))).run prog (ab wr p)=.ok (.agg (ag L[m]).toArray) (ab wr p):=fun p=>E _ (aa wr p);have s:∀p,(gz (.pointer (some ⟨w.heap.size,0,none⟩))).run prog (ab wr p)=.ok (.agg Y) (ab wr p):=fun p=>by rw[<-f.out];exact eT (G.below (aa wr p)) rfl
   have Q:Hid (∀p,Calls prog g #[.agg (ag L[m]).toArray,.agg Y] (ab wr p) fun e w'=>e=.returned (.int .i64 (cf L[m] x))/\Below (ab wr p).heap.size (ab wr p) w'):=eA fun p=>by rw[<-f.out];exact l.out _ _ (List.getElem_mem F) (B.trans ((aa wr p).mono B.size))
   have M:=eA (D.out.up HC.out HR.out q F);have N:=eA (D.out.down HC.out HR.out o F);have gm:(m:Int)<(n:Int):=by omega
   have Ae:=G;clear hv E D;generalize (ag L[m]).toArray=X at *;generalize cf L[m] x=v at *;go_upto_region 5 with fail
   refine au ?_;repeat (go_big_quiet_step (exact aq (Q.out _)))
   refine wpQuiet_nil ?_;rintro _ ⟨H,rfl⟩;have I:=aa wr H;clear r s Q;generalize ab wr H=w5 at *;by_cases V:v<0
   .have D:=eA (M.out V)
    clear M N;go_wp2_with fail
    go_roundw
    case rel=>exact⟨m+1,b,by go_num,rfl,by omega,hb,D,B.trans (I.mono B.size),G.below I⟩
    case measure=>simp[intOf];omega
   .have D:=eA (N.out V)
    clear M N;go_wp2_with fail
    go_roundw
    case rel=>exact⟨a,m,rfl,rfl,ha,by omega,D,B.trans (I.mono B.size),G.below I⟩
    case measure=>simp[intOf];omega
  .obtain rfl:a=b:=by omega
   have Z:=eA D.out.place;have hi:¬((a:Int)<(a:Int)):=by omega
   by_cases t:a<n
   .have O:a<L.length:=by rw[C];exact t
    obtain⟨J,K,rfl,U,E⟩:=gZ (h.below B) O;have r:∀p,(gz (.pointer (some ⟨J,K+a*5,none⟩))).run prog (ab wr p)=.ok (.agg (ag L[a]).toArray) (ab wr p):=fun p=>E _ (aa wr p);have s:∀p,(gz (.pointer (some ⟨w.heap.size,0,none⟩))).run prog (ab wr p)=.ok (.agg Y) (ab wr p):=fun p=>by rw[<-f.out];exact eT (G.below (aa wr p)) rfl
    have Q:Hid (∀p,Calls prog g #[.agg (ag L[a]).toArray,.agg Y] (ab wr p) fun e w'=>e=.returned (.int .i64 (cf L[a] x))/\Below (ab wr p).heap.size (ab wr p) w'):=eA fun p=>by rw[<-f.out];exact l.out _ _ (List.getElem_mem O) (B.trans ((aa wr p).mono B.size))
    have k:Hid (cf L[a] x=0↔∃hk:a<L.length,cf L[a] x=0):=eA ⟨fun e=>⟨O,e⟩,fun ⟨_,e⟩=>e⟩;have gm:(a:Int)<(n:Int):=by omega
    clear E D;generalize (ag L[a]).toArray=X at *;generalize hvv:cf L[a] x=v at Q k;clear hvv;go_wp2_with fail
    refine au ?_;repeat (go_big_quiet_step (exact aq (Q.out _)))
    refine wpQuiet_nil ?_;rintro _ ⟨H,rfl⟩;have I:=aa wr H;clear r s Q;generalize ab wr H=w5 at *;go_wp2_with fail
    go_ret2;exact⟨a,_,rfl,Z.out,by rw[<-k.out];simp,B.trans (I.mono B.size)⟩
   .have gm:¬((a:Int)<(n:Int)):=by omega
    have k:Hid (¬∃hk:a<L.length,cf L[a] x=0):=eA (fun ⟨hk,_⟩=>by omega);clear D;go_wp2_with fail
    refine au ?_;repeat (go_big_quiet_step (fail))
    refine wpQuiet_nil ?_;rintro _ ⟨H,rfl⟩;have I:=aa wr H;generalize ab wr H=w5 at *;go_wp2_with fail
    go_ret2;exact⟨a,false,rfl,Z.out,⟨fun e=>by simp at e,fun e=>absurd e k.out⟩,B.trans (I.mono B.size)⟩
theorem bsNod_any(g:Nat)(eg:∀args w,(callFunc g args).run prog w=.ok (.enter g args) w)(cf:Led.Node->Led.Node->Int)(R:Cmp cf)(x:Led.Node)(A:Option Addr)(n c:Nat)(L:List (Led.Node))(u:aY cf L)(w:World)(h:Es ae 5 w A n L)(hn:n<=4000000000000000000)
  (z:∀(W:World) (y:Led.Node),y∈L->eF w W->Calls prog g (#[.agg (ae y).toArray,.agg (ae x).toArray]) W fun e w'=>e=.returned (.int .i64 (cf y x))/\eF W w') :
  Calls prog 137 #[.slice A n c,.agg (ae x).toArray,.func (.func g) #[] #[]] w (Found cf x L w):=by
 have C:=h.len aM (by decide)
 have Aa:=eA C
 have l:=eA z
 have HR:=eA u
 have HC:=eA R
 clear z u R
 obtain⟨Y,d⟩:=eC ((ae x).toArray)
 obtain⟨W,S⟩:=eC (w.alloc (.cells (ae x).toArray 40))
 have G:Blk W w.heap.size (ae x) 40:=by rw[<-S];exact Blk.new w _ _
 have T:eF w W:=eG S
 rw[d] at S
 have HW:=eA S
 have f:=eA d
 rw[d]
 clear S d
 go_enter func137,ntmps137
 go_upto_region 1 with fail
 rw[HW.out]
 clear HW
 go_wp2_with fail
 go_loopw [9,10,11] (fun i j _ wr=>∃a b:Nat,i=.int .i64 a/\j=.int .i64 b/\a<=n/\b<=n/\Hid (cL cf x L a b)/\eF w wr/\Blk wr w.heap.size (ae x) 40) (fun i j _ _=>(intOf j).toNat-(intOf i).toNat)
 case atStart=>exact⟨0,n,rfl,rfl,by omega,by omega,eA (by have:=cL.start (c:=cf) (x:=x) L;rwa [C] at this),T,G⟩
 case round =>
  clear T G;obtain⟨a,b,rfl,rfl,ha,hb,D,B,G⟩:=hrel;have Ac:=D.out.le;by_cases Ad:a<b
  .have hi:(a:Int)<(b:Int):=by omega
   obtain⟨m,hm⟩:∃m:Nat,(a+b) / 2=m:=⟨_,rfl⟩;have o:a<=m:=by omega
   have q:m<b:=by omega
   have F:m<L.length:=by rw[C];omega
   have Ab:((a:Int)+(b:Int)) / 2=(m:Int):=by omega
   have hv:=l.out;obtain⟨J,K,rfl,U,E⟩:=gY (h.below B) F;have r:∀p,(fI (.pointer (some ⟨J,K+m*5,none⟩))).run prog (ab wr p)=.ok (.agg (ae L[m]).toArray) (ab wr p):=fun p=>E _ (aa wr p);have s:∀p,(fI (.pointer (some ⟨w.heap.size,0,none⟩))).run prog (ab wr p)=.ok (.agg Y) (ab wr p):=fun p=>by rw[<-f.out];exact dS (G.below (aa wr p)) rfl
   have Q:Hid (∀p,Calls prog g #[.agg (ae L[m]).toArray,.agg Y] (ab wr p) fun e w'=>e=.returned (.int .i64 (cf L[m] x))/\Below (ab wr p).heap.size (ab wr p) w'):=eA fun p=>by rw[<-f.out];exact l.out _ _ (List.getElem_mem F) (B.trans ((aa wr p).mono B.size))
   have M:=eA (D.out.up HC.out HR.out q F);have N:=eA (D.out.down HC.out HR.out o F);have gm:(m:Int)<(n:Int):=by omega
   have Ae:=G;clear hv E D;generalize (ae L[m]).toArray=X at *;generalize cf L[m] x=v at *;go_upto_region 5 with fail
   refine au ?_;repeat (go_big_quiet_step (exact aq (Q.out _)))
   refine wpQuiet_nil ?_;rintro _ ⟨H,rfl⟩;have I:=aa wr H;clear r s Q;generalize ab wr H=w5 at *;by_cases V:v<0
   .have D:=eA (M.out V)
    clear M N;go_wp2_with fail
    go_roundw
    case rel=>exact⟨m+1,b,by go_num,rfl,by omega,hb,D,B.trans (I.mono B.size),G.below I⟩
    case measure=>simp[intOf];omega
   .have D:=eA (N.out V)
    clear M N;go_wp2_with fail
    go_roundw
    case rel=>exact⟨a,m,rfl,rfl,ha,by omega,D,B.trans (I.mono B.size),G.below I⟩
    case measure=>simp[intOf];omega
  .obtain rfl:a=b:=by omega
   have Z:=eA D.out.place;have hi:¬((a:Int)<(a:Int)):=by omega
   by_cases t:a<n
   .have O:a<L.length:=by rw[C];exact t
    obtain⟨J,K,rfl,U,E⟩:=gY (h.below B) O;have r:∀p,(fI (.pointer (some ⟨J,K+a*5,none⟩))).run prog (ab wr p)=.ok (.agg (ae L[a]).toArray) (ab wr p):=fun p=>E _ (aa wr p);have s:∀p,(fI (.pointer (some ⟨w.heap.size,0,none⟩))).run prog (ab wr p)=.ok (.agg Y) (ab wr p):=fun p=>by rw[<-f.out];exact dS (G.below (aa wr p)) rfl
    have Q:Hid (∀p,Calls prog g #[.agg (ae L[a]).toArray,.agg Y] (ab wr p) fun e w'=>e=.returned (.int .i64 (cf L[a] x))/\Below (ab wr p).heap.size (ab wr p) w'):=eA fun p=>by rw[<-f.out];exact l.out _ _ (List.getElem_mem O) (B.trans ((aa wr p).mono B.size))
    have k:Hid (cf L[a] x=0↔∃hk:a<L.length,cf L[a] x=0):=eA ⟨fun e=>⟨O,e⟩,fun ⟨_,e⟩=>e⟩;have gm:(a:Int)<(n:Int):=by omega
    clear E D;generalize (ae L[a]).toArray=X at *;generalize hvv:cf L[a] x=v at Q k;clear hvv;go_wp2_with fail
    refine au ?_;repeat (go_big_quiet_step (exact aq (Q.out _)))
    refine wpQuiet_nil ?_;rintro _ ⟨H,rfl⟩;have I:=aa wr H;clear r s Q;generalize ab wr H=w5 at *;go_wp2_with fail
    go_ret2;exact⟨a,_,rfl,Z.out,by rw[<-k.out];simp,B.trans (I.mono B.size)⟩
   .have gm:¬((a:Int)<(n:Int)):=by omega
    have k:Hid (¬∃hk:a<L.length,cf L[a] x=0):=eA (fun ⟨hk,_⟩=>by omega);clear D;go_wp2_with fail
    refine au ?_;repeat (go_big_quiet_step (fail))
    refine wpQuiet_nil ?_;rintro _ ⟨H,rfl⟩;have I:=aa wr H;generalize ab wr H=w5 at *;go_wp2_with fail
    go_ret2;exact⟨a,false,rfl,Z.out,⟨fun e=>by simp at e,fun e=>absurd e k.out⟩,B.trans (I.mono B.size)⟩
theorem bsBun_any(g:Nat)(eg:∀args w,(callFunc g args).run prog w=.ok (.enter g args) w)(cf:Led.Bundle × Value->Led.Bundle × Value->Int)(R:Cmp cf)(x:Led.Bundle × Value)(A:Option Addr)(n c:Nat)(L:List (Led.Bundle × Value))(u:aY cf L)(w:World)(h:Es ai 3 w A n L)(hn:n<=4000000000000000000)
  (z:∀(W:World) (y:Led.Bundle × Value),y∈L->eF w W->Calls prog g (#[.agg (ai y).toArray,.agg (ai x).toArray]) W fun e w'=>e=.returned (.int .i64 (cf y x))/\eF W w') :
  Calls prog 151 #[.slice A n c,.agg (ai x).toArray,.func (.func g) #[] #[]] w (Found cf x L w):=by
 have C:=h.len aQ (by decide)
 have Aa:=eA C
 have l:=eA z
 have HR:=eA u
 have HC:=eA R
 clear z u R
 obtain⟨Y,d⟩:=eC ((ai x).toArray)
 obtain⟨W,S⟩:=eC (w.alloc (.cells (ai x).toArray 45))
 have G:Blk W w.heap.size (ai x) 45:=by rw[<-S];exact Blk.new w _ _
 have T:eF w W:=eG S
 rw[d] at S
 have HW:=eA S
 have f:=eA d
 rw[d]
 clear S d
 go_enter func151,ntmps151
 go_upto_region 1 with fail
 rw[HW.out]
 clear HW
 go_wp2_with fail
 go_loopw [9,10,11] (fun i j _ wr=>∃a b:Nat,i=.int .i64 a/\j=.int .i64 b/\a<=n/\b<=n/\Hid (cL cf x L a b)/\eF w wr/\Blk wr w.heap.size (ai x) 45) (fun i j _ _=>(intOf j).toNat-(intOf i).toNat)
 case atStart=>exact⟨0,n,rfl,rfl,by omega,by omega,eA (by have:=cL.start (c:=cf) (x:=x) L;rwa [C] at this),T,G⟩
 case round =>
  clear T G;obtain⟨a,b,rfl,rfl,ha,hb,D,B,G⟩:=hrel;have Ac:=D.out.le;by_cases Ad:a<b
  .have hi:(a:Int)<(b:Int):=by omega
   obtain⟨m,hm⟩:∃m:Nat,(a+b) / 2=m:=⟨_,rfl⟩;have o:a<=m:=by omega
   have q:m<b:=by omega
   have F:m<L.length:=by rw[C];omega
   have Ab:((a:Int)+(b:Int)) / 2=(m:Int):=by omega
   have hv:=l.out;obtain⟨J,K,rfl,U,E⟩:=jb (h.below B) F;have r:∀p,(fo (.pointer (some ⟨J,K+m*3,none⟩))).run prog (ab wr p)=.ok (.agg (ai L[m]).toArray) (ab wr p):=fun p=>E _ (aa wr p);have s:∀p,(fo (.pointer (some ⟨w.heap.size,0,none⟩))).run prog (ab wr p)=.ok (.agg Y) (ab wr p):=fun p=>by rw[<-f.out];exact cR (G.below (aa wr p)) rfl
   have Q:Hid (∀p,Calls prog g #[.agg (ai L[m]).toArray,.agg Y] (ab wr p) fun e w'=>e=.returned (.int .i64 (cf L[m] x))/\Below (ab wr p).heap.size (ab wr p) w'):=eA fun p=>by rw[<-f.out];exact l.out _ _ (List.getElem_mem F) (B.trans ((aa wr p).mono B.size))
   have M:=eA (D.out.up HC.out HR.out q F);have N:=eA (D.out.down HC.out HR.out o F);have gm:(m:Int)<(n:Int):=by omega
   have Ae:=G;clear hv E D;generalize (ai L[m]).toArray=X at *;generalize cf L[m] x=v at *;go_upto_region 5 with fail
   refine au ?_;repeat (go_big_quiet_step (exact aq (Q.out _)))
   refine wpQuiet_nil ?_;rintro _ ⟨H,rfl⟩;have I:=aa wr H;clear r s Q;generalize ab wr H=w5 at *;by_cases V:v<0
   .have D:=eA (M.out V)
    clear M N;go_wp2_with fail
    go_roundw
    case rel=>exact⟨m+1,b,by go_num,rfl,by omega,hb,D,B.trans (I.mono B.size),G.below I⟩
    case measure=>simp[intOf];omega
   .have D:=eA (N.out V)
    clear M N;go_wp2_with fail
    go_roundw
    case rel=>exact⟨a,m,rfl,rfl,ha,by omega,D,B.trans (I.mono B.size),G.below I⟩
    case measure=>simp[intOf];omega
  .obtain rfl:a=b:=by omega
   have Z:=eA D.out.place;have hi:¬((a:Int)<(a:Int)):=by omega
   by_cases t:a<n
   .have O:a<L.length:=by rw[C];exact t
    obtain⟨J,K,rfl,U,E⟩:=jb (h.below B) O;have r:∀p,(fo (.pointer (some ⟨J,K+a*3,none⟩))).run prog (ab wr p)=.ok (.agg (ai L[a]).toArray) (ab wr p):=fun p=>E _ (aa wr p);have s:∀p,(fo (.pointer (some ⟨w.heap.size,0,none⟩))).run prog (ab wr p)=.ok (.agg Y) (ab wr p):=fun p=>by rw[<-f.out];exact cR (G.below (aa wr p)) rfl
    have Q:Hid (∀p,Calls prog g #[.agg (ai L[a]).toArray,.agg Y] (ab wr p) fun e w'=>e=.returned (.int .i64 (cf L[a] x))/\Below (ab wr p).heap.size (ab wr p) w'):=eA fun p=>by rw[<-f.out];exact l.out _ _ (List.getElem_mem O) (B.trans ((aa wr p).mono B.size))
    have k:Hid (cf L[a] x=0↔∃hk:a<L.length,cf L[a] x=0):=eA ⟨fun e=>⟨O,e⟩,fun ⟨_,e⟩=>e⟩;have gm:(a:Int)<(n:Int):=by omega
    clear E D;generalize (ai L[a]).toArray=X at *;generalize hvv:cf L[a] x=v at Q k;clear hvv;go_wp2_with fail
    refine au ?_;repeat (go_big_quiet_step (exact aq (Q.out _)))
    refine wpQuiet_nil ?_;rintro _ ⟨H,rfl⟩;have I:=aa wr H;clear r s Q;generalize ab wr H=w5 at *;go_wp2_with fail
    go_ret2;exact⟨a,_,rfl,Z.out,by rw[<-k.out];simp,B.trans (I.mono B.size)⟩
   .have gm:¬((a:Int)<(n:Int)):=by omega
    have k:Hid (¬∃hk:a<L.length,cf L[a] x=0):=eA (fun ⟨hk,_⟩=>by omega);clear D;go_wp2_with fail
    refine au ?_;repeat (go_big_quiet_step (fail))
    refine wpQuiet_nil ?_;rintro _ ⟨H,rfl⟩;have I:=aa wr H;generalize ab wr H=w5 at *;go_wp2_with fail
    go_ret2;exact⟨a,false,rfl,Z.out,⟨fun e=>by simp at e,fun e=>absurd e k.out⟩,B.trans (I.mono B.size)⟩
end
end Go.Proofs.YtmbpnkacggngkaaGreatDoor
