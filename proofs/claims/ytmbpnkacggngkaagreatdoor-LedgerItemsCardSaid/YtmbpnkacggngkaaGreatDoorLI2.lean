/- LedIn, ShaSpec, ShaMem, ShaWord, ShaBytes, Batch (put together by bundle.py: only what is needed). -/
import Derived.Lib.Strings
import Derived.Deep.Slices
import Derived.Deep.Strs
import Derived.RowKit
import Derived.Deep.RegionHeld3
import Derived.Deep.CutBlock
import Derived.Deep.DeepCutAuto
import Derived.Deep.Quiet
import Derived.StillTail
import Derived.Below
import Derived.Test.YtmbpnkacggngkaaGreatDoorLI1
set_option maxRecDepth 100000
set_option maxHeartbeats 16000000
namespace Go.Proofs.YtmbpnkacggngkaaGreatDoor
namespace Batch
end Batch
open Batch
open Tryz
section
open Go.RowKit Mem Led
abbrev kQ{H:Type}(enc:TypeId × Value->H)(W:World)(spare:Nat->Bool)(held:Bool)(t:TypeId)(cs:List Value):Prop :=
 ∃fuel y,DataW.trod enc prog W 0 spare held fuel t cs=some y
section
variable {H:Type}{enc:TypeId × Value->H}{W:World}{spare:Nat->Bool}{held:Bool}{t:TypeId}{cs:List Value}
theorem kQ.field{B:Array Field}(h:kQ enc W spare held t cs)(ht:prog.underlying t=some (.struct B)) :
  cs.length=prog.cellsOf t/\∀(i:Nat) (f:Field),B[i]?=some f->kQ enc W spare held f.type ((cs.drop f.offset).take (prog.cellsOf f.type)):=by
 obtain⟨fuel,y,h⟩:=h
 obtain⟨xs,n,_,rfl,D,A,E⟩:=DataW.trod_struct ht h
 refine⟨D,fun i f hi=>?_⟩
 have C:i<xs.length:=by
  rw[A];rcases Nat.lt_or_ge i B.size with h|h
  .exact h
  .rw [Array.getElem?_eq_none h] at hi
   cases hi
 exact⟨n,xs[i],by rw[E i f hi,List.getElem?_eq_getElem C]⟩
theorem kQ.num(h:kQ enc W spare held t cs)(ht:prog.underlying t=some (.int .i64)):∃x,cs=[nm x]/\I64 x:=by
 obtain⟨fuel,y,h⟩:=h
 obtain⟨x,rfl,_,wx⟩:=DataW.trod_int ht h
 exact⟨x,rfl,wf_int wx⟩
theorem kQ.text(h:kQ enc W spare held t cs)(ht:prog.underlying t=some .string):∃l:Txt,cs=[tx l]/\l.length<=9223372036854775807:=by
 obtain⟨fuel,y,h⟩:=h
 obtain⟨s,rfl,_,A⟩:=DataW.trod_string ht h
 refine⟨s.data.toList,?_,?_⟩
 .cases s
  simp[tx,str]
 .unfold maxLen at A
  have:s.data.toList.length=s.size:=(Lib.size_eq s).symm;rw[this];exact A
theorem kQ.flag(h:kQ enc W spare held t cs)(ht:prog.underlying t=some .bool):∃b,cs=[.bool b]:=by
 obtain⟨fuel,y,h⟩:=h
 obtain⟨b,rfl,_⟩:=DataW.trod_bool ht h
 exact⟨b,rfl⟩
theorem kQ.slice{e:TypeId}(h:kQ enc W spare held t cs)(ht:prog.underlying t=some (.slice e)) :
  ∃A n c,cs=[.slice A n c]/\n<=c/\c<=9223372036854775807/\∀i,i<n->∃a B,A=some a/\B.length=prog.cellsOf e/\(∀j u,B[j]?=some u->W.cell? (a.add (i*prog.cellsOf e+j))=some u)/\kQ enc W spare held e B:=by
 obtain⟨fuel,y,h⟩:=h
 rcases Go.Deep.open_slice ht h with⟨rfl,_⟩|⟨a,E,cap,m,n,D,O,rfl,_,I,J,G,_,hx⟩
 .exact⟨none,0,0,rfl,by omega,by omega,fun i hi=>by omega⟩
 .refine⟨some a,E,cap,rfl,I,by unfold maxLen at J;omega,fun i hi=>?_⟩
  have K:E<=m:=by rw[G];split<;>omega
  obtain⟨B,L,M⟩:=hx i (by omega);obtain⟨_,F,C⟩:=World.cells?_some L;refine⟨a,B,rfl,F,fun j u H=>?_,⟨n,_,M⟩⟩;have N:j<B.length:=(List.getElem?_eq_some_iff.1 H).1;have:=C j (by omega);rw[add_add] at this;rw[this,<-H]
end
theorem mH{α:Type}(d:α){n:Nat}{q:Nat->α->Prop}(h:∀i,i<n->∃x,q i x):∃L:List α,L.length=n/\∀i,(hi:i<L.length)->q i L[i]:=by
 classical
 refine⟨(List.range n).map fun i=>if hi:i<n then Classical.choose (h i hi) else d,by simp,fun i hi=>?_⟩
 have A:i<n:=by simpa using hi
 simp only[List.getElem_map,List.getElem_range,dif_pos A]
 exact Classical.choose_spec (h i A)
theorem flat_at{α:Type}(f:α->List Value)(s:Nat)(A:∀x,(f x).length=s):∀(L:List α) (j:Nat) (u:Value),((L.map f).flatten)[j]?=some u->∃i k,∃hi:i<L.length,k<s/\j=i*s+k/\(f L[i])[k]?=some u
 | [],j,u,h=>by simp at h
 | x::L,j,u,h=>by
  rw[List.map_cons,List.flatten_cons] at h;rcases Nat.lt_or_ge j s with B|B
  .rw [List.getElem?_append_left (by rw[A];exact B)] at h
   exact⟨0,j,by simp,B,by omega,h⟩
  .rw [List.getElem?_append_right (by rw[A];exact B),A] at h
   obtain⟨i,k,hi,C,e,D⟩:=flat_at f s A L _ u h;refine⟨i+1,k,by simpa using hi,C,?_,by simpa using D⟩;rw[Nat.add_mul];omega
theorem pj{α:Type}(f:α->List Value)(s:Nat)(A:∀x,(f x).length=s):∀L:List α,((L.map f).flatten).length=L.length*s
 | []=>by simp
 | x::L=>by
  have ih:=pj f s A L;rw[List.map_cons,List.flatten_cons,List.length_append,A,ih,List.length_cons,Nat.add_mul];omega
theorem la{α:Type}{W:World}{A:Option Addr}{n s:Nat}(f:α->List Value)(B:∀x,(f x).length=s){L:List α}(D:L.length=n)
  (h:∀i,(hi:i<L.length)->∃a,A=some a/\∀j u,(f L[i])[j]?=some u->W.cell? (a.add (i*s+j))=some u):Vs W W.heap.size s A n ((L.map f).flatten):=by
 refine⟨by rw[pj f s B,D],fun j u E=>?_⟩
 obtain⟨i,k,hi,H,rfl,F⟩:=flat_at f s B L j u E
 obtain⟨a,rfl,G⟩:=h i hi
 have C:=G k u F
 refine⟨a,rfl,?_,C⟩
 have:=World.block_lt_of_cell? W _ C
 rwa [gM] at this
section
set_option maxRecDepth 100000
variable {H:Type}{enc:TypeId × Value->H}{W:World}{spare:Nat->Bool}{held:Bool}{cs:List Value}
theorem kQ.texts(h:kQ enc W spare held 25 cs) :
  ∃A n c L,cs=[.slice A n c]/\n<=c/\c<=9223372036854775807/\Ts W A n L/\∀x∈L,x.length<=9223372036854775807:=by
 have F:prog.cellsOf 9=1:=by kernel_rfl
 obtain⟨A,n,c,rfl,G,H,hx⟩:=h.slice underlying25
 obtain⟨L,E,C⟩:=mH (α:=Txt) [] (n:=n) (q:=fun i l=>(∃a,A=some a/\∀j u,[tx l][j]?=some u->W.cell? (a.add (i*1+j))=some u)/\l.length<=9223372036854775807) (fun i hi=>by
  obtain⟨a,I,e,_,B,ht⟩:=hx i hi;obtain⟨l,rfl,J⟩:=ht.text underlying9;rw[F] at B;exact⟨l,⟨a,e,B⟩,J⟩)
 have D:=la (W:=W) (A:=A) (n:=n) (s:=1) (fun l:Txt=>[tx l]) (fun _=>rfl) E (fun i hi=>(C i hi).1)
 refine⟨A,n,c,L,rfl,G,H,?_,fun x hx=>?_⟩
 .have e:(L.map fun l:Txt=>[tx l]).flatten=tv L:=by
   clear D C E;induction L with
   | nil=>rfl
   | cons x L ih=>rw[List.map_cons,List.flatten_cons,ih];rfl
  rw[e] at D;exact D
 .obtain⟨i,hi,rfl⟩:=List.getElem_of_mem hx
  exact(C i hi).2
theorem kQ.jwks(h:kQ enc W spare held 43 cs) :
  ∃A n c L,cs=[.slice A n c]/\n<=c/\c<=9223372036854775807/\L.length=n/\Vs W W.heap.size 2 A n (jv L)/\∀k∈L,k.kid.length<=9223372036854775807/\k.x.length<=9223372036854775807:=by
 have M:prog.cellsOf 9=1:=by kernel_rfl
 have N:prog.cellsOf 54=2:=by kernel_rfl
 obtain⟨A,n,c,rfl,O,Q,hx⟩:=h.slice underlying43
 obtain⟨L,H,D⟩:=mH (α:=Jwk) ⟨[],[]⟩ (n:=n) (q:=fun i k=>(∃a,A=some a/\∀j u,[tx k.kid,tx k.x][j]?=some u->W.cell? (a.add (i*2+j))=some u)/\k.kid.length<=9223372036854775807/\k.x.length<=9223372036854775807) (fun i hi=>by
  obtain⟨a,E,e,C,B,ht⟩:=hx i hi;obtain⟨_,I⟩:=ht.field underlying54;rw[N] at C B;match E,C with
  | [v0,v1],_ =>
   have J:=I 0 _ rfl;have K:=I 1 _ rfl;simp only[M,List.getElem_toArray,List.getElem_cons_zero,List.getElem_cons_succ,List.drop_succ_cons,List.drop_zero,List.take_succ_cons,List.take_zero] at J K;obtain⟨R,F,h0⟩:=J.text underlying9;obtain⟨S,G,T⟩:=K.text underlying9;injection F with F
   injection G with G
   subst F G;exact⟨⟨R,S⟩,⟨a,e,B⟩,h0,T⟩)
 refine⟨A,n,c,L,rfl,O,Q,H,la (fun k:Jwk=>[tx k.kid,tx k.x]) (fun _=>rfl) H (fun i hi=>(D i hi).1),fun x hx=>?_⟩
 obtain⟨i,hi,rfl⟩:=List.getElem_of_mem hx
 exact(D i hi).2
end
structure Led.Op.Sized(o:Led.Op):Prop where
 kind:I64 o.kind
 n:I64 o.n
 name:o.name.length<=9223372036854775807
 en:I64 o.entry.n
 epath:o.entry.path.length<=9223372036854775807
 eparent:o.entry.parent.length<=9223372036854775807
 ettl:I64 o.entry.ttl
 esel:∀x∈o.entry.sels,x.length<=9223372036854775807
 jtext:o.join.text.length<=9223372036854775807
 jname:o.join.name.length<=9223372036854775807
 jexp:I64 o.join.expires
 nname:o.node.name.length<=9223372036854775807
 nkey:o.node.key.length<=9223372036854775807
 nexp:I64 o.node.expires
 nseq:I64 o.node.seq
 ndoc:o.node.doc.length<=9223372036854775807
 kkid:o.key.kid.length<=9223372036854775807
 kseed:o.key.seed.length<=9223372036854775807
 kstate:I64 o.key.state
 ksince:I64 o.key.since
 bdom:o.bundle.domain.length<=9223372036854775807
 bnum:I64 o.bundle.number
 bkey:∀k∈o.bundle.keys,k.kid.length<=9223372036854775807/\k.x.length<=9223372036854775807
structure OpIn(w:World)(o:Led.Op)(As:Option Addr)(ns cS:Nat)(Ak:Option Addr)(nk cK:Nat):Prop where
 sels:Ts w As ns o.entry.sels
 keys:Vs w w.heap.size 2 Ak nk (jv o.bundle.keys)
 hs:ns<=cS
 hs':cS<=9223372036854775807
 hk:nk<=cK
 hk':cK<=9223372036854775807
 sized:o.Sized
theorem open_op{H:Type}{enc:TypeId × Value->H}{W:World}{spare:Nat->Bool}{held:Bool}{cs:List Value}(h:kQ enc W spare held 47 cs) :
  ∃o Y Z b c d f,cs=ac o (.slice Y Z b) (.slice c d f)/\OpIn W o Y Z b c d f:=by
 have T:prog.cellsOf 3=1:=by kernel_rfl
 have U:prog.cellsOf 9=1:=by kernel_rfl
 have cb:prog.cellsOf 4=1:=by kernel_rfl
 have j:prog.cellsOf 25=1:=by kernel_rfl
 have k:prog.cellsOf 43=1:=by kernel_rfl
 have ce:prog.cellsOf 36=5:=by kernel_rfl
 have cj:prog.cellsOf 38=4:=by kernel_rfl
 have cn:prog.cellsOf 40=5:=by kernel_rfl
 have ck:prog.cellsOf 42=4:=by kernel_rfl
 have l:prog.cellsOf 45=3:=by kernel_rfl
 have co:prog.cellsOf 47=24:=by kernel_rfl
 obtain⟨hl,A⟩:=h.field underlying47
 rw[co] at hl
 match cs,hl with
 | [v0,v1,v2,v3,v4,v5,v6,v7,v8,v9,v10,v11,v12,v13,v14,v15,v16,v17,v18,v19,v20,v21,v22,v23],_ =>
  have f0:=A 0 _ rfl;have f1:=A 1 _ rfl;have f2:=A 2 _ rfl;have f3:=A 3 _ rfl;have f4:=A 4 _ rfl;have f5:=A 5 _ rfl;have f6:=A 6 _ rfl;have f7:=A 7 _ rfl;simp only[T,U,ce,cj,cn,ck,l,List.getElem_toArray,List.getElem_cons_zero,List.getElem_cons_succ,List.drop_succ_cons,List.drop_zero,List.take_succ_cons,List.take_zero] at f0 f1 f2 f3 f4 f5 f6 f7;clear A h;obtain⟨k0,m,i0⟩:=f0.num underlying3;obtain⟨k1,n,i1⟩:=f1.num underlying3;obtain⟨k2,e2,i2⟩:=f2.text underlying9;obtain⟨_,V⟩:=f3.field underlying36;have a0:=V 0 _ rfl;have a1:=V 1 _ rfl;have a2:=V 2 _ rfl;have a3:=V 3 _ rfl;have a4:=V 4 _ rfl;simp only[T,U,j,List.getElem_toArray,List.getElem_cons_zero,List.getElem_cons_succ,List.drop_succ_cons,List.drop_zero,List.take_succ_cons,List.take_zero] at a0 a1 a2 a3 a4;obtain⟨k3,e3,i3⟩:=a0.num underlying3;obtain⟨k4,e4,i4⟩:=a1.text underlying9;obtain⟨k5,q,i5⟩:=a2.text underlying9;obtain⟨k6,r,i6⟩:=a3.num underlying3;obtain⟨Y,Z,b,L,s,t,u,x,y⟩:=a4.texts;obtain⟨_,g⟩:=f4.field underlying38;have b0:=g 0 _ rfl;have b1:=g 1 _ rfl;have b2:=g 2 _ rfl;have b3:=g 3 _ rfl;simp only[T,U,cb,List.getElem_toArray,List.getElem_cons_zero,List.getElem_cons_succ,List.drop_succ_cons,List.drop_zero,List.take_succ_cons,List.take_zero] at b0 b1 b2 b3;obtain⟨k8,z,i8⟩:=b0.text underlying9;obtain⟨k9,e9,i9⟩:=b1.text underlying9;obtain⟨Aa,B,Ab⟩:=b2.num underlying3;obtain⟨Ac,C⟩:=b3.flag underlying4;obtain⟨_,X⟩:=f5.field underlying40;have c0:=X 0 _ rfl;have c1:=X 1 _ rfl;have c2:=X 2 _ rfl;have c3:=X 3 _ rfl;have c4:=X 4 _ rfl;simp only[T,U,List.getElem_toArray,List.getElem_cons_zero,List.getElem_cons_succ,List.drop_succ_cons,List.drop_zero,List.take_succ_cons,List.take_zero] at c0 c1 c2 c3 c4;obtain⟨Ad,D,Ae⟩:=c0.text underlying9;obtain⟨Af,E,Ag⟩:=c1.text underlying9;obtain⟨Ah,F,Ai⟩:=c2.num underlying3;obtain⟨Aj,G,Al⟩:=c3.num underlying3;obtain⟨Am,I,An⟩:=c4.text underlying9;obtain⟨_,i⟩:=f6.field underlying42;have d0:=i 0 _ rfl;have d1:=i 1 _ rfl;have d2:=i 2 _ rfl;have d3:=i 3 _ rfl;simp only[T,U,List.getElem_toArray,List.getElem_cons_zero,List.getElem_cons_succ,List.drop_succ_cons,List.drop_zero,List.take_succ_cons,List.take_zero] at d0 d1 d2 d3;obtain⟨Ao,J,Ap⟩:=d0.text underlying9;obtain⟨Aq,M,Ar⟩:=d1.text underlying9;obtain⟨Au,N,Av⟩:=d2.num underlying3;obtain⟨Aw,O,Ax⟩:=d3.num underlying3;obtain⟨_,g7⟩:=f7.field underlying45;have m0:=g7 0 _ rfl;have m1:=g7 1 _ rfl;have m2:=g7 2 _ rfl;simp only[T,U,k,List.getElem_toArray,List.getElem_cons_zero,List.getElem_cons_succ,List.drop_succ_cons,List.drop_zero,List.take_succ_cons,List.take_zero] at m0 m1 m2;obtain⟨Ay,Q,Az⟩:=m0.text underlying9;obtain⟨A0,R,A1⟩:=m1.num underlying3;obtain⟨c,d,f,K,S,A2,A3,A6,A4,A5⟩:=m2.jwks;injection m with m;injection n with n;injection e2 with e2;injection e3 with e3;injection e4 with e4;injection q with q;injection r with r;injection s with s
  injection z with z;injection e9 with e9;injection B with B;injection C with C;injection D with D;injection E with E;injection F with F;injection G with G
  injection I with I;injection J with J;injection M with M;injection N with N;injection O with O;injection Q with Q;injection R with R;injection S with S
  refine⟨⟨k0,k1,k2,⟨k3,k4,k5,k6,L⟩,⟨k8,k9,Aa,Ac⟩,⟨Ad,Af,Ah,Aj,Am⟩,⟨Ao,Aq,Au,Aw⟩,⟨Ay,A0,K⟩⟩,Y,Z,b,c,d,f,?_,⟨x,A4,t,u,A2,A3,?_⟩⟩
  .subst m n e2 e3 e4 q r s z e9 B C D E F G I J M N O Q R S
   rfl
  .exact⟨i0,i1,i2,i3,i4,i5,i6,y,i8,i9,Ab,Ae,Ag,Ai,Al,An,Ap,Ar,Av,Ax,Az,A1,A5⟩
end
section
namespace Sha
open Go.RowKit
def dB(a b:List Int)(i:Nat)(A:List Int):Nat->List Int × Int
 | 0=>(A,0)
 | j+1 =>
  let q:=dB a b i A j
  let v:=wrap64 (wrap64 (q.1.getD (i+j) 0+wrap64 (a.getD i 0*b.getD j 0))+q.2)
  (q.1.set (i+j) (v.tmod 65536),wrap64 (v.tdiv 65536))
def bR(a b:List Int):Nat->List Int
 | 0=>List.replicate (a.length+b.length) 0
 | i+1 =>
  let q:=dB a b i (bR a b i) b.length
  q.1.set (i+b.length) (wrap64 (q.1.getD (i+b.length) 0+q.2))
def mul(a b:List Int):List Int:=bR a b a.length
theorem jL(a b:List Int)(i:Nat)(A:List Int):∀j,(dB a b i A j).1.length=A.length
 | 0=>rfl
 | j+1=>by
  simp only[dB,List.length_set];exact jL a b i A j
theorem ky(a b:List Int):∀i,(bR a b i).length=a.length+b.length
 | 0=>by simp[bR]
 | i+1=>by
  simp only[bR,List.length_set,jL];exact ky a b i
theorem mb(a b:List Int):(mul a b).length=a.length+b.length:=ky a b _
def eu(a b:List Int):Nat->Bool
 | 0=>false
 | i+1=>if a.getD i 0=b.getD i 0 then eu a b i else decide (a.getD i 0<b.getD i 0)
def less(a b:List Int):Bool:=eu a b (max a.length b.length)
def dbl:Nat->Int
 | 0=>1
 | j+1=>wrap64 (2*dbl j)
def target(p:Int)(k:Nat):List Int:=(List.replicate (4*k+1) 0).set (4*k) p
def kO(k:Nat)(x:List Int):List Int:=if k=3 then mul (mul x x) x else mul x x
def fm(p:Int)(k A:Nat)(x:List Int):List Int :=
 let B:=x.set (A / 16) (wrap64 (x.getD (A / 16) 0+dbl (A % 16)))
 if less (target p k) (kO k B) then B.set (A / 16) (wrap64 (B.getD (A / 16) 0-dbl (A % 16))) else B
def bF(p:Int)(k:Nat):Nat->List Int
 | 0=>[0,0,0,0,0]
 | t+1=>fm p k (68-t) (bF p k t)
theorem uy(p:Int)(k A:Nat)(x:List Int):(fm p k A x).length=x.length:=by
 unfold fm
 simp only[]
 split<;>simp
theorem jH(p:Int)(k:Nat):∀t,(bF p k t).length=5
 | 0=>rfl
 | t+1=>by rw[bF,uy,jH p k t]
def ix(x:List Int):Int :=
 IntKind.u64.wrap (IntKind.u64.wrap (IntKind.u64.wrap (IntKind.u64.wrap (x.getD 0 0)+IntKind.u64.wrap (IntKind.u64.wrap (x.getD 1 0)*65536))+IntKind.u64.wrap (IntKind.u64.wrap (x.getD 2 0)*4294967296))+IntKind.u64.wrap (IntKind.u64.wrap (x.getD 3 0)*281474976710656))
theorem sW(x:Int):0<=IntKind.u64.wrap x/\IntKind.u64.wrap x<18446744073709551616:=by
 rw[IntKind.wrap_u64]
 omega
def mW(p:Int)(k:Nat):Nat:=(ix (bF p k 69)).toNat
theorem ov(p:Int)(k:Nat):((mW p k:Nat):Int)=ix (bF p k 69):=Int.toNat_of_nonneg (sW _).1
theorem ux(p:Int)(k:Nat):mW p k<18446744073709551616:=by
 have h:=ov p k
 have A:ix (bF p k 69)<18446744073709551616:=(sW _).2
 omega
def pstep(L:List Nat)(k:Nat):List Nat:=if L.all (fun p=>k % p != 0) then L++[k] else L
def pr:Nat->List Nat
 | 0=>[]
 | t+1=>pstep (pr t) (t+2)
theorem pstep_len(L:List Nat)(k:Nat):L.length<=(pstep L k).length/\(pstep L k).length<=L.length+1:=by
 unfold pstep
 split<;>simp
theorem pr_mono:∀{s t:Nat},s<=t->(pr s).length<=(pr t).length
 | s,0,h=>by rw[Nat.le_zero.1 h];exact eH
 | s,t+1,h=>by
  rcases Nat.lt_or_ge s (t+1) with A|A
  .exact Nat.le_trans (pr_mono (Nat.le_of_lt_succ A)) (pstep_len _ _).1
  .rw [Nat.le_antisymm h A];exact eH
theorem pr_407:(pr 407).length=79:=by decide +kernel
theorem pr_408:(pr 408).length=80:=by decide +kernel
theorem pr_short{t:Nat}(h:t<408):(pr t).length<80:=by
 have:=pr_mono (show t<=407 by omega)
 rw[pr_407] at this
 omega
theorem qJ:∀(t:Nat),∀p∈pr t,2<=p/\p<t+2
 | 0,p,h=>by simp[pr] at h
 | t+1,p,h=>by
  unfold pr pstep at h;split at h
  .simp at h
   rcases h with h|rfl
   .have:=qJ t p h;omega
   .omega
  .have:=qJ t p h;omega
def half(m:Nat):Nat:=m / 2+m % 2*2147483648
def turn:Nat->Nat->Nat
 | 0,m=>m
 | n+1,m=>half (turn n m)
def down:Nat->Nat->Nat
 | 0,m=>m
 | n+1,m=>down n m / 2
theorem half_lt{m:Nat}(h:m<4294967296):half m<4294967296:=by unfold half;omega
theorem gO{m:Nat}(h:m<4294967296):∀n,turn n m<4294967296
 | 0=>h
 | n+1=>half_lt (gO h n)
theorem vf{m:Nat}(h:m<4294967296):∀n,down n m<4294967296
 | 0=>h
 | n+1=>by have:=vf h n;unfold down;omega
def ro(c:Nat)(A:Bool)(m:Nat):Nat:=if A then down c m else turn c m
def mixed(a b c:Nat)(A:Bool)(m:Nat):Nat:=turn a m ^^^ turn b m ^^^ ro c A m
theorem oD{m:Nat}(h:m<4294967296)(c:Nat)(A:Bool):ro c A m<4294967296:=by
 unfold ro
 split
 .exact vf h c
 .exact gO h c
theorem ik{a b:Nat}(A:a<4294967296)(B:b<4294967296):a ^^^ b<4294967296:=Nat.xor_lt_two_pow (n:=32) A B
theorem jy{a b:Nat}(A:a<4294967296):a &&& b<4294967296:=Nat.lt_of_le_of_lt Nat.and_le_left A
theorem gX{m:Nat}(h:m<4294967296)(a b c:Nat)(A:Bool):mixed a b c A m<4294967296:=ik (ik (gO h a) (gO h b)) (oD h c A)
def sig0(m:Nat):Nat:=mixed 7 18 3 true m
def sig1(m:Nat):Nat:=mixed 17 19 10 true m
def big0(m:Nat):Nat:=mixed 2 13 22 false m
def big1(m:Nat):Nat:=mixed 6 11 25 false m
def bI(b:List UInt8)(t:Nat):Nat->Nat
 | 0=>0
 | k+1=>bI b t k*256+(b.getD (4*t+k) 0).toNat
theorem jD(b:List UInt8)(t:Nat):∀k,bI b t k<256 ^ k
 | 0=>by simp[bI]
 | k+1=>by
  have h:=jD b t k;have A:=(b.getD (4*t+k) 0).toNat_lt;simp only[bI,Nat.pow_succ];omega
def gD(b:List UInt8):Nat->List Nat
 | 0=>[]
 | t+1=>gD b t++[bI b t 4]
def next(w:List Nat)(u:Nat):Nat:=(w.getD u 0+sig0 (w.getD (u+1) 0)+w.getD (u+9) 0+sig1 (w.getD (u+14) 0)) % 4294967296
def bZ(b:List UInt8):Nat->List Nat
 | 0=>gD b 16
 | u+1=>bZ b u++[next (bZ b u) u]
theorem mv(b:List UInt8):∀t,(gD b t).length=t
 | 0=>rfl
 | t+1=>by simp[gD,mv b t]
theorem iR(b:List UInt8):∀u,(bZ b u).length=16+u
 | 0=>mv b 16
 | u+1=>by simp[bZ,iR b u];omega
def eP(l:List Nat):Prop:=∀x∈l,x<4294967296
theorem eP.at_{l:List Nat}(h:eP l)(i:Nat):l.getD i 0<4294967296:=by
 rw[List.getD_eq_getElem?_getD]
 cases A:l[i]? with
 | none=>simp
 | some x=>exact h x (List.mem_of_getElem? A)
theorem eP.snoc{l:List Nat}{x:Nat}(h:eP l)(hx:x<4294967296):eP (l++[x]):=by
 intro y B
 rcases List.mem_append.1 B with A|A
 .exact h y A
 .simp at A
  subst A;exact hx
theorem oq(b:List UInt8):∀t,eP (gD b t)
 | 0=>fun x h=>by simp[gD] at h
 | t+1=>(oq b t).snoc (by have:=jD b t 4;simpa using this)
theorem jF(b:List UInt8):∀u,eP (bZ b u)
 | 0=>oq b 16
 | u+1=>(jF b u).snoc (Nat.mod_lt _ (by omega))
def stepX(k w:Nat)(r:List Nat):Nat :=
 (r.getD 7 0+big1 (r.getD 4 0)+((r.getD 4 0 &&& r.getD 5 0) ^^^ ((4294967295 ^^^ r.getD 4 0) &&& r.getD 6 0))+k+w) % 4294967296
def stepY(r:List Nat):Nat :=
 (big0 (r.getD 0 0)+((r.getD 0 0 &&& r.getD 1 0) ^^^ (r.getD 0 0 &&& r.getD 2 0) ^^^ (r.getD 1 0 &&& r.getD 2 0))) % 4294967296
def step(k w:Nat)(r:List Nat):List Nat :=
 [(stepX k w r+stepY r) % 4294967296,r.getD 0 0,r.getD 1 0,r.getD 2 0,(r.getD 3 0+stepX k w r) % 4294967296,r.getD 4 0,r.getD 5 0,r.getD 6 0]
def steps(K W:List Nat)(s:List Nat):Nat->List Nat
 | 0=>s
 | t+1=>step (K.getD t 0) (W.getD t 0) (steps K W s t)
theorem step_32{r:List Nat}(h:eP r)(k w:Nat):eP (step k w r):=by
 intro x hx
 have h0:=h.at_ 0;have A:=h.at_ 1;have B:=h.at_ 2;have C:=h.at_ 4;have D:=h.at_ 5;have E:=h.at_ 6
 simp only[step,List.mem_cons,List.not_mem_nil,or_false] at hx
 rcases hx with rfl|rfl|rfl|rfl|rfl|rfl|rfl|rfl<;>first|assumption|exact Nat.mod_lt _ (by omega)
theorem lf{s:List Nat}(h:eP s)(K W:List Nat):∀t,eP (steps K W s t)
 | 0=>h
 | t+1=>step_32 (lf h K W t) _ _
theorem og{s:List Nat}(h:s.length=8)(K W:List Nat):∀t,(steps K W s t).length=8
 | 0=>h
 | _+1=>rfl
def li(r s:List Nat):Nat->List Nat
 | 0=>[]
 | i+1=>li r s i++[(r.getD i 0+s.getD i 0) % 4294967296]
theorem iX(r s:List Nat):∀i,(li r s i).length=i
 | 0=>rfl
 | i+1=>by simp[li,iX r s i]
theorem plus_32(r s:List Nat):∀i,eP (li r s i)
 | 0=>fun x h=>by simp[li] at h
 | i+1=>(plus_32 r s i).snoc (Nat.mod_lt _ (by omega))
def block(K s:List Nat)(b:List UInt8):List Nat:=li (steps K (bZ b 48) s 64) s 8
theorem block_len(K s:List Nat)(b:List UInt8):(block K s b).length=8:=iX _ _ 8
theorem block_32(K s:List Nat)(b:List UInt8):eP (block K s b):=plus_32 _ _ 8
def rem(n:Nat):Nat->Nat
 | 0=>n
 | j+1=>rem n j / 256
def be:Nat->Nat->List UInt8
 | 0,_=>[]
 | k+1,n=>UInt8.ofNat (rem n k % 256)::be k n
theorem lO:∀k n,(be k n).length=k
 | 0,_=>rfl
 | k+1,n=>by simp[be,lO k]
theorem be_set(N j n:Nat)(B:j<N):(List.replicate (N-j) 0++be j n).set (N-j-1) (UInt8.ofNat (rem n j % 256))=List.replicate (N-(j+1)) 0++be (j+1) n:=by
 obtain⟨d,hd⟩:∃d,N-j=d+1:=⟨N-j-1,by omega⟩
 have A:N-(j+1)=d:=by omega
 rw[hd,A,List.replicate_succ',List.append_assoc,List.set_append_right _ _ (by simp)]
 simp[be]
def ee(n:Nat):Nat:=(64-(n+9) % 64) % 64
def dh(d:List UInt8):List UInt8:=d++[128]++List.replicate (ee d.length) 0++be 8 (8*d.length)
theorem full_len(d:List UInt8):(dh d).length % 64=0:=by
 unfold dh ee
 simp only[List.length_append,List.length_cons,List.length_nil,List.length_replicate,lO]
 omega
def bY(K F:List Nat)(A:List UInt8):Nat->List Nat
 | 0=>F
 | t+1=>block K (bY K F A t) ((A.drop (64*t)).take 64)
theorem km{F:List Nat}(h:F.length=8)(K:List Nat)(A:List UInt8):∀t,(bY K F A t).length=8
 | 0=>h
 | _+1=>block_len _ _ _
theorem lS{F:List Nat}(h:eP F)(K:List Nat)(A:List UInt8):∀t,eP (bY K F A t)
 | 0=>h
 | _+1=>block_32 _ _ _
def fh(s:List Nat):Nat->List UInt8
 | 0=>[]
 | i+1=>fh s i++be 4 (s.getD i 0)
theorem rM(s:List Nat):∀i,(fh s i).length=4*i
 | 0=>rfl
 | i+1=>by simp[fh,rM s i,lO];omega
def sum(K F:List Nat)(d:List UInt8):List UInt8:=fh (bY K F (dh d) ((dh d).length / 64)) 8
theorem sum_len(K F:List Nat)(d:List UInt8):(sum K F d).length=32:=rM _ 8
def bJ(k:Nat):Nat->List Nat
 | 0=>[]
 | i+1=>bJ k i++[mW (((pr 408).getD i 0:Nat):Int) k / 4294967296]
theorem tops_len(k:Nat):∀i,(bJ k i).length=i
 | 0=>rfl
 | i+1=>by simp[bJ,tops_len k i]
theorem pG(k:Nat):∀i,eP (bJ k i)
 | 0=>fun x h=>by simp[bJ] at h
 | i+1=>(pG k i).snoc (by have:=ux (((pr 408).getD i 0:Nat):Int) k;omega)
def kg(d:List UInt8):List UInt8:=sum (bJ 3 64) (bJ 2 8) d
def dp(n:Nat):UInt8:=if n<10 then UInt8.ofNat (48+n) else UInt8.ofNat (87+n)
def kD(h:List UInt8):Nat->List UInt8
 | 0=>[]
 | i+1=>kD h i++[dp ((h.getD i 0).toNat / 16)]++[dp ((h.getD i 0).toNat % 16)]
theorem nA(h:List UInt8):∀i,(kD h i).length=2*i
 | 0=>rfl
 | i+1=>by simp[kD,nA h i];omega
def cm(d:List UInt8):List UInt8:=kD (kg d) 4
theorem qV(d:List UInt8):(cm d).length=8:=nA _ 4
end Sha
end
section
open Go.RowKit Mem
def iv(l:List Int):List Value:=l.map fun x=>.int .i64 x
theorem tE(l:List Int):(iv l).length=l.length:=by simp[iv]
theorem dy(l:List Int){k:Nat}(h:k<l.length):(iv l)[k]?=some (.int .i64 (l.getD k 0)):=by simp[iv,h]
theorem lx(l:List Int)(k:Nat)(x:Int):(iv l).set k (.int .i64 x)=iv (l.set k x):=by simp[iv,List.map_set]
def wv(l:List Nat):List Value:=l.map fun x:Nat=>Value.int .u64 (x:Int)
theorem sR(l:List Nat):(wv l).length=l.length:=by simp[wv]
theorem gT(l:List Nat){k:Nat}(h:k<l.length):(wv l)[k]?=some (.int .u64 ((l.getD k 0:Nat):Int)):=by simp[wv,h]
theorem jC(a b:List Nat):wv (a++b)=wv a++wv b:=by simp[wv]
theorem t7(l:List Nat):∀u∈wv l,u.oneCell'=true:=by
 intro u A
 simp only[wv,List.mem_map] at A
 obtain⟨b,_,rfl⟩:=A
 rfl
def Is(w:World)(A:Option Addr)(n:Nat)(l:List Int):Prop:=Vs w w.heap.size 1 A n (iv l)
def Ws(w:World)(A:Option Addr)(n:Nat)(l:List Nat):Prop:=Vs w w.heap.size 1 A n (wv l)
theorem t9{w w':World}{S:List Nat}{A:Option Addr}{n size:Nat}{xs:List Value}(h:Vs w w.heap.size size A n xs)(C:Chg S w w')(F:∀a,A=some a->a.block∉S):Vs w' w'.heap.size size A n xs :=
 ⟨h.len,fun j u G=>by
  obtain⟨D,e,E,B⟩:=h.rd j u G;exact⟨D,e,Nat.lt_of_lt_of_le E C.size,(C.cell (by rw[gM];exact E) (by rw[gM];exact F D e)).trans B⟩⟩
theorem cV{w w':World}{A:Option Addr}{n size:Nat}{xs:List Value}(h:Vs w w.heap.size size A n xs)(B:eF w w'):Vs w' w'.heap.size size A n xs:=t9 (S:=[]) h (Chg.of_below B) (by simp)
section
variable {w w':World}{A:Option Addr}{n:Nat}{l:List Int}{m:List Nat}
theorem Is.below(h:Is w A n l)(B:eF w w'):Is w' A n l:=cV h B
theorem Ws.below(h:Ws w A n m)(B:eF w w'):Ws w' A n m:=cV h B
theorem Is.len(h:Is w A n l):l.length=n:=by have:=Vs.len h;rw[tE] at this;omega
theorem Ws.len(h:Ws w A n m):m.length=n:=by have:=Vs.len h;rw[sR] at this;omega
theorem dY{xs:List Value}(h:Vs w w.heap.size 1 A n xs)(J:0<n):∃B C,A=some ⟨B,C,none⟩/\B<w.heap.size/\∀k u,xs[k]?=some u->w.cell? ⟨B,C+k,none⟩=some u:=by
 have K:=h.len
 have h0:0<xs.length:=by omega
 obtain⟨E,F,G,H⟩:=h.rd 0 _ (List.getElem?_eq_getElem h0)
 have D:=World.cell?_spot H
 obtain⟨b,o,s⟩:=E
 simp[Addr.add] at D
 subst D
 refine⟨b,o,F,G,fun k u I=>?_⟩
 obtain⟨L,e,_,c⟩:=h.rd k u I
 rw[F] at e
 injection e with e
 subst e
 have:(⟨b,o,none⟩:Addr).add k=⟨b,o+k,none⟩:=by
  unfold Addr.add;split<;>simp_all
 rw[this] at c
 exact c
theorem Is.of_blk{g:Nat}{t:TypeId}(h:Blk w g (iv l) t):Is w (some ⟨g,0,none⟩) l.length l :=
 ⟨by rw[tE];omega,fun j u A=>⟨_,rfl,h.lt,by rw[aZ];exact(h.cell j).trans A⟩⟩
theorem Ws.of_blk{g:Nat}{t:TypeId}(h:Blk w g (wv m) t):Ws w (some ⟨g,0,none⟩) m.length m :=
 ⟨by rw[sR];omega,fun j u A=>⟨_,rfl,h.lt,by rw[aZ];exact(h.cell j).trans A⟩⟩
theorem Ws.of_own{base c:Nat}{e:TypeId}(h:w.ownsRow base e 1 (.slice A n c) n (wv m)):Ws w A n m:=Vs.of_own h
theorem Is.of_own{base c:Nat}{e:TypeId}(h:w.ownsRow base e 1 (.slice A n c) n (iv l)):Is w A n l:=Vs.of_own h
end
theorem infoI:(prog.info? 3).map (fun i=>(i.zero,i.size,i.bytes))=some (some (.int .i64 0),1,8):=by kernel_rfl
theorem infoW:(prog.info? 151).map (fun i=>(i.zero,i.size,i.bytes))=some (some (.int .u64 0),1,8):=by kernel_rfl
theorem rx:(prog.info? 5).map (fun i=>(i.zero,i.size,i.bytes))=some (some (.int .u8 0),1,1):=by kernel_rfl
theorem qZ(v:Value)(h:v.cells=#[v])(n:Nat):madeCells v.cells (n*1)=(List.replicate n v).toArray:=by
 rw[h]
 apply Array.ext
 .simp [size_madeCells]
 .intro j A B
  unfold madeCells;simp[Nat.mod_one]
theorem makeI(w:World)(n:Nat)(h:n<=100000):(Instr.makeSlice 111 (.int .i64 (n:Int)) (.int .i64 (n:Int))).run prog w=.ok (.slice (some ⟨w.heap.size,0,none⟩) n n) (w.alloc (.cells (iv (List.replicate n 0)).toArray 3)):=by
 obtain⟨E,hi,A,B,C⟩:=an infoI
 have D:=run_make (P:=prog) w 111 3 E _ underlying111 hi A .i64 .i64 (n:Int) (n:Int) (by omega) (by omega) (by rw[C];omega) (by omega)
 rw[B] at D
 rw[show (iv (List.replicate n 0)).toArray=madeCells (.int .i64 0:Value).cells (n*1) by rw[qZ _ rfl];simp[iv]]
 exact D
theorem makeB(w:World)(n:Nat)(h:n<=100000):(Instr.makeSlice 62 (.int .i64 (n:Int)) (.int .i64 (n:Int))).run prog w=.ok (.slice (some ⟨w.heap.size,0,none⟩) n n) (w.alloc (.cells (bv (List.replicate n 0)).toArray 5)):=by
 obtain⟨E,hi,A,B,C⟩:=an rx
 have D:=run_make (P:=prog) w 62 5 E _ underlying62 hi A .i64 .i64 (n:Int) (n:Int) (by omega) (by omega) (by rw[C];omega) (by omega)
 rw[B] at D
 rw[show (bv (List.replicate n 0)).toArray=madeCells (.int .u8 0:Value).cells (n*1) by rw[qZ _ rfl];simp[bv]]
 exact D
end
section
open Go.RowKit Mem
theorem ret_v{a b:Value}(h:a=b):Ending.returned a=.returned b:=by rw[h]
structure H32(hc:List Value):Prop where
 len:hc.length=8
 bits:hc[0]?=some (.int .i64 32)
 steps:hc[1]?=some (.int .i64 64)
 one:∀v∈hc,v.oneCell'=true
theorem fX(x k:Nat):Int.tmod (x:Int) (k:Int)=((x % k:Nat):Int):=(Int.ofNat_tmod x k).symm
theorem iY(x k:Nat):Int.tdiv (x:Int) (k:Int)=((x / k:Nat):Int):=(Int.ofNat_tdiv x k).symm
theorem rtop_any(C:List Value)(h:H32 C)(m:Nat)(E:m<18446744073709551616)(w:World) :
  Calls prog 125 #[.agg C.toArray,.int .u64 (m:Int)] w fun e w'=>e=.returned (.int .u64 ((m / 4294967296:Nat):Int))/\eF w w':=by
 have A:=h.bits
 obtain⟨q,B⟩:=eC (m / 4294967296)
 have D:q<4294967296:=by omega
 have hd:Int.tdiv (m:Int) 4294967296=(q:Int):=by
  have:=iY m 4294967296;rw[B] at this;exact this
 rw[B]
 clear B
 go_enter func125,ntmps125
 go_wp2
 go_ret
 exact⟨rfl,eI⟩
theorem ti(B:List Value)(h:H32 B)(x:Int)(w:World) :
  Calls prog 158 #[.agg B.toArray,.int .u64 x] w fun e w'=>e=.returned (.int .u64 (x.tmod 4294967296))/\eF w w':=by
 have A:=h.bits
 go_enter func158,ntmps158
 go_wp2
 go_ret
 exact⟨rfl,eI⟩
theorem rturn_any(F:List Value)(h:H32 F)(m n:Nat)(H:m<4294967296)(K:n<=1000)(w:World) :
  Calls prog 182 #[.agg F.toArray,.int .u64 (m:Int),.int .i64 (n:Int)] w fun e w'=>e=.returned (.int .u64 ((Sha.turn n m:Nat):Int))/\eF w w':=by
 have C:=h.bits
 go_enter func182,ntmps182
 go_wp2
 go_loop [1,7,8] (fun v i _=>∃j:Nat,j<=n/\i=.int .i64 j/\v=.int .u64 ((Sha.turn j m:Nat):Int)) (fun _ i _=>n-(intOf i).toNat)
 case atStart=>exact⟨0,by omega,rfl,rfl⟩
 case round =>
  obtain⟨j,L,rfl,rfl⟩:=hrel;by_cases I:j<n
  .have hx:=Sha.gO H j
   have A:=eA (show Sha.turn (j+1) m=Sha.half (Sha.turn j m) from rfl);generalize Sha.turn j m=x at *;unfold Sha.half at A;have hd:=iY x 2;have B:=fX x 2;obtain⟨y,G⟩:=eC (x / 2);have J:y<2147483648:=by omega
   rw[G] at hd A;have hd:Int.tdiv (x:Int) 2=(y:Int):=hd;rcases Nat.mod_two_eq_zero_or_one x with D|D
   all_goals
    rw[D] at B A;clear G D;simp only[Nat.zero_mul,Nat.one_mul,Nat.add_zero] at A;first|(have E:Int.tmod (x:Int) 2=0:=B)|(have E:Int.tmod (x:Int) 2=1:=B)
    clear B;go_wp2;all_goals
     go_round
     case rel=>exact⟨j+1,by omega,by go_num,by rw[A.out]<;>go_num⟩
     case measure=>simp[intOf];omega
  .obtain rfl:j=n:=by omega
   go_wp2;go_ret;exact⟨rfl,eI⟩
theorem mixed_off(B:List Int)(w:World)(A:Option Addr)(h:Is w A 3 B):∃C D,A=some ⟨C,D,none⟩/\C<w.heap.size/\w.cell? ⟨C,D,none⟩=some (.int .i64 (B.getD 0 0))/\w.cell? ⟨C,D+1,none⟩=some (.int .i64 (B.getD 1 0))/\w.cell? ⟨C,D+2,none⟩=some (.int .i64 (B.getD 2 0)):=by
 have F:=h.len
 obtain⟨C,D,e,E,hx⟩:=dY h (by omega)
 exact⟨C,D,e,E,hx 0 _ (dy B (by omega)),hx 1 _ (dy B (by omega)),hx 2 _ (dy B (by omega))⟩
theorem size_H:(prog.info? 114).map (·.size)=some 8:=by kernel_rfl
def eZ(x:Value):Sem Value:=Instr.loadAt 114 x
def uk(x v:Value):Sem Unit:=Instr.storeAt 114 x v
theorem uR(x:Value):Instr.loadAt 114 x=eZ x:=rfl
theorem sC(x v:Value):Instr.storeAt 114 x v=uk x v:=rfl
attribute [go_sem ↓] uR sC
theorem eX{w:World}{g n:Nat}{cs:List Value}{t:TypeId}(h:Blk w g cs t)(A:cs.length=n):Has w g 0 n:=fun j B=>by
 rw[Nat.zero_add,h.cell j,List.getElem?_eq_getElem (by omega)]
 rfl
theorem mh{w:World}{g n:Nat}{cs:List Value}{t:TypeId}(h:Blk w g cs t)(A:cs.length=n):arr w g 0 n=cs.toArray:=(tZ (n:=n) h (by simpa using A)).1
theorem ja{w:World}{g:Nat}{cs:List Value}{t:TypeId}(h:Blk w g cs t)(A:cs.length=8):(eZ (.pointer (some ⟨g,0,none⟩))).run prog w=.ok (.agg cs.toArray) w:=by
 have:=bH (P:=prog) w 114 g 0 8 _ underlying114 rfl size_H (eX h A)
 rw[mh h A] at this
 exact this
theorem jk:∀(vs:List Value) (w:World) (g k:Nat) (cs:List Value) (t:TypeId),Blk w g cs t->k+vs.length<=cs.length->Blk (w.setCells g k vs) g (cs.take k++vs++cs.drop (k+vs.length)) t
 | [],w,g,k,cs,t,h,_=>by simpa [World.setCells] using h
 | v::vs,w,g,k,cs,t,h,hk=>by
  have ih:=jk vs (w.setCell ⟨g,k,none⟩ v) g (k+1) (cs.set k v) t (h.set k v) (by simp at hk ⊢;omega)
  have e:(cs.set k v).take (k+1)++vs++(cs.set k v).drop (k+1+vs.length)=cs.take k++v::vs++cs.drop (k+(v::vs).length):=by
   have A:k<cs.length:=by simp at hk;omega
   rw[List.take_set,List.drop_set_of_lt (by omega),List.length_cons,show k+1+vs.length=k+(vs.length+1) by omega];have:(cs.take (k+1)).set k v=cs.take k++[v]:=by
    rw[<-List.take_append_getElem A,List.set_append_right _ _ (by rw[List.length_take];omega)]
    simp[Nat.min_eq_left (Nat.le_of_lt A)]
   rw[this];simp
  rw[e] at ih;exact ih
theorem pH{w:World}{g:Nat}{cs vs:List Value}{t:TypeId}(h:Blk w g cs t)(A:cs.length=8)(B:vs.length=8)(D:∀v∈vs,v.oneCell'=true) :
  (uk (.pointer (some ⟨g,0,none⟩)) (.agg vs.toArray)).run prog w=.ok () (w.setCells g 0 vs)/\Blk (w.setCells g 0 vs) g vs t:=by
 have E:=bu (P:=prog) w 114 g 0 8 size_H vs.toArray ⟨by simpa using B,by simpa using D⟩ (eX h A) (fun j _=>h.froz _)
 have C:=jk vs w g 0 cs t h (by omega)
 simp[B,<-A] at C
 exact⟨E,C⟩
theorem qA(J:List Value)(h:H32 J)(a b c m:Nat)(d:m<4294967296)(ha:a<=64)(hb:b<=64)(Aa:c<=64)(Z:Bool)(A:Option Addr)(cap:Nat)(w:World)(hA:Is w A 3 [(a:Int),b,c]) :
  Calls prog 157 #[.agg J.toArray,.int .u64 (m:Int),.slice A 3 cap,.bool Z] w fun e w'=>e=.returned (.int .u64 ((Sha.mixed a b c Z m:Nat):Int))/\eF w w':=by
 obtain⟨C,D,rfl,H,c0,c1,c2⟩:=mixed_off _ w A hA
 simp only[List.getD_cons_zero,List.getD_cons_succ] at c0 c1 c2
 clear hA
 obtain⟨W,f⟩:=eC (w.alloc (.cells J.toArray 114))
 have B:Blk W w.heap.size J 114:=by rw[<-f];exact Blk.new _ _ _
 have F:eF w W:=eG f
 have hz:W.heap.size=w.heap.size+1:=by rw[<-f];simp
 have HW:=eA f
 clear f
 have key:∀w',eF W w'->w'.cell? ⟨C,D,none⟩=some (.int .i64 (a:Int))/\w'.cell? ⟨C,D+1,none⟩=some (.int .i64 (b:Int))/\w'.cell? ⟨C,D+2,none⟩=some (.int .i64 (c:Int))/\(eZ (.pointer (some ⟨w.heap.size,0,none⟩))).run prog w'=.ok (.agg J.toArray) w'/\eF w w':=fun w' E=>by
  have Q:eF w w':=F.trans (E.mono F.size);exact⟨(Q.cell (p:=⟨C,D,none⟩) H).trans c0,(Q.cell (p:=⟨C,D+1,none⟩) H).trans c1,(Q.cell (p:=⟨C,D+2,none⟩) H).trans c2,ja (B.below E) h.len,Q⟩
 obtain⟨S,hS⟩:∃S:World->Prop,S=fun w'=>w'.cell? ⟨C,D,none⟩=some (.int .i64 (a:Int))/\w'.cell? ⟨C,D+1,none⟩=some (.int .i64 (b:Int))/\w'.cell? ⟨C,D+2,none⟩=some (.int .i64 (c:Int))/\(eZ (.pointer (some ⟨w.heap.size,0,none⟩))).run prog w'=.ok (.agg J.toArray) w'/\eF W w':=⟨_,rfl⟩
 have I:∀w',eF W w'->S w':=fun w' E=>by
  rw[hS];obtain⟨t,d1,d2,dl,_⟩:=key w' E;exact⟨t,d1,d2,dl,E⟩
 have G:∀n:Nat,n<=64->∀w',S w'->Calls prog 182 #[.agg J.toArray,.int .u64 (m:Int),.int .i64 (n:Int)] w' fun e g=>e=.returned (.int .u64 ((Sha.turn n m:Nat):Int))/\S g:=fun n hn w' hs =>
  have E:eF W w':=by rw[hS] at hs;exact hs.2.2.2.2
  (rturn_any J h m n d (by omega) w').mono fun e g ⟨he,hb2⟩=>⟨he,I _ (E.trans (hb2.mono E.size))⟩
 have S0:=I W.drew (Below.refl _ _).drew
 have V:=I W (Below.refl _ _)
 subst hS
 dsimp only at G S0 V
 have L:=eA G
 have X:=eA S0
 have T:=eA V
 have U:∀w',eF W w'->(eZ (.pointer (some ⟨w.heap.size,0,none⟩))).run prog w'=.ok (.agg J.toArray) w':=fun w' E=>(key w' E).2.2.2.1
 clear key c0 c1 c2 B G S0 V I
 go_enter func157,ntmps157
 go_wp2_with fail
 rw[HW.out]
 go_region_held3 (fun w'=>w'.cell? ⟨C,D,none⟩=some (.int .i64 (a:Int))/\w'.cell? ⟨C,D+1,none⟩=some (.int .i64 (b:Int))/\w'.cell? ⟨C,D+2,none⟩=some (.int .i64 (c:Int))/\(eZ (.pointer (some ⟨w.heap.size,0,none⟩))).run prog w'=.ok (.agg J.toArray) w'/\eF W w') (first|exact X.out|exact T.out|assumption|go_keep) (first|(go_at_call 182;refine(L.out c Aa _ (by first|assumption|exact X.out)).mono ?_;rintro e K ⟨rfl,M⟩))
 clear X T HW
 obtain⟨k0,k1,k2,kl,k⟩:=M
 have Ad:eF w K:=F.trans (k.mono F.size)
 have N:=k.drew
 have t:K.drew.cell? ⟨C,D,none⟩=some (.int .i64 (a:Int)):=k0
 have d1:K.drew.cell? ⟨C,D+1,none⟩=some (.int .i64 (b:Int)):=k1
 have d2:K.drew.cell? ⟨C,D+2,none⟩=some (.int .i64 (c:Int)):=k2
 have O:=eA (show K.drew.cell? ⟨C,D,none⟩=some (.int .i64 (a:Int))/\K.drew.cell? ⟨C,D+1,none⟩=some (.int .i64 (b:Int))/\K.drew.cell? ⟨C,D+2,none⟩=some (.int .i64 (c:Int))/\(eZ (.pointer (some ⟨w.heap.size,0,none⟩))).run prog K.drew=.ok (.agg J.toArray) K.drew/\eF W K.drew from⟨t,d1,d2,U K.drew N,N⟩)
 clear t d1 d2 U
 obtain⟨z,R⟩:=eD (Sha.ro c Z m)
 have HM:=eA (show Sha.mixed a b c Z m=Sha.turn a m ^^^ Sha.turn b m ^^^ z by rw[<-R.out];rfl)
 have l:=Sha.gO d a
 have o:=Sha.gO d b
 have Ab:z<4294967296:=by rw[<-R.out];exact Sha.oD d c Z
 have Ac:=u64_xor_nat (Sha.turn a m) (Sha.turn b m) (by omega) (by omega)
 have q:=u64_xor_nat (Sha.turn a m ^^^ Sha.turn b m) z (by have:=Sha.ik l o;omega) (by omega)
 obtain⟨u,hu⟩:=eC (Sha.turn a m ^^^ Sha.turn b m)
 rw[hu] at Ac q HM
 obtain⟨r,hr⟩:=eC (u ^^^ z)
 rw[hr] at q HM
 clear hu hr l o Ab k0 k1 k2 kl hz H N
 cases Z
 .have HL:Sha.turn c m=z:=R.out
  rw[HL];clear HL;go_wp2_with fail
  go_region_held3 (fun w'=>w'.cell? ⟨C,D,none⟩=some (.int .i64 (a:Int))/\w'.cell? ⟨C,D+1,none⟩=some (.int .i64 (b:Int))/\w'.cell? ⟨C,D+2,none⟩=some (.int .i64 (c:Int))/\(eZ (.pointer (some ⟨w.heap.size,0,none⟩))).run prog w'=.ok (.agg J.toArray) w'/\eF W w') (first|exact O.out|assumption|go_keep) (first|(go_at_call 182;refine(L.out _ (by assumption) _ (by first|assumption|exact O.out)).mono ?_;rintro e wq ⟨rfl,M⟩))
  obtain⟨_,_,_,_,Y⟩:=M;go_wp2;go_ret;exact⟨ret_v (by rw[HM.out];rfl),F.trans (Y.mono F.size)⟩
 .have s:∀j,Sha.down j m<4294967296:=fun j=>Sha.vf d j
  have HL:Hid (Sha.down c m=z):=eA R.out;obtain⟨_,_,k2,_,_⟩:=O.out;have k2:K.cell? ⟨C,D+2,none⟩=some (.int .i64 (c:Int)):=k2;go_wp2_with fail
  go_loop [9,10] (fun v i=>∃j:Nat,j<=c/\i=.int .i64 j/\v=.int .u64 ((Sha.down j m:Nat):Int)) (fun _ i=>c-(intOf i).toNat)
  case atStart=>exact⟨0,by omega,rfl,rfl⟩
  case round =>
   obtain⟨j,hj,rfl,rfl⟩:=hrel;by_cases Ae:j<c
   .have Af:=s j
    have hd:=iY (Sha.down j m) 2;have HD:=eA (show Sha.down (j+1) m=Sha.down j m / 2 from rfl);generalize Sha.down j m=x at *;obtain⟨y,hy⟩:=eC (x / 2);have Ag:y<4294967296:=by omega
    rw[hy] at hd HD;have hd:Int.tdiv (x:Int) 2=(y:Int):=hd;clear hy;go_wp2_with fail
    go_round
    case rel=>exact⟨j+1,by omega,by go_num,by rw[HD.out]⟩
    case measure=>simp[intOf];omega
   .obtain rfl:c=j:=by omega
    rw[HL.out];clear s k2;go_wp2_with fail
    go_region_held3 (fun w'=>w'.cell? ⟨C,D,none⟩=some (.int .i64 (a:Int))/\w'.cell? ⟨C,D+1,none⟩=some (.int .i64 (b:Int))/\w'.cell? ⟨C,D+2,none⟩=some (.int .i64 (c:Int))/\(eZ (.pointer (some ⟨w.heap.size,0,none⟩))).run prog w'=.ok (.agg J.toArray) w'/\eF W w') (first|exact O.out|assumption|go_keep) (first|(go_at_call 182;refine(L.out _ (by assumption) _ (by first|assumption|exact O.out)).mono ?_;rintro e wq ⟨rfl,M⟩))
    obtain⟨_,_,_,_,Y⟩:=M;go_wp2;go_ret;exact⟨ret_v (by rw[HM.out];rfl),F.trans (Y.mono F.size)⟩
end
section
open Go.RowKit Mem
theorem rem_le(n:Nat):∀j,Sha.rem n j<=n
 | 0=>eH
 | j+1=>Nat.le_trans (Nat.div_le_self _ _) (rem_le n j)
theorem rbytes_any(F:List Value)(h:H32 F)(m:Nat)(k:m<18446744073709551616)(w:World) :
  Calls prog 128 #[.agg F.toArray,.int .u64 (m:Int)] w fun e w'=>e=.returned (.slice (some ⟨w.heap.size+1,0,none⟩) 4 4)/\Blk w' (w.heap.size+1) (bv (Sha.be 4 m)) 5/\eF w w':=by
 have A:=h.bits
 have B:=Blk.new w F 114
 obtain⟨W,G⟩:=eC (w.alloc (.cells F.toArray 114))
 have R:W.heap.size=w.heap.size+1:=by rw[<-G];simp
 have H:eF w W:=eG G
 have I:(Instr.makeSlice 62 (.int .i64 4) (.int .i64 4)).run prog W=_:=makeB W 4 (by omega)
 have S:=Blk.new W (bv (List.replicate 4 0)) 5
 obtain⟨N,C⟩:=eC (W.alloc (.cells (bv (List.replicate 4 0)).toArray 5))
 have J:eF w N:=by rw[<-C];exact H.alloc (by omega) _
 have b:Blk N w.heap.size F 114:=by rw[<-C,<-G];exact B.alloc _
 rw[C,R] at S
 rw[C,R,<-G] at I
 have l:N.cell? ⟨w.heap.size,0,none⟩=some (.int .i64 32):=(b.cell 0).trans A
 have K:Blk N (w.heap.size+1) (bv (List.replicate (4-0) 0++Sha.be 0 m)) 5:=S
 clear B S C G R H
 go_enter func128,ntmps128
 go_wp2
 go_loopw [1,6] (fun v i wr=>∃j:Nat,j<=4/\i=.int .i64 (3-(j:Int))/\v=.int .u64 ((Sha.rem m j:Nat):Int)/\eF w wr/\Blk wr (w.heap.size+1) (bv (List.replicate (4-j) 0++Sha.be j m)) 5) (fun _ i _=>(intOf i+1).toNat)
 case atStart=>exact⟨0,by omega,rfl,rfl,J,K⟩
 case round =>
  clear I l b K J A;obtain⟨j,y,rfl,rfl,c,E⟩:=hrel;by_cases n:j<4
  .obtain⟨d,hd⟩:∃d:Nat,3-j=d:=⟨_,rfl⟩
   have f:(3-(j:Int))=(d:Int):=by omega
   have o:d<=3:=by omega
   have hx:Sha.rem m j<18446744073709551616:=Nat.lt_of_le_of_lt (rem_le m j) k;have Q:=eA (Sha.be_set 4 j m n);rw[show 4-j-1=d by omega] at Q;have g:=eA (show Sha.rem m (j+1)=Sha.rem m j / 256 from rfl);have s:(List.replicate (4-j) 0++Sha.be j m).length=4:=by rw[List.length_append,List.length_replicate,Sha.lO];omega
   generalize List.replicate (4-j) 0++Sha.be j m=O at *;generalize Sha.rem m j=x at *;have z:wr.cell? ⟨w.heap.size+1,d,none⟩=some (.int .u8 (O[d]'(by omega)).toNat):=by
    rw[E.cell d,pt,List.getElem?_eq_getElem (by omega)];rfl
   have cf:wr.frozen? ⟨w.heap.size+1,d,none⟩=false:=E.froz d;have ch:w.heap.size+1<wr.heap.size:=E.lt;generalize (O[d]'(by omega)).toNat=od at *;have T:=fX x 256;have U:=iY x 256;obtain⟨r,L⟩:=eC (x % 256);obtain⟨q,M⟩:=eC (x / 256);have V:r<256:=by omega
   have t:q<18446744073709551616:=by omega
   rw[L] at T Q;rw[M] at U g;have T:Int.tmod (x:Int) 256=(r:Int):=T;have U:Int.tdiv (x:Int) 256=(q:Int):=U;have D:=E.set d (.int .u8 ((UInt8.ofNat r).toNat:Int));rw[bv_set,Q.out,UInt8.toNat_ofNat_of_lt' (show r<256 from V)] at D;have X:(intOf (Value.int IntKind.i64 ((d:Int)-1))+1).toNat<(intOf (Value.int IntKind.i64 (d:Int))+1).toNat:=by
    show ((d:Int)-1+1).toNat<((d:Int)+1).toNat
    omega
   have u:=eA (show ((d:Int)-1)=3-((j+1:Nat):Int) by omega);have Y:=eA D;have Z:=c.setCell (p:=⟨w.heap.size+1,d,none⟩) (by simp) (.int .u8 (r:Int));clear L M hd E Q s hx D;rw[f];clear f;go_wp2;go_roundw
   case rel=>exact⟨j+1,by omega,by rw[u.out],by rw[g.out],Z,Y.out⟩
   case measure=>exact X
  .obtain rfl:j=4:=by omega
   go_wp2;go_ret;exact⟨rfl,by simpa using E,c⟩
end
section
namespace Batch
open Go.RowKit
def lay(listed:Array Bool)(B:List Nat):Array Bool:=B.foldl (fun l i=>l.setIfInBounds i true) listed
theorem lw:∀(B:List Nat) (listed:Array Bool),(lay listed B).size=listed.size
 | [],_=>rfl
 | i::B,listed=>by
  show (lay (listed.setIfInBounds i true) B).size=_
  rw[lw B];simp
theorem rn:∀(B:List Nat) (listed:Array Bool) (j:Nat),listed.getD j false=true->(lay listed B).getD j false=true
 | [],_,_,h=>h
 | _::B,_,j,h=>rn B _ j (getD_set_true h)
theorem uW:∀(B:List Nat) (listed:Array Bool) (j:Nat),j∉B->(lay listed B).getD j true=listed.getD j true
 | [],_,_,_=>rfl
 | i::B,listed,j,h=>by
  show (lay (listed.setIfInBounds i true) B).getD j true=_
  rw[uW B _ j (fun A=>h (List.mem_cons_of_mem _ A)),getD_set_ne true (fun e=>h (by rw[e];exact List.mem_cons_self))]
theorem set_self{listed:Array Bool}{i:Nat}(h:i<listed.size):(listed.setIfInBounds i true).getD i false=true:=by simp[h]
theorem lay_in:∀(B:List Nat) (listed:Array Bool) (j:Nat),j∈B->j<listed.size->(lay listed B).getD j false=true
 | [],_,_,h,_=>by cases h
 | i::B,listed,j,h,hj=>by
  rcases List.mem_cons.1 h with rfl|h
  .exact rn B _ j (set_self hj)
  .exact lay_in B _ j h (by simpa using hj)
theorem jU{listed:Array Bool}{j:Nat}(A:j<listed.size)(d:Bool):listed.getD j d=listed.getD j false:=by
 simp[A]
section
variable {P:Program}{ops:Array Oper}{md:Region.Mode}{C:World->Prop}
def rO(md:Region.Mode)(ops:Array Oper)(l:Array Bool)(j:Nat):Bool :=
 match ops[j]? with
 | some o=>o.after.all fun e=>!Region.binds md e||l.getD e.on false
 | none=>false
def kb(md:Region.Mode)(ops:Array Oper)(i:Nat):List Nat->Array Bool->Array Bool
 | [],l=>l
 | j::B,l=>kb md ops i B (if j != i&&rO md ops l j then l.setIfInBounds j true else l)
def kP(md:Region.Mode)(ops:Array Oper):List Nat->Array Bool->Bool
 | [],_=>true
 | j::B,l=>rO md ops l j&&kP md ops B (l.setIfInBounds j true)
def ed(md:Region.Mode)(ops:Array Oper)(base:Array Bool)(B:List Nat):Bool :=
 kP md ops B base&&B.all fun i=>(Region.ready md ops (kb md ops i B base)).all fun j=>B.contains j
theorem ez{l:Array Bool}{j:Nat}:rO md ops l j=true↔∃o,ops[j]?=some o/\∀e∈o.after,Region.binds md e=true->l.getD e.on false=true:=by
 unfold rO
 cases C:ops[j]? with
 | none=>simp
 | some o =>
  simp only[Array.all_eq_true_iff_forall_mem,Bool.or_eq_true,Bool.not_eq_true',Option.some.injEq,exists_eq_left'];constructor
  .intro h e A B
   exact(h e A).resolve_left (by simp[B])
  .intro h e A
   cases B:Region.binds md e
   .exact .inl rfl
   .exact .inr (h e A B)
theorem oX(i:Nat):∀(B:List Nat) (l:Array Bool) (j:Nat),j∉B->(kb md ops i B l).getD j true=l.getD j true
 | [],_,_,_=>rfl
 | k::B,l,j,h=>by
  unfold kb;rw[oX i B _ j (fun A=>h (List.mem_cons_of_mem _ A))];split
  .exact getD_set_ne true (fun e=>h (by rw[e];exact List.mem_cons_self))
  .rfl
theorem if_keep{l:Array Bool}{k j:Nat}(b:Bool)(h:l.getD j false=true):(if b=true then l.setIfInBounds k true else l).getD j false=true:=by
 cases b
 .exact h
 .exact getD_set_true h
theorem qh{listed base:Array Bool}{i:Nat}(hi:listed.getD i false=false)(D:∀j N,ops[j]?=some N->listed.getD j false=true->base.getD j false=false->∀e∈N.after,Region.binds md e=true->listed.getD e.on false=true) :
  ∀(B:List Nat) (l A:Array Bool),(∀j∈B,j<l.size)->kP md ops B A=true->(∀j,base.getD j false=true->A.getD j false=true)->(∀j,A.getD j false=true->listed.getD j false=true->l.getD j false=true) ->
   ∀j,(lay A B).getD j false=true->listed.getD j false=true->(kb md ops i B l).getD j false=true
 | [],_,_,_,_,_,h,j,h1,h2=>h j h1 h2
 | k::B,l,A,hs,ht,hb,h,j,h1,h2=>by
  simp only[kP,Bool.and_eq_true] at ht;obtain⟨I,J⟩:=ht;have R:=hs k List.mem_cons_self;unfold kb;refine qh hi D B _ (A.setIfInBounds k true) (fun j C=>?_) J (fun j C=>getD_set_true (hb j C)) (fun j C E=>?_) j h1 h2
  .have:=hs j (List.mem_cons_of_mem _ C)
   split
   .simpa using this
   .exact this
  .by_cases F:k=j
   .subst F
    by_cases G:base.getD k false=true
    .have K:=h k (hb k G) E
     exact if_keep _ K
    .have L:k≠i:=fun e=>by rw[e,hi] at E;cases E
     obtain⟨o,O,hd⟩:=ez.1 I;have M:rO md ops l k=true:=ez.2 ⟨o,O,fun e Q H=>h e.on (hd e Q H) (D k o O E (by simpa using G) e Q H)⟩;rw[if_pos (by rw[M];simpa using L)]
     simp[R]
   .rw [getD_set_ne false F] at C
    have K:=h j C E;exact if_keep _ K
def kM(md:Region.Mode)(ops:Array Oper):List Nat->Array Bool->Bool
 | [],_=>true
 | i::B,listed=>(Region.ready md ops listed).contains i&&Region.free md ops listed i&&kM md ops B (listed.setIfInBounds i true)
structure Inv(md:Region.Mode)(ops:Array Oper)(B:List Nat)(base listed:Array Bool):Prop where
 bs:base.size=ops.size
 size:listed.size=ops.size
 out:∀j,j∉B->listed.getD j true=base.getD j true
 closed:∀j oj,ops[j]?=some oj->listed.getD j false=true->base.getD j false=false->∀e∈oj.after,Region.binds md e=true->listed.getD e.on false=true
theorem Inv.refl{B:List Nat}{base:Array Bool}(h:base.size=ops.size):Inv md ops B base base:=⟨h,h,fun _ _=>rfl,fun j _ _ C A=>by rw[C] at A;cases A⟩
theorem Inv.set{B:List Nat}{base listed:Array Bool}(h:Inv md ops B base listed){i:Nat}(hi:i∈B)(J:i∈Region.ready md ops listed):Inv md ops B base (listed.setIfInBounds i true) :=
 ⟨h.bs,by simp[h.size],fun j A=>by rw[getD_set_ne true (fun e=>A (by rw[<-e];exact hi))];exact h.out j A,fun j G A H K e I C=>by
  by_cases D:i=j
  .subst D
   obtain⟨_,L,F,E⟩:=mem_ready.1 J;have:G=L:=Option.some.inj (A.symm.trans F);subst this;exact getD_set_true (E e I C)
  .rw [getD_set_ne false D] at H
   exact getD_set_true (h.closed j G A H K e I C)⟩
theorem Inv.stays{B:List Nat}{base listed:Array Bool}(h:Inv md ops B base listed)(I:ed md ops base B=true){i j:Nat}(hi:i∈B)(J:listed.getD i true=false)(T:j∈Region.ready md ops listed):j∈B:=by
 by_cases C:j∈B
 .exact C
 .exfalso
  simp only[ed,Bool.and_eq_true] at I;obtain⟨A,I⟩:=I;have U:=List.all_eq_true.1 I i hi;obtain⟨K,o,M,G⟩:=mem_ready.1 T;have N:∀(L:List Nat) (D:Array Bool),kP md ops L D=true->∀k∈L,k<ops.size:=by
   intro L;induction L with
   | nil=>intro D _ k E;cases E
   | cons k0 L ih =>
    intro D ht k E;simp only[kP,Bool.and_eq_true] at ht;rcases List.mem_cons.1 E with rfl|E
    .obtain⟨o,M,_⟩:=ez.1 ht.1
     exact(Array.getElem?_eq_some_iff.1 M).1
    .exact ih _ ht.2 k E
  have O:=qh (md:=md) (ops:=ops) (listed:=listed) (base:=base) (i:=i) (getD_both J) h.closed B base base (fun k E=>by rw[h.bs];exact N B base A k E) A (fun _ h=>h) (fun _ h _=>h)
  have V:j∈Region.ready md ops (kb md ops i B base):=by
   rw[mem_ready];refine⟨?_,o,M,fun e X Y=>?_⟩
   .rw [oX i B base j C,<-h.out j C]
    exact K
   .have Q:=G e X Y
    have F:e.on<ops.size:=by
     rcases Nat.lt_or_ge e.on listed.size with R|R
     .rw [<-h.size];exact R
     .simp [Array.getElem?_eq_none R] at Q
    refine O e.on ?_ Q;by_cases H:e.on∈B
    .exact lay_in _ _ _ H (by rw[h.bs];exact F)
    .refine rn _ _ _ ?_
     have S:=h.out _ H;rw[jU (listed:=listed) (by rw[h.size];exact F),jU (listed:=base) (by rw[h.bs];exact F),Q] at S
     exact S.symm
  have Z:=List.all_eq_true.1 U j V;exact C (by simpa using Z)
def mL(P:Program)(md:Region.Mode)(ops:Array Oper)(C:World->Prop)(B:List Nat)(L:Array Bool->Act->Prop):Nat->Array Bool->Act->Prop
 | 0,listed,a=>L listed a
 | f+1,listed,a=>Region.ready md ops listed≠[]/\∀i∈Region.ready md ops listed,i∈B/\qOp P ops C i (mL P md ops C B L f (listed.setIfInBounds i true)) a
theorem kX{B:List Nat}{g:Nat}{L:Array Bool->Act->Prop}{Q':Exit->Act->World->Prop}(D:∀listed a w,C w->L listed a->wpAny P md ops Q' g listed a w) :
  ∀(f:Nat) (listed:Array Bool) (a:Act) (w:World),C w->mL P md ops C B L f listed a->wpAny P md ops Q' (f+g) listed a w
 | 0,listed,a,w,hw,h=>by rw[Nat.zero_add];exact D _ _ _ hw h
 | f+1,listed,a,w,hw,h=>by
  rw[show f+1+g=(f+g)+1 by omega];exact⟨fun h0=>absurd h0 h.1,fun i hi=>wpOp_of_qOp hw (fun E w' A F=>kX D f _ E w' A F) (h.2 i hi).2⟩
theorem si{B:List Nat}{i:Nat}{S:Oper}{v:Value}{L:Array Bool->Act->Prop}{base T:Array Bool}(hi:ops[i]?=some S)(J:∀(j:Nat) (o:Oper) cs b,ops[j]?=some o->o.op≠.select cs b)
  (n:ed md ops base B=true) (U:i∈B) (V:∀j∈B,T.getD j true=true) (r:∀listed a,L listed a->listed=T) :
  ∀(f:Nat) (listed:Array Bool) (a:Act),Inv md ops B base listed ->
   (∀j N,ops[j]?=some N->j≠i->listed.getD j true=false->(∀e∈N.after,Region.binds md e=true->e.on≠i)->S.apart ops N=true) ->
   i∈Region.ready md ops listed->YieldsIn P ops C S v a ->
   mL P md ops C B L f (listed.setIfInBounds i true) (a.put S.dst v)->mL P md ops C B L (f+1) listed a:=by
 intro f
 induction f with
 | zero =>
  intro listed a G _ K c H;have D:=(mem_ready.1 K).1;refine⟨fun h=>(by rw[h] at K;cases K),fun j O=>?_⟩
  have E:=G.stays n U D O;refine⟨E,?_⟩;by_cases A:j=i
  .subst A;exact c.qOp hi H
  .exfalso
   have Q:=ready_mono O A;rw[r _ _ H] at Q;have d:=(mem_ready.1 Q).1;rw[V j E] at d
   cases d
 | succ f ih =>
  intro listed a G F K c H;have D:=(mem_ready.1 K).1;refine⟨fun h=>(by rw[h] at K;cases K),fun j O=>?_⟩
  have E:=G.stays n U D O;refine⟨E,?_⟩;by_cases A:j=i
  .subst A;exact c.qOp hi H
  .have Q:=(H.2 j (ready_mono O A)).2
   obtain⟨M,N,R,X⟩:=mem_ready.1 O;have Y:∀e∈N.after,Region.binds md e=true->e.on≠i:=fun e s t g=>by
    have Q:=X e s t;rw[g,getD_both D] at Q
    cases Q
   have d:=qOp_put R (F j N R A M Y) (fun cs b=>J i S cs b hi) (fun cs b=>J j N cs b R) c Q;have I:∀k ok,ops[k]?=some ok->k≠i->(listed.setIfInBounds j true).getD k true=false ->
     (∀e∈ok.after,Region.binds md e=true->e.on≠i)->S.apart ops ok=true:=fun k ok u l D m=>by
    refine F k ok u l ?_ m;by_cases Z:j=k
    .subst Z;exact M
    .rw [getD_set_ne true Z] at D;exact D
   refine qOp_mono (fun x q=>ih (listed.setIfInBounds j true) x (G.set E O) I (ready_mono K (Ne.symm A)) q.1 ?_) d;rw[Array.setIfInBounds_comm _ _ A];exact q.2
theorem oV{B:List Nat}{J:Act->Prop}{base F:Array Bool}(D:Region.noSelect ops=true)(N:ed md ops base B=true)(E:∀j∈B,F.getD j true=true) :
  ∀(l:List Nat) (listed:Array Bool) (a:Act),(∀i∈l,i∈B)->Inv md ops B base listed->kM md ops l listed=true->lay listed l=F ->
  wpQuiet P ops C J (l.filterMap (ops[·]?)) a->mL P md ops C B (fun A O=>A=F/\J O) l.length listed a
 | [],listed,a,_,_,_,hf,h=>⟨hf,h⟩
 | i::l,listed,a,hl,inv,hB,hf,h=>by
  simp only[kM,Bool.and_eq_true] at hB;obtain⟨⟨Q,K⟩,L⟩:=hB;have G:i∈Region.ready md ops listed:=by simpa using Q
  obtain⟨_,o,H,_⟩:=mem_ready.1 G;have M:qOp P ops C i (wpQuiet P ops C J (l.filterMap (ops[·]?))) a:=by
   unfold qOp;simp only[H];rw[List.filterMap_cons_some H] at h;exact h
  obtain⟨v,R,S⟩:=yieldsIn_of_qOp H M;have I:=hl i List.mem_cons_self;exact si H (Region.noSelect_spec D) N I E (fun _ _ T=>T.1) l.length listed a inv (Region.free_spec H K) G R
   (oV D N E l _ _ (fun k U=>hl k (List.mem_cons_of_mem _ U)) (inv.set I G) L hf S)
def qF(md:Region.Mode)(ops:Array Oper)(base:Array Bool)(B:List Nat):Bool :=
 Region.noSelect ops&&decide (base.size=ops.size)&&ed md ops base B&&kM md ops B base
theorem oW{Q:Exit->Act->World->Prop}{a:Act}{w:World}{base:Array Bool}{N fuel:Nat}(B:List Nat)(J:qF md ops base B=true)(L:N=B.length+fuel)(M:C w)
  (h:wpQuiet P ops C (fun K=>∀w',C w'->wpAny P md ops Q fuel (lay base B) K w') (B.filterMap (ops[·]?)) a):wpAny P md ops Q N base a w:=by
 simp only[qF,Bool.and_eq_true,decide_eq_true_eq] at J
 obtain⟨⟨⟨A,G⟩,O⟩,D⟩:=J
 subst L
 have E:∀j∈B,(lay base B).getD j true=true:=fun j R=>by
  by_cases F:j<base.size
  .rw [jU (by rw[lw];exact F)]
   exact lay_in B base j R F
  .simp [Array.getElem?_eq_none (show (lay base B).size<=j by rw[lw];omega)]
 have H:=oV (md:=md) (base:=base) A O E B base a (fun _ h=>h) (Inv.refl G) D rfl h
 exact kX (fun listed K w' I S=>by obtain⟨rfl,T⟩:=S;exact T w' I) _ _ _ _ M H
def mr(P:Program)(R:World->World->Prop)(T:Value->World->Prop)(w:World):Result Next->Prop
 | .ok (.value u) w'=>R w w'/\T u w'
 | .ok .skip w'=>R w w'/\T undef w'
 | .ok (.enter f args) w'=>w'=w/\Calls P f args w (fun e A=>∃v,e=.returned v/\R w A/\T v A)
 | _=>False
structure Rely(R:World->World->Prop):Prop where
 refl:∀w,R w w
 trans:∀{a b c},R a b->R b c->R a c
def io(R:World->World->Prop)(T:Value->World->Prop):Prop:=∀v w w',R w w'->T v w->T v w'
abbrev lQ:=Nat × (Value->World->Prop)
variable {R:World->World->Prop}{w0:World}
theorem cP{A:Nat}{Q:Exit->Act->World->Prop}{a:Act}{w:World}{l:List Oper}(B:P.follows .mixedOrders=true)
  (h:wpAny P .any l.toArray Q l.length (Array.replicate l.length false) a w.drew):(Code.region A l.toArray true).wp P Q a w :=
 wp_region_any B h
end
structure eY where
 n:Nat
 os:Array Obj
instance:Inhabited eY:=⟨⟨0,#[]⟩⟩
def ab(w:World)(p:eY):World:={ w with heap:=w.heap++p.os,drawn:=p.n }
theorem aa(w:World)(p:eY):eF w (ab w p) :=
 ⟨rfl,rfl,rfl,by simp[ab],fun k A=>by show (w.heap++p.os)[k]?=_;rw[Array.getElem?_append,if_pos A]⟩
theorem nC{w w':World}(h:eF w w'):∃p,w'=ab w p:=by
 refine⟨⟨w'.drawn,w'.heap.extract w.heap.size w'.heap.size⟩,?_⟩
 obtain⟨G,t,d,o,K⟩:=w'
 obtain⟨A,L,M,N,H⟩:=w
 obtain⟨C,D,E,I,F⟩:=h
 simp only at C D E I F
 subst C D E
 simp only[ab,World.mk.injEq,and_self,and_true]
 apply Array.ext_getElem?
 intro k
 by_cases B:k<A.size
 .rw [F k B,Array.getElem?_append,if_pos B]
 .rw [Array.getElem?_append,if_neg B]
  by_cases J:k<G.size
  .rw [Array.getElem?_extract,if_pos (by omega)]
   congr 1
   omega
  .rw [Array.getElem?_extract,if_neg (by omega),Array.getElem?_eq_none (by omega)]
theorem grew_size(w:World)(p:eY):w.heap.size<=(ab w p).heap.size:=(aa w p).size
theorem ap{w:World}{a:Addr}(h:a.block<w.heap.size)(p:eY):(ab w p).cell? a=w.cell? a:=(aa w p).cell h
theorem aq{P:Program}{f:FuncId}{args:Array Value}{w:World}{p:eY}{v:Value}(h:Calls P f args (ab w p) fun e w'=>e=.returned v/\Below (ab w p).heap.size (ab w p) w') :
  Calls P f args (ab w p) fun e w'=>e=.returned v/\∃q:eY,w'=ab w q :=
 h.mono fun _ _ ⟨A,hb⟩=>⟨A,nC ((aa w p).trans (hb.mono (grew_size w p)))⟩
theorem qa{P:Program}{A:Nat}{Q:Exit->Act->World->Prop}{a:Act}{w:World}{l:List Oper}(B:P.follows .mixedOrders=true)(D:Region.lexB .any l.toArray=true)
  (h:wpQuiet P l.toArray (fun w'=>∃p:eY,w'=ab w p) (fun E=>∀w',(∃p:eY,w'=ab w p)->Q .normal E w') l a):(Code.region A l.toArray true).wp P Q a w :=
 wp_region_quiet (C:=fun w'=>∃p:eY,w'=ab w p) B D (nC (Below.refl _ _).drew) (by simpa using h)
theorem range_take(l:List Oper)(n:Nat)(h:n<=l.length):(List.range n).filterMap (fun i=>l.toArray[i]?)=l.take n:=by
 induction n with
 | zero=>simp
 | succ n ih =>
  have A:n<l.length:=by omega
  rw[List.range_succ,List.filterMap_append,ih (by omega),List.take_add_one];simp[A]
theorem ml{P:Program}{E:Nat}{Q:Exit->Act->World->Prop}{a:Act}{w:World}{l:List Oper}(n:Nat)(F:P.follows .mixedOrders=true)
  (D:(qF .any l.toArray (Array.replicate l.length false) (List.range n)&&decide (n<=l.length)&&Region.seqB .any l.toArray (l.length-n) n (lay (Array.replicate l.length false) (List.range n)))=true)
  (h:wpQuiet P l.toArray (fun w'=>∃p:eY,w'=ab w p) (fun A=>∀w',(∃p:eY,w'=ab w p)->wpList P l.toArray Q (l.drop n) A w') (l.take n) a):(Code.region E l.toArray true).wp P Q a w:=by
 simp only[Bool.and_eq_true,decide_eq_true_eq] at D
 obtain⟨⟨G,H⟩,I⟩:=D
 refine cP F (oW (C:=fun w'=>∃p:eY,w'=ab w p) (fuel:=l.length-n) (List.range n) G (by rw[List.length_range];omega) (nC (Below.refl _ _).drew) ?_)
 rw[range_take l n H]
 have key:∀(L:List Oper) (a:Act),wpQuiet P l.toArray (fun w'=>∃p:eY,w'=ab w p) (fun A=>∀w',(∃p:eY,w'=ab w p)->wpList P l.toArray Q (l.drop n) A w') L a ->
   wpQuiet P l.toArray (fun w'=>∃p:eY,w'=ab w p) (fun A=>∀w',(∃p:eY,w'=ab w p)->wpAny P .any l.toArray Q (l.length-n) (lay (Array.replicate l.length false) (List.range n)) A w') L a:=by
  intro L;induction L with
  | nil =>
   intro a h w' B;have hd:(l.drop n).length=l.length-n:=by simp
   have:=wpAny_of_seq (P:=P) (md:=.any) (ops:=l.toArray) (Q':=Q) (l.drop n) n (lay (Array.replicate l.length false) (List.range n)) a w' (fun j=>by simp[List.getElem?_drop]) (by rw[hd];exact I) (h w' B)
   rw[hd] at this;exact this
  | cons o L ih =>
   intro a h;unfold wpQuiet at h ⊢;split
   .rename_i B
    simp only[B,if_true] at h;exact Oper.quiet_mono (fun a=>ih a) h
   .rename_i B
    simp only[B] at h;exact ih _ h
 exact key _ _ h
def mu:Op->Bool
 | .move _|.assign _|.fieldAddr _ _ _|.indexAddr _ _ _|.binOp _ _ _ _ _|.convert _ _ _|.slice _ _ _ _ _=>true
 | _=>false
theorem mN{P:Program}{o:Oper}(h:mu o.op=true)(B:Operand->Value)(w w':World)(n:Next)(C:(execOp B o).run P w=.ok n w'):∃u,n=.value u:=by
 obtain⟨H,I,F,J,D,E⟩:=o
 have key:∀(s:Sem Value),(do pure (Next.value (<-s)):Sem Next).run P w=.ok n w'->∃u,n=.value u:=fun s A=>by
  rw[Sem.run_bind] at A
  cases G:s.run P w with
  | halt q w1=>rw[G] at A;cases A
  | ok u w1 =>
   rw[G] at A;simp only[Result.andThen_ok,Sem.run_pure,Result.ok.injEq] at A;exact⟨u,A.1.symm⟩
 cases I<;>first|(exfalso;simp[mu] at h;done)|skip
 case move x=>exact key (pure (B x)) C
 case assign x=>exact key (pure (B x)) C
 all_goals exact key _ C
def tz(ops:Array Oper)(M:List Nat):Bool:=M.all fun i=>match ops[i]? with|some o=>mu o.op&&o.guard.isNone|none=>false
theorem kY{P:Program}{ops:Array Oper}{Q:Exit->Act->World->Prop}{K:Act->Prop}{w:World}{fuel:Nat}{B:Array Bool}(O:Region.noSelect ops=true)(R:∀c a i v w,Q (.panic c) (a.put i v) w->Q (.panic c) a w) :
  ∀(M:List Nat) (listed:Array Bool) (a:Act),tz ops M=true->kM .any ops M listed=true->lay listed M=B->(∀E,K E->wpAny P .any ops Q fuel B E w) ->
   wpQuiet P ops (fun _=>True) K (M.filterMap (ops[·]?)) a->wpAny P .any ops Q (M.length+fuel) listed a w
 | [],listed,a,_,_,hf,hK,h=>by
  have hf:listed=B:=hf;subst hf;simp only[List.length_nil,Nat.zero_add];exact hK a h
 | i::M,listed,a,hm,hsq,hf,hK,h=>by
  simp only[kM,Bool.and_eq_true] at hsq;obtain⟨⟨U,G⟩,H⟩:=hsq;simp only[tz,List.all_cons,Bool.and_eq_true] at hm;obtain⟨A,I⟩:=hm
  cases F:ops[i]? with
  | none=>rw[F] at A;simp at A
  | some o =>
   rw[F] at A;rw[List.filterMap_cons_some F] at h;simp only[Bool.and_eq_true] at A;obtain⟨J,S⟩:=A;have T:Region.wanted o (yielded ops a.tmps)=true:=by
    unfold Region.wanted
    cases L:o.guard with
    | none=>rfl
    | some g=>rw[L] at S;cases S
   unfold wpQuiet at h;rw[if_pos T] at h;obtain⟨v,V,X⟩:=h;have C:∀w,(execOp a.eval o).run P w=.ok (.value v) w:=fun w=>by
    have D:=V w trivial;unfold Oper.quietAt at D
    cases N:(execOp a.eval o).run P w with
    | halt q w1=>rw[N] at D;exact D.elim
    | ok n w1 =>
     obtain⟨u,rfl⟩:=mN J a.eval w w1 n N;rw[N] at D;obtain⟨rfl,rfl⟩:=D;rfl
   rw[show (i::M).length+fuel=(M.length+fuel)+1 by simp only[List.length_cons];omega]
   exact wpAny_take F O G U (fun c E w' Y=>R c E _ _ w' Y) (.inl ⟨T,C⟩) (kY O R M _ _ (by simpa [tz] using I) H hf hK X)
def Qn(Q:Exit->Act->World->Prop):Exit->Act->World->Prop
 | .normal,a,w=>Q .normal a w
 | .outgrown,a,w=>Q .outgrown a w
 | _,_,_=>False
theorem ak(Q:Exit->Act->World->Prop)(a:Act)(w:World):Qn Q .normal a w=Q .normal a w:=rfl
theorem wpOp_qn{P:Program}{ops:Array Oper}{Q:Exit->Act->World->Prop}{i:Nat}{K K':Act->World->Prop}{a:Act}{w:World}(h:∀a w,K a w->K' a w)(A:wpOp P ops (Qn Q) i K a w):wpOp P ops Q i K' a w:=by
 have C:LetsOut (Qn Q)->LetsOut Q:=fun ⟨a,w,h⟩=>⟨a,w,h⟩
 unfold wpOp at *
 split
 .rename_i ho;simp only[ho] at A;exact h _ _ A
 .rename_i o ho
  simp only[ho] at A;split
  .rename_i hw
   simp only[hw,if_true] at A;refine A.imp (fun A=>?_) (fun A=>⟨A.1,C A.2⟩);unfold Oper.wp at *;generalize (execOp a.eval o).run P w=r at *
   cases r with
   | ok n w' =>
    cases n<;>simp only[Oper.upon] at A ⊢
    case value=>exact h _ _ A
    case skip=>exact h _ _ A
    case defer=>exact h _ _ A
    case enter f args=>exact Calls.mono A (fun e D B=>by cases e<;>first|exact h _ _ B|exact C B|exact B.elim)
    case row row args=>exact Rows.mono A (fun _ _ B=>h _ _ B)
   | halt x w'=>cases x<;>simp only[Oper.upon] at A ⊢<;>exact A.elim
  .rename_i hw;simp only[hw] at A;exact h _ _ A
theorem qg{P:Program}{md:Region.Mode}{ops:Array Oper}{Q:Exit->Act->World->Prop}:∀(fuel:Nat) (listed:Array Bool) (a:Act) (w:World),wpAny P md ops (Qn Q) fuel listed a w->wpAny P md ops Q fuel listed a w
 | 0,_,_,_,h=>h
 | fuel+1,_,_,_,h=>⟨h.1,fun i hi=>wpOp_qn (fun a w=>qg fuel _ a w) (h.2 i hi)⟩
def pick(l:List Oper):List Nat->List Oper
 | []=>[]
 | i::B=>l.getD i default::pick l B
theorem fy(l:List Oper):∀(B:List Nat),B.all (fun i=>decide (i<l.length))=true->B.filterMap (fun i=>l.toArray[i]?)=pick l B
 | [],_=>rfl
 | i::B,h=>by
  simp only[List.all_cons,Bool.and_eq_true,decide_eq_true_eq] at h;rw[pick,<-fy l B h.2];simp[h.1]
theorem fd{P:Program}{G:Nat}{Q:Exit->Act->World->Prop}{a:Act}{w:World}{l:List Oper}(M B:List Nat)(n:Nat)(H:P.follows .mixedOrders=true)
  (F:(M.all (fun i=>decide (i<l.length))&&B.all (fun i=>decide (i<l.length))&&Region.noSelect l.toArray&&tz l.toArray M&&kM .any l.toArray M (Array.replicate l.length false)&&qF .any l.toArray (lay (Array.replicate l.length false) M) B&&decide (M.length+B.length=n)&&decide (n<=l.length)&&Region.seqB .any l.toArray (l.length-n) n (lay (lay (Array.replicate l.length false) M) B))=true)
  (h:wpQuiet P l.toArray (fun _=>True) (fun A=>wpQuiet P l.toArray (fun w'=>∃p:eY,w'=ab w p) (fun A=>∀w',(∃p:eY,w'=ab w p)->wpList P l.toArray (Qn Q) (l.drop n) A w') (pick l B) A) (pick l M) a):(Code.region G l.toArray true).wp P Q a w:=by
 simp only[Bool.and_eq_true,decide_eq_true_eq] at F
 obtain⟨⟨⟨⟨⟨⟨⟨⟨g1,I⟩,h0⟩,J⟩,K⟩,N⟩,R⟩,S⟩,O⟩:=F
 rw[<-fy l M g1,<-fy l B I] at h
 have key:∀(L:List Oper) (a:Act),wpQuiet P l.toArray (fun w'=>∃p:eY,w'=ab w p) (fun A=>∀w',(∃p:eY,w'=ab w p)->wpList P l.toArray (Qn Q) (l.drop n) A w') L a ->
   wpQuiet P l.toArray (fun w'=>∃p:eY,w'=ab w p) (fun A=>∀w',(∃p:eY,w'=ab w p)->wpAny P .any l.toArray (Qn Q) (l.length-n) (lay (lay (Array.replicate l.length false) M) B) A w') L a:=by
  intro L;induction L with
  | nil =>
   intro a h w' D;have hd:(l.drop n).length=l.length-n:=by simp
   have:=wpAny_of_seq (P:=P) (md:=.any) (ops:=l.toArray) (Q':=Qn Q) (l.drop n) n (lay (lay (Array.replicate l.length false) M) B) a w' (fun j=>by simp[List.getElem?_drop]) (by rw[hd];exact O) (h w' D)
   rw[hd] at this;exact this
  | cons o L ih =>
   intro a h;unfold wpQuiet at h ⊢;split
   .rename_i D
    simp only[D,if_true] at h;exact Oper.quiet_mono (fun a=>ih a) h
   .rename_i D
    simp only[D] at h;exact ih _ h
 refine cP H (qg _ _ _ _ ?_)
 have:=kY (Q:=Qn Q) (w:=w.drew) (fuel:=l.length-M.length) h0 (fun _ _ _ _ _ h=>h.elim) M (Array.replicate l.length false) a J K rfl (fun A E=>oW (C:=fun w'=>∃p:eY,w'=ab w p) (fuel:=l.length-n) B N (by omega) (nC (Below.refl _ _).drew) (key _ _ E)) h
 rwa [show M.length+(l.length-M.length)=l.length by omega] at this
theorem au{P:Program}{A:Nat}{Q:Exit->Act->World->Prop}{a:Act}{w:World}{l:List Oper}(h:wpQuiet P l.toArray (fun w'=>∃p:eY,w'=ab w p) (fun B=>∀w',(∃p:eY,w'=ab w p)->Q .normal B w') l a)(C:P.follows .mixedOrders=true:=by kernel_rfl)(D:Region.lexB .any l.toArray=true:=by kernel_rfl):(Code.region A l.toArray true).wp P Q a w:=qa C D h
theorem bz{P:Program}{A:Nat}{Q:Exit->Act->World->Prop}{a:Act}{w:World}{l:List Oper}(n:Nat)(h:wpQuiet P l.toArray (fun w'=>∃p:eY,w'=ab w p) (fun B=>∀w',(∃p:eY,w'=ab w p)->wpList P l.toArray Q (l.drop n) B w') (l.take n) a)(C:P.follows .mixedOrders=true:=by kernel_rfl)(D:(qF .any l.toArray (Array.replicate l.length false) (List.range n)&&decide (n<=l.length)&&Region.seqB .any l.toArray (l.length-n) n (lay (Array.replicate l.length false) (List.range n)))=true:=by kernel_rfl):(Code.region A l.toArray true).wp P Q a w:=ml n C D h
end Batch
end
end Go.Proofs.YtmbpnkacggngkaaGreatDoor
