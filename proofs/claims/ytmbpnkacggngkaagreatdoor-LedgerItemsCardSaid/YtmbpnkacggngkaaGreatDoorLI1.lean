/- Mem, Arr, LedMem, LedSpec, LedNum, LedText, LedMany, LedList, LedStepW, LedOpW, LedEnc, Texts (put together by bundle.py: only what is needed). -/
import Derived.WalkKit
import Derived.ProofKit
import Derived.OpenShut
import Derived.Lib.Hide
import Derived.Laws.OwnMore
import Derived.Maps.AppendAt
import Derived.Deep.Draws
import Derived.Deep.AppendLies
import Derived.Lib.SlBytesConst
import Derived.Laws.BytesArg
import Derived.RegionTactic
import Derived.OwnWalk
import Derived.Laws.IdiomCopy
import Derived.WalkLawsBesides
import Derived.Test.YtmbpnkacggngkaaGreatDoorProg
import Derived.Laws.Rows
import Derived.Lib.AppendStr
import Derived.Deep.RegionLaw
import Derived.Deep.DeepMust
import Derived.Laws.BitsLemmas
import Derived.BigRegion
import Derived.BigQuiet
import Derived.Deep.RegionWith
set_option maxRecDepth 100000
set_option maxHeartbeats 16000000
namespace Go.Proofs.YtmbpnkacggngkaaGreatDoor
/-- Short words. -/
theorem eA{p : Prop}(h : p) : Go.RowKit.Hid p := Go.Lib.hid h
theorem eC{α : Sort _}(a : α) : ∃b, a = b := ⟨a, rfl⟩
theorem eD{α : Sort _}(a : α) : ∃b, Go.RowKit.Hid (a = b) := ⟨a, Go.Lib.hid rfl⟩
abbrev eF(w w' : Go.World) : Prop := Go.RowKit.Below w.heap.size w w'
theorem eG{w W : Go.World}{o : Go.Obj}(h : w.alloc o = W) : Go.RowKit.Below w.heap.size w W := by
  rw[<-h]
  exact (Go.RowKit.Below.refl _ _).alloc (Nat.le_refl _) _
theorem eH{n : Nat} : n <= n := Nat.le_refl n
theorem eI{w : Go.World}{o : Go.Obj} : Go.RowKit.Below w.heap.size w (w.alloc o) := (Go.RowKit.Below.refl _ _).alloc (Nat.le_refl _) _
theorem eL{α : Type _}{x : Option α}{a b : α}(h : x = some a)(e : a = b := by kernel_rfl) : x = some b := h.trans (congrArg some e)
end Go.Proofs.YtmbpnkacggngkaaGreatDoor
namespace Go.Proofs.YtmbpnkacggngkaaGreatDoor
open Tryz
section
namespace Mem
open Go.RowKit
theorem gM(a:Addr)(i:Nat):(a.add i).block=a.block:=by
 unfold Addr.add
 split<;>rfl
theorem add_add(a:Addr)(i j:Nat):(a.add i).add j=a.add (i+j):=by
 unfold Addr.add
 by_cases A:i=0<;>by_cases B:j=0<;>simp[A,B,Nat.add_assoc]
theorem wf_int{x:Int}(h:(Lit.int .i64 x).wf=true) : -9223372036854775808<=x/\x<=9223372036854775807:=by
 simp[Lit.wf,IntKind.min,IntKind.max,IntKind.signed,IntKind.bits] at h
 exact h
structure Vs(w:World)(B size:Nat)(A:Option Addr)(n:Nat)(xs:List Value):Prop where
 len:xs.length=n*size
 rd:∀j u,xs[j]?=some u->∃ad,A=some ad/\ad.block<B/\w.cell? (ad.add j)=some u
section
variable {w w':World}{B B' size n:Nat}{A:Option Addr}{xs:List Value}
theorem Vs.empty(w:World)(B size:Nat)(A:Option Addr):Vs w B size A 0 []:=⟨by simp,fun j u h=>by simp at h⟩
theorem Vs.keep(h:Vs w B size A n xs)(D:∀p:Addr,p.block<B->w'.cell? p=w.cell? p):Vs w' B size A n xs :=
 ⟨h.len,fun j u E=>by
  obtain⟨F,e,C,G⟩:=h.rd j u E;exact⟨F,e,C,(D _ (by rw[gM];exact C)).trans G⟩⟩
theorem Vs.mono(h:Vs w B size A n xs)(F:B<=B'):Vs w B' size A n xs :=
 ⟨h.len,fun j u C=>by
  obtain⟨D,e,G,E⟩:=h.rd j u C;exact⟨D,e,by omega,E⟩⟩
theorem Vs.below(h:Vs w B size A n xs)(C:Below B w w'):Vs w' B size A n xs:=h.keep fun _ D=>C.cell D
theorem Vs.at_{k:Nat}(h:Vs w B 1 A n xs)(G:k<n):∃C u,A=some C/\C.block<B/\xs[k]?=some u/\w.cell? (C.add k)=some u:=by
 have D:k<xs.length:=by have:=h.len;omega
 obtain⟨C,e,E,F⟩:=h.rd k _ (List.getElem?_eq_getElem D)
 exact⟨C,xs[k],e,E,List.getElem?_eq_getElem D,F⟩
theorem Vs.drop(h:Vs w B size A n xs){k cap:Nat}(I:k<=n)(J:n<=cap) :
  Vs w B size (if cap=k then A else A.map (·.add (k*size))) (n-k) (xs.drop (k*size)):=by
 refine⟨by rw[List.length_drop,h.len,Nat.sub_mul],fun j u D=>?_⟩
 rw[List.getElem?_drop] at D
 obtain⟨F,rfl,G,C⟩:=h.rd _ _ D
 have H:k*size+j<n*size:=by
  have:=(List.getElem?_eq_some_iff.1 D).1;rw[h.len] at this;exact this
 have E:¬cap=k:=by
  rintro rfl;have:n=cap:=by omega
  subst this;omega
 rw[if_neg E]
 exact⟨F.add (k*size),rfl,by rw[gM];exact G,by rw[add_add];exact C⟩
theorem Vs.take(h:Vs w B size A n xs){k:Nat}(D:k<=n):Vs w B size A k (xs.take (k*size)):=by
 refine⟨by rw[List.length_take,h.len];exact Nat.min_eq_left (Nat.mul_le_mul_right _ D),fun j u C=>?_⟩
 rw[List.getElem?_take] at C
 split at C
 .exact h.rd j u C
 .cases C
theorem Vs.of_own{base:Nat}{e:TypeId}{c:Nat}(h:w.ownsRow base e size (.slice A n c) n xs):Vs w w.heap.size size A n xs:=by
 refine⟨h.1,fun j u B=>?_⟩
 rcases h.2 with⟨C,D⟩|⟨g,cap,E,C,_,F,_⟩
 .subst D
  have:xs=[]:=List.eq_nil_of_length_eq_zero (by simpa using h.1);subst this;simp at B
 .have G:A=some ⟨g,0,none⟩:=by injection C
  subst G;exact⟨_,rfl,(Array.getElem?_eq_some_iff.1 F).1,h.cells (g:=g) rfl j u B⟩
theorem aj{base:Nat}{e:TypeId}{v:Value}(h:w.ownsRow base e size v n xs):∃A c,v=.slice A n c/\n<=c/\c<=9223372036854775807:=by
 rcases h.2 with⟨rfl,rfl⟩|⟨g,cap,B,rfl,_,_,C,D,_⟩
 .exact⟨none,0,rfl,eH,by omega⟩
 .exact⟨_,cap,rfl,C,by unfold maxLen at D;omega⟩
end
theorem aH{a w D:World}{B base:Nat}{v:Value}{e:TypeId}{size n:Nat}{xs:List Value}(E:Below B a w)(F:w.grownBy D v.ownBlock)(G:B<=w.heap.size)(A:w.ownsRow base e size v n xs)(C:B<=base:=by omega):Below B a D :=
 E.grown F G fun k H=>by have:=(A.lt k H).1;omega
theorem fT{w:World}{base:Nat}{e:TypeId}{size n c:Nat}{A:Option Addr}{xs:List Value}(h:w.ownsRow base e size (.slice A n c) n xs)(F:0<n):∃g,A=some ⟨g,0,none⟩/\base<=g/\g<w.heap.size:=by
 rcases h.2 with⟨_,h0⟩|⟨g,cap,B,C,D,E,_⟩
 .omega
 .refine⟨g,?_,D,(Array.getElem?_eq_some_iff.1 E).1⟩
  injection C
theorem af{w w':World}{base B:Nat}{e:TypeId}{size n:Nat}{v:Value}{xs:List Value}(h:w.ownsRow base e size v n xs)(D:Below B w w')(I:w.heap.size<=B):w'.ownsRow base e size v n xs:=by
 refine⟨h.1,?_⟩
 rcases h.2 with E|⟨g,cap,A,F,G,C,r⟩
 .exact .inl E
 .have H:=(Array.getElem?_eq_some_iff.1 C).1
  exact .inr ⟨g,cap,A,F,G,by rw[D.block g (by omega)];exact C,r⟩
theorem aG{w:World}{b b':Nat}{e:TypeId}{size n:Nat}{v:Value}{xs:List Value}(h:w.ownsRow b e size v n xs)(D:b'<=b):w.ownsRow b' e size v n xs:=by
 refine⟨h.1,?_⟩
 rcases h.2 with B|⟨g,cap,A,C,E,r⟩
 .exact .inl B
 .exact .inr ⟨g,cap,A,C,by omega,r⟩
def bv(l:List UInt8):List Value:=l.map fun b=>.int .u8 (b.toNat:Int)
theorem dV(l:List UInt8):(bv l).length=l.length:=by simp[bv]
theorem dW(a b:List UInt8):bv (a++b)=bv a++bv b:=by simp[bv]
theorem pt(l:List UInt8)(k:Nat):(bv l)[k]?=l[k]?.map fun b=>.int .u8 (b.toNat:Int):=by simp[bv]
theorem bv_take(l:List UInt8)(k:Nat):(bv l).take k=bv (l.take k):=by simp[bv]
theorem bv_drop(l:List UInt8)(k:Nat):(bv l).drop k=bv (l.drop k):=by simp[bv]
theorem bv_set(l:List UInt8)(j:Nat)(b:UInt8):(bv l).set j (.int .u8 (b.toNat:Int))=bv (l.set j b):=by
 simp[bv,List.map_set]
theorem jj(l:List UInt8):∀u∈bv l,u.oneCell'=true:=by
 intro u A
 simp only[bv,List.mem_map] at A
 obtain⟨b,_,rfl⟩:=A
 rfl
def Bs(w:World)(B:Nat)(A:Option Addr)(n:Nat)(l:List UInt8):Prop:=Vs w B 1 A n (bv l)
section
variable {w w':World}{B B' n:Nat}{A:Option Addr}{l:List UInt8}
theorem Bs.len(h:Bs w B A n l):l.length=n:=by have:=Vs.len h;rw[dV] at this;omega
theorem Bs.mono(h:Bs w B A n l)(C:B<=B'):Bs w B' A n l:=Vs.mono h C
theorem Bs.below(h:Bs w B A n l)(C:Below B w w'):Bs w' B A n l:=Vs.below h C
theorem Bs.next(h:Bs w B A n l)(C:B<=w.heap.size)(D:eF w w'):Bs w' B A n l:=Vs.below h (D.mono C)
theorem Bs.at_{k:Nat}(h:Bs w B A n l)(F:k<n):∃C,∃D:k<l.length,A=some C/\C.block<B/\w.cell? (C.add k)=some (.int .u8 (l[k].toNat:Int)):=by
 have D:k<l.length:=by have:=h.len;omega
 obtain⟨C,u,e,G,E,H⟩:=Vs.at_ h F
 rw[pt,List.getElem?_eq_getElem D] at E
 simp only[Option.map_some,Option.some.injEq] at E
 subst E
 exact⟨C,D,e,G,H⟩
theorem Bs.take(h:Bs w B A n l){k:Nat}(C:k<=n):Bs w B A k (l.take k):=by
 have:=Vs.take h C
 rw[Nat.mul_one,bv_take] at this
 exact this
theorem Bs.drop(h:Bs w B A n l){k cap:Nat}(C:k<=n)(D:n<=cap):Bs w B (if cap=k then A else A.map (·.add k)) (n-k) (l.drop k):=by
 have:=Vs.drop h C D
 rw[Nat.mul_one,bv_drop] at this
 exact this
theorem Bs.tail(h:Bs w B A n l){k cap:Nat}(D:k<=n)(E:n<=cap)(C:¬cap=k):Bs w B (A.map fun x=>x.add k) (n-k) (l.drop k):=by
 have:=Bs.drop h D E
 rw[if_neg C] at this
 exact this
theorem Bs.of_own{base:Nat}{e:TypeId}{c:Nat}(h:w.ownsRow base e 1 (.slice A n c) n (bv l)):Bs w w.heap.size A n l:=Vs.of_own h
theorem rT(w:World)(cs:Array Value)(e:TypeId)(A:Nat × Nat)(j:Nat):(w.alloc (.cells cs e A)).cell? ⟨w.heap.size,j,none⟩=cs[j]?:=by
 unfold World.cell?
 show (match (w.heap.push (.cells cs e A))[w.heap.size]? with|some (.cells cs' _ _)=>_|_=>_)=_
 simp
theorem aZ(g j:Nat):(⟨g,0,none⟩:Addr).add j=⟨g,j,none⟩:=by
 unfold Addr.add
 split<;>simp_all
theorem Vs.new(w:World)(cs:Array Value)(e:TypeId)(B:Nat × Nat)(size n:Nat)(xs:List Value)(h:cs.toList.take (n*size)=xs)(C:n*size<=cs.size) :
  Vs (w.alloc (.cells cs e B)) (w.heap.size+1) size (some ⟨w.heap.size,0,none⟩) n xs:=by
 subst h
 refine⟨by simp;omega,fun j u A=>⟨_,rfl,by simp,?_⟩⟩
 rw[aZ,rT]
 rw[List.getElem?_take] at A
 split at A
 .simpa using A
 .cases A
def str(l:List UInt8):ByteArray:=⟨l.toArray⟩
theorem nZ(l:List UInt8):(str l).toList=l:=by
 rw[ByteArray.toList_eq]
 rfl
theorem aC(l:List UInt8):(str l).size=l.length:=by simp[str,ByteArray.size]
theorem ui{a b:List UInt8}(h:str a=str b):a=b:=by
 have:=congrArg (fun s=>s.data.toList) h
 simpa [str] using this
theorem qw{P:Program}(h:Bs w B A n l)(C e D:TypeId)(c:Nat)(H:P.underlying C=some (.slice e))(I:P.underlying e=some (.int .u8))(hd:P.underlying D=some .string) :
  (convert C D (.slice A n c)).run P w=.ok (.string (str l)) w:=by
 rcases Nat.eq_zero_or_pos n with h0|h0
 .subst h0
  have E:l=[]:=List.eq_nil_of_length_eq_zero h.len;subst E;rw[run_convert_bytes_string w C D e A 0 c H I hd]
  cases A with
  | none=>simp[Conv.bytesToString];rfl
  | some a => 
   rw[run_bytesToString w a 0 c [] (by simpa using run_loadCells_list (P:=P) w a [] (fun j v F=>by simp at F))];rfl
 .obtain⟨G,_,rfl,_,_⟩:=h.at_ h0
  have E:(loadCells G n).run P w=.ok ((l.map fun b=>(b.toNat:Int)).map (Value.int .u8)).toArray w:=by
   have:=run_loadCells_list (P:=P) w G (bv l) (fun j v F=>by
    obtain⟨J,e,_,K⟩:=Vs.rd h j v F;injection e with e
    subst e;exact K)
   rw[dV,h.len] at this;simpa [bv,List.map_map,Function.comp_def] using this
  rw[run_convert_bytes_string w C D e _ n c H I hd,run_bytesToString w G n c _ E,foldl_push_bytes];congr 2
  simp[str,ByteArray.empty,ByteArray.emptyWithCapacity,List.map_map,Function.comp_def]
  rfl
end
theorem bj{P:Program}(w:World)(base:Nat)(t ty e:TypeId)(i:TypeInfo)(z:Value)(size D:Nat)(ht:P.underlying t=some (.slice e))(hi:P.info? e=some i)(X:i.zero=some z)
  (G:i.size=size) (L:i.bytes=D) (M:z.cells.size=size) (K:0<size)
  (v:Value) (n:Nat) (xs:List Value) (E:w.ownsRow base e size v n xs)
  (B:Nat) (A:Option Addr) (m c:Nat) (C:List Value) (N:Vs w B size A m C) (Y:∀u∈C,u.oneCell'=true)
  (O:n+m<=maxLen) (F:(n+m)*D<=140737488355328) (H:base<=w.heap.size) :
  ∃J w',(Builtin.append_ #[t,t] ty #[v,.slice A m c]).run P w=.ok J w'/\w'.ownsRow base e size J (n+m) (xs++C)/\w.grownBy w' v.ownBlock /\
   (J.ownBlock=v.ownBlock\/J.ownBlock=some w.heap.size):=by
 by_cases Z:m=0
 .subst Z
  have b:C=[]:=List.eq_nil_of_length_eq_zero (by simpa using N.len);subst b
  cases A with
  | none =>
   refine⟨v,w,?_,by simpa using E,World.grownBy.refl w _,.inl rfl⟩;rcases E.2 with⟨rfl,rfl⟩|⟨g,cap,d,rfl,_,_,R,_⟩
   .simp [Builtin.append_,run_underlying ht,sizeOf,typeInfo,hi,Builtin.lenOf,Builtin.firstCells]
   .simp [Builtin.append_,run_underlying ht,sizeOf,typeInfo,hi,Builtin.lenOf,Builtin.firstCells,R,storeCells]
  | some ad =>
   obtain⟨J,w',I,S,T,_,U⟩:=run_append_own_at (P:=P) w base t ty e i z size D ht hi X G L M K v n xs E ad 0 c [] (by simp) (fun j u V=>by simp at V) (by simp) O F H;exact⟨J,w',I,S,T,U⟩
 .have Q:0<C.length:=by
   rw[N.len];exact Nat.mul_pos (by omega) K
  obtain⟨ad,rfl,_,_⟩:=N.rd 0 _ (List.getElem?_eq_getElem Q);obtain⟨J,w',I,S,T,_,U⟩:=run_append_own_at (P:=P) w base t ty e i z size D ht hi X G L M K v n xs E ad m c C N.len (fun j u V=>by
   obtain⟨f,e,_,h⟩:=N.rd j u V;injection e with e
   subst e;exact h) Y O F H
  exact⟨J,w',I,S,T,U⟩
theorem wp_append{P:Program}(w:World){o:Oper}{a:Act}{K:Act->World->Prop}{Q:Exit->Act->World->Prop}(s x:Operand)(t:TypeId)
  (T:o.op=.call { callee:=.builtin .append,args:=#[s,x],argTypes:=#[t,t] })
  (base:Nat) (e:TypeId) (i:TypeInfo) (z:Value) (size C:Nat) (ht:P.underlying t=some (.slice e)) (hi:P.info? e=some i) (U:i.zero=some z)
  (F:i.size=size) (M:i.bytes=C) (N:z.cells.size=size) (O:0<size)
  (v:Value) (n:Nat) (xs:List Value) (V:a.eval s=v) (I:w.ownsRow base e size v n xs)
  (B:Nat) (A:Option Addr) (m c:Nat) (D:List Value) (hx:a.eval x=.slice A m c) (X:Vs w B size A m D) (Y:∀u∈D,u.oneCell'=true)
  (R:n+m<=maxLen) (E:(n+m)*C<=140737488355328) (G:base<=w.heap.size)
  (h:∀L H w',w'.ownsRow base e size (.slice L (n+m) H) (n+m) (xs++D)->n+m<=H->H<=9223372036854775807->w.grownBy w' v.ownBlock->K (a.put o.dst (.slice L (n+m) H)) w'):o.wp P a w K Q:=by
 obtain⟨d,w',J,S,Z,_⟩:=bj (P:=P) w base t o.type e i z size C ht hi U F M N O v n xs I B A m c D X Y R E G
 obtain⟨L,H,rfl,g1,b⟩:=aj S
 unfold Oper.wp execOp
 simp only[T,resolve,invoke,builtin,Sem.run_bind,Sem.run_pure,Result.andThen_ok,List.map_toArray,List.map_cons,List.map_nil,V,hx,J]
 exact h L H w' S g1 b Z
theorem aK{P:Program}(w:World){ops:Array Oper}{rest:List Oper}{o:Oper}{a:Act}{Q:Exit->Act->World->Prop}(K:o.guard=none)(s x:Operand)(t:TypeId)
  (R:o.op=.call { callee:=.builtin .append,args:=#[s,x],argTypes:=#[t,t] })
  (base:Nat) (e:TypeId) (i:TypeInfo) (z:Value) (size C:Nat) (ht:P.underlying t=some (.slice e)) (hi:P.info? e=some i) (S:i.zero=some z)
  (F:i.size=size) (L:i.bytes=C) (M:z.cells.size=size) (N:0<size)
  (v:Value) (n:Nat) (xs:List Value) (T:a.eval s=v) (I:w.ownsRow base e size v n xs)
  (B:Nat) (A:Option Addr) (m c:Nat) (D:List Value) (hx:a.eval x=.slice A m c) (U:Vs w B size A m D) (V:∀u∈D,u.oneCell'=true)
  (O:n+m<=maxLen) (E:(n+m)*C<=140737488355328) (G:base<=w.heap.size)
  (h:∀J H w',w'.ownsRow base e size (.slice J (n+m) H) (n+m) (xs++D)->n+m<=H->H<=9223372036854775807->w.grownBy w' v.ownBlock->wpList P ops Q rest (a.put o.dst (.slice J (n+m) H)) w'):wpList P ops Q (o::rest) a w :=
 wpList_plain K fun _ X=>wp_append w s x t R base e i z size C ht hi S F L M N v n xs T I B A m c D hx U V O E G fun J H w' Y g1 Z b=>X _ _ (h J H w' Y g1 Z b)
theorem bi{P:Program}{w:World}{e:TypeId}{X:Value}{ops:Array Oper}{rest:List Oper}{o:Oper}{a:Act}{Q:Exit->Act->World->Prop}(F:o.guard=none)(s x:Operand)(t:TypeId)
  (M:o.op=.call { callee:=.builtin .append,args:=#[s,x],argTypes:=#[t,t] })
  (base:Nat) (i:TypeInfo) (z:Value) (A:Nat) (ht:P.underlying t=some (.slice e)) (hi:P.info? e=some i) (N:i.zero=some z)
  (C:i.size=1) (G:i.bytes=A) (H:z.cells.size=1)
  (v:Value) (n:Nat) (xs:List Value) (O:a.eval s=v) (D:w.ownsRow base e 1 v n xs)
  (hx:a.eval x=.slice (some ⟨w.heap.size,0,none⟩) 1 1) (R:X.oneCell'=true)
  (I:n+1<=maxLen) (B:(n+1)*A<=140737488355328) (J:base<=w.heap.size)
  (h:∀K E w',w'.ownsRow base e 1 (.slice K (n+1) E) (n+1) (xs++[X])->n+1<=E->E<=9223372036854775807->(w.alloc (.cells #[X] e)).grownBy w' v.ownBlock->wpList P ops Q rest (a.put o.dst (.slice K (n+1) E)) w'):wpList P ops Q (o::rest) a (w.alloc (.cells #[X] e)) :=
 aK (w.alloc (.cells #[X] e)) F s x t M base e i z 1 A ht hi N C G H (by omega) v n xs O (D.alloc _) _ _ 1 1 [X] hx
  (Vs.new w #[X] e (0,0) 1 1 [X] rfl (by simp)) (by intro u L;simp at L;subst L;exact R) I B (by simp;omega) h
theorem bC{a w D:World}{B base:Nat}{X v:Value}{e:TypeId}{n:Nat}{xs:List Value}(E:Below B a w)(F:(w.alloc (.cells #[X] e)).grownBy D v.ownBlock)(G:B<=w.heap.size)(C:w.ownsRow base e 1 v n xs)(A:B<=base):Below B a D :=
 aH (E.alloc G _) F (by simp;omega) (C.alloc (.cells #[X] e)) A
end Mem
attribute [go_sem] Mem.nZ
end
section
namespace Mem
open Go.RowKit
def Has(w:World)(b o n:Nat):Prop:=∀j,j<n->(w.cell? ⟨b,o+j,none⟩).isSome=true
def Fre(w:World)(b o n:Nat):Prop:=∀j,j<n->w.frozen? ⟨b,o+j,none⟩=false
def arr(w:World)(b o n:Nat):Array Value:=((List.range n).map fun j=>(w.cell? ⟨b,o+j,none⟩).getD undef).toArray
def Cells(V:Array Value)(n:Nat):Prop:=V.size=n/\∀v∈V.toList,v.oneCell'=true
section
variable {w:World}{b o n:Nat}
theorem arr_size(w:World)(b o n:Nat):(arr w b o n).size=n:=by simp[arr]
theorem arr_drew:arr w.drew b o n=arr w b o n:=rfl
theorem arr_drewN(q:Nat):arr (w.drewN q) b o n=arr w b o n:=rfl
end
section
variable {P:Program}(w:World)(t:TypeId)(b o n:Nat)(d:TypeDesc)(ht:P.underlying t=some d)(hd:(match d with|.struct _|.array _ _=>true|_=>false)=true)(hi:(P.info? t).map (·.size)=some n)
include ht hd hi
omit hi in
theorem run_isAgg:(isAgg t).run P w=.ok true w:=by
 unfold isAgg
 rw[Sem.run_bind,run_underlying ht w]
 cases d<;>simp_all
omit ht hd in
theorem qx:(sizeOf t).run P w=.ok n w:=by
 cases A:P.info? t with
 | none=>simp[A] at hi
 | some i =>
  have B:i.size=n:=by simpa [A] using hi
  simp[sizeOf,typeInfo,A,B]
theorem bH(h:Has w b o n):(Instr.loadAt t (.pointer (some ⟨b,o,none⟩))).run P w=.ok (.agg (arr w b o n)) w:=by
 have E:(loadCells ⟨b,o,none⟩ n).run P w=.ok (arr w b o n) w:=by
  have:=run_loadCells_list (P:=P) w ⟨b,o,none⟩ (arr w b o n).toList (fun j v B=>by
   have A:(⟨b,o,none⟩:Addr).add j=⟨b,o+j,none⟩:=by unfold Addr.add;split<;>simp_all
   rw[A];have C:j<n:=by
    have:=(List.getElem?_eq_some_iff.1 B).1;simpa [arr] using this
   obtain⟨u,D⟩:=Option.isSome_iff_exists.1 (h j C);simp[arr,C,D] at B
   rw[D,B])
  rw[Array.length_toList,arr_size] at this;simpa using this
 have F:=run_isAgg (P:=P) w t d ht hd
 have G:=qx (P:=P) w t n hi
 simp only[Instr.loadAt,Instr.sureAddr,Sem.run_bind,Sem.run_pure,Result.andThen_ok,loadVar,F,G,if_true,E]
omit ht hd in
theorem bu(V:Array Value)(B:Cells V n)(h:Has w b o n)(C:Fre w b o n):(Instr.storeAt t (.pointer (some ⟨b,o,none⟩)) (.agg V)).run P w=.ok () (w.setCells b o V.toList):=by
 have D:=qx (P:=P) w t n hi
 have G:V.toList.length=n:=by simpa using B.1
 have A:=run_storeCells_cells (P:=P) b o V.toList 0 w (fun j E=>by simpa using h j (by omega)) (fun j E=>by simpa using C j (by omega)) B.2
 simp only[Nat.add_zero] at A
 have F:(Value.agg V).cells=V:=rfl
 simp only[Instr.storeAt,Instr.sureAddr,Sem.run_bind,Sem.run_pure,Result.andThen_ok,storeVar,D,F,B.1,ne_eq,not_true_eq_false,if_false,A]
end
section
variable {w w':World}{b o:Nat}{l:List UInt8}
end
theorem tZ{w:World}{g n:Nat}{cs:Array Value}{t:TypeId}{C:Nat × Nat}(h:w.heap[g]?=some (.cells cs t C))(E:cs.size=n):arr w g 0 n=cs/\Has w g 0 n:=by
 subst E
 have D:∀j,w.cell? ⟨g,0+j,none⟩=cs[j]?:=fun j=>by rw[Nat.zero_add,cell_of_row w g j cs t C h]
 constructor
 .unfold arr
  apply Array.toList_inj.1
  apply List.ext_getElem?
  intro j;by_cases B:j<cs.size
  .have A:=D j
   rw[Nat.zero_add] at A;simp[B,A]
  .simp [B]
 .intro j B
  rw[D];simp[B]
theorem dA{P:Program}{B:Func}{p:Tmp}{ty:TypeId}(h:B.results=#[.cell p ty])(tmps:Array Value)(w:World)(g o n:Nat)(d:TypeDesc)
  (D:tmps.getD p undef=.pointer (some ⟨g,o,none⟩)) (E:P.underlying ty=some d) (hd:(match d with|.struct _|.array _ _=>true|_=>false)=true) (hi:(P.info? ty).map (·.size)=some n) (F:Has w g o n) :
  (results B tmps).run P w=.ok (.agg (arr w g o n)) w:=by
 have A:tmps[p]?.getD undef=.pointer (some ⟨g,o,none⟩):=by simpa using D
 have C:=bH (P:=P) w ty g o n d E hd hi F
 simp only[Instr.loadAt,Instr.sureAddr,Sem.run_bind,Sem.run_pure,Result.andThen_ok] at C
 simp[results,h,A,asAddr,C]
structure Chg(S:List Nat)(w w':World):Prop where
 os:w'.os=w.os
 tape:w'.tape=w.tape
 output:w'.output=w.output
 size:w.heap.size<=w'.heap.size
 block:∀k,k<w.heap.size->k∉S->w'.heap[k]?=w.heap[k]?
section
variable {S S':List Nat}{a w w':World}
theorem Chg.refl(S:List Nat)(w:World):Chg S w w:=⟨rfl,rfl,rfl,eH,fun _ _ _=>rfl⟩
theorem Chg.trans(h:Chg S a w)(k:Chg S' w w')(C:∀s,s∈S'->s∈S\/a.heap.size<=s):Chg S a w' :=
 ⟨k.os.trans h.os,k.tape.trans h.tape,k.output.trans h.output,Nat.le_trans h.size k.size,fun i hi A =>
  (k.block i (Nat.lt_of_lt_of_le hi h.size) (fun D=>by
   rcases C i D with B|B
   .exact A B
   .omega)).trans (h.block i hi A)⟩
theorem Chg.and(h:Chg S a w)(k:Chg S w w'):Chg S a w':=h.trans k fun _ A=>.inl A
theorem Chg.of_below(h:eF a w):Chg S a w:=⟨h.os,h.tape,h.output,h.size,fun i hi _=>h.block i hi⟩
theorem Chg.and_below(h:Chg S a w)(k:eF w w'):Chg S a w':=h.and (Chg.of_below k)
theorem Chg.below(h:Chg S a w)(A:∀s,s∈S->a.heap.size<=s):eF a w :=
 ⟨h.os,h.tape,h.output,h.size,fun i hi=>h.block i hi fun B=>by have:=A i B;omega⟩
theorem Chg.below'{B:Nat}(h:Chg S a w)(D:B<=a.heap.size)(A:∀s,s∈S->B<=s):Below B a w :=
 ⟨h.os,h.tape,h.output,h.size,fun i hi=>h.block i (by omega) fun C=>by have:=A i C;omega⟩
theorem Chg.mono(h:Chg S a w)(A:∀s,s∈S->s∈S'):Chg S' a w:=⟨h.os,h.tape,h.output,h.size,fun i hi B=>h.block i hi fun C=>B (A i C)⟩
theorem Chg.drew(h:Chg S a w):Chg S a w.drew:=⟨h.os,h.tape,h.output,h.size,h.block⟩
theorem Chg.alloc(h:Chg S a w)(o:Obj):Chg S a (w.alloc o):=h.and_below ((Below.refl _ _).alloc eH o)
theorem Chg.setCell(h:Chg S a w){p:Addr}(A:p.block∈S\/a.heap.size<=p.block)(v:Value):Chg S a (w.setCell p v) :=
 h.trans (S':=[p.block]) ⟨rfl,rfl,rfl,by simp[World.setCell],fun i _ B=>Below.heap_setCell _ _ _ _ (by simpa using B)⟩ (by simpa using A)
theorem Chg.setCells(vs:List Value):∀{w:World} {b o:Nat},Chg S a w->(b∈S\/a.heap.size<=b)->Chg S a (w.setCells b o vs):=by
 induction vs with
 | nil=>intro w b o h _;exact h
 | cons v r ih =>
  intro w b o h A;exact ih (h.setCell (p:=⟨b,o,none⟩) A v) A
theorem Chg.cell(h:Chg S a w){p:Addr}(A:p.block<a.heap.size)(B:p.block∉S):w.cell? p=a.cell? p:=World.cell?_of_block (h.block _ A B)
theorem Chg.frozen(h:Chg S a w){p:Addr}(A:p.block<a.heap.size)(B:p.block∉S):w.frozen? p=a.frozen? p:=World.frozen?_of_block (h.block _ A B)
end
end Mem
attribute [go_sem] Mem.arr_drew Mem.arr_drewN World.frozen?_setCells
end
section
open Go.RowKit Mem
theorem an{P:Program}{t:TypeId}{z:Value}{n b:Nat}(h:(P.info? t).map (fun i=>(i.zero,i.size,i.bytes))=some (some z,n,b)) :
  ∃i,P.info? t=some i/\i.zero=some z/\i.size=n/\i.bytes=b:=by
 cases hi:P.info? t with
 | none=>rw[hi] at h;cases h
 | some i =>
  rw[hi] at h;simp at h
  exact⟨i,rfl,h.1,h.2.1,h.2.2⟩
theorem infoU8:(prog.info? 5).map (fun i=>(i.zero,i.size,i.bytes))=some (some (.int .u8 0),1,1):=by kernel_rfl
def Blk(w:World)(g:Nat)(cs:List Value)(t:TypeId):Prop:=w.heap[g]?=some (.cells cs.toArray t (0,0))
section
variable {w w':World}{g:Nat}{cs:List Value}{t:TypeId}
theorem Blk.lt(h:Blk w g cs t):g<w.heap.size:=(Array.getElem?_eq_some_iff.1 h).1
theorem Blk.cell(h:Blk w g cs t)(k:Nat):w.cell? ⟨g,k,none⟩=cs[k]?:=by
 unfold World.cell?
 show (match w.heap[g]? with|some (.cells cs' _ _)=>_|_=>_)=_
 rw[h]
 simp
theorem Blk.froz(h:Blk w g cs t)(k:Nat):w.frozen? ⟨g,k,none⟩=false:=frozen_of_row w g k _ t h
theorem Blk.set(h:Blk w g cs t)(k:Nat)(v:Value):Blk (w.setCell ⟨g,k,none⟩ v) g (cs.set k v) t:=by
 unfold Blk
 rw[heap_setCell_same w g k _ t v h]
 simp
theorem Blk.set_ne(h:Blk w g cs t){p:Addr}(A:g≠p.block)(v:Value):Blk (w.setCell p v) g cs t:=by
 unfold Blk
 rw[heap_setCell_other w p g v A]
 exact h
theorem Blk.chg{S:List Nat}(h:Blk w g cs t)(A:Chg S w w')(B:g∉S):Blk w' g cs t:=by
 unfold Blk
 rw[A.block g h.lt B]
 exact h
theorem Blk.below(h:Blk w g cs t)(A:eF w w'):Blk w' g cs t:=h.chg (S:=[]) (Chg.of_below A) (by simp)
theorem Blk.drew(h:Blk w g cs t):Blk w.drew g cs t:=h
theorem Blk.alloc(h:Blk w g cs t)(o:Obj):Blk (w.alloc o) g cs t:=h.chg (S:=[]) ((Chg.refl _ _).alloc o) (by simp)
theorem Blk.new(w:World)(cs:List Value)(t:TypeId):Blk (w.alloc (.cells cs.toArray t)) w.heap.size cs t:=by
 unfold Blk
 show (w.heap.push (.cells cs.toArray t))[w.heap.size]?=_
 simp
end
theorem step_pushAt{P:Program}{w:World}{e:TypeId}{X:Value}{ops:Array Oper}{o:Oper}{a:Act}{K:Act->World->Prop}{Q:Exit->Act->World->Prop}{E:Prop}(I:o.guard=none)(s x:Operand)(t:TypeId)
  (S:o.op=.call { callee:=.builtin .append,args:=#[s,x],argTypes:=#[t,t] })
  (base:Nat) (i:TypeInfo) (z:Value) (A:Nat) (ht:P.underlying t=some (.slice e)) (hi:P.info? e=some i) (T:i.zero=some z)
  (D:i.size=1) (J:i.bytes=A) (L:z.cells.size=1)
  (v:Value) (n:Nat) (xs:List Value) (U:a.eval s=v) (G:w.ownsRow base e 1 v n xs)
  (hx:a.eval x=.slice (some ⟨w.heap.size,0,none⟩) 1 1) (V:X.oneCell'=true)
  (M:n+1<=maxLen) (B:(n+1)*A<=140737488355328) (N:base<=w.heap.size)
  (h:∀F C w',w'.ownsRow base e 1 (.slice F (n+1) C) (n+1) (xs++[X])->n+1<=C->C<=9223372036854775807->(w.alloc (.cells #[X] e)).grownBy w' v.ownBlock ->
   ((Value.slice F (n+1) C).ownBlock=v.ownBlock\/(Value.slice F (n+1) C).ownBlock=some (w.heap.size+1))->K (a.put o.dst (.slice F (n+1) C)) w') :
  if Region.wanted o (yielded ops a.tmps)=true then Oper.wp P o a (w.alloc (.cells #[X] e)) K Q else E:=by
 have Y:Region.wanted o (yielded ops a.tmps)=true:=by simp[Region.wanted,I]
 rw[if_pos Y]
 obtain⟨d,w',H,O,Z,b⟩:=bj (P:=P) (w.alloc (.cells #[X] e)) base t o.type e i z 1 A ht hi T D J L (by omega) v n xs (G.alloc _) _ _ 1 1 [X]
  (Vs.new w #[X] e (0,0) 1 1 [X] rfl (by simp)) (by intro u R;simp at R;subst R;exact V) M B (by simp;omega)
 obtain⟨F,C,rfl,g1,c⟩:=aj O
 unfold Oper.wp execOp
 simp only[S,resolve,invoke,builtin,Sem.run_bind,Sem.run_pure,Result.andThen_ok,List.map_toArray,List.map_cons,List.map_nil,U,hx,H]
 exact h F C w' O g1 c Z (by simpa using b)
theorem strCells_bv(l:List UInt8):Lib.strCells (str l)=bv l:=rfl
theorem oO{P:Program}(w:World)(base:Nat)(t u ty e:TypeId)(i:TypeInfo)(ht:P.underlying t=some (.slice e))(K:P.underlying u=some .string)(hi:P.info? e=some i)(M:i.zero=some (.int .u8 0))
  (B:i.size=1) (E:i.bytes=1)
  (v:Value) (n:Nat) (xs:List Value) (C:w.ownsRow base e 1 v n xs) (s:ByteArray)
  (D:n+s.size<=140737488355328) (F:base<=w.heap.size) :
  ∃I w',(Builtin.append_ #[t,u] ty #[v,.string s]).run P w=.ok I w'/\w'.ownsRow base e 1 I (n+s.size) (xs++Lib.strCells s)/\w.grownBy w' v.ownBlock /\
   (I.ownBlock=v.ownBlock\/I.ownBlock=some w.heap.size):=by
 have N:n+s.size<=maxLen:=by unfold maxLen;omega
 have O:xs.length=n:=by simpa using C.1
 obtain⟨I,w',L,T,U,V⟩:=Lib.run_append_own_string (P:=P) w base t u ty e i ht K hi M B E v n xs C s N D F
 refine⟨I,w',L,T,U,?_⟩
 rcases C.2 with⟨rfl,rfl⟩|⟨g,cap,J,rfl,X,Y,Z,b,Q,R⟩
 .by_cases c:s.size=0
  .exact .inl (by rw[V.2 ⟨rfl,c⟩])
  .have A:=run_append_nil_string (P:=P) w t u ty e i (.int .u8 0) ht K hi M s (by omega) (by omega) (by rw[E];omega)
   rw[L] at A;injection A with e1 e2
   exact .inr (by rw[e1];rfl)
 .by_cases G:n+s.size<=cap
  .have S:J.size=cap:=by simpa using Q
   have A:=Lib.run_append_room_string (P:=P) w t u ty e i ht K hi B g n cap J Y s G (by omega);rw[L] at A;injection A with e1 e2
   exact .inl (by rw[e1];rfl)
  .have H:∀j u,xs[j]?=some u->w.cell? ((⟨g,0,none⟩:Addr).add j)=some u:=C.cells (g:=g) rfl
   have A:=Lib.run_append_grow_string (P:=P) w t u ty e i (.int .u8 0) ht K hi M ⟨g,0,none⟩ n cap xs (by rw[B];simpa using O) H s (by omega) (by omega) (by rw[E];exact growslice_fits (by omega) (by omega))
   rw[L] at A;injection A with e1 e2
   exact .inr (by rw[e1];rfl)
theorem mP{P:Program}{w:World}{e:TypeId}{ops:Array Oper}{o:Oper}{a:Act}{K:Act->World->Prop}{Q:Exit->Act->World->Prop}{E:Prop}(I:o.guard=none)(s x:Operand)(t u:TypeId)
  (M:o.op=.call { callee:=.builtin .append,args:=#[s,x],argTypes:=#[t,u] })
  (base:Nat) (i:TypeInfo) (ht:P.underlying t=some (.slice e)) (N:P.underlying u=some .string) (hi:P.info? e=some i) (O:i.zero=some (.int .u8 0))
  (B:i.size=1) (J:i.bytes=1)
  (v:Value) (n:Nat) (xs:List Value) (R:a.eval s=v) (G:w.ownsRow base e 1 v n xs) (l:ByteArray)
  (hx:a.eval x=.string l) (A:n+l.size<=140737488355328) (C:base<=w.heap.size)
  (h:∀D F w',w'.ownsRow base e 1 (.slice D (n+l.size) F) (n+l.size) (xs++Lib.strCells l)->w.grownBy w' v.ownBlock ->
   ((Value.slice D (n+l.size) F).ownBlock=v.ownBlock\/(Value.slice D (n+l.size) F).ownBlock=some w.heap.size)->K (a.put o.dst (.slice D (n+l.size) F)) w') :
  if Region.wanted o (yielded ops a.tmps)=true then Oper.wp P o a w K Q else E:=by
 have S:Region.wanted o (yielded ops a.tmps)=true:=by simp[Region.wanted,I]
 rw[if_pos S]
 obtain⟨V,w',H,L,T,U⟩:=oO (P:=P) w base t u o.type e i ht N hi O B J v n xs G l A C
 obtain⟨D,F,rfl,g1,X⟩:=aj L
 unfold Oper.wp execOp
 simp only[M,resolve,invoke,builtin,Sem.run_bind,Sem.run_pure,Result.andThen_ok,List.map_toArray,List.map_cons,List.map_nil,R,hx,H]
 exact h D F w' L T U
end
section
namespace Led
abbrev Txt:=List UInt8
structure Entry where
 n:Int
 path:Txt
 parent:Txt
 ttl:Int
 sels:List Txt
structure Join where
 text:Txt
 name:Txt
 expires:Int
 used:Bool
structure Node where
 name:Txt
 key:Txt
 expires:Int
 seq:Int
 doc:Txt
structure Key where
 kid:Txt
 seed:Txt
 state:Int
 since:Int
structure Jwk where
 kid:Txt
 x:Txt
structure Bundle where
 domain:Txt
 number:Int
 keys:List Jwk
structure Op where
 kind:Int
 n:Int
 name:Txt
 entry:Entry
 join:Join
 node:Node
 key:Key
 bundle:Bundle
def le:Nat->Int->Txt
 | 0,_=>[]
 | k+1,x=>UInt8.ofNat (x % 256).toNat::le k (x / 256)
def un:Txt->Nat
 | []=>0
 | b::t=>b.toNat+256*un t
def sg(n:Nat):Int:=if n<9223372036854775808 then (n:Int) else (n:Int)-18446744073709551616
def I64(x:Int):Prop := -9223372036854775808<=x/\x<=9223372036854775807
theorem cQ:∀(k:Nat) (x:Int),(le k x).length=k
 | 0,_=>rfl
 | k+1,x=>by simp[le,cQ k]
theorem un_lt:∀t:Txt,un t<256 ^ t.length
 | []=>by simp[un]
 | b::t=>by
  have ih:=un_lt t;have A:=b.toNat_lt;simp only[un,List.length_cons,Nat.pow_succ];omega
theorem emod_two(x p:Int):x % (256*p)=x % 256+256*(x / 256 % p):=by
 have e:=Int.ediv_ediv_of_nonneg (x:=x) (y:=256) (z:=p) (by omega)
 have A:=Int.emod_def x (256*p)
 have B:=Int.emod_def x 256
 have C:=Int.emod_def (x / 256) p
 rw[<-e,Int.mul_assoc] at A
 generalize hq:p*(x / 256 / p)=z at *
 omega
theorem un_le:∀(k:Nat) (x:Int),((un (le k x):Nat):Int)=x % (256 ^ k:Nat)
 | 0,x=>by simp[un,le]
 | k+1,x=>by
  have ih:=un_le k (x / 256);have E:0<=x % 256:=Int.emod_nonneg _ (by omega);have F:x % 256<256:=Int.emod_lt_of_pos _ (by omega);have A:(UInt8.ofNat (x % 256).toNat).toNat=(x % 256).toNat:=by
   rw[UInt8.toNat_ofNat_of_lt' (show (x % 256).toNat<256 by omega)]
  have B:(256:Nat) ^ (k+1)=256*256 ^ k:=by rw[Nat.pow_succ,Nat.mul_comm]
  rw[B];generalize (256:Nat) ^ k=p at *;have C:=emod_two x p;have D:((256*p:Nat):Int)=256*(p:Int):=by omega
  rw[D,C,<-ih];simp only[un,le,A];omega
theorem sg_small{n:Nat}(h:n<9223372036854775808):sg n=n:=by simp[sg,h]
theorem sg_un_le8{x:Int}(h:I64 x):sg (un (le 8 x))=x:=by
 have e:=un_le 8 x
 unfold I64 at h
 have A:((256 ^ 8:Nat):Int)=18446744073709551616:=by decide
 rw[A] at e
 unfold sg
 split<;>omega
theorem qr{x:Int}{k:Nat}(B:k<=7)(h0:0<=x)(h:x<(256 ^ k:Nat)):sg (un (le k x))=x:=by
 have e:=un_le k x
 have A:=un_lt (le k x)
 rw[cQ] at A
 have C:(256:Nat) ^ k<=256 ^ 7:=Nat.pow_le_pow_right (by omega) (by omega)
 rw[sg_small (by omega),e,Int.emod_eq_of_lt h0 h]
def bp(s:Txt):Txt:=le 2 ((s.length % 65536:Nat):Int)++s.take (s.length % 65536)
def nH(k:Jwk):Txt:=bp k.kid++bp k.x
def tU{α:Type}(f:α->Txt)(L:List α):Txt:=le 1 ((L.length % 256:Nat):Int)++((L.take (L.length % 256)).map f).flatten
def b01(b:Bool):Int:=if b then 1 else 0
def enc(o:Op):Txt :=
 le 1 (o.kind % 256)++(le 8 o.n++(bp o.name++(le 8 o.entry.n++(bp o.entry.path++(bp o.entry.parent++(le 8 o.entry.ttl ++
 (tU bp o.entry.sels++(bp o.join.text++(bp o.join.name++(le 8 o.join.expires++(le 8 (b01 o.join.used) ++
 (bp o.node.name++(bp o.node.key++(le 8 o.node.expires++(le 8 o.node.seq++(bp o.node.doc ++
 (bp o.key.kid++(bp o.key.seed++(le 8 o.key.state++(le 8 o.key.since++(bp o.bundle.domain++(le 8 o.bundle.number++tU nH o.bundle.keys))))))))))))))))))))))
abbrev St:=Txt × Bool
def iU(k:Nat)(s:St):Int × St:=(sg (un (s.1.take k)),if k<=s.1.length then (s.1.drop k,s.2) else ([],true))
def fR(s:St):Txt × St :=
 if (iU 2 s).2.1.length<(iU 2 s).1.toNat then ([],([],true)) else ((iU 2 s).2.1.take (iU 2 s).1.toNat,((iU 2 s).2.1.drop (iU 2 s).1.toNat,(iU 2 s).2.2))
def rkey(s:St):Jwk × St:=(⟨(fR s).1,(fR (fR s).2).1⟩,(fR (fR s).2).2)
def reach{α:Type}(f:St->α × St):Nat->St->List α × St
 | 0,s=>([],s)
 | n+1,s=>((f s).1::(reach f n (f s).2).1,(reach f n (f s).2).2)
def rmany{α:Type}(f:St->α × St)(s:St):List α × St:=reach f (iU 1 s).1.toNat (iU 1 s).2
def late(u:Int)(s:St):St:=(s.1,s.2||decide (u > 1)||decide (u<0))
def rop(s:St):Op × St :=
 let Q:=iU 1 s
 let R:=iU 8 Q.2
 let S:=fR R.2
 let T:=iU 8 S.2
 let U:=fR T.2
 let V:=fR U.2
 let X:=iU 8 V.2
 let Y:=rmany fR X.2
 let Z:=fR Y.2
 let B:=fR Z.2
 let C:=iU 8 B.2
 let A:=iU 8 C.2
 let D:=fR (late A.1 A.2)
 let E:=fR D.2
 let F:=iU 8 E.2
 let G:=iU 8 F.2
 let H:=fR G.2
 let I:=fR H.2
 let J:=fR I.2
 let K:=iU 8 J.2
 let L:=iU 8 K.2
 let M:=fR L.2
 let N:=iU 8 M.2
 let O:=rmany rkey N.2
 (⟨Q.1,R.1,S.1,⟨T.1,U.1,V.1,X.1,Y.1⟩,⟨Z.1,B.1,C.1,A.1==1⟩,⟨D.1,E.1,F.1,G.1,H.1⟩,⟨I.1,J.1,K.1,L.1⟩,⟨M.1,N.1,O.1⟩⟩,O.2)
theorem mY{k:Nat}{x:Int}(hx:sg (un (le k x))=x)(r:Txt)(b:Bool):iU k (le k x++r,b)=(x,(r,b)):=by
 have A:=cQ k x
 unfold iU
 simp only[]
 rw[List.take_left' A,hx,List.length_append,A,if_pos (by omega),List.drop_left' A]
theorem mn{x:Int}(hx:I64 x)(r:Txt)(b:Bool):iU 8 (le 8 x++r,b)=(x,(r,b)):=mY (sg_un_le8 hx) r b
theorem bN{t:Txt}(ht:t.length<65536)(r:Txt)(b:Bool):fR (bp t++r,b)=(t,(r,b)):=by
 have A:t.length % 65536=t.length:=by omega
 have e:=mY (k:=2) (x:=(t.length:Int)) (qr (by omega) (by omega) (by omega)) (t++r) b
 unfold fR bp
 rw[A,List.take_length,List.append_assoc,e]
 simp only[Int.toNat_natCast,List.length_append]
 rw[if_neg (by omega),List.take_left' rfl,List.drop_left' rfl]
theorem read_key{k:Jwk}(A:k.kid.length<65536)(B:k.x.length<65536)(r:Txt)(b:Bool):rkey (nH k++r,b)=(k,(r,b)):=by
 unfold rkey nH
 rw[List.append_assoc,bN A,bN B]
theorem qE{α:Type}{f:St->α × St}{e:α->Txt}{P:α->Prop}(h:∀x,P x->∀r b,f (e x++r,b)=(x,(r,b))):∀(L:List α),(∀x∈L,P x)->∀(r:Txt) (b:Bool),reach f L.length ((L.map e).flatten++r,b)=(L,(r,b))
 | [],_,r,b=>rfl
 | x::L,hL,r,b=>by
  have ih:=qE h L (fun y A=>hL y (List.mem_cons_of_mem _ A)) r b;simp only[List.map_cons,List.flatten_cons,List.length_cons,reach,List.append_assoc];rw[h x (hL x List.mem_cons_self),ih]
theorem tp{α:Type}{f:St->α × St}{e:α->Txt}{P:α->Prop}(h:∀x,P x->∀r b,f (e x++r,b)=(x,(r,b))){L:List α}(D:L.length<256)(A:∀x∈L,P x)(r:Txt)(b:Bool):rmany f (tU e L++r,b)=(L,(r,b)):=by
 have B:L.length % 256=L.length:=by omega
 have C:=mY (k:=1) (x:=(L.length:Int)) (qr (by omega) (by omega) (by omega)) ((L.map e).flatten++r) b
 unfold rmany tU
 rw[B,List.take_length,List.append_assoc,C]
 simp only[Int.toNat_natCast]
 exact qE h L A r b
structure Op.Fit(o:Op):Prop where
 kind:0<=o.kind/\o.kind<256
 n:I64 o.n
 name:o.name.length<65536
 en:I64 o.entry.n
 epath:o.entry.path.length<65536
 eparent:o.entry.parent.length<65536
 ettl:I64 o.entry.ttl
 esels:o.entry.sels.length<256
 esel:∀x∈o.entry.sels,x.length<65536
 jtext:o.join.text.length<65536
 jname:o.join.name.length<65536
 jexp:I64 o.join.expires
 nname:o.node.name.length<65536
 nkey:o.node.key.length<65536
 nexp:I64 o.node.expires
 nseq:I64 o.node.seq
 ndoc:o.node.doc.length<65536
 kkid:o.key.kid.length<65536
 kseed:o.key.seed.length<65536
 kstate:I64 o.key.state
 ksince:I64 o.key.since
 bdom:o.bundle.domain.length<65536
 bnum:I64 o.bundle.number
 bkeys:o.bundle.keys.length<256
 bkey:∀k∈o.bundle.keys,k.kid.length<65536/\k.x.length<65536
theorem b01_i64(b:Bool):I64 (b01 b):=by cases b<;>simp[I64,b01]
theorem late_b01(b:Bool)(s:St):late (b01 b) s=s:=by
 obtain⟨l,A⟩:=s
 cases b<;>simp[late,b01]
theorem b01_eq(b:Bool):(b01 b==1)=b:=by cases b<;>rfl
theorem read_op{o:Op}(h:o.Fit)(b:Bool):rop (enc o,b)=(o,([],b)):=by
 have A:o.kind % 256=o.kind:=by have:=h.kind;omega
 have B:enc o=enc o++[]:=by simp
 rw[B]
 unfold enc
 simp only[List.append_assoc,A]
 unfold rop
 simp only[mY (k:=1) (qr (x:=o.kind) (by omega) h.kind.1 h.kind.2),mn h.n,bN h.name,mn h.en,bN h.epath,bN h.eparent,mn h.ettl,
  tp (P:=fun x:Txt=>x.length<65536) (fun x hx r b=>bN hx r b) h.esels h.esel,bN h.jtext,bN h.jname,mn h.jexp,mn (b01_i64 _),late_b01,b01_eq,
  bN h.nname,bN h.nkey,mn h.nexp,mn h.nseq,bN h.ndoc,bN h.kkid,bN h.kseed,mn h.kstate,mn h.ksince,bN h.bdom,mn h.bnum,
  tp (P:=fun k:Jwk=>k.kid.length<65536/\k.x.length<65536) (fun x hx r b=>read_key hx.1 hx.2 r b) h.bkeys h.bkey]
end Led
end
section
open Go.RowKit Mem Led
structure Wr(w:World)(B gc:Nat)(v:Value)(l:List UInt8):Prop where
 own:w.ownsRow B 5 1 v l.length (bv l)
 blk:Blk w gc [v,.bool false,.bool false] 86
 lt:gc<B
 hB:B<=w.heap.size
def fM(B gc:Nat)(v:Value)(l:List UInt8)(w:World)(w':World):Prop :=
 ∃A,Wr w' B gc A l/\Chg (gc::v.ownBlock.toList) w w'/\(∀b,A.ownBlock=some b->v.ownBlock=some b\/w.heap.size<=b)
theorem fM.refl{w:World}{B gc:Nat}{v:Value}{l:List UInt8}(h:Wr w B gc v l):fM B gc v l w w:=⟨v,h,Chg.refl _ _,fun _ h=>.inl h⟩
theorem le_snoc:∀(k:Nat) (x:Int),le (k+1) x=le k x++[UInt8.ofNat (x / (256 ^ k:Nat) % 256).toNat]
 | 0,x=>by simp[le]
 | k+1,x=>by
  have ih:=le_snoc k (x / 256);have e:x / 256 / ((256 ^ k:Nat):Int)=x / ((256 ^ (k+1):Nat):Int):=by
   rw[Int.ediv_ediv_of_nonneg (by omega)];congr 1
   rw[Nat.pow_succ,Nat.mul_comm];omega
  rw[e] at ih;show UInt8.ofNat (x % 256).toNat::le (k+1) (x / 256)=_
  rw[ih];rfl
theorem pow_two(j:Nat):(2:Int) ^ (8*j)=((256 ^ j:Nat):Int):=by
 have:(2:Nat) ^ (8*j)=256 ^ j:=by rw[Nat.pow_mul]
 rw[<-this]
 exact(Int.natCast_pow 2 (8*j)).symm
theorem run_shr{P:Program}(x:Int)(j:Nat)(C:j<8)(w:World):(Op.shift .shr .i64 x .i64 (IntKind.i64.wrap (8*(j:Int)))).run P w=.ok (.int .i64 (x / ((256 ^ j:Nat):Int))) w:=by
 have A:IntKind.i64.wrap (8*(j:Int))=8*(j:Int):=by rw[IntKind.wrap_i64];omega
 unfold Op.shift
 rw[A,if_neg (by omega)]
 have B:min (8*(j:Int)).toNat IntKind.i64.bits=8*j:=by
  show min (8*(j:Int)).toNat 64=8*j
  omega
 simp only[B]
 rw[<-pow_two,Int.fdiv_eq_ediv_of_nonneg _ (Int.pow_nonneg (by omega))]
 rfl
theorem u8_wrap(y:Int):IntKind.u8.wrap y=((UInt8.ofNat (y % 256).toNat).toNat:Int):=by
 have A:0<=y % 256:=Int.emod_nonneg _ (by omega)
 have B:y % 256<256:=Int.emod_lt_of_pos _ (by omega)
 rw[IntKind.wrap_u8,UInt8.toNat_ofNat_of_lt' (show (y % 256).toNat<256 by omega)]
 omega
theorem Wr.more{w wr w0 F:World}{B gc:Nat}{v E:Value}{l t r:List UInt8}{A:Option Addr}{n c:Nat}{xs:List Value}(L:Wr wr B gc E t)(R:Chg (gc::v.ownBlock.toList) w wr)
  (J:∀b,E.ownBlock=some b->v.ownBlock=some b\/w.heap.size<=b) (C:F.ownsRow B 5 1 (.slice A n c) n (bv t++xs)) (M:xs=bv r)
  (h0:eF wr w0) (D:w0.grownBy F E.ownBlock) (N:(Value.slice A n c).ownBlock=E.ownBlock\/∃b,(Value.slice A n c).ownBlock=some b/\wr.heap.size<=b) (U:l=t++r) :
  F.cell? ⟨gc,0,none⟩=some E/\F.frozen? ⟨gc,0,none⟩=false/\fM B gc v l w (F.setCell ⟨gc,0,none⟩ (.slice A n c)):=by
 subst U M
 have V:n=(t++r).length:=by
  have:=C.1;simp[dV] at this
  simpa using this.symm
 have Z:=R.size
 have X:=L.hB
 have K:=L.lt
 have O:∀g,E.ownBlock=some g->B<=g:=fun g I=>(L.own.lt g I).1
 have G:Chg (E.ownBlock.toList) wr F := 
  ⟨D.os.trans h0.os,D.tape.trans h0.tape,D.output.trans h0.output,Nat.le_trans h0.size D.size,fun i hi Y=>(D.block i (Nat.lt_of_lt_of_le hi h0.size) (fun e=>Y (by rw[<-e];simp))).trans (h0.block i hi)⟩
 have H:Blk F gc [E,.bool false,.bool false] 86:=L.blk.chg G (by
  intro S;simp at S
  have:=O _ S;omega)
 have Q:=G.size
 refine⟨H.cell 0,H.froz 0,.slice A n c,⟨?_,H.set 0 _,K,by simpa [World.setCell] using Nat.le_trans X Q⟩,?_,?_⟩
 .rw [<-V,dW]
  exact ownsRow_setCell_below C K _
 .refine(R.trans G ?_).setCell (.inl (by simp)) _
  intro s T;simp at T
  rcases J s T with h|h
  .exact .inl (by simp[h])
  .exact .inr h
 .intro g I
  rcases N with h|⟨b,h,d⟩
  .exact J g (by rw[<-h];exact I)
  .rw [h] at I
   injection I with I
   exact .inr (by omega)
theorem numw_any(k:Nat)(z:k<=8)(D K:Nat)(x:Int){w:World}{B gc:Nat}{v:Value}{l:List UInt8}(h:Wr w B gc v l)(Z:w.cell? ⟨D,K,none⟩=some (.int .i64 x))
  (f:D≠gc) (g:v.ownBlock≠some D) (hl:l.length+8<=140737488355328) :
  Calls prog 65 #[.pointer (some ⟨gc,0,none⟩),.int .i64 (k:Int),.pointer (some ⟨D,K,none⟩)] w fun e w'=>e=.returned (.tuple #[])/\fM B gc v (l++le k x) w w':=by
 obtain⟨m,L,M,N,O⟩:=an infoU8
 have Q:D<w.heap.size:=World.block_lt_of_cell? w _ Z
 have c1:w.cell? ⟨gc,1,none⟩=some (.bool false):=h.blk.cell 1
 go_enter func65,ntmps65
 go_wp2
 go_loopw [6,14] (fun _ i wr=>∃j:Nat,j<=k/\i=.int .i64 j/\fM B gc v (l++le j x) w wr) (fun _ i _=>k-(intOf i).toNat)
 case atStart=>exact⟨0,by omega,rfl,by simpa [le] using fM.refl h⟩
 case round =>
  obtain⟨j,hj,rfl,R,E,S,G⟩:=hrel;have n:wr.cell? ⟨D,K,none⟩=some (.int .i64 x):=(S.cell (p:=⟨D,K,none⟩) Q (by simp[f];exact fun e=>g e)).trans Z
  have d0:wr.cell? ⟨gc,0,none⟩=some R:=E.blk.cell 0;have df:wr.frozen? ⟨gc,0,none⟩=false:=E.blk.froz 0;by_cases s:j<k
  .have d1:∀o,(wr.alloc o).cell? ⟨gc,0,none⟩=some R:=fun o=>(E.blk.alloc o).cell 0
   have C:=E.own;have T:=E.hB;have F:(l++le j x).length=l.length+j:=by rw[List.length_append,cQ]
   have U:(l++le j x).length+1<=maxLen:=by rw[F];unfold maxLen;omega
   have V:((l++le j x).length+1)*1<=140737488355328:=by rw[F];omega
   have u:∀W,(Op.shift .shr .i64 x .i64 (IntKind.i64.wrap (8*(j:Int)))).run prog W=.ok (.int .i64 (x / ((256 ^ j:Nat):Int))) W:=run_shr x j (by omega);have c:=u8_wrap (x / ((256 ^ j:Nat):Int));have H:l++le (j+1) x=(l++le j x)++[UInt8.ofNat (x / ((256 ^ j:Nat):Int) % 256).toNat]:=by rw[le_snoc,List.append_assoc]
   have I:=eA H;generalize (256 ^ j:Nat)=q at *;generalize x / (q:Int)=y at *;generalize UInt8.ofNat (y % 256).toNat=b at *;have d:=eA c;clear H c F;generalize l++le j x=t at *;go_wp2_with fail
   go_region_law (refine step_pushAt (w:=wr.drew) rfl (.tmp 21) (.tmp 29) 62 rfl B m (.int .u8 0) 1 underlying62 L M N O rfl _ _ _ rfl C.drew rfl rfl U V T ?_;intro A' c' w2 A g1 g2 J X;obtain⟨e0,ef,Y⟩:=E.more (r:=[b]) S G A (by rw[d.out];rfl) ((Below.refl _ _).drew.alloc eH _) J (X.imp id fun h=>⟨_,h,Nat.le_succ _⟩) I.out)
   all_goals
    clear J A C d I;go_wp2;go_roundw
    case rel=>exact⟨j+1,by omega,by go_num,Y⟩
    case measure=>simp[intOf];omega
  .obtain rfl:j=k:=by omega
   go_wp2;refine bodyPost_ret (results_none rfl _ _ _) rfl ?_;exact⟨rfl,R,E,S,G⟩
end
section
open Go.RowKit Mem Led
theorem Wr.drew{w:World}{B gc:Nat}{v:Value}{l:List UInt8}(h:Wr w B gc v l):Wr w.drew B gc v l:=⟨h.own.drew,h.blk.drew,h.lt,h.hB⟩
theorem Wr.alloc{w:World}{B gc:Nat}{v:Value}{l:List UInt8}(h:Wr w B gc v l)(o:Obj):Wr (w.alloc o) B gc v l:=⟨h.own.alloc o,h.blk.alloc o,h.lt,by have:=h.hB;simp;omega⟩
theorem Wr.ne{w:World}{B gc:Nat}{v:Value}{l:List UInt8}(h:Wr w B gc v l):v.ownBlock≠some w.heap.size:=fun e=>by
 have:=(h.own.lt _ e).2
 omega
theorem fM.trans{B gc:Nat}{v:Value}{l:List UInt8}{a w w':World}{F:Value}(G:Chg (gc::v.ownBlock.toList) a w)(A:∀b,F.ownBlock=some b->v.ownBlock=some b\/a.heap.size<=b)(h:fM B gc F l w w'):fM B gc v l a w':=by
 obtain⟨H,I,D,E⟩:=h
 have K:=G.size
 refine⟨H,I,G.trans D fun s C=>?_,fun b J=>?_⟩
 .simp at C
  rcases C with rfl|C
  .exact .inl (by simp)
  .rcases A s C with h|h
   .exact .inl (by simp[h])
   .exact .inr h
 .rcases E b J with h|h
  .exact A b h
  .exact .inr (by omega)
theorem and_low(n k:Nat)(B:n<=9223372036854775807)(A:k<=63):Go.bits .and .i64 (n:Int) (2 ^ k-1)=((n % 2 ^ k:Nat):Int):=by
 have h:=bits_mask .i64 63 (by decide) (fun n h0 C=>by rw[IntKind.wrap_i64];omega) k A (n:Int) (by omega) (by omega)
 rw[h]
 simp
theorem and_text(n:Nat)(A:n<=9223372036854775807):Go.bits .and .i64 (n:Int) 65535=((n % 65536:Nat):Int):=and_low n 16 A (by omega)
theorem r9(n:Nat)(A:n<=9223372036854775807):Go.bits .and .i64 (n:Int) 255=((n % 256:Nat):Int):=and_low n 8 A (by omega)
theorem lr(k:Nat)(E:Int)(C:E=k)(F:k<=8)(A D:Nat)(x:Int){w:World}{B gc:Nat}{v:Value}{l:List UInt8}(h:Wr w B gc v l)(G:w.cell? ⟨A,D,none⟩=some (.int .i64 x))
  (H:A≠gc) (I:v.ownBlock≠some A) (J:l.length+8<=140737488355328) :
  Calls prog 65 #[.pointer (some ⟨gc,0,none⟩),.int .i64 E,.pointer (some ⟨A,D,none⟩)] w fun e w'=>e=.returned (.tuple #[])/\fM B gc v (l++le k x) w w':=by
 subst C
 exact numw_any k F A D x h G H I J
theorem take_str(l:List UInt8)(k:Nat):(str l).extract 0 k=str (l.take k):=by
 apply ByteArray.ext
 simp[str]
theorem s8(E H:Nat)(x:Txt){w:World}{B gc:Nat}{v:Value}{l:List UInt8}(h:Wr w B gc v l)(k:w.cell? ⟨E,H,none⟩=some (.string (str x)))
  (o:E≠gc) (q:v.ownBlock≠some E) (hx:x.length<=9223372036854775807) (hl:l.length+65600<=140737488355328) :
  Calls prog 69 #[.pointer (some ⟨gc,0,none⟩),.pointer (some ⟨E,H,none⟩)] w fun e w'=>e=.returned (.tuple #[])/\fM B gc v (l++bp x) w w':=by
 obtain⟨s,R,S,T,U⟩:=an infoU8
 have V:E<w.heap.size:=World.block_lt_of_cell? w _ k
 have u:=h.blk.lt
 have X:(str x).size<=9223372036854775807:=by rw[aC];exact hx
 have I:=and_text (str x).size X
 obtain⟨m,Y⟩:=eC (x.length % 65536)
 have Z:m<=x.length:=by omega
 have y:m<65536:=by omega
 have J:l++bp x=(l++le 2 (m:Int))++x.take m:=by unfold bp;rw[Y,List.append_assoc]
 have K:=eA J
 rw[show (str x).size % 65536=m by rw[aC];exact Y] at I
 clear Y J
 have c:=h.alloc (.cells #[.int .i64 (m:Int)] 3)
 have L:=lr 2 2 rfl (by omega) w.heap.size 0 (m:Int) c (by simp) (by omega) h.ne (by omega)
 go_enter func69,ntmps69
 go_wp2_with fail
 refine L.mono ?_
 rintro e G ⟨rfl,n,A,D,d⟩
 have z:=D.size
 have Aa:G.cell? ⟨w.heap.size,0,none⟩=some (.int .i64 (m:Int)):=(D.cell (p:=⟨w.heap.size,0,none⟩) (by simp) (by
  have:=h.ne;simp
  exact⟨by omega,fun e=>this e⟩)).trans (by simp)
 have Ab:G.cell? ⟨E,H,none⟩=some (.string (str x)):=(D.cell (p:=⟨E,H,none⟩) (by simp;omega) (by simp[o];exact fun e=>q e)).trans ((World.cell?_alloc_lt w _ ⟨E,H,none⟩ V).trans k)
 have c0:G.cell? ⟨gc,0,none⟩=some n:=A.blk.cell 0
 have c1:G.cell? ⟨gc,1,none⟩=some (.bool false):=A.blk.cell 1
 have f:Chg (gc::v.ownBlock.toList) w G:=(Chg.of_below eI).and D
 have M:∀b,n.ownBlock=some b->v.ownBlock=some b\/w.heap.size<=b:=fun b hb=>(d b hb).imp id (fun h=>by simp at h;omega)
 have hcut:=take_str x m
 have Ac:m<=(str x).size:=by rw[aC];exact Z
 have N:(str (x.take m)).size=m:=by rw[aC,List.length_take];omega
 have F:=A.own
 have g:=A.hB
 have i:(l++le 2 (m:Int)).length+(str (x.take m)).size<=140737488355328:=by rw[N,List.length_append,cQ];omega
 generalize x.take m=r at *
 generalize l++le 2 (m:Int)=t at *
 go_wp2_with fail
 go_region_law (refine mP (w:=G.drew) rfl (.tmp 21) (.tmp 26) 62 9 rfl B s underlying62 underlying9 R S T U _ _ _ rfl F.drew (str r) rfl i g ?_;intro A' c' w3 C O j;obtain⟨e0,ef,Q⟩:=A.more (r:=r) f M C (strCells_bv r) (Below.refl _ _).drew O (j.imp id fun h=>⟨_,h,eH⟩) K.out)
 all_goals
  clear O C F K;go_wp2;refine bodyPost_ret (results_none rfl _ _ _) rfl ?_;exact⟨rfl,by rw[N] at Q;exact Q⟩
end
section
open Go.RowKit Mem Led
theorem ku{w:World}{base:Nat}{e:TypeId}{size n:Nat}{v:Value}{xs:List Value}(h:w.ownsRow base e size v n xs){p:Addr}(u:Value)(B:v.ownBlock≠some p.block):(w.setCell p u).ownsRow base e size v n xs:=by
 refine⟨h.1,?_⟩
 rcases h.2 with C|⟨g,cap,A,rfl,D,E,r⟩
 .exact .inl C
 .refine .inr ⟨g,cap,A,rfl,D,?_,r⟩
  rw[heap_setCell_other w p g u (fun e=>B (by rw[<-e];rfl))]
  exact E
def nQ(B gc A:Nat)(cs:List Value)(t:TypeId)(v:Value)(l:List UInt8)(w w':World):Prop :=
 ∃C,Wr w' B gc C l/\Blk w' A cs t/\Chg (gc::A::v.ownBlock.toList) w w'/\(∀b,C.ownBlock=some b->v.ownBlock=some b\/w.heap.size<=b)
theorem mS{cs:List Value}{k:Nat}{v:Value}(h:cs[k]?=some v):cs.set k v=cs:=by
 apply List.ext_getElem?
 intro j
 rw[List.getElem?_set]
 split
 .rename_i hj
  subst hj;rw[if_pos (List.getElem?_eq_some_iff.1 h).1];exact h.symm
 .rfl
theorem manySw_any(C E:Nat)(A:Option Addr)(n c:Nat){w:World}{B gc:Nat}{v:Value}{l:List UInt8}{cs:List Value}{t:TypeId}(h:Wr w B gc v l)(L:Blk w C cs t)(J:cs[E]?=some (.slice A n c))(X:n<256)(Y:n<=c)
  (S:C≠gc) (T:v.ownBlock≠some C) (k:l.length+65600<=140737488355328) :
  Calls prog 68 #[.pointer (some ⟨gc,0,none⟩),.pointer (some ⟨C,E,none⟩)] w fun e w'=>e=.returned (.tuple #[])/\nQ B gc C cs t v (l++le 1 (n:Int)) w w':=by
 have Z:=h.blk.lt
 have d:=L.lt
 have m:w.cell? ⟨C,E,none⟩=some (.slice A n c):=(L.cell E).trans J
 have M:=r9 n (by omega)
 rw[Nat.mod_eq_of_lt X] at M
 have O:=h.alloc (.cells #[.int .i64 (n:Int)] 3)
 have H:=lr 1 1 rfl (by omega) w.heap.size 0 (n:Int) O (by simp) (by omega) h.ne (by omega)
 go_enter func68,ntmps68
 go_wp2_with fail
 refine H.mono ?_
 rintro e K ⟨rfl,U,D,F,N⟩
 have f:=F.size
 have G:Blk K C cs t:=(L.alloc (.cells #[.int .i64 (n:Int)] 3)).chg F (by simp[S];exact fun e=>T e)
 have g:K.cell? ⟨w.heap.size,0,none⟩=some (.int .i64 (n:Int)):=(F.cell (p:=⟨w.heap.size,0,none⟩) (by simp) (by
  have:=h.ne;simp
  exact⟨by omega,fun e=>this e⟩)).trans (by simp)
 have i:K.cell? ⟨C,E,none⟩=some (.slice A n c):=(G.cell E).trans J
 have o:K.frozen? ⟨C,E,none⟩=false:=G.froz E
 have q:K.cell? ⟨gc,1,none⟩=some (.bool false):=D.blk.cell 1
 have Q:Chg (gc::v.ownBlock.toList) w K:=(Chg.of_below eI).and F
 have R:U.ownBlock≠some C:=fun e=>by
  rcases N C e with h|h
  .exact T h
  .simp at h
   omega
 have I:nQ B gc C cs t v (l++le 1 (n:Int)) w (K.drew.setCell ⟨C,E,none⟩ (.slice A n c)):=by
  refine⟨U,⟨ku D.own.drew _ R,D.blk.drew.set_ne (by simpa using Ne.symm S) _,D.lt,by simpa [World.setCell] using D.hB⟩,?_,((Q.mono (S':=gc::C::v.ownBlock.toList) (by intro s V;simp at V ⊢;rcases V with h|h<;>simp[h])).drew).setCell (.inl (by simp)) _,fun b L=>(N b L).imp id (fun h=>by simp at h;omega)⟩
  have:=G.drew.set E (.slice A n c);rw[mS J] at this;exact this
 have j:=eA I
 clear I H D G
 go_wp2_with fail
 go_region
 all_goals
  go_wp2;go_end0
  exact⟨rfl,j.out⟩
theorem qY(C E:Nat)(A:Option Addr)(n c:Nat){w:World}{B gc:Nat}{v:Value}{l:List UInt8}{cs:List Value}{t:TypeId}(h:Wr w B gc v l)(L:Blk w C cs t)(J:cs[E]?=some (.slice A n c))(X:n<256)(Y:n<=c)
  (S:C≠gc) (T:v.ownBlock≠some C) (k:l.length+65600<=140737488355328) :
  Calls prog 70 #[.pointer (some ⟨gc,0,none⟩),.pointer (some ⟨C,E,none⟩)] w fun e w'=>e=.returned (.tuple #[])/\nQ B gc C cs t v (l++le 1 (n:Int)) w w':=by
 have Z:=h.blk.lt
 have d:=L.lt
 have m:w.cell? ⟨C,E,none⟩=some (.slice A n c):=(L.cell E).trans J
 have M:=r9 n (by omega)
 rw[Nat.mod_eq_of_lt X] at M
 have O:=h.alloc (.cells #[.int .i64 (n:Int)] 3)
 have H:=lr 1 1 rfl (by omega) w.heap.size 0 (n:Int) O (by simp) (by omega) h.ne (by omega)
 go_enter func70,ntmps70
 go_wp2_with fail
 refine H.mono ?_
 rintro e K ⟨rfl,U,D,F,N⟩
 have f:=F.size
 have G:Blk K C cs t:=(L.alloc (.cells #[.int .i64 (n:Int)] 3)).chg F (by simp[S];exact fun e=>T e)
 have g:K.cell? ⟨w.heap.size,0,none⟩=some (.int .i64 (n:Int)):=(F.cell (p:=⟨w.heap.size,0,none⟩) (by simp) (by
  have:=h.ne;simp
  exact⟨by omega,fun e=>this e⟩)).trans (by simp)
 have i:K.cell? ⟨C,E,none⟩=some (.slice A n c):=(G.cell E).trans J
 have o:K.frozen? ⟨C,E,none⟩=false:=G.froz E
 have q:K.cell? ⟨gc,1,none⟩=some (.bool false):=D.blk.cell 1
 have Q:Chg (gc::v.ownBlock.toList) w K:=(Chg.of_below eI).and F
 have R:U.ownBlock≠some C:=fun e=>by
  rcases N C e with h|h
  .exact T h
  .simp at h
   omega
 have I:nQ B gc C cs t v (l++le 1 (n:Int)) w (K.drew.setCell ⟨C,E,none⟩ (.slice A n c)):=by
  refine⟨U,⟨ku D.own.drew _ R,D.blk.drew.set_ne (by simpa using Ne.symm S) _,D.lt,by simpa [World.setCell] using D.hB⟩,?_,((Q.mono (S':=gc::C::v.ownBlock.toList) (by intro s V;simp at V ⊢;rcases V with h|h<;>simp[h])).drew).setCell (.inl (by simp)) _,fun b L=>(N b L).imp id (fun h=>by simp at h;omega)⟩
  have:=G.drew.set E (.slice A n c);rw[mS J] at this;exact this
 have j:=eA I
 clear I H D G
 go_wp2_with fail
 go_region
 all_goals
  go_wp2;go_end0
  exact⟨rfl,j.out⟩
end
section
open Go.RowKit Mem Led
def sz(A:List (Nat × Nat)):List Value:=A.map fun p=>.pointer (some ⟨p.1,p.2,none⟩)
theorem ptrs_at{A:List (Nat × Nat)}{j:Nat}(h:j<A.length):(sz A)[j]?=some (.pointer (some ⟨A[j].1,A[j].2,none⟩)):=by simp[sz,h]
theorem uM(A:List (Nat × Nat))(xs:List Int)(D n:Nat){w:World}{B gc:Nat}{v:Value}{l:List UInt8}(h:Wr w B gc v l)(N:Blk w D (sz A) 100)(c:A.length=n)(T:xs.length=n)(U:n<=3)
  (V:∀j,(hj:j<A.length)->(hj':j<xs.length)->w.cell? ⟨A[j].1,A[j].2,none⟩=some (.int .i64 xs[j])/\A[j].1≠gc/\v.ownBlock≠some A[j].1)
  (X:D≠gc) (Y:v.ownBlock≠some D) (d:l.length+65600<=140737488355328) :
  Calls prog 66 #[.pointer (some ⟨gc,0,none⟩),.slice (some ⟨D,0,none⟩) n n] w fun e w'=>e=.returned (.tuple #[])/\fM B gc v (l++(xs.map (le 8)).flatten) w w':=by
 go_enter func66,ntmps66
 go_wp2
 go_loopw [5,8] (fun _ i wr=>∃j:Nat,j<=n/\i=.int .i64 j/\fM B gc v (l++((xs.take j).map (le 8)).flatten) w wr) (fun _ i _=>n-(intOf i).toNat)
 case atStart=>exact⟨0,by omega,rfl,by simpa using fM.refl h⟩
 case round =>
  obtain⟨j,hj,rfl,Z,I,H,C⟩:=hrel;by_cases b:j<n
  .obtain⟨O,Q,R⟩:=V j (by omega) (by omega)
   have J:j<A.length:=by omega
   have K:j<xs.length:=by omega
   have f:wr.cell? ⟨D,j,none⟩=some (.pointer (some ⟨A[j].1,A[j].2,none⟩)):=(H.cell (p:=⟨D,j,none⟩) N.lt (by simp[X];exact fun e=>Y e)).trans ((N.cell j).trans (ptrs_at J))
   have E:∀j,j<=n->(((xs.take j).map (le 8)).flatten).length=j*8:=fun j hj=>by
    rw[List.length_flatten,List.map_map];have:(List.map (List.length ∘ le 8) (xs.take j))=List.replicate j 8:=by
     apply List.ext_getElem
     .simp;omega
     .intro i g k
      simp[cQ]
    rw[this];simp
   have S:=World.block_lt_of_cell? w _ O;have F:=lr 8 8 rfl (by omega) A[j].1 A[j].2 xs[j] I ((H.cell (p:=⟨A[j].1,A[j].2,none⟩) S (by simp[Q];exact fun e=>R e)).trans O) Q (fun e=>by
    rcases C _ e with h|h
    .exact R h
    .simp only [] at S
     omega) (by rw[List.length_append,E j hj];omega)
   have L:l++((xs.take (j+1)).map (le 8)).flatten=(l++((xs.take j).map (le 8)).flatten)++le 8 xs[j]:=by
    rw[<-List.take_append_getElem K,List.map_append,List.flatten_append,List.append_assoc];simp only[List.map_cons,List.map_nil,List.flatten_cons,List.flatten_nil,List.append_nil]
   generalize A[j].1=m at *;generalize A[j].2=o at *;go_wp2_with fail
   refine F.mono ?_;rintro e q ⟨rfl,M⟩;have G:=fM.trans H C M;rw[<-L] at G;go_wp2;go_roundw
   case rel=>exact⟨j+1,by omega,by go_num,G⟩
   case measure=>simp[intOf];omega
  .obtain rfl:j=n:=by omega
   rw[List.take_of_length_le (by omega)] at I;go_wp2;go_end0
   exact⟨rfl,Z,I,H,C⟩
theorem oI(x:Txt):(bp x).length<=65600:=by
 unfold bp
 rw[List.length_append,cQ,List.length_take]
 omega
theorem lA:∀(xs:List Txt) (j:Nat),(((xs.take j).map bp).flatten).length<=j*65600
 | [],j=>by simp
 | _,0=>by simp
 | x::xs,j+1=>by
  have ih:=lA xs j;have h:=oI x;simp only[List.take_succ_cons,List.map_cons,List.flatten_cons,List.length_append];omega
theorem qk(A:List (Nat × Nat))(xs:List Txt)(D n:Nat){w:World}{B gc:Nat}{v:Value}{l:List UInt8}(h:Wr w B gc v l)(M:Blk w D (sz A) 103)(c:A.length=n)(T:xs.length=n)(U:n<=3)
  (V:∀j,(hj:j<A.length)->(hj':j<xs.length)->w.cell? ⟨A[j].1,A[j].2,none⟩=some (.string (str xs[j]))/\A[j].1≠gc/\v.ownBlock≠some A[j].1)
  (X:D≠gc) (Y:v.ownBlock≠some D) (hx:∀x∈xs,x.length<=9223372036854775807) (d:l.length+300000<=140737488355328) :
  Calls prog 67 #[.pointer (some ⟨gc,0,none⟩),.slice (some ⟨D,0,none⟩) n n] w fun e w'=>e=.returned (.tuple #[])/\fM B gc v (l++(xs.map bp).flatten) w w':=by
 go_enter func67,ntmps67
 go_wp2
 go_loopw [5,8] (fun _ i wr=>∃j:Nat,j<=n/\i=.int .i64 j/\fM B gc v (l++((xs.take j).map bp).flatten) w wr) (fun _ i _=>n-(intOf i).toNat)
 case atStart=>exact⟨0,by omega,rfl,by simpa using fM.refl h⟩
 case round =>
  obtain⟨j,hj,rfl,Z,I,H,C⟩:=hrel;by_cases b:j<n
  .obtain⟨N,O,Q⟩:=V j (by omega) (by omega)
   have J:j<A.length:=by omega
   have E:j<xs.length:=by omega
   have f:wr.cell? ⟨D,j,none⟩=some (.pointer (some ⟨A[j].1,A[j].2,none⟩)):=(H.cell (p:=⟨D,j,none⟩) M.lt (by simp[X];exact fun e=>Y e)).trans ((M.cell j).trans (ptrs_at J))
   have R:(((xs.take j).map bp).flatten).length<=j*65600:=lA xs j;have S:=World.block_lt_of_cell? w _ N;have F:=s8 A[j].1 A[j].2 xs[j] I ((H.cell (p:=⟨A[j].1,A[j].2,none⟩) S (by simp[O];exact fun e=>Q e)).trans N) O (fun e=>by
    rcases C _ e with h|h
    .exact Q h
    .simp only [] at S
     omega) (hx _ (List.getElem_mem E)) (by rw[List.length_append];omega)
   have K:l++((xs.take (j+1)).map bp).flatten=(l++((xs.take j).map bp).flatten)++bp xs[j]:=by
    rw[<-List.take_append_getElem E,List.map_append,List.flatten_append,List.append_assoc];simp only[List.map_cons,List.map_nil,List.flatten_cons,List.flatten_nil,List.append_nil]
   generalize A[j].1=g at *;generalize A[j].2=k at *;go_wp2_with fail
   refine F.mono ?_;rintro e m ⟨rfl,L⟩;have G:=fM.trans H C L;rw[<-K] at G;go_wp2;go_roundw
   case rel=>exact⟨j+1,by omega,by go_num,G⟩
   case measure=>simp[intOf];omega
  .obtain rfl:j=n:=by omega
   rw[List.take_of_length_le (by omega)] at I;go_wp2;go_end0
   exact⟨rfl,Z,I,H,C⟩
end
section
open Go.RowKit Mem Led
def WSt(gc:Nat)(S:List Nat)(K:List (Nat × List Value × TypeId))(w0 w:World)(l:Txt):Prop :=
 ∃v,Wr w w0.heap.size gc v l/\(∀p∈K,Blk w p.1 p.2.1 p.2.2/\v.ownBlock≠some p.1/\p.1≠gc)/\Chg S w0 w
section
variable {gc:Nat}{S:List Nat}{K:List (Nat × List Value × TypeId)}{w0 w w':World}{l l':Txt}
theorem WSt.drew(h:WSt gc S K w0 w l):WSt gc S K w0 w.drew l:=by
 obtain⟨v,A,B,C⟩:=h
 exact⟨v,A.drew,B,C.drew⟩
theorem WSt.alloc(h:WSt gc S K w0 w l)(cs:List Value)(t:TypeId):WSt gc S ((w.heap.size,cs,t)::K) w0 (w.alloc (.cells cs.toArray t)) l:=by
 obtain⟨v,B,C,D⟩:=h
 refine⟨v,B.alloc _,fun p A=>?_,D.alloc _⟩
 simp only[List.mem_cons] at A
 rcases A with rfl|A
 .exact⟨Blk.new w cs t,B.ne,fun e=>by have:=B.blk.lt;simp only[] at e;omega⟩
 .exact⟨(C p A).1.alloc _,(C p A).2⟩
theorem WSt.less{K':List (Nat × List Value × TypeId)}(h:WSt gc S K w0 w l)(A:∀p∈K',p∈K):WSt gc S K' w0 w l:=by
 obtain⟨v,B,C,D⟩:=h
 exact⟨v,B,fun p E=>C p (A p E),D⟩
theorem WSt.wrote{v:Value}(D:Wr w w0.heap.size gc v l)(E:∀p∈K,Blk w p.1 p.2.1 p.2.2/\v.ownBlock≠some p.1/\p.1≠gc)(F:Chg S w0 w)(G:gc∈S)(h:fM w0.heap.size gc v l' w w'):WSt gc S K w0 w' l':=by
 obtain⟨H,I,B,J⟩:=h
 refine⟨H,I,fun p L=>?_,F.trans B fun s A=>?_⟩
 .obtain⟨C,b2,b3⟩:=E p L
  refine⟨C.chg B (by simp[b3];exact fun e=>b2 e),fun e=>?_,b3⟩
  rcases J _ e with h|h
  .exact b2 h
  .have:=C.lt
   omega
 .simp at A
  rcases A with rfl|A
  .exact .inl G
  .exact .inr (D.own.lt s A).1
theorem WSt.store{g:Nat}{cs:List Value}{t:TypeId}(h:WSt gc S ((g,cs,t)::K) w0 w l)(D:g∈S\/w0.heap.size<=g)(k:Nat)(u:Value)(E:∀p∈K,p.1≠g):WSt gc S ((g,cs.set k u,t)::K) w0 (w.setCell ⟨g,k,none⟩ u) l:=by
 obtain⟨v,B,C,F⟩:=h
 obtain⟨G,b2,b3⟩:=C _ List.mem_cons_self
 refine⟨v,⟨ku B.own _ b2,B.blk.set_ne (Ne.symm b3) _,B.lt,by simpa [World.setCell] using B.hB⟩,fun p A=>?_,F.setCell D _⟩
 simp only[List.mem_cons] at A
 rcases A with rfl|A
 .exact⟨G.set k u,b2,b3⟩
 .obtain⟨H,I,J⟩:=C p (List.mem_cons_of_mem _ A)
  exact⟨H.set_ne (E p A) _,I,J⟩
theorem WSt.blk(h:WSt gc S K w0 w l){g:Nat}{cs:List Value}{t:TypeId}(A:(g,cs,t)∈K):Blk w g cs t:=by
 obtain⟨v,C,B,D⟩:=h
 exact(B _ A).1
theorem WSt.cd(h:WSt gc S K w0 w l):∃v,Blk w gc [v,.bool false,.bool false] 86:=by
 obtain⟨v,A,B,C⟩:=h
 exact⟨v,A.blk⟩
theorem WSt.short(h:WSt gc S K w0 w l)(C:gc∈S):WSt gc S K w0 (w.setCell ⟨gc,2,none⟩ (.bool false)) l:=by
 obtain⟨v,A,D,E⟩:=h
 refine⟨v,⟨ku A.own _ (fun e=>?_),A.blk.set 2 _,A.lt,by simpa [World.setCell] using A.hB⟩,fun p F=>?_,E.setCell (.inl C) _⟩
 .have G:=(A.own.lt _ e).1
  have J:=A.lt;simp only[] at G;omega
 .obtain⟨H,I,B⟩:=D p F
  exact⟨H.set_ne B _,I,B⟩
def At(K:List (Nat × List Value × TypeId))(p:Nat × Nat)(v:Value):Prop:=∃cs t,(p.1,cs,t)∈K/\cs[p.2]?=some v
theorem num_step(k:Nat)(A:Int)(B:A=k)(E:k<=8)(g j:Nat)(x:Int)(h:WSt gc S K w0 w l)(F:gc∈S)(G:At K (g,j) (.int .i64 x))(H:l.length+8<=140737488355328) :
  Calls prog 65 #[.pointer (some ⟨gc,0,none⟩),.int .i64 A,.pointer (some ⟨g,j,none⟩)] w fun e w'=>e=.returned (.tuple #[])/\WSt gc S K w0 w' (l++le k x):=by
 obtain⟨v,C,D,I⟩:=h
 obtain⟨cs,t,J,L⟩:=G
 obtain⟨M,b2,b3⟩:=D _ J
 exact(lr k A B E g j x C ((M.cell j).trans L) b3 b2 H).mono fun e w' ⟨N,hw⟩=>⟨N,WSt.wrote C D I F hw⟩
theorem text_old(g j:Nat)(x:Txt)(h:WSt gc S K w0 w l)(C:gc∈S)(D:w0.cell? ⟨g,j,none⟩=some (.string (str x)))(E:g∉S)(hx:x.length<=9223372036854775807)(G:l.length+65600<=140737488355328) :
  Calls prog 69 #[.pointer (some ⟨gc,0,none⟩),.pointer (some ⟨g,j,none⟩)] w fun e w'=>e=.returned (.tuple #[])/\WSt gc S K w0 w' (l++bp x):=by
 obtain⟨v,B,H,F⟩:=h
 have A:=World.block_lt_of_cell? w0 _ D
 simp only[] at A
 exact(s8 g j x B ((F.cell (p:=⟨g,j,none⟩) A E).trans D) (fun e=>E (by rw[e];exact C)) (fun e=>by have:=(B.own.lt _ e).1;omega) hx G).mono fun e w' ⟨I,hw⟩=>⟨I,WSt.wrote B H F C hw⟩
theorem bA(A:List (Nat × Nat))(xs:List Int)(n:Nat)(h:WSt gc S K w0 w l)(H:gc∈S)(I:A.length=n)(B:xs.length=n)(C:n<=3)
  (D:∀j,(hj:j<A.length)->(hj':j<xs.length)->At K A[j] (.int .i64 xs[j])) (J:l.length+65600<=140737488355328) :
  Calls prog 66 #[.pointer (some ⟨gc,0,none⟩),.slice (some ⟨w.heap.size,0,none⟩) n n] (w.alloc (.cells (sz A).toArray 100)) fun e w'=>e=.returned (.tuple #[])/\WSt gc S K w0 w' (l++(xs.map (le 8)).flatten):=by
 obtain⟨v,G,E,L⟩:=h.alloc (sz A) 100
 have F:=E _ List.mem_cons_self
 refine(uM A xs w.heap.size n G F.1 I B C (fun j hj hj'=>?_) F.2.2 F.2.1 J).mono fun e w' ⟨M,hw⟩=>⟨M,WSt.wrote G (fun p D=>E p (List.mem_cons_of_mem _ D)) L H hw⟩
 obtain⟨cs,t,N,O⟩:=D j hj hj'
 obtain⟨Q,b2,b3⟩:=E _ (List.mem_cons_of_mem _ N)
 exact⟨(Q.cell _).trans O,b3,b2⟩
theorem de(A:List (Nat × Nat))(xs:List Txt)(n:Nat)(h:WSt gc S K w0 w l)(H:gc∈S)(I:A.length=n)(B:xs.length=n)(C:n<=3)
  (D:∀j,(hj:j<A.length)->(hj':j<xs.length)->At K A[j] (.string (str xs[j]))) (hx:∀x∈xs,x.length<=9223372036854775807) (J:l.length+300000<=140737488355328) :
  Calls prog 67 #[.pointer (some ⟨gc,0,none⟩),.slice (some ⟨w.heap.size,0,none⟩) n n] (w.alloc (.cells (sz A).toArray 103)) fun e w'=>e=.returned (.tuple #[])/\WSt gc S K w0 w' (l++(xs.map bp).flatten):=by
 obtain⟨v,G,E,L⟩:=h.alloc (sz A) 103
 have F:=E _ List.mem_cons_self
 refine(qk A xs w.heap.size n G F.1 I B C (fun j hj hj'=>?_) F.2.2 F.2.1 hx J).mono fun e w' ⟨M,hw⟩=>⟨M,WSt.wrote G (fun p D=>E p (List.mem_cons_of_mem _ D)) L H hw⟩
 obtain⟨cs,t,N,O⟩:=D j hj hj'
 obtain⟨Q,b2,b3⟩:=E _ (List.mem_cons_of_mem _ N)
 exact⟨(Q.cell _).trans O,b3,b2⟩
theorem s9(g j:Nat)(x y:Txt)(h:WSt gc S K w0 w l)(G:gc∈S)(B:w0.cell? ⟨g,j,none⟩=some (.string (str x)))(J:w0.cell? ⟨g,j+1,none⟩=some (.string (str y)))(C:g∉S)(hx:x.length<=9223372036854775807)(L:y.length<=9223372036854775807)(M:l.length+300000<=140737488355328) :
  Calls prog 67 #[.pointer (some ⟨gc,0,none⟩),.slice (some ⟨w.heap.size,0,none⟩) 2 2] (w.alloc (.cells (sz [(g,j),(g,j+1)]).toArray 103)) fun e w'=>e=.returned (.tuple #[])/\WSt gc S K w0 w' (l++(bp x++bp y)):=by
 obtain⟨v,D,H,E⟩:=h.alloc (sz [(g,j),(g,j+1)]) 103
 have F:=H _ List.mem_cons_self
 have A:=World.block_lt_of_cell? w0 _ B
 simp only[] at A
 have g1:g≠gc:=fun e=>C (by rw[e];exact G)
 have I:v.ownBlock≠some g:=fun e=>by have:=(D.own.lt _ e).1;omega
 have N:=(E.cell (p:=⟨g,j,none⟩) A C).trans B
 have e2:=(E.cell (p:=⟨g,j+1,none⟩) A C).trans J
 refine(qk [(g,j),(g,j+1)] [x,y] w.heap.size 2 D F.1 rfl rfl (by omega) (fun i hi O=>?_) F.2.2 F.2.1 (by simp[hx,L]) M).mono fun e w' ⟨Q,hw⟩=>⟨Q,?_⟩
 .match i,hi with
  | 0,_=>exact⟨N,g1,I⟩
  | 1,_=>exact⟨e2,g1,I⟩
 .have:=WSt.wrote D (fun p B=>H p (List.mem_cons_of_mem _ B)) E G hw
  simpa using this
theorem oA(g j n:Nat){cs:List Value}{t:TypeId}{F:FuncId}(h:WSt gc S K w0 w l)(L:g∈S)(M:(g,cs,t)∈K)
  (N:∀{v:Value},Wr w w0.heap.size gc v l->Blk w g cs t->g≠gc->v.ownBlock≠some g->Calls prog F #[.pointer (some ⟨gc,0,none⟩),.pointer (some ⟨g,j,none⟩)] w fun e w'=>e=.returned (.tuple #[])/\nQ w0.heap.size gc g cs t v (l++le 1 (n:Int)) w w') (O:gc∈S) :
  Calls prog F #[.pointer (some ⟨gc,0,none⟩),.pointer (some ⟨g,j,none⟩)] w fun e w'=>e=.returned (.tuple #[])/\WSt gc S K w0 w' (l++le 1 (n:Int)):=by
 obtain⟨v,E,G,Q⟩:=h
 obtain⟨D,b2,b3⟩:=G _ M
 refine(N E D b3 b2).mono fun e w' ⟨R,hw⟩=>⟨R,?_⟩
 obtain⟨T,U,V,H,X⟩:=hw
 refine⟨T,U,fun p Y=>?_,Q.trans H fun s C=>?_⟩
 .obtain⟨A,I,J⟩:=G p Y
  refine⟨?_,fun e=>?_,J⟩
  .by_cases B:p.1=g
   .rw [B] at A ⊢
    unfold Blk at A D;rw[D] at A;injection A with e2
    injection e2 with e3 e4 e5
    rw[<-e4,<-List.toArray_inj e3];exact V
   .exact A.chg H (by simp[J,B];exact fun e=>I e)
  .rcases X _ e with h|h
   .exact I h
   .have:=A.lt
    omega
 .simp at C
  rcases C with rfl|rfl|C
  .exact .inl O
  .exact .inl L
  .exact .inr (E.own.lt s C).1
end
theorem Vs.lit{w:World}{B size n:Nat}{A:Option Addr}{xs:List Value}(h:Vs w B size A n xs)(h0:0<xs.length):∃b C,A=some ⟨b,C,none⟩/\b<B/\∀j u,xs[j]?=some u->w.cell? ⟨b,C+j,none⟩=some u:=by
 obtain⟨E,e,F,G⟩:=Vs.rd h 0 _ (List.getElem?_eq_getElem h0)
 have D:=World.cell?_spot G
 obtain⟨b,o,s⟩:=E
 simp[Addr.add] at D
 subst D
 refine⟨b,o,e,F,fun j u H=>?_⟩
 obtain⟨I,e2,_,c⟩:=Vs.rd h j u H
 rw[e] at e2
 injection e2 with e2
 subst e2
 have:(⟨b,o,none⟩:Addr).add j=⟨b,o+j,none⟩:=by
  unfold Addr.add;split<;>simp_all
 rw[this] at c
 exact c
end
section
open Go.RowKit Mem Led
def tx(t:Txt):Value:=.string (str t)
def nm(x:Int):Value:=.int .i64 x
def ac(o:Led.Op)(sv kv:Value):List Value :=
 [nm o.kind,nm o.n,tx o.name,nm o.entry.n,tx o.entry.path,tx o.entry.parent,nm o.entry.ttl,sv,tx o.join.text,tx o.join.name,nm o.join.expires,.bool o.join.used,
  tx o.node.name,tx o.node.key,nm o.node.expires,nm o.node.seq,tx o.node.doc,tx o.key.kid,tx o.key.seed,nm o.key.state,nm o.key.since,tx o.bundle.domain,nm o.bundle.number,kv]
def jv(L:List Jwk):List Value:=(L.map fun k=>[tx k.kid,tx k.x]).flatten
structure Led.Op.Ok(o:Led.Op):Prop where
 name:o.name.length<=9223372036854775807
 epath:o.entry.path.length<=9223372036854775807
 eparent:o.entry.parent.length<=9223372036854775807
 esels:o.entry.sels.length<256
 esel:∀x∈o.entry.sels,x.length<=9223372036854775807
 jtext:o.join.text.length<=9223372036854775807
 jname:o.join.name.length<=9223372036854775807
 nname:o.node.name.length<=9223372036854775807
 nkey:o.node.key.length<=9223372036854775807
 ndoc:o.node.doc.length<=9223372036854775807
 kkid:o.key.kid.length<=9223372036854775807
 kseed:o.key.seed.length<=9223372036854775807
 bdom:o.bundle.domain.length<=9223372036854775807
 bkeys:o.bundle.keys.length<256
 bkey:∀k∈o.bundle.keys,k.kid.length<=9223372036854775807/\k.x.length<=9223372036854775807
theorem jO:∀L:List Jwk,(jv L).length=L.length*2
 | []=>rfl
 | k::L=>by
  have ih:=jO L;unfold jv at ih ⊢;simp only[List.map_cons,List.flatten_cons,List.length_append,List.length_cons,List.length_nil];omega
theorem vb:∀{L:List Jwk} {m:Nat} (h:m<L.length),(jv L)[m*2]?=some (tx L[m].kid)
 | k::L,0,_=>rfl
 | k::L,m+1,h=>by
  have ih:=vb (L:=L) (m:=m) (by simpa using h);rw[show (m+1)*2=m*2+2 by omega];exact ih
theorem va:∀{L:List Jwk} {m:Nat} (h:m<L.length),(jv L)[m*2+1]?=some (tx L[m].x)
 | k::L,0,_=>rfl
 | k::L,m+1,h=>by
  have ih:=va (L:=L) (m:=m) (by simpa using h);rw[show (m+1)*2+1=m*2+1+2 by omega];exact ih
theorem rH:∀(xs:List Jwk) (j:Nat),(((xs.take j).map nH).flatten).length<=j*131200
 | [],j=>by simp
 | _,0=>by simp
 | x::xs,j+1=>by
  have ih:=rH xs j;have h:=oI x.kid;have A:=oI x.x;have B:(nH x).length=(bp x.kid).length+(bp x.x).length:=by unfold nH;rw[List.length_append]
  simp only[List.take_succ_cons,List.map_cons,List.flatten_cons,List.length_append];omega
theorem le1_mod(x:Int):le 1 (x % 256)=le 1 x:=by simp[le]
theorem aW(l x:Txt)(C:Nat)(h:x.length<=C):∃l',Hid (l++x=l')/\l'.length<=l.length+C:=⟨_,eA rfl,by rw[List.length_append];omega⟩
theorem dJ:∀(xs:List Int),((xs.map (le 8)).flatten).length<=xs.length*8
 | []=>by simp
 | x::xs=>by
  have ih:=dJ xs;simp only[List.map_cons,List.flatten_cons,List.length_append,cQ,List.length_cons];omega
theorem dO(xs:List Txt):((xs.map bp).flatten).length<=xs.length*65600:=by
 have h:=lA xs xs.length
 rw[List.take_length] at h
 exact h
theorem opw_any(o:Led.Op)(K:o.Ok)(Q:Option Addr)(Z R:Nat)(L:Option Addr)(E M:Nat)(B gc go:Nat)(T:TypeId){w:World}(Bh:go<w.heap.size)
  (h:WSt gc [gc,go] [(go,ac o (.slice Q Z R) (.slice L E M),T)] w w []) (hs:Vs w B 1 Q Z (o.entry.sels.map tx)) (hk:Vs w B 2 L E (jv o.bundle.keys)) (Bi:B<=gc) (Bj:B<=go) (AP:Z<=R) (AJ:E<=M) :
  Calls prog 35 #[.pointer (some ⟨gc,0,none⟩),.pointer (some ⟨go,0,none⟩)] w fun e w'=>e=.returned (.tuple #[])/\∃v,Wr w' w.heap.size gc v (enc o)/\Chg [gc,go] w w':=by
 have AK:o.entry.sels.length=Z:=by
  have:=hs.len;simpa using this
 have AL:o.bundle.keys.length=E:=by
  have:=hk.len;rw[jO] at this;omega
 have A7:Z<256:=by have:=K.esels;omega
 have A6:E<256:=by have:=K.bkeys;omega
 have q1:=num_step 1 1 rfl (by omega) go 0 o.kind h (by simp) ⟨_,_,List.mem_cons_self,rfl⟩ (by simp)
 go_enter func35,ntmps35
 go_wp2_with fail
 refine q1.mono ?_
 rintro e w1 ⟨rfl,h1⟩
 obtain⟨l1,e1,b1⟩:=aW [] (le 1 o.kind) 8 (by rw[cQ];omega)
 rw[e1.out] at h1
 rw[List.length_nil] at b1
 clear q1 h
 have q2:=bA [(go,1)] [o.n] 1 h1 (by simp) rfl rfl (by omega) (fun j C D=>match j,C with|0,_=>⟨_,_,List.mem_cons_self,rfl⟩) (by omega)
 go_wp2_with fail
 refine q2.mono ?_
 rintro e w2 ⟨rfl,h2⟩
 obtain⟨l2,e2,b2⟩:=aW l1 _ 8 (Nat.le_trans (dJ [o.n]) (by simp))
 rw[e2.out] at h2
 clear q2 h1
 have q3:=de [(go,2)] [o.name] 1 h2 (by simp) rfl rfl (by omega) (fun j C D=>match j,C with|0,_=>⟨_,_,List.mem_cons_self,rfl⟩) (by simpa using K.name) (by omega)
 go_wp2_with fail
 refine q3.mono ?_
 rintro e w3 ⟨rfl,h3⟩
 obtain⟨l3,e3,b3⟩:=aW l2 _ 65600 (Nat.le_trans (dO [o.name]) (by simp))
 rw[e3.out] at h3
 clear q3 h2
 have q4:=bA [(go,3)] [o.entry.n] 1 h3 (by simp) rfl rfl (by omega) (fun j C D=>match j,C with|0,_=>⟨_,_,List.mem_cons_self,rfl⟩) (by omega)
 go_wp2_with fail
 refine q4.mono ?_
 rintro e w4 ⟨rfl,h4⟩
 obtain⟨l4,e4,b4⟩:=aW l3 _ 8 (Nat.le_trans (dJ [o.entry.n]) (by simp))
 rw[e4.out] at h4
 clear q4 h3
 have q5:=de [(go,4),(go,5)] [o.entry.path,o.entry.parent] 2 h4.drew (by simp) rfl rfl (by omega) (fun j C D=>match j,C with|0,_=>⟨_,_,List.mem_cons_self,rfl⟩|1,_=>⟨_,_,List.mem_cons_self,rfl⟩) (by simpa using ⟨K.epath,K.eparent⟩) (by omega)
 go_wp2_with fail
 go_region_with (go_at_call 67;refine q5.mono ?_;rintro e w5 ⟨rfl,h5⟩)
 obtain⟨l5,e5,b5⟩:=aW l4 _ 131200 (Nat.le_trans (dO [o.entry.path,o.entry.parent]) (by simp))
 rw[e5.out] at h5
 clear q5 h4
 have q6:=bA [(go,6)] [o.entry.ttl] 1 h5 (by simp) rfl rfl (by omega) (fun j C D=>match j,C with|0,_=>⟨_,_,List.mem_cons_self,rfl⟩) (by omega)
 go_wp2_with fail
 refine q6.mono ?_
 rintro e w6 ⟨rfl,h6⟩
 obtain⟨l6,e6,b6⟩:=aW l5 _ 8 (Nat.le_trans (dJ [o.entry.ttl]) (by simp))
 rw[e6.out] at h6
 clear q6 h5
 have d7:w6.cell? ⟨go,7,none⟩=some (.slice Q Z R):=(h6.blk (g:=go) List.mem_cons_self).cell 7
 have q7:=oA go 7 Z (F:=68) h6 (by simp) List.mem_cons_self (fun a b c d=>manySw_any go 7 Q Z R a b rfl A7 AP c d (by omega)) (by simp)
 go_wp2_with fail
 refine q7.mono ?_
 rintro e w7 ⟨rfl,h7⟩
 obtain⟨l7,e7,b7⟩:=aW l6 (le 1 (Z:Int)) 8 (by rw[cQ];omega)
 rw[e7.out] at h7
 clear q7 d7 h6
 have d7:w7.cell? ⟨go,7,none⟩=some (.slice Q Z R):=(h7.blk (g:=go) List.mem_cons_self).cell 7
 go_wp2
 go_loopw [4,61] (fun _ i wr=>∃j:Nat,j<=Z/\i=.int .i64 j/\WSt gc [gc,go] [(go,ac o (.slice Q Z R) (.slice L E M),T)] w wr (l7++((o.entry.sels.take j).map bp).flatten)) (fun _ i _=>Z-(intOf i).toNat)
 case atStart=>exact⟨0,by omega,rfl,by simpa using h7⟩
 case round =>
  obtain⟨j,C,rfl,H⟩:=hrel;have dr:wr.cell? ⟨go,7,none⟩=some (.slice Q Z R):=(H.blk (g:=go) List.mem_cons_self).cell 7;by_cases AM:j<Z
  .have I:j<o.entry.sels.length:=by omega
   obtain⟨b,Ab,rfl,AN,A⟩:=Vs.lit hs (by simp;omega)
   have S:=A j (tx o.entry.sels[j]) (by simp[I]);have U:=lA o.entry.sels j;have q:=text_old b (Ab+j) o.entry.sels[j] H (by simp) S (by simp;omega) (K.esel _ (List.getElem_mem I)) (by rw[List.length_append];omega)
   have V:l7++((o.entry.sels.take (j+1)).map bp).flatten=(l7++((o.entry.sels.take j).map bp).flatten)++bp o.entry.sels[j]:=by
    rw[<-List.take_append_getElem I,List.map_append,List.flatten_append,List.append_assoc];simp only[List.map_cons,List.map_nil,List.flatten_cons,List.flatten_nil,List.append_nil]
   rw[<-V] at q;clear V U S A H;go_wp2_with fail
   refine q.mono ?_;rintro e w2 ⟨rfl,Ac⟩;go_wp2;go_roundw
   case rel=>exact⟨j+1,by omega,by go_num,Ac⟩
   case measure=>simp[intOf];omega
  .obtain rfl:j=Z:=by omega
   rw[List.take_of_length_le (by omega)] at H;have U:=lA o.entry.sels o.entry.sels.length;rw[List.take_length] at U;obtain⟨l8,e8,b8⟩:=aW l7 ((o.entry.sels.map bp).flatten) 16728000 (by omega);rw[e8.out] at H;clear U;have Aa:∀ob,(wr.alloc ob).cell? ⟨go,11,none⟩=some (.bool o.join.used):=fun ob=>((H.blk (g:=go) List.mem_cons_self).alloc ob).cell 11;have AO:¬go=gc:=by
    obtain⟨v,_,hh,_⟩:=H;exact(hh _ List.mem_cons_self).2.2
   have ha:=H.alloc [nm 0] 3;have hz:w.heap.size<=wr.heap.size:=by
    obtain⟨v,_,_,hc⟩:=H;exact hc.size
   obtain⟨gu,Ad⟩:=eC (wr.heap.size);have hu:∀b:Bool,o.join.used=b->∃wu,(if b then (wr.alloc (.cells #[nm 1] 3)) else (wr.alloc (.cells #[nm 0] 3)))=wu/\WSt gc [gc,go] [(gu,[nm (b01 o.join.used)],3),(go,ac o (.slice Q j R) (.slice L E M),T)] w wu l8:=by
    intro b hb;refine⟨_,rfl,?_⟩;rw[hb,<-Ad]
    cases b
    .exact H.alloc [nm 0] 3
    .exact H.alloc [nm 1] 3
   have Bd:¬gc=go:=fun e=>AO e.symm;have Bk:¬go=gu:=by omega
   have Be:¬gu=go:=by omega
   have Bl:gc<wr.heap.size:=by
    obtain⟨v,hh,_,_⟩:=H;exact hh.blk.lt
   have Bf:¬gu=gc:=by omega
   have Bg:¬gc=gu:=by omega
   cases hb:o.join.used
   .obtain⟨wu,Ae,f⟩:=hu false hb
    have Af:=f.blk (g:=gu) List.mem_cons_self;rw[hb] at Aa;clear H ha hu;have X:wr.alloc (.cells #[.int .i64 0] 3)=wu:=Ae;have A8:=eA X;have A9:=eA Ad;have Ag:=Aa;clear Ae Aa X Ad;go_wp2_with fail
    rw[A8.out,A9.out];clear Ag;have q9:=de [(go,8),(go,9)] [o.join.text,o.join.name] 2 f.drew (by simp) rfl rfl (by omega) (fun j C D=>match j,C with|0,_=>⟨_,_,(List.mem_cons_of_mem _ List.mem_cons_self),rfl⟩|1,_=>⟨_,_,(List.mem_cons_of_mem _ List.mem_cons_self),rfl⟩) (by simpa using ⟨K.jtext,K.jname⟩) (by omega);go_region_with (go_at_call 67;refine q9.mono ?_;rintro e w9 ⟨rfl,h9⟩)
    obtain⟨l9,e9,b9⟩:=aW l8 _ 131200 (Nat.le_trans (dO [o.join.text,o.join.name]) (by simp));rw[e9.out] at h9;clear q9 f;have Ah:=bA [(go,10),(gu,0)] [o.join.expires,(b01 o.join.used)] 2 h9 (by simp) rfl rfl (by omega) (fun j C D=>match j,C with|0,_=>⟨_,_,(List.mem_cons_of_mem _ List.mem_cons_self),rfl⟩|1,_=>⟨_,_,List.mem_cons_self,rfl⟩) (by omega);go_wp2_with fail
    refine Ah.mono ?_;rintro e J ⟨rfl,G⟩;obtain⟨Ai,Aj,AQ⟩:=aW l9 _ 16 (Nat.le_trans (dJ [o.join.expires,(b01 o.join.used)]) (by simp));rw[Aj.out] at G;clear Ah h9;have k0:J.cell? ⟨gu,0,none⟩=some (.int .i64 0):=by
     have:=(G.blk (g:=gu) List.mem_cons_self).cell 0;rw[hb] at this;exact this
    have k1:J.cell? ⟨go,11,none⟩=some (.bool false):=by
     have:=(G.blk (g:=go) (List.mem_cons_of_mem _ List.mem_cons_self)).cell 11;rw[show (ac o (.slice Q j R) (.slice L E M))[11]?=some (.bool o.join.used) from rfl,hb] at this;exact this
    have k2:J.frozen? ⟨go,11,none⟩=false:=(G.blk (g:=go) (List.mem_cons_of_mem _ List.mem_cons_self)).froz 11;obtain⟨vc,k⟩:=G.cd;have k3:J.cell? ⟨gc,2,none⟩=some (.bool false):=k.cell 2;have k4:J.frozen? ⟨gc,2,none⟩=false:=k.froz 2;obtain⟨AA,Y⟩:=eC (((J.setCell ⟨go,11,none⟩ (.bool false)).setCell ⟨gc,2,none⟩ (.bool false)));have Al:WSt gc [gc,go] [(go,ac o (.slice Q j R) (.slice L E M),T)] w AA Ai:=by
     rw[<-Y];refine WSt.short ?_ (by simp);have Am:=(G.less (K':=[(go,ac o (.slice Q j R) (.slice L E M),T)]) (by simp)).store (.inl (by simp)) 11 (.bool false) (by simp);rw[mS (show (ac o (.slice Q j R) (.slice L E M))[11]?=some (.bool false) by rw[<-hb];rfl)] at Am
     exact Am
    clear G k Af;go_wp2_with fail
    clear Y k0 k1 k2 k3 k4;have An:=de [(go,12),(go,13)] [o.node.name,o.node.key] 2 Al.drew (by simp) rfl rfl (by omega) (fun j C D=>match j,C with|0,_=>⟨_,_,List.mem_cons_self,rfl⟩|1,_=>⟨_,_,List.mem_cons_self,rfl⟩) (by simpa using ⟨K.nname,K.nkey⟩) (by omega);go_region_with (go_at_call 67;refine An.mono ?_;rintro e AR ⟨rfl,l⟩)
    obtain⟨AB,Ao,AS⟩:=aW Ai _ 131200 (Nat.le_trans (dO [o.node.name,o.node.key]) (by simp));rw[Ao.out] at l;clear An Al;have Ap:=bA [(go,14),(go,15)] [o.node.expires,o.node.seq] 2 l.drew (by simp) rfl rfl (by omega) (fun j C D=>match j,C with|0,_=>⟨_,_,List.mem_cons_self,rfl⟩|1,_=>⟨_,_,List.mem_cons_self,rfl⟩) (by omega);go_wp2_with fail
    go_region_with (go_at_call 66;refine Ap.mono ?_;rintro e AT ⟨rfl,r⟩)
    obtain⟨AC,Aq,AU⟩:=aW AB _ 16 (Nat.le_trans (dJ [o.node.expires,o.node.seq]) (by simp));rw[Aq.out] at r;clear Ap l;have Ar:=de [(go,16),(go,17),(go,18)] [o.node.doc,o.key.kid,o.key.seed] 3 r.drew (by simp) rfl rfl (by omega) (fun j C D=>match j,C with|0,_=>⟨_,_,List.mem_cons_self,rfl⟩|1,_=>⟨_,_,List.mem_cons_self,rfl⟩|2,_=>⟨_,_,List.mem_cons_self,rfl⟩) (by simpa using ⟨K.ndoc,K.kkid,K.kseed⟩) (by omega);go_wp2_with fail
    go_region_with (go_at_call 67;refine Ar.mono ?_;rintro e AV ⟨rfl,s⟩)
    obtain⟨AD,Au,AW⟩:=aW AC _ 196800 (Nat.le_trans (dO [o.node.doc,o.key.kid,o.key.seed]) (by simp));rw[Au.out] at s;clear Ar r;have Av:=bA [(go,19),(go,20)] [o.key.state,o.key.since] 2 s.drew (by simp) rfl rfl (by omega) (fun j C D=>match j,C with|0,_=>⟨_,_,List.mem_cons_self,rfl⟩|1,_=>⟨_,_,List.mem_cons_self,rfl⟩) (by omega);go_wp2_with fail
    go_region_with (go_at_call 66;refine Av.mono ?_;rintro e AX ⟨rfl,t⟩)
    obtain⟨AE,Aw,AY⟩:=aW AD _ 16 (Nat.le_trans (dJ [o.key.state,o.key.since]) (by simp));rw[Aw.out] at t;clear Av s;have Ax:=de [(go,21)] [o.bundle.domain] 1 t (by simp) rfl rfl (by omega) (fun j C D=>match j,C with|0,_=>⟨_,_,List.mem_cons_self,rfl⟩) (by simpa using K.bdom) (by omega);go_wp2_with fail
    refine Ax.mono ?_;rintro e AZ ⟨rfl,u⟩;obtain⟨AF,Ay,Ba⟩:=aW AE _ 65600 (Nat.le_trans (dO [o.bundle.domain]) (by simp));rw[Ay.out] at u;clear Ax t;have Az:=bA [(go,22)] [o.bundle.number] 1 u (by simp) rfl rfl (by omega) (fun j C D=>match j,C with|0,_=>⟨_,_,List.mem_cons_self,rfl⟩) (by omega);go_wp2_with fail
    refine Az.mono ?_;rintro e AG ⟨rfl,N⟩;obtain⟨AH,A0,Bb⟩:=aW AF _ 8 (Nat.le_trans (dJ [o.bundle.number]) (by simp));rw[A0.out] at N;clear Az u;have A1:AG.cell? ⟨go,23,none⟩=some (.slice L E M):=(N.blk (g:=go) List.mem_cons_self).cell 23;have A2:=oA go 23 E (F:=70) N (by simp) List.mem_cons_self (fun a b c d=>qY go 23 L E M a b rfl A6 AJ c d (by omega)) (by simp);go_wp2_with fail
    refine A2.mono ?_;rintro e AI ⟨rfl,y⟩;obtain⟨O,A3,Bc⟩:=aW AH (le 1 (E:Int)) 8 (by rw[cQ];omega)
    rw[A3.out] at y;clear A2 A1 N;have A1:AI.cell? ⟨go,23,none⟩=some (.slice L E M):=(y.blk (g:=go) List.mem_cons_self).cell 23;go_wp2;go_loopw [6,192] (fun _ i wr=>∃m:Nat,m<=E/\i=.int .i64 m/\WSt gc [gc,go] [(go,ac o (.slice Q j R) (.slice L E M),T)] w wr (O++((o.bundle.keys.take m).map nH).flatten)) (fun _ i _=>E-(intOf i).toNat)
    case atStart=>exact⟨0,by omega,rfl,by simpa using y⟩
    case round =>
     obtain⟨m,hm,rfl,H⟩:=hrel;have dr:wr.cell? ⟨go,23,none⟩=some (.slice L E M):=(H.blk (g:=go) List.mem_cons_self).cell 23;by_cases AM:m<E
     .have I:m<o.bundle.keys.length:=by omega
      obtain⟨b,Ab,rfl,AN,A⟩:=Vs.lit hk (by rw[jO];omega)
      have S:=A (m*2) (tx o.bundle.keys[m].kid) (vb I);have A4:=A (m*2+1) (tx o.bundle.keys[m].x) (va I);have U:=rH o.bundle.keys m;have z:=K.bkey _ (List.getElem_mem I);have q:=s9 b (Ab+m*2) o.bundle.keys[m].kid o.bundle.keys[m].x H.drew (by simp) S A4 (by simp;omega) z.1 z.2 (by rw[List.length_append];omega)
      have V:O++((o.bundle.keys.take (m+1)).map nH).flatten=(O++((o.bundle.keys.take m).map nH).flatten)++(bp o.bundle.keys[m].kid++bp o.bundle.keys[m].x):=by
       rw[<-List.take_append_getElem I,List.map_append,List.flatten_append,List.append_assoc];simp only[List.map_cons,List.map_nil,List.flatten_cons,List.flatten_nil,List.append_nil];rfl
      rw[<-V] at q;clear V U S A4 A H z;go_wp2_with fail
      go_region_with (go_at_call 67;refine q.mono ?_;rintro e w2 ⟨rfl,Ac⟩)
      all_goals
       go_wp2;go_roundw
       case rel=>exact⟨m+1,by omega,by go_num,Ac⟩
       case measure=>simp[intOf];omega
     .obtain rfl:m=E:=by omega
      rw[List.take_of_length_le (by omega)] at H;have A5:O++(o.bundle.keys.map nH).flatten=enc o:=by
       rw[<-A3.out];rw[<-A0.out];rw[<-Ay.out];rw[<-Aw.out];rw[<-Au.out];rw[<-Aq.out];rw[<-Ao.out];rw[<-Aj.out];rw[<-e9.out];rw[<-e8.out];rw[<-e7.out];rw[<-e6.out];rw[<-e5.out];rw[<-e4.out];rw[<-e3.out];rw[<-e2.out];rw[<-e1.out];unfold enc tU;rw[AK,AL,Nat.mod_eq_of_lt A7,Nat.mod_eq_of_lt A6,List.take_of_length_le (by omega),List.take_of_length_le (by omega)];simp only[List.map_cons,List.map_nil,List.flatten_cons,List.flatten_nil,List.append_nil,List.append_assoc,List.nil_append,le1_mod]
      rw[A5] at H;obtain⟨v,hW,_,hc⟩:=H;go_wp2;go_end0
      exact⟨rfl,v,hW,hc⟩
   .obtain⟨wu,Ae,f⟩:=hu true hb
    have Af:=f.blk (g:=gu) List.mem_cons_self;rw[hb] at Aa;clear H ha hu;have X:wr.alloc (.cells #[.int .i64 1] 3)=wu:=Ae;have A8:=eA X;have A9:=eA Ad;have Ag:=Aa;clear Ae Aa X Ad;go_wp2_with fail
    rw[A8.out,A9.out];clear Ag;have q9:=de [(go,8),(go,9)] [o.join.text,o.join.name] 2 f.drew (by simp) rfl rfl (by omega) (fun j C D=>match j,C with|0,_=>⟨_,_,(List.mem_cons_of_mem _ List.mem_cons_self),rfl⟩|1,_=>⟨_,_,(List.mem_cons_of_mem _ List.mem_cons_self),rfl⟩) (by simpa using ⟨K.jtext,K.jname⟩) (by omega);go_region_with (go_at_call 67;refine q9.mono ?_;rintro e w9 ⟨rfl,h9⟩)
    obtain⟨l9,e9,b9⟩:=aW l8 _ 131200 (Nat.le_trans (dO [o.join.text,o.join.name]) (by simp));rw[e9.out] at h9;clear q9 f;have Ah:=bA [(go,10),(gu,0)] [o.join.expires,(b01 o.join.used)] 2 h9 (by simp) rfl rfl (by omega) (fun j C D=>match j,C with|0,_=>⟨_,_,(List.mem_cons_of_mem _ List.mem_cons_self),rfl⟩|1,_=>⟨_,_,List.mem_cons_self,rfl⟩) (by omega);go_wp2_with fail
    refine Ah.mono ?_;rintro e J ⟨rfl,G⟩;obtain⟨Ai,Aj,AQ⟩:=aW l9 _ 16 (Nat.le_trans (dJ [o.join.expires,(b01 o.join.used)]) (by simp));rw[Aj.out] at G;clear Ah h9;have k0:J.cell? ⟨gu,0,none⟩=some (.int .i64 1):=by
     have:=(G.blk (g:=gu) List.mem_cons_self).cell 0;rw[hb] at this;exact this
    have k1:J.cell? ⟨go,11,none⟩=some (.bool true):=by
     have:=(G.blk (g:=go) (List.mem_cons_of_mem _ List.mem_cons_self)).cell 11;rw[show (ac o (.slice Q j R) (.slice L E M))[11]?=some (.bool o.join.used) from rfl,hb] at this;exact this
    have k2:J.frozen? ⟨go,11,none⟩=false:=(G.blk (g:=go) (List.mem_cons_of_mem _ List.mem_cons_self)).froz 11;obtain⟨vc,k⟩:=G.cd;have k3:J.cell? ⟨gc,2,none⟩=some (.bool false):=k.cell 2;have k4:J.frozen? ⟨gc,2,none⟩=false:=k.froz 2;obtain⟨AA,Y⟩:=eC (((J.setCell ⟨go,11,none⟩ (.bool true)).setCell ⟨gc,2,none⟩ (.bool false)));have Al:WSt gc [gc,go] [(go,ac o (.slice Q j R) (.slice L E M),T)] w AA Ai:=by
     rw[<-Y];refine WSt.short ?_ (by simp);have Am:=(G.less (K':=[(go,ac o (.slice Q j R) (.slice L E M),T)]) (by simp)).store (.inl (by simp)) 11 (.bool true) (by simp);rw[mS (show (ac o (.slice Q j R) (.slice L E M))[11]?=some (.bool true) by rw[<-hb];rfl)] at Am
     exact Am
    clear G k Af;go_wp2_with fail
    clear Y k0 k1 k2 k3 k4;have An:=de [(go,12),(go,13)] [o.node.name,o.node.key] 2 Al.drew (by simp) rfl rfl (by omega) (fun j C D=>match j,C with|0,_=>⟨_,_,List.mem_cons_self,rfl⟩|1,_=>⟨_,_,List.mem_cons_self,rfl⟩) (by simpa using ⟨K.nname,K.nkey⟩) (by omega);go_region_with (go_at_call 67;refine An.mono ?_;rintro e AR ⟨rfl,l⟩)
    obtain⟨AB,Ao,AS⟩:=aW Ai _ 131200 (Nat.le_trans (dO [o.node.name,o.node.key]) (by simp));rw[Ao.out] at l;clear An Al;have Ap:=bA [(go,14),(go,15)] [o.node.expires,o.node.seq] 2 l.drew (by simp) rfl rfl (by omega) (fun j C D=>match j,C with|0,_=>⟨_,_,List.mem_cons_self,rfl⟩|1,_=>⟨_,_,List.mem_cons_self,rfl⟩) (by omega);go_wp2_with fail
    go_region_with (go_at_call 66;refine Ap.mono ?_;rintro e AT ⟨rfl,r⟩)
    obtain⟨AC,Aq,AU⟩:=aW AB _ 16 (Nat.le_trans (dJ [o.node.expires,o.node.seq]) (by simp));rw[Aq.out] at r;clear Ap l;have Ar:=de [(go,16),(go,17),(go,18)] [o.node.doc,o.key.kid,o.key.seed] 3 r.drew (by simp) rfl rfl (by omega) (fun j C D=>match j,C with|0,_=>⟨_,_,List.mem_cons_self,rfl⟩|1,_=>⟨_,_,List.mem_cons_self,rfl⟩|2,_=>⟨_,_,List.mem_cons_self,rfl⟩) (by simpa using ⟨K.ndoc,K.kkid,K.kseed⟩) (by omega);go_wp2_with fail
    go_region_with (go_at_call 67;refine Ar.mono ?_;rintro e AV ⟨rfl,s⟩)
    obtain⟨AD,Au,AW⟩:=aW AC _ 196800 (Nat.le_trans (dO [o.node.doc,o.key.kid,o.key.seed]) (by simp));rw[Au.out] at s;clear Ar r;have Av:=bA [(go,19),(go,20)] [o.key.state,o.key.since] 2 s.drew (by simp) rfl rfl (by omega) (fun j C D=>match j,C with|0,_=>⟨_,_,List.mem_cons_self,rfl⟩|1,_=>⟨_,_,List.mem_cons_self,rfl⟩) (by omega);go_wp2_with fail
    go_region_with (go_at_call 66;refine Av.mono ?_;rintro e AX ⟨rfl,t⟩)
    obtain⟨AE,Aw,AY⟩:=aW AD _ 16 (Nat.le_trans (dJ [o.key.state,o.key.since]) (by simp));rw[Aw.out] at t;clear Av s;have Ax:=de [(go,21)] [o.bundle.domain] 1 t (by simp) rfl rfl (by omega) (fun j C D=>match j,C with|0,_=>⟨_,_,List.mem_cons_self,rfl⟩) (by simpa using K.bdom) (by omega);go_wp2_with fail
    refine Ax.mono ?_;rintro e AZ ⟨rfl,u⟩;obtain⟨AF,Ay,Ba⟩:=aW AE _ 65600 (Nat.le_trans (dO [o.bundle.domain]) (by simp));rw[Ay.out] at u;clear Ax t;have Az:=bA [(go,22)] [o.bundle.number] 1 u (by simp) rfl rfl (by omega) (fun j C D=>match j,C with|0,_=>⟨_,_,List.mem_cons_self,rfl⟩) (by omega);go_wp2_with fail
    refine Az.mono ?_;rintro e AG ⟨rfl,N⟩;obtain⟨AH,A0,Bb⟩:=aW AF _ 8 (Nat.le_trans (dJ [o.bundle.number]) (by simp));rw[A0.out] at N;clear Az u;have A1:AG.cell? ⟨go,23,none⟩=some (.slice L E M):=(N.blk (g:=go) List.mem_cons_self).cell 23;have A2:=oA go 23 E (F:=70) N (by simp) List.mem_cons_self (fun a b c d=>qY go 23 L E M a b rfl A6 AJ c d (by omega)) (by simp);go_wp2_with fail
    refine A2.mono ?_;rintro e AI ⟨rfl,y⟩;obtain⟨O,A3,Bc⟩:=aW AH (le 1 (E:Int)) 8 (by rw[cQ];omega)
    rw[A3.out] at y;clear A2 A1 N;have A1:AI.cell? ⟨go,23,none⟩=some (.slice L E M):=(y.blk (g:=go) List.mem_cons_self).cell 23;go_wp2;go_loopw [6,192] (fun _ i wr=>∃m:Nat,m<=E/\i=.int .i64 m/\WSt gc [gc,go] [(go,ac o (.slice Q j R) (.slice L E M),T)] w wr (O++((o.bundle.keys.take m).map nH).flatten)) (fun _ i _=>E-(intOf i).toNat)
    case atStart=>exact⟨0,by omega,rfl,by simpa using y⟩
    case round =>
     obtain⟨m,hm,rfl,H⟩:=hrel;have dr:wr.cell? ⟨go,23,none⟩=some (.slice L E M):=(H.blk (g:=go) List.mem_cons_self).cell 23;by_cases AM:m<E
     .have I:m<o.bundle.keys.length:=by omega
      obtain⟨b,Ab,rfl,AN,A⟩:=Vs.lit hk (by rw[jO];omega)
      have S:=A (m*2) (tx o.bundle.keys[m].kid) (vb I);have A4:=A (m*2+1) (tx o.bundle.keys[m].x) (va I);have U:=rH o.bundle.keys m;have z:=K.bkey _ (List.getElem_mem I);have q:=s9 b (Ab+m*2) o.bundle.keys[m].kid o.bundle.keys[m].x H.drew (by simp) S A4 (by simp;omega) z.1 z.2 (by rw[List.length_append];omega)
      have V:O++((o.bundle.keys.take (m+1)).map nH).flatten=(O++((o.bundle.keys.take m).map nH).flatten)++(bp o.bundle.keys[m].kid++bp o.bundle.keys[m].x):=by
       rw[<-List.take_append_getElem I,List.map_append,List.flatten_append,List.append_assoc];simp only[List.map_cons,List.map_nil,List.flatten_cons,List.flatten_nil,List.append_nil];rfl
      rw[<-V] at q;clear V U S A4 A H z;go_wp2_with fail
      go_region_with (go_at_call 67;refine q.mono ?_;rintro e w2 ⟨rfl,Ac⟩)
      all_goals
       go_wp2;go_roundw
       case rel=>exact⟨m+1,by omega,by go_num,Ac⟩
       case measure=>simp[intOf];omega
     .obtain rfl:m=E:=by omega
      rw[List.take_of_length_le (by omega)] at H;have A5:O++(o.bundle.keys.map nH).flatten=enc o:=by
       rw[<-A3.out];rw[<-A0.out];rw[<-Ay.out];rw[<-Aw.out];rw[<-Au.out];rw[<-Aq.out];rw[<-Ao.out];rw[<-Aj.out];rw[<-e9.out];rw[<-e8.out];rw[<-e7.out];rw[<-e6.out];rw[<-e5.out];rw[<-e4.out];rw[<-e3.out];rw[<-e2.out];rw[<-e1.out];unfold enc tU;rw[AK,AL,Nat.mod_eq_of_lt A7,Nat.mod_eq_of_lt A6,List.take_of_length_le (by omega),List.take_of_length_le (by omega)];simp only[List.map_cons,List.map_nil,List.flatten_cons,List.flatten_nil,List.append_nil,List.append_assoc,List.nil_append,le1_mod]
      rw[A5] at H;obtain⟨v,hW,_,hc⟩:=H;go_wp2;go_end0
      exact⟨rfl,v,hW,hc⟩
end
section
open Go.RowKit Mem Led
def NewBytes(w:World)(l:Txt)(e:Ending)(w':World):Prop:=∃v,e=.returned v/\w'.ownsRow w.heap.size 5 1 v l.length (bv l)/\eF w w'
theorem lencode_any(o:Led.Op)(A:o.Ok)(K:Nat)(Z:o.kind=K)(T:K<=9223372036854775807)(G:Option Addr)(E H:Nat)(I:Option Addr)(F J:Nat)(w:World)
  (b:Vs w w.heap.size 1 G E (o.entry.sels.map tx)) (c:Vs w w.heap.size 2 I F (jv o.bundle.keys)) (U:E<=H) (V:F<=J) :
  Calls prog 19 #[.agg (ac o (.slice G E H) (.slice I F J)).toArray] w (NewBytes w (enc o)):=by
 have d:=r9 K T
 obtain⟨C,D⟩:∃C:Led.Op,{ o with kind:=(K:Int) % 256 }=C:=⟨_,rfl⟩
 have O:enc C=enc o:=by
  rw[<-D];unfold enc;simp only[];rw[Z];congr 1
  congr 1
  omega
 have X:C.Ok:=by rw[<-D];exact⟨A.1,A.2,A.3,A.4,A.5,A.6,A.7,A.8,A.9,A.10,A.11,A.12,A.13,A.14,A.15⟩
 have Q:Blk (w.alloc (.cells (ac C (.slice G E H) (.slice I F J)).toArray 47)) w.heap.size (ac C (.slice G E H) (.slice I F J)) 47:=Blk.new _ _ _
 obtain⟨W,L⟩:=eC ((w.alloc (.cells (ac C (.slice G E H) (.slice I F J)).toArray 47)).alloc (.cells #[.slice none 0 0,.bool false,.bool false] 86))
 have M:eF w W:=by rw[<-L];exact eI.alloc (by simp) _
 have R:W.heap.size=w.heap.size+2:=by rw[<-L];simp
 have f:Blk W (w.heap.size+1) [.slice none 0 0,.bool false,.bool false] 86:=by
  have:=Blk.new (w.alloc (.cells (ac C (.slice G E H) (.slice I F J)).toArray 47)) [.slice none 0 0,.bool false,.bool false] 86;rw[<-L];simpa using this
 have g:Blk W w.heap.size (ac C (.slice G E H) (.slice I F J)) 47:=by rw[<-L];exact Q.alloc _
 have S:WSt (w.heap.size+1) [w.heap.size+1,w.heap.size] [(w.heap.size,ac C (.slice G E H) (.slice I F J),47)] W W [] :=
  ⟨.slice none 0 0,⟨World.ownsRow_nil _ _ _ _,f,by omega,eH⟩,fun p h=>by
   simp at h
   subst h;exact⟨g,by simp[Value.ownBlock],by simp⟩,Chg.refl _ _⟩
 have N:=opw_any C X G E H I F J w.heap.size (w.heap.size+1) w.heap.size 47 (by omega) S (by rw[<-D];exact Vs.below b M) (by rw[<-D];exact Vs.below c M) (by omega) eH U V
 rw[O] at N
 unfold ac at L
 simp only[<-D] at L
 have Y:=eA L
 have i:(W.heap.size=w.heap.size+2):=R
 clear L Q f g S b c O R
 unfold ac
 rw[Z]
 simp only[nm,tx] at Y ⊢
 go_enter func19,ntmps19
 go_wp2_with fail
 rw[Y.out]
 refine N.mono ?_
 rintro e l ⟨rfl,v,j,k⟩
 have n:l.cell? ⟨w.heap.size+1,0,none⟩=some v:=j.blk.cell 0
 have m:=k.size
 clear Y N
 go_wp2
 go_ret
 exact⟨v,rfl,aG j.own (by omega),(M.trans (k.below' (B:=w.heap.size) (by omega) (by simp)))⟩
end
section
open Go.RowKit Mem
theorem infoT:(prog.info? 9).map (fun i=>(i.zero,i.size,i.bytes))=some (some (.string ⟨#[]⟩),1,16):=by kernel_rfl
def tv(L:List (List UInt8)):List Value:=L.map fun l=>.string (str l)
theorem dN(L:List (List UInt8)):(tv L).length=L.length:=by simp[tv]
theorem sX(a b:List (List UInt8)):tv (a++b)=tv a++tv b:=by simp[tv]
theorem tv_one(L:List (List UInt8)):∀u∈tv L,u.oneCell'=true:=by
 intro u A
 simp only[tv,List.mem_map] at A
 obtain⟨b,_,rfl⟩:=A
 rfl
def Ts(w:World)(A:Option Addr)(n:Nat)(L:List (List UInt8)):Prop:=Vs w w.heap.size 1 A n (tv L)
theorem Ts.len{w:World}{A:Option Addr}{n:Nat}{L:List (List UInt8)}(h:Ts w A n L):L.length=n:=by have:=Vs.len h;rw[dN] at this;omega
theorem Ts.of_own{w:World}{base c n:Nat}{A:Option Addr}{L:List (List UInt8)}{e:TypeId}(h:w.ownsRow base e 1 (.slice A n c) n (tv L)):Ts w A n L:=Vs.of_own h
theorem Ts.lit{w:World}{A:Option Addr}{n:Nat}{L:List (List UInt8)}(h:Ts w A n L){i:Nat}(hi:i<L.length):∃C D,A=some ⟨C,D,none⟩/\w.cell? ⟨C,D+i,none⟩=some (.string (str L[i])):=by
 have M:=h.len
 have key:∀j,(hj:j<L.length)->∃B,A=some B/\w.cell? (B.add j)=some (.string (str L[j])):=by
  intro j hj;have H:(tv L)[j]?=some (.string (str L[j])):=by simp[tv,hj]
  obtain⟨B,e,_,I⟩:=Vs.rd h j _ H;exact⟨B,e,I⟩
 obtain⟨E,G,J⟩:=key 0 (by omega)
 have F:=World.cell?_spot J
 obtain⟨B,e,c⟩:=key i hi
 obtain rfl:E=B:=by rw[G] at e;injection e
 obtain⟨b,o,s⟩:=E
 simp[Addr.add] at F
 subst F
 have K:(⟨b,o,none⟩:Addr).add i=⟨b,o+i,none⟩:=by
  unfold Addr.add;split<;>simp_all
 rw[K] at c
 exact⟨b,o,G,c⟩
theorem Ts.chg{w w':World}{S:List Nat}{A:Option Addr}{n:Nat}{L:List (List UInt8)}(h:Ts w A n L)(G:∀a,A=some a->0<n->a.block∉S)(C:Chg S w w'):Ts w' A n L:=by
 refine⟨Vs.len h,fun j u D=>?_⟩
 obtain⟨E,rfl,F,B⟩:=Vs.rd h j u D
 have H:0<n:=by
  have I:=(List.getElem?_eq_some_iff.1 D).1;have J:=Vs.len h;omega
 refine⟨E,rfl,Nat.lt_of_lt_of_le F C.size,?_⟩
 rw[C.cell (by rw[gM];exact F) (by rw[gM];exact G E rfl H)]
 exact B
theorem Ts.below{w w':World}{A:Option Addr}{n:Nat}{L:List (List UInt8)}(h:Ts w A n L)(B:eF w w'):Ts w' A n L:=h.chg (S:=[]) (by simp) (Chg.of_below B)
theorem Ts.empty(w:World)(A:Option Addr):Ts w A 0 []:=Vs.empty _ _ _ _
theorem Ts.new(w:World)(L:List (List UInt8))(e:TypeId):Ts (w.alloc (.cells (tv L).toArray e)) (some ⟨w.heap.size,0,none⟩) L.length L:=by
 refine⟨by rw[dN];omega,fun j u A=>⟨⟨w.heap.size,0,none⟩,rfl,by simp,?_⟩⟩
 rw[aZ,rT,List.getElem?_toArray]
 exact A
end
end Go.Proofs.YtmbpnkacggngkaaGreatDoor
