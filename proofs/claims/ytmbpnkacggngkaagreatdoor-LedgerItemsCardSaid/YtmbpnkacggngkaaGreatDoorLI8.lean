/- LedPut, LedPutS, LedDoA, LedMayB, LedSets (put together by bundle.py: only what is needed). -/
import Derived.Lib.OwnBridge
import Derived.Sort.OwnSorted
import Derived.Test.YtmbpnkacggngkaaGreatDoorLI7
set_option maxRecDepth 100000
set_option maxHeartbeats 16000000
namespace Go.Proofs.YtmbpnkacggngkaaGreatDoor
open Batch
open Tryz
section
open Go.RowKit Mem Led
def bK{α:Type}(enc:α->List Value)(k:Nat)(e:TypeId)(base gl sl:Nat)(v:Value)(L':List α)(w w':World):Prop :=
 ∃A B,w'=B.setCell ⟨gl,sl,none⟩ A/\w.grownBy B v.ownBlock/\B.ownsRow base e k A L'.length (ah enc L')/\(A.ownBlock=v.ownBlock\/∃g,w.heap.size<=g/\A.ownBlock=some g)
theorem dC{w C D:World}{r:Option Nat}(h:eF w C)(A:C.grownBy D r):w.grownBy D r :=
 ⟨A.os.trans h.os,A.tape.trans h.tape,A.output.trans h.output,Nat.le_trans h.size A.size,fun k E B=>(A.block k (Nat.lt_of_lt_of_le E h.size) B).trans (h.block k E)⟩
theorem rI{α:Type}{p:α->Bool}{L:List α}{i:Nat}(hi:i<L.length)(h:∀x∈L.take i,p x=false)(B:p L[i]=true):L.eraseP p=L.take i++L.drop (i+1):=by
 have e:L=L.take i++L[i]::L.drop (i+1):=by rw[<-List.drop_eq_getElem_cons hi,List.take_append_drop]
 generalize L[i]=x at *
 generalize L.take i=A at *
 generalize L.drop (i+1)=D at *
 subst e
 rw[List.eraseP_append_right _ (by intro b C;rw[h b C];simp)]
 simp[B]
theorem bh{α:Type}(p:α->Bool)(L:List α):(aX p L = -1/\L.any p=false)\/∃i:Nat,∃hi:i<L.length,aX p L=i/\L.any p=true/\p L[i]=true/\∀x∈L.take i,p x=false:=by
 unfold aX
 cases h:L.findIdx? p with
 | none =>
  rw[List.findIdx?_eq_none_iff] at h;exact .inl ⟨rfl,by rw[List.any_eq_false];intro x hx;rw[h x hx];simp⟩
 | some i =>
  obtain⟨hi,A,B⟩:=List.findIdx?_eq_some_iff_getElem.1 h;refine .inr ⟨i,hi,rfl,List.any_eq_true.2 ⟨_,List.getElem_mem hi,A⟩,A,fun x hx=>?_⟩;rw[List.mem_take_iff_getElem] at hx;obtain⟨j,C,rfl⟩:=hx;have:=B j (by omega);simpa using this
theorem rows_str:∀L:List Txt,ah al L=tv L
 | []=>rfl
 | x::L=>by
  rw[bM,rows_str L];rfl
theorem nX{w:World}{base n c:Nat}{A:Option Addr}{L:List Txt}{e:TypeId}(h:w.ownsRow base e 1 (.slice A n c) n (ah al L)):Ts w A n L:=by
 rw[rows_str] at h
 exact Ts.of_own h
def bL{α:Type}(enc:α->List Value)(k:Nat)(e:TypeId)(base gl sl:Nat)(v:Value)(L:List α)(p:α->Bool)(w:World)(x:Ending)(w':World):Prop :=
 if L.any p then x=.returned (.int .i64 0)/\bK enc k e base gl sl v (L.eraseP p) w w' else x=.returned (.int .i64 7)/\eF w w'
def NewOne(W:World)(X:List Value)(e:TypeId)(v:Value)(w:World):Prop:=∃A,W.heap.size<=A/\v=.slice (some ⟨A,0,none⟩) 1 1/\Blk w A X e
theorem eR{W w:World}{X:List Value}{e:TypeId}(h:GR W w):GR w (w.alloc (.cells X.toArray e))/\NewOne W X e (.slice (some ⟨w.heap.size,0,none⟩) 1 1) (w.alloc (.cells X.toArray e)) :=
 ⟨GR.of eI,_,h.below.size,rfl,Blk.new w X e⟩
theorem bq{P:Program}{G:Nat}{Q:Exit->Act->World->Prop}{a:Act}{w:World}{l:List Oper}(M r:List Nat)(i:Nat)(T:List Nat)(X:List Value)(e:TypeId)
  (h:wpQuiet P l.toArray (fun _=>True) (wpQuiet P l.toArray (fun w'=>∃p:eY,w'=ab w p) (fun C=>∃o,l.toArray[i]?=some o/\Region.wanted o (yielded l.toArray C.tmps)=true/\(∀w',GR w w'->mr P GR (NewOne w X e) w' ((execOp C.eval o).run P w')) /\
   ∀B w',GR w w'->w.heap.size<=B->Blk w' B X e->wpList P l.toArray (Qn Q) (pick l T) (C.put o.dst (.slice (some ⟨B,0,none⟩) 1 1)) w') (pick l r)) (pick l M) a)
  (H:P.follows .mixedOrders=true:=by kernel_rfl)
  (I:(M.all (fun i=>decide (i<l.length))&&Region.noSelect l.toArray&&tz l.toArray M&&kM .any l.toArray M (Array.replicate l.length false)&&decide (M.length<=l.length))=true:=by kernel_rfl)
  (D:(([(r,i)]:List (List Nat × Nat)).all (fun s=>s.1.all fun i=>decide (i<l.length))&&T.all (fun i=>decide (i<l.length))&&sY .any l.toArray (lay (Array.replicate l.length false) M) [(r,i)]&&decide (qp [(r,i)]+T.length=l.length-M.length)&&pA .any l.toArray T (uX [(r,i)] (lay (Array.replicate l.length false) M)))=true:=by kernel_rfl):(Code.region G l.toArray true).wp P Q a w :=
 kT M [(r,(i,NewOne w X e))] T H I D (fun s J=>by
  rw[List.mem_singleton.1 J];exact ao fun v w w' K ⟨B,e0,e,h⟩=>⟨B,e0,e,h.below K⟩) (eQ (fun N h0=>aw (eQ (fun C ⟨o,k1,k2,k3,k4⟩=>⟨o,k1,k2,fun w' E _=>k3 w' E,by
   rintro v ⟨_,L,_,rfl,_⟩ w' E ⟨_,B,F,A,D⟩;injection A with A
   injection A with A
   injection A with A
   subst A;exact k4 _ w' E F D⟩) h0)) h)
theorem dQ{α:Type}{enc:α->List Value}{k B:Nat}{ts e:TypeId}{z:Value}(F:(prog.info? e).map (fun i=>(i.zero,i.size,i.bytes))=some (some z,k,B))(S:prog.underlying ts=some (.slice e)){base gl sl n c O:Nat}{A:Option Addr}{L:List α}{x:α}{vs:List Value}{l:TypeId}{D:World}
  (G:base<=D.heap.size) (T:Blk D gl vs l) (U:vs[sl]?=some (.slice A n c)) (V:(Value.slice A n c).ownBlock≠some gl) (I:D.ownsRow base e k (.slice A n c) n (ah enc L)) (m:n=L.length) (o:n<=1000) (q:∀u∈enc x,u.oneCell'=true) (J:Blk D O (enc x) e)
  (hx:(enc x).length=k:=by rfl) (r:z.cells.size=k:=by rfl) (h0:0<k:=by decide) (X:B<=1000:=by decide) :
  ∃Q R H,(Builtin.append_ #[ts,ts] ts #[.slice A n c,.slice (some ⟨O,0,none⟩) 1 1]).run prog D=.ok (.slice Q (n+1) R) H/\H.cell? ⟨gl,sl,none⟩=some (.slice A n c)/\H.frozen? ⟨gl,sl,none⟩=false/\bK enc k e base gl sl (.slice A n c) (L++[x]) D (H.setCell ⟨gl,sl,none⟩ (.slice Q (n+1) R)):=by
 obtain⟨s,Y,Z,b,d⟩:=an F
 have f:Vs D D.heap.size k (some ⟨O,0,none⟩) 1 (enc x):=⟨by rw[Nat.one_mul];exact hx,fun j u t=>⟨_,rfl,J.lt,by rw[aZ,J.cell j];exact t⟩⟩
 obtain⟨y,H,K,C,M,g⟩:=bj (P:=prog) D base ts ts e s z k B S Y Z b d r h0 _ n _ I D.heap.size (some ⟨O,0,none⟩) 1 1 (enc x) f q (by unfold maxLen;omega) (Nat.le_trans (Nat.mul_le_mul (show n+1<=1001 by omega) X) (by decide)) G
 obtain⟨Q,R,rfl,_,_⟩:=aj C
 have E:=M.block gl T.lt (fun e=>V e.symm)
 have N:ah enc L++enc x=ah enc (L++[x]):=by rw[aT];simp[ah]
 rw[N] at C
 exact⟨Q,R,H,K,(World.cell?_of_block (a:=⟨gl,sl,none⟩) E).trans ((T.cell sl).trans U),(World.frozen?_of_block (a:=⟨gl,sl,none⟩) E).trans (T.froz sl),_,H,rfl,M,by rw[List.length_append,<-m];exact C,g.imp id (fun h=>⟨_,eH,h⟩)⟩
theorem jS{α:Type}{enc:α->List Value}{k:Nat}{e:TypeId}{base gl sl:Nat}{v:Value}{L:List α}{p:α->Bool}{w:World}(A:L.any p=false):Hid (∀w',eF w w'->bL enc k e base gl sl v L p w (.returned (.int .i64 7)) w'):=eA (fun w' B=>by unfold bL;rw[A];exact⟨rfl,B⟩)
theorem rV{w E B:World}{gl sl:Nat}{v u:Value}(C:eF w E)(G:E.grownBy B v.ownBlock)(D:v.ownBlock≠some gl)(A:gl<w.heap.size)(H:w.cell? ⟨gl,sl,none⟩=some u)(I:w.frozen? ⟨gl,sl,none⟩=false):B.cell? ⟨gl,sl,none⟩=some u/\B.frozen? ⟨gl,sl,none⟩=false:=by
 have F:=G.block gl (Nat.lt_of_lt_of_le A C.size) (fun e=>D e.symm)
 exact⟨(World.cell?_of_block (a:=⟨gl,sl,none⟩) F).trans ((C.cell (p:=⟨gl,sl,none⟩) A).trans H),(World.frozen?_of_block (a:=⟨gl,sl,none⟩) F).trans ((C.frozen (p:=⟨gl,sl,none⟩) A).trans I)⟩
theorem jR{α:Type}{enc:α->List Value}{k:Nat}{e:TypeId}{base gl sl i m c:Nat}{A:Option Addr}{L:List α}{p:α->Bool}{w:World}(E:i<L.length)(N:L.any p=true)(F:p L[i]=true)(G:∀x∈L.take i,p x=false)(U:L.length=i+1+m)(O:w.cell? ⟨gl,sl,none⟩=some (.slice A L.length c))(Q:w.frozen? ⟨gl,sl,none⟩=false)(H:gl<w.heap.size)(I:(Value.slice A L.length c).ownBlock≠some gl) :
  Hid (∀J B C D,eF w J->B.ownsRow base e k (.slice C (i+m) D) (i+m) (ah enc (L.take i++L.drop (i+1)))->J.grownBy B (Value.slice A L.length c).ownBlock->(Value.slice C (i+m) D).ownBlock=(Value.slice A L.length c).ownBlock ->
   (B.cell? ⟨gl,sl,none⟩=some (.slice A L.length c)/\B.frozen? ⟨gl,sl,none⟩=false)/\Hid (bL enc k e base gl sl (.slice A L.length c) L p w (.returned (.int .i64 0)) (B.setCell ⟨gl,sl,none⟩ (.slice C (i+m) D)))):=eA fun J B C D K R M S=>⟨rV K M I H O Q,eA (by
 unfold bL
 rw[N]
 refine⟨rfl,_,B,rfl,dC K M,?_,.inl S⟩
 rw[rI E G F]
 have T:(L.take i++L.drop (i+1)).length=i+m:=by rw[List.length_append,List.length_take,List.length_drop];omega
 rw[T]
 exact R)⟩
theorem goneEnt_any(gl sl:Nat)(g:Nat)(lb:Array Value)(Z:∀args w,(callFunc g args).run prog w=.ok (.enter g args) w)(p:Led.Entry × Value->Bool)(L:List (Led.Entry × Value))(base:Nat)(v:Value)(w:World)(z:L.length<=1000)
  (S:w.cell? ⟨gl,sl,none⟩=some v) (b:w.frozen? ⟨gl,sl,none⟩=false) (G:gl<w.heap.size) (C:w.ownsRow base 36 5 v L.length (ah ag L)) (H:v.ownBlock≠some gl) (T:∀y∈L,∀u∈ag y,u.oneCell'=true)
  (Q:∀(W:World) (x:Led.Entry × Value),x∈L->eF w W->Calls prog g (#[.agg (ag x).toArray]++lb) W fun e w'=>e=.returned (.bool (p x))/\eF W w') :
  Calls prog 82 #[.pointer (some ⟨gl,sl,none⟩),.func (.func g) #[] lb] w (bL ag 5 36 base gl sl v L p w):=by
 obtain⟨A,c,rfl,d,f⟩:=aj C
 have B:=idxEnt_any g lb Z p A L.length c L w (Vs.of_own C) (by omega) Q
 rcases bh p L with⟨hi,I⟩|⟨i,R,hi,I,J,K⟩
 .rw [hi] at B
  have M:=jS (enc:=ag) (k:=5) (e:=36) (base:=base) (gl:=gl) (sl:=sl) (v:=.slice A L.length c) (w:=w) I;clear hi I Q;go_enter func82,ntmps82
  go_wp2_with fail
  refine B.mono ?_;rintro e F ⟨rfl,D⟩;go_wp2;go_ret;exact M.out _ D
 .rw [hi] at B
  obtain⟨m,O⟩:∃m,L.length=i+1+m:=⟨L.length-(i+1),by omega⟩;have E:=eA fun F (h:eF w F)=>delEnt_any L i m base (.slice A L.length c) F O (by rw[<-O];exact af C h eH) (by omega) T
  have U:=jR (enc:=ag) (k:=5) (e:=36) (base:=base) R I J K O S b G H;have j:¬((i:Int)<0):=by omega
  have l:IntKind.i64.wrap ((i:Int)+1)=(i:Int)+1:=by rw[IntKind.wrap_i64];omega
  clear hi I Q J K O H T;go_enter func82,ntmps82
  go_wp2_with fail
  refine B.mono ?_;rintro e F ⟨rfl,D⟩;have n:=(D.cell (p:=⟨gl,sl,none⟩) G).trans S;go_wp2_with fail
  refine(E.out F D).mono ?_;rintro e o ⟨q,r,rfl,V,X,Y⟩;obtain⟨⟨s,t⟩,N⟩:=U.out F o q r D V X Y;clear V X Y E U;go_wp2;go_ret;exact N.out
theorem goneNod_any(gl sl:Nat)(g:Nat)(lb:Array Value)(Z:∀args w,(callFunc g args).run prog w=.ok (.enter g args) w)(p:Led.Node->Bool)(L:List (Led.Node))(base:Nat)(v:Value)(w:World)(z:L.length<=1000)
  (S:w.cell? ⟨gl,sl,none⟩=some v) (b:w.frozen? ⟨gl,sl,none⟩=false) (G:gl<w.heap.size) (C:w.ownsRow base 40 5 v L.length (ah ae L)) (H:v.ownBlock≠some gl) (T:∀y∈L,∀u∈ae y,u.oneCell'=true)
  (Q:∀(W:World) (x:Led.Node),x∈L->eF w W->Calls prog g (#[.agg (ae x).toArray]++lb) W fun e w'=>e=.returned (.bool (p x))/\eF W w') :
  Calls prog 98 #[.pointer (some ⟨gl,sl,none⟩),.func (.func g) #[] lb] w (bL ae 5 40 base gl sl v L p w):=by
 obtain⟨A,c,rfl,d,f⟩:=aj C
 have B:=rz g lb Z p A L.length c L w (Vs.of_own C) (by omega) Q
 rcases bh p L with⟨hi,I⟩|⟨i,R,hi,I,J,K⟩
 .rw [hi] at B
  have M:=jS (enc:=ae) (k:=5) (e:=40) (base:=base) (gl:=gl) (sl:=sl) (v:=.slice A L.length c) (w:=w) I;clear hi I Q;go_enter func98,ntmps98
  go_wp2_with fail
  refine B.mono ?_;rintro e F ⟨rfl,D⟩;go_wp2;go_ret;exact M.out _ D
 .rw [hi] at B
  obtain⟨m,O⟩:∃m,L.length=i+1+m:=⟨L.length-(i+1),by omega⟩;have E:=eA fun F (h:eF w F)=>delNod_any L i m base (.slice A L.length c) F O (by rw[<-O];exact af C h eH) (by omega) T
  have U:=jR (enc:=ae) (k:=5) (e:=40) (base:=base) R I J K O S b G H;have j:¬((i:Int)<0):=by omega
  have l:IntKind.i64.wrap ((i:Int)+1)=(i:Int)+1:=by rw[IntKind.wrap_i64];omega
  clear hi I Q J K O H T;go_enter func98,ntmps98
  go_wp2_with fail
  refine B.mono ?_;rintro e F ⟨rfl,D⟩;have n:=(D.cell (p:=⟨gl,sl,none⟩) G).trans S;go_wp2_with fail
  refine(E.out F D).mono ?_;rintro e o ⟨q,r,rfl,V,X,Y⟩;obtain⟨⟨s,t⟩,N⟩:=U.out F o q r D V X Y;clear V X Y E U;go_wp2;go_ret;exact N.out
theorem goneKey_any(gl sl:Nat)(g:Nat)(lb:Array Value)(Z:∀args w,(callFunc g args).run prog w=.ok (.enter g args) w)(p:Led.Key->Bool)(L:List (Led.Key))(base:Nat)(v:Value)(w:World)(z:L.length<=1000)
  (S:w.cell? ⟨gl,sl,none⟩=some v) (b:w.frozen? ⟨gl,sl,none⟩=false) (G:gl<w.heap.size) (C:w.ownsRow base 42 4 v L.length (ah ar L)) (H:v.ownBlock≠some gl) (T:∀y∈L,∀u∈ar y,u.oneCell'=true)
  (Q:∀(W:World) (x:Led.Key),x∈L->eF w W->Calls prog g (#[.agg (ar x).toArray]++lb) W fun e w'=>e=.returned (.bool (p x))/\eF W w') :
  Calls prog 105 #[.pointer (some ⟨gl,sl,none⟩),.func (.func g) #[] lb] w (bL ar 4 42 base gl sl v L p w):=by
 obtain⟨A,c,rfl,d,f⟩:=aj C
 have B:=mB g lb Z p A L.length c L w (Vs.of_own C) (by omega) Q
 rcases bh p L with⟨hi,I⟩|⟨i,R,hi,I,J,K⟩
 .rw [hi] at B
  have M:=jS (enc:=ar) (k:=4) (e:=42) (base:=base) (gl:=gl) (sl:=sl) (v:=.slice A L.length c) (w:=w) I;clear hi I Q;go_enter func105,ntmps105
  go_wp2_with fail
  refine B.mono ?_;rintro e F ⟨rfl,D⟩;go_wp2;go_ret;exact M.out _ D
 .rw [hi] at B
  obtain⟨m,O⟩:∃m,L.length=i+1+m:=⟨L.length-(i+1),by omega⟩;have E:=eA fun F (h:eF w F)=>delKey_any L i m base (.slice A L.length c) F O (by rw[<-O];exact af C h eH) (by omega) T
  have U:=jR (enc:=ar) (k:=4) (e:=42) (base:=base) R I J K O S b G H;have j:¬((i:Int)<0):=by omega
  have l:IntKind.i64.wrap ((i:Int)+1)=(i:Int)+1:=by rw[IntKind.wrap_i64];omega
  clear hi I Q J K O H T;go_enter func105,ntmps105
  go_wp2_with fail
  refine B.mono ?_;rintro e F ⟨rfl,D⟩;have n:=(D.cell (p:=⟨gl,sl,none⟩) G).trans S;go_wp2_with fail
  refine(E.out F D).mono ?_;rintro e o ⟨q,r,rfl,V,X,Y⟩;obtain⟨⟨s,t⟩,N⟩:=U.out F o q r D V X Y;clear V X Y E U;go_wp2;go_ret;exact N.out
theorem goneBun_any(gl sl:Nat)(g:Nat)(lb:Array Value)(Z:∀args w,(callFunc g args).run prog w=.ok (.enter g args) w)(p:Led.Bundle × Value->Bool)(L:List (Led.Bundle × Value))(base:Nat)(v:Value)(w:World)(z:L.length<=1000)
  (S:w.cell? ⟨gl,sl,none⟩=some v) (b:w.frozen? ⟨gl,sl,none⟩=false) (G:gl<w.heap.size) (C:w.ownsRow base 45 3 v L.length (ah ai L)) (H:v.ownBlock≠some gl) (T:∀y∈L,∀u∈ai y,u.oneCell'=true)
  (Q:∀(W:World) (x:Led.Bundle × Value),x∈L->eF w W->Calls prog g (#[.agg (ai x).toArray]++lb) W fun e w'=>e=.returned (.bool (p x))/\eF W w') :
  Calls prog 112 #[.pointer (some ⟨gl,sl,none⟩),.func (.func g) #[] lb] w (bL ai 3 45 base gl sl v L p w):=by
 obtain⟨A,c,rfl,d,f⟩:=aj C
 have B:=rC g lb Z p A L.length c L w (Vs.of_own C) (by omega) Q
 rcases bh p L with⟨hi,I⟩|⟨i,R,hi,I,J,K⟩
 .rw [hi] at B
  have M:=jS (enc:=ai) (k:=3) (e:=45) (base:=base) (gl:=gl) (sl:=sl) (v:=.slice A L.length c) (w:=w) I;clear hi I Q;go_enter func112,ntmps112
  go_wp2_with fail
  refine B.mono ?_;rintro e F ⟨rfl,D⟩;go_wp2;go_ret;exact M.out _ D
 .rw [hi] at B
  obtain⟨m,O⟩:∃m,L.length=i+1+m:=⟨L.length-(i+1),by omega⟩;have E:=eA fun F (h:eF w F)=>delBun_any L i m base (.slice A L.length c) F O (by rw[<-O];exact af C h eH) (by omega) T
  have U:=jR (enc:=ai) (k:=3) (e:=45) (base:=base) R I J K O S b G H;have j:¬((i:Int)<0):=by omega
  have l:IntKind.i64.wrap ((i:Int)+1)=(i:Int)+1:=by rw[IntKind.wrap_i64];omega
  clear hi I Q J K O H T;go_enter func112,ntmps112
  go_wp2_with fail
  refine B.mono ?_;rintro e F ⟨rfl,D⟩;have n:=(D.cell (p:=⟨gl,sl,none⟩) G).trans S;go_wp2_with fail
  refine(E.out F D).mono ?_;rintro e o ⟨q,r,rfl,V,X,Y⟩;obtain⟨⟨s,t⟩,N⟩:=U.out F o q r D V X Y;clear V X Y E U;go_wp2;go_ret;exact N.out
theorem goneStr_any(gl sl:Nat)(g:Nat)(lb:Array Value)(Z:∀args w,(callFunc g args).run prog w=.ok (.enter g args) w)(p:Txt->Bool)(L:List (Txt))(base:Nat)(v:Value)(w:World)(z:L.length<=1000)
  (S:w.cell? ⟨gl,sl,none⟩=some v) (b:w.frozen? ⟨gl,sl,none⟩=false) (G:gl<w.heap.size) (C:w.ownsRow base 9 1 v L.length (ah al L)) (H:v.ownBlock≠some gl) (T:∀y∈L,∀u∈al y,u.oneCell'=true)
  (Q:∀(W:World) (x:Txt),x∈L->eF w W->Calls prog g (#[.string (str x)]++lb) W fun e w'=>e=.returned (.bool (p x))/\eF W w') :
  Calls prog 96 #[.pointer (some ⟨gl,sl,none⟩),.func (.func g) #[] lb] w (bL al 1 9 base gl sl v L p w):=by
 obtain⟨A,c,rfl,d,f⟩:=aj C
 have B:=ry g lb Z p A L.length c L w (nX C) (by omega) Q
 rcases bh p L with⟨hi,I⟩|⟨i,R,hi,I,J,K⟩
 .rw [hi] at B
  have M:=jS (enc:=al) (k:=1) (e:=9) (base:=base) (gl:=gl) (sl:=sl) (v:=.slice A L.length c) (w:=w) I;clear hi I Q;go_enter func96,ntmps96
  go_wp2_with fail
  refine B.mono ?_;rintro e F ⟨rfl,D⟩;go_wp2;go_ret;exact M.out _ D
 .rw [hi] at B
  obtain⟨m,O⟩:∃m,L.length=i+1+m:=⟨L.length-(i+1),by omega⟩;have E:=eA fun F (h:eF w F)=>delStr_any L i m base (.slice A L.length c) F O (by rw[<-O];exact af C h eH) (by omega) T
  have U:=jR (enc:=al) (k:=1) (e:=9) (base:=base) R I J K O S b G H;have j:¬((i:Int)<0):=by omega
  have l:IntKind.i64.wrap ((i:Int)+1)=(i:Int)+1:=by rw[IntKind.wrap_i64];omega
  clear hi I Q J K O H T;go_enter func96,ntmps96
  go_wp2_with fail
  refine B.mono ?_;rintro e F ⟨rfl,D⟩;have n:=(D.cell (p:=⟨gl,sl,none⟩) G).trans S;go_wp2_with fail
  refine(E.out F D).mono ?_;rintro e o ⟨q,r,rfl,V,X,Y⟩;obtain⟨⟨s,t⟩,N⟩:=U.out F o q r D V X Y;clear V X Y E U;go_wp2;go_ret;exact N.out
def cnt{α:Type}(c:α->α->Int)(x:α)(L:List α):Nat:=(L.filter (fun y=>decide (c y x<0))).length
def ly{α:Type}(c:α->α->Int)(x:α)(L:List α):Bool:=(L[cnt c x L]?.map (fun y=>decide (c y x=0))).getD false
theorem tu{α:Type}{c:α->α->Int}{x:α}{L:List α}{k:Nat}(h:Led.j5 c x L k):k=cnt c x L:=by
 unfold cnt
 have e:L=L.take k++L.drop k:=(List.take_append_drop k L).symm
 have C:=h.lo
 have D:=h.hi
 have F:(L.take k).length=k:=by rw[List.length_take];exact Nat.min_eq_left h.le
 generalize L.take k=A at *
 generalize L.drop k=B at *
 rw[e,List.filter_append,di (t:=A) (fun z E=>decide_eq_true (C z E)),dD (t:=B) (fun z E=>decide_eq_false (by have:=D z E;omega)),List.append_nil,F]
theorem ic{α:Type}{c:α->α->Int}{x:α}{L:List α}:ly c x L=true↔∃A:cnt c x L<L.length,c L[cnt c x L] x=0:=by
 unfold ly
 by_cases h:cnt c x L<L.length
 .rw [List.getElem?_eq_getElem h]
  simp[h]
 .rw [List.getElem?_eq_none (by omega)]
  simp[h]
theorem mg{α:Type}{P:Program}{F:FuncId}{args:Array Value}{c:α->α->Int}{x:α}{L:List α}{w:World}(h:Calls P F args w (Found c x L w)) :
  Calls P F args w fun e w'=>e=.returned (.tuple #[.int .i64 (cnt c x L:Nat),.bool (ly c x L)])/\eF w w':=h.mono fun e w' ⟨k,f,h1,h2,h3,h4⟩=>by
 obtain rfl:=tu h2
 have A:f=ly c x L:=by rw[Bool.eq_iff_iff,h3,ic]
 exact⟨by rw[h1,A],h4⟩
theorem ev{α:Type}{c:α->α->Int}{x:α}{L:List α}(D:Cmp c)(E:aY c L):Led.j5 c x L (cnt c x L):=by
 have key:∀L:List α,aY c L->∃k,Led.j5 c x L k:=by
  intro L C;induction L with
  | nil=>exact⟨0,⟨eH,by simp,by simp⟩⟩
  | cons y L ih =>
   unfold aY at C;rw[List.pairwise_cons] at C;by_cases F:c y x<0
   .obtain⟨k,B⟩:=ih C.2
    refine⟨k+1,⟨by have:=B.le;simp;omega,?_,?_⟩⟩
    .intro z A
     rw[List.take_succ_cons] at A;rcases List.mem_cons.1 A with rfl|A
     .exact F
     .exact B.lo z A
    .intro z A
     rw[List.drop_succ_cons] at A;exact B.hi z A
   .refine⟨0,⟨Nat.zero_le _,by simp,?_⟩⟩
    intro z A;rw[List.drop_zero] at A;rcases List.mem_cons.1 A with rfl|A
    .omega
    .have:=pu D C.1 (x:=x) (by omega) z A
     omega
 obtain⟨k,B⟩:=key L E
 rw[<-tu B]
 exact B
theorem ins_at{α:Type}{c:α->α->Int}{x:α}{L:List α}(A:Cmp c)(B:aY c L)(C:Led.j5 c x L (cnt c x L))(h:ly c x L=true):ins c x L=L.set (cnt c x L) x:=by
 obtain⟨D,E⟩:=ic.1 h
 exact C.ins_set A B D E
theorem vd{α:Type}{c:α->α->Int}{x:α}{L:List α}(B:Cmp c)(C:aY c L)(A:Led.j5 c x L (cnt c x L))(h:ly c x L=false):ins c x L=L.take (cnt c x L)++x::L.drop (cnt c x L) :=
 A.ins_new (A.new_of B C (fun D E=>by have:=ic.2 ⟨D,E⟩;rw[h] at this;cases this))
def gy{α:Type}(enc:α->List Value)(k:Nat)(e:TypeId)(base gl sl:Nat)(v:Value)(r:Option (List α))(w:World)(x:Ending)(w':World):Prop:=match r with
 | some L'=>x=.returned (.int .i64 0)/\bK enc k e base gl sl v L' w w'
 | none=>x=.returned (.int .i64 6)/\eF w w'
theorem store_row{P:Program}{T:TypeId}{k:Nat}(hi:(P.info? T).map (·.size)=some k){w:World}{g o:Nat}{M Y:List Value}{t:TypeId}(E:Blk w g M t)(D:Y.length=k)(A:o+k<=M.length)(F:∀u∈Y,u.oneCell'=true) :
  (Instr.storeAt T (.pointer (some ⟨g,o,none⟩)) (.agg Y.toArray)).run P w=.ok () (w.setRow g (splice M o Y).toArray):=by
 have G:(Go.sizeOf T).run P w=.ok k w:=by
  cases C:P.info? T with
  | none=>simp[C] at hi
  | some i =>
   have:i.size=k:=by simpa [C] using hi
   simp[Go.sizeOf,typeInfo,C,this]
 have B:=run_storeCells_at P g o t Y 0 M.toArray w E (by simpa [D] using A) F
 simp only[Nat.add_zero] at B
 have H:(Value.agg Y.toArray).cells=Y.toArray:=rfl
 have I:Y.toArray.size=k:=by simpa using D
 simp only[Instr.storeAt,Instr.sureAddr,Sem.run_bind,Sem.run_pure,Result.andThen_ok,storeVar,G,H,I,ne_eq,not_true_eq_false,if_false,B]
 simp[splice]
theorem set_keep{α:Type}{l:List α}{k:Nat}{v:α}(h:l[k]?=some v):l.set k v=l:=by
 obtain⟨A,rfl⟩:=List.getElem?_eq_some_iff.1 h
 exact List.set_getElem_self A
theorem iw{w:World}{g k:Nat}{cs:List Value}{t:TypeId}{v:Value}(h:Blk w g cs t)(B:cs[k]?=some v):w.setCell ⟨g,k,none⟩ v=w:=by
 have C:(w.setCell ⟨g,k,none⟩ v).heap=w.heap:=by
  apply Array.ext_getElem?
  intro i;by_cases hi:i=g
  .subst hi
   have A:=h.set k v;rw[set_keep B] at A;unfold Blk at h A;rw[A,h]
  .exact heap_setCell_other w ⟨g,k,none⟩ i v hi
 have e:w.setCell ⟨g,k,none⟩ v={ w with heap:=(w.setCell ⟨g,k,none⟩ v).heap }:=rfl
 rw[e,C]
theorem qo{α:Type}{enc:α->List Value}{k:Nat}(B:∀x,(enc x).length=k){L:List α}{i:Nat}{x:α}{R:List Value}(hi:i<L.length):splice (ah enc L++R) (i*k) (enc x)=ah enc (L.set i x)++R:=by
 have e:L=L.take i++L[i]::L.drop (i+1):=by rw[<-List.drop_eq_getElem_cons hi,List.take_append_drop]
 have E:L.set i x=L.take i++x::L.drop (i+1):=by rw[List.set_eq_take_append_cons_drop,if_pos hi]
 have C:(ah enc (L.take i)).length=i*k:=by rw[aJ B,List.length_take,Nat.min_eq_left (by omega)]
 have F:=B L[i]
 rw[E]
 conv=>lhs;rw[e]
 rw[aT,bM,aT,bM]
 generalize ah enc (L.take i)=A at *
 generalize ah enc (L.drop (i+1))=D at *
 generalize enc L[i]=Y at *
 unfold splice
 rw[show i*k+(enc x).length=(A++Y).length by rw[List.length_append,B,C,F],<-C]
 simp only[List.append_assoc]
 rw[List.take_append_of_le_length eH,List.take_of_length_le eH,<-List.append_assoc A Y,List.drop_append_of_le_length eH,List.drop_of_length_le eH,List.nil_append]
section
variable {α:Type}{enc:α->List Value}{k:Nat}{e:TypeId}{base gl sl c most:Nat}{A:Option Addr}{L:List α}{x:α}{cf:α->α->Int}{w:World}
theorem uD(C:Cmp cf)(N:aY cf L)(H:ly cf x L=false)(I:L.length+1<=most)(J:(Value.slice A L.length c).ownBlock≠some gl)(K:gl<w.heap.size)(Q:w.cell? ⟨gl,sl,none⟩=some (.slice A L.length c))(R:w.frozen? ⟨gl,sl,none⟩=false) :
  Hid (∀G B D E,eF w G->B.ownsRow base e k (.slice D (L.length+1) E) (L.length+1) (ah enc (L.take (cnt cf x L)++x::L.drop (cnt cf x L)))->G.grownBy B (Value.slice A L.length c).ownBlock->((Value.slice D (L.length+1) E).ownBlock=(Value.slice A L.length c).ownBlock\/∃g,G.heap.size<=g/\(Value.slice D (L.length+1) E).ownBlock=some g) ->
   (B.cell? ⟨gl,sl,none⟩=some (.slice A L.length c)/\B.frozen? ⟨gl,sl,none⟩=false)/\Hid (gy enc k e base gl sl (.slice A L.length c) (put cf most x L) w (.returned (.int .i64 0)) (B.setCell ⟨gl,sl,none⟩ (.slice D (L.length+1) E)))):=eA fun G B D E M S O T=>⟨rV M O J K Q R,eA (by
 have F:=ev (x:=x) C N
 have U:=F.le
 have V:(L.take (cnt cf x L)++x::L.drop (cnt cf x L)).length=L.length+1:=by rw[List.length_append,List.length_cons,List.length_take,List.length_drop];omega
 have X:put cf most x L=some (L.take (cnt cf x L)++x::L.drop (cnt cf x L)):=by unfold put;rw[vd C N F H,if_pos (by omega)]
 rw[X]
 exact⟨rfl,_,B,rfl,dC M O,by rw[V];exact S,T.imp id (fun ⟨g,hg,e⟩=>⟨g,Nat.le_trans M.size hg,e⟩)⟩)⟩
theorem qG(B:Cmp cf)(F:aY cf L)(D:ly cf x L=false)(E:¬L.length+1<=most):Hid (∀w',eF w w'->gy enc k e base gl sl (.slice A L.length c) (put cf most x L) w (.returned (.int .i64 6)) w'):=eA fun w' h=>by
 have C:=ev (x:=x) B F
 have G:=C.le
 have H:put cf most x L=none:=by unfold put;rw[vd B F C D,List.length_append,List.length_cons,List.length_take,List.length_drop,if_neg (by omega)]
 rw[H]
 exact⟨rfl,h⟩
theorem uC{T Z:TypeId}{W:World}{g:Nat}{M cs:List Value}(hi:(prog.info? T).map (·.size)=some k)(I:∀x,(enc x).length=k)(C:Cmp cf)(b:aY cf L)(D:ly cf x L=true)(j:L.length<=most)(E:eF w W)(J:base<=g)(l:Blk W g M e)(K:L.length<=c)(N:c<=maxLen)(d:M.length=c*k)(O:M.take (L.length*k)=ah enc L)(Q:Blk w gl cs Z)(R:cs[sl]?=some (.slice (some ⟨g,0,none⟩) L.length c))(S:gl≠g)(U:∀u∈enc x,u.oneCell'=true) :
  cnt cf x L<L.length/\Hid (∀B,eF W B->∃f,(Instr.storeAt T (.pointer (some ⟨g,cnt cf x L*k,none⟩)) (.agg (enc x).toArray)).run prog B=.ok () f/\Hid (gy enc k e base gl sl (.slice (some ⟨g,0,none⟩) L.length c) (put cf most x L) w (.returned (.int .i64 0)) f)):=by
 obtain⟨F,_⟩:=ic.1 D
 refine⟨F,eA fun B h=>?_⟩
 have V:=ev (x:=x) C b
 have m:put cf most x L=some (L.set (cnt cf x L) x):=by unfold put;rw[ins_at C b V D,List.length_set,if_pos j]
 have G:=l.below h
 have H:eF w B:=E.trans (h.mono E.size)
 have A:cnt cf x L*k+k<=M.length:=by
  rw[d,<-Nat.succ_mul];exact Nat.mul_le_mul_right _ (by omega)
 refine⟨_,store_row hi G (I x) A U,eA ?_⟩
 have X:Blk (B.setRow g (splice M (cnt cf x L*k) (enc x)).toArray) gl cs Z:=by
  unfold Blk;rw[setRow_other _ g gl _ S];exact Q.below H
 have Y:splice M (cnt cf x L*k) (enc x)=ah enc (L.set (cnt cf x L) x)++M.drop (L.length*k):=by
  have e:M=ah enc L++M.drop (L.length*k):=by rw[<-O,List.take_append_drop]
  conv=>lhs;rw[e]
  exact qo I F
 have i:(ah enc (L.set (cnt cf x L) x)).length=L.length*k:=by rw[aJ I,List.length_set]
 rw[m]
 exact⟨rfl,.slice (some ⟨g,0,none⟩) L.length c,B.setRow g (splice M (cnt cf x L*k) (enc x)).toArray,(iw X R).symm,dC H (cZ (fD _ _)),by
  rw[List.length_set];refine dG J G.setRow K N (by rw[length_splice _ _ _ (by rw[I];exact A),d]) ?_
  rw[Y,List.take_append_of_le_length (by rw[i];exact eH),List.take_of_length_le (by rw[i];exact eH)],.inl rfl⟩
end
theorem putEnt_any(gl sl:Nat)(g:Nat)(eg:∀args w,(callFunc g args).run prog w=.ok (.enter g args) w)(cf:Led.Entry × Value->Led.Entry × Value->Int)(H:Cmp cf)(x:Led.Entry × Value)(L:List (Led.Entry × Value))(s:aY cf L)(base:Nat)(v:Value)(most:Nat)(w:World)(hn:L.length<=most)(Ai:most<=900)
  (cs:List Value) (tl:TypeId) (Q:Blk w gl cs tl) (t:cs[sl]?=some v) (T:w.ownsRow base 36 5 v L.length (ah ag L)) (b:v.ownBlock≠some gl) (d:base<=w.heap.size) (h1:∀y∈L,∀u∈ag y,u.oneCell'=true) (f:∀u∈ag x,u.oneCell'=true)
  (hp:∀(W:World) (y:Led.Entry × Value),y∈L->eF w W->Calls prog g (#[.agg (ag y).toArray,.agg (ag x).toArray]) W fun e w'=>e=.returned (.int .i64 (cf y x))/\eF W w') :
  Calls prog 80 #[.pointer (some ⟨gl,sl,none⟩),.agg (ag x).toArray,.int .i64 most,.func (.func g) #[] #[]] w (gy ag 5 36 base gl sl v (put cf most x L) w):=by
 have hc:=(Q.cell sl).trans t
 have hf:=Q.froz sl
 have i:=Q.lt
 obtain⟨A,c,rfl,Ap,Aq⟩:=aj T
 have z:=ev (x:=x) H s
 obtain⟨W,hW⟩:=eC (w.alloc (.cells (ag x).toArray 36))
 have b0:Blk W w.heap.size (ag x) 36:=by rw[<-hW];exact Blk.new w _ _
 have C:eF w W:=eG hW
 have B:gl<W.heap.size:=Nat.lt_of_lt_of_le i C.size
 have R:=(C.cell (p:=⟨gl,sl,none⟩) i).trans hc
 have F:=af T C eH
 have r:∀p,(ab W p).cell? ⟨gl,sl,none⟩=some (.slice A L.length c):=fun p=>(ap B p).trans R
 have j:∀p,(gz (.pointer (some ⟨w.heap.size,0,none⟩))).run prog (ab W p)=.ok (.agg (ag x).toArray) (ab W p):=fun p=>eT (b0.below (aa W p)) rfl
 have l:Hid (∀p,Calls prog 132 #[.slice A L.length c,.agg (ag x).toArray,.func (.func g) #[] #[]] (ab W p) fun e w'=>e=.returned (.tuple #[.int .i64 (cnt cf x L:Nat),.bool (ly cf x L)])/\Below (ab W p).heap.size (ab W p) w'):=eA fun p =>
  mg (bsEnt_any g eg cf H x A L.length c L s (ab W p) (Vs.of_own (af F (aa W p) eH)) (by omega) (fun W' y hy hb=>hp W' y hy (C.trans ((((aa W p).trans (hb.mono (aa W p).size))).mono C.size))))
 have HW:=eA hW
 clear hW hp
 obtain⟨Y,hY⟩:=eC ((ag x).toArray)
 have S:Hid (w.alloc (.cells Y 36)=W):=eA (by rw[<-hY];exact HW.out)
 have Aj:=eA z.le
 have HY:=eA hY
 rw[hY] at j l ⊢
 clear hY HW z
 cases G:ly cf x L
 .have I:=eA (fun (h:L.length+1<=most)=>uD (enc:=ag) (k:=5) (e:=36) (base:=base) H s G h b i hc hf)
  have D:=eA (fun (h:¬L.length+1<=most)=>qG (enc:=ag) (k:=5) (e:=36) (base:=base) (gl:=gl) (sl:=sl) (c:=c) (A:=A) (w:=w) H s G h);rw[G] at l;generalize cnt cf x L=K at *;clear hf hc;go_enter func80,ntmps80
  go_upto_region 1 with fail
  rw[S.out];clear S;go_wp2_with fail
  refine au ?_;repeat (go_big_quiet_step (first|(go_at_call 132;exact aq (l.out _))|fail))
  refine wpQuiet_nil ?_;rintro _ ⟨px,rfl⟩;have g1:=aa W px;clear r j l;generalize ab W px=E at *;have m:eF w E:=C.trans (g1.mono C.size);have o:=(g1.cell (p:=⟨gl,sl,none⟩) B).trans R;by_cases J:L.length+1<=most
  .have HN:=I.out J
   have Ak:¬(most:Int)<=(L.length:Int):=by omega
   have N:=af F g1 eH;have O:gl<E.heap.size:=Nat.lt_of_lt_of_le B g1.size;have r:∀p,(ab E p).cell? ⟨gl,sl,none⟩=some (.slice A L.length c):=fun p=>(ap O p).trans o;have j:∀p,(gz (.pointer (some ⟨w.heap.size,0,none⟩))).run prog (ab E p)=.ok (.agg #[.int .i64 x.1.n,.string (str x.1.path),.string (str x.1.parent),.int .i64 x.1.ttl,x.2]) (ab E p):=fun p=>eT ((b0.below g1).below (aa E p)) rfl;clear I D;go_upto_region 2 with fail
   refine bq [0] [1,2,3,4,5] 6 [7,8,9] (ag x) 36 ?_;simp only[pick,List.getD_cons_zero,List.getD_cons_succ];repeat (go_big_quiet_step (fail))
   refine wpQuiet_nil ?_;repeat (go_big_quiet_step (fail))
   refine wpQuiet_nil ?_;refine⟨_,rfl,rfl,fun w2 Al=>?_,fun gx w6 Aa Am Ab=>?_⟩
   .go_simp
    exact eR Al
   .have Ac:=Aa.below
    have U:=af N Ac eH;have V:eF w w6:=m.trans (Ac.mono m.size);have q:=insEnt_any L x L.length K base (.slice A L.length c) gx w6 rfl U Ab (fun e=>by have:=(N.lt gx e).2;omega) Aj.out (by omega) (Nat.le_trans d V.size) h1 f
    have Ad:=eA (fun w7 A' c'=>HN.out w6 w7 A' c' V);clear r j b h1 f N F U Ab Aa Am HN;go_wp2_with fail
    refine q.mono ?_;rintro e w7 ⟨A',c',rfl,h2,h3,h4⟩;obtain⟨⟨Ar,As⟩,Ae⟩:=Ad.out w7 A' c' h2 h3 h4;clear h2 h3 h4 Ad;go_wp2;rw[ak];go_wp2;go_ret;exact Ae.out
  .have Af:=D.out J
   have Ak:(most:Int)<=(L.length:Int):=by omega
   clear I D;go_wp2_with fail
   go_ret;exact Af.out _ m
 .rw [G] at l
  rcases aS F with⟨_,h0,_⟩|⟨g,c',M,he,An,Au,hB,Ag,Ah,hM,Ao⟩
  .have:=(ic.1 G).1
   omega
  injection he with he1 _ he3
  subst he1 he3;obtain⟨Av,X⟩:=uC (most:=most) lT bf H s G hn C An hB Ag Ah hM Ao Q t (fun e=>b (by simp[Value.ownBlock,e])) f;generalize cnt cf x L=K at *;clear hf hc;go_enter func80,ntmps80
  go_upto_region 1 with fail
  rw[S.out];clear S;go_wp2_with fail
  refine au ?_;repeat (go_big_quiet_step (first|(go_at_call 132;exact aq (l.out _))|fail))
  refine wpQuiet_nil ?_;rintro _ ⟨px,rfl⟩;have g1:=aa W px;clear r j l;generalize ab W px=E at *;have o:=(g1.cell (p:=⟨gl,sl,none⟩) B).trans R;have O:gl<E.heap.size:=Nat.lt_of_lt_of_le B g1.size;have Aw:(K:Int)<(L.length:Int):=by omega
  have r:∀p,(ab E p).cell? ⟨gl,sl,none⟩=some (.slice (some ⟨g,0,none⟩) L.length c):=fun p=>(ap O p).trans o;have j:∀p,(gz (.pointer (some ⟨w.heap.size,0,none⟩))).run prog (ab E p)=.ok (.agg (ag x).toArray) (ab E p):=fun p=>eT ((b0.below g1).below (aa E p)) rfl;go_wp2_with fail
  refine bz 6 ?_;simp only[List.take_succ_cons,List.take_zero,List.drop_succ_cons,List.drop_zero];repeat (go_big_quiet_step (fail))
  refine wpQuiet_nil ?_;rintro _ ⟨py,rfl⟩;have g2:eF W (ab E py):=g1.trans ((aa E py).mono g1.size);clear r j;generalize ab E py=w2 at *;obtain⟨w3,Z,HR⟩:=X.out w2 g2;have Ax:(stEnt (.pointer (some ⟨g,K*5,none⟩)) (.agg (ag x).toArray)).run prog w2=.ok () w3:=Z;have Ay:=(g2.cell (p:=⟨gl,sl,none⟩) B).trans R;clear Z X;go_wp2_with fail
  go_ret;exact HR.out
theorem putNod_any(gl sl:Nat)(g:Nat)(eg:∀args w,(callFunc g args).run prog w=.ok (.enter g args) w)(cf:Led.Node->Led.Node->Int)(H:Cmp cf)(x:Led.Node)(L:List (Led.Node))(r:aY cf L)(base:Nat)(v:Value)(most:Nat)(w:World)(hn:L.length<=most)(Ai:most<=900)
  (cs:List Value) (tl:TypeId) (Q:Blk w gl cs tl) (s:cs[sl]?=some v) (T:w.ownsRow base 40 5 v L.length (ah ae L)) (b:v.ownBlock≠some gl) (d:base<=w.heap.size) (h1:∀y∈L,∀u∈ae y,u.oneCell'=true) (f:∀u∈ae x,u.oneCell'=true)
  (hp:∀(W:World) (y:Led.Node),y∈L->eF w W->Calls prog g (#[.agg (ae y).toArray,.agg (ae x).toArray]) W fun e w'=>e=.returned (.int .i64 (cf y x))/\eF W w') :
  Calls prog 91 #[.pointer (some ⟨gl,sl,none⟩),.agg (ae x).toArray,.int .i64 most,.func (.func g) #[] #[]] w (gy ae 5 40 base gl sl v (put cf most x L) w):=by
 have hc:=(Q.cell sl).trans s
 have hf:=Q.froz sl
 have i:=Q.lt
 obtain⟨A,c,rfl,Ap,Aq⟩:=aj T
 have t:=ev (x:=x) H r
 obtain⟨W,hW⟩:=eC (w.alloc (.cells (ae x).toArray 40))
 have b0:Blk W w.heap.size (ae x) 40:=by rw[<-hW];exact Blk.new w _ _
 have C:eF w W:=eG hW
 have B:gl<W.heap.size:=Nat.lt_of_lt_of_le i C.size
 have R:=(C.cell (p:=⟨gl,sl,none⟩) i).trans hc
 have F:=af T C eH
 have q:∀p,(ab W p).cell? ⟨gl,sl,none⟩=some (.slice A L.length c):=fun p=>(ap B p).trans R
 have j:∀p,(fI (.pointer (some ⟨w.heap.size,0,none⟩))).run prog (ab W p)=.ok (.agg (ae x).toArray) (ab W p):=fun p=>dS (b0.below (aa W p)) rfl
 have l:Hid (∀p,Calls prog 137 #[.slice A L.length c,.agg (ae x).toArray,.func (.func g) #[] #[]] (ab W p) fun e w'=>e=.returned (.tuple #[.int .i64 (cnt cf x L:Nat),.bool (ly cf x L)])/\Below (ab W p).heap.size (ab W p) w'):=eA fun p =>
  mg (bsNod_any g eg cf H x A L.length c L r (ab W p) (Vs.of_own (af F (aa W p) eH)) (by omega) (fun W' y hy hb=>hp W' y hy (C.trans ((((aa W p).trans (hb.mono (aa W p).size))).mono C.size))))
 have HW:=eA hW
 clear hW hp
 obtain⟨Y,hY⟩:=eC ((ae x).toArray)
 have S:Hid (w.alloc (.cells Y 40)=W):=eA (by rw[<-hY];exact HW.out)
 have Aj:=eA t.le
 have HY:=eA hY
 rw[hY] at j l ⊢
 clear hY HW t
 cases G:ly cf x L
 .have I:=eA (fun (h:L.length+1<=most)=>uD (enc:=ae) (k:=5) (e:=40) (base:=base) H r G h b i hc hf)
  have D:=eA (fun (h:¬L.length+1<=most)=>qG (enc:=ae) (k:=5) (e:=40) (base:=base) (gl:=gl) (sl:=sl) (c:=c) (A:=A) (w:=w) H r G h);rw[G] at l;generalize cnt cf x L=K at *;clear hf hc;go_enter func91,ntmps91
  go_upto_region 1 with fail
  rw[S.out];clear S;go_wp2_with fail
  refine au ?_;repeat (go_big_quiet_step (first|(go_at_call 137;exact aq (l.out _))|fail))
  refine wpQuiet_nil ?_;rintro _ ⟨z,rfl⟩;have g1:=aa W z;clear q j l;generalize ab W z=E at *;have m:eF w E:=C.trans (g1.mono C.size);have n:=(g1.cell (p:=⟨gl,sl,none⟩) B).trans R;by_cases J:L.length+1<=most
  .have HN:=I.out J
   have Ak:¬(most:Int)<=(L.length:Int):=by omega
   have N:=af F g1 eH;have O:gl<E.heap.size:=Nat.lt_of_lt_of_le B g1.size;have q:∀p,(ab E p).cell? ⟨gl,sl,none⟩=some (.slice A L.length c):=fun p=>(ap O p).trans n;have j:∀p,(fI (.pointer (some ⟨w.heap.size,0,none⟩))).run prog (ab E p)=.ok (.agg #[.string (str x.name),.string (str x.key),.int .i64 x.expires,.int .i64 x.seq,.string (str x.doc)]) (ab E p):=fun p=>dS ((b0.below g1).below (aa E p)) rfl;clear I D;go_upto_region 2 with fail
   refine bq [0] [1,2,3,4,5] 6 [7,8,9] (ae x) 40 ?_;simp only[pick,List.getD_cons_zero,List.getD_cons_succ];repeat (go_big_quiet_step (fail))
   refine wpQuiet_nil ?_;repeat (go_big_quiet_step (fail))
   refine wpQuiet_nil ?_;refine⟨_,rfl,rfl,fun w2 Al=>?_,fun gx w6 Aa Am Ab=>?_⟩
   .go_simp
    exact eR Al
   .have Ac:=Aa.below
    have U:=af N Ac eH;have V:eF w w6:=m.trans (Ac.mono m.size);have o:=insNod_any L x L.length K base (.slice A L.length c) gx w6 rfl U Ab (fun e=>by have:=(N.lt gx e).2;omega) Aj.out (by omega) (Nat.le_trans d V.size) h1 f
    have Ad:=eA (fun w7 A' c'=>HN.out w6 w7 A' c' V);clear q j b h1 f N F U Ab Aa Am HN;go_wp2_with fail
    refine o.mono ?_;rintro e w7 ⟨A',c',rfl,h2,h3,h4⟩;obtain⟨⟨Ar,As⟩,Ae⟩:=Ad.out w7 A' c' h2 h3 h4;clear h2 h3 h4 Ad;go_wp2;rw[ak];go_wp2;go_ret;exact Ae.out
  .have Af:=D.out J
   have Ak:(most:Int)<=(L.length:Int):=by omega
   clear I D;go_wp2_with fail
   go_ret;exact Af.out _ m
 .rw [G] at l
  rcases aS F with⟨_,h0,_⟩|⟨g,c',M,he,An,Au,hB,Ag,Ah,hM,Ao⟩
  .have:=(ic.1 G).1
   omega
  injection he with he1 _ he3
  subst he1 he3;obtain⟨Av,X⟩:=uC (most:=most) mQ aM H r G hn C An hB Ag Ah hM Ao Q s (fun e=>b (by simp[Value.ownBlock,e])) f;generalize cnt cf x L=K at *;clear hf hc;go_enter func91,ntmps91
  go_upto_region 1 with fail
  rw[S.out];clear S;go_wp2_with fail
  refine au ?_;repeat (go_big_quiet_step (first|(go_at_call 137;exact aq (l.out _))|fail))
  refine wpQuiet_nil ?_;rintro _ ⟨z,rfl⟩;have g1:=aa W z;clear q j l;generalize ab W z=E at *;have n:=(g1.cell (p:=⟨gl,sl,none⟩) B).trans R;have O:gl<E.heap.size:=Nat.lt_of_lt_of_le B g1.size;have Aw:(K:Int)<(L.length:Int):=by omega
  have q:∀p,(ab E p).cell? ⟨gl,sl,none⟩=some (.slice (some ⟨g,0,none⟩) L.length c):=fun p=>(ap O p).trans n;have j:∀p,(fI (.pointer (some ⟨w.heap.size,0,none⟩))).run prog (ab E p)=.ok (.agg (ae x).toArray) (ab E p):=fun p=>dS ((b0.below g1).below (aa E p)) rfl;go_wp2_with fail
  refine bz 6 ?_;simp only[List.take_succ_cons,List.take_zero,List.drop_succ_cons,List.drop_zero];repeat (go_big_quiet_step (fail))
  refine wpQuiet_nil ?_;rintro _ ⟨py,rfl⟩;have g2:eF W (ab E py):=g1.trans ((aa E py).mono g1.size);clear q j;generalize ab E py=w2 at *;obtain⟨w3,Z,HR⟩:=X.out w2 g2;have Ax:(stNod (.pointer (some ⟨g,K*5,none⟩)) (.agg (ae x).toArray)).run prog w2=.ok () w3:=Z;have Ay:=(g2.cell (p:=⟨gl,sl,none⟩) B).trans R;clear Z X;go_wp2_with fail
  go_ret;exact HR.out
theorem putBun_any(gl sl:Nat)(g:Nat)(eg:∀args w,(callFunc g args).run prog w=.ok (.enter g args) w)(cf:Led.Bundle × Value->Led.Bundle × Value->Int)(H:Cmp cf)(x:Led.Bundle × Value)(L:List (Led.Bundle × Value))(r:aY cf L)(base:Nat)(v:Value)(most:Nat)(w:World)(hn:L.length<=most)(Ai:most<=900)
  (cs:List Value) (tl:TypeId) (Q:Blk w gl cs tl) (s:cs[sl]?=some v) (T:w.ownsRow base 45 3 v L.length (ah ai L)) (b:v.ownBlock≠some gl) (d:base<=w.heap.size) (h1:∀y∈L,∀u∈ai y,u.oneCell'=true) (f:∀u∈ai x,u.oneCell'=true)
  (hp:∀(W:World) (y:Led.Bundle × Value),y∈L->eF w W->Calls prog g (#[.agg (ai y).toArray,.agg (ai x).toArray]) W fun e w'=>e=.returned (.int .i64 (cf y x))/\eF W w') :
  Calls prog 110 #[.pointer (some ⟨gl,sl,none⟩),.agg (ai x).toArray,.int .i64 most,.func (.func g) #[] #[]] w (gy ai 3 45 base gl sl v (put cf most x L) w):=by
 have hc:=(Q.cell sl).trans s
 have hf:=Q.froz sl
 have i:=Q.lt
 obtain⟨A,c,rfl,Ap,Aq⟩:=aj T
 have t:=ev (x:=x) H r
 obtain⟨W,hW⟩:=eC (w.alloc (.cells (ai x).toArray 45))
 have b0:Blk W w.heap.size (ai x) 45:=by rw[<-hW];exact Blk.new w _ _
 have C:eF w W:=eG hW
 have B:gl<W.heap.size:=Nat.lt_of_lt_of_le i C.size
 have R:=(C.cell (p:=⟨gl,sl,none⟩) i).trans hc
 have F:=af T C eH
 have q:∀p,(ab W p).cell? ⟨gl,sl,none⟩=some (.slice A L.length c):=fun p=>(ap B p).trans R
 have j:∀p,(fo (.pointer (some ⟨w.heap.size,0,none⟩))).run prog (ab W p)=.ok (.agg (ai x).toArray) (ab W p):=fun p=>cR (b0.below (aa W p)) rfl
 have l:Hid (∀p,Calls prog 151 #[.slice A L.length c,.agg (ai x).toArray,.func (.func g) #[] #[]] (ab W p) fun e w'=>e=.returned (.tuple #[.int .i64 (cnt cf x L:Nat),.bool (ly cf x L)])/\Below (ab W p).heap.size (ab W p) w'):=eA fun p =>
  mg (bsBun_any g eg cf H x A L.length c L r (ab W p) (Vs.of_own (af F (aa W p) eH)) (by omega) (fun W' y hy hb=>hp W' y hy (C.trans ((((aa W p).trans (hb.mono (aa W p).size))).mono C.size))))
 have HW:=eA hW
 clear hW hp
 obtain⟨Y,hY⟩:=eC ((ai x).toArray)
 have S:Hid (w.alloc (.cells Y 45)=W):=eA (by rw[<-hY];exact HW.out)
 have Aj:=eA t.le
 have HY:=eA hY
 rw[hY] at j l ⊢
 clear hY HW t
 cases G:ly cf x L
 .have I:=eA (fun (h:L.length+1<=most)=>uD (enc:=ai) (k:=3) (e:=45) (base:=base) H r G h b i hc hf)
  have D:=eA (fun (h:¬L.length+1<=most)=>qG (enc:=ai) (k:=3) (e:=45) (base:=base) (gl:=gl) (sl:=sl) (c:=c) (A:=A) (w:=w) H r G h);rw[G] at l;generalize cnt cf x L=K at *;clear hf hc;go_enter func110,ntmps110
  go_upto_region 1 with fail
  rw[S.out];clear S;go_wp2_with fail
  refine au ?_;repeat (go_big_quiet_step (first|(go_at_call 151;exact aq (l.out _))|fail))
  refine wpQuiet_nil ?_;rintro _ ⟨z,rfl⟩;have g1:=aa W z;clear q j l;generalize ab W z=E at *;have m:eF w E:=C.trans (g1.mono C.size);have n:=(g1.cell (p:=⟨gl,sl,none⟩) B).trans R;by_cases J:L.length+1<=most
  .have HN:=I.out J
   have Ak:¬(most:Int)<=(L.length:Int):=by omega
   have N:=af F g1 eH;have O:gl<E.heap.size:=Nat.lt_of_lt_of_le B g1.size;have q:∀p,(ab E p).cell? ⟨gl,sl,none⟩=some (.slice A L.length c):=fun p=>(ap O p).trans n;have j:∀p,(fo (.pointer (some ⟨w.heap.size,0,none⟩))).run prog (ab E p)=.ok (.agg #[.string (str x.1.domain),.int .i64 x.1.number,x.2]) (ab E p):=fun p=>cR ((b0.below g1).below (aa E p)) rfl;clear I D;go_upto_region 2 with fail
   refine bq [0] [1,2,3,4,5] 6 [7,8,9] (ai x) 45 ?_;simp only[pick,List.getD_cons_zero,List.getD_cons_succ];repeat (go_big_quiet_step (fail))
   refine wpQuiet_nil ?_;repeat (go_big_quiet_step (fail))
   refine wpQuiet_nil ?_;refine⟨_,rfl,rfl,fun w2 Al=>?_,fun gx w6 Aa Am Ab=>?_⟩
   .go_simp
    exact eR Al
   .have Ac:=Aa.below
    have U:=af N Ac eH;have V:eF w w6:=m.trans (Ac.mono m.size);have o:=insBun_any L x L.length K base (.slice A L.length c) gx w6 rfl U Ab (fun e=>by have:=(N.lt gx e).2;omega) Aj.out (by omega) (Nat.le_trans d V.size) h1 f
    have Ad:=eA (fun w7 A' c'=>HN.out w6 w7 A' c' V);clear q j b h1 f N F U Ab Aa Am HN;go_wp2_with fail
    refine o.mono ?_;rintro e w7 ⟨A',c',rfl,h2,h3,h4⟩;obtain⟨⟨Ar,As⟩,Ae⟩:=Ad.out w7 A' c' h2 h3 h4;clear h2 h3 h4 Ad;go_wp2;rw[ak];go_wp2;go_ret;exact Ae.out
  .have Af:=D.out J
   have Ak:(most:Int)<=(L.length:Int):=by omega
   clear I D;go_wp2_with fail
   go_ret;exact Af.out _ m
 .rw [G] at l
  rcases aS F with⟨_,h0,_⟩|⟨g,c',M,he,An,Au,hB,Ag,Ah,hM,Ao⟩
  .have:=(ic.1 G).1
   omega
  injection he with he1 _ he3
  subst he1 he3;obtain⟨Av,X⟩:=uC (most:=most) pK aQ H r G hn C An hB Ag Ah hM Ao Q s (fun e=>b (by simp[Value.ownBlock,e])) f;generalize cnt cf x L=K at *;clear hf hc;go_enter func110,ntmps110
  go_upto_region 1 with fail
  rw[S.out];clear S;go_wp2_with fail
  refine au ?_;repeat (go_big_quiet_step (first|(go_at_call 151;exact aq (l.out _))|fail))
  refine wpQuiet_nil ?_;rintro _ ⟨z,rfl⟩;have g1:=aa W z;clear q j l;generalize ab W z=E at *;have n:=(g1.cell (p:=⟨gl,sl,none⟩) B).trans R;have O:gl<E.heap.size:=Nat.lt_of_lt_of_le B g1.size;have Aw:(K:Int)<(L.length:Int):=by omega
  have q:∀p,(ab E p).cell? ⟨gl,sl,none⟩=some (.slice (some ⟨g,0,none⟩) L.length c):=fun p=>(ap O p).trans n;have j:∀p,(fo (.pointer (some ⟨w.heap.size,0,none⟩))).run prog (ab E p)=.ok (.agg (ai x).toArray) (ab E p):=fun p=>cR ((b0.below g1).below (aa E p)) rfl;go_wp2_with fail
  refine bz 6 ?_;simp only[List.take_succ_cons,List.take_zero,List.drop_succ_cons,List.drop_zero];repeat (go_big_quiet_step (fail))
  refine wpQuiet_nil ?_;rintro _ ⟨py,rfl⟩;have g2:eF W (ab E py):=g1.trans ((aa E py).mono g1.size);clear q j;generalize ab E py=w2 at *;obtain⟨w3,Z,HR⟩:=X.out w2 g2;have Ax:(stBun (.pointer (some ⟨g,K*3,none⟩)) (.agg (ai x).toArray)).run prog w2=.ok () w3:=Z;have Ay:=(g2.cell (p:=⟨gl,sl,none⟩) B).trans R;clear Z X;go_wp2_with fail
  go_ret;exact HR.out
end
section
open Go.RowKit Mem Led
theorem gB(s:Txt):∀u∈al s,u.oneCell'=true:=by
 intro u A
 simp[al,tx] at A
 subst A
 rfl
theorem putStr_any(gl sl:Nat)(x:Txt)(L:List Txt)(hr:aY ord L)(base:Nat)(v:Value)(most:Nat)(w:World)(hn:L.length<=most)(Ag:most<=900)
  (cs:List Value) (tl:TypeId) (V:Blk w gl cs tl) (o:cs[sl]?=some v) (I:w.ownsRow base 9 1 v L.length (ah al L)) (i:v.ownBlock≠some gl) (j:base<=w.heap.size) :
  Calls prog 95 #[.pointer (some ⟨gl,sl,none⟩),.string (str x),.int .i64 most,.func (.func 93) #[] #[]] w (gy al 1 9 base gl sl v (put ord most x L) w):=by
 have hc:=(V.cell sl).trans o
 have hf:=V.froz sl
 have N:=V.lt
 obtain⟨A,c,rfl,Ah,Av⟩:=aj I
 have X:=ev (x:=x) ord_cmp' hr
 have O:=mg (bsStr_any x A L.length c L hr w (nX I) (by omega))
 have k:=eA (fun h=>ins_at (x:=x) ord_cmp' hr X h)
 have Q:=eA (fun h=>vd (x:=x) ord_cmp' hr X h)
 have l:=eA X.le
 have H:=eA (fun h=>ic.1 (show ly ord x L=true from h))
 clear X
 obtain⟨K,hK⟩:=eC (cnt ord x L)
 rw[hK] at O k Q l H
 go_enter func95,ntmps95
 cases S:ly ord x L
 .rw [S] at O
  have F:ins ord x L=L.take K++x::L.drop K:=Q.out S;have q:(ins ord x L).length=L.length+1:=by rw[F,List.length_append,List.length_cons,List.length_take,List.length_drop];have:=l.out;omega
  have G:=eA F;have Ai:=l.out;go_wp2_with fail
  refine O.mono ?_;rintro e D ⟨rfl,E⟩;have Aj:=(E.cell (p:=⟨gl,sl,none⟩) N).trans hc;by_cases Ak:L.length+1<=most
  .have B:Hid (∀x' w',x'=.returned (.int .i64 0)->bK al 1 9 base gl sl (.slice A L.length c) (L.take K++x::L.drop K) w w'->gy al 1 9 base gl sl (.slice A L.length c) (put ord most x L) w x' w'):=eA (fun x' w' h h'=>by
    have:put ord most x L=some (L.take K++x::L.drop K):=by unfold put;rw[if_pos (by omega),G.out]
    rw[this];exact⟨h,h'⟩)
   have Al:¬(most:Int)<=(L.length:Int):=by omega
   have T:=af I E eH;have b:=World.ownsRow.alloc T (.cells #[.string (str x)] 9);have r:Blk (D.alloc (.cells #[.string (str x)] 9)) D.heap.size (al x) 9:=Blk.new D (al x) _;have d:(Value.slice A L.length c).ownBlock≠some D.heap.size:=fun e=>by have:=(T.lt _ e).2;omega
   have s:eF D (D.alloc (.cells #[.string (str x)] 9)):=eI;have C:eF w (D.alloc (.cells #[.string (str x)] 9)):=E.trans (s.mono E.size);have m:=insStr_any L x L.length K base (.slice A L.length c) D.heap.size _ rfl b r d Ai (by omega) (Nat.le_trans j C.size) (fun y _=>gB y) (gB x);have Am:=(C.cell (p:=⟨gl,sl,none⟩) N).trans hc;have An:=(C.frozen (p:=⟨gl,sl,none⟩) N).trans hf;have Ao:=eA i;have U:Hid (∀Y n f,Y.ownsRow base 9 1 (.slice n (L.length+1) f) (L.length+1) (ah al (L.take K++x::L.drop K))->(D.alloc (.cells #[.string (str x)] 9)).grownBy Y (Value.slice A L.length c).ownBlock->((Value.slice n (L.length+1) f).ownBlock=(Value.slice A L.length c).ownBlock\/∃g,(D.alloc (.cells #[.string (str x)] 9)).heap.size<=g/\(Value.slice n (L.length+1) f).ownBlock=some g) ->
     gy al 1 9 base gl sl (.slice A L.length c) (put ord most x L) w (.returned (.int .i64 0)) (Y.setCell ⟨gl,sl,none⟩ (.slice n (L.length+1) f))):=eA (fun Y n f h2 t h4=>B.out _ _ rfl ⟨_,Y,rfl,dC C t,by
      have:(L.take K++x::L.drop K).length=L.length+1:=by rw[List.length_append,List.length_cons,List.length_take,List.length_drop];omega
      rw[this];exact h2,h4.imp id (fun ⟨g,hg,e⟩=>⟨g,Nat.le_trans C.size hg,e⟩)⟩)
   have u:gl<(D.alloc (.cells #[.string (str x)] 9)).heap.size:=Nat.lt_of_lt_of_le N C.size;clear i T b r d G q F k Q H s C B;go_wp2_with fail
   refine m.mono ?_;rintro e Y ⟨n,f,rfl,h2,t,h4⟩;have z:=t.block gl u (fun e=>Ao.out e.symm);have Aw:Y.cell? ⟨gl,sl,none⟩=some (.slice A L.length c):=(World.cell?_of_block (a:=⟨gl,sl,none⟩) z).trans Am;have Ax:Y.frozen? ⟨gl,sl,none⟩=false:=(World.frozen?_of_block (a:=⟨gl,sl,none⟩) z).trans An;have J:=eA (U.out Y n f h2 t h4);clear h2 t h4 U;go_wp2;go_ret;exact J.out
  .have B:Hid (∀w',eF w w'->gy al 1 9 base gl sl (.slice A L.length c) (put ord most x L) w (.returned (.int .i64 6)) w'):=eA (fun w' h=>by
    have:put ord most x L=none:=by unfold put;rw[if_neg (by omega)]
    rw[this];exact⟨rfl,h⟩)
   have Al:(most:Int)<=(L.length:Int):=by omega
   go_wp2_with fail
   go_ret;exact B.out _ E
 .rw [S] at O
  have F:ins ord x L=L.set K x:=k.out S;obtain⟨Ap,_⟩:=H.out S;have G:=eA F;have B:Hid (∀x' w',x'=.returned (.int .i64 0)->bK al 1 9 base gl sl (.slice A L.length c) (L.set K x) w w'->gy al 1 9 base gl sl (.slice A L.length c) (put ord most x L) w x' w'):=eA (fun x' w' h h'=>by
   have:put ord most x L=some (L.set K x):=by unfold put;rw[if_pos (by rw[G.out,List.length_set];exact hn),G.out]
   rw[this];exact⟨h,h'⟩)
  rcases aS I with⟨_,h0,_⟩|⟨g,f,M,he,Aq,Ay,hB,Au,Aa,hM,Ar⟩
  .omega
  injection he with he1 _ he3
  subst he1 he3;go_wp2_with fail
  refine O.mono ?_;rintro e D ⟨rfl,E⟩;have Aj:=(E.cell (p:=⟨gl,sl,none⟩) N).trans hc;have Az:(K:Int)<(L.length:Int):=by omega
  have Z:=hB.below E;have Ab:K<M.length:=by omega
  have A0:D.cell? ⟨g,K,none⟩=some M[K]:=by rw[Z.cell K,List.getElem?_eq_getElem Ab]
  have A1:D.frozen? ⟨g,K,none⟩=false:=Z.froz K;have As:gl≠g:=fun e=>i (by simp[Value.ownBlock,e]);have Ac:Blk (D.setCell ⟨g,K,none⟩ (.string (str x))) gl cs tl:=(V.below E).set_ne (p:=⟨g,K,none⟩) As _;have Ad:Blk (D.setCell ⟨g,K,none⟩ (.string (str x))) g (M.set K (.string (str x))) 9:=Z.set K _;have Ae:D.grownBy (D.setCell ⟨g,K,none⟩ (.string (str x))) (some g):=by
   rw[setCell_eq_setRow D g K M.toArray _ (0,0) _ Z];exact cZ (fD _ _)
  have Af:M.set K (.string (str x))=ah al (L.set K x)++M.drop L.length:=by
   have e:M=ah al L++M.drop (L.length*1):=by rw[<-Ar,List.take_append_drop]
   have h:=qo gC (x:=x) (R:=M.drop (L.length*1)) Ap;rw[<-e,Nat.mul_one] at h;rw[Nat.mul_one] at h;rw[<-h];unfold splice;rw[List.set_eq_take_append_cons_drop,if_pos Ab];simp[al,tx]
  have J:=B.out _ (D.setCell ⟨g,K,none⟩ (.string (str x))) rfl ⟨.slice (some ⟨g,0,none⟩) L.length c,D.setCell ⟨g,K,none⟩ (.string (str x)),(iw Ac o).symm,dC E Ae,by
   rw[List.length_set];refine dG Aq Ad Ah Aa (by rw[List.length_set,hM]) ?_;rw[Af,List.take_append_of_le_length (by rw[aJ gC,List.length_set];exact eH),List.take_of_length_le (by rw[aJ gC,List.length_set];exact eH)],.inl rfl⟩
  have HR:=eA J;clear J Ac Af B Ad Ae;go_wp2_with fail
  go_ret;exact HR.out
end
section
open Go.RowKit Mem Led
theorem iI{α:Type}{enc:α->List Value}{k:Nat}{e:TypeId}{base gl sl:Nat}{v:Value}{L':List α}{w W w':World}(A:eF w W)(h:bK enc k e base gl sl v L' W w'):bK enc k e base gl sl v L' w w':=by
 obtain⟨B,C,D,E,F,G⟩:=h
 exact⟨B,C,D,dC A E,F,G.imp id fun ⟨g,hg,e⟩=>⟨g,Nat.le_trans A.size hg,e⟩⟩
theorem jT{α:Type}{enc:α->List Value}{k:Nat}{e:TypeId}{base gl sl:Nat}{v:Value}{L:List α}{p:α->Bool}{w W w':World}{x:Ending}(A:eF w W)(h:bL enc k e base gl sl v L p W x w'):bL enc k e base gl sl v L p w x w':=by
 unfold bL at h ⊢
 split
 .rename_i hp
  rw[if_pos hp] at h;exact⟨h.1,iI A h.2⟩
 .rename_i hp
  rw[if_neg hp] at h;exact⟨h.1,A.trans (h.2.mono A.size)⟩
theorem rF(x:Led.Entry × Value)(n:Int)(go:Nat)(W:World)(B:W.cell? ⟨go,1,none⟩=some (.int .i64 n)) :
  Calls prog 83 (#[.agg (ag x).toArray]++#[.pointer (some ⟨go,0,none⟩)]) W fun e w'=>e=.returned (.bool (x.1.n==n))/\eF W w':=by
 have A:=World.block_lt_of_cell? W _ B
 simp only[] at A
 have C:∀o,eF W (W.alloc o):=fun o=>eI
 show Calls prog 83 #[.agg #[.int .i64 x.1.n,.string (str x.1.path),.string (str x.1.parent),.int .i64 x.1.ttl,x.2],.pointer (some ⟨go,0,none⟩)] W _
 go_enter func83,ntmps83
 go_wp2_with fail
 go_ret
 exact⟨by first|rfl|simp,C _⟩
theorem sM(gl:Nat)(ops vs:List Value)(n:Int)(L:List (Led.Entry × Value))(base:Nat)(v:Value)(w:World)(Q:L.length<=1000)(C:ops[1]?=some (.int .i64 n))(G:Blk w gl vs 30)(H:vs[0]?=some v)(D:w.ownsRow base 36 5 v L.length (ah ag L))(I:v.ownBlock≠some gl)(R:∀y∈L,∀u∈ag y,u.oneCell'=true) :
  Calls prog 43 #[.pointer (some ⟨gl,0,none⟩),.agg ops.toArray] w (bL ag 5 36 base gl 0 v L (fun x=>x.1.n==n) w):=by
 obtain⟨W,F⟩:=eC (w.alloc (.cells ops.toArray 47))
 have S:Blk W w.heap.size ops 47:=by rw[<-F];exact Blk.new w _ _
 have A:eF w W:=eG F
 have J:=G.below A
 have N:=goneEnt_any gl 0 83 #[.pointer (some ⟨w.heap.size,0,none⟩)] (enters_of func83 (by kernel_rfl) rfl) (fun x=>x.1.n==n) L base v W Q ((J.cell 0).trans H) (J.froz 0) J.lt (af D A eH) I R (fun T x _ U=>rF x n w.heap.size T (((S.below U).cell 1).trans C))
 have K:=eA (N.mono fun _ _ h=>jT A h)
 have V:=eA F
 clear F N
 go_enter func43,ntmps43
 go_wp2_with fail
 rw[V.out]
 refine K.out.mono ?_
 intro e O h
 unfold bL at h
 by_cases B:L.any (fun x=>x.1.n==n)=true
 .rw [if_pos B] at h
  obtain⟨rfl,E⟩:=h;have M:Hid (bL ag 5 36 base gl 0 v L (fun x=>x.1.n==n) w (.returned (.int .i64 0)) O):=eA (by unfold bL;rw[if_pos B];exact⟨rfl,E⟩)
  clear B E K;go_wp2;go_ret;exact M.out
 .rw [if_neg B] at h
  obtain⟨rfl,E⟩:=h;have M:Hid (bL ag 5 36 base gl 0 v L (fun x=>x.1.n==n) w (.returned (.int .i64 7)) O):=eA (by unfold bL;rw[if_neg B];exact⟨rfl,E⟩)
  clear B E K;go_wp2;go_ret;exact M.out
theorem lift1_any(x:Txt)(n:Txt)(go:Nat)(W:World)(B:W.cell? ⟨go,2,none⟩=some (.string (str n))) :
  Calls prog 97 (#[.string (str x)]++#[.pointer (some ⟨go,0,none⟩)]) W fun e w'=>e=.returned (.bool (x==n))/\eF W w':=by
 have A:=World.block_lt_of_cell? W _ B
 simp only[] at A
 go_enter func97,ntmps97
 go_wp2_with fail
 go_ret
 exact⟨by first|rfl|simp,Below.refl _ _⟩
theorem lift_any(gl:Nat)(ops vs:List Value)(n:Txt)(L:List (Txt))(base:Nat)(v:Value)(w:World)(Q:L.length<=1000)(C:ops[2]?=some (.string (str n)))(G:Blk w gl vs 30)(H:vs[2]?=some v)(D:w.ownsRow base 9 1 v L.length (ah al L))(I:v.ownBlock≠some gl) :
  Calls prog 48 #[.pointer (some ⟨gl,0,none⟩),.agg ops.toArray] w (bL al 1 9 base gl 2 v L (fun x=>x==n) w):=by
 obtain⟨W,F⟩:=eC (w.alloc (.cells ops.toArray 47))
 have R:Blk W w.heap.size ops 47:=by rw[<-F];exact Blk.new w _ _
 have A:eF w W:=eG F
 have J:=G.below A
 have N:=goneStr_any gl 2 97 #[.pointer (some ⟨w.heap.size,0,none⟩)] (enters_of func97 (by kernel_rfl) rfl) (fun x=>x==n) L base v W Q ((J.cell 2).trans H) (J.froz 2) J.lt (af D A eH) I (fun y _=>gB y) (fun S x _ T=>lift1_any x n w.heap.size S (((R.below T).cell 2).trans C))
 have K:=eA (N.mono fun _ _ h=>jT A h)
 have U:=eA F
 clear F N
 go_enter func48,ntmps48
 go_wp2_with fail
 rw[U.out]
 refine K.out.mono ?_
 intro e O h
 unfold bL at h
 by_cases B:L.any (fun x=>x==n)=true
 .rw [if_pos B] at h
  obtain⟨rfl,E⟩:=h;have M:Hid (bL al 1 9 base gl 2 v L (fun x=>x==n) w (.returned (.int .i64 0)) O):=eA (by unfold bL;rw[if_pos B];exact⟨rfl,E⟩)
  clear B E K;go_wp2;go_ret;exact M.out
 .rw [if_neg B] at h
  obtain⟨rfl,E⟩:=h;have M:Hid (bL al 1 9 base gl 2 v L (fun x=>x==n) w (.returned (.int .i64 7)) O):=eA (by unfold bL;rw[if_neg B];exact⟨rfl,E⟩)
  clear B E K;go_wp2;go_ret;exact M.out
theorem evict1_any(x:Led.Node)(n:Txt)(go:Nat)(W:World)(B:W.cell? ⟨go,2,none⟩=some (.string (str n))) :
  Calls prog 99 (#[.agg (ae x).toArray]++#[.pointer (some ⟨go,0,none⟩)]) W fun e w'=>e=.returned (.bool (x.name==n))/\eF W w':=by
 have A:=World.block_lt_of_cell? W _ B
 simp only[] at A
 have C:∀o,eF W (W.alloc o):=fun o=>eI
 show Calls prog 99 #[.agg #[.string (str x.name),.string (str x.key),.int .i64 x.expires,.int .i64 x.seq,.string (str x.doc)],.pointer (some ⟨go,0,none⟩)] W _
 go_enter func99,ntmps99
 go_wp2_with fail
 go_ret
 exact⟨by first|rfl|simp,C _⟩
theorem tR(gl:Nat)(ops vs:List Value)(n:Txt)(L:List (Led.Node))(base:Nat)(v:Value)(w:World)(Q:L.length<=1000)(C:ops[2]?=some (.string (str n)))(G:Blk w gl vs 30)(H:vs[1]?=some v)(D:w.ownsRow base 40 5 v L.length (ah ae L))(I:v.ownBlock≠some gl)(R:∀y∈L,∀u∈ae y,u.oneCell'=true) :
  Calls prog 49 #[.pointer (some ⟨gl,0,none⟩),.agg ops.toArray] w (bL ae 5 40 base gl 1 v L (fun x=>x.name==n) w):=by
 obtain⟨W,F⟩:=eC (w.alloc (.cells ops.toArray 47))
 have S:Blk W w.heap.size ops 47:=by rw[<-F];exact Blk.new w _ _
 have A:eF w W:=eG F
 have J:=G.below A
 have N:=goneNod_any gl 1 99 #[.pointer (some ⟨w.heap.size,0,none⟩)] (enters_of func99 (by kernel_rfl) rfl) (fun x=>x.name==n) L base v W Q ((J.cell 1).trans H) (J.froz 1) J.lt (af D A eH) I R (fun T x _ U=>evict1_any x n w.heap.size T (((S.below U).cell 2).trans C))
 have K:=eA (N.mono fun _ _ h=>jT A h)
 have V:=eA F
 clear F N
 go_enter func49,ntmps49
 go_wp2_with fail
 rw[V.out]
 refine K.out.mono ?_
 intro e O h
 unfold bL at h
 by_cases B:L.any (fun x=>x.name==n)=true
 .rw [if_pos B] at h
  obtain⟨rfl,E⟩:=h;have M:Hid (bL ae 5 40 base gl 1 v L (fun x=>x.name==n) w (.returned (.int .i64 0)) O):=eA (by unfold bL;rw[if_pos B];exact⟨rfl,E⟩)
  clear B E K;go_wp2;go_ret;exact M.out
 .rw [if_neg B] at h
  obtain⟨rfl,E⟩:=h;have M:Hid (bL ae 5 40 base gl 1 v L (fun x=>x.name==n) w (.returned (.int .i64 7)) O):=eA (by unfold bL;rw[if_neg B];exact⟨rfl,E⟩)
  clear B E K;go_wp2;go_ret;exact M.out
theorem drop1_any(x:Led.Key)(n:Txt)(go:Nat)(W:World)(B:W.cell? ⟨go,2,none⟩=some (.string (str n))) :
  Calls prog 106 (#[.agg (ar x).toArray]++#[.pointer (some ⟨go,0,none⟩)]) W fun e w'=>e=.returned (.bool (x.kid==n&&x.state==3))/\eF W w':=by
 have A:=World.block_lt_of_cell? W _ B
 simp only[] at A
 have C:∀o,eF W (W.alloc o):=fun o=>eI
 show Calls prog 106 #[.agg #[.string (str x.kid),.string (str x.seed),.int .i64 x.state,.int .i64 x.since],.pointer (some ⟨go,0,none⟩)] W _
 cases D:(x.kid==n)
 all_goals
  go_enter func106,ntmps106
  go_wp2_with fail
  go_ret;exact⟨by first|rfl|simp,C _⟩
theorem drop_any(gl:Nat)(ops vs:List Value)(n:Txt)(L:List (Led.Key))(base:Nat)(v:Value)(w:World)(Q:L.length<=1000)(C:ops[2]?=some (.string (str n)))(G:Blk w gl vs 30)(H:vs[4]?=some v)(D:w.ownsRow base 42 4 v L.length (ah ar L))(I:v.ownBlock≠some gl)(R:∀y∈L,∀u∈ar y,u.oneCell'=true) :
  Calls prog 52 #[.pointer (some ⟨gl,0,none⟩),.agg ops.toArray] w (bL ar 4 42 base gl 4 v L (fun x=>x.kid==n&&x.state==3) w):=by
 obtain⟨W,F⟩:=eC (w.alloc (.cells ops.toArray 47))
 have S:Blk W w.heap.size ops 47:=by rw[<-F];exact Blk.new w _ _
 have A:eF w W:=eG F
 have J:=G.below A
 have N:=goneKey_any gl 4 106 #[.pointer (some ⟨w.heap.size,0,none⟩)] (enters_of func106 (by kernel_rfl) rfl) (fun x=>x.kid==n&&x.state==3) L base v W Q ((J.cell 4).trans H) (J.froz 4) J.lt (af D A eH) I R (fun T x _ U=>drop1_any x n w.heap.size T (((S.below U).cell 2).trans C))
 have K:=eA (N.mono fun _ _ h=>jT A h)
 have V:=eA F
 clear F N
 go_enter func52,ntmps52
 go_wp2_with fail
 rw[V.out]
 refine K.out.mono ?_
 intro e O h
 unfold bL at h
 by_cases B:L.any (fun x=>x.kid==n&&x.state==3)=true
 .rw [if_pos B] at h
  obtain⟨rfl,E⟩:=h;have M:Hid (bL ar 4 42 base gl 4 v L (fun x=>x.kid==n&&x.state==3) w (.returned (.int .i64 0)) O):=eA (by unfold bL;rw[if_pos B];exact⟨rfl,E⟩)
  clear B E K;go_wp2;go_ret;exact M.out
 .rw [if_neg B] at h
  obtain⟨rfl,E⟩:=h;have M:Hid (bL ar 4 42 base gl 4 v L (fun x=>x.kid==n&&x.state==3) w (.returned (.int .i64 7)) O):=eA (by unfold bL;rw[if_neg B];exact⟨rfl,E⟩)
  clear B E K;go_wp2;go_ret;exact M.out
theorem unbind1_any(x:Led.Bundle × Value)(n:Txt)(go:Nat)(W:World)(B:W.cell? ⟨go,2,none⟩=some (.string (str n))) :
  Calls prog 113 (#[.agg (ai x).toArray]++#[.pointer (some ⟨go,0,none⟩)]) W fun e w'=>e=.returned (.bool (x.1.domain==n))/\eF W w':=by
 have A:=World.block_lt_of_cell? W _ B
 simp only[] at A
 have C:∀o,eF W (W.alloc o):=fun o=>eI
 show Calls prog 113 #[.agg #[.string (str x.1.domain),.int .i64 x.1.number,x.2],.pointer (some ⟨go,0,none⟩)] W _
 go_enter func113,ntmps113
 go_wp2_with fail
 go_ret
 exact⟨by first|rfl|simp,C _⟩
theorem unbind_any(gl:Nat)(ops vs:List Value)(n:Txt)(L:List (Led.Bundle × Value))(base:Nat)(v:Value)(w:World)(Q:L.length<=1000)(C:ops[2]?=some (.string (str n)))(G:Blk w gl vs 30)(H:vs[5]?=some v)(D:w.ownsRow base 45 3 v L.length (ah ai L))(I:v.ownBlock≠some gl)(R:∀y∈L,∀u∈ai y,u.oneCell'=true) :
  Calls prog 54 #[.pointer (some ⟨gl,0,none⟩),.agg ops.toArray] w (bL ai 3 45 base gl 5 v L (fun x=>x.1.domain==n) w):=by
 obtain⟨W,F⟩:=eC (w.alloc (.cells ops.toArray 47))
 have S:Blk W w.heap.size ops 47:=by rw[<-F];exact Blk.new w _ _
 have A:eF w W:=eG F
 have J:=G.below A
 have N:=goneBun_any gl 5 113 #[.pointer (some ⟨w.heap.size,0,none⟩)] (enters_of func113 (by kernel_rfl) rfl) (fun x=>x.1.domain==n) L base v W Q ((J.cell 5).trans H) (J.froz 5) J.lt (af D A eH) I R (fun T x _ U=>unbind1_any x n w.heap.size T (((S.below U).cell 2).trans C))
 have K:=eA (N.mono fun _ _ h=>jT A h)
 have V:=eA F
 clear F N
 go_enter func54,ntmps54
 go_wp2_with fail
 rw[V.out]
 refine K.out.mono ?_
 intro e O h
 unfold bL at h
 by_cases B:L.any (fun x=>x.1.domain==n)=true
 .rw [if_pos B] at h
  obtain⟨rfl,E⟩:=h;have M:Hid (bL ai 3 45 base gl 5 v L (fun x=>x.1.domain==n) w (.returned (.int .i64 0)) O):=eA (by unfold bL;rw[if_pos B];exact⟨rfl,E⟩)
  clear B E K;go_wp2;go_ret;exact M.out
 .rw [if_neg B] at h
  obtain⟨rfl,E⟩:=h;have M:Hid (bL ai 3 45 base gl 5 v L (fun x=>x.1.domain==n) w (.returned (.int .i64 7)) O):=eA (by unfold bL;rw[if_neg B];exact⟨rfl,E⟩)
  clear B E K;go_wp2;go_ret;exact M.out
end
section
open Go.RowKit Mem Led
theorem dq(x a b:Int)(w:World):Calls prog 104 #[.int .i64 x,.int .i64 a,.int .i64 b] w fun e w'=>e=.returned (.bool (aD x a b))/\w'=w:=by
 have hx:aD x a b=(decide (a<=x)&&decide (x<=b)):=by unfold aD;simp
 rw[hx]
 by_cases A:a<=x
 all_goals by_cases B:x<=b
 all_goals
  go_enter func104,ntmps104
  go_wp2_with fail
  go_ret;exact⟨by simp[A,B],rfl⟩
theorem node_any(n:Led.Node)(w:World)(O:n.name.length<=9223372036854775807):Calls prog 89 #[.agg (ae n).toArray] w fun e w'=>e=.returned (.bool (cH n))/\eF w w':=by
 obtain⟨W,F⟩:=eC (w.alloc (.cells (ae n).toArray 40))
 have C:Blk W w.heap.size (ae n) 40:=by rw[<-F];exact Blk.new w _ _
 have E:eF w W:=eG F
 have T:W.cell? ⟨w.heap.size,0,none⟩=some (.string (str n.name)):=C.cell 0
 have H:=j4 n.name W O
 have B:cH n=(Ids.agent n.name&&decide ((n.key.length:Int)=32)&&aD n.expires 0 1099511627776&&aD n.seq 0 1099511627776&&decide ((n.doc.length:Int)<=16)):=by
  unfold cH;congr 1
  .congr 3
   rw[Bool.eq_iff_iff];simp
   omega
  .rw [Bool.eq_iff_iff]
   simp
   omega
 rw[B]
 generalize Ids.agent n.name=Q at *
 obtain⟨K,L⟩:=eC (n.key.length)
 obtain⟨D,M⟩:=eC (n.doc.length)
 have U:(str n.key).size=K:=by rw[aC,L]
 have V:(str n.doc).size=D:=by rw[aC,M]
 rw[L,M]
 have N:=eA F
 unfold ae tx nm at N ⊢
 clear F B
 go_enter func89,ntmps89
 go_upto_region 1 with fail
 rw[N.out]
 by_cases R:(K:Int)=32
 all_goals by_cases S:(D:Int)<=16
 all_goals cases Q<;>cases I:aD n.expires 0 1099511627776<;>cases J:aD n.seq 0 1099511627776
 all_goals
  go_wp2_with fail
  refine H.mono ?_;rintro e G ⟨rfl,A⟩;have X:G.cell? ⟨w.heap.size,1,none⟩=some (.string (str n.key)):=(C.below A).cell 1;have Y:G.cell? ⟨w.heap.size,2,none⟩=some (.int .i64 n.expires):=(C.below A).cell 2;have Z:G.cell? ⟨w.heap.size,3,none⟩=some (.int .i64 n.seq):=(C.below A).cell 3;have b:G.cell? ⟨w.heap.size,4,none⟩=some (.string (str n.doc)):=(C.below A).cell 4;go_wp2_with (go_at_call 104;refine(dq _ _ _ _).mono ?_;rintro e c ⟨rfl,rfl⟩)
  go_ret;exact⟨by simp[R,S,I,J],E.trans (A.mono E.size)⟩
theorem key_any(n:Led.Key)(w:World):Calls prog 100 #[.agg (ar n).toArray] w fun e w'=>e=.returned (.bool (dx n))/\eF w w':=by
 have A:dx n=(decide ((n.seed.length:Int)=32)&&aD n.kid.length 1 16&&aD n.state 1 3&&aD n.since 0 1099511627776):=by
  unfold dx;congr 3
  rw[Bool.eq_iff_iff];simp
  omega
 rw[A]
 have I:((str n.kid).size:Int)=(n.kid.length:Int):=by rw[aC]
 obtain⟨D,B⟩:=eC (n.seed.length)
 have J:(str n.seed).size=D:=by rw[aC,B]
 rw[B]
 clear A
 have C:∀o,eF w (w.alloc o):=fun o=>eI
 unfold ar tx nm
 go_enter func100,ntmps100
 by_cases E:(D:Int)=32
 all_goals cases F:aD n.kid.length 1 16<;>cases G:aD n.state 1 3<;>cases H:aD n.since 0 1099511627776
 all_goals
  go_wp2_with (go_at_call 104;refine(dq _ _ _ _).mono ?_;rintro e K ⟨rfl,rfl⟩)
  go_ret;exact⟨by simp[E],C _⟩
end
section
open Go.RowKit Mem
def vp(w:World)(L:List (List UInt8))(e:Ending)(w':World):Prop :=
 ∃A m c,e=.returned (.tuple #[.slice A m c,.int .i64 ((Ids.ej L).2:Int)])/\m<=c/\w'.ownsRow w.heap.size 9 1 (.slice A m c) m (tv ((Ids.ej L).1.getD []))/\eF w w'
def Best(L A:List (List UInt8))(k:Nat)(b:List UInt8):Prop :=
 (b=[]/\∀j,(h:j<L.length)->j<k->Ids.iF A L[j]=false)\/(b∈L/\b≠[]/\Ids.iF A b=true/\∀j,(h:j<L.length)->j<k->Ids.iF A L[j]=true->¬L[j]<b)
def pF(w w':World):Prop:=∃q,w'=w.drewN q
theorem pF.refl(w:World):pF w w:=⟨0,rfl⟩
theorem pF.next{w w':World}(h:pF w w')(k:Nat):pF w (w'.drewN k):=by
 obtain⟨q,rfl⟩:=h
 exact⟨q+k,by simp[World.drewN,Nat.add_assoc]⟩
theorem pF.below{w w':World}(h:pF w w')(B:Nat):Below B w w':=by
 obtain⟨q,rfl⟩:=h
 exact dE B w q
theorem uP{x:List UInt8}(h:Ids.selector x=true):x≠[]:=by
 rintro rfl
 simp[Ids.selector,Ids.cM] at h
theorem mi{L A:List (List UInt8)}{j:Nat}{C x:List UInt8}(H:Best L A j C)(I:j<L.length)(hx:L[j]=x)(D:x≠[])(J:Ids.iF A x=true)(h:C=[]\/x<C):Best L A (j+1) x:=by
 refine .inr ⟨by rw[<-hx];exact List.getElem_mem I,D,J,fun i hi K B=>?_⟩
 by_cases e:i=j
 .subst e;rw[hx];exact Ids.my x
 .rcases H with⟨_,E⟩|⟨_,F,_,E⟩
  .rw [E i hi (by omega)] at B;cases B
  .rcases h with h|h
   .exact absurd h F
   .exact fun G=>E i hi (by omega) B (Ids.lt_tr G h)
theorem oM{L B:List (List UInt8)}{j:Nat}{C x:List UInt8}(G:Best L B j C)(I:j<L.length)(hx:L[j]=x)(h:Ids.iF B x=false\/(C≠[]/\¬x<C)):Best L B (j+1) C:=by
 rcases G with⟨D,E⟩|⟨h0,D,H,E⟩
 .refine .inl ⟨D,fun i hi F=>?_⟩
  by_cases e:i=j
  .subst e
   rw[hx];rcases h with h|h
   .exact h
   .exact absurd D h.1
  .exact E i hi (by omega)
 .refine .inr ⟨h0,D,H,fun i hi F A=>?_⟩
  by_cases e:i=j
  .subst e
   rw[hx] at A ⊢;rcases h with h|h
   .rw [h] at A;cases A
   .exact h.2
  .exact E i hi (by omega) A
theorem ni{a b:List UInt8}(h:a<b):Op.bytesLess a b=true:=by rw[bytesLess_eq];exact decide_eq_true h
theorem nl{a b:List UInt8}(h:¬a<b):Op.bytesLess a b=false:=by rw[bytesLess_eq];exact decide_eq_false h
theorem rset_any(A:Option Addr)(n c:Nat)(L:List (List UInt8))(w:World)(h:Ts w A n L)(hn:n*16<=140737488355328)(u:∀x∈L,x.length<=9223372036854775807) :
  Calls prog 32 #[.slice A n c] w (vp w L):=by
 obtain⟨iT,Ak,Al,Am,An⟩:=an infoT
 have HL:=eA h.len
 have Ab:=eA u
 clear u
 go_enter func32,ntmps32
 go_wp2_with fail
 go_loop [4,5] (fun i _=>∃k:Nat,k<=n/\i=.int .i64 k/\Hid ((L.take k).all Ids.selector=true)) (fun i _=>n-(intOf i).toNat)
 case atStart=>exact⟨0,by omega,rfl,eA (by simp)⟩
 case round =>
  obtain⟨k,hk,rfl,V⟩:=hrel;by_cases Ao:k<n
  .have q:k<L.length:=by rw[HL.out];exact Ao
   obtain⟨Ap,Aq,rfl,X⟩:=h.lit q;have J:=sw L[k] w (Ab.out _ (List.getElem_mem q));have hi:(k:Int)<(n:Int):=by omega
   cases hq:Ids.selector L[k]
   .have hx:Hid (Ids.ej L=(none,13)):=eA (by
     unfold Ids.ej;rw[List.all_eq_false.2 ⟨L[k],List.getElem_mem q,by rw[hq];simp⟩]
     rfl)
    rw[hq] at J;generalize L[k]=x at *;clear hq;go_wp2_with fail
    refine J.mono ?_;rintro e w' ⟨rfl,rfl⟩;go_wp2;go_ret2;exact⟨none,0,0,by rw[hx.out];rfl,by omega,by rw[hx.out];exact World.ownsRow_nil _ _ _ _,Below.refl _ _⟩
   .have HN:=eA ((t3 (p:=Ids.selector) V.out q).trans hq)
    rw[hq] at J;generalize L[k]=x at *;clear hq;go_wp2_with fail
    refine J.mono ?_;rintro e w' ⟨rfl,rfl⟩;go_wp2;go_round
    case rel=>exact⟨k+1,by omega,by go_num,HN⟩
    case measure=>simp[intOf];omega
  .obtain rfl:k=n:=by omega
   have z:Hid (L.all Ids.selector=true):=eA (by
    have:=V.out;rwa [List.take_of_length_le (by rw[HL.out];exact eH)] at this)
   clear V;go_wp2_with fail
   go_loopw [6,7,8] (fun v _ _ wr=>∃(m:Nat) (A4:Option Addr) (c4:Nat) (B:List (List UInt8)),v=.slice A4 m c4/\m<=c4/\wr.ownsRow w.heap.size 9 1 (.slice A4 m c4) m (tv B)/\eF w wr/\Ids.Part L B/\m+Ids.left_ L B<=k/\Hid (B.length=m)) (fun v _ _ _=>match v with|.slice _ m _=>k-m|_=>0)
   case atStart=>exact⟨0,none,0,[],rfl,by omega,World.ownsRow_nil _ _ _ _,Below.refl _ _,Ids.Part.nil L,by have:=Ids.left_le L [];rw[HL.out] at this;omega,eA rfl⟩
   case round =>
    obtain⟨m,A4,c4,B,rfl,Ar,R,hb,Y,As,HM⟩:=hrel;have HP:=eA Y;clear Y;obtain⟨wo,Au⟩:∃wo,wo=wr:=⟨_,rfl⟩;subst Au;go_wp2_with fail
    go_loopw [7,8] (fun b i wx=>∃(j:Nat) (E:List UInt8),j<=k/\i=.int .i64 j/\b=.string (str E)/\Hid (Best L B j E)/\pF wo wx) (fun _ i _=>k-(intOf i).toNat)
    case atStart=>exact⟨0,[],by omega,rfl,rfl,eA (.inl ⟨rfl,fun j _ hj=>by omega⟩),pF.refl _⟩
    case round =>
     obtain⟨wx,Av⟩:∃wx,wx=wr:=⟨_,rfl⟩;subst Av;obtain⟨j,E,hj,rfl,rfl,r,G⟩:=hrel;by_cases Aw:j<k
     .have K:j<L.length:=by rw[HL.out];exact Aw
      have Ac:Ts wx A k L:=(h.below hb).below (G.below _);obtain⟨Ap,Aq,rfl,X⟩:=Ac.lit K;obtain⟨x,D⟩:=eC (L[j]);rw[D] at X;have C:x≠[]:=by rw[<-D];exact uP (List.all_eq_true.1 z.out _ (List.getElem_mem K))
      have hi:(j:Int)<(k:Int):=by omega
      clear Ac;by_cases Ad:m=0
      .subst Ad
       have F:Ids.iF B x=true:=by
        have:=List.eq_nil_of_length_eq_zero HM.out;rw[this];rfl
       by_cases I:E=[]
       .have V:=eA (mi r.out K D C F (.inl I))
        subst I;clear D C F;go_wp2_with fail
        go_quiet (fail)
        go_wp2_with fail
        go_roundw
        case rel=>exact⟨j+1,x,by omega,by go_num,rfl,V,G.next nq⟩
        case measure=>simp[intOf];omega
       .have Z:E.isEmpty=false:=by cases E<;>simp_all
        have T:decide (str E=⟨#[]⟩)=false:=(jX E).trans Z;have Aa:¬str E=⟨#[]⟩:=by simpa using T
        by_cases H:x<E
        .have V:=eA (mi r.out K D C F (.inr H))
         have Q:=ni H;clear D C H F;go_wp2_with fail
         go_quiet (fail)
         go_wp2_with fail
         go_roundw
         case rel=>exact⟨j+1,x,by omega,by go_num,rfl,V,G.next nq⟩
         case measure=>simp[intOf];omega
        .have HK:=eA (oM r.out K D (.inr ⟨I,H⟩))
         have Q:=nl H;clear D C H F;go_wp2_with fail
         go_quiet (fail)
         go_wp2_with fail
         go_roundw
         case rel=>exact⟨j+1,E,by omega,by go_num,rfl,HK,G.next nq⟩
         case measure=>simp[intOf];omega
      .obtain⟨M,rfl⟩:∃M,m=M+1:=⟨m-1,by omega⟩
       have Ae:M<B.length:=by rw[HM.out];omega
       have Af:Ts wx A4 (M+1) B:=(Ts.of_own R).below (G.below _);obtain⟨A0,A1,rfl,s⟩:=Af.lit Ae;obtain⟨y,hy⟩:=eC (B[M]);rw[hy] at s;have d:Ids.iF B x=decide (y<x):=by
        unfold Ids.iF;rw[List.getLast?_eq_getElem?,HM.out,Nat.add_sub_cancel,List.getElem?_eq_getElem Ae,hy]
       have A2:M<=8796093022208:=by omega
       have A3:(((M:Int)+1)==0)=false:=by simp;omega
       have A5:IntKind.i64.wrap (M:Int)=(M:Int):=by rw[IntKind.wrap_i64];omega
       clear Af hy Ad;by_cases O:y<x
       .have F:Ids.iF B x=true:=by rw[d];exact decide_eq_true O
        have g1:=nl (Ids.lt_as O);have g2:(x==y)=false:=by
         cases e:(x==y)
         .rfl
         .simp at e;subst e;exact absurd O (Ids.my _)
        clear d O;by_cases I:E=[]
        .have V:=eA (mi r.out K D C F (.inl I))
         subst I;clear D C F;go_wp2_with fail
         go_quiet (fail)
         go_wp2_with fail
         go_roundw
         case rel=>exact⟨j+1,x,by omega,by go_num,rfl,V,G.next nq⟩
         case measure=>simp[intOf];omega
        .have Z:E.isEmpty=false:=by cases E<;>simp_all
         have T:decide (str E=⟨#[]⟩)=false:=(jX E).trans Z;have Aa:¬str E=⟨#[]⟩:=by simpa using T
         by_cases H:x<E
         .have V:=eA (mi r.out K D C F (.inr H))
          have Q:=ni H;clear D C H F;go_wp2_with fail
          go_quiet (fail)
          go_wp2_with fail
          go_roundw
          case rel=>exact⟨j+1,x,by omega,by go_num,rfl,V,G.next nq⟩
          case measure=>simp[intOf];omega
         .have HK:=eA (oM r.out K D (.inr ⟨I,H⟩))
          have Q:=nl H;clear D C H F;go_wp2_with fail
          go_quiet (fail)
          go_wp2_with fail
          go_roundw
          case rel=>exact⟨j+1,E,by omega,by go_num,rfl,HK,G.next nq⟩
          case measure=>simp[intOf];omega
       .have F:Ids.iF B x=false:=by rw[d];exact decide_eq_false O
        have HK:=eA (oM r.out K D (.inl F));by_cases f:x<y
        .have g1:=ni f
         clear d O D C F f;go_wp2_with fail
         go_quiet (fail)
         go_wp2_with fail
         go_roundw
         case rel=>exact⟨j+1,E,by omega,by go_num,rfl,HK,G.next nq⟩
         case measure=>simp[intOf];omega
        .have g1:=nl f
         have Ag:x=y:=by
          rcases Ids.re x y with g|g|g
          .exact absurd g f
          .exact g
          .exact absurd g O
         have g2:(x==y)=true:=by simp[Ag]
         clear d O D C F f Ag;go_wp2_with fail
         go_quiet (fail)
         go_wp2_with fail
         go_roundw
         case rel=>exact⟨j+1,E,by omega,by go_num,rfl,HK,G.next nq⟩
         case measure=>simp[intOf];omega
     .obtain rfl:j=k:=by omega
      have N:wx.ownsRow w.heap.size 9 1 (.slice A4 m c4) m (tv B):=af R (G.below wo.heap.size) eH;have t:eF w wx:=hb.trans (G.below _);by_cases I:E=[]
      .have l:B=Ids.qj L:=HP.out.done (fun x hx=>by
        rcases r.out with⟨_,h2⟩|⟨_,h2,_⟩
        .obtain⟨i,hi,rfl⟩:=List.mem_iff_getElem.1 hx
         exact h2 i hi (by have:=HL.out;omega)
        .exact absurd I h2)
       subst I;have S:Hid (Ids.ej L=if 4<m then (none,4) else (some B,0)):=eA (by
        unfold Ids.ej;rw[z.out,<-l,HM.out];rfl)
       have T:decide (str ([]:List UInt8)=⟨#[]⟩)=true:=jX [];clear l R hb;by_cases h4:4<m
       .go_wp2_with fail
        go_ret2;exact⟨none,0,0,by rw[S.out,if_pos h4];rfl,by omega,by rw[S.out,if_pos h4];exact World.ownsRow_nil _ _ _ _,t⟩
       .go_wp2_with fail
        go_ret2;exact⟨A4,m,c4,by rw[S.out,if_neg h4];rfl,Ar,by rw[S.out,if_neg h4];exact N,t⟩
      .have U:E∈L/\Ids.iF B E=true/\∀x∈L,Ids.iF B x=true->¬x<E:=by
        rcases r.out with⟨h1,_⟩|⟨h1,_,h2,h3⟩
        .exact absurd h1 I
        .refine⟨h1,h2,fun x hx hc=>?_⟩
         obtain⟨i,hi,rfl⟩:=List.mem_iff_getElem.1 hx;exact h3 i hi (by have:=HL.out;omega) hc
       have Ax:=eA (HP.out.next U.1 U.2.1 U.2.2);have A6:=Ids.left_lt U.1 U.2.1;have Z:E.isEmpty=false:=by cases E<;>simp_all
       have T:decide (str E=⟨#[]⟩)=false:=(jX E).trans Z;have Aa:¬str E=⟨#[]⟩:=by simpa using T
       have e1:tv (B++[E])=tv B++[.string (str E)]:=by rw[sX];rfl
       have HE:=eA e1;have Ay:m+1<=maxLen:=by unfold maxLen;omega
       have Ah:(m+1)*16<=140737488355328:=by omega
       have Ai:w.heap.size<=wx.heap.size:=t.size;clear e1 U R hb;go_wp2_with (at_builtin;go_must (refine bi rfl (.tmp 62) (.tmp 64) 25 rfl w.heap.size iT (.string ⟨#[]⟩) 16 underlying25 Ak Al Am An rfl _ _ _ rfl N rfl rfl Ay Ah Ai ?_))
       intro A8 c8 w8 o g7 g8 Aj;have Az:eF w w8:=bC t Aj Ai N eH;rw[<-HE.out] at o;clear Aj N G;go_wp2_with fail
       go_roundw
       case rel=>exact⟨m+1,A8,c8,B++[E],rfl,g7,o,Az,Ax.out,by omega,eA (by rw[List.length_append,HM.out];rfl)⟩
       case measure=>simp;omega
end
section
open Go.RowKit Mem Go.Sort Go.Lib
theorem pm{w:World}{A:Option Addr}{n:Nat}{L:List (List UInt8)}(h:Ts w A n L)(G:0<n):∃b B,A=some ⟨b,B,none⟩/\b<w.heap.size/\∀j,(D:j<L.length)->w.cell? ⟨b,B+j,none⟩=some (.string (str L[j])):=by
 have H:=h.len
 obtain⟨b,B,e,C⟩:=h.lit (i:=0) (by omega)
 refine⟨b,B,e,World.block_lt_of_cell? w _ C,fun j D=>?_⟩
 obtain⟨b2,E,e2,F⟩:=h.lit D
 rw[e] at e2
 injection e2 with e2
 injection e2 with e2 e3
 subst e2 e3
 exact F
theorem clone_any(A:Option Addr)(n c:Nat)(L:List (List UInt8))(w:World)(h:Ts w A n L)(H:n*16<=140737488355328)(G:A=none->n=0) :
  Calls prog 28 #[.slice A n c] w fun e w'=>∃B,e=.returned B/\w'.ownsRow w.heap.size 9 1 B n (tv L)/\eF w w':=by
 have I:=h.len
 by_cases h0:n=0
 .subst h0
  obtain rfl:=List.eq_nil_of_length_eq_zero I
  cases A with
  | none =>
   refine(Tryz.slices_Clone_string_nil 0 c w).mono ?_;rintro e w' ⟨rfl,rfl⟩;exact⟨_,rfl,World.ownsRow_nil _ _ _ _,Below.refl _ _⟩
  | some a =>
   refine(Tryz.slices_Clone_string_zero a c w).mono ?_;rintro e w' ⟨B,rfl,D,_,E⟩;exact⟨B,rfl,D,E⟩
 .obtain⟨b,F,rfl,M,J⟩:=pm h (by omega)
  refine(Tryz.slices_Clone_string b F n c (L.map str) w (by rw[List.length_map];omega) H (fun j K=>?_)).mono ?_
  .have C:j<L.length:=by simpa using K
   rw[J j C];congr 2
   rw[List.getD_eq_getElem?_getD,List.getElem?_map,List.getElem?_eq_getElem C];rfl
  .rintro e w' ⟨B,rfl,D,_,E⟩
   rw[List.take_of_length_le (by rw[List.length_map];omega),List.map_map] at D
   exact⟨B,rfl,D,E⟩
theorem sort_any(base:Nat)(v:Value)(n:Nat)(L:List (List UInt8))(w:World)(h:w.ownsRow base 9 1 v n (tv L))(R:n*16<=140737488355328)(M:base<=w.heap.size) :
  Calls prog 162 #[v] w fun e w'=>e=.returned (.tuple #[])/\w'.ownsRow base 9 1 v n (tv (L.mergeSort fun x y=>decide (x<=y)))/\Below base w w':=by
 have D:L.length=n:=by have:=h.1;rw[dN] at this;omega
 by_cases h0:n=0
 .subst h0
  obtain rfl:=List.eq_nil_of_length_eq_zero D;obtain⟨A,c,rfl,_,_⟩:=aj h;refine(Tryz.slices_Sort_string_none A c w).mono ?_;rintro e w' ⟨rfl,rfl⟩;exact⟨rfl,by simpa using h,Below.refl _ _⟩
 .have E:v≠.slice none 0 0:=by
   rintro rfl;rcases h.2 with⟨_,B⟩|⟨g,cap,F,B,_⟩
   .exact h0 B
   .cases B
  rcases h.2 with⟨B,_⟩|⟨g,cap,F,rfl,C,G,N,H,I,ht⟩
  .exact absurd B E
  .have O:Holds encStr w g 0 L.toArray:=holds_of_block G (by rw[D,<-Nat.mul_one n];exact ht)
   have J:g<w.heap.size:=(Array.getElem?_eq_some_iff.1 G).1;have K:=Tryz.slices_Sort_string g 0 cap L w O J (by omega);rw[D] at K;refine K.mono ?_;rintro e w' ⟨rfl,q,os,rfl⟩;refine⟨rfl,?_,?_⟩
   .have:=ownsRow_sorted (n:=q) (os:=os) (ss:=L) (ts:=L.mergeSort fun x y=>decide (x<=y)) (by simp) C G (by omega) H I
    rw[D] at this;exact this
   .exact(Below.refl base w).grown (grownBy_sorted _) M (fun j Q=>by cases Q;exact C)
theorem upto_le(d:Array (List UInt8)):∀m,(Lib.compactUpTo d m).length<=m
 | 0=>by simp[Lib.compactUpTo]
 | m+1=>by
  rw[Lib.compactUpTo_succ,List.length_append];have:=upto_le d m;split<;>simp<;>omega
theorem compact_le(L:List (List UInt8)):(Lib.compact L).length<=L.length:=upto_le _ _
theorem compact_any(base:Nat)(v:Value)(n:Nat)(L:List (List UInt8))(w:World)(h:w.ownsRow base 9 1 v n (tv L))(O:n*16<=140737488355328) :
  Calls prog 163 #[v] w fun e w'=>∃A c,e=.returned (.slice A (Lib.compact L).length c)/\(Lib.compact L).length<=c/\w'.ownsRow base 9 1 (.slice A (Lib.compact L).length c) (Lib.compact L).length (tv (Lib.compact L))/\Below base w w':=by
 have B:L.length=n:=by have:=h.1;rw[dN] at this;omega
 by_cases h0:n=0
 .subst h0
  obtain rfl:=List.eq_nil_of_length_eq_zero B;obtain⟨A,c,rfl,H,_⟩:=aj h;refine(Tryz.slices_Compact_string_empty A c w).mono ?_;rintro e w' ⟨rfl,rfl⟩;exact⟨A,c,rfl,H,h,Below.refl _ _⟩
 .have C:v≠.slice none 0 0:=by
   rintro rfl;rcases h.2 with⟨_,D⟩|⟨g,cap,I,D,_⟩
   .exact h0 D
   .cases D
  obtain⟨g,cap,rfl,E,J,K,M,_,N⟩:=holds_of_ownsRow (enc:=encStr) h C;have G:=Tryz.slices_Compact_string g 0 cap L w N (by omega) (by omega);rw[B] at G;have F:(Lib.compact L).length<=n:=by rw[<-B];exact compact_le L
  refine G.mono ?_;rintro e w' ⟨rfl,q,rfl⟩;refine⟨_,cap,rfl,by omega,?_,below_putRow (Below.refl _ _) E⟩;have:=ownsRow_putRow (enc:=encStr) (q:=q) (k:=(Lib.compact L).length) (ys:=Lib.compact L++List.replicate (n-(Lib.compact L).length) []) h (by simp;omega) F
  rw[List.take_left'] at this
  .exact this
  .rfl
end
section
open Go.RowKit Mem Go.Sort Go.Lib
theorem set1_any(l:List UInt8)(w:World)(A:l.length<=9223372036854775807):Calls prog 160 #[.string (str l)] w fun e w'=>e=.returned (.bool (!Ids.selector l))/\∃q,w'=w.drewN q:=by
 have h:=uu l w A
 generalize Ids.selector l=b at *
 go_enter func160,ntmps160
 go_wp2_with fail
 refine h.mono ?_
 rintro e B ⟨rfl,q,rfl⟩
 go_wp2
 go_ret
 exact⟨rfl,q,rfl⟩
theorem idxQ_any(g:Nat)(lb:Array Value)(Z:∀args w,(callFunc g args).run prog w=.ok (.enter g args) w)(p:List UInt8->Bool)(A:Option Addr)(n c:Nat)(L:List (List UInt8))(w:World)(h:Ts w A n L)(d:n<=9223372036854775807)(D:∀x∈L,x.length<=9223372036854775807)
  (Q:∀(W:World) (x:List UInt8),x.length<=9223372036854775807->eF w W->Calls prog g (#[.string (str x)]++lb) W fun e w'=>e=.returned (.bool (p x))/\∃q,w'=W.drewN q) :
  Calls prog 143 #[.slice A n c,.func (.func g) #[] lb] w fun e w'=>e=.returned (.int .i64 (aX p L))/\pF w w':=by
 have R:=h.len
 have F:=eA R
 obtain⟨r,I⟩:=eD (aX p L)
 rw[I.out]
 have S:=eA Q
 have T:=eA D
 clear Q D
 go_enter func143,ntmps143
 go_wp2
 go_loopw [8,5] (fun i _ wr=>∃k:Nat,k<=n/\i=.int .i64 k/\Hid (∀x∈L.take k,p x=false)/\pF w wr) (fun i _ _=>n-(intOf i).toNat)
 case atStart=>exact⟨0,by omega,rfl,eA (by simp),pF.refl _⟩
 case round =>
  obtain⟨k,f,rfl,J,G⟩:=hrel;by_cases K:k<n
  .have B:k<L.length:=by rw[R];exact K
   have C:=G.below w.heap.size;obtain⟨b,U,rfl,M⟩:=(Ts.below h C).lit B;have H:=S.out wr L[k] (T.out _ (List.getElem_mem B)) C;have hi:(k:Int)<(n:Int):=by omega
   cases E:p L[k]
   .have V:=eA (dP B J.out E)
    rw[E] at H;generalize L[k]=X at *;clear E C;go_wp2_with fail
    refine H.mono ?_;rintro e Y ⟨rfl,q,rfl⟩;go_wp2;go_roundw
    case rel=>exact⟨k+1,by omega,by go_num,V,G.next q⟩
    case measure=>simp[intOf];omega
   .have N:=eA (gi B J.out E)
    rw[E] at H;generalize L[k]=X at *;clear E C;go_wp2_with fail
    refine H.mono ?_;rintro e Y ⟨rfl,q,rfl⟩;go_wp2;go_ret;exact⟨by rw[<-I.out,N.out];rfl,G.next q⟩
  .have O:k=n:=by omega
   have N:=eA (gj (p:=p) (L:=L) (by have:=J.out;rwa [O,List.take_of_length_le (by rw[F.out];exact eH)] at this))
   have hi:¬((k:Int)<(n:Int)):=by omega
   go_wp2;go_ret;exact⟨by rw[<-I.out,N.out];rfl,G⟩
theorem func_any(g:Nat)(lb:Array Value)(C:∀args w,(callFunc g args).run prog w=.ok (.enter g args) w)(p:List UInt8->Bool)(A:Option Addr)(n c:Nat)(L:List (List UInt8))(w:World)(h:Ts w A n L)(D:n<=9223372036854775807)(B:∀x∈L,x.length<=9223372036854775807)
  (E:∀(W:World) (x:List UInt8),x.length<=9223372036854775807->eF w W->Calls prog g (#[.string (str x)]++lb) W fun e w'=>e=.returned (.bool (p x))/\∃q,w'=W.drewN q) :
  Calls prog 159 #[.slice A n c,.func (.func g) #[] lb] w fun e w'=>e=.returned (.bool (L.any p))/\∃q,w'=w.drewN q:=by
 have F:=idxQ_any g lb C p A n c L w h D B E
 rw[<-iB]
 generalize aX p L=r at *
 go_enter func159,ntmps159
 go_wp2_with fail
 refine F.mono ?_
 rintro e G ⟨rfl,q,rfl⟩
 go_wp2
 go_ret
 exact⟨by first|rfl|simp,q,rfl⟩
theorem any_not(L:List (List UInt8))(p:List UInt8->Bool):L.any (fun x=>!p x)=!L.all p:=by
 rw[List.not_all_eq_any_not]
theorem set_any(A:Option Addr)(n c:Nat)(L:List (List UInt8))(w:World)(h:Ts w A n L)(N:n*16<=140737488355328)(H:A=none->n=0)(I:∀x∈L,x.length<=9223372036854775807) :
  Calls prog 129 #[.slice A n c] w (vp w L):=by
 have B:=func_any 160 #[] (enters_of func160 (by kernel_rfl) rfl) (fun x=>!Ids.selector x) A n c L w h (by omega) I (fun W x hx _=>set1_any x W hx)
 rw[any_not] at B
 cases J:L.all Ids.selector
 .have hx:Hid (Ids.ej L=(none,13)):=eA (by unfold Ids.ej;rw[J];rfl)
  rw[J] at B;go_enter func129,ntmps129
  go_wp2_with fail
  refine B.mono ?_;rintro e Z ⟨rfl,q,rfl⟩;go_wp2;go_ret2;exact⟨none,0,0,by rw[hx.out];rfl,by omega,by rw[hx.out];exact World.ownsRow_nil _ _ _ _,dE _ _ _⟩
 .rw [J] at B
  have b:=eA J;clear J;go_enter func129,ntmps129
  go_wp2_with fail
  refine B.mono ?_;rintro e Z ⟨rfl,q,rfl⟩;have T:Ts (w.drewN q) A n L:=h.below (dE _ _ _);go_wp2_with fail
  refine(clone_any A n c L _ T N H).mono ?_;rintro e U ⟨V,rfl,E,K⟩;have O:w.heap.size<=U.heap.size:=K.size;go_wp2_with fail
  refine(sort_any w.heap.size V n L U E N O).mono ?_;rintro e d ⟨rfl,F,Q⟩;go_wp2_with fail
  refine(compact_any w.heap.size V n _ d F N).mono ?_;rintro e f ⟨g,i,rfl,G,C,R⟩;have X:Lib.compact (L.mergeSort fun x y=>decide (x<=y))=Ids.qj L:=rfl;rw[X] at G C ⊢;have Y:eF w f:=(((dE _ w q).trans K).trans Q).trans R;obtain⟨m,S⟩:=eC ((Ids.qj L).length);have D:Hid (Ids.ej L=if 4<m then (none,4) else (some (Ids.qj L),0)):=eA (by
   unfold Ids.ej;rw[b.out,S];rfl)
  rw[S] at G C ⊢;clear S X F E T;by_cases M:4<m
  .go_wp2_with fail
   go_ret2;exact⟨none,0,0,by rw[D.out,if_pos M];rfl,by omega,by rw[D.out,if_pos M];exact World.ownsRow_nil _ _ _ _,Y⟩
  .go_wp2_with fail
   go_ret2;exact⟨g,m,i,by rw[D.out,if_neg M];rfl,G,by rw[D.out,if_neg M];exact C,Y⟩
theorem kH(A:Option Addr)(n c:Nat)(L:List (List UInt8))(x:List UInt8)(w:World)(h:Ts w A n L)(E:n<=9223372036854775807) :
  Calls prog 90 #[.slice A n c,.string (str x)] w fun e w'=>e=.returned (.bool (L.contains x))/\w'=w:=by
 have F:=h.len
 by_cases h0:n=0
 .subst h0
  obtain rfl:=List.eq_nil_of_length_eq_zero F;exact Tryz.slices_Contains_string_empty A c (str x) w
 .obtain⟨b,C,rfl,J,G⟩:=pm h (by omega)
  refine(Tryz.slices_Contains_string b C n c (L.map str) (str x) w (by rw[List.length_map];omega) E (fun j H=>?_)).mono ?_
  .have B:j<L.length:=by simpa using H
   rw[G j B];congr 2
   rw[List.getD_eq_getElem?_getD,List.getElem?_map,List.getElem?_eq_getElem B];rfl
  .rintro e w' ⟨rfl,rfl⟩
   refine⟨?_,rfl⟩;congr 2
   rw[List.take_of_length_le (by rw[List.length_map];omega),Bool.eq_iff_iff,containsS_iff,List.contains_iff_mem]
   constructor
   .intro D
    obtain⟨y,I,e⟩:=List.mem_map.1 D;rw[<-ui e];exact I
   .intro D
    exact List.mem_map.2 ⟨x,D,rfl⟩
end
end Go.Proofs.YtmbpnkacggngkaaGreatDoor
