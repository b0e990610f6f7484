/- MixC, LedOpR, LedDec, ShaOf, ShaNames, LedCodesSpec, MixF, Conv (put together by bundle.py: only what is needed). -/
import Derived.Laws.DeepStrings4
import Derived.Laws.IdiomStrings
import Derived.Test.YtmbpnkacggngkaaGreatDoorLI3
set_option maxRecDepth 100000
set_option maxHeartbeats 16000000
namespace Go.Proofs.YtmbpnkacggngkaaGreatDoor
open Batch
open Tryz
section
namespace Batch
open Go.RowKit
def pq:Op->Bool
 | .pick _ _ _=>true
 | .lookup _ _ _ _=>true
 | .unOp _ _ _=>true
 | .call c=>match c.callee with
  | .builtin .len=>true
  | _=>false
 | o=>calm o
theorem po{P:Program}{o:Oper}(h:pq o.op=true)(E:Operand->Value)(w w':World)(n:Next)(A:(execOp E o).run P w=.ok n w'):∃u,n=.value u:=by
 by_cases I:calm o.op=true
 .exact calm_value I E w w' n A
 .obtain⟨J,K,C,L,F,G⟩:=o
  have key:∀(s:Sem Value),(do pure (Next.value (<-s)):Sem Next).run P w=.ok n w'->∃u,n=.value u:=fun s B=>by
   rw[Sem.run_bind] at B
   cases D:s.run P w with
   | halt q w1=>rw[D] at B;cases B
   | ok u w1 =>
    rw[D] at B;simp only[Result.andThen_ok,Sem.run_pure,Result.ok.injEq] at B;exact⟨u,B.1.symm⟩
  cases K<;>first|(exfalso;simp[pq,calm,mu] at h I;done)|skip
  case neg.pick c x y =>
   unfold execOp at A;simp only[Sem.run_bind] at A
   cases D:(asBool (E c)).run P w with
   | halt q w1=>rw[D] at A;cases A
   | ok u w1 =>
    rw[D] at A;simp only[Result.andThen_ok,Sem.run_pure,Result.ok.injEq] at A;exact⟨_,A.1.symm⟩
  case neg.call c =>
   obtain⟨callee,args,H⟩:=c
   cases callee with
   | builtin b =>
    cases b<;>first|(exfalso;simp[pq] at h;done)|skip
    simp[execOp,resolve,invoke] at A
    exact key (Builtin.len_ H C (args.map E)) A
   | invoke r nme=>exfalso;simp[pq] at h
   | value g=>exfalso;simp[pq] at h
  all_goals exact key _ A
section
variable {P:Program}{ops:Array Oper}{md:Region.Mode}{R:World->World->Prop}{w0:World}
def gt(ops:Array Oper)(i:Nat):Bool:=match ops[i]? with|some o=>pq o.op|none=>false
theorem qc{i:Nat}{a:Act}{K:Act->Prop}{K':Act->World->Prop}{Q':Exit->Act->World->Prop}{C:World->Prop}{w:World}(B:gt ops i=true)(G:C w)(h:∀a,K a->K' a w)(A:qOp P ops C i K a):wpOp P ops Q' i K' a w:=by
 unfold qOp at A
 unfold wpOp
 unfold gt at B
 cases F:ops[i]? with
 | none=>rw[F] at B;cases B
 | some o =>
  simp only[F] at A B ⊢;split
  .rename_i hw
   simp only[hw,if_true] at A;refine .inl ?_;obtain⟨v,H,I⟩:=A;have D:=H w G;unfold Oper.quietAt at D;unfold Oper.wp
   cases E:(execOp a.eval o).run P w with
   | halt q w'=>rw[E] at D;exact D.elim
   | ok n w' =>
    obtain⟨u,rfl⟩:=po B a.eval w w' n E;rw[E] at D;obtain⟨rfl,rfl⟩:=D;exact h _ I
  .rename_i hw
   simp only[hw] at A;exact h _ A
end
section
variable {P:Program}{ops:Array Oper}{md:Region.Mode}{R:World->World->Prop}{w0:World}
def kW(P:Program)(md:Region.Mode)(ops:Array Oper)(R:World->World->Prop)(w0:World)(B:List Nat)(L:List lQ)(Q:Array Bool->Act->(World->Prop)->Prop):Nat->Array Bool->Act->(World->Prop)->Prop
 | 0,listed,a,F=>Q listed a F
 | f+1,listed,a,F=>Region.ready md ops listed≠[]/\∀i∈Region.ready md ops listed,
   (i∈B/\qOp P ops (R w0) i (fun A=>kW P md ops R w0 B L Q f (listed.setIfInBounds i true) A F) a) \/
   (∃x∈L,x.1=i/\∃o,ops[i]?=some o/\Region.wanted o (yielded ops a.tmps)=true/\(∀w,R w0 w->F w->mr P R x.2 w ((execOp a.eval o).run P w)) /\
    ∀v,(∃w,x.2 v w)->kW P md ops R w0 B L Q f (listed.setIfInBounds i true) (a.put o.dst v) (fun w=>F w/\x.2 v w))
theorem sk{B M:List Nat}{L:List lQ}{base:Array Bool}{g:Nat}{Q:Array Bool->Act->(World->Prop)->Prop}{Q':Exit->Act->World->Prop}(d:Rely R)(V:∀x∈L,io R x.2)(X:∀i∈B,i∈M)(Y:∀x∈L,x.1∈M)(D:∀i∈B,gt ops i=true)
  (j:∀listed a F w,R w0 w->F w->Q listed a F->wpAny P md ops Q' g listed a w) :
  ∀(f:Nat) (listed:Array Bool) (a:Act) (F:World->Prop) (w:World),Inv md ops M base listed->R w0 w->F w->(∀w w',R w w'->F w->F w') ->
   kW P md ops R w0 B L Q f listed a F->wpAny P md ops Q' (f+g) listed a w:=by
 intro f
 induction f with
 | zero =>
  intro listed a F w _ H I _ h;rw[Nat.zero_add];exact j _ _ _ _ H I h
 | succ f ih =>
  intro listed a F w J H I E h;rw[show f+1+g=(f+g)+1 by omega];refine⟨fun h0=>absurd h0 h.1,fun i hi=>?_⟩;rcases h.2 i hi with⟨K,k⟩|⟨x,hx,rfl,o,l,Z,n,s⟩
  .exact qc (C:=R w0) (D i K) H (fun t b=>ih _ t F w (J.set (X i K) hi) H I E b) k
  .have N:=J.set (Y x hx) hi
   have step:∀v w',R w w'->x.2 v w'->wpAny P md ops Q' (f+g) (listed.setIfInBounds x.1 true) (a.put o.dst v) w':=fun v w' O S =>
    ih _ _ _ w' N (d.trans H O) ⟨E _ _ O I,S⟩ (fun y z T U=>⟨E _ _ T U.1,V x hx _ _ _ T U.2⟩) (s v ⟨w',S⟩)
   unfold wpOp;simp only[l];rw[if_pos Z];refine .inl ?_;have A:=n w H I;unfold Oper.wp;generalize (execOp a.eval o).run P w=r at *
   cases r with
   | ok m w' =>
    cases m<;>simp only[mr] at A<;>simp only[Oper.upon]
    case value u=>exact step u w' A.1 A.2
    case skip=>exact step undef w' A.1 A.2
    case enter f' args =>
     obtain⟨rfl,G⟩:=A;exact G.mono fun e c ⟨v,he,U,h2⟩=>by subst he;exact step v c U h2
   | halt q w'=>simp only[mr] at A
theorem t8{B M:List Nat}{L:List lQ}{Q:Array Bool->Act->(World->Prop)->Prop}{base Y:Array Bool}{i:Nat}{G:Oper}{v:Value}(hi:ops[i]?=some G)(D:∀(j:Nat) (o:Oper) cs b,ops[j]?=some o->o.op≠.select cs b)
  (hc:ed md ops base M=true) (Z:∀i∈B,i∈M) (K:i∈B) (c:∀j∈M,Y.getD j true=true) (hQ:∀listed a F,Q listed a F->listed=Y) :
  ∀(f:Nat) (listed:Array Bool) (a:Act) (F:World->Prop),Inv md ops M base listed ->
   (∀j U,ops[j]?=some U->j≠i->listed.getD j true=false->(∀e∈U.after,Region.binds md e=true->e.on≠i)->G.apart ops U=true) ->
   i∈Region.ready md ops listed->YieldsIn P ops (R w0) G v a ->
   kW P md ops R w0 B L Q f (listed.setIfInBounds i true) (a.put G.dst v) F->kW P md ops R w0 B L Q (f+1) listed a F:=by
 intro f
 induction f with
 | zero =>
  intro listed a F I _ N d H;have C:=(mem_ready.1 N).1;refine⟨fun h=>(by rw[h] at N;cases N),fun j V=>?_⟩
  have O:=I.stays hc (Z _ K) C V;by_cases A:j=i
  .subst A;exact .inl ⟨K,d.qOp hi H⟩
  .exfalso
   have S:=ready_mono V A;rw[hQ _ _ _ H] at S;have s:=(mem_ready.1 S).1;rw[c j O] at s
   cases s
 | succ f ih =>
  intro listed a F I J N d H;have C:=(mem_ready.1 N).1;refine⟨fun h=>(by rw[h] at N;cases N),fun j V=>?_⟩
  have O:=I.stays hc (Z _ K) C V;by_cases A:j=i
  .subst A;exact .inl ⟨K,d.qOp hi H⟩
  .have S:=H.2 j (ready_mono V A)
   obtain⟨X,U,T,g⟩:=mem_ready.1 V;have l:∀e∈U.after,Region.binds md e=true->e.on≠i:=fun e he hb t=>by
    have S:=g e he hb;rw[t,getD_both C] at S
    cases S
   have m:=J j U T A X l;have E:∀k ok,ops[k]?=some ok->k≠i->(listed.setIfInBounds j true).getD k true=false ->
     (∀e∈ok.after,Region.binds md e=true->e.on≠i)->G.apart ops ok=true:=fun k ok y z C Aa=>by
    refine J k ok y z ?_ Aa;by_cases n:j=k
    .subst n;exact X
    .rw [getD_set_ne true n] at C;exact C
   rcases S with⟨q,S⟩|⟨x,hx,Ab,o,ho,r,hg,y⟩
   .refine .inl ⟨q,?_⟩
    have s:=qOp_put T m (fun cs b=>D i G cs b hi) (fun cs b=>D j U cs b T) d S;refine qOp_mono (fun a' h3=>ih (listed.setIfInBounds j true) a' F (I.set O V) E (ready_mono N (Ne.symm A)) h3.1 ?_) s;rw[Array.setIfInBounds_comm _ _ A];exact h3.2
   .have:o=U:=Option.some.inj (ho.symm.trans T)
    subst this;obtain⟨g1,g2,g3⟩:=Oper.apart_spec m;refine .inr ⟨x,hx,Ab,o,ho,?_,fun w hw Ac=>?_,fun u hu=>?_⟩
    .rw [wanted_put o a G.dst v g1] at r
     exact r
    .have:=hg w hw Ac
     rw[execOp_put o (fun cs b=>D j o cs b ho) a G.dst v g1] at this;exact this
    .refine ih (listed.setIfInBounds j true) (a.put o.dst u) _ (I.set O V) E (ready_mono N (Ne.symm A)) (d.of_same (execOp_put G (fun cs b=>D i G cs b hi) a o.dst u g3) (wanted_put G a o.dst u g3)) ?_
     rw[Array.setIfInBounds_comm _ _ A,<-Act.put_comm a v u g2];exact y u hu
def lR(P:Program)(ops:Array Oper)(R:World->World->Prop)(w0:World)(Q:Act->(World->Prop)->Prop):List (List Nat × lQ)->Act->(World->Prop)->Prop
 | [],a,F=>Q a F
 | (r,x)::rest,a,F=>wpQuiet P ops (R w0) (fun A=>∃o,ops[x.1]?=some o/\Region.wanted o (yielded ops A.tmps)=true/\(∀w,R w0 w->F w->mr P R x.2 w ((execOp A.eval o).run P w)) /\
   ∀v,(∃w,x.2 v w)->lR P ops R w0 Q rest (A.put o.dst v) (fun w=>F w/\x.2 v w)) (r.filterMap (ops[·]?)) a
def uf(md:Region.Mode)(ops:Array Oper):List (List Nat × Nat)->Array Bool->Bool
 | [],_=>true
 | (r,k)::T,listed=>kM md ops r listed&&decide (Region.ready md ops (lay listed r)=[k])&&uf md ops T ((lay listed r).setIfInBounds k true)
def uX:List (List Nat × Nat)->Array Bool->Array Bool
 | [],s=>s
 | (r,k)::T,s=>uX T ((lay s r).setIfInBounds k true)
def qp:List (List Nat × Nat)->Nat
 | []=>0
 | (r,_)::T=>r.length+(qp T+1)
theorem oT{B M:List Nat}{L:List lQ}{Q:Array Bool->Act->(World->Prop)->Prop}{base G:Array Bool}{F:World->Prop}(A:∀(j:Nat) (o:Oper) cs b,ops[j]?=some o->o.op≠.select cs b)
  (T:ed md ops base M=true) (D:∀i∈B,i∈M) (C:∀j∈M,G.getD j true=true) (U:∀listed a F,Q listed a F->listed=G) (n:Nat) :
  ∀(l:List Nat) (listed:Array Bool) (a:Act) (K:Act->Prop),(∀i∈l,i∈B)->Inv md ops M base listed->kM md ops l listed=true ->
   (∀V,Inv md ops M base (lay listed l)->K V->kW P md ops R w0 B L Q n (lay listed l) V F)->wpQuiet P ops (R w0) K (l.filterMap (ops[·]?)) a->kW P md ops R w0 B L Q (l.length+n) listed a F
 | [],listed,a,K,_,inv,_,hK,h=>by
  rw[List.length_nil,Nat.zero_add];exact hK a inv h
 | i::l,listed,a,K,hl,inv,hsq,hK,h=>by
  simp only[kM,Bool.and_eq_true] at hsq;obtain⟨⟨X,N⟩,O⟩:=hsq;have E:i∈Region.ready md ops listed:=by simpa using X
  obtain⟨_,o,H,_⟩:=mem_ready.1 E;have I:=hl i List.mem_cons_self;have J:qOp P ops (R w0) i (wpQuiet P ops (R w0) K (l.filterMap (ops[·]?))) a:=by
   unfold qOp;simp only[H];rw[List.filterMap_cons_some H] at h;exact h
  obtain⟨v,Y,S⟩:=yieldsIn_of_qOp H J;have:=oT A T D C U n l (listed.setIfInBounds i true) _ K (fun k Z=>hl k (List.mem_cons_of_mem _ Z)) (inv.set (D _ I) E) O hK S;rw[show (i::l).length+n=(l.length+n)+1 by simp only[List.length_cons];omega]
  exact t8 H A T D I C U _ listed a F inv (Region.free_spec H N) E Y this
theorem oS{B M:List Nat}{L0:List lQ}{Qf:Act->(World->Prop)->Prop}{base E:Array Bool}(C:∀(j:Nat) (o:Oper) cs b,ops[j]?=some o->o.op≠.select cs b)
  (L:ed md ops base M=true) (G:∀i∈B,i∈M) (H:∀x∈L0,x.1∈M) (D:∀j∈M,E.getD j true=true) :
  ∀(S:List (List Nat × lQ)) (listed:Array Bool) (a:Act) (F:World->Prop),(∀s∈S,(∀i∈s.1,i∈B)/\s.2∈L0)->Inv md ops M base listed->uf md ops (S.map fun s=>(s.1,s.2.1)) listed=true->uX (S.map fun s=>(s.1,s.2.1)) listed=E ->
  lR P ops R w0 Qf S a F->kW P md ops R w0 B L0 (fun A N Q=>A=E/\Qf N Q) (qp (S.map fun s=>(s.1,s.2.1))) listed a F
 | [],_,_,_,_,_,_,hf,h=>⟨hf,h⟩
 | (r,x)::S,listed,a,F,hS,inv,hs,hf,h=>by
  simp only[List.map_cons,uf,Bool.and_eq_true,decide_eq_true_eq] at hs;have h0:=hS (r,x) List.mem_cons_self;refine oT C L G D (fun _ _ _ T=>T.1) _ r listed a _ h0.1 inv hs.1.1 (fun N I U=>?_) h;refine⟨fun O=>(by rw[hs.1.2] at O;cases O),fun i hi=>?_⟩
  have J:=hi;rw[hs.1.2] at hi;have K:i=x.1:=by simpa using hi
  subst K;obtain⟨o,V,k2,k3,k4⟩:=U;exact .inr ⟨x,h0.2,rfl,o,V,k2,k3,fun v X=>oS C L G H D S _ _ _ (fun y Y=>hS y (List.mem_cons_of_mem _ Y)) (I.set (H x h0.2) J) hs.2 hf (k4 v X)⟩
def oy(S:List (List Nat × Nat)):List Nat:=S.flatMap fun s=>s.1++[s.2]
def sY(md:Region.Mode)(ops:Array Oper)(base:Array Bool)(S:List (List Nat × Nat)):Bool :=
 Region.noSelect ops&&decide (base.size=ops.size)&&ed md ops base (oy S)&&(S.all fun s=>s.1.all fun i=>gt ops i)&&uf md ops S base&&(oy S).all fun j=>(uX S base).getD j true
theorem wpAny_turns{Q':Exit->Act->World->Prop}{a:Act}{w:World}{base:Array Bool}{N fuel:Nat}(X:Rely R)(L:R w0 w)(S:List (List Nat × lQ))(U:sY md ops base (S.map fun s=>(s.1,s.2.1))=true)(M:∀s∈S,io R s.2.2)(Y:N=qp (S.map fun s=>(s.1,s.2.1))+fuel)
  (h:lR P ops R w0 (fun V F=>∀w',R w0 w'->F w'->wpAny P md ops Q' fuel (uX (S.map fun s=>(s.1,s.2.1)) base) V w') S a (fun _=>True)):wpAny P md ops Q' N base a w:=by
 simp only[sY,Bool.and_eq_true,decide_eq_true_eq] at U
 obtain⟨⟨⟨⟨⟨E,G⟩,Z⟩,C⟩,O⟩,H⟩:=U
 subst Y
 have D:=Region.noSelect_spec E
 have I:∀s∈S,(∀i∈s.1,i∈oy (S.map fun s=>(s.1,s.2.1)))/\s.2.1∈oy (S.map fun s=>(s.1,s.2.1)):=fun s A =>
  ⟨fun i hi=>List.mem_flatMap.2 ⟨(s.1,s.2.1),List.mem_map.2 ⟨s,A,rfl⟩,List.mem_append_left _ hi⟩,List.mem_flatMap.2 ⟨(s.1,s.2.1),List.mem_map.2 ⟨s,A,rfl⟩,List.mem_append_right _ (List.mem_singleton.2 rfl)⟩⟩
 have Q:∀i∈S.flatMap (·.1),gt ops i=true:=fun i hi=>by
  obtain⟨s,A,hi⟩:=List.mem_flatMap.1 hi;exact List.all_eq_true.1 (List.all_eq_true.1 C (s.1,s.2.1) (List.mem_map.2 ⟨s,A,rfl⟩)) i hi
 have J:∀i∈S.flatMap (·.1),i∈oy (S.map fun s=>(s.1,s.2.1)):=fun i hi=>by
  obtain⟨s,A,hi⟩:=List.mem_flatMap.1 hi;exact(I s A).1 i hi
 have K:∀x∈S.map (·.2),x.1∈oy (S.map fun s=>(s.1,s.2.1)):=fun x hx=>by
  obtain⟨s,A,rfl⟩:=List.mem_map.1 hx;exact(I s A).2
 have b:=oS (P:=P) (R:=R) (w0:=w0) (B:=S.flatMap (·.1)) (L0:=S.map (·.2)) D Z J K (fun j c=>List.all_eq_true.1 H j c) S base a (fun _=>True) (fun s A=>⟨fun i hi=>List.mem_flatMap.2 ⟨s,A,hi⟩,List.mem_map_of_mem A⟩) (Inv.refl G) O rfl h
 refine sk X (fun x hx=>?_) J K Q (fun listed V F w' T d f=>by obtain⟨rfl,g⟩:=f;exact g w' T d) _ base a _ w (Inv.refl G) L trivial (fun _ _ _ h=>h) b
 obtain⟨s,A,rfl⟩:=List.mem_map.1 hx
 exact M s A
end
def wpItem(P:Program)(l:List Oper)(x:lQ)(w:World)(K:Act->(World->Prop)->Prop)(F:World->Prop)(a:Act):Prop :=
 ∃o,l.toArray[x.1]?=some o/\Region.wanted o (yielded l.toArray a.tmps)=true/\(∀w',GR w w'->F w'->mr P GR x.2 w' ((execOp a.eval o).run P w'))/\∀v,(∃w,x.2 v w)->K (a.put o.dst v) (fun w=>F w/\x.2 v w)
def gU(P:Program)(l:List Oper)(w:World)(Q:Act->(World->Prop)->Prop):List (List Nat × lQ)->Act->(World->Prop)->Prop
 | [],a,F=>Q a F
 | (r,x)::rest,a,F=>wpQuiet P l.toArray (fun w'=>∃p:eY,w'=ab w p) (wpItem P l x w (gU P l w Q rest) F) (pick l r) a
theorem aw{P:Program}{l:List Oper}{w:World}{Q:Act->(World->Prop)->Prop}{r:List Nat}{x:lQ}{rest:List (List Nat × lQ)}{a:Act}{F:World->Prop}(h:wpQuiet P l.toArray (fun w'=>∃p:eY,w'=ab w p) (wpItem P l x w (gU P l w Q rest) F) (pick l r) a):gU P l w Q ((r,x)::rest) a F:=h
theorem eQ{P:Program}{ops:Array Oper}{C:World->Prop}{K K':Act->Prop}(h:∀a,K a->K' a):∀{L:List Oper} {a:Act},wpQuiet P ops C K L a->wpQuiet P ops C K' L a
 | [],a,hh=>h a hh
 | o::L,a,hh=>by
  unfold wpQuiet at hh ⊢;split
  .rename_i hw
   simp only[hw,if_true] at hh;exact Oper.quiet_mono (fun a=>eQ h) hh
  .rename_i hw
   simp only[hw] at hh;exact eQ h hh
theorem kV{P:Program}{l:List Oper}{w:World}{Q:Act->(World->Prop)->Prop}:∀(S:List (List Nat × lQ)) (a:Act) (F:World->Prop),(S.all (fun s=>s.1.all fun i=>decide (i<l.length)))=true->gU P l w Q S a F->lR P l.toArray GR w Q S a F
 | [],_,_,_,h=>h
 | (r,x)::S,a,F,hS,h=>by
  simp only[List.all_cons,Bool.and_eq_true] at hS;unfold gU at h;rw[<-fy l r hS.1] at h;exact eQ (fun B ⟨o,k1,k2,k3,k4⟩=>⟨o,k1,k2,k3,fun v A=>kV S _ _ hS.2 (k4 v A)⟩) h
theorem mM{P:Program}{Q:Exit->Act->World->Prop}{a:Act}{w:World}{l:List Oper}{base:Array Bool}{N:Nat}(S:List (List Nat × lQ))(T:List Nat)
  (C:(S.all (fun s=>s.1.all fun i=>decide (i<l.length))&&T.all (fun i=>decide (i<l.length))&&sY .any l.toArray base (S.map fun s=>(s.1,s.2.1))&&decide (qp (S.map fun s=>(s.1,s.2.1))+T.length=N)&&pA .any l.toArray T (uX (S.map fun s=>(s.1,s.2.1)) base))=true)
  (B:∀s∈S,io GR s.2.2) (h:gU P l w (fun A F=>∀w',GR w w'->F w'->wpList P l.toArray Q (pick l T) A w') S a (fun _=>True)):wpAny P .any l.toArray Q N base a w.drew:=by
 simp only[Bool.and_eq_true,decide_eq_true_eq] at C
 obtain⟨⟨⟨⟨g1,E⟩,G⟩,M⟩,H⟩:=C
 rw[<-fy l T E] at h
 refine wpAny_turns (fuel:=T.length) uB (GR.of (Below.refl _ _).drew) S G B (by omega) ?_
 have I:=kV S a (fun _=>True) g1 h
 have key:∀(L0:List (List Nat × lQ)) (a:Act) (F:World->Prop),lR P l.toArray GR w (fun A F=>∀w',GR w w'->F w'->wpList P l.toArray Q (T.filterMap (fun i=>l.toArray[i]?)) A w') L0 a F ->
   lR P l.toArray GR w (fun D F=>∀w',GR w w'->F w'->wpAny P .any l.toArray Q T.length (uX (S.map fun s=>(s.1,s.2.1)) base) D w') L0 a F:=by
  intro L0;induction L0 with
  | nil=>intro a F h w' J K;exact fl T _ a w' H (h w' J K)
  | cons s L0 ih =>
   obtain⟨r,x⟩:=s;intro a F h;exact eQ (fun D ⟨o,k1,k2,k3,k4⟩=>⟨o,k1,k2,k3,fun v L=>ih _ _ (k4 v L)⟩) h
 exact key _ _ _ I
theorem aE{P:Program}{C:Nat}{Q:Exit->Act->World->Prop}{a:Act}{w:World}{l:List Oper}(S:List (List Nat × lQ))(T:List Nat)(D:P.follows .mixedOrders=true)
  (E:(S.all (fun s=>s.1.all fun i=>decide (i<l.length))&&T.all (fun i=>decide (i<l.length))&&sY .any l.toArray (Array.replicate l.length false) (S.map fun s=>(s.1,s.2.1))&&decide (qp (S.map fun s=>(s.1,s.2.1))+T.length=l.length)&&pA .any l.toArray T (uX (S.map fun s=>(s.1,s.2.1)) (Array.replicate l.length false)))=true)
  (A:∀s∈S,io GR s.2.2)
  (h:gU P l w (fun B F=>∀w',GR w w'->F w'->wpList P l.toArray Q (pick l T) B w') S a (fun _=>True)):(Code.region C l.toArray true).wp P Q a w :=
 cP D (mM S T E A h)
theorem kT{P:Program}{E:Nat}{Q:Exit->Act->World->Prop}{a:Act}{w:World}{l:List Oper}(M:List Nat)(S:List (List Nat × lQ))(T:List Nat)(G:P.follows .mixedOrders=true)
  (D:(M.all (fun i=>decide (i<l.length))&&Region.noSelect l.toArray&&tz l.toArray M&&kM .any l.toArray M (Array.replicate l.length false)&&decide (M.length<=l.length))=true)
  (H:(S.all (fun s=>s.1.all fun i=>decide (i<l.length))&&T.all (fun i=>decide (i<l.length))&&sY .any l.toArray (lay (Array.replicate l.length false) M) (S.map fun s=>(s.1,s.2.1))&&decide (qp (S.map fun s=>(s.1,s.2.1))+T.length=l.length-M.length)&&pA .any l.toArray T (uX (S.map fun s=>(s.1,s.2.1)) (lay (Array.replicate l.length false) M)))=true)
  (A:∀s∈S,io GR s.2.2)
  (h:wpQuiet P l.toArray (fun _=>True) (fun I=>gU P l w (fun B F=>∀w',GR w w'->F w'->wpList P l.toArray (Qn Q) (pick l T) B w') S I (fun _=>True)) (pick l M) a):(Code.region E l.toArray true).wp P Q a w:=by
 simp only[Bool.and_eq_true,decide_eq_true_eq] at D
 obtain⟨⟨⟨⟨g1,h0⟩,J⟩,K⟩,L⟩:=D
 rw[<-fy l M g1] at h
 refine cP G (qg _ _ _ _ ?_)
 have:=kY (Q:=Qn Q) (w:=w.drew) (fuel:=l.length-M.length) h0 (fun _ _ _ _ _ h=>h.elim) M (Array.replicate l.length false) a J K rfl (fun N C=>mM S T H A C) h
 rwa [show M.length+(l.length-M.length)=l.length by omega] at this
end Batch
end
section
open Go.RowKit Mem Led
def fe:Led.Op:=⟨0,0,[],⟨0,[],[],0,[]⟩,⟨[],[],0,false⟩,⟨[],[],0,0,[]⟩,⟨[],[],0,0⟩,⟨[],0,[]⟩⟩
theorem jv_snoc(L:List Jwk)(k:Jwk):jv (L++[k])=jv L++[tx k.kid,tx k.x]:=by simp[jv]
end
section
open Go.RowKit Mem Led
theorem kn:(prog.info? 47).map (·.size)=some 24:=by kernel_rfl
def lu(x:Value):Sem Value:=Instr.loadAt 47 x
def uj(x v:Value):Sem Unit:=Instr.storeAt 47 x v
theorem sF(x:Value):Instr.loadAt 47 x=lu x:=rfl
theorem qR(x v:Value):Instr.storeAt 47 x v=uj x v:=rfl
attribute [go_sem ↓] sF qR
theorem Blk.has{w:World}{g n:Nat}{cs:List Value}{t:TypeId}(h:Blk w g cs t)(A:cs.length=n):Has w g 0 n:=fun j B=>by
 rw[Nat.zero_add,h.cell j,List.getElem?_eq_getElem (by omega)]
 rfl
theorem Blk.arr{w:World}{g n:Nat}{cs:List Value}{t:TypeId}(h:Blk w g cs t)(A:cs.length=n):arr w g 0 n=cs.toArray:=(tZ (n:=n) h (by simpa using A)).1
theorem eS{w:World}{g:Nat}{cs:List Value}{t:TypeId}(h:Blk w g cs t)(A:cs.length=24):(lu (.pointer (some ⟨g,0,none⟩))).run prog w=.ok (.agg cs.toArray) w:=by
 have:=bH (P:=prog) w 47 g 0 24 _ underlying47 rfl kn (h.has A)
 rw[h.arr A] at this
 exact this
theorem iu:∀(vs:List Value) (w:World) (g k:Nat) (cs:List Value) (t:TypeId),Blk w g cs t->k+vs.length<=cs.length->Blk (w.setCells g k vs) g (cs.take k++vs++cs.drop (k+vs.length)) t
 | [],w,g,k,cs,t,h,_=>by simpa [World.setCells] using h
 | v::vs,w,g,k,cs,t,h,hk=>by
  have ih:=iu vs (w.setCell ⟨g,k,none⟩ v) g (k+1) (cs.set k v) t (h.set k v) (by simp at hk ⊢;omega)
  have e:(cs.set k v).take (k+1)++vs++(cs.set k v).drop (k+1+vs.length)=cs.take k++v::vs++cs.drop (k+(v::vs).length):=by
   have A:k<cs.length:=by simp at hk;omega
   rw[List.take_set,List.drop_set_of_lt (by omega),List.length_cons,show k+1+vs.length=k+(vs.length+1) by omega];have:(cs.take (k+1)).set k v=cs.take k++[v]:=by
    rw[<-List.take_append_getElem A,List.set_append_right _ _ (by rw[List.length_take];omega)]
    simp[Nat.min_eq_left (Nat.le_of_lt A)]
   rw[this];simp
  rw[e] at ih;exact ih
theorem store_op{w:World}{g:Nat}{cs vs:List Value}{t:TypeId}(h:Blk w g cs t)(A:cs.length=24)(B:vs.length=24)(D:∀v∈vs,v.oneCell'=true) :
  (uj (.pointer (some ⟨g,0,none⟩)) (.agg vs.toArray)).run prog w=.ok () (w.setCells g 0 vs)/\Blk (w.setCells g 0 vs) g vs t:=by
 have E:=bu (P:=prog) w 47 g 0 24 kn vs.toArray ⟨by simpa using B,by simpa using D⟩ (h.has A) (fun j _=>h.froz _)
 have C:=iu vs w g 0 cs t h (by omega)
 simp[B,<-A] at C
 exact⟨E,C⟩
theorem fS{P:Program}{B:Func}{p s:Tmp}{ty:TypeId}(h:B.results=#[.cell p ty,.tmp s])(tmps:Array Value)(w:World)(g o n:Nat)(d:TypeDesc)
  (D:tmps.getD p undef=.pointer (some ⟨g,o,none⟩)) (E:P.underlying ty=some d) (hd:(match d with|.struct _|.array _ _=>true|_=>false)=true) (hi:(P.info? ty).map (·.size)=some n) (F:Has w g o n) :
  (results B tmps).run P w=.ok (.tuple #[.agg (Mem.arr w g o n),tmps.getD s undef]) w:=by
 have A:tmps[p]?.getD undef=.pointer (some ⟨g,o,none⟩):=by simpa using D
 have C:=bH (P:=P) w ty g o n d E hd hi F
 simp only[Instr.loadAt,Instr.sureAddr,Sem.run_bind,Sem.run_pure,Result.andThen_ok] at C
 simp[results,h,A,asAddr,C]
theorem opCells_one(o:Led.Op)(A B:Option Addr)(n c n' D:Nat):∀v∈ac o (.slice A n c) (.slice B n' D),v.oneCell'=true:=by
 intro v C
 simp only[ac,List.mem_cons,List.not_mem_nil,or_false] at C
 rcases C with rfl|rfl|rfl|rfl|rfl|rfl|rfl|rfl|rfl|rfl|rfl|rfl|rfl|rfl|rfl|rfl|rfl|rfl|rfl|rfl|rfl|rfl|rfl|rfl<;>rfl
end
section
open Go.RowKit Mem
def jB:List Value:=[.int .i64 0,.int .i64 0,.slice none 0 0,.slice none 0 0,.slice none 0 0,.slice none 0 0,.slice none 0 0,.slice none 0 0]
def bB(b s:Int)(A B C D:Nat)(K:Option Addr)(E G:Nat)(F:Option Addr)(H I:Nat):List Value :=
 [.int .i64 b,.int .i64 s,.slice (some ⟨A,0,none⟩) 3 3,.slice (some ⟨B,0,none⟩) 3 3,.slice (some ⟨C,0,none⟩) 3 3,.slice (some ⟨D,0,none⟩) 3 3,.slice K E G,.slice F H I]
theorem kI(b s:Int)(A B C D:Nat)(K:Option Addr)(G H:Nat)(F:Option Addr)(I J:Nat):∀v∈bB b s A B C D K G H F I J,v.oneCell'=true:=by
 intro v E
 simp only[bB,List.mem_cons,List.not_mem_nil,or_false] at E
 rcases E with rfl|rfl|rfl|rfl|rfl|rfl|rfl|rfl<;>rfl
theorem of_first(w:World):∃D,(uk (.pointer (some ⟨w.heap.size+1+1+1+1+1,0,none⟩)) (.agg #[.int .i64 64,.int .i64 80,.slice (some ⟨w.heap.size+1,0,none⟩) 3 3,.slice (some ⟨w.heap.size+1+1,0,none⟩) 3 3,.slice (some ⟨w.heap.size+1+1+1,0,none⟩) 3 3,.slice (some ⟨w.heap.size+1+1+1+1,0,none⟩) 3 3,.slice none 0 0,.slice none 0 0])).run prog
  ((((((w.alloc (.cells #[.int .i64 0,.int .i64 0,.slice none 0 0,.slice none 0 0,.slice none 0 0,.slice none 0 0,.slice none 0 0,.slice none 0 0] 114)).alloc (.cells #[.int .i64 28,.int .i64 34,.int .i64 39] 3)).alloc (.cells #[.int .i64 14,.int .i64 18,.int .i64 41] 3)).alloc (.cells #[.int .i64 1,.int .i64 8,.int .i64 7] 3)).alloc (.cells #[.int .i64 19,.int .i64 61,.int .i64 6] 3)).alloc
   (.cells #[.int .i64 0,.int .i64 0,.slice none 0 0,.slice none 0 0,.slice none 0 0,.slice none 0 0,.slice none 0 0,.slice none 0 0] 114))=.ok () D/\Blk D w.heap.size jB 114/\(∃cs,cs.length=8/\Blk D (w.heap.size+1+1+1+1+1) cs 114)/\eF w D:=by
 obtain⟨A,B⟩:=eC ((((((w.alloc (.cells jB.toArray 114)).alloc (.cells #[.int .i64 28,.int .i64 34,.int .i64 39] 3)).alloc (.cells #[.int .i64 14,.int .i64 18,.int .i64 41] 3)).alloc (.cells #[.int .i64 1,.int .i64 8,.int .i64 7] 3)).alloc (.cells #[.int .i64 19,.int .i64 61,.int .i64 6] 3)))
 have I:A.heap.size=w.heap.size+1+1+1+1+1:=by rw[<-B];simp
 have L:Blk A w.heap.size jB 114:=by rw[<-B];exact((((Blk.new w jB _).alloc _).alloc _).alloc _).alloc _
 have J:eF w A:=by rw[<-B];exact(((eI.alloc (by simp) _).alloc (by simp;omega) _).alloc (by simp;omega) _).alloc (by simp;omega) _
 have K:=Blk.new A jB 114
 obtain⟨G,H⟩:=pH K rfl (vs:=bB 64 80 (w.heap.size+1) (w.heap.size+1+1) (w.heap.size+1+1+1) (w.heap.size+1+1+1+1) none 0 0 none 0 0) rfl (kI _ _ _ _ _ _ _ _ _ _ _ _)
 have E:Chg [] A ((A.alloc (.cells jB.toArray 114)).setCells A.heap.size 0 (bB 64 80 (w.heap.size+1) (w.heap.size+1+1) (w.heap.size+1+1+1) (w.heap.size+1+1+1+1) none 0 0 none 0 0)):=((Chg.refl _ _).alloc _).setCells _ (.inr eH)
 have C:=E.below (by simp)
 obtain⟨D,F⟩:=eC ((A.alloc (.cells jB.toArray 114)).setCells A.heap.size 0 (bB 64 80 (w.heap.size+1) (w.heap.size+1+1) (w.heap.size+1+1+1) (w.heap.size+1+1+1+1) none 0 0 none 0 0))
 rw[F] at G H C
 rw[I] at G H
 clear F E K I
 refine⟨D,?_,L.below C,⟨_,rfl,H⟩,J.trans (C.mono J.size)⟩
 rw[<-B] at G
 exact G
theorem of_second(w:World)(g:Nat)(cs:List Value)(K:cs.length=8)(I:Blk w g cs 114):∃D,(uk (.pointer (some ⟨g,0,none⟩)) (.agg #[.int .i64 32,.int .i64 64,.slice (some ⟨w.heap.size,0,none⟩) 3 3,.slice (some ⟨w.heap.size+1,0,none⟩) 3 3,.slice (some ⟨w.heap.size+1+1,0,none⟩) 3 3,.slice (some ⟨w.heap.size+1+1+1,0,none⟩) 3 3,.slice none 0 0,.slice none 0 0])).run prog
  ((((w.alloc (.cells #[.int .i64 2,.int .i64 13,.int .i64 22] 3)).alloc (.cells #[.int .i64 6,.int .i64 11,.int .i64 25] 3)).alloc (.cells #[.int .i64 7,.int .i64 18,.int .i64 3] 3)).alloc (.cells #[.int .i64 17,.int .i64 19,.int .i64 10] 3))=.ok () D /\
  Blk D g (bB 32 64 w.heap.size (w.heap.size+1) (w.heap.size+1+1) (w.heap.size+1+1+1) none 0 0 none 0 0) 114/\Chg [g] w D /\
  Blk D w.heap.size (iv [2,13,22]) 3/\Blk D (w.heap.size+1) (iv [6,11,25]) 3/\Blk D (w.heap.size+1+1) (iv [7,18,3]) 3/\Blk D (w.heap.size+1+1+1) (iv [17,19,10]) 3:=by
 obtain⟨C,A⟩:=eC (((((w.alloc (.cells (iv [2,13,22]).toArray 3)).alloc (.cells (iv [6,11,25]).toArray 3)).alloc (.cells (iv [7,18,3]).toArray 3)).alloc (.cells (iv [17,19,10]).toArray 3)))
 have Q:=I.lt
 have R:w.heap.size<=C.heap.size:=by rw[<-A];simp;omega
 have L:Blk C w.heap.size (iv [2,13,22]) 3:=by rw[<-A];exact(((Blk.new w _ _).alloc _).alloc _).alloc _
 have M:Blk C (w.heap.size+1) (iv [6,11,25]) 3:=by
  have:=Blk.new (w.alloc (.cells (iv [2,13,22]).toArray 3)) (iv [6,11,25]) 3;rw[<-A];simpa using (this.alloc _).alloc _
 have N:Blk C (w.heap.size+1+1) (iv [7,18,3]) 3:=by
  have:=Blk.new ((w.alloc (.cells (iv [2,13,22]).toArray 3)).alloc (.cells (iv [6,11,25]).toArray 3)) (iv [7,18,3]) 3;rw[<-A];simpa using this.alloc _
 have O:Blk C (w.heap.size+1+1+1) (iv [17,19,10]) 3:=by
  have:=Blk.new (((w.alloc (.cells (iv [2,13,22]).toArray 3)).alloc (.cells (iv [6,11,25]).toArray 3)).alloc (.cells (iv [7,18,3]).toArray 3)) (iv [17,19,10]) 3;rw[<-A];simpa using this
 have F:Blk C g cs 114:=by rw[<-A];exact(((I.alloc _).alloc _).alloc _).alloc _
 have G:Chg [g] w C:=by rw[<-A];exact((((Chg.refl _ _).alloc _).alloc _).alloc _).alloc _
 obtain⟨H,J⟩:=pH F K (vs:=bB 32 64 w.heap.size (w.heap.size+1) (w.heap.size+1+1) (w.heap.size+1+1+1) none 0 0 none 0 0) rfl (kI _ _ _ _ _ _ _ _ _ _ _ _)
 have B:Chg [g] C (C.setCells g 0 (bB 32 64 w.heap.size (w.heap.size+1) (w.heap.size+1+1) (w.heap.size+1+1+1) none 0 0 none 0 0)):=(Chg.refl _ _).setCells _ (.inl (by simp))
 obtain⟨D,E⟩:=eC (C.setCells g 0 (bB 32 64 w.heap.size (w.heap.size+1) (w.heap.size+1+1) (w.heap.size+1+1+1) none 0 0 none 0 0))
 rw[E] at H J B
 clear E
 refine⟨D,?_,J,G.and B,L.chg B (by simp;omega),M.chg B (by simp;omega),N.chg B (by simp;omega),O.chg B (by simp;omega)⟩
 rw[<-A] at H
 exact H
theorem chg_below{S:List Nat}{a w w':World}(h:Chg S a w)(k:Below a.heap.size w w'):Chg S a w':=⟨k.os.trans h.os,k.tape.trans h.tape,k.output.trans h.output,Nat.le_trans h.size k.size,fun i hi A=>(k.block i hi).trans (h.block i hi A)⟩
theorem tX(A B C D:Nat)(K:Option Addr)(E G:Nat)(F:Option Addr)(H I:Nat):H32 (bB 32 64 A B C D K E G F H I):=⟨rfl,rfl,rfl,kI _ _ _ _ _ _ _ _ _ _ _ _⟩
theorem tY{w w':World}{g:Nat}{cs:List Value}{t:TypeId}(h:Blk w g cs t){row:Option Nat}(B:w.grownBy w' row)(A:row≠some g):Blk w' g cs t:=by
 unfold Blk
 rw[B.block g h.lt (fun e=>A e.symm)]
 exact h
theorem rof_any(w:World):Calls prog 77 #[.int .i64 32] w fun e w'=>∃hc A B C D K cK F cF,e=.returned (.agg hc.toArray)/\HIn w' hc A 3 B 3 C 3 D 3 K cK F cF/\eF w w':=by
 obtain⟨i1,A2,A3,A4,A5⟩:=an infoW
 go_enter func77,ntmps77
 obtain⟨W2,A6,AK,⟨AL,AM,A7⟩,AN⟩:=of_first w
 obtain⟨W4,A8,A9,Ab,a1,a2,a3,a4⟩:=of_second W2 _ AL AM A7
 go_wp2_with fail
 refine(rprimes_any _).mono ?_
 rintro e w5 ⟨Ap,cp,rfl,hp,k⟩
 clear A6 A8
 have Bb:w.heap.size<w.heap.size+1+1+1+1+1:=by omega
 generalize w.heap.size+1+1+1+1+1=L at *
 have Bc:=A9.lt
 have Aq:=A9.below k
 have c1:=a1.below k
 have c2:=a2.below k
 have c3:=a3.below k
 have c4:=a4.below k
 have AA:=Aq.lt
 have Bd:W2.heap.size<=W4.heap.size:=Ab.size
 have Be:=A7.lt
 have AO:Blk w5 w.heap.size jB 114:=(AK.chg Ab (by simp;omega)).below k
 have AP:Chg [L] w w5:=((Chg.of_below AN).trans (S':=[L]) Ab (fun s hs=>.inl hs)).and_below k
 generalize W2.heap.size=E at *
 obtain⟨gp,j,rfl,Am,Ar⟩:=dY hp (by omega)
 have AB:=hp.len
 have AQ:gp≠L:=by
  rintro rfl;have h0:=Ar 0 _ (dy _ (by omega));rw[pT] at h0;have h1:=(Aq.cell (j+0)).symm.trans h0;rw[show (Sha.pr 408).getD 0 0=2 by decide +kernel] at h1;have Bf:j+0<8:=(List.getElem?_eq_some_iff.1 h1).1;have As:j+0=0\/j+0=1\/j+0=2\/j+0=3\/j+0=4\/j+0=5\/j+0=6\/j+0=7:=by omega
  rcases As with h|h|h|h|h|h|h|h<;>rw[h] at h1<;>simp[bB] at h1
 have AC:=eA AB
 have AD:=eA Ar
 have An:gp∉[L]:=by simpa using AQ
 clear hp Ar AB
 go_wp2_with fail
 go_loopw [5] (fun i wx=>∃(t:Nat) (O:Option Addr) (Q:Nat),t<=64/\i=.int .i64 (t:Int)/\t<=Q/\Chg [L] w5 wx/\Blk wx L (bB 32 64 E (E+1) (E+1+1) (E+1+1+1) O t Q none 0 0) 114/\wx.ownsRow w5.heap.size 151 1 (.slice O t Q) t (wv (Sha.bJ 3 t))) (fun i _=>64-(intOf i).toNat)
 case atStart=>exact⟨0,none,0,by omega,rfl,by omega,Chg.refl _ _,Aq,World.ownsRow_nil _ _ _ _⟩
 case round =>
  obtain⟨t,O,Q,ht,rfl,AE,M,I,J⟩:=hrel;have k1:wr.cell? ⟨L,1,none⟩=some (.int .i64 64):=I.cell 1;by_cases Au:t<64
  .have Ac:wr.cell? ⟨gp,j+t,none⟩=some (.int .i64 ((Sha.pr 408).getD t 0:Nat)):=by
    rw[M.cell (p:=⟨gp,j+t,none⟩) Am An];have:=AD.out t _ (dy _ (by rw[AC.out];omega))
    rwa [pT] at this
   have HS:=eA (show Sha.bJ 3 (t+1)=Sha.bJ 3 t++[Sha.mW (((Sha.pr 408).getD t 0:Nat):Int) 3 / 4294967296] from rfl);generalize (Sha.pr 408).getD t 0=pp at *;have Ad:=Sha.ux (pp:Int) 3;have Av:=eA (rroot3_any (pp:Int));have R:H32 (bB 32 64 E (E+1) (E+1+1) (E+1+1+1) O t Q none 0 0):=tX _ _ _ _ _ _ _ _ _ _;have AF:=eA R;have V:=eA (rtop_any (bB 32 64 E (E+1) (E+1+1) (E+1+1+1) O t Q none 0 0) R (Sha.mW (pp:Int) 3) Ad);generalize Sha.mW (pp:Int) 3=rt at *;obtain⟨X,hX⟩:=eC (rt / 4294967296);rw[hX] at HS V;have f1:∀p,(ab wr p).cell? ⟨L,6,none⟩=some (.slice O t Q):=fun p=>(ap I.lt p).trans (I.cell 6);have Aw:∀p,(eZ (.pointer (some ⟨L,0,none⟩))).run prog (ab wr p)=.ok (.agg (bB 32 64 E (E+1) (E+1+1) (E+1+1+1) O t Q none 0 0).toArray) (ab wr p):=fun p=>ja (I.below (aa wr p)) rfl;have f2:∀p,(ab wr p).cell? ⟨gp,j+t,none⟩=some (.int .i64 (pp:Int)):=fun p=>(ap (Nat.lt_of_lt_of_le Am M.size) p).trans Ac;have i0:(0:Int)<=(t:Int):=by omega
   have i2:(t:Int)<80:=by omega
   generalize hCS:(bB 32 64 E (E+1) (E+1+1) (E+1+1+1) O t Q none 0 0).toArray=CS at *;have AR:=eA hCS;have Ax:t+1<=maxLen:=by unfold maxLen;omega
   clear hCS Ac hX Ad R;go_wp2_with fail
   refine aE [([0,1,2,3,4,5,6],(7,fun v _=>v=.int .u64 ((rt:Nat):Int))),([],(8,fun v _=>v=.int .u64 ((X:Nat):Int))),([],(9,fun v w'=>∃g,v=.slice (some ⟨g,0,none⟩) 1 1/\Blk w' g (wv [X]) 151))] [10,11,12] (by kernel_rfl) (by kernel_rfl) (by
    intro x hx;simp only[List.mem_cons,List.not_mem_nil,or_false] at hx;rcases hx with rfl|rfl|rfl
    .exact ao fun v w w' l h=>h
    .exact ao fun v w w' l h=>h
    .exact ao fun v w w' l ⟨g,e,h⟩=>⟨g,e,h.below l⟩) ?_
   refine aw ?_;simp only[pick,List.getD_cons_zero,List.getD_cons_succ];repeat (go_big_quiet_step (fail))
   refine wpQuiet_nil ?_;refine⟨_,rfl,rfl,?_,?_⟩
   .intro u Ae _
    go_simp
    exact⟨rfl,(Av.out u).mono fun _ _ ⟨he,l⟩=>⟨_,he,GR.of l,rfl⟩⟩
   rintro v1 ⟨_,rfl⟩;refine aw ?_;simp only[pick,List.getElem_toArray,List.getElem_cons_succ,List.getElem_cons_zero,Act.put,List.setIfInBounds_toArray,List.set_cons_zero,List.set_cons_succ];refine wpQuiet_nil ?_;refine⟨_,rfl,rfl,?_,?_⟩
   .intro u Ae _
    go_simp
    exact⟨rfl,(V.out u).mono fun _ _ ⟨he,l⟩=>⟨_,he,GR.of l,rfl⟩⟩
   rintro v2 ⟨_,rfl⟩;refine aw ?_;simp only[pick,List.getElem_toArray,List.getElem_cons_succ,List.getElem_cons_zero,Act.put,List.setIfInBounds_toArray,List.set_cons_zero,List.set_cons_succ];refine wpQuiet_nil ?_;refine⟨_,rfl,rfl,?_,?_⟩
   .intro u Ae _
    go_simp
    exact⟨GR.of eI,u.heap.size,rfl,Blk.new u (wv [X]) _⟩
   .rintro v-y Ag ⟨_,gn,rfl,Ah⟩
    have U:=Ag.below;have S:=M.and_below U;have Y:=I.below U;have H:=dX J U;have Ai:Vs y y.heap.size 1 (some ⟨gn,0,none⟩) 1 (wv [X]):=Ws.of_blk Ah;have Aj:w5.heap.size<=y.heap.size:=S.size;clear f1 f2 Aw M I J Ah Ag U;go_wp2_with (at_builtin;go_must (refine aK y rfl (.tmp 27) (.tmp 35) 112 rfl w5.heap.size 151 i1 (.int .u64 0) 1 8 underlying112 A2 A3 A4 A5 rfl (by omega) _ _ _ rfl H y.heap.size _ 1 _ _ rfl Ai (t7 _) Ax (by omega) Aj ?_))
    intro z c' w7 G Ay AS m;have Z:Below w5.heap.size y w7:=Mem.aH (Below.refl _ _) m Aj H;have b:=chg_below S Z;have N:=tY Y m (fun e=>by have:=(H.lt L e).1;omega)
    rw[<-jC,<-HS.out] at G;have q6:w7.cell? ⟨L,6,none⟩=some (.slice O t Q):=N.cell 6;have AT:w7.frozen? ⟨L,6,none⟩=false:=N.froz 6;have c:=N.set 6 (.slice z (t+1) c');have Al:=b.setCell (p:=⟨L,6,none⟩) (.inl (by simp)) (.slice z (t+1) c');have n:=ownsRow_setCell_below G (a:=⟨L,6,none⟩) (by exact AA) (.slice z (t+1) c');have Az:=eA (show Blk (w7.setCell ⟨L,6,none⟩ (.slice z (t+1) c')) L (bB 32 64 E (E+1) (E+1+1) (E+1+1+1) z (t+1) c' none 0 0) 114 from c);clear H m Z S b Y N Ai G c;go_wp2;go_roundw
    case rel=>exact⟨t+1,z,c',by omega,by go_num,Ay,Al,Az.out,n⟩
    case measure=>simp[intOf];omega
  .have Aa:t=64:=by omega
   have G:wr.ownsRow w5.heap.size 151 1 (.slice O 64 Q) 64 (wv (Sha.bJ 3 64)):=by rw[Aa] at J;exact J
   have d:Blk wr L (bB 32 64 E (E+1) (E+1+1) (E+1+1+1) O 64 Q none 0 0) 114:=by rw[Aa] at I;exact I
   have Ao:64<=t:=by omega
   have q:64<=Q:=by omega
   have AG:decide (t<64)=false:=by simp;omega
   obtain⟨wK,AU⟩:∃wK,wK=wr:=⟨_,rfl⟩;subst AU;have AH:=d.lt;have Bg:=M.size;have AV:Ws wK O 64 (Sha.bJ 3 64):=Ws.of_own G;have A0:=G;have AI:=q;have AW:∀a,O=some a->a.block∉[L]:=fun a ha=>by
    obtain⟨g,e,h1,_⟩:=fT G (by omega);rw[ha] at e;injection e with e
    rw[e];simp
    omega
   clear Aa ht AE J I Au;go_wp2_with fail
   clear Ao AG;go_loopw [6] (fun i wx=>∃(t:Nat) (f:Option Addr) (cf:Nat),t<=8/\i=.int .i64 (t:Int)/\t<=cf/\Chg [L] wK wx/\Blk wx L (bB 32 64 E (E+1) (E+1+1) (E+1+1+1) O 64 Q f t cf) 114/\wx.ownsRow wK.heap.size 151 1 (.slice f t cf) t (wv (Sha.bJ 2 t))) (fun i _=>8-(intOf i).toNat)
   case atStart=>exact⟨0,none,0,by omega,rfl,by omega,Chg.refl _ _,d,World.ownsRow_nil _ _ _ _⟩
   case round =>
    clear G d q;have r:=M;clear M;obtain⟨t,f,cf,ht,rfl,AE,M,I,J⟩:=hrel;by_cases Au:t<8
    .have Ac:wr.cell? ⟨gp,j+t,none⟩=some (.int .i64 ((Sha.pr 408).getD t 0:Nat)):=by
      rw[(r.and M).cell (p:=⟨gp,j+t,none⟩) Am An];have:=AD.out t _ (dy _ (by rw[AC.out];omega))
      rwa [pT] at this
     have HS:=eA (show Sha.bJ 2 (t+1)=Sha.bJ 2 t++[Sha.mW (((Sha.pr 408).getD t 0:Nat):Int) 2 / 4294967296] from rfl);generalize (Sha.pr 408).getD t 0=pp at *;have Ad:=Sha.ux (pp:Int) 2;have Av:=eA (rroot2_any (pp:Int));have R:H32 (bB 32 64 E (E+1) (E+1+1) (E+1+1+1) O 64 Q f t cf):=tX _ _ _ _ _ _ _ _ _ _;have AF:=eA R;have V:=eA (rtop_any (bB 32 64 E (E+1) (E+1+1) (E+1+1+1) O 64 Q f t cf) R (Sha.mW (pp:Int) 2) Ad);generalize Sha.mW (pp:Int) 2=rt at *;obtain⟨X,hX⟩:=eC (rt / 4294967296);rw[hX] at HS V;have f1:∀p,(ab wr p).cell? ⟨L,7,none⟩=some (.slice f t cf):=fun p=>(ap I.lt p).trans (I.cell 7);have Aw:∀p,(eZ (.pointer (some ⟨L,0,none⟩))).run prog (ab wr p)=.ok (.agg (bB 32 64 E (E+1) (E+1+1) (E+1+1+1) O 64 Q f t cf).toArray) (ab wr p):=fun p=>ja (I.below (aa wr p)) rfl;have f2:∀p,(ab wr p).cell? ⟨gp,j+t,none⟩=some (.int .i64 (pp:Int)):=fun p=>(ap (Nat.lt_of_lt_of_le Am (r.and M).size) p).trans Ac;have i0:(0:Int)<=(t:Int):=by omega
     have i2:(t:Int)<80:=by omega
     generalize hCS:(bB 32 64 E (E+1) (E+1+1) (E+1+1+1) O 64 Q f t cf).toArray=CS at *;have AR:=eA hCS;have Ax:t+1<=maxLen:=by unfold maxLen;omega
     clear hCS Ac hX Ad R;go_wp2_with fail
     refine aE [([0,1,2,3,4,5,6],(7,fun v _=>v=.int .u64 ((rt:Nat):Int))),([],(8,fun v _=>v=.int .u64 ((X:Nat):Int))),([],(9,fun v w'=>∃g,v=.slice (some ⟨g,0,none⟩) 1 1/\Blk w' g (wv [X]) 151))] [10,11,12] (by kernel_rfl) (by kernel_rfl) (by
      intro x hx;simp only[List.mem_cons,List.not_mem_nil,or_false] at hx;rcases hx with rfl|rfl|rfl
      .exact ao fun v w w' l h=>h
      .exact ao fun v w w' l h=>h
      .exact ao fun v w w' l ⟨g,e,h⟩=>⟨g,e,h.below l⟩) ?_
     refine aw ?_;simp only[pick,List.getD_cons_zero,List.getD_cons_succ];repeat (go_big_quiet_step (fail))
     refine wpQuiet_nil ?_;refine⟨_,rfl,rfl,?_,?_⟩
     .intro u Ae _
      go_simp
      exact⟨rfl,(Av.out u).mono fun _ _ ⟨he,l⟩=>⟨_,he,GR.of l,rfl⟩⟩
     rintro v1 ⟨_,rfl⟩;refine aw ?_;simp only[pick,List.getElem_toArray,List.getElem_cons_succ,List.getElem_cons_zero,Act.put,List.setIfInBounds_toArray,List.set_cons_zero,List.set_cons_succ];refine wpQuiet_nil ?_;refine⟨_,rfl,rfl,?_,?_⟩
     .intro u Ae _
      go_simp
      exact⟨rfl,(V.out u).mono fun _ _ ⟨he,l⟩=>⟨_,he,GR.of l,rfl⟩⟩
     rintro v2 ⟨_,rfl⟩;refine aw ?_;simp only[pick,List.getElem_toArray,List.getElem_cons_succ,List.getElem_cons_zero,Act.put,List.setIfInBounds_toArray,List.set_cons_zero,List.set_cons_succ];refine wpQuiet_nil ?_;refine⟨_,rfl,rfl,?_,?_⟩
     .intro u Ae _
      go_simp
      exact⟨GR.of eI,u.heap.size,rfl,Blk.new u (wv [X]) _⟩
     .rintro v-y Ag ⟨_,gn,rfl,Ah⟩
      have U:=Ag.below;have S:=M.and_below U;have Y:=I.below U;have H:=dX J U;have Ai:Vs y y.heap.size 1 (some ⟨gn,0,none⟩) 1 (wv [X]):=Ws.of_blk Ah;have Aj:wK.heap.size<=y.heap.size:=S.size;clear f1 f2 Aw M I J Ah Ag U;go_wp2_with (at_builtin;go_must (refine aK y rfl (.tmp 43) (.tmp 51) 112 rfl wK.heap.size 151 i1 (.int .u64 0) 1 8 underlying112 A2 A3 A4 A5 rfl (by omega) _ _ _ rfl H y.heap.size _ 1 _ _ rfl Ai (t7 _) Ax (by omega) Aj ?_))
      intro z c' w7 G Ay AS m;have Z:Below wK.heap.size y w7:=Mem.aH (Below.refl _ _) m Aj H;have b:=chg_below S Z;have N:=tY Y m (fun e=>by have:=(H.lt L e).1;omega)
      rw[<-jC,<-HS.out] at G;have q6:w7.cell? ⟨L,7,none⟩=some (.slice f t cf):=N.cell 7;have AT:w7.frozen? ⟨L,7,none⟩=false:=N.froz 7;have c:=N.set 7 (.slice z (t+1) c');have Al:=b.setCell (p:=⟨L,7,none⟩) (.inl (by simp)) (.slice z (t+1) c');have n:=ownsRow_setCell_below G (a:=⟨L,7,none⟩) (by exact AH) (.slice z (t+1) c');have Az:=eA (show Blk (w7.setCell ⟨L,7,none⟩ (.slice z (t+1) c')) L (bB 32 64 E (E+1) (E+1+1) (E+1+1+1) O 64 Q z (t+1) c') 114 from c);clear H m Z S b Y N Ai G c;go_wp2;go_roundw
      case rel=>exact⟨t+1,z,c',by omega,by go_num,Ay,Al,Az.out,n⟩
      case measure=>simp[intOf];omega
    .have Aa:t=8:=by omega
     have G:wr.ownsRow wK.heap.size 151 1 (.slice f 8 cf) 8 (wv (Sha.bJ 2 8)):=by rw[Aa] at J;exact J
     have d:Blk wr L (bB 32 64 E (E+1) (E+1+1) (E+1+1+1) O 64 Q f 8 cf) 114:=by rw[Aa] at I;exact I
     have q:8<=cf:=by omega
     have Ao:8<=t:=by omega
     have T:Chg [L] w5 wr:=r.and M;have AJ:Blk wr w.heap.size jB 114:=AO.chg T (by simp;omega)
     obtain⟨s1,s2⟩:=pH AJ rfl (vs:=(bB 32 64 E (E+1) (E+1+1) (E+1+1+1) O 64 Q f 8 cf)) rfl (kI _ _ _ _ _ _ _ _ _ _ _ _);have Bh:=ja d rfl;obtain⟨wf,A1⟩:=eC (wr.setCells w.heap.size 0 (bB 32 64 E (E+1) (E+1+1) (E+1+1+1) O 64 Q f 8 cf));have o:Chg [w.heap.size] wr wf:=by rw[<-A1];exact(Chg.refl _ _).setCells _ (.inl (by simp))
     rw[A1] at s1 s2;have Au:w.heap.size<wr.heap.size:=AJ.lt;have Bi:E+1+1+1<wr.heap.size:=Nat.lt_of_lt_of_le c4.lt T.size;have Bj:w.heap.size<E:=by omega
     have d1:=(c1.chg T (by simp;omega)).chg o (by simp;omega)
     have d2:=(c2.chg T (by simp;omega)).chg o (by simp;omega)
     have d3:=(c3.chg T (by simp;omega)).chg o (by simp;omega)
     have d4:=(c4.chg T (by simp;omega)).chg o (by simp;omega)
     have AX:Ws wf O 64 (Sha.bJ 3 64):=by
      refine t9 (t9 AV M AW) o (fun a ha=>?_);obtain⟨g,e,h1,_⟩:=fT A0 (by omega);rw[ha] at e;injection e with e
      rw[e];simp
      omega
     have AY:Ws wf f 8 (Sha.bJ 2 8):=by
      refine t9 (Ws.of_own G) o (fun a ha=>?_);obtain⟨g,e,h1,_⟩:=fT G (by omega);rw[ha] at e;injection e with e
      rw[e];simp
      have:=r.size;omega
     have AZ:=eA (show HIn wf (bB 32 64 E (E+1) (E+1+1) (E+1+1+1) O 64 Q f 8 cf) (some ⟨E,0,none⟩) 3 (some ⟨E+1,0,none⟩) 3 (some ⟨E+1+1,0,none⟩) 3 (some ⟨E+1+1+1,0,none⟩) 3 O Q f cf from⟨rfl,Is.of_blk d1,Is.of_blk d2,Is.of_blk d3,Is.of_blk d4,AX,AY,AI,q⟩);have hH:Has wf w.heap.size 0 8:=eX s2 rfl;have hA:arr wf w.heap.size 0 8=(bB 32 64 E (E+1) (E+1+1) (E+1+1+1) O 64 Q f 8 cf).toArray:=mh s2 rfl;have Ba:eF w wf:=((AP.and T).trans (S':=[w.heap.size]) o (by simp)).below' eH (by simp;omega)
     clear A1;go_wp2;refine bodyPost_ret (dA (P:=prog) Tryz.results77 _ _ w.heap.size 0 8 _ rfl underlying114 rfl size_H hH) rfl ?_;exact⟨_,_,_,_,_,_,_,_,_,by rw[hA],AZ.out,Ba⟩
end
section
open Go.RowKit Mem
theorem rsum256_any(S:Option Addr)(n c:Nat)(d:List UInt8)(w:World)(hd:Bs w w.heap.size S n d)(Y:n<=1000000) :
  Calls prog 41 #[.slice S n c] w fun e w'=>∃Q I,e=.returned (.slice Q 32 I)/\32<=I/\w'.ownsRow w.heap.size 5 1 (.slice Q 32 I) 32 (bv (Sha.kg d))/\eF w w':=by
 go_enter func41,ntmps41
 go_wp2_with fail
 refine(rof_any w).mono ?_
 rintro e H ⟨R,A,B,C,D,K,Z,F,b,rfl,U,J⟩
 have V:=Blk.new H jB 114
 have G:=U.h32
 obtain⟨T,X⟩:=pH V rfl (vs:=R) G.len G.one
 have L:Chg [] H ((H.alloc (.cells jB.toArray 114)).setCells H.heap.size 0 R):=((Chg.refl _ _).alloc _).setCells _ (.inr eH)
 obtain⟨f,M⟩:=eC ((H.alloc (.cells jB.toArray 114)).setCells H.heap.size 0 R)
 rw[M] at T X L
 have N:=L.below (by simp)
 have g:=ja X G.len
 have E:=J.trans (N.mono J.size)
 have O:=rsum_any R A 3 B 3 C 3 D 3 K Z F b S n c d f (U.below N) (cV hd E) Y
 unfold jB at T
 simp only[List.toArray] at T
 clear M V
 go_wp2_with fail
 refine O.mono ?_
 rintro e k ⟨Q,I,rfl,h,i,j⟩
 go_wp2
 go_ret
 exact⟨Q,I,rfl,h,aG i E.size,E.trans (j.mono E.size)⟩
end
section
open Go.RowKit Mem
theorem tM(h:List UInt8)(i:Nat):Sha.kD h (i+1)=Sha.kD h i++[Sha.dp ((h.getD i 0).toNat / 16)]++[Sha.dp ((h.getD i 0).toNat % 16)]:=rfl
theorem str_cat(a b:List UInt8):str a++str b=str (a++b):=by
 apply ByteArray.ext
 simp[str,ByteArray.data_append]
theorem td(a:Nat)(h:a<16)(w:World):(Instr.slice 9 (.string ⟨#[48,49,50,51,52,53,54,55,56,57,97,98,99,100,101,102]⟩) (some (.int .i64 (a:Int))) (some (.int .i64 ((a:Int)+1))) none).run prog w=.ok (.string (str [Sha.dp a])) w:=by
 have A:((⟨#[48,49,50,51,52,53,54,55,56,57,97,98,99,100,101,102]⟩:ByteArray).size:Int)=16:=rfl
 refine(run_slice_string _ _ _ _ _ _ _ underlying9 (by omega) (by omega) (by rw[A];omega)).trans ?_
 have:∀a:Fin 16,(⟨#[48,49,50,51,52,53,54,55,56,57,97,98,99,100,101,102]⟩:ByteArray).extract ((a.1:Int)).toNat ((a.1:Int)+1).toNat=str [Sha.dp a.1]:=by
  intro a;obtain⟨a,C⟩:=a;have B:a=0\/a=1\/a=2\/a=3\/a=4\/a=5\/a=6\/a=7\/a=8\/a=9\/a=10\/a=11\/a=12\/a=13\/a=14\/a=15:=by omega
  rcases B with rfl|rfl|rfl|rfl|rfl|rfl|rfl|rfl|rfl|rfl|rfl|rfl|rfl|rfl|rfl|rfl<;>rfl
 rw[this ⟨a,h⟩]
theorem th(F:Option Addr)(n c:Nat)(d:List UInt8)(w:World)(hd:Bs w w.heap.size F n d)(m:n<=1000000) :
  Calls prog 25 #[.slice F n c] w fun e w'=>e=.returned (.string (str (Sha.cm d)))/\eF w w':=by
 go_enter func25,ntmps25
 go_wp2_with fail
 refine(rsum256_any F n c d w hd m).mono ?_
 rintro e G ⟨A,c1,rfl,h1,H,h⟩
 obtain⟨g,rfl,o,I⟩:=fT H (by omega)
 have u:=eA (show Sha.cm d=Sha.kD (Sha.kg d) 4 from rfl)
 have y:=eA (Sha.sum_len (Sha.bJ 3 64) (Sha.bJ 2 8) d)
 have B:∀j,j<32->G.cell? ⟨g,j,none⟩=some (.int .u8 (((Sha.kg d).getD j 0).toNat:Int)):=fun j hj=>by
  have hl:(Sha.kg d).length=32:=y.out;have:=H.cells (g:=g) rfl j (.int .u8 (((Sha.kg d).getD j 0).toNat:Int)) (by rw[pt,List.getElem?_eq_getElem (by omega)];simp[List.getD_eq_getElem?_getD,show j<(Sha.kg d).length by omega])
  rwa [aZ] at this
 have HC:=eA B
 clear B H
 generalize Sha.kg d=S at *
 go_wp2_with fail
 go_loopw [5,6,7,8] (fun s i _ _ wx=>∃t:Nat,t<=4/\i=.int .i64 (t:Int)/\s=.string (str (Sha.kD S t))/\eF G wx) (fun _ i _ _ _=>4-(intOf i).toNat)
 case atStart=>exact⟨0,by omega,rfl,rfl,Below.refl _ _⟩
 case round =>
  obtain⟨t,ht,rfl,rfl,E⟩:=hrel;by_cases Aa:t<4
  .have Ab:=(E.cell (p:=⟨g,t,none⟩) I).trans (HC.out t (by omega))
   have J:=eA (tM S t);have hx:=(S.getD t 0).toNat_lt;generalize (S.getD t 0).toNat=x at *;have K:Int.tdiv (x:Int) 16=((x / 16:Nat):Int):=iY x 16;have L:Int.tmod (x:Int) 16=((x % 16:Nat):Int):=fX x 16;have M:(x:Int) / 16=((x / 16:Nat):Int):=by omega
   have N:(x:Int) % 16=((x % 16:Nat):Int):=by omega
   obtain⟨q,k⟩:=eC (x / 16);obtain⟨r,l⟩:=eC (x % 16);have O:q<16:=by omega
   have Q:r<16:=by omega
   have R:x<256:=hx;rw[k] at K M J;rw[l] at L N J;have i0:(0:Int)<=(t:Int):=by omega
   have i1:(t:Int)<32:=by omega
   have Ac:IntKind.i64.wrap ((q:Int)+1)=(q:Int)+1:=by rw[IntKind.wrap_i64];omega
   have Ae:IntKind.i64.wrap ((r:Int)+1)=(r:Int)+1:=by rw[IntKind.wrap_i64];omega
   have T:=td q O;have U:=td r Q;have C:=eA (Sha.nA S t);generalize Sha.kD S t=z at *;clear k l hx;go_wp2_with fail
   have D:(str z).size=2*t:=by rw[aC];exact C.out
   have V:¬9223372036854775807<(str z).size+(str [Sha.dp q]).size:=by rw[D,aC];simp;omega
   have X:¬9223372036854775807<(str (z++[Sha.dp q])).size+(str [Sha.dp r]).size:=by rw[aC,aC,List.length_append,C.out];simp;omega
   have Y:=str_cat z [Sha.dp q];have Z:=str_cat (z++[Sha.dp q]) [Sha.dp r];clear D;go_quiet (fail)
   have b:eF G (wr.drewN nq):=E.trans ⟨rfl,rfl,rfl,eH,fun _ _=>rfl⟩;have HZ:=eA (show z++[Sha.dp q,Sha.dp r]=Sha.kD S (t+1) by rw[J.out,List.append_assoc];rfl)
   rw[HZ.out];clear V X Y Z T U E;go_wp2;go_roundw
   case rel=>exact⟨t+1,by omega,by go_num,rfl,b⟩
   case measure=>simp[intOf];omega
  .have f:t=4:=by omega
   subst f;go_wp2;go_ret;exact⟨by rw[u.out];rfl,h.trans (E.mono h.size)⟩
end
section
namespace Led
def few(s:Txt):Txt:=s.take 60
def KeyTo(R:Txt->Txt->Prop)(k k':Jwk):Prop:=k'.x=few k.x/\if few k.kid=[] then R (few k.x) k'.kid else k'.kid=few k.kid
def pl(o:Op)(K:List Jwk):Op :=
 ⟨o.kind,o.n,few o.name,⟨o.entry.n,few o.entry.path,few o.entry.parent,o.entry.ttl,(o.entry.sels.take 6).map few⟩,⟨few o.join.text,few o.join.name,o.join.expires,o.join.used⟩,
  ⟨few o.node.name,few o.node.key,o.node.expires,o.node.seq,few o.node.doc⟩,⟨few o.key.kid,few o.key.seed,o.key.state,o.key.since⟩,⟨few o.bundle.domain,o.bundle.number,K⟩⟩
def dZ(R:Txt->Txt->Prop):List Jwk->List Jwk->Prop
 | [],[]=>True
 | k::L,k'::K=>KeyTo R k k'/\dZ R L K
 | _,_=>False
theorem dZ.length{R:Txt->Txt->Prop}:∀{L K:List Jwk},dZ R L K->K.length=L.length
 | [],[],_=>rfl
 | _::L,_::K,h=>by simp[dZ.length (L:=L) (K:=K) h.2]
 | [],_::_,h=>h.elim
 | _::_,[],h=>h.elim
theorem dZ.snoc{R:Txt->Txt->Prop}:∀{L K:List Jwk} {k k':Jwk},dZ R L K->KeyTo R k k'->dZ R (L++[k]) (K++[k'])
 | [],[],_,_,_,h=>⟨h,trivial⟩
 | _::L,_::K,_,_,h,h'=>⟨h.1,dZ.snoc (L:=L) (K:=K) h.2 h'⟩
 | [],_::_,_,_,h,_=>h.elim
 | _::_,[],_,_,h,_=>h.elim
theorem pV(s:Txt):(few s).length<=60:=by unfold few;rw[List.length_take];omega
theorem dZ.len{R:Txt->Txt->Prop}(B:∀x r,R x r->r.length<=60):∀{L K:List Jwk},dZ R L K->∀k∈K,k.kid.length<=60/\k.x.length<=60
 | [],[],_,k,hk=>by simp at hk
 | x::L,y::K,h,k,hk=>by
  rcases List.mem_cons.1 hk with rfl|hk
  .obtain⟨C,A⟩:=h.1
   refine⟨?_,by rw[C];exact pV _⟩
   split at A
   .exact B _ _ A
   .rw [A];exact pV _
  .exact dZ.len B (L:=L) (K:=K) h.2 k hk
 | [],_::_,h,_,_=>h.elim
 | _::_,[],h,_,_=>h.elim
end Led
end
section
namespace Batch
open Go.RowKit
section
variable {P:Program}{ops:Array Oper}{md:Region.Mode}{R:World->World->Prop}{w0:World}
abbrev dL:=List (Nat × (World->Prop))
abbrev Elt:=Nat × List Nat × Option (Value->World->Prop)
def Fits(A:List Nat)(B:dL)(w:World):Prop:=∀p∈B,p.1∈A->p.2 w
def pB(P:Program)(ops:Array Oper)(R:World->World->Prop)(w0:World)(Q:Act->dL->Prop):List Elt->Act->dL->Prop
 | [],a,Fs=>Q a Fs
 | (i,_,none)::l,a,Fs=>∃o v,ops[i]?=some o/\pq o.op=true/\YieldsIn P ops (R w0) o v a/\pB P ops R w0 Q l (a.put o.dst v) Fs
 | (i,ln,some T)::l,a,Fs=>∃o,ops[i]?=some o/\Region.wanted o (yielded ops a.tmps)=true/\(∃v w,T v w)/\(∀w,R w0 w->Fits ln Fs w->mr P R T w ((execOp a.eval o).run P w)) /\
   ∀v,(∃w,T v w)->pB P ops R w0 Q l (a.put o.dst v) ((i,T v)::Fs)
theorem Fits.sub{B:List Nat}{C A:dL}{w:World}(h:Fits B A w)(D:∀p∈C,p∈A):Fits B C w:=fun p E=>h p (D p E)
theorem oo{Q:Act->dL->Prop}(C:∀a B A,(∀p∈B,p∈A)->Q a B->Q a A):∀(l:List Elt) (a:Act) (B A:dL),(∀p∈B,p∈A)->pB P ops R w0 Q l a B->pB P ops R w0 Q l a A
 | [],a,B,A,hs,h=>C a B A hs h
 | (i,_,none)::l,a,B,A,hs,⟨o,v,h1,h2,h3,h4⟩=>⟨o,v,h1,h2,h3,oo C l _ B A hs h4⟩
 | (i,ln,some T)::l,a,B,A,hs,⟨o,h1,h2,h3,h4,h5⟩=>⟨o,h1,h2,h3,fun w E F=>h4 w E (F.sub hs),fun v G=>oo C l _ _ _ (fun p D=>by
   rcases List.mem_cons.1 D with rfl|D
   .exact List.mem_cons_self
   .exact List.mem_cons_of_mem _ (hs p D)) (h5 v G)⟩
theorem sf{C:World->Prop}{o:Oper}{v G:Value}{a:Act}{w:World}(I:pq o.op=true)(H:C w)(h:YieldsIn P ops C o v a)(J:YieldsIn P ops C o G a):v=G:=by
 rcases h with⟨D,E⟩|⟨D,E⟩<;>rcases J with⟨A,k2⟩|⟨A,k2⟩
 .have B:=E w H
  have e2:=k2 w H;unfold Oper.quietAt at B e2
  cases F:(execOp a.eval o).run P w with
  | halt q w'=>rw[F] at B;exact B.elim
  | ok n w' =>
   obtain⟨u,rfl⟩:=po I a.eval w w' n F;rw[F] at B e2;exact B.2.symm.trans e2.2
 .rw [D] at A;cases A
 .rw [D] at A;cases A
 .rw [E,k2]
def pairF(md:Region.Mode)(ops:Array Oper)(x e:Nat × List Nat):Bool :=
 match ops[x.1]?,ops[e.1]? with
 | some ox,some oe=>(oe.after.any fun d=>Region.binds md d&&d.on==x.1)||(ox.apart ops oe&&!e.2.contains x.1)
 | _,_=>false
def lm(md:Region.Mode)(ops:Array Oper):List (Nat × List Nat)->Bool
 | []=>true
 | x::l=>l.all (pairF md ops x)&&lm md ops l
def apartF(ops:Array Oper)(x e:Nat × List Nat):Prop:=∃A B,ops[x.1]?=some A/\ops[e.1]?=some B/\A.apart ops B=true/\x.1∉e.2
theorem om{Q:Act->dL->Prop}(f:Rely R)(g:∀a D U,(∀p∈D,p∈U)->Q a D->Q a U)(A:∀(j:Nat) (o:Oper) cs b,ops[j]?=some o->o.op≠.select cs b)(e:Elt)(d:List Elt) :
  ∀(K:List Elt) (a:Act) (D:dL),(∀x∈K,apartF ops (x.1,x.2.1) (e.1,e.2.1))->pB P ops R w0 Q (K++e::d) a D->pB P ops R w0 Q (e::(K++d)) a D
 | [],a,D,_,h=>h
 | (i,_,none)::K,a,D,hap,⟨o,v,h1,h2,h3,h4⟩=>by
  obtain⟨k,V,l,k2,k3,k4⟩:=hap _ List.mem_cons_self;obtain rfl:o=k:=Option.some.inj (h1.symm.trans l);obtain⟨g1,X,F⟩:=Oper.apart_spec k3;have ih:=om f g A e d K _ D (fun x hx=>hap x (List.mem_cons_of_mem _ hx)) h4;obtain⟨j,s,T⟩:=e
  cases T with
  | none =>
   obtain⟨B,G,C,E,L,O⟩:=ih;obtain rfl:B=V:=Option.some.inj (C.symm.trans k2);refine⟨B,G,C,E,L.of_same (execOp_put B (fun cs b=>A j B cs b C) a o.dst v g1).symm (wanted_put B a o.dst v g1).symm,o,v,h1,h2,h3.of_same (execOp_put o (fun cs b=>A i o cs b h1) a B.dst G F) (wanted_put o a B.dst G F),?_⟩;rw[<-Act.put_comm a v G X];exact O
  | some T =>
   obtain⟨B,C,E,L,O,q⟩:=ih;obtain rfl:B=V:=Option.some.inj (C.symm.trans k2);rw[wanted_put B a o.dst v g1] at E;refine⟨B,C,E,L,fun w M N=>?_,fun u m=>⟨o,v,h1,h2,h3.of_same (execOp_put o (fun cs b=>A i o cs b h1) a B.dst u F) (wanted_put o a B.dst u F),?_⟩⟩
   .have:=O w M N
    rw[execOp_put B (fun cs b=>A j B cs b C) a o.dst v g1] at this;exact this
   .rw [<-Act.put_comm a v u X]
    exact q u m
 | (i,ln0,some T0)::K,a,D,hap,⟨o,h1,h2,h3,h4,h5⟩=>by
  obtain⟨k,V,l,k2,k3,k4⟩:=hap _ List.mem_cons_self;obtain rfl:o=k:=Option.some.inj (h1.symm.trans l);obtain⟨g1,X,F⟩:=Oper.apart_spec k3;have ih:=fun v Y=>om f g A e d K _ ((i,T0 v)::D) (fun x hx=>hap x (List.mem_cons_of_mem _ hx)) (h5 v Y);obtain⟨I,H⟩:=h3;obtain⟨j,s,T⟩:=e
  cases T with
  | none =>
   obtain⟨B,G,C,E,L,O⟩:=ih I H;obtain rfl:B=V:=Option.some.inj (C.symm.trans k2);have Z:=L.of_same (execOp_put B (fun cs b=>A j B cs b C) a o.dst I g1).symm (wanted_put B a o.dst I g1).symm;refine⟨B,G,C,E,Z,o,h1,by rw[wanted_put o a B.dst G F];exact h2,⟨I,H⟩,fun w M N=>?_,fun v Y=>?_⟩
   .rw [execOp_put o (fun cs b=>A i o cs b h1) a B.dst G F]
    exact h4 w M N
   .obtain⟨S,y,n1,n2,n3,r⟩:=ih v Y
    obtain rfl:S=B:=Option.some.inj (n1.symm.trans C);have n:=n3.of_same (execOp_put S (fun cs b=>A j S cs b C) a o.dst v g1).symm (wanted_put S a o.dst v g1).symm;have:=sf E (f.refl w0) Z n;subst this;rw[<-Act.put_comm a v G X];exact r
  | some T =>
   obtain⟨B,C,E,L,O,q⟩:=ih I H;obtain rfl:B=V:=Option.some.inj (C.symm.trans k2);rw[wanted_put B a o.dst I g1] at E;refine⟨B,C,E,L,fun w M N=>?_,fun u m=>⟨o,h1,by rw[wanted_put o a B.dst u F];exact h2,⟨I,H⟩,fun w M N=>?_,fun v Y=>?_⟩⟩
   .have:=O w M (fun p J c=>by
     rcases List.mem_cons.1 J with rfl|J
     .exact absurd c k4
     .exact N p J c)
    rw[execOp_put B (fun cs b=>A j B cs b C) a o.dst I g1] at this;exact this
   .rw [execOp_put o (fun cs b=>A i o cs b h1) a B.dst u F]
    exact h4 w M (N.sub fun p J=>List.mem_cons_of_mem _ J)
   .obtain⟨S,n1,n2,n3,r,t⟩:=ih v Y
    obtain rfl:S=B:=Option.some.inj (n1.symm.trans C);rw[<-Act.put_comm a v u X];refine oo g _ _ _ _ (fun p J=>?_) (t u m);simp only[List.mem_cons] at J ⊢;rcases J with h|h|h
    .exact .inr (.inl h)
    .exact .inl h
    .exact .inr (.inr h)
theorem sZ{e:Nat}{C:List Nat}:∀(B:List Nat) (x:Array Bool),kP md ops (B++e::C) x=true->kP md ops (B++C) (x.setIfInBounds e true)=true
 | [],x,h=>by
  simp only[List.nil_append,kP,Bool.and_eq_true] at h;exact h.2
 | j::B,x,h=>by
  simp only[List.cons_append,kP,Bool.and_eq_true] at h ⊢;obtain⟨o,D,hd⟩:=ez.1 h.1;refine⟨ez.2 ⟨o,D,fun e E F=>getD_set_true (hd e E F)⟩,?_⟩;have:=sZ B _ h.2;by_cases A:j=e
  .subst A
   exact this
  .rw [Array.setIfInBounds_comm _ _ (fun h=>A h.symm)]
   exact this
theorem o8{e:Nat × List Nat}{B:List (Nat × List Nat)}:∀(A:List (Nat × List Nat)),lm md ops (A++e::B)=true->lm md ops (A++B)=true/\∀x∈A,pairF md ops x e=true
 | [],h=>by
  simp only[List.nil_append,lm,Bool.and_eq_true] at h;exact⟨h.2,fun x hx=>by cases hx⟩
 | y::A,h=>by
  simp only[List.cons_append,lm,Bool.and_eq_true,List.all_append,List.all_cons] at h ⊢;obtain⟨⟨C,D,E⟩,F⟩:=h;obtain⟨G,k2⟩:=o8 A F;refine⟨⟨⟨C,E⟩,G⟩,fun x hx=>?_⟩;rcases List.mem_cons.1 hx with rfl|hx
  .exact D
  .exact k2 x hx
theorem qd{Q:Act->dL->Prop}{Q':Exit->Act->World->Prop}{M:List Nat}{base:Array Bool}{g:Nat}(hR:Rely R)(Aj:∀a F B,(∀p∈F,p∈B)->Q a F->Q a B)(s:∀(j:Nat) (o:Oper) cs b,ops[j]?=some o->o.op≠.select cs b)
  (hc:ed md ops base M=true) (S:Array Bool) (t:∀listed:Array Bool,Inv md ops M base listed->(∀j∈M,listed.getD j true=true)->listed=S)
  (hQ:∀a F w,R w0 w->(∀p∈F,p.2 w)->Q a F->wpAny P md ops Q' g S a w) :
  ∀(n:Nat) (l:List Elt) (listed:Array Bool) (a:Act) (F:dL) (w:World),l.length=n->Inv md ops M base listed->(∀x∈l,x.1∈M/\listed.getD x.1 true=false)->(∀j∈M,listed.getD j true=false->∃x∈l,x.1=j)->(l.map (·.1)).Nodup ->
   kP md ops (l.map (·.1)) listed=true->lm md ops (l.map fun x=>(x.1,x.2.1))=true->(∀x∈l,∀T,x.2.2=some T->io R T)->R w0 w->(∀p∈F,p.2 w)->(∀p∈F,∀w w',R w w'->p.2 w->p.2 w') ->
   pB P ops R w0 Q l a F->wpAny P md ops Q' (n+g) listed a w:=by
 intro n
 induction n with
 | zero =>
  intro l listed a F w z H D N _ _ _ _ f hF _ h;obtain rfl:=List.eq_nil_of_length_eq_zero z;have:listed=S:=t listed H fun j hj=>by
   cases Ak:listed.getD j true
   .obtain⟨x,hx,_⟩:=N j hj Ak
    cases hx
   .rfl
  subst this;rw[Nat.zero_add];exact hQ a F w f hF h
 | succ n ih =>
  intro l listed a F w z H D N I A J Aa f hF U h;rw[show n+1+g=(n+g)+1 by omega];have Al:Region.ready md ops listed≠[]:=fun h0=>by
   cases l with
   | nil=>cases z
   | cons x l =>
    simp only[List.map_cons,kP,Bool.and_eq_true] at A;obtain⟨o,ho,hd⟩:=ez.1 A.1;have:x.1∈Region.ready md ops listed:=mem_ready.2 ⟨(D x List.mem_cons_self).2,o,ho,hd⟩;rw[h0] at this
    cases this
  refine⟨fun h0=>absurd h0 Al,fun i hi=>?_⟩;have Am:∃x∈l,x.1=i:=by
   cases l with
   | nil=>cases z
   | cons y l0 =>
    have hy:=D y List.mem_cons_self;exact N i (H.stays hc hy.1 hy.2 hi) (mem_ready.1 hi).1
  obtain⟨e,he,rfl⟩:=Am;obtain⟨l1,l2,rfl⟩:=List.append_of_mem he;obtain⟨A1,oe,V,Ab⟩:=mem_ready.1 hi;simp only[List.map_append,List.map_cons] at J A I;obtain⟨An,Ao⟩:=o8 _ J;have Ap:∀x∈l1,apartF ops (x.1,x.2.1) (e.1,e.2.1):=fun x hx=>by
   have G:=Ao _ (List.mem_map_of_mem hx);unfold pairF at G;have Aq:=D x (List.mem_append_left _ hx);simp only[V] at G
   cases X:ops[x.1]? with
   | none=>simp only[X] at G;cases G
   | some ox =>
    simp only[X,Bool.or_eq_true,Bool.and_eq_true] at G;rcases G with G|⟨G,h2⟩
    .exfalso
     obtain⟨d,hd,Y⟩:=Array.any_eq_true'.1 G;simp only[Bool.and_eq_true,beq_iff_eq] at Y;have h3:=Ab d hd Y.1;rw[Y.2,getD_both Aq.2] at h3
     cases h3
    .exact⟨ox,oe,X,V,G,by simpa using h2⟩
  have Ac:=om hR Aj s e l2 l1 a F Ap h;have Ad:=H.set (D e he).1 hi;have Ar:e.1<listed.size:=by
   rw[H.size];exact(Array.getElem?_eq_some_iff.1 V).1
  have As:∀x∈l1++l2,x.1≠e.1:=fun x hx O=>by
   rw[List.nodup_append] at I;obtain⟨n1,n2,n3⟩:=I;rcases List.mem_append.1 hx with hx|hx
   .exact n3 _ (List.mem_map_of_mem hx) _ List.mem_cons_self O
   .exact(List.nodup_cons.1 n2).1 (by rw[<-O];exact List.mem_map_of_mem hx)
  have step:∀(k:Act) (B:dL) (w':World),R w0 w'->(∀p∈B,p.2 w')->(∀p∈B,∀w w',R w w'->p.2 w->p.2 w')->pB P ops R w0 Q (l1++l2) k B->wpAny P md ops Q' (n+g) (listed.setIfInBounds e.1 true) k w':=fun k B w' Au Av Ae Aw=>by
   refine ih (l1++l2) _ k B w' (by simp at z ⊢;omega) Ad (fun x hx=>⟨?_,?_⟩) (fun j hj Z=>?_) ?_ ?_ ?_ (fun x hx=>?_) Au Av Ae Aw
   .exact(D x (by rcases List.mem_append.1 hx with h|h;exact List.mem_append_left _ h;exact List.mem_append_right _ (List.mem_cons_of_mem _ h))).1
   .rw [getD_set_ne true (Ne.symm (As x hx))]
    exact(D x (by rcases List.mem_append.1 hx with h|h;exact List.mem_append_left _ h;exact List.mem_append_right _ (List.mem_cons_of_mem _ h))).2
   .have Af:e.1≠j:=fun O=>by
     subst O;simp[Ar] at Z
    rw[getD_set_ne true Af] at Z;obtain⟨x,hx,Ag⟩:=N j hj Z;refine⟨x,?_,Ag⟩;rcases List.mem_append.1 hx with h|h
    .exact List.mem_append_left _ h
    .rcases List.mem_cons.1 h with rfl|h
     .exact absurd Ag Af
     .exact List.mem_append_right _ h
   .rw [List.map_append]
    rw[List.nodup_append] at I ⊢;obtain⟨n1,n2,n3⟩:=I;exact⟨n1,(List.nodup_cons.1 n2).2,fun x hx y hy=>n3 x hx y (List.mem_cons_of_mem _ hy)⟩
   .rw [List.map_append]
    exact sZ _ _ A
   .rw [List.map_append]
    exact An
   .exact Aa x (by rcases List.mem_append.1 hx with h|h;exact List.mem_append_left _ h;exact List.mem_append_right _ (List.mem_cons_of_mem _ h))
  obtain⟨j,ln,T⟩:=e
  cases T with
  | none =>
   obtain⟨o,v,m1,m2,m3,m4⟩:=Ac;exact qc (C:=R w0) (by unfold gt;rw[m1];exact m2) f (fun k Ax=>step k F w f hF U Ax) (m3.qOp m1 m4)
  | some T =>
   obtain⟨o,m1,m2,m3,m4,m5⟩:=Ac;have Ay:=Aa _ he T rfl;have K:∀v w',R w w'->T v w'->wpAny P md ops Q' (n+g) (listed.setIfInBounds j true) (a.put o.dst v) w':=fun v w' Ah Ai =>
    step _ _ w' (hR.trans f Ah) (fun p L=>by
     rcases List.mem_cons.1 L with rfl|L
     .exact Ai
     .exact U p L _ _ Ah (hF p L)) (fun p L=>by
     rcases List.mem_cons.1 L with rfl|L
     .exact fun w1 w2 Az G=>Ay _ _ _ Az G
     .exact U p L) (m5 v ⟨w',Ai⟩)
   unfold wpOp;simp only[m1];rw[if_pos m2];refine .inl ?_;have E:=m4 w f (fun p L _=>hF p L);unfold Oper.wp;generalize (execOp a.eval o).run P w=r at *
   cases r with
   | ok m w' =>
    cases m<;>simp only[mr] at E<;>simp only[Oper.upon]
    case value u=>exact K u w' E.1 E.2
    case skip=>exact K undef w' E.1 E.2
    case enter f' args =>
     obtain⟨rfl,c⟩:=E;exact c.mono fun e A0 ⟨v,he,G,h2⟩=>by subst he;exact K v A0 G h2
   | halt q w'=>simp only[mr] at E
theorem qs{Q:Act->dL->Prop}{rest:List Elt}{D:dL}:∀(r:List Nat) (a:Act) (K:Act->Prop),(∀i∈r,gt ops i=true)->wpQuiet P ops (R w0) K (r.filterMap (ops[·]?)) a->(∀E,K E->pB P ops R w0 Q rest E D) ->
  pB P ops R w0 Q (r.map (fun i=>((i,[],none):Elt))++rest) a D
 | [],a,K,_,h,hk=>hk a h
 | i::r,a,K,hc,h,hk=>by
  have A:=hc i List.mem_cons_self;unfold gt at A
  cases B:ops[i]? with
  | none=>rw[B] at A;cases A
  | some o =>
   rw[B] at A;have C:qOp P ops (R w0) i (wpQuiet P ops (R w0) K (r.filterMap (ops[·]?))) a:=by
    unfold qOp;simp only[B];rw[List.filterMap_cons_some B] at h;exact h
   obtain⟨v,F,G⟩:=yieldsIn_of_qOp B C;exact⟨o,v,B,A,F,qs r _ K (fun j H=>hc j (List.mem_cons_of_mem _ H)) G hk⟩
end
abbrev pv:=List Nat × Nat × List Nat × (Value->World->Prop)
def je(S:List pv):List Elt:=S.flatMap fun s=>s.1.map (fun i=>((i,[],none):Elt))++[(s.2.1,s.2.2.1,some s.2.2.2)]
def mC(S:List (List Nat × Nat × List Nat)):List (Nat × List Nat):=S.flatMap fun s=>s.1.map (fun i=>(i,[]))++[(s.2.1,s.2.2)]
theorem jV(S:List pv):(je S).map (fun x=>(x.1,x.2.1))=mC (S.map fun s=>(s.1,s.2.1,s.2.2.1)):=by
 induction S with
 | nil=>rfl
 | cons s S ih =>
  simp only[je,mC,List.map_cons,List.flatMap_cons,List.map_append] at ih ⊢;rw[ih];simp
theorem tP(S:List pv):(je S).map (·.1)=(mC (S.map fun s=>(s.1,s.2.1,s.2.2.1))).map (·.1):=by
 rw[<-jV,List.map_map]
 rfl
def holdsF(A:List Nat):dL->World->Prop
 | [],_=>True
 | (i,f)::Fs,w=>(A.contains i=true->f w)/\holdsF A Fs w
def allF:dL->World->Prop
 | [],_=>True
 | (_,f)::Fs,w=>f w/\allF Fs w
theorem tL(B:List Nat)(w:World):∀A,Fits B A w->holdsF B A w
 | [],_=>trivial
 | (i,f)::A,h=>⟨fun hi=>h _ List.mem_cons_self (by simpa using hi),tL B w A fun p C=>h p (List.mem_cons_of_mem _ C)⟩
theorem nP(w:World):∀A:dL,(∀p∈A,p.2 w)->allF A w
 | [],_=>trivial
 | (_,_)::A,h=>⟨h _ List.mem_cons_self,nP w A fun p B=>h p (List.mem_cons_of_mem _ B)⟩
theorem uL(w:World):∀A:dL,allF A w->∀p∈A,p.2 w
 | (_,_)::A,h,p,hp=>by
  rcases List.mem_cons.1 hp with rfl|hp
  .exact h.1
  .exact uL w A h.2 p hp
def wpFItem(P:Program)(l:List Oper)(i:Nat)(B:List Nat)(T:Value->World->Prop)(w:World)(K:Act->dL->Prop)(A:dL)(a:Act):Prop :=
 ∃o,l.toArray[i]?=some o/\Region.wanted o (yielded l.toArray a.tmps)=true/\(∃v w',T v w')/\(∀w',GR w w'->holdsF B A w'->mr P GR T w' ((execOp a.eval o).run P w'))/\∀v,(∃w,T v w)->K (a.put o.dst v) ((i,T v)::A)
def ka(P:Program)(l:List Oper)(w:World)(Q:Act->dL->Prop):List pv->Act->dL->Prop
 | [],a,Fs=>Q a Fs
 | (r,i,ln,T)::rest,a,Fs=>wpQuiet P l.toArray (fun w'=>∃p:eY,w'=ab w p) (wpFItem P l i ln T w (ka P l w Q rest) Fs) (pick l r) a
theorem aI{P:Program}{l:List Oper}{w:World}{Q:Act->dL->Prop}{r:List Nat}{i:Nat}{A:List Nat}{T:Value->World->Prop}{rest:List pv}{a:Act}{B:dL}(h:wpQuiet P l.toArray (fun w'=>∃p:eY,w'=ab w p) (wpFItem P l i A T w (ka P l w Q rest) B) (pick l r) a):ka P l w Q ((r,i,A,T)::rest) a B:=h
theorem ko{P:Program}{l:List Oper}{w:World}{Q:Act->dL->Prop}:∀(S:List pv) (a:Act) (A:dL),(∀s∈S,∀i∈s.1,i<l.length/\gt l.toArray i=true)->ka P l w Q S a A->pB P l.toArray GR w Q (je S) a A
 | [],_,_,_,h=>h
 | (r,i,ln,T)::S,a,A,hS,h=>by
  have h0:=hS _ List.mem_cons_self;unfold ka at h;rw[<-fy l r (List.all_eq_true.2 fun j B=>by simpa using (h0 j B).1)] at h;show pB P l.toArray GR w Q ((r.map (fun i=>((i,[],none):Elt))++[(i,ln,some T)])++je S) a A
  rw[List.append_assoc];refine qs r a _ (fun j B=>(h0 j B).2) h fun G ⟨o,k1,k2,k3,k4,k5⟩=>?_;exact⟨o,k1,k2,k3,fun w' C D=>k4 w' C (tL _ _ _ D),fun v E=>ko S _ _ (fun s F=>hS s (List.mem_cons_of_mem _ F)) (k5 v E)⟩
def freeB(ops:Array Oper)(n:Nat)(S:List (List Nat × Nat × List Nat))(T:List Nat):Bool :=
 (S.all fun s=>s.1.all fun i=>decide (i<n)&&gt ops i)&&T.all (fun i=>decide (i<n))&&Region.noSelect ops&&ed .any ops (Array.replicate n false) ((mC S).map (·.1))&&decide ((mC S).map (·.1)).Nodup&&lm .any ops (mC S)&&decide ((mC S).length+T.length=n)&&pA .any ops T (lay (Array.replicate n false) ((mC S).map (·.1)))
theorem eh{P:Program}{q:Nat}{Q:Exit->Act->World->Prop}{a:Act}{w:World}{l:List Oper}(S:List pv)(T:List Nat)(r:P.follows .mixedOrders=true)
  (d:freeB l.toArray l.length (S.map fun s=>(s.1,s.2.1,s.2.2.1)) T=true) (V:∀s∈S,io GR s.2.2.2)
  (h:ka P l w (fun X H=>∀w',GR w w'->allF H w'->wpList P l.toArray Q (pick l T) X w') S a []):(Code.region q l.toArray true).wp P Q a w:=by
 simp only[freeB,Bool.and_eq_true,decide_eq_true_eq] at d
 obtain⟨⟨⟨⟨⟨⟨⟨t,b2⟩,b3⟩,b4⟩,f⟩,u⟩,y⟩,g⟩:=d
 rw[<-fy l T b2] at h
 obtain⟨M,m⟩:=eC ((mC (S.map fun s=>(s.1,s.2.1,s.2.2.1))).map (·.1))
 have A:(je S).map (·.1)=M:=by rw[tP,m]
 have D:(je S).length+T.length=l.length:=by
  rw[<-y,<-jV,List.length_map]
 rw[m] at b4 f g
 have I:=ko S a [] (fun s J i hi=>by
  have:=List.all_eq_true.1 (List.all_eq_true.1 t _ (List.mem_map_of_mem J)) i hi;simpa using this) h
 have B:(Array.replicate l.length false).size=l.toArray.size:=by simp
 have C:kP .any l.toArray M (Array.replicate l.length false)=true:=by
  unfold ed at b4;simp only[Bool.and_eq_true] at b4;exact b4.1
 have E:∀j∈M,j<l.toArray.size:=by
  have key:∀(L:List Nat) (G:Array Bool),kP .any l.toArray L G=true->∀k∈L,k<l.toArray.size:=by
   intro L;induction L with
   | nil=>intro G _ k K;cases K
   | cons k0 L ih =>
    intro G ht k K;simp only[kP,Bool.and_eq_true] at ht;rcases List.mem_cons.1 K with rfl|K
    .obtain⟨o,z,_⟩:=ez.1 ht.1
     exact(Array.getElem?_eq_some_iff.1 z).1
    .exact ih _ ht.2 k K
  exact key M _ C
 refine cP r ?_
 rw[show l.length=(je S).length+T.length from D.symm]
 rw[show (Array.replicate ((je S).length+T.length) false)=Array.replicate l.length false by rw[D]]
 refine qd (M:=M) (base:=Array.replicate l.length false) uB (fun a H Y J Z w' b c=>Z w' b (nP w' H fun p N=>uL w' Y c p (J p N))) (Region.noSelect_spec b3) b4 (lay (Array.replicate l.length false) M) (fun listed O R=>?_) (fun a H w' b c Z=>fl T _ a w' g (Z w' b (nP w' H c))) _ (je S) _ a [] _ rfl (Inv.refl B) (fun x hx=>⟨by rw[<-A];exact List.mem_map_of_mem hx,?_⟩) (fun j F _=>by
   rw[<-A] at F;obtain⟨x,hx,rfl⟩:=List.mem_map.1 F;exact⟨x,hx,rfl⟩) (by rw[A];exact f) (by rw[A];exact C) (by rw[jV];exact u) (fun x hx T' U=>?_) (GR.of (Below.refl _ _).drew) (fun p N=>by cases N) (fun p N=>by cases N) I
 .refine Array.ext (by rw[O.size,lw,B]) fun j h1 n=>?_
  have e1:listed[j]=listed.getD j true:=by simp[h1]
  have e2:(lay (Array.replicate l.length false) M)[j]=(lay (Array.replicate l.length false) M).getD j true:=by simp[n]
  rw[e1,e2];by_cases F:j∈M
  .rw [R j F,jU (by exact n)]
   exact(lay_in M _ j F (by rw[B];exact E j F)).symm
  .rw [O.out j F,uW M _ j F]
 .have:x.1<l.length:=by
   have:=E x.1 (by rw[<-A];exact List.mem_map_of_mem hx)
   simpa using this
  simp[this]
 .obtain⟨s,J,hx⟩:=List.mem_flatMap.1 hx
  rcases List.mem_append.1 hx with hx|hx
  .obtain⟨i,_,rfl⟩:=List.mem_map.1 hx
   cases U
  .rw [List.mem_singleton.1 hx] at U
   injection U with U
   rw[<-U];exact V s J
end Batch
end
section
open Go.RowKit Mem
theorem ji(l:List UInt8)(w:World):∃B c,(convert 9 62 (.string (str l))).run prog w=.ok (.slice (some ⟨w.heap.size,0,none⟩) l.length c) B/\Bs B B.heap.size (some ⟨w.heap.size,0,none⟩) l.length l/\eF w B:=by
 have h:=run_bytes_of_string (P:=prog) w 9 62 5 (str l) underlying9 underlying62 underlying5
 rw[aC] at h
 refine⟨_,_,h,⟨by rw[dV];omega,fun j u C=>⟨_,rfl,by simp,?_⟩⟩,((Below.refl _ _).drew).alloc eH _⟩
 rw[aZ]
 have A:j<l.length:=by
  have:=(List.getElem?_eq_some_iff.1 C).1;rwa [dV] at this
 have D:=rT w.drew (bytesRow (str l) (grownCap w l.length 0 5)) 5 ((bytesRow (str l) (grownCap w l.length 0 5)).size,(bytesRow (str l) (grownCap w l.length 0 5)).size+1) j
 refine D.trans ?_
 rw[<-C,pt]
 unfold bytesRow
 simp only[str]
 rw[Array.getElem?_append_left (by simpa using A)]
 simp[A]
end
end Go.Proofs.YtmbpnkacggngkaaGreatDoor
