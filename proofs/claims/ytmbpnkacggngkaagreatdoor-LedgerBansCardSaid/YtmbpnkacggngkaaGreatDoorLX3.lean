/- Mix, LedOpR, LedDec, ShaOf, ShaNames, LedCodesSpec, MixR, Conv (put together by bundle.py: only what is needed). -/
import Derived.Laws.DeepStrings4
import Derived.Laws.IdiomStrings
import Derived.Test.YtmbpnkacggngkaaGreatDoorLX2
set_option maxRecDepth 100000
set_option maxHeartbeats 16000000
namespace Go.Proofs.YtmbpnkacggngkaaGreatDoor
open Batch
open Tryz
section
namespace Batch
open Go.RowKit
def calm:Op->Bool
 | .load _ _=>true
 | .build _ _=>true
 | .nilCheck _=>true
 | o=>lD o
theorem lX{P:Program} {o:Oper} (h:calm o.op=true) (F:Operand->Value) (w w':World) (n:Next) (A:(execOp F o).run P w=.ok n w'):∃ u,n=.value u:=by
 by_cases I:lD o.op=true
 .exact ma I F w w' n A
 .obtain⟨K,L,J,M,G,H⟩:=o
  cases L <;> first|(exfalso; simp [calm,lD] at h I; done)|skip
  case neg.nilCheck x =>
   unfold execOp at A; simp only at A; generalize F x=y at A; have E:(runtimePanic .nilDeref:Sem Next).run P w=.ok n w'->False:=fun h=>by simp [runtimePanic] at h
   split at A
   .exact(E A).elim
   .exact(E A).elim
   .exact(E A).elim
   .split at A
    .exact(E A).elim
    .rename_i t vv _
     simp only [Sem.run_bind] at A
     cases C:(program:Sem Program).run P w with
     | halt q w1=>rw [C] at A; cases A
     | ok u w1 =>
      rw [C] at A; simp only [Result.andThen_ok] at A
      cases D:(nilAhead (u.types.size+Made.depth) t vv _).run P w1 with
      | halt q w2=>rw [D] at A; cases A
      | ok b w2 =>
       rw [D] at A; simp only [Result.andThen_ok] at A; split at A
       .simp at A
       .simp at A
        exact⟨_,A.1.symm⟩
    .simp at A
     exact⟨_,A.1.symm⟩
   .simp at A
    exact⟨_,A.1.symm⟩
  all_goals
   have key:∀ (s:Sem Value),(do pure (Next.value (<-s)):Sem Next).run P w=.ok n w'->∃ u,n=.value u:=fun s B=>by
    rw [Sem.run_bind] at B
    cases C:s.run P w with
    | halt q w1=>rw [C] at B; cases B
    | ok u w1 =>
     rw [C] at B; simp only [Result.andThen_ok,Sem.run_pure,Result.ok.injEq] at B; exact⟨u,B.1.symm⟩
   exact key _ A
section
variable {P:Program} {ops:Array Oper} {md:Region.Mode} {R:World->World->Prop} {w0:World}
def dQ (ops:Array Oper) (i:Nat):Bool:=match ops[i]? with|some o=>calm o.op|none=>false
def o6 (P:Program) (md:Region.Mode) (ops:Array Oper) (R:World->World->Prop) (w0:World) (B:List Nat) (L:List dG) (Q:Array Bool->Act->(World->Prop)->Prop):Nat->Array Bool->Act->(World->Prop)->Prop
 | 0,listed,a,F=>Q listed a F
 | f+1,listed,a,F=>Region.ready md ops listed≠[]/\∀ i∈Region.ready md ops listed,
   (i∈B/\qOp P ops (R w0) i (fun A=>o6 P md ops R w0 B L Q f (listed.setIfInBounds i true) A F) a) \/
   (∃ x∈L,x.1=i/\∃ o,ops[i]?=some o/\Region.wanted o (yielded ops a.tmps)=true/\(∀ w,R w0 w->gE P R x.2 w ((execOp a.eval o).run P w)) /\
    ∀ v,o6 P md ops R w0 B L Q f (listed.setIfInBounds i true) (a.put o.dst v) (fun w=>F w/\x.2 v w))
theorem wpOp_calm{i:Nat} {a:Act} {K:Act->Prop} {F:Act->World->Prop} {Q':Exit->Act->World->Prop} {C:World->Prop} {w:World} (B:dQ ops i=true) (H:C w) (h:∀ a,K a->F a w) (A:qOp P ops C i K a):wpOp P ops Q' i F a w:=by
 unfold qOp at A
 unfold wpOp
 unfold dQ at B
 cases G:ops[i]? with
 | none=>rw [G] at B; cases B
 | some o =>
  simp only [G] at A B ⊢; split
  .rename_i hw
   simp only [hw,if_true] at A; refine .inl ?_; obtain⟨v,I,J⟩:=A; have D:=I w H; unfold Oper.quietAt at D; unfold Oper.wp
   cases E:(execOp a.eval o).run P w with
   | halt q w'=>rw [E] at D; exact D.elim
   | ok n w' =>
    obtain⟨u,rfl⟩:=lX B a.eval w w' n E; rw [E] at D; obtain⟨rfl,rfl⟩:=D; exact h _ J
  .rename_i hw
   simp only [hw] at A; exact h _ A
def lateB (md:Region.Mode) (ops:Array Oper) (base:Array Bool) (B:List Nat) (L:List Nat):Bool :=
 B.all fun c=>dQ ops c||L.all fun i=>!(ge md ops c (B++L) base).getD i true
theorem mb:∀ (L:List Nat) (A:Array Bool),jA md ops L A=true->∀ k∈L,k<ops.size
 | [],_,_,k,hk=>by cases hk
 | k0::L,A,ht,k,hk=>by
  simp only [jA,Bool.and_eq_true] at ht; rcases List.mem_cons.1 hk with rfl|hk
  .obtain⟨o,B,_⟩:=d7.1 ht.1
   exact(Array.getElem?_eq_some_iff.1 B).1
  .exact mb L _ ht.2 k hk
theorem late_listed{B L:List Nat} {base listed:Array Bool} (D:Inv md ops (B++L) base listed) (N:bq md ops base (B++L)=true) (R:lateB md ops base B L=true) {i:Nat} (hi:i∈L) (S:i∈Region.ready md ops listed)
  {c:Nat} (H:c∈B) (I:dQ ops c=false) (J:c≠i):listed.getD c true=true:=by
 cases K:listed.getD c true with
 | true=>rfl
 | false =>
  exfalso
  have O:=List.all_eq_true.1 R c H; simp only [I,Bool.false_or] at O; have Q:=List.all_eq_true.1 O i hi; simp only [bq,Bool.and_eq_true] at N; obtain⟨A,_⟩:=N; have C:i∈B++L:=List.mem_append_right _ hi; have F:=D.set C S; have E:i<ops.size:=mb _ _ A i C; have G:=lC (md:=md) (ops:=ops) (listed:=listed.setIfInBounds i true) (base:=base) (i:=c) (by rw [getD_set_ne false (Ne.symm J)]; exact getD_both K) F.closed (B++L) base base
   (fun k T=>by rw [D.bs]; exact mb _ _ A k T) A (fun _ h=>h) (fun _ h _=>h) i (lay_in _ _ _ C (by rw [D.bs]; exact E)) (iZ (by rw [D.size]; exact E))
  have M:i<(ge md ops c (B++L) base).size:=by
   rcases Nat.lt_or_ge i (ge md ops c (B++L) base).size with h|h
   .exact h
   .simp [Array.getElem?_eq_none h] at G
  rw [dm M,G] at Q
  cases Q
theorem sH{B:List Nat} {L:List dG} {base:Array Bool} {g:Nat} {Q:Array Bool->Act->(World->Prop)->Prop} {Q':Exit->Act->World->Prop} (hR:t7 R) (k:∀ x∈L,fd R x.2) (hc:bq md ops base (B++L.map (·.1))=true) (hl:lateB md ops base B (L.map (·.1))=true) (U:∀ x∈L,x.1∉B)
  (hQ:∀ listed a F w,R w0 w->F w->Q listed a F->wpAny P md ops Q' g listed a w) :
  ∀ (f:Nat) (listed:Array Bool) (a:Act) (F:World->Prop) (w:World),Inv md ops (B++L.map (·.1)) base listed->R w0 w->F w->(∀ w w',R w w'->F w->F w')->((∀ w,F w)\/(∀ c∈B,dQ ops c=false->listed.getD c true=true)) ->
   o6 P md ops R w0 B L Q f listed a F->wpAny P md ops Q' (f+g) listed a w:=by
 intro f
 induction f with
 | zero =>
  intro listed a F w _ M j _ _ h; rw [Nat.zero_add]; exact hQ _ _ _ _ M j h
 | succ f ih =>
  intro listed a F w N M j H G h; rw [show f+1+g=(f+g)+1 by omega]; refine⟨fun h0=>absurd h0 h.1,fun i hi=>?_⟩; rcases h.2 i hi with⟨V,z⟩|⟨x,hx,rfl,o,ho,l,hg,hk⟩
  .have E:=N.set (List.mem_append_left _ V) hi
   cases A:dQ ops i with
   | true =>
    refine wpOp_calm (C:=R w0) A M (fun n O=>ih _ n F w E M j H ?_ O) z; rcases G with G|G
    .exact .inl G
    .refine .inr fun c I J=>?_
     have K:i≠c:=fun e=>by rw [e,J] at A; cases A
     rw [getD_set_ne true K]; exact G c I J
   | false =>
    have X:∀ w,F w:=by
     rcases G with G|G
     .exact G
     .have S:=G i V A
      rw [(mem_ready.1 hi).1] at S
      cases S
    exact wpOp_of_qOp (C:=R w0) M (fun n w' s O=>ih _ n F w' E s (X w') H (.inl X) O) z
  .have Y:x.1∈L.map (·.1):=List.mem_map_of_mem hx
   have E:=N.set (List.mem_append_right _ Y) hi; have Z:∀ c∈B,dQ ops c=false->(listed.setIfInBounds x.1 true).getD c true=true:=fun c I J=>by
    have K:c≠x.1:=fun e=>U x hx (by rw [<-e]; exact I)
    rw [getD_set_ne true (Ne.symm K)]; exact late_listed N hc hl Y hi I J K
   have step:∀ v w',R w w'->x.2 v w'->wpAny P md ops Q' (f+g) (listed.setIfInBounds x.1 true) (a.put o.dst v) w':=fun v w' b t =>
    ih _ _ _ w' E (hR.trans M b) ⟨H _ _ b j,t⟩ (fun w1 w2 d S=>⟨H _ _ d S.1,k x hx _ _ _ d S.2⟩) (.inr Z) (hk v)
   unfold wpOp; simp only [ho]; rw [if_pos l]; refine .inl ?_; have D:=hg w M; unfold Oper.wp; generalize (execOp a.eval o).run P w=r at *
   cases r with
   | ok m w' =>
    cases m <;> simp only [gE] at D <;> simp only [Oper.upon]
    case value u=>exact step u w' D.1 D.2
    case skip=>exact step undef w' D.1 D.2
    case enter f' args =>
     obtain⟨rfl,T⟩:=D; exact T.mono fun e y ⟨v,he,S,h2⟩=>by subst he; exact step v y S h2
   | halt q w'=>simp only [gE] at D
theorem wpMix_first{B:List Nat} {L:List dG} {Q:Array Bool->Act->(World->Prop)->Prop} {base X:Array Bool} {i:Nat} {G:Oper} {v:Value} (hi:ops[i]?=some G) (D:∀ (j:Nat) (o:Oper) cs b,ops[j]?=some o->o.op≠.select cs b)
  (hc:bq md ops base (B++L.map (·.1))=true) (K:i∈B) (Y:∀ j∈B++L.map (·.1),X.getD j true=true) (hQ:∀ listed a F,Q listed a F->listed=X) :
  ∀ (f:Nat) (listed:Array Bool) (a:Act) (F:World->Prop),Inv md ops (B++L.map (·.1)) base listed ->
   (∀ j T,ops[j]?=some T->j≠i->listed.getD j true=false->(∀ e∈T.after,Region.binds md e=true->e.on≠i)->G.apart ops T=true) ->
   i∈Region.ready md ops listed->YieldsIn P ops (R w0) G v a ->
   o6 P md ops R w0 B L Q f (listed.setIfInBounds i true) (a.put G.dst v) F->o6 P md ops R w0 B L Q (f+1) listed a F:=by
 intro f
 induction f with
 | zero =>
  intro listed a F I _ M Z H; have C:=(mem_ready.1 M).1; refine⟨fun h=>(by rw [h] at M; cases M),fun j U=>?_⟩
  have N:=I.stays hc (List.mem_append_left _ K) C U; by_cases A:j=i
  .subst A; exact .inl ⟨K,Z.qOp hi H⟩
  .exfalso
   have O:=ready_mono U A; rw [hQ _ _ _ H] at O; have q:=(mem_ready.1 O).1; rw [Y j N] at q
   cases q
 | succ f ih =>
  intro listed a F I J M Z H; have C:=(mem_ready.1 M).1; refine⟨fun h=>(by rw [h] at M; cases M),fun j U=>?_⟩
  have N:=I.stays hc (List.mem_append_left _ K) C U; by_cases A:j=i
  .subst A; exact .inl ⟨K,Z.qOp hi H⟩
  .have O:=H.2 j (ready_mono U A)
   obtain⟨V,T,S,c⟩:=mem_ready.1 U; have d:∀ e∈T.after,Region.binds md e=true->e.on≠i:=fun e he hb r=>by
    have O:=c e he hb; rw [r,getD_both C] at O
    cases O
   have g:=J j T S A V d; have E:∀ k ok,ops[k]?=some ok->k≠i->(listed.setIfInBounds j true).getD k true=false ->
     (∀ e∈ok.after,Region.binds md e=true->e.on≠i)->G.apart ops ok=true:=fun k ok s t C y=>by
    refine J k ok s t ?_ y; by_cases l:j=k
    .subst l; exact V
    .rw [getD_set_ne true l] at C; exact C
   rcases O with⟨m,O⟩|⟨x,hx,z,o,ho,n,hg,s⟩
   .refine .inl ⟨m,?_⟩
    have q:=qOp_put S g (fun cs b=>D i G cs b hi) (fun cs b=>D j T cs b S) Z O; refine qOp_mono (fun a' h3=>ih (listed.setIfInBounds j true) a' F (I.set N U) E (ready_mono M (Ne.symm A)) h3.1 ?_) q; rw [Array.setIfInBounds_comm _ _ A]; exact h3.2
   .have:o=T:=Option.some.inj (ho.symm.trans S)
    subst this; obtain⟨g1,g2,g3⟩:=Oper.apart_spec g; refine .inr ⟨x,hx,z,o,ho,?_,fun w hw=>?_,fun u=>?_⟩
    .rw [wanted_put o a G.dst v g1] at n
     exact n
    .have:=hg w hw
     rw [execOp_put o (fun cs b=>D j o cs b ho) a G.dst v g1] at this; exact this
    .refine ih (listed.setIfInBounds j true) (a.put o.dst u) _ (I.set N U) E (ready_mono M (Ne.symm A)) (Z.of_same (execOp_put G (fun cs b=>D i G cs b hi) a o.dst u g3) (wanted_put G a o.dst u g3)) ?_
     rw [Array.setIfInBounds_comm _ _ A,<-Act.put_comm a v u g2]; exact s u
theorem wpMix_loose{B:List Nat} {L0:List dG} {u:Act->(World->Prop)->Prop} {base Y:Array Bool} (Aa:∀ a F z,(∀ w,z w->F w)->u a F->u a z) (Z:∀ (j:Nat) (o:Oper) cs b,ops[j]?=some o->o.op≠.select cs b) (hc:bq md ops base (B++L0.map (·.1))=true) (Ab:nz ops (L0.map (·.1))=true) :
  ∀ (n:Nat) (L:List dG) (listed:Array Bool) (a:Act) (F:World->Prop),L.length=n->(L.map (·.1)).Nodup->(∀ x∈L,x∈L0/\x.1∈Region.ready md ops listed) ->
   (∀ i∈B++L0.map (·.1),listed.getD i true=false->i∈L.map (·.1))->Inv md ops (B++L0.map (·.1)) base listed->lay listed (L.map (·.1))=Y ->
   bh P ops R w0 u L a F->o6 P md ops R w0 B L0 (fun G a' z=>G=Y/\u a' z) n listed a F:=by
 intro n
 induction n with
 | zero =>
  intro L listed a F c _ _ _ _ d h; have:L=[]:=List.length_eq_zero_iff.1 c; subst this; exact⟨d,h⟩
 | succ n ih =>
  intro L listed a F c g X K N d h; obtain⟨x0,k,rfl⟩:∃ x k,L=x::k:=by
   cases L with
   | nil=>cases c
   | cons x k=>exact⟨x,k,rfl⟩
  have O:=X x0 List.mem_cons_self; refine⟨fun h0=>(by have:=O.2; rw [h0] at this; cases this),fun j hj=>?_⟩
  have l:j∈B++L0.map (·.1):=N.stays hc (List.mem_append_right _ (List.mem_map_of_mem O.1)) (mem_ready.1 O.2).1 hj; have Ac:=K j l (mem_ready.1 hj).1; obtain⟨⟨j',T⟩,H,Q⟩:=List.mem_map.1 Ac; have Q:j'=j:=Q; subst Q; obtain⟨B1,B2,A⟩:=List.append_of_mem H; rw [A] at h g d; have C:=g; simp only [List.map_append,List.map_cons] at C d; have I:∀ y∈B1,y.1≠j':=fun y E e=>by
   rw [List.nodup_append] at C; exact C.2.2 y.1 (List.mem_map_of_mem E) j' (List.mem_cons_self) e
  have m:∀ y∈B2,y.1≠j':=fun y E e=>by
   rw [List.nodup_append] at C; exact(List.nodup_cons.1 C.2.1).1 (by rw [<-e]; exact List.mem_map_of_mem E)
  have S:∀ y∈B1++B2,y∈x0::k/\y.1≠j':=fun y E=>by
   rcases List.mem_append.1 E with D|D
   .exact⟨by rw [A]; exact List.mem_append_left _ D,I y D⟩
   .exact⟨by rw [A]; exact List.mem_append_right _ (List.mem_cons_of_mem _ D),m y D⟩
  have Ad:j'∈L0.map (·.1):=List.mem_map_of_mem (f:=(·.1)) (X _ H).1; obtain⟨o,k1,k2,k3,k4⟩:=jz Aa Z Ab Ad B1 a F (fun y E=>⟨List.mem_map_of_mem (X y (by rw [A]; exact List.mem_append_left _ E)).1,I y E⟩) h
  refine .inr ⟨(j',T),(X _ H).1,rfl,o,k1,k2,k3,fun v=>?_⟩; refine ih (B1++B2) (listed.setIfInBounds j' true) (a.put o.dst v) _ ?_ ?_ ?_ ?_ (N.set l hj) ?_ (k4 v)
  .rw [A] at c
   simp only [List.length_append,List.length_cons] at c ⊢; omega
  .simp only [List.map_append]
   rw [List.nodup_append] at C ⊢; exact⟨C.1,(List.nodup_cons.1 C.2.1).2,fun p hp q hq=>C.2.2 p hp q (List.mem_cons_of_mem _ hq)⟩
  .intro y E
   obtain⟨D,h2⟩:=S y E; exact⟨(X y D).1,ready_mono (X y D).2 h2⟩
  .intro i hi J
   have r:i≠j':=by
    rintro rfl; have t:i<listed.size:=by
     obtain⟨o',Ae,_⟩:=(mem_ready.1 hj).2; rw [N.size]; exact(Array.getElem?_eq_some_iff.1 Ae).1
    rw [dm (by simpa using t),iZ t] at J
    cases J
   rw [getD_set_ne true (Ne.symm r)] at J; have D:=K i hi J; rw [A] at D; simp only [List.map_append,List.map_cons,List.mem_append,List.mem_cons] at D ⊢; rcases D with D|D|D
   .exact .inl D
   .exact absurd D r
   .exact .inr D
  .rw [<-d]
   simp only [List.map_append]; have U:∀ (M:List Nat) (V:List Nat) (s:Array Bool),j'∉M->lay (s.setIfInBounds j' true) (M++V)=lay s (M++j'::V):=by
    intro M; induction M with
    | nil=>intro V s _; rfl
    | cons p M ihl =>
     intro V s hp; have Af:p≠j':=fun e=>hp (by rw [e]; exact List.mem_cons_self)
     show lay ((s.setIfInBounds j' true).setIfInBounds p true) (M++V)=lay (s.setIfInBounds p true) (M++j'::V)
     rw [<-Array.setIfInBounds_comm _ _ Af]; exact ihl V _ (fun hm=>hp (List.mem_cons_of_mem _ hm))
   refine U _ _ _ (fun hm=>?_); obtain⟨y,E,Ag⟩:=List.mem_map.1 hm; exact I y E Ag
def mixB (md:Region.Mode) (ops:Array Oper) (base:Array Bool) (B L:List Nat):Bool :=
 Region.noSelect ops&&decide (base.size=ops.size)&&bq md ops base (B++L)&&lateB md ops base B L&&gu md ops B base&&nz ops L&&decide (B++L).Nodup&&L.all fun i=>(Region.ready md ops (lay base B)).contains i
theorem qc(A B:List Nat) (s:Array Bool):lay s (A++B)=lay (lay s A) B:=by simp [lay]
theorem wpAny_mix{Q':Exit->Act->World->Prop} {a:Act} {w:World} {base:Array Bool} {N fuel:Nat} (hR:t7 R) (y:R w0 w) (B:List Nat) (L:List dG) (hB:mixB md ops base B (L.map (·.1))=true) (z:∀ x∈L,fd R x.2) (hN:N=B.length+L.length+fuel)
  (h:wpQuiet P ops (R w0) (fun C=>bh P ops R w0 (fun C F=>∀ w',R w0 w'->F w'->wpAny P md ops Q' fuel (lay (lay base B) (L.map (·.1))) C w') L C (fun _=>True)) (B.filterMap (ops[·]?)) a):wpAny P md ops Q' N base a w:=by
 simp only [mixB,Bool.and_eq_true,decide_eq_true_eq] at hB
 obtain⟨⟨⟨⟨⟨⟨⟨Z,J⟩,b⟩,hl⟩,c⟩,Aa⟩,Ab⟩,d⟩:=hB
 subst hN
 have E:=Region.noSelect_spec Z
 have A:=Ab
 rw [List.nodup_append] at A
 have f:∀ x∈L,x.1∉B:=fun x hx hm=>A.2.2 x.1 hm x.1 (List.mem_map_of_mem hx) rfl
 have O:jA md ops (B++L.map (·.1)) base=true:=by
  simp only [bq,Bool.and_eq_true] at b; exact b.1
 have g:=mb _ _ O
 have m:∀ j∈B++L.map (·.1),(lay (lay base B) (L.map (·.1))).getD j true=true:=fun j hj=>by
  rw [<-qc,dm (by rw [ji,J]; exact g j hj)]
  exact lay_in _ _ _ hj (by rw [J]; exact g j hj)
 have key:∀ (l:List Nat) (listed:Array Bool) (a:Act),(∀ i∈l,i∈B)->(∀ i∈B,listed.getD i true=false->i∈l)->Inv md ops (B++L.map (·.1)) base listed->(∀ i∈L.map (·.1),listed.getD i true=false)->gu md ops l listed=true->lay listed l=lay base B ->
   wpQuiet P ops (R w0) (fun C=>bh P ops R w0 (fun C F=>∀ w',R w0 w'->F w'->wpAny P md ops Q' fuel (lay (lay base B) (L.map (·.1))) C w') L C (fun _=>True)) (l.filterMap (ops[·]?)) a ->
   o6 P md ops R w0 B L (fun G C F'=>G=lay (lay base B) (L.map (·.1))/\∀ w',R w0 w'->F' w'->wpAny P md ops Q' fuel (lay (lay base B) (L.map (·.1))) C w') (l.length+L.length) listed a (fun _=>True):=by
  intro l; induction l with
  | nil =>
   intro listed a _ H I _ _ V h; have V:listed=lay base B:=V; rw [List.length_nil,Nat.zero_add]; refine wpMix_loose (fun a F F' Ac n w' Q Ad=>n w' Q (Ac w' Ad)) E b Aa L.length L listed a _ rfl A.2.1 (fun x hx=>⟨hx,?_⟩) (fun i hi D=>?_) I (by rw [V]) h
   .have:=List.all_eq_true.1 d x.1 (List.mem_map_of_mem hx)
    rw [V]; simpa using this
   .rcases List.mem_append.1 hi with K|K
    .cases H i K D
    .exact K
  | cons i l ih =>
   intro listed a q H I S r V h; simp only [gu,Bool.and_eq_true] at r; obtain⟨⟨hr,Ae⟩,Af⟩:=r; have T:i∈Region.ready md ops listed:=by simpa using hr
   obtain⟨_,o,X,_⟩:=mem_ready.1 T; have U:=q i List.mem_cons_self; have s:qOp P ops (R w0) i (wpQuiet P ops (R w0) (fun C=>bh P ops R w0 (fun C F=>∀ w',R w0 w'->F w'->wpAny P md ops Q' fuel (lay (lay base B) (L.map (·.1))) C w') L C (fun _=>True)) (l.filterMap (ops[·]?))) a:=by
    unfold qOp; simp only [X]; rw [List.filterMap_cons_some X] at h; exact h
   obtain⟨v,hy,hK⟩:=yieldsIn_of_qOp X s; have:=ih (listed.setIfInBounds i true) _ (fun k Y=>q k (List.mem_cons_of_mem _ Y)) (fun k Y D=>by
    have M:k≠i:=by
     rintro rfl; have t:k<listed.size:=by rw [I.size]; exact(Array.getElem?_eq_some_iff.1 X).1
     rw [dm (by simpa using t),iZ t] at D
     cases D
    rw [getD_set_ne true (Ne.symm M)] at D; rcases List.mem_cons.1 (H k Y D) with K|K
    .exact absurd K M
    .exact K) (I.set (List.mem_append_left _ U) T) (fun k Y=>by
     have M:i≠k:=fun e=>A.2.2 i U k Y e; rw [getD_set_ne true M]; exact S k Y) Af V hK
   rw [show (i::l).length+L.length=(l.length+L.length)+1 by simp only [List.length_cons]; omega]
   exact wpMix_first X E b U m (fun _ _ _ n=>n.1) _ listed a _ I (Region.free_spec X Ae) T hy this
 have S:∀ i∈L.map (·.1),base.getD i true=false:=fun i hi=>by
  have K:i∈Region.ready md ops (lay base B):=by
   have:=List.all_eq_true.1 d i hi; simpa using this
  have u:=(mem_ready.1 K).1; rw [tL B base i (fun hm=>A.2.2 i hm i hi rfl)] at u; exact u
 have hM:=key B base a (fun _ h=>h) (fun _ h _=>h) (Inv.refl J) S c rfl h
 exact sH hR z b hl f (fun listed C F w' Q hF n=>by obtain⟨rfl,u⟩:=n; exact u w' Q hF) _ base a _ w (Inv.refl J) y trivial (fun _ _ _ h=>h) (.inl fun _=>trivial) hM
end
def GR (w w':World):Prop:=∃ p:bN,w'=ab w p
theorem GR.below{w w':World} (h:GR w w'):eD w w':=by
 obtain⟨p,rfl⟩:=h
 exact aa w p
theorem GR.of{w w':World} (h:eD w w'):GR w w':=lp h
theorem mm:t7 GR:=⟨fun w=>.of (Below.refl _ w),fun {_ _ _} h k=>.of (h.below.trans (k.below.mono h.below.size))⟩
theorem ax{T:Value->World->Prop} (h:∀ v w w',eD w w'->T v w->T v w'):fd GR T:=fun v w w' A ht=>h v w w' A.below ht
def qW (md:Region.Mode) (ops:Array Oper):List Nat->Array Bool->Bool
 | [],listed=>(Region.ready md ops listed).isEmpty
 | k::T,listed=>decide (Region.ready md ops listed=[k])&&qW md ops T (listed.setIfInBounds k true)
theorem dI{P:Program} {md:Region.Mode} {ops:Array Oper} {Q':Exit->Act->World->Prop}:∀ (T:List Nat) (listed:Array Bool) (a:Act) (w:World),qW md ops T listed=true->wpList P ops Q' (T.filterMap (ops[·]?)) a w->wpAny P md ops Q' T.length listed a w
 | [],listed,a,w,hB,h=>⟨by simpa [qW] using hB,h⟩
 | k::T,listed,a,w,hB,h=>by
  simp only [qW,Bool.and_eq_true,decide_eq_true_eq] at hB; refine⟨fun C=>(by rw [hB.1] at C; cases C),fun i hi=>?_⟩
  have A:=hi; rw [hB.1] at hi; have B:i=k:=by simpa using hi
  subst B; obtain⟨_,o,h0,_⟩:=mem_ready.1 A; rw [List.filterMap_cons_some h0] at h; have D:wpOp P ops Q' i (wpList P ops Q' (T.filterMap (ops[·]?))) a w:=by unfold wpOp; simp only [h0]; exact h
  exact wpOp_mono (fun E w' F=>dI T _ E w' hB.2 F) D
theorem lw{P:Program} {J:Nat} {Q:Exit->Act->World->Prop} {a:Act} {w:World} {l:List Oper} (B:List Nat) (L:List dG) (T:List Nat) (K:P.follows .mixedOrders=true)
  (I:(B.all (fun i=>decide (i<l.length))&&T.all (fun i=>decide (i<l.length))&&mixB .any l.toArray (Array.replicate l.length false) B (L.map (·.1))&&decide (B.length+L.length+T.length=l.length)&&qW .any l.toArray T (lay (lay (Array.replicate l.length false) B) (L.map (·.1))))=true)
  (H:∀ x∈L,fd GR x.2)
  (h:wpQuiet P l.toArray (fun w'=>∃ p:bN,w'=ab w p) (fun C=>bh P l.toArray GR w (fun A F=>∀ w',GR w w'->F w'->wpList P l.toArray Q (pick l T) A w') L C (fun _=>True)) (pick l B) a):(Code.region J l.toArray true).wp P Q a w:=by
 simp only [Bool.and_eq_true,decide_eq_true_eq] at I
 obtain⟨⟨⟨⟨M,N⟩,O⟩,V⟩,R⟩:=I
 rw [<-da l B M,<-da l T N] at h
 refine bL K (wpAny_mix (fuel:=T.length) mm (GR.of (Below.refl _ _).drew) B L O H (by omega) ?_)
 have key:∀ (L0:List dG) (a:Act) (F:World->Prop),bh P l.toArray GR w (fun A F=>∀ w',GR w w'->F w'->wpList P l.toArray Q (T.filterMap (fun i=>l.toArray[i]?)) A w') L0 a F ->
   bh P l.toArray GR w (fun C F=>∀ w',GR w w'->F w'->wpAny P .any l.toArray Q T.length (lay (lay (Array.replicate l.length false) B) (L.map (·.1))) C w') L0 a F:=by
  intro L0; induction L0 with
  | nil=>intro a F h w' D S; exact dI T _ a w' R (h w' D S)
  | cons x L0 ih=>intro a F ⟨o,U,k2,k3,k4⟩; exact⟨o,U,k2,k3,fun v=>ih _ _ (k4 v)⟩
 have E:∀ (G:List Oper) (a:Act),wpQuiet P l.toArray (fun w'=>∃ p:bN,w'=ab w p) (fun C=>bh P l.toArray GR w (fun A F=>∀ w',GR w w'->F w'->wpList P l.toArray Q (T.filterMap (fun i=>l.toArray[i]?)) A w') L C (fun _=>True)) G a ->
   wpQuiet P l.toArray (GR w) (fun C=>bh P l.toArray GR w (fun C F=>∀ w',GR w w'->F w'->wpAny P .any l.toArray Q T.length (lay (lay (Array.replicate l.length false) B) (L.map (·.1))) C w') L C (fun _=>True)) G a:=by
  intro G; induction G with
  | nil=>intro a h; exact key _ _ _ h
  | cons o G ih =>
   intro a h; unfold wpQuiet at h ⊢; split
   .rename_i D
    simp only [D,if_true] at h; exact Oper.quiet_mono (fun a=>ih a) h
   .rename_i D
    simp only [D] at h; exact ih _ h
 exact E _ _ h
end Batch
end
section
open Go.RowKit Mem Led
def lv:Led.Op:=⟨0,0,[],⟨0,[],[],0,[]⟩,⟨[],[],0,false⟩,⟨[],[],0,0,[]⟩,⟨[],[],0,0⟩,⟨[],0,[]⟩⟩
theorem jv_snoc(L:List Jwk) (k:Jwk):jv (L++[k])=jv L++[tx k.kid,tx k.x]:=by simp [jv]
end
section
open Go.RowKit Mem Led
theorem oA:(prog.info? 47).map (·.size)=some 24:=by kernel_rfl
def loadOp (x:Value):Sem Value:=Instr.loadAt 47 x
def sV (x v:Value):Sem Unit:=Instr.storeAt 47 x v
theorem re(x:Value):Instr.loadAt 47 x=loadOp x:=rfl
theorem pL(x v:Value):Instr.storeAt 47 x v=sV x v:=rfl
attribute [go_sem ↓] re pL
theorem Blk.has{w:World} {g n:Nat} {cs:List Value} {t:TypeId} (h:Blk w g cs t) (A:cs.length=n):Has w g 0 n:=fun j B=>by
 rw [Nat.zero_add,h.cell j,List.getElem?_eq_getElem (by omega)]
 rfl
theorem Blk.arr{w:World} {g n:Nat} {cs:List Value} {t:TypeId} (h:Blk w g cs t) (A:cs.length=n):arr w g 0 n=cs.toArray:=(sx (n:=n) h (by simpa using A)).1
theorem fy{w:World} {g:Nat} {cs:List Value} {t:TypeId} (h:Blk w g cs t) (A:cs.length=24):(loadOp (.pointer (some ⟨g,0,none⟩))).run prog w=.ok (.agg cs.toArray) w:=by
 have:=bF (P:=prog) w 47 g 0 24 _ underlying47 rfl oA (h.has A)
 rw [h.arr A] at this
 exact this
theorem jE:∀ (vs:List Value) (w:World) (g k:Nat) (cs:List Value) (t:TypeId),Blk w g cs t->k+vs.length<=cs.length->Blk (w.setCells g k vs) g (cs.take k++vs++cs.drop (k+vs.length)) t
 | [],w,g,k,cs,t,h,_=>by simpa [World.setCells] using h
 | v::vs,w,g,k,cs,t,h,hk=>by
  have ih:=jE vs (w.setCell ⟨g,k,none⟩ v) g (k+1) (cs.set k v) t (h.set k v) (by simp at hk ⊢; omega)
  have e:(cs.set k v).take (k+1)++vs++(cs.set k v).drop (k+1+vs.length)=cs.take k++v::vs++cs.drop (k+(v::vs).length):=by
   have A:k<cs.length:=by simp at hk; omega
   rw [List.take_set,List.drop_set_of_lt (by omega),List.length_cons,show k+1+vs.length=k+(vs.length+1) by omega]; have:(cs.take (k+1)).set k v=cs.take k++[v]:=by
    rw [<-List.take_append_getElem A,List.set_append_right _ _ (by rw [List.length_take]; omega)]
    simp [Nat.min_eq_left (Nat.le_of_lt A)]
   rw [this]; simp
  rw [e] at ih; exact ih
theorem pd{w:World} {g:Nat} {cs vs:List Value} {t:TypeId} (h:Blk w g cs t) (A:cs.length=24) (B:vs.length=24) (D:∀ v∈vs,v.oneCell'=true) :
  (sV (.pointer (some ⟨g,0,none⟩)) (.agg vs.toArray)).run prog w=.ok () (w.setCells g 0 vs)/\Blk (w.setCells g 0 vs) g vs t:=by
 have E:=bE (P:=prog) w 47 g 0 24 oA vs.toArray ⟨by simpa using B,by simpa using D⟩ (h.has A) (fun j _=>h.froz _)
 have C:=jE vs w g 0 cs t h (by omega)
 simp [B,<-A] at C
 exact⟨E,C⟩
theorem fo{P:Program} {B:Func} {p s:Tmp} {ty:TypeId} (h:B.results=#[.cell p ty,.tmp s]) (tmps:Array Value) (w:World) (g o n:Nat) (d:TypeDesc)
  (D:tmps.getD p undef=.pointer (some ⟨g,o,none⟩)) (E:P.underlying ty=some d) (hd:(match d with|.struct _|.array _ _=>true|_=>false)=true) (hi:(P.info? ty).map (·.size)=some n) (F:Has w g o n) :
  (results B tmps).run P w=.ok (.tuple #[.agg (Mem.arr w g o n),tmps.getD s undef]) w:=by
 have A:tmps[p]?.getD undef=.pointer (some ⟨g,o,none⟩):=by simpa using D
 have C:=bF (P:=P) w ty g o n d E hd hi F
 simp only [Instr.loadAt,Instr.sureAddr,Sem.run_bind,Sem.run_pure,Result.andThen_ok] at C
 simp [results,h,A,asAddr,C]
theorem ky(o:Led.Op) (A B:Option Addr) (n c n' D:Nat):∀ v∈ah o (.slice A n c) (.slice B n' D),v.oneCell'=true:=by
 intro v C
 simp only [ah,List.mem_cons,List.not_mem_nil,or_false] at C
 rcases C with rfl|rfl|rfl|rfl|rfl|rfl|rfl|rfl|rfl|rfl|rfl|rfl|rfl|rfl|rfl|rfl|rfl|rfl|rfl|rfl|rfl|rfl|rfl|rfl <;> rfl
end
section
open Go.RowKit Mem
def iR:List Value:=[.int .i64 0,.int .i64 0,.slice none 0 0,.slice none 0 0,.slice none 0 0,.slice none 0 0,.slice none 0 0,.slice none 0 0]
def br (b s:Int) (A B C D:Nat) (K:Option Addr) (E G:Nat) (F:Option Addr) (H I:Nat):List Value :=
 [.int .i64 b,.int .i64 s,.slice (some ⟨A,0,none⟩) 3 3,.slice (some ⟨B,0,none⟩) 3 3,.slice (some ⟨C,0,none⟩) 3 3,.slice (some ⟨D,0,none⟩) 3 3,.slice K E G,.slice F H I]
theorem jT(b s:Int) (A B C D:Nat) (K:Option Addr) (G H:Nat) (F:Option Addr) (I J:Nat):∀ v∈br b s A B C D K G H F I J,v.oneCell'=true:=by
 intro v E
 simp only [br,List.mem_cons,List.not_mem_nil,or_false] at E
 rcases E with rfl|rfl|rfl|rfl|rfl|rfl|rfl|rfl <;> rfl
theorem of_first(w:World):∃ D,(sW (.pointer (some ⟨w.heap.size+1+1+1+1+1,0,none⟩)) (.agg #[.int .i64 64,.int .i64 80,.slice (some ⟨w.heap.size+1,0,none⟩) 3 3,.slice (some ⟨w.heap.size+1+1,0,none⟩) 3 3,.slice (some ⟨w.heap.size+1+1+1,0,none⟩) 3 3,.slice (some ⟨w.heap.size+1+1+1+1,0,none⟩) 3 3,.slice none 0 0,.slice none 0 0])).run prog
  ((((((w.alloc (.cells #[.int .i64 0,.int .i64 0,.slice none 0 0,.slice none 0 0,.slice none 0 0,.slice none 0 0,.slice none 0 0,.slice none 0 0] 114)).alloc (.cells #[.int .i64 28,.int .i64 34,.int .i64 39] 3)).alloc (.cells #[.int .i64 14,.int .i64 18,.int .i64 41] 3)).alloc (.cells #[.int .i64 1,.int .i64 8,.int .i64 7] 3)).alloc (.cells #[.int .i64 19,.int .i64 61,.int .i64 6] 3)).alloc
   (.cells #[.int .i64 0,.int .i64 0,.slice none 0 0,.slice none 0 0,.slice none 0 0,.slice none 0 0,.slice none 0 0,.slice none 0 0] 114))=.ok () D/\Blk D w.heap.size iR 114/\(∃ cs,cs.length=8/\Blk D (w.heap.size+1+1+1+1+1) cs 114)/\eD w D:=by
 obtain⟨A,B⟩:=eA ((((((w.alloc (.cells iR.toArray 114)).alloc (.cells #[.int .i64 28,.int .i64 34,.int .i64 39] 3)).alloc (.cells #[.int .i64 14,.int .i64 18,.int .i64 41] 3)).alloc (.cells #[.int .i64 1,.int .i64 8,.int .i64 7] 3)).alloc (.cells #[.int .i64 19,.int .i64 61,.int .i64 6] 3)))
 have I:A.heap.size=w.heap.size+1+1+1+1+1:=by rw [<-B]; simp
 have L:Blk A w.heap.size iR 114:=by rw [<-B]; exact((((Blk.new w iR _).alloc _).alloc _).alloc _).alloc _
 have J:eD w A:=by rw [<-B]; exact(((eH.alloc (by simp) _).alloc (by simp; omega) _).alloc (by simp; omega) _).alloc (by simp; omega) _
 have K:=Blk.new A iR 114
 obtain⟨G,H⟩:=oz K rfl (vs:=br 64 80 (w.heap.size+1) (w.heap.size+1+1) (w.heap.size+1+1+1) (w.heap.size+1+1+1+1) none 0 0 none 0 0) rfl (jT _ _ _ _ _ _ _ _ _ _ _ _)
 have E:Chg [] A ((A.alloc (.cells iR.toArray 114)).setCells A.heap.size 0 (br 64 80 (w.heap.size+1) (w.heap.size+1+1) (w.heap.size+1+1+1) (w.heap.size+1+1+1+1) none 0 0 none 0 0)):=((Chg.refl _ _).alloc _).setCells _ (.inr eG)
 have C:=E.below (by simp)
 obtain⟨D,F⟩:=eA ((A.alloc (.cells iR.toArray 114)).setCells A.heap.size 0 (br 64 80 (w.heap.size+1) (w.heap.size+1+1) (w.heap.size+1+1+1) (w.heap.size+1+1+1+1) none 0 0 none 0 0))
 rw [F] at G H C
 rw [I] at G H
 clear F E K I
 refine⟨D,?_,L.below C,⟨_,rfl,H⟩,J.trans (C.mono J.size)⟩
 rw [<-B] at G
 exact G
theorem of_second(w:World) (g:Nat) (cs:List Value) (K:cs.length=8) (I:Blk w g cs 114):∃ D,(sW (.pointer (some ⟨g,0,none⟩)) (.agg #[.int .i64 32,.int .i64 64,.slice (some ⟨w.heap.size,0,none⟩) 3 3,.slice (some ⟨w.heap.size+1,0,none⟩) 3 3,.slice (some ⟨w.heap.size+1+1,0,none⟩) 3 3,.slice (some ⟨w.heap.size+1+1+1,0,none⟩) 3 3,.slice none 0 0,.slice none 0 0])).run prog
  ((((w.alloc (.cells #[.int .i64 2,.int .i64 13,.int .i64 22] 3)).alloc (.cells #[.int .i64 6,.int .i64 11,.int .i64 25] 3)).alloc (.cells #[.int .i64 7,.int .i64 18,.int .i64 3] 3)).alloc (.cells #[.int .i64 17,.int .i64 19,.int .i64 10] 3))=.ok () D /\
  Blk D g (br 32 64 w.heap.size (w.heap.size+1) (w.heap.size+1+1) (w.heap.size+1+1+1) none 0 0 none 0 0) 114/\Chg [g] w D /\
  Blk D w.heap.size (iv [2,13,22]) 3/\Blk D (w.heap.size+1) (iv [6,11,25]) 3/\Blk D (w.heap.size+1+1) (iv [7,18,3]) 3/\Blk D (w.heap.size+1+1+1) (iv [17,19,10]) 3:=by
 obtain⟨C,A⟩:=eA (((((w.alloc (.cells (iv [2,13,22]).toArray 3)).alloc (.cells (iv [6,11,25]).toArray 3)).alloc (.cells (iv [7,18,3]).toArray 3)).alloc (.cells (iv [17,19,10]).toArray 3)))
 have Q:=I.lt
 have R:w.heap.size<=C.heap.size:=by rw [<-A]; simp; omega
 have L:Blk C w.heap.size (iv [2,13,22]) 3:=by rw [<-A]; exact(((Blk.new w _ _).alloc _).alloc _).alloc _
 have M:Blk C (w.heap.size+1) (iv [6,11,25]) 3:=by
  have:=Blk.new (w.alloc (.cells (iv [2,13,22]).toArray 3)) (iv [6,11,25]) 3; rw [<-A]; simpa using (this.alloc _).alloc _
 have N:Blk C (w.heap.size+1+1) (iv [7,18,3]) 3:=by
  have:=Blk.new ((w.alloc (.cells (iv [2,13,22]).toArray 3)).alloc (.cells (iv [6,11,25]).toArray 3)) (iv [7,18,3]) 3; rw [<-A]; simpa using this.alloc _
 have O:Blk C (w.heap.size+1+1+1) (iv [17,19,10]) 3:=by
  have:=Blk.new (((w.alloc (.cells (iv [2,13,22]).toArray 3)).alloc (.cells (iv [6,11,25]).toArray 3)).alloc (.cells (iv [7,18,3]).toArray 3)) (iv [17,19,10]) 3; rw [<-A]; simpa using this
 have F:Blk C g cs 114:=by rw [<-A]; exact(((I.alloc _).alloc _).alloc _).alloc _
 have G:Chg [g] w C:=by rw [<-A]; exact((((Chg.refl _ _).alloc _).alloc _).alloc _).alloc _
 obtain⟨H,J⟩:=oz F K (vs:=br 32 64 w.heap.size (w.heap.size+1) (w.heap.size+1+1) (w.heap.size+1+1+1) none 0 0 none 0 0) rfl (jT _ _ _ _ _ _ _ _ _ _ _ _)
 have B:Chg [g] C (C.setCells g 0 (br 32 64 w.heap.size (w.heap.size+1) (w.heap.size+1+1) (w.heap.size+1+1+1) none 0 0 none 0 0)):=(Chg.refl _ _).setCells _ (.inl (by simp))
 obtain⟨D,E⟩:=eA (C.setCells g 0 (br 32 64 w.heap.size (w.heap.size+1) (w.heap.size+1+1) (w.heap.size+1+1+1) none 0 0 none 0 0))
 rw [E] at H J B
 clear E
 refine⟨D,?_,J,G.and B,L.chg B (by simp; omega),M.chg B (by simp; omega),N.chg B (by simp; omega),O.chg B (by simp; omega)⟩
 rw [<-A] at H
 exact H
theorem chg_below{S:List Nat} {a w w':World} (h:Chg S a w) (k:Below a.heap.size w w'):Chg S a w':=⟨k.os.trans h.os,k.tape.trans h.tape,k.output.trans h.output,Nat.le_trans h.size k.size,fun i hi A=>(k.block i hi).trans (h.block i hi A)⟩
theorem su(A B C D:Nat) (K:Option Addr) (E G:Nat) (F:Option Addr) (H I:Nat):H32 (br 32 64 A B C D K E G F H I):=⟨rfl,rfl,rfl,jT _ _ _ _ _ _ _ _ _ _ _ _⟩
theorem sw{w w':World} {g:Nat} {cs:List Value} {t:TypeId} (h:Blk w g cs t) {row:Option Nat} (B:w.grownBy w' row) (A:row≠some g):Blk w' g cs t:=by
 unfold Blk
 rw [B.block g h.lt (fun e=>A e.symm)]
 exact h
theorem rof_any(w:World):Calls prog 77 #[.int .i64 32] w fun e w'=>∃ hc A B C D K cK F cF,e=.returned (.agg hc.toArray)/\HIn w' hc A 3 B 3 C 3 D 3 K cK F cF/\eD w w':=by
 obtain⟨i1,Ay,Az,A0,A1⟩:=al infoW
 go_enter func77,ntmps77
 obtain⟨W2,A2,AG,⟨AH,AI,A3⟩,AJ⟩:=of_first w
 obtain⟨W4,A4,A5,z,a1,a2,a3,a4⟩:=of_second W2 _ AH AI A3
 go_wp2_with fail
 refine(rprimes_any _).mono ?_
 rintro e w5 ⟨Ap,cp,rfl,hp,k⟩
 clear A2 A4
 have AY:w.heap.size<w.heap.size+1+1+1+1+1:=by omega
 generalize w.heap.size+1+1+1+1+1=L at *
 have AZ:=A5.lt
 have Am:=A5.below k
 have c1:=a1.below k
 have c2:=a2.below k
 have c3:=a3.below k
 have c4:=a4.below k
 have A6:=Am.lt
 have Ba:W2.heap.size<=W4.heap.size:=z.size
 have Bb:=A3.lt
 have AK:Blk w5 w.heap.size iR 114:=(AG.chg z (by simp; omega)).below k
 have AL:Chg [L] w w5:=((Chg.of_below AJ).trans (S':=[L]) z (fun s hs=>.inl hs)).and_below k
 generalize W2.heap.size=E at *
 obtain⟨gp,j,rfl,Ai,An⟩:=dO hp (by omega)
 have A7:=hp.len
 have AM:gp≠L:=by
  rintro rfl; have h0:=An 0 _ (dk _ (by omega)); rw [oP] at h0; have h1:=(Am.cell (j+0)).symm.trans h0; rw [show (Sha.pr 408).getD 0 0=2 by decide +kernel] at h1; have Bc:j+0<8:=(List.getElem?_eq_some_iff.1 h1).1; have Ao:j+0=0\/j+0=1\/j+0=2\/j+0=3\/j+0=4\/j+0=5\/j+0=6\/j+0=7:=by omega
  rcases Ao with h|h|h|h|h|h|h|h <;> rw [h] at h1 <;> simp [br] at h1
 have A8:=hO A7
 have A9:=hO An
 have Aj:gp∉[L]:=by simpa using AM
 clear hp An A7
 go_wp2_with fail
 go_loopw [5] (fun i wx=>∃ (t:Nat) (O:Option Addr) (Q:Nat),t<=64/\i=.int .i64 (t:Int)/\t<=Q/\Chg [L] w5 wx/\Blk wx L (br 32 64 E (E+1) (E+1+1) (E+1+1+1) O t Q none 0 0) 114/\wx.ownsRow w5.heap.size 151 1 (.slice O t Q) t (wv (Sha.bI 3 t))) (fun i _=>64 - (intOf i).toNat)
 case atStart=>exact⟨0,none,0,by omega,rfl,by omega,Chg.refl _ _,Am,World.ownsRow_nil _ _ _ _⟩
 case round =>
  obtain⟨t,O,Q,ht,rfl,AA,M,I,J⟩:=hrel; have k1:wr.cell? ⟨L,1,none⟩=some (.int .i64 64):=I.cell 1; by_cases Aq:t<64
  .have Aa:wr.cell? ⟨gp,j+t,none⟩=some (.int .i64 ((Sha.pr 408).getD t 0:Nat)):=by
    rw [M.cell (p:=⟨gp,j+t,none⟩) Ai Aj]; have:=A9.out t _ (dk _ (by rw [A8.out]; omega))
    rwa [oP] at this
   have HS:=hO (show Sha.bI 3 (t+1)=Sha.bI 3 t++[Sha.mj (((Sha.pr 408).getD t 0:Nat):Int) 3 / 4294967296] from rfl); generalize (Sha.pr 408).getD t 0=pp at *; have Ab:=Sha.tf (pp:Int) 3; have Ar:=hO (rroot3_any (pp:Int)); have R:H32 (br 32 64 E (E+1) (E+1+1) (E+1+1+1) O t Q none 0 0):=su _ _ _ _ _ _ _ _ _ _; have AB:=hO R; have V:=hO (rtop_any (br 32 64 E (E+1) (E+1+1) (E+1+1+1) O t Q none 0 0) R (Sha.mj (pp:Int) 3) Ab); generalize Sha.mj (pp:Int) 3=rt at *; obtain⟨X,hX⟩:=eA (rt / 4294967296); rw [hX] at HS V; have f1:∀ p,(ab wr p).cell? ⟨L,6,none⟩=some (.slice O t Q):=fun p=>(ap I.lt p).trans (I.cell 6); have As:∀ p,(ez (.pointer (some ⟨L,0,none⟩))).run prog (ab wr p)=.ok (.agg (br 32 64 E (E+1) (E+1+1) (E+1+1+1) O t Q none 0 0).toArray) (ab wr p):=fun p=>io (I.below (aa wr p)) rfl; have f2:∀ p,(ab wr p).cell? ⟨gp,j+t,none⟩=some (.int .i64 (pp:Int)):=fun p=>(ap (Nat.lt_of_lt_of_le Ai M.size) p).trans Aa; have i0:(0:Int)<=(t:Int):=by omega
   have i2:(t:Int)<80:=by omega
   generalize hCS:(br 32 64 E (E+1) (E+1+1) (E+1+1+1) O t Q none 0 0).toArray=CS at *; have AN:=hO hCS; have At:t+1<=maxLen:=by unfold maxLen; omega
   clear hCS Aa hX Ab R; go_wp2_with fail
   refine lw [0,1,2,3,4,5,6,7,8] [(9,fun v w'=>∃ g,v=.slice (some ⟨g,0,none⟩) 1 1/\Blk w' g (wv [X]) 151)] [10,11,12] (by kernel_rfl) (by kernel_rfl) (by
    intro x hx; simp only [List.mem_cons,List.not_mem_nil,or_false] at hx; subst hx; exact ax fun v w w' hb ⟨g,e,h⟩=>⟨g,e,h.below hb⟩) ?_
   simp only [pick,List.getD_cons_zero,List.getD_cons_succ]; repeat (go_big_quiet_step (first|(go_at_call 126; exact aw (Ar.out _))|(go_at_call 125; exact aw (V.out _))))
   refine wpQuiet_nil ?_; refine⟨_,rfl,rfl,?_,?_⟩
   .intro w1 AO
    go_simp
    exact⟨GR.of eH,w1.heap.size,rfl,Blk.new w1 (wv [X]) _⟩
   .rintro v w6 Ac ⟨_,gn,rfl,Ad⟩
    have U:=Ac.below; have S:=M.and_below U; have Y:=I.below U; have H:=dN J U; have Ae:Vs w6 w6.heap.size 1 (some ⟨gn,0,none⟩) 1 (wv [X]):=Ws.of_blk Ad; have Ag:w5.heap.size<=w6.heap.size:=S.size; clear f1 f2 As M I J Ad Ac U; go_wp2_with (at_builtin; go_must (refine au w6 rfl (.tmp 27) (.tmp 35) 112 rfl w5.heap.size 151 i1 (.int .u64 0) 1 8 underlying112 Ay Az A0 A1 rfl (by omega) _ _ _ rfl H w6.heap.size _ 1 _ _ rfl Ae (sz _) At (by omega) Ag ?_))
    intro r u w7 G Au AP l; have Z:Below w5.heap.size w6 w7:=Mem.ay (Below.refl _ _) l Ag H; have b:=chg_below S Z; have N:=sw Y l (fun e=>by have:=(H.lt L e).1; omega)
    rw [<-iV,<-HS.out] at G; have q6:w7.cell? ⟨L,6,none⟩=some (.slice O t Q):=N.cell 6; have AQ:w7.frozen? ⟨L,6,none⟩=false:=N.froz 6; have c:=N.set 6 (.slice r (t+1) u); have Ah:=b.setCell (p:=⟨L,6,none⟩) (.inl (by simp)) (.slice r (t+1) u); have m:=ownsRow_setCell_below G (a:=⟨L,6,none⟩) (by exact A6) (.slice r (t+1) u); have Av:=hO (show Blk (w7.setCell ⟨L,6,none⟩ (.slice r (t+1) u)) L (br 32 64 E (E+1) (E+1+1) (E+1+1+1) r (t+1) u none 0 0) 114 from c); clear H l Z S b Y N Ae G c; go_wp2; go_roundw
    case rel=>exact⟨t+1,r,u,by omega,by go_num,Au,Ah,Av.out,m⟩
    case measure=>simp [intOf]; omega
  .have y:t=64:=by omega
   have G:wr.ownsRow w5.heap.size 151 1 (.slice O 64 Q) 64 (wv (Sha.bI 3 64)):=by rw [y] at J; exact J
   have d:Blk wr L (br 32 64 E (E+1) (E+1+1) (E+1+1+1) O 64 Q none 0 0) 114:=by rw [y] at I; exact I
   have Al:64<=t:=by omega
   have o:64<=Q:=by omega
   have AC:decide (t<64)=false:=by simp; omega
   obtain⟨wK,AR⟩:∃ wK,wK=wr:=⟨_,rfl⟩; subst AR; have AD:=d.lt; have Bd:=M.size; have AS:Ws wK O 64 (Sha.bI 3 64):=Ws.of_own G; have Aw:=G; have AE:=o; have AT:∀ a,O=some a->a.block∉[L]:=fun a ha=>by
    obtain⟨g,e,h1,_⟩:=fp G (by omega); rw [ha] at e; injection e with e
    rw [e]; simp
    omega
   clear y ht AA J I Aq; go_wp2_with fail
   clear Al AC; go_loopw [6] (fun i wx=>∃ (t:Nat) (f:Option Addr) (cf:Nat),t<=8/\i=.int .i64 (t:Int)/\t<=cf/\Chg [L] wK wx/\Blk wx L (br 32 64 E (E+1) (E+1+1) (E+1+1+1) O 64 Q f t cf) 114/\wx.ownsRow wK.heap.size 151 1 (.slice f t cf) t (wv (Sha.bI 2 t))) (fun i _=>8 - (intOf i).toNat)
   case atStart=>exact⟨0,none,0,by omega,rfl,by omega,Chg.refl _ _,d,World.ownsRow_nil _ _ _ _⟩
   case round =>
    clear G d o; have q:=M; clear M; obtain⟨t,f,cf,ht,rfl,AA,M,I,J⟩:=hrel; by_cases Aq:t<8
    .have Aa:wr.cell? ⟨gp,j+t,none⟩=some (.int .i64 ((Sha.pr 408).getD t 0:Nat)):=by
      rw [(q.and M).cell (p:=⟨gp,j+t,none⟩) Ai Aj]; have:=A9.out t _ (dk _ (by rw [A8.out]; omega))
      rwa [oP] at this
     have HS:=hO (show Sha.bI 2 (t+1)=Sha.bI 2 t++[Sha.mj (((Sha.pr 408).getD t 0:Nat):Int) 2 / 4294967296] from rfl); generalize (Sha.pr 408).getD t 0=pp at *; have Ab:=Sha.tf (pp:Int) 2; have Ar:=hO (rroot2_any (pp:Int)); have R:H32 (br 32 64 E (E+1) (E+1+1) (E+1+1+1) O 64 Q f t cf):=su _ _ _ _ _ _ _ _ _ _; have AB:=hO R; have V:=hO (rtop_any (br 32 64 E (E+1) (E+1+1) (E+1+1+1) O 64 Q f t cf) R (Sha.mj (pp:Int) 2) Ab); generalize Sha.mj (pp:Int) 2=rt at *; obtain⟨X,hX⟩:=eA (rt / 4294967296); rw [hX] at HS V; have f1:∀ p,(ab wr p).cell? ⟨L,7,none⟩=some (.slice f t cf):=fun p=>(ap I.lt p).trans (I.cell 7); have As:∀ p,(ez (.pointer (some ⟨L,0,none⟩))).run prog (ab wr p)=.ok (.agg (br 32 64 E (E+1) (E+1+1) (E+1+1+1) O 64 Q f t cf).toArray) (ab wr p):=fun p=>io (I.below (aa wr p)) rfl; have f2:∀ p,(ab wr p).cell? ⟨gp,j+t,none⟩=some (.int .i64 (pp:Int)):=fun p=>(ap (Nat.lt_of_lt_of_le Ai (q.and M).size) p).trans Aa; have i0:(0:Int)<=(t:Int):=by omega
     have i2:(t:Int)<80:=by omega
     generalize hCS:(br 32 64 E (E+1) (E+1+1) (E+1+1+1) O 64 Q f t cf).toArray=CS at *; have AN:=hO hCS; have At:t+1<=maxLen:=by unfold maxLen; omega
     clear hCS Aa hX Ab R; go_wp2_with fail
     refine lw [0,1,2,3,4,5,6,7,8] [(9,fun v w'=>∃ g,v=.slice (some ⟨g,0,none⟩) 1 1/\Blk w' g (wv [X]) 151)] [10,11,12] (by kernel_rfl) (by kernel_rfl) (by
      intro x hx; simp only [List.mem_cons,List.not_mem_nil,or_false] at hx; subst hx; exact ax fun v w w' hb ⟨g,e,h⟩=>⟨g,e,h.below hb⟩) ?_
     simp only [pick,List.getD_cons_zero,List.getD_cons_succ]; repeat (go_big_quiet_step (first|(go_at_call 126; exact aw (Ar.out _))|(go_at_call 125; exact aw (V.out _))))
     refine wpQuiet_nil ?_; refine⟨_,rfl,rfl,?_,?_⟩
     .intro w1 AO
      go_simp
      exact⟨GR.of eH,w1.heap.size,rfl,Blk.new w1 (wv [X]) _⟩
     .rintro v w6 Ac ⟨_,gn,rfl,Ad⟩
      have U:=Ac.below; have S:=M.and_below U; have Y:=I.below U; have H:=dN J U; have Ae:Vs w6 w6.heap.size 1 (some ⟨gn,0,none⟩) 1 (wv [X]):=Ws.of_blk Ad; have Ag:wK.heap.size<=w6.heap.size:=S.size; clear f1 f2 As M I J Ad Ac U; go_wp2_with (at_builtin; go_must (refine au w6 rfl (.tmp 43) (.tmp 51) 112 rfl wK.heap.size 151 i1 (.int .u64 0) 1 8 underlying112 Ay Az A0 A1 rfl (by omega) _ _ _ rfl H w6.heap.size _ 1 _ _ rfl Ae (sz _) At (by omega) Ag ?_))
      intro r u w7 G Au AP l; have Z:Below wK.heap.size w6 w7:=Mem.ay (Below.refl _ _) l Ag H; have b:=chg_below S Z; have N:=sw Y l (fun e=>by have:=(H.lt L e).1; omega)
      rw [<-iV,<-HS.out] at G; have q6:w7.cell? ⟨L,7,none⟩=some (.slice f t cf):=N.cell 7; have AQ:w7.frozen? ⟨L,7,none⟩=false:=N.froz 7; have c:=N.set 7 (.slice r (t+1) u); have Ah:=b.setCell (p:=⟨L,7,none⟩) (.inl (by simp)) (.slice r (t+1) u); have m:=ownsRow_setCell_below G (a:=⟨L,7,none⟩) (by exact AD) (.slice r (t+1) u); have Av:=hO (show Blk (w7.setCell ⟨L,7,none⟩ (.slice r (t+1) u)) L (br 32 64 E (E+1) (E+1+1) (E+1+1+1) O 64 Q r (t+1) u) 114 from c); clear H l Z S b Y N Ae G c; go_wp2; go_roundw
      case rel=>exact⟨t+1,r,u,by omega,by go_num,Au,Ah,Av.out,m⟩
      case measure=>simp [intOf]; omega
    .have y:t=8:=by omega
     have G:wr.ownsRow wK.heap.size 151 1 (.slice f 8 cf) 8 (wv (Sha.bI 2 8)):=by rw [y] at J; exact J
     have d:Blk wr L (br 32 64 E (E+1) (E+1+1) (E+1+1+1) O 64 Q f 8 cf) 114:=by rw [y] at I; exact I
     have o:8<=cf:=by omega
     have Al:8<=t:=by omega
     have T:Chg [L] w5 wr:=q.and M; have AF:Blk wr w.heap.size iR 114:=AK.chg T (by simp; omega)
     obtain⟨s1,s2⟩:=oz AF rfl (vs:=(br 32 64 E (E+1) (E+1+1) (E+1+1+1) O 64 Q f 8 cf)) rfl (jT _ _ _ _ _ _ _ _ _ _ _ _); have Be:=io d rfl; obtain⟨wf,Ax⟩:=eA (wr.setCells w.heap.size 0 (br 32 64 E (E+1) (E+1+1) (E+1+1+1) O 64 Q f 8 cf)); have n:Chg [w.heap.size] wr wf:=by rw [<-Ax]; exact(Chg.refl _ _).setCells _ (.inl (by simp))
     rw [Ax] at s1 s2; have Aq:w.heap.size<wr.heap.size:=AF.lt; have Bf:E+1+1+1<wr.heap.size:=Nat.lt_of_lt_of_le c4.lt T.size; have Bg:w.heap.size<E:=by omega
     have d1:=(c1.chg T (by simp; omega)).chg n (by simp; omega)
     have d2:=(c2.chg T (by simp; omega)).chg n (by simp; omega)
     have d3:=(c3.chg T (by simp; omega)).chg n (by simp; omega)
     have d4:=(c4.chg T (by simp; omega)).chg n (by simp; omega)
     have AU:Ws wf O 64 (Sha.bI 3 64):=by
      refine sI (sI AS M AT) n (fun a ha=>?_); obtain⟨g,e,h1,_⟩:=fp Aw (by omega); rw [ha] at e; injection e with e
      rw [e]; simp
      omega
     have AV:Ws wf f 8 (Sha.bI 2 8):=by
      refine sI (Ws.of_own G) n (fun a ha=>?_); obtain⟨g,e,h1,_⟩:=fp G (by omega); rw [ha] at e; injection e with e
      rw [e]; simp
      have:=q.size; omega
     have AW:=hO (show HIn wf (br 32 64 E (E+1) (E+1+1) (E+1+1+1) O 64 Q f 8 cf) (some ⟨E,0,none⟩) 3 (some ⟨E+1,0,none⟩) 3 (some ⟨E+1+1,0,none⟩) 3 (some ⟨E+1+1+1,0,none⟩) 3 O Q f cf from⟨rfl,Is.of_blk d1,Is.of_blk d2,Is.of_blk d3,Is.of_blk d4,AU,AV,AE,o⟩); have hH:Has wf w.heap.size 0 8:=ev s2 rfl; have hA:arr wf w.heap.size 0 8=(br 32 64 E (E+1) (E+1+1) (E+1+1+1) O 64 Q f 8 cf).toArray:=lr s2 rfl; have AX:eD w wf:=((AL.and T).trans (S':=[w.heap.size]) n (by simp)).below' eG (by simp; omega)
     clear Ax; go_wp2; refine bodyPost_ret (dr (P:=prog) Tryz.results77 _ _ w.heap.size 0 8 _ rfl underlying114 rfl size_H hH) rfl ?_; exact⟨_,_,_,_,_,_,_,_,_,by rw [hA],AW.out,AX⟩
end
section
open Go.RowKit Mem
theorem rsum256_any(S:Option Addr) (n c:Nat) (d:List UInt8) (w:World) (hd:Bs w w.heap.size S n d) (Y:n<=1000000) :
  Calls prog 41 #[.slice S n c] w fun e w'=>∃ Q I,e=.returned (.slice Q 32 I)/\32<=I/\w'.ownsRow w.heap.size 5 1 (.slice Q 32 I) 32 (bv (Sha.jB d))/\eD w w':=by
 go_enter func41,ntmps41
 go_wp2_with fail
 refine(rof_any w).mono ?_
 rintro e H ⟨R,A,B,C,D,K,Z,F,b,rfl,U,J⟩
 have V:=Blk.new H iR 114
 have G:=U.h32
 obtain⟨T,X⟩:=oz V rfl (vs:=R) G.len G.one
 have L:Chg [] H ((H.alloc (.cells iR.toArray 114)).setCells H.heap.size 0 R):=((Chg.refl _ _).alloc _).setCells _ (.inr eG)
 obtain⟨f,M⟩:=eA ((H.alloc (.cells iR.toArray 114)).setCells H.heap.size 0 R)
 rw [M] at T X L
 have N:=L.below (by simp)
 have g:=io X G.len
 have E:=J.trans (N.mono J.size)
 have O:=rsum_any R A 3 B 3 C 3 D 3 K Z F b S n c d f (U.below N) (dF hd E) Y
 unfold iR at T
 simp only [List.toArray] at T
 clear M V
 go_wp2_with fail
 refine O.mono ?_
 rintro e k ⟨Q,I,rfl,h,i,j⟩
 go_wp2
 go_ret
 exact⟨Q,I,rfl,h,aG i E.size,E.trans (j.mono E.size)⟩
end
section
open Go.RowKit Mem
theorem sa(h:List UInt8) (i:Nat):Sha.jO h (i+1)=Sha.jO h i++[Sha.cY ((h.getD i 0).toNat / 16)]++[Sha.cY ((h.getD i 0).toNat % 16)]:=rfl
theorem str_cat(a b:List UInt8):str a++str b=str (a++b):=by
 apply ByteArray.ext
 simp [str,ByteArray.data_append]
theorem rD(a:Nat) (h:a<16) (w:World):(Instr.slice 9 (.string ⟨#[48,49,50,51,52,53,54,55,56,57,97,98,99,100,101,102]⟩) (some (.int .i64 (a:Int))) (some (.int .i64 ((a:Int)+1))) none).run prog w=.ok (.string (str [Sha.cY a])) w:=by
 have A:((⟨#[48,49,50,51,52,53,54,55,56,57,97,98,99,100,101,102]⟩:ByteArray).size:Int)=16:=rfl
 refine(run_slice_string _ _ _ _ _ _ _ underlying9 (by omega) (by omega) (by rw [A]; omega)).trans ?_
 have:∀ a:Fin 16,(⟨#[48,49,50,51,52,53,54,55,56,57,97,98,99,100,101,102]⟩:ByteArray).extract ((a.1:Int)).toNat ((a.1:Int)+1).toNat=str [Sha.cY a.1]:=by
  intro a; obtain⟨a,C⟩:=a; have B:a=0\/a=1\/a=2\/a=3\/a=4\/a=5\/a=6\/a=7\/a=8\/a=9\/a=10\/a=11\/a=12\/a=13\/a=14\/a=15:=by omega
  rcases B with rfl|rfl|rfl|rfl|rfl|rfl|rfl|rfl|rfl|rfl|rfl|rfl|rfl|rfl|rfl|rfl <;> rfl
 rw [this ⟨a,h⟩]
theorem rI(F:Option Addr) (n c:Nat) (d:List UInt8) (w:World) (hd:Bs w w.heap.size F n d) (m:n<=1000000) :
  Calls prog 25 #[.slice F n c] w fun e w'=>e=.returned (.string (str (Sha.bZ d)))/\eD w w':=by
 go_enter func25,ntmps25
 go_wp2_with fail
 refine(rsum256_any F n c d w hd m).mono ?_
 rintro e G ⟨A,c1,rfl,h1,H,h⟩
 obtain⟨g,rfl,o,I⟩:=fp H (by omega)
 have u:=hO (show Sha.bZ d=Sha.jO (Sha.jB d) 4 from rfl)
 have y:=hO (Sha.sum_len (Sha.bI 3 64) (Sha.bI 2 8) d)
 have B:∀ j,j<32->G.cell? ⟨g,j,none⟩=some (.int .u8 (((Sha.jB d).getD j 0).toNat:Int)):=fun j hj=>by
  have hl:(Sha.jB d).length=32:=y.out; have:=H.cells (g:=g) rfl j (.int .u8 (((Sha.jB d).getD j 0).toNat:Int)) (by rw [ol,List.getElem?_eq_getElem (by omega)]; simp [List.getD_eq_getElem?_getD,show j<(Sha.jB d).length by omega])
  rwa [aO] at this
 have HC:=hO B
 clear B H
 generalize Sha.jB d=S at *
 go_wp2_with fail
 go_loopw [5,6,7,8] (fun s i _ _ wx=>∃ t:Nat,t<=4/\i=.int .i64 (t:Int)/\s=.string (str (Sha.jO S t))/\eD G wx) (fun _ i _ _ _=>4 - (intOf i).toNat)
 case atStart=>exact⟨0,by omega,rfl,rfl,Below.refl _ _⟩
 case round =>
  obtain⟨t,ht,rfl,rfl,E⟩:=hrel; by_cases Aa:t<4
  .have Ab:=(E.cell (p:=⟨g,t,none⟩) I).trans (HC.out t (by omega))
   have J:=hO (sa S t); have hx:=(S.getD t 0).toNat_lt; generalize (S.getD t 0).toNat=x at *; have K:Int.tdiv (x:Int) 16=((x / 16:Nat):Int):=il x 16; have L:Int.tmod (x:Int) 16=((x % 16:Nat):Int):=fu x 16; have M:(x:Int) / 16=((x / 16:Nat):Int):=by omega
   have N:(x:Int) % 16=((x % 16:Nat):Int):=by omega
   obtain⟨q,k⟩:=eA (x / 16); obtain⟨r,l⟩:=eA (x % 16); have O:q<16:=by omega
   have Q:r<16:=by omega
   have R:x<256:=hx; rw [k] at K M J; rw [l] at L N J; have i0:(0:Int)<=(t:Int):=by omega
   have i1:(t:Int)<32:=by omega
   have Ac:IntKind.i64.wrap ((q:Int)+1)=(q:Int)+1:=by rw [IntKind.wrap_i64]; omega
   have Ae:IntKind.i64.wrap ((r:Int)+1)=(r:Int)+1:=by rw [IntKind.wrap_i64]; omega
   have T:=rD q O; have U:=rD r Q; have C:=hO (Sha.mF S t); generalize Sha.jO S t=z at *; clear k l hx; go_wp2_with fail
   have D:(str z).size=2 * t:=by rw [aJ]; exact C.out
   have V:¬ 9223372036854775807<(str z).size+(str [Sha.cY q]).size:=by rw [D,aJ]; simp; omega
   have X:¬ 9223372036854775807<(str (z++[Sha.cY q])).size+(str [Sha.cY r]).size:=by rw [aJ,aJ,List.length_append,C.out]; simp; omega
   have Y:=str_cat z [Sha.cY q]; have Z:=str_cat (z++[Sha.cY q]) [Sha.cY r]; clear D; go_quiet (fail)
   have b:eD G (wr.drewN nq):=E.trans ⟨rfl,rfl,rfl,eG,fun _ _=>rfl⟩; have HZ:=hO (show z++[Sha.cY q,Sha.cY r]=Sha.jO S (t+1) by rw [J.out,List.append_assoc]; rfl)
   rw [HZ.out]; clear V X Y Z T U E; go_wp2; go_roundw
   case rel=>exact⟨t+1,by omega,by go_num,rfl,b⟩
   case measure=>simp [intOf]; omega
  .have f:t=4:=by omega
   subst f; go_wp2; go_ret; exact⟨by rw [u.out]; rfl,h.trans (E.mono h.size)⟩
end
section
namespace Led
def few (s:Txt):Txt:=s.take 60
def KeyTo (R:Txt->Txt->Prop) (k k':Jwk):Prop:=k'.x=few k.x/\if few k.kid=[] then R (few k.x) k'.kid else k'.kid=few k.kid
def jY (o:Op) (K:List Jwk):Op :=
 ⟨o.kind,o.n,few o.name,⟨o.entry.n,few o.entry.path,few o.entry.parent,o.entry.ttl,(o.entry.sels.take 6).map few⟩,⟨few o.join.text,few o.join.name,o.join.expires,o.join.used⟩,
  ⟨few o.node.name,few o.node.key,o.node.expires,o.node.seq,few o.node.doc⟩,⟨few o.key.kid,few o.key.seed,o.key.state,o.key.since⟩,⟨few o.bundle.domain,o.bundle.number,K⟩⟩
def dR (R:Txt->Txt->Prop):List Jwk->List Jwk->Prop
 | [],[]=>True
 | k::L,k'::K=>KeyTo R k k'/\dR R L K
 | _,_=>False
theorem dR.length{R:Txt->Txt->Prop}:∀ {L K:List Jwk},dR R L K->K.length=L.length
 | [],[],_=>rfl
 | _::L,_::K,h=>by simp [dR.length (L:=L) (K:=K) h.2]
 | [],_::_,h=>h.elim
 | _::_,[],h=>h.elim
theorem dR.snoc{R:Txt->Txt->Prop}:∀ {L K:List Jwk} {k k':Jwk},dR R L K->KeyTo R k k'->dR R (L++[k]) (K++[k'])
 | [],[],_,_,_,h=>⟨h,trivial⟩
 | _::L,_::K,_,_,h,h'=>⟨h.1,dR.snoc (L:=L) (K:=K) h.2 h'⟩
 | [],_::_,_,_,h,_=>h.elim
 | _::_,[],_,_,h,_=>h.elim
theorem mI(s:Txt):(few s).length<=60:=by unfold few; rw [List.length_take]; omega
theorem dR.len{R:Txt->Txt->Prop} (B:∀ x r,R x r->r.length<=60):∀ {L K:List Jwk},dR R L K->∀ k∈K,k.kid.length<=60/\k.x.length<=60
 | [],[],_,k,hk=>by simp at hk
 | x::L,y::K,h,k,hk=>by
  rcases List.mem_cons.1 hk with rfl|hk
  .obtain⟨C,A⟩:=h.1
   refine⟨?_,by rw [C]; exact mI _⟩
   split at A
   .exact B _ _ A
   .rw [A]; exact mI _
  .exact dR.len B (L:=L) (K:=K) h.2 k hk
 | [],_::_,h,_,_=>h.elim
 | _::_,[],h,_,_=>h.elim
end Led
end
section
namespace Batch
open Go.RowKit
section
variable {P:Program} {ops:Array Oper} {md:Region.Mode} {R:World->World->Prop} {w0:World}
def qR (P:Program) (ops:Array Oper) (R:World->World->Prop) (w0:World) (i:Nat) (K:Act->Prop) (a:Act):Prop :=
 match ops[i]? with
 | none=>K a
 | some o=>if Region.wanted o (yielded ops a.tmps) then ∃ v,(∀ w,R w0 w->o.quietAt P a (R w) w v)/\K (a.put o.dst v) else K (a.put o.dst undef)
theorem qR_mono{i:Nat} {a:Act} {K B:Act->Prop} (h:∀ a,K a->B a) (A:qR P ops R w0 i K a):qR P ops R w0 i B a:=by
 unfold qR at *
 split
 .exact h _ (by simpa [*] using A)
 .rename_i o ho
  simp only [ho] at A; split
  .rename_i hw
   simp only [hw,if_true] at A; obtain⟨v,C,D⟩:=A; exact⟨v,C,h _ D⟩
  .rename_i hw; simp only [hw] at A; exact h _ A
def eY (P:Program) (ops:Array Oper) (R:World->World->Prop) (w0:World) (o:Oper) (v:Value) (a:Act):Prop :=
 (Region.wanted o (yielded ops a.tmps)=true/\∀ w,R w0 w->o.quietAt P a (R w) w v)\/(Region.wanted o (yielded ops a.tmps)=false/\v=undef)
theorem eY.qR{i:Nat} {o:Oper} {v:Value} {a:Act} (hi:ops[i]?=some o) (B:eY P ops R w0 o v a) {K:Act->Prop} (h:K (a.put o.dst v)):qR P ops R w0 i K a:=by
 unfold Batch.qR
 simp only [hi]
 rcases B with⟨A,C⟩|⟨A,rfl⟩
 .simp only [A,if_true]; exact⟨v,C,h⟩
 .simp only [A,Bool.false_eq_true,if_false]; exact h
theorem eY.of_same{o:Oper} {v:Value} {a A:Act} (B:eY P ops R w0 o v a) (C:execOp A.eval o=execOp a.eval o)
  (D:Region.wanted o (yielded ops A.tmps)=Region.wanted o (yielded ops a.tmps)):eY P ops R w0 o v A:=by
 unfold eY Oper.quietAt at *
 rw [C,D]
 exact B
theorem qO{i:Nat} {o:Oper} {a:Act} {K:Act->Prop} (hi:ops[i]?=some o) (h:qR P ops R w0 i K a):∃ v,eY P ops R w0 o v a/\K (a.put o.dst v):=by
 unfold qR at h
 simp only [hi] at h
 by_cases A:Region.wanted o (yielded ops a.tmps)=true
 .simp only [A,if_true] at h
  obtain⟨v,B,C⟩:=h; exact⟨v,.inl ⟨A,B⟩,C⟩
 .simp only [A] at h
  exact⟨undef,.inr ⟨by simpa using A,rfl⟩,h⟩
theorem qR_put{j:Nat} {A B:Oper} {v:Value} (N:ops[j]?=some B) (E:A.apart ops B=true)
  (F:∀ cs b,A.op≠.select cs b) (G:∀ cs b,B.op≠.select cs b) {K:Act->Prop} {a:Act}
  (D:eY P ops R w0 A v a) (h:qR P ops R w0 j K (a.put A.dst v)) :
  qR P ops R w0 j (fun I=>eY P ops R w0 A v I/\K (I.put A.dst v)) a:=by
 obtain⟨J,L,M⟩:=Oper.apart_spec E
 have C:∀ (a:Act),eY P ops R w0 A v a->∀ u,eY P ops R w0 A v (a.put B.dst u):=fun a D u =>
  D.of_same (execOp_put A F a B.dst u M) (wanted_put A a B.dst u M)
 unfold qR at *
 simp only [N] at *
 rw [wanted_put B a A.dst v J] at h
 split
 .rename_i hw
  simp only [hw,if_true] at h; obtain⟨u,O,Q⟩:=h; refine⟨u,fun w H=>?_,C a D u,by rw [<-Act.put_comm a v u L]; exact Q⟩
  have:=O w H; unfold Oper.quietAt at *; rwa [execOp_put B G a A.dst v J] at this
 .rename_i hw
  simp only [hw] at h; exact⟨C a D _,by rw [<-Act.put_comm a v undef L]; exact h⟩
theorem sB{P:Program} {o:Oper} {a:Act} {C:World->Prop} {v:Value} {D:Act->World->Prop} {Q':Exit->Act->World->Prop} {w:World} (E:C w) (A:o.quietAt P a C w v) (h:∀ w',C w'->D (a.put o.dst v) w'):o.wp P a w D Q':=by
 unfold Oper.quietAt at A
 unfold Oper.wp
 generalize (execOp a.eval o).run P w=r at *
 cases r with
 | ok n w' =>
  cases n <;> simp only [Oper.quietUpon] at A <;> simp only [Oper.upon]
  case value u =>
   obtain⟨B,e2⟩:=A; rw [B,e2]; exact h _ E
  case skip =>
   obtain⟨B,e2⟩:=A; rw [B,<-e2]; exact h _ E
  case enter f args =>
   obtain⟨B,F⟩:=A; rw [B]; exact F.mono fun e G ⟨H,hw''⟩=>by subst H; exact h _ hw''
 | halt x w'=>simp only [Oper.quietUpon] at A
theorem wpOp_of_qR{i:Nat} {a:Act} {K:Act->Prop} {D:Act->World->Prop} {Q':Exit->Act->World->Prop} {w:World} (B:∀ w,R w w) (E:R w0 w) (h:∀ a w',R w w'->K a->D a w') (A:qR P ops R w0 i K a):wpOp P ops Q' i D a w:=by
 unfold qR at A
 unfold wpOp
 split
 .rename_i ho; simp only [ho] at A; exact h _ _ (B w) A
 .rename_i o ho
  simp only [ho] at A; split
  .rename_i hwa
   simp only [hwa,if_true] at A; obtain⟨v,F,G⟩:=A; exact .inl (sB (B w) (F w E) (fun w' C=>h _ w' C G))
  .rename_i hwa; simp only [hwa] at A; exact h _ _ (B w) A
def lA (P:Program) (md:Region.Mode) (ops:Array Oper) (R:World->World->Prop) (w0:World) (B:List Nat) (L:List dG) (Q:Array Bool->Act->(World->Prop)->Prop):Nat->Array Bool->Act->(World->Prop)->Prop
 | 0,listed,a,F=>Q listed a F
 | f+1,listed,a,F=>Region.ready md ops listed≠[]/\∀ i∈Region.ready md ops listed,
   (i∈B/\qR P ops R w0 i (fun A=>lA P md ops R w0 B L Q f (listed.setIfInBounds i true) A F) a) \/
   (∃ x∈L,x.1=i/\∃ o,ops[i]?=some o/\Region.wanted o (yielded ops a.tmps)=true/\(∀ w,R w0 w->gE P R x.2 w ((execOp a.eval o).run P w)) /\
    ∀ v,lA P md ops R w0 B L Q f (listed.setIfInBounds i true) (a.put o.dst v) (fun w=>F w/\x.2 v w))
theorem qQ{B:List Nat} {L:List dG} {g:Nat} {Q:Array Bool->Act->(World->Prop)->Prop} {Q':Exit->Act->World->Prop} (M:t7 R) (N:∀ x∈L,fd R x.2)
  (V:∀ listed a F w,R w0 w->F w->Q listed a F->wpAny P md ops Q' g listed a w) :
  ∀ (f:Nat) (listed:Array Bool) (a:Act) (F:World->Prop) (w:World),R w0 w->F w->(∀ w w',R w w'->F w->F w')->lA P md ops R w0 B L Q f listed a F->wpAny P md ops Q' (f+g) listed a w:=by
 intro f
 induction f with
 | zero =>
  intro listed a F w E J _ h; rw [Nat.zero_add]; exact V _ _ _ _ E J h
 | succ f ih =>
  intro listed a F w E J C h; rw [show f+1+g=(f+g)+1 by omega]; refine⟨fun h0=>absurd h0 h.1,fun i hi=>?_⟩; rcases h.2 i hi with⟨_,X⟩|⟨x,hx,rfl,o,Y,O,Z,b⟩
  .exact wpOp_of_qR M.refl E (fun c w' G S=>ih _ c F w' (M.trans E G) (C _ _ G J) C S) X
  .have step:∀ v w',R w w'->x.2 v w'->wpAny P md ops Q' (f+g) (listed.setIfInBounds x.1 true) (a.put o.dst v) w':=fun v w' H T =>
    ih _ _ _ w' (M.trans E H) ⟨C _ _ H J,T⟩ (fun d j I K=>⟨C _ _ I K.1,N x hx _ _ _ I K.2⟩) (b v)
   unfold wpOp; simp only [Y]; rw [if_pos O]; refine .inl ?_; have A:=Z w E; unfold Oper.wp; generalize (execOp a.eval o).run P w=r at *
   cases r with
   | ok m w' =>
    cases m <;> simp only [gE] at A <;> simp only [Oper.upon]
    case value u=>exact step u w' A.1 A.2
    case skip=>exact step undef w' A.1 A.2
    case enter f' args =>
     obtain⟨rfl,D⟩:=A; exact D.mono fun e U ⟨v,he,K,h2⟩=>by subst he; exact step v U K h2
   | halt q w'=>simp only [gE] at A
theorem sG{B:List Nat} {L:List dG} {Q:Array Bool->Act->(World->Prop)->Prop} {base X:Array Bool} {i:Nat} {G:Oper} {v:Value} (hi:ops[i]?=some G) (D:∀ (j:Nat) (o:Oper) cs b,ops[j]?=some o->o.op≠.select cs b)
  (hc:bq md ops base (B++L.map (·.1))=true) (K:i∈B) (Y:∀ j∈B++L.map (·.1),X.getD j true=true) (hQ:∀ listed a F,Q listed a F->listed=X) :
  ∀ (f:Nat) (listed:Array Bool) (a:Act) (F:World->Prop),Inv md ops (B++L.map (·.1)) base listed ->
   (∀ j T,ops[j]?=some T->j≠i->listed.getD j true=false->(∀ e∈T.after,Region.binds md e=true->e.on≠i)->G.apart ops T=true) ->
   i∈Region.ready md ops listed->eY P ops R w0 G v a ->
   lA P md ops R w0 B L Q f (listed.setIfInBounds i true) (a.put G.dst v) F->lA P md ops R w0 B L Q (f+1) listed a F:=by
 intro f
 induction f with
 | zero =>
  intro listed a F I _ M Z H; have C:=(mem_ready.1 M).1; refine⟨fun h=>(by rw [h] at M; cases M),fun j U=>?_⟩
  have N:=I.stays hc (List.mem_append_left _ K) C U; by_cases A:j=i
  .subst A; exact .inl ⟨K,Z.qR hi H⟩
  .exfalso
   have O:=ready_mono U A; rw [hQ _ _ _ H] at O; have q:=(mem_ready.1 O).1; rw [Y j N] at q
   cases q
 | succ f ih =>
  intro listed a F I J M Z H; have C:=(mem_ready.1 M).1; refine⟨fun h=>(by rw [h] at M; cases M),fun j U=>?_⟩
  have N:=I.stays hc (List.mem_append_left _ K) C U; by_cases A:j=i
  .subst A; exact .inl ⟨K,Z.qR hi H⟩
  .have O:=H.2 j (ready_mono U A)
   obtain⟨V,T,S,c⟩:=mem_ready.1 U; have d:∀ e∈T.after,Region.binds md e=true->e.on≠i:=fun e he hb r=>by
    have O:=c e he hb; rw [r,getD_both C] at O
    cases O
   have g:=J j T S A V d; have E:∀ k ok,ops[k]?=some ok->k≠i->(listed.setIfInBounds j true).getD k true=false ->
     (∀ e∈ok.after,Region.binds md e=true->e.on≠i)->G.apart ops ok=true:=fun k ok s t C y=>by
    refine J k ok s t ?_ y; by_cases l:j=k
    .subst l; exact V
    .rw [getD_set_ne true l] at C; exact C
   rcases O with⟨m,O⟩|⟨x,hx,z,o,ho,n,hg,s⟩
   .refine .inl ⟨m,?_⟩
    have q:=qR_put S g (fun cs b=>D i G cs b hi) (fun cs b=>D j T cs b S) Z O; refine qR_mono (fun a' h3=>ih (listed.setIfInBounds j true) a' F (I.set N U) E (ready_mono M (Ne.symm A)) h3.1 ?_) q; rw [Array.setIfInBounds_comm _ _ A]; exact h3.2
   .have:o=T:=Option.some.inj (ho.symm.trans S)
    subst this; obtain⟨g1,g2,g3⟩:=Oper.apart_spec g; refine .inr ⟨x,hx,z,o,ho,?_,fun w hw=>?_,fun u=>?_⟩
    .rw [wanted_put o a G.dst v g1] at n
     exact n
    .have:=hg w hw
     rw [execOp_put o (fun cs b=>D j o cs b ho) a G.dst v g1] at this; exact this
    .refine ih (listed.setIfInBounds j true) (a.put o.dst u) _ (I.set N U) E (ready_mono M (Ne.symm A)) (Z.of_same (execOp_put G (fun cs b=>D i G cs b hi) a o.dst u g3) (wanted_put G a o.dst u g3)) ?_
     rw [Array.setIfInBounds_comm _ _ A,<-Act.put_comm a v u g2]; exact s u
theorem sF{B:List Nat} {L0:List dG} {u:Act->(World->Prop)->Prop} {base Y:Array Bool} (Aa:∀ a F z,(∀ w,z w->F w)->u a F->u a z) (Z:∀ (j:Nat) (o:Oper) cs b,ops[j]?=some o->o.op≠.select cs b) (hc:bq md ops base (B++L0.map (·.1))=true) (Ab:nz ops (L0.map (·.1))=true) :
  ∀ (n:Nat) (L:List dG) (listed:Array Bool) (a:Act) (F:World->Prop),L.length=n->(L.map (·.1)).Nodup->(∀ x∈L,x∈L0/\x.1∈Region.ready md ops listed) ->
   (∀ i∈B++L0.map (·.1),listed.getD i true=false->i∈L.map (·.1))->Inv md ops (B++L0.map (·.1)) base listed->lay listed (L.map (·.1))=Y ->
   bh P ops R w0 u L a F->lA P md ops R w0 B L0 (fun G a' z=>G=Y/\u a' z) n listed a F:=by
 intro n
 induction n with
 | zero =>
  intro L listed a F c _ _ _ _ d h; have:L=[]:=List.length_eq_zero_iff.1 c; subst this; exact⟨d,h⟩
 | succ n ih =>
  intro L listed a F c g X K N d h; obtain⟨x0,k,rfl⟩:∃ x k,L=x::k:=by
   cases L with
   | nil=>cases c
   | cons x k=>exact⟨x,k,rfl⟩
  have O:=X x0 List.mem_cons_self; refine⟨fun h0=>(by have:=O.2; rw [h0] at this; cases this),fun j hj=>?_⟩
  have l:j∈B++L0.map (·.1):=N.stays hc (List.mem_append_right _ (List.mem_map_of_mem O.1)) (mem_ready.1 O.2).1 hj; have Ac:=K j l (mem_ready.1 hj).1; obtain⟨⟨j',T⟩,H,Q⟩:=List.mem_map.1 Ac; have Q:j'=j:=Q; subst Q; obtain⟨B1,B2,A⟩:=List.append_of_mem H; rw [A] at h g d; have C:=g; simp only [List.map_append,List.map_cons] at C d; have I:∀ y∈B1,y.1≠j':=fun y E e=>by
   rw [List.nodup_append] at C; exact C.2.2 y.1 (List.mem_map_of_mem E) j' (List.mem_cons_self) e
  have m:∀ y∈B2,y.1≠j':=fun y E e=>by
   rw [List.nodup_append] at C; exact(List.nodup_cons.1 C.2.1).1 (by rw [<-e]; exact List.mem_map_of_mem E)
  have S:∀ y∈B1++B2,y∈x0::k/\y.1≠j':=fun y E=>by
   rcases List.mem_append.1 E with D|D
   .exact⟨by rw [A]; exact List.mem_append_left _ D,I y D⟩
   .exact⟨by rw [A]; exact List.mem_append_right _ (List.mem_cons_of_mem _ D),m y D⟩
  have Ad:j'∈L0.map (·.1):=List.mem_map_of_mem (f:=(·.1)) (X _ H).1; obtain⟨o,k1,k2,k3,k4⟩:=jz Aa Z Ab Ad B1 a F (fun y E=>⟨List.mem_map_of_mem (X y (by rw [A]; exact List.mem_append_left _ E)).1,I y E⟩) h
  refine .inr ⟨(j',T),(X _ H).1,rfl,o,k1,k2,k3,fun v=>?_⟩; refine ih (B1++B2) (listed.setIfInBounds j' true) (a.put o.dst v) _ ?_ ?_ ?_ ?_ (N.set l hj) ?_ (k4 v)
  .rw [A] at c
   simp only [List.length_append,List.length_cons] at c ⊢; omega
  .simp only [List.map_append]
   rw [List.nodup_append] at C ⊢; exact⟨C.1,(List.nodup_cons.1 C.2.1).2,fun p hp q hq=>C.2.2 p hp q (List.mem_cons_of_mem _ hq)⟩
  .intro y E
   obtain⟨D,h2⟩:=S y E; exact⟨(X y D).1,ready_mono (X y D).2 h2⟩
  .intro i hi J
   have r:i≠j':=by
    rintro rfl; have t:i<listed.size:=by
     obtain⟨o',Ae,_⟩:=(mem_ready.1 hj).2; rw [N.size]; exact(Array.getElem?_eq_some_iff.1 Ae).1
    rw [dm (by simpa using t),iZ t] at J
    cases J
   rw [getD_set_ne true (Ne.symm r)] at J; have D:=K i hi J; rw [A] at D; simp only [List.map_append,List.map_cons,List.mem_append,List.mem_cons] at D ⊢; rcases D with D|D|D
   .exact .inl D
   .exact absurd D r
   .exact .inr D
  .rw [<-d]
   simp only [List.map_append]; have U:∀ (M:List Nat) (V:List Nat) (s:Array Bool),j'∉M->lay (s.setIfInBounds j' true) (M++V)=lay s (M++j'::V):=by
    intro M; induction M with
    | nil=>intro V s _; rfl
    | cons p M ihl =>
     intro V s hp; have Af:p≠j':=fun e=>hp (by rw [e]; exact List.mem_cons_self)
     show lay ((s.setIfInBounds j' true).setIfInBounds p true) (M++V)=lay (s.setIfInBounds p true) (M++j'::V)
     rw [<-Array.setIfInBounds_comm _ _ Af]; exact ihl V _ (fun hm=>hp (List.mem_cons_of_mem _ hm))
   refine U _ _ _ (fun hm=>?_); obtain⟨y,E,Ag⟩:=List.mem_map.1 hm; exact I y E Ag
def wpR (P:Program) (ops:Array Oper) (R:World->World->Prop) (w0:World) (Q:Act->Prop):List Nat->Act->Prop
 | [],a=>Q a
 | i::l,a=>qR P ops R w0 i (wpR P ops R w0 Q l) a
theorem j8{Q:Act->Prop}:∀ (B:List Nat) (a:Act),B.all (dQ ops)=true->wpQuiet P ops (R w0) Q (B.filterMap (ops[·]?)) a->wpR P ops R w0 Q B a
 | [],_,_,h=>h
 | i::B,a,hc,h=>by
  simp only [List.all_cons,Bool.and_eq_true] at hc; obtain⟨A,C⟩:=hc; unfold dQ at A
  cases E:ops[i]? with
  | none=>rw [E] at A; cases A
  | some o =>
   rw [E] at A; rw [List.filterMap_cons_some E] at h; unfold wpQuiet at h; unfold wpR qR; simp only [E]; split
   .rename_i hw
    simp only [hw,if_true] at h; obtain⟨v,H,I⟩:=h; refine⟨v,fun w F=>?_,j8 B _ C I⟩; have D:=H w F; unfold Oper.quietAt at D ⊢
    cases G:(execOp a.eval o).run P w with
    | halt q w'=>rw [G] at D; exact D.elim
    | ok n w' =>
     obtain⟨u,rfl⟩:=lX A a.eval w w' n G; rw [G] at D; exact D
   .rename_i hw
    simp only [hw] at h; exact j8 B _ C h
theorem jy{Q:Act->Prop}:∀ (A B:List Nat) (a:Act),wpR P ops R w0 (fun C=>wpR P ops R w0 Q B C) A a->wpR P ops R w0 Q (A++B) a
 | [],_,_,h=>h
 | _::A,B,_,h=>qR_mono (fun C D=>jy A B C D) h
def j7 (P:Program) (ops:Array Oper) (R:World->World->Prop) (w0:World) (Q:Act->Prop):List (List Nat × Nat)->Act->Prop
 | [],a=>Q a
 | x::rest,a=>wpQuiet P ops (R w0) (fun A=>∃ o,ops[x.2]?=some o/\Region.wanted o (yielded ops A.tmps)=true/\∃ v,(∀ w,R w0 w->o.quietAt P A (R w) w v)/\j7 P ops R w0 Q rest (A.put o.dst v)) (x.1.filterMap (ops[·]?)) a
def fH:List (List Nat × Nat)->List Nat
 | []=>[]
 | x::rest=>(x.1++[x.2])++fH rest
theorem o4{Q:Act->Prop}:∀ (S:List (List Nat × Nat)) (a:Act),S.all (fun x=>x.1.all (dQ ops))=true->j7 P ops R w0 Q S a->wpR P ops R w0 Q (fH S) a
 | [],_,_,h=>h
 | x::S,a,hc,h=>by
  simp only [List.all_cons,Bool.and_eq_true] at hc; unfold fH; rw [List.append_assoc]; refine jy _ _ _ (j8 x.1 a hc.1 ?_); unfold j7 at h; have key:∀ (l:List Oper) (a:Act),wpQuiet P ops (R w0) (fun A=>∃ o,ops[x.2]?=some o/\Region.wanted o (yielded ops A.tmps)=true/\∃ v,(∀ w,R w0 w->o.quietAt P A (R w) w v)/\j7 P ops R w0 Q S (A.put o.dst v)) l a ->
    wpQuiet P ops (R w0) (fun A=>wpR P ops R w0 Q ([x.2]++fH S) A) l a:=by
   intro l; induction l with
   | nil =>
    rintro a ⟨o,C,B,v,D,E⟩; show qR P ops R w0 x.2 _ a
    unfold qR; simp only [C,B,if_true]; exact⟨v,D,o4 S _ hc.2 E⟩
   | cons o l ih =>
    intro a h; unfold wpQuiet at h ⊢; split
    .rename_i B
     simp only [B,if_true] at h; exact Oper.quiet_mono (fun a=>ih a) h
    .rename_i B
     simp only [B] at h; exact ih _ h
  exact key _ _ h
def mixRB (md:Region.Mode) (ops:Array Oper) (base:Array Bool) (B L:List Nat):Bool :=
 Region.noSelect ops&&decide (base.size=ops.size)&&bq md ops base (B++L)&&gu md ops B base&&nz ops L&&decide (B++L).Nodup&&L.all fun i=>(Region.ready md ops (lay base B)).contains i
theorem o9{Q':Exit->Act->World->Prop} {a:Act} {w:World} {base:Array Bool} {N fuel:Nat} (hR:t7 R) (n:R w0 w) (B:List Nat) (L:List dG) (hB:mixRB md ops base B (L.map (·.1))=true) (q:∀ x∈L,fd R x.2) (hN:N=B.length+L.length+fuel)
  (h:wpR P ops R w0 (fun H=>bh P ops R w0 (fun H F=>∀ w',R w0 w'->F w'->wpAny P md ops Q' fuel (lay (lay base B) (L.map (·.1))) H w') L H (fun _=>True)) B a):wpAny P md ops Q' N base a w:=by
 simp only [mixRB,Bool.and_eq_true,decide_eq_true_eq] at hB
 obtain⟨⟨⟨⟨⟨⟨T,J⟩,g⟩,U⟩,r⟩,s⟩,t⟩:=hB
 subst hN
 have C:=Region.noSelect_spec T
 have I:=s
 rw [List.nodup_append] at I
 have K:jA md ops (B++L.map (·.1)) base=true:=by
  simp only [bq,Bool.and_eq_true] at g; exact g.1
 have V:=mb _ _ K
 have X:∀ j∈B++L.map (·.1),(lay (lay base B) (L.map (·.1))).getD j true=true:=fun j u=>by
  rw [<-qc,dm (by rw [ji,J]; exact V j u)]
  exact lay_in _ _ _ u (by rw [J]; exact V j u)
 have key:∀ (l:List Nat) (listed:Array Bool) (a:Act),(∀ i∈l,i∈B)->(∀ i∈B,listed.getD i true=false->i∈l)->Inv md ops (B++L.map (·.1)) base listed->gu md ops l listed=true->lay listed l=lay base B ->
   wpR P ops R w0 (fun H=>bh P ops R w0 (fun H F=>∀ w',R w0 w'->F w'->wpAny P md ops Q' fuel (lay (lay base B) (L.map (·.1))) H w') L H (fun _=>True)) l a ->
   lA P md ops R w0 B L (fun D H F'=>D=lay (lay base B) (L.map (·.1))/\∀ w',R w0 w'->F' w'->wpAny P md ops Q' fuel (lay (lay base B) (L.map (·.1))) H w') (l.length+L.length) listed a (fun _=>True):=by
  intro l; induction l with
  | nil =>
   intro listed a _ E G _ S h; have S:listed=lay base B:=S; rw [List.length_nil,Nat.zero_add]; refine sF (fun a F F' y Y w' M z=>Y w' M (y w' z)) C g r L.length L listed a _ rfl I.2.1 (fun x hx=>⟨hx,?_⟩) (fun i hi A=>?_) G (by rw [S]) h
   .have:=List.all_eq_true.1 t x.1 (List.mem_map_of_mem hx)
    rw [S]; simpa using this
   .rcases List.mem_append.1 hi with O|O
    .cases E i O A
    .exact O
  | cons i l ih =>
   intro listed a Z E G b S h; simp only [gu,Bool.and_eq_true] at b; obtain⟨⟨hr,Aa⟩,Ab⟩:=b; have Q:i∈Region.ready md ops listed:=by simpa using hr
   obtain⟨_,o,m,_⟩:=mem_ready.1 Q; have c:=Z i List.mem_cons_self; obtain⟨v,hy,hK⟩:=qO m h; have:=ih (listed.setIfInBounds i true) _ (fun k hk=>Z k (List.mem_cons_of_mem _ hk)) (fun k hk A=>by
    have d:k≠i:=by
     rintro rfl; have f:k<listed.size:=by rw [G.size]; exact(Array.getElem?_eq_some_iff.1 m).1
     rw [dm (by simpa using f),iZ f] at A
     cases A
    rw [getD_set_ne true (Ne.symm d)] at A; rcases List.mem_cons.1 (E k hk A) with O|O
    .exact absurd O d
    .exact O) (G.set (List.mem_append_left _ c) Q) Ab S hK
   rw [show (i::l).length+L.length=(l.length+L.length)+1 by simp only [List.length_cons]; omega]
   exact sG m C g c X (fun _ _ _ Y=>Y.1) _ listed a _ G (Region.free_spec m Aa) Q hy this
 have hM:=key B base a (fun _ h=>h) (fun _ h _=>h) (Inv.refl J) U rfl h
 exact qQ hR q (fun listed H F w' M hF Y=>by obtain⟨rfl,h2⟩:=Y; exact h2 w' M hF) _ base a _ w n trivial (fun _ _ _ h=>h) hM
end
def ix (P:Program) (l:List Oper) (w:World) (Q:Act->Prop):List (List Nat × Nat)->Act->Prop
 | [],a=>Q a
 | x::rest,a=>wpQuiet P l.toArray (fun w'=>∃ p:bN,w'=ab w p) (fun A=>Region.wanted (l.getD x.2 default) (yielded l.toArray A.tmps)=true /\
   ∃ v,(∀ p:bN,(l.getD x.2 default).quietAt P A (fun B=>∃ q:bN,B=ab (ab w p) q) (ab w p) v)/\ix P l w Q rest (A.put (l.getD x.2 default).dst v)) (pick l x.1) a
theorem rF{P:Program} {o:Oper} {a:Act} {w:World} {W:Prop} {B:Act->Prop} (C:W) (h:∀ K:Act->Prop,(∀ a,B a->K a)->∃ v,(∀ p:bN,o.quietAt P a (fun A=>∃ q:bN,A=ab (ab w p) q) (ab w p) v)/\K (a.put o.dst v)) :
  W/\∃ v,(∀ p:bN,o.quietAt P a (fun A=>∃ q:bN,A=ab (ab w p) q) (ab w p) v)/\B (a.put o.dst v):=⟨C,h _ fun _ h=>h⟩
theorem oh{P:Program} {f:FuncId} {args:Array Value} {W:World} {v:Value} (h:Calls P f args W fun e w'=>e=.returned v/\eD W w'):Calls P f args W fun e w'=>e=.returned v/\∃ q:bN,w'=ab W q :=
 h.mono fun _ _ ⟨A,hb⟩=>⟨A,lp hb⟩
theorem oY{P:Program} {g:Nat} {Q:Exit->Act->World->Prop} {a:Act} {w:World} {l:List Oper} (S:List (List Nat × Nat)) (A:List Nat) (L:List dG) (T:List Nat) (j:P.follows .mixedOrders=true)
  (c:((fH S++A).all (fun i=>decide (i<l.length))&&T.all (fun i=>decide (i<l.length))&&S.all (fun x=>x.1.all (dQ l.toArray))&&A.all (dQ l.toArray)&&mixRB .any l.toArray (Array.replicate l.length false) (fH S++A) (L.map (·.1))&&decide ((fH S++A).length+L.length+T.length=l.length)&&qW .any l.toArray T (lay (lay (Array.replicate l.length false) (fH S++A)) (L.map (·.1))))=true)
  (O:∀ x∈L,fd GR x.2)
  (h:ix P l w (fun R=>wpQuiet P l.toArray (fun w'=>∃ p:bN,w'=ab w p) (fun B=>bh P l.toArray GR w (fun C F=>∀ w',GR w w'->F w'->wpList P l.toArray Q (pick l T) C w') L B (fun _=>True)) (pick l A) R) S a):(Code.region g l.toArray true).wp P Q a w:=by
 simp only [Bool.and_eq_true,decide_eq_true_eq] at c
 obtain⟨⟨⟨⟨⟨⟨M,k⟩,d⟩,m⟩,n⟩,y⟩,q⟩:=c
 have r:A.all (fun i=>decide (i<l.length))=true:=by
  rw [List.all_append,Bool.and_eq_true] at M; exact M.2
 have s:(fH S).all (fun i=>decide (i<l.length))=true:=by
  rw [List.all_append,Bool.and_eq_true] at M; exact M.1
 refine bL j (o9 (fuel:=T.length) mm (GR.of (Below.refl _ _).drew) (fH S++A) L n O (by omega) ?_)
 have key:∀ (L0:List dG) (a:Act) (F:World->Prop),bh P l.toArray GR w (fun C F=>∀ w',GR w w'->F w'->wpList P l.toArray Q (pick l T) C w') L0 a F ->
   bh P l.toArray GR w (fun B F=>∀ w',GR w w'->F w'->wpAny P .any l.toArray Q T.length (lay (lay (Array.replicate l.length false) (fH S++A)) (L.map (·.1))) B w') L0 a F:=by
  intro L0; induction L0 with
  | nil=>intro a F h w' E t; exact dI T _ a w' q (by rw [da l T k]; exact h w' E t)
  | cons x L0 ih=>intro a F ⟨o,u,k2,k3,k4⟩; exact⟨o,u,k2,k3,fun v=>ih _ _ (k4 v)⟩
 have D:∀ (I:List Oper) (a:Act) (K H:Act->Prop),(∀ a,K a->H a)->wpQuiet P l.toArray (fun w'=>∃ p:bN,w'=ab w p) K I a->wpQuiet P l.toArray (GR w) H I a:=by
  intro I; induction I with
  | nil=>intro a K H N h; exact N _ h
  | cons o I ih =>
   intro a K H N h; unfold wpQuiet at h ⊢; split
   .rename_i E
    simp only [E,if_true] at h; exact Oper.quiet_mono (fun a=>ih a K H N) h
   .rename_i E
    simp only [E] at h; exact ih _ K H N h
 refine jy _ _ a ?_
 have J:∀ (G:List (List Nat × Nat)) (a:Act),(fH G).all (fun i=>decide (i<l.length))=true->G.all (fun x=>x.1.all (dQ l.toArray))=true ->
   ix P l w (fun R=>wpQuiet P l.toArray (fun w'=>∃ p:bN,w'=ab w p) (fun B=>bh P l.toArray GR w (fun C F=>∀ w',GR w w'->F w'->wpList P l.toArray Q (pick l T) C w') L B (fun _=>True)) (pick l A) R) G a ->
   j7 P l.toArray GR w (fun B=>wpR P l.toArray GR w (fun B=>bh P l.toArray GR w (fun B F=>∀ w',GR w w'->F w'->wpAny P .any l.toArray Q T.length (lay (lay (Array.replicate l.length false) (fH S++A)) (L.map (·.1))) B w') L B (fun _=>True)) A B) G a:=by
  intro G; induction G with
  | nil =>
   intro a _ _ h; refine j8 A a m ?_; rw [da l A r]; exact D _ a _ _ (fun a h=>key _ _ _ h) h
  | cons x G ih =>
   intro a U f h; unfold fH at U; rw [List.all_append,List.all_append,Bool.and_eq_true,Bool.and_eq_true] at U; obtain⟨⟨V,X⟩,Y⟩:=U; simp only [List.all_cons,Bool.and_eq_true] at f; have Z:x.2<l.length:=by simpa using X
   unfold ix at h; unfold j7; rw [da l x.1 V]; refine D _ a _ _ (fun B ⟨E,v,hv,hk⟩=>⟨l.getD x.2 default,by simp [Z],E,v,fun z b=>?_,ih _ Y f.2 hk⟩) h; obtain⟨p,rfl⟩:=b; exact hv p
 exact o4 S a d (J S a s d h)
end Batch
end
section
open Go.RowKit Mem
theorem kO(l:List UInt8) (w:World):∃ B c,(convert 9 62 (.string (str l))).run prog w=.ok (.slice (some ⟨w.heap.size,0,none⟩) l.length c) B/\Bs B B.heap.size (some ⟨w.heap.size,0,none⟩) l.length l/\eD w B:=by
 have h:=run_bytes_of_string (P:=prog) w 9 62 5 (str l) underlying9 underlying62 underlying5
 rw [aJ] at h
 refine⟨_,_,h,⟨by rw [eo]; omega,fun j u C=>⟨_,rfl,by simp,?_⟩⟩,((Below.refl _ _).drew).alloc eG _⟩
 rw [aO]
 have A:j<l.length:=by
  have:=(List.getElem?_eq_some_iff.1 C).1; rwa [eo] at this
 have D:=qB w.drew (bytesRow (str l) (grownCap w l.length 0 5)) 5 ((bytesRow (str l) (grownCap w l.length 0 5)).size,(bytesRow (str l) (grownCap w l.length 0 5)).size+1) j
 refine D.trans ?_
 rw [<-C,ol]
 unfold bytesRow
 simp only [str]
 rw [Array.getElem?_append_left (by simpa using A)]
 simp [A]
end
end Go.Proofs.YtmbpnkacggngkaaGreatDoor
