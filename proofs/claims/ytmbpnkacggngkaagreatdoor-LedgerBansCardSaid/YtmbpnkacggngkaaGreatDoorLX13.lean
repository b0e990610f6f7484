/- MixF, JwkKey, JwkWrite, LedApC, LedRk, LedRefCopy (put together by bundle.py: only what is needed). -/
import Derived.Test.YtmbpnkacggngkaaGreatDoorLX12
set_option maxRecDepth 100000
set_option maxHeartbeats 16000000
namespace Go.Proofs.YtmbpnkacggngkaaGreatDoor
open Batch
open Tryz
section
namespace Batch
open Go.RowKit
section
variable {P:Program} {ops:Array Oper} {md:Region.Mode} {R:World->World->Prop} {w0:World}
abbrev dH:=List (Nat × (World->Prop))
abbrev Elt:=Nat × List Nat × Option (Value->World->Prop)
def Fits (A:List Nat) (B:dH) (w:World):Prop:=∀ p∈B,p.1∈A->p.2 w
def oo (P:Program) (ops:Array Oper) (R:World->World->Prop) (w0:World) (Q:Act->dH->Prop):List Elt->Act->dH->Prop
 | [],a,Fs=>Q a Fs
 | (i,_,none)::l,a,Fs=>∃ o v,ops[i]?=some o/\og o.op=true/\YieldsIn P ops (R w0) o v a/\oo P ops R w0 Q l (a.put o.dst v) Fs
 | (i,ln,some T)::l,a,Fs=>∃ o,ops[i]?=some o/\Region.wanted o (yielded ops a.tmps)=true/\(∃ v w,T v w)/\(∀ w,R w0 w->Fits ln Fs w->gE P R T w ((execOp a.eval o).run P w)) /\
   ∀ v,(∃ w,T v w)->oo P ops R w0 Q l (a.put o.dst v) ((i,T v)::Fs)
theorem Fits.sub{B:List Nat} {C A:dH} {w:World} (h:Fits B A w) (D:∀ p∈C,p∈A):Fits B C w:=fun p E=>h p (D p E)
theorem mY{Q:Act->dH->Prop} (C:∀ a B A,(∀ p∈B,p∈A)->Q a B->Q a A):∀ (l:List Elt) (a:Act) (B A:dH),(∀ p∈B,p∈A)->oo P ops R w0 Q l a B->oo P ops R w0 Q l a A
 | [],a,B,A,hs,h=>C a B A hs h
 | (i,_,none)::l,a,B,A,hs,⟨o,v,h1,h2,h3,h4⟩=>⟨o,v,h1,h2,h3,mY C l _ B A hs h4⟩
 | (i,ln,some T)::l,a,B,A,hs,⟨o,h1,h2,h3,h4,h5⟩=>⟨o,h1,h2,h3,fun w E F=>h4 w E (F.sub hs),fun v G=>mY C l _ _ _ (fun p D=>by
   rcases List.mem_cons.1 D with rfl|D
   .exact List.mem_cons_self
   .exact List.mem_cons_of_mem _ (hs p D)) (h5 v G)⟩
theorem qN{C:World->Prop} {o:Oper} {v G:Value} {a:Act} {w:World} (I:og o.op=true) (H:C w) (h:YieldsIn P ops C o v a) (J:YieldsIn P ops C o G a):v=G:=by
 rcases h with⟨D,E⟩|⟨D,E⟩ <;> rcases J with⟨A,k2⟩|⟨A,k2⟩
 .have B:=E w H
  have e2:=k2 w H; unfold Oper.quietAt at B e2
  cases F:(execOp a.eval o).run P w with
  | halt q w'=>rw [F] at B; exact B.elim
  | ok n w' =>
   obtain⟨u,rfl⟩:=n9 I a.eval w w' n F; rw [F] at B e2; exact B.2.symm.trans e2.2
 .rw [D] at A; cases A
 .rw [D] at A; cases A
 .rw [E,k2]
def pairF (md:Region.Mode) (ops:Array Oper) (x e:Nat × List Nat):Bool :=
 match ops[x.1]?,ops[e.1]? with
 | some ox,some oe=>(oe.after.any fun d=>Region.binds md d&&d.on==x.1)||(ox.apart ops oe&&!e.2.contains x.1)
 | _,_=>false
def lG (md:Region.Mode) (ops:Array Oper):List (Nat × List Nat)->Bool
 | []=>true
 | x::l=>l.all (pairF md ops x)&&lG md ops l
def apartF (ops:Array Oper) (x e:Nat × List Nat):Prop:=∃ A B,ops[x.1]?=some A/\ops[e.1]?=some B/\A.apart ops B=true/\x.1∉e.2
theorem mX{Q:Act->dH->Prop} (g:t7 R) (k:∀ a E V,(∀ p∈E,p∈V)->Q a E->Q a V) (A:∀ (j:Nat) (o:Oper) cs b,ops[j]?=some o->o.op≠.select cs b) (e:Elt) (f:List Elt) :
  ∀ (L:List Elt) (a:Act) (E:dH),(∀ x∈L,apartF ops (x.1,x.2.1) (e.1,e.2.1))->oo P ops R w0 Q (L++e::f) a E->oo P ops R w0 Q (e::(L++f)) a E
 | [],a,E,_,h=>h
 | (i,_,none)::L,a,E,hap,⟨o,v,h1,h2,h3,h4⟩=>by
  obtain⟨l,X,m,k2,k3,k4⟩:=hap _ List.mem_cons_self; obtain rfl:o=l:=Option.some.inj (h1.symm.trans m); obtain⟨D,Y,G⟩:=Oper.apart_spec k3; have ih:=mX g k A e f L _ E (fun x hx=>hap x (List.mem_cons_of_mem _ hx)) h4; obtain⟨j,t,T⟩:=e
  cases T with
  | none =>
   obtain⟨B,H,C,F,M,S⟩:=ih; obtain rfl:B=X:=Option.some.inj (C.symm.trans k2); refine⟨B,H,C,F,M.of_same (execOp_put B (fun cs b=>A j B cs b C) a o.dst v D).symm (wanted_put B a o.dst v D).symm,o,v,h1,h2,h3.of_same (execOp_put o (fun cs b=>A i o cs b h1) a B.dst H G) (wanted_put o a B.dst H G),?_⟩; rw [<-Act.put_comm a v H Y]; exact S
  | some T =>
   obtain⟨B,C,F,M,S,r⟩:=ih; obtain rfl:B=X:=Option.some.inj (C.symm.trans k2); rw [wanted_put B a o.dst v D] at F; refine⟨B,C,F,M,fun w N O=>?_,fun u n=>⟨o,v,h1,h2,h3.of_same (execOp_put o (fun cs b=>A i o cs b h1) a B.dst u G) (wanted_put o a B.dst u G),?_⟩⟩
   .have:=S w N O
    rw [execOp_put B (fun cs b=>A j B cs b C) a o.dst v D] at this; exact this
   .rw [<-Act.put_comm a v u Y]
    exact r u n
 | (i,ln0,some T0)::L,a,E,hap,⟨o,h1,h2,h3,h4,h5⟩=>by
  obtain⟨l,X,m,k2,k3,k4⟩:=hap _ List.mem_cons_self; obtain rfl:o=l:=Option.some.inj (h1.symm.trans m); obtain⟨D,Y,G⟩:=Oper.apart_spec k3; have ih:=fun v Z=>mX g k A e f L _ ((i,T0 v)::E) (fun x hx=>hap x (List.mem_cons_of_mem _ hx)) (h5 v Z); obtain⟨J,I⟩:=h3; obtain⟨j,t,T⟩:=e
  cases T with
  | none =>
   obtain⟨B,H,C,F,M,S⟩:=ih J I; obtain rfl:B=X:=Option.some.inj (C.symm.trans k2); have c:=M.of_same (execOp_put B (fun cs b=>A j B cs b C) a o.dst J D).symm (wanted_put B a o.dst J D).symm; refine⟨B,H,C,F,c,o,h1,by rw [wanted_put o a B.dst H G]; exact h2,⟨J,I⟩,fun w N O=>?_,fun v Z=>?_⟩
   .rw [execOp_put o (fun cs b=>A i o cs b h1) a B.dst H G]
    exact h4 w N O
   .obtain⟨U,z,n1,n2,n3,s⟩:=ih v Z
    obtain rfl:U=B:=Option.some.inj (n1.symm.trans C); have q:=n3.of_same (execOp_put U (fun cs b=>A j U cs b C) a o.dst v D).symm (wanted_put U a o.dst v D).symm; have:=qN F (g.refl w0) c q; subst this; rw [<-Act.put_comm a v H Y]; exact s
  | some T =>
   obtain⟨B,C,F,M,S,r⟩:=ih J I; obtain rfl:B=X:=Option.some.inj (C.symm.trans k2); rw [wanted_put B a o.dst J D] at F; refine⟨B,C,F,M,fun w N O=>?_,fun u n=>⟨o,h1,by rw [wanted_put o a B.dst u G]; exact h2,⟨J,I⟩,fun w N O=>?_,fun v Z=>?_⟩⟩
   .have:=S w N (fun p K d=>by
     rcases List.mem_cons.1 K with rfl|K
     .exact absurd d k4
     .exact O p K d)
    rw [execOp_put B (fun cs b=>A j B cs b C) a o.dst J D] at this; exact this
   .rw [execOp_put o (fun cs b=>A i o cs b h1) a B.dst u G]
    exact h4 w N (O.sub fun p K=>List.mem_cons_of_mem _ K)
   .obtain⟨U,n1,n2,n3,s,y⟩:=ih v Z
    obtain rfl:U=B:=Option.some.inj (n1.symm.trans C); rw [<-Act.put_comm a v u Y]; refine mY k _ _ _ _ (fun p K=>?_) (y u n); simp only [List.mem_cons] at K ⊢; rcases K with h|h|h
    .exact .inr (.inl h)
    .exact .inl h
    .exact .inr (.inr h)
theorem rx{e:Nat} {C:List Nat}:∀ (B:List Nat) (x:Array Bool),jA md ops (B++e::C) x=true->jA md ops (B++C) (x.setIfInBounds e true)=true
 | [],x,h=>by
  simp only [List.nil_append,jA,Bool.and_eq_true] at h; exact h.2
 | j::B,x,h=>by
  simp only [List.cons_append,jA,Bool.and_eq_true] at h ⊢; obtain⟨o,D,hd⟩:=d7.1 h.1; refine⟨d7.2 ⟨o,D,fun e E F=>getD_set_true (hd e E F)⟩,?_⟩; have:=rx B _ h.2; by_cases A:j=e
  .subst A
   exact this
  .rw [Array.setIfInBounds_comm _ _ (fun h=>A h.symm)]
   exact this
theorem nS{e:Nat × List Nat} {B:List (Nat × List Nat)}:∀ (A:List (Nat × List Nat)),lG md ops (A++e::B)=true->lG md ops (A++B)=true/\∀ x∈A,pairF md ops x e=true
 | [],h=>by
  simp only [List.nil_append,lG,Bool.and_eq_true] at h; exact⟨h.2,fun x hx=>by cases hx⟩
 | y::A,h=>by
  simp only [List.cons_append,lG,Bool.and_eq_true,List.all_append,List.all_cons] at h ⊢; obtain⟨⟨C,D,E⟩,F⟩:=h; obtain⟨G,k2⟩:=nS A F; refine⟨⟨⟨C,E⟩,G⟩,fun x hx=>?_⟩; rcases List.mem_cons.1 hx with rfl|hx
  .exact D
  .exact k2 x hx
theorem wpAny_seqF{Q:Act->dH->Prop} {Q':Exit->Act->World->Prop} {M:List Nat} {base:Array Bool} {g:Nat} (hR:t7 R) (Aj:∀ a F B,(∀ p∈F,p∈B)->Q a F->Q a B) (s:∀ (j:Nat) (o:Oper) cs b,ops[j]?=some o->o.op≠.select cs b)
  (hc:bq md ops base M=true) (S:Array Bool) (t:∀ listed:Array Bool,Inv md ops M base listed->(∀ j∈M,listed.getD j true=true)->listed=S)
  (hQ:∀ a F w,R w0 w->(∀ p∈F,p.2 w)->Q a F->wpAny P md ops Q' g S a w) :
  ∀ (n:Nat) (l:List Elt) (listed:Array Bool) (a:Act) (F:dH) (w:World),l.length=n->Inv md ops M base listed->(∀ x∈l,x.1∈M/\listed.getD x.1 true=false)->(∀ j∈M,listed.getD j true=false->∃ x∈l,x.1=j)->(l.map (·.1)).Nodup ->
   jA md ops (l.map (·.1)) listed=true->lG md ops (l.map fun x=>(x.1,x.2.1))=true->(∀ x∈l,∀ T,x.2.2=some T->fd R T)->R w0 w->(∀ p∈F,p.2 w)->(∀ p∈F,∀ w w',R w w'->p.2 w->p.2 w') ->
   oo P ops R w0 Q l a F->wpAny P md ops Q' (n+g) listed a w:=by
 intro n
 induction n with
 | zero =>
  intro l listed a F w z H D N _ _ _ _ f hF _ h; obtain rfl:=List.eq_nil_of_length_eq_zero z; have:listed=S:=t listed H fun j hj=>by
   cases Ak:listed.getD j true
   .obtain⟨x,hx,_⟩:=N j hj Ak
    cases hx
   .rfl
  subst this; rw [Nat.zero_add]; exact hQ a F w f hF h
 | succ n ih =>
  intro l listed a F w z H D N I A J Aa f hF U h; rw [show n+1+g=(n+g)+1 by omega]; have Al:Region.ready md ops listed≠[]:=fun h0=>by
   cases l with
   | nil=>cases z
   | cons x l =>
    simp only [List.map_cons,jA,Bool.and_eq_true] at A; obtain⟨o,ho,hd⟩:=d7.1 A.1; have:x.1∈Region.ready md ops listed:=mem_ready.2 ⟨(D x List.mem_cons_self).2,o,ho,hd⟩; rw [h0] at this
    cases this
  refine⟨fun h0=>absurd h0 Al,fun i hi=>?_⟩; have Am:∃ x∈l,x.1=i:=by
   cases l with
   | nil=>cases z
   | cons y l0 =>
    have hy:=D y List.mem_cons_self; exact N i (H.stays hc hy.1 hy.2 hi) (mem_ready.1 hi).1
  obtain⟨e,he,rfl⟩:=Am; obtain⟨l1,l2,rfl⟩:=List.append_of_mem he; obtain⟨A0,oe,V,Ab⟩:=mem_ready.1 hi; simp only [List.map_append,List.map_cons] at J A I; obtain⟨An,Ao⟩:=nS _ J; have Ap:∀ x∈l1,apartF ops (x.1,x.2.1) (e.1,e.2.1):=fun x hx=>by
   have G:=Ao _ (List.mem_map_of_mem hx); unfold pairF at G; have Aq:=D x (List.mem_append_left _ hx); simp only [V] at G
   cases X:ops[x.1]? with
   | none=>simp only [X] at G; cases G
   | some ox =>
    simp only [X,Bool.or_eq_true,Bool.and_eq_true] at G; rcases G with G|⟨G,h2⟩
    .exfalso
     obtain⟨d,hd,Y⟩:=Array.any_eq_true'.1 G; simp only [Bool.and_eq_true,beq_iff_eq] at Y; have h3:=Ab d hd Y.1; rw [Y.2,getD_both Aq.2] at h3
     cases h3
    .exact⟨ox,oe,X,V,G,by simpa using h2⟩
  have Ac:=mX hR Aj s e l2 l1 a F Ap h; have Ad:=H.set (D e he).1 hi; have Ar:e.1<listed.size:=by
   rw [H.size]; exact(Array.getElem?_eq_some_iff.1 V).1
  have As:∀ x∈l1++l2,x.1≠e.1:=fun x hx O=>by
   rw [List.nodup_append] at I; obtain⟨n1,n2,n3⟩:=I; rcases List.mem_append.1 hx with hx|hx
   .exact n3 _ (List.mem_map_of_mem hx) _ List.mem_cons_self O
   .exact(List.nodup_cons.1 n2).1 (by rw [<-O]; exact List.mem_map_of_mem hx)
  have step:∀ (k:Act) (B:dH) (w':World),R w0 w'->(∀ p∈B,p.2 w')->(∀ p∈B,∀ w w',R w w'->p.2 w->p.2 w')->oo P ops R w0 Q (l1++l2) k B->wpAny P md ops Q' (n+g) (listed.setIfInBounds e.1 true) k w':=fun k B w' At Au Ae Av=>by
   refine ih (l1++l2) _ k B w' (by simp at z ⊢; omega) Ad (fun x hx=>⟨?_,?_⟩) (fun j hj Z=>?_) ?_ ?_ ?_ (fun x hx=>?_) At Au Ae Av
   .exact(D x (by rcases List.mem_append.1 hx with h|h; exact List.mem_append_left _ h; exact List.mem_append_right _ (List.mem_cons_of_mem _ h))).1
   .rw [getD_set_ne true (Ne.symm (As x hx))]
    exact(D x (by rcases List.mem_append.1 hx with h|h; exact List.mem_append_left _ h; exact List.mem_append_right _ (List.mem_cons_of_mem _ h))).2
   .have Af:e.1≠j:=fun O=>by
     subst O; simp [Ar] at Z
    rw [getD_set_ne true Af] at Z; obtain⟨x,hx,Ag⟩:=N j hj Z; refine⟨x,?_,Ag⟩; rcases List.mem_append.1 hx with h|h
    .exact List.mem_append_left _ h
    .rcases List.mem_cons.1 h with rfl|h
     .exact absurd Ag Af
     .exact List.mem_append_right _ h
   .rw [List.map_append]
    rw [List.nodup_append] at I ⊢; obtain⟨n1,n2,n3⟩:=I; exact⟨n1,(List.nodup_cons.1 n2).2,fun x hx y hy=>n3 x hx y (List.mem_cons_of_mem _ hy)⟩
   .rw [List.map_append]
    exact rx _ _ A
   .rw [List.map_append]
    exact An
   .exact Aa x (by rcases List.mem_append.1 hx with h|h; exact List.mem_append_left _ h; exact List.mem_append_right _ (List.mem_cons_of_mem _ h))
  obtain⟨j,ln,T⟩:=e
  cases T with
  | none =>
   obtain⟨o,v,m1,m2,m3,m4⟩:=Ac; exact o5 (C:=R w0) (by unfold gq; rw [m1]; exact m2) f (fun k Aw=>step k F w f hF U Aw) (m3.qOp m1 m4)
  | some T =>
   obtain⟨o,m1,m2,m3,m4,m5⟩:=Ac; have Ax:=Aa _ he T rfl; have K:∀ v w',R w w'->T v w'->wpAny P md ops Q' (n+g) (listed.setIfInBounds j true) (a.put o.dst v) w':=fun v w' Ah Ai =>
    step _ _ w' (hR.trans f Ah) (fun p L=>by
     rcases List.mem_cons.1 L with rfl|L
     .exact Ai
     .exact U p L _ _ Ah (hF p L)) (fun p L=>by
     rcases List.mem_cons.1 L with rfl|L
     .exact fun w1 w2 Ay G=>Ax _ _ _ Ay G
     .exact U p L) (m5 v ⟨w',Ai⟩)
   unfold wpOp; simp only [m1]; rw [if_pos m2]; refine .inl ?_; have E:=m4 w f (fun p L _=>hF p L); unfold Oper.wp; generalize (execOp a.eval o).run P w=r at *
   cases r with
   | ok m w' =>
    cases m <;> simp only [gE] at E <;> simp only [Oper.upon]
    case value u=>exact K u w' E.1 E.2
    case skip=>exact K undef w' E.1 E.2
    case enter f' args =>
     obtain⟨rfl,c⟩:=E; exact c.mono fun e Az ⟨v,he,G,h2⟩=>by subst he; exact K v Az G h2
   | halt q w'=>simp only [gE] at E
theorem pi{Q:Act->dH->Prop} {rest:List Elt} {D:dH}:∀ (r:List Nat) (a:Act) (K:Act->Prop),(∀ i∈r,gq ops i=true)->wpQuiet P ops (R w0) K (r.filterMap (ops[·]?)) a->(∀ E,K E->oo P ops R w0 Q rest E D) ->
  oo P ops R w0 Q (r.map (fun i=>((i,[],none):Elt))++rest) a D
 | [],a,K,_,h,hk=>hk a h
 | i::r,a,K,hc,h,hk=>by
  have A:=hc i List.mem_cons_self; unfold gq at A
  cases B:ops[i]? with
  | none=>rw [B] at A; cases A
  | some o =>
   rw [B] at A; have C:qOp P ops (R w0) i (wpQuiet P ops (R w0) K (r.filterMap (ops[·]?))) a:=by
    unfold qOp; simp only [B]; rw [List.filterMap_cons_some B] at h; exact h
   obtain⟨v,F,G⟩:=yieldsIn_of_qOp B C; exact⟨o,v,B,A,F,pi r _ K (fun j H=>hc j (List.mem_cons_of_mem _ H)) G hk⟩
end
abbrev qL:=List Nat × Nat × List Nat × (Value->World->Prop)
def ly (S:List qL):List Elt:=S.flatMap fun s=>s.1.map (fun i=>((i,[],none):Elt))++[(s.2.1,s.2.2.1,some s.2.2.2)]
def tT (S:List (List Nat × Nat × List Nat)):List (Nat × List Nat):=S.flatMap fun s=>s.1.map (fun i=>(i,[]))++[(s.2.1,s.2.2)]
theorem nt(S:List qL):(ly S).map (fun x=>(x.1,x.2.1))=tT (S.map fun s=>(s.1,s.2.1,s.2.2.1)):=by
 induction S with
 | nil=>rfl
 | cons s S ih =>
  simp only [ly,tT,List.map_cons,List.flatMap_cons,List.map_append] at ih ⊢; rw [ih]; simp
theorem flatF_fst(S:List qL):(ly S).map (·.1)=(tT (S.map fun s=>(s.1,s.2.1,s.2.2.1))).map (·.1):=by
 rw [<-nt,List.map_map]
 rfl
def holdsF (A:List Nat):dH->World->Prop
 | [],_=>True
 | (i,f)::Fs,w=>(A.contains i=true->f w)/\holdsF A Fs w
def allF:dH->World->Prop
 | [],_=>True
 | (_,f)::Fs,w=>f w/\allF Fs w
theorem r9(B:List Nat) (w:World):∀ A,Fits B A w->holdsF B A w
 | [],_=>trivial
 | (i,f)::A,h=>⟨fun hi=>h _ List.mem_cons_self (by simpa using hi),r9 B w A fun p C=>h p (List.mem_cons_of_mem _ C)⟩
theorem t4(w:World):∀ A:dH,(∀ p∈A,p.2 w)->allF A w
 | [],_=>trivial
 | (_,_)::A,h=>⟨h _ List.mem_cons_self,t4 w A fun p B=>h p (List.mem_cons_of_mem _ B)⟩
theorem of_allF(w:World):∀ A:dH,allF A w->∀ p∈A,p.2 w
 | (_,_)::A,h,p,hp=>by
  rcases List.mem_cons.1 hp with rfl|hp
  .exact h.1
  .exact of_allF w A h.2 p hp
def wpFItem (P:Program) (l:List Oper) (i:Nat) (B:List Nat) (T:Value->World->Prop) (w:World) (K:Act->dH->Prop) (A:dH) (a:Act):Prop :=
 ∃ o,l.toArray[i]?=some o/\Region.wanted o (yielded l.toArray a.tmps)=true/\(∃ v w',T v w')/\(∀ w',GR w w'->holdsF B A w'->gE P GR T w' ((execOp a.eval o).run P w'))/\∀ v,(∃ w,T v w)->K (a.put o.dst v) ((i,T v)::A)
def kY (P:Program) (l:List Oper) (w:World) (Q:Act->dH->Prop):List qL->Act->dH->Prop
 | [],a,Fs=>Q a Fs
 | (r,i,ln,T)::rest,a,Fs=>wpQuiet P l.toArray (fun w'=>∃ p:bN,w'=ab w p) (wpFItem P l i ln T w (kY P l w Q rest) Fs) (pick l r) a
theorem bj{P:Program} {l:List Oper} {w:World} {Q:Act->dH->Prop} {r:List Nat} {i:Nat} {A:List Nat} {T:Value->World->Prop} {rest:List qL} {a:Act} {B:dH} (h:wpQuiet P l.toArray (fun w'=>∃ p:bN,w'=ab w p) (wpFItem P l i A T w (kY P l w Q rest) B) (pick l r) a):kY P l w Q ((r,i,A,T)::rest) a B:=h
theorem mg{P:Program} {l:List Oper} {w:World} {Q:Act->dH->Prop}:∀ (S:List qL) (a:Act) (A:dH),(∀ s∈S,∀ i∈s.1,i<l.length/\gq l.toArray i=true)->kY P l w Q S a A->oo P l.toArray GR w Q (ly S) a A
 | [],_,_,_,h=>h
 | (r,i,ln,T)::S,a,A,hS,h=>by
  have h0:=hS _ List.mem_cons_self; unfold kY at h; rw [<-da l r (List.all_eq_true.2 fun j B=>by simpa using (h0 j B).1)] at h; show oo P l.toArray GR w Q ((r.map (fun i=>((i,[],none):Elt))++[(i,ln,some T)])++ly S) a A
  rw [List.append_assoc]; refine pi r a _ (fun j B=>(h0 j B).2) h fun G ⟨o,k1,k2,k3,k4,k5⟩=>?_; exact⟨o,k1,k2,k3,fun w' C D=>k4 w' C (r9 _ _ _ D),fun v E=>mg S _ _ (fun s F=>hS s (List.mem_cons_of_mem _ F)) (k5 v E)⟩
def freeB (ops:Array Oper) (n:Nat) (S:List (List Nat × Nat × List Nat)) (T:List Nat):Bool :=
 (S.all fun s=>s.1.all fun i=>decide (i<n)&&gq ops i)&&T.all (fun i=>decide (i<n))&&Region.noSelect ops&&bq .any ops (Array.replicate n false) ((tT S).map (·.1))&&decide ((tT S).map (·.1)).Nodup&&lG .any ops (tT S)&&decide ((tT S).length+T.length=n)&&qW .any ops T (lay (Array.replicate n false) ((tT S).map (·.1)))
theorem j5{P:Program} {q:Nat} {Q:Exit->Act->World->Prop} {a:Act} {w:World} {l:List Oper} (S:List qL) (T:List Nat) (r:P.follows .mixedOrders=true)
  (d:freeB l.toArray l.length (S.map fun s=>(s.1,s.2.1,s.2.2.1)) T=true) (V:∀ s∈S,fd GR s.2.2.2)
  (h:kY P l w (fun X H=>∀ w',GR w w'->allF H w'->wpList P l.toArray Q (pick l T) X w') S a []):(Code.region q l.toArray true).wp P Q a w:=by
 simp only [freeB,Bool.and_eq_true,decide_eq_true_eq] at d
 obtain⟨⟨⟨⟨⟨⟨⟨t,b2⟩,b3⟩,b4⟩,f⟩,u⟩,y⟩,g⟩:=d
 rw [<-da l T b2] at h
 obtain⟨M,m⟩:=eA ((tT (S.map fun s=>(s.1,s.2.1,s.2.2.1))).map (·.1))
 have A:(ly S).map (·.1)=M:=by rw [flatF_fst,m]
 have D:(ly S).length+T.length=l.length:=by
  rw [<-y,<-nt,List.length_map]
 rw [m] at b4 f g
 have I:=mg S a [] (fun s J i hi=>by
  have:=List.all_eq_true.1 (List.all_eq_true.1 t _ (List.mem_map_of_mem J)) i hi; simpa using this) h
 have B:(Array.replicate l.length false).size=l.toArray.size:=by simp
 have C:jA .any l.toArray M (Array.replicate l.length false)=true:=by
  unfold bq at b4; simp only [Bool.and_eq_true] at b4; exact b4.1
 have E:∀ j∈M,j<l.toArray.size:=by
  have key:∀ (L:List Nat) (G:Array Bool),jA .any l.toArray L G=true->∀ k∈L,k<l.toArray.size:=by
   intro L; induction L with
   | nil=>intro G _ k K; cases K
   | cons k0 L ih =>
    intro G ht k K; simp only [jA,Bool.and_eq_true] at ht; rcases List.mem_cons.1 K with rfl|K
    .obtain⟨o,z,_⟩:=d7.1 ht.1
     exact(Array.getElem?_eq_some_iff.1 z).1
    .exact ih _ ht.2 k K
  exact key M _ C
 refine bL r ?_
 rw [show l.length=(ly S).length+T.length from D.symm]
 rw [show (Array.replicate ((ly S).length+T.length) false)=Array.replicate l.length false by rw [D]]
 refine wpAny_seqF (M:=M) (base:=Array.replicate l.length false) mm (fun a H Y J Z w' b c=>Z w' b (t4 w' H fun p N=>of_allF w' Y c p (J p N))) (Region.noSelect_spec b3) b4 (lay (Array.replicate l.length false) M) (fun listed O R=>?_) (fun a H w' b c Z=>dI T _ a w' g (Z w' b (t4 w' H c))) _ (ly S) _ a [] _ rfl (Inv.refl B) (fun x hx=>⟨by rw [<-A]; exact List.mem_map_of_mem hx,?_⟩) (fun j F _=>by
   rw [<-A] at F; obtain⟨x,hx,rfl⟩:=List.mem_map.1 F; exact⟨x,hx,rfl⟩) (by rw [A]; exact f) (by rw [A]; exact C) (by rw [nt]; exact u) (fun x hx T' U=>?_) (GR.of (Below.refl _ _).drew) (fun p N=>by cases N) (fun p N=>by cases N) I
 .refine Array.ext (by rw [O.size,ji,B]) fun j h1 n=>?_
  have e1:listed[j]=listed.getD j true:=by simp [h1]
  have e2:(lay (Array.replicate l.length false) M)[j]=(lay (Array.replicate l.length false) M).getD j true:=by simp [n]
  rw [e1,e2]; by_cases F:j∈M
  .rw [R j F,dm (by exact n)]
   exact(lay_in M _ j F (by rw [B]; exact E j F)).symm
  .rw [O.out j F,tL M _ j F]
 .have:x.1<l.length:=by
   have:=E x.1 (by rw [<-A]; exact List.mem_map_of_mem hx)
   simpa using this
  simp [this]
 .obtain⟨s,J,hx⟩:=List.mem_flatMap.1 hx
  rcases List.mem_append.1 hx with hx|hx
  .obtain⟨i,_,rfl⟩:=List.mem_map.1 hx
   cases U
  .rw [List.mem_singleton.1 hx] at U
   injection U with U
   rw [<-U]; exact V s J
end Batch
end
section
open Go.RowKit Mem Led
def jtv (t:Txt):Value:=.agg #[.int .i64 3,.int .i64 0,.string (str t),.slice none 0 0,.slice none 0 0]
theorem ip(t:Txt) (W:World):Calls prog 179 #[.string (str t)] W (fun x A=>∃ v,x=.returned v/\GR W A/\v=jtv t) :=
 (jtext_any t W).mono fun _ _ ⟨B,hb⟩=>⟨_,B,GR.of hb,rfl⟩
def gA (a b c d:Txt):List Value:=af ar [bo a,bo b,bo c,bo d]
theorem dP{w:World} {g k n:Nat} {M:List Value} {e:TypeId} (h:Blk w g M e) (A:M.length=n * k):Vs w w.heap.size k (some ⟨g,0,none⟩) n M :=
 ⟨A,fun j u B=>⟨_,rfl,h.lt,by rw [show (⟨g,0,none⟩:Addr).add j=⟨g,j,none⟩ by simp [Addr.add]; intro h; exact h.symm,h.cell]; exact B⟩⟩
def ju (g:Nat) (w:World) (v:JsV):Prop:=∃ (B:Nat) (A x:Txt),v=⟨5,0,[],.slice (some ⟨B,0,none⟩) 4 4,.slice (some ⟨g,0,none⟩) 4 4⟩/\Blk w B (tv fA) 9/\Blk w g (gA tEd A mc x) 197/\l7 A/\l7 x/\A.length<=60/\x.length<=60
theorem ju.keyV{g:Nat} {w:World} {v:JsV} (h:ju g w v):KeyV w.heap.size w v:=by
 obtain⟨D,A,x,rfl,B,C,h⟩:=h
 exact⟨_,_,_,_,A,x,rfl,⟨by omega,by omega,fun h=>by cases h⟩,dP B rfl,dP C rfl,h⟩
theorem ju.chg{g:Nat} {S:Option Nat} {w w':World} {v:JsV} (h:ju g w v) (F:S≠some g) (G:∀ k M,S=some k->Blk w k M 9->False) (D:∀ k,k<w.heap.size->S≠some k->w'.heap[k]?=w.heap[k]?):ju g w' v:=by
 obtain⟨A,B,x,rfl,C,E,h⟩:=h
 refine⟨A,B,x,rfl,?_,?_,h⟩
 .unfold Blk
  rw [D A C.lt (fun e=>G A _ e C)]; exact C
 .unfold Blk
  rw [D g E.lt F]; exact E
theorem ju.below{g:Nat} {w w':World} {v:JsV} (h:ju g w v) (A:eD w w'):ju g w' v:=h.chg (S:=none) (by simp) (fun _ _ h=>by cases h) fun k B _=>A.block k B
theorem jkey_any(k:Led.Jwk) (w:World) (hx:k.x.length<=40) (hk:l7 k.kid) (u:k.kid.length<=60) :
  Calls prog 177 #[.agg #[.string (str k.kid),.string (str k.x)]] w fun e w'=>∃ v:JsV,e=.returned (.agg (ar v).toArray)/\(∃ g,w.heap.size<=g/\ju g w' v)/\eD w w':=by
 obtain⟨W,Y⟩:=eA ((w.alloc (.cells ([.string (str k.kid),.string (str k.x)]:List Value).toArray 54)).alloc (.cells (ar ⟨0,0,[],.slice none 0 0,.slice none 0 0⟩).toArray 197))
 have y:Blk W w.heap.size [.string (str k.kid),.string (str k.x)] 54:=by rw [<-Y]; exact(Blk.new _ _ _).alloc _
 have B1:Blk W (w.heap.size+1) (ar ⟨0,0,[],.slice none 0 0,.slice none 0 0⟩) 197:=by
  have:=Blk.new (w.alloc (.cells ([.string (str k.kid),.string (str k.x)]:List Value).toArray 54)) (ar ⟨0,0,[],.slice none 0 0,.slice none 0 0⟩) 197; rw [<-Y]; simpa using this
 have M:eD w W:=by rw [<-Y]; exact eH.alloc (by simp) _
 have HW:Hid ((w.alloc (.cells #[.string (str k.kid),.string (str k.x)] 54)).alloc (.cells #[.int .i64 0,.int .i64 0,.string ⟨#[]⟩,.slice none 0 0,.slice none 0 0] 197)=W):=hO Y
 clear Y
 have f0:∀ p,(ab W p).cell? ⟨w.heap.size,0,none⟩=some (.string (str k.kid)):=fun p=>(y.below (aa W p)).cell 0
 have f1:∀ p,(ab W p).cell? ⟨w.heap.size,1,none⟩=some (.string (str k.x)):=fun p=>(y.below (aa W p)).cell 1
 have N:Hid (∀ (g c:Nat) (D:World),Bs D D.heap.size (some ⟨g,0,none⟩) k.x.length k.x->Calls prog 198 #[.slice (some ⟨g,0,none⟩) k.x.length c] D (fun x z=>∃ v,x=.returned v/\GR D z/\v=.string (str (B64.enc k.x)))):=hO fun g c D h =>
  (encode_any (some ⟨g,0,none⟩) k.x.length c D.heap.size k.x D h (by omega) eG).mono fun e w' ⟨he,hb⟩=>⟨_,he,GR.of hb,rfl⟩
 have O:=hO (fine_enc k.x)
 have Q:=hO (show (B64.enc k.x).length<=60 by rw [B64.enc_length]; omega)
 obtain⟨J,Aa⟩:=eC (B64.enc k.x)
 rw [Aa.out] at N O Q
 have Z:str tEd=⟨#[69,100,50,53,53,49,57]⟩:=rfl
 have b:str mc=⟨#[79,75,80]⟩:=rfl
 have R:=hO (fun D=>ip tEd D)
 have d:=hO (fun D=>ip k.kid D)
 have S:=hO (fun D=>ip mc D)
 have f:=hO (fun D=>ip J D)
 rw [Z] at R
 rw [b] at S
 clear Z b
 go_enter func177,ntmps177
 go_upto_region 1 with fail
 rw [HW.out]
 clear HW
 refine j5 [([],1,[],fun v w'=>v=jtv tEd),([2,3],4,[],fun v w'=>v=jtv k.kid),([],5,[],fun v w'=>v=jtv mc),([6,7],8,[],fun v w'=>∃ g c,v=.slice (some ⟨g,0,none⟩) k.x.length c/\Bs w' w'.heap.size (some ⟨g,0,none⟩) k.x.length k.x),([],9,[8],fun v w'=>v=.string (str J)),([],10,[],fun v w'=>v=jtv J),([],0,[],fun v w'=>∃ g,v=.slice (some ⟨g,0,none⟩) 4 4/\Blk w' g (tv fA) 9),([],11,[],fun v w'=>∃ g,W.heap.size<=g/\v=.slice (some ⟨g,0,none⟩) 4 4/\Blk w' g (gA tEd k.kid mc J) 197)] [12,13] (by kernel_rfl) (by kernel_rfl) (by
  intro x hx; simp only [List.mem_cons,List.not_mem_nil,or_false] at hx; rcases hx with rfl|rfl|rfl|rfl|rfl|rfl|rfl|rfl
  .exact ax fun v w w' hb h=>h
  .exact ax fun v w w' hb h=>h
  .exact ax fun v w w' hb h=>h
  .exact ax fun v w w' hb ⟨g,c,e,h⟩=>⟨g,c,e,dF h hb⟩
  .exact ax fun v w w' hb h=>h
  .exact ax fun v w w' hb h=>h
  .exact ax fun v w w' hb ⟨g,e,h⟩=>⟨g,e,h.below hb⟩
  .exact ax fun v w w' hb ⟨g,hg,e,h⟩=>⟨g,hg,e,h.below hb⟩) ?_
 refine bj ?_
 simp only [pick,List.getD_cons_zero,List.getD_cons_succ]
 refine wpQuiet_nil ?_
 refine⟨_,rfl,rfl,?_,?_,?_⟩
 .exact⟨_,W,rfl⟩
 .intro B C _
  go_simp
  exact⟨rfl,R.out B⟩
 rintro v1 ⟨_,rfl⟩
 refine bj ?_
 simp only [pick,List.getD_cons_zero,List.getD_cons_succ,List.getElem_toArray,List.getElem_cons_succ,List.getElem_cons_zero,Act.put,List.setIfInBounds_toArray,List.set_cons_zero,List.set_cons_succ]
 repeat (go_big_quiet_step (fail))
 refine wpQuiet_nil ?_
 refine⟨_,rfl,rfl,?_,?_,?_⟩
 .exact⟨_,W,rfl⟩
 .intro B C _
  go_simp
  exact⟨rfl,d.out B⟩
 rintro v2 ⟨_,rfl⟩
 refine bj ?_
 simp only [pick,List.getElem_toArray,List.getElem_cons_succ,List.getElem_cons_zero,Act.put,List.setIfInBounds_toArray,List.set_cons_zero,List.set_cons_succ]
 refine wpQuiet_nil ?_
 refine⟨_,rfl,rfl,?_,?_,?_⟩
 .exact⟨_,W,rfl⟩
 .intro B C _
  go_simp
  exact⟨rfl,S.out B⟩
 rintro v3 ⟨_,rfl⟩
 refine bj ?_
 simp only [pick,List.getD_cons_zero,List.getD_cons_succ,List.getElem_toArray,List.getElem_cons_succ,List.getElem_cons_zero,Act.put,List.setIfInBounds_toArray,List.set_cons_zero,List.set_cons_succ]
 repeat (go_big_quiet_step (fail))
 refine wpQuiet_nil ?_
 refine⟨_,rfl,rfl,?_,?_,?_⟩
 .obtain⟨wc,cc,_,E,_⟩:=kO k.x W
  exact⟨_,wc,_,cc,rfl,E⟩
 .intro B C _
  obtain⟨wc,cc,Ag,E,Ab⟩:=kO k.x B; go_simp
  exact⟨GR.of Ab,_,⟨cc,rfl⟩,E⟩
 rintro v4 ⟨_,g1,c1,rfl,_⟩
 refine bj ?_
 simp only [pick,List.getElem_toArray,List.getElem_cons_succ,List.getElem_cons_zero,Act.put,List.setIfInBounds_toArray,List.set_cons_zero,List.set_cons_succ]
 refine wpQuiet_nil ?_
 refine⟨_,rfl,rfl,?_,?_,?_⟩
 .exact⟨_,W,rfl⟩
 .rintro B C ⟨h8,_⟩
  obtain⟨g2,c2,he,E⟩:=h8 rfl; injection he with he1 he2 he3
  injection he1 with he1
  injection he1 with he1
  subst he1; go_simp
  exact⟨rfl,N.out g1 _ B E⟩
 rintro v5 ⟨_,rfl⟩
 refine bj ?_
 simp only [pick,List.getElem_toArray,List.getElem_cons_succ,List.getElem_cons_zero,Act.put,List.setIfInBounds_toArray,List.set_cons_zero,List.set_cons_succ]
 refine wpQuiet_nil ?_
 refine⟨_,rfl,rfl,?_,?_,?_⟩
 .exact⟨_,W,rfl⟩
 .intro B C _
  go_simp
  exact⟨rfl,f.out B⟩
 rintro v6 ⟨_,rfl⟩
 refine bj ?_
 simp only [pick,List.getElem_toArray,List.getElem_cons_succ,List.getElem_cons_zero,Act.put,List.setIfInBounds_toArray,List.set_cons_zero,List.set_cons_succ]
 refine wpQuiet_nil ?_
 refine⟨_,rfl,rfl,?_,?_,?_⟩
 .exact⟨_,_,_,rfl,Blk.new W (tv fA) _⟩
 .intro B C _
  go_simp
  exact⟨GR.of eH,B.heap.size,rfl,Blk.new B (tv fA) _⟩
 rintro v7 ⟨_,j,rfl,_⟩
 refine bj ?_
 simp only [pick,List.getElem_toArray,List.getElem_cons_zero,Act.put,List.setIfInBounds_toArray,List.set_cons_zero,List.set_cons_succ]
 unfold jtv
 refine wpQuiet_nil ?_
 refine⟨_,rfl,rfl,?_,?_,?_⟩
 .exact⟨_,_,_,eG,rfl,Blk.new W (gA tEd k.kid mc J) _⟩
 .intro B C _
  go_simp
  exact⟨GR.of eH,B.heap.size,C.below.size,rfl,Blk.new B (gA tEd k.kid mc J) _⟩
 rintro v8 ⟨_,X,Ac,rfl,_⟩ w6 l hF
 obtain⟨h8,h7,_⟩:=hF
 obtain⟨_,T,G⟩:=h7
 obtain⟨_,_,U,H⟩:=h8
 injection T with T
 injection T with T
 injection T with T
 subst T
 injection U with U
 injection U with U
 injection U with U
 subst U
 have V:=l.below
 have r:=B1.below V
 have F:=M.trans (V.mono M.size)
 obtain⟨v,s⟩:∃ v:JsV,v=⟨5,0,[],.slice (some ⟨j,0,none⟩) 4 4,.slice (some ⟨X,0,none⟩) 4 4⟩:=⟨_,rfl⟩
 obtain⟨I,t⟩:=kn r (vs:=ar v) rfl rfl (ia _ (by rw [s]; rfl) (by rw [s]; rfl))
 have Ad:j≠w.heap.size+1:=fun e=>by
  rw [e] at G; have:=G.symm.trans r; simp at this
 have Ae:X≠w.heap.size+1:=fun e=>by
  rw [e] at H; have:=H.symm.trans r; injection this with this
  injection this with this
  have:=congrArg Array.size this; simp [gA,af,ar] at this
 have A:Chg [w.heap.size+1] w6 (w6.setCells (w.heap.size+1) 0 (ar v)):=(Chg.refl _ _).setCells _ (.inl (by simp))
 obtain⟨m,o⟩:=eA (w6.setCells (w.heap.size+1) 0 (ar v))
 rw [o] at I t A
 have K:Blk m j (tv fA) 9:=G.chg A (by simpa using Ad)
 have L:Blk m X (gA tEd k.kid mc J) 197:=H.chg A (by simpa using Ae)
 have q:eD w m:=F.trans ⟨A.os,A.tape,A.output,A.size,fun i hi=>A.block i (Nat.lt_of_lt_of_le hi F.size) (by simp; omega)⟩
 have Af:(stJs (.pointer (some ⟨w.heap.size+1,0,none⟩)) (.agg #[.int .i64 5,.int .i64 0,.string ⟨#[]⟩,.slice (some ⟨j,0,none⟩) 4 4,.slice (some ⟨X,0,none⟩) 4 4])).run prog w6=.ok () m:=by
  rw [s] at I; exact I
 have hH:=t.has (n:=5) rfl
 have hA:=t.arr (n:=5) rfl
 have hK:ju X m v:=⟨j,k.kid,J,s,K,L,hk,O.out,u,Q.out⟩
 have HK:=hO hK
 clear hK I o A G H K L r t l V F R d S f N O Q f0 f1 y B1
 go_wp2_with fail
 (try rw [am])
 (try go_wp2)
 refine bodyPost_ret (dr (P:=prog) Tryz.results177 _ _ (w.heap.size+1) 0 5 _ rfl underlying197 rfl mW hH) rfl ?_
 exact⟨v,congrArg (fun a=>Ending.returned (Value.agg a)) hA,⟨X,Nat.le_trans M.size Ac,HK.out⟩,q⟩
end
section
open Go.RowKit Mem Led
theorem infoJs:(prog.info? 197).map (fun i=>(i.zero,i.size,i.bytes))=some (some (.agg #[.int .i64 0,.int .i64 0,.string ⟨#[]⟩,.slice none 0 0,.slice none 0 0]),5,80):=by kernel_rfl
theorem inner_fine:∀ n,n<256->Ids.inner (UInt8.ofNat n)=true->(UInt8.ofNat n).toNat<=126/\32<=(UInt8.ofNat n).toNat/\(UInt8.ofNat n).toNat≠34/\(UInt8.ofNat n).toNat≠92:=by decide +kernel
theorem domain_fine{t:Txt} (h:Ids.domain t=true):l7 t/\t.length<=300:=by
 unfold Ids.domain Ids.bD at h
 simp only [Bool.and_eq_true,decide_eq_true_eq] at h
 have key:∀ c∈t,c.toNat<=126/\32<=c.toNat/\c.toNat≠34/\c.toNat≠92:=fun c A=>by
  have B:=inner_fine c.toNat c.toNat_lt; rw [UInt8.ofNat_toNat] at B; exact B (List.all_eq_true.1 h.1.2.1 c A)
 exact⟨⟨fun c A=>(key c A).1,fun c A=>(key c A).2⟩,by omega⟩
theorem pmay_spec{b:Led.Bundle} (h:Led.eS b=true):l7 b.domain/\b.domain.length<=300/\(∃ m:Nat,b.number=(m:Int)/\m<=1000000000000000)/\b.keys.length<=8/\∀ k∈b.keys,k.x.length<=40/\l7 k.kid/\k.kid.length<=60:=by
 unfold Led.eS aI at h
 simp only [Bool.and_eq_true,decide_eq_true_eq] at h
 obtain⟨⟨⟨⟨A,H,B⟩,C⟩,D⟩,_⟩:=h
 obtain⟨E,F⟩:=domain_fine A
 refine⟨E,F,⟨b.number.toNat,by omega,by omega⟩,C,fun k G=>?_⟩
 have:=List.all_eq_true.1 D k G
 simp only [Bool.and_eq_true,beq_iff_eq] at this
 rw [this.2]
 exact⟨by omega,fine_pname _,by rw [Sha.pname_len]; omega⟩
theorem own_kids{w:World} {base n g:Nat} {v:Value} {A:List JsV} {k:JsV} (h:w.ownsRow base 197 5 v n (af ar A)) (E:∀ k∈A,k.kind=5) (h0:A≠[]) (F:ju g w k):v.ownBlock≠some g:=by
 obtain⟨M,G,x,rfl,_,H,_⟩:=F
 rcases h.2 with⟨rfl,_⟩|⟨N,c,I,rfl,_,J,_,_,_,B⟩
 .simp [Value.ownBlock]
 .intro C
  simp only [Value.ownBlock,Option.some.injEq] at C; subst C; have e:=H.symm.trans J; injection e with e
  injection e with e
  rw [<-e] at B
  cases A with
  | nil=>exact h0 rfl
  | cons k1 A =>
   have O:=E k1 List.mem_cons_self; have K:=h.1; rw [bT,List.length_append,eh] at K; have D:=congrArg (fun L=>L[0]?) B; simp only [bT] at D; rw [List.getElem?_append_left (by rw [eh]; omega),List.getElem?_take_of_lt (by omega)] at D
   simp [gA,af,ar,bo] at D
   omega
theorem keys_grown{w w':World} {base n:Nat} {v:Value} {D:List JsV} {xs:List Value} (h:w.ownsRow base 197 5 v n xs) (E:w.grownBy w' v.ownBlock) (B:∀ k∈D,∃ g,ju g w k/\v.ownBlock≠some g):∀ k∈D,∃ g,ju g w' k:=fun k F=>by
 obtain⟨g,G,H⟩:=B k F
 exact⟨g,G.chg (S:=v.ownBlock) H (fun q M C I=>aC h I (by decide) C) fun q C A=>E.block q C (fun e=>A e.symm)⟩
theorem ldJwk_blk{w:World} {g:Nat} {k:Led.Jwk} {t:TypeId} (h:Blk w g (aV k) t):(qa (.pointer (some ⟨g,0,none⟩))).run prog w=.ok (.agg (aV k).toArray) w :=
 cl underlying54 rfl ph rfl fun j u A=>by rw [h.cell,Nat.zero_add]; exact A
theorem tP(b:Led.Bundle) (kv:Value) (w:World) (AK:a8 aV 2 w kv b.keys) (hd:b.domain.length<=9223372036854775807) (Z:b.keys.length<=1000) (A1:∀ k∈b.keys,k.kid.length<=1000000/\k.x.length<=1000000) (hT:Tab Sha.kkL w) :
  Calls prog 149 #[.agg (ai (b,kv)).toArray] w fun e w'=>(∃ s,e=.returned (.tuple #[.string s,.int .i64 (if Led.eS b then 0 else 1)]))/\eD w w':=by
 obtain⟨A,n,c,rfl,hf,hv⟩:=AK
 have hl:=hv.len cm (by omega)
 obtain⟨W,hW⟩:=eA (w.alloc (.cells ([.string (str b.domain),.int .i64 b.number,.slice A n c]:List Value).toArray 45))
 have B:Blk W w.heap.size [.string (str b.domain),.int .i64 b.number,.slice A n c] 45:=by rw [<-hW]; exact Blk.new _ _ _
 have R:eD w W:=eF hW
 have E:=may_any b (.slice A n c) W ⟨A,n,c,rfl,hf,hv.below R⟩ hd Z A1 (hT.below R)
 have u:(fz (.pointer (some ⟨w.heap.size,0,none⟩))).run prog W=.ok (.agg #[.string (str b.domain),.int .i64 b.number,.slice A n c]) W:=di B rfl
 have E:Calls prog 176 #[.agg #[.string (str b.domain),.int .i64 b.number,.slice A n c]] W fun e w'=>e=.returned (.bool (Led.eS b))/\eD W w':=E
 have HW:=hO hW
 clear hW
 show Calls prog 149 #[.agg #[.string (str b.domain),.int .i64 b.number,.slice A n c]] w _
 cases y:Led.eS b
 .rw [y] at E
  clear y; go_enter func149,ntmps149
  go_upto_region 1 with fail
  rw [show w.alloc (.cells #[.string (str b.domain),.int .i64 b.number,.slice A n c] 45)=W from HW.out]; go_wp2_with fail
  refine E.mono ?_; rintro e D ⟨rfl,z⟩; go_wp2_with fail
  go_ret2; exact⟨⟨_,rfl⟩,R.trans (z.mono R.size)⟩
 .rw [y] at E
  obtain⟨AL,A2,⟨nb,A3,Ba⟩,AM,AN⟩:=pmay_spec y; rw [A3] at E u B HW ⊢; clear y A3 hT hd A1; rw [hl] at AM; obtain⟨iJ,AO,AP,AQ,AR⟩:=al infoJs; rw [if_pos rfl]; go_enter func149,ntmps149
  go_upto_region 1 with fail
  rw [show w.alloc (.cells #[.string (str b.domain),.int .i64 (nb:Int),.slice A n c] 45)=W from HW.out]; go_wp2_with fail
  refine E.mono ?_; rintro e D ⟨rfl,z⟩; have B1:=B.below z; have Al:eD w D:=R.trans (z.mono R.size); have bn:=Blk.new D (ar ⟨0,0,[],.slice none 0 0,.slice none 0 0⟩) 197; obtain⟨T,BK⟩:=kn bn (vs:=ar ⟨4,0,[],.slice none 0 0,.slice none 0 0⟩) rfl rfl (ia _ rfl rfl); obtain⟨w2,Ar⟩:=eA ((D.alloc (.cells (ar ⟨0,0,[],.slice none 0 0,.slice none 0 0⟩).toArray 197)).setCells D.heap.size 0 (ar ⟨4,0,[],.slice none 0 0,.slice none 0 0⟩)); have Aa:Chg [] D w2:=by rw [<-Ar]; exact((Chg.refl _ _).alloc _).setCells _ (.inr eG)
  rw [Ar] at T BK; have As:=Aa.below (fun _ h=>by cases h); have Am:eD w w2:=Al.trans (As.mono Al.size); have Ab:(stJs (.pointer (some ⟨D.heap.size,0,none⟩)) (.agg #[.int .i64 4,.int .i64 0,.string ⟨#[]⟩,.slice none 0 0,.slice none 0 0])).run prog (D.alloc (.cells #[.int .i64 0,.int .i64 0,.string ⟨#[]⟩,.slice none 0 0,.slice none 0 0] 197))=.ok () w2:=T; have B2:=B1.below As; have d2:w2.cell? ⟨w.heap.size,2,none⟩=some (.slice A n c):=B2.cell 2; have Ac:w2.ownsRow (D.heap.size+1) 197 5 (.slice none 0 0) 0 (af ar []):=World.ownsRow_nil _ _ _ _; have Bd:w.heap.size<D.heap.size:=B1.lt; clear E u B HW T bn Aa Ar As z R B1; go_wp2_with fail
  clear Ab; go_loopw [6,14] (fun _ i wx=>∃ (j:Nat) (Kv:Value) (Ks:List JsV),j<=n/\i=.int .i64 (j:Int)/\eD w wx/\Blk wx w.heap.size [.string (str b.domain),.int .i64 (nb:Int),.slice A n c] 45/\Blk wx D.heap.size (ar ⟨4,0,[],.slice none 0 0,Kv⟩) 197/\Hid (wx.ownsRow (D.heap.size+1) 197 5 Kv j (af ar Ks))/\Hid (∀ k∈Ks,k.kind=5/\∃ g,ju g wx k)/\Ks.length=j) (fun _ i _=>n - (intOf i).toNat)
  case atStart=>exact⟨0,_,[],by omega,rfl,Am,B2,BK,hO Ac,hO (fun k Z=>by cases Z),rfl⟩
  case round =>
   clear Am B2 BK Ac d2; obtain⟨j,Kv,Ks,hj,rfl,m,BB,BK,G,Ad,Be⟩:=hrel; obtain⟨wx,AS⟩:∃ wx,wx=wr:=⟨_,rfl⟩; subst AS; by_cases Bf:j<n
   .have A4:j<b.keys.length:=by omega
    obtain⟨bk,ok,rfl,Bg,u⟩:=p8 hv A4; have An:=u wx m; have HK:=hO (AN _ (List.getElem_mem A4)); generalize b.keys[j]=k at *; have bn:=Blk.new wx [.string ⟨#[]⟩,.string ⟨#[]⟩] 54; obtain⟨T,BN⟩:=mR bn rfl (vs:=[.string (str k.kid),.string (str k.x)]) rfl (lP k); obtain⟨t,At⟩:=eA ((wx.alloc (.cells ([.string ⟨#[]⟩,.string ⟨#[]⟩]:List Value).toArray 54)).setCells wx.heap.size 0 [.string (str k.kid),.string (str k.x)]); have Aa:Chg [] wx t:=by rw [<-At]; exact((Chg.refl _ _).alloc _).setCells _ (.inr eG)
    rw [At] at T BN; have U:=Aa.below (fun _ h=>by cases h); have Ao:eD w t:=m.trans (U.mono m.size); have Au:(qa (.pointer (some ⟨bk,ok+j * 2,none⟩))).run prog wx=.ok (.agg #[.string (str k.kid),.string (str k.x)]) wx:=An; have Ab:(stJwk (.pointer (some ⟨wx.heap.size,0,none⟩)) (.agg #[.string (str k.kid),.string (str k.x)])).run prog (wx.alloc (.cells #[.string ⟨#[]⟩,.string ⟨#[]⟩] 54))=.ok () t:=T; have AT:(j:Int)<(n:Int):=by omega
    have f0:∀ p,(qa (.pointer (some ⟨wx.heap.size,0,none⟩))).run prog (ab t p)=.ok (.agg #[.string (str k.kid),.string (str k.x)]) (ab t p):=fun p=>ldJwk_blk (BN.below (aa t p)); have Av:=BK.below U; have f1:∀ p,(ab t p).cell? ⟨D.heap.size,4,none⟩=some Kv:=fun p=>(Av.below (aa t p)).cell 4; have A5:Hid (∀ J,Calls prog 177 #[.agg #[.string (str k.kid),.string (str k.x)]] J (fun x A6=>∃ v,x=.returned v/\GR J A6/\(∃ C g,J.heap.size<=g/\v=.agg #[.int .i64 5,.int .i64 0,.string ⟨#[]⟩,.slice (some ⟨C,0,none⟩) 4 4,.slice (some ⟨g,0,none⟩) 4 4]/\ju g A6 ⟨5,0,[],.slice (some ⟨C,0,none⟩) 4 4,.slice (some ⟨g,0,none⟩) 4 4⟩))):=hO fun J =>
     (jkey_any k J HK.out.1 HK.out.2.1 HK.out.2.2).mono fun e w' ⟨v,he,⟨g,hg,hG⟩,hb⟩=>by
      obtain⟨C,AU,x,rfl,h⟩:=hG; exact⟨_,he,GR.of hb,C,g,hg,rfl,C,AU,x,rfl,h⟩
    clear u An T bn Aa At BN BK HK; go_upto_region 7 with fail
    clear Au Ab; have Aw:∀ g,Kv.ownBlock=some g->g<wx.heap.size:=fun g hg=>(G.out.lt g hg).2; have Ae:=hO (ae G.out U eG); have Ap:Hid (∀ k∈Ks,k.kind=5/\∃ g,ju g t k/\Kv.ownBlock≠some g):=hO fun q d=>by
     obtain⟨h1,g,h2⟩:=Ad.out q d; refine⟨h1,g,h2.below U,own_kids G.out (fun k Z=>(Ad.out k Z).1) (fun e=>by rw [e] at d; cases d) h2⟩
    have Bb:=U.size; have A7:=BB.below U; clear G Ad BB U m; refine aN [([0,1,2],(3,fun v w'=>∃ C g,t.heap.size<=g/\v=.agg #[.int .i64 5,.int .i64 0,.string ⟨#[]⟩,.slice (some ⟨C,0,none⟩) 4 4,.slice (some ⟨g,0,none⟩) 4 4]/\ju g w' ⟨5,0,[],.slice (some ⟨C,0,none⟩) 4 4,.slice (some ⟨g,0,none⟩) 4 4⟩)),([],(4,fun v w'=>∃ C g H,t.heap.size<=g/\t.heap.size<=H/\v=.slice (some ⟨H,0,none⟩) 1 1/\Blk w' H (ar ⟨5,0,[],.slice (some ⟨C,0,none⟩) 4 4,.slice (some ⟨g,0,none⟩) 4 4⟩) 197/\ju g w' ⟨5,0,[],.slice (some ⟨C,0,none⟩) 4 4,.slice (some ⟨g,0,none⟩) 4 4⟩))] [5,6,7] (by kernel_rfl) (by kernel_rfl) (by
     intro x hx; simp only [List.mem_cons,List.not_mem_nil,or_false] at hx; rcases hx with rfl|rfl
     .exact ax fun v w w' hb ⟨C,g,hg,e,h⟩=>⟨C,g,hg,e,h.below hb⟩
     .exact ax fun v w w' hb ⟨C,g,H,hg,hg8,e,hB,h⟩=>⟨C,g,H,hg,hg8,e,hB.below hb,h.below hb⟩) ?_
    refine aH ?_; simp only [pick,List.getD_cons_zero,List.getD_cons_succ]; repeat (go_big_quiet_step (fail))
    refine wpQuiet_nil ?_; refine⟨_,rfl,rfl,?_,?_⟩
    .intro N F _
     go_simp
     refine⟨rfl,(A5.out N).mono ?_⟩; rintro e w' ⟨v,he,hG,C,g,hg,hv,hK⟩; exact⟨v,he,hG,C,g,Nat.le_trans F.below.size hg,hv,hK⟩
    rintro v1 ⟨_,C,g,hg,rfl,_⟩; refine aH ?_; simp only [pick,List.getElem_toArray,List.getElem_cons_succ,List.getElem_cons_zero,Act.put,List.setIfInBounds_toArray,List.set_cons_zero,List.set_cons_succ]; refine wpQuiet_nil ?_; refine⟨_,rfl,rfl,?_,?_⟩
    .rintro N F ⟨_,Bh,g',Bi,he,hK⟩
     injection he with he
     injection he with he
     injection he with _ he
     injection he with _ he
     injection he with _ he
     injection he with he7 he
     injection he with he8 _
     injection he7 with he7 _ _
     injection he7 with he7
     injection he7 with he7
     injection he8 with he8 _ _
     injection he8 with he8
     injection he8 with he8
     subst he7 he8; go_simp
     refine⟨GR.of eH,C,g,hg,N.heap.size,F.below.size,rfl,Blk.new N _ _,hK.below eH⟩
    rintro v2 ⟨_,Bj,gb,H,Bk,hg8,rfl,_⟩ w6 Af hF; have K:=Af.below; obtain⟨_,Ax,gc,AV,Bl,_,he,L,A8⟩:=hF; injection he with he _ _
    injection he with he
    injection he with he
    subst he; have Bc:=K.size; have I:=ae Ae.out K eG; have f:Hid (∀ k∈Ks++[⟨5,0,[],.slice (some ⟨Ax,0,none⟩) 4 4,.slice (some ⟨gc,0,none⟩) 4 4⟩],k.kind=5/\∃ g,ju g w6 k/\Kv.ownBlock≠some g):=hO fun q d=>by
     rcases List.mem_append.1 d with d|d
     .obtain⟨h1,g,h2,h3⟩:=Ap.out q d
      exact⟨h1,g,h2.below K,h3⟩
     .rw [List.mem_singleton] at d
      subst d; exact⟨rfl,gc,A8,fun hg=>by have:=Aw gc hg; omega⟩
    have Ay:=Av.below K; have A9:=A7.below K; have l:=Ao.trans (K.mono Ao.size); obtain⟨kJ,Aj⟩:∃ kJ:JsV,kJ=⟨5,0,[],.slice (some ⟨Ax,0,none⟩) 4 4,.slice (some ⟨gc,0,none⟩) 4 4⟩:=⟨_,rfl⟩; rw [<-Aj] at L f; have AA:=ia kJ (by rw [Aj]; rfl) (by rw [Aj]; rfl)
    have AB:Vs w6 w6.heap.size 5 (some ⟨H,0,none⟩) 1 (ar kJ):=dP L rfl; have AW:j+1<=maxLen:=by unfold maxLen; omega
    have AC:D.heap.size+1<=w6.heap.size:=Ay.lt; clear Aj A8 L Ap Ae Av A7 Af f0 f1 A5; go_wp2_with (at_builtin; go_must (refine au w6 rfl (.tmp 19) (.tmp 22) 195 rfl (D.heap.size+1) 197 iJ (.agg #[.int .i64 0,.int .i64 0,.string ⟨#[]⟩,.slice none 0 0,.slice none 0 0]) 5 80 underlying195 AO AP AQ AR rfl (by omega) _ _ _ rfl I _ _ 1 _ _ rfl AB AA AW (by omega) AC ?_))
    intro O Q w7 Ag Bm Bn Az; have Ak:Below (D.heap.size+1) w6 w7:=Mem.ay (Below.refl (D.heap.size+1) w6) Az AC I; have Ah:=keys_grown I Az (fun k Z=>(f.out k Z).2); have Aq:=hO (fun k Z=>(f.out k Z).1); have o:Blk w7 D.heap.size (ar ⟨4,0,[],.slice none 0 0,Kv⟩) 197:=by unfold Blk; rw [Ak.block _ (by omega)]; exact Ay
    have AD:Blk w7 w.heap.size [.string (str b.domain),.int .i64 (nb:Int),.slice (some ⟨bk,ok,none⟩) n c] 45:=by unfold Blk; rw [Ak.block _ (by omega)]; exact A9
    have q4:w7.cell? ⟨D.heap.size,4,none⟩=some Kv:=o.cell 4; have Bo:=o.froz 4; have AX:Blk (w7.setCell ⟨D.heap.size,4,none⟩ (.slice O (j+1) Q)) D.heap.size (ar ⟨4,0,[],.slice none 0 0,.slice O (j+1) Q⟩) 197:=o.set 4 (.slice O (j+1) Q); have AY:=AD.set_ne (p:=⟨D.heap.size,4,none⟩) (by simp; omega) (.slice O (j+1) Q)
    have V:=ownsRow_setCell_below Ag (a:=⟨D.heap.size,4,none⟩) (by simp) (.slice O (j+1) Q); have AZ:=hO fun k Z=>by
     obtain⟨g,hK⟩:=Ah k Z; refine(⟨Aq.out k Z,g,hK.chg (S:=some D.heap.size) (w':=w7.setCell ⟨D.heap.size,4,none⟩ (.slice O (j+1) Q)) ?_ ?_ ?_⟩:k.kind=5/\∃ g,ju g (w7.setCell ⟨D.heap.size,4,none⟩ (.slice O (j+1) Q)) k)
     .intro e
      injection e with e
      obtain⟨_,_,_,_,_,h8,_⟩:=hK; rw [<-e] at h8; have:=h8.symm.trans o; injection this with this
      injection this with this
      have:=congrArg Array.size this; simp [gA,af,ar] at this
     .intro q M e d
      injection e with e
      subst e; have:=d.symm.trans o; simp at this
     .intro q _ d
      exact heap_setCell_other w7 ⟨D.heap.size,4,none⟩ q _ (fun e=>d (by rw [e]))
    have AE:=(l.trans (Ak.mono (by omega))).setCell (p:=⟨D.heap.size,4,none⟩) (by simp; omega) (.slice O (j+1) Q)
    have HR:=hO (show af ar (Ks++[kJ])=af ar Ks++ar kJ by unfold af; simp)
    rw [<-HR.out] at V; have A0:=hO V; clear Ah Aq Ag V o AD Az I AB Ak Ay A9 f l; go_wp2; (try rw [am])
    (try go_wp2)
    go_roundw
    case rel=>exact⟨j+1,_,Ks++[kJ],by omega,by go_num,AE,AY,AX,A0,AZ,by simp; omega⟩
    case measure=>simp [intOf]; omega
   .have AT:¬ (j:Int)<(n:Int):=by omega
    have Bp:=hO (show j=n by omega); obtain⟨O,Q,rfl,r1,r2⟩:=ak G.out; have f0:∀ p,(ab wx p).cell? ⟨w.heap.size,0,none⟩=some (.string (str b.domain)):=fun p=>(BB.below (aa wx p)).cell 0; have f1:∀ p,(ab wx p).cell? ⟨w.heap.size,1,none⟩=some (.int .i64 (nb:Int)):=fun p=>(BB.below (aa wx p)).cell 1; have f2:∀ p,(mC (.pointer (some ⟨D.heap.size,0,none⟩))).run prog (ab wx p)=.ok (.agg #[.int .i64 4,.int .i64 0,.string ⟨#[]⟩,.slice none 0 0,.slice O j Q]) (ab wx p):=fun p=>bM (BK.below (aa wx p)); have AF:=hO (fun J=>ip b.domain J); have AG:Hid (∀ C H J,eD wx J->Blk J C (tv d9) 9->Blk J H (af ar [bo b.domain,⟨4,0,[],.slice none 0 0,.slice O j Q⟩,⟨2,(nb:Int),[],.slice none 0 0,.slice none 0 0⟩]) 197 ->
      Calls prog 178 #[.agg #[.int .i64 5,.int .i64 0,.string ⟨#[]⟩,.slice (some ⟨C,0,none⟩) 3 3,.slice (some ⟨H,0,none⟩) 3 3]] J (fun e w'=>∃ v,e=.returned v/\GR J w'/\∃ s,v=.tuple #[.string s,.int .i64 0])):=hO fun C H J hb Ai L=>by
     have I:=ae G.out hb eG; have AH:BunV J.heap.size J ⟨5,0,[],.slice (some ⟨C,0,none⟩) 3 3,.slice (some ⟨H,0,none⟩) 3 3⟩ :=
      ⟨_,_,O,3,3,j,Q,b.domain,nb,Ks,rfl,⟨by omega,by omega,fun h=>by cases h⟩,dP Ai rfl,dP L rfl,AL,A2,by omega,by omega,Vs.of_own I,fun k Z=>by
       obtain⟨_,g,hK⟩:=Ad.out k Z; exact(hK.below hb).keyV⟩
     have AI:=jwrite_any ⟨5,0,[],.slice (some ⟨C,0,none⟩) 3 3,.slice (some ⟨H,0,none⟩) 3 3⟩ J AH; have AJ:Calls prog 178 #[.agg #[.int .i64 5,.int .i64 0,.string ⟨#[]⟩,.slice (some ⟨C,0,none⟩) 3 3,.slice (some ⟨H,0,none⟩) 3 3]] J (fun e w'=>(∃ s,e=.returned (.tuple #[.string s,.int .i64 0]))/\eD J w'):=AI; exact AJ.mono fun e w' ⟨⟨s,he⟩,hb⟩=>⟨_,he,GR.of hb,s,rfl⟩
    clear BB BK G Ad; go_upto_region 9 with fail
    refine j5 [([1,2],3,[],fun v w'=>v=jtv b.domain),([4,5,6,7],8,[],fun v w'=>∃ g,v=.slice (some ⟨g,0,none⟩) 3 3/\Blk w' g (af ar [bo b.domain,⟨4,0,[],.slice none 0 0,.slice O j Q⟩,⟨2,(nb:Int),[],.slice none 0 0,.slice none 0 0⟩]) 197),([],0,[],fun v w'=>∃ g,v=.slice (some ⟨g,0,none⟩) 3 3/\Blk w' g (tv d9) 9),([],9,[0,8],fun v w'=>∃ C H,v=.agg #[.int .i64 5,.int .i64 0,.string ⟨#[]⟩,.slice (some ⟨C,0,none⟩) 3 3,.slice (some ⟨H,0,none⟩) 3 3]/\Blk w' C (tv d9) 9/\Blk w' H (af ar [bo b.domain,⟨4,0,[],.slice none 0 0,.slice O j Q⟩,⟨2,(nb:Int),[],.slice none 0 0,.slice none 0 0⟩]) 197),([],10,[9],fun v w'=>∃ s,v=.tuple #[.string s,.int .i64 0]),([],11,[],fun v w'=>∃ s,v=.string s),([],12,[],fun v w'=>v=.int .i64 0),([],13,[],fun v w'=>∃ s,v=.string s)] [14] (by kernel_rfl) (by kernel_rfl) (by
     intro x hx; simp only [List.mem_cons,List.not_mem_nil,or_false] at hx; rcases hx with rfl|rfl|rfl|rfl|rfl|rfl|rfl|rfl
     .exact ax fun v w w' hb h=>h
     .exact ax fun v w w' hb ⟨g,e,h⟩=>⟨g,e,h.below hb⟩
     .exact ax fun v w w' hb ⟨g,e,h⟩=>⟨g,e,h.below hb⟩
     .exact ax fun v w w' hb ⟨C,H,e,h7,h8⟩=>⟨C,H,e,h7.below hb,h8.below hb⟩
     .exact ax fun v w w' hb h=>h
     .exact ax fun v w w' hb h=>h
     .exact ax fun v w w' hb h=>h
     .exact ax fun v w w' hb h=>h) ?_
    refine bj ?_; simp only [pick,List.getD_cons_zero,List.getD_cons_succ]; repeat (go_big_quiet_step (fail))
    refine wpQuiet_nil ?_; refine⟨_,rfl,rfl,?_,?_,?_⟩
    .exact⟨_,wx,rfl⟩
    .intro N F _
     go_simp
     exact⟨rfl,AF.out N⟩
    rintro v1 ⟨_,rfl⟩; refine bj ?_; simp only [pick,List.getD_cons_zero,List.getD_cons_succ,List.getElem_toArray,List.getElem_cons_succ,List.getElem_cons_zero,Act.put,List.setIfInBounds_toArray,List.set_cons_zero,List.set_cons_succ]; repeat (go_big_quiet_step (fail))
    refine wpQuiet_nil ?_; unfold jtv; refine⟨_,rfl,rfl,?_,?_,?_⟩
    .exact⟨_,_,_,rfl,Blk.new wx _ _⟩
    .intro N F _
     go_simp
     exact⟨GR.of eH,N.heap.size,rfl,Blk.new N (af ar [bo b.domain,⟨4,0,[],.slice none 0 0,.slice O j Q⟩,⟨2,(nb:Int),[],.slice none 0 0,.slice none 0 0⟩]) _⟩
    rintro v2 ⟨_,H,rfl,_⟩; refine bj ?_; simp only [pick,List.getElem_toArray,List.getElem_cons_succ,List.getElem_cons_zero,Act.put,List.setIfInBounds_toArray,List.set_cons_zero,List.set_cons_succ]; refine wpQuiet_nil ?_; refine⟨_,rfl,rfl,?_,?_,?_⟩
    .exact⟨_,_,_,rfl,Blk.new wx (tv d9) _⟩
    .intro N F _
     go_simp
     exact⟨GR.of eH,N.heap.size,rfl,Blk.new N (tv d9) _⟩
    rintro v3 ⟨_,C,rfl,_⟩; refine bj ?_; simp only [pick,List.getElem_toArray,List.getElem_cons_zero,Act.put,List.setIfInBounds_toArray,List.set_cons_zero,List.set_cons_succ]; refine wpQuiet_nil ?_; refine⟨_,rfl,rfl,?_,?_,?_⟩
    .exact⟨_,(wx.alloc (.cells (tv d9).toArray 9)).alloc (.cells (af ar [bo b.domain,⟨4,0,[],.slice none 0 0,.slice O j Q⟩,⟨2,(nb:Int),[],.slice none 0 0,.slice none 0 0⟩]).toArray 197),wx.heap.size,wx.heap.size+1,rfl,(Blk.new wx _ _).alloc _,by
      have:=Blk.new (wx.alloc (.cells (tv d9).toArray 9)) (af ar [bo b.domain,⟨4,0,[],.slice none 0 0,.slice O j Q⟩,⟨2,(nb:Int),[],.slice none 0 0,.slice none 0 0⟩]) 197; simpa using this⟩
    .rintro N F ⟨h7,h8,_⟩
     obtain⟨_,X,Ai⟩:=h7 rfl; obtain⟨_,Y,L⟩:=h8 rfl; injection X with X
     injection X with X
     injection X with X
     subst X; injection Y with Y
     injection Y with Y
     injection Y with Y
     subst Y; go_simp
     exact⟨GR.of (Below.refl _ _),_,_,rfl,Ai,L⟩
    rintro v9 ⟨_,Ax,AV,rfl,_⟩; refine bj ?_; simp only [pick,List.getElem_toArray,List.getElem_cons_succ,List.getElem_cons_zero,Act.put,List.setIfInBounds_toArray,List.set_cons_zero,List.set_cons_succ]; refine wpQuiet_nil ?_; refine⟨_,rfl,rfl,?_,?_,?_⟩
    .exact⟨_,wx,⟨#[]⟩,rfl⟩
    .rintro N F ⟨h9,_⟩
     obtain⟨Bq,Br,r,Ai,L⟩:=h9 rfl; injection r with r
     injection r with r
     injection r with _ r
     injection r with _ r
     injection r with _ r
     injection r with X r
     injection r with Y _
     injection X with X _ _
     injection X with X
     injection X with X
     injection Y with Y _ _
     injection Y with Y
     injection Y with Y
     subst X Y; go_simp
     exact⟨rfl,AG.out _ _ N F.below Ai L⟩
    rintro Bt ⟨_,s,rfl⟩; refine bj ?_; simp only [pick,List.getElem_toArray,List.getElem_cons_succ,List.getElem_cons_zero,Act.put,List.setIfInBounds_toArray,List.set_cons_zero,List.set_cons_succ]; refine wpQuiet_nil ?_; refine⟨_,rfl,rfl,?_,?_,?_⟩
    .exact⟨_,wx,⟨#[]⟩,rfl⟩
    .intro N F _
     go_simp
     exact(by first|exact⟨GR.of (Below.refl _ _),⟨_,rfl⟩⟩|exact GR.of (Below.refl _ _))
    rintro Bu ⟨_,s1,rfl⟩; refine bj ?_; simp only [pick,List.getElem_toArray,List.getElem_cons_succ,List.getElem_cons_zero,Act.put,List.setIfInBounds_toArray,List.set_cons_zero,List.set_cons_succ]; refine wpQuiet_nil ?_; refine⟨_,rfl,rfl,?_,?_,?_⟩
    .exact⟨_,wx,rfl⟩
    .intro N F _
     go_simp
     exact(by first|exact⟨GR.of (Below.refl _ _),rfl⟩|exact GR.of (Below.refl _ _))
    rintro Bv ⟨_,rfl⟩; refine bj ?_; simp only [pick,List.getElem_toArray,List.getElem_cons_succ,List.getElem_cons_zero,Act.put,List.setIfInBounds_toArray,List.set_cons_zero,List.set_cons_succ]; refine wpQuiet_nil ?_; refine⟨_,rfl,rfl,?_,?_,?_⟩
    .exact⟨_,wx,⟨#[]⟩,rfl⟩
    .intro N F _
     go_simp
     exact(by first|exact⟨GR.of (Below.refl _ _),⟨_,rfl⟩⟩|exact GR.of (Below.refl _ _))
    rintro Bw ⟨_,s',rfl⟩ w6 Af _; have K:=Af.below; have l:=m.trans (K.mono m.size); clear Af K f0 f1 f2 AF AG; go_wp2; (try rw [am])
    (try go_wp2)
    go_ret2; exact⟨⟨_,rfl⟩,l⟩
end
section
open Go.RowKit Mem Led
theorem bundle_any(b:Led.Bundle) (kv:Value) (w:World) (C:a8 aV 2 w kv b.keys) (hd:b.domain.length<=9223372036854775807) (G:b.keys.length<=1000) (E:∀ k∈b.keys,k.kid.length<=1000000/\k.x.length<=1000000) (H:Tab Sha.kkL w) :
  Calls prog 107 #[.agg (ai (b,kv)).toArray] w fun e w'=>e=.returned (.bool (Led.eS b))/\eD w w':=by
 obtain⟨W,D⟩:=eA (w.alloc (.cells (ai (b,kv)).toArray 45))
 have B:Blk W w.heap.size (ai (b,kv)) 45:=by rw [<-D]; exact Blk.new _ _ _
 have A:eD w W:=eF D
 have I:=di B rfl
 have h:=tP b kv W (C.below A) hd G E (H.below A)
 have J:=hO D
 clear D C B
 cases F:Led.eS b
 all_goals
  rw [F] at h; clear F; generalize (ai (b,kv)).toArray=X at *; go_enter func107,ntmps107
  go_upto_region 1 with fail
  rw [J.out]; go_wp2_with fail
  refine h.mono ?_; rintro e L ⟨⟨s,rfl⟩,K⟩; go_wp2; go_ret; exact⟨rfl,A.trans (K.mono A.size)⟩
theorem Led.does_kind{ok A:Bool} {L:Led.Ledger} {o:Led.Op} (h:o.kind=12->ok=A):does ok L o=does A L o:=by
 by_cases B:o.kind=12
 .rw [h B]
 .unfold does
  simp only [B,if_false]
theorem iw(cs:List Value) (L:Led.Ledger) (E:List (Led.Entry × Value)) (U:List (Led.Bundle × Value)) (o:Led.Op) (sv kv:Value) (w:World) (J:cZ w cs L E U) (K:L.Wf) (B:Sized o) (A:o.kind<=100) (C:bm w sv o.entry.sels) (D:a8 aV 2 w kv o.bundle.keys)
  (F:∀ k∈o.bundle.keys,k.kid.length<=1000000/\k.x.length<=1000000) (M:Tab Sha.kkL w) :
  Calls prog 14 #[.agg cs.toArray,.agg (ah o sv kv).toArray] w (iG (fun r=>r=does (Led.eS o.bundle) L o) L w):=by
 refine(apply_any (fun ok=>ok=Led.eS o.bundle) cs L E U o sv kv w J K B A C D (fun N G O H=>?_)).mono ?_
 .exact(bundle_any o.bundle G N H B.ud B.ul F (M.below O)).mono fun e w' ⟨I,h2⟩=>⟨_,rfl,I,h2⟩
 .rintro e w' ⟨r,⟨ok,I,rfl⟩,h2⟩
  exact⟨_,does_kind I,h2⟩
theorem new_opv(w:World) (cs:List Value) (h:cs.length=24) (D:∀ v∈cs,v.oneCell'=true) :
  ∃ A,(sV (.pointer (some ⟨w.heap.size,0,none⟩)) (.agg cs.toArray)).run prog (w.alloc (.cells #[.int .i64 0,.int .i64 0,.string ⟨#[]⟩,.int .i64 0,.string ⟨#[]⟩,.string ⟨#[]⟩,.int .i64 0,.slice none 0 0,.string ⟨#[]⟩,.string ⟨#[]⟩,.int .i64 0,.bool false,.string ⟨#[]⟩,.string ⟨#[]⟩,.int .i64 0,.int .i64 0,.string ⟨#[]⟩,.string ⟨#[]⟩,.string ⟨#[]⟩,.int .i64 0,.int .i64 0,.string ⟨#[]⟩,.int .i64 0,.slice none 0 0] 47))=.ok () A/\Blk A w.heap.size cs 47/\eD w A:=by
 have E:=Blk.new w (ah lv (.slice none 0 0) (.slice none 0 0)) 47
 obtain⟨B,F⟩:=pd E rfl h D
 have C:Chg [] w ((w.alloc (.cells (ah lv (.slice none 0 0) (.slice none 0 0)).toArray 47)).setCells w.heap.size 0 cs):=((Chg.refl _ _).alloc _).setCells _ (.inr eG)
 exact⟨_,B,F,C.below (fun _ h=>by cases h)⟩
theorem nw{R:Txt->Txt->Prop} {o:Led.Op} {A:List Jwk} (B:∀ x r,R x r->r.length<=60) (h:dR R (o.bundle.keys.take 9) A):Sized (jY o A)/\∀ k∈(jY o A).bundle.keys,k.kid.length<=1000000/\k.x.length<=1000000:=by
 have f:∀ s:Txt,(few s).length<=9223372036854775807:=fun s=>by have:=mI s; omega
 have C:=h.length
 rw [List.length_take] at C
 refine⟨⟨f _,f _,f _,?_,?_,f _,f _,f _,f _,?_⟩,fun k D=>?_⟩
 .intro x hx
  obtain⟨y,_,rfl⟩:=List.mem_map.1 hx; exact f _
 .show ((o.entry.sels.take 6).map few).length<=1000
  rw [List.length_map,List.length_take]; omega
 .show A.length<=1000
  omega
 .have:=h.len B k D
  omega
structure ed (g:Nat) (w:World) (cs:List Value) (L:Led.Ledger) (E:List (Led.Entry × Value)) (U:List (Led.Bundle × Value)):Prop where
 blk:Blk w g cs 30
 len:cs.length=6
 at_:cZ w cs L E U
theorem ed.below{g:Nat} {w w':World} {cs:List Value} {L:Led.Ledger} {E:List (Led.Entry × Value)} {U:List (Led.Bundle × Value)} (h:ed g w cs L E U) (A:eD w w'):ed g w' cs L E U :=
 ⟨h.blk.below A,h.len,h.at_.below A⟩
theorem ed.load{g:Nat} {w:World} {cs:List Value} {L:Led.Ledger} {E:List (Led.Entry × Value)} {U:List (Led.Bundle × Value)} (h:ed g w cs L E U):(jJ (.pointer (some ⟨g,0,none⟩))).run prog w=.ok (.agg cs.toArray) w:=dD h.blk h.len
theorem ed.new(w:World):ed w.heap.size (w.alloc (.cells (aE (.slice none 0 0)).toArray 30)) (aE (.slice none 0 0)) none' [] []:=by
 have e:∀ {α:Type} (enc:α->List Value) (k:Nat) (W:World),a8 enc k W (.slice none 0 0) []:=fun enc k W=>⟨none,0,0,rfl,⟨by omega,by omega,fun _=>rfl⟩,Es.empty _ _⟩
 exact⟨Blk.new _ _ _,rfl,⟨⟨_,_,_,_,_,_,rfl,e _ _ _,e _ _ _,⟨none,0,0,rfl,⟨by omega,by omega,fun _=>rfl⟩,Ts.empty _ _⟩,e _ _ _,e _ _ _,e _ _ _⟩,rfl,rfl,fun p A=>(by cases A),fun p A=>(by cases A)⟩⟩
theorem jU{ok:Bool} {L:Led.Ledger} {o:Led.Op}:qM L (does ok L o)=(does ok L o).1:=by
 unfold qM
 split
 .rfl
 .rcases does_or ok L o with h|h
  .exact h.symm
  .contradiction
end
section
open Go.RowKit Mem Led
def Nop (w:World) (v:Value):Prop:=∀ a n c,v=.slice (some a) n c->0<n->∃ M e,Blk w a.block M e/\e≠47
theorem Nop.below{w w':World} {v:Value} (h:Nop w v) (A:eD w w'):Nop w' v:=fun a n c e B=>by
 obtain⟨M,t,C,D⟩:=h a n c e B
 exact⟨M,t,C.below A,D⟩
theorem Nop.turn{w w':World} {v:Value} {g:Nat} {M:List Value} {t:TypeId} (h:Nop w v) (B:Chg [g] w w') (C:Blk w' g M t) (ht:t≠47):Nop w' v:=fun a n c e D=>by
 obtain⟨E,F,G,H⟩:=h a n c e D
 by_cases A:a.block=g
 .exact⟨M,t,by rw [A]; exact C,ht⟩
 .exact⟨E,F,G.chg B (by simpa using A),H⟩
theorem Nop.own{w:World} {b k n:Nat} {e:TypeId} {v:Value} {xs:List Value} (h:w.ownsRow b e k v n xs) (A:e≠47):Nop w v:=fun a m c e' _=>by
 rcases aW h with⟨rfl,_⟩|⟨g,C,M,rfl,_,_,B,_⟩
 .cases e'
 .injection e' with e' _ _
  injection e' with e'
  subst e'; exact⟨M,e,B,A⟩
def NT (base:Nat) (w:World) (v:Value) (L:List Txt):Prop:=(∃ A n c,v=.slice A n c/\Fit n c A/\Vs w base 1 A n (tv L)/\Nop w v)\/w.ownsRow base 9 1 v L.length (af aj L)
def NK (base:Nat) (w:World) (v:Value) (L:List Led.Jwk):Prop:=∃ A n c,v=.slice A n c/\Fit n c A/\Vs w base 2 A n (af aV L)/\Nop w v
def Far (base:Nat) (S:List Nat) (w:World):Prop:=∀ s∈S,base<=s/\∀ M,¬ Blk w s M 9
section
variable {base:Nat} {S:List Nat} {w w':World} {v:Value} {L:List Txt} {K:List Led.Jwk}
theorem Far.none:Far base [] w:=fun s A=>by cases A
theorem Far.one{g:Nat} {M:List Value} {e:TypeId} (B:base<=g) (h:Blk w g M e) (C:e≠9):Far base [g] w:=fun s A=>by
 rw [List.mem_singleton] at A
 subst A
 refine⟨B,fun M' D=>C ?_⟩
 have:=h.symm.trans D
 injection this with this
 injection this
theorem Vs.chg_below{size n:Nat} {A:Option Addr} {xs:List Value} (h:Vs w base size A n xs) (B:Chg S w w') (C:∀ s∈S,base<=s) (E:base<=w.heap.size):Vs w' base size A n xs :=
 h.keep fun p F=>World.cell?_of_block (B.block p.block (by omega) (fun D=>by have:=C _ D; omega))
theorem iz{b k n:Nat} {e:TypeId} {xs:List Value} (h:w.ownsRow b e k v n xs) (D:Chg S w w') (E:∀ g,v.ownBlock=some g->g∉S):w'.ownsRow b e k v n xs:=by
 refine⟨h.1,?_⟩
 rcases h.2 with F|⟨g,cap,A,B,G,C,r⟩
 .exact .inl F
 .refine .inr ⟨g,cap,A,B,G,?_,r⟩
  rw [D.block g (Array.getElem?_eq_some_iff.1 C).1 (E g (by rw [B]; rfl))]
  exact C
theorem own_far{n:Nat} {xs:List Value} {b:Nat} (h:w.ownsRow b 9 1 v n xs) (B:Far base S w) (g:Nat) (A:v.ownBlock=some g):g∉S:=fun C=>by
 rcases aW h with⟨rfl,_⟩|⟨E,c,M,rfl,_,_,D,_⟩
 .simp [Value.ownBlock] at A
 .simp only [Value.ownBlock,Option.some.injEq] at A
  subst A; exact(B _ C).2 _ D
theorem Nop.chg_below{size n c:Nat} {A:Option Addr} {xs:List Value} (h0:Nop w (.slice A n c)) (h:Vs w base size A n xs) (C:0<size) (D:Chg S w w') (E:∀ s∈S,base<=s):Nop w' (.slice A n c):=fun a m F e B=>by
 obtain⟨M,t,G,H⟩:=h0 a m F e B
 injection e with e1 e2 e3
 subst e1 e2
 obtain⟨g,I,e4,J,_⟩:=Vs.lit h (by rw [h.len]; exact Nat.mul_pos B C)
 injection e4 with e4
 subst e4
 exact⟨M,t,G.chg D (fun K=>by have:=E _ K; simp only at this; omega),H⟩
theorem NT.chg(h:NT base w v L) (B:Chg S w w') (C:Far base S w) (F:base<=w.heap.size):NT base w' v L:=by
 rcases h with⟨A,n,c,rfl,G,E,H⟩|h
 .exact .inl ⟨A,n,c,rfl,G,Vs.chg_below E B (fun s D=>(C s D).1) F,H.chg_below E (by omega) B (fun s D=>(C s D).1)⟩
 .exact .inr (iz h B (own_far h C))
theorem NK.chg(h:NK base w v K) (B:Chg S w w') (C:∀ s∈S,base<=s) (E:base<=w.heap.size):NK base w' v K:=by
 obtain⟨A,n,c,rfl,F,D,G⟩:=h
 exact⟨A,n,c,rfl,F,Vs.chg_below D B C E,G.chg_below D (by omega) B C⟩
theorem NT.at(h:NT base w v L) (B:base<=w.heap.size):bm w v L:=by
 rcases h with⟨A,n,c,rfl,C,D,_⟩|h
 .exact⟨A,n,c,rfl,C,D.mono B⟩
 .exact dg h
theorem NK.at(h:NK base w v K) (B:base<=w.heap.size):a8 aV 2 w v K:=by
 obtain⟨A,n,c,rfl,C,D,_⟩:=h
 exact⟨A,n,c,rfl,C,D.mono B⟩
theorem NT.old(h:bm w v L) (B:Nop w v):NT w.heap.size w v L:=by
 obtain⟨A,n,c,rfl,C,D⟩:=h
 exact .inl ⟨A,n,c,rfl,C,D,B⟩
theorem NK.old(h:a8 aV 2 w v K) (B:Nop w v):NK w.heap.size w v K:=by
 obtain⟨A,n,c,rfl,C,D⟩:=h
 exact⟨A,n,c,rfl,C,D,B⟩
theorem NT.nop(h:NT base w v L):Nop w v:=by
 rcases h with⟨_,_,_,_,_,_,h⟩|h
 .exact h
 .exact Nop.own h (by decide)
theorem NK.nop(h:NK base w v K):Nop w v:=by
 obtain⟨_,_,_,_,_,_,h⟩:=h
 exact h
theorem NT.one(h:NT base w v L):v.oneCell'=true:=by
 rcases h with⟨A,n,c,rfl,_⟩|h
 .rfl
 .obtain⟨A,c,rfl,_⟩:=dy h
  rfl
theorem NK.one(h:NK base w v K):v.oneCell'=true:=by
 obtain⟨A,n,c,rfl,_⟩:=h
 rfl
end
def fl (w:World) (cs:List Value) (E:List (Led.Entry × Value)) (U:List (Led.Bundle × Value)):Prop:=(∀ v∈cs,Nop w v)/\(∀ p∈E,Nop w p.2)/\∀ p∈U,Nop w p.2
theorem fl.below{w w':World} {cs:List Value} {E:List (Led.Entry × Value)} {U:List (Led.Bundle × Value)} (h:fl w cs E U) (A:eD w w'):fl w' cs E U :=
 ⟨fun v C=>(h.1 v C).below A,fun p B=>(h.2.1 p B).below A,fun p B=>(h.2.2 p B).below A⟩
theorem fl.turn{w w':World} {cs:List Value} {E:List (Led.Entry × Value)} {U:List (Led.Bundle × Value)} {g:Nat} {M:List Value} {t:TypeId} (h:fl w cs E U) (A:Chg [g] w w') (B:Blk w' g M t) (ht:t≠47):fl w' cs E U :=
 ⟨fun v D=>(h.1 v D).turn A B ht,fun p C=>(h.2.1 p C).turn A B ht,fun p C=>(h.2.2 p C).turn A B ht⟩
theorem cQ{w w':World} {r:Option Nat} (h:w.grownBy w' r):Chg (r.toList) w w' :=
 ⟨h.os,h.tape,h.output,h.size,fun k A B=>h.block k A (fun e=>B (by rw [<-e]; simp))⟩
structure Rk (base:Nat) (w:World) (vE vN vB vJ vK vU:Value) (L:Led.Ledger) (E:List (Led.Entry × Value)) (U:List (Led.Bundle × Value)):Prop where
 oE:w.ownsRow base 36 5 vE E.length (af ag E)
 oN:w.ownsRow base 40 5 vN L.nodes.length (af ac L.nodes)
 oB:w.ownsRow base 9 1 vB L.bans.length (af aj L.bans)
 oJ:w.ownsRow base 38 4 vJ L.joins.length (af ao L.joins)
 oK:w.ownsRow base 42 4 vK L.keys.length (af aq L.keys)
 oU:w.ownsRow base 45 3 vU U.length (af ai U)
 ents:E.map Prod.fst=L.entries
 buns:U.map Prod.fst=L.bundles
 sels:∀ p∈E,NT base w p.2 p.1.sels
 keyss:∀ p∈U,NK base w p.2 p.1.keys
section
variable {base:Nat} {w w':World} {vE vN vB vJ vK vU:Value} {L:Led.Ledger} {E:List (Led.Entry × Value)} {U:List (Led.Bundle × Value)}
theorem Rk.at(h:Rk base w vE vN vB vJ vK vU L E U) (B:base<=w.heap.size):cZ w [vE,vN,vB,vJ,vK,vU] L E U :=
 ⟨⟨vE,vN,vB,vJ,vK,vU,rfl,aY h.oE,aY h.oN,dg h.oB,aY h.oJ,aY h.oK,aY h.oU⟩,h.ents,h.buns,fun p A=>(h.sels p A).at B,fun p A=>(h.keyss p A).at B⟩
theorem Rk.ones(h:Rk base w vE vN vB vJ vK vU L E U):∀ v∈[vE,vN,vB,vJ,vK,vU],v.oneCell'=true:=by
 have key:∀ {e:TypeId} {k n:Nat} {v:Value} {xs:List Value},w.ownsRow base e k v n xs->v.oneCell'=true:=fun B=>by
  obtain⟨A,c,rfl,_⟩:=ak B; rfl
 intro v B
 simp only [List.mem_cons,List.not_mem_nil,or_false] at B
 rcases B with rfl|rfl|rfl|rfl|rfl|rfl
 .exact key h.oE
 .exact key h.oN
 .exact key h.oB
 .exact key h.oJ
 .exact key h.oK
 .exact key h.oU
theorem Rk.nops(h:Rk base w vE vN vB vJ vK vU L E U):fl w [vE,vN,vB,vJ,vK,vU] E U:=by
 refine⟨fun v B=>?_,fun p A=>(h.sels p A).nop,fun p A=>(h.keyss p A).nop⟩
 simp only [List.mem_cons,List.not_mem_nil,or_false] at B
 rcases B with rfl|rfl|rfl|rfl|rfl|rfl
 .exact Nop.own h.oE (by decide)
 .exact Nop.own h.oN (by decide)
 .exact Nop.own h.oB (by decide)
 .exact Nop.own h.oJ (by decide)
 .exact Nop.own h.oK (by decide)
 .exact Nop.own h.oU (by decide)
theorem Wk.nops(h:Wk base w vE vN vB vJ vK vU L E U):fl w [vE,vN,vB,vJ,vK,vU] E U:=by
 refine⟨fun v B=>?_,fun p A=>Nop.own (h.sels p A).1 (by decide),fun p A=>Nop.own (h.keyss p A) (by decide)⟩
 simp only [List.mem_cons,List.not_mem_nil,or_false] at B
 rcases B with rfl|rfl|rfl|rfl|rfl|rfl
 .exact Nop.own h.oE (by decide)
 .exact Nop.own h.oN (by decide)
 .exact Nop.own h.oB (by decide)
 .exact Nop.own h.oJ (by decide)
 .exact Nop.own h.oK (by decide)
 .exact Nop.own h.oU (by decide)
theorem Rk.chg{S:List Nat} (h:Rk base w vE vN vB vJ vK vU L E U) (A:Chg S w w') (C:Far base S w) (F:base<=w.heap.size) (B:∀ v∈[vE,vN,vJ,vK,vU],∀ g,v.ownBlock=some g->g∉S):Rk base w' vE vN vB vJ vK vU L E U :=
 ⟨iz h.oE A (B vE (by simp)),iz h.oN A (B vN (by simp)),iz h.oB A (own_far h.oB C),iz h.oJ A (B vJ (by simp)),iz h.oK A (B vK (by simp)),iz h.oU A (B vU (by simp)),h.ents,h.buns,
  fun p D=>(h.sels p D).chg A C F,fun p D=>(h.keyss p D).chg A (fun s G=>(C s G).1) F⟩
theorem Rk.below(h:Rk base w vE vN vB vJ vK vU L E U) (B:eD w w') (A:base<=w.heap.size):Rk base w' vE vN vB vJ vK vU L E U :=
 h.chg (S:=[]) (Chg.of_below B) Far.none A (fun _ _ _ _=>by simp)
end
theorem store_ent{w:World} {g:Nat} {cs vs:List Value} {t:TypeId} (h:Blk w g cs t) (A:cs.length=5) (B:vs.length=5) (D:∀ v∈vs,v.oneCell'=true) :
  (stEnt (.pointer (some ⟨g,0,none⟩)) (.agg vs.toArray)).run prog w=.ok () (w.setCells g 0 vs)/\Blk (w.setCells g 0 vs) g vs t:=by
 have E:=bE (P:=prog) w 36 g 0 5 me vs.toArray ⟨by simpa using B,by simpa using D⟩ (ev h A) (fun j _=>h.froz _)
 have C:=iy vs w g 0 cs t h (by omega)
 simp [B,<-A] at C
 exact⟨E,C⟩
end
section
open Go.RowKit Mem Led
theorem ot{w w':World} {b k n:Nat} {e:TypeId} {u:Value} {xs:List Value} {r:Option Nat} (h:w.ownsRow b e k u n xs) (B:w.grownBy w' r) (C:∀ g,u.ownBlock=some g->r≠some g):w'.ownsRow b e k u n xs :=
 iz h (cQ B) fun g A D=>C g A (by simpa using D)
theorem Blk.older{w w':World} {g B:Nat} {cs:List Value} {t:TypeId} (h:Blk w g cs t) (A:Below B w w') (C:g<B):Blk w' g cs t:=by
 unfold Blk
 rw [A.block _ C]
 exact h
theorem rcopy_any(cs:List Value) (L:Led.Ledger) (E:List (Led.Entry × Value)) (U:List (Led.Bundle × Value)) (w:World) (h:cZ w cs L E U) (hs:L.Small) (BT:∀ p∈U,Nop w p.2) :
  Calls prog 39 #[.agg cs.toArray] w fun e w'=>∃ vE vN vB vJ vK vU Z,e=.returned (.agg #[vE,vN,vB,vJ,vK,vU])/\Rk w.heap.size w' vE vN vB vJ vK vU L Z U/\eD w w':=by
 obtain⟨⟨vE,vN,vB,vJ,vK,vU,rfl,hE,hN,hB,hJ,hK,hU⟩,q,Aa,An,r⟩:=h
 obtain⟨AE,nE,cE,rfl,fE,eE⟩:=hE
 obtain⟨AN,nN,cN,rfl,fN,eN⟩:=hN
 obtain⟨AB,nB,cB,rfl,fB,eB⟩:=hB
 obtain⟨AJ,Y,cJ,rfl,fJ,eJ⟩:=hJ
 obtain⟨AK,X,cK,rfl,fK,eK⟩:=hK
 obtain⟨AU,nU,cU,rfl,fU,eU⟩:=hU
 have lE:=eE.len aZ (by omega)
 have lN:=eN.len aR (by omega)
 have lB:L.bans.length=nB:=by have:=eB.len; omega
 have lJ:=eJ.len a9 (by omega)
 have lK:=eK.len aP (by omega)
 have lU:=eU.len aU (by omega)
 have zE:nE<=1000:=by have h1:=hs.e; rw [<-q,List.length_map] at h1; omega
 have zN:nN<=1000:=by have h1:=hs.n; omega
 have zB:nB<=1000:=by have h1:=hs.b; omega
 have zJ:Y<=1000:=by have h1:=hs.j; omega
 have zK:X<=1000:=by have h1:=hs.k; omega
 have zU:nU<=1000:=by have h1:=hs.u; rw [<-Aa,List.length_map] at h1; omega
 have BH:=hO lE
 have HL:=hO (show L.nodes.length=nN/\L.bans.length=nB/\L.joins.length=Y/\L.keys.length=X/\U.length=nU from⟨lN,lB,lJ,lK,lU⟩)
 have AG:=hO q
 have AH:=hO Aa
 have BU:=hO An
 have AI:=hO (show ∀ p∈U,NK w.heap.size w p.2 p.1.keys from fun p C=>NK.old (r p C) (BT p C))
 clear BT
 have CG:Hid (∀ p∈E,p.1.sels.length<=1000):=hO fun p C=>hs.s _ (by rw [<-q]; exact List.mem_map.2 ⟨p,C,rfl⟩)
 have BV:=hO (oH (w:=w) (U:=U) r)
 obtain⟨iE,CH,e0,e1,e2⟩:=al jN
 obtain⟨iN,CI,n0,n1,n2⟩:=al lj
 obtain⟨iS,BW,s0,s1,s2⟩:=al li
 obtain⟨iJ,CJ,j0,j1,j2⟩:=al mE
 obtain⟨iK,CK,k0,k1,k2⟩:=al jM
 obtain⟨iU,CL,u0,u1,u2⟩:=al ll
 obtain⟨W,hW⟩:=eA (((w.alloc (.cells ([.slice AE nE cE,.slice AN nN cN,.slice AB nB cB,.slice AJ Y cJ,.slice AK X cK,.slice AU nU cU]:List Value).toArray 30)).alloc (.cells (aE (.slice none 0 0)).toArray 30)).alloc (.cells (aE (.slice none 0 0)).toArray 30))
 have B0:Blk W w.heap.size [.slice AE nE cE,.slice AN nN cN,.slice AB nB cB,.slice AJ Y cJ,.slice AK X cK,.slice AU nU cU] 30:=by rw [<-hW]; exact((Blk.new _ _ _).alloc _).alloc _
 have B1:Blk W (w.heap.size+1) (aE (.slice none 0 0)) 30:=by
  have:=(Blk.new (w.alloc (.cells ([.slice AE nE cE,.slice AN nN cN,.slice AB nB cB,.slice AJ Y cJ,.slice AK X cK,.slice AU nU cU]:List Value).toArray 30)) (aE (.slice none 0 0)) 30).alloc (.cells (aE (.slice none 0 0)).toArray 30); rw [<-hW]; simpa using this
 have B2:Blk W (w.heap.size+2) [.slice none 0 0,.slice none 0 0,.slice none 0 0,.slice none 0 0,.slice none 0 0,.slice none 0 0] 30:=by
  have:=Blk.new ((w.alloc (.cells ([.slice AE nE cE,.slice AN nN cN,.slice AB nB cB,.slice AJ Y cJ,.slice AK X cK,.slice AU nU cU]:List Value).toArray 30)).alloc (.cells (aE (.slice none 0 0)).toArray 30)) (aE (.slice none 0 0)) 30; rw [<-hW]; simp at this
  exact this
 have BX:eD w W:=by rw [<-hW]; exact((eH.alloc (by simp) _).alloc (by simp; omega) _)
 have HW:Hid (((w.alloc (.cells #[.slice AE nE cE,.slice AN nN cN,.slice AB nB cB,.slice AJ Y cJ,.slice AK X cK,.slice AU nU cU] 30)).alloc (.cells #[.slice none 0 0,.slice none 0 0,.slice none 0 0,.slice none 0 0,.slice none 0 0,.slice none 0 0] 30)).alloc (.cells #[.slice none 0 0,.slice none 0 0,.slice none 0 0,.slice none 0 0,.slice none 0 0,.slice none 0 0] 30)=W):=hO hW
 have CM:w.heap.size+3<=W.heap.size:=B2.lt
 clear hW q Aa An r hs lE lN lB lJ lK lU fE fN fB fJ fK fU
 show Calls prog 39 #[.agg #[.slice AE nE cE,.slice AN nN cN,.slice AB nB cB,.slice AJ Y cJ,.slice AK X cK,.slice AU nU cU]] w _
 go_enter func39,ntmps39
 go_upto_region 2 with fail
 rw [HW.out]
 clear HW
 go_wp2_with fail
 go_loopw [4,5,6] (fun i _ _ wx=>∃ (j:Nat) (v:Value) (Z:List (Led.Entry × Value)),j<=nE/\i=.int .i64 (j:Int)/\eD w wx/\Blk wx w.heap.size [.slice AE nE cE,.slice AN nN cN,.slice AB nB cB,.slice AJ Y cJ,.slice AK X cK,.slice AU nU cU] 30/\Blk wx (w.heap.size+1) (aE (.slice none 0 0)) 30/\Blk wx (w.heap.size+2) [v,.slice none 0 0,.slice none 0 0,.slice none 0 0,.slice none 0 0,.slice none 0 0] 30 /\
   Hid (wx.ownsRow (w.heap.size+3) 36 5 v j (af ag Z))/\Hid (Z.map Prod.fst=(E.map Prod.fst).take j)/\Hid (∀ p∈Z,wx.ownsRow (w.heap.size+3) 9 1 p.2 p.1.sels.length (af aj p.1.sels))) (fun i _ _ _=>nE - (intOf i).toNat)
 case atStart=>exact⟨0,_,[],by omega,rfl,BX,B0,B1,B2,hO (World.ownsRow_nil _ _ _ _),hO rfl,hO (fun p C=>by cases C)⟩
 case round =>
  clear BX B0 B1 B2 CM; obtain⟨j,v,Z,hj,rfl,t,B0,B1,B2,HO,HM,HS⟩:=hrel; obtain⟨wx,CN⟩:∃ wx,wx=wr:=⟨_,rfl⟩; subst CN; have BY:w.heap.size+3<=wx.heap.size:=B2.lt; have q0:wx.cell? ⟨w.heap.size,0,none⟩=some (.slice AE nE cE):=B0.cell 0; by_cases CO:j<nE
  .have CP:(j:Int)<(nE:Int):=by omega
   have BI:j<E.length:=by rw [BH.out]; exact CO
   obtain⟨bk,ok,rfl,D7,Ao⟩:=kC eE BI; have BZ:=Ao wx t; have Ap:=List.getElem_mem BI; obtain⟨As,M,c7,Ca,fs,ts⟩:=(BU.out _ Ap).below t; have Cb:=CG.out _ Ap; have BJ:Hid ((E.map Prod.fst).take (j+1)=(E.map Prod.fst).take j++[E[j].1]):=hO (by rw [List.take_succ_eq_append_getElem (by rw [List.length_map]; exact BI),List.getElem_map])
   generalize E[j]=p at *; obtain⟨x,sv⟩:=p; dsimp only at Ca ts Cb BJ
   subst Ca; have CQ:x.sels.length=M:=ts.len; have D8:M<=1000:=by omega
   have CR:=hO CQ; obtain⟨Am,B3⟩:=store_ent (Blk.new wx [.int .i64 0,.string ⟨#[]⟩,.string ⟨#[]⟩,.int .i64 0,.slice none 0 0] 36) rfl (vs:=ag (x,.slice As M c7)) rfl (jR _ rfl); have Am:(stEnt (.pointer (some ⟨wx.heap.size,0,none⟩)) (.agg (ag (x,.slice As M c7)).toArray)).run prog (wx.alloc (.cells #[.int .i64 0,.string ⟨#[]⟩,.string ⟨#[]⟩,.int .i64 0,.slice none 0 0] 36))=.ok () ((wx.alloc (.cells #[.int .i64 0,.string ⟨#[]⟩,.string ⟨#[]⟩,.int .i64 0,.slice none 0 0] 36)).setCells wx.heap.size 0 (ag (x,.slice As M c7))):=Am; have Cc:Chg [] wx ((wx.alloc (.cells #[.int .i64 0,.string ⟨#[]⟩,.string ⟨#[]⟩,.int .i64 0,.slice none 0 0] 36)).setCells wx.heap.size 0 (ag (x,.slice As M c7))):=((Chg.refl _ _).alloc _).setCells _ (.inr eG); have V:=Cc.below (fun _ h=>by cases h); have A3:Blk ((wx.alloc (.cells #[.int .i64 0,.string ⟨#[]⟩,.string ⟨#[]⟩,.int .i64 0,.slice none 0 0] 36)).setCells wx.heap.size 0 (ag (x,.slice As M c7))) wx.heap.size (ag (x,.slice As M c7)) 36:=B3; generalize (wx.alloc (.cells #[.int .i64 0,.string ⟨#[]⟩,.string ⟨#[]⟩,.int .i64 0,.slice none 0 0] 36)).setCells wx.heap.size 0 (ag (x,.slice As M c7))=w2 at *; clear B3 Cc Ao Ap; have q4:w2.cell? ⟨wx.heap.size,4,none⟩=some (.slice As M c7):=A3.cell 4; have Cd:Vs w2 w2.heap.size 1 As M (tv x.sels):=Ts.below ts V; have Ce:=hO (ae HO.out V eG); have Cf:Hid (∀ p∈Z,w2.ownsRow (w.heap.size+3) 9 1 p.2 p.1.sels.length (af aj p.1.sels)):=hO fun p C=>ae (HS.out p C) V eG; have D0:=B0.below V; have D1:=B1.below V; have D2:=B2.below V; have Aq:=t.trans (V.mono t.size); have Cg:w.heap.size+3<=w2.heap.size:=D2.lt; have BK:0+M<=maxLen:=by unfold maxLen; omega
   have D9:wx.heap.size<w2.heap.size:=A3.lt; have Ch:v.ownBlock≠some wx.heap.size:=fun e=>by have:=(dA HO.out e).2; omega
   clear HO HS B0 B1 B2 V t ts; go_upto_region 7 with fail
   clear Am BZ; go_wp2_with (at_builtin; go_must (refine au w2 rfl (.tmp 19) (.tmp 21) 25 rfl (w.heap.size+3) 9 iS (.string ⟨#[]⟩) 1 16 underlying25 BW s0 s1 s2 rfl (by omega) _ 0 [] rfl (World.ownsRow_nil _ _ _ _) w2.heap.size _ _ _ (tv x.sels) rfl Cd (tv_one _) BK (by omega) Cg ?_))
   intro d f w3 l _ _ G; have l:w3.ownsRow (w.heap.size+3) 9 1 (.slice d M f) M (tv x.sels):=by simpa using l
   have Ci:Chg [] w2 w3:=cQ G; have N:=Ci.below (fun _ h=>by cases h); have AL:=hO (ae Ce.out N eG); have Ar:Hid (∀ p∈Z,w3.ownsRow (w.heap.size+3) 9 1 p.2 p.1.sels.length (af aj p.1.sels)):=hO fun p C=>ae (Cf.out p C) N eG; have C0:=D0.below N; have C1:=D1.below N; have C2:=D2.below N; have C3:=A3.below N; have AM:=Aq.trans (N.mono Aq.size); have x4:w3.cell? ⟨wx.heap.size,4,none⟩=some (.slice As M c7):=C3.cell 4; have CT:=C3.froz 4; have D6:=N.size; (try rw [Nat.zero_add])
   clear Ce Cf D0 D1 D2 A3 G Ci N Aq q4 Cd; go_upto_region 9 with fail
   have Cj:Blk (w3.setCell ⟨wx.heap.size,4,none⟩ (.slice d M f)) wx.heap.size (ag (x,.slice d M f)) 36:=C3.set 4 _; have Ck:=C0.set_ne (p:=⟨wx.heap.size,4,none⟩) (by simp; omega) (.slice d M f)
   have Cl:=C1.set_ne (p:=⟨wx.heap.size,4,none⟩) (by simp; omega) (.slice d M f)
   have A4:=C2.set_ne (p:=⟨wx.heap.size,4,none⟩) (by simp; omega) (.slice d M f)
   have Ag:=hO (dh (a:=⟨wx.heap.size,4,none⟩) (x:=.slice d M f) AL.out Ch); have AO:Hid (∀ p∈Z,(w3.setCell ⟨wx.heap.size,4,none⟩ (.slice d M f)).ownsRow (w.heap.size+3) 9 1 p.2 p.1.sels.length (af aj p.1.sels)):=hO fun p C=>dh (Ar.out p C) (aC (Ar.out p C) C3 (by decide)); have At:=dh (a:=⟨wx.heap.size,4,none⟩) (x:=.slice d M f) l (aC l C3 (by decide)); have AP:=AM.setCell (p:=⟨wx.heap.size,4,none⟩) (by simp; omega) (.slice d M f)
   generalize w3.setCell ⟨wx.heap.size,4,none⟩ (.slice d M f)=w4 at *; clear C0 C1 C2 C3 AL Ar l x4 CT AM; have y0:w4.cell? ⟨w.heap.size+2,0,none⟩=some v:=A4.cell 0; have Cm:(fM (.pointer (some ⟨wx.heap.size,0,none⟩))).run prog w4=.ok (.agg #[.int .i64 x.n,.string (str x.path),.string (str x.parent),.int .i64 x.ttl,.slice d M f]) w4:=ff Cj rfl; have Cn:Vs (w4.alloc (.cells #[.int .i64 x.n,.string (str x.path),.string (str x.parent),.int .i64 x.ttl,.slice d M f] 36)) (w4.alloc (.cells #[.int .i64 x.n,.string (str x.path),.string (str x.parent),.int .i64 x.ttl,.slice d M f] 36)).heap.size 5 (some ⟨w4.heap.size,0,none⟩) 1 (ag (x,.slice d M f)):=dP (Blk.new w4 (ag (x,.slice d M f)) 36) rfl; have BL:w.heap.size+3<=w4.heap.size:=A4.lt; have Co:j+1<=maxLen:=by unfold maxLen; omega
   go_wp2_with (at_builtin; go_must (refine au (w4.alloc (.cells #[.int .i64 x.n,.string (str x.path),.string (str x.parent),.int .i64 x.ttl,.slice d M f] 36)) rfl (.tmp 26) (.tmp 28) 23 rfl (w.heap.size+3) 36 iE (.agg #[.int .i64 0,.string ⟨#[]⟩,.string ⟨#[]⟩,.int .i64 0,.slice none 0 0]) 5 72 underlying23 CH e0 e1 e2 rfl (by omega) _ _ _ rfl (Ag.out.alloc _) _ _ 1 _ (ag (x,.slice d M f)) rfl Cn (jR _ rfl) Co (by omega) (by simp; omega) ?_))
   intro A9 c9 w6 Au _ _ G; have Av:Below (w.heap.size+3) w4 w6:=Mem.ay ((Below.refl (w.heap.size+3) w4).alloc BL _) G (by simp; omega) (Ag.out.alloc _)
   have ba:eD w4 (w4.alloc (.cells #[.int .i64 x.n,.string (str x.path),.string (str x.parent),.int .i64 x.ttl,.slice d M f] 36)):=eH; have AQ:Hid (∀ p∈Z++[(x,Value.slice d M f)],w6.ownsRow (w.heap.size+3) 9 1 p.2 p.1.sels.length (af aj p.1.sels)):=hO fun p C=>by
    have h4:w4.ownsRow (w.heap.size+3) 9 1 p.2 p.1.sels.length (af aj p.1.sels):=by
     rcases List.mem_append.1 C with C|C
     .exact AO.out p C
     .rw [List.mem_singleton] at C
      subst C; show w4.ownsRow (w.heap.size+3) 9 1 (.slice d M f) x.sels.length (af aj x.sels)
      rw [CR.out,gP]; exact At
    have h5:=ae h4 ba eG; refine ot h5 G (fun g hg=>?_); rcases dM h4 Ag.out (by decide) with h9|h9
    .rw [h9] at hg; cases hg
    .exact fun e=>h9 (hg.trans e.symm)
   have F0:=Ck.older Av (by omega); have F1:=Cl.older Av (by omega); have F2:=A4.older Av (by omega); have z0:w6.cell? ⟨w.heap.size+2,0,none⟩=some v:=F2.cell 0; have DA:=F2.froz 0; have G0:=F0.set_ne (p:=⟨w.heap.size+2,0,none⟩) (by simp) (.slice A9 (j+1) c9); have G1:=F1.set_ne (p:=⟨w.heap.size+2,0,none⟩) (by simp) (.slice A9 (j+1) c9); have G2:Blk (w6.setCell ⟨w.heap.size+2,0,none⟩ (.slice A9 (j+1) c9)) (w.heap.size+2) [.slice A9 (j+1) c9,.slice none 0 0,.slice none 0 0,.slice none 0 0,.slice none 0 0,.slice none 0 0] 30:=F2.set 0 _; have Cp:=ownsRow_setCell_below Au (a:=⟨w.heap.size+2,0,none⟩) (by simp) (.slice A9 (j+1) c9); have CU:Hid ((w6.setCell ⟨w.heap.size+2,0,none⟩ (.slice A9 (j+1) c9)).ownsRow (w.heap.size+3) 36 5 (.slice A9 (j+1) c9) (j+1) (af ag (Z++[(x,Value.slice d M f)]))):=hO (by
    rw [show af ag (Z++[(x,Value.slice d M f)])=af ag Z++ag (x,.slice d M f) by unfold af; simp]
    exact Cp)
   have CV:Hid (∀ p∈Z++[(x,Value.slice d M f)],(w6.setCell ⟨w.heap.size+2,0,none⟩ (.slice A9 (j+1) c9)).ownsRow (w.heap.size+3) 9 1 p.2 p.1.sels.length (af aj p.1.sels)):=hO fun p C=>ownsRow_setCell_below (AQ.out p C) (a:=⟨w.heap.size+2,0,none⟩) (by simp) _; have CW:Hid ((Z++[(x,Value.slice d M f)]).map Prod.fst=(E.map Prod.fst).take (j+1)):=hO (by rw [List.map_append,HM.out,BJ.out]; rfl)
   have Cq:=(AP.trans (Av.mono (by omega))).setCell (p:=⟨w.heap.size+2,0,none⟩) (by simp) (.slice A9 (j+1) c9); clear Au Cp G Av ba AQ AO Ag At Ck Cl A4 Cj F0 F1 F2 Cn y0 AP Cm HM BJ; go_wp2_with fail
   go_roundw
   case rel=>exact⟨j+1,_,_,by omega,by go_num,Cq,G0,G1,G2,CU,CW,CV⟩
   case measure=>simp [intOf]; omega
  .have CP:¬ (j:Int)<(nE:Int):=by omega
   have CX:=hO (show j=nE by omega); have Aw:Hid (Z.map Prod.fst=L.entries):=hO (by rw [HM.out,List.take_of_length_le (by rw [List.length_map,BH.out]; omega),AG.out])
   have O0:=hO HO.out; clear HM HO; have CY:wx.cell? ⟨w.heap.size,1,none⟩=some (.slice AN nN cN):=B0.cell 1; have CZ:wx.cell? ⟨w.heap.size+2,1,none⟩=some (.slice none 0 0):=B2.cell 1; have Cr:Vs wx wx.heap.size 5 AN nN (af ac L.nodes):=(Es.below eN t); have Da:0+nN<=maxLen:=by unfold maxLen; omega
   have Db:w.heap.size+3<=wx.heap.size:=B2.lt; go_wp2_with (at_builtin; go_must (refine au wx rfl (.tmp 32) (.tmp 34) 24 rfl (w.heap.size+3) 40 iN (.agg #[.string ⟨#[]⟩,.string ⟨#[]⟩,.int .i64 0,.int .i64 0,.string ⟨#[]⟩]) 5 64 underlying24 CI n0 n1 n2 rfl (by omega) _ 0 [] rfl (World.ownsRow_nil _ _ _ _) wx.heap.size _ _ _ (af ac L.nodes) rfl Cr (pI _) Da (by omega) Db ?_))
   intro O Q y1 B _ _ G; have B:y1.ownsRow (w.heap.size+3) 40 5 (.slice O nN Q) nN (af ac L.nodes):=by simpa using B
   have Ab:=(cQ G).below (fun _ h=>by cases h); have AR:=ae O0.out Ab eG; have AS:Hid (∀ p∈Z,y1.ownsRow (w.heap.size+3) 9 1 p.2 p.1.sels.length (af aj p.1.sels)):=hO fun p C=>ae (HS.out p C) Ab eG; have Cs:=B0.below Ab; have Ct:=B1.below Ab; have A5:=B2.below Ab; have AT:=t.trans (Ab.mono t.size); have Dc:y1.cell? ⟨w.heap.size+2,1,none⟩=some (.slice none 0 0):=A5.cell 1; have Dd:=A5.froz 1; (try rw [Nat.zero_add])
   clear CY CZ Cr G Ab B0 B1 B2 HS t O0; go_upto_region 11 with fail
   have BM:=Cs.set_ne (p:=⟨w.heap.size+2,1,none⟩) (by simp) (.slice O nN Q); have Cu:=Ct.set_ne (p:=⟨w.heap.size+2,1,none⟩) (by simp) (.slice O nN Q); have A6:=A5.set 1 (.slice O nN Q); have AV:Hid (∀ p∈Z,(y1.setCell ⟨w.heap.size+2,1,none⟩ (.slice O nN Q)).ownsRow (w.heap.size+3) 9 1 p.2 p.1.sels.length (af aj p.1.sels)):=hO fun p C=>ownsRow_setCell_below (AS.out p C) (a:=⟨w.heap.size+2,1,none⟩) (by simp) _; have Ah:=AT.setCell (p:=⟨w.heap.size+2,1,none⟩) (by simp) (.slice O nN Q); have AW:=hO (ownsRow_setCell_below AR (a:=⟨w.heap.size+2,1,none⟩) (by simp) (.slice O nN Q)); have AX:=hO (ownsRow_setCell_below B (a:=⟨w.heap.size+2,1,none⟩) (by simp) (.slice O nN Q)); generalize y1.setCell ⟨w.heap.size+2,1,none⟩ (.slice O nN Q)=Ac at *; clear Cs Ct A5 AS AT Dc Dd B AR; have De:Ac.cell? ⟨w.heap.size,2,none⟩=some (.slice AB nB cB):=BM.cell 2; have Df:Ac.cell? ⟨w.heap.size+2,2,none⟩=some (.slice none 0 0):=A6.cell 2; have Cv:Vs Ac Ac.heap.size 1 AB nB (af aj L.bans):=(by rw [gP]; exact(Ts.below eB Ah))
   have Dg:0+nB<=maxLen:=by unfold maxLen; omega
   have Dh:w.heap.size+3<=Ac.heap.size:=A6.lt; go_wp2_with (at_builtin; go_must (refine au Ac rfl (.tmp 38) (.tmp 40) 25 rfl (w.heap.size+3) 9 iS (.string ⟨#[]⟩) 1 16 underlying25 BW s0 s1 s2 rfl (by omega) _ 0 [] rfl (World.ownsRow_nil _ _ _ _) Ac.heap.size _ _ _ (af aj L.bans) rfl Cv (oD _) Dg (by omega) Dh ?_))
   intro R T y2 B _ _ G; have B:y2.ownsRow (w.heap.size+3) 9 1 (.slice R nB T) nB (af aj L.bans):=by simpa using B
   have V:=(cQ G).below (fun _ h=>by cases h); have AY:=ae AW.out V eG; have AZ:=ae AX.out V eG; have Ba:Hid (∀ p∈Z,y2.ownsRow (w.heap.size+3) 9 1 p.2 p.1.sels.length (af aj p.1.sels)):=hO fun p C=>ae (AV.out p C) V eG; have Cw:=BM.below V; have Cx:=Cu.below V; have A7:=A6.below V; have Bb:=Ah.trans (V.mono Ah.size); have Di:y2.cell? ⟨w.heap.size+2,2,none⟩=some (.slice none 0 0):=A7.cell 2; have Dj:=A7.froz 2; (try rw [Nat.zero_add])
   clear De Df Cv G V BM Cu A6 AV Ah AW AX; go_upto_region 12 with fail
   have BN:=Cw.set_ne (p:=⟨w.heap.size+2,2,none⟩) (by simp) (.slice R nB T); have Cy:=Cx.set_ne (p:=⟨w.heap.size+2,2,none⟩) (by simp) (.slice R nB T); have A8:=A7.set 2 (.slice R nB T); have Bc:Hid (∀ p∈Z,(y2.setCell ⟨w.heap.size+2,2,none⟩ (.slice R nB T)).ownsRow (w.heap.size+3) 9 1 p.2 p.1.sels.length (af aj p.1.sels)):=hO fun p C=>ownsRow_setCell_below (Ba.out p C) (a:=⟨w.heap.size+2,2,none⟩) (by simp) _; have Ai:=Bb.setCell (p:=⟨w.heap.size+2,2,none⟩) (by simp) (.slice R nB T); have Bd:=hO (ownsRow_setCell_below AY (a:=⟨w.heap.size+2,2,none⟩) (by simp) (.slice R nB T)); have Be:=hO (ownsRow_setCell_below AZ (a:=⟨w.heap.size+2,2,none⟩) (by simp) (.slice R nB T)); have Bf:=hO (ownsRow_setCell_below B (a:=⟨w.heap.size+2,2,none⟩) (by simp) (.slice R nB T)); generalize y2.setCell ⟨w.heap.size+2,2,none⟩ (.slice R nB T)=Ad at *; clear Cw Cx A7 Ba Bb Di Dj B AY AZ; have Dk:Ad.cell? ⟨w.heap.size,3,none⟩=some (.slice AJ Y cJ):=BN.cell 3; have Dl:Ad.cell? ⟨w.heap.size+2,3,none⟩=some (.slice none 0 0):=A8.cell 3; have Cz:Vs Ad Ad.heap.size 4 AJ Y (af ao L.joins):=(Es.below eJ Ai); have BK:0+Y<=maxLen:=by unfold maxLen; omega
   have BY:w.heap.size+3<=Ad.heap.size:=A8.lt; go_wp2_with (at_builtin; go_must (refine au Ad rfl (.tmp 44) (.tmp 46) 26 rfl (w.heap.size+3) 38 iJ (.agg #[.string ⟨#[]⟩,.string ⟨#[]⟩,.int .i64 0,.bool false]) 4 48 underlying26 CJ j0 j1 j2 rfl (by omega) _ 0 [] rfl (World.ownsRow_nil _ _ _ _) Ad.heap.size _ _ _ (af ao L.joins) rfl Cz (one_join _) BK (by omega) BY ?_))
   intro J K y3 B _ _ G; have B:y3.ownsRow (w.heap.size+3) 38 4 (.slice J Y K) Y (af ao L.joins):=by simpa using B
   have N:=(cQ G).below (fun _ h=>by cases h); have Bg:=ae Bd.out N eG; have Bh:=ae Be.out N eG; have Bi:=ae Bf.out N eG; have Bj:Hid (∀ p∈Z,y3.ownsRow (w.heap.size+3) 9 1 p.2 p.1.sels.length (af aj p.1.sels)):=hO fun p C=>ae (Bc.out p C) N eG; have C4:=BN.below N; have C5:=Cy.below N; have F32:=A8.below N; have Bk:=Ai.trans (N.mono Ai.size); have Dm:y3.cell? ⟨w.heap.size+2,3,none⟩=some (.slice none 0 0):=F32.cell 3; have Dn:=F32.froz 3; (try rw [Nat.zero_add])
   clear Dk Dl Cz G N BN Cy A8 Bc Ai Bd Be Bf; go_upto_region 13 with fail
   have BO:=C4.set_ne (p:=⟨w.heap.size+2,3,none⟩) (by simp) (.slice J Y K); have C6:=C5.set_ne (p:=⟨w.heap.size+2,3,none⟩) (by simp) (.slice J Y K); have AA:=F32.set 3 (.slice J Y K); have Bl:Hid (∀ p∈Z,(y3.setCell ⟨w.heap.size+2,3,none⟩ (.slice J Y K)).ownsRow (w.heap.size+3) 9 1 p.2 p.1.sels.length (af aj p.1.sels)):=hO fun p C=>ownsRow_setCell_below (Bj.out p C) (a:=⟨w.heap.size+2,3,none⟩) (by simp) _; have Aj:=Bk.setCell (p:=⟨w.heap.size+2,3,none⟩) (by simp) (.slice J Y K); have Bm:=hO (ownsRow_setCell_below Bg (a:=⟨w.heap.size+2,3,none⟩) (by simp) (.slice J Y K)); have Bn:=hO (ownsRow_setCell_below Bh (a:=⟨w.heap.size+2,3,none⟩) (by simp) (.slice J Y K)); have Bo:=hO (ownsRow_setCell_below Bi (a:=⟨w.heap.size+2,3,none⟩) (by simp) (.slice J Y K)); have Bp:=hO (ownsRow_setCell_below B (a:=⟨w.heap.size+2,3,none⟩) (by simp) (.slice J Y K)); generalize y3.setCell ⟨w.heap.size+2,3,none⟩ (.slice J Y K)=Ae at *; clear C4 C5 F32 Bj Bk Dm Dn B Bg Bh Bi; have Do:Ae.cell? ⟨w.heap.size,4,none⟩=some (.slice AK X cK):=BO.cell 4; have Dp:Ae.cell? ⟨w.heap.size+2,4,none⟩=some (.slice none 0 0):=AA.cell 4; have C7:Vs Ae Ae.heap.size 4 AK X (af aq L.keys):=(Es.below eK Aj); have Dq:0+X<=maxLen:=by unfold maxLen; omega
   have BL:w.heap.size+3<=Ae.heap.size:=AA.lt; go_wp2_with (at_builtin; go_must (refine au Ae rfl (.tmp 50) (.tmp 52) 27 rfl (w.heap.size+3) 42 iK (.agg #[.string ⟨#[]⟩,.string ⟨#[]⟩,.int .i64 0,.int .i64 0]) 4 48 underlying27 CK k0 k1 k2 rfl (by omega) _ 0 [] rfl (World.ownsRow_nil _ _ _ _) Ae.heap.size _ _ _ (af aq L.keys) rfl C7 (oF _) Dq (by omega) BL ?_))
   intro H I y4 B _ _ G; have B:y4.ownsRow (w.heap.size+3) 42 4 (.slice H X I) X (af aq L.keys):=by simpa using B
   have o:=(cQ G).below (fun _ h=>by cases h); have Bq:=ae Bm.out o eG; have Br:=ae Bn.out o eG; have Bt:=ae Bo.out o eG; have Bu:=ae Bp.out o eG; have Bv:Hid (∀ p∈Z,y4.ownsRow (w.heap.size+3) 9 1 p.2 p.1.sels.length (af aj p.1.sels)):=hO fun p C=>ae (Bl.out p C) o eG; have C8:=BO.below o; have C9:=C6.below o; have AC:=AA.below o; have Bw:=Aj.trans (o.mono Aj.size); have Dr:y4.cell? ⟨w.heap.size+2,4,none⟩=some (.slice none 0 0):=AC.cell 4; have Ds:=AC.froz 4; (try rw [Nat.zero_add])
   clear Do Dp C7 G o BO C6 AA Bl Aj Bm Bn Bo Bp; go_upto_region 14 with fail
   have BP:=C8.set_ne (p:=⟨w.heap.size+2,4,none⟩) (by simp) (.slice H X I); have CA:=C9.set_ne (p:=⟨w.heap.size+2,4,none⟩) (by simp) (.slice H X I); have AD:=AC.set 4 (.slice H X I); have Bx:Hid (∀ p∈Z,(y4.setCell ⟨w.heap.size+2,4,none⟩ (.slice H X I)).ownsRow (w.heap.size+3) 9 1 p.2 p.1.sels.length (af aj p.1.sels)):=hO fun p C=>ownsRow_setCell_below (Bv.out p C) (a:=⟨w.heap.size+2,4,none⟩) (by simp) _; have Ak:=Bw.setCell (p:=⟨w.heap.size+2,4,none⟩) (by simp) (.slice H X I); have By:=hO (ownsRow_setCell_below Bq (a:=⟨w.heap.size+2,4,none⟩) (by simp) (.slice H X I)); have Bz:=hO (ownsRow_setCell_below Br (a:=⟨w.heap.size+2,4,none⟩) (by simp) (.slice H X I)); have B4:=hO (ownsRow_setCell_below Bt (a:=⟨w.heap.size+2,4,none⟩) (by simp) (.slice H X I)); have B5:=hO (ownsRow_setCell_below Bu (a:=⟨w.heap.size+2,4,none⟩) (by simp) (.slice H X I)); have B6:=hO (ownsRow_setCell_below B (a:=⟨w.heap.size+2,4,none⟩) (by simp) (.slice H X I)); generalize y4.setCell ⟨w.heap.size+2,4,none⟩ (.slice H X I)=Af at *; clear C8 C9 AC Bv Bw Dr Ds B Bq Br Bt Bu; have Dt:Af.cell? ⟨w.heap.size,5,none⟩=some (.slice AU nU cU):=BP.cell 5; have Du:Af.cell? ⟨w.heap.size+2,5,none⟩=some (.slice none 0 0):=AD.cell 5; have CB:Vs Af Af.heap.size 3 AU nU (af ai U):=(Es.below eU Ak); have Dv:0+nU<=maxLen:=by unfold maxLen; omega
   have Dw:w.heap.size+3<=Af.heap.size:=AD.lt; go_wp2_with (at_builtin; go_must (refine au Af rfl (.tmp 56) (.tmp 58) 28 rfl (w.heap.size+3) 45 iU (.agg #[.string ⟨#[]⟩,.int .i64 0,.slice none 0 0]) 3 48 underlying28 CL u0 u1 u2 rfl (by omega) _ 0 [] rfl (World.ownsRow_nil _ _ _ _) Af.heap.size _ _ _ (af ai U) rfl CB (BV.out) Dv (by omega) Dw ?_))
   intro D F y5 B _ _ G; have B:y5.ownsRow (w.heap.size+3) 45 3 (.slice D nU F) nU (af ai U):=by simpa using B
   have m:=(cQ G).below (fun _ h=>by cases h); have B7:=ae By.out m eG; have B8:=ae Bz.out m eG; have BA:=ae B4.out m eG; have BB:=ae B5.out m eG; have BC:=ae B6.out m eG; have BD:Hid (∀ p∈Z,y5.ownsRow (w.heap.size+3) 9 1 p.2 p.1.sels.length (af aj p.1.sels)):=hO fun p C=>ae (Bx.out p C) m eG; have CC:=BP.below m; have CD:=CA.below m; have AF:=AD.below m; have BE:=Ak.trans (m.mono Ak.size); have Dx:y5.cell? ⟨w.heap.size+2,5,none⟩=some (.slice none 0 0):=AF.cell 5; have Dy:=AF.froz 5; (try rw [Nat.zero_add])
   clear Dt Du CB G m BP CA AD Bx Ak By Bz B4 B5 B6; go_upto_region 15 with fail
   have Dz:=CC.set_ne (p:=⟨w.heap.size+2,5,none⟩) (by simp) (.slice D nU F); have BQ:=CD.set_ne (p:=⟨w.heap.size+2,5,none⟩) (by simp) (.slice D nU F); have CE:=AF.set 5 (.slice D nU F); have BF:Hid (∀ p∈Z,(y5.setCell ⟨w.heap.size+2,5,none⟩ (.slice D nU F)).ownsRow (w.heap.size+3) 9 1 p.2 p.1.sels.length (af aj p.1.sels)):=hO fun p C=>ownsRow_setCell_below (BD.out p C) (a:=⟨w.heap.size+2,5,none⟩) (by simp) _; have z:=BE.setCell (p:=⟨w.heap.size+2,5,none⟩) (by simp) (.slice D nU F); have Al:=hO (ownsRow_setCell_below B7 (a:=⟨w.heap.size+2,5,none⟩) (by simp) (.slice D nU F)); have Ax:=hO (ownsRow_setCell_below B8 (a:=⟨w.heap.size+2,5,none⟩) (by simp) (.slice D nU F)); have BG:=hO (ownsRow_setCell_below BA (a:=⟨w.heap.size+2,5,none⟩) (by simp) (.slice D nU F)); have Ay:=hO (ownsRow_setCell_below BB (a:=⟨w.heap.size+2,5,none⟩) (by simp) (.slice D nU F)); have Az:=hO (ownsRow_setCell_below BC (a:=⟨w.heap.size+2,5,none⟩) (by simp) (.slice D nU F)); have A0:=hO (ownsRow_setCell_below B (a:=⟨w.heap.size+2,5,none⟩) (by simp) (.slice D nU F)); generalize y5.setCell ⟨w.heap.size+2,5,none⟩ (.slice D nU F)=y at *; clear CC CD AF BD BE Dx Dy B B7 B8 BA BB BC; have D2:Blk y (w.heap.size+2) [v,.slice O nN Q,.slice R nB T,.slice J Y K,.slice H X I,.slice D nU F] 30:=CE; have Ao:=dD D2 rfl; have BR:v.oneCell'=true:=by
    obtain⟨A,c,rfl,_⟩:=ak Al.out; rfl
   obtain⟨Am,B9⟩:=cH BQ rfl (vs:=[v,.slice O nN Q,.slice R nB T,.slice J Y K,.slice H X I,.slice D nU F]) rfl (by
    intro u hu; simp only [List.mem_cons,List.not_mem_nil,or_false] at hu; rcases hu with rfl|rfl|rfl|rfl|rfl|rfl
    .exact BR
    all_goals rfl)
   have Ao:(jJ (.pointer (some ⟨w.heap.size+2,0,none⟩))).run prog y=.ok (.agg #[v,.slice O nN Q,.slice R nB T,.slice J Y K,.slice H X I,.slice D nU F]) y:=Ao; have Am:(gQ (.pointer (some ⟨w.heap.size+1,0,none⟩)) (.agg #[v,.slice O nN Q,.slice R nB T,.slice J Y K,.slice H X I,.slice D nU F])).run prog y=.ok () (y.setCells (w.heap.size+1) 0 [v,.slice O nN Q,.slice R nB T,.slice J Y K,.slice H X I,.slice D nU F]):=Am; have D3:Z.length=j:=by
    have h1:=congrArg List.length Aw.out; have h2:=congrArg List.length AG.out; rw [List.length_map] at h1 h2; have h3:=BH.out; have h4:=CX.out; omega
   have CF:Hid (Rk w.heap.size y v (.slice O nN Q) (.slice R nB T) (.slice J Y K) (.slice H X I) (.slice D nU F) L Z U):=by
    obtain⟨l1,l2,l3,l4,l5⟩:=HL.out; refine hO ⟨?_,?_,?_,?_,?_,?_,Aw.out,AH.out,fun p C=>.inr (aG (BF.out p C) (by omega)),fun p C=>(AI.out p C).chg (Chg.of_below (S:=[]) z) (fun s hs=>by cases hs) eG⟩
    .rw [D3]; exact aG Al.out (by omega)
    .rw [l1]; exact aG Ax.out (by omega)
    .rw [l2]; exact aG BG.out (by omega)
    .rw [l3]; exact aG Ay.out (by omega)
    .rw [l4]; exact aG Az.out (by omega)
    .rw [l5]; exact aG A0.out (by omega)
   have BS:Chg [w.heap.size+1] y (y.setCells (w.heap.size+1) 0 [v,.slice O nN Q,.slice R nB T,.slice J Y K,.slice H X I,.slice D nU F]):=(Chg.refl _ _).setCells _ (.inl (by simp)); have A2:∀ u∈[v,Value.slice O nN Q,.slice J Y K,.slice H X I,.slice D nU F],∀ g,u.ownBlock=some g->w.heap.size+3<=g:=by
    intro u hu g hg; simp only [List.mem_cons,List.not_mem_nil,or_false] at hu; rcases hu with rfl|rfl|rfl|rfl|rfl
    .exact(dA Al.out hg).1
    .exact(dA Ax.out hg).1
    .exact(dA Ay.out hg).1
    .exact(dA Az.out hg).1
    .exact(dA A0.out hg).1
   have D4:=hO (CF.out.chg BS (Far.one (by omega) BQ (by decide)) (by have:=z.size; omega) (fun u hu g hg=>by
    have:=A2 u hu g hg; simp
    omega))
   have D5:eD w (y.setCells (w.heap.size+1) 0 [v,.slice O nN Q,.slice R nB T,.slice J Y K,.slice H X I,.slice D nU F]):=z.trans (BS.below' z.size (by simp)); have hH:=B9.has (n:=6) rfl; have hA:=B9.arr (n:=6) rfl; clear CF BS Al Ax BG Ay Az A0 A2 BF z B9 D2 Dz BQ CE Aw HL AH AI; go_wp2_with fail
   refine bodyPost_ret (dr (P:=prog) Tryz.results39 _ _ (w.heap.size+1) 0 6 _ rfl underlying30 rfl bQ hH) rfl ?_; exact⟨_,_,_,_,_,_,_,congrArg (fun a=>Ending.returned (Value.agg a)) hA,D4.out,D5⟩
end
end Go.Proofs.YtmbpnkacggngkaaGreatDoor
