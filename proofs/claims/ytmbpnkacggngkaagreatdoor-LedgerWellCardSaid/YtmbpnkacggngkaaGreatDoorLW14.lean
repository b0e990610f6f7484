/- MixF, JwkKey, JwkWrite, LedApC, LedLiv2, LedRefMay, LedTab (put together by bundle.py: only what is needed). -/
import Derived.Test.YtmbpnkacggngkaaGreatDoorRows
import Derived.LaidMore
import Derived.Lay
import Derived.Test.YtmbpnkacggngkaaGreatDoorLW13
set_option maxRecDepth 100000
set_option maxHeartbeats 16000000
namespace Go.Proofs.YtmbpnkacggngkaaGreatDoor
section
namespace Batch
open Go.RowKit
section
variable {P:Program} {ops:Array Oper} {md:Region.Mode} {R:World→World→Prop} {w0:World}
abbrev Facts:=List (Nat × (World→Prop))
abbrev Elt:=Nat × List Nat × Option (Value→World→Prop)
def Fits (ln:List Nat) (Fs:Facts) (w:World):Prop:=∀ p∈Fs,p.1∈ln→p.2 w
def seqF (P:Program) (ops:Array Oper) (R:World→World→Prop) (w0:World) (Q:Act→Facts→Prop):List Elt→Act→Facts→Prop
 | [],a,Fs=>Q a Fs
 | (i,_,none)::l,a,Fs=>∃ o v,ops[i]?=some o∧calm2 o.op=true∧YieldsIn P ops (R w0) o v a∧seqF P ops R w0 Q l (a.put o.dst v) Fs
 | (i,ln,some T)::l,a,Fs=>∃ o,ops[i]?=some o∧Region.wanted o (yielded ops a.tmps)=true∧(∃ v w,T v w)∧(∀ w,R w0 w→Fits ln Fs w→gives P R T w ((execOp a.eval o).run P w)) ∧
   ∀ v,(∃ w,T v w)→seqF P ops R w0 Q l (a.put o.dst v) ((i,T v)::Fs)
theorem Fits.sub{ln:List Nat} {Fs Fs':Facts} {w:World} (h:Fits ln Fs' w) (hs:∀ p∈Fs,p∈Fs'):Fits ln Fs w:=fun p hp=>h p (hs p hp)
theorem seqF_mono{Q:Act→Facts→Prop} (hQ:∀ a Fs Fs',(∀ p∈Fs,p∈Fs')→Q a Fs→Q a Fs'):∀ (l:List Elt) (a:Act) (Fs Fs':Facts),(∀ p∈Fs,p∈Fs')→seqF P ops R w0 Q l a Fs→seqF P ops R w0 Q l a Fs'
 | [],a,Fs,Fs',hs,h=>hQ a Fs Fs' hs h
 | (i,_,none)::l,a,Fs,Fs',hs,⟨o,v,h1,h2,h3,h4⟩=>⟨o,v,h1,h2,h3,seqF_mono hQ l _ Fs Fs' hs h4⟩
 | (i,ln,some T)::l,a,Fs,Fs',hs,⟨o,h1,h2,h3,h4,h5⟩=>⟨o,h1,h2,h3,fun w hw hf=>h4 w hw (hf.sub hs),fun v hv=>seqF_mono hQ l _ _ _ (fun p hp=>by
   rcases List.mem_cons.1 hp with rfl|hp
   ·exact List.mem_cons_self
   ·exact List.mem_cons_of_mem _ (hs p hp)) (h5 v hv)⟩
theorem yields_unique{C:World→Prop} {o:Oper} {v v':Value} {a:Act} {w:World} (hc:calm2 o.op=true) (hC:C w) (h:YieldsIn P ops C o v a) (h':YieldsIn P ops C o v' a):v=v':=by
 rcases h with⟨h1,h2⟩|⟨h1,h2⟩ <;> rcases h' with⟨k1,k2⟩|⟨k1,k2⟩
 ·have e1:=h2 w hC
  have e2:=k2 w hC; unfold Oper.quietAt at e1 e2
  cases hr:(execOp a.eval o).run P w with
  | halt q w'=>rw [hr] at e1; exact e1.elim
  | ok n w' =>
   obtain⟨u,rfl⟩:=calm2_value hc a.eval w w' n hr; rw [hr] at e1 e2; exact e1.2.symm.trans e2.2
 ·rw [h1] at k1; cases k1
 ·rw [h1] at k1; cases k1
 ·rw [h2,k2]
def pairF (md:Region.Mode) (ops:Array Oper) (x e:Nat × List Nat):Bool :=
 match ops[x.1]?,ops[e.1]? with
 | some ox,some oe=>(oe.after.any fun d=>Region.binds md d&&d.on==x.1)||(ox.apart ops oe&&!e.2.contains x.1)
 | _,_=>false
def pairsF (md:Region.Mode) (ops:Array Oper):List (Nat × List Nat)→Bool
 | []=>true
 | x::l=>l.all (pairF md ops x)&&pairsF md ops l
def apartF (ops:Array Oper) (x e:Nat × List Nat):Prop:=∃ ox oe,ops[x.1]?=some ox∧ops[e.1]?=some oe∧ox.apart ops oe=true∧x.1∉e.2
theorem seqF_pull{Q:Act→Facts→Prop} (hR:Rely R) (hQ:∀ a Fs Fs',(∀ p∈Fs,p∈Fs')→Q a Fs→Q a Fs') (hsel:∀ (j:Nat) (o:Oper) cs b,ops[j]?=some o→o.op≠.select cs b) (e:Elt) (l2:List Elt) :
  ∀ (l1:List Elt) (a:Act) (Fs:Facts),(∀ x∈l1,apartF ops (x.1,x.2.1) (e.1,e.2.1))→seqF P ops R w0 Q (l1++e::l2) a Fs→seqF P ops R w0 Q (e::(l1++l2)) a Fs
 | [],a,Fs,_,h=>h
 | (i,_,none)::l1,a,Fs,hap,⟨o,v,h1,h2,h3,h4⟩=>by
  obtain⟨ox,oe,k1,k2,k3,k4⟩:=hap _ List.mem_cons_self; obtain rfl:o=ox:=Option.some.inj (h1.symm.trans k1); obtain⟨g1,g2,g3⟩:=Oper.apart_spec k3; have ih:=seqF_pull hR hQ hsel e l2 l1 _ Fs (fun x hx=>hap x (List.mem_cons_of_mem _ hx)) h4; obtain⟨j,ln,T⟩:=e
  cases T with
  | none =>
   obtain⟨o2,v2,m1,m2,m3,m4⟩:=ih; obtain rfl:o2=oe:=Option.some.inj (m1.symm.trans k2); refine⟨o2,v2,m1,m2,m3.of_same (execOp_put o2 (fun cs b=>hsel j o2 cs b m1) a o.dst v g1).symm (wanted_put o2 a o.dst v g1).symm,o,v,h1,h2,h3.of_same (execOp_put o (fun cs b=>hsel i o cs b h1) a o2.dst v2 g3) (wanted_put o a o2.dst v2 g3),?_⟩; rw [← Act.put_comm a v v2 g2]; exact m4
  | some T =>
   obtain⟨o2,m1,m2,m3,m4,m5⟩:=ih; obtain rfl:o2=oe:=Option.some.inj (m1.symm.trans k2); rw [wanted_put o2 a o.dst v g1] at m2; refine⟨o2,m1,m2,m3,fun w hw hf=>?_,fun u hu=>⟨o,v,h1,h2,h3.of_same (execOp_put o (fun cs b=>hsel i o cs b h1) a o2.dst u g3) (wanted_put o a o2.dst u g3),?_⟩⟩
   ·have:=m4 w hw hf
    rw [execOp_put o2 (fun cs b=>hsel j o2 cs b m1) a o.dst v g1] at this; exact this
   ·rw [← Act.put_comm a v u g2]
    exact m5 u hu
 | (i,ln0,some T0)::l1,a,Fs,hap,⟨o,h1,h2,h3,h4,h5⟩=>by
  obtain⟨ox,oe,k1,k2,k3,k4⟩:=hap _ List.mem_cons_self; obtain rfl:o=ox:=Option.some.inj (h1.symm.trans k1); obtain⟨g1,g2,g3⟩:=Oper.apart_spec k3; have ih:=fun v hv=>seqF_pull hR hQ hsel e l2 l1 _ ((i,T0 v)::Fs) (fun x hx=>hap x (List.mem_cons_of_mem _ hx)) (h5 v hv); obtain⟨v0,hv0⟩:=h3; obtain⟨j,ln,T⟩:=e
  cases T with
  | none =>
   obtain⟨o2,v2,m1,m2,m3,m4⟩:=ih v0 hv0; obtain rfl:o2=oe:=Option.some.inj (m1.symm.trans k2); have m3':=m3.of_same (execOp_put o2 (fun cs b=>hsel j o2 cs b m1) a o.dst v0 g1).symm (wanted_put o2 a o.dst v0 g1).symm; refine⟨o2,v2,m1,m2,m3',o,h1,by rw [wanted_put o a o2.dst v2 g3]; exact h2,⟨v0,hv0⟩,fun w hw hf=>?_,fun v hv=>?_⟩
   ·rw [execOp_put o (fun cs b=>hsel i o cs b h1) a o2.dst v2 g3]
    exact h4 w hw hf
   ·obtain⟨o3,v3,n1,n2,n3,n4⟩:=ih v hv
    obtain rfl:o3=o2:=Option.some.inj (n1.symm.trans m1); have n3':=n3.of_same (execOp_put o3 (fun cs b=>hsel j o3 cs b m1) a o.dst v g1).symm (wanted_put o3 a o.dst v g1).symm; have:=yields_unique m2 (hR.refl w0) m3' n3'; subst this; rw [← Act.put_comm a v v2 g2]; exact n4
  | some T =>
   obtain⟨o2,m1,m2,m3,m4,m5⟩:=ih v0 hv0; obtain rfl:o2=oe:=Option.some.inj (m1.symm.trans k2); rw [wanted_put o2 a o.dst v0 g1] at m2; refine⟨o2,m1,m2,m3,fun w hw hf=>?_,fun u hu=>⟨o,h1,by rw [wanted_put o a o2.dst u g3]; exact h2,⟨v0,hv0⟩,fun w hw hf=>?_,fun v hv=>?_⟩⟩
   ·have:=m4 w hw (fun p hp hin=>by
     rcases List.mem_cons.1 hp with rfl|hp
     ·exact absurd hin k4
     ·exact hf p hp hin)
    rw [execOp_put o2 (fun cs b=>hsel j o2 cs b m1) a o.dst v0 g1] at this; exact this
   ·rw [execOp_put o (fun cs b=>hsel i o cs b h1) a o2.dst u g3]
    exact h4 w hw (hf.sub fun p hp=>List.mem_cons_of_mem _ hp)
   ·obtain⟨o3,n1,n2,n3,n4,n5⟩:=ih v hv
    obtain rfl:o3=o2:=Option.some.inj (n1.symm.trans m1); rw [← Act.put_comm a v u g2]; refine seqF_mono hQ _ _ _ _ (fun p hp=>?_) (n5 u hu); simp only [List.mem_cons] at hp ⊢; rcases hp with h|h|h
    ·exact .inr (.inl h)
    ·exact .inl h
    ·exact .inr (.inr h)
theorem topo_pull{e:Nat} {l2:List Nat}:∀ (l1:List Nat) (x:Array Bool),topo md ops (l1++e::l2) x=true→topo md ops (l1++l2) (x.setIfInBounds e true)=true
 | [],x,h=>by
  simp only [List.nil_append,topo,Bool.and_eq_true] at h; exact h.2
 | j::l1,x,h=>by
  simp only [List.cons_append,topo,Bool.and_eq_true] at h ⊢; obtain⟨o,ho,hd⟩:=depsOK_iff.1 h.1; refine⟨depsOK_iff.2 ⟨o,ho,fun e he hb=>getD_set_true (hd e he hb)⟩,?_⟩; have:=topo_pull l1 _ h.2; by_cases hje:j=e
  ·subst hje
   exact this
  ·rw [Array.setIfInBounds_comm _ _ (fun h=>hje h.symm)]
   exact this
theorem pairsF_pull{e:Nat × List Nat} {l2:List (Nat × List Nat)}:∀ (l1:List (Nat × List Nat)),pairsF md ops (l1++e::l2)=true→pairsF md ops (l1++l2)=true∧∀ x∈l1,pairF md ops x e=true
 | [],h=>by
  simp only [List.nil_append,pairsF,Bool.and_eq_true] at h; exact⟨h.2,fun x hx=>by cases hx⟩
 | y::l1,h=>by
  simp only [List.cons_append,pairsF,Bool.and_eq_true,List.all_append,List.all_cons] at h ⊢; obtain⟨⟨h1,h2,h3⟩,h4⟩:=h; obtain⟨k1,k2⟩:=pairsF_pull l1 h4; refine⟨⟨⟨h1,h3⟩,k1⟩,fun x hx=>?_⟩; rcases List.mem_cons.1 hx with rfl|hx
  ·exact h2
  ·exact k2 x hx
theorem wpAny_seqF{Q:Act→Facts→Prop} {Q':Exit→Act→World→Prop} {M:List Nat} {base:Array Bool} {g:Nat} (hR:Rely R) (hQm:∀ a Fs Fs',(∀ p∈Fs,p∈Fs')→Q a Fs→Q a Fs') (hsel:∀ (j:Nat) (o:Oper) cs b,ops[j]?=some o→o.op≠.select cs b)
  (hc:closedB md ops base M=true) (fin:Array Bool) (hfin:∀ listed:Array Bool,Inv md ops M base listed→(∀ j∈M,listed.getD j true=true)→listed=fin)
  (hQ:∀ a Fs w,R w0 w→(∀ p∈Fs,p.2 w)→Q a Fs→wpAny P md ops Q' g fin a w) :
  ∀ (n:Nat) (l:List Elt) (listed:Array Bool) (a:Act) (Fs:Facts) (w:World),l.length=n→Inv md ops M base listed→(∀ x∈l,x.1∈M∧listed.getD x.1 true=false)→(∀ j∈M,listed.getD j true=false→∃ x∈l,x.1=j)→(l.map (·.1)).Nodup →
   topo md ops (l.map (·.1)) listed=true→pairsF md ops (l.map fun x=>(x.1,x.2.1))=true→(∀ x∈l,∀ T,x.2.2=some T→Stable R T)→R w0 w→(∀ p∈Fs,p.2 w)→(∀ p∈Fs,∀ w w',R w w'→p.2 w→p.2 w') →
   seqF P ops R w0 Q l a Fs→wpAny P md ops Q' (n+g) listed a w:=by
 intro n
 induction n with
 | zero =>
  intro l listed a Fs w hl inv hm1 hm2 _ _ _ _ hw hF _ h; obtain rfl:=List.eq_nil_of_length_eq_zero hl; have:listed=fin:=hfin listed inv fun j hj=>by
   cases hj':listed.getD j true
   ·obtain⟨x,hx,_⟩:=hm2 j hj hj'
    cases hx
   ·rfl
  subst this; rw [Nat.zero_add]; exact hQ a Fs w hw hF h
 | succ n ih =>
  intro l listed a Fs w hl inv hm1 hm2 hnd htopo hpair hst hw hF hFs h; rw [show n+1+g=(n+g)+1 by omega]; have hne:Region.ready md ops listed≠[]:=fun h0=>by
   cases l with
   | nil=>cases hl
   | cons x l =>
    simp only [List.map_cons,topo,Bool.and_eq_true] at htopo; obtain⟨o,ho,hd⟩:=depsOK_iff.1 htopo.1; have:x.1∈Region.ready md ops listed:=mem_ready.2 ⟨(hm1 x List.mem_cons_self).2,o,ho,hd⟩; rw [h0] at this
    cases this
  refine⟨fun h0=>absurd h0 hne,fun i hi=>?_⟩; have hil:∃ x∈l,x.1=i:=by
   cases l with
   | nil=>cases hl
   | cons y l0 =>
    have hy:=hm1 y List.mem_cons_self; exact hm2 i (inv.stays hc hy.1 hy.2 hi) (mem_ready.1 hi).1
  obtain⟨e,he,rfl⟩:=hil; obtain⟨l1,l2,rfl⟩:=List.append_of_mem he; obtain⟨hun,oe,hoe,hall⟩:=mem_ready.1 hi; simp only [List.map_append,List.map_cons] at hpair htopo hnd; obtain⟨hp1,hp2⟩:=pairsF_pull _ hpair; have hap:∀ x∈l1,apartF ops (x.1,x.2.1) (e.1,e.2.1):=fun x hx=>by
   have h1:=hp2 _ (List.mem_map_of_mem hx); unfold pairF at h1; have hxl:=hm1 x (List.mem_append_left _ hx); simp only [hoe] at h1
   cases hox:ops[x.1]? with
   | none=>simp only [hox] at h1; cases h1
   | some ox =>
    simp only [hox,Bool.or_eq_true,Bool.and_eq_true] at h1; rcases h1 with h1|⟨h1,h2⟩
    ·exfalso
     obtain⟨d,hd,hdd⟩:=Array.any_eq_true'.1 h1; simp only [Bool.and_eq_true,beq_iff_eq] at hdd; have h3:=hall d hd hdd.1; rw [hdd.2,getD_both hxl.2] at h3
     cases h3
    ·exact⟨ox,oe,hox,hoe,h1,by simpa using h2⟩
  have hpl:=seqF_pull hR hQm hsel e l2 l1 a Fs hap h; have inv':=inv.set (hm1 e he).1 hi; have hsz:e.1<listed.size:=by
   rw [inv.size]; exact(Array.getElem?_eq_some_iff.1 hoe).1
  have hnm:∀ x∈l1++l2,x.1≠e.1:=fun x hx heq=>by
   rw [List.nodup_append] at hnd; obtain⟨n1,n2,n3⟩:=hnd; rcases List.mem_append.1 hx with hx|hx
   ·exact n3 _ (List.mem_map_of_mem hx) _ List.mem_cons_self heq
   ·exact(List.nodup_cons.1 n2).1 (by rw [← heq]; exact List.mem_map_of_mem hx)
  have step:∀ (a':Act) (Fs':Facts) (w':World),R w0 w'→(∀ p∈Fs',p.2 w')→(∀ p∈Fs',∀ w w',R w w'→p.2 w→p.2 w')→seqF P ops R w0 Q (l1++l2) a' Fs'→wpAny P md ops Q' (n+g) (listed.setIfInBounds e.1 true) a' w':=fun a' Fs' w' hw' hF' hFs' hs'=>by
   refine ih (l1++l2) _ a' Fs' w' (by simp at hl ⊢; omega) inv' (fun x hx=>⟨?_,?_⟩) (fun j hj hju=>?_) ?_ ?_ ?_ (fun x hx=>?_) hw' hF' hFs' hs'
   ·exact(hm1 x (by rcases List.mem_append.1 hx with h|h; exact List.mem_append_left _ h; exact List.mem_append_right _ (List.mem_cons_of_mem _ h))).1
   ·rw [getD_set_ne true (Ne.symm (hnm x hx))]
    exact(hm1 x (by rcases List.mem_append.1 hx with h|h; exact List.mem_append_left _ h; exact List.mem_append_right _ (List.mem_cons_of_mem _ h))).2
   ·have hje:e.1≠j:=fun heq=>by
     subst heq; simp [hsz] at hju
    rw [getD_set_ne true hje] at hju; obtain⟨x,hx,hxj⟩:=hm2 j hj hju; refine⟨x,?_,hxj⟩; rcases List.mem_append.1 hx with h|h
    ·exact List.mem_append_left _ h
    ·rcases List.mem_cons.1 h with rfl|h
     ·exact absurd hxj hje
     ·exact List.mem_append_right _ h
   ·rw [List.map_append]
    rw [List.nodup_append] at hnd ⊢; obtain⟨n1,n2,n3⟩:=hnd; exact⟨n1,(List.nodup_cons.1 n2).2,fun x hx y hy=>n3 x hx y (List.mem_cons_of_mem _ hy)⟩
   ·rw [List.map_append]
    exact topo_pull _ _ htopo
   ·rw [List.map_append]
    exact hp1
   ·exact hst x (by rcases List.mem_append.1 hx with h|h; exact List.mem_append_left _ h; exact List.mem_append_right _ (List.mem_cons_of_mem _ h))
  obtain⟨j,ln,T⟩:=e
  cases T with
  | none =>
   obtain⟨o,v,m1,m2,m3,m4⟩:=hpl; exact wpOp_calm2 (C:=R w0) (by unfold calmAt2; rw [m1]; exact m2) hw (fun a' ha'=>step a' Fs w hw hF hFs ha') (m3.qOp m1 m4)
  | some T =>
   obtain⟨o,m1,m2,m3,m4,m5⟩:=hpl; have hsT:=hst _ he T rfl; have fin2:∀ v w',R w w'→T v w'→wpAny P md ops Q' (n+g) (listed.setIfInBounds j true) (a.put o.dst v) w':=fun v w' hww hTv =>
    step _ _ w' (hR.trans hw hww) (fun p hp=>by
     rcases List.mem_cons.1 hp with rfl|hp
     ·exact hTv
     ·exact hFs p hp _ _ hww (hF p hp)) (fun p hp=>by
     rcases List.mem_cons.1 hp with rfl|hp
     ·exact fun w1 w2 h12 h1=>hsT _ _ _ h12 h1
     ·exact hFs p hp) (m5 v ⟨w',hTv⟩)
   unfold wpOp; simp only [m1]; rw [if_pos m2]; refine .inl ?_; have hgw:=m4 w hw (fun p hp _=>hF p hp); unfold Oper.wp; generalize (execOp a.eval o).run P w=r at *
   cases r with
   | ok m w' =>
    cases m <;> simp only [gives] at hgw <;> simp only [Oper.upon]
    case value u=>exact fin2 u w' hgw.1 hgw.2
    case skip=>exact fin2 undef w' hgw.1 hgw.2
    case enter f' args =>
     obtain⟨rfl,hcall⟩:=hgw; exact hcall.mono fun e w'' ⟨v,he,h1,h2⟩=>by subst he; exact fin2 v w'' h1 h2
   | halt q w'=>simp only [gives] at hgw
theorem seqF_reads{Q:Act→Facts→Prop} {rest:List Elt} {Fs:Facts}:∀ (r:List Nat) (a:Act) (K:Act→Prop),(∀ i∈r,calmAt2 ops i=true)→wpQuiet P ops (R w0) K (r.filterMap (ops[·]?)) a→(∀ a',K a'→seqF P ops R w0 Q rest a' Fs) →
  seqF P ops R w0 Q (r.map (fun i=>((i,[],none):Elt))++rest) a Fs
 | [],a,K,_,h,hk=>hk a h
 | i::r,a,K,hc,h,hk=>by
  have hci:=hc i List.mem_cons_self; unfold calmAt2 at hci
  cases ho:ops[i]? with
  | none=>rw [ho] at hci; cases hci
  | some o =>
   rw [ho] at hci; have hstp:qOp P ops (R w0) i (wpQuiet P ops (R w0) K (r.filterMap (ops[·]?))) a:=by
    unfold qOp; simp only [ho]; rw [List.filterMap_cons_some ho] at h; exact h
   obtain⟨v,hy,hK⟩:=yieldsIn_of_qOp ho hstp; exact⟨o,v,ho,hci,hy,seqF_reads r _ K (fun j hj=>hc j (List.mem_cons_of_mem _ hj)) hK hk⟩
end
abbrev FItem:=List Nat × Nat × List Nat × (Value→World→Prop)
def flatF (S:List FItem):List Elt:=S.flatMap fun s=>s.1.map (fun i=>((i,[],none):Elt))++[(s.2.1,s.2.2.1,some s.2.2.2)]
def idxF (S:List (List Nat × Nat × List Nat)):List (Nat × List Nat):=S.flatMap fun s=>s.1.map (fun i=>(i,[]))++[(s.2.1,s.2.2)]
theorem flatF_idx(S:List FItem):(flatF S).map (fun x=>(x.1,x.2.1))=idxF (S.map fun s=>(s.1,s.2.1,s.2.2.1)):=by
 induction S with
 | nil=>rfl
 | cons s S ih =>
  simp only [flatF,idxF,List.map_cons,List.flatMap_cons,List.map_append] at ih ⊢; rw [ih]; simp
theorem flatF_fst(S:List FItem):(flatF S).map (·.1)=(idxF (S.map fun s=>(s.1,s.2.1,s.2.2.1))).map (·.1):=by
 rw [← flatF_idx,List.map_map]
 rfl
def holdsF (ln:List Nat):Facts→World→Prop
 | [],_=>True
 | (i,f)::Fs,w=>(ln.contains i=true→f w)∧holdsF ln Fs w
def allF:Facts→World→Prop
 | [],_=>True
 | (_,f)::Fs,w=>f w∧allF Fs w
theorem holdsF_of(ln:List Nat) (w:World):∀ Fs,Fits ln Fs w→holdsF ln Fs w
 | [],_=>trivial
 | (i,f)::Fs,h=>⟨fun hi=>h _ List.mem_cons_self (by simpa using hi),holdsF_of ln w Fs fun p hp=>h p (List.mem_cons_of_mem _ hp)⟩
theorem allF_of(w:World):∀ Fs:Facts,(∀ p∈Fs,p.2 w)→allF Fs w
 | [],_=>trivial
 | (_,_)::Fs,h=>⟨h _ List.mem_cons_self,allF_of w Fs fun p hp=>h p (List.mem_cons_of_mem _ hp)⟩
theorem of_allF(w:World):∀ Fs:Facts,allF Fs w→∀ p∈Fs,p.2 w
 | (_,_)::Fs,h,p,hp=>by
  rcases List.mem_cons.1 hp with rfl|hp
  ·exact h.1
  ·exact of_allF w Fs h.2 p hp
def wpFItem (P:Program) (l:List Oper) (i:Nat) (ln:List Nat) (T:Value→World→Prop) (w:World) (K:Act→Facts→Prop) (Fs:Facts) (a:Act):Prop :=
 ∃ o,l.toArray[i]?=some o∧Region.wanted o (yielded l.toArray a.tmps)=true∧(∃ v w',T v w')∧(∀ w',GR w w'→holdsF ln Fs w'→gives P GR T w' ((execOp a.eval o).run P w'))∧∀ v,(∃ w,T v w)→K (a.put o.dst v) ((i,T v)::Fs)
def wpFreeR (P:Program) (l:List Oper) (w:World) (Q:Act→Facts→Prop):List FItem→Act→Facts→Prop
 | [],a,Fs=>Q a Fs
 | (r,i,ln,T)::rest,a,Fs=>wpQuiet P l.toArray (fun w'=>∃ p:Grew,w'=grew w p) (wpFItem P l i ln T w (wpFreeR P l w Q rest) Fs) (pick l r) a
theorem freeR_cons{P:Program} {l:List Oper} {w:World} {Q:Act→Facts→Prop} {r:List Nat} {i:Nat} {ln:List Nat} {T:Value→World→Prop} {rest:List FItem} {a:Act} {Fs:Facts} (h:wpQuiet P l.toArray (fun w'=>∃ p:Grew,w'=grew w p) (wpFItem P l i ln T w (wpFreeR P l w Q rest) Fs) (pick l r) a):wpFreeR P l w Q ((r,i,ln,T)::rest) a Fs:=h
theorem seqF_of_free{P:Program} {l:List Oper} {w:World} {Q:Act→Facts→Prop}:∀ (S:List FItem) (a:Act) (Fs:Facts),(∀ s∈S,∀ i∈s.1,i<l.length∧calmAt2 l.toArray i=true)→wpFreeR P l w Q S a Fs→seqF P l.toArray GR w Q (flatF S) a Fs
 | [],_,_,_,h=>h
 | (r,i,ln,T)::S,a,Fs,hS,h=>by
  have h0:=hS _ List.mem_cons_self; unfold wpFreeR at h; rw [← pick_eq l r (List.all_eq_true.2 fun j hj=>by simpa using (h0 j hj).1)] at h; show seqF P l.toArray GR w Q ((r.map (fun i=>((i,[],none):Elt))++[(i,ln,some T)])++flatF S) a Fs
  rw [List.append_assoc]; refine seqF_reads r a _ (fun j hj=>(h0 j hj).2) h fun a' ⟨o,k1,k2,k3,k4,k5⟩=>?_; exact⟨o,k1,k2,k3,fun w' hw hf=>k4 w' hw (holdsF_of _ _ _ hf),fun v hv=>seqF_of_free S _ _ (fun s hs=>hS s (List.mem_cons_of_mem _ hs)) (k5 v hv)⟩
def freeB (ops:Array Oper) (n:Nat) (S:List (List Nat × Nat × List Nat)) (T:List Nat):Bool :=
 (S.all fun s=>s.1.all fun i=>decide (i<n)&&calmAt2 ops i)&&T.all (fun i=>decide (i<n))&&Region.noSelect ops&&closedB .any ops (Array.replicate n false) ((idxF S).map (·.1))&&decide ((idxF S).map (·.1)).Nodup&&pairsF .any ops (idxF S)&&decide ((idxF S).length+T.length=n)&&seqL .any ops T (lay (Array.replicate n false) ((idxF S).map (·.1)))
theorem wp_region_free{P:Program} {id:Nat} {Q:Exit→Act→World→Prop} {a:Act} {w:World} {l:List Oper} (S:List FItem) (T:List Nat) (hm:P.follows .mixedOrders=true)
  (hB:freeB l.toArray l.length (S.map fun s=>(s.1,s.2.1,s.2.2.1)) T=true) (hst:∀ s∈S,Stable GR s.2.2.2)
  (h:wpFreeR P l w (fun a'' Fs=>∀ w',GR w w'→allF Fs w'→wpList P l.toArray Q (pick l T) a'' w') S a []):(Code.region id l.toArray true).wp P Q a w:=by
 simp only [freeB,Bool.and_eq_true,decide_eq_true_eq] at hB
 obtain⟨⟨⟨⟨⟨⟨⟨b1,b2⟩,b3⟩,b4⟩,b5⟩,b6⟩,b7⟩,b8⟩:=hB
 rw [← pick_eq l T b2] at h
 obtain⟨M,hM⟩:∃ M,(idxF (S.map fun s=>(s.1,s.2.1,s.2.2.1))).map (·.1)=M:=⟨_,rfl⟩
 have hMf:(flatF S).map (·.1)=M:=by rw [flatF_fst,hM]
 have hlen:(flatF S).length+T.length=l.length:=by
  rw [← b7,← flatF_idx,List.length_map]
 rw [hM] at b4 b5 b8
 have hseq:=seqF_of_free S a [] (fun s hs i hi=>by
  have:=List.all_eq_true.1 (List.all_eq_true.1 b1 _ (List.mem_map_of_mem hs)) i hi; simpa using this) h
 have hbsz:(Array.replicate l.length false).size=l.toArray.size:=by simp
 have htopo:topo .any l.toArray M (Array.replicate l.length false)=true:=by
  unfold closedB at b4; simp only [Bool.and_eq_true] at b4; exact b4.1
 have hMlt:∀ j∈M,j<l.toArray.size:=by
  have key:∀ (L:List Nat) (acc:Array Bool),topo .any l.toArray L acc=true→∀ k∈L,k<l.toArray.size:=by
   intro L; induction L with
   | nil=>intro acc _ k hk; cases hk
   | cons k0 L ih =>
    intro acc ht k hk; simp only [topo,Bool.and_eq_true] at ht; rcases List.mem_cons.1 hk with rfl|hk
    ·obtain⟨o,ho,_⟩:=depsOK_iff.1 ht.1
     exact(Array.getElem?_eq_some_iff.1 ho).1
    ·exact ih _ ht.2 k hk
  exact key M _ htopo
 refine wp_region_start hm ?_
 rw [show l.length=(flatF S).length+T.length from hlen.symm]
 rw [show (Array.replicate ((flatF S).length+T.length) false)=Array.replicate l.length false by rw [hlen]]
 refine wpAny_seqF (M:=M) (base:=Array.replicate l.length false) rely_gr (fun a Fs Fs' hs hq w' hw hF=>hq w' hw (allF_of w' Fs fun p hp=>of_allF w' Fs' hF p (hs p hp))) (Region.noSelect_spec b3) b4 (lay (Array.replicate l.length false) M) (fun listed inv hall=>?_) (fun a Fs w' hw hF hq=>wpAny_of_seqL T _ a w' b8 (hq w' hw (allF_of w' Fs hF))) _ (flatF S) _ a [] _ rfl (Inv.refl hbsz) (fun x hx=>⟨by rw [← hMf]; exact List.mem_map_of_mem hx,?_⟩) (fun j hj _=>by
   rw [← hMf] at hj; obtain⟨x,hx,rfl⟩:=List.mem_map.1 hj; exact⟨x,hx,rfl⟩) (by rw [hMf]; exact b5) (by rw [hMf]; exact htopo) (by rw [flatF_idx]; exact b6) (fun x hx T' hT=>?_) (GR.of (Below.refl _ _).drew) (fun p hp=>by cases hp) (fun p hp=>by cases hp) hseq
 ·refine Array.ext (by rw [inv.size,lay_size,hbsz]) fun j h1 h2=>?_
  have e1:listed[j]=listed.getD j true:=by simp [h1]
  have e2:(lay (Array.replicate l.length false) M)[j]=(lay (Array.replicate l.length false) M).getD j true:=by simp [h2]
  rw [e1,e2]; by_cases hj:j∈M
  ·rw [hall j hj,getD_swap (by exact h2)]
   exact(lay_in M _ j hj (by rw [hbsz]; exact hMlt j hj)).symm
  ·rw [inv.out j hj,lay_out M _ j hj]
 ·have:x.1<l.length:=by
   have:=hMlt x.1 (by rw [← hMf]; exact List.mem_map_of_mem hx)
   simpa using this
  simp [this]
 ·obtain⟨s,hs,hx⟩:=List.mem_flatMap.1 hx
  rcases List.mem_append.1 hx with hx|hx
  ·obtain⟨i,_,rfl⟩:=List.mem_map.1 hx
   cases hT
  ·rw [List.mem_singleton.1 hx] at hT
   injection hT with hT
   rw [← hT]; exact hst s hs
end Batch
end
section
open Go.RowKit Mem Led
def jtv (t:Txt):Value:=.agg #[.int .i64 3,.int .i64 0,.string (str t),.slice none 0 0,.slice none 0 0]
theorem jtextG_any(t:Txt) (W:World):Calls Tryz.prog 179 #[.string (str t)] W (fun x w''=>∃ v,x=.returned v∧Batch.GR W w''∧v=jtv t) :=
 (jtext_any t W).mono fun _ _ ⟨he,hb⟩=>⟨_,he,Batch.GR.of hb,rfl⟩
def keyCells (a b c d:Txt):List Value:=rows jsRow [jText a,jText b,jText c,jText d]
theorem vs_blk{w:World} {g k n:Nat} {M:List Value} {e:TypeId} (h:Blk w g M e) (hl:M.length=n * k):Vs w w.heap.size k (some ⟨g,0,none⟩) n M :=
 ⟨hl,fun j u hj=>⟨_,rfl,h.lt,by rw [show (⟨g,0,none⟩:Addr).add j=⟨g,j,none⟩ by simp [Addr.add]; intro h; exact h.symm,h.cell]; exact hj⟩⟩
def KeyG (g:Nat) (w:World) (v:JsV):Prop:=∃ (g7:Nat) (kid x:Txt),v=⟨5,0,[],.slice (some ⟨g7,0,none⟩) 4 4,.slice (some ⟨g,0,none⟩) 4 4⟩∧Blk w g7 (tv keyNames) 9∧Blk w g (keyCells tEd kid tOkp x) 197∧Fine kid∧Fine x∧kid.length≤60∧x.length≤60
theorem KeyG.keyV{g:Nat} {w:World} {v:JsV} (h:KeyG g w v):KeyV w.heap.size w v:=by
 obtain⟨g7,kid,x,rfl,h7,h8,h⟩:=h
 exact⟨_,_,_,_,kid,x,rfl,⟨by omega,by omega,fun h=>by cases h⟩,vs_blk h7 rfl,vs_blk h8 rfl,h⟩
theorem KeyG.chg{g:Nat} {S:Option Nat} {w w':World} {v:JsV} (h:KeyG g w v) (hS:S≠some g) (hT:∀ k M,S=some k→Blk w k M 9→False) (hk:∀ k,k<w.heap.size→S≠some k→w'.heap[k]?=w.heap[k]?):KeyG g w' v:=by
 obtain⟨g7,kid,x,rfl,h7,h8,h⟩:=h
 refine⟨g7,kid,x,rfl,?_,?_,h⟩
 ·unfold Blk
  rw [hk g7 h7.lt (fun e=>hT g7 _ e h7)]; exact h7
 ·unfold Blk
  rw [hk g h8.lt hS]; exact h8
theorem KeyG.below{g:Nat} {w w':World} {v:JsV} (h:KeyG g w v) (hb:Below w.heap.size w w'):KeyG g w' v:=h.chg (S:=none) (by simp) (fun _ _ h=>by cases h) fun k hk _=>hb.block k hk
theorem jkey_any(k:Led.Jwk) (w:World) (hx:k.x.length≤40) (hk:Fine k.kid) (hkl:k.kid.length≤60) :
  Calls Tryz.prog 177 #[.agg #[.string (str k.kid),.string (str k.x)]] w fun e w'=>∃ v:JsV,e=.returned (.agg (jsRow v).toArray)∧(∃ g,w.heap.size≤g∧KeyG g w' v)∧Below w.heap.size w w':=by
 obtain⟨W,hW⟩:∃ W,(w.alloc (.cells ([.string (str k.kid),.string (str k.x)]:List Value).toArray 54)).alloc (.cells (jsRow ⟨0,0,[],.slice none 0 0,.slice none 0 0⟩).toArray 197)=W:=⟨_,rfl⟩
 have B0:Blk W w.heap.size [.string (str k.kid),.string (str k.x)] 54:=by rw [← hW]; exact(Blk.new _ _ _).alloc _
 have B1:Blk W (w.heap.size+1) (jsRow ⟨0,0,[],.slice none 0 0,.slice none 0 0⟩) 197:=by
  have:=Blk.new (w.alloc (.cells ([.string (str k.kid),.string (str k.x)]:List Value).toArray 54)) (jsRow ⟨0,0,[],.slice none 0 0,.slice none 0 0⟩) 197; rw [← hW]; simpa using this
 have hbw:Below w.heap.size w W:=by rw [← hW]; exact((Below.refl _ _).alloc (Nat.le_refl _) _).alloc (by simp) _
 have HW:Hid ((w.alloc (.cells #[.string (str k.kid),.string (str k.x)] 54)).alloc (.cells #[.int .i64 0,.int .i64 0,.string ⟨#[]⟩,.slice none 0 0,.slice none 0 0] 197)=W):=Lib.hid hW
 clear hW
 have f0:∀ p,(Batch.grew W p).cell? ⟨w.heap.size,0,none⟩=some (.string (str k.kid)):=fun p=>(B0.below (Batch.grew_below W p)).cell 0
 have f1:∀ p,(Batch.grew W p).cell? ⟨w.heap.size,1,none⟩=some (.string (str k.x)):=fun p=>(B0.below (Batch.grew_below W p)).cell 1
 have HEN:Hid (∀ (g c:Nat) (W':World),Bs W' W'.heap.size (some ⟨g,0,none⟩) k.x.length k.x→Calls Tryz.prog 198 #[.slice (some ⟨g,0,none⟩) k.x.length c] W' (fun x w''=>∃ v,x=.returned v∧Batch.GR W' w''∧v=.string (str (B64.enc k.x)))):=Lib.hid fun g c W' h =>
  (encode_any (some ⟨g,0,none⟩) k.x.length c W'.heap.size k.x W' h (by omega) (Nat.le_refl _)).mono fun e w' ⟨he,hb⟩=>⟨_,he,Batch.GR.of hb,rfl⟩
 have HFE:=Lib.hid (fine_enc k.x)
 have HLE:=Lib.hid (show (B64.enc k.x).length≤60 by rw [B64.enc_length]; omega)
 obtain⟨en,hen⟩:∃ en,Hid (B64.enc k.x=en):=⟨_,Lib.hid rfl⟩
 rw [hen.out] at HEN HFE HLE
 have hs1:str tEd=⟨#[69,100,50,53,53,49,57]⟩:=rfl
 have hs2:str tOkp=⟨#[79,75,80]⟩:=rfl
 have HT1:=Lib.hid (fun W'=>jtextG_any tEd W')
 have HT2:=Lib.hid (fun W'=>jtextG_any k.kid W')
 have HT3:=Lib.hid (fun W'=>jtextG_any tOkp W')
 have HT4:=Lib.hid (fun W'=>jtextG_any en W')
 rw [hs1] at HT1
 rw [hs2] at HT3
 clear hs1 hs2
 go_enter Tryz.func177,Tryz.ntmps177
 go_upto_region 1 with fail
 rw [HW.out]
 clear HW
 refine Batch.wp_region_free [([],1,[],fun v w'=>v=jtv tEd),([2,3],4,[],fun v w'=>v=jtv k.kid),([],5,[],fun v w'=>v=jtv tOkp),([6,7],8,[],fun v w'=>∃ g c,v=.slice (some ⟨g,0,none⟩) k.x.length c∧Bs w' w'.heap.size (some ⟨g,0,none⟩) k.x.length k.x),([],9,[8],fun v w'=>v=.string (str en)),([],10,[],fun v w'=>v=jtv en),([],0,[],fun v w'=>∃ g,v=.slice (some ⟨g,0,none⟩) 4 4∧Blk w' g (tv keyNames) 9),([],11,[],fun v w'=>∃ g,W.heap.size≤g∧v=.slice (some ⟨g,0,none⟩) 4 4∧Blk w' g (keyCells tEd k.kid tOkp en) 197)] [12,13] (by kernel_rfl) (by kernel_rfl) (by
  intro x hx; simp only [List.mem_cons,List.not_mem_nil,or_false] at hx; rcases hx with rfl|rfl|rfl|rfl|rfl|rfl|rfl|rfl
  ·exact Batch.stable_gr fun v w w' hb h=>h
  ·exact Batch.stable_gr fun v w w' hb h=>h
  ·exact Batch.stable_gr fun v w w' hb h=>h
  ·exact Batch.stable_gr fun v w w' hb ⟨g,c,e,h⟩=>⟨g,c,e,vs_below h hb⟩
  ·exact Batch.stable_gr fun v w w' hb h=>h
  ·exact Batch.stable_gr fun v w w' hb h=>h
  ·exact Batch.stable_gr fun v w w' hb ⟨g,e,h⟩=>⟨g,e,h.below hb⟩
  ·exact Batch.stable_gr fun v w w' hb ⟨g,hg,e,h⟩=>⟨g,hg,e,h.below hb⟩) ?_
 refine Batch.freeR_cons ?_
 simp only [Batch.pick,List.getD_cons_zero,List.getD_cons_succ]
 refine wpQuiet_nil ?_
 refine⟨_,rfl,rfl,?_,?_,?_⟩
 ·exact⟨_,W,rfl⟩
 ·intro w5 hw5 _
  go_simp
  exact⟨rfl,HT1.out w5⟩
 rintro v1 ⟨_,rfl⟩
 refine Batch.freeR_cons ?_
 simp only [Batch.pick,List.getD_cons_zero,List.getD_cons_succ,List.getElem_toArray,List.getElem_cons_succ,List.getElem_cons_zero,Act.put,List.setIfInBounds_toArray,List.set_cons_zero,List.set_cons_succ]
 repeat (go_big_quiet_step (fail))
 refine wpQuiet_nil ?_
 refine⟨_,rfl,rfl,?_,?_,?_⟩
 ·exact⟨_,W,rfl⟩
 ·intro w5 hw5 _
  go_simp
  exact⟨rfl,HT2.out w5⟩
 rintro v2 ⟨_,rfl⟩
 refine Batch.freeR_cons ?_
 simp only [Batch.pick,List.getElem_toArray,List.getElem_cons_succ,List.getElem_cons_zero,Act.put,List.setIfInBounds_toArray,List.set_cons_zero,List.set_cons_succ]
 refine wpQuiet_nil ?_
 refine⟨_,rfl,rfl,?_,?_,?_⟩
 ·exact⟨_,W,rfl⟩
 ·intro w5 hw5 _
  go_simp
  exact⟨rfl,HT3.out w5⟩
 rintro v3 ⟨_,rfl⟩
 refine Batch.freeR_cons ?_
 simp only [Batch.pick,List.getD_cons_zero,List.getD_cons_succ,List.getElem_toArray,List.getElem_cons_succ,List.getElem_cons_zero,Act.put,List.setIfInBounds_toArray,List.set_cons_zero,List.set_cons_succ]
 repeat (go_big_quiet_step (fail))
 refine wpQuiet_nil ?_
 refine⟨_,rfl,rfl,?_,?_,?_⟩
 ·obtain⟨wc,cc,_,hbs,_⟩:=conv_txt k.x W
  exact⟨_,wc,_,cc,rfl,hbs⟩
 ·intro w5 hw5 _
  obtain⟨wc,cc,hcv,hbs,hbc⟩:=conv_txt k.x w5; go_simp
  exact⟨Batch.GR.of hbc,_,⟨cc,rfl⟩,hbs⟩
 rintro v4 ⟨_,g1,c1,rfl,_⟩
 refine Batch.freeR_cons ?_
 simp only [Batch.pick,List.getElem_toArray,List.getElem_cons_succ,List.getElem_cons_zero,Act.put,List.setIfInBounds_toArray,List.set_cons_zero,List.set_cons_succ]
 refine wpQuiet_nil ?_
 refine⟨_,rfl,rfl,?_,?_,?_⟩
 ·exact⟨_,W,rfl⟩
 ·rintro w5 hw5 ⟨h8,_⟩
  obtain⟨g2,c2,he,hbs⟩:=h8 rfl; injection he with he1 he2 he3
  injection he1 with he1
  injection he1 with he1
  subst he1; go_simp
  exact⟨rfl,HEN.out g1 _ w5 hbs⟩
 rintro v5 ⟨_,rfl⟩
 refine Batch.freeR_cons ?_
 simp only [Batch.pick,List.getElem_toArray,List.getElem_cons_succ,List.getElem_cons_zero,Act.put,List.setIfInBounds_toArray,List.set_cons_zero,List.set_cons_succ]
 refine wpQuiet_nil ?_
 refine⟨_,rfl,rfl,?_,?_,?_⟩
 ·exact⟨_,W,rfl⟩
 ·intro w5 hw5 _
  go_simp
  exact⟨rfl,HT4.out w5⟩
 rintro v6 ⟨_,rfl⟩
 refine Batch.freeR_cons ?_
 simp only [Batch.pick,List.getElem_toArray,List.getElem_cons_succ,List.getElem_cons_zero,Act.put,List.setIfInBounds_toArray,List.set_cons_zero,List.set_cons_succ]
 refine wpQuiet_nil ?_
 refine⟨_,rfl,rfl,?_,?_,?_⟩
 ·exact⟨_,_,_,rfl,Blk.new W (tv keyNames) _⟩
 ·intro w5 hw5 _
  go_simp
  exact⟨Batch.GR.of ((Below.refl _ _).alloc (Nat.le_refl _) _),w5.heap.size,rfl,Blk.new w5 (tv keyNames) _⟩
 rintro v7 ⟨_,g7,rfl,_⟩
 refine Batch.freeR_cons ?_
 simp only [Batch.pick,List.getElem_toArray,List.getElem_cons_zero,Act.put,List.setIfInBounds_toArray,List.set_cons_zero,List.set_cons_succ]
 unfold jtv
 refine wpQuiet_nil ?_
 refine⟨_,rfl,rfl,?_,?_,?_⟩
 ·exact⟨_,_,_,Nat.le_refl _,rfl,Blk.new W (keyCells tEd k.kid tOkp en) _⟩
 ·intro w5 hw5 _
  go_simp
  exact⟨Batch.GR.of ((Below.refl _ _).alloc (Nat.le_refl _) _),w5.heap.size,hw5.below.size,rfl,Blk.new w5 (keyCells tEd k.kid tOkp en) _⟩
 rintro v8 ⟨_,g8,hg8,rfl,_⟩ w6 hw6 hF
 obtain⟨h8,h7,_⟩:=hF
 obtain⟨_,e7,hB7⟩:=h7
 obtain⟨_,_,e8,hB8⟩:=h8
 injection e7 with e7
 injection e7 with e7
 injection e7 with e7
 subst e7
 injection e8 with e8
 injection e8 with e8
 injection e8 with e8
 subst e8
 have hb6:=hw6.below
 have B6:=B1.below hb6
 have hbw6:=hbw.trans (hb6.mono hbw.size)
 obtain⟨v,hv⟩:∃ v:JsV,v=⟨5,0,[],.slice (some ⟨g7,0,none⟩) 4 4,.slice (some ⟨g8,0,none⟩) 4 4⟩:=⟨_,rfl⟩
 obtain⟨hst,BK⟩:=store_js B6 (vs:=jsRow v) rfl rfl (jsRow_one _ (by rw [hv]; rfl) (by rw [hv]; rfl))
 have hn7:g7≠w.heap.size+1:=fun e=>by
  rw [e] at hB7; have:=hB7.symm.trans B6; simp at this
 have hn8:g8≠w.heap.size+1:=fun e=>by
  rw [e] at hB8; have:=hB8.symm.trans B6; injection this with this
  injection this with this
  have:=congrArg Array.size this; simp [keyCells,rows,jsRow] at this
 have hcn:Chg [w.heap.size+1] w6 (w6.setCells (w.heap.size+1) 0 (jsRow v)):=(Chg.refl _ _).setCells _ (.inl (by simp))
 obtain⟨w7,hw7⟩:∃ w7,w6.setCells (w.heap.size+1) 0 (jsRow v)=w7:=⟨_,rfl⟩
 rw [hw7] at hst BK hcn
 have hB7':Blk w7 g7 (tv keyNames) 9:=hB7.chg hcn (by simpa using hn7)
 have hB8':Blk w7 g8 (keyCells tEd k.kid tOkp en) 197:=hB8.chg hcn (by simpa using hn8)
 have hbw7:Below w.heap.size w w7:=hbw6.trans ⟨hcn.os,hcn.tape,hcn.output,hcn.size,fun i hi=>hcn.block i (Nat.lt_of_lt_of_le hi hbw6.size) (by simp; omega)⟩
 have hst':(stJs (.pointer (some ⟨w.heap.size+1,0,none⟩)) (.agg #[.int .i64 5,.int .i64 0,.string ⟨#[]⟩,.slice (some ⟨g7,0,none⟩) 4 4,.slice (some ⟨g8,0,none⟩) 4 4])).run Tryz.prog w6=.ok () w7:=by
  rw [hv] at hst; exact hst
 have hH:=BK.has (n:=5) rfl
 have hA:=BK.arr (n:=5) rfl
 have hK:KeyG g8 w7 v:=⟨g7,k.kid,en,hv,hB7',hB8',hk,HFE.out,hkl,HLE.out⟩
 have HK:=Lib.hid hK
 clear hK hst hw7 hcn hB7 hB8 hB7' hB8' B6 BK hw6 hb6 hbw6 HT1 HT2 HT3 HT4 HEN HFE HLE f0 f1 B0 B1
 go_wp2_with fail
 (try rw [Batch.Qn_normal])
 (try go_wp2)
 refine bodyPost_ret (results_arr (P:=Tryz.prog) Tryz.results177 _ _ (w.heap.size+1) 0 5 _ rfl Tryz.underlying197 rfl sizeJs hH) rfl ?_
 exact⟨v,congrArg (fun a=>Ending.returned (Value.agg a)) hA,⟨g8,Nat.le_trans hbw.size hg8,HK.out⟩,hbw7⟩
end
section
open Go.RowKit Mem Led
theorem infoJs:(Tryz.prog.info? 197).map (fun i=>(i.zero,i.size,i.bytes))=some (some (.agg #[.int .i64 0,.int .i64 0,.string ⟨#[]⟩,.slice none 0 0,.slice none 0 0]),5,80):=by kernel_rfl
theorem inner_fine:∀ n,n<256→Ids.inner (UInt8.ofNat n)=true→(UInt8.ofNat n).toNat≤126∧32≤(UInt8.ofNat n).toNat∧(UInt8.ofNat n).toNat≠34∧(UInt8.ofNat n).toNat≠92:=by decide +kernel
theorem domain_fine{t:Txt} (h:Ids.domain t=true):Fine t∧t.length≤300:=by
 unfold Ids.domain Ids.allOf at h
 simp only [Bool.and_eq_true,decide_eq_true_eq] at h
 have key:∀ c∈t,c.toNat≤126∧32≤c.toNat∧c.toNat≠34∧c.toNat≠92:=fun c hc=>by
  have h1:=inner_fine c.toNat c.toNat_lt; rw [UInt8.ofNat_toNat] at h1; exact h1 (List.all_eq_true.1 h.1.2.1 c hc)
 exact⟨⟨fun c hc=>(key c hc).1,fun c hc=>(key c hc).2⟩,by omega⟩
theorem pmay_spec{b:Led.Bundle} (h:Led.pmay b=true):Fine b.domain∧b.domain.length≤300∧(∃ m:Nat,b.number=(m:Int)∧m≤1000000000000000)∧b.keys.length≤8∧∀ k∈b.keys,k.x.length≤40∧Fine k.kid∧k.kid.length≤60:=by
 unfold Led.pmay within at h
 simp only [Bool.and_eq_true,decide_eq_true_eq] at h
 obtain⟨⟨⟨⟨h1,h2,h2'⟩,h3⟩,h4⟩,_⟩:=h
 obtain⟨g1,g2⟩:=domain_fine h1
 refine⟨g1,g2,⟨b.number.toNat,by omega,by omega⟩,h3,fun k hk=>?_⟩
 have:=List.all_eq_true.1 h4 k hk
 simp only [Bool.and_eq_true,beq_iff_eq] at this
 rw [this.2]
 exact⟨by omega,fine_pname _,by rw [Sha.pname_len]; omega⟩
theorem own_kids{w:World} {base n g:Nat} {v:Value} {Ks:List JsV} {k:JsV} (h:w.ownsRow base 197 5 v n (rows jsRow Ks)) (hk:∀ k∈Ks,k.kind=5) (h0:Ks≠[]) (hg:KeyG g w k):v.ownBlock≠some g:=by
 obtain⟨g7,kid,x,rfl,_,h8,_⟩:=hg
 rcases h.2 with⟨rfl,_⟩|⟨g1,c,cur,rfl,_,hh,_,_,_,htk⟩
 ·simp [Value.ownBlock]
 ·intro hh2
  simp only [Value.ownBlock,Option.some.injEq] at hh2; subst hh2; have e:=h8.symm.trans hh; injection e with e
  injection e with e
  rw [← e] at htk
  cases Ks with
  | nil=>exact h0 rfl
  | cons k1 Ks =>
   have h5:=hk k1 List.mem_cons_self; have hl:=h.1; rw [rows_cons,List.length_append,jsRow_len] at hl; have e0:=congrArg (fun L=>L[0]?) htk; simp only [rows_cons] at e0; rw [List.getElem?_append_left (by rw [jsRow_len]; omega),List.getElem?_take_of_lt (by omega)] at e0
   simp [keyCells,rows,jsRow,jText] at e0
   omega
theorem keys_grown{w w':World} {base n:Nat} {v:Value} {Ks:List JsV} {xs:List Value} (h:w.ownsRow base 197 5 v n xs) (hg:w.grownBy w' v.ownBlock) (hne:∀ k∈Ks,∃ g,KeyG g w k∧v.ownBlock≠some g):∀ k∈Ks,∃ g,KeyG g w' k:=fun k hk=>by
 obtain⟨g,h1,h2⟩:=hne k hk
 exact⟨g,h1.chg (S:=v.ownBlock) h2 (fun q M hq hB=>own_ne h hB (by decide) hq) fun q hq hqne=>hg.block q hq (fun e=>hqne e.symm)⟩
theorem ldJwk_blk{w:World} {g:Nat} {k:Led.Jwk} {t:TypeId} (h:Blk w g (jwkRow k) t):(ldJwk (.pointer (some ⟨g,0,none⟩))).run Tryz.prog w=.ok (.agg (jwkRow k).toArray) w :=
 load_cells Tryz.underlying54 rfl sizeJwk2 rfl fun j u hj=>by rw [h.cell,Nat.zero_add]; exact hj
theorem jwkWrite_any(b:Led.Bundle) (kv:Value) (w:World) (hkv:ElemsAt jwkRow 2 w kv b.keys) (hd:b.domain.length≤9223372036854775807) (hk:b.keys.length≤1000) (hkz:∀ k∈b.keys,k.kid.length≤1000000∧k.x.length≤1000000) (hT:Tab Sha.kkL w) :
  Calls Tryz.prog 149 #[.agg (bunRow (b,kv)).toArray] w fun e w'=>(∃ s,e=.returned (.tuple #[.string s,.int .i64 (if Led.pmay b then 0 else 1)]))∧Below w.heap.size w w':=by
 obtain⟨A,n,c,rfl,hf,hv⟩:=hkv
 have hl:=hv.len jwkRow_len (by omega)
 obtain⟨W,hW⟩:∃ W,w.alloc (.cells ([.string (str b.domain),.int .i64 b.number,.slice A n c]:List Value).toArray 45)=W:=⟨_,rfl⟩
 have B:Blk W w.heap.size [.string (str b.domain),.int .i64 b.number,.slice A n c] 45:=by rw [← hW]; exact Blk.new _ _ _
 have hbW:Below w.heap.size w W:=by rw [← hW]; exact(Below.refl _ _).alloc (Nat.le_refl _) _
 have hmay:=may_any b (.slice A n c) W ⟨A,n,c,rfl,hf,hv.below hbW⟩ hd hk hkz (hT.below hbW)
 have hld:(ldBun (.pointer (some ⟨w.heap.size,0,none⟩))).run Tryz.prog W=.ok (.agg #[.string (str b.domain),.int .i64 b.number,.slice A n c]) W:=ldBun_blk B rfl
 have hmay:Calls Tryz.prog 176 #[.agg #[.string (str b.domain),.int .i64 b.number,.slice A n c]] W fun e w'=>e=.returned (.bool (Led.pmay b))∧Below W.heap.size W w':=hmay
 have HW:=Lib.hid hW
 clear hW
 show Calls Tryz.prog 149 #[.agg #[.string (str b.domain),.int .i64 b.number,.slice A n c]] w _
 cases hpm:Led.pmay b
 ·rw [hpm] at hmay
  clear hpm; go_enter Tryz.func149,Tryz.ntmps149
  go_upto_region 1 with fail
  rw [show w.alloc (.cells #[.string (str b.domain),.int .i64 b.number,.slice A n c] 45)=W from HW.out]; go_wp2_with fail
  refine hmay.mono ?_; rintro e w1 ⟨rfl,hb1⟩; go_wp2_with fail
  go_ret2; exact⟨⟨_,rfl⟩,hbW.trans (hb1.mono hbW.size)⟩
 ·rw [hpm] at hmay
  obtain⟨hfd,hld3,⟨nb,hnb,hnb2⟩,hn8,hks⟩:=pmay_spec hpm; rw [hnb] at hmay hld B HW ⊢; clear hpm hnb hT hd hkz; rw [hl] at hn8; obtain⟨iJ,hiJ,hj0,hj1,hj2⟩:=info_parts infoJs; rw [if_pos rfl]; go_enter Tryz.func149,Tryz.ntmps149
  go_upto_region 1 with fail
  rw [show w.alloc (.cells #[.string (str b.domain),.int .i64 (nb:Int),.slice A n c] 45)=W from HW.out]; go_wp2_with fail
  refine hmay.mono ?_; rintro e w1 ⟨rfl,hb1⟩; have B1:=B.below hb1; have hbw1:Below w.heap.size w w1:=hbW.trans (hb1.mono hbW.size); have bn:=Blk.new w1 (jsRow ⟨0,0,[],.slice none 0 0,.slice none 0 0⟩) 197; obtain⟨hst,BK⟩:=store_js bn (vs:=jsRow ⟨4,0,[],.slice none 0 0,.slice none 0 0⟩) rfl rfl (jsRow_one _ rfl rfl); obtain⟨w2,hw2⟩:∃ w2,(w1.alloc (.cells (jsRow ⟨0,0,[],.slice none 0 0,.slice none 0 0⟩).toArray 197)).setCells w1.heap.size 0 (jsRow ⟨4,0,[],.slice none 0 0,.slice none 0 0⟩)=w2:=⟨_,rfl⟩; have hcn:Chg [] w1 w2:=by rw [← hw2]; exact((Chg.refl _ _).alloc _).setCells _ (.inr (Nat.le_refl _))
  rw [hw2] at hst BK; have hb2:=hcn.below (fun _ h=>by cases h); have hbw2:Below w.heap.size w w2:=hbw1.trans (hb2.mono hbw1.size); have hst':(stJs (.pointer (some ⟨w1.heap.size,0,none⟩)) (.agg #[.int .i64 4,.int .i64 0,.string ⟨#[]⟩,.slice none 0 0,.slice none 0 0])).run Tryz.prog (w1.alloc (.cells #[.int .i64 0,.int .i64 0,.string ⟨#[]⟩,.slice none 0 0,.slice none 0 0] 197))=.ok () w2:=hst; have B2:=B1.below hb2; have d2:w2.cell? ⟨w.heap.size,2,none⟩=some (.slice A n c):=B2.cell 2; have hown0:w2.ownsRow (w1.heap.size+1) 197 5 (.slice none 0 0) 0 (rows jsRow []):=World.ownsRow_nil _ _ _ _; have hgk:w.heap.size<w1.heap.size:=B1.lt; clear hmay hld B HW hst bn hcn hw2 hb2 hb1 hbW B1; go_wp2_with fail
  clear hst'; go_loopw [6,14] (fun _ i wx=>∃ (j:Nat) (Kv:Value) (Ks:List JsV),j≤n∧i=.int .i64 (j:Int)∧Below w.heap.size w wx∧Blk wx w.heap.size [.string (str b.domain),.int .i64 (nb:Int),.slice A n c] 45∧Blk wx w1.heap.size (jsRow ⟨4,0,[],.slice none 0 0,Kv⟩) 197∧Hid (wx.ownsRow (w1.heap.size+1) 197 5 Kv j (rows jsRow Ks))∧Hid (∀ k∈Ks,k.kind=5∧∃ g,KeyG g wx k)∧Ks.length=j) (fun _ i _=>n - (intOf i).toNat)
  case atStart=>exact⟨0,_,[],by omega,rfl,hbw2,B2,BK,Lib.hid hown0,Lib.hid (fun k hk=>by cases hk),rfl⟩
  case round =>
   clear hbw2 B2 BK hown0 d2; obtain⟨j,Kv,Ks,hj,rfl,hbx,BB,BK,HOWN,HKS,hKl⟩:=hrel; obtain⟨wx,hwx⟩:∃ wx,wx=wr:=⟨_,rfl⟩; subst hwx; by_cases hlt:j<n
   ·have hjl:j<b.keys.length:=by omega
    obtain⟨bk,ok,rfl,hbk,hld⟩:=ldJwk_es hv hjl; have hld1:=hld wx hbx; have HK:=Lib.hid (hks _ (List.getElem_mem hjl)); generalize b.keys[j]=k at *; have bn:=Blk.new wx [.string ⟨#[]⟩,.string ⟨#[]⟩] 54; obtain⟨hst,BN⟩:=store_jwk bn rfl (vs:=[.string (str k.kid),.string (str k.x)]) rfl (jwkRow_one k); obtain⟨w3,hw3⟩:∃ w3,(wx.alloc (.cells ([.string ⟨#[]⟩,.string ⟨#[]⟩]:List Value).toArray 54)).setCells wx.heap.size 0 [.string (str k.kid),.string (str k.x)]=w3:=⟨_,rfl⟩; have hcn:Chg [] wx w3:=by rw [← hw3]; exact((Chg.refl _ _).alloc _).setCells _ (.inr (Nat.le_refl _))
    rw [hw3] at hst BN; have hb3:=hcn.below (fun _ h=>by cases h); have hbw3:Below w.heap.size w w3:=hbx.trans (hb3.mono hbx.size); have hld1':(ldJwk (.pointer (some ⟨bk,ok+j * 2,none⟩))).run Tryz.prog wx=.ok (.agg #[.string (str k.kid),.string (str k.x)]) wx:=hld1; have hst':(stJwk (.pointer (some ⟨wx.heap.size,0,none⟩)) (.agg #[.string (str k.kid),.string (str k.x)])).run Tryz.prog (wx.alloc (.cells #[.string ⟨#[]⟩,.string ⟨#[]⟩] 54))=.ok () w3:=hst; have hjz:(j:Int)<(n:Int):=by omega
    have f0:∀ p,(ldJwk (.pointer (some ⟨wx.heap.size,0,none⟩))).run Tryz.prog (Batch.grew w3 p)=.ok (.agg #[.string (str k.kid),.string (str k.x)]) (Batch.grew w3 p):=fun p=>ldJwk_blk (BN.below (Batch.grew_below w3 p)); have BK3:=BK.below hb3; have f1:∀ p,(Batch.grew w3 p).cell? ⟨w1.heap.size,4,none⟩=some Kv:=fun p=>(BK3.below (Batch.grew_below w3 p)).cell 4; have HJK:Hid (∀ W',Calls Tryz.prog 177 #[.agg #[.string (str k.kid),.string (str k.x)]] W' (fun x w''=>∃ v,x=.returned v∧Batch.GR W' w''∧(∃ g7 g,W'.heap.size≤g∧v=.agg #[.int .i64 5,.int .i64 0,.string ⟨#[]⟩,.slice (some ⟨g7,0,none⟩) 4 4,.slice (some ⟨g,0,none⟩) 4 4]∧KeyG g w'' ⟨5,0,[],.slice (some ⟨g7,0,none⟩) 4 4,.slice (some ⟨g,0,none⟩) 4 4⟩))):=Lib.hid fun W' =>
     (jkey_any k W' HK.out.1 HK.out.2.1 HK.out.2.2).mono fun e w' ⟨v,he,⟨g,hg,hG⟩,hb⟩=>by
      obtain⟨g7,kid,x,rfl,h⟩:=hG; exact⟨_,he,Batch.GR.of hb,g7,g,hg,rfl,g7,kid,x,rfl,h⟩
    clear hld hld1 hst bn hcn hw3 BN BK HK; go_upto_region 7 with fail
    clear hld1' hst'; have hKvlt:∀ g,Kv.ownBlock=some g→g<wx.heap.size:=fun g hg=>(HOWN.out.lt g hg).2; have HOWN3:=Lib.hid (own_below HOWN.out hb3 (Nat.le_refl _)); have HKG3:Hid (∀ k∈Ks,k.kind=5∧∃ g,KeyG g w3 k∧Kv.ownBlock≠some g):=Lib.hid fun q hq=>by
     obtain⟨h1,g,h2⟩:=HKS.out q hq; refine⟨h1,g,h2.below hb3,own_kids HOWN.out (fun k hk=>(HKS.out k hk).1) (fun e=>by rw [e] at hq; cases hq) h2⟩
    have hsz3:=hb3.size; have BB3:=BB.below hb3; clear HOWN HKS BB hb3 hbx; refine Batch.wp_region_turns [([0,1,2],(3,fun v w'=>∃ g7 g,w3.heap.size≤g∧v=.agg #[.int .i64 5,.int .i64 0,.string ⟨#[]⟩,.slice (some ⟨g7,0,none⟩) 4 4,.slice (some ⟨g,0,none⟩) 4 4]∧KeyG g w' ⟨5,0,[],.slice (some ⟨g7,0,none⟩) 4 4,.slice (some ⟨g,0,none⟩) 4 4⟩)),([],(4,fun v w'=>∃ g7 g g8,w3.heap.size≤g∧w3.heap.size≤g8∧v=.slice (some ⟨g8,0,none⟩) 1 1∧Blk w' g8 (jsRow ⟨5,0,[],.slice (some ⟨g7,0,none⟩) 4 4,.slice (some ⟨g,0,none⟩) 4 4⟩) 197∧KeyG g w' ⟨5,0,[],.slice (some ⟨g7,0,none⟩) 4 4,.slice (some ⟨g,0,none⟩) 4 4⟩))] [5,6,7] (by kernel_rfl) (by kernel_rfl) (by
     intro x hx; simp only [List.mem_cons,List.not_mem_nil,or_false] at hx; rcases hx with rfl|rfl
     ·exact Batch.stable_gr fun v w w' hb ⟨g7,g,hg,e,h⟩=>⟨g7,g,hg,e,h.below hb⟩
     ·exact Batch.stable_gr fun v w w' hb ⟨g7,g,g8,hg,hg8,e,hB,h⟩=>⟨g7,g,g8,hg,hg8,e,hB.below hb,h.below hb⟩) ?_
    refine Batch.turnsR_cons ?_; simp only [Batch.pick,List.getD_cons_zero,List.getD_cons_succ]; repeat (go_big_quiet_step (fail))
    refine wpQuiet_nil ?_; refine⟨_,rfl,rfl,?_,?_⟩
    ·intro w5 hw5 _
     go_simp
     refine⟨rfl,(HJK.out w5).mono ?_⟩; rintro e w' ⟨v,he,hG,g7,g,hg,hv,hK⟩; exact⟨v,he,hG,g7,g,Nat.le_trans hw5.below.size hg,hv,hK⟩
    rintro v1 ⟨_,g7,g,hg,rfl,_⟩; refine Batch.turnsR_cons ?_; simp only [Batch.pick,List.getElem_toArray,List.getElem_cons_succ,List.getElem_cons_zero,Act.put,List.setIfInBounds_toArray,List.set_cons_zero,List.set_cons_succ]; refine wpQuiet_nil ?_; refine⟨_,rfl,rfl,?_,?_⟩
    ·rintro w5 hw5 ⟨_,g7',g',hg',he,hK⟩
     injection he with he
     injection he with he
     injection he with _ he
     injection he with _ he
     injection he with _ he
     injection he with he7 he
     injection he with he8 _
     injection he7 with he7 _ _
     injection he7 with he7
     injection he7 with he7
     injection he8 with he8 _ _
     injection he8 with he8
     injection he8 with he8
     subst he7 he8; go_simp
     refine⟨Batch.GR.of ((Below.refl _ _).alloc (Nat.le_refl _) _),g7,g,hg,w5.heap.size,hw5.below.size,rfl,Blk.new w5 _ _,hK.below ((Below.refl _ _).alloc (Nat.le_refl _) _)⟩
    rintro v2 ⟨_,g7b,gb,g8,hgb,hg8,rfl,_⟩ w6 hw6 hF; have hb6:=hw6.below; obtain⟨_,g7c,gc,g8c,hgc,_,he,hB8,hKc⟩:=hF; injection he with he _ _
    injection he with he
    injection he with he
    subst he; have hsz6:=hb6.size; have own6:=own_below HOWN3.out hb6 (Nat.le_refl _); have HALL:Hid (∀ k∈Ks++[⟨5,0,[],.slice (some ⟨g7c,0,none⟩) 4 4,.slice (some ⟨gc,0,none⟩) 4 4⟩],k.kind=5∧∃ g,KeyG g w6 k∧Kv.ownBlock≠some g):=Lib.hid fun q hq=>by
     rcases List.mem_append.1 hq with hq|hq
     ·obtain⟨h1,g,h2,h3⟩:=HKG3.out q hq
      exact⟨h1,g,h2.below hb6,h3⟩
     ·rw [List.mem_singleton] at hq
      subst hq; exact⟨rfl,gc,hKc,fun hg=>by have:=hKvlt gc hg; omega⟩
    have BK6:=BK3.below hb6; have BB6:=BB3.below hb6; have hbw6:=hbw3.trans (hb6.mono hbw3.size); obtain⟨kJ,hkJ⟩:∃ kJ:JsV,kJ=⟨5,0,[],.slice (some ⟨g7c,0,none⟩) 4 4,.slice (some ⟨gc,0,none⟩) 4 4⟩:=⟨_,rfl⟩; rw [← hkJ] at hB8 HALL; have hone:=jsRow_one kJ (by rw [hkJ]; rfl) (by rw [hkJ]; rfl)
    have hrd:Vs w6 w6.heap.size 5 (some ⟨g8,0,none⟩) 1 (jsRow kJ):=vs_blk hB8 rfl; have h63:j+1≤maxLen:=by unfold maxLen; omega
    have hB1:w1.heap.size+1≤w6.heap.size:=BK6.lt; clear hkJ hKc hB8 HKG3 HOWN3 BK3 BB3 hw6 f0 f1 HJK; go_wp2_with (at_builtin; go_must (refine wpList_append w6 rfl (.tmp 19) (.tmp 22) 195 rfl (w1.heap.size+1) 197 iJ (.agg #[.int .i64 0,.int .i64 0,.string ⟨#[]⟩,.slice none 0 0,.slice none 0 0]) 5 80 Tryz.underlying195 hiJ hj0 hj1 hj2 rfl (by omega) _ _ _ rfl own6 _ _ 1 _ _ rfl hrd hone h63 (by omega) hB1 ?_))
    intro A' c' w7 hown' g1' g2' hgr; have hb7:Below (w1.heap.size+1) w6 w7:=Mem.below_grown (Below.refl (w1.heap.size+1) w6) hgr hB1 own6; have hkeys:=keys_grown own6 hgr (fun k hk=>(HALL.out k hk).2); have HKND:=Lib.hid (fun k hk=>(HALL.out k hk).1); have BK7:Blk w7 w1.heap.size (jsRow ⟨4,0,[],.slice none 0 0,Kv⟩) 197:=by unfold Blk; rw [hb7.block _ (by omega)]; exact BK6
    have BB7:Blk w7 w.heap.size [.string (str b.domain),.int .i64 (nb:Int),.slice (some ⟨bk,ok,none⟩) n c] 45:=by unfold Blk; rw [hb7.block _ (by omega)]; exact BB6
    have q4:w7.cell? ⟨w1.heap.size,4,none⟩=some Kv:=BK7.cell 4; have q4f:=BK7.froz 4; have BK8:Blk (w7.setCell ⟨w1.heap.size,4,none⟩ (.slice A' (j+1) c')) w1.heap.size (jsRow ⟨4,0,[],.slice none 0 0,.slice A' (j+1) c'⟩) 197:=BK7.set 4 (.slice A' (j+1) c'); have BB8:=BB7.set_ne (p:=⟨w1.heap.size,4,none⟩) (by simp; omega) (.slice A' (j+1) c')
    have hown8:=ownsRow_setCell_below hown' (a:=⟨w1.heap.size,4,none⟩) (by simp) (.slice A' (j+1) c'); have HK8:=Lib.hid fun k hk=>by
     obtain⟨g,hK⟩:=hkeys k hk; refine(⟨HKND.out k hk,g,hK.chg (S:=some w1.heap.size) (w':=w7.setCell ⟨w1.heap.size,4,none⟩ (.slice A' (j+1) c')) ?_ ?_ ?_⟩:k.kind=5∧∃ g,KeyG g (w7.setCell ⟨w1.heap.size,4,none⟩ (.slice A' (j+1) c')) k)
     ·intro e
      injection e with e
      obtain⟨_,_,_,_,_,h8,_⟩:=hK; rw [← e] at h8; have:=h8.symm.trans BK7; injection this with this
      injection this with this
      have:=congrArg Array.size this; simp [keyCells,rows,jsRow] at this
     ·intro q M e hq
      injection e with e
      subst e; have:=hq.symm.trans BK7; simp at this
     ·intro q _ hq
      exact heap_setCell_other w7 ⟨w1.heap.size,4,none⟩ q _ (fun e=>hq (by rw [e]))
    have hbw8:=(hbw6.trans (hb7.mono (by omega))).setCell (p:=⟨w1.heap.size,4,none⟩) (by simp; omega) (.slice A' (j+1) c')
    have HR:=Lib.hid (show rows jsRow (Ks++[kJ])=rows jsRow Ks++jsRow kJ by unfold rows; simp)
    rw [← HR.out] at hown8; have HOWN8:=Lib.hid hown8; clear hkeys HKND hown' hown8 BK7 BB7 hgr own6 hrd hb7 BK6 BB6 HALL hbw6; go_wp2; (try rw [Batch.Qn_normal])
    (try go_wp2)
    go_roundw
    case rel=>exact⟨j+1,_,Ks++[kJ],by omega,by go_num,hbw8,BB8,BK8,HOWN8,HK8,by simp; omega⟩
    case measure=>simp [intOf]; omega
   ·have hjz:¬ (j:Int)<(n:Int):=by omega
    have hjn:=Lib.hid (show j=n by omega); obtain⟨A',c',rfl,r1,r2⟩:=own_form HOWN.out; have f0:∀ p,(Batch.grew wx p).cell? ⟨w.heap.size,0,none⟩=some (.string (str b.domain)):=fun p=>(BB.below (Batch.grew_below wx p)).cell 0; have f1:∀ p,(Batch.grew wx p).cell? ⟨w.heap.size,1,none⟩=some (.int .i64 (nb:Int)):=fun p=>(BB.below (Batch.grew_below wx p)).cell 1; have f2:∀ p,(ldJs (.pointer (some ⟨w1.heap.size,0,none⟩))).run Tryz.prog (Batch.grew wx p)=.ok (.agg #[.int .i64 4,.int .i64 0,.string ⟨#[]⟩,.slice none 0 0,.slice A' j c']) (Batch.grew wx p):=fun p=>ldJs_blk (BK.below (Batch.grew_below wx p)); have HTX:=Lib.hid (fun W'=>jtextG_any b.domain W'); have HWR:Hid (∀ g7 g8 W',Below wx.heap.size wx W'→Blk W' g7 (tv bunNames) 9→Blk W' g8 (rows jsRow [jText b.domain,⟨4,0,[],.slice none 0 0,.slice A' j c'⟩,⟨2,(nb:Int),[],.slice none 0 0,.slice none 0 0⟩]) 197 →
      Calls Tryz.prog 178 #[.agg #[.int .i64 5,.int .i64 0,.string ⟨#[]⟩,.slice (some ⟨g7,0,none⟩) 3 3,.slice (some ⟨g8,0,none⟩) 3 3]] W' (fun e w'=>∃ v,e=.returned v∧Batch.GR W' w'∧∃ s,v=.tuple #[.string s,.int .i64 0])):=Lib.hid fun g7 g8 W' hb hB7 hB8=>by
     have own6:=own_below HOWN.out hb (Nat.le_refl _); have hbun:BunV W'.heap.size W' ⟨5,0,[],.slice (some ⟨g7,0,none⟩) 3 3,.slice (some ⟨g8,0,none⟩) 3 3⟩ :=
      ⟨_,_,A',3,3,j,c',b.domain,nb,Ks,rfl,⟨by omega,by omega,fun h=>by cases h⟩,vs_blk hB7 rfl,vs_blk hB8 rfl,hfd,hld3,by omega,by omega,Vs.of_own own6,fun k hk=>by
       obtain⟨_,g,hK⟩:=HKS.out k hk; exact(hK.below hb).keyV⟩
     have hwr0:=jwrite_any ⟨5,0,[],.slice (some ⟨g7,0,none⟩) 3 3,.slice (some ⟨g8,0,none⟩) 3 3⟩ W' hbun; have hwr1:Calls Tryz.prog 178 #[.agg #[.int .i64 5,.int .i64 0,.string ⟨#[]⟩,.slice (some ⟨g7,0,none⟩) 3 3,.slice (some ⟨g8,0,none⟩) 3 3]] W' (fun e w'=>(∃ s,e=.returned (.tuple #[.string s,.int .i64 0]))∧Below W'.heap.size W' w'):=hwr0; exact hwr1.mono fun e w' ⟨⟨s,he⟩,hb⟩=>⟨_,he,Batch.GR.of hb,s,rfl⟩
    clear BB BK HOWN HKS; go_upto_region 9 with fail
    refine Batch.wp_region_free [([1,2],3,[],fun v w'=>v=jtv b.domain),([4,5,6,7],8,[],fun v w'=>∃ g,v=.slice (some ⟨g,0,none⟩) 3 3∧Blk w' g (rows jsRow [jText b.domain,⟨4,0,[],.slice none 0 0,.slice A' j c'⟩,⟨2,(nb:Int),[],.slice none 0 0,.slice none 0 0⟩]) 197),([],0,[],fun v w'=>∃ g,v=.slice (some ⟨g,0,none⟩) 3 3∧Blk w' g (tv bunNames) 9),([],9,[0,8],fun v w'=>∃ g7 g8,v=.agg #[.int .i64 5,.int .i64 0,.string ⟨#[]⟩,.slice (some ⟨g7,0,none⟩) 3 3,.slice (some ⟨g8,0,none⟩) 3 3]∧Blk w' g7 (tv bunNames) 9∧Blk w' g8 (rows jsRow [jText b.domain,⟨4,0,[],.slice none 0 0,.slice A' j c'⟩,⟨2,(nb:Int),[],.slice none 0 0,.slice none 0 0⟩]) 197),([],10,[9],fun v w'=>∃ s,v=.tuple #[.string s,.int .i64 0]),([],11,[],fun v w'=>∃ s,v=.string s),([],12,[],fun v w'=>v=.int .i64 0),([],13,[],fun v w'=>∃ s,v=.string s)] [14] (by kernel_rfl) (by kernel_rfl) (by
     intro x hx; simp only [List.mem_cons,List.not_mem_nil,or_false] at hx; rcases hx with rfl|rfl|rfl|rfl|rfl|rfl|rfl|rfl
     ·exact Batch.stable_gr fun v w w' hb h=>h
     ·exact Batch.stable_gr fun v w w' hb ⟨g,e,h⟩=>⟨g,e,h.below hb⟩
     ·exact Batch.stable_gr fun v w w' hb ⟨g,e,h⟩=>⟨g,e,h.below hb⟩
     ·exact Batch.stable_gr fun v w w' hb ⟨g7,g8,e,h7,h8⟩=>⟨g7,g8,e,h7.below hb,h8.below hb⟩
     ·exact Batch.stable_gr fun v w w' hb h=>h
     ·exact Batch.stable_gr fun v w w' hb h=>h
     ·exact Batch.stable_gr fun v w w' hb h=>h
     ·exact Batch.stable_gr fun v w w' hb h=>h) ?_
    refine Batch.freeR_cons ?_; simp only [Batch.pick,List.getD_cons_zero,List.getD_cons_succ]; repeat (go_big_quiet_step (fail))
    refine wpQuiet_nil ?_; refine⟨_,rfl,rfl,?_,?_,?_⟩
    ·exact⟨_,wx,rfl⟩
    ·intro w5 hw5 _
     go_simp
     exact⟨rfl,HTX.out w5⟩
    rintro v1 ⟨_,rfl⟩; refine Batch.freeR_cons ?_; simp only [Batch.pick,List.getD_cons_zero,List.getD_cons_succ,List.getElem_toArray,List.getElem_cons_succ,List.getElem_cons_zero,Act.put,List.setIfInBounds_toArray,List.set_cons_zero,List.set_cons_succ]; repeat (go_big_quiet_step (fail))
    refine wpQuiet_nil ?_; unfold jtv; refine⟨_,rfl,rfl,?_,?_,?_⟩
    ·exact⟨_,_,_,rfl,Blk.new wx _ _⟩
    ·intro w5 hw5 _
     go_simp
     exact⟨Batch.GR.of ((Below.refl _ _).alloc (Nat.le_refl _) _),w5.heap.size,rfl,Blk.new w5 (rows jsRow [jText b.domain,⟨4,0,[],.slice none 0 0,.slice A' j c'⟩,⟨2,(nb:Int),[],.slice none 0 0,.slice none 0 0⟩]) _⟩
    rintro v2 ⟨_,g8,rfl,_⟩; refine Batch.freeR_cons ?_; simp only [Batch.pick,List.getElem_toArray,List.getElem_cons_succ,List.getElem_cons_zero,Act.put,List.setIfInBounds_toArray,List.set_cons_zero,List.set_cons_succ]; refine wpQuiet_nil ?_; refine⟨_,rfl,rfl,?_,?_,?_⟩
    ·exact⟨_,_,_,rfl,Blk.new wx (tv bunNames) _⟩
    ·intro w5 hw5 _
     go_simp
     exact⟨Batch.GR.of ((Below.refl _ _).alloc (Nat.le_refl _) _),w5.heap.size,rfl,Blk.new w5 (tv bunNames) _⟩
    rintro v3 ⟨_,g7,rfl,_⟩; refine Batch.freeR_cons ?_; simp only [Batch.pick,List.getElem_toArray,List.getElem_cons_zero,Act.put,List.setIfInBounds_toArray,List.set_cons_zero,List.set_cons_succ]; refine wpQuiet_nil ?_; refine⟨_,rfl,rfl,?_,?_,?_⟩
    ·exact⟨_,(wx.alloc (.cells (tv bunNames).toArray 9)).alloc (.cells (rows jsRow [jText b.domain,⟨4,0,[],.slice none 0 0,.slice A' j c'⟩,⟨2,(nb:Int),[],.slice none 0 0,.slice none 0 0⟩]).toArray 197),wx.heap.size,wx.heap.size+1,rfl,(Blk.new wx _ _).alloc _,by
      have:=Blk.new (wx.alloc (.cells (tv bunNames).toArray 9)) (rows jsRow [jText b.domain,⟨4,0,[],.slice none 0 0,.slice A' j c'⟩,⟨2,(nb:Int),[],.slice none 0 0,.slice none 0 0⟩]) 197; simpa using this⟩
    ·rintro w5 hw5 ⟨h7,h8,_⟩
     obtain⟨_,e7,hB7⟩:=h7 rfl; obtain⟨_,e8,hB8⟩:=h8 rfl; injection e7 with e7
     injection e7 with e7
     injection e7 with e7
     subst e7; injection e8 with e8
     injection e8 with e8
     injection e8 with e8
     subst e8; go_simp
     exact⟨Batch.GR.of (Below.refl _ _),_,_,rfl,hB7,hB8⟩
    rintro v9 ⟨_,g7c,g8c,rfl,_⟩; refine Batch.freeR_cons ?_; simp only [Batch.pick,List.getElem_toArray,List.getElem_cons_succ,List.getElem_cons_zero,Act.put,List.setIfInBounds_toArray,List.set_cons_zero,List.set_cons_succ]; refine wpQuiet_nil ?_; refine⟨_,rfl,rfl,?_,?_,?_⟩
    ·exact⟨_,wx,⟨#[]⟩,rfl⟩
    ·rintro w5 hw5 ⟨h9,_⟩
     obtain⟨g7d,g8d,e9,hB7,hB8⟩:=h9 rfl; injection e9 with e9
     injection e9 with e9
     injection e9 with _ e9
     injection e9 with _ e9
     injection e9 with _ e9
     injection e9 with e7 e9
     injection e9 with e8 _
     injection e7 with e7 _ _
     injection e7 with e7
     injection e7 with e7
     injection e8 with e8 _ _
     injection e8 with e8
     injection e8 with e8
     subst e7 e8; go_simp
     exact⟨rfl,HWR.out _ _ w5 hw5.below hB7 hB8⟩
    rintro v10 ⟨_,s,rfl⟩; refine Batch.freeR_cons ?_; simp only [Batch.pick,List.getElem_toArray,List.getElem_cons_succ,List.getElem_cons_zero,Act.put,List.setIfInBounds_toArray,List.set_cons_zero,List.set_cons_succ]; refine wpQuiet_nil ?_; refine⟨_,rfl,rfl,?_,?_,?_⟩
    ·exact⟨_,wx,⟨#[]⟩,rfl⟩
    ·intro w5 hw5 _
     go_simp
     exact(by first|exact⟨Batch.GR.of (Below.refl _ _),⟨_,rfl⟩⟩|exact Batch.GR.of (Below.refl _ _))
    rintro v11 ⟨_,s1,rfl⟩; refine Batch.freeR_cons ?_; simp only [Batch.pick,List.getElem_toArray,List.getElem_cons_succ,List.getElem_cons_zero,Act.put,List.setIfInBounds_toArray,List.set_cons_zero,List.set_cons_succ]; refine wpQuiet_nil ?_; refine⟨_,rfl,rfl,?_,?_,?_⟩
    ·exact⟨_,wx,rfl⟩
    ·intro w5 hw5 _
     go_simp
     exact(by first|exact⟨Batch.GR.of (Below.refl _ _),rfl⟩|exact Batch.GR.of (Below.refl _ _))
    rintro v12 ⟨_,rfl⟩; refine Batch.freeR_cons ?_; simp only [Batch.pick,List.getElem_toArray,List.getElem_cons_succ,List.getElem_cons_zero,Act.put,List.setIfInBounds_toArray,List.set_cons_zero,List.set_cons_succ]; refine wpQuiet_nil ?_; refine⟨_,rfl,rfl,?_,?_,?_⟩
    ·exact⟨_,wx,⟨#[]⟩,rfl⟩
    ·intro w5 hw5 _
     go_simp
     exact(by first|exact⟨Batch.GR.of (Below.refl _ _),⟨_,rfl⟩⟩|exact Batch.GR.of (Below.refl _ _))
    rintro v13 ⟨_,s',rfl⟩ w6 hw6 _; have hb6:=hw6.below; have hbw6:=hbx.trans (hb6.mono hbx.size); clear hw6 hb6 f0 f1 f2 HTX HWR; go_wp2; (try rw [Batch.Qn_normal])
    (try go_wp2)
    go_ret2; exact⟨⟨_,rfl⟩,hbw6⟩
end
section
open Go.RowKit Mem Led
theorem bundle_any(b:Led.Bundle) (kv:Value) (w:World) (hkv:ElemsAt jwkRow 2 w kv b.keys) (hd:b.domain.length≤9223372036854775807) (hk:b.keys.length≤1000) (hkz:∀ k∈b.keys,k.kid.length≤1000000∧k.x.length≤1000000) (hT:Tab Sha.kkL w) :
  Calls Tryz.prog 107 #[.agg (bunRow (b,kv)).toArray] w fun e w'=>e=.returned (.bool (Led.pmay b))∧Below w.heap.size w w':=by
 obtain⟨W,hW⟩:∃ W,w.alloc (.cells (bunRow (b,kv)).toArray 45)=W:=⟨_,rfl⟩
 have B:Blk W w.heap.size (bunRow (b,kv)) 45:=by rw [← hW]; exact Blk.new _ _ _
 have hbW:Below w.heap.size w W:=by rw [← hW]; exact(Below.refl _ _).alloc (Nat.le_refl _) _
 have hld:=ldBun_blk B rfl
 have h:=jwkWrite_any b kv W (hkv.below hbW) hd hk hkz (hT.below hbW)
 have HW:=Lib.hid hW
 clear hW hkv B
 cases hp:Led.pmay b
 all_goals
  rw [hp] at h; clear hp; generalize (bunRow (b,kv)).toArray=X at *; go_enter Tryz.func107,Tryz.ntmps107
  go_upto_region 1 with fail
  rw [HW.out]; go_wp2_with fail
  refine h.mono ?_; rintro e w1 ⟨⟨s,rfl⟩,hb⟩; go_wp2; go_ret; exact⟨rfl,hbW.trans (hb.mono hbW.size)⟩
theorem Led.does_kind{ok ok':Bool} {L:Led.Ledger} {o:Led.Op} (h:o.kind=12→ok=ok'):does ok L o=does ok' L o:=by
 by_cases hk:o.kind=12
 ·rw [h hk]
 ·unfold does
  simp only [hk,if_false]
theorem applyc_any(cs:List Value) (L:Led.Ledger) (E:List (Led.Entry × Value)) (U:List (Led.Bundle × Value)) (o:Led.Op) (sv kv:Value) (w:World) (hL:LgAt w cs L E U) (hW:L.Wf) (ho:Sized o) (hraw:o.kind≤100) (hsv:TextsAt w sv o.entry.sels) (hkv:ElemsAt jwkRow 2 w kv o.bundle.keys)
  (hkz:∀ k∈o.bundle.keys,k.kid.length≤1000000∧k.x.length≤1000000) (hT:Tab Sha.kkL w) :
  Calls Tryz.prog 14 #[.agg cs.toArray,.agg (opCells o sv kv).toArray] w (Applied (fun r=>r=does (Led.pmay o.bundle) L o) L w):=by
 refine(apply_any (fun ok=>ok=Led.pmay o.bundle) cs L E U o sv kv w hL hW ho hraw hsv hkv (fun W' kv' hb hk'=>?_)).mono ?_
 ·exact(bundle_any o.bundle kv' W' hk' ho.ud ho.ul hkz (hT.below hb)).mono fun e w' ⟨h1,h2⟩=>⟨_,rfl,h1,h2⟩
 ·rintro e w' ⟨r,⟨ok,h1,rfl⟩,h2⟩
  exact⟨_,does_kind h1,h2⟩
theorem new_opv(w:World) (cs:List Value) (h:cs.length=24) (h1:∀ v∈cs,v.oneCell'=true) :
  ∃ wn,(storeOp (.pointer (some ⟨w.heap.size,0,none⟩)) (.agg cs.toArray)).run Tryz.prog (w.alloc (.cells #[.int .i64 0,.int .i64 0,.string ⟨#[]⟩,.int .i64 0,.string ⟨#[]⟩,.string ⟨#[]⟩,.int .i64 0,.slice none 0 0,.string ⟨#[]⟩,.string ⟨#[]⟩,.int .i64 0,.bool false,.string ⟨#[]⟩,.string ⟨#[]⟩,.int .i64 0,.int .i64 0,.string ⟨#[]⟩,.string ⟨#[]⟩,.string ⟨#[]⟩,.int .i64 0,.int .i64 0,.string ⟨#[]⟩,.int .i64 0,.slice none 0 0] 47))=.ok () wn∧Blk wn w.heap.size cs 47∧Below w.heap.size w wn:=by
 have bn:=Blk.new w (opCells noOp (.slice none 0 0) (.slice none 0 0)) 47
 obtain⟨hs1,B3⟩:=store_op bn rfl h h1
 have hcn:Chg [] w ((w.alloc (.cells (opCells noOp (.slice none 0 0) (.slice none 0 0)).toArray 47)).setCells w.heap.size 0 cs):=((Chg.refl _ _).alloc _).setCells _ (.inr (Nat.le_refl _))
 exact⟨_,hs1,B3,hcn.below (fun _ h=>by cases h)⟩
theorem cut_sized{R:Txt→Txt→Prop} {o:Led.Op} {KK:List Jwk} (hR:∀ x r,R x r→r.length≤60) (h:KeysTo R (o.bundle.keys.take 9) KK):Sized (cutOp o KK)∧∀ k∈(cutOp o KK).bundle.keys,k.kid.length≤1000000∧k.x.length≤1000000:=by
 have f:∀ s:Txt,(few s).length≤9223372036854775807:=fun s=>by have:=few_len s; omega
 have hl:=h.length
 rw [List.length_take] at hl
 refine⟨⟨f _,f _,f _,?_,?_,f _,f _,f _,f _,?_⟩,fun k hk=>?_⟩
 ·intro x hx
  obtain⟨y,_,rfl⟩:=List.mem_map.1 hx; exact f _
 ·show ((o.entry.sels.take 6).map few).length≤1000
  rw [List.length_map,List.length_take]; omega
 ·show KK.length≤1000
  omega
 ·have:=h.len hR k hk
  omega
theorem Wk.chg{base g:Nat} {w w':World} {vE vN vB vJ vK vU:Value} {L:Led.Ledger} {E:List (Led.Entry × Value)} {U:List (Led.Bundle × Value)} (h:Wk base w vE vN vB vJ vK vU L E U) (hc:Chg [g] w w') (hg:g<base):Wk base w' vE vN vB vJ vK vU L E U :=
 ⟨own_keep_chg h.oE hc hg,own_keep_chg h.oN hc hg,own_keep_chg h.oB hc hg,own_keep_chg h.oJ hc hg,own_keep_chg h.oK hc hg,own_keep_chg h.oU hc hg,h.ents,h.buns,fun p hp=>⟨own_keep_chg (h.sels p hp).1 hc hg,(h.sels p hp).2⟩,fun p hp=>own_keep_chg (h.keyss p hp) hc hg⟩
structure LgVar (g:Nat) (w:World) (cs:List Value) (L:Led.Ledger) (E:List (Led.Entry × Value)) (U:List (Led.Bundle × Value)):Prop where
 blk:Blk w g cs 30
 len:cs.length=6
 at_:LgAt w cs L E U
theorem LgVar.below{g:Nat} {w w':World} {cs:List Value} {L:Led.Ledger} {E:List (Led.Entry × Value)} {U:List (Led.Bundle × Value)} (h:LgVar g w cs L E U) (hb:Below w.heap.size w w'):LgVar g w' cs L E U :=
 ⟨h.blk.below hb,h.len,h.at_.below hb⟩
theorem LgVar.load{g:Nat} {w:World} {cs:List Value} {L:Led.Ledger} {E:List (Led.Entry × Value)} {U:List (Led.Bundle × Value)} (h:LgVar g w cs L E U):(loadLg (.pointer (some ⟨g,0,none⟩))).run Tryz.prog w=.ok (.agg cs.toArray) w:=load_lg h.blk h.len
theorem LgVar.put{g base:Nat} {w w':World} {cs:List Value} {L L':Led.Ledger} {E E':List (Led.Entry × Value)} {U U':List (Led.Bundle × Value)} {vE vN vB vJ vK vU:Value} (h:LgVar g w cs L E U) (hb:Below w.heap.size w w') (hW:Wk base w' vE vN vB vJ vK vU L' E' U') (hg:g<base) :
  ∃ w2,(storeLg (.pointer (some ⟨g,0,none⟩)) (.agg #[vE,vN,vB,vJ,vK,vU])).run Tryz.prog w'=.ok () w2∧LgVar g w2 [vE,vN,vB,vJ,vK,vU] L' E' U'∧Chg [g] w' w2∧Wk base w2 vE vN vB vJ vK vU L' E' U':=by
 obtain⟨hst,B⟩:=store_lg (h.blk.below hb) h.len (vs:=[vE,vN,vB,vJ,vK,vU]) rfl hW.ones
 have hc:Chg [g] w' (w'.setCells g 0 [vE,vN,vB,vJ,vK,vU]):=(Chg.refl _ _).setCells _ (.inl (by simp))
 have hW':=hW.chg hc hg
 exact⟨_,hst,⟨B,rfl,hW'.at⟩,hc,hW'⟩
theorem LgVar.new(w:World):LgVar w.heap.size (w.alloc (.cells (lgCells (.slice none 0 0)).toArray 30)) (lgCells (.slice none 0 0)) none' [] []:=by
 have e:∀ {α:Type} (enc:α→List Value) (k:Nat) (W:World),ElemsAt enc k W (.slice none 0 0) []:=fun enc k W=>⟨none,0,0,rfl,⟨by omega,by omega,fun _=>rfl⟩,Es.empty _ _⟩
 exact⟨Blk.new _ _ _,rfl,⟨⟨_,_,_,_,_,_,rfl,e _ _ _,e _ _ _,⟨none,0,0,rfl,⟨by omega,by omega,fun _=>rfl⟩,Ts.empty _ _⟩,e _ _ _,e _ _ _,e _ _ _⟩,rfl,rfl,fun p hp=>(by cases hp),fun p hp=>(by cases hp)⟩⟩
theorem after_does{ok:Bool} {L:Led.Ledger} {o:Led.Op}:After L (does ok L o)=(does ok L o).1:=by
 unfold After
 split
 ·rfl
 ·rcases does_or ok L o with h|h
  ·exact h.symm
  ·contradiction
end
section
open Go.RowKit Mem Led
def lvA:Txt:=[47,97,103,101,110,116,47,97]
def lvGone:Led.Op:={ noOp with kind:=2,n:=5 }
def lvBan:Led.Op:={ noOp with kind:=6,name:=lvA }
def lvM:Led.Ledger:={ none' with bans:=[lvA] }
theorem lvA_agent:Ids.agent lvA=true:=by decide +kernel
theorem lv1(ok:Bool):does ok none' lvGone=(none',7):=rfl
theorem lv2(ok:Bool):does ok none' lvBan=(lvM,0):=by
 show doBan none' lvA=_
 unfold doBan
 rw [lvA_agent]
 rfl
theorem lv3(ok:Bool):does ok lvM lvBan=(lvM,8):=by
 show doBan lvM lvA=_
 unfold doBan
 rw [lvA_agent]
 rfl
theorem lv_sized:Sized lvGone∧Sized lvBan:=by
 constructor <;> constructor <;> first|decide|(intro x hx; cases hx)
theorem lvM_wf:lvM.Wf:=by
 have:=does_wf (ok:=true) (L:=none') (o:=lvBan) none_wf (by decide) (by decide)
 rwa [lv2] at this
theorem lv_lg(w:World):LgAt w (lgCells (.slice none 0 0)) none' [] []:=by
 have e:∀ {α:Type} (enc:α→List Value) (k:Nat),ElemsAt enc k w (.slice none 0 0) []:=fun enc k=>⟨none,0,0,rfl,⟨by omega,by omega,fun _=>rfl⟩,Es.empty _ _⟩
 exact⟨⟨_,_,_,_,_,_,rfl,e _ _,e _ _,⟨none,0,0,rfl,⟨by omega,by omega,fun _=>rfl⟩,Ts.empty _ _⟩,e _ _,e _ _,e _ _⟩,rfl,rfl,fun p hp=>(by cases hp),fun p hp=>(by cases hp)⟩
theorem lv_nil(w:World):TextsAt w (.slice none 0 0) ([]:List Txt)∧ElemsAt jwkRow 2 w (.slice none 0 0) []∧LgAt w (lgCells (.slice none 0 0)) none' [] [] :=
 ⟨⟨none,0,0,rfl,⟨by omega,by omega,fun _=>rfl⟩,Ts.empty _ _⟩,⟨none,0,0,rfl,⟨by omega,by omega,fun _=>rfl⟩,Es.empty _ _⟩,lv_lg w⟩
def lvCells (o:Led.Op):List Value:=opCells o (.slice none 0 0) (.slice none 0 0)
theorem lv_ap(o:Led.Op) (cs:List Value) (L L':Led.Ledger) (er:Int) (E:List (Led.Entry × Value)) (U:List (Led.Bundle × Value)) (w:World) (hT:Tab Sha.kkL w) (ho:Sized o) (hk:o.kind≤100) (h1:o.entry.sels=[]) (h2:o.bundle.keys=[]) (hL:LgAt w cs L E U) (hW:L.Wf) (hd:∀ ok,does ok L o=(L',er)) :
  Calls Tryz.prog 14 #[.agg cs.toArray,.agg (lvCells o).toArray] w fun e w'=>∃ vE vN A c vJ vK vU E' U',e=.returned (.tuple #[.agg #[vE,vN,.slice A L'.bans.length c,vJ,vK,vU],.int .i64 er])∧(∀ v∈[vE,vN,.slice A L'.bans.length c,vJ,vK,vU],v.oneCell'=true)∧LgAt w' [vE,vN,.slice A L'.bans.length c,vJ,vK,vU] L' E' U'∧Below w.heap.size w w':=by
 refine(applyc_any cs L E U o _ _ w hL hW ho hk (by rw [h1]; exact(lv_nil w).1) (by rw [h2]; exact(lv_nil w).2.1) (by rw [h2]; intro k hk; cases hk) hT).mono ?_
 rintro e w' ⟨r,rfl,vE,vN,vB,vJ,vK,vU,E',U',rfl,hWk,hb⟩
 rw [after_does] at hWk
 rw [hd] at hWk ⊢
 obtain⟨A,c,rfl,_⟩:=own_form hWk.oB
 exact⟨_,_,_,_,_,_,_,_,_,rfl,hWk.ones,hWk.at,hb⟩
theorem lv_new(w:World) (cs:List Value) (h:cs.length=6) (h1:∀ v∈cs,v.oneCell'=true) :
  ∃ wn,(storeLg (.pointer (some ⟨w.heap.size,0,none⟩)) (.agg cs.toArray)).run Tryz.prog (w.alloc (.cells #[.slice none 0 0,.slice none 0 0,.slice none 0 0,.slice none 0 0,.slice none 0 0,.slice none 0 0] 30))=.ok () wn∧Blk wn w.heap.size cs 30∧Below w.heap.size w wn:=by
 have bn:=Blk.new w (lgCells (.slice none 0 0)) 30
 obtain⟨hs1,B3⟩:=store_lg bn rfl h h1
 have hcn:Chg [] w ((w.alloc (.cells (lgCells (.slice none 0 0)).toArray 30)).setCells w.heap.size 0 cs):=((Chg.refl _ _).alloc _).setCells _ (.inr (Nat.le_refl _))
 exact⟨_,hs1,B3,hcn.below (fun _ h=>by cases h)⟩
theorem lives2_any(w:World) (hT:Tab Sha.kkL w):Calls Tryz.prog 12 #[] w fun e w'=>e=.returned (.bool true)∧Below w.heap.size w w':=by
 obtain⟨W0,hW0⟩:∃ W0,w.alloc (.cells (lgCells (.slice none 0 0)).toArray 30)=W0:=⟨_,rfl⟩
 have V0:=LgVar.new w
 have hb0:Below w.heap.size w W0:=by rw [← hW0]; exact(Below.refl _ _).alloc (Nat.le_refl _) _
 rw [hW0] at V0
 have b0:=V0.blk
 have hld0:=V0.load
 have h1:=lv_ap lvGone _ _ _ _ _ _ W0 (hT.below hb0) lv_sized.1 (by decide) rfl rfl V0.at_ none_wf lv1
 rw [← hW0] at hld0
 have HW0:=Lib.hid hW0
 clear hW0 V0
 unfold lgCells at hld0 HW0 h1
 unfold lvCells lvGone opCells noOp at h1
 go_enter Tryz.func12,Tryz.ntmps12
 go_wp2_with fail
 rw [HW0.out]
 refine h1.mono ?_
 rintro e w1 ⟨vE1,vN1,A1,c1,vJ1,vK1,vU1,E1,U1,rfl,hf1,hat1,hb1⟩
 clear hld0 HW0 h1
 have hbw1:Below w.heap.size w w1:=hb0.trans (hb1.mono hb0.size)
 have c0:=b0.below hb1
 obtain⟨w2,hs2,B2,hb2⟩:=lv_new w1 _ rfl hf1
 have hbw2:Below w.heap.size w w2:=hbw1.trans (hb2.mono hbw1.size)
 have b2:=c0.below hb2
 have hld2:=load_lg b2 rfl
 have h2:=lv_ap lvBan _ _ _ _ _ _ w2 (hT.below hbw2) lv_sized.2 (by decide) rfl rfl (lv_nil w2).2.2 none_wf lv2
 unfold lgCells at hld2 h2
 unfold lvCells lvBan opCells noOp at h2
 clear hat1 hf1 c0 B2 hb0 b0 hb1
 go_wp2_with fail
 refine h2.mono ?_
 rintro e w3 ⟨vE3,vN3,A,c,vJ3,vK3,vU3,E3,U3,rfl,hf3,hat3,hb3⟩
 have hbw3:Below w.heap.size w w3:=hbw2.trans (hb3.mono hbw2.size)
 obtain⟨w4,hs4,B4,hb4⟩:=lv_new w3 _ rfl hf3
 have hbw4:Below w.heap.size w w4:=hbw3.trans (hb4.mono hbw3.size)
 have hld4:=load_lg B4 rfl
 have h4:=lv_ap lvBan _ _ _ _ _ _ w4 (hT.below hbw4) lv_sized.2 (by decide) rfl rfl (hat3.below hb4) lvM_wf lv3
 unfold lvCells lvBan opCells noOp at h4
 clear hat3 hf3 hs2 hld2 b2 hb2 hb3 h2
 obtain⟨CS,hCS⟩:∃ CS,Hid (#[vE3,vN3,.slice A lvM.bans.length c,vJ3,vK3,vU3]=CS):=⟨_,Lib.hid rfl⟩
 rw [hCS.out] at hs4 hld4 h4
 rw [hCS.out]
 go_wp2_with fail
 refine h4.mono ?_
 rintro e w5 ⟨vE5,vN5,A5,c5,vJ5,vK5,vU5,E5,U5,rfl,hf5,hat5,hb5⟩
 obtain⟨w6,hs6,B6,hb6⟩:=lv_new w5 _ rfl hf5
 have b4:=(B4.below hb5).below hb6
 have m4:w6.cell? ⟨w3.heap.size,2,none⟩=some (.slice A 1 c):=b4.cell 2
 have hbw6:Below w.heap.size w w6:=(hbw4.trans (hb5.mono hbw4.size)).trans (hb6.mono (Nat.le_trans hbw4.size hb5.size))
 clear hs4 hld4 hCS h4 B4 B6 b4 hat5 hf5
 go_wp2
 go_ret
 exact⟨rfl,hbw6⟩
end
section
open Go.RowKit Mem Led
theorem within_dec(x a b:Int):within x a b=(decide (a≤x)&&decide (x≤b)):=by unfold within; simp
theorem rnode_any(n:Led.Node) (w:World) (hz:n.name.length≤9223372036854775807):Calls Tryz.prog 17 #[.agg (nodeRow n).toArray] w fun e w'=>e=.returned (.bool (mayNode n))∧Below w.heap.size w w':=by
 obtain⟨W,hW⟩:∃ W,w.alloc (.cells (nodeRow n).toArray 40)=W:=⟨_,rfl⟩
 have b0:Blk W w.heap.size (nodeRow n) 40:=by rw [← hW]; exact Blk.new w _ _
 have hbW:Below w.heap.size w W:=by rw [← hW]; exact(Below.refl _ _).alloc (Nat.le_refl _) _
 have hag:=ragent_any n.name W hz
 have c0:W.cell? ⟨w.heap.size,0,none⟩=some (.string (str n.name)):=b0.cell 0
 have c1:W.cell? ⟨w.heap.size,1,none⟩=some (.string (str n.key)):=b0.cell 1
 have c2:W.cell? ⟨w.heap.size,2,none⟩=some (.int .i64 n.expires):=b0.cell 2
 have c3:W.cell? ⟨w.heap.size,3,none⟩=some (.int .i64 n.seq):=b0.cell 3
 have c4:W.cell? ⟨w.heap.size,4,none⟩=some (.string (str n.doc)):=b0.cell 4
 have hmay:mayNode n=(Ids.agent n.name&&decide ((n.key.length:Int)=32)&&decide (0≤n.expires)&&decide (n.expires≤1099511627776)&&decide (0≤n.seq)&&decide (n.seq≤1099511627776)&&decide ((n.doc.length:Int)≤16)):=by
  unfold mayNode; rw [within_dec,within_dec,show (n.key.length==32)=decide ((n.key.length:Int)=32) by rw [Bool.eq_iff_iff]; simp; omega,show decide (n.doc.length≤16)=decide ((n.doc.length:Int)≤16) by rw [Bool.eq_iff_iff]; simp; omega]
  simp only [Bool.and_assoc]
 rw [hmay]
 generalize Ids.agent n.name=r0 at *
 obtain⟨K,hK⟩:∃ K,n.key.length=K:=⟨_,rfl⟩
 obtain⟨D,hD⟩:∃ D,n.doc.length=D:=⟨_,rfl⟩
 have sK:(str n.key).size=K:=by rw [str_size,hK]
 have sD:(str n.doc).size=D:=by rw [str_size,hD]
 rw [hK,hD]
 have HW:=Lib.hid hW
 have hcase:r0=false∨(r0=true∧((¬ (K:Int)=32)∨((K:Int)=32∧¬ 0≤n.expires)∨((K:Int)=32∧0≤n.expires∧¬ n.expires≤1099511627776)∨((K:Int)=32∧0≤n.expires∧n.expires≤1099511627776∧¬ 0≤n.seq)∨((K:Int)=32∧0≤n.expires∧n.expires≤1099511627776∧0≤n.seq∧¬ n.seq≤1099511627776)
  ∨ ((K:Int)=32∧0≤n.expires∧n.expires≤1099511627776∧0≤n.seq∧n.seq≤1099511627776∧¬ (D:Int)≤16)∨((K:Int)=32∧0≤n.expires∧n.expires≤1099511627776∧0≤n.seq∧n.seq≤1099511627776∧(D:Int)≤16))):=by
  cases r0
  ·exact .inl rfl
  ·refine .inr ⟨rfl,?_⟩
   omega
 unfold nodeRow tx nm at HW ⊢
 clear hW hmay
 go_enter Tryz.func17,Tryz.ntmps17
 go_upto_region 1 with fail
 rw [HW.out]
 clear HW b0
 go_wp2_with fail
 refine hag.mono ?_
 rintro e w1 ⟨rfl,rfl⟩
 rcases hcase with rfl|⟨rfl,h1|⟨h1,h2⟩|⟨h1,h2,h3⟩|⟨h1,h2,h3,h4⟩|⟨h1,h2,h3,h4,h5⟩|⟨h1,h2,h3,h4,h5,h6⟩|⟨h1,h2,h3,h4,h5,h6⟩⟩
 all_goals
  go_wp2_with fail
  go_ret; exact⟨by simp [*] <;> omega,hbW⟩
theorem rentry_any(e:Led.Entry) (v:Value) (w:World) (hv:TextsAt w v e.sels) (hn:e.sels.length≤1000) (hz:∀ x∈e.sels,x.length≤9223372036854775807) (hp1:e.path.length≤9223372036854775807) (hp2:e.parent.length≤9223372036854775807) :
  Calls Tryz.prog 16 #[.agg (entRow (e,v)).toArray] w fun x w'=>x=.returned (.bool (mayEntry e))∧Below w.heap.size w w':=by
 obtain⟨A,n,c,rfl,hf,ht⟩:=hv
 have hln:=ht.len
 obtain⟨W,hW⟩:∃ W,w.alloc (.cells (entRow (e,.slice A n c)).toArray 36)=W:=⟨_,rfl⟩
 have b0:Blk W w.heap.size (entRow (e,.slice A n c)) 36:=by rw [← hW]; exact Blk.new w _ _
 have hbW:Below w.heap.size w W:=by rw [← hW]; exact(Below.refl _ _).alloc (Nat.le_refl _) _
 have hset:=rset_any A n c e.sels W (Ts.below ht hbW) (by omega) hz
 have hmay:mayEntry e=(((Ids.setOf e.sels).2==0)&&decide ((Ids.setOf e.sels).1.getD []=e.sels)&&decide (0<((Ids.setOf e.sels).1.getD []).length)&&Ids.path e.path&&!Ids.agent e.path&&Ids.path e.parent&&decide (1≤e.n)&&decide (e.n≤1099511627776)&&decide (1≤e.ttl)&&decide (e.ttl≤1000)):=by
  unfold mayEntry; rw [within_dec,within_dec]; generalize Ids.setOf e.sels=S; have h1:(S.1.getD []==e.sels)=decide (S.1.getD []=e.sels):=by rw [Bool.eq_iff_iff]; simp
  have h2:(decide (S.1.getD []=e.sels)&&!e.sels.isEmpty)=(decide (S.1.getD []=e.sels)&&decide (0<(S.1.getD []).length)):=by
   by_cases h:S.1.getD []=e.sels
   ·rw [h]
    cases e.sels <;> simp
   ·rw [decide_eq_false h]
    rfl
  rw [h1]; have h3:((S.2==0)&&decide (S.1.getD []=e.sels)&&!e.sels.isEmpty)=((S.2==0)&&decide (S.1.getD []=e.sels)&&decide (0<(S.1.getD []).length)):=by rw [Bool.and_assoc,h2,Bool.and_assoc]
  rw [h3]; simp only [Bool.and_assoc]
 rw [hmay]
 clear hmay
 unfold SetOut at hset
 generalize hS:(Ids.setOf e.sels)=S at *
 obtain⟨S1,F⟩:=S
 dsimp only at hset ⊢
 generalize S1.getD []=S' at *
 clear hS
 obtain⟨sm,hsm0⟩:∃ sm,decide (S'=e.sels)=sm:=⟨_,rfl⟩
 obtain⟨sl,hsl0⟩:∃ sl,decide (0<S'.length)=sl:=⟨_,rfl⟩
 obtain⟨f0,hf0⟩:∃ f0,(F==0)=f0:=⟨_,rfl⟩
 have hF:((F:Int)==0)=f0:=by rw [← hf0,Bool.eq_iff_iff]; simp
 rw [hsm0,hsl0,hf0]
 have HW:=Lib.hid hW
 clear hW
 have c4:W.cell? ⟨w.heap.size,4,none⟩=some (.slice A n c):=b0.cell 4
 have hpa:=fun W'=>rpath_any e.path W' hp1
 have hag:=fun W'=>ragent_any e.path W' hp1
 have hpb:=fun W'=>rpath_any e.parent W' hp2
 generalize Ids.path e.path=b3 at *
 generalize Ids.agent e.path=b4 at *
 generalize Ids.path e.parent=b5 at *
 obtain⟨CS,hCS⟩:∃ CS,(entRow (e,Value.slice A n c)).toArray=CS:=⟨_,rfl⟩
 rw [hCS] at HW ⊢
 clear hCS
 go_enter Tryz.func16,Tryz.ntmps16
 go_upto_region 1 with fail
 rw [HW.out]
 clear HW
 go_wp2_with fail
 refine hset.mono ?_
 rintro x w1 ⟨A1,m,c1,rfl,hmc,hown,hb1⟩
 have b1:=b0.below hb1
 have hbw1:Below w.heap.size w w1:=hbW.trans (hb1.mono hbW.size)
 have hts1:Ts w1 A1 m S':=Ts.of_own hown
 have hml:=hts1.len
 have d4:w1.cell? ⟨w.heap.size,4,none⟩=some (.slice A n c):=b1.cell 4
 have hc1:m≤9223372036854775807:=by
  obtain⟨A2,c2,h1,h2,h3⟩:=own_form hown; injection h1; omega
 have hsm:=same_any A1 m c1 S' A n c e.sels w1 hts1 (Ts.below ht hbw1) hc1 (Nat.le_trans hf.1 hf.2.1)
 rw [hsm0] at hsm
 clear hset c4 b0
 go_wp2_with fail
 refine hsm.mono ?_
 rintro x w2 ⟨rfl,hb2⟩
 have hbw2:Below w.heap.size w w2:=hbw1.trans (hb2.mono hbw1.size)
 have b2:=b1.below hb2
 have q0:w2.cell? ⟨w.heap.size,0,none⟩=some (.int .i64 e.n):=b2.cell 0
 have q1:w2.cell? ⟨w.heap.size,1,none⟩=some (.string (str e.path)):=b2.cell 1
 have q2:w2.cell? ⟨w.heap.size,2,none⟩=some (.string (str e.parent)):=b2.cell 2
 have q3:w2.cell? ⟨w.heap.size,3,none⟩=some (.int .i64 e.ttl):=b2.cell 3
 have hsl1:decide ((0:Int)<(m:Int))=sl:=by rw [← hsl0,← hml,Bool.eq_iff_iff]; simp
 clear hsm d4 hown hts1 hb1 hb2 b1 b2 hsm0 hsl0 hf0 hml
 go_wp2_with fail
 refine(hpa _).mono ?_
 rintro x w3 ⟨rfl,rfl⟩
 go_wp2_with fail
 refine(hag _).mono ?_
 rintro x w3 ⟨rfl,rfl⟩
 go_wp2_with fail
 refine(hpb _).mono ?_
 rintro x w3 ⟨rfl,rfl⟩
 have hcase:f0=false∨(f0=true∧(sm=false∨(sm=true∧((¬ (0:Int)<(m:Int)∧sl=false)∨((0:Int)<(m:Int)∧sl=true∧(b3=false∨(b3=true∧(b4=true∨(b4=false∧(b5=false∨(b5=true∧(¬ 1≤e.n∨(1≤e.n∧¬ e.n≤1099511627776)∨(1≤e.n∧e.n≤1099511627776∧¬ 1≤e.ttl)∨(1≤e.n∧e.n≤1099511627776∧1≤e.ttl∧¬ e.ttl≤1000)∨(1≤e.n∧e.n≤1099511627776∧1≤e.ttl∧e.ttl≤1000))))))))))))):=by
  cases f0
  ·exact .inl rfl
  refine .inr ⟨rfl,?_⟩
  cases sm
  ·exact .inl rfl
  refine .inr ⟨rfl,?_⟩; by_cases hm0:(0:Int)<(m:Int)
  rotate_left
  ·exact .inl ⟨hm0,by rw [← hsl1,decide_eq_false hm0]⟩
  refine .inr ⟨hm0,by rw [← hsl1,decide_eq_true hm0],?_⟩
  cases b3
  ·exact .inl rfl
  refine .inr ⟨rfl,?_⟩
  cases b4
  rotate_left
  ·exact .inl rfl
  refine .inr ⟨rfl,?_⟩
  cases b5
  ·exact .inl rfl
  refine .inr ⟨rfl,?_⟩; omega
 clear hpa hag hpb hsl1
 rcases hcase with rfl|⟨rfl,rfl|⟨rfl,⟨h0,rfl⟩|⟨h0,rfl,rfl|⟨rfl,rfl|⟨rfl,rfl|⟨rfl,h1|⟨h1,h2⟩|⟨h1,h2,h3⟩|⟨h1,h2,h3,h4⟩|⟨h1,h2,h3,h4⟩⟩⟩⟩⟩⟩⟩
 all_goals
  go_wp2_with fail
  go_ret; exact⟨by simp [*] <;> omega,hbw2⟩
end
section
open Go.ChangeShapes Go.WideShapes Go.ChangeAt Go.RowKit
theorem steps_tab {W : World} {r : List (String × DataW Unit)} (h : laidMet Tryz.prog (("brevet/sha.steps", Rows.laid_brevet_sha_steps) :: r) W) : Tab Sha.kkL W := by
 obtain⟨Z,hZ,hZt⟩:∃ Z:List Int,(Rows.laid_brevet_sha_steps:DataW Unit)=.agg (Z.map fun n=>.lit (.int .u64 n))∧Z.length=80∧((List.range 64).all fun t=>decide (0≤Z.getD t 0)&&decide ((Z.getD t 0).toNat<18446744073709551616)&&decide ((Z.getD t 0).toNat / 4294967296=Sha.kkL.getD t 0))=true :=
  ⟨(match (Rows.laid_brevet_sha_steps:DataW Unit) with|.agg l=>l.map (fun d=>match d with|.lit (.int _ n)=>n|_=>0)|_=>[]),by kernel_rfl,by kernel_rfl,by kernel_rfl⟩
 obtain⟨hZl,hZt⟩:=hZt
 obtain⟨ps,⟨g,t,cs,fuel,p,q,hg,ht,hv,hd,_,_⟩,_,_⟩:=h
 obtain rfl := Option.some.inj ((show Tryz.prog.globalNamed "brevet/sha.steps" = some 1 by kernel_rfl).symm.trans hg)
 obtain rfl:=Option.some.inj ((show (Tryz.prog.globals[1]?).map (·.type)=some 292 by kernel_rfl).symm.trans ht)
 obtain⟨xs,m,_,ex,_,hl,hel⟩:=DataW.trod_array Tryz.underlying292 hd
 have c5:Tryz.prog.cellsOf 151=1:=by kernel_rfl
 intro k hk
 have hk80:k<80:=by omega
 have hE:=hel k hk80
 rw [c5,Nat.mul_one,List.getElem?_eq_getElem (by omega)] at hE
 obtain⟨z,e1,e2,_⟩:=DataW.trod_int Tryz.underlying151 hE
 rw [hZ] at ex
 have e3:(xs.map (·.1))=Z.map fun n=>.lit (.int .u64 n):=(DataW.agg.inj (Prod.mk.inj ex).1).symm
 have e4:(xs.map (·.1))[k]?=(Z.map fun n=>(DataW.lit (.int .u64 n):DataW Unit))[k]?:=by rw [e3]
 rw [List.getElem?_map,List.getElem?_map,List.getElem?_eq_getElem (by omega:k<xs.length),List.getElem?_eq_getElem (by omega:k<Z.length),e2] at e4
 have hz:z=Z.getD k 0:=by
  simp only [Option.map_some,Option.some.injEq,DataW.lit.injEq,Lit.int.injEq,true_and] at e4; rw [e4,List.getD,List.getElem?_eq_getElem (by omega:k<Z.length)]; rfl
 have hcell:W.cell? ⟨1,k,none⟩=some (.int .u64 z):=by
  rw [World.var?_cell hg hv k]; have:cs.toList[k]?=some (.int .u64 z):=by
   have h0:((cs.toList.drop k).take 1)[0]?=some (.int .u64 z):=by rw [e1]; rfl
   simpa using h0
  simpa using this
 have h3:=List.all_eq_true.1 hZt k (List.mem_range.2 hk)
 simp only [Bool.and_eq_true,decide_eq_true_eq] at h3
 obtain⟨⟨g1,g2⟩,g3⟩:=h3
 rw [← hz] at g1 g2 g3
 exact⟨z.toNat,by rw [hcell,Int.toNat_of_nonneg g1],g2,g3⟩
end
end Go.Proofs.YtmbpnkacggngkaaGreatDoor
