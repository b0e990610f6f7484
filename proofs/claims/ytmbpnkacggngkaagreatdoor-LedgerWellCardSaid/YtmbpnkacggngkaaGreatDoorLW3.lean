/- Mix, LedOpR, LedDec, ShaOf, ShaNames, LedCodesSpec, MixR, Conv (put together by bundle.py: only what is needed). -/
import Derived.Laws.DeepStrings4
import Derived.Laws.IdiomStrings
import Derived.Test.YtmbpnkacggngkaaGreatDoorLW2
set_option maxRecDepth 100000
set_option maxHeartbeats 16000000
namespace Go.Proofs.YtmbpnkacggngkaaGreatDoor
section
namespace Batch
open Go.RowKit
def calm:Op→Bool
 | .load _ _=>true
 | .build _ _=>true
 | .nilCheck _=>true
 | o=>valued o
theorem calm_value{P:Program} {o:Oper} (h:calm o.op=true) (ρ:Operand→Value) (w w':World) (n:Next) (hr:(execOp ρ o).run P w=.ok n w'):∃ u,n=.value u:=by
 by_cases hv:valued o.op=true
 ·exact valued_value hv ρ w w' n hr
 ·obtain⟨dst,op,type,pos,after,guard⟩:=o
  cases op <;> first|(exfalso; simp [calm,valued] at h hv; done)|skip
  case neg.nilCheck x =>
   unfold execOp at hr; simp only at hr; generalize ρ x=y at hr; have hp:(runtimePanic .nilDeref:Sem Next).run P w=.ok n w'→False:=fun h=>by simp [runtimePanic] at h
   split at hr
   ·exact(hp hr).elim
   ·exact(hp hr).elim
   ·exact(hp hr).elim
   ·split at hr
    ·exact(hp hr).elim
    ·rename_i t vv _
     simp only [Sem.run_bind] at hr
     cases hq:(program:Sem Program).run P w with
     | halt q w1=>rw [hq] at hr; cases hr
     | ok u w1 =>
      rw [hq] at hr; simp only [Result.andThen_ok] at hr
      cases hq2:(nilAhead (u.types.size+Made.depth) t vv _).run P w1 with
      | halt q w2=>rw [hq2] at hr; cases hr
      | ok b w2 =>
       rw [hq2] at hr; simp only [Result.andThen_ok] at hr; split at hr
       ·simp at hr
       ·simp at hr
        exact⟨_,hr.1.symm⟩
    ·simp at hr
     exact⟨_,hr.1.symm⟩
   ·simp at hr
    exact⟨_,hr.1.symm⟩
  all_goals
   have key:∀ (s:Sem Value),(do pure (Next.value (← s)):Sem Next).run P w=.ok n w'→∃ u,n=.value u:=fun s hs=>by
    rw [Sem.run_bind] at hs
    cases hq:s.run P w with
    | halt q w1=>rw [hq] at hs; cases hs
    | ok u w1 =>
     rw [hq] at hs; simp only [Result.andThen_ok,Sem.run_pure,Result.ok.injEq] at hs; exact⟨u,hs.1.symm⟩
   exact key _ hr
section
variable {P:Program} {ops:Array Oper} {md:Region.Mode} {R:World→World→Prop} {w0:World}
def calmAt (ops:Array Oper) (i:Nat):Bool:=match ops[i]? with|some o=>calm o.op|none=>false
def wpMix (P:Program) (md:Region.Mode) (ops:Array Oper) (R:World→World→Prop) (w0:World) (B:List Nat) (L:List Item) (Q:Array Bool→Act→(World→Prop)→Prop):Nat→Array Bool→Act→(World→Prop)→Prop
 | 0,listed,a,F=>Q listed a F
 | f+1,listed,a,F=>Region.ready md ops listed≠[]∧∀ i∈Region.ready md ops listed,
   (i∈B∧qOp P ops (R w0) i (fun a'=>wpMix P md ops R w0 B L Q f (listed.setIfInBounds i true) a' F) a) ∨
   (∃ x∈L,x.1=i∧∃ o,ops[i]?=some o∧Region.wanted o (yielded ops a.tmps)=true∧(∀ w,R w0 w→gives P R x.2 w ((execOp a.eval o).run P w)) ∧
    ∀ v,wpMix P md ops R w0 B L Q f (listed.setIfInBounds i true) (a.put o.dst v) (fun w=>F w∧x.2 v w))
theorem wpOp_calm{i:Nat} {a:Act} {K:Act→Prop} {K':Act→World→Prop} {Q':Exit→Act→World→Prop} {C:World→Prop} {w:World} (hc:calmAt ops i=true) (hC:C w) (h:∀ a,K a→K' a w) (hh:qOp P ops C i K a):wpOp P ops Q' i K' a w:=by
 unfold qOp at hh
 unfold wpOp
 unfold calmAt at hc
 cases ho:ops[i]? with
 | none=>rw [ho] at hc; cases hc
 | some o =>
  simp only [ho] at hh hc ⊢; split
  ·rename_i hw
   simp only [hw,if_true] at hh; refine .inl ?_; obtain⟨v,h1,h2⟩:=hh; have h3:=h1 w hC; unfold Oper.quietAt at h3; unfold Oper.wp
   cases hr:(execOp a.eval o).run P w with
   | halt q w'=>rw [hr] at h3; exact h3.elim
   | ok n w' =>
    obtain⟨u,rfl⟩:=calm_value hc a.eval w w' n hr; rw [hr] at h3; obtain⟨rfl,rfl⟩:=h3; exact h _ h2
  ·rename_i hw
   simp only [hw] at hh; exact h _ hh
def lateB (md:Region.Mode) (ops:Array Oper) (base:Array Bool) (B:List Nat) (L:List Nat):Bool :=
 B.all fun c=>calmAt ops c||L.all fun i=>!(without md ops c (B++L) base).getD i true
theorem topo_lt:∀ (L:List Nat) (acc:Array Bool),topo md ops L acc=true→∀ k∈L,k<ops.size
 | [],_,_,k,hk=>by cases hk
 | k0::L,acc,ht,k,hk=>by
  simp only [topo,Bool.and_eq_true] at ht; rcases List.mem_cons.1 hk with rfl|hk
  ·obtain⟨o,ho,_⟩:=depsOK_iff.1 ht.1
   exact(Array.getElem?_eq_some_iff.1 ho).1
  ·exact topo_lt L _ ht.2 k hk
theorem late_listed{B L:List Nat} {base listed:Array Bool} (inv:Inv md ops (B++L) base listed) (hc:closedB md ops base (B++L)=true) (hl:lateB md ops base B L=true) {i:Nat} (hi:i∈L) (hr:i∈Region.ready md ops listed)
  {c:Nat} (hcB:c∈B) (hcc:calmAt ops c=false) (hci:c≠i):listed.getD c true=true:=by
 cases hun:listed.getD c true with
 | true=>rfl
 | false =>
  exfalso
  have h1:=List.all_eq_true.1 hl c hcB; simp only [hcc,Bool.false_or] at h1; have h2:=List.all_eq_true.1 h1 i hi; simp only [closedB,Bool.and_eq_true] at hc; obtain⟨htopo,_⟩:=hc; have hiBL:i∈B++L:=List.mem_append_right _ hi; have inv2:=inv.set hiBL hr; have hi_s:i<ops.size:=topo_lt _ _ htopo i hiBL; have hge:=without_ge (md:=md) (ops:=ops) (listed:=listed.setIfInBounds i true) (base:=base) (i:=c) (by rw [getD_set_ne false (Ne.symm hci)]; exact getD_both hun) inv2.closed (B++L) base base
   (fun k hk=>by rw [inv.bs]; exact topo_lt _ _ htopo k hk) htopo (fun _ h=>h) (fun _ h _=>h) i (lay_in _ _ _ hiBL (by rw [inv.bs]; exact hi_s)) (set_self (by rw [inv.size]; exact hi_s))
  have hsz:i<(without md ops c (B++L) base).size:=by
   rcases Nat.lt_or_ge i (without md ops c (B++L) base).size with h|h
   ·exact h
   ·simp [Array.getElem?_eq_none h] at hge
  rw [getD_swap hsz,hge] at h2
  cases h2
theorem wpAny_of_mix{B:List Nat} {L:List Item} {base:Array Bool} {g:Nat} {Q:Array Bool→Act→(World→Prop)→Prop} {Q':Exit→Act→World→Prop} (hR:Rely R) (hst:∀ x∈L,Stable R x.2) (hc:closedB md ops base (B++L.map (·.1))=true) (hl:lateB md ops base B (L.map (·.1))=true) (hdis:∀ x∈L,x.1∉B)
  (hQ:∀ listed a F w,R w0 w→F w→Q listed a F→wpAny P md ops Q' g listed a w) :
  ∀ (f:Nat) (listed:Array Bool) (a:Act) (F:World→Prop) (w:World),Inv md ops (B++L.map (·.1)) base listed→R w0 w→F w→(∀ w w',R w w'→F w→F w')→((∀ w,F w)∨(∀ c∈B,calmAt ops c=false→listed.getD c true=true)) →
   wpMix P md ops R w0 B L Q f listed a F→wpAny P md ops Q' (f+g) listed a w:=by
 intro f
 induction f with
 | zero =>
  intro listed a F w _ hw hF _ _ h; rw [Nat.zero_add]; exact hQ _ _ _ _ hw hF h
 | succ f ih =>
  intro listed a F w inv hw hF hFs hT h; rw [show f+1+g=(f+g)+1 by omega]; refine⟨fun h0=>absurd h0 h.1,fun i hi=>?_⟩; rcases h.2 i hi with⟨hiB,hq⟩|⟨x,hx,rfl,o,ho,hwa,hg,hk⟩
  ·have inv':=inv.set (List.mem_append_left _ hiB) hi
   cases hcalm:calmAt ops i with
   | true =>
    refine wpOp_calm (C:=R w0) hcalm hw (fun a' ha'=>ih _ a' F w inv' hw hF hFs ?_ ha') hq; rcases hT with hT|hT
    ·exact .inl hT
    ·refine .inr fun c hcB hcc=>?_
     have hne:i≠c:=fun e=>by rw [e,hcc] at hcalm; cases hcalm
     rw [getD_set_ne true hne]; exact hT c hcB hcc
   | false =>
    have hT':∀ w,F w:=by
     rcases hT with hT|hT
     ·exact hT
     ·have h1:=hT i hiB hcalm
      rw [(mem_ready.1 hi).1] at h1
      cases h1
    exact wpOp_of_qOp (C:=R w0) hw (fun a' w' hw' ha'=>ih _ a' F w' inv' hw' (hT' w') hFs (.inl hT') ha') hq
  ·have hxL:x.1∈L.map (·.1):=List.mem_map_of_mem hx
   have inv':=inv.set (List.mem_append_right _ hxL) hi; have hall:∀ c∈B,calmAt ops c=false→(listed.setIfInBounds x.1 true).getD c true=true:=fun c hcB hcc=>by
    have hne:c≠x.1:=fun e=>hdis x hx (by rw [← e]; exact hcB)
    rw [getD_set_ne true (Ne.symm hne)]; exact late_listed inv hc hl hxL hi hcB hcc hne
   have step:∀ v w',R w w'→x.2 v w'→wpAny P md ops Q' (f+g) (listed.setIfInBounds x.1 true) (a.put o.dst v) w':=fun v w' hww hTv =>
    ih _ _ _ w' inv' (hR.trans hw hww) ⟨hFs _ _ hww hF,hTv⟩ (fun w1 w2 h12 h1=>⟨hFs _ _ h12 h1.1,hst x hx _ _ _ h12 h1.2⟩) (.inr hall) (hk v)
   unfold wpOp; simp only [ho]; rw [if_pos hwa]; refine .inl ?_; have hgw:=hg w hw; unfold Oper.wp; generalize (execOp a.eval o).run P w=r at *
   cases r with
   | ok m w' =>
    cases m <;> simp only [gives] at hgw <;> simp only [Oper.upon]
    case value u=>exact step u w' hgw.1 hgw.2
    case skip=>exact step undef w' hgw.1 hgw.2
    case enter f' args =>
     obtain⟨rfl,hcall⟩:=hgw; exact hcall.mono fun e w'' ⟨v,he,h1,h2⟩=>by subst he; exact step v w'' h1 h2
   | halt q w'=>simp only [gives] at hgw
theorem wpMix_first{B:List Nat} {L:List Item} {Q:Array Bool→Act→(World→Prop)→Prop} {base fin:Array Bool} {i:Nat} {oi:Oper} {v:Value} (hi:ops[i]?=some oi) (hsel:∀ (j:Nat) (o:Oper) cs b,ops[j]?=some o→o.op≠.select cs b)
  (hc:closedB md ops base (B++L.map (·.1))=true) (hiB:i∈B) (hfin:∀ j∈B++L.map (·.1),fin.getD j true=true) (hQ:∀ listed a F,Q listed a F→listed=fin) :
  ∀ (f:Nat) (listed:Array Bool) (a:Act) (F:World→Prop),Inv md ops (B++L.map (·.1)) base listed →
   (∀ j oj,ops[j]?=some oj→j≠i→listed.getD j true=false→(∀ e∈oj.after,Region.binds md e=true→e.on≠i)→oi.apart ops oj=true) →
   i∈Region.ready md ops listed→YieldsIn P ops (R w0) oi v a →
   wpMix P md ops R w0 B L Q f (listed.setIfInBounds i true) (a.put oi.dst v) F→wpMix P md ops R w0 B L Q (f+1) listed a F:=by
 intro f
 induction f with
 | zero =>
  intro listed a F inv _ hr hy H; have hun:=(mem_ready.1 hr).1; refine⟨fun h=>(by rw [h] at hr; cases hr),fun j hj=>?_⟩
  have hjB:=inv.stays hc (List.mem_append_left _ hiB) hun hj; by_cases hji:j=i
  ·subst hji; exact .inl ⟨hiB,hy.qOp hi H⟩
  ·exfalso
   have h1:=ready_mono hj hji; rw [hQ _ _ _ H] at h1; have h2:=(mem_ready.1 h1).1; rw [hfin j hjB] at h2
   cases h2
 | succ f ih =>
  intro listed a F inv hfree hr hy H; have hun:=(mem_ready.1 hr).1; refine⟨fun h=>(by rw [h] at hr; cases hr),fun j hj=>?_⟩
  have hjB:=inv.stays hc (List.mem_append_left _ hiB) hun hj; by_cases hji:j=i
  ·subst hji; exact .inl ⟨hiB,hy.qOp hi H⟩
  ·have h1:=H.2 j (ready_mono hj hji)
   obtain⟨hjun,oj,hoj,hall⟩:=mem_ready.1 hj; have hnot:∀ e∈oj.after,Region.binds md e=true→e.on≠i:=fun e he hb heq=>by
    have h1:=hall e he hb; rw [heq,getD_both hun] at h1
    cases h1
   have hap:=hfree j oj hoj hji hjun hnot; have hfree':∀ k ok,ops[k]?=some ok→k≠i→(listed.setIfInBounds j true).getD k true=false →
     (∀ e∈ok.after,Region.binds md e=true→e.on≠i)→oi.apart ops ok=true:=fun k ok hk hki hun hno=>by
    refine hfree k ok hk hki ?_ hno; by_cases hjk:j=k
    ·subst hjk; exact hjun
    ·rw [getD_set_ne true hjk] at hun; exact hun
   rcases h1 with⟨hjB',h1⟩|⟨x,hx,hxj,o,ho,hwa,hg,hk⟩
   ·refine .inl ⟨hjB',?_⟩
    have h2:=qOp_put hoj hap (fun cs b=>hsel i oi cs b hi) (fun cs b=>hsel j oj cs b hoj) hy h1; refine qOp_mono (fun a' h3=>ih (listed.setIfInBounds j true) a' F (inv.set hjB hj) hfree' (ready_mono hr (Ne.symm hji)) h3.1 ?_) h2; rw [Array.setIfInBounds_comm _ _ hji]; exact h3.2
   ·have:o=oj:=Option.some.inj (ho.symm.trans hoj)
    subst this; obtain⟨g1,g2,g3⟩:=Oper.apart_spec hap; refine .inr ⟨x,hx,hxj,o,ho,?_,fun w hw=>?_,fun u=>?_⟩
    ·rw [wanted_put o a oi.dst v g1] at hwa
     exact hwa
    ·have:=hg w hw
     rw [execOp_put o (fun cs b=>hsel j o cs b ho) a oi.dst v g1] at this; exact this
    ·refine ih (listed.setIfInBounds j true) (a.put o.dst u) _ (inv.set hjB hj) hfree' (ready_mono hr (Ne.symm hji)) (hy.of_same (execOp_put oi (fun cs b=>hsel i oi cs b hi) a o.dst u g3) (wanted_put oi a o.dst u g3)) ?_
     rw [Array.setIfInBounds_comm _ _ hji,← Act.put_comm a v u g2]; exact hk u
theorem wpMix_loose{B:List Nat} {L0:List Item} {Qf:Act→(World→Prop)→Prop} {base fin:Array Bool} (hQf:∀ a F F',(∀ w,F' w→F w)→Qf a F→Qf a F') (hsel:∀ (j:Nat) (o:Oper) cs b,ops[j]?=some o→o.op≠.select cs b) (hc:closedB md ops base (B++L0.map (·.1))=true) (hap:apartB ops (L0.map (·.1))=true) :
  ∀ (n:Nat) (L:List Item) (listed:Array Bool) (a:Act) (F:World→Prop),L.length=n→(L.map (·.1)).Nodup→(∀ x∈L,x∈L0∧x.1∈Region.ready md ops listed) →
   (∀ i∈B++L0.map (·.1),listed.getD i true=false→i∈L.map (·.1))→Inv md ops (B++L0.map (·.1)) base listed→lay listed (L.map (·.1))=fin →
   wpLoose P ops R w0 Qf L a F→wpMix P md ops R w0 B L0 (fun listed' a' F'=>listed'=fin∧Qf a' F') n listed a F:=by
 intro n
 induction n with
 | zero =>
  intro L listed a F hn _ _ _ _ hf h; have:L=[]:=List.length_eq_zero_iff.1 hn; subst this; exact⟨hf,h⟩
 | succ n ih =>
  intro L listed a F hn hnd hL hall inv hf h; obtain⟨x0,L1,rfl⟩:∃ x L1,L=x::L1:=by
   cases L with
   | nil=>cases hn
   | cons x L1=>exact⟨x,L1,rfl⟩
  have hx0:=hL x0 List.mem_cons_self; refine⟨fun h0=>(by have:=hx0.2; rw [h0] at this; cases this),fun j hj=>?_⟩
  have hjB:j∈B++L0.map (·.1):=inv.stays hc (List.mem_append_right _ (List.mem_map_of_mem hx0.1)) (mem_ready.1 hx0.2).1 hj; have hjL:=hall j hjB (mem_ready.1 hj).1; obtain⟨⟨j',T⟩,hmem,hje⟩:=List.mem_map.1 hjL; have hje:j'=j:=hje; subst hje; obtain⟨B1,B2,hsplit⟩:=List.append_of_mem hmem; rw [hsplit] at h hnd hf; have hnd':=hnd; simp only [List.map_append,List.map_cons] at hnd' hf; have hne1:∀ y∈B1,y.1≠j':=fun y hy e=>by
   rw [List.nodup_append] at hnd'; exact hnd'.2.2 y.1 (List.mem_map_of_mem hy) j' (List.mem_cons_self) e
  have hne2:∀ y∈B2,y.1≠j':=fun y hy e=>by
   rw [List.nodup_append] at hnd'; exact(List.nodup_cons.1 hnd'.2.1).1 (by rw [← e]; exact List.mem_map_of_mem hy)
  have hin12:∀ y∈B1++B2,y∈x0::L1∧y.1≠j':=fun y hy=>by
   rcases List.mem_append.1 hy with h1|h1
   ·exact⟨by rw [hsplit]; exact List.mem_append_left _ h1,hne1 y h1⟩
   ·exact⟨by rw [hsplit]; exact List.mem_append_right _ (List.mem_cons_of_mem _ h1),hne2 y h1⟩
  have hj0:j'∈L0.map (·.1):=List.mem_map_of_mem (f:=(·.1)) (hL _ hmem).1; obtain⟨o,k1,k2,k3,k4⟩:=wpLoose_pull hQf hsel hap hj0 B1 a F (fun y hy=>⟨List.mem_map_of_mem (hL y (by rw [hsplit]; exact List.mem_append_left _ hy)).1,hne1 y hy⟩) h
  refine .inr ⟨(j',T),(hL _ hmem).1,rfl,o,k1,k2,k3,fun v=>?_⟩; refine ih (B1++B2) (listed.setIfInBounds j' true) (a.put o.dst v) _ ?_ ?_ ?_ ?_ (inv.set hjB hj) ?_ (k4 v)
  ·rw [hsplit] at hn
   simp only [List.length_append,List.length_cons] at hn ⊢; omega
  ·simp only [List.map_append]
   rw [List.nodup_append] at hnd' ⊢; exact⟨hnd'.1,(List.nodup_cons.1 hnd'.2.1).2,fun p hp q hq=>hnd'.2.2 p hp q (List.mem_cons_of_mem _ hq)⟩
  ·intro y hy
   obtain⟨h1,h2⟩:=hin12 y hy; exact⟨(hL y h1).1,ready_mono (hL y h1).2 h2⟩
  ·intro i hi hun
   have hij:i≠j':=by
    rintro rfl; have hjs:i<listed.size:=by
     obtain⟨o',ho',_⟩:=(mem_ready.1 hj).2; rw [inv.size]; exact(Array.getElem?_eq_some_iff.1 ho').1
    rw [getD_swap (by simpa using hjs),set_self hjs] at hun
    cases hun
   rw [getD_set_ne true (Ne.symm hij)] at hun; have h1:=hall i hi hun; rw [hsplit] at h1; simp only [List.map_append,List.map_cons,List.mem_append,List.mem_cons] at h1 ⊢; rcases h1 with h1|h1|h1
   ·exact .inl h1
   ·exact absurd h1 hij
   ·exact .inr h1
  ·rw [← hf]
   simp only [List.map_append]; have hcomm:∀ (l1:List Nat) (l2:List Nat) (s:Array Bool),j'∉l1→lay (s.setIfInBounds j' true) (l1++l2)=lay s (l1++j'::l2):=by
    intro l1; induction l1 with
    | nil=>intro l2 s _; rfl
    | cons p l1 ihl =>
     intro l2 s hp; have hpj:p≠j':=fun e=>hp (by rw [e]; exact List.mem_cons_self)
     show lay ((s.setIfInBounds j' true).setIfInBounds p true) (l1++l2)=lay (s.setIfInBounds p true) (l1++j'::l2)
     rw [← Array.setIfInBounds_comm _ _ hpj]; exact ihl l2 _ (fun hm=>hp (List.mem_cons_of_mem _ hm))
   refine hcomm _ _ _ (fun hm=>?_); obtain⟨y,hy,hye⟩:=List.mem_map.1 hm; exact hne1 y hy hye
def mixB (md:Region.Mode) (ops:Array Oper) (base:Array Bool) (B L:List Nat):Bool :=
 Region.noSelect ops&&decide (base.size=ops.size)&&closedB md ops base (B++L)&&lateB md ops base B L&&seqOK md ops B base&&apartB ops L&&decide (B++L).Nodup&&L.all fun i=>(Region.ready md ops (lay base B)).contains i
theorem lay_append(l1 l2:List Nat) (s:Array Bool):lay s (l1++l2)=lay (lay s l1) l2:=by simp [lay]
theorem wpAny_mix{Q':Exit→Act→World→Prop} {a:Act} {w:World} {base:Array Bool} {N fuel:Nat} (hR:Rely R) (hw0:R w0 w) (B:List Nat) (L:List Item) (hB:mixB md ops base B (L.map (·.1))=true) (hst:∀ x∈L,Stable R x.2) (hN:N=B.length+L.length+fuel)
  (h:wpQuiet P ops (R w0) (fun a'=>wpLoose P ops R w0 (fun a' F=>∀ w',R w0 w'→F w'→wpAny P md ops Q' fuel (lay (lay base B) (L.map (·.1))) a' w') L a' (fun _=>True)) (B.filterMap (ops[·]?)) a):wpAny P md ops Q' N base a w:=by
 simp only [mixB,Bool.and_eq_true,decide_eq_true_eq] at hB
 obtain⟨⟨⟨⟨⟨⟨⟨hsel,hsz⟩,hc⟩,hl⟩,hseq⟩,hap⟩,hnd⟩,hrd⟩:=hB
 subst hN
 have hsel':=Region.noSelect_spec hsel
 have hnd2:=hnd
 rw [List.nodup_append] at hnd2
 have hdis:∀ x∈L,x.1∉B:=fun x hx hm=>hnd2.2.2 x.1 hm x.1 (List.mem_map_of_mem hx) rfl
 have htopo:topo md ops (B++L.map (·.1)) base=true:=by
  simp only [closedB,Bool.and_eq_true] at hc; exact hc.1
 have hlt:=topo_lt _ _ htopo
 have hfin:∀ j∈B++L.map (·.1),(lay (lay base B) (L.map (·.1))).getD j true=true:=fun j hj=>by
  rw [← lay_append,getD_swap (by rw [lay_size,hsz]; exact hlt j hj)]
  exact lay_in _ _ _ hj (by rw [hsz]; exact hlt j hj)
 have key:∀ (l:List Nat) (listed:Array Bool) (a:Act),(∀ i∈l,i∈B)→(∀ i∈B,listed.getD i true=false→i∈l)→Inv md ops (B++L.map (·.1)) base listed→(∀ i∈L.map (·.1),listed.getD i true=false)→seqOK md ops l listed=true→lay listed l=lay base B →
   wpQuiet P ops (R w0) (fun a'=>wpLoose P ops R w0 (fun a' F=>∀ w',R w0 w'→F w'→wpAny P md ops Q' fuel (lay (lay base B) (L.map (·.1))) a' w') L a' (fun _=>True)) (l.filterMap (ops[·]?)) a →
   wpMix P md ops R w0 B L (fun listed' a' F'=>listed'=lay (lay base B) (L.map (·.1))∧∀ w',R w0 w'→F' w'→wpAny P md ops Q' fuel (lay (lay base B) (L.map (·.1))) a' w') (l.length+L.length) listed a (fun _=>True):=by
  intro l; induction l with
  | nil =>
   intro listed a _ hall inv _ _ hf h; have hf:listed=lay base B:=hf; rw [List.length_nil,Nat.zero_add]; refine wpMix_loose (fun a F F' hFF hq w' hw' hF'=>hq w' hw' (hFF w' hF')) hsel' hc hap L.length L listed a _ rfl hnd2.2.1 (fun x hx=>⟨hx,?_⟩) (fun i hi hun=>?_) inv (by rw [hf]) h
   ·have:=List.all_eq_true.1 hrd x.1 (List.mem_map_of_mem hx)
    rw [hf]; simpa using this
   ·rcases List.mem_append.1 hi with h1|h1
    ·cases hall i h1 hun
    ·exact h1
  | cons i l ih =>
   intro listed a hl' hall inv hLu hsq hf h; simp only [seqOK,Bool.and_eq_true] at hsq; obtain⟨⟨hr,hfr⟩,hB'⟩:=hsq; have hr':i∈Region.ready md ops listed:=by simpa using hr
   obtain⟨_,o,ho,_⟩:=mem_ready.1 hr'; have hiB:=hl' i List.mem_cons_self; have hstp:qOp P ops (R w0) i (wpQuiet P ops (R w0) (fun a'=>wpLoose P ops R w0 (fun a' F=>∀ w',R w0 w'→F w'→wpAny P md ops Q' fuel (lay (lay base B) (L.map (·.1))) a' w') L a' (fun _=>True)) (l.filterMap (ops[·]?))) a:=by
    unfold qOp; simp only [ho]; rw [List.filterMap_cons_some ho] at h; exact h
   obtain⟨v,hy,hK⟩:=yieldsIn_of_qOp ho hstp; have:=ih (listed.setIfInBounds i true) _ (fun k hk=>hl' k (List.mem_cons_of_mem _ hk)) (fun k hk hun=>by
    have hne:k≠i:=by
     rintro rfl; have hks:k<listed.size:=by rw [inv.size]; exact(Array.getElem?_eq_some_iff.1 ho).1
     rw [getD_swap (by simpa using hks),set_self hks] at hun
     cases hun
    rw [getD_set_ne true (Ne.symm hne)] at hun; rcases List.mem_cons.1 (hall k hk hun) with h1|h1
    ·exact absurd h1 hne
    ·exact h1) (inv.set (List.mem_append_left _ hiB) hr') (fun k hk=>by
     have hne:i≠k:=fun e=>hnd2.2.2 i hiB k hk e; rw [getD_set_ne true hne]; exact hLu k hk) hB' hf hK
   rw [show (i::l).length+L.length=(l.length+L.length)+1 by simp only [List.length_cons]; omega]
   exact wpMix_first ho hsel' hc hiB hfin (fun _ _ _ hq=>hq.1) _ listed a _ inv (Region.free_spec ho hfr) hr' hy this
 have hLu:∀ i∈L.map (·.1),base.getD i true=false:=fun i hi=>by
  have h1:i∈Region.ready md ops (lay base B):=by
   have:=List.all_eq_true.1 hrd i hi; simpa using this
  have h2:=(mem_ready.1 h1).1; rw [lay_out B base i (fun hm=>hnd2.2.2 i hm i hi rfl)] at h2; exact h2
 have hM:=key B base a (fun _ h=>h) (fun _ h _=>h) (Inv.refl hsz) hLu hseq rfl h
 exact wpAny_of_mix hR hst hc hl hdis (fun listed a' F w' hw' hF hq=>by obtain⟨rfl,h2⟩:=hq; exact h2 w' hw' hF) _ base a _ w (Inv.refl hsz) hw0 trivial (fun _ _ _ h=>h) (.inl fun _=>trivial) hM
end
def GR (w w':World):Prop:=∃ p:Grew,w'=grew w p
theorem GR.below{w w':World} (h:GR w w'):Below w.heap.size w w':=by
 obtain⟨p,rfl⟩:=h
 exact grew_below w p
theorem GR.of{w w':World} (h:Below w.heap.size w w'):GR w w':=grew_of h
theorem rely_gr:Rely GR:=⟨fun w=>.of (Below.refl _ w),fun {_ _ _} h k=>.of (h.below.trans (k.below.mono h.below.size))⟩
theorem stable_gr{T:Value→World→Prop} (h:∀ v w w',Below w.heap.size w w'→T v w→T v w'):Stable GR T:=fun v w w' hr ht=>h v w w' hr.below ht
def seqL (md:Region.Mode) (ops:Array Oper):List Nat→Array Bool→Bool
 | [],listed=>(Region.ready md ops listed).isEmpty
 | k::T,listed=>decide (Region.ready md ops listed=[k])&&seqL md ops T (listed.setIfInBounds k true)
theorem wpAny_of_seqL{P:Program} {md:Region.Mode} {ops:Array Oper} {Q':Exit→Act→World→Prop}:∀ (T:List Nat) (listed:Array Bool) (a:Act) (w:World),seqL md ops T listed=true→wpList P ops Q' (T.filterMap (ops[·]?)) a w→wpAny P md ops Q' T.length listed a w
 | [],listed,a,w,hB,h=>⟨by simpa [seqL] using hB,h⟩
 | k::T,listed,a,w,hB,h=>by
  simp only [seqL,Bool.and_eq_true,decide_eq_true_eq] at hB; refine⟨fun h1=>(by rw [hB.1] at h1; cases h1),fun i hi=>?_⟩
  have hi':=hi; rw [hB.1] at hi; have hik:i=k:=by simpa using hi
  subst hik; obtain⟨_,o,h0,_⟩:=mem_ready.1 hi'; rw [List.filterMap_cons_some h0] at h; have hw:wpOp P ops Q' i (wpList P ops Q' (T.filterMap (ops[·]?))) a w:=by unfold wpOp; simp only [h0]; exact h
  exact wpOp_mono (fun a' w' h'=>wpAny_of_seqL T _ a' w' hB.2 h') hw
theorem wp_region_mix{P:Program} {id:Nat} {Q:Exit→Act→World→Prop} {a:Act} {w:World} {l:List Oper} (B:List Nat) (L:List Item) (T:List Nat) (hm:P.follows .mixedOrders=true)
  (hB:(B.all (fun i=>decide (i<l.length))&&T.all (fun i=>decide (i<l.length))&&mixB .any l.toArray (Array.replicate l.length false) B (L.map (·.1))&&decide (B.length+L.length+T.length=l.length)&&seqL .any l.toArray T (lay (lay (Array.replicate l.length false) B) (L.map (·.1))))=true)
  (hst:∀ x∈L,Stable GR x.2)
  (h:wpQuiet P l.toArray (fun w'=>∃ p:Grew,w'=grew w p) (fun a'=>wpLoose P l.toArray GR w (fun a'' F=>∀ w',GR w w'→F w'→wpList P l.toArray Q (pick l T) a'' w') L a' (fun _=>True)) (pick l B) a):(Code.region id l.toArray true).wp P Q a w:=by
 simp only [Bool.and_eq_true,decide_eq_true_eq] at hB
 obtain⟨⟨⟨⟨g1,g2⟩,h1⟩,h2⟩,h3⟩:=hB
 rw [← pick_eq l B g1,← pick_eq l T g2] at h
 refine wp_region_start hm (wpAny_mix (fuel:=T.length) rely_gr (GR.of (Below.refl _ _).drew) B L h1 hst (by omega) ?_)
 have key:∀ (L0:List Item) (a:Act) (F:World→Prop),wpLoose P l.toArray GR w (fun a'' F=>∀ w',GR w w'→F w'→wpList P l.toArray Q (T.filterMap (fun i=>l.toArray[i]?)) a'' w') L0 a F →
   wpLoose P l.toArray GR w (fun a' F=>∀ w',GR w w'→F w'→wpAny P .any l.toArray Q T.length (lay (lay (Array.replicate l.length false) B) (L.map (·.1))) a' w') L0 a F:=by
  intro L0; induction L0 with
  | nil=>intro a F h w' hw hF; exact wpAny_of_seqL T _ a w' h3 (h w' hw hF)
  | cons x L0 ih=>intro a F ⟨o,k1,k2,k3,k4⟩; exact⟨o,k1,k2,k3,fun v=>ih _ _ (k4 v)⟩
 have key2:∀ (l0:List Oper) (a:Act),wpQuiet P l.toArray (fun w'=>∃ p:Grew,w'=grew w p) (fun a'=>wpLoose P l.toArray GR w (fun a'' F=>∀ w',GR w w'→F w'→wpList P l.toArray Q (T.filterMap (fun i=>l.toArray[i]?)) a'' w') L a' (fun _=>True)) l0 a →
   wpQuiet P l.toArray (GR w) (fun a'=>wpLoose P l.toArray GR w (fun a' F=>∀ w',GR w w'→F w'→wpAny P .any l.toArray Q T.length (lay (lay (Array.replicate l.length false) B) (L.map (·.1))) a' w') L a' (fun _=>True)) l0 a:=by
  intro l0; induction l0 with
  | nil=>intro a h; exact key _ _ _ h
  | cons o l0 ih =>
   intro a h; unfold wpQuiet at h ⊢; split
   ·rename_i hw
    simp only [hw,if_true] at h; exact Oper.quiet_mono (fun a=>ih a) h
   ·rename_i hw
    simp only [hw] at h; exact ih _ h
 exact key2 _ _ h
end Batch
end
section
open Go.RowKit Mem Led
def noOp:Led.Op:=⟨0,0,[],⟨0,[],[],0,[]⟩,⟨[],[],0,false⟩,⟨[],[],0,0,[]⟩,⟨[],[],0,0⟩,⟨[],0,[]⟩⟩
theorem jv_snoc(L:List Jwk) (k:Jwk):jv (L++[k])=jv L++[tx k.kid,tx k.x]:=by simp [jv]
end
section
open Go.RowKit Mem Led
theorem size_op:(Tryz.prog.info? 47).map (·.size)=some 24:=by kernel_rfl
def loadOp (x:Value):Sem Value:=Instr.loadAt 47 x
def storeOp (x v:Value):Sem Unit:=Instr.storeAt 47 x v
theorem named_load_op(x:Value):Instr.loadAt 47 x=loadOp x:=rfl
theorem named_store_op(x v:Value):Instr.storeAt 47 x v=storeOp x v:=rfl
attribute [go_sem ↓] named_load_op named_store_op
theorem Blk.has{w:World} {g n:Nat} {cs:List Value} {t:TypeId} (h:Blk w g cs t) (hn:cs.length=n):Has w g 0 n:=fun j hj=>by
 rw [Nat.zero_add,h.cell j,List.getElem?_eq_getElem (by omega)]
 rfl
theorem Blk.arr{w:World} {g n:Nat} {cs:List Value} {t:TypeId} (h:Blk w g cs t) (hn:cs.length=n):arr w g 0 n=cs.toArray:=(arr_block (n:=n) h (by simpa using hn)).1
theorem load_op{w:World} {g:Nat} {cs:List Value} {t:TypeId} (h:Blk w g cs t) (hn:cs.length=24):(loadOp (.pointer (some ⟨g,0,none⟩))).run Tryz.prog w=.ok (.agg cs.toArray) w:=by
 have:=run_load_arr (P:=Tryz.prog) w 47 g 0 24 _ Tryz.underlying47 rfl size_op (h.has hn)
 rw [h.arr hn] at this
 exact this
theorem setCells_blk:∀ (vs:List Value) (w:World) (g k:Nat) (cs:List Value) (t:TypeId),Blk w g cs t→k+vs.length≤cs.length→Blk (w.setCells g k vs) g (cs.take k++vs++cs.drop (k+vs.length)) t
 | [],w,g,k,cs,t,h,_=>by simpa [World.setCells] using h
 | v::vs,w,g,k,cs,t,h,hk=>by
  have ih:=setCells_blk vs (w.setCell ⟨g,k,none⟩ v) g (k+1) (cs.set k v) t (h.set k v) (by simp at hk ⊢; omega)
  have e:(cs.set k v).take (k+1)++vs++(cs.set k v).drop (k+1+vs.length)=cs.take k++v::vs++cs.drop (k+(v::vs).length):=by
   have hk':k<cs.length:=by simp at hk; omega
   rw [List.take_set,List.drop_set_of_lt (by omega),List.length_cons,show k+1+vs.length=k+(vs.length+1) by omega]; have:(cs.take (k+1)).set k v=cs.take k++[v]:=by
    rw [← List.take_append_getElem hk',List.set_append_right _ _ (by rw [List.length_take]; omega)]
    simp [Nat.min_eq_left (Nat.le_of_lt hk')]
   rw [this]; simp
  rw [e] at ih; exact ih
theorem store_op{w:World} {g:Nat} {cs vs:List Value} {t:TypeId} (h:Blk w g cs t) (hn:cs.length=24) (hv:vs.length=24) (h1:∀ v∈vs,v.oneCell'=true) :
  (storeOp (.pointer (some ⟨g,0,none⟩)) (.agg vs.toArray)).run Tryz.prog w=.ok () (w.setCells g 0 vs)∧Blk (w.setCells g 0 vs) g vs t:=by
 have h2:=run_store_arr (P:=Tryz.prog) w 47 g 0 24 size_op vs.toArray ⟨by simpa using hv,by simpa using h1⟩ (h.has hn) (fun j _=>h.froz _)
 have h3:=setCells_blk vs w g 0 cs t h (by omega)
 simp [hv,← hn] at h3
 exact⟨h2,h3⟩
theorem results_arr2{P:Program} {fn:Func} {p s:Tmp} {ty:TypeId} (h:fn.results=#[.cell p ty,.tmp s]) (tmps:Array Value) (w:World) (g o n:Nat) (d:TypeDesc)
  (hp:tmps.getD p undef=.pointer (some ⟨g,o,none⟩)) (hu:P.underlying ty=some d) (hd:(match d with|.struct _|.array _ _=>true|_=>false)=true) (hi:(P.info? ty).map (·.size)=some n) (hh:Has w g o n) :
  (results fn tmps).run P w=.ok (.tuple #[.agg (Mem.arr w g o n),tmps.getD s undef]) w:=by
 have hp':tmps[p]?.getD undef=.pointer (some ⟨g,o,none⟩):=by simpa using hp
 have hl:=run_load_arr (P:=P) w ty g o n d hu hd hi hh
 simp only [Instr.loadAt,Instr.sureAddr,Sem.run_bind,Sem.run_pure,Result.andThen_ok] at hl
 simp [results,h,hp',asAddr,hl]
theorem opCells_one(o:Led.Op) (A B:Option Addr) (n c n' c':Nat):∀ v∈opCells o (.slice A n c) (.slice B n' c'),v.oneCell'=true:=by
 intro v hv
 simp only [opCells,List.mem_cons,List.not_mem_nil,or_false] at hv
 rcases hv with rfl|rfl|rfl|rfl|rfl|rfl|rfl|rfl|rfl|rfl|rfl|rfl|rfl|rfl|rfl|rfl|rfl|rfl|rfl|rfl|rfl|rfl|rfl|rfl <;> rfl
end
section
open Go.RowKit Mem
def zeroH:List Value:=[.int .i64 0,.int .i64 0,.slice none 0 0,.slice none 0 0,.slice none 0 0,.slice none 0 0,.slice none 0 0,.slice none 0 0]
def cellsH (b s:Int) (A B C D:Nat) (K:Option Addr) (nK cK:Nat) (F:Option Addr) (nF cF:Nat):List Value :=
 [.int .i64 b,.int .i64 s,.slice (some ⟨A,0,none⟩) 3 3,.slice (some ⟨B,0,none⟩) 3 3,.slice (some ⟨C,0,none⟩) 3 3,.slice (some ⟨D,0,none⟩) 3 3,.slice K nK cK,.slice F nF cF]
theorem cellsH_one(b s:Int) (A B C D:Nat) (K:Option Addr) (nK cK:Nat) (F:Option Addr) (nF cF:Nat):∀ v∈cellsH b s A B C D K nK cK F nF cF,v.oneCell'=true:=by
 intro v hv
 simp only [cellsH,List.mem_cons,List.not_mem_nil,or_false] at hv
 rcases hv with rfl|rfl|rfl|rfl|rfl|rfl|rfl|rfl <;> rfl
theorem of_first(w:World):∃ W2,(storeH (.pointer (some ⟨w.heap.size+1+1+1+1+1,0,none⟩)) (.agg #[.int .i64 64,.int .i64 80,.slice (some ⟨w.heap.size+1,0,none⟩) 3 3,.slice (some ⟨w.heap.size+1+1,0,none⟩) 3 3,.slice (some ⟨w.heap.size+1+1+1,0,none⟩) 3 3,.slice (some ⟨w.heap.size+1+1+1+1,0,none⟩) 3 3,.slice none 0 0,.slice none 0 0])).run Tryz.prog
  ((((((w.alloc (.cells #[.int .i64 0,.int .i64 0,.slice none 0 0,.slice none 0 0,.slice none 0 0,.slice none 0 0,.slice none 0 0,.slice none 0 0] 114)).alloc (.cells #[.int .i64 28,.int .i64 34,.int .i64 39] 3)).alloc (.cells #[.int .i64 14,.int .i64 18,.int .i64 41] 3)).alloc (.cells #[.int .i64 1,.int .i64 8,.int .i64 7] 3)).alloc (.cells #[.int .i64 19,.int .i64 61,.int .i64 6] 3)).alloc
   (.cells #[.int .i64 0,.int .i64 0,.slice none 0 0,.slice none 0 0,.slice none 0 0,.slice none 0 0,.slice none 0 0,.slice none 0 0] 114))=.ok () W2∧Blk W2 w.heap.size zeroH 114∧(∃ cs,cs.length=8∧Blk W2 (w.heap.size+1+1+1+1+1) cs 114)∧Below w.heap.size w W2:=by
 obtain⟨Wa,hWa⟩:∃ Wa,(((((w.alloc (.cells zeroH.toArray 114)).alloc (.cells #[.int .i64 28,.int .i64 34,.int .i64 39] 3)).alloc (.cells #[.int .i64 14,.int .i64 18,.int .i64 41] 3)).alloc (.cells #[.int .i64 1,.int .i64 8,.int .i64 7] 3)).alloc (.cells #[.int .i64 19,.int .i64 61,.int .i64 6] 3))=Wa:=⟨_,rfl⟩
 have hz:Wa.heap.size=w.heap.size+1+1+1+1+1:=by rw [← hWa]; simp
 have b0:Blk Wa w.heap.size zeroH 114:=by rw [← hWa]; exact((((Blk.new w zeroH _).alloc _).alloc _).alloc _).alloc _
 have hb:Below w.heap.size w Wa:=by rw [← hWa]; exact(((((Below.refl _ _).alloc (Nat.le_refl _) _).alloc (by simp) _).alloc (by simp; omega) _).alloc (by simp; omega) _).alloc (by simp; omega) _
 have b1:=Blk.new Wa zeroH 114
 obtain⟨s1,s2⟩:=store_H b1 rfl (vs:=cellsH 64 80 (w.heap.size+1) (w.heap.size+1+1) (w.heap.size+1+1+1) (w.heap.size+1+1+1+1) none 0 0 none 0 0) rfl (cellsH_one _ _ _ _ _ _ _ _ _ _ _ _)
 have hch:Chg [] Wa ((Wa.alloc (.cells zeroH.toArray 114)).setCells Wa.heap.size 0 (cellsH 64 80 (w.heap.size+1) (w.heap.size+1+1) (w.heap.size+1+1+1) (w.heap.size+1+1+1+1) none 0 0 none 0 0)):=((Chg.refl _ _).alloc _).setCells _ (.inr (Nat.le_refl _))
 have hb2:=hch.below (by simp)
 obtain⟨W2,hW2⟩:∃ W2,(Wa.alloc (.cells zeroH.toArray 114)).setCells Wa.heap.size 0 (cellsH 64 80 (w.heap.size+1) (w.heap.size+1+1) (w.heap.size+1+1+1) (w.heap.size+1+1+1+1) none 0 0 none 0 0)=W2:=⟨_,rfl⟩
 rw [hW2] at s1 s2 hb2
 rw [hz] at s1 s2
 clear hW2 hch b1 hz
 refine⟨W2,?_,b0.below hb2,⟨_,rfl,s2⟩,hb.trans (hb2.mono hb.size)⟩
 rw [← hWa] at s1
 exact s1
theorem of_second(w:World) (g:Nat) (cs:List Value) (hn:cs.length=8) (hB:Blk w g cs 114):∃ W2,(storeH (.pointer (some ⟨g,0,none⟩)) (.agg #[.int .i64 32,.int .i64 64,.slice (some ⟨w.heap.size,0,none⟩) 3 3,.slice (some ⟨w.heap.size+1,0,none⟩) 3 3,.slice (some ⟨w.heap.size+1+1,0,none⟩) 3 3,.slice (some ⟨w.heap.size+1+1+1,0,none⟩) 3 3,.slice none 0 0,.slice none 0 0])).run Tryz.prog
  ((((w.alloc (.cells #[.int .i64 2,.int .i64 13,.int .i64 22] 3)).alloc (.cells #[.int .i64 6,.int .i64 11,.int .i64 25] 3)).alloc (.cells #[.int .i64 7,.int .i64 18,.int .i64 3] 3)).alloc (.cells #[.int .i64 17,.int .i64 19,.int .i64 10] 3))=.ok () W2 ∧
  Blk W2 g (cellsH 32 64 w.heap.size (w.heap.size+1) (w.heap.size+1+1) (w.heap.size+1+1+1) none 0 0 none 0 0) 114∧Chg [g] w W2 ∧
  Blk W2 w.heap.size (iv [2,13,22]) 3∧Blk W2 (w.heap.size+1) (iv [6,11,25]) 3∧Blk W2 (w.heap.size+1+1) (iv [7,18,3]) 3∧Blk W2 (w.heap.size+1+1+1) (iv [17,19,10]) 3:=by
 obtain⟨Wa,hWa⟩:∃ Wa,((((w.alloc (.cells (iv [2,13,22]).toArray 3)).alloc (.cells (iv [6,11,25]).toArray 3)).alloc (.cells (iv [7,18,3]).toArray 3)).alloc (.cells (iv [17,19,10]).toArray 3))=Wa:=⟨_,rfl⟩
 have hg:=hB.lt
 have hz:w.heap.size≤Wa.heap.size:=by rw [← hWa]; simp; omega
 have a1:Blk Wa w.heap.size (iv [2,13,22]) 3:=by rw [← hWa]; exact(((Blk.new w _ _).alloc _).alloc _).alloc _
 have a2:Blk Wa (w.heap.size+1) (iv [6,11,25]) 3:=by
  have:=Blk.new (w.alloc (.cells (iv [2,13,22]).toArray 3)) (iv [6,11,25]) 3; rw [← hWa]; simpa using (this.alloc _).alloc _
 have a3:Blk Wa (w.heap.size+1+1) (iv [7,18,3]) 3:=by
  have:=Blk.new ((w.alloc (.cells (iv [2,13,22]).toArray 3)).alloc (.cells (iv [6,11,25]).toArray 3)) (iv [7,18,3]) 3; rw [← hWa]; simpa using this.alloc _
 have a4:Blk Wa (w.heap.size+1+1+1) (iv [17,19,10]) 3:=by
  have:=Blk.new (((w.alloc (.cells (iv [2,13,22]).toArray 3)).alloc (.cells (iv [6,11,25]).toArray 3)).alloc (.cells (iv [7,18,3]).toArray 3)) (iv [17,19,10]) 3; rw [← hWa]; simpa using this
 have hB1:Blk Wa g cs 114:=by rw [← hWa]; exact(((hB.alloc _).alloc _).alloc _).alloc _
 have hc1:Chg [g] w Wa:=by rw [← hWa]; exact((((Chg.refl _ _).alloc _).alloc _).alloc _).alloc _
 obtain⟨s1,s2⟩:=store_H hB1 hn (vs:=cellsH 32 64 w.heap.size (w.heap.size+1) (w.heap.size+1+1) (w.heap.size+1+1+1) none 0 0 none 0 0) rfl (cellsH_one _ _ _ _ _ _ _ _ _ _ _ _)
 have hch:Chg [g] Wa (Wa.setCells g 0 (cellsH 32 64 w.heap.size (w.heap.size+1) (w.heap.size+1+1) (w.heap.size+1+1+1) none 0 0 none 0 0)):=(Chg.refl _ _).setCells _ (.inl (by simp))
 obtain⟨W2,hW2⟩:∃ W2,Wa.setCells g 0 (cellsH 32 64 w.heap.size (w.heap.size+1) (w.heap.size+1+1) (w.heap.size+1+1+1) none 0 0 none 0 0)=W2:=⟨_,rfl⟩
 rw [hW2] at s1 s2 hch
 clear hW2
 refine⟨W2,?_,s2,hc1.and hch,a1.chg hch (by simp; omega),a2.chg hch (by simp; omega),a3.chg hch (by simp; omega),a4.chg hch (by simp; omega)⟩
 rw [← hWa] at s1
 exact s1
theorem chg_below{S:List Nat} {a w w':World} (h:Chg S a w) (k:Below a.heap.size w w'):Chg S a w':=⟨k.os.trans h.os,k.tape.trans h.tape,k.output.trans h.output,Nat.le_trans h.size k.size,fun i hi hn=>(k.block i hi).trans (h.block i hi hn)⟩
theorem cellsH_32(A B C D:Nat) (K:Option Addr) (nK cK:Nat) (F:Option Addr) (nF cF:Nat):H32 (cellsH 32 64 A B C D K nK cK F nF cF):=⟨rfl,rfl,rfl,cellsH_one _ _ _ _ _ _ _ _ _ _ _ _⟩
theorem blk_grown{w w':World} {g:Nat} {cs:List Value} {t:TypeId} (h:Blk w g cs t) {row:Option Nat} (hg:w.grownBy w' row) (hne:row≠some g):Blk w' g cs t:=by
 unfold Blk
 rw [hg.block g h.lt (fun e=>hne e.symm)]
 exact h
theorem rof_any(w:World):Calls Tryz.prog 77 #[.int .i64 32] w fun e w'=>∃ hc A B C D K cK F cF,e=.returned (.agg hc.toArray)∧HIn w' hc A 3 B 3 C 3 D 3 K cK F cF∧Below w.heap.size w w':=by
 obtain⟨i1,hi1,hy0,hy1,hy2⟩:=info_parts infoW
 go_enter Tryz.func77,Tryz.ntmps77
 obtain⟨W2,hst1,hr2,⟨cs2,hn2,hB2⟩,hb2⟩:=of_first w
 obtain⟨W4,hst2,hB4,hch4,a1,a2,a3,a4⟩:=of_second W2 _ cs2 hn2 hB2
 go_wp2_with fail
 refine(rprimes_any _).mono ?_
 rintro e w5 ⟨Ap,cp,rfl,hp,hb5⟩
 clear hst1 hst2
 have hgw:w.heap.size<w.heap.size+1+1+1+1+1:=by omega
 generalize w.heap.size+1+1+1+1+1=gh at *
 have hgl:=hB4.lt
 have hB5:=hB4.below hb5
 have c1:=a1.below hb5
 have c2:=a2.below hb5
 have c3:=a3.below hb5
 have c4:=a4.below hb5
 have hgl5:=hB5.lt
 have hs2:W2.heap.size≤W4.heap.size:=hch4.size
 have hg2:=hB2.lt
 have hr5:Blk w5 w.heap.size zeroH 114:=(hr2.chg hch4 (by simp; omega)).below hb5
 have hcw:Chg [gh] w w5:=((Chg.of_below hb2).trans (S':=[gh]) hch4 (fun s hs=>.inl hs)).and_below hb5
 generalize W2.heap.size=sA at *
 obtain⟨gp,op,rfl,hgp,hpc⟩:=vs_lit hp (by omega)
 have hpl:=hp.len
 have hne:gp≠gh:=by
  rintro rfl; have h0:=hpc 0 _ (iv_at _ (by omega)); rw [ints_at] at h0; have h1:=(hB5.cell (op+0)).symm.trans h0; rw [show (Sha.pr 408).getD 0 0=2 by decide +kernel] at h1; have hop:op+0<8:=(List.getElem?_eq_some_iff.1 h1).1; have hcase:op+0=0∨op+0=1∨op+0=2∨op+0=3∨op+0=4∨op+0=5∨op+0=6∨op+0=7:=by omega
  rcases hcase with h|h|h|h|h|h|h|h <;> rw [h] at h1 <;> simp [cellsH] at h1
 have HPL:=Lib.hid hpl
 have HPC:=Lib.hid hpc
 have hgp0:gp∉[gh]:=by simpa using hne
 clear hp hpc hpl
 go_wp2_with fail
 go_loopw [5] (fun i wx=>∃ (t:Nat) (Ak:Option Addr) (ck:Nat),t≤64∧i=.int .i64 (t:Int)∧t≤ck∧Chg [gh] w5 wx∧Blk wx gh (cellsH 32 64 sA (sA+1) (sA+1+1) (sA+1+1+1) Ak t ck none 0 0) 114∧wx.ownsRow w5.heap.size 151 1 (.slice Ak t ck) t (wv (Sha.tops 3 t))) (fun i _=>64 - (intOf i).toNat)
 case atStart=>exact⟨0,none,0,by omega,rfl,by omega,Chg.refl _ _,hB5,World.ownsRow_nil _ _ _ _⟩
 case round =>
  obtain⟨t,Ak,ck,ht,rfl,htc,hch,hBh,hown⟩:=hrel; have k1:wr.cell? ⟨gh,1,none⟩=some (.int .i64 64):=hBh.cell 1; by_cases hlt:t<64
  ·have hpt:wr.cell? ⟨gp,op+t,none⟩=some (.int .i64 ((Sha.pr 408).getD t 0:Nat)):=by
    rw [hch.cell (p:=⟨gp,op+t,none⟩) hgp hgp0]; have:=HPC.out t _ (iv_at _ (by rw [HPL.out]; omega))
    rwa [ints_at] at this
   have HS:=Lib.hid (show Sha.tops 3 (t+1)=Sha.tops 3 t++[Sha.root (((Sha.pr 408).getD t 0:Nat):Int) 3 / 4294967296] from rfl); generalize (Sha.pr 408).getD t 0=pp at *; have hrt:=Sha.root_lt (pp:Int) 3; have HRT:=Lib.hid (rroot3_any (pp:Int)); have hH32:H32 (cellsH 32 64 sA (sA+1) (sA+1+1) (sA+1+1+1) Ak t ck none 0 0):=cellsH_32 _ _ _ _ _ _ _ _ _ _; have HH32:=Lib.hid hH32; have HTOP:=Lib.hid (rtop_any (cellsH 32 64 sA (sA+1) (sA+1+1) (sA+1+1+1) Ak t ck none 0 0) hH32 (Sha.root (pp:Int) 3) hrt); generalize Sha.root (pp:Int) 3=rt at *; obtain⟨X,hX⟩:∃ X,rt / 4294967296=X:=⟨_,rfl⟩; rw [hX] at HS HTOP; have f1:∀ p,(Batch.grew wr p).cell? ⟨gh,6,none⟩=some (.slice Ak t ck):=fun p=>(Batch.grew_cell hBh.lt p).trans (hBh.cell 6); have fld:∀ p,(loadH (.pointer (some ⟨gh,0,none⟩))).run Tryz.prog (Batch.grew wr p)=.ok (.agg (cellsH 32 64 sA (sA+1) (sA+1+1) (sA+1+1+1) Ak t ck none 0 0).toArray) (Batch.grew wr p):=fun p=>load_H (hBh.below (Batch.grew_below wr p)) rfl; have f2:∀ p,(Batch.grew wr p).cell? ⟨gp,op+t,none⟩=some (.int .i64 (pp:Int)):=fun p=>(Batch.grew_cell (Nat.lt_of_lt_of_le hgp hch.size) p).trans hpt; have i0:(0:Int)≤(t:Int):=by omega
   have i2:(t:Int)<80:=by omega
   generalize hCS:(cellsH 32 64 sA (sA+1) (sA+1+1) (sA+1+1+1) Ak t ck none 0 0).toArray=CS at *; have HCS:=Lib.hid hCS; have h63:t+1≤maxLen:=by unfold maxLen; omega
   clear hCS hpt hX hrt hH32; go_wp2_with fail
   refine Batch.wp_region_mix [0,1,2,3,4,5,6,7,8] [(9,fun v w'=>∃ g,v=.slice (some ⟨g,0,none⟩) 1 1∧Blk w' g (wv [X]) 151)] [10,11,12] (by kernel_rfl) (by kernel_rfl) (by
    intro x hx; simp only [List.mem_cons,List.not_mem_nil,or_false] at hx; subst hx; exact Batch.stable_gr fun v w w' hb ⟨g,e,h⟩=>⟨g,e,h.below hb⟩) ?_
   simp only [Batch.pick,List.getD_cons_zero,List.getD_cons_succ]; repeat (go_big_quiet_step (first|(go_at_call 126; exact Batch.calls_grew (HRT.out _))|(go_at_call 125; exact Batch.calls_grew (HTOP.out _))))
   refine wpQuiet_nil ?_; refine⟨_,rfl,rfl,?_,?_⟩
   ·intro w1 hw1
    go_simp
    exact⟨Batch.GR.of ((Below.refl _ _).alloc (Nat.le_refl _) _),w1.heap.size,rfl,Blk.new w1 (wv [X]) _⟩
   ·rintro v w6 hw6 ⟨_,gn,rfl,hBn⟩
    have hb6:=hw6.below; have hch6:=hch.and_below hb6; have hBh6:=hBh.below hb6; have hown6:=below_own hown hb6; have hrd:Vs w6 w6.heap.size 1 (some ⟨gn,0,none⟩) 1 (wv [X]):=Ws.of_blk hBn; have hB1:w5.heap.size≤w6.heap.size:=hch6.size; clear f1 f2 fld hch hBh hown hBn hw6 hb6; go_wp2_with (at_builtin; go_must (refine wpList_append w6 rfl (.tmp 27) (.tmp 35) 112 rfl w5.heap.size 151 i1 (.int .u64 0) 1 8 Tryz.underlying112 hi1 hy0 hy1 hy2 rfl (by omega) _ _ _ rfl hown6 w6.heap.size _ 1 _ _ rfl hrd (wv_one _) h63 (by omega) hB1 ?_))
    intro A' c' w7 hown' g1' g2' hgr; have hbel:Below w5.heap.size w6 w7:=Mem.below_grown (Below.refl _ _) hgr hB1 hown6; have hch7:=chg_below hch6 hbel; have hBh7:=blk_grown hBh6 hgr (fun e=>by have:=(hown6.lt gh e).1; omega)
    rw [← wv_append,← HS.out] at hown'; have q6:w7.cell? ⟨gh,6,none⟩=some (.slice Ak t ck):=hBh7.cell 6; have q6f:w7.frozen? ⟨gh,6,none⟩=false:=hBh7.froz 6; have hBh8:=hBh7.set 6 (.slice A' (t+1) c'); have hch8:=hch7.setCell (p:=⟨gh,6,none⟩) (.inl (by simp)) (.slice A' (t+1) c'); have hown8:=ownsRow_setCell_below hown' (a:=⟨gh,6,none⟩) (by exact hgl5) (.slice A' (t+1) c'); have HR8:=Lib.hid (show Blk (w7.setCell ⟨gh,6,none⟩ (.slice A' (t+1) c')) gh (cellsH 32 64 sA (sA+1) (sA+1+1) (sA+1+1+1) A' (t+1) c' none 0 0) 114 from hBh8); clear hown6 hgr hbel hch6 hch7 hBh6 hBh7 hrd hown' hBh8; go_wp2; go_roundw
    case rel=>exact⟨t+1,A',c',by omega,by go_num,g1',hch8,HR8.out,hown8⟩
    case measure=>simp [intOf]; omega
  ·have hte:t=64:=by omega
   have hown':wr.ownsRow w5.heap.size 151 1 (.slice Ak 64 ck) 64 (wv (Sha.tops 3 64)):=by rw [hte] at hown; exact hown
   have hBh':Blk wr gh (cellsH 32 64 sA (sA+1) (sA+1+1) (sA+1+1+1) Ak 64 ck none 0 0) 114:=by rw [hte] at hBh; exact hBh
   have htge:64≤t:=by omega
   have htc':64≤ck:=by omega
   have hdec:decide (t<64)=false:=by simp; omega
   obtain⟨wK,hwK⟩:∃ wK,wK=wr:=⟨_,rfl⟩; subst hwK; have hgl6:=hBh'.lt; have hz6:=hch.size; have hK6:Ws wK Ak 64 (Sha.tops 3 64):=Ws.of_own hown'; have hownK:=hown'; have htcK:=htc'; have hKg:∀ a,Ak=some a→a.block∉[gh]:=fun a ha=>by
    obtain⟨g,e,h1,_⟩:=own_some hown' (by omega); rw [ha] at e; injection e with e
    rw [e]; simp
    omega
   clear hte ht htc hown hBh hlt; go_wp2_with fail
   clear htge hdec; go_loopw [6] (fun i wx=>∃ (t:Nat) (Af:Option Addr) (cf:Nat),t≤8∧i=.int .i64 (t:Int)∧t≤cf∧Chg [gh] wK wx∧Blk wx gh (cellsH 32 64 sA (sA+1) (sA+1+1) (sA+1+1+1) Ak 64 ck Af t cf) 114∧wx.ownsRow wK.heap.size 151 1 (.slice Af t cf) t (wv (Sha.tops 2 t))) (fun i _=>8 - (intOf i).toNat)
   case atStart=>exact⟨0,none,0,by omega,rfl,by omega,Chg.refl _ _,hBh',World.ownsRow_nil _ _ _ _⟩
   case round =>
    clear hown' hBh' htc'; have hch5:=hch; clear hch; obtain⟨t,Af,cf,ht,rfl,htc,hch,hBh,hown⟩:=hrel; by_cases hlt:t<8
    ·have hpt:wr.cell? ⟨gp,op+t,none⟩=some (.int .i64 ((Sha.pr 408).getD t 0:Nat)):=by
      rw [(hch5.and hch).cell (p:=⟨gp,op+t,none⟩) hgp hgp0]; have:=HPC.out t _ (iv_at _ (by rw [HPL.out]; omega))
      rwa [ints_at] at this
     have HS:=Lib.hid (show Sha.tops 2 (t+1)=Sha.tops 2 t++[Sha.root (((Sha.pr 408).getD t 0:Nat):Int) 2 / 4294967296] from rfl); generalize (Sha.pr 408).getD t 0=pp at *; have hrt:=Sha.root_lt (pp:Int) 2; have HRT:=Lib.hid (rroot2_any (pp:Int)); have hH32:H32 (cellsH 32 64 sA (sA+1) (sA+1+1) (sA+1+1+1) Ak 64 ck Af t cf):=cellsH_32 _ _ _ _ _ _ _ _ _ _; have HH32:=Lib.hid hH32; have HTOP:=Lib.hid (rtop_any (cellsH 32 64 sA (sA+1) (sA+1+1) (sA+1+1+1) Ak 64 ck Af t cf) hH32 (Sha.root (pp:Int) 2) hrt); generalize Sha.root (pp:Int) 2=rt at *; obtain⟨X,hX⟩:∃ X,rt / 4294967296=X:=⟨_,rfl⟩; rw [hX] at HS HTOP; have f1:∀ p,(Batch.grew wr p).cell? ⟨gh,7,none⟩=some (.slice Af t cf):=fun p=>(Batch.grew_cell hBh.lt p).trans (hBh.cell 7); have fld:∀ p,(loadH (.pointer (some ⟨gh,0,none⟩))).run Tryz.prog (Batch.grew wr p)=.ok (.agg (cellsH 32 64 sA (sA+1) (sA+1+1) (sA+1+1+1) Ak 64 ck Af t cf).toArray) (Batch.grew wr p):=fun p=>load_H (hBh.below (Batch.grew_below wr p)) rfl; have f2:∀ p,(Batch.grew wr p).cell? ⟨gp,op+t,none⟩=some (.int .i64 (pp:Int)):=fun p=>(Batch.grew_cell (Nat.lt_of_lt_of_le hgp (hch5.and hch).size) p).trans hpt; have i0:(0:Int)≤(t:Int):=by omega
     have i2:(t:Int)<80:=by omega
     generalize hCS:(cellsH 32 64 sA (sA+1) (sA+1+1) (sA+1+1+1) Ak 64 ck Af t cf).toArray=CS at *; have HCS:=Lib.hid hCS; have h63:t+1≤maxLen:=by unfold maxLen; omega
     clear hCS hpt hX hrt hH32; go_wp2_with fail
     refine Batch.wp_region_mix [0,1,2,3,4,5,6,7,8] [(9,fun v w'=>∃ g,v=.slice (some ⟨g,0,none⟩) 1 1∧Blk w' g (wv [X]) 151)] [10,11,12] (by kernel_rfl) (by kernel_rfl) (by
      intro x hx; simp only [List.mem_cons,List.not_mem_nil,or_false] at hx; subst hx; exact Batch.stable_gr fun v w w' hb ⟨g,e,h⟩=>⟨g,e,h.below hb⟩) ?_
     simp only [Batch.pick,List.getD_cons_zero,List.getD_cons_succ]; repeat (go_big_quiet_step (first|(go_at_call 126; exact Batch.calls_grew (HRT.out _))|(go_at_call 125; exact Batch.calls_grew (HTOP.out _))))
     refine wpQuiet_nil ?_; refine⟨_,rfl,rfl,?_,?_⟩
     ·intro w1 hw1
      go_simp
      exact⟨Batch.GR.of ((Below.refl _ _).alloc (Nat.le_refl _) _),w1.heap.size,rfl,Blk.new w1 (wv [X]) _⟩
     ·rintro v w6 hw6 ⟨_,gn,rfl,hBn⟩
      have hb6:=hw6.below; have hch6:=hch.and_below hb6; have hBh6:=hBh.below hb6; have hown6:=below_own hown hb6; have hrd:Vs w6 w6.heap.size 1 (some ⟨gn,0,none⟩) 1 (wv [X]):=Ws.of_blk hBn; have hB1:wK.heap.size≤w6.heap.size:=hch6.size; clear f1 f2 fld hch hBh hown hBn hw6 hb6; go_wp2_with (at_builtin; go_must (refine wpList_append w6 rfl (.tmp 43) (.tmp 51) 112 rfl wK.heap.size 151 i1 (.int .u64 0) 1 8 Tryz.underlying112 hi1 hy0 hy1 hy2 rfl (by omega) _ _ _ rfl hown6 w6.heap.size _ 1 _ _ rfl hrd (wv_one _) h63 (by omega) hB1 ?_))
      intro A' c' w7 hown' g1' g2' hgr; have hbel:Below wK.heap.size w6 w7:=Mem.below_grown (Below.refl _ _) hgr hB1 hown6; have hch7:=chg_below hch6 hbel; have hBh7:=blk_grown hBh6 hgr (fun e=>by have:=(hown6.lt gh e).1; omega)
      rw [← wv_append,← HS.out] at hown'; have q6:w7.cell? ⟨gh,7,none⟩=some (.slice Af t cf):=hBh7.cell 7; have q6f:w7.frozen? ⟨gh,7,none⟩=false:=hBh7.froz 7; have hBh8:=hBh7.set 7 (.slice A' (t+1) c'); have hch8:=hch7.setCell (p:=⟨gh,7,none⟩) (.inl (by simp)) (.slice A' (t+1) c'); have hown8:=ownsRow_setCell_below hown' (a:=⟨gh,7,none⟩) (by exact hgl6) (.slice A' (t+1) c'); have HR8:=Lib.hid (show Blk (w7.setCell ⟨gh,7,none⟩ (.slice A' (t+1) c')) gh (cellsH 32 64 sA (sA+1) (sA+1+1) (sA+1+1+1) Ak 64 ck A' (t+1) c') 114 from hBh8); clear hown6 hgr hbel hch6 hch7 hBh6 hBh7 hrd hown' hBh8; go_wp2; go_roundw
      case rel=>exact⟨t+1,A',c',by omega,by go_num,g1',hch8,HR8.out,hown8⟩
      case measure=>simp [intOf]; omega
    ·have hte:t=8:=by omega
     have hown':wr.ownsRow wK.heap.size 151 1 (.slice Af 8 cf) 8 (wv (Sha.tops 2 8)):=by rw [hte] at hown; exact hown
     have hBh':Blk wr gh (cellsH 32 64 sA (sA+1) (sA+1+1) (sA+1+1+1) Ak 64 ck Af 8 cf) 114:=by rw [hte] at hBh; exact hBh
     have htc':8≤cf:=by omega
     have htge:8≤t:=by omega
     have hall:Chg [gh] w5 wr:=hch5.and hch; have hr6:Blk wr w.heap.size zeroH 114:=hr5.chg hall (by simp; omega)
     obtain⟨s1,s2⟩:=store_H hr6 rfl (vs:=(cellsH 32 64 sA (sA+1) (sA+1+1) (sA+1+1+1) Ak 64 ck Af 8 cf)) rfl (cellsH_one _ _ _ _ _ _ _ _ _ _ _ _); have hld:=load_H hBh' rfl; obtain⟨wf,hwf⟩:∃ wf,wr.setCells w.heap.size 0 (cellsH 32 64 sA (sA+1) (sA+1+1) (sA+1+1+1) Ak 64 ck Af 8 cf)=wf:=⟨_,rfl⟩; have hcf:Chg [w.heap.size] wr wf:=by rw [← hwf]; exact(Chg.refl _ _).setCells _ (.inl (by simp))
     rw [hwf] at s1 s2; have hlt:w.heap.size<wr.heap.size:=hr6.lt; have hsa:sA+1+1+1<wr.heap.size:=Nat.lt_of_lt_of_le c4.lt hall.size; have hsw:w.heap.size<sA:=by omega
     have d1:=(c1.chg hall (by simp; omega)).chg hcf (by simp; omega)
     have d2:=(c2.chg hall (by simp; omega)).chg hcf (by simp; omega)
     have d3:=(c3.chg hall (by simp; omega)).chg hcf (by simp; omega)
     have d4:=(c4.chg hall (by simp; omega)).chg hcf (by simp; omega)
     have hKf:Ws wf Ak 64 (Sha.tops 3 64):=by
      refine vs_chg (vs_chg hK6 hch hKg) hcf (fun a ha=>?_); obtain⟨g,e,h1,_⟩:=own_some hownK (by omega); rw [ha] at e; injection e with e
      rw [e]; simp
      omega
     have hFf:Ws wf Af 8 (Sha.tops 2 8):=by
      refine vs_chg (Ws.of_own hown') hcf (fun a ha=>?_); obtain⟨g,e,h1,_⟩:=own_some hown' (by omega); rw [ha] at e; injection e with e
      rw [e]; simp
      have:=hch5.size; omega
     have HIN:=Lib.hid (show HIn wf (cellsH 32 64 sA (sA+1) (sA+1+1) (sA+1+1+1) Ak 64 ck Af 8 cf) (some ⟨sA,0,none⟩) 3 (some ⟨sA+1,0,none⟩) 3 (some ⟨sA+1+1,0,none⟩) 3 (some ⟨sA+1+1+1,0,none⟩) 3 Ak ck Af cf from⟨rfl,Is.of_blk d1,Is.of_blk d2,Is.of_blk d3,Is.of_blk d4,hKf,hFf,htcK,htc'⟩); have hH:Has wf w.heap.size 0 8:=blk_has s2 rfl; have hA:arr wf w.heap.size 0 8=(cellsH 32 64 sA (sA+1) (sA+1+1) (sA+1+1+1) Ak 64 ck Af 8 cf).toArray:=blk_arr s2 rfl; have hbl:Below w.heap.size w wf:=((hcw.and hall).trans (S':=[w.heap.size]) hcf (by simp)).below' (Nat.le_refl _) (by simp; omega)
     clear hwf; go_wp2; refine bodyPost_ret (results_arr (P:=Tryz.prog) Tryz.results77 _ _ w.heap.size 0 8 _ rfl Tryz.underlying114 rfl size_H hH) rfl ?_; exact⟨_,_,_,_,_,_,_,_,_,by rw [hA],HIN.out,hbl⟩
end
section
open Go.RowKit Mem
theorem rsum256_any(Ad:Option Addr) (n c:Nat) (d:List UInt8) (w:World) (hd:Bs w w.heap.size Ad n d) (hn:n≤1000000) :
  Calls Tryz.prog 41 #[.slice Ad n c] w fun e w'=>∃ A' c',e=.returned (.slice A' 32 c')∧32≤c'∧w'.ownsRow w.heap.size 5 1 (.slice A' 32 c') 32 (bv (Sha.sum256 d))∧Below w.heap.size w w':=by
 go_enter Tryz.func41,Tryz.ntmps41
 go_wp2_with fail
 refine(rof_any w).mono ?_
 rintro e w1 ⟨hc,A,B,C,D,K,cK,F,cF,rfl,hH,hb1⟩
 have b1:=Blk.new w1 zeroH 114
 have h32:=hH.h32
 obtain⟨s1,s2⟩:=store_H b1 rfl (vs:=hc) h32.len h32.one
 have hch:Chg [] w1 ((w1.alloc (.cells zeroH.toArray 114)).setCells w1.heap.size 0 hc):=((Chg.refl _ _).alloc _).setCells _ (.inr (Nat.le_refl _))
 obtain⟨w2,hw2⟩:∃ w2,(w1.alloc (.cells zeroH.toArray 114)).setCells w1.heap.size 0 hc=w2:=⟨_,rfl⟩
 rw [hw2] at s1 s2 hch
 have hb2:=hch.below (by simp)
 have hld:=load_H s2 h32.len
 have hb12:=hb1.trans (hb2.mono hb1.size)
 have hsum:=rsum_any hc A 3 B 3 C 3 D 3 K cK F cF Ad n c d w2 (hH.below hb2) (vs_below hd hb12) hn
 unfold zeroH at s1
 simp only [List.toArray] at s1
 clear hw2 b1
 go_wp2_with fail
 refine hsum.mono ?_
 rintro e w3 ⟨A',c',rfl,h1,h2,h3⟩
 go_wp2
 go_ret
 exact⟨A',c',rfl,h1,own_base h2 hb12.size,hb12.trans (h3.mono hb12.size)⟩
end
section
open Go.RowKit Mem
theorem hexs_more(h:List UInt8) (i:Nat):Sha.hexs h (i+1)=Sha.hexs h i++[Sha.hexd ((h.getD i 0).toNat / 16)]++[Sha.hexd ((h.getD i 0).toNat % 16)]:=rfl
theorem str_cat(a b:List UInt8):str a++str b=str (a++b):=by
 apply ByteArray.ext
 simp [str,ByteArray.data_append]
theorem slice_hex(a:Nat) (h:a<16) (w:World):(Instr.slice 9 (.string ⟨#[48,49,50,51,52,53,54,55,56,57,97,98,99,100,101,102]⟩) (some (.int .i64 (a:Int))) (some (.int .i64 ((a:Int)+1))) none).run Tryz.prog w=.ok (.string (str [Sha.hexd a])) w:=by
 have hsz:((⟨#[48,49,50,51,52,53,54,55,56,57,97,98,99,100,101,102]⟩:ByteArray).size:Int)=16:=rfl
 refine(run_slice_string _ _ _ _ _ _ _ Tryz.underlying9 (by omega) (by omega) (by rw [hsz]; omega)).trans ?_
 have:∀ a:Fin 16,(⟨#[48,49,50,51,52,53,54,55,56,57,97,98,99,100,101,102]⟩:ByteArray).extract ((a.1:Int)).toNat ((a.1:Int)+1).toNat=str [Sha.hexd a.1]:=by
  intro a; obtain⟨a,ha⟩:=a; have hc:a=0∨a=1∨a=2∨a=3∨a=4∨a=5∨a=6∨a=7∨a=8∨a=9∨a=10∨a=11∨a=12∨a=13∨a=14∨a=15:=by omega
  rcases hc with rfl|rfl|rfl|rfl|rfl|rfl|rfl|rfl|rfl|rfl|rfl|rfl|rfl|rfl|rfl|rfl <;> rfl
 rw [this ⟨a,h⟩]
theorem rname_any(Ad:Option Addr) (n c:Nat) (d:List UInt8) (w:World) (hd:Bs w w.heap.size Ad n d) (hn:n≤1000000) :
  Calls Tryz.prog 25 #[.slice Ad n c] w fun e w'=>e=.returned (.string (str (Sha.nameOf d)))∧Below w.heap.size w w':=by
 go_enter Tryz.func25,Tryz.ntmps25
 go_wp2_with fail
 refine(rsum256_any Ad n c d w hd hn).mono ?_
 rintro e w1 ⟨A,c1,rfl,h1,h2,h3⟩
 obtain⟨g,rfl,hg1,hg2⟩:=own_some h2 (by omega)
 have HN:=Lib.hid (show Sha.nameOf d=Sha.hexs (Sha.sum256 d) 4 from rfl)
 have HL:=Lib.hid (Sha.sum_len (Sha.tops 3 64) (Sha.tops 2 8) d)
 have hcell:∀ j,j<32→w1.cell? ⟨g,j,none⟩=some (.int .u8 (((Sha.sum256 d).getD j 0).toNat:Int)):=fun j hj=>by
  have hl:(Sha.sum256 d).length=32:=HL.out; have:=h2.cells (g:=g) rfl j (.int .u8 (((Sha.sum256 d).getD j 0).toNat:Int)) (by rw [bv_at,List.getElem?_eq_getElem (by omega)]; simp [List.getD_eq_getElem?_getD,show j<(Sha.sum256 d).length by omega])
  rwa [zero_add_] at this
 have HC:=Lib.hid hcell
 clear hcell h2
 generalize Sha.sum256 d=S at *
 go_wp2_with fail
 go_loopw [5,6,7,8] (fun s i _ _ wx=>∃ t:Nat,t≤4∧i=.int .i64 (t:Int)∧s=.string (str (Sha.hexs S t))∧Below w1.heap.size w1 wx) (fun _ i _ _ _=>4 - (intOf i).toNat)
 case atStart=>exact⟨0,by omega,rfl,rfl,Below.refl _ _⟩
 case round =>
  obtain⟨t,ht,rfl,rfl,hb⟩:=hrel; by_cases hlt:t<4
  ·have hcl:=(hb.cell (p:=⟨g,t,none⟩) hg2).trans (HC.out t (by omega))
   have HS:=Lib.hid (hexs_more S t); have hx:=(S.getD t 0).toNat_lt; generalize (S.getD t 0).toNat=x at *; have hq1:Int.tdiv (x:Int) 16=((x / 16:Nat):Int):=nat_tdiv x 16; have hq2:Int.tmod (x:Int) 16=((x % 16:Nat):Int):=nat_tmod x 16; have hq3:(x:Int) / 16=((x / 16:Nat):Int):=by omega
   have hq4:(x:Int) % 16=((x % 16:Nat):Int):=by omega
   obtain⟨q,hq⟩:∃ q,x / 16=q:=⟨_,rfl⟩; obtain⟨r,hr⟩:∃ r,x % 16=r:=⟨_,rfl⟩; have hqb:q<16:=by omega
   have hrb:r<16:=by omega
   have hx256:x<256:=hx; rw [hq] at hq1 hq3 HS; rw [hr] at hq2 hq4 HS; have i0:(0:Int)≤(t:Int):=by omega
   have i1:(t:Int)<32:=by omega
   have w1':IntKind.i64.wrap ((q:Int)+1)=(q:Int)+1:=by rw [IntKind.wrap_i64]; omega
   have w2':IntKind.i64.wrap ((r:Int)+1)=(r:Int)+1:=by rw [IntKind.wrap_i64]; omega
   have sl1:=slice_hex q hqb; have sl2:=slice_hex r hrb; have HLN:=Lib.hid (Sha.hexs_len S t); generalize Sha.hexs S t=z at *; clear hq hr hx; go_wp2_with fail
   have hz1:(str z).size=2 * t:=by rw [str_size]; exact HLN.out
   have hz2:¬ 9223372036854775807<(str z).size+(str [Sha.hexd q]).size:=by rw [hz1,str_size]; simp; omega
   have hz3:¬ 9223372036854775807<(str (z++[Sha.hexd q])).size+(str [Sha.hexd r]).size:=by rw [str_size,str_size,List.length_append,HLN.out]; simp; omega
   have ha1:=str_cat z [Sha.hexd q]; have ha2:=str_cat (z++[Sha.hexd q]) [Sha.hexd r]; clear hz1; go_quiet (fail)
   have hbq:Below w1.heap.size w1 (wr.drewN nq):=hb.trans ⟨rfl,rfl,rfl,Nat.le_refl _,fun _ _=>rfl⟩; have HZ:=Lib.hid (show z++[Sha.hexd q,Sha.hexd r]=Sha.hexs S (t+1) by rw [HS.out,List.append_assoc]; rfl)
   rw [HZ.out]; clear hz2 hz3 ha1 ha2 sl1 sl2 hb; go_wp2; go_roundw
   case rel=>exact⟨t+1,by omega,by go_num,rfl,hbq⟩
   case measure=>simp [intOf]; omega
  ·have hte:t=4:=by omega
   subst hte; go_wp2; go_ret; exact⟨by rw [HN.out]; rfl,h3.trans (hb.mono h3.size)⟩
end
section
namespace Led
def few (s:Txt):Txt:=s.take 60
def KeyTo (R:Txt→Txt→Prop) (k k':Jwk):Prop:=k'.x=few k.x∧if few k.kid=[] then R (few k.x) k'.kid else k'.kid=few k.kid
def cutOp (o:Op) (K:List Jwk):Op :=
 ⟨o.kind,o.n,few o.name,⟨o.entry.n,few o.entry.path,few o.entry.parent,o.entry.ttl,(o.entry.sels.take 6).map few⟩,⟨few o.join.text,few o.join.name,o.join.expires,o.join.used⟩,
  ⟨few o.node.name,few o.node.key,o.node.expires,o.node.seq,few o.node.doc⟩,⟨few o.key.kid,few o.key.seed,o.key.state,o.key.since⟩,⟨few o.bundle.domain,o.bundle.number,K⟩⟩
def KeysTo (R:Txt→Txt→Prop):List Jwk→List Jwk→Prop
 | [],[]=>True
 | k::L,k'::K=>KeyTo R k k'∧KeysTo R L K
 | _,_=>False
theorem KeysTo.length{R:Txt→Txt→Prop}:∀ {L K:List Jwk},KeysTo R L K→K.length=L.length
 | [],[],_=>rfl
 | _::L,_::K,h=>by simp [KeysTo.length (L:=L) (K:=K) h.2]
 | [],_::_,h=>h.elim
 | _::_,[],h=>h.elim
theorem KeysTo.snoc{R:Txt→Txt→Prop}:∀ {L K:List Jwk} {k k':Jwk},KeysTo R L K→KeyTo R k k'→KeysTo R (L++[k]) (K++[k'])
 | [],[],_,_,_,h=>⟨h,trivial⟩
 | _::L,_::K,_,_,h,h'=>⟨h.1,KeysTo.snoc (L:=L) (K:=K) h.2 h'⟩
 | [],_::_,_,_,h,_=>h.elim
 | _::_,[],_,_,h,_=>h.elim
theorem few_len(s:Txt):(few s).length≤60:=by unfold few; rw [List.length_take]; omega
theorem KeysTo.len{R:Txt→Txt→Prop} (hR:∀ x r,R x r→r.length≤60):∀ {L K:List Jwk},KeysTo R L K→∀ k∈K,k.kid.length≤60∧k.x.length≤60
 | [],[],_,k,hk=>by simp at hk
 | x::L,y::K,h,k,hk=>by
  rcases List.mem_cons.1 hk with rfl|hk
  ·obtain⟨h1,h2⟩:=h.1
   refine⟨?_,by rw [h1]; exact few_len _⟩
   split at h2
   ·exact hR _ _ h2
   ·rw [h2]; exact few_len _
  ·exact KeysTo.len hR (L:=L) (K:=K) h.2 k hk
 | [],_::_,h,_,_=>h.elim
 | _::_,[],h,_,_=>h.elim
end Led
end
section
namespace Batch
open Go.RowKit
section
variable {P:Program} {ops:Array Oper} {md:Region.Mode} {R:World→World→Prop} {w0:World}
def qR (P:Program) (ops:Array Oper) (R:World→World→Prop) (w0:World) (i:Nat) (K:Act→Prop) (a:Act):Prop :=
 match ops[i]? with
 | none=>K a
 | some o=>if Region.wanted o (yielded ops a.tmps) then ∃ v,(∀ w,R w0 w→o.quietAt P a (R w) w v)∧K (a.put o.dst v) else K (a.put o.dst undef)
theorem qR_mono{i:Nat} {a:Act} {K K':Act→Prop} (h:∀ a,K a→K' a) (hh:qR P ops R w0 i K a):qR P ops R w0 i K' a:=by
 unfold qR at *
 split
 ·exact h _ (by simpa [*] using hh)
 ·rename_i o ho
  simp only [ho] at hh; split
  ·rename_i hw
   simp only [hw,if_true] at hh; obtain⟨v,h1,h2⟩:=hh; exact⟨v,h1,h _ h2⟩
  ·rename_i hw; simp only [hw] at hh; exact h _ hh
def YieldsR (P:Program) (ops:Array Oper) (R:World→World→Prop) (w0:World) (o:Oper) (v:Value) (a:Act):Prop :=
 (Region.wanted o (yielded ops a.tmps)=true∧∀ w,R w0 w→o.quietAt P a (R w) w v)∨(Region.wanted o (yielded ops a.tmps)=false∧v=undef)
theorem YieldsR.qR{i:Nat} {o:Oper} {v:Value} {a:Act} (hi:ops[i]?=some o) (hy:YieldsR P ops R w0 o v a) {K:Act→Prop} (h:K (a.put o.dst v)):qR P ops R w0 i K a:=by
 unfold Batch.qR
 simp only [hi]
 rcases hy with⟨hw,hv⟩|⟨hw,rfl⟩
 ·simp only [hw,if_true]; exact⟨v,hv,h⟩
 ·simp only [hw,Bool.false_eq_true,if_false]; exact h
theorem YieldsR.of_same{o:Oper} {v:Value} {a a':Act} (hy:YieldsR P ops R w0 o v a) (he:execOp a'.eval o=execOp a.eval o)
  (hw:Region.wanted o (yielded ops a'.tmps)=Region.wanted o (yielded ops a.tmps)):YieldsR P ops R w0 o v a':=by
 unfold YieldsR Oper.quietAt at *
 rw [he,hw]
 exact hy
theorem yieldsR_of_qR{i:Nat} {o:Oper} {a:Act} {K:Act→Prop} (hi:ops[i]?=some o) (h:qR P ops R w0 i K a):∃ v,YieldsR P ops R w0 o v a∧K (a.put o.dst v):=by
 unfold qR at h
 simp only [hi] at h
 by_cases hw:Region.wanted o (yielded ops a.tmps)=true
 ·simp only [hw,if_true] at h
  obtain⟨v,h1,h2⟩:=h; exact⟨v,.inl ⟨hw,h1⟩,h2⟩
 ·simp only [hw] at h
  exact⟨undef,.inr ⟨by simpa using hw,rfl⟩,h⟩
theorem qR_put{j:Nat} {oi oj:Oper} {v:Value} (hj:ops[j]?=some oj) (hap:oi.apart ops oj=true)
  (hsi:∀ cs b,oi.op≠.select cs b) (hsj:∀ cs b,oj.op≠.select cs b) {K:Act→Prop} {a:Act}
  (hy:YieldsR P ops R w0 oi v a) (h:qR P ops R w0 j K (a.put oi.dst v)) :
  qR P ops R w0 j (fun a'=>YieldsR P ops R w0 oi v a'∧K (a'.put oi.dst v)) a:=by
 obtain⟨h1,h2,h3⟩:=Oper.apart_spec hap
 have keep:∀ (a:Act),YieldsR P ops R w0 oi v a→∀ u,YieldsR P ops R w0 oi v (a.put oj.dst u):=fun a hy u =>
  hy.of_same (execOp_put oi hsi a oj.dst u h3) (wanted_put oi a oj.dst u h3)
 unfold qR at *
 simp only [hj] at *
 rw [wanted_put oj a oi.dst v h1] at h
 split
 ·rename_i hw
  simp only [hw,if_true] at h; obtain⟨u,hu,hn⟩:=h; refine⟨u,fun w hw'=>?_,keep a hy u,by rw [← Act.put_comm a v u h2]; exact hn⟩
  have:=hu w hw'; unfold Oper.quietAt at *; rwa [execOp_put oj hsj a oi.dst v h1] at this
 ·rename_i hw
  simp only [hw] at h; exact⟨keep a hy _,by rw [← Act.put_comm a v undef h2]; exact h⟩
theorem wp_of_quiet1{P:Program} {o:Oper} {a:Act} {C:World→Prop} {v:Value} {K':Act→World→Prop} {Q':Exit→Act→World→Prop} {w:World} (hw:C w) (h3:o.quietAt P a C w v) (h:∀ w',C w'→K' (a.put o.dst v) w'):o.wp P a w K' Q':=by
 unfold Oper.quietAt at h3
 unfold Oper.wp
 generalize (execOp a.eval o).run P w=r at *
 cases r with
 | ok n w' =>
  cases n <;> simp only [Oper.quietUpon] at h3 <;> simp only [Oper.upon]
  case value u =>
   obtain⟨e1,e2⟩:=h3; rw [e1,e2]; exact h _ hw
  case skip =>
   obtain⟨e1,e2⟩:=h3; rw [e1,← e2]; exact h _ hw
  case enter f args =>
   obtain⟨e1,hc⟩:=h3; rw [e1]; exact hc.mono fun e w'' ⟨he,hw''⟩=>by subst he; exact h _ hw''
 | halt x w'=>simp only [Oper.quietUpon] at h3
theorem wpOp_of_qR{i:Nat} {a:Act} {K:Act→Prop} {K':Act→World→Prop} {Q':Exit→Act→World→Prop} {w:World} (hrf:∀ w,R w w) (hw:R w0 w) (h:∀ a w',R w w'→K a→K' a w') (hh:qR P ops R w0 i K a):wpOp P ops Q' i K' a w:=by
 unfold qR at hh
 unfold wpOp
 split
 ·rename_i ho; simp only [ho] at hh; exact h _ _ (hrf w) hh
 ·rename_i o ho
  simp only [ho] at hh; split
  ·rename_i hwa
   simp only [hwa,if_true] at hh; obtain⟨v,h1,h2⟩:=hh; exact .inl (wp_of_quiet1 (hrf w) (h1 w hw) (fun w' hw'=>h _ w' hw' h2))
  ·rename_i hwa; simp only [hwa] at hh; exact h _ _ (hrf w) hh
def wpMixR (P:Program) (md:Region.Mode) (ops:Array Oper) (R:World→World→Prop) (w0:World) (B:List Nat) (L:List Item) (Q:Array Bool→Act→(World→Prop)→Prop):Nat→Array Bool→Act→(World→Prop)→Prop
 | 0,listed,a,F=>Q listed a F
 | f+1,listed,a,F=>Region.ready md ops listed≠[]∧∀ i∈Region.ready md ops listed,
   (i∈B∧qR P ops R w0 i (fun a'=>wpMixR P md ops R w0 B L Q f (listed.setIfInBounds i true) a' F) a) ∨
   (∃ x∈L,x.1=i∧∃ o,ops[i]?=some o∧Region.wanted o (yielded ops a.tmps)=true∧(∀ w,R w0 w→gives P R x.2 w ((execOp a.eval o).run P w)) ∧
    ∀ v,wpMixR P md ops R w0 B L Q f (listed.setIfInBounds i true) (a.put o.dst v) (fun w=>F w∧x.2 v w))
theorem wpAny_of_mixR{B:List Nat} {L:List Item} {g:Nat} {Q:Array Bool→Act→(World→Prop)→Prop} {Q':Exit→Act→World→Prop} (hR:Rely R) (hst:∀ x∈L,Stable R x.2)
  (hQ:∀ listed a F w,R w0 w→F w→Q listed a F→wpAny P md ops Q' g listed a w) :
  ∀ (f:Nat) (listed:Array Bool) (a:Act) (F:World→Prop) (w:World),R w0 w→F w→(∀ w w',R w w'→F w→F w')→wpMixR P md ops R w0 B L Q f listed a F→wpAny P md ops Q' (f+g) listed a w:=by
 intro f
 induction f with
 | zero =>
  intro listed a F w hw hF _ h; rw [Nat.zero_add]; exact hQ _ _ _ _ hw hF h
 | succ f ih =>
  intro listed a F w hw hF hFs h; rw [show f+1+g=(f+g)+1 by omega]; refine⟨fun h0=>absurd h0 h.1,fun i hi=>?_⟩; rcases h.2 i hi with⟨_,hq⟩|⟨x,hx,rfl,o,ho,hwa,hg,hk⟩
  ·exact wpOp_of_qR hR.refl hw (fun a' w' hw' ha'=>ih _ a' F w' (hR.trans hw hw') (hFs _ _ hw' hF) hFs ha') hq
  ·have step:∀ v w',R w w'→x.2 v w'→wpAny P md ops Q' (f+g) (listed.setIfInBounds x.1 true) (a.put o.dst v) w':=fun v w' hww hTv =>
    ih _ _ _ w' (hR.trans hw hww) ⟨hFs _ _ hww hF,hTv⟩ (fun w1 w2 h12 h1=>⟨hFs _ _ h12 h1.1,hst x hx _ _ _ h12 h1.2⟩) (hk v)
   unfold wpOp; simp only [ho]; rw [if_pos hwa]; refine .inl ?_; have hgw:=hg w hw; unfold Oper.wp; generalize (execOp a.eval o).run P w=r at *
   cases r with
   | ok m w' =>
    cases m <;> simp only [gives] at hgw <;> simp only [Oper.upon]
    case value u=>exact step u w' hgw.1 hgw.2
    case skip=>exact step undef w' hgw.1 hgw.2
    case enter f' args =>
     obtain⟨rfl,hcall⟩:=hgw; exact hcall.mono fun e w'' ⟨v,he,h1,h2⟩=>by subst he; exact step v w'' h1 h2
   | halt q w'=>simp only [gives] at hgw
theorem wpMixR_first{B:List Nat} {L:List Item} {Q:Array Bool→Act→(World→Prop)→Prop} {base fin:Array Bool} {i:Nat} {oi:Oper} {v:Value} (hi:ops[i]?=some oi) (hsel:∀ (j:Nat) (o:Oper) cs b,ops[j]?=some o→o.op≠.select cs b)
  (hc:closedB md ops base (B++L.map (·.1))=true) (hiB:i∈B) (hfin:∀ j∈B++L.map (·.1),fin.getD j true=true) (hQ:∀ listed a F,Q listed a F→listed=fin) :
  ∀ (f:Nat) (listed:Array Bool) (a:Act) (F:World→Prop),Inv md ops (B++L.map (·.1)) base listed →
   (∀ j oj,ops[j]?=some oj→j≠i→listed.getD j true=false→(∀ e∈oj.after,Region.binds md e=true→e.on≠i)→oi.apart ops oj=true) →
   i∈Region.ready md ops listed→YieldsR P ops R w0 oi v a →
   wpMixR P md ops R w0 B L Q f (listed.setIfInBounds i true) (a.put oi.dst v) F→wpMixR P md ops R w0 B L Q (f+1) listed a F:=by
 intro f
 induction f with
 | zero =>
  intro listed a F inv _ hr hy H; have hun:=(mem_ready.1 hr).1; refine⟨fun h=>(by rw [h] at hr; cases hr),fun j hj=>?_⟩
  have hjB:=inv.stays hc (List.mem_append_left _ hiB) hun hj; by_cases hji:j=i
  ·subst hji; exact .inl ⟨hiB,hy.qR hi H⟩
  ·exfalso
   have h1:=ready_mono hj hji; rw [hQ _ _ _ H] at h1; have h2:=(mem_ready.1 h1).1; rw [hfin j hjB] at h2
   cases h2
 | succ f ih =>
  intro listed a F inv hfree hr hy H; have hun:=(mem_ready.1 hr).1; refine⟨fun h=>(by rw [h] at hr; cases hr),fun j hj=>?_⟩
  have hjB:=inv.stays hc (List.mem_append_left _ hiB) hun hj; by_cases hji:j=i
  ·subst hji; exact .inl ⟨hiB,hy.qR hi H⟩
  ·have h1:=H.2 j (ready_mono hj hji)
   obtain⟨hjun,oj,hoj,hall⟩:=mem_ready.1 hj; have hnot:∀ e∈oj.after,Region.binds md e=true→e.on≠i:=fun e he hb heq=>by
    have h1:=hall e he hb; rw [heq,getD_both hun] at h1
    cases h1
   have hap:=hfree j oj hoj hji hjun hnot; have hfree':∀ k ok,ops[k]?=some ok→k≠i→(listed.setIfInBounds j true).getD k true=false →
     (∀ e∈ok.after,Region.binds md e=true→e.on≠i)→oi.apart ops ok=true:=fun k ok hk hki hun hno=>by
    refine hfree k ok hk hki ?_ hno; by_cases hjk:j=k
    ·subst hjk; exact hjun
    ·rw [getD_set_ne true hjk] at hun; exact hun
   rcases h1 with⟨hjB',h1⟩|⟨x,hx,hxj,o,ho,hwa,hg,hk⟩
   ·refine .inl ⟨hjB',?_⟩
    have h2:=qR_put hoj hap (fun cs b=>hsel i oi cs b hi) (fun cs b=>hsel j oj cs b hoj) hy h1; refine qR_mono (fun a' h3=>ih (listed.setIfInBounds j true) a' F (inv.set hjB hj) hfree' (ready_mono hr (Ne.symm hji)) h3.1 ?_) h2; rw [Array.setIfInBounds_comm _ _ hji]; exact h3.2
   ·have:o=oj:=Option.some.inj (ho.symm.trans hoj)
    subst this; obtain⟨g1,g2,g3⟩:=Oper.apart_spec hap; refine .inr ⟨x,hx,hxj,o,ho,?_,fun w hw=>?_,fun u=>?_⟩
    ·rw [wanted_put o a oi.dst v g1] at hwa
     exact hwa
    ·have:=hg w hw
     rw [execOp_put o (fun cs b=>hsel j o cs b ho) a oi.dst v g1] at this; exact this
    ·refine ih (listed.setIfInBounds j true) (a.put o.dst u) _ (inv.set hjB hj) hfree' (ready_mono hr (Ne.symm hji)) (hy.of_same (execOp_put oi (fun cs b=>hsel i oi cs b hi) a o.dst u g3) (wanted_put oi a o.dst u g3)) ?_
     rw [Array.setIfInBounds_comm _ _ hji,← Act.put_comm a v u g2]; exact hk u
theorem wpMixR_loose{B:List Nat} {L0:List Item} {Qf:Act→(World→Prop)→Prop} {base fin:Array Bool} (hQf:∀ a F F',(∀ w,F' w→F w)→Qf a F→Qf a F') (hsel:∀ (j:Nat) (o:Oper) cs b,ops[j]?=some o→o.op≠.select cs b) (hc:closedB md ops base (B++L0.map (·.1))=true) (hap:apartB ops (L0.map (·.1))=true) :
  ∀ (n:Nat) (L:List Item) (listed:Array Bool) (a:Act) (F:World→Prop),L.length=n→(L.map (·.1)).Nodup→(∀ x∈L,x∈L0∧x.1∈Region.ready md ops listed) →
   (∀ i∈B++L0.map (·.1),listed.getD i true=false→i∈L.map (·.1))→Inv md ops (B++L0.map (·.1)) base listed→lay listed (L.map (·.1))=fin →
   wpLoose P ops R w0 Qf L a F→wpMixR P md ops R w0 B L0 (fun listed' a' F'=>listed'=fin∧Qf a' F') n listed a F:=by
 intro n
 induction n with
 | zero =>
  intro L listed a F hn _ _ _ _ hf h; have:L=[]:=List.length_eq_zero_iff.1 hn; subst this; exact⟨hf,h⟩
 | succ n ih =>
  intro L listed a F hn hnd hL hall inv hf h; obtain⟨x0,L1,rfl⟩:∃ x L1,L=x::L1:=by
   cases L with
   | nil=>cases hn
   | cons x L1=>exact⟨x,L1,rfl⟩
  have hx0:=hL x0 List.mem_cons_self; refine⟨fun h0=>(by have:=hx0.2; rw [h0] at this; cases this),fun j hj=>?_⟩
  have hjB:j∈B++L0.map (·.1):=inv.stays hc (List.mem_append_right _ (List.mem_map_of_mem hx0.1)) (mem_ready.1 hx0.2).1 hj; have hjL:=hall j hjB (mem_ready.1 hj).1; obtain⟨⟨j',T⟩,hmem,hje⟩:=List.mem_map.1 hjL; have hje:j'=j:=hje; subst hje; obtain⟨B1,B2,hsplit⟩:=List.append_of_mem hmem; rw [hsplit] at h hnd hf; have hnd':=hnd; simp only [List.map_append,List.map_cons] at hnd' hf; have hne1:∀ y∈B1,y.1≠j':=fun y hy e=>by
   rw [List.nodup_append] at hnd'; exact hnd'.2.2 y.1 (List.mem_map_of_mem hy) j' (List.mem_cons_self) e
  have hne2:∀ y∈B2,y.1≠j':=fun y hy e=>by
   rw [List.nodup_append] at hnd'; exact(List.nodup_cons.1 hnd'.2.1).1 (by rw [← e]; exact List.mem_map_of_mem hy)
  have hin12:∀ y∈B1++B2,y∈x0::L1∧y.1≠j':=fun y hy=>by
   rcases List.mem_append.1 hy with h1|h1
   ·exact⟨by rw [hsplit]; exact List.mem_append_left _ h1,hne1 y h1⟩
   ·exact⟨by rw [hsplit]; exact List.mem_append_right _ (List.mem_cons_of_mem _ h1),hne2 y h1⟩
  have hj0:j'∈L0.map (·.1):=List.mem_map_of_mem (f:=(·.1)) (hL _ hmem).1; obtain⟨o,k1,k2,k3,k4⟩:=wpLoose_pull hQf hsel hap hj0 B1 a F (fun y hy=>⟨List.mem_map_of_mem (hL y (by rw [hsplit]; exact List.mem_append_left _ hy)).1,hne1 y hy⟩) h
  refine .inr ⟨(j',T),(hL _ hmem).1,rfl,o,k1,k2,k3,fun v=>?_⟩; refine ih (B1++B2) (listed.setIfInBounds j' true) (a.put o.dst v) _ ?_ ?_ ?_ ?_ (inv.set hjB hj) ?_ (k4 v)
  ·rw [hsplit] at hn
   simp only [List.length_append,List.length_cons] at hn ⊢; omega
  ·simp only [List.map_append]
   rw [List.nodup_append] at hnd' ⊢; exact⟨hnd'.1,(List.nodup_cons.1 hnd'.2.1).2,fun p hp q hq=>hnd'.2.2 p hp q (List.mem_cons_of_mem _ hq)⟩
  ·intro y hy
   obtain⟨h1,h2⟩:=hin12 y hy; exact⟨(hL y h1).1,ready_mono (hL y h1).2 h2⟩
  ·intro i hi hun
   have hij:i≠j':=by
    rintro rfl; have hjs:i<listed.size:=by
     obtain⟨o',ho',_⟩:=(mem_ready.1 hj).2; rw [inv.size]; exact(Array.getElem?_eq_some_iff.1 ho').1
    rw [getD_swap (by simpa using hjs),set_self hjs] at hun
    cases hun
   rw [getD_set_ne true (Ne.symm hij)] at hun; have h1:=hall i hi hun; rw [hsplit] at h1; simp only [List.map_append,List.map_cons,List.mem_append,List.mem_cons] at h1 ⊢; rcases h1 with h1|h1|h1
   ·exact .inl h1
   ·exact absurd h1 hij
   ·exact .inr h1
  ·rw [← hf]
   simp only [List.map_append]; have hcomm:∀ (l1:List Nat) (l2:List Nat) (s:Array Bool),j'∉l1→lay (s.setIfInBounds j' true) (l1++l2)=lay s (l1++j'::l2):=by
    intro l1; induction l1 with
    | nil=>intro l2 s _; rfl
    | cons p l1 ihl =>
     intro l2 s hp; have hpj:p≠j':=fun e=>hp (by rw [e]; exact List.mem_cons_self)
     show lay ((s.setIfInBounds j' true).setIfInBounds p true) (l1++l2)=lay (s.setIfInBounds p true) (l1++j'::l2)
     rw [← Array.setIfInBounds_comm _ _ hpj]; exact ihl l2 _ (fun hm=>hp (List.mem_cons_of_mem _ hm))
   refine hcomm _ _ _ (fun hm=>?_); obtain⟨y,hy,hye⟩:=List.mem_map.1 hm; exact hne1 y hy hye
def wpR (P:Program) (ops:Array Oper) (R:World→World→Prop) (w0:World) (Q:Act→Prop):List Nat→Act→Prop
 | [],a=>Q a
 | i::l,a=>qR P ops R w0 i (wpR P ops R w0 Q l) a
theorem wpR_calm{Q:Act→Prop}:∀ (B:List Nat) (a:Act),B.all (calmAt ops)=true→wpQuiet P ops (R w0) Q (B.filterMap (ops[·]?)) a→wpR P ops R w0 Q B a
 | [],_,_,h=>h
 | i::B,a,hc,h=>by
  simp only [List.all_cons,Bool.and_eq_true] at hc; obtain⟨hc1,hc2⟩:=hc; unfold calmAt at hc1
  cases ho:ops[i]? with
  | none=>rw [ho] at hc1; cases hc1
  | some o =>
   rw [ho] at hc1; rw [List.filterMap_cons_some ho] at h; unfold wpQuiet at h; unfold wpR qR; simp only [ho]; split
   ·rename_i hw
    simp only [hw,if_true] at h; obtain⟨v,h1,h2⟩:=h; refine⟨v,fun w hw0=>?_,wpR_calm B _ hc2 h2⟩; have h3:=h1 w hw0; unfold Oper.quietAt at h3 ⊢
    cases hr:(execOp a.eval o).run P w with
    | halt q w'=>rw [hr] at h3; exact h3.elim
    | ok n w' =>
     obtain⟨u,rfl⟩:=calm_value hc1 a.eval w w' n hr; rw [hr] at h3; exact h3
   ·rename_i hw
    simp only [hw] at h; exact wpR_calm B _ hc2 h
theorem wpR_append{Q:Act→Prop}:∀ (l1 l2:List Nat) (a:Act),wpR P ops R w0 (fun a'=>wpR P ops R w0 Q l2 a') l1 a→wpR P ops R w0 Q (l1++l2) a
 | [],_,_,h=>h
 | _::l1,l2,_,h=>qR_mono (fun a' h'=>wpR_append l1 l2 a' h') h
def wpSegs (P:Program) (ops:Array Oper) (R:World→World→Prop) (w0:World) (Q:Act→Prop):List (List Nat × Nat)→Act→Prop
 | [],a=>Q a
 | x::rest,a=>wpQuiet P ops (R w0) (fun a'=>∃ o,ops[x.2]?=some o∧Region.wanted o (yielded ops a'.tmps)=true∧∃ v,(∀ w,R w0 w→o.quietAt P a' (R w) w v)∧wpSegs P ops R w0 Q rest (a'.put o.dst v)) (x.1.filterMap (ops[·]?)) a
def flat:List (List Nat × Nat)→List Nat
 | []=>[]
 | x::rest=>(x.1++[x.2])++flat rest
theorem wpR_segs{Q:Act→Prop}:∀ (S:List (List Nat × Nat)) (a:Act),S.all (fun x=>x.1.all (calmAt ops))=true→wpSegs P ops R w0 Q S a→wpR P ops R w0 Q (flat S) a
 | [],_,_,h=>h
 | x::S,a,hc,h=>by
  simp only [List.all_cons,Bool.and_eq_true] at hc; unfold flat; rw [List.append_assoc]; refine wpR_append _ _ _ (wpR_calm x.1 a hc.1 ?_); unfold wpSegs at h; have key:∀ (l:List Oper) (a:Act),wpQuiet P ops (R w0) (fun a'=>∃ o,ops[x.2]?=some o∧Region.wanted o (yielded ops a'.tmps)=true∧∃ v,(∀ w,R w0 w→o.quietAt P a' (R w) w v)∧wpSegs P ops R w0 Q S (a'.put o.dst v)) l a →
    wpQuiet P ops (R w0) (fun a'=>wpR P ops R w0 Q ([x.2]++flat S) a') l a:=by
   intro l; induction l with
   | nil =>
    rintro a ⟨o,ho,hw,v,h1,h2⟩; show qR P ops R w0 x.2 _ a
    unfold qR; simp only [ho,hw,if_true]; exact⟨v,h1,wpR_segs S _ hc.2 h2⟩
   | cons o l ih =>
    intro a h; unfold wpQuiet at h ⊢; split
    ·rename_i hw
     simp only [hw,if_true] at h; exact Oper.quiet_mono (fun a=>ih a) h
    ·rename_i hw
     simp only [hw] at h; exact ih _ h
  exact key _ _ h
def mixRB (md:Region.Mode) (ops:Array Oper) (base:Array Bool) (B L:List Nat):Bool :=
 Region.noSelect ops&&decide (base.size=ops.size)&&closedB md ops base (B++L)&&seqOK md ops B base&&apartB ops L&&decide (B++L).Nodup&&L.all fun i=>(Region.ready md ops (lay base B)).contains i
theorem wpAny_mixR{Q':Exit→Act→World→Prop} {a:Act} {w:World} {base:Array Bool} {N fuel:Nat} (hR:Rely R) (hw0:R w0 w) (B:List Nat) (L:List Item) (hB:mixRB md ops base B (L.map (·.1))=true) (hst:∀ x∈L,Stable R x.2) (hN:N=B.length+L.length+fuel)
  (h:wpR P ops R w0 (fun a'=>wpLoose P ops R w0 (fun a' F=>∀ w',R w0 w'→F w'→wpAny P md ops Q' fuel (lay (lay base B) (L.map (·.1))) a' w') L a' (fun _=>True)) B a):wpAny P md ops Q' N base a w:=by
 simp only [mixRB,Bool.and_eq_true,decide_eq_true_eq] at hB
 obtain⟨⟨⟨⟨⟨⟨hsel,hsz⟩,hc⟩,hseq⟩,hap⟩,hnd⟩,hrd⟩:=hB
 subst hN
 have hsel':=Region.noSelect_spec hsel
 have hnd2:=hnd
 rw [List.nodup_append] at hnd2
 have htopo:topo md ops (B++L.map (·.1)) base=true:=by
  simp only [closedB,Bool.and_eq_true] at hc; exact hc.1
 have hlt:=topo_lt _ _ htopo
 have hfin:∀ j∈B++L.map (·.1),(lay (lay base B) (L.map (·.1))).getD j true=true:=fun j hj=>by
  rw [← lay_append,getD_swap (by rw [lay_size,hsz]; exact hlt j hj)]
  exact lay_in _ _ _ hj (by rw [hsz]; exact hlt j hj)
 have key:∀ (l:List Nat) (listed:Array Bool) (a:Act),(∀ i∈l,i∈B)→(∀ i∈B,listed.getD i true=false→i∈l)→Inv md ops (B++L.map (·.1)) base listed→seqOK md ops l listed=true→lay listed l=lay base B →
   wpR P ops R w0 (fun a'=>wpLoose P ops R w0 (fun a' F=>∀ w',R w0 w'→F w'→wpAny P md ops Q' fuel (lay (lay base B) (L.map (·.1))) a' w') L a' (fun _=>True)) l a →
   wpMixR P md ops R w0 B L (fun listed' a' F'=>listed'=lay (lay base B) (L.map (·.1))∧∀ w',R w0 w'→F' w'→wpAny P md ops Q' fuel (lay (lay base B) (L.map (·.1))) a' w') (l.length+L.length) listed a (fun _=>True):=by
  intro l; induction l with
  | nil =>
   intro listed a _ hall inv _ hf h; have hf:listed=lay base B:=hf; rw [List.length_nil,Nat.zero_add]; refine wpMixR_loose (fun a F F' hFF hq w' hw' hF'=>hq w' hw' (hFF w' hF')) hsel' hc hap L.length L listed a _ rfl hnd2.2.1 (fun x hx=>⟨hx,?_⟩) (fun i hi hun=>?_) inv (by rw [hf]) h
   ·have:=List.all_eq_true.1 hrd x.1 (List.mem_map_of_mem hx)
    rw [hf]; simpa using this
   ·rcases List.mem_append.1 hi with h1|h1
    ·cases hall i h1 hun
    ·exact h1
  | cons i l ih =>
   intro listed a hl' hall inv hsq hf h; simp only [seqOK,Bool.and_eq_true] at hsq; obtain⟨⟨hr,hfr⟩,hB'⟩:=hsq; have hr':i∈Region.ready md ops listed:=by simpa using hr
   obtain⟨_,o,ho,_⟩:=mem_ready.1 hr'; have hiB:=hl' i List.mem_cons_self; obtain⟨v,hy,hK⟩:=yieldsR_of_qR ho h; have:=ih (listed.setIfInBounds i true) _ (fun k hk=>hl' k (List.mem_cons_of_mem _ hk)) (fun k hk hun=>by
    have hne:k≠i:=by
     rintro rfl; have hks:k<listed.size:=by rw [inv.size]; exact(Array.getElem?_eq_some_iff.1 ho).1
     rw [getD_swap (by simpa using hks),set_self hks] at hun
     cases hun
    rw [getD_set_ne true (Ne.symm hne)] at hun; rcases List.mem_cons.1 (hall k hk hun) with h1|h1
    ·exact absurd h1 hne
    ·exact h1) (inv.set (List.mem_append_left _ hiB) hr') hB' hf hK
   rw [show (i::l).length+L.length=(l.length+L.length)+1 by simp only [List.length_cons]; omega]
   exact wpMixR_first ho hsel' hc hiB hfin (fun _ _ _ hq=>hq.1) _ listed a _ inv (Region.free_spec ho hfr) hr' hy this
 have hM:=key B base a (fun _ h=>h) (fun _ h _=>h) (Inv.refl hsz) hseq rfl h
 exact wpAny_of_mixR hR hst (fun listed a' F w' hw' hF hq=>by obtain⟨rfl,h2⟩:=hq; exact h2 w' hw' hF) _ base a _ w hw0 trivial (fun _ _ _ h=>h) hM
end
def segs (P:Program) (l:List Oper) (w:World) (Q:Act→Prop):List (List Nat × Nat)→Act→Prop
 | [],a=>Q a
 | x::rest,a=>wpQuiet P l.toArray (fun w'=>∃ p:Grew,w'=grew w p) (fun a'=>Region.wanted (l.getD x.2 default) (yielded l.toArray a'.tmps)=true ∧
   ∃ v,(∀ p:Grew,(l.getD x.2 default).quietAt P a' (fun w''=>∃ q:Grew,w''=grew (grew w p) q) (grew w p) v)∧segs P l w Q rest (a'.put (l.getD x.2 default).dst v)) (pick l x.1) a
theorem segs_call{P:Program} {o:Oper} {a:Act} {w:World} {W:Prop} {K0:Act→Prop} (hw:W) (h:∀ K:Act→Prop,(∀ a,K0 a→K a)→∃ v,(∀ p:Grew,o.quietAt P a (fun w''=>∃ q:Grew,w''=grew (grew w p) q) (grew w p) v)∧K (a.put o.dst v)) :
  W∧∃ v,(∀ p:Grew,o.quietAt P a (fun w''=>∃ q:Grew,w''=grew (grew w p) q) (grew w p) v)∧K0 (a.put o.dst v):=⟨hw,h _ fun _ h=>h⟩
theorem calls_grew1{P:Program} {f:FuncId} {args:Array Value} {W:World} {v:Value} (h:Calls P f args W fun e w'=>e=.returned v∧Below W.heap.size W w'):Calls P f args W fun e w'=>e=.returned v∧∃ q:Grew,w'=grew W q :=
 h.mono fun _ _ ⟨he,hb⟩=>⟨he,grew_of hb⟩
theorem wp_region_segs{P:Program} {id:Nat} {Q:Exit→Act→World→Prop} {a:Act} {w:World} {l:List Oper} (S:List (List Nat × Nat)) (Bl:List Nat) (L:List Item) (T:List Nat) (hm:P.follows .mixedOrders=true)
  (hB:((flat S++Bl).all (fun i=>decide (i<l.length))&&T.all (fun i=>decide (i<l.length))&&S.all (fun x=>x.1.all (calmAt l.toArray))&&Bl.all (calmAt l.toArray)&&mixRB .any l.toArray (Array.replicate l.length false) (flat S++Bl) (L.map (·.1))&&decide ((flat S++Bl).length+L.length+T.length=l.length)&&seqL .any l.toArray T (lay (lay (Array.replicate l.length false) (flat S++Bl)) (L.map (·.1))))=true)
  (hst:∀ x∈L,Stable GR x.2)
  (h:segs P l w (fun a1=>wpQuiet P l.toArray (fun w'=>∃ p:Grew,w'=grew w p) (fun a'=>wpLoose P l.toArray GR w (fun a'' F=>∀ w',GR w w'→F w'→wpList P l.toArray Q (pick l T) a'' w') L a' (fun _=>True)) (pick l Bl) a1) S a):(Code.region id l.toArray true).wp P Q a w:=by
 simp only [Bool.and_eq_true,decide_eq_true_eq] at hB
 obtain⟨⟨⟨⟨⟨⟨g1,g2⟩,g3⟩,g4⟩,h1⟩,h2⟩,h3⟩:=hB
 have gB:Bl.all (fun i=>decide (i<l.length))=true:=by
  rw [List.all_append,Bool.and_eq_true] at g1; exact g1.2
 have gS:(flat S).all (fun i=>decide (i<l.length))=true:=by
  rw [List.all_append,Bool.and_eq_true] at g1; exact g1.1
 refine wp_region_start hm (wpAny_mixR (fuel:=T.length) rely_gr (GR.of (Below.refl _ _).drew) (flat S++Bl) L h1 hst (by omega) ?_)
 have key:∀ (L0:List Item) (a:Act) (F:World→Prop),wpLoose P l.toArray GR w (fun a'' F=>∀ w',GR w w'→F w'→wpList P l.toArray Q (pick l T) a'' w') L0 a F →
   wpLoose P l.toArray GR w (fun a' F=>∀ w',GR w w'→F w'→wpAny P .any l.toArray Q T.length (lay (lay (Array.replicate l.length false) (flat S++Bl)) (L.map (·.1))) a' w') L0 a F:=by
  intro L0; induction L0 with
  | nil=>intro a F h w' hw hF; exact wpAny_of_seqL T _ a w' h3 (by rw [pick_eq l T g2]; exact h w' hw hF)
  | cons x L0 ih=>intro a F ⟨o,k1,k2,k3,k4⟩; exact⟨o,k1,k2,k3,fun v=>ih _ _ (k4 v)⟩
 have key2:∀ (l0:List Oper) (a:Act) (K K':Act→Prop),(∀ a,K a→K' a)→wpQuiet P l.toArray (fun w'=>∃ p:Grew,w'=grew w p) K l0 a→wpQuiet P l.toArray (GR w) K' l0 a:=by
  intro l0; induction l0 with
  | nil=>intro a K K' hK h; exact hK _ h
  | cons o l0 ih =>
   intro a K K' hK h; unfold wpQuiet at h ⊢; split
   ·rename_i hw
    simp only [hw,if_true] at h; exact Oper.quiet_mono (fun a=>ih a K K' hK) h
   ·rename_i hw
    simp only [hw] at h; exact ih _ K K' hK h
 refine wpR_append _ _ a ?_
 have key3:∀ (S0:List (List Nat × Nat)) (a:Act),(flat S0).all (fun i=>decide (i<l.length))=true→S0.all (fun x=>x.1.all (calmAt l.toArray))=true →
   segs P l w (fun a1=>wpQuiet P l.toArray (fun w'=>∃ p:Grew,w'=grew w p) (fun a'=>wpLoose P l.toArray GR w (fun a'' F=>∀ w',GR w w'→F w'→wpList P l.toArray Q (pick l T) a'' w') L a' (fun _=>True)) (pick l Bl) a1) S0 a →
   wpSegs P l.toArray GR w (fun a'=>wpR P l.toArray GR w (fun a'=>wpLoose P l.toArray GR w (fun a' F=>∀ w',GR w w'→F w'→wpAny P .any l.toArray Q T.length (lay (lay (Array.replicate l.length false) (flat S++Bl)) (L.map (·.1))) a' w') L a' (fun _=>True)) Bl a') S0 a:=by
  intro S0; induction S0 with
  | nil =>
   intro a _ _ h; refine wpR_calm Bl a g4 ?_; rw [pick_eq l Bl gB]; exact key2 _ a _ _ (fun a h=>key _ _ _ h) h
  | cons x S0 ih =>
   intro a hl hc h; unfold flat at hl; rw [List.all_append,List.all_append,Bool.and_eq_true,Bool.and_eq_true] at hl; obtain⟨⟨hl1,hl2⟩,hl3⟩:=hl; simp only [List.all_cons,Bool.and_eq_true] at hc; have hx2:x.2<l.length:=by simpa using hl2
   unfold segs at h; unfold wpSegs; rw [pick_eq l x.1 hl1]; refine key2 _ a _ _ (fun a' ⟨hw,v,hv,hk⟩=>⟨l.getD x.2 default,by simp [hx2],hw,v,fun w1 hw1=>?_,ih _ hl3 hc.2 hk⟩) h; obtain⟨p,rfl⟩:=hw1; exact hv p
 exact wpR_segs S a g3 (key3 S a gS g3 h)
end Batch
end
section
open Go.RowKit Mem
theorem conv_txt(l:List UInt8) (w:World):∃ W2 c,(convert 9 62 (.string (str l))).run Tryz.prog w=.ok (.slice (some ⟨w.heap.size,0,none⟩) l.length c) W2∧Bs W2 W2.heap.size (some ⟨w.heap.size,0,none⟩) l.length l∧Below w.heap.size w W2:=by
 have h:=run_bytes_of_string (P:=Tryz.prog) w 9 62 5 (str l) Tryz.underlying9 Tryz.underlying62 Tryz.underlying5
 rw [str_size] at h
 refine⟨_,_,h,⟨by rw [bv_length]; omega,fun j u hj=>⟨_,rfl,by simp,?_⟩⟩,((Below.refl _ _).drew).alloc (Nat.le_refl _) _⟩
 rw [zero_add_]
 have hjl:j<l.length:=by
  have:=(List.getElem?_eq_some_iff.1 hj).1; rwa [bv_length] at this
 have hc:=cell_new w.drew (bytesRow (str l) (grownCap w l.length 0 5)) 5 ((bytesRow (str l) (grownCap w l.length 0 5)).size,(bytesRow (str l) (grownCap w l.length 0 5)).size+1) j
 refine hc.trans ?_
 rw [← hj,bv_at]
 unfold bytesRow
 simp only [str]
 rw [Array.getElem?_append_left (by simpa using hjl)]
 simp [hjl]
end
end Go.Proofs.YtmbpnkacggngkaaGreatDoor
