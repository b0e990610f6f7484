/- LedDoB, LedDoC, LedDoD, LedDoE, LedSame, LedEntry, LedDoF, LedDoG, LedDoH, LedDoI, LedDoJ (put together by bundle.py: only what is needed). -/
import Derived.Test.YtmbpnkacggngkaaGreatDoorLI8
set_option maxRecDepth 100000
set_option maxHeartbeats 16000000
namespace Go.Proofs.YtmbpnkacggngkaaGreatDoor
open Batch
open Tryz
section
open Go.RowKit Mem Led
theorem op_node(o:Led.Op)(sv kv:Value):∀j u,(ae o.node)[j]?=some u->(ac o sv kv)[12+j]?=some u:=by
 intro j u h
 match j,h with
 | 0,h=>exact h
 | 1,h=>exact h
 | 2,h=>exact h
 | 3,h=>exact h
 | 4,h=>exact h
 | j+5,h=>simp[ae] at h
theorem nr{w:World}{g:Nat}{o:Led.Op}{sv kv:Value}(h:Blk w g (ac o sv kv) 47):(fI (.pointer (some ⟨g,12,none⟩))).run prog w=.ok (.agg (ae o.node).toArray) w :=
 cz underlying40 rfl mQ rfl fun j u A=>by rw[h.cell];exact op_node o sv kv j u A
theorem cX(n:Led.Node):∀u∈ae n,u.oneCell'=true:=by
 intro u A
 simp[ae,tx,nm] at A
 rcases A with rfl|rfl|rfl|rfl|rfl<;>rfl
theorem uE(a b:Led.Node)(W:World):Calls prog 92 #[.agg (ae a).toArray,.agg (ae b).toArray] W fun e w'=>e=.returned (.int .i64 (cN a b))/\eF W w':=by
 have A:=fun W=>ow a.name b.name W
 have B:∀o p,eF W ((W.alloc o).alloc p):=fun o p=>eI.alloc (by simp) _
 unfold cN
 show Calls prog 92 #[.agg #[.string (str a.name),.string (str a.key),.int .i64 a.expires,.int .i64 a.seq,.string (str a.doc)],.agg #[.string (str b.name),.string (str b.key),.int .i64 b.expires,.int .i64 b.seq,.string (str b.doc)]] W _
 generalize ord a.name b.name=v at *
 go_enter func92,ntmps92
 go_wp2_with fail
 refine(A _).mono ?_
 rintro e C ⟨rfl,rfl⟩
 go_wp2
 go_ret
 exact⟨rfl,B _ _⟩
def bO(base gl:Nat)(vN:Value)(N:List Led.Node)(A:List Txt)(n:Led.Node)(w:World)(x:Ending)(w':World):Prop :=
 if cH n then (if A.contains n.name then x=.returned (.int .i64 21)/\eF w w' else gy ae 5 40 base gl 1 vN (put cN 4 n N) w x w') else x=.returned (.int .i64 1)/\eF w w'
theorem lY{α:Type}{enc:α->List Value}{k:Nat}{e:TypeId}{base gl sl:Nat}{v:Value}{r:Option (List α)}{w W w':World}{x:Ending}(A:eF w W)(h:gy enc k e base gl sl v r W x w'):gy enc k e base gl sl v r w x w':=by
 unfold gy at h ⊢
 cases r with
 | none=>exact⟨h.1,A.trans (h.2.mono A.size)⟩
 | some L=>exact⟨h.1,iI A h.2⟩
theorem o5(gl:Nat)(o:Led.Op)(sv kv:Value)(vs:List Value)(N:List Led.Node)(D:List Txt)(base:Nat)(vN vB:Value)(w:World)(r:o.node.name.length<=9223372036854775807)(s:N.length<=4)(hB:D.length<=8)(t:aY cN N)(M:base<=w.heap.size)
  (S:Blk w gl vs 30) (u:vs[1]?=some vN) (z:vs[2]?=some vB) (T:w.ownsRow base 40 5 vN N.length (ah ae N)) (b:vN.ownBlock≠some gl) (G:w.ownsRow base 9 1 vB D.length (ah al D)) :
  Calls prog 46 #[.pointer (some ⟨gl,0,none⟩),.agg (ac o sv kv).toArray] w (bO base gl vN N D o.node w):=by
 obtain⟨c,cB,rfl,Aa,Ab⟩:=aj G
 obtain⟨W,Z⟩:=eC (w.alloc (.cells (ac o sv kv).toArray 47))
 have k:Blk W w.heap.size (ac o sv kv) 47:=by rw[<-Z];exact Blk.new w _ _
 have H:eF w W:=eG Z
 have d:=nr k
 have A:=node_any o.node W r
 have f:=eA Z
 clear Z
 obtain⟨CS,U⟩:=eC ((ac o sv kv).toArray)
 rw[U] at f ⊢
 clear U
 go_enter func46,ntmps46
 go_upto_region 1 with fail
 rw[f.out]
 clear f
 cases J:cH o.node
 .have Q:Hid (∀w',eF w w'->bO base gl vN N D o.node w (.returned (.int .i64 1)) w'):=eA (fun w' h=>by unfold bO;rw[J];exact⟨rfl,h⟩)
  rw[J] at A;clear J;go_wp2_with fail
  refine A.mono ?_;rintro e E ⟨rfl,I⟩;go_wp2;go_ret;exact Q.out _ (H.trans (I.mono H.size))
 .rw [J] at A
  go_wp2_with fail
  refine A.mono ?_;rintro e E ⟨rfl,I⟩;have g:=k.below I;have B:eF w E:=H.trans (I.mono H.size);have K:=S.below B;have l:∀p,(ab E p).cell? ⟨gl,2,none⟩=some (.slice c D.length cB):=fun p=>(ap (a:=⟨gl,2,none⟩) K.lt p).trans ((K.cell 2).trans z);have m:∀p,(ab E p).cell? ⟨w.heap.size,12,none⟩=some (.string (str o.node.name)):=fun p=>(ap (a:=⟨w.heap.size,12,none⟩) g.lt p).trans (g.cell 12);have R:Hid (∀p,Calls prog 90 #[.slice c D.length cB,.string (str o.node.name)] (ab E p) fun e w'=>e=.returned (.bool (D.contains o.node.name))/\Below (ab E p).heap.size (ab E p) w'):=eA fun p =>
   (kH c D.length cB D o.node.name _ (Ts.below (Ts.below (nX G) B) (aa E p)) (by omega)).mono fun e w' ⟨he,hw⟩=>⟨he,by rw[hw];exact Below.refl _ _⟩
  clear d A
  cases F:D.contains o.node.name
  .have Q:Hid (∀x w',gy ae 5 40 base gl 1 vN (put cN 4 o.node N) w x w'->bO base gl vN N D o.node w x w'):=eA (fun x w' h=>by unfold bO;rw[J,F];exact h)
   rw[F] at R;clear F J;go_wp2_with fail
   refine au ?_;repeat (go_big_quiet_step (first|(go_at_call 90;exact aq (R.out _))|fail))
   refine wpQuiet_nil ?_;rintro _ ⟨V,rfl⟩;have X:=aa E V;clear l m R;generalize ab E V=O at *;have b2:=g.below X;have f3:∀p,(fI (.pointer (some ⟨w.heap.size,12,none⟩))).run prog (ab O p)=.ok (.agg (ae o.node).toArray) (ab O p):=fun p=>nr (b2.below (aa O p));go_wp2_with fail
   refine bz 5 ?_;simp only[List.take_succ_cons,List.take_zero,List.drop_succ_cons,List.drop_zero];repeat (go_big_quiet_step (fail))
   refine wpQuiet_nil ?_;rintro _ ⟨i,rfl⟩;have g3:eF E (ab O i):=X.trans ((aa O i).mono X.size);clear f3;generalize ab O i=n at *;have C:eF w n:=B.trans (g3.mono B.size);have L:=putNod_any gl 1 92 (enters_of func92 (by kernel_rfl) rfl) cN rW o.node N t base vN 4 n s (by omega) vs 30 (S.below C) u (af T C eH) b (Nat.le_trans M C.size) (fun y _=>cX y) (cX _) (fun W' y _ _=>uE y o.node W');have j:=eA (L.mono fun x w' h=>lY C h);clear L;obtain⟨Y,hY⟩:=eC ((ae o.node).toArray);rw[hY] at j ⊢;go_wp2_with fail
   refine j.out.mono ?_;intro e w4 h;have h':=eA (Q.out e w4 h);clear j Q;unfold gy at h
   cases q:put cN 4 o.node N
   all_goals
    rw[q] at h;obtain⟨rfl,_⟩:=h;clear q;go_wp2;(try rw[ak])
    (try go_wp2)
    go_ret;exact h'.out
  .have Q:Hid (∀w',eF w w'->bO base gl vN N D o.node w (.returned (.int .i64 21)) w'):=eA (fun w' h=>by unfold bO;rw[J,F];exact⟨rfl,h⟩)
   rw[F] at R;clear F J;go_wp2_with fail
   refine au ?_;repeat (go_big_quiet_step (first|(go_at_call 90;exact aq (R.out _))|fail))
   refine wpQuiet_nil ?_;rintro _ ⟨V,rfl⟩;have X:=aa E V;clear l m R;generalize ab E V=O at *;go_wp2_with fail
   go_ret;exact Q.out _ (B.trans (X.mono B.size))
end
section
open Go.RowKit Mem Led
theorem rows_set{α:Type}{enc:α->List Value}{k:Nat}(B:∀x,(enc x).length=k){L:List α}{i j:Nat}{x':α}{u:Value}{R:List Value}(hi:i<L.length)(G:j<k)(C:enc x'=(enc L[i]).set j u) :
  (ah enc L++R).set (i*k+j) u=ah enc (L.set i x')++R:=by
 have e:L=L.take i++L[i]::L.drop (i+1):=by rw[<-List.drop_eq_getElem_cons hi,List.take_append_drop]
 have E:L.set i x'=L.take i++x'::L.drop (i+1):=by rw[List.set_eq_take_append_cons_drop,if_pos hi]
 have F:(ah enc (L.take i)).length=i*k:=by rw[aJ B,List.length_take,Nat.min_eq_left (by omega)]
 have H:=B L[i]
 rw[E]
 conv=>lhs;rw[e]
 rw[aT,bM,aT,bM,C]
 generalize ah enc (L.take i)=A at *
 generalize ah enc (L.drop (i+1))=D at *
 generalize enc L[i]=Y at *
 simp only[List.append_assoc]
 rw[List.set_append_right _ _ (by omega),List.set_append_left _ _ (by omega)]
 congr 2
 rw[F,Nat.add_sub_cancel_left]
theorem fY{α:Type}{p:α->Bool}{f:α->α}:∀{L:List α} {i:Nat} (hi:i<L.length),(∀x∈L.take i,p x=false)->p L[i]=true->dH p f L=L.set i (f L[i])
 | a::L,0,_,_,hp=>by
  unfold dH;have:p a=true:=hp;rw[if_pos this];rfl
 | a::L,i+1,hi,h,hp=>by
  unfold dH;have A:p a=false:=h a (by simp);rw[A];simp only[Bool.false_eq_true,if_false,List.set_cons_succ,List.getElem_cons_succ];rw[fY (L:=L) (f:=f) (by simpa using hi) (fun x hx=>h x (by rw[List.take_succ_cons];exact List.mem_cons_of_mem _ hx)) hp]
theorem nG{α:Type}{p:α->Bool}:∀{L:List α} {i:Nat} (hi:i<L.length),(∀x∈L.take i,p x=false)->p L[i]=true->L.find? p=some L[i]
 | a::L,0,_,_,hp=>by
  have:p a=true:=hp;simp[this]
 | a::L,i+1,hi,h,hp=>by
  have A:p a=false:=h a (by simp);rw[List.find?_cons,A];simp only[List.getElem_cons_succ];exact nG (by simpa using hi) (fun x hx=>h x (by rw[List.take_succ_cons];exact List.mem_cons_of_mem _ hx)) hp
theorem jE{α:Type}{enc:α->List Value}{k:Nat}(B:∀x,(enc x).length=k){e:TypeId}{base gl sl g c i j:Nat}{L:List α}{M vs:List Value}{N:TypeId}{x':α}{u:Value}{w A:World}(O:eF w A)(C:base<=g)(Q:Blk A g M e)(D:L.length<=c)(E:c<=maxLen)(S:M.length=c*k)(F:M.take (L.length*k)=ah enc L)
  (hi:i<L.length) (T:j<k) (U:enc x'=(enc L[i]).set j u) (G:gl≠g) (H:Blk w gl vs N) (I:vs[sl]?=some (.slice (some ⟨g,0,none⟩) L.length c)) :
  bK enc k e base gl sl (.slice (some ⟨g,0,none⟩) L.length c) (L.set i x') w (A.setCell ⟨g,i*k+j,none⟩ u):=by
 have J:Blk (A.setCell ⟨g,i*k+j,none⟩ u) gl vs N:=(H.below O).set_ne (p:=⟨g,i*k+j,none⟩) G _
 have K:Blk (A.setCell ⟨g,i*k+j,none⟩ u) g (M.set (i*k+j) u) e:=Q.set _ _
 refine⟨_,A.setCell ⟨g,i*k+j,none⟩ u,(iw J I).symm,dC O ?_,?_,.inl rfl⟩
 .rw [setCell_eq_setRow A g (i*k+j) M.toArray _ (0,0) _ Q]
  exact cZ (fD _ _)
 .rw [List.length_set]
  refine dG C K D E (by rw[List.length_set,S]) ?_;have e:M=ah enc L++M.drop (L.length*k):=by rw[<-F,List.take_append_drop]
  have h:=rows_set B (R:=M.drop (L.length*k)) hi T U;rw[<-e] at h;rw[h,List.take_append_of_le_length (by rw[aJ B,List.length_set];exact eH),List.take_of_length_le (by rw[aJ B,List.length_set];exact eH)]
theorem seq1_any(x:Led.Node)(n:Txt)(go:Nat)(W:World)(B:W.cell? ⟨go,2,none⟩=some (.string (str n))) :
  Calls prog 115 (#[.agg (ae x).toArray]++#[.pointer (some ⟨go,0,none⟩)]) W fun e w'=>e=.returned (.bool (x.name==n))/\eF W w':=by
 have A:=World.block_lt_of_cell? W _ B
 simp only[] at A
 have C:∀o,eF W (W.alloc o):=fun o=>eI
 show Calls prog 115 #[.agg #[.string (str x.name),.string (str x.key),.int .i64 x.expires,.int .i64 x.seq,.string (str x.doc)],.pointer (some ⟨go,0,none⟩)] W _
 go_enter func115,ntmps115
 go_wp2_with fail
 go_ret
 exact⟨by first|rfl|simp,C _⟩
def jq(base gl:Nat)(vN:Value)(N:List Led.Node)(s:Txt)(n:Int)(w:World)(x:Ending)(w':World):Prop:=match N.find? (fun d=>d.name==s) with
 | none=>x=.returned (.int .i64 7)/\eF w w'
 | some d=>if n<=d.seq||n > 1099511627776 then x=.returned (.int .i64 22)/\eF w w'
  else x=.returned (.int .i64 0)/\bK ae 5 40 base gl 1 vN (dH (fun d=>d.name==s) (fun d=>{ d with seq:=n }) N) w w'
theorem seq_any(gl:Nat)(ops vs:List Value)(s:Txt)(n:Int)(N:List Led.Node)(base:Nat)(vN:Value)(w:World)(hN:N.length<=1000)(r:ops[1]?=some (.int .i64 n))(Ae:ops[2]?=some (.string (str s)))
  (Q:Blk w gl vs 30) (h1:vs[1]?=some vN) (H:w.ownsRow base 40 5 vN N.length (ah ae N)) (Af:vN.ownBlock≠some gl) :
  Calls prog 55 #[.pointer (some ⟨gl,0,none⟩),.agg ops.toArray] w (jq base gl vN N s n w):=by
 obtain⟨A,c,rfl,Ag,Ao⟩:=aj H
 obtain⟨W,hW⟩:=eC (w.alloc (.cells ops.toArray 47))
 have b0:Blk W w.heap.size ops 47:=by rw[<-hW];exact Blk.new w _ _
 have G:eF w W:=eG hW
 have t:=Q.below G
 have cN:W.cell? ⟨gl,1,none⟩=some (.slice A N.length c):=(t.cell 1).trans h1
 have E:=rz 115 #[.pointer (some ⟨w.heap.size,0,none⟩)] (enters_of func115 (by kernel_rfl) rfl) (fun d=>d.name==s) A N.length c N W (Vs.of_own (af H G eH)) (by omega) (fun u x _ O=>seq1_any x s w.heap.size u (((b0.below O).cell 2).trans Ae))
 have HW:=eA hW
 clear hW
 obtain⟨CS,y⟩:=eC (ops.toArray)
 rw[y] at HW ⊢
 clear y
 go_enter func55,ntmps55
 go_upto_region 1 with fail
 rw[HW.out]
 clear HW
 rcases bh (fun d:Led.Node=>d.name==s) N with⟨hi,z⟩|⟨i,R,hi,z,k,l⟩
 .rw [hi] at E
  have HR:Hid (∀w',eF w w'->jq base gl (.slice A N.length c) N s n w (.returned (.int .i64 7)) w'):=eA (fun w' h=>by
   unfold jq;have:N.find? (fun d=>d.name==s)=none:=by
    rw[List.find?_eq_none];intro x hx;rw[List.any_eq_false] at z;exact z x hx
   rw[this];exact⟨rfl,h⟩)
  clear hi z;go_wp2_with fail
  refine E.mono ?_;rintro e C ⟨rfl,S⟩;go_wp2;go_ret;exact HR.out _ (G.trans (S.mono G.size))
 .rw [hi] at E
  rcases aS H with⟨_,h0,_⟩|⟨g,c',M,he,Ah,Ap,hB,An,Aa,hM,Ab⟩
  .omega
  injection he with he1 _ he3
  subst he1 he3;have Ai:gl≠g:=fun e=>Af (by simp[Value.ownBlock,e]);obtain⟨d,hd⟩:=eC (N[i]);have D:N.find? (fun d=>d.name==s)=some d:=by rw[nG R l k,hd]
  have V:dH (fun d:Led.Node=>d.name==s) (fun d=>{ d with seq:=n }) N=N.set i { d with seq:=n }:=by rw[fY R l k,hd]
  have I:Hid ((n<=d.seq||n > 1099511627776)=true->∀w',eF w w'->jq base gl (.slice (some ⟨g,0,none⟩) N.length c) N s n w (.returned (.int .i64 22)) w'):=eA (fun h w' O=>by
   unfold jq;rw[D];simp only[h,if_true];exact⟨trivial,O⟩)
  have H0:Hid ((n<=d.seq||n > 1099511627776)=false->∀w',bK ae 5 40 base gl 1 (.slice (some ⟨g,0,none⟩) N.length c) (N.set i { d with seq:=n }) w w'->jq base gl (.slice (some ⟨g,0,none⟩) N.length c) N s n w (.returned (.int .i64 0)) w'):=eA (fun h w' O=>by
   unfold jq;rw[D,V];simp only[h,Bool.false_eq_true,if_false];exact⟨trivial,O⟩)
  have J:∀u,Blk u g M 40->u.cell? ⟨g,i*5+3,none⟩=some (.int .i64 d.seq):=fun u O=>by
   have Aj:i*5+3<N.length*5:=by omega
   have h:=kr aM (enc:=ae) R (j:=3) (by omega);rw[O.cell];rw[<-Ab,List.getElem?_take,if_pos Aj,hd] at h;exact h
  have T:Hid (∀C,eF w C->bK ae 5 40 base gl 1 (.slice (some ⟨g,0,none⟩) N.length c) (N.set i { d with seq:=n }) w (C.setCell ⟨g,i*5+3,none⟩ (.int .i64 n))):=eA (fun C O =>
   jE aM O Ah (hB.below O) Ag Aa hM Ab R (by omega) (by rw[hd];rfl) Ai Q h1)
  have Aq:¬((i:Int)<0):=by omega
  have Ar:(i:Int)<(N.length:Int):=by omega
  clear hi z k l D V hd;go_wp2_with fail
  refine E.mono ?_;rintro e C ⟨rfl,S⟩;have B:eF w C:=G.trans (S.mono G.size);have b1:=b0.below S;have X:=Q.below B;have Ak:=hB.below B;have f1:∀p,(ab C p).cell? ⟨gl,1,none⟩=some (.slice (some ⟨g,0,none⟩) N.length c):=fun p=>(ap (a:=⟨gl,1,none⟩) X.lt p).trans ((X.cell 1).trans h1);have f2:∀p,(ab C p).cell? ⟨w.heap.size,1,none⟩=some (.int .i64 n):=fun p=>(ap (a:=⟨w.heap.size,1,none⟩) b1.lt p).trans ((b1.cell 1).trans r);have f3:∀p,(ab C p).cell? ⟨g,i*5+3,none⟩=some (.int .i64 d.seq):=fun p=>J _ (Ak.below (aa C p));generalize d.seq=sq at *;by_cases K:n<=sq
  .have Ac:decide (n<=sq)=true:=decide_eq_true K
   have L:=I.out (by simp[K]);have o:=eA L;clear L I H0 J T;go_wp2_with fail
   refine au ?_;repeat (go_big_quiet_step (fail))
   refine wpQuiet_nil ?_;rintro _ ⟨Y,rfl⟩;have q:=aa C Y;clear f1 f2 f3;generalize ab C Y=m at *;go_wp2_with fail
   go_ret;exact o.out _ (B.trans (q.mono B.size))
  .by_cases U:n > 1099511627776
   .have Ac:decide (n<=sq)=false:=decide_eq_false K
    have Al:decide ((1099511627776:Int)<n)=true:=decide_eq_true U;have L:=I.out (by simp[U]);have o:=eA L;clear L I H0 J T;go_wp2_with fail
    refine au ?_;repeat (go_big_quiet_step (fail))
    refine wpQuiet_nil ?_;rintro _ ⟨Y,rfl⟩;have q:=aa C Y;clear f1 f2 f3;generalize ab C Y=m at *;go_wp2_with fail
    go_ret;exact o.out _ (B.trans (q.mono B.size))
   .have Ac:decide (n<=sq)=false:=decide_eq_false K
    have Al:decide ((1099511627776:Int)<n)=false:=decide_eq_false U;have h0:=H0.out (by simp[K,U]);have o:=eA h0;clear h0 I H0;go_wp2_with fail
    refine au ?_;repeat (go_big_quiet_step (fail))
    refine wpQuiet_nil ?_;rintro _ ⟨Y,rfl⟩;have q:=aa C Y;clear f1 f2 f3;generalize ab C Y=m at *;have F:eF w m:=B.trans (q.mono B.size);have b2:=b1.below q;have Z:=Q.below F;have As:=hB.below F;have f1:∀p,(ab m p).cell? ⟨gl,1,none⟩=some (.slice (some ⟨g,0,none⟩) N.length c):=fun p=>(ap (a:=⟨gl,1,none⟩) Z.lt p).trans ((Z.cell 1).trans h1);have f2:∀p,(ab m p).cell? ⟨w.heap.size,1,none⟩=some (.int .i64 n):=fun p=>(ap (a:=⟨w.heap.size,1,none⟩) b2.lt p).trans ((b2.cell 1).trans r);go_wp2_with fail
    refine bz 9 ?_;simp only[List.take_succ_cons,List.take_zero,List.drop_succ_cons,List.drop_zero];repeat (go_big_quiet_step (fail))
    refine wpQuiet_nil ?_;rintro _ ⟨py,rfl⟩;have g3:=aa m py;clear f1 f2;generalize ab m py=w3 at *;have b:eF w w3:=F.trans (g3.mono F.size);have Ad:=hB.below b;have Au:=J _ Ad;have Av:w3.frozen? ⟨g,i*5+3,none⟩=false:=Ad.froz _;have f:=o.out _ (T.out w3 b);have Am:=eA f;clear f o T J;go_wp2_with fail
    go_ret;exact Am.out
end
section
open Go.RowKit Mem Led
theorem kz(n:Led.Key):∀u∈ar n,u.oneCell'=true:=by
 intro u A
 simp[ar,tx,nm] at A
 rcases A with rfl|rfl|rfl|rfl<;>rfl
theorem state1_any(x:Led.Key)(n:Int)(go:Nat)(W:World)(B:W.cell? ⟨go,0,none⟩=some (.int .i64 n)) :
  Calls prog 147 (#[.agg (ar x).toArray]++#[.pointer (some ⟨go,0,none⟩)]) W fun e w'=>e=.returned (.bool (x.state==n))/\eF W w':=by
 have A:=World.block_lt_of_cell? W _ B
 simp only[] at A
 have C:∀o,eF W (W.alloc o):=fun o=>eI
 show Calls prog 147 #[.agg #[.string (str x.kid),.string (str x.seed),.int .i64 x.state,.int .i64 x.since],.pointer (some ⟨go,0,none⟩)] W _
 go_enter func147,ntmps147
 go_wp2_with fail
 go_ret
 exact⟨by first|rfl|simp,C _⟩
theorem uH(x:Led.Key)(n:Txt)(go:Nat)(W:World)(B:W.cell? ⟨go,17,none⟩=some (.string (str n))) :
  Calls prog 103 (#[.agg (ar x).toArray]++#[.pointer (some ⟨go,0,none⟩)]) W fun e w'=>e=.returned (.bool (x.kid==n))/\eF W w':=by
 have A:=World.block_lt_of_cell? W _ B
 simp only[] at A
 have C:∀o,eF W (W.alloc o):=fun o=>eI
 show Calls prog 103 #[.agg #[.string (str x.kid),.string (str x.seed),.int .i64 x.state,.int .i64 x.since],.pointer (some ⟨go,0,none⟩)] W _
 go_enter func103,ntmps103
 go_wp2_with fail
 go_ret
 exact⟨by first|rfl|simp,C _⟩
theorem oh(gl:Nat)(vs:List Value)(n:Int)(K:List Led.Key)(base:Nat)(vK:Value)(w:World)(Q:K.length<=1000)(F:Blk w gl vs 30)(H:vs[4]?=some vK)(C:w.ownsRow base 42 4 vK K.length (ah ar K)) :
  Calls prog 101 #[.pointer (some ⟨gl,0,none⟩),.int .i64 n] w fun e w'=>e=.returned (.int .i64 (aX (fun k=>k.state==n) K))/\eF w w':=by
 obtain⟨A,c,rfl,I,J⟩:=aj C
 obtain⟨W,E⟩:=eC (w.alloc (.cells #[.int .i64 n] 3))
 have L:Blk W w.heap.size [.int .i64 n] 3:=by rw[<-E];exact Blk.new w [.int .i64 n] _
 have B:eF w W:=eG E
 have R:W.cell? ⟨gl,4,none⟩=some (.slice A K.length c):=((F.below B).cell 4).trans H
 have D:=mB 147 #[.pointer (some ⟨w.heap.size,0,none⟩)] (enters_of func147 (by kernel_rfl) rfl) (fun k=>k.state==n) A K.length c K W (Vs.of_own (af C B eH)) (by omega) (fun M x _ N=>state1_any x n w.heap.size M ((L.below N).cell 0))
 generalize aX (fun k:Led.Key=>k.state==n) K=r at *
 have O:=eA E
 clear E
 go_enter func101,ntmps101
 go_upto_region 1 with fail
 rw[O.out]
 go_wp2_with fail
 refine D.mono ?_
 rintro e S ⟨rfl,G⟩
 go_wp2
 go_ret
 exact⟨rfl,B.trans (G.mono B.size)⟩
theorem op_key(o:Led.Op)(sv kv:Value):∀j u,(ar o.key)[j]?=some u->(ac o sv kv)[17+j]?=some u:=by
 intro j u h
 match j,h with
 | 0,h=>exact h
 | 1,h=>exact h
 | 2,h=>exact h
 | 3,h=>exact h
 | j+4,h=>simp[ar] at h
theorem rj{w:World}{g:Nat}{o:Led.Op}{sv kv:Value}(h:Blk w g (ac o sv kv) 47):(nv (.pointer (some ⟨g,17,none⟩))).run prog w=.ok (.agg (ar o.key).toArray) w :=
 cz underlying42 rfl pI rfl fun j u A=>by rw[h.cell];exact op_key o sv kv j u A
theorem idx_neg{α:Type}(p:α->Bool)(L:List α):(aX p L ≥ 0/\L.any p=true)\/(aX p L = -1/\L.any p=false):=by
 rcases bh p L with⟨B,A⟩|⟨i,_,B,A,_⟩
 .exact .inr ⟨B,A⟩
 .exact .inl ⟨by omega,A⟩
def fu(base gl:Nat)(vK:Value)(K:List Led.Key)(k:Led.Key)(w:World)(x:Ending)(w':World):Prop :=
 if !dx k||!(k.state==1) then x=.returned (.int .i64 1)/\eF w w'
 else if K.any (fun j=>j.state==1)||K.any (fun j=>j.kid==k.kid) then x=.returned (.int .i64 8)/\eF w w'
 else if 8<=K.length then x=.returned (.int .i64 6)/\eF w w'
 else x=.returned (.int .i64 0)/\bK ar 4 42 base gl 4 vK (K++[k]) w w'
theorem prepare_any(gl:Nat)(o:Led.Op)(sv kv:Value)(vs:List Value)(K:List Led.Key)(base:Nat)(vK:Value)(w:World)(hK:K.length<=8)(X:base<=w.heap.size)
  (Q:Blk w gl vs 30) (n:vs[4]?=some vK) (F:w.ownsRow base 42 4 vK K.length (ah ar K)) (t:vK.ownBlock≠some gl) :
  Calls prog 50 #[.pointer (some ⟨gl,0,none⟩),.agg (ac o sv kv).toArray] w (fu base gl vK K o.key w):=by
 obtain⟨A,c,rfl,Ag,Ah⟩:=aj F
 obtain⟨W,q⟩:=eC (w.alloc (.cells (ac o sv kv).toArray 47))
 have u:Blk W w.heap.size (ac o sv kv) 47:=by rw[<-q];exact Blk.new w _ _
 have N:eF w W:=eG q
 have y:=rj u
 have C:=key_any o.key W
 have z:=eA q
 clear q
 obtain⟨CS,d⟩:=eC ((ac o sv kv).toArray)
 rw[d] at z ⊢
 clear d
 go_enter func50,ntmps50
 go_upto_region 1 with fail
 rw[z.out]
 clear z
 by_cases B:(!dx o.key||!(o.key.state==1))=true
 .have O:Hid (∀w',eF w w'->fu base gl (.slice A K.length c) K o.key w (.returned (.int .i64 1)) w'):=eA (fun w' h=>by unfold fu;rw[if_pos B];exact⟨rfl,h⟩)
  cases R:dx o.key
  .rw [R] at C
   clear B R;go_wp2_with fail
   refine C.mono ?_;rintro e Z ⟨rfl,I⟩;go_wp2;go_ret;exact O.out _ (N.trans (I.mono N.size))
  .have hs:¬o.key.state=1:=by
    intro e;rw[R,e] at B;simp at B
   rw[R] at C;clear B R;go_wp2_with fail
   refine C.mono ?_;rintro e Z ⟨rfl,I⟩;have Aa:Z.cell? ⟨w.heap.size,19,none⟩=some (.int .i64 o.key.state):=(u.below I).cell 19;go_wp2_with fail
   go_ret;exact O.out _ (N.trans (I.mono N.size))
 .have R:dx o.key=true:=by
   cases h:dx o.key
   .rw [h] at B;simp at B
   .rfl
  have hs:o.key.state=1:=by
   rw[R] at B;simpa using B
  rw[R] at C;have G:Hid (∀x w',(if K.any (fun j=>j.state==1)||K.any (fun j=>j.kid==o.key.kid) then x=.returned (.int .i64 8)/\eF w w'
    else if 8<=K.length then x=.returned (.int .i64 6)/\eF w w'
    else x=.returned (.int .i64 0)/\bK ar 4 42 base gl 4 (.slice A K.length c) (K++[o.key]) w w')->fu base gl (.slice A K.length c) K o.key w x w'):=eA (fun x w' h=>by unfold fu;rw[if_neg B];exact h)
  clear B R;go_wp2_with fail
  refine C.mono ?_;rintro e Z ⟨rfl,I⟩;have D:eF w Z:=N.trans (I.mono N.size);have b1:=u.below I;have f:=Q.below D;have Aa:Z.cell? ⟨w.heap.size,19,none⟩=some (.int .i64 1):=by rw[b1.cell 19,<-hs];rfl
  have S:=oh gl vs 1 K base (.slice A K.length c) Z (by omega) f n (af F D eH);clear y C;rcases idx_neg (fun k:Led.Key=>k.state==1) K with⟨hi,g⟩|⟨hi,g⟩
  .have O:Hid (∀w',eF w w'->fu base gl (.slice A K.length c) K o.key w (.returned (.int .i64 8)) w'):=eA (fun w' h=>G.out _ _ (by rw[g];exact⟨rfl,h⟩))
   generalize aX (fun k:Led.Key=>k.state==1) K=r at *;have Ab:decide (0<=r)=true:=decide_eq_true hi;clear g G;go_wp2_with fail
   refine S.mono ?_;rintro e s ⟨rfl,T⟩;go_wp2_with fail
   go_ret;exact O.out _ (D.trans (T.mono D.size))
  .have HA:=eA g
   have Ab:decide ((0:Int) <= -1)=false:=by decide
   rw[hi] at S;clear hi g;go_wp2_with fail
   refine S.mono ?_;rintro e s ⟨rfl,T⟩;have E:eF w s:=D.trans (T.mono D.size);have b2:=b1.below T;have i:=Q.below E;have cK:s.cell? ⟨gl,4,none⟩=some (.slice A K.length c):=(i.cell 4).trans n;have H:=hasKey_any 103 #[.pointer (some ⟨w.heap.size,0,none⟩)] (enters_of func103 (by kernel_rfl) rfl) (fun k=>k.kid==o.key.kid) A K.length c K s (Vs.of_own (af F E eH)) (by omega) (fun W' x _ hb=>uH x o.key.kid w.heap.size W' ((b2.below hb).cell 17))
   cases b:K.any (fun k=>k.kid==o.key.kid)
   .rw [b] at H
    have HK:=eA b;clear b;go_wp2_with fail
    refine H.mono ?_;rintro e Y ⟨rfl,U⟩;have J:eF w Y:=E.trans (U.mono E.size);have b3:=b2.below U;have V:=Q.below J;have Ac:Y.cell? ⟨gl,4,none⟩=some (.slice A K.length c):=(V.cell 4).trans n;by_cases h8:8<=K.length
    .have O:Hid (∀w',eF w w'->fu base gl (.slice A K.length c) K o.key w (.returned (.int .i64 6)) w'):=eA (fun w' h=>G.out _ _ (by rw[HA.out,HK.out];simp only[Bool.or_self,Bool.false_eq_true,if_false,if_pos h8];exact⟨trivial,h⟩))
     have Ad:(8:Int)<=(K.length:Int):=by omega
     clear G;go_wp2_with fail
     go_ret;exact O.out _ J
    .have O:Hid (∀w',bK ar 4 42 base gl 4 (.slice A K.length c) (K++[o.key]) w w'->fu base gl (.slice A K.length c) K o.key w (.returned (.int .i64 0)) w'):=eA (fun w' h=>G.out _ _ (by rw[HA.out,HK.out];simp only[Bool.or_self,Bool.false_eq_true,if_false,if_neg h8];exact⟨trivial,h⟩))
     have Ad:¬(8:Int)<=(K.length:Int):=by omega
     clear G HA HK H S hs;have f1:∀p,(ab Y p).cell? ⟨gl,4,none⟩=some (.slice A K.length c):=fun p=>(ap (a:=⟨gl,4,none⟩) V.lt p).trans Ac;have f2:∀p,(nv (.pointer (some ⟨w.heap.size,17,none⟩))).run prog (ab Y p)=.ok (.agg #[.string (str o.key.kid),.string (str o.key.seed),.int .i64 o.key.state,.int .i64 o.key.since]) (ab Y p):=fun p=>rj (b3.below (aa Y p));go_upto_region 7 with fail
     refine bq [0] [1,2,3,4,5,6] 7 [8,9,10,11] (ar o.key) 42 ?_;simp only[pick,List.getD_cons_zero,List.getD_cons_succ];repeat (go_big_quiet_step (fail))
     refine wpQuiet_nil ?_;repeat (go_big_quiet_step (fail))
     refine wpQuiet_nil ?_;refine⟨_,rfl,rfl,fun w4 Ae=>?_,fun gx w6 Af Ai l=>?_⟩
     .go_simp
      exact eR Ae
     .have M:=J.trans (Af.below.mono J.size)
      obtain⟨A',c',w7,m,Aj,Ak,hS⟩:=dQ (enc:=ar) (L:=K) (x:=o.key) (sl:=4) kC underlying27 (Nat.le_trans X M.size) (Q.below M) n t (af F M eH) rfl (by omega) (kz _) l;have HH:=eA (O.out _ (iI M hS));clear O hS l F f1 f2;go_wp2_with (at_builtin;refine Lib.wpList_append_run _ rfl _ _ _ _ rfl _ _ rfl rfl _ _ m ?_)
      (try rw[ak])
      (try go_wp2)
      go_ret;exact HH.out
   .rw [b] at H
    have O:Hid (∀w',eF w w'->fu base gl (.slice A K.length c) K o.key w (.returned (.int .i64 8)) w'):=eA (fun w' h=>G.out _ _ (by rw[b,Bool.or_true];exact⟨rfl,h⟩))
    clear b G;go_wp2_with fail
    refine H.mono ?_;rintro e Y ⟨rfl,U⟩;go_wp2_with fail
    go_ret;exact O.out _ (E.trans (U.mono E.size))
end
section
open Go.RowKit Mem Led
def iq(u v:Value):Prop:=u.ownBlock=none\/u.ownBlock≠v.ownBlock
section
variable {α:Type}{enc:α->List Value}{k:Nat}{e:TypeId}{base gl sl:Nat}{v:Value}{L':List α}{w w':World}
theorem dv{A:World}{B:Nat}{e':TypeId}{s n:Nat}{u x:Value}{xs:List Value}{a:Addr}(h:A.ownsRow B e' s u n xs)(C:u.ownBlock≠some a.block):(A.setCell a x).ownsRow B e' s u n xs:=by
 refine⟨h.1,?_⟩
 rcases h.2 with F|⟨b,cap,D,E,G,H,r⟩
 .exact .inl F
 .exact .inr ⟨b,cap,D,E,G,by
   rw[heap_setCell_other A a b x (fun h=>C (by rw[E];simp[Value.ownBlock,h]))]
   exact H,r⟩
theorem bK.opened(h:bK enc k e base gl sl v L' w w'){vs:List Value}{t:TypeId}(E:Blk w gl vs t)(D:v.ownBlock≠some gl) :
  ∃A,Blk w' gl (vs.set sl A) t/\w'.ownsRow base e k A L'.length (ah enc L')/\A.ownBlock≠some gl/\(A.ownBlock=v.ownBlock\/∃g,w.heap.size<=g/\A.ownBlock=some g):=by
 obtain⟨A,G,rfl,H,I,C⟩:=h
 have B:A.ownBlock≠some gl:=by
  rcases C with C|⟨g,J,C⟩
  .rw [C];exact D
  .rw [C]
   intro e;injection e with e
   have:=E.lt;omega
 have F:Blk G gl vs t:=by
  unfold Blk;rw[H.block gl E.lt (fun e=>D e.symm)];exact E
 exact⟨A,F.set sl A,dv I B,B,C⟩
theorem bK.keeps(h:bK enc k e base gl sl v L' w w'){B:Nat}{e':TypeId}{s n:Nat}{u:Value}{xs:List Value}(D:w.ownsRow B e' s u n xs)(A:iq u v)(C:u.ownBlock≠some gl):w'.ownsRow B e' s u n xs:=by
 obtain⟨F,G,rfl,E,H,I⟩:=h
 exact dv (D.kept E A) C
theorem bK.below(h:bK enc k e base gl sl v L' w w'){B:Nat}(C:B<=gl)(D:∀g,v.ownBlock=some g->B<=g)(G:B<=w.heap.size):Below B w w':=by
 obtain⟨H,E,rfl,A,I,J⟩:=h
 have F:Below B w E:=⟨A.os,A.tape,A.output,A.size,fun i hi=>A.block i (by omega) (fun e=>by have:=D i e.symm;omega)⟩
 exact F.setCell (p:=⟨gl,sl,none⟩) C _
theorem bK.blk(h:bK enc k e base gl sl v L' w w'){g:Nat}{cs:List Value}{t:TypeId}(B:Blk w g cs t)(C:v.ownBlock≠some g)(D:g≠gl):Blk w' g cs t:=by
 obtain⟨G,E,rfl,F,H,I⟩:=h
 have A:Blk E g cs t:=by
  unfold Blk;rw[F.block g B.lt (fun e=>C e.symm)];exact B
 exact A.set_ne (p:=⟨gl,sl,none⟩) D _
theorem bK.size(h:bK enc k e base gl sl v L' w w'):w.heap.size<=w'.heap.size:=by
 obtain⟨B,C,rfl,A,D,E⟩:=h
 have:=A.size
 simpa using this
end
def gv(base gl:Nat)(vN vB:Value)(N:List Led.Node)(A:List Txt)(s:Txt)(w:World)(x:Ending)(w':World):Prop :=
 if Ids.agent s then (if A.contains s then x=.returned (.int .i64 8)/\eF w w' else match put ord 8 s A with
  | none=>x=.returned (.int .i64 6)/\eF w w'
  | some L'=>x=.returned (.int .i64 0)/\∃B x',bK al 1 9 base gl 2 vB L' w B/\bL ae 5 40 base gl 1 vN N (fun n=>n.name==s) B x' w')
 else x=.returned (.int .i64 1)/\eF w w'
theorem ban_any(gl:Nat)(o:Led.Op)(sv kv:Value)(vs:List Value)(N:List Led.Node)(A:List Txt)(base:Nat)(vN vB:Value)(w:World)(hz:o.name.length<=9223372036854775807)(hN:N.length<=4)(hB:A.length<=8)(hr:aY ord A)(T:base<=w.heap.size)
  (J:Blk w gl vs 30) (h1:vs[1]?=some vN) (h2:vs[2]?=some vB) (Z:w.ownsRow base 40 5 vN N.length (ah ae N)) (b:vN.ownBlock≠some gl) (D:w.ownsRow base 9 1 vB A.length (ah al A)) (Q:vB.ownBlock≠some gl) (s:iq vN vB) :
  Calls prog 47 #[.pointer (some ⟨gl,0,none⟩),.agg (ac o sv kv).toArray] w (gv base gl vN vB N A o.name w):=by
 obtain⟨I,cB,rfl,Af,Ag⟩:=aj D
 obtain⟨W,q⟩:=eC (w.alloc (.cells (ac o sv kv).toArray 47))
 have b0:Blk W w.heap.size (ac o sv kv) 47:=by rw[<-q];exact Blk.new w _ _
 have K:eF w W:=eG q
 have c2:W.cell? ⟨w.heap.size,2,none⟩=some (.string (str o.name)):=b0.cell 2
 have G:=j4 o.name W hz
 have t:=eA q
 clear q
 obtain⟨CS,U⟩:=eC ((ac o sv kv).toArray)
 have c:=eA U
 rw[U] at t ⊢
 clear U
 go_enter func47,ntmps47
 go_upto_region 1 with fail
 rw[t.out]
 clear t
 cases L:Ids.agent o.name
 .have u:Hid (∀w',eF w w'->gv base gl vN (.slice I A.length cB) N A o.name w (.returned (.int .i64 1)) w'):=eA (fun w' h=>by unfold gv;rw[L];exact⟨rfl,h⟩)
  rw[L] at G;clear L;go_wp2_with fail
  refine G.mono ?_;rintro e E ⟨rfl,M⟩;go_wp2;go_ret;exact u.out _ (K.trans (M.mono K.size))
 .rw [L] at G
  go_wp2_with fail
  refine G.mono ?_;rintro e E ⟨rfl,M⟩;have r:=b0.below M;have C:eF w E:=K.trans (M.mono K.size);have R:=J.below C;have f1:∀p,(ab E p).cell? ⟨gl,2,none⟩=some (.slice I A.length cB):=fun p=>(ap (a:=⟨gl,2,none⟩) R.lt p).trans ((R.cell 2).trans h2);have f2:∀p,(ab E p).cell? ⟨w.heap.size,2,none⟩=some (.string (str o.name)):=fun p=>(ap (a:=⟨w.heap.size,2,none⟩) r.lt p).trans (r.cell 2);have V:Hid (∀p,Calls prog 90 #[.slice I A.length cB,.string (str o.name)] (ab E p) fun e w'=>e=.returned (.bool (A.contains o.name))/\Below (ab E p).heap.size (ab E p) w'):=eA fun p =>
   (kH I A.length cB A o.name _ (Ts.below (Ts.below (nX D) C) (aa E p)) (by omega)).mono fun e w' ⟨he,hw⟩=>⟨he,by rw[hw];exact Below.refl _ _⟩
  clear G
  cases F:A.contains o.name
  .rw [F] at V
   have x:Hid (put ord 8 o.name A=none->∀w',eF w w'->gv base gl vN (.slice I A.length cB) N A o.name w (.returned (.int .i64 6)) w'):=eA (fun S w' h=>by unfold gv;rw[L,F,S];exact⟨rfl,h⟩)
   have z:Hid (∀L',put ord 8 o.name A=some L'->∀w' E x',bK al 1 9 base gl 2 (.slice I A.length cB) L' w E->bL ae 5 40 base gl 1 vN N (fun n=>n.name==o.name) E x' w'->gv base gl vN (.slice I A.length cB) N A o.name w (.returned (.int .i64 0)) w'):=eA (fun L' S w' E x' h h'=>by unfold gv;rw[L,F,S];exact⟨rfl,E,x',h,h'⟩)
   clear F L;go_wp2_with fail
   refine au ?_;repeat (go_big_quiet_step (first|(go_at_call 90;exact aq (V.out _))|fail))
   refine wpQuiet_nil ?_;rintro _ ⟨d,rfl⟩;have f:=aa E d;clear f1 f2 V;generalize ab E d=g at *;have b2:=r.below f;have f3:∀p,(ab g p).cell? ⟨w.heap.size,2,none⟩=some (.string (str o.name)):=fun p=>(ap (a:=⟨w.heap.size,2,none⟩) b2.lt p).trans (b2.cell 2);go_wp2_with fail
   refine bz 5 ?_;simp only[List.take_succ_cons,List.take_zero,List.drop_succ_cons,List.drop_zero];repeat (go_big_quiet_step (fail))
   refine wpQuiet_nil ?_;rintro _ ⟨py,rfl⟩;have g3:eF E (ab g py):=f.trans ((aa g py).mono f.size);clear f3;generalize ab g py=w3 at *;have B:eF w w3:=C.trans (g3.mono C.size);have b3:=r.below g3;have H:=putStr_any gl 2 o.name A hr base (.slice I A.length cB) 8 w3 hB (by omega) vs 30 (J.below B) h2 (af D B eH) Q (Nat.le_trans T B.size);go_wp2_with fail
   refine H.mono ?_;intro e i h;have Aa:w.heap.size≠gl:=by have:=J.lt;omega
   unfold gy at h
   cases X:put ord 8 o.name A with
   | none =>
    rw[X] at h;obtain⟨rfl,Ab⟩:=h;have j:=eA (x.out X i (B.trans (Ab.mono B.size)));clear X x z H;go_wp2;(try rw[ak])
    (try go_wp2)
    go_ret;exact j.out
   | some L' =>
    rw[X] at h;obtain⟨rfl,k⟩:=h;obtain⟨v',l,_,Ae,Ah⟩:=k.opened (J.below B) Q;have m:=k.keeps (af Z B eH) s b;have b4:Blk i w.heap.size (ac o sv kv) 47:=k.blk b3 (fun e=>by have:=(D.lt _ e).2;omega) Aa
    have Ac:(vs.set 2 v')[1]?=some vN:=by rw[List.getElem?_set_ne (by omega)];exact h1
    have Ad:=eS b4 rfl;rw[c.out] at Ad;have O:=tR gl (ac o sv kv) (vs.set 2 v') o.name N base vN i (by omega) rfl l Ac m b (fun y _=>cX y);rw[c.out] at O;have j:Hid (∀x' w',bL ae 5 40 base gl 1 vN N (fun n=>n.name==o.name) i x' w'->gv base gl vN (.slice I A.length cB) N A o.name w (.returned (.int .i64 0)) w'):=eA (fun x' w' h=>z.out L' X w' i x' (iI B k) h);clear X x z H k;go_wp2_with fail
    (try rw[ak])
    (try go_wp2_with fail)
    refine O.mono ?_;intro e w5 Y;have HG:=eA (j.out e w5 Y);unfold bL at Y;by_cases S:N.any (fun n=>n.name==o.name)=true
    .rw [if_pos S] at Y
     obtain⟨rfl,_⟩:=Y;clear S j O;go_wp2;go_ret;exact HG.out
    .rw [if_neg S] at Y
     obtain⟨rfl,_⟩:=Y;clear S j O;go_wp2;go_ret;exact HG.out
  .have u:Hid (∀w',eF w w'->gv base gl vN (.slice I A.length cB) N A o.name w (.returned (.int .i64 8)) w'):=eA (fun w' h=>by unfold gv;rw[L,F];exact⟨rfl,h⟩)
   rw[F] at V;clear F L;go_wp2_with fail
   refine au ?_;repeat (go_big_quiet_step (first|(go_at_call 90;exact aq (V.out _))|fail))
   refine wpQuiet_nil ?_;rintro _ ⟨d,rfl⟩;have f:=aa E d;clear f1 f2 V;generalize ab E d=g at *;go_wp2_with fail
   go_ret;exact u.out _ (C.trans (f.mono C.size))
end
section
open Go.RowKit Mem Led
theorem fp(B:Nat)(w:World)(k:Nat):Below B w (w.drewN k):=⟨rfl,rfl,rfl,eH,fun _ _=>rfl⟩
theorem two_new(w:World)(xs ys:List Value)(t u:TypeId):∃W,(w.alloc (.cells xs.toArray t)).alloc (.cells ys.toArray u)=W/\Blk W w.heap.size xs t/\Blk W (w.heap.size+1) ys u/\eF w W :=
 ⟨_,rfl,(Blk.new w xs t).alloc _,by have:=Blk.new (w.alloc (.cells xs.toArray t)) ys u;simpa using this,eI.alloc (by simp) _⟩
def fC(w:World)(p:Prop)(e:Ending)(w':World):Prop:=∃r,e=.returned (.bool r)/\(r=true↔p)/\eF w w'
theorem fC.no{w w':World}{p:Prop}(h:Hid (¬p))(A:eF w w'):fC w p (.returned (.bool false)) w':=⟨false,rfl,⟨fun e=>absurd e (by simp),fun e=>absurd e h.out⟩,A⟩
theorem fC.yes{w w':World}{p:Prop}(h:Hid p)(A:eF w w'):fC w p (.returned (.bool true)) w':=⟨true,rfl,⟨fun _=>h.out,fun _=>rfl⟩,A⟩
theorem fH{α:Type}{L M:List α}{k:Nat}(h:L.take k=M.take k)(A:k<L.length)(B:k<M.length)(C:L[k]=M[k]):L.take (k+1)=M.take (k+1):=by
 rw[List.take_succ_eq_append_getElem A,List.take_succ_eq_append_getElem B,h,C]
theorem iO{α:Type}{L M:List α}{n:Nat}(h:L.take n=M.take n)(A:L.length=n)(B:M.length=n):L=M:=by
 rwa [List.take_of_length_le (by omega),List.take_of_length_le (by omega)] at h
theorem bsame_any(d H:Txt)(m L:Int)(A:Option Addr)(n c:Nat)(K:List Led.Jwk)(I:Option Addr)(n' N:Nat)(K':List Led.Jwk)(w:World)(h:Es aN 2 w A n K)(l:Es aN 2 w I n' K')(hn:n<=9223372036854775807)(Ab:n'<=9223372036854775807) :
  Calls prog 31 #[.agg #[tx d,nm m,.slice A n c],.agg #[tx H,nm L,.slice I n' N]] w (fC w (d=H/\m=L/\K=K')):=by
 obtain⟨p,M⟩:∃p:Prop,Hid (p=(d=H/\m=L/\K=K')):=⟨_,eA rfl⟩
 rw[<-M.out]
 have O:=h.len cG (by decide)
 have J:=l.len cG (by decide)
 obtain⟨W,o,V,X,E⟩:=two_new w [tx d,nm m,.slice A n c] [tx H,nm L,.slice I n' N] 45 45
 have c0:W.cell? ⟨w.heap.size,0,none⟩=some (.string (str d)):=V.cell 0
 have c1:W.cell? ⟨w.heap.size,1,none⟩=some (.int .i64 m):=V.cell 1
 have c2:W.cell? ⟨w.heap.size,2,none⟩=some (.slice A n c):=V.cell 2
 have e0:W.cell? ⟨w.heap.size+1,0,none⟩=some (.string (str H)):=X.cell 0
 have e1:W.cell? ⟨w.heap.size+1,1,none⟩=some (.int .i64 L):=X.cell 1
 have e2:W.cell? ⟨w.heap.size+1,2,none⟩=some (.slice I n' N):=X.cell 2
 have q:=eA o
 simp only[tx,nm] at q
 clear o
 unfold tx nm
 go_enter func31,ntmps31
 go_upto_region 1 with fail
 rw[q.out]
 by_cases hd:d=H
 .subst hd
  have Y:(d==d)=true:=by rw[beq_iff_eq]
  by_cases r:m=L
  .subst r
   by_cases Q:n=n'
   .subst Q
    have h2:=h.below E;have Z:=l.below E;go_wp2_with fail
    clear c0 c1 c2 e0 e1 e2;go_loopw [5] (fun i wr=>∃k:Nat,k<=n/\i=.int .i64 k/\Hid (K.take k=K'.take k)/\eF w wr/\Blk wr w.heap.size [tx d,nm m,.slice A n c] 45/\Blk wr (w.heap.size+1) [tx d,nm m,.slice I n N] 45/\Es aN 2 wr A n K/\Es aN 2 wr I n K') (fun i _=>n-(intOf i).toNat)
    case atStart=>exact⟨0,by omega,rfl,eA rfl,E,V,X,h2,Z⟩
    case round =>
     obtain⟨k,hk,rfl,s,b,t,u,y,z⟩:=hrel;have k2:wr.cell? ⟨w.heap.size,2,none⟩=some (.slice A n c):=t.cell 2;have l2:wr.cell? ⟨w.heap.size+1,2,none⟩=some (.slice I n N):=u.cell 2;by_cases Ac:k<n
     .have R:k<K.length:=by omega
      have S:k<K'.length:=by omega
      obtain⟨T,U,rfl,Aa,C⟩:=y.lit cG (by decide) R;obtain⟨F,G,rfl,f,B⟩:=z.lit cG (by decide) S;have p0:wr.cell? ⟨T,U+k*2,none⟩=some (.string (str K[k].kid)):=C 0 _ rfl;have p1:wr.cell? ⟨T,U+k*2+1,none⟩=some (.string (str K[k].x)):=by rw[Nat.add_assoc];exact C 1 _ rfl
      have q0:wr.cell? ⟨F,G+k*2,none⟩=some (.string (str K'[k].kid)):=B 0 _ rfl;have q1:wr.cell? ⟨F,G+k*2+1,none⟩=some (.string (str K'[k].x)):=by rw[Nat.add_assoc];exact B 1 _ rfl
      have g:=fun W=>neq_jwk K[k] K'[k] W;unfold aN tx at g;clear C B
      cases D:jwkEq K[k] K'[k]
      .have hx:Hid (¬K=K'):=eA (fun e=>by subst e;rw[tD.2 rfl] at D;cases D)
       rw[D] at g;generalize K[k].kid=s1 at *;generalize K[k].x=s2 at *;generalize K'[k].kid=s3 at *;generalize K'[k].x=s4 at *;have hi:(k:Int)<(n:Int):=by omega
       clear D;go_wp2_with fail
       go_quiet (fail)
       go_wp2;go_ret;exact .no (eA fun e=>hx.out (M.out.mp e).2.2) (b.trans (fp _ _ _))
      .have j:=eA (fH s.out R S (tD.1 D))
       rw[D] at g;generalize K[k].kid=s1 at *;generalize K[k].x=s2 at *;generalize K'[k].kid=s3 at *;generalize K'[k].x=s4 at *;have hi:(k:Int)<(n:Int):=by omega
       clear D;go_wp2_with fail
       go_quiet (fail)
       go_wp2;go_roundw
       case rel=>exact⟨k+1,by omega,by go_num,j,b.trans (fp _ _ _),t.below (fp _ _ _),u.below (fp _ _ _),y.below (fp _ _ _),z.below (fp _ _ _)⟩
       case measure=>simp[intOf];omega
     .obtain rfl:k=n:=by omega
      have hx:=iO s.out O J;have HX:=eA hx;clear hx;go_wp2;go_ret;exact .yes (eA (M.out.mpr (by simp[HX.out]))) b
   .have hx:Hid (¬K=K'):=eA (fun e=>Q (by subst e;omega))
    go_wp2_with fail
    go_ret;exact .no (eA fun e=>hx.out (M.out.mp e).2.2) E
  .go_wp2_with fail
   go_ret;exact .no (eA fun e=>r (M.out.mp e).2.1) E
 .have Y:(d==H)=false:=by rw[beq_eq_false_iff_ne];exact hd
  go_wp2_with fail
  go_ret;exact .no (eA fun e=>hd (M.out.mp e).1) E
end
section
open Go.RowKit Mem Led
theorem neq_node(a b:Led.Node)(w:World):(Go.binOp .neq 40 (.agg (ae a).toArray) (.agg (ae b).toArray)).run prog w=.ok (.bool (!qQ a b)) w:=by
 have u3:=underlying9
 have G:=underlying3
 have H:=underlying4
 have A:prog.underlying 40=some (.struct (prog.fieldsOf 40)):=by kernel_rfl
 have B:prog.stoodInHeld 40=false:=by kernel_rfl
 unfold qQ
 simp only[ae,tx,nm]
 rw[run_neq_struct,show (10000:Nat)=9999+1 from rfl,run_equalIn_agg w 9999 40 _ _ A B]
 simp only[Program.fieldsOf,underlying40]
 go_simp
 by_cases h0:a.name=b.name<;>by_cases C:a.key=b.key<;>by_cases D:a.expires=b.expires<;>by_cases E:a.seq=b.seq<;>by_cases F:a.doc=b.doc<;>simp[h0,C,D,E,F]
theorem neq_join(a b:Led.Join)(w:World):(Go.binOp .neq 38 (.agg (vq a).toArray) (.agg (vq b).toArray)).run prog w=.ok (.bool (!ru a b)) w:=by
 have u3:=underlying9
 have F:=underlying3
 have G:=underlying4
 have A:prog.underlying 38=some (.struct (prog.fieldsOf 38)):=by kernel_rfl
 have B:prog.stoodInHeld 38=false:=by kernel_rfl
 unfold ru
 simp only[vq,tx,nm]
 rw[run_neq_struct,show (10000:Nat)=9999+1 from rfl,run_equalIn_agg w 9999 38 _ _ A B]
 simp only[Program.fieldsOf,underlying38]
 go_simp
 by_cases h0:a.text=b.text<;>by_cases C:a.name=b.name<;>by_cases D:a.expires=b.expires<;>by_cases E:a.used=b.used<;>simp[h0,C,D,E]
theorem neq_key(a b:Led.Key)(w:World):(Go.binOp .neq 42 (.agg (ar a).toArray) (.agg (ar b).toArray)).run prog w=.ok (.bool (!keyEq a b)) w:=by
 have u3:=underlying9
 have F:=underlying3
 have G:=underlying4
 have A:prog.underlying 42=some (.struct (prog.fieldsOf 42)):=by kernel_rfl
 have B:prog.stoodInHeld 42=false:=by kernel_rfl
 unfold keyEq
 simp only[ar,tx,nm]
 rw[run_neq_struct,show (10000:Nat)=9999+1 from rfl,run_equalIn_agg w 9999 42 _ _ A B]
 simp only[Program.fieldsOf,underlying42]
 go_simp
 by_cases h0:a.kid=b.kid<;>by_cases C:a.seed=b.seed<;>by_cases D:a.state=b.state<;>by_cases E:a.since=b.since<;>simp[h0,C,D,E]
theorem entry_eq{a b:Led.Entry}(h0:a.n=b.n)(A:a.path=b.path)(B:a.parent=b.parent)(C:a.ttl=b.ttl)(D:a.sels=b.sels):a=b:=by
 cases a;cases b;simp_all
theorem bundle_eq{a b:Led.Bundle}(h0:a.domain=b.domain)(A:a.number=b.number)(B:a.keys=b.keys):a=b:=by
 cases a;cases b;simp_all
theorem ledger_eq{a b:Led.Ledger}(h0:a.entries=b.entries)(A:a.nodes=b.nodes)(B:a.bans=b.bans)(C:a.joins=b.joins)(D:a.keys=b.keys)(E:a.bundles=b.bundles):a=b:=by
 cases a;cases b;simp_all
theorem mE{β:Type}{E:List (β × Value)}{L:List β}(h:E.map Prod.fst=L){k:Nat}(B:k<E.length)(A:k<L.length):L[k]=E[k].1:=by
 subst h
 simp
end
section
open Go.RowKit Mem Led
end
section
open Go.RowKit Mem Led
theorem eqs_any(A:Option Addr)(n c:Nat)(L:List Txt)(H:Option Addr)(n' Y:Nat)(M:List Txt)(w:World)(h:Ts w A n L)(Q:Ts w H n' M)(g:n<=9223372036854775807)(Z:n'<=9223372036854775807) :
  Calls prog 130 #[.slice A n c,.slice H n' Y] w fun e w'=>e=.returned (.bool (decide (L=M)))/\eF w w':=by
 have R:=h.len
 have I:=Q.len
 by_cases D:n=n'
 .subst D
  go_enter func130,ntmps130
  go_wp2;go_loopw [13,5] (fun i _ wr=>∃k:Nat,k<=n/\i=.int .i64 k/\Hid (L.take k=M.take k)/\eF w wr/\Ts wr A n L/\Ts wr H n M) (fun i _ _=>n-(intOf i).toNat)
  case atStart=>exact⟨0,by omega,rfl,eA rfl,Below.refl _ _,h,Q⟩
  case round =>
   obtain⟨k,j,rfl,S,J,T,U⟩:=hrel;by_cases b:k<n
   .have E:k<L.length:=by omega
    have F:k<M.length:=by omega
    obtain⟨d,f,rfl,K⟩:=T.lit E;obtain⟨V,X,rfl,C⟩:=U.lit F;by_cases B:L[k]=M[k]
    .have N:=eA (fH S.out E F B)
     rw[<-B] at C;generalize L[k]=s at *;have O:(s==s)=true:=by rw[beq_iff_eq]
     have hi:(k:Int)<(n:Int):=by omega
     clear B;go_wp2_with fail
     go_quiet (fail)
     go_wp2;go_roundw
     case rel=>exact⟨k+1,by omega,by go_num,N,J.trans (fp _ _ _),Ts.below T (fp _ _ _),Ts.below U (fp _ _ _)⟩
     case measure=>simp[intOf];omega
    .have G:¬L=M:=fun e=>B (by subst e;rfl)
     have hd:decide (L=M)=false:=decide_eq_false G;have O:(L[k]==M[k])=false:=by rw[beq_eq_false_iff_ne];exact B
     generalize L[k]=s at *;generalize M[k]=l at *;have hi:(k:Int)<(n:Int):=by omega
     clear B G;go_wp2_with fail
     go_quiet (fail)
     go_wp2;go_ret;exact⟨by rw[hd];rfl,J.trans (fp _ _ _)⟩
   .obtain rfl:k=n:=by omega
    have hd:decide (L=M)=true:=decide_eq_true (by
     have:=S.out;rw[List.take_of_length_le (by omega),List.take_of_length_le (by omega)] at this;exact this)
    go_wp2;go_ret;exact⟨by rw[hd];rfl,J⟩
 .have hd:decide (L=M)=false:=decide_eq_false (fun e=>D (by subst e;omega))
  go_enter func130,ntmps130
  go_wp2;go_ret;exact⟨by rw[hd];rfl,Below.refl _ _⟩
theorem ts_own'{w:World}{base n c:Nat}{A:Option Addr}{L:List Txt}{e:TypeId}(h:w.ownsRow base e 1 (.slice A n c) n (tv L)):Ts w A n L:=Ts.of_own h
theorem entry_bool(e:Led.Entry):cq e=(((Ids.ej e.sels).2==0&&decide (0<((Ids.ej e.sels).1.getD []).length)&&decide ((Ids.ej e.sels).1.getD []=e.sels))&&aD e.n 1 1099511627776&&aD e.ttl 1 1000&&Ids.path e.path&&!Ids.agent e.path&&Ids.path e.parent):=by
 unfold cq
 generalize Ids.ej e.sels=S
 have A:(decide (0<(S.1.getD []).length)&&decide (S.1.getD []=e.sels))=((S.1.getD []==e.sels)&&!e.sels.isEmpty):=by
  by_cases h:S.1.getD []=e.sels
  .rw [h]
   cases e.sels<;>simp
  .have:(S.1.getD []==e.sels)=false:=by rw[beq_eq_false_iff_ne];exact h
   rw[this,decide_eq_false h];simp
 have B:(S.2==0&&decide (0<(S.1.getD []).length)&&decide (S.1.getD []=e.sels))=(S.2==0&&((S.1.getD []==e.sels)&&!e.sels.isEmpty)):=by rw[Bool.and_assoc,A]
 rw[B]
 generalize (S.1.getD []==e.sels)=b1
 generalize (S.2==0)=C
 generalize (!e.sels.isEmpty)=b2
 generalize Ids.path e.path=b3
 generalize Ids.agent e.path=b4
 generalize Ids.path e.parent=D
 generalize aD e.n 1 1099511627776=E
 generalize aD e.ttl 1 1000=F
 cases C<;>cases b1<;>cases b2<;>cases b3<;>cases b4<;>cases D<;>cases E<;>cases F<;>rfl
theorem entry_any(e:Led.Entry)(v:Value)(w:World)(hv:br w v e.sels)(hn:e.sels.length<=1000)(hz:∀x∈e.sels,x.length<=9223372036854775807)(L:e.path.length<=9223372036854775807)(l:e.parent.length<=9223372036854775807) :
  Calls prog 79 #[.agg (ag (e,v)).toArray] w fun x w'=>x=.returned (.bool (cq e))/\eF w w':=by
 obtain⟨A,n,c,rfl,o,ht⟩:=hv
 have Ab:=ht.len
 obtain⟨W,h⟩:=eC (w.alloc (.cells (ag (e,.slice A n c)).toArray 36))
 have b0:Blk W w.heap.size (ag (e,.slice A n c)) 36:=by rw[<-h];exact Blk.new w _ _
 have U:eF w W:=eG h
 have K:=set_any A n c e.sels W (Ts.below ht U) (by omega) o.2.2 hz
 rw[entry_bool]
 unfold vp at K
 generalize hS:(Ids.ej e.sels)=S at *
 obtain⟨S1,F⟩:=S
 dsimp only at K ⊢
 generalize S1.getD []=S' at *
 clear hS
 obtain⟨D,J⟩:∃D,((F==0)&&decide (0<S'.length)&&decide (S'=e.sels))=D:=⟨_,rfl⟩
 rw[J]
 have E:=eA J
 clear J
 have q:=eA h
 clear h
 have c4:W.cell? ⟨w.heap.size,4,none⟩=some (.slice A n c):=b0.cell 4
 obtain⟨CS,Y⟩:=eC ((ag (e,Value.slice A n c)).toArray)
 rw[Y] at q ⊢
 clear Y
 go_enter func79,ntmps79
 go_upto_region 1 with fail
 rw[q.out]
 clear q
 go_wp2_with fail
 refine K.mono ?_
 rintro x i ⟨A1,m,c1,rfl,r,M,Z⟩
 have b1:=b0.below Z
 have N:eF w i:=U.trans (Z.mono U.size)
 have O:=ts_own' M
 have s:=O.len
 have b:=(aj M)
 have d4:i.cell? ⟨w.heap.size,4,none⟩=some (.slice A n c):=b1.cell 4
 have Q:=eqs_any A1 m c1 S' A n c e.sels i O (Ts.below ht N) (by obtain⟨A2,c2,R,T,t⟩:=b;injection R;omega) (Nat.le_trans o.1 o.2.1)
 clear K b c4
 go_upto_region 2 with fail
 go_cut [5] (fun s5 wx=>s5=.bool D/\eF i wx)
 case first =>
  by_cases R:F=0
  .by_cases T:0<S'.length
   .have d:decide (S'=e.sels)=D:=by
     rw[<-E.out,R];simp[T]
    rw[d] at Q;have u:(0:Int)<(m:Int):=by omega
    subst R;clear d T;go_wp2_with fail
    refine Q.mono ?_;rintro x f ⟨rfl,y⟩;go_wp2;go_meet
    case rel=>exact⟨rfl,y⟩
   .have z:D=false:=by rw[<-E.out];simp[T]
    have u:¬(0:Int)<(m:Int):=by omega
    subst R z;clear T Q;go_wp2_with fail
    go_meet
    case rel=>exact⟨rfl,Below.refl _ _⟩
  .have z:D=false:=by rw[<-E.out];simp[R]
   have hF:¬(F:Int)=0:=by omega
   subst z;clear Q;go_wp2_with fail
   go_meet
   case rel=>exact⟨rfl,Below.refl _ _⟩
 case rest =>
  obtain⟨rfl,g⟩:=hcut;have X:=b1.below g;have B:eF w wc:=N.trans (g.mono N.size);clear Q M O d4 E r s;have e0:wc.cell? ⟨w.heap.size,0,none⟩=some (.int .i64 e.n):=X.cell 0;have e3:wc.cell? ⟨w.heap.size,3,none⟩=some (.int .i64 e.ttl):=X.cell 3;have e1:wc.cell? ⟨w.heap.size,1,none⟩=some (.string (str e.path)):=X.cell 1
  cases D
  .go_wp2_with fail
   go_ret;exact⟨by simp,B⟩
  cases R:aD e.n 1 1099511627776
  .go_wp2_with (go_at_call 104;refine(dq _ _ _ _).mono ?_;rintro x f ⟨rfl,C⟩;have G:=C.symm;subst G;clear C)
   go_ret;exact⟨by simp[R],B⟩
  cases T:aD e.ttl 1 1000
  .go_wp2_with (go_at_call 104;refine(dq _ _ _ _).mono ?_;rintro x f ⟨rfl,C⟩;have G:=C.symm;subst G;clear C)
   go_ret;exact⟨by simp[T],B⟩
  cases t:Ids.path e.path
  .go_wp2_with (go_at_call 104;refine(dq _ _ _ _).mono ?_;rintro x f ⟨rfl,C⟩;have G:=C.symm;subst G;clear C)
   refine(ll e.path _ L).mono ?_;rintro x j ⟨rfl,H⟩;go_wp2_with fail
   go_ret;exact⟨by simp[t],B.trans (H.mono B.size)⟩
  cases h4:Ids.agent e.path
  rotate_left
  .go_wp2_with (go_at_call 104;refine(dq _ _ _ _).mono ?_;rintro x f ⟨rfl,C⟩;have G:=C.symm;subst G;clear C)
   refine(ll e.path _ L).mono ?_;rintro x j ⟨rfl,H⟩;have b3:=X.below H;have k1:j.cell? ⟨w.heap.size,1,none⟩=some (.string (str e.path)):=b3.cell 1;go_wp2_with fail
   refine(j4 e.path _ L).mono ?_;rintro x k ⟨rfl,V⟩;have I:eF wc k:=H.trans (V.mono H.size);go_wp2_with fail
   go_ret;exact⟨by simp[h4],B.trans (I.mono B.size)⟩
  .go_wp2_with (go_at_call 104;refine(dq _ _ _ _).mono ?_;rintro x f ⟨rfl,C⟩;have G:=C.symm;subst G;clear C)
   refine(ll e.path _ L).mono ?_;rintro x j ⟨rfl,H⟩;have b3:=X.below H;have k1:j.cell? ⟨w.heap.size,1,none⟩=some (.string (str e.path)):=b3.cell 1;go_wp2_with fail
   refine(j4 e.path _ L).mono ?_;rintro x k ⟨rfl,V⟩;have I:eF wc k:=H.trans (V.mono H.size);have b4:=X.below I;have k2:k.cell? ⟨w.heap.size,2,none⟩=some (.string (str e.parent)):=b4.cell 2;go_wp2_with fail
   refine(ll e.parent _ l).mono ?_;rintro x w5 ⟨rfl,Aa⟩;go_wp2_with fail
   go_ret;exact⟨by simp[R,T,t,h4],B.trans ((I.trans (Aa.mono I.size)).mono B.size)⟩
end
section
open Go.RowKit Mem Led
def cEp(a b:Led.Entry × Value):Int:=cE a.1 b.1
theorem cEp_cmp:Cmp cEp:=⟨fun a b=>rX.flip a.1 b.1,fun a b d=>rX.trans a.1 b.1 d.1,fun a b d=>rX.left a.1 b.1 d.1⟩
theorem op_entry(o:Led.Op)(sv kv:Value):∀j u,(ag (o.entry,sv))[j]?=some u->(ac o sv kv)[3+j]?=some u:=by
 intro j u h
 match j,h with
 | 0,h=>exact h
 | 1,h=>exact h
 | 2,h=>exact h
 | 3,h=>exact h
 | 4,h=>exact h
 | j+5,h=>simp[ag] at h
theorem lv{w:World}{g:Nat}{o:Led.Op}{sv kv:Value}(h:Blk w g (ac o sv kv) 47):(gz (.pointer (some ⟨g,3,none⟩))).run prog w=.ok (.agg (ag (o.entry,sv)).toArray) w :=
 cz underlying36 rfl lT rfl fun j u A=>by rw[h.cell];exact op_entry o sv kv j u A
theorem gL(p:Led.Entry × Value)(h:p.2.oneCell'=true):∀u∈ag p,u.oneCell'=true:=by
 intro u A
 simp[ag,tx,nm] at A
 rcases A with rfl|rfl|rfl|rfl|rfl
 .rfl
 .rfl
 .rfl
 .rfl
 .exact h
theorem sx(a b:Led.Entry × Value)(W:World)(B:1<=a.1.n/\a.1.n<=1099511627776)(C:1<=b.1.n/\b.1.n<=1099511627776):Calls prog 81 #[.agg (ag a).toArray,.agg (ag b).toArray] W fun e w'=>e=.returned (.int .i64 (cEp a b))/\eF W w':=by
 have A:∀o p,eF W ((W.alloc o).alloc p):=fun o p=>eI.alloc (by simp) _
 have D:IntKind.i64.wrap (a.1.n-b.1.n)=a.1.n-b.1.n:=by rw[IntKind.wrap_i64];omega
 unfold cEp cE
 show Calls prog 81 #[.agg #[.int .i64 a.1.n,.string (str a.1.path),.string (str a.1.parent),.int .i64 a.1.ttl,a.2],.agg #[.int .i64 b.1.n,.string (str b.1.path),.string (str b.1.parent),.int .i64 b.1.ttl,b.2]] W _
 generalize a.1.n=x at *
 generalize b.1.n=y at *
 go_enter func81,ntmps81
 go_wp2_with fail
 go_ret
 exact⟨by first|rfl|(congr 2),A _ _⟩
def j7(base gl:Nat)(vE:Value)(E:List (Led.Entry × Value))(p:Led.Entry × Value)(w:World)(x:Ending)(w':World):Prop :=
 if cq p.1 then gy ag 5 36 base gl 0 vE (put cEp 24 p E) w x w' else x=.returned (.int .i64 1)/\eF w w'
theorem may_n{e:Led.Entry}(h:cq e=true):1<=e.n/\e.n<=1099511627776:=by
 unfold cq at h
 simp only[Bool.and_eq_true] at h
 have:=h.1.2
 unfold aD at this
 simpa using this
theorem uG(gl:Nat)(o:Led.Op)(sv kv:Value)(vs:List Value)(E:List (Led.Entry × Value))(base:Nat)(vE:Value)(w:World)(L:br w sv o.entry.sels)(S:o.entry.sels.length<=1000)(T:∀x∈o.entry.sels,x.length<=9223372036854775807)(U:o.entry.path.length<=9223372036854775807)(V:o.entry.parent.length<=9223372036854775807)
  (t:E.length<=24) (u:aY cEp E) (X:∀p∈E,1<=p.1.n/\p.1.n<=1099511627776) (Z:∀p∈E,p.2.oneCell'=true) (I:base<=w.heap.size)
  (b:Blk w gl vs 30) (h0:vs[0]?=some vE) (M:w.ownsRow base 36 5 vE E.length (ah ag E)) (d:vE.ownBlock≠some gl) :
  Calls prog 42 #[.pointer (some ⟨gl,0,none⟩),.agg (ac o sv kv).toArray] w (j7 base gl vE E (o.entry,sv) w):=by
 have f:sv.oneCell'=true:=by obtain⟨A,n,c,rfl,_⟩:=L;rfl
 obtain⟨W,Q⟩:=eC (w.alloc (.cells (ac o sv kv).toArray 47))
 have l:Blk W w.heap.size (ac o sv kv) 47:=by rw[<-Q];exact Blk.new w _ _
 have D:eF w W:=eG Q
 have g:=lv l
 have B:=entry_any o.entry sv W (L.below D) S T U V
 have i:=eA Q
 clear Q
 obtain⟨CS,N⟩:=eC ((ac o sv kv).toArray)
 rw[N] at i ⊢
 clear N
 have m:=eA (fun (h:cq o.entry=true) (j:World) (y:Led.Entry × Value) (O:y∈E)=>sx y (o.entry,sv) j (X y O) (may_n h))
 go_enter func42,ntmps42
 go_upto_region 1 with fail
 rw[i.out]
 clear i
 cases J:cq o.entry
 .have R:Hid (∀w',eF w w'->j7 base gl vE E (o.entry,sv) w (.returned (.int .i64 1)) w'):=eA (fun w' h=>by unfold j7;rw[J];exact⟨rfl,h⟩)
  rw[J] at B;clear J;go_wp2_with fail
  refine B.mono ?_;rintro e K ⟨rfl,F⟩;go_wp2;go_ret;exact R.out _ (D.trans (F.mono D.size))
 .rw [J] at B
  have R:Hid (∀x w',gy ag 5 36 base gl 0 vE (put cEp 24 (o.entry,sv) E) w x w'->j7 base gl vE E (o.entry,sv) w x w'):=eA (fun x w' h=>by unfold j7;rw[J];exact h)
  have z:=eA (m.out J);clear J m;go_wp2_with fail
  refine B.mono ?_;rintro e K ⟨rfl,F⟩;have b1:=l.below F;have G:eF w K:=D.trans (F.mono D.size);clear g B;have f3:∀p,(gz (.pointer (some ⟨w.heap.size,3,none⟩))).run prog (ab K p)=.ok (.agg (ag (o.entry,sv)).toArray) (ab K p):=fun p=>lv (b1.below (aa K p));go_wp2_with fail
  refine bz 5 ?_;simp only[List.take_succ_cons,List.take_zero,List.drop_succ_cons,List.drop_zero];repeat (go_big_quiet_step (fail))
  refine wpQuiet_nil ?_;rintro _ ⟨q,rfl⟩;have g3:=aa K q;clear f3;generalize ab K q=r at *;have C:eF w r:=G.trans (g3.mono G.size);have H:=putEnt_any gl 0 81 (enters_of func81 (by kernel_rfl) rfl) cEp cEp_cmp (o.entry,sv) E u base vE 24 r t (by omega) vs 30 (b.below C) h0 (af M C eH) d (Nat.le_trans I C.size) (fun y O=>gL y (Z y O)) (gL _ f) (fun j y O _=>z.out j y O);have k:=eA (H.mono fun x w' h=>lY C h);clear H;obtain⟨Y,hY⟩:=eC ((ag (o.entry,sv)).toArray);rw[hY] at k ⊢;go_wp2_with fail
  refine k.out.mono ?_;intro e w4 h;have h':=eA (R.out e w4 h);clear k R;unfold gy at h
  cases s:put cEp 24 (o.entry,sv) E
  all_goals
   rw[s] at h;obtain⟨rfl,_⟩:=h;clear s;go_wp2;(try rw[ak])
   (try go_wp2)
   go_ret;exact h'.out
end
section
open Go.RowKit Mem Led
def fg(c:UInt8):Bool:=Ids.small c||Ids.digit c
theorem all_more{L:Txt}{k:Nat}(A:k<L.length)(h:(L.take k).all fg=true)(B:fg L[k]=true):(L.take (k+1)).all fg=true:=by
 rw[List.take_succ_eq_append_getElem A,List.all_append,h]
 simp[B]
theorem all_bad{L:Txt}{k:Nat}(A:k<L.length)(B:fg L[k]=false):L.all fg=false:=by
 rw[List.all_eq_false]
 exact⟨L[k],List.getElem_mem A,by rw[B];simp⟩
theorem join_any(j:Led.Join)(w:World)(f:j.text.length<=9223372036854775807)(g:j.name.length<=9223372036854775807):Calls prog 84 #[.agg (vq j).toArray] w fun e w'=>e=.returned (.bool (cI j))/\eF w w':=by
 obtain⟨W,Y⟩:=eC (w.alloc (.cells (vq j).toArray 38))
 have l:Blk W w.heap.size (vq j) 38:=by rw[<-Y];exact Blk.new w _ _
 have F:eF w W:=eG Y
 have c0:W.cell? ⟨w.heap.size,0,none⟩=some (.string (str j.text)):=l.cell 0
 have c1:W.cell? ⟨w.heap.size,1,none⟩=some (.string (str j.name)):=l.cell 1
 have K:=j4 j.name W g
 obtain⟨r,Q⟩:=eD (cI j)
 have M:cI j=(j.text.all fg&&Ids.agent j.name&&aD j.text.length 1 16&&aD j.expires 0 1099511627776):=rfl
 have R:=eA M
 rw[Q.out]
 clear M
 obtain⟨N,Z⟩:=eC (j.text.length)
 have Aa:(str j.text).size=N:=by rw[aC,Z]
 have b:=eA Z
 rw[Z] at f
 clear Z
 have m:=eA Y
 clear Y
 obtain⟨CS,S⟩:=eC ((vq j).toArray)
 rw[S] at m ⊢
 clear S
 go_enter func84,ntmps84
 go_upto_region 1 with fail
 rw[m.out]
 clear m
 go_wp2_with fail
 go_loopw [8,3,4] (fun i _ _ wr=>∃k:Nat,k<=N/\i=.int .i64 k/\Hid ((j.text.take k).all fg=true)/\wr=W) (fun i _ _ _=>N-(intOf i).toNat)
 case atStart=>exact⟨0,by omega,rfl,eA (by simp),rfl⟩
 case round =>
  obtain⟨k,hk,rfl,z,n⟩:=hrel;subst n;by_cases o:k<N
  .have Ab:k<(str j.text).size:=by omega
   have T:k<j.text.length:=by rw[b.out];exact o
   have hi:(k:Int)<(N:Int):=by omega
   have q:((str j.text)[k]).toNat=(j.text[k]).toNat:=rfl;have G:fg j.text[k]=(decide (97<=((str j.text)[k]).toNat/\((str j.text)[k]).toNat<=122)||decide (48<=((str j.text)[k]).toNat/\((str j.text)[k]).toNat<=57)):=rfl;have A:=eA (all_more T z.out);have C:=eA (fun h=>all_bad T h);obtain⟨U,V⟩:=eC (fg j.text[k]);rw[V] at G A C;have B:=eA G;clear q G V;generalize hcc:((str j.text)[k]).toNat=D at *;have O:(97<=D/\D<=122)\/(D<48)\/(48<=D/\D<=57)\/(57<D/\D<97)\/122<D:=by omega
   rcases O with O|O|O|O|O
   .have e:U=true:=by rw[B.out];simp[O]
    have E:=eA (A.out e);clear B A C e;have c:¬(D:Int)<97:=by omega
    have i2:¬(D:Int) > 122:=by omega
    go_wp2_with fail
    go_roundw
    case rel=>exact⟨k+1,by omega,by go_num,E,by trivial⟩
    case measure=>simp[intOf];omega
   .have e:U=false:=by rw[B.out];simp;omega
    have E:=eA (C.out e);have H:Hid (r=false):=eA (by rw[<-Q.out,R.out,E.out];rfl)
    clear B A C e;have c:(D:Int)<97:=by omega
    have s:(D:Int)<48:=by omega
    go_wp2_with fail
    go_ret;exact⟨by rw[H.out];rfl,F⟩
   .have e:U=true:=by rw[B.out];simp[O]
    have E:=eA (A.out e);clear B A C e;have c:(D:Int)<97:=by omega
    have s:¬(D:Int)<48:=by omega
    have i4:¬(D:Int) > 57:=by omega
    go_wp2_with fail
    go_roundw
    case rel=>exact⟨k+1,by omega,by go_num,E,by trivial⟩
    case measure=>simp[intOf];omega
   .have e:U=false:=by rw[B.out];simp;omega
    have E:=eA (C.out e);have H:Hid (r=false):=eA (by rw[<-Q.out,R.out,E.out];rfl)
    clear B A C e;have c:(D:Int)<97:=by omega
    have s:¬(D:Int)<48:=by omega
    have i4:(D:Int) > 57:=by omega
    go_wp2_with fail
    go_ret;exact⟨by rw[H.out];rfl,F⟩
   .have e:U=false:=by rw[B.out];simp;omega
    have E:=eA (C.out e);have H:Hid (r=false):=eA (by rw[<-Q.out,R.out,E.out];rfl)
    clear B A C e;have c:¬(D:Int)<97:=by omega
    have i2:(D:Int) > 122:=by omega
    have s:¬(D:Int)<48:=by omega
    have i4:(D:Int) > 57:=by omega
    go_wp2_with fail
    go_ret;exact⟨by rw[H.out];rfl,F⟩
  .have t:k=N:=by omega
   have X:Hid (j.text.all fg=true):=eA (by have:=z.out;rwa [t,<-b.out,List.take_length] at this)
   have hi:¬((k:Int)<(N:Int)):=by omega
   have Ac:∀W,Calls prog 104 #[.int .i64 (N:Int),.int .i64 1,.int .i64 16] W fun e w'=>e=.returned (.bool (aD N 1 16))/\w'=W:=fun W=>dq _ _ _ W
   cases u:aD (N:Int) 1 16
   .have H:Hid (r=false):=eA (by rw[<-Q.out,R.out,b.out,u];simp)
    go_wp2_with fail
    refine(dq _ _ _ _).mono ?_;rintro e w2 ⟨rfl,I⟩;have J:=I.symm;subst J;go_wp2_with fail
    go_ret;exact⟨by rw[H.out];first|rfl|(rw[u];rfl),F⟩
   .cases d:Ids.agent j.name
    .have H:Hid (r=false):=eA (by rw[<-Q.out,R.out,d];simp)
     rw[d] at K;go_wp2_with fail
     refine(dq _ _ _ _).mono ?_;rintro e w2 ⟨rfl,I⟩;have J:=I.symm;subst J;go_wp2_with fail
     refine K.mono ?_;rintro e w3 ⟨rfl,L⟩;go_wp2_with fail
     go_ret;exact⟨by rw[H.out];rfl,F.trans (L.mono F.size)⟩
    .have H:Hid (r=aD j.expires 0 1099511627776):=eA (by rw[<-Q.out,R.out,b.out,d,u,X.out];rfl)
     rw[d] at K;go_wp2_with fail
     refine(dq _ _ _ _).mono ?_;rintro e w2 ⟨rfl,I⟩;have J:=I.symm;subst J;go_wp2_with fail
     refine K.mono ?_;rintro e w3 ⟨rfl,L⟩;have c2:w3.cell? ⟨w.heap.size,2,none⟩=some (.int .i64 j.expires):=(l.below L).cell 2
     cases h3:aD j.expires 0 1099511627776
     all_goals
      go_wp2_with fail
      refine(dq _ _ _ _).mono ?_;rintro e w4 ⟨rfl,x⟩;have y:=x.symm;subst y;go_wp2_with fail
      go_ret;exact⟨by rw[H.out];first|rfl|(rw[h3];rfl),F.trans (L.mono F.size)⟩
end
section
open Go.RowKit Mem Led
theorem op_join(o:Led.Op)(sv kv:Value):∀j u,(vq o.join)[j]?=some u->(ac o sv kv)[8+j]?=some u:=by
 intro j u h
 match j,h with
 | 0,h=>exact h
 | 1,h=>exact h
 | 2,h=>exact h
 | 3,h=>exact h
 | j+4,h=>simp[vq] at h
theorem nt{w:World}{g:Nat}{o:Led.Op}{sv kv:Value}(h:Blk w g (ac o sv kv) 47):(ny (.pointer (some ⟨g,8,none⟩))).run prog w=.ok (.agg (vq o.join).toArray) w :=
 cz underlying38 rfl pJ rfl fun j u A=>by rw[h.cell];exact op_join o sv kv j u A
theorem jm(n:Led.Join):∀u∈vq n,u.oneCell'=true:=by
 intro u A
 simp[vq,tx,nm] at A
 rcases A with rfl|rfl|rfl|rfl<;>rfl
theorem nz:(prog.info? 38).map (fun i=>(i.zero,i.size,i.bytes))=some (some (.agg #[.string ⟨#[]⟩,.string ⟨#[]⟩,.int .i64 0,.bool false]),4,48):=by kernel_rfl
theorem uF(x:Led.Join)(n:Txt)(go:Nat)(W:World)(B:W.cell? ⟨go,8,none⟩=some (.string (str n))) :
  Calls prog 86 (#[.agg (vq x).toArray]++#[.pointer (some ⟨go,0,none⟩)]) W fun e w'=>e=.returned (.bool (x.text==n))/\eF W w':=by
 have A:=World.block_lt_of_cell? W _ B
 simp only[] at A
 have C:∀o,eF W (W.alloc o):=fun o=>eI
 show Calls prog 86 #[.agg #[.string (str x.text),.string (str x.name),.int .i64 x.expires,.bool x.used],.pointer (some ⟨go,0,none⟩)] W _
 go_enter func86,ntmps86
 go_wp2_with fail
 go_ret
 exact⟨by first|rfl|simp,C _⟩
def iG(base gl:Nat)(vJ:Value)(J:List Led.Join)(j:Led.Join)(w:World)(x:Ending)(w':World):Prop :=
 if !cI j||j.used then x=.returned (.int .i64 1)/\eF w w'
 else if J.any (fun k=>k.text==j.text) then x=.returned (.int .i64 8)/\eF w w'
 else if 16<=J.length then x=.returned (.int .i64 6)/\eF w w'
 else x=.returned (.int .i64 0)/\bK vq 4 38 base gl 3 vJ (J++[j]) w w'
theorem putJoin_any(gl:Nat)(o:Led.Op)(sv kv:Value)(vs:List Value)(J:List Led.Join)(base:Nat)(vJ:Value)(w:World)(i:o.join.text.length<=9223372036854775807)(j:o.join.name.length<=9223372036854775807)(hJ:J.length<=16)(S:base<=w.heap.size)
  (T:Blk w gl vs 30) (l:vs[3]?=some vJ) (G:w.ownsRow base 38 4 vJ J.length (ah vq J)) (m:vJ.ownBlock≠some gl) :
  Calls prog 44 #[.pointer (some ⟨gl,0,none⟩),.agg (ac o sv kv).toArray] w (iG base gl vJ J o.join w):=by
 obtain⟨A,c,rfl,Ab,Ac⟩:=aj G
 obtain⟨W,d⟩:=eC (w.alloc (.cells (ac o sv kv).toArray 47))
 have n:Blk W w.heap.size (ac o sv kv) 47:=by rw[<-d];exact Blk.new w _ _
 have K:eF w W:=eG d
 have q:=nt n
 have C:=join_any o.join W i j
 have r:=eA d
 clear d
 obtain⟨CS,X⟩:=eC ((ac o sv kv).toArray)
 rw[X] at r ⊢
 clear X
 go_enter func44,ntmps44
 go_upto_region 1 with fail
 rw[r.out]
 clear r
 by_cases B:(!cI o.join||o.join.used)=true
 .have N:Hid (∀w',eF w w'->iG base gl (.slice A J.length c) J o.join w (.returned (.int .i64 1)) w'):=eA (fun w' h=>by unfold iG;rw[if_pos B];exact⟨rfl,h⟩)
  cases O:cI o.join
  .rw [O] at C
   clear B O;go_wp2_with fail
   refine C.mono ?_;rintro e w1 ⟨rfl,F⟩;go_wp2;go_ret;exact N.out _ (K.trans (F.mono K.size))
  .have f:o.join.used=true:=by
    rw[O] at B;simpa using B
   rw[O] at C;clear B O;go_wp2_with fail
   refine C.mono ?_;rintro e w1 ⟨rfl,F⟩;have s:w1.cell? ⟨w.heap.size,11,none⟩=some (.bool true):=by rw[(n.below F).cell 11,<-f];rfl
   go_wp2_with fail
   go_ret;exact N.out _ (K.trans (F.mono K.size))
 .have O:cI o.join=true:=by
   cases h:cI o.join
   .rw [h] at B;simp at B
   .rfl
  have f:o.join.used=false:=by
   rw[O] at B;simpa using B
  rw[O] at C;have M:Hid (∀x w',(if J.any (fun k=>k.text==o.join.text) then x=.returned (.int .i64 8)/\eF w w'
    else if 16<=J.length then x=.returned (.int .i64 6)/\eF w w'
    else x=.returned (.int .i64 0)/\bK vq 4 38 base gl 3 (.slice A J.length c) (J++[o.join]) w w')->iG base gl (.slice A J.length c) J o.join w x w'):=eA (fun x w' h=>by unfold iG;rw[if_neg B];exact h)
  clear B O;go_wp2_with fail
  refine C.mono ?_;rintro e g ⟨rfl,F⟩;have D:eF w g:=K.trans (F.mono K.size);have b2:=n.below F;have Y:=T.below D;have s:g.cell? ⟨w.heap.size,11,none⟩=some (.bool false):=by rw[b2.cell 11,<-f];rfl
  have cK:g.cell? ⟨gl,3,none⟩=some (.slice A J.length c):=(Y.cell 3).trans l;clear q C;have E:=hasJoi_any 86 #[.pointer (some ⟨w.heap.size,0,none⟩)] (enters_of func86 (by kernel_rfl) rfl) (fun k=>k.text==o.join.text) A J.length c J g (Vs.of_own (af G D eH)) (by omega) (fun W' x _ hb=>uF x o.join.text w.heap.size W' ((b2.below hb).cell 8))
  cases V:J.any (fun k=>k.text==o.join.text)
  .rw [V] at E
   have t:=eA V;clear V;go_wp2_with fail
   refine E.mono ?_;rintro e U ⟨rfl,Q⟩;have H:eF w U:=D.trans (Q.mono D.size);have b3:=b2.below Q;have R:=T.below H;have u:U.cell? ⟨gl,3,none⟩=some (.slice A J.length c):=(R.cell 3).trans l;by_cases h8:16<=J.length
   .have N:Hid (∀w',eF w w'->iG base gl (.slice A J.length c) J o.join w (.returned (.int .i64 6)) w'):=eA (fun w' h=>M.out _ _ (by rw[t.out];simp only[Bool.false_eq_true,if_false,if_pos h8];exact⟨trivial,h⟩))
    have y:(16:Int)<=(J.length:Int):=by omega
    clear M;go_wp2_with fail
    go_ret;exact N.out _ H
   .have N:Hid (∀w',bK vq 4 38 base gl 3 (.slice A J.length c) (J++[o.join]) w w'->iG base gl (.slice A J.length c) J o.join w (.returned (.int .i64 0)) w'):=eA (fun w' h=>M.out _ _ (by rw[t.out];simp only[Bool.false_eq_true,if_false,if_neg h8];exact⟨trivial,h⟩))
    have y:¬(16:Int)<=(J.length:Int):=by omega
    clear M t E f;have f1:∀p,(ab U p).cell? ⟨gl,3,none⟩=some (.slice A J.length c):=fun p=>(ap (a:=⟨gl,3,none⟩) R.lt p).trans u;have f2:∀p,(ny (.pointer (some ⟨w.heap.size,8,none⟩))).run prog (ab U p)=.ok (.agg #[.string (str o.join.text),.string (str o.join.name),.int .i64 o.join.expires,.bool o.join.used]) (ab U p):=fun p=>nt (b3.below (aa U p));go_upto_region 7 with fail
    refine bq [0] [1,2,3,4,5,6] 7 [8,9,10,11] (vq o.join) 38 ?_;simp only[pick,List.getD_cons_zero,List.getD_cons_succ];repeat (go_big_quiet_step (fail))
    refine wpQuiet_nil ?_;repeat (go_big_quiet_step (fail))
    refine wpQuiet_nil ?_;refine⟨_,rfl,rfl,fun w4 z=>?_,fun gx w6 Aa Ad Z=>?_⟩
    .go_simp
     exact eR z
    .have I:=H.trans (Aa.below.mono H.size)
     obtain⟨A',c',w7,b,Ae,Af,hS⟩:=dQ (enc:=vq) (L:=J) (x:=o.join) (sl:=3) nz underlying26 (Nat.le_trans S I.size) (T.below I) l m (af G I eH) rfl (by omega) (jm _) Z;have HH:=eA (N.out _ (iI I hS));clear N hS Z G f1 f2;go_wp2_with (at_builtin;refine Lib.wpList_append_run _ rfl _ _ _ _ rfl _ _ rfl rfl _ _ b ?_)
     (try rw[ak])
     (try go_wp2)
     go_ret;exact HH.out
  .rw [V] at E
   have N:Hid (∀w',eF w w'->iG base gl (.slice A J.length c) J o.join w (.returned (.int .i64 8)) w'):=eA (fun w' h=>M.out _ _ (by rw[V];exact⟨rfl,h⟩))
   clear V M;go_wp2_with fail
   refine E.mono ?_;rintro e U ⟨rfl,Q⟩;go_wp2_with fail
   go_ret;exact N.out _ (D.trans (Q.mono D.size))
end
section
open Go.RowKit Mem Led
theorem uc(x:Led.Join)(n:Txt)(go:Nat)(W:World)(B:W.cell? ⟨go,2,none⟩=some (.string (str n))) :
  Calls prog 88 (#[.agg (vq x).toArray]++#[.pointer (some ⟨go,0,none⟩)]) W fun e w'=>e=.returned (.bool (x.text==n))/\eF W w':=by
 have A:=World.block_lt_of_cell? W _ B
 simp only[] at A
 have C:∀o,eF W (W.alloc o):=fun o=>eI
 show Calls prog 88 #[.agg #[.string (str x.text),.string (str x.name),.int .i64 x.expires,.bool x.used],.pointer (some ⟨go,0,none⟩)] W _
 go_enter func88,ntmps88
 go_wp2_with fail
 go_ret
 exact⟨by first|rfl|simp,C _⟩
theorem sB{base gl:Nat}{vN:Value}{N:List Led.Node}{B:List Txt}{n:Led.Node}{w w':World}{x:Ending}(h:bO base gl vN N B n w x w') :
  (x=.returned (.int .i64 0)/\∃L',bK ae 5 40 base gl 1 vN L' w w')\/(∃c:Int,x=.returned (.int .i64 c)/\c≠0/\eF w w'):=by
 unfold bO at h
 split at h
 .split at h
  .exact .inr ⟨21,h.1,by decide,h.2⟩
  .unfold gy at h
   cases A:put cN 4 n N with
   | none=>rw[A] at h;exact .inr ⟨6,h.1,by decide,h.2⟩
   | some L=>rw[A] at h;exact .inl ⟨h.1,L,h.2⟩
 .exact .inr ⟨1,h.1,by decide,h.2⟩
theorem nc{base gl:Nat}{vN:Value}{N:List Led.Node}{B:List Txt}{n:Led.Node}{w W w':World}{x:Ending}(A:eF w W)(h:bO base gl vN N B n W x w'):bO base gl vN N B n w x w':=by
 unfold bO at h ⊢
 split
 .rename_i h1
  rw[if_pos h1] at h;split
  .rename_i h2
   rw[if_pos h2] at h;exact⟨h.1,A.trans (h.2.mono A.size)⟩
  .rename_i h2
   rw[if_neg h2] at h;exact lY A h
 .rename_i h1
  rw[if_neg h1] at h;exact⟨h.1,A.trans (h.2.mono A.size)⟩
def jz(base gl:Nat)(vN vJ:Value)(N:List Led.Node)(A:List Txt)(J:List Led.Join)(t:Txt)(n:Led.Node)(w:World)(x:Ending)(w':World):Prop:=match J.find? (fun j=>j.text==t) with
 | none=>x=.returned (.int .i64 7)/\eF w w'
 | some j=>if j.used then x=.returned (.int .i64 20)/\eF w w' else if n.name==j.name then
   ((x=.returned (.int .i64 0)/\∃B,bO base gl vN N A n w x B/\bK vq 4 38 base gl 3 vJ (dH (fun j=>j.text==t) (fun j=>{ j with used:=true }) J) B w')\/(x≠.returned (.int .i64 0)/\bO base gl vN N A n w x w'))
  else x=.returned (.int .i64 1)/\eF w w'
theorem useJoin_any(gl:Nat)(o:Led.Op)(sv kv:Value)(vs:List Value)(N:List Led.Node)(G:List Txt)(J:List Led.Join)(base:Nat)(vN vB vJ:Value)(w:World)(hz:o.node.name.length<=9223372036854775807)(hN:N.length<=4)(hB:G.length<=8)(hJ:J.length<=16)(hr:aY cN N)(f:base<=w.heap.size)
  (T:Blk w gl vs 30) (h1:vs[1]?=some vN) (h2:vs[2]?=some vB) (h3:vs[3]?=some vJ) (Aa:w.ownsRow base 40 5 vN N.length (ah ae N)) (Ab:vN.ownBlock≠some gl) (k:w.ownsRow base 9 1 vB G.length (ah al G))
  (F:w.ownsRow base 38 4 vJ J.length (ah vq J)) (Ac:vJ.ownBlock≠some gl) (An:iq vJ vN) :
  Calls prog 45 #[.pointer (some ⟨gl,0,none⟩),.agg (ac o sv kv).toArray] w (jz base gl vN vJ N G J o.name o.node w):=by
 obtain⟨A,c,rfl,Ao,Au⟩:=aj F
 obtain⟨W,hW⟩:=eC (w.alloc (.cells (ac o sv kv).toArray 47))
 have b0:Blk W w.heap.size (ac o sv kv) 47:=by rw[<-hW];exact Blk.new w _ _
 have K:eF w W:=eG hW
 have Ad:=T.below K
 have cJ:W.cell? ⟨gl,3,none⟩=some (.slice A J.length c):=(Ad.cell 3).trans h3
 have H:=rA 88 #[.pointer (some ⟨w.heap.size,0,none⟩)] (enters_of func88 (by kernel_rfl) rfl) (fun d=>d.text==o.name) A J.length c J W (Vs.of_own (af F K eH)) (by omega) (fun W' x _ hb=>uc x o.name w.heap.size W' ((b0.below hb).cell 2))
 have HW:=eA hW
 clear hW
 obtain⟨CS,l⟩:=eC ((ac o sv kv).toArray)
 have Ae:=eA l
 rw[l] at HW ⊢
 clear l
 go_enter func45,ntmps45
 go_upto_region 1 with fail
 rw[HW.out]
 clear HW
 rcases bh (fun d:Led.Join=>d.text==o.name) J with⟨hi,ha⟩|⟨i,U,hi,ha,m,n⟩
 .rw [hi] at H
  have S:Hid (∀w',eF w w'->jz base gl vN (.slice A J.length c) N G J o.name o.node w (.returned (.int .i64 7)) w'):=eA (fun w' h=>by
   unfold jz;have:J.find? (fun d=>d.text==o.name)=none:=by
    rw[List.find?_eq_none];intro x hx;rw[List.any_eq_false] at ha;exact ha x hx
   rw[this];exact⟨rfl,h⟩)
  clear hi ha;go_wp2_with fail
  refine H.mono ?_;rintro e C ⟨rfl,V⟩;go_wp2;go_ret;exact S.out _ (K.trans (V.mono K.size))
 .rw [hi] at H
  rcases aS F with⟨_,h0,_⟩|⟨g,c',M,he,Ap,Av,Af,As,Ag,hM,Ah⟩
  .omega
  injection he with he1 _ he3
  subst he1 he3;have Ai:gl≠g:=fun e=>Ac (by simp[Value.ownBlock,e]);obtain⟨d,hd⟩:=eC (J[i]);have O:J.find? (fun d=>d.text==o.name)=some d:=by rw[nG U n m,hd]
  have Y:dH (fun d:Led.Join=>d.text==o.name) (fun d=>{ d with used:=true }) J=J.set i { d with used:=true }:=by rw[fY U n m,hd]
  have HJ:Hid (∀x w',(if d.used then x=.returned (.int .i64 20)/\eF w w' else if o.node.name==d.name then
   ((x=.returned (.int .i64 0)/\∃C,bO base gl vN N G o.node w x C/\bK vq 4 38 base gl 3 (.slice (some ⟨g,0,none⟩) J.length c) (J.set i { d with used:=true }) C w')\/(x≠.returned (.int .i64 0)/\bO base gl vN N G o.node w x w'))
  else x=.returned (.int .i64 1)/\eF w w')->jz base gl vN (.slice (some ⟨g,0,none⟩) J.length c) N G J o.name o.node w x w'):=eA (fun x w' h=>by
   unfold jz;rw[O,Y];exact h)
  have L:∀W' j u,Blk W' g M 38->(vq d)[j]?=some u->W'.cell? ⟨g,i*4+j,none⟩=some u:=fun W' j u hb hj=>by
   have Aq:j<4:=by
    have:=(List.getElem?_eq_some_iff.1 hj).1;rwa [bm] at this
   have h:=kr bm (enc:=vq) U Aq;rw[hb.cell];rw[<-Ah,List.getElem?_take,if_pos (by omega),hd,hj] at h;exact h
  have Q:Hid (∀C q,Blk C g M 38->Blk C gl q 30->q[3]?=some (.slice (some ⟨g,0,none⟩) J.length c)->bK vq 4 38 base gl 3 (.slice (some ⟨g,0,none⟩) J.length c) (J.set i { d with used:=true }) C (C.setCell ⟨g,i*4+3,none⟩ (.bool true))):=eA (fun C q hb I Ar =>
   jE bm (Below.refl _ _) Ap hb Ao Ag hM Ah U (by omega) (by rw[hd];rfl) Ai I Ar)
  have Aw:¬((i:Int)<0):=by omega
  have Ax:(i:Int)<(J.length:Int):=by omega
  clear hi ha m n O Y hd;go_wp2_with fail
  refine H.mono ?_;rintro e C ⟨rfl,V⟩;have D:eF w C:=K.trans (V.mono K.size);have b1:=b0.below V;have I:=T.below D;have r:=Af.below D;have Aj:C.cell? ⟨gl,3,none⟩=some (.slice (some ⟨g,0,none⟩) J.length c):=(I.cell 3).trans h3
  cases Z:d.used
  .have cu:C.cell? ⟨g,i*4+3,none⟩=some (.bool false):=L _ 3 _ r (by rw[<-Z];rfl)
   have f1:∀p,(ab C p).cell? ⟨gl,3,none⟩=some (.slice (some ⟨g,0,none⟩) J.length c):=fun p=>(ap (a:=⟨gl,3,none⟩) I.lt p).trans Aj;have f2:∀p,(ab C p).cell? ⟨w.heap.size,12,none⟩=some (.string (str o.node.name)):=fun p=>(ap (a:=⟨w.heap.size,12,none⟩) b1.lt p).trans (b1.cell 12);have f3:∀p,(ab C p).cell? ⟨g,i*4+1,none⟩=some (.string (str d.name)):=fun p=>L _ 1 _ (r.below (aa C p)) rfl
   cases Ak:(o.node.name==d.name)
   .have S:Hid (∀w',eF w w'->jz base gl vN (.slice (some ⟨g,0,none⟩) J.length c) N G J o.name o.node w (.returned (.int .i64 1)) w'):=eA (fun w' h=>HJ.out _ _ (by rw[Z,Ak];exact⟨rfl,h⟩))
    clear HJ L Q Z;go_wp2_with fail
    refine au ?_;repeat (go_big_quiet_step (fail))
    refine wpQuiet_nil ?_;rintro _ ⟨px,rfl⟩;have g2:=aa C px;clear f1 f2 f3;generalize ab C px=w2 at *;go_wp2_with fail
    go_ret;exact S.out _ (D.trans (g2.mono D.size))
   .have S:Hid (∀x w',((x=.returned (.int .i64 0)/\∃C,bO base gl vN N G o.node w x C/\bK vq 4 38 base gl 3 (.slice (some ⟨g,0,none⟩) J.length c) (J.set i { d with used:=true }) C w')\/(x≠.returned (.int .i64 0)/\bO base gl vN N G o.node w x w'))->jz base gl vN (.slice (some ⟨g,0,none⟩) J.length c) N G J o.name o.node w x w'):=eA (fun x w' h=>HJ.out _ _ (by rw[Z,Ak];exact h))
    clear HJ Z;go_wp2_with fail
    refine au ?_;repeat (go_big_quiet_step (fail))
    refine wpQuiet_nil ?_;rintro _ ⟨px,rfl⟩;have g2:=aa C px;clear f1 f2 f3;generalize ab C px=w2 at *;have B:eF w w2:=D.trans (g2.mono D.size);have b2:=b1.below g2;have s:=eS b2 rfl;rw[Ae.out] at s;have X:=o5 gl o sv kv vs N G base vN vB w2 hz hN hB hr (Nat.le_trans f B.size) (T.below B) h1 h2 (af Aa B eH) Ab (af k B eH);rw[Ae.out] at X;clear Aj cu L;go_wp2_with fail
    refine X.mono ?_;intro e t R;rcases sB R with⟨rfl,L',hs⟩|⟨cc,rfl,Al,Ay⟩
    .obtain⟨v',b,_,_,_⟩:=hs.opened (T.below B) Ab
     have Am:(vs.set 1 v')[3]?=some (.slice (some ⟨g,0,none⟩) J.length c):=by rw[List.getElem?_set_ne (by omega)];exact h3
     have y:Blk t g M 38:=hs.blk (Af.below B) (fun e=>by rcases An with h|h<;>simp[Value.ownBlock] at h;exact h e.symm) (fun e=>Ai e.symm)
     have c4:t.cell? ⟨gl,3,none⟩=some (.slice (some ⟨g,0,none⟩) J.length c):=(b.cell 3).trans Am;have z:∃u,t.cell? ⟨g,i*4+3,none⟩=some u:=by
      refine⟨M[i*4+3]'(by omega),?_⟩;rw[y.cell,List.getElem?_eq_getElem]
     obtain⟨u,Az⟩:=z;have A0:t.frozen? ⟨g,i*4+3,none⟩=false:=y.froz _;have E:=S.out (.returned (.int .i64 0)) _ (.inl ⟨rfl,t,nc B R,Q.out t _ y b Am⟩);have HH:=eA E;clear E S Q hs R X s;go_wp2_with fail
     go_ret;exact HH.out
    .have E:=S.out (.returned (.int .i64 cc)) t (.inr ⟨fun e=>by injection e with e;injection e with _ e;exact Al e,nc B R⟩)
     have HH:=eA E;have A1:(cc==0)=false:=by simpa using Al
     clear E S Q R X s;go_wp2_with fail
     go_ret;exact HH.out
  .have cu:C.cell? ⟨g,i*4+3,none⟩=some (.bool true):=L _ 3 _ r (by rw[<-Z];rfl)
   have S:Hid (∀w',eF w w'->jz base gl vN (.slice (some ⟨g,0,none⟩) J.length c) N G J o.name o.node w (.returned (.int .i64 20)) w'):=eA (fun w' h=>HJ.out _ _ (by rw[Z];exact⟨rfl,h⟩))
   clear HJ L Q Z;go_wp2_with fail
   go_ret;exact S.out _ D
end
section
open Go.RowKit Mem Led
def ip{α:Type}(enc:α->List Value)(k:Nat)(e:TypeId)(g c n:Nat)(w:World)(L:List α):Prop:=L.length=n/\∃M,Blk w g M e/\M.length=c*k/\M.take (n*k)=ah enc L
section
variable {α:Type}{enc:α->List Value}{k:Nat}{e:TypeId}{g c n:Nat}{w w':World}{L:List α}
theorem ip.below(h:ip enc k e g c n w L)(A:eF w w'):ip enc k e g c n w' L:=⟨h.1,h.2.imp fun _ ⟨B,h2⟩=>⟨B.below A,h2⟩⟩
theorem ip.cell(C:∀x,(enc x).length=k)(h:ip enc k e g c n w L){i j:Nat}{u:Value}(hi:i<L.length)(D:(enc L[i])[j]?=some u):w.cell? ⟨g,i*k+j,none⟩=some u/\w.frozen? ⟨g,i*k+j,none⟩=false:=by
 obtain⟨H,M,E,I,A⟩:=h
 have F:j<k:=by
  have:=(List.getElem?_eq_some_iff.1 D).1;rwa [C] at this
 have h:=kr C hi F
 have B:i*k+j<n*k:=by
  have G:(i+1)*k<=n*k:=Nat.mul_le_mul_right _ (by omega);rw[Nat.succ_mul] at G;omega
 rw[<-A,List.getElem?_take,if_pos B,D] at h
 exact⟨by rw[E.cell];exact h,E.froz _⟩
theorem ip.turn(A:∀x,(enc x).length=k)(h:ip enc k e g c n w L){i j:Nat}{x':α}{u:Value}(hi:i<L.length)(D:j<k)(E:enc x'=(enc L[i]).set j u):ip enc k e g c n (w.setCell ⟨g,i*k+j,none⟩ u) (L.set i x'):=by
 obtain⟨B,M,F,G,C⟩:=h
 refine⟨by rw[List.length_set,B],M.set (i*k+j) u,F.set _ _,by rw[List.length_set,G],?_⟩
 have e:M=ah enc L++M.drop (n*k):=by rw[<-C,List.take_append_drop]
 have h:=rows_set A (R:=M.drop (n*k)) hi D E
 rw[<-e] at h
 rw[h,List.take_append_of_le_length (by rw[aJ A,List.length_set,B];exact eH),List.take_of_length_le (by rw[aJ A,List.length_set,B];exact eH)]
theorem ip.slot{base gl sl:Nat}{vs:List Value}{C:TypeId}{w0:World}(h:ip enc k e g c n w L)(A:base<=g)(D:n<=c)(E:c<=maxLen)(F:w0.grownBy w (some g))(G:Blk w gl vs C)(H:vs[sl]?=some (.slice (some ⟨g,0,none⟩) n c)):bK enc k e base gl sl (.slice (some ⟨g,0,none⟩) n c) L w0 w:=by
 obtain⟨I,M,J,K,B⟩:=h
 refine⟨_,w,(iw G H).symm,F,?_,.inl rfl⟩
 rw[I]
 exact dG A J D E K B
end
theorem rD{w w':World}{g k:Nat}{u:Value}{M:List Value}{t:TypeId}(h:w.grownBy w' (some g))(A:Blk w' g M t):w.grownBy (w'.setCell ⟨g,k,none⟩ u) (some g):=by
 rw[setCell_eq_setRow w' g k M.toArray _ (0,0) _ A]
 exact cZ h
theorem mR(w:World){p q:Nat}(k k':Nat)(v:Value)(h:p≠q):(w.setCell ⟨p,k,none⟩ v).cell? ⟨q,k',none⟩=w.cell? ⟨q,k',none⟩:=World.cell?_setCell_other _ _ _ _ (fun e=>h (by injection e))
theorem lz{w w':World}{r:Option Nat}(h:eF w w'):w.grownBy w' r:=dC h (fD _ _)
theorem rp{g c n gl i:Nat}{w wx:World}{K:List Led.Key}{vs:List Value}{F:TypeId}(B t:Int)(L:w.grownBy wx (some g))(G:ip ar 4 42 g c n wx K)(N:Blk wx gl vs F)(C:gl≠g)(hi:i<K.length) :
  let wy:=((wx.setCell ⟨g,i*4+2,none⟩ (nm B)).setCell ⟨g,i*4+3,none⟩ (nm t)).drew
  w.grownBy wy (some g)/\ip ar 4 42 g c n wy (K.set i { K[i] with state:=B,since:=t })/\Blk wy gl vs F/\∀p M e,p≠g->Blk wx p M e->Blk wy p M e:=by
 have H:=G.turn aP (j:=2) (x':={ K[i] with state:=B }) (u:=nm B) hi (by omega) rfl
 have D:i<(K.set i { K[i] with state:=B }).length:=by rw[List.length_set];exact hi
 have I:=H.turn aP (j:=3) (x':={ K[i] with state:=B,since:=t }) (u:=nm t) D (by omega) (by rw[List.getElem_set_self];rfl)
 rw[List.set_set] at I
 have A:∀p M e,p≠g->Blk wx p M e->Blk ((wx.setCell ⟨g,i*4+2,none⟩ (nm B)).setCell ⟨g,i*4+3,none⟩ (nm t)).drew p M e:=fun p M e J h=>((h.set_ne (p:=⟨g,i*4+2,none⟩) J _).set_ne (p:=⟨g,i*4+3,none⟩) J _).below (Below.refl _ _).drew
 obtain⟨_,M,O,_,_⟩:=G
 obtain⟨_,Q,E,_,_⟩:=H
 refine⟨gJ (rD (rD L O) E),I.below (Below.refl _ _).drew,A _ _ _ C N,A⟩
theorem oz{α:Type}{p:α->Bool}{f:α->α}:∀{L:List α},L.any p=false->dH p f L=L
 | [],_=>rfl
 | a::l,h=>by
  rw[List.any_cons,Bool.or_eq_false_iff] at h;unfold dH;rw[h.1,oz h.2];simp
def fO(base gl:Nat)(vK:Value)(K:List Led.Key)(n:Int)(w:World)(x:Ending)(w':World):Prop :=
 if aD n 0 1099511627776 then
  if K.any (fun j=>j.state==1) then x=.returned (.int .i64 0)/\bK ar 4 42 base gl 4 vK (dH (fun j=>j.state==1) (fun j=>{ j with state:=2,since:=n }) (eo n K)) w w'
  else x=.returned (.int .i64 7)/\eF w w'
 else x=.returned (.int .i64 1)/\eF w w'
theorem vo(gl:Nat)(o:Led.Op)(sv kv:Value)(vs:List Value)(K:List Led.Key)(base:Nat)(vK:Value)(w:World)(hK:K.length<=8)
  (Ac:Blk w gl vs 30) (h4:vs[4]?=some vK) (G:w.ownsRow base 42 4 vK K.length (ah ar K)) (Ao:vK.ownBlock≠some gl) :
  Calls prog 51 #[.pointer (some ⟨gl,0,none⟩),.agg (ac o sv kv).toArray] w (fO base gl vK K o.n w):=by
 obtain⟨W,hW⟩:=eC (w.alloc (.cells (ac o sv kv).toArray 47))
 have b0:Blk W w.heap.size (ac o sv kv) 47:=by rw[<-hW];exact Blk.new w _ _
 have T:eF w W:=eG hW
 have B:=oh gl vs 1 K base vK W (by omega) (Ac.below T) h4 (af G T eH)
 have Ad:=eA (fun w1 (hb:eF W w1)=>oh gl vs 2 K base vK w1 (by omega) ((Ac.below T).below hb) h4 (af (af G T eH) hb eH))
 have HW:=eA hW
 clear hW
 obtain⟨CS,Ah⟩:=eC ((ac o sv kv).toArray)
 rw[Ah] at HW ⊢
 clear Ah
 obtain⟨p,hp⟩:=eC (aX (fun k:Led.Key=>k.state==1) K)
 obtain⟨a,ha⟩:=eC (aX (fun k:Led.Key=>k.state==2) K)
 rw[hp] at B
 rw[ha] at Ad
 have HP:=eA hp
 have HA:=eA ha
 clear hp ha
 go_enter func51,ntmps51
 go_upto_region 1 with fail
 rw[HW.out]
 clear HW
 go_wp2_with fail
 refine B.mono ?_
 rintro e w1 ⟨rfl,Ae⟩
 go_wp2_with fail
 refine(Ad.out w1 Ae).mono ?_
 rintro e w2 ⟨rfl,Ap⟩
 have s:eF W w2:=Ae.trans (Ap.mono Ae.size)
 have C:eF w w2:=T.trans (s.mono T.size)
 have b2:=b0.below s
 have c1:w2.cell? ⟨w.heap.size,1,none⟩=some (.int .i64 o.n):=b2.cell 1
 clear B Ad
 cases Af:aD o.n 0 1099511627776
 .have t:Hid (∀w',eF w w'->fO base gl vK K o.n w (.returned (.int .i64 1)) w'):=eA (fun w' h=>by unfold fO;rw[Af];exact⟨rfl,h⟩)
  go_wp2_with fail
  refine(dq _ _ _ _).mono ?_;rintro e w3 ⟨rfl,L⟩;have N:=L.symm;subst N;go_wp2_with fail
  go_ret;exact t.out _ C
 .rcases bh (fun k:Led.Key=>k.state==1) K with⟨hi,D⟩|⟨i,q,hi,D,X,r⟩
  .have e:=HP.out.symm.trans hi
   subst e;have t:Hid (∀w',eF w w'->fO base gl vK K o.n w (.returned (.int .i64 7)) w'):=eA (fun w' h=>by unfold fO;rw[Af,D];exact⟨rfl,h⟩)
   clear hi D;go_wp2_with fail
   refine(dq _ _ _ _).mono ?_;rintro e w3 ⟨rfl,L⟩;have N:=L.symm;subst N;go_wp2_with fail
   go_ret;exact t.out _ C
  .have e:=HP.out.symm.trans hi
   subst e;rcases aS G with⟨_,h0,_⟩|⟨g,c,M,rfl,Ai,Ar,hB,Aj,Ak,hM,Ag⟩
   .omega
   have Y:gl≠g:=fun e=>Ao (by simp[Value.ownBlock,e]);have Z:ip ar 4 42 g c K.length w K:=⟨rfl,M,hB,hM,Ag⟩;have t:Hid (∀w',bK ar 4 42 base gl 4 (.slice (some ⟨g,0,none⟩) K.length c) (dH (fun j=>j.state==1) (fun j=>{ j with state:=2,since:=o.n }) (eo o.n K)) w w'->fO base gl (.slice (some ⟨g,0,none⟩) K.length c) K o.n w (.returned (.int .i64 0)) w'):=eA (fun w' h=>by unfold fO;rw[Af,D];exact⟨rfl,h⟩)
   have As:¬((i:Int)<0):=by omega
   have Au:(i:Int)<(K.length:Int):=by omega
   have A:=Z.below C;have b:=Ac.below C;have cK:w2.cell? ⟨gl,4,none⟩=some (.slice (some ⟨g,0,none⟩) K.length c):=(b.cell 4).trans h4;rcases bh (fun k:Led.Key=>k.state==2) K with⟨d,E⟩|⟨O,Q,d,E,l,y⟩
   .have e:=HA.out.symm.trans d
    subst e;have H:eo o.n K=K:=oz E;have HF:=eA (rp 2 o.n (lz C) A b Y q);have HM:=eA (fY (p:=fun j:Led.Key=>j.state==1) (f:=fun j=>{ j with state:=2,since:=o.n }) q r X);rw[H] at t;have R:=(A.cell aP (j:=2) (u:=nm K[i].state) q rfl);have S:=(A.cell aP (j:=3) (u:=nm K[i].since) q rfl);have Av:decide ((0:Int) <= -1)=false:=by decide
    go_wp2_with fail
    refine(dq _ _ _ _).mono ?_;rintro e w3 ⟨rfl,L⟩;have N:=L.symm;subst N;clear Z hi D X r d E H HP HA G hB hM Ag A;unfold nm at R S;obtain⟨R,Al⟩:=R;obtain⟨S,Am⟩:=S;obtain⟨s1,B⟩:∃x,K[i].state=x:=⟨_,rfl⟩;obtain⟨s2,I⟩:∃x,K[i].since=x:=⟨_,rfl⟩;rw[B] at R;rw[I] at S;clear B I;have F:Hid ((∀(w':World) (k:Nat) (u:Value),(w'.cell? ⟨gl,4,none⟩=some (.slice (some ⟨g,0,none⟩) K.length c)/\w'.cell? ⟨w.heap.size,1,none⟩=some (.int .i64 o.n))->(w'.setCell ⟨g,k,none⟩ u).cell? ⟨gl,4,none⟩=some (.slice (some ⟨g,0,none⟩) K.length c)/\(w'.setCell ⟨g,k,none⟩ u).cell? ⟨w.heap.size,1,none⟩=some (.int .i64 o.n))/\(∀(w':World),(w'.cell? ⟨gl,4,none⟩=some (.slice (some ⟨g,0,none⟩) K.length c)/\w'.cell? ⟨w.heap.size,1,none⟩=some (.int .i64 o.n))->w'.drew.cell? ⟨gl,4,none⟩=some (.slice (some ⟨g,0,none⟩) K.length c)/\w'.drew.cell? ⟨w.heap.size,1,none⟩=some (.int .i64 o.n))) :=
     eA ⟨fun w' k u h=>⟨(mR _ _ _ _ Y.symm).trans h.1,(mR _ _ _ _ (by omega)).trans h.2⟩,fun w' h=>h⟩
    go_upto_region 8 with fail
    go_region_held3 (fun w'=>w'.cell? ⟨gl,4,none⟩=some (.slice (some ⟨g,0,none⟩) K.length c)/\w'.cell? ⟨w.heap.size,1,none⟩=some (.int .i64 o.n)) (first|exact F.out.1 _ _ _ ⟨by assumption,by assumption⟩|exact F.out.1 _ _ _ (by assumption)|exact F.out.2 _ (F.out.1 _ _ _ ⟨by assumption,by assumption⟩)|exact F.out.2 _ (F.out.1 _ _ _ (by assumption))|go_keep) (fail)
    go_wp2_with fail
    go_ret;obtain⟨f1,z,f3,_⟩:=HF.out;refine t.out _ ?_;rw[HM.out];exact z.slot Ai Aj Ak f1 f3 h4
   .have e:=HA.out.symm.trans d
    subst e;have An:i≠O:=fun e=>by
     subst e;rw[beq_iff_eq] at X l;omega
    obtain⟨V,U⟩:∃V,K.set O { K[O] with state:=3,since:=o.n }=V:=⟨_,rfl⟩;have H:eo o.n K=V:=(fY (p:=fun j:Led.Key=>j.state==2) (f:=fun j=>{ j with state:=3,since:=o.n }) Q y l).trans U;have Aq:V.length=K.length:=by rw[<-U,List.length_set]
    have J:i<V.length:=by omega
    have Aa:(V[i].state==1)=true:=by
     have:V[i]=K[i]:=by
      simp only[<-U];exact List.getElem_set_ne (Ne.symm An) _
     rw[this];exact X
    have Ab:∀x∈V.take i,(x.state==1)=false:=by
     intro x hx;rw[<-U] at hx;rcases List.mem_or_eq_of_mem_set (by rw[List.take_set] at hx;exact hx) with h|h
     .exact r x h
     .subst h
      rfl
    have F3:=eA (rp 3 o.n (lz C) A b Y Q);have HM:=eA (fY (p:=fun j:Led.Key=>j.state==1) (f:=fun j=>{ j with state:=2,since:=o.n }) J Ab Aa);rw[H] at t;rw[U] at F3;have Aw:0<=(O:Int):=by omega
    have Ax:¬((O:Int)<0):=by omega
    have Ay:(O:Int)<(K.length:Int):=by omega
    have Az:=eA (And.intro Aq J);clear Ab Aa An H U y l;have R:=(A.cell aP (j:=2) (u:=nm K[O].state) Q rfl);have S:=(A.cell aP (j:=3) (u:=nm K[O].since) Q rfl);go_wp2_with fail
    refine(dq _ _ _ _).mono ?_;rintro e w3 ⟨rfl,L⟩;have N:=L.symm;subst N;clear Z hi D X r d E HP HA G hB hM Ag;unfold nm at R S;obtain⟨R,Al⟩:=R;obtain⟨S,Am⟩:=S;obtain⟨s1,B⟩:∃x,K[O].state=x:=⟨_,rfl⟩;obtain⟨s2,I⟩:∃x,K[O].since=x:=⟨_,rfl⟩;rw[B] at R;rw[I] at S;clear B I;have F:Hid ((∀(w':World) (k:Nat) (u:Value),(w'.cell? ⟨gl,4,none⟩=some (.slice (some ⟨g,0,none⟩) K.length c)/\w'.cell? ⟨w.heap.size,1,none⟩=some (.int .i64 o.n))->(w'.setCell ⟨g,k,none⟩ u).cell? ⟨gl,4,none⟩=some (.slice (some ⟨g,0,none⟩) K.length c)/\(w'.setCell ⟨g,k,none⟩ u).cell? ⟨w.heap.size,1,none⟩=some (.int .i64 o.n))/\(∀(w':World),(w'.cell? ⟨gl,4,none⟩=some (.slice (some ⟨g,0,none⟩) K.length c)/\w'.cell? ⟨w.heap.size,1,none⟩=some (.int .i64 o.n))->w'.drew.cell? ⟨gl,4,none⟩=some (.slice (some ⟨g,0,none⟩) K.length c)/\w'.drew.cell? ⟨w.heap.size,1,none⟩=some (.int .i64 o.n))) :=
     eA ⟨fun w' k u h=>⟨(mR _ _ _ _ Y.symm).trans h.1,(mR _ _ _ _ (by omega)).trans h.2⟩,fun w' h=>h⟩
    go_upto_region 7 with fail
    go_region_held3 (fun w'=>w'.cell? ⟨gl,4,none⟩=some (.slice (some ⟨g,0,none⟩) K.length c)/\w'.cell? ⟨w.heap.size,1,none⟩=some (.int .i64 o.n)) (first|exact F.out.1 _ _ _ ⟨by assumption,by assumption⟩|exact F.out.1 _ _ _ (by assumption)|exact F.out.2 _ (F.out.1 _ _ _ ⟨by assumption,by assumption⟩)|exact F.out.2 _ (F.out.1 _ _ _ (by assumption))|go_keep) (fail)
    obtain⟨w3,m⟩:=eC (((w2.setCell ⟨g,O*4+2,none⟩ (nm 3)).setCell ⟨g,O*4+3,none⟩ (nm o.n)).drew);rw[m] at F3;obtain⟨f1,z,f3,f4⟩:=F3.out;have b3:=f4 _ _ _ (by omega) b2;have c3:w3.cell? ⟨w.heap.size,1,none⟩=some (.int .i64 o.n):=b3.cell 1;have A0:w3.cell? ⟨gl,4,none⟩=some (.slice (some ⟨g,0,none⟩) K.length c):=(f3.cell 4).trans h4;have HF:=eA (rp 2 o.n f1 z f3 Y J);have R:=(z.cell aP (j:=2) (u:=nm V[i].state) J rfl);have S:=(z.cell aP (j:=3) (u:=nm V[i].since) J rfl);clear f1 z f4 F3;have HE:Hid (_):=eA m;clear m;unfold nm at R S;obtain⟨R,Al⟩:=R;obtain⟨S,Am⟩:=S;obtain⟨s1,B⟩:∃x,V[i].state=x:=⟨_,rfl⟩;obtain⟨s2,I⟩:∃x,V[i].since=x:=⟨_,rfl⟩;rw[B] at R;rw[I] at S;clear B I;rw[show ((w2.setCell ⟨g,O*4+2,none⟩ (.int .i64 3)).setCell ⟨g,O*4+3,none⟩ (.int .i64 o.n)).drew=w3 from HE.out];clear HE;go_upto_region 8 with fail
    go_region_held3 (fun w'=>w'.cell? ⟨gl,4,none⟩=some (.slice (some ⟨g,0,none⟩) K.length c)/\w'.cell? ⟨w.heap.size,1,none⟩=some (.int .i64 o.n)) (first|exact F.out.1 _ _ _ ⟨by assumption,by assumption⟩|exact F.out.1 _ _ _ (by assumption)|exact F.out.2 _ (F.out.1 _ _ _ ⟨by assumption,by assumption⟩)|exact F.out.2 _ (F.out.1 _ _ _ (by assumption))|go_keep) (fail)
    go_wp2_with fail
    go_ret;obtain⟨f1,z,f3,_⟩:=HF.out;refine t.out _ ?_;rw[HM.out];exact z.slot Ai Aj Ak f1 f3 h4
end
end Go.Proofs.YtmbpnkacggngkaaGreatDoor
