/- LedDoC, LedDoD, LedDoE, LedSame, LedEntry, LedDoF, LedDoG, LedDoH, LedDoI, LedDoJ (put together by bundle.py: only what is needed). -/
import Derived.Test.YtmbpnkacggngkaaGreatDoorLX7
set_option maxRecDepth 100000
set_option maxHeartbeats 16000000
namespace Go.Proofs.YtmbpnkacggngkaaGreatDoor
open Batch
open Tryz
section
open Go.RowKit Mem Led
theorem rows_set{α:Type} {enc:α->List Value} {k:Nat} (B:∀ x,(enc x).length=k) {L:List α} {i j:Nat} {x':α} {u:Value} {R:List Value} (hi:i<L.length) (G:j<k) (C:enc x'=(enc L[i]).set j u) :
  (af enc L++R).set (i * k+j) u=af enc (L.set i x')++R:=by
 have e:L=L.take i++L[i]::L.drop (i+1):=by rw [<-List.drop_eq_getElem_cons hi,List.take_append_drop]
 have E:L.set i x'=L.take i++x'::L.drop (i+1):=by rw [List.set_eq_take_append_cons_drop,if_pos hi]
 have F:(af enc (L.take i)).length=i * k:=by rw [aQ B,List.length_take,Nat.min_eq_left (by omega)]
 have H:=B L[i]
 rw [E]
 conv=>lhs; rw [e]
 rw [aL,bT,aL,bT,C]
 generalize af enc (L.take i)=A at *
 generalize af enc (L.drop (i+1))=D at *
 generalize enc L[i]=Y at *
 simp only [List.append_assoc]
 rw [List.set_append_right _ _ (by omega),List.set_append_left _ _ (by omega)]
 congr 2
 rw [F,Nat.add_sub_cancel_left]
theorem fw{α:Type} {p:α->Bool} {f:α->α}:∀ {L:List α} {i:Nat} (hi:i<L.length),(∀ x∈L.take i,p x=false)->p L[i]=true->dB p f L=L.set i (f L[i])
 | a::L,0,_,_,hp=>by
  unfold dB; have:p a=true:=hp; rw [if_pos this]; rfl
 | a::L,i+1,hi,h,hp=>by
  unfold dB; have A:p a=false:=h a (by simp); rw [A]; simp only [Bool.false_eq_true,if_false,List.set_cons_succ,List.getElem_cons_succ]; rw [fw (L:=L) (f:=f) (by simpa using hi) (fun x hx=>h x (by rw [List.take_succ_cons]; exact List.mem_cons_of_mem _ hx)) hp]
theorem mH{α:Type} {p:α->Bool}:∀ {L:List α} {i:Nat} (hi:i<L.length),(∀ x∈L.take i,p x=false)->p L[i]=true->L.find? p=some L[i]
 | a::L,0,_,_,hp=>by
  have:p a=true:=hp; simp [this]
 | a::L,i+1,hi,h,hp=>by
  have A:p a=false:=h a (by simp); rw [List.find?_cons,A]; simp only [List.getElem_cons_succ]; exact mH (by simpa using hi) (fun x hx=>h x (by rw [List.take_succ_cons]; exact List.mem_cons_of_mem _ hx)) hp
theorem iY{α:Type} {enc:α->List Value} {k:Nat} (B:∀ x,(enc x).length=k) {e:TypeId} {base gl sl g c i j:Nat} {L:List α} {M vs:List Value} {N:TypeId} {x':α} {u:Value} {w A:World} (O:eD w A) (C:base<=g) (Q:Blk A g M e) (D:L.length<=c) (E:c<=maxLen) (S:M.length=c * k) (F:M.take (L.length * k)=af enc L)
  (hi:i<L.length) (T:j<k) (U:enc x'=(enc L[i]).set j u) (G:gl≠g) (H:Blk w gl vs N) (I:vs[sl]?=some (.slice (some ⟨g,0,none⟩) L.length c)) :
  bu enc k e base gl sl (.slice (some ⟨g,0,none⟩) L.length c) (L.set i x') w (A.setCell ⟨g,i * k+j,none⟩ u):=by
 have J:Blk (A.setCell ⟨g,i * k+j,none⟩ u) gl vs N:=(H.below O).set_ne (p:=⟨g,i * k+j,none⟩) G _
 have K:Blk (A.setCell ⟨g,i * k+j,none⟩ u) g (M.set (i * k+j) u) e:=Q.set _ _
 refine⟨_,A.setCell ⟨g,i * k+j,none⟩ u,(gR J I).symm,bR O ?_,?_,.inl rfl⟩
 .rw [setCell_eq_setRow A g (i * k+j) M.toArray _ (0,0) _ Q]
  exact cO (eZ _ _)
 .rw [List.length_set]
  refine dz C K D E (by rw [List.length_set,S]) ?_; have e:M=af enc L++M.drop (L.length * k):=by rw [<-F,List.take_append_drop]
  have h:=rows_set B (R:=M.drop (L.length * k)) hi T U; rw [<-e] at h; rw [h,List.take_append_of_le_length (by rw [aQ B,List.length_set]; exact eG),List.take_of_length_le (by rw [aQ B,List.length_set]; exact eG)]
theorem seq1_any(x:Led.Node) (n:Txt) (A:Nat) (W:World) (C:W.cell? ⟨A,2,none⟩=some (.string (str n))) :
  Calls prog 115 (#[.agg (ac x).toArray]++#[.pointer (some ⟨A,0,none⟩)]) W fun e w'=>e=.returned (.bool (x.name==n))/\eD W w':=by
 have B:=World.block_lt_of_cell? W _ C
 simp only [] at B
 have D:∀ o,eD W (W.alloc o):=fun o=>eH
 show Calls prog 115 #[.agg #[.string (str x.name),.string (str x.key),.int .i64 x.expires,.int .i64 x.seq,.string (str x.doc)],.pointer (some ⟨A,0,none⟩)] W _
 go_enter func115,ntmps115
 go_wp2_with fail
 go_ret
 exact⟨by first|rfl|simp,D _⟩
def iD (base gl:Nat) (vN:Value) (N:List Led.Node) (s:Txt) (n:Int) (w:World) (x:Ending) (w':World):Prop:=match N.find? (fun d=>d.name==s) with
 | none=>x=.returned (.int .i64 7)/\eD w w'
 | some d=>if n<=d.seq||n > 1099511627776 then x=.returned (.int .i64 22)/\eD w w'
  else x=.returned (.int .i64 0)/\bu ac 5 40 base gl 1 vN (dB (fun d=>d.name==s) (fun d=>{ d with seq:=n }) N) w w'
theorem seq_any(gl:Nat) (ops vs:List Value) (s:Txt) (n:Int) (N:List Led.Node) (base:Nat) (vN:Value) (w:World) (hN:N.length<=1000) (r:ops[1]?=some (.int .i64 n)) (Ae:ops[2]?=some (.string (str s)))
  (Q:Blk w gl vs 30) (h1:vs[1]?=some vN) (H:w.ownsRow base 40 5 vN N.length (af ac N)) (Af:vN.ownBlock≠some gl) :
  Calls prog 55 #[.pointer (some ⟨gl,0,none⟩),.agg ops.toArray] w (iD base gl vN N s n w):=by
 obtain⟨A,c,rfl,Ag,Ao⟩:=ak H
 obtain⟨W,hW⟩:=eA (w.alloc (.cells ops.toArray 47))
 have b0:Blk W w.heap.size ops 47:=by rw [<-hW]; exact Blk.new w _ _
 have G:eD w W:=eF hW
 have t:=Q.below G
 have cN:W.cell? ⟨gl,1,none⟩=some (.slice A N.length c):=(t.cell 1).trans h1
 have E:=qk 115 #[.pointer (some ⟨w.heap.size,0,none⟩)] (enters_of func115 (by kernel_rfl) rfl) (fun d=>d.name==s) A N.length c N W (Vs.of_own (ae H G eG)) (by omega) (fun u x _ O=>seq1_any x s w.heap.size u (((b0.below O).cell 2).trans Ae))
 have HW:=hO hW
 clear hW
 obtain⟨CS,y⟩:=eA (ops.toArray)
 rw [y] at HW ⊢
 clear y
 go_enter func55,ntmps55
 go_upto_region 1 with fail
 rw [HW.out]
 clear HW
 rcases bg (fun d:Led.Node=>d.name==s) N with⟨hi,z⟩|⟨i,R,hi,z,k,l⟩
 .rw [hi] at E
  have HR:Hid (∀ w',eD w w'->iD base gl (.slice A N.length c) N s n w (.returned (.int .i64 7)) w'):=hO (fun w' h=>by
   unfold iD; have:N.find? (fun d=>d.name==s)=none:=by
    rw [List.find?_eq_none]; intro x hx; rw [List.any_eq_false] at z; exact z x hx
   rw [this]; exact⟨rfl,h⟩)
  clear hi z; go_wp2_with fail
  refine E.mono ?_; rintro e C ⟨rfl,S⟩; go_wp2; go_ret; exact HR.out _ (G.trans (S.mono G.size))
 .rw [hi] at E
  rcases aW H with⟨_,h0,_⟩|⟨g,c',M,he,Ah,Ap,hB,An,Aa,hM,Ab⟩
  .omega
  injection he with he1 _ he3
  subst he1 he3; have Ai:gl≠g:=fun e=>Af (by simp [Value.ownBlock,e]); obtain⟨d,hd⟩:=eA (N[i]); have D:N.find? (fun d=>d.name==s)=some d:=by rw [mH R l k,hd]
  have V:dB (fun d:Led.Node=>d.name==s) (fun d=>{ d with seq:=n }) N=N.set i { d with seq:=n }:=by rw [fw R l k,hd]
  have I:Hid ((n<=d.seq||n > 1099511627776)=true->∀ w',eD w w'->iD base gl (.slice (some ⟨g,0,none⟩) N.length c) N s n w (.returned (.int .i64 22)) w'):=hO (fun h w' O=>by
   unfold iD; rw [D]; simp only [h,if_true]; exact⟨trivial,O⟩)
  have H0:Hid ((n<=d.seq||n > 1099511627776)=false->∀ w',bu ac 5 40 base gl 1 (.slice (some ⟨g,0,none⟩) N.length c) (N.set i { d with seq:=n }) w w'->iD base gl (.slice (some ⟨g,0,none⟩) N.length c) N s n w (.returned (.int .i64 0)) w'):=hO (fun h w' O=>by
   unfold iD; rw [D,V]; simp only [h,Bool.false_eq_true,if_false]; exact⟨trivial,O⟩)
  have J:∀ u,Blk u g M 40->u.cell? ⟨g,i * 5+3,none⟩=some (.int .i64 d.seq):=fun u O=>by
   have Aj:i * 5+3<N.length * 5:=by omega
   have h:=jF aR (enc:=ac) R (j:=3) (by omega); rw [O.cell]; rw [<-Ab,List.getElem?_take,if_pos Aj,hd] at h; exact h
  have T:Hid (∀ C,eD w C->bu ac 5 40 base gl 1 (.slice (some ⟨g,0,none⟩) N.length c) (N.set i { d with seq:=n }) w (C.setCell ⟨g,i * 5+3,none⟩ (.int .i64 n))):=hO (fun C O =>
   iY aR O Ah (hB.below O) Ag Aa hM Ab R (by omega) (by rw [hd]; rfl) Ai Q h1)
  have Aq:¬ ((i:Int)<0):=by omega
  have Ar:(i:Int)<(N.length:Int):=by omega
  clear hi z k l D V hd; go_wp2_with fail
  refine E.mono ?_; rintro e C ⟨rfl,S⟩; have B:eD w C:=G.trans (S.mono G.size); have b1:=b0.below S; have X:=Q.below B; have Ak:=hB.below B; have f1:∀ p,(ab C p).cell? ⟨gl,1,none⟩=some (.slice (some ⟨g,0,none⟩) N.length c):=fun p=>(ap (a:=⟨gl,1,none⟩) X.lt p).trans ((X.cell 1).trans h1); have f2:∀ p,(ab C p).cell? ⟨w.heap.size,1,none⟩=some (.int .i64 n):=fun p=>(ap (a:=⟨w.heap.size,1,none⟩) b1.lt p).trans ((b1.cell 1).trans r); have f3:∀ p,(ab C p).cell? ⟨g,i * 5+3,none⟩=some (.int .i64 d.seq):=fun p=>J _ (Ak.below (aa C p)); generalize d.seq=sq at *; by_cases K:n<=sq
  .have Ac:decide (n<=sq)=true:=decide_eq_true K
   have L:=I.out (by simp [K]); have o:=hO L; clear L I H0 J T; go_wp2_with fail
   refine az ?_; repeat (go_big_quiet_step (fail))
   refine wpQuiet_nil ?_; rintro _ ⟨Y,rfl⟩; have q:=aa C Y; clear f1 f2 f3; generalize ab C Y=m at *; go_wp2_with fail
   go_ret; exact o.out _ (B.trans (q.mono B.size))
  .by_cases U:n > 1099511627776
   .have Ac:decide (n<=sq)=false:=decide_eq_false K
    have Al:decide ((1099511627776:Int)<n)=true:=decide_eq_true U; have L:=I.out (by simp [U]); have o:=hO L; clear L I H0 J T; go_wp2_with fail
    refine az ?_; repeat (go_big_quiet_step (fail))
    refine wpQuiet_nil ?_; rintro _ ⟨Y,rfl⟩; have q:=aa C Y; clear f1 f2 f3; generalize ab C Y=m at *; go_wp2_with fail
    go_ret; exact o.out _ (B.trans (q.mono B.size))
   .have Ac:decide (n<=sq)=false:=decide_eq_false K
    have Al:decide ((1099511627776:Int)<n)=false:=decide_eq_false U; have h0:=H0.out (by simp [K,U]); have o:=hO h0; clear h0 I H0; go_wp2_with fail
    refine az ?_; repeat (go_big_quiet_step (fail))
    refine wpQuiet_nil ?_; rintro _ ⟨Y,rfl⟩; have q:=aa C Y; clear f1 f2 f3; generalize ab C Y=m at *; have F:eD w m:=B.trans (q.mono B.size); have b2:=b1.below q; have Z:=Q.below F; have As:=hB.below F; have f1:∀ p,(ab m p).cell? ⟨gl,1,none⟩=some (.slice (some ⟨g,0,none⟩) N.length c):=fun p=>(ap (a:=⟨gl,1,none⟩) Z.lt p).trans ((Z.cell 1).trans h1); have f2:∀ p,(ab m p).cell? ⟨w.heap.size,1,none⟩=some (.int .i64 n):=fun p=>(ap (a:=⟨w.heap.size,1,none⟩) b2.lt p).trans ((b2.cell 1).trans r); go_wp2_with fail
    refine bp 9 ?_; simp only [List.take_succ_cons,List.take_zero,List.drop_succ_cons,List.drop_zero]; repeat (go_big_quiet_step (fail))
    refine wpQuiet_nil ?_; rintro _ ⟨py,rfl⟩; have g3:=aa m py; clear f1 f2; generalize ab m py=w3 at *; have b:eD w w3:=F.trans (g3.mono F.size); have Ad:=hB.below b; have At:=J _ Ad; have Au:w3.frozen? ⟨g,i * 5+3,none⟩=false:=Ad.froz _; have f:=o.out _ (T.out w3 b); have Am:=hO f; clear f o T J; go_wp2_with fail
    go_ret; exact Am.out
end
section
open Go.RowKit Mem Led
theorem lO(n:Led.Key):∀ u∈aq n,u.oneCell'=true:=by
 intro u A
 simp [aq,tx,nm] at A
 rcases A with rfl|rfl|rfl|rfl <;> rfl
theorem state1_any(x:Led.Key) (n:Int) (A:Nat) (W:World) (C:W.cell? ⟨A,0,none⟩=some (.int .i64 n)) :
  Calls prog 147 (#[.agg (aq x).toArray]++#[.pointer (some ⟨A,0,none⟩)]) W fun e w'=>e=.returned (.bool (x.state==n))/\eD W w':=by
 have B:=World.block_lt_of_cell? W _ C
 simp only [] at B
 have D:∀ o,eD W (W.alloc o):=fun o=>eH
 show Calls prog 147 #[.agg #[.string (str x.kid),.string (str x.seed),.int .i64 x.state,.int .i64 x.since],.pointer (some ⟨A,0,none⟩)] W _
 go_enter func147,ntmps147
 go_wp2_with fail
 go_ret
 exact⟨by first|rfl|simp,D _⟩
theorem tu(x:Led.Key) (n:Txt) (A:Nat) (W:World) (C:W.cell? ⟨A,17,none⟩=some (.string (str n))) :
  Calls prog 103 (#[.agg (aq x).toArray]++#[.pointer (some ⟨A,0,none⟩)]) W fun e w'=>e=.returned (.bool (x.kid==n))/\eD W w':=by
 have B:=World.block_lt_of_cell? W _ C
 simp only [] at B
 have D:∀ o,eD W (W.alloc o):=fun o=>eH
 show Calls prog 103 #[.agg #[.string (str x.kid),.string (str x.seed),.int .i64 x.state,.int .i64 x.since],.pointer (some ⟨A,0,none⟩)] W _
 go_enter func103,ntmps103
 go_wp2_with fail
 go_ret
 exact⟨by first|rfl|simp,D _⟩
theorem mU(gl:Nat) (vs:List Value) (n:Int) (K:List Led.Key) (base:Nat) (vK:Value) (w:World) (Q:K.length<=1000) (F:Blk w gl vs 30) (H:vs[4]?=some vK) (C:w.ownsRow base 42 4 vK K.length (af aq K)) :
  Calls prog 101 #[.pointer (some ⟨gl,0,none⟩),.int .i64 n] w fun e w'=>e=.returned (.int .i64 (bc (fun k=>k.state==n) K))/\eD w w':=by
 obtain⟨A,c,rfl,I,J⟩:=ak C
 obtain⟨W,E⟩:=eA (w.alloc (.cells #[.int .i64 n] 3))
 have L:Blk W w.heap.size [.int .i64 n] 3:=by rw [<-E]; exact Blk.new w [.int .i64 n] _
 have B:eD w W:=eF E
 have R:W.cell? ⟨gl,4,none⟩=some (.slice A K.length c):=((F.below B).cell 4).trans H
 have D:=lQ 147 #[.pointer (some ⟨w.heap.size,0,none⟩)] (enters_of func147 (by kernel_rfl) rfl) (fun k=>k.state==n) A K.length c K W (Vs.of_own (ae C B eG)) (by omega) (fun M x _ N=>state1_any x n w.heap.size M ((L.below N).cell 0))
 generalize bc (fun k:Led.Key=>k.state==n) K=r at *
 have O:=hO E
 clear E
 go_enter func101,ntmps101
 go_upto_region 1 with fail
 rw [O.out]
 go_wp2_with fail
 refine D.mono ?_
 rintro e S ⟨rfl,G⟩
 go_wp2
 go_ret
 exact⟨rfl,B.trans (G.mono B.size)⟩
theorem op_key(o:Led.Op) (sv kv:Value):∀ j u,(aq o.key)[j]?=some u->(ah o sv kv)[17+j]?=some u:=by
 intro j u h
 match j,h with
 | 0,h=>exact h
 | 1,h=>exact h
 | 2,h=>exact h
 | 3,h=>exact h
 | j+4,h=>simp [aq] at h
theorem p7{w:World} {g:Nat} {o:Led.Op} {sv kv:Value} (h:Blk w g (ah o sv kv) 47):(rS (.pointer (some ⟨g,17,none⟩))).run prog w=.ok (.agg (aq o.key).toArray) w :=
 cl underlying42 rfl sizeKey rfl fun j u A=>by rw [h.cell]; exact op_key o sv kv j u A
theorem idx_neg{α:Type} (p:α->Bool) (L:List α):(bc p L ≥ 0/\L.any p=true)\/(bc p L = -1/\L.any p=false):=by
 rcases bg p L with⟨B,A⟩|⟨i,_,B,A,_⟩
 .exact .inr ⟨B,A⟩
 .exact .inl ⟨by omega,A⟩
def eV (base gl:Nat) (vK:Value) (K:List Led.Key) (k:Led.Key) (w:World) (x:Ending) (w':World):Prop :=
 if !dC k||!(k.state==1) then x=.returned (.int .i64 1)/\eD w w'
 else if K.any (fun j=>j.state==1)||K.any (fun j=>j.kid==k.kid) then x=.returned (.int .i64 8)/\eD w w'
 else if 8<=K.length then x=.returned (.int .i64 6)/\eD w w'
 else x=.returned (.int .i64 0)/\bu aq 4 42 base gl 4 vK (K++[k]) w w'
theorem prepare_any(gl:Nat) (o:Led.Op) (sv kv:Value) (vs:List Value) (K:List Led.Key) (base:Nat) (vK:Value) (w:World) (hK:K.length<=8) (f:base<=w.heap.size)
  (N:Blk w gl vs 30) (h4:vs[4]?=some vK) (H:w.ownsRow base 42 4 vK K.length (af aq K)) (Ae:vK.ownBlock≠some gl) :
  Calls prog 50 #[.pointer (some ⟨gl,0,none⟩),.agg (ah o sv kv).toArray] w (eV base gl vK K o.key w):=by
 obtain⟨A,c,rfl,As,At⟩:=ak H
 obtain⟨W,hW⟩:=eA (w.alloc (.cells (ah o sv kv).toArray 47))
 have b0:Blk W w.heap.size (ah o sv kv) 47:=by rw [<-hW]; exact Blk.new w _ _
 have O:eD w W:=eF hW
 have Af:=p7 b0
 have C:=key_any o.key W
 have HW:=hO hW
 clear hW
 obtain⟨CS,n⟩:=eA ((ah o sv kv).toArray)
 rw [n] at HW ⊢
 clear n
 go_enter func50,ntmps50
 go_upto_region 1 with fail
 rw [HW.out]
 clear HW
 by_cases B:(!dC o.key||!(o.key.state==1))=true
 .have Q:Hid (∀ w',eD w w'->eV base gl (.slice A K.length c) K o.key w (.returned (.int .i64 1)) w'):=hO (fun w' h=>by unfold eV; rw [if_pos B]; exact⟨rfl,h⟩)
  cases S:dC o.key
  .rw [S] at C
   clear B S; go_wp2_with fail
   refine C.mono ?_; rintro e l ⟨rfl,L⟩; go_wp2; go_ret; exact Q.out _ (O.trans (L.mono O.size))
  .have hs:¬ o.key.state=1:=by
    intro e; rw [S,e] at B; simp at B
   rw [S] at C; clear B S; go_wp2_with fail
   refine C.mono ?_; rintro e l ⟨rfl,L⟩; have Ag:l.cell? ⟨w.heap.size,19,none⟩=some (.int .i64 o.key.state):=(b0.below L).cell 19; go_wp2_with fail
   go_ret; exact Q.out _ (O.trans (L.mono O.size))
 .have S:dC o.key=true:=by
   cases h:dC o.key
   .rw [h] at B; simp at B
   .rfl
  have hs:o.key.state=1:=by
   rw [S] at B; simpa using B
  rw [S] at C; have I:Hid (∀ x w',(if K.any (fun j=>j.state==1)||K.any (fun j=>j.kid==o.key.kid) then x=.returned (.int .i64 8)/\eD w w'
    else if 8<=K.length then x=.returned (.int .i64 6)/\eD w w'
    else x=.returned (.int .i64 0)/\bu aq 4 42 base gl 4 (.slice A K.length c) (K++[o.key]) w w')->eV base gl (.slice A K.length c) K o.key w x w'):=hO (fun x w' h=>by unfold eV; rw [if_neg B]; exact h)
  clear B S; go_wp2_with fail
  refine C.mono ?_; rintro e l ⟨rfl,L⟩; have E:eD w l:=O.trans (L.mono O.size); have b1:=b0.below L; have q:=N.below E; have Ag:l.cell? ⟨w.heap.size,19,none⟩=some (.int .i64 1):=by rw [b1.cell 19,<-hs]; rfl
  have T:=mU gl vs 1 K base (.slice A K.length c) l (by omega) q h4 (ae H E eG); clear Af C; rcases idx_neg (fun k:Led.Key=>k.state==1) K with⟨hi,s⟩|⟨hi,s⟩
  .have Q:Hid (∀ w',eD w w'->eV base gl (.slice A K.length c) K o.key w (.returned (.int .i64 8)) w'):=hO (fun w' h=>I.out _ _ (by rw [s]; exact⟨rfl,h⟩))
   generalize bc (fun k:Led.Key=>k.state==1) K=r at *; have Ah:decide (0<=r)=true:=decide_eq_true hi; clear s I; go_wp2_with fail
   refine T.mono ?_; rintro e w2 ⟨rfl,U⟩; go_wp2_with fail
   go_ret; exact Q.out _ (E.trans (U.mono E.size))
  .have HA:=hO s
   have Ah:decide ((0:Int) <= -1)=false:=by decide
   rw [hi] at T; clear hi s; go_wp2_with fail
   refine T.mono ?_; rintro e w2 ⟨rfl,U⟩; have F:eD w w2:=E.trans (U.mono E.size); have b2:=b1.below U; have t:=N.below F; have cK:w2.cell? ⟨gl,4,none⟩=some (.slice A K.length c):=(t.cell 4).trans h4; have J:=hasKey_any 103 #[.pointer (some ⟨w.heap.size,0,none⟩)] (enters_of func103 (by kernel_rfl) rfl) (fun k=>k.kid==o.key.kid) A K.length c K w2 (Vs.of_own (ae H F eG)) (by omega) (fun W' x _ hb=>tu x o.key.kid w.heap.size W' ((b2.below hb).cell 17))
   cases m:K.any (fun k=>k.kid==o.key.kid)
   .rw [m] at J
    have HK:=hO m; clear m; go_wp2_with fail
    refine J.mono ?_; rintro e X ⟨rfl,V⟩; have M:eD w X:=F.trans (V.mono F.size); have b3:=b2.below V; have Y:=N.below M; have Ai:X.cell? ⟨gl,4,none⟩=some (.slice A K.length c):=(Y.cell 4).trans h4; by_cases h8:8<=K.length
    .have Q:Hid (∀ w',eD w w'->eV base gl (.slice A K.length c) K o.key w (.returned (.int .i64 6)) w'):=hO (fun w' h=>I.out _ _ (by rw [HA.out,HK.out]; simp only [Bool.or_self,Bool.false_eq_true,if_false,if_pos h8]; exact⟨trivial,h⟩))
     have Aj:(8:Int)<=(K.length:Int):=by omega
     clear I; go_wp2_with fail
     go_ret; exact Q.out _ M
    .have Q:Hid (∀ w',bu aq 4 42 base gl 4 (.slice A K.length c) (K++[o.key]) w w'->eV base gl (.slice A K.length c) K o.key w (.returned (.int .i64 0)) w'):=hO (fun w' h=>I.out _ _ (by rw [HA.out,HK.out]; simp only [Bool.or_self,Bool.false_eq_true,if_false,if_neg h8]; exact⟨trivial,h⟩))
     have Aj:¬ (8:Int)<=(K.length:Int):=by omega
     clear I HA HK J T hs; have f1:∀ p,(ab X p).cell? ⟨gl,4,none⟩=some (.slice A K.length c):=fun p=>(ap (a:=⟨gl,4,none⟩) Y.lt p).trans Ai; have f2:∀ p,(rS (.pointer (some ⟨w.heap.size,17,none⟩))).run prog (ab X p)=.ok (.agg #[.string (str o.key.kid),.string (str o.key.seed),.int .i64 o.key.state,.int .i64 o.key.since]) (ab X p):=fun p=>p7 (b3.below (aa X p)); go_upto_region 7 with fail
     refine aK [0] [] [1,2,3,4,5,6] [(7,fun v w'=>∃ Z,X.heap.size<=Z/\v=.slice (some ⟨Z,0,none⟩) 1 1/\Blk w' Z (aq o.key) 42)] [8,9,10,11] (by kernel_rfl) (by kernel_rfl) (by kernel_rfl) (by
      intro z hz; simp only [List.mem_cons,List.not_mem_nil,or_false] at hz; subst hz; exact ax fun v w w' hb ⟨Z,e0,e,h⟩=>⟨Z,e0,e,h.below hb⟩) ?_
     simp only [ix,pick,List.getD_cons_zero,List.getD_cons_succ]; repeat (go_big_quiet_step (fail))
     refine wpQuiet_nil ?_; repeat (go_big_quiet_step (fail))
     refine wpQuiet_nil ?_; refine⟨_,rfl,rfl,?_,?_⟩
     .intro w4 Ak
      have Al:=Ak.below.size; go_simp
      exact⟨GR.of eH,w4.heap.size,Al,rfl,Blk.new w4 (aq o.key) _⟩
     .rintro v w6 Am ⟨_,Z,Au,rfl,g⟩
      have An:=Am.below; have D:eD w w6:=M.trans (An.mono M.size); have b:=ae H D eG; obtain⟨iT,Ao,Ap,Aq,Ar⟩:=al jM; have y:Vs w6 w6.heap.size 4 (some ⟨Z,0,none⟩) 1 (aq o.key):=⟨by rw [aP],fun j u hj=>⟨_,rfl,g.lt,by rw [aO,g.cell j]; exact hj⟩⟩
      obtain⟨v',w7,Aa,G,i,Ab⟩:=aT (P:=prog) w6 base 27 27 42 iT _ 4 48 underlying27 Ao Ap Aq Ar rfl (by omega) _ K.length _ b w6.heap.size (some ⟨Z,0,none⟩) 1 1 (aq o.key) y (lO _) (by unfold maxLen; omega) (by omega) (Nat.le_trans f D.size)
      obtain⟨A',c',rfl,_,_⟩:=ak G; have Ac:gl<w6.heap.size:=Nat.lt_of_lt_of_le N.lt D.size; have R:=i.block gl Ac (fun e=>Ae e.symm); have Av:w7.cell? ⟨gl,4,none⟩=some (.slice A K.length c):=(World.cell?_of_block (a:=⟨gl,4,none⟩) R).trans (((N.below D).cell 4).trans h4); have Aw:w7.frozen? ⟨gl,4,none⟩=false:=(World.frozen?_of_block (a:=⟨gl,4,none⟩) R).trans ((N.below D).froz 4); have Ad:af aq K++aq o.key=af aq (K++[o.key]):=by rw [aL]; simp [af]
      rw [Ad] at G; have d:=Q.out (w7.setCell ⟨gl,4,none⟩ (.slice A' (K.length+1) c')) ⟨_,w7,rfl,bR D i,by rw [List.length_append]; exact G,Ab.imp id (fun h=>⟨_,D.size,h⟩)⟩
      have HH:=hO d; clear d Q G i Ab R y g b H f1 f2; go_wp2_with (at_builtin; refine Lib.wpList_append_run _ rfl _ _ _ _ rfl _ _ rfl rfl _ _ Aa ?_)
      (try rw [am])
      (try go_wp2)
      go_ret; exact HH.out
   .rw [m] at J
    have Q:Hid (∀ w',eD w w'->eV base gl (.slice A K.length c) K o.key w (.returned (.int .i64 8)) w'):=hO (fun w' h=>I.out _ _ (by rw [m,Bool.or_true]; exact⟨rfl,h⟩))
    clear m I; go_wp2_with fail
    refine J.mono ?_; rintro e X ⟨rfl,V⟩; go_wp2_with fail
    go_ret; exact Q.out _ (F.trans (V.mono F.size))
end
section
open Go.RowKit Mem Led
def gN (u v:Value):Prop:=u.ownBlock=none\/u.ownBlock≠v.ownBlock
section
variable {α:Type} {enc:α->List Value} {k:Nat} {e:TypeId} {base gl sl:Nat} {v:Value} {L':List α} {w w':World}
theorem dh{A:World} {B:Nat} {e':TypeId} {s n:Nat} {u x:Value} {xs:List Value} {a:Addr} (h:A.ownsRow B e' s u n xs) (C:u.ownBlock≠some a.block):(A.setCell a x).ownsRow B e' s u n xs:=by
 refine⟨h.1,?_⟩
 rcases h.2 with F|⟨b,cap,D,E,G,H,r⟩
 .exact .inl F
 .exact .inr ⟨b,cap,D,E,G,by
   rw [heap_setCell_other A a b x (fun h=>C (by rw [E]; simp [Value.ownBlock,h]))]
   exact H,r⟩
theorem bu.opened(h:bu enc k e base gl sl v L' w w') {vs:List Value} {t:TypeId} (E:Blk w gl vs t) (D:v.ownBlock≠some gl) :
  ∃ A,Blk w' gl (vs.set sl A) t/\w'.ownsRow base e k A L'.length (af enc L')/\A.ownBlock≠some gl/\(A.ownBlock=v.ownBlock\/∃ g,w.heap.size<=g/\A.ownBlock=some g):=by
 obtain⟨A,G,rfl,H,I,C⟩:=h
 have B:A.ownBlock≠some gl:=by
  rcases C with C|⟨g,J,C⟩
  .rw [C]; exact D
  .rw [C]
   intro e; injection e with e
   have:=E.lt; omega
 have F:Blk G gl vs t:=by
  unfold Blk; rw [H.block gl E.lt (fun e=>D e.symm)]; exact E
 exact⟨A,F.set sl A,dh I B,B,C⟩
theorem bu.keeps(h:bu enc k e base gl sl v L' w w') {B:Nat} {e':TypeId} {s n:Nat} {u:Value} {xs:List Value} (D:w.ownsRow B e' s u n xs) (A:gN u v) (C:u.ownBlock≠some gl):w'.ownsRow B e' s u n xs:=by
 obtain⟨F,G,rfl,E,H,I⟩:=h
 exact dh (D.kept E A) C
theorem bu.below(h:bu enc k e base gl sl v L' w w') {B:Nat} (C:B<=gl) (D:∀ g,v.ownBlock=some g->B<=g) (G:B<=w.heap.size):Below B w w':=by
 obtain⟨H,E,rfl,A,I,J⟩:=h
 have F:Below B w E:=⟨A.os,A.tape,A.output,A.size,fun i hi=>A.block i (by omega) (fun e=>by have:=D i e.symm; omega)⟩
 exact F.setCell (p:=⟨gl,sl,none⟩) C _
theorem bu.blk(h:bu enc k e base gl sl v L' w w') {g:Nat} {cs:List Value} {t:TypeId} (B:Blk w g cs t) (C:v.ownBlock≠some g) (D:g≠gl):Blk w' g cs t:=by
 obtain⟨G,E,rfl,F,H,I⟩:=h
 have A:Blk E g cs t:=by
  unfold Blk; rw [F.block g B.lt (fun e=>C e.symm)]; exact B
 exact A.set_ne (p:=⟨gl,sl,none⟩) D _
theorem bu.size(h:bu enc k e base gl sl v L' w w'):w.heap.size<=w'.heap.size:=by
 obtain⟨B,C,rfl,A,D,E⟩:=h
 have:=A.size
 simpa using this
end
def fG (base gl:Nat) (vN vB:Value) (N:List Led.Node) (A:List Txt) (s:Txt) (w:World) (x:Ending) (w':World):Prop :=
 if Ids.agent s then (if A.contains s then x=.returned (.int .i64 8)/\eD w w' else match put ord 8 s A with
  | none=>x=.returned (.int .i64 6)/\eD w w'
  | some L'=>x=.returned (.int .i64 0)/\∃ B x',bu aj 1 9 base gl 2 vB L' w B/\bJ ac 5 40 base gl 1 vN N (fun n=>n.name==s) B x' w')
 else x=.returned (.int .i64 1)/\eD w w'
theorem ban_any(gl:Nat) (o:Led.Op) (sv kv:Value) (vs:List Value) (N:List Led.Node) (A:List Txt) (base:Nat) (vN vB:Value) (w:World) (hz:o.name.length<=9223372036854775807) (hN:N.length<=4) (hB:A.length<=8) (hr:bd ord A) (S:base<=w.heap.size)
  (I:Blk w gl vs 30) (h1:vs[1]?=some vN) (h2:vs[2]?=some vB) (Y:w.ownsRow base 40 5 vN N.length (af ac N)) (Z:vN.ownBlock≠some gl) (D:w.ownsRow base 9 1 vB A.length (af aj A)) (O:vB.ownBlock≠some gl) (r:gN vN vB) :
  Calls prog 47 #[.pointer (some ⟨gl,0,none⟩),.agg (ah o sv kv).toArray] w (fG base gl vN vB N A o.name w):=by
 obtain⟨AB,cB,rfl,Af,Ag⟩:=ak D
 obtain⟨W,m⟩:=eA (w.alloc (.cells (ah o sv kv).toArray 47))
 have b0:Blk W w.heap.size (ah o sv kv) 47:=by rw [<-m]; exact Blk.new w _ _
 have J:eD w W:=eF m
 have c2:W.cell? ⟨w.heap.size,2,none⟩=some (.string (str o.name)):=b0.cell 2
 have G:=jr o.name W hz
 have s:=hO m
 clear m
 obtain⟨CS,T⟩:=eA ((ah o sv kv).toArray)
 have b:=hO T
 rw [T] at s ⊢
 clear T
 go_enter func47,ntmps47
 go_upto_region 1 with fail
 rw [s.out]
 clear s
 cases K:Ids.agent o.name
 .have t:Hid (∀ w',eD w w'->fG base gl vN (.slice AB A.length cB) N A o.name w (.returned (.int .i64 1)) w'):=hO (fun w' h=>by unfold fG; rw [K]; exact⟨rfl,h⟩)
  rw [K] at G; clear K; go_wp2_with fail
  refine G.mono ?_; rintro e E ⟨rfl,L⟩; go_wp2; go_ret; exact t.out _ (J.trans (L.mono J.size))
 .rw [K] at G
  go_wp2_with fail
  refine G.mono ?_; rintro e E ⟨rfl,L⟩; have q:=b0.below L; have C:eD w E:=J.trans (L.mono J.size); have Q:=I.below C; have f1:∀ p,(ab E p).cell? ⟨gl,2,none⟩=some (.slice AB A.length cB):=fun p=>(ap (a:=⟨gl,2,none⟩) Q.lt p).trans ((Q.cell 2).trans h2); have f2:∀ p,(ab E p).cell? ⟨w.heap.size,2,none⟩=some (.string (str o.name)):=fun p=>(ap (a:=⟨w.heap.size,2,none⟩) q.lt p).trans (q.cell 2); have U:Hid (∀ p,Calls prog 90 #[.slice AB A.length cB,.string (str o.name)] (ab E p) fun e w'=>e=.returned (.bool (A.contains o.name))/\Below (ab E p).heap.size (ab E p) w'):=hO fun p =>
   (jS AB A.length cB A o.name _ (Ts.below (Ts.below (pb D) C) (aa E p)) (by omega)).mono fun e w' ⟨he,hw⟩=>⟨he,by rw [hw]; exact Below.refl _ _⟩
  clear G
  cases F:A.contains o.name
  .rw [F] at U
   have u:Hid (put ord 8 o.name A=none->∀ w',eD w w'->fG base gl vN (.slice AB A.length cB) N A o.name w (.returned (.int .i64 6)) w'):=hO (fun R w' h=>by unfold fG; rw [K,F,R]; exact⟨rfl,h⟩)
   have x:Hid (∀ L',put ord 8 o.name A=some L'->∀ w' E x',bu aj 1 9 base gl 2 (.slice AB A.length cB) L' w E->bJ ac 5 40 base gl 1 vN N (fun n=>n.name==o.name) E x' w'->fG base gl vN (.slice AB A.length cB) N A o.name w (.returned (.int .i64 0)) w'):=hO (fun L' R w' E x' h h'=>by unfold fG; rw [K,F,R]; exact⟨rfl,E,x',h,h'⟩)
   clear F K; go_wp2_with fail
   refine az ?_; repeat (go_big_quiet_step (first|(go_at_call 90; exact aw (U.out _))|fail))
   refine wpQuiet_nil ?_; rintro _ ⟨c,rfl⟩; have d:=aa E c; clear f1 f2 U; generalize ab E c=f at *; have b2:=q.below d; have f3:∀ p,(ab f p).cell? ⟨w.heap.size,2,none⟩=some (.string (str o.name)):=fun p=>(ap (a:=⟨w.heap.size,2,none⟩) b2.lt p).trans (b2.cell 2); go_wp2_with fail
   refine bp 5 ?_; simp only [List.take_succ_cons,List.take_zero,List.drop_succ_cons,List.drop_zero]; repeat (go_big_quiet_step (fail))
   refine wpQuiet_nil ?_; rintro _ ⟨z,rfl⟩; have g3:eD E (ab f z):=d.trans ((aa f z).mono d.size); clear f3; generalize ab f z=w3 at *; have B:eD w w3:=C.trans (g3.mono C.size); have b3:=q.below g3; have H:=putStr_any gl 2 o.name A hr base (.slice AB A.length cB) 8 w3 hB (by omega) vs 30 (I.below B) h2 (ae D B eG) O (Nat.le_trans S B.size); go_wp2_with fail
   refine H.mono ?_; intro e g h; have Aa:w.heap.size≠gl:=by have:=I.lt; omega
   unfold fI at h
   cases V:put ord 8 o.name A with
   | none =>
    rw [V] at h; obtain⟨rfl,Ab⟩:=h; have i:=hO (u.out V g (B.trans (Ab.mono B.size))); clear V u x H; go_wp2; (try rw [am])
    (try go_wp2)
    go_ret; exact i.out
   | some L' =>
    rw [V] at h; obtain⟨rfl,j⟩:=h; obtain⟨v',k,_,Ae,Ah⟩:=j.opened (I.below B) O; have l:=j.keeps (ae Y B eG) r Z; have b4:Blk g w.heap.size (ah o sv kv) 47:=j.blk b3 (fun e=>by have:=(D.lt _ e).2; omega) Aa
    have Ac:(vs.set 2 v')[1]?=some vN:=by rw [List.getElem?_set_ne (by omega)]; exact h1
    have Ad:=fy b4 rfl; rw [b.out] at Ad; have M:=sg gl (ah o sv kv) (vs.set 2 v') o.name N base vN g (by omega) rfl k Ac l Z (fun y _=>dt y); rw [b.out] at M; have i:Hid (∀ x' w',bJ ac 5 40 base gl 1 vN N (fun n=>n.name==o.name) g x' w'->fG base gl vN (.slice AB A.length cB) N A o.name w (.returned (.int .i64 0)) w'):=hO (fun x' w' h=>x.out L' V w' g x' (mV B j) h); clear V u x H j; go_wp2_with fail
    (try rw [am])
    (try go_wp2_with fail)
    refine M.mono ?_; intro e w5 X; have HG:=hO (i.out e w5 X); unfold bJ at X; by_cases R:N.any (fun n=>n.name==o.name)=true
    .rw [if_pos R] at X
     obtain⟨rfl,_⟩:=X; clear R i M; go_wp2; go_ret; exact HG.out
    .rw [if_neg R] at X
     obtain⟨rfl,_⟩:=X; clear R i M; go_wp2; go_ret; exact HG.out
  .have t:Hid (∀ w',eD w w'->fG base gl vN (.slice AB A.length cB) N A o.name w (.returned (.int .i64 8)) w'):=hO (fun w' h=>by unfold fG; rw [K,F]; exact⟨rfl,h⟩)
   rw [F] at U; clear F K; go_wp2_with fail
   refine az ?_; repeat (go_big_quiet_step (first|(go_at_call 90; exact aw (U.out _))|fail))
   refine wpQuiet_nil ?_; rintro _ ⟨c,rfl⟩; have d:=aa E c; clear f1 f2 U; generalize ab E c=f at *; go_wp2_with fail
   go_ret; exact t.out _ (C.trans (d.mono C.size))
end
section
open Go.RowKit Mem Led
theorem bt(B:Nat) (w:World) (k:Nat):Below B w (w.drewN k):=⟨rfl,rfl,rfl,eG,fun _ _=>rfl⟩
def mN (w:World) (p:Prop) (e:Ending) (w':World):Prop:=∃ r,e=.returned (.bool r)/\(r=true↔p)/\eD w w'
theorem mN.no{w w':World} {p:Prop} (h:Hid (¬ p)) (A:eD w w'):mN w p (.returned (.bool false)) w':=⟨false,rfl,⟨fun e=>absurd e (by simp),fun e=>absurd e h.out⟩,A⟩
theorem mN.yes{w w':World} {p:Prop} (h:Hid p) (A:eD w w'):mN w p (.returned (.bool true)) w':=⟨true,rfl,⟨fun _=>h.out,fun _=>rfl⟩,A⟩
theorem rz{α:Type} {L M:List α} {k:Nat} (h:L.take k=M.take k) (A:k<L.length) (B:k<M.length) (C:L[k]=M[k]):L.take (k+1)=M.take (k+1):=by
 rw [List.take_succ_eq_append_getElem A,List.take_succ_eq_append_getElem B,h,C]
theorem take_all{α:Type} {L M:List α} {n:Nat} (h:L.take n=M.take n) (A:L.length=n) (B:M.length=n):L=M:=by
 rwa [List.take_of_length_le (by omega),List.take_of_length_le (by omega)] at h
theorem bsame_any(d G:Txt) (m I:Int) (A:Option Addr) (n c:Nat) (K:List Led.Jwk) (H:Option Addr) (n' M:Nat) (C:List Led.Jwk) (w:World) (h:Es aV 2 w A n K) (q:Es aV 2 w H n' C) (hn:n<=9223372036854775807) (Ab:n'<=9223372036854775807) :
  Calls prog 31 #[.agg #[tx d,nm m,.slice A n c],.agg #[tx G,nm I,.slice H n' M]] w (mN w (d=G/\m=I/\K=C)):=by
 obtain⟨p,O⟩:∃ p:Prop,Hid (p=(d=G/\m=I/\K=C)):=⟨_,hO rfl⟩
 rw [<-O.out]
 have Q:=h.len cm (by decide)
 have N:=q.len cm (by decide)
 obtain⟨W,R⟩:=eA ((w.alloc (.cells #[tx d,nm m,.slice A n c] 45)).alloc (.cells #[tx G,nm I,.slice H n' M] 45))
 have Y:Blk W w.heap.size [tx d,nm m,.slice A n c] 45:=by rw [<-R]; exact(Blk.new w [tx d,nm m,.slice A n c] _).alloc _
 have Z:Blk W (w.heap.size+1) [tx G,nm I,.slice H n' M] 45:=by
  have:=Blk.new (w.alloc (.cells #[tx d,nm m,.slice A n c] 45)) [tx G,nm I,.slice H n' M] 45; rw [<-R]; simpa using this
 have F:eD w W:=by rw [<-R]; exact eH.alloc (by simp) _
 have c0:W.cell? ⟨w.heap.size,0,none⟩=some (.string (str d)):=Y.cell 0
 have c1:W.cell? ⟨w.heap.size,1,none⟩=some (.int .i64 m):=Y.cell 1
 have c2:W.cell? ⟨w.heap.size,2,none⟩=some (.slice A n c):=Y.cell 2
 have e0:W.cell? ⟨w.heap.size+1,0,none⟩=some (.string (str G)):=Z.cell 0
 have e1:W.cell? ⟨w.heap.size+1,1,none⟩=some (.int .i64 I):=Z.cell 1
 have e2:W.cell? ⟨w.heap.size+1,2,none⟩=some (.slice H n' M):=Z.cell 2
 have r:=hO R
 simp only [tx,nm] at r
 clear R
 unfold tx nm
 go_enter func31,ntmps31
 go_upto_region 1 with fail
 rw [r.out]
 by_cases hd:d=G
 .subst hd
  have b:(d==d)=true:=by rw [beq_iff_eq]
  by_cases s:m=I
  .subst s
   by_cases S:n=n'
   .subst S
    have h2:=h.below F; have f:=q.below F; go_wp2_with fail
    clear c0 c1 c2 e0 e1 e2; go_loopw [5] (fun i wr=>∃ k:Nat,k<=n/\i=.int .i64 k/\Hid (K.take k=C.take k)/\eD w wr/\Blk wr w.heap.size [tx d,nm m,.slice A n c] 45/\Blk wr (w.heap.size+1) [tx d,nm m,.slice H n M] 45/\Es aV 2 wr A n K/\Es aV 2 wr H n C) (fun i _=>n - (intOf i).toNat)
    case atStart=>exact⟨0,by omega,rfl,hO rfl,F,Y,Z,h2,f⟩
    case round =>
     obtain⟨k,hk,rfl,t,g,u,y,z,t2⟩:=hrel; have k2:wr.cell? ⟨w.heap.size,2,none⟩=some (.slice A n c):=u.cell 2; have l2:wr.cell? ⟨w.heap.size+1,2,none⟩=some (.slice H n M):=y.cell 2; by_cases Ac:k<n
     .have T:k<K.length:=by omega
      have U:k<C.length:=by omega
      obtain⟨V,X,rfl,Aa,D⟩:=z.lit cm (by decide) T; obtain⟨J,L,rfl,j,B⟩:=t2.lit cm (by decide) U; have p0:wr.cell? ⟨V,X+k * 2,none⟩=some (.string (str K[k].kid)):=D 0 _ rfl; have p1:wr.cell? ⟨V,X+k * 2+1,none⟩=some (.string (str K[k].x)):=by rw [Nat.add_assoc]; exact D 1 _ rfl
      have q0:wr.cell? ⟨J,L+k * 2,none⟩=some (.string (str C[k].kid)):=B 0 _ rfl; have q1:wr.cell? ⟨J,L+k * 2+1,none⟩=some (.string (str C[k].x)):=by rw [Nat.add_assoc]; exact B 1 _ rfl
      have l:=fun W=>neq_jwk K[k] C[k] W; unfold aV tx at l; clear D B
      cases E:jwkEq K[k] C[k]
      .have hx:Hid (¬ K=C):=hO (fun e=>by subst e; rw [rV.2 rfl] at E; cases E)
       rw [E] at l; generalize K[k].kid=s1 at *; generalize K[k].x=s2 at *; generalize C[k].kid=s3 at *; generalize C[k].x=s4 at *; have hi:(k:Int)<(n:Int):=by omega
       clear E; go_wp2_with fail
       go_quiet (fail)
       go_wp2; go_ret; exact .no (hO fun e=>hx.out (O.out.mp e).2.2) (g.trans (bt _ _ _))
      .have o:=hO (rz t.out T U (rV.1 E))
       rw [E] at l; generalize K[k].kid=s1 at *; generalize K[k].x=s2 at *; generalize C[k].kid=s3 at *; generalize C[k].x=s4 at *; have hi:(k:Int)<(n:Int):=by omega
       clear E; go_wp2_with fail
       go_quiet (fail)
       go_wp2; go_roundw
       case rel=>exact⟨k+1,by omega,by go_num,o,g.trans (bt _ _ _),u.below (bt _ _ _),y.below (bt _ _ _),z.below (bt _ _ _),t2.below (bt _ _ _)⟩
       case measure=>simp [intOf]; omega
     .obtain rfl:k=n:=by omega
      have hx:=take_all t.out Q N; have HX:=hO hx; clear hx; go_wp2; go_ret; exact .yes (hO (O.out.mpr (by simp [HX.out]))) g
   .have hx:Hid (¬ K=C):=hO (fun e=>S (by subst e; omega))
    go_wp2_with fail
    go_ret; exact .no (hO fun e=>hx.out (O.out.mp e).2.2) F
  .go_wp2_with fail
   go_ret; exact .no (hO fun e=>s (O.out.mp e).2.1) F
 .have b:(d==G)=false:=by rw [beq_eq_false_iff_ne]; exact hd
  go_wp2_with fail
  go_ret; exact .no (hO fun e=>hd (O.out.mp e).1) F
end
section
open Go.RowKit Mem Led
theorem neq_node(a b:Led.Node) (w:World):(Go.binOp .neq 40 (.agg (ac a).toArray) (.agg (ac b).toArray)).run prog w=.ok (.bool (!tF a b)) w:=by
 have u3:=underlying9
 have G:=underlying3
 have H:=underlying4
 have A:prog.underlying 40=some (.struct (prog.fieldsOf 40)):=by kernel_rfl
 have B:prog.stoodInHeld 40=false:=by kernel_rfl
 unfold tF
 simp only [ac,tx,nm]
 rw [run_neq_struct,show (10000:Nat)=9999+1 from rfl,run_equalIn_agg w 9999 40 _ _ A B]
 simp only [Program.fieldsOf,underlying40]
 go_simp
 by_cases h0:a.name=b.name <;> by_cases C:a.key=b.key <;> by_cases D:a.expires=b.expires <;> by_cases E:a.seq=b.seq <;> by_cases F:a.doc=b.doc <;> simp [h0,C,D,E,F]
theorem neq_join(a b:Led.Join) (w:World):(Go.binOp .neq 38 (.agg (ao a).toArray) (.agg (ao b).toArray)).run prog w=.ok (.bool (!tQ a b)) w:=by
 have u3:=underlying9
 have F:=underlying3
 have G:=underlying4
 have A:prog.underlying 38=some (.struct (prog.fieldsOf 38)):=by kernel_rfl
 have B:prog.stoodInHeld 38=false:=by kernel_rfl
 unfold tQ
 simp only [ao,tx,nm]
 rw [run_neq_struct,show (10000:Nat)=9999+1 from rfl,run_equalIn_agg w 9999 38 _ _ A B]
 simp only [Program.fieldsOf,underlying38]
 go_simp
 by_cases h0:a.text=b.text <;> by_cases C:a.name=b.name <;> by_cases D:a.expires=b.expires <;> by_cases E:a.used=b.used <;> simp [h0,C,D,E]
theorem neq_key(a b:Led.Key) (w:World):(Go.binOp .neq 42 (.agg (aq a).toArray) (.agg (aq b).toArray)).run prog w=.ok (.bool (!keyEq a b)) w:=by
 have u3:=underlying9
 have F:=underlying3
 have G:=underlying4
 have A:prog.underlying 42=some (.struct (prog.fieldsOf 42)):=by kernel_rfl
 have B:prog.stoodInHeld 42=false:=by kernel_rfl
 unfold keyEq
 simp only [aq,tx,nm]
 rw [run_neq_struct,show (10000:Nat)=9999+1 from rfl,run_equalIn_agg w 9999 42 _ _ A B]
 simp only [Program.fieldsOf,underlying42]
 go_simp
 by_cases h0:a.kid=b.kid <;> by_cases C:a.seed=b.seed <;> by_cases D:a.state=b.state <;> by_cases E:a.since=b.since <;> simp [h0,C,D,E]
theorem lS{β:Type} {E:List (β × Value)} {L:List β} (h:E.map Prod.fst=L) {k:Nat} (B:k<E.length) (A:k<L.length):L[k]=E[k].1:=by
 subst h
 simp
end
section
open Go.RowKit Mem Led
end
section
open Go.RowKit Mem Led
theorem eqs_any(A:Option Addr) (n c:Nat) (L:List Txt) (H:Option Addr) (n' Y:Nat) (M:List Txt) (w:World) (h:Ts w A n L) (Q:Ts w H n' M) (g:n<=9223372036854775807) (Z:n'<=9223372036854775807) :
  Calls prog 130 #[.slice A n c,.slice H n' Y] w fun e w'=>e=.returned (.bool (decide (L=M)))/\eD w w':=by
 have R:=h.len
 have I:=Q.len
 by_cases D:n=n'
 .subst D
  go_enter func130,ntmps130
  go_wp2; go_loopw [13,5] (fun i _ wr=>∃ k:Nat,k<=n/\i=.int .i64 k/\Hid (L.take k=M.take k)/\eD w wr/\Ts wr A n L/\Ts wr H n M) (fun i _ _=>n - (intOf i).toNat)
  case atStart=>exact⟨0,by omega,rfl,hO rfl,Below.refl _ _,h,Q⟩
  case round =>
   obtain⟨k,j,rfl,S,J,T,U⟩:=hrel; by_cases b:k<n
   .have E:k<L.length:=by omega
    have F:k<M.length:=by omega
    obtain⟨d,f,rfl,K⟩:=T.lit E; obtain⟨V,X,rfl,C⟩:=U.lit F; by_cases B:L[k]=M[k]
    .have N:=hO (rz S.out E F B)
     rw [<-B] at C; generalize L[k]=s at *; have O:(s==s)=true:=by rw [beq_iff_eq]
     have hi:(k:Int)<(n:Int):=by omega
     clear B; go_wp2_with fail
     go_quiet (fail)
     go_wp2; go_roundw
     case rel=>exact⟨k+1,by omega,by go_num,N,J.trans (bt _ _ _),Ts.below T (bt _ _ _),Ts.below U (bt _ _ _)⟩
     case measure=>simp [intOf]; omega
    .have G:¬ L=M:=fun e=>B (by subst e; rfl)
     have hd:decide (L=M)=false:=decide_eq_false G; have O:(L[k]==M[k])=false:=by rw [beq_eq_false_iff_ne]; exact B
     generalize L[k]=s at *; generalize M[k]=l at *; have hi:(k:Int)<(n:Int):=by omega
     clear B G; go_wp2_with fail
     go_quiet (fail)
     go_wp2; go_ret; exact⟨by rw [hd]; rfl,J.trans (bt _ _ _)⟩
   .obtain rfl:k=n:=by omega
    have hd:decide (L=M)=true:=decide_eq_true (by
     have:=S.out; rw [List.take_of_length_le (by omega),List.take_of_length_le (by omega)] at this; exact this)
    go_wp2; go_ret; exact⟨by rw [hd]; rfl,J⟩
 .have hd:decide (L=M)=false:=decide_eq_false (fun e=>D (by subst e; omega))
  go_enter func130,ntmps130
  go_wp2; go_ret; exact⟨by rw [hd]; rfl,Below.refl _ _⟩
theorem ts_own'{w:World} {base n c:Nat} {A:Option Addr} {L:List Txt} {e:TypeId} (h:w.ownsRow base e 1 (.slice A n c) n (tv L)):Ts w A n L:=Ts.of_own h
theorem entry_bool(e:Led.Entry):cM e=(((Ids.ey e.sels).2==0&&decide (0<((Ids.ey e.sels).1.getD []).length)&&decide ((Ids.ey e.sels).1.getD []=e.sels))&&aI e.n 1 1099511627776&&aI e.ttl 1 1000&&Ids.path e.path&&!Ids.agent e.path&&Ids.path e.parent):=by
 unfold cM
 generalize Ids.ey e.sels=S
 have A:(decide (0<(S.1.getD []).length)&&decide (S.1.getD []=e.sels))=((S.1.getD []==e.sels)&&!e.sels.isEmpty):=by
  by_cases h:S.1.getD []=e.sels
  .rw [h]
   cases e.sels <;> simp
  .have:(S.1.getD []==e.sels)=false:=by rw [beq_eq_false_iff_ne]; exact h
   rw [this,decide_eq_false h]; simp
 have B:(S.2==0&&decide (0<(S.1.getD []).length)&&decide (S.1.getD []=e.sels))=(S.2==0&&((S.1.getD []==e.sels)&&!e.sels.isEmpty)):=by rw [Bool.and_assoc,A]
 rw [B]
 generalize (S.1.getD []==e.sels)=b1
 generalize (S.2==0)=C
 generalize (!e.sels.isEmpty)=b2
 generalize Ids.path e.path=b3
 generalize Ids.agent e.path=b4
 generalize Ids.path e.parent=D
 generalize aI e.n 1 1099511627776=E
 generalize aI e.ttl 1 1000=F
 cases C <;> cases b1 <;> cases b2 <;> cases b3 <;> cases b4 <;> cases D <;> cases E <;> cases F <;> rfl
theorem entry_any(e:Led.Entry) (v:Value) (w:World) (hv:bm w v e.sels) (hn:e.sels.length<=1000) (hz:∀ x∈e.sels,x.length<=9223372036854775807) (L:e.path.length<=9223372036854775807) (l:e.parent.length<=9223372036854775807) :
  Calls prog 79 #[.agg (ag (e,v)).toArray] w fun x w'=>x=.returned (.bool (cM e))/\eD w w':=by
 obtain⟨A,n,c,rfl,o,ht⟩:=hv
 have Ab:=ht.len
 obtain⟨W,h⟩:=eA (w.alloc (.cells (ag (e,.slice A n c)).toArray 36))
 have b0:Blk W w.heap.size (ag (e,.slice A n c)) 36:=by rw [<-h]; exact Blk.new w _ _
 have U:eD w W:=eF h
 have K:=set_any A n c e.sels W (Ts.below ht U) (by omega) o.2.2 hz
 rw [entry_bool]
 unfold t6 at K
 generalize hS:(Ids.ey e.sels)=S at *
 obtain⟨S1,F⟩:=S
 dsimp only at K ⊢
 generalize S1.getD []=S' at *
 clear hS
 obtain⟨D,J⟩:∃ D,((F==0)&&decide (0<S'.length)&&decide (S'=e.sels))=D:=⟨_,rfl⟩
 rw [J]
 have E:=hO J
 clear J
 have q:=hO h
 clear h
 have c4:W.cell? ⟨w.heap.size,4,none⟩=some (.slice A n c):=b0.cell 4
 obtain⟨CS,Y⟩:=eA ((ag (e,Value.slice A n c)).toArray)
 rw [Y] at q ⊢
 clear Y
 go_enter func79,ntmps79
 go_upto_region 1 with fail
 rw [q.out]
 clear q
 go_wp2_with fail
 refine K.mono ?_
 rintro x i ⟨A1,m,c1,rfl,r,M,Z⟩
 have b1:=b0.below Z
 have N:eD w i:=U.trans (Z.mono U.size)
 have O:=ts_own' M
 have s:=O.len
 have b:=(ak M)
 have d4:i.cell? ⟨w.heap.size,4,none⟩=some (.slice A n c):=b1.cell 4
 have Q:=eqs_any A1 m c1 S' A n c e.sels i O (Ts.below ht N) (by obtain⟨A2,c2,R,T,t⟩:=b; injection R; omega) (Nat.le_trans o.1 o.2.1)
 clear K b c4
 go_upto_region 2 with fail
 go_cut [5] (fun s5 wx=>s5=.bool D/\eD i wx)
 case first =>
  by_cases R:F=0
  .by_cases T:0<S'.length
   .have d:decide (S'=e.sels)=D:=by
     rw [<-E.out,R]; simp [T]
    rw [d] at Q; have u:(0:Int)<(m:Int):=by omega
    subst R; clear d T; go_wp2_with fail
    refine Q.mono ?_; rintro x f ⟨rfl,y⟩; go_wp2; go_meet
    case rel=>exact⟨rfl,y⟩
   .have z:D=false:=by rw [<-E.out]; simp [T]
    have u:¬ (0:Int)<(m:Int):=by omega
    subst R z; clear T Q; go_wp2_with fail
    go_meet
    case rel=>exact⟨rfl,Below.refl _ _⟩
  .have z:D=false:=by rw [<-E.out]; simp [R]
   have hF:¬ (F:Int)=0:=by omega
   subst z; clear Q; go_wp2_with fail
   go_meet
   case rel=>exact⟨rfl,Below.refl _ _⟩
 case rest =>
  obtain⟨rfl,g⟩:=hcut; have X:=b1.below g; have B:eD w wc:=N.trans (g.mono N.size); clear Q M O d4 E r s; have e0:wc.cell? ⟨w.heap.size,0,none⟩=some (.int .i64 e.n):=X.cell 0; have e3:wc.cell? ⟨w.heap.size,3,none⟩=some (.int .i64 e.ttl):=X.cell 3; have e1:wc.cell? ⟨w.heap.size,1,none⟩=some (.string (str e.path)):=X.cell 1
  cases D
  .go_wp2_with fail
   go_ret; exact⟨by simp,B⟩
  cases R:aI e.n 1 1099511627776
  .go_wp2_with (go_at_call 104; refine(de _ _ _ _).mono ?_; rintro x f ⟨rfl,C⟩; have G:=C.symm; subst G; clear C)
   go_ret; exact⟨by simp [R],B⟩
  cases T:aI e.ttl 1 1000
  .go_wp2_with (go_at_call 104; refine(de _ _ _ _).mono ?_; rintro x f ⟨rfl,C⟩; have G:=C.symm; subst G; clear C)
   go_ret; exact⟨by simp [T],B⟩
  cases t:Ids.path e.path
  .go_wp2_with (go_at_call 104; refine(de _ _ _ _).mono ?_; rintro x f ⟨rfl,C⟩; have G:=C.symm; subst G; clear C)
   refine(ku e.path _ L).mono ?_; rintro x j ⟨rfl,H⟩; go_wp2_with fail
   go_ret; exact⟨by simp [t],B.trans (H.mono B.size)⟩
  cases h4:Ids.agent e.path
  rotate_left
  .go_wp2_with (go_at_call 104; refine(de _ _ _ _).mono ?_; rintro x f ⟨rfl,C⟩; have G:=C.symm; subst G; clear C)
   refine(ku e.path _ L).mono ?_; rintro x j ⟨rfl,H⟩; have b3:=X.below H; have k1:j.cell? ⟨w.heap.size,1,none⟩=some (.string (str e.path)):=b3.cell 1; go_wp2_with fail
   refine(jr e.path _ L).mono ?_; rintro x k ⟨rfl,V⟩; have I:eD wc k:=H.trans (V.mono H.size); go_wp2_with fail
   go_ret; exact⟨by simp [h4],B.trans (I.mono B.size)⟩
  .go_wp2_with (go_at_call 104; refine(de _ _ _ _).mono ?_; rintro x f ⟨rfl,C⟩; have G:=C.symm; subst G; clear C)
   refine(ku e.path _ L).mono ?_; rintro x j ⟨rfl,H⟩; have b3:=X.below H; have k1:j.cell? ⟨w.heap.size,1,none⟩=some (.string (str e.path)):=b3.cell 1; go_wp2_with fail
   refine(jr e.path _ L).mono ?_; rintro x k ⟨rfl,V⟩; have I:eD wc k:=H.trans (V.mono H.size); have b4:=X.below I; have k2:k.cell? ⟨w.heap.size,2,none⟩=some (.string (str e.parent)):=b4.cell 2; go_wp2_with fail
   refine(ku e.parent _ l).mono ?_; rintro x w5 ⟨rfl,Aa⟩; go_wp2_with fail
   go_ret; exact⟨by simp [R,T,t,h4],B.trans ((I.trans (Aa.mono I.size)).mono B.size)⟩
end
section
open Go.RowKit Mem Led
def cEp (a b:Led.Entry × Value):Int:=cE a.1 b.1
theorem cEp_cmp:Cmp cEp:=⟨fun a b=>qE.flip a.1 b.1,fun a b d=>qE.trans a.1 b.1 d.1,fun a b d=>qE.left a.1 b.1 d.1⟩
theorem op_entry(o:Led.Op) (sv kv:Value):∀ j u,(ag (o.entry,sv))[j]?=some u->(ah o sv kv)[3+j]?=some u:=by
 intro j u h
 match j,h with
 | 0,h=>exact h
 | 1,h=>exact h
 | 2,h=>exact h
 | 3,h=>exact h
 | 4,h=>exact h
 | j+5,h=>simp [ag] at h
theorem kz{w:World} {g:Nat} {o:Led.Op} {sv kv:Value} (h:Blk w g (ah o sv kv) 47):(fM (.pointer (some ⟨g,3,none⟩))).run prog w=.ok (.agg (ag (o.entry,sv)).toArray) w :=
 cl underlying36 rfl me rfl fun j u A=>by rw [h.cell]; exact op_entry o sv kv j u A
theorem jR(p:Led.Entry × Value) (h:p.2.oneCell'=true):∀ u∈ag p,u.oneCell'=true:=by
 intro u A
 simp [ag,tx,nm] at A
 rcases A with rfl|rfl|rfl|rfl|rfl
 .rfl
 .rfl
 .rfl
 .rfl
 .exact h
theorem qY(a b:Led.Entry × Value) (W:World) (B:1<=a.1.n/\a.1.n<=1099511627776) (C:1<=b.1.n/\b.1.n<=1099511627776):Calls prog 81 #[.agg (ag a).toArray,.agg (ag b).toArray] W fun e w'=>e=.returned (.int .i64 (cEp a b))/\eD W w':=by
 have A:∀ o p,eD W ((W.alloc o).alloc p):=fun o p=>eH.alloc (by simp) _
 have D:IntKind.i64.wrap (a.1.n - b.1.n)=a.1.n - b.1.n:=by rw [IntKind.wrap_i64]; omega
 unfold cEp cE
 show Calls prog 81 #[.agg #[.int .i64 a.1.n,.string (str a.1.path),.string (str a.1.parent),.int .i64 a.1.ttl,a.2],.agg #[.int .i64 b.1.n,.string (str b.1.path),.string (str b.1.parent),.int .i64 b.1.ttl,b.2]] W _
 generalize a.1.n=x at *
 generalize b.1.n=y at *
 go_enter func81,ntmps81
 go_wp2_with fail
 go_ret
 exact⟨by first|rfl|(congr 2),A _ _⟩
def jw (base gl:Nat) (vE:Value) (E:List (Led.Entry × Value)) (p:Led.Entry × Value) (w:World) (x:Ending) (w':World):Prop :=
 if cM p.1 then fI ag 5 36 base gl 0 vE (put cEp 24 p E) w x w' else x=.returned (.int .i64 1)/\eD w w'
theorem may_n{e:Led.Entry} (h:cM e=true):1<=e.n/\e.n<=1099511627776:=by
 unfold cM at h
 simp only [Bool.and_eq_true] at h
 have:=h.1.2
 unfold aI at this
 simpa using this
theorem tt(gl:Nat) (o:Led.Op) (sv kv:Value) (vs:List Value) (E:List (Led.Entry × Value)) (base:Nat) (vE:Value) (w:World) (L:bm w sv o.entry.sels) (S:o.entry.sels.length<=1000) (T:∀ x∈o.entry.sels,x.length<=9223372036854775807) (U:o.entry.path.length<=9223372036854775807) (V:o.entry.parent.length<=9223372036854775807)
  (t:E.length<=24) (u:bd cEp E) (X:∀ p∈E,1<=p.1.n/\p.1.n<=1099511627776) (Z:∀ p∈E,p.2.oneCell'=true) (I:base<=w.heap.size)
  (b:Blk w gl vs 30) (h0:vs[0]?=some vE) (M:w.ownsRow base 36 5 vE E.length (af ag E)) (d:vE.ownBlock≠some gl) :
  Calls prog 42 #[.pointer (some ⟨gl,0,none⟩),.agg (ah o sv kv).toArray] w (jw base gl vE E (o.entry,sv) w):=by
 have f:sv.oneCell'=true:=by obtain⟨A,n,c,rfl,_⟩:=L; rfl
 obtain⟨W,Q⟩:=eA (w.alloc (.cells (ah o sv kv).toArray 47))
 have l:Blk W w.heap.size (ah o sv kv) 47:=by rw [<-Q]; exact Blk.new w _ _
 have D:eD w W:=eF Q
 have g:=kz l
 have B:=entry_any o.entry sv W (L.below D) S T U V
 have i:=hO Q
 clear Q
 obtain⟨CS,N⟩:=eA ((ah o sv kv).toArray)
 rw [N] at i ⊢
 clear N
 have m:=hO (fun (h:cM o.entry=true) (j:World) (y:Led.Entry × Value) (O:y∈E)=>qY y (o.entry,sv) j (X y O) (may_n h))
 go_enter func42,ntmps42
 go_upto_region 1 with fail
 rw [i.out]
 clear i
 cases J:cM o.entry
 .have R:Hid (∀ w',eD w w'->jw base gl vE E (o.entry,sv) w (.returned (.int .i64 1)) w'):=hO (fun w' h=>by unfold jw; rw [J]; exact⟨rfl,h⟩)
  rw [J] at B; clear J; go_wp2_with fail
  refine B.mono ?_; rintro e K ⟨rfl,F⟩; go_wp2; go_ret; exact R.out _ (D.trans (F.mono D.size))
 .rw [J] at B
  have R:Hid (∀ x w',fI ag 5 36 base gl 0 vE (put cEp 24 (o.entry,sv) E) w x w'->jw base gl vE E (o.entry,sv) w x w'):=hO (fun x w' h=>by unfold jw; rw [J]; exact h)
  have z:=hO (m.out J); clear J m; go_wp2_with fail
  refine B.mono ?_; rintro e K ⟨rfl,F⟩; have b1:=l.below F; have G:eD w K:=D.trans (F.mono D.size); clear g B; have f3:∀ p,(fM (.pointer (some ⟨w.heap.size,3,none⟩))).run prog (ab K p)=.ok (.agg (ag (o.entry,sv)).toArray) (ab K p):=fun p=>kz (b1.below (aa K p)); go_wp2_with fail
  refine bp 5 ?_; simp only [List.take_succ_cons,List.take_zero,List.drop_succ_cons,List.drop_zero]; repeat (go_big_quiet_step (fail))
  refine wpQuiet_nil ?_; rintro _ ⟨q,rfl⟩; have g3:=aa K q; clear f3; generalize ab K q=r at *; have C:eD w r:=G.trans (g3.mono G.size); have H:=putEnt_any gl 0 81 (enters_of func81 (by kernel_rfl) rfl) cEp cEp_cmp (o.entry,sv) E u base vE 24 r t (by omega) vs 30 (b.below C) h0 (ae M C eG) d (Nat.le_trans I C.size) (fun y O=>jR y (Z y O)) (jR _ f) (fun j y O _=>z.out j y O); have k:=hO (H.mono fun x w' h=>ld C h); clear H; obtain⟨Y,hY⟩:=eA ((ag (o.entry,sv)).toArray); rw [hY] at k ⊢; go_wp2_with fail
  refine k.out.mono ?_; intro e w4 h; have h':=hO (R.out e w4 h); clear k R; unfold fI at h
  cases s:put cEp 24 (o.entry,sv) E
  all_goals
   rw [s] at h; obtain⟨rfl,_⟩:=h; clear s; go_wp2; (try rw [am])
   (try go_wp2)
   go_ret; exact h'.out
end
section
open Go.RowKit Mem Led
def eM (c:UInt8):Bool:=Ids.small c||Ids.digit c
theorem all_more{L:Txt} {k:Nat} (A:k<L.length) (h:(L.take k).all eM=true) (B:eM L[k]=true):(L.take (k+1)).all eM=true:=by
 rw [List.take_succ_eq_append_getElem A,List.all_append,h]
 simp [B]
theorem all_bad{L:Txt} {k:Nat} (A:k<L.length) (B:eM L[k]=false):L.all eM=false:=by
 rw [List.all_eq_false]
 exact⟨L[k],List.getElem_mem A,by rw [B]; simp⟩
theorem join_any(j:Led.Join) (w:World) (f:j.text.length<=9223372036854775807) (g:j.name.length<=9223372036854775807):Calls prog 84 #[.agg (ao j).toArray] w fun e w'=>e=.returned (.bool (cL j))/\eD w w':=by
 obtain⟨W,Y⟩:=eA (w.alloc (.cells (ao j).toArray 38))
 have l:Blk W w.heap.size (ao j) 38:=by rw [<-Y]; exact Blk.new w _ _
 have F:eD w W:=eF Y
 have c0:W.cell? ⟨w.heap.size,0,none⟩=some (.string (str j.text)):=l.cell 0
 have c1:W.cell? ⟨w.heap.size,1,none⟩=some (.string (str j.name)):=l.cell 1
 have K:=jr j.name W g
 obtain⟨r,Q⟩:=eC (cL j)
 have M:cL j=(j.text.all eM&&Ids.agent j.name&&aI j.text.length 1 16&&aI j.expires 0 1099511627776):=rfl
 have R:=hO M
 rw [Q.out]
 clear M
 obtain⟨N,Z⟩:=eA (j.text.length)
 have Aa:(str j.text).size=N:=by rw [aJ,Z]
 have b:=hO Z
 rw [Z] at f
 clear Z
 have m:=hO Y
 clear Y
 obtain⟨CS,S⟩:=eA ((ao j).toArray)
 rw [S] at m ⊢
 clear S
 go_enter func84,ntmps84
 go_upto_region 1 with fail
 rw [m.out]
 clear m
 go_wp2_with fail
 go_loopw [8,3,4] (fun i _ _ wr=>∃ k:Nat,k<=N/\i=.int .i64 k/\Hid ((j.text.take k).all eM=true)/\wr=W) (fun i _ _ _=>N - (intOf i).toNat)
 case atStart=>exact⟨0,by omega,rfl,hO (by simp),rfl⟩
 case round =>
  obtain⟨k,hk,rfl,z,n⟩:=hrel; subst n; by_cases o:k<N
  .have Ab:k<(str j.text).size:=by omega
   have T:k<j.text.length:=by rw [b.out]; exact o
   have hi:(k:Int)<(N:Int):=by omega
   have q:((str j.text)[k]).toNat=(j.text[k]).toNat:=rfl; have G:eM j.text[k]=(decide (97<=((str j.text)[k]).toNat/\((str j.text)[k]).toNat<=122)||decide (48<=((str j.text)[k]).toNat/\((str j.text)[k]).toNat<=57)):=rfl; have A:=hO (all_more T z.out); have C:=hO (fun h=>all_bad T h); obtain⟨U,V⟩:=eA (eM j.text[k]); rw [V] at G A C; have B:=hO G; clear q G V; generalize hcc:((str j.text)[k]).toNat=D at *; have O:(97<=D/\D<=122)\/(D<48)\/(48<=D/\D<=57)\/(57<D/\D<97)\/122<D:=by omega
   rcases O with O|O|O|O|O
   .have e:U=true:=by rw [B.out]; simp [O]
    have E:=hO (A.out e); clear B A C e; have c:¬ (D:Int)<97:=by omega
    have i2:¬ (D:Int) > 122:=by omega
    go_wp2_with fail
    go_roundw
    case rel=>exact⟨k+1,by omega,by go_num,E,by trivial⟩
    case measure=>simp [intOf]; omega
   .have e:U=false:=by rw [B.out]; simp; omega
    have E:=hO (C.out e); have H:Hid (r=false):=hO (by rw [<-Q.out,R.out,E.out]; rfl)
    clear B A C e; have c:(D:Int)<97:=by omega
    have s:(D:Int)<48:=by omega
    go_wp2_with fail
    go_ret; exact⟨by rw [H.out]; rfl,F⟩
   .have e:U=true:=by rw [B.out]; simp [O]
    have E:=hO (A.out e); clear B A C e; have c:(D:Int)<97:=by omega
    have s:¬ (D:Int)<48:=by omega
    have i4:¬ (D:Int) > 57:=by omega
    go_wp2_with fail
    go_roundw
    case rel=>exact⟨k+1,by omega,by go_num,E,by trivial⟩
    case measure=>simp [intOf]; omega
   .have e:U=false:=by rw [B.out]; simp; omega
    have E:=hO (C.out e); have H:Hid (r=false):=hO (by rw [<-Q.out,R.out,E.out]; rfl)
    clear B A C e; have c:(D:Int)<97:=by omega
    have s:¬ (D:Int)<48:=by omega
    have i4:(D:Int) > 57:=by omega
    go_wp2_with fail
    go_ret; exact⟨by rw [H.out]; rfl,F⟩
   .have e:U=false:=by rw [B.out]; simp; omega
    have E:=hO (C.out e); have H:Hid (r=false):=hO (by rw [<-Q.out,R.out,E.out]; rfl)
    clear B A C e; have c:¬ (D:Int)<97:=by omega
    have i2:(D:Int) > 122:=by omega
    have s:¬ (D:Int)<48:=by omega
    have i4:(D:Int) > 57:=by omega
    go_wp2_with fail
    go_ret; exact⟨by rw [H.out]; rfl,F⟩
  .have t:k=N:=by omega
   have X:Hid (j.text.all eM=true):=hO (by have:=z.out; rwa [t,<-b.out,List.take_length] at this)
   have hi:¬ ((k:Int)<(N:Int)):=by omega
   have Ac:∀ W,Calls prog 104 #[.int .i64 (N:Int),.int .i64 1,.int .i64 16] W fun e w'=>e=.returned (.bool (aI N 1 16))/\w'=W:=fun W=>de _ _ _ W
   cases u:aI (N:Int) 1 16
   .have H:Hid (r=false):=hO (by rw [<-Q.out,R.out,b.out,u]; simp)
    go_wp2_with fail
    refine(de _ _ _ _).mono ?_; rintro e w2 ⟨rfl,I⟩; have J:=I.symm; subst J; go_wp2_with fail
    go_ret; exact⟨by rw [H.out]; first|rfl|(rw [u]; rfl),F⟩
   .cases d:Ids.agent j.name
    .have H:Hid (r=false):=hO (by rw [<-Q.out,R.out,d]; simp)
     rw [d] at K; go_wp2_with fail
     refine(de _ _ _ _).mono ?_; rintro e w2 ⟨rfl,I⟩; have J:=I.symm; subst J; go_wp2_with fail
     refine K.mono ?_; rintro e w3 ⟨rfl,L⟩; go_wp2_with fail
     go_ret; exact⟨by rw [H.out]; rfl,F.trans (L.mono F.size)⟩
    .have H:Hid (r=aI j.expires 0 1099511627776):=hO (by rw [<-Q.out,R.out,b.out,d,u,X.out]; rfl)
     rw [d] at K; go_wp2_with fail
     refine(de _ _ _ _).mono ?_; rintro e w2 ⟨rfl,I⟩; have J:=I.symm; subst J; go_wp2_with fail
     refine K.mono ?_; rintro e w3 ⟨rfl,L⟩; have c2:w3.cell? ⟨w.heap.size,2,none⟩=some (.int .i64 j.expires):=(l.below L).cell 2
     cases h3:aI j.expires 0 1099511627776
     all_goals
      go_wp2_with fail
      refine(de _ _ _ _).mono ?_; rintro e w4 ⟨rfl,x⟩; have y:=x.symm; subst y; go_wp2_with fail
      go_ret; exact⟨by rw [H.out]; first|rfl|(rw [h3]; rfl),F.trans (L.mono F.size)⟩
end
section
open Go.RowKit Mem Led
theorem op_join(o:Led.Op) (sv kv:Value):∀ j u,(ao o.join)[j]?=some u->(ah o sv kv)[8+j]?=some u:=by
 intro j u h
 match j,h with
 | 0,h=>exact h
 | 1,h=>exact h
 | 2,h=>exact h
 | 3,h=>exact h
 | j+4,h=>simp [ao] at h
theorem mB{w:World} {g:Nat} {o:Led.Op} {sv kv:Value} (h:Blk w g (ah o sv kv) 47):(rT (.pointer (some ⟨g,8,none⟩))).run prog w=.ok (.agg (ao o.join).toArray) w :=
 cl underlying38 rfl sizeJoi rfl fun j u A=>by rw [h.cell]; exact op_join o sv kv j u A
theorem kD(n:Led.Join):∀ u∈ao n,u.oneCell'=true:=by
 intro u A
 simp [ao,tx,nm] at A
 rcases A with rfl|rfl|rfl|rfl <;> rfl
theorem mE:(prog.info? 38).map (fun i=>(i.zero,i.size,i.bytes))=some (some (.agg #[.string ⟨#[]⟩,.string ⟨#[]⟩,.int .i64 0,.bool false]),4,48):=by kernel_rfl
theorem tq(x:Led.Join) (n:Txt) (A:Nat) (W:World) (C:W.cell? ⟨A,8,none⟩=some (.string (str n))) :
  Calls prog 86 (#[.agg (ao x).toArray]++#[.pointer (some ⟨A,0,none⟩)]) W fun e w'=>e=.returned (.bool (x.text==n))/\eD W w':=by
 have B:=World.block_lt_of_cell? W _ C
 simp only [] at B
 have D:∀ o,eD W (W.alloc o):=fun o=>eH
 show Calls prog 86 #[.agg #[.string (str x.text),.string (str x.name),.int .i64 x.expires,.bool x.used],.pointer (some ⟨A,0,none⟩)] W _
 go_enter func86,ntmps86
 go_wp2_with fail
 go_ret
 exact⟨by first|rfl|simp,D _⟩
def gY (base gl:Nat) (vJ:Value) (J:List Led.Join) (j:Led.Join) (w:World) (x:Ending) (w':World):Prop :=
 if !cL j||j.used then x=.returned (.int .i64 1)/\eD w w'
 else if J.any (fun k=>k.text==j.text) then x=.returned (.int .i64 8)/\eD w w'
 else if 16<=J.length then x=.returned (.int .i64 6)/\eD w w'
 else x=.returned (.int .i64 0)/\bu ao 4 38 base gl 3 vJ (J++[j]) w w'
theorem putJoin_any(gl:Nat) (o:Led.Op) (sv kv:Value) (vs:List Value) (J:List Led.Join) (base:Nat) (vJ:Value) (w:World) (Aa:o.join.text.length<=9223372036854775807) (Ab:o.join.name.length<=9223372036854775807) (hJ:J.length<=16) (Z:base<=w.heap.size)
  (N:Blk w gl vs 30) (h3:vs[3]?=some vJ) (I:w.ownsRow base 38 4 vJ J.length (af ao J)) (Ac:vJ.ownBlock≠some gl) :
  Calls prog 44 #[.pointer (some ⟨gl,0,none⟩),.agg (ah o sv kv).toArray] w (gY base gl vJ J o.join w):=by
 obtain⟨A,c,rfl,Ap,Aq⟩:=ak I
 obtain⟨W,s⟩:=eA (w.alloc (.cells (ah o sv kv).toArray 47))
 have b0:Blk W w.heap.size (ah o sv kv) 47:=by rw [<-s]; exact Blk.new w _ _
 have L:eD w W:=eF s
 have Ad:=mB b0
 have C:=join_any o.join W Aa Ab
 have HW:=hO s
 clear s
 obtain⟨CS,g⟩:=eA ((ah o sv kv).toArray)
 rw [g] at HW ⊢
 clear g
 go_enter func44,ntmps44
 go_upto_region 1 with fail
 rw [HW.out]
 clear HW
 by_cases B:(!cL o.join||o.join.used)=true
 .have Q:Hid (∀ w',eD w w'->gY base gl (.slice A J.length c) J o.join w (.returned (.int .i64 1)) w'):=hO (fun w' h=>by unfold gY; rw [if_pos B]; exact⟨rfl,h⟩)
  cases R:cL o.join
  .rw [R] at C
   clear B R; go_wp2_with fail
   refine C.mono ?_; rintro e w1 ⟨rfl,H⟩; go_wp2; go_ret; exact Q.out _ (L.trans (H.mono L.size))
  .have t:o.join.used=true:=by
    rw [R] at B; simpa using B
   rw [R] at C; clear B R; go_wp2_with fail
   refine C.mono ?_; rintro e w1 ⟨rfl,H⟩; have Ae:w1.cell? ⟨w.heap.size,11,none⟩=some (.bool true):=by rw [(b0.below H).cell 11,<-t]; rfl
   go_wp2_with fail
   go_ret; exact Q.out _ (L.trans (H.mono L.size))
 .have R:cL o.join=true:=by
   cases h:cL o.join
   .rw [h] at B; simp at B
   .rfl
  have t:o.join.used=false:=by
   rw [R] at B; simpa using B
  rw [R] at C; have M:Hid (∀ x w',(if J.any (fun k=>k.text==o.join.text) then x=.returned (.int .i64 8)/\eD w w'
    else if 16<=J.length then x=.returned (.int .i64 6)/\eD w w'
    else x=.returned (.int .i64 0)/\bu ao 4 38 base gl 3 (.slice A J.length c) (J++[o.join]) w w')->gY base gl (.slice A J.length c) J o.join w x w'):=hO (fun x w' h=>by unfold gY; rw [if_neg B]; exact h)
  clear B R; go_wp2_with fail
  refine C.mono ?_; rintro e y ⟨rfl,H⟩; have E:eD w y:=L.trans (H.mono L.size); have b2:=b0.below H; have i:=N.below E; have Ae:y.cell? ⟨w.heap.size,11,none⟩=some (.bool false):=by rw [b2.cell 11,<-t]; rfl
  have cK:y.cell? ⟨gl,3,none⟩=some (.slice A J.length c):=(i.cell 3).trans h3; clear Ad C; have G:=hasJoi_any 86 #[.pointer (some ⟨w.heap.size,0,none⟩)] (enters_of func86 (by kernel_rfl) rfl) (fun k=>k.text==o.join.text) A J.length c J y (Vs.of_own (ae I E eG)) (by omega) (fun W' x _ hb=>tq x o.join.text w.heap.size W' ((b2.below hb).cell 8))
  cases f:J.any (fun k=>k.text==o.join.text)
  .rw [f] at G
   have HK:=hO f; clear f; go_wp2_with fail
   refine G.mono ?_; rintro e T ⟨rfl,S⟩; have K:eD w T:=E.trans (S.mono E.size); have b3:=b2.below S; have U:=N.below K; have Af:T.cell? ⟨gl,3,none⟩=some (.slice A J.length c):=(U.cell 3).trans h3; by_cases h8:16<=J.length
   .have Q:Hid (∀ w',eD w w'->gY base gl (.slice A J.length c) J o.join w (.returned (.int .i64 6)) w'):=hO (fun w' h=>M.out _ _ (by rw [HK.out]; simp only [Bool.false_eq_true,if_false,if_pos h8]; exact⟨trivial,h⟩))
    have Ag:(16:Int)<=(J.length:Int):=by omega
    clear M; go_wp2_with fail
    go_ret; exact Q.out _ K
   .have Q:Hid (∀ w',bu ao 4 38 base gl 3 (.slice A J.length c) (J++[o.join]) w w'->gY base gl (.slice A J.length c) J o.join w (.returned (.int .i64 0)) w'):=hO (fun w' h=>M.out _ _ (by rw [HK.out]; simp only [Bool.false_eq_true,if_false,if_neg h8]; exact⟨trivial,h⟩))
    have Ag:¬ (16:Int)<=(J.length:Int):=by omega
    clear M HK G t; have f1:∀ p,(ab T p).cell? ⟨gl,3,none⟩=some (.slice A J.length c):=fun p=>(ap (a:=⟨gl,3,none⟩) U.lt p).trans Af; have f2:∀ p,(rT (.pointer (some ⟨w.heap.size,8,none⟩))).run prog (ab T p)=.ok (.agg #[.string (str o.join.text),.string (str o.join.name),.int .i64 o.join.expires,.bool o.join.used]) (ab T p):=fun p=>mB (b3.below (aa T p)); go_upto_region 7 with fail
    refine aK [0] [] [1,2,3,4,5,6] [(7,fun v w'=>∃ V,T.heap.size<=V/\v=.slice (some ⟨V,0,none⟩) 1 1/\Blk w' V (ao o.join) 38)] [8,9,10,11] (by kernel_rfl) (by kernel_rfl) (by kernel_rfl) (by
     intro z hz; simp only [List.mem_cons,List.not_mem_nil,or_false] at hz; subst hz; exact ax fun v w w' hb ⟨V,e0,e,h⟩=>⟨V,e0,e,h.below hb⟩) ?_
    simp only [ix,pick,List.getD_cons_zero,List.getD_cons_succ]; repeat (go_big_quiet_step (fail))
    refine wpQuiet_nil ?_; repeat (go_big_quiet_step (fail))
    refine wpQuiet_nil ?_; refine⟨_,rfl,rfl,?_,?_⟩
    .intro w4 Ah
     have Ai:=Ah.below.size; go_simp
     exact⟨GR.of eH,w4.heap.size,Ai,rfl,Blk.new w4 (ao o.join) _⟩
    .rintro v w6 Aj ⟨_,V,Ar,rfl,b⟩
     have Ak:=Aj.below; have D:eD w w6:=K.trans (Ak.mono K.size); have X:=ae I D eG; obtain⟨iT,Al,Am,An,Ao⟩:=al mE; have l:Vs w6 w6.heap.size 4 (some ⟨V,0,none⟩) 1 (ao o.join):=⟨by rw [a9],fun j u hj=>⟨_,rfl,b.lt,by rw [aO,b.cell j]; exact hj⟩⟩
     obtain⟨v',w7,m,F,d,n⟩:=aT (P:=prog) w6 base 26 26 38 iT _ 4 48 underlying26 Al Am An Ao rfl (by omega) _ J.length _ X w6.heap.size (some ⟨V,0,none⟩) 1 1 (ao o.join) l (kD _) (by unfold maxLen; omega) (by omega) (Nat.le_trans Z D.size)
     obtain⟨A',c',rfl,_,_⟩:=ak F; have q:gl<w6.heap.size:=Nat.lt_of_lt_of_le N.lt D.size; have O:=d.block gl q (fun e=>Ac e.symm); have As:w7.cell? ⟨gl,3,none⟩=some (.slice A J.length c):=(World.cell?_of_block (a:=⟨gl,3,none⟩) O).trans (((N.below D).cell 3).trans h3); have At:w7.frozen? ⟨gl,3,none⟩=false:=(World.frozen?_of_block (a:=⟨gl,3,none⟩) O).trans ((N.below D).froz 3); have r:af ao J++ao o.join=af ao (J++[o.join]):=by rw [aL]; simp [af]
     rw [r] at F; have Y:=Q.out (w7.setCell ⟨gl,3,none⟩ (.slice A' (J.length+1) c')) ⟨_,w7,rfl,bR D d,by rw [List.length_append]; exact F,n.imp id (fun h=>⟨_,D.size,h⟩)⟩
     have HH:=hO Y; clear Y Q F d n O l b X I f1 f2; go_wp2_with (at_builtin; refine Lib.wpList_append_run _ rfl _ _ _ _ rfl _ _ rfl rfl _ _ m ?_)
     (try rw [am])
     (try go_wp2)
     go_ret; exact HH.out
  .rw [f] at G
   have Q:Hid (∀ w',eD w w'->gY base gl (.slice A J.length c) J o.join w (.returned (.int .i64 8)) w'):=hO (fun w' h=>M.out _ _ (by rw [f]; exact⟨rfl,h⟩))
   clear f M; go_wp2_with fail
   refine G.mono ?_; rintro e T ⟨rfl,S⟩; go_wp2_with fail
   go_ret; exact Q.out _ (E.trans (S.mono E.size))
end
section
open Go.RowKit Mem Led
theorem sM(x:Led.Join) (n:Txt) (A:Nat) (W:World) (C:W.cell? ⟨A,2,none⟩=some (.string (str n))) :
  Calls prog 88 (#[.agg (ao x).toArray]++#[.pointer (some ⟨A,0,none⟩)]) W fun e w'=>e=.returned (.bool (x.text==n))/\eD W w':=by
 have B:=World.block_lt_of_cell? W _ C
 simp only [] at B
 have D:∀ o,eD W (W.alloc o):=fun o=>eH
 show Calls prog 88 #[.agg #[.string (str x.text),.string (str x.name),.int .i64 x.expires,.bool x.used],.pointer (some ⟨A,0,none⟩)] W _
 go_enter func88,ntmps88
 go_wp2_with fail
 go_ret
 exact⟨by first|rfl|simp,D _⟩
theorem ra{base gl:Nat} {vN:Value} {N:List Led.Node} {B:List Txt} {n:Led.Node} {w w':World} {x:Ending} (h:bK base gl vN N B n w x w') :
  (x=.returned (.int .i64 0)/\∃ L',bu ac 5 40 base gl 1 vN L' w w')\/(∃ c:Int,x=.returned (.int .i64 c)/\c≠0/\eD w w'):=by
 unfold bK at h
 split at h
 .split at h
  .exact .inr ⟨21,h.1,by decide,h.2⟩
  .unfold fI at h
   cases A:put cN 4 n N with
   | none=>rw [A] at h; exact .inr ⟨6,h.1,by decide,h.2⟩
   | some L=>rw [A] at h; exact .inl ⟨h.1,L,h.2⟩
 .exact .inr ⟨1,h.1,by decide,h.2⟩
theorem mt{base gl:Nat} {vN:Value} {N:List Led.Node} {B:List Txt} {n:Led.Node} {w W w':World} {x:Ending} (A:eD w W) (h:bK base gl vN N B n W x w'):bK base gl vN N B n w x w':=by
 unfold bK at h ⊢
 split
 .rename_i h1
  rw [if_pos h1] at h; split
  .rename_i h2
   rw [if_pos h2] at h; exact⟨h.1,A.trans (h.2.mono A.size)⟩
  .rename_i h2
   rw [if_neg h2] at h; exact ld A h
 .rename_i h1
  rw [if_neg h1] at h; exact⟨h.1,A.trans (h.2.mono A.size)⟩
def gL (base gl:Nat) (vN vJ:Value) (N:List Led.Node) (A:List Txt) (J:List Led.Join) (t:Txt) (n:Led.Node) (w:World) (x:Ending) (w':World):Prop:=match J.find? (fun j=>j.text==t) with
 | none=>x=.returned (.int .i64 7)/\eD w w'
 | some j=>if j.used then x=.returned (.int .i64 20)/\eD w w' else if n.name==j.name then
   ((x=.returned (.int .i64 0)/\∃ B,bK base gl vN N A n w x B/\bu ao 4 38 base gl 3 vJ (dB (fun j=>j.text==t) (fun j=>{ j with used:=true }) J) B w')\/(x≠.returned (.int .i64 0)/\bK base gl vN N A n w x w'))
  else x=.returned (.int .i64 1)/\eD w w'
theorem useJoin_any(gl:Nat) (o:Led.Op) (sv kv:Value) (vs:List Value) (N:List Led.Node) (G:List Txt) (J:List Led.Join) (base:Nat) (vN vB vJ:Value) (w:World) (hz:o.node.name.length<=9223372036854775807) (hN:N.length<=4) (hB:G.length<=8) (hJ:J.length<=16) (hr:bd cN N) (f:base<=w.heap.size)
  (T:Blk w gl vs 30) (h1:vs[1]?=some vN) (h2:vs[2]?=some vB) (h3:vs[3]?=some vJ) (Aa:w.ownsRow base 40 5 vN N.length (af ac N)) (Ab:vN.ownBlock≠some gl) (k:w.ownsRow base 9 1 vB G.length (af aj G))
  (F:w.ownsRow base 38 4 vJ J.length (af ao J)) (Ac:vJ.ownBlock≠some gl) (An:gN vJ vN) :
  Calls prog 45 #[.pointer (some ⟨gl,0,none⟩),.agg (ah o sv kv).toArray] w (gL base gl vN vJ N G J o.name o.node w):=by
 obtain⟨A,c,rfl,Ao,At⟩:=ak F
 obtain⟨W,hW⟩:=eA (w.alloc (.cells (ah o sv kv).toArray 47))
 have b0:Blk W w.heap.size (ah o sv kv) 47:=by rw [<-hW]; exact Blk.new w _ _
 have K:eD w W:=eF hW
 have Ad:=T.below K
 have cJ:W.cell? ⟨gl,3,none⟩=some (.slice A J.length c):=(Ad.cell 3).trans h3
 have H:=qm 88 #[.pointer (some ⟨w.heap.size,0,none⟩)] (enters_of func88 (by kernel_rfl) rfl) (fun d=>d.text==o.name) A J.length c J W (Vs.of_own (ae F K eG)) (by omega) (fun W' x _ hb=>sM x o.name w.heap.size W' ((b0.below hb).cell 2))
 have HW:=hO hW
 clear hW
 obtain⟨CS,l⟩:=eA ((ah o sv kv).toArray)
 have Ae:=hO l
 rw [l] at HW ⊢
 clear l
 go_enter func45,ntmps45
 go_upto_region 1 with fail
 rw [HW.out]
 clear HW
 rcases bg (fun d:Led.Join=>d.text==o.name) J with⟨hi,ha⟩|⟨i,U,hi,ha,m,n⟩
 .rw [hi] at H
  have S:Hid (∀ w',eD w w'->gL base gl vN (.slice A J.length c) N G J o.name o.node w (.returned (.int .i64 7)) w'):=hO (fun w' h=>by
   unfold gL; have:J.find? (fun d=>d.text==o.name)=none:=by
    rw [List.find?_eq_none]; intro x hx; rw [List.any_eq_false] at ha; exact ha x hx
   rw [this]; exact⟨rfl,h⟩)
  clear hi ha; go_wp2_with fail
  refine H.mono ?_; rintro e C ⟨rfl,V⟩; go_wp2; go_ret; exact S.out _ (K.trans (V.mono K.size))
 .rw [hi] at H
  rcases aW F with⟨_,h0,_⟩|⟨g,c',M,he,Ap,Au,Af,As,Ag,hM,Ah⟩
  .omega
  injection he with he1 _ he3
  subst he1 he3; have Ai:gl≠g:=fun e=>Ac (by simp [Value.ownBlock,e]); obtain⟨d,hd⟩:=eA (J[i]); have O:J.find? (fun d=>d.text==o.name)=some d:=by rw [mH U n m,hd]
  have Y:dB (fun d:Led.Join=>d.text==o.name) (fun d=>{ d with used:=true }) J=J.set i { d with used:=true }:=by rw [fw U n m,hd]
  have HJ:Hid (∀ x w',(if d.used then x=.returned (.int .i64 20)/\eD w w' else if o.node.name==d.name then
   ((x=.returned (.int .i64 0)/\∃ C,bK base gl vN N G o.node w x C/\bu ao 4 38 base gl 3 (.slice (some ⟨g,0,none⟩) J.length c) (J.set i { d with used:=true }) C w')\/(x≠.returned (.int .i64 0)/\bK base gl vN N G o.node w x w'))
  else x=.returned (.int .i64 1)/\eD w w')->gL base gl vN (.slice (some ⟨g,0,none⟩) J.length c) N G J o.name o.node w x w'):=hO (fun x w' h=>by
   unfold gL; rw [O,Y]; exact h)
  have L:∀ W' j u,Blk W' g M 38->(ao d)[j]?=some u->W'.cell? ⟨g,i * 4+j,none⟩=some u:=fun W' j u hb hj=>by
   have Aq:j<4:=by
    have:=(List.getElem?_eq_some_iff.1 hj).1; rwa [a9] at this
   have h:=jF a9 (enc:=ao) U Aq; rw [hb.cell]; rw [<-Ah,List.getElem?_take,if_pos (by omega),hd,hj] at h; exact h
  have Q:Hid (∀ C q,Blk C g M 38->Blk C gl q 30->q[3]?=some (.slice (some ⟨g,0,none⟩) J.length c)->bu ao 4 38 base gl 3 (.slice (some ⟨g,0,none⟩) J.length c) (J.set i { d with used:=true }) C (C.setCell ⟨g,i * 4+3,none⟩ (.bool true))):=hO (fun C q hb I Ar =>
   iY a9 (Below.refl _ _) Ap hb Ao Ag hM Ah U (by omega) (by rw [hd]; rfl) Ai I Ar)
  have Av:¬ ((i:Int)<0):=by omega
  have Aw:(i:Int)<(J.length:Int):=by omega
  clear hi ha m n O Y hd; go_wp2_with fail
  refine H.mono ?_; rintro e C ⟨rfl,V⟩; have D:eD w C:=K.trans (V.mono K.size); have b1:=b0.below V; have I:=T.below D; have r:=Af.below D; have Aj:C.cell? ⟨gl,3,none⟩=some (.slice (some ⟨g,0,none⟩) J.length c):=(I.cell 3).trans h3
  cases Z:d.used
  .have cu:C.cell? ⟨g,i * 4+3,none⟩=some (.bool false):=L _ 3 _ r (by rw [<-Z]; rfl)
   have f1:∀ p,(ab C p).cell? ⟨gl,3,none⟩=some (.slice (some ⟨g,0,none⟩) J.length c):=fun p=>(ap (a:=⟨gl,3,none⟩) I.lt p).trans Aj; have f2:∀ p,(ab C p).cell? ⟨w.heap.size,12,none⟩=some (.string (str o.node.name)):=fun p=>(ap (a:=⟨w.heap.size,12,none⟩) b1.lt p).trans (b1.cell 12); have f3:∀ p,(ab C p).cell? ⟨g,i * 4+1,none⟩=some (.string (str d.name)):=fun p=>L _ 1 _ (r.below (aa C p)) rfl
   cases Ak:(o.node.name==d.name)
   .have S:Hid (∀ w',eD w w'->gL base gl vN (.slice (some ⟨g,0,none⟩) J.length c) N G J o.name o.node w (.returned (.int .i64 1)) w'):=hO (fun w' h=>HJ.out _ _ (by rw [Z,Ak]; exact⟨rfl,h⟩))
    clear HJ L Q Z; go_wp2_with fail
    refine az ?_; repeat (go_big_quiet_step (fail))
    refine wpQuiet_nil ?_; rintro _ ⟨px,rfl⟩; have g2:=aa C px; clear f1 f2 f3; generalize ab C px=w2 at *; go_wp2_with fail
    go_ret; exact S.out _ (D.trans (g2.mono D.size))
   .have S:Hid (∀ x w',((x=.returned (.int .i64 0)/\∃ C,bK base gl vN N G o.node w x C/\bu ao 4 38 base gl 3 (.slice (some ⟨g,0,none⟩) J.length c) (J.set i { d with used:=true }) C w')\/(x≠.returned (.int .i64 0)/\bK base gl vN N G o.node w x w'))->gL base gl vN (.slice (some ⟨g,0,none⟩) J.length c) N G J o.name o.node w x w'):=hO (fun x w' h=>HJ.out _ _ (by rw [Z,Ak]; exact h))
    clear HJ Z; go_wp2_with fail
    refine az ?_; repeat (go_big_quiet_step (fail))
    refine wpQuiet_nil ?_; rintro _ ⟨px,rfl⟩; have g2:=aa C px; clear f1 f2 f3; generalize ab C px=w2 at *; have B:eD w w2:=D.trans (g2.mono D.size); have b2:=b1.below g2; have s:=fy b2 rfl; rw [Ae.out] at s; have X:=nQ gl o sv kv vs N G base vN vB w2 hz hN hB hr (Nat.le_trans f B.size) (T.below B) h1 h2 (ae Aa B eG) Ab (ae k B eG); rw [Ae.out] at X; clear Aj cu L; go_wp2_with fail
    refine X.mono ?_; intro e t R; rcases ra R with⟨rfl,L',hs⟩|⟨cc,rfl,Al,Ax⟩
    .obtain⟨v',b,_,_,_⟩:=hs.opened (T.below B) Ab
     have Am:(vs.set 1 v')[3]?=some (.slice (some ⟨g,0,none⟩) J.length c):=by rw [List.getElem?_set_ne (by omega)]; exact h3
     have y:Blk t g M 38:=hs.blk (Af.below B) (fun e=>by rcases An with h|h <;> simp [Value.ownBlock] at h; exact h e.symm) (fun e=>Ai e.symm)
     have c4:t.cell? ⟨gl,3,none⟩=some (.slice (some ⟨g,0,none⟩) J.length c):=(b.cell 3).trans Am; have z:∃ u,t.cell? ⟨g,i * 4+3,none⟩=some u:=by
      refine⟨M[i * 4+3]'(by omega),?_⟩; rw [y.cell,List.getElem?_eq_getElem]
     obtain⟨u,Ay⟩:=z; have Az:t.frozen? ⟨g,i * 4+3,none⟩=false:=y.froz _; have E:=S.out (.returned (.int .i64 0)) _ (.inl ⟨rfl,t,mt B R,Q.out t _ y b Am⟩); have HH:=hO E; clear E S Q hs R X s; go_wp2_with fail
     go_ret; exact HH.out
    .have E:=S.out (.returned (.int .i64 cc)) t (.inr ⟨fun e=>by injection e with e; injection e with _ e; exact Al e,mt B R⟩)
     have HH:=hO E; have A0:(cc==0)=false:=by simpa using Al
     clear E S Q R X s; go_wp2_with fail
     go_ret; exact HH.out
  .have cu:C.cell? ⟨g,i * 4+3,none⟩=some (.bool true):=L _ 3 _ r (by rw [<-Z]; rfl)
   have S:Hid (∀ w',eD w w'->gL base gl vN (.slice (some ⟨g,0,none⟩) J.length c) N G J o.name o.node w (.returned (.int .i64 20)) w'):=hO (fun w' h=>HJ.out _ _ (by rw [Z]; exact⟨rfl,h⟩))
   clear HJ L Q Z; go_wp2_with fail
   go_ret; exact S.out _ D
end
section
open Go.RowKit Mem Led
def gM {α:Type} (enc:α->List Value) (k:Nat) (e:TypeId) (g c n:Nat) (w:World) (L:List α):Prop:=L.length=n/\∃ M,Blk w g M e/\M.length=c * k/\M.take (n * k)=af enc L
section
variable {α:Type} {enc:α->List Value} {k:Nat} {e:TypeId} {g c n:Nat} {w w':World} {L:List α}
theorem gM.below(h:gM enc k e g c n w L) (A:eD w w'):gM enc k e g c n w' L:=⟨h.1,h.2.imp fun _ ⟨B,h2⟩=>⟨B.below A,h2⟩⟩
theorem gM.cell(C:∀ x,(enc x).length=k) (h:gM enc k e g c n w L) {i j:Nat} {u:Value} (hi:i<L.length) (D:(enc L[i])[j]?=some u):w.cell? ⟨g,i * k+j,none⟩=some u/\w.frozen? ⟨g,i * k+j,none⟩=false:=by
 obtain⟨H,M,E,I,A⟩:=h
 have F:j<k:=by
  have:=(List.getElem?_eq_some_iff.1 D).1; rwa [C] at this
 have h:=jF C hi F
 have B:i * k+j<n * k:=by
  have G:(i+1) * k<=n * k:=Nat.mul_le_mul_right _ (by omega); rw [Nat.succ_mul] at G; omega
 rw [<-A,List.getElem?_take,if_pos B,D] at h
 exact⟨by rw [E.cell]; exact h,E.froz _⟩
theorem gM.turn(A:∀ x,(enc x).length=k) (h:gM enc k e g c n w L) {i j:Nat} {x':α} {u:Value} (hi:i<L.length) (D:j<k) (E:enc x'=(enc L[i]).set j u):gM enc k e g c n (w.setCell ⟨g,i * k+j,none⟩ u) (L.set i x'):=by
 obtain⟨B,M,F,G,C⟩:=h
 refine⟨by rw [List.length_set,B],M.set (i * k+j) u,F.set _ _,by rw [List.length_set,G],?_⟩
 have e:M=af enc L++M.drop (n * k):=by rw [<-C,List.take_append_drop]
 have h:=rows_set A (R:=M.drop (n * k)) hi D E
 rw [<-e] at h
 rw [h,List.take_append_of_le_length (by rw [aQ A,List.length_set,B]; exact eG),List.take_of_length_le (by rw [aQ A,List.length_set,B]; exact eG)]
theorem gM.slot{base gl sl:Nat} {vs:List Value} {C:TypeId} {w0:World} (h:gM enc k e g c n w L) (A:base<=g) (D:n<=c) (E:c<=maxLen) (F:w0.grownBy w (some g)) (G:Blk w gl vs C) (H:vs[sl]?=some (.slice (some ⟨g,0,none⟩) n c)):bu enc k e base gl sl (.slice (some ⟨g,0,none⟩) n c) L w0 w:=by
 obtain⟨I,M,J,K,B⟩:=h
 refine⟨_,w,(gR G H).symm,F,?_,.inl rfl⟩
 rw [I]
 exact dz A J D E K B
end
theorem qo{w w':World} {g k:Nat} {u:Value} {M:List Value} {t:TypeId} (h:w.grownBy w' (some g)) (A:Blk w' g M t):w.grownBy (w'.setCell ⟨g,k,none⟩ u) (some g):=by
 rw [setCell_eq_setRow w' g k M.toArray _ (0,0) _ A]
 exact cO h
theorem mf(w:World) {p q:Nat} (k k':Nat) (v:Value) (h:p≠q):(w.setCell ⟨p,k,none⟩ v).cell? ⟨q,k',none⟩=w.cell? ⟨q,k',none⟩:=World.cell?_setCell_other _ _ _ _ (fun e=>h (by injection e))
theorem kH{w w':World} {r:Option Nat} (h:eD w w'):w.grownBy w' r:=bR h (eZ _ _)
theorem qg{g c n gl i:Nat} {w wx:World} {K:List Led.Key} {vs:List Value} {F:TypeId} (B t:Int) (L:w.grownBy wx (some g)) (G:gM aq 4 42 g c n wx K) (N:Blk wx gl vs F) (C:gl≠g) (hi:i<K.length) :
  let wy:=((wx.setCell ⟨g,i * 4+2,none⟩ (nm B)).setCell ⟨g,i * 4+3,none⟩ (nm t)).drew
  w.grownBy wy (some g)/\gM aq 4 42 g c n wy (K.set i { K[i] with state:=B,since:=t })/\Blk wy gl vs F/\∀ p M e,p≠g->Blk wx p M e->Blk wy p M e:=by
 have H:=G.turn aP (j:=2) (x':={ K[i] with state:=B }) (u:=nm B) hi (by omega) rfl
 have D:i<(K.set i { K[i] with state:=B }).length:=by rw [List.length_set]; exact hi
 have I:=H.turn aP (j:=3) (x':={ K[i] with state:=B,since:=t }) (u:=nm t) D (by omega) (by rw [List.getElem_set_self]; rfl)
 rw [List.set_set] at I
 have A:∀ p M e,p≠g->Blk wx p M e->Blk ((wx.setCell ⟨g,i * 4+2,none⟩ (nm B)).setCell ⟨g,i * 4+3,none⟩ (nm t)).drew p M e:=fun p M e J h=>((h.set_ne (p:=⟨g,i * 4+2,none⟩) J _).set_ne (p:=⟨g,i * 4+3,none⟩) J _).below (Below.refl _ _).drew
 obtain⟨_,M,O,_,_⟩:=G
 obtain⟨_,Q,E,_,_⟩:=H
 refine⟨fX (qo (qo L O) E),I.below (Below.refl _ _).drew,A _ _ _ C N,A⟩
theorem nh{α:Type} {p:α->Bool} {f:α->α}:∀ {L:List α},L.any p=false->dB p f L=L
 | [],_=>rfl
 | a::l,h=>by
  rw [List.any_cons,Bool.or_eq_false_iff] at h; unfold dB; rw [h.1,nh h.2]; simp
def fh (base gl:Nat) (vK:Value) (K:List Led.Key) (n:Int) (w:World) (x:Ending) (w':World):Prop :=
 if aI n 0 1099511627776 then
  if K.any (fun j=>j.state==1) then x=.returned (.int .i64 0)/\bu aq 4 42 base gl 4 vK (dB (fun j=>j.state==1) (fun j=>{ j with state:=2,since:=n }) (dW n K)) w w'
  else x=.returned (.int .i64 7)/\eD w w'
 else x=.returned (.int .i64 1)/\eD w w'
theorem t5(gl:Nat) (o:Led.Op) (sv kv:Value) (vs:List Value) (K:List Led.Key) (base:Nat) (vK:Value) (w:World) (hK:K.length<=8)
  (Ac:Blk w gl vs 30) (h4:vs[4]?=some vK) (G:w.ownsRow base 42 4 vK K.length (af aq K)) (Ao:vK.ownBlock≠some gl) :
  Calls prog 51 #[.pointer (some ⟨gl,0,none⟩),.agg (ah o sv kv).toArray] w (fh base gl vK K o.n w):=by
 obtain⟨W,hW⟩:=eA (w.alloc (.cells (ah o sv kv).toArray 47))
 have b0:Blk W w.heap.size (ah o sv kv) 47:=by rw [<-hW]; exact Blk.new w _ _
 have T:eD w W:=eF hW
 have B:=mU gl vs 1 K base vK W (by omega) (Ac.below T) h4 (ae G T eG)
 have Ad:=hO (fun w1 (hb:eD W w1)=>mU gl vs 2 K base vK w1 (by omega) ((Ac.below T).below hb) h4 (ae (ae G T eG) hb eG))
 have HW:=hO hW
 clear hW
 obtain⟨CS,Ah⟩:=eA ((ah o sv kv).toArray)
 rw [Ah] at HW ⊢
 clear Ah
 obtain⟨p,hp⟩:=eA (bc (fun k:Led.Key=>k.state==1) K)
 obtain⟨a,ha⟩:=eA (bc (fun k:Led.Key=>k.state==2) K)
 rw [hp] at B
 rw [ha] at Ad
 have HP:=hO hp
 have HA:=hO ha
 clear hp ha
 go_enter func51,ntmps51
 go_upto_region 1 with fail
 rw [HW.out]
 clear HW
 go_wp2_with fail
 refine B.mono ?_
 rintro e w1 ⟨rfl,Ae⟩
 go_wp2_with fail
 refine(Ad.out w1 Ae).mono ?_
 rintro e w2 ⟨rfl,Ap⟩
 have s:eD W w2:=Ae.trans (Ap.mono Ae.size)
 have C:eD w w2:=T.trans (s.mono T.size)
 have b2:=b0.below s
 have c1:w2.cell? ⟨w.heap.size,1,none⟩=some (.int .i64 o.n):=b2.cell 1
 clear B Ad
 cases Af:aI o.n 0 1099511627776
 .have t:Hid (∀ w',eD w w'->fh base gl vK K o.n w (.returned (.int .i64 1)) w'):=hO (fun w' h=>by unfold fh; rw [Af]; exact⟨rfl,h⟩)
  go_wp2_with fail
  refine(de _ _ _ _).mono ?_; rintro e w3 ⟨rfl,L⟩; have N:=L.symm; subst N; go_wp2_with fail
  go_ret; exact t.out _ C
 .rcases bg (fun k:Led.Key=>k.state==1) K with⟨hi,D⟩|⟨i,q,hi,D,X,r⟩
  .have e:=HP.out.symm.trans hi
   subst e; have t:Hid (∀ w',eD w w'->fh base gl vK K o.n w (.returned (.int .i64 7)) w'):=hO (fun w' h=>by unfold fh; rw [Af,D]; exact⟨rfl,h⟩)
   clear hi D; go_wp2_with fail
   refine(de _ _ _ _).mono ?_; rintro e w3 ⟨rfl,L⟩; have N:=L.symm; subst N; go_wp2_with fail
   go_ret; exact t.out _ C
  .have e:=HP.out.symm.trans hi
   subst e; rcases aW G with⟨_,h0,_⟩|⟨g,c,M,rfl,Ai,Ar,hB,Aj,Ak,hM,Ag⟩
   .omega
   have Y:gl≠g:=fun e=>Ao (by simp [Value.ownBlock,e]); have Z:gM aq 4 42 g c K.length w K:=⟨rfl,M,hB,hM,Ag⟩; have t:Hid (∀ w',bu aq 4 42 base gl 4 (.slice (some ⟨g,0,none⟩) K.length c) (dB (fun j=>j.state==1) (fun j=>{ j with state:=2,since:=o.n }) (dW o.n K)) w w'->fh base gl (.slice (some ⟨g,0,none⟩) K.length c) K o.n w (.returned (.int .i64 0)) w'):=hO (fun w' h=>by unfold fh; rw [Af,D]; exact⟨rfl,h⟩)
   have As:¬ ((i:Int)<0):=by omega
   have At:(i:Int)<(K.length:Int):=by omega
   have A:=Z.below C; have b:=Ac.below C; have cK:w2.cell? ⟨gl,4,none⟩=some (.slice (some ⟨g,0,none⟩) K.length c):=(b.cell 4).trans h4; rcases bg (fun k:Led.Key=>k.state==2) K with⟨d,E⟩|⟨O,Q,d,E,l,y⟩
   .have e:=HA.out.symm.trans d
    subst e; have H:dW o.n K=K:=nh E; have HF:=hO (qg 2 o.n (kH C) A b Y q); have HM:=hO (fw (p:=fun j:Led.Key=>j.state==1) (f:=fun j=>{ j with state:=2,since:=o.n }) q r X); rw [H] at t; have R:=(A.cell aP (j:=2) (u:=nm K[i].state) q rfl); have S:=(A.cell aP (j:=3) (u:=nm K[i].since) q rfl); have Au:decide ((0:Int) <= -1)=false:=by decide
    go_wp2_with fail
    refine(de _ _ _ _).mono ?_; rintro e w3 ⟨rfl,L⟩; have N:=L.symm; subst N; clear Z hi D X r d E H HP HA G hB hM Ag A; unfold nm at R S; obtain⟨R,Al⟩:=R; obtain⟨S,Am⟩:=S; obtain⟨s1,B⟩:∃ x,K[i].state=x:=⟨_,rfl⟩; obtain⟨s2,I⟩:∃ x,K[i].since=x:=⟨_,rfl⟩; rw [B] at R; rw [I] at S; clear B I; have F:Hid ((∀ (w':World) (k:Nat) (u:Value),(w'.cell? ⟨gl,4,none⟩=some (.slice (some ⟨g,0,none⟩) K.length c)/\w'.cell? ⟨w.heap.size,1,none⟩=some (.int .i64 o.n))->(w'.setCell ⟨g,k,none⟩ u).cell? ⟨gl,4,none⟩=some (.slice (some ⟨g,0,none⟩) K.length c)/\(w'.setCell ⟨g,k,none⟩ u).cell? ⟨w.heap.size,1,none⟩=some (.int .i64 o.n))/\(∀ (w':World),(w'.cell? ⟨gl,4,none⟩=some (.slice (some ⟨g,0,none⟩) K.length c)/\w'.cell? ⟨w.heap.size,1,none⟩=some (.int .i64 o.n))->w'.drew.cell? ⟨gl,4,none⟩=some (.slice (some ⟨g,0,none⟩) K.length c)/\w'.drew.cell? ⟨w.heap.size,1,none⟩=some (.int .i64 o.n))) :=
     hO ⟨fun w' k u h=>⟨(mf _ _ _ _ Y.symm).trans h.1,(mf _ _ _ _ (by omega)).trans h.2⟩,fun w' h=>h⟩
    go_upto_region 8 with fail
    go_region_held3 (fun w'=>w'.cell? ⟨gl,4,none⟩=some (.slice (some ⟨g,0,none⟩) K.length c)/\w'.cell? ⟨w.heap.size,1,none⟩=some (.int .i64 o.n)) (first|exact F.out.1 _ _ _ ⟨by assumption,by assumption⟩|exact F.out.1 _ _ _ (by assumption)|exact F.out.2 _ (F.out.1 _ _ _ ⟨by assumption,by assumption⟩)|exact F.out.2 _ (F.out.1 _ _ _ (by assumption))|go_keep) (fail)
    go_wp2_with fail
    go_ret; obtain⟨f1,z,f3,_⟩:=HF.out; refine t.out _ ?_; rw [HM.out]; exact z.slot Ai Aj Ak f1 f3 h4
   .have e:=HA.out.symm.trans d
    subst e; have An:i≠O:=fun e=>by
     subst e; rw [beq_iff_eq] at X l; omega
    obtain⟨V,U⟩:∃ V,K.set O { K[O] with state:=3,since:=o.n }=V:=⟨_,rfl⟩; have H:dW o.n K=V:=(fw (p:=fun j:Led.Key=>j.state==2) (f:=fun j=>{ j with state:=3,since:=o.n }) Q y l).trans U; have Aq:V.length=K.length:=by rw [<-U,List.length_set]
    have J:i<V.length:=by omega
    have Aa:(V[i].state==1)=true:=by
     have:V[i]=K[i]:=by
      simp only [<-U]; exact List.getElem_set_ne (Ne.symm An) _
     rw [this]; exact X
    have Ab:∀ x∈V.take i,(x.state==1)=false:=by
     intro x hx; rw [<-U] at hx; rcases List.mem_or_eq_of_mem_set (by rw [List.take_set] at hx; exact hx) with h|h
     .exact r x h
     .subst h
      rfl
    have F3:=hO (qg 3 o.n (kH C) A b Y Q); have HM:=hO (fw (p:=fun j:Led.Key=>j.state==1) (f:=fun j=>{ j with state:=2,since:=o.n }) J Ab Aa); rw [H] at t; rw [U] at F3; have Av:0<=(O:Int):=by omega
    have Aw:¬ ((O:Int)<0):=by omega
    have Ax:(O:Int)<(K.length:Int):=by omega
    have Ay:=hO (And.intro Aq J); clear Ab Aa An H U y l; have R:=(A.cell aP (j:=2) (u:=nm K[O].state) Q rfl); have S:=(A.cell aP (j:=3) (u:=nm K[O].since) Q rfl); go_wp2_with fail
    refine(de _ _ _ _).mono ?_; rintro e w3 ⟨rfl,L⟩; have N:=L.symm; subst N; clear Z hi D X r d E HP HA G hB hM Ag; unfold nm at R S; obtain⟨R,Al⟩:=R; obtain⟨S,Am⟩:=S; obtain⟨s1,B⟩:∃ x,K[O].state=x:=⟨_,rfl⟩; obtain⟨s2,I⟩:∃ x,K[O].since=x:=⟨_,rfl⟩; rw [B] at R; rw [I] at S; clear B I; have F:Hid ((∀ (w':World) (k:Nat) (u:Value),(w'.cell? ⟨gl,4,none⟩=some (.slice (some ⟨g,0,none⟩) K.length c)/\w'.cell? ⟨w.heap.size,1,none⟩=some (.int .i64 o.n))->(w'.setCell ⟨g,k,none⟩ u).cell? ⟨gl,4,none⟩=some (.slice (some ⟨g,0,none⟩) K.length c)/\(w'.setCell ⟨g,k,none⟩ u).cell? ⟨w.heap.size,1,none⟩=some (.int .i64 o.n))/\(∀ (w':World),(w'.cell? ⟨gl,4,none⟩=some (.slice (some ⟨g,0,none⟩) K.length c)/\w'.cell? ⟨w.heap.size,1,none⟩=some (.int .i64 o.n))->w'.drew.cell? ⟨gl,4,none⟩=some (.slice (some ⟨g,0,none⟩) K.length c)/\w'.drew.cell? ⟨w.heap.size,1,none⟩=some (.int .i64 o.n))) :=
     hO ⟨fun w' k u h=>⟨(mf _ _ _ _ Y.symm).trans h.1,(mf _ _ _ _ (by omega)).trans h.2⟩,fun w' h=>h⟩
    go_upto_region 7 with fail
    go_region_held3 (fun w'=>w'.cell? ⟨gl,4,none⟩=some (.slice (some ⟨g,0,none⟩) K.length c)/\w'.cell? ⟨w.heap.size,1,none⟩=some (.int .i64 o.n)) (first|exact F.out.1 _ _ _ ⟨by assumption,by assumption⟩|exact F.out.1 _ _ _ (by assumption)|exact F.out.2 _ (F.out.1 _ _ _ ⟨by assumption,by assumption⟩)|exact F.out.2 _ (F.out.1 _ _ _ (by assumption))|go_keep) (fail)
    obtain⟨w3,m⟩:=eA (((w2.setCell ⟨g,O * 4+2,none⟩ (nm 3)).setCell ⟨g,O * 4+3,none⟩ (nm o.n)).drew); rw [m] at F3; obtain⟨f1,z,f3,f4⟩:=F3.out; have b3:=f4 _ _ _ (by omega) b2; have c3:w3.cell? ⟨w.heap.size,1,none⟩=some (.int .i64 o.n):=b3.cell 1; have Az:w3.cell? ⟨gl,4,none⟩=some (.slice (some ⟨g,0,none⟩) K.length c):=(f3.cell 4).trans h4; have HF:=hO (qg 2 o.n f1 z f3 Y J); have R:=(z.cell aP (j:=2) (u:=nm V[i].state) J rfl); have S:=(z.cell aP (j:=3) (u:=nm V[i].since) J rfl); clear f1 z f4 F3; have HE:Hid (_):=hO m; clear m; unfold nm at R S; obtain⟨R,Al⟩:=R; obtain⟨S,Am⟩:=S; obtain⟨s1,B⟩:∃ x,V[i].state=x:=⟨_,rfl⟩; obtain⟨s2,I⟩:∃ x,V[i].since=x:=⟨_,rfl⟩; rw [B] at R; rw [I] at S; clear B I; rw [show ((w2.setCell ⟨g,O * 4+2,none⟩ (.int .i64 3)).setCell ⟨g,O * 4+3,none⟩ (.int .i64 o.n)).drew=w3 from HE.out]; clear HE; go_upto_region 8 with fail
    go_region_held3 (fun w'=>w'.cell? ⟨gl,4,none⟩=some (.slice (some ⟨g,0,none⟩) K.length c)/\w'.cell? ⟨w.heap.size,1,none⟩=some (.int .i64 o.n)) (first|exact F.out.1 _ _ _ ⟨by assumption,by assumption⟩|exact F.out.1 _ _ _ (by assumption)|exact F.out.2 _ (F.out.1 _ _ _ ⟨by assumption,by assumption⟩)|exact F.out.2 _ (F.out.1 _ _ _ (by assumption))|go_keep) (fail)
    go_wp2_with fail
    go_ret; obtain⟨f1,z,f3,_⟩:=HF.out; refine t.out _ ?_; rw [HM.out]; exact z.slot Ai Aj Ak f1 f3 h4
end
end Go.Proofs.YtmbpnkacggngkaaGreatDoor
