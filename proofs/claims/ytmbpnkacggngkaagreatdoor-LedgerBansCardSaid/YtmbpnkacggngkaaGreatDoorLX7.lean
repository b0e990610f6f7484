/- LedPut, LedPutS, LedDoA, LedMayB, LedSets, LedDoB (put together by bundle.py: only what is needed). -/
import Derived.Lib.OwnBridge
import Derived.Sort.OwnSorted
import Derived.Test.YtmbpnkacggngkaaGreatDoorLX6
set_option maxRecDepth 100000
set_option maxHeartbeats 16000000
namespace Go.Proofs.YtmbpnkacggngkaaGreatDoor
open Batch
open Tryz
section
open Go.RowKit Mem Led
def bu {α:Type} (enc:α->List Value) (k:Nat) (e:TypeId) (base gl sl:Nat) (v:Value) (L':List α) (w w':World):Prop :=
 ∃ A B,w'=B.setCell ⟨gl,sl,none⟩ A/\w.grownBy B v.ownBlock/\B.ownsRow base e k A L'.length (af enc L')/\(A.ownBlock=v.ownBlock\/∃ g,w.heap.size<=g/\A.ownBlock=some g)
theorem bR{w C D:World} {r:Option Nat} (h:eD w C) (A:C.grownBy D r):w.grownBy D r :=
 ⟨A.os.trans h.os,A.tape.trans h.tape,A.output.trans h.output,Nat.le_trans h.size A.size,fun k E B=>(A.block k (Nat.lt_of_lt_of_le E h.size) B).trans (h.block k E)⟩
theorem qr{α:Type} {p:α->Bool} {L:List α} {i:Nat} (hi:i<L.length) (h:∀ x∈L.take i,p x=false) (B:p L[i]=true):L.eraseP p=L.take i++L.drop (i+1):=by
 have e:L=L.take i++L[i]::L.drop (i+1):=by rw [<-List.drop_eq_getElem_cons hi,List.take_append_drop]
 generalize L[i]=x at *
 generalize L.take i=A at *
 generalize L.drop (i+1)=D at *
 subst e
 rw [List.eraseP_append_right _ (by intro b C; rw [h b C]; simp)]
 simp [B]
theorem bg{α:Type} (p:α->Bool) (L:List α):(bc p L = -1/\L.any p=false)\/∃ i:Nat,∃ hi:i<L.length,bc p L=i/\L.any p=true/\p L[i]=true/\∀ x∈L.take i,p x=false:=by
 unfold bc
 cases h:L.findIdx? p with
 | none =>
  rw [List.findIdx?_eq_none_iff] at h; exact .inl ⟨rfl,by rw [List.any_eq_false]; intro x hx; rw [h x hx]; simp⟩
 | some i =>
  obtain⟨hi,A,B⟩:=List.findIdx?_eq_some_iff_getElem.1 h; refine .inr ⟨i,hi,rfl,List.any_eq_true.2 ⟨_,List.getElem_mem hi,A⟩,A,fun x hx=>?_⟩; rw [List.mem_take_iff_getElem] at hx; obtain⟨j,C,rfl⟩:=hx; have:=B j (by omega); simpa using this
theorem rows_str:∀ L:List Txt,af aj L=tv L
 | []=>rfl
 | x::L=>by
  rw [bT,rows_str L]; rfl
theorem pb{w:World} {base n c:Nat} {A:Option Addr} {L:List Txt} {e:TypeId} (h:w.ownsRow base e 1 (.slice A n c) n (af aj L)):Ts w A n L:=by
 rw [rows_str] at h
 exact Ts.of_own h
def bJ {α:Type} (enc:α->List Value) (k:Nat) (e:TypeId) (base gl sl:Nat) (v:Value) (L:List α) (p:α->Bool) (w:World) (x:Ending) (w':World):Prop :=
 if L.any p then x=.returned (.int .i64 0)/\bu enc k e base gl sl v (L.eraseP p) w w' else x=.returned (.int .i64 7)/\eD w w'
theorem jk{α:Type} {enc:α->List Value} {k:Nat} {e:TypeId} {base gl sl:Nat} {v:Value} {L:List α} {p:α->Bool} {w:World} (A:L.any p=false):Hid (∀ w',eD w w'->bJ enc k e base gl sl v L p w (.returned (.int .i64 7)) w'):=hO (fun w' B=>by unfold bJ; rw [A]; exact⟨rfl,B⟩)
theorem qC{w E B:World} {gl sl:Nat} {v u:Value} (C:eD w E) (G:E.grownBy B v.ownBlock) (D:v.ownBlock≠some gl) (A:gl<w.heap.size) (H:w.cell? ⟨gl,sl,none⟩=some u) (I:w.frozen? ⟨gl,sl,none⟩=false):B.cell? ⟨gl,sl,none⟩=some u/\B.frozen? ⟨gl,sl,none⟩=false:=by
 have F:=G.block gl (Nat.lt_of_lt_of_le A C.size) (fun e=>D e.symm)
 exact⟨(World.cell?_of_block (a:=⟨gl,sl,none⟩) F).trans ((C.cell (p:=⟨gl,sl,none⟩) A).trans H),(World.frozen?_of_block (a:=⟨gl,sl,none⟩) F).trans ((C.frozen (p:=⟨gl,sl,none⟩) A).trans I)⟩
theorem jj{α:Type} {enc:α->List Value} {k:Nat} {e:TypeId} {base gl sl i m c:Nat} {A:Option Addr} {L:List α} {p:α->Bool} {w:World} (E:i<L.length) (N:L.any p=true) (F:p L[i]=true) (G:∀ x∈L.take i,p x=false) (U:L.length=i+1+m) (O:w.cell? ⟨gl,sl,none⟩=some (.slice A L.length c)) (Q:w.frozen? ⟨gl,sl,none⟩=false) (H:gl<w.heap.size) (I:(Value.slice A L.length c).ownBlock≠some gl) :
  Hid (∀ J B C D,eD w J->B.ownsRow base e k (.slice C (i+m) D) (i+m) (af enc (L.take i++L.drop (i+1)))->J.grownBy B (Value.slice A L.length c).ownBlock->(Value.slice C (i+m) D).ownBlock=(Value.slice A L.length c).ownBlock ->
   (B.cell? ⟨gl,sl,none⟩=some (.slice A L.length c)/\B.frozen? ⟨gl,sl,none⟩=false)/\Hid (bJ enc k e base gl sl (.slice A L.length c) L p w (.returned (.int .i64 0)) (B.setCell ⟨gl,sl,none⟩ (.slice C (i+m) D)))):=hO fun J B C D K R M S=>⟨qC K M I H O Q,hO (by
 unfold bJ
 rw [N]
 refine⟨rfl,_,B,rfl,bR K M,?_,.inl S⟩
 rw [qr E G F]
 have T:(L.take i++L.drop (i+1)).length=i+m:=by rw [List.length_append,List.length_take,List.length_drop]; omega
 rw [T]
 exact R)⟩
theorem goneEnt_any(gl sl:Nat) (g:Nat) (lb:Array Value) (Z:∀ args w,(callFunc g args).run prog w=.ok (.enter g args) w) (p:Led.Entry × Value->Bool) (L:List (Led.Entry × Value)) (base:Nat) (v:Value) (w:World) (z:L.length<=1000)
  (S:w.cell? ⟨gl,sl,none⟩=some v) (b:w.frozen? ⟨gl,sl,none⟩=false) (G:gl<w.heap.size) (C:w.ownsRow base 36 5 v L.length (af ag L)) (H:v.ownBlock≠some gl) (T:∀ y∈L,∀ u∈ag y,u.oneCell'=true)
  (Q:∀ (W:World) (x:Led.Entry × Value),x∈L->eD w W->Calls prog g (#[.agg (ag x).toArray]++lb) W fun e w'=>e=.returned (.bool (p x))/\eD W w') :
  Calls prog 82 #[.pointer (some ⟨gl,sl,none⟩),.func (.func g) #[] lb] w (bJ ag 5 36 base gl sl v L p w):=by
 obtain⟨A,c,rfl,d,f⟩:=ak C
 have B:=idxEnt_any g lb Z p A L.length c L w (Vs.of_own C) (by omega) Q
 rcases bg p L with⟨hi,I⟩|⟨i,R,hi,I,J,K⟩
 .rw [hi] at B
  have M:=jk (enc:=ag) (k:=5) (e:=36) (base:=base) (gl:=gl) (sl:=sl) (v:=.slice A L.length c) (w:=w) I; clear hi I Q; go_enter func82,ntmps82
  go_wp2_with fail
  refine B.mono ?_; rintro e F ⟨rfl,D⟩; go_wp2; go_ret; exact M.out _ D
 .rw [hi] at B
  obtain⟨m,O⟩:∃ m,L.length=i+1+m:=⟨L.length - (i+1),by omega⟩; have E:=hO fun F (h:eD w F)=>delEnt_any L i m base (.slice A L.length c) F O (by rw [<-O]; exact ae C h eG) (by omega) T
  have U:=jj (enc:=ag) (k:=5) (e:=36) (base:=base) R I J K O S b G H; have j:¬ ((i:Int)<0):=by omega
  have l:IntKind.i64.wrap ((i:Int)+1)=(i:Int)+1:=by rw [IntKind.wrap_i64]; omega
  clear hi I Q J K O H T; go_enter func82,ntmps82
  go_wp2_with fail
  refine B.mono ?_; rintro e F ⟨rfl,D⟩; have n:=(D.cell (p:=⟨gl,sl,none⟩) G).trans S; go_wp2_with fail
  refine(E.out F D).mono ?_; rintro e o ⟨q,r,rfl,V,X,Y⟩; obtain⟨⟨s,t⟩,N⟩:=U.out F o q r D V X Y; clear V X Y E U; go_wp2; go_ret; exact N.out
theorem goneNod_any(gl sl:Nat) (g:Nat) (lb:Array Value) (Z:∀ args w,(callFunc g args).run prog w=.ok (.enter g args) w) (p:Led.Node->Bool) (L:List (Led.Node)) (base:Nat) (v:Value) (w:World) (z:L.length<=1000)
  (S:w.cell? ⟨gl,sl,none⟩=some v) (b:w.frozen? ⟨gl,sl,none⟩=false) (G:gl<w.heap.size) (C:w.ownsRow base 40 5 v L.length (af ac L)) (H:v.ownBlock≠some gl) (T:∀ y∈L,∀ u∈ac y,u.oneCell'=true)
  (Q:∀ (W:World) (x:Led.Node),x∈L->eD w W->Calls prog g (#[.agg (ac x).toArray]++lb) W fun e w'=>e=.returned (.bool (p x))/\eD W w') :
  Calls prog 98 #[.pointer (some ⟨gl,sl,none⟩),.func (.func g) #[] lb] w (bJ ac 5 40 base gl sl v L p w):=by
 obtain⟨A,c,rfl,d,f⟩:=ak C
 have B:=qk g lb Z p A L.length c L w (Vs.of_own C) (by omega) Q
 rcases bg p L with⟨hi,I⟩|⟨i,R,hi,I,J,K⟩
 .rw [hi] at B
  have M:=jk (enc:=ac) (k:=5) (e:=40) (base:=base) (gl:=gl) (sl:=sl) (v:=.slice A L.length c) (w:=w) I; clear hi I Q; go_enter func98,ntmps98
  go_wp2_with fail
  refine B.mono ?_; rintro e F ⟨rfl,D⟩; go_wp2; go_ret; exact M.out _ D
 .rw [hi] at B
  obtain⟨m,O⟩:∃ m,L.length=i+1+m:=⟨L.length - (i+1),by omega⟩; have E:=hO fun F (h:eD w F)=>delNod_any L i m base (.slice A L.length c) F O (by rw [<-O]; exact ae C h eG) (by omega) T
  have U:=jj (enc:=ac) (k:=5) (e:=40) (base:=base) R I J K O S b G H; have j:¬ ((i:Int)<0):=by omega
  have l:IntKind.i64.wrap ((i:Int)+1)=(i:Int)+1:=by rw [IntKind.wrap_i64]; omega
  clear hi I Q J K O H T; go_enter func98,ntmps98
  go_wp2_with fail
  refine B.mono ?_; rintro e F ⟨rfl,D⟩; have n:=(D.cell (p:=⟨gl,sl,none⟩) G).trans S; go_wp2_with fail
  refine(E.out F D).mono ?_; rintro e o ⟨q,r,rfl,V,X,Y⟩; obtain⟨⟨s,t⟩,N⟩:=U.out F o q r D V X Y; clear V X Y E U; go_wp2; go_ret; exact N.out
theorem goneKey_any(gl sl:Nat) (g:Nat) (lb:Array Value) (Z:∀ args w,(callFunc g args).run prog w=.ok (.enter g args) w) (p:Led.Key->Bool) (L:List (Led.Key)) (base:Nat) (v:Value) (w:World) (z:L.length<=1000)
  (S:w.cell? ⟨gl,sl,none⟩=some v) (b:w.frozen? ⟨gl,sl,none⟩=false) (G:gl<w.heap.size) (C:w.ownsRow base 42 4 v L.length (af aq L)) (H:v.ownBlock≠some gl) (T:∀ y∈L,∀ u∈aq y,u.oneCell'=true)
  (Q:∀ (W:World) (x:Led.Key),x∈L->eD w W->Calls prog g (#[.agg (aq x).toArray]++lb) W fun e w'=>e=.returned (.bool (p x))/\eD W w') :
  Calls prog 105 #[.pointer (some ⟨gl,sl,none⟩),.func (.func g) #[] lb] w (bJ aq 4 42 base gl sl v L p w):=by
 obtain⟨A,c,rfl,d,f⟩:=ak C
 have B:=lQ g lb Z p A L.length c L w (Vs.of_own C) (by omega) Q
 rcases bg p L with⟨hi,I⟩|⟨i,R,hi,I,J,K⟩
 .rw [hi] at B
  have M:=jk (enc:=aq) (k:=4) (e:=42) (base:=base) (gl:=gl) (sl:=sl) (v:=.slice A L.length c) (w:=w) I; clear hi I Q; go_enter func105,ntmps105
  go_wp2_with fail
  refine B.mono ?_; rintro e F ⟨rfl,D⟩; go_wp2; go_ret; exact M.out _ D
 .rw [hi] at B
  obtain⟨m,O⟩:∃ m,L.length=i+1+m:=⟨L.length - (i+1),by omega⟩; have E:=hO fun F (h:eD w F)=>delKey_any L i m base (.slice A L.length c) F O (by rw [<-O]; exact ae C h eG) (by omega) T
  have U:=jj (enc:=aq) (k:=4) (e:=42) (base:=base) R I J K O S b G H; have j:¬ ((i:Int)<0):=by omega
  have l:IntKind.i64.wrap ((i:Int)+1)=(i:Int)+1:=by rw [IntKind.wrap_i64]; omega
  clear hi I Q J K O H T; go_enter func105,ntmps105
  go_wp2_with fail
  refine B.mono ?_; rintro e F ⟨rfl,D⟩; have n:=(D.cell (p:=⟨gl,sl,none⟩) G).trans S; go_wp2_with fail
  refine(E.out F D).mono ?_; rintro e o ⟨q,r,rfl,V,X,Y⟩; obtain⟨⟨s,t⟩,N⟩:=U.out F o q r D V X Y; clear V X Y E U; go_wp2; go_ret; exact N.out
theorem goneBun_any(gl sl:Nat) (g:Nat) (lb:Array Value) (Z:∀ args w,(callFunc g args).run prog w=.ok (.enter g args) w) (p:Led.Bundle × Value->Bool) (L:List (Led.Bundle × Value)) (base:Nat) (v:Value) (w:World) (z:L.length<=1000)
  (S:w.cell? ⟨gl,sl,none⟩=some v) (b:w.frozen? ⟨gl,sl,none⟩=false) (G:gl<w.heap.size) (C:w.ownsRow base 45 3 v L.length (af ai L)) (H:v.ownBlock≠some gl) (T:∀ y∈L,∀ u∈ai y,u.oneCell'=true)
  (Q:∀ (W:World) (x:Led.Bundle × Value),x∈L->eD w W->Calls prog g (#[.agg (ai x).toArray]++lb) W fun e w'=>e=.returned (.bool (p x))/\eD W w') :
  Calls prog 112 #[.pointer (some ⟨gl,sl,none⟩),.func (.func g) #[] lb] w (bJ ai 3 45 base gl sl v L p w):=by
 obtain⟨A,c,rfl,d,f⟩:=ak C
 have B:=qn g lb Z p A L.length c L w (Vs.of_own C) (by omega) Q
 rcases bg p L with⟨hi,I⟩|⟨i,R,hi,I,J,K⟩
 .rw [hi] at B
  have M:=jk (enc:=ai) (k:=3) (e:=45) (base:=base) (gl:=gl) (sl:=sl) (v:=.slice A L.length c) (w:=w) I; clear hi I Q; go_enter func112,ntmps112
  go_wp2_with fail
  refine B.mono ?_; rintro e F ⟨rfl,D⟩; go_wp2; go_ret; exact M.out _ D
 .rw [hi] at B
  obtain⟨m,O⟩:∃ m,L.length=i+1+m:=⟨L.length - (i+1),by omega⟩; have E:=hO fun F (h:eD w F)=>delBun_any L i m base (.slice A L.length c) F O (by rw [<-O]; exact ae C h eG) (by omega) T
  have U:=jj (enc:=ai) (k:=3) (e:=45) (base:=base) R I J K O S b G H; have j:¬ ((i:Int)<0):=by omega
  have l:IntKind.i64.wrap ((i:Int)+1)=(i:Int)+1:=by rw [IntKind.wrap_i64]; omega
  clear hi I Q J K O H T; go_enter func112,ntmps112
  go_wp2_with fail
  refine B.mono ?_; rintro e F ⟨rfl,D⟩; have n:=(D.cell (p:=⟨gl,sl,none⟩) G).trans S; go_wp2_with fail
  refine(E.out F D).mono ?_; rintro e o ⟨q,r,rfl,V,X,Y⟩; obtain⟨⟨s,t⟩,N⟩:=U.out F o q r D V X Y; clear V X Y E U; go_wp2; go_ret; exact N.out
theorem goneStr_any(gl sl:Nat) (g:Nat) (lb:Array Value) (Z:∀ args w,(callFunc g args).run prog w=.ok (.enter g args) w) (p:Txt->Bool) (L:List (Txt)) (base:Nat) (v:Value) (w:World) (z:L.length<=1000)
  (S:w.cell? ⟨gl,sl,none⟩=some v) (b:w.frozen? ⟨gl,sl,none⟩=false) (G:gl<w.heap.size) (C:w.ownsRow base 9 1 v L.length (af aj L)) (H:v.ownBlock≠some gl) (T:∀ y∈L,∀ u∈aj y,u.oneCell'=true)
  (Q:∀ (W:World) (x:Txt),x∈L->eD w W->Calls prog g (#[.string (str x)]++lb) W fun e w'=>e=.returned (.bool (p x))/\eD W w') :
  Calls prog 96 #[.pointer (some ⟨gl,sl,none⟩),.func (.func g) #[] lb] w (bJ aj 1 9 base gl sl v L p w):=by
 obtain⟨A,c,rfl,d,f⟩:=ak C
 have B:=qj g lb Z p A L.length c L w (pb C) (by omega) Q
 rcases bg p L with⟨hi,I⟩|⟨i,R,hi,I,J,K⟩
 .rw [hi] at B
  have M:=jk (enc:=aj) (k:=1) (e:=9) (base:=base) (gl:=gl) (sl:=sl) (v:=.slice A L.length c) (w:=w) I; clear hi I Q; go_enter func96,ntmps96
  go_wp2_with fail
  refine B.mono ?_; rintro e F ⟨rfl,D⟩; go_wp2; go_ret; exact M.out _ D
 .rw [hi] at B
  obtain⟨m,O⟩:∃ m,L.length=i+1+m:=⟨L.length - (i+1),by omega⟩; have E:=hO fun F (h:eD w F)=>delStr_any L i m base (.slice A L.length c) F O (by rw [<-O]; exact ae C h eG) (by omega) T
  have U:=jj (enc:=aj) (k:=1) (e:=9) (base:=base) R I J K O S b G H; have j:¬ ((i:Int)<0):=by omega
  have l:IntKind.i64.wrap ((i:Int)+1)=(i:Int)+1:=by rw [IntKind.wrap_i64]; omega
  clear hi I Q J K O H T; go_enter func96,ntmps96
  go_wp2_with fail
  refine B.mono ?_; rintro e F ⟨rfl,D⟩; have n:=(D.cell (p:=⟨gl,sl,none⟩) G).trans S; go_wp2_with fail
  refine(E.out F D).mono ?_; rintro e o ⟨q,r,rfl,V,X,Y⟩; obtain⟨⟨s,t⟩,N⟩:=U.out F o q r D V X Y; clear V X Y E U; go_wp2; go_ret; exact N.out
def cnt {α:Type} (c:α->α->Int) (x:α) (L:List α):Nat:=(L.filter (fun y=>decide (c y x<0))).length
def kG {α:Type} (c:α->α->Int) (x:α) (L:List α):Bool:=(L[cnt c x L]?.map (fun y=>decide (c y x=0))).getD false
theorem rP{α:Type} {c:α->α->Int} {x:α} {L:List α} {k:Nat} (h:Led.js c x L k):k=cnt c x L:=by
 unfold cnt
 have e:L=L.take k++L.drop k:=(List.take_append_drop k L).symm
 have C:=h.lo
 have D:=h.hi
 have F:(L.take k).length=k:=by rw [List.length_take]; exact Nat.min_eq_left h.le
 generalize L.take k=A at *
 generalize L.drop k=B at *
 rw [e,List.filter_append,cW (t:=A) (fun z E=>decide_eq_true (C z E)),dv (t:=B) (fun z E=>decide_eq_false (by have:=D z E; omega)),List.append_nil,F]
theorem gD{α:Type} {c:α->α->Int} {x:α} {L:List α}:kG c x L=true↔∃ A:cnt c x L<L.length,c L[cnt c x L] x=0:=by
 unfold kG
 by_cases h:cnt c x L<L.length
 .rw [List.getElem?_eq_getElem h]
  simp [h]
 .rw [List.getElem?_eq_none (by omega)]
  simp [h]
theorem lq{α:Type} {P:Program} {F:FuncId} {args:Array Value} {c:α->α->Int} {x:α} {L:List α} {w:World} (h:Calls P F args w (Found c x L w)) :
  Calls P F args w fun e w'=>e=.returned (.tuple #[.int .i64 (cnt c x L:Nat),.bool (kG c x L)])/\eD w w':=h.mono fun e w' ⟨k,f,h1,h2,h3,h4⟩=>by
 obtain rfl:=rP h2
 have A:f=kG c x L:=by rw [Bool.eq_iff_iff,h3,gD]
 exact⟨by rw [h1,A],h4⟩
theorem dY{α:Type} {c:α->α->Int} {x:α} {L:List α} (D:Cmp c) (E:bd c L):Led.js c x L (cnt c x L):=by
 have key:∀ L:List α,bd c L->∃ k,Led.js c x L k:=by
  intro L C; induction L with
  | nil=>exact⟨0,⟨eG,by simp,by simp⟩⟩
  | cons y L ih =>
   unfold bd at C; rw [List.pairwise_cons] at C; by_cases F:c y x<0
   .obtain⟨k,B⟩:=ih C.2
    refine⟨k+1,⟨by have:=B.le; simp; omega,?_,?_⟩⟩
    .intro z A
     rw [List.take_succ_cons] at A; rcases List.mem_cons.1 A with rfl|A
     .exact F
     .exact B.lo z A
    .intro z A
     rw [List.drop_succ_cons] at A; exact B.hi z A
   .refine⟨0,⟨Nat.zero_le _,by simp,?_⟩⟩
    intro z A; rw [List.drop_zero] at A; rcases List.mem_cons.1 A with rfl|A
    .omega
    .have:=om D C.1 (x:=x) (by omega) z A
     omega
 obtain⟨k,B⟩:=key L E
 rw [<-rP B]
 exact B
theorem ins_at{α:Type} {c:α->α->Int} {x:α} {L:List α} (A:Cmp c) (B:bd c L) (C:Led.js c x L (cnt c x L)) (h:kG c x L=true):ins c x L=L.set (cnt c x L) x:=by
 obtain⟨D,E⟩:=gD.1 h
 exact C.ins_set A B D E
theorem tR{α:Type} {c:α->α->Int} {x:α} {L:List α} (B:Cmp c) (C:bd c L) (A:Led.js c x L (cnt c x L)) (h:kG c x L=false):ins c x L=L.take (cnt c x L)++x::L.drop (cnt c x L) :=
 A.ins_new (A.new_of B C (fun D E=>by have:=gD.2 ⟨D,E⟩; rw [h] at this; cases this))
def fI {α:Type} (enc:α->List Value) (k:Nat) (e:TypeId) (base gl sl:Nat) (v:Value) (r:Option (List α)) (w:World) (x:Ending) (w':World):Prop:=match r with
 | some L'=>x=.returned (.int .i64 0)/\bu enc k e base gl sl v L' w w'
 | none=>x=.returned (.int .i64 6)/\eD w w'
theorem store_row{P:Program} {T:TypeId} {k:Nat} (hi:(P.info? T).map (·.size)=some k) {w:World} {g o:Nat} {M Y:List Value} {t:TypeId} (E:Blk w g M t) (D:Y.length=k) (A:o+k<=M.length) (F:∀ u∈Y,u.oneCell'=true) :
  (Instr.storeAt T (.pointer (some ⟨g,o,none⟩)) (.agg Y.toArray)).run P w=.ok () (w.setRow g (splice M o Y).toArray):=by
 have G:(Go.sizeOf T).run P w=.ok k w:=by
  cases C:P.info? T with
  | none=>simp [C] at hi
  | some i =>
   have:i.size=k:=by simpa [C] using hi
   simp [Go.sizeOf,typeInfo,C,this]
 have B:=run_storeCells_at P g o t Y 0 M.toArray w E (by simpa [D] using A) F
 simp only [Nat.add_zero] at B
 have H:(Value.agg Y.toArray).cells=Y.toArray:=rfl
 have I:Y.toArray.size=k:=by simpa using D
 simp only [Instr.storeAt,Instr.sureAddr,Sem.run_bind,Sem.run_pure,Result.andThen_ok,storeVar,G,H,I,ne_eq,not_true_eq_false,if_false,B]
 simp [splice]
theorem set_keep{α:Type} {l:List α} {k:Nat} {v:α} (h:l[k]?=some v):l.set k v=l:=by
 obtain⟨A,rfl⟩:=List.getElem?_eq_some_iff.1 h
 exact List.set_getElem_self A
theorem gR{w:World} {g k:Nat} {cs:List Value} {t:TypeId} {v:Value} (h:Blk w g cs t) (B:cs[k]?=some v):w.setCell ⟨g,k,none⟩ v=w:=by
 have C:(w.setCell ⟨g,k,none⟩ v).heap=w.heap:=by
  apply Array.ext_getElem?
  intro i; by_cases hi:i=g
  .subst hi
   have A:=h.set k v; rw [set_keep B] at A; unfold Blk at h A; rw [A,h]
  .exact heap_setCell_other w ⟨g,k,none⟩ i v hi
 have e:w.setCell ⟨g,k,none⟩ v={ w with heap:=(w.setCell ⟨g,k,none⟩ v).heap }:=rfl
 rw [e,C]
theorem pg{α:Type} {enc:α->List Value} {k:Nat} (B:∀ x,(enc x).length=k) {L:List α} {i:Nat} {x:α} {R:List Value} (hi:i<L.length):splice (af enc L++R) (i * k) (enc x)=af enc (L.set i x)++R:=by
 have e:L=L.take i++L[i]::L.drop (i+1):=by rw [<-List.drop_eq_getElem_cons hi,List.take_append_drop]
 have E:L.set i x=L.take i++x::L.drop (i+1):=by rw [List.set_eq_take_append_cons_drop,if_pos hi]
 have C:(af enc (L.take i)).length=i * k:=by rw [aQ B,List.length_take,Nat.min_eq_left (by omega)]
 have F:=B L[i]
 rw [E]
 conv=>lhs; rw [e]
 rw [aL,bT,aL,bT]
 generalize af enc (L.take i)=A at *
 generalize af enc (L.drop (i+1))=D at *
 generalize enc L[i]=Y at *
 unfold splice
 rw [show i * k+(enc x).length=(A++Y).length by rw [List.length_append,B,C,F],<-C]
 simp only [List.append_assoc]
 rw [List.take_append_of_le_length eG,List.take_of_length_le eG,<-List.append_assoc A Y,List.drop_append_of_le_length eG,List.drop_of_length_le eG,List.nil_append]
section
variable {α:Type} {enc:α->List Value} {k:Nat} {e:TypeId} {base gl sl c most:Nat} {A:Option Addr} {L:List α} {x:α} {cf:α->α->Int} {w:World}
theorem tm(C:Cmp cf) (M:bd cf L) (G:kG cf x L=false) (H:L.length+1<=most) (I:(Value.slice A L.length c).ownBlock≠some gl) (J:gl<w.heap.size) (O:w.cell? ⟨gl,sl,none⟩=some (.slice A L.length c)) (Q:w.frozen? ⟨gl,sl,none⟩=false) :
  Hid (∀ w6 B D E,eD w w6->B.ownsRow base e k (.slice D (L.length+1) E) (L.length+1) (af enc (L.take (cnt cf x L)++x::L.drop (cnt cf x L)))->w6.grownBy B (Value.slice A L.length c).ownBlock->((Value.slice D (L.length+1) E).ownBlock=(Value.slice A L.length c).ownBlock\/∃ g,w6.heap.size<=g/\(Value.slice D (L.length+1) E).ownBlock=some g) ->
   (B.cell? ⟨gl,sl,none⟩=some (.slice A L.length c)/\B.frozen? ⟨gl,sl,none⟩=false)/\Hid (fI enc k e base gl sl (.slice A L.length c) (put cf most x L) w (.returned (.int .i64 0)) (B.setCell ⟨gl,sl,none⟩ (.slice D (L.length+1) E)))):=hO fun w6 B D E K R N S=>⟨qC K N I J O Q,hO (by
 have F:=dY (x:=x) C M
 have T:=F.le
 have U:(L.take (cnt cf x L)++x::L.drop (cnt cf x L)).length=L.length+1:=by rw [List.length_append,List.length_cons,List.length_take,List.length_drop]; omega
 have V:put cf most x L=some (L.take (cnt cf x L)++x::L.drop (cnt cf x L)):=by unfold put; rw [tR C M F G,if_pos (by omega)]
 rw [V]
 exact⟨rfl,_,B,rfl,bR K N,by rw [U]; exact R,S.imp id (fun ⟨g,hg,e⟩=>⟨g,Nat.le_trans K.size hg,e⟩)⟩)⟩
theorem pC(B:Cmp cf) (F:bd cf L) (D:kG cf x L=false) (E:¬ L.length+1<=most):Hid (∀ w',eD w w'->fI enc k e base gl sl (.slice A L.length c) (put cf most x L) w (.returned (.int .i64 6)) w'):=hO fun w' h=>by
 have C:=dY (x:=x) B F
 have G:=C.le
 have H:put cf most x L=none:=by unfold put; rw [tR B F C D,List.length_append,List.length_cons,List.length_take,List.length_drop,if_neg (by omega)]
 rw [H]
 exact⟨rfl,h⟩
theorem tj{T Z:TypeId} {W:World} {g:Nat} {M cs:List Value} (hi:(prog.info? T).map (·.size)=some k) (I:∀ x,(enc x).length=k) (C:Cmp cf) (b:bd cf L) (D:kG cf x L=true) (j:L.length<=most) (E:eD w W) (J:base<=g) (l:Blk W g M e) (K:L.length<=c) (N:c<=maxLen) (d:M.length=c * k) (O:M.take (L.length * k)=af enc L) (Q:Blk w gl cs Z) (R:cs[sl]?=some (.slice (some ⟨g,0,none⟩) L.length c)) (S:gl≠g) (U:∀ u∈enc x,u.oneCell'=true) :
  cnt cf x L<L.length/\Hid (∀ B,eD W B->∃ f,(Instr.storeAt T (.pointer (some ⟨g,cnt cf x L * k,none⟩)) (.agg (enc x).toArray)).run prog B=.ok () f/\Hid (fI enc k e base gl sl (.slice (some ⟨g,0,none⟩) L.length c) (put cf most x L) w (.returned (.int .i64 0)) f)):=by
 obtain⟨F,_⟩:=gD.1 D
 refine⟨F,hO fun B h=>?_⟩
 have V:=dY (x:=x) C b
 have m:put cf most x L=some (L.set (cnt cf x L) x):=by unfold put; rw [ins_at C b V D,List.length_set,if_pos j]
 have G:=l.below h
 have H:eD w B:=E.trans (h.mono E.size)
 have A:cnt cf x L * k+k<=M.length:=by
  rw [d,<-Nat.succ_mul]; exact Nat.mul_le_mul_right _ (by omega)
 refine⟨_,store_row hi G (I x) A U,hO ?_⟩
 have X:Blk (B.setRow g (splice M (cnt cf x L * k) (enc x)).toArray) gl cs Z:=by
  unfold Blk; rw [setRow_other _ g gl _ S]; exact Q.below H
 have Y:splice M (cnt cf x L * k) (enc x)=af enc (L.set (cnt cf x L) x)++M.drop (L.length * k):=by
  have e:M=af enc L++M.drop (L.length * k):=by rw [<-O,List.take_append_drop]
  conv=>lhs; rw [e]
  exact pg I F
 have i:(af enc (L.set (cnt cf x L) x)).length=L.length * k:=by rw [aQ I,List.length_set]
 rw [m]
 exact⟨rfl,.slice (some ⟨g,0,none⟩) L.length c,B.setRow g (splice M (cnt cf x L * k) (enc x)).toArray,(gR X R).symm,bR H (cO (eZ _ _)),by
  rw [List.length_set]; refine dz J G.setRow K N (by rw [length_splice _ _ _ (by rw [I]; exact A),d]) ?_
  rw [Y,List.take_append_of_le_length (by rw [i]; exact eG),List.take_of_length_le (by rw [i]; exact eG)],.inl rfl⟩
end
theorem putEnt_any(gl sl:Nat) (g:Nat) (eg:∀ args w,(callFunc g args).run prog w=.ok (.enter g args) w) (cf:Led.Entry × Value->Led.Entry × Value->Int) (H:Cmp cf) (x:Led.Entry × Value) (L:List (Led.Entry × Value)) (hr:bd cf L) (base:Nat) (v:Value) (most:Nat) (w:World) (hn:L.length<=most) (Ak:most<=900)
  (cs:List Value) (tl:TypeId) (R:Blk w gl cs tl) (Aa:cs[sl]?=some v) (U:w.ownsRow base 36 5 v L.length (af ag L)) (f:v.ownBlock≠some gl) (i:base<=w.heap.size) (h1:∀ y∈L,∀ u∈ag y,u.oneCell'=true) (j:∀ u∈ag x,u.oneCell'=true)
  (hp:∀ (W:World) (y:Led.Entry × Value),y∈L->eD w W->Calls prog g (#[.agg (ag y).toArray,.agg (ag x).toArray]) W fun e w'=>e=.returned (.int .i64 (cf y x))/\eD W w') :
  Calls prog 80 #[.pointer (some ⟨gl,sl,none⟩),.agg (ag x).toArray,.int .i64 most,.func (.func g) #[] #[]] w (fI ag 5 36 base gl sl v (put cf most x L) w):=by
 have hc:=(R.cell sl).trans Aa
 have hf:=R.froz sl
 have l:=R.lt
 obtain⟨A,c,rfl,As,At⟩:=ak U
 have Ab:=dY (x:=x) H hr
 obtain⟨W,hW⟩:=eA (w.alloc (.cells (ag x).toArray 36))
 have b0:Blk W w.heap.size (ag x) 36:=by rw [<-hW]; exact Blk.new w _ _
 have C:eD w W:=eF hW
 have B:gl<W.heap.size:=Nat.lt_of_lt_of_le l C.size
 have S:=(C.cell (p:=⟨gl,sl,none⟩) l).trans hc
 have F:=ae U C eG
 have t:∀ p,(ab W p).cell? ⟨gl,sl,none⟩=some (.slice A L.length c):=fun p=>(ap B p).trans S
 have m:∀ p,(fM (.pointer (some ⟨w.heap.size,0,none⟩))).run prog (ab W p)=.ok (.agg (ag x).toArray) (ab W p):=fun p=>ff (b0.below (aa W p)) rfl
 have o:Hid (∀ p,Calls prog 132 #[.slice A L.length c,.agg (ag x).toArray,.func (.func g) #[] #[]] (ab W p) fun e w'=>e=.returned (.tuple #[.int .i64 (cnt cf x L:Nat),.bool (kG cf x L)])/\Below (ab W p).heap.size (ab W p) w'):=hO fun p =>
  lq (bsEnt_any g eg cf H x A L.length c L hr (ab W p) (Vs.of_own (ae F (aa W p) eG)) (by omega) (fun W' y hy hb=>hp W' y hy (C.trans ((((aa W p).trans (hb.mono (aa W p).size))).mono C.size))))
 have HW:=hO hW
 clear hW hp
 obtain⟨Y,hY⟩:=eA ((ag x).toArray)
 have T:Hid (w.alloc (.cells Y 36)=W):=hO (by rw [<-hY]; exact HW.out)
 have Al:=hO Ab.le
 have HY:=hO hY
 rw [hY] at m o ⊢
 clear hY HW Ab
 cases G:kG cf x L
 .have I:=hO (fun (h:L.length+1<=most)=>tm (enc:=ag) (k:=5) (e:=36) (base:=base) H hr G h f l hc hf)
  have E:=hO (fun (h:¬ L.length+1<=most)=>pC (enc:=ag) (k:=5) (e:=36) (base:=base) (gl:=gl) (sl:=sl) (c:=c) (A:=A) (w:=w) H hr G h); rw [G] at o; generalize cnt cf x L=K at *; clear hf hc; go_enter func80,ntmps80
  go_upto_region 1 with fail
  rw [T.out]; clear T; go_wp2_with fail
  refine az ?_; repeat (go_big_quiet_step (first|(go_at_call 132; exact aw (o.out _))|fail))
  refine wpQuiet_nil ?_; rintro _ ⟨px,rfl⟩; have J:=aa W px; clear t m o; generalize ab W px=D at *; have q:eD w D:=C.trans (J.mono C.size); have r:=(J.cell (p:=⟨gl,sl,none⟩) B).trans S; by_cases N:L.length+1<=most
  .have HN:=I.out N
   have Am:¬ (most:Int)<=(L.length:Int):=by omega
   have O:=ae F J eG; have Q:gl<D.heap.size:=Nat.lt_of_lt_of_le B J.size; have t:∀ p,(ab D p).cell? ⟨gl,sl,none⟩=some (.slice A L.length c):=fun p=>(ap Q p).trans r; have m:∀ p,(fM (.pointer (some ⟨w.heap.size,0,none⟩))).run prog (ab D p)=.ok (.agg #[.int .i64 x.1.n,.string (str x.1.path),.string (str x.1.parent),.int .i64 x.1.ttl,x.2]) (ab D p):=fun p=>ff ((b0.below J).below (aa D p)) rfl; clear I E; go_upto_region 2 with fail
   refine aK [0] [] [1,2,3,4,5] [(6,fun v w'=>∃ V,D.heap.size<=V/\v=.slice (some ⟨V,0,none⟩) 1 1/\Blk w' V (ag x) 36)] [7,8,9] (by kernel_rfl) (by kernel_rfl) (by kernel_rfl) (by
    intro z hz; simp only [List.mem_cons,List.not_mem_nil,or_false] at hz; subst hz; exact ax fun v w w' hb ⟨V,e0,e,h⟩=>⟨V,e0,e,h.below hb⟩) ?_
   simp only [ix,pick,List.getD_cons_zero,List.getD_cons_succ]; repeat (go_big_quiet_step (fail))
   refine wpQuiet_nil ?_; repeat (go_big_quiet_step (fail))
   refine wpQuiet_nil ?_; refine⟨_,rfl,rfl,?_,?_⟩
   .intro w2 An
    have Ao:=An.below.size; go_simp
    exact⟨GR.of eH,w2.heap.size,Ao,rfl,Blk.new w2 (ag x) _⟩
   .rintro v w6 Ac ⟨_,V,Ap,rfl,Ad⟩
    have Ae:=Ac.below; have X:=ae O Ae eG; have Z:eD w w6:=q.trans (Ae.mono q.size); have s:=insEnt_any L x L.length K base (.slice A L.length c) V w6 rfl X Ad (fun e=>by have:=(O.lt V e).2; omega) Al.out (by omega) (Nat.le_trans i Z.size) h1 j
    have Af:=hO (fun w7 A' c'=>HN.out w6 w7 A' c' Z); clear t m f h1 j O F X Ad Ac Ap HN; go_wp2_with fail
    refine s.mono ?_; rintro e w7 ⟨A',c',rfl,h2,h3,h4⟩; obtain⟨⟨Au,Av⟩,Ag⟩:=Af.out w7 A' c' h2 h3 h4; clear h2 h3 h4 Af; go_wp2; rw [am]; go_wp2; go_ret; exact Ag.out
  .have Ah:=E.out N
   have Am:(most:Int)<=(L.length:Int):=by omega
   clear I E; go_wp2_with fail
   go_ret; exact Ah.out _ q
 .rw [G] at o
  rcases aW F with⟨_,h0,_⟩|⟨g,c',M,he,Aq,Aw,hB,Ai,Aj,hM,Ar⟩
  .have:=(gD.1 G).1
   omega
  injection he with he1 _ he3
  subst he1 he3; obtain⟨Ax,b⟩:=tj (most:=most) me aZ H hr G hn C Aq hB Ai Aj hM Ar R Aa (fun e=>f (by simp [Value.ownBlock,e])) j; generalize cnt cf x L=K at *; clear hf hc; go_enter func80,ntmps80
  go_upto_region 1 with fail
  rw [T.out]; clear T; go_wp2_with fail
  refine az ?_; repeat (go_big_quiet_step (first|(go_at_call 132; exact aw (o.out _))|fail))
  refine wpQuiet_nil ?_; rintro _ ⟨px,rfl⟩; have J:=aa W px; clear t m o; generalize ab W px=D at *; have r:=(J.cell (p:=⟨gl,sl,none⟩) B).trans S; have Q:gl<D.heap.size:=Nat.lt_of_lt_of_le B J.size; have Ay:(K:Int)<(L.length:Int):=by omega
  have t:∀ p,(ab D p).cell? ⟨gl,sl,none⟩=some (.slice (some ⟨g,0,none⟩) L.length c):=fun p=>(ap Q p).trans r; have m:∀ p,(fM (.pointer (some ⟨w.heap.size,0,none⟩))).run prog (ab D p)=.ok (.agg (ag x).toArray) (ab D p):=fun p=>ff ((b0.below J).below (aa D p)) rfl; go_wp2_with fail
  refine bp 6 ?_; simp only [List.take_succ_cons,List.take_zero,List.drop_succ_cons,List.drop_zero]; repeat (go_big_quiet_step (fail))
  refine wpQuiet_nil ?_; rintro _ ⟨py,rfl⟩; have g2:eD W (ab D py):=J.trans ((aa D py).mono J.size); clear t m; generalize ab D py=w2 at *; obtain⟨w3,d,HR⟩:=b.out w2 g2; have Az:(stEnt (.pointer (some ⟨g,K * 5,none⟩)) (.agg (ag x).toArray)).run prog w2=.ok () w3:=d; have A0:=(g2.cell (p:=⟨gl,sl,none⟩) B).trans S; clear d b; go_wp2_with fail
  go_ret; exact HR.out
theorem putNod_any(gl sl:Nat) (g:Nat) (eg:∀ args w,(callFunc g args).run prog w=.ok (.enter g args) w) (cf:Led.Node->Led.Node->Int) (H:Cmp cf) (x:Led.Node) (L:List (Led.Node)) (t:bd cf L) (base:Nat) (v:Value) (most:Nat) (w:World) (hn:L.length<=most) (Ak:most<=900)
  (cs:List Value) (tl:TypeId) (R:Blk w gl cs tl) (Aa:cs[sl]?=some v) (U:w.ownsRow base 40 5 v L.length (af ac L)) (f:v.ownBlock≠some gl) (i:base<=w.heap.size) (h1:∀ y∈L,∀ u∈ac y,u.oneCell'=true) (j:∀ u∈ac x,u.oneCell'=true)
  (hp:∀ (W:World) (y:Led.Node),y∈L->eD w W->Calls prog g (#[.agg (ac y).toArray,.agg (ac x).toArray]) W fun e w'=>e=.returned (.int .i64 (cf y x))/\eD W w') :
  Calls prog 91 #[.pointer (some ⟨gl,sl,none⟩),.agg (ac x).toArray,.int .i64 most,.func (.func g) #[] #[]] w (fI ac 5 40 base gl sl v (put cf most x L) w):=by
 have hc:=(R.cell sl).trans Aa
 have hf:=R.froz sl
 have l:=R.lt
 obtain⟨A,c,rfl,As,At⟩:=ak U
 have Ab:=dY (x:=x) H t
 obtain⟨W,hW⟩:=eA (w.alloc (.cells (ac x).toArray 40))
 have b0:Blk W w.heap.size (ac x) 40:=by rw [<-hW]; exact Blk.new w _ _
 have C:eD w W:=eF hW
 have B:gl<W.heap.size:=Nat.lt_of_lt_of_le l C.size
 have S:=(C.cell (p:=⟨gl,sl,none⟩) l).trans hc
 have F:=ae U C eG
 have s:∀ p,(ab W p).cell? ⟨gl,sl,none⟩=some (.slice A L.length c):=fun p=>(ap B p).trans S
 have m:∀ p,(fL (.pointer (some ⟨w.heap.size,0,none⟩))).run prog (ab W p)=.ok (.agg (ac x).toArray) (ab W p):=fun p=>ef (b0.below (aa W p)) rfl
 have n:Hid (∀ p,Calls prog 137 #[.slice A L.length c,.agg (ac x).toArray,.func (.func g) #[] #[]] (ab W p) fun e w'=>e=.returned (.tuple #[.int .i64 (cnt cf x L:Nat),.bool (kG cf x L)])/\Below (ab W p).heap.size (ab W p) w'):=hO fun p =>
  lq (bsNod_any g eg cf H x A L.length c L t (ab W p) (Vs.of_own (ae F (aa W p) eG)) (by omega) (fun W' y hy hb=>hp W' y hy (C.trans ((((aa W p).trans (hb.mono (aa W p).size))).mono C.size))))
 have HW:=hO hW
 clear hW hp
 obtain⟨Y,hY⟩:=eA ((ac x).toArray)
 have T:Hid (w.alloc (.cells Y 40)=W):=hO (by rw [<-hY]; exact HW.out)
 have Al:=hO Ab.le
 have HY:=hO hY
 rw [hY] at m n ⊢
 clear hY HW Ab
 cases G:kG cf x L
 .have I:=hO (fun (h:L.length+1<=most)=>tm (enc:=ac) (k:=5) (e:=40) (base:=base) H t G h f l hc hf)
  have E:=hO (fun (h:¬ L.length+1<=most)=>pC (enc:=ac) (k:=5) (e:=40) (base:=base) (gl:=gl) (sl:=sl) (c:=c) (A:=A) (w:=w) H t G h); rw [G] at n; generalize cnt cf x L=K at *; clear hf hc; go_enter func91,ntmps91
  go_upto_region 1 with fail
  rw [T.out]; clear T; go_wp2_with fail
  refine az ?_; repeat (go_big_quiet_step (first|(go_at_call 137; exact aw (n.out _))|fail))
  refine wpQuiet_nil ?_; rintro _ ⟨px,rfl⟩; have J:=aa W px; clear s m n; generalize ab W px=D at *; have o:eD w D:=C.trans (J.mono C.size); have q:=(J.cell (p:=⟨gl,sl,none⟩) B).trans S; by_cases N:L.length+1<=most
  .have HN:=I.out N
   have Am:¬ (most:Int)<=(L.length:Int):=by omega
   have O:=ae F J eG; have Q:gl<D.heap.size:=Nat.lt_of_lt_of_le B J.size; have s:∀ p,(ab D p).cell? ⟨gl,sl,none⟩=some (.slice A L.length c):=fun p=>(ap Q p).trans q; have m:∀ p,(fL (.pointer (some ⟨w.heap.size,0,none⟩))).run prog (ab D p)=.ok (.agg #[.string (str x.name),.string (str x.key),.int .i64 x.expires,.int .i64 x.seq,.string (str x.doc)]) (ab D p):=fun p=>ef ((b0.below J).below (aa D p)) rfl; clear I E; go_upto_region 2 with fail
   refine aK [0] [] [1,2,3,4,5] [(6,fun v w'=>∃ V,D.heap.size<=V/\v=.slice (some ⟨V,0,none⟩) 1 1/\Blk w' V (ac x) 40)] [7,8,9] (by kernel_rfl) (by kernel_rfl) (by kernel_rfl) (by
    intro z hz; simp only [List.mem_cons,List.not_mem_nil,or_false] at hz; subst hz; exact ax fun v w w' hb ⟨V,e0,e,h⟩=>⟨V,e0,e,h.below hb⟩) ?_
   simp only [ix,pick,List.getD_cons_zero,List.getD_cons_succ]; repeat (go_big_quiet_step (fail))
   refine wpQuiet_nil ?_; repeat (go_big_quiet_step (fail))
   refine wpQuiet_nil ?_; refine⟨_,rfl,rfl,?_,?_⟩
   .intro w2 An
    have Ao:=An.below.size; go_simp
    exact⟨GR.of eH,w2.heap.size,Ao,rfl,Blk.new w2 (ac x) _⟩
   .rintro v w6 Ac ⟨_,V,Ap,rfl,Ad⟩
    have Ae:=Ac.below; have X:=ae O Ae eG; have Z:eD w w6:=o.trans (Ae.mono o.size); have r:=insNod_any L x L.length K base (.slice A L.length c) V w6 rfl X Ad (fun e=>by have:=(O.lt V e).2; omega) Al.out (by omega) (Nat.le_trans i Z.size) h1 j
    have Af:=hO (fun w7 A' c'=>HN.out w6 w7 A' c' Z); clear s m f h1 j O F X Ad Ac Ap HN; go_wp2_with fail
    refine r.mono ?_; rintro e w7 ⟨A',c',rfl,h2,h3,h4⟩; obtain⟨⟨Au,Av⟩,Ag⟩:=Af.out w7 A' c' h2 h3 h4; clear h2 h3 h4 Af; go_wp2; rw [am]; go_wp2; go_ret; exact Ag.out
  .have Ah:=E.out N
   have Am:(most:Int)<=(L.length:Int):=by omega
   clear I E; go_wp2_with fail
   go_ret; exact Ah.out _ o
 .rw [G] at n
  rcases aW F with⟨_,h0,_⟩|⟨g,c',M,he,Aq,Aw,hB,Ai,Aj,hM,Ar⟩
  .have:=(gD.1 G).1
   omega
  injection he with he1 _ he3
  subst he1 he3; obtain⟨Ax,b⟩:=tj (most:=most) oC aR H t G hn C Aq hB Ai Aj hM Ar R Aa (fun e=>f (by simp [Value.ownBlock,e])) j; generalize cnt cf x L=K at *; clear hf hc; go_enter func91,ntmps91
  go_upto_region 1 with fail
  rw [T.out]; clear T; go_wp2_with fail
  refine az ?_; repeat (go_big_quiet_step (first|(go_at_call 137; exact aw (n.out _))|fail))
  refine wpQuiet_nil ?_; rintro _ ⟨px,rfl⟩; have J:=aa W px; clear s m n; generalize ab W px=D at *; have q:=(J.cell (p:=⟨gl,sl,none⟩) B).trans S; have Q:gl<D.heap.size:=Nat.lt_of_lt_of_le B J.size; have Ay:(K:Int)<(L.length:Int):=by omega
  have s:∀ p,(ab D p).cell? ⟨gl,sl,none⟩=some (.slice (some ⟨g,0,none⟩) L.length c):=fun p=>(ap Q p).trans q; have m:∀ p,(fL (.pointer (some ⟨w.heap.size,0,none⟩))).run prog (ab D p)=.ok (.agg (ac x).toArray) (ab D p):=fun p=>ef ((b0.below J).below (aa D p)) rfl; go_wp2_with fail
  refine bp 6 ?_; simp only [List.take_succ_cons,List.take_zero,List.drop_succ_cons,List.drop_zero]; repeat (go_big_quiet_step (fail))
  refine wpQuiet_nil ?_; rintro _ ⟨py,rfl⟩; have g2:eD W (ab D py):=J.trans ((aa D py).mono J.size); clear s m; generalize ab D py=w2 at *; obtain⟨w3,d,HR⟩:=b.out w2 g2; have Az:(stNod (.pointer (some ⟨g,K * 5,none⟩)) (.agg (ac x).toArray)).run prog w2=.ok () w3:=d; have A0:=(g2.cell (p:=⟨gl,sl,none⟩) B).trans S; clear d b; go_wp2_with fail
  go_ret; exact HR.out
theorem putBun_any(gl sl:Nat) (g:Nat) (eg:∀ args w,(callFunc g args).run prog w=.ok (.enter g args) w) (cf:Led.Bundle × Value->Led.Bundle × Value->Int) (H:Cmp cf) (x:Led.Bundle × Value) (L:List (Led.Bundle × Value)) (t:bd cf L) (base:Nat) (v:Value) (most:Nat) (w:World) (hn:L.length<=most) (Ak:most<=900)
  (cs:List Value) (tl:TypeId) (R:Blk w gl cs tl) (Aa:cs[sl]?=some v) (U:w.ownsRow base 45 3 v L.length (af ai L)) (f:v.ownBlock≠some gl) (i:base<=w.heap.size) (h1:∀ y∈L,∀ u∈ai y,u.oneCell'=true) (j:∀ u∈ai x,u.oneCell'=true)
  (hp:∀ (W:World) (y:Led.Bundle × Value),y∈L->eD w W->Calls prog g (#[.agg (ai y).toArray,.agg (ai x).toArray]) W fun e w'=>e=.returned (.int .i64 (cf y x))/\eD W w') :
  Calls prog 110 #[.pointer (some ⟨gl,sl,none⟩),.agg (ai x).toArray,.int .i64 most,.func (.func g) #[] #[]] w (fI ai 3 45 base gl sl v (put cf most x L) w):=by
 have hc:=(R.cell sl).trans Aa
 have hf:=R.froz sl
 have l:=R.lt
 obtain⟨A,c,rfl,As,At⟩:=ak U
 have Ab:=dY (x:=x) H t
 obtain⟨W,hW⟩:=eA (w.alloc (.cells (ai x).toArray 45))
 have b0:Blk W w.heap.size (ai x) 45:=by rw [<-hW]; exact Blk.new w _ _
 have C:eD w W:=eF hW
 have B:gl<W.heap.size:=Nat.lt_of_lt_of_le l C.size
 have S:=(C.cell (p:=⟨gl,sl,none⟩) l).trans hc
 have F:=ae U C eG
 have s:∀ p,(ab W p).cell? ⟨gl,sl,none⟩=some (.slice A L.length c):=fun p=>(ap B p).trans S
 have m:∀ p,(fz (.pointer (some ⟨w.heap.size,0,none⟩))).run prog (ab W p)=.ok (.agg (ai x).toArray) (ab W p):=fun p=>di (b0.below (aa W p)) rfl
 have n:Hid (∀ p,Calls prog 151 #[.slice A L.length c,.agg (ai x).toArray,.func (.func g) #[] #[]] (ab W p) fun e w'=>e=.returned (.tuple #[.int .i64 (cnt cf x L:Nat),.bool (kG cf x L)])/\Below (ab W p).heap.size (ab W p) w'):=hO fun p =>
  lq (bsBun_any g eg cf H x A L.length c L t (ab W p) (Vs.of_own (ae F (aa W p) eG)) (by omega) (fun W' y hy hb=>hp W' y hy (C.trans ((((aa W p).trans (hb.mono (aa W p).size))).mono C.size))))
 have HW:=hO hW
 clear hW hp
 obtain⟨Y,hY⟩:=eA ((ai x).toArray)
 have T:Hid (w.alloc (.cells Y 45)=W):=hO (by rw [<-hY]; exact HW.out)
 have Al:=hO Ab.le
 have HY:=hO hY
 rw [hY] at m n ⊢
 clear hY HW Ab
 cases G:kG cf x L
 .have I:=hO (fun (h:L.length+1<=most)=>tm (enc:=ai) (k:=3) (e:=45) (base:=base) H t G h f l hc hf)
  have E:=hO (fun (h:¬ L.length+1<=most)=>pC (enc:=ai) (k:=3) (e:=45) (base:=base) (gl:=gl) (sl:=sl) (c:=c) (A:=A) (w:=w) H t G h); rw [G] at n; generalize cnt cf x L=K at *; clear hf hc; go_enter func110,ntmps110
  go_upto_region 1 with fail
  rw [T.out]; clear T; go_wp2_with fail
  refine az ?_; repeat (go_big_quiet_step (first|(go_at_call 151; exact aw (n.out _))|fail))
  refine wpQuiet_nil ?_; rintro _ ⟨px,rfl⟩; have J:=aa W px; clear s m n; generalize ab W px=D at *; have o:eD w D:=C.trans (J.mono C.size); have q:=(J.cell (p:=⟨gl,sl,none⟩) B).trans S; by_cases N:L.length+1<=most
  .have HN:=I.out N
   have Am:¬ (most:Int)<=(L.length:Int):=by omega
   have O:=ae F J eG; have Q:gl<D.heap.size:=Nat.lt_of_lt_of_le B J.size; have s:∀ p,(ab D p).cell? ⟨gl,sl,none⟩=some (.slice A L.length c):=fun p=>(ap Q p).trans q; have m:∀ p,(fz (.pointer (some ⟨w.heap.size,0,none⟩))).run prog (ab D p)=.ok (.agg #[.string (str x.1.domain),.int .i64 x.1.number,x.2]) (ab D p):=fun p=>di ((b0.below J).below (aa D p)) rfl; clear I E; go_upto_region 2 with fail
   refine aK [0] [] [1,2,3,4,5] [(6,fun v w'=>∃ V,D.heap.size<=V/\v=.slice (some ⟨V,0,none⟩) 1 1/\Blk w' V (ai x) 45)] [7,8,9] (by kernel_rfl) (by kernel_rfl) (by kernel_rfl) (by
    intro z hz; simp only [List.mem_cons,List.not_mem_nil,or_false] at hz; subst hz; exact ax fun v w w' hb ⟨V,e0,e,h⟩=>⟨V,e0,e,h.below hb⟩) ?_
   simp only [ix,pick,List.getD_cons_zero,List.getD_cons_succ]; repeat (go_big_quiet_step (fail))
   refine wpQuiet_nil ?_; repeat (go_big_quiet_step (fail))
   refine wpQuiet_nil ?_; refine⟨_,rfl,rfl,?_,?_⟩
   .intro w2 An
    have Ao:=An.below.size; go_simp
    exact⟨GR.of eH,w2.heap.size,Ao,rfl,Blk.new w2 (ai x) _⟩
   .rintro v w6 Ac ⟨_,V,Ap,rfl,Ad⟩
    have Ae:=Ac.below; have X:=ae O Ae eG; have Z:eD w w6:=o.trans (Ae.mono o.size); have r:=insBun_any L x L.length K base (.slice A L.length c) V w6 rfl X Ad (fun e=>by have:=(O.lt V e).2; omega) Al.out (by omega) (Nat.le_trans i Z.size) h1 j
    have Af:=hO (fun w7 A' c'=>HN.out w6 w7 A' c' Z); clear s m f h1 j O F X Ad Ac Ap HN; go_wp2_with fail
    refine r.mono ?_; rintro e w7 ⟨A',c',rfl,h2,h3,h4⟩; obtain⟨⟨Au,Av⟩,Ag⟩:=Af.out w7 A' c' h2 h3 h4; clear h2 h3 h4 Af; go_wp2; rw [am]; go_wp2; go_ret; exact Ag.out
  .have Ah:=E.out N
   have Am:(most:Int)<=(L.length:Int):=by omega
   clear I E; go_wp2_with fail
   go_ret; exact Ah.out _ o
 .rw [G] at n
  rcases aW F with⟨_,h0,_⟩|⟨g,c',M,he,Aq,Aw,hB,Ai,Aj,hM,Ar⟩
  .have:=(gD.1 G).1
   omega
  injection he with he1 _ he3
  subst he1 he3; obtain⟨Ax,b⟩:=tj (most:=most) s8 aU H t G hn C Aq hB Ai Aj hM Ar R Aa (fun e=>f (by simp [Value.ownBlock,e])) j; generalize cnt cf x L=K at *; clear hf hc; go_enter func110,ntmps110
  go_upto_region 1 with fail
  rw [T.out]; clear T; go_wp2_with fail
  refine az ?_; repeat (go_big_quiet_step (first|(go_at_call 151; exact aw (n.out _))|fail))
  refine wpQuiet_nil ?_; rintro _ ⟨px,rfl⟩; have J:=aa W px; clear s m n; generalize ab W px=D at *; have q:=(J.cell (p:=⟨gl,sl,none⟩) B).trans S; have Q:gl<D.heap.size:=Nat.lt_of_lt_of_le B J.size; have Ay:(K:Int)<(L.length:Int):=by omega
  have s:∀ p,(ab D p).cell? ⟨gl,sl,none⟩=some (.slice (some ⟨g,0,none⟩) L.length c):=fun p=>(ap Q p).trans q; have m:∀ p,(fz (.pointer (some ⟨w.heap.size,0,none⟩))).run prog (ab D p)=.ok (.agg (ai x).toArray) (ab D p):=fun p=>di ((b0.below J).below (aa D p)) rfl; go_wp2_with fail
  refine bp 6 ?_; simp only [List.take_succ_cons,List.take_zero,List.drop_succ_cons,List.drop_zero]; repeat (go_big_quiet_step (fail))
  refine wpQuiet_nil ?_; rintro _ ⟨py,rfl⟩; have g2:eD W (ab D py):=J.trans ((aa D py).mono J.size); clear s m; generalize ab D py=w2 at *; obtain⟨w3,d,HR⟩:=b.out w2 g2; have Az:(stBun (.pointer (some ⟨g,K * 3,none⟩)) (.agg (ai x).toArray)).run prog w2=.ok () w3:=d; have A0:=(g2.cell (p:=⟨gl,sl,none⟩) B).trans S; clear d b; go_wp2_with fail
  go_ret; exact HR.out
end
section
open Go.RowKit Mem Led
theorem fP(s:Txt):∀ u∈aj s,u.oneCell'=true:=by
 intro u A
 simp [aj,tx] at A
 subst A
 rfl
theorem putStr_any(gl sl:Nat) (x:Txt) (L:List Txt) (hr:bd ord L) (base:Nat) (v:Value) (most:Nat) (w:World) (hn:L.length<=most) (Ag:most<=900)
  (cs:List Value) (tl:TypeId) (V:Blk w gl cs tl) (o:cs[sl]?=some v) (I:w.ownsRow base 9 1 v L.length (af aj L)) (i:v.ownBlock≠some gl) (j:base<=w.heap.size) :
  Calls prog 95 #[.pointer (some ⟨gl,sl,none⟩),.string (str x),.int .i64 most,.func (.func 93) #[] #[]] w (fI aj 1 9 base gl sl v (put ord most x L) w):=by
 have hc:=(V.cell sl).trans o
 have hf:=V.froz sl
 have N:=V.lt
 obtain⟨A,c,rfl,Ah,Au⟩:=ak I
 have X:=dY (x:=x) ord_cmp' hr
 have O:=lq (bsStr_any x A L.length c L hr w (pb I) (by omega))
 have k:=hO (fun h=>ins_at (x:=x) ord_cmp' hr X h)
 have Q:=hO (fun h=>tR (x:=x) ord_cmp' hr X h)
 have l:=hO X.le
 have H:=hO (fun h=>gD.1 (show kG ord x L=true from h))
 clear X
 obtain⟨K,hK⟩:=eA (cnt ord x L)
 rw [hK] at O k Q l H
 go_enter func95,ntmps95
 cases S:kG ord x L
 .rw [S] at O
  have F:ins ord x L=L.take K++x::L.drop K:=Q.out S; have q:(ins ord x L).length=L.length+1:=by rw [F,List.length_append,List.length_cons,List.length_take,List.length_drop]; have:=l.out; omega
  have G:=hO F; have Ai:=l.out; go_wp2_with fail
  refine O.mono ?_; rintro e D ⟨rfl,E⟩; have Aj:=(E.cell (p:=⟨gl,sl,none⟩) N).trans hc; by_cases Ak:L.length+1<=most
  .have B:Hid (∀ x' w',x'=.returned (.int .i64 0)->bu aj 1 9 base gl sl (.slice A L.length c) (L.take K++x::L.drop K) w w'->fI aj 1 9 base gl sl (.slice A L.length c) (put ord most x L) w x' w'):=hO (fun x' w' h h'=>by
    have:put ord most x L=some (L.take K++x::L.drop K):=by unfold put; rw [if_pos (by omega),G.out]
    rw [this]; exact⟨h,h'⟩)
   have Al:¬ (most:Int)<=(L.length:Int):=by omega
   have T:=ae I E eG; have b:=World.ownsRow.alloc T (.cells #[.string (str x)] 9); have r:Blk (D.alloc (.cells #[.string (str x)] 9)) D.heap.size (aj x) 9:=Blk.new D (aj x) _; have d:(Value.slice A L.length c).ownBlock≠some D.heap.size:=fun e=>by have:=(T.lt _ e).2; omega
   have s:eD D (D.alloc (.cells #[.string (str x)] 9)):=eH; have C:eD w (D.alloc (.cells #[.string (str x)] 9)):=E.trans (s.mono E.size); have m:=insStr_any L x L.length K base (.slice A L.length c) D.heap.size _ rfl b r d Ai (by omega) (Nat.le_trans j C.size) (fun y _=>fP y) (fP x); have Am:=(C.cell (p:=⟨gl,sl,none⟩) N).trans hc; have An:=(C.frozen (p:=⟨gl,sl,none⟩) N).trans hf; have Ao:=hO i; have U:Hid (∀ Y n f,Y.ownsRow base 9 1 (.slice n (L.length+1) f) (L.length+1) (af aj (L.take K++x::L.drop K))->(D.alloc (.cells #[.string (str x)] 9)).grownBy Y (Value.slice A L.length c).ownBlock->((Value.slice n (L.length+1) f).ownBlock=(Value.slice A L.length c).ownBlock\/∃ g,(D.alloc (.cells #[.string (str x)] 9)).heap.size<=g/\(Value.slice n (L.length+1) f).ownBlock=some g) ->
     fI aj 1 9 base gl sl (.slice A L.length c) (put ord most x L) w (.returned (.int .i64 0)) (Y.setCell ⟨gl,sl,none⟩ (.slice n (L.length+1) f))):=hO (fun Y n f h2 t h4=>B.out _ _ rfl ⟨_,Y,rfl,bR C t,by
      have:(L.take K++x::L.drop K).length=L.length+1:=by rw [List.length_append,List.length_cons,List.length_take,List.length_drop]; omega
      rw [this]; exact h2,h4.imp id (fun ⟨g,hg,e⟩=>⟨g,Nat.le_trans C.size hg,e⟩)⟩)
   have u:gl<(D.alloc (.cells #[.string (str x)] 9)).heap.size:=Nat.lt_of_lt_of_le N C.size; clear i T b r d G q F k Q H s C B; go_wp2_with fail
   refine m.mono ?_; rintro e Y ⟨n,f,rfl,h2,t,h4⟩; have z:=t.block gl u (fun e=>Ao.out e.symm); have Av:Y.cell? ⟨gl,sl,none⟩=some (.slice A L.length c):=(World.cell?_of_block (a:=⟨gl,sl,none⟩) z).trans Am; have Aw:Y.frozen? ⟨gl,sl,none⟩=false:=(World.frozen?_of_block (a:=⟨gl,sl,none⟩) z).trans An; have J:=hO (U.out Y n f h2 t h4); clear h2 t h4 U; go_wp2; go_ret; exact J.out
  .have B:Hid (∀ w',eD w w'->fI aj 1 9 base gl sl (.slice A L.length c) (put ord most x L) w (.returned (.int .i64 6)) w'):=hO (fun w' h=>by
    have:put ord most x L=none:=by unfold put; rw [if_neg (by omega)]
    rw [this]; exact⟨rfl,h⟩)
   have Al:(most:Int)<=(L.length:Int):=by omega
   go_wp2_with fail
   go_ret; exact B.out _ E
 .rw [S] at O
  have F:ins ord x L=L.set K x:=k.out S; obtain⟨Ap,_⟩:=H.out S; have G:=hO F; have B:Hid (∀ x' w',x'=.returned (.int .i64 0)->bu aj 1 9 base gl sl (.slice A L.length c) (L.set K x) w w'->fI aj 1 9 base gl sl (.slice A L.length c) (put ord most x L) w x' w'):=hO (fun x' w' h h'=>by
   have:put ord most x L=some (L.set K x):=by unfold put; rw [if_pos (by rw [G.out,List.length_set]; exact hn),G.out]
   rw [this]; exact⟨h,h'⟩)
  rcases aW I with⟨_,h0,_⟩|⟨g,f,M,he,Aq,Ax,hB,At,Aa,hM,Ar⟩
  .omega
  injection he with he1 _ he3
  subst he1 he3; go_wp2_with fail
  refine O.mono ?_; rintro e D ⟨rfl,E⟩; have Aj:=(E.cell (p:=⟨gl,sl,none⟩) N).trans hc; have Ay:(K:Int)<(L.length:Int):=by omega
  have Z:=hB.below E; have Ab:K<M.length:=by omega
  have Az:D.cell? ⟨g,K,none⟩=some M[K]:=by rw [Z.cell K,List.getElem?_eq_getElem Ab]
  have A0:D.frozen? ⟨g,K,none⟩=false:=Z.froz K; have As:gl≠g:=fun e=>i (by simp [Value.ownBlock,e]); have Ac:Blk (D.setCell ⟨g,K,none⟩ (.string (str x))) gl cs tl:=(V.below E).set_ne (p:=⟨g,K,none⟩) As _; have Ad:Blk (D.setCell ⟨g,K,none⟩ (.string (str x))) g (M.set K (.string (str x))) 9:=Z.set K _; have Ae:D.grownBy (D.setCell ⟨g,K,none⟩ (.string (str x))) (some g):=by
   rw [setCell_eq_setRow D g K M.toArray _ (0,0) _ Z]; exact cO (eZ _ _)
  have Af:M.set K (.string (str x))=af aj (L.set K x)++M.drop L.length:=by
   have e:M=af aj L++M.drop (L.length * 1):=by rw [<-Ar,List.take_append_drop]
   have h:=pg fQ (x:=x) (R:=M.drop (L.length * 1)) Ap; rw [<-e,Nat.mul_one] at h; rw [Nat.mul_one] at h; rw [<-h]; unfold splice; rw [List.set_eq_take_append_cons_drop,if_pos Ab]; simp [aj,tx]
  have J:=B.out _ (D.setCell ⟨g,K,none⟩ (.string (str x))) rfl ⟨.slice (some ⟨g,0,none⟩) L.length c,D.setCell ⟨g,K,none⟩ (.string (str x)),(gR Ac o).symm,bR E Ae,by
   rw [List.length_set]; refine dz Aq Ad Ah Aa (by rw [List.length_set,hM]) ?_; rw [Af,List.take_append_of_le_length (by rw [aQ fQ,List.length_set]; exact eG),List.take_of_length_le (by rw [aQ fQ,List.length_set]; exact eG)],.inl rfl⟩
  have HR:=hO J; clear J Ac Af B Ad Ae; go_wp2_with fail
  go_ret; exact HR.out
end
section
open Go.RowKit Mem Led
theorem mV{α:Type} {enc:α->List Value} {k:Nat} {e:TypeId} {base gl sl:Nat} {v:Value} {L':List α} {w W w':World} (A:eD w W) (h:bu enc k e base gl sl v L' W w'):bu enc k e base gl sl v L' w w':=by
 obtain⟨B,C,D,E,F,G⟩:=h
 exact⟨B,C,D,bR A E,F,G.imp id fun ⟨g,hg,e⟩=>⟨g,Nat.le_trans A.size hg,e⟩⟩
theorem jl{α:Type} {enc:α->List Value} {k:Nat} {e:TypeId} {base gl sl:Nat} {v:Value} {L:List α} {p:α->Bool} {w W w':World} {x:Ending} (A:eD w W) (h:bJ enc k e base gl sl v L p W x w'):bJ enc k e base gl sl v L p w x w':=by
 unfold bJ at h ⊢
 split
 .rename_i hp
  rw [if_pos hp] at h; exact⟨h.1,mV A h.2⟩
 .rename_i hp
  rw [if_neg hp] at h; exact⟨h.1,A.trans (h.2.mono A.size)⟩
theorem qp(x:Led.Entry × Value) (n:Int) (A:Nat) (W:World) (C:W.cell? ⟨A,1,none⟩=some (.int .i64 n)) :
  Calls prog 83 (#[.agg (ag x).toArray]++#[.pointer (some ⟨A,0,none⟩)]) W fun e w'=>e=.returned (.bool (x.1.n==n))/\eD W w':=by
 have B:=World.block_lt_of_cell? W _ C
 simp only [] at B
 have D:∀ o,eD W (W.alloc o):=fun o=>eH
 show Calls prog 83 #[.agg #[.int .i64 x.1.n,.string (str x.1.path),.string (str x.1.parent),.int .i64 x.1.ttl,x.2],.pointer (some ⟨A,0,none⟩)] W _
 go_enter func83,ntmps83
 go_wp2_with fail
 go_ret
 exact⟨by first|rfl|simp,D _⟩
theorem rl(gl:Nat) (ops vs:List Value) (n:Int) (L:List (Led.Entry × Value)) (base:Nat) (v:Value) (w:World) (Q:L.length<=1000) (C:ops[1]?=some (.int .i64 n)) (G:Blk w gl vs 30) (H:vs[0]?=some v) (D:w.ownsRow base 36 5 v L.length (af ag L)) (I:v.ownBlock≠some gl) (R:∀ y∈L,∀ u∈ag y,u.oneCell'=true) :
  Calls prog 43 #[.pointer (some ⟨gl,0,none⟩),.agg ops.toArray] w (bJ ag 5 36 base gl 0 v L (fun x=>x.1.n==n) w):=by
 obtain⟨W,F⟩:=eA (w.alloc (.cells ops.toArray 47))
 have S:Blk W w.heap.size ops 47:=by rw [<-F]; exact Blk.new w _ _
 have A:eD w W:=eF F
 have J:=G.below A
 have N:=goneEnt_any gl 0 83 #[.pointer (some ⟨w.heap.size,0,none⟩)] (enters_of func83 (by kernel_rfl) rfl) (fun x=>x.1.n==n) L base v W Q ((J.cell 0).trans H) (J.froz 0) J.lt (ae D A eG) I R (fun T x _ U=>qp x n w.heap.size T (((S.below U).cell 1).trans C))
 have K:=hO (N.mono fun _ _ h=>jl A h)
 have V:=hO F
 clear F N
 go_enter func43,ntmps43
 go_wp2_with fail
 rw [V.out]
 refine K.out.mono ?_
 intro e O h
 unfold bJ at h
 by_cases B:L.any (fun x=>x.1.n==n)=true
 .rw [if_pos B] at h
  obtain⟨rfl,E⟩:=h; have M:Hid (bJ ag 5 36 base gl 0 v L (fun x=>x.1.n==n) w (.returned (.int .i64 0)) O):=hO (by unfold bJ; rw [if_pos B]; exact⟨rfl,E⟩)
  clear B E K; go_wp2; go_ret; exact M.out
 .rw [if_neg B] at h
  obtain⟨rfl,E⟩:=h; have M:Hid (bJ ag 5 36 base gl 0 v L (fun x=>x.1.n==n) w (.returned (.int .i64 7)) O):=hO (by unfold bJ; rw [if_neg B]; exact⟨rfl,E⟩)
  clear B E K; go_wp2; go_ret; exact M.out
theorem lift1_any(x:Txt) (n:Txt) (B:Nat) (W:World) (C:W.cell? ⟨B,2,none⟩=some (.string (str n))) :
  Calls prog 97 (#[.string (str x)]++#[.pointer (some ⟨B,0,none⟩)]) W fun e w'=>e=.returned (.bool (x==n))/\eD W w':=by
 have A:=World.block_lt_of_cell? W _ C
 simp only [] at A
 go_enter func97,ntmps97
 go_wp2_with fail
 go_ret
 exact⟨by first|rfl|simp,Below.refl _ _⟩
theorem lift_any(gl:Nat) (ops vs:List Value) (n:Txt) (L:List (Txt)) (base:Nat) (v:Value) (w:World) (Q:L.length<=1000) (C:ops[2]?=some (.string (str n))) (G:Blk w gl vs 30) (H:vs[2]?=some v) (D:w.ownsRow base 9 1 v L.length (af aj L)) (I:v.ownBlock≠some gl) :
  Calls prog 48 #[.pointer (some ⟨gl,0,none⟩),.agg ops.toArray] w (bJ aj 1 9 base gl 2 v L (fun x=>x==n) w):=by
 obtain⟨W,F⟩:=eA (w.alloc (.cells ops.toArray 47))
 have R:Blk W w.heap.size ops 47:=by rw [<-F]; exact Blk.new w _ _
 have A:eD w W:=eF F
 have J:=G.below A
 have N:=goneStr_any gl 2 97 #[.pointer (some ⟨w.heap.size,0,none⟩)] (enters_of func97 (by kernel_rfl) rfl) (fun x=>x==n) L base v W Q ((J.cell 2).trans H) (J.froz 2) J.lt (ae D A eG) I (fun y _=>fP y) (fun S x _ T=>lift1_any x n w.heap.size S (((R.below T).cell 2).trans C))
 have K:=hO (N.mono fun _ _ h=>jl A h)
 have U:=hO F
 clear F N
 go_enter func48,ntmps48
 go_wp2_with fail
 rw [U.out]
 refine K.out.mono ?_
 intro e O h
 unfold bJ at h
 by_cases B:L.any (fun x=>x==n)=true
 .rw [if_pos B] at h
  obtain⟨rfl,E⟩:=h; have M:Hid (bJ aj 1 9 base gl 2 v L (fun x=>x==n) w (.returned (.int .i64 0)) O):=hO (by unfold bJ; rw [if_pos B]; exact⟨rfl,E⟩)
  clear B E K; go_wp2; go_ret; exact M.out
 .rw [if_neg B] at h
  obtain⟨rfl,E⟩:=h; have M:Hid (bJ aj 1 9 base gl 2 v L (fun x=>x==n) w (.returned (.int .i64 7)) O):=hO (by unfold bJ; rw [if_neg B]; exact⟨rfl,E⟩)
  clear B E K; go_wp2; go_ret; exact M.out
theorem evict1_any(x:Led.Node) (n:Txt) (A:Nat) (W:World) (C:W.cell? ⟨A,2,none⟩=some (.string (str n))) :
  Calls prog 99 (#[.agg (ac x).toArray]++#[.pointer (some ⟨A,0,none⟩)]) W fun e w'=>e=.returned (.bool (x.name==n))/\eD W w':=by
 have B:=World.block_lt_of_cell? W _ C
 simp only [] at B
 have D:∀ o,eD W (W.alloc o):=fun o=>eH
 show Calls prog 99 #[.agg #[.string (str x.name),.string (str x.key),.int .i64 x.expires,.int .i64 x.seq,.string (str x.doc)],.pointer (some ⟨A,0,none⟩)] W _
 go_enter func99,ntmps99
 go_wp2_with fail
 go_ret
 exact⟨by first|rfl|simp,D _⟩
theorem sg(gl:Nat) (ops vs:List Value) (n:Txt) (L:List (Led.Node)) (base:Nat) (v:Value) (w:World) (Q:L.length<=1000) (C:ops[2]?=some (.string (str n))) (G:Blk w gl vs 30) (H:vs[1]?=some v) (D:w.ownsRow base 40 5 v L.length (af ac L)) (I:v.ownBlock≠some gl) (R:∀ y∈L,∀ u∈ac y,u.oneCell'=true) :
  Calls prog 49 #[.pointer (some ⟨gl,0,none⟩),.agg ops.toArray] w (bJ ac 5 40 base gl 1 v L (fun x=>x.name==n) w):=by
 obtain⟨W,F⟩:=eA (w.alloc (.cells ops.toArray 47))
 have S:Blk W w.heap.size ops 47:=by rw [<-F]; exact Blk.new w _ _
 have A:eD w W:=eF F
 have J:=G.below A
 have N:=goneNod_any gl 1 99 #[.pointer (some ⟨w.heap.size,0,none⟩)] (enters_of func99 (by kernel_rfl) rfl) (fun x=>x.name==n) L base v W Q ((J.cell 1).trans H) (J.froz 1) J.lt (ae D A eG) I R (fun T x _ U=>evict1_any x n w.heap.size T (((S.below U).cell 2).trans C))
 have K:=hO (N.mono fun _ _ h=>jl A h)
 have V:=hO F
 clear F N
 go_enter func49,ntmps49
 go_wp2_with fail
 rw [V.out]
 refine K.out.mono ?_
 intro e O h
 unfold bJ at h
 by_cases B:L.any (fun x=>x.name==n)=true
 .rw [if_pos B] at h
  obtain⟨rfl,E⟩:=h; have M:Hid (bJ ac 5 40 base gl 1 v L (fun x=>x.name==n) w (.returned (.int .i64 0)) O):=hO (by unfold bJ; rw [if_pos B]; exact⟨rfl,E⟩)
  clear B E K; go_wp2; go_ret; exact M.out
 .rw [if_neg B] at h
  obtain⟨rfl,E⟩:=h; have M:Hid (bJ ac 5 40 base gl 1 v L (fun x=>x.name==n) w (.returned (.int .i64 7)) O):=hO (by unfold bJ; rw [if_neg B]; exact⟨rfl,E⟩)
  clear B E K; go_wp2; go_ret; exact M.out
theorem drop1_any(x:Led.Key) (n:Txt) (A:Nat) (W:World) (C:W.cell? ⟨A,2,none⟩=some (.string (str n))) :
  Calls prog 106 (#[.agg (aq x).toArray]++#[.pointer (some ⟨A,0,none⟩)]) W fun e w'=>e=.returned (.bool (x.kid==n&&x.state==3))/\eD W w':=by
 have B:=World.block_lt_of_cell? W _ C
 simp only [] at B
 have D:∀ o,eD W (W.alloc o):=fun o=>eH
 show Calls prog 106 #[.agg #[.string (str x.kid),.string (str x.seed),.int .i64 x.state,.int .i64 x.since],.pointer (some ⟨A,0,none⟩)] W _
 cases E:(x.kid==n)
 all_goals
  go_enter func106,ntmps106
  go_wp2_with fail
  go_ret; exact⟨by first|rfl|simp,D _⟩
theorem drop_any(gl:Nat) (ops vs:List Value) (n:Txt) (L:List (Led.Key)) (base:Nat) (v:Value) (w:World) (Q:L.length<=1000) (C:ops[2]?=some (.string (str n))) (G:Blk w gl vs 30) (H:vs[4]?=some v) (D:w.ownsRow base 42 4 v L.length (af aq L)) (I:v.ownBlock≠some gl) (R:∀ y∈L,∀ u∈aq y,u.oneCell'=true) :
  Calls prog 52 #[.pointer (some ⟨gl,0,none⟩),.agg ops.toArray] w (bJ aq 4 42 base gl 4 v L (fun x=>x.kid==n&&x.state==3) w):=by
 obtain⟨W,F⟩:=eA (w.alloc (.cells ops.toArray 47))
 have S:Blk W w.heap.size ops 47:=by rw [<-F]; exact Blk.new w _ _
 have A:eD w W:=eF F
 have J:=G.below A
 have N:=goneKey_any gl 4 106 #[.pointer (some ⟨w.heap.size,0,none⟩)] (enters_of func106 (by kernel_rfl) rfl) (fun x=>x.kid==n&&x.state==3) L base v W Q ((J.cell 4).trans H) (J.froz 4) J.lt (ae D A eG) I R (fun T x _ U=>drop1_any x n w.heap.size T (((S.below U).cell 2).trans C))
 have K:=hO (N.mono fun _ _ h=>jl A h)
 have V:=hO F
 clear F N
 go_enter func52,ntmps52
 go_wp2_with fail
 rw [V.out]
 refine K.out.mono ?_
 intro e O h
 unfold bJ at h
 by_cases B:L.any (fun x=>x.kid==n&&x.state==3)=true
 .rw [if_pos B] at h
  obtain⟨rfl,E⟩:=h; have M:Hid (bJ aq 4 42 base gl 4 v L (fun x=>x.kid==n&&x.state==3) w (.returned (.int .i64 0)) O):=hO (by unfold bJ; rw [if_pos B]; exact⟨rfl,E⟩)
  clear B E K; go_wp2; go_ret; exact M.out
 .rw [if_neg B] at h
  obtain⟨rfl,E⟩:=h; have M:Hid (bJ aq 4 42 base gl 4 v L (fun x=>x.kid==n&&x.state==3) w (.returned (.int .i64 7)) O):=hO (by unfold bJ; rw [if_neg B]; exact⟨rfl,E⟩)
  clear B E K; go_wp2; go_ret; exact M.out
theorem unbind1_any(x:Led.Bundle × Value) (n:Txt) (A:Nat) (W:World) (C:W.cell? ⟨A,2,none⟩=some (.string (str n))) :
  Calls prog 113 (#[.agg (ai x).toArray]++#[.pointer (some ⟨A,0,none⟩)]) W fun e w'=>e=.returned (.bool (x.1.domain==n))/\eD W w':=by
 have B:=World.block_lt_of_cell? W _ C
 simp only [] at B
 have D:∀ o,eD W (W.alloc o):=fun o=>eH
 show Calls prog 113 #[.agg #[.string (str x.1.domain),.int .i64 x.1.number,x.2],.pointer (some ⟨A,0,none⟩)] W _
 go_enter func113,ntmps113
 go_wp2_with fail
 go_ret
 exact⟨by first|rfl|simp,D _⟩
theorem unbind_any(gl:Nat) (ops vs:List Value) (n:Txt) (L:List (Led.Bundle × Value)) (base:Nat) (v:Value) (w:World) (Q:L.length<=1000) (C:ops[2]?=some (.string (str n))) (G:Blk w gl vs 30) (H:vs[5]?=some v) (D:w.ownsRow base 45 3 v L.length (af ai L)) (I:v.ownBlock≠some gl) (R:∀ y∈L,∀ u∈ai y,u.oneCell'=true) :
  Calls prog 54 #[.pointer (some ⟨gl,0,none⟩),.agg ops.toArray] w (bJ ai 3 45 base gl 5 v L (fun x=>x.1.domain==n) w):=by
 obtain⟨W,F⟩:=eA (w.alloc (.cells ops.toArray 47))
 have S:Blk W w.heap.size ops 47:=by rw [<-F]; exact Blk.new w _ _
 have A:eD w W:=eF F
 have J:=G.below A
 have N:=goneBun_any gl 5 113 #[.pointer (some ⟨w.heap.size,0,none⟩)] (enters_of func113 (by kernel_rfl) rfl) (fun x=>x.1.domain==n) L base v W Q ((J.cell 5).trans H) (J.froz 5) J.lt (ae D A eG) I R (fun T x _ U=>unbind1_any x n w.heap.size T (((S.below U).cell 2).trans C))
 have K:=hO (N.mono fun _ _ h=>jl A h)
 have V:=hO F
 clear F N
 go_enter func54,ntmps54
 go_wp2_with fail
 rw [V.out]
 refine K.out.mono ?_
 intro e O h
 unfold bJ at h
 by_cases B:L.any (fun x=>x.1.domain==n)=true
 .rw [if_pos B] at h
  obtain⟨rfl,E⟩:=h; have M:Hid (bJ ai 3 45 base gl 5 v L (fun x=>x.1.domain==n) w (.returned (.int .i64 0)) O):=hO (by unfold bJ; rw [if_pos B]; exact⟨rfl,E⟩)
  clear B E K; go_wp2; go_ret; exact M.out
 .rw [if_neg B] at h
  obtain⟨rfl,E⟩:=h; have M:Hid (bJ ai 3 45 base gl 5 v L (fun x=>x.1.domain==n) w (.returned (.int .i64 7)) O):=hO (by unfold bJ; rw [if_neg B]; exact⟨rfl,E⟩)
  clear B E K; go_wp2; go_ret; exact M.out
end
section
open Go.RowKit Mem Led
theorem de(x a b:Int) (w:World):Calls prog 104 #[.int .i64 x,.int .i64 a,.int .i64 b] w fun e w'=>e=.returned (.bool (aI x a b))/\w'=w:=by
 have hx:aI x a b=(decide (a<=x)&&decide (x<=b)):=by unfold aI; simp
 rw [hx]
 by_cases A:a<=x
 all_goals by_cases B:x<=b
 all_goals
  go_enter func104,ntmps104
  go_wp2_with fail
  go_ret; exact⟨by simp [A,B],rfl⟩
theorem node_any(n:Led.Node) (w:World) (O:n.name.length<=9223372036854775807):Calls prog 89 #[.agg (ac n).toArray] w fun e w'=>e=.returned (.bool (cI n))/\eD w w':=by
 obtain⟨W,F⟩:=eA (w.alloc (.cells (ac n).toArray 40))
 have C:Blk W w.heap.size (ac n) 40:=by rw [<-F]; exact Blk.new w _ _
 have E:eD w W:=eF F
 have T:W.cell? ⟨w.heap.size,0,none⟩=some (.string (str n.name)):=C.cell 0
 have H:=jr n.name W O
 have B:cI n=(Ids.agent n.name&&decide ((n.key.length:Int)=32)&&aI n.expires 0 1099511627776&&aI n.seq 0 1099511627776&&decide ((n.doc.length:Int)<=16)):=by
  unfold cI; congr 1
  .congr 3
   rw [Bool.eq_iff_iff]; simp
   omega
  .rw [Bool.eq_iff_iff]
   simp
   omega
 rw [B]
 generalize Ids.agent n.name=Q at *
 obtain⟨K,L⟩:=eA (n.key.length)
 obtain⟨D,M⟩:=eA (n.doc.length)
 have U:(str n.key).size=K:=by rw [aJ,L]
 have V:(str n.doc).size=D:=by rw [aJ,M]
 rw [L,M]
 have N:=hO F
 unfold ac tx nm at N ⊢
 clear F B
 go_enter func89,ntmps89
 go_upto_region 1 with fail
 rw [N.out]
 by_cases R:(K:Int)=32
 all_goals by_cases S:(D:Int)<=16
 all_goals cases Q <;> cases I:aI n.expires 0 1099511627776 <;> cases J:aI n.seq 0 1099511627776
 all_goals
  go_wp2_with fail
  refine H.mono ?_; rintro e G ⟨rfl,A⟩; have X:G.cell? ⟨w.heap.size,1,none⟩=some (.string (str n.key)):=(C.below A).cell 1; have Y:G.cell? ⟨w.heap.size,2,none⟩=some (.int .i64 n.expires):=(C.below A).cell 2; have Z:G.cell? ⟨w.heap.size,3,none⟩=some (.int .i64 n.seq):=(C.below A).cell 3; have b:G.cell? ⟨w.heap.size,4,none⟩=some (.string (str n.doc)):=(C.below A).cell 4; go_wp2_with (go_at_call 104; refine(de _ _ _ _).mono ?_; rintro e c ⟨rfl,rfl⟩)
  go_ret; exact⟨by simp [R,S,I,J],E.trans (A.mono E.size)⟩
theorem key_any(n:Led.Key) (w:World):Calls prog 100 #[.agg (aq n).toArray] w fun e w'=>e=.returned (.bool (dC n))/\eD w w':=by
 have A:dC n=(decide ((n.seed.length:Int)=32)&&aI n.kid.length 1 16&&aI n.state 1 3&&aI n.since 0 1099511627776):=by
  unfold dC; congr 3
  rw [Bool.eq_iff_iff]; simp
  omega
 rw [A]
 have I:((str n.kid).size:Int)=(n.kid.length:Int):=by rw [aJ]
 obtain⟨D,B⟩:=eA (n.seed.length)
 have J:(str n.seed).size=D:=by rw [aJ,B]
 rw [B]
 clear A
 have C:∀ o,eD w (w.alloc o):=fun o=>eH
 unfold aq tx nm
 go_enter func100,ntmps100
 by_cases E:(D:Int)=32
 all_goals cases F:aI n.kid.length 1 16 <;> cases G:aI n.state 1 3 <;> cases H:aI n.since 0 1099511627776
 all_goals
  go_wp2_with (go_at_call 104; refine(de _ _ _ _).mono ?_; rintro e K ⟨rfl,rfl⟩)
  go_ret; exact⟨by simp [E],C _⟩
end
section
open Go.RowKit Mem
def t6 (w:World) (L:List (List UInt8)) (e:Ending) (w':World):Prop :=
 ∃ A m c,e=.returned (.tuple #[.slice A m c,.int .i64 ((Ids.ey L).2:Int)])/\m<=c/\w'.ownsRow w.heap.size 9 1 (.slice A m c) m (tv ((Ids.ey L).1.getD []))/\eD w w'
def Best (L A:List (List UInt8)) (k:Nat) (b:List UInt8):Prop :=
 (b=[]/\∀ j,(h:j<L.length)->j<k->Ids.gX A L[j]=false)\/(b∈L/\b≠[]/\Ids.gX A b=true/\∀ j,(h:j<L.length)->j<k->Ids.gX A L[j]=true->¬ L[j]<b)
def ow (w w':World):Prop:=∃ q,w'=w.drewN q
theorem ow.refl(w:World):ow w w:=⟨0,rfl⟩
theorem ow.next{w w':World} (h:ow w w') (k:Nat):ow w (w'.drewN k):=by
 obtain⟨q,rfl⟩:=h
 exact⟨q+k,by simp [World.drewN,Nat.add_assoc]⟩
theorem ow.below{w w':World} (h:ow w w') (B:Nat):Below B w w':=by
 obtain⟨q,rfl⟩:=h
 exact dw B w q
theorem tE{x:List UInt8} (h:Ids.selector x=true):x≠[]:=by
 rintro rfl
 simp [Ids.selector,Ids.bV] at h
theorem ls{L A:List (List UInt8)} {j:Nat} {C x:List UInt8} (H:Best L A j C) (I:j<L.length) (hx:L[j]=x) (D:x≠[]) (J:Ids.gX A x=true) (h:C=[]\/x<C):Best L A (j+1) x:=by
 refine .inr ⟨by rw [<-hx]; exact List.getElem_mem I,D,J,fun i hi K B=>?_⟩
 by_cases e:i=j
 .subst e; rw [hx]; exact Ids.lL x
 .rcases H with⟨_,E⟩|⟨_,F,_,E⟩
  .rw [E i hi (by omega)] at B; cases B
  .rcases h with h|h
   .exact absurd h F
   .exact fun G=>E i hi (by omega) B (Ids.lt_tr G h)
theorem ny{L B:List (List UInt8)} {j:Nat} {C x:List UInt8} (G:Best L B j C) (I:j<L.length) (hx:L[j]=x) (h:Ids.gX B x=false\/(C≠[]/\¬ x<C)):Best L B (j+1) C:=by
 rcases G with⟨D,E⟩|⟨h0,D,H,E⟩
 .refine .inl ⟨D,fun i hi F=>?_⟩
  by_cases e:i=j
  .subst e
   rw [hx]; rcases h with h|h
   .exact h
   .exact absurd D h.1
  .exact E i hi (by omega)
 .refine .inr ⟨h0,D,H,fun i hi F A=>?_⟩
  by_cases e:i=j
  .subst e
   rw [hx] at A ⊢; rcases h with h|h
   .rw [h] at A; cases A
   .exact h.2
  .exact E i hi (by omega) A
theorem mx{a b:List UInt8} (h:a<b):Op.bytesLess a b=true:=by rw [bytesLess_eq]; exact decide_eq_true h
theorem my{a b:List UInt8} (h:¬ a<b):Op.bytesLess a b=false:=by rw [bytesLess_eq]; exact decide_eq_false h
theorem rset_any(A:Option Addr) (n c:Nat) (L:List (List UInt8)) (w:World) (h:Ts w A n L) (hn:n * 16<=140737488355328) (u:∀ x∈L,x.length<=9223372036854775807) :
  Calls prog 32 #[.slice A n c] w (t6 w L):=by
 obtain⟨iT,Ak,Al,Am,An⟩:=al infoT
 have HL:=hO h.len
 have Ab:=hO u
 clear u
 go_enter func32,ntmps32
 go_wp2_with fail
 go_loop [4,5] (fun i _=>∃ k:Nat,k<=n/\i=.int .i64 k/\Hid ((L.take k).all Ids.selector=true)) (fun i _=>n - (intOf i).toNat)
 case atStart=>exact⟨0,by omega,rfl,hO (by simp)⟩
 case round =>
  obtain⟨k,hk,rfl,V⟩:=hrel; by_cases Ao:k<n
  .have q:k<L.length:=by rw [HL.out]; exact Ao
   obtain⟨Ap,Aq,rfl,X⟩:=h.lit q; have J:=qX L[k] w (Ab.out _ (List.getElem_mem q)); have hi:(k:Int)<(n:Int):=by omega
   cases hq:Ids.selector L[k]
   .have hx:Hid (Ids.ey L=(none,13)):=hO (by
     unfold Ids.ey; rw [List.all_eq_false.2 ⟨L[k],List.getElem_mem q,by rw [hq]; simp⟩]
     rfl)
    rw [hq] at J; generalize L[k]=x at *; clear hq; go_wp2_with fail
    refine J.mono ?_; rintro e w' ⟨rfl,rfl⟩; go_wp2; go_ret2; exact⟨none,0,0,by rw [hx.out]; rfl,by omega,by rw [hx.out]; exact World.ownsRow_nil _ _ _ _,Below.refl _ _⟩
   .have HN:=hO ((sy (p:=Ids.selector) V.out q).trans hq)
    rw [hq] at J; generalize L[k]=x at *; clear hq; go_wp2_with fail
    refine J.mono ?_; rintro e w' ⟨rfl,rfl⟩; go_wp2; go_round
    case rel=>exact⟨k+1,by omega,by go_num,HN⟩
    case measure=>simp [intOf]; omega
  .obtain rfl:k=n:=by omega
   have z:Hid (L.all Ids.selector=true):=hO (by
    have:=V.out; rwa [List.take_of_length_le (by rw [HL.out]; exact eG)] at this)
   clear V; go_wp2_with fail
   go_loopw [6,7,8] (fun v _ _ wr=>∃ (m:Nat) (A4:Option Addr) (c4:Nat) (B:List (List UInt8)),v=.slice A4 m c4/\m<=c4/\wr.ownsRow w.heap.size 9 1 (.slice A4 m c4) m (tv B)/\eD w wr/\Ids.rp L B/\m+Ids.left_ L B<=k/\Hid (B.length=m)) (fun v _ _ _=>match v with|.slice _ m _=>k - m|_=>0)
   case atStart=>exact⟨0,none,0,[],rfl,by omega,World.ownsRow_nil _ _ _ _,Below.refl _ _,Ids.rp.nil L,by have:=Ids.left_le L []; rw [HL.out] at this; omega,hO rfl⟩
   case round =>
    obtain⟨m,A4,c4,B,rfl,Ar,R,hb,Y,As,HM⟩:=hrel; have HP:=hO Y; clear Y; obtain⟨wo,At⟩:∃ wo,wo=wr:=⟨_,rfl⟩; subst At; go_wp2_with fail
    go_loopw [7,8] (fun b i wx=>∃ (j:Nat) (E:List UInt8),j<=k/\i=.int .i64 j/\b=.string (str E)/\Hid (Best L B j E)/\ow wo wx) (fun _ i _=>k - (intOf i).toNat)
    case atStart=>exact⟨0,[],by omega,rfl,rfl,hO (.inl ⟨rfl,fun j _ hj=>by omega⟩),ow.refl _⟩
    case round =>
     obtain⟨wx,Au⟩:∃ wx,wx=wr:=⟨_,rfl⟩; subst Au; obtain⟨j,E,hj,rfl,rfl,r,G⟩:=hrel; by_cases Av:j<k
     .have K:j<L.length:=by rw [HL.out]; exact Av
      have Ac:Ts wx A k L:=(h.below hb).below (G.below _); obtain⟨Ap,Aq,rfl,X⟩:=Ac.lit K; obtain⟨x,D⟩:=eA (L[j]); rw [D] at X; have C:x≠[]:=by rw [<-D]; exact tE (List.all_eq_true.1 z.out _ (List.getElem_mem K))
      have hi:(j:Int)<(k:Int):=by omega
      clear Ac; by_cases Ad:m=0
      .subst Ad
       have F:Ids.gX B x=true:=by
        have:=List.eq_nil_of_length_eq_zero HM.out; rw [this]; rfl
       by_cases I:E=[]
       .have V:=hO (ls r.out K D C F (.inl I))
        subst I; clear D C F; go_wp2_with fail
        go_quiet (fail)
        go_wp2_with fail
        go_roundw
        case rel=>exact⟨j+1,x,by omega,by go_num,rfl,V,G.next nq⟩
        case measure=>simp [intOf]; omega
       .have Z:E.isEmpty=false:=by cases E <;> simp_all
        have T:decide (str E=⟨#[]⟩)=false:=(jo E).trans Z; have Aa:¬ str E=⟨#[]⟩:=by simpa using T
        by_cases H:x<E
        .have V:=hO (ls r.out K D C F (.inr H))
         have Q:=mx H; clear D C H F; go_wp2_with fail
         go_quiet (fail)
         go_wp2_with fail
         go_roundw
         case rel=>exact⟨j+1,x,by omega,by go_num,rfl,V,G.next nq⟩
         case measure=>simp [intOf]; omega
        .have HK:=hO (ny r.out K D (.inr ⟨I,H⟩))
         have Q:=my H; clear D C H F; go_wp2_with fail
         go_quiet (fail)
         go_wp2_with fail
         go_roundw
         case rel=>exact⟨j+1,E,by omega,by go_num,rfl,HK,G.next nq⟩
         case measure=>simp [intOf]; omega
      .obtain⟨M,rfl⟩:∃ M,m=M+1:=⟨m - 1,by omega⟩
       have Ae:M<B.length:=by rw [HM.out]; omega
       have Af:Ts wx A4 (M+1) B:=(Ts.of_own R).below (G.below _); obtain⟨Az,A0,rfl,s⟩:=Af.lit Ae; obtain⟨y,hy⟩:=eA (B[M]); rw [hy] at s; have d:Ids.gX B x=decide (y<x):=by
        unfold Ids.gX; rw [List.getLast?_eq_getElem?,HM.out,Nat.add_sub_cancel,List.getElem?_eq_getElem Ae,hy]
       have A1:M<=8796093022208:=by omega
       have A2:(((M:Int)+1)==0)=false:=by simp; omega
       have A3:IntKind.i64.wrap (M:Int)=(M:Int):=by rw [IntKind.wrap_i64]; omega
       clear Af hy Ad; by_cases O:y<x
       .have F:Ids.gX B x=true:=by rw [d]; exact decide_eq_true O
        have g1:=my (Ids.lt_as O); have g2:(x==y)=false:=by
         cases e:(x==y)
         .rfl
         .simp at e; subst e; exact absurd O (Ids.lL _)
        clear d O; by_cases I:E=[]
        .have V:=hO (ls r.out K D C F (.inl I))
         subst I; clear D C F; go_wp2_with fail
         go_quiet (fail)
         go_wp2_with fail
         go_roundw
         case rel=>exact⟨j+1,x,by omega,by go_num,rfl,V,G.next nq⟩
         case measure=>simp [intOf]; omega
        .have Z:E.isEmpty=false:=by cases E <;> simp_all
         have T:decide (str E=⟨#[]⟩)=false:=(jo E).trans Z; have Aa:¬ str E=⟨#[]⟩:=by simpa using T
         by_cases H:x<E
         .have V:=hO (ls r.out K D C F (.inr H))
          have Q:=mx H; clear D C H F; go_wp2_with fail
          go_quiet (fail)
          go_wp2_with fail
          go_roundw
          case rel=>exact⟨j+1,x,by omega,by go_num,rfl,V,G.next nq⟩
          case measure=>simp [intOf]; omega
         .have HK:=hO (ny r.out K D (.inr ⟨I,H⟩))
          have Q:=my H; clear D C H F; go_wp2_with fail
          go_quiet (fail)
          go_wp2_with fail
          go_roundw
          case rel=>exact⟨j+1,E,by omega,by go_num,rfl,HK,G.next nq⟩
          case measure=>simp [intOf]; omega
       .have F:Ids.gX B x=false:=by rw [d]; exact decide_eq_false O
        have HK:=hO (ny r.out K D (.inl F)); by_cases f:x<y
        .have g1:=mx f
         clear d O D C F f; go_wp2_with fail
         go_quiet (fail)
         go_wp2_with fail
         go_roundw
         case rel=>exact⟨j+1,E,by omega,by go_num,rfl,HK,G.next nq⟩
         case measure=>simp [intOf]; omega
        .have g1:=my f
         have Ag:x=y:=by
          rcases Ids.ni x y with g|g|g
          .exact absurd g f
          .exact g
          .exact absurd g O
         have g2:(x==y)=true:=by simp [Ag]
         clear d O D C F f Ag; go_wp2_with fail
         go_quiet (fail)
         go_wp2_with fail
         go_roundw
         case rel=>exact⟨j+1,E,by omega,by go_num,rfl,HK,G.next nq⟩
         case measure=>simp [intOf]; omega
     .obtain rfl:j=k:=by omega
      have N:wx.ownsRow w.heap.size 9 1 (.slice A4 m c4) m (tv B):=ae R (G.below wo.heap.size) eG; have t:eD w wx:=hb.trans (G.below _); by_cases I:E=[]
      .have l:B=Ids.qT L:=HP.out.done (fun x hx=>by
        rcases r.out with⟨_,h2⟩|⟨_,h2,_⟩
        .obtain⟨i,hi,rfl⟩:=List.mem_iff_getElem.1 hx
         exact h2 i hi (by have:=HL.out; omega)
        .exact absurd I h2)
       subst I; have S:Hid (Ids.ey L=if 4<m then (none,4) else (some B,0)):=hO (by
        unfold Ids.ey; rw [z.out,<-l,HM.out]; rfl)
       have T:decide (str ([]:List UInt8)=⟨#[]⟩)=true:=jo []; clear l R hb; by_cases h4:4<m
       .go_wp2_with fail
        go_ret2; exact⟨none,0,0,by rw [S.out,if_pos h4]; rfl,by omega,by rw [S.out,if_pos h4]; exact World.ownsRow_nil _ _ _ _,t⟩
       .go_wp2_with fail
        go_ret2; exact⟨A4,m,c4,by rw [S.out,if_neg h4]; rfl,Ar,by rw [S.out,if_neg h4]; exact N,t⟩
      .have U:E∈L/\Ids.gX B E=true/\∀ x∈L,Ids.gX B x=true->¬ x<E:=by
        rcases r.out with⟨h1,_⟩|⟨h1,_,h2,h3⟩
        .exact absurd h1 I
        .refine⟨h1,h2,fun x hx hc=>?_⟩
         obtain⟨i,hi,rfl⟩:=List.mem_iff_getElem.1 hx; exact h3 i hi (by have:=HL.out; omega) hc
       have Aw:=hO (HP.out.next U.1 U.2.1 U.2.2); have A5:=Ids.left_lt U.1 U.2.1; have Z:E.isEmpty=false:=by cases E <;> simp_all
       have T:decide (str E=⟨#[]⟩)=false:=(jo E).trans Z; have Aa:¬ str E=⟨#[]⟩:=by simpa using T
       have e1:tv (B++[E])=tv B++[.string (str E)]:=by rw [ru]; rfl
       have HE:=hO e1; have Ax:m+1<=maxLen:=by unfold maxLen; omega
       have Ah:(m+1) * 16<=140737488355328:=by omega
       have Ai:w.heap.size<=wx.heap.size:=t.size; clear e1 U R hb; go_wp2_with (at_builtin; go_must (refine bi rfl (.tmp 62) (.tmp 64) 25 rfl w.heap.size iT (.string ⟨#[]⟩) 16 underlying25 Ak Al Am An rfl _ _ _ rfl N rfl rfl Ax Ah Ai ?_))
       intro A8 c8 w8 o g7 g8 Aj; have Ay:eD w w8:=bz t Aj Ai N eG; rw [<-HE.out] at o; clear Aj N G; go_wp2_with fail
       go_roundw
       case rel=>exact⟨m+1,A8,c8,B++[E],rfl,g7,o,Ay,Aw.out,by omega,hO (by rw [List.length_append,HM.out]; rfl)⟩
       case measure=>simp; omega
end
section
open Go.RowKit Mem Go.Sort Go.Lib
theorem n8{w:World} {A:Option Addr} {n:Nat} {L:List (List UInt8)} (h:Ts w A n L) (G:0<n):∃ b B,A=some ⟨b,B,none⟩/\b<w.heap.size/\∀ j,(D:j<L.length)->w.cell? ⟨b,B+j,none⟩=some (.string (str L[j])):=by
 have H:=h.len
 obtain⟨b,B,e,C⟩:=h.lit (i:=0) (by omega)
 refine⟨b,B,e,World.block_lt_of_cell? w _ C,fun j D=>?_⟩
 obtain⟨b2,E,e2,F⟩:=h.lit D
 rw [e] at e2
 injection e2 with e2
 injection e2 with e2 e3
 subst e2 e3
 exact F
theorem clone_any(A:Option Addr) (n c:Nat) (L:List (List UInt8)) (w:World) (h:Ts w A n L) (H:n * 16<=140737488355328) (G:A=none->n=0) :
  Calls prog 28 #[.slice A n c] w fun e w'=>∃ B,e=.returned B/\w'.ownsRow w.heap.size 9 1 B n (tv L)/\eD w w':=by
 have I:=h.len
 by_cases h0:n=0
 .subst h0
  obtain rfl:=List.eq_nil_of_length_eq_zero I
  cases A with
  | none =>
   refine(Tryz.slices_Clone_string_nil 0 c w).mono ?_; rintro e w' ⟨rfl,rfl⟩; exact⟨_,rfl,World.ownsRow_nil _ _ _ _,Below.refl _ _⟩
  | some a =>
   refine(Tryz.slices_Clone_string_zero a c w).mono ?_; rintro e w' ⟨B,rfl,D,_,E⟩; exact⟨B,rfl,D,E⟩
 .obtain⟨b,F,rfl,M,J⟩:=n8 h (by omega)
  refine(Tryz.slices_Clone_string b F n c (L.map str) w (by rw [List.length_map]; omega) H (fun j K=>?_)).mono ?_
  .have C:j<L.length:=by simpa using K
   rw [J j C]; congr 2
   rw [List.getD_eq_getElem?_getD,List.getElem?_map,List.getElem?_eq_getElem C]; rfl
  .rintro e w' ⟨B,rfl,D,_,E⟩
   rw [List.take_of_length_le (by rw [List.length_map]; omega),List.map_map] at D
   exact⟨B,rfl,D,E⟩
theorem sort_any(base:Nat) (v:Value) (n:Nat) (L:List (List UInt8)) (w:World) (h:w.ownsRow base 9 1 v n (tv L)) (R:n * 16<=140737488355328) (M:base<=w.heap.size) :
  Calls prog 162 #[v] w fun e w'=>e=.returned (.tuple #[])/\w'.ownsRow base 9 1 v n (tv (L.mergeSort fun x y=>decide (x<=y)))/\Below base w w':=by
 have D:L.length=n:=by have:=h.1; rw [dK] at this; omega
 by_cases h0:n=0
 .subst h0
  obtain rfl:=List.eq_nil_of_length_eq_zero D; obtain⟨A,c,rfl,_,_⟩:=ak h; refine(Tryz.slices_Sort_string_none A c w).mono ?_; rintro e w' ⟨rfl,rfl⟩; exact⟨rfl,by simpa using h,Below.refl _ _⟩
 .have E:v≠.slice none 0 0:=by
   rintro rfl; rcases h.2 with⟨_,B⟩|⟨g,cap,F,B,_⟩
   .exact h0 B
   .cases B
  rcases h.2 with⟨B,_⟩|⟨g,cap,F,rfl,C,G,N,H,I,ht⟩
  .exact absurd B E
  .have O:Holds encStr w g 0 L.toArray:=holds_of_block G (by rw [D,<-Nat.mul_one n]; exact ht)
   have J:g<w.heap.size:=(Array.getElem?_eq_some_iff.1 G).1; have K:=Tryz.slices_Sort_string g 0 cap L w O J (by omega); rw [D] at K; refine K.mono ?_; rintro e w' ⟨rfl,q,os,rfl⟩; refine⟨rfl,?_,?_⟩
   .have:=ownsRow_sorted (n:=q) (os:=os) (ss:=L) (ts:=L.mergeSort fun x y=>decide (x<=y)) (by simp) C G (by omega) H I
    rw [D] at this; exact this
   .exact(Below.refl base w).grown (grownBy_sorted _) M (fun j Q=>by cases Q; exact C)
theorem upto_le(d:Array (List UInt8)):∀ m,(Lib.compactUpTo d m).length<=m
 | 0=>by simp [Lib.compactUpTo]
 | m+1=>by
  rw [Lib.compactUpTo_succ,List.length_append]; have:=upto_le d m; split <;> simp <;> omega
theorem compact_le(L:List (List UInt8)):(Lib.compact L).length<=L.length:=upto_le _ _
theorem compact_any(base:Nat) (v:Value) (n:Nat) (L:List (List UInt8)) (w:World) (h:w.ownsRow base 9 1 v n (tv L)) (O:n * 16<=140737488355328) :
  Calls prog 163 #[v] w fun e w'=>∃ A c,e=.returned (.slice A (Lib.compact L).length c)/\(Lib.compact L).length<=c/\w'.ownsRow base 9 1 (.slice A (Lib.compact L).length c) (Lib.compact L).length (tv (Lib.compact L))/\Below base w w':=by
 have B:L.length=n:=by have:=h.1; rw [dK] at this; omega
 by_cases h0:n=0
 .subst h0
  obtain rfl:=List.eq_nil_of_length_eq_zero B; obtain⟨A,c,rfl,H,_⟩:=ak h; refine(Tryz.slices_Compact_string_empty A c w).mono ?_; rintro e w' ⟨rfl,rfl⟩; exact⟨A,c,rfl,H,h,Below.refl _ _⟩
 .have C:v≠.slice none 0 0:=by
   rintro rfl; rcases h.2 with⟨_,D⟩|⟨g,cap,I,D,_⟩
   .exact h0 D
   .cases D
  obtain⟨g,cap,rfl,E,J,K,M,_,N⟩:=holds_of_ownsRow (enc:=encStr) h C; have G:=Tryz.slices_Compact_string g 0 cap L w N (by omega) (by omega); rw [B] at G; have F:(Lib.compact L).length<=n:=by rw [<-B]; exact compact_le L
  refine G.mono ?_; rintro e w' ⟨rfl,q,rfl⟩; refine⟨_,cap,rfl,by omega,?_,below_putRow (Below.refl _ _) E⟩; have:=ownsRow_putRow (enc:=encStr) (q:=q) (k:=(Lib.compact L).length) (ys:=Lib.compact L++List.replicate (n - (Lib.compact L).length) []) h (by simp; omega) F
  rw [List.take_left'] at this
  .exact this
  .rfl
end
section
open Go.RowKit Mem Go.Sort Go.Lib
theorem set1_any(l:List UInt8) (w:World) (A:l.length<=9223372036854775807):Calls prog 160 #[.string (str l)] w fun e w'=>e=.returned (.bool (!Ids.selector l))/\∃ q,w'=w.drewN q:=by
 have h:=tb l w A
 generalize Ids.selector l=b at *
 go_enter func160,ntmps160
 go_wp2_with fail
 refine h.mono ?_
 rintro e B ⟨rfl,q,rfl⟩
 go_wp2
 go_ret
 exact⟨rfl,q,rfl⟩
theorem idxQ_any(g:Nat) (lb:Array Value) (Z:∀ args w,(callFunc g args).run prog w=.ok (.enter g args) w) (p:List UInt8->Bool) (A:Option Addr) (n c:Nat) (L:List (List UInt8)) (w:World) (h:Ts w A n L) (d:n<=9223372036854775807) (D:∀ x∈L,x.length<=9223372036854775807)
  (Q:∀ (W:World) (x:List UInt8),x.length<=9223372036854775807->eD w W->Calls prog g (#[.string (str x)]++lb) W fun e w'=>e=.returned (.bool (p x))/\∃ q,w'=W.drewN q) :
  Calls prog 143 #[.slice A n c,.func (.func g) #[] lb] w fun e w'=>e=.returned (.int .i64 (bc p L))/\ow w w':=by
 have R:=h.len
 have F:=hO R
 obtain⟨r,I⟩:=eC (bc p L)
 rw [I.out]
 have S:=hO Q
 have T:=hO D
 clear Q D
 go_enter func143,ntmps143
 go_wp2
 go_loopw [8,5] (fun i _ wr=>∃ k:Nat,k<=n/\i=.int .i64 k/\Hid (∀ x∈L.take k,p x=false)/\ow w wr) (fun i _ _=>n - (intOf i).toNat)
 case atStart=>exact⟨0,by omega,rfl,hO (by simp),ow.refl _⟩
 case round =>
  obtain⟨k,f,rfl,J,G⟩:=hrel; by_cases K:k<n
  .have B:k<L.length:=by rw [R]; exact K
   have C:=G.below w.heap.size; obtain⟨b,U,rfl,M⟩:=(Ts.below h C).lit B; have H:=S.out wr L[k] (T.out _ (List.getElem_mem B)) C; have hi:(k:Int)<(n:Int):=by omega
   cases E:p L[k]
   .have V:=hO (dL B J.out E)
    rw [E] at H; generalize L[k]=X at *; clear E C; go_wp2_with fail
    refine H.mono ?_; rintro e Y ⟨rfl,q,rfl⟩; go_wp2; go_roundw
    case rel=>exact⟨k+1,by omega,by go_num,V,G.next q⟩
    case measure=>simp [intOf]; omega
   .have N:=hO (fD B J.out E)
    rw [E] at H; generalize L[k]=X at *; clear E C; go_wp2_with fail
    refine H.mono ?_; rintro e Y ⟨rfl,q,rfl⟩; go_wp2; go_ret; exact⟨by rw [<-I.out,N.out]; rfl,G.next q⟩
  .have O:k=n:=by omega
   have N:=hO (fF (p:=p) (L:=L) (by have:=J.out; rwa [O,List.take_of_length_le (by rw [F.out]; exact eG)] at this))
   have hi:¬ ((k:Int)<(n:Int)):=by omega
   go_wp2; go_ret; exact⟨by rw [<-I.out,N.out]; rfl,G⟩
theorem func_any(g:Nat) (lb:Array Value) (C:∀ args w,(callFunc g args).run prog w=.ok (.enter g args) w) (p:List UInt8->Bool) (A:Option Addr) (n c:Nat) (L:List (List UInt8)) (w:World) (h:Ts w A n L) (D:n<=9223372036854775807) (B:∀ x∈L,x.length<=9223372036854775807)
  (E:∀ (W:World) (x:List UInt8),x.length<=9223372036854775807->eD w W->Calls prog g (#[.string (str x)]++lb) W fun e w'=>e=.returned (.bool (p x))/\∃ q,w'=W.drewN q) :
  Calls prog 159 #[.slice A n c,.func (.func g) #[] lb] w fun e w'=>e=.returned (.bool (L.any p))/\∃ q,w'=w.drewN q:=by
 have F:=idxQ_any g lb C p A n c L w h D B E
 rw [<-gV]
 generalize bc p L=r at *
 go_enter func159,ntmps159
 go_wp2_with fail
 refine F.mono ?_
 rintro e G ⟨rfl,q,rfl⟩
 go_wp2
 go_ret
 exact⟨by first|rfl|simp,q,rfl⟩
theorem any_not(L:List (List UInt8)) (p:List UInt8->Bool):L.any (fun x=>!p x)=!L.all p:=by
 rw [List.not_all_eq_any_not]
theorem set_any(A:Option Addr) (n c:Nat) (L:List (List UInt8)) (w:World) (h:Ts w A n L) (N:n * 16<=140737488355328) (H:A=none->n=0) (I:∀ x∈L,x.length<=9223372036854775807) :
  Calls prog 129 #[.slice A n c] w (t6 w L):=by
 have B:=func_any 160 #[] (enters_of func160 (by kernel_rfl) rfl) (fun x=>!Ids.selector x) A n c L w h (by omega) I (fun W x hx _=>set1_any x W hx)
 rw [any_not] at B
 cases J:L.all Ids.selector
 .have hx:Hid (Ids.ey L=(none,13)):=hO (by unfold Ids.ey; rw [J]; rfl)
  rw [J] at B; go_enter func129,ntmps129
  go_wp2_with fail
  refine B.mono ?_; rintro e Z ⟨rfl,q,rfl⟩; go_wp2; go_ret2; exact⟨none,0,0,by rw [hx.out]; rfl,by omega,by rw [hx.out]; exact World.ownsRow_nil _ _ _ _,dw _ _ _⟩
 .rw [J] at B
  have b:=hO J; clear J; go_enter func129,ntmps129
  go_wp2_with fail
  refine B.mono ?_; rintro e Z ⟨rfl,q,rfl⟩; have T:Ts (w.drewN q) A n L:=h.below (dw _ _ _); go_wp2_with fail
  refine(clone_any A n c L _ T N H).mono ?_; rintro e U ⟨V,rfl,E,K⟩; have O:w.heap.size<=U.heap.size:=K.size; go_wp2_with fail
  refine(sort_any w.heap.size V n L U E N O).mono ?_; rintro e d ⟨rfl,F,Q⟩; go_wp2_with fail
  refine(compact_any w.heap.size V n _ d F N).mono ?_; rintro e f ⟨g,i,rfl,G,C,R⟩; have X:Lib.compact (L.mergeSort fun x y=>decide (x<=y))=Ids.qT L:=rfl; rw [X] at G C ⊢; have Y:eD w f:=(((dw _ w q).trans K).trans Q).trans R; obtain⟨m,S⟩:=eA ((Ids.qT L).length); have D:Hid (Ids.ey L=if 4<m then (none,4) else (some (Ids.qT L),0)):=hO (by
   unfold Ids.ey; rw [b.out,S]; rfl)
  rw [S] at G C ⊢; clear S X F E T; by_cases M:4<m
  .go_wp2_with fail
   go_ret2; exact⟨none,0,0,by rw [D.out,if_pos M]; rfl,by omega,by rw [D.out,if_pos M]; exact World.ownsRow_nil _ _ _ _,Y⟩
  .go_wp2_with fail
   go_ret2; exact⟨g,m,i,by rw [D.out,if_neg M]; rfl,G,by rw [D.out,if_neg M]; exact C,Y⟩
theorem jS(A:Option Addr) (n c:Nat) (L:List (List UInt8)) (x:List UInt8) (w:World) (h:Ts w A n L) (E:n<=9223372036854775807) :
  Calls prog 90 #[.slice A n c,.string (str x)] w fun e w'=>e=.returned (.bool (L.contains x))/\w'=w:=by
 have F:=h.len
 by_cases h0:n=0
 .subst h0
  obtain rfl:=List.eq_nil_of_length_eq_zero F; exact Tryz.slices_Contains_string_empty A c (str x) w
 .obtain⟨b,C,rfl,J,G⟩:=n8 h (by omega)
  refine(Tryz.slices_Contains_string b C n c (L.map str) (str x) w (by rw [List.length_map]; omega) E (fun j H=>?_)).mono ?_
  .have B:j<L.length:=by simpa using H
   rw [G j B]; congr 2
   rw [List.getD_eq_getElem?_getD,List.getElem?_map,List.getElem?_eq_getElem B]; rfl
  .rintro e w' ⟨rfl,rfl⟩
   refine⟨?_,rfl⟩; congr 2
   rw [List.take_of_length_le (by rw [List.length_map]; omega),Bool.eq_iff_iff,containsS_iff,List.contains_iff_mem]
   constructor
   .intro D
    obtain⟨y,I,e⟩:=List.mem_map.1 D; rw [<-sS e]; exact I
   .intro D
    exact List.mem_map.2 ⟨x,D,rfl⟩
end
section
open Go.RowKit Mem Led
theorem op_node(o:Led.Op) (sv kv:Value):∀ j u,(ac o.node)[j]?=some u->(ah o sv kv)[12+j]?=some u:=by
 intro j u h
 match j,h with
 | 0,h=>exact h
 | 1,h=>exact h
 | 2,h=>exact h
 | 3,h=>exact h
 | 4,h=>exact h
 | j+5,h=>simp [ac] at h
theorem mA{w:World} {g:Nat} {o:Led.Op} {sv kv:Value} (h:Blk w g (ah o sv kv) 47):(fL (.pointer (some ⟨g,12,none⟩))).run prog w=.ok (.agg (ac o.node).toArray) w :=
 cl underlying40 rfl oC rfl fun j u A=>by rw [h.cell]; exact op_node o sv kv j u A
theorem dt(n:Led.Node):∀ u∈ac n,u.oneCell'=true:=by
 intro u A
 simp [ac,tx,nm] at A
 rcases A with rfl|rfl|rfl|rfl|rfl <;> rfl
theorem tp(a b:Led.Node) (W:World):Calls prog 92 #[.agg (ac a).toArray,.agg (ac b).toArray] W fun e w'=>e=.returned (.int .i64 (cN a b))/\eD W w':=by
 have A:=fun W=>nf a.name b.name W
 have B:∀ o p,eD W ((W.alloc o).alloc p):=fun o p=>eH.alloc (by simp) _
 unfold cN
 show Calls prog 92 #[.agg #[.string (str a.name),.string (str a.key),.int .i64 a.expires,.int .i64 a.seq,.string (str a.doc)],.agg #[.string (str b.name),.string (str b.key),.int .i64 b.expires,.int .i64 b.seq,.string (str b.doc)]] W _
 generalize ord a.name b.name=v at *
 go_enter func92,ntmps92
 go_wp2_with fail
 refine(A _).mono ?_
 rintro e C ⟨rfl,rfl⟩
 go_wp2
 go_ret
 exact⟨rfl,B _ _⟩
def bK (base gl:Nat) (vN:Value) (N:List Led.Node) (A:List Txt) (n:Led.Node) (w:World) (x:Ending) (w':World):Prop :=
 if cI n then (if A.contains n.name then x=.returned (.int .i64 21)/\eD w w' else fI ac 5 40 base gl 1 vN (put cN 4 n N) w x w') else x=.returned (.int .i64 1)/\eD w w'
theorem ld{α:Type} {enc:α->List Value} {k:Nat} {e:TypeId} {base gl sl:Nat} {v:Value} {r:Option (List α)} {w W w':World} {x:Ending} (A:eD w W) (h:fI enc k e base gl sl v r W x w'):fI enc k e base gl sl v r w x w':=by
 unfold fI at h ⊢
 cases r with
 | none=>exact⟨h.1,A.trans (h.2.mono A.size)⟩
 | some L=>exact⟨h.1,mV A h.2⟩
theorem nQ(gl:Nat) (o:Led.Op) (sv kv:Value) (vs:List Value) (N:List Led.Node) (D:List Txt) (base:Nat) (vN vB:Value) (w:World) (q:o.node.name.length<=9223372036854775807) (r:N.length<=4) (hB:D.length<=8) (s:bd cN N) (M:base<=w.heap.size)
  (S:Blk w gl vs 30) (t:vs[1]?=some vN) (u:vs[2]?=some vB) (T:w.ownsRow base 40 5 vN N.length (af ac N)) (b:vN.ownBlock≠some gl) (G:w.ownsRow base 9 1 vB D.length (af aj D)) :
  Calls prog 46 #[.pointer (some ⟨gl,0,none⟩),.agg (ah o sv kv).toArray] w (bK base gl vN N D o.node w):=by
 obtain⟨AB,cB,rfl,z,Aa⟩:=ak G
 obtain⟨W,Z⟩:=eA (w.alloc (.cells (ah o sv kv).toArray 47))
 have j:Blk W w.heap.size (ah o sv kv) 47:=by rw [<-Z]; exact Blk.new w _ _
 have H:eD w W:=eF Z
 have c:=mA j
 have A:=node_any o.node W q
 have d:=hO Z
 clear Z
 obtain⟨CS,U⟩:=eA ((ah o sv kv).toArray)
 rw [U] at d ⊢
 clear U
 go_enter func46,ntmps46
 go_upto_region 1 with fail
 rw [d.out]
 clear d
 cases J:cI o.node
 .have Q:Hid (∀ w',eD w w'->bK base gl vN N D o.node w (.returned (.int .i64 1)) w'):=hO (fun w' h=>by unfold bK; rw [J]; exact⟨rfl,h⟩)
  rw [J] at A; clear J; go_wp2_with fail
  refine A.mono ?_; rintro e E ⟨rfl,I⟩; go_wp2; go_ret; exact Q.out _ (H.trans (I.mono H.size))
 .rw [J] at A
  go_wp2_with fail
  refine A.mono ?_; rintro e E ⟨rfl,I⟩; have f:=j.below I; have B:eD w E:=H.trans (I.mono H.size); have K:=S.below B; have k:∀ p,(ab E p).cell? ⟨gl,2,none⟩=some (.slice AB D.length cB):=fun p=>(ap (a:=⟨gl,2,none⟩) K.lt p).trans ((K.cell 2).trans u); have l:∀ p,(ab E p).cell? ⟨w.heap.size,12,none⟩=some (.string (str o.node.name)):=fun p=>(ap (a:=⟨w.heap.size,12,none⟩) f.lt p).trans (f.cell 12); have R:Hid (∀ p,Calls prog 90 #[.slice AB D.length cB,.string (str o.node.name)] (ab E p) fun e w'=>e=.returned (.bool (D.contains o.node.name))/\Below (ab E p).heap.size (ab E p) w'):=hO fun p =>
   (jS AB D.length cB D o.node.name _ (Ts.below (Ts.below (pb G) B) (aa E p)) (by omega)).mono fun e w' ⟨he,hw⟩=>⟨he,by rw [hw]; exact Below.refl _ _⟩
  clear c A
  cases F:D.contains o.node.name
  .have Q:Hid (∀ x w',fI ac 5 40 base gl 1 vN (put cN 4 o.node N) w x w'->bK base gl vN N D o.node w x w'):=hO (fun x w' h=>by unfold bK; rw [J,F]; exact h)
   rw [F] at R; clear F J; go_wp2_with fail
   refine az ?_; repeat (go_big_quiet_step (first|(go_at_call 90; exact aw (R.out _))|fail))
   refine wpQuiet_nil ?_; rintro _ ⟨V,rfl⟩; have X:=aa E V; clear k l R; generalize ab E V=O at *; have b2:=f.below X; have f3:∀ p,(fL (.pointer (some ⟨w.heap.size,12,none⟩))).run prog (ab O p)=.ok (.agg (ac o.node).toArray) (ab O p):=fun p=>mA (b2.below (aa O p)); go_wp2_with fail
   refine bp 5 ?_; simp only [List.take_succ_cons,List.take_zero,List.drop_succ_cons,List.drop_zero]; repeat (go_big_quiet_step (fail))
   refine wpQuiet_nil ?_; rintro _ ⟨g,rfl⟩; have g3:eD E (ab O g):=X.trans ((aa O g).mono X.size); clear f3; generalize ab O g=m at *; have C:eD w m:=B.trans (g3.mono B.size); have L:=putNod_any gl 1 92 (enters_of func92 (by kernel_rfl) rfl) cN qD o.node N s base vN 4 m r (by omega) vs 30 (S.below C) t (ae T C eG) b (Nat.le_trans M C.size) (fun y _=>dt y) (dt _) (fun W' y _ _=>tp y o.node W'); have i:=hO (L.mono fun x w' h=>ld C h); clear L; obtain⟨Y,hY⟩:=eA ((ac o.node).toArray); rw [hY] at i ⊢; go_wp2_with fail
   refine i.out.mono ?_; intro e w4 h; have h':=hO (Q.out e w4 h); clear i Q; unfold fI at h
   cases n:put cN 4 o.node N
   all_goals
    rw [n] at h; obtain⟨rfl,_⟩:=h; clear n; go_wp2; (try rw [am])
    (try go_wp2)
    go_ret; exact h'.out
  .have Q:Hid (∀ w',eD w w'->bK base gl vN N D o.node w (.returned (.int .i64 21)) w'):=hO (fun w' h=>by unfold bK; rw [J,F]; exact⟨rfl,h⟩)
   rw [F] at R; clear F J; go_wp2_with fail
   refine az ?_; repeat (go_big_quiet_step (first|(go_at_call 90; exact aw (R.out _))|fail))
   refine wpQuiet_nil ?_; rintro _ ⟨V,rfl⟩; have X:=aa E V; clear k l R; generalize ab E V=O at *; go_wp2_with fail
   go_ret; exact Q.out _ (B.trans (X.mono B.size))
end
end Go.Proofs.YtmbpnkacggngkaaGreatDoor
