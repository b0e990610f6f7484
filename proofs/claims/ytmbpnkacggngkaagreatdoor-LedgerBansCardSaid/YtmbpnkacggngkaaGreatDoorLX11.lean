/- JwkWr, JsonW, JsonK, JsonV, JsonT, JsonX, B64Spec, JwkSolo, JwkMask, JwkEnc, ShaKL, JwkText, ShaTurn, PshWord (put together by bundle.py: only what is needed). -/
import Derived.Test.YtmbpnkacggngkaaGreatDoorLX10
set_option maxRecDepth 100000
set_option maxHeartbeats 16000000
namespace Go.Proofs.YtmbpnkacggngkaaGreatDoor
open Batch
open Tryz
section
open Go.RowKit Mem
def aS (b:Nat) (w w':World):Prop:=Below b w w'/\∀ (g:Nat) (M:List Value) (e:TypeId),Blk w g M e->e≠5->g≠b->Blk w' g M e
theorem aS.refl(b:Nat) (w:World):aS b w w:=⟨Below.refl _ _,fun _ _ _ h _ _=>h⟩
theorem aS.trans{b:Nat} {w w' A:World} (h:aS b w w') (B:aS b w' A):aS b w A:=⟨h.1.trans B.1,fun g M e E C D=>B.2 g M e (h.2 g M e E C D) C D⟩
theorem aS.of_below{b:Nat} {w w':World} (h:eD w w') (A:b<=w.heap.size):aS b w w':=⟨h.mono A,fun _ _ _ B _ _=>B.below h⟩
def iQ (bs:List Value):Prop:=∀ u∈bs,∃ c:UInt8,u=.int .u8 (c.toNat:Int)
theorem iQ.one{bs:List Value} (h:iQ bs):∀ u∈bs,u.oneCell'=true:=fun u A=>by
 obtain⟨c,rfl⟩:=h u A
 rfl
theorem iQ.append{a c:List Value} (h:iQ a) (A:iQ c):iQ (a++c):=fun u B=>(List.mem_append.1 B).elim (h u) (A u)
theorem iQ.drop{a:List Value} (h:iQ a) (k:Nat):iQ (a.drop k):=fun u A=>h u (List.mem_of_mem_drop A)
theorem iQ.of_bv(l:List UInt8):iQ (bv l):=fun u A=>by
 obtain⟨c,_,rfl⟩:=List.mem_map.1 A
 exact⟨c,rfl⟩
theorem byte_of{c:Int} (h0:0<=c) (A:c<256):∃ x:UInt8,Value.int .u8 c=.int .u8 (x.toNat:Int):=by
 obtain⟨n,rfl⟩:=Int.eq_ofNat_of_zero_le h0
 refine⟨UInt8.ofNat n,?_⟩
 rw [UInt8.toNat_ofNat_of_lt' (by show n<256; omega)]
theorem iQ.bytes:∀ {bs:List Value},iQ bs->∃ l:List UInt8,bs=bv l
 | [],_=>⟨[],rfl⟩
 | u::bs,h=>by
  obtain⟨l,A⟩:=iQ.bytes (bs:=bs) fun x hx=>h x (List.mem_cons_of_mem _ hx); obtain⟨c,rfl⟩:=h u (List.mem_cons_self ..); exact⟨c::l,by rw [A]; rfl⟩
def WS (b n:Nat) (w:World):Prop:=b<w.heap.size/\∃ bs:List Value,bs.length=n/\iQ bs/\Lib.IsBuilder 216 5 b b bs w
theorem WS.below{b n:Nat} {w w':World} (h:WS b n w) (B:eD w w'):WS b n w':=by
 obtain⟨A,bs,D,C,hI⟩:=h
 refine⟨Nat.lt_of_lt_of_le A B.size,bs,D,C,?_⟩
 have key:∀ p,Lib.BuilderAt 216 5 b b p bs w->Lib.BuilderAt 216 5 b b p bs w':=fun p ⟨E,v,h2,h3,h4⟩=>⟨E,v,by rw [B.block b A]; exact h2,ae h3 B eG,h4⟩
 exact hI.imp (key _) (key _)
theorem kM(b:Nat) (bs:List Value) (w:World) (h:Lib.IsBuilder 216 5 b b bs w) :
  Calls prog 257 #[.pointer (some ⟨b,0,none⟩)] w fun e w'=>e=.returned (.tuple #[])/\Lib.BuilderAt 216 5 b b (.pointer (some ⟨b,0,none⟩)) bs w'/\aS b w w':=by
 rcases h with h|h
 .refine(ov b w h.cell0 h.shape h.frozen0).mono ?_
  rintro e w' ⟨rfl,rfl⟩; exact⟨rfl,h.used _,(Below.refl b w).setCell (p:=⟨b,0,none⟩) h.1 _,fun g M e A _ B=>A.set_ne (p:=⟨b,0,none⟩) B _⟩
 .refine(kL b w h.cell0).mono ?_
  rintro e w' ⟨rfl,rfl⟩; exact⟨rfl,h,aS.refl _ _⟩
theorem qh{b:Nat} {w G C:World} {v:Value} {bs:List Value} {x:Value} (H:b<=w.heap.size) (A:w.ownsRow b 5 1 v bs.length bs) (D:eD w G) (I:G.grownBy C v.ownBlock):aS b w (C.setCell ⟨b,1,none⟩ x):=by
 refine⟨?_,fun g M e J K E=>?_⟩
 .exact((D.mono H).grown I (Nat.le_trans H D.size) (fun k L=>(A.lt k L).1)).setCell (p:=⟨b,1,none⟩) eG _
 .have N:v.ownBlock≠some g:=aC A J (fun e=>K e.symm)
  have F:Blk C g M e:=by
   have B:=J.below D; unfold Blk at *; rw [I.block g (Array.getElem?_eq_some_iff.1 B).1 (fun e=>N e.symm)]; exact B
  exact F.set_ne (p:=⟨b,1,none⟩) E _
theorem df(b n:Nat) (c:Int) (w:World) (h:WS b n w) (f:n<=1000000) (G:0<=c:=by omega) (H:c<256:=by omega) :
  Calls prog 227 #[.pointer (some ⟨b,0,none⟩),.int .u8 c] w fun e w'=>e=.returned .nilIface/\WS b (n+1) w'/\aS b w w':=by
 obtain⟨L,bs,rfl,M,hI⟩:=h
 have N:iQ [Value.int .u8 c]:=fun u i=>by
  rw [List.mem_singleton.1 i]; exact byte_of G H
 obtain⟨j,hi,O,Q,R⟩:=al qi
 go_enter func227,ntmps227
 go_wp2_with fail
 refine(kM b bs _ hI).mono ?_
 rintro e F ⟨rfl,k,I⟩
 obtain⟨l,v,C,E,S⟩:=k
 have s:F.cell? ⟨b,0,none⟩=some (.pointer (some ⟨b,0,none⟩)):=by rw [Lib.cell_of_heap C]; rfl
 have t:F.cell? ⟨b,1,none⟩=some v:=by rw [Lib.cell_of_heap C]; rfl
 have J:b<=F.heap.size:=Nat.le_trans (Nat.le_of_lt L) I.1.size
 have U:bs.length+1<=maxLen:=by unfold maxLen; omega
 go_wp2_with (at_builtin; go_must (refine bi rfl (.tmp 11) (.tmp 13) 62 rfl b j (.int .u8 0) 1 underlying62 hi O Q R rfl _ _ _ rfl E rfl rfl U (by omega) J ?_))
 intro m o K A y z B
 have V:b<F.heap.size:=by
  rcases Nat.lt_or_ge b F.heap.size with X|X
  .exact X
  .simp [Array.getElem?_eq_none X] at C
 have D:K.heap[b]?=some (.cells #[.pointer (some ⟨b,0,none⟩),v] 216 (0,0)):=by
  rw [B.block b (by simp; omega) (fun e=>S e.symm),Lib.alloc_old F _ b V]
  exact C
 have d0:K.cell? ⟨b,0,none⟩=some (.pointer (some ⟨b,0,none⟩)):=by rw [Lib.cell_of_heap D]; rfl
 have d1:K.cell? ⟨b,1,none⟩=some v:=by rw [Lib.cell_of_heap D]; rfl
 have f1:K.frozen? ⟨b,1,none⟩=false:=Lib.frozen_of_heap D 1
 obtain⟨g,cap,Y⟩:∃ g cap,Value.slice m (bs.length+1) o=.slice (some ⟨g,0,none⟩) (bs.length+1) cap:=by
  rcases A.2 with⟨_,h0⟩|⟨g,cap,q,r,_⟩
  .omega
  .exact⟨g,cap,r⟩
 rw [Y] at A ⊢
 have Z:=qh (x:=.slice (some ⟨g,0,none⟩) (bs.length+1) cap) J E eH B
 have d:b<K.heap.size:=by have:=B.size; simp at this; omega
 clear G H
 go_wp2
 go_ret
 refine⟨rfl,⟨by simpa using d,bs++[.int .u8 c],by simp,M.append N,.inr ?_⟩,I.trans Z⟩
 exact Lib.BuilderAt.put (T:=216) (e:=5) l D (bs':=bs++[.int .u8 c]) (by simpa using A) (by decide)
theorem wbytes_any(b n g A m I:Nat) (M:List Value) (e:TypeId) (w:World) (h:WS b n w) (q:n<=1000000) (hm:1<=m) (s:m<=1000) (Q:Blk w g M e) (t:e≠5) (y:g≠b) (hM:M.length=A+m) (J:iQ M) :
  Calls prog 260 #[.pointer (some ⟨b,0,none⟩),.slice (some ⟨g,A,none⟩) m I] w fun x w'=>x=.returned (.tuple #[.int .i64 (m:Int),.nilIface])/\WS b (n+m) w'/\aS b w w':=by
 obtain⟨R,bs,rfl,S,hI⟩:=h
 have z:=J.one
 obtain⟨i0,hi,U,V,X⟩:=al qi
 go_enter func260,ntmps260
 go_wp2_with fail
 refine(kM b bs _ hI).mono ?_
 rintro x F ⟨rfl,Y,H⟩
 obtain⟨hB,v,D,G,Z⟩:=Y
 have K:=H.2 g M e Q t y
 have c0:F.cell? ⟨b,0,none⟩=some (.pointer (some ⟨b,0,none⟩)):=by rw [Lib.cell_of_heap D]; rfl
 have c1:F.cell? ⟨b,1,none⟩=some v:=by rw [Lib.cell_of_heap D]; rfl
 have L:b<=F.heap.size:=Nat.le_trans (Nat.le_of_lt R) H.1.size
 have c:bs.length+m<=maxLen:=by unfold maxLen; omega
 have d:Vs F F.heap.size 1 (some ⟨g,A,none⟩) m (M.drop A):=⟨by rw [List.length_drop]; omega,fun j u r=>⟨_,rfl,K.lt,by
  rw [show (⟨g,A,none⟩:Addr).add j=⟨g,A+j,none⟩ by simp [Addr.add],K.cell]; rw [List.getElem?_drop] at r; exact r⟩⟩
 go_wp2_with (at_builtin; go_must (refine au F rfl (.tmp 12) (.tmp 13) 62 rfl b 5 i0 (.int .u8 0) 1 1 underlying62 hi U V X rfl (by omega) _ _ _ rfl G _ _ m _ _ rfl d (fun u hu=>z u (List.mem_of_mem_drop hu)) c (by omega) L ?_))
 intro A' c' N B g1 g2 C
 have f:b<F.heap.size:=by
  rcases Nat.lt_or_ge b F.heap.size with i|i
  .exact i
  .simp [Array.getElem?_eq_none i] at D
 have E:N.heap[b]?=some (.cells #[.pointer (some ⟨b,0,none⟩),v] 216 (0,0)):=by
  rw [C.block b f (fun e=>Z e.symm)]; exact D
 have d0:N.cell? ⟨b,0,none⟩=some (.pointer (some ⟨b,0,none⟩)):=by rw [Lib.cell_of_heap E]; rfl
 have d1:N.cell? ⟨b,1,none⟩=some v:=by rw [Lib.cell_of_heap E]; rfl
 have f1:N.frozen? ⟨b,1,none⟩=false:=Lib.frozen_of_heap E 1
 obtain⟨g',cap,k⟩:∃ g cap,Value.slice A' (bs.length+m) c'=.slice (some ⟨g,0,none⟩) (bs.length+m) cap:=by
  rcases B.2 with⟨_,h0⟩|⟨g,cap,Aa,hv,_⟩
  .omega
  .exact⟨g,cap,hv⟩
 rw [k] at B ⊢
 have l:=qh (x:=.slice (some ⟨g',0,none⟩) (bs.length+m) cap) L G (Below.refl _ _) C
 have o:b<N.heap.size:=by have:=C.size; omega
 have O:(bs++M.drop A).length=bs.length+m:=by rw [List.length_append,List.length_drop]; omega
 go_wp2
 go_ret2
 refine⟨rfl,⟨by simpa using o,bs++M.drop A,O,S.append (J.drop A),.inr ?_⟩,H.trans l⟩
 exact Lib.BuilderAt.put (T:=216) (e:=5) hB E (bs':=bs++M.drop A) (by rw [O]; exact B) (by decide)
theorem kg(b n:Nat) (w:World) (h:WS b n w):Calls prog 201 #[.pointer (some ⟨b,0,none⟩)] w fun e w'=>e=.returned (.int .i64 (n:Int))/\w'=w:=by
 obtain⟨F,bs,rfl,G,hI⟩:=h
 obtain⟨p,L,v,C,B,D⟩:∃ p,Lib.BuilderAt 216 5 b b p bs w:=by
  rcases hI with h|h
  .exact⟨_,h⟩
  .exact⟨_,h⟩
 have M:w.cell? ⟨b,1,none⟩=some v:=by rw [Lib.cell_of_heap C]; rfl
 obtain⟨A,m,c,E,H⟩:∃ A m c,v=.slice A m c/\m=bs.length:=by
  rcases B.2 with⟨I,J⟩|⟨g,cap,K,E,_⟩
  .exact⟨none,0,0,I,J.symm⟩
  .exact⟨_,_,_,E,rfl⟩
 subst E H
 clear B D C hI
 go_enter func201,ntmps201
 go_wp2
 go_ret
 exact⟨rfl,rfl⟩
theorem wstr_any(b n:Nat) (w:World) (h:WS b n w) (J:0<n):Calls prog 202 #[.pointer (some ⟨b,0,none⟩)] w fun e w'=>(∃ l:List UInt8,l.length=n/\e=.returned (.string ⟨l.toArray⟩))/\Below b w w':=by
 obtain⟨K,bs,I,C,hI⟩:=h
 obtain⟨l,rfl⟩:=C.bytes
 rw [eo] at I
 subst I
 obtain⟨p,T,v,D,B,L⟩:∃ p,Lib.BuilderAt 216 5 b b p (bv l) w:=by
  rcases hI with h|h
  .exact⟨_,h⟩
  .exact⟨_,h⟩
 rw [eo] at B
 obtain⟨g,cap,A,rfl,E,M,N,F,O,G⟩:∃ g cap A,v=.slice (some ⟨g,0,none⟩) l.length cap/\b<=g/\w.heap[g]?=some (.cells A 5 (0,0))/\l.length<=cap/\cap<=maxLen/\A.size=cap * 1/\A.toList.take (l.length * 1)=bv l:=by
  rcases B.2 with⟨_,U⟩|⟨g,cap,A,Q,r⟩
  .omega
  .exact⟨g,cap,A,Q,r⟩
 have V:w.drew.cell? ⟨b,1,none⟩=some (.slice (some ⟨g,0,none⟩) l.length cap):=by
  have:w.drew.heap[b]?=some (.cells #[p,.slice (some ⟨g,0,none⟩) l.length cap] 216 (0,0)):=D; rw [Lib.cell_of_heap this]; rfl
 have R:(Builtin.unsafeSliceData_ #[62] 247 #[.slice (some ⟨g,0,none⟩) l.length cap]).run prog w.drew=.ok (.pointer (some ⟨g,0,none⟩)) w.drew :=
  Lib.run_unsafeSliceData_row _ _ _ _ _ _ (by omega)
 have S:(Builtin.unsafeString_ #[247,3] 9 #[.pointer (some ⟨g,0,none⟩),.int .i64 l.length]).run prog w.drew=.ok (.string ⟨l.toArray⟩) (w.drew.freeze ⟨g,0,none⟩ l.length):=by
  refine Lib.run_unsafeString_row w.drew 247 3 9 5 underlying247 (by kernel_rfl) g A.size (by have H:w.drew.heap[g]?=some (.cells A 5 (0,0)):=M; simp [World.shape?,H]) l (fun e=>by simp [e] at J) (by omega) (by unfold maxLen at F; omega) ?_
  intro j x hx; exact B.cells (g:=g) rfl j (.int .u8 x.toNat) (by simp [bv,hx])
 have mixed:prog.follows Departure.mixedOrders=true:=by kernel_rfl
 go_enter func202,ntmps202
 go_wp2
 go_region_o
 all_goals (go_wp2; go_ret; exact⟨⟨l,rfl,rfl⟩,Lib.below_freeze (Below.drew (Below.refl b w)) (p:=⟨g,0,none⟩) E _⟩)
end
section
open Go.RowKit Mem Led
def lz (t:Txt):Prop:=∀ c∈t,32<=c.toNat/\c.toNat≠34/\c.toNat≠92
theorem rZ(t:Txt) (j:Nat) (h:j<t.length) (w:World):(Instr.index 9 (.string (str t)) (.int .i64 (j:Int))).run prog w=.ok (.int .u8 ((t[j].toNat:Nat):Int)) w:=by
 have A:=aJ t
 have B:(0:Int)<=(j:Int)/\(j:Int)<((str t).size:Int):=⟨by omega,by rw [A]; omega⟩
 refine(run_index_string _ _ _ _ _ underlying9).trans ?_
 rw [dif_pos B]
 have:(str t)[((j:Int)).toNat]'(by omega)=t[j]:=by
  simp [str,ByteArray.getElem_eq_getElem_data]
 rw [this]
theorem mO(b n:Nat) (t:Txt) (w:World) (h:WS b n w) (S:n<=900000) (T:t.length<=1000) (ht:lz t) :
  Calls prog 236 #[.pointer (some ⟨b,0,none⟩),.string (str t)] w fun e w'=>e=.returned (.tuple #[])/\WS b (n+t.length+2) w'/\aS b w w':=by
 have U:=aJ t
 have h0:=df b n 34 w h (by omega)
 have N:=hO ht
 clear ht
 go_enter func236,ntmps236
 go_wp2_with fail
 refine h0.mono ?_
 rintro e V ⟨rfl,C,D⟩
 clear h0
 go_wp2_with fail
 go_loopw [4,5,12] (fun _ _ i wx=>∃ j:Nat,j<=t.length/\i=.int .i64 (j:Int)/\WS b (n+1+j) wx/\aS b w wx) (fun _ _ i _=>t.length - (intOf i).toNat)
 case atStart=>exact⟨0,by omega,rfl,C,D⟩
 case round =>
  clear C D; obtain⟨j,X,rfl,F,G⟩:=hrel; obtain⟨wx,H⟩:∃ wx,wx=wr:=⟨_,rfl⟩; subst H; by_cases E:j<t.length
  .have I:=fun W=>rZ t j E W
   obtain⟨Y,Z,d⟩:=N.out _ (List.getElem_mem E); have f:=t[j].toNat_lt; generalize t[j].toNat=c at *; have L:=df b (n+1+j) (c:Int) wx F (by omega); have g:decide ((c:Int)<32)=false:=by simp; omega
   have k:((c:Int)==34)=false:=by simp; omega
   have l:((c:Int)==92)=false:=by simp; omega
   have m:¬ (c:Int)<32:=by omega
   go_wp2_with fail
   refine L.mono ?_; rintro e O ⟨rfl,B,A⟩; have J:=G.trans A; clear L I F G A; go_wp2_with fail
   go_roundw
   case rel=>exact⟨j+1,by omega,by go_num,B,J⟩
   case measure=>simp [intOf]; omega
  .have K:j=t.length:=by omega
   have M:(t.length:Int)<=(j:Int):=by omega
   have Q:=df b (n+1+j) 34 wx F (by omega); have R:=hO (show n+1+j+1=n+t.length+2 by omega); clear K; go_wp2_with fail
   refine Q.mono ?_; rintro e O ⟨rfl,B,A⟩; go_wp2; go_end0
   exact⟨rfl,by rw [<-R.out]; exact B,G.trans A⟩
theorem WS.set{b n g o:Nat} {w:World} {M:List Value} {e:TypeId} (h:WS b n w) (C:Blk w g M e) (D:e≠5) (E:g≠b) (x:Value):WS b n (w.setCell ⟨g,o,none⟩ x):=by
 obtain⟨A,bs,F,B,hI⟩:=h
 refine⟨by simpa using A,bs,F,B,?_⟩
 have key:∀ p,Lib.BuilderAt 216 5 b b p bs w->Lib.BuilderAt 216 5 b b p bs (w.setCell ⟨g,o,none⟩ x):=fun p ⟨G,v,h2,h3,h4⟩=>⟨G,v,by rw [heap_setCell_other w ⟨g,o,none⟩ b x (fun e=>E e.symm)]; exact h2,dh h3 (aC h3 C (fun e=>D e.symm)),h4⟩
 exact hI.imp (key _) (key _)
theorem ten_div{M k:Nat} (A:k<16) (h:M<10 ^ (16 - k)):M / 10<10 ^ (16 - (k+1)):=by
 rw [Nat.div_lt_iff_lt_mul (by omega),<-Nat.pow_succ]
 rw [show (16 - (k+1)).succ=16 - k by omega]
 exact h
theorem sliceA16(g A:Nat) (h:A<=15) (W:World):(Instr.sliceAt 272 (.pointer (some ⟨g,0,none⟩)) (some (.int .i64 (A:Int))) none none).run prog W=.ok (.slice (some ⟨g,A,none⟩) (16 - A) (16 - A)) W:=by
 have:A=0\/A=1\/A=2\/A=3\/A=4\/A=5\/A=6\/A=7\/A=8\/A=9\/A=10\/A=11\/A=12\/A=13\/A=14\/A=15:=by omega
 rcases this with rfl|rfl|rfl|rfl|rfl|rfl|rfl|rfl|rfl|rfl|rfl|rfl|rfl|rfl|rfl|rfl <;> rfl
theorem wnum_any(b n m:Nat) (w:World) (h:WS b n w) (hn:n<=900000) (hm:m<10 ^ 16) :
  Calls prog 235 #[.pointer (some ⟨b,0,none⟩),.int .i64 (m:Int)] w fun e w'=>e=.returned (.tuple #[])/\∃ n',n'<=n+16/\WS b n' w'/\aS b w w':=by
 have f:m<10000000000000000:=hm
 have O:=h.1
 have Af:¬ (m:Int)<0:=by omega
 have d:=Blk.new w (bv (List.replicate 16 0)) 272
 have B:eD w (w.alloc (.cells (bv (List.replicate 16 0)).toArray 272)):=eH
 obtain⟨j,G⟩:=eC (w.alloc (.cells #[.int .u8 0,.int .u8 0,.int .u8 0,.int .u8 0,.int .u8 0,.int .u8 0,.int .u8 0,.int .u8 0,.int .u8 0,.int .u8 0,.int .u8 0,.int .u8 0,.int .u8 0,.int .u8 0,.int .u8 0,.int .u8 0] 272))
 have d:Blk j w.heap.size (bv (List.replicate 16 0)) 272:=by rw [<-G.out]; exact d
 have B:eD w j:=by rw [<-G.out]; exact B
 have Q:=h.below B
 have R:aS b w j:=aS.of_below B (Nat.le_of_lt O)
 go_enter func235,ntmps235
 go_upto_region 4 with fail
 rw [G.out]
 go_wp2_with fail
 go_loopw [1,5] (fun v i wx=>∃ (k M:Nat) (C:List Value),k<=15/\Hid (M<10 ^ (16 - k))/\(k=0\/0<M)/\M<10000000000000000/\v=.int .i64 (M:Int)/\i=.int .i64 (16 - (k:Int))/\WS b n wx/\aS b w wx/\Blk wx w.heap.size C 272/\C.length=16/\Hid (iQ C)) (fun _ i _=>(intOf i).toNat)
 case atStart=>exact⟨0,m,_,by omega,hO hm,.inl rfl,f,rfl,rfl,Q,R,d,rfl,hO (iQ.of_bv _)⟩
 case round =>
  clear Q R d B; obtain⟨k,M,C,hk,HM,Al,hM,rfl,rfl,hw,l,N,hC,HC⟩:=hrel; obtain⟨wx,o⟩:∃ wx,wx=wr:=⟨_,rfl⟩; subst o; obtain⟨A,Am⟩:∃ A:Nat,15 - k=A:=⟨_,rfl⟩; have e1:(16 - (k:Int)) - 1=(A:Int):=by omega
  have S:A<=15:=by omega
  obtain⟨q,s⟩:=eA (M / 10); have t:q<10000000000000000:=by omega
  have An:Int.tdiv (M:Int) 10=(q:Int):=by rw [<-s]; exact il M 10
  obtain⟨r,hr⟩:=eA (M % 10); have Ag:r<10:=by omega
  have Ao:Int.tmod (M:Int) 10=(r:Int):=by rw [<-hr]; exact fu M 10
  have Ah:(M:Int) / 10=(q:Int):=by omega
  have Ai:(M:Int) % 10=(r:Int):=by omega
  obtain⟨u0,T⟩:∃ u,C[A]?=some u:=⟨_,List.getElem?_eq_getElem (by omega)⟩; have Ap:wx.cell? ⟨w.heap.size,A,none⟩=some u0:=(N.cell A).trans T; have Aq:wx.frozen? ⟨w.heap.size,A,none⟩=false:=N.froz _; have Aj:=N.lt; have HQ:=hO (by rw [<-s]; exact ten_div (show k<16 by omega) HM.out:q<10 ^ (16 - (k+1)))
  have Ak:IntKind.i64.wrap ((16:Int) - (k:Int) - 1)=(A:Int):=by rw [IntKind.wrap_i64]; omega
  clear T s hr; have H:aS b w (wx.setCell ⟨w.heap.size,A,none⟩ (.int .u8 (48+(r:Int)))):=⟨l.1.setCell (p:=⟨w.heap.size,A,none⟩) (Nat.le_of_lt O) _,fun g M' e U he hg=>(l.2 g M' e U he hg).set_ne (p:=⟨w.heap.size,A,none⟩) (by have:=U.lt; simp; omega) _⟩
  have I:WS b n (wx.setCell ⟨w.heap.size,A,none⟩ (.int .u8 (48+(r:Int)))):=hw.set N (by decide) (by omega) _; have D:=N.set A (.int .u8 (48+(r:Int))); have J:(C.set A (.int .u8 (48+(r:Int)))).length=16:=by rw [List.length_set]; exact hC
  have K:iQ (C.set A (.int .u8 (48+(r:Int)))):=fun u hu=>by
   rcases List.mem_or_eq_of_mem_set hu with h|h
   .exact HC.out u h
   .rw [h]; exact byte_of (by omega) (by omega)
  by_cases y:q=0
  .subst y
   have HH:=hO (show WS b n (wx.setCell ⟨w.heap.size,A,none⟩ (.int .u8 (48+(r:Int))))/\Blk (wx.setCell ⟨w.heap.size,A,none⟩ (.int .u8 (48+(r:Int)))) w.heap.size (C.set A (.int .u8 (48+(r:Int)))) 272/\(C.set A (.int .u8 (48+(r:Int)))).length=16/\iQ (C.set A (.int .u8 (48+(r:Int)))) from⟨I,D,J,K⟩); have L:w.heap.size<(wx.setCell ⟨w.heap.size,A,none⟩ (.int .u8 (48+(r:Int)))).heap.size:=D.lt; have z:=fun W=>sliceA16 w.heap.size A S W; have E:=hO H; clear H I D J K hw l N; go_upto_region 9 with fail
   generalize wx.setCell ⟨w.heap.size,A,none⟩ (.int .u8 (48+(r:Int)))=wy at *; refine bp 5 ?_; simp only [List.take_succ_cons,List.take_zero,List.drop_succ_cons,List.drop_zero]; repeat (go_big_quiet_step (fail))
   refine wpQuiet_nil ?_; rintro _ ⟨p,rfl⟩; have F:=aa wy p; have V:aS b wy (ab wy p):=aS.of_below F (by have:=L; omega)
   obtain⟨X,Y,Z,c⟩:=HH.out; have Aa:=wbytes_any b n w.heap.size A (16 - A) (16 - A) _ _ _ (X.below F) (by omega) (by omega) (by omega) (Y.below F) (by decide) (by omega) (by rw [Z]; omega) c
   have Ab:=E.out.trans V; clear z E F V X Y Z c HH; generalize ab wy p=wz at *; go_wp2_with fail
   refine Aa.mono ?_; rintro x w5 ⟨rfl,Ac,Ad⟩; go_wp2; (try rw [am])
   (try go_wp2)
   go_end0
   exact⟨rfl,n+(16 - A),by omega,Ac,Ab.trans Ad⟩
  .have Ar:((q:Int)==0)=false:=by simp; omega
   have E:=hO H; go_wp2_with fail
   go_roundw
   case rel=>exact⟨k+1,q,_,by(have:=HQ.out; rcases Nat.lt_or_ge k 15 with h|h; omega; (have Ae:k=15:=by omega); subst Ae; simp at this; omega),HQ,.inr (by omega),t,rfl,by rw [show (16 - ((k+1:Nat):Int))=(A:Int) by omega],I,E.out,D,J,hO K⟩
   case measure=>simp [intOf]; omega
end
section
open Go.RowKit Mem Led
def fi (A:JsV->Nat) (L:List JsV):Nat:=(L.map A).sum
theorem rA(A:JsV->Nat) {L:List JsV} {j:Nat} (h:j<L.length):fi A (L.take (j+1))=fi A (L.take j)+A L[j]:=by
 unfold fi
 rw [List.take_add_one,List.getElem?_eq_getElem h,Option.toList_some,List.map_append,List.sum_append]
 simp
theorem sumW_le(A:JsV->Nat) (L:List JsV) (j:Nat):fi A (L.take j)<=fi A L:=by
 have:fi A L=fi A (L.take j)+fi A (L.drop j):=by
  unfold fi; rw [<-List.sum_append,<-List.map_append,List.take_append_drop]
 omega
theorem kn{w:World} {g:Nat} {cs vs:List Value} {t:TypeId} (h:Blk w g cs t) (A:cs.length=5) (B:vs.length=5) (D:∀ v∈vs,v.oneCell'=true) :
  (stJs (.pointer (some ⟨g,0,none⟩)) (.agg vs.toArray)).run prog w=.ok () (w.setCells g 0 vs)/\Blk (w.setCells g 0 vs) g vs t:=by
 have E:=bE (P:=prog) w 197 g 0 5 mW vs.toArray ⟨by simpa using B,by simpa using D⟩ (ev h A) (fun j _=>h.froz _)
 have C:=iy vs w g 0 cs t h (by omega)
 simp [B,<-A] at C
 exact⟨E,C⟩
theorem ia(k:JsV) (B:k.names.oneCell'=true) (C:k.kids.oneCell'=true):∀ u∈ar k,u.oneCell'=true:=by
 intro u A
 simp only [ar,List.mem_cons,List.not_mem_nil,or_false] at A
 rcases A with rfl|rfl|rfl|rfl|rfl
 .rfl
 .rfl
 .rfl
 .exact B
 .exact C
theorem ldJs_vs{w:World} {B:Nat} {A:Option Addr} {n:Nat} {L:List JsV} (h:Vs w B 5 A n (af ar L)) {i:Nat} (hi:i<L.length) :
  ∃ b C,A=some ⟨b,C,none⟩/\b<B/\∀ w',Below B w w'->(mC (.pointer (some ⟨b,C+i * 5,none⟩))).run prog w'=.ok (.agg (ar L[i]).toArray) w':=by
 obtain⟨b,C,H,F,I⟩:=Vs.lit h (by rw [aQ eh]; omega)
 refine⟨b,C,H,F,fun w' D=>cl underlying197 rfl mW (eh _) fun j u G=>?_⟩
 have E:j<5:=by
  have:=(List.getElem?_eq_some_iff.1 G).1; rwa [eh] at this
 have J:=I (i * 5+j) u (by rw [jF eh hi E,G])
 rw [show C+i * 5+j=C+(i * 5+j) by omega,D.cell (p:=⟨b,C+(i * 5+j),none⟩) F]
 exact J
theorem names_at{w:World} {B:Nat} {A:Option Addr} {n:Nat} {D:List Txt} (h:Vs w B 1 A n (tv D)) {i:Nat} (hi:i<D.length) :
  ∃ b C,A=some ⟨b,C,none⟩/\∀ w',Below B w w'->w'.cell? ⟨b,C+i,none⟩=some (.string (str D[i])):=by
 have hx:(tv D)[i]?=some (.string (str D[i])):=by unfold tv; rw [List.getElem?_map,List.getElem?_eq_getElem hi]; rfl
 have F:0<(tv D).length:=by
  have:=(List.getElem?_eq_some_iff.1 hx).1; omega
 obtain⟨b,C,G,H,I⟩:=Vs.lit h F
 exact⟨b,C,G,fun w' E=>by rw [E.cell (p:=⟨b,C+i,none⟩) H]; exact I i _ hx⟩
theorem wkids_4(b n:Nat) (w:World) (A:Option Addr) (E c:Nat) (L:List JsV) (I:JsV->Nat) (h:WS b n w) (hL:L.length=E) (hE:Vs w b 5 A E (af ar L)) (Aa:∀ k∈L,k.names.oneCell'=true/\k.kids.oneCell'=true) (hn:n+2+fi I L+1 * L.length<=2000) (hl:E<=100)
  (hk:∀ k∈L,∀ J n',aS b w J->WS b n' J->n'+I k<=2000->Calls prog 200 #[.pointer (some ⟨b,0,none⟩),.agg (ar k).toArray] J fun e Ab=>e=.returned (.tuple #[])/\∃ Ac,Ac<=n'+I k/\WS b Ac Ab/\aS b J Ab) :
  Calls prog 237 #[.pointer (some ⟨b,0,none⟩),.agg #[.int .i64 4,.int .i64 0,.string ⟨#[]⟩,.slice none 0 0,.slice A E c]] w fun e w'=>e=.returned (.tuple #[])/\∃ n',0<n'/\n'<=n+2+fi I L+1 * L.length/\WS b n' w'/\aS b w w':=by
 have A3:str []=⟨#[]⟩:=rfl
 have Ad:=h.1
 obtain⟨W,hW⟩:=eA (w.alloc (.cells (ar ⟨4,0,[],.slice none 0 0,.slice A E c⟩).toArray 197))
 have B0:Blk W w.heap.size (ar ⟨4,0,[],.slice none 0 0,.slice A E c⟩) 197:=by rw [<-hW]; exact Blk.new _ _ _
 have R:eD w W:=eF hW
 have Ae:aS b w W:=aS.of_below R (Nat.le_of_lt Ad)
 have Af:=h.below R
 have HW:Hid (w.alloc (.cells #[.int .i64 4,.int .i64 0,.string ⟨#[]⟩,.slice none 0 0,.slice A E c] 197)=W):=hO hW
 clear hW
 have k0:W.cell? ⟨w.heap.size,0,none⟩=some (.int .i64 4):=B0.cell 0
 have V:Hid (∀ p,Calls prog 227 #[.pointer (some ⟨b,0,none⟩),.int .u8 91] (ab W p) fun e w'=>e=.returned .nilIface/\WS b (n+1) w'/\aS b (ab W p) w'):=hO fun p=>df b n 91 _ (Af.below (aa W p)) (by omega)
 have A4:∀ J,(Instr.index 9 (.string ⟨#[91,93]⟩) (.int .i64 0)).run prog J=.ok (.int .u8 91) J:=fun J=>rfl
 have A1:∀ J,(Instr.index 9 (.string ⟨#[91,93]⟩) (.int .i64 1)).run prog J=.ok (.int .u8 93) J:=fun J=>rfl
 go_enter func237,ntmps237
 go_upto_region 1 with fail
 rw [HW.out]
 clear HW
 go_upto_region 4 with fail
 refine bp 5 ?_
 simp only [List.take_succ_cons,List.take_zero,List.drop_succ_cons,List.drop_zero]
 repeat (go_big_quiet_step (fail))
 refine wpQuiet_nil ?_
 rintro _ ⟨p,rfl⟩
 have X:=V.out p
 have S:aS b w (ab W p):=Ae.trans (aS.of_below (aa W p) (Nat.le_trans (Nat.le_of_lt Ad) R.size))
 have B1:=B0.below (aa W p)
 clear V Ae Af k0 R
 generalize ab W p=w1 at *
 go_wp2_with fail
 refine X.mono ?_
 rintro e w2 ⟨rfl,Ag,f⟩
 have Ah:=S.trans f
 have B2:=f.2 _ _ _ B1 (by decide) (by omega)
 have k4:w2.cell? ⟨w.heap.size,4,none⟩=some (.slice A E c):=B2.cell 4
 clear X S f B0 B1
 go_wp2_with fail
 (try rw [am])
 (try go_wp2_with fail)
 go_loopw [5,6,19] (fun _ _ i wx=>∃ (j m:Nat),j<=E/\i=.int .i64 (j:Int)/\Hid (m<=n+1+fi I (L.take j)+1 * j)/\WS b m wx/\aS b w wx/\Blk wx w.heap.size (ar ⟨4,0,[],.slice none 0 0,.slice A E c⟩) 197) (fun _ _ i _=>E - (intOf i).toNat)
 case atStart=>exact⟨0,n+1,by omega,rfl,hO (by simp [fi]),Ag,Ah,B2⟩
 case round =>
  clear Ag Ah B2 k4; obtain⟨j,m,hj,rfl,HM,g,hK,hB⟩:=hrel; obtain⟨wx,At⟩:∃ wx,wx=wr:=⟨_,rfl⟩; subst At; by_cases A5:j<E
  .have K:j<L.length:=by omega
   obtain⟨bk,ok,rfl,A6,Ai⟩:=ldJs_vs hE K; have G:=Ai wx hK.1; have Y:=rA I K; have Aj:=sumW_le I L (j+1); have Ak:=hO Y; have A7:m+I L[j]+1<=2000:=by
    have:=HM.out; have h3:1 * (j+1)<=1 * L.length:=Nat.mul_le_mul_left _ K; omega
   have hval:=hk L[j] (List.getElem_mem K); obtain⟨Au,Av⟩:=Aa L[j] (List.getElem_mem K); have Z:=hO hval; clear hval Y Aj Ai; generalize L[j]=l at *; have bn:=Blk.new wx (ar ⟨0,0,[],.slice none 0 0,.slice none 0 0⟩) 197; obtain⟨o,q⟩:=kn bn (vs:=ar l) rfl rfl (ia l Au Av); obtain⟨w3,r⟩:=eA ((wx.alloc (.cells (ar ⟨0,0,[],.slice none 0 0,.slice none 0 0⟩).toArray 197)).setCells wx.heap.size 0 (ar l)); have Al:Chg [] wx w3:=by rw [<-r]; exact((Chg.refl _ _).alloc _).setCells _ (.inr eG)
   rw [r] at o q; have T:=Al.below (fun _ h=>by cases h); have s:b<=wx.heap.size:=Nat.le_of_lt g.1; have Am:aS b wx w3:=aS.of_below T s; have C:=g.below T; have D:=hB.below T; have Aw:wx.heap.size≠b:=by have:=g.1; omega
   have H:(stJs (.pointer (some ⟨wx.heap.size,0,none⟩)) (.agg (ar l).toArray)).run prog (wx.alloc (.cells #[.int .i64 0,.int .i64 0,.string ⟨#[]⟩,.slice none 0 0,.slice none 0 0] 197))=.ok () w3:=o; have A8:(j:Int)<(E:Int):=by omega
   clear o bn Al r T g; obtain⟨RK,M⟩:=eC ((ar l).toArray); rw [M.out] at H G; have B:=hK.trans Am; clear hK Am hB; by_cases An:j=0
   .have Ax:decide ((0:Int)<(j:Int))=false:=by simp; omega
    have Ay:(j:Int)<=0:=by omega
    clear An; have e0:w3.cell? ⟨w.heap.size,0,none⟩=some (.int .i64 4):=D.cell 0; have N:=bM q; rw [M.out] at N; have t:=Z.out w3 _ B C (by omega); rw [M.out] at t; have u:=hO (show m+I l<=n+1+fi I (L.take (j+1))+1 * (j+1) by have:=HM.out; have:=Ak.out; omega)
    clear C; go_wp2_with fail
    refine t.mono ?_; rintro e w7 ⟨rfl,n7,O,x,F⟩; have y:=F.2 _ _ _ D (by decide) (by omega); have Q:=B.trans F; have z:=hO (Nat.le_trans O u.out); clear t F N O D q B; (try clear H G)
    go_wp2_with fail
    go_roundw
    case rel=>exact⟨j+1,n7,by omega,by go_num,z,x,Q,y⟩
    case measure=>simp [intOf]; omega
   .have Ax:decide ((0:Int)<(j:Int))=true:=by simp; omega
    have Ay:(0:Int)<(j:Int):=by omega
    clear An; have d:=df b m 44 w3 C (by omega); go_wp2_with fail
    refine d.mono ?_; rintro e w4 ⟨rfl,Ao,U⟩; have D:=U.2 _ _ _ D (by decide) (by omega); have q:=U.2 _ _ _ q (by decide) Aw; have B:=B.trans U; have C:=Ao; clear d H G U Ao; have e0:w4.cell? ⟨w.heap.size,0,none⟩=some (.int .i64 4):=D.cell 0; have N:=bM q; rw [M.out] at N; have t:=Z.out w4 _ B C (by omega); rw [M.out] at t; have u:=hO (show m+1+I l<=n+1+fi I (L.take (j+1))+1 * (j+1) by have:=HM.out; have:=Ak.out; omega)
    clear C; go_wp2_with fail
    refine t.mono ?_; rintro e w7 ⟨rfl,n7,O,x,F⟩; have y:=F.2 _ _ _ D (by decide) (by omega); have Q:=B.trans F; have z:=hO (Nat.le_trans O u.out); clear t F N O D q B; (try clear H G)
    go_wp2_with fail
    go_roundw
    case rel=>exact⟨j+1,n7,by omega,by go_num,z,x,Q,y⟩
    case measure=>simp [intOf]; omega
  .have Ap:j=E:=by omega
   have A2:(E:Int)<=(j:Int):=by omega
   have Aq:=hO (show m+1<=n+2+fi I L+1 * L.length by
    have:=HM.out; rw [Ap,<-hL,List.take_length] at this; omega)
   have Ar:Hid (∀ p,Calls prog 227 #[.pointer (some ⟨b,0,none⟩),.int .u8 93] (ab wx p) fun e w'=>e=.returned .nilIface/\WS b (m+1) w'/\aS b (ab wx p) w'):=hO fun p=>df b m 93 _ (g.below (aa wx p)) (by have:=Aq.out; omega)
   have s:b<=wx.heap.size:=Nat.le_of_lt g.1; clear Ap; go_upto_region 15 with fail
   refine bp 5 ?_; simp only [List.take_succ_cons,List.take_zero,List.drop_succ_cons,List.drop_zero]; repeat (go_big_quiet_step (fail))
   refine wpQuiet_nil ?_; rintro _ ⟨p,rfl⟩; have As:=Ar.out p; have S:=hK.trans (aS.of_below (aa wx p) s); clear Ar hK hB g; generalize ab wx p=wy at *; go_wp2_with fail
   refine As.mono ?_; rintro e w9 ⟨rfl,Az,A0⟩; go_wp2; (try rw [am])
   (try go_wp2)
   go_end0
   exact⟨rfl,m+1,Nat.succ_pos _,Aq.out,Az,S.trans A0⟩
theorem wkids_5(b n:Nat) (w:World) (A:Option Addr) (D c:Nat) (L:List JsV) (M:JsV->Nat) (A':Option Addr) (z:Nat) (ns:List Txt) (hT:Vs w b 1 A' D (tv ns)) (Am:∀ x∈ns,lz x/\x.length<=6) (h:WS b n w) (hL:L.length=D) (hE:Vs w b 5 A D (af ar L)) (An:∀ k∈L,k.names.oneCell'=true/\k.kids.oneCell'=true) (hn:n+2+fi M L+10 * L.length<=2000) (hl:D<=100)
  (hk:∀ k∈L,∀ N n',aS b w N->WS b n' N->n'+M k<=2000->Calls prog 200 #[.pointer (some ⟨b,0,none⟩),.agg (ar k).toArray] N fun e Ao=>e=.returned (.tuple #[])/\∃ Ap,Ap<=n'+M k/\WS b Ap Ao/\aS b N Ao) :
  Calls prog 237 #[.pointer (some ⟨b,0,none⟩),.agg #[.int .i64 5,.int .i64 0,.string ⟨#[]⟩,.slice A' D z,.slice A D c]] w fun e w'=>e=.returned (.tuple #[])/\∃ n',0<n'/\n'<=n+2+fi M L+10 * L.length/\WS b n' w'/\aS b w w':=by
 have AG:str []=⟨#[]⟩:=rfl
 have Aq:=h.1
 obtain⟨W,hW⟩:=eA (w.alloc (.cells (ar ⟨5,0,[],.slice A' D z,.slice A D c⟩).toArray 197))
 have B0:Blk W w.heap.size (ar ⟨5,0,[],.slice A' D z,.slice A D c⟩) 197:=by rw [<-hW]; exact Blk.new _ _ _
 have f:eD w W:=eF hW
 have Ar:aS b w W:=aS.of_below f (Nat.le_of_lt Aq)
 have As:=h.below f
 have HW:Hid (w.alloc (.cells #[.int .i64 5,.int .i64 0,.string ⟨#[]⟩,.slice A' D z,.slice A D c] 197)=W):=hO hW
 clear hW
 have k0:W.cell? ⟨w.heap.size,0,none⟩=some (.int .i64 5):=B0.cell 0
 have q:Hid (∀ p,Calls prog 227 #[.pointer (some ⟨b,0,none⟩),.int .u8 123] (ab W p) fun e w'=>e=.returned .nilIface/\WS b (n+1) w'/\aS b (ab W p) w'):=hO fun p=>df b n 123 _ (As.below (aa W p)) (by omega)
 have AH:∀ N,(Instr.index 9 (.string ⟨#[123,125]⟩) (.int .i64 0)).run prog N=.ok (.int .u8 123) N:=fun N=>rfl
 have AE:∀ N,(Instr.index 9 (.string ⟨#[123,125]⟩) (.int .i64 1)).run prog N=.ok (.int .u8 125) N:=fun N=>rfl
 go_enter func237,ntmps237
 go_upto_region 1 with fail
 rw [HW.out]
 clear HW
 go_upto_region 4 with fail
 refine bp 5 ?_
 simp only [List.take_succ_cons,List.take_zero,List.drop_succ_cons,List.drop_zero]
 repeat (go_big_quiet_step (fail))
 refine wpQuiet_nil ?_
 rintro _ ⟨p,rfl⟩
 have r:=q.out p
 have g:aS b w (ab W p):=Ar.trans (aS.of_below (aa W p) (Nat.le_trans (Nat.le_of_lt Aq) f.size))
 have B1:=B0.below (aa W p)
 clear q Ar As k0 f
 generalize ab W p=w1 at *
 go_wp2_with fail
 refine r.mono ?_
 rintro e w2 ⟨rfl,At,Aa⟩
 have Au:=g.trans Aa
 have B2:=Aa.2 _ _ _ B1 (by decide) (by omega)
 have k4:w2.cell? ⟨w.heap.size,4,none⟩=some (.slice A D c):=B2.cell 4
 clear r g Aa B0 B1
 go_wp2_with fail
 (try rw [am])
 (try go_wp2_with fail)
 go_loopw [5,6,19] (fun _ _ i wx=>∃ (j m:Nat),j<=D/\i=.int .i64 (j:Int)/\Hid (m<=n+1+fi M (L.take j)+10 * j)/\WS b m wx/\aS b w wx/\Blk wx w.heap.size (ar ⟨5,0,[],.slice A' D z,.slice A D c⟩) 197) (fun _ _ i _=>D - (intOf i).toNat)
 case atStart=>exact⟨0,n+1,by omega,rfl,hO (by simp [fi]),At,Au,B2⟩
 case round =>
  clear At Au B2 k4; obtain⟨j,m,hj,rfl,HM,hw,hK,hB⟩:=hrel; obtain⟨wx,A6⟩:∃ wx,wx=wr:=⟨_,rfl⟩; subst A6; by_cases AI:j<D
  .have O:j<L.length:=by omega
   obtain⟨bk,ok,rfl,AJ,Av⟩:=ldJs_vs hE O; have E:=Av wx hK.1; have s:=rA M O; have Aw:=sumW_le M L (j+1); have Ax:=hO s; have AK:m+M L[j]+10<=2000:=by
    have:=HM.out; have h3:10 * (j+1)<=10 * L.length:=Nat.mul_le_mul_left _ O; omega
   have hval:=hk L[j] (List.getElem_mem O); obtain⟨A7,A8⟩:=An L[j] (List.getElem_mem O); have t:=hO hval; clear hval s Aw Av; generalize L[j]=kj at *; have bn:=Blk.new wx (ar ⟨0,0,[],.slice none 0 0,.slice none 0 0⟩) 197; obtain⟨Ab,J⟩:=kn bn (vs:=ar kj) rfl rfl (ia kj A7 A8); obtain⟨u,Ac⟩:=eA ((wx.alloc (.cells (ar ⟨0,0,[],.slice none 0 0,.slice none 0 0⟩).toArray 197)).setCells wx.heap.size 0 (ar kj)); have Ay:Chg [] wx u:=by rw [<-Ac]; exact((Chg.refl _ _).alloc _).setCells _ (.inr eG)
   rw [Ac] at Ab J; have l:=Ay.below (fun _ h=>by cases h); have Ad:b<=wx.heap.size:=Nat.le_of_lt hw.1; have Az:aS b wx u:=aS.of_below l Ad; have F:=hw.below l; have C:=hB.below l; have Q:wx.heap.size≠b:=by have:=hw.1; omega
   have G:(stJs (.pointer (some ⟨wx.heap.size,0,none⟩)) (.agg (ar kj).toArray)).run prog (wx.alloc (.cells #[.int .i64 0,.int .i64 0,.string ⟨#[]⟩,.slice none 0 0,.slice none 0 0] 197))=.ok () u:=Ab; have AL:(j:Int)<(D:Int):=by omega
   clear Ab bn Ay Ac l hw; obtain⟨RK,R⟩:=eC ((ar kj).toArray); rw [R.out] at G E; have B:=hK.trans Az; clear hK Az hB; by_cases A0:j=0
   .have A9:decide ((0:Int)<(j:Int))=false:=by simp; omega
    have AA:(j:Int)<=0:=by omega
    clear A0; obtain⟨bs',Ae,Af,Ag⟩:=names_at hT (i:=j) (by have:=hT.len; rw [dK] at this; omega)
    subst Af; have S:j<ns.length:=by have:=hT.len; rw [dK] at this; omega
    obtain⟨Ah,AB⟩:=Am _ (List.getElem_mem S); have e0:u.cell? ⟨w.heap.size,0,none⟩=some (.int .i64 5):=C.cell 0; have e3:u.cell? ⟨w.heap.size,3,none⟩=some (.slice (some ⟨bs',Ae,none⟩) D z):=C.cell 3; have ec:=Ag u B.1; generalize ns[j]=nj at *; have T:=mO b (m) nj u F (by omega) (by omega) Ah; go_wp2_with fail
    refine T.mono ?_; rintro e w5 ⟨rfl,U,H⟩; have C:=H.2 _ _ _ C (by decide) (by omega); have J:=H.2 _ _ _ J (by decide) Q; have B:=B.trans H; have V:=df b (m+nj.length+2) 58 w5 U (by omega); clear T e0 e3 ec H F; (try clear G E)
    go_wp2_with fail
    refine V.mono ?_; rintro e w6 ⟨rfl,X,I⟩; have C:=I.2 _ _ _ C (by decide) (by omega); have J:=I.2 _ _ _ J (by decide) Q; have B:=B.trans I; have Y:=bM J; rw [R.out] at Y; have hv:=t.out w6 _ B X (by omega); rw [R.out] at hv; have Ai:=hO (show m+nj.length+2+1+M kj<=n+1+fi M (L.take (j+1))+10 * (j+1) by have:=HM.out; have:=Ax.out; omega)
    clear V I X U; go_wp2_with fail
    refine hv.mono ?_; rintro e w7 ⟨rfl,n7,Z,Aj,K⟩; have Ak:=K.2 _ _ _ C (by decide) (by omega); have d:=B.trans K; have Al:=hO (Nat.le_trans Z Ai.out); clear hv K Y Z C J B; (try clear G E)
    go_wp2_with fail
    go_roundw
    case rel=>exact⟨j+1,n7,by omega,by go_num,Al,Aj,d,Ak⟩
    case measure=>simp [intOf]; omega
   .have A9:decide ((0:Int)<(j:Int))=true:=by simp; omega
    have AA:(0:Int)<(j:Int):=by omega
    clear A0; have y:=df b m 44 u F (by omega); go_wp2_with fail
    refine y.mono ?_; rintro e w4 ⟨rfl,A1,o⟩; have C:=o.2 _ _ _ C (by decide) (by omega); have J:=o.2 _ _ _ J (by decide) Q; have B:=B.trans o; have F:=A1; clear y G E o A1; obtain⟨bs',Ae,Af,Ag⟩:=names_at hT (i:=j) (by have:=hT.len; rw [dK] at this; omega)
    subst Af; have S:j<ns.length:=by have:=hT.len; rw [dK] at this; omega
    obtain⟨Ah,AB⟩:=Am _ (List.getElem_mem S); have e0:w4.cell? ⟨w.heap.size,0,none⟩=some (.int .i64 5):=C.cell 0; have e3:w4.cell? ⟨w.heap.size,3,none⟩=some (.slice (some ⟨bs',Ae,none⟩) D z):=C.cell 3; have ec:=Ag w4 B.1; generalize ns[j]=nj at *; have T:=mO b (m+1) nj w4 F (by omega) (by omega) Ah; go_wp2_with fail
    refine T.mono ?_; rintro e w5 ⟨rfl,U,H⟩; have C:=H.2 _ _ _ C (by decide) (by omega); have J:=H.2 _ _ _ J (by decide) Q; have B:=B.trans H; have V:=df b (m+1+nj.length+2) 58 w5 U (by omega); clear T e0 e3 ec H F; (try clear G E)
    go_wp2_with fail
    refine V.mono ?_; rintro e w6 ⟨rfl,X,I⟩; have C:=I.2 _ _ _ C (by decide) (by omega); have J:=I.2 _ _ _ J (by decide) Q; have B:=B.trans I; have Y:=bM J; rw [R.out] at Y; have hv:=t.out w6 _ B X (by omega); rw [R.out] at hv; have Ai:=hO (show m+1+nj.length+2+1+M kj<=n+1+fi M (L.take (j+1))+10 * (j+1) by have:=HM.out; have:=Ax.out; omega)
    clear V I X U; go_wp2_with fail
    refine hv.mono ?_; rintro e w7 ⟨rfl,n7,Z,Aj,K⟩; have Ak:=K.2 _ _ _ C (by decide) (by omega); have d:=B.trans K; have Al:=hO (Nat.le_trans Z Ai.out); clear hv K Y Z C J B; (try clear G E)
    go_wp2_with fail
    go_roundw
    case rel=>exact⟨j+1,n7,by omega,by go_num,Al,Aj,d,Ak⟩
    case measure=>simp [intOf]; omega
  .have A2:j=D:=by omega
   have AF:(D:Int)<=(j:Int):=by omega
   have A3:=hO (show m+1<=n+2+fi M L+10 * L.length by
    have:=HM.out; rw [A2,<-hL,List.take_length] at this; omega)
   have A4:Hid (∀ p,Calls prog 227 #[.pointer (some ⟨b,0,none⟩),.int .u8 125] (ab wx p) fun e w'=>e=.returned .nilIface/\WS b (m+1) w'/\aS b (ab wx p) w'):=hO fun p=>df b m 125 _ (hw.below (aa wx p)) (by have:=A3.out; omega)
   have Ad:b<=wx.heap.size:=Nat.le_of_lt hw.1; clear A2; go_upto_region 15 with fail
   refine bp 5 ?_; simp only [List.take_succ_cons,List.take_zero,List.drop_succ_cons,List.drop_zero]; repeat (go_big_quiet_step (fail))
   refine wpQuiet_nil ?_; rintro _ ⟨p,rfl⟩; have A5:=A4.out p; have g:=hK.trans (aS.of_below (aa wx p) Ad); clear A4 hK hB hw; generalize ab wx p=wy at *; go_wp2_with fail
   refine A5.mono ?_; rintro e w9 ⟨rfl,AC,AD⟩; go_wp2; (try rw [am])
   (try go_wp2)
   go_end0
   exact⟨rfl,m+1,Nat.succ_pos _,A3.out,AC,g.trans AD⟩
end
section
open Go.RowKit Mem Led
theorem wval_2(b n:Nat) (w:World) (h:WS b n w) (m:Nat) (M:m<10 ^ 16) (O:n+16<=2000) :
  Calls prog 200 #[.pointer (some ⟨b,0,none⟩),.agg (ar ⟨2,(m:Int),[],.slice none 0 0,.slice none 0 0⟩).toArray] w fun e w'=>e=.returned (.tuple #[])/\∃ n',n'<=n+16/\WS b n' w'/\aS b w w':=by
 have F:=h.1
 obtain⟨W,D⟩:=eA (w.alloc (.cells (ar ⟨2,(m:Int),[],.slice none 0 0,.slice none 0 0⟩).toArray 197))
 have E:Blk W w.heap.size (ar ⟨2,(m:Int),[],.slice none 0 0,.slice none 0 0⟩) 197:=by rw [<-D]; exact Blk.new _ _ _
 have B:eD w W:=eF D
 have G:aS b w W:=aS.of_below B (Nat.le_of_lt F)
 have C:=h.below B
 have L:Hid (w.alloc (.cells #[.int .i64 2,.int .i64 (m:Int),.string ⟨#[]⟩,.slice none 0 0,.slice none 0 0] 197)=W):=hO D
 clear D
 have Q:W.cell? ⟨w.heap.size,0,none⟩=some (.int .i64 2):=E.cell 0
 have R:W.cell? ⟨w.heap.size,1,none⟩=some (.int .i64 (m:Int)):=E.cell 1
 have k2:W.cell? ⟨w.heap.size,2,none⟩=some (.string ⟨#[]⟩):=E.cell 2
 have N:(mC (.pointer (some ⟨w.heap.size,0,none⟩))).run prog W=.ok (.agg #[.int .i64 2,.int .i64 (m:Int),.string ⟨#[]⟩,.slice none 0 0,.slice none 0 0]) W:=bM E
 have A:=kg b n W C
 have S:decide (2000<(n:Int))=false:=by simp; omega
 have T:(n:Int)<=2000:=by omega
 have hx:=wnum_any b n m W C (by omega) M
 show Calls prog 200 #[.pointer (some ⟨b,0,none⟩),.agg #[.int .i64 2,.int .i64 (m:Int),.string ⟨#[]⟩,.slice none 0 0,.slice none 0 0]] w _
 go_enter func200,ntmps200
 go_upto_region 1 with fail
 rw [L.out]
 clear L
 go_wp2_with fail
 refine A.mono ?_
 rintro e U ⟨rfl,H⟩
 have:=H.symm
 subst this
 clear A
 go_wp2_with fail
 refine hx.mono ?_
 rintro e V ⟨rfl,n2,I,J,K⟩
 go_wp2
 go_end0
 exact⟨rfl,n2,I,J,G.trans K⟩
theorem wval_3(b n:Nat) (w:World) (h:WS b n w) (t:Txt) (ht:lz t) (L:t.length<=1000) (N:n+(t.length+2)<=2000) :
  Calls prog 200 #[.pointer (some ⟨b,0,none⟩),.agg (ar ⟨3,0,t,.slice none 0 0,.slice none 0 0⟩).toArray] w fun e w'=>e=.returned (.tuple #[])/\∃ n',n'<=n+(t.length+2)/\WS b n' w'/\aS b w w':=by
 have F:=h.1
 obtain⟨W,D⟩:=eA (w.alloc (.cells (ar ⟨3,0,t,.slice none 0 0,.slice none 0 0⟩).toArray 197))
 have E:Blk W w.heap.size (ar ⟨3,0,t,.slice none 0 0,.slice none 0 0⟩) 197:=by rw [<-D]; exact Blk.new _ _ _
 have B:eD w W:=eF D
 have G:aS b w W:=aS.of_below B (Nat.le_of_lt F)
 have C:=h.below B
 have K:Hid (w.alloc (.cells #[.int .i64 3,.int .i64 0,.string (str t),.slice none 0 0,.slice none 0 0] 197)=W):=hO D
 clear D
 have O:W.cell? ⟨w.heap.size,0,none⟩=some (.int .i64 3):=E.cell 0
 have Q:W.cell? ⟨w.heap.size,1,none⟩=some (.int .i64 0):=E.cell 1
 have k2:W.cell? ⟨w.heap.size,2,none⟩=some (.string (str t)):=E.cell 2
 have M:(mC (.pointer (some ⟨w.heap.size,0,none⟩))).run prog W=.ok (.agg #[.int .i64 3,.int .i64 0,.string (str t),.slice none 0 0,.slice none 0 0]) W:=bM E
 have A:=kg b n W C
 have R:decide (2000<(n:Int))=false:=by simp; omega
 have S:(n:Int)<=2000:=by omega
 have hx:=mO b n t W C (by omega) L ht
 show Calls prog 200 #[.pointer (some ⟨b,0,none⟩),.agg #[.int .i64 3,.int .i64 0,.string (str t),.slice none 0 0,.slice none 0 0]] w _
 go_enter func200,ntmps200
 go_upto_region 1 with fail
 rw [K.out]
 clear K
 go_wp2_with fail
 refine A.mono ?_
 rintro e T ⟨rfl,H⟩
 have:=H.symm
 subst this
 clear A
 go_wp2_with fail
 refine hx.mono ?_
 rintro e U ⟨rfl,I,J⟩
 go_wp2
 go_end0
 exact⟨rfl,_,by omega,I,G.trans J⟩
theorem wval_4(b n:Nat) (w:World) (h:WS b n w) (A:Option Addr) (C c:Nat) (g:Nat) (S:n+g<=2000) (Q:∀ W,aS b w W->WS b n W->Calls prog 237 #[.pointer (some ⟨b,0,none⟩),.agg #[.int .i64 4,.int .i64 0,.string ⟨#[]⟩,.slice none 0 0,.slice A C c]] W fun e w'=>e=.returned (.tuple #[])/\∃ n',0<n'/\n'<=n+g/\WS b n' w'/\aS b W w') :
  Calls prog 200 #[.pointer (some ⟨b,0,none⟩),.agg (ar ⟨4,0,[],.slice none 0 0,.slice A C c⟩).toArray] w fun e w'=>e=.returned (.tuple #[])/\∃ n',0<n'/\n'<=n+g/\WS b n' w'/\aS b w w':=by
 have I:=h.1
 obtain⟨W,G⟩:=eA (w.alloc (.cells (ar ⟨4,0,[],.slice none 0 0,.slice A C c⟩).toArray 197))
 have H:Blk W w.heap.size (ar ⟨4,0,[],.slice none 0 0,.slice A C c⟩) 197:=by rw [<-G]; exact Blk.new _ _ _
 have D:eD w W:=eF G
 have E:aS b w W:=aS.of_below D (Nat.le_of_lt I)
 have F:=h.below D
 have O:Hid (w.alloc (.cells #[.int .i64 4,.int .i64 0,.string ⟨#[]⟩,.slice none 0 0,.slice A C c] 197)=W):=hO G
 clear G
 have T:W.cell? ⟨w.heap.size,0,none⟩=some (.int .i64 4):=H.cell 0
 have U:W.cell? ⟨w.heap.size,1,none⟩=some (.int .i64 0):=H.cell 1
 have k2:W.cell? ⟨w.heap.size,2,none⟩=some (.string ⟨#[]⟩):=H.cell 2
 have R:(mC (.pointer (some ⟨w.heap.size,0,none⟩))).run prog W=.ok (.agg #[.int .i64 4,.int .i64 0,.string ⟨#[]⟩,.slice none 0 0,.slice A C c]) W:=bM H
 have B:=kg b n W F
 have V:decide (2000<(n:Int))=false:=by simp; omega
 have X:(n:Int)<=2000:=by omega
 have hx:=Q W E F
 show Calls prog 200 #[.pointer (some ⟨b,0,none⟩),.agg #[.int .i64 4,.int .i64 0,.string ⟨#[]⟩,.slice none 0 0,.slice A C c]] w _
 go_enter func200,ntmps200
 go_upto_region 1 with fail
 rw [O.out]
 clear O
 go_wp2_with fail
 refine B.mono ?_
 rintro e Y ⟨rfl,J⟩
 have:=J.symm
 subst this
 clear B
 go_wp2_with fail
 refine hx.mono ?_
 rintro e Z ⟨rfl,n2,K,L,M,N⟩
 go_wp2
 go_end0
 exact⟨rfl,n2,K,L,M,E.trans N⟩
theorem wval_5(b n:Nat) (w:World) (h:WS b n w) (A:Option Addr) (B c:Nat) (D:Option Addr) (E:Nat) (g:Nat) (U:n+g<=2000) (S:∀ W,aS b w W->WS b n W->Calls prog 237 #[.pointer (some ⟨b,0,none⟩),.agg #[.int .i64 5,.int .i64 0,.string ⟨#[]⟩,.slice D B E,.slice A B c]] W fun e w'=>e=.returned (.tuple #[])/\∃ n',0<n'/\n'<=n+g/\WS b n' w'/\aS b W w') :
  Calls prog 200 #[.pointer (some ⟨b,0,none⟩),.agg (ar ⟨5,0,[],.slice D B E,.slice A B c⟩).toArray] w fun e w'=>e=.returned (.tuple #[])/\∃ n',0<n'/\n'<=n+g/\WS b n' w'/\aS b w w':=by
 have K:=h.1
 obtain⟨W,I⟩:=eA (w.alloc (.cells (ar ⟨5,0,[],.slice D B E,.slice A B c⟩).toArray 197))
 have J:Blk W w.heap.size (ar ⟨5,0,[],.slice D B E,.slice A B c⟩) 197:=by rw [<-I]; exact Blk.new _ _ _
 have F:eD w W:=eF I
 have G:aS b w W:=aS.of_below F (Nat.le_of_lt K)
 have H:=h.below F
 have R:Hid (w.alloc (.cells #[.int .i64 5,.int .i64 0,.string ⟨#[]⟩,.slice D B E,.slice A B c] 197)=W):=hO I
 clear I
 have V:W.cell? ⟨w.heap.size,0,none⟩=some (.int .i64 5):=J.cell 0
 have X:W.cell? ⟨w.heap.size,1,none⟩=some (.int .i64 0):=J.cell 1
 have k2:W.cell? ⟨w.heap.size,2,none⟩=some (.string ⟨#[]⟩):=J.cell 2
 have T:(mC (.pointer (some ⟨w.heap.size,0,none⟩))).run prog W=.ok (.agg #[.int .i64 5,.int .i64 0,.string ⟨#[]⟩,.slice D B E,.slice A B c]) W:=bM J
 have C:=kg b n W H
 have Y:decide (2000<(n:Int))=false:=by simp; omega
 have Z:(n:Int)<=2000:=by omega
 have hx:=S W G H
 show Calls prog 200 #[.pointer (some ⟨b,0,none⟩),.agg #[.int .i64 5,.int .i64 0,.string ⟨#[]⟩,.slice D B E,.slice A B c]] w _
 go_enter func200,ntmps200
 go_upto_region 1 with fail
 rw [R.out]
 clear R
 go_wp2_with fail
 refine C.mono ?_
 rintro e d ⟨rfl,L⟩
 have:=L.symm
 subst this
 clear C
 go_wp2_with fail
 refine hx.mono ?_
 rintro e f ⟨rfl,n2,M,N,O,Q⟩
 go_wp2
 go_end0
 exact⟨rfl,n2,M,N,O,G.trans Q⟩
end
section
open Go.RowKit Mem Led
theorem pc(c:Nat):∀ L:List JsV,fi (fun _=>c) L=c * L.length
 | []=>rfl
 | x::L=>by
  have:=pc c L; unfold fi at *; rw [List.map_cons,List.sum_cons,this,List.length_cons,Nat.mul_succ,Nat.add_comm]
def bo (t:Txt):JsV:=⟨3,0,t,.slice none 0 0,.slice none 0 0⟩
def fA:List Txt:=[[99,114,118],[107,105,100],[107,116,121],[120]]
def d9:List Txt:=[[100,111,109,97,105,110],[107,101,121,115],[110,117,109,98,101,114]]
def tEd:Txt:=[69,100,50,53,53,49,57]
def mc:Txt:=[79,75,80]
def l7 (t:Txt):Prop:=Asc t/\lz t
def KeyV (B:Nat) (w:World) (v:JsV):Prop:=∃ (D A:Option Addr) (E c:Nat) (C x:Txt),v=⟨5,0,[],.slice D 4 E,.slice A 4 c⟩/\Fit 4 E D/\Vs w B 1 D 4 (tv fA)/\Vs w B 5 A 4 (af ar [bo tEd,bo C,bo mc,bo x])/\l7 C/\l7 x/\C.length<=60/\x.length<=60
theorem KeyV.mono{B B':Nat} {w w':World} {v:JsV} (h:KeyV B w v) (D:Below B w w') (E:B<=B'):KeyV B' w' v:=by
 obtain⟨F,A,G,c,C,x,e,H,I,J,K⟩:=h
 exact⟨F,A,G,c,C,x,e,H,(I.below D).mono E,(J.below D).mono E,K⟩
theorem fine_ed:l7 tEd:=by unfold l7 Asc lz; decide
theorem fine_okp:l7 mc:=by unfold l7 Asc lz; decide
theorem pv(t:Txt) (ht:Asc t) (d:Nat) (w:World):Calls prog 199 #[.agg (ar (bo t)).toArray,.int .i64 (d:Int)] w fun e w'=>e=.returned (.bool true)/\eD w w':=right_3 w d t ht
theorem right_key(w:World) (v:JsV) (h:KeyV w.heap.size w v):Calls prog 199 #[.agg (ar v).toArray,.int .i64 4] w fun e w'=>e=.returned (.bool true)/\eD w w':=by
 obtain⟨F,A,G,c,B,x,rfl,H,I,J,K,L,_⟩:=h
 refine right_5 w 4 (by omega) (by omega) A 4 c [bo tEd,bo B,bo mc,bo x] J (by omega) F G fA I H (by unfold Asc; decide) (by decide) (fun k E C _=>?_)
 have key:∀ t,Asc t->Calls prog 199 #[.agg (ar (bo t)).toArray,.int .i64 ((4:Nat) - 1:Int)] C fun e D=>e=.returned (.bool true)/\eD C D:=fun t ht=>pv t ht 3 C
 simp only [List.mem_cons,List.not_mem_nil,or_false] at E
 rcases E with rfl|rfl|rfl|rfl
 .exact key _ fine_ed.1
 .exact key _ K.1
 .exact key _ fine_okp.1
 .exact key _ L.1
theorem pa(b n:Nat) (t:Txt) (w:World) (h:WS b n w) (ht:lz t) (A:n+(t.length+2)<=2000) (B:t.length<=1000):Calls prog 200 #[.pointer (some ⟨b,0,none⟩),.agg (ar (bo t)).toArray] w fun e w'=>e=.returned (.tuple #[])/\∃ n',n'<=n+(t.length+2)/\WS b n' w'/\aS b w w':=wval_3 b n w h t ht B A
theorem value_key(b n:Nat) (v:JsV) (w:World) (h:WS b n w) (O:KeyV b w v) (Z:n+200<=2000):Calls prog 200 #[.pointer (some ⟨b,0,none⟩),.agg (ar v).toArray] w fun e w'=>e=.returned (.tuple #[])/\∃ n',n'<=n+200/\WS b n' w'/\aS b w w':=by
 obtain⟨K,A,L,c,C,x,rfl,d,G,H,Q,R,S,T⟩:=O
 refine(wval_5 b n w h A 4 c K L 200 (by omega) (fun W M U=>?_)).mono (fun e w' ⟨G,n',_,H⟩=>⟨G,n',H⟩)
 have N:fi (fun k=>k.text.length+2) [bo tEd,bo C,bo mc,bo x]<=150:=by
  simp [fi,bo,tEd,mc]
  omega
 refine(wkids_5 b n W A 4 c [bo tEd,bo C,bo mc,bo x] (fun k=>k.text.length+2) K L fA (G.below M.1) (by unfold fA lz; decide) U rfl (H.below M.1) (fun k D=>?_) (by simp only [List.length_cons,List.length_nil]; omega) (by omega) (fun k D I n' _ J B=>?_)).mono ?_
 .simp only [List.mem_cons,List.not_mem_nil,or_false] at D
  rcases D with rfl|rfl|rfl|rfl <;> exact⟨rfl,rfl⟩
 .have key:∀ t:Txt,k=bo t->lz t->t.length<=60->Calls prog 200 #[.pointer (some ⟨b,0,none⟩),.agg (ar k).toArray] I fun e E=>e=.returned (.tuple #[])/\∃ F,F<=n'+(k.text.length+2)/\WS b F E/\aS b I E:=fun t e V f=>by
   subst e; exact pa b n' t I J V B (by omega)
  simp only [List.mem_cons,List.not_mem_nil,or_false] at D; rcases D with rfl|rfl|rfl|rfl
  .exact key _ rfl fine_ed.2 (by decide)
  .exact key _ rfl Q.2 S
  .exact key _ rfl fine_okp.2 (by decide)
  .exact key _ rfl R.2 T
 .rintro e w' ⟨X,n',h0,B,Y⟩
  simp only [List.length_cons,List.length_nil] at B; exact⟨X,n',h0,by omega,Y⟩
def BunV (B:Nat) (w:World) (v:JsV):Prop:=∃ (D A K:Option Addr) (E c n G:Nat) (C:Txt) (num:Nat) (F:List JsV),v=⟨5,0,[],.slice D 3 E,.slice A 3 c⟩/\Fit 3 E D/\Vs w B 1 D 3 (tv d9)/\Vs w B 5 A 3 (af ar [bo C,⟨4,0,[],.slice none 0 0,.slice K n G⟩,⟨2,(num:Int),[],.slice none 0 0,.slice none 0 0⟩])/\l7 C/\C.length<=300/\num<=1000000000000000/\n<=8/\Vs w B 5 K n (af ar F)/\∀ k∈F,KeyV B w k
theorem BunV.mono{B B':Nat} {w w':World} {v:JsV} (h:BunV B w v) (C:Below B w w') (D:B<=B'):BunV B' w' v:=by
 obtain⟨F,A,K,G,c,n,H,E,num,I,e,J,L,M,N,O,Q,R,S,T⟩:=h
 exact⟨F,A,K,G,c,n,H,E,num,I,e,J,(L.below C).mono D,(M.below C).mono D,N,O,Q,R,(S.below C).mono D,fun k U=>(T k U).mono C D⟩
theorem right_bun(w:World) (v:JsV) (h:BunV w.heap.size w v):Calls prog 199 #[.agg (ar v).toArray,.int .i64 6] w fun e w'=>e=.returned (.bool true)/\eD w w':=by
 obtain⟨I,A,K,J,c,n,H,B,num,L,rfl,M,N,O,Q,T,U,V,R,S⟩:=h
 refine right_5 w 6 (by omega) (by omega) A 3 c [bo B,⟨4,0,[],.slice none 0 0,.slice K n H⟩,⟨2,(num:Int),[],.slice none 0 0,.slice none 0 0⟩] O (by omega) I J d9 N M (by unfold Asc; decide) (by decide) (fun k D F E=>?_)
 simp only [List.mem_cons,List.not_mem_nil,or_false] at D
 rcases D with rfl|rfl|rfl
 .exact pv B Q.1 5 F
 .refine right_4 F 5 (by omega) (by omega) K n H L (Es.below R E) (by omega) (fun k D G C=>?_)
  exact right_key G k ((S k D).mono (E.trans (C.mono E.size)) (Nat.le_trans E.size C.size))
 .exact right_2 F 5 (num:Int) (by omega) (by omega)
theorem value_bun(b n:Nat) (v:JsV) (w:World) (h:WS b n w) (t:BunV b w v) (hn:n<=10):Calls prog 200 #[.pointer (some ⟨b,0,none⟩),.agg (ar v).toArray] w fun e w'=>e=.returned (.tuple #[])/\∃ n',0<n'/\n'<=2000/\WS b n' w'/\aS b w w':=by
 obtain⟨g,A,K,i,c,m,J,C,num,R,rfl,hf,T,U,u,h4,h5,h6,j,l⟩:=t
 have D:R.length=m:=by
  have:=j.len; rw [aQ eh] at this; omega
 refine(wval_5 b n w h A 3 c g i 1990 (by omega) (fun W S y=>?_)).mono ?_
 .obtain⟨G,H⟩:∃ G:JsV->Nat,G=fun k=>if k.kind=4 then 1610 else if k.kind=2 then 16 else k.text.length+2:=⟨_,rfl⟩
  have o:G (bo C)=C.length+2:=by rw [H]; rfl
  have q:G ⟨4,0,[],.slice none 0 0,.slice K m J⟩=1610:=by rw [H]; rfl
  have r:G ⟨2,(num:Int),[],.slice none 0 0,.slice none 0 0⟩=16:=by rw [H]; rfl
  have s:fi G [bo C,⟨4,0,[],.slice none 0 0,.slice K m J⟩,⟨2,(num:Int),[],.slice none 0 0,.slice none 0 0⟩]<=1930:=by
   simp only [fi,List.map_cons,List.map_nil,List.sum_cons,List.sum_nil,o,q,r]; omega
  refine(wkids_5 b n W A 3 c [bo C,⟨4,0,[],.slice none 0 0,.slice K m J⟩,⟨2,(num:Int),[],.slice none 0 0,.slice none 0 0⟩] G g i d9 (T.below S.1) (by unfold d9 lz; decide) y rfl (U.below S.1) (fun k E=>?_) (by simp only [List.length_cons,List.length_nil]; omega) (by omega) (fun k E V n' L I B=>?_)).mono ?_
  .simp only [List.mem_cons,List.not_mem_nil,or_false] at E
   rcases E with rfl|rfl|rfl <;> exact⟨rfl,rfl⟩
  .simp only [List.mem_cons,List.not_mem_nil,or_false] at E
   rcases E with rfl|rfl|rfl
   .rw [o] at B ⊢
    exact pa b n' C V I u.2 B (by omega)
   .rw [q] at B ⊢
    refine(wval_4 b n' V I K m J 1610 B (fun X F M=>?_)).mono (fun e w' ⟨T,n',_,U⟩=>⟨T,n',U⟩); have N:fi (fun _=>200) R=200 * m:=by
     rw [<-D]; exact pc 200 R
    refine(wkids_4 b n' X K m J R (fun _=>200) M D (j.below ((S.1.trans L.1).trans F.1)) (fun k E=>?_) (by rw [N,D]; omega) (by omega) (fun k E z n3 Y Z d=>value_key b n3 k z Z ((l k E).mono (((S.1.trans L.1).trans F.1).trans Y.1) eG) d)).mono ?_
    .obtain⟨A3,A4,c3,c4,Aa,x,rfl,_⟩:=l k E
     exact⟨rfl,rfl⟩
    .rintro e w' ⟨O,n4,h0,f,Q⟩
     rw [N,D] at f; exact⟨O,n4,h0,by omega,Q⟩
   .rw [r] at B ⊢
    exact wval_2 b n' V I num (by omega) B
  .rintro e w' ⟨O,n',h0,B,Q⟩
   simp only [List.length_cons,List.length_nil] at B; exact⟨O,n',h0,by omega,Q⟩
 .rintro e w' ⟨O,n',h0,B,Q⟩
  exact⟨O,n',h0,by omega,Q⟩
end
section
open Go.RowKit Mem Led
theorem ws_new(w:World):WS w.heap.size 0 (w.alloc (.cells #[.pointer none,.slice none 0 0] 216)) :=
 ⟨by simp,([]:List Value),rfl,(by intro u A; cases A),Lib.fresh_isBuilder _ _ w⟩
theorem jwrite_any(v:JsV) (w:World) (h:BunV w.heap.size w v) :
  Calls prog 178 #[.agg (ar v).toArray] w fun e w'=>(∃ s,e=.returned (.tuple #[.string s,.int .i64 0]))/\eD w w':=by
 obtain⟨W,N⟩:=eA (w.alloc (.cells (ar v).toArray 197))
 have L:Blk W w.heap.size (ar v) 197:=by rw [<-N]; exact Blk.new _ _ _
 have B:eD w W:=eF N
 have Z:=right_bun W v (h.mono B B.size)
 have c:=hO (fun b n W' (F:eD w W') (g:w.heap.size<=b) hw hn=>value_bun b n v W' hw (h.mono F g) hn)
 have O:=bM L
 have d:Hid (∀ w',eD W w'->Blk w' w.heap.size (ar v) 197):=hO fun w' F=>L.below F
 have M:∀ w',Blk w' w.heap.size (ar v) 197->(mC (.pointer (some ⟨w.heap.size,0,none⟩))).run prog w'=.ok (.agg (ar v).toArray) w':=fun w' F=>bM F
 have M:=hO M
 clear h
 have Q:=L
 generalize (ar v).toArray=X at *
 go_enter func178,ntmps178
 go_upto_region 1 with fail
 clear N
 go_wp2_with fail
 refine Z.mono ?_
 rintro e E ⟨rfl,G⟩
 have A:eD w E:=B.trans (G.mono B.size)
 have H:=ws_new E
 have I:eD E (E.alloc (.cells #[.pointer none,.slice none 0 0] 216)):=eH
 have C:=A.trans (I.mono A.size)
 have R:=M.out _ ((d.out E G).below I)
 have J:=c.out E.heap.size 0 _ C A.size H (by omega)
 clear Z M d c O Q L H
 go_wp2_with fail
 refine J.mono ?_
 rintro e f ⟨rfl,n3,S,i,K,T⟩
 have D:=kg _ _ f K
 have U:=wstr_any _ _ f K S
 have j:decide (2000<(n3:Int))=false:=by simp; omega
 have k:(n3:Int)<=2000:=by omega
 clear J R
 go_wp2_with fail
 refine D.mono ?_
 rintro e m ⟨rfl,V⟩
 have:=V.symm
 subst this
 clear D
 go_wp2_with fail
 refine U.mono ?_
 rintro e o ⟨⟨l,_,rfl⟩,Y⟩
 go_wp2
 go_ret2
 exact⟨⟨_,rfl⟩,C.trans ((T.1.trans Y).mono A.size)⟩
end
section
namespace B64
def bits:Nat->Nat->List Nat
 | 0,_=>[]
 | k+1,n=>bits k (n / 2)++[n % 2]
def num (l:List Nat):Nat:=l.foldl (fun a b=>2 * a+b) 0
def eQ (l:List Nat):Prop:=∀ b∈l,b<2
def cR (k:Nat) (L:List Nat):List Nat:=(List.range (L.length / k)).map fun i=>num ((L.drop (i * k)).take k)
theorem kR(k n:Nat):(bits k n).length=k:=by
 induction k generalizing n with
 | zero=>rfl
 | succ k ih=>simp [bits,ih]
theorem bits_is(k n:Nat):eQ (bits k n):=by
 induction k generalizing n with
 | zero=>intro b A; simp [bits] at A
 | succ k ih =>
  intro b A; simp only [bits,List.mem_append,List.mem_singleton] at A; rcases A with A|rfl
  .exact ih _ b A
  .omega
theorem num_from(l:List Nat) (a:Nat):l.foldl (fun a b=>2 * a+b) a=a * 2 ^ l.length+num l:=by
 induction l generalizing a with
 | nil=>simp [num]
 | cons x l ih =>
  unfold num; simp only [List.foldl_cons,List.length_cons]; rw [ih,ih (2 * 0+x),Nat.pow_succ,Nat.add_mul]; simp only [Nat.mul_zero,Nat.zero_add]; have:2 * a * 2 ^ l.length=a * (2 ^ l.length * 2):=by rw [Nat.mul_comm 2 a,Nat.mul_assoc,Nat.mul_comm 2]
  omega
theorem fV(a b:List Nat):num (a++b)=num a * 2 ^ b.length+num b:=by
 unfold num
 rw [List.foldl_append,num_from]
 rfl
theorem tC(x:Nat):num [x]=x:=by simp [num]
theorem tD{l:List Nat} (h:eQ l):num l<2 ^ l.length:=by
 induction l with
 | nil=>simp [num]
 | cons x l ih =>
  have B:=ih fun b A=>h b (by simp [A]); have C:=h x (by simp); rw [show x::l=[x]++l from rfl,fV,tC,List.length_append,List.length_singleton,Nat.pow_add]; have:x * 2 ^ l.length<=1 * 2 ^ l.length:=Nat.mul_le_mul_right _ (by omega); omega
theorem num_bits(k n:Nat) (h:n<2 ^ k):num (bits k n)=n:=by
 induction k generalizing n with
 | zero=>simp at h; subst h; rfl
 | succ k ih =>
  rw [bits,fV,ih _ (by rw [Nat.pow_succ] at h; omega),tC]
  simp
  omega
theorem eQ.append{a b:List Nat} (A:eQ a) (B:eQ b):eQ (a++b):=fun x hx=>by
 rcases List.mem_append.1 hx with h|h
 .exact A x h
 .exact B x h
theorem eQ.left{a b:List Nat} (h:eQ (a++b)):eQ a:=fun x hx=>h x (by simp [hx])
theorem eQ.right{a b:List Nat} (h:eQ (a++b)):eQ b:=fun x hx=>h x (by simp [hx])
theorem zeros_is(k:Nat):eQ (List.replicate k 0):=fun b A=>by
 rw [List.eq_of_mem_replicate A]
 omega
theorem num_zeros(k:Nat):num (List.replicate k 0)=0:=by
 induction k with
 | zero=>rfl
 | succ k ih=>rw [List.replicate_succ',fV,ih,tC]; simp
theorem iM(k:Nat) (L:List Nat):(cR k L).length=L.length / k:=by simp [cR]
theorem rj{k:Nat} (A:0<k) (a b:List Nat) (m:Nat) (h:a.length=m * k):cR k (a++b)=cR k a++cR k b:=by
 unfold cR
 have B:(a++b).length / k=m+b.length / k:=by
  rw [List.length_append,h,Nat.add_comm,Nat.add_mul_div_right _ _ A,Nat.add_comm]
 have C:a.length / k=m:=by rw [h,Nat.mul_div_cancel _ A]
 rw [B,C,List.range_add,List.map_append,List.map_map]
 congr 1
 .apply List.map_congr_left
  intro i hi; have hi:=List.mem_range.1 hi; have D:(i+1) * k<=m * k:=Nat.mul_le_mul_right _ hi; rw [Nat.add_mul] at D; rw [List.drop_append_of_le_length (by omega),List.take_append_of_le_length (by simp; omega)]
 .apply List.map_congr_left
  intro i _; simp only [Function.comp]; rw [List.drop_append,List.drop_eq_nil_of_le (by rw [h,Nat.add_mul]; omega),List.nil_append,h,Nat.add_mul,Nat.add_sub_cancel_left]
theorem groups_one{k:Nat} (A:0<k) (a:List Nat) (h:a.length=k):cR k a=[num a]:=by
 unfold cR
 rw [h,Nat.div_self A,show (List.range 1)=[0] from rfl]
 simp [<-h]
theorem nW{k:Nat} (A:0<k) (a q:List Nat) (m:Nat) (h:a.length=m * k) (B:q.length=k):cR k (a++q)=cR k a++[num q]:=by
 rw [rj A a q m h,groups_one A q B]
def pad (L:List Nat):List Nat:=L++List.replicate ((6 - L.length % 6) % 6) 0
def bP (l:List UInt8):List Nat:=l.flatMap fun c=>bits 8 c.toNat
def qI:List UInt8:=[65,66,67,68,69,70,71,72,73,74,75,76,77,78,79,80,81,82,83,84,85,86,87,88,89,90,97,98,99,100,101,102,103,104,105,106,107,108,109,110,111,112,113,114,115,116,117,118,119,120,121,122,48,49,50,51,52,53,54,55,56,57,45,95]
def gU (n:Nat):UInt8:=qI.getD n 63
def enc (l:List UInt8):List UInt8:=(cR 6 (pad (bP l))).map gU
theorem lY(l:List UInt8):eQ (bP l):=fun b A=>by
 obtain⟨c,_,B⟩:=List.mem_flatMap.1 A
 exact bits_is _ _ b B
theorem kT(l:List UInt8):(bP l).length=l.length * 8:=by
 induction l with
 | nil=>rfl
 | cons c l ih =>
  have:bP (c::l)=bits 8 c.toNat++bP l:=rfl; rw [this,List.length_append,kR,ih,List.length_cons]; omega
theorem qG(a b:List UInt8):bP (a++b)=bP a++bP b:=by simp [bP]
theorem pad_length(L:List Nat):∃ m,(pad L).length=m * 6/\m=(L.length+5) / 6:=by
 refine⟨(L.length+5) / 6,?_,rfl⟩
 simp [pad]
 omega
theorem enc_length(l:List UInt8):(enc l).length=(l.length * 8+5) / 6:=by
 obtain⟨m,A,B⟩:=pad_length (bP l)
 unfold enc
 rw [List.length_map,iM,A,Nat.mul_div_cancel _ (by omega),B,kT]
end B64
end
section
open Go.RowKit Mem
theorem tX(l:List UInt8) (k:Nat) (h:k<l.length):B64.bP (l.take (k+1))=B64.bP (l.take k)++B64.bits 8 l[k].toNat:=by
 rw [List.take_succ_eq_append_getElem h,B64.qG]
 simp [B64.bP]
theorem nx(b:Nat) (w:World) (h0:w.cell? ⟨b,0,none⟩=some (.pointer none)) (A:w.shape? b=some (214,2)) (D:w.frozen? ⟨b,0,none⟩=false) :
  Calls prog 257 #[.pointer (some ⟨b,0,none⟩)] w fun e w'=>e=.returned (.tuple #[])/\w'=w.setCell ⟨b,0,none⟩ (.pointer (some ⟨b,0,none⟩)):=by
 have X:=Tryz.Builder_Extra_169
 obtain⟨j,C,B⟩:=Option.map_eq_some_iff.1 X.sizeBuilder
 go_enter func257,ntmps257
 go_wp2
 rw [Lib.run_to_unsafe w ⟨b,0,none⟩ underlying212 underlying286 C (by rw [B]; decide) A (Nat.zero_lt_succ 1)]
 simp only [Result.andThen]
 rw [Oper.upon_value]
 go_wp2
 rw [run_callFunc_extern func271 (by kernel_rfl) (by kernel_rfl) (by kernel_rfl) (e:=Extern.AbiNoEscape.same) (by kernel_rfl)]
 rw [Lib.run_noEscape]
 simp only [Result.andThen]
 rw [Oper.upon_value]
 go_wp2
 rw [Lib.run_from_unsafe w ⟨b,0,none⟩ underlying286 underlying212 C A (by kernel_rfl)]
 simp only [Result.andThen]
 rw [Oper.upon_value]
 go_wp2
 go_end0
 exact⟨rfl,rfl⟩
theorem qz(B b:Nat) (bs:List Value) (w:World) (h:Lib.IsBuilder 214 5 B b bs w) :
  Calls prog 257 #[.pointer (some ⟨b,0,none⟩)] w fun e w'=>e=.returned (.tuple #[])/\(Lib.BuilderAt 214 5 B b (.pointer (some ⟨b,0,none⟩)) bs w'/\Below B w w'):=by
 rcases h with h|h
 .refine(nx b w h.cell0 h.shape h.frozen0).mono ?_
  rintro e w' ⟨rfl,rfl⟩; exact⟨rfl,h.used _,(Below.refl B w).setCell (p:=⟨b,0,none⟩) h.1 _⟩
 .refine(kL b w h.cell0).mono ?_
  rintro e w' ⟨rfl,rfl⟩; exact⟨rfl,h,Below.refl B _⟩
theorem j4(B b:Nat) (bs:List Value) (c:Int) (w:World) (h:Lib.IsBuilder 214 5 B b bs w) (V:bs.length+1<=140737488355328) (J:B<=w.heap.size) :
  Calls prog 227 #[.pointer (some ⟨b,0,none⟩),.int .u8 c] w fun e w'=>e=.returned .nilIface/\(Lib.BuilderAt 214 5 B b (.pointer (some ⟨b,0,none⟩)) (bs++[.int .u8 c]) w'/\Below B w w'):=by
 obtain⟨Y,hi,K,L,M⟩:=al qi
 go_enter func227,ntmps227
 go_wp2_with fail
 refine(qz B b bs _ h).mono ?_
 rintro e H ⟨rfl,Z,D⟩
 obtain⟨X,v,E,G,N⟩:=Z
 have m:H.cell? ⟨b,0,none⟩=some (.pointer (some ⟨b,0,none⟩)):=by rw [Lib.cell_of_heap E]; rfl
 have n:H.cell? ⟨b,1,none⟩=some v:=by rw [Lib.cell_of_heap E]; rfl
 have O:B<=H.heap.size:=Nat.le_trans J D.size
 have Q:bs.length+1<=maxLen:=by unfold maxLen; omega
 go_wp2_with (at_builtin; go_must (refine bi rfl (.tmp 11) (.tmp 13) 62 rfl B Y (.int .u8 0) 1 underlying62 hi K L M rfl _ _ _ rfl G rfl rfl Q (by omega) O ?_))
 intro d f I A o q C
 have R:b<H.heap.size:=by
  rcases Nat.lt_or_ge b H.heap.size with S|S
  .exact S
  .simp [Array.getElem?_eq_none S] at E
 have F:I.heap[b]?=some (.cells #[.pointer (some ⟨b,0,none⟩),v] 214 (0,0)):=by
  rw [C.block b (by simp; omega) (fun e=>N e.symm),Lib.alloc_old H _ b R]
  exact E
 have r:I.cell? ⟨b,0,none⟩=some (.pointer (some ⟨b,0,none⟩)):=by rw [Lib.cell_of_heap F]; rfl
 have s:I.cell? ⟨b,1,none⟩=some v:=by rw [Lib.cell_of_heap F]; rfl
 have t:I.frozen? ⟨b,1,none⟩=false:=Lib.frozen_of_heap F 1
 obtain⟨g,cap,U⟩:∃ g cap,Value.slice d (bs.length+1) f=.slice (some ⟨g,0,none⟩) (bs.length+1) cap:=by
  rcases A.2 with⟨_,h0⟩|⟨g,cap,i,j,_⟩
  .omega
  .exact⟨g,cap,j⟩
 rw [U] at A ⊢
 go_wp2
 go_ret
 refine⟨rfl,?_,?_⟩
 .exact Lib.BuilderAt.put (T:=214) (e:=5) X F (bs':=bs++[.int .u8 c]) (by simpa using A) (by decide)
 .exact((D.alloc (by have:=D.size; omega) _).grown C (by have:=D.size; simp; omega) (fun k l=>(G.lt k l).1)).setCell (p:=⟨b,1,none⟩) X _
end
section
open Go.RowKit
theorem iL(n:Int) (A:0<=n) (B:n<2 ^ 20):IntKind.i64.wrap n=n:=by rw [IntKind.wrap_i64]; omega
section
variable (x:Nat) (hx:x<1048576)
include hx
theorem mand63:Go.bits .and .i64 (x:Int) 63=((x % 64:Nat):Int):=by
 have:=bits_mask .i64 20 (by decide) iL 6 (by decide) (x:Int) (by omega) (by omega)
 simpa using this
end
theorem mor256(x y:Nat) (hx:x<4096) (A:y<256):Go.bits .or .i64 ((x:Int) * 256) (y:Int)=((x * 256+y:Nat):Int):=by
 have:=bits_join .i64 20 (by decide) iL 8 ((x:Int) * 256) (y:Int) (by omega) (by omega) (by omega) (by omega) (by omega) (by omega)
 rw [this]
 omega
theorem mmask_any(x A:Nat) (hx:x<1048576) (h:A<=7):Go.bits .and .i64 (x:Int) (wrap64 (wrap64 (2 ^ A) - 1))=((x % 2 ^ A:Nat):Int):=by
 have key:∀ i,i<=7->wrap64 (wrap64 (2 ^ i) - 1)=2 ^ i - 1:=by decide +kernel
 rw [key A h,bits_mask .i64 20 (by decide) iL A (by omega) (x:Int) (by omega) (by omega)]
 simp
end
section
open Go.RowKit Mem B64
def letters:ByteArray:=⟨#[65,66,67,68,69,70,71,72,73,74,75,76,77,78,79,80,81,82,83,84,85,86,87,88,89,90,97,98,99,100,101,102,103,104,105,106,107,108,109,110,111,112,113,114,115,116,117,118,119,120,121,122,48,49,50,51,52,53,54,55,56,57,45,95]⟩
theorem pY(r:Nat) (h:r<letters.size):letters[r]=gU r:=by
 have A:r<qI.length:=h
 unfold gU
 rw [List.getD_eq_getElem?_getD,List.getElem?_eq_getElem A]
 rfl
theorem encode_any(A:Option Addr) (n c B:Nat) (l:List UInt8) (w:World) (hd:Bs w B A n l) (hn:n<=400) (hB:B<=w.heap.size) :
  Calls prog 198 #[.slice A n c] w fun e w'=>e=.returned (.string (str (enc l)))/\eD w w':=by
 have Aa:=hd.len
 have HL:=hO Aa
 clear Aa
 have Ab:Lib.IsBuilder 214 5 w.heap.size w.heap.size [] (w.alloc (.cells #[.pointer none,.slice none 0 0] 214)):=Lib.fresh_isBuilder _ _ w
 have O:eD w (w.alloc (.cells #[.pointer none,.slice none 0 0] 214)):=eH
 go_enter func198,ntmps198
 go_wp2
 go_loopw [4,5,10] (fun vw vn i wr=>∃ (k m F x:Nat) (Q P:List Nat),k<=n/\i=.int .i64 k/\vn=.int .i64 F/\vw=.int .i64 x/\F<6/\x<32/\m<=3200/\Hid (bP (l.take k)=Q++P/\Q.length=m * 6/\P.length=F/\num P=x)/\Lib.IsBuilder 214 5 w.heap.size w.heap.size (bv ((cR 6 Q).map gU)) wr/\eD w wr) (fun _ _ i _=>n - (intOf i).toNat)
 case atStart=>exact⟨0,0,0,0,[],[],by omega,rfl,rfl,rfl,by omega,by omega,by omega,hO ⟨rfl,rfl,rfl,rfl⟩,Ab,O⟩
 case round =>
  obtain⟨k,m,F,x,Q,P,hk,rfl,rfl,rfl,Ax,hx,hm,G,Z,s⟩:=hrel; clear Ab O; by_cases Am:k<n
  .obtain⟨ad,hl,rfl,Av,An⟩:=(hd.next hB s).at_ Am
   have Ac:=tX l k hl; have hc:l[k].toNat<256:=l[k].toNat_lt; generalize l[k].toNat=b at *; have Ad:=mor256 x b (by omega) hc; obtain⟨y,hy⟩:=eA (x * 256+b); rw [hy] at Ad; have Ay:y<8192:=by omega
   have L:num (B64.bits 8 b)=b:=num_bits 8 b (by omega); have Ae:Hid (bP (l.take (k+1))=Q++(P++B64.bits 8 b)/\Q.length=m * 6/\(P++B64.bits 8 b).length=F+8/\num (P++B64.bits 8 b)=y):=by
    refine hO ⟨?_,G.out.2.1,?_,?_⟩
    .rw [Ac,G.out.1,List.append_assoc]
    .rw [List.length_append,kR,G.out.2.2.1]
    .rw [fV,kR,L,G.out.2.2.2]
     omega
   clear Ac L hy G hd; generalize P++B64.bits 8 b=P2 at Ae; go_wp2_with fail
   go_loopw [4,5] (fun vw vn wr=>∃ (m F x:Nat) (Q P:List Nat),vn=.int .i64 F/\vw=.int .i64 x/\F<=13/\x<8192/\m<=3200/\Hid (bP (l.take (k+1))=Q++P/\Q.length=m * 6/\P.length=F/\num P=x)/\Lib.IsBuilder 214 5 w.heap.size w.heap.size (bv ((cR 6 Q).map gU)) wr/\eD w wr) (fun _ vn _=>(intOf vn).toNat)
   case atStart=>exact⟨m,F+8,y,Q,P2,by go_num,rfl,by omega,by omega,by omega,Ae,Z,s⟩
   case round =>
    clear Ad; obtain⟨m1,T,x1,d,P1,rfl,rfl,Aw,Az,Ao,D,U,f⟩:=hrel; by_cases A0:6<=T
    .obtain⟨Y,Ap⟩:∃ Y,T=Y+6:=⟨T - 6,by omega⟩
     subst Ap; obtain⟨R,S,g,o,hS⟩:∃ R S,P1=R++S/\R.length=6/\S.length=Y:=⟨P1.take 6,P1.drop 6,(List.take_append_drop 6 P1).symm,by simp [D.out.2.2.1],by simp [D.out.2.2.1]⟩; have C:=lY (l.take (k+1)); rw [D.out.1,g] at C; have Af:=C.right.left; have Ag:=C.right.right; have Ah:=tD Af; have M:=tD Ag; have hx:=D.out.2.2.2; rw [g,fV] at hx; rw [o] at Ah; rw [hS] at M hx; obtain⟨sN,t⟩:=eA (num S); have Aq:Hid (bP (l.take (k+1))=(d++R)++S/\(d++R).length=(m1+1) * 6/\S.length=Y/\num S=sN):=hO ⟨by rw [D.out.1,g,List.append_assoc],by rw [List.length_append,D.out.2.1,o]; omega,hS,t⟩
     have E:bv ((cR 6 (d++R)).map gU)=bv ((cR 6 d).map gU)++[.int .u8 ((gU (num R)).toNat:Int)]:=by
      rw [nW (by omega) d R m1 D.out.2.1 o,List.map_append,eu]; rfl
     have HP:=hO E; have A1:m1<3200:=by
      have h1:=congrArg List.length D.out.1; rw [kT,List.length_append,D.out.2.1] at h1; have:(l.take (k+1)).length<=401:=by simp; omega
      omega
     rw [t] at hx M; generalize num R=r at *; clear t; have hq:x1 / 2 ^ Y=r:=by
      rw [<-hx,Nat.add_comm,Nat.add_mul_div_right _ _ (Nat.two_pow_pos _),Nat.div_eq_of_lt M,Nat.zero_add]
     have hr:x1 % 2 ^ Y=sN:=by
      rw [<-hx,Nat.add_comm,Nat.add_mul_mod_self_right,Nat.mod_eq_of_lt M]
     have f1:(x1:Int) / 2 ^ Y=(r:Int):=by rw [<-hq]; simp
     have f2:=mand63 r (by omega); rw [Nat.mod_eq_of_lt (by omega)] at f2; clear hx C E o hS g; have A2:=hO hq; have Ar:=hO hr; clear hq hr; have J:(bv ((cR 6 d).map gU)).length+1<=140737488355328:=by
      rw [eo,List.length_map,iM]; have:=D.out.2.1; omega
     go_wp2_with fail
     refine(j4 w.heap.size w.heap.size _ _ wr U J f.size).mono ?_; rintro e w2 ⟨rfl,H,K⟩; have V:Lib.IsBuilder 214 5 w.heap.size w.heap.size (bv ((cR 6 (d++R)).map gU)) w2:=by
      rw [HP.out,<-pY r (by show r<64; omega)]
      exact .inr H
     have j:=f.trans K; clear H K U f f1 f2; have X:=mmask_any x1 Y (by omega) (by omega); rw [Ar.out] at X; have A3:2 ^ Y<=2 ^ 7:=Nat.pow_le_pow_right (by omega) (by omega); go_wp2; go_roundw
     case rel=>exact⟨m1+1,Y,sN,d++R,S,rfl,by first|rfl|rw [X],by omega,by omega,by omega,Aq,V,j⟩
     case measure=>simp [intOf]; omega
    .have As:eQ P1:=by
      have h:=lY (l.take (k+1)); rw [D.out.1] at h; exact h.right
     have Ai:x1<32:=by
      have h:=tD As; rw [D.out.2.2.1,D.out.2.2.2] at h; have:2 ^ T<=2 ^ 5:=Nat.pow_le_pow_right (by omega) (by omega); omega
     go_wp2; go_roundw
     case rel=>exact⟨k+1,m1,T,x1,d,P1,by omega,by go_num,rfl,rfl,by omega,Ai,Ao,D,U,f⟩
     case measure=>simp [intOf]; omega
  .obtain rfl:k=n:=by omega
   have Aj:l.take k=l:=by rw [<-HL.out,List.take_length]
   rw [Aj] at G; have Ak:eQ P:=by
    have h:=lY l; rw [G.out.1] at h; exact h.right
   by_cases h0:F=0
   .subst h0
    have hP:P=[]:=List.eq_nil_of_length_eq_zero G.out.2.2.1; have I:enc l=(cR 6 Q).map gU:=by
     have hz:(6 - (bP l).length % 6) % 6=0:=by
      rw [G.out.1,hP,List.append_nil,G.out.2.1]; omega
     unfold enc pad; rw [hz,G.out.1,hP]; simp
    have HE:=hO I; have N:=Tryz.Builder_String_any w.heap.size w.heap.size _ wr Z s.size; rw [<-HE.out] at N; clear I hP; go_wp2_with fail
    refine N.mono ?_; rintro e w2 ⟨rfl,K⟩; go_wp2; go_ret; exact⟨rfl,s.trans K⟩
   .have u:num (P++List.replicate (6 - F) 0)=x * 2 ^ (6 - F):=by
     rw [fV,num_zeros,G.out.2.2.2,List.length_replicate,Nat.add_zero]
    have o:(P++List.replicate (6 - F) 0).length=6:=by
     rw [List.length_append,List.length_replicate,G.out.2.2.1]; omega
    have q:=tD (Ak.append (zeros_is (6 - F))); rw [o] at q; obtain⟨z,hz⟩:=eA (x * 2 ^ (6 - F)); rw [u,hz] at q; have Al:(x:Int) * 2 ^ (6 - F)=(z:Int):=by rw [<-hz]; simp
    have hw:wrap64 ((x:Int) * 2 ^ (6 - F))=(z:Int):=by
     rw [Al]; unfold wrap64; omega
    have I:enc l=(cR 6 (Q++(P++List.replicate (6 - F) 0))).map gU:=by
     have At:(6 - (bP l).length % 6) % 6=6 - F:=by
      rw [G.out.1,List.length_append,G.out.2.1,G.out.2.2.1]; omega
     unfold enc pad; rw [At,G.out.1,List.append_assoc]
    have E:bv (enc l)=bv ((cR 6 Q).map gU)++[.int .u8 ((gU z).toNat:Int)]:=by
     rw [I,nW (by omega) Q _ m G.out.2.1 o,List.map_append,eu,u,hz]; rfl
    have HP:=hO E; have J:(bv ((cR 6 Q).map gU)).length+1<=140737488355328:=by
     rw [eo,List.length_map,iM]; have:=G.out.2.1; omega
    clear u o hz Al I E Aj hd; go_wp2_with fail
    refine(j4 w.heap.size w.heap.size _ _ wr Z J s.size).mono ?_; rintro e w2 ⟨rfl,H,K⟩; have V:Lib.IsBuilder 214 5 w.heap.size w.heap.size (bv (enc l)) w2:=by
     rw [HP.out,<-pY z (by show z<64; omega)]
     exact .inr H
    have j:=s.trans K; have N:=Tryz.Builder_String_any w.heap.size w.heap.size _ w2 V j.size; clear H K Z s hw; go_wp2_with fail
    refine N.mono ?_; rintro e w4 ⟨rfl,Au⟩; go_wp2; go_ret; exact⟨rfl,j.trans Au⟩
end
section
namespace Sha
def kkL:List Nat:=[1116352408,1899447441,3049323471,3921009573,961987163,1508970993,2453635748,2870763221,3624381080,310598401,607225278,1426881987,1925078388,2162078206,2614888103,3248222580,3835390401,4022224774,264347078,604807628,770255983,1249150122,1555081692,1996064986,2554220882,2821834349,2952996808,3210313671,3336571891,3584528711,113926993,338241895,666307205,773529912,1294757372,1396182291,1695183700,1986661051,2177026350,2456956037,2730485921,2820302411,3259730800,3345764771,3516065817,3600352804,4094571909,275423344,430227734,506948616,659060556,883997877,958139571,1322822218,1537002063,1747873779,1955562222,2024104815,2227730452,2361852424,2428436474,2756734187,3204031479,3329325298]
def ffL:List Nat:=[1779033703,3144134277,1013904242,2773480762,1359893119,2600822924,528734635,1541459225]
def prL:List Nat:=[2,3,5,7,11,13,17,19,23,29,31,37,41,43,47,53,59,61,67,71,73,79,83,89,97,101,103,107,109,113,127,131,137,139,149,151,157,163,167,173,179,181,191,193,197,199,211,223,227,229,233,239,241,251,257,263,269,271,277,281,283,293,307,311,313,317,331,337,347,349,353,359,367,373,379,383,389,397,401,409]
def oq (d:List UInt8):List UInt8:=sum kkL ffL d
def ij (d:List UInt8):List UInt8:=jO (oq d) 4
theorem psum_len(d:List UInt8):(oq d).length=32:=sum_len _ _ _
theorem pname_len(d:List UInt8):(ij d).length=8:=mF _ 4
end Sha
end
section
open Go.RowKit Mem Led
theorem lett_fine(n:Nat):(B64.gU n).toNat<=126/\32<=(B64.gU n).toNat/\(B64.gU n).toNat≠34/\(B64.gU n).toNat≠92:=by
 by_cases h:n<64
 .exact(by decide +kernel:∀ n,n<64->(B64.gU n).toNat<=126/\32<=(B64.gU n).toNat/\(B64.gU n).toNat≠34/\(B64.gU n).toNat≠92) n h
 .unfold B64.gU
  have:B64.qI[n]?=none:=List.getElem?_eq_none (by show 64<=n; omega)
  rw [List.getD_eq_getElem?_getD,this]; decide
theorem fine_enc(l:List UInt8):l7 (B64.enc l):=by
 have key:∀ c∈B64.enc l,c.toNat<=126/\32<=c.toNat/\c.toNat≠34/\c.toNat≠92:=fun c A=>by
  obtain⟨n,_,rfl⟩:=List.mem_map.1 A; exact lett_fine n
 exact⟨fun c A=>(key c A).1,fun c A=>(key c A).2⟩
theorem sd:∀ n,n<16->(Sha.cY n).toNat<=126/\32<=(Sha.cY n).toNat/\(Sha.cY n).toNat≠34/\(Sha.cY n).toNat≠92:=by decide +kernel
theorem nr(h:List UInt8):∀ i,∀ c∈Sha.jO h i,c.toNat<=126/\32<=c.toNat/\c.toNat≠34/\c.toNat≠92
 | 0,c,hc=>by cases hc
 | i+1,c,hc=>by
  simp only [Sha.jO,List.mem_append,List.mem_cons,List.not_mem_nil,or_false] at hc; rcases hc with(hc|rfl)|rfl
  .exact nr h i c hc
  .exact sd _ (by have:=(h.getD i 0).toNat_lt; omega)
  .exact sd _ (Nat.mod_lt _ (by omega))
theorem fine_pname(l:List UInt8):l7 (Sha.ij l):=⟨fun c A=>(nr _ 4 c A).1,fun c A=>(nr _ 4 c A).2⟩
theorem jtext_any(t:Txt) (w:World):Calls prog 179 #[.string (str t)] w fun e w'=>e=.returned (.agg (ar (bo t)).toArray)/\eD w w':=by
 have F:=Blk.new w (ar ⟨0,0,[],.slice none 0 0,.slice none 0 0⟩) 197
 obtain⟨A,D⟩:=kn F (vs:=ar (bo t)) rfl rfl (ia _ rfl rfl)
 obtain⟨G,B⟩:=eA ((w.alloc (.cells (ar ⟨0,0,[],.slice none 0 0,.slice none 0 0⟩).toArray 197)).setCells w.heap.size 0 (ar (bo t)))
 have C:Chg [] w G:=by rw [<-B]; exact((Chg.refl _ _).alloc _).setCells _ (.inr eG)
 rw [B] at A D
 have E:=C.below (fun _ h=>by cases h)
 have H:(stJs (.pointer (some ⟨w.heap.size,0,none⟩)) (.agg #[.int .i64 3,.int .i64 0,.string (str t),.slice none 0 0,.slice none 0 0])).run prog (w.alloc (.cells #[.int .i64 0,.int .i64 0,.string ⟨#[]⟩,.slice none 0 0,.slice none 0 0] 197))=.ok () G:=A
 have I:=D.has (n:=5) rfl
 have J:=D.arr (n:=5) rfl
 clear A B C F
 go_enter func179,ntmps179
 go_wp2
 refine bodyPost_ret (dr (P:=prog) Tryz.results179 _ _ w.heap.size 0 5 _ rfl underlying197 rfl mW I) rfl ?_
 exact⟨congrArg (fun a=>Ending.returned (Value.agg a)) J,E⟩
end
section
namespace Sha
theorem down_eq:∀ (n m:Nat),down n m=m / 2 ^ n
 | 0,m=>by simp [down]
 | n+1,m=>by rw [down,down_eq n m,Nat.div_div_eq_div_mul,<-Nat.pow_succ]
theorem turn_eq(m:Nat):∀ n,n<=32->turn n m=m / 2 ^ n+m % 2 ^ n * 2 ^ (32 - n)
 | 0,_=>by simp [turn,Nat.mod_one]
 | n+1,h=>by
  rw [turn,turn_eq m n (by omega)]; have A:2 ^ (32 - n)=2 * 2 ^ (32 - (n+1)):=by rw [<-Nat.pow_succ']; congr 1; omega
  have e2:m % 2 ^ (n+1)=m % 2 ^ n+2 ^ n * (m / 2 ^ n % 2):=Nat.mod_pow_succ; have e3:m / 2 ^ (n+1)=m / 2 ^ n / 2:=by rw [Nat.div_div_eq_div_mul,<-Nat.pow_succ]
  have e4:2 ^ n * 2 ^ (32 - (n+1))=2147483648:=by rw [<-Nat.pow_add,show n+(32 - (n+1))=31 by omega]
  have B:2 ^ n * (m / 2 ^ n % 2) * 2 ^ (32 - (n+1))=m / 2 ^ n % 2 * 2147483648:=by
   rw [<-e4,Nat.mul_comm (2 ^ n) (m / 2 ^ n % 2),Nat.mul_assoc]
  rw [A,e2,e3,Nat.add_mul,B]; unfold half; generalize m / 2 ^ n=a; have C:m % 2 ^ n * (2 * 2 ^ (32 - (n+1)))=2 * (m % 2 ^ n * 2 ^ (32 - (n+1))):=by rw [Nat.mul_left_comm]
  rw [C]; generalize m % 2 ^ n * 2 ^ (32 - (n+1))=b; omega
theorem turn_or(m:Nat) (A:m<4294967296) (n:Nat) (B:n<=32):m / 2 ^ n ||| m * 2 ^ (32 - n) % 4294967296=turn n m:=by
 have e:4294967296=2 ^ n * 2 ^ (32 - n):=by rw [<-Nat.pow_add,show n+(32 - n)=32 by omega]
 have C:m / 2 ^ n<2 ^ (32 - n):=by
  rw [Nat.div_lt_iff_lt_mul (Nat.two_pow_pos n),Nat.mul_comm,<-e]; exact A
 rw [turn_eq m n B]
 have D:m * 2 ^ (32 - n) % 4294967296=2 ^ (32 - n) * (m % 2 ^ n):=by
  rw [e,Nat.mul_mod_mul_right,Nat.mul_comm]
 rw [D,Nat.or_comm,<-Nat.two_pow_add_eq_or_of_lt C,Nat.mul_comm (m % 2 ^ n),Nat.add_comm]
end Sha
end
section
open Go.RowKit Mem
def qq:List Value:=[.int .i64 32,.int .i64 64,.int .i64 2,.int .i64 13,.int .i64 22,.int .i64 6,.int .i64 11,.int .i64 25,.int .i64 7,.int .i64 18,.int .i64 3,.int .i64 17,.int .i64 19,.int .i64 10]
structure F32 (hc:List Value):Prop where
 len:hc.length=14
 bits:hc[0]?=some (.int .i64 32)
 many:hc[1]?=some (.int .i64 64)
 one:∀ v∈hc,v.oneCell'=true
theorem pturned_any(A:List Value) (h:F32 A) (m n:Nat) (B:m<4294967296) (D:n<=32) (w:World) :
  Calls prog 280 #[.agg A.toArray,.int .u64 (m:Int),.int .i64 (n:Int)] w fun e w'=>e=.returned (.int .u64 ((Sha.turn n m:Nat):Int))/\eD w w':=by
 have C:=h.bits
 go_enter func280,ntmps280
 go_wp2
 refine az ?_
 repeat (go_big_quiet_step (fail))
 refine wpQuiet_nil ?_
 rintro _ ⟨p,rfl⟩
 have E:=aa (w.alloc (.cells A.toArray 269)) p
 generalize ab (w.alloc (.cells A.toArray 269)) p=H at *
 go_wp2
 go_ret
 refine⟨ret_v ?_,eH.trans (E.mono (by simp))⟩
 have F:(m:Int) / 2 ^ n=((m / 2 ^ n:Nat):Int):=by rw [Int.natCast_ediv,Int.natCast_pow]; rfl
 have e2:(m:Int) * 2 ^ (32 - n) % 4294967296=((m * 2 ^ (32 - n) % 4294967296:Nat):Int):=by rw [Int.natCast_emod,Int.natCast_mul,Int.natCast_pow]; rfl
 have G:m / 2 ^ n<4294967296:=Nat.lt_of_le_of_lt (Nat.div_le_self _ _) B
 rw [F,e2,u32_or_nat _ _ G (Nat.mod_lt _ (by omega)),Sha.turn_or m B n D]
 have:=Sha.gi B n
 have e3:IntKind.u64.wrap ((Sha.turn n m:Nat):Int)=((Sha.turn n m:Nat):Int):=by rw [IntKind.wrap_u64]; omega
 rw [e3]
 rfl
theorem size_F:(prog.info? 269).map (·.size)=some 14:=by kernel_rfl
def pX (x:Value):Sem Value:=Instr.loadAt 269 x
theorem tH(x:Value):Instr.loadAt 269 x=pX x:=rfl
attribute [go_sem ↓] tH
theorem lM{w:World} {g:Nat} {cs:List Value} {t:TypeId} (h:Blk w g cs t) (A:cs.length=14):(pX (.pointer (some ⟨g,0,none⟩))).run prog w=.ok (.agg cs.toArray) w:=by
 have:=bF (P:=prog) w 269 g 0 14 _ underlying269 rfl size_F (ev h A)
 rw [lr h A] at this
 exact this
theorem mn(F:List Value) (h:F32 F) (a b c m:Nat) (R:m<4294967296) (Y:a<=32) (Z:b<=32) (T:c<=32) (J:Bool) (w:World) :
  Calls prog 277 #[.agg F.toArray,.int .u64 (m:Int),.agg #[.int .i64 (a:Int),.int .i64 (b:Int),.int .i64 (c:Int)],.bool J] w fun e w'=>e=.returned (.int .u64 ((Sha.mixed a b c J m:Nat):Int))/\eD w w':=by
 obtain⟨W,K⟩:=eA ((w.alloc (.cells F.toArray 269)).alloc (.cells ([.int .i64 (a:Int),.int .i64 (b:Int),.int .i64 (c:Int)]:List Value).toArray 265))
 have B:Blk W w.heap.size F 269:=by rw [<-K]; exact(Blk.new _ _ _).alloc _
 have U:Blk W (w.heap.size+1) [.int .i64 (a:Int),.int .i64 (b:Int),.int .i64 (c:Int)] 265:=by
  have:=Blk.new (w.alloc (.cells F.toArray 269)) [.int .i64 (a:Int),.int .i64 (b:Int),.int .i64 (c:Int)] 265; rw [<-K]; simpa using this
 have L:eD w W:=by rw [<-K]; exact eH.alloc (by simp) _
 have G:=h.len
 have A:Hid (∀ n:Nat,n<=32->∀ w',Calls prog 280 #[.agg F.toArray,.int .u64 (m:Int),.int .i64 (n:Int)] w' fun e V=>e=.returned (.int .u64 ((Sha.turn n m:Nat):Int))/\eD w' V):=hO fun n j w'=>pturned_any F h m n R j w'
 have k:=lM B G
 have l:W.cell? ⟨w.heap.size+1,2,none⟩=some (.int .i64 (c:Int)):=U.cell 2
 have d:=hO K
 clear K
 obtain⟨z,D⟩:=eC (Sha.qd c J m)
 have S:=hO (show Sha.mixed a b c J m=Sha.turn a m ^^^ Sha.turn b m ^^^ z by rw [<-D.out]; rfl)
 have M:=Sha.gi R a
 have N:=Sha.gi R b
 have o:z<4294967296:=by rw [<-D.out]; exact Sha.np R c J
 have X:=u64_xor_nat (Sha.turn a m) (Sha.turn b m) (by omega) (by omega)
 have O:=u64_xor_nat (Sha.turn a m ^^^ Sha.turn b m) z (by have:=Sha.gI M N; omega) (by omega)
 obtain⟨u,f⟩:=eA (Sha.turn a m ^^^ Sha.turn b m)
 rw [f] at X O S
 obtain⟨r,g⟩:=eA (u ^^^ z)
 rw [g] at O S
 clear f g M N
 go_enter func277,ntmps277
 go_upto_region 1 with fail
 rw [show ((w.alloc (.cells F.toArray 269)).alloc (.cells #[.int .i64 (a:Int),.int .i64 (b:Int),.int .i64 (c:Int)] 265))=W from d.out]
 go_wp2_with fail
 refine(A.out c T _).mono ?_
 rintro e E ⟨rfl,H⟩
 have i:=B.below H
 have b2:=U.below H
 have C:eD w E:=L.trans (H.mono L.size)
 have t:∀ p,(pX (.pointer (some ⟨w.heap.size,0,none⟩))).run prog (ab E p)=.ok (.agg F.toArray) (ab E p):=fun p=>lM (i.below (aa E p)) G
 have x:∀ p,(ab E p).cell? ⟨w.heap.size+1,0,none⟩=some (.int .i64 (a:Int)):=fun p=>(b2.below (aa E p)).cell 0
 have y:∀ p,(ab E p).cell? ⟨w.heap.size+1,1,none⟩=some (.int .i64 (b:Int)):=fun p=>(b2.below (aa E p)).cell 1
 have i3:E.cell? ⟨w.heap.size+1,2,none⟩=some (.int .i64 (c:Int)):=b2.cell 2
 clear k l d B U i b2
 cases J
 .have Q:Sha.turn c m=z:=D.out
  rw [Q]; clear Q D; go_wp2_with fail
  refine az ?_; repeat (go_big_quiet_step (fail))
  go_big_quiet_step ((go_at_call 280; exact aw (A.out a Y _)))
  repeat (go_big_quiet_step (fail))
  go_big_quiet_step ((go_at_call 280; exact aw (A.out b Z _)))
  repeat (go_big_quiet_step (fail))
  refine wpQuiet_nil ?_; rintro _ ⟨p,rfl⟩; have I:=aa E p; generalize ab E p=q at *; go_wp2; go_ret; exact⟨ret_v (by rw [S.out]; rfl),C.trans (I.mono C.size)⟩
 .have Q:m / 2 ^ c=z:=by rw [<-D.out]; exact(Sha.down_eq c m).symm
  have s:(m:Int) / 2 ^ c=(z:Int):=by rw [<-Q,Int.natCast_ediv,Int.natCast_pow]; rfl
  clear Q D; go_wp2_with fail
  refine az ?_; repeat (go_big_quiet_step (fail))
  go_big_quiet_step ((go_at_call 280; exact aw (A.out a Y _)))
  repeat (go_big_quiet_step (fail))
  go_big_quiet_step ((go_at_call 280; exact aw (A.out b Z _)))
  repeat (go_big_quiet_step (fail))
  refine wpQuiet_nil ?_; rintro _ ⟨p,rfl⟩; have I:=aa E p; generalize ab E p=q at *; go_wp2; go_ret; exact⟨ret_v (by rw [S.out]; rfl),C.trans (I.mono C.size)⟩
theorem ks(x:Int) (w:World):Calls prog 269 #[.int .u64 x] w fun e w'=>e=.returned (.int .u32 (IntKind.u32.wrap x))/\eD w w':=by
 go_enter func269,ntmps269
 go_wp2
 go_ret
 exact⟨rfl,Below.refl _ _⟩
end
end Go.Proofs.YtmbpnkacggngkaaGreatDoor
