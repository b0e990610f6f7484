/- JsonV, JsonT, JsonX, B64Spec, JwkSolo, JwkMask, JwkEnc, ShaKL, JwkText, ShaTurn, PshWord, PshRow, PshMix (put together by bundle.py: only what is needed). -/
import Derived.Test.YtmbpnkacggngkaaGreatDoorLI11
set_option maxRecDepth 100000
set_option maxHeartbeats 16000000
namespace Go.Proofs.YtmbpnkacggngkaaGreatDoor
open Batch
open Tryz
section
open Go.RowKit Mem Led
theorem wval_2(b n:Nat)(w:World)(h:WS b n w)(m:Nat)(M:m<10 ^ 16)(O:n+16<=2000) :
  Calls prog 200 #[.pointer (some ⟨b,0,none⟩),.agg (am ⟨2,(m:Int),[],.slice none 0 0,.slice none 0 0⟩).toArray] w fun e w'=>e=.returned (.tuple #[])/\∃n',n'<=n+16/\WS b n' w'/\aL b w w':=by
 have F:=h.1
 obtain⟨W,D⟩:=eC (w.alloc (.cells (am ⟨2,(m:Int),[],.slice none 0 0,.slice none 0 0⟩).toArray 197))
 have E:Blk W w.heap.size (am ⟨2,(m:Int),[],.slice none 0 0,.slice none 0 0⟩) 197:=by rw[<-D];exact Blk.new _ _ _
 have B:eF w W:=eG D
 have G:aL b w W:=aL.of_below B (Nat.le_of_lt F)
 have C:=h.below B
 have L:Hid (w.alloc (.cells #[.int .i64 2,.int .i64 (m:Int),.string ⟨#[]⟩,.slice none 0 0,.slice none 0 0] 197)=W):=eA D
 clear D
 have Q:W.cell? ⟨w.heap.size,0,none⟩=some (.int .i64 2):=E.cell 0
 have R:W.cell? ⟨w.heap.size,1,none⟩=some (.int .i64 (m:Int)):=E.cell 1
 have k2:W.cell? ⟨w.heap.size,2,none⟩=some (.string ⟨#[]⟩):=E.cell 2
 have N:(nw (.pointer (some ⟨w.heap.size,0,none⟩))).run prog W=.ok (.agg #[.int .i64 2,.int .i64 (m:Int),.string ⟨#[]⟩,.slice none 0 0,.slice none 0 0]) W:=bP E
 have A:=kZ b n W C
 have S:decide (2000<(n:Int))=false:=by simp;omega
 have T:(n:Int)<=2000:=by omega
 have hx:=wnum_any b n m W C (by omega) M
 show Calls prog 200 #[.pointer (some ⟨b,0,none⟩),.agg #[.int .i64 2,.int .i64 (m:Int),.string ⟨#[]⟩,.slice none 0 0,.slice none 0 0]] w _
 go_enter func200,ntmps200
 go_upto_region 1 with fail
 rw[L.out]
 clear L
 go_wp2_with fail
 refine A.mono ?_
 rintro e U ⟨rfl,H⟩
 have:=H.symm
 subst this
 clear A
 go_wp2_with fail
 refine hx.mono ?_
 rintro e V ⟨rfl,n2,I,J,K⟩
 go_wp2
 go_end0
 exact⟨rfl,n2,I,J,G.trans K⟩
theorem wval_3(b n:Nat)(w:World)(h:WS b n w)(t:Txt)(ht:ms t)(L:t.length<=1000)(N:n+(t.length+2)<=2000) :
  Calls prog 200 #[.pointer (some ⟨b,0,none⟩),.agg (am ⟨3,0,t,.slice none 0 0,.slice none 0 0⟩).toArray] w fun e w'=>e=.returned (.tuple #[])/\∃n',n'<=n+(t.length+2)/\WS b n' w'/\aL b w w':=by
 have F:=h.1
 obtain⟨W,D⟩:=eC (w.alloc (.cells (am ⟨3,0,t,.slice none 0 0,.slice none 0 0⟩).toArray 197))
 have E:Blk W w.heap.size (am ⟨3,0,t,.slice none 0 0,.slice none 0 0⟩) 197:=by rw[<-D];exact Blk.new _ _ _
 have B:eF w W:=eG D
 have G:aL b w W:=aL.of_below B (Nat.le_of_lt F)
 have C:=h.below B
 have K:Hid (w.alloc (.cells #[.int .i64 3,.int .i64 0,.string (str t),.slice none 0 0,.slice none 0 0] 197)=W):=eA D
 clear D
 have O:W.cell? ⟨w.heap.size,0,none⟩=some (.int .i64 3):=E.cell 0
 have Q:W.cell? ⟨w.heap.size,1,none⟩=some (.int .i64 0):=E.cell 1
 have k2:W.cell? ⟨w.heap.size,2,none⟩=some (.string (str t)):=E.cell 2
 have M:(nw (.pointer (some ⟨w.heap.size,0,none⟩))).run prog W=.ok (.agg #[.int .i64 3,.int .i64 0,.string (str t),.slice none 0 0,.slice none 0 0]) W:=bP E
 have A:=kZ b n W C
 have R:decide (2000<(n:Int))=false:=by simp;omega
 have S:(n:Int)<=2000:=by omega
 have hx:=nW b n t W C (by omega) L ht
 show Calls prog 200 #[.pointer (some ⟨b,0,none⟩),.agg #[.int .i64 3,.int .i64 0,.string (str t),.slice none 0 0,.slice none 0 0]] w _
 go_enter func200,ntmps200
 go_upto_region 1 with fail
 rw[K.out]
 clear K
 go_wp2_with fail
 refine A.mono ?_
 rintro e T ⟨rfl,H⟩
 have:=H.symm
 subst this
 clear A
 go_wp2_with fail
 refine hx.mono ?_
 rintro e U ⟨rfl,I,J⟩
 go_wp2
 go_end0
 exact⟨rfl,_,by omega,I,G.trans J⟩
theorem wval_4(b n:Nat)(w:World)(h:WS b n w)(A:Option Addr)(C c:Nat)(g:Nat)(S:n+g<=2000)(Q:∀W,aL b w W->WS b n W->Calls prog 237 #[.pointer (some ⟨b,0,none⟩),.agg #[.int .i64 4,.int .i64 0,.string ⟨#[]⟩,.slice none 0 0,.slice A C c]] W fun e w'=>e=.returned (.tuple #[])/\∃n',0<n'/\n'<=n+g/\WS b n' w'/\aL b W w') :
  Calls prog 200 #[.pointer (some ⟨b,0,none⟩),.agg (am ⟨4,0,[],.slice none 0 0,.slice A C c⟩).toArray] w fun e w'=>e=.returned (.tuple #[])/\∃n',0<n'/\n'<=n+g/\WS b n' w'/\aL b w w':=by
 have I:=h.1
 obtain⟨W,G⟩:=eC (w.alloc (.cells (am ⟨4,0,[],.slice none 0 0,.slice A C c⟩).toArray 197))
 have H:Blk W w.heap.size (am ⟨4,0,[],.slice none 0 0,.slice A C c⟩) 197:=by rw[<-G];exact Blk.new _ _ _
 have D:eF w W:=eG G
 have E:aL b w W:=aL.of_below D (Nat.le_of_lt I)
 have F:=h.below D
 have O:Hid (w.alloc (.cells #[.int .i64 4,.int .i64 0,.string ⟨#[]⟩,.slice none 0 0,.slice A C c] 197)=W):=eA G
 clear G
 have T:W.cell? ⟨w.heap.size,0,none⟩=some (.int .i64 4):=H.cell 0
 have U:W.cell? ⟨w.heap.size,1,none⟩=some (.int .i64 0):=H.cell 1
 have k2:W.cell? ⟨w.heap.size,2,none⟩=some (.string ⟨#[]⟩):=H.cell 2
 have R:(nw (.pointer (some ⟨w.heap.size,0,none⟩))).run prog W=.ok (.agg #[.int .i64 4,.int .i64 0,.string ⟨#[]⟩,.slice none 0 0,.slice A C c]) W:=bP H
 have B:=kZ b n W F
 have V:decide (2000<(n:Int))=false:=by simp;omega
 have X:(n:Int)<=2000:=by omega
 have hx:=Q W E F
 show Calls prog 200 #[.pointer (some ⟨b,0,none⟩),.agg #[.int .i64 4,.int .i64 0,.string ⟨#[]⟩,.slice none 0 0,.slice A C c]] w _
 go_enter func200,ntmps200
 go_upto_region 1 with fail
 rw[O.out]
 clear O
 go_wp2_with fail
 refine B.mono ?_
 rintro e Y ⟨rfl,J⟩
 have:=J.symm
 subst this
 clear B
 go_wp2_with fail
 refine hx.mono ?_
 rintro e Z ⟨rfl,n2,K,L,M,N⟩
 go_wp2
 go_end0
 exact⟨rfl,n2,K,L,M,E.trans N⟩
theorem wval_5(b n:Nat)(w:World)(h:WS b n w)(A:Option Addr)(B c:Nat)(D:Option Addr)(E:Nat)(g:Nat)(U:n+g<=2000)(S:∀W,aL b w W->WS b n W->Calls prog 237 #[.pointer (some ⟨b,0,none⟩),.agg #[.int .i64 5,.int .i64 0,.string ⟨#[]⟩,.slice D B E,.slice A B c]] W fun e w'=>e=.returned (.tuple #[])/\∃n',0<n'/\n'<=n+g/\WS b n' w'/\aL b W w') :
  Calls prog 200 #[.pointer (some ⟨b,0,none⟩),.agg (am ⟨5,0,[],.slice D B E,.slice A B c⟩).toArray] w fun e w'=>e=.returned (.tuple #[])/\∃n',0<n'/\n'<=n+g/\WS b n' w'/\aL b w w':=by
 have K:=h.1
 obtain⟨W,I⟩:=eC (w.alloc (.cells (am ⟨5,0,[],.slice D B E,.slice A B c⟩).toArray 197))
 have J:Blk W w.heap.size (am ⟨5,0,[],.slice D B E,.slice A B c⟩) 197:=by rw[<-I];exact Blk.new _ _ _
 have F:eF w W:=eG I
 have G:aL b w W:=aL.of_below F (Nat.le_of_lt K)
 have H:=h.below F
 have R:Hid (w.alloc (.cells #[.int .i64 5,.int .i64 0,.string ⟨#[]⟩,.slice D B E,.slice A B c] 197)=W):=eA I
 clear I
 have V:W.cell? ⟨w.heap.size,0,none⟩=some (.int .i64 5):=J.cell 0
 have X:W.cell? ⟨w.heap.size,1,none⟩=some (.int .i64 0):=J.cell 1
 have k2:W.cell? ⟨w.heap.size,2,none⟩=some (.string ⟨#[]⟩):=J.cell 2
 have T:(nw (.pointer (some ⟨w.heap.size,0,none⟩))).run prog W=.ok (.agg #[.int .i64 5,.int .i64 0,.string ⟨#[]⟩,.slice D B E,.slice A B c]) W:=bP J
 have C:=kZ b n W H
 have Y:decide (2000<(n:Int))=false:=by simp;omega
 have Z:(n:Int)<=2000:=by omega
 have hx:=S W G H
 show Calls prog 200 #[.pointer (some ⟨b,0,none⟩),.agg #[.int .i64 5,.int .i64 0,.string ⟨#[]⟩,.slice D B E,.slice A B c]] w _
 go_enter func200,ntmps200
 go_upto_region 1 with fail
 rw[R.out]
 clear R
 go_wp2_with fail
 refine C.mono ?_
 rintro e d ⟨rfl,L⟩
 have:=L.symm
 subst this
 clear C
 go_wp2_with fail
 refine hx.mono ?_
 rintro e f ⟨rfl,n2,M,N,O,Q⟩
 go_wp2
 go_end0
 exact⟨rfl,n2,M,N,O,G.trans Q⟩
end
section
open Go.RowKit Mem Led
theorem qm(c:Nat):∀L:List JsV,fP (fun _=>c) L=c*L.length
 | []=>rfl
 | x::L=>by
  have:=qm c L;unfold fP at *;rw[List.map_cons,List.sum_cons,this,List.length_cons,Nat.mul_succ,Nat.add_comm]
def bt(t:Txt):JsV:=⟨3,0,t,.slice none 0 0,.slice none 0 0⟩
def gd:List Txt:=[[99,114,118],[107,105,100],[107,116,121],[120]]
def eO:List Txt:=[[100,111,109,97,105,110],[107,101,121,115],[110,117,109,98,101,114]]
def tEd:Txt:=[69,100,50,53,53,49,57]
def mO:Txt:=[79,75,80]
def mK(t:Txt):Prop:=Asc t/\ms t
def KeyV(B:Nat)(w:World)(v:JsV):Prop:=∃(D A:Option Addr) (E c:Nat) (C x:Txt),v=⟨5,0,[],.slice D 4 E,.slice A 4 c⟩/\Fit 4 E D/\Vs w B 1 D 4 (tv gd)/\Vs w B 5 A 4 (ah am [bt tEd,bt C,bt mO,bt x])/\mK C/\mK x/\C.length<=60/\x.length<=60
theorem KeyV.mono{B B':Nat}{w w':World}{v:JsV}(h:KeyV B w v)(D:Below B w w')(E:B<=B'):KeyV B' w' v:=by
 obtain⟨F,A,G,c,C,x,e,H,I,J,K⟩:=h
 exact⟨F,A,G,c,C,x,e,H,(I.below D).mono E,(J.below D).mono E,K⟩
theorem fine_ed:mK tEd:=by unfold mK Asc ms;decide
theorem fine_okp:mK mO:=by unfold mK Asc ms;decide
theorem qC(t:Txt)(ht:Asc t)(d:Nat)(w:World):Calls prog 199 #[.agg (am (bt t)).toArray,.int .i64 (d:Int)] w fun e w'=>e=.returned (.bool true)/\eF w w':=right_3 w d t ht
theorem right_key(w:World)(v:JsV)(h:KeyV w.heap.size w v):Calls prog 199 #[.agg (am v).toArray,.int .i64 4] w fun e w'=>e=.returned (.bool true)/\eF w w':=by
 obtain⟨F,A,G,c,B,x,rfl,H,I,J,K,L,_⟩:=h
 refine right_5 w 4 (by omega) (by omega) A 4 c [bt tEd,bt B,bt mO,bt x] J (by omega) F G gd I H (by unfold Asc;decide) (by decide) (fun k E C _=>?_)
 have key:∀t,Asc t->Calls prog 199 #[.agg (am (bt t)).toArray,.int .i64 ((4:Nat)-1:Int)] C fun e D=>e=.returned (.bool true)/\eF C D:=fun t ht=>qC t ht 3 C
 simp only[List.mem_cons,List.not_mem_nil,or_false] at E
 rcases E with rfl|rfl|rfl|rfl
 .exact key _ fine_ed.1
 .exact key _ K.1
 .exact key _ fine_okp.1
 .exact key _ L.1
theorem qi(b n:Nat)(t:Txt)(w:World)(h:WS b n w)(ht:ms t)(A:n+(t.length+2)<=2000)(B:t.length<=1000):Calls prog 200 #[.pointer (some ⟨b,0,none⟩),.agg (am (bt t)).toArray] w fun e w'=>e=.returned (.tuple #[])/\∃n',n'<=n+(t.length+2)/\WS b n' w'/\aL b w w':=wval_3 b n w h t ht B A
theorem value_key(b n:Nat)(v:JsV)(w:World)(h:WS b n w)(O:KeyV b w v)(Z:n+200<=2000):Calls prog 200 #[.pointer (some ⟨b,0,none⟩),.agg (am v).toArray] w fun e w'=>e=.returned (.tuple #[])/\∃n',n'<=n+200/\WS b n' w'/\aL b w w':=by
 obtain⟨K,A,L,c,C,x,rfl,d,G,H,Q,R,S,T⟩:=O
 refine(wval_5 b n w h A 4 c K L 200 (by omega) (fun W M U=>?_)).mono (fun e w' ⟨G,n',_,H⟩=>⟨G,n',H⟩)
 have N:fP (fun k=>k.text.length+2) [bt tEd,bt C,bt mO,bt x]<=150:=by
  simp[fP,bt,tEd,mO]
  omega
 refine(wkids_5 b n W A 4 c [bt tEd,bt C,bt mO,bt x] (fun k=>k.text.length+2) K L gd (G.below M.1) (by unfold gd ms;decide) U rfl (H.below M.1) (fun k D=>?_) (by simp only[List.length_cons,List.length_nil];omega) (by omega) (fun k D I n' _ J B=>?_)).mono ?_
 .simp only [List.mem_cons,List.not_mem_nil,or_false] at D
  rcases D with rfl|rfl|rfl|rfl<;>exact⟨rfl,rfl⟩
 .have key:∀t:Txt,k=bt t->ms t->t.length<=60->Calls prog 200 #[.pointer (some ⟨b,0,none⟩),.agg (am k).toArray] I fun e E=>e=.returned (.tuple #[])/\∃F,F<=n'+(k.text.length+2)/\WS b F E/\aL b I E:=fun t e V f=>by
   subst e;exact qi b n' t I J V B (by omega)
  simp only[List.mem_cons,List.not_mem_nil,or_false] at D;rcases D with rfl|rfl|rfl|rfl
  .exact key _ rfl fine_ed.2 (by decide)
  .exact key _ rfl Q.2 S
  .exact key _ rfl fine_okp.2 (by decide)
  .exact key _ rfl R.2 T
 .rintro e w' ⟨X,n',h0,B,Y⟩
  simp only[List.length_cons,List.length_nil] at B;exact⟨X,n',h0,by omega,Y⟩
def BunV(B:Nat)(w:World)(v:JsV):Prop:=∃(D A K:Option Addr) (E c n G:Nat) (C:Txt) (num:Nat) (F:List JsV),v=⟨5,0,[],.slice D 3 E,.slice A 3 c⟩/\Fit 3 E D/\Vs w B 1 D 3 (tv eO)/\Vs w B 5 A 3 (ah am [bt C,⟨4,0,[],.slice none 0 0,.slice K n G⟩,⟨2,(num:Int),[],.slice none 0 0,.slice none 0 0⟩])/\mK C/\C.length<=300/\num<=1000000000000000/\n<=8/\Vs w B 5 K n (ah am F)/\∀k∈F,KeyV B w k
theorem BunV.mono{B B':Nat}{w w':World}{v:JsV}(h:BunV B w v)(C:Below B w w')(D:B<=B'):BunV B' w' v:=by
 obtain⟨F,A,K,G,c,n,H,E,num,I,e,J,L,M,N,O,Q,R,S,T⟩:=h
 exact⟨F,A,K,G,c,n,H,E,num,I,e,J,(L.below C).mono D,(M.below C).mono D,N,O,Q,R,(S.below C).mono D,fun k U=>(T k U).mono C D⟩
theorem right_bun(w:World)(v:JsV)(h:BunV w.heap.size w v):Calls prog 199 #[.agg (am v).toArray,.int .i64 6] w fun e w'=>e=.returned (.bool true)/\eF w w':=by
 obtain⟨I,A,K,J,c,n,H,B,num,L,rfl,M,N,O,Q,T,U,V,R,S⟩:=h
 refine right_5 w 6 (by omega) (by omega) A 3 c [bt B,⟨4,0,[],.slice none 0 0,.slice K n H⟩,⟨2,(num:Int),[],.slice none 0 0,.slice none 0 0⟩] O (by omega) I J eO N M (by unfold Asc;decide) (by decide) (fun k D F E=>?_)
 simp only[List.mem_cons,List.not_mem_nil,or_false] at D
 rcases D with rfl|rfl|rfl
 .exact qC B Q.1 5 F
 .refine right_4 F 5 (by omega) (by omega) K n H L (Es.below R E) (by omega) (fun k D G C=>?_)
  exact right_key G k ((S k D).mono (E.trans (C.mono E.size)) (Nat.le_trans E.size C.size))
 .exact right_2 F 5 (num:Int) (by omega) (by omega)
theorem value_bun(b n:Nat)(v:JsV)(w:World)(h:WS b n w)(t:BunV b w v)(hn:n<=10):Calls prog 200 #[.pointer (some ⟨b,0,none⟩),.agg (am v).toArray] w fun e w'=>e=.returned (.tuple #[])/\∃n',0<n'/\n'<=2000/\WS b n' w'/\aL b w w':=by
 obtain⟨g,A,K,i,c,m,J,C,num,R,rfl,hf,T,U,u,h4,h5,h6,j,l⟩:=t
 have D:R.length=m:=by
  have:=j.len;rw[aJ eV] at this;omega
 refine(wval_5 b n w h A 3 c g i 1990 (by omega) (fun W S y=>?_)).mono ?_
 .obtain⟨G,H⟩:∃G:JsV->Nat,G=fun k=>if k.kind=4 then 1610 else if k.kind=2 then 16 else k.text.length+2:=⟨_,rfl⟩
  have o:G (bt C)=C.length+2:=by rw[H];rfl
  have q:G ⟨4,0,[],.slice none 0 0,.slice K m J⟩=1610:=by rw[H];rfl
  have r:G ⟨2,(num:Int),[],.slice none 0 0,.slice none 0 0⟩=16:=by rw[H];rfl
  have s:fP G [bt C,⟨4,0,[],.slice none 0 0,.slice K m J⟩,⟨2,(num:Int),[],.slice none 0 0,.slice none 0 0⟩]<=1930:=by
   simp only[fP,List.map_cons,List.map_nil,List.sum_cons,List.sum_nil,o,q,r];omega
  refine(wkids_5 b n W A 3 c [bt C,⟨4,0,[],.slice none 0 0,.slice K m J⟩,⟨2,(num:Int),[],.slice none 0 0,.slice none 0 0⟩] G g i eO (T.below S.1) (by unfold eO ms;decide) y rfl (U.below S.1) (fun k E=>?_) (by simp only[List.length_cons,List.length_nil];omega) (by omega) (fun k E V n' L I B=>?_)).mono ?_
  .simp only [List.mem_cons,List.not_mem_nil,or_false] at E
   rcases E with rfl|rfl|rfl<;>exact⟨rfl,rfl⟩
  .simp only [List.mem_cons,List.not_mem_nil,or_false] at E
   rcases E with rfl|rfl|rfl
   .rw [o] at B ⊢
    exact qi b n' C V I u.2 B (by omega)
   .rw [q] at B ⊢
    refine(wval_4 b n' V I K m J 1610 B (fun X F M=>?_)).mono (fun e w' ⟨T,n',_,U⟩=>⟨T,n',U⟩);have N:fP (fun _=>200) R=200*m:=by
     rw[<-D];exact qm 200 R
    refine(wkids_4 b n' X K m J R (fun _=>200) M D (j.below ((S.1.trans L.1).trans F.1)) (fun k E=>?_) (by rw[N,D];omega) (by omega) (fun k E z n3 Y Z d=>value_key b n3 k z Z ((l k E).mono (((S.1.trans L.1).trans F.1).trans Y.1) eH) d)).mono ?_
    .obtain⟨A3,A4,c3,c4,Aa,x,rfl,_⟩:=l k E
     exact⟨rfl,rfl⟩
    .rintro e w' ⟨O,n4,h0,f,Q⟩
     rw[N,D] at f;exact⟨O,n4,h0,by omega,Q⟩
   .rw [r] at B ⊢
    exact wval_2 b n' V I num (by omega) B
  .rintro e w' ⟨O,n',h0,B,Q⟩
   simp only[List.length_cons,List.length_nil] at B;exact⟨O,n',h0,by omega,Q⟩
 .rintro e w' ⟨O,n',h0,B,Q⟩
  exact⟨O,n',h0,by omega,Q⟩
end
section
open Go.RowKit Mem Led
theorem ws_new(w:World):WS w.heap.size 0 (w.alloc (.cells #[.pointer none,.slice none 0 0] 216)) :=
 ⟨by simp,([]:List Value),rfl,(by intro u A;cases A),Lib.fresh_isBuilder _ _ w⟩
theorem jwrite_any(v:JsV)(w:World)(h:BunV w.heap.size w v) :
  Calls prog 178 #[.agg (am v).toArray] w fun e w'=>(∃s,e=.returned (.tuple #[.string s,.int .i64 0]))/\eF w w':=by
 obtain⟨W,N⟩:=eC (w.alloc (.cells (am v).toArray 197))
 have L:Blk W w.heap.size (am v) 197:=by rw[<-N];exact Blk.new _ _ _
 have B:eF w W:=eG N
 have Z:=right_bun W v (h.mono B B.size)
 have c:=eA (fun b n W' (F:eF w W') (g:w.heap.size<=b) hw hn=>value_bun b n v W' hw (h.mono F g) hn)
 have O:=bP L
 have d:Hid (∀w',eF W w'->Blk w' w.heap.size (am v) 197):=eA fun w' F=>L.below F
 have M:∀w',Blk w' w.heap.size (am v) 197->(nw (.pointer (some ⟨w.heap.size,0,none⟩))).run prog w'=.ok (.agg (am v).toArray) w':=fun w' F=>bP F
 have M:=eA M
 clear h
 have Q:=L
 generalize (am v).toArray=X at *
 go_enter func178,ntmps178
 go_upto_region 1 with fail
 clear N
 go_wp2_with fail
 refine Z.mono ?_
 rintro e E ⟨rfl,G⟩
 have A:eF w E:=B.trans (G.mono B.size)
 have H:=ws_new E
 have I:eF E (E.alloc (.cells #[.pointer none,.slice none 0 0] 216)):=eI
 have C:=A.trans (I.mono A.size)
 have R:=M.out _ ((d.out E G).below I)
 have J:=c.out E.heap.size 0 _ C A.size H (by omega)
 clear Z M d c O Q L H
 go_wp2_with fail
 refine J.mono ?_
 rintro e f ⟨rfl,n3,S,i,K,T⟩
 have D:=kZ _ _ f K
 have U:=wstr_any _ _ f K S
 have j:decide (2000<(n3:Int))=false:=by simp;omega
 have k:(n3:Int)<=2000:=by omega
 clear J R
 go_wp2_with fail
 refine D.mono ?_
 rintro e m ⟨rfl,V⟩
 have:=V.symm
 subst this
 clear D
 go_wp2_with fail
 refine U.mono ?_
 rintro e o ⟨⟨l,_,rfl⟩,Y⟩
 go_wp2
 go_ret2
 exact⟨⟨_,rfl⟩,C.trans ((T.1.trans Y).mono A.size)⟩
end
section
namespace B64
def bits:Nat->Nat->List Nat
 | 0,_=>[]
 | k+1,n=>bits k (n / 2)++[n % 2]
def num(l:List Nat):Nat:=l.foldl (fun a b=>2*a+b) 0
def fi(l:List Nat):Prop:=∀b∈l,b<2
def dg(k:Nat)(L:List Nat):List Nat:=(List.range (L.length / k)).map fun i=>num ((L.drop (i*k)).take k)
theorem lL(k n:Nat):(bits k n).length=k:=by
 induction k generalizing n with
 | zero=>rfl
 | succ k ih=>simp[bits,ih]
theorem bits_is(k n:Nat):fi (bits k n):=by
 induction k generalizing n with
 | zero=>intro b A;simp[bits] at A
 | succ k ih =>
  intro b A;simp only[bits,List.mem_append,List.mem_singleton] at A;rcases A with A|rfl
  .exact ih _ b A
  .omega
theorem num_from(l:List Nat)(a:Nat):l.foldl (fun a b=>2*a+b) a=a*2 ^ l.length+num l:=by
 induction l generalizing a with
 | nil=>simp[num]
 | cons x l ih =>
  unfold num;simp only[List.foldl_cons,List.length_cons];rw[ih,ih (2*0+x),Nat.pow_succ,Nat.add_mul];simp only[Nat.mul_zero,Nat.zero_add];have:2*a*2 ^ l.length=a*(2 ^ l.length*2):=by rw[Nat.mul_comm 2 a,Nat.mul_assoc,Nat.mul_comm 2]
  omega
theorem gG(a b:List Nat):num (a++b)=num a*2 ^ b.length+num b:=by
 unfold num
 rw[List.foldl_append,num_from]
 rfl
theorem uN(x:Nat):num [x]=x:=by simp[num]
theorem uO{l:List Nat}(h:fi l):num l<2 ^ l.length:=by
 induction l with
 | nil=>simp[num]
 | cons x l ih =>
  have B:=ih fun b A=>h b (by simp[A]);have C:=h x (by simp);rw[show x::l=[x]++l from rfl,gG,uN,List.length_append,List.length_singleton,Nat.pow_add];have:x*2 ^ l.length<=1*2 ^ l.length:=Nat.mul_le_mul_right _ (by omega);omega
theorem num_bits(k n:Nat)(h:n<2 ^ k):num (bits k n)=n:=by
 induction k generalizing n with
 | zero=>simp at h;subst h;rfl
 | succ k ih =>
  rw[bits,gG,ih _ (by rw[Nat.pow_succ] at h;omega),uN]
  simp
  omega
theorem fi.append{a b:List Nat}(A:fi a)(B:fi b):fi (a++b):=fun x hx=>by
 rcases List.mem_append.1 hx with h|h
 .exact A x h
 .exact B x h
theorem fi.left{a b:List Nat}(h:fi (a++b)):fi a:=fun x hx=>h x (by simp[hx])
theorem fi.right{a b:List Nat}(h:fi (a++b)):fi b:=fun x hx=>h x (by simp[hx])
theorem zeros_is(k:Nat):fi (List.replicate k 0):=fun b A=>by
 rw[List.eq_of_mem_replicate A]
 omega
theorem num_zeros(k:Nat):num (List.replicate k 0)=0:=by
 induction k with
 | zero=>rfl
 | succ k ih=>rw[List.replicate_succ',gG,ih,uN];simp
theorem jw(k:Nat)(L:List Nat):(dg k L).length=L.length / k:=by simp[dg]
theorem sL{k:Nat}(A:0<k)(a b:List Nat)(m:Nat)(h:a.length=m*k):dg k (a++b)=dg k a++dg k b:=by
 unfold dg
 have B:(a++b).length / k=m+b.length / k:=by
  rw[List.length_append,h,Nat.add_comm,Nat.add_mul_div_right _ _ A,Nat.add_comm]
 have C:a.length / k=m:=by rw[h,Nat.mul_div_cancel _ A]
 rw[B,C,List.range_add,List.map_append,List.map_map]
 congr 1
 .apply List.map_congr_left
  intro i hi;have hi:=List.mem_range.1 hi;have D:(i+1)*k<=m*k:=Nat.mul_le_mul_right _ hi;rw[Nat.add_mul] at D;rw[List.drop_append_of_le_length (by omega),List.take_append_of_le_length (by simp;omega)]
 .apply List.map_congr_left
  intro i _;simp only[Function.comp];rw[List.drop_append,List.drop_eq_nil_of_le (by rw[h,Nat.add_mul];omega),List.nil_append,h,Nat.add_mul,Nat.add_sub_cancel_left]
theorem groups_one{k:Nat}(A:0<k)(a:List Nat)(h:a.length=k):dg k a=[num a]:=by
 unfold dg
 rw[h,Nat.div_self A,show (List.range 1)=[0] from rfl]
 simp[<-h]
theorem pi{k:Nat}(A:0<k)(a q:List Nat)(m:Nat)(h:a.length=m*k)(B:q.length=k):dg k (a++q)=dg k a++[num q]:=by
 rw[sL A a q m h,groups_one A q B]
def pad(L:List Nat):List Nat:=L++List.replicate ((6-L.length % 6) % 6) 0
def bS(l:List UInt8):List Nat:=l.flatMap fun c=>bits 8 c.toNat
def sa:List UInt8:=[65,66,67,68,69,70,71,72,73,74,75,76,77,78,79,80,81,82,83,84,85,86,87,88,89,90,97,98,99,100,101,102,103,104,105,106,107,108,109,110,111,112,113,114,115,116,117,118,119,120,121,122,48,49,50,51,52,53,54,55,56,57,45,95]
def iy(n:Nat):UInt8:=sa.getD n 63
def enc(l:List UInt8):List UInt8:=(dg 6 (pad (bS l))).map iy
theorem mI(l:List UInt8):fi (bS l):=fun b A=>by
 obtain⟨c,_,B⟩:=List.mem_flatMap.1 A
 exact bits_is _ _ b B
theorem lM(l:List UInt8):(bS l).length=l.length*8:=by
 induction l with
 | nil=>rfl
 | cons c l ih =>
  have:bS (c::l)=bits 8 c.toNat++bS l:=rfl;rw[this,List.length_append,lL,ih,List.length_cons];omega
theorem rZ(a b:List UInt8):bS (a++b)=bS a++bS b:=by simp[bS]
theorem pad_length(L:List Nat):∃m,(pad L).length=m*6/\m=(L.length+5) / 6:=by
 refine⟨(L.length+5) / 6,?_,rfl⟩
 simp[pad]
 omega
theorem enc_length(l:List UInt8):(enc l).length=(l.length*8+5) / 6:=by
 obtain⟨m,A,B⟩:=pad_length (bS l)
 unfold enc
 rw[List.length_map,jw,A,Nat.mul_div_cancel _ (by omega),B,lM]
end B64
end
section
open Go.RowKit Mem
theorem vi(l:List UInt8)(k:Nat)(h:k<l.length):B64.bS (l.take (k+1))=B64.bS (l.take k)++B64.bits 8 l[k].toNat:=by
 rw[List.take_succ_eq_append_getElem h,B64.rZ]
 simp[B64.bS]
theorem oL(b:Nat)(w:World)(h0:w.cell? ⟨b,0,none⟩=some (.pointer none))(A:w.shape? b=some (214,2))(D:w.frozen? ⟨b,0,none⟩=false) :
  Calls prog 257 #[.pointer (some ⟨b,0,none⟩)] w fun e w'=>e=.returned (.tuple #[])/\w'=w.setCell ⟨b,0,none⟩ (.pointer (some ⟨b,0,none⟩)):=by
 have X:=Tryz.Builder_Extra_169
 obtain⟨j,C,B⟩:=Option.map_eq_some_iff.1 X.sizeBuilder
 go_enter func257,ntmps257
 go_wp2
 rw[Lib.run_to_unsafe w ⟨b,0,none⟩ underlying212 underlying286 C (by rw[B];decide) A (Nat.zero_lt_succ 1)]
 simp only[Result.andThen]
 rw[Oper.upon_value]
 go_wp2
 rw[run_callFunc_extern func271 (by kernel_rfl) (by kernel_rfl) (by kernel_rfl) (e:=Extern.AbiNoEscape.same) (by kernel_rfl)]
 rw[Lib.run_noEscape]
 simp only[Result.andThen]
 rw[Oper.upon_value]
 go_wp2
 rw[Lib.run_from_unsafe w ⟨b,0,none⟩ underlying286 underlying212 C A (by kernel_rfl)]
 simp only[Result.andThen]
 rw[Oper.upon_value]
 go_wp2
 go_end0
 exact⟨rfl,rfl⟩
theorem rR(B b:Nat)(bs:List Value)(w:World)(h:Lib.IsBuilder 214 5 B b bs w) :
  Calls prog 257 #[.pointer (some ⟨b,0,none⟩)] w fun e w'=>e=.returned (.tuple #[])/\(Lib.BuilderAt 214 5 B b (.pointer (some ⟨b,0,none⟩)) bs w'/\Below B w w'):=by
 rcases h with h|h
 .refine(oL b w h.cell0 h.shape h.frozen0).mono ?_
  rintro e w' ⟨rfl,rfl⟩;exact⟨rfl,h.used _,(Below.refl B w).setCell (p:=⟨b,0,none⟩) h.1 _⟩
 .refine(lG b w h.cell0).mono ?_
  rintro e w' ⟨rfl,rfl⟩;exact⟨rfl,h,Below.refl B _⟩
theorem kR(B b:Nat)(bs:List Value)(c:Int)(w:World)(h:Lib.IsBuilder 214 5 B b bs w)(V:bs.length+1<=140737488355328)(J:B<=w.heap.size) :
  Calls prog 227 #[.pointer (some ⟨b,0,none⟩),.int .u8 c] w fun e w'=>e=.returned .nilIface/\(Lib.BuilderAt 214 5 B b (.pointer (some ⟨b,0,none⟩)) (bs++[.int .u8 c]) w'/\Below B w w'):=by
 obtain⟨Y,hi,K,L,M⟩:=an rx
 go_enter func227,ntmps227
 go_wp2_with fail
 refine(rR B b bs _ h).mono ?_
 rintro e H ⟨rfl,Z,D⟩
 obtain⟨X,v,E,G,N⟩:=Z
 have m:H.cell? ⟨b,0,none⟩=some (.pointer (some ⟨b,0,none⟩)):=by rw[Lib.cell_of_heap E];rfl
 have n:H.cell? ⟨b,1,none⟩=some v:=by rw[Lib.cell_of_heap E];rfl
 have O:B<=H.heap.size:=Nat.le_trans J D.size
 have Q:bs.length+1<=maxLen:=by unfold maxLen;omega
 go_wp2_with (at_builtin;go_must (refine bi rfl (.tmp 11) (.tmp 13) 62 rfl B Y (.int .u8 0) 1 underlying62 hi K L M rfl _ _ _ rfl G rfl rfl Q (by omega) O ?_))
 intro d f I A g1 o C
 have R:b<H.heap.size:=by
  rcases Nat.lt_or_ge b H.heap.size with S|S
  .exact S
  .simp [Array.getElem?_eq_none S] at E
 have F:I.heap[b]?=some (.cells #[.pointer (some ⟨b,0,none⟩),v] 214 (0,0)):=by
  rw[C.block b (by simp;omega) (fun e=>N e.symm),Lib.alloc_old H _ b R]
  exact E
 have q:I.cell? ⟨b,0,none⟩=some (.pointer (some ⟨b,0,none⟩)):=by rw[Lib.cell_of_heap F];rfl
 have r:I.cell? ⟨b,1,none⟩=some v:=by rw[Lib.cell_of_heap F];rfl
 have s:I.frozen? ⟨b,1,none⟩=false:=Lib.frozen_of_heap F 1
 obtain⟨g,cap,U⟩:∃g cap,Value.slice d (bs.length+1) f=.slice (some ⟨g,0,none⟩) (bs.length+1) cap:=by
  rcases A.2 with⟨_,h0⟩|⟨g,cap,i,j,_⟩
  .omega
  .exact⟨g,cap,j⟩
 rw[U] at A ⊢
 go_wp2
 go_ret
 refine⟨rfl,?_,?_⟩
 .exact Lib.BuilderAt.put (T:=214) (e:=5) X F (bs':=bs++[.int .u8 c]) (by simpa using A) (by decide)
 .exact((D.alloc (by have:=D.size;omega) _).grown C (by have:=D.size;simp;omega) (fun k l=>(G.lt k l).1)).setCell (p:=⟨b,1,none⟩) X _
end
section
open Go.RowKit
theorem ju(n:Int)(A:0<=n)(B:n<2 ^ 20):IntKind.i64.wrap n=n:=by rw[IntKind.wrap_i64];omega
section
variable (x:Nat)(hx:x<1048576)
include hx
theorem mand63:Go.bits .and .i64 (x:Int) 63=((x % 64:Nat):Int):=by
 have:=bits_mask .i64 20 (by decide) ju 6 (by decide) (x:Int) (by omega) (by omega)
 simpa using this
end
theorem mor256(x y:Nat)(hx:x<4096)(A:y<256):Go.bits .or .i64 ((x:Int)*256) (y:Int)=((x*256+y:Nat):Int):=by
 have:=bits_join .i64 20 (by decide) ju 8 ((x:Int)*256) (y:Int) (by omega) (by omega) (by omega) (by omega) (by omega) (by omega)
 rw[this]
 omega
theorem mmask_any(x A:Nat)(hx:x<1048576)(h:A<=7):Go.bits .and .i64 (x:Int) (wrap64 (wrap64 (2 ^ A)-1))=((x % 2 ^ A:Nat):Int):=by
 have key:∀i,i<=7->wrap64 (wrap64 (2 ^ i)-1)=2 ^ i-1:=by decide +kernel
 rw[key A h,bits_mask .i64 20 (by decide) ju A (by omega) (x:Int) (by omega) (by omega)]
 simp
end
section
open Go.RowKit Mem B64
def letters:ByteArray:=⟨#[65,66,67,68,69,70,71,72,73,74,75,76,77,78,79,80,81,82,83,84,85,86,87,88,89,90,97,98,99,100,101,102,103,104,105,106,107,108,109,110,111,112,113,114,115,116,117,118,119,120,121,122,48,49,50,51,52,53,54,55,56,57,45,95]⟩
theorem rh(r:Nat)(h:r<letters.size):letters[r]=iy r:=by
 have A:r<sa.length:=h
 unfold iy
 rw[List.getD_eq_getElem?_getD,List.getElem?_eq_getElem A]
 rfl
theorem encode_any(A:Option Addr)(n c B:Nat)(l:List UInt8)(w:World)(hd:Bs w B A n l)(hn:n<=400)(hB:B<=w.heap.size) :
  Calls prog 198 #[.slice A n c] w fun e w'=>e=.returned (.string (str (enc l)))/\eF w w':=by
 have Aa:=hd.len
 have HL:=eA Aa
 clear Aa
 have Ab:Lib.IsBuilder 214 5 w.heap.size w.heap.size [] (w.alloc (.cells #[.pointer none,.slice none 0 0] 214)):=Lib.fresh_isBuilder _ _ w
 have O:eF w (w.alloc (.cells #[.pointer none,.slice none 0 0] 214)):=eI
 go_enter func198,ntmps198
 go_wp2
 go_loopw [4,5,10] (fun vw vn i wr=>∃(k m F x:Nat) (Q P:List Nat),k<=n/\i=.int .i64 k/\vn=.int .i64 F/\vw=.int .i64 x/\F<6/\x<32/\m<=3200/\Hid (bS (l.take k)=Q++P/\Q.length=m*6/\P.length=F/\num P=x)/\Lib.IsBuilder 214 5 w.heap.size w.heap.size (bv ((dg 6 Q).map iy)) wr/\eF w wr) (fun _ _ i _=>n-(intOf i).toNat)
 case atStart=>exact⟨0,0,0,0,[],[],by omega,rfl,rfl,rfl,by omega,by omega,by omega,eA ⟨rfl,rfl,rfl,rfl⟩,Ab,O⟩
 case round =>
  obtain⟨k,m,F,x,Q,P,hk,rfl,rfl,rfl,Ay,hx,hm,G,Z,s⟩:=hrel;clear Ab O;by_cases Am:k<n
  .obtain⟨ad,hl,rfl,Aw,An⟩:=(hd.next hB s).at_ Am
   have Ac:=vi l k hl;have hc:l[k].toNat<256:=l[k].toNat_lt;generalize l[k].toNat=b at *;have Ad:=mor256 x b (by omega) hc;obtain⟨y,hy⟩:=eC (x*256+b);rw[hy] at Ad;have Az:y<8192:=by omega
   have L:num (B64.bits 8 b)=b:=num_bits 8 b (by omega);have Ae:Hid (bS (l.take (k+1))=Q++(P++B64.bits 8 b)/\Q.length=m*6/\(P++B64.bits 8 b).length=F+8/\num (P++B64.bits 8 b)=y):=by
    refine eA ⟨?_,G.out.2.1,?_,?_⟩
    .rw [Ac,G.out.1,List.append_assoc]
    .rw [List.length_append,lL,G.out.2.2.1]
    .rw [gG,lL,L,G.out.2.2.2]
     omega
   clear Ac L hy G hd;generalize P++B64.bits 8 b=P2 at Ae;go_wp2_with fail
   go_loopw [4,5] (fun vw vn wr=>∃(m F x:Nat) (Q P:List Nat),vn=.int .i64 F/\vw=.int .i64 x/\F<=13/\x<8192/\m<=3200/\Hid (bS (l.take (k+1))=Q++P/\Q.length=m*6/\P.length=F/\num P=x)/\Lib.IsBuilder 214 5 w.heap.size w.heap.size (bv ((dg 6 Q).map iy)) wr/\eF w wr) (fun _ vn _=>(intOf vn).toNat)
   case atStart=>exact⟨m,F+8,y,Q,P2,by go_num,rfl,by omega,by omega,by omega,Ae,Z,s⟩
   case round =>
    clear Ad;obtain⟨m1,T,x1,d,P1,rfl,rfl,Ax,A0,Ao,D,U,f⟩:=hrel;by_cases A1:6<=T
    .obtain⟨Y,Ap⟩:∃Y,T=Y+6:=⟨T-6,by omega⟩
     subst Ap;obtain⟨R,S,g,o,hS⟩:∃R S,P1=R++S/\R.length=6/\S.length=Y:=⟨P1.take 6,P1.drop 6,(List.take_append_drop 6 P1).symm,by simp[D.out.2.2.1],by simp[D.out.2.2.1]⟩;have C:=mI (l.take (k+1));rw[D.out.1,g] at C;have Af:=C.right.left;have Ag:=C.right.right;have Ah:=uO Af;have M:=uO Ag;have hx:=D.out.2.2.2;rw[g,gG] at hx;rw[o] at Ah;rw[hS] at M hx;obtain⟨sN,t⟩:=eC (num S);have Aq:Hid (bS (l.take (k+1))=(d++R)++S/\(d++R).length=(m1+1)*6/\S.length=Y/\num S=sN):=eA ⟨by rw[D.out.1,g,List.append_assoc],by rw[List.length_append,D.out.2.1,o];omega,hS,t⟩
     have E:bv ((dg 6 (d++R)).map iy)=bv ((dg 6 d).map iy)++[.int .u8 ((iy (num R)).toNat:Int)]:=by
      rw[pi (by omega) d R m1 D.out.2.1 o,List.map_append,dW];rfl
     have HP:=eA E;have A2:m1<3200:=by
      have h1:=congrArg List.length D.out.1;rw[lM,List.length_append,D.out.2.1] at h1;have:(l.take (k+1)).length<=401:=by simp;omega
      omega
     rw[t] at hx M;generalize num R=r at *;clear t;have hq:x1 / 2 ^ Y=r:=by
      rw[<-hx,Nat.add_comm,Nat.add_mul_div_right _ _ (Nat.two_pow_pos _),Nat.div_eq_of_lt M,Nat.zero_add]
     have hr:x1 % 2 ^ Y=sN:=by
      rw[<-hx,Nat.add_comm,Nat.add_mul_mod_self_right,Nat.mod_eq_of_lt M]
     have f1:(x1:Int) / 2 ^ Y=(r:Int):=by rw[<-hq];simp
     have f2:=mand63 r (by omega);rw[Nat.mod_eq_of_lt (by omega)] at f2;clear hx C E o hS g;have A3:=eA hq;have Ar:=eA hr;clear hq hr;have J:(bv ((dg 6 d).map iy)).length+1<=140737488355328:=by
      rw[dV,List.length_map,jw];have:=D.out.2.1;omega
     go_wp2_with fail
     refine(kR w.heap.size w.heap.size _ _ wr U J f.size).mono ?_;rintro e w2 ⟨rfl,H,K⟩;have V:Lib.IsBuilder 214 5 w.heap.size w.heap.size (bv ((dg 6 (d++R)).map iy)) w2:=by
      rw[HP.out,<-rh r (by show r<64;omega)]
      exact .inr H
     have j:=f.trans K;clear H K U f f1 f2;have X:=mmask_any x1 Y (by omega) (by omega);rw[Ar.out] at X;have A4:2 ^ Y<=2 ^ 7:=Nat.pow_le_pow_right (by omega) (by omega);go_wp2;go_roundw
     case rel=>exact⟨m1+1,Y,sN,d++R,S,rfl,by first|rfl|rw[X],by omega,by omega,by omega,Aq,V,j⟩
     case measure=>simp[intOf];omega
    .have As:fi P1:=by
      have h:=mI (l.take (k+1));rw[D.out.1] at h;exact h.right
     have Ai:x1<32:=by
      have h:=uO As;rw[D.out.2.2.1,D.out.2.2.2] at h;have:2 ^ T<=2 ^ 5:=Nat.pow_le_pow_right (by omega) (by omega);omega
     go_wp2;go_roundw
     case rel=>exact⟨k+1,m1,T,x1,d,P1,by omega,by go_num,rfl,rfl,by omega,Ai,Ao,D,U,f⟩
     case measure=>simp[intOf];omega
  .obtain rfl:k=n:=by omega
   have Aj:l.take k=l:=by rw[<-HL.out,List.take_length]
   rw[Aj] at G;have Ak:fi P:=by
    have h:=mI l;rw[G.out.1] at h;exact h.right
   by_cases h0:F=0
   .subst h0
    have hP:P=[]:=List.eq_nil_of_length_eq_zero G.out.2.2.1;have I:enc l=(dg 6 Q).map iy:=by
     have hz:(6-(bS l).length % 6) % 6=0:=by
      rw[G.out.1,hP,List.append_nil,G.out.2.1];omega
     unfold enc pad;rw[hz,G.out.1,hP];simp
    have HE:=eA I;have N:=Tryz.Builder_String_any w.heap.size w.heap.size _ wr Z s.size;rw[<-HE.out] at N;clear I hP;go_wp2_with fail
    refine N.mono ?_;rintro e w2 ⟨rfl,K⟩;go_wp2;go_ret;exact⟨rfl,s.trans K⟩
   .have u:num (P++List.replicate (6-F) 0)=x*2 ^ (6-F):=by
     rw[gG,num_zeros,G.out.2.2.2,List.length_replicate,Nat.add_zero]
    have o:(P++List.replicate (6-F) 0).length=6:=by
     rw[List.length_append,List.length_replicate,G.out.2.2.1];omega
    have q:=uO (Ak.append (zeros_is (6-F)));rw[o] at q;obtain⟨z,hz⟩:=eC (x*2 ^ (6-F));rw[u,hz] at q;have Al:(x:Int)*2 ^ (6-F)=(z:Int):=by rw[<-hz];simp
    have hw:wrap64 ((x:Int)*2 ^ (6-F))=(z:Int):=by
     rw[Al];unfold wrap64;omega
    have I:enc l=(dg 6 (Q++(P++List.replicate (6-F) 0))).map iy:=by
     have Au:(6-(bS l).length % 6) % 6=6-F:=by
      rw[G.out.1,List.length_append,G.out.2.1,G.out.2.2.1];omega
     unfold enc pad;rw[Au,G.out.1,List.append_assoc]
    have E:bv (enc l)=bv ((dg 6 Q).map iy)++[.int .u8 ((iy z).toNat:Int)]:=by
     rw[I,pi (by omega) Q _ m G.out.2.1 o,List.map_append,dW,u,hz];rfl
    have HP:=eA E;have J:(bv ((dg 6 Q).map iy)).length+1<=140737488355328:=by
     rw[dV,List.length_map,jw];have:=G.out.2.1;omega
    clear u o hz Al I E Aj hd;go_wp2_with fail
    refine(kR w.heap.size w.heap.size _ _ wr Z J s.size).mono ?_;rintro e w2 ⟨rfl,H,K⟩;have V:Lib.IsBuilder 214 5 w.heap.size w.heap.size (bv (enc l)) w2:=by
     rw[HP.out,<-rh z (by show z<64;omega)]
     exact .inr H
    have j:=s.trans K;have N:=Tryz.Builder_String_any w.heap.size w.heap.size _ w2 V j.size;clear H K Z s hw;go_wp2_with fail
    refine N.mono ?_;rintro e w4 ⟨rfl,Av⟩;go_wp2;go_ret;exact⟨rfl,j.trans Av⟩
end
section
namespace Sha
def kkL:List Nat:=[1116352408,1899447441,3049323471,3921009573,961987163,1508970993,2453635748,2870763221,3624381080,310598401,607225278,1426881987,1925078388,2162078206,2614888103,3248222580,3835390401,4022224774,264347078,604807628,770255983,1249150122,1555081692,1996064986,2554220882,2821834349,2952996808,3210313671,3336571891,3584528711,113926993,338241895,666307205,773529912,1294757372,1396182291,1695183700,1986661051,2177026350,2456956037,2730485921,2820302411,3259730800,3345764771,3516065817,3600352804,4094571909,275423344,430227734,506948616,659060556,883997877,958139571,1322822218,1537002063,1747873779,1955562222,2024104815,2227730452,2361852424,2428436474,2756734187,3204031479,3329325298]
def ffL:List Nat:=[1779033703,3144134277,1013904242,2773480762,1359893119,2600822924,528734635,1541459225]
def prL:List Nat:=[2,3,5,7,11,13,17,19,23,29,31,37,41,43,47,53,59,61,67,71,73,79,83,89,97,101,103,107,109,113,127,131,137,139,149,151,157,163,167,173,179,181,191,193,197,199,211,223,227,229,233,239,241,251,257,263,269,271,277,281,283,293,307,311,313,317,331,337,347,349,353,359,367,373,379,383,389,397,401,409]
def pC(d:List UInt8):List UInt8:=sum kkL ffL d
def iW(d:List UInt8):List UInt8:=kD (pC d) 4
theorem psum_len(d:List UInt8):(pC d).length=32:=sum_len _ _ _
theorem pname_len(d:List UInt8):(iW d).length=8:=nA _ 4
end Sha
end
section
open Go.RowKit Mem Led
theorem lett_fine(n:Nat):(B64.iy n).toNat<=126/\32<=(B64.iy n).toNat/\(B64.iy n).toNat≠34/\(B64.iy n).toNat≠92:=by
 by_cases h:n<64
 .exact(by decide +kernel:∀n,n<64->(B64.iy n).toNat<=126/\32<=(B64.iy n).toNat/\(B64.iy n).toNat≠34/\(B64.iy n).toNat≠92) n h
 .unfold B64.iy
  have:B64.sa[n]?=none:=List.getElem?_eq_none (by show 64<=n;omega)
  rw[List.getD_eq_getElem?_getD,this];decide
theorem fine_enc(l:List UInt8):mK (B64.enc l):=by
 have key:∀c∈B64.enc l,c.toNat<=126/\32<=c.toNat/\c.toNat≠34/\c.toNat≠92:=fun c A=>by
  obtain⟨n,_,rfl⟩:=List.mem_map.1 A;exact lett_fine n
 exact⟨fun c A=>(key c A).1,fun c A=>(key c A).2⟩
theorem tN:∀n,n<16->(Sha.dp n).toNat<=126/\32<=(Sha.dp n).toNat/\(Sha.dp n).toNat≠34/\(Sha.dp n).toNat≠92:=by decide +kernel
theorem oF(h:List UInt8):∀i,∀c∈Sha.kD h i,c.toNat<=126/\32<=c.toNat/\c.toNat≠34/\c.toNat≠92
 | 0,c,hc=>by cases hc
 | i+1,c,hc=>by
  simp only[Sha.kD,List.mem_append,List.mem_cons,List.not_mem_nil,or_false] at hc;rcases hc with(hc|rfl)|rfl
  .exact oF h i c hc
  .exact tN _ (by have:=(h.getD i 0).toNat_lt;omega)
  .exact tN _ (Nat.mod_lt _ (by omega))
theorem fine_pname(l:List UInt8):mK (Sha.iW l):=⟨fun c A=>(oF _ 4 c A).1,fun c A=>(oF _ 4 c A).2⟩
theorem jtext_any(t:Txt)(w:World):Calls prog 179 #[.string (str t)] w fun e w'=>e=.returned (.agg (am (bt t)).toArray)/\eF w w':=by
 have F:=Blk.new w (am ⟨0,0,[],.slice none 0 0,.slice none 0 0⟩) 197
 obtain⟨A,D⟩:=ld F (vs:=am (bt t)) rfl rfl (iL _ rfl rfl)
 obtain⟨G,B⟩:=eC ((w.alloc (.cells (am ⟨0,0,[],.slice none 0 0,.slice none 0 0⟩).toArray 197)).setCells w.heap.size 0 (am (bt t)))
 have C:Chg [] w G:=by rw[<-B];exact((Chg.refl _ _).alloc _).setCells _ (.inr eH)
 rw[B] at A D
 have E:=C.below (fun _ h=>by cases h)
 have H:(stJs (.pointer (some ⟨w.heap.size,0,none⟩)) (.agg #[.int .i64 3,.int .i64 0,.string (str t),.slice none 0 0,.slice none 0 0])).run prog (w.alloc (.cells #[.int .i64 0,.int .i64 0,.string ⟨#[]⟩,.slice none 0 0,.slice none 0 0] 197))=.ok () G:=A
 have I:=D.has (n:=5) rfl
 have J:=D.arr (n:=5) rfl
 clear A B C F
 go_enter func179,ntmps179
 go_wp2
 refine bodyPost_ret (dA (P:=prog) Tryz.results179 _ _ w.heap.size 0 5 _ rfl underlying197 rfl ol I) rfl ?_
 exact⟨congrArg (fun a=>Ending.returned (Value.agg a)) J,E⟩
end
section
namespace Sha
theorem down_eq:∀(n m:Nat),down n m=m / 2 ^ n
 | 0,m=>by simp[down]
 | n+1,m=>by rw[down,down_eq n m,Nat.div_div_eq_div_mul,<-Nat.pow_succ]
theorem turn_eq(m:Nat):∀n,n<=32->turn n m=m / 2 ^ n+m % 2 ^ n*2 ^ (32-n)
 | 0,_=>by simp[turn,Nat.mod_one]
 | n+1,h=>by
  rw[turn,turn_eq m n (by omega)];have A:2 ^ (32-n)=2*2 ^ (32-(n+1)):=by rw[<-Nat.pow_succ'];congr 1;omega
  have e2:m % 2 ^ (n+1)=m % 2 ^ n+2 ^ n*(m / 2 ^ n % 2):=Nat.mod_pow_succ;have e3:m / 2 ^ (n+1)=m / 2 ^ n / 2:=by rw[Nat.div_div_eq_div_mul,<-Nat.pow_succ]
  have e4:2 ^ n*2 ^ (32-(n+1))=2147483648:=by rw[<-Nat.pow_add,show n+(32-(n+1))=31 by omega]
  have B:2 ^ n*(m / 2 ^ n % 2)*2 ^ (32-(n+1))=m / 2 ^ n % 2*2147483648:=by
   rw[<-e4,Nat.mul_comm (2 ^ n) (m / 2 ^ n % 2),Nat.mul_assoc]
  rw[A,e2,e3,Nat.add_mul,B];unfold half;generalize m / 2 ^ n=a;have C:m % 2 ^ n*(2*2 ^ (32-(n+1)))=2*(m % 2 ^ n*2 ^ (32-(n+1))):=by rw[Nat.mul_left_comm]
  rw[C];generalize m % 2 ^ n*2 ^ (32-(n+1))=b;omega
theorem turn_or(m:Nat)(A:m<4294967296)(n:Nat)(B:n<=32):m / 2 ^ n ||| m*2 ^ (32-n) % 4294967296=turn n m:=by
 have e:4294967296=2 ^ n*2 ^ (32-n):=by rw[<-Nat.pow_add,show n+(32-n)=32 by omega]
 have C:m / 2 ^ n<2 ^ (32-n):=by
  rw[Nat.div_lt_iff_lt_mul (Nat.two_pow_pos n),Nat.mul_comm,<-e];exact A
 rw[turn_eq m n B]
 have D:m*2 ^ (32-n) % 4294967296=2 ^ (32-n)*(m % 2 ^ n):=by
  rw[e,Nat.mul_mod_mul_right,Nat.mul_comm]
 rw[D,Nat.or_comm,<-Nat.two_pow_add_eq_or_of_lt C,Nat.mul_comm (m % 2 ^ n),Nat.add_comm]
end Sha
end
section
open Go.RowKit Mem
def rG:List Value:=[.int .i64 32,.int .i64 64,.int .i64 2,.int .i64 13,.int .i64 22,.int .i64 6,.int .i64 11,.int .i64 25,.int .i64 7,.int .i64 18,.int .i64 3,.int .i64 17,.int .i64 19,.int .i64 10]
structure F32(hc:List Value):Prop where
 len:hc.length=14
 bits:hc[0]?=some (.int .i64 32)
 many:hc[1]?=some (.int .i64 64)
 one:∀v∈hc,v.oneCell'=true
theorem pturned_any(A:List Value)(h:F32 A)(m n:Nat)(B:m<4294967296)(D:n<=32)(w:World) :
  Calls prog 280 #[.agg A.toArray,.int .u64 (m:Int),.int .i64 (n:Int)] w fun e w'=>e=.returned (.int .u64 ((Sha.turn n m:Nat):Int))/\eF w w':=by
 have C:=h.bits
 go_enter func280,ntmps280
 go_wp2
 refine au ?_
 repeat (go_big_quiet_step (fail))
 refine wpQuiet_nil ?_
 rintro _ ⟨p,rfl⟩
 have E:=aa (w.alloc (.cells A.toArray 269)) p
 generalize ab (w.alloc (.cells A.toArray 269)) p=H at *
 go_wp2
 go_ret
 refine⟨ret_v ?_,eI.trans (E.mono (by simp))⟩
 have F:(m:Int) / 2 ^ n=((m / 2 ^ n:Nat):Int):=by rw[Int.natCast_ediv,Int.natCast_pow];rfl
 have e2:(m:Int)*2 ^ (32-n) % 4294967296=((m*2 ^ (32-n) % 4294967296:Nat):Int):=by rw[Int.natCast_emod,Int.natCast_mul,Int.natCast_pow];rfl
 have G:m / 2 ^ n<4294967296:=Nat.lt_of_le_of_lt (Nat.div_le_self _ _) B
 rw[F,e2,u32_or_nat _ _ G (Nat.mod_lt _ (by omega)),Sha.turn_or m B n D]
 have:=Sha.gO B n
 have e3:IntKind.u64.wrap ((Sha.turn n m:Nat):Int)=((Sha.turn n m:Nat):Int):=by rw[IntKind.wrap_u64];omega
 rw[e3]
 rfl
theorem size_F:(prog.info? 269).map (·.size)=some 14:=by kernel_rfl
def rg(x:Value):Sem Value:=Instr.loadAt 269 x
theorem uS(x:Value):Instr.loadAt 269 x=rg x:=rfl
attribute [go_sem ↓] uS
theorem mz{w:World}{g:Nat}{cs:List Value}{t:TypeId}(h:Blk w g cs t)(A:cs.length=14):(rg (.pointer (some ⟨g,0,none⟩))).run prog w=.ok (.agg cs.toArray) w:=by
 have:=bH (P:=prog) w 269 g 0 14 _ underlying269 rfl size_F (eX h A)
 rw[mh h A] at this
 exact this
theorem na(F:List Value)(h:F32 F)(a b c m:Nat)(R:m<4294967296)(Y:a<=32)(Z:b<=32)(T:c<=32)(J:Bool)(w:World) :
  Calls prog 277 #[.agg F.toArray,.int .u64 (m:Int),.agg #[.int .i64 (a:Int),.int .i64 (b:Int),.int .i64 (c:Int)],.bool J] w fun e w'=>e=.returned (.int .u64 ((Sha.mixed a b c J m:Nat):Int))/\eF w w':=by
 obtain⟨W,K⟩:=eC ((w.alloc (.cells F.toArray 269)).alloc (.cells ([.int .i64 (a:Int),.int .i64 (b:Int),.int .i64 (c:Int)]:List Value).toArray 265))
 have B:Blk W w.heap.size F 269:=by rw[<-K];exact(Blk.new _ _ _).alloc _
 have U:Blk W (w.heap.size+1) [.int .i64 (a:Int),.int .i64 (b:Int),.int .i64 (c:Int)] 265:=by
  have:=Blk.new (w.alloc (.cells F.toArray 269)) [.int .i64 (a:Int),.int .i64 (b:Int),.int .i64 (c:Int)] 265;rw[<-K];simpa using this
 have L:eF w W:=by rw[<-K];exact eI.alloc (by simp) _
 have G:=h.len
 have A:Hid (∀n:Nat,n<=32->∀w',Calls prog 280 #[.agg F.toArray,.int .u64 (m:Int),.int .i64 (n:Int)] w' fun e V=>e=.returned (.int .u64 ((Sha.turn n m:Nat):Int))/\eF w' V):=eA fun n j w'=>pturned_any F h m n R j w'
 have k:=mz B G
 have l:W.cell? ⟨w.heap.size+1,2,none⟩=some (.int .i64 (c:Int)):=U.cell 2
 have d:=eA K
 clear K
 obtain⟨z,D⟩:=eD (Sha.ro c J m)
 have S:=eA (show Sha.mixed a b c J m=Sha.turn a m ^^^ Sha.turn b m ^^^ z by rw[<-D.out];rfl)
 have M:=Sha.gO R a
 have N:=Sha.gO R b
 have o:z<4294967296:=by rw[<-D.out];exact Sha.oD R c J
 have X:=u64_xor_nat (Sha.turn a m) (Sha.turn b m) (by omega) (by omega)
 have O:=u64_xor_nat (Sha.turn a m ^^^ Sha.turn b m) z (by have:=Sha.ik M N;omega) (by omega)
 obtain⟨u,f⟩:=eC (Sha.turn a m ^^^ Sha.turn b m)
 rw[f] at X O S
 obtain⟨r,g⟩:=eC (u ^^^ z)
 rw[g] at O S
 clear f g M N
 go_enter func277,ntmps277
 go_upto_region 1 with fail
 rw[show ((w.alloc (.cells F.toArray 269)).alloc (.cells #[.int .i64 (a:Int),.int .i64 (b:Int),.int .i64 (c:Int)] 265))=W from d.out]
 go_wp2_with fail
 refine(A.out c T _).mono ?_
 rintro e E ⟨rfl,H⟩
 have i:=B.below H
 have b2:=U.below H
 have C:eF w E:=L.trans (H.mono L.size)
 have t:∀p,(rg (.pointer (some ⟨w.heap.size,0,none⟩))).run prog (ab E p)=.ok (.agg F.toArray) (ab E p):=fun p=>mz (i.below (aa E p)) G
 have x:∀p,(ab E p).cell? ⟨w.heap.size+1,0,none⟩=some (.int .i64 (a:Int)):=fun p=>(b2.below (aa E p)).cell 0
 have y:∀p,(ab E p).cell? ⟨w.heap.size+1,1,none⟩=some (.int .i64 (b:Int)):=fun p=>(b2.below (aa E p)).cell 1
 have i3:E.cell? ⟨w.heap.size+1,2,none⟩=some (.int .i64 (c:Int)):=b2.cell 2
 clear k l d B U i b2
 cases J
 .have Q:Sha.turn c m=z:=D.out
  rw[Q];clear Q D;go_wp2_with fail
  refine au ?_;repeat (go_big_quiet_step (fail))
  go_big_quiet_step ((go_at_call 280;exact aq (A.out a Y _)))
  repeat (go_big_quiet_step (fail))
  go_big_quiet_step ((go_at_call 280;exact aq (A.out b Z _)))
  repeat (go_big_quiet_step (fail))
  refine wpQuiet_nil ?_;rintro _ ⟨p,rfl⟩;have I:=aa E p;generalize ab E p=q at *;go_wp2;go_ret;exact⟨ret_v (by rw[S.out];rfl),C.trans (I.mono C.size)⟩
 .have Q:m / 2 ^ c=z:=by rw[<-D.out];exact(Sha.down_eq c m).symm
  have s:(m:Int) / 2 ^ c=(z:Int):=by rw[<-Q,Int.natCast_ediv,Int.natCast_pow];rfl
  clear Q D;go_wp2_with fail
  refine au ?_;repeat (go_big_quiet_step (fail))
  go_big_quiet_step ((go_at_call 280;exact aq (A.out a Y _)))
  repeat (go_big_quiet_step (fail))
  go_big_quiet_step ((go_at_call 280;exact aq (A.out b Z _)))
  repeat (go_big_quiet_step (fail))
  refine wpQuiet_nil ?_;rintro _ ⟨p,rfl⟩;have I:=aa E p;generalize ab E p=q at *;go_wp2;go_ret;exact⟨ret_v (by rw[S.out];rfl),C.trans (I.mono C.size)⟩
theorem lj(x:Int)(w:World):Calls prog 269 #[.int .u64 x] w fun e w'=>e=.returned (.int .u32 (IntKind.u32.wrap x))/\eF w w':=by
 go_enter func269,ntmps269
 go_wp2
 go_ret
 exact⟨rfl,Below.refl _ _⟩
end
section
open Go.RowKit Mem
namespace Sha
def sch(b:List UInt8)(t:Nat):List Nat:=if t<=16 then gD b t else bZ b (t-16)
theorem sch_len(b:List UInt8)(t:Nat):(sch b t).length=t:=by
 unfold sch
 split
 .exact mv b t
 .rw [iR];omega
theorem sch_lo(b:List UInt8){t:Nat}(h:t<16):sch b (t+1)=sch b t++[bI b t 4]:=by
 unfold sch
 rw[if_pos (by omega),if_pos (by omega)]
 rfl
theorem sch_hi(b:List UInt8)(u:Nat):sch b (u+16+1)=sch b (u+16)++[next (sch b (u+16)) u]:=by
 have e:sch b (u+16)=bZ b u:=by
  unfold sch;split
  .obtain rfl:u=0:=by omega
   rfl
  .rfl
 rw[e]
 unfold sch
 rw[if_neg (by omega)]
 rfl
theorem sch_32(b:List UInt8)(t:Nat):eP (sch b t):=by
 unfold sch
 split
 .exact oq b t
 .exact jF b _
theorem sch_end(b:List UInt8):sch b 64=bZ b 48:=rfl
end Sha
def uv(l:List Nat):List Value:=l.map fun x:Nat=>Value.int .u32 (x:Int)
theorem dM(l:List Nat):(uv l).length=l.length:=by simp[uv]
theorem oY(l:List Nat){k:Nat}(h:k<l.length):(uv l)[k]?=some (.int .u32 ((l.getD k 0:Nat):Int)):=by simp[uv,h]
theorem ua(l:List Nat)(k:Nat)(x:Nat):(uv l).set k (.int .u32 (x:Int))=uv (l.set k x):=by simp[uv,List.map_set]
theorem ub(l:List Nat):∀u∈uv l,u.oneCell'=true:=by
 intro u A
 simp only[uv,List.mem_map] at A
 obtain⟨b,_,rfl⟩:=A
 rfl
theorem infoU:(prog.info? 228).map (fun i=>(i.zero,i.size,i.bytes))=some (some (.int .u32 0),1,4):=by kernel_rfl
theorem makeU(w:World)(n:Nat)(h:n<=100000):(Instr.makeSlice 290 (.int .i64 (n:Int)) (.int .i64 (n:Int))).run prog w=.ok (.slice (some ⟨w.heap.size,0,none⟩) n n) (w.alloc (.cells (uv (List.replicate n 0)).toArray 228)):=by
 obtain⟨E,hi,A,B,C⟩:=an infoU
 have D:=run_make (P:=prog) w 290 228 E _ underlying290 hi A .i64 .i64 (n:Int) (n:Int) (by omega) (by omega) (by rw[C];omega) (by omega)
 rw[B] at D
 rw[show (uv (List.replicate n 0)).toArray=madeCells (.int .u32 0:Value).cells (n*1) by rw[qZ _ rfl];simp[uv]]
 exact D
def cO(A:List Nat)(n:Nat):List Nat:=A++List.replicate (n-A.length) 0
theorem oH(A:List Nat){n:Nat}(h:A.length<=n):(cO A n).length=n:=by unfold cO;simp;omega
theorem oG(A:List Nat){n:Nat}(h:A.length<n)(x:Nat):(cO A n).set A.length x=cO (A++[x]) n:=by
 unfold cO
 rw[List.set_append_right _ _ eH,Nat.sub_self,List.length_append]
 obtain⟨d,hd⟩:∃d,n-A.length=d+1:=⟨n-A.length-1,by omega⟩
 rw[hd,List.replicate_succ,show n-(A.length+[x].length)=d by simp;omega]
 simp
theorem fillM_get(A:List Nat){n k:Nat}(h:k<A.length):(cO A n).getD k 0=A.getD k 0:=by
 unfold cO
 rw[List.getD_eq_getElem?_getD,List.getD_eq_getElem?_getD,List.getElem?_append_left h]
theorem fillM_zero(A:List Nat){n:Nat}(h:A.length<n):(cO A n).getD A.length 0=0:=by
 unfold cO
 rw[List.getD_eq_getElem?_getD,List.getElem?_append_right eH,Nat.sub_self]
 obtain⟨d,hd⟩:∃d,n-A.length=d+1:=⟨n-A.length-1,by omega⟩
 rw[hd]
 rfl
theorem size_A3:(prog.info? 265).map (·.size)=some 3:=by kernel_rfl
def oC(x:Value):Sem Value:=Instr.loadAt 265 x
theorem sI(x:Value):Instr.loadAt 265 x=oC x:=rfl
attribute [go_sem ↓] sI
theorem pS{w:World}{g o:Nat}{a b c:Nat}{cs:List Value}{t:TypeId}(h:Blk w g cs t)(h0:cs[o]?=some (.int .i64 (a:Int)))(B:cs[o+1]?=some (.int .i64 (b:Int)))(C:cs[o+2]?=some (.int .i64 (c:Int))) :
  (oC (.pointer (some ⟨g,o,none⟩))).run prog w=.ok (.agg #[.int .i64 (a:Int),.int .i64 (b:Int),.int .i64 (c:Int)]) w:=by
 exact cz (P:=prog) (T:=265) (k:=3) underlying265 rfl size_A3 (cs:=[.int .i64 (a:Int),.int .i64 (b:Int),.int .i64 (c:Int)]) rfl fun j u A=>by
  rw[h.cell];match j,A with
  | 0,A=>rw[<-A];exact h0
  | 1,A=>rw[<-A];exact B
  | 2,A=>rw[<-A];exact C
  | j+3,A=>simp at A
theorem form32:F32 rG:=⟨rfl,rfl,rfl,fun v A=>by
 simp only[rG,List.mem_cons,List.not_mem_nil,or_false] at A
 rcases A with rfl|rfl|rfl|rfl|rfl|rfl|rfl|rfl|rfl|rfl|rfl|rfl|rfl|rfl<;>rfl⟩
theorem word_step(b:List UInt8)(t k:Nat)(A:k<4):bits .or .u32 ((Sha.bI b t k:Int)*256 % 4294967296) (((b.getD (4*t+k) 0).toNat:Nat):Int)=((Sha.bI b t (k+1):Nat):Int):=by
 have B:=Sha.jD b t k
 have C:=(b.getD (4*t+k) 0).toNat_lt
 have D:(256:Nat) ^ k<=256 ^ 3:=Nat.pow_le_pow_right (by omega) (by omega)
 have e:(Sha.bI b t k:Int)*256 % 4294967296=((2 ^ 8*Sha.bI b t k:Nat):Int):=by
  rw[Int.natCast_mul];have:((2 ^ 8:Nat):Int)=256:=rfl;rw[this];omega
 rw[e,u32_or_nat _ _ (by omega) (by omega),<-Nat.two_pow_add_eq_or_of_lt (by omega)]
 show _=((Sha.bI b t k*256+(b.getD (4*t+k) 0).toNat:Nat):Int)
 omega
theorem prow_any(J:List Value)(hF:J=rG)(A:Option Addr)(c:Nat)(b:List UInt8)(w:World)(hb:Bs w w.heap.size A 64 b)(Ap:64<=c) :
  Calls prog 276 #[.agg J.toArray,.slice A 64 c] w fun e w'=>∃g,e=.returned (.slice (some ⟨g,0,none⟩) 64 64)/\w.heap.size<=g/\Blk w' g (uv (Sha.bZ b 48)) 228/\eF w w':=by
 have Y:F32 J:=by rw[hF];exact form32
 have V:=eA hF
 clear hF
 have Av:=hb.len
 obtain⟨Z,L,rfl,d,hx⟩:=dY hb (by omega)
 obtain⟨W,f⟩:=eC (w.alloc (.cells J.toArray 269))
 have B:Blk W w.heap.size J 269:=by rw[<-f];exact Blk.new _ _ _
 have j:eF w W:=eG f
 have hz:W.heap.size=w.heap.size+1:=by rw[<-f];simp
 have C:=Y.bits
 have S:=Y.many
 have l:(Instr.makeSlice 290 (.int .i64 64) (.int .i64 64)).run prog W=_:=makeU W 64 (by omega)
 have BG:=Blk.new W (uv (List.replicate 64 0)) 228
 have m:eF w (W.alloc (.cells (uv (List.replicate 64 0)).toArray 228)):=j.alloc j.size _
 have B0:=B.alloc (.cells (uv (List.replicate 64 0)).toArray 228)
 rw[hz] at l BG
 have i0:W.cell? ⟨w.heap.size,0,none⟩=some (.int .i64 32):=(B.cell 0).trans C
 have i1:W.cell? ⟨w.heap.size,1,none⟩=some (.int .i64 64):=(B.cell 1).trans S
 have i2:(W.alloc (.cells (uv (List.replicate 64 0)).toArray 228)).cell? ⟨w.heap.size,0,none⟩=some (.int .i64 32):=(B0.cell 0).trans C
 have HW:=eA f
 obtain⟨W1,o⟩:=eC (W.alloc (.cells (uv (List.replicate 64 0)).toArray 228))
 rw[o] at l BG m B0 i2
 clear f o
 go_enter func276,ntmps276
 go_upto_region 1 with fail
 rw[HW.out]
 clear HW
 go_wp2_with fail
 go_loopw [7,9,10,11,20] (fun _ _ _ _ i wr=>∃t:Nat,t<=64/\i=.int .i64 (t:Int)/\eF w wr/\Blk wr w.heap.size J 269/\Blk wr (w.heap.size+1) (uv (cO (Sha.sch b t) 64)) 228) (fun _ _ _ _ i _=>64-(intOf i).toNat)
 case atStart=>exact⟨0,by omega,rfl,m,B0,BG⟩
 case round =>
  obtain⟨t,ht,rfl,M,X,K⟩:=hrel;obtain⟨wy,Ah⟩:∃wy,wy=wr:=⟨_,rfl⟩;subst Ah;by_cases Ai:t<64
  .by_cases Aj:t<16
   .have z0:wy.cell? ⟨w.heap.size,0,none⟩=some (.int .i64 32):=(X.cell 0).trans C
    have E:=Sha.sch_len b t;have T:(cO (Sha.sch b t) 64).length=64:=oH _ (by omega);have Ak:(cO (Sha.sch b t) 64).set t (Sha.bI b t 0)=cO (Sha.sch b t) 64:=by
     have:=fillM_zero (Sha.sch b t) (n:=64) (by omega);rw[E] at this;apply List.ext_getElem?
     intro i;rw[List.getElem?_set];split
     .rename_i hi
      subst hi;rw[if_pos (by omega)];rw[List.getD_eq_getElem?_getD,List.getElem?_eq_getElem (by omega)] at this;rw[List.getElem?_eq_getElem (by omega)];simp only[Option.getD_some] at this;rw[this];rfl
     .rfl
    have HS:=eA (show cO (Sha.sch b (t+1)) 64=(cO (Sha.sch b t) 64).set t (Sha.bI b t 4) by
     rw[Sha.sch_lo b Aj,<-oG _ (by omega),E])
    go_wp2_with fail
    go_loopw [9,35] (fun _ i wx=>∃k:Nat,k<=4/\i=.int .i64 (k:Int)/\eF w wx/\Blk wx w.heap.size J 269/\Blk wx (w.heap.size+1) (uv ((cO (Sha.sch b t) 64).set t (Sha.bI b t k))) 228) (fun _ i _=>4-(intOf i).toNat)
    case atStart=>exact⟨0,by omega,rfl,M,X,by rw[Ak];exact K⟩
    case round =>
     obtain⟨k,hk,rfl,F,C1,C2⟩:=hrel;by_cases Al:k<4
     .have Aw:wr.cell? ⟨Z,L+t*4+k,none⟩=some (.int .u8 (((b.getD (4*t+k) 0).toNat:Nat):Int)):=by
       rw[show L+t*4+k=L+(4*t+k) by omega];exact(F.cell (p:=⟨Z,L+(4*t+k),none⟩) d).trans (hx (4*t+k) _ (by rw[pt,List.getElem?_eq_getElem (by omega)];simp[List.getD_eq_getElem?_getD,List.getElem?_eq_getElem (show 4*t+k<b.length by omega)]))
      have Ax:wr.cell? ⟨w.heap.size+1,t,none⟩=some (.int .u32 ((Sha.bI b t k:Nat):Int)):=(C2.cell t).trans (by rw[oY _ (by rw[List.length_set];omega)];simp[List.getD_eq_getElem?_getD,T,Ai])
      have Ay:wr.frozen? ⟨w.heap.size+1,t,none⟩=false:=C2.froz _;have q:=word_step b t k Al;have Am:=(b.getD (4*t+k) 0).toNat_lt;have Aq:Sha.bI b t k<16777216:=by
       have h1:=Sha.jD b t k;have h3:(256:Nat) ^ k<=256 ^ 3:=Nat.pow_le_pow_right (by omega) (by omega);omega
      have E2:=(C2.set t (.int .u32 ((Sha.bI b t (k+1):Nat):Int)));rw[ua,List.set_set] at E2;generalize (b.getD (4*t+k) 0).toNat=z at *;generalize Sha.bI b t k=x at *;have Q:(x:Int)*256 % 4294967296=(x:Int)*256:=by omega
      rw[Q] at q;clear Q;obtain⟨y,hy⟩:=eD (Sha.bI b t (k+1));rw[hy.out] at q E2;go_wp2_with fail
      go_roundw
      case rel=>exact⟨k+1,by omega,by go_num,F.setCell (by simp) _,C1.set_ne (by simp) _,by rw[hy.out];exact E2⟩
      case measure=>simp[intOf];omega
     .obtain rfl:k=4:=by omega
      go_wp2_with fail
      go_roundw
      case rel=>exact⟨t+1,by omega,by go_num,F,C1,by rw[HS.out];exact C2⟩
      case measure=>simp[intOf];omega
   .have Ar:16<=t:=by omega
    have E:=Sha.sch_len b t;have G:=Sha.sch_32 b t;have T:(cO (Sha.sch b t) 64).length=64:=oH _ (by omega);have H:∀k,k<t->wy.cell? ⟨w.heap.size+1,k,none⟩=some (.int .u32 (((Sha.sch b t).getD k 0:Nat):Int)):=fun k hk=>(K.cell k).trans (by rw[oY _ (by omega),fillM_get _ (by omega)]);have r:Sha.sch b (t+1)=Sha.sch b t++[Sha.next (Sha.sch b t) (t-16)]:=by
     have:=Sha.sch_hi b (t-16);rw[show t-16+16=t by omega] at this;exact this
    have hE:=oG (Sha.sch b t) (n:=64) (by omega) (Sha.next (Sha.sch b t) (t-16));rw[E,<-r] at hE;have I:Sha.next (Sha.sch b t) (t-16)=((Sha.sch b t).getD (t-16) 0+Sha.sig0 ((Sha.sch b t).getD (t-15) 0)+(Sha.sch b t).getD (t-7) 0+Sha.sig1 ((Sha.sch b t).getD (t-2) 0)) % 4294967296:=by
     unfold Sha.next;rw[show t-16+1=t-15 by omega,show t-16+9=t-7 by omega,show t-16+14=t-2 by omega]
    have E2:∀w',Blk w' (w.heap.size+1) (uv (cO (Sha.sch b t) 64)) 228->Blk (w'.setCell ⟨w.heap.size+1,t,none⟩ (.int .u32 ((Sha.next (Sha.sch b t) (t-16):Nat):Int))) (w.heap.size+1) (uv (cO (Sha.sch b (t+1)) 64)) 228:=fun w' h=>by
     have:=h.set t (.int .u32 ((Sha.next (Sha.sch b t) (t-16):Nat):Int));rw[ua,hE] at this;exact this
    rw[I] at E2;have s:=G.at_ (t-15);have m2:=G.at_ (t-2);have Az:=G.at_ (t-16);have m7:=G.at_ (t-7);have u:=H (t-15) (by omega);have k2:=H (t-2) (by omega);have An:=H (t-16) (by omega);have k7:=H (t-7) (by omega);have HE:=eA E2;have cf:wy.frozen? ⟨w.heap.size+1,t,none⟩=false:=K.froz _;have Aa:∃v,(uv (cO (Sha.sch b t) 64))[t]?=some v:=⟨_,oY _ (by omega)⟩;clear H r hE I E2 T E G;generalize (Sha.sch b t).getD (t-15) 0=N at *;generalize (Sha.sch b t).getD (t-2) 0=x2 at *;generalize (Sha.sch b t).getD (t-16) 0=O at *;generalize (Sha.sch b t).getD (t-7) 0=x7 at *;have f0:∀p,(rg (.pointer (some ⟨w.heap.size,0,none⟩))).run prog (ab wy p)=.ok (.agg J.toArray) (ab wy p):=fun p=>mz (X.below (aa wy p)) Y.len;have f1:∀p,(oC (.pointer (some ⟨w.heap.size,8,none⟩))).run prog (ab wy p)=.ok (.agg #[.int .i64 ((7:Nat):Int),.int .i64 ((18:Nat):Int),.int .i64 ((3:Nat):Int)]) (ab wy p):=fun p=>pS (X.below (aa wy p)) (by rw[V.out];rfl) (by rw[V.out];rfl) (by rw[V.out];rfl)
    have f2:∀p,(oC (.pointer (some ⟨w.heap.size,11,none⟩))).run prog (ab wy p)=.ok (.agg #[.int .i64 ((17:Nat):Int),.int .i64 ((19:Nat):Int),.int .i64 ((10:Nat):Int)]) (ab wy p):=fun p=>pS (X.below (aa wy p)) (by rw[V.out];rfl) (by rw[V.out];rfl) (by rw[V.out];rfl)
    have f3:∀p,(ab wy p).cell? ⟨w.heap.size+1,t-15,none⟩=some (.int .u32 (N:Int)):=fun p=>(ap (a:=⟨w.heap.size+1,t-15,none⟩) K.lt p).trans u;have f4:∀p,(ab wy p).cell? ⟨w.heap.size+1,t-2,none⟩=some (.int .u32 (x2:Int)):=fun p=>(ap (a:=⟨w.heap.size+1,t-2,none⟩) K.lt p).trans k2;have Ab:=fun p=>na J Y 7 18 3 N s (by omega) (by omega) (by omega) true (ab wy p);have Ac:=fun p=>na J Y 17 19 10 x2 m2 (by omega) (by omega) (by omega) true (ab wy p);have A0:=Sha.gX s 7 18 3 true;have A1:=Sha.gX m2 17 19 10 true;have HE:Hid (∀w',Blk w' (w.heap.size+1) (uv (cO (Sha.sch b t) 64)) 228->Blk (w'.setCell ⟨w.heap.size+1,t,none⟩ (.int .u32 (((O+Sha.mixed 7 18 3 true N+x7+Sha.mixed 17 19 10 true x2) % 4294967296:Nat):Int))) (w.heap.size+1) (uv (cO (Sha.sch b (t+1)) 64)) 228):=HE;generalize Sha.mixed 7 18 3 true N=y0 at *;generalize Sha.mixed 17 19 10 true x2=y1 at *;have Ad:=eA Ab;have Ae:=eA Ac;clear Ab Ac;go_upto_region 12 with fail
    refine au ?_;repeat (go_big_quiet_step (fail))
    go_big_quiet_step ((go_at_call 277;exact aq (Ad.out _)))
    repeat (go_big_quiet_step (fail))
    go_big_quiet_step ((go_at_call 277;exact aq (Ae.out _)))
    repeat (go_big_quiet_step (fail))
    refine wpQuiet_nil ?_;rintro _ ⟨p,rfl⟩;have hp:=aa wy p;clear f0 f1 f2 f3 f4 Ad Ae u k2;have D1:=X.below hp;have D2:=K.below hp;have Af:eF w (ab wy p):=M.trans (hp.mono M.size);have Ao:∀D,(ab (ab wy p) D).cell? ⟨w.heap.size+1,t-16,none⟩=some (.int .u32 (O:Int)):=fun D=>(ap (a:=⟨w.heap.size+1,t-16,none⟩) D2.lt D).trans ((ap (a:=⟨w.heap.size+1,t-16,none⟩) K.lt p).trans An);have q7:∀D,(ab (ab wy p) D).cell? ⟨w.heap.size+1,t-7,none⟩=some (.int .u32 (x7:Int)):=fun D=>(ap (a:=⟨w.heap.size+1,t-7,none⟩) D2.lt D).trans ((ap (a:=⟨w.heap.size+1,t-7,none⟩) K.lt p).trans k7);generalize ab wy p=R at *;obtain⟨z,hz⟩:∃z:Nat,(y0+y1) % 4294967296=z:=⟨_,rfl⟩;have As:z<4294967296:=by omega
    have HC:Hid (∀D,Calls prog 269 #[.int .u64 ((y0:Int)+(y1:Int))] (ab R D) fun e w'=>e=.returned (.int .u32 (z:Int))/\Below (ab R D).heap.size (ab R D) w'):=eA fun D=>(lj _ _).mono fun e w' ⟨he,hb⟩=>⟨by rw[he,<-hz,IntKind.wrap_u32,Int.natCast_emod,Int.natCast_add];rfl,hb⟩
    have HV:Hid (((((O:Int)+(x7:Int))+(z:Int)) % 4294967296:Int)=(((O+y0+x7+y1) % 4294967296:Nat):Int)):=eA (by omega);clear hz;go_upto_region 13 with fail
    refine bz 18 ?_;simp only[List.take_succ_cons,List.take_zero,List.drop_succ_cons,List.drop_zero];repeat (go_big_quiet_step (fail))
    go_big_quiet_step ((go_at_call 269;exact aq (HC.out _)))
    repeat (go_big_quiet_step (fail))
    refine wpQuiet_nil ?_;rintro _ ⟨px,rfl⟩;have U:=aa R px;have F1:=D1.below U;have F2:=D2.below U;have cf:(ab R px).frozen? ⟨w.heap.size+1,t,none⟩=false:=F2.froz _;have F:eF w (ab R px):=Af.trans (U.mono Af.size);have Au:=F2.lt;obtain⟨vt,Ag⟩:=Aa;have Aa:(ab R px).cell? ⟨w.heap.size+1,t,none⟩=some vt:=(F2.cell t).trans Ag;clear Ag;clear Ao q7 HC D1 D2;generalize ab R px=w4 at *;have G2:=eA (HE.out w4 F2);go_wp2_with fail
    (try rw[ak])
    (try go_wp2)
    go_roundw
    case rel=>exact⟨t+1,by omega,by go_num,F.setCell (by simp) _,F1.set_ne (by simp) _,by first|exact G2.out|(rw[HV.out];exact G2.out)⟩
    case measure=>simp[intOf];omega
  .obtain rfl:t=64:=by omega
   go_wp2_with fail
   go_ret;refine⟨_,rfl,by omega,?_,M⟩;have:cO (Sha.sch b 64) 64=Sha.bZ b 48:=by
    rw[Sha.sch_end];unfold cO;rw[Sha.iR];simp
   rw[this] at K;exact K
end
section
open Go.RowKit Mem
theorem ur:(prog.info? 281).map (·.size)=some 8:=by kernel_rfl
def loadA8(x:Value):Sem Value:=Instr.loadAt 281 x
def uo(x v:Value):Sem Unit:=Instr.storeAt 281 x v
theorem sH(x:Value):Instr.loadAt 281 x=loadA8 x:=rfl
theorem qU(x v:Value):Instr.storeAt 281 x v=uo x v:=rfl
attribute [go_sem ↓] sH qU
theorem pR{w:World}{g:Nat}{cs:List Value}{t:TypeId}(h:Blk w g cs t)(A:cs.length=8):(loadA8 (.pointer (some ⟨g,0,none⟩))).run prog w=.ok (.agg cs.toArray) w:=by
 have:=bH (P:=prog) w 281 g 0 8 _ underlying281 rfl ur (eX h A)
 rw[mh h A] at this
 exact this
theorem qn{w:World}{g:Nat}{cs vs:List Value}{t:TypeId}(h:Blk w g cs t)(A:cs.length=8)(B:vs.length=8)(D:∀v∈vs,v.oneCell'=true) :
  (uo (.pointer (some ⟨g,0,none⟩)) (.agg vs.toArray)).run prog w=.ok () (w.setCells g 0 vs)/\Blk (w.setCells g 0 vs) g vs t:=by
 have E:=bu (P:=prog) w 281 g 0 8 ur vs.toArray ⟨by simpa using B,by simpa using D⟩ (eX h A) (fun j _=>h.froz _)
 have C:=jk vs w g 0 cs t h (by omega)
 simp[B,<-A] at C
 exact⟨E,C⟩
def plF(R s:List Nat)(i:Nat):List Nat:=Sha.li R s i++R.drop i
theorem plF_len{R s:List Nat}(h:R.length=8){i:Nat}(hi:i<=8):(plF R s i).length=8:=by unfold plF;rw[List.length_append,Sha.iX,List.length_drop];omega
theorem plF_get{R s:List Nat}{i:Nat}:(plF R s i).getD i 0=R.getD i 0:=by
 unfold plF
 rw[List.getD_eq_getElem?_getD,List.getElem?_append_right (by rw[Sha.iX];omega),Sha.iX,Nat.sub_self,List.getElem?_drop,Nat.add_zero,List.getD_eq_getElem?_getD]
theorem plF_set{R s:List Nat}(h:R.length=8){i:Nat}(hi:i<8):(plF R s i).set i ((R.getD i 0+s.getD i 0) % 4294967296)=plF R s (i+1):=by
 unfold plF
 have e:(R.drop i).set 0 ((R.getD i 0+s.getD i 0) % 4294967296)=(R.getD i 0+s.getD i 0) % 4294967296::R.drop (i+1):=by
  rw[List.drop_eq_getElem_cons (show i<R.length by omega)];rfl
 rw[List.set_append_right _ _ (by rw[Sha.iX];omega),Sha.iX,Nat.sub_self,e]
 show _=(Sha.li R s i++[(R.getD i 0+s.getD i 0) % 4294967296])++_
 rw[List.append_assoc]
 rfl
theorem iszU:(prog.info? 228).map (·.size)=some 1:=by kernel_rfl
theorem list8{l:List Nat}(h:l.length=8):∃a b c d e f g i,l=[a,b,c,d,e,f,g,i]:=by
 match l,h with
 | [a,b,c,d,e,f,g,i],_=>exact⟨a,b,c,d,e,f,g,i,rfl⟩
def Tab(A:List Nat)(w:World):Prop:=∀t,t<64->∃v:Nat,w.cell? ⟨1,t,none⟩=some (.int .u64 (v:Int))/\v<18446744073709551616/\v / 4294967296=A.getD t 0
theorem Tab.below{A:List Nat}{w w':World}(h:Tab A w)(C:eF w w'):Tab A w':=fun t ht=>by
 obtain⟨v,B,D⟩:=h t ht
 exact⟨v,(C.cell (p:=⟨1,t,none⟩) (World.block_lt_of_cell? w _ B)).trans B,D⟩
theorem pmix_any(Z:List Value)(hF:Z=rG)(s:List Nat)(Ai:s.length=8)(Aj:Sha.eP s)(A:Option Addr)(c:Nat)(b:List UInt8)(w:World)(f:Bs w w.heap.size A 64 b)(Ax:64<=c)(K:List Nat)(hT:Tab K w) :
  Calls prog 270 #[.agg Z.toArray,.agg (uv s).toArray,.slice A 64 c] w fun e w'=>e=.returned (.agg (uv (Sha.block K s b)).toArray)/\eF w w':=by
 have hf:F32 Z:=by rw[hF];exact form32
 obtain⟨L,u⟩:=eD (Sha.bZ b 48)
 have AM:L.length=64:=by rw[<-u.out];exact Sha.iR b 48
 unfold Sha.block
 rw[u.out]
 obtain⟨W,hW⟩:=eC (((w.alloc (.cells Z.toArray 269)).alloc (.cells (uv s).toArray 281)).alloc (.cells (uv (List.replicate 8 0)).toArray 281))
 have B0:Blk W w.heap.size Z 269:=by rw[<-hW];exact((Blk.new _ _ _).alloc _).alloc _
 have B1:Blk W (w.heap.size+1) (uv s) 281:=by
  have:=Blk.new (w.alloc (.cells Z.toArray 269)) (uv s) 281;rw[<-hW];exact Blk.alloc (by simpa using this) _
 have B2:Blk W (w.heap.size+2) (uv (List.replicate 8 0)) 281:=by
  have:=Blk.new ((w.alloc (.cells Z.toArray 269)).alloc (.cells (uv s).toArray 281)) (uv (List.replicate 8 0)) 281;rw[<-hW];simpa using this
 have Ay:eF w W:=by rw[<-hW];exact(eI.alloc (by simp) _).alloc (by simp;omega) _
 have hz:W.heap.size=w.heap.size+3:=by rw[<-hW];simp
 have Az:(uv s).length=8:=by rw[dM];exact Ai
 have l0:=pR B1 Az
 have bn:=Blk.new W (uv (List.replicate 8 0)) 281
 obtain⟨N,B3⟩:=qn bn rfl Az (ub s)
 obtain⟨W1,Ak⟩:=eC ((W.alloc (.cells (uv (List.replicate 8 0)).toArray 281)).setCells W.heap.size 0 (uv s))
 have z:Chg [] W W1:=by rw[<-Ak];exact((Chg.refl _ _).alloc _).setCells _ (.inr eH)
 rw[Ak] at N B3
 have e0:=B0.chg z (by simp)
 have e1:=B1.chg z (by simp)
 have e2:=B2.chg z (by simp)
 have Af:=z.below (fun _ h=>by cases h)
 have d:eF w W1:=Ay.trans (Af.mono Ay.size)
 rw[hz] at N B3
 have Aa:=prow_any Z hF A c b W1 (f.next eH d |>.mono d.size) Ax
 rw[u.out] at Aa
 have Ab:Sha.eP L:=by rw[<-u.out];exact Sha.jF b 48
 clear u
 have l1:=mz e0 hf.len
 have HW:=eA hW
 have HF:=eA hF
 clear hW Ak bn z hF
 go_enter func270,ntmps270
 go_upto_region 1 with fail
 rw[show (((w.alloc (.cells Z.toArray 269)).alloc (.cells (uv s).toArray 281)).alloc (.cells #[.int .u32 0,.int .u32 0,.int .u32 0,.int .u32 0,.int .u32 0,.int .u32 0,.int .u32 0,.int .u32 0] 281))=W from HW.out]
 have N:(uo (.pointer (some ⟨w.heap.size+3,0,none⟩)) (.agg (uv s).toArray)).run prog (W.alloc (.cells #[.int .u32 0,.int .u32 0,.int .u32 0,.int .u32 0,.int .u32 0,.int .u32 0,.int .u32 0,.int .u32 0] 281))=.ok () W1:=N
 go_wp2_with fail
 refine Aa.mono ?_
 rintro e w1 ⟨g,rfl,hg,B4,l⟩
 have f0:=e0.below l
 have f1:=e1.below l
 obtain⟨ZZ,A0⟩:=eD (uv (List.replicate 8 0))
 have AN:ZZ.length=8:=by rw[<-A0.out];rfl
 have f2:=e2.below l
 rw[A0.out] at f2
 have f3:=B3.below l
 have AO:eF w w1:=d.trans (l.mono d.size)
 have Bd:w.heap.size+4<=g:=by have:=B3.lt;omega
 clear N
 clear Aa l0 l1 N e0 e1 e2 B0 B1 B2 B3 HW Af l
 go_wp2_with fail
 go_loopw [8,9,10,11,12,13,14,21] (fun _ _ _ _ _ _ _ i wr=>∃t:Nat,t<=64/\i=.int .i64 (t:Int)/\eF w wr/\Blk wr w.heap.size Z 269/\Blk wr (w.heap.size+1) (uv s) 281/\Blk wr (w.heap.size+2) ZZ 281/\Blk wr (w.heap.size+3) (uv (Sha.steps K L s t)) 281/\Blk wr g (uv L) 228) (fun _ _ _ _ _ _ _ i _=>64-(intOf i).toNat)
 case atStart=>exact⟨0,by omega,rfl,AO,f0,f1,f2,f3,B4⟩
 case round =>
  obtain⟨t,ht,rfl,J,C0,C1,C2,C3,C4⟩:=hrel;obtain⟨wy,AP⟩:∃wy,wy=wr:=⟨_,rfl⟩;subst AP;by_cases Al:t<64
  .have cw:wy.cell? ⟨g,t,none⟩=some (.int .u32 ((L.getD t 0:Nat):Int)):=(C4.cell t).trans (oY _ (by omega))
   obtain⟨wt,Am⟩:=eD (L.getD t 0);rw[Am.out] at cw;have AQ:∀p,(ab wy p).cell? ⟨w.heap.size,0,none⟩=some (.int .i64 32):=fun p=>(ap (a:=⟨w.heap.size,0,none⟩) C0.lt p).trans ((C0.cell 0).trans hf.bits);obtain⟨vt,An,Be,A1⟩:=hT t Al;have Ag:=World.block_lt_of_cell? w _ An;have f5:∀p,(ab wy p).cell? ⟨1,t,none⟩=some (.int .u64 (vt:Int)):=fun p=>((J.trans ((aa wy p).mono J.size)).cell (p:=⟨1,t,none⟩) Ag).trans An;have HC:Hid (∀p',Calls prog 269 #[.int .u64 ((vt:Int) / 4294967296)] (ab wy p') fun e w'=>e=.returned (.int .u32 ((K.getD t 0:Nat):Int))/\Below (ab wy p').heap.size (ab wy p') w'):=eA fun p'=>(lj _ _).mono fun e w' ⟨he,f⟩=>⟨by rw[he,<-A1,IntKind.wrap_u32];congr 2;omega,f⟩
   have AZ:K.getD t 0<4294967296:=by omega
   have HS:=eA (show Sha.steps K L s (t+1)=Sha.step (K.getD t 0) (L.getD t 0) (Sha.steps K L s t) from rfl);rw[Am.out] at HS;clear An A1 Ag;generalize K.getD t 0=kt at *;go_upto_region 5 with fail
   refine au ?_;repeat (go_big_quiet_step (fail))
   go_big_quiet_step ((go_at_call 269;exact aq (HC.out _)))
   repeat (go_big_quiet_step (fail))
   refine wpQuiet_nil ?_;rintro _ ⟨p,rfl⟩;have F:=aa wy p;have C0:=C0.below F;have C1:=C1.below F;have C2:=C2.below F;have C3:=C3.below F;have C4:=C4.below F;have J:eF w (ab wy p):=J.trans (F.mono J.size);have A2:=Sha.og Ai K L t;have D:=Sha.lf Aj K L t;have Ba:wt<4294967296:=by rw[<-Am.out];exact Ab.at_ t
   clear f5 AQ HC cw F;generalize ab wy p=w2 at *;generalize Sha.steps K L s t=R at *;obtain⟨B,G,H,o,C,O,Q,r7,rfl⟩:=list8 A2;have m0:B<4294967296:=D _ (by simp);have m1:G<4294967296:=D _ (by simp);have m2:H<4294967296:=D _ (by simp);have m3:o<4294967296:=D _ (by simp);have m4:C<4294967296:=D _ (by simp);have m5:O<4294967296:=D _ (by simp);have m6:Q<4294967296:=D _ (by simp);have m7:r7<4294967296:=D _ (by simp);have Ao:Hid (Sha.steps K L s (t+1)=[((r7+Sha.mixed 6 11 25 false C+((C &&& O) ^^^ ((4294967295 ^^^ C) &&& Q))+kt+wt) % 4294967296+(Sha.mixed 2 13 22 false B+((B &&& G) ^^^ (B &&& H) ^^^ (G &&& H))) % 4294967296) % 4294967296,B,G,H,(o+(r7+Sha.mixed 6 11 25 false C+((C &&& O) ^^^ ((4294967295 ^^^ C) &&& Q))+kt+wt) % 4294967296) % 4294967296,C,O,Q]):=HS;have A3:=fun E=>na Z hf 6 11 25 C m4 (by omega) (by omega) (by omega) false E;have A4:=fun E=>na Z hf 2 13 22 B m0 (by omega) (by omega) (by omega) false E;have n1:Sha.mixed 6 11 25 false C<4294967296:=Sha.gX m4 6 11 25 false;have n2:Sha.mixed 2 13 22 false B<4294967296:=Sha.gX m0 2 13 22 false;have x1:=u32_and_nat C O m4 m5;have x2:bits BinOp.xor IntKind.u32 (if IntKind.u32.signed=true then -1 else IntKind.u32.max) (C:Int)=((4294967295 ^^^ C:Nat):Int):=u32_xor_nat 4294967295 C (by omega) m4;have A5:4294967295 ^^^ C<4294967296:=Sha.ik (by omega) m4;have x3:=u32_and_nat (4294967295 ^^^ C) Q A5 m6;have A6:C &&& O<4294967296:=Sha.jy m4;have A7:(4294967295 ^^^ C) &&& Q<4294967296:=Sha.jy A5;have x4:=u32_xor_nat (C &&& O) ((4294967295 ^^^ C) &&& Q) A6 A7;have Bf:=Sha.ik A6 A7;have y1:=u32_and_nat B G m0 m1;have y2:=u32_and_nat B H m0 m2;have y3:=u32_and_nat G H m1 m2;have A8:B &&& G<4294967296:=Sha.jy m0;have A9:B &&& H<4294967296:=Sha.jy m0;have AA:G &&& H<4294967296:=Sha.jy m1;have y4:=u32_xor_nat (B &&& G) (B &&& H) A8 A9;have AB:=Sha.ik A8 A9;have y5:=u32_xor_nat ((B &&& G) ^^^ (B &&& H)) (G &&& H) AB AA;have Bg:=Sha.ik AB AA;generalize Sha.mixed 6 11 25 false C=b1 at *;generalize Sha.mixed 2 13 22 false B=b0 at *;generalize (C &&& O) ^^^ ((4294967295 ^^^ C) &&& Q)=cx at *;generalize (4294967295 ^^^ C) &&& Q=Bh at *;generalize 4294967295 ^^^ C=Bi at *;generalize C &&& O=Bj at *;generalize (B &&& G) ^^^ (B &&& H) ^^^ (G &&& H)=cy at *;generalize (B &&& G) ^^^ (B &&& H)=Bk at *;generalize B &&& G=Bl at *;generalize B &&& H=Bm at *;generalize G &&& H=Bn at *;obtain⟨X,hX⟩:=eC ((r7+b1+cx+kt+wt) % 4294967296);obtain⟨Y,hY⟩:=eC ((b0+cy) % 4294967296);rw[hX,hY] at Ao;have Bo:X<4294967296:=by omega
   have Bp:Y<4294967296:=by omega
   have AC:Hid ((((r7:Int)+b1+cx+kt) % 4294967296+wt) % 4294967296=(X:Int)):=eA (by omega);have AD:Hid (((b0:Int)+cy) % 4294967296=(Y:Int)):=eA (by omega);have AE:=eA A3;have AF:=eA A4;have AG:Hid (∀E,Calls prog 269 #[.int .u64 (b1:Int)] E fun e w'=>e=.returned (.int .u32 (b1:Int))/\eF E w'):=eA fun E=>(lj _ _).mono fun e w' ⟨he,f⟩=>⟨by rw[he,IntKind.wrap_u32];congr 2;omega,f⟩
   have AH:Hid (∀E,Calls prog 269 #[.int .u64 (b0:Int)] E fun e w'=>e=.returned (.int .u32 (b0:Int))/\eF E w'):=eA fun E=>(lj _ _).mono fun e w' ⟨he,f⟩=>⟨by rw[he,IntKind.wrap_u32];congr 2;omega,f⟩
   have K0:∀E,eF w2 E->∀i v,(uv [B,G,H,o,C,O,Q,r7])[i]?=some v->E.cell? ⟨w.heap.size+3,i,none⟩=some v:=fun E f i v h=>((C3.below f).cell i).trans h;clear A3 A4 HS hX hY A2 D Ab;have a0:∀p,(ab w2 p).cell? ⟨w.heap.size+3,0,none⟩=some (.int .u32 (B:Int)):=fun p=>K0 _ (aa w2 p) 0 _ rfl;have a4:∀p,(ab w2 p).cell? ⟨w.heap.size+3,4,none⟩=some (.int .u32 (C:Int)):=fun p=>K0 _ (aa w2 p) 4 _ rfl;go_upto_region 6 with fail
   refine au ?_;repeat (go_big_quiet_step (fail))
   refine wpQuiet_nil ?_;rintro _ ⟨p,rfl⟩;have Ap:=aa w2 p;clear a0 a4;generalize ab w2 p=w3 at *;have T:∀p,eF w2 (ab w3 p):=fun p=>Ap.trans ((aa w3 p).mono Ap.size);have a5:∀p,(ab w3 p).cell? ⟨w.heap.size+3,5,none⟩=some (.int .u32 (O:Int)):=fun p=>K0 _ (T p) 5 _ rfl;have a6:∀p,(ab w3 p).cell? ⟨w.heap.size+3,6,none⟩=some (.int .u32 (Q:Int)):=fun p=>K0 _ (T p) 6 _ rfl;have a7:∀p,(ab w3 p).cell? ⟨w.heap.size+3,7,none⟩=some (.int .u32 (r7:Int)):=fun p=>K0 _ (T p) 7 _ rfl;have aF:∀p,(rg (.pointer (some ⟨w.heap.size,0,none⟩))).run prog (ab w3 p)=.ok (.agg Z.toArray) (ab w3 p):=fun p=>mz (C0.below (T p)) hf.len;have aA:∀p,(oC (.pointer (some ⟨w.heap.size,5,none⟩))).run prog (ab w3 p)=.ok (.agg #[.int .i64 ((6:Nat):Int),.int .i64 ((11:Nat):Int),.int .i64 ((25:Nat):Int)]) (ab w3 p):=fun p=>pS (C0.below (T p)) (by rw[HF.out];rfl) (by rw[HF.out];rfl) (by rw[HF.out];rfl)
   go_upto_region 7 with fail
   refine au ?_;repeat (go_big_quiet_step (fail))
   go_big_quiet_step ((go_at_call 277;exact aq (AE.out _)))
   repeat (go_big_quiet_step (fail))
   go_big_quiet_step ((go_at_call 269;exact aq (AG.out _)))
   repeat (go_big_quiet_step (fail))
   refine wpQuiet_nil ?_;rintro _ ⟨p,rfl⟩;rw[AC.out];have Aq:=T p;clear a5 a6 a7 aF aA T AE AG x1 x2 x3 x4;generalize ab w3 p=w4 at *;have q:∀p,eF w2 (ab w4 p):=fun p=>Aq.trans ((aa w4 p).mono Aq.size);have a1:∀p,(ab w4 p).cell? ⟨w.heap.size+3,1,none⟩=some (.int .u32 (G:Int)):=fun p=>K0 _ (q p) 1 _ rfl;have a2:∀p,(ab w4 p).cell? ⟨w.heap.size+3,2,none⟩=some (.int .u32 (H:Int)):=fun p=>K0 _ (q p) 2 _ rfl;have aF:∀p,(rg (.pointer (some ⟨w.heap.size,0,none⟩))).run prog (ab w4 p)=.ok (.agg Z.toArray) (ab w4 p):=fun p=>mz (C0.below (q p)) hf.len;have aA:∀p,(oC (.pointer (some ⟨w.heap.size,2,none⟩))).run prog (ab w4 p)=.ok (.agg #[.int .i64 ((2:Nat):Int),.int .i64 ((13:Nat):Int),.int .i64 ((22:Nat):Int)]) (ab w4 p):=fun p=>pS (C0.below (q p)) (by rw[HF.out];rfl) (by rw[HF.out];rfl) (by rw[HF.out];rfl)
   go_upto_region 8 with fail
   refine au ?_;repeat (go_big_quiet_step (fail))
   go_big_quiet_step ((go_at_call 277;exact aq (AF.out _)))
   repeat (go_big_quiet_step (fail))
   go_big_quiet_step ((go_at_call 269;exact aq (AH.out _)))
   repeat (go_big_quiet_step (fail))
   refine wpQuiet_nil ?_;rintro _ ⟨p,rfl⟩;rw[AD.out];have Ar:=q p;clear a1 a2 aF aA q AF AH y1 y2 y3 y4 y5;generalize ab w4 p=w5 at *;go_upto_region 9 with fail
   refine bz 2 ?_;simp only[List.take_succ_cons,List.take_zero,List.drop_succ_cons,List.drop_zero];repeat (go_big_quiet_step (fail))
   refine wpQuiet_nil ?_;rintro _ ⟨p,rfl⟩;have U:eF w2 (ab w5 p):=Ar.trans ((aa w5 p).mono Ar.size);clear Ap Aq Ar;generalize ab w5 p=w6 at *;have D0:=C0.below U;have D1:=C1.below U;have D2:=C2.below U;have D3:=C3.below U;have D4:=C4.below U;have I:eF w w6:=J.trans (U.mono J.size);have AI:∀ty,(Builtin.copy_ #[290,290] ty #[.slice (some ⟨w.heap.size+3,1,none⟩) 7 7,.slice (some ⟨w.heap.size+3,0,none⟩) 7 8]).run prog w6=.ok (goInt 7) (w6.setRow (w.heap.size+3) (uv [B,B,G,H,o,C,O,Q]).toArray):=fun ty =>
    jG (m:=7) (k:=1) (cs:=uv [B,G,H,o,C,O,Q]) underlying290 iszU D3 rfl rfl (fun j v hj=>by
     have Al:j<7:=by
      have:=(List.getElem?_eq_some_iff.1 hj).1;rw[dM] at this;exact this
     rw[show (⟨w.heap.size+3,0,none⟩:Addr).add j=⟨w.heap.size+3,j,none⟩ by simp[Addr.add];omega,D3.cell]
     rw[<-hj];match j,Al with
     | 0,_=>rfl
     | 1,_=>rfl
     | 2,_=>rfl
     | 3,_=>rfl
     | 4,_=>rfl
     | 5,_=>rfl
     | 6,_=>rfl) (by simp[uv]) (ub _)
   obtain⟨w7,Ac⟩:=eC (w6.setRow (w.heap.size+3) (uv [B,B,G,H,o,C,O,Q]).toArray);have E3:Blk w7 (w.heap.size+3) (uv [B,B,G,H,o,C,O,Q]) 281:=by rw[<-Ac];exact D3.setRow
   have Ad:∀{g':Nat} {M:List Value} {e:TypeId},Blk w6 g' M e->g'≠w.heap.size+3->Blk w7 g' M e:=fun h AR=>by
    rw[<-Ac];unfold Blk at *;rw[setRow_other _ _ _ _ AR];exact h
   have E0:=Ad D0 (by omega);have E1:=Ad D1 (by omega);have E2:=Ad D2 (by omega);have E4:=Ad D4 (by omega);have AJ:eF w w7:=by
    rw[<-Ac];exact⟨I.os,I.tape,I.output,by simp[World.setRow];exact I.size,fun i hi=>by rw[setRow_other _ _ _ _ (by omega)];exact I.block i hi⟩
   rw[Ac] at AI;have s4:w7.cell? ⟨w.heap.size+3,4,none⟩=some (.int .u32 (o:Int)):=E3.cell 4;have s0:w7.cell? ⟨w.heap.size+3,0,none⟩=some (.int .u32 (B:Int)):=E3.cell 0;have z4:w7.frozen? ⟨w.heap.size+3,4,none⟩=false:=E3.froz 4;have z0:w7.frozen? ⟨w.heap.size+3,0,none⟩=false:=E3.froz 0;have G3:=(E3.set 4 (.int .u32 (((o+X) % 4294967296:Nat):Int))).set 0 (.int .u32 (((X+Y) % 4294967296:Nat):Int));have As:=eA (show Blk ((w7.setCell ⟨w.heap.size+3,4,none⟩ (.int .u32 (((o+X) % 4294967296:Nat):Int))).setCell ⟨w.heap.size+3,0,none⟩ (.int .u32 (((X+Y) % 4294967296:Nat):Int))) (w.heap.size+3) (uv (Sha.steps K L s (t+1))) 281 by rw[Ao.out];exact G3)
   have q1:((o:Int)+X) % 4294967296=(((o+X) % 4294967296:Nat):Int):=by omega
   have q2:((X:Int)+Y) % 4294967296=(((X+Y) % 4294967296:Nat):Int):=by omega
   have Bb:=E3.lt;clear K0 C0 C1 C2 C3 C4 D0 D1 D2 D3 D4 Ad Ac U J I G3 Ao AC AD;generalize (o+X) % 4294967296=V4 at *;generalize (X+Y) % 4294967296=V0 at *;go_wp2_with (at_builtin;refine wpList_copyR _ rfl _ _ 290 290 rfl _ _ rfl rfl (AI _) ?_)
   (try rw[ak])
   (try go_wp2)
   go_roundw
   case rel=>exact⟨t+1,by omega,by go_num,(AJ.setCell (by simp) _).setCell (by simp) _,(E0.set_ne (by simp) _).set_ne (by simp) _,(E1.set_ne (by simp) _).set_ne (by simp) _,(E2.set_ne (by simp) _).set_ne (by simp) _,by first|exact As.out|(rw[<-q1,<-q2] at As;exact As.out),(E4.set_ne (by simp;omega) _).set_ne (by simp;omega) _⟩
   case measure=>simp[intOf];omega
  .obtain rfl:t=64:=by omega
   have Ae:=Sha.og Ai K L 64;have Ah:=Sha.lf Aj K L 64;obtain⟨R,hR⟩:=eD (Sha.steps K L s 64);rw[hR.out] at Ae Ah C3;have AS:Blk wy (w.heap.size+3) (uv (plF R s 0)) 281:=C3;clear C3 Ab AM hT B4 f0 f1 f2 f3;go_wp2_with fail
   go_loopw [15,101] (fun _ i wr=>∃j:Nat,j<=8/\i=.int .i64 (j:Int)/\eF w wr/\Blk wr (w.heap.size+1) (uv s) 281/\Blk wr (w.heap.size+2) ZZ 281/\Blk wr (w.heap.size+3) (uv (plF R s j)) 281) (fun _ i _=>8-(intOf i).toNat)
   case atStart=>exact⟨0,by omega,rfl,J,C1,C2,AS⟩
   case round =>
    obtain⟨j,hj,rfl,Au,F1,F2,F3⟩:=hrel;obtain⟨r,AT⟩:∃r,r=wr:=⟨_,rfl⟩;subst AT;by_cases AU:j<8
    .have V:=plF_len (s:=s) Ae (i:=j) (by omega)
     have AV:=Ah.at_ j;have Bq:=Aj.at_ j;have g3:∀E,eF r E->E.cell? ⟨w.heap.size+3,j,none⟩=some (.int .u32 ((R.getD j 0:Nat):Int)):=fun E f=>((F3.below f).cell j).trans (by rw[oY _ (by omega),plF_get]);have g1:∀E,eF r E->E.cell? ⟨w.heap.size+1,j,none⟩=some (.int .u32 ((s.getD j 0:Nat):Int)):=fun E f=>((F1.below f).cell j).trans (oY _ (by omega));have gs:Hid (∀E,Blk E (w.heap.size+3) (uv (plF R s j)) 281->Blk (E.setCell ⟨w.heap.size+3,j,none⟩ (.int .u32 (((R.getD j 0+s.getD j 0) % 4294967296:Nat):Int))) (w.heap.size+3) (uv (plF R s (j+1))) 281):=eA fun E h=>by
      have:=h.set j (.int .u32 (((R.getD j 0+s.getD j 0) % 4294967296:Nat):Int));rw[ua,plF_set Ae AU] at this;exact this
     generalize R.getD j 0=x at *;generalize s.getD j 0=y at *;have k3:∀p,(ab r p).cell? ⟨w.heap.size+3,j,none⟩=some (.int .u32 (x:Int)):=fun p=>g3 _ (aa r p);have k1:∀p,(ab r p).cell? ⟨w.heap.size+1,j,none⟩=some (.int .u32 (y:Int)):=fun p=>g1 _ (aa r p);have qv:((x:Int)+y) % 4294967296=(((x+y) % 4294967296:Nat):Int):=by omega
     clear g1 V AV;go_upto_region 16 with fail
     refine bz 8 ?_;simp only[List.take_succ_cons,List.take_zero,List.drop_succ_cons,List.drop_zero];repeat (go_big_quiet_step (fail))
     refine wpQuiet_nil ?_;rintro _ ⟨p,rfl⟩;have F:=aa r p;have kc:=k3 p;have G1:=F1.below F;have G2:=F2.below F;have G3:=F3.below F;have AW:eF w (ab r p):=Au.trans (F.mono Au.size);have kf:(ab r p).frozen? ⟨w.heap.size+3,j,none⟩=false:=G3.froz _;have AK:=eA (gs.out _ G3);have Bc:=G3.lt;clear k3 k1 g3 F1 F2 F3;generalize ab r p=wq at *;generalize (x+y) % 4294967296=xy at *;go_wp2_with fail
     (try rw[ak])
     (try go_wp2)
     go_roundw
     case rel=>exact⟨j+1,by omega,by go_num,AW.setCell (by simp) _,G1.set_ne (by simp) _,G2.set_ne (by simp) _,by first|exact AK.out|(rw[qv];exact AK.out)⟩
     case measure=>simp[intOf];omega
    .obtain rfl:j=8:=by omega
     have V:=plF_len (s:=s) Ae (i:=8) (by omega);have AL:plF R s 8=Sha.li R s 8:=by
      unfold plF;rw[List.drop_of_length_le (by omega),List.append_nil]
     rw[AL] at F3 V;clear AL;have Br:=pR F3 (by rw[dM];exact V)
     obtain⟨N,Av⟩:=qn F2 AN (vs:=uv (Sha.li R s 8)) (by rw[dM];exact V) (ub _)
     obtain⟨wf,Aw⟩:=eC (r.setCells (w.heap.size+2) 0 (uv (Sha.li R s 8)));have AX:eF w wf:=by
      rw[<-Aw];exact((Chg.of_below (S:=[]) Au).setCells _ (.inr (by omega))).below (by simp)
     rw[Aw] at N Av;have AY:Has wf (w.heap.size+2) 0 8:=eX Av (by rw[dM];exact V)
     have hA:=mh Av (n:=8) (by rw[dM];exact V)
     clear Aw;go_wp2;refine bodyPost_ret (dA (P:=prog) Tryz.results270 _ _ (w.heap.size+2) 0 8 _ rfl underlying281 rfl ur AY) rfl ?_;exact⟨by rw[hA,<-hR.out],AX⟩
end
end Go.Proofs.YtmbpnkacggngkaaGreatDoor
