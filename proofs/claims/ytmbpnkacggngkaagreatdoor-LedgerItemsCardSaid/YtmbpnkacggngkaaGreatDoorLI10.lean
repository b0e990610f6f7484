/- LedCln, LedWk, LedIns, LedGone, LedClone, LedDoing, LedApply, LedLives, LedInRow, LedCloneA, LedDid, LedApG (put together by bundle.py: only what is needed). -/
import Derived.MapKept
import Derived.Test.YtmbpnkacggngkaaGreatDoorLI9
set_option maxRecDepth 100000
set_option maxHeartbeats 16000000
namespace Go.Proofs.YtmbpnkacggngkaaGreatDoor
open Batch
open Tryz
section
open Go.RowKit Mem Led
def fG(xs:List Value)(e:TypeId)(k n:Nat)(w:World)(x:Ending)(w':World):Prop:=∃A,x=.returned A/\w'.ownsRow w.heap.size e k A n xs/\eF w w'
theorem clnEnt_any(A:Option Addr)(n c:Nat)(xs:List Value)(w:World)(h:Vs w w.heap.size 5 A n xs)(V:n<=1000)(N:A=none->n=0)(O:∀u∈xs,u.oneCell'=true) :
  Calls prog 57 #[.slice A n c] w (fG xs 36 5 n w):=by
 cases A with
 | none =>
  have H:=N rfl;subst H;have I:xs=[]:=List.eq_nil_of_length_eq_zero (by have:=h.len;simpa using this)
  subst I;have S:∀W,(Go.binOp .eql 23 (.slice none 0 c) (.slice none 0 0)).run prog W=.ok (.bool true) W:=fun W=>Lib.run_eql_slice_nil W _ _ _ _ _ _ _ underlying23;go_enter func57,ntmps57
  go_wp2;go_ret;exact⟨_,rfl,⟨rfl,.inl ⟨rfl,rfl⟩⟩,Below.refl _ _⟩
 | some ad =>
  obtain⟨T,J,K,L,M⟩:=an gR;have S:∀W,(Go.binOp .eql 23 (.slice (some ad) n c) (.slice none 0 0)).run prog W=.ok (.bool false) W:=fun W=>Lib.run_eql_slice_nil W _ _ _ _ _ _ _ underlying23;obtain⟨W,G⟩:=eC (w.alloc (.cells #[] 36));have B:W.ownsRow w.heap.size 36 5 (.slice (some ⟨w.heap.size,0,none⟩) 0 0) 0 []:=by rw[<-G];exact World.ownsRow_made w #[] 0 eH (Nat.zero_le _) (by simp)
  have C:eF w W:=eG G
  obtain⟨Q,w',E,D,R,U⟩:=bj (P:=prog) W w.heap.size 23 23 36 T _ 5 72 underlying23 J K L M rfl (by omega) _ 0 _ B w.heap.size (some ad) n c xs (h.below C) O (by unfold maxLen;omega) (by omega) C.size
  have F:Hid (fG xs 36 5 n w (.returned Q) w'):=eA ⟨Q,rfl,by simpa using D,Mem.aH C R C.size B eH⟩;rw[<-G] at E;clear B D R U h O N C G;go_enter func57,ntmps57
  go_wp2_with (at_builtin;refine Lib.wpList_append_run _ rfl _ _ _ _ rfl _ _ rfl rfl _ _ E ?_)
  go_ret;exact F.out
theorem clnNod_any(A:Option Addr)(n c:Nat)(xs:List Value)(w:World)(h:Vs w w.heap.size 5 A n xs)(V:n<=1000)(N:A=none->n=0)(O:∀u∈xs,u.oneCell'=true) :
  Calls prog 58 #[.slice A n c] w (fG xs 40 5 n w):=by
 cases A with
 | none =>
  have H:=N rfl;subst H;have I:xs=[]:=List.eq_nil_of_length_eq_zero (by have:=h.len;simpa using this)
  subst I;have S:∀W,(Go.binOp .eql 24 (.slice none 0 c) (.slice none 0 0)).run prog W=.ok (.bool true) W:=fun W=>Lib.run_eql_slice_nil W _ _ _ _ _ _ _ underlying24;go_enter func58,ntmps58
  go_wp2;go_ret;exact⟨_,rfl,⟨rfl,.inl ⟨rfl,rfl⟩⟩,Below.refl _ _⟩
 | some ad =>
  obtain⟨T,J,K,L,M⟩:=an iz;have S:∀W,(Go.binOp .eql 24 (.slice (some ad) n c) (.slice none 0 0)).run prog W=.ok (.bool false) W:=fun W=>Lib.run_eql_slice_nil W _ _ _ _ _ _ _ underlying24;obtain⟨W,G⟩:=eC (w.alloc (.cells #[] 40));have B:W.ownsRow w.heap.size 40 5 (.slice (some ⟨w.heap.size,0,none⟩) 0 0) 0 []:=by rw[<-G];exact World.ownsRow_made w #[] 0 eH (Nat.zero_le _) (by simp)
  have C:eF w W:=eG G
  obtain⟨Q,w',E,D,R,U⟩:=bj (P:=prog) W w.heap.size 24 24 40 T _ 5 64 underlying24 J K L M rfl (by omega) _ 0 _ B w.heap.size (some ad) n c xs (h.below C) O (by unfold maxLen;omega) (by omega) C.size
  have F:Hid (fG xs 40 5 n w (.returned Q) w'):=eA ⟨Q,rfl,by simpa using D,Mem.aH C R C.size B eH⟩;rw[<-G] at E;clear B D R U h O N C G;go_enter func58,ntmps58
  go_wp2_with (at_builtin;refine Lib.wpList_append_run _ rfl _ _ _ _ rfl _ _ rfl rfl _ _ E ?_)
  go_ret;exact F.out
theorem clnJoi_any(A:Option Addr)(n c:Nat)(xs:List Value)(w:World)(h:Vs w w.heap.size 4 A n xs)(V:n<=1000)(N:A=none->n=0)(O:∀u∈xs,u.oneCell'=true) :
  Calls prog 59 #[.slice A n c] w (fG xs 38 4 n w):=by
 cases A with
 | none =>
  have H:=N rfl;subst H;have I:xs=[]:=List.eq_nil_of_length_eq_zero (by have:=h.len;simpa using this)
  subst I;have S:∀W,(Go.binOp .eql 26 (.slice none 0 c) (.slice none 0 0)).run prog W=.ok (.bool true) W:=fun W=>Lib.run_eql_slice_nil W _ _ _ _ _ _ _ underlying26;go_enter func59,ntmps59
  go_wp2;go_ret;exact⟨_,rfl,⟨rfl,.inl ⟨rfl,rfl⟩⟩,Below.refl _ _⟩
 | some ad =>
  obtain⟨T,J,K,L,M⟩:=an nz;have S:∀W,(Go.binOp .eql 26 (.slice (some ad) n c) (.slice none 0 0)).run prog W=.ok (.bool false) W:=fun W=>Lib.run_eql_slice_nil W _ _ _ _ _ _ _ underlying26;obtain⟨W,G⟩:=eC (w.alloc (.cells #[] 38));have B:W.ownsRow w.heap.size 38 4 (.slice (some ⟨w.heap.size,0,none⟩) 0 0) 0 []:=by rw[<-G];exact World.ownsRow_made w #[] 0 eH (Nat.zero_le _) (by simp)
  have C:eF w W:=eG G
  obtain⟨Q,w',E,D,R,U⟩:=bj (P:=prog) W w.heap.size 26 26 38 T _ 4 48 underlying26 J K L M rfl (by omega) _ 0 _ B w.heap.size (some ad) n c xs (h.below C) O (by unfold maxLen;omega) (by omega) C.size
  have F:Hid (fG xs 38 4 n w (.returned Q) w'):=eA ⟨Q,rfl,by simpa using D,Mem.aH C R C.size B eH⟩;rw[<-G] at E;clear B D R U h O N C G;go_enter func59,ntmps59
  go_wp2_with (at_builtin;refine Lib.wpList_append_run _ rfl _ _ _ _ rfl _ _ rfl rfl _ _ E ?_)
  go_ret;exact F.out
theorem clnKey_any(A:Option Addr)(n c:Nat)(xs:List Value)(w:World)(h:Vs w w.heap.size 4 A n xs)(V:n<=1000)(N:A=none->n=0)(O:∀u∈xs,u.oneCell'=true) :
  Calls prog 60 #[.slice A n c] w (fG xs 42 4 n w):=by
 cases A with
 | none =>
  have H:=N rfl;subst H;have I:xs=[]:=List.eq_nil_of_length_eq_zero (by have:=h.len;simpa using this)
  subst I;have S:∀W,(Go.binOp .eql 27 (.slice none 0 c) (.slice none 0 0)).run prog W=.ok (.bool true) W:=fun W=>Lib.run_eql_slice_nil W _ _ _ _ _ _ _ underlying27;go_enter func60,ntmps60
  go_wp2;go_ret;exact⟨_,rfl,⟨rfl,.inl ⟨rfl,rfl⟩⟩,Below.refl _ _⟩
 | some ad =>
  obtain⟨T,J,K,L,M⟩:=an kC;have S:∀W,(Go.binOp .eql 27 (.slice (some ad) n c) (.slice none 0 0)).run prog W=.ok (.bool false) W:=fun W=>Lib.run_eql_slice_nil W _ _ _ _ _ _ _ underlying27;obtain⟨W,G⟩:=eC (w.alloc (.cells #[] 42));have B:W.ownsRow w.heap.size 42 4 (.slice (some ⟨w.heap.size,0,none⟩) 0 0) 0 []:=by rw[<-G];exact World.ownsRow_made w #[] 0 eH (Nat.zero_le _) (by simp)
  have C:eF w W:=eG G
  obtain⟨Q,w',E,D,R,U⟩:=bj (P:=prog) W w.heap.size 27 27 42 T _ 4 48 underlying27 J K L M rfl (by omega) _ 0 _ B w.heap.size (some ad) n c xs (h.below C) O (by unfold maxLen;omega) (by omega) C.size
  have F:Hid (fG xs 42 4 n w (.returned Q) w'):=eA ⟨Q,rfl,by simpa using D,Mem.aH C R C.size B eH⟩;rw[<-G] at E;clear B D R U h O N C G;go_enter func60,ntmps60
  go_wp2_with (at_builtin;refine Lib.wpList_append_run _ rfl _ _ _ _ rfl _ _ rfl rfl _ _ E ?_)
  go_ret;exact F.out
theorem clnBun_any(A:Option Addr)(n c:Nat)(xs:List Value)(w:World)(h:Vs w w.heap.size 3 A n xs)(V:n<=1000)(N:A=none->n=0)(O:∀u∈xs,u.oneCell'=true) :
  Calls prog 61 #[.slice A n c] w (fG xs 45 3 n w):=by
 cases A with
 | none =>
  have H:=N rfl;subst H;have I:xs=[]:=List.eq_nil_of_length_eq_zero (by have:=h.len;simpa using this)
  subst I;have S:∀W,(Go.binOp .eql 28 (.slice none 0 c) (.slice none 0 0)).run prog W=.ok (.bool true) W:=fun W=>Lib.run_eql_slice_nil W _ _ _ _ _ _ _ underlying28;go_enter func61,ntmps61
  go_wp2;go_ret;exact⟨_,rfl,⟨rfl,.inl ⟨rfl,rfl⟩⟩,Below.refl _ _⟩
 | some ad =>
  obtain⟨T,J,K,L,M⟩:=an iA;have S:∀W,(Go.binOp .eql 28 (.slice (some ad) n c) (.slice none 0 0)).run prog W=.ok (.bool false) W:=fun W=>Lib.run_eql_slice_nil W _ _ _ _ _ _ _ underlying28;obtain⟨W,G⟩:=eC (w.alloc (.cells #[] 45));have B:W.ownsRow w.heap.size 45 3 (.slice (some ⟨w.heap.size,0,none⟩) 0 0) 0 []:=by rw[<-G];exact World.ownsRow_made w #[] 0 eH (Nat.zero_le _) (by simp)
  have C:eF w W:=eG G
  obtain⟨Q,w',E,D,R,U⟩:=bj (P:=prog) W w.heap.size 28 28 45 T _ 3 48 underlying28 J K L M rfl (by omega) _ 0 _ B w.heap.size (some ad) n c xs (h.below C) O (by unfold maxLen;omega) (by omega) C.size
  have F:Hid (fG xs 45 3 n w (.returned Q) w'):=eA ⟨Q,rfl,by simpa using D,Mem.aH C R C.size B eH⟩;rw[<-G] at E;clear B D R U h O N C G;go_enter func61,ntmps61
  go_wp2_with (at_builtin;refine Lib.wpList_append_run _ rfl _ _ _ _ rfl _ _ rfl rfl _ _ E ?_)
  go_ret;exact F.out
theorem mG(A:Option Addr)(n c:Nat)(xs:List Value)(w:World)(h:Vs w w.heap.size 1 A n xs)(V:n<=1000)(N:A=none->n=0)(O:∀u∈xs,u.oneCell'=true) :
  Calls prog 28 #[.slice A n c] w (fG xs 9 1 n w):=by
 cases A with
 | none =>
  have H:=N rfl;subst H;have I:xs=[]:=List.eq_nil_of_length_eq_zero (by have:=h.len;simpa using this)
  subst I;have S:∀W,(Go.binOp .eql 25 (.slice none 0 c) (.slice none 0 0)).run prog W=.ok (.bool true) W:=fun W=>Lib.run_eql_slice_nil W _ _ _ _ _ _ _ underlying25;go_enter func28,ntmps28
  go_wp2;go_ret;exact⟨_,rfl,⟨rfl,.inl ⟨rfl,rfl⟩⟩,Below.refl _ _⟩
 | some ad =>
  obtain⟨T,J,K,L,M⟩:=an gQ;have S:∀W,(Go.binOp .eql 25 (.slice (some ad) n c) (.slice none 0 0)).run prog W=.ok (.bool false) W:=fun W=>Lib.run_eql_slice_nil W _ _ _ _ _ _ _ underlying25;obtain⟨W,G⟩:=eC (w.alloc (.cells #[] 9));have B:W.ownsRow w.heap.size 9 1 (.slice (some ⟨w.heap.size,0,none⟩) 0 0) 0 []:=by rw[<-G];exact World.ownsRow_made w #[] 0 eH (Nat.zero_le _) (by simp)
  have C:eF w W:=eG G
  obtain⟨Q,w',E,D,R,U⟩:=bj (P:=prog) W w.heap.size 25 25 9 T _ 1 16 underlying25 J K L M rfl (by omega) _ 0 _ B w.heap.size (some ad) n c xs (h.below C) O (by unfold maxLen;omega) (by omega) C.size
  have F:Hid (fG xs 9 1 n w (.returned Q) w'):=eA ⟨Q,rfl,by simpa using D,Mem.aH C R C.size B eH⟩;rw[<-G] at E;clear B D R U h O N C G;go_enter func28,ntmps28
  go_wp2_with (at_builtin;refine Lib.wpList_append_run _ rfl _ _ _ _ rfl _ _ rfl rfl _ _ E ?_)
  go_ret;exact F.out
theorem infoJwk:(prog.info? 54).map (fun i=>(i.zero,i.size,i.bytes))=some (some (.agg #[.string ⟨#[]⟩,.string ⟨#[]⟩]),2,32):=by kernel_rfl
theorem rS(A:Option Addr)(n c:Nat)(xs:List Value)(w:World)(h:Vs w w.heap.size 2 A n xs)(V:n<=1000)(N:A=none->n=0)(O:∀u∈xs,u.oneCell'=true) :
  Calls prog 29 #[.slice A n c] w (fG xs 54 2 n w):=by
 cases A with
 | none =>
  have H:=N rfl;subst H;have I:xs=[]:=List.eq_nil_of_length_eq_zero (by have:=h.len;simpa using this)
  subst I;have S:∀W,(Go.binOp .eql 43 (.slice none 0 c) (.slice none 0 0)).run prog W=.ok (.bool true) W:=fun W=>Lib.run_eql_slice_nil W _ _ _ _ _ _ _ underlying43;go_enter func29,ntmps29
  go_wp2;go_ret;exact⟨_,rfl,⟨rfl,.inl ⟨rfl,rfl⟩⟩,Below.refl _ _⟩
 | some ad =>
  obtain⟨T,J,K,L,M⟩:=an infoJwk;have S:∀W,(Go.binOp .eql 43 (.slice (some ad) n c) (.slice none 0 0)).run prog W=.ok (.bool false) W:=fun W=>Lib.run_eql_slice_nil W _ _ _ _ _ _ _ underlying43;obtain⟨W,G⟩:=eC (w.alloc (.cells #[] 54));have B:W.ownsRow w.heap.size 54 2 (.slice (some ⟨w.heap.size,0,none⟩) 0 0) 0 []:=by rw[<-G];exact World.ownsRow_made w #[] 0 eH (Nat.zero_le _) (by simp)
  have C:eF w W:=eG G
  obtain⟨Q,w',E,D,R,U⟩:=bj (P:=prog) W w.heap.size 43 43 54 T _ 2 32 underlying43 J K L M rfl (by omega) _ 0 _ B w.heap.size (some ad) n c xs (h.below C) O (by unfold maxLen;omega) (by omega) C.size
  have F:Hid (fG xs 54 2 n w (.returned Q) w'):=eA ⟨Q,rfl,by simpa using D,Mem.aH C R C.size B eH⟩;rw[<-G] at E;clear B D R U h O N C G;go_enter func29,ntmps29
  go_wp2_with (at_builtin;refine Lib.wpList_append_run _ rfl _ _ _ _ rfl _ _ rfl rfl _ _ E ?_)
  go_ret;exact F.out
end
section
open Go.RowKit Mem Led
section
variable {w w':World}{b b' n n' k k':Nat}{e e':TypeId}{u v:Value}{xs ys:List Value}
theorem dw(h:w.ownsRow b e k u n xs)(D:w.ownsRow b' e' k' v n' ys)(E:e≠e'):iq u v:=by
 rcases h.2 with⟨rfl,_⟩|⟨g,c,F,rfl,_,G,_⟩
 .exact .inl rfl
 .rcases D.2 with⟨rfl,_⟩|⟨H,I,B,rfl,_,A,_⟩
  .exact .inr (by simp[Value.ownBlock])
  .refine .inr fun C=>?_
   simp only[Value.ownBlock,Option.some.injEq] at C;subst C;rw[G] at A;injection A with A
   injection A with _ h2 _
   exact E h2
theorem ax{g:Nat}{M:List Value}(h:w.ownsRow b e k u n xs)(A:Blk w g M e')(C:e≠e'):u.ownBlock≠some g:=by
 rcases h.2 with⟨rfl,_⟩|⟨g1,c,D,rfl,_,E,_⟩
 .simp [Value.ownBlock]
 .intro B
  simp only[Value.ownBlock,Option.some.injEq] at B;subst B;unfold Blk at A;rw[E] at A;injection A with A
  injection A with _ h2 _
  exact C h2
theorem du(h:w.ownsRow b e k u n xs){g:Nat}(A:u.ownBlock=some g):b<=g/\g<w.heap.size:=by
 rcases h.2 with⟨rfl,_⟩|⟨g1,c,B,rfl,C,D,_⟩
 .simp [Value.ownBlock] at A
 .simp only [Value.ownBlock,Option.some.injEq] at A
  subst A;exact⟨C,(Array.getElem?_eq_some_iff.1 D).1⟩
theorem cl(h:w.ownsRow b e k u n xs):∃A c,u=.slice A n c/\Fit n c A/\Vs w w.heap.size k A n xs:=by
 rcases aS h with⟨rfl,rfl,rfl⟩|⟨g,c,M,rfl,_,C,F,D,G,H,B⟩
 .exact⟨none,0,rfl,⟨eH,by omega,fun _=>rfl⟩,Vs.empty _ _ _ _⟩
 .refine⟨_,c,rfl,⟨D,G,fun h=>by cases h⟩,?_,?_⟩
  .rw [<-B,List.length_take,H,Nat.min_eq_left (Nat.mul_le_mul_right _ D)]
  .intro j x E
   refine⟨_,rfl,C,?_⟩;rw[aZ,F.cell];rw[<-B] at E;have:=List.getElem?_take (l:=M) (i:=n*k) (j:=j);rw[E] at this;split at this
   .exact this.symm
   .cases this
theorem bc{α:Type}{enc:α->List Value}{L:List α}(h:w.ownsRow b e k u n (ah enc L)):aV enc k w u L:=by
 obtain⟨A,c,B,C,D⟩:=cl h
 exact⟨A,n,c,B,C,D⟩
theorem dR{L:List Txt}(h:w.ownsRow b e 1 u n (ah al L)):br w u L:=by
 obtain⟨A,c,B,C,_⟩:=cl h
 subst B
 exact⟨A,n,c,rfl,C,nX h⟩
theorem ke(L:List Txt):ah al L=tv L:=by
 unfold ah tv al
 induction L with
 | nil=>rfl
 | cons a l ih=>simp only[List.map_cons,List.flatten_cons,ih];rfl
end
theorem fW{α:Type}{enc:α->List Value}{L:List α}(h:∀x∈L,∀u∈enc x,u.oneCell'=true):∀u∈ah enc L,u.oneCell'=true:=by
 intro u B
 unfold ah at B
 obtain⟨r,C,A⟩:=List.mem_flatten.1 B
 obtain⟨y,D,rfl⟩:=List.mem_map.1 C
 exact h y D u A
structure Wk(base:Nat)(w:World)(vE vN vB vJ vK vU:Value)(L:Led.Ledger)(E:List (Led.Entry × Value))(U:List (Led.Bundle × Value)):Prop where
 oE:w.ownsRow base 36 5 vE E.length (ah ag E)
 oN:w.ownsRow base 40 5 vN L.nodes.length (ah ae L.nodes)
 oB:w.ownsRow base 9 1 vB L.bans.length (ah al L.bans)
 oJ:w.ownsRow base 38 4 vJ L.joins.length (ah vq L.joins)
 oK:w.ownsRow base 42 4 vK L.keys.length (ah ar L.keys)
 oU:w.ownsRow base 45 3 vU U.length (ah ai U)
 ents:E.map Prod.fst=L.entries
 buns:U.map Prod.fst=L.bundles
 sels:∀p∈E,w.ownsRow base 9 1 p.2 p.1.sels.length (ah al p.1.sels)/\iq p.2 vB
 keyss:∀p∈U,w.ownsRow base 54 2 p.2 p.1.keys.length (ah aN p.1.keys)
section
variable {base:Nat}{w w':World}{vE vN vB vJ vK vU:Value}{L:Led.Ledger}{E:List (Led.Entry × Value)}{U:List (Led.Bundle × Value)}
theorem Wk.at(h:Wk base w vE vN vB vJ vK vU L E U):dk w [vE,vN,vB,vJ,vK,vU] L E U :=
 ⟨⟨vE,vN,vB,vJ,vK,vU,rfl,bc h.oE,bc h.oN,dR h.oB,bc h.oJ,bc h.oK,bc h.oU⟩,h.ents,h.buns,fun p A=>dR (h.sels p A).1,fun p A=>bc (h.keyss p A)⟩
theorem Wk.below(h:Wk base w vE vN vB vJ vK vU L E U)(A:eF w w'):Wk base w' vE vN vB vJ vK vU L E U :=
 ⟨af h.oE A eH,af h.oN A eH,af h.oB A eH,af h.oJ A eH,af h.oK A eH,af h.oU A eH,h.ents,h.buns,
  fun p B=>⟨af (h.sels p B).1 A eH,(h.sels p B).2⟩,fun p B=>af (h.keyss p B) A eH⟩
theorem Wk.ones(h:Wk base w vE vN vB vJ vK vU L E U):∀v∈[vE,vN,vB,vJ,vK,vU],v.oneCell'=true:=by
 have key:∀{e:TypeId} {k n:Nat} {v:Value} {xs:List Value},w.ownsRow base e k v n xs->v.oneCell'=true:=fun B=>by
  obtain⟨A,c,rfl,_⟩:=aj B;rfl
 intro v B
 simp only[List.mem_cons,List.not_mem_nil,or_false] at B
 rcases B with rfl|rfl|rfl|rfl|rfl|rfl
 .exact key h.oE
 .exact key h.oN
 .exact key h.oB
 .exact key h.oJ
 .exact key h.oK
 .exact key h.oU
end
structure Led.Ledger.Small(L:Led.Ledger):Prop where
 e:L.entries.length<=1000
 n:L.nodes.length<=1000
 b:L.bans.length<=1000
 j:L.joins.length<=1000
 k:L.keys.length<=1000
 u:L.bundles.length<=1000
 s:∀x∈L.entries,x.sels.length<=1000
 y:∀x∈L.bundles,x.keys.length<=1000
theorem pN{w:World}{E:List (Led.Entry × Value)}(h:∀p∈E,br w p.2 p.1.sels):∀u∈ah ag E,u.oneCell'=true:=fW fun p C u B=>by
 obtain⟨A,n,c,D,_⟩:=h p C
 simp only[ag,List.mem_cons,List.not_mem_nil,or_false] at B
 rcases B with rfl|rfl|rfl|rfl|rfl
 .rfl
 .rfl
 .rfl
 .rfl
 .rw [D];rfl
theorem pO{w:World}{U:List (Led.Bundle × Value)}(h:∀p∈U,aV aN 2 w p.2 p.1.keys):∀u∈ah ai U,u.oneCell'=true:=fW fun p C u B=>by
 obtain⟨A,n,c,D,_⟩:=h p C
 simp only[ai,List.mem_cons,List.not_mem_nil,or_false] at B
 rcases B with rfl|rfl|rfl
 .rfl
 .rfl
 .rw [D];rfl
theorem qM(L:List Led.Node):∀u∈ah ae L,u.oneCell'=true:=fW fun p _ u A=>by
 simp only[ae,List.mem_cons,List.not_mem_nil,or_false] at A
 rcases A with rfl|rfl|rfl|rfl|rfl<;>rfl
theorem one_join(L:List Led.Join):∀u∈ah vq L,u.oneCell'=true:=fW fun p _ u A=>by
 simp only[vq,List.mem_cons,List.not_mem_nil,or_false] at A
 rcases A with rfl|rfl|rfl|rfl<;>rfl
theorem pM(L:List Led.Key):∀u∈ah ar L,u.oneCell'=true:=fW fun p _ u A=>by
 simp only[ar,List.mem_cons,List.not_mem_nil,or_false] at A
 rcases A with rfl|rfl|rfl|rfl<;>rfl
theorem one_jwk(L:List Led.Jwk):∀u∈ah aN L,u.oneCell'=true:=fW fun p _ u A=>by
 simp only[aN,List.mem_cons,List.not_mem_nil,or_false] at A
 rcases A with rfl|rfl<;>rfl
theorem pL(L:List Txt):∀u∈ah al L,u.oneCell'=true:=fW fun p _ u A=>by
 simp only[al,List.mem_cons,List.not_mem_nil,or_false] at A
 subst A
 rfl
end
section
open Go.RowKit Mem Led
structure OpV where
 o:Led.Op
 As:Option Addr
 ns:Nat
 cS:Nat
 Ak:Option Addr
 nk:Nat
 cK:Nat
def lq(x:OpV):List Value:=ac x.o (.slice x.As x.ns x.cS) (.slice x.Ak x.nk x.cK)
theorem mx(x:OpV):(lq x).length=24:=rfl
def OpV.In(w:World)(x:OpV):Prop:=OpIn w x.o x.As x.ns x.cS x.Ak x.nk x.cK
theorem OpIn.below{w w':World}{o:Led.Op}{B:Option Addr}{C D:Nat}{E:Option Addr}{F G:Nat}(h:OpIn w o B C D E F G)(A:eF w w'):OpIn w' o B C D E F G :=
 ⟨Ts.below h.sels A,(Vs.below h.keys A).mono A.size,h.hs,h.hs',h.hk,h.hk',h.sized⟩
structure nS(w:World)(A:Option Addr)(n:Nat)(L:List OpV):Prop where
 es:Es lq 24 w A n L
 each:∀x∈L,x.In w
theorem nS.below{w w':World}{A:Option Addr}{n:Nat}{L:List OpV}(h:nS w A n L)(B:eF w w'):nS w' A n L :=
 ⟨h.es.below B,fun x hx=>OpIn.below (h.each x hx) B⟩
theorem nS.len{w:World}{A:Option Addr}{n:Nat}{L:List OpV}(h:nS w A n L):L.length=n:=h.es.len mx (by omega)
def noOpV:OpV:=⟨fe,none,0,0,none,0,0⟩
theorem open_ops{H:Type}{enc:TypeId × Value->H}{W:World}{spare:Nat->Bool}{held:Bool}{fuel:Nat}{cs:List Value}{y:DataW H × List MemPlace}
  (h:DataW.trod enc prog W 0 spare held fuel 22 cs=some y) :
  ∃A n c L,cs=[.slice A n c]/\nS W A n L/\n<=c/\c<=9223372036854775807:=by
 have E:prog.cellsOf 47=24:=by kernel_rfl
 have F:kQ enc W spare held 22 cs:=⟨fuel,y,h⟩
 obtain⟨A,n,c,rfl,G,I,hx⟩:=F.slice underlying22
 obtain⟨L,J,C⟩:=mH (α:=OpV) noOpV (n:=n) (q:=fun i x=>(∃a,A=some a/\∀j u,(lq x)[j]?=some u->W.cell? (a.add (i*24+j))=some u)/\x.In W) (fun i hi=>by
  obtain⟨a,K,e,_,B,ht⟩:=hx i hi;obtain⟨o,M,N,O,Q,R,S,rfl,D⟩:=open_op ht;rw[E] at B;exact⟨⟨o,M,N,O,Q,R,S⟩,⟨a,e,B⟩,D⟩)
 refine⟨A,n,c,L,rfl,⟨la lq mx J (fun i hi=>(C i hi).1),fun x hx=>?_⟩,G,I⟩
 obtain⟨i,hi,rfl⟩:=List.getElem_of_mem hx
 exact(C i hi).2
theorem ldOp_es{w:World}{A:Option Addr}{n:Nat}{L:List OpV}(h:Es lq 24 w A n L){i:Nat}(hi:i<L.length) :
  ∃b B,A=some ⟨b,B,none⟩/\b<w.heap.size/\∀w',eF w w'->(lu (.pointer (some ⟨b,B+i*24,none⟩))).run prog w'=.ok (.agg (lq L[i]).toArray) w' :=
 fZ underlying47 rfl kn mx (by omega) h hi
theorem cutv_any(x:OpV)(W:World)(h:x.In W) :
  Calls prog 13 #[.agg (lq x).toArray] W fun e w'=>∃E C F D B,e=.returned (.agg (ac (pl x.o B) (.slice E (min x.ns 6) C) (.slice F (min x.nk 9) D)).toArray)/\min x.ns 6<=C/\min x.nk 9<=D /\
   w'.ownsRow W.heap.size 9 1 (.slice E (min x.ns 6) C) (min x.ns 6) (tv ((pl x.o B).entry.sels))/\w'.ownsRow W.heap.size 54 2 (.slice F (min x.nk 9) D) (min x.nk 9) (jv (pl x.o B).bundle.keys)/\dZ (fun x r=>r=Sha.cm x) (x.o.bundle.keys.take 9) B/\eF W w':=by
 obtain⟨o,G,H,I,J,K,L⟩:=x
 have h:OpIn W o G H I J K L:=h
 have A:=h.sized
 exact cut_go o.kind o.n o.name o.entry.n o.entry.path o.entry.parent o.entry.ttl o.join.text o.join.name o.join.expires o.join.used o.node.name o.node.key o.node.expires o.node.seq o.node.doc o.key.kid o.key.seed o.key.state o.key.since o.bundle.domain o.bundle.number G H I J K L o.entry.sels o.bundle.keys A.name A.epath A.eparent A.jtext A.jname A.nname A.nkey A.ndoc A.kkid A.kseed A.bdom W h.sels A.esel h.hs h.keys A.bkey h.hk
end
section
open Go.RowKit Mem
end
section
open Go.RowKit Mem Led
def aB(v:Value):List Value:=[.slice none 0 0,.slice none 0 0,v,.slice none 0 0,.slice none 0 0,.slice none 0 0]
end
section
open Go.RowKit Mem Led
theorem bT:(prog.info? 30).map (·.size)=some 6:=by kernel_rfl
def gH(x:Value):Sem Value:=Instr.loadAt 30 x
def ir(x v:Value):Sem Unit:=Instr.storeAt 30 x v
theorem sG(x:Value):Instr.loadAt 30 x=gH x:=rfl
theorem qS(x v:Value):Instr.storeAt 30 x v=ir x v:=rfl
attribute [go_sem ↓] sG qS
theorem cY{w:World}{g:Nat}{cs:List Value}{t:TypeId}(h:Blk w g cs t)(A:cs.length=6):(gH (.pointer (some ⟨g,0,none⟩))).run prog w=.ok (.agg cs.toArray) w:=by
 have:=bH (P:=prog) w 30 g 0 6 _ underlying30 rfl bT (h.has A)
 rw[h.arr A] at this
 exact this
theorem bX{w:World}{g:Nat}{cs vs:List Value}{t:TypeId}(h:Blk w g cs t)(A:cs.length=6)(B:vs.length=6)(D:∀v∈vs,v.oneCell'=true) :
  (ir (.pointer (some ⟨g,0,none⟩)) (.agg vs.toArray)).run prog w=.ok () (w.setCells g 0 vs)/\Blk (w.setCells g 0 vs) g vs t:=by
 have E:=bu (P:=prog) w 30 g 0 6 bT vs.toArray ⟨by simpa using B,by simpa using D⟩ (h.has A) (fun j _=>h.froz _)
 have C:=iu vs w g 0 cs t h (by omega)
 simp[B,<-A] at C
 exact⟨E,C⟩
end
section
open Go.RowKit Mem
def ents:Nat->List (Int × Value)->List MapEntry
 | _,[]=>[]
 | i,(k,v)::r=>{ key:=.int .i64 k,val:=v,born:=i }::ents (i+1) r
theorem tT:∀(i:Nat) (l:List (Int × Value)) (k:Int) (v:Value),ents i (l++[(k,v)])=ents i l++[{ key:=.int .i64 k,val:=v,born:=i+l.length }]
 | i,[],k,v=>by simp[ents]
 | i,(k',v')::r,k,v=>by
  have ih:=tT (i+1) r k v;simp only[List.cons_append,ents,ih,List.length_cons];congr 4
  omega
theorem kG(k:Int):∀(i j:Nat) (l:List (Int × Value)),Instr.findNow (.int .i64) (.int .i64 k) (ents i l) j=some ((l.findIdx? fun p=>k==p.1).bind fun n=>l[n]?.map fun p=>(j+n,p.2))
 | i,j,[]=>rfl
 | i,j,(k',v')::r=>by
  have ih:=kG k (i+1) (j+1) r;simp only[ents,Instr.findNow,Instr.sameNow,if_true];by_cases h:k=k'
  .subst h
   simp[List.findIdx?_cons]
  .have A:(k==k')=false:=by simp[h]
   simp only[A,ih,List.findIdx?_cons];congr 1
   cases B:List.findIdx? (fun p:Int × Value=>k==p.1) r with
   | none=>simp
   | some n=>simp[Nat.add_assoc,Nat.add_comm 1 n]
def qX(l:List (Int × Value)):Obj:=.map (ents 0 l).toArray l.length
theorem push_set{α:Type}(a:Array α)(x y:α):(a.push x).setIfInBounds a.size y=a.push y:=by
 apply Array.ext
 .simp
 .intro i B A
  have hi:i<a.size+1:=by simpa using A
  rw[Array.getElem_setIfInBounds (by simpa using hi)];by_cases h:a.size=i
  .subst h
   simp
  .rw [if_neg h,Array.getElem_push_lt (by omega),Array.getElem_push_lt (by omega)]
theorem ay{P:Program}(w:World)(l:List (Int × Value))(k:Int)(v:Value)(t A E:TypeId)(ht:P.underlying t=some (.map A E))(B:P.underlying A=some (.int .i64))(F:l.findIdx? (fun p=>k==p.1)=none) :
  (Instr.mapUpdate t (.map (some w.heap.size)) (.int .i64 k) v).run P (w.alloc (qX l))=.ok () (w.alloc (qX (l++[(k,v)]))):=by
 have C:(w.alloc (qX l)).heap[w.heap.size]?=some (.map (ents 0 l).toArray l.length):=heap_alloc_new w _
 have G:=Go.MapKept.run_getObj_map (P:=P) C
 have H:=Go.MapKept.run_checkKey (P:=P) (w:=w.alloc (qX l)) B (k:=.int .i64 k) rfl false 9999
 have I:Instr.findNow (.int .i64) (.int .i64 k) (ents 0 l) 0=some none:=by rw[kG,F];rfl
 have J:=Go.MapKept.run_findKey (P:=P) (w:=w.alloc (qX l)) B I
 have D:=Go.MapKept.run_setObj_map (P:=P) (.map ((ents 0 l).toArray.push { key:=.int .i64 k,val:=v,born:=l.length }) (l.length+1)) C
 have K:{ (w.alloc (qX l)) with heap:=(w.alloc (qX l)).heap.setIfInBounds w.heap.size (.map ((ents 0 l).toArray.push { key:=.int .i64 k,val:=v,born:=l.length }) (l.length+1)) }=w.alloc (qX (l++[(k,v)])):=by
  unfold qX;rw[tT];show ({ heap:=(w.heap.push _).setIfInBounds w.heap.size _,tape:=w.tape,drawn:=w.drawn,os:=w.os,output:=w.output }:World)=_
  rw[push_set];simp only[Nat.zero_add,List.push_toArray,List.length_append,List.length_cons,List.length_nil];rfl
 rw[K] at D
 unfold Instr.mapUpdate
 simp only[Sem.run_bind,run_underlying ht,Result.andThen_ok,G,H,J,D]
theorem run_look{P:Program}(w:World)(r:Nat)(l:List (Int × Value))(k:Int)(t A B:TypeId)(z:Value)(ht:P.underlying t=some (.map A B))(C:P.underlying A=some (.int .i64))(D:(zeroValue B).run P w=.ok z w)(F:w.heap[r]?=some (qX l)) :
  (Instr.lookup t (.map (some r)) (.int .i64 k) false).run P w=.ok (((l.findIdx? fun p=>k==p.1).bind fun n=>l[n]?.map fun p=>p.2).getD z) w:=by
 have G:=Go.MapKept.run_getObj_map (P:=P) (w:=w) (r:=r) (es:=(ents 0 l).toArray) (clock:=l.length) F
 have H:=Go.MapKept.run_checkKey (P:=P) (w:=w) C (k:=.int .i64 k) rfl (ents 0 l).toArray.isEmpty 9999
 have I:=Go.MapKept.run_findKey (P:=P) (w:=w) C (kG k 0 0 l)
 unfold Instr.lookup
 simp only[Sem.run_bind,run_underlying ht,Result.andThen_ok,G,H,I,Sem.run_pure]
 cases J:List.findIdx? (fun p:Int × Value=>k==p.1) l with
 | none=>simp[D]
 | some n =>
  cases E:l[n]? with
  | none=>simp[D,E]
  | some p=>simp[E]
end
section
open Go.RowKit Mem
def doL:List (Int × Value):=[(1,.func (.func 42) #[] #[]),(2,.func (.func 43) #[] #[]),(3,.func (.func 44) #[] #[]),(4,.func (.func 45) #[] #[]),(5,.func (.func 46) #[] #[]),(6,.func (.func 47) #[] #[]),(7,.func (.func 48) #[] #[]),(8,.func (.func 49) #[] #[]),(9,.func (.func 50) #[] #[]),(10,.func (.func 51) #[] #[]),(11,.func (.func 52) #[] #[]),(12,.func (.func 53) #[] #[]),(13,.func (.func 54) #[] #[]),(14,.func (.func 55) #[] #[]),(101,.func (.func 56) #[] #[]),(103,.func (.func 56) #[] #[]),(105,.func (.func 56) #[] #[]),(106,.func (.func 56) #[] #[]),(109,.func (.func 56) #[] #[]),(112,.func (.func 56) #[] #[])]
def mo(j:Nat):Obj:=qX (doL.take j)
theorem tW(w:World):Calls prog 26 #[] w fun e w'=>e=.returned (.map (some w.heap.size))/\w'=w.alloc (mo 20):=by
 have K:=@run_makeMap prog
 have L:(Instr.mapUpdate 73 (.map (some w.heap.size)) (.int .i64 1) (.func (.func 42) #[] #[])).run prog (w.alloc (.map #[] 0))=.ok () (w.alloc (mo 1)):=ay (P:=prog) w (doL.take 0) 1 (.func (.func 42) #[] #[]) _ _ _ underlying73 underlying3 rfl
 have M:(Instr.mapUpdate 73 (.map (some w.heap.size)) (.int .i64 2) (.func (.func 43) #[] #[])).run prog (w.alloc (mo 1))=.ok () (w.alloc (mo 2)):=ay (P:=prog) w (doL.take 1) 2 (.func (.func 43) #[] #[]) _ _ _ underlying73 underlying3 rfl
 have N:(Instr.mapUpdate 73 (.map (some w.heap.size)) (.int .i64 3) (.func (.func 44) #[] #[])).run prog (w.alloc (mo 2))=.ok () (w.alloc (mo 3)):=ay (P:=prog) w (doL.take 2) 3 (.func (.func 44) #[] #[]) _ _ _ underlying73 underlying3 rfl
 have O:(Instr.mapUpdate 73 (.map (some w.heap.size)) (.int .i64 4) (.func (.func 45) #[] #[])).run prog (w.alloc (mo 3))=.ok () (w.alloc (mo 4)):=ay (P:=prog) w (doL.take 3) 4 (.func (.func 45) #[] #[]) _ _ _ underlying73 underlying3 rfl
 have Q:(Instr.mapUpdate 73 (.map (some w.heap.size)) (.int .i64 5) (.func (.func 46) #[] #[])).run prog (w.alloc (mo 4))=.ok () (w.alloc (mo 5)):=ay (P:=prog) w (doL.take 4) 5 (.func (.func 46) #[] #[]) _ _ _ underlying73 underlying3 rfl
 have R:(Instr.mapUpdate 73 (.map (some w.heap.size)) (.int .i64 6) (.func (.func 47) #[] #[])).run prog (w.alloc (mo 5))=.ok () (w.alloc (mo 6)):=ay (P:=prog) w (doL.take 5) 6 (.func (.func 47) #[] #[]) _ _ _ underlying73 underlying3 rfl
 have S:(Instr.mapUpdate 73 (.map (some w.heap.size)) (.int .i64 7) (.func (.func 48) #[] #[])).run prog (w.alloc (mo 6))=.ok () (w.alloc (mo 7)):=ay (P:=prog) w (doL.take 6) 7 (.func (.func 48) #[] #[]) _ _ _ underlying73 underlying3 rfl
 have T:(Instr.mapUpdate 73 (.map (some w.heap.size)) (.int .i64 8) (.func (.func 49) #[] #[])).run prog (w.alloc (mo 7))=.ok () (w.alloc (mo 8)):=ay (P:=prog) w (doL.take 7) 8 (.func (.func 49) #[] #[]) _ _ _ underlying73 underlying3 rfl
 have U:(Instr.mapUpdate 73 (.map (some w.heap.size)) (.int .i64 9) (.func (.func 50) #[] #[])).run prog (w.alloc (mo 8))=.ok () (w.alloc (mo 9)):=ay (P:=prog) w (doL.take 8) 9 (.func (.func 50) #[] #[]) _ _ _ underlying73 underlying3 rfl
 have V:(Instr.mapUpdate 73 (.map (some w.heap.size)) (.int .i64 10) (.func (.func 51) #[] #[])).run prog (w.alloc (mo 9))=.ok () (w.alloc (mo 10)):=ay (P:=prog) w (doL.take 9) 10 (.func (.func 51) #[] #[]) _ _ _ underlying73 underlying3 rfl
 have A:(Instr.mapUpdate 73 (.map (some w.heap.size)) (.int .i64 11) (.func (.func 52) #[] #[])).run prog (w.alloc (mo 10))=.ok () (w.alloc (mo 11)):=ay (P:=prog) w (doL.take 10) 11 (.func (.func 52) #[] #[]) _ _ _ underlying73 underlying3 rfl
 have B:(Instr.mapUpdate 73 (.map (some w.heap.size)) (.int .i64 12) (.func (.func 53) #[] #[])).run prog (w.alloc (mo 11))=.ok () (w.alloc (mo 12)):=ay (P:=prog) w (doL.take 11) 12 (.func (.func 53) #[] #[]) _ _ _ underlying73 underlying3 rfl
 have C:(Instr.mapUpdate 73 (.map (some w.heap.size)) (.int .i64 13) (.func (.func 54) #[] #[])).run prog (w.alloc (mo 12))=.ok () (w.alloc (mo 13)):=ay (P:=prog) w (doL.take 12) 13 (.func (.func 54) #[] #[]) _ _ _ underlying73 underlying3 rfl
 have D:(Instr.mapUpdate 73 (.map (some w.heap.size)) (.int .i64 14) (.func (.func 55) #[] #[])).run prog (w.alloc (mo 13))=.ok () (w.alloc (mo 14)):=ay (P:=prog) w (doL.take 13) 14 (.func (.func 55) #[] #[]) _ _ _ underlying73 underlying3 rfl
 have E:(Instr.mapUpdate 73 (.map (some w.heap.size)) (.int .i64 101) (.func (.func 56) #[] #[])).run prog (w.alloc (mo 14))=.ok () (w.alloc (mo 15)):=ay (P:=prog) w (doL.take 14) 101 (.func (.func 56) #[] #[]) _ _ _ underlying73 underlying3 rfl
 have F:(Instr.mapUpdate 73 (.map (some w.heap.size)) (.int .i64 103) (.func (.func 56) #[] #[])).run prog (w.alloc (mo 15))=.ok () (w.alloc (mo 16)):=ay (P:=prog) w (doL.take 15) 103 (.func (.func 56) #[] #[]) _ _ _ underlying73 underlying3 rfl
 have G:(Instr.mapUpdate 73 (.map (some w.heap.size)) (.int .i64 105) (.func (.func 56) #[] #[])).run prog (w.alloc (mo 16))=.ok () (w.alloc (mo 17)):=ay (P:=prog) w (doL.take 16) 105 (.func (.func 56) #[] #[]) _ _ _ underlying73 underlying3 rfl
 have H:(Instr.mapUpdate 73 (.map (some w.heap.size)) (.int .i64 106) (.func (.func 56) #[] #[])).run prog (w.alloc (mo 17))=.ok () (w.alloc (mo 18)):=ay (P:=prog) w (doL.take 17) 106 (.func (.func 56) #[] #[]) _ _ _ underlying73 underlying3 rfl
 have I:(Instr.mapUpdate 73 (.map (some w.heap.size)) (.int .i64 109) (.func (.func 56) #[] #[])).run prog (w.alloc (mo 18))=.ok () (w.alloc (mo 19)):=ay (P:=prog) w (doL.take 18) 109 (.func (.func 56) #[] #[]) _ _ _ underlying73 underlying3 rfl
 have J:(Instr.mapUpdate 73 (.map (some w.heap.size)) (.int .i64 112) (.func (.func 56) #[] #[])).run prog (w.alloc (mo 19))=.ok () (w.alloc (mo 20)):=ay (P:=prog) w (doL.take 19) 112 (.func (.func 56) #[] #[]) _ _ _ underlying73 underlying3 rfl
 go_enter func26,ntmps26
 go_wp2
 go_ret
 exact⟨rfl,rfl⟩
end
section
open Go.RowKit Mem Led
theorem sQ(w:World):(zeroValue 72).run prog w=.ok .nilFunc w:=by kernel_rfl
theorem look_doer(w:World)(K:Int)(F:FuncId)(A:((doL.findIdx? fun p=>K==p.1).bind fun n=>doL[n]?.map fun p=>p.2)=some (.func (.func F) #[] #[])) :
  (Instr.lookup 73 (.map (some w.heap.size)) (.int .i64 K) false).run prog (w.alloc (mo 20))=.ok (.func (.func F) #[] #[]) (w.alloc (mo 20)):=by
 have h:=run_look (P:=prog) (w.alloc (mo 20)) w.heap.size (doL.take 20) K _ _ _ .nilFunc underlying73 underlying3 (sQ _) (heap_alloc_new w _)
 rw[show doL.take 20=doL from rfl,A] at h
 exact h
end
section
open Go.RowKit Mem Led
theorem cW{w w':World}{base g:Nat}{e:TypeId}{size n:Nat}{v:Value}{xs:List Value}(h:w.ownsRow base e size v n xs)(C:Chg [g] w w')(G:g<base):w'.ownsRow base e size v n xs:=by
 refine⟨h.1,?_⟩
 rcases h.2 with D|⟨b,cap,A,E,F,B,r⟩
 .exact .inl D
 .exact .inr ⟨b,cap,A,E,F,by rw[C.block b (Array.getElem?_eq_some_iff.1 B).1 (by simp;omega)];exact B,r⟩
end
section
open Go.RowKit Mem Led
def ij{α β:Type}(enc:α × Value->List Value)(k:Nat)(e ei:TypeId)(ki:Nat)(ienc:β->List Value)(sub:α->List β)(X:Value->Prop)(base:Nat)(v:Value)(E0:List (α × Value))(j:Nat)(wr:World):Prop :=
 ∃A:List (α × Value),A.map Prod.fst=E0.map Prod.fst/\wr.ownsRow base e k v E0.length (ah enc A) /\
  (∀i,i<j->∀p,A[i]?=some p->wr.ownsRow base ei ki p.2 (sub p.1).length (ah ienc (sub p.1))/\X p.2)/\(∀i,j<=i->A[i]?=E0[i]?)
section
variable {α β:Type}{enc:α × Value->List Value}{k:Nat}{e ei:TypeId}{ki:Nat}{ienc:β->List Value}{sub:α->List β}{X:Value->Prop}{base:Nat}{v:Value}{E0:List (α × Value)}{j:Nat}{wr w':World}
theorem ij.start(h:wr.ownsRow base e k v E0.length (ah enc E0)):ij enc k e ei ki ienc sub X base v E0 0 wr :=
 ⟨E0,rfl,h,fun i hi=>absurd hi (Nat.not_lt_zero i),fun _ _=>rfl⟩
theorem ij.below(h:ij enc k e ei ki ienc sub X base v E0 j wr)(A:eF wr w'):ij enc k e ei ki ienc sub X base v E0 j w':=by
 obtain⟨D,E,F,B,G⟩:=h
 exact⟨D,E,af F A eH,fun i hi p C=>⟨af (B i hi p C).1 A eH,(B i hi p C).2⟩,G⟩
theorem ij.other(h:ij enc k e ei ki ienc sub X base v E0 j wr){g o:Nat}{u:Value}{M:List Value}{e':TypeId}(C:Blk wr g M e')(E:e≠e')(F:ei≠e'):ij enc k e ei ki ienc sub X base v E0 j (wr.setCell ⟨g,o,none⟩ u):=by
 obtain⟨G,g1,D,A,H⟩:=h
 exact⟨G,g1,dv D (ax D C E),fun i hi p B=>⟨dv (A i hi p B).1 (ax (A i hi p B).1 C F),(A i hi p B).2⟩,H⟩
theorem ij.step(b:∀x,(enc x).length=k){f:Nat}(q:f<k)(E:∀x u,enc (x.1,u)=(enc x).set f u)(F:∀x,(enc x)[f]?=some x.2)(G:ei≠e)(h:ij enc k e ei ki ienc sub X base v E0 j wr)(r:j<E0.length) :
  ∃g c,v=.slice (some ⟨g,0,none⟩) E0.length c/\base<=g/\g<wr.heap.size/\(∀w',eF wr w'->w'.cell? ⟨g,j*k+f,none⟩=some E0[j].2/\w'.frozen? ⟨g,j*k+f,none⟩=false/\∃M,Blk w' g M e) /\
   ∀w' C,eF wr w'->w'.ownsRow base ei ki C (sub E0[j].1).length (ah ienc (sub E0[j].1))->X C->ij enc k e ei ki ienc sub X base v E0 (j+1) (w'.setCell ⟨g,j*k+f,none⟩ C):=by
 obtain⟨B,d,s,t,l⟩:=h
 have y:B.length=E0.length:=by have:=congrArg List.length d;simpa using this
 rcases aS s with⟨_,h0,_⟩|⟨g,c,M,rfl,H,O,Q,R,S,z,T⟩
 .omega
 have A:j<B.length:=by omega
 have I:B[j]=E0[j]:=by
  have:=l j eH;rw[List.getElem?_eq_getElem A,List.getElem?_eq_getElem r] at this;exact Option.some.inj this
 have m:ip enc k e g c E0.length wr B:=⟨y,M,Q,z,T⟩
 refine⟨g,c,rfl,H,O,fun w' D=>?_,fun w' C D n hX=>?_⟩
 .obtain⟨N,U⟩:=(m.below D).cell b A (u:=B[j].2) (F _)
  rw[I] at N;exact⟨N,U,M,Q.below D⟩
 .have V:=(m.below D).turn b (x':=(B[j].1,C)) (u:=C) A q (E _ _)
  obtain⟨Aa,M2,Y,Z,J⟩:=V;have K:=Q.below D;refine⟨B.set j (B[j].1,C),?_,dG H Y R S Z J,?_,?_⟩
  .rw [<-d,List.map_set]
   apply List.ext_getElem?
   intro i;rw[List.getElem?_set];split
   .rename_i hij
    subst hij;simp[A]
   .rfl
  .intro i hi p L
   rw[List.getElem?_set] at L;split at L
   .rename_i hij
    subst hij;simp only[Option.some.injEq] at L;subst L;rw[I];exact⟨dv n (ax n K G),hX⟩
   .rename_i hij
    obtain⟨N,U⟩:=t i (by omega) p L;have o:=af N D eH;exact⟨dv o (ax o K G),U⟩
  .intro i hi
   rw[List.getElem?_set,if_neg (by omega)];exact l i (by omega)
end
structure CS(w:World)(vE vN vB vJ vK vU:Value)(L:Led.Ledger)(wr:World):Prop where
 oN:wr.ownsRow (w.heap.size+2) 40 5 vN L.nodes.length (ah ae L.nodes)
 oB:wr.ownsRow (w.heap.size+2) 9 1 vB L.bans.length (ah al L.bans)
 oJ:wr.ownsRow (w.heap.size+2) 38 4 vJ L.joins.length (ah vq L.joins)
 oK:wr.ownsRow (w.heap.size+2) 42 4 vK L.keys.length (ah ar L.keys)
 b0:Blk wr w.heap.size [vE,vN,vB,vJ,vK,vU] 30
 b1:Blk wr (w.heap.size+1) (aB (.slice none 0 0)) 30
 bel:eF w wr
theorem CS.step{w wr w':World}{vE vN vB vJ vK vU u:Value}{L:Led.Ledger}(h:CS w vE vN vB vJ vK vU L wr)(A:eF wr w'){g o:Nat}{M:List Value}{e':TypeId}(I:w.heap.size+2<=g)(B:Blk w' g M e')(C:e'=36\/e'=45) :
  CS w vE vN vB vJ vK vU L (w'.setCell ⟨g,o,none⟩ u):=by
 have D:=af h.oN A eH
 have E:=af h.oB A eH
 have F:=af h.oJ A eH
 have G:=af h.oK A eH
 have n1:(40:TypeId)≠e':=by rcases C with rfl|rfl<;>decide
 have n2:(9:TypeId)≠e':=by rcases C with rfl|rfl<;>decide
 have n3:(38:TypeId)≠e':=by rcases C with rfl|rfl<;>decide
 have H:(42:TypeId)≠e':=by rcases C with rfl|rfl<;>decide
 exact⟨dv D (ax D B n1),dv E (ax E B n2),dv F (ax F B n3),dv G (ax G B H),(h.b0.below A).set_ne (p:=⟨g,o,none⟩) (by simp;omega) _,(h.b1.below A).set_ne (p:=⟨g,o,none⟩) (by simp;omega) _,
  (h.bel.trans (A.mono h.bel.size)).setCell (p:=⟨g,o,none⟩) (by simp;omega) _⟩
end
section
open Go.RowKit Mem Led
theorem fV:∀(vs:List Value) {w:World} {base n g k size:Nat} {v:Value} {e:TypeId} {xs:List Value},w.ownsRow base e size v n xs->g<base->(w.setCells g k vs).ownsRow base e size v n xs
 | [],_,_,_,_,_,_,_,_,_,h,_=>h
 | u::vs,_,_,_,_,_,_,_,_,_,h,hg=>fV vs (ownsRow_setCell_below h hg u) hg
section
variable {base b:Nat}{w w':World}{vE vN vB vJ vK vU:Value}{L:Led.Ledger}{E:List (Led.Entry × Value)}{U:List (Led.Bundle × Value)}
theorem Wk.lower(h:Wk base w vE vN vB vJ vK vU L E U)(A:b<=base):Wk b w vE vN vB vJ vK vU L E U :=
 ⟨aG h.oE A,aG h.oN A,aG h.oB A,aG h.oJ A,aG h.oK A,aG h.oU A,h.ents,h.buns,fun p B=>⟨aG (h.sels p B).1 A,(h.sels p B).2⟩,fun p B=>aG (h.keyss p B) A⟩
theorem Wk.setCells(h:Wk base w vE vN vB vJ vK vU L E U){g k:Nat}(A:g<base)(vs:List Value):Wk base (w.setCells g k vs) vE vN vB vJ vK vU L E U :=
 ⟨fV vs h.oE A,fV vs h.oN A,fV vs h.oB A,fV vs h.oJ A,fV vs h.oK A,fV vs h.oU A,h.ents,h.buns,fun p B=>⟨fV vs (h.sels p B).1 A,(h.sels p B).2⟩,fun p B=>fV vs (h.keyss p B) A⟩
theorem Wk.setCell(h:Wk base w vE vN vB vJ vK vU L E U){a:Addr}(A:a.block<base)(v:Value):Wk base (w.setCell a v) vE vN vB vJ vK vU L E U :=
 ⟨ownsRow_setCell_below h.oE A v,ownsRow_setCell_below h.oN A v,ownsRow_setCell_below h.oB A v,ownsRow_setCell_below h.oJ A v,ownsRow_setCell_below h.oK A v,ownsRow_setCell_below h.oU A v,h.ents,h.buns,fun p B=>⟨ownsRow_setCell_below (h.sels p B).1 A v,(h.sels p B).2⟩,fun p B=>ownsRow_setCell_below (h.keyss p B) A v⟩
end
theorem iP{b k n:Nat}{e:TypeId}{xs:List Value}:io GR fun v w=>w.ownsRow b e k v n xs:=ao fun _ _ _ A h=>af h A eH
theorem bU{P:Program}{F:FuncId}{args:Array Value}{A:World}{b k n:Nat}{e:TypeId}{xs:List Value}(C:b<=A.heap.size)(h:Calls P F args A (fG xs e k n A)) :
  Calls P F args A (fun x B=>∃v,x=.returned v/\GR A B/\B.ownsRow b e k v n xs) :=
 h.mono fun _ _ ⟨v,h1,h2,h3⟩=>⟨v,h1,GR.of h3,aG h2 C⟩
def Copy(L:Led.Ledger)(w:World)(x:Ending)(w':World):Prop :=
 ∃vE vN vB vJ vK vU E U,x=.returned (.agg (#[vE,vN,vB,vJ,vK,vU]:Array Value))/\Wk w.heap.size w' vE vN vB vJ vK vU L E U/\eF w w'
theorem jp(cs:List Value)(L:Led.Ledger)(E:List (Led.Entry × Value))(U:List (Led.Bundle × Value))(w:World)(h:dk w cs L E U)(hs:L.Small):Calls prog 27 #[.agg cs.toArray] w (Copy L w):=by
 obtain⟨⟨vE,vN,vB,vJ,vK,vU,rfl,⟨AE,F,cE,rfl,fE,rE⟩,⟨AN,T,cN,rfl,fN,rN⟩,⟨AB,N,cB,rfl,fB,rB⟩,⟨AJ,V,cJ,rfl,fJ,rJ⟩,⟨AK,X,cK,rfl,fK,rK⟩,⟨AU,G,cU,rfl,fU,rU⟩⟩,Ak,Al,Ai,Aj⟩:=h
 obtain⟨W,hW⟩:=eC (((w.alloc (.cells ([.slice AE F cE,.slice AN T cN,.slice AB N cB,.slice AJ V cJ,.slice AK X cK,.slice AU G cU]:List Value).toArray 30)).alloc (.cells (aB (.slice none 0 0)).toArray 30)))
 have O:Blk W w.heap.size [.slice AE F cE,.slice AN T cN,.slice AB N cB,.slice AJ V cJ,.slice AK X cK,.slice AU G cU] 30:=by rw[<-hW];exact(Blk.new _ _ _).alloc _
 have b1:Blk W (w.heap.size+1) (aB (.slice none 0 0)) 30:=by
  have:=Blk.new (w.alloc (.cells ([.slice AE F cE,.slice AN T cN,.slice AB N cB,.slice AJ V cJ,.slice AK X cK,.slice AU G cU]:List Value).toArray 30)) (aB (.slice none 0 0)) 30;rw[<-hW];simpa using this
 have R:eF w W:=by rw[<-hW];exact eI.alloc (by simp) _
 have AM:W.heap.size=w.heap.size+2:=by rw[<-hW];simp
 have lE:=rE.len bf (by omega)
 have lN:=rN.len aM (by omega)
 have lB:L.bans.length=N:=by have:=rB.len;simpa [tv] using this
 have lJ:=rJ.len bm (by omega)
 have lK:=rK.len aP (by omega)
 have lU:=rU.len aQ (by omega)
 have Bd:E.length=L.entries.length:=by rw[<-Ak,List.length_map]
 have Be:U.length=L.bundles.length:=by rw[<-Al,List.length_map]
 have kE:=eA (fun wx (hx:eF w wx)=>clnEnt_any AE F cE _ wx (Es.below rE hx) (by have:=hs.e;omega) fE.2.2 (pN Ai))
 have kN:=eA (fun wx (hx:eF w wx)=>clnNod_any AN T cN _ wx (Es.below rN hx) (by have:=hs.n;omega) fN.2.2 (qM _))
 have kB:=eA (fun wx (hx:eF w wx)=>mG AB N cB (ah al L.bans) wx (by rw[ke];exact Ts.below rB hx) (by have:=hs.b;omega) fB.2.2 (pL _))
 have kJ:=eA (fun wx (hx:eF w wx)=>clnJoi_any AJ V cJ _ wx (Es.below rJ hx) (by have:=hs.j;omega) fJ.2.2 (one_join _))
 have kK:=eA (fun wx (hx:eF w wx)=>clnKey_any AK X cK _ wx (Es.below rK hx) (by have:=hs.k;omega) fK.2.2 (pM _))
 have kU:=eA (fun wx (hx:eF w wx)=>clnBun_any AU G cU _ wx (Es.below rU hx) (by have:=hs.u;omega) fU.2.2 (pO Aj))
 have C:=eA R
 have HW:=eA hW
 clear hW rE rN rB rJ rK rU fE fN fB fJ fK fU
 go_enter func27,ntmps27
 go_upto_region 1 with fail
 rw[show ((w.alloc (.cells #[.slice AE F cE,.slice AN T cN,.slice AB N cB,.slice AJ V cJ,.slice AK X cK,.slice AU G cU] 30)).alloc (.cells #[.slice none 0 0,.slice none 0 0,.slice none 0 0,.slice none 0 0,.slice none 0 0,.slice none 0 0] 30))=W from HW.out]
 clear HW
 have f0:∀p,(ab W p).cell? ⟨w.heap.size,0,none⟩=some (.slice AE F cE):=fun p=>(ap (a:=⟨w.heap.size,0,none⟩) O.lt p).trans (O.cell 0)
 have f1:∀p,(ab W p).cell? ⟨w.heap.size,1,none⟩=some (.slice AN T cN):=fun p=>(ap (a:=⟨w.heap.size,1,none⟩) O.lt p).trans (O.cell 1)
 have f2:∀p,(ab W p).cell? ⟨w.heap.size,2,none⟩=some (.slice AB N cB):=fun p=>(ap (a:=⟨w.heap.size,2,none⟩) O.lt p).trans (O.cell 2)
 refine aE [([0,1,3,4,6,7],(2,fun v w'=>w'.ownsRow W.heap.size 36 5 v F (ah ag E))),([9],(5,fun v w'=>w'.ownsRow W.heap.size 40 5 v T (ah ae L.nodes))),([],(8,fun v w'=>w'.ownsRow W.heap.size 9 1 v N (ah al L.bans)))] [10,11,12,13,14] (by kernel_rfl) (by kernel_rfl) (by
  intro x hx;simp only[List.mem_cons,List.not_mem_nil,or_false] at hx;rcases hx with rfl|rfl|rfl<;>exact iP) ?_
 refine aw ?_
 simp only[pick,List.getD_cons_zero,List.getD_cons_succ]
 repeat (go_big_quiet_step (fail))
 refine wpQuiet_nil ?_
 refine⟨_,rfl,rfl,?_,?_⟩
 .intro H A _
  go_simp
  exact⟨rfl,bU (by have:=A.below.size;omega) (kE.out H (C.out.trans (A.below.mono C.out.size)))⟩
 intro v1 _
 refine aw ?_
 simp only[pick,List.getD_cons_zero,List.getD_cons_succ,List.getElem_toArray,List.getElem_cons_succ,List.getElem_cons_zero,Act.put,List.setIfInBounds_toArray,List.set_cons_zero,List.set_cons_succ]
 repeat (go_big_quiet_step (fail))
 refine wpQuiet_nil ?_
 refine⟨_,rfl,rfl,?_,?_⟩
 .intro H A _
  go_simp
  exact⟨rfl,bU (by have:=A.below.size;omega) (kN.out H (C.out.trans (A.below.mono C.out.size)))⟩
 intro v2 _
 refine aw ?_
 simp only[pick,List.getElem_toArray,List.getElem_cons_succ,List.getElem_cons_zero,Act.put,List.setIfInBounds_toArray,List.set_cons_zero,List.set_cons_succ]
 repeat (go_big_quiet_step (fail))
 refine wpQuiet_nil ?_
 refine⟨_,rfl,rfl,?_,?_⟩
 .intro H A _
  go_simp
  exact⟨rfl,bU (by have:=A.below.size;omega) (kB.out H (C.out.trans (A.below.mono C.out.size)))⟩
 intro v3 _ H A hF
 obtain⟨⟨⟨_,Y⟩,o2⟩,o3⟩:=hF
 have Z:eF w H:=C.out.trans (A.below.mono C.out.size)
 have c:=O.below A.below
 have d1:=b1.below A.below
 have AO:=A.below.size
 clear f0 f1 f2 kE kN kB O b1 A R
 obtain⟨m,l,rfl,_,_⟩:=aj Y
 obtain⟨A2,c2,rfl,_,_⟩:=aj o2
 obtain⟨t,z,rfl,_,_⟩:=aj o3
 have x0:H.cell? ⟨w.heap.size,0,none⟩=some (.slice AE F cE):=c.cell 0
 have x1:H.cell? ⟨w.heap.size,1,none⟩=some (.slice AN T cN):=c.cell 1
 have x2:H.cell? ⟨w.heap.size,2,none⟩=some (.slice AB N cB):=c.cell 2
 have z0:H.frozen? ⟨w.heap.size,0,none⟩=false:=c.froz 0
 have z1:H.frozen? ⟨w.heap.size,1,none⟩=false:=c.froz 1
 have z2:H.frozen? ⟨w.heap.size,2,none⟩=false:=c.froz 2
 go_upto_region 2 with fail
 obtain⟨w2,Aa⟩:=eC (((H.setCell ⟨w.heap.size,0,none⟩ (.slice m F l)).setCell ⟨w.heap.size,1,none⟩ (.slice A2 T c2)).setCell ⟨w.heap.size,2,none⟩ (.slice t N z))
 have O:Blk w2 w.heap.size [.slice m F l,.slice A2 T c2,.slice t N z,.slice AJ V cJ,.slice AK X cK,.slice AU G cU] 30:=by rw[<-Aa];exact((c.set 0 _).set 1 _).set 2 _
 have b1:Blk w2 (w.heap.size+1) (aB (.slice none 0 0)) 30:=by
  rw[<-Aa];exact((d1.set_ne (p:=⟨w.heap.size,0,none⟩) (by simp) _).set_ne (p:=⟨w.heap.size,1,none⟩) (by simp) _).set_ne (p:=⟨w.heap.size,2,none⟩) (by simp) _
 have I:∀{B n k:Nat} {v:Value} {e:TypeId} {xs:List Value},H.ownsRow B e k v n xs->w.heap.size+2<=B->w2.ownsRow B e k v n xs:=fun h hB=>by
  rw[<-Aa];exact ownsRow_setCell_below (ownsRow_setCell_below (ownsRow_setCell_below h (a:=⟨w.heap.size,0,none⟩) (by simp;omega) _) (a:=⟨w.heap.size,1,none⟩) (by simp;omega) _) (a:=⟨w.heap.size,2,none⟩) (by simp;omega) _
 have R:eF w w2:=by
  rw[<-Aa];exact((Z.setCell (p:=⟨w.heap.size,0,none⟩) eH _).setCell (p:=⟨w.heap.size,1,none⟩) eH _).setCell (p:=⟨w.heap.size,2,none⟩) eH _
 have C:=eA R
 rw[AM] at Y o2 o3
 have p1:=I Y eH
 have p2:=I o2 eH
 have p3:=I o3 eH
 rw[Aa]
 clear I Aa x0 x1 x2 z0 z1 z2 Y o2 o3 Z c d1
 have Bf:=b1.lt
 have f0:∀p,(ab w2 p).cell? ⟨w.heap.size,3,none⟩=some (.slice AJ V cJ):=fun p=>(ap (a:=⟨w.heap.size,3,none⟩) O.lt p).trans (O.cell 3)
 have f1:∀p,(ab w2 p).cell? ⟨w.heap.size,4,none⟩=some (.slice AK X cK):=fun p=>(ap (a:=⟨w.heap.size,4,none⟩) O.lt p).trans (O.cell 4)
 have f2:∀p,(ab w2 p).cell? ⟨w.heap.size,5,none⟩=some (.slice AU G cU):=fun p=>(ap (a:=⟨w.heap.size,5,none⟩) O.lt p).trans (O.cell 5)
 refine aE [([0,1,3,4,6,7],(2,fun v w'=>w'.ownsRow (w.heap.size+2) 38 4 v V (ah vq L.joins))),([9],(5,fun v w'=>w'.ownsRow (w.heap.size+2) 42 4 v X (ah ar L.keys))),([],(8,fun v w'=>w'.ownsRow (w.heap.size+2) 45 3 v G (ah ai U)))] [10,11,12,13,14] (by kernel_rfl) (by kernel_rfl) (by
  intro x hx;simp only[List.mem_cons,List.not_mem_nil,or_false] at hx;rcases hx with rfl|rfl|rfl<;>exact iP) ?_
 refine aw ?_
 simp only[pick,List.getD_cons_zero,List.getD_cons_succ]
 repeat (go_big_quiet_step (fail))
 refine wpQuiet_nil ?_
 refine⟨_,rfl,rfl,?_,?_⟩
 .intro H A _
  go_simp
  exact⟨rfl,bU (by have:=A.below.size;omega) (kJ.out H (C.out.trans (A.below.mono C.out.size)))⟩
 intro v1 _
 refine aw ?_
 simp only[pick,List.getD_cons_zero,List.getD_cons_succ,List.getElem_toArray,List.getElem_cons_succ,List.getElem_cons_zero,Act.put,List.setIfInBounds_toArray,List.set_cons_zero,List.set_cons_succ]
 repeat (go_big_quiet_step (fail))
 refine wpQuiet_nil ?_
 refine⟨_,rfl,rfl,?_,?_⟩
 .intro H A _
  go_simp
  exact⟨rfl,bU (by have:=A.below.size;omega) (kK.out H (C.out.trans (A.below.mono C.out.size)))⟩
 intro v2 _
 refine aw ?_
 simp only[pick,List.getElem_toArray,List.getElem_cons_succ,List.getElem_cons_zero,Act.put,List.setIfInBounds_toArray,List.set_cons_zero,List.set_cons_succ]
 repeat (go_big_quiet_step (fail))
 refine wpQuiet_nil ?_
 refine⟨_,rfl,rfl,?_,?_⟩
 .intro H A _
  go_simp
  exact⟨rfl,bU (by have:=A.below.size;omega) (kU.out H (C.out.trans (A.below.mono C.out.size)))⟩
 intro v6 _ w3 A hF
 obtain⟨⟨⟨_,Y⟩,o2⟩,o3⟩:=hF
 have p1:=af p1 A.below eH
 have p2:=af p2 A.below eH
 have p3:=af p3 A.below eH
 have Z:eF w w3:=C.out.trans (A.below.mono C.out.size)
 have c:=O.below A.below
 have d1:=b1.below A.below
 have AO:=A.below.size
 clear f0 f1 f2 kJ kK kU O b1 A R
 obtain⟨A4,c4,rfl,_,_⟩:=aj Y
 obtain⟨A5,c5,rfl,_,_⟩:=aj o2
 obtain⟨A6,q,rfl,_,_⟩:=aj o3
 have x0:w3.cell? ⟨w.heap.size,3,none⟩=some (.slice AJ V cJ):=c.cell 3
 have x1:w3.cell? ⟨w.heap.size,4,none⟩=some (.slice AK X cK):=c.cell 4
 have x2:w3.cell? ⟨w.heap.size,5,none⟩=some (.slice AU G cU):=c.cell 5
 have z0:w3.frozen? ⟨w.heap.size,3,none⟩=false:=c.froz 3
 have z1:w3.frozen? ⟨w.heap.size,4,none⟩=false:=c.froz 4
 have z2:w3.frozen? ⟨w.heap.size,5,none⟩=false:=c.froz 5
 go_upto_region 3 with fail
 obtain⟨w4,Ab⟩:=eC (((w3.setCell ⟨w.heap.size,3,none⟩ (.slice A4 V c4)).setCell ⟨w.heap.size,4,none⟩ (.slice A5 X c5)).setCell ⟨w.heap.size,5,none⟩ (.slice A6 G q))
 have O:Blk w4 w.heap.size [.slice m F l,.slice A2 T c2,.slice t N z,.slice A4 V c4,.slice A5 X c5,.slice A6 G q] 30:=by rw[<-Ab];exact((c.set 3 _).set 4 _).set 5 _
 have b1:Blk w4 (w.heap.size+1) (aB (.slice none 0 0)) 30:=by
  rw[<-Ab];exact((d1.set_ne (p:=⟨w.heap.size,3,none⟩) (by simp) _).set_ne (p:=⟨w.heap.size,4,none⟩) (by simp) _).set_ne (p:=⟨w.heap.size,5,none⟩) (by simp) _
 have I:∀{B n k:Nat} {v:Value} {e:TypeId} {xs:List Value},w3.ownsRow B e k v n xs->w.heap.size+2<=B->w4.ownsRow B e k v n xs:=fun h hB=>by
  rw[<-Ab];exact ownsRow_setCell_below (ownsRow_setCell_below (ownsRow_setCell_below h (a:=⟨w.heap.size,3,none⟩) (by simp;omega) _) (a:=⟨w.heap.size,4,none⟩) (by simp;omega) _) (a:=⟨w.heap.size,5,none⟩) (by simp;omega) _
 have R:eF w w4:=by
  rw[<-Ab];exact((Z.setCell (p:=⟨w.heap.size,3,none⟩) eH _).setCell (p:=⟨w.heap.size,4,none⟩) eH _).setCell (p:=⟨w.heap.size,5,none⟩) eH _
 have C:=eA R
 have p4:=I Y eH
 have p5:=I o2 eH
 have p6:=I o3 eH
 have p1:=I p1 eH
 have p2:=I p2 eH
 have p3:=I p3 eH
 rw[Ab]
 clear I Ab x0 x1 x2 z0 z1 z2 Y o2 o3 Z c d1
 have Ax:CS w (.slice m F l) (.slice A2 T c2) (.slice t N z) (.slice A4 V c4) (.slice A5 X c5) (.slice A6 G q) L w4:=⟨by rw[lN];exact p2,by rw[lB];exact p3,by rw[lJ];exact p4,by rw[lK];exact p5,O,b1,R⟩
 have Ay:ij ag 5 36 9 1 al Led.Entry.sels (fun u=>iq u (.slice t N z)) (w.heap.size+2) (.slice m F l) E 0 w4:=ij.start (by rw[lE];exact p1)
 have Az:w4.ownsRow (w.heap.size+2) 45 3 (.slice A6 G q) U.length (ah ai U):=by rw[lU];exact p6
 have v0:w4.cell? ⟨w.heap.size,0,none⟩=some (.slice m F l):=O.cell 0
 clear p1 p2 p3 p4 p5 p6 R O b1 C
 go_wp2
 go_loopw [3,32] (fun _ i wr=>∃j:Nat,i=.int .i64 (j:Int)/\j<=F/\Hid (CS w (.slice m F l) (.slice A2 T c2) (.slice t N z) (.slice A4 V c4) (.slice A5 X c5) (.slice A6 G q) L wr/\ij ag 5 36 9 1 al Led.Entry.sels (fun u=>iq u (.slice t N z)) (w.heap.size+2) (.slice m F l) E j wr/\wr.ownsRow (w.heap.size+2) 45 3 (.slice A6 G q) U.length (ah ai U))) (fun _ i _=>F-(intOf i).toNat)
 case atStart=>exact⟨0,rfl,Nat.zero_le _,eA ⟨Ax,Ay,Az⟩⟩
 case round =>
  obtain⟨j,rfl,hj,d⟩:=hrel;obtain⟨wy,AP⟩:∃wy,wy=wr:=⟨_,rfl⟩;subst AP;by_cases Bg:j<F
  .have Bh:(j:Int)<(F:Int):=by omega
   have Am:j<E.length:=by omega
   obtain⟨g,c',hv,An,AQ,D,K⟩:=d.out.2.1.step (fun x=>bf x) (f:=4) (by omega) (fun _ _=>rfl) (fun _=>rfl) (by decide) Am;injection hv with hv1 hv2 hv3
   subst hv1;clear hv2 hv3;obtain⟨A7,r,c7,Ac,Ao,Ad⟩:=Ai _ (List.getElem_mem Am);have Ap:=Ad.len;have AR:E[j].1.sels.length<=1000:=hs.s _ (by rw[<-Ak];exact List.mem_map.2 ⟨_,List.getElem_mem Am,rfl⟩)
   have J:=d.out.1;have Aq:w.heap.size+2<=wy.heap.size:=by have:=J.b1.lt;omega
   have fa:∀p,(ab wy p).cell? ⟨w.heap.size,0,none⟩=some (.slice (some ⟨g,0,none⟩) F l):=fun p=>(ap (a:=⟨w.heap.size,0,none⟩) J.b0.lt p).trans (J.b0.cell 0);have fb:∀p,(ab wy p).cell? ⟨g,j*5+4,none⟩=some (.slice A7 r c7):=fun p=>by rw[(D _ (aa wy p)).1,Ac]
   have k7:=eA (fun wx (hx:eF w wx)=>mG A7 r c7 (ah al E[j].1.sels) wx (by rw[ke];exact Ts.below Ad hx) (by omega) Ao.2.2 (pL _))
   have HC:=eA J.bel;have Ae:=eA K;have Af:=eA D;clear D K J;go_upto_region 6 with fail
   refine aE [([0,1,2,3,4,5,6,7,8],(9,fun v w'=>w'.ownsRow wy.heap.size 9 1 v r (ah al E[j].1.sels)))] [10,11,12] (by kernel_rfl) (by kernel_rfl) (by
    intro x hx;simp only[List.mem_cons,List.not_mem_nil,or_false] at hx;subst hx;exact iP) ?_
   refine aw ?_;simp only[pick,List.getD_cons_zero,List.getD_cons_succ];repeat (go_big_quiet_step (fail))
   refine wpQuiet_nil ?_;refine⟨_,rfl,rfl,?_,?_⟩
   .intro H A _
    go_simp
    exact⟨rfl,bU (by have:=A.below.size;omega) (k7.out H (HC.out.trans (A.below.mono HC.out.size)))⟩
   intro v7 _ w5 Ag hF;obtain⟨_,Y⟩:=hF;have Q:=Ag.below;obtain⟨A8,c8,rfl,_,_⟩:=aj Y;obtain⟨q1,q2,M,hM⟩:=Af.out w5 Q;rw[Ac] at q1;have Ar:=eA (d.out.1.step (u:=.slice A8 r c8) (o:=j*5+4) Q An hM (.inl rfl));have As:=eA (Ae.out w5 (.slice A8 r c8) Q (aG (by rw[<-Ap] at Y ⊢;exact Y) Aq) (by
    cases hq:(Value.slice A8 r c8).ownBlock with
    | none=>exact .inl hq
    | some b =>
     refine .inr ?_;rw[hq];intro e;have h1:=(du Y hq).1;have h2:=(du d.out.1.oB e.symm).2;omega))
   have AS:=eA (dv (a:=⟨g,j*5+4,none⟩) (x:=.slice A8 r c8) (af d.out.2.2 Q eH) (ax (af d.out.2.2 Q eH) hM (by decide)));clear d fa fb k7 Af Ae Ag;go_wp2_with fail
   (try rw[ak])
   (try go_wp2)
   go_roundw
   case rel=>exact⟨j+1,by go_num,by omega,eA ⟨Ar.out,As.out,AS.out⟩⟩
   case measure=>simp[intOf];omega
  .obtain⟨J,hI,hU⟩:=d.out
   have AT:j=F:=by omega
   have u5:wy.cell? ⟨w.heap.size,5,none⟩=some (.slice A6 G q):=J.b0.cell 5;rw[AT] at hI;have HI:=eA hI;have A0:=eA J;clear d hI J Ax Ay Az v0;go_wp2;go_loopw [4,51] (fun _ i wr=>∃k:Nat,i=.int .i64 (k:Int)/\k<=G/\Hid (CS w (.slice m F l) (.slice A2 T c2) (.slice t N z) (.slice A4 V c4) (.slice A5 X c5) (.slice A6 G q) L wr/\ij ag 5 36 9 1 al Led.Entry.sels (fun u=>iq u (.slice t N z)) (w.heap.size+2) (.slice m F l) E F wr/\ij ai 3 45 54 2 aN Led.Bundle.keys (fun _=>True) (w.heap.size+2) (.slice A6 G q) U k wr)) (fun _ i _=>G-(intOf i).toNat)
   case atStart=>exact⟨0,rfl,Nat.zero_le _,eA ⟨A0.out,HI.out,ij.start hU⟩⟩
   case round =>
    obtain⟨k,rfl,hk,d⟩:=hrel;obtain⟨wx,AV⟩:∃wx,wx=wr:=⟨_,rfl⟩;subst AV;by_cases Bi:k<G
    .have Bj:(k:Int)<(G:Int):=by omega
     have Au:k<U.length:=by omega
     obtain⟨g,c',hv,An,AQ,D,K⟩:=d.out.2.2.step (fun x=>aQ x) (f:=2) (by omega) (fun _ _=>rfl) (fun _=>rfl) (by decide) Au;injection hv with hv1 hv2 hv3
     subst hv1;clear hv2 hv3;obtain⟨A7,r,c7,Ac,Ao,Ad⟩:=Aj _ (List.getElem_mem Au);have Ap:=Ad.len cG (by omega);have AR:U[k].1.keys.length<=1000:=hs.y _ (by rw[<-Al];exact List.mem_map.2 ⟨_,List.getElem_mem Au,rfl⟩)
     have J:=d.out.1;have Aq:w.heap.size+2<=wx.heap.size:=by have:=J.b1.lt;omega
     have fa:∀p,(ab wx p).cell? ⟨w.heap.size,5,none⟩=some (.slice (some ⟨g,0,none⟩) G q):=fun p=>(ap (a:=⟨w.heap.size,5,none⟩) J.b0.lt p).trans (J.b0.cell 5);have fb:∀p,(ab wx p).cell? ⟨g,k*3+2,none⟩=some (.slice A7 r c7):=fun p=>by rw[(D _ (aa wx p)).1,Ac]
     have k7:=eA (fun wz (hz:eF w wz)=>rS A7 r c7 (ah aN U[k].1.keys) wz (Es.below Ad hz) (by omega) Ao.2.2 (one_jwk _));have HC:=eA J.bel;have Ae:=eA K;have Af:=eA D;clear D K J;go_upto_region 11 with fail
     refine aE [([0,1,2,3,4,5,6,7,8],(9,fun v w'=>w'.ownsRow wx.heap.size 54 2 v r (ah aN U[k].1.keys)))] [10,11,12] (by kernel_rfl) (by kernel_rfl) (by
      intro x hx;simp only[List.mem_cons,List.not_mem_nil,or_false] at hx;subst hx;exact iP) ?_
     refine aw ?_;simp only[pick,List.getD_cons_zero,List.getD_cons_succ];repeat (go_big_quiet_step (fail))
     refine wpQuiet_nil ?_;refine⟨_,rfl,rfl,?_,?_⟩
     .intro H A _
      go_simp
      exact⟨rfl,bU (by have:=A.below.size;omega) (k7.out H (HC.out.trans (A.below.mono HC.out.size)))⟩
     intro v7 _ w5 Ag hF;obtain⟨_,Y⟩:=hF;have Q:=Ag.below;obtain⟨A8,c8,rfl,_,_⟩:=aj Y;obtain⟨q1,q2,M,hM⟩:=Af.out w5 Q;rw[Ac] at q1;have Ar:=eA (d.out.1.step (u:=.slice A8 r c8) (o:=k*3+2) Q An hM (.inr rfl));have As:=eA (Ae.out w5 (.slice A8 r c8) Q (aG (by rw[<-Ap] at Y ⊢;exact Y) Aq) trivial)
     have AW:=eA ((d.out.2.1.below Q).other (o:=k*3+2) (u:=.slice A8 r c8) hM (by decide) (by decide));clear d fa fb k7 Af Ae Ag;go_wp2_with fail
     (try rw[ak])
     (try go_wp2)
     go_roundw
     case rel=>exact⟨k+1,by go_num,by omega,eA ⟨Ar.out,AW.out,As.out⟩⟩
     case measure=>simp[intOf];omega
    .obtain⟨J,⟨E',A9,AA,AC,AX⟩,⟨U',AD,AF,AG,AY⟩⟩:=d.out
     have AH:E'.length=E.length:=by have:=congrArg List.length A9;simpa using this
     have AI:U'.length=U.length:=by have:=congrArg List.length AD;simpa using this
     have Av:Wk (w.heap.size+2) wx (.slice m F l) (.slice A2 T c2) (.slice t N z) (.slice A4 V c4) (.slice A5 X c5) (.slice A6 G q) L E' U' :=
      ⟨by rw[AH];exact AA,J.oN,J.oB,J.oJ,J.oK,by rw[AI];exact AF,A9.trans Ak,AD.trans Al,fun p hp=>by
       obtain⟨i,hi,rfl⟩:=List.getElem_of_mem hp;exact AC i (by omega) _ (List.getElem?_eq_getElem hi),fun p hp=>by
       obtain⟨i,hi,rfl⟩:=List.getElem_of_mem hp;exact(AG i (by omega) _ (List.getElem?_eq_getElem hi)).1⟩
     have Bk:=cY J.b0 rfl;obtain⟨AZ,Aw⟩:=bX J.b1 rfl (vs:=[.slice m F l,.slice A2 T c2,.slice t N z,.slice A4 V c4,.slice A5 X c5,.slice A6 G q]) rfl Av.ones;obtain⟨wf,Ah⟩:=eC (wx.setCells (w.heap.size+1) 0 [.slice m F l,.slice A2 T c2,.slice t N z,.slice A4 V c4,.slice A5 X c5,.slice A6 G q]);have AL:Wk (w.heap.size+2) wf (.slice m F l) (.slice A2 T c2) (.slice t N z) (.slice A4 V c4) (.slice A5 X c5) (.slice A6 G q) L E' U':=by rw[<-Ah];exact Av.setCells (by omega) _
     have Ba:eF w wf:=by
      rw[<-Ah];exact((Chg.of_below (S:=[]) J.bel).setCells _ (.inr (by omega))).below (by simp)
     rw[Ah] at AZ Aw;have Bb:=Aw.has (n:=6) rfl;have hA:=Aw.arr (n:=6) rfl;have Bc:=eA (AL.lower (b:=w.heap.size) (by omega));clear d Ah Av AA AC AX AF AG AY AL HI A0 J;go_wp2;refine bodyPost_ret (dA (P:=prog) Tryz.results27 _ _ (w.heap.size+1) 0 6 _ rfl underlying30 rfl bT Bb) rfl ?_;exact⟨_,_,_,_,_,_,E',U',congrArg (fun a=>Ending.returned (Value.agg a)) hA,Bc.out,Ba⟩
end
section
open Go.RowKit Mem Led
structure LAt(base gl:Nat)(w:World)(vE vN vB vJ vK vU:Value)(L:Led.Ledger)(E:List (Led.Entry × Value))(U:List (Led.Bundle × Value)):Prop where
 wk:Wk base w vE vN vB vJ vK vU L E U
 blk:Blk w gl [vE,vN,vB,vJ,vK,vU] 30
 hgl:base<=gl
 hb:base<=w.heap.size
def Did(base gl:Nat)(r:Led.Ledger × Int)(w:World)(x:Ending)(w':World):Prop :=
 x=.returned (.int .i64 r.2)/\Below base w w'/\(r.2=0->∃vE vN vB vJ vK vU E U,LAt base gl w' vE vN vB vJ vK vU r.1 E U)
theorem apart_new{w:World}{u v B:Value}{b k n:Nat}{e:TypeId}{xs:List Value}(A:iq u v)(D:w.ownsRow b e k u n xs)(E:B.ownBlock=v.ownBlock\/∃g,w.heap.size<=g/\B.ownBlock=some g):iq u B:=by
 rcases E with h|⟨g,F,h⟩
 .unfold iq at A ⊢
  rw[h];exact A
 .cases C:u.ownBlock with
  | none=>exact .inl C
  | some b =>
   refine .inr ?_;rw[C,h];intro e;injection e with e
   have:=(du D C).2;omega
section
variable {base gl:Nat}{w w':World}{vE vN vB vJ vK vU:Value}{L:Led.Ledger}{E E2:List (Led.Entry × Value)}{U U2:List (Led.Bundle × Value)}
theorem LAt.slotE(H:LAt base gl w vE vN vB vJ vK vU L E U){l:List Led.Entry}(B:bK ag 5 36 base gl 0 vE E2 w w')(M:E2.map Prod.fst=l)(hi:∀p∈E2,w.ownsRow base 9 1 p.2 p.1.sels.length (ah al p.1.sels)/\iq p.2 vB) :
  ∃F,LAt base gl w' F vN vB vJ vK vU { L with entries:=l } E2 U/\Below base w w':=by
 obtain⟨h,G,C,K⟩:=H
 have N:=ax h.oE G (by decide)
 obtain⟨F,I,O,_,_⟩:=B.opened G N
 have A:∀{e:TypeId} {k n:Nat} {u:Value} {xs:List Value},w.ownsRow base e k u n xs->e≠36->e≠30->w'.ownsRow base e k u n xs:=fun J Q R=>B.keeps J (dw J h.oE Q) (ax J G R)
 exact⟨F,⟨⟨O,A h.oN (by decide) (by decide),A h.oB (by decide) (by decide),A h.oJ (by decide) (by decide),A h.oK (by decide) (by decide),A h.oU (by decide) (by decide),M,h.buns,fun p D=>⟨A (hi p D).1 (by decide) (by decide),(hi p D).2⟩,fun p D=>A (h.keyss p D) (by decide) (by decide)⟩,I,C,Nat.le_trans K B.size⟩,B.below C (fun g C=>(du h.oE C).1) K⟩
theorem LAt.slotU(H:LAt base gl w vE vN vB vJ vK vU L E U){l:List Led.Bundle}(B:bK ai 3 45 base gl 5 vU U2 w w')(M:U2.map Prod.fst=l)(hi:∀p∈U2,w.ownsRow base 54 2 p.2 p.1.keys.length (ah aN p.1.keys)) :
  ∃F,LAt base gl w' vE vN vB vJ vK F { L with bundles:=l } E U2/\Below base w w':=by
 obtain⟨h,G,C,K⟩:=H
 have N:=ax h.oU G (by decide)
 obtain⟨F,I,O,_,_⟩:=B.opened G N
 have A:∀{e:TypeId} {k n:Nat} {u:Value} {xs:List Value},w.ownsRow base e k u n xs->e≠45->e≠30->w'.ownsRow base e k u n xs:=fun J Q R=>B.keeps J (dw J h.oU Q) (ax J G R)
 exact⟨F,⟨⟨A h.oE (by decide) (by decide),A h.oN (by decide) (by decide),A h.oB (by decide) (by decide),A h.oJ (by decide) (by decide),A h.oK (by decide) (by decide),O,h.ents,M,fun p D=>⟨A (h.sels p D).1 (by decide) (by decide),(h.sels p D).2⟩,fun p D=>A (hi p D) (by decide) (by decide)⟩,I,C,Nat.le_trans K B.size⟩,B.below C (fun g C=>(du h.oU C).1) K⟩
theorem LAt.slotN(H:LAt base gl w vE vN vB vJ vK vU L E U){l:List Led.Node}(B:bK ae 5 40 base gl 1 vN l w w') :
  ∃F,LAt base gl w' vE F vB vJ vK vU { L with nodes:=l } E U/\Below base w w':=by
 obtain⟨h,G,C,K⟩:=H
 have M:=ax h.oN G (by decide)
 obtain⟨F,I,N,_,_⟩:=B.opened G M
 have A:∀{e:TypeId} {k n:Nat} {u:Value} {xs:List Value},w.ownsRow base e k u n xs->e≠40->e≠30->w'.ownsRow base e k u n xs:=fun J O Q=>B.keeps J (dw J h.oN O) (ax J G Q)
 exact⟨F,⟨⟨A h.oE (by decide) (by decide),N,A h.oB (by decide) (by decide),A h.oJ (by decide) (by decide),A h.oK (by decide) (by decide),A h.oU (by decide) (by decide),h.ents,h.buns,fun p D=>⟨A (h.sels p D).1 (by decide) (by decide),(h.sels p D).2⟩,fun p D=>A (h.keyss p D) (by decide) (by decide)⟩,I,C,Nat.le_trans K B.size⟩,B.below C (fun g C=>(du h.oN C).1) K⟩
theorem LAt.slotJ(H:LAt base gl w vE vN vB vJ vK vU L E U){l:List Led.Join}(B:bK vq 4 38 base gl 3 vJ l w w') :
  ∃F,LAt base gl w' vE vN vB F vK vU { L with joins:=l } E U/\Below base w w':=by
 obtain⟨h,G,C,K⟩:=H
 have M:=ax h.oJ G (by decide)
 obtain⟨F,I,N,_,_⟩:=B.opened G M
 have A:∀{e:TypeId} {k n:Nat} {u:Value} {xs:List Value},w.ownsRow base e k u n xs->e≠38->e≠30->w'.ownsRow base e k u n xs:=fun J O Q=>B.keeps J (dw J h.oJ O) (ax J G Q)
 exact⟨F,⟨⟨A h.oE (by decide) (by decide),A h.oN (by decide) (by decide),A h.oB (by decide) (by decide),N,A h.oK (by decide) (by decide),A h.oU (by decide) (by decide),h.ents,h.buns,fun p D=>⟨A (h.sels p D).1 (by decide) (by decide),(h.sels p D).2⟩,fun p D=>A (h.keyss p D) (by decide) (by decide)⟩,I,C,Nat.le_trans K B.size⟩,B.below C (fun g C=>(du h.oJ C).1) K⟩
theorem LAt.slotK(H:LAt base gl w vE vN vB vJ vK vU L E U){l:List Led.Key}(B:bK ar 4 42 base gl 4 vK l w w') :
  ∃F,LAt base gl w' vE vN vB vJ F vU { L with keys:=l } E U/\Below base w w':=by
 obtain⟨h,G,C,K⟩:=H
 have M:=ax h.oK G (by decide)
 obtain⟨F,I,N,_,_⟩:=B.opened G M
 have A:∀{e:TypeId} {k n:Nat} {u:Value} {xs:List Value},w.ownsRow base e k u n xs->e≠42->e≠30->w'.ownsRow base e k u n xs:=fun J O Q=>B.keeps J (dw J h.oK O) (ax J G Q)
 exact⟨F,⟨⟨A h.oE (by decide) (by decide),A h.oN (by decide) (by decide),A h.oB (by decide) (by decide),A h.oJ (by decide) (by decide),N,A h.oU (by decide) (by decide),h.ents,h.buns,fun p D=>⟨A (h.sels p D).1 (by decide) (by decide),(h.sels p D).2⟩,fun p D=>A (h.keyss p D) (by decide) (by decide)⟩,I,C,Nat.le_trans K B.size⟩,B.below C (fun g C=>(du h.oK C).1) K⟩
theorem LAt.slotB(H:LAt base gl w vE vN vB vJ vK vU L E U){l:List Txt}(C:bK al 1 9 base gl 2 vB l w w') :
  ∃G,LAt base gl w' vE vN G vJ vK vU { L with bans:=l } E U/\Below base w w':=by
 obtain⟨h,D,F,M⟩:=H
 have N:=ax h.oB D (by decide)
 obtain⟨G,I,O,_,J⟩:=C.opened D N
 have A:∀{e:TypeId} {k n:Nat} {u:Value} {xs:List Value},w.ownsRow base e k u n xs->e≠9->e≠30->w'.ownsRow base e k u n xs:=fun K Q R=>C.keeps K (dw K h.oB Q) (ax K D R)
 exact⟨G,⟨⟨A h.oE (by decide) (by decide),A h.oN (by decide) (by decide),O,A h.oJ (by decide) (by decide),A h.oK (by decide) (by decide),A h.oU (by decide) (by decide),h.ents,h.buns,fun p B=>⟨C.keeps (h.sels p B).1 (h.sels p B).2 (ax (h.sels p B).1 D (by decide)),apart_new (h.sels p B).2 (h.sels p B).1 J⟩,fun p B=>A (h.keyss p B) (by decide) (by decide)⟩,I,F,Nat.le_trans M C.size⟩,C.below F (fun g F=>(du h.oB F).1) M⟩
theorem Did.err{k:Int}{x:Ending}(A:base<=w.heap.size)(B:k≠0)(h:x=.returned (.int .i64 k)/\eF w w'):Did base gl (L,k) w x w':=⟨h.1,h.2.mono A,fun e=>absurd e B⟩
theorem Did.ok{L':Led.Ledger}{vE vN vB vJ vK vU:Value}{E:List (Led.Entry × Value)}{U:List (Led.Bundle × Value)}(h:LAt base gl w' vE vN vB vJ vK vU L' E U)(A:Below base w w'):Did base gl (L',0) w (.returned (.int .i64 0)) w':=⟨rfl,A,fun _=>⟨vE,vN,vB,vJ,vK,vU,E,U,h⟩⟩
end
structure Sized(o:Led.Op):Prop where
 nm:o.name.length<=9223372036854775807
 ep:o.entry.path.length<=9223372036854775807
 er:o.entry.parent.length<=9223372036854775807
 es:∀x∈o.entry.sels,x.length<=9223372036854775807
 el:o.entry.sels.length<=1000
 jt:o.join.text.length<=9223372036854775807
 jn:o.join.name.length<=9223372036854775807
 nn:o.node.name.length<=9223372036854775807
 ud:o.bundle.domain.length<=9223372036854775807
 ul:o.bundle.keys.length<=1000
theorem Led.Ledger.Wf.small{L:Led.Ledger}(h:L.Wf):L.Small:=by
 have:=h.e3;have:=h.n3;have:=h.b3;have:=h.j3;have:=h.k3;have:=h.u3
 exact⟨by omega,by omega,by omega,by omega,by omega,by omega,h.e4,h.u2⟩
section
variable {base gl:Nat}{w w':World}{vE vN vB vJ vK vU sv kv:Value}{L:Led.Ledger}{E E2:List (Led.Entry × Value)}{U U2:List (Led.Bundle × Value)}{o:Led.Op}
theorem vl{α β:Type}{E:List (α × β)}{l:List α}(h:E.map Prod.fst=l)(p:α->Bool):(E.any fun x=>p x.1)=l.any p:=by
 subst h
 rw[List.any_map]
 rfl
theorem tS{α β:Type}{E:List (α × β)}{l:List α}(h:E.map Prod.fst=l)(p:α->Bool):(E.eraseP fun x=>p x.1).map Prod.fst=l.eraseP p:=by
 subst h
 rw[List.eraseP_map]
 rfl
theorem ins_fst{α β:Type}{c:α->α->Int}{E:List (α × β)}{l:List α}(h:E.map Prod.fst=l)(x:α)(v:β):(ins (fun a b:α × β=>c a.1 b.1) (x,v) E).map Prod.fst=ins c x l:=by
 subst h
 unfold ins
 rw[List.map_append,List.map_cons,List.filter_map,List.filter_map]
 rfl
theorem tm{α β:Type}{c:α->α->Int}{E:List (α × β)}{l:List α}(h:E.map Prod.fst=l)(A:aY c l):aY (fun a b:α × β=>c a.1 b.1) E:=by
 subst h
 exact List.pairwise_map.1 A
theorem did_gone(H:LAt base gl w vE vN vB vJ vK vU L E U)(D:L.Wf):Calls prog 43 #[.pointer (some ⟨gl,0,none⟩),.agg (ac o sv kv).toArray] w (Did base gl (im L o.n) w):=by
 have C:E.length=L.entries.length:=by rw[<-H.wk.ents,List.length_map]
 have M:=D.e3
 refine(sM gl _ _ o.n E base vE w (by omega) rfl H.blk rfl H.wk.oE (ax H.wk.oE H.blk (by decide)) (fun y F=>?_)).mono ?_
 .intro u G
  exact pN (w:=w) (E:=E) (fun p B=>dR (H.wk.sels p B).1) u (List.mem_flatten.2 ⟨ag y,List.mem_map.2 ⟨y,F,rfl⟩,G⟩)
 intro x w' A
 unfold bL at A
 rw[vl (l:=L.entries) H.wk.ents (fun e=>e.n==o.n)] at A
 unfold im
 split at A
 .obtain⟨rfl,I⟩:=A
  rename_i hc
  rw[if_pos hc];obtain⟨N,J,K⟩:=H.slotE I (tS (l:=L.entries) H.wk.ents (fun e=>e.n==o.n)) (fun p B=>H.wk.sels p (bV B));exact Did.ok J K
 .rename_i hc
  rw[if_neg hc];exact Did.err H.hb (by decide) A
theorem did_unbind(H:LAt base gl w vE vN vB vJ vK vU L E U)(D:L.Wf):Calls prog 54 #[.pointer (some ⟨gl,0,none⟩),.agg (ac o sv kv).toArray] w (Did base gl (dz L o.name) w):=by
 have C:U.length=L.bundles.length:=by rw[<-H.wk.buns,List.length_map]
 have M:=D.u3
 refine(unbind_any gl _ _ o.name U base vU w (by omega) rfl H.blk rfl H.wk.oU (ax H.wk.oU H.blk (by decide)) (fun y F=>?_)).mono ?_
 .intro u G
  exact pO (w:=w) (U:=U) (fun p B=>bc (H.wk.keyss p B)) u (List.mem_flatten.2 ⟨ai y,List.mem_map.2 ⟨y,F,rfl⟩,G⟩)
 intro x w' A
 unfold bL at A
 rw[vl (l:=L.bundles) H.wk.buns (fun e=>e.domain==o.name)] at A
 unfold dz
 split at A
 .obtain⟨rfl,I⟩:=A
  rename_i hc
  rw[if_pos hc];obtain⟨N,J,K⟩:=H.slotU I (tS (l:=L.bundles) H.wk.buns (fun e=>e.domain==o.name)) (fun p B=>H.wk.keyss p (bV B));exact Did.ok J K
 .rename_i hc
  rw[if_neg hc];exact Did.err H.hb (by decide) A
theorem did_lift(H:LAt base gl w vE vN vB vJ vK vU L E U)(B:L.Wf):Calls prog 48 #[.pointer (some ⟨gl,0,none⟩),.agg (ac o sv kv).toArray] w (Did base gl (jg L o.name) w):=by
 have G:=B.b3
 refine(lift_any gl _ _ o.name L.bans base vB w (by omega) rfl H.blk rfl H.wk.oB (ax H.wk.oB H.blk (by decide))).mono ?_
 intro x w' A
 unfold bL at A
 unfold jg
 split at A
 .obtain⟨rfl,C⟩:=A
  rename_i hc
  rw[if_pos hc];obtain⟨I,D,F⟩:=H.slotB C;exact Did.ok D F
 .rename_i hc
  rw[if_neg hc];exact Did.err H.hb (by decide) A
theorem lX{α:Type}{enc:α->List Value}{l:List α}(h:∀u∈ah enc l,u.oneCell'=true):∀y∈l,∀u∈enc y,u.oneCell'=true:=fun y A u B=>h u (List.mem_flatten.2 ⟨enc y,List.mem_map.2 ⟨y,A,rfl⟩,B⟩)
theorem did_evict(H:LAt base gl w vE vN vB vJ vK vU L E U)(B:L.Wf):Calls prog 49 #[.pointer (some ⟨gl,0,none⟩),.agg (ac o sv kv).toArray] w (Did base gl (gq L o.name) w):=by
 have G:=B.n3
 refine(tR gl _ _ o.name L.nodes base vN w (by omega) rfl H.blk rfl H.wk.oN (ax H.wk.oN H.blk (by decide)) (lX (qM _))).mono ?_
 intro x w' A
 unfold bL at A
 unfold gq
 split at A
 .obtain⟨rfl,C⟩:=A
  rename_i hc
  rw[if_pos hc];obtain⟨I,D,F⟩:=H.slotN C;exact Did.ok D F
 .rename_i hc
  rw[if_neg hc];exact Did.err H.hb (by decide) A
theorem did_drop(H:LAt base gl w vE vN vB vJ vK vU L E U)(B:L.Wf):Calls prog 52 #[.pointer (some ⟨gl,0,none⟩),.agg (ac o sv kv).toArray] w (Did base gl (jh L o.name) w):=by
 have G:=B.k3
 refine(drop_any gl _ _ o.name L.keys base vK w (by omega) rfl H.blk rfl H.wk.oK (ax H.wk.oK H.blk (by decide)) (lX (pM _))).mono ?_
 intro x w' A
 unfold bL at A
 unfold jh
 split at A
 .obtain⟨rfl,C⟩:=A
  rename_i hc
  rw[if_pos hc];obtain⟨I,D,F⟩:=H.slotK C;exact Did.ok D F
 .rename_i hc
  rw[if_neg hc];exact Did.err H.hb (by decide) A
theorem qO(H:LAt base gl w vE vN vB vJ vK vU L E U){n:Led.Node}{x:Ending}(A:bO base gl vN L.nodes L.bans n w x w') :
  x=.returned (.int .i64 (aR L n).2)/\Below base w w'/\((aR L n).2=0->∃B l,(aR L n).1={ L with nodes:=l }/\LAt base gl w' vE B vB vJ vK vU { L with nodes:=l } E U):=by
 unfold bO at A
 unfold aR
 split at A
 .rename_i h1
  rw[if_pos h1];split at A
  .rename_i h2
   rw[if_pos h2];exact⟨A.1,A.2.mono H.hb,fun e=>by cases e⟩
  .rename_i h2
   rw[if_neg h2];unfold gy at A
   cases C:put cN 4 n L.nodes with
   | none =>
    rw[C] at A;exact⟨A.1,A.2.mono H.hb,fun e=>by cases e⟩
   | some l =>
    rw[C] at A;obtain⟨rfl,D⟩:=A;obtain⟨B,g1,F⟩:=H.slotN D;exact⟨rfl,F,fun _=>⟨B,l,rfl,g1⟩⟩
 .rename_i h1
  rw[if_neg h1];exact⟨A.1,A.2.mono H.hb,fun e=>by cases e⟩
theorem did_node(H:LAt base gl w vE vN vB vJ vK vU L E U)(A:L.Wf)(B:Sized o):Calls prog 46 #[.pointer (some ⟨gl,0,none⟩),.agg (ac o sv kv).toArray] w (Did base gl (aR L o.node) w):=by
 refine(o5 gl o sv kv _ L.nodes L.bans base vN vB w B.nn A.n3 A.b3 A.n1 H.hb H.blk rfl rfl H.wk.oN (ax H.wk.oN H.blk (by decide)) H.wk.oB).mono ?_
 intro x w' C
 obtain⟨D,F,G⟩:=qO H C
 refine⟨D,F,fun e=>?_⟩
 obtain⟨K,l,I,J⟩:=G e
 rw[I]
 exact⟨_,_,_,_,_,_,_,_,J⟩
theorem did_seq(H:LAt base gl w vE vN vB vJ vK vU L E U)(C:L.Wf):Calls prog 55 #[.pointer (some ⟨gl,0,none⟩),.agg (ac o sv kv).toArray] w (Did base gl (jZ L o.name o.n) w):=by
 have I:=C.n3
 refine(seq_any gl _ _ o.name o.n L.nodes base vN w (by omega) rfl rfl H.blk rfl H.wk.oN (ax H.wk.oN H.blk (by decide))).mono ?_
 intro x w' A
 unfold jq at A
 unfold jZ
 cases B:L.nodes.find? (fun d=>d.name==o.name) with
 | none =>
  rw[B] at A;exact Did.err H.hb (by decide) A
 | some d =>
  rw[B] at A;simp only[] at A ⊢;split at A
  .rename_i hc
   rw[if_pos hc];exact Did.err H.hb (by decide) A
  .rename_i hc
   rw[if_neg hc];obtain⟨rfl,D⟩:=A;obtain⟨J,F,G⟩:=H.slotN D;exact Did.ok F G
theorem did_prepare(H:LAt base gl w vE vN vB vJ vK vU L E U)(B:L.Wf):Calls prog 50 #[.pointer (some ⟨gl,0,none⟩),.agg (ac o sv kv).toArray] w (Did base gl (dU L o.key) w):=by
 refine(prepare_any gl o sv kv _ L.keys base vK w B.k3 H.hb H.blk rfl H.wk.oK (ax H.wk.oK H.blk (by decide))).mono ?_
 intro x w' A
 unfold fu at A
 unfold dU
 split at A
 .rename_i hc
  rw[if_pos hc];exact Did.err H.hb (by decide) A
 .rename_i hc
  rw[if_neg hc];split at A
  .rename_i hc
   rw[if_pos hc];exact Did.err H.hb (by decide) A
  .rename_i hc
   rw[if_neg hc];split at A
   .rename_i hc
    rw[if_pos hc];exact Did.err H.hb (by decide) A
   .rename_i hc
    rw[if_neg hc];obtain⟨rfl,C⟩:=A;obtain⟨G,D,F⟩:=H.slotK C;exact Did.ok D F
theorem did_active(H:LAt base gl w vE vN vB vJ vK vU L E U)(B:L.Wf):Calls prog 51 #[.pointer (some ⟨gl,0,none⟩),.agg (ac o sv kv).toArray] w (Did base gl (dK L o.n) w):=by
 refine(vo gl o sv kv _ L.keys base vK w B.k3 H.blk rfl H.wk.oK (ax H.wk.oK H.blk (by decide))).mono ?_
 intro x w' A
 unfold fO at A
 unfold dK
 split at A
 .rename_i hc
  rw[if_pos hc];split at A
  .rename_i hc
   rw[if_pos hc];obtain⟨rfl,C⟩:=A;obtain⟨G,D,F⟩:=H.slotK C;exact Did.ok D F
  .rename_i hc
   rw[if_neg hc];exact Did.err H.hb (by decide) A
 .rename_i hc
  rw[if_neg hc];exact Did.err H.hb (by decide) A
theorem did_token(H:LAt base gl w vE vN vB vJ vK vU L E U)(C:L.Wf)(B:Sized o):Calls prog 44 #[.pointer (some ⟨gl,0,none⟩),.agg (ac o sv kv).toArray] w (Did base gl (vr L o.join) w):=by
 refine(putJoin_any gl o sv kv _ L.joins base vJ w B.jt B.jn C.j3 H.hb H.blk rfl H.wk.oJ (ax H.wk.oJ H.blk (by decide))).mono ?_
 intro x w' A
 unfold iG at A
 unfold vr
 split at A
 .rename_i hc
  rw[if_pos hc];exact Did.err H.hb (by decide) A
 .rename_i hc
  rw[if_neg hc];split at A
  .rename_i hc
   rw[if_pos hc];exact Did.err H.hb (by decide) A
  .rename_i hc
   rw[if_neg hc];split at A
   .rename_i hc
    rw[if_pos hc];exact Did.err H.hb (by decide) A
   .rename_i hc
    rw[if_neg hc];obtain⟨rfl,D⟩:=A;obtain⟨I,F,G⟩:=H.slotJ D;exact Did.ok F G
theorem did_ban(H:LAt base gl w vE vN vB vJ vK vU L E U)(G:L.Wf)(K:Sized o):Calls prog 47 #[.pointer (some ⟨gl,0,none⟩),.agg (ac o sv kv).toArray] w (Did base gl (ii L o.name) w):=by
 refine(ban_any gl o sv kv _ L.nodes L.bans base vN vB w K.nm G.n3 G.b3 G.b1 H.hb H.blk rfl rfl H.wk.oN (ax H.wk.oN H.blk (by decide)) H.wk.oB (ax H.wk.oB H.blk (by decide)) (dw H.wk.oN H.wk.oB (by decide))).mono ?_
 intro x w' B
 unfold gv at B
 unfold ii
 split at B
 .rename_i hc
  rw[if_pos hc];split at B
  .rename_i hc
   rw[if_pos hc];exact Did.err H.hb (by decide) B
  .rename_i hc
   rw[if_neg hc]
   cases J:put ord 8 o.name L.bans with
   | none =>
    rw[J] at B;exact Did.err H.hb (by decide) B
   | some l =>
    rw[J] at B;obtain⟨rfl,S,x',M,F⟩:=B;obtain⟨N,C,D⟩:=H.slotB M;unfold bL at F;split at F
    .obtain⟨_,I⟩:=F
     obtain⟨T,O,A⟩:=C.slotN I;exact Did.ok O (D.trans A)
    .rename_i hn
     have A:=F.2;have Q:L.nodes.eraseP (fun n=>n.name==o.name)=L.nodes:=List.eraseP_of_forall_not (fun a R=>by
      intro h;exact hn (List.any_eq_true.2 ⟨a,R,h⟩))
     rw[Q];refine Did.ok (vE:=vE) (vN:=vN) (vB:=N) (vJ:=vJ) (vK:=vK) (vU:=vU) (E:=E) (U:=U) ⟨C.wk.below A,C.blk.below A,C.hgl,Nat.le_trans C.hb A.size⟩ (D.trans (A.mono C.hb))
 .rename_i hc
  rw[if_neg hc];exact Did.err H.hb (by decide) B
theorem did_join(H:LAt base gl w vE vN vB vJ vK vU L E U)(D:L.Wf)(N:Sized o):Calls prog 45 #[.pointer (some ⟨gl,0,none⟩),.agg (ac o sv kv).toArray] w (Did base gl (fF L o.name o.node) w):=by
 refine(useJoin_any gl o sv kv _ L.nodes L.bans L.joins base vN vB vJ w N.nn D.n3 D.b3 D.j3 D.n1 H.hb H.blk rfl rfl rfl H.wk.oN (ax H.wk.oN H.blk (by decide)) H.wk.oB H.wk.oJ (ax H.wk.oJ H.blk (by decide)) (dw H.wk.oJ H.wk.oN (by decide))).mono ?_
 intro x w' A
 unfold jz at A
 unfold fF
 cases K:L.joins.find? (fun j=>j.text==o.name) with
 | none =>
  rw[K] at A;exact Did.err H.hb (by decide) A
 | some j =>
  rw[K] at A;simp only[] at A ⊢;split at A
  .rename_i hc
   rw[if_pos hc];exact Did.err H.hb (by decide) A
  .rename_i hc
   rw[if_neg hc];split at A
   .rename_i hc
    rw[if_pos hc];rcases A with⟨rfl,T,F,O⟩|⟨hx,F⟩
    .obtain⟨B,G,M⟩:=qO H F
     have C:(aR L o.node).2=0:=by injection B with B;injection B with _ B;exact B.symm
     obtain⟨V,l,Q,R⟩:=M C;obtain⟨X,S,I⟩:=R.slotJ O;rw[C,Q];exact Did.ok S (G.trans I)
    .obtain⟨B,G,M⟩:=qO H F
     have C:(aR L o.node).2≠0:=fun e=>hx (by rw[B,e]);have J:((aR L o.node).2==0)=false:=by simpa using C
     simp only[J];exact⟨B,G,fun e=>absurd e C⟩
   .rename_i hc
    rw[if_neg hc];exact Did.err H.hb (by decide) A
theorem did_entry(H:LAt base gl w vE vN vB vJ vK vU L E U)(G:L.Wf)(F:Sized o)(D:w.ownsRow base 9 1 sv o.entry.sels.length (ah al o.entry.sels))(I:iq sv vB):Calls prog 42 #[.pointer (some ⟨gl,0,none⟩),.agg (ac o sv kv).toArray] w (Did base gl (fA L o.entry) w):=by
 have K:E.length=L.entries.length:=by rw[<-H.wk.ents,List.length_map]
 have Q:=G.e3
 refine(uG gl o sv kv _ E base vE w (dR D) F.el F.es F.ep F.er (by omega) (tm H.wk.ents G.e1) (fun p C=>may_n (G.e2 _ (by rw[<-H.wk.ents];exact List.mem_map.2 ⟨p,C,rfl⟩))) (fun p C=>?_) H.hb H.blk rfl H.wk.oE (ax H.wk.oE H.blk (by decide))).mono ?_
 .obtain⟨A,c,h,_⟩:=aj (H.wk.sels p C).1
  rw[h];rfl
 intro x w' B
 unfold j7 at B
 unfold fA
 split at B
 .rename_i hc
  rw[if_pos hc];have hi:(ins cEp (o.entry,sv) E).map Prod.fst=ins cE o.entry L.entries:=ins_fst H.wk.ents o.entry sv;have J:(ins cEp (o.entry,sv) E).length=(ins cE o.entry L.entries).length:=by rw[<-hi,List.length_map]
  unfold gy put at B;unfold put;rw[J] at B;split at B
  .rename_i l hl
   split at hl
   .rename_i hle
    injection hl with hl
    subst hl;rw[if_pos hle];obtain⟨rfl,M⟩:=B;obtain⟨R,N,O⟩:=H.slotE M hi (fun p C=>by
     rcases gP C with rfl|C
     .exact⟨D,I⟩
     .exact H.wk.sels p C)
    exact Did.ok N O
   .cases hl
  .rename_i hl
   split at hl
   .cases hl
   .rename_i hle
    rw[if_neg hle];exact Did.err H.hb (by decide) B
 .rename_i hc
  rw[if_neg hc];exact Did.err H.hb (by decide) B
end
end
section
open Go.RowKit Mem Led
theorem dk.len{w:World}{cs:List Value}{L:Led.Ledger}{E:List (Led.Entry × Value)}{U:List (Led.Bundle × Value)}(h:dk w cs L E U):cs.length=6:=by
 obtain⟨⟨vE,vN,vB,vJ,vK,vU,rfl,_⟩,_⟩:=h
 rfl
theorem Blk.lower{w w':World}{g B:Nat}{cs:List Value}{t:TypeId}(h:Blk w g cs t)(A:Below B w w')(C:g<B):Blk w' g cs t:=by
 unfold Blk at *
 rw[A.block g C]
 exact h
def After(L:Led.Ledger)(r:Led.Ledger × Int):Led.Ledger:=if r.2=0 then r.1 else L
def mj(D:Led.Ledger × Int->Prop)(L:Led.Ledger)(w:World)(x:Ending)(w':World):Prop :=
 ∃r,D r/\∃vE vN vB vJ vK vU E U,x=.returned (.tuple #[.agg #[vE,vN,vB,vJ,vK,vU],.int .i64 r.2])/\Wk w.heap.size w' vE vN vB vJ vK vU (After L r) E U/\eF w w'
def Doer(F:FuncId)(w:World)(L:Led.Ledger)(o:Led.Op)(D:Led.Ledger × Int->Prop):Prop :=
 ∀base gl W vE vN vB vJ vK vU E U sv kv,w.heap.size<=base->eF w W->LAt base gl W vE vN vB vJ vK vU L E U->W.ownsRow base 9 1 sv o.entry.sels.length (ah al o.entry.sels)->iq sv vB ->
  W.ownsRow base 54 2 kv o.bundle.keys.length (ah aN o.bundle.keys)->Calls prog F #[.pointer (some ⟨gl,0,none⟩),.agg (ac o sv kv).toArray] W fun x w'=>∃r,D r/\Did base gl r W x w'
theorem bD(cs:List Value)(L:Led.Ledger)(E:List (Led.Entry × Value))(U:List (Led.Bundle × Value))(o:Led.Op)(sv kv:Value)(F:FuncId)(D:Led.Ledger × Int->Prop)(w:World)(hL:dk w cs L E U)(hs:L.Small)(AG:br w sv o.entry.sels)(AH:aV aN 2 w kv o.bundle.keys)
  (AW:o.entry.sels.length<=1000) (AX:o.bundle.keys.length<=1000) (hK:((doL.findIdx? fun p=>o.kind==p.1).bind fun n=>doL[n]?.map fun p=>p.2)=some (.func (.func F) #[] #[]))
  (eg:∀args w,(callFunc F args).run prog w=.ok (.enter F args) w) (AI:Doer F w L o D) :
  Calls prog 14 #[.agg cs.toArray,.agg (ac o sv kv).toArray] w (mj D L w):=by
 obtain⟨j,G,k,rfl,fs,ts⟩:=AG
 obtain⟨l,O,m,rfl,fk,tk⟩:=AH
 have AJ:=ts.len
 have AK:=tk.len cG (by omega)
 obtain⟨W,hW⟩:=eC (((w.alloc (.cells cs.toArray 30)).alloc (.cells (ac o (.slice j G k) (.slice l O m)).toArray 47)).alloc (.cells (aB (.slice none 0 0)).toArray 30))
 have b0:Blk W w.heap.size cs 30:=by rw[<-hW];exact((Blk.new _ _ _).alloc _).alloc _
 have b1:Blk W (w.heap.size+1) (ac o (.slice j G k) (.slice l O m)) 47:=by
  have:=Blk.new (w.alloc (.cells cs.toArray 30)) (ac o (.slice j G k) (.slice l O m)) 47;rw[<-hW];exact Blk.alloc (by simpa using this) _
 have b2:Blk W (w.heap.size+2) (aB (.slice none 0 0)) 30:=by
  have:=Blk.new ((w.alloc (.cells cs.toArray 30)).alloc (.cells (ac o (.slice j G k) (.slice l O m)).toArray 47)) (aB (.slice none 0 0)) 30;rw[<-hW];simpa using this
 have Av:eF w W:=by rw[<-hW];exact(eI.alloc (by simp) _).alloc (by simp;omega) _
 have AL:W.heap.size=w.heap.size+3:=by rw[<-hW];simp
 have T:=tW W.drew
 have Ai:(Instr.lookup 73 (.map (some (w.heap.size+3))) (.int .i64 o.kind) false).run prog (W.alloc (mo 20)).drew=.ok (.func (.func F) #[] #[]) (W.alloc (mo 20)).drew:=by
  have:=look_doer W.drew o.kind F hK;rw[show W.drew.heap.size=w.heap.size+3 from AL] at this;exact this
 have Aw:(ac o (.slice j G k) (.slice l O m))[0]?=some (.int .i64 o.kind):=rfl
 have m0:W.cell? ⟨w.heap.size+1,0,none⟩=some (.int .i64 o.kind):=(b1.cell 0).trans Aw
 have m1:∀o',(W.alloc o').cell? ⟨w.heap.size+1,0,none⟩=some (.int .i64 o.kind):=fun o'=>((b1.alloc o').cell 0).trans Aw
 obtain⟨ops,B⟩:=eD (ac o (.slice j G k) (.slice l O m))
 have Aj:ops[7]?=some (.slice j G k):=by rw[<-B.out];rfl
 have Y:ops[23]?=some (.slice l O m):=by rw[<-B.out];rfl
 have Al:ops.length=24:=by rw[<-B.out];rfl
 rw[B.out] at b1 hW ⊢
 have HW:=eA hW
 unfold aB at HW
 clear hW
 go_enter func14,ntmps14
 go_upto_region 1 with fail
 rw[HW.out]
 go_cut [6] (fun s6 wx=>s6=.func (.func F) #[] #[]/\eF W wx)
 case first =>
  go_region_with (go_at_call 26;refine T.mono ?_;rintro e w1 ⟨rfl,rfl⟩)
  all_goals
   go_wp2_with fail
   go_meet
   case rel=>exact⟨rfl,((Below.refl _ _).drew).alloc eH _⟩
 case rest =>
  obtain⟨rfl,V⟩:=hcut;have c0:=b0.below V;have c1:=b1.below V;have c2:=b2.below V;have Am:eF w wc:=Av.trans (V.mono Av.size);have Ax:=hL.below Am;have Z:=cY c0 hL.len;have Ay:=jp cs L E U wc Ax hs;have AU:∀W,(Go.binOp .eql 72 (.func (.func F) #[] #[]) .nilFunc).run prog W=.ok (.bool false) W:=fun W=>by kernel_rfl
  have AM:w.heap.size+3<=wc.heap.size:=by have:=V.size;omega
  clear Ai T m0 m1 HW b0 b1 b2 V;go_wp2_with fail
  refine Ay.mono ?_;rintro e w2 ⟨vE,vN,vB,vJ,vK,vU,E1,U1,rfl,An,X⟩;have d0:=c0.below X;have d1:=c1.below X;have d2:=c2.below X;have Ab:eF w w2:=Am.trans (X.mono Am.size);have bn:=Blk.new w2 (aB (.slice none 0 0)) 30;obtain⟨Az,B3⟩:=bX bn rfl (vs:=[vE,vN,vB,vJ,vK,vU]) rfl An.ones;obtain⟨wn,Ao⟩:=eC ((w2.alloc (.cells (aB (.slice none 0 0)).toArray 30)).setCells w2.heap.size 0 [vE,vN,vB,vJ,vK,vU]);have c:Chg [] w2 wn:=by rw[<-Ao];exact((Chg.refl _ _).alloc _).setCells _ (.inr eH)
  rw[Ao] at Az B3;unfold aB at Az;have e0:=d0.chg c (by simp);have e1:=d1.chg c (by simp);have e2:=d2.chg c (by simp);have s:=c.below (fun _ h=>by cases h);have d:Wk (w.heap.size+3) wn vE vN vB vJ vK vU L E1 U1:=(An.below s).lower AM;have f:eF w wn:=Ab.trans (s.mono Ab.size);have A0:w.heap.size+3<=wn.heap.size:=by have:=s.size;have:=X.size;omega
  have AN:w.heap.size+3<=w2.heap.size:=by have:=X.size;omega
  clear Z Ay c0 c1 c2 d0 d1 d2 bn Ao c s Ax An;have f7:∀p,(ab wn p).cell? ⟨w.heap.size+1,7,none⟩=some (.slice j G k):=fun p=>(ap (a:=⟨w.heap.size+1,7,none⟩) e1.lt p).trans ((e1.cell 7).trans Aj);have AO:∀p,(ab wn p).cell? ⟨w.heap.size+1,23,none⟩=some (.slice l O m):=fun p=>(ap (a:=⟨w.heap.size+1,23,none⟩) e1.lt p).trans ((e1.cell 23).trans Y);have kS:=eA (fun wx (hx:eF w wx)=>mG j G k (ah al o.entry.sels) wx (by rw[ke];exact Ts.below ts hx) (by omega) fs.2.2 (pL _))
  have kK:=eA (fun wx (hx:eF w wx)=>rS l O m (ah aN o.bundle.keys) wx (Es.below tk hx) (by omega) fk.2.2 (one_jwk _));have HB:=eA f;go_upto_region 5 with fail
  refine aE [([0,1,2,4,5,6],(3,fun v w'=>w'.ownsRow wn.heap.size 9 1 v G (ah al o.entry.sels))),([8,9],(7,fun v w'=>w'.ownsRow wn.heap.size 54 2 v O (ah aN o.bundle.keys)))] [10,11,12,13] (by kernel_rfl) (by kernel_rfl) (by
   intro x hx;simp only[List.mem_cons,List.not_mem_nil,or_false] at hx;rcases hx with rfl|rfl<;>exact iP) ?_
  refine aw ?_;simp only[pick,List.getD_cons_zero,List.getD_cons_succ];repeat (go_big_quiet_step (fail))
  refine wpQuiet_nil ?_;refine⟨_,rfl,rfl,?_,?_⟩
  .intro w1 g _
   go_simp
   exact⟨rfl,bU (by have:=g.below.size;omega) (kS.out w1 (HB.out.trans (g.below.mono HB.out.size)))⟩
  intro v1 _;refine aw ?_;simp only[pick,List.getD_cons_zero,List.getD_cons_succ,List.getElem_toArray,List.getElem_cons_succ,List.getElem_cons_zero,Act.put,List.setIfInBounds_toArray,List.set_cons_zero,List.set_cons_succ];repeat (go_big_quiet_step (fail))
  refine wpQuiet_nil ?_;refine⟨_,rfl,rfl,?_,?_⟩
  .intro w1 g _
   go_simp
   exact⟨rfl,bU (by have:=g.below.size;omega) (kK.out w1 (HB.out.trans (g.below.mono HB.out.size)))⟩
  intro v2 _ w5 A1 hF;obtain⟨⟨_,o1⟩,o2⟩:=hF;have R:=A1.below;obtain⟨A8,c8,rfl,_,_⟩:=aj o1;obtain⟨A9,c9,rfl,_,_⟩:=aj o2;have g0:=e0.below R;have g1:=e1.below R;have g2:=e2.below R;have g3:=B3.below R;have Ac:=d.below R;have A2:eF w w5:=f.trans (R.mono f.size);have x7:w5.cell? ⟨w.heap.size+1,7,none⟩=some (.slice j G k):=(g1.cell 7).trans Aj;have z7:w5.frozen? ⟨w.heap.size+1,7,none⟩=false:=g1.froz 7;have AP:w5.cell? ⟨w.heap.size+1,23,none⟩=some (.slice l O m):=(g1.cell 23).trans Y;have AQ:w5.frozen? ⟨w.heap.size+1,23,none⟩=false:=g1.froz 23;have AV:=R.size;clear f7 AO kS kK A1 e0 e1 e2;go_upto_region 6 with fail
  obtain⟨q,A⟩:=eC ((w5.setCell ⟨w.heap.size+1,7,none⟩ (.slice A8 G c8)).setCell ⟨w.heap.size+1,23,none⟩ (.slice A9 O c9));have Ad:(ops.set 7 (.slice A8 G c8)).set 23 (.slice A9 O c9)=ac o (.slice A8 G c8) (.slice A9 O c9):=by rw[<-B.out];rfl
  have j1:Blk q (w.heap.size+1) (ac o (.slice A8 G c8) (.slice A9 O c9)) 47:=by rw[<-A,<-Ad];exact(g1.set 7 _).set 23 _
  have j0:Blk q w.heap.size cs 30:=by rw[<-A];exact(g0.set_ne (p:=⟨w.heap.size+1,7,none⟩) (by simp) _).set_ne (p:=⟨w.heap.size+1,23,none⟩) (by simp) _
  have j2:Blk q (w.heap.size+2) (aB (.slice none 0 0)) 30:=by rw[<-A];exact(g2.set_ne (p:=⟨w.heap.size+1,7,none⟩) (by simp) _).set_ne (p:=⟨w.heap.size+1,23,none⟩) (by simp) _
  have j3:Blk q w2.heap.size [vE,vN,vB,vJ,vK,vU] 30:=by rw[<-A];exact(g3.set_ne (p:=⟨w.heap.size+1,7,none⟩) (by simp;omega) _).set_ne (p:=⟨w.heap.size+1,23,none⟩) (by simp;omega) _
  have Ae:Wk (w.heap.size+3) q vE vN vB vJ vK vU L E1 U1:=by rw[<-A];exact(Ac.setCell (a:=⟨w.heap.size+1,7,none⟩) (by simp) _).setCell (a:=⟨w.heap.size+1,23,none⟩) (by simp) _
  have Af:eF w q:=by rw[<-A];exact(A2.setCell (p:=⟨w.heap.size+1,7,none⟩) (by simp) _).setCell (p:=⟨w.heap.size+1,23,none⟩) (by simp) _
  have A3:q.ownsRow (w.heap.size+3) 9 1 (.slice A8 G c8) o.entry.sels.length (ah al o.entry.sels):=by
   rw[<-A,AJ];exact ownsRow_setCell_below (ownsRow_setCell_below (aG o1 A0) (a:=⟨w.heap.size+1,7,none⟩) (by simp) _) (a:=⟨w.heap.size+1,23,none⟩) (by simp) _
  have A4:q.ownsRow (w.heap.size+3) 54 2 (.slice A9 O c9) o.bundle.keys.length (ah aN o.bundle.keys):=by
   rw[<-A,AK];exact ownsRow_setCell_below (ownsRow_setCell_below (aG o2 A0) (a:=⟨w.heap.size+1,7,none⟩) (by simp) _) (a:=⟨w.heap.size+1,23,none⟩) (by simp) _
  have AR:iq (.slice A8 G c8) vB:=by
   cases hq:(Value.slice A8 G c8).ownBlock with
   | none=>exact .inl hq
   | some b =>
    refine .inr ?_;rw[hq];intro e;have h1:=(du o1 hq).1;have h2:=(du d.oB e.symm).2;omega
  have A5:w.heap.size+3<=q.heap.size:=by rw[<-A];simp;omega
  rw[A];have t:=AI (w.heap.size+3) w2.heap.size q vE vN vB vJ vK vU E1 U1 _ _ (by omega) Af ⟨Ae,j3,AN,A5⟩ A3 AR A4;have Z:=eS j1 rfl;obtain⟨CS,A6⟩:=eC ((ac o (.slice A8 G c8) (.slice A9 O c9)).toArray);rw[A6] at Z t;clear x7 z7 AP AQ A Ad g0 g1 g2 g3 o1 o2 Ac d B3 A6 B Aj Y Al HB;go_wp2_with fail
  refine t.mono ?_;rintro e w7 ⟨r,A7,rfl,Ap,Aq⟩;have Q:eF w w7:=Af.trans (Ap.mono (by omega));have q0:=j0.lower Ap (by omega);have q2:=j2.lower Ap (by omega);by_cases hr:r.2=0
  .obtain⟨H,I,J,K,M,N,E',U',u⟩:=Aq hr
   have AA:=cY u.blk rfl;obtain⟨Ar,y⟩:=bX q2 rfl (vs:=[H,I,J,K,M,N]) rfl u.wk.ones;obtain⟨w8,z⟩:=eC (w7.setCells (w.heap.size+2) 0 [H,I,J,K,M,N]);have AB:Chg [w.heap.size+2] w7 w8:=by rw[<-z];exact(Chg.refl _ _).setCells _ (.inl (by simp))
   have C:Wk (w.heap.size+3) w8 H I J K M N r.1 E' U':=by rw[<-z];exact u.wk.setCells (by omega) _
   rw[z] at Ar y;have hH:=y.has (n:=6) rfl;have hA:=y.arr (n:=6) rfl;have i:eF w w8:=((Chg.of_below (S:=[w.heap.size+2]) Q).and AB).below' eH (by simp);have Au:=eA C;clear Z t z AB y u C Aq;rw[hr];go_wp2;refine bodyPost_ret (fS (P:=prog) Tryz.results14 _ _ (w.heap.size+2) 0 6 _ rfl underlying30 rfl bT hH) rfl ?_;refine⟨r,A7,H,I,J,K,M,N,E',U',by rw[hA,hr];rfl,?_,i⟩
   unfold After;rw[if_pos hr];exact Au.out.lower (by omega)
  .have AS:(r.2 != 0)=true:=by simpa using hr
   have AA:=cY q0 hL.len;have Ag:=jp cs L E U w7 (hL.below Q) hs;have HR:=eA hr;clear Z t Aq j0 j1 j2 j3 Ae A3 A4;obtain⟨rv,AC⟩:=eD (r.2);rw[AC.out] at AS hr ⊢;go_wp2_with fail
   refine Ag.mono ?_;rintro e w8 ⟨H,I,J,K,M,N,E',U',rfl,C,AD⟩;have AT:=q2.below AD;obtain⟨Ar,y⟩:=bX AT rfl (vs:=[H,I,J,K,M,N]) rfl C.ones;have i:eF w w8:=Q.trans (AD.mono Q.size);obtain⟨w9,Aa⟩:=eC (w8.setCells (w.heap.size+2) 0 [H,I,J,K,M,N]);have AE:Chg [w.heap.size+2] w8 w9:=by rw[<-Aa];exact(Chg.refl _ _).setCells _ (.inl (by simp))
   have Ah:Wk w7.heap.size w9 H I J K M N L E' U':=by rw[<-Aa];exact C.setCells q2.lt _
   rw[Aa] at Ar y;have hH:=y.has (n:=6) rfl;have hA:=y.arr (n:=6) rfl;have AF:eF w w9:=((Chg.of_below (S:=[w.heap.size+2]) i).and AE).below' eH (by simp);have Au:=eA (Ah.lower (b:=w.heap.size) Q.size);clear Aa AE y C Ah Ag;go_wp2;refine bodyPost_ret (fS (P:=prog) Tryz.results14 _ _ (w.heap.size+2) 0 6 _ rfl underlying30 rfl bT hH) rfl ?_;refine⟨r,A7,H,I,J,K,M,N,E',U',by rw[hA,AC.out];rfl,?_,AF⟩
   unfold After;rw[if_neg HR.out];exact Au.out
end
end Go.Proofs.YtmbpnkacggngkaaGreatDoor
