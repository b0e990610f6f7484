/- LedCln, LedWk, LedIns, LedGone, LedClone, LedDoing, LedApply, LedLives, LedInRow, MixC, LedCloneA (put together by bundle.py: only what is needed). -/
import Derived.MapKept
import Derived.Test.YtmbpnkacggngkaaGreatDoorLX8
set_option maxRecDepth 100000
set_option maxHeartbeats 16000000
namespace Go.Proofs.YtmbpnkacggngkaaGreatDoor
open Batch
open Tryz
section
open Go.RowKit Mem Led
def fe (xs:List Value) (e:TypeId) (k n:Nat) (w:World) (x:Ending) (w':World):Prop:=∃ A,x=.returned A/\w'.ownsRow w.heap.size e k A n xs/\eD w w'
theorem clnEnt_any(A:Option Addr) (n c:Nat) (xs:List Value) (w:World) (h:Vs w w.heap.size 5 A n xs) (V:n<=1000) (N:A=none->n=0) (O:∀ u∈xs,u.oneCell'=true) :
  Calls prog 57 #[.slice A n c] w (fe xs 36 5 n w):=by
 cases A with
 | none =>
  have H:=N rfl; subst H; have I:xs=[]:=List.eq_nil_of_length_eq_zero (by have:=h.len; simpa using this)
  subst I; have S:∀ W,(Go.binOp .eql 23 (.slice none 0 c) (.slice none 0 0)).run prog W=.ok (.bool true) W:=fun W=>Lib.run_eql_slice_nil W _ _ _ _ _ _ _ underlying23; go_enter func57,ntmps57
  go_wp2; go_ret; exact⟨_,rfl,⟨rfl,.inl ⟨rfl,rfl⟩⟩,Below.refl _ _⟩
 | some ad =>
  obtain⟨T,J,K,L,M⟩:=al jN; have S:∀ W,(Go.binOp .eql 23 (.slice (some ad) n c) (.slice none 0 0)).run prog W=.ok (.bool false) W:=fun W=>Lib.run_eql_slice_nil W _ _ _ _ _ _ _ underlying23; obtain⟨W,G⟩:=eA (w.alloc (.cells #[] 36)); have B:W.ownsRow w.heap.size 36 5 (.slice (some ⟨w.heap.size,0,none⟩) 0 0) 0 []:=by rw [<-G]; exact World.ownsRow_made w #[] 0 eG (Nat.zero_le _) (by simp)
  have C:eD w W:=eF G
  obtain⟨Q,w',E,D,R,U⟩:=aT (P:=prog) W w.heap.size 23 23 36 T _ 5 72 underlying23 J K L M rfl (by omega) _ 0 _ B w.heap.size (some ad) n c xs (h.below C) O (by unfold maxLen; omega) (by omega) C.size
  have F:Hid (fe xs 36 5 n w (.returned Q) w'):=hO ⟨Q,rfl,by simpa using D,Mem.ay C R C.size B eG⟩; rw [<-G] at E; clear B D R U h O N C G; go_enter func57,ntmps57
  go_wp2_with (at_builtin; refine Lib.wpList_append_run _ rfl _ _ _ _ rfl _ _ rfl rfl _ _ E ?_)
  go_ret; exact F.out
theorem clnNod_any(A:Option Addr) (n c:Nat) (xs:List Value) (w:World) (h:Vs w w.heap.size 5 A n xs) (V:n<=1000) (N:A=none->n=0) (O:∀ u∈xs,u.oneCell'=true) :
  Calls prog 58 #[.slice A n c] w (fe xs 40 5 n w):=by
 cases A with
 | none =>
  have H:=N rfl; subst H; have I:xs=[]:=List.eq_nil_of_length_eq_zero (by have:=h.len; simpa using this)
  subst I; have S:∀ W,(Go.binOp .eql 24 (.slice none 0 c) (.slice none 0 0)).run prog W=.ok (.bool true) W:=fun W=>Lib.run_eql_slice_nil W _ _ _ _ _ _ _ underlying24; go_enter func58,ntmps58
  go_wp2; go_ret; exact⟨_,rfl,⟨rfl,.inl ⟨rfl,rfl⟩⟩,Below.refl _ _⟩
 | some ad =>
  obtain⟨T,J,K,L,M⟩:=al lj; have S:∀ W,(Go.binOp .eql 24 (.slice (some ad) n c) (.slice none 0 0)).run prog W=.ok (.bool false) W:=fun W=>Lib.run_eql_slice_nil W _ _ _ _ _ _ _ underlying24; obtain⟨W,G⟩:=eA (w.alloc (.cells #[] 40)); have B:W.ownsRow w.heap.size 40 5 (.slice (some ⟨w.heap.size,0,none⟩) 0 0) 0 []:=by rw [<-G]; exact World.ownsRow_made w #[] 0 eG (Nat.zero_le _) (by simp)
  have C:eD w W:=eF G
  obtain⟨Q,w',E,D,R,U⟩:=aT (P:=prog) W w.heap.size 24 24 40 T _ 5 64 underlying24 J K L M rfl (by omega) _ 0 _ B w.heap.size (some ad) n c xs (h.below C) O (by unfold maxLen; omega) (by omega) C.size
  have F:Hid (fe xs 40 5 n w (.returned Q) w'):=hO ⟨Q,rfl,by simpa using D,Mem.ay C R C.size B eG⟩; rw [<-G] at E; clear B D R U h O N C G; go_enter func58,ntmps58
  go_wp2_with (at_builtin; refine Lib.wpList_append_run _ rfl _ _ _ _ rfl _ _ rfl rfl _ _ E ?_)
  go_ret; exact F.out
theorem clnJoi_any(A:Option Addr) (n c:Nat) (xs:List Value) (w:World) (h:Vs w w.heap.size 4 A n xs) (V:n<=1000) (N:A=none->n=0) (O:∀ u∈xs,u.oneCell'=true) :
  Calls prog 59 #[.slice A n c] w (fe xs 38 4 n w):=by
 cases A with
 | none =>
  have H:=N rfl; subst H; have I:xs=[]:=List.eq_nil_of_length_eq_zero (by have:=h.len; simpa using this)
  subst I; have S:∀ W,(Go.binOp .eql 26 (.slice none 0 c) (.slice none 0 0)).run prog W=.ok (.bool true) W:=fun W=>Lib.run_eql_slice_nil W _ _ _ _ _ _ _ underlying26; go_enter func59,ntmps59
  go_wp2; go_ret; exact⟨_,rfl,⟨rfl,.inl ⟨rfl,rfl⟩⟩,Below.refl _ _⟩
 | some ad =>
  obtain⟨T,J,K,L,M⟩:=al mE; have S:∀ W,(Go.binOp .eql 26 (.slice (some ad) n c) (.slice none 0 0)).run prog W=.ok (.bool false) W:=fun W=>Lib.run_eql_slice_nil W _ _ _ _ _ _ _ underlying26; obtain⟨W,G⟩:=eA (w.alloc (.cells #[] 38)); have B:W.ownsRow w.heap.size 38 4 (.slice (some ⟨w.heap.size,0,none⟩) 0 0) 0 []:=by rw [<-G]; exact World.ownsRow_made w #[] 0 eG (Nat.zero_le _) (by simp)
  have C:eD w W:=eF G
  obtain⟨Q,w',E,D,R,U⟩:=aT (P:=prog) W w.heap.size 26 26 38 T _ 4 48 underlying26 J K L M rfl (by omega) _ 0 _ B w.heap.size (some ad) n c xs (h.below C) O (by unfold maxLen; omega) (by omega) C.size
  have F:Hid (fe xs 38 4 n w (.returned Q) w'):=hO ⟨Q,rfl,by simpa using D,Mem.ay C R C.size B eG⟩; rw [<-G] at E; clear B D R U h O N C G; go_enter func59,ntmps59
  go_wp2_with (at_builtin; refine Lib.wpList_append_run _ rfl _ _ _ _ rfl _ _ rfl rfl _ _ E ?_)
  go_ret; exact F.out
theorem clnKey_any(A:Option Addr) (n c:Nat) (xs:List Value) (w:World) (h:Vs w w.heap.size 4 A n xs) (V:n<=1000) (N:A=none->n=0) (O:∀ u∈xs,u.oneCell'=true) :
  Calls prog 60 #[.slice A n c] w (fe xs 42 4 n w):=by
 cases A with
 | none =>
  have H:=N rfl; subst H; have I:xs=[]:=List.eq_nil_of_length_eq_zero (by have:=h.len; simpa using this)
  subst I; have S:∀ W,(Go.binOp .eql 27 (.slice none 0 c) (.slice none 0 0)).run prog W=.ok (.bool true) W:=fun W=>Lib.run_eql_slice_nil W _ _ _ _ _ _ _ underlying27; go_enter func60,ntmps60
  go_wp2; go_ret; exact⟨_,rfl,⟨rfl,.inl ⟨rfl,rfl⟩⟩,Below.refl _ _⟩
 | some ad =>
  obtain⟨T,J,K,L,M⟩:=al jM; have S:∀ W,(Go.binOp .eql 27 (.slice (some ad) n c) (.slice none 0 0)).run prog W=.ok (.bool false) W:=fun W=>Lib.run_eql_slice_nil W _ _ _ _ _ _ _ underlying27; obtain⟨W,G⟩:=eA (w.alloc (.cells #[] 42)); have B:W.ownsRow w.heap.size 42 4 (.slice (some ⟨w.heap.size,0,none⟩) 0 0) 0 []:=by rw [<-G]; exact World.ownsRow_made w #[] 0 eG (Nat.zero_le _) (by simp)
  have C:eD w W:=eF G
  obtain⟨Q,w',E,D,R,U⟩:=aT (P:=prog) W w.heap.size 27 27 42 T _ 4 48 underlying27 J K L M rfl (by omega) _ 0 _ B w.heap.size (some ad) n c xs (h.below C) O (by unfold maxLen; omega) (by omega) C.size
  have F:Hid (fe xs 42 4 n w (.returned Q) w'):=hO ⟨Q,rfl,by simpa using D,Mem.ay C R C.size B eG⟩; rw [<-G] at E; clear B D R U h O N C G; go_enter func60,ntmps60
  go_wp2_with (at_builtin; refine Lib.wpList_append_run _ rfl _ _ _ _ rfl _ _ rfl rfl _ _ E ?_)
  go_ret; exact F.out
theorem clnBun_any(A:Option Addr) (n c:Nat) (xs:List Value) (w:World) (h:Vs w w.heap.size 3 A n xs) (V:n<=1000) (N:A=none->n=0) (O:∀ u∈xs,u.oneCell'=true) :
  Calls prog 61 #[.slice A n c] w (fe xs 45 3 n w):=by
 cases A with
 | none =>
  have H:=N rfl; subst H; have I:xs=[]:=List.eq_nil_of_length_eq_zero (by have:=h.len; simpa using this)
  subst I; have S:∀ W,(Go.binOp .eql 28 (.slice none 0 c) (.slice none 0 0)).run prog W=.ok (.bool true) W:=fun W=>Lib.run_eql_slice_nil W _ _ _ _ _ _ _ underlying28; go_enter func61,ntmps61
  go_wp2; go_ret; exact⟨_,rfl,⟨rfl,.inl ⟨rfl,rfl⟩⟩,Below.refl _ _⟩
 | some ad =>
  obtain⟨T,J,K,L,M⟩:=al ll; have S:∀ W,(Go.binOp .eql 28 (.slice (some ad) n c) (.slice none 0 0)).run prog W=.ok (.bool false) W:=fun W=>Lib.run_eql_slice_nil W _ _ _ _ _ _ _ underlying28; obtain⟨W,G⟩:=eA (w.alloc (.cells #[] 45)); have B:W.ownsRow w.heap.size 45 3 (.slice (some ⟨w.heap.size,0,none⟩) 0 0) 0 []:=by rw [<-G]; exact World.ownsRow_made w #[] 0 eG (Nat.zero_le _) (by simp)
  have C:eD w W:=eF G
  obtain⟨Q,w',E,D,R,U⟩:=aT (P:=prog) W w.heap.size 28 28 45 T _ 3 48 underlying28 J K L M rfl (by omega) _ 0 _ B w.heap.size (some ad) n c xs (h.below C) O (by unfold maxLen; omega) (by omega) C.size
  have F:Hid (fe xs 45 3 n w (.returned Q) w'):=hO ⟨Q,rfl,by simpa using D,Mem.ay C R C.size B eG⟩; rw [<-G] at E; clear B D R U h O N C G; go_enter func61,ntmps61
  go_wp2_with (at_builtin; refine Lib.wpList_append_run _ rfl _ _ _ _ rfl _ _ rfl rfl _ _ E ?_)
  go_ret; exact F.out
theorem lV(A:Option Addr) (n c:Nat) (xs:List Value) (w:World) (h:Vs w w.heap.size 1 A n xs) (V:n<=1000) (N:A=none->n=0) (O:∀ u∈xs,u.oneCell'=true) :
  Calls prog 28 #[.slice A n c] w (fe xs 9 1 n w):=by
 cases A with
 | none =>
  have H:=N rfl; subst H; have I:xs=[]:=List.eq_nil_of_length_eq_zero (by have:=h.len; simpa using this)
  subst I; have S:∀ W,(Go.binOp .eql 25 (.slice none 0 c) (.slice none 0 0)).run prog W=.ok (.bool true) W:=fun W=>Lib.run_eql_slice_nil W _ _ _ _ _ _ _ underlying25; go_enter func28,ntmps28
  go_wp2; go_ret; exact⟨_,rfl,⟨rfl,.inl ⟨rfl,rfl⟩⟩,Below.refl _ _⟩
 | some ad =>
  obtain⟨T,J,K,L,M⟩:=al li; have S:∀ W,(Go.binOp .eql 25 (.slice (some ad) n c) (.slice none 0 0)).run prog W=.ok (.bool false) W:=fun W=>Lib.run_eql_slice_nil W _ _ _ _ _ _ _ underlying25; obtain⟨W,G⟩:=eA (w.alloc (.cells #[] 9)); have B:W.ownsRow w.heap.size 9 1 (.slice (some ⟨w.heap.size,0,none⟩) 0 0) 0 []:=by rw [<-G]; exact World.ownsRow_made w #[] 0 eG (Nat.zero_le _) (by simp)
  have C:eD w W:=eF G
  obtain⟨Q,w',E,D,R,U⟩:=aT (P:=prog) W w.heap.size 25 25 9 T _ 1 16 underlying25 J K L M rfl (by omega) _ 0 _ B w.heap.size (some ad) n c xs (h.below C) O (by unfold maxLen; omega) (by omega) C.size
  have F:Hid (fe xs 9 1 n w (.returned Q) w'):=hO ⟨Q,rfl,by simpa using D,Mem.ay C R C.size B eG⟩; rw [<-G] at E; clear B D R U h O N C G; go_enter func28,ntmps28
  go_wp2_with (at_builtin; refine Lib.wpList_append_run _ rfl _ _ _ _ rfl _ _ rfl rfl _ _ E ?_)
  go_ret; exact F.out
theorem infoJwk:(prog.info? 54).map (fun i=>(i.zero,i.size,i.bytes))=some (some (.agg #[.string ⟨#[]⟩,.string ⟨#[]⟩]),2,32):=by kernel_rfl
theorem qA(A:Option Addr) (n c:Nat) (xs:List Value) (w:World) (h:Vs w w.heap.size 2 A n xs) (V:n<=1000) (N:A=none->n=0) (O:∀ u∈xs,u.oneCell'=true) :
  Calls prog 29 #[.slice A n c] w (fe xs 54 2 n w):=by
 cases A with
 | none =>
  have H:=N rfl; subst H; have I:xs=[]:=List.eq_nil_of_length_eq_zero (by have:=h.len; simpa using this)
  subst I; have S:∀ W,(Go.binOp .eql 43 (.slice none 0 c) (.slice none 0 0)).run prog W=.ok (.bool true) W:=fun W=>Lib.run_eql_slice_nil W _ _ _ _ _ _ _ underlying43; go_enter func29,ntmps29
  go_wp2; go_ret; exact⟨_,rfl,⟨rfl,.inl ⟨rfl,rfl⟩⟩,Below.refl _ _⟩
 | some ad =>
  obtain⟨T,J,K,L,M⟩:=al infoJwk; have S:∀ W,(Go.binOp .eql 43 (.slice (some ad) n c) (.slice none 0 0)).run prog W=.ok (.bool false) W:=fun W=>Lib.run_eql_slice_nil W _ _ _ _ _ _ _ underlying43; obtain⟨W,G⟩:=eA (w.alloc (.cells #[] 54)); have B:W.ownsRow w.heap.size 54 2 (.slice (some ⟨w.heap.size,0,none⟩) 0 0) 0 []:=by rw [<-G]; exact World.ownsRow_made w #[] 0 eG (Nat.zero_le _) (by simp)
  have C:eD w W:=eF G
  obtain⟨Q,w',E,D,R,U⟩:=aT (P:=prog) W w.heap.size 43 43 54 T _ 2 32 underlying43 J K L M rfl (by omega) _ 0 _ B w.heap.size (some ad) n c xs (h.below C) O (by unfold maxLen; omega) (by omega) C.size
  have F:Hid (fe xs 54 2 n w (.returned Q) w'):=hO ⟨Q,rfl,by simpa using D,Mem.ay C R C.size B eG⟩; rw [<-G] at E; clear B D R U h O N C G; go_enter func29,ntmps29
  go_wp2_with (at_builtin; refine Lib.wpList_append_run _ rfl _ _ _ _ rfl _ _ rfl rfl _ _ E ?_)
  go_ret; exact F.out
end
section
open Go.RowKit Mem Led
section
variable {w w':World} {b b' n n' k k':Nat} {e e':TypeId} {u v:Value} {xs ys:List Value}
theorem dM(h:w.ownsRow b e k u n xs) (D:w.ownsRow b' e' k' v n' ys) (E:e≠e'):gN u v:=by
 rcases h.2 with⟨rfl,_⟩|⟨g,c,F,rfl,_,G,_⟩
 .exact .inl rfl
 .rcases D.2 with⟨rfl,_⟩|⟨H,I,B,rfl,_,A,_⟩
  .exact .inr (by simp [Value.ownBlock])
  .refine .inr fun C=>?_
   simp only [Value.ownBlock,Option.some.injEq] at C; subst C; rw [G] at A; injection A with A
   injection A with _ h2 _
   exact E h2
theorem aC{g:Nat} {M:List Value} (h:w.ownsRow b e k u n xs) (A:Blk w g M e') (C:e≠e'):u.ownBlock≠some g:=by
 rcases h.2 with⟨rfl,_⟩|⟨F,c,D,rfl,_,E,_⟩
 .simp [Value.ownBlock]
 .intro B
  simp only [Value.ownBlock,Option.some.injEq] at B; subst B; unfold Blk at A; rw [E] at A; injection A with A
  injection A with _ h2 _
  exact C h2
theorem dA(h:w.ownsRow b e k u n xs) {g:Nat} (A:u.ownBlock=some g):b<=g/\g<w.heap.size:=by
 rcases h.2 with⟨rfl,_⟩|⟨E,c,B,rfl,C,D,_⟩
 .simp [Value.ownBlock] at A
 .simp only [Value.ownBlock,Option.some.injEq] at A
  subst A; exact⟨C,(Array.getElem?_eq_some_iff.1 D).1⟩
theorem dy(h:w.ownsRow b e k u n xs):∃ A c,u=.slice A n c/\Fit n c A/\Vs w w.heap.size k A n xs:=by
 rcases aW h with⟨rfl,rfl,rfl⟩|⟨g,c,M,rfl,_,C,F,D,G,H,B⟩
 .exact⟨none,0,rfl,⟨eG,by omega,fun _=>rfl⟩,Vs.empty _ _ _ _⟩
 .refine⟨_,c,rfl,⟨D,G,fun h=>by cases h⟩,?_,?_⟩
  .rw [<-B,List.length_take,H,Nat.min_eq_left (Nat.mul_le_mul_right _ D)]
  .intro j x E
   refine⟨_,rfl,C,?_⟩; rw [aO,F.cell]; rw [<-B] at E; have:=List.getElem?_take (l:=M) (i:=n * k) (j:=j); rw [E] at this; split at this
   .exact this.symm
   .cases this
theorem aY{α:Type} {enc:α->List Value} {L:List α} (h:w.ownsRow b e k u n (af enc L)):a8 enc k w u L:=by
 obtain⟨A,c,B,C,D⟩:=dy h
 exact⟨A,n,c,B,C,D⟩
theorem dg{L:List Txt} (h:w.ownsRow b e 1 u n (af aj L)):bm w u L:=by
 obtain⟨A,c,B,C,_⟩:=dy h
 subst B
 exact⟨A,n,c,rfl,C,pb h⟩
theorem gP(L:List Txt):af aj L=tv L:=by
 unfold af tv aj
 induction L with
 | nil=>rfl
 | cons a l ih=>simp only [List.map_cons,List.flatten_cons,ih]; rfl
end
theorem ft{α:Type} {enc:α->List Value} {L:List α} (h:∀ x∈L,∀ u∈enc x,u.oneCell'=true):∀ u∈af enc L,u.oneCell'=true:=by
 intro u B
 unfold af at B
 obtain⟨r,C,A⟩:=List.mem_flatten.1 B
 obtain⟨y,D,rfl⟩:=List.mem_map.1 C
 exact h y D u A
structure Wk (base:Nat) (w:World) (vE vN vB vJ vK vU:Value) (L:Led.Ledger) (E:List (Led.Entry × Value)) (U:List (Led.Bundle × Value)):Prop where
 oE:w.ownsRow base 36 5 vE E.length (af ag E)
 oN:w.ownsRow base 40 5 vN L.nodes.length (af ac L.nodes)
 oB:w.ownsRow base 9 1 vB L.bans.length (af aj L.bans)
 oJ:w.ownsRow base 38 4 vJ L.joins.length (af ao L.joins)
 oK:w.ownsRow base 42 4 vK L.keys.length (af aq L.keys)
 oU:w.ownsRow base 45 3 vU U.length (af ai U)
 ents:E.map Prod.fst=L.entries
 buns:U.map Prod.fst=L.bundles
 sels:∀ p∈E,w.ownsRow base 9 1 p.2 p.1.sels.length (af aj p.1.sels)/\gN p.2 vB
 keyss:∀ p∈U,w.ownsRow base 54 2 p.2 p.1.keys.length (af aV p.1.keys)
section
variable {base:Nat} {w w':World} {vE vN vB vJ vK vU:Value} {L:Led.Ledger} {E:List (Led.Entry × Value)} {U:List (Led.Bundle × Value)}
theorem Wk.at(h:Wk base w vE vN vB vJ vK vU L E U):cZ w [vE,vN,vB,vJ,vK,vU] L E U :=
 ⟨⟨vE,vN,vB,vJ,vK,vU,rfl,aY h.oE,aY h.oN,dg h.oB,aY h.oJ,aY h.oK,aY h.oU⟩,h.ents,h.buns,fun p A=>dg (h.sels p A).1,fun p A=>aY (h.keyss p A)⟩
theorem Wk.below(h:Wk base w vE vN vB vJ vK vU L E U) (A:eD w w'):Wk base w' vE vN vB vJ vK vU L E U :=
 ⟨ae h.oE A eG,ae h.oN A eG,ae h.oB A eG,ae h.oJ A eG,ae h.oK A eG,ae h.oU A eG,h.ents,h.buns,
  fun p B=>⟨ae (h.sels p B).1 A eG,(h.sels p B).2⟩,fun p B=>ae (h.keyss p B) A eG⟩
theorem Wk.ones(h:Wk base w vE vN vB vJ vK vU L E U):∀ v∈[vE,vN,vB,vJ,vK,vU],v.oneCell'=true:=by
 have key:∀ {e:TypeId} {k n:Nat} {v:Value} {xs:List Value},w.ownsRow base e k v n xs->v.oneCell'=true:=fun B=>by
  obtain⟨A,c,rfl,_⟩:=ak B; rfl
 intro v B
 simp only [List.mem_cons,List.not_mem_nil,or_false] at B
 rcases B with rfl|rfl|rfl|rfl|rfl|rfl
 .exact key h.oE
 .exact key h.oN
 .exact key h.oB
 .exact key h.oJ
 .exact key h.oK
 .exact key h.oU
end
structure Led.Ledger.Small (L:Led.Ledger):Prop where
 e:L.entries.length<=1000
 n:L.nodes.length<=1000
 b:L.bans.length<=1000
 j:L.joins.length<=1000
 k:L.keys.length<=1000
 u:L.bundles.length<=1000
 s:∀ x∈L.entries,x.sels.length<=1000
 y:∀ x∈L.bundles,x.keys.length<=1000
theorem oG{w:World} {E:List (Led.Entry × Value)} (h:∀ p∈E,bm w p.2 p.1.sels):∀ u∈af ag E,u.oneCell'=true:=ft fun p C u B=>by
 obtain⟨A,n,c,D,_⟩:=h p C
 simp only [ag,List.mem_cons,List.not_mem_nil,or_false] at B
 rcases B with rfl|rfl|rfl|rfl|rfl
 .rfl
 .rfl
 .rfl
 .rfl
 .rw [D]; rfl
theorem oH{w:World} {U:List (Led.Bundle × Value)} (h:∀ p∈U,a8 aV 2 w p.2 p.1.keys):∀ u∈af ai U,u.oneCell'=true:=ft fun p C u B=>by
 obtain⟨A,n,c,D,_⟩:=h p C
 simp only [ai,List.mem_cons,List.not_mem_nil,or_false] at B
 rcases B with rfl|rfl|rfl
 .rfl
 .rfl
 .rw [D]; rfl
theorem pI(L:List Led.Node):∀ u∈af ac L,u.oneCell'=true:=ft fun p _ u A=>by
 simp only [ac,List.mem_cons,List.not_mem_nil,or_false] at A
 rcases A with rfl|rfl|rfl|rfl|rfl <;> rfl
theorem one_join(L:List Led.Join):∀ u∈af ao L,u.oneCell'=true:=ft fun p _ u A=>by
 simp only [ao,List.mem_cons,List.not_mem_nil,or_false] at A
 rcases A with rfl|rfl|rfl|rfl <;> rfl
theorem oF(L:List Led.Key):∀ u∈af aq L,u.oneCell'=true:=ft fun p _ u A=>by
 simp only [aq,List.mem_cons,List.not_mem_nil,or_false] at A
 rcases A with rfl|rfl|rfl|rfl <;> rfl
theorem one_jwk(L:List Led.Jwk):∀ u∈af aV L,u.oneCell'=true:=ft fun p _ u A=>by
 simp only [aV,List.mem_cons,List.not_mem_nil,or_false] at A
 rcases A with rfl|rfl <;> rfl
theorem oD(L:List Txt):∀ u∈af aj L,u.oneCell'=true:=ft fun p _ u A=>by
 simp only [aj,List.mem_cons,List.not_mem_nil,or_false] at A
 subst A
 rfl
end
section
open Go.RowKit Mem Led
structure OpV where
 o:Led.Op
 As:Option Addr
 ns:Nat
 cS:Nat
 Ak:Option Addr
 nk:Nat
 cK:Nat
def fT (x:OpV):List Value:=ah x.o (.slice x.As x.ns x.cS) (.slice x.Ak x.nk x.cK)
theorem lH(x:OpV):(fT x).length=24:=rfl
def OpV.In (w:World) (x:OpV):Prop:=qK w x.o x.As x.ns x.cS x.Ak x.nk x.cK
theorem qK.below{w w':World} {o:Led.Op} {B:Option Addr} {C D:Nat} {E:Option Addr} {F G:Nat} (h:qK w o B C D E F G) (A:eD w w'):qK w' o B C D E F G :=
 ⟨Ts.below h.sels A,(Vs.below h.keys A).mono A.size,h.hs,h.hs',h.hk,h.hk',h.sized⟩
structure iF (w:World) (A:Option Addr) (n:Nat) (L:List OpV):Prop where
 es:Es fT 24 w A n L
 each:∀ x∈L,x.In w
theorem iF.below{w w':World} {A:Option Addr} {n:Nat} {L:List OpV} (h:iF w A n L) (B:eD w w'):iF w' A n L :=
 ⟨h.es.below B,fun x hx=>qK.below (h.each x hx) B⟩
theorem iF.len{w:World} {A:Option Addr} {n:Nat} {L:List OpV} (h:iF w A n L):L.length=n:=h.es.len lH (by omega)
def noOpV:OpV:=⟨lv,none,0,0,none,0,0⟩
theorem ms{H:Type} {enc:TypeId × Value->H} {W:World} {spare:Nat->Bool} {held:Bool} {fuel:Nat} {cs:List Value} {y:DataW H × List MemPlace}
  (h:DataW.trod enc prog W 0 spare held fuel 22 cs=some y) :
  ∃ A n c L,cs=[.slice A n c]/\iF W A n L/\n<=c/\c<=9223372036854775807:=by
 have E:prog.cellsOf 47=24:=by kernel_rfl
 have F:jZ enc W spare held 22 cs:=⟨fuel,y,h⟩
 obtain⟨A,n,c,rfl,G,I,hx⟩:=F.slice underlying22
 obtain⟨L,J,C⟩:=lW (α:=OpV) noOpV (n:=n) (q:=fun i x=>(∃ a,A=some a/\∀ j u,(fT x)[j]?=some u->W.cell? (a.add (i * 24+j))=some u)/\x.In W) (fun i hi=>by
  obtain⟨a,K,e,_,B,ht⟩:=hx i hi; obtain⟨o,M,N,O,Q,R,S,rfl,D⟩:=open_op ht; rw [E] at B; exact⟨⟨o,M,N,O,Q,R,S⟩,⟨a,e,B⟩,D⟩)
 refine⟨A,n,c,L,rfl,⟨kh fT lH J (fun i hi=>(C i hi).1),fun x hx=>?_⟩,G,I⟩
 obtain⟨i,hi,rfl⟩:=List.getElem_of_mem hx
 exact(C i hi).2
theorem ldOp_es{w:World} {A:Option Addr} {n:Nat} {L:List OpV} (h:Es fT 24 w A n L) {i:Nat} (hi:i<L.length) :
  ∃ b B,A=some ⟨b,B,none⟩/\b<w.heap.size/\∀ w',eD w w'->(loadOp (.pointer (some ⟨b,B+i * 24,none⟩))).run prog w'=.ok (.agg (fT L[i]).toArray) w' :=
 iA underlying47 rfl oA lH (by omega) h hi
theorem qw(x:OpV) (W:World) (h:x.In W) :
  Calls prog 13 #[.agg (fT x).toArray] W fun e w'=>∃ E C F D B,e=.returned (.agg (ah (jY x.o B) (.slice E (min x.ns 6) C) (.slice F (min x.nk 9) D)).toArray)/\min x.ns 6<=C/\min x.nk 9<=D /\
   w'.ownsRow W.heap.size 9 1 (.slice E (min x.ns 6) C) (min x.ns 6) (tv ((jY x.o B).entry.sels))/\w'.ownsRow W.heap.size 54 2 (.slice F (min x.nk 9) D) (min x.nk 9) (jv (jY x.o B).bundle.keys)/\dR (fun x r=>r=Sha.bZ x) (x.o.bundle.keys.take 9) B/\eD W w':=by
 obtain⟨o,G,H,I,J,K,L⟩:=x
 have h:qK W o G H I J K L:=h
 have A:=h.sized
 exact cut_go o.kind o.n o.name o.entry.n o.entry.path o.entry.parent o.entry.ttl o.join.text o.join.name o.join.expires o.join.used o.node.name o.node.key o.node.expires o.node.seq o.node.doc o.key.kid o.key.seed o.key.state o.key.since o.bundle.domain o.bundle.number G H I J K L o.entry.sels o.bundle.keys A.name A.epath A.eparent A.jtext A.jname A.nname A.nkey A.ndoc A.kkid A.kseed A.bdom W h.sels A.esel h.hs h.keys A.bkey h.hk
end
section
open Go.RowKit Mem
end
section
open Go.RowKit Mem Led
def aE (v:Value):List Value:=[.slice none 0 0,.slice none 0 0,v,.slice none 0 0,.slice none 0 0,.slice none 0 0]
end
section
open Go.RowKit Mem Led
theorem bQ:(prog.info? 30).map (·.size)=some 6:=by kernel_rfl
def jJ (x:Value):Sem Value:=Instr.loadAt 30 x
def gQ (x v:Value):Sem Unit:=Instr.storeAt 30 x v
theorem rf(x:Value):Instr.loadAt 30 x=jJ x:=rfl
theorem pM(x v:Value):Instr.storeAt 30 x v=gQ x v:=rfl
attribute [go_sem ↓] rf pM
theorem dD{w:World} {g:Nat} {cs:List Value} {t:TypeId} (h:Blk w g cs t) (A:cs.length=6):(jJ (.pointer (some ⟨g,0,none⟩))).run prog w=.ok (.agg cs.toArray) w:=by
 have:=bF (P:=prog) w 30 g 0 6 _ underlying30 rfl bQ (h.has A)
 rw [h.arr A] at this
 exact this
theorem cH{w:World} {g:Nat} {cs vs:List Value} {t:TypeId} (h:Blk w g cs t) (A:cs.length=6) (B:vs.length=6) (D:∀ v∈vs,v.oneCell'=true) :
  (gQ (.pointer (some ⟨g,0,none⟩)) (.agg vs.toArray)).run prog w=.ok () (w.setCells g 0 vs)/\Blk (w.setCells g 0 vs) g vs t:=by
 have E:=bE (P:=prog) w 30 g 0 6 bQ vs.toArray ⟨by simpa using B,by simpa using D⟩ (h.has A) (fun j _=>h.froz _)
 have C:=jE vs w g 0 cs t h (by omega)
 simp [B,<-A] at C
 exact⟨E,C⟩
end
section
open Go.RowKit Mem
def ents:Nat->List (Int × Value)->List MapEntry
 | _,[]=>[]
 | i,(k,v)::r=>{ key:=.int .i64 k,val:=v,born:=i }::ents (i+1) r
theorem sk:∀ (i:Nat) (l:List (Int × Value)) (k:Int) (v:Value),ents i (l++[(k,v)])=ents i l++[{ key:=.int .i64 k,val:=v,born:=i+l.length }]
 | i,[],k,v=>by simp [ents]
 | i,(k',v')::r,k,v=>by
  have ih:=sk (i+1) r k v; simp only [List.cons_append,ents,ih,List.length_cons]; congr 4
  omega
theorem jQ(k:Int):∀ (i j:Nat) (l:List (Int × Value)),Instr.findNow (.int .i64) (.int .i64 k) (ents i l) j=some ((l.findIdx? fun p=>k==p.1).bind fun n=>l[n]?.map fun p=>(j+n,p.2))
 | i,j,[]=>rfl
 | i,j,(k',v')::r=>by
  have ih:=jQ k (i+1) (j+1) r; simp only [ents,Instr.findNow,Instr.sameNow,if_true]; by_cases h:k=k'
  .subst h
   simp [List.findIdx?_cons]
  .have A:(k==k')=false:=by simp [h]
   simp only [A,ih,List.findIdx?_cons]; congr 1
   cases B:List.findIdx? (fun p:Int × Value=>k==p.1) r with
   | none=>simp
   | some n=>simp [Nat.add_assoc,Nat.add_comm 1 n]
def pQ (l:List (Int × Value)):Obj:=.map (ents 0 l).toArray l.length
theorem push_set{α:Type} (a:Array α) (x y:α):(a.push x).setIfInBounds a.size y=a.push y:=by
 apply Array.ext
 .simp
 .intro i B A
  have hi:i<a.size+1:=by simpa using A
  rw [Array.getElem_setIfInBounds (by simpa using hi)]; by_cases h:a.size=i
  .subst h
   simp
  .rw [if_neg h,Array.getElem_push_lt (by omega),Array.getElem_push_lt (by omega)]
theorem aB{P:Program} (w:World) (l:List (Int × Value)) (k:Int) (v:Value) (t A E:TypeId) (ht:P.underlying t=some (.map A E)) (B:P.underlying A=some (.int .i64)) (F:l.findIdx? (fun p=>k==p.1)=none) :
  (Instr.mapUpdate t (.map (some w.heap.size)) (.int .i64 k) v).run P (w.alloc (pQ l))=.ok () (w.alloc (pQ (l++[(k,v)]))):=by
 have C:(w.alloc (pQ l)).heap[w.heap.size]?=some (.map (ents 0 l).toArray l.length):=heap_alloc_new w _
 have G:=Go.MapKept.run_getObj_map (P:=P) C
 have H:=Go.MapKept.run_checkKey (P:=P) (w:=w.alloc (pQ l)) B (k:=.int .i64 k) rfl false 9999
 have I:Instr.findNow (.int .i64) (.int .i64 k) (ents 0 l) 0=some none:=by rw [jQ,F]; rfl
 have J:=Go.MapKept.run_findKey (P:=P) (w:=w.alloc (pQ l)) B I
 have D:=Go.MapKept.run_setObj_map (P:=P) (.map ((ents 0 l).toArray.push { key:=.int .i64 k,val:=v,born:=l.length }) (l.length+1)) C
 have K:{ (w.alloc (pQ l)) with heap:=(w.alloc (pQ l)).heap.setIfInBounds w.heap.size (.map ((ents 0 l).toArray.push { key:=.int .i64 k,val:=v,born:=l.length }) (l.length+1)) }=w.alloc (pQ (l++[(k,v)])):=by
  unfold pQ; rw [sk]; show ({ heap:=(w.heap.push _).setIfInBounds w.heap.size _,tape:=w.tape,drawn:=w.drawn,os:=w.os,output:=w.output }:World)=_
  rw [push_set]; simp only [Nat.zero_add,List.push_toArray,List.length_append,List.length_cons,List.length_nil]; rfl
 rw [K] at D
 unfold Instr.mapUpdate
 simp only [Sem.run_bind,run_underlying ht,Result.andThen_ok,G,H,J,D]
theorem run_look{P:Program} (w:World) (r:Nat) (l:List (Int × Value)) (k:Int) (t A B:TypeId) (z:Value) (ht:P.underlying t=some (.map A B)) (C:P.underlying A=some (.int .i64)) (D:(zeroValue B).run P w=.ok z w) (F:w.heap[r]?=some (pQ l)) :
  (Instr.lookup t (.map (some r)) (.int .i64 k) false).run P w=.ok (((l.findIdx? fun p=>k==p.1).bind fun n=>l[n]?.map fun p=>p.2).getD z) w:=by
 have G:=Go.MapKept.run_getObj_map (P:=P) (w:=w) (r:=r) (es:=(ents 0 l).toArray) (clock:=l.length) F
 have H:=Go.MapKept.run_checkKey (P:=P) (w:=w) C (k:=.int .i64 k) rfl (ents 0 l).toArray.isEmpty 9999
 have I:=Go.MapKept.run_findKey (P:=P) (w:=w) C (jQ k 0 0 l)
 unfold Instr.lookup
 simp only [Sem.run_bind,run_underlying ht,Result.andThen_ok,G,H,I,Sem.run_pure]
 cases J:List.findIdx? (fun p:Int × Value=>k==p.1) l with
 | none=>simp [D]
 | some n =>
  cases E:l[n]? with
  | none=>simp [D,E]
  | some p=>simp [E]
end
section
open Go.RowKit Mem
def doL:List (Int × Value):=[(1,.func (.func 42) #[] #[]),(2,.func (.func 43) #[] #[]),(3,.func (.func 44) #[] #[]),(4,.func (.func 45) #[] #[]),(5,.func (.func 46) #[] #[]),(6,.func (.func 47) #[] #[]),(7,.func (.func 48) #[] #[]),(8,.func (.func 49) #[] #[]),(9,.func (.func 50) #[] #[]),(10,.func (.func 51) #[] #[]),(11,.func (.func 52) #[] #[]),(12,.func (.func 53) #[] #[]),(13,.func (.func 54) #[] #[]),(14,.func (.func 55) #[] #[]),(101,.func (.func 56) #[] #[]),(103,.func (.func 56) #[] #[]),(105,.func (.func 56) #[] #[]),(106,.func (.func 56) #[] #[]),(109,.func (.func 56) #[] #[]),(112,.func (.func 56) #[] #[])]
def mo (j:Nat):Obj:=pQ (doL.take j)
theorem sr(w:World):Calls prog 26 #[] w fun e w'=>e=.returned (.map (some w.heap.size))/\w'=w.alloc (mo 20):=by
 have K:=@run_makeMap prog
 have L:(Instr.mapUpdate 73 (.map (some w.heap.size)) (.int .i64 1) (.func (.func 42) #[] #[])).run prog (w.alloc (.map #[] 0))=.ok () (w.alloc (mo 1)):=aB (P:=prog) w (doL.take 0) 1 (.func (.func 42) #[] #[]) _ _ _ underlying73 underlying3 rfl
 have M:(Instr.mapUpdate 73 (.map (some w.heap.size)) (.int .i64 2) (.func (.func 43) #[] #[])).run prog (w.alloc (mo 1))=.ok () (w.alloc (mo 2)):=aB (P:=prog) w (doL.take 1) 2 (.func (.func 43) #[] #[]) _ _ _ underlying73 underlying3 rfl
 have N:(Instr.mapUpdate 73 (.map (some w.heap.size)) (.int .i64 3) (.func (.func 44) #[] #[])).run prog (w.alloc (mo 2))=.ok () (w.alloc (mo 3)):=aB (P:=prog) w (doL.take 2) 3 (.func (.func 44) #[] #[]) _ _ _ underlying73 underlying3 rfl
 have O:(Instr.mapUpdate 73 (.map (some w.heap.size)) (.int .i64 4) (.func (.func 45) #[] #[])).run prog (w.alloc (mo 3))=.ok () (w.alloc (mo 4)):=aB (P:=prog) w (doL.take 3) 4 (.func (.func 45) #[] #[]) _ _ _ underlying73 underlying3 rfl
 have Q:(Instr.mapUpdate 73 (.map (some w.heap.size)) (.int .i64 5) (.func (.func 46) #[] #[])).run prog (w.alloc (mo 4))=.ok () (w.alloc (mo 5)):=aB (P:=prog) w (doL.take 4) 5 (.func (.func 46) #[] #[]) _ _ _ underlying73 underlying3 rfl
 have R:(Instr.mapUpdate 73 (.map (some w.heap.size)) (.int .i64 6) (.func (.func 47) #[] #[])).run prog (w.alloc (mo 5))=.ok () (w.alloc (mo 6)):=aB (P:=prog) w (doL.take 5) 6 (.func (.func 47) #[] #[]) _ _ _ underlying73 underlying3 rfl
 have S:(Instr.mapUpdate 73 (.map (some w.heap.size)) (.int .i64 7) (.func (.func 48) #[] #[])).run prog (w.alloc (mo 6))=.ok () (w.alloc (mo 7)):=aB (P:=prog) w (doL.take 6) 7 (.func (.func 48) #[] #[]) _ _ _ underlying73 underlying3 rfl
 have T:(Instr.mapUpdate 73 (.map (some w.heap.size)) (.int .i64 8) (.func (.func 49) #[] #[])).run prog (w.alloc (mo 7))=.ok () (w.alloc (mo 8)):=aB (P:=prog) w (doL.take 7) 8 (.func (.func 49) #[] #[]) _ _ _ underlying73 underlying3 rfl
 have U:(Instr.mapUpdate 73 (.map (some w.heap.size)) (.int .i64 9) (.func (.func 50) #[] #[])).run prog (w.alloc (mo 8))=.ok () (w.alloc (mo 9)):=aB (P:=prog) w (doL.take 8) 9 (.func (.func 50) #[] #[]) _ _ _ underlying73 underlying3 rfl
 have V:(Instr.mapUpdate 73 (.map (some w.heap.size)) (.int .i64 10) (.func (.func 51) #[] #[])).run prog (w.alloc (mo 9))=.ok () (w.alloc (mo 10)):=aB (P:=prog) w (doL.take 9) 10 (.func (.func 51) #[] #[]) _ _ _ underlying73 underlying3 rfl
 have A:(Instr.mapUpdate 73 (.map (some w.heap.size)) (.int .i64 11) (.func (.func 52) #[] #[])).run prog (w.alloc (mo 10))=.ok () (w.alloc (mo 11)):=aB (P:=prog) w (doL.take 10) 11 (.func (.func 52) #[] #[]) _ _ _ underlying73 underlying3 rfl
 have B:(Instr.mapUpdate 73 (.map (some w.heap.size)) (.int .i64 12) (.func (.func 53) #[] #[])).run prog (w.alloc (mo 11))=.ok () (w.alloc (mo 12)):=aB (P:=prog) w (doL.take 11) 12 (.func (.func 53) #[] #[]) _ _ _ underlying73 underlying3 rfl
 have C:(Instr.mapUpdate 73 (.map (some w.heap.size)) (.int .i64 13) (.func (.func 54) #[] #[])).run prog (w.alloc (mo 12))=.ok () (w.alloc (mo 13)):=aB (P:=prog) w (doL.take 12) 13 (.func (.func 54) #[] #[]) _ _ _ underlying73 underlying3 rfl
 have D:(Instr.mapUpdate 73 (.map (some w.heap.size)) (.int .i64 14) (.func (.func 55) #[] #[])).run prog (w.alloc (mo 13))=.ok () (w.alloc (mo 14)):=aB (P:=prog) w (doL.take 13) 14 (.func (.func 55) #[] #[]) _ _ _ underlying73 underlying3 rfl
 have E:(Instr.mapUpdate 73 (.map (some w.heap.size)) (.int .i64 101) (.func (.func 56) #[] #[])).run prog (w.alloc (mo 14))=.ok () (w.alloc (mo 15)):=aB (P:=prog) w (doL.take 14) 101 (.func (.func 56) #[] #[]) _ _ _ underlying73 underlying3 rfl
 have F:(Instr.mapUpdate 73 (.map (some w.heap.size)) (.int .i64 103) (.func (.func 56) #[] #[])).run prog (w.alloc (mo 15))=.ok () (w.alloc (mo 16)):=aB (P:=prog) w (doL.take 15) 103 (.func (.func 56) #[] #[]) _ _ _ underlying73 underlying3 rfl
 have G:(Instr.mapUpdate 73 (.map (some w.heap.size)) (.int .i64 105) (.func (.func 56) #[] #[])).run prog (w.alloc (mo 16))=.ok () (w.alloc (mo 17)):=aB (P:=prog) w (doL.take 16) 105 (.func (.func 56) #[] #[]) _ _ _ underlying73 underlying3 rfl
 have H:(Instr.mapUpdate 73 (.map (some w.heap.size)) (.int .i64 106) (.func (.func 56) #[] #[])).run prog (w.alloc (mo 17))=.ok () (w.alloc (mo 18)):=aB (P:=prog) w (doL.take 17) 106 (.func (.func 56) #[] #[]) _ _ _ underlying73 underlying3 rfl
 have I:(Instr.mapUpdate 73 (.map (some w.heap.size)) (.int .i64 109) (.func (.func 56) #[] #[])).run prog (w.alloc (mo 18))=.ok () (w.alloc (mo 19)):=aB (P:=prog) w (doL.take 18) 109 (.func (.func 56) #[] #[]) _ _ _ underlying73 underlying3 rfl
 have J:(Instr.mapUpdate 73 (.map (some w.heap.size)) (.int .i64 112) (.func (.func 56) #[] #[])).run prog (w.alloc (mo 19))=.ok () (w.alloc (mo 20)):=aB (P:=prog) w (doL.take 19) 112 (.func (.func 56) #[] #[]) _ _ _ underlying73 underlying3 rfl
 go_enter func26,ntmps26
 go_wp2
 go_ret
 exact⟨rfl,rfl⟩
end
section
open Go.RowKit Mem Led
theorem rq(w:World):(zeroValue 72).run prog w=.ok .nilFunc w:=by kernel_rfl
theorem look_doer(w:World) (K:Int) (F:FuncId) (A:((doL.findIdx? fun p=>K==p.1).bind fun n=>doL[n]?.map fun p=>p.2)=some (.func (.func F) #[] #[])) :
  (Instr.lookup 73 (.map (some w.heap.size)) (.int .i64 K) false).run prog (w.alloc (mo 20))=.ok (.func (.func F) #[] #[]) (w.alloc (mo 20)):=by
 have h:=run_look (P:=prog) (w.alloc (mo 20)) w.heap.size (doL.take 20) K _ _ _ .nilFunc underlying73 underlying3 (rq _) (heap_alloc_new w _)
 rw [show doL.take 20=doL from rfl,A] at h
 exact h
end
section
open Go.RowKit Mem Led
theorem mr{w w':World} {base g:Nat} {e:TypeId} {size n:Nat} {v:Value} {xs:List Value} (h:w.ownsRow base e size v n xs) (C:Chg [g] w w') (G:g<base):w'.ownsRow base e size v n xs:=by
 refine⟨h.1,?_⟩
 rcases h.2 with D|⟨b,cap,A,E,F,B,r⟩
 .exact .inl D
 .exact .inr ⟨b,cap,A,E,F,by rw [C.block b (Array.getElem?_eq_some_iff.1 B).1 (by simp; omega)]; exact B,r⟩
end
section
open Go.RowKit Mem Led
def gH {α β:Type} (enc:α × Value->List Value) (k:Nat) (e ei:TypeId) (ki:Nat) (ienc:β->List Value) (sub:α->List β) (X:Value->Prop) (base:Nat) (v:Value) (E0:List (α × Value)) (j:Nat) (wr:World):Prop :=
 ∃ A:List (α × Value),A.map Prod.fst=E0.map Prod.fst/\wr.ownsRow base e k v E0.length (af enc A) /\
  (∀ i,i<j->∀ p,A[i]?=some p->wr.ownsRow base ei ki p.2 (sub p.1).length (af ienc (sub p.1))/\X p.2)/\(∀ i,j<=i->A[i]?=E0[i]?)
section
variable {α β:Type} {enc:α × Value->List Value} {k:Nat} {e ei:TypeId} {ki:Nat} {ienc:β->List Value} {sub:α->List β} {X:Value->Prop} {base:Nat} {v:Value} {E0:List (α × Value)} {j:Nat} {wr w':World}
theorem gH.start(h:wr.ownsRow base e k v E0.length (af enc E0)):gH enc k e ei ki ienc sub X base v E0 0 wr :=
 ⟨E0,rfl,h,fun i hi=>absurd hi (Nat.not_lt_zero i),fun _ _=>rfl⟩
theorem gH.below(h:gH enc k e ei ki ienc sub X base v E0 j wr) (A:eD wr w'):gH enc k e ei ki ienc sub X base v E0 j w':=by
 obtain⟨D,E,F,B,G⟩:=h
 exact⟨D,E,ae F A eG,fun i hi p C=>⟨ae (B i hi p C).1 A eG,(B i hi p C).2⟩,G⟩
theorem gH.other(h:gH enc k e ei ki ienc sub X base v E0 j wr) {g o:Nat} {u:Value} {M:List Value} {e':TypeId} (C:Blk wr g M e') (E:e≠e') (F:ei≠e'):gH enc k e ei ki ienc sub X base v E0 j (wr.setCell ⟨g,o,none⟩ u):=by
 obtain⟨G,H,D,A,I⟩:=h
 exact⟨G,H,dh D (aC D C E),fun i hi p B=>⟨dh (A i hi p B).1 (aC (A i hi p B).1 C F),(A i hi p B).2⟩,I⟩
theorem gH.step(b:∀ x,(enc x).length=k) {f:Nat} (q:f<k) (E:∀ x u,enc (x.1,u)=(enc x).set f u) (F:∀ x,(enc x)[f]?=some x.2) (G:ei≠e) (h:gH enc k e ei ki ienc sub X base v E0 j wr) (r:j<E0.length) :
  ∃ g c,v=.slice (some ⟨g,0,none⟩) E0.length c/\base<=g/\g<wr.heap.size/\(∀ w',eD wr w'->w'.cell? ⟨g,j * k+f,none⟩=some E0[j].2/\w'.frozen? ⟨g,j * k+f,none⟩=false/\∃ M,Blk w' g M e) /\
   ∀ w' C,eD wr w'->w'.ownsRow base ei ki C (sub E0[j].1).length (af ienc (sub E0[j].1))->X C->gH enc k e ei ki ienc sub X base v E0 (j+1) (w'.setCell ⟨g,j * k+f,none⟩ C):=by
 obtain⟨B,d,s,t,l⟩:=h
 have y:B.length=E0.length:=by have:=congrArg List.length d; simpa using this
 rcases aW s with⟨_,h0,_⟩|⟨g,c,M,rfl,H,O,Q,R,S,z,T⟩
 .omega
 have A:j<B.length:=by omega
 have I:B[j]=E0[j]:=by
  have:=l j eG; rw [List.getElem?_eq_getElem A,List.getElem?_eq_getElem r] at this; exact Option.some.inj this
 have m:gM enc k e g c E0.length wr B:=⟨y,M,Q,z,T⟩
 refine⟨g,c,rfl,H,O,fun w' D=>?_,fun w' C D n hX=>?_⟩
 .obtain⟨N,U⟩:=(m.below D).cell b A (u:=B[j].2) (F _)
  rw [I] at N; exact⟨N,U,M,Q.below D⟩
 .have V:=(m.below D).turn b (x':=(B[j].1,C)) (u:=C) A q (E _ _)
  obtain⟨Aa,M2,Y,Z,J⟩:=V; have K:=Q.below D; refine⟨B.set j (B[j].1,C),?_,dz H Y R S Z J,?_,?_⟩
  .rw [<-d,List.map_set]
   apply List.ext_getElem?
   intro i; rw [List.getElem?_set]; split
   .rename_i hij
    subst hij; simp [A]
   .rfl
  .intro i hi p L
   rw [List.getElem?_set] at L; split at L
   .rename_i hij
    subst hij; simp only [Option.some.injEq] at L; subst L; rw [I]; exact⟨dh n (aC n K G),hX⟩
   .rename_i hij
    obtain⟨N,U⟩:=t i (by omega) p L; have o:=ae N D eG; exact⟨dh o (aC o K G),U⟩
  .intro i hi
   rw [List.getElem?_set,if_neg (by omega)]; exact l i (by omega)
end
structure CS (w:World) (vE vN vB vJ vK vU:Value) (L:Led.Ledger) (wr:World):Prop where
 oN:wr.ownsRow (w.heap.size+2) 40 5 vN L.nodes.length (af ac L.nodes)
 oB:wr.ownsRow (w.heap.size+2) 9 1 vB L.bans.length (af aj L.bans)
 oJ:wr.ownsRow (w.heap.size+2) 38 4 vJ L.joins.length (af ao L.joins)
 oK:wr.ownsRow (w.heap.size+2) 42 4 vK L.keys.length (af aq L.keys)
 b0:Blk wr w.heap.size [vE,vN,vB,vJ,vK,vU] 30
 b1:Blk wr (w.heap.size+1) (aE (.slice none 0 0)) 30
 bel:eD w wr
theorem CS.step{w wr w':World} {vE vN vB vJ vK vU u:Value} {L:Led.Ledger} (h:CS w vE vN vB vJ vK vU L wr) (A:eD wr w') {g o:Nat} {M:List Value} {e':TypeId} (I:w.heap.size+2<=g) (B:Blk w' g M e') (C:e'=36\/e'=45) :
  CS w vE vN vB vJ vK vU L (w'.setCell ⟨g,o,none⟩ u):=by
 have D:=ae h.oN A eG
 have E:=ae h.oB A eG
 have F:=ae h.oJ A eG
 have G:=ae h.oK A eG
 have n1:(40:TypeId)≠e':=by rcases C with rfl|rfl <;> decide
 have n2:(9:TypeId)≠e':=by rcases C with rfl|rfl <;> decide
 have n3:(38:TypeId)≠e':=by rcases C with rfl|rfl <;> decide
 have H:(42:TypeId)≠e':=by rcases C with rfl|rfl <;> decide
 exact⟨dh D (aC D B n1),dh E (aC E B n2),dh F (aC F B n3),dh G (aC G B H),(h.b0.below A).set_ne (p:=⟨g,o,none⟩) (by simp; omega) _,(h.b1.below A).set_ne (p:=⟨g,o,none⟩) (by simp; omega) _,
  (h.bel.trans (A.mono h.bel.size)).setCell (p:=⟨g,o,none⟩) (by simp; omega) _⟩
end
section
namespace Batch
open Go.RowKit
def og:Op->Bool
 | .pick _ _ _=>true
 | .lookup _ _ _ _=>true
 | .unOp _ _ _=>true
 | .call c=>match c.callee with
  | .builtin .len=>true
  | _=>false
 | o=>calm o
theorem n9{P:Program} {o:Oper} (h:og o.op=true) (E:Operand->Value) (w w':World) (n:Next) (A:(execOp E o).run P w=.ok n w'):∃ u,n=.value u:=by
 by_cases I:calm o.op=true
 .exact lX I E w w' n A
 .obtain⟨J,K,C,L,F,G⟩:=o
  have key:∀ (s:Sem Value),(do pure (Next.value (<-s)):Sem Next).run P w=.ok n w'->∃ u,n=.value u:=fun s B=>by
   rw [Sem.run_bind] at B
   cases D:s.run P w with
   | halt q w1=>rw [D] at B; cases B
   | ok u w1 =>
    rw [D] at B; simp only [Result.andThen_ok,Sem.run_pure,Result.ok.injEq] at B; exact⟨u,B.1.symm⟩
  cases K <;> first|(exfalso; simp [og,calm,lD] at h I; done)|skip
  case neg.pick c x y =>
   unfold execOp at A; simp only [Sem.run_bind] at A
   cases D:(asBool (E c)).run P w with
   | halt q w1=>rw [D] at A; cases A
   | ok u w1 =>
    rw [D] at A; simp only [Result.andThen_ok,Sem.run_pure,Result.ok.injEq] at A; exact⟨_,A.1.symm⟩
  case neg.call c =>
   obtain⟨callee,args,H⟩:=c
   cases callee with
   | builtin b =>
    cases b <;> first|(exfalso; simp [og] at h; done)|skip
    simp [execOp,resolve,invoke] at A
    exact key (Builtin.len_ H C (args.map E)) A
   | invoke r nme=>exfalso; simp [og] at h
   | value g=>exfalso; simp [og] at h
  all_goals exact key _ A
section
variable {P:Program} {ops:Array Oper} {md:Region.Mode} {R:World->World->Prop} {w0:World}
def gq (ops:Array Oper) (i:Nat):Bool:=match ops[i]? with|some o=>og o.op|none=>false
theorem o5{i:Nat} {a:Act} {K:Act->Prop} {F:Act->World->Prop} {Q':Exit->Act->World->Prop} {C:World->Prop} {w:World} (B:gq ops i=true) (H:C w) (h:∀ a,K a->F a w) (A:qOp P ops C i K a):wpOp P ops Q' i F a w:=by
 unfold qOp at A
 unfold wpOp
 unfold gq at B
 cases G:ops[i]? with
 | none=>rw [G] at B; cases B
 | some o =>
  simp only [G] at A B ⊢; split
  .rename_i hw
   simp only [hw,if_true] at A; refine .inl ?_; obtain⟨v,I,J⟩:=A; have D:=I w H; unfold Oper.quietAt at D; unfold Oper.wp
   cases E:(execOp a.eval o).run P w with
   | halt q w'=>rw [E] at D; exact D.elim
   | ok n w' =>
    obtain⟨u,rfl⟩:=n9 B a.eval w w' n E; rw [E] at D; obtain⟨rfl,rfl⟩:=D; exact h _ J
  .rename_i hw
   simp only [hw] at A; exact h _ A
end
section
variable {P:Program} {ops:Array Oper} {md:Region.Mode} {R:World->World->Prop} {w0:World}
def ka (P:Program) (md:Region.Mode) (ops:Array Oper) (R:World->World->Prop) (w0:World) (B:List Nat) (L:List dG) (Q:Array Bool->Act->(World->Prop)->Prop):Nat->Array Bool->Act->(World->Prop)->Prop
 | 0,listed,a,F=>Q listed a F
 | f+1,listed,a,F=>Region.ready md ops listed≠[]/\∀ i∈Region.ready md ops listed,
   (i∈B/\qOp P ops (R w0) i (fun A=>ka P md ops R w0 B L Q f (listed.setIfInBounds i true) A F) a) \/
   (∃ x∈L,x.1=i/\∃ o,ops[i]?=some o/\Region.wanted o (yielded ops a.tmps)=true/\(∀ w,R w0 w->F w->gE P R x.2 w ((execOp a.eval o).run P w)) /\
    ∀ v,(∃ w,x.2 v w)->ka P md ops R w0 B L Q f (listed.setIfInBounds i true) (a.put o.dst v) (fun w=>F w/\x.2 v w))
theorem qS{B M:List Nat} {L:List dG} {base:Array Bool} {g:Nat} {Q:Array Bool->Act->(World->Prop)->Prop} {Q':Exit->Act->World->Prop} (d:t7 R) (V:∀ x∈L,fd R x.2) (X:∀ i∈B,i∈M) (Y:∀ x∈L,x.1∈M) (D:∀ i∈B,gq ops i=true)
  (j:∀ listed a F w,R w0 w->F w->Q listed a F->wpAny P md ops Q' g listed a w) :
  ∀ (f:Nat) (listed:Array Bool) (a:Act) (F:World->Prop) (w:World),Inv md ops M base listed->R w0 w->F w->(∀ w w',R w w'->F w->F w') ->
   ka P md ops R w0 B L Q f listed a F->wpAny P md ops Q' (f+g) listed a w:=by
 intro f
 induction f with
 | zero =>
  intro listed a F w _ H I _ h; rw [Nat.zero_add]; exact j _ _ _ _ H I h
 | succ f ih =>
  intro listed a F w J H I E h; rw [show f+1+g=(f+g)+1 by omega]; refine⟨fun h0=>absurd h0 h.1,fun i hi=>?_⟩; rcases h.2 i hi with⟨K,k⟩|⟨x,hx,rfl,o,l,Z,n,s⟩
  .exact o5 (C:=R w0) (D i K) H (fun t b=>ih _ t F w (J.set (X i K) hi) H I E b) k
  .have N:=J.set (Y x hx) hi
   have step:∀ v w',R w w'->x.2 v w'->wpAny P md ops Q' (f+g) (listed.setIfInBounds x.1 true) (a.put o.dst v) w':=fun v w' O S =>
    ih _ _ _ w' N (d.trans H O) ⟨E _ _ O I,S⟩ (fun y z T U=>⟨E _ _ T U.1,V x hx _ _ _ T U.2⟩) (s v ⟨w',S⟩)
   unfold wpOp; simp only [l]; rw [if_pos Z]; refine .inl ?_; have A:=n w H I; unfold Oper.wp; generalize (execOp a.eval o).run P w=r at *
   cases r with
   | ok m w' =>
    cases m <;> simp only [gE] at A <;> simp only [Oper.upon]
    case value u=>exact step u w' A.1 A.2
    case skip=>exact step undef w' A.1 A.2
    case enter f' args =>
     obtain⟨rfl,G⟩:=A; exact G.mono fun e c ⟨v,he,U,h2⟩=>by subst he; exact step v c U h2
   | halt q w'=>simp only [gE] at A
theorem sC{B M:List Nat} {L:List dG} {Q:Array Bool->Act->(World->Prop)->Prop} {base Y:Array Bool} {i:Nat} {G:Oper} {v:Value} (hi:ops[i]?=some G) (D:∀ (j:Nat) (o:Oper) cs b,ops[j]?=some o->o.op≠.select cs b)
  (hc:bq md ops base M=true) (Z:∀ i∈B,i∈M) (K:i∈B) (c:∀ j∈M,Y.getD j true=true) (hQ:∀ listed a F,Q listed a F->listed=Y) :
  ∀ (f:Nat) (listed:Array Bool) (a:Act) (F:World->Prop),Inv md ops M base listed ->
   (∀ j U,ops[j]?=some U->j≠i->listed.getD j true=false->(∀ e∈U.after,Region.binds md e=true->e.on≠i)->G.apart ops U=true) ->
   i∈Region.ready md ops listed->YieldsIn P ops (R w0) G v a ->
   ka P md ops R w0 B L Q f (listed.setIfInBounds i true) (a.put G.dst v) F->ka P md ops R w0 B L Q (f+1) listed a F:=by
 intro f
 induction f with
 | zero =>
  intro listed a F I _ N d H; have C:=(mem_ready.1 N).1; refine⟨fun h=>(by rw [h] at N; cases N),fun j V=>?_⟩
  have O:=I.stays hc (Z _ K) C V; by_cases A:j=i
  .subst A; exact .inl ⟨K,d.qOp hi H⟩
  .exfalso
   have S:=ready_mono V A; rw [hQ _ _ _ H] at S; have s:=(mem_ready.1 S).1; rw [c j O] at s
   cases s
 | succ f ih =>
  intro listed a F I J N d H; have C:=(mem_ready.1 N).1; refine⟨fun h=>(by rw [h] at N; cases N),fun j V=>?_⟩
  have O:=I.stays hc (Z _ K) C V; by_cases A:j=i
  .subst A; exact .inl ⟨K,d.qOp hi H⟩
  .have S:=H.2 j (ready_mono V A)
   obtain⟨X,U,T,g⟩:=mem_ready.1 V; have l:∀ e∈U.after,Region.binds md e=true->e.on≠i:=fun e he hb t=>by
    have S:=g e he hb; rw [t,getD_both C] at S
    cases S
   have m:=J j U T A X l; have E:∀ k ok,ops[k]?=some ok->k≠i->(listed.setIfInBounds j true).getD k true=false ->
     (∀ e∈ok.after,Region.binds md e=true->e.on≠i)->G.apart ops ok=true:=fun k ok y z C Aa=>by
    refine J k ok y z ?_ Aa; by_cases n:j=k
    .subst n; exact X
    .rw [getD_set_ne true n] at C; exact C
   rcases S with⟨q,S⟩|⟨x,hx,Ab,o,ho,r,hg,y⟩
   .refine .inl ⟨q,?_⟩
    have s:=qOp_put T m (fun cs b=>D i G cs b hi) (fun cs b=>D j U cs b T) d S; refine qOp_mono (fun a' h3=>ih (listed.setIfInBounds j true) a' F (I.set O V) E (ready_mono N (Ne.symm A)) h3.1 ?_) s; rw [Array.setIfInBounds_comm _ _ A]; exact h3.2
   .have:o=U:=Option.some.inj (ho.symm.trans T)
    subst this; obtain⟨g1,g2,g3⟩:=Oper.apart_spec m; refine .inr ⟨x,hx,Ab,o,ho,?_,fun w hw Ac=>?_,fun u hu=>?_⟩
    .rw [wanted_put o a G.dst v g1] at r
     exact r
    .have:=hg w hw Ac
     rw [execOp_put o (fun cs b=>D j o cs b ho) a G.dst v g1] at this; exact this
    .refine ih (listed.setIfInBounds j true) (a.put o.dst u) _ (I.set O V) E (ready_mono N (Ne.symm A)) (d.of_same (execOp_put G (fun cs b=>D i G cs b hi) a o.dst u g3) (wanted_put G a o.dst u g3)) ?_
     rw [Array.setIfInBounds_comm _ _ A,<-Act.put_comm a v u g2]; exact y u hu
def kX (P:Program) (ops:Array Oper) (R:World->World->Prop) (w0:World) (Q:Act->(World->Prop)->Prop):List (List Nat × dG)->Act->(World->Prop)->Prop
 | [],a,F=>Q a F
 | (r,x)::rest,a,F=>wpQuiet P ops (R w0) (fun A=>∃ o,ops[x.1]?=some o/\Region.wanted o (yielded ops A.tmps)=true/\(∀ w,R w0 w->F w->gE P R x.2 w ((execOp A.eval o).run P w)) /\
   ∀ v,(∃ w,x.2 v w)->kX P ops R w0 Q rest (A.put o.dst v) (fun w=>F w/\x.2 v w)) (r.filterMap (ops[·]?)) a
def sP (md:Region.Mode) (ops:Array Oper):List (List Nat × Nat)->Array Bool->Bool
 | [],_=>true
 | (r,k)::T,listed=>gu md ops r listed&&decide (Region.ready md ops (lay listed r)=[k])&&sP md ops T ((lay listed r).setIfInBounds k true)
def layT:List (List Nat × Nat)->Array Bool->Array Bool
 | [],s=>s
 | (r,k)::T,s=>layT T ((lay s r).setIfInBounds k true)
def sizeT:List (List Nat × Nat)->Nat
 | []=>0
 | (r,_)::T=>r.length+(sizeT T+1)
theorem nD{B M:List Nat} {L:List dG} {Q:Array Bool->Act->(World->Prop)->Prop} {base G:Array Bool} {F:World->Prop} (A:∀ (j:Nat) (o:Oper) cs b,ops[j]?=some o->o.op≠.select cs b)
  (T:bq md ops base M=true) (D:∀ i∈B,i∈M) (C:∀ j∈M,G.getD j true=true) (U:∀ listed a F,Q listed a F->listed=G) (n:Nat) :
  ∀ (l:List Nat) (listed:Array Bool) (a:Act) (K:Act->Prop),(∀ i∈l,i∈B)->Inv md ops M base listed->gu md ops l listed=true ->
   (∀ V,Inv md ops M base (lay listed l)->K V->ka P md ops R w0 B L Q n (lay listed l) V F)->wpQuiet P ops (R w0) K (l.filterMap (ops[·]?)) a->ka P md ops R w0 B L Q (l.length+n) listed a F
 | [],listed,a,K,_,inv,_,hK,h=>by
  rw [List.length_nil,Nat.zero_add]; exact hK a inv h
 | i::l,listed,a,K,hl,inv,hsq,hK,h=>by
  simp only [gu,Bool.and_eq_true] at hsq; obtain⟨⟨X,N⟩,O⟩:=hsq; have E:i∈Region.ready md ops listed:=by simpa using X
  obtain⟨_,o,H,_⟩:=mem_ready.1 E; have I:=hl i List.mem_cons_self; have J:qOp P ops (R w0) i (wpQuiet P ops (R w0) K (l.filterMap (ops[·]?))) a:=by
   unfold qOp; simp only [H]; rw [List.filterMap_cons_some H] at h; exact h
  obtain⟨v,Y,S⟩:=yieldsIn_of_qOp H J; have:=nD A T D C U n l (listed.setIfInBounds i true) _ K (fun k Z=>hl k (List.mem_cons_of_mem _ Z)) (inv.set (D _ I) E) O hK S; rw [show (i::l).length+n=(l.length+n)+1 by simp only [List.length_cons]; omega]
  exact sC H A T D I C U _ listed a F inv (Region.free_spec H N) E Y this
theorem nC{B M:List Nat} {L0:List dG} {L:Act->(World->Prop)->Prop} {base E:Array Bool} (C:∀ (j:Nat) (o:Oper) cs b,ops[j]?=some o->o.op≠.select cs b)
  (N:bq md ops base M=true) (G:∀ i∈B,i∈M) (H:∀ x∈L0,x.1∈M) (D:∀ j∈M,E.getD j true=true) :
  ∀ (S:List (List Nat × dG)) (listed:Array Bool) (a:Act) (F:World->Prop),(∀ s∈S,(∀ i∈s.1,i∈B)/\s.2∈L0)->Inv md ops M base listed->sP md ops (S.map fun s=>(s.1,s.2.1)) listed=true->layT (S.map fun s=>(s.1,s.2.1)) listed=E ->
  kX P ops R w0 L S a F->ka P md ops R w0 B L0 (fun A O T=>A=E/\L O T) (sizeT (S.map fun s=>(s.1,s.2.1))) listed a F
 | [],_,_,_,_,_,_,hf,h=>⟨hf,h⟩
 | (r,x)::S,listed,a,F,hS,inv,hs,hf,h=>by
  simp only [List.map_cons,sP,Bool.and_eq_true,decide_eq_true_eq] at hs; have h0:=hS (r,x) List.mem_cons_self; refine nD C N G D (fun _ _ _ U=>U.1) _ r listed a _ h0.1 inv hs.1.1 (fun O I V=>?_) h; refine⟨fun Q=>(by rw [hs.1.2] at Q; cases Q),fun i hi=>?_⟩
  have J:=hi; rw [hs.1.2] at hi; have K:i=x.1:=by simpa using hi
  subst K; obtain⟨o,X,k2,k3,k4⟩:=V; exact .inr ⟨x,h0.2,rfl,o,X,k2,k3,fun v Y=>nC C N G H D S _ _ _ (fun y Z=>hS y (List.mem_cons_of_mem _ Z)) (I.set (H x h0.2) J) hs.2 hf (k4 v Y)⟩
def ng (S:List (List Nat × Nat)):List Nat:=S.flatMap fun s=>s.1++[s.2]
def turnB (md:Region.Mode) (ops:Array Oper) (base:Array Bool) (S:List (List Nat × Nat)):Bool :=
 Region.noSelect ops&&decide (base.size=ops.size)&&bq md ops base (ng S)&&(S.all fun s=>s.1.all fun i=>gq ops i)&&sP md ops S base&&(ng S).all fun j=>(layT S base).getD j true
theorem wpAny_turns{Q':Exit->Act->World->Prop} {a:Act} {w:World} {base:Array Bool} {N fuel:Nat} (X:t7 R) (L:R w0 w) (S:List (List Nat × dG)) (U:turnB md ops base (S.map fun s=>(s.1,s.2.1))=true) (M:∀ s∈S,fd R s.2.2) (Y:N=sizeT (S.map fun s=>(s.1,s.2.1))+fuel)
  (h:kX P ops R w0 (fun V F=>∀ w',R w0 w'->F w'->wpAny P md ops Q' fuel (layT (S.map fun s=>(s.1,s.2.1)) base) V w') S a (fun _=>True)):wpAny P md ops Q' N base a w:=by
 simp only [turnB,Bool.and_eq_true,decide_eq_true_eq] at U
 obtain⟨⟨⟨⟨⟨E,G⟩,Z⟩,C⟩,O⟩,H⟩:=U
 subst Y
 have D:=Region.noSelect_spec E
 have I:∀ s∈S,(∀ i∈s.1,i∈ng (S.map fun s=>(s.1,s.2.1)))/\s.2.1∈ng (S.map fun s=>(s.1,s.2.1)):=fun s A =>
  ⟨fun i hi=>List.mem_flatMap.2 ⟨(s.1,s.2.1),List.mem_map.2 ⟨s,A,rfl⟩,List.mem_append_left _ hi⟩,List.mem_flatMap.2 ⟨(s.1,s.2.1),List.mem_map.2 ⟨s,A,rfl⟩,List.mem_append_right _ (List.mem_singleton.2 rfl)⟩⟩
 have Q:∀ i∈S.flatMap (·.1),gq ops i=true:=fun i hi=>by
  obtain⟨s,A,hi⟩:=List.mem_flatMap.1 hi; exact List.all_eq_true.1 (List.all_eq_true.1 C (s.1,s.2.1) (List.mem_map.2 ⟨s,A,rfl⟩)) i hi
 have J:∀ i∈S.flatMap (·.1),i∈ng (S.map fun s=>(s.1,s.2.1)):=fun i hi=>by
  obtain⟨s,A,hi⟩:=List.mem_flatMap.1 hi; exact(I s A).1 i hi
 have K:∀ x∈S.map (·.2),x.1∈ng (S.map fun s=>(s.1,s.2.1)):=fun x hx=>by
  obtain⟨s,A,rfl⟩:=List.mem_map.1 hx; exact(I s A).2
 have b:=nC (P:=P) (R:=R) (w0:=w0) (B:=S.flatMap (·.1)) (L0:=S.map (·.2)) D Z J K (fun j c=>List.all_eq_true.1 H j c) S base a (fun _=>True) (fun s A=>⟨fun i hi=>List.mem_flatMap.2 ⟨s,A,hi⟩,List.mem_map_of_mem A⟩) (Inv.refl G) O rfl h
 refine qS X (fun x hx=>?_) J K Q (fun listed V F w' T d f=>by obtain⟨rfl,g⟩:=f; exact g w' T d) _ base a _ w (Inv.refl G) L trivial (fun _ _ _ h=>h) b
 obtain⟨s,A,rfl⟩:=List.mem_map.1 hx
 exact M s A
end
def wpItem (P:Program) (l:List Oper) (x:dG) (w:World) (K:Act->(World->Prop)->Prop) (F:World->Prop) (a:Act):Prop :=
 ∃ o,l.toArray[x.1]?=some o/\Region.wanted o (yielded l.toArray a.tmps)=true/\(∀ w',GR w w'->F w'->gE P GR x.2 w' ((execOp a.eval o).run P w'))/\∀ v,(∃ w,x.2 v w)->K (a.put o.dst v) (fun w=>F w/\x.2 v w)
def iW (P:Program) (l:List Oper) (w:World) (Q:Act->(World->Prop)->Prop):List (List Nat × dG)->Act->(World->Prop)->Prop
 | [],a,F=>Q a F
 | (r,x)::rest,a,F=>wpQuiet P l.toArray (fun w'=>∃ p:bN,w'=ab w p) (wpItem P l x w (iW P l w Q rest) F) (pick l r) a
theorem aH{P:Program} {l:List Oper} {w:World} {Q:Act->(World->Prop)->Prop} {r:List Nat} {x:dG} {rest:List (List Nat × dG)} {a:Act} {F:World->Prop} (h:wpQuiet P l.toArray (fun w'=>∃ p:bN,w'=ab w p) (wpItem P l x w (iW P l w Q rest) F) (pick l r) a):iW P l w Q ((r,x)::rest) a F:=h
theorem gO{P:Program} {ops:Array Oper} {C:World->Prop} {K A:Act->Prop} (h:∀ a,K a->A a):∀ {L:List Oper} {a:Act},wpQuiet P ops C K L a->wpQuiet P ops C A L a
 | [],a,hh=>h a hh
 | o::L,a,hh=>by
  unfold wpQuiet at hh ⊢; split
  .rename_i hw
   simp only [hw,if_true] at hh; exact Oper.quiet_mono (fun a=>gO h) hh
  .rename_i hw
   simp only [hw] at hh; exact gO h hh
theorem j6{P:Program} {l:List Oper} {w:World} {Q:Act->(World->Prop)->Prop}:∀ (S:List (List Nat × dG)) (a:Act) (F:World->Prop),(S.all (fun s=>s.1.all fun i=>decide (i<l.length)))=true->iW P l w Q S a F->kX P l.toArray GR w Q S a F
 | [],_,_,_,h=>h
 | (r,x)::S,a,F,hS,h=>by
  simp only [List.all_cons,Bool.and_eq_true] at hS; unfold iW at h; rw [<-da l r hS.1] at h; exact gO (fun B ⟨o,k1,k2,k3,k4⟩=>⟨o,k1,k2,k3,fun v A=>j6 S _ _ hS.2 (k4 v A)⟩) h
theorem aN{P:Program} {E:Nat} {Q:Exit->Act->World->Prop} {a:Act} {w:World} {l:List Oper} (S:List (List Nat × dG)) (T:List Nat) (G:P.follows .mixedOrders=true)
  (C:(S.all (fun s=>s.1.all fun i=>decide (i<l.length))&&T.all (fun i=>decide (i<l.length))&&turnB .any l.toArray (Array.replicate l.length false) (S.map fun s=>(s.1,s.2.1))&&decide (sizeT (S.map fun s=>(s.1,s.2.1))+T.length=l.length)&&qW .any l.toArray T (layT (S.map fun s=>(s.1,s.2.1)) (Array.replicate l.length false)))=true)
  (B:∀ s∈S,fd GR s.2.2)
  (h:iW P l w (fun A F=>∀ w',GR w w'->F w'->wpList P l.toArray Q (pick l T) A w') S a (fun _=>True)):(Code.region E l.toArray true).wp P Q a w:=by
 simp only [Bool.and_eq_true,decide_eq_true_eq] at C
 obtain⟨⟨⟨⟨H,I⟩,J⟩,R⟩,K⟩:=C
 rw [<-da l T I] at h
 refine bL G (wpAny_turns (fuel:=T.length) mm (GR.of (Below.refl _ _).drew) S J B (by omega) ?_)
 have L:=j6 S a (fun _=>True) H h
 have key:∀ (L0:List (List Nat × dG)) (a:Act) (F:World->Prop),kX P l.toArray GR w (fun A F=>∀ w',GR w w'->F w'->wpList P l.toArray Q (T.filterMap (fun i=>l.toArray[i]?)) A w') L0 a F ->
   kX P l.toArray GR w (fun D F=>∀ w',GR w w'->F w'->wpAny P .any l.toArray Q T.length (layT (S.map fun s=>(s.1,s.2.1)) (Array.replicate l.length false)) D w') L0 a F:=by
  intro L0; induction L0 with
  | nil=>intro a F h w' M N; exact dI T _ a w' K (h w' M N)
  | cons s L0 ih =>
   obtain⟨r,x⟩:=s; intro a F h; exact gO (fun D ⟨o,k1,k2,k3,k4⟩=>⟨o,k1,k2,k3,fun v O=>ih _ _ (k4 v O)⟩) h
 exact key _ _ _ L
end Batch
end
section
open Go.RowKit Mem Led
theorem fq:∀ (vs:List Value) {w:World} {base n g k size:Nat} {v:Value} {e:TypeId} {xs:List Value},w.ownsRow base e size v n xs->g<base->(w.setCells g k vs).ownsRow base e size v n xs
 | [],_,_,_,_,_,_,_,_,_,h,_=>h
 | u::vs,_,_,_,_,_,_,_,_,_,h,hg=>fq vs (ownsRow_setCell_below h hg u) hg
section
variable {base b:Nat} {w w':World} {vE vN vB vJ vK vU:Value} {L:Led.Ledger} {E:List (Led.Entry × Value)} {U:List (Led.Bundle × Value)}
theorem Wk.lower(h:Wk base w vE vN vB vJ vK vU L E U) (A:b<=base):Wk b w vE vN vB vJ vK vU L E U :=
 ⟨aG h.oE A,aG h.oN A,aG h.oB A,aG h.oJ A,aG h.oK A,aG h.oU A,h.ents,h.buns,fun p B=>⟨aG (h.sels p B).1 A,(h.sels p B).2⟩,fun p B=>aG (h.keyss p B) A⟩
theorem Wk.setCells(h:Wk base w vE vN vB vJ vK vU L E U) {g k:Nat} (A:g<base) (vs:List Value):Wk base (w.setCells g k vs) vE vN vB vJ vK vU L E U :=
 ⟨fq vs h.oE A,fq vs h.oN A,fq vs h.oB A,fq vs h.oJ A,fq vs h.oK A,fq vs h.oU A,h.ents,h.buns,fun p B=>⟨fq vs (h.sels p B).1 A,(h.sels p B).2⟩,fun p B=>fq vs (h.keyss p B) A⟩
theorem Wk.setCell(h:Wk base w vE vN vB vJ vK vU L E U) {a:Addr} (A:a.block<base) (v:Value):Wk base (w.setCell a v) vE vN vB vJ vK vU L E U :=
 ⟨ownsRow_setCell_below h.oE A v,ownsRow_setCell_below h.oN A v,ownsRow_setCell_below h.oB A v,ownsRow_setCell_below h.oJ A v,ownsRow_setCell_below h.oK A v,ownsRow_setCell_below h.oU A v,h.ents,h.buns,fun p B=>⟨ownsRow_setCell_below (h.sels p B).1 A v,(h.sels p B).2⟩,fun p B=>ownsRow_setCell_below (h.keyss p B) A v⟩
end
theorem ic{b k n:Nat} {e:TypeId} {xs:List Value}:fd GR fun v w=>w.ownsRow b e k v n xs:=ax fun _ _ _ A h=>ae h A eG
theorem bS{P:Program} {F:FuncId} {args:Array Value} {A:World} {b k n:Nat} {e:TypeId} {xs:List Value} (C:b<=A.heap.size) (h:Calls P F args A (fe xs e k n A)) :
  Calls P F args A (fun x B=>∃ v,x=.returned v/\GR A B/\B.ownsRow b e k v n xs) :=
 h.mono fun _ _ ⟨v,h1,h2,h3⟩=>⟨v,h1,GR.of h3,aG h2 C⟩
def Copy (L:Led.Ledger) (w:World) (x:Ending) (w':World):Prop :=
 ∃ vE vN vB vJ vK vU E U,x=.returned (.agg (#[vE,vN,vB,vJ,vK,vU]:Array Value))/\Wk w.heap.size w' vE vN vB vJ vK vU L E U/\eD w w'
theorem kP(cs:List Value) (L:Led.Ledger) (E:List (Led.Entry × Value)) (U:List (Led.Bundle × Value)) (w:World) (h:cZ w cs L E U) (hs:L.Small):Calls prog 27 #[.agg cs.toArray] w (Copy L w):=by
 obtain⟨⟨vE,vN,vB,vJ,vK,vU,rfl,⟨AE,nE,cE,rfl,fE,rE⟩,⟨AN,nN,cN,rfl,fN,rN⟩,⟨AB,nB,cB,rfl,fB,rB⟩,⟨AJ,O,cJ,rfl,fJ,rJ⟩,⟨AK,Q,cK,rfl,fK,rK⟩,⟨AU,nU,cU,rfl,fU,rU⟩⟩,Ah,Ai,Af,Ag⟩:=h
 obtain⟨W,hW⟩:=eA (((w.alloc (.cells ([.slice AE nE cE,.slice AN nN cN,.slice AB nB cB,.slice AJ O cJ,.slice AK Q cK,.slice AU nU cU]:List Value).toArray 30)).alloc (.cells (aE (.slice none 0 0)).toArray 30)))
 have J:Blk W w.heap.size [.slice AE nE cE,.slice AN nN cN,.slice AB nB cB,.slice AJ O cJ,.slice AK Q cK,.slice AU nU cU] 30:=by rw [<-hW]; exact(Blk.new _ _ _).alloc _
 have b1:Blk W (w.heap.size+1) (aE (.slice none 0 0)) 30:=by
  have:=Blk.new (w.alloc (.cells ([.slice AE nE cE,.slice AN nN cN,.slice AB nB cB,.slice AJ O cJ,.slice AK Q cK,.slice AU nU cU]:List Value).toArray 30)) (aE (.slice none 0 0)) 30; rw [<-hW]; simpa using this
 have N:eD w W:=by rw [<-hW]; exact eH.alloc (by simp) _
 have AG:W.heap.size=w.heap.size+2:=by rw [<-hW]; simp
 have lE:=rE.len aZ (by omega)
 have lN:=rN.len aR (by omega)
 have lB:L.bans.length=nB:=by have:=rB.len; simpa [tv] using this
 have lJ:=rJ.len a9 (by omega)
 have lK:=rK.len aP (by omega)
 have lU:=rU.len aU (by omega)
 have AZ:E.length=L.entries.length:=by rw [<-Ah,List.length_map]
 have Ba:U.length=L.bundles.length:=by rw [<-Ai,List.length_map]
 have kE:=hO (fun wx (hx:eD w wx)=>clnEnt_any AE nE cE _ wx (Es.below rE hx) (by have:=hs.e; omega) fE.2.2 (oG Af))
 have kN:=hO (fun wx (hx:eD w wx)=>clnNod_any AN nN cN _ wx (Es.below rN hx) (by have:=hs.n; omega) fN.2.2 (pI _))
 have kB:=hO (fun wx (hx:eD w wx)=>lV AB nB cB (af aj L.bans) wx (by rw [gP]; exact Ts.below rB hx) (by have:=hs.b; omega) fB.2.2 (oD _))
 have kJ:=hO (fun wx (hx:eD w wx)=>clnJoi_any AJ O cJ _ wx (Es.below rJ hx) (by have:=hs.j; omega) fJ.2.2 (one_join _))
 have kK:=hO (fun wx (hx:eD w wx)=>clnKey_any AK Q cK _ wx (Es.below rK hx) (by have:=hs.k; omega) fK.2.2 (oF _))
 have kU:=hO (fun wx (hx:eD w wx)=>clnBun_any AU nU cU _ wx (Es.below rU hx) (by have:=hs.u; omega) fU.2.2 (oH Ag))
 have C:=hO N
 have HW:=hO hW
 clear hW rE rN rB rJ rK rU fE fN fB fJ fK fU
 go_enter func27,ntmps27
 go_upto_region 1 with fail
 rw [show ((w.alloc (.cells #[.slice AE nE cE,.slice AN nN cN,.slice AB nB cB,.slice AJ O cJ,.slice AK Q cK,.slice AU nU cU] 30)).alloc (.cells #[.slice none 0 0,.slice none 0 0,.slice none 0 0,.slice none 0 0,.slice none 0 0,.slice none 0 0] 30))=W from HW.out]
 clear HW
 have f0:∀ p,(ab W p).cell? ⟨w.heap.size,0,none⟩=some (.slice AE nE cE):=fun p=>(ap (a:=⟨w.heap.size,0,none⟩) J.lt p).trans (J.cell 0)
 have f1:∀ p,(ab W p).cell? ⟨w.heap.size,1,none⟩=some (.slice AN nN cN):=fun p=>(ap (a:=⟨w.heap.size,1,none⟩) J.lt p).trans (J.cell 1)
 have f2:∀ p,(ab W p).cell? ⟨w.heap.size,2,none⟩=some (.slice AB nB cB):=fun p=>(ap (a:=⟨w.heap.size,2,none⟩) J.lt p).trans (J.cell 2)
 refine aN [([0,1,3,4,6,7],(2,fun v w'=>w'.ownsRow W.heap.size 36 5 v nE (af ag E))),([9],(5,fun v w'=>w'.ownsRow W.heap.size 40 5 v nN (af ac L.nodes))),([],(8,fun v w'=>w'.ownsRow W.heap.size 9 1 v nB (af aj L.bans)))] [10,11,12,13,14] (by kernel_rfl) (by kernel_rfl) (by
  intro x hx; simp only [List.mem_cons,List.not_mem_nil,or_false] at hx; rcases hx with rfl|rfl|rfl <;> exact ic) ?_
 refine aH ?_
 simp only [pick,List.getD_cons_zero,List.getD_cons_succ]
 repeat (go_big_quiet_step (fail))
 refine wpQuiet_nil ?_
 refine⟨_,rfl,rfl,?_,?_⟩
 .intro F A _
  go_simp
  exact⟨rfl,bS (by have:=A.below.size; omega) (kE.out F (C.out.trans (A.below.mono C.out.size)))⟩
 intro v1 _
 refine aH ?_
 simp only [pick,List.getD_cons_zero,List.getD_cons_succ,List.getElem_toArray,List.getElem_cons_succ,List.getElem_cons_zero,Act.put,List.setIfInBounds_toArray,List.set_cons_zero,List.set_cons_succ]
 repeat (go_big_quiet_step (fail))
 refine wpQuiet_nil ?_
 refine⟨_,rfl,rfl,?_,?_⟩
 .intro F A _
  go_simp
  exact⟨rfl,bS (by have:=A.below.size; omega) (kN.out F (C.out.trans (A.below.mono C.out.size)))⟩
 intro v2 _
 refine aH ?_
 simp only [pick,List.getElem_toArray,List.getElem_cons_succ,List.getElem_cons_zero,Act.put,List.setIfInBounds_toArray,List.set_cons_zero,List.set_cons_succ]
 repeat (go_big_quiet_step (fail))
 refine wpQuiet_nil ?_
 refine⟨_,rfl,rfl,?_,?_⟩
 .intro F A _
  go_simp
  exact⟨rfl,bS (by have:=A.below.size; omega) (kB.out F (C.out.trans (A.below.mono C.out.size)))⟩
 intro v3 _ F A hF
 obtain⟨⟨⟨_,R⟩,o2⟩,o3⟩:=hF
 have T:eD w F:=C.out.trans (A.below.mono C.out.size)
 have V:=J.below A.below
 have d1:=b1.below A.below
 have AH:=A.below.size
 clear f0 f1 f2 kE kN kB J b1 A N
 obtain⟨Z,Y,rfl,_,_⟩:=ak R
 obtain⟨A2,c2,rfl,_,_⟩:=ak o2
 obtain⟨l,m,rfl,_,_⟩:=ak o3
 have x0:F.cell? ⟨w.heap.size,0,none⟩=some (.slice AE nE cE):=V.cell 0
 have x1:F.cell? ⟨w.heap.size,1,none⟩=some (.slice AN nN cN):=V.cell 1
 have x2:F.cell? ⟨w.heap.size,2,none⟩=some (.slice AB nB cB):=V.cell 2
 have z0:F.frozen? ⟨w.heap.size,0,none⟩=false:=V.froz 0
 have z1:F.frozen? ⟨w.heap.size,1,none⟩=false:=V.froz 1
 have z2:F.frozen? ⟨w.heap.size,2,none⟩=false:=V.froz 2
 go_upto_region 2 with fail
 obtain⟨w2,q⟩:=eA (((F.setCell ⟨w.heap.size,0,none⟩ (.slice Z nE Y)).setCell ⟨w.heap.size,1,none⟩ (.slice A2 nN c2)).setCell ⟨w.heap.size,2,none⟩ (.slice l nB m))
 have J:Blk w2 w.heap.size [.slice Z nE Y,.slice A2 nN c2,.slice l nB m,.slice AJ O cJ,.slice AK Q cK,.slice AU nU cU] 30:=by rw [<-q]; exact((V.set 0 _).set 1 _).set 2 _
 have b1:Blk w2 (w.heap.size+1) (aE (.slice none 0 0)) 30:=by
  rw [<-q]; exact((d1.set_ne (p:=⟨w.heap.size,0,none⟩) (by simp) _).set_ne (p:=⟨w.heap.size,1,none⟩) (by simp) _).set_ne (p:=⟨w.heap.size,2,none⟩) (by simp) _
 have G:∀ {B n k:Nat} {v:Value} {e:TypeId} {xs:List Value},F.ownsRow B e k v n xs->w.heap.size+2<=B->w2.ownsRow B e k v n xs:=fun h hB=>by
  rw [<-q]; exact ownsRow_setCell_below (ownsRow_setCell_below (ownsRow_setCell_below h (a:=⟨w.heap.size,0,none⟩) (by simp; omega) _) (a:=⟨w.heap.size,1,none⟩) (by simp; omega) _) (a:=⟨w.heap.size,2,none⟩) (by simp; omega) _
 have N:eD w w2:=by
  rw [<-q]; exact((T.setCell (p:=⟨w.heap.size,0,none⟩) eG _).setCell (p:=⟨w.heap.size,1,none⟩) eG _).setCell (p:=⟨w.heap.size,2,none⟩) eG _
 have C:=hO N
 rw [AG] at R o2 o3
 have p1:=G R eG
 have p2:=G o2 eG
 have p3:=G o3 eG
 rw [q]
 clear G q x0 x1 x2 z0 z1 z2 R o2 o3 T V d1
 have Bb:=b1.lt
 have f0:∀ p,(ab w2 p).cell? ⟨w.heap.size,3,none⟩=some (.slice AJ O cJ):=fun p=>(ap (a:=⟨w.heap.size,3,none⟩) J.lt p).trans (J.cell 3)
 have f1:∀ p,(ab w2 p).cell? ⟨w.heap.size,4,none⟩=some (.slice AK Q cK):=fun p=>(ap (a:=⟨w.heap.size,4,none⟩) J.lt p).trans (J.cell 4)
 have f2:∀ p,(ab w2 p).cell? ⟨w.heap.size,5,none⟩=some (.slice AU nU cU):=fun p=>(ap (a:=⟨w.heap.size,5,none⟩) J.lt p).trans (J.cell 5)
 refine aN [([0,1,3,4,6,7],(2,fun v w'=>w'.ownsRow (w.heap.size+2) 38 4 v O (af ao L.joins))),([9],(5,fun v w'=>w'.ownsRow (w.heap.size+2) 42 4 v Q (af aq L.keys))),([],(8,fun v w'=>w'.ownsRow (w.heap.size+2) 45 3 v nU (af ai U)))] [10,11,12,13,14] (by kernel_rfl) (by kernel_rfl) (by
  intro x hx; simp only [List.mem_cons,List.not_mem_nil,or_false] at hx; rcases hx with rfl|rfl|rfl <;> exact ic) ?_
 refine aH ?_
 simp only [pick,List.getD_cons_zero,List.getD_cons_succ]
 repeat (go_big_quiet_step (fail))
 refine wpQuiet_nil ?_
 refine⟨_,rfl,rfl,?_,?_⟩
 .intro F A _
  go_simp
  exact⟨rfl,bS (by have:=A.below.size; omega) (kJ.out F (C.out.trans (A.below.mono C.out.size)))⟩
 intro v1 _
 refine aH ?_
 simp only [pick,List.getD_cons_zero,List.getD_cons_succ,List.getElem_toArray,List.getElem_cons_succ,List.getElem_cons_zero,Act.put,List.setIfInBounds_toArray,List.set_cons_zero,List.set_cons_succ]
 repeat (go_big_quiet_step (fail))
 refine wpQuiet_nil ?_
 refine⟨_,rfl,rfl,?_,?_⟩
 .intro F A _
  go_simp
  exact⟨rfl,bS (by have:=A.below.size; omega) (kK.out F (C.out.trans (A.below.mono C.out.size)))⟩
 intro v2 _
 refine aH ?_
 simp only [pick,List.getElem_toArray,List.getElem_cons_succ,List.getElem_cons_zero,Act.put,List.setIfInBounds_toArray,List.set_cons_zero,List.set_cons_succ]
 repeat (go_big_quiet_step (fail))
 refine wpQuiet_nil ?_
 refine⟨_,rfl,rfl,?_,?_⟩
 .intro F A _
  go_simp
  exact⟨rfl,bS (by have:=A.below.size; omega) (kU.out F (C.out.trans (A.below.mono C.out.size)))⟩
 intro v6 _ w3 A hF
 obtain⟨⟨⟨_,R⟩,o2⟩,o3⟩:=hF
 have p1:=ae p1 A.below eG
 have p2:=ae p2 A.below eG
 have p3:=ae p3 A.below eG
 have T:eD w w3:=C.out.trans (A.below.mono C.out.size)
 have V:=J.below A.below
 have d1:=b1.below A.below
 have AH:=A.below.size
 clear f0 f1 f2 kJ kK kU J b1 A N
 obtain⟨A4,c4,rfl,_,_⟩:=ak R
 obtain⟨A5,c5,rfl,_,_⟩:=ak o2
 obtain⟨r,c,rfl,_,_⟩:=ak o3
 have x0:w3.cell? ⟨w.heap.size,3,none⟩=some (.slice AJ O cJ):=V.cell 3
 have x1:w3.cell? ⟨w.heap.size,4,none⟩=some (.slice AK Q cK):=V.cell 4
 have x2:w3.cell? ⟨w.heap.size,5,none⟩=some (.slice AU nU cU):=V.cell 5
 have z0:w3.frozen? ⟨w.heap.size,3,none⟩=false:=V.froz 3
 have z1:w3.frozen? ⟨w.heap.size,4,none⟩=false:=V.froz 4
 have z2:w3.frozen? ⟨w.heap.size,5,none⟩=false:=V.froz 5
 go_upto_region 3 with fail
 obtain⟨w4,t⟩:=eA (((w3.setCell ⟨w.heap.size,3,none⟩ (.slice A4 O c4)).setCell ⟨w.heap.size,4,none⟩ (.slice A5 Q c5)).setCell ⟨w.heap.size,5,none⟩ (.slice r nU c))
 have J:Blk w4 w.heap.size [.slice Z nE Y,.slice A2 nN c2,.slice l nB m,.slice A4 O c4,.slice A5 Q c5,.slice r nU c] 30:=by rw [<-t]; exact((V.set 3 _).set 4 _).set 5 _
 have b1:Blk w4 (w.heap.size+1) (aE (.slice none 0 0)) 30:=by
  rw [<-t]; exact((d1.set_ne (p:=⟨w.heap.size,3,none⟩) (by simp) _).set_ne (p:=⟨w.heap.size,4,none⟩) (by simp) _).set_ne (p:=⟨w.heap.size,5,none⟩) (by simp) _
 have G:∀ {B n k:Nat} {v:Value} {e:TypeId} {xs:List Value},w3.ownsRow B e k v n xs->w.heap.size+2<=B->w4.ownsRow B e k v n xs:=fun h hB=>by
  rw [<-t]; exact ownsRow_setCell_below (ownsRow_setCell_below (ownsRow_setCell_below h (a:=⟨w.heap.size,3,none⟩) (by simp; omega) _) (a:=⟨w.heap.size,4,none⟩) (by simp; omega) _) (a:=⟨w.heap.size,5,none⟩) (by simp; omega) _
 have N:eD w w4:=by
  rw [<-t]; exact((T.setCell (p:=⟨w.heap.size,3,none⟩) eG _).setCell (p:=⟨w.heap.size,4,none⟩) eG _).setCell (p:=⟨w.heap.size,5,none⟩) eG _
 have C:=hO N
 have p4:=G R eG
 have p5:=G o2 eG
 have p6:=G o3 eG
 have p1:=G p1 eG
 have p2:=G p2 eG
 have p3:=G p3 eG
 rw [t]
 clear G t x0 x1 x2 z0 z1 z2 R o2 o3 T V d1
 have At:CS w (.slice Z nE Y) (.slice A2 nN c2) (.slice l nB m) (.slice A4 O c4) (.slice A5 Q c5) (.slice r nU c) L w4:=⟨by rw [lN]; exact p2,by rw [lB]; exact p3,by rw [lJ]; exact p4,by rw [lK]; exact p5,J,b1,N⟩
 have Au:gH ag 5 36 9 1 aj Led.Entry.sels (fun u=>gN u (.slice l nB m)) (w.heap.size+2) (.slice Z nE Y) E 0 w4:=gH.start (by rw [lE]; exact p1)
 have Av:w4.ownsRow (w.heap.size+2) 45 3 (.slice r nU c) U.length (af ai U):=by rw [lU]; exact p6
 have v0:w4.cell? ⟨w.heap.size,0,none⟩=some (.slice Z nE Y):=J.cell 0
 clear p1 p2 p3 p4 p5 p6 N J b1 C
 go_wp2
 go_loopw [3,32] (fun _ i wr=>∃ j:Nat,i=.int .i64 (j:Int)/\j<=nE/\Hid (CS w (.slice Z nE Y) (.slice A2 nN c2) (.slice l nB m) (.slice A4 O c4) (.slice A5 Q c5) (.slice r nU c) L wr/\gH ag 5 36 9 1 aj Led.Entry.sels (fun u=>gN u (.slice l nB m)) (w.heap.size+2) (.slice Z nE Y) E j wr/\wr.ownsRow (w.heap.size+2) 45 3 (.slice r nU c) U.length (af ai U))) (fun _ i _=>nE - (intOf i).toNat)
 case atStart=>exact⟨0,rfl,Nat.zero_le _,hO ⟨At,Au,Av⟩⟩
 case round =>
  obtain⟨j,rfl,hj,X⟩:=hrel; obtain⟨wy,AI⟩:∃ wy,wy=wr:=⟨_,rfl⟩; subst AI; by_cases Bc:j<nE
  .have Bd:(j:Int)<(nE:Int):=by omega
   have Aj:j<E.length:=by omega
   obtain⟨g,c',hv,Ak,AL,D,I⟩:=X.out.2.1.step (fun x=>aZ x) (f:=4) (by omega) (fun _ _=>rfl) (fun _=>rfl) (by decide) Aj; injection hv with hv1 hv2 hv3
   subst hv1; clear hv2 hv3; obtain⟨A7,d,c7,z,Al,Aa⟩:=Af _ (List.getElem_mem Aj); have Am:=Aa.len; have AM:E[j].1.sels.length<=1000:=hs.s _ (by rw [<-Ah]; exact List.mem_map.2 ⟨_,List.getElem_mem Aj,rfl⟩)
   have H:=X.out.1; have An:w.heap.size+2<=wy.heap.size:=by have:=H.b1.lt; omega
   have fa:∀ p,(ab wy p).cell? ⟨w.heap.size,0,none⟩=some (.slice (some ⟨g,0,none⟩) nE Y):=fun p=>(ap (a:=⟨w.heap.size,0,none⟩) H.b0.lt p).trans (H.b0.cell 0); have fb:∀ p,(ab wy p).cell? ⟨g,j * 5+4,none⟩=some (.slice A7 d c7):=fun p=>by rw [(D _ (aa wy p)).1,z]
   have k7:=hO (fun wx (hx:eD w wx)=>lV A7 d c7 (af aj E[j].1.sels) wx (by rw [gP]; exact Ts.below Aa hx) (by omega) Al.2.2 (oD _))
   have HC:=hO H.bel; have Ab:=hO I; have Ac:=hO D; clear D I H; go_upto_region 6 with fail
   refine aN [([0,1,2,3,4,5,6,7,8],(9,fun v w'=>w'.ownsRow wy.heap.size 9 1 v d (af aj E[j].1.sels)))] [10,11,12] (by kernel_rfl) (by kernel_rfl) (by
    intro x hx; simp only [List.mem_cons,List.not_mem_nil,or_false] at hx; subst hx; exact ic) ?_
   refine aH ?_; simp only [pick,List.getD_cons_zero,List.getD_cons_succ]; repeat (go_big_quiet_step (fail))
   refine wpQuiet_nil ?_; refine⟨_,rfl,rfl,?_,?_⟩
   .intro F A _
    go_simp
    exact⟨rfl,bS (by have:=A.below.size; omega) (k7.out F (HC.out.trans (A.below.mono HC.out.size)))⟩
   intro v7 _ w5 Ad hF; obtain⟨_,R⟩:=hF; have K:=Ad.below; obtain⟨A8,c8,rfl,_,_⟩:=ak R; obtain⟨q1,q2,M,hM⟩:=Ac.out w5 K; rw [z] at q1; have Ao:=hO (X.out.1.step (u:=.slice A8 d c8) (o:=j * 5+4) K Ak hM (.inl rfl)); have Ap:=hO (Ab.out w5 (.slice A8 d c8) K (aG (by rw [<-Am] at R ⊢; exact R) An) (by
    cases hq:(Value.slice A8 d c8).ownBlock with
    | none=>exact .inl hq
    | some b =>
     refine .inr ?_; rw [hq]; intro e; have h1:=(dA R hq).1; have h2:=(dA X.out.1.oB e.symm).2; omega))
   have AO:=hO (dh (a:=⟨g,j * 5+4,none⟩) (x:=.slice A8 d c8) (ae X.out.2.2 K eG) (aC (ae X.out.2.2 K eG) hM (by decide))); clear X fa fb k7 Ac Ab Ad; go_wp2_with fail
   (try rw [am])
   (try go_wp2)
   go_roundw
   case rel=>exact⟨j+1,by go_num,by omega,hO ⟨Ao.out,Ap.out,AO.out⟩⟩
   case measure=>simp [intOf]; omega
  .obtain⟨H,hI,hU⟩:=X.out
   have AP:j=nE:=by omega
   have u5:wy.cell? ⟨w.heap.size,5,none⟩=some (.slice r nU c):=H.b0.cell 5; rw [AP] at hI; have HI:=hO hI; have Aw:=hO H; clear X hI H At Au Av v0; go_wp2; go_loopw [4,51] (fun _ i wr=>∃ k:Nat,i=.int .i64 (k:Int)/\k<=nU/\Hid (CS w (.slice Z nE Y) (.slice A2 nN c2) (.slice l nB m) (.slice A4 O c4) (.slice A5 Q c5) (.slice r nU c) L wr/\gH ag 5 36 9 1 aj Led.Entry.sels (fun u=>gN u (.slice l nB m)) (w.heap.size+2) (.slice Z nE Y) E nE wr/\gH ai 3 45 54 2 aV Led.Bundle.keys (fun _=>True) (w.heap.size+2) (.slice r nU c) U k wr)) (fun _ i _=>nU - (intOf i).toNat)
   case atStart=>exact⟨0,rfl,Nat.zero_le _,hO ⟨Aw.out,HI.out,gH.start hU⟩⟩
   case round =>
    obtain⟨k,rfl,hk,X⟩:=hrel; obtain⟨wx,AQ⟩:∃ wx,wx=wr:=⟨_,rfl⟩; subst AQ; by_cases Be:k<nU
    .have Bf:(k:Int)<(nU:Int):=by omega
     have Aq:k<U.length:=by omega
     obtain⟨g,c',hv,Ak,AL,D,I⟩:=X.out.2.2.step (fun x=>aU x) (f:=2) (by omega) (fun _ _=>rfl) (fun _=>rfl) (by decide) Aq; injection hv with hv1 hv2 hv3
     subst hv1; clear hv2 hv3; obtain⟨A7,d,c7,z,Al,Aa⟩:=Ag _ (List.getElem_mem Aq); have Am:=Aa.len cm (by omega); have AM:U[k].1.keys.length<=1000:=hs.y _ (by rw [<-Ai]; exact List.mem_map.2 ⟨_,List.getElem_mem Aq,rfl⟩)
     have H:=X.out.1; have An:w.heap.size+2<=wx.heap.size:=by have:=H.b1.lt; omega
     have fa:∀ p,(ab wx p).cell? ⟨w.heap.size,5,none⟩=some (.slice (some ⟨g,0,none⟩) nU c):=fun p=>(ap (a:=⟨w.heap.size,5,none⟩) H.b0.lt p).trans (H.b0.cell 5); have fb:∀ p,(ab wx p).cell? ⟨g,k * 3+2,none⟩=some (.slice A7 d c7):=fun p=>by rw [(D _ (aa wx p)).1,z]
     have k7:=hO (fun wz (hz:eD w wz)=>qA A7 d c7 (af aV U[k].1.keys) wz (Es.below Aa hz) (by omega) Al.2.2 (one_jwk _)); have HC:=hO H.bel; have Ab:=hO I; have Ac:=hO D; clear D I H; go_upto_region 11 with fail
     refine aN [([0,1,2,3,4,5,6,7,8],(9,fun v w'=>w'.ownsRow wx.heap.size 54 2 v d (af aV U[k].1.keys)))] [10,11,12] (by kernel_rfl) (by kernel_rfl) (by
      intro x hx; simp only [List.mem_cons,List.not_mem_nil,or_false] at hx; subst hx; exact ic) ?_
     refine aH ?_; simp only [pick,List.getD_cons_zero,List.getD_cons_succ]; repeat (go_big_quiet_step (fail))
     refine wpQuiet_nil ?_; refine⟨_,rfl,rfl,?_,?_⟩
     .intro F A _
      go_simp
      exact⟨rfl,bS (by have:=A.below.size; omega) (k7.out F (HC.out.trans (A.below.mono HC.out.size)))⟩
     intro v7 _ w5 Ad hF; obtain⟨_,R⟩:=hF; have K:=Ad.below; obtain⟨A8,c8,rfl,_,_⟩:=ak R; obtain⟨q1,q2,M,hM⟩:=Ac.out w5 K; rw [z] at q1; have Ao:=hO (X.out.1.step (u:=.slice A8 d c8) (o:=k * 3+2) K Ak hM (.inr rfl)); have Ap:=hO (Ab.out w5 (.slice A8 d c8) K (aG (by rw [<-Am] at R ⊢; exact R) An) trivial)
     have AR:=hO ((X.out.2.1.below K).other (o:=k * 3+2) (u:=.slice A8 d c8) hM (by decide) (by decide)); clear X fa fb k7 Ac Ab Ad; go_wp2_with fail
     (try rw [am])
     (try go_wp2)
     go_roundw
     case rel=>exact⟨k+1,by go_num,by omega,hO ⟨Ao.out,AR.out,Ap.out⟩⟩
     case measure=>simp [intOf]; omega
    .obtain⟨H,⟨E',Ax,Ay,Az,AS⟩,⟨U',A0,A9,AA,AT⟩⟩:=X.out
     have AC:E'.length=E.length:=by have:=congrArg List.length Ax; simpa using this
     have AD:U'.length=U.length:=by have:=congrArg List.length A0; simpa using this
     have Ar:Wk (w.heap.size+2) wx (.slice Z nE Y) (.slice A2 nN c2) (.slice l nB m) (.slice A4 O c4) (.slice A5 Q c5) (.slice r nU c) L E' U' :=
      ⟨by rw [AC]; exact Ay,H.oN,H.oB,H.oJ,H.oK,by rw [AD]; exact A9,Ax.trans Ah,A0.trans Ai,fun p hp=>by
       obtain⟨i,hi,rfl⟩:=List.getElem_of_mem hp; exact Az i (by omega) _ (List.getElem?_eq_getElem hi),fun p hp=>by
       obtain⟨i,hi,rfl⟩:=List.getElem_of_mem hp; exact(AA i (by omega) _ (List.getElem?_eq_getElem hi)).1⟩
     have Bg:=dD H.b0 rfl; obtain⟨AV,As⟩:=cH H.b1 rfl (vs:=[.slice Z nE Y,.slice A2 nN c2,.slice l nB m,.slice A4 O c4,.slice A5 Q c5,.slice r nU c]) rfl Ar.ones; obtain⟨wf,Ae⟩:=eA (wx.setCells (w.heap.size+1) 0 [.slice Z nE Y,.slice A2 nN c2,.slice l nB m,.slice A4 O c4,.slice A5 Q c5,.slice r nU c]); have AF:Wk (w.heap.size+2) wf (.slice Z nE Y) (.slice A2 nN c2) (.slice l nB m) (.slice A4 O c4) (.slice A5 Q c5) (.slice r nU c) L E' U':=by rw [<-Ae]; exact Ar.setCells (by omega) _
     have AW:eD w wf:=by
      rw [<-Ae]; exact((Chg.of_below (S:=[]) H.bel).setCells _ (.inr (by omega))).below (by simp)
     rw [Ae] at AV As; have AX:=As.has (n:=6) rfl; have hA:=As.arr (n:=6) rfl; have AY:=hO (AF.lower (b:=w.heap.size) (by omega)); clear X Ae Ar Ay Az AS A9 AA AT AF HI Aw H; go_wp2; refine bodyPost_ret (dr (P:=prog) Tryz.results27 _ _ (w.heap.size+1) 0 6 _ rfl underlying30 rfl bQ AX) rfl ?_; exact⟨_,_,_,_,_,_,E',U',congrArg (fun a=>Ending.returned (Value.agg a)) hA,AY.out,AW⟩
end
end Go.Proofs.YtmbpnkacggngkaaGreatDoor
