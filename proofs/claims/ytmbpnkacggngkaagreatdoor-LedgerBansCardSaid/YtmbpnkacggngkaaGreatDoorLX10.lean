/- LedDid, LedApG, LedApN, LedDoK, LedApA, JsonA, JwkShelf, JsonB, JwkBuilder (put together by bundle.py: only what is needed). -/
import Derived.Ground.GgwProg
import Derived.Shelf.GgClosure.StringsIndexFuncTop
import Derived.Shelf.GgClosure.StringsRunes
import Derived.Lib.Builder
import Derived.Laws.Externs
import Derived.Test.YtmbpnkacggngkaaGreatDoorLX9
set_option maxRecDepth 100000
set_option maxHeartbeats 16000000
namespace Go.Proofs.YtmbpnkacggngkaaGreatDoor
open Batch
open Tryz
section
open Go.RowKit Mem Led
structure LAt (base gl:Nat) (w:World) (vE vN vB vJ vK vU:Value) (L:Led.Ledger) (E:List (Led.Entry × Value)) (U:List (Led.Bundle × Value)):Prop where
 wk:Wk base w vE vN vB vJ vK vU L E U
 blk:Blk w gl [vE,vN,vB,vJ,vK,vU] 30
 hgl:base<=gl
 hb:base<=w.heap.size
def Did (base gl:Nat) (r:Led.Ledger × Int) (w:World) (x:Ending) (w':World):Prop :=
 x=.returned (.int .i64 r.2)/\Below base w w'/\(r.2=0->∃ vE vN vB vJ vK vU E U,LAt base gl w' vE vN vB vJ vK vU r.1 E U)
theorem apart_new{w:World} {u v B:Value} {b k n:Nat} {e:TypeId} {xs:List Value} (A:gN u v) (D:w.ownsRow b e k u n xs) (E:B.ownBlock=v.ownBlock\/∃ g,w.heap.size<=g/\B.ownBlock=some g):gN u B:=by
 rcases E with h|⟨g,F,h⟩
 .unfold gN at A ⊢
  rw [h]; exact A
 .cases C:u.ownBlock with
  | none=>exact .inl C
  | some b =>
   refine .inr ?_; rw [C,h]; intro e; injection e with e
   have:=(dA D C).2; omega
section
variable {base gl:Nat} {w w':World} {vE vN vB vJ vK vU:Value} {L:Led.Ledger} {E E2:List (Led.Entry × Value)} {U U2:List (Led.Bundle × Value)}
theorem LAt.slotE(H:LAt base gl w vE vN vB vJ vK vU L E U) {l:List Led.Entry} (B:bu ag 5 36 base gl 0 vE E2 w w') (M:E2.map Prod.fst=l) (hi:∀ p∈E2,w.ownsRow base 9 1 p.2 p.1.sels.length (af aj p.1.sels)/\gN p.2 vB) :
  ∃ F,LAt base gl w' F vN vB vJ vK vU { L with entries:=l } E2 U/\Below base w w':=by
 obtain⟨h,G,C,K⟩:=H
 have N:=aC h.oE G (by decide)
 obtain⟨F,I,O,_,_⟩:=B.opened G N
 have A:∀ {e:TypeId} {k n:Nat} {u:Value} {xs:List Value},w.ownsRow base e k u n xs->e≠36->e≠30->w'.ownsRow base e k u n xs:=fun J Q R=>B.keeps J (dM J h.oE Q) (aC J G R)
 exact⟨F,⟨⟨O,A h.oN (by decide) (by decide),A h.oB (by decide) (by decide),A h.oJ (by decide) (by decide),A h.oK (by decide) (by decide),A h.oU (by decide) (by decide),M,h.buns,fun p D=>⟨A (hi p D).1 (by decide) (by decide),(hi p D).2⟩,fun p D=>A (h.keyss p D) (by decide) (by decide)⟩,I,C,Nat.le_trans K B.size⟩,B.below C (fun g C=>(dA h.oE C).1) K⟩
theorem LAt.slotU(H:LAt base gl w vE vN vB vJ vK vU L E U) {l:List Led.Bundle} (B:bu ai 3 45 base gl 5 vU U2 w w') (M:U2.map Prod.fst=l) (hi:∀ p∈U2,w.ownsRow base 54 2 p.2 p.1.keys.length (af aV p.1.keys)) :
  ∃ F,LAt base gl w' vE vN vB vJ vK F { L with bundles:=l } E U2/\Below base w w':=by
 obtain⟨h,G,C,K⟩:=H
 have N:=aC h.oU G (by decide)
 obtain⟨F,I,O,_,_⟩:=B.opened G N
 have A:∀ {e:TypeId} {k n:Nat} {u:Value} {xs:List Value},w.ownsRow base e k u n xs->e≠45->e≠30->w'.ownsRow base e k u n xs:=fun J Q R=>B.keeps J (dM J h.oU Q) (aC J G R)
 exact⟨F,⟨⟨A h.oE (by decide) (by decide),A h.oN (by decide) (by decide),A h.oB (by decide) (by decide),A h.oJ (by decide) (by decide),A h.oK (by decide) (by decide),O,h.ents,M,fun p D=>⟨A (h.sels p D).1 (by decide) (by decide),(h.sels p D).2⟩,fun p D=>A (hi p D) (by decide) (by decide)⟩,I,C,Nat.le_trans K B.size⟩,B.below C (fun g C=>(dA h.oU C).1) K⟩
theorem LAt.slotN(H:LAt base gl w vE vN vB vJ vK vU L E U) {l:List Led.Node} (B:bu ac 5 40 base gl 1 vN l w w') :
  ∃ F,LAt base gl w' vE F vB vJ vK vU { L with nodes:=l } E U/\Below base w w':=by
 obtain⟨h,G,C,K⟩:=H
 have M:=aC h.oN G (by decide)
 obtain⟨F,I,N,_,_⟩:=B.opened G M
 have A:∀ {e:TypeId} {k n:Nat} {u:Value} {xs:List Value},w.ownsRow base e k u n xs->e≠40->e≠30->w'.ownsRow base e k u n xs:=fun J O Q=>B.keeps J (dM J h.oN O) (aC J G Q)
 exact⟨F,⟨⟨A h.oE (by decide) (by decide),N,A h.oB (by decide) (by decide),A h.oJ (by decide) (by decide),A h.oK (by decide) (by decide),A h.oU (by decide) (by decide),h.ents,h.buns,fun p D=>⟨A (h.sels p D).1 (by decide) (by decide),(h.sels p D).2⟩,fun p D=>A (h.keyss p D) (by decide) (by decide)⟩,I,C,Nat.le_trans K B.size⟩,B.below C (fun g C=>(dA h.oN C).1) K⟩
theorem LAt.slotJ(H:LAt base gl w vE vN vB vJ vK vU L E U) {l:List Led.Join} (B:bu ao 4 38 base gl 3 vJ l w w') :
  ∃ F,LAt base gl w' vE vN vB F vK vU { L with joins:=l } E U/\Below base w w':=by
 obtain⟨h,G,C,K⟩:=H
 have M:=aC h.oJ G (by decide)
 obtain⟨F,I,N,_,_⟩:=B.opened G M
 have A:∀ {e:TypeId} {k n:Nat} {u:Value} {xs:List Value},w.ownsRow base e k u n xs->e≠38->e≠30->w'.ownsRow base e k u n xs:=fun J O Q=>B.keeps J (dM J h.oJ O) (aC J G Q)
 exact⟨F,⟨⟨A h.oE (by decide) (by decide),A h.oN (by decide) (by decide),A h.oB (by decide) (by decide),N,A h.oK (by decide) (by decide),A h.oU (by decide) (by decide),h.ents,h.buns,fun p D=>⟨A (h.sels p D).1 (by decide) (by decide),(h.sels p D).2⟩,fun p D=>A (h.keyss p D) (by decide) (by decide)⟩,I,C,Nat.le_trans K B.size⟩,B.below C (fun g C=>(dA h.oJ C).1) K⟩
theorem LAt.slotK(H:LAt base gl w vE vN vB vJ vK vU L E U) {l:List Led.Key} (B:bu aq 4 42 base gl 4 vK l w w') :
  ∃ F,LAt base gl w' vE vN vB vJ F vU { L with keys:=l } E U/\Below base w w':=by
 obtain⟨h,G,C,K⟩:=H
 have M:=aC h.oK G (by decide)
 obtain⟨F,I,N,_,_⟩:=B.opened G M
 have A:∀ {e:TypeId} {k n:Nat} {u:Value} {xs:List Value},w.ownsRow base e k u n xs->e≠42->e≠30->w'.ownsRow base e k u n xs:=fun J O Q=>B.keeps J (dM J h.oK O) (aC J G Q)
 exact⟨F,⟨⟨A h.oE (by decide) (by decide),A h.oN (by decide) (by decide),A h.oB (by decide) (by decide),A h.oJ (by decide) (by decide),N,A h.oU (by decide) (by decide),h.ents,h.buns,fun p D=>⟨A (h.sels p D).1 (by decide) (by decide),(h.sels p D).2⟩,fun p D=>A (h.keyss p D) (by decide) (by decide)⟩,I,C,Nat.le_trans K B.size⟩,B.below C (fun g C=>(dA h.oK C).1) K⟩
theorem LAt.slotB(H:LAt base gl w vE vN vB vJ vK vU L E U) {l:List Txt} (C:bu aj 1 9 base gl 2 vB l w w') :
  ∃ G,LAt base gl w' vE vN G vJ vK vU { L with bans:=l } E U/\Below base w w':=by
 obtain⟨h,D,F,M⟩:=H
 have N:=aC h.oB D (by decide)
 obtain⟨G,I,O,_,J⟩:=C.opened D N
 have A:∀ {e:TypeId} {k n:Nat} {u:Value} {xs:List Value},w.ownsRow base e k u n xs->e≠9->e≠30->w'.ownsRow base e k u n xs:=fun K Q R=>C.keeps K (dM K h.oB Q) (aC K D R)
 exact⟨G,⟨⟨A h.oE (by decide) (by decide),A h.oN (by decide) (by decide),O,A h.oJ (by decide) (by decide),A h.oK (by decide) (by decide),A h.oU (by decide) (by decide),h.ents,h.buns,fun p B=>⟨C.keeps (h.sels p B).1 (h.sels p B).2 (aC (h.sels p B).1 D (by decide)),apart_new (h.sels p B).2 (h.sels p B).1 J⟩,fun p B=>A (h.keyss p B) (by decide) (by decide)⟩,I,F,Nat.le_trans M C.size⟩,C.below F (fun g F=>(dA h.oB F).1) M⟩
theorem Did.err{k:Int} {x:Ending} (A:base<=w.heap.size) (B:k≠0) (h:x=.returned (.int .i64 k)/\eD w w'):Did base gl (L,k) w x w':=⟨h.1,h.2.mono A,fun e=>absurd e B⟩
theorem Did.ok{L':Led.Ledger} {vE vN vB vJ vK vU:Value} {E:List (Led.Entry × Value)} {U:List (Led.Bundle × Value)} (h:LAt base gl w' vE vN vB vJ vK vU L' E U) (A:Below base w w'):Did base gl (L',0) w (.returned (.int .i64 0)) w':=⟨rfl,A,fun _=>⟨vE,vN,vB,vJ,vK,vU,E,U,h⟩⟩
end
structure Sized (o:Led.Op):Prop where
 nm:o.name.length<=9223372036854775807
 ep:o.entry.path.length<=9223372036854775807
 er:o.entry.parent.length<=9223372036854775807
 es:∀ x∈o.entry.sels,x.length<=9223372036854775807
 el:o.entry.sels.length<=1000
 jt:o.join.text.length<=9223372036854775807
 jn:o.join.name.length<=9223372036854775807
 nn:o.node.name.length<=9223372036854775807
 ud:o.bundle.domain.length<=9223372036854775807
 ul:o.bundle.keys.length<=1000
theorem Led.Ledger.Wf.small{L:Led.Ledger} (h:L.Wf):L.Small:=by
 have:=h.e3; have:=h.n3; have:=h.b3; have:=h.j3; have:=h.k3; have:=h.u3
 exact⟨by omega,by omega,by omega,by omega,by omega,by omega,h.e4,h.u2⟩
section
variable {base gl:Nat} {w w':World} {vE vN vB vJ vK vU sv kv:Value} {L:Led.Ledger} {E E2:List (Led.Entry × Value)} {U U2:List (Led.Bundle × Value)} {o:Led.Op}
theorem tZ{α β:Type} {E:List (α × β)} {l:List α} (h:E.map Prod.fst=l) (p:α->Bool):(E.any fun x=>p x.1)=l.any p:=by
 subst h
 rw [List.any_map]
 rfl
theorem si{α β:Type} {E:List (α × β)} {l:List α} (h:E.map Prod.fst=l) (p:α->Bool):(E.eraseP fun x=>p x.1).map Prod.fst=l.eraseP p:=by
 subst h
 rw [List.eraseP_map]
 rfl
theorem ins_fst{α β:Type} {c:α->α->Int} {E:List (α × β)} {l:List α} (h:E.map Prod.fst=l) (x:α) (v:β):(ins (fun a b:α × β=>c a.1 b.1) (x,v) E).map Prod.fst=ins c x l:=by
 subst h
 unfold ins
 rw [List.map_append,List.map_cons,List.filter_map,List.filter_map]
 rfl
theorem rO{α β:Type} {c:α->α->Int} {E:List (α × β)} {l:List α} (h:E.map Prod.fst=l) (A:bd c l):bd (fun a b:α × β=>c a.1 b.1) E:=by
 subst h
 exact List.pairwise_map.1 A
theorem did_gone(H:LAt base gl w vE vN vB vJ vK vU L E U) (D:L.Wf):Calls prog 43 #[.pointer (some ⟨gl,0,none⟩),.agg (ah o sv kv).toArray] w (Did base gl (fZ L o.n) w):=by
 have C:E.length=L.entries.length:=by rw [<-H.wk.ents,List.length_map]
 have M:=D.e3
 refine(rl gl _ _ o.n E base vE w (by omega) rfl H.blk rfl H.wk.oE (aC H.wk.oE H.blk (by decide)) (fun y F=>?_)).mono ?_
 .intro u G
  exact oG (w:=w) (E:=E) (fun p B=>dg (H.wk.sels p B).1) u (List.mem_flatten.2 ⟨ag y,List.mem_map.2 ⟨y,F,rfl⟩,G⟩)
 intro x w' A
 unfold bJ at A
 rw [tZ (l:=L.entries) H.wk.ents (fun e=>e.n==o.n)] at A
 unfold fZ
 split at A
 .obtain⟨rfl,I⟩:=A
  rename_i hc
  rw [if_pos hc]; obtain⟨N,J,K⟩:=H.slotE I (si (l:=L.entries) H.wk.ents (fun e=>e.n==o.n)) (fun p B=>H.wk.sels p (bU B)); exact Did.ok J K
 .rename_i hc
  rw [if_neg hc]; exact Did.err H.hb (by decide) A
theorem did_unbind(H:LAt base gl w vE vN vB vJ vK vU L E U) (D:L.Wf):Calls prog 54 #[.pointer (some ⟨gl,0,none⟩),.agg (ah o sv kv).toArray] w (Did base gl (cP L o.name) w):=by
 have C:U.length=L.bundles.length:=by rw [<-H.wk.buns,List.length_map]
 have M:=D.u3
 refine(unbind_any gl _ _ o.name U base vU w (by omega) rfl H.blk rfl H.wk.oU (aC H.wk.oU H.blk (by decide)) (fun y F=>?_)).mono ?_
 .intro u G
  exact oH (w:=w) (U:=U) (fun p B=>aY (H.wk.keyss p B)) u (List.mem_flatten.2 ⟨ai y,List.mem_map.2 ⟨y,F,rfl⟩,G⟩)
 intro x w' A
 unfold bJ at A
 rw [tZ (l:=L.bundles) H.wk.buns (fun e=>e.domain==o.name)] at A
 unfold cP
 split at A
 .obtain⟨rfl,I⟩:=A
  rename_i hc
  rw [if_pos hc]; obtain⟨N,J,K⟩:=H.slotU I (si (l:=L.bundles) H.wk.buns (fun e=>e.domain==o.name)) (fun p B=>H.wk.keyss p (bU B)); exact Did.ok J K
 .rename_i hc
  rw [if_neg hc]; exact Did.err H.hb (by decide) A
theorem did_lift(H:LAt base gl w vE vN vB vJ vK vU L E U) (B:L.Wf):Calls prog 48 #[.pointer (some ⟨gl,0,none⟩),.agg (ah o sv kv).toArray] w (Did base gl (gJ L o.name) w):=by
 have G:=B.b3
 refine(lift_any gl _ _ o.name L.bans base vB w (by omega) rfl H.blk rfl H.wk.oB (aC H.wk.oB H.blk (by decide))).mono ?_
 intro x w' A
 unfold bJ at A
 unfold gJ
 split at A
 .obtain⟨rfl,C⟩:=A
  rename_i hc
  rw [if_pos hc]; obtain⟨I,D,F⟩:=H.slotB C; exact Did.ok D F
 .rename_i hc
  rw [if_neg hc]; exact Did.err H.hb (by decide) A
theorem lc{α:Type} {enc:α->List Value} {l:List α} (h:∀ u∈af enc l,u.oneCell'=true):∀ y∈l,∀ u∈enc y,u.oneCell'=true:=fun y A u B=>h u (List.mem_flatten.2 ⟨enc y,List.mem_map.2 ⟨y,A,rfl⟩,B⟩)
theorem did_evict(H:LAt base gl w vE vN vB vJ vK vU L E U) (B:L.Wf):Calls prog 49 #[.pointer (some ⟨gl,0,none⟩),.agg (ah o sv kv).toArray] w (Did base gl (eX L o.name) w):=by
 have G:=B.n3
 refine(sg gl _ _ o.name L.nodes base vN w (by omega) rfl H.blk rfl H.wk.oN (aC H.wk.oN H.blk (by decide)) (lc (pI _))).mono ?_
 intro x w' A
 unfold bJ at A
 unfold eX
 split at A
 .obtain⟨rfl,C⟩:=A
  rename_i hc
  rw [if_pos hc]; obtain⟨I,D,F⟩:=H.slotN C; exact Did.ok D F
 .rename_i hc
  rw [if_neg hc]; exact Did.err H.hb (by decide) A
theorem did_drop(H:LAt base gl w vE vN vB vJ vK vU L E U) (B:L.Wf):Calls prog 52 #[.pointer (some ⟨gl,0,none⟩),.agg (ah o sv kv).toArray] w (Did base gl (gK L o.name) w):=by
 have G:=B.k3
 refine(drop_any gl _ _ o.name L.keys base vK w (by omega) rfl H.blk rfl H.wk.oK (aC H.wk.oK H.blk (by decide)) (lc (oF _))).mono ?_
 intro x w' A
 unfold bJ at A
 unfold gK
 split at A
 .obtain⟨rfl,C⟩:=A
  rename_i hc
  rw [if_pos hc]; obtain⟨I,D,F⟩:=H.slotK C; exact Did.ok D F
 .rename_i hc
  rw [if_neg hc]; exact Did.err H.hb (by decide) A
theorem pK(H:LAt base gl w vE vN vB vJ vK vU L E U) {n:Led.Node} {x:Ending} (A:bK base gl vN L.nodes L.bans n w x w') :
  x=.returned (.int .i64 (aX L n).2)/\Below base w w'/\((aX L n).2=0->∃ B l,(aX L n).1={ L with nodes:=l }/\LAt base gl w' vE B vB vJ vK vU { L with nodes:=l } E U):=by
 unfold bK at A
 unfold aX
 split at A
 .rename_i h1
  rw [if_pos h1]; split at A
  .rename_i h2
   rw [if_pos h2]; exact⟨A.1,A.2.mono H.hb,fun e=>by cases e⟩
  .rename_i h2
   rw [if_neg h2]; unfold fI at A
   cases C:put cN 4 n L.nodes with
   | none =>
    rw [C] at A; exact⟨A.1,A.2.mono H.hb,fun e=>by cases e⟩
   | some l =>
    rw [C] at A; obtain⟨rfl,D⟩:=A; obtain⟨B,F,G⟩:=H.slotN D; exact⟨rfl,G,fun _=>⟨B,l,rfl,F⟩⟩
 .rename_i h1
  rw [if_neg h1]; exact⟨A.1,A.2.mono H.hb,fun e=>by cases e⟩
theorem did_node(H:LAt base gl w vE vN vB vJ vK vU L E U) (A:L.Wf) (B:Sized o):Calls prog 46 #[.pointer (some ⟨gl,0,none⟩),.agg (ah o sv kv).toArray] w (Did base gl (aX L o.node) w):=by
 refine(nQ gl o sv kv _ L.nodes L.bans base vN vB w B.nn A.n3 A.b3 A.n1 H.hb H.blk rfl rfl H.wk.oN (aC H.wk.oN H.blk (by decide)) H.wk.oB).mono ?_
 intro x w' C
 obtain⟨D,F,G⟩:=pK H C
 refine⟨D,F,fun e=>?_⟩
 obtain⟨K,l,I,J⟩:=G e
 rw [I]
 exact⟨_,_,_,_,_,_,_,_,J⟩
theorem did_seq(H:LAt base gl w vE vN vB vJ vK vU L E U) (C:L.Wf):Calls prog 55 #[.pointer (some ⟨gl,0,none⟩),.agg (ah o sv kv).toArray] w (Did base gl (iC L o.name o.n) w):=by
 have I:=C.n3
 refine(seq_any gl _ _ o.name o.n L.nodes base vN w (by omega) rfl rfl H.blk rfl H.wk.oN (aC H.wk.oN H.blk (by decide))).mono ?_
 intro x w' A
 unfold iD at A
 unfold iC
 cases B:L.nodes.find? (fun d=>d.name==o.name) with
 | none =>
  rw [B] at A; exact Did.err H.hb (by decide) A
 | some d =>
  rw [B] at A; simp only [] at A ⊢; split at A
  .rename_i hc
   rw [if_pos hc]; exact Did.err H.hb (by decide) A
  .rename_i hc
   rw [if_neg hc]; obtain⟨rfl,D⟩:=A; obtain⟨J,F,G⟩:=H.slotN D; exact Did.ok F G
theorem did_prepare(H:LAt base gl w vE vN vB vJ vK vU L E U) (B:L.Wf):Calls prog 50 #[.pointer (some ⟨gl,0,none⟩),.agg (ah o sv kv).toArray] w (Did base gl (dp L o.key) w):=by
 refine(prepare_any gl o sv kv _ L.keys base vK w B.k3 H.hb H.blk rfl H.wk.oK (aC H.wk.oK H.blk (by decide))).mono ?_
 intro x w' A
 unfold eV at A
 unfold dp
 split at A
 .rename_i hc
  rw [if_pos hc]; exact Did.err H.hb (by decide) A
 .rename_i hc
  rw [if_neg hc]; split at A
  .rename_i hc
   rw [if_pos hc]; exact Did.err H.hb (by decide) A
  .rename_i hc
   rw [if_neg hc]; split at A
   .rename_i hc
    rw [if_pos hc]; exact Did.err H.hb (by decide) A
   .rename_i hc
    rw [if_neg hc]; obtain⟨rfl,C⟩:=A; obtain⟨G,D,F⟩:=H.slotK C; exact Did.ok D F
theorem did_active(H:LAt base gl w vE vN vB vJ vK vU L E U) (B:L.Wf):Calls prog 51 #[.pointer (some ⟨gl,0,none⟩),.agg (ah o sv kv).toArray] w (Did base gl (dq L o.n) w):=by
 refine(t5 gl o sv kv _ L.keys base vK w B.k3 H.blk rfl H.wk.oK (aC H.wk.oK H.blk (by decide))).mono ?_
 intro x w' A
 unfold fh at A
 unfold dq
 split at A
 .rename_i hc
  rw [if_pos hc]; split at A
  .rename_i hc
   rw [if_pos hc]; obtain⟨rfl,C⟩:=A; obtain⟨G,D,F⟩:=H.slotK C; exact Did.ok D F
  .rename_i hc
   rw [if_neg hc]; exact Did.err H.hb (by decide) A
 .rename_i hc
  rw [if_neg hc]; exact Did.err H.hb (by decide) A
theorem did_token(H:LAt base gl w vE vN vB vJ vK vU L E U) (C:L.Wf) (B:Sized o):Calls prog 44 #[.pointer (some ⟨gl,0,none⟩),.agg (ah o sv kv).toArray] w (Did base gl (dE L o.join) w):=by
 refine(putJoin_any gl o sv kv _ L.joins base vJ w B.jt B.jn C.j3 H.hb H.blk rfl H.wk.oJ (aC H.wk.oJ H.blk (by decide))).mono ?_
 intro x w' A
 unfold gY at A
 unfold dE
 split at A
 .rename_i hc
  rw [if_pos hc]; exact Did.err H.hb (by decide) A
 .rename_i hc
  rw [if_neg hc]; split at A
  .rename_i hc
   rw [if_pos hc]; exact Did.err H.hb (by decide) A
  .rename_i hc
   rw [if_neg hc]; split at A
   .rename_i hc
    rw [if_pos hc]; exact Did.err H.hb (by decide) A
   .rename_i hc
    rw [if_neg hc]; obtain⟨rfl,D⟩:=A; obtain⟨I,F,G⟩:=H.slotJ D; exact Did.ok F G
theorem did_ban(H:LAt base gl w vE vN vB vJ vK vU L E U) (G:L.Wf) (K:Sized o):Calls prog 47 #[.pointer (some ⟨gl,0,none⟩),.agg (ah o sv kv).toArray] w (Did base gl (cX L o.name) w):=by
 refine(ban_any gl o sv kv _ L.nodes L.bans base vN vB w K.nm G.n3 G.b3 G.b1 H.hb H.blk rfl rfl H.wk.oN (aC H.wk.oN H.blk (by decide)) H.wk.oB (aC H.wk.oB H.blk (by decide)) (dM H.wk.oN H.wk.oB (by decide))).mono ?_
 intro x w' B
 unfold fG at B
 unfold cX
 split at B
 .rename_i hc
  rw [if_pos hc]; split at B
  .rename_i hc
   rw [if_pos hc]; exact Did.err H.hb (by decide) B
  .rename_i hc
   rw [if_neg hc]
   cases J:put ord 8 o.name L.bans with
   | none =>
    rw [J] at B; exact Did.err H.hb (by decide) B
   | some l =>
    rw [J] at B; obtain⟨rfl,S,x',M,F⟩:=B; obtain⟨N,C,D⟩:=H.slotB M; unfold bJ at F; split at F
    .obtain⟨_,I⟩:=F
     obtain⟨T,O,A⟩:=C.slotN I; exact Did.ok O (D.trans A)
    .rename_i hn
     have A:=F.2; have Q:L.nodes.eraseP (fun n=>n.name==o.name)=L.nodes:=List.eraseP_of_forall_not (fun a R=>by
      intro h; exact hn (List.any_eq_true.2 ⟨a,R,h⟩))
     rw [Q]; refine Did.ok (vE:=vE) (vN:=vN) (vB:=N) (vJ:=vJ) (vK:=vK) (vU:=vU) (E:=E) (U:=U) ⟨C.wk.below A,C.blk.below A,C.hgl,Nat.le_trans C.hb A.size⟩ (D.trans (A.mono C.hb))
 .rename_i hc
  rw [if_neg hc]; exact Did.err H.hb (by decide) B
theorem did_join(H:LAt base gl w vE vN vB vJ vK vU L E U) (D:L.Wf) (N:Sized o):Calls prog 45 #[.pointer (some ⟨gl,0,none⟩),.agg (ah o sv kv).toArray] w (Did base gl (eO L o.name o.node) w):=by
 refine(useJoin_any gl o sv kv _ L.nodes L.bans L.joins base vN vB vJ w N.nn D.n3 D.b3 D.j3 D.n1 H.hb H.blk rfl rfl rfl H.wk.oN (aC H.wk.oN H.blk (by decide)) H.wk.oB H.wk.oJ (aC H.wk.oJ H.blk (by decide)) (dM H.wk.oJ H.wk.oN (by decide))).mono ?_
 intro x w' A
 unfold gL at A
 unfold eO
 cases K:L.joins.find? (fun j=>j.text==o.name) with
 | none =>
  rw [K] at A; exact Did.err H.hb (by decide) A
 | some j =>
  rw [K] at A; simp only [] at A ⊢; split at A
  .rename_i hc
   rw [if_pos hc]; exact Did.err H.hb (by decide) A
  .rename_i hc
   rw [if_neg hc]; split at A
   .rename_i hc
    rw [if_pos hc]; rcases A with⟨rfl,T,F,O⟩|⟨hx,F⟩
    .obtain⟨B,G,M⟩:=pK H F
     have C:(aX L o.node).2=0:=by injection B with B; injection B with _ B; exact B.symm
     obtain⟨V,l,Q,R⟩:=M C; obtain⟨X,S,I⟩:=R.slotJ O; rw [C,Q]; exact Did.ok S (G.trans I)
    .obtain⟨B,G,M⟩:=pK H F
     have C:(aX L o.node).2≠0:=fun e=>hx (by rw [B,e]); have J:((aX L o.node).2==0)=false:=by simpa using C
     simp only [J]; exact⟨B,G,fun e=>absurd e C⟩
   .rename_i hc
    rw [if_neg hc]; exact Did.err H.hb (by decide) A
theorem did_entry(H:LAt base gl w vE vN vB vJ vK vU L E U) (G:L.Wf) (F:Sized o) (D:w.ownsRow base 9 1 sv o.entry.sels.length (af aj o.entry.sels)) (I:gN sv vB):Calls prog 42 #[.pointer (some ⟨gl,0,none⟩),.agg (ah o sv kv).toArray] w (Did base gl (em L o.entry) w):=by
 have K:E.length=L.entries.length:=by rw [<-H.wk.ents,List.length_map]
 have Q:=G.e3
 refine(tt gl o sv kv _ E base vE w (dg D) F.el F.es F.ep F.er (by omega) (rO H.wk.ents G.e1) (fun p C=>may_n (G.e2 _ (by rw [<-H.wk.ents]; exact List.mem_map.2 ⟨p,C,rfl⟩))) (fun p C=>?_) H.hb H.blk rfl H.wk.oE (aC H.wk.oE H.blk (by decide))).mono ?_
 .obtain⟨A,c,h,_⟩:=ak (H.wk.sels p C).1
  rw [h]; rfl
 intro x w' B
 unfold jw at B
 unfold em
 split at B
 .rename_i hc
  rw [if_pos hc]; have hi:(ins cEp (o.entry,sv) E).map Prod.fst=ins cE o.entry L.entries:=ins_fst H.wk.ents o.entry sv; have J:(ins cEp (o.entry,sv) E).length=(ins cE o.entry L.entries).length:=by rw [<-hi,List.length_map]
  unfold fI put at B; unfold put; rw [J] at B; split at B
  .rename_i l hl
   split at hl
   .rename_i hle
    injection hl with hl
    subst hl; rw [if_pos hle]; obtain⟨rfl,M⟩:=B; obtain⟨R,N,O⟩:=H.slotE M hi (fun p C=>by
     rcases gj C with rfl|C
     .exact⟨D,I⟩
     .exact H.wk.sels p C)
    exact Did.ok N O
   .cases hl
  .rename_i hl
   split at hl
   .cases hl
   .rename_i hle
    rw [if_neg hle]; exact Did.err H.hb (by decide) B
 .rename_i hc
  rw [if_neg hc]; exact Did.err H.hb (by decide) B
end
end
section
open Go.RowKit Mem Led
theorem cZ.len{w:World} {cs:List Value} {L:Led.Ledger} {E:List (Led.Entry × Value)} {U:List (Led.Bundle × Value)} (h:cZ w cs L E U):cs.length=6:=by
 obtain⟨⟨vE,vN,vB,vJ,vK,vU,rfl,_⟩,_⟩:=h
 rfl
theorem Blk.lower{w w':World} {g B:Nat} {cs:List Value} {t:TypeId} (h:Blk w g cs t) (A:Below B w w') (C:g<B):Blk w' g cs t:=by
 unfold Blk at *
 rw [A.block g C]
 exact h
def qM (L:Led.Ledger) (r:Led.Ledger × Int):Led.Ledger:=if r.2=0 then r.1 else L
def iG (D:Led.Ledger × Int->Prop) (L:Led.Ledger) (w:World) (x:Ending) (w':World):Prop :=
 ∃ r,D r/\∃ vE vN vB vJ vK vU E U,x=.returned (.tuple #[.agg #[vE,vN,vB,vJ,vK,vU],.int .i64 r.2])/\Wk w.heap.size w' vE vN vB vJ vK vU (qM L r) E U/\eD w w'
def Doer (F:FuncId) (w:World) (L:Led.Ledger) (o:Led.Op) (D:Led.Ledger × Int->Prop):Prop :=
 ∀ base gl W vE vN vB vJ vK vU E U sv kv,w.heap.size<=base->eD w W->LAt base gl W vE vN vB vJ vK vU L E U->W.ownsRow base 9 1 sv o.entry.sels.length (af aj o.entry.sels)->gN sv vB ->
  W.ownsRow base 54 2 kv o.bundle.keys.length (af aV o.bundle.keys)->Calls prog F #[.pointer (some ⟨gl,0,none⟩),.agg (ah o sv kv).toArray] W fun x w'=>∃ r,D r/\Did base gl r W x w'
theorem bA(cs:List Value) (L:Led.Ledger) (E:List (Led.Entry × Value)) (U:List (Led.Bundle × Value)) (o:Led.Op) (sv kv:Value) (F:FuncId) (D:Led.Ledger × Int->Prop) (w:World) (hL:cZ w cs L E U) (hs:L.Small) (AE:bm w sv o.entry.sels) (AF:a8 aV 2 w kv o.bundle.keys)
  (AU:o.entry.sels.length<=1000) (AV:o.bundle.keys.length<=1000) (hK:((doL.findIdx? fun p=>o.kind==p.1).bind fun n=>doL[n]?.map fun p=>p.2)=some (.func (.func F) #[] #[]))
  (eg:∀ args w,(callFunc F args).run prog w=.ok (.enter F args) w) (AG:Doer F w L o D) :
  Calls prog 14 #[.agg cs.toArray,.agg (ah o sv kv).toArray] w (iG D L w):=by
 obtain⟨j,G,k,rfl,fs,ts⟩:=AE
 obtain⟨l,O,m,rfl,fk,tk⟩:=AF
 have AH:=ts.len
 have AI:=tk.len cm (by omega)
 obtain⟨W,hW⟩:=eA (((w.alloc (.cells cs.toArray 30)).alloc (.cells (ah o (.slice j G k) (.slice l O m)).toArray 47)).alloc (.cells (aE (.slice none 0 0)).toArray 30))
 have b0:Blk W w.heap.size cs 30:=by rw [<-hW]; exact((Blk.new _ _ _).alloc _).alloc _
 have b1:Blk W (w.heap.size+1) (ah o (.slice j G k) (.slice l O m)) 47:=by
  have:=Blk.new (w.alloc (.cells cs.toArray 30)) (ah o (.slice j G k) (.slice l O m)) 47; rw [<-hW]; exact Blk.alloc (by simpa using this) _
 have b2:Blk W (w.heap.size+2) (aE (.slice none 0 0)) 30:=by
  have:=Blk.new ((w.alloc (.cells cs.toArray 30)).alloc (.cells (ah o (.slice j G k) (.slice l O m)).toArray 47)) (aE (.slice none 0 0)) 30; rw [<-hW]; simpa using this
 have At:eD w W:=by rw [<-hW]; exact(eH.alloc (by simp) _).alloc (by simp; omega) _
 have AJ:W.heap.size=w.heap.size+3:=by rw [<-hW]; simp
 have T:=sr W.drew
 have Ah:(Instr.lookup 73 (.map (some (w.heap.size+3))) (.int .i64 o.kind) false).run prog (W.alloc (mo 20)).drew=.ok (.func (.func F) #[] #[]) (W.alloc (mo 20)).drew:=by
  have:=look_doer W.drew o.kind F hK; rw [show W.drew.heap.size=w.heap.size+3 from AJ] at this; exact this
 have Au:(ah o (.slice j G k) (.slice l O m))[0]?=some (.int .i64 o.kind):=rfl
 have m0:W.cell? ⟨w.heap.size+1,0,none⟩=some (.int .i64 o.kind):=(b1.cell 0).trans Au
 have m1:∀ o',(W.alloc o').cell? ⟨w.heap.size+1,0,none⟩=some (.int .i64 o.kind):=fun o'=>((b1.alloc o').cell 0).trans Au
 obtain⟨ops,B⟩:=eC (ah o (.slice j G k) (.slice l O m))
 have Ai:ops[7]?=some (.slice j G k):=by rw [<-B.out]; rfl
 have Y:ops[23]?=some (.slice l O m):=by rw [<-B.out]; rfl
 have Aj:ops.length=24:=by rw [<-B.out]; rfl
 rw [B.out] at b1 hW ⊢
 have HW:=hO hW
 unfold aE at HW
 clear hW
 go_enter func14,ntmps14
 go_upto_region 1 with fail
 rw [HW.out]
 go_cut [6] (fun s6 wx=>s6=.func (.func F) #[] #[]/\eD W wx)
 case first =>
  go_region_with (go_at_call 26; refine T.mono ?_; rintro e w1 ⟨rfl,rfl⟩)
  all_goals
   go_wp2_with fail
   go_meet
   case rel=>exact⟨rfl,((Below.refl _ _).drew).alloc eG _⟩
 case rest =>
  obtain⟨rfl,V⟩:=hcut; have c0:=b0.below V; have c1:=b1.below V; have c2:=b2.below V; have Al:eD w wc:=At.trans (V.mono At.size); have Av:=hL.below Al; have Z:=dD c0 hL.len; have Aw:=kP cs L E U wc Av hs; have AS:∀ W,(Go.binOp .eql 72 (.func (.func F) #[] #[]) .nilFunc).run prog W=.ok (.bool false) W:=fun W=>by kernel_rfl
  have AK:w.heap.size+3<=wc.heap.size:=by have:=V.size; omega
  clear Ah T m0 m1 HW b0 b1 b2 V; go_wp2_with fail
  refine Aw.mono ?_; rintro e w2 ⟨vE,vN,vB,vJ,vK,vU,E1,U1,rfl,Am,X⟩; have d0:=c0.below X; have d1:=c1.below X; have d2:=c2.below X; have Aa:eD w w2:=Al.trans (X.mono Al.size); have bn:=Blk.new w2 (aE (.slice none 0 0)) 30; obtain⟨Ax,B3⟩:=cH bn rfl (vs:=[vE,vN,vB,vJ,vK,vU]) rfl Am.ones; obtain⟨wn,An⟩:=eA ((w2.alloc (.cells (aE (.slice none 0 0)).toArray 30)).setCells w2.heap.size 0 [vE,vN,vB,vJ,vK,vU]); have c:Chg [] w2 wn:=by rw [<-An]; exact((Chg.refl _ _).alloc _).setCells _ (.inr eG)
  rw [An] at Ax B3; unfold aE at Ax; have e0:=d0.chg c (by simp); have e1:=d1.chg c (by simp); have e2:=d2.chg c (by simp); have q:=c.below (fun _ h=>by cases h); have d:Wk (w.heap.size+3) wn vE vN vB vJ vK vU L E1 U1:=(Am.below q).lower AK; have f:eD w wn:=Aa.trans (q.mono Aa.size); have Ay:w.heap.size+3<=wn.heap.size:=by have:=q.size; have:=X.size; omega
  have AL:w.heap.size+3<=w2.heap.size:=by have:=X.size; omega
  clear Z Aw c0 c1 c2 d0 d1 d2 bn An c q Av Am; have f7:∀ p,(ab wn p).cell? ⟨w.heap.size+1,7,none⟩=some (.slice j G k):=fun p=>(ap (a:=⟨w.heap.size+1,7,none⟩) e1.lt p).trans ((e1.cell 7).trans Ai); have AM:∀ p,(ab wn p).cell? ⟨w.heap.size+1,23,none⟩=some (.slice l O m):=fun p=>(ap (a:=⟨w.heap.size+1,23,none⟩) e1.lt p).trans ((e1.cell 23).trans Y); have kS:=hO (fun wx (hx:eD w wx)=>lV j G k (af aj o.entry.sels) wx (by rw [gP]; exact Ts.below ts hx) (by omega) fs.2.2 (oD _))
  have kK:=hO (fun wx (hx:eD w wx)=>qA l O m (af aV o.bundle.keys) wx (Es.below tk hx) (by omega) fk.2.2 (one_jwk _)); have HB:=hO f; go_upto_region 5 with fail
  refine aN [([0,1,2,4,5,6],(3,fun v w'=>w'.ownsRow wn.heap.size 9 1 v G (af aj o.entry.sels))),([8,9],(7,fun v w'=>w'.ownsRow wn.heap.size 54 2 v O (af aV o.bundle.keys)))] [10,11,12,13] (by kernel_rfl) (by kernel_rfl) (by
   intro x hx; simp only [List.mem_cons,List.not_mem_nil,or_false] at hx; rcases hx with rfl|rfl <;> exact ic) ?_
  refine aH ?_; simp only [pick,List.getD_cons_zero,List.getD_cons_succ]; repeat (go_big_quiet_step (fail))
  refine wpQuiet_nil ?_; refine⟨_,rfl,rfl,?_,?_⟩
  .intro w1 g _
   go_simp
   exact⟨rfl,bS (by have:=g.below.size; omega) (kS.out w1 (HB.out.trans (g.below.mono HB.out.size)))⟩
  intro v1 _; refine aH ?_; simp only [pick,List.getD_cons_zero,List.getD_cons_succ,List.getElem_toArray,List.getElem_cons_succ,List.getElem_cons_zero,Act.put,List.setIfInBounds_toArray,List.set_cons_zero,List.set_cons_succ]; repeat (go_big_quiet_step (fail))
  refine wpQuiet_nil ?_; refine⟨_,rfl,rfl,?_,?_⟩
  .intro w1 g _
   go_simp
   exact⟨rfl,bS (by have:=g.below.size; omega) (kK.out w1 (HB.out.trans (g.below.mono HB.out.size)))⟩
  intro v2 _ w5 Az hF; obtain⟨⟨_,o1⟩,o2⟩:=hF; have R:=Az.below; obtain⟨A8,c8,rfl,_,_⟩:=ak o1; obtain⟨A9,c9,rfl,_,_⟩:=ak o2; have g0:=e0.below R; have g1:=e1.below R; have g2:=e2.below R; have g3:=B3.below R; have Ab:=d.below R; have A0:eD w w5:=f.trans (R.mono f.size); have x7:w5.cell? ⟨w.heap.size+1,7,none⟩=some (.slice j G k):=(g1.cell 7).trans Ai; have z7:w5.frozen? ⟨w.heap.size+1,7,none⟩=false:=g1.froz 7; have AN:w5.cell? ⟨w.heap.size+1,23,none⟩=some (.slice l O m):=(g1.cell 23).trans Y; have AO:w5.frozen? ⟨w.heap.size+1,23,none⟩=false:=g1.froz 23; have AT:=R.size; clear f7 AM kS kK Az e0 e1 e2; go_upto_region 6 with fail
  obtain⟨w6,A⟩:=eA ((w5.setCell ⟨w.heap.size+1,7,none⟩ (.slice A8 G c8)).setCell ⟨w.heap.size+1,23,none⟩ (.slice A9 O c9)); have Ac:(ops.set 7 (.slice A8 G c8)).set 23 (.slice A9 O c9)=ah o (.slice A8 G c8) (.slice A9 O c9):=by rw [<-B.out]; rfl
  have j1:Blk w6 (w.heap.size+1) (ah o (.slice A8 G c8) (.slice A9 O c9)) 47:=by rw [<-A,<-Ac]; exact(g1.set 7 _).set 23 _
  have j0:Blk w6 w.heap.size cs 30:=by rw [<-A]; exact(g0.set_ne (p:=⟨w.heap.size+1,7,none⟩) (by simp) _).set_ne (p:=⟨w.heap.size+1,23,none⟩) (by simp) _
  have j2:Blk w6 (w.heap.size+2) (aE (.slice none 0 0)) 30:=by rw [<-A]; exact(g2.set_ne (p:=⟨w.heap.size+1,7,none⟩) (by simp) _).set_ne (p:=⟨w.heap.size+1,23,none⟩) (by simp) _
  have j3:Blk w6 w2.heap.size [vE,vN,vB,vJ,vK,vU] 30:=by rw [<-A]; exact(g3.set_ne (p:=⟨w.heap.size+1,7,none⟩) (by simp; omega) _).set_ne (p:=⟨w.heap.size+1,23,none⟩) (by simp; omega) _
  have Ad:Wk (w.heap.size+3) w6 vE vN vB vJ vK vU L E1 U1:=by rw [<-A]; exact(Ab.setCell (a:=⟨w.heap.size+1,7,none⟩) (by simp) _).setCell (a:=⟨w.heap.size+1,23,none⟩) (by simp) _
  have Ae:eD w w6:=by rw [<-A]; exact(A0.setCell (p:=⟨w.heap.size+1,7,none⟩) (by simp) _).setCell (p:=⟨w.heap.size+1,23,none⟩) (by simp) _
  have A1:w6.ownsRow (w.heap.size+3) 9 1 (.slice A8 G c8) o.entry.sels.length (af aj o.entry.sels):=by
   rw [<-A,AH]; exact ownsRow_setCell_below (ownsRow_setCell_below (aG o1 Ay) (a:=⟨w.heap.size+1,7,none⟩) (by simp) _) (a:=⟨w.heap.size+1,23,none⟩) (by simp) _
  have A2:w6.ownsRow (w.heap.size+3) 54 2 (.slice A9 O c9) o.bundle.keys.length (af aV o.bundle.keys):=by
   rw [<-A,AI]; exact ownsRow_setCell_below (ownsRow_setCell_below (aG o2 Ay) (a:=⟨w.heap.size+1,7,none⟩) (by simp) _) (a:=⟨w.heap.size+1,23,none⟩) (by simp) _
  have AP:gN (.slice A8 G c8) vB:=by
   cases hq:(Value.slice A8 G c8).ownBlock with
   | none=>exact .inl hq
   | some b =>
    refine .inr ?_; rw [hq]; intro e; have h1:=(dA o1 hq).1; have h2:=(dA d.oB e.symm).2; omega
  have A3:w.heap.size+3<=w6.heap.size:=by rw [<-A]; simp; omega
  rw [A]; have s:=AG (w.heap.size+3) w2.heap.size w6 vE vN vB vJ vK vU E1 U1 _ _ (by omega) Ae ⟨Ad,j3,AL,A3⟩ A1 AP A2; have Z:=fy j1 rfl; obtain⟨CS,A4⟩:=eA ((ah o (.slice A8 G c8) (.slice A9 O c9)).toArray); rw [A4] at Z s; clear x7 z7 AN AO A Ac g0 g1 g2 g3 o1 o2 Ab d B3 A4 B Ai Y Aj HB; go_wp2_with fail
  refine s.mono ?_; rintro e w7 ⟨r,A5,rfl,Ao,Ap⟩; have Q:eD w w7:=Ae.trans (Ao.mono (by omega)); have q0:=j0.lower Ao (by omega); have q2:=j2.lower Ao (by omega); by_cases hr:r.2=0
  .obtain⟨H,I,J,K,M,N,E',U',t⟩:=Ap hr
   have A6:=dD t.blk rfl; obtain⟨Aq,u⟩:=cH q2 rfl (vs:=[H,I,J,K,M,N]) rfl t.wk.ones; obtain⟨w8,y⟩:=eA (w7.setCells (w.heap.size+2) 0 [H,I,J,K,M,N]); have A7:Chg [w.heap.size+2] w7 w8:=by rw [<-y]; exact(Chg.refl _ _).setCells _ (.inl (by simp))
   have C:Wk (w.heap.size+3) w8 H I J K M N r.1 E' U':=by rw [<-y]; exact t.wk.setCells (by omega) _
   rw [y] at Aq u; have hH:=u.has (n:=6) rfl; have hA:=u.arr (n:=6) rfl; have i:eD w w8:=((Chg.of_below (S:=[w.heap.size+2]) Q).and A7).below' eG (by simp); have Ar:=hO C; clear Z s y A7 u t C Ap; rw [hr]; go_wp2; refine bodyPost_ret (fo (P:=prog) Tryz.results14 _ _ (w.heap.size+2) 0 6 _ rfl underlying30 rfl bQ hH) rfl ?_; refine⟨r,A5,H,I,J,K,M,N,E',U',by rw [hA,hr]; rfl,?_,i⟩
   unfold qM; rw [if_pos hr]; exact Ar.out.lower (by omega)
  .have AQ:(r.2 != 0)=true:=by simpa using hr
   have A6:=dD q0 hL.len; have Af:=kP cs L E U w7 (hL.below Q) hs; have HR:=hO hr; clear Z s Ap j0 j1 j2 j3 Ad A1 A2; obtain⟨rv,AA⟩:=eC (r.2); rw [AA.out] at AQ hr ⊢; go_wp2_with fail
   refine Af.mono ?_; rintro e w8 ⟨H,I,J,K,M,N,E',U',rfl,C,AB⟩; have AR:=q2.below AB; obtain⟨Aq,u⟩:=cH AR rfl (vs:=[H,I,J,K,M,N]) rfl C.ones; have i:eD w w8:=Q.trans (AB.mono Q.size); obtain⟨w9,z⟩:=eA (w8.setCells (w.heap.size+2) 0 [H,I,J,K,M,N]); have AC:Chg [w.heap.size+2] w8 w9:=by rw [<-z]; exact(Chg.refl _ _).setCells _ (.inl (by simp))
   have Ag:Wk w7.heap.size w9 H I J K M N L E' U':=by rw [<-z]; exact C.setCells q2.lt _
   rw [z] at Aq u; have hH:=u.has (n:=6) rfl; have hA:=u.arr (n:=6) rfl; have AD:eD w w9:=((Chg.of_below (S:=[w.heap.size+2]) i).and AC).below' eG (by simp); have Ar:=hO (Ag.lower (b:=w.heap.size) Q.size); clear z AC u C Ag Af; go_wp2; refine bodyPost_ret (fo (P:=prog) Tryz.results14 _ _ (w.heap.size+2) 0 6 _ rfl underlying30 rfl bQ hH) rfl ?_; refine⟨r,A5,H,I,J,K,M,N,E',U',by rw [hA,AA.out]; rfl,?_,AD⟩
   unfold qM; rw [if_neg HR.out]; exact Ar.out
end
section
open Go.RowKit Mem Led
theorem look_none(w:World) (K:Int) (A:doL.findIdx? (fun p=>K==p.1)=none) :
  (Instr.lookup 73 (.map (some w.heap.size)) (.int .i64 K) false).run prog (w.alloc (mo 20))=.ok .nilFunc (w.alloc (mo 20)):=by
 have h:=run_look (P:=prog) (w.alloc (mo 20)) w.heap.size (doL.take 20) K _ _ _ .nilFunc underlying73 underlying3 (rq _) (heap_alloc_new w _)
 rw [show doL.take 20=doL from rfl,A] at h
 exact h
theorem qH(cs:List Value) (L:Led.Ledger) (E:List (Led.Entry × Value)) (U:List (Led.Bundle × Value)) (ops:List Value) (k:Int) (w:World) (x:cZ w cs L E U) (hs:L.Small) (R:ops[0]?=some (.int .i64 k)) (hK:doL.findIdx? (fun p=>k==p.1)=none) :
  Calls prog 14 #[.agg cs.toArray,.agg ops.toArray] w (iG (fun r=>r=(L,1)) L w):=by
 obtain⟨W,O⟩:=eA (((w.alloc (.cells cs.toArray 30)).alloc (.cells ops.toArray 47)).alloc (.cells (aE (.slice none 0 0)).toArray 30))
 have y:Blk W w.heap.size cs 30:=by rw [<-O]; exact((Blk.new _ _ _).alloc _).alloc _
 have f:Blk W (w.heap.size+1) ops 47:=by
  have:=Blk.new (w.alloc (.cells cs.toArray 30)) ops 47; rw [<-O]; exact Blk.alloc (by simpa using this) _
 have b2:Blk W (w.heap.size+2) (aE (.slice none 0 0)) 30:=by
  have:=Blk.new ((w.alloc (.cells cs.toArray 30)).alloc (.cells ops.toArray 47)) (aE (.slice none 0 0)) 30; rw [<-O]; simpa using this
 have T:eD w W:=by rw [<-O]; exact(eH.alloc (by simp) _).alloc (by simp; omega) _
 have g:W.heap.size=w.heap.size+3:=by rw [<-O]; simp
 have A:=sr W.drew
 have Q:(Instr.lookup 73 (.map (some (w.heap.size+3))) (.int .i64 k) false).run prog (W.alloc (mo 20)).drew=.ok .nilFunc (W.alloc (mo 20)).drew:=by
  have:=look_none W.drew k hK; rw [show W.drew.heap.size=w.heap.size+3 from g] at this; exact this
 have m0:W.cell? ⟨w.heap.size+1,0,none⟩=some (.int .i64 k):=(f.cell 0).trans R
 have m1:∀ h,(W.alloc h).cell? ⟨w.heap.size+1,0,none⟩=some (.int .i64 k):=fun h=>((f.alloc h).cell 0).trans R
 have i:=hO O
 unfold aE at i
 clear O
 go_enter func14,ntmps14
 go_upto_region 1 with fail
 rw [i.out]
 go_cut [6] (fun s6 wx=>s6=.nilFunc/\eD W wx)
 case first =>
  go_region_with (go_at_call 26; refine A.mono ?_; rintro e w1 ⟨rfl,rfl⟩)
  all_goals
   go_wp2_with fail
   go_meet
   case rel=>exact⟨rfl,((Below.refl _ _).drew).alloc eG _⟩
 case rest =>
  obtain⟨rfl,C⟩:=hcut; have z:=y.below C; have j:=b2.below C; have D:eD w wc:=T.trans (C.mono T.size); have l:=x.below D; have m:=dD z x.len; have V:=kP cs L E U wc l hs; have Aa:∀ W,(Go.binOp .eql 72 .nilFunc .nilFunc).run prog W=.ok (.bool true) W:=fun W=>by kernel_rfl
  clear Q A m0 m1 i y f b2; go_wp2_with fail
  refine V.mono ?_; rintro e o ⟨F,G,H,I,J,K,E',U',rfl,B,X⟩; have q:=j.below X; obtain⟨s,d⟩:=cH q rfl (vs:=[F,G,H,I,J,K]) rfl B.ones; have Y:eD w o:=D.trans (X.mono D.size); obtain⟨t,M⟩:=eA (o.setCells (w.heap.size+2) 0 [F,G,H,I,J,K]); have Z:Chg [w.heap.size+2] o t:=by rw [<-M]; exact(Chg.refl _ _).setCells _ (.inl (by simp))
  have N:Wk wc.heap.size t F G H I J K L E' U':=by rw [<-M]; exact B.setCells j.lt _
  rw [M] at s d; have hH:=d.has (n:=6) rfl; have hA:=d.arr (n:=6) rfl; have c:eD w t:=((Chg.of_below (S:=[w.heap.size+2]) Y).and Z).below' eG (by simp); have u:=hO (N.lower (b:=w.heap.size) D.size); clear M Z d B N V m z j C; go_wp2; refine bodyPost_ret (fo (P:=prog) Tryz.results14 _ _ (w.heap.size+2) 0 6 _ rfl underlying30 rfl bQ hH) rfl ?_; exact⟨(L,1),rfl,F,G,H,I,J,K,E',U',by rw [hA]; rfl,u.out,c⟩
end
section
open Go.RowKit Mem Led
def cBp (a b:Led.Bundle × Value):Int:=cB a.1 b.1
theorem cBp_cmp:Cmp cBp:=⟨fun a b=>kQ.flip a.1 b.1,fun a b d=>kQ.trans a.1 b.1 d.1,fun a b d=>kQ.left a.1 b.1 d.1⟩
theorem op_bundle(o:Led.Op) (sv kv:Value):∀ j u,(ai (o.bundle,kv))[j]?=some u->(ah o sv kv)[21+j]?=some u:=by
 intro j u h
 match j,h with
 | 0,h=>exact h
 | 1,h=>exact h
 | 2,h=>exact h
 | j+3,h=>simp [ai] at h
theorem sizeBun3:(prog.info? 45).map (·.size)=some 3:=by kernel_rfl
theorem jh{w:World} {g:Nat} {o:Led.Op} {sv kv:Value} (h:Blk w g (ah o sv kv) 47):(fz (.pointer (some ⟨g,21,none⟩))).run prog w=.ok (.agg (ai (o.bundle,kv)).toArray) w :=
 cl underlying45 rfl sizeBun3 rfl fun j u A=>by rw [h.cell]; exact op_bundle o sv kv j u A
theorem store_bun{w:World} {g:Nat} {cs vs:List Value} {t:TypeId} (h:Blk w g cs t) (A:cs.length=3) (B:vs.length=3) (D:∀ v∈vs,v.oneCell'=true) :
  (stBun (.pointer (some ⟨g,0,none⟩)) (.agg vs.toArray)).run prog w=.ok () (w.setCells g 0 vs)/\Blk (w.setCells g 0 vs) g vs t:=by
 have E:=bE (P:=prog) w 45 g 0 3 sizeBun3 vs.toArray ⟨by simpa using B,by simpa using D⟩ (ev h A) (fun j _=>h.froz _)
 have C:=iy vs w g 0 cs t h (by omega)
 simp [B,<-A] at C
 exact⟨E,C⟩
theorem qF(p:Led.Bundle × Value) (h:p.2.oneCell'=true):∀ u∈ai p,u.oneCell'=true:=by
 intro u A
 simp [ai,tx,nm] at A
 rcases A with rfl|rfl|rfl
 .rfl
 .rfl
 .exact h
theorem pE(x:Led.Bundle × Value) (d:Txt) (n:Int) (A:Nat) (W:World) (C:W.cell? ⟨A,0,none⟩=some (.string (str d))) (D:W.cell? ⟨A,1,none⟩=some (.int .i64 n)) :
  Calls prog 109 (#[.agg (ai x).toArray]++#[.pointer (some ⟨A,0,none⟩)]) W fun e w'=>e=.returned (.bool (x.1.domain==d&&decide (x.1.number > n)))/\eD W w':=by
 have B:=World.block_lt_of_cell? W _ C
 simp only [] at B
 have E:∀ o,eD W (W.alloc o):=fun o=>eH
 show Calls prog 109 #[.agg #[.string (str x.1.domain),.int .i64 x.1.number,x.2],.pointer (some ⟨A,0,none⟩)] W _
 cases F:(x.1.domain==d)
 all_goals
  go_enter func109,ntmps109
  go_wp2_with fail
  go_ret; exact⟨by first|rfl|simp,E _⟩
theorem pD(a b:Led.Bundle × Value) (W:World):Calls prog 111 #[.agg (ai a).toArray,.agg (ai b).toArray] W fun e w'=>e=.returned (.int .i64 (cBp a b))/\eD W w':=by
 have A:=fun W=>nf a.1.domain b.1.domain W
 have B:∀ o p,eD W ((W.alloc o).alloc p):=fun o p=>eH.alloc (by simp) _
 unfold cBp cB
 show Calls prog 111 #[.agg #[.string (str a.1.domain),.int .i64 a.1.number,a.2],.agg #[.string (str b.1.domain),.int .i64 b.1.number,b.2]] W _
 generalize ord a.1.domain b.1.domain=v at *
 go_enter func111,ntmps111
 go_wp2_with fail
 refine(A _).mono ?_
 rintro e C ⟨rfl,rfl⟩
 go_wp2
 go_ret
 exact⟨rfl,B _ _⟩
def ib (ok:Bool) (base gl:Nat) (vU:Value) (U:List (Led.Bundle × Value)) (p:Led.Bundle × Value) (w:World) (x:Ending) (w':World):Prop :=
 if ok then (if U.any (fun o=>o.1.domain==p.1.domain&&decide (o.1.number > p.1.number)) then x=.returned (.int .i64 22)/\eD w w' else fI ai 3 45 base gl 5 vU (put cBp 3 p U) w x w') else x=.returned (.int .i64 1)/\eD w w'
theorem qZ(P:Bool->Prop) (gl:Nat) (o:Led.Op) (sv kv:Value) (vs:List Value) (U:List (Led.Bundle × Value)) (base:Nat) (vU:Value) (w:World) (n:kv.oneCell'=true) (hU:U.length<=3) (hr:bd cBp U) (q:∀ p∈U,p.2.oneCell'=true) (M:base<=w.heap.size)
  (T:Blk w gl vs 30) (h5:vs[5]?=some vU) (F:w.ownsRow base 45 3 vU U.length (af ai U)) (r:vU.ownBlock≠some gl)
  (HB:∀ N,eD w N->Calls prog 107 #[.agg (ai (o.bundle,kv)).toArray] N fun e w'=>∃ ok,P ok/\e=.returned (.bool ok)/\eD N w') :
  Calls prog 53 #[.pointer (some ⟨gl,0,none⟩),.agg (ah o sv kv).toArray] w fun x w'=>∃ ok,P ok/\ib ok base gl vU U (o.bundle,kv) w x w':=by
 obtain⟨A,c,rfl,Ab,Ac⟩:=ak F
 obtain⟨W,V⟩:=eA (w.alloc (.cells (ah o sv kv).toArray 47))
 have b0:Blk W w.heap.size (ah o sv kv) 47:=by rw [<-V]; exact Blk.new w _ _
 have X:eD w W:=eF V
 have hz:W.heap.size=w.heap.size+1:=by rw [<-V]; simp
 have Z:=jh b0
 have bn:=Blk.new W [.string ⟨#[]⟩,.int .i64 0,.slice none 0 0] 45
 have b:=qF (o.bundle,kv) n
 obtain⟨E,k⟩:=store_bun bn rfl (vs:=ai (o.bundle,kv)) rfl b
 obtain⟨l,O⟩:=eA ((W.alloc (.cells ([.string ⟨#[]⟩,.int .i64 0,.slice none 0 0]:List Value).toArray 45)).setCells W.heap.size 0 (ai (o.bundle,kv)))
 have d:Chg [] W l:=by rw [<-O]; exact((Chg.refl _ _).alloc _).setCells _ (.inr eG)
 rw [O] at E k
 have f:=d.below (fun _ h=>by cases h)
 have G:eD w l:=X.trans (f.mono X.size)
 rw [hz] at E k
 have H:=HB l G
 have g:=di k (aU _)
 have s:=hO V
 obtain⟨CS,i⟩:=eA ((ah o sv kv).toArray)
 rw [i] at s ⊢
 obtain⟨Y,t⟩:=eC ((ai (o.bundle,kv)).toArray)
 rw [t.out] at Z E H g
 clear V O bn d i
 go_enter func53,ntmps53
 go_upto_region 1 with fail
 rw [s.out]
 clear s
 have E:(stBun (.pointer (some ⟨w.heap.size+1,0,none⟩)) (.agg Y)).run prog (W.alloc (.cells #[.string ⟨#[]⟩,.int .i64 0,.slice none 0 0] 45))=.ok () l:=E
 go_wp2_with fail
 refine H.mono ?_
 rintro e u ⟨ok,z,rfl,j⟩
 have B:eD w u:=G.trans (j.mono G.size)
 have b1:=k.below j
 have J:=T.below B
 clear H Z g E
 cases ok
 .go_wp2_with fail
  go_ret; exact⟨false,z,rfl,B⟩
 .have Aa:=J.lt
  have cK:u.cell? ⟨gl,5,none⟩=some (.slice A U.length c):=(J.cell 5).trans h5; have C:=hasBun_any 109 #[.pointer (some ⟨w.heap.size+1,0,none⟩)] (enters_of func109 (by kernel_rfl) rfl) (fun x=>x.1.domain==o.bundle.domain&&decide (x.1.number > o.bundle.number)) A U.length c U u (Vs.of_own (ae F B eG)) (by omega) (fun N x _ hb=>pE x o.bundle.domain o.bundle.number (w.heap.size+1) N ((b1.below hb).cell 0) ((b1.below hb).cell 1))
  cases S:U.any (fun x=>x.1.domain==o.bundle.domain&&decide (x.1.number > o.bundle.number))
  .have m:Hid (∀ x w',fI ai 3 45 base gl 5 (.slice A U.length c) (put cBp 3 (o.bundle,kv) U) w x w'->ib true base gl (.slice A U.length c) U (o.bundle,kv) w x w'):=hO (fun x w' h=>by unfold ib; rw [if_pos rfl,S]; exact h)
   rw [S] at C; clear S; go_wp2_with fail
   refine C.mono ?_; rintro e Q ⟨rfl,I⟩; have K:eD w Q:=B.trans (I.mono B.size); have b2:=b1.below I; have f3:∀ p,(fz (.pointer (some ⟨w.heap.size+1,0,none⟩))).run prog (ab Q p)=.ok (.agg Y) (ab Q p):=fun p=>by rw [<-t.out]; exact di (b2.below (aa Q p)) (aU _)
   clear C cK; go_wp2_with fail
   refine bp 4 ?_; simp only [List.take_succ_cons,List.take_zero,List.drop_succ_cons,List.drop_zero]; repeat (go_big_quiet_step (fail))
   refine wpQuiet_nil ?_; rintro _ ⟨py,rfl⟩; have g3:=aa Q py; clear f3; generalize ab Q py=w3 at *; have D:eD w w3:=K.trans (g3.mono K.size); have L:=putBun_any gl 5 111 (enters_of func111 (by kernel_rfl) rfl) cBp cBp_cmp (o.bundle,kv) U hr base (.slice A U.length c) 3 w3 hU (by omega) vs 30 (T.below D) h5 (ae F D eG) r (Nat.le_trans M D.size) (fun y hy=>qF y (q y hy)) b (fun N y _ _=>pD y (o.bundle,kv) N); have R:=hO (L.mono fun x w' h=>ld D h); clear L; rw [t.out] at R; go_wp2_with fail
   refine R.out.mono ?_; intro e w4 h; have h':=hO (m.out e w4 h); clear R m; unfold fI at h
   cases hq:put cBp 3 (o.bundle,kv) U
   all_goals
    rw [hq] at h; obtain⟨rfl,_⟩:=h; clear hq; go_wp2; (try rw [am])
    (try go_wp2)
    go_ret; exact⟨true,z,h'.out⟩
  .have m:Hid (∀ w',eD w w'->ib true base gl (.slice A U.length c) U (o.bundle,kv) w (.returned (.int .i64 22)) w'):=hO (fun w' h=>by unfold ib; rw [if_pos rfl,S]; exact⟨rfl,h⟩)
   rw [S] at C; clear S; go_wp2_with fail
   refine C.mono ?_; rintro e Q ⟨rfl,I⟩; go_wp2_with fail
   go_ret; exact⟨true,z,m.out _ (B.trans (I.mono B.size))⟩
end
section
open Go.RowKit Mem Led
namespace Led
theorem does_or(ok:Bool) (L:Ledger) (o:Op):(does ok L o).1=L\/(does ok L o).2=0:=by
 unfold does
 by_cases F:o.kind=1
 .rw [if_pos F]
  unfold em; repeat' split
  all_goals first|exact .inl rfl|exact .inr rfl
 rw [if_neg F]
 by_cases G:o.kind=2
 .rw [if_pos G]
  unfold fZ; repeat' split
  all_goals first|exact .inl rfl|exact .inr rfl
 rw [if_neg G]
 by_cases H:o.kind=3
 .rw [if_pos H]
  unfold dE; repeat' split
  all_goals first|exact .inl rfl|exact .inr rfl
 rw [if_neg H]
 by_cases I:o.kind=4
 .rw [if_pos I]
  unfold eO; repeat' split
  all_goals first|exact .inl rfl|exact .inr rfl
 rw [if_neg I]
 by_cases J:o.kind=5
 .rw [if_pos J]
  unfold aX; repeat' split
  all_goals first|exact .inl rfl|exact .inr rfl
 rw [if_neg J]
 by_cases K:o.kind=6
 .rw [if_pos K]
  unfold cX; repeat' split
  all_goals first|exact .inl rfl|exact .inr rfl
 rw [if_neg K]
 by_cases M:o.kind=7
 .rw [if_pos M]
  unfold gJ; repeat' split
  all_goals first|exact .inl rfl|exact .inr rfl
 rw [if_neg M]
 by_cases N:o.kind=8
 .rw [if_pos N]
  unfold eX; repeat' split
  all_goals first|exact .inl rfl|exact .inr rfl
 rw [if_neg N]
 by_cases O:o.kind=9
 .rw [if_pos O]
  unfold dp; repeat' split
  all_goals first|exact .inl rfl|exact .inr rfl
 rw [if_neg O]
 by_cases A:o.kind=10
 .rw [if_pos A]
  unfold dq; repeat' split
  all_goals first|exact .inl rfl|exact .inr rfl
 rw [if_neg A]
 by_cases B:o.kind=11
 .rw [if_pos B]
  unfold gK; repeat' split
  all_goals first|exact .inl rfl|exact .inr rfl
 rw [if_neg B]
 by_cases C:o.kind=12
 .rw [if_pos C]
  unfold bH; repeat' split
  all_goals first|exact .inl rfl|exact .inr rfl
 rw [if_neg C]
 by_cases D:o.kind=13
 .rw [if_pos D]
  unfold cP; repeat' split
  all_goals first|exact .inl rfl|exact .inr rfl
 rw [if_neg D]
 by_cases E:o.kind=14
 .rw [if_pos E]
  unfold iC; repeat' split
  all_goals first|exact .inl rfl|exact .inr rfl
 rw [if_neg E]
 exact .inl rfl
end Led
theorem did_bundle(P:Bool->Prop) {base gl:Nat} {w:World} {vE vN vB vJ vK vU sv kv:Value} {L:Led.Ledger} {E:List (Led.Entry × Value)} {U:List (Led.Bundle × Value)} {o:Led.Op} (H:LAt base gl w vE vN vB vJ vK vU L E U) (J:L.Wf) (C:w.ownsRow base 54 2 kv o.bundle.keys.length (af aV o.bundle.keys))
  (M:∀ G,eD w G->Calls prog 107 #[.agg (ai (o.bundle,kv)).toArray] G fun e w'=>∃ ok,P ok/\e=.returned (.bool ok)/\eD G w') :
  Calls prog 53 #[.pointer (some ⟨gl,0,none⟩),.agg (ah o sv kv).toArray] w fun x w'=>∃ ok,P ok/\Did base gl (bH ok L o.bundle) w x w':=by
 have K:U.length=L.bundles.length:=by rw [<-H.wk.buns,List.length_map]
 have T:=J.u3
 have D:∀ {u:Value} {n:Nat} {xs:List Value},w.ownsRow base 54 2 u n xs->u.oneCell'=true:=fun N=>by
  obtain⟨A,c,h,_⟩:=ak N; rw [h]; rfl
 refine(qZ P gl o sv kv _ U base vU w (D C) (by omega) (rO H.wk.buns J.u1) (fun p F=>D (H.wk.keyss p F)) H.hb H.blk rfl H.wk.oU (aC H.wk.oU H.blk (by decide)) M).mono ?_
 rintro x w' ⟨ok,O,B⟩
 refine⟨ok,O,?_⟩
 unfold ib at B
 unfold bH
 rw [tZ (l:=L.bundles) H.wk.buns (fun b=>b.domain==o.bundle.domain&&decide (b.number > o.bundle.number))] at B
 split at B
 .rename_i hc
  rw [if_pos hc]; split at B
  .rename_i hc
   rw [if_pos hc]; exact Did.err H.hb (by decide) B
  .rename_i hc
   rw [if_neg hc]; have hi:(ins cBp (o.bundle,kv) U).map Prod.fst=ins cB o.bundle L.bundles:=ins_fst H.wk.buns o.bundle kv; have I:(ins cBp (o.bundle,kv) U).length=(ins cB o.bundle L.bundles).length:=by rw [<-hi,List.length_map]
   unfold fI put at B; unfold put; rw [I] at B; split at B
   .rename_i l hl
    split at hl
    .rename_i hle
     injection hl with hl
     subst hl; rw [if_pos hle]; obtain⟨rfl,Q⟩:=B; obtain⟨V,R,S⟩:=H.slotU Q hi (fun p F=>by
      rcases gj F with rfl|F
      .exact C
      .exact H.wk.keyss p F)
     exact Did.ok R S
    .cases hl
   .rename_i hl
    split at hl
    .cases hl
    .rename_i hle
     rw [if_neg hle]; exact Did.err H.hb (by decide) B
 .rename_i hc
  rw [if_neg hc]; exact Did.err H.hb (by decide) B
theorem apply_any(P:Bool->Prop) (cs:List Value) (L:Led.Ledger) (E:List (Led.Entry × Value)) (U:List (Led.Bundle × Value)) (o:Led.Op) (sv kv:Value) (w:World) (J:cZ w cs L E U) (C:L.Wf) (A:Sized o) (k:o.kind<=100) (D:bm w sv o.entry.sels) (F:a8 aV 2 w kv o.bundle.keys)
  (m:∀ Z b,eD w Z->a8 aV 2 Z b o.bundle.keys->Calls prog 107 #[.agg (ai (o.bundle,b)).toArray] Z fun e w'=>∃ ok,P ok/\e=.returned (.bool ok)/\eD Z w') :
  Calls prog 14 #[.agg cs.toArray,.agg (ah o sv kv).toArray] w (iG (fun r=>∃ ok,(o.kind=12->P ok)/\r=does ok L o) L w):=by
 by_cases d:o.kind=1
 .refine bA cs L E U o sv kv 42 _ w J C.small D F A.el A.ul (by rw [d]; kernel_rfl) (enters_of func42 (by kernel_rfl) rfl) ?_
  intro base gl W vE vN vB vJ vK vU O Q H G R B I M N K; have e:does false L o=em L o.entry:=by unfold does; simp [d]
  refine(did_entry I C A M N).mono fun x w' h=>⟨_,⟨false,fun e=>by omega,rfl⟩,?_⟩; rw [e]; exact h
 by_cases k2:o.kind=2
 .refine bA cs L E U o sv kv 43 _ w J C.small D F A.el A.ul (by rw [k2]; kernel_rfl) (enters_of func43 (by kernel_rfl) rfl) ?_
  intro base gl W vE vN vB vJ vK vU O Q H G R B I M N K; have e:does false L o=fZ L o.n:=by unfold does; simp [k2]
  refine(did_gone I C).mono fun x w' h=>⟨_,⟨false,fun e=>by omega,rfl⟩,?_⟩; rw [e]; exact h
 by_cases k3:o.kind=3
 .refine bA cs L E U o sv kv 44 _ w J C.small D F A.el A.ul (by rw [k3]; kernel_rfl) (enters_of func44 (by kernel_rfl) rfl) ?_
  intro base gl W vE vN vB vJ vK vU O Q H G R B I M N K; have e:does false L o=dE L o.join:=by unfold does; simp [k3]
  refine(did_token I C A).mono fun x w' h=>⟨_,⟨false,fun e=>by omega,rfl⟩,?_⟩; rw [e]; exact h
 by_cases k4:o.kind=4
 .refine bA cs L E U o sv kv 45 _ w J C.small D F A.el A.ul (by rw [k4]; kernel_rfl) (enters_of func45 (by kernel_rfl) rfl) ?_
  intro base gl W vE vN vB vJ vK vU O Q H G R B I M N K; have e:does false L o=eO L o.name o.node:=by unfold does; simp [k4]
  refine(did_join I C A).mono fun x w' h=>⟨_,⟨false,fun e=>by omega,rfl⟩,?_⟩; rw [e]; exact h
 by_cases k5:o.kind=5
 .refine bA cs L E U o sv kv 46 _ w J C.small D F A.el A.ul (by rw [k5]; kernel_rfl) (enters_of func46 (by kernel_rfl) rfl) ?_
  intro base gl W vE vN vB vJ vK vU O Q H G R B I M N K; have e:does false L o=aX L o.node:=by unfold does; simp [k5]
  refine(did_node I C A).mono fun x w' h=>⟨_,⟨false,fun e=>by omega,rfl⟩,?_⟩; rw [e]; exact h
 by_cases f:o.kind=6
 .refine bA cs L E U o sv kv 47 _ w J C.small D F A.el A.ul (by rw [f]; kernel_rfl) (enters_of func47 (by kernel_rfl) rfl) ?_
  intro base gl W vE vN vB vJ vK vU O Q H G R B I M N K; have e:does false L o=cX L o.name:=by unfold does; simp [f]
  refine(did_ban I C A).mono fun x w' h=>⟨_,⟨false,fun e=>by omega,rfl⟩,?_⟩; rw [e]; exact h
 by_cases g:o.kind=7
 .refine bA cs L E U o sv kv 48 _ w J C.small D F A.el A.ul (by rw [g]; kernel_rfl) (enters_of func48 (by kernel_rfl) rfl) ?_
  intro base gl W vE vN vB vJ vK vU O Q H G R B I M N K; have e:does false L o=gJ L o.name:=by unfold does; simp [g]
  refine(did_lift I C).mono fun x w' h=>⟨_,⟨false,fun e=>by omega,rfl⟩,?_⟩; rw [e]; exact h
 by_cases i:o.kind=8
 .refine bA cs L E U o sv kv 49 _ w J C.small D F A.el A.ul (by rw [i]; kernel_rfl) (enters_of func49 (by kernel_rfl) rfl) ?_
  intro base gl W vE vN vB vJ vK vU O Q H G R B I M N K; have e:does false L o=eX L o.name:=by unfold does; simp [i]
  refine(did_evict I C).mono fun x w' h=>⟨_,⟨false,fun e=>by omega,rfl⟩,?_⟩; rw [e]; exact h
 by_cases j:o.kind=9
 .refine bA cs L E U o sv kv 50 _ w J C.small D F A.el A.ul (by rw [j]; kernel_rfl) (enters_of func50 (by kernel_rfl) rfl) ?_
  intro base gl W vE vN vB vJ vK vU O Q H G R B I M N K; have e:does false L o=dp L o.key:=by unfold does; simp [j]
  refine(did_prepare I C).mono fun x w' h=>⟨_,⟨false,fun e=>by omega,rfl⟩,?_⟩; rw [e]; exact h
 by_cases T:o.kind=10
 .refine bA cs L E U o sv kv 51 _ w J C.small D F A.el A.ul (by rw [T]; kernel_rfl) (enters_of func51 (by kernel_rfl) rfl) ?_
  intro base gl W vE vN vB vJ vK vU O Q H G R B I M N K; have e:does false L o=dq L o.n:=by unfold does; simp [T]
  refine(did_active I C).mono fun x w' h=>⟨_,⟨false,fun e=>by omega,rfl⟩,?_⟩; rw [e]; exact h
 by_cases V:o.kind=11
 .refine bA cs L E U o sv kv 52 _ w J C.small D F A.el A.ul (by rw [V]; kernel_rfl) (enters_of func52 (by kernel_rfl) rfl) ?_
  intro base gl W vE vN vB vJ vK vU O Q H G R B I M N K; have e:does false L o=gK L o.name:=by unfold does; simp [V]
  refine(did_drop I C).mono fun x w' h=>⟨_,⟨false,fun e=>by omega,rfl⟩,?_⟩; rw [e]; exact h
 by_cases X:o.kind=13
 .refine bA cs L E U o sv kv 54 _ w J C.small D F A.el A.ul (by rw [X]; kernel_rfl) (enters_of func54 (by kernel_rfl) rfl) ?_
  intro base gl W vE vN vB vJ vK vU O Q H G R B I M N K; have e:does false L o=cP L o.name:=by unfold does; simp [X]
  refine(did_unbind I C).mono fun x w' h=>⟨_,⟨false,fun e=>by omega,rfl⟩,?_⟩; rw [e]; exact h
 by_cases Y:o.kind=14
 .refine bA cs L E U o sv kv 55 _ w J C.small D F A.el A.ul (by rw [Y]; kernel_rfl) (enters_of func55 (by kernel_rfl) rfl) ?_
  intro base gl W vE vN vB vJ vK vU O Q H G R B I M N K; have e:does false L o=iC L o.name o.n:=by unfold does; simp [Y]
  refine(did_seq I C).mono fun x w' h=>⟨_,⟨false,fun e=>by omega,rfl⟩,?_⟩; rw [e]; exact h
 by_cases S:o.kind=12
 .refine bA cs L E U o sv kv 53 _ w J C.small D F A.el A.ul (by rw [S]; kernel_rfl) (enters_of func53 (by kernel_rfl) rfl) ?_
  intro base gl W vE vN vB vJ vK vU O Q H G R B I M N K; refine(did_bundle P I C K (fun Z c=>m Z G (B.trans (c.mono B.size)) ((aY K).below c))).mono ?_; rintro x w' ⟨ok,q,h⟩; have e:does ok L o=bH ok L o.bundle:=by unfold does; simp [S]
  refine⟨_,⟨ok,fun _=>q,rfl⟩,?_⟩; rw [e]; exact h
 have e:does false L o=(L,1):=by unfold does; simp only [d,k2,k3,k4,k5,f,g,i,j,T,V,S,X,Y,if_false]
 refine(qH cs L E U (ah o sv kv) o.kind w J C.small rfl ?_).mono ?_
 .rw [List.findIdx?_eq_none_iff]
  intro p l; simp only [doL,List.mem_cons,List.not_mem_nil,or_false] at l; rcases l with rfl|rfl|rfl|rfl|rfl|rfl|rfl|rfl|rfl|rfl|rfl|rfl|rfl|rfl|rfl|rfl|rfl|rfl|rfl|rfl <;> simp only [beq_eq_false_iff_ne,ne_eq] <;> omega
 .rintro x w' ⟨r,rfl,h⟩
  exact⟨(L,1),⟨false,fun e=>absurd e S,e.symm⟩,h⟩
end
section
open Go.RowKit Mem Led
structure JsV where
 kind:Int
 number:Int
 text:Txt
 names:Value
 kids:Value
def ar (v:JsV):List Value:=[.int .i64 v.kind,.int .i64 v.number,.string (str v.text),v.names,v.kids]
theorem eh(v:JsV):(ar v).length=5:=rfl
theorem mW:(prog.info? 197).map (·.size)=some 5:=by kernel_rfl
def mC (x:Value):Sem Value:=Instr.loadAt 197 x
def stJs (x v:Value):Sem Unit:=Instr.storeAt 197 x v
theorem named_ldJs(x:Value):Instr.loadAt 197 x=mC x:=rfl
theorem named_stJs(x v:Value):Instr.storeAt 197 x v=stJs x v:=rfl
attribute [go_sem ↓] named_ldJs named_stJs
theorem ldJs_es{w:World} {A:Option Addr} {n:Nat} {L:List JsV} (h:Es ar 5 w A n L) {i:Nat} (hi:i<L.length) :
  ∃ b B,A=some ⟨b,B,none⟩/\b<w.heap.size/\∀ w',eD w w'->(mC (.pointer (some ⟨b,B+i * 5,none⟩))).run prog w'=.ok (.agg (ar L[i]).toArray) w' :=
 iA underlying197 rfl mW eh (by omega) h hi
theorem bM{w:World} {g:Nat} {v:JsV} {t:TypeId} (h:Blk w g (ar v) t):(mC (.pointer (some ⟨g,0,none⟩))).run prog w=.ok (.agg (ar v).toArray) w :=
 cl underlying197 rfl mW rfl fun j u A=>by rw [h.cell,Nat.zero_add]; exact A
theorem idxJs_any(g:Nat) (lb:Array Value) (Y:∀ args w,(callFunc g args).run prog w=.ok (.enter g args) w) (p:JsV->Bool) (A:Option Addr) (n c:Nat) (L:List JsV) (w:World) (h:Es ar 5 w A n L) (Z:n<=9223372036854775807)
  (Q:∀ (W:World) (x:JsV),x∈L->eD w W->Calls prog g (#[.agg (ar x).toArray]++lb) W fun e w'=>e=.returned (.bool (p x))/\eD W w') :
  Calls prog 259 #[.slice A n c,.func (.func g) #[] lb] w fun e w'=>e=.returned (.int .i64 (bc p L))/\eD w w':=by
 have C:=h.len eh (by decide)
 have G:=hO C
 obtain⟨r,J⟩:=eC (bc p L)
 rw [J.out]
 have R:=hO Q
 clear Q
 go_enter func259,ntmps259
 go_wp2
 go_loopw [8,5] (fun i _ wr=>∃ k:Nat,k<=n/\i=.int .i64 k/\Hid (∀ x∈L.take k,p x=false)/\eD w wr) (fun i _ _=>n - (intOf i).toNat)
 case atStart=>exact⟨0,by omega,rfl,hO (by simp),Below.refl _ _⟩
 case round =>
  obtain⟨k,d,rfl,K,D⟩:=hrel; by_cases M:k<n
  .have B:k<L.length:=by rw [C]; exact M
   obtain⟨b,S,rfl,T,H⟩:=ldJs_es (h.below D) B; have f:=H wr (Below.refl _ _); clear H; have I:=R.out wr L[k] (List.getElem_mem B) D; have hi:(k:Int)<(n:Int):=by omega
   cases F:p L[k]
   .have U:=hO (dL B K.out F)
    rw [F] at I; generalize (ar L[k]).toArray=X at *; clear F; go_wp2_with fail
    refine I.mono ?_; rintro e V ⟨rfl,E⟩; go_wp2; go_roundw
    case rel=>exact⟨k+1,by omega,by go_num,U,D.trans (E.mono D.size)⟩
    case measure=>simp [intOf]; omega
   .have N:=hO (fD B K.out F)
    rw [F] at I; generalize (ar L[k]).toArray=X at *; clear F; go_wp2_with fail
    refine I.mono ?_; rintro e V ⟨rfl,E⟩; go_wp2; go_ret; exact⟨by rw [<-J.out,N.out]; rfl,D.trans (E.mono D.size)⟩
  .have O:k=n:=by omega
   have N:=hO (fF (p:=p) (L:=L) (by have:=K.out; rwa [O,List.take_of_length_le (by rw [G.out]; exact eG)] at this))
   have hi:¬ ((k:Int)<(n:Int)):=by omega
   go_wp2; go_ret; exact⟨by rw [<-J.out,N.out]; rfl,D⟩
theorem lm(g:Nat) (lb:Array Value) (C:∀ args w,(callFunc g args).run prog w=.ok (.enter g args) w) (p:JsV->Bool) (A:Option Addr) (n c:Nat) (L:List (JsV)) (w:World) (h:Es ar 5 w A n L) (D:n<=9223372036854775807)
  (E:∀ (W:World) (x:JsV),x∈L->eD w W->Calls prog g (#[.agg (ar x).toArray]++lb) W fun e w'=>e=.returned (.bool (p x))/\eD W w') :
  Calls prog 232 #[.slice A n c,.func (.func g) #[] lb] w fun e w'=>e=.returned (.bool (L.any p))/\eD w w':=by
 have F:=idxJs_any g lb C p A n c L w h D E
 rw [<-gV]
 generalize bc p L=r at *
 go_enter func232,ntmps232
 go_wp2_with fail
 refine F.mono ?_
 rintro e G ⟨rfl,B⟩
 go_wp2
 go_ret
 exact⟨by first|rfl|simp,B⟩
theorem jP(g:Nat) (lb:Array Value) (C:∀ args w,(callFunc g args).run prog w=.ok (.enter g args) w) (p:Txt->Bool) (A:Option Addr) (n c:Nat) (L:List (Txt)) (w:World) (h:Ts w A n L) (D:n<=9223372036854775807)
  (E:∀ (W:World) (x:Txt),x∈L->eD w W->Calls prog g (#[.string (str x)]++lb) W fun e w'=>e=.returned (.bool (p x))/\eD W w') :
  Calls prog 159 #[.slice A n c,.func (.func g) #[] lb] w fun e w'=>e=.returned (.bool (L.any p))/\eD w w':=by
 have F:=qj g lb C p A n c L w h D E
 rw [<-gV]
 generalize bc p L=r at *
 go_enter func159,ntmps159
 go_wp2_with fail
 refine F.mono ?_
 rintro e G ⟨rfl,B⟩
 go_wp2
 go_ret
 exact⟨by first|rfl|simp,B⟩
theorem lf(k:Int) (m:Int) (t:Txt) (A:Option Addr) (n c:Nat) (M:Option Addr) (n' N:Nat) (w:World) (O:k=2\/k=3\/k=4\/k=5) (H:m=0\/k=2) (I:n'=0\/k=4\/k=5) (J:n=0\/k=5) (E:t=[]\/k=3) :
  Calls prog 228 #[.agg #[.int .i64 k,.int .i64 m,.string (str t),.slice A n c,.slice M n' N]] w fun e w'=>e=.returned (.bool true)/\eD w w':=by
 have B:∀ o,eD w (w.alloc o):=fun o=>eH
 have C:str []=⟨#[]⟩:=rfl
 rcases O with rfl|rfl|rfl|rfl
 .have e2:n'=0:=by omega
  have e3:n=0:=by omega
  have e4:t=[]:=by rcases E with h|h; exact h; omega
  subst e2 e3 e4; rw [C]; clear H I J E; by_cases L:m=0
  .subst L
   go_enter func228,ntmps228
   go_wp2_with fail
   go_ret; exact⟨rfl,B _⟩
  .have Q:(m==0)=false:=by simpa using L
   have R:decide (m=0)=false:=by simpa using L
   go_enter func228,ntmps228
   go_wp2_with fail
   go_ret; exact⟨rfl,B _⟩
 .have G:m=0:=by omega
  have e2:n'=0:=by omega
  have e3:n=0:=by omega
  subst G e2 e3; clear H I J E; by_cases ht:t=[]
  .subst ht
   rw [C]; go_enter func228,ntmps228
   go_wp2_with fail
   go_ret; exact⟨rfl,B _⟩
  .have S:decide (str t=⟨#[]⟩)=false:=by simp [str]; exact ht
   have T:(str t).toList.isEmpty=false:=by rw [mQ]; simpa using ht
   have K:t.isEmpty=false:=by simpa using ht
   have U:(t==[])=false:=by simpa using ht
   go_enter func228,ntmps228
   go_wp2_with fail
   go_ret; exact⟨rfl,B _⟩
 .have G:m=0:=by omega
  have e3:n=0:=by omega
  have e4:t=[]:=by rcases E with h|h; exact h; omega
  subst G e3 e4; rw [C]; clear H I J E; by_cases F:n'=0
  .subst F
   go_enter func228,ntmps228
   go_wp2_with fail
   go_ret; exact⟨rfl,B _⟩
  .have S:((n':Int)==0)=false:=by simp; omega
   have T:decide ((n':Int)=0)=false:=by simp; omega
   have K:(n'==0)=false:=by simpa using F
   go_enter func228,ntmps228
   go_wp2_with fail
   go_ret; exact⟨rfl,B _⟩
 .have G:m=0:=by omega
  have e4:t=[]:=by rcases E with h|h; exact h; omega
  subst G e4; rw [C]; clear H I J E; by_cases F:n'=0 <;> by_cases D:n=0
  .subst F D
   go_enter func228,ntmps228
   go_wp2_with fail
   go_ret; exact⟨rfl,B _⟩
  .subst F
   have K:(n==0)=false:=by simpa using D
   go_enter func228,ntmps228
   go_wp2_with fail
   go_ret; exact⟨rfl,B _⟩
  .subst D
   have K:(n'==0)=false:=by simpa using F
   go_enter func228,ntmps228
   go_wp2_with fail
   go_ret; exact⟨rfl,B _⟩
  .have K:(n'==0)=false:=by simpa using F
   have U:(n==0)=false:=by simpa using D
   go_enter func228,ntmps228
   go_wp2_with fail
   go_ret; exact⟨rfl,B _⟩
end
end Go.Proofs.YtmbpnkacggngkaaGreatDoor
section
namespace Go.Proofs
open Go.Shelf
theorem Tryz.Builder_Extra_169:Builder.Extra Tryz.prog Tryz.lays169_ren:={
 sizeBuilder:=by kernel_rfl
 liesBuilder:=by kernel_rfl
 t5:=Tryz.underlying5
 a5:=Tryz.isAgg5
 z5:=Tryz.sizeOf5
 v5:=Tryz.zeroValue5
 infoByte:=by kernel_rfl
 cellsByte:=by kernel_rfl
 sizeByte:=by kernel_rfl
 neB5:=by decide }
open Go.RowKit in
theorem Tryz.Builder_String_any(B b:Nat) (l:List UInt8) (w:World) (h:Lib.IsBuilder 214 5 B b (Lib.byteCells l) w) (hBw:B≤w.heap.size) :
  Calls Tryz.prog 202 #[.pointer (some ⟨b,0,none⟩)] w fun e w'=>e=.returned (.string ⟨l.toArray⟩)∧Below B w w':=Any.Builder_String_any Tryz.lays169 Tryz.Builder_Extra_169 B b l w h hBw
def Tryz.laysGw17_ren:Go.Shelf.Ren:=⟨fun|17=>230|15=>258|20=>272|n=>n,fun|9=>9|23=>241|4=>4|3=>3|0=>0|21=>21|n=>n,fun|n=>n⟩
theorem Tryz.laysGw17:Go.Proofs.LaysGw.n17 Tryz.prog Tryz.laysGw17_ren:={
 mixed:=by kernel_rfl
 f15:=Tryz.func258.trans (congrArg some (by kernel_rfl))
 f17:=Tryz.func230.trans (congrArg some (by kernel_rfl))
 f20:=Tryz.func272.trans (congrArg some (by kernel_rfl))
 t0:=Tryz.underlying0
 a0:=Tryz.isAgg0
 z0:=Tryz.sizeOf0
 v0:=Tryz.zeroValue0
 i0:=by kernel_rfl
 t3:=Tryz.underlying3
 a3:=Tryz.isAgg3
 z3:=Tryz.sizeOf3
 v3:=Tryz.zeroValue3
 i3:=by kernel_rfl
 t4:=Tryz.underlying4
 a4:=Tryz.isAgg4
 z4:=Tryz.sizeOf4
 v4:=Tryz.zeroValue4
 i4:=by kernel_rfl
 t9:=Tryz.underlying9
 a9:=Tryz.isAgg9
 z9:=Tryz.sizeOf9
 v9:=Tryz.zeroValue9
 i9:=by kernel_rfl
 t21:=Tryz.underlying21
 a21:=Tryz.isAgg21
 z21:=Tryz.sizeOf21
 v21:=Tryz.zeroValue21
 i21:=by kernel_rfl
 t23:=Tryz.underlying241
 a23:=Tryz.isAgg241
 z23:=Tryz.sizeOf241
 v23:=Tryz.zeroValue241
 i23:=by kernel_rfl }
open Go.RowKit Go.Lib in
theorem Tryz.strings_ContainsFunc_runes(g:Nat) (lb:Array Value) (eg:∀ args w,(callFunc g args).run Tryz.prog w=.ok (.enter g args) w) (p:Nat→Bool) (s:ByteArray) (w:World) (hp:PredAtRunes Tryz.prog g lb p w) :
  Calls Tryz.prog 230 #[.string s,.func (.func g) #[] lb] w fun e w'=>e=.returned (.bool (decide (0≤Lib.idxFunc p true s)))∧Below w.heap.size w w':=Any.strings_ContainsFunc_runes Tryz.laysGw17 g lb eg p s w hp
end Go.Proofs
end
namespace Go.Proofs.YtmbpnkacggngkaaGreatDoor
open Batch
open Tryz
section
open Go.RowKit Mem Led
def Asc (t:Txt):Prop:=∀ c∈t,c.toNat<=126
theorem tW(s:ByteArray) (i:Nat) (h:(s.get! i).toNat<128):Utf8.decode s i=((s.get! i).toNat,1):=by
 unfold Utf8.decode
 simp only [Nat.add_zero]
 rw [if_pos h]
theorem get_str(t:Txt) (i:Nat) (h:i<t.length):(str t).get! i=t[i]:=by
 show (str t).data[i]! = _
 have:(str t).data=t.toArray:=by simp [str]
 rw [this]
 simp [h]
theorem idx_asc{p:Nat->Bool} (B:∀ x,x<=126->p x=false) {t:Txt} (ht:Asc t):∀ f A,Lib.idxFuncFrom p true (str t) f A = -1
 | 0,_=>rfl
 | f+1,A=>by
  unfold Lib.idxFuncFrom; split
  .rename_i hlt
   rw [aJ] at hlt; have C:=get_str t A hlt; have D:=ht _ (List.getElem_mem hlt); rw [tW _ _ (by rw [C]; omega),C]
   rw [if_neg (by rw [B _ D]; simp)]
   exact idx_asc B ht f _
  .rfl
theorem right11_any(x:Nat) (hx:x<=1114111) (W:World):Calls prog 231 (#[.int .i32 (x:Int)]++#[]) W fun e w'=>e=.returned (.bool (decide (126<x)))/\∃ q,w'=W.drewN q:=by
 by_cases h:126<x
 .rw [decide_eq_true h]
  have A:(126:Int)<(x:Int):=by omega
  go_enter func231,ntmps231
  go_wp2; go_ret; exact⟨rfl,0,rfl⟩
 .rw [decide_eq_false h]
  have A:¬ (126:Int)<(x:Int):=by omega
  go_enter func231,ntmps231
  go_wp2; go_ret; exact⟨rfl,0,rfl⟩
theorem ii(t:Txt) (ht:Asc t) (W:World):Calls prog 229 #[.string (str t)] W fun e w'=>e=.returned (.bool false)/\eD W w':=by
 have A:=Tryz.strings_ContainsFunc_runes 231 #[] (enters_of func231 (by kernel_rfl) rfl) (fun x=>decide (126<x)) (str t) W (fun B x hx _=>right11_any x hx B)
 rw [show decide (0<=Lib.idxFunc (fun x=>decide (126<x)) true (str t))=false by
  unfold Lib.idxFunc; rw [idx_asc (fun x hx=>by simp; omega) ht]
  rfl] at A
 go_enter func229,ntmps229
 go_wp2_with fail
 refine A.mono ?_
 rintro e D ⟨rfl,C⟩
 go_wp2
 go_ret
 exact⟨rfl,C⟩
theorem ts_take2{w:World} {A:Option Addr} {n:Nat} {L:List Txt} (h:Ts w A n L) {k:Nat} (B:k<=n):Ts w A k (L.take k):=by
 have:=Vs.take h B
 rw [Nat.mul_one] at this
 unfold Ts tv at *
 rw [List.map_take]
 exact this
theorem pA(k:JsV) (A d:Nat) (hd:d<=1000) (W:World) (D:W.cell? ⟨A,0,none⟩=some (.int .i64 (d:Int))) (I:∀ E,eD W E->Calls prog 199 #[.agg (ar k).toArray,.int .i64 ((d:Int) - 1)] E fun e F=>e=.returned (.bool true)/\eD E F) :
  Calls prog 233 (#[.agg (ar k).toArray]++#[.pointer (some ⟨A,0,none⟩)]) W fun e w'=>e=.returned (.bool false)/\eD W w':=by
 have B:=World.block_lt_of_cell? W _ D
 simp only [] at B
 have C:eD W (W.alloc (.cells (ar k).toArray 197)):=eH
 have J:=bM (Blk.new W (ar k) 197)
 have G:=I _ C
 have K:(W.alloc (.cells (ar k).toArray 197)).cell? ⟨A,0,none⟩=some (.int .i64 (d:Int)):=(C.cell (p:=⟨A,0,none⟩) B).trans D
 clear I D
 show Calls prog 233 #[.agg (ar k).toArray,.pointer (some ⟨A,0,none⟩)] W _
 generalize (ar k).toArray=X at *
 have L:wrap64 ((d:Int) - 1)=(d:Int) - 1:=by unfold wrap64; omega
 go_enter func233,ntmps233
 go_wp2_with fail
 refine G.mono ?_
 rintro e M ⟨rfl,H⟩
 go_wp2_with fail
 go_ret
 exact⟨rfl,C.trans (H.mono C.size)⟩
theorem right_2(w:World) (d:Nat) (m:Int) (y : -1000000000000000<=m) (z:m<=1000000000000000) :
  Calls prog 199 #[.agg #[.int .i64 2,.int .i64 m,.string ⟨#[]⟩,.slice none 0 0,.slice none 0 0],.int .i64 (d:Int)] w fun e w'=>e=.returned (.bool true)/\eD w w':=by
 have N:str []=⟨#[]⟩:=rfl
 obtain⟨W,O⟩:=eA ((w.alloc (.cells (ar ⟨2,m,[],.slice none 0 0,.slice none 0 0⟩).toArray 197)).alloc (.cells ([.int .i64 (d:Int)]:List Value).toArray 3))
 have U:Blk W w.heap.size (ar ⟨2,m,[],.slice none 0 0,.slice none 0 0⟩) 197:=by rw [<-O]; exact(Blk.new _ _ _).alloc _
 have h:Blk W (w.heap.size+1) [.int .i64 (d:Int)] 3:=by
  have:=Blk.new (w.alloc (.cells (ar ⟨2,m,[],.slice none 0 0,.slice none 0 0⟩).toArray 197)) [.int .i64 (d:Int)] 3; rw [<-O]; simpa using this
 have Q:eD w W:=by rw [<-O]; exact eH.alloc (by simp) _
 have I:=lf 2 m [] none 0 0 none 0 0 W (by omega) (by omega) (by omega) (by omega) (by first|exact .inl rfl|exact .inr rfl)
 have V:(mC (.pointer (some ⟨w.heap.size,0,none⟩))).run prog W=.ok (.agg #[.int .i64 2,.int .i64 m,.string ⟨#[]⟩,.slice none 0 0,.slice none 0 0]) W:=bM U
 have k:Hid ((w.alloc (.cells #[.int .i64 2,.int .i64 m,.string ⟨#[]⟩,.slice none 0 0,.slice none 0 0] 197)).alloc (.cells #[.int .i64 (d:Int)] 3)=W):=hO O
 clear O
 rw [N] at I
 obtain⟨o,q⟩:=eA (((d:Int)==0))
 go_enter func199,ntmps199
 go_upto_region 1 with fail
 rw [k.out]
 clear k
 go_wp2_with fail
 refine I.mono ?_
 rintro e D ⟨rfl,B⟩
 have E:eD w D:=Q.trans (B.mono Q.size)
 have J:=U.below B
 have X:=h.below B
 have Y:D.cell? ⟨w.heap.size,0,none⟩=some (.int .i64 2):=J.cell 0
 have Z:D.cell? ⟨w.heap.size,1,none⟩=some (.int .i64 m):=J.cell 1
 have k2:D.cell? ⟨w.heap.size,2,none⟩=some (.string ⟨#[]⟩):=J.cell 2
 have k3:D.cell? ⟨w.heap.size,3,none⟩=some (.slice none 0 0):=J.cell 3
 have k4:D.cell? ⟨w.heap.size,4,none⟩=some (.slice none 0 0):=J.cell 4
 have k5:D.cell? ⟨w.heap.size+1,0,none⟩=some (.int .i64 (d:Int)):=X.cell 0
 have A:=ii [] (fun c r=>by cases r) D
 clear I V U h B
 rw [N] at A
 cases o
 all_goals
  go_wp2_with fail
  refine A.mono ?_; rintro e T ⟨rfl,C⟩; have F:eD w T:=E.trans (C.mono E.size); have b:=J.below C; have l:=X.below C; have s:T.cell? ⟨w.heap.size,3,none⟩=some (.slice none 0 0):=b.cell 3; have K:=jP 229 #[] (enters_of func229 (by kernel_rfl) rfl) (fun _=>false) none 0 0 ([]:List Txt) T (Ts.empty T none) (by omega) (fun t x hx _=>by cases hx); rw [show ([]:List Txt).any (fun _=>false)=false by simp] at K; clear A Y Z k2 k3 k4 k5 J X; go_wp2_with fail
  refine K.mono ?_; rintro e R ⟨rfl,L⟩; have G:eD w R:=F.trans (L.mono F.size); have E0:=b.below L; have u:=l.below L; have Y:R.cell? ⟨w.heap.size,0,none⟩=some (.int .i64 2):=E0.cell 0; have Z:R.cell? ⟨w.heap.size,1,none⟩=some (.int .i64 m):=E0.cell 1; have k3:R.cell? ⟨w.heap.size,3,none⟩=some (.slice none 0 0):=E0.cell 3; clear K s b l C; go_wp2_with fail
  go_loopw [6,7,72] (fun _ _ i wx=>∃ j:Nat,j<=0/\i=.int .i64 (j:Int)/\eD R wx) (fun _ _ i _=>0 - (intOf i).toNat)
  case atStart=>exact⟨0,by omega,rfl,Below.refl _ _⟩
  case round =>
   clear Y Z k3; obtain⟨j,hj,rfl,M⟩:=hrel; obtain⟨wx,f⟩:∃ wx,wx=wr:=⟨_,rfl⟩; subst f; have H:eD w wx:=G.trans (M.mono G.size); have n:=E0.below M; have X1:=u.below M; have k3:wx.cell? ⟨w.heap.size,3,none⟩=some (.slice none 0 0):=n.cell 3; have k4:wx.cell? ⟨w.heap.size,4,none⟩=some (.slice none 0 0):=n.cell 4; obtain rfl:j=0:=by omega
   have S:=lm 233 #[.pointer (some ⟨w.heap.size+1,0,none⟩)] (enters_of func233 (by kernel_rfl) rfl) (fun _=>false) none 0 0 ([]:List JsV) wx (Vs.empty _ _ _ _) (by omega) (fun t x hx _=>by cases hx); rw [show ([]:List JsV).any (fun _=>false)=false from rfl] at S; go_wp2_with fail
   refine S.mono ?_; rintro e w5 ⟨rfl,g⟩; go_wp2_with fail
   go_ret; exact⟨rfl,H.trans (g.mono H.size)⟩
theorem right_3(w:World) (d:Nat) (t:Txt) (T:Asc t) :
  Calls prog 199 #[.agg #[.int .i64 3,.int .i64 0,.string (str t),.slice none 0 0,.slice none 0 0],.int .i64 (d:Int)] w fun e w'=>e=.returned (.bool true)/\eD w w':=by
 have m:str []=⟨#[]⟩:=rfl
 obtain⟨W,M⟩:=eA ((w.alloc (.cells (ar ⟨3,0,t,.slice none 0 0,.slice none 0 0⟩).toArray 197)).alloc (.cells ([.int .i64 (d:Int)]:List Value).toArray 3))
 have U:Blk W w.heap.size (ar ⟨3,0,t,.slice none 0 0,.slice none 0 0⟩) 197:=by rw [<-M]; exact(Blk.new _ _ _).alloc _
 have g:Blk W (w.heap.size+1) [.int .i64 (d:Int)] 3:=by
  have:=Blk.new (w.alloc (.cells (ar ⟨3,0,t,.slice none 0 0,.slice none 0 0⟩).toArray 197)) [.int .i64 (d:Int)] 3; rw [<-M]; simpa using this
 have N:eD w W:=by rw [<-M]; exact eH.alloc (by simp) _
 have O:=lf 3 0 t none 0 0 none 0 0 W (by omega) (by omega) (by omega) (by omega) (by first|exact .inl rfl|exact .inr rfl)
 have V:(mC (.pointer (some ⟨w.heap.size,0,none⟩))).run prog W=.ok (.agg #[.int .i64 3,.int .i64 0,.string (str t),.slice none 0 0,.slice none 0 0]) W:=bM U
 have h:Hid ((w.alloc (.cells #[.int .i64 3,.int .i64 0,.string (str t),.slice none 0 0,.slice none 0 0] 197)).alloc (.cells #[.int .i64 (d:Int)] 3)=W):=hO M
 clear M
 obtain⟨n,o⟩:=eA (((d:Int)==0))
 go_enter func199,ntmps199
 go_upto_region 1 with fail
 rw [h.out]
 clear h
 go_wp2_with fail
 refine O.mono ?_
 rintro e C ⟨rfl,A⟩
 have D:eD w C:=N.trans (A.mono N.size)
 have I:=U.below A
 have X:=g.below A
 have Y:C.cell? ⟨w.heap.size,0,none⟩=some (.int .i64 3):=I.cell 0
 have Z:C.cell? ⟨w.heap.size,1,none⟩=some (.int .i64 0):=I.cell 1
 have k2:C.cell? ⟨w.heap.size,2,none⟩=some (.string (str t)):=I.cell 2
 have k3:C.cell? ⟨w.heap.size,3,none⟩=some (.slice none 0 0):=I.cell 3
 have k4:C.cell? ⟨w.heap.size,4,none⟩=some (.slice none 0 0):=I.cell 4
 have k5:C.cell? ⟨w.heap.size+1,0,none⟩=some (.int .i64 (d:Int)):=X.cell 0
 have E:=ii t T C
 clear O V U g A
 cases n
 all_goals
  go_wp2_with fail
  refine E.mono ?_; rintro e S ⟨rfl,B⟩; have F:eD w S:=D.trans (B.mono D.size); have b:=I.below B; have k:=X.below B; have q:S.cell? ⟨w.heap.size,3,none⟩=some (.slice none 0 0):=b.cell 3; have J:=jP 229 #[] (enters_of func229 (by kernel_rfl) rfl) (fun _=>false) none 0 0 ([]:List Txt) S (Ts.empty S none) (by omega) (fun r x hx _=>by cases hx); rw [show ([]:List Txt).any (fun _=>false)=false by simp] at J; clear E Y Z k2 k3 k4 k5 I X; go_wp2_with fail
  refine J.mono ?_; rintro e Q ⟨rfl,K⟩; have G:eD w Q:=F.trans (K.mono F.size); have E0:=b.below K; have s:=k.below K; have Y:Q.cell? ⟨w.heap.size,0,none⟩=some (.int .i64 3):=E0.cell 0; have Z:Q.cell? ⟨w.heap.size,1,none⟩=some (.int .i64 0):=E0.cell 1; have k3:Q.cell? ⟨w.heap.size,3,none⟩=some (.slice none 0 0):=E0.cell 3; clear J q b k B; go_wp2_with fail
  go_loopw [6,7,72] (fun _ _ i wx=>∃ j:Nat,j<=0/\i=.int .i64 (j:Int)/\eD Q wx) (fun _ _ i _=>0 - (intOf i).toNat)
  case atStart=>exact⟨0,by omega,rfl,Below.refl _ _⟩
  case round =>
   clear Y Z k3; obtain⟨j,u,rfl,L⟩:=hrel; obtain⟨wx,c⟩:∃ wx,wx=wr:=⟨_,rfl⟩; subst c; have H:eD w wx:=G.trans (L.mono G.size); have l:=E0.below L; have y:=s.below L; have k3:wx.cell? ⟨w.heap.size,3,none⟩=some (.slice none 0 0):=l.cell 3; have k4:wx.cell? ⟨w.heap.size,4,none⟩=some (.slice none 0 0):=l.cell 4; obtain rfl:j=0:=by omega
   have R:=lm 233 #[.pointer (some ⟨w.heap.size+1,0,none⟩)] (enters_of func233 (by kernel_rfl) rfl) (fun _=>false) none 0 0 ([]:List JsV) wx (Vs.empty _ _ _ _) (by omega) (fun r x hx _=>by cases hx); rw [show ([]:List JsV).any (fun _=>false)=false from rfl] at R; go_wp2_with fail
   refine R.mono ?_; rintro e z ⟨rfl,f⟩; go_wp2_with fail
   go_ret; exact⟨rfl,H.trans (f.mono H.size)⟩
theorem right_4(w:World) (d:Nat) (Aa:1<=d) (Z:d<=1000) (A:Option Addr) (n c:Nat) (L:List JsV) (hE:Es ar 5 w A n L) (hn:n<=1000) (hk:∀ k∈L,∀ Q,eD w Q->Calls prog 199 #[.agg (ar k).toArray,.int .i64 ((d:Int) - 1)] Q fun e b=>e=.returned (.bool true)/\eD Q b) :
  Calls prog 199 #[.agg #[.int .i64 4,.int .i64 0,.string ⟨#[]⟩,.slice none 0 0,.slice A n c],.int .i64 (d:Int)] w fun e w'=>e=.returned (.bool true)/\eD w w':=by
 have R:str []=⟨#[]⟩:=rfl
 obtain⟨W,S⟩:=eA ((w.alloc (.cells (ar ⟨4,0,[],.slice none 0 0,.slice A n c⟩).toArray 197)).alloc (.cells ([.int .i64 (d:Int)]:List Value).toArray 3))
 have f:Blk W w.heap.size (ar ⟨4,0,[],.slice none 0 0,.slice A n c⟩) 197:=by rw [<-S]; exact(Blk.new _ _ _).alloc _
 have u:Blk W (w.heap.size+1) [.int .i64 (d:Int)] 3:=by
  have:=Blk.new (w.alloc (.cells (ar ⟨4,0,[],.slice none 0 0,.slice A n c⟩).toArray 197)) [.int .i64 (d:Int)] 3; rw [<-S]; simpa using this
 have T:eD w W:=by rw [<-S]; exact eH.alloc (by simp) _
 have J:=lf 4 0 [] none 0 0 A n c W (by omega) (by omega) (by omega) (by omega) (by first|exact .inl rfl|exact .inr rfl)
 have g:(mC (.pointer (some ⟨w.heap.size,0,none⟩))).run prog W=.ok (.agg #[.int .i64 4,.int .i64 0,.string ⟨#[]⟩,.slice none 0 0,.slice A n c]) W:=bM f
 have y:Hid ((w.alloc (.cells #[.int .i64 4,.int .i64 0,.string ⟨#[]⟩,.slice none 0 0,.slice A n c] 197)).alloc (.cells #[.int .i64 (d:Int)] 3)=W):=hO S
 clear S
 rw [R] at J
 have Ab:((d:Int)==0)=false:=by simp; omega
 go_enter func199,ntmps199
 go_upto_region 1 with fail
 rw [y.out]
 clear y
 go_wp2_with fail
 refine J.mono ?_
 rintro e F ⟨rfl,D⟩
 have G:eD w F:=T.trans (D.mono T.size)
 have K:=f.below D
 have h:=u.below D
 have l:F.cell? ⟨w.heap.size,0,none⟩=some (.int .i64 4):=K.cell 0
 have m:F.cell? ⟨w.heap.size,1,none⟩=some (.int .i64 0):=K.cell 1
 have k2:F.cell? ⟨w.heap.size,2,none⟩=some (.string ⟨#[]⟩):=K.cell 2
 have k3:F.cell? ⟨w.heap.size,3,none⟩=some (.slice none 0 0):=K.cell 3
 have k4:F.cell? ⟨w.heap.size,4,none⟩=some (.slice A n c):=K.cell 4
 have k5:F.cell? ⟨w.heap.size+1,0,none⟩=some (.int .i64 (d:Int)):=h.cell 0
 have C:=ii [] (fun c hc=>by cases hc) F
 clear J g f u D
 rw [R] at C
 go_wp2_with fail
 refine C.mono ?_
 rintro e Y ⟨rfl,E⟩
 have H:eD w Y:=G.trans (E.mono G.size)
 have o:=K.below E
 have z:=h.below E
 have q3:Y.cell? ⟨w.heap.size,3,none⟩=some (.slice none 0 0):=o.cell 3
 have M:=jP 229 #[] (enters_of func229 (by kernel_rfl) rfl) (fun _=>false) none 0 0 ([]:List Txt) Y (Ts.empty Y none) (by omega) (fun Q x hx _=>by cases hx)
 rw [show ([]:List Txt).any (fun _=>false)=false by simp] at M
 clear C l m k2 k3 k4 k5 K h
 go_wp2_with fail
 refine M.mono ?_
 rintro e U ⟨rfl,N⟩
 have I:eD w U:=H.trans (N.mono H.size)
 have E0:=o.below N
 have E1:=z.below N
 have l:U.cell? ⟨w.heap.size,0,none⟩=some (.int .i64 4):=E0.cell 0
 have m:U.cell? ⟨w.heap.size,1,none⟩=some (.int .i64 0):=E0.cell 1
 have k3:U.cell? ⟨w.heap.size,3,none⟩=some (.slice none 0 0):=E0.cell 3
 clear M q3 o z E
 go_wp2_with fail
 go_loopw [6,7,72] (fun _ _ i wx=>∃ j:Nat,j<=0/\i=.int .i64 (j:Int)/\eD U wx) (fun _ _ i _=>0 - (intOf i).toNat)
 case atStart=>exact⟨0,by omega,rfl,Below.refl _ _⟩
 case round =>
  clear l m k3; obtain⟨j,hj,rfl,O⟩:=hrel; obtain⟨wx,q⟩:∃ wx,wx=wr:=⟨_,rfl⟩; subst q; have B:eD w wx:=I.trans (O.mono I.size); have X0:=E0.below O; have X1:=E1.below O; have k3:wx.cell? ⟨w.heap.size,3,none⟩=some (.slice none 0 0):=X0.cell 3; have k4:wx.cell? ⟨w.heap.size,4,none⟩=some (.slice A n c):=X0.cell 4; obtain rfl:j=0:=by omega
  have V:=lm 233 #[.pointer (some ⟨w.heap.size+1,0,none⟩)] (enters_of func233 (by kernel_rfl) rfl) (fun _=>false) A n c L wx (Es.below hE B) (by omega) (fun Q x hx r=>pA x (w.heap.size+1) d Z Q ((X1.below r).cell 0) (fun s X=>hk x hx s (B.trans ((r.trans (X.mono r.size)).mono B.size)))); rw [show L.any (fun _=>false)=false by simp] at V; go_wp2_with fail
  refine V.mono ?_; rintro e w5 ⟨rfl,t⟩; go_wp2_with fail
  go_ret; exact⟨rfl,B.trans (t.mono B.size)⟩
theorem right_5(w:World) (d:Nat) (Ah:1<=d) (l:d<=1000) (A:Option Addr) (n c:Nat) (L:List JsV) (hE:Es ar 5 w A n L) (hn:n<=1000) (D:Option Addr) (C:Nat) (G:List Txt) (m:Ts w D n G) (hF:Fit n C D) (o:∀ x∈G,Asc x) (r:G.Nodup) (hk:∀ k∈L,∀ Q,eD w Q->Calls prog 199 #[.agg (ar k).toArray,.int .i64 ((d:Int) - 1)] Q fun e s=>e=.returned (.bool true)/\eD Q s) :
  Calls prog 199 #[.agg #[.int .i64 5,.int .i64 0,.string ⟨#[]⟩,.slice D n C,.slice A n c],.int .i64 (d:Int)] w fun e w'=>e=.returned (.bool true)/\eD w w':=by
 have V:str []=⟨#[]⟩:=rfl
 obtain⟨W,X⟩:=eA ((w.alloc (.cells (ar ⟨5,0,[],.slice D n C,.slice A n c⟩).toArray 197)).alloc (.cells ([.int .i64 (d:Int)]:List Value).toArray 3))
 have t:Blk W w.heap.size (ar ⟨5,0,[],.slice D n C,.slice A n c⟩) 197:=by rw [<-X]; exact(Blk.new _ _ _).alloc _
 have B1:Blk W (w.heap.size+1) [.int .i64 (d:Int)] 3:=by
  have:=Blk.new (w.alloc (.cells (ar ⟨5,0,[],.slice D n C,.slice A n c⟩).toArray 197)) [.int .i64 (d:Int)] 3; rw [<-X]; simpa using this
 have Y:eD w W:=by rw [<-X]; exact eH.alloc (by simp) _
 have R:=lf 5 0 [] D n C A n c W (by omega) (by omega) (by omega) (by omega) (by first|exact .inl rfl|exact .inr rfl)
 have u:(mC (.pointer (some ⟨w.heap.size,0,none⟩))).run prog W=.ok (.agg #[.int .i64 5,.int .i64 0,.string ⟨#[]⟩,.slice D n C,.slice A n c]) W:=bM t
 have HW:Hid ((w.alloc (.cells #[.int .i64 5,.int .i64 0,.string ⟨#[]⟩,.slice D n C,.slice A n c] 197)).alloc (.cells #[.int .i64 (d:Int)] 3)=W):=hO X
 clear X
 rw [V] at R
 obtain⟨Ai,Aj,Ak⟩:=hF
 have Al:((d:Int)==0)=false:=by simp; omega
 go_enter func199,ntmps199
 go_upto_region 1 with fail
 rw [HW.out]
 clear HW
 go_wp2_with fail
 refine R.mono ?_
 rintro e K ⟨rfl,H⟩
 have M:eD w K:=Y.trans (H.mono Y.size)
 have S:=t.below H
 have y:=B1.below H
 have z:K.cell? ⟨w.heap.size,0,none⟩=some (.int .i64 5):=S.cell 0
 have k1:K.cell? ⟨w.heap.size,1,none⟩=some (.int .i64 0):=S.cell 1
 have k2:K.cell? ⟨w.heap.size,2,none⟩=some (.string ⟨#[]⟩):=S.cell 2
 have k3:K.cell? ⟨w.heap.size,3,none⟩=some (.slice D n C):=S.cell 3
 have k4:K.cell? ⟨w.heap.size,4,none⟩=some (.slice A n c):=S.cell 4
 have k5:K.cell? ⟨w.heap.size+1,0,none⟩=some (.int .i64 (d:Int)):=y.cell 0
 have E:=ii [] (fun c hc=>by cases hc) K
 clear R u t B1 H
 rw [V] at E
 go_wp2_with fail
 refine E.mono ?_
 rintro e w2 ⟨rfl,I⟩
 have F:eD w w2:=M.trans (I.mono M.size)
 have D0:=S.below I
 have D1:=y.below I
 have q3:w2.cell? ⟨w.heap.size,3,none⟩=some (.slice D n C):=D0.cell 3
 have T:=jP 229 #[] (enters_of func229 (by kernel_rfl) rfl) (fun _=>false) D n C G w2 (Ts.below m F) (by omega) (fun Q x hx _=>ii x (o x hx) Q)
 rw [show G.any (fun _=>false)=false by simp] at T
 clear E z k1 k2 k3 k4 k5 S y
 go_wp2_with fail
 refine T.mono ?_
 rintro e Z ⟨rfl,U⟩
 have N:eD w Z:=F.trans (U.mono F.size)
 have E0:=D0.below U
 have E1:=D1.below U
 have z:Z.cell? ⟨w.heap.size,0,none⟩=some (.int .i64 5):=E0.cell 0
 have k1:Z.cell? ⟨w.heap.size,1,none⟩=some (.int .i64 0):=E0.cell 1
 have k3:Z.cell? ⟨w.heap.size,3,none⟩=some (.slice D n C):=E0.cell 3
 clear T q3 D0 D1 I
 go_wp2_with fail
 go_loopw [6,7,72] (fun _ _ i wx=>∃ j:Nat,j<=n/\i=.int .i64 (j:Int)/\eD Z wx) (fun _ _ i _=>n - (intOf i).toNat)
 case atStart=>exact⟨0,by omega,rfl,Below.refl _ _⟩
 case round =>
  clear z k1 k3; obtain⟨j,hj,rfl,J⟩:=hrel; obtain⟨wx,Aa⟩:∃ wx,wx=wr:=⟨_,rfl⟩; subst Aa; have B:eD w wx:=N.trans (J.mono N.size); have X0:=E0.below J; have X1:=E1.below J; have k3:wx.cell? ⟨w.heap.size,3,none⟩=some (.slice D n C):=X0.cell 3; have k4:wx.cell? ⟨w.heap.size,4,none⟩=some (.slice A n c):=X0.cell 4; by_cases Am:j<n
  .have An:=m.len
   have b:=Ts.below m B; obtain⟨bb,Ab,rfl,Ac⟩:=b.lit (i:=j) (by omega); have O:=jS (some ⟨bb,Ab,none⟩) j C (G.take j) (G[j]'(by omega)) wx (ts_take2 b (by omega)) (by omega); have Ad:(G.take j).contains (G[j]'(by omega))=false:=by
    rw [List.contains_eq_mem]; simp only [decide_eq_false_iff_not]; intro hm; obtain⟨q,hq,he⟩:=List.getElem_of_mem hm; rw [List.length_take] at hq; rw [List.getElem_take] at he; exact(List.nodup_iff_pairwise_ne.1 r |> fun hp=>(List.pairwise_iff_getElem.1 hp) q j (by omega) (by omega) (by omega)) he
   rw [Ad] at O; have Ao:(j:Int)<(n:Int):=by omega
   have Ap:(j:Int)<=(C:Int):=by omega
   generalize G[j]'(by omega)=sj at *; go_wp2_with fail
   refine O.mono ?_; rintro e w4 ⟨rfl,Ae⟩; have f:=Ae.symm; subst f; go_wp2; go_roundw
   case rel=>exact⟨j+1,by omega,by go_num,J⟩
   case measure=>simp [intOf]; omega
  .have Aq:(n:Int)<=(j:Int):=by omega
   have g:=lm 233 #[.pointer (some ⟨w.heap.size+1,0,none⟩)] (enters_of func233 (by kernel_rfl) rfl) (fun _=>false) A n c L wx (Es.below hE B) (by omega) (fun Q x hx hb=>pA x (w.heap.size+1) d l Q ((X1.below hb).cell 0) (fun Af h=>hk x hx Af (B.trans ((hb.trans (h.mono hb.size)).mono B.size)))); rw [show L.any (fun _=>false)=false by simp] at g; go_wp2_with fail
   refine g.mono ?_; rintro e w5 ⟨rfl,Ag⟩; go_wp2_with fail
   go_ret; exact⟨rfl,B.trans (Ag.mono B.size)⟩
end
section
open Go.RowKit Mem
theorem kL(b:Nat) (w:World) (h0:w.cell? ⟨b,0,none⟩=some (.pointer (some ⟨b,0,none⟩))) :
  Calls prog 257 #[.pointer (some ⟨b,0,none⟩)] w fun e w'=>e=.returned (.tuple #[])/\w'=w:=by
 have X:=Tryz.Builder_Extra_169
 obtain⟨j,A,_⟩:=Option.map_eq_some_iff.1 X.sizeBuilder
 have B:=fun W=>Lib.run_neq_ptr_same (P:=prog) W ⟨b,0,none⟩ underlying212 A
 go_enter func257,ntmps257
 go_wp2
 go_end0
 exact⟨rfl,rfl⟩
theorem ov(b:Nat) (w:World) (h0:w.cell? ⟨b,0,none⟩=some (.pointer none)) (A:w.shape? b=some (216,2)) (D:w.frozen? ⟨b,0,none⟩=false) :
  Calls prog 257 #[.pointer (some ⟨b,0,none⟩)] w fun e w'=>e=.returned (.tuple #[])/\w'=w.setCell ⟨b,0,none⟩ (.pointer (some ⟨b,0,none⟩)):=by
 have X:=Tryz.Builder_Extra_169
 obtain⟨j,C,B⟩:=Option.map_eq_some_iff.1 X.sizeBuilder
 go_enter func257,ntmps257
 go_wp2
 rw [Lib.run_to_unsafe w ⟨b,0,none⟩ underlying212 underlying286 C (by rw [B]; decide) A (Nat.zero_lt_succ 1)]
 simp only [Result.andThen]
 rw [Oper.upon_value]
 go_wp2
 rw [run_callFunc_extern func271 (by kernel_rfl) (by kernel_rfl) (by kernel_rfl) (e:=Extern.AbiNoEscape.same) (by kernel_rfl)]
 rw [Lib.run_noEscape]
 simp only [Result.andThen]
 rw [Oper.upon_value]
 go_wp2
 rw [Lib.run_from_unsafe w ⟨b,0,none⟩ underlying286 underlying212 C A (by kernel_rfl)]
 simp only [Result.andThen]
 rw [Oper.upon_value]
 go_wp2
 go_end0
 exact⟨rfl,rfl⟩
end
end Go.Proofs.YtmbpnkacggngkaaGreatDoor
