/- LedItAdd, LedRaw, LedRawA, LedItems, BytesMin, LedCodes, LedSameP, MixG, LedTab (put together by bundle.py: only what is needed). -/
import Derived.Test.YtmbpnkacggngkaaGreatDoorRows
import Derived.LaidMore
import Derived.Lay
import Derived.Test.YtmbpnkacggngkaaGreatDoorLI16
set_option maxRecDepth 100000
set_option maxHeartbeats 16000000
namespace Go.Proofs.YtmbpnkacggngkaaGreatDoor
open Batch
open Go.Proofs.Tryz
section
open Go.RowKit Mem Led
def bg(p:Led.Op × Value × Value):List Value:=ac p.1 p.2.1 p.2.2
theorem gI(p:Led.Op × Value × Value):(bg p).length=24:=rfl
theorem tH{p:Led.Op × Value × Value}(B:p.2.1.oneCell'=true)(C:p.2.2.oneCell'=true):∀u∈bg p,u.oneCell'=true:=by
 intro u A
 simp only[bg,ac,List.mem_cons,List.not_mem_nil,or_false] at A
 rcases A with rfl|rfl|rfl|rfl|rfl|rfl|rfl|rfl|rfl|rfl|rfl|rfl|rfl|rfl|rfl|rfl|rfl|rfl|rfl|rfl|rfl|rfl|rfl|rfl<;>first|rfl|exact B|exact C
theorem infoOp:(prog.info? 47).map (fun i=>(i.zero,i.size,i.bytes))=some (some (.agg (ac fe (.slice none 0 0) (.slice none 0 0)).toArray),24,312):=by kernel_rfl
theorem iM(k:Int)(o:Led.Op)(sv kv:Value)(go base:Nat)(A:Option Addr)(n c:Nat)(P:List (Led.Op × Value × Value))(w:World)(M:Blk w go [.slice A n c] 22)(D:w.ownsRow base 47 24 (.slice A n c) n (ah bg P))(l:n=P.length)(hP:n<=100000)(z:base<=w.heap.size)(hk:0<=k/\k<=100)
  (h1:sv.oneCell'=true) (h2:kv.oneCell'=true) :
  Calls prog 36 #[.int .i64 k,.agg (ac o sv kv).toArray,.pointer (some ⟨go,0,none⟩)] w fun e w'=>e=.returned (.tuple #[])/\bK bg 24 47 base go 0 (.slice A n c) (P++[({ o with kind:=100+k },sv,kv)]) w w':=by
 obtain⟨O,Y⟩:∃O,O=({ o with kind:=100+k }:Led.Op):=⟨_,rfl⟩
 obtain⟨W,V⟩:=eC (w.alloc (.cells (ac O sv kv).toArray 47))
 have m:Blk W w.heap.size (ac O sv kv) 47:=by rw[<-V];exact Blk.new w _ _
 have F:eF w W:=eG V
 have q:∃u,(w.alloc (.cells (ac o sv kv).toArray 47)).cell? ⟨w.heap.size,0,none⟩=some u:=⟨_,(Blk.new w _ _).cell 0⟩
 have r:(w.alloc (.cells (ac o sv kv).toArray 47)).frozen? ⟨w.heap.size,0,none⟩=false:=(Blk.new w _ _).froz 0
 have N:=eS m rfl
 have Q:=M.below F
 have s:W.cell? ⟨go,0,none⟩=some (.slice A n c):=Q.cell 0
 obtain⟨J,G⟩:=eC (W.alloc (.cells (ac O sv kv).toArray 47))
 have C:eF w J:=by rw[<-G];exact F.alloc F.size _
 have Z:Blk J W.heap.size (bg (O,sv,kv)) 47:=by rw[<-G];exact Blk.new W _ _
 obtain⟨iT,b,d,f,g⟩:=an infoOp
 have R:Vs J J.heap.size 24 (some ⟨W.heap.size,0,none⟩) 1 (bg (O,sv,kv)):=⟨rfl,fun j u hj=>⟨_,rfl,Z.lt,by rw[aZ,Z.cell j];exact hj⟩⟩
 obtain⟨v',X,S,B,K,T⟩:=bj (P:=prog) J base 22 22 47 iT _ 24 312 underlying22 b d f g rfl (by omega) _ n _ (af D C eH) J.heap.size (some ⟨W.heap.size,0,none⟩) 1 1 (bg (O,sv,kv)) R (tH h1 h2) (by unfold maxLen;omega) (by omega) (Nat.le_trans z C.size)
 obtain⟨A',c',rfl,_,_⟩:=aj B
 have U:=ax D M (by decide)
 have E:=K.block go (M.below C).lt (fun e=>U e.symm)
 have Aa:X.cell? ⟨go,0,none⟩=some (.slice A n c):=(World.cell?_of_block (a:=⟨go,0,none⟩) E).trans ((M.below C).cell 0)
 have Ab:X.frozen? ⟨go,0,none⟩=false:=(World.frozen?_of_block (a:=⟨go,0,none⟩) E).trans ((M.below C).froz 0)
 have I:ah bg P++bg (O,sv,kv)=ah bg (P++[(O,sv,kv)]):=by rw[aT];simp[ah]
 rw[I] at B
 have t:bK bg 24 47 base go 0 (.slice A n c) (P++[(O,sv,kv)]) J (X.setCell ⟨go,0,none⟩ (.slice A' (n+1) c')):=⟨_,X,rfl,K,by rw[List.length_append,<-l];exact B,T.imp id (fun h=>⟨_,eH,h⟩)⟩
 have HS:=eA (iI C t)
 have Ac:100+k<=9223372036854775807:=by omega
 have L:=eA G
 rw[<-Y]
 obtain⟨x,H⟩:=eD ((ac o sv kv).toArray)
 have y:Hid (w.alloc (.cells (x.setIfInBounds 0 (.int .i64 (100+k))) 47)=W):=eA (by rw[<-H.out,<-V,Y];rfl)
 have i:∃u,x[0]?=some u:=⟨_,by rw[<-H.out];rfl⟩
 obtain⟨u0,Ad⟩:=i
 rw[H.out] at q r ⊢
 unfold ac at N L
 simp only[nm,tx] at N L
 clear V G m F Q C Z R B K T E I U t D M H l Y
 go_enter func36,ntmps36
 go_upto_region 2 with fail
 rw[y.out]
 clear q r y
 go_wp2_with (at_builtin;rw[L.out];refine Lib.wpList_append_run _ rfl _ _ _ _ rfl _ _ rfl rfl _ _ S ?_)
 go_end0
 exact⟨rfl,HS.out⟩
end
section
open Go.RowKit Mem Led
theorem ma{w:World}{b k n:Nat}{e:TypeId}{v:Value}{xs:List Value}(h:w.ownsRow b e k v n xs):v.oneCell'=true:=by
 obtain⟨A,c,rfl,_⟩:=aj h
 rfl
theorem ent_one2(x:Led.Entry × Value)(h:x.2.oneCell'=true):∀u∈ag x,u.oneCell'=true:=by
 intro u A
 simp only[ag,List.mem_cons,List.not_mem_nil,or_false] at A
 rcases A with rfl|rfl|rfl|rfl|rfl<;>first|exact h|rfl
theorem bun_one2(x:Led.Bundle × Value)(h:x.2.oneCell'=true):∀u∈ai x,u.oneCell'=true:=by
 intro u A
 simp only[ai,List.mem_cons,List.not_mem_nil,or_false] at A
 rcases A with rfl|rfl|rfl<;>first|exact h|rfl
theorem LAt.below{base gl:Nat}{w w':World}{vE vN vB vJ vK vU:Value}{L:Led.Ledger}{E:List (Led.Entry × Value)}{U:List (Led.Bundle × Value)}(h:LAt base gl w vE vN vB vJ vK vU L E U)(A:eF w w'):LAt base gl w' vE vN vB vJ vK vU L E U :=
 ⟨h.wk.below A,h.blk.below A,h.hgl,Nat.le_trans h.hb A.size⟩
theorem raw_any{base gl:Nat}{vE vN vB vJ vK vU:Value}{L:Led.Ledger}{E:List (Led.Entry × Value)}{U:List (Led.Bundle × Value)}(o:Led.Op)(sv kv:Value)(w:World)(H:LAt base gl w vE vN vB vJ vK vU L E U)(y:L.Small)(z:w.ownsRow base 9 1 sv o.entry.sels.length (ah al o.entry.sels))(Aa:iq sv vB)(Ab:w.ownsRow base 54 2 kv o.bundle.keys.length (ah aN o.bundle.keys))
  (hk:iH o.kind) :
  Calls prog 56 #[.pointer (some ⟨gl,0,none⟩),.agg (ac o sv kv).toArray] w (Did base gl (dm L o,0) w):=by
 have X:E.length=L.entries.length:=by rw[<-H.wk.ents,List.length_map]
 have Y:U.length=L.bundles.length:=by rw[<-H.wk.buns,List.length_map]
 obtain⟨W,hW⟩:=eC (w.alloc (.cells (ac o sv kv).toArray 47))
 have b0:Blk W w.heap.size (ac o sv kv) 47:=by rw[<-hW];exact Blk.new w _ _
 have D:eF w W:=eG hW
 have HW:=eA hW
 clear hW
 obtain⟨CS,Ae⟩:=eD ((ac o sv kv).toArray)
 rw[Ae.out] at HW ⊢
 obtain⟨kk,Q⟩:=eD (o.kind)
 have c0:W.cell? ⟨w.heap.size,0,none⟩=some (.int .i64 kk):=(b0.cell 0).trans (by rw[<-Q.out];rfl)
 obtain⟨R,t⟩:=eD (dm L o)
 rw[Q.out] at hk
 rw[t.out]
 have K:=eA H
 have M:=eA b0
 have HK:=eA hk
 have Ac:=eA z
 have Ad:=eA Ab
 have Af:=eA Aa
 clear b0 H hk z Ab Aa
 go_enter func56,ntmps56
 go_upto_region 1 with fail
 rw[HW.out]
 clear HW
 rcases HK.out with rfl|rfl|rfl|rfl|rfl|rfl
 .have hd:Hid (R={ L with entries:=L.entries++[o.entry] }):=eA (by rw[<-t.out];unfold dm;rw[Q.out];rfl)
  obtain⟨A,c,Z,_,_⟩:=aj K.out.wk.oE;subst Z;have Ag:E.length<=1000:=by have:=y.e;omega
  clear X Y;have d:∀p,(ab W p).cell? ⟨gl,0,none⟩=some (.slice A E.length c):=fun p=>(K.out.blk.below (D.trans ((aa W p).mono D.size))).cell 0;have V:∀p,(gz (.pointer (some ⟨w.heap.size,3,none⟩))).run prog (ab W p)=.ok (.agg (ag (o.entry,sv)).toArray) (ab W p):=fun p=>lv (M.out.below (aa W p));unfold ag at V;go_upto_region 3 with fail
  refine bq [0] [1,2,3,4,5,6] 7 [8,9,10,11] (ag (o.entry,sv)) 36 ?_;simp only[pick,List.getD_cons_zero,List.getD_cons_succ];repeat (go_big_quiet_step (fail))
  refine wpQuiet_nil ?_;repeat (go_big_quiet_step (fail))
  refine wpQuiet_nil ?_;refine⟨_,rfl,rfl,fun w4 N=>?_,fun gx f O g F=>?_⟩
  .go_simp
   exact eR N
  .have B:eF w f:=D.trans (O.below.mono D.size)
   have C:=K.out.below B;obtain⟨i,m,q,G,r,s,S⟩:=dQ (enc:=ag) (L:=E) (x:=(o.entry,sv)) (sl:=0) gR underlying23 C.hb C.blk rfl (ax C.wk.oE C.blk (by decide)) C.wk.oE rfl (by omega) (ent_one2 (o.entry,sv) (ma Ac.out)) F;obtain⟨v8,T,I⟩:=C.slotE (l:=L.entries++[o.entry]) S (by rw[List.map_append,C.wk.ents];rfl) (fun p hp=>by
    rcases List.mem_append.1 hp with h|h
    .exact C.wk.sels p h
    .rw [List.mem_singleton.1 h]
     exact⟨af Ac.out B eH,Af.out⟩)
   have J:Hid (Did base gl (R,0) w (.returned (.int .i64 0)) (q.setCell ⟨gl,0,none⟩ (.slice i (E.length+1) m))):=eA (by
    rw[hd.out];exact⟨rfl,(B.mono K.out.hb).trans I,fun _=>⟨_,_,_,_,_,_,_,_,T⟩⟩)
   clear S T I F C d V K M;go_wp2_with (at_builtin;refine Lib.wpList_append_run _ rfl _ _ _ _ rfl _ _ rfl rfl _ _ G ?_)
   (try rw[ak])
   (try go_wp2)
   go_ret;exact J.out
 .have hd:Hid (R={ L with joins:=L.joins++[o.join] }):=eA (by rw[<-t.out];unfold dm;rw[Q.out];rfl)
  obtain⟨A,c,Z,_,_⟩:=aj K.out.wk.oJ;subst Z;have Ah:L.joins.length<=1000:=by have:=y.j;omega
  clear X Y;have d:∀p,(ab W p).cell? ⟨gl,3,none⟩=some (.slice A L.joins.length c):=fun p=>(K.out.blk.below (D.trans ((aa W p).mono D.size))).cell 3;have V:∀p,(ny (.pointer (some ⟨w.heap.size,8,none⟩))).run prog (ab W p)=.ok (.agg (vq o.join).toArray) (ab W p):=fun p=>nt (M.out.below (aa W p));unfold vq at V;go_upto_region 5 with fail
  refine bq [0] [1,2,3,4,5,6] 7 [8,9,10,11] (vq o.join) 38 ?_;simp only[pick,List.getD_cons_zero,List.getD_cons_succ];repeat (go_big_quiet_step (fail))
  refine wpQuiet_nil ?_;repeat (go_big_quiet_step (fail))
  refine wpQuiet_nil ?_;refine⟨_,rfl,rfl,fun w4 N=>?_,fun gx f O g F=>?_⟩
  .go_simp
   exact eR N
  .have B:eF w f:=D.trans (O.below.mono D.size)
   have C:=K.out.below B;obtain⟨i,m,q,G,r,s,S⟩:=dQ (enc:=vq) (L:=L.joins) (x:=o.join) (sl:=3) nz underlying26 C.hb C.blk rfl (ax C.wk.oJ C.blk (by decide)) C.wk.oJ rfl (by omega) (jm _) F;obtain⟨v8,T,I⟩:=C.slotJ S;have J:Hid (Did base gl (R,0) w (.returned (.int .i64 0)) (q.setCell ⟨gl,3,none⟩ (.slice i (L.joins.length+1) m))):=eA (by
    rw[hd.out];exact⟨rfl,(B.mono K.out.hb).trans I,fun _=>⟨_,_,_,_,_,_,_,_,T⟩⟩)
   clear S T I F C d V K M;go_wp2_with (at_builtin;refine Lib.wpList_append_run _ rfl _ _ _ _ rfl _ _ rfl rfl _ _ G ?_)
   (try rw[ak])
   (try go_wp2)
   go_ret;exact J.out
 .have hd:Hid (R={ L with nodes:=L.nodes++[o.node] }):=eA (by rw[<-t.out];unfold dm;rw[Q.out];rfl)
  obtain⟨A,c,Z,_,_⟩:=aj K.out.wk.oN;subst Z;have Ai:L.nodes.length<=1000:=by have:=y.n;omega
  clear X Y;have d:∀p,(ab W p).cell? ⟨gl,1,none⟩=some (.slice A L.nodes.length c):=fun p=>(K.out.blk.below (D.trans ((aa W p).mono D.size))).cell 1;have V:∀p,(fI (.pointer (some ⟨w.heap.size,12,none⟩))).run prog (ab W p)=.ok (.agg (ae o.node).toArray) (ab W p):=fun p=>nr (M.out.below (aa W p));unfold ae at V;go_upto_region 7 with fail
  refine bq [0] [1,2,3,4,5,6] 7 [8,9,10,11] (ae o.node) 40 ?_;simp only[pick,List.getD_cons_zero,List.getD_cons_succ];repeat (go_big_quiet_step (fail))
  refine wpQuiet_nil ?_;repeat (go_big_quiet_step (fail))
  refine wpQuiet_nil ?_;refine⟨_,rfl,rfl,fun w4 N=>?_,fun gx f O g F=>?_⟩
  .go_simp
   exact eR N
  .have B:eF w f:=D.trans (O.below.mono D.size)
   have C:=K.out.below B;obtain⟨i,m,q,G,r,s,S⟩:=dQ (enc:=ae) (L:=L.nodes) (x:=o.node) (sl:=1) iz underlying24 C.hb C.blk rfl (ax C.wk.oN C.blk (by decide)) C.wk.oN rfl (by omega) (cX _) F;obtain⟨v8,T,I⟩:=C.slotN S;have J:Hid (Did base gl (R,0) w (.returned (.int .i64 0)) (q.setCell ⟨gl,1,none⟩ (.slice i (L.nodes.length+1) m))):=eA (by
    rw[hd.out];exact⟨rfl,(B.mono K.out.hb).trans I,fun _=>⟨_,_,_,_,_,_,_,_,T⟩⟩)
   clear S T I F C d V K M;go_wp2_with (at_builtin;refine Lib.wpList_append_run _ rfl _ _ _ _ rfl _ _ rfl rfl _ _ G ?_)
   (try rw[ak])
   (try go_wp2)
   go_ret;exact J.out
 .have hd:Hid (R={ L with bans:=L.bans++[o.name] }):=eA (by rw[<-t.out];unfold dm;rw[Q.out];rfl)
  obtain⟨A,c,Z,_,_⟩:=aj K.out.wk.oB;subst Z;have Aj:L.bans.length<=1000:=by have:=y.b;omega
  clear X Y;have d:∀p,(ab W p).cell? ⟨gl,2,none⟩=some (.slice A L.bans.length c):=fun p=>(K.out.blk.below (D.trans ((aa W p).mono D.size))).cell 2;have V:∀p,(ab W p).cell? ⟨w.heap.size,2,none⟩=some (.string (str o.name)):=fun p=>(M.out.below (aa W p)).cell 2;go_upto_region 9 with fail
  refine bq [0] [1,2,3,4,5,6] 7 [8,9,10,11] (al o.name) 9 ?_;simp only[pick,List.getD_cons_zero,List.getD_cons_succ];repeat (go_big_quiet_step (fail))
  refine wpQuiet_nil ?_;repeat (go_big_quiet_step (fail))
  refine wpQuiet_nil ?_;refine⟨_,rfl,rfl,fun w4 N=>?_,fun gx f O g F=>?_⟩
  .go_simp
   exact eR N
  .have B:eF w f:=D.trans (O.below.mono D.size)
   have C:=K.out.below B;obtain⟨i,m,q,G,r,s,S⟩:=dQ (enc:=al) (L:=L.bans) (x:=o.name) (sl:=2) gQ underlying25 C.hb C.blk rfl (ax C.wk.oB C.blk (by decide)) C.wk.oB rfl (by omega) (gB _) F;obtain⟨v8,T,I⟩:=C.slotB S;have J:Hid (Did base gl (R,0) w (.returned (.int .i64 0)) (q.setCell ⟨gl,2,none⟩ (.slice i (L.bans.length+1) m))):=eA (by
    rw[hd.out];exact⟨rfl,(B.mono K.out.hb).trans I,fun _=>⟨_,_,_,_,_,_,_,_,T⟩⟩)
   clear S T I F C d V K M;go_wp2_with (at_builtin;refine Lib.wpList_append_run _ rfl _ _ _ _ rfl _ _ rfl rfl _ _ G ?_)
   (try rw[ak])
   (try go_wp2)
   go_ret;exact J.out
 .have hd:Hid (R={ L with keys:=L.keys++[o.key] }):=eA (by rw[<-t.out];unfold dm;rw[Q.out];rfl)
  obtain⟨A,c,Z,_,_⟩:=aj K.out.wk.oK;subst Z;have Ak:L.keys.length<=1000:=by have:=y.k;omega
  clear X Y;have d:∀p,(ab W p).cell? ⟨gl,4,none⟩=some (.slice A L.keys.length c):=fun p=>(K.out.blk.below (D.trans ((aa W p).mono D.size))).cell 4;have V:∀p,(nv (.pointer (some ⟨w.heap.size,17,none⟩))).run prog (ab W p)=.ok (.agg (ar o.key).toArray) (ab W p):=fun p=>rj (M.out.below (aa W p));unfold ar at V;go_upto_region 11 with fail
  refine bq [0] [1,2,3,4,5,6] 7 [8,9,10,11] (ar o.key) 42 ?_;simp only[pick,List.getD_cons_zero,List.getD_cons_succ];repeat (go_big_quiet_step (fail))
  refine wpQuiet_nil ?_;repeat (go_big_quiet_step (fail))
  refine wpQuiet_nil ?_;refine⟨_,rfl,rfl,fun w4 N=>?_,fun gx f O g F=>?_⟩
  .go_simp
   exact eR N
  .have B:eF w f:=D.trans (O.below.mono D.size)
   have C:=K.out.below B;obtain⟨i,m,q,G,r,s,S⟩:=dQ (enc:=ar) (L:=L.keys) (x:=o.key) (sl:=4) kC underlying27 C.hb C.blk rfl (ax C.wk.oK C.blk (by decide)) C.wk.oK rfl (by omega) (kz _) F;obtain⟨v8,T,I⟩:=C.slotK S;have J:Hid (Did base gl (R,0) w (.returned (.int .i64 0)) (q.setCell ⟨gl,4,none⟩ (.slice i (L.keys.length+1) m))):=eA (by
    rw[hd.out];exact⟨rfl,(B.mono K.out.hb).trans I,fun _=>⟨_,_,_,_,_,_,_,_,T⟩⟩)
   clear S T I F C d V K M;go_wp2_with (at_builtin;refine Lib.wpList_append_run _ rfl _ _ _ _ rfl _ _ rfl rfl _ _ G ?_)
   (try rw[ak])
   (try go_wp2)
   go_ret;exact J.out
 .have hd:Hid (R={ L with bundles:=L.bundles++[o.bundle] }):=eA (by rw[<-t.out];unfold dm;rw[Q.out];rfl)
  obtain⟨A,c,Z,_,_⟩:=aj K.out.wk.oU;subst Z;have Al:U.length<=1000:=by have:=y.u;omega
  clear X Y;have d:∀p,(ab W p).cell? ⟨gl,5,none⟩=some (.slice A U.length c):=fun p=>(K.out.blk.below (D.trans ((aa W p).mono D.size))).cell 5;have V:∀p,(fo (.pointer (some ⟨w.heap.size,21,none⟩))).run prog (ab W p)=.ok (.agg (ai (o.bundle,kv)).toArray) (ab W p):=fun p=>jN (M.out.below (aa W p));unfold ai at V;go_upto_region 13 with fail
  refine bq [0] [1,2,3,4,5,6] 7 [8,9,10,11] (ai (o.bundle,kv)) 45 ?_;simp only[pick,List.getD_cons_zero,List.getD_cons_succ];repeat (go_big_quiet_step (fail))
  refine wpQuiet_nil ?_;repeat (go_big_quiet_step (fail))
  refine wpQuiet_nil ?_;refine⟨_,rfl,rfl,fun w4 N=>?_,fun gx f O g F=>?_⟩
  .go_simp
   exact eR N
  .have B:eF w f:=D.trans (O.below.mono D.size)
   have C:=K.out.below B;obtain⟨i,m,q,G,r,s,S⟩:=dQ (enc:=ai) (L:=U) (x:=(o.bundle,kv)) (sl:=5) iA underlying28 C.hb C.blk rfl (ax C.wk.oU C.blk (by decide)) C.wk.oU rfl (by omega) (bun_one2 (o.bundle,kv) (ma Ad.out)) F;obtain⟨v8,T,I⟩:=C.slotU (l:=L.bundles++[o.bundle]) S (by rw[List.map_append,C.wk.buns];rfl) (fun p hp=>by
    rcases List.mem_append.1 hp with h|h
    .exact C.wk.keyss p h
    .rw [List.mem_singleton.1 h]
     exact af Ad.out B eH)
   have J:Hid (Did base gl (R,0) w (.returned (.int .i64 0)) (q.setCell ⟨gl,5,none⟩ (.slice i (U.length+1) m))):=eA (by
    rw[hd.out];exact⟨rfl,(B.mono K.out.hb).trans I,fun _=>⟨_,_,_,_,_,_,_,_,T⟩⟩)
   clear S T I F C d V K M;go_wp2_with (at_builtin;refine Lib.wpList_append_run _ rfl _ _ _ _ rfl _ _ rfl rfl _ _ G ?_)
   (try rw[ak])
   (try go_wp2)
   go_ret;exact J.out
end
section
open Go.RowKit Mem Led
theorem vk(cs:List Value)(L:Led.Ledger)(E:List (Led.Entry × Value))(U:List (Led.Bundle × Value))(o:Led.Op)(sv kv:Value)(w:World)(J:dk w cs L E U)(H:L.Small)(A:br w sv o.entry.sels)(B:aV aN 2 w kv o.bundle.keys)
  (C:o.entry.sels.length<=1000) (D:o.bundle.keys.length<=1000) (I:iH o.kind):Calls prog 14 #[.agg cs.toArray,.agg (ac o sv kv).toArray] w (mj (fun r=>r=(dm L o,0)) L w):=by
 refine bD cs L E U o sv kv 56 _ w J H A B C D ?_ (enters_of func56 (by kernel_rfl) rfl) ?_
 .rcases I with h|h|h|h|h|h<;>(rw[h];kernel_rfl)
 .intro base gl W vE vN vB vJ vK vU R S F G T K M N O Q
  exact(raw_any o F G W M H N O Q I).mono fun x w' h=>⟨_,rfl,h⟩
end
section
open Go.RowKit Mem Led
theorem blk_ne{w:World}{g B:Nat}{M M':List Value}{e e':TypeId}(h:Blk w g M e)(A:Blk w B M' e')(C:e≠e'):g≠B:=fun D=>by
 subst D
 unfold Blk at h A
 rw[h] at A
 injection A with A
 injection A with _ h2 _
 exact C h2
structure ItS(w0:World)(base g1 go:Nat)(vE vN vB vJ vK vU:Value)(L:Led.Ledger)(E:List (Led.Entry × Value))(U:List (Led.Bundle × Value))(P:List (Led.Op × Value × Value))(wx:World):Prop where
 bel:eF w0 wx
 lg:Blk wx g1 [vE,vN,vB,vJ,vK,vU] 30
 wk:Wk base wx vE vN vB vJ vK vU L E U
 out:∃A c,Blk wx go [.slice A P.length c] 22/\wx.ownsRow w0.heap.size 47 24 (.slice A P.length c) P.length (ah bg P)
 hgo:w0.heap.size<=go
section
variable {w0:World}{base g1 go:Nat}{vE vN vB vJ vK vU:Value}{L:Led.Ledger}{E:List (Led.Entry × Value)}{U:List (Led.Bundle × Value)}{P:List (Led.Op × Value × Value)}{wx wy:World}
theorem ItS.below(h:ItS w0 base g1 go vE vN vB vJ vK vU L E U P wx)(B:eF wx wy):ItS w0 base g1 go vE vN vB vJ vK vU L E U P wy:=by
 obtain⟨A,c,C,D⟩:=h.out
 exact⟨h.bel.trans (B.mono h.bel.size),h.lg.below B,h.wk.below B,⟨A,c,C.below B,af D B eH⟩,h.hgo⟩
theorem ItS.add(h:ItS w0 base g1 go vE vN vB vJ vK vU L E U P wx){A:Option Addr}{c:Nat}{x:Led.Op × Value × Value}(B:Blk wx go [.slice A P.length c] 22)(C:wx.ownsRow w0.heap.size 47 24 (.slice A P.length c) P.length (ah bg P))(D:bK bg 24 47 w0.heap.size go 0 (.slice A P.length c) (P++[x]) wx wy) :
  ItS w0 base g1 go vE vN vB vJ vK vU L E U (P++[x]) wy:=by
 have K:∀{e:TypeId} {k n b:Nat} {u:Value} {xs:List Value},wx.ownsRow b e k u n xs->e≠47->e≠22->wy.ownsRow b e k u n xs:=fun H I F=>D.keeps H (dw H C I) (ax H B F)
 have w:=h.wk
 obtain⟨O,I,F,_,_⟩:=D.opened B (ax C B (by decide))
 obtain⟨J,M,e,_,_⟩:=aj F
 subst e
 exact⟨h.bel.trans (D.below h.hgo (fun g N=>(du C N).1) h.bel.size),D.blk h.lg (ax C h.lg (by decide)) (blk_ne h.lg B (by decide)),
  ⟨K w.oE (by decide) (by decide),K w.oN (by decide) (by decide),K w.oB (by decide) (by decide),K w.oJ (by decide) (by decide),K w.oK (by decide) (by decide),K w.oU (by decide) (by decide),w.ents,w.buns,fun p G=>⟨K (w.sels p G).1 (by decide) (by decide),(w.sels p G).2⟩,fun p G=>K (w.keyss p G) (by decide) (by decide)⟩,
  ⟨J,M,I,F⟩,h.hgo⟩
end
theorem nf{T:TypeId}{k:Nat}(F:(prog.info? T).map (·.size)=some k)(w:World)(Z cs:List Value)(A:Z.length=k)(h:cs.length=k)(G:∀v∈cs,v.oneCell'=true) :
  ∃B,(Instr.storeAt T (.pointer (some ⟨w.heap.size,0,none⟩)) (.agg cs.toArray)).run prog (w.alloc (.cells Z.toArray T))=.ok () B/\Blk B w.heap.size cs T/\eF w B:=by
 have C:=Blk.new w Z T
 have H:=bu (P:=prog) (w.alloc (.cells Z.toArray T)) T w.heap.size 0 k F cs.toArray ⟨by simpa using h,by simpa using G⟩ (C.has A) (fun j _=>C.froz _)
 have E:=iu cs _ w.heap.size 0 Z T C (by omega)
 simp[h,<-A] at E
 have D:Chg [] w ((w.alloc (.cells Z.toArray T)).setCells w.heap.size 0 cs):=((Chg.refl _ _).alloc _).setCells _ (.inr eH)
 refine⟨_,H,?_,D.below (fun _ h=>by cases h)⟩
 simpa [h,<-A] using E
def itP{α:Type}(P:List (Led.Op × Value × Value))(X:List α)(f:α->Led.Op × Value × Value)(j:Nat):List (Led.Op × Value × Value):=P++(X.take j).map f
section
variable {α:Type}{P:List (Led.Op × Value × Value)}{X:List α}{f:α->Led.Op × Value × Value}{j:Nat}
theorem jP:itP P X f 0=P:=by simp[itP]
theorem jQ(h:j<X.length):itP P X f (j+1)=itP P X f j++[f X[j]]:=by
 unfold itP
 rw[List.take_succ_eq_append_getElem h,List.map_append,List.append_assoc]
 rfl
theorem mc:itP P X f X.length=P++X.map f:=by simp[itP]
theorem fz:(itP P X f j).length<=P.length+X.length:=by
 unfold itP
 rw[List.length_append,List.length_map,List.length_take]
 omega
end
def Itemed(L:Led.Ledger)(w:World)(x:Ending)(w':World):Prop :=
 ∃A c P,x=.returned (.slice A P.length c)/\w'.ownsRow w.heap.size 47 24 (.slice A P.length c) P.length (ah bg P)/\P.map (fun p=>p.1)=aO L/\(∀p∈P,br w' p.2.1 p.1.entry.sels/\aV aN 2 w' p.2.2 p.1.bundle.keys)/\eF w w'
theorem tG(cs:List Value)(L:Led.Ledger)(E0:List (Led.Entry × Value))(U0:List (Led.Bundle × Value))(w:World)(h:dk w cs L E0 U0)(hs:L.Small):Calls prog 21 #[.agg cs.toArray] w (Itemed L w):=by
 obtain⟨W,hW⟩:=eC (w.alloc (.cells cs.toArray 30))
 have b0:Blk W w.heap.size cs 30:=by rw[<-hW];exact Blk.new w _ _
 have Ae:eF w W:=eG hW
 have Al:=jp cs L E0 U0 W (h.below Ae) hs
 have Av:=cY b0 h.len
 have Aj:=h.len
 have HW:=eA hW
 have m:=eA hs
 obtain⟨CL,Aw⟩:=eD (cs.toArray)
 rw[Aw.out] at HW Al Av ⊢
 clear hW h hs
 go_enter func21,ntmps21
 go_upto_region 1 with fail
 rw[HW.out]
 clear HW
 go_wp2_with fail
 refine Al.mono ?_
 rintro e w1 ⟨vE,vN,vB,vJ,vK,vU,E,U,rfl,o,Am⟩
 obtain⟨N,B1⟩:=bX (b0.below Am) Aj (vs:=[vE,vN,vB,vJ,vK,vU]) rfl o.ones
 have Af:Chg [w.heap.size] w1 (w1.setCells w.heap.size 0 [vE,vN,vB,vJ,vK,vU]):=(Chg.refl _ _).setCells _ (.inl (by simp))
 obtain⟨w2,Ax⟩:=eC (w1.setCells w.heap.size 0 [vE,vN,vB,vJ,vK,vU])
 rw[Ax] at N B1 Af
 have Ay:=b0.lt
 have q:=o.chg Af Ay
 have r:eF w w1:=Ae.trans (Am.mono Ae.size)
 have Z:eF w w2:=r.trans (Af.below' r.size (by simp))
 obtain⟨w3,Ag⟩:=eC (w2.alloc (.cells #[.slice none 0 0] 22))
 have Ah:eF w2 w3:=eG Ag
 have bo:Blk w3 w2.heap.size [.slice none 0 0] 22:=by rw[<-Ag];exact Blk.new w2 [.slice none 0 0] _
 have C:Hid (ItS w W.heap.size w.heap.size w2.heap.size vE vN vB vJ vK vU L E U [] w3):=eA ⟨Z.trans (Ah.mono Z.size),B1.below Ah,q.below Ah,⟨none,0,bo,World.ownsRow_nil _ _ _ _⟩,Z.size⟩
 have Az:=eA Ag
 have AC:=eA q
 have zE:E.length<=1000:=by have:=o.ents;have h2:=m.out.e;rw[<-this,List.length_map] at h2;exact h2
 have zU:U.length<=1000:=by have:=o.buns;have h2:=m.out.u;rw[<-this,List.length_map] at h2;exact h2
 have zN:L.nodes.length<=1000:=m.out.n
 have zB:L.bans.length<=1000:=m.out.b
 have zJ:L.joins.length<=1000:=m.out.j
 have zK:L.keys.length<=1000:=m.out.k
 have AD:=Z.size
 clear Al Av B1 Af Ax o Am b0 Ae Ag Ah bo q r Z Aj Aw Ay
 go_upto_region 3 with fail
 rw[Az.out]
 clear Az N
 generalize w2.heap.size=G at *
 have AF:(([]:List (Led.Op × Value × Value))).length<=0:=Nat.le_refl 0
 have A0:=C.out.wk
 clear A0
 have g0:w3.cell? ⟨w.heap.size,0,none⟩=some vE:=C.out.lg.cell 0
 obtain⟨AE,cE,eE,_,F⟩:=cl C.out.wk.oE
 rw[eE] at g0
 have A3:=eA eE
 clear eE F
 go_upto_region 5 with fail
 clear g0
 have O:Hid (ItS w W.heap.size w.heap.size G vE vN vB vJ vK vU L E U (itP ([]:List (Led.Op × Value × Value)) E (fun p=>(itE p.1,p.2,.slice none 0 0)) 0) w3):=eA (by rw[jP];exact C.out)
 clear C
 go_loopw [23] (fun i wx=>∃j:Nat,j<=E.length/\i=.int .i64 (j:Int)/\Hid (ItS w W.heap.size w.heap.size G vE vN vB vJ vK vU L E U (itP ([]:List (Led.Op × Value × Value)) E (fun p=>(itE p.1,p.2,.slice none 0 0)) j) wx)) (fun i _=>E.length-(intOf i).toNat)
 case atStart=>exact⟨0,by omega,rfl,O⟩
 case round =>
  clear O;obtain⟨j,s,rfl,C⟩:=hrel;obtain⟨t,T⟩:∃wx,wx=wr:=⟨_,rfl⟩;subst T;by_cases I:j<E.length
  .have R:(j:Int)<(E.length:Int):=by omega
   have F:Es ag 5 t AE E.length E:=Vs.of_own (by rw[<-A3.out];exact C.out.wk.oE)
   obtain⟨bk,z,rfl,Ai,S⟩:=gZ F I;have K:=S t (Below.refl _ _);obtain⟨g,N,l,V⟩:=nf lT t [.int .i64 0,.string ⟨#[]⟩,.string ⟨#[]⟩,.int .i64 0,.slice none 0 0] (ag E[j]) rfl (bf _) (ent_one2 _ (ma (C.out.wk.sels _ (List.getElem_mem I)).1));have M:=eT l (bf _);have H:=C.out.below V;obtain⟨A,c,J,B⟩:=H.out;have Q:(itP ([]:List (Led.Op × Value × Value)) E (fun p=>(itE p.1,p.2,.slice none 0 0)) j).length<=100000:=by have:=fz (P:=([]:List (Led.Op × Value × Value))) (X:=E) (f:=(fun p=>(itE p.1,p.2,.slice none 0 0))) (j:=j);omega
   have D:=(iM 1 { fe with entry:=E[j].1 } E[j].2 (.slice none 0 0) G w.heap.size A _ c _ g J B rfl Q H.bel.size (by decide) (ma (C.out.wk.sels _ (List.getElem_mem I)).1) rfl).mono (R':=fun e wy=>e=.returned (.tuple #[])/\ItS w W.heap.size w.heap.size G vE vN vB vJ vK vU L E U (itP ([]:List (Led.Op × Value × Value)) E (fun p=>(itE p.1,p.2,.slice none 0 0)) (j+1)) wy) (fun e wy h=>⟨h.1,by rw[jQ I];exact H.add J B h.2⟩)
   clear C H J B Q F S l;unfold ag at N K M;simp only[nm,tx,pc] at N K M;generalize E[j]=y at *;simp only[ac,fe,nm,tx] at D;go_wp2_with fail
   refine D.mono ?_;rintro e wz ⟨rfl,d⟩;have C:=eA d;clear d D;go_wp2_with fail
   go_roundw
   case rel=>exact⟨j+1,by omega,by go_num,C⟩
   case measure=>simp[intOf];omega
  .have R:¬(j:Int)<(E.length:Int):=by omega
   obtain rfl:j=E.length:=by omega
   obtain⟨P1,An⟩:∃P,Hid (itP ([]:List (Led.Op × Value × Value)) E (fun p=>(itE p.1,p.2,.slice none 0 0)) E.length=P):=⟨_,eA rfl⟩;have AG:P1.length<=1000:=by rw[<-An.out];have:=fz (P:=([]:List (Led.Op × Value × Value))) (X:=E) (f:=(fun p=>(itE p.1,p.2,.slice none 0 0))) (j:=E.length);omega
   rw[An.out] at C;clear I s;have g1:t.cell? ⟨w.heap.size,3,none⟩=some vJ:=C.out.lg.cell 3;obtain⟨AJ,cJ,eJ,_,F⟩:=cl C.out.wk.oJ;rw[eJ] at g1;have A4:=eA eJ;clear eJ F;go_upto_region 10 with fail
   clear g1 R;have O:Hid (ItS w W.heap.size w.heap.size G vE vN vB vJ vK vU L E U (itP P1 L.joins (fun p=>(itJ p,.slice none 0 0,.slice none 0 0)) 0) t):=eA (by rw[jP];exact C.out)
   clear C;go_loopw [35] (fun i wx=>∃j:Nat,j<=L.joins.length/\i=.int .i64 (j:Int)/\Hid (ItS w W.heap.size w.heap.size G vE vN vB vJ vK vU L E U (itP P1 L.joins (fun p=>(itJ p,.slice none 0 0,.slice none 0 0)) j) wx)) (fun i _=>L.joins.length-(intOf i).toNat)
   case atStart=>exact⟨0,by omega,rfl,O⟩
   case round =>
    clear O;obtain⟨j,s,rfl,C⟩:=hrel;obtain⟨Aa,T⟩:∃wx,wx=wr:=⟨_,rfl⟩;subst T;by_cases I:j<L.joins.length
    .have R:(j:Int)<(L.joins.length:Int):=by omega
     have F:Es vq 4 Aa AJ L.joins.length L.joins:=Vs.of_own (by rw[<-A4.out];exact C.out.wk.oJ)
     obtain⟨bk,z,rfl,Ai,S⟩:=nx F I;have K:=S Aa (Below.refl _ _);obtain⟨g,N,l,V⟩:=nf pJ Aa [.string ⟨#[]⟩,.string ⟨#[]⟩,.int .i64 0,.bool false] (vq L.joins[j]) rfl (bm _) (jm _);have M:=ldJoi_blk l (bm _);have H:=C.out.below V;obtain⟨A,c,J,B⟩:=H.out;have Q:(itP P1 L.joins (fun p=>(itJ p,.slice none 0 0,.slice none 0 0)) j).length<=100000:=by have:=fz (P:=P1) (X:=L.joins) (f:=(fun p=>(itJ p,.slice none 0 0,.slice none 0 0))) (j:=j);omega
     have D:=(iM 3 { fe with join:=L.joins[j] } (.slice none 0 0) (.slice none 0 0) G w.heap.size A _ c _ g J B rfl Q H.bel.size (by decide) rfl rfl).mono (R':=fun e wy=>e=.returned (.tuple #[])/\ItS w W.heap.size w.heap.size G vE vN vB vJ vK vU L E U (itP P1 L.joins (fun p=>(itJ p,.slice none 0 0,.slice none 0 0)) (j+1)) wy) (fun e wy h=>⟨h.1,by rw[jQ I];exact H.add J B h.2⟩)
     clear C H J B Q F S l;unfold vq at N K M;simp only[nm,tx,pb] at N K M;generalize L.joins[j]=y at *;simp only[ac,fe,nm,tx] at D;go_wp2_with fail
     refine D.mono ?_;rintro e wz ⟨rfl,d⟩;have C:=eA d;clear d D;go_wp2_with fail
     go_roundw
     case rel=>exact⟨j+1,by omega,by go_num,C⟩
     case measure=>simp[intOf];omega
    .have R:¬(j:Int)<(L.joins.length:Int):=by omega
     obtain rfl:j=L.joins.length:=by omega
     obtain⟨P2,Ao⟩:∃P,Hid (itP P1 L.joins (fun p=>(itJ p,.slice none 0 0,.slice none 0 0)) L.joins.length=P):=⟨_,eA rfl⟩;have AH:P2.length<=2000:=by rw[<-Ao.out];have:=fz (P:=P1) (X:=L.joins) (f:=(fun p=>(itJ p,.slice none 0 0,.slice none 0 0))) (j:=L.joins.length);omega
     rw[Ao.out] at C;clear I s;have g2:Aa.cell? ⟨w.heap.size,1,none⟩=some vN:=C.out.lg.cell 1;obtain⟨AN,cN,eN,_,F⟩:=cl C.out.wk.oN;rw[eN] at g2;have A5:=eA eN;clear eN F;go_upto_region 15 with fail
     clear g2 R;have O:Hid (ItS w W.heap.size w.heap.size G vE vN vB vJ vK vU L E U (itP P2 L.nodes (fun p=>(itN p,.slice none 0 0,.slice none 0 0)) 0) Aa):=eA (by rw[jP];exact C.out)
     clear C;go_loopw [47] (fun i wx=>∃j:Nat,j<=L.nodes.length/\i=.int .i64 (j:Int)/\Hid (ItS w W.heap.size w.heap.size G vE vN vB vJ vK vU L E U (itP P2 L.nodes (fun p=>(itN p,.slice none 0 0,.slice none 0 0)) j) wx)) (fun i _=>L.nodes.length-(intOf i).toNat)
     case atStart=>exact⟨0,by omega,rfl,O⟩
     case round =>
      clear O;obtain⟨j,s,rfl,C⟩:=hrel;obtain⟨Ab,T⟩:∃wx,wx=wr:=⟨_,rfl⟩;subst T;by_cases I:j<L.nodes.length
      .have R:(j:Int)<(L.nodes.length:Int):=by omega
       have F:Es ae 5 Ab AN L.nodes.length L.nodes:=Vs.of_own (by rw[<-A5.out];exact C.out.wk.oN)
       obtain⟨bk,z,rfl,Ai,S⟩:=gY F I;have K:=S Ab (Below.refl _ _);obtain⟨g,N,l,V⟩:=nf mQ Ab [.string ⟨#[]⟩,.string ⟨#[]⟩,.int .i64 0,.int .i64 0,.string ⟨#[]⟩] (ae L.nodes[j]) rfl (aM _) (cX _);have M:=dS l (aM _);have H:=C.out.below V;obtain⟨A,c,J,B⟩:=H.out;have Q:(itP P2 L.nodes (fun p=>(itN p,.slice none 0 0,.slice none 0 0)) j).length<=100000:=by have:=fz (P:=P2) (X:=L.nodes) (f:=(fun p=>(itN p,.slice none 0 0,.slice none 0 0))) (j:=j);omega
       have D:=(iM 5 { fe with node:=L.nodes[j] } (.slice none 0 0) (.slice none 0 0) G w.heap.size A _ c _ g J B rfl Q H.bel.size (by decide) rfl rfl).mono (R':=fun e wy=>e=.returned (.tuple #[])/\ItS w W.heap.size w.heap.size G vE vN vB vJ vK vU L E U (itP P2 L.nodes (fun p=>(itN p,.slice none 0 0,.slice none 0 0)) (j+1)) wy) (fun e wy h=>⟨h.1,by rw[jQ I];exact H.add J B h.2⟩)
       clear C H J B Q F S l;unfold ae at N K M;simp only[nm,tx,o9] at N K M;generalize L.nodes[j]=y at *;simp only[ac,fe,nm,tx] at D;go_wp2_with fail
       refine D.mono ?_;rintro e wz ⟨rfl,d⟩;have C:=eA d;clear d D;go_wp2_with fail
       go_roundw
       case rel=>exact⟨j+1,by omega,by go_num,C⟩
       case measure=>simp[intOf];omega
      .have R:¬(j:Int)<(L.nodes.length:Int):=by omega
       obtain rfl:j=L.nodes.length:=by omega
       obtain⟨P3,Ap⟩:∃P,Hid (itP P2 L.nodes (fun p=>(itN p,.slice none 0 0,.slice none 0 0)) L.nodes.length=P):=⟨_,eA rfl⟩;have AI:P3.length<=3000:=by rw[<-Ap.out];have:=fz (P:=P2) (X:=L.nodes) (f:=(fun p=>(itN p,.slice none 0 0,.slice none 0 0))) (j:=L.nodes.length);omega
       rw[Ap.out] at C;clear I s;have g3:Ab.cell? ⟨w.heap.size,2,none⟩=some vB:=C.out.lg.cell 2;obtain⟨AB,cB,eB,_,F⟩:=cl C.out.wk.oB;rw[eB] at g3;have A6:=eA eB;clear eB F;go_upto_region 20 with fail
       clear g3 R;have O:Hid (ItS w W.heap.size w.heap.size G vE vN vB vJ vK vU L E U (itP P3 L.bans (fun p=>(itB p,.slice none 0 0,.slice none 0 0)) 0) Ab):=eA (by rw[jP];exact C.out)
       clear C;go_loopw [59] (fun i wx=>∃j:Nat,j<=L.bans.length/\i=.int .i64 (j:Int)/\Hid (ItS w W.heap.size w.heap.size G vE vN vB vJ vK vU L E U (itP P3 L.bans (fun p=>(itB p,.slice none 0 0,.slice none 0 0)) j) wx)) (fun i _=>L.bans.length-(intOf i).toNat)
       case atStart=>exact⟨0,by omega,rfl,O⟩
       case round =>
        clear O;obtain⟨j,s,rfl,C⟩:=hrel;obtain⟨Ac,T⟩:∃wx,wx=wr:=⟨_,rfl⟩;subst T;by_cases I:j<L.bans.length
        .have R:(j:Int)<(L.bans.length:Int):=by omega
         have F:Ts Ac AB L.bans.length L.bans:=nX (by rw[<-A6.out];exact C.out.wk.oB)
         obtain⟨bk,z,rfl,A7⟩:=F.lit (i:=j) I;obtain⟨g,A1⟩:∃g,g=Ac:=⟨_,rfl⟩;have V:eF Ac g:=by rw[A1];exact Below.refl _ _
         have H:=C.out.below V;obtain⟨A,c,J,B⟩:=H.out;have Q:(itP P3 L.bans (fun p=>(itB p,.slice none 0 0,.slice none 0 0)) j).length<=100000:=by have:=fz (P:=P3) (X:=L.bans) (f:=(fun p=>(itB p,.slice none 0 0,.slice none 0 0))) (j:=j);omega
         have D:=(iM 6 { fe with name:=L.bans[j] } (.slice none 0 0) (.slice none 0 0) G w.heap.size A _ c _ g J B rfl Q H.bel.size (by decide) rfl rfl).mono (R':=fun e wy=>e=.returned (.tuple #[])/\ItS w W.heap.size w.heap.size G vE vN vB vJ vK vU L E U (itP P3 L.bans (fun p=>(itB p,.slice none 0 0,.slice none 0 0)) (j+1)) wy) (fun e wy h=>⟨h.1,by rw[jQ I];exact H.add J B h.2⟩)
         subst A1;clear C H J B Q F;generalize L.bans[j]=y at *;simp only[ac,fe,nm,tx] at D;go_wp2_with fail
         refine D.mono ?_;rintro e wz ⟨rfl,d⟩;have C:=eA d;clear d D;go_wp2_with fail
         go_roundw
         case rel=>exact⟨j+1,by omega,by go_num,C⟩
         case measure=>simp[intOf];omega
        .have R:¬(j:Int)<(L.bans.length:Int):=by omega
         obtain rfl:j=L.bans.length:=by omega
         obtain⟨P4,Aq⟩:∃P,Hid (itP P3 L.bans (fun p=>(itB p,.slice none 0 0,.slice none 0 0)) L.bans.length=P):=⟨_,eA rfl⟩;have AL:P4.length<=4000:=by rw[<-Aq.out];have:=fz (P:=P3) (X:=L.bans) (f:=(fun p=>(itB p,.slice none 0 0,.slice none 0 0))) (j:=L.bans.length);omega
         rw[Aq.out] at C;clear I s;have g4:Ac.cell? ⟨w.heap.size,4,none⟩=some vK:=C.out.lg.cell 4;obtain⟨AK,cK,eK,_,F⟩:=cl C.out.wk.oK;rw[eK] at g4;have A8:=eA eK;clear eK F;go_upto_region 25 with fail
         clear g4 R;have O:Hid (ItS w W.heap.size w.heap.size G vE vN vB vJ vK vU L E U (itP P4 L.keys (fun p=>(itK p,.slice none 0 0,.slice none 0 0)) 0) Ac):=eA (by rw[jP];exact C.out)
         clear C;go_loopw [71] (fun i wx=>∃j:Nat,j<=L.keys.length/\i=.int .i64 (j:Int)/\Hid (ItS w W.heap.size w.heap.size G vE vN vB vJ vK vU L E U (itP P4 L.keys (fun p=>(itK p,.slice none 0 0,.slice none 0 0)) j) wx)) (fun i _=>L.keys.length-(intOf i).toNat)
         case atStart=>exact⟨0,by omega,rfl,O⟩
         case round =>
          clear O;obtain⟨j,s,rfl,C⟩:=hrel;obtain⟨Ad,T⟩:∃wx,wx=wr:=⟨_,rfl⟩;subst T;by_cases I:j<L.keys.length
          .have R:(j:Int)<(L.keys.length:Int):=by omega
           have F:Es ar 4 Ad AK L.keys.length L.keys:=Vs.of_own (by rw[<-A8.out];exact C.out.wk.oK)
           obtain⟨bk,z,rfl,Ai,S⟩:=nu F I;have K:=S Ad (Below.refl _ _);obtain⟨g,N,l,V⟩:=nf pI Ad [.string ⟨#[]⟩,.string ⟨#[]⟩,.int .i64 0,.int .i64 0] (ar L.keys[j]) rfl (aP _) (kz _);have M:=ldKey_blk l (aP _);have H:=C.out.below V;obtain⟨A,c,J,B⟩:=H.out;have Q:(itP P4 L.keys (fun p=>(itK p,.slice none 0 0,.slice none 0 0)) j).length<=100000:=by have:=fz (P:=P4) (X:=L.keys) (f:=(fun p=>(itK p,.slice none 0 0,.slice none 0 0))) (j:=j);omega
           have D:=(iM 9 { fe with key:=L.keys[j] } (.slice none 0 0) (.slice none 0 0) G w.heap.size A _ c _ g J B rfl Q H.bel.size (by decide) rfl rfl).mono (R':=fun e wy=>e=.returned (.tuple #[])/\ItS w W.heap.size w.heap.size G vE vN vB vJ vK vU L E U (itP P4 L.keys (fun p=>(itK p,.slice none 0 0,.slice none 0 0)) (j+1)) wy) (fun e wy h=>⟨h.1,by rw[jQ I];exact H.add J B h.2⟩)
           clear C H J B Q F S l;unfold ar at N K M;simp only[nm,tx,pa] at N K M;generalize L.keys[j]=y at *;simp only[ac,fe,nm,tx] at D;go_wp2_with fail
           refine D.mono ?_;rintro e wz ⟨rfl,d⟩;have C:=eA d;clear d D;go_wp2_with fail
           go_roundw
           case rel=>exact⟨j+1,by omega,by go_num,C⟩
           case measure=>simp[intOf];omega
          .have R:¬(j:Int)<(L.keys.length:Int):=by omega
           obtain rfl:j=L.keys.length:=by omega
           obtain⟨P5,Ar⟩:∃P,Hid (itP P4 L.keys (fun p=>(itK p,.slice none 0 0,.slice none 0 0)) L.keys.length=P):=⟨_,eA rfl⟩;have AM:P5.length<=5000:=by rw[<-Ar.out];have:=fz (P:=P4) (X:=L.keys) (f:=(fun p=>(itK p,.slice none 0 0,.slice none 0 0))) (j:=L.keys.length);omega
           rw[Ar.out] at C;clear I s;have g5:Ad.cell? ⟨w.heap.size,5,none⟩=some vU:=C.out.lg.cell 5;obtain⟨AU,cU,eU,_,F⟩:=cl C.out.wk.oU;rw[eU] at g5;have A9:=eA eU;clear eU F;go_upto_region 30 with fail
           clear g5 R;have O:Hid (ItS w W.heap.size w.heap.size G vE vN vB vJ vK vU L E U (itP P5 U (fun p=>(itU p.1,.slice none 0 0,p.2)) 0) Ad):=eA (by rw[jP];exact C.out)
           clear C;go_loopw [83] (fun i wx=>∃j:Nat,j<=U.length/\i=.int .i64 (j:Int)/\Hid (ItS w W.heap.size w.heap.size G vE vN vB vJ vK vU L E U (itP P5 U (fun p=>(itU p.1,.slice none 0 0,p.2)) j) wx)) (fun i _=>U.length-(intOf i).toNat)
           case atStart=>exact⟨0,by omega,rfl,O⟩
           case round =>
            clear O;obtain⟨j,s,rfl,C⟩:=hrel;obtain⟨Y,T⟩:∃wx,wx=wr:=⟨_,rfl⟩;subst T;by_cases I:j<U.length
            .have R:(j:Int)<(U.length:Int):=by omega
             have F:Es ai 3 Y AU U.length U:=Vs.of_own (by rw[<-A9.out];exact C.out.wk.oU)
             obtain⟨bk,z,rfl,Ai,S⟩:=jb F I;have K:=S Y (Below.refl _ _);obtain⟨g,N,l,V⟩:=nf pK Y [.string ⟨#[]⟩,.int .i64 0,.slice none 0 0] (ai U[j]) rfl (aQ _) (bun_one2 _ (ma (C.out.wk.keyss _ (List.getElem_mem I))));have M:=cR l (aQ _);have H:=C.out.below V;obtain⟨A,c,J,B⟩:=H.out;have Q:(itP P5 U (fun p=>(itU p.1,.slice none 0 0,p.2)) j).length<=100000:=by have:=fz (P:=P5) (X:=U) (f:=(fun p=>(itU p.1,.slice none 0 0,p.2))) (j:=j);omega
             have D:=(iM 12 { fe with bundle:=U[j].1 } (.slice none 0 0) U[j].2 G w.heap.size A _ c _ g J B rfl Q H.bel.size (by decide) rfl (ma (C.out.wk.keyss _ (List.getElem_mem I)))).mono (R':=fun e wy=>e=.returned (.tuple #[])/\ItS w W.heap.size w.heap.size G vE vN vB vJ vK vU L E U (itP P5 U (fun p=>(itU p.1,.slice none 0 0,p.2)) (j+1)) wy) (fun e wy h=>⟨h.1,by rw[jQ I];exact H.add J B h.2⟩)
             clear C H J B Q F S l;unfold ai at N K M;simp only[nm,tx,pd] at N K M;generalize U[j]=y at *;simp only[ac,fe,nm,tx] at D;go_wp2_with fail
             refine D.mono ?_;rintro e wz ⟨rfl,d⟩;have C:=eA d;clear d D;go_wp2_with fail
             go_roundw
             case rel=>exact⟨j+1,by omega,by go_num,C⟩
             case measure=>simp[intOf];omega
            .have R:¬(j:Int)<(U.length:Int):=by omega
             obtain rfl:j=U.length:=by omega
             obtain⟨P6,As⟩:∃P,Hid (itP P5 U (fun p=>(itU p.1,.slice none 0 0,p.2)) U.length=P):=⟨_,eA rfl⟩;have AO:P6.length<=6000:=by rw[<-As.out];have:=fz (P:=P5) (X:=U) (f:=(fun p=>(itU p.1,.slice none 0 0,p.2))) (j:=U.length);omega
             rw[As.out] at C;clear I s;have Au:P6=(((((E.map (fun p=>(itE p.1,p.2,(.slice none 0 0:Value)))++L.joins.map (fun p=>(itJ p,.slice none 0 0,.slice none 0 0)))++L.nodes.map (fun p=>(itN p,.slice none 0 0,.slice none 0 0)))++L.bans.map (fun p=>(itB p,.slice none 0 0,.slice none 0 0)))++L.keys.map (fun p=>(itK p,.slice none 0 0,.slice none 0 0)))++U.map (fun p=>(itU p.1,.slice none 0 0,p.2))):=by
              rw[<-As.out,mc,<-Ar.out,mc,<-Aq.out,mc,<-Ap.out,mc,<-Ao.out,mc,<-An.out,mc,List.nil_append]
             have Ak:Hid (P6.map (fun p=>p.1)=aO L):=eA (by
              rw[Au];unfold aO;rw[<-C.out.wk.ents,<-C.out.wk.buns];simp only[List.map_append,List.map_map,Function.comp_def])
             have A2:Hid (∀p∈P6,br Y p.2.1 p.1.entry.sels/\aV aN 2 Y p.2.2 p.1.bundle.keys):=eA (by
              have n1:=(rc Y).1;have n2:=(rc Y).2.1;intro p hp;rw[Au] at hp;simp only[List.mem_append,List.mem_map] at hp;rcases hp with((((⟨x,hx,rfl⟩|⟨x,hx,rfl⟩)|⟨x,hx,rfl⟩)|⟨x,hx,rfl⟩)|⟨x,hx,rfl⟩)|⟨x,hx,rfl⟩
              .exact⟨dR (C.out.wk.sels x hx).1,n2⟩
              .exact⟨n1,n2⟩
              .exact⟨n1,n2⟩
              .exact⟨n1,n2⟩
              .exact⟨n1,n2⟩
              .exact⟨n1,bc (C.out.wk.keyss x hx)⟩)
             obtain⟨A,c,J,B⟩:=C.out.out;have AA:Y.cell? ⟨G,0,none⟩=some (.slice A P6.length c):=J.cell 0;have HR:=eA (show Itemed L w (.returned (.slice A P6.length c)) Y from⟨A,c,P6,rfl,B,Ak.out,A2.out,C.out.bel⟩);clear Au Ak A2 C J B;go_wp2;go_ret;exact HR.out
end
section
open Go.RowKit Mem
theorem conv{w:World}{B n:Nat}{A:Option Addr}{l:List UInt8}(h:Bs w B A n l)(c:Nat):(convert 62 9 (.slice A n c)).run prog w=.ok (.string (str l)) w :=
 qw h _ _ _ c underlying62 underlying5 underlying9
end
section
open Go.RowKit Mem Led
theorem fit_ok{o:Led.Op}(h:o.Fit):o.Ok :=
 ⟨by have:=h.name;omega,by have:=h.epath;omega,by have:=h.eparent;omega,h.esels,fun x hx=>by have:=h.esel x hx;omega,by have:=h.jtext;omega,by have:=h.jname;omega,by have:=h.nname;omega,by have:=h.nkey;omega,by have:=h.ndoc;omega,
  by have:=h.kkid;omega,by have:=h.kseed;omega,by have:=h.bdom;omega,h.bkeys,fun k A=>by have:=h.bkey k A;omega⟩
end
section
open Go.RowKit Mem Led
def nV(w:World)(p:Led.Op × Value × Value):Prop:=br w p.2.1 p.1.entry.sels/\aV aN 2 w p.2.2 p.1.bundle.keys
theorem nV.below{w w':World}{p:Led.Op × Value × Value}(h:nV w p)(A:eF w w'):nV w' p:=⟨h.1.below A,h.2.below A⟩
theorem encp_any(p:Led.Op × Value × Value)(A:p.1.Fit)(w:World)(h:nV w p):Calls prog 19 #[.agg (bg p).toArray] w (NewBytes w (enc p.1)):=by
 obtain⟨o,sv,kv⟩:=p
 obtain⟨⟨B,C,D,rfl,E,F⟩,G,H,I,rfl,J,L⟩:=h
 have N:0<=o.kind/\o.kind<256:=A.kind
 obtain⟨K,M⟩:∃K:Nat,o.kind=K:=⟨o.kind.toNat,by omega⟩
 exact lencode_any o (fit_ok A) K M (by omega) B C D G H I w F L E.1 J.1
theorem same1_any(p q:Led.Op × Value × Value)(l:p.1.Fit)(m:q.1.Fit)(w:World)(h:nV w p)(n:nV w q) :
  Calls prog 38 #[.agg (bg p).toArray,.agg (bg q).toArray] w fun e w'=>e=.returned (.bool (enc p.1==enc q.1))/\eF w w':=by
 obtain⟨W,Q⟩:=eC ((w.alloc (.cells (bg p).toArray 47)).alloc (.cells (bg q).toArray 47))
 have o:Blk W w.heap.size (bg p) 47:=by rw[<-Q];exact(Blk.new _ _ _).alloc _
 have r:Blk W (w.heap.size+1) (bg q) 47:=by
  have:=Blk.new (w.alloc (.cells (bg p).toArray 47)) (bg q) 47;rw[<-Q];simpa using this
 have H:eF w W:=by rw[<-Q];exact eI.alloc (by simp) _
 have R:∀B,eF W B->Calls prog 19 #[.agg (bg p).toArray] B (fun x D=>∃v,x=.returned v/\GR B D/\∃A,(∃x,v=.slice A (enc p.1).length x)/\Bs D D.heap.size A (enc p.1).length (enc p.1)):=fun B F=>(encp_any p l B ((h.below H).below F)).mono fun _ _ ⟨v,he,ho,F⟩=>by
  obtain⟨A,c,rfl,_⟩:=aj ho;exact⟨_,he,GR.of F,A,⟨c,rfl⟩,Bs.of_own ho⟩
 have S:∀B,eF W B->Calls prog 19 #[.agg (bg q).toArray] B (fun x D=>∃v,x=.returned v/\GR B D/\∃A,(∃x,v=.slice A (enc q.1).length x)/\Bs D D.heap.size A (enc q.1).length (enc q.1)):=fun B F=>(encp_any q m B ((n.below H).below F)).mono fun _ _ ⟨v,he,ho,F⟩=>by
  obtain⟨A,c,rfl,_⟩:=aj ho;exact⟨_,he,GR.of F,A,⟨c,rfl⟩,Bs.of_own ho⟩
 have T:∀I,(lu (.pointer (some ⟨w.heap.size,0,none⟩))).run prog (ab W I)=.ok (.agg (bg p).toArray) (ab W I):=fun I=>eS (o.below (aa W I)) rfl
 have U:∀I,(lu (.pointer (some ⟨w.heap.size+1,0,none⟩))).run prog (ab W I)=.ok (.agg (bg q).toArray) (ab W I):=fun I=>eS (r.below (aa W I)) rfl
 have J:=eA R
 have K:=eA S
 have d:=eA Q
 obtain⟨N,L⟩:∃t,Hid (enc p.1=t):=⟨_,eA rfl⟩
 obtain⟨O,M⟩:∃t,Hid (enc q.1=t):=⟨_,eA rfl⟩
 obtain⟨y,V⟩:∃C,Hid ((bg p).toArray=C):=⟨_,eA rfl⟩
 obtain⟨z,X⟩:∃C,Hid ((bg q).toArray=C):=⟨_,eA rfl⟩
 rw[L.out] at J
 rw[M.out] at K
 rw[L.out,M.out]
 rw[V.out] at J T d ⊢
 rw[X.out] at K U d ⊢
 clear Q R S h n l m o r V X L M
 go_enter func38,ntmps38
 go_upto_region 1 with fail
 rw[d.out]
 clear d
 refine eh [([0],1,[],fun v w'=>∃A,(∃x,v=.slice A N.length x)/\Bs w' w'.heap.size A N.length N),([],2,[1],fun v w'=>v=.string (str N)),([3],4,[],fun v w'=>∃A,(∃x,v=.slice A O.length x)/\Bs w' w'.heap.size A O.length O),([],5,[4],fun v w'=>v=.string (str O))] [6,7] (by kernel_rfl) (by kernel_rfl) (by
  intro x hx;simp only[List.mem_cons,List.not_mem_nil,or_false] at hx;rcases hx with rfl|rfl|rfl|rfl
  .exact ao fun v w w' F ⟨A,e,h⟩=>⟨A,e,cV h F⟩
  .exact ao fun v w w' F h=>h
  .exact ao fun v w w' F ⟨A,e,h⟩=>⟨A,e,cV h F⟩
  .exact ao fun v w w' F h=>h) ?_
 refine aI ?_
 simp only[pick,List.getD_cons_zero,List.getD_cons_succ]
 repeat (go_big_quiet_step (fail))
 refine wpQuiet_nil ?_
 refine⟨_,rfl,rfl,?_,?_,?_⟩
 .obtain⟨f,g,_,E,_⟩:=ji N W
  exact⟨_,f,_,⟨g,rfl⟩,E⟩
 .intro B G _
  go_simp
  exact⟨rfl,J.out B G.below⟩
 rintro v1 ⟨_,A1,⟨c1,rfl⟩,_⟩
 refine aI ?_
 simp only[pick,List.getElem_toArray,List.getElem_cons_succ,List.getElem_cons_zero,Act.put,List.setIfInBounds_toArray,List.set_cons_zero,List.set_cons_succ]
 refine wpQuiet_nil ?_
 refine⟨_,rfl,rfl,?_,?_,?_⟩
 .exact⟨_,W,rfl⟩
 .rintro B G ⟨i,_⟩
  obtain⟨s,⟨j,he⟩,E⟩:=i rfl;injection he with he1 he2 he3
  subst he1;have k:=conv E j
  go_simp
  exact⟨GR.of (Below.refl _ _),rfl⟩
 rintro v2 ⟨_,rfl⟩
 refine aI ?_
 simp only[pick,List.getD_cons_zero,List.getD_cons_succ,List.getElem_toArray,List.getElem_cons_succ,List.getElem_cons_zero,Act.put,List.setIfInBounds_toArray,List.set_cons_zero,List.set_cons_succ]
 repeat (go_big_quiet_step (fail))
 refine wpQuiet_nil ?_
 refine⟨_,rfl,rfl,?_,?_,?_⟩
 .obtain⟨f,g,_,E,_⟩:=ji O W
  exact⟨_,f,_,⟨g,rfl⟩,E⟩
 .intro B G _
  go_simp
  exact⟨rfl,K.out B G.below⟩
 rintro v3 ⟨_,A3,⟨c3,rfl⟩,_⟩
 refine aI ?_
 simp only[pick,List.getElem_toArray,List.getElem_cons_succ,List.getElem_cons_zero,Act.put,List.setIfInBounds_toArray,List.set_cons_zero,List.set_cons_succ]
 refine wpQuiet_nil ?_
 refine⟨_,rfl,rfl,?_,?_,?_⟩
 .exact⟨_,W,rfl⟩
 .rintro B G ⟨i,_⟩
  obtain⟨s,⟨j,he⟩,E⟩:=i rfl;injection he with he1 he2 he3
  subst he1;have k:=conv E j
  go_simp
  exact⟨GR.of (Below.refl _ _),rfl⟩
 rintro v4 ⟨_,rfl⟩ w6 Y _
 have Z:=Y.below
 have b:=H.trans (Z.mono H.size)
 clear J K T U Y Z
 cases u:(N==O)
 all_goals
  go_wp2_with fail
  (try rw[ak])
  (try go_wp2)
  go_ret;exact⟨rfl,b⟩
def lC(P:List (Led.Op × Value × Value)):List Txt:=P.map fun p=>enc p.1
theorem pW{P:List (Led.Op × Value × Value)}{j:Nat}(h:j<P.length)(A:j<(lC P).length):(lC P)[j]=enc P[j].1:=by simp[lC]
theorem ie(P:List (Led.Op × Value × Value)):(lC P).length=P.length:=by simp[lC]
theorem eqfn_any(A:Option Addr)(n c:Nat)(P:List (Led.Op × Value × Value))(A':Option Addr)(n' c':Nat)(E:List (Led.Op × Value × Value))(w:World)(h:Es bg 24 w A n P)(h':Es bg 24 w A' n' E)(hn:n<=9223372036854775807)(Ad:n'<=9223372036854775807)
  (hf:∀p∈P,p.1.Fit) (g:∀p∈E,p.1.Fit) (ht:∀p∈P,nV w p) (j:∀p∈E,nV w p) :
  Calls prog 37 #[.slice A n c,.slice A' n' c',.func (.func 38) #[] #[]] w (fC w (lC P=lC E)):=by
 have O:=h.len gI (by decide)
 have J:=h'.len gI (by decide)
 have H:=eA (show P.length=n/\E.length=n' from⟨O,J⟩)
 have HF:=eA (show (∀p∈P,p.1.Fit)/\∀p∈E,p.1.Fit from⟨hf,g⟩)
 have HT:=eA (show (∀p∈P,nV w p)/\∀p∈E,nV w p from⟨ht,j⟩)
 have HE:=eA (show Es bg 24 w A n P/\Es bg 24 w A' n' E from⟨h,h'⟩)
 obtain⟨p,f⟩:∃p:Prop,Hid (p=(lC P=lC E)):=⟨_,eA rfl⟩
 rw[<-f.out]
 clear h h' hf g ht j O J
 go_enter func37,ntmps37
 by_cases l:n=n'
 .subst l
  have Aa:((n:Int) != (n:Int))=false:=by simp
  go_wp2_with fail
  go_loopw [17] (fun i wr=>∃k:Nat,k<=n/\i=.int .i64 k/\Hid ((lC P).take k=(lC E).take k)/\eF w wr) (fun i _=>n-(intOf i).toNat)
  case atStart=>exact⟨0,by omega,rfl,eA rfl,Below.refl _ _⟩
  case round =>
   obtain⟨k,hk,rfl,M,K⟩:=hrel;obtain⟨wx,Ab⟩:∃wx,wx=wr:=⟨_,rfl⟩;subst Ab;by_cases m:k<n
   .have Ac:(k:Int)<(n:Int):=by omega
    have F:k<P.length:=by rw[H.out.1];exact m
    have B:k<E.length:=by rw[H.out.2];exact m
    obtain⟨b1,o1,rfl,_,Q⟩:=fZ underlying47 rfl kn gI (by omega) (HE.out.1.below K) F;obtain⟨b2,o2,rfl,_,R⟩:=fZ underlying47 rfl kn gI (by omega) (HE.out.2.below K) B;have o:(lu (.pointer (some ⟨b1,o1+k*24,none⟩))).run prog wx=.ok (.agg (bg P[k]).toArray) wx:=Q wx (Below.refl _ _);have tk:=HT.out.1 _ (List.getElem_mem F);have V:=HT.out.2 _ (List.getElem_mem B);have L:∀{p:Led.Op × Value × Value},nV w p->∀u∈bg p,u.oneCell'=true:=fun h=>by
     obtain⟨⟨_,_,_,e1,_⟩,_,_,_,e2,_⟩:=h;exact tH (by rw[e1];rfl) (by rw[e2];rfl)
    obtain⟨z,S,B2,N⟩:=uQ wx (bg P[k]) rfl (L tk);have q:(lu (.pointer (some ⟨b2,o2+k*24,none⟩))).run prog z=.ok (.agg (bg E[k]).toArray) z:=R z N;obtain⟨w3,T,B3,X⟩:=uQ z (bg E[k]) rfl (L V);have U:=N.trans (X.mono N.size);have D:=K.trans (U.mono K.size);have r:=eS (B2.below X) rfl;have s:=eS B3 rfl;have G:=same1_any P[k] E[k] (HF.out.1 _ (List.getElem_mem F)) (HF.out.2 _ (List.getElem_mem B)) w3 (tk.below D) (V.below D);have Y:Hid (enc P[k].1=enc E[k].1->(lC P).take (k+1)=(lC E).take (k+1)):=eA fun e=>fH M.out (by rw[ie];exact F) (by rw[ie];exact B) (by rw[pW F,pW B];exact e)
    have Z:Hid (¬enc P[k].1=enc E[k].1->¬p):=eA fun e hp=>by
     rw[f.out] at hp;refine e ?_;rw[<-pW F (by rw[ie];exact F),<-pW B (by rw[ie];exact B)]
     simp only[hp]
    generalize enc P[k].1=e1 at *;generalize enc E[k].1=e2 at *;obtain⟨C1,t⟩:∃C,Hid ((bg P[k]).toArray=C):=⟨_,eA rfl⟩;obtain⟨C2,x⟩:∃C,Hid ((bg E[k]).toArray=C):=⟨_,eA rfl⟩;rw[t.out] at o S r G;rw[x.out] at q T s G;clear Q R tk V L B2 B3 N X U M t x
    cases I:(e1==e2)
    .have b:Hid (¬p):=eA (Z.out (by simpa using I))
     rw[I] at G;clear Z Y I;go_wp2_with fail
     refine G.mono ?_;rintro e w4 ⟨rfl,d⟩;go_wp2;go_ret;exact fC.no b (D.trans (d.mono D.size))
    .have b:=eA (Y.out (by simpa using I))
     rw[I] at G;clear Z Y I;go_wp2_with fail
     refine G.mono ?_;rintro e w4 ⟨rfl,d⟩;have y:=D.trans (d.mono D.size);clear G o q r s S T;go_wp2_with fail
     go_roundw
     case rel=>exact⟨k+1,by omega,by go_num,b,y⟩
     case measure=>simp[intOf];omega
   .have Ac:¬(k:Int)<(n:Int):=by omega
    have b:Hid p:=eA (by
     rw[f.out];exact iO (n:=k) M.out (by rw[ie,H.out.1];omega) (by rw[ie,H.out.2];omega))
    clear M f;go_wp2;go_ret;exact fC.yes b K
 .have Aa:((n:Int) != (n':Int))=true:=by simp;omega
  have b:Hid (¬p):=eA (by
   rw[f.out];intro e;have:=congrArg List.length e;rw[ie,ie,H.out.1,H.out.2] at this;exact l this)
  clear f;go_wp2_with fail
  go_ret;exact fC.no b (Below.refl _ _)
def ItV(W:World)(L:Led.Ledger)(v:Value)(w:World):Prop :=
 w.output=W.output->∃A c P,v=.slice A P.length c/\P.length<=9223372036854775807/\Es bg 24 w A P.length P/\P.map (fun p=>p.1)=aO L/\∀p∈P,nV w p
theorem ItV.some(W:World)(L:Led.Ledger):∃v w,ItV W L v w :=
 ⟨.bool true,{ W with output:=W.output.push (0,⟨#[]⟩) },fun h=>by
  have:=congrArg Array.size h;simp at this⟩
theorem ItV.stable(W:World)(L:Led.Ledger):io GR (ItV W L):=ao fun v w w' B h C=>by
 obtain⟨A,c,P,D,E,F,G,H⟩:=h (B.output.symm.trans C)
 exact⟨A,c,P,D,E,F.below B,G,fun p I=>(H p I).below B⟩
theorem itv_any(W:World)(cs:List Value)(L:Led.Ledger)(E:List (Led.Entry × Value))(U:List (Led.Bundle × Value))(w:World)(h:dk w cs L E U)(C:L.Small):Calls prog 21 #[.agg cs.toArray] w (fun x B=>∃v,x=.returned v/\GR w B/\ItV W L v B) :=
 (tG cs L E U w h C).mono fun x B ⟨A,c,P,h1,h2,h3,h4,h5⟩=>by
  obtain⟨D,F,e,G,H⟩:=aj h2;exact⟨_,h1,GR.of h5,fun _=>⟨A,c,P,rfl,by omega,Vs.of_own h2,h3,h4⟩⟩
theorem tt(cs B:List Value)(L L':Led.Ledger)(E i:List (Led.Entry × Value))(U j:List (Led.Bundle × Value))(w:World)(h:dk w cs L E U)(b:dk w B L' i j)(k:L.Small)(J:L'.Small)(l:∀o∈aO L,o.Fit)(K:∀o∈aO L',o.Fit) :
  Calls prog 22 #[.agg cs.toArray,.agg B.toArray] w fun e w'=>e=.returned (.bool ((aO L).map enc==(aO L').map enc))/\eF w w':=by
 obtain⟨W,M⟩:=eC ((w.alloc (.cells cs.toArray 30)).alloc (.cells B.toArray 30))
 have m:Blk W w.heap.size cs 30:=by rw[<-M];exact(Blk.new _ _ _).alloc _
 have n:Blk W (w.heap.size+1) B 30:=by
  have:=Blk.new (w.alloc (.cells cs.toArray 30)) B 30;rw[<-M];simpa using this
 have F:eF w W:=by rw[<-M];exact eI.alloc (by simp) _
 have N:∀G,(gH (.pointer (some ⟨w.heap.size,0,none⟩))).run prog (ab W G)=.ok (.agg cs.toArray) (ab W G):=fun G=>cY (m.below (aa W G)) h.len
 have O:∀G,(gH (.pointer (some ⟨w.heap.size+1,0,none⟩))).run prog (ab W G)=.ok (.agg B.toArray) (ab W G):=fun G=>cY (n.below (aa W G)) b.len
 have H:=eA (fun w5 (Y:eF W w5)=>itv_any W cs L E U w5 ((h.below F).below Y) k)
 have I:=eA (fun w5 (Y:eF W w5)=>itv_any W B L' i j w5 ((b.below F).below Y) J)
 have HF:=eA l
 have d:=eA K
 have Z:=eA M
 obtain⟨CP,Q⟩:∃C,Hid (cs.toArray=C):=⟨_,eA rfl⟩
 obtain⟨CQ,R⟩:∃C,Hid (B.toArray=C):=⟨_,eA rfl⟩
 rw[Q.out] at H N Z ⊢
 rw[R.out] at I O Z ⊢
 obtain⟨q,S⟩:=eD (((aO L).map enc==(aO L').map enc))
 rw[S.out]
 clear M h b k J l K m n Q R
 go_enter func22,ntmps22
 go_upto_region 1 with fail
 rw[Z.out]
 clear Z
 refine eh [([0],1,[],ItV W L),([2],3,[],ItV W L'),([],4,[1,3],fun v w'=>v=.bool q)] [5] (by kernel_rfl) (by kernel_rfl) (by
  intro x hx;simp only[List.mem_cons,List.not_mem_nil,or_false] at hx;rcases hx with rfl|rfl|rfl
  .exact ItV.stable W L
  .exact ItV.stable W L'
  .exact ao fun v w w' Y h=>h) ?_
 refine aI ?_
 simp only[pick,List.getD_cons_zero,List.getD_cons_succ]
 repeat (go_big_quiet_step (fail))
 refine wpQuiet_nil ?_
 refine⟨_,rfl,rfl,ItV.some W L,?_,?_⟩
 .intro w5 D _
  go_simp
  exact⟨rfl,H.out w5 D.below⟩
 rintro v1 -
 refine aI ?_
 simp only[pick,List.getD_cons_zero,List.getD_cons_succ,List.getElem_toArray,List.getElem_cons_succ,List.getElem_cons_zero,Act.put,List.setIfInBounds_toArray,List.set_cons_zero,List.set_cons_succ]
 repeat (go_big_quiet_step (fail))
 refine wpQuiet_nil ?_
 refine⟨_,rfl,rfl,ItV.some W L',?_,?_⟩
 .intro w5 D _
  go_simp
  exact⟨rfl,I.out w5 D.below⟩
 rintro v2 -
 refine aI ?_
 simp only[pick,List.getElem_toArray,List.getElem_cons_succ,List.getElem_cons_zero,Act.put,List.setIfInBounds_toArray,List.set_cons_zero,List.set_cons_succ]
 refine wpQuiet_nil ?_
 refine⟨_,rfl,rfl,⟨_,W,rfl⟩,?_,?_⟩
 .rintro w5 D ⟨h3,h1,_⟩
  have s:w5.output=W.output:=D.below.output;obtain⟨A',c',t,rfl,r1,r2,u,r4⟩:=h3 rfl s;obtain⟨A,c,P,rfl,q1,q2,y,q4⟩:=h1 rfl s;have z:=eqfn_any A _ c P A' _ c' t w5 q2 r2 q1 r1 (fun p f=>HF.out _ (by rw[<-y];exact List.mem_map.2 ⟨p,f,rfl⟩)) (fun p f=>d.out _ (by rw[<-u];exact List.mem_map.2 ⟨p,f,rfl⟩)) q4 r4
  have e1:lC P=(aO L).map enc:=by unfold lC;rw[<-y,List.map_map];rfl
  have e2:lC t=(aO L').map enc:=by unfold lC;rw[<-u,List.map_map];rfl
  rw[e1,e2] at z;go_simp
  refine⟨rfl,z.mono ?_⟩;rintro e w7 ⟨r,rfl,hr,g⟩;refine⟨_,rfl,GR.of g,?_⟩;show Value.bool r=.bool q
  rw[<-S.out];congr 1
  rw[Bool.eq_iff_iff,hr,beq_iff_eq]
 rintro v3 ⟨_,rfl⟩ w6 T _
 have V:=T.below
 have X:=F.trans (V.mono F.size)
 clear H I N O T V
 go_wp2_with fail
 (try rw[ak])
 (try go_wp2)
 go_ret
 exact⟨rfl,X⟩
end
section
namespace Batch
open Go.RowKit
def Qf(Q:Exit->Act->World->Prop)(X:Act->World->Prop):Exit->Act->World->Prop
 | .normal,a,w=>X a w
 | .outgrown,a,w=>Q .outgrown a w
 | _,_,_=>False
theorem oQ(Q:Exit->Act->World->Prop)(X:Act->World->Prop)(a:Act)(w:World):Qf Q X .normal a w=X a w:=rfl
theorem wpOp_qf{P:Program}{ops:Array Oper}{Q:Exit->Act->World->Prop}{X:Act->World->Prop}{i:Nat}{K K':Act->World->Prop}{a:Act}{w:World}(h:∀a w,K a w->K' a w)(A:wpOp P ops (Qf Q X) i K a w):wpOp P ops Q i K' a w:=by
 have C:LetsOut (Qf Q X)->LetsOut Q:=fun ⟨a,w,h⟩=>⟨a,w,h⟩
 unfold wpOp at *
 split
 .rename_i ho;simp only[ho] at A;exact h _ _ A
 .rename_i o ho
  simp only[ho] at A;split
  .rename_i hw
   simp only[hw,if_true] at A;refine A.imp (fun A=>?_) (fun A=>⟨A.1,C A.2⟩);unfold Oper.wp at *;generalize (execOp a.eval o).run P w=r at *
   cases r with
   | ok n w' =>
    cases n<;>simp only[Oper.upon] at A ⊢
    case value=>exact h _ _ A
    case skip=>exact h _ _ A
    case defer=>exact h _ _ A
    case enter f args=>exact Calls.mono A (fun e D B=>by cases e<;>first|exact h _ _ B|exact C B|exact B.elim)
    case row row args=>exact Rows.mono A (fun _ _ B=>h _ _ B)
   | halt x w'=>cases x<;>simp only[Oper.upon] at A ⊢<;>exact A.elim
  .rename_i hw;simp only[hw] at A;exact h _ _ A
def Ins(P:Program)(ops:Array Oper)(Q:Exit->Act->World->Prop)(F:List Nat->List Oper)(x:Nat)(R:List Nat):List Nat->Act->World->Prop
 | [],a,w=>wpList P ops Q (F (x::R)) a w
 | k::T,a,w=>wpList P ops Q (F (x::k::(T++R))) a w/\wpList P ops (Qf Q (Ins P ops Q F x R T)) (F [k]) a w
theorem ins_eq{P:Program}{Q:Exit->Act->World->Prop}{l:List Oper}{x:Nat}{R:List Nat}(hx:(x::R).all (fun i=>decide (i<l.length))=true):∀(T:List Nat),T.all (fun i=>decide (i<l.length))=true->Ins P l.toArray Q (pick l) x R T=Ins P l.toArray Q (fun L=>L.filterMap (fun i=>l.toArray[i]?)) x R T
 | [],_=>by
  funext a w
  simp only[Ins];rw[fy l _ hx]
 | k::T,h=>by
  have A:=h;simp only[List.all_cons,Bool.and_eq_true,decide_eq_true_eq] at A hx;funext a w
  simp only[Ins];rw[ins_eq (by simpa using hx) T A.2,fy l (x::k::(T++R)) (by simp only[List.all_cons,List.all_append,Bool.and_eq_true,decide_eq_true_eq];exact⟨hx.1,A.1,A.2,hx.2⟩),fy l [k] (by simpa using A.1)]
def insB(md:Region.Mode)(ops:Array Oper)(x:Nat)(R:List Nat):List Nat->Array Bool->Bool
 | [],l=>pA md ops (x::R) l
 | k::T,l=>(Region.ready md ops l).all (fun i=>i==k||i==x)&&!(Region.ready md ops l).isEmpty&&pA md ops (k::(T++R)) (l.setIfInBounds x true)&&insB md ops x R T (l.setIfInBounds k true)
theorem op_first{P:Program}{md:Region.Mode}{ops:Array Oper}{Q:Exit->Act->World->Prop}{i:Nat}{L:List Nat}{listed:Array Bool}{a:Act}{w:World}(hi:i∈Region.ready md ops listed)(B:pA md ops L (listed.setIfInBounds i true)=true)(A:wpList P ops Q ((i::L).filterMap (fun i=>ops[i]?)) a w) :
  wpOp P ops Q i (wpAny P md ops Q L.length (listed.setIfInBounds i true)) a w:=by
 obtain⟨_,o,h0,_⟩:=mem_ready.1 hi
 rw[List.filterMap_cons_some h0] at A
 have A:wpOp P ops Q i (wpList P ops Q (L.filterMap (fun i=>ops[i]?))) a w:=by unfold wpOp;simp only[h0];exact A
 exact wpOp_mono (fun C w' D=>fl L _ C w' B D) A
theorem op_qf{P:Program}{ops:Array Oper}{Q:Exit->Act->World->Prop}{X:Act->World->Prop}{i:Nat}{a:Act}{w:World}{o:Oper}(h0:ops[i]?=some o)(A:wpList P ops (Qf Q X) ([i].filterMap (fun i=>ops[i]?)) a w):wpOp P ops Q i X a w:=by
 rw[List.filterMap_cons_some h0] at A
 have A:wpOp P ops (Qf Q X) i (wpList P ops (Qf Q X) []) a w:=by unfold wpOp;simp only[h0];exact A
 exact wpOp_qf (fun C w' B=>B) A
theorem sS{P:Program}{md:Region.Mode}{ops:Array Oper}{Q:Exit->Act->World->Prop}{x:Nat}{R:List Nat}:∀(T:List Nat) (listed:Array Bool) (a:Act) (w:World),insB md ops x R T listed=true ->
  Ins P ops Q (fun L=>L.filterMap (fun i=>ops[i]?)) x R T a w->wpAny P md ops Q (T.length+(1+R.length)) listed a w
 | [],listed,a,w,hB,h=>by
  have:=fl (P:=P) (x::R) listed a w hB h;rw[show ([]:List Nat).length+(1+R.length)=(x::R).length by simp only[List.length_nil,List.length_cons];omega]
  exact this
 | k::T,listed,a,w,hB,h=>by
  simp only[insB,Bool.and_eq_true] at hB;obtain⟨⟨⟨D,B⟩,E⟩,F⟩:=hB;unfold Ins at h;rw[show (k::T).length+(1+R.length)=(T.length+(1+R.length))+1 by simp only[List.length_cons];omega]
  refine⟨fun G=>(by rw[G] at B;cases B),fun i hi=>?_⟩
  have A:=List.all_eq_true.1 D i hi;simp only[Bool.or_eq_true,beq_iff_eq] at A;by_cases C:i=k
  .subst C
   obtain⟨_,o,h0,_⟩:=mem_ready.1 hi;exact wpOp_mono (fun H w' I=>sS T _ H w' F I) (op_qf h0 h.2)
  .obtain rfl:i=x:=by rcases A with h|h;exact absurd h C;exact h
   have:=op_first (P:=P) (Q:=Q) hi E h.1;rw[show T.length+(1+R.length)=(k::(T++R)).length by simp only[List.length_cons,List.length_append];omega]
   exact this
def forkB(md:Region.Mode)(ops:Array Oper)(x:Nat)(A R:List Nat):List Nat->Array Bool->Bool
 | [],l=>insB md ops x R A l
 | k::T,l=>decide (Region.ready md ops l=[k])&&forkB md ops x A R T (l.setIfInBounds k true)
theorem mm{P:Program}{md:Region.Mode}{ops:Array Oper}{Q:Exit->Act->World->Prop}{x:Nat}{A R:List Nat}:∀(T:List Nat) (listed:Array Bool) (a:Act) (w:World),forkB md ops x A R T listed=true ->
  wpList P ops (Qf Q (Ins P ops Q (fun L=>L.filterMap (fun i=>ops[i]?)) x R A)) (T.filterMap (fun i=>ops[i]?)) a w->wpAny P md ops Q (T.length+(A.length+(1+R.length))) listed a w
 | [],listed,a,w,hB,h=>by
  rw[show ([]:List Nat).length+(A.length+(1+R.length))=A.length+(1+R.length) by simp only[List.length_nil];omega]
  exact sS A listed a w hB h
 | k::T,listed,a,w,hB,h=>by
  simp only[forkB,Bool.and_eq_true,decide_eq_true_eq] at hB;rw[show (k::T).length+(A.length+(1+R.length))=(T.length+(A.length+(1+R.length)))+1 by simp only[List.length_cons];omega]
  refine⟨fun D=>(by rw[hB.1] at D;cases D),fun i hi=>?_⟩
  have B:=hi;rw[hB.1] at hi;have C:i=k:=by simpa using hi
  subst C;obtain⟨_,o,h0,_⟩:=mem_ready.1 B;rw[List.filterMap_cons_some h0] at h;generalize hX:Qf Q (Ins P ops Q (fun L=>L.filterMap (fun i=>ops[i]?)) x R A)=E at h;have F:wpOp P ops E i (wpList P ops E (T.filterMap (fun i=>ops[i]?))) a w:=by unfold wpOp;simp only[h0];exact h
  subst hX;exact wpOp_qf (fun G w' H=>mm T _ G w' hB.2 H) F
def forkA(ops:Array Oper)(n:Nat)(S:List (List Nat × Nat × List Nat))(T:List Nat)(x:Nat)(A R:List Nat):Bool :=
 (S.all fun s=>s.1.all fun i=>decide (i<n)&&gt ops i)&&T.all (fun i=>decide (i<n))&&(x::R).all (fun i=>decide (i<n))&&A.all (fun i=>decide (i<n))&&Region.noSelect ops&&ed .any ops (Array.replicate n false) ((mC S).map (·.1))&&decide ((mC S).map (·.1)).Nodup&&lm .any ops (mC S)&&decide ((mC S).length+(T.length+(A.length+(1+R.length)))=n)&&forkB .any ops x A R T (lay (Array.replicate n false) ((mC S).map (·.1)))
theorem qb{P:Program}{y:Nat}{Q:Exit->Act->World->Prop}{a:Act}{w:World}{l:List Oper}(S:List pv)(T:List Nat)(x:Nat)(G R:List Nat)(z:P.follows .mixedOrders=true)
  (n:forkA l.toArray l.length (S.map fun s=>(s.1,s.2.1,s.2.2.1)) T x G R=true) (Y:∀s∈S,io GR s.2.2.2)
  (h:ka P l w (fun Z I=>∀w',GR w w'->allF I w'->wpList P l.toArray (Qf Q (Ins P l.toArray Q (pick l) x R G)) (pick l T) Z w') S a []):(Code.region y l.toArray true).wp P Q a w:=by
 simp only[forkA,Bool.and_eq_true,decide_eq_true_eq] at n
 obtain⟨⟨⟨⟨⟨⟨⟨⟨⟨b1,b2⟩,b⟩,c⟩,b3⟩,b4⟩,q⟩,b6⟩,b7⟩,r⟩:=n
 rw[<-fy l T b2,ins_eq b G c] at h
 obtain⟨M,t⟩:=eC ((mC (S.map fun s=>(s.1,s.2.1,s.2.2.1))).map (·.1))
 have A:(je S).map (·.1)=M:=by rw[tP,t]
 have D:(je S).length+(T.length+(G.length+(1+R.length)))=l.length:=by
  rw[<-b7,<-jV,List.length_map]
 rw[t] at b4 q r
 have J:=ko S a [] (fun s K i hi=>by
  have:=List.all_eq_true.1 (List.all_eq_true.1 b1 _ (List.mem_map_of_mem K)) i hi;simpa using this) h
 have B:(Array.replicate l.length false).size=l.toArray.size:=by simp
 have C:kP .any l.toArray M (Array.replicate l.length false)=true:=by
  unfold ed at b4;simp only[Bool.and_eq_true] at b4;exact b4.1
 have E:∀j∈M,j<l.toArray.size:=by
  have key:∀(L:List Nat) (H:Array Bool),kP .any l.toArray L H=true->∀k∈L,k<l.toArray.size:=by
   intro L;induction L with
   | nil=>intro H _ k N;cases N
   | cons k0 L ih =>
    intro H ht k N;simp only[kP,Bool.and_eq_true] at ht;rcases List.mem_cons.1 N with rfl|N
    .obtain⟨o,ho,_⟩:=ez.1 ht.1
     exact(Array.getElem?_eq_some_iff.1 ho).1
    .exact ih _ ht.2 k N
  exact key M _ C
 refine cP z ?_
 rw[show l.length=(je S).length+(T.length+(G.length+(1+R.length))) from D.symm]
 rw[show (Array.replicate ((je S).length+(T.length+(G.length+(1+R.length)))) false)=Array.replicate l.length false by rw[D]]
 refine qd (M:=M) (base:=Array.replicate l.length false) uB (fun a I d K f w' g m=>f w' g (nP w' I fun p O=>uL w' d m p (K p O))) (Region.noSelect_spec b3) b4 (lay (Array.replicate l.length false) M) (fun listed U V=>?_) (fun a I w' g m f=>mm T _ a w' r (f w' g (nP w' I m))) _ (je S) _ a [] _ rfl (Inv.refl B) (fun x hx=>⟨by rw[<-A];exact List.mem_map_of_mem hx,?_⟩) (fun j F _=>by
   rw[<-A] at F;obtain⟨x,hx,rfl⟩:=List.mem_map.1 F;exact⟨x,hx,rfl⟩) (by rw[A];exact q) (by rw[A];exact C) (by rw[jV];exact b6) (fun x hx G X=>?_) (GR.of (Below.refl _ _).drew) (fun p O=>by cases O) (fun p O=>by cases O) J
 .refine Array.ext (by rw[U.size,lw,B]) fun j h1 u=>?_
  have e1:listed[j]=listed.getD j true:=by simp[h1]
  have e2:(lay (Array.replicate l.length false) M)[j]=(lay (Array.replicate l.length false) M).getD j true:=by simp[u]
  rw[e1,e2];by_cases F:j∈M
  .rw [V j F,jU (by exact u)]
   exact(lay_in M _ j F (by rw[B];exact E j F)).symm
  .rw [U.out j F,uW M _ j F]
 .have:x.1<l.length:=by
   have:=E x.1 (by rw[<-A];exact List.mem_map_of_mem hx)
   simpa using this
  simp[this]
 .obtain⟨s,K,hx⟩:=List.mem_flatMap.1 hx
  rcases List.mem_append.1 hx with hx|hx
  .obtain⟨i,_,rfl⟩:=List.mem_map.1 hx
   cases X
  .rw [List.mem_singleton.1 hx] at X
   injection X with X
   rw[<-X];exact Y s K
end Batch
end
section
open Go.ChangeShapes Go.WideShapes Go.ChangeAt Go.RowKit
theorem steps_tab {W : World} {r : List (String × DataW Unit)} (h : laidMet prog (("brevet/sha.steps", Rows.laid_brevet_sha_steps) :: r) W) : Tab Sha.kkL W := by
 obtain⟨Z,K,A⟩:∃Z:List Int,(Rows.laid_brevet_sha_steps:DataW Unit)=.agg (Z.map fun n=>.lit (.int .u64 n))/\Z.length=80/\((List.range 64).all fun t=>decide (0<=Z.getD t 0)&&decide ((Z.getD t 0).toNat<18446744073709551616)&&decide ((Z.getD t 0).toNat / 4294967296=Sha.kkL.getD t 0))=true :=
  ⟨(match (Rows.laid_brevet_sha_steps:DataW Unit) with|.agg l=>l.map (fun d=>match d with|.lit (.int _ n)=>n|_=>0)|_=>[]),by kernel_rfl,by kernel_rfl,by kernel_rfl⟩
 obtain⟨L,A⟩:=A
 obtain⟨S,⟨g,t,cs,fuel,p,q,E,ht,M,hd,_,_⟩,_,_⟩:=h
 obtain rfl := Option.some.inj ((show prog.globalNamed "brevet/sha.steps" = some 1 by kernel_rfl).symm.trans E)
 obtain rfl:=Option.some.inj ((show (prog.globals[1]?).map (·.type)=some 292 by kernel_rfl).symm.trans ht)
 obtain⟨xs,m,_,F,_,T,D⟩:=DataW.trod_array underlying292 hd
 have N:prog.cellsOf 151=1:=by kernel_rfl
 intro k O
 have C:k<80:=by omega
 have G:=D k C
 rw[N,Nat.mul_one,List.getElem?_eq_getElem (by omega)] at G
 obtain⟨z,Q,e2,_⟩:=DataW.trod_int underlying151 G
 rw[K] at F
 have e3:(xs.map (·.1))=Z.map fun n=>.lit (.int .u64 n):=(DataW.agg.inj (Prod.mk.inj F).1).symm
 have e4:(xs.map (·.1))[k]?=(Z.map fun n=>(DataW.lit (.int .u64 n):DataW Unit))[k]?:=by rw[e3]
 rw[List.getElem?_map,List.getElem?_map,List.getElem?_eq_getElem (by omega:k<xs.length),List.getElem?_eq_getElem (by omega:k<Z.length),e2] at e4
 have R:z=Z.getD k 0:=by
  simp only[Option.map_some,Option.some.injEq,DataW.lit.injEq,Lit.int.injEq,true_and] at e4;rw[e4,List.getD,List.getElem?_eq_getElem (by omega:k<Z.length)];rfl
 have B:W.cell? ⟨1,k,none⟩=some (.int .u64 z):=by
  rw[World.var?_cell E M k];have:cs.toList[k]?=some (.int .u64 z):=by
   have h0:((cs.toList.drop k).take 1)[0]?=some (.int .u64 z):=by rw[Q];rfl
   simpa using h0
  simpa using this
 have H:=List.all_eq_true.1 A k (List.mem_range.2 O)
 simp only[Bool.and_eq_true,decide_eq_true_eq] at H
 obtain⟨⟨g1,I⟩,J⟩:=H
 rw[<-R] at g1 I J
 exact⟨z.toNat,by rw[B,Int.toNat_of_nonneg g1],I,J⟩
end
end Go.Proofs.YtmbpnkacggngkaaGreatDoor
