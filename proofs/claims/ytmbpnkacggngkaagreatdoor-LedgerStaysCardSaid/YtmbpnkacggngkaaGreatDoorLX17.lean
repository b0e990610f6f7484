/- LedRaw, LedRawA (put together by bundle.py: only what is needed). -/
import Derived.Test.YtmbpnkacggngkaaGreatDoorLX16
set_option maxRecDepth 100000
set_option maxHeartbeats 16000000
namespace Go.Proofs.YtmbpnkacggngkaaGreatDoor
open Go.RowKit Mem Led
open Batch
open Go.Proofs.Tryz
section
theorem own_one{w:World} {b k n:Nat} {e:TypeId} {v:Value} {xs:List Value} (h:w.ownsRow b e k v n xs):v.oneCell'=true:=by
 obtain⟨A,c,rfl,_⟩:=ak h
 rfl
theorem ent_one2(x:Led.Entry × Value) (h:x.2.oneCell'=true):∀ u∈ag x,u.oneCell'=true:=by
 intro u A
 simp only [ag,List.mem_cons,List.not_mem_nil,or_false] at A
 rcases A with rfl|rfl|rfl|rfl|rfl <;> first|exact h|rfl
theorem bun_one2(x:Led.Bundle × Value) (h:x.2.oneCell'=true):∀ u∈ai x,u.oneCell'=true:=by
 intro u A
 simp only [ai,List.mem_cons,List.not_mem_nil,or_false] at A
 rcases A with rfl|rfl|rfl <;> first|exact h|rfl
theorem LAt.below{base gl:Nat} {w w':World} {vE vN vB vJ vK vU:Value} {L:Led.Ledger} {E:List (Led.Entry × Value)} {U:List (Led.Bundle × Value)} (h:LAt base gl w vE vN vB vJ vK vU L E U) (A:eD w w'):LAt base gl w' vE vN vB vJ vK vU L E U :=
 ⟨h.wk.below A,h.blk.below A,h.hgl,Nat.le_trans h.hb A.size⟩
theorem raw_any{base gl:Nat} {vE vN vB vJ vK vU:Value} {L:Led.Ledger} {E:List (Led.Entry × Value)} {U:List (Led.Bundle × Value)} (o:Led.Op) (sv kv:Value) (w:World) (H:LAt base gl w vE vN vB vJ vK vU L E U) (hs:L.Small) (Af:w.ownsRow base 9 1 sv o.entry.sels.length (af aj o.entry.sels)) (Ag:gN sv vB) (Ah:w.ownsRow base 54 2 kv o.bundle.keys.length (af aV o.bundle.keys))
  (hk:jV o.kind) :
  Calls prog 56 #[.pointer (some ⟨gl,0,none⟩),.agg (ah o sv kv).toArray] w (Did base gl (lx L o,0) w):=by
 have Aa:E.length=L.entries.length:=by rw [<-H.wk.ents,List.length_map]
 have Ab:U.length=L.bundles.length:=by rw [<-H.wk.buns,List.length_map]
 obtain⟨W,hW⟩:=eA (w.alloc (.cells (ah o sv kv).toArray 47))
 have b0:Blk W w.heap.size (ah o sv kv) 47:=by rw [<-hW]; exact Blk.new w _ _
 have J:eD w W:=eF hW
 have HW:=hO hW
 clear hW
 obtain⟨CS,Ak⟩:=eC ((ah o sv kv).toArray)
 rw [Ak.out] at HW ⊢
 obtain⟨kk,t⟩:=eC (o.kind)
 have c0:W.cell? ⟨w.heap.size,0,none⟩=some (.int .i64 kk):=(b0.cell 0).trans (by rw [<-t.out]; rfl)
 obtain⟨R,hR⟩:=eC (lx L o)
 rw [t.out] at hk
 rw [hR.out]
 have Y:=hO H
 have Z:=hO b0
 have HK:=hO hk
 have Ai:=hO Af
 have Aj:=hO Ah
 have Al:=hO Ag
 clear b0 H hk Af Ah Ag
 go_enter func56,ntmps56
 go_upto_region 1 with fail
 rw [HW.out]
 clear HW
 rcases HK.out with rfl|rfl|rfl|rfl|rfl|rfl
 .have hd:Hid (R={ L with entries:=L.entries++[o.entry] }):=hO (by rw [<-hR.out]; unfold lx; rw [t.out]; rfl)
  obtain⟨A,c,hv,_,_⟩:=ak Y.out.wk.oE; subst hv; have Am:E.length<=1000:=by have:=hs.e; omega
  clear Aa Ab; have f1:∀ p,(ab W p).cell? ⟨gl,0,none⟩=some (.slice A E.length c):=fun p=>(Y.out.blk.below (J.trans ((aa W p).mono J.size))).cell 0; have f2:∀ p,(fM (.pointer (some ⟨w.heap.size,3,none⟩))).run prog (ab W p)=.ok (.agg (ag (o.entry,sv)).toArray) (ab W p):=fun p=>kz (Z.out.below (aa W p)); unfold ag at f2; go_upto_region 3 with fail
  refine aK [0] [] [1,2,3,4,5,6] [(7,fun v w'=>∃ G,W.heap.size<=G/\v=.slice (some ⟨G,0,none⟩) 1 1/\Blk w' G (ag (o.entry,sv)) 36)] [8,9,10,11] (by kernel_rfl) (by kernel_rfl) (by kernel_rfl) (by
   intro z x; simp only [List.mem_cons,List.not_mem_nil,or_false] at x; subst x; exact ax fun v w w' hb ⟨G,e0,e,h⟩=>⟨G,e0,e,h.below hb⟩) ?_
  simp only [ix,pick,List.getD_cons_zero,List.getD_cons_succ]; repeat (go_big_quiet_step (fail))
  refine wpQuiet_nil ?_; repeat (go_big_quiet_step (fail))
  refine wpQuiet_nil ?_; refine⟨_,rfl,rfl,?_,?_⟩
  .intro y d
   have f:=d.below.size; go_simp
   exact⟨GR.of eH,y.heap.size,f,rfl,Blk.new y (ag (o.entry,sv)) _⟩
  .rintro v w6 g ⟨_,G,Ac,rfl,K⟩
   have i:=g.below; have F:eD w w6:=J.trans (i.mono J.size); have D:=Y.out.below F; obtain⟨iT,m,q,r,s⟩:=al jN; have N:Vs w6 w6.heap.size 5 (some ⟨G,0,none⟩) 1 (ag (o.entry,sv)):=⟨rfl,fun j u hj=>⟨_,rfl,K.lt,by rw [aO,K.cell j]; exact hj⟩⟩
   obtain⟨v',O,Q,B,M,S⟩:=aT (P:=prog) w6 base 23 23 36 iT _ 5 72 underlying23 m q r s rfl (by omega) _ (E.length) _ D.wk.oE w6.heap.size (some ⟨G,0,none⟩) 1 1 (ag (o.entry,sv)) N (ent_one2 (o.entry,sv) (own_one Ai.out)) (by unfold maxLen; omega) (by omega) D.hb
   obtain⟨A',c',rfl,_,_⟩:=ak B; have T:=aC D.wk.oE D.blk (by decide); have C:=M.block gl D.blk.lt (fun e=>T e.symm); have Ad:O.cell? ⟨gl,0,none⟩=some (.slice A (E.length) c):=(World.cell?_of_block (a:=⟨gl,0,none⟩) C).trans (D.blk.cell 0); have Ae:O.frozen? ⟨gl,0,none⟩=false:=(World.frozen?_of_block (a:=⟨gl,0,none⟩) C).trans (D.blk.froz 0); have I:af ag E++ag (o.entry,sv)=af ag (E++[(o.entry,sv)]):=by rw [aL]; simp [af]
   rw [I] at B; have hS:bu ag 5 36 base gl 0 (.slice A (E.length) c) (E++[(o.entry,sv)]) w6 (O.setCell ⟨gl,0,none⟩ (.slice A' (E.length+1) c')):=⟨_,O,rfl,M,by rw [List.length_append]; exact B,S.imp id (fun h=>⟨_,eG,h⟩)⟩
   obtain⟨v8,H8,V⟩:=D.slotE (l:=L.entries++[o.entry]) hS (by rw [List.map_append,D.wk.ents]; rfl) (fun p hp=>by
    rcases List.mem_append.1 hp with h|h
    .exact D.wk.sels p h
    .rw [List.mem_singleton.1 h]
     exact⟨ae Ai.out F eG,Al.out⟩)
   have X:Hid (Did base gl (R,0) w (.returned (.int .i64 0)) (O.setCell ⟨gl,0,none⟩ (.slice A' (E.length+1) c'))):=hO (by
    rw [hd.out]; exact⟨rfl,(F.mono Y.out.hb).trans V,fun _=>⟨_,_,_,_,_,_,_,_,H8⟩⟩)
   clear hS H8 V B M S C N K D f1 f2 I T Y Z; go_wp2_with (at_builtin; refine Lib.wpList_append_run _ rfl _ _ _ _ rfl _ _ rfl rfl _ _ Q ?_)
   (try rw [am])
   (try go_wp2)
   go_ret; exact X.out
 .have hd:Hid (R={ L with joins:=L.joins++[o.join] }):=hO (by rw [<-hR.out]; unfold lx; rw [t.out]; rfl)
  obtain⟨A,c,hv,_,_⟩:=ak Y.out.wk.oJ; subst hv; have An:L.joins.length<=1000:=by have:=hs.j; omega
  clear Aa Ab; have f1:∀ p,(ab W p).cell? ⟨gl,3,none⟩=some (.slice A L.joins.length c):=fun p=>(Y.out.blk.below (J.trans ((aa W p).mono J.size))).cell 3; have f2:∀ p,(rT (.pointer (some ⟨w.heap.size,8,none⟩))).run prog (ab W p)=.ok (.agg (ao o.join).toArray) (ab W p):=fun p=>mB (Z.out.below (aa W p)); unfold ao at f2; go_upto_region 5 with fail
  refine aK [0] [] [1,2,3,4,5,6] [(7,fun v w'=>∃ G,W.heap.size<=G/\v=.slice (some ⟨G,0,none⟩) 1 1/\Blk w' G (ao o.join) 38)] [8,9,10,11] (by kernel_rfl) (by kernel_rfl) (by kernel_rfl) (by
   intro z x; simp only [List.mem_cons,List.not_mem_nil,or_false] at x; subst x; exact ax fun v w w' hb ⟨G,e0,e,h⟩=>⟨G,e0,e,h.below hb⟩) ?_
  simp only [ix,pick,List.getD_cons_zero,List.getD_cons_succ]; repeat (go_big_quiet_step (fail))
  refine wpQuiet_nil ?_; repeat (go_big_quiet_step (fail))
  refine wpQuiet_nil ?_; refine⟨_,rfl,rfl,?_,?_⟩
  .intro y d
   have f:=d.below.size; go_simp
   exact⟨GR.of eH,y.heap.size,f,rfl,Blk.new y (ao o.join) _⟩
  .rintro v w6 g ⟨_,G,Ac,rfl,K⟩
   have i:=g.below; have F:eD w w6:=J.trans (i.mono J.size); have D:=Y.out.below F; obtain⟨iT,m,q,r,s⟩:=al mE; have N:Vs w6 w6.heap.size 4 (some ⟨G,0,none⟩) 1 (ao o.join):=⟨rfl,fun j u hj=>⟨_,rfl,K.lt,by rw [aO,K.cell j]; exact hj⟩⟩
   obtain⟨v',O,Q,B,M,S⟩:=aT (P:=prog) w6 base 26 26 38 iT _ 4 48 underlying26 m q r s rfl (by omega) _ (L.joins.length) _ D.wk.oJ w6.heap.size (some ⟨G,0,none⟩) 1 1 (ao o.join) N (kD _) (by unfold maxLen; omega) (by omega) D.hb
   obtain⟨A',c',rfl,_,_⟩:=ak B; have T:=aC D.wk.oJ D.blk (by decide); have C:=M.block gl D.blk.lt (fun e=>T e.symm); have Ad:O.cell? ⟨gl,3,none⟩=some (.slice A (L.joins.length) c):=(World.cell?_of_block (a:=⟨gl,3,none⟩) C).trans (D.blk.cell 3); have Ae:O.frozen? ⟨gl,3,none⟩=false:=(World.frozen?_of_block (a:=⟨gl,3,none⟩) C).trans (D.blk.froz 3); have I:af ao L.joins++ao o.join=af ao (L.joins++[o.join]):=by rw [aL]; simp [af]
   rw [I] at B; have hS:bu ao 4 38 base gl 3 (.slice A (L.joins.length) c) (L.joins++[o.join]) w6 (O.setCell ⟨gl,3,none⟩ (.slice A' (L.joins.length+1) c')):=⟨_,O,rfl,M,by rw [List.length_append]; exact B,S.imp id (fun h=>⟨_,eG,h⟩)⟩
   obtain⟨v8,H8,V⟩:=D.slotJ hS; have X:Hid (Did base gl (R,0) w (.returned (.int .i64 0)) (O.setCell ⟨gl,3,none⟩ (.slice A' (L.joins.length+1) c'))):=hO (by
    rw [hd.out]; exact⟨rfl,(F.mono Y.out.hb).trans V,fun _=>⟨_,_,_,_,_,_,_,_,H8⟩⟩)
   clear hS H8 V B M S C N K D f1 f2 I T Y Z; go_wp2_with (at_builtin; refine Lib.wpList_append_run _ rfl _ _ _ _ rfl _ _ rfl rfl _ _ Q ?_)
   (try rw [am])
   (try go_wp2)
   go_ret; exact X.out
 .have hd:Hid (R={ L with nodes:=L.nodes++[o.node] }):=hO (by rw [<-hR.out]; unfold lx; rw [t.out]; rfl)
  obtain⟨A,c,hv,_,_⟩:=ak Y.out.wk.oN; subst hv; have Ao:L.nodes.length<=1000:=by have:=hs.n; omega
  clear Aa Ab; have f1:∀ p,(ab W p).cell? ⟨gl,1,none⟩=some (.slice A L.nodes.length c):=fun p=>(Y.out.blk.below (J.trans ((aa W p).mono J.size))).cell 1; have f2:∀ p,(fL (.pointer (some ⟨w.heap.size,12,none⟩))).run prog (ab W p)=.ok (.agg (ac o.node).toArray) (ab W p):=fun p=>mA (Z.out.below (aa W p)); unfold ac at f2; go_upto_region 7 with fail
  refine aK [0] [] [1,2,3,4,5,6] [(7,fun v w'=>∃ G,W.heap.size<=G/\v=.slice (some ⟨G,0,none⟩) 1 1/\Blk w' G (ac o.node) 40)] [8,9,10,11] (by kernel_rfl) (by kernel_rfl) (by kernel_rfl) (by
   intro z x; simp only [List.mem_cons,List.not_mem_nil,or_false] at x; subst x; exact ax fun v w w' hb ⟨G,e0,e,h⟩=>⟨G,e0,e,h.below hb⟩) ?_
  simp only [ix,pick,List.getD_cons_zero,List.getD_cons_succ]; repeat (go_big_quiet_step (fail))
  refine wpQuiet_nil ?_; repeat (go_big_quiet_step (fail))
  refine wpQuiet_nil ?_; refine⟨_,rfl,rfl,?_,?_⟩
  .intro y d
   have f:=d.below.size; go_simp
   exact⟨GR.of eH,y.heap.size,f,rfl,Blk.new y (ac o.node) _⟩
  .rintro v w6 g ⟨_,G,Ac,rfl,K⟩
   have i:=g.below; have F:eD w w6:=J.trans (i.mono J.size); have D:=Y.out.below F; obtain⟨iT,m,q,r,s⟩:=al lj; have N:Vs w6 w6.heap.size 5 (some ⟨G,0,none⟩) 1 (ac o.node):=⟨rfl,fun j u hj=>⟨_,rfl,K.lt,by rw [aO,K.cell j]; exact hj⟩⟩
   obtain⟨v',O,Q,B,M,S⟩:=aT (P:=prog) w6 base 24 24 40 iT _ 5 64 underlying24 m q r s rfl (by omega) _ (L.nodes.length) _ D.wk.oN w6.heap.size (some ⟨G,0,none⟩) 1 1 (ac o.node) N (dt _) (by unfold maxLen; omega) (by omega) D.hb
   obtain⟨A',c',rfl,_,_⟩:=ak B; have T:=aC D.wk.oN D.blk (by decide); have C:=M.block gl D.blk.lt (fun e=>T e.symm); have Ad:O.cell? ⟨gl,1,none⟩=some (.slice A (L.nodes.length) c):=(World.cell?_of_block (a:=⟨gl,1,none⟩) C).trans (D.blk.cell 1); have Ae:O.frozen? ⟨gl,1,none⟩=false:=(World.frozen?_of_block (a:=⟨gl,1,none⟩) C).trans (D.blk.froz 1); have I:af ac L.nodes++ac o.node=af ac (L.nodes++[o.node]):=by rw [aL]; simp [af]
   rw [I] at B; have hS:bu ac 5 40 base gl 1 (.slice A (L.nodes.length) c) (L.nodes++[o.node]) w6 (O.setCell ⟨gl,1,none⟩ (.slice A' (L.nodes.length+1) c')):=⟨_,O,rfl,M,by rw [List.length_append]; exact B,S.imp id (fun h=>⟨_,eG,h⟩)⟩
   obtain⟨v8,H8,V⟩:=D.slotN hS; have X:Hid (Did base gl (R,0) w (.returned (.int .i64 0)) (O.setCell ⟨gl,1,none⟩ (.slice A' (L.nodes.length+1) c'))):=hO (by
    rw [hd.out]; exact⟨rfl,(F.mono Y.out.hb).trans V,fun _=>⟨_,_,_,_,_,_,_,_,H8⟩⟩)
   clear hS H8 V B M S C N K D f1 f2 I T Y Z; go_wp2_with (at_builtin; refine Lib.wpList_append_run _ rfl _ _ _ _ rfl _ _ rfl rfl _ _ Q ?_)
   (try rw [am])
   (try go_wp2)
   go_ret; exact X.out
 .have hd:Hid (R={ L with bans:=L.bans++[o.name] }):=hO (by rw [<-hR.out]; unfold lx; rw [t.out]; rfl)
  obtain⟨A,c,hv,_,_⟩:=ak Y.out.wk.oB; subst hv; have Ap:L.bans.length<=1000:=by have:=hs.b; omega
  clear Aa Ab; have f1:∀ p,(ab W p).cell? ⟨gl,2,none⟩=some (.slice A L.bans.length c):=fun p=>(Y.out.blk.below (J.trans ((aa W p).mono J.size))).cell 2; have f2:∀ p,(ab W p).cell? ⟨w.heap.size,2,none⟩=some (.string (str o.name)):=fun p=>(Z.out.below (aa W p)).cell 2; go_upto_region 9 with fail
  refine aK [0] [] [1,2,3,4,5,6] [(7,fun v w'=>∃ G,W.heap.size<=G/\v=.slice (some ⟨G,0,none⟩) 1 1/\Blk w' G (aj o.name) 9)] [8,9,10,11] (by kernel_rfl) (by kernel_rfl) (by kernel_rfl) (by
   intro z x; simp only [List.mem_cons,List.not_mem_nil,or_false] at x; subst x; exact ax fun v w w' hb ⟨G,e0,e,h⟩=>⟨G,e0,e,h.below hb⟩) ?_
  simp only [ix,pick,List.getD_cons_zero,List.getD_cons_succ]; repeat (go_big_quiet_step (fail))
  refine wpQuiet_nil ?_; repeat (go_big_quiet_step (fail))
  refine wpQuiet_nil ?_; refine⟨_,rfl,rfl,?_,?_⟩
  .intro y d
   have f:=d.below.size; go_simp
   exact⟨GR.of eH,y.heap.size,f,rfl,Blk.new y (aj o.name) _⟩
  .rintro v w6 g ⟨_,G,Ac,rfl,K⟩
   have i:=g.below; have F:eD w w6:=J.trans (i.mono J.size); have D:=Y.out.below F; obtain⟨iT,m,q,r,s⟩:=al li; have N:Vs w6 w6.heap.size 1 (some ⟨G,0,none⟩) 1 (aj o.name):=⟨rfl,fun j u hj=>⟨_,rfl,K.lt,by rw [aO,K.cell j]; exact hj⟩⟩
   obtain⟨v',O,Q,B,M,S⟩:=aT (P:=prog) w6 base 25 25 9 iT _ 1 16 underlying25 m q r s rfl (by omega) _ (L.bans.length) _ D.wk.oB w6.heap.size (some ⟨G,0,none⟩) 1 1 (aj o.name) N (fP _) (by unfold maxLen; omega) (by omega) D.hb
   obtain⟨A',c',rfl,_,_⟩:=ak B; have T:=aC D.wk.oB D.blk (by decide); have C:=M.block gl D.blk.lt (fun e=>T e.symm); have Ad:O.cell? ⟨gl,2,none⟩=some (.slice A (L.bans.length) c):=(World.cell?_of_block (a:=⟨gl,2,none⟩) C).trans (D.blk.cell 2); have Ae:O.frozen? ⟨gl,2,none⟩=false:=(World.frozen?_of_block (a:=⟨gl,2,none⟩) C).trans (D.blk.froz 2); have I:af aj L.bans++aj o.name=af aj (L.bans++[o.name]):=by rw [aL]; simp [af]
   rw [I] at B; have hS:bu aj 1 9 base gl 2 (.slice A (L.bans.length) c) (L.bans++[o.name]) w6 (O.setCell ⟨gl,2,none⟩ (.slice A' (L.bans.length+1) c')):=⟨_,O,rfl,M,by rw [List.length_append]; exact B,S.imp id (fun h=>⟨_,eG,h⟩)⟩
   obtain⟨v8,H8,V⟩:=D.slotB hS; have X:Hid (Did base gl (R,0) w (.returned (.int .i64 0)) (O.setCell ⟨gl,2,none⟩ (.slice A' (L.bans.length+1) c'))):=hO (by
    rw [hd.out]; exact⟨rfl,(F.mono Y.out.hb).trans V,fun _=>⟨_,_,_,_,_,_,_,_,H8⟩⟩)
   clear hS H8 V B M S C N K D f1 f2 I T Y Z; go_wp2_with (at_builtin; refine Lib.wpList_append_run _ rfl _ _ _ _ rfl _ _ rfl rfl _ _ Q ?_)
   (try rw [am])
   (try go_wp2)
   go_ret; exact X.out
 .have hd:Hid (R={ L with keys:=L.keys++[o.key] }):=hO (by rw [<-hR.out]; unfold lx; rw [t.out]; rfl)
  obtain⟨A,c,hv,_,_⟩:=ak Y.out.wk.oK; subst hv; have Aq:L.keys.length<=1000:=by have:=hs.k; omega
  clear Aa Ab; have f1:∀ p,(ab W p).cell? ⟨gl,4,none⟩=some (.slice A L.keys.length c):=fun p=>(Y.out.blk.below (J.trans ((aa W p).mono J.size))).cell 4; have f2:∀ p,(rS (.pointer (some ⟨w.heap.size,17,none⟩))).run prog (ab W p)=.ok (.agg (aq o.key).toArray) (ab W p):=fun p=>p7 (Z.out.below (aa W p)); unfold aq at f2; go_upto_region 11 with fail
  refine aK [0] [] [1,2,3,4,5,6] [(7,fun v w'=>∃ G,W.heap.size<=G/\v=.slice (some ⟨G,0,none⟩) 1 1/\Blk w' G (aq o.key) 42)] [8,9,10,11] (by kernel_rfl) (by kernel_rfl) (by kernel_rfl) (by
   intro z x; simp only [List.mem_cons,List.not_mem_nil,or_false] at x; subst x; exact ax fun v w w' hb ⟨G,e0,e,h⟩=>⟨G,e0,e,h.below hb⟩) ?_
  simp only [ix,pick,List.getD_cons_zero,List.getD_cons_succ]; repeat (go_big_quiet_step (fail))
  refine wpQuiet_nil ?_; repeat (go_big_quiet_step (fail))
  refine wpQuiet_nil ?_; refine⟨_,rfl,rfl,?_,?_⟩
  .intro y d
   have f:=d.below.size; go_simp
   exact⟨GR.of eH,y.heap.size,f,rfl,Blk.new y (aq o.key) _⟩
  .rintro v w6 g ⟨_,G,Ac,rfl,K⟩
   have i:=g.below; have F:eD w w6:=J.trans (i.mono J.size); have D:=Y.out.below F; obtain⟨iT,m,q,r,s⟩:=al jM; have N:Vs w6 w6.heap.size 4 (some ⟨G,0,none⟩) 1 (aq o.key):=⟨rfl,fun j u hj=>⟨_,rfl,K.lt,by rw [aO,K.cell j]; exact hj⟩⟩
   obtain⟨v',O,Q,B,M,S⟩:=aT (P:=prog) w6 base 27 27 42 iT _ 4 48 underlying27 m q r s rfl (by omega) _ (L.keys.length) _ D.wk.oK w6.heap.size (some ⟨G,0,none⟩) 1 1 (aq o.key) N (lO _) (by unfold maxLen; omega) (by omega) D.hb
   obtain⟨A',c',rfl,_,_⟩:=ak B; have T:=aC D.wk.oK D.blk (by decide); have C:=M.block gl D.blk.lt (fun e=>T e.symm); have Ad:O.cell? ⟨gl,4,none⟩=some (.slice A (L.keys.length) c):=(World.cell?_of_block (a:=⟨gl,4,none⟩) C).trans (D.blk.cell 4); have Ae:O.frozen? ⟨gl,4,none⟩=false:=(World.frozen?_of_block (a:=⟨gl,4,none⟩) C).trans (D.blk.froz 4); have I:af aq L.keys++aq o.key=af aq (L.keys++[o.key]):=by rw [aL]; simp [af]
   rw [I] at B; have hS:bu aq 4 42 base gl 4 (.slice A (L.keys.length) c) (L.keys++[o.key]) w6 (O.setCell ⟨gl,4,none⟩ (.slice A' (L.keys.length+1) c')):=⟨_,O,rfl,M,by rw [List.length_append]; exact B,S.imp id (fun h=>⟨_,eG,h⟩)⟩
   obtain⟨v8,H8,V⟩:=D.slotK hS; have X:Hid (Did base gl (R,0) w (.returned (.int .i64 0)) (O.setCell ⟨gl,4,none⟩ (.slice A' (L.keys.length+1) c'))):=hO (by
    rw [hd.out]; exact⟨rfl,(F.mono Y.out.hb).trans V,fun _=>⟨_,_,_,_,_,_,_,_,H8⟩⟩)
   clear hS H8 V B M S C N K D f1 f2 I T Y Z; go_wp2_with (at_builtin; refine Lib.wpList_append_run _ rfl _ _ _ _ rfl _ _ rfl rfl _ _ Q ?_)
   (try rw [am])
   (try go_wp2)
   go_ret; exact X.out
 .have hd:Hid (R={ L with bundles:=L.bundles++[o.bundle] }):=hO (by rw [<-hR.out]; unfold lx; rw [t.out]; rfl)
  obtain⟨A,c,hv,_,_⟩:=ak Y.out.wk.oU; subst hv; have Ar:U.length<=1000:=by have:=hs.u; omega
  clear Aa Ab; have f1:∀ p,(ab W p).cell? ⟨gl,5,none⟩=some (.slice A U.length c):=fun p=>(Y.out.blk.below (J.trans ((aa W p).mono J.size))).cell 5; have f2:∀ p,(fz (.pointer (some ⟨w.heap.size,21,none⟩))).run prog (ab W p)=.ok (.agg (ai (o.bundle,kv)).toArray) (ab W p):=fun p=>jh (Z.out.below (aa W p)); unfold ai at f2; go_upto_region 13 with fail
  refine aK [0] [] [1,2,3,4,5,6] [(7,fun v w'=>∃ G,W.heap.size<=G/\v=.slice (some ⟨G,0,none⟩) 1 1/\Blk w' G (ai (o.bundle,kv)) 45)] [8,9,10,11] (by kernel_rfl) (by kernel_rfl) (by kernel_rfl) (by
   intro z x; simp only [List.mem_cons,List.not_mem_nil,or_false] at x; subst x; exact ax fun v w w' hb ⟨G,e0,e,h⟩=>⟨G,e0,e,h.below hb⟩) ?_
  simp only [ix,pick,List.getD_cons_zero,List.getD_cons_succ]; repeat (go_big_quiet_step (fail))
  refine wpQuiet_nil ?_; repeat (go_big_quiet_step (fail))
  refine wpQuiet_nil ?_; refine⟨_,rfl,rfl,?_,?_⟩
  .intro y d
   have f:=d.below.size; go_simp
   exact⟨GR.of eH,y.heap.size,f,rfl,Blk.new y (ai (o.bundle,kv)) _⟩
  .rintro v w6 g ⟨_,G,Ac,rfl,K⟩
   have i:=g.below; have F:eD w w6:=J.trans (i.mono J.size); have D:=Y.out.below F; obtain⟨iT,m,q,r,s⟩:=al ll; have N:Vs w6 w6.heap.size 3 (some ⟨G,0,none⟩) 1 (ai (o.bundle,kv)):=⟨rfl,fun j u hj=>⟨_,rfl,K.lt,by rw [aO,K.cell j]; exact hj⟩⟩
   obtain⟨v',O,Q,B,M,S⟩:=aT (P:=prog) w6 base 28 28 45 iT _ 3 48 underlying28 m q r s rfl (by omega) _ (U.length) _ D.wk.oU w6.heap.size (some ⟨G,0,none⟩) 1 1 (ai (o.bundle,kv)) N (bun_one2 (o.bundle,kv) (own_one Aj.out)) (by unfold maxLen; omega) (by omega) D.hb
   obtain⟨A',c',rfl,_,_⟩:=ak B; have T:=aC D.wk.oU D.blk (by decide); have C:=M.block gl D.blk.lt (fun e=>T e.symm); have Ad:O.cell? ⟨gl,5,none⟩=some (.slice A (U.length) c):=(World.cell?_of_block (a:=⟨gl,5,none⟩) C).trans (D.blk.cell 5); have Ae:O.frozen? ⟨gl,5,none⟩=false:=(World.frozen?_of_block (a:=⟨gl,5,none⟩) C).trans (D.blk.froz 5); have I:af ai U++ai (o.bundle,kv)=af ai (U++[(o.bundle,kv)]):=by rw [aL]; simp [af]
   rw [I] at B; have hS:bu ai 3 45 base gl 5 (.slice A (U.length) c) (U++[(o.bundle,kv)]) w6 (O.setCell ⟨gl,5,none⟩ (.slice A' (U.length+1) c')):=⟨_,O,rfl,M,by rw [List.length_append]; exact B,S.imp id (fun h=>⟨_,eG,h⟩)⟩
   obtain⟨v8,H8,V⟩:=D.slotU (l:=L.bundles++[o.bundle]) hS (by rw [List.map_append,D.wk.buns]; rfl) (fun p hp=>by
    rcases List.mem_append.1 hp with h|h
    .exact D.wk.keyss p h
    .rw [List.mem_singleton.1 h]
     exact ae Aj.out F eG)
   have X:Hid (Did base gl (R,0) w (.returned (.int .i64 0)) (O.setCell ⟨gl,5,none⟩ (.slice A' (U.length+1) c'))):=hO (by
    rw [hd.out]; exact⟨rfl,(F.mono Y.out.hb).trans V,fun _=>⟨_,_,_,_,_,_,_,_,H8⟩⟩)
   clear hS H8 V B M S C N K D f1 f2 I T Y Z; go_wp2_with (at_builtin; refine Lib.wpList_append_run _ rfl _ _ _ _ rfl _ _ rfl rfl _ _ Q ?_)
   (try rw [am])
   (try go_wp2)
   go_ret; exact X.out
end
section
theorem tY(cs:List Value) (L:Led.Ledger) (E:List (Led.Entry × Value)) (U:List (Led.Bundle × Value)) (o:Led.Op) (sv kv:Value) (w:World) (J:cZ w cs L E U) (H:L.Small) (A:bm w sv o.entry.sels) (B:a8 aV 2 w kv o.bundle.keys)
  (C:o.entry.sels.length<=1000) (D:o.bundle.keys.length<=1000) (I:jV o.kind):Calls prog 14 #[.agg cs.toArray,.agg (ah o sv kv).toArray] w (iG (fun r=>r=(lx L o,0)) L w):=by
 refine bA cs L E U o sv kv 56 _ w J H A B C D ?_ (enters_of func56 (by kernel_rfl) rfl) ?_
 .rcases I with h|h|h|h|h|h <;> (rw [h]; kernel_rfl)
 .intro base gl W vE vN vB vJ vK vU R S F G T K M N O Q
  exact(raw_any o F G W M H N O Q I).mono fun x w' h=>⟨_,rfl,h⟩
def Led.doesR (ok:Bool) (L:Led.Ledger) (o:Led.Op):Led.Ledger × Int:=if o.kind<=100 then does ok L o else if jV o.kind then (lx L o,0) else (L,1)
theorem applyr_any(cs:List Value) (L:Led.Ledger) (E:List (Led.Entry × Value)) (U:List (Led.Bundle × Value)) (o:Led.Op) (sv kv:Value) (w:World) (D:cZ w cs L E U) (F:L.Wf) (G:Sized o) (A:bm w sv o.entry.sels) (B:a8 aV 2 w kv o.bundle.keys)
  (H:∀ k∈o.bundle.keys,k.kid.length<=1000000/\k.x.length<=1000000) (J:Tab Sha.kkL w):Calls prog 14 #[.agg cs.toArray,.agg (ah o sv kv).toArray] w (iG (fun r=>r=doesR (Led.eS o.bundle) L o) L w):=by
 unfold doesR
 by_cases h:o.kind<=100
 .simp only [h,if_true]
  exact iw cs L E U o sv kv w D F G h A B H J
 .simp only [h,if_false]
  by_cases C:jV o.kind
  .simp only [C,if_true]
   exact tY cs L E U o sv kv w D F.small A B G.el G.ul C
  .simp only [C,if_false]
   refine qH cs L E U (ah o sv kv) o.kind w D F.small rfl ?_; rw [List.findIdx?_eq_none_iff]; intro p I; unfold jV at C; simp only [doL,List.mem_cons,List.not_mem_nil,or_false] at I; rcases I with rfl|rfl|rfl|rfl|rfl|rfl|rfl|rfl|rfl|rfl|rfl|rfl|rfl|rfl|rfl|rfl|rfl|rfl|rfl|rfl <;> simp only [beq_eq_false_iff_ne,ne_eq] <;> omega
end
end Go.Proofs.YtmbpnkacggngkaaGreatDoor
