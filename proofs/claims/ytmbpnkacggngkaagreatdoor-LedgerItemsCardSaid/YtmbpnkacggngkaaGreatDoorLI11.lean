/- LedApN, LedDoK, LedApA, JsonA, JwkShelf, JsonB, JwkBuilder, JwkWr, JsonW, JsonK (put together by bundle.py: only what is needed). -/
import Derived.Ground.GgwProg
import Derived.Shelf.GgClosure.StringsIndexFuncTop
import Derived.Shelf.GgClosure.StringsRunes
import Derived.Lib.Builder
import Derived.Laws.Externs
import Derived.Test.YtmbpnkacggngkaaGreatDoorLI10
set_option maxRecDepth 100000
set_option maxHeartbeats 16000000
namespace Go.Proofs.YtmbpnkacggngkaaGreatDoor
open Batch
open Tryz
section
open Go.RowKit Mem Led
theorem look_none(w:World)(K:Int)(A:doL.findIdx? (fun p=>K==p.1)=none) :
  (Instr.lookup 73 (.map (some w.heap.size)) (.int .i64 K) false).run prog (w.alloc (mo 20))=.ok .nilFunc (w.alloc (mo 20)):=by
 have h:=run_look (P:=prog) (w.alloc (mo 20)) w.heap.size (doL.take 20) K _ _ _ .nilFunc underlying73 underlying3 (sQ _) (heap_alloc_new w _)
 rw[show doL.take 20=doL from rfl,A] at h
 exact h
theorem apply_none(cs:List Value)(L:Led.Ledger)(E:List (Led.Entry × Value))(U:List (Led.Bundle × Value))(ops:List Value)(k:Int)(w:World)(x:dk w cs L E U)(hs:L.Small)(R:ops[0]?=some (.int .i64 k))(hK:doL.findIdx? (fun p=>k==p.1)=none) :
  Calls prog 14 #[.agg cs.toArray,.agg ops.toArray] w (mj (fun r=>r=(L,1)) L w):=by
 obtain⟨W,O⟩:=eC (((w.alloc (.cells cs.toArray 30)).alloc (.cells ops.toArray 47)).alloc (.cells (aB (.slice none 0 0)).toArray 30))
 have y:Blk W w.heap.size cs 30:=by rw[<-O];exact((Blk.new _ _ _).alloc _).alloc _
 have f:Blk W (w.heap.size+1) ops 47:=by
  have:=Blk.new (w.alloc (.cells cs.toArray 30)) ops 47;rw[<-O];exact Blk.alloc (by simpa using this) _
 have b2:Blk W (w.heap.size+2) (aB (.slice none 0 0)) 30:=by
  have:=Blk.new ((w.alloc (.cells cs.toArray 30)).alloc (.cells ops.toArray 47)) (aB (.slice none 0 0)) 30;rw[<-O];simpa using this
 have T:eF w W:=by rw[<-O];exact(eI.alloc (by simp) _).alloc (by simp;omega) _
 have g:W.heap.size=w.heap.size+3:=by rw[<-O];simp
 have A:=tW W.drew
 have Q:(Instr.lookup 73 (.map (some (w.heap.size+3))) (.int .i64 k) false).run prog (W.alloc (mo 20)).drew=.ok .nilFunc (W.alloc (mo 20)).drew:=by
  have:=look_none W.drew k hK;rw[show W.drew.heap.size=w.heap.size+3 from g] at this;exact this
 have m0:W.cell? ⟨w.heap.size+1,0,none⟩=some (.int .i64 k):=(f.cell 0).trans R
 have m1:∀h,(W.alloc h).cell? ⟨w.heap.size+1,0,none⟩=some (.int .i64 k):=fun h=>((f.alloc h).cell 0).trans R
 have i:=eA O
 unfold aB at i
 clear O
 go_enter func14,ntmps14
 go_upto_region 1 with fail
 rw[i.out]
 go_cut [6] (fun s6 wx=>s6=.nilFunc/\eF W wx)
 case first =>
  go_region_with (go_at_call 26;refine A.mono ?_;rintro e w1 ⟨rfl,rfl⟩)
  all_goals
   go_wp2_with fail
   go_meet
   case rel=>exact⟨rfl,((Below.refl _ _).drew).alloc eH _⟩
 case rest =>
  obtain⟨rfl,C⟩:=hcut;have z:=y.below C;have j:=b2.below C;have D:eF w wc:=T.trans (C.mono T.size);have l:=x.below D;have m:=cY z x.len;have V:=jp cs L E U wc l hs;have Aa:∀W,(Go.binOp .eql 72 .nilFunc .nilFunc).run prog W=.ok (.bool true) W:=fun W=>by kernel_rfl
  clear Q A m0 m1 i y f b2;go_wp2_with fail
  refine V.mono ?_;rintro e o ⟨F,G,H,I,J,K,E',U',rfl,B,X⟩;have q:=j.below X;obtain⟨s,d⟩:=bX q rfl (vs:=[F,G,H,I,J,K]) rfl B.ones;have Y:eF w o:=D.trans (X.mono D.size);obtain⟨t,M⟩:=eC (o.setCells (w.heap.size+2) 0 [F,G,H,I,J,K]);have Z:Chg [w.heap.size+2] o t:=by rw[<-M];exact(Chg.refl _ _).setCells _ (.inl (by simp))
  have N:Wk wc.heap.size t F G H I J K L E' U':=by rw[<-M];exact B.setCells j.lt _
  rw[M] at s d;have hH:=d.has (n:=6) rfl;have hA:=d.arr (n:=6) rfl;have c:eF w t:=((Chg.of_below (S:=[w.heap.size+2]) Y).and Z).below' eH (by simp);have u:=eA (N.lower (b:=w.heap.size) D.size);clear M Z d B N V m z j C;go_wp2;refine bodyPost_ret (fS (P:=prog) Tryz.results14 _ _ (w.heap.size+2) 0 6 _ rfl underlying30 rfl bT hH) rfl ?_;exact⟨(L,1),rfl,F,G,H,I,J,K,E',U',by rw[hA];rfl,u.out,c⟩
end
section
open Go.RowKit Mem Led
def cBp(a b:Led.Bundle × Value):Int:=cB a.1 b.1
theorem cBp_cmp:Cmp cBp:=⟨fun a b=>lI.flip a.1 b.1,fun a b d=>lI.trans a.1 b.1 d.1,fun a b d=>lI.left a.1 b.1 d.1⟩
theorem op_bundle(o:Led.Op)(sv kv:Value):∀j u,(ai (o.bundle,kv))[j]?=some u->(ac o sv kv)[21+j]?=some u:=by
 intro j u h
 match j,h with
 | 0,h=>exact h
 | 1,h=>exact h
 | 2,h=>exact h
 | j+3,h=>simp[ai] at h
theorem sizeBun3:(prog.info? 45).map (·.size)=some 3:=by kernel_rfl
theorem jN{w:World}{g:Nat}{o:Led.Op}{sv kv:Value}(h:Blk w g (ac o sv kv) 47):(fo (.pointer (some ⟨g,21,none⟩))).run prog w=.ok (.agg (ai (o.bundle,kv)).toArray) w :=
 cz underlying45 rfl sizeBun3 rfl fun j u A=>by rw[h.cell];exact op_bundle o sv kv j u A
theorem store_bun{w:World}{g:Nat}{cs vs:List Value}{t:TypeId}(h:Blk w g cs t)(A:cs.length=3)(B:vs.length=3)(D:∀v∈vs,v.oneCell'=true) :
  (stBun (.pointer (some ⟨g,0,none⟩)) (.agg vs.toArray)).run prog w=.ok () (w.setCells g 0 vs)/\Blk (w.setCells g 0 vs) g vs t:=by
 have E:=bu (P:=prog) w 45 g 0 3 sizeBun3 vs.toArray ⟨by simpa using B,by simpa using D⟩ (eX h A) (fun j _=>h.froz _)
 have C:=jk vs w g 0 cs t h (by omega)
 simp[B,<-A] at C
 exact⟨E,C⟩
theorem rY(p:Led.Bundle × Value)(h:p.2.oneCell'=true):∀u∈ai p,u.oneCell'=true:=by
 intro u A
 simp[ai,tx,nm] at A
 rcases A with rfl|rfl|rfl
 .rfl
 .rfl
 .exact h
theorem qI(x:Led.Bundle × Value)(d:Txt)(n:Int)(go:Nat)(W:World)(B:W.cell? ⟨go,0,none⟩=some (.string (str d)))(C:W.cell? ⟨go,1,none⟩=some (.int .i64 n)) :
  Calls prog 109 (#[.agg (ai x).toArray]++#[.pointer (some ⟨go,0,none⟩)]) W fun e w'=>e=.returned (.bool (x.1.domain==d&&decide (x.1.number > n)))/\eF W w':=by
 have A:=World.block_lt_of_cell? W _ B
 simp only[] at A
 have D:∀o,eF W (W.alloc o):=fun o=>eI
 show Calls prog 109 #[.agg #[.string (str x.1.domain),.int .i64 x.1.number,x.2],.pointer (some ⟨go,0,none⟩)] W _
 cases E:(x.1.domain==d)
 all_goals
  go_enter func109,ntmps109
  go_wp2_with fail
  go_ret;exact⟨by first|rfl|simp,D _⟩
theorem qH(a b:Led.Bundle × Value)(W:World):Calls prog 111 #[.agg (ai a).toArray,.agg (ai b).toArray] W fun e w'=>e=.returned (.int .i64 (cBp a b))/\eF W w':=by
 have A:=fun W=>ow a.1.domain b.1.domain W
 have B:∀o p,eF W ((W.alloc o).alloc p):=fun o p=>eI.alloc (by simp) _
 unfold cBp cB
 show Calls prog 111 #[.agg #[.string (str a.1.domain),.int .i64 a.1.number,a.2],.agg #[.string (str b.1.domain),.int .i64 b.1.number,b.2]] W _
 generalize ord a.1.domain b.1.domain=v at *
 go_enter func111,ntmps111
 go_wp2_with fail
 refine(A _).mono ?_
 rintro e C ⟨rfl,rfl⟩
 go_wp2
 go_ret
 exact⟨rfl,B _ _⟩
def iN(ok:Bool)(base gl:Nat)(vU:Value)(U:List (Led.Bundle × Value))(p:Led.Bundle × Value)(w:World)(x:Ending)(w':World):Prop :=
 if ok then (if U.any (fun o=>o.1.domain==p.1.domain&&decide (o.1.number > p.1.number)) then x=.returned (.int .i64 22)/\eF w w' else gy ai 3 45 base gl 5 vU (put cBp 3 p U) w x w') else x=.returned (.int .i64 1)/\eF w w'
theorem sy(P:Bool->Prop)(gl:Nat)(o:Led.Op)(sv kv:Value)(vs:List Value)(U:List (Led.Bundle × Value))(base:Nat)(vU:Value)(w:World)(n:kv.oneCell'=true)(hU:U.length<=3)(hr:aY cBp U)(q:∀p∈U,p.2.oneCell'=true)(M:base<=w.heap.size)
  (T:Blk w gl vs 30) (h5:vs[5]?=some vU) (F:w.ownsRow base 45 3 vU U.length (ah ai U)) (r:vU.ownBlock≠some gl)
  (HB:∀N,eF w N->Calls prog 107 #[.agg (ai (o.bundle,kv)).toArray] N fun e w'=>∃ok,P ok/\e=.returned (.bool ok)/\eF N w') :
  Calls prog 53 #[.pointer (some ⟨gl,0,none⟩),.agg (ac o sv kv).toArray] w fun x w'=>∃ok,P ok/\iN ok base gl vU U (o.bundle,kv) w x w':=by
 obtain⟨A,c,rfl,Ab,Ac⟩:=aj F
 obtain⟨W,V⟩:=eC (w.alloc (.cells (ac o sv kv).toArray 47))
 have b0:Blk W w.heap.size (ac o sv kv) 47:=by rw[<-V];exact Blk.new w _ _
 have X:eF w W:=eG V
 have hz:W.heap.size=w.heap.size+1:=by rw[<-V];simp
 have Z:=jN b0
 have bn:=Blk.new W [.string ⟨#[]⟩,.int .i64 0,.slice none 0 0] 45
 have b:=rY (o.bundle,kv) n
 obtain⟨E,k⟩:=store_bun bn rfl (vs:=ai (o.bundle,kv)) rfl b
 obtain⟨l,O⟩:=eC ((W.alloc (.cells ([.string ⟨#[]⟩,.int .i64 0,.slice none 0 0]:List Value).toArray 45)).setCells W.heap.size 0 (ai (o.bundle,kv)))
 have d:Chg [] W l:=by rw[<-O];exact((Chg.refl _ _).alloc _).setCells _ (.inr eH)
 rw[O] at E k
 have f:=d.below (fun _ h=>by cases h)
 have G:eF w l:=X.trans (f.mono X.size)
 rw[hz] at E k
 have H:=HB l G
 have g:=cR k (aQ _)
 have s:=eA V
 obtain⟨CS,i⟩:=eC ((ac o sv kv).toArray)
 rw[i] at s ⊢
 obtain⟨Y,t⟩:=eD ((ai (o.bundle,kv)).toArray)
 rw[t.out] at Z E H g
 clear V O bn d i
 go_enter func53,ntmps53
 go_upto_region 1 with fail
 rw[s.out]
 clear s
 have E:(stBun (.pointer (some ⟨w.heap.size+1,0,none⟩)) (.agg Y)).run prog (W.alloc (.cells #[.string ⟨#[]⟩,.int .i64 0,.slice none 0 0] 45))=.ok () l:=E
 go_wp2_with fail
 refine H.mono ?_
 rintro e u ⟨ok,z,rfl,j⟩
 have B:eF w u:=G.trans (j.mono G.size)
 have b1:=k.below j
 have J:=T.below B
 clear H Z g E
 cases ok
 .go_wp2_with fail
  go_ret;exact⟨false,z,rfl,B⟩
 .have Aa:=J.lt
  have cK:u.cell? ⟨gl,5,none⟩=some (.slice A U.length c):=(J.cell 5).trans h5;have C:=hasBun_any 109 #[.pointer (some ⟨w.heap.size+1,0,none⟩)] (enters_of func109 (by kernel_rfl) rfl) (fun x=>x.1.domain==o.bundle.domain&&decide (x.1.number > o.bundle.number)) A U.length c U u (Vs.of_own (af F B eH)) (by omega) (fun N x _ hb=>qI x o.bundle.domain o.bundle.number (w.heap.size+1) N ((b1.below hb).cell 0) ((b1.below hb).cell 1))
  cases S:U.any (fun x=>x.1.domain==o.bundle.domain&&decide (x.1.number > o.bundle.number))
  .have m:Hid (∀x w',gy ai 3 45 base gl 5 (.slice A U.length c) (put cBp 3 (o.bundle,kv) U) w x w'->iN true base gl (.slice A U.length c) U (o.bundle,kv) w x w'):=eA (fun x w' h=>by unfold iN;rw[if_pos rfl,S];exact h)
   rw[S] at C;clear S;go_wp2_with fail
   refine C.mono ?_;rintro e Q ⟨rfl,I⟩;have K:eF w Q:=B.trans (I.mono B.size);have b2:=b1.below I;have f3:∀p,(fo (.pointer (some ⟨w.heap.size+1,0,none⟩))).run prog (ab Q p)=.ok (.agg Y) (ab Q p):=fun p=>by rw[<-t.out];exact cR (b2.below (aa Q p)) (aQ _)
   clear C cK;go_wp2_with fail
   refine bz 4 ?_;simp only[List.take_succ_cons,List.take_zero,List.drop_succ_cons,List.drop_zero];repeat (go_big_quiet_step (fail))
   refine wpQuiet_nil ?_;rintro _ ⟨py,rfl⟩;have g3:=aa Q py;clear f3;generalize ab Q py=w3 at *;have D:eF w w3:=K.trans (g3.mono K.size);have L:=putBun_any gl 5 111 (enters_of func111 (by kernel_rfl) rfl) cBp cBp_cmp (o.bundle,kv) U hr base (.slice A U.length c) 3 w3 hU (by omega) vs 30 (T.below D) h5 (af F D eH) r (Nat.le_trans M D.size) (fun y hy=>rY y (q y hy)) b (fun N y _ _=>qH y (o.bundle,kv) N);have R:=eA (L.mono fun x w' h=>lY D h);clear L;rw[t.out] at R;go_wp2_with fail
   refine R.out.mono ?_;intro e w4 h;have h':=eA (m.out e w4 h);clear R m;unfold gy at h
   cases hq:put cBp 3 (o.bundle,kv) U
   all_goals
    rw[hq] at h;obtain⟨rfl,_⟩:=h;clear hq;go_wp2;(try rw[ak])
    (try go_wp2)
    go_ret;exact⟨true,z,h'.out⟩
  .have m:Hid (∀w',eF w w'->iN true base gl (.slice A U.length c) U (o.bundle,kv) w (.returned (.int .i64 22)) w'):=eA (fun w' h=>by unfold iN;rw[if_pos rfl,S];exact⟨rfl,h⟩)
   rw[S] at C;clear S;go_wp2_with fail
   refine C.mono ?_;rintro e Q ⟨rfl,I⟩;go_wp2_with fail
   go_ret;exact⟨true,z,m.out _ (B.trans (I.mono B.size))⟩
end
section
open Go.RowKit Mem Led
namespace Led
theorem does_or(ok:Bool)(L:Ledger)(o:Op):(does ok L o).1=L\/(does ok L o).2=0:=by
 unfold does
 by_cases F:o.kind=1
 .rw [if_pos F]
  unfold fA;repeat' split
  all_goals first|exact .inl rfl|exact .inr rfl
 rw[if_neg F]
 by_cases G:o.kind=2
 .rw [if_pos G]
  unfold im;repeat' split
  all_goals first|exact .inl rfl|exact .inr rfl
 rw[if_neg G]
 by_cases H:o.kind=3
 .rw [if_pos H]
  unfold vr;repeat' split
  all_goals first|exact .inl rfl|exact .inr rfl
 rw[if_neg H]
 by_cases I:o.kind=4
 .rw [if_pos I]
  unfold fF;repeat' split
  all_goals first|exact .inl rfl|exact .inr rfl
 rw[if_neg I]
 by_cases J:o.kind=5
 .rw [if_pos J]
  unfold aR;repeat' split
  all_goals first|exact .inl rfl|exact .inr rfl
 rw[if_neg J]
 by_cases K:o.kind=6
 .rw [if_pos K]
  unfold ii;repeat' split
  all_goals first|exact .inl rfl|exact .inr rfl
 rw[if_neg K]
 by_cases M:o.kind=7
 .rw [if_pos M]
  unfold jg;repeat' split
  all_goals first|exact .inl rfl|exact .inr rfl
 rw[if_neg M]
 by_cases N:o.kind=8
 .rw [if_pos N]
  unfold gq;repeat' split
  all_goals first|exact .inl rfl|exact .inr rfl
 rw[if_neg N]
 by_cases O:o.kind=9
 .rw [if_pos O]
  unfold dU;repeat' split
  all_goals first|exact .inl rfl|exact .inr rfl
 rw[if_neg O]
 by_cases A:o.kind=10
 .rw [if_pos A]
  unfold dK;repeat' split
  all_goals first|exact .inl rfl|exact .inr rfl
 rw[if_neg A]
 by_cases B:o.kind=11
 .rw [if_pos B]
  unfold jh;repeat' split
  all_goals first|exact .inl rfl|exact .inr rfl
 rw[if_neg B]
 by_cases C:o.kind=12
 .rw [if_pos C]
  unfold bQ;repeat' split
  all_goals first|exact .inl rfl|exact .inr rfl
 rw[if_neg C]
 by_cases D:o.kind=13
 .rw [if_pos D]
  unfold dz;repeat' split
  all_goals first|exact .inl rfl|exact .inr rfl
 rw[if_neg D]
 by_cases E:o.kind=14
 .rw [if_pos E]
  unfold jZ;repeat' split
  all_goals first|exact .inl rfl|exact .inr rfl
 rw[if_neg E]
 exact .inl rfl
end Led
theorem did_bundle(P:Bool->Prop){base gl:Nat}{w:World}{vE vN vB vJ vK vU sv kv:Value}{L:Led.Ledger}{E:List (Led.Entry × Value)}{U:List (Led.Bundle × Value)}{o:Led.Op}(H:LAt base gl w vE vN vB vJ vK vU L E U)(J:L.Wf)(C:w.ownsRow base 54 2 kv o.bundle.keys.length (ah aN o.bundle.keys))
  (M:∀G,eF w G->Calls prog 107 #[.agg (ai (o.bundle,kv)).toArray] G fun e w'=>∃ok,P ok/\e=.returned (.bool ok)/\eF G w') :
  Calls prog 53 #[.pointer (some ⟨gl,0,none⟩),.agg (ac o sv kv).toArray] w fun x w'=>∃ok,P ok/\Did base gl (bQ ok L o.bundle) w x w':=by
 have K:U.length=L.bundles.length:=by rw[<-H.wk.buns,List.length_map]
 have T:=J.u3
 have D:∀{u:Value} {n:Nat} {xs:List Value},w.ownsRow base 54 2 u n xs->u.oneCell'=true:=fun N=>by
  obtain⟨A,c,h,_⟩:=aj N;rw[h];rfl
 refine(sy P gl o sv kv _ U base vU w (D C) (by omega) (tm H.wk.buns J.u1) (fun p F=>D (H.wk.keyss p F)) H.hb H.blk rfl H.wk.oU (ax H.wk.oU H.blk (by decide)) M).mono ?_
 rintro x w' ⟨ok,O,B⟩
 refine⟨ok,O,?_⟩
 unfold iN at B
 unfold bQ
 rw[vl (l:=L.bundles) H.wk.buns (fun b=>b.domain==o.bundle.domain&&decide (b.number > o.bundle.number))] at B
 split at B
 .rename_i hc
  rw[if_pos hc];split at B
  .rename_i hc
   rw[if_pos hc];exact Did.err H.hb (by decide) B
  .rename_i hc
   rw[if_neg hc];have hi:(ins cBp (o.bundle,kv) U).map Prod.fst=ins cB o.bundle L.bundles:=ins_fst H.wk.buns o.bundle kv;have I:(ins cBp (o.bundle,kv) U).length=(ins cB o.bundle L.bundles).length:=by rw[<-hi,List.length_map]
   unfold gy put at B;unfold put;rw[I] at B;split at B
   .rename_i l hl
    split at hl
    .rename_i hle
     injection hl with hl
     subst hl;rw[if_pos hle];obtain⟨rfl,Q⟩:=B;obtain⟨V,R,S⟩:=H.slotU Q hi (fun p F=>by
      rcases gP F with rfl|F
      .exact C
      .exact H.wk.keyss p F)
     exact Did.ok R S
    .cases hl
   .rename_i hl
    split at hl
    .cases hl
    .rename_i hle
     rw[if_neg hle];exact Did.err H.hb (by decide) B
 .rename_i hc
  rw[if_neg hc];exact Did.err H.hb (by decide) B
theorem apply_any(P:Bool->Prop)(cs:List Value)(L:Led.Ledger)(E:List (Led.Entry × Value))(U:List (Led.Bundle × Value))(o:Led.Op)(sv kv:Value)(w:World)(J:dk w cs L E U)(C:L.Wf)(A:Sized o)(k:o.kind<=100)(D:br w sv o.entry.sels)(F:aV aN 2 w kv o.bundle.keys)
  (m:∀Z b,eF w Z->aV aN 2 Z b o.bundle.keys->Calls prog 107 #[.agg (ai (o.bundle,b)).toArray] Z fun e w'=>∃ok,P ok/\e=.returned (.bool ok)/\eF Z w') :
  Calls prog 14 #[.agg cs.toArray,.agg (ac o sv kv).toArray] w (mj (fun r=>∃ok,(o.kind=12->P ok)/\r=does ok L o) L w):=by
 by_cases d:o.kind=1
 .refine bD cs L E U o sv kv 42 _ w J C.small D F A.el A.ul (by rw[d];kernel_rfl) (enters_of func42 (by kernel_rfl) rfl) ?_
  intro base gl W vE vN vB vJ vK vU O Q H G R B I M N K;have e:does false L o=fA L o.entry:=by unfold does;simp[d]
  refine(did_entry I C A M N).mono fun x w' h=>⟨_,⟨false,fun e=>by omega,rfl⟩,?_⟩;rw[e];exact h
 by_cases k2:o.kind=2
 .refine bD cs L E U o sv kv 43 _ w J C.small D F A.el A.ul (by rw[k2];kernel_rfl) (enters_of func43 (by kernel_rfl) rfl) ?_
  intro base gl W vE vN vB vJ vK vU O Q H G R B I M N K;have e:does false L o=im L o.n:=by unfold does;simp[k2]
  refine(did_gone I C).mono fun x w' h=>⟨_,⟨false,fun e=>by omega,rfl⟩,?_⟩;rw[e];exact h
 by_cases k3:o.kind=3
 .refine bD cs L E U o sv kv 44 _ w J C.small D F A.el A.ul (by rw[k3];kernel_rfl) (enters_of func44 (by kernel_rfl) rfl) ?_
  intro base gl W vE vN vB vJ vK vU O Q H G R B I M N K;have e:does false L o=vr L o.join:=by unfold does;simp[k3]
  refine(did_token I C A).mono fun x w' h=>⟨_,⟨false,fun e=>by omega,rfl⟩,?_⟩;rw[e];exact h
 by_cases k4:o.kind=4
 .refine bD cs L E U o sv kv 45 _ w J C.small D F A.el A.ul (by rw[k4];kernel_rfl) (enters_of func45 (by kernel_rfl) rfl) ?_
  intro base gl W vE vN vB vJ vK vU O Q H G R B I M N K;have e:does false L o=fF L o.name o.node:=by unfold does;simp[k4]
  refine(did_join I C A).mono fun x w' h=>⟨_,⟨false,fun e=>by omega,rfl⟩,?_⟩;rw[e];exact h
 by_cases k5:o.kind=5
 .refine bD cs L E U o sv kv 46 _ w J C.small D F A.el A.ul (by rw[k5];kernel_rfl) (enters_of func46 (by kernel_rfl) rfl) ?_
  intro base gl W vE vN vB vJ vK vU O Q H G R B I M N K;have e:does false L o=aR L o.node:=by unfold does;simp[k5]
  refine(did_node I C A).mono fun x w' h=>⟨_,⟨false,fun e=>by omega,rfl⟩,?_⟩;rw[e];exact h
 by_cases f:o.kind=6
 .refine bD cs L E U o sv kv 47 _ w J C.small D F A.el A.ul (by rw[f];kernel_rfl) (enters_of func47 (by kernel_rfl) rfl) ?_
  intro base gl W vE vN vB vJ vK vU O Q H G R B I M N K;have e:does false L o=ii L o.name:=by unfold does;simp[f]
  refine(did_ban I C A).mono fun x w' h=>⟨_,⟨false,fun e=>by omega,rfl⟩,?_⟩;rw[e];exact h
 by_cases g:o.kind=7
 .refine bD cs L E U o sv kv 48 _ w J C.small D F A.el A.ul (by rw[g];kernel_rfl) (enters_of func48 (by kernel_rfl) rfl) ?_
  intro base gl W vE vN vB vJ vK vU O Q H G R B I M N K;have e:does false L o=jg L o.name:=by unfold does;simp[g]
  refine(did_lift I C).mono fun x w' h=>⟨_,⟨false,fun e=>by omega,rfl⟩,?_⟩;rw[e];exact h
 by_cases i:o.kind=8
 .refine bD cs L E U o sv kv 49 _ w J C.small D F A.el A.ul (by rw[i];kernel_rfl) (enters_of func49 (by kernel_rfl) rfl) ?_
  intro base gl W vE vN vB vJ vK vU O Q H G R B I M N K;have e:does false L o=gq L o.name:=by unfold does;simp[i]
  refine(did_evict I C).mono fun x w' h=>⟨_,⟨false,fun e=>by omega,rfl⟩,?_⟩;rw[e];exact h
 by_cases j:o.kind=9
 .refine bD cs L E U o sv kv 50 _ w J C.small D F A.el A.ul (by rw[j];kernel_rfl) (enters_of func50 (by kernel_rfl) rfl) ?_
  intro base gl W vE vN vB vJ vK vU O Q H G R B I M N K;have e:does false L o=dU L o.key:=by unfold does;simp[j]
  refine(did_prepare I C).mono fun x w' h=>⟨_,⟨false,fun e=>by omega,rfl⟩,?_⟩;rw[e];exact h
 by_cases T:o.kind=10
 .refine bD cs L E U o sv kv 51 _ w J C.small D F A.el A.ul (by rw[T];kernel_rfl) (enters_of func51 (by kernel_rfl) rfl) ?_
  intro base gl W vE vN vB vJ vK vU O Q H G R B I M N K;have e:does false L o=dK L o.n:=by unfold does;simp[T]
  refine(did_active I C).mono fun x w' h=>⟨_,⟨false,fun e=>by omega,rfl⟩,?_⟩;rw[e];exact h
 by_cases V:o.kind=11
 .refine bD cs L E U o sv kv 52 _ w J C.small D F A.el A.ul (by rw[V];kernel_rfl) (enters_of func52 (by kernel_rfl) rfl) ?_
  intro base gl W vE vN vB vJ vK vU O Q H G R B I M N K;have e:does false L o=jh L o.name:=by unfold does;simp[V]
  refine(did_drop I C).mono fun x w' h=>⟨_,⟨false,fun e=>by omega,rfl⟩,?_⟩;rw[e];exact h
 by_cases X:o.kind=13
 .refine bD cs L E U o sv kv 54 _ w J C.small D F A.el A.ul (by rw[X];kernel_rfl) (enters_of func54 (by kernel_rfl) rfl) ?_
  intro base gl W vE vN vB vJ vK vU O Q H G R B I M N K;have e:does false L o=dz L o.name:=by unfold does;simp[X]
  refine(did_unbind I C).mono fun x w' h=>⟨_,⟨false,fun e=>by omega,rfl⟩,?_⟩;rw[e];exact h
 by_cases Y:o.kind=14
 .refine bD cs L E U o sv kv 55 _ w J C.small D F A.el A.ul (by rw[Y];kernel_rfl) (enters_of func55 (by kernel_rfl) rfl) ?_
  intro base gl W vE vN vB vJ vK vU O Q H G R B I M N K;have e:does false L o=jZ L o.name o.n:=by unfold does;simp[Y]
  refine(did_seq I C).mono fun x w' h=>⟨_,⟨false,fun e=>by omega,rfl⟩,?_⟩;rw[e];exact h
 by_cases S:o.kind=12
 .refine bD cs L E U o sv kv 53 _ w J C.small D F A.el A.ul (by rw[S];kernel_rfl) (enters_of func53 (by kernel_rfl) rfl) ?_
  intro base gl W vE vN vB vJ vK vU O Q H G R B I M N K;refine(did_bundle P I C K (fun Z c=>m Z G (B.trans (c.mono B.size)) ((bc K).below c))).mono ?_;rintro x w' ⟨ok,q,h⟩;have e:does ok L o=bQ ok L o.bundle:=by unfold does;simp[S]
  refine⟨_,⟨ok,fun _=>q,rfl⟩,?_⟩;rw[e];exact h
 have e:does false L o=(L,1):=by unfold does;simp only[d,k2,k3,k4,k5,f,g,i,j,T,V,S,X,Y,if_false]
 refine(apply_none cs L E U (ac o sv kv) o.kind w J C.small rfl ?_).mono ?_
 .rw [List.findIdx?_eq_none_iff]
  intro p l;simp only[doL,List.mem_cons,List.not_mem_nil,or_false] at l;rcases l with rfl|rfl|rfl|rfl|rfl|rfl|rfl|rfl|rfl|rfl|rfl|rfl|rfl|rfl|rfl|rfl|rfl|rfl|rfl|rfl<;>simp only[beq_eq_false_iff_ne,ne_eq]<;>omega
 .rintro x w' ⟨r,rfl,h⟩
  exact⟨(L,1),⟨false,fun e=>absurd e S,e.symm⟩,h⟩
end
section
open Go.RowKit Mem Led
structure JsV where
 kind:Int
 number:Int
 text:Txt
 names:Value
 kids:Value
def am(v:JsV):List Value:=[.int .i64 v.kind,.int .i64 v.number,.string (str v.text),v.names,v.kids]
theorem eV(v:JsV):(am v).length=5:=rfl
theorem ol:(prog.info? 197).map (·.size)=some 5:=by kernel_rfl
def nw(x:Value):Sem Value:=Instr.loadAt 197 x
def stJs(x v:Value):Sem Unit:=Instr.storeAt 197 x v
theorem named_ldJs(x:Value):Instr.loadAt 197 x=nw x:=rfl
theorem named_stJs(x v:Value):Instr.storeAt 197 x v=stJs x v:=rfl
attribute [go_sem ↓] named_ldJs named_stJs
theorem ldJs_es{w:World}{A:Option Addr}{n:Nat}{L:List JsV}(h:Es am 5 w A n L){i:Nat}(hi:i<L.length) :
  ∃b B,A=some ⟨b,B,none⟩/\b<w.heap.size/\∀w',eF w w'->(nw (.pointer (some ⟨b,B+i*5,none⟩))).run prog w'=.ok (.agg (am L[i]).toArray) w' :=
 fZ underlying197 rfl ol eV (by omega) h hi
theorem bP{w:World}{g:Nat}{v:JsV}{t:TypeId}(h:Blk w g (am v) t):(nw (.pointer (some ⟨g,0,none⟩))).run prog w=.ok (.agg (am v).toArray) w :=
 cz underlying197 rfl ol rfl fun j u A=>by rw[h.cell,Nat.zero_add];exact A
theorem idxJs_any(g:Nat)(lb:Array Value)(Y:∀args w,(callFunc g args).run prog w=.ok (.enter g args) w)(p:JsV->Bool)(A:Option Addr)(n c:Nat)(L:List JsV)(w:World)(h:Es am 5 w A n L)(Z:n<=9223372036854775807)
  (Q:∀(W:World) (x:JsV),x∈L->eF w W->Calls prog g (#[.agg (am x).toArray]++lb) W fun e w'=>e=.returned (.bool (p x))/\eF W w') :
  Calls prog 259 #[.slice A n c,.func (.func g) #[] lb] w fun e w'=>e=.returned (.int .i64 (aX p L))/\eF w w':=by
 have C:=h.len eV (by decide)
 have G:=eA C
 obtain⟨r,J⟩:=eD (aX p L)
 rw[J.out]
 have R:=eA Q
 clear Q
 go_enter func259,ntmps259
 go_wp2
 go_loopw [8,5] (fun i _ wr=>∃k:Nat,k<=n/\i=.int .i64 k/\Hid (∀x∈L.take k,p x=false)/\eF w wr) (fun i _ _=>n-(intOf i).toNat)
 case atStart=>exact⟨0,by omega,rfl,eA (by simp),Below.refl _ _⟩
 case round =>
  obtain⟨k,d,rfl,K,D⟩:=hrel;by_cases M:k<n
  .have B:k<L.length:=by rw[C];exact M
   obtain⟨b,S,rfl,T,H⟩:=ldJs_es (h.below D) B;have f:=H wr (Below.refl _ _);clear H;have I:=R.out wr L[k] (List.getElem_mem B) D;have hi:(k:Int)<(n:Int):=by omega
   cases F:p L[k]
   .have U:=eA (dP B K.out F)
    rw[F] at I;generalize (am L[k]).toArray=X at *;clear F;go_wp2_with fail
    refine I.mono ?_;rintro e V ⟨rfl,E⟩;go_wp2;go_roundw
    case rel=>exact⟨k+1,by omega,by go_num,U,D.trans (E.mono D.size)⟩
    case measure=>simp[intOf];omega
   .have N:=eA (gi B K.out F)
    rw[F] at I;generalize (am L[k]).toArray=X at *;clear F;go_wp2_with fail
    refine I.mono ?_;rintro e V ⟨rfl,E⟩;go_wp2;go_ret;exact⟨by rw[<-J.out,N.out];rfl,D.trans (E.mono D.size)⟩
  .have O:k=n:=by omega
   have N:=eA (gj (p:=p) (L:=L) (by have:=K.out;rwa [O,List.take_of_length_le (by rw[G.out];exact eH)] at this))
   have hi:¬((k:Int)<(n:Int)):=by omega
   go_wp2;go_ret;exact⟨by rw[<-J.out,N.out];rfl,D⟩
theorem mf(g:Nat)(lb:Array Value)(C:∀args w,(callFunc g args).run prog w=.ok (.enter g args) w)(p:JsV->Bool)(A:Option Addr)(n c:Nat)(L:List (JsV))(w:World)(h:Es am 5 w A n L)(D:n<=9223372036854775807)
  (E:∀(W:World) (x:JsV),x∈L->eF w W->Calls prog g (#[.agg (am x).toArray]++lb) W fun e w'=>e=.returned (.bool (p x))/\eF W w') :
  Calls prog 232 #[.slice A n c,.func (.func g) #[] lb] w fun e w'=>e=.returned (.bool (L.any p))/\eF w w':=by
 have F:=idxJs_any g lb C p A n c L w h D E
 rw[<-iB]
 generalize aX p L=r at *
 go_enter func232,ntmps232
 go_wp2_with fail
 refine F.mono ?_
 rintro e G ⟨rfl,B⟩
 go_wp2
 go_ret
 exact⟨by first|rfl|simp,B⟩
theorem kF(g:Nat)(lb:Array Value)(C:∀args w,(callFunc g args).run prog w=.ok (.enter g args) w)(p:Txt->Bool)(A:Option Addr)(n c:Nat)(L:List (Txt))(w:World)(h:Ts w A n L)(D:n<=9223372036854775807)
  (E:∀(W:World) (x:Txt),x∈L->eF w W->Calls prog g (#[.string (str x)]++lb) W fun e w'=>e=.returned (.bool (p x))/\eF W w') :
  Calls prog 159 #[.slice A n c,.func (.func g) #[] lb] w fun e w'=>e=.returned (.bool (L.any p))/\eF w w':=by
 have F:=ry g lb C p A n c L w h D E
 rw[<-iB]
 generalize aX p L=r at *
 go_enter func159,ntmps159
 go_wp2_with fail
 refine F.mono ?_
 rintro e G ⟨rfl,B⟩
 go_wp2
 go_ret
 exact⟨by first|rfl|simp,B⟩
theorem lZ(k:Int)(m:Int)(t:Txt)(A:Option Addr)(n c:Nat)(M:Option Addr)(n' N:Nat)(w:World)(O:k=2\/k=3\/k=4\/k=5)(H:m=0\/k=2)(I:n'=0\/k=4\/k=5)(J:n=0\/k=5)(E:t=[]\/k=3) :
  Calls prog 228 #[.agg #[.int .i64 k,.int .i64 m,.string (str t),.slice A n c,.slice M n' N]] w fun e w'=>e=.returned (.bool true)/\eF w w':=by
 have B:∀o,eF w (w.alloc o):=fun o=>eI
 have C:str []=⟨#[]⟩:=rfl
 rcases O with rfl|rfl|rfl|rfl
 .have e2:n'=0:=by omega
  have e3:n=0:=by omega
  have e4:t=[]:=by rcases E with h|h;exact h;omega
  subst e2 e3 e4;rw[C];clear H I J E;by_cases L:m=0
  .subst L
   go_enter func228,ntmps228
   go_wp2_with fail
   go_ret;exact⟨rfl,B _⟩
  .have Q:(m==0)=false:=by simpa using L
   have R:decide (m=0)=false:=by simpa using L
   go_enter func228,ntmps228
   go_wp2_with fail
   go_ret;exact⟨rfl,B _⟩
 .have G:m=0:=by omega
  have e2:n'=0:=by omega
  have e3:n=0:=by omega
  subst G e2 e3;clear H I J E;by_cases ht:t=[]
  .subst ht
   rw[C];go_enter func228,ntmps228
   go_wp2_with fail
   go_ret;exact⟨rfl,B _⟩
  .have S:decide (str t=⟨#[]⟩)=false:=by simp[str];exact ht
   have T:(str t).toList.isEmpty=false:=by rw[nZ];simpa using ht
   have K:t.isEmpty=false:=by simpa using ht
   have U:(t==[])=false:=by simpa using ht
   go_enter func228,ntmps228
   go_wp2_with fail
   go_ret;exact⟨rfl,B _⟩
 .have G:m=0:=by omega
  have e3:n=0:=by omega
  have e4:t=[]:=by rcases E with h|h;exact h;omega
  subst G e3 e4;rw[C];clear H I J E;by_cases F:n'=0
  .subst F
   go_enter func228,ntmps228
   go_wp2_with fail
   go_ret;exact⟨rfl,B _⟩
  .have S:((n':Int)==0)=false:=by simp;omega
   have T:decide ((n':Int)=0)=false:=by simp;omega
   have K:(n'==0)=false:=by simpa using F
   go_enter func228,ntmps228
   go_wp2_with fail
   go_ret;exact⟨rfl,B _⟩
 .have G:m=0:=by omega
  have e4:t=[]:=by rcases E with h|h;exact h;omega
  subst G e4;rw[C];clear H I J E;by_cases F:n'=0<;>by_cases D:n=0
  .subst F D
   go_enter func228,ntmps228
   go_wp2_with fail
   go_ret;exact⟨rfl,B _⟩
  .subst F
   have K:(n==0)=false:=by simpa using D
   go_enter func228,ntmps228
   go_wp2_with fail
   go_ret;exact⟨rfl,B _⟩
  .subst D
   have K:(n'==0)=false:=by simpa using F
   go_enter func228,ntmps228
   go_wp2_with fail
   go_ret;exact⟨rfl,B _⟩
  .have K:(n'==0)=false:=by simpa using F
   have U:(n==0)=false:=by simpa using D
   go_enter func228,ntmps228
   go_wp2_with fail
   go_ret;exact⟨rfl,B _⟩
end
end Go.Proofs.YtmbpnkacggngkaaGreatDoor
section
namespace Go.Proofs
open Go.Shelf
theorem Tryz.Builder_Extra_169:Builder.Extra Tryz.prog Tryz.lays169_ren:={
 sizeBuilder:=by kernel_rfl
 liesBuilder:=by kernel_rfl
 t5:=Tryz.underlying5
 a5:=Tryz.isAgg5
 z5:=Tryz.sizeOf5
 v5:=Tryz.zeroValue5
 infoByte:=by kernel_rfl
 cellsByte:=by kernel_rfl
 sizeByte:=by kernel_rfl
 neB5:=by decide }
open Go.RowKit in
theorem Tryz.Builder_String_any(B b:Nat) (l:List UInt8) (w:World) (h:Lib.IsBuilder 214 5 B b (Lib.byteCells l) w) (hBw:B≤w.heap.size) :
  Calls Tryz.prog 202 #[.pointer (some ⟨b,0,none⟩)] w fun e w'=>e=.returned (.string ⟨l.toArray⟩)∧Below B w w':=Any.Builder_String_any Tryz.lays169 Tryz.Builder_Extra_169 B b l w h hBw
def Tryz.laysGw17_ren:Go.Shelf.Ren:=⟨fun|17=>230|15=>258|20=>272|n=>n,fun|9=>9|23=>241|4=>4|3=>3|0=>0|21=>21|n=>n,fun|n=>n⟩
theorem Tryz.laysGw17:Go.Proofs.LaysGw.n17 Tryz.prog Tryz.laysGw17_ren:={
 mixed:=by kernel_rfl
 f15:=Tryz.func258.trans (congrArg some (by kernel_rfl))
 f17:=Tryz.func230.trans (congrArg some (by kernel_rfl))
 f20:=Tryz.func272.trans (congrArg some (by kernel_rfl))
 t0:=Tryz.underlying0
 a0:=Tryz.isAgg0
 z0:=Tryz.sizeOf0
 v0:=Tryz.zeroValue0
 i0:=by kernel_rfl
 t3:=Tryz.underlying3
 a3:=Tryz.isAgg3
 z3:=Tryz.sizeOf3
 v3:=Tryz.zeroValue3
 i3:=by kernel_rfl
 t4:=Tryz.underlying4
 a4:=Tryz.isAgg4
 z4:=Tryz.sizeOf4
 v4:=Tryz.zeroValue4
 i4:=by kernel_rfl
 t9:=Tryz.underlying9
 a9:=Tryz.isAgg9
 z9:=Tryz.sizeOf9
 v9:=Tryz.zeroValue9
 i9:=by kernel_rfl
 t21:=Tryz.underlying21
 a21:=Tryz.isAgg21
 z21:=Tryz.sizeOf21
 v21:=Tryz.zeroValue21
 i21:=by kernel_rfl
 t23:=Tryz.underlying241
 a23:=Tryz.isAgg241
 z23:=Tryz.sizeOf241
 v23:=Tryz.zeroValue241
 i23:=by kernel_rfl }
open Go.RowKit Go.Lib in
theorem Tryz.strings_ContainsFunc_runes(g:Nat) (lb:Array Value) (eg:∀ args w,(callFunc g args).run Tryz.prog w=.ok (.enter g args) w) (p:Nat→Bool) (s:ByteArray) (w:World) (hp:PredAtRunes Tryz.prog g lb p w) :
  Calls Tryz.prog 230 #[.string s,.func (.func g) #[] lb] w fun e w'=>e=.returned (.bool (decide (0≤Lib.idxFunc p true s)))∧Below w.heap.size w w':=Any.strings_ContainsFunc_runes Tryz.laysGw17 g lb eg p s w hp
end Go.Proofs
end
namespace Go.Proofs.YtmbpnkacggngkaaGreatDoor
open Batch
open Tryz
section
open Go.RowKit Mem Led
def Asc(t:Txt):Prop:=∀c∈t,c.toNat<=126
theorem vh(s:ByteArray)(i:Nat)(h:(s.get! i).toNat<128):Utf8.decode s i=((s.get! i).toNat,1):=by
 unfold Utf8.decode
 simp only[Nat.add_zero]
 rw[if_pos h]
theorem get_str(t:Txt)(i:Nat)(h:i<t.length):(str t).get! i=t[i]:=by
 show (str t).data[i]! = _
 have:(str t).data=t.toArray:=by simp[str]
 rw[this]
 simp[h]
theorem idx_asc{p:Nat->Bool}(B:∀x,x<=126->p x=false){t:Txt}(ht:Asc t):∀f A,Lib.idxFuncFrom p true (str t) f A = -1
 | 0,_=>rfl
 | f+1,A=>by
  unfold Lib.idxFuncFrom;split
  .rename_i hlt
   rw[aC] at hlt;have C:=get_str t A hlt;have D:=ht _ (List.getElem_mem hlt);rw[vh _ _ (by rw[C];omega),C]
   rw[if_neg (by rw[B _ D];simp)]
   exact idx_asc B ht f _
  .rfl
theorem right11_any(x:Nat)(hx:x<=1114111)(W:World):Calls prog 231 (#[.int .i32 (x:Int)]++#[]) W fun e w'=>e=.returned (.bool (decide (126<x)))/\∃q,w'=W.drewN q:=by
 by_cases h:126<x
 .rw [decide_eq_true h]
  have A:(126:Int)<(x:Int):=by omega
  go_enter func231,ntmps231
  go_wp2;go_ret;exact⟨rfl,0,rfl⟩
 .rw [decide_eq_false h]
  have A:¬(126:Int)<(x:Int):=by omega
  go_enter func231,ntmps231
  go_wp2;go_ret;exact⟨rfl,0,rfl⟩
theorem iV(t:Txt)(ht:Asc t)(W:World):Calls prog 229 #[.string (str t)] W fun e w'=>e=.returned (.bool false)/\eF W w':=by
 have A:=Tryz.strings_ContainsFunc_runes 231 #[] (enters_of func231 (by kernel_rfl) rfl) (fun x=>decide (126<x)) (str t) W (fun B x hx _=>right11_any x hx B)
 rw[show decide (0<=Lib.idxFunc (fun x=>decide (126<x)) true (str t))=false by
  unfold Lib.idxFunc;rw[idx_asc (fun x hx=>by simp;omega) ht]
  rfl] at A
 go_enter func229,ntmps229
 go_wp2_with fail
 refine A.mono ?_
 rintro e D ⟨rfl,C⟩
 go_wp2
 go_ret
 exact⟨rfl,C⟩
theorem ts_take2{w:World}{A:Option Addr}{n:Nat}{L:List Txt}(h:Ts w A n L){k:Nat}(B:k<=n):Ts w A k (L.take k):=by
 have:=Vs.take h B
 rw[Nat.mul_one] at this
 unfold Ts tv at *
 rw[List.map_take]
 exact this
theorem qD(k:JsV)(go d:Nat)(hd:d<=1000)(W:World)(C:W.cell? ⟨go,0,none⟩=some (.int .i64 (d:Int)))(H:∀D,eF W D->Calls prog 199 #[.agg (am k).toArray,.int .i64 ((d:Int)-1)] D fun e E=>e=.returned (.bool true)/\eF D E) :
  Calls prog 233 (#[.agg (am k).toArray]++#[.pointer (some ⟨go,0,none⟩)]) W fun e w'=>e=.returned (.bool false)/\eF W w':=by
 have A:=World.block_lt_of_cell? W _ C
 simp only[] at A
 have B:eF W (W.alloc (.cells (am k).toArray 197)):=eI
 have I:=bP (Blk.new W (am k) 197)
 have F:=H _ B
 have J:(W.alloc (.cells (am k).toArray 197)).cell? ⟨go,0,none⟩=some (.int .i64 (d:Int)):=(B.cell (p:=⟨go,0,none⟩) A).trans C
 clear H C
 show Calls prog 233 #[.agg (am k).toArray,.pointer (some ⟨go,0,none⟩)] W _
 generalize (am k).toArray=X at *
 have K:wrap64 ((d:Int)-1)=(d:Int)-1:=by unfold wrap64;omega
 go_enter func233,ntmps233
 go_wp2_with fail
 refine F.mono ?_
 rintro e L ⟨rfl,G⟩
 go_wp2_with fail
 go_ret
 exact⟨rfl,B.trans (G.mono B.size)⟩
theorem right_2(w:World)(d:Nat)(m:Int)(y : -1000000000000000<=m)(z:m<=1000000000000000) :
  Calls prog 199 #[.agg #[.int .i64 2,.int .i64 m,.string ⟨#[]⟩,.slice none 0 0,.slice none 0 0],.int .i64 (d:Int)] w fun e w'=>e=.returned (.bool true)/\eF w w':=by
 have N:str []=⟨#[]⟩:=rfl
 obtain⟨W,O⟩:=eC ((w.alloc (.cells (am ⟨2,m,[],.slice none 0 0,.slice none 0 0⟩).toArray 197)).alloc (.cells ([.int .i64 (d:Int)]:List Value).toArray 3))
 have U:Blk W w.heap.size (am ⟨2,m,[],.slice none 0 0,.slice none 0 0⟩) 197:=by rw[<-O];exact(Blk.new _ _ _).alloc _
 have h:Blk W (w.heap.size+1) [.int .i64 (d:Int)] 3:=by
  have:=Blk.new (w.alloc (.cells (am ⟨2,m,[],.slice none 0 0,.slice none 0 0⟩).toArray 197)) [.int .i64 (d:Int)] 3;rw[<-O];simpa using this
 have Q:eF w W:=by rw[<-O];exact eI.alloc (by simp) _
 have I:=lZ 2 m [] none 0 0 none 0 0 W (by omega) (by omega) (by omega) (by omega) (by first|exact .inl rfl|exact .inr rfl)
 have V:(nw (.pointer (some ⟨w.heap.size,0,none⟩))).run prog W=.ok (.agg #[.int .i64 2,.int .i64 m,.string ⟨#[]⟩,.slice none 0 0,.slice none 0 0]) W:=bP U
 have k:Hid ((w.alloc (.cells #[.int .i64 2,.int .i64 m,.string ⟨#[]⟩,.slice none 0 0,.slice none 0 0] 197)).alloc (.cells #[.int .i64 (d:Int)] 3)=W):=eA O
 clear O
 rw[N] at I
 obtain⟨o,q⟩:=eC (((d:Int)==0))
 go_enter func199,ntmps199
 go_upto_region 1 with fail
 rw[k.out]
 clear k
 go_wp2_with fail
 refine I.mono ?_
 rintro e D ⟨rfl,B⟩
 have E:eF w D:=Q.trans (B.mono Q.size)
 have J:=U.below B
 have X:=h.below B
 have Y:D.cell? ⟨w.heap.size,0,none⟩=some (.int .i64 2):=J.cell 0
 have Z:D.cell? ⟨w.heap.size,1,none⟩=some (.int .i64 m):=J.cell 1
 have k2:D.cell? ⟨w.heap.size,2,none⟩=some (.string ⟨#[]⟩):=J.cell 2
 have k3:D.cell? ⟨w.heap.size,3,none⟩=some (.slice none 0 0):=J.cell 3
 have k4:D.cell? ⟨w.heap.size,4,none⟩=some (.slice none 0 0):=J.cell 4
 have k5:D.cell? ⟨w.heap.size+1,0,none⟩=some (.int .i64 (d:Int)):=X.cell 0
 have A:=iV [] (fun c r=>by cases r) D
 clear I V U h B
 rw[N] at A
 cases o
 all_goals
  go_wp2_with fail
  refine A.mono ?_;rintro e T ⟨rfl,C⟩;have F:eF w T:=E.trans (C.mono E.size);have b:=J.below C;have l:=X.below C;have s:T.cell? ⟨w.heap.size,3,none⟩=some (.slice none 0 0):=b.cell 3;have K:=kF 229 #[] (enters_of func229 (by kernel_rfl) rfl) (fun _=>false) none 0 0 ([]:List Txt) T (Ts.empty T none) (by omega) (fun t x hx _=>by cases hx);rw[show ([]:List Txt).any (fun _=>false)=false by simp] at K;clear A Y Z k2 k3 k4 k5 J X;go_wp2_with fail
  refine K.mono ?_;rintro e R ⟨rfl,L⟩;have G:eF w R:=F.trans (L.mono F.size);have E0:=b.below L;have u:=l.below L;have Y:R.cell? ⟨w.heap.size,0,none⟩=some (.int .i64 2):=E0.cell 0;have Z:R.cell? ⟨w.heap.size,1,none⟩=some (.int .i64 m):=E0.cell 1;have k3:R.cell? ⟨w.heap.size,3,none⟩=some (.slice none 0 0):=E0.cell 3;clear K s b l C;go_wp2_with fail
  go_loopw [6,7,72] (fun _ _ i wx=>∃j:Nat,j<=0/\i=.int .i64 (j:Int)/\eF R wx) (fun _ _ i _=>0-(intOf i).toNat)
  case atStart=>exact⟨0,by omega,rfl,Below.refl _ _⟩
  case round =>
   clear Y Z k3;obtain⟨j,hj,rfl,M⟩:=hrel;obtain⟨wx,f⟩:∃wx,wx=wr:=⟨_,rfl⟩;subst f;have H:eF w wx:=G.trans (M.mono G.size);have n:=E0.below M;have X1:=u.below M;have k3:wx.cell? ⟨w.heap.size,3,none⟩=some (.slice none 0 0):=n.cell 3;have k4:wx.cell? ⟨w.heap.size,4,none⟩=some (.slice none 0 0):=n.cell 4;obtain rfl:j=0:=by omega
   have S:=mf 233 #[.pointer (some ⟨w.heap.size+1,0,none⟩)] (enters_of func233 (by kernel_rfl) rfl) (fun _=>false) none 0 0 ([]:List JsV) wx (Vs.empty _ _ _ _) (by omega) (fun t x hx _=>by cases hx);rw[show ([]:List JsV).any (fun _=>false)=false from rfl] at S;go_wp2_with fail
   refine S.mono ?_;rintro e w5 ⟨rfl,g⟩;go_wp2_with fail
   go_ret;exact⟨rfl,H.trans (g.mono H.size)⟩
theorem right_3(w:World)(d:Nat)(t:Txt)(T:Asc t) :
  Calls prog 199 #[.agg #[.int .i64 3,.int .i64 0,.string (str t),.slice none 0 0,.slice none 0 0],.int .i64 (d:Int)] w fun e w'=>e=.returned (.bool true)/\eF w w':=by
 have m:str []=⟨#[]⟩:=rfl
 obtain⟨W,M⟩:=eC ((w.alloc (.cells (am ⟨3,0,t,.slice none 0 0,.slice none 0 0⟩).toArray 197)).alloc (.cells ([.int .i64 (d:Int)]:List Value).toArray 3))
 have U:Blk W w.heap.size (am ⟨3,0,t,.slice none 0 0,.slice none 0 0⟩) 197:=by rw[<-M];exact(Blk.new _ _ _).alloc _
 have g:Blk W (w.heap.size+1) [.int .i64 (d:Int)] 3:=by
  have:=Blk.new (w.alloc (.cells (am ⟨3,0,t,.slice none 0 0,.slice none 0 0⟩).toArray 197)) [.int .i64 (d:Int)] 3;rw[<-M];simpa using this
 have N:eF w W:=by rw[<-M];exact eI.alloc (by simp) _
 have O:=lZ 3 0 t none 0 0 none 0 0 W (by omega) (by omega) (by omega) (by omega) (by first|exact .inl rfl|exact .inr rfl)
 have V:(nw (.pointer (some ⟨w.heap.size,0,none⟩))).run prog W=.ok (.agg #[.int .i64 3,.int .i64 0,.string (str t),.slice none 0 0,.slice none 0 0]) W:=bP U
 have h:Hid ((w.alloc (.cells #[.int .i64 3,.int .i64 0,.string (str t),.slice none 0 0,.slice none 0 0] 197)).alloc (.cells #[.int .i64 (d:Int)] 3)=W):=eA M
 clear M
 obtain⟨n,o⟩:=eC (((d:Int)==0))
 go_enter func199,ntmps199
 go_upto_region 1 with fail
 rw[h.out]
 clear h
 go_wp2_with fail
 refine O.mono ?_
 rintro e C ⟨rfl,A⟩
 have D:eF w C:=N.trans (A.mono N.size)
 have I:=U.below A
 have X:=g.below A
 have Y:C.cell? ⟨w.heap.size,0,none⟩=some (.int .i64 3):=I.cell 0
 have Z:C.cell? ⟨w.heap.size,1,none⟩=some (.int .i64 0):=I.cell 1
 have k2:C.cell? ⟨w.heap.size,2,none⟩=some (.string (str t)):=I.cell 2
 have k3:C.cell? ⟨w.heap.size,3,none⟩=some (.slice none 0 0):=I.cell 3
 have k4:C.cell? ⟨w.heap.size,4,none⟩=some (.slice none 0 0):=I.cell 4
 have k5:C.cell? ⟨w.heap.size+1,0,none⟩=some (.int .i64 (d:Int)):=X.cell 0
 have E:=iV t T C
 clear O V U g A
 cases n
 all_goals
  go_wp2_with fail
  refine E.mono ?_;rintro e S ⟨rfl,B⟩;have F:eF w S:=D.trans (B.mono D.size);have b:=I.below B;have k:=X.below B;have q:S.cell? ⟨w.heap.size,3,none⟩=some (.slice none 0 0):=b.cell 3;have J:=kF 229 #[] (enters_of func229 (by kernel_rfl) rfl) (fun _=>false) none 0 0 ([]:List Txt) S (Ts.empty S none) (by omega) (fun r x hx _=>by cases hx);rw[show ([]:List Txt).any (fun _=>false)=false by simp] at J;clear E Y Z k2 k3 k4 k5 I X;go_wp2_with fail
  refine J.mono ?_;rintro e Q ⟨rfl,K⟩;have G:eF w Q:=F.trans (K.mono F.size);have E0:=b.below K;have s:=k.below K;have Y:Q.cell? ⟨w.heap.size,0,none⟩=some (.int .i64 3):=E0.cell 0;have Z:Q.cell? ⟨w.heap.size,1,none⟩=some (.int .i64 0):=E0.cell 1;have k3:Q.cell? ⟨w.heap.size,3,none⟩=some (.slice none 0 0):=E0.cell 3;clear J q b k B;go_wp2_with fail
  go_loopw [6,7,72] (fun _ _ i wx=>∃j:Nat,j<=0/\i=.int .i64 (j:Int)/\eF Q wx) (fun _ _ i _=>0-(intOf i).toNat)
  case atStart=>exact⟨0,by omega,rfl,Below.refl _ _⟩
  case round =>
   clear Y Z k3;obtain⟨j,u,rfl,L⟩:=hrel;obtain⟨wx,c⟩:∃wx,wx=wr:=⟨_,rfl⟩;subst c;have H:eF w wx:=G.trans (L.mono G.size);have l:=E0.below L;have y:=s.below L;have k3:wx.cell? ⟨w.heap.size,3,none⟩=some (.slice none 0 0):=l.cell 3;have k4:wx.cell? ⟨w.heap.size,4,none⟩=some (.slice none 0 0):=l.cell 4;obtain rfl:j=0:=by omega
   have R:=mf 233 #[.pointer (some ⟨w.heap.size+1,0,none⟩)] (enters_of func233 (by kernel_rfl) rfl) (fun _=>false) none 0 0 ([]:List JsV) wx (Vs.empty _ _ _ _) (by omega) (fun r x hx _=>by cases hx);rw[show ([]:List JsV).any (fun _=>false)=false from rfl] at R;go_wp2_with fail
   refine R.mono ?_;rintro e z ⟨rfl,f⟩;go_wp2_with fail
   go_ret;exact⟨rfl,H.trans (f.mono H.size)⟩
theorem right_4(w:World)(d:Nat)(Aa:1<=d)(Z:d<=1000)(A:Option Addr)(n c:Nat)(L:List JsV)(hE:Es am 5 w A n L)(hn:n<=1000)(hk:∀k∈L,∀Q,eF w Q->Calls prog 199 #[.agg (am k).toArray,.int .i64 ((d:Int)-1)] Q fun e b=>e=.returned (.bool true)/\eF Q b) :
  Calls prog 199 #[.agg #[.int .i64 4,.int .i64 0,.string ⟨#[]⟩,.slice none 0 0,.slice A n c],.int .i64 (d:Int)] w fun e w'=>e=.returned (.bool true)/\eF w w':=by
 have R:str []=⟨#[]⟩:=rfl
 obtain⟨W,S⟩:=eC ((w.alloc (.cells (am ⟨4,0,[],.slice none 0 0,.slice A n c⟩).toArray 197)).alloc (.cells ([.int .i64 (d:Int)]:List Value).toArray 3))
 have f:Blk W w.heap.size (am ⟨4,0,[],.slice none 0 0,.slice A n c⟩) 197:=by rw[<-S];exact(Blk.new _ _ _).alloc _
 have u:Blk W (w.heap.size+1) [.int .i64 (d:Int)] 3:=by
  have:=Blk.new (w.alloc (.cells (am ⟨4,0,[],.slice none 0 0,.slice A n c⟩).toArray 197)) [.int .i64 (d:Int)] 3;rw[<-S];simpa using this
 have T:eF w W:=by rw[<-S];exact eI.alloc (by simp) _
 have J:=lZ 4 0 [] none 0 0 A n c W (by omega) (by omega) (by omega) (by omega) (by first|exact .inl rfl|exact .inr rfl)
 have g:(nw (.pointer (some ⟨w.heap.size,0,none⟩))).run prog W=.ok (.agg #[.int .i64 4,.int .i64 0,.string ⟨#[]⟩,.slice none 0 0,.slice A n c]) W:=bP f
 have y:Hid ((w.alloc (.cells #[.int .i64 4,.int .i64 0,.string ⟨#[]⟩,.slice none 0 0,.slice A n c] 197)).alloc (.cells #[.int .i64 (d:Int)] 3)=W):=eA S
 clear S
 rw[R] at J
 have Ab:((d:Int)==0)=false:=by simp;omega
 go_enter func199,ntmps199
 go_upto_region 1 with fail
 rw[y.out]
 clear y
 go_wp2_with fail
 refine J.mono ?_
 rintro e F ⟨rfl,D⟩
 have G:eF w F:=T.trans (D.mono T.size)
 have K:=f.below D
 have h:=u.below D
 have l:F.cell? ⟨w.heap.size,0,none⟩=some (.int .i64 4):=K.cell 0
 have m:F.cell? ⟨w.heap.size,1,none⟩=some (.int .i64 0):=K.cell 1
 have k2:F.cell? ⟨w.heap.size,2,none⟩=some (.string ⟨#[]⟩):=K.cell 2
 have k3:F.cell? ⟨w.heap.size,3,none⟩=some (.slice none 0 0):=K.cell 3
 have k4:F.cell? ⟨w.heap.size,4,none⟩=some (.slice A n c):=K.cell 4
 have k5:F.cell? ⟨w.heap.size+1,0,none⟩=some (.int .i64 (d:Int)):=h.cell 0
 have C:=iV [] (fun c hc=>by cases hc) F
 clear J g f u D
 rw[R] at C
 go_wp2_with fail
 refine C.mono ?_
 rintro e Y ⟨rfl,E⟩
 have H:eF w Y:=G.trans (E.mono G.size)
 have o:=K.below E
 have z:=h.below E
 have q3:Y.cell? ⟨w.heap.size,3,none⟩=some (.slice none 0 0):=o.cell 3
 have M:=kF 229 #[] (enters_of func229 (by kernel_rfl) rfl) (fun _=>false) none 0 0 ([]:List Txt) Y (Ts.empty Y none) (by omega) (fun Q x hx _=>by cases hx)
 rw[show ([]:List Txt).any (fun _=>false)=false by simp] at M
 clear C l m k2 k3 k4 k5 K h
 go_wp2_with fail
 refine M.mono ?_
 rintro e U ⟨rfl,N⟩
 have I:eF w U:=H.trans (N.mono H.size)
 have E0:=o.below N
 have E1:=z.below N
 have l:U.cell? ⟨w.heap.size,0,none⟩=some (.int .i64 4):=E0.cell 0
 have m:U.cell? ⟨w.heap.size,1,none⟩=some (.int .i64 0):=E0.cell 1
 have k3:U.cell? ⟨w.heap.size,3,none⟩=some (.slice none 0 0):=E0.cell 3
 clear M q3 o z E
 go_wp2_with fail
 go_loopw [6,7,72] (fun _ _ i wx=>∃j:Nat,j<=0/\i=.int .i64 (j:Int)/\eF U wx) (fun _ _ i _=>0-(intOf i).toNat)
 case atStart=>exact⟨0,by omega,rfl,Below.refl _ _⟩
 case round =>
  clear l m k3;obtain⟨j,hj,rfl,O⟩:=hrel;obtain⟨wx,q⟩:∃wx,wx=wr:=⟨_,rfl⟩;subst q;have B:eF w wx:=I.trans (O.mono I.size);have X0:=E0.below O;have X1:=E1.below O;have k3:wx.cell? ⟨w.heap.size,3,none⟩=some (.slice none 0 0):=X0.cell 3;have k4:wx.cell? ⟨w.heap.size,4,none⟩=some (.slice A n c):=X0.cell 4;obtain rfl:j=0:=by omega
  have V:=mf 233 #[.pointer (some ⟨w.heap.size+1,0,none⟩)] (enters_of func233 (by kernel_rfl) rfl) (fun _=>false) A n c L wx (Es.below hE B) (by omega) (fun Q x hx r=>qD x (w.heap.size+1) d Z Q ((X1.below r).cell 0) (fun s X=>hk x hx s (B.trans ((r.trans (X.mono r.size)).mono B.size))));rw[show L.any (fun _=>false)=false by simp] at V;go_wp2_with fail
  refine V.mono ?_;rintro e w5 ⟨rfl,t⟩;go_wp2_with fail
  go_ret;exact⟨rfl,B.trans (t.mono B.size)⟩
theorem right_5(w:World)(d:Nat)(Ah:1<=d)(l:d<=1000)(A:Option Addr)(n c:Nat)(L:List JsV)(hE:Es am 5 w A n L)(hn:n<=1000)(D:Option Addr)(C:Nat)(G:List Txt)(m:Ts w D n G)(hF:Fit n C D)(o:∀x∈G,Asc x)(r:G.Nodup)(hk:∀k∈L,∀Q,eF w Q->Calls prog 199 #[.agg (am k).toArray,.int .i64 ((d:Int)-1)] Q fun e s=>e=.returned (.bool true)/\eF Q s) :
  Calls prog 199 #[.agg #[.int .i64 5,.int .i64 0,.string ⟨#[]⟩,.slice D n C,.slice A n c],.int .i64 (d:Int)] w fun e w'=>e=.returned (.bool true)/\eF w w':=by
 have V:str []=⟨#[]⟩:=rfl
 obtain⟨W,X⟩:=eC ((w.alloc (.cells (am ⟨5,0,[],.slice D n C,.slice A n c⟩).toArray 197)).alloc (.cells ([.int .i64 (d:Int)]:List Value).toArray 3))
 have t:Blk W w.heap.size (am ⟨5,0,[],.slice D n C,.slice A n c⟩) 197:=by rw[<-X];exact(Blk.new _ _ _).alloc _
 have B1:Blk W (w.heap.size+1) [.int .i64 (d:Int)] 3:=by
  have:=Blk.new (w.alloc (.cells (am ⟨5,0,[],.slice D n C,.slice A n c⟩).toArray 197)) [.int .i64 (d:Int)] 3;rw[<-X];simpa using this
 have Y:eF w W:=by rw[<-X];exact eI.alloc (by simp) _
 have R:=lZ 5 0 [] D n C A n c W (by omega) (by omega) (by omega) (by omega) (by first|exact .inl rfl|exact .inr rfl)
 have u:(nw (.pointer (some ⟨w.heap.size,0,none⟩))).run prog W=.ok (.agg #[.int .i64 5,.int .i64 0,.string ⟨#[]⟩,.slice D n C,.slice A n c]) W:=bP t
 have HW:Hid ((w.alloc (.cells #[.int .i64 5,.int .i64 0,.string ⟨#[]⟩,.slice D n C,.slice A n c] 197)).alloc (.cells #[.int .i64 (d:Int)] 3)=W):=eA X
 clear X
 rw[V] at R
 obtain⟨Ai,Aj,Ak⟩:=hF
 have Al:((d:Int)==0)=false:=by simp;omega
 go_enter func199,ntmps199
 go_upto_region 1 with fail
 rw[HW.out]
 clear HW
 go_wp2_with fail
 refine R.mono ?_
 rintro e K ⟨rfl,H⟩
 have M:eF w K:=Y.trans (H.mono Y.size)
 have S:=t.below H
 have y:=B1.below H
 have z:K.cell? ⟨w.heap.size,0,none⟩=some (.int .i64 5):=S.cell 0
 have k1:K.cell? ⟨w.heap.size,1,none⟩=some (.int .i64 0):=S.cell 1
 have k2:K.cell? ⟨w.heap.size,2,none⟩=some (.string ⟨#[]⟩):=S.cell 2
 have k3:K.cell? ⟨w.heap.size,3,none⟩=some (.slice D n C):=S.cell 3
 have k4:K.cell? ⟨w.heap.size,4,none⟩=some (.slice A n c):=S.cell 4
 have k5:K.cell? ⟨w.heap.size+1,0,none⟩=some (.int .i64 (d:Int)):=y.cell 0
 have E:=iV [] (fun c hc=>by cases hc) K
 clear R u t B1 H
 rw[V] at E
 go_wp2_with fail
 refine E.mono ?_
 rintro e w2 ⟨rfl,I⟩
 have F:eF w w2:=M.trans (I.mono M.size)
 have D0:=S.below I
 have D1:=y.below I
 have q3:w2.cell? ⟨w.heap.size,3,none⟩=some (.slice D n C):=D0.cell 3
 have T:=kF 229 #[] (enters_of func229 (by kernel_rfl) rfl) (fun _=>false) D n C G w2 (Ts.below m F) (by omega) (fun Q x hx _=>iV x (o x hx) Q)
 rw[show G.any (fun _=>false)=false by simp] at T
 clear E z k1 k2 k3 k4 k5 S y
 go_wp2_with fail
 refine T.mono ?_
 rintro e Z ⟨rfl,U⟩
 have N:eF w Z:=F.trans (U.mono F.size)
 have E0:=D0.below U
 have E1:=D1.below U
 have z:Z.cell? ⟨w.heap.size,0,none⟩=some (.int .i64 5):=E0.cell 0
 have k1:Z.cell? ⟨w.heap.size,1,none⟩=some (.int .i64 0):=E0.cell 1
 have k3:Z.cell? ⟨w.heap.size,3,none⟩=some (.slice D n C):=E0.cell 3
 clear T q3 D0 D1 I
 go_wp2_with fail
 go_loopw [6,7,72] (fun _ _ i wx=>∃j:Nat,j<=n/\i=.int .i64 (j:Int)/\eF Z wx) (fun _ _ i _=>n-(intOf i).toNat)
 case atStart=>exact⟨0,by omega,rfl,Below.refl _ _⟩
 case round =>
  clear z k1 k3;obtain⟨j,hj,rfl,J⟩:=hrel;obtain⟨wx,Aa⟩:∃wx,wx=wr:=⟨_,rfl⟩;subst Aa;have B:eF w wx:=N.trans (J.mono N.size);have X0:=E0.below J;have X1:=E1.below J;have k3:wx.cell? ⟨w.heap.size,3,none⟩=some (.slice D n C):=X0.cell 3;have k4:wx.cell? ⟨w.heap.size,4,none⟩=some (.slice A n c):=X0.cell 4;by_cases Am:j<n
  .have An:=m.len
   have b:=Ts.below m B;obtain⟨bb,Ab,rfl,Ac⟩:=b.lit (i:=j) (by omega);have O:=kH (some ⟨bb,Ab,none⟩) j C (G.take j) (G[j]'(by omega)) wx (ts_take2 b (by omega)) (by omega);have Ad:(G.take j).contains (G[j]'(by omega))=false:=by
    rw[List.contains_eq_mem];simp only[decide_eq_false_iff_not];intro hm;obtain⟨q,hq,he⟩:=List.getElem_of_mem hm;rw[List.length_take] at hq;rw[List.getElem_take] at he;exact(List.nodup_iff_pairwise_ne.1 r |> fun hp=>(List.pairwise_iff_getElem.1 hp) q j (by omega) (by omega) (by omega)) he
   rw[Ad] at O;have Ao:(j:Int)<(n:Int):=by omega
   have Ap:(j:Int)<=(C:Int):=by omega
   generalize G[j]'(by omega)=sj at *;go_wp2_with fail
   refine O.mono ?_;rintro e w4 ⟨rfl,Ae⟩;have f:=Ae.symm;subst f;go_wp2;go_roundw
   case rel=>exact⟨j+1,by omega,by go_num,J⟩
   case measure=>simp[intOf];omega
  .have Aq:(n:Int)<=(j:Int):=by omega
   have g:=mf 233 #[.pointer (some ⟨w.heap.size+1,0,none⟩)] (enters_of func233 (by kernel_rfl) rfl) (fun _=>false) A n c L wx (Es.below hE B) (by omega) (fun Q x hx hb=>qD x (w.heap.size+1) d l Q ((X1.below hb).cell 0) (fun Af h=>hk x hx Af (B.trans ((hb.trans (h.mono hb.size)).mono B.size))));rw[show L.any (fun _=>false)=false by simp] at g;go_wp2_with fail
   refine g.mono ?_;rintro e w5 ⟨rfl,Ag⟩;go_wp2_with fail
   go_ret;exact⟨rfl,B.trans (Ag.mono B.size)⟩
end
section
open Go.RowKit Mem
theorem lG(b:Nat)(w:World)(h0:w.cell? ⟨b,0,none⟩=some (.pointer (some ⟨b,0,none⟩))) :
  Calls prog 257 #[.pointer (some ⟨b,0,none⟩)] w fun e w'=>e=.returned (.tuple #[])/\w'=w:=by
 have X:=Tryz.Builder_Extra_169
 obtain⟨j,A,_⟩:=Option.map_eq_some_iff.1 X.sizeBuilder
 have B:=fun W=>Lib.run_neq_ptr_same (P:=prog) W ⟨b,0,none⟩ underlying212 A
 go_enter func257,ntmps257
 go_wp2
 go_end0
 exact⟨rfl,rfl⟩
theorem pE(b:Nat)(w:World)(h0:w.cell? ⟨b,0,none⟩=some (.pointer none))(A:w.shape? b=some (216,2))(D:w.frozen? ⟨b,0,none⟩=false) :
  Calls prog 257 #[.pointer (some ⟨b,0,none⟩)] w fun e w'=>e=.returned (.tuple #[])/\w'=w.setCell ⟨b,0,none⟩ (.pointer (some ⟨b,0,none⟩)):=by
 have X:=Tryz.Builder_Extra_169
 obtain⟨j,C,B⟩:=Option.map_eq_some_iff.1 X.sizeBuilder
 go_enter func257,ntmps257
 go_wp2
 rw[Lib.run_to_unsafe w ⟨b,0,none⟩ underlying212 underlying286 C (by rw[B];decide) A (Nat.zero_lt_succ 1)]
 simp only[Result.andThen]
 rw[Oper.upon_value]
 go_wp2
 rw[run_callFunc_extern func271 (by kernel_rfl) (by kernel_rfl) (by kernel_rfl) (e:=Extern.AbiNoEscape.same) (by kernel_rfl)]
 rw[Lib.run_noEscape]
 simp only[Result.andThen]
 rw[Oper.upon_value]
 go_wp2
 rw[Lib.run_from_unsafe w ⟨b,0,none⟩ underlying286 underlying212 C A (by kernel_rfl)]
 simp only[Result.andThen]
 rw[Oper.upon_value]
 go_wp2
 go_end0
 exact⟨rfl,rfl⟩
end
section
open Go.RowKit Mem
def aL(b:Nat)(w w':World):Prop:=Below b w w'/\∀(g:Nat) (M:List Value) (e:TypeId),Blk w g M e->e≠5->g≠b->Blk w' g M e
theorem aL.refl(b:Nat)(w:World):aL b w w:=⟨Below.refl _ _,fun _ _ _ h _ _=>h⟩
theorem aL.trans{b:Nat}{w w' A:World}(h:aL b w w')(B:aL b w' A):aL b w A:=⟨h.1.trans B.1,fun g M e E C D=>B.2 g M e (h.2 g M e E C D) C D⟩
theorem aL.of_below{b:Nat}{w w':World}(h:eF w w')(A:b<=w.heap.size):aL b w w':=⟨h.mono A,fun _ _ _ B _ _=>B.below h⟩
def jA(bs:List Value):Prop:=∀u∈bs,∃c:UInt8,u=.int .u8 (c.toNat:Int)
theorem jA.one{bs:List Value}(h:jA bs):∀u∈bs,u.oneCell'=true:=fun u A=>by
 obtain⟨c,rfl⟩:=h u A
 rfl
theorem jA.append{a c:List Value}(h:jA a)(A:jA c):jA (a++c):=fun u B=>(List.mem_append.1 B).elim (h u) (A u)
theorem jA.drop{a:List Value}(h:jA a)(k:Nat):jA (a.drop k):=fun u A=>h u (List.mem_of_mem_drop A)
theorem jA.of_bv(l:List UInt8):jA (bv l):=fun u A=>by
 obtain⟨c,_,rfl⟩:=List.mem_map.1 A
 exact⟨c,rfl⟩
theorem byte_of{c:Int}(h0:0<=c)(A:c<256):∃x:UInt8,Value.int .u8 c=.int .u8 (x.toNat:Int):=by
 obtain⟨n,rfl⟩:=Int.eq_ofNat_of_zero_le h0
 refine⟨UInt8.ofNat n,?_⟩
 rw[UInt8.toNat_ofNat_of_lt' (by show n<256;omega)]
theorem jA.bytes:∀{bs:List Value},jA bs->∃l:List UInt8,bs=bv l
 | [],_=>⟨[],rfl⟩
 | u::bs,h=>by
  obtain⟨l,A⟩:=jA.bytes (bs:=bs) fun x hx=>h x (List.mem_cons_of_mem _ hx);obtain⟨c,rfl⟩:=h u (List.mem_cons_self ..);exact⟨c::l,by rw[A];rfl⟩
def WS(b n:Nat)(w:World):Prop:=b<w.heap.size/\∃bs:List Value,bs.length=n/\jA bs/\Lib.IsBuilder 216 5 b b bs w
theorem WS.below{b n:Nat}{w w':World}(h:WS b n w)(B:eF w w'):WS b n w':=by
 obtain⟨A,bs,D,C,hI⟩:=h
 refine⟨Nat.lt_of_lt_of_le A B.size,bs,D,C,?_⟩
 have key:∀p,Lib.BuilderAt 216 5 b b p bs w->Lib.BuilderAt 216 5 b b p bs w':=fun p ⟨E,v,h2,h3,h4⟩=>⟨E,v,by rw[B.block b A];exact h2,af h3 B eH,h4⟩
 exact hI.imp (key _) (key _)
theorem lH(b:Nat)(bs:List Value)(w:World)(h:Lib.IsBuilder 216 5 b b bs w) :
  Calls prog 257 #[.pointer (some ⟨b,0,none⟩)] w fun e w'=>e=.returned (.tuple #[])/\Lib.BuilderAt 216 5 b b (.pointer (some ⟨b,0,none⟩)) bs w'/\aL b w w':=by
 rcases h with h|h
 .refine(pE b w h.cell0 h.shape h.frozen0).mono ?_
  rintro e w' ⟨rfl,rfl⟩;exact⟨rfl,h.used _,(Below.refl b w).setCell (p:=⟨b,0,none⟩) h.1 _,fun g M e A _ B=>A.set_ne (p:=⟨b,0,none⟩) B _⟩
 .refine(lG b w h.cell0).mono ?_
  rintro e w' ⟨rfl,rfl⟩;exact⟨rfl,h,aL.refl _ _⟩
theorem rq{b:Nat}{w G C:World}{v:Value}{bs:List Value}{x:Value}(H:b<=w.heap.size)(A:w.ownsRow b 5 1 v bs.length bs)(D:eF w G)(I:G.grownBy C v.ownBlock):aL b w (C.setCell ⟨b,1,none⟩ x):=by
 refine⟨?_,fun g M e J K E=>?_⟩
 .exact((D.mono H).grown I (Nat.le_trans H D.size) (fun k L=>(A.lt k L).1)).setCell (p:=⟨b,1,none⟩) eH _
 .have N:v.ownBlock≠some g:=ax A J (fun e=>K e.symm)
  have F:Blk C g M e:=by
   have B:=J.below D;unfold Blk at *;rw[I.block g (Array.getElem?_eq_some_iff.1 B).1 (fun e=>N e.symm)];exact B
  exact F.set_ne (p:=⟨b,1,none⟩) E _
theorem dt(b n:Nat)(c:Int)(w:World)(h:WS b n w)(f:n<=1000000)(G:0<=c:=by omega)(H:c<256:=by omega) :
  Calls prog 227 #[.pointer (some ⟨b,0,none⟩),.int .u8 c] w fun e w'=>e=.returned .nilIface/\WS b (n+1) w'/\aL b w w':=by
 obtain⟨L,bs,rfl,M,hI⟩:=h
 have N:jA [Value.int .u8 c]:=fun u i=>by
  rw[List.mem_singleton.1 i];exact byte_of G H
 obtain⟨j,hi,O,Q,R⟩:=an rx
 go_enter func227,ntmps227
 go_wp2_with fail
 refine(lH b bs _ hI).mono ?_
 rintro e F ⟨rfl,k,I⟩
 obtain⟨l,v,C,E,S⟩:=k
 have s:F.cell? ⟨b,0,none⟩=some (.pointer (some ⟨b,0,none⟩)):=by rw[Lib.cell_of_heap C];rfl
 have t:F.cell? ⟨b,1,none⟩=some v:=by rw[Lib.cell_of_heap C];rfl
 have J:b<=F.heap.size:=Nat.le_trans (Nat.le_of_lt L) I.1.size
 have U:bs.length+1<=maxLen:=by unfold maxLen;omega
 go_wp2_with (at_builtin;go_must (refine bi rfl (.tmp 11) (.tmp 13) 62 rfl b j (.int .u8 0) 1 underlying62 hi O Q R rfl _ _ _ rfl E rfl rfl U (by omega) J ?_))
 intro m o K A g1 y B
 have V:b<F.heap.size:=by
  rcases Nat.lt_or_ge b F.heap.size with X|X
  .exact X
  .simp [Array.getElem?_eq_none X] at C
 have D:K.heap[b]?=some (.cells #[.pointer (some ⟨b,0,none⟩),v] 216 (0,0)):=by
  rw[B.block b (by simp;omega) (fun e=>S e.symm),Lib.alloc_old F _ b V]
  exact C
 have z:K.cell? ⟨b,0,none⟩=some (.pointer (some ⟨b,0,none⟩)):=by rw[Lib.cell_of_heap D];rfl
 have d1:K.cell? ⟨b,1,none⟩=some v:=by rw[Lib.cell_of_heap D];rfl
 have f1:K.frozen? ⟨b,1,none⟩=false:=Lib.frozen_of_heap D 1
 obtain⟨g,cap,Y⟩:∃g cap,Value.slice m (bs.length+1) o=.slice (some ⟨g,0,none⟩) (bs.length+1) cap:=by
  rcases A.2 with⟨_,h0⟩|⟨g,cap,q,r,_⟩
  .omega
  .exact⟨g,cap,r⟩
 rw[Y] at A ⊢
 have Z:=rq (x:=.slice (some ⟨g,0,none⟩) (bs.length+1) cap) J E eI B
 have d:b<K.heap.size:=by have:=B.size;simp at this;omega
 clear G H
 go_wp2
 go_ret
 refine⟨rfl,⟨by simpa using d,bs++[.int .u8 c],by simp,M.append N,.inr ?_⟩,I.trans Z⟩
 exact Lib.BuilderAt.put (T:=216) (e:=5) l D (bs':=bs++[.int .u8 c]) (by simpa using A) (by decide)
theorem wbytes_any(b n g A m I:Nat)(M:List Value)(e:TypeId)(w:World)(h:WS b n w)(q:n<=1000000)(hm:1<=m)(s:m<=1000)(Q:Blk w g M e)(t:e≠5)(y:g≠b)(hM:M.length=A+m)(J:jA M) :
  Calls prog 260 #[.pointer (some ⟨b,0,none⟩),.slice (some ⟨g,A,none⟩) m I] w fun x w'=>x=.returned (.tuple #[.int .i64 (m:Int),.nilIface])/\WS b (n+m) w'/\aL b w w':=by
 obtain⟨R,bs,rfl,S,hI⟩:=h
 have z:=J.one
 obtain⟨i0,hi,U,V,X⟩:=an rx
 go_enter func260,ntmps260
 go_wp2_with fail
 refine(lH b bs _ hI).mono ?_
 rintro x F ⟨rfl,Y,H⟩
 obtain⟨hB,v,D,G,Z⟩:=Y
 have K:=H.2 g M e Q t y
 have c0:F.cell? ⟨b,0,none⟩=some (.pointer (some ⟨b,0,none⟩)):=by rw[Lib.cell_of_heap D];rfl
 have c1:F.cell? ⟨b,1,none⟩=some v:=by rw[Lib.cell_of_heap D];rfl
 have L:b<=F.heap.size:=Nat.le_trans (Nat.le_of_lt R) H.1.size
 have c:bs.length+m<=maxLen:=by unfold maxLen;omega
 have d:Vs F F.heap.size 1 (some ⟨g,A,none⟩) m (M.drop A):=⟨by rw[List.length_drop];omega,fun j u r=>⟨_,rfl,K.lt,by
  rw[show (⟨g,A,none⟩:Addr).add j=⟨g,A+j,none⟩ by simp[Addr.add],K.cell];rw[List.getElem?_drop] at r;exact r⟩⟩
 go_wp2_with (at_builtin;go_must (refine aK F rfl (.tmp 12) (.tmp 13) 62 rfl b 5 i0 (.int .u8 0) 1 1 underlying62 hi U V X rfl (by omega) _ _ _ rfl G _ _ m _ _ rfl d (fun u hu=>z u (List.mem_of_mem_drop hu)) c (by omega) L ?_))
 intro A' c' N B g1 g2 C
 have f:b<F.heap.size:=by
  rcases Nat.lt_or_ge b F.heap.size with i|i
  .exact i
  .simp [Array.getElem?_eq_none i] at D
 have E:N.heap[b]?=some (.cells #[.pointer (some ⟨b,0,none⟩),v] 216 (0,0)):=by
  rw[C.block b f (fun e=>Z e.symm)];exact D
 have d0:N.cell? ⟨b,0,none⟩=some (.pointer (some ⟨b,0,none⟩)):=by rw[Lib.cell_of_heap E];rfl
 have d1:N.cell? ⟨b,1,none⟩=some v:=by rw[Lib.cell_of_heap E];rfl
 have f1:N.frozen? ⟨b,1,none⟩=false:=Lib.frozen_of_heap E 1
 obtain⟨g',cap,k⟩:∃g cap,Value.slice A' (bs.length+m) c'=.slice (some ⟨g,0,none⟩) (bs.length+m) cap:=by
  rcases B.2 with⟨_,h0⟩|⟨g,cap,Aa,hv,_⟩
  .omega
  .exact⟨g,cap,hv⟩
 rw[k] at B ⊢
 have l:=rq (x:=.slice (some ⟨g',0,none⟩) (bs.length+m) cap) L G (Below.refl _ _) C
 have o:b<N.heap.size:=by have:=C.size;omega
 have O:(bs++M.drop A).length=bs.length+m:=by rw[List.length_append,List.length_drop];omega
 go_wp2
 go_ret2
 refine⟨rfl,⟨by simpa using o,bs++M.drop A,O,S.append (J.drop A),.inr ?_⟩,H.trans l⟩
 exact Lib.BuilderAt.put (T:=216) (e:=5) hB E (bs':=bs++M.drop A) (by rw[O];exact B) (by decide)
theorem kZ(b n:Nat)(w:World)(h:WS b n w):Calls prog 201 #[.pointer (some ⟨b,0,none⟩)] w fun e w'=>e=.returned (.int .i64 (n:Int))/\w'=w:=by
 obtain⟨F,bs,rfl,G,hI⟩:=h
 obtain⟨p,L,v,C,B,D⟩:∃p,Lib.BuilderAt 216 5 b b p bs w:=by
  rcases hI with h|h
  .exact⟨_,h⟩
  .exact⟨_,h⟩
 have M:w.cell? ⟨b,1,none⟩=some v:=by rw[Lib.cell_of_heap C];rfl
 obtain⟨A,m,c,E,H⟩:∃A m c,v=.slice A m c/\m=bs.length:=by
  rcases B.2 with⟨I,J⟩|⟨g,cap,K,E,_⟩
  .exact⟨none,0,0,I,J.symm⟩
  .exact⟨_,_,_,E,rfl⟩
 subst E H
 clear B D C hI
 go_enter func201,ntmps201
 go_wp2
 go_ret
 exact⟨rfl,rfl⟩
theorem wstr_any(b n:Nat)(w:World)(h:WS b n w)(J:0<n):Calls prog 202 #[.pointer (some ⟨b,0,none⟩)] w fun e w'=>(∃l:List UInt8,l.length=n/\e=.returned (.string ⟨l.toArray⟩))/\Below b w w':=by
 obtain⟨K,bs,I,C,hI⟩:=h
 obtain⟨l,rfl⟩:=C.bytes
 rw[dV] at I
 subst I
 obtain⟨p,T,v,D,B,L⟩:∃p,Lib.BuilderAt 216 5 b b p (bv l) w:=by
  rcases hI with h|h
  .exact⟨_,h⟩
  .exact⟨_,h⟩
 rw[dV] at B
 obtain⟨g,cap,A,rfl,E,M,N,F,O,G⟩:∃g cap A,v=.slice (some ⟨g,0,none⟩) l.length cap/\b<=g/\w.heap[g]?=some (.cells A 5 (0,0))/\l.length<=cap/\cap<=maxLen/\A.size=cap*1/\A.toList.take (l.length*1)=bv l:=by
  rcases B.2 with⟨_,U⟩|⟨g,cap,A,Q,r⟩
  .omega
  .exact⟨g,cap,A,Q,r⟩
 have V:w.drew.cell? ⟨b,1,none⟩=some (.slice (some ⟨g,0,none⟩) l.length cap):=by
  have:w.drew.heap[b]?=some (.cells #[p,.slice (some ⟨g,0,none⟩) l.length cap] 216 (0,0)):=D;rw[Lib.cell_of_heap this];rfl
 have R:(Builtin.unsafeSliceData_ #[62] 247 #[.slice (some ⟨g,0,none⟩) l.length cap]).run prog w.drew=.ok (.pointer (some ⟨g,0,none⟩)) w.drew :=
  Lib.run_unsafeSliceData_row _ _ _ _ _ _ (by omega)
 have S:(Builtin.unsafeString_ #[247,3] 9 #[.pointer (some ⟨g,0,none⟩),.int .i64 l.length]).run prog w.drew=.ok (.string ⟨l.toArray⟩) (w.drew.freeze ⟨g,0,none⟩ l.length):=by
  refine Lib.run_unsafeString_row w.drew 247 3 9 5 underlying247 (by kernel_rfl) g A.size (by have H:w.drew.heap[g]?=some (.cells A 5 (0,0)):=M;simp[World.shape?,H]) l (fun e=>by simp[e] at J) (by omega) (by unfold maxLen at F;omega) ?_
  intro j x hx;exact B.cells (g:=g) rfl j (.int .u8 x.toNat) (by simp[bv,hx])
 have mixed:prog.follows Departure.mixedOrders=true:=by kernel_rfl
 go_enter func202,ntmps202
 go_wp2
 go_region_o
 all_goals (go_wp2;go_ret;exact⟨⟨l,rfl,rfl⟩,Lib.below_freeze (Below.drew (Below.refl b w)) (p:=⟨g,0,none⟩) E _⟩)
end
section
open Go.RowKit Mem Led
def ms(t:Txt):Prop:=∀c∈t,32<=c.toNat/\c.toNat≠34/\c.toNat≠92
theorem tJ(t:Txt)(j:Nat)(h:j<t.length)(w:World):(Instr.index 9 (.string (str t)) (.int .i64 (j:Int))).run prog w=.ok (.int .u8 ((t[j].toNat:Nat):Int)) w:=by
 have A:=aC t
 have B:(0:Int)<=(j:Int)/\(j:Int)<((str t).size:Int):=⟨by omega,by rw[A];omega⟩
 refine(run_index_string _ _ _ _ _ underlying9).trans ?_
 rw[dif_pos B]
 have:(str t)[((j:Int)).toNat]'(by omega)=t[j]:=by
  simp[str,ByteArray.getElem_eq_getElem_data]
 rw[this]
theorem nW(b n:Nat)(t:Txt)(w:World)(h:WS b n w)(S:n<=900000)(T:t.length<=1000)(ht:ms t) :
  Calls prog 236 #[.pointer (some ⟨b,0,none⟩),.string (str t)] w fun e w'=>e=.returned (.tuple #[])/\WS b (n+t.length+2) w'/\aL b w w':=by
 have U:=aC t
 have h0:=dt b n 34 w h (by omega)
 have N:=eA ht
 clear ht
 go_enter func236,ntmps236
 go_wp2_with fail
 refine h0.mono ?_
 rintro e V ⟨rfl,C,D⟩
 clear h0
 go_wp2_with fail
 go_loopw [4,5,12] (fun _ _ i wx=>∃j:Nat,j<=t.length/\i=.int .i64 (j:Int)/\WS b (n+1+j) wx/\aL b w wx) (fun _ _ i _=>t.length-(intOf i).toNat)
 case atStart=>exact⟨0,by omega,rfl,C,D⟩
 case round =>
  clear C D;obtain⟨j,X,rfl,F,G⟩:=hrel;obtain⟨wx,H⟩:∃wx,wx=wr:=⟨_,rfl⟩;subst H;by_cases E:j<t.length
  .have I:=fun W=>tJ t j E W
   obtain⟨Y,Z,d⟩:=N.out _ (List.getElem_mem E);have f:=t[j].toNat_lt;generalize t[j].toNat=c at *;have L:=dt b (n+1+j) (c:Int) wx F (by omega);have g:decide ((c:Int)<32)=false:=by simp;omega
   have k:((c:Int)==34)=false:=by simp;omega
   have l:((c:Int)==92)=false:=by simp;omega
   have m:¬(c:Int)<32:=by omega
   go_wp2_with fail
   refine L.mono ?_;rintro e O ⟨rfl,B,A⟩;have J:=G.trans A;clear L I F G A;go_wp2_with fail
   go_roundw
   case rel=>exact⟨j+1,by omega,by go_num,B,J⟩
   case measure=>simp[intOf];omega
  .have K:j=t.length:=by omega
   have M:(t.length:Int)<=(j:Int):=by omega
   have Q:=dt b (n+1+j) 34 wx F (by omega);have R:=eA (show n+1+j+1=n+t.length+2 by omega);clear K;go_wp2_with fail
   refine Q.mono ?_;rintro e O ⟨rfl,B,A⟩;go_wp2;go_end0
   exact⟨rfl,by rw[<-R.out];exact B,G.trans A⟩
theorem WS.set{b n g o:Nat}{w:World}{M:List Value}{e:TypeId}(h:WS b n w)(C:Blk w g M e)(D:e≠5)(E:g≠b)(x:Value):WS b n (w.setCell ⟨g,o,none⟩ x):=by
 obtain⟨A,bs,F,B,hI⟩:=h
 refine⟨by simpa using A,bs,F,B,?_⟩
 have key:∀p,Lib.BuilderAt 216 5 b b p bs w->Lib.BuilderAt 216 5 b b p bs (w.setCell ⟨g,o,none⟩ x):=fun p ⟨G,v,h2,h3,h4⟩=>⟨G,v,by rw[heap_setCell_other w ⟨g,o,none⟩ b x (fun e=>E e.symm)];exact h2,dv h3 (ax h3 C (fun e=>D e.symm)),h4⟩
 exact hI.imp (key _) (key _)
theorem ten_div{M k:Nat}(A:k<16)(h:M<10 ^ (16-k)):M / 10<10 ^ (16-(k+1)):=by
 rw[Nat.div_lt_iff_lt_mul (by omega),<-Nat.pow_succ]
 rw[show (16-(k+1)).succ=16-k by omega]
 exact h
theorem sliceA16(g A:Nat)(h:A<=15)(W:World):(Instr.sliceAt 272 (.pointer (some ⟨g,0,none⟩)) (some (.int .i64 (A:Int))) none none).run prog W=.ok (.slice (some ⟨g,A,none⟩) (16-A) (16-A)) W:=by
 have:A=0\/A=1\/A=2\/A=3\/A=4\/A=5\/A=6\/A=7\/A=8\/A=9\/A=10\/A=11\/A=12\/A=13\/A=14\/A=15:=by omega
 rcases this with rfl|rfl|rfl|rfl|rfl|rfl|rfl|rfl|rfl|rfl|rfl|rfl|rfl|rfl|rfl|rfl<;>rfl
theorem wnum_any(b n m:Nat)(w:World)(h:WS b n w)(hn:n<=900000)(hm:m<10 ^ 16) :
  Calls prog 235 #[.pointer (some ⟨b,0,none⟩),.int .i64 (m:Int)] w fun e w'=>e=.returned (.tuple #[])/\∃n',n'<=n+16/\WS b n' w'/\aL b w w':=by
 have f:m<10000000000000000:=hm
 have O:=h.1
 have Af:¬(m:Int)<0:=by omega
 have d:=Blk.new w (bv (List.replicate 16 0)) 272
 have B:eF w (w.alloc (.cells (bv (List.replicate 16 0)).toArray 272)):=eI
 obtain⟨j,G⟩:=eD (w.alloc (.cells #[.int .u8 0,.int .u8 0,.int .u8 0,.int .u8 0,.int .u8 0,.int .u8 0,.int .u8 0,.int .u8 0,.int .u8 0,.int .u8 0,.int .u8 0,.int .u8 0,.int .u8 0,.int .u8 0,.int .u8 0,.int .u8 0] 272))
 have d:Blk j w.heap.size (bv (List.replicate 16 0)) 272:=by rw[<-G.out];exact d
 have B:eF w j:=by rw[<-G.out];exact B
 have Q:=h.below B
 have R:aL b w j:=aL.of_below B (Nat.le_of_lt O)
 go_enter func235,ntmps235
 go_upto_region 4 with fail
 rw[G.out]
 go_wp2_with fail
 go_loopw [1,5] (fun v i wx=>∃(k M:Nat) (C:List Value),k<=15/\Hid (M<10 ^ (16-k))/\(k=0\/0<M)/\M<10000000000000000/\v=.int .i64 (M:Int)/\i=.int .i64 (16-(k:Int))/\WS b n wx/\aL b w wx/\Blk wx w.heap.size C 272/\C.length=16/\Hid (jA C)) (fun _ i _=>(intOf i).toNat)
 case atStart=>exact⟨0,m,_,by omega,eA hm,.inl rfl,f,rfl,rfl,Q,R,d,rfl,eA (jA.of_bv _)⟩
 case round =>
  clear Q R d B;obtain⟨k,M,C,hk,HM,Al,hM,rfl,rfl,hw,l,N,hC,HC⟩:=hrel;obtain⟨wx,o⟩:∃wx,wx=wr:=⟨_,rfl⟩;subst o;obtain⟨A,Am⟩:∃A:Nat,15-k=A:=⟨_,rfl⟩;have e1:(16-(k:Int))-1=(A:Int):=by omega
  have S:A<=15:=by omega
  obtain⟨q,s⟩:=eC (M / 10);have t:q<10000000000000000:=by omega
  have An:Int.tdiv (M:Int) 10=(q:Int):=by rw[<-s];exact iY M 10
  obtain⟨r,hr⟩:=eC (M % 10);have Ag:r<10:=by omega
  have Ao:Int.tmod (M:Int) 10=(r:Int):=by rw[<-hr];exact fX M 10
  have Ah:(M:Int) / 10=(q:Int):=by omega
  have Ai:(M:Int) % 10=(r:Int):=by omega
  obtain⟨u0,T⟩:∃u,C[A]?=some u:=⟨_,List.getElem?_eq_getElem (by omega)⟩;have Ap:wx.cell? ⟨w.heap.size,A,none⟩=some u0:=(N.cell A).trans T;have Aq:wx.frozen? ⟨w.heap.size,A,none⟩=false:=N.froz _;have Aj:=N.lt;have HQ:=eA (by rw[<-s];exact ten_div (show k<16 by omega) HM.out:q<10 ^ (16-(k+1)))
  have Ak:IntKind.i64.wrap ((16:Int)-(k:Int)-1)=(A:Int):=by rw[IntKind.wrap_i64];omega
  clear T s hr;have H:aL b w (wx.setCell ⟨w.heap.size,A,none⟩ (.int .u8 (48+(r:Int)))):=⟨l.1.setCell (p:=⟨w.heap.size,A,none⟩) (Nat.le_of_lt O) _,fun g M' e U he hg=>(l.2 g M' e U he hg).set_ne (p:=⟨w.heap.size,A,none⟩) (by have:=U.lt;simp;omega) _⟩
  have I:WS b n (wx.setCell ⟨w.heap.size,A,none⟩ (.int .u8 (48+(r:Int)))):=hw.set N (by decide) (by omega) _;have D:=N.set A (.int .u8 (48+(r:Int)));have J:(C.set A (.int .u8 (48+(r:Int)))).length=16:=by rw[List.length_set];exact hC
  have K:jA (C.set A (.int .u8 (48+(r:Int)))):=fun u hu=>by
   rcases List.mem_or_eq_of_mem_set hu with h|h
   .exact HC.out u h
   .rw [h];exact byte_of (by omega) (by omega)
  by_cases y:q=0
  .subst y
   have HH:=eA (show WS b n (wx.setCell ⟨w.heap.size,A,none⟩ (.int .u8 (48+(r:Int))))/\Blk (wx.setCell ⟨w.heap.size,A,none⟩ (.int .u8 (48+(r:Int)))) w.heap.size (C.set A (.int .u8 (48+(r:Int)))) 272/\(C.set A (.int .u8 (48+(r:Int)))).length=16/\jA (C.set A (.int .u8 (48+(r:Int)))) from⟨I,D,J,K⟩);have L:w.heap.size<(wx.setCell ⟨w.heap.size,A,none⟩ (.int .u8 (48+(r:Int)))).heap.size:=D.lt;have z:=fun W=>sliceA16 w.heap.size A S W;have E:=eA H;clear H I D J K hw l N;go_upto_region 9 with fail
   generalize wx.setCell ⟨w.heap.size,A,none⟩ (.int .u8 (48+(r:Int)))=wy at *;refine bz 5 ?_;simp only[List.take_succ_cons,List.take_zero,List.drop_succ_cons,List.drop_zero];repeat (go_big_quiet_step (fail))
   refine wpQuiet_nil ?_;rintro _ ⟨p,rfl⟩;have F:=aa wy p;have V:aL b wy (ab wy p):=aL.of_below F (by have:=L;omega)
   obtain⟨X,Y,Z,c⟩:=HH.out;have Aa:=wbytes_any b n w.heap.size A (16-A) (16-A) _ _ _ (X.below F) (by omega) (by omega) (by omega) (Y.below F) (by decide) (by omega) (by rw[Z];omega) c
   have Ab:=E.out.trans V;clear z E F V X Y Z c HH;generalize ab wy p=wz at *;go_wp2_with fail
   refine Aa.mono ?_;rintro x w5 ⟨rfl,Ac,Ad⟩;go_wp2;(try rw[ak])
   (try go_wp2)
   go_end0
   exact⟨rfl,n+(16-A),by omega,Ac,Ab.trans Ad⟩
  .have Ar:((q:Int)==0)=false:=by simp;omega
   have E:=eA H;go_wp2_with fail
   go_roundw
   case rel=>exact⟨k+1,q,_,by(have:=HQ.out;rcases Nat.lt_or_ge k 15 with h|h;omega;(have Ae:k=15:=by omega);subst Ae;simp at this;omega),HQ,.inr (by omega),t,rfl,by rw[show (16-((k+1:Nat):Int))=(A:Int) by omega],I,E.out,D,J,eA K⟩
   case measure=>simp[intOf];omega
end
section
open Go.RowKit Mem Led
def fP(A:JsV->Nat)(L:List JsV):Nat:=(L.map A).sum
theorem ta(A:JsV->Nat){L:List JsV}{j:Nat}(h:j<L.length):fP A (L.take (j+1))=fP A (L.take j)+A L[j]:=by
 unfold fP
 rw[List.take_add_one,List.getElem?_eq_getElem h,Option.toList_some,List.map_append,List.sum_append]
 simp
theorem sumW_le(A:JsV->Nat)(L:List JsV)(j:Nat):fP A (L.take j)<=fP A L:=by
 have:fP A L=fP A (L.take j)+fP A (L.drop j):=by
  unfold fP;rw[<-List.sum_append,<-List.map_append,List.take_append_drop]
 omega
theorem ld{w:World}{g:Nat}{cs vs:List Value}{t:TypeId}(h:Blk w g cs t)(A:cs.length=5)(B:vs.length=5)(D:∀v∈vs,v.oneCell'=true) :
  (stJs (.pointer (some ⟨g,0,none⟩)) (.agg vs.toArray)).run prog w=.ok () (w.setCells g 0 vs)/\Blk (w.setCells g 0 vs) g vs t:=by
 have E:=bu (P:=prog) w 197 g 0 5 ol vs.toArray ⟨by simpa using B,by simpa using D⟩ (eX h A) (fun j _=>h.froz _)
 have C:=jk vs w g 0 cs t h (by omega)
 simp[B,<-A] at C
 exact⟨E,C⟩
theorem iL(k:JsV)(B:k.names.oneCell'=true)(C:k.kids.oneCell'=true):∀u∈am k,u.oneCell'=true:=by
 intro u A
 simp only[am,List.mem_cons,List.not_mem_nil,or_false] at A
 rcases A with rfl|rfl|rfl|rfl|rfl
 .rfl
 .rfl
 .rfl
 .exact B
 .exact C
theorem ldJs_vs{w:World}{B:Nat}{A:Option Addr}{n:Nat}{L:List JsV}(h:Vs w B 5 A n (ah am L)){i:Nat}(hi:i<L.length) :
  ∃b C,A=some ⟨b,C,none⟩/\b<B/\∀w',Below B w w'->(nw (.pointer (some ⟨b,C+i*5,none⟩))).run prog w'=.ok (.agg (am L[i]).toArray) w':=by
 obtain⟨b,C,H,F,I⟩:=Vs.lit h (by rw[aJ eV];omega)
 refine⟨b,C,H,F,fun w' D=>cz underlying197 rfl ol (eV _) fun j u G=>?_⟩
 have E:j<5:=by
  have:=(List.getElem?_eq_some_iff.1 G).1;rwa [eV] at this
 have J:=I (i*5+j) u (by rw[kr eV hi E,G])
 rw[show C+i*5+j=C+(i*5+j) by omega,D.cell (p:=⟨b,C+(i*5+j),none⟩) F]
 exact J
theorem names_at{w:World}{B:Nat}{A:Option Addr}{n:Nat}{D:List Txt}(h:Vs w B 1 A n (tv D)){i:Nat}(hi:i<D.length) :
  ∃b C,A=some ⟨b,C,none⟩/\∀w',Below B w w'->w'.cell? ⟨b,C+i,none⟩=some (.string (str D[i])):=by
 have hx:(tv D)[i]?=some (.string (str D[i])):=by unfold tv;rw[List.getElem?_map,List.getElem?_eq_getElem hi];rfl
 have F:0<(tv D).length:=by
  have:=(List.getElem?_eq_some_iff.1 hx).1;omega
 obtain⟨b,C,G,H,I⟩:=Vs.lit h F
 exact⟨b,C,G,fun w' E=>by rw[E.cell (p:=⟨b,C+i,none⟩) H];exact I i _ hx⟩
theorem wkids_4(b n:Nat)(w:World)(A:Option Addr)(E c:Nat)(L:List JsV)(I:JsV->Nat)(h:WS b n w)(hL:L.length=E)(hE:Vs w b 5 A E (ah am L))(Aa:∀k∈L,k.names.oneCell'=true/\k.kids.oneCell'=true)(hn:n+2+fP I L+1*L.length<=2000)(hl:E<=100)
  (hk:∀k∈L,∀J n',aL b w J->WS b n' J->n'+I k<=2000->Calls prog 200 #[.pointer (some ⟨b,0,none⟩),.agg (am k).toArray] J fun e Ab=>e=.returned (.tuple #[])/\∃Ac,Ac<=n'+I k/\WS b Ac Ab/\aL b J Ab) :
  Calls prog 237 #[.pointer (some ⟨b,0,none⟩),.agg #[.int .i64 4,.int .i64 0,.string ⟨#[]⟩,.slice none 0 0,.slice A E c]] w fun e w'=>e=.returned (.tuple #[])/\∃n',0<n'/\n'<=n+2+fP I L+1*L.length/\WS b n' w'/\aL b w w':=by
 have A4:str []=⟨#[]⟩:=rfl
 have Ad:=h.1
 obtain⟨W,hW⟩:=eC (w.alloc (.cells (am ⟨4,0,[],.slice none 0 0,.slice A E c⟩).toArray 197))
 have B0:Blk W w.heap.size (am ⟨4,0,[],.slice none 0 0,.slice A E c⟩) 197:=by rw[<-hW];exact Blk.new _ _ _
 have R:eF w W:=eG hW
 have Ae:aL b w W:=aL.of_below R (Nat.le_of_lt Ad)
 have Af:=h.below R
 have HW:Hid (w.alloc (.cells #[.int .i64 4,.int .i64 0,.string ⟨#[]⟩,.slice none 0 0,.slice A E c] 197)=W):=eA hW
 clear hW
 have k0:W.cell? ⟨w.heap.size,0,none⟩=some (.int .i64 4):=B0.cell 0
 have V:Hid (∀p,Calls prog 227 #[.pointer (some ⟨b,0,none⟩),.int .u8 91] (ab W p) fun e w'=>e=.returned .nilIface/\WS b (n+1) w'/\aL b (ab W p) w'):=eA fun p=>dt b n 91 _ (Af.below (aa W p)) (by omega)
 have A5:∀J,(Instr.index 9 (.string ⟨#[91,93]⟩) (.int .i64 0)).run prog J=.ok (.int .u8 91) J:=fun J=>rfl
 have A2:∀J,(Instr.index 9 (.string ⟨#[91,93]⟩) (.int .i64 1)).run prog J=.ok (.int .u8 93) J:=fun J=>rfl
 go_enter func237,ntmps237
 go_upto_region 1 with fail
 rw[HW.out]
 clear HW
 go_upto_region 4 with fail
 refine bz 5 ?_
 simp only[List.take_succ_cons,List.take_zero,List.drop_succ_cons,List.drop_zero]
 repeat (go_big_quiet_step (fail))
 refine wpQuiet_nil ?_
 rintro _ ⟨p,rfl⟩
 have X:=V.out p
 have S:aL b w (ab W p):=Ae.trans (aL.of_below (aa W p) (Nat.le_trans (Nat.le_of_lt Ad) R.size))
 have B1:=B0.below (aa W p)
 clear V Ae Af k0 R
 generalize ab W p=w1 at *
 go_wp2_with fail
 refine X.mono ?_
 rintro e w2 ⟨rfl,Ag,f⟩
 have Ah:=S.trans f
 have B2:=f.2 _ _ _ B1 (by decide) (by omega)
 have k4:w2.cell? ⟨w.heap.size,4,none⟩=some (.slice A E c):=B2.cell 4
 clear X S f B0 B1
 go_wp2_with fail
 (try rw[ak])
 (try go_wp2_with fail)
 go_loopw [5,6,19] (fun _ _ i wx=>∃(j m:Nat),j<=E/\i=.int .i64 (j:Int)/\Hid (m<=n+1+fP I (L.take j)+1*j)/\WS b m wx/\aL b w wx/\Blk wx w.heap.size (am ⟨4,0,[],.slice none 0 0,.slice A E c⟩) 197) (fun _ _ i _=>E-(intOf i).toNat)
 case atStart=>exact⟨0,n+1,by omega,rfl,eA (by simp[fP]),Ag,Ah,B2⟩
 case round =>
  clear Ag Ah B2 k4;obtain⟨j,m,hj,rfl,HM,g,hK,hB⟩:=hrel;obtain⟨wx,Au⟩:∃wx,wx=wr:=⟨_,rfl⟩;subst Au;by_cases A6:j<E
  .have K:j<L.length:=by omega
   obtain⟨bk,ok,rfl,A7,Ai⟩:=ldJs_vs hE K;have G:=Ai wx hK.1;have Y:=ta I K;have Aj:=sumW_le I L (j+1);have Ak:=eA Y;have A8:m+I L[j]+1<=2000:=by
    have:=HM.out;have h3:1*(j+1)<=1*L.length:=Nat.mul_le_mul_left _ K;omega
   have hval:=hk L[j] (List.getElem_mem K);obtain⟨Av,Aw⟩:=Aa L[j] (List.getElem_mem K);have Z:=eA hval;clear hval Y Aj Ai;generalize L[j]=l at *;have bn:=Blk.new wx (am ⟨0,0,[],.slice none 0 0,.slice none 0 0⟩) 197;obtain⟨o,q⟩:=ld bn (vs:=am l) rfl rfl (iL l Av Aw);obtain⟨w3,r⟩:=eC ((wx.alloc (.cells (am ⟨0,0,[],.slice none 0 0,.slice none 0 0⟩).toArray 197)).setCells wx.heap.size 0 (am l));have Al:Chg [] wx w3:=by rw[<-r];exact((Chg.refl _ _).alloc _).setCells _ (.inr eH)
   rw[r] at o q;have T:=Al.below (fun _ h=>by cases h);have s:b<=wx.heap.size:=Nat.le_of_lt g.1;have Am:aL b wx w3:=aL.of_below T s;have C:=g.below T;have D:=hB.below T;have Ax:wx.heap.size≠b:=by have:=g.1;omega
   have H:(stJs (.pointer (some ⟨wx.heap.size,0,none⟩)) (.agg (am l).toArray)).run prog (wx.alloc (.cells #[.int .i64 0,.int .i64 0,.string ⟨#[]⟩,.slice none 0 0,.slice none 0 0] 197))=.ok () w3:=o;have A9:(j:Int)<(E:Int):=by omega
   clear o bn Al r T g;obtain⟨RK,M⟩:=eD ((am l).toArray);rw[M.out] at H G;have B:=hK.trans Am;clear hK Am hB;by_cases An:j=0
   .have Ay:decide ((0:Int)<(j:Int))=false:=by simp;omega
    have Az:(j:Int)<=0:=by omega
    clear An;have e0:w3.cell? ⟨w.heap.size,0,none⟩=some (.int .i64 4):=D.cell 0;have N:=bP q;rw[M.out] at N;have t:=Z.out w3 _ B C (by omega);rw[M.out] at t;have u:=eA (show m+I l<=n+1+fP I (L.take (j+1))+1*(j+1) by have:=HM.out;have:=Ak.out;omega)
    clear C;go_wp2_with fail
    refine t.mono ?_;rintro e w7 ⟨rfl,n7,O,x,F⟩;have y:=F.2 _ _ _ D (by decide) (by omega);have Q:=B.trans F;have z:=eA (Nat.le_trans O u.out);clear t F N O D q B;(try clear H G)
    go_wp2_with fail
    go_roundw
    case rel=>exact⟨j+1,n7,by omega,by go_num,z,x,Q,y⟩
    case measure=>simp[intOf];omega
   .have Ay:decide ((0:Int)<(j:Int))=true:=by simp;omega
    have Az:(0:Int)<(j:Int):=by omega
    clear An;have d:=dt b m 44 w3 C (by omega);go_wp2_with fail
    refine d.mono ?_;rintro e w4 ⟨rfl,Ao,U⟩;have D:=U.2 _ _ _ D (by decide) (by omega);have q:=U.2 _ _ _ q (by decide) Ax;have B:=B.trans U;have C:=Ao;clear d H G U Ao;have e0:w4.cell? ⟨w.heap.size,0,none⟩=some (.int .i64 4):=D.cell 0;have N:=bP q;rw[M.out] at N;have t:=Z.out w4 _ B C (by omega);rw[M.out] at t;have u:=eA (show m+1+I l<=n+1+fP I (L.take (j+1))+1*(j+1) by have:=HM.out;have:=Ak.out;omega)
    clear C;go_wp2_with fail
    refine t.mono ?_;rintro e w7 ⟨rfl,n7,O,x,F⟩;have y:=F.2 _ _ _ D (by decide) (by omega);have Q:=B.trans F;have z:=eA (Nat.le_trans O u.out);clear t F N O D q B;(try clear H G)
    go_wp2_with fail
    go_roundw
    case rel=>exact⟨j+1,n7,by omega,by go_num,z,x,Q,y⟩
    case measure=>simp[intOf];omega
  .have Ap:j=E:=by omega
   have A3:(E:Int)<=(j:Int):=by omega
   have Aq:=eA (show m+1<=n+2+fP I L+1*L.length by
    have:=HM.out;rw[Ap,<-hL,List.take_length] at this;omega)
   have Ar:Hid (∀p,Calls prog 227 #[.pointer (some ⟨b,0,none⟩),.int .u8 93] (ab wx p) fun e w'=>e=.returned .nilIface/\WS b (m+1) w'/\aL b (ab wx p) w'):=eA fun p=>dt b m 93 _ (g.below (aa wx p)) (by have:=Aq.out;omega)
   have s:b<=wx.heap.size:=Nat.le_of_lt g.1;clear Ap;go_upto_region 15 with fail
   refine bz 5 ?_;simp only[List.take_succ_cons,List.take_zero,List.drop_succ_cons,List.drop_zero];repeat (go_big_quiet_step (fail))
   refine wpQuiet_nil ?_;rintro _ ⟨p,rfl⟩;have As:=Ar.out p;have S:=hK.trans (aL.of_below (aa wx p) s);clear Ar hK hB g;generalize ab wx p=wy at *;go_wp2_with fail
   refine As.mono ?_;rintro e w9 ⟨rfl,A0,A1⟩;go_wp2;(try rw[ak])
   (try go_wp2)
   go_end0
   exact⟨rfl,m+1,Nat.succ_pos _,Aq.out,A0,S.trans A1⟩
theorem wkids_5(b n:Nat)(w:World)(A:Option Addr)(D c:Nat)(L:List JsV)(M:JsV->Nat)(A':Option Addr)(z:Nat)(ns:List Txt)(hT:Vs w b 1 A' D (tv ns))(Am:∀x∈ns,ms x/\x.length<=6)(h:WS b n w)(hL:L.length=D)(hE:Vs w b 5 A D (ah am L))(An:∀k∈L,k.names.oneCell'=true/\k.kids.oneCell'=true)(hn:n+2+fP M L+10*L.length<=2000)(hl:D<=100)
  (hk:∀k∈L,∀N n',aL b w N->WS b n' N->n'+M k<=2000->Calls prog 200 #[.pointer (some ⟨b,0,none⟩),.agg (am k).toArray] N fun e Ao=>e=.returned (.tuple #[])/\∃Ap,Ap<=n'+M k/\WS b Ap Ao/\aL b N Ao) :
  Calls prog 237 #[.pointer (some ⟨b,0,none⟩),.agg #[.int .i64 5,.int .i64 0,.string ⟨#[]⟩,.slice A' D z,.slice A D c]] w fun e w'=>e=.returned (.tuple #[])/\∃n',0<n'/\n'<=n+2+fP M L+10*L.length/\WS b n' w'/\aL b w w':=by
 have AH:str []=⟨#[]⟩:=rfl
 have Aq:=h.1
 obtain⟨W,hW⟩:=eC (w.alloc (.cells (am ⟨5,0,[],.slice A' D z,.slice A D c⟩).toArray 197))
 have B0:Blk W w.heap.size (am ⟨5,0,[],.slice A' D z,.slice A D c⟩) 197:=by rw[<-hW];exact Blk.new _ _ _
 have f:eF w W:=eG hW
 have Ar:aL b w W:=aL.of_below f (Nat.le_of_lt Aq)
 have As:=h.below f
 have HW:Hid (w.alloc (.cells #[.int .i64 5,.int .i64 0,.string ⟨#[]⟩,.slice A' D z,.slice A D c] 197)=W):=eA hW
 clear hW
 have k0:W.cell? ⟨w.heap.size,0,none⟩=some (.int .i64 5):=B0.cell 0
 have q:Hid (∀p,Calls prog 227 #[.pointer (some ⟨b,0,none⟩),.int .u8 123] (ab W p) fun e w'=>e=.returned .nilIface/\WS b (n+1) w'/\aL b (ab W p) w'):=eA fun p=>dt b n 123 _ (As.below (aa W p)) (by omega)
 have AI:∀N,(Instr.index 9 (.string ⟨#[123,125]⟩) (.int .i64 0)).run prog N=.ok (.int .u8 123) N:=fun N=>rfl
 have AF:∀N,(Instr.index 9 (.string ⟨#[123,125]⟩) (.int .i64 1)).run prog N=.ok (.int .u8 125) N:=fun N=>rfl
 go_enter func237,ntmps237
 go_upto_region 1 with fail
 rw[HW.out]
 clear HW
 go_upto_region 4 with fail
 refine bz 5 ?_
 simp only[List.take_succ_cons,List.take_zero,List.drop_succ_cons,List.drop_zero]
 repeat (go_big_quiet_step (fail))
 refine wpQuiet_nil ?_
 rintro _ ⟨p,rfl⟩
 have r:=q.out p
 have g:aL b w (ab W p):=Ar.trans (aL.of_below (aa W p) (Nat.le_trans (Nat.le_of_lt Aq) f.size))
 have B1:=B0.below (aa W p)
 clear q Ar As k0 f
 generalize ab W p=w1 at *
 go_wp2_with fail
 refine r.mono ?_
 rintro e w2 ⟨rfl,Au,Aa⟩
 have Av:=g.trans Aa
 have B2:=Aa.2 _ _ _ B1 (by decide) (by omega)
 have k4:w2.cell? ⟨w.heap.size,4,none⟩=some (.slice A D c):=B2.cell 4
 clear r g Aa B0 B1
 go_wp2_with fail
 (try rw[ak])
 (try go_wp2_with fail)
 go_loopw [5,6,19] (fun _ _ i wx=>∃(j m:Nat),j<=D/\i=.int .i64 (j:Int)/\Hid (m<=n+1+fP M (L.take j)+10*j)/\WS b m wx/\aL b w wx/\Blk wx w.heap.size (am ⟨5,0,[],.slice A' D z,.slice A D c⟩) 197) (fun _ _ i _=>D-(intOf i).toNat)
 case atStart=>exact⟨0,n+1,by omega,rfl,eA (by simp[fP]),Au,Av,B2⟩
 case round =>
  clear Au Av B2 k4;obtain⟨j,m,hj,rfl,HM,hw,hK,hB⟩:=hrel;obtain⟨wx,A7⟩:∃wx,wx=wr:=⟨_,rfl⟩;subst A7;by_cases AJ:j<D
  .have O:j<L.length:=by omega
   obtain⟨bk,ok,rfl,AK,Aw⟩:=ldJs_vs hE O;have E:=Aw wx hK.1;have s:=ta M O;have Ax:=sumW_le M L (j+1);have Ay:=eA s;have AL:m+M L[j]+10<=2000:=by
    have:=HM.out;have h3:10*(j+1)<=10*L.length:=Nat.mul_le_mul_left _ O;omega
   have hval:=hk L[j] (List.getElem_mem O);obtain⟨A8,A9⟩:=An L[j] (List.getElem_mem O);have t:=eA hval;clear hval s Ax Aw;generalize L[j]=kj at *;have bn:=Blk.new wx (am ⟨0,0,[],.slice none 0 0,.slice none 0 0⟩) 197;obtain⟨Ab,J⟩:=ld bn (vs:=am kj) rfl rfl (iL kj A8 A9);obtain⟨u,Ac⟩:=eC ((wx.alloc (.cells (am ⟨0,0,[],.slice none 0 0,.slice none 0 0⟩).toArray 197)).setCells wx.heap.size 0 (am kj));have Az:Chg [] wx u:=by rw[<-Ac];exact((Chg.refl _ _).alloc _).setCells _ (.inr eH)
   rw[Ac] at Ab J;have l:=Az.below (fun _ h=>by cases h);have Ad:b<=wx.heap.size:=Nat.le_of_lt hw.1;have A0:aL b wx u:=aL.of_below l Ad;have F:=hw.below l;have C:=hB.below l;have Q:wx.heap.size≠b:=by have:=hw.1;omega
   have G:(stJs (.pointer (some ⟨wx.heap.size,0,none⟩)) (.agg (am kj).toArray)).run prog (wx.alloc (.cells #[.int .i64 0,.int .i64 0,.string ⟨#[]⟩,.slice none 0 0,.slice none 0 0] 197))=.ok () u:=Ab;have AM:(j:Int)<(D:Int):=by omega
   clear Ab bn Az Ac l hw;obtain⟨RK,R⟩:=eD ((am kj).toArray);rw[R.out] at G E;have B:=hK.trans A0;clear hK A0 hB;by_cases A1:j=0
   .have AA:decide ((0:Int)<(j:Int))=false:=by simp;omega
    have AB:(j:Int)<=0:=by omega
    clear A1;obtain⟨bs',Ae,Af,Ag⟩:=names_at hT (i:=j) (by have:=hT.len;rw[dN] at this;omega)
    subst Af;have S:j<ns.length:=by have:=hT.len;rw[dN] at this;omega
    obtain⟨Ah,AC⟩:=Am _ (List.getElem_mem S);have e0:u.cell? ⟨w.heap.size,0,none⟩=some (.int .i64 5):=C.cell 0;have e3:u.cell? ⟨w.heap.size,3,none⟩=some (.slice (some ⟨bs',Ae,none⟩) D z):=C.cell 3;have ec:=Ag u B.1;generalize ns[j]=nj at *;have T:=nW b (m) nj u F (by omega) (by omega) Ah;go_wp2_with fail
    refine T.mono ?_;rintro e w5 ⟨rfl,U,H⟩;have C:=H.2 _ _ _ C (by decide) (by omega);have J:=H.2 _ _ _ J (by decide) Q;have B:=B.trans H;have V:=dt b (m+nj.length+2) 58 w5 U (by omega);clear T e0 e3 ec H F;(try clear G E)
    go_wp2_with fail
    refine V.mono ?_;rintro e w6 ⟨rfl,X,I⟩;have C:=I.2 _ _ _ C (by decide) (by omega);have J:=I.2 _ _ _ J (by decide) Q;have B:=B.trans I;have Y:=bP J;rw[R.out] at Y;have hv:=t.out w6 _ B X (by omega);rw[R.out] at hv;have Ai:=eA (show m+nj.length+2+1+M kj<=n+1+fP M (L.take (j+1))+10*(j+1) by have:=HM.out;have:=Ay.out;omega)
    clear V I X U;go_wp2_with fail
    refine hv.mono ?_;rintro e w7 ⟨rfl,n7,Z,Aj,K⟩;have Ak:=K.2 _ _ _ C (by decide) (by omega);have d:=B.trans K;have Al:=eA (Nat.le_trans Z Ai.out);clear hv K Y Z C J B;(try clear G E)
    go_wp2_with fail
    go_roundw
    case rel=>exact⟨j+1,n7,by omega,by go_num,Al,Aj,d,Ak⟩
    case measure=>simp[intOf];omega
   .have AA:decide ((0:Int)<(j:Int))=true:=by simp;omega
    have AB:(0:Int)<(j:Int):=by omega
    clear A1;have y:=dt b m 44 u F (by omega);go_wp2_with fail
    refine y.mono ?_;rintro e w4 ⟨rfl,A2,o⟩;have C:=o.2 _ _ _ C (by decide) (by omega);have J:=o.2 _ _ _ J (by decide) Q;have B:=B.trans o;have F:=A2;clear y G E o A2;obtain⟨bs',Ae,Af,Ag⟩:=names_at hT (i:=j) (by have:=hT.len;rw[dN] at this;omega)
    subst Af;have S:j<ns.length:=by have:=hT.len;rw[dN] at this;omega
    obtain⟨Ah,AC⟩:=Am _ (List.getElem_mem S);have e0:w4.cell? ⟨w.heap.size,0,none⟩=some (.int .i64 5):=C.cell 0;have e3:w4.cell? ⟨w.heap.size,3,none⟩=some (.slice (some ⟨bs',Ae,none⟩) D z):=C.cell 3;have ec:=Ag w4 B.1;generalize ns[j]=nj at *;have T:=nW b (m+1) nj w4 F (by omega) (by omega) Ah;go_wp2_with fail
    refine T.mono ?_;rintro e w5 ⟨rfl,U,H⟩;have C:=H.2 _ _ _ C (by decide) (by omega);have J:=H.2 _ _ _ J (by decide) Q;have B:=B.trans H;have V:=dt b (m+1+nj.length+2) 58 w5 U (by omega);clear T e0 e3 ec H F;(try clear G E)
    go_wp2_with fail
    refine V.mono ?_;rintro e w6 ⟨rfl,X,I⟩;have C:=I.2 _ _ _ C (by decide) (by omega);have J:=I.2 _ _ _ J (by decide) Q;have B:=B.trans I;have Y:=bP J;rw[R.out] at Y;have hv:=t.out w6 _ B X (by omega);rw[R.out] at hv;have Ai:=eA (show m+1+nj.length+2+1+M kj<=n+1+fP M (L.take (j+1))+10*(j+1) by have:=HM.out;have:=Ay.out;omega)
    clear V I X U;go_wp2_with fail
    refine hv.mono ?_;rintro e w7 ⟨rfl,n7,Z,Aj,K⟩;have Ak:=K.2 _ _ _ C (by decide) (by omega);have d:=B.trans K;have Al:=eA (Nat.le_trans Z Ai.out);clear hv K Y Z C J B;(try clear G E)
    go_wp2_with fail
    go_roundw
    case rel=>exact⟨j+1,n7,by omega,by go_num,Al,Aj,d,Ak⟩
    case measure=>simp[intOf];omega
  .have A3:j=D:=by omega
   have AG:(D:Int)<=(j:Int):=by omega
   have A4:=eA (show m+1<=n+2+fP M L+10*L.length by
    have:=HM.out;rw[A3,<-hL,List.take_length] at this;omega)
   have A5:Hid (∀p,Calls prog 227 #[.pointer (some ⟨b,0,none⟩),.int .u8 125] (ab wx p) fun e w'=>e=.returned .nilIface/\WS b (m+1) w'/\aL b (ab wx p) w'):=eA fun p=>dt b m 125 _ (hw.below (aa wx p)) (by have:=A4.out;omega)
   have Ad:b<=wx.heap.size:=Nat.le_of_lt hw.1;clear A3;go_upto_region 15 with fail
   refine bz 5 ?_;simp only[List.take_succ_cons,List.take_zero,List.drop_succ_cons,List.drop_zero];repeat (go_big_quiet_step (fail))
   refine wpQuiet_nil ?_;rintro _ ⟨p,rfl⟩;have A6:=A5.out p;have g:=hK.trans (aL.of_below (aa wx p) Ad);clear A5 hK hB hw;generalize ab wx p=wy at *;go_wp2_with fail
   refine A6.mono ?_;rintro e w9 ⟨rfl,AD,AE⟩;go_wp2;(try rw[ak])
   (try go_wp2)
   go_end0
   exact⟨rfl,m+1,Nat.succ_pos _,A4.out,AD,g.trans AE⟩
end
end Go.Proofs.YtmbpnkacggngkaaGreatDoor
