/- LedDoI, LedDoJ, LedCln, LedWk, LedIns, LedGone, LedClone, LedDoing, LedApply, LedLives, LedInRow, MixC (put together by bundle.py: only what is needed). -/
import Derived.MapKept
import Derived.Test.YtmbpnkacggngkaaGreatDoorLW9
set_option maxRecDepth 100000
set_option maxHeartbeats 16000000
namespace Go.Proofs.YtmbpnkacggngkaaGreatDoor
section
open Go.RowKit Mem Led
theorem useJoin1_any(x:Led.Join) (n:Txt) (go:Nat) (W:World) (hc:W.cell? ⟨go,2,none⟩=some (.string (str n))) :
  Calls Tryz.prog 88 (#[.agg (joinRow x).toArray]++#[.pointer (some ⟨go,0,none⟩)]) W fun e w'=>e=.returned (.bool (x.text==n))∧Below W.heap.size W w':=by
 have hgo:=World.block_lt_of_cell? W _ hc
 simp only [] at hgo
 have hb:∀ o,Below W.heap.size W (W.alloc o):=fun o=>(Below.refl _ _).alloc (Nat.le_refl _) _
 show Calls Tryz.prog 88 #[.agg #[.string (str x.text),.string (str x.name),.int .i64 x.expires,.bool x.used],.pointer (some ⟨go,0,none⟩)] W _
 go_enter Tryz.func88,Tryz.ntmps88
 go_wp2_with fail
 go_ret
 exact⟨by first|rfl|simp,hb _⟩
theorem nodePut_cases{base gl:Nat} {vN:Value} {N:List Led.Node} {Bn:List Txt} {n:Led.Node} {w w':World} {x:Ending} (h:NodePut base gl vN N Bn n w x w') :
  (x=.returned (.int .i64 0)∧∃ L',Slot nodeRow 5 40 base gl 1 vN L' w w')∨(∃ c:Int,x=.returned (.int .i64 c)∧c≠0∧Below w.heap.size w w'):=by
 unfold NodePut at h
 split at h
 ·split at h
  ·exact .inr ⟨21,h.1,by decide,h.2⟩
  ·unfold Puts at h
   cases hq:put cN 4 n N with
   | none=>rw [hq] at h; exact .inr ⟨6,h.1,by decide,h.2⟩
   | some L=>rw [hq] at h; exact .inl ⟨h.1,L,h.2⟩
 ·exact .inr ⟨1,h.1,by decide,h.2⟩
theorem nodePut_from{base gl:Nat} {vN:Value} {N:List Led.Node} {Bn:List Txt} {n:Led.Node} {w W w':World} {x:Ending} (hb:Below w.heap.size w W) (h:NodePut base gl vN N Bn n W x w'):NodePut base gl vN N Bn n w x w':=by
 unfold NodePut at h ⊢
 split
 ·rename_i h1
  rw [if_pos h1] at h; split
  ·rename_i h2
   rw [if_pos h2] at h; exact⟨h.1,hb.trans (h.2.mono hb.size)⟩
  ·rename_i h2
   rw [if_neg h2] at h; exact puts_from hb h
 ·rename_i h1
  rw [if_neg h1] at h; exact⟨h.1,hb.trans (h.2.mono hb.size)⟩
def Joined (base gl:Nat) (vN vJ:Value) (N:List Led.Node) (Bn:List Txt) (J:List Led.Join) (t:Txt) (n:Led.Node) (w:World) (x:Ending) (w':World):Prop:=match J.find? (fun j=>j.text==t) with
 | none=>x=.returned (.int .i64 7)∧Below w.heap.size w w'
 | some j=>if j.used then x=.returned (.int .i64 20)∧Below w.heap.size w w' else if n.name==j.name then
   ((x=.returned (.int .i64 0)∧∃ w1,NodePut base gl vN N Bn n w x w1∧Slot joinRow 4 38 base gl 3 vJ (modP (fun j=>j.text==t) (fun j=>{ j with used:=true }) J) w1 w')∨(x≠.returned (.int .i64 0)∧NodePut base gl vN N Bn n w x w'))
  else x=.returned (.int .i64 1)∧Below w.heap.size w w'
theorem useJoin_any(gl:Nat) (o:Led.Op) (sv kv:Value) (vs:List Value) (N:List Led.Node) (Bn:List Txt) (J:List Led.Join) (base:Nat) (vN vB vJ:Value) (w:World) (hz:o.node.name.length≤9223372036854775807) (hN:N.length≤4) (hB:Bn.length≤8) (hJ:J.length≤16) (hr:Rises cN N) (hbase:base≤w.heap.size)
  (hbl:Blk w gl vs 30) (h1:vs[1]?=some vN) (h2:vs[2]?=some vB) (h3:vs[3]?=some vJ) (hown:w.ownsRow base 40 5 vN N.length (rows nodeRow N)) (hne:vN.ownBlock≠some gl) (hownB:w.ownsRow base 9 1 vB Bn.length (rows strRow Bn))
  (hownJ:w.ownsRow base 38 4 vJ J.length (rows joinRow J)) (hneJ:vJ.ownBlock≠some gl) (hap:Apart vJ vN) :
  Calls Tryz.prog 45 #[.pointer (some ⟨gl,0,none⟩),.agg (opCells o sv kv).toArray] w (Joined base gl vN vJ N Bn J o.name o.node w):=by
 obtain⟨A,c,rfl,hnc,hcm⟩:=own_form hownJ
 obtain⟨W,hW⟩:∃ W,w.alloc (.cells (opCells o sv kv).toArray 47)=W:=⟨_,rfl⟩
 have b0:Blk W w.heap.size (opCells o sv kv) 47:=by rw [← hW]; exact Blk.new w _ _
 have hbW:Below w.heap.size w W:=by rw [← hW]; exact(Below.refl _ _).alloc (Nat.le_refl _) _
 have hblW:=hbl.below hbW
 have cJ:W.cell? ⟨gl,3,none⟩=some (.slice A J.length c):=(hblW.cell 3).trans h3
 have hidx:=idxJoi_any 88 #[.pointer (some ⟨w.heap.size,0,none⟩)] (enters_of Tryz.func88 (by kernel_rfl) rfl) (fun d=>d.text==o.name) A J.length c J W (Vs.of_own (own_below hownJ hbW (Nat.le_refl _))) (by omega) (fun W' x _ hb=>useJoin1_any x o.name w.heap.size W' ((b0.below hb).cell 2))
 have HW:=Lib.hid hW
 clear hW
 obtain⟨CS,hCS⟩:∃ CS,(opCells o sv kv).toArray=CS:=⟨_,rfl⟩
 have HCS:=Lib.hid hCS
 rw [hCS] at HW ⊢
 clear hCS
 go_enter Tryz.func45,Tryz.ntmps45
 go_upto_region 1 with fail
 rw [HW.out]
 clear HW
 rcases idx_cases (fun d:Led.Join=>d.text==o.name) J with⟨hi,ha⟩|⟨i,hiL,hi,ha,hpi,hlo⟩
 ·rw [hi] at hidx
  have HR:Hid (∀ w',Below w.heap.size w w'→Joined base gl vN (.slice A J.length c) N Bn J o.name o.node w (.returned (.int .i64 7)) w'):=Lib.hid (fun w' h=>by
   unfold Joined; have:J.find? (fun d=>d.text==o.name)=none:=by
    rw [List.find?_eq_none]; intro x hx; rw [List.any_eq_false] at ha; exact ha x hx
   rw [this]; exact⟨rfl,h⟩)
  clear hi ha; go_wp2_with fail
  refine hidx.mono ?_; rintro e w1 ⟨rfl,hb1⟩; go_wp2; go_ret; exact HR.out _ (hbW.trans (hb1.mono hbW.size))
 ·rw [hi] at hidx
  rcases own_cases hownJ with⟨_,h0,_⟩|⟨g,c',M,he,hbg,hgw,hBJ,hnc',hcm',hM,hMt⟩
  ·omega
  injection he with he1 _ he3
  subst he1 he3; have hgg:gl≠g:=fun e=>hneJ (by simp [Value.ownBlock,e]); obtain⟨d,hd⟩:∃ d,J[i]=d:=⟨_,rfl⟩; have hfind:J.find? (fun d=>d.text==o.name)=some d:=by rw [find_at hiL hlo hpi,hd]
  have hmod:modP (fun d:Led.Join=>d.text==o.name) (fun d=>{ d with used:=true }) J=J.set i { d with used:=true }:=by rw [modP_at hiL hlo hpi,hd]
  have HJ:Hid (∀ x w',(if d.used then x=.returned (.int .i64 20)∧Below w.heap.size w w' else if o.node.name==d.name then
   ((x=.returned (.int .i64 0)∧∃ w1,NodePut base gl vN N Bn o.node w x w1∧Slot joinRow 4 38 base gl 3 (.slice (some ⟨g,0,none⟩) J.length c) (J.set i { d with used:=true }) w1 w')∨(x≠.returned (.int .i64 0)∧NodePut base gl vN N Bn o.node w x w'))
  else x=.returned (.int .i64 1)∧Below w.heap.size w w')→Joined base gl vN (.slice (some ⟨g,0,none⟩) J.length c) N Bn J o.name o.node w x w'):=Lib.hid (fun x w' h=>by
   unfold Joined; rw [hfind,hmod]; exact h)
  have hcd:∀ W' j u,Blk W' g M 38→(joinRow d)[j]?=some u→W'.cell? ⟨g,i * 4+j,none⟩=some u:=fun W' j u hb hj=>by
   have hj4:j<4:=by
    have:=(List.getElem?_eq_some_iff.1 hj).1; rwa [joinRow_len] at this
   have h:=rows_at joinRow_len (enc:=joinRow) hiL hj4; rw [hb.cell]; rw [← hMt,List.getElem?_take,if_pos (by omega),hd,hj] at h; exact h
  have HSL:Hid (∀ w1 vs1,Blk w1 g M 38→Blk w1 gl vs1 30→vs1[3]?=some (.slice (some ⟨g,0,none⟩) J.length c)→Slot joinRow 4 38 base gl 3 (.slice (some ⟨g,0,none⟩) J.length c) (J.set i { d with used:=true }) w1 (w1.setCell ⟨g,i * 4+3,none⟩ (.bool true))):=Lib.hid (fun w1 vs1 hb hbl1 h31 =>
   slot_cell joinRow_len (Below.refl _ _) hbg hb hnc hcm' hM hMt hiL (by omega) (by rw [hd]; rfl) hgg hbl1 h31)
  have hi0:¬ ((i:Int)<0):=by omega
  have hi1:(i:Int)<(J.length:Int):=by omega
  clear hi ha hpi hlo hfind hmod hd; go_wp2_with fail
  refine hidx.mono ?_; rintro e w1 ⟨rfl,hb1⟩; have hbw1:Below w.heap.size w w1:=hbW.trans (hb1.mono hbW.size); have b1:=b0.below hb1; have hbl1:=hbl.below hbw1; have hB1:=hBJ.below hbw1; have cJ1:w1.cell? ⟨gl,3,none⟩=some (.slice (some ⟨g,0,none⟩) J.length c):=(hbl1.cell 3).trans h3
  cases hu:d.used
  ·have cu:w1.cell? ⟨g,i * 4+3,none⟩=some (.bool false):=hcd _ 3 _ hB1 (by rw [← hu]; rfl)
   have f1:∀ p,(Batch.grew w1 p).cell? ⟨gl,3,none⟩=some (.slice (some ⟨g,0,none⟩) J.length c):=fun p=>(Batch.grew_cell (a:=⟨gl,3,none⟩) hbl1.lt p).trans cJ1; have f2:∀ p,(Batch.grew w1 p).cell? ⟨w.heap.size,12,none⟩=some (.string (str o.node.name)):=fun p=>(Batch.grew_cell (a:=⟨w.heap.size,12,none⟩) b1.lt p).trans (b1.cell 12); have f3:∀ p,(Batch.grew w1 p).cell? ⟨g,i * 4+1,none⟩=some (.string (str d.name)):=fun p=>hcd _ 1 _ (hB1.below (Batch.grew_below w1 p)) rfl
   cases hnn:(o.node.name==d.name)
   ·have HR:Hid (∀ w',Below w.heap.size w w'→Joined base gl vN (.slice (some ⟨g,0,none⟩) J.length c) N Bn J o.name o.node w (.returned (.int .i64 1)) w'):=Lib.hid (fun w' h=>HJ.out _ _ (by rw [hu,hnn]; exact⟨rfl,h⟩))
    clear HJ hcd HSL hu; go_wp2_with fail
    refine Batch.wp_region_grew (by kernel_rfl) (by kernel_rfl) ?_; repeat (go_big_quiet_step (fail))
    refine wpQuiet_nil ?_; rintro _ ⟨px,rfl⟩; have g2:=Batch.grew_below w1 px; clear f1 f2 f3; generalize Batch.grew w1 px=w2 at *; go_wp2_with fail
    go_ret; exact HR.out _ (hbw1.trans (g2.mono hbw1.size))
   ·have HR:Hid (∀ x w',((x=.returned (.int .i64 0)∧∃ w1,NodePut base gl vN N Bn o.node w x w1∧Slot joinRow 4 38 base gl 3 (.slice (some ⟨g,0,none⟩) J.length c) (J.set i { d with used:=true }) w1 w')∨(x≠.returned (.int .i64 0)∧NodePut base gl vN N Bn o.node w x w'))→Joined base gl vN (.slice (some ⟨g,0,none⟩) J.length c) N Bn J o.name o.node w x w'):=Lib.hid (fun x w' h=>HJ.out _ _ (by rw [hu,hnn]; exact h))
    clear HJ hu; go_wp2_with fail
    refine Batch.wp_region_grew (by kernel_rfl) (by kernel_rfl) ?_; repeat (go_big_quiet_step (fail))
    refine wpQuiet_nil ?_; rintro _ ⟨px,rfl⟩; have g2:=Batch.grew_below w1 px; clear f1 f2 f3; generalize Batch.grew w1 px=w2 at *; have hbw2:Below w.heap.size w w2:=hbw1.trans (g2.mono hbw1.size); have b2:=b1.below g2; have hld:=load_op b2 rfl; rw [HCS.out] at hld; have hpn:=putNode_any gl o sv kv vs N Bn base vN vB w2 hz hN hB hr (Nat.le_trans hbase hbw2.size) (hbl.below hbw2) h1 h2 (own_below hown hbw2 (Nat.le_refl _)) hne (own_below hownB hbw2 (Nat.le_refl _)); rw [HCS.out] at hpn; clear cJ1 cu hcd; go_wp2_with fail
    refine hpn.mono ?_; intro e w4 hnp; rcases nodePut_cases hnp with⟨rfl,L',hs⟩|⟨cc,rfl,hcc,hb4⟩
    ·obtain⟨v',hbl4,_,_,_⟩:=hs.opened (hbl.below hbw2) hne
     have h34:(vs.set 1 v')[3]?=some (.slice (some ⟨g,0,none⟩) J.length c):=by rw [List.getElem?_set_ne (by omega)]; exact h3
     have hB4:Blk w4 g M 38:=hs.blk (hBJ.below hbw2) (fun e=>by rcases hap with h|h <;> simp [Value.ownBlock] at h; exact h e.symm) (fun e=>hgg e.symm)
     have c4:w4.cell? ⟨gl,3,none⟩=some (.slice (some ⟨g,0,none⟩) J.length c):=(hbl4.cell 3).trans h34; have hcell:∃ u,w4.cell? ⟨g,i * 4+3,none⟩=some u:=by
      refine⟨M[i * 4+3]'(by omega),?_⟩; rw [hB4.cell,List.getElem?_eq_getElem]
     obtain⟨u,hcu⟩:=hcell; have hfu:w4.frozen? ⟨g,i * 4+3,none⟩=false:=hB4.froz _; have hres:=HR.out (.returned (.int .i64 0)) _ (.inl ⟨rfl,w4,nodePut_from hbw2 hnp,HSL.out w4 _ hB4 hbl4 h34⟩); have HH:=Lib.hid hres; clear hres HR HSL hs hnp hpn hld; go_wp2_with fail
     go_ret; exact HH.out
    ·have hres:=HR.out (.returned (.int .i64 cc)) w4 (.inr ⟨fun e=>by injection e with e; injection e with _ e; exact hcc e,nodePut_from hbw2 hnp⟩)
     have HH:=Lib.hid hres; have hcz:(cc==0)=false:=by simpa using hcc
     clear hres HR HSL hnp hpn hld; go_wp2_with fail
     go_ret; exact HH.out
  ·have cu:w1.cell? ⟨g,i * 4+3,none⟩=some (.bool true):=hcd _ 3 _ hB1 (by rw [← hu]; rfl)
   have HR:Hid (∀ w',Below w.heap.size w w'→Joined base gl vN (.slice (some ⟨g,0,none⟩) J.length c) N Bn J o.name o.node w (.returned (.int .i64 20)) w'):=Lib.hid (fun w' h=>HJ.out _ _ (by rw [hu]; exact⟨rfl,h⟩))
   clear HJ hcd HSL hu; go_wp2_with fail
   go_ret; exact HR.out _ hbw1
end
section
open Go.RowKit Mem Led
def RowAt {α:Type} (enc:α→List Value) (k:Nat) (e:TypeId) (g c n:Nat) (w:World) (L:List α):Prop:=L.length=n∧∃ M,Blk w g M e∧M.length=c * k∧M.take (n * k)=rows enc L
section
variable {α:Type} {enc:α→List Value} {k:Nat} {e:TypeId} {g c n:Nat} {w w':World} {L:List α}
theorem RowAt.below(h:RowAt enc k e g c n w L) (hb:Below w.heap.size w w'):RowAt enc k e g c n w' L:=⟨h.1,h.2.imp fun _ ⟨h1,h2⟩=>⟨h1.below hb,h2⟩⟩
theorem RowAt.cell(hk:∀ x,(enc x).length=k) (h:RowAt enc k e g c n w L) {i j:Nat} {u:Value} (hi:i<L.length) (hu:(enc L[i])[j]?=some u):w.cell? ⟨g,i * k+j,none⟩=some u∧w.frozen? ⟨g,i * k+j,none⟩=false:=by
 obtain⟨hl,M,hB,hM,hMt⟩:=h
 have hj:j<k:=by
  have:=(List.getElem?_eq_some_iff.1 hu).1; rwa [hk] at this
 have h:=rows_at hk hi hj
 have hlt:i * k+j<n * k:=by
  have h1:(i+1) * k≤n * k:=Nat.mul_le_mul_right _ (by omega); rw [Nat.succ_mul] at h1; omega
 rw [← hMt,List.getElem?_take,if_pos hlt,hu] at h
 exact⟨by rw [hB.cell]; exact h,hB.froz _⟩
theorem RowAt.turn(hk:∀ x,(enc x).length=k) (h:RowAt enc k e g c n w L) {i j:Nat} {x':α} {u:Value} (hi:i<L.length) (hj:j<k) (he:enc x'=(enc L[i]).set j u):RowAt enc k e g c n (w.setCell ⟨g,i * k+j,none⟩ u) (L.set i x'):=by
 obtain⟨hl,M,hB,hM,hMt⟩:=h
 refine⟨by rw [List.length_set,hl],M.set (i * k+j) u,hB.set _ _,by rw [List.length_set,hM],?_⟩
 have e:M=rows enc L++M.drop (n * k):=by rw [← hMt,List.take_append_drop]
 have h:=rows_set hk (R:=M.drop (n * k)) hi hj he
 rw [← e] at h
 rw [h,List.take_append_of_le_length (by rw [rows_length hk,List.length_set,hl]; exact Nat.le_refl _),List.take_of_length_le (by rw [rows_length hk,List.length_set,hl]; exact Nat.le_refl _)]
theorem RowAt.slot{base gl sl:Nat} {vs:List Value} {tl:TypeId} {w0:World} (h:RowAt enc k e g c n w L) (hbg:base≤g) (hn:n≤c) (hc:c≤maxLen) (hg:w0.grownBy w (some g)) (hb:Blk w gl vs tl) (hs:vs[sl]?=some (.slice (some ⟨g,0,none⟩) n c)):Slot enc k e base gl sl (.slice (some ⟨g,0,none⟩) n c) L w0 w:=by
 obtain⟨hl,M,hB,hM,hMt⟩:=h
 refine⟨_,w,(setCell_keep hb hs).symm,hg,?_,.inl rfl⟩
 rw [hl]
 exact own_of_row hbg hB hn hc hM hMt
end
theorem grown_cell{w w':World} {g k:Nat} {u:Value} {M:List Value} {t:TypeId} (h:w.grownBy w' (some g)) (hB:Blk w' g M t):w.grownBy (w'.setCell ⟨g,k,none⟩ u) (some g):=by
 rw [setCell_eq_setRow w' g k M.toArray _ (0,0) _ hB]
 exact grown_setRow h
theorem setc_far(w:World) {p q:Nat} (k k':Nat) (v:Value) (h:p≠q):(w.setCell ⟨p,k,none⟩ v).cell? ⟨q,k',none⟩=w.cell? ⟨q,k',none⟩:=World.cell?_setCell_other _ _ _ _ (fun e=>h (by injection e))
theorem grown_of_below{w w':World} {r:Option Nat} (h:Below w.heap.size w w'):w.grownBy w' r:=grown_after h (grown_refl _ _)
theorem keys_two{g c n gl i:Nat} {w wx:World} {K:List Led.Key} {vs:List Value} {tl:TypeId} (st t:Int) (hg:w.grownBy wx (some g)) (hr:RowAt keyRow 4 42 g c n wx K) (hb:Blk wx gl vs tl) (hgg:gl≠g) (hi:i<K.length) :
  let wy:=((wx.setCell ⟨g,i * 4+2,none⟩ (nm st)).setCell ⟨g,i * 4+3,none⟩ (nm t)).drew
  w.grownBy wy (some g)∧RowAt keyRow 4 42 g c n wy (K.set i { K[i] with state:=st,since:=t })∧Blk wy gl vs tl∧∀ p M e,p≠g→Blk wx p M e→Blk wy p M e:=by
 have r1:=hr.turn keyRow_len (j:=2) (x':={ K[i] with state:=st }) (u:=nm st) hi (by omega) rfl
 have hi':i<(K.set i { K[i] with state:=st }).length:=by rw [List.length_set]; exact hi
 have r2:=r1.turn keyRow_len (j:=3) (x':={ K[i] with state:=st,since:=t }) (u:=nm t) hi' (by omega) (by rw [List.getElem_set_self]; rfl)
 rw [List.set_set] at r2
 have hfar:∀ p M e,p≠g→Blk wx p M e→Blk ((wx.setCell ⟨g,i * 4+2,none⟩ (nm st)).setCell ⟨g,i * 4+3,none⟩ (nm t)).drew p M e:=fun p M e hp h=>((h.set_ne (p:=⟨g,i * 4+2,none⟩) hp _).set_ne (p:=⟨g,i * 4+3,none⟩) hp _).below (Below.refl _ _).drew
 obtain⟨_,M,hB,_,_⟩:=hr
 obtain⟨_,M1,hB1,_,_⟩:=r1
 refine⟨grown_drew (grown_cell (grown_cell hg hB) hB1),r2.below (Below.refl _ _).drew,hfar _ _ _ hgg hb,hfar⟩
theorem modP_none{α:Type} {p:α→Bool} {f:α→α}:∀ {L:List α},L.any p=false→modP p f L=L
 | [],_=>rfl
 | a::l,h=>by
  rw [List.any_cons,Bool.or_eq_false_iff] at h; unfold modP; rw [h.1,modP_none h.2]; simp
def Activated (base gl:Nat) (vK:Value) (K:List Led.Key) (n:Int) (w:World) (x:Ending) (w':World):Prop :=
 if within n 0 1099511627776 then
  if K.any (fun j=>j.state==1) then x=.returned (.int .i64 0)∧Slot keyRow 4 42 base gl 4 vK (modP (fun j=>j.state==1) (fun j=>{ j with state:=2,since:=n }) (retire n K)) w w'
  else x=.returned (.int .i64 7)∧Below w.heap.size w w'
 else x=.returned (.int .i64 1)∧Below w.heap.size w w'
theorem activate_any(gl:Nat) (o:Led.Op) (sv kv:Value) (vs:List Value) (K:List Led.Key) (base:Nat) (vK:Value) (w:World) (hK:K.length≤8)
  (hbl:Blk w gl vs 30) (h4:vs[4]?=some vK) (hown:w.ownsRow base 42 4 vK K.length (rows keyRow K)) (hne:vK.ownBlock≠some gl) :
  Calls Tryz.prog 51 #[.pointer (some ⟨gl,0,none⟩),.agg (opCells o sv kv).toArray] w (Activated base gl vK K o.n w):=by
 obtain⟨W,hW⟩:∃ W,w.alloc (.cells (opCells o sv kv).toArray 47)=W:=⟨_,rfl⟩
 have b0:Blk W w.heap.size (opCells o sv kv) 47:=by rw [← hW]; exact Blk.new w _ _
 have hbW:Below w.heap.size w W:=by rw [← hW]; exact(Below.refl _ _).alloc (Nat.le_refl _) _
 have hs1:=state_any gl vs 1 K base vK W (by omega) (hbl.below hbW) h4 (own_below hown hbW (Nat.le_refl _))
 have HS2:=Lib.hid (fun w1 (hb:Below W.heap.size W w1)=>state_any gl vs 2 K base vK w1 (by omega) ((hbl.below hbW).below hb) h4 (own_below (own_below hown hbW (Nat.le_refl _)) hb (Nat.le_refl _)))
 have HW:=Lib.hid hW
 clear hW
 obtain⟨CS,hCS⟩:∃ CS,(opCells o sv kv).toArray=CS:=⟨_,rfl⟩
 rw [hCS] at HW ⊢
 clear hCS
 obtain⟨p,hp⟩:∃ p,idxOf (fun k:Led.Key=>k.state==1) K=p:=⟨_,rfl⟩
 obtain⟨a,ha⟩:∃ a,idxOf (fun k:Led.Key=>k.state==2) K=a:=⟨_,rfl⟩
 rw [hp] at hs1
 rw [ha] at HS2
 have HP:=Lib.hid hp
 have HA:=Lib.hid ha
 clear hp ha
 go_enter Tryz.func51,Tryz.ntmps51
 go_upto_region 1 with fail
 rw [HW.out]
 clear HW
 go_wp2_with fail
 refine hs1.mono ?_
 rintro e w1 ⟨rfl,hb1⟩
 go_wp2_with fail
 refine(HS2.out w1 hb1).mono ?_
 rintro e w2 ⟨rfl,hb2⟩
 have hb02:Below W.heap.size W w2:=hb1.trans (hb2.mono hb1.size)
 have hbw2:Below w.heap.size w w2:=hbW.trans (hb02.mono hbW.size)
 have b2:=b0.below hb02
 have c1:w2.cell? ⟨w.heap.size,1,none⟩=some (.int .i64 o.n):=b2.cell 1
 clear hs1 HS2
 cases hin:within o.n 0 1099511627776
 ·have HR:Hid (∀ w',Below w.heap.size w w'→Activated base gl vK K o.n w (.returned (.int .i64 1)) w'):=Lib.hid (fun w' h=>by unfold Activated; rw [hin]; exact⟨rfl,h⟩)
  go_wp2_with fail
  refine(inb_any _ _ _ _).mono ?_; rintro e w3 ⟨rfl,hw3⟩; have hw4:=hw3.symm; subst hw4; go_wp2_with fail
  go_ret; exact HR.out _ hbw2
 ·rcases idx_cases (fun k:Led.Key=>k.state==1) K with⟨hi,hany⟩|⟨i,hiL,hi,hany,hpi,hlo⟩
  ·have e:=HP.out.symm.trans hi
   subst e; have HR:Hid (∀ w',Below w.heap.size w w'→Activated base gl vK K o.n w (.returned (.int .i64 7)) w'):=Lib.hid (fun w' h=>by unfold Activated; rw [hin,hany]; exact⟨rfl,h⟩)
   clear hi hany; go_wp2_with fail
   refine(inb_any _ _ _ _).mono ?_; rintro e w3 ⟨rfl,hw3⟩; have hw4:=hw3.symm; subst hw4; go_wp2_with fail
   go_ret; exact HR.out _ hbw2
  ·have e:=HP.out.symm.trans hi
   subst e; rcases own_cases hown with⟨_,h0,_⟩|⟨g,c,M,rfl,hbg,hgw,hB,hnc,hcm,hM,hMt⟩
   ·omega
   have hgg:gl≠g:=fun e=>hne (by simp [Value.ownBlock,e]); have hrow:RowAt keyRow 4 42 g c K.length w K:=⟨rfl,M,hB,hM,hMt⟩; have HR:Hid (∀ w',Slot keyRow 4 42 base gl 4 (.slice (some ⟨g,0,none⟩) K.length c) (modP (fun j=>j.state==1) (fun j=>{ j with state:=2,since:=o.n }) (retire o.n K)) w w'→Activated base gl (.slice (some ⟨g,0,none⟩) K.length c) K o.n w (.returned (.int .i64 0)) w'):=Lib.hid (fun w' h=>by unfold Activated; rw [hin,hany]; exact⟨rfl,h⟩)
   have hi0:¬ ((i:Int)<0):=by omega
   have hi1:(i:Int)<(K.length:Int):=by omega
   have hrow2:=hrow.below hbw2; have hbl2:=hbl.below hbw2; have cK:w2.cell? ⟨gl,4,none⟩=some (.slice (some ⟨g,0,none⟩) K.length c):=(hbl2.cell 4).trans h4; rcases idx_cases (fun k:Led.Key=>k.state==2) K with⟨hi2,hany2⟩|⟨i2,hiL2,hi2,hany2,hpi2,hlo2⟩
   ·have e:=HA.out.symm.trans hi2
    subst e; have hret:retire o.n K=K:=modP_none hany2; have HF:=Lib.hid (keys_two 2 o.n (grown_of_below hbw2) hrow2 hbl2 hgg hiL); have HM:=Lib.hid (modP_at (p:=fun j:Led.Key=>j.state==1) (f:=fun j=>{ j with state:=2,since:=o.n }) hiL hlo hpi); rw [hret] at HR; have cS:=(hrow2.cell keyRow_len (j:=2) (u:=nm K[i].state) hiL rfl); have cT:=(hrow2.cell keyRow_len (j:=3) (u:=nm K[i].since) hiL rfl); have hdd:decide ((0:Int) ≤ -1)=false:=by decide
    go_wp2_with fail
    refine(inb_any _ _ _ _).mono ?_; rintro e w3 ⟨rfl,hw3⟩; have hw4:=hw3.symm; subst hw4; clear hrow hi hany hpi hlo hi2 hany2 hret HP HA hown hB hM hMt hrow2; unfold nm at cS cT; obtain⟨cS,cSf⟩:=cS; obtain⟨cT,cTf⟩:=cT; obtain⟨s1,hs1⟩:∃ x,K[i].state=x:=⟨_,rfl⟩; obtain⟨s2,hs2⟩:∃ x,K[i].since=x:=⟨_,rfl⟩; rw [hs1] at cS; rw [hs2] at cT; clear hs1 hs2; have HK:Hid ((∀ (w':World) (k:Nat) (u:Value),(w'.cell? ⟨gl,4,none⟩=some (.slice (some ⟨g,0,none⟩) K.length c)∧w'.cell? ⟨w.heap.size,1,none⟩=some (.int .i64 o.n))→(w'.setCell ⟨g,k,none⟩ u).cell? ⟨gl,4,none⟩=some (.slice (some ⟨g,0,none⟩) K.length c)∧(w'.setCell ⟨g,k,none⟩ u).cell? ⟨w.heap.size,1,none⟩=some (.int .i64 o.n))∧(∀ (w':World),(w'.cell? ⟨gl,4,none⟩=some (.slice (some ⟨g,0,none⟩) K.length c)∧w'.cell? ⟨w.heap.size,1,none⟩=some (.int .i64 o.n))→w'.drew.cell? ⟨gl,4,none⟩=some (.slice (some ⟨g,0,none⟩) K.length c)∧w'.drew.cell? ⟨w.heap.size,1,none⟩=some (.int .i64 o.n))) :=
     Lib.hid ⟨fun w' k u h=>⟨(setc_far _ _ _ _ hgg.symm).trans h.1,(setc_far _ _ _ _ (by omega)).trans h.2⟩,fun w' h=>h⟩
    go_upto_region 8 with fail
    go_region_held3 (fun w'=>w'.cell? ⟨gl,4,none⟩=some (.slice (some ⟨g,0,none⟩) K.length c)∧w'.cell? ⟨w.heap.size,1,none⟩=some (.int .i64 o.n)) (first|exact HK.out.1 _ _ _ ⟨by assumption,by assumption⟩|exact HK.out.1 _ _ _ (by assumption)|exact HK.out.2 _ (HK.out.1 _ _ _ ⟨by assumption,by assumption⟩)|exact HK.out.2 _ (HK.out.1 _ _ _ (by assumption))|go_keep) (fail)
    go_wp2_with fail
    go_ret; obtain⟨f1,f2,f3,_⟩:=HF.out; refine HR.out _ ?_; rw [HM.out]; exact f2.slot hbg hnc hcm f1 f3 h4
   ·have e:=HA.out.symm.trans hi2
    subst e; have hii:i≠i2:=fun e=>by
     subst e; rw [beq_iff_eq] at hpi hpi2; omega
    obtain⟨K1,hK1⟩:∃ K1,K.set i2 { K[i2] with state:=3,since:=o.n }=K1:=⟨_,rfl⟩; have hret:retire o.n K=K1:=(modP_at (p:=fun j:Led.Key=>j.state==2) (f:=fun j=>{ j with state:=3,since:=o.n }) hiL2 hlo2 hpi2).trans hK1; have hKl:K1.length=K.length:=by rw [← hK1,List.length_set]
    have hiL1:i<K1.length:=by omega
    have hpi1:(K1[i].state==1)=true:=by
     have:K1[i]=K[i]:=by
      simp only [← hK1]; exact List.getElem_set_ne (Ne.symm hii) _
     rw [this]; exact hpi
    have hlo1:∀ x∈K1.take i,(x.state==1)=false:=by
     intro x hx; rw [← hK1] at hx; rcases List.mem_or_eq_of_mem_set (by rw [List.take_set] at hx; exact hx) with h|h
     ·exact hlo x h
     ·subst h
      rfl
    have F3:=Lib.hid (keys_two 3 o.n (grown_of_below hbw2) hrow2 hbl2 hgg hiL2); have HM:=Lib.hid (modP_at (p:=fun j:Led.Key=>j.state==1) (f:=fun j=>{ j with state:=2,since:=o.n }) hiL1 hlo1 hpi1); rw [hret] at HR; rw [hK1] at F3; have hia:0≤(i2:Int):=by omega
    have hib:¬ ((i2:Int)<0):=by omega
    have hic:(i2:Int)<(K.length:Int):=by omega
    have HK1:=Lib.hid (And.intro hKl hiL1); clear hlo1 hpi1 hii hret hK1 hlo2 hpi2; have cS:=(hrow2.cell keyRow_len (j:=2) (u:=nm K[i2].state) hiL2 rfl); have cT:=(hrow2.cell keyRow_len (j:=3) (u:=nm K[i2].since) hiL2 rfl); go_wp2_with fail
    refine(inb_any _ _ _ _).mono ?_; rintro e w3 ⟨rfl,hw3⟩; have hw4:=hw3.symm; subst hw4; clear hrow hi hany hpi hlo hi2 hany2 HP HA hown hB hM hMt; unfold nm at cS cT; obtain⟨cS,cSf⟩:=cS; obtain⟨cT,cTf⟩:=cT; obtain⟨s1,hs1⟩:∃ x,K[i2].state=x:=⟨_,rfl⟩; obtain⟨s2,hs2⟩:∃ x,K[i2].since=x:=⟨_,rfl⟩; rw [hs1] at cS; rw [hs2] at cT; clear hs1 hs2; have HK:Hid ((∀ (w':World) (k:Nat) (u:Value),(w'.cell? ⟨gl,4,none⟩=some (.slice (some ⟨g,0,none⟩) K.length c)∧w'.cell? ⟨w.heap.size,1,none⟩=some (.int .i64 o.n))→(w'.setCell ⟨g,k,none⟩ u).cell? ⟨gl,4,none⟩=some (.slice (some ⟨g,0,none⟩) K.length c)∧(w'.setCell ⟨g,k,none⟩ u).cell? ⟨w.heap.size,1,none⟩=some (.int .i64 o.n))∧(∀ (w':World),(w'.cell? ⟨gl,4,none⟩=some (.slice (some ⟨g,0,none⟩) K.length c)∧w'.cell? ⟨w.heap.size,1,none⟩=some (.int .i64 o.n))→w'.drew.cell? ⟨gl,4,none⟩=some (.slice (some ⟨g,0,none⟩) K.length c)∧w'.drew.cell? ⟨w.heap.size,1,none⟩=some (.int .i64 o.n))) :=
     Lib.hid ⟨fun w' k u h=>⟨(setc_far _ _ _ _ hgg.symm).trans h.1,(setc_far _ _ _ _ (by omega)).trans h.2⟩,fun w' h=>h⟩
    go_upto_region 7 with fail
    go_region_held3 (fun w'=>w'.cell? ⟨gl,4,none⟩=some (.slice (some ⟨g,0,none⟩) K.length c)∧w'.cell? ⟨w.heap.size,1,none⟩=some (.int .i64 o.n)) (first|exact HK.out.1 _ _ _ ⟨by assumption,by assumption⟩|exact HK.out.1 _ _ _ (by assumption)|exact HK.out.2 _ (HK.out.1 _ _ _ ⟨by assumption,by assumption⟩)|exact HK.out.2 _ (HK.out.1 _ _ _ (by assumption))|go_keep) (fail)
    obtain⟨w3,hw3e⟩:∃ w3,((w2.setCell ⟨g,i2 * 4+2,none⟩ (nm 3)).setCell ⟨g,i2 * 4+3,none⟩ (nm o.n)).drew=w3:=⟨_,rfl⟩; rw [hw3e] at F3; obtain⟨f1,f2,f3,f4⟩:=F3.out; have b3:=f4 _ _ _ (by omega) b2; have c3:w3.cell? ⟨w.heap.size,1,none⟩=some (.int .i64 o.n):=b3.cell 1; have cK3:w3.cell? ⟨gl,4,none⟩=some (.slice (some ⟨g,0,none⟩) K.length c):=(f3.cell 4).trans h4; have HF:=Lib.hid (keys_two 2 o.n f1 f2 f3 hgg hiL1); have cS:=(f2.cell keyRow_len (j:=2) (u:=nm K1[i].state) hiL1 rfl); have cT:=(f2.cell keyRow_len (j:=3) (u:=nm K1[i].since) hiL1 rfl); clear f1 f2 f4 F3; have HE:Hid (_):=Lib.hid hw3e; clear hw3e; unfold nm at cS cT; obtain⟨cS,cSf⟩:=cS; obtain⟨cT,cTf⟩:=cT; obtain⟨s1,hs1⟩:∃ x,K1[i].state=x:=⟨_,rfl⟩; obtain⟨s2,hs2⟩:∃ x,K1[i].since=x:=⟨_,rfl⟩; rw [hs1] at cS; rw [hs2] at cT; clear hs1 hs2; rw [show ((w2.setCell ⟨g,i2 * 4+2,none⟩ (.int .i64 3)).setCell ⟨g,i2 * 4+3,none⟩ (.int .i64 o.n)).drew=w3 from HE.out]; clear HE; go_upto_region 8 with fail
    go_region_held3 (fun w'=>w'.cell? ⟨gl,4,none⟩=some (.slice (some ⟨g,0,none⟩) K.length c)∧w'.cell? ⟨w.heap.size,1,none⟩=some (.int .i64 o.n)) (first|exact HK.out.1 _ _ _ ⟨by assumption,by assumption⟩|exact HK.out.1 _ _ _ (by assumption)|exact HK.out.2 _ (HK.out.1 _ _ _ ⟨by assumption,by assumption⟩)|exact HK.out.2 _ (HK.out.1 _ _ _ (by assumption))|go_keep) (fail)
    go_wp2_with fail
    go_ret; obtain⟨f1,f2,f3,_⟩:=HF.out; refine HR.out _ ?_; rw [HM.out]; exact f2.slot hbg hnc hcm f1 f3 h4
end
section
open Go.RowKit Mem Led
def Cloned (xs:List Value) (e:TypeId) (k n:Nat) (w:World) (x:Ending) (w':World):Prop:=∃ v',x=.returned v'∧w'.ownsRow w.heap.size e k v' n xs∧Below w.heap.size w w'
theorem clnEnt_any(A:Option Addr) (n c:Nat) (xs:List Value) (w:World) (h:Vs w w.heap.size 5 A n xs) (hn:n≤1000) (hA:A=none→n=0) (h1:∀ u∈xs,u.oneCell'=true) :
  Calls Tryz.prog 57 #[.slice A n c] w (Cloned xs 36 5 n w):=by
 cases A with
 | none =>
  have hn0:=hA rfl; subst hn0; have hxs:xs=[]:=List.eq_nil_of_length_eq_zero (by have:=h.len; simpa using this)
  subst hxs; have e0:∀ W,(Go.binOp .eql 23 (.slice none 0 c) (.slice none 0 0)).run Tryz.prog W=.ok (.bool true) W:=fun W=>Lib.run_eql_slice_nil W _ _ _ _ _ _ _ Tryz.underlying23; go_enter Tryz.func57,Tryz.ntmps57
  go_wp2; go_ret; exact⟨_,rfl,⟨rfl,.inl ⟨rfl,rfl⟩⟩,Below.refl _ _⟩
 | some ad =>
  obtain⟨iT,hiT,hzT,hsT,hbT⟩:=info_parts infoEnt; have e0:∀ W,(Go.binOp .eql 23 (.slice (some ad) n c) (.slice none 0 0)).run Tryz.prog W=.ok (.bool false) W:=fun W=>Lib.run_eql_slice_nil W _ _ _ _ _ _ _ Tryz.underlying23; obtain⟨W,hW⟩:∃ W,w.alloc (.cells #[] 36)=W:=⟨_,rfl⟩; have hown:W.ownsRow w.heap.size 36 5 (.slice (some ⟨w.heap.size,0,none⟩) 0 0) 0 []:=by rw [← hW]; exact World.ownsRow_made w #[] 0 (Nat.le_refl _) (Nat.zero_le _) (by simp)
  have hbW:Below w.heap.size w W:=by rw [← hW]; exact(Below.refl _ _).alloc (Nat.le_refl _) _
  obtain⟨v',w',hrun,hown',hg,hb⟩:=run_append (P:=Tryz.prog) W w.heap.size 23 23 36 iT _ 5 72 Tryz.underlying23 hiT hzT hsT hbT rfl (by omega) _ 0 _ hown w.heap.size (some ad) n c xs (h.below hbW) h1 (by unfold maxLen; omega) (by omega) hbW.size
  have HRES:Hid (Cloned xs 36 5 n w (.returned v') w'):=Lib.hid ⟨v',rfl,by simpa using hown',Mem.below_grown hbW hg hbW.size hown (Nat.le_refl _)⟩; rw [← hW] at hrun; clear hown hown' hg hb h h1 hA hbW hW; go_enter Tryz.func57,Tryz.ntmps57
  go_wp2_with (at_builtin; refine Lib.wpList_append_run _ rfl _ _ _ _ rfl _ _ rfl rfl _ _ hrun ?_)
  go_ret; exact HRES.out
theorem clnNod_any(A:Option Addr) (n c:Nat) (xs:List Value) (w:World) (h:Vs w w.heap.size 5 A n xs) (hn:n≤1000) (hA:A=none→n=0) (h1:∀ u∈xs,u.oneCell'=true) :
  Calls Tryz.prog 58 #[.slice A n c] w (Cloned xs 40 5 n w):=by
 cases A with
 | none =>
  have hn0:=hA rfl; subst hn0; have hxs:xs=[]:=List.eq_nil_of_length_eq_zero (by have:=h.len; simpa using this)
  subst hxs; have e0:∀ W,(Go.binOp .eql 24 (.slice none 0 c) (.slice none 0 0)).run Tryz.prog W=.ok (.bool true) W:=fun W=>Lib.run_eql_slice_nil W _ _ _ _ _ _ _ Tryz.underlying24; go_enter Tryz.func58,Tryz.ntmps58
  go_wp2; go_ret; exact⟨_,rfl,⟨rfl,.inl ⟨rfl,rfl⟩⟩,Below.refl _ _⟩
 | some ad =>
  obtain⟨iT,hiT,hzT,hsT,hbT⟩:=info_parts infoNod; have e0:∀ W,(Go.binOp .eql 24 (.slice (some ad) n c) (.slice none 0 0)).run Tryz.prog W=.ok (.bool false) W:=fun W=>Lib.run_eql_slice_nil W _ _ _ _ _ _ _ Tryz.underlying24; obtain⟨W,hW⟩:∃ W,w.alloc (.cells #[] 40)=W:=⟨_,rfl⟩; have hown:W.ownsRow w.heap.size 40 5 (.slice (some ⟨w.heap.size,0,none⟩) 0 0) 0 []:=by rw [← hW]; exact World.ownsRow_made w #[] 0 (Nat.le_refl _) (Nat.zero_le _) (by simp)
  have hbW:Below w.heap.size w W:=by rw [← hW]; exact(Below.refl _ _).alloc (Nat.le_refl _) _
  obtain⟨v',w',hrun,hown',hg,hb⟩:=run_append (P:=Tryz.prog) W w.heap.size 24 24 40 iT _ 5 64 Tryz.underlying24 hiT hzT hsT hbT rfl (by omega) _ 0 _ hown w.heap.size (some ad) n c xs (h.below hbW) h1 (by unfold maxLen; omega) (by omega) hbW.size
  have HRES:Hid (Cloned xs 40 5 n w (.returned v') w'):=Lib.hid ⟨v',rfl,by simpa using hown',Mem.below_grown hbW hg hbW.size hown (Nat.le_refl _)⟩; rw [← hW] at hrun; clear hown hown' hg hb h h1 hA hbW hW; go_enter Tryz.func58,Tryz.ntmps58
  go_wp2_with (at_builtin; refine Lib.wpList_append_run _ rfl _ _ _ _ rfl _ _ rfl rfl _ _ hrun ?_)
  go_ret; exact HRES.out
theorem clnJoi_any(A:Option Addr) (n c:Nat) (xs:List Value) (w:World) (h:Vs w w.heap.size 4 A n xs) (hn:n≤1000) (hA:A=none→n=0) (h1:∀ u∈xs,u.oneCell'=true) :
  Calls Tryz.prog 59 #[.slice A n c] w (Cloned xs 38 4 n w):=by
 cases A with
 | none =>
  have hn0:=hA rfl; subst hn0; have hxs:xs=[]:=List.eq_nil_of_length_eq_zero (by have:=h.len; simpa using this)
  subst hxs; have e0:∀ W,(Go.binOp .eql 26 (.slice none 0 c) (.slice none 0 0)).run Tryz.prog W=.ok (.bool true) W:=fun W=>Lib.run_eql_slice_nil W _ _ _ _ _ _ _ Tryz.underlying26; go_enter Tryz.func59,Tryz.ntmps59
  go_wp2; go_ret; exact⟨_,rfl,⟨rfl,.inl ⟨rfl,rfl⟩⟩,Below.refl _ _⟩
 | some ad =>
  obtain⟨iT,hiT,hzT,hsT,hbT⟩:=info_parts infoJoi; have e0:∀ W,(Go.binOp .eql 26 (.slice (some ad) n c) (.slice none 0 0)).run Tryz.prog W=.ok (.bool false) W:=fun W=>Lib.run_eql_slice_nil W _ _ _ _ _ _ _ Tryz.underlying26; obtain⟨W,hW⟩:∃ W,w.alloc (.cells #[] 38)=W:=⟨_,rfl⟩; have hown:W.ownsRow w.heap.size 38 4 (.slice (some ⟨w.heap.size,0,none⟩) 0 0) 0 []:=by rw [← hW]; exact World.ownsRow_made w #[] 0 (Nat.le_refl _) (Nat.zero_le _) (by simp)
  have hbW:Below w.heap.size w W:=by rw [← hW]; exact(Below.refl _ _).alloc (Nat.le_refl _) _
  obtain⟨v',w',hrun,hown',hg,hb⟩:=run_append (P:=Tryz.prog) W w.heap.size 26 26 38 iT _ 4 48 Tryz.underlying26 hiT hzT hsT hbT rfl (by omega) _ 0 _ hown w.heap.size (some ad) n c xs (h.below hbW) h1 (by unfold maxLen; omega) (by omega) hbW.size
  have HRES:Hid (Cloned xs 38 4 n w (.returned v') w'):=Lib.hid ⟨v',rfl,by simpa using hown',Mem.below_grown hbW hg hbW.size hown (Nat.le_refl _)⟩; rw [← hW] at hrun; clear hown hown' hg hb h h1 hA hbW hW; go_enter Tryz.func59,Tryz.ntmps59
  go_wp2_with (at_builtin; refine Lib.wpList_append_run _ rfl _ _ _ _ rfl _ _ rfl rfl _ _ hrun ?_)
  go_ret; exact HRES.out
theorem clnKey_any(A:Option Addr) (n c:Nat) (xs:List Value) (w:World) (h:Vs w w.heap.size 4 A n xs) (hn:n≤1000) (hA:A=none→n=0) (h1:∀ u∈xs,u.oneCell'=true) :
  Calls Tryz.prog 60 #[.slice A n c] w (Cloned xs 42 4 n w):=by
 cases A with
 | none =>
  have hn0:=hA rfl; subst hn0; have hxs:xs=[]:=List.eq_nil_of_length_eq_zero (by have:=h.len; simpa using this)
  subst hxs; have e0:∀ W,(Go.binOp .eql 27 (.slice none 0 c) (.slice none 0 0)).run Tryz.prog W=.ok (.bool true) W:=fun W=>Lib.run_eql_slice_nil W _ _ _ _ _ _ _ Tryz.underlying27; go_enter Tryz.func60,Tryz.ntmps60
  go_wp2; go_ret; exact⟨_,rfl,⟨rfl,.inl ⟨rfl,rfl⟩⟩,Below.refl _ _⟩
 | some ad =>
  obtain⟨iT,hiT,hzT,hsT,hbT⟩:=info_parts infoKey; have e0:∀ W,(Go.binOp .eql 27 (.slice (some ad) n c) (.slice none 0 0)).run Tryz.prog W=.ok (.bool false) W:=fun W=>Lib.run_eql_slice_nil W _ _ _ _ _ _ _ Tryz.underlying27; obtain⟨W,hW⟩:∃ W,w.alloc (.cells #[] 42)=W:=⟨_,rfl⟩; have hown:W.ownsRow w.heap.size 42 4 (.slice (some ⟨w.heap.size,0,none⟩) 0 0) 0 []:=by rw [← hW]; exact World.ownsRow_made w #[] 0 (Nat.le_refl _) (Nat.zero_le _) (by simp)
  have hbW:Below w.heap.size w W:=by rw [← hW]; exact(Below.refl _ _).alloc (Nat.le_refl _) _
  obtain⟨v',w',hrun,hown',hg,hb⟩:=run_append (P:=Tryz.prog) W w.heap.size 27 27 42 iT _ 4 48 Tryz.underlying27 hiT hzT hsT hbT rfl (by omega) _ 0 _ hown w.heap.size (some ad) n c xs (h.below hbW) h1 (by unfold maxLen; omega) (by omega) hbW.size
  have HRES:Hid (Cloned xs 42 4 n w (.returned v') w'):=Lib.hid ⟨v',rfl,by simpa using hown',Mem.below_grown hbW hg hbW.size hown (Nat.le_refl _)⟩; rw [← hW] at hrun; clear hown hown' hg hb h h1 hA hbW hW; go_enter Tryz.func60,Tryz.ntmps60
  go_wp2_with (at_builtin; refine Lib.wpList_append_run _ rfl _ _ _ _ rfl _ _ rfl rfl _ _ hrun ?_)
  go_ret; exact HRES.out
theorem clnBun_any(A:Option Addr) (n c:Nat) (xs:List Value) (w:World) (h:Vs w w.heap.size 3 A n xs) (hn:n≤1000) (hA:A=none→n=0) (h1:∀ u∈xs,u.oneCell'=true) :
  Calls Tryz.prog 61 #[.slice A n c] w (Cloned xs 45 3 n w):=by
 cases A with
 | none =>
  have hn0:=hA rfl; subst hn0; have hxs:xs=[]:=List.eq_nil_of_length_eq_zero (by have:=h.len; simpa using this)
  subst hxs; have e0:∀ W,(Go.binOp .eql 28 (.slice none 0 c) (.slice none 0 0)).run Tryz.prog W=.ok (.bool true) W:=fun W=>Lib.run_eql_slice_nil W _ _ _ _ _ _ _ Tryz.underlying28; go_enter Tryz.func61,Tryz.ntmps61
  go_wp2; go_ret; exact⟨_,rfl,⟨rfl,.inl ⟨rfl,rfl⟩⟩,Below.refl _ _⟩
 | some ad =>
  obtain⟨iT,hiT,hzT,hsT,hbT⟩:=info_parts infoBun; have e0:∀ W,(Go.binOp .eql 28 (.slice (some ad) n c) (.slice none 0 0)).run Tryz.prog W=.ok (.bool false) W:=fun W=>Lib.run_eql_slice_nil W _ _ _ _ _ _ _ Tryz.underlying28; obtain⟨W,hW⟩:∃ W,w.alloc (.cells #[] 45)=W:=⟨_,rfl⟩; have hown:W.ownsRow w.heap.size 45 3 (.slice (some ⟨w.heap.size,0,none⟩) 0 0) 0 []:=by rw [← hW]; exact World.ownsRow_made w #[] 0 (Nat.le_refl _) (Nat.zero_le _) (by simp)
  have hbW:Below w.heap.size w W:=by rw [← hW]; exact(Below.refl _ _).alloc (Nat.le_refl _) _
  obtain⟨v',w',hrun,hown',hg,hb⟩:=run_append (P:=Tryz.prog) W w.heap.size 28 28 45 iT _ 3 48 Tryz.underlying28 hiT hzT hsT hbT rfl (by omega) _ 0 _ hown w.heap.size (some ad) n c xs (h.below hbW) h1 (by unfold maxLen; omega) (by omega) hbW.size
  have HRES:Hid (Cloned xs 45 3 n w (.returned v') w'):=Lib.hid ⟨v',rfl,by simpa using hown',Mem.below_grown hbW hg hbW.size hown (Nat.le_refl _)⟩; rw [← hW] at hrun; clear hown hown' hg hb h h1 hA hbW hW; go_enter Tryz.func61,Tryz.ntmps61
  go_wp2_with (at_builtin; refine Lib.wpList_append_run _ rfl _ _ _ _ rfl _ _ rfl rfl _ _ hrun ?_)
  go_ret; exact HRES.out
theorem clnStr_any(A:Option Addr) (n c:Nat) (xs:List Value) (w:World) (h:Vs w w.heap.size 1 A n xs) (hn:n≤1000) (hA:A=none→n=0) (h1:∀ u∈xs,u.oneCell'=true) :
  Calls Tryz.prog 28 #[.slice A n c] w (Cloned xs 9 1 n w):=by
 cases A with
 | none =>
  have hn0:=hA rfl; subst hn0; have hxs:xs=[]:=List.eq_nil_of_length_eq_zero (by have:=h.len; simpa using this)
  subst hxs; have e0:∀ W,(Go.binOp .eql 25 (.slice none 0 c) (.slice none 0 0)).run Tryz.prog W=.ok (.bool true) W:=fun W=>Lib.run_eql_slice_nil W _ _ _ _ _ _ _ Tryz.underlying25; go_enter Tryz.func28,Tryz.ntmps28
  go_wp2; go_ret; exact⟨_,rfl,⟨rfl,.inl ⟨rfl,rfl⟩⟩,Below.refl _ _⟩
 | some ad =>
  obtain⟨iT,hiT,hzT,hsT,hbT⟩:=info_parts infoStr; have e0:∀ W,(Go.binOp .eql 25 (.slice (some ad) n c) (.slice none 0 0)).run Tryz.prog W=.ok (.bool false) W:=fun W=>Lib.run_eql_slice_nil W _ _ _ _ _ _ _ Tryz.underlying25; obtain⟨W,hW⟩:∃ W,w.alloc (.cells #[] 9)=W:=⟨_,rfl⟩; have hown:W.ownsRow w.heap.size 9 1 (.slice (some ⟨w.heap.size,0,none⟩) 0 0) 0 []:=by rw [← hW]; exact World.ownsRow_made w #[] 0 (Nat.le_refl _) (Nat.zero_le _) (by simp)
  have hbW:Below w.heap.size w W:=by rw [← hW]; exact(Below.refl _ _).alloc (Nat.le_refl _) _
  obtain⟨v',w',hrun,hown',hg,hb⟩:=run_append (P:=Tryz.prog) W w.heap.size 25 25 9 iT _ 1 16 Tryz.underlying25 hiT hzT hsT hbT rfl (by omega) _ 0 _ hown w.heap.size (some ad) n c xs (h.below hbW) h1 (by unfold maxLen; omega) (by omega) hbW.size
  have HRES:Hid (Cloned xs 9 1 n w (.returned v') w'):=Lib.hid ⟨v',rfl,by simpa using hown',Mem.below_grown hbW hg hbW.size hown (Nat.le_refl _)⟩; rw [← hW] at hrun; clear hown hown' hg hb h h1 hA hbW hW; go_enter Tryz.func28,Tryz.ntmps28
  go_wp2_with (at_builtin; refine Lib.wpList_append_run _ rfl _ _ _ _ rfl _ _ rfl rfl _ _ hrun ?_)
  go_ret; exact HRES.out
theorem infoJwk:(Tryz.prog.info? 54).map (fun i=>(i.zero,i.size,i.bytes))=some (some (.agg #[.string ⟨#[]⟩,.string ⟨#[]⟩]),2,32):=by kernel_rfl
theorem clnJwk_any(A:Option Addr) (n c:Nat) (xs:List Value) (w:World) (h:Vs w w.heap.size 2 A n xs) (hn:n≤1000) (hA:A=none→n=0) (h1:∀ u∈xs,u.oneCell'=true) :
  Calls Tryz.prog 29 #[.slice A n c] w (Cloned xs 54 2 n w):=by
 cases A with
 | none =>
  have hn0:=hA rfl; subst hn0; have hxs:xs=[]:=List.eq_nil_of_length_eq_zero (by have:=h.len; simpa using this)
  subst hxs; have e0:∀ W,(Go.binOp .eql 43 (.slice none 0 c) (.slice none 0 0)).run Tryz.prog W=.ok (.bool true) W:=fun W=>Lib.run_eql_slice_nil W _ _ _ _ _ _ _ Tryz.underlying43; go_enter Tryz.func29,Tryz.ntmps29
  go_wp2; go_ret; exact⟨_,rfl,⟨rfl,.inl ⟨rfl,rfl⟩⟩,Below.refl _ _⟩
 | some ad =>
  obtain⟨iT,hiT,hzT,hsT,hbT⟩:=info_parts infoJwk; have e0:∀ W,(Go.binOp .eql 43 (.slice (some ad) n c) (.slice none 0 0)).run Tryz.prog W=.ok (.bool false) W:=fun W=>Lib.run_eql_slice_nil W _ _ _ _ _ _ _ Tryz.underlying43; obtain⟨W,hW⟩:∃ W,w.alloc (.cells #[] 54)=W:=⟨_,rfl⟩; have hown:W.ownsRow w.heap.size 54 2 (.slice (some ⟨w.heap.size,0,none⟩) 0 0) 0 []:=by rw [← hW]; exact World.ownsRow_made w #[] 0 (Nat.le_refl _) (Nat.zero_le _) (by simp)
  have hbW:Below w.heap.size w W:=by rw [← hW]; exact(Below.refl _ _).alloc (Nat.le_refl _) _
  obtain⟨v',w',hrun,hown',hg,hb⟩:=run_append (P:=Tryz.prog) W w.heap.size 43 43 54 iT _ 2 32 Tryz.underlying43 hiT hzT hsT hbT rfl (by omega) _ 0 _ hown w.heap.size (some ad) n c xs (h.below hbW) h1 (by unfold maxLen; omega) (by omega) hbW.size
  have HRES:Hid (Cloned xs 54 2 n w (.returned v') w'):=Lib.hid ⟨v',rfl,by simpa using hown',Mem.below_grown hbW hg hbW.size hown (Nat.le_refl _)⟩; rw [← hW] at hrun; clear hown hown' hg hb h h1 hA hbW hW; go_enter Tryz.func29,Tryz.ntmps29
  go_wp2_with (at_builtin; refine Lib.wpList_append_run _ rfl _ _ _ _ rfl _ _ rfl rfl _ _ hrun ?_)
  go_ret; exact HRES.out
end
section
open Go.RowKit Mem Led
section
variable {w w':World} {b b' n n' k k':Nat} {e e':TypeId} {u v:Value} {xs ys:List Value}
theorem own_apart(h:w.ownsRow b e k u n xs) (h':w.ownsRow b' e' k' v n' ys) (he:e≠e'):Apart u v:=by
 rcases h.2 with⟨rfl,_⟩|⟨g,c,cur,rfl,_,hg,_⟩
 ·exact .inl rfl
 ·rcases h'.2 with⟨rfl,_⟩|⟨g',c',cur',rfl,_,hg',_⟩
  ·exact .inr (by simp [Value.ownBlock])
  ·refine .inr fun hh=>?_
   simp only [Value.ownBlock,Option.some.injEq] at hh; subst hh; rw [hg] at hg'; injection hg' with hg'
   injection hg' with _ h2 _
   exact he h2
theorem own_ne{g:Nat} {M:List Value} (h:w.ownsRow b e k u n xs) (h':Blk w g M e') (he:e≠e'):u.ownBlock≠some g:=by
 rcases h.2 with⟨rfl,_⟩|⟨g1,c,cur,rfl,_,hg,_⟩
 ·simp [Value.ownBlock]
 ·intro hh
  simp only [Value.ownBlock,Option.some.injEq] at hh; subst hh; unfold Blk at h'; rw [hg] at h'; injection h' with h'
  injection h' with _ h2 _
  exact he h2
theorem own_lt(h:w.ownsRow b e k u n xs) {g:Nat} (hg:u.ownBlock=some g):b≤g∧g<w.heap.size:=by
 rcases h.2 with⟨rfl,_⟩|⟨g1,c,cur,rfl,hb,hh,_⟩
 ·simp [Value.ownBlock] at hg
 ·simp only [Value.ownBlock,Option.some.injEq] at hg
  subst hg; exact⟨hb,(Array.getElem?_eq_some_iff.1 hh).1⟩
theorem own_vs(h:w.ownsRow b e k u n xs):∃ A c,u=.slice A n c∧Fit n c A∧Vs w w.heap.size k A n xs:=by
 rcases own_cases h with⟨rfl,rfl,rfl⟩|⟨g,c,M,rfl,_,hgl,hB,hn,hc,hM,hMt⟩
 ·exact⟨none,0,rfl,⟨Nat.le_refl _,by omega,fun _=>rfl⟩,Vs.empty _ _ _ _⟩
 ·refine⟨_,c,rfl,⟨hn,hc,fun h=>by cases h⟩,?_,?_⟩
  ·rw [← hMt,List.length_take,hM,Nat.min_eq_left (Nat.mul_le_mul_right _ hn)]
  ·intro j x hj
   refine⟨_,rfl,hgl,?_⟩; rw [zero_add_,hB.cell]; rw [← hMt] at hj; have:=List.getElem?_take (l:=M) (i:=n * k) (j:=j); rw [hj] at this; split at this
   ·exact this.symm
   ·cases this
theorem own_elems{α:Type} {enc:α→List Value} {L:List α} (h:w.ownsRow b e k u n (rows enc L)):ElemsAt enc k w u L:=by
 obtain⟨A,c,h1,h2,h3⟩:=own_vs h
 exact⟨A,n,c,h1,h2,h3⟩
theorem own_texts{L:List Txt} (h:w.ownsRow b e 1 u n (rows strRow L)):TextsAt w u L:=by
 obtain⟨A,c,h1,h2,_⟩:=own_vs h
 subst h1
 exact⟨A,n,c,rfl,h2,ts_own h⟩
theorem tv_rows(L:List Txt):rows strRow L=tv L:=by
 unfold rows tv strRow
 induction L with
 | nil=>rfl
 | cons a l ih=>simp only [List.map_cons,List.flatten_cons,ih]; rfl
end
theorem one_rows{α:Type} {enc:α→List Value} {L:List α} (h:∀ x∈L,∀ u∈enc x,u.oneCell'=true):∀ u∈rows enc L,u.oneCell'=true:=by
 intro u hu
 unfold rows at hu
 obtain⟨r,hr,hur⟩:=List.mem_flatten.1 hu
 obtain⟨y,hy,rfl⟩:=List.mem_map.1 hr
 exact h y hy u hur
structure Wk (base:Nat) (w:World) (vE vN vB vJ vK vU:Value) (L:Led.Ledger) (E:List (Led.Entry × Value)) (U:List (Led.Bundle × Value)):Prop where
 oE:w.ownsRow base 36 5 vE E.length (rows entRow E)
 oN:w.ownsRow base 40 5 vN L.nodes.length (rows nodeRow L.nodes)
 oB:w.ownsRow base 9 1 vB L.bans.length (rows strRow L.bans)
 oJ:w.ownsRow base 38 4 vJ L.joins.length (rows joinRow L.joins)
 oK:w.ownsRow base 42 4 vK L.keys.length (rows keyRow L.keys)
 oU:w.ownsRow base 45 3 vU U.length (rows bunRow U)
 ents:E.map Prod.fst=L.entries
 buns:U.map Prod.fst=L.bundles
 sels:∀ p∈E,w.ownsRow base 9 1 p.2 p.1.sels.length (rows strRow p.1.sels)∧Apart p.2 vB
 keyss:∀ p∈U,w.ownsRow base 54 2 p.2 p.1.keys.length (rows jwkRow p.1.keys)
section
variable {base:Nat} {w w':World} {vE vN vB vJ vK vU:Value} {L:Led.Ledger} {E:List (Led.Entry × Value)} {U:List (Led.Bundle × Value)}
theorem Wk.at(h:Wk base w vE vN vB vJ vK vU L E U):LgAt w [vE,vN,vB,vJ,vK,vU] L E U :=
 ⟨⟨vE,vN,vB,vJ,vK,vU,rfl,own_elems h.oE,own_elems h.oN,own_texts h.oB,own_elems h.oJ,own_elems h.oK,own_elems h.oU⟩,h.ents,h.buns,fun p hp=>own_texts (h.sels p hp).1,fun p hp=>own_elems (h.keyss p hp)⟩
theorem Wk.below(h:Wk base w vE vN vB vJ vK vU L E U) (hb:Below w.heap.size w w'):Wk base w' vE vN vB vJ vK vU L E U :=
 ⟨own_below h.oE hb (Nat.le_refl _),own_below h.oN hb (Nat.le_refl _),own_below h.oB hb (Nat.le_refl _),own_below h.oJ hb (Nat.le_refl _),own_below h.oK hb (Nat.le_refl _),own_below h.oU hb (Nat.le_refl _),h.ents,h.buns,
  fun p hp=>⟨own_below (h.sels p hp).1 hb (Nat.le_refl _),(h.sels p hp).2⟩,fun p hp=>own_below (h.keyss p hp) hb (Nat.le_refl _)⟩
theorem Wk.ones(h:Wk base w vE vN vB vJ vK vU L E U):∀ v∈[vE,vN,vB,vJ,vK,vU],v.oneCell'=true:=by
 have key:∀ {e:TypeId} {k n:Nat} {v:Value} {xs:List Value},w.ownsRow base e k v n xs→v.oneCell'=true:=fun hv=>by
  obtain⟨A,c,rfl,_⟩:=own_form hv; rfl
 intro v hv
 simp only [List.mem_cons,List.not_mem_nil,or_false] at hv
 rcases hv with rfl|rfl|rfl|rfl|rfl|rfl
 ·exact key h.oE
 ·exact key h.oN
 ·exact key h.oB
 ·exact key h.oJ
 ·exact key h.oK
 ·exact key h.oU
end
structure Led.Ledger.Small (L:Led.Ledger):Prop where
 e:L.entries.length≤1000
 n:L.nodes.length≤1000
 b:L.bans.length≤1000
 j:L.joins.length≤1000
 k:L.keys.length≤1000
 u:L.bundles.length≤1000
 s:∀ x∈L.entries,x.sels.length≤1000
 y:∀ x∈L.bundles,x.keys.length≤1000
theorem one_ent{w:World} {E:List (Led.Entry × Value)} (h:∀ p∈E,TextsAt w p.2 p.1.sels):∀ u∈rows entRow E,u.oneCell'=true:=one_rows fun p hp u hu=>by
 obtain⟨A,n,c,he,_⟩:=h p hp
 simp only [entRow,List.mem_cons,List.not_mem_nil,or_false] at hu
 rcases hu with rfl|rfl|rfl|rfl|rfl
 ·rfl
 ·rfl
 ·rfl
 ·rfl
 ·rw [he]; rfl
theorem one_bun{w:World} {U:List (Led.Bundle × Value)} (h:∀ p∈U,ElemsAt jwkRow 2 w p.2 p.1.keys):∀ u∈rows bunRow U,u.oneCell'=true:=one_rows fun p hp u hu=>by
 obtain⟨A,n,c,he,_⟩:=h p hp
 simp only [bunRow,List.mem_cons,List.not_mem_nil,or_false] at hu
 rcases hu with rfl|rfl|rfl
 ·rfl
 ·rfl
 ·rw [he]; rfl
theorem one_node(L:List Led.Node):∀ u∈rows nodeRow L,u.oneCell'=true:=one_rows fun p _ u hu=>by
 simp only [nodeRow,List.mem_cons,List.not_mem_nil,or_false] at hu
 rcases hu with rfl|rfl|rfl|rfl|rfl <;> rfl
theorem one_join(L:List Led.Join):∀ u∈rows joinRow L,u.oneCell'=true:=one_rows fun p _ u hu=>by
 simp only [joinRow,List.mem_cons,List.not_mem_nil,or_false] at hu
 rcases hu with rfl|rfl|rfl|rfl <;> rfl
theorem one_key(L:List Led.Key):∀ u∈rows keyRow L,u.oneCell'=true:=one_rows fun p _ u hu=>by
 simp only [keyRow,List.mem_cons,List.not_mem_nil,or_false] at hu
 rcases hu with rfl|rfl|rfl|rfl <;> rfl
theorem one_jwk(L:List Led.Jwk):∀ u∈rows jwkRow L,u.oneCell'=true:=one_rows fun p _ u hu=>by
 simp only [jwkRow,List.mem_cons,List.not_mem_nil,or_false] at hu
 rcases hu with rfl|rfl <;> rfl
theorem one_str(L:List Txt):∀ u∈rows strRow L,u.oneCell'=true:=one_rows fun p _ u hu=>by
 simp only [strRow,List.mem_cons,List.not_mem_nil,or_false] at hu
 subst hu
 rfl
end
section
open Go.RowKit Mem Led
structure OpV where
 o:Led.Op
 As:Option Addr
 ns:Nat
 cS:Nat
 Ak:Option Addr
 nk:Nat
 cK:Nat
def opvRow (x:OpV):List Value:=opCells x.o (.slice x.As x.ns x.cS) (.slice x.Ak x.nk x.cK)
theorem opvRow_len(x:OpV):(opvRow x).length=24:=rfl
def OpV.In (w:World) (x:OpV):Prop:=OpIn w x.o x.As x.ns x.cS x.Ak x.nk x.cK
theorem OpIn.below{w w':World} {o:Led.Op} {As:Option Addr} {ns cS:Nat} {Ak:Option Addr} {nk cK:Nat} (h:OpIn w o As ns cS Ak nk cK) (hb:Below w.heap.size w w'):OpIn w' o As ns cS Ak nk cK :=
 ⟨Ts.below h.sels hb,(Vs.below h.keys hb).mono hb.size,h.hs,h.hs',h.hk,h.hk',h.sized⟩
structure OpsIn (w:World) (A:Option Addr) (n:Nat) (L:List OpV):Prop where
 es:Es opvRow 24 w A n L
 each:∀ x∈L,x.In w
theorem OpsIn.len{w:World} {A:Option Addr} {n:Nat} {L:List OpV} (h:OpsIn w A n L):L.length=n:=h.es.len opvRow_len (by omega)
def noOpV:OpV:=⟨noOp,none,0,0,none,0,0⟩
theorem open_ops{H:Type} {enc:TypeId × Value→H} {W:World} {spare:Nat→Bool} {held:Bool} {fuel:Nat} {cs:List Value} {y:DataW H × List MemPlace}
  (h:DataW.trod enc Tryz.prog W 0 spare held fuel 22 cs=some y) :
  ∃ A n c L,cs=[.slice A n c]∧OpsIn W A n L∧n≤c∧c≤9223372036854775807:=by
 have co:Tryz.prog.cellsOf 47=24:=by kernel_rfl
 have h':Trod enc W spare held 22 cs:=⟨fuel,y,h⟩
 obtain⟨A,n,c,rfl,hn,hc,hx⟩:=h'.slice Tryz.underlying22
 obtain⟨L,hL,hLx⟩:=choose_all (α:=OpV) noOpV (n:=n) (q:=fun i x=>(∃ a,A=some a∧∀ j u,(opvRow x)[j]?=some u→W.cell? (a.add (i * 24+j))=some u)∧x.In W) (fun i hi=>by
  obtain⟨a,cs',e,_,hcell,ht⟩:=hx i hi; obtain⟨o,As,ns,cS,Ak,nk,cK,rfl,hin⟩:=open_op ht; rw [co] at hcell; exact⟨⟨o,As,ns,cS,Ak,nk,cK⟩,⟨a,e,hcell⟩,hin⟩)
 refine⟨A,n,c,L,rfl,⟨vs_of_slice opvRow opvRow_len hL (fun i hi=>(hLx i hi).1),fun x hx=>?_⟩,hn,hc⟩
 obtain⟨i,hi,rfl⟩:=List.getElem_of_mem hx
 exact(hLx i hi).2
theorem ldOp_es{w:World} {A:Option Addr} {n:Nat} {L:List OpV} (h:Es opvRow 24 w A n L) {i:Nat} (hi:i<L.length) :
  ∃ b off,A=some ⟨b,off,none⟩∧b<w.heap.size∧∀ w',Below w.heap.size w w'→(loadOp (.pointer (some ⟨b,off+i * 24,none⟩))).run Tryz.prog w'=.ok (.agg (opvRow L[i]).toArray) w' :=
 load_es Tryz.underlying47 rfl size_op opvRow_len (by omega) h hi
theorem cutv_any(x:OpV) (W:World) (h:x.In W) :
  Calls Tryz.prog 13 #[.agg (opvRow x).toArray] W fun e w'=>∃ A1 c1 A2 c2 KK,e=.returned (.agg (opCells (cutOp x.o KK) (.slice A1 (min x.ns 6) c1) (.slice A2 (min x.nk 9) c2)).toArray)∧min x.ns 6≤c1∧min x.nk 9≤c2 ∧
   w'.ownsRow W.heap.size 9 1 (.slice A1 (min x.ns 6) c1) (min x.ns 6) (tv ((cutOp x.o KK).entry.sels))∧w'.ownsRow W.heap.size 54 2 (.slice A2 (min x.nk 9) c2) (min x.nk 9) (jv (cutOp x.o KK).bundle.keys)∧KeysTo (fun x r=>r=Sha.nameOf x) (x.o.bundle.keys.take 9) KK∧Below W.heap.size W w':=by
 obtain⟨o,As,ns,cS,Ak,nk,cK⟩:=x
 have h:OpIn W o As ns cS Ak nk cK:=h
 have hs:=h.sized
 exact cut_go o.kind o.n o.name o.entry.n o.entry.path o.entry.parent o.entry.ttl o.join.text o.join.name o.join.expires o.join.used o.node.name o.node.key o.node.expires o.node.seq o.node.doc o.key.kid o.key.seed o.key.state o.key.since o.bundle.domain o.bundle.number As ns cS Ak nk cK o.entry.sels o.bundle.keys hs.name hs.epath hs.eparent hs.jtext hs.jname hs.nname hs.nkey hs.ndoc hs.kkid hs.kseed hs.bdom W h.sels hs.esel h.hs h.keys hs.bkey h.hk
end
section
open Go.RowKit Mem
end
section
open Go.RowKit Mem Led
def lgCells (v:Value):List Value:=[.slice none 0 0,.slice none 0 0,v,.slice none 0 0,.slice none 0 0,.slice none 0 0]
end
section
open Go.RowKit Mem Led
theorem size_ledger:(Tryz.prog.info? 30).map (·.size)=some 6:=by kernel_rfl
def loadLg (x:Value):Sem Value:=Instr.loadAt 30 x
def storeLg (x v:Value):Sem Unit:=Instr.storeAt 30 x v
theorem named_load_lg(x:Value):Instr.loadAt 30 x=loadLg x:=rfl
theorem named_store_lg(x v:Value):Instr.storeAt 30 x v=storeLg x v:=rfl
attribute [go_sem ↓] named_load_lg named_store_lg
theorem load_lg{w:World} {g:Nat} {cs:List Value} {t:TypeId} (h:Blk w g cs t) (hn:cs.length=6):(loadLg (.pointer (some ⟨g,0,none⟩))).run Tryz.prog w=.ok (.agg cs.toArray) w:=by
 have:=run_load_arr (P:=Tryz.prog) w 30 g 0 6 _ Tryz.underlying30 rfl size_ledger (h.has hn)
 rw [h.arr hn] at this
 exact this
theorem store_lg{w:World} {g:Nat} {cs vs:List Value} {t:TypeId} (h:Blk w g cs t) (hn:cs.length=6) (hv:vs.length=6) (h1:∀ v∈vs,v.oneCell'=true) :
  (storeLg (.pointer (some ⟨g,0,none⟩)) (.agg vs.toArray)).run Tryz.prog w=.ok () (w.setCells g 0 vs)∧Blk (w.setCells g 0 vs) g vs t:=by
 have h2:=run_store_arr (P:=Tryz.prog) w 30 g 0 6 size_ledger vs.toArray ⟨by simpa using hv,by simpa using h1⟩ (h.has hn) (fun j _=>h.froz _)
 have h3:=setCells_blk vs w g 0 cs t h (by omega)
 simp [hv,← hn] at h3
 exact⟨h2,h3⟩
end
section
open Go.RowKit Mem
def ents:Nat→List (Int × Value)→List MapEntry
 | _,[]=>[]
 | i,(k,v)::r=>{ key:=.int .i64 k,val:=v,born:=i }::ents (i+1) r
theorem ents_snoc:∀ (i:Nat) (l:List (Int × Value)) (k:Int) (v:Value),ents i (l++[(k,v)])=ents i l++[{ key:=.int .i64 k,val:=v,born:=i+l.length }]
 | i,[],k,v=>by simp [ents]
 | i,(k',v')::r,k,v=>by
  have ih:=ents_snoc (i+1) r k v; simp only [List.cons_append,ents,ih,List.length_cons]; congr 4
  omega
theorem findNow_ents(k:Int):∀ (i j:Nat) (l:List (Int × Value)),Instr.findNow (.int .i64) (.int .i64 k) (ents i l) j=some ((l.findIdx? fun p=>k==p.1).bind fun n=>l[n]?.map fun p=>(j+n,p.2))
 | i,j,[]=>rfl
 | i,j,(k',v')::r=>by
  have ih:=findNow_ents k (i+1) (j+1) r; simp only [ents,Instr.findNow,Instr.sameNow,if_true]; by_cases h:k=k'
  ·subst h
   simp [List.findIdx?_cons]
  ·have hb:(k==k')=false:=by simp [h]
   simp only [hb,ih,List.findIdx?_cons]; congr 1
   cases hq:List.findIdx? (fun p:Int × Value=>k==p.1) r with
   | none=>simp
   | some n=>simp [Nat.add_assoc,Nat.add_comm 1 n]
def mobj (l:List (Int × Value)):Obj:=.map (ents 0 l).toArray l.length
theorem push_set{α:Type} (a:Array α) (x y:α):(a.push x).setIfInBounds a.size y=a.push y:=by
 apply Array.ext
 ·simp
 ·intro i h1 h2
  have hi:i<a.size+1:=by simpa using h2
  rw [Array.getElem_setIfInBounds (by simpa using hi)]; by_cases h:a.size=i
  ·subst h
   simp
  ·rw [if_neg h,Array.getElem_push_lt (by omega),Array.getElem_push_lt (by omega)]
theorem run_insert_last{P:Program} (w:World) (l:List (Int × Value)) (k:Int) (v:Value) (t kt et:TypeId) (ht:P.underlying t=some (.map kt et)) (hk:P.underlying kt=some (.int .i64)) (hn:l.findIdx? (fun p=>k==p.1)=none) :
  (Instr.mapUpdate t (.map (some w.heap.size)) (.int .i64 k) v).run P (w.alloc (mobj l))=.ok () (w.alloc (mobj (l++[(k,v)]))):=by
 have hb:(w.alloc (mobj l)).heap[w.heap.size]?=some (.map (ents 0 l).toArray l.length):=heap_alloc_new w _
 have h1:=Go.MapKept.run_getObj_map (P:=P) hb
 have h2:=Go.MapKept.run_checkKey (P:=P) (w:=w.alloc (mobj l)) hk (k:=.int .i64 k) rfl false 9999
 have hf:Instr.findNow (.int .i64) (.int .i64 k) (ents 0 l) 0=some none:=by rw [findNow_ents,hn]; rfl
 have h3:=Go.MapKept.run_findKey (P:=P) (w:=w.alloc (mobj l)) hk hf
 have h4:=Go.MapKept.run_setObj_map (P:=P) (.map ((ents 0 l).toArray.push { key:=.int .i64 k,val:=v,born:=l.length }) (l.length+1)) hb
 have he:{ (w.alloc (mobj l)) with heap:=(w.alloc (mobj l)).heap.setIfInBounds w.heap.size (.map ((ents 0 l).toArray.push { key:=.int .i64 k,val:=v,born:=l.length }) (l.length+1)) }=w.alloc (mobj (l++[(k,v)])):=by
  unfold mobj; rw [ents_snoc]; show ({ heap:=(w.heap.push _).setIfInBounds w.heap.size _,tape:=w.tape,drawn:=w.drawn,os:=w.os,output:=w.output }:World)=_
  rw [push_set]; simp only [Nat.zero_add,List.push_toArray,List.length_append,List.length_cons,List.length_nil]; rfl
 rw [he] at h4
 unfold Instr.mapUpdate
 simp only [Sem.run_bind,run_underlying ht,Result.andThen_ok,h1,h2,h3,h4]
theorem run_look{P:Program} (w:World) (r:Nat) (l:List (Int × Value)) (k:Int) (t kt et:TypeId) (z:Value) (ht:P.underlying t=some (.map kt et)) (hk:P.underlying kt=some (.int .i64)) (hz:(zeroValue et).run P w=.ok z w) (hr:w.heap[r]?=some (mobj l)) :
  (Instr.lookup t (.map (some r)) (.int .i64 k) false).run P w=.ok (((l.findIdx? fun p=>k==p.1).bind fun n=>l[n]?.map fun p=>p.2).getD z) w:=by
 have h1:=Go.MapKept.run_getObj_map (P:=P) (w:=w) (r:=r) (es:=(ents 0 l).toArray) (clock:=l.length) hr
 have h2:=Go.MapKept.run_checkKey (P:=P) (w:=w) hk (k:=.int .i64 k) rfl (ents 0 l).toArray.isEmpty 9999
 have h3:=Go.MapKept.run_findKey (P:=P) (w:=w) hk (findNow_ents k 0 0 l)
 unfold Instr.lookup
 simp only [Sem.run_bind,run_underlying ht,Result.andThen_ok,h1,h2,h3,Sem.run_pure]
 cases hq:List.findIdx? (fun p:Int × Value=>k==p.1) l with
 | none=>simp [hz]
 | some n =>
  cases hn:l[n]? with
  | none=>simp [hz,hn]
  | some p=>simp [hn]
end
section
open Go.RowKit Mem
def doL:List (Int × Value):=[(1,.func (.func 42) #[] #[]),(2,.func (.func 43) #[] #[]),(3,.func (.func 44) #[] #[]),(4,.func (.func 45) #[] #[]),(5,.func (.func 46) #[] #[]),(6,.func (.func 47) #[] #[]),(7,.func (.func 48) #[] #[]),(8,.func (.func 49) #[] #[]),(9,.func (.func 50) #[] #[]),(10,.func (.func 51) #[] #[]),(11,.func (.func 52) #[] #[]),(12,.func (.func 53) #[] #[]),(13,.func (.func 54) #[] #[]),(14,.func (.func 55) #[] #[]),(101,.func (.func 56) #[] #[]),(103,.func (.func 56) #[] #[]),(105,.func (.func 56) #[] #[]),(106,.func (.func 56) #[] #[]),(109,.func (.func 56) #[] #[]),(112,.func (.func 56) #[] #[])]
def mo (j:Nat):Obj:=mobj (doL.take j)
theorem doers_any(w:World):Calls Tryz.prog 26 #[] w fun e w'=>e=.returned (.map (some w.heap.size))∧w'=w.alloc (mo 20):=by
 have hm:=@run_makeMap Tryz.prog
 have i0:(Instr.mapUpdate 73 (.map (some w.heap.size)) (.int .i64 1) (.func (.func 42) #[] #[])).run Tryz.prog (w.alloc (.map #[] 0))=.ok () (w.alloc (mo 1)):=run_insert_last (P:=Tryz.prog) w (doL.take 0) 1 (.func (.func 42) #[] #[]) _ _ _ Tryz.underlying73 Tryz.underlying3 rfl
 have i1:(Instr.mapUpdate 73 (.map (some w.heap.size)) (.int .i64 2) (.func (.func 43) #[] #[])).run Tryz.prog (w.alloc (mo 1))=.ok () (w.alloc (mo 2)):=run_insert_last (P:=Tryz.prog) w (doL.take 1) 2 (.func (.func 43) #[] #[]) _ _ _ Tryz.underlying73 Tryz.underlying3 rfl
 have i2:(Instr.mapUpdate 73 (.map (some w.heap.size)) (.int .i64 3) (.func (.func 44) #[] #[])).run Tryz.prog (w.alloc (mo 2))=.ok () (w.alloc (mo 3)):=run_insert_last (P:=Tryz.prog) w (doL.take 2) 3 (.func (.func 44) #[] #[]) _ _ _ Tryz.underlying73 Tryz.underlying3 rfl
 have i3:(Instr.mapUpdate 73 (.map (some w.heap.size)) (.int .i64 4) (.func (.func 45) #[] #[])).run Tryz.prog (w.alloc (mo 3))=.ok () (w.alloc (mo 4)):=run_insert_last (P:=Tryz.prog) w (doL.take 3) 4 (.func (.func 45) #[] #[]) _ _ _ Tryz.underlying73 Tryz.underlying3 rfl
 have i4:(Instr.mapUpdate 73 (.map (some w.heap.size)) (.int .i64 5) (.func (.func 46) #[] #[])).run Tryz.prog (w.alloc (mo 4))=.ok () (w.alloc (mo 5)):=run_insert_last (P:=Tryz.prog) w (doL.take 4) 5 (.func (.func 46) #[] #[]) _ _ _ Tryz.underlying73 Tryz.underlying3 rfl
 have i5:(Instr.mapUpdate 73 (.map (some w.heap.size)) (.int .i64 6) (.func (.func 47) #[] #[])).run Tryz.prog (w.alloc (mo 5))=.ok () (w.alloc (mo 6)):=run_insert_last (P:=Tryz.prog) w (doL.take 5) 6 (.func (.func 47) #[] #[]) _ _ _ Tryz.underlying73 Tryz.underlying3 rfl
 have i6:(Instr.mapUpdate 73 (.map (some w.heap.size)) (.int .i64 7) (.func (.func 48) #[] #[])).run Tryz.prog (w.alloc (mo 6))=.ok () (w.alloc (mo 7)):=run_insert_last (P:=Tryz.prog) w (doL.take 6) 7 (.func (.func 48) #[] #[]) _ _ _ Tryz.underlying73 Tryz.underlying3 rfl
 have i7:(Instr.mapUpdate 73 (.map (some w.heap.size)) (.int .i64 8) (.func (.func 49) #[] #[])).run Tryz.prog (w.alloc (mo 7))=.ok () (w.alloc (mo 8)):=run_insert_last (P:=Tryz.prog) w (doL.take 7) 8 (.func (.func 49) #[] #[]) _ _ _ Tryz.underlying73 Tryz.underlying3 rfl
 have i8:(Instr.mapUpdate 73 (.map (some w.heap.size)) (.int .i64 9) (.func (.func 50) #[] #[])).run Tryz.prog (w.alloc (mo 8))=.ok () (w.alloc (mo 9)):=run_insert_last (P:=Tryz.prog) w (doL.take 8) 9 (.func (.func 50) #[] #[]) _ _ _ Tryz.underlying73 Tryz.underlying3 rfl
 have i9:(Instr.mapUpdate 73 (.map (some w.heap.size)) (.int .i64 10) (.func (.func 51) #[] #[])).run Tryz.prog (w.alloc (mo 9))=.ok () (w.alloc (mo 10)):=run_insert_last (P:=Tryz.prog) w (doL.take 9) 10 (.func (.func 51) #[] #[]) _ _ _ Tryz.underlying73 Tryz.underlying3 rfl
 have i10:(Instr.mapUpdate 73 (.map (some w.heap.size)) (.int .i64 11) (.func (.func 52) #[] #[])).run Tryz.prog (w.alloc (mo 10))=.ok () (w.alloc (mo 11)):=run_insert_last (P:=Tryz.prog) w (doL.take 10) 11 (.func (.func 52) #[] #[]) _ _ _ Tryz.underlying73 Tryz.underlying3 rfl
 have i11:(Instr.mapUpdate 73 (.map (some w.heap.size)) (.int .i64 12) (.func (.func 53) #[] #[])).run Tryz.prog (w.alloc (mo 11))=.ok () (w.alloc (mo 12)):=run_insert_last (P:=Tryz.prog) w (doL.take 11) 12 (.func (.func 53) #[] #[]) _ _ _ Tryz.underlying73 Tryz.underlying3 rfl
 have i12:(Instr.mapUpdate 73 (.map (some w.heap.size)) (.int .i64 13) (.func (.func 54) #[] #[])).run Tryz.prog (w.alloc (mo 12))=.ok () (w.alloc (mo 13)):=run_insert_last (P:=Tryz.prog) w (doL.take 12) 13 (.func (.func 54) #[] #[]) _ _ _ Tryz.underlying73 Tryz.underlying3 rfl
 have i13:(Instr.mapUpdate 73 (.map (some w.heap.size)) (.int .i64 14) (.func (.func 55) #[] #[])).run Tryz.prog (w.alloc (mo 13))=.ok () (w.alloc (mo 14)):=run_insert_last (P:=Tryz.prog) w (doL.take 13) 14 (.func (.func 55) #[] #[]) _ _ _ Tryz.underlying73 Tryz.underlying3 rfl
 have i14:(Instr.mapUpdate 73 (.map (some w.heap.size)) (.int .i64 101) (.func (.func 56) #[] #[])).run Tryz.prog (w.alloc (mo 14))=.ok () (w.alloc (mo 15)):=run_insert_last (P:=Tryz.prog) w (doL.take 14) 101 (.func (.func 56) #[] #[]) _ _ _ Tryz.underlying73 Tryz.underlying3 rfl
 have i15:(Instr.mapUpdate 73 (.map (some w.heap.size)) (.int .i64 103) (.func (.func 56) #[] #[])).run Tryz.prog (w.alloc (mo 15))=.ok () (w.alloc (mo 16)):=run_insert_last (P:=Tryz.prog) w (doL.take 15) 103 (.func (.func 56) #[] #[]) _ _ _ Tryz.underlying73 Tryz.underlying3 rfl
 have i16:(Instr.mapUpdate 73 (.map (some w.heap.size)) (.int .i64 105) (.func (.func 56) #[] #[])).run Tryz.prog (w.alloc (mo 16))=.ok () (w.alloc (mo 17)):=run_insert_last (P:=Tryz.prog) w (doL.take 16) 105 (.func (.func 56) #[] #[]) _ _ _ Tryz.underlying73 Tryz.underlying3 rfl
 have i17:(Instr.mapUpdate 73 (.map (some w.heap.size)) (.int .i64 106) (.func (.func 56) #[] #[])).run Tryz.prog (w.alloc (mo 17))=.ok () (w.alloc (mo 18)):=run_insert_last (P:=Tryz.prog) w (doL.take 17) 106 (.func (.func 56) #[] #[]) _ _ _ Tryz.underlying73 Tryz.underlying3 rfl
 have i18:(Instr.mapUpdate 73 (.map (some w.heap.size)) (.int .i64 109) (.func (.func 56) #[] #[])).run Tryz.prog (w.alloc (mo 18))=.ok () (w.alloc (mo 19)):=run_insert_last (P:=Tryz.prog) w (doL.take 18) 109 (.func (.func 56) #[] #[]) _ _ _ Tryz.underlying73 Tryz.underlying3 rfl
 have i19:(Instr.mapUpdate 73 (.map (some w.heap.size)) (.int .i64 112) (.func (.func 56) #[] #[])).run Tryz.prog (w.alloc (mo 19))=.ok () (w.alloc (mo 20)):=run_insert_last (P:=Tryz.prog) w (doL.take 19) 112 (.func (.func 56) #[] #[]) _ _ _ Tryz.underlying73 Tryz.underlying3 rfl
 go_enter Tryz.func26,Tryz.ntmps26
 go_wp2
 go_ret
 exact⟨rfl,rfl⟩
end
section
open Go.RowKit Mem Led
theorem zero_doer(w:World):(zeroValue 72).run Tryz.prog w=.ok .nilFunc w:=by kernel_rfl
theorem look_doer(w:World) (K:Int) (F:FuncId) (hK:((doL.findIdx? fun p=>K==p.1).bind fun n=>doL[n]?.map fun p=>p.2)=some (.func (.func F) #[] #[])) :
  (Instr.lookup 73 (.map (some w.heap.size)) (.int .i64 K) false).run Tryz.prog (w.alloc (mo 20))=.ok (.func (.func F) #[] #[]) (w.alloc (mo 20)):=by
 have h:=run_look (P:=Tryz.prog) (w.alloc (mo 20)) w.heap.size (doL.take 20) K _ _ _ .nilFunc Tryz.underlying73 Tryz.underlying3 (zero_doer _) (heap_alloc_new w _)
 rw [show doL.take 20=doL from rfl,hK] at h
 exact h
end
section
open Go.RowKit Mem Led
theorem own_keep_chg{w w':World} {base g:Nat} {e:TypeId} {size n:Nat} {v:Value} {xs:List Value} (h:w.ownsRow base e size v n xs) (hc:Chg [g] w w') (hg:g<base):w'.ownsRow base e size v n xs:=by
 refine⟨h.1,?_⟩
 rcases h.2 with h2|⟨b,cap,cur,hv,hb,hh,r⟩
 ·exact .inl h2
 ·exact .inr ⟨b,cap,cur,hv,hb,by rw [hc.block b (Array.getElem?_eq_some_iff.1 hh).1 (by simp; omega)]; exact hh,r⟩
end
section
open Go.RowKit Mem Led
def InRow {α β:Type} (enc:α × Value→List Value) (k:Nat) (e ei:TypeId) (ki:Nat) (ienc:β→List Value) (sub:α→List β) (X:Value→Prop) (base:Nat) (v:Value) (E0:List (α × Value)) (j:Nat) (wr:World):Prop :=
 ∃ E':List (α × Value),E'.map Prod.fst=E0.map Prod.fst∧wr.ownsRow base e k v E0.length (rows enc E') ∧
  (∀ i,i<j→∀ p,E'[i]?=some p→wr.ownsRow base ei ki p.2 (sub p.1).length (rows ienc (sub p.1))∧X p.2)∧(∀ i,j≤i→E'[i]?=E0[i]?)
section
variable {α β:Type} {enc:α × Value→List Value} {k:Nat} {e ei:TypeId} {ki:Nat} {ienc:β→List Value} {sub:α→List β} {X:Value→Prop} {base:Nat} {v:Value} {E0:List (α × Value)} {j:Nat} {wr w':World}
theorem InRow.start(h:wr.ownsRow base e k v E0.length (rows enc E0)):InRow enc k e ei ki ienc sub X base v E0 0 wr :=
 ⟨E0,rfl,h,fun i hi=>absurd hi (Nat.not_lt_zero i),fun _ _=>rfl⟩
theorem InRow.below(h:InRow enc k e ei ki ienc sub X base v E0 j wr) (hb:Below wr.heap.size wr w'):InRow enc k e ei ki ienc sub X base v E0 j w':=by
 obtain⟨E',h1,h2,h3,h4⟩:=h
 exact⟨E',h1,own_below h2 hb (Nat.le_refl _),fun i hi p hp=>⟨own_below (h3 i hi p hp).1 hb (Nat.le_refl _),(h3 i hi p hp).2⟩,h4⟩
theorem InRow.other(h:InRow enc k e ei ki ienc sub X base v E0 j wr) {g o:Nat} {u:Value} {M:List Value} {e':TypeId} (hB:Blk wr g M e') (h1:e≠e') (h2:ei≠e'):InRow enc k e ei ki ienc sub X base v E0 j (wr.setCell ⟨g,o,none⟩ u):=by
 obtain⟨E',g1,g2,g3,g4⟩:=h
 exact⟨E',g1,own_at g2 (own_ne g2 hB h1),fun i hi p hp=>⟨own_at (g3 i hi p hp).1 (own_ne (g3 i hi p hp).1 hB h2),(g3 i hi p hp).2⟩,g4⟩
theorem InRow.step(hk:∀ x,(enc x).length=k) {f:Nat} (hf:f<k) (hset:∀ x u,enc (x.1,u)=(enc x).set f u) (hget:∀ x,(enc x)[f]?=some x.2) (hee:ei≠e) (h:InRow enc k e ei ki ienc sub X base v E0 j wr) (hj:j<E0.length) :
  ∃ g c,v=.slice (some ⟨g,0,none⟩) E0.length c∧base≤g∧g<wr.heap.size∧(∀ w',Below wr.heap.size wr w'→w'.cell? ⟨g,j * k+f,none⟩=some E0[j].2∧w'.frozen? ⟨g,j * k+f,none⟩=false∧∃ M,Blk w' g M e) ∧
   ∀ w' v9,Below wr.heap.size wr w'→w'.ownsRow base ei ki v9 (sub E0[j].1).length (rows ienc (sub E0[j].1))→X v9→InRow enc k e ei ki ienc sub X base v E0 (j+1) (w'.setCell ⟨g,j * k+f,none⟩ v9):=by
 obtain⟨E',h1,h2,h3,h4⟩:=h
 have hl:E'.length=E0.length:=by have:=congrArg List.length h1; simpa using this
 rcases own_cases h2 with⟨_,h0,_⟩|⟨g,c,M,rfl,hbg,hgw,hB,hnc,hcm,hM,hMt⟩
 ·omega
 have hj':j<E'.length:=by omega
 have hEj:E'[j]=E0[j]:=by
  have:=h4 j (Nat.le_refl _); rw [List.getElem?_eq_getElem hj',List.getElem?_eq_getElem hj] at this; exact Option.some.inj this
 have hr:RowAt enc k e g c E0.length wr E':=⟨hl,M,hB,hM,hMt⟩
 refine⟨g,c,rfl,hbg,hgw,fun w' hb=>?_,fun w' v9 hb ho hX=>?_⟩
 ·obtain⟨q1,q2⟩:=(hr.below hb).cell hk hj' (u:=E'[j].2) (hget _)
  rw [hEj] at q1; exact⟨q1,q2,M,hB.below hb⟩
 ·have hr':=(hr.below hb).turn hk (x':=(E'[j].1,v9)) (u:=v9) hj' hf (hset _ _)
  obtain⟨hl2,M2,hB2,hM2,hMt2⟩:=hr'; have hBb:=hB.below hb; refine⟨E'.set j (E'[j].1,v9),?_,own_of_row hbg hB2 hnc hcm hM2 hMt2,?_,?_⟩
  ·rw [← h1,List.map_set]
   apply List.ext_getElem?
   intro i; rw [List.getElem?_set]; split
   ·rename_i hij
    subst hij; simp [hj']
   ·rfl
  ·intro i hi p hp
   rw [List.getElem?_set] at hp; split at hp
   ·rename_i hij
    subst hij; simp only [Option.some.injEq] at hp; subst hp; rw [hEj]; exact⟨own_at ho (own_ne ho hBb hee),hX⟩
   ·rename_i hij
    obtain⟨q1,q2⟩:=h3 i (by omega) p hp; have q3:=own_below q1 hb (Nat.le_refl _); exact⟨own_at q3 (own_ne q3 hBb hee),q2⟩
  ·intro i hi
   rw [List.getElem?_set,if_neg (by omega)]; exact h4 i (by omega)
end
structure CS (w:World) (vE vN vB vJ vK vU:Value) (L:Led.Ledger) (wr:World):Prop where
 oN:wr.ownsRow (w.heap.size+2) 40 5 vN L.nodes.length (rows nodeRow L.nodes)
 oB:wr.ownsRow (w.heap.size+2) 9 1 vB L.bans.length (rows strRow L.bans)
 oJ:wr.ownsRow (w.heap.size+2) 38 4 vJ L.joins.length (rows joinRow L.joins)
 oK:wr.ownsRow (w.heap.size+2) 42 4 vK L.keys.length (rows keyRow L.keys)
 b0:Blk wr w.heap.size [vE,vN,vB,vJ,vK,vU] 30
 b1:Blk wr (w.heap.size+1) (lgCells (.slice none 0 0)) 30
 bel:Below w.heap.size w wr
theorem CS.step{w wr w':World} {vE vN vB vJ vK vU u:Value} {L:Led.Ledger} (h:CS w vE vN vB vJ vK vU L wr) (hb:Below wr.heap.size wr w') {g o:Nat} {M:List Value} {e':TypeId} (hg:w.heap.size+2≤g) (hB:Blk w' g M e') (he:e'=36∨e'=45) :
  CS w vE vN vB vJ vK vU L (w'.setCell ⟨g,o,none⟩ u):=by
 have h1:=own_below h.oN hb (Nat.le_refl _)
 have h2:=own_below h.oB hb (Nat.le_refl _)
 have h3:=own_below h.oJ hb (Nat.le_refl _)
 have h4:=own_below h.oK hb (Nat.le_refl _)
 have n1:(40:TypeId)≠e':=by rcases he with rfl|rfl <;> decide
 have n2:(9:TypeId)≠e':=by rcases he with rfl|rfl <;> decide
 have n3:(38:TypeId)≠e':=by rcases he with rfl|rfl <;> decide
 have n4:(42:TypeId)≠e':=by rcases he with rfl|rfl <;> decide
 exact⟨own_at h1 (own_ne h1 hB n1),own_at h2 (own_ne h2 hB n2),own_at h3 (own_ne h3 hB n3),own_at h4 (own_ne h4 hB n4),(h.b0.below hb).set_ne (p:=⟨g,o,none⟩) (by simp; omega) _,(h.b1.below hb).set_ne (p:=⟨g,o,none⟩) (by simp; omega) _,
  (h.bel.trans (hb.mono h.bel.size)).setCell (p:=⟨g,o,none⟩) (by simp; omega) _⟩
end
section
namespace Batch
open Go.RowKit
def calm2:Op→Bool
 | .pick _ _ _=>true
 | .lookup _ _ _ _=>true
 | .unOp _ _ _=>true
 | .call c=>match c.callee with
  | .builtin .len=>true
  | _=>false
 | o=>calm o
theorem calm2_value{P:Program} {o:Oper} (h:calm2 o.op=true) (ρ:Operand→Value) (w w':World) (n:Next) (hr:(execOp ρ o).run P w=.ok n w'):∃ u,n=.value u:=by
 by_cases hv:calm o.op=true
 ·exact calm_value hv ρ w w' n hr
 ·obtain⟨dst,op,type,pos,after,guard⟩:=o
  have key:∀ (s:Sem Value),(do pure (Next.value (← s)):Sem Next).run P w=.ok n w'→∃ u,n=.value u:=fun s hs=>by
   rw [Sem.run_bind] at hs
   cases hq:s.run P w with
   | halt q w1=>rw [hq] at hs; cases hs
   | ok u w1 =>
    rw [hq] at hs; simp only [Result.andThen_ok,Sem.run_pure,Result.ok.injEq] at hs; exact⟨u,hs.1.symm⟩
  cases op <;> first|(exfalso; simp [calm2,calm,valued] at h hv; done)|skip
  case neg.pick c x y =>
   unfold execOp at hr; simp only [Sem.run_bind] at hr
   cases hq:(asBool (ρ c)).run P w with
   | halt q w1=>rw [hq] at hr; cases hr
   | ok u w1 =>
    rw [hq] at hr; simp only [Result.andThen_ok,Sem.run_pure,Result.ok.injEq] at hr; exact⟨_,hr.1.symm⟩
  case neg.call c =>
   obtain⟨callee,args,ats⟩:=c
   cases callee with
   | builtin b =>
    cases b <;> first|(exfalso; simp [calm2] at h; done)|skip
    simp [execOp,resolve,invoke] at hr
    exact key (Builtin.len_ ats type (args.map ρ)) hr
   | invoke r nme=>exfalso; simp [calm2] at h
   | value g=>exfalso; simp [calm2] at h
  all_goals exact key _ hr
section
variable {P:Program} {ops:Array Oper} {md:Region.Mode} {R:World→World→Prop} {w0:World}
def calmAt2 (ops:Array Oper) (i:Nat):Bool:=match ops[i]? with|some o=>calm2 o.op|none=>false
theorem wpOp_calm2{i:Nat} {a:Act} {K:Act→Prop} {K':Act→World→Prop} {Q':Exit→Act→World→Prop} {C:World→Prop} {w:World} (hc:calmAt2 ops i=true) (hC:C w) (h:∀ a,K a→K' a w) (hh:qOp P ops C i K a):wpOp P ops Q' i K' a w:=by
 unfold qOp at hh
 unfold wpOp
 unfold calmAt2 at hc
 cases ho:ops[i]? with
 | none=>rw [ho] at hc; cases hc
 | some o =>
  simp only [ho] at hh hc ⊢; split
  ·rename_i hw
   simp only [hw,if_true] at hh; refine .inl ?_; obtain⟨v,h1,h2⟩:=hh; have h3:=h1 w hC; unfold Oper.quietAt at h3; unfold Oper.wp
   cases hr:(execOp a.eval o).run P w with
   | halt q w'=>rw [hr] at h3; exact h3.elim
   | ok n w' =>
    obtain⟨u,rfl⟩:=calm2_value hc a.eval w w' n hr; rw [hr] at h3; obtain⟨rfl,rfl⟩:=h3; exact h _ h2
  ·rename_i hw
   simp only [hw] at hh; exact h _ hh
end
section
variable {P:Program} {ops:Array Oper} {md:Region.Mode} {R:World→World→Prop} {w0:World}
def wpMixF (P:Program) (md:Region.Mode) (ops:Array Oper) (R:World→World→Prop) (w0:World) (B:List Nat) (L:List Item) (Q:Array Bool→Act→(World→Prop)→Prop):Nat→Array Bool→Act→(World→Prop)→Prop
 | 0,listed,a,F=>Q listed a F
 | f+1,listed,a,F=>Region.ready md ops listed≠[]∧∀ i∈Region.ready md ops listed,
   (i∈B∧qOp P ops (R w0) i (fun a'=>wpMixF P md ops R w0 B L Q f (listed.setIfInBounds i true) a' F) a) ∨
   (∃ x∈L,x.1=i∧∃ o,ops[i]?=some o∧Region.wanted o (yielded ops a.tmps)=true∧(∀ w,R w0 w→F w→gives P R x.2 w ((execOp a.eval o).run P w)) ∧
    ∀ v,(∃ w,x.2 v w)→wpMixF P md ops R w0 B L Q f (listed.setIfInBounds i true) (a.put o.dst v) (fun w=>F w∧x.2 v w))
theorem wpAny_of_mixM{B M:List Nat} {L:List Item} {base:Array Bool} {g:Nat} {Q:Array Bool→Act→(World→Prop)→Prop} {Q':Exit→Act→World→Prop} (hR:Rely R) (hst:∀ x∈L,Stable R x.2) (hBM:∀ i∈B,i∈M) (hLM:∀ x∈L,x.1∈M) (hcalm:∀ i∈B,calmAt2 ops i=true)
  (hQ:∀ listed a F w,R w0 w→F w→Q listed a F→wpAny P md ops Q' g listed a w) :
  ∀ (f:Nat) (listed:Array Bool) (a:Act) (F:World→Prop) (w:World),Inv md ops M base listed→R w0 w→F w→(∀ w w',R w w'→F w→F w') →
   wpMixF P md ops R w0 B L Q f listed a F→wpAny P md ops Q' (f+g) listed a w:=by
 intro f
 induction f with
 | zero =>
  intro listed a F w _ hw hF _ h; rw [Nat.zero_add]; exact hQ _ _ _ _ hw hF h
 | succ f ih =>
  intro listed a F w inv hw hF hFs h; rw [show f+1+g=(f+g)+1 by omega]; refine⟨fun h0=>absurd h0 h.1,fun i hi=>?_⟩; rcases h.2 i hi with⟨hiB,hq⟩|⟨x,hx,rfl,o,ho,hwa,hg,hk⟩
  ·exact wpOp_calm2 (C:=R w0) (hcalm i hiB) hw (fun a' ha'=>ih _ a' F w (inv.set (hBM i hiB) hi) hw hF hFs ha') hq
  ·have inv':=inv.set (hLM x hx) hi
   have step:∀ v w',R w w'→x.2 v w'→wpAny P md ops Q' (f+g) (listed.setIfInBounds x.1 true) (a.put o.dst v) w':=fun v w' hww hTv =>
    ih _ _ _ w' inv' (hR.trans hw hww) ⟨hFs _ _ hww hF,hTv⟩ (fun w1 w2 h12 h1=>⟨hFs _ _ h12 h1.1,hst x hx _ _ _ h12 h1.2⟩) (hk v ⟨w',hTv⟩)
   unfold wpOp; simp only [ho]; rw [if_pos hwa]; refine .inl ?_; have hgw:=hg w hw hF; unfold Oper.wp; generalize (execOp a.eval o).run P w=r at *
   cases r with
   | ok m w' =>
    cases m <;> simp only [gives] at hgw <;> simp only [Oper.upon]
    case value u=>exact step u w' hgw.1 hgw.2
    case skip=>exact step undef w' hgw.1 hgw.2
    case enter f' args =>
     obtain⟨rfl,hcall⟩:=hgw; exact hcall.mono fun e w'' ⟨v,he,h1,h2⟩=>by subst he; exact step v w'' h1 h2
   | halt q w'=>simp only [gives] at hgw
theorem wpMix_firstM{B M:List Nat} {L:List Item} {Q:Array Bool→Act→(World→Prop)→Prop} {base fin:Array Bool} {i:Nat} {oi:Oper} {v:Value} (hi:ops[i]?=some oi) (hsel:∀ (j:Nat) (o:Oper) cs b,ops[j]?=some o→o.op≠.select cs b)
  (hc:closedB md ops base M=true) (hBM:∀ i∈B,i∈M) (hiB:i∈B) (hfin:∀ j∈M,fin.getD j true=true) (hQ:∀ listed a F,Q listed a F→listed=fin) :
  ∀ (f:Nat) (listed:Array Bool) (a:Act) (F:World→Prop),Inv md ops M base listed →
   (∀ j oj,ops[j]?=some oj→j≠i→listed.getD j true=false→(∀ e∈oj.after,Region.binds md e=true→e.on≠i)→oi.apart ops oj=true) →
   i∈Region.ready md ops listed→YieldsIn P ops (R w0) oi v a →
   wpMixF P md ops R w0 B L Q f (listed.setIfInBounds i true) (a.put oi.dst v) F→wpMixF P md ops R w0 B L Q (f+1) listed a F:=by
 intro f
 induction f with
 | zero =>
  intro listed a F inv _ hr hy H; have hun:=(mem_ready.1 hr).1; refine⟨fun h=>(by rw [h] at hr; cases hr),fun j hj=>?_⟩
  have hjB:=inv.stays hc (hBM _ hiB) hun hj; by_cases hji:j=i
  ·subst hji; exact .inl ⟨hiB,hy.qOp hi H⟩
  ·exfalso
   have h1:=ready_mono hj hji; rw [hQ _ _ _ H] at h1; have h2:=(mem_ready.1 h1).1; rw [hfin j hjB] at h2
   cases h2
 | succ f ih =>
  intro listed a F inv hfree hr hy H; have hun:=(mem_ready.1 hr).1; refine⟨fun h=>(by rw [h] at hr; cases hr),fun j hj=>?_⟩
  have hjB:=inv.stays hc (hBM _ hiB) hun hj; by_cases hji:j=i
  ·subst hji; exact .inl ⟨hiB,hy.qOp hi H⟩
  ·have h1:=H.2 j (ready_mono hj hji)
   obtain⟨hjun,oj,hoj,hall⟩:=mem_ready.1 hj; have hnot:∀ e∈oj.after,Region.binds md e=true→e.on≠i:=fun e he hb heq=>by
    have h1:=hall e he hb; rw [heq,getD_both hun] at h1
    cases h1
   have hap:=hfree j oj hoj hji hjun hnot; have hfree':∀ k ok,ops[k]?=some ok→k≠i→(listed.setIfInBounds j true).getD k true=false →
     (∀ e∈ok.after,Region.binds md e=true→e.on≠i)→oi.apart ops ok=true:=fun k ok hk hki hun hno=>by
    refine hfree k ok hk hki ?_ hno; by_cases hjk:j=k
    ·subst hjk; exact hjun
    ·rw [getD_set_ne true hjk] at hun; exact hun
   rcases h1 with⟨hjB',h1⟩|⟨x,hx,hxj,o,ho,hwa,hg,hk⟩
   ·refine .inl ⟨hjB',?_⟩
    have h2:=qOp_put hoj hap (fun cs b=>hsel i oi cs b hi) (fun cs b=>hsel j oj cs b hoj) hy h1; refine qOp_mono (fun a' h3=>ih (listed.setIfInBounds j true) a' F (inv.set hjB hj) hfree' (ready_mono hr (Ne.symm hji)) h3.1 ?_) h2; rw [Array.setIfInBounds_comm _ _ hji]; exact h3.2
   ·have:o=oj:=Option.some.inj (ho.symm.trans hoj)
    subst this; obtain⟨g1,g2,g3⟩:=Oper.apart_spec hap; refine .inr ⟨x,hx,hxj,o,ho,?_,fun w hw hFw=>?_,fun u hu=>?_⟩
    ·rw [wanted_put o a oi.dst v g1] at hwa
     exact hwa
    ·have:=hg w hw hFw
     rw [execOp_put o (fun cs b=>hsel j o cs b ho) a oi.dst v g1] at this; exact this
    ·refine ih (listed.setIfInBounds j true) (a.put o.dst u) _ (inv.set hjB hj) hfree' (ready_mono hr (Ne.symm hji)) (hy.of_same (execOp_put oi (fun cs b=>hsel i oi cs b hi) a o.dst u g3) (wanted_put oi a o.dst u g3)) ?_
     rw [Array.setIfInBounds_comm _ _ hji,← Act.put_comm a v u g2]; exact hk u hu
def wpTurns (P:Program) (ops:Array Oper) (R:World→World→Prop) (w0:World) (Q:Act→(World→Prop)→Prop):List (List Nat × Item)→Act→(World→Prop)→Prop
 | [],a,F=>Q a F
 | (r,x)::rest,a,F=>wpQuiet P ops (R w0) (fun a'=>∃ o,ops[x.1]?=some o∧Region.wanted o (yielded ops a'.tmps)=true∧(∀ w,R w0 w→F w→gives P R x.2 w ((execOp a'.eval o).run P w)) ∧
   ∀ v,(∃ w,x.2 v w)→wpTurns P ops R w0 Q rest (a'.put o.dst v) (fun w=>F w∧x.2 v w)) (r.filterMap (ops[·]?)) a
def turnsB (md:Region.Mode) (ops:Array Oper):List (List Nat × Nat)→Array Bool→Bool
 | [],_=>true
 | (r,k)::T,listed=>seqOK md ops r listed&&decide (Region.ready md ops (lay listed r)=[k])&&turnsB md ops T ((lay listed r).setIfInBounds k true)
def layT:List (List Nat × Nat)→Array Bool→Array Bool
 | [],s=>s
 | (r,k)::T,s=>layT T ((lay s r).setIfInBounds k true)
def sizeT:List (List Nat × Nat)→Nat
 | []=>0
 | (r,_)::T=>r.length+(sizeT T+1)
theorem wpMix_quiet{B M:List Nat} {L:List Item} {Q:Array Bool→Act→(World→Prop)→Prop} {base fin:Array Bool} {F:World→Prop} (hsel:∀ (j:Nat) (o:Oper) cs b,ops[j]?=some o→o.op≠.select cs b)
  (hc:closedB md ops base M=true) (hBM:∀ i∈B,i∈M) (hfin:∀ j∈M,fin.getD j true=true) (hQ:∀ listed a F,Q listed a F→listed=fin) (n:Nat) :
  ∀ (l:List Nat) (listed:Array Bool) (a:Act) (K:Act→Prop),(∀ i∈l,i∈B)→Inv md ops M base listed→seqOK md ops l listed=true →
   (∀ a',Inv md ops M base (lay listed l)→K a'→wpMixF P md ops R w0 B L Q n (lay listed l) a' F)→wpQuiet P ops (R w0) K (l.filterMap (ops[·]?)) a→wpMixF P md ops R w0 B L Q (l.length+n) listed a F
 | [],listed,a,K,_,inv,_,hK,h=>by
  rw [List.length_nil,Nat.zero_add]; exact hK a inv h
 | i::l,listed,a,K,hl,inv,hsq,hK,h=>by
  simp only [seqOK,Bool.and_eq_true] at hsq; obtain⟨⟨hr,hfr⟩,hB'⟩:=hsq; have hr':i∈Region.ready md ops listed:=by simpa using hr
  obtain⟨_,o,ho,_⟩:=mem_ready.1 hr'; have hiB:=hl i List.mem_cons_self; have hstp:qOp P ops (R w0) i (wpQuiet P ops (R w0) K (l.filterMap (ops[·]?))) a:=by
   unfold qOp; simp only [ho]; rw [List.filterMap_cons_some ho] at h; exact h
  obtain⟨v,hy,hK'⟩:=yieldsIn_of_qOp ho hstp; have:=wpMix_quiet hsel hc hBM hfin hQ n l (listed.setIfInBounds i true) _ K (fun k hk=>hl k (List.mem_cons_of_mem _ hk)) (inv.set (hBM _ hiB) hr') hB' hK hK'; rw [show (i::l).length+n=(l.length+n)+1 by simp only [List.length_cons]; omega]
  exact wpMix_firstM ho hsel hc hBM hiB hfin hQ _ listed a F inv (Region.free_spec ho hfr) hr' hy this
theorem wpMix_turns{B M:List Nat} {L0:List Item} {Qf:Act→(World→Prop)→Prop} {base fin:Array Bool} (hsel:∀ (j:Nat) (o:Oper) cs b,ops[j]?=some o→o.op≠.select cs b)
  (hc:closedB md ops base M=true) (hBM:∀ i∈B,i∈M) (hLM:∀ x∈L0,x.1∈M) (hfin:∀ j∈M,fin.getD j true=true) :
  ∀ (S:List (List Nat × Item)) (listed:Array Bool) (a:Act) (F:World→Prop),(∀ s∈S,(∀ i∈s.1,i∈B)∧s.2∈L0)→Inv md ops M base listed→turnsB md ops (S.map fun s=>(s.1,s.2.1)) listed=true→layT (S.map fun s=>(s.1,s.2.1)) listed=fin →
  wpTurns P ops R w0 Qf S a F→wpMixF P md ops R w0 B L0 (fun listed' a' F'=>listed'=fin∧Qf a' F') (sizeT (S.map fun s=>(s.1,s.2.1))) listed a F
 | [],_,_,_,_,_,_,hf,h=>⟨hf,h⟩
 | (r,x)::S,listed,a,F,hS,inv,hs,hf,h=>by
  simp only [List.map_cons,turnsB,Bool.and_eq_true,decide_eq_true_eq] at hs; have h0:=hS (r,x) List.mem_cons_self; refine wpMix_quiet hsel hc hBM hfin (fun _ _ _ hq=>hq.1) _ r listed a _ h0.1 inv hs.1.1 (fun a' inv' hK=>?_) h; refine⟨fun h1=>(by rw [hs.1.2] at h1; cases h1),fun i hi=>?_⟩
  have hi':=hi; rw [hs.1.2] at hi; have hix:i=x.1:=by simpa using hi
  subst hix; obtain⟨o,k1,k2,k3,k4⟩:=hK; exact .inr ⟨x,h0.2,rfl,o,k1,k2,k3,fun v hv=>wpMix_turns hsel hc hBM hLM hfin S _ _ _ (fun y hy=>hS y (List.mem_cons_of_mem _ hy)) (inv'.set (hLM x h0.2) hi') hs.2 hf (k4 v hv)⟩
def orderT (S:List (List Nat × Nat)):List Nat:=S.flatMap fun s=>s.1++[s.2]
def turnB (md:Region.Mode) (ops:Array Oper) (base:Array Bool) (S:List (List Nat × Nat)):Bool :=
 Region.noSelect ops&&decide (base.size=ops.size)&&closedB md ops base (orderT S)&&(S.all fun s=>s.1.all fun i=>calmAt2 ops i)&&turnsB md ops S base&&(orderT S).all fun j=>(layT S base).getD j true
theorem wpAny_turns{Q':Exit→Act→World→Prop} {a:Act} {w:World} {base:Array Bool} {N fuel:Nat} (hR:Rely R) (hw0:R w0 w) (S:List (List Nat × Item)) (hB:turnB md ops base (S.map fun s=>(s.1,s.2.1))=true) (hst:∀ s∈S,Stable R s.2.2) (hN:N=sizeT (S.map fun s=>(s.1,s.2.1))+fuel)
  (h:wpTurns P ops R w0 (fun a' F=>∀ w',R w0 w'→F w'→wpAny P md ops Q' fuel (layT (S.map fun s=>(s.1,s.2.1)) base) a' w') S a (fun _=>True)):wpAny P md ops Q' N base a w:=by
 simp only [turnB,Bool.and_eq_true,decide_eq_true_eq] at hB
 obtain⟨⟨⟨⟨⟨hsel,hsz⟩,hc⟩,hcalm⟩,hts⟩,hfin⟩:=hB
 subst hN
 have hsel':=Region.noSelect_spec hsel
 have hbm:∀ s∈S,(∀ i∈s.1,i∈orderT (S.map fun s=>(s.1,s.2.1)))∧s.2.1∈orderT (S.map fun s=>(s.1,s.2.1)):=fun s hs =>
  ⟨fun i hi=>List.mem_flatMap.2 ⟨(s.1,s.2.1),List.mem_map.2 ⟨s,hs,rfl⟩,List.mem_append_left _ hi⟩,List.mem_flatMap.2 ⟨(s.1,s.2.1),List.mem_map.2 ⟨s,hs,rfl⟩,List.mem_append_right _ (List.mem_singleton.2 rfl)⟩⟩
 have hcm:∀ i∈S.flatMap (·.1),calmAt2 ops i=true:=fun i hi=>by
  obtain⟨s,hs,hi⟩:=List.mem_flatMap.1 hi; exact List.all_eq_true.1 (List.all_eq_true.1 hcalm (s.1,s.2.1) (List.mem_map.2 ⟨s,hs,rfl⟩)) i hi
 have hBM:∀ i∈S.flatMap (·.1),i∈orderT (S.map fun s=>(s.1,s.2.1)):=fun i hi=>by
  obtain⟨s,hs,hi⟩:=List.mem_flatMap.1 hi; exact(hbm s hs).1 i hi
 have hLM:∀ x∈S.map (·.2),x.1∈orderT (S.map fun s=>(s.1,s.2.1)):=fun x hx=>by
  obtain⟨s,hs,rfl⟩:=List.mem_map.1 hx; exact(hbm s hs).2
 have hM:=wpMix_turns (P:=P) (R:=R) (w0:=w0) (B:=S.flatMap (·.1)) (L0:=S.map (·.2)) hsel' hc hBM hLM (fun j hj=>List.all_eq_true.1 hfin j hj) S base a (fun _=>True) (fun s hs=>⟨fun i hi=>List.mem_flatMap.2 ⟨s,hs,hi⟩,List.mem_map_of_mem hs⟩) (Inv.refl hsz) hts rfl h
 refine wpAny_of_mixM hR (fun x hx=>?_) hBM hLM hcm (fun listed a' F w' hw' hF hq=>by obtain⟨rfl,h2⟩:=hq; exact h2 w' hw' hF) _ base a _ w (Inv.refl hsz) hw0 trivial (fun _ _ _ h=>h) hM
 obtain⟨s,hs,rfl⟩:=List.mem_map.1 hx
 exact hst s hs
end
def wpItem (P:Program) (l:List Oper) (x:Item) (w:World) (K:Act→(World→Prop)→Prop) (F:World→Prop) (a:Act):Prop :=
 ∃ o,l.toArray[x.1]?=some o∧Region.wanted o (yielded l.toArray a.tmps)=true∧(∀ w',GR w w'→F w'→gives P GR x.2 w' ((execOp a.eval o).run P w'))∧∀ v,(∃ w,x.2 v w)→K (a.put o.dst v) (fun w=>F w∧x.2 v w)
def wpTurnsR (P:Program) (l:List Oper) (w:World) (Q:Act→(World→Prop)→Prop):List (List Nat × Item)→Act→(World→Prop)→Prop
 | [],a,F=>Q a F
 | (r,x)::rest,a,F=>wpQuiet P l.toArray (fun w'=>∃ p:Grew,w'=grew w p) (wpItem P l x w (wpTurnsR P l w Q rest) F) (pick l r) a
theorem turnsR_cons{P:Program} {l:List Oper} {w:World} {Q:Act→(World→Prop)→Prop} {r:List Nat} {x:Item} {rest:List (List Nat × Item)} {a:Act} {F:World→Prop} (h:wpQuiet P l.toArray (fun w'=>∃ p:Grew,w'=grew w p) (wpItem P l x w (wpTurnsR P l w Q rest) F) (pick l r) a):wpTurnsR P l w Q ((r,x)::rest) a F:=h
theorem wpQuiet_mono{P:Program} {ops:Array Oper} {C:World→Prop} {K K':Act→Prop} (h:∀ a,K a→K' a):∀ {L:List Oper} {a:Act},wpQuiet P ops C K L a→wpQuiet P ops C K' L a
 | [],a,hh=>h a hh
 | o::L,a,hh=>by
  unfold wpQuiet at hh ⊢; split
  ·rename_i hw
   simp only [hw,if_true] at hh; exact Oper.quiet_mono (fun a=>wpQuiet_mono h) hh
  ·rename_i hw
   simp only [hw] at hh; exact wpQuiet_mono h hh
theorem wpTurnsR_turns{P:Program} {l:List Oper} {w:World} {Q:Act→(World→Prop)→Prop}:∀ (S:List (List Nat × Item)) (a:Act) (F:World→Prop),(S.all (fun s=>s.1.all fun i=>decide (i<l.length)))=true→wpTurnsR P l w Q S a F→wpTurns P l.toArray GR w Q S a F
 | [],_,_,_,h=>h
 | (r,x)::S,a,F,hS,h=>by
  simp only [List.all_cons,Bool.and_eq_true] at hS; unfold wpTurnsR at h; rw [← pick_eq l r hS.1] at h; exact wpQuiet_mono (fun a' ⟨o,k1,k2,k3,k4⟩=>⟨o,k1,k2,k3,fun v hv=>wpTurnsR_turns S _ _ hS.2 (k4 v hv)⟩) h
theorem wp_region_turns{P:Program} {id:Nat} {Q:Exit→Act→World→Prop} {a:Act} {w:World} {l:List Oper} (S:List (List Nat × Item)) (T:List Nat) (hm:P.follows .mixedOrders=true)
  (hB:(S.all (fun s=>s.1.all fun i=>decide (i<l.length))&&T.all (fun i=>decide (i<l.length))&&turnB .any l.toArray (Array.replicate l.length false) (S.map fun s=>(s.1,s.2.1))&&decide (sizeT (S.map fun s=>(s.1,s.2.1))+T.length=l.length)&&seqL .any l.toArray T (layT (S.map fun s=>(s.1,s.2.1)) (Array.replicate l.length false)))=true)
  (hst:∀ s∈S,Stable GR s.2.2)
  (h:wpTurnsR P l w (fun a'' F=>∀ w',GR w w'→F w'→wpList P l.toArray Q (pick l T) a'' w') S a (fun _=>True)):(Code.region id l.toArray true).wp P Q a w:=by
 simp only [Bool.and_eq_true,decide_eq_true_eq] at hB
 obtain⟨⟨⟨⟨g1,g2⟩,h1⟩,h2⟩,h3⟩:=hB
 rw [← pick_eq l T g2] at h
 refine wp_region_start hm (wpAny_turns (fuel:=T.length) rely_gr (GR.of (Below.refl _ _).drew) S h1 hst (by omega) ?_)
 have h4:=wpTurnsR_turns S a (fun _=>True) g1 h
 have key:∀ (L0:List (List Nat × Item)) (a:Act) (F:World→Prop),wpTurns P l.toArray GR w (fun a'' F=>∀ w',GR w w'→F w'→wpList P l.toArray Q (T.filterMap (fun i=>l.toArray[i]?)) a'' w') L0 a F →
   wpTurns P l.toArray GR w (fun a' F=>∀ w',GR w w'→F w'→wpAny P .any l.toArray Q T.length (layT (S.map fun s=>(s.1,s.2.1)) (Array.replicate l.length false)) a' w') L0 a F:=by
  intro L0; induction L0 with
  | nil=>intro a F h w' hw hF; exact wpAny_of_seqL T _ a w' h3 (h w' hw hF)
  | cons s L0 ih =>
   obtain⟨r,x⟩:=s; intro a F h; exact wpQuiet_mono (fun a' ⟨o,k1,k2,k3,k4⟩=>⟨o,k1,k2,k3,fun v hv=>ih _ _ (k4 v hv)⟩) h
 exact key _ _ _ h4
end Batch
end
end Go.Proofs.YtmbpnkacggngkaaGreatDoor
