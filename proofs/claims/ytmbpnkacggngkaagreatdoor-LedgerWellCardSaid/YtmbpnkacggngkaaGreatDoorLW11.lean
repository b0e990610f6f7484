/- LedCloneA, LedDid, LedApG, LedApN, LedDoK, LedApA, JsonA, JwkShelf (put together by bundle.py: only what is needed). -/
import Derived.Ground.GgwProg
import Derived.Shelf.GgClosure.StringsIndexFuncTop
import Derived.Shelf.GgClosure.StringsRunes
import Derived.Test.YtmbpnkacggngkaaGreatDoorLW10
set_option maxRecDepth 100000
set_option maxHeartbeats 16000000
namespace Go.Proofs.YtmbpnkacggngkaaGreatDoor
section
open Go.RowKit Mem Led
theorem own_setK:∀ (vs:List Value) {w:World} {base n g k size:Nat} {v:Value} {e:TypeId} {xs:List Value},w.ownsRow base e size v n xs→g<base→(w.setCells g k vs).ownsRow base e size v n xs
 | [],_,_,_,_,_,_,_,_,_,h,_=>h
 | u::vs,_,_,_,_,_,_,_,_,_,h,hg=>own_setK vs (ownsRow_setCell_below h hg u) hg
section
variable {base b:Nat} {w w':World} {vE vN vB vJ vK vU:Value} {L:Led.Ledger} {E:List (Led.Entry × Value)} {U:List (Led.Bundle × Value)}
theorem Wk.lower(h:Wk base w vE vN vB vJ vK vU L E U) (hb:b≤base):Wk b w vE vN vB vJ vK vU L E U :=
 ⟨own_base h.oE hb,own_base h.oN hb,own_base h.oB hb,own_base h.oJ hb,own_base h.oK hb,own_base h.oU hb,h.ents,h.buns,fun p hp=>⟨own_base (h.sels p hp).1 hb,(h.sels p hp).2⟩,fun p hp=>own_base (h.keyss p hp) hb⟩
theorem Wk.setCells(h:Wk base w vE vN vB vJ vK vU L E U) {g k:Nat} (hg:g<base) (vs:List Value):Wk base (w.setCells g k vs) vE vN vB vJ vK vU L E U :=
 ⟨own_setK vs h.oE hg,own_setK vs h.oN hg,own_setK vs h.oB hg,own_setK vs h.oJ hg,own_setK vs h.oK hg,own_setK vs h.oU hg,h.ents,h.buns,fun p hp=>⟨own_setK vs (h.sels p hp).1 hg,(h.sels p hp).2⟩,fun p hp=>own_setK vs (h.keyss p hp) hg⟩
theorem Wk.setCell(h:Wk base w vE vN vB vJ vK vU L E U) {a:Addr} (hg:a.block<base) (v:Value):Wk base (w.setCell a v) vE vN vB vJ vK vU L E U :=
 ⟨ownsRow_setCell_below h.oE hg v,ownsRow_setCell_below h.oN hg v,ownsRow_setCell_below h.oB hg v,ownsRow_setCell_below h.oJ hg v,ownsRow_setCell_below h.oK hg v,ownsRow_setCell_below h.oU hg v,h.ents,h.buns,fun p hp=>⟨ownsRow_setCell_below (h.sels p hp).1 hg v,(h.sels p hp).2⟩,fun p hp=>ownsRow_setCell_below (h.keyss p hp) hg v⟩
end
theorem stable_own{b k n:Nat} {e:TypeId} {xs:List Value}:Batch.Stable Batch.GR fun v w=>w.ownsRow b e k v n xs:=Batch.stable_gr fun _ _ _ hb h=>own_below h hb (Nat.le_refl _)
theorem gives_clone{P:Program} {F:FuncId} {args:Array Value} {w1:World} {b k n:Nat} {e:TypeId} {xs:List Value} (hb:b≤w1.heap.size) (h:Calls P F args w1 (Cloned xs e k n w1)) :
  Calls P F args w1 (fun x w''=>∃ v,x=.returned v∧Batch.GR w1 w''∧w''.ownsRow b e k v n xs) :=
 h.mono fun _ _ ⟨v,h1,h2,h3⟩=>⟨v,h1,Batch.GR.of h3,own_base h2 hb⟩
def Copy (L:Led.Ledger) (w:World) (x:Ending) (w':World):Prop :=
 ∃ vE vN vB vJ vK vU E U,x=.returned (.agg (#[vE,vN,vB,vJ,vK,vU]:Array Value))∧Wk w.heap.size w' vE vN vB vJ vK vU L E U∧Below w.heap.size w w'
theorem cloneLg_any(cs:List Value) (L:Led.Ledger) (E:List (Led.Entry × Value)) (U:List (Led.Bundle × Value)) (w:World) (h:LgAt w cs L E U) (hs:L.Small):Calls Tryz.prog 27 #[.agg cs.toArray] w (Copy L w):=by
 obtain⟨⟨vE,vN,vB,vJ,vK,vU,rfl,⟨AE,nE,cE,rfl,fE,rE⟩,⟨AN,nN,cN,rfl,fN,rN⟩,⟨AB,nB,cB,rfl,fB,rB⟩,⟨AJ,nJ,cJ,rfl,fJ,rJ⟩,⟨AK,nK,cK,rfl,fK,rK⟩,⟨AU,nU,cU,rfl,fU,rU⟩⟩,hEs,hUs,hsel,hkey⟩:=h
 obtain⟨W,hW⟩:∃ W,((w.alloc (.cells ([.slice AE nE cE,.slice AN nN cN,.slice AB nB cB,.slice AJ nJ cJ,.slice AK nK cK,.slice AU nU cU]:List Value).toArray 30)).alloc (.cells (lgCells (.slice none 0 0)).toArray 30))=W:=⟨_,rfl⟩
 have b0:Blk W w.heap.size [.slice AE nE cE,.slice AN nN cN,.slice AB nB cB,.slice AJ nJ cJ,.slice AK nK cK,.slice AU nU cU] 30:=by rw [← hW]; exact(Blk.new _ _ _).alloc _
 have b1:Blk W (w.heap.size+1) (lgCells (.slice none 0 0)) 30:=by
  have:=Blk.new (w.alloc (.cells ([.slice AE nE cE,.slice AN nN cN,.slice AB nB cB,.slice AJ nJ cJ,.slice AK nK cK,.slice AU nU cU]:List Value).toArray 30)) (lgCells (.slice none 0 0)) 30; rw [← hW]; simpa using this
 have hbW:Below w.heap.size w W:=by rw [← hW]; exact((Below.refl _ _).alloc (Nat.le_refl _) _).alloc (by simp) _
 have hzW:W.heap.size=w.heap.size+2:=by rw [← hW]; simp
 have lE:=rE.len entRow_len (by omega)
 have lN:=rN.len nodeRow_len (by omega)
 have lB:L.bans.length=nB:=by have:=rB.len; simpa [tv] using this
 have lJ:=rJ.len joinRow_len (by omega)
 have lK:=rK.len keyRow_len (by omega)
 have lU:=rU.len bunRow_len (by omega)
 have lE2:E.length=L.entries.length:=by rw [← hEs,List.length_map]
 have lU2:U.length=L.bundles.length:=by rw [← hUs,List.length_map]
 have kE:=Lib.hid (fun wx (hx:Below w.heap.size w wx)=>clnEnt_any AE nE cE _ wx (Es.below rE hx) (by have:=hs.e; omega) fE.2.2 (one_ent hsel))
 have kN:=Lib.hid (fun wx (hx:Below w.heap.size w wx)=>clnNod_any AN nN cN _ wx (Es.below rN hx) (by have:=hs.n; omega) fN.2.2 (one_node _))
 have kB:=Lib.hid (fun wx (hx:Below w.heap.size w wx)=>clnStr_any AB nB cB (rows strRow L.bans) wx (by rw [tv_rows]; exact Ts.below rB hx) (by have:=hs.b; omega) fB.2.2 (one_str _))
 have kJ:=Lib.hid (fun wx (hx:Below w.heap.size w wx)=>clnJoi_any AJ nJ cJ _ wx (Es.below rJ hx) (by have:=hs.j; omega) fJ.2.2 (one_join _))
 have kK:=Lib.hid (fun wx (hx:Below w.heap.size w wx)=>clnKey_any AK nK cK _ wx (Es.below rK hx) (by have:=hs.k; omega) fK.2.2 (one_key _))
 have kU:=Lib.hid (fun wx (hx:Below w.heap.size w wx)=>clnBun_any AU nU cU _ wx (Es.below rU hx) (by have:=hs.u; omega) fU.2.2 (one_bun hkey))
 have HBW:=Lib.hid hbW
 have HW:=Lib.hid hW
 clear hW rE rN rB rJ rK rU fE fN fB fJ fK fU
 go_enter Tryz.func27,Tryz.ntmps27
 go_upto_region 1 with fail
 rw [show ((w.alloc (.cells #[.slice AE nE cE,.slice AN nN cN,.slice AB nB cB,.slice AJ nJ cJ,.slice AK nK cK,.slice AU nU cU] 30)).alloc (.cells #[.slice none 0 0,.slice none 0 0,.slice none 0 0,.slice none 0 0,.slice none 0 0,.slice none 0 0] 30))=W from HW.out]
 clear HW
 have f0:∀ p,(Batch.grew W p).cell? ⟨w.heap.size,0,none⟩=some (.slice AE nE cE):=fun p=>(Batch.grew_cell (a:=⟨w.heap.size,0,none⟩) b0.lt p).trans (b0.cell 0)
 have f1:∀ p,(Batch.grew W p).cell? ⟨w.heap.size,1,none⟩=some (.slice AN nN cN):=fun p=>(Batch.grew_cell (a:=⟨w.heap.size,1,none⟩) b0.lt p).trans (b0.cell 1)
 have f2:∀ p,(Batch.grew W p).cell? ⟨w.heap.size,2,none⟩=some (.slice AB nB cB):=fun p=>(Batch.grew_cell (a:=⟨w.heap.size,2,none⟩) b0.lt p).trans (b0.cell 2)
 refine Batch.wp_region_turns [([0,1,3,4,6,7],(2,fun v w'=>w'.ownsRow W.heap.size 36 5 v nE (rows entRow E))),([9],(5,fun v w'=>w'.ownsRow W.heap.size 40 5 v nN (rows nodeRow L.nodes))),([],(8,fun v w'=>w'.ownsRow W.heap.size 9 1 v nB (rows strRow L.bans)))] [10,11,12,13,14] (by kernel_rfl) (by kernel_rfl) (by
  intro x hx; simp only [List.mem_cons,List.not_mem_nil,or_false] at hx; rcases hx with rfl|rfl|rfl <;> exact stable_own) ?_
 refine Batch.turnsR_cons ?_
 simp only [Batch.pick,List.getD_cons_zero,List.getD_cons_succ]
 repeat (go_big_quiet_step (fail))
 refine wpQuiet_nil ?_
 refine⟨_,rfl,rfl,?_,?_⟩
 ·intro w1 hw1 _
  go_simp
  exact⟨rfl,gives_clone (by have:=hw1.below.size; omega) (kE.out w1 (HBW.out.trans (hw1.below.mono HBW.out.size)))⟩
 intro v1 _
 refine Batch.turnsR_cons ?_
 simp only [Batch.pick,List.getD_cons_zero,List.getD_cons_succ,List.getElem_toArray,List.getElem_cons_succ,List.getElem_cons_zero,Act.put,List.setIfInBounds_toArray,List.set_cons_zero,List.set_cons_succ]
 repeat (go_big_quiet_step (fail))
 refine wpQuiet_nil ?_
 refine⟨_,rfl,rfl,?_,?_⟩
 ·intro w1 hw1 _
  go_simp
  exact⟨rfl,gives_clone (by have:=hw1.below.size; omega) (kN.out w1 (HBW.out.trans (hw1.below.mono HBW.out.size)))⟩
 intro v2 _
 refine Batch.turnsR_cons ?_
 simp only [Batch.pick,List.getElem_toArray,List.getElem_cons_succ,List.getElem_cons_zero,Act.put,List.setIfInBounds_toArray,List.set_cons_zero,List.set_cons_succ]
 repeat (go_big_quiet_step (fail))
 refine wpQuiet_nil ?_
 refine⟨_,rfl,rfl,?_,?_⟩
 ·intro w1 hw1 _
  go_simp
  exact⟨rfl,gives_clone (by have:=hw1.below.size; omega) (kB.out w1 (HBW.out.trans (hw1.below.mono HBW.out.size)))⟩
 intro v3 _ w1 hw1 hF
 obtain⟨⟨⟨_,o1⟩,o2⟩,o3⟩:=hF
 have hb01:Below w.heap.size w w1:=HBW.out.trans (hw1.below.mono HBW.out.size)
 have d0:=b0.below hw1.below
 have d1:=b1.below hw1.below
 have hz1:=hw1.below.size
 clear f0 f1 f2 kE kN kB b0 b1 hw1 hbW
 obtain⟨A1,c1,rfl,_,_⟩:=own_form o1
 obtain⟨A2,c2,rfl,_,_⟩:=own_form o2
 obtain⟨A3,c3,rfl,_,_⟩:=own_form o3
 have x0:w1.cell? ⟨w.heap.size,0,none⟩=some (.slice AE nE cE):=d0.cell 0
 have x1:w1.cell? ⟨w.heap.size,1,none⟩=some (.slice AN nN cN):=d0.cell 1
 have x2:w1.cell? ⟨w.heap.size,2,none⟩=some (.slice AB nB cB):=d0.cell 2
 have z0:w1.frozen? ⟨w.heap.size,0,none⟩=false:=d0.froz 0
 have z1:w1.frozen? ⟨w.heap.size,1,none⟩=false:=d0.froz 1
 have z2:w1.frozen? ⟨w.heap.size,2,none⟩=false:=d0.froz 2
 go_upto_region 2 with fail
 obtain⟨w2,hw2⟩:∃ w2,((w1.setCell ⟨w.heap.size,0,none⟩ (.slice A1 nE c1)).setCell ⟨w.heap.size,1,none⟩ (.slice A2 nN c2)).setCell ⟨w.heap.size,2,none⟩ (.slice A3 nB c3)=w2:=⟨_,rfl⟩
 have b0:Blk w2 w.heap.size [.slice A1 nE c1,.slice A2 nN c2,.slice A3 nB c3,.slice AJ nJ cJ,.slice AK nK cK,.slice AU nU cU] 30:=by rw [← hw2]; exact((d0.set 0 _).set 1 _).set 2 _
 have b1:Blk w2 (w.heap.size+1) (lgCells (.slice none 0 0)) 30:=by
  rw [← hw2]; exact((d1.set_ne (p:=⟨w.heap.size,0,none⟩) (by simp) _).set_ne (p:=⟨w.heap.size,1,none⟩) (by simp) _).set_ne (p:=⟨w.heap.size,2,none⟩) (by simp) _
 have hs2:∀ {B n k:Nat} {v:Value} {e:TypeId} {xs:List Value},w1.ownsRow B e k v n xs→w.heap.size+2≤B→w2.ownsRow B e k v n xs:=fun h hB=>by
  rw [← hw2]; exact ownsRow_setCell_below (ownsRow_setCell_below (ownsRow_setCell_below h (a:=⟨w.heap.size,0,none⟩) (by simp; omega) _) (a:=⟨w.heap.size,1,none⟩) (by simp; omega) _) (a:=⟨w.heap.size,2,none⟩) (by simp; omega) _
 have hbW:Below w.heap.size w w2:=by
  rw [← hw2]; exact((hb01.setCell (p:=⟨w.heap.size,0,none⟩) (Nat.le_refl _) _).setCell (p:=⟨w.heap.size,1,none⟩) (Nat.le_refl _) _).setCell (p:=⟨w.heap.size,2,none⟩) (Nat.le_refl _) _
 have HBW:=Lib.hid hbW
 rw [hzW] at o1 o2 o3
 have p1:=hs2 o1 (Nat.le_refl _)
 have p2:=hs2 o2 (Nat.le_refl _)
 have p3:=hs2 o3 (Nat.le_refl _)
 rw [hw2]
 clear hs2 hw2 x0 x1 x2 z0 z1 z2 o1 o2 o3 hb01 d0 d1
 have hz2:=b1.lt
 have f0:∀ p,(Batch.grew w2 p).cell? ⟨w.heap.size,3,none⟩=some (.slice AJ nJ cJ):=fun p=>(Batch.grew_cell (a:=⟨w.heap.size,3,none⟩) b0.lt p).trans (b0.cell 3)
 have f1:∀ p,(Batch.grew w2 p).cell? ⟨w.heap.size,4,none⟩=some (.slice AK nK cK):=fun p=>(Batch.grew_cell (a:=⟨w.heap.size,4,none⟩) b0.lt p).trans (b0.cell 4)
 have f2:∀ p,(Batch.grew w2 p).cell? ⟨w.heap.size,5,none⟩=some (.slice AU nU cU):=fun p=>(Batch.grew_cell (a:=⟨w.heap.size,5,none⟩) b0.lt p).trans (b0.cell 5)
 refine Batch.wp_region_turns [([0,1,3,4,6,7],(2,fun v w'=>w'.ownsRow (w.heap.size+2) 38 4 v nJ (rows joinRow L.joins))),([9],(5,fun v w'=>w'.ownsRow (w.heap.size+2) 42 4 v nK (rows keyRow L.keys))),([],(8,fun v w'=>w'.ownsRow (w.heap.size+2) 45 3 v nU (rows bunRow U)))] [10,11,12,13,14] (by kernel_rfl) (by kernel_rfl) (by
  intro x hx; simp only [List.mem_cons,List.not_mem_nil,or_false] at hx; rcases hx with rfl|rfl|rfl <;> exact stable_own) ?_
 refine Batch.turnsR_cons ?_
 simp only [Batch.pick,List.getD_cons_zero,List.getD_cons_succ]
 repeat (go_big_quiet_step (fail))
 refine wpQuiet_nil ?_
 refine⟨_,rfl,rfl,?_,?_⟩
 ·intro w1 hw1 _
  go_simp
  exact⟨rfl,gives_clone (by have:=hw1.below.size; omega) (kJ.out w1 (HBW.out.trans (hw1.below.mono HBW.out.size)))⟩
 intro v1 _
 refine Batch.turnsR_cons ?_
 simp only [Batch.pick,List.getD_cons_zero,List.getD_cons_succ,List.getElem_toArray,List.getElem_cons_succ,List.getElem_cons_zero,Act.put,List.setIfInBounds_toArray,List.set_cons_zero,List.set_cons_succ]
 repeat (go_big_quiet_step (fail))
 refine wpQuiet_nil ?_
 refine⟨_,rfl,rfl,?_,?_⟩
 ·intro w1 hw1 _
  go_simp
  exact⟨rfl,gives_clone (by have:=hw1.below.size; omega) (kK.out w1 (HBW.out.trans (hw1.below.mono HBW.out.size)))⟩
 intro v2 _
 refine Batch.turnsR_cons ?_
 simp only [Batch.pick,List.getElem_toArray,List.getElem_cons_succ,List.getElem_cons_zero,Act.put,List.setIfInBounds_toArray,List.set_cons_zero,List.set_cons_succ]
 repeat (go_big_quiet_step (fail))
 refine wpQuiet_nil ?_
 refine⟨_,rfl,rfl,?_,?_⟩
 ·intro w1 hw1 _
  go_simp
  exact⟨rfl,gives_clone (by have:=hw1.below.size; omega) (kU.out w1 (HBW.out.trans (hw1.below.mono HBW.out.size)))⟩
 intro v6 _ w3 hw1 hF
 obtain⟨⟨⟨_,o1⟩,o2⟩,o3⟩:=hF
 have p1:=own_below p1 hw1.below (Nat.le_refl _)
 have p2:=own_below p2 hw1.below (Nat.le_refl _)
 have p3:=own_below p3 hw1.below (Nat.le_refl _)
 have hb01:Below w.heap.size w w3:=HBW.out.trans (hw1.below.mono HBW.out.size)
 have d0:=b0.below hw1.below
 have d1:=b1.below hw1.below
 have hz1:=hw1.below.size
 clear f0 f1 f2 kJ kK kU b0 b1 hw1 hbW
 obtain⟨A4,c4,rfl,_,_⟩:=own_form o1
 obtain⟨A5,c5,rfl,_,_⟩:=own_form o2
 obtain⟨A6,c6,rfl,_,_⟩:=own_form o3
 have x0:w3.cell? ⟨w.heap.size,3,none⟩=some (.slice AJ nJ cJ):=d0.cell 3
 have x1:w3.cell? ⟨w.heap.size,4,none⟩=some (.slice AK nK cK):=d0.cell 4
 have x2:w3.cell? ⟨w.heap.size,5,none⟩=some (.slice AU nU cU):=d0.cell 5
 have z0:w3.frozen? ⟨w.heap.size,3,none⟩=false:=d0.froz 3
 have z1:w3.frozen? ⟨w.heap.size,4,none⟩=false:=d0.froz 4
 have z2:w3.frozen? ⟨w.heap.size,5,none⟩=false:=d0.froz 5
 go_upto_region 3 with fail
 obtain⟨w4,hw4⟩:∃ w4,((w3.setCell ⟨w.heap.size,3,none⟩ (.slice A4 nJ c4)).setCell ⟨w.heap.size,4,none⟩ (.slice A5 nK c5)).setCell ⟨w.heap.size,5,none⟩ (.slice A6 nU c6)=w4:=⟨_,rfl⟩
 have b0:Blk w4 w.heap.size [.slice A1 nE c1,.slice A2 nN c2,.slice A3 nB c3,.slice A4 nJ c4,.slice A5 nK c5,.slice A6 nU c6] 30:=by rw [← hw4]; exact((d0.set 3 _).set 4 _).set 5 _
 have b1:Blk w4 (w.heap.size+1) (lgCells (.slice none 0 0)) 30:=by
  rw [← hw4]; exact((d1.set_ne (p:=⟨w.heap.size,3,none⟩) (by simp) _).set_ne (p:=⟨w.heap.size,4,none⟩) (by simp) _).set_ne (p:=⟨w.heap.size,5,none⟩) (by simp) _
 have hs2:∀ {B n k:Nat} {v:Value} {e:TypeId} {xs:List Value},w3.ownsRow B e k v n xs→w.heap.size+2≤B→w4.ownsRow B e k v n xs:=fun h hB=>by
  rw [← hw4]; exact ownsRow_setCell_below (ownsRow_setCell_below (ownsRow_setCell_below h (a:=⟨w.heap.size,3,none⟩) (by simp; omega) _) (a:=⟨w.heap.size,4,none⟩) (by simp; omega) _) (a:=⟨w.heap.size,5,none⟩) (by simp; omega) _
 have hbW:Below w.heap.size w w4:=by
  rw [← hw4]; exact((hb01.setCell (p:=⟨w.heap.size,3,none⟩) (Nat.le_refl _) _).setCell (p:=⟨w.heap.size,4,none⟩) (Nat.le_refl _) _).setCell (p:=⟨w.heap.size,5,none⟩) (Nat.le_refl _) _
 have HBW:=Lib.hid hbW
 have p4:=hs2 o1 (Nat.le_refl _)
 have p5:=hs2 o2 (Nat.le_refl _)
 have p6:=hs2 o3 (Nat.le_refl _)
 have p1:=hs2 p1 (Nat.le_refl _)
 have p2:=hs2 p2 (Nat.le_refl _)
 have p3:=hs2 p3 (Nat.le_refl _)
 rw [hw4]
 clear hs2 hw4 x0 x1 x2 z0 z1 z2 o1 o2 o3 hb01 d0 d1
 have hC0:CS w (.slice A1 nE c1) (.slice A2 nN c2) (.slice A3 nB c3) (.slice A4 nJ c4) (.slice A5 nK c5) (.slice A6 nU c6) L w4:=⟨by rw [lN]; exact p2,by rw [lB]; exact p3,by rw [lJ]; exact p4,by rw [lK]; exact p5,b0,b1,hbW⟩
 have hI0:InRow entRow 5 36 9 1 strRow Led.Entry.sels (fun u=>Apart u (.slice A3 nB c3)) (w.heap.size+2) (.slice A1 nE c1) E 0 w4:=InRow.start (by rw [lE]; exact p1)
 have hU0:w4.ownsRow (w.heap.size+2) 45 3 (.slice A6 nU c6) U.length (rows bunRow U):=by rw [lU]; exact p6
 have v0:w4.cell? ⟨w.heap.size,0,none⟩=some (.slice A1 nE c1):=b0.cell 0
 clear p1 p2 p3 p4 p5 p6 hbW b0 b1 HBW
 go_wp2
 go_loopw [3,32] (fun _ i wr=>∃ j:Nat,i=.int .i64 (j:Int)∧j≤nE∧Hid (CS w (.slice A1 nE c1) (.slice A2 nN c2) (.slice A3 nB c3) (.slice A4 nJ c4) (.slice A5 nK c5) (.slice A6 nU c6) L wr∧InRow entRow 5 36 9 1 strRow Led.Entry.sels (fun u=>Apart u (.slice A3 nB c3)) (w.heap.size+2) (.slice A1 nE c1) E j wr∧wr.ownsRow (w.heap.size+2) 45 3 (.slice A6 nU c6) U.length (rows bunRow U))) (fun _ i _=>nE - (intOf i).toNat)
 case atStart=>exact⟨0,rfl,Nat.zero_le _,Lib.hid ⟨hC0,hI0,hU0⟩⟩
 case round =>
  obtain⟨j,rfl,hj,hH⟩:=hrel; obtain⟨wy,hwy⟩:∃ wy,wy=wr:=⟨_,rfl⟩; subst hwy; by_cases hjn:j<nE
  ·have hjz:(j:Int)<(nE:Int):=by omega
   have hjE:j<E.length:=by omega
   obtain⟨g,c',hv,hbg,hgw,hcell,hstep⟩:=hH.out.2.1.step (fun x=>entRow_len x) (f:=4) (by omega) (fun _ _=>rfl) (fun _=>rfl) (by decide) hjE; injection hv with hv1 hv2 hv3
   subst hv1; clear hv2 hv3; obtain⟨A7,n7,c7,hE7,hf7,ht7⟩:=hsel _ (List.getElem_mem hjE); have hl7:=ht7.len; have hs7:E[j].1.sels.length≤1000:=hs.s _ (by rw [← hEs]; exact List.mem_map.2 ⟨_,List.getElem_mem hjE,rfl⟩)
   have hC:=hH.out.1; have hzy:w.heap.size+2≤wy.heap.size:=by have:=hC.b1.lt; omega
   have fa:∀ p,(Batch.grew wy p).cell? ⟨w.heap.size,0,none⟩=some (.slice (some ⟨g,0,none⟩) nE c1):=fun p=>(Batch.grew_cell (a:=⟨w.heap.size,0,none⟩) hC.b0.lt p).trans (hC.b0.cell 0); have fb:∀ p,(Batch.grew wy p).cell? ⟨g,j * 5+4,none⟩=some (.slice A7 n7 c7):=fun p=>by rw [(hcell _ (Batch.grew_below wy p)).1,hE7]
   have k7:=Lib.hid (fun wx (hx:Below w.heap.size w wx)=>clnStr_any A7 n7 c7 (rows strRow E[j].1.sels) wx (by rw [tv_rows]; exact Ts.below ht7 hx) (by omega) hf7.2.2 (one_str _))
   have HC:=Lib.hid hC.bel; have HST:=Lib.hid hstep; have HCL:=Lib.hid hcell; clear hcell hstep hC; go_upto_region 6 with fail
   refine Batch.wp_region_turns [([0,1,2,3,4,5,6,7,8],(9,fun v w'=>w'.ownsRow wy.heap.size 9 1 v n7 (rows strRow E[j].1.sels)))] [10,11,12] (by kernel_rfl) (by kernel_rfl) (by
    intro x hx; simp only [List.mem_cons,List.not_mem_nil,or_false] at hx; subst hx; exact stable_own) ?_
   refine Batch.turnsR_cons ?_; simp only [Batch.pick,List.getD_cons_zero,List.getD_cons_succ]; repeat (go_big_quiet_step (fail))
   refine wpQuiet_nil ?_; refine⟨_,rfl,rfl,?_,?_⟩
   ·intro w1 hw1 _
    go_simp
    exact⟨rfl,gives_clone (by have:=hw1.below.size; omega) (k7.out w1 (HC.out.trans (hw1.below.mono HC.out.size)))⟩
   intro v7 _ w5 hw5 hF; obtain⟨_,o1⟩:=hF; have hb5:=hw5.below; obtain⟨A8,c8,rfl,_,_⟩:=own_form o1; obtain⟨q1,q2,M,hM⟩:=HCL.out w5 hb5; rw [hE7] at q1; have hCS:=Lib.hid (hH.out.1.step (u:=.slice A8 n7 c8) (o:=j * 5+4) hb5 hbg hM (.inl rfl)); have hIR:=Lib.hid (HST.out w5 (.slice A8 n7 c8) hb5 (own_base (by rw [← hl7] at o1 ⊢; exact o1) hzy) (by
    cases hq:(Value.slice A8 n7 c8).ownBlock with
    | none=>exact .inl hq
    | some b =>
     refine .inr ?_; rw [hq]; intro e; have h1:=(own_lt o1 hq).1; have h2:=(own_lt hH.out.1.oB e.symm).2; omega))
   have hUR:=Lib.hid (own_at (a:=⟨g,j * 5+4,none⟩) (x:=.slice A8 n7 c8) (own_below hH.out.2.2 hb5 (Nat.le_refl _)) (own_ne (own_below hH.out.2.2 hb5 (Nat.le_refl _)) hM (by decide))); clear hH fa fb k7 HCL HST hw5; go_wp2_with fail
   (try rw [Batch.Qn_normal])
   (try go_wp2)
   go_roundw
   case rel=>exact⟨j+1,by go_num,by omega,Lib.hid ⟨hCS.out,hIR.out,hUR.out⟩⟩
   case measure=>simp [intOf]; omega
  ·obtain⟨hC,hI,hU⟩:=hH.out
   have hje:j=nE:=by omega
   have u5:wy.cell? ⟨w.heap.size,5,none⟩=some (.slice A6 nU c6):=hC.b0.cell 5; rw [hje] at hI; have HI:=Lib.hid hI; have HCC:=Lib.hid hC; clear hH hI hC hC0 hI0 hU0 v0; go_wp2; go_loopw [4,51] (fun _ i wr=>∃ k:Nat,i=.int .i64 (k:Int)∧k≤nU∧Hid (CS w (.slice A1 nE c1) (.slice A2 nN c2) (.slice A3 nB c3) (.slice A4 nJ c4) (.slice A5 nK c5) (.slice A6 nU c6) L wr∧InRow entRow 5 36 9 1 strRow Led.Entry.sels (fun u=>Apart u (.slice A3 nB c3)) (w.heap.size+2) (.slice A1 nE c1) E nE wr∧InRow bunRow 3 45 54 2 jwkRow Led.Bundle.keys (fun _=>True) (w.heap.size+2) (.slice A6 nU c6) U k wr)) (fun _ i _=>nU - (intOf i).toNat)
   case atStart=>exact⟨0,rfl,Nat.zero_le _,Lib.hid ⟨HCC.out,HI.out,InRow.start hU⟩⟩
   case round =>
    obtain⟨k,rfl,hk,hH⟩:=hrel; obtain⟨wx,hwx⟩:∃ wx,wx=wr:=⟨_,rfl⟩; subst hwx; by_cases hkn:k<nU
    ·have hkz:(k:Int)<(nU:Int):=by omega
     have hkU:k<U.length:=by omega
     obtain⟨g,c',hv,hbg,hgw,hcell,hstep⟩:=hH.out.2.2.step (fun x=>bunRow_len x) (f:=2) (by omega) (fun _ _=>rfl) (fun _=>rfl) (by decide) hkU; injection hv with hv1 hv2 hv3
     subst hv1; clear hv2 hv3; obtain⟨A7,n7,c7,hE7,hf7,ht7⟩:=hkey _ (List.getElem_mem hkU); have hl7:=ht7.len jwkRow_len (by omega); have hs7:U[k].1.keys.length≤1000:=hs.y _ (by rw [← hUs]; exact List.mem_map.2 ⟨_,List.getElem_mem hkU,rfl⟩)
     have hC:=hH.out.1; have hzy:w.heap.size+2≤wx.heap.size:=by have:=hC.b1.lt; omega
     have fa:∀ p,(Batch.grew wx p).cell? ⟨w.heap.size,5,none⟩=some (.slice (some ⟨g,0,none⟩) nU c6):=fun p=>(Batch.grew_cell (a:=⟨w.heap.size,5,none⟩) hC.b0.lt p).trans (hC.b0.cell 5); have fb:∀ p,(Batch.grew wx p).cell? ⟨g,k * 3+2,none⟩=some (.slice A7 n7 c7):=fun p=>by rw [(hcell _ (Batch.grew_below wx p)).1,hE7]
     have k7:=Lib.hid (fun wz (hz:Below w.heap.size w wz)=>clnJwk_any A7 n7 c7 (rows jwkRow U[k].1.keys) wz (Es.below ht7 hz) (by omega) hf7.2.2 (one_jwk _)); have HC:=Lib.hid hC.bel; have HST:=Lib.hid hstep; have HCL:=Lib.hid hcell; clear hcell hstep hC; go_upto_region 11 with fail
     refine Batch.wp_region_turns [([0,1,2,3,4,5,6,7,8],(9,fun v w'=>w'.ownsRow wx.heap.size 54 2 v n7 (rows jwkRow U[k].1.keys)))] [10,11,12] (by kernel_rfl) (by kernel_rfl) (by
      intro x hx; simp only [List.mem_cons,List.not_mem_nil,or_false] at hx; subst hx; exact stable_own) ?_
     refine Batch.turnsR_cons ?_; simp only [Batch.pick,List.getD_cons_zero,List.getD_cons_succ]; repeat (go_big_quiet_step (fail))
     refine wpQuiet_nil ?_; refine⟨_,rfl,rfl,?_,?_⟩
     ·intro w1 hw1 _
      go_simp
      exact⟨rfl,gives_clone (by have:=hw1.below.size; omega) (k7.out w1 (HC.out.trans (hw1.below.mono HC.out.size)))⟩
     intro v7 _ w5 hw5 hF; obtain⟨_,o1⟩:=hF; have hb5:=hw5.below; obtain⟨A8,c8,rfl,_,_⟩:=own_form o1; obtain⟨q1,q2,M,hM⟩:=HCL.out w5 hb5; rw [hE7] at q1; have hCS:=Lib.hid (hH.out.1.step (u:=.slice A8 n7 c8) (o:=k * 3+2) hb5 hbg hM (.inr rfl)); have hIR:=Lib.hid (HST.out w5 (.slice A8 n7 c8) hb5 (own_base (by rw [← hl7] at o1 ⊢; exact o1) hzy) trivial)
     have hER:=Lib.hid ((hH.out.2.1.below hb5).other (o:=k * 3+2) (u:=.slice A8 n7 c8) hM (by decide) (by decide)); clear hH fa fb k7 HCL HST hw5; go_wp2_with fail
     (try rw [Batch.Qn_normal])
     (try go_wp2)
     go_roundw
     case rel=>exact⟨k+1,by go_num,by omega,Lib.hid ⟨hCS.out,hER.out,hIR.out⟩⟩
     case measure=>simp [intOf]; omega
    ·obtain⟨hC,⟨E',hE1,hE2,hE3,hE4⟩,⟨U',hU1,hU2,hU3,hU4⟩⟩:=hH.out
     have hlE':E'.length=E.length:=by have:=congrArg List.length hE1; simpa using this
     have hlU':U'.length=U.length:=by have:=congrArg List.length hU1; simpa using this
     have hwk:Wk (w.heap.size+2) wx (.slice A1 nE c1) (.slice A2 nN c2) (.slice A3 nB c3) (.slice A4 nJ c4) (.slice A5 nK c5) (.slice A6 nU c6) L E' U' :=
      ⟨by rw [hlE']; exact hE2,hC.oN,hC.oB,hC.oJ,hC.oK,by rw [hlU']; exact hU2,hE1.trans hEs,hU1.trans hUs,fun p hp=>by
       obtain⟨i,hi,rfl⟩:=List.getElem_of_mem hp; exact hE3 i (by omega) _ (List.getElem?_eq_getElem hi),fun p hp=>by
       obtain⟨i,hi,rfl⟩:=List.getElem_of_mem hp; exact(hU3 i (by omega) _ (List.getElem?_eq_getElem hi)).1⟩
     have hld:=load_lg hC.b0 rfl; obtain⟨hst,hSt⟩:=store_lg hC.b1 rfl (vs:=[.slice A1 nE c1,.slice A2 nN c2,.slice A3 nB c3,.slice A4 nJ c4,.slice A5 nK c5,.slice A6 nU c6]) rfl hwk.ones; obtain⟨wf,hwf⟩:∃ wf,wx.setCells (w.heap.size+1) 0 [.slice A1 nE c1,.slice A2 nN c2,.slice A3 nB c3,.slice A4 nJ c4,.slice A5 nK c5,.slice A6 nU c6]=wf:=⟨_,rfl⟩; have hof:Wk (w.heap.size+2) wf (.slice A1 nE c1) (.slice A2 nN c2) (.slice A3 nB c3) (.slice A4 nJ c4) (.slice A5 nK c5) (.slice A6 nU c6) L E' U':=by rw [← hwf]; exact hwk.setCells (by omega) _
     have hbf:Below w.heap.size w wf:=by
      rw [← hwf]; exact((Chg.of_below (S:=[]) hC.bel).setCells _ (.inr (by omega))).below (by simp)
     rw [hwf] at hst hSt; have hHh:=hSt.has (n:=6) rfl; have hA:=hSt.arr (n:=6) rfl; have HOF:=Lib.hid (hof.lower (b:=w.heap.size) (by omega)); clear hH hwf hwk hE2 hE3 hE4 hU2 hU3 hU4 hof HI HCC hC; go_wp2; refine bodyPost_ret (results_arr (P:=Tryz.prog) Tryz.results27 _ _ (w.heap.size+1) 0 6 _ rfl Tryz.underlying30 rfl size_ledger hHh) rfl ?_; exact⟨_,_,_,_,_,_,E',U',congrArg (fun a=>Ending.returned (Value.agg a)) hA,HOF.out,hbf⟩
end
section
open Go.RowKit Mem Led
structure LAt (base gl:Nat) (w:World) (vE vN vB vJ vK vU:Value) (L:Led.Ledger) (E:List (Led.Entry × Value)) (U:List (Led.Bundle × Value)):Prop where
 wk:Wk base w vE vN vB vJ vK vU L E U
 blk:Blk w gl [vE,vN,vB,vJ,vK,vU] 30
 hgl:base≤gl
 hb:base≤w.heap.size
def Did (base gl:Nat) (r:Led.Ledger × Int) (w:World) (x:Ending) (w':World):Prop :=
 x=.returned (.int .i64 r.2)∧Below base w w'∧(r.2=0→∃ vE vN vB vJ vK vU E U,LAt base gl w' vE vN vB vJ vK vU r.1 E U)
theorem apart_new{w:World} {u v v':Value} {b k n:Nat} {e:TypeId} {xs:List Value} (hap:Apart u v) (hu:w.ownsRow b e k u n xs) (hv:v'.ownBlock=v.ownBlock∨∃ g,w.heap.size≤g∧v'.ownBlock=some g):Apart u v':=by
 rcases hv with h|⟨g,hg,h⟩
 ·unfold Apart at hap ⊢
  rw [h]; exact hap
 ·cases hq:u.ownBlock with
  | none=>exact .inl hq
  | some b =>
   refine .inr ?_; rw [hq,h]; intro e; injection e with e
   have:=(own_lt hu hq).2; omega
section
variable {base gl:Nat} {w w':World} {vE vN vB vJ vK vU:Value} {L:Led.Ledger} {E E2:List (Led.Entry × Value)} {U U2:List (Led.Bundle × Value)}
theorem LAt.slotE(H:LAt base gl w vE vN vB vJ vK vU L E U) {l:List Led.Entry} (hS:Slot entRow 5 36 base gl 0 vE E2 w w') (hl:E2.map Prod.fst=l) (hi:∀ p∈E2,w.ownsRow base 9 1 p.2 p.1.sels.length (rows strRow p.1.sels)∧Apart p.2 vB) :
  ∃ v',LAt base gl w' v' vN vB vJ vK vU { L with entries:=l } E2 U∧Below base w w':=by
 obtain⟨h,hb,hg,hw⟩:=H
 have n0:=own_ne h.oE hb (by decide)
 obtain⟨v',hB',ho,_,_⟩:=hS.opened hb n0
 have keep:∀ {e:TypeId} {k n:Nat} {u:Value} {xs:List Value},w.ownsRow base e k u n xs→e≠36→e≠30→w'.ownsRow base e k u n xs:=fun hu h1 h2=>hS.keeps hu (own_apart hu h.oE h1) (own_ne hu hb h2)
 exact⟨v',⟨⟨ho,keep h.oN (by decide) (by decide),keep h.oB (by decide) (by decide),keep h.oJ (by decide) (by decide),keep h.oK (by decide) (by decide),keep h.oU (by decide) (by decide),hl,h.buns,fun p hp=>⟨keep (hi p hp).1 (by decide) (by decide),(hi p hp).2⟩,fun p hp=>keep (h.keyss p hp) (by decide) (by decide)⟩,hB',hg,Nat.le_trans hw hS.size⟩,hS.below hg (fun g hg=>(own_lt h.oE hg).1) hw⟩
theorem LAt.slotU(H:LAt base gl w vE vN vB vJ vK vU L E U) {l:List Led.Bundle} (hS:Slot bunRow 3 45 base gl 5 vU U2 w w') (hl:U2.map Prod.fst=l) (hi:∀ p∈U2,w.ownsRow base 54 2 p.2 p.1.keys.length (rows jwkRow p.1.keys)) :
  ∃ v',LAt base gl w' vE vN vB vJ vK v' { L with bundles:=l } E U2∧Below base w w':=by
 obtain⟨h,hb,hg,hw⟩:=H
 have n0:=own_ne h.oU hb (by decide)
 obtain⟨v',hB',ho,_,_⟩:=hS.opened hb n0
 have keep:∀ {e:TypeId} {k n:Nat} {u:Value} {xs:List Value},w.ownsRow base e k u n xs→e≠45→e≠30→w'.ownsRow base e k u n xs:=fun hu h1 h2=>hS.keeps hu (own_apart hu h.oU h1) (own_ne hu hb h2)
 exact⟨v',⟨⟨keep h.oE (by decide) (by decide),keep h.oN (by decide) (by decide),keep h.oB (by decide) (by decide),keep h.oJ (by decide) (by decide),keep h.oK (by decide) (by decide),ho,h.ents,hl,fun p hp=>⟨keep (h.sels p hp).1 (by decide) (by decide),(h.sels p hp).2⟩,fun p hp=>keep (hi p hp) (by decide) (by decide)⟩,hB',hg,Nat.le_trans hw hS.size⟩,hS.below hg (fun g hg=>(own_lt h.oU hg).1) hw⟩
theorem LAt.slotN(H:LAt base gl w vE vN vB vJ vK vU L E U) {l:List Led.Node} (hS:Slot nodeRow 5 40 base gl 1 vN l w w') :
  ∃ v',LAt base gl w' vE v' vB vJ vK vU { L with nodes:=l } E U∧Below base w w':=by
 obtain⟨h,hb,hg,hw⟩:=H
 have n0:=own_ne h.oN hb (by decide)
 obtain⟨v',hB',ho,_,_⟩:=hS.opened hb n0
 have keep:∀ {e:TypeId} {k n:Nat} {u:Value} {xs:List Value},w.ownsRow base e k u n xs→e≠40→e≠30→w'.ownsRow base e k u n xs:=fun hu h1 h2=>hS.keeps hu (own_apart hu h.oN h1) (own_ne hu hb h2)
 exact⟨v',⟨⟨keep h.oE (by decide) (by decide),ho,keep h.oB (by decide) (by decide),keep h.oJ (by decide) (by decide),keep h.oK (by decide) (by decide),keep h.oU (by decide) (by decide),h.ents,h.buns,fun p hp=>⟨keep (h.sels p hp).1 (by decide) (by decide),(h.sels p hp).2⟩,fun p hp=>keep (h.keyss p hp) (by decide) (by decide)⟩,hB',hg,Nat.le_trans hw hS.size⟩,hS.below hg (fun g hg=>(own_lt h.oN hg).1) hw⟩
theorem LAt.slotJ(H:LAt base gl w vE vN vB vJ vK vU L E U) {l:List Led.Join} (hS:Slot joinRow 4 38 base gl 3 vJ l w w') :
  ∃ v',LAt base gl w' vE vN vB v' vK vU { L with joins:=l } E U∧Below base w w':=by
 obtain⟨h,hb,hg,hw⟩:=H
 have n0:=own_ne h.oJ hb (by decide)
 obtain⟨v',hB',ho,_,_⟩:=hS.opened hb n0
 have keep:∀ {e:TypeId} {k n:Nat} {u:Value} {xs:List Value},w.ownsRow base e k u n xs→e≠38→e≠30→w'.ownsRow base e k u n xs:=fun hu h1 h2=>hS.keeps hu (own_apart hu h.oJ h1) (own_ne hu hb h2)
 exact⟨v',⟨⟨keep h.oE (by decide) (by decide),keep h.oN (by decide) (by decide),keep h.oB (by decide) (by decide),ho,keep h.oK (by decide) (by decide),keep h.oU (by decide) (by decide),h.ents,h.buns,fun p hp=>⟨keep (h.sels p hp).1 (by decide) (by decide),(h.sels p hp).2⟩,fun p hp=>keep (h.keyss p hp) (by decide) (by decide)⟩,hB',hg,Nat.le_trans hw hS.size⟩,hS.below hg (fun g hg=>(own_lt h.oJ hg).1) hw⟩
theorem LAt.slotK(H:LAt base gl w vE vN vB vJ vK vU L E U) {l:List Led.Key} (hS:Slot keyRow 4 42 base gl 4 vK l w w') :
  ∃ v',LAt base gl w' vE vN vB vJ v' vU { L with keys:=l } E U∧Below base w w':=by
 obtain⟨h,hb,hg,hw⟩:=H
 have n0:=own_ne h.oK hb (by decide)
 obtain⟨v',hB',ho,_,_⟩:=hS.opened hb n0
 have keep:∀ {e:TypeId} {k n:Nat} {u:Value} {xs:List Value},w.ownsRow base e k u n xs→e≠42→e≠30→w'.ownsRow base e k u n xs:=fun hu h1 h2=>hS.keeps hu (own_apart hu h.oK h1) (own_ne hu hb h2)
 exact⟨v',⟨⟨keep h.oE (by decide) (by decide),keep h.oN (by decide) (by decide),keep h.oB (by decide) (by decide),keep h.oJ (by decide) (by decide),ho,keep h.oU (by decide) (by decide),h.ents,h.buns,fun p hp=>⟨keep (h.sels p hp).1 (by decide) (by decide),(h.sels p hp).2⟩,fun p hp=>keep (h.keyss p hp) (by decide) (by decide)⟩,hB',hg,Nat.le_trans hw hS.size⟩,hS.below hg (fun g hg=>(own_lt h.oK hg).1) hw⟩
theorem LAt.slotB(H:LAt base gl w vE vN vB vJ vK vU L E U) {l:List Txt} (hS:Slot strRow 1 9 base gl 2 vB l w w') :
  ∃ v',LAt base gl w' vE vN v' vJ vK vU { L with bans:=l } E U∧Below base w w':=by
 obtain⟨h,hb,hg,hw⟩:=H
 have n0:=own_ne h.oB hb (by decide)
 obtain⟨v',hB',ho,_,hv'⟩:=hS.opened hb n0
 have keep:∀ {e:TypeId} {k n:Nat} {u:Value} {xs:List Value},w.ownsRow base e k u n xs→e≠9→e≠30→w'.ownsRow base e k u n xs:=fun hu h1 h2=>hS.keeps hu (own_apart hu h.oB h1) (own_ne hu hb h2)
 exact⟨v',⟨⟨keep h.oE (by decide) (by decide),keep h.oN (by decide) (by decide),ho,keep h.oJ (by decide) (by decide),keep h.oK (by decide) (by decide),keep h.oU (by decide) (by decide),h.ents,h.buns,fun p hp=>⟨hS.keeps (h.sels p hp).1 (h.sels p hp).2 (own_ne (h.sels p hp).1 hb (by decide)),apart_new (h.sels p hp).2 (h.sels p hp).1 hv'⟩,fun p hp=>keep (h.keyss p hp) (by decide) (by decide)⟩,hB',hg,Nat.le_trans hw hS.size⟩,hS.below hg (fun g hg=>(own_lt h.oB hg).1) hw⟩
theorem Did.err{k:Int} {x:Ending} (hb:base≤w.heap.size) (hk:k≠0) (h:x=.returned (.int .i64 k)∧Below w.heap.size w w'):Did base gl (L,k) w x w':=⟨h.1,h.2.mono hb,fun e=>absurd e hk⟩
theorem Did.ok{L':Led.Ledger} {vE vN vB vJ vK vU:Value} {E:List (Led.Entry × Value)} {U:List (Led.Bundle × Value)} (h:LAt base gl w' vE vN vB vJ vK vU L' E U) (hb:Below base w w'):Did base gl (L',0) w (.returned (.int .i64 0)) w':=⟨rfl,hb,fun _=>⟨vE,vN,vB,vJ,vK,vU,E,U,h⟩⟩
end
structure Sized (o:Led.Op):Prop where
 nm:o.name.length≤9223372036854775807
 ep:o.entry.path.length≤9223372036854775807
 er:o.entry.parent.length≤9223372036854775807
 es:∀ x∈o.entry.sels,x.length≤9223372036854775807
 el:o.entry.sels.length≤1000
 jt:o.join.text.length≤9223372036854775807
 jn:o.join.name.length≤9223372036854775807
 nn:o.node.name.length≤9223372036854775807
 ud:o.bundle.domain.length≤9223372036854775807
 ul:o.bundle.keys.length≤1000
theorem Led.Ledger.Wf.small{L:Led.Ledger} (h:L.Wf):L.Small:=by
 have:=h.e3; have:=h.n3; have:=h.b3; have:=h.j3; have:=h.k3; have:=h.u3
 exact⟨by omega,by omega,by omega,by omega,by omega,by omega,h.e4,h.u2⟩
section
variable {base gl:Nat} {w w':World} {vE vN vB vJ vK vU sv kv:Value} {L:Led.Ledger} {E E2:List (Led.Entry × Value)} {U U2:List (Led.Bundle × Value)} {o:Led.Op}
theorem any_fst{α β:Type} {E:List (α × β)} {l:List α} (h:E.map Prod.fst=l) (p:α→Bool):(E.any fun x=>p x.1)=l.any p:=by
 subst h
 rw [List.any_map]
 rfl
theorem erase_fst{α β:Type} {E:List (α × β)} {l:List α} (h:E.map Prod.fst=l) (p:α→Bool):(E.eraseP fun x=>p x.1).map Prod.fst=l.eraseP p:=by
 subst h
 rw [List.eraseP_map]
 rfl
theorem ins_fst{α β:Type} {c:α→α→Int} {E:List (α × β)} {l:List α} (h:E.map Prod.fst=l) (x:α) (v:β):(ins (fun a b:α × β=>c a.1 b.1) (x,v) E).map Prod.fst=ins c x l:=by
 subst h
 unfold ins
 rw [List.map_append,List.map_cons,List.filter_map,List.filter_map]
 rfl
theorem rises_fst{α β:Type} {c:α→α→Int} {E:List (α × β)} {l:List α} (h:E.map Prod.fst=l) (hr:Rises c l):Rises (fun a b:α × β=>c a.1 b.1) E:=by
 subst h
 exact List.pairwise_map.1 hr
theorem did_gone(H:LAt base gl w vE vN vB vJ vK vU L E U) (hL:L.Wf):Calls Tryz.prog 43 #[.pointer (some ⟨gl,0,none⟩),.agg (opCells o sv kv).toArray] w (Did base gl (doGone L o.n) w):=by
 have hlen:E.length=L.entries.length:=by rw [← H.wk.ents,List.length_map]
 have h3:=hL.e3
 refine(goneEntry_any gl _ _ o.n E base vE w (by omega) rfl H.blk rfl H.wk.oE (own_ne H.wk.oE H.blk (by decide)) (fun y hy=>?_)).mono ?_
 ·intro u hu
  exact one_ent (w:=w) (E:=E) (fun p hp=>own_texts (H.wk.sels p hp).1) u (List.mem_flatten.2 ⟨entRow y,List.mem_map.2 ⟨y,hy,rfl⟩,hu⟩)
 intro x w' hq
 unfold Gone at hq
 rw [any_fst (l:=L.entries) H.wk.ents (fun e=>e.n==o.n)] at hq
 unfold doGone
 split at hq
 ·obtain⟨rfl,hS⟩:=hq
  rename_i hc
  rw [if_pos hc]; obtain⟨v',h1,h2⟩:=H.slotE hS (erase_fst (l:=L.entries) H.wk.ents (fun e=>e.n==o.n)) (fun p hp=>H.wk.sels p (erase_mem hp)); exact Did.ok h1 h2
 ·rename_i hc
  rw [if_neg hc]; exact Did.err H.hb (by decide) hq
theorem did_unbind(H:LAt base gl w vE vN vB vJ vK vU L E U) (hL:L.Wf):Calls Tryz.prog 54 #[.pointer (some ⟨gl,0,none⟩),.agg (opCells o sv kv).toArray] w (Did base gl (doUnbind L o.name) w):=by
 have hlen:U.length=L.bundles.length:=by rw [← H.wk.buns,List.length_map]
 have h3:=hL.u3
 refine(unbind_any gl _ _ o.name U base vU w (by omega) rfl H.blk rfl H.wk.oU (own_ne H.wk.oU H.blk (by decide)) (fun y hy=>?_)).mono ?_
 ·intro u hu
  exact one_bun (w:=w) (U:=U) (fun p hp=>own_elems (H.wk.keyss p hp)) u (List.mem_flatten.2 ⟨bunRow y,List.mem_map.2 ⟨y,hy,rfl⟩,hu⟩)
 intro x w' hq
 unfold Gone at hq
 rw [any_fst (l:=L.bundles) H.wk.buns (fun e=>e.domain==o.name)] at hq
 unfold doUnbind
 split at hq
 ·obtain⟨rfl,hS⟩:=hq
  rename_i hc
  rw [if_pos hc]; obtain⟨v',h1,h2⟩:=H.slotU hS (erase_fst (l:=L.bundles) H.wk.buns (fun e=>e.domain==o.name)) (fun p hp=>H.wk.keyss p (erase_mem hp)); exact Did.ok h1 h2
 ·rename_i hc
  rw [if_neg hc]; exact Did.err H.hb (by decide) hq
theorem did_lift(H:LAt base gl w vE vN vB vJ vK vU L E U) (hL:L.Wf):Calls Tryz.prog 48 #[.pointer (some ⟨gl,0,none⟩),.agg (opCells o sv kv).toArray] w (Did base gl (doLift L o.name) w):=by
 have h3:=hL.b3
 refine(lift_any gl _ _ o.name L.bans base vB w (by omega) rfl H.blk rfl H.wk.oB (own_ne H.wk.oB H.blk (by decide))).mono ?_
 intro x w' hq
 unfold Gone at hq
 unfold doLift
 split at hq
 ·obtain⟨rfl,hS⟩:=hq
  rename_i hc
  rw [if_pos hc]; obtain⟨v',h1,h2⟩:=H.slotB hS; exact Did.ok h1 h2
 ·rename_i hc
  rw [if_neg hc]; exact Did.err H.hb (by decide) hq
theorem row_one{α:Type} {enc:α→List Value} {l:List α} (h:∀ u∈rows enc l,u.oneCell'=true):∀ y∈l,∀ u∈enc y,u.oneCell'=true:=fun y hy u hu=>h u (List.mem_flatten.2 ⟨enc y,List.mem_map.2 ⟨y,hy,rfl⟩,hu⟩)
theorem did_evict(H:LAt base gl w vE vN vB vJ vK vU L E U) (hL:L.Wf):Calls Tryz.prog 49 #[.pointer (some ⟨gl,0,none⟩),.agg (opCells o sv kv).toArray] w (Did base gl (doEvict L o.name) w):=by
 have h3:=hL.n3
 refine(evict_any gl _ _ o.name L.nodes base vN w (by omega) rfl H.blk rfl H.wk.oN (own_ne H.wk.oN H.blk (by decide)) (row_one (one_node _))).mono ?_
 intro x w' hq
 unfold Gone at hq
 unfold doEvict
 split at hq
 ·obtain⟨rfl,hS⟩:=hq
  rename_i hc
  rw [if_pos hc]; obtain⟨v',h1,h2⟩:=H.slotN hS; exact Did.ok h1 h2
 ·rename_i hc
  rw [if_neg hc]; exact Did.err H.hb (by decide) hq
theorem did_drop(H:LAt base gl w vE vN vB vJ vK vU L E U) (hL:L.Wf):Calls Tryz.prog 52 #[.pointer (some ⟨gl,0,none⟩),.agg (opCells o sv kv).toArray] w (Did base gl (doDrop L o.name) w):=by
 have h3:=hL.k3
 refine(drop_any gl _ _ o.name L.keys base vK w (by omega) rfl H.blk rfl H.wk.oK (own_ne H.wk.oK H.blk (by decide)) (row_one (one_key _))).mono ?_
 intro x w' hq
 unfold Gone at hq
 unfold doDrop
 split at hq
 ·obtain⟨rfl,hS⟩:=hq
  rename_i hc
  rw [if_pos hc]; obtain⟨v',h1,h2⟩:=H.slotK hS; exact Did.ok h1 h2
 ·rename_i hc
  rw [if_neg hc]; exact Did.err H.hb (by decide) hq
theorem node_did(H:LAt base gl w vE vN vB vJ vK vU L E U) {n:Led.Node} {x:Ending} (hq:NodePut base gl vN L.nodes L.bans n w x w') :
  x=.returned (.int .i64 (doNode L n).2)∧Below base w w'∧((doNode L n).2=0→∃ v' l,(doNode L n).1={ L with nodes:=l }∧LAt base gl w' vE v' vB vJ vK vU { L with nodes:=l } E U):=by
 unfold NodePut at hq
 unfold doNode
 split at hq
 ·rename_i h1
  rw [if_pos h1]; split at hq
  ·rename_i h2
   rw [if_pos h2]; exact⟨hq.1,hq.2.mono H.hb,fun e=>by cases e⟩
  ·rename_i h2
   rw [if_neg h2]; unfold Puts at hq
   cases hp:put cN 4 n L.nodes with
   | none =>
    rw [hp] at hq; exact⟨hq.1,hq.2.mono H.hb,fun e=>by cases e⟩
   | some l =>
    rw [hp] at hq; obtain⟨rfl,hS⟩:=hq; obtain⟨v',g1,g2⟩:=H.slotN hS; exact⟨rfl,g2,fun _=>⟨v',l,rfl,g1⟩⟩
 ·rename_i h1
  rw [if_neg h1]; exact⟨hq.1,hq.2.mono H.hb,fun e=>by cases e⟩
theorem did_node(H:LAt base gl w vE vN vB vJ vK vU L E U) (hL:L.Wf) (ho:Sized o):Calls Tryz.prog 46 #[.pointer (some ⟨gl,0,none⟩),.agg (opCells o sv kv).toArray] w (Did base gl (doNode L o.node) w):=by
 refine(putNode_any gl o sv kv _ L.nodes L.bans base vN vB w ho.nn hL.n3 hL.b3 hL.n1 H.hb H.blk rfl rfl H.wk.oN (own_ne H.wk.oN H.blk (by decide)) H.wk.oB).mono ?_
 intro x w' hq
 obtain⟨h1,h2,h3⟩:=node_did H hq
 refine⟨h1,h2,fun e=>?_⟩
 obtain⟨v',l,e1,h4⟩:=h3 e
 rw [e1]
 exact⟨_,_,_,_,_,_,_,_,h4⟩
theorem did_seq(H:LAt base gl w vE vN vB vJ vK vU L E U) (hL:L.Wf):Calls Tryz.prog 55 #[.pointer (some ⟨gl,0,none⟩),.agg (opCells o sv kv).toArray] w (Did base gl (doSeq L o.name o.n) w):=by
 have h3:=hL.n3
 refine(seq_any gl _ _ o.name o.n L.nodes base vN w (by omega) rfl rfl H.blk rfl H.wk.oN (own_ne H.wk.oN H.blk (by decide))).mono ?_
 intro x w' hq
 unfold SeqDone at hq
 unfold doSeq
 cases hf:L.nodes.find? (fun d=>d.name==o.name) with
 | none =>
  rw [hf] at hq; exact Did.err H.hb (by decide) hq
 | some d =>
  rw [hf] at hq; simp only [] at hq ⊢; split at hq
  ·rename_i hc
   rw [if_pos hc]; exact Did.err H.hb (by decide) hq
  ·rename_i hc
   rw [if_neg hc]; obtain⟨rfl,hS⟩:=hq; obtain⟨v',h1,h2⟩:=H.slotN hS; exact Did.ok h1 h2
theorem did_prepare(H:LAt base gl w vE vN vB vJ vK vU L E U) (hL:L.Wf):Calls Tryz.prog 50 #[.pointer (some ⟨gl,0,none⟩),.agg (opCells o sv kv).toArray] w (Did base gl (doPrepare L o.key) w):=by
 refine(prepare_any gl o sv kv _ L.keys base vK w hL.k3 H.hb H.blk rfl H.wk.oK (own_ne H.wk.oK H.blk (by decide))).mono ?_
 intro x w' hq
 unfold Prepared at hq
 unfold doPrepare
 split at hq
 ·rename_i hc
  rw [if_pos hc]; exact Did.err H.hb (by decide) hq
 ·rename_i hc
  rw [if_neg hc]; split at hq
  ·rename_i hc
   rw [if_pos hc]; exact Did.err H.hb (by decide) hq
  ·rename_i hc
   rw [if_neg hc]; split at hq
   ·rename_i hc
    rw [if_pos hc]; exact Did.err H.hb (by decide) hq
   ·rename_i hc
    rw [if_neg hc]; obtain⟨rfl,hS⟩:=hq; obtain⟨v',h1,h2⟩:=H.slotK hS; exact Did.ok h1 h2
theorem did_active(H:LAt base gl w vE vN vB vJ vK vU L E U) (hL:L.Wf):Calls Tryz.prog 51 #[.pointer (some ⟨gl,0,none⟩),.agg (opCells o sv kv).toArray] w (Did base gl (doActive L o.n) w):=by
 refine(activate_any gl o sv kv _ L.keys base vK w hL.k3 H.blk rfl H.wk.oK (own_ne H.wk.oK H.blk (by decide))).mono ?_
 intro x w' hq
 unfold Activated at hq
 unfold doActive
 split at hq
 ·rename_i hc
  rw [if_pos hc]; split at hq
  ·rename_i hc
   rw [if_pos hc]; obtain⟨rfl,hS⟩:=hq; obtain⟨v',h1,h2⟩:=H.slotK hS; exact Did.ok h1 h2
  ·rename_i hc
   rw [if_neg hc]; exact Did.err H.hb (by decide) hq
 ·rename_i hc
  rw [if_neg hc]; exact Did.err H.hb (by decide) hq
theorem did_token(H:LAt base gl w vE vN vB vJ vK vU L E U) (hL:L.Wf) (ho:Sized o):Calls Tryz.prog 44 #[.pointer (some ⟨gl,0,none⟩),.agg (opCells o sv kv).toArray] w (Did base gl (doToken L o.join) w):=by
 refine(putJoin_any gl o sv kv _ L.joins base vJ w ho.jt ho.jn hL.j3 H.hb H.blk rfl H.wk.oJ (own_ne H.wk.oJ H.blk (by decide))).mono ?_
 intro x w' hq
 unfold Tokened at hq
 unfold doToken
 split at hq
 ·rename_i hc
  rw [if_pos hc]; exact Did.err H.hb (by decide) hq
 ·rename_i hc
  rw [if_neg hc]; split at hq
  ·rename_i hc
   rw [if_pos hc]; exact Did.err H.hb (by decide) hq
  ·rename_i hc
   rw [if_neg hc]; split at hq
   ·rename_i hc
    rw [if_pos hc]; exact Did.err H.hb (by decide) hq
   ·rename_i hc
    rw [if_neg hc]; obtain⟨rfl,hS⟩:=hq; obtain⟨v',h1,h2⟩:=H.slotJ hS; exact Did.ok h1 h2
theorem did_ban(H:LAt base gl w vE vN vB vJ vK vU L E U) (hL:L.Wf) (ho:Sized o):Calls Tryz.prog 47 #[.pointer (some ⟨gl,0,none⟩),.agg (opCells o sv kv).toArray] w (Did base gl (doBan L o.name) w):=by
 refine(ban_any gl o sv kv _ L.nodes L.bans base vN vB w ho.nm hL.n3 hL.b3 hL.b1 H.hb H.blk rfl rfl H.wk.oN (own_ne H.wk.oN H.blk (by decide)) H.wk.oB (own_ne H.wk.oB H.blk (by decide)) (own_apart H.wk.oN H.wk.oB (by decide))).mono ?_
 intro x w' hq
 unfold Banned2 at hq
 unfold doBan
 split at hq
 ·rename_i hc
  rw [if_pos hc]; split at hq
  ·rename_i hc
   rw [if_pos hc]; exact Did.err H.hb (by decide) hq
  ·rename_i hc
   rw [if_neg hc]
   cases hp:put ord 8 o.name L.bans with
   | none =>
    rw [hp] at hq; exact Did.err H.hb (by decide) hq
   | some l =>
    rw [hp] at hq; obtain⟨rfl,w1,x',hS,hg⟩:=hq; obtain⟨v',H1,hb1⟩:=H.slotB hS; unfold Gone at hg; split at hg
    ·obtain⟨_,hS2⟩:=hg
     obtain⟨v2,H2,hb2⟩:=H1.slotN hS2; exact Did.ok H2 (hb1.trans hb2)
    ·rename_i hn
     have hb2:=hg.2; have he:L.nodes.eraseP (fun n=>n.name==o.name)=L.nodes:=List.eraseP_of_forall_not (fun a ha=>by
      intro h; exact hn (List.any_eq_true.2 ⟨a,ha,h⟩))
     rw [he]; refine Did.ok (vE:=vE) (vN:=vN) (vB:=v') (vJ:=vJ) (vK:=vK) (vU:=vU) (E:=E) (U:=U) ⟨H1.wk.below hb2,H1.blk.below hb2,H1.hgl,Nat.le_trans H1.hb hb2.size⟩ (hb1.trans (hb2.mono H1.hb))
 ·rename_i hc
  rw [if_neg hc]; exact Did.err H.hb (by decide) hq
theorem did_join(H:LAt base gl w vE vN vB vJ vK vU L E U) (hL:L.Wf) (ho:Sized o):Calls Tryz.prog 45 #[.pointer (some ⟨gl,0,none⟩),.agg (opCells o sv kv).toArray] w (Did base gl (doJoin L o.name o.node) w):=by
 refine(useJoin_any gl o sv kv _ L.nodes L.bans L.joins base vN vB vJ w ho.nn hL.n3 hL.b3 hL.j3 hL.n1 H.hb H.blk rfl rfl rfl H.wk.oN (own_ne H.wk.oN H.blk (by decide)) H.wk.oB H.wk.oJ (own_ne H.wk.oJ H.blk (by decide)) (own_apart H.wk.oJ H.wk.oN (by decide))).mono ?_
 intro x w' hq
 unfold Joined at hq
 unfold doJoin
 cases hf:L.joins.find? (fun j=>j.text==o.name) with
 | none =>
  rw [hf] at hq; exact Did.err H.hb (by decide) hq
 | some j =>
  rw [hf] at hq; simp only [] at hq ⊢; split at hq
  ·rename_i hc
   rw [if_pos hc]; exact Did.err H.hb (by decide) hq
  ·rename_i hc
   rw [if_neg hc]; split at hq
   ·rename_i hc
    rw [if_pos hc]; rcases hq with⟨rfl,w1,hN,hS⟩|⟨hx,hN⟩
    ·obtain⟨h1,h2,h3⟩:=node_did H hN
     have hz:(doNode L o.node).2=0:=by injection h1 with h1; injection h1 with _ h1; exact h1.symm
     obtain⟨v',l,e1,H1⟩:=h3 hz; obtain⟨v2,H2,hb2⟩:=H1.slotJ hS; rw [hz,e1]; exact Did.ok H2 (h2.trans hb2)
    ·obtain⟨h1,h2,h3⟩:=node_did H hN
     have hz:(doNode L o.node).2≠0:=fun e=>hx (by rw [h1,e]); have hz2:((doNode L o.node).2==0)=false:=by simpa using hz
     simp only [hz2]; exact⟨h1,h2,fun e=>absurd e hz⟩
   ·rename_i hc
    rw [if_neg hc]; exact Did.err H.hb (by decide) hq
theorem did_entry(H:LAt base gl w vE vN vB vJ vK vU L E U) (hL:L.Wf) (ho:Sized o) (hsv:w.ownsRow base 9 1 sv o.entry.sels.length (rows strRow o.entry.sels)) (hap:Apart sv vB):Calls Tryz.prog 42 #[.pointer (some ⟨gl,0,none⟩),.agg (opCells o sv kv).toArray] w (Did base gl (doEntry L o.entry) w):=by
 have hlen:E.length=L.entries.length:=by rw [← H.wk.ents,List.length_map]
 have h3:=hL.e3
 refine(putEntry_any gl o sv kv _ E base vE w (own_texts hsv) ho.el ho.es ho.ep ho.er (by omega) (rises_fst H.wk.ents hL.e1) (fun p hp=>may_n (hL.e2 _ (by rw [← H.wk.ents]; exact List.mem_map.2 ⟨p,hp,rfl⟩))) (fun p hp=>?_) H.hb H.blk rfl H.wk.oE (own_ne H.wk.oE H.blk (by decide))).mono ?_
 ·obtain⟨A,c,h,_⟩:=own_form (H.wk.sels p hp).1
  rw [h]; rfl
 intro x w' hq
 unfold EntryPut at hq
 unfold doEntry
 split at hq
 ·rename_i hc
  rw [if_pos hc]; have hi:(ins cEp (o.entry,sv) E).map Prod.fst=ins cE o.entry L.entries:=ins_fst H.wk.ents o.entry sv; have hil:(ins cEp (o.entry,sv) E).length=(ins cE o.entry L.entries).length:=by rw [← hi,List.length_map]
  unfold Puts put at hq; unfold put; rw [hil] at hq; split at hq
  ·rename_i l hl
   split at hl
   ·rename_i hle
    injection hl with hl
    subst hl; rw [if_pos hle]; obtain⟨rfl,hS⟩:=hq; obtain⟨v',h1,h2⟩:=H.slotE hS hi (fun p hp=>by
     rcases ins_mem hp with rfl|hp
     ·exact⟨hsv,hap⟩
     ·exact H.wk.sels p hp)
    exact Did.ok h1 h2
   ·cases hl
  ·rename_i hl
   split at hl
   ·cases hl
   ·rename_i hle
    rw [if_neg hle]; exact Did.err H.hb (by decide) hq
 ·rename_i hc
  rw [if_neg hc]; exact Did.err H.hb (by decide) hq
end
end
section
open Go.RowKit Mem Led
theorem LgAt.len{w:World} {cs:List Value} {L:Led.Ledger} {E:List (Led.Entry × Value)} {U:List (Led.Bundle × Value)} (h:LgAt w cs L E U):cs.length=6:=by
 obtain⟨⟨vE,vN,vB,vJ,vK,vU,rfl,_⟩,_⟩:=h
 rfl
theorem Blk.lower{w w':World} {g B:Nat} {cs:List Value} {t:TypeId} (h:Blk w g cs t) (hb:Below B w w') (hg:g<B):Blk w' g cs t:=by
 unfold Blk at *
 rw [hb.block g hg]
 exact h
def After (L:Led.Ledger) (r:Led.Ledger × Int):Led.Ledger:=if r.2=0 then r.1 else L
def Applied (D:Led.Ledger × Int→Prop) (L:Led.Ledger) (w:World) (x:Ending) (w':World):Prop :=
 ∃ r,D r∧∃ vE vN vB vJ vK vU E U,x=.returned (.tuple #[.agg #[vE,vN,vB,vJ,vK,vU],.int .i64 r.2])∧Wk w.heap.size w' vE vN vB vJ vK vU (After L r) E U∧Below w.heap.size w w'
def Doer (F:FuncId) (w:World) (L:Led.Ledger) (o:Led.Op) (D:Led.Ledger × Int→Prop):Prop :=
 ∀ base gl W vE vN vB vJ vK vU E U sv kv,w.heap.size≤base→Below w.heap.size w W→LAt base gl W vE vN vB vJ vK vU L E U→W.ownsRow base 9 1 sv o.entry.sels.length (rows strRow o.entry.sels)→Apart sv vB →
  W.ownsRow base 54 2 kv o.bundle.keys.length (rows jwkRow o.bundle.keys)→Calls Tryz.prog F #[.pointer (some ⟨gl,0,none⟩),.agg (opCells o sv kv).toArray] W fun x w'=>∃ r,D r∧Did base gl r W x w'
theorem apply_gen(cs:List Value) (L:Led.Ledger) (E:List (Led.Entry × Value)) (U:List (Led.Bundle × Value)) (o:Led.Op) (sv kv:Value) (F:FuncId) (D:Led.Ledger × Int→Prop) (w:World) (hL:LgAt w cs L E U) (hs:L.Small) (hsv:TextsAt w sv o.entry.sels) (hkv:ElemsAt jwkRow 2 w kv o.bundle.keys)
  (hel:o.entry.sels.length≤1000) (hul:o.bundle.keys.length≤1000) (hK:((doL.findIdx? fun p=>o.kind==p.1).bind fun n=>doL[n]?.map fun p=>p.2)=some (.func (.func F) #[] #[]))
  (eg:∀ args w,(callFunc F args).run Tryz.prog w=.ok (.enter F args) w) (hdo:Doer F w L o D) :
  Calls Tryz.prog 14 #[.agg cs.toArray,.agg (opCells o sv kv).toArray] w (Applied D L w):=by
 obtain⟨As,ns,cS,rfl,fs,ts⟩:=hsv
 obtain⟨Ak,nk,cK,rfl,fk,tk⟩:=hkv
 have lns:=ts.len
 have lnk:=tk.len jwkRow_len (by omega)
 obtain⟨W,hW⟩:∃ W,((w.alloc (.cells cs.toArray 30)).alloc (.cells (opCells o (.slice As ns cS) (.slice Ak nk cK)).toArray 47)).alloc (.cells (lgCells (.slice none 0 0)).toArray 30)=W:=⟨_,rfl⟩
 have b0:Blk W w.heap.size cs 30:=by rw [← hW]; exact((Blk.new _ _ _).alloc _).alloc _
 have b1:Blk W (w.heap.size+1) (opCells o (.slice As ns cS) (.slice Ak nk cK)) 47:=by
  have:=Blk.new (w.alloc (.cells cs.toArray 30)) (opCells o (.slice As ns cS) (.slice Ak nk cK)) 47; rw [← hW]; exact Blk.alloc (by simpa using this) _
 have b2:Blk W (w.heap.size+2) (lgCells (.slice none 0 0)) 30:=by
  have:=Blk.new ((w.alloc (.cells cs.toArray 30)).alloc (.cells (opCells o (.slice As ns cS) (.slice Ak nk cK)).toArray 47)) (lgCells (.slice none 0 0)) 30; rw [← hW]; simpa using this
 have hbW:Below w.heap.size w W:=by rw [← hW]; exact(((Below.refl _ _).alloc (Nat.le_refl _) _).alloc (by simp) _).alloc (by simp; omega) _
 have hzW:W.heap.size=w.heap.size+3:=by rw [← hW]; simp
 have hdoers:=doers_any W.drew
 have hlook:(Instr.lookup 73 (.map (some (w.heap.size+3))) (.int .i64 o.kind) false).run Tryz.prog (W.alloc (mo 20)).drew=.ok (.func (.func F) #[] #[]) (W.alloc (mo 20)).drew:=by
  have:=look_doer W.drew o.kind F hK; rw [show W.drew.heap.size=w.heap.size+3 from hzW] at this; exact this
 have hk0:(opCells o (.slice As ns cS) (.slice Ak nk cK))[0]?=some (.int .i64 o.kind):=rfl
 have m0:W.cell? ⟨w.heap.size+1,0,none⟩=some (.int .i64 o.kind):=(b1.cell 0).trans hk0
 have m1:∀ o',(W.alloc o').cell? ⟨w.heap.size+1,0,none⟩=some (.int .i64 o.kind):=fun o'=>((b1.alloc o').cell 0).trans hk0
 obtain⟨ops,hops⟩:∃ ops,Hid (opCells o (.slice As ns cS) (.slice Ak nk cK)=ops):=⟨_,Lib.hid rfl⟩
 have ho7:ops[7]?=some (.slice As ns cS):=by rw [← hops.out]; rfl
 have ho23:ops[23]?=some (.slice Ak nk cK):=by rw [← hops.out]; rfl
 have holen:ops.length=24:=by rw [← hops.out]; rfl
 rw [hops.out] at b1 hW ⊢
 have HW:=Lib.hid hW
 unfold lgCells at HW
 clear hW
 go_enter Tryz.func14,Tryz.ntmps14
 go_upto_region 1 with fail
 rw [HW.out]
 go_cut [6] (fun s6 wx=>s6=.func (.func F) #[] #[]∧Below W.heap.size W wx)
 case first =>
  go_region_with (go_at_call 26; refine hdoers.mono ?_; rintro e w1 ⟨rfl,rfl⟩)
  all_goals
   go_wp2_with fail
   go_meet
   case rel=>exact⟨rfl,((Below.refl _ _).drew).alloc (Nat.le_refl _) _⟩
 case rest =>
  obtain⟨rfl,hbx⟩:=hcut; have c0:=b0.below hbx; have c1:=b1.below hbx; have c2:=b2.below hbx; have hbw:Below w.heap.size w wc:=hbW.trans (hbx.mono hbW.size); have hLc:=hL.below hbw; have hld:=load_lg c0 hL.len; have hcc:=cloneLg_any cs L E U wc hLc hs; have hnil:∀ W,(Go.binOp .eql 72 (.func (.func F) #[] #[]) .nilFunc).run Tryz.prog W=.ok (.bool false) W:=fun W=>by kernel_rfl
  have hzc:w.heap.size+3≤wc.heap.size:=by have:=hbx.size; omega
  clear hlook hdoers m0 m1 HW b0 b1 b2 hbx; go_wp2_with fail
  refine hcc.mono ?_; rintro e w2 ⟨vE,vN,vB,vJ,vK,vU,E1,U1,rfl,hwk,hb2⟩; have d0:=c0.below hb2; have d1:=c1.below hb2; have d2:=c2.below hb2; have hbw2:Below w.heap.size w w2:=hbw.trans (hb2.mono hbw.size); have bn:=Blk.new w2 (lgCells (.slice none 0 0)) 30; obtain⟨hs1,B3⟩:=store_lg bn rfl (vs:=[vE,vN,vB,vJ,vK,vU]) rfl hwk.ones; obtain⟨wn,hwn⟩:∃ wn,(w2.alloc (.cells (lgCells (.slice none 0 0)).toArray 30)).setCells w2.heap.size 0 [vE,vN,vB,vJ,vK,vU]=wn:=⟨_,rfl⟩; have hcn:Chg [] w2 wn:=by rw [← hwn]; exact((Chg.refl _ _).alloc _).setCells _ (.inr (Nat.le_refl _))
  rw [hwn] at hs1 B3; unfold lgCells at hs1; have e0:=d0.chg hcn (by simp); have e1:=d1.chg hcn (by simp); have e2:=d2.chg hcn (by simp); have hbn:=hcn.below (fun _ h=>by cases h); have hwn1:Wk (w.heap.size+3) wn vE vN vB vJ vK vU L E1 U1:=(hwk.below hbn).lower hzc; have hbwn:Below w.heap.size w wn:=hbw2.trans (hbn.mono hbw2.size); have hzn:w.heap.size+3≤wn.heap.size:=by have:=hbn.size; have:=hb2.size; omega
  have hzg:w.heap.size+3≤w2.heap.size:=by have:=hb2.size; omega
  clear hld hcc c0 c1 c2 d0 d1 d2 bn hwn hcn hbn hLc hwk; have f7:∀ p,(Batch.grew wn p).cell? ⟨w.heap.size+1,7,none⟩=some (.slice As ns cS):=fun p=>(Batch.grew_cell (a:=⟨w.heap.size+1,7,none⟩) e1.lt p).trans ((e1.cell 7).trans ho7); have f23:∀ p,(Batch.grew wn p).cell? ⟨w.heap.size+1,23,none⟩=some (.slice Ak nk cK):=fun p=>(Batch.grew_cell (a:=⟨w.heap.size+1,23,none⟩) e1.lt p).trans ((e1.cell 23).trans ho23); have kS:=Lib.hid (fun wx (hx:Below w.heap.size w wx)=>clnStr_any As ns cS (rows strRow o.entry.sels) wx (by rw [tv_rows]; exact Ts.below ts hx) (by omega) fs.2.2 (one_str _))
  have kK:=Lib.hid (fun wx (hx:Below w.heap.size w wx)=>clnJwk_any Ak nk cK (rows jwkRow o.bundle.keys) wx (Es.below tk hx) (by omega) fk.2.2 (one_jwk _)); have HB:=Lib.hid hbwn; go_upto_region 5 with fail
  refine Batch.wp_region_turns [([0,1,2,4,5,6],(3,fun v w'=>w'.ownsRow wn.heap.size 9 1 v ns (rows strRow o.entry.sels))),([8,9],(7,fun v w'=>w'.ownsRow wn.heap.size 54 2 v nk (rows jwkRow o.bundle.keys)))] [10,11,12,13] (by kernel_rfl) (by kernel_rfl) (by
   intro x hx; simp only [List.mem_cons,List.not_mem_nil,or_false] at hx; rcases hx with rfl|rfl <;> exact stable_own) ?_
  refine Batch.turnsR_cons ?_; simp only [Batch.pick,List.getD_cons_zero,List.getD_cons_succ]; repeat (go_big_quiet_step (fail))
  refine wpQuiet_nil ?_; refine⟨_,rfl,rfl,?_,?_⟩
  ·intro w1 hw1 _
   go_simp
   exact⟨rfl,gives_clone (by have:=hw1.below.size; omega) (kS.out w1 (HB.out.trans (hw1.below.mono HB.out.size)))⟩
  intro v1 _; refine Batch.turnsR_cons ?_; simp only [Batch.pick,List.getD_cons_zero,List.getD_cons_succ,List.getElem_toArray,List.getElem_cons_succ,List.getElem_cons_zero,Act.put,List.setIfInBounds_toArray,List.set_cons_zero,List.set_cons_succ]; repeat (go_big_quiet_step (fail))
  refine wpQuiet_nil ?_; refine⟨_,rfl,rfl,?_,?_⟩
  ·intro w1 hw1 _
   go_simp
   exact⟨rfl,gives_clone (by have:=hw1.below.size; omega) (kK.out w1 (HB.out.trans (hw1.below.mono HB.out.size)))⟩
  intro v2 _ w5 hw5 hF; obtain⟨⟨_,o1⟩,o2⟩:=hF; have hb5:=hw5.below; obtain⟨A8,c8,rfl,_,_⟩:=own_form o1; obtain⟨A9,c9,rfl,_,_⟩:=own_form o2; have g0:=e0.below hb5; have g1:=e1.below hb5; have g2:=e2.below hb5; have g3:=B3.below hb5; have hwk5:=hwn1.below hb5; have hb05:Below w.heap.size w w5:=hbwn.trans (hb5.mono hbwn.size); have x7:w5.cell? ⟨w.heap.size+1,7,none⟩=some (.slice As ns cS):=(g1.cell 7).trans ho7; have z7:w5.frozen? ⟨w.heap.size+1,7,none⟩=false:=g1.froz 7; have x23:w5.cell? ⟨w.heap.size+1,23,none⟩=some (.slice Ak nk cK):=(g1.cell 23).trans ho23; have z23:w5.frozen? ⟨w.heap.size+1,23,none⟩=false:=g1.froz 23; have hsz5:=hb5.size; clear f7 f23 kS kK hw5 e0 e1 e2; go_upto_region 6 with fail
  obtain⟨w6,hw6⟩:∃ w6,(w5.setCell ⟨w.heap.size+1,7,none⟩ (.slice A8 ns c8)).setCell ⟨w.heap.size+1,23,none⟩ (.slice A9 nk c9)=w6:=⟨_,rfl⟩; have hopc:(ops.set 7 (.slice A8 ns c8)).set 23 (.slice A9 nk c9)=opCells o (.slice A8 ns c8) (.slice A9 nk c9):=by rw [← hops.out]; rfl
  have j1:Blk w6 (w.heap.size+1) (opCells o (.slice A8 ns c8) (.slice A9 nk c9)) 47:=by rw [← hw6,← hopc]; exact(g1.set 7 _).set 23 _
  have j0:Blk w6 w.heap.size cs 30:=by rw [← hw6]; exact(g0.set_ne (p:=⟨w.heap.size+1,7,none⟩) (by simp) _).set_ne (p:=⟨w.heap.size+1,23,none⟩) (by simp) _
  have j2:Blk w6 (w.heap.size+2) (lgCells (.slice none 0 0)) 30:=by rw [← hw6]; exact(g2.set_ne (p:=⟨w.heap.size+1,7,none⟩) (by simp) _).set_ne (p:=⟨w.heap.size+1,23,none⟩) (by simp) _
  have j3:Blk w6 w2.heap.size [vE,vN,vB,vJ,vK,vU] 30:=by rw [← hw6]; exact(g3.set_ne (p:=⟨w.heap.size+1,7,none⟩) (by simp; omega) _).set_ne (p:=⟨w.heap.size+1,23,none⟩) (by simp; omega) _
  have hwk6:Wk (w.heap.size+3) w6 vE vN vB vJ vK vU L E1 U1:=by rw [← hw6]; exact(hwk5.setCell (a:=⟨w.heap.size+1,7,none⟩) (by simp) _).setCell (a:=⟨w.heap.size+1,23,none⟩) (by simp) _
  have hb06:Below w.heap.size w w6:=by rw [← hw6]; exact(hb05.setCell (p:=⟨w.heap.size+1,7,none⟩) (by simp) _).setCell (p:=⟨w.heap.size+1,23,none⟩) (by simp) _
  have o16:w6.ownsRow (w.heap.size+3) 9 1 (.slice A8 ns c8) o.entry.sels.length (rows strRow o.entry.sels):=by
   rw [← hw6,lns]; exact ownsRow_setCell_below (ownsRow_setCell_below (own_base o1 hzn) (a:=⟨w.heap.size+1,7,none⟩) (by simp) _) (a:=⟨w.heap.size+1,23,none⟩) (by simp) _
  have o26:w6.ownsRow (w.heap.size+3) 54 2 (.slice A9 nk c9) o.bundle.keys.length (rows jwkRow o.bundle.keys):=by
   rw [← hw6,lnk]; exact ownsRow_setCell_below (ownsRow_setCell_below (own_base o2 hzn) (a:=⟨w.heap.size+1,7,none⟩) (by simp) _) (a:=⟨w.heap.size+1,23,none⟩) (by simp) _
  have hap:Apart (.slice A8 ns c8) vB:=by
   cases hq:(Value.slice A8 ns c8).ownBlock with
   | none=>exact .inl hq
   | some b =>
    refine .inr ?_; rw [hq]; intro e; have h1:=(own_lt o1 hq).1; have h2:=(own_lt hwn1.oB e.symm).2; omega
  have hsz6:w.heap.size+3≤w6.heap.size:=by rw [← hw6]; simp; omega
  rw [hw6]; have hdd:=hdo (w.heap.size+3) w2.heap.size w6 vE vN vB vJ vK vU E1 U1 _ _ (by omega) hb06 ⟨hwk6,j3,hzg,hsz6⟩ o16 hap o26; have hld:=load_op j1 rfl; obtain⟨CS,hCS⟩:∃ CS,(opCells o (.slice A8 ns c8) (.slice A9 nk c9)).toArray=CS:=⟨_,rfl⟩; rw [hCS] at hld hdd; clear x7 z7 x23 z23 hw6 hopc g0 g1 g2 g3 o1 o2 hwk5 hwn1 B3 hCS hops ho7 ho23 holen HB; go_wp2_with fail
  refine hdd.mono ?_; rintro e w7 ⟨r,hDr,rfl,hb7,hok⟩; have hb07:Below w.heap.size w w7:=hb06.trans (hb7.mono (by omega)); have q0:=j0.lower hb7 (by omega); have q2:=j2.lower hb7 (by omega); by_cases hr:r.2=0
  ·obtain⟨vE',vN',vB',vJ',vK',vU',E',U',hAt⟩:=hok hr
   have hld2:=load_lg hAt.blk rfl; obtain⟨hs2,B4⟩:=store_lg q2 rfl (vs:=[vE',vN',vB',vJ',vK',vU']) rfl hAt.wk.ones; obtain⟨w8,hw8⟩:∃ w8,w7.setCells (w.heap.size+2) 0 [vE',vN',vB',vJ',vK',vU']=w8:=⟨_,rfl⟩; have hc8:Chg [w.heap.size+2] w7 w8:=by rw [← hw8]; exact(Chg.refl _ _).setCells _ (.inl (by simp))
   have hwk8:Wk (w.heap.size+3) w8 vE' vN' vB' vJ' vK' vU' r.1 E' U':=by rw [← hw8]; exact hAt.wk.setCells (by omega) _
   rw [hw8] at hs2 B4; have hH:=B4.has (n:=6) rfl; have hA:=B4.arr (n:=6) rfl; have hb08:Below w.heap.size w w8:=((Chg.of_below (S:=[w.heap.size+2]) hb07).and hc8).below' (Nat.le_refl _) (by simp); have HWK:=Lib.hid hwk8; clear hld hdd hw8 hc8 B4 hAt hwk8 hok; rw [hr]; go_wp2; refine bodyPost_ret (results_arr2 (P:=Tryz.prog) Tryz.results14 _ _ (w.heap.size+2) 0 6 _ rfl Tryz.underlying30 rfl size_ledger hH) rfl ?_; refine⟨r,hDr,vE',vN',vB',vJ',vK',vU',E',U',by rw [hA,hr]; rfl,?_,hb08⟩
   unfold After; rw [if_pos hr]; exact HWK.out.lower (by omega)
  ·have hkb:(r.2 != 0)=true:=by simpa using hr
   have hld2:=load_lg q0 hL.len; have hcc2:=cloneLg_any cs L E U w7 (hL.below hb07) hs; have HR:=Lib.hid hr; clear hld hdd hok j0 j1 j2 j3 hwk6 o16 o26; obtain⟨rv,hrv⟩:∃ rv,Hid (r.2=rv):=⟨_,Lib.hid rfl⟩; rw [hrv.out] at hkb hr ⊢; go_wp2_with fail
   refine hcc2.mono ?_; rintro e w8 ⟨vE',vN',vB',vJ',vK',vU',E',U',rfl,hwk8,hb8⟩; have q28:=q2.below hb8; obtain⟨hs2,B4⟩:=store_lg q28 rfl (vs:=[vE',vN',vB',vJ',vK',vU']) rfl hwk8.ones; have hb08:Below w.heap.size w w8:=hb07.trans (hb8.mono hb07.size); obtain⟨w9,hw9⟩:∃ w9,w8.setCells (w.heap.size+2) 0 [vE',vN',vB',vJ',vK',vU']=w9:=⟨_,rfl⟩; have hc9:Chg [w.heap.size+2] w8 w9:=by rw [← hw9]; exact(Chg.refl _ _).setCells _ (.inl (by simp))
   have hwk9:Wk w7.heap.size w9 vE' vN' vB' vJ' vK' vU' L E' U':=by rw [← hw9]; exact hwk8.setCells q2.lt _
   rw [hw9] at hs2 B4; have hH:=B4.has (n:=6) rfl; have hA:=B4.arr (n:=6) rfl; have hb09:Below w.heap.size w w9:=((Chg.of_below (S:=[w.heap.size+2]) hb08).and hc9).below' (Nat.le_refl _) (by simp); have HWK:=Lib.hid (hwk9.lower (b:=w.heap.size) hb07.size); clear hw9 hc9 B4 hwk8 hwk9 hcc2; go_wp2; refine bodyPost_ret (results_arr2 (P:=Tryz.prog) Tryz.results14 _ _ (w.heap.size+2) 0 6 _ rfl Tryz.underlying30 rfl size_ledger hH) rfl ?_; refine⟨r,hDr,vE',vN',vB',vJ',vK',vU',E',U',by rw [hA,hrv.out]; rfl,?_,hb09⟩
   unfold After; rw [if_neg HR.out]; exact HWK.out
end
section
open Go.RowKit Mem Led
theorem look_none(w:World) (K:Int) (hK:doL.findIdx? (fun p=>K==p.1)=none) :
  (Instr.lookup 73 (.map (some w.heap.size)) (.int .i64 K) false).run Tryz.prog (w.alloc (mo 20))=.ok .nilFunc (w.alloc (mo 20)):=by
 have h:=run_look (P:=Tryz.prog) (w.alloc (mo 20)) w.heap.size (doL.take 20) K _ _ _ .nilFunc Tryz.underlying73 Tryz.underlying3 (zero_doer _) (heap_alloc_new w _)
 rw [show doL.take 20=doL from rfl,hK] at h
 exact h
theorem apply_none(cs:List Value) (L:Led.Ledger) (E:List (Led.Entry × Value)) (U:List (Led.Bundle × Value)) (ops:List Value) (k:Int) (w:World) (hL:LgAt w cs L E U) (hs:L.Small) (hk0:ops[0]?=some (.int .i64 k)) (hK:doL.findIdx? (fun p=>k==p.1)=none) :
  Calls Tryz.prog 14 #[.agg cs.toArray,.agg ops.toArray] w (Applied (fun r=>r=(L,1)) L w):=by
 obtain⟨W,hW⟩:∃ W,((w.alloc (.cells cs.toArray 30)).alloc (.cells ops.toArray 47)).alloc (.cells (lgCells (.slice none 0 0)).toArray 30)=W:=⟨_,rfl⟩
 have b0:Blk W w.heap.size cs 30:=by rw [← hW]; exact((Blk.new _ _ _).alloc _).alloc _
 have b1:Blk W (w.heap.size+1) ops 47:=by
  have:=Blk.new (w.alloc (.cells cs.toArray 30)) ops 47; rw [← hW]; exact Blk.alloc (by simpa using this) _
 have b2:Blk W (w.heap.size+2) (lgCells (.slice none 0 0)) 30:=by
  have:=Blk.new ((w.alloc (.cells cs.toArray 30)).alloc (.cells ops.toArray 47)) (lgCells (.slice none 0 0)) 30; rw [← hW]; simpa using this
 have hbW:Below w.heap.size w W:=by rw [← hW]; exact(((Below.refl _ _).alloc (Nat.le_refl _) _).alloc (by simp) _).alloc (by simp; omega) _
 have hzW:W.heap.size=w.heap.size+3:=by rw [← hW]; simp
 have hdoers:=doers_any W.drew
 have hlook:(Instr.lookup 73 (.map (some (w.heap.size+3))) (.int .i64 k) false).run Tryz.prog (W.alloc (mo 20)).drew=.ok .nilFunc (W.alloc (mo 20)).drew:=by
  have:=look_none W.drew k hK; rw [show W.drew.heap.size=w.heap.size+3 from hzW] at this; exact this
 have m0:W.cell? ⟨w.heap.size+1,0,none⟩=some (.int .i64 k):=(b1.cell 0).trans hk0
 have m1:∀ o',(W.alloc o').cell? ⟨w.heap.size+1,0,none⟩=some (.int .i64 k):=fun o'=>((b1.alloc o').cell 0).trans hk0
 have HW:=Lib.hid hW
 unfold lgCells at HW
 clear hW
 go_enter Tryz.func14,Tryz.ntmps14
 go_upto_region 1 with fail
 rw [HW.out]
 go_cut [6] (fun s6 wx=>s6=.nilFunc∧Below W.heap.size W wx)
 case first =>
  go_region_with (go_at_call 26; refine hdoers.mono ?_; rintro e w1 ⟨rfl,rfl⟩)
  all_goals
   go_wp2_with fail
   go_meet
   case rel=>exact⟨rfl,((Below.refl _ _).drew).alloc (Nat.le_refl _) _⟩
 case rest =>
  obtain⟨rfl,hbx⟩:=hcut; have c0:=b0.below hbx; have c2:=b2.below hbx; have hbw:Below w.heap.size w wc:=hbW.trans (hbx.mono hbW.size); have hLc:=hL.below hbw; have hld:=load_lg c0 hL.len; have hcc:=cloneLg_any cs L E U wc hLc hs; have hnil:∀ W,(Go.binOp .eql 72 .nilFunc .nilFunc).run Tryz.prog W=.ok (.bool true) W:=fun W=>by kernel_rfl
  clear hlook hdoers m0 m1 HW b0 b1 b2; go_wp2_with fail
  refine hcc.mono ?_; rintro e w8 ⟨vE',vN',vB',vJ',vK',vU',E',U',rfl,hwk8,hb8⟩; have q28:=c2.below hb8; obtain⟨hs2,B4⟩:=store_lg q28 rfl (vs:=[vE',vN',vB',vJ',vK',vU']) rfl hwk8.ones; have hb08:Below w.heap.size w w8:=hbw.trans (hb8.mono hbw.size); obtain⟨w9,hw9⟩:∃ w9,w8.setCells (w.heap.size+2) 0 [vE',vN',vB',vJ',vK',vU']=w9:=⟨_,rfl⟩; have hc9:Chg [w.heap.size+2] w8 w9:=by rw [← hw9]; exact(Chg.refl _ _).setCells _ (.inl (by simp))
  have hwk9:Wk wc.heap.size w9 vE' vN' vB' vJ' vK' vU' L E' U':=by rw [← hw9]; exact hwk8.setCells c2.lt _
  rw [hw9] at hs2 B4; have hH:=B4.has (n:=6) rfl; have hA:=B4.arr (n:=6) rfl; have hb09:Below w.heap.size w w9:=((Chg.of_below (S:=[w.heap.size+2]) hb08).and hc9).below' (Nat.le_refl _) (by simp); have HWK:=Lib.hid (hwk9.lower (b:=w.heap.size) hbw.size); clear hw9 hc9 B4 hwk8 hwk9 hcc hld c0 c2 hbx; go_wp2; refine bodyPost_ret (results_arr2 (P:=Tryz.prog) Tryz.results14 _ _ (w.heap.size+2) 0 6 _ rfl Tryz.underlying30 rfl size_ledger hH) rfl ?_; exact⟨(L,1),rfl,vE',vN',vB',vJ',vK',vU',E',U',by rw [hA]; rfl,HWK.out,hb09⟩
end
section
open Go.RowKit Mem Led
def cBp (a b:Led.Bundle × Value):Int:=cB a.1 b.1
theorem cBp_cmp:Cmp cBp:=⟨fun a b=>cB_cmp.flip a.1 b.1,fun a b d=>cB_cmp.trans a.1 b.1 d.1,fun a b d=>cB_cmp.left a.1 b.1 d.1⟩
theorem op_bundle(o:Led.Op) (sv kv:Value):∀ j u,(bunRow (o.bundle,kv))[j]?=some u→(opCells o sv kv)[21+j]?=some u:=by
 intro j u h
 match j,h with
 | 0,h=>exact h
 | 1,h=>exact h
 | 2,h=>exact h
 | j+3,h=>simp [bunRow] at h
theorem sizeBun3:(Tryz.prog.info? 45).map (·.size)=some 3:=by kernel_rfl
theorem ld_bundle{w:World} {g:Nat} {o:Led.Op} {sv kv:Value} (h:Blk w g (opCells o sv kv) 47):(ldBun (.pointer (some ⟨g,21,none⟩))).run Tryz.prog w=.ok (.agg (bunRow (o.bundle,kv)).toArray) w :=
 load_cells Tryz.underlying45 rfl sizeBun3 rfl fun j u hj=>by rw [h.cell]; exact op_bundle o sv kv j u hj
theorem store_bun{w:World} {g:Nat} {cs vs:List Value} {t:TypeId} (h:Blk w g cs t) (hn:cs.length=3) (hv:vs.length=3) (h1:∀ v∈vs,v.oneCell'=true) :
  (stBun (.pointer (some ⟨g,0,none⟩)) (.agg vs.toArray)).run Tryz.prog w=.ok () (w.setCells g 0 vs)∧Blk (w.setCells g 0 vs) g vs t:=by
 have h2:=run_store_arr (P:=Tryz.prog) w 45 g 0 3 sizeBun3 vs.toArray ⟨by simpa using hv,by simpa using h1⟩ (blk_has h hn) (fun j _=>h.froz _)
 have h3:=set_all vs w g 0 cs t h (by omega)
 simp [hv,← hn] at h3
 exact⟨h2,h3⟩
theorem bunRow_one(p:Led.Bundle × Value) (h:p.2.oneCell'=true):∀ u∈bunRow p,u.oneCell'=true:=by
 intro u hu
 simp [bunRow,tx,nm] at hu
 rcases hu with rfl|rfl|rfl
 ·rfl
 ·rfl
 ·exact h
theorem putBundle1_any(x:Led.Bundle × Value) (d:Txt) (n:Int) (go:Nat) (W:World) (hc:W.cell? ⟨go,0,none⟩=some (.string (str d))) (hc1:W.cell? ⟨go,1,none⟩=some (.int .i64 n)) :
  Calls Tryz.prog 109 (#[.agg (bunRow x).toArray]++#[.pointer (some ⟨go,0,none⟩)]) W fun e w'=>e=.returned (.bool (x.1.domain==d&&decide (x.1.number > n)))∧Below W.heap.size W w':=by
 have hgo:=World.block_lt_of_cell? W _ hc
 simp only [] at hgo
 have hb:∀ o,Below W.heap.size W (W.alloc o):=fun o=>(Below.refl _ _).alloc (Nat.le_refl _) _
 show Calls Tryz.prog 109 #[.agg #[.string (str x.1.domain),.int .i64 x.1.number,x.2],.pointer (some ⟨go,0,none⟩)] W _
 cases hq:(x.1.domain==d)
 all_goals
  go_enter Tryz.func109,Tryz.ntmps109
  go_wp2_with fail
  go_ret; exact⟨by first|rfl|simp,hb _⟩
theorem putBundle2_any(a b:Led.Bundle × Value) (W:World):Calls Tryz.prog 111 #[.agg (bunRow a).toArray,.agg (bunRow b).toArray] W fun e w'=>e=.returned (.int .i64 (cBp a b))∧Below W.heap.size W w':=by
 have ho:=fun W=>order_any a.1.domain b.1.domain W
 have hb:∀ o p,Below W.heap.size W ((W.alloc o).alloc p):=fun o p=>((Below.refl _ _).alloc (Nat.le_refl _) _).alloc (by simp) _
 unfold cBp cB
 show Calls Tryz.prog 111 #[.agg #[.string (str a.1.domain),.int .i64 a.1.number,a.2],.agg #[.string (str b.1.domain),.int .i64 b.1.number,b.2]] W _
 generalize ord a.1.domain b.1.domain=v at *
 go_enter Tryz.func111,Tryz.ntmps111
 go_wp2_with fail
 refine(ho _).mono ?_
 rintro e w1 ⟨rfl,rfl⟩
 go_wp2
 go_ret
 exact⟨rfl,hb _ _⟩
def BundlePut (ok:Bool) (base gl:Nat) (vU:Value) (U:List (Led.Bundle × Value)) (p:Led.Bundle × Value) (w:World) (x:Ending) (w':World):Prop :=
 if ok then (if U.any (fun o=>o.1.domain==p.1.domain&&decide (o.1.number > p.1.number)) then x=.returned (.int .i64 22)∧Below w.heap.size w w' else Puts bunRow 3 45 base gl 5 vU (put cBp 3 p U) w x w') else x=.returned (.int .i64 1)∧Below w.heap.size w w'
theorem putBundle_any(P:Bool→Prop) (gl:Nat) (o:Led.Op) (sv kv:Value) (vs:List Value) (U:List (Led.Bundle × Value)) (base:Nat) (vU:Value) (w:World) (hk1:kv.oneCell'=true) (hU:U.length≤3) (hr:Rises cBp U) (hU1:∀ p∈U,p.2.oneCell'=true) (hbase:base≤w.heap.size)
  (hbl:Blk w gl vs 30) (h5:vs[5]?=some vU) (hown:w.ownsRow base 45 3 vU U.length (rows bunRow U)) (hne:vU.ownBlock≠some gl)
  (HB:∀ W',Below w.heap.size w W'→Calls Tryz.prog 107 #[.agg (bunRow (o.bundle,kv)).toArray] W' fun e w'=>∃ ok,P ok∧e=.returned (.bool ok)∧Below W'.heap.size W' w') :
  Calls Tryz.prog 53 #[.pointer (some ⟨gl,0,none⟩),.agg (opCells o sv kv).toArray] w fun x w'=>∃ ok,P ok∧BundlePut ok base gl vU U (o.bundle,kv) w x w':=by
 obtain⟨A,c,rfl,hnc,hcm⟩:=own_form hown
 obtain⟨W,hW⟩:∃ W,w.alloc (.cells (opCells o sv kv).toArray 47)=W:=⟨_,rfl⟩
 have b0:Blk W w.heap.size (opCells o sv kv) 47:=by rw [← hW]; exact Blk.new w _ _
 have hbW:Below w.heap.size w W:=by rw [← hW]; exact(Below.refl _ _).alloc (Nat.le_refl _) _
 have hz:W.heap.size=w.heap.size+1:=by rw [← hW]; simp
 have hl0:=ld_bundle b0
 have bn:=Blk.new W [.string ⟨#[]⟩,.int .i64 0,.slice none 0 0] 45
 have h1x:=bunRow_one (o.bundle,kv) hk1
 obtain⟨hst,B3⟩:=store_bun bn rfl (vs:=bunRow (o.bundle,kv)) rfl h1x
 obtain⟨W1,hW1⟩:∃ W1,(W.alloc (.cells ([.string ⟨#[]⟩,.int .i64 0,.slice none 0 0]:List Value).toArray 45)).setCells W.heap.size 0 (bunRow (o.bundle,kv))=W1:=⟨_,rfl⟩
 have hcn:Chg [] W W1:=by rw [← hW1]; exact((Chg.refl _ _).alloc _).setCells _ (.inr (Nat.le_refl _))
 rw [hW1] at hst B3
 have hbW1:=hcn.below (fun _ h=>by cases h)
 have hbw1:Below w.heap.size w W1:=hbW.trans (hbW1.mono hbW.size)
 rw [hz] at hst B3
 have hbun:=HB W1 hbw1
 have hl1:=ldBun_blk B3 (bunRow_len _)
 have HW:=Lib.hid hW
 obtain⟨CS,hCS⟩:∃ CS,(opCells o sv kv).toArray=CS:=⟨_,rfl⟩
 rw [hCS] at HW ⊢
 obtain⟨Y,hY⟩:∃ Y,Hid ((bunRow (o.bundle,kv)).toArray=Y):=⟨_,Lib.hid rfl⟩
 rw [hY.out] at hl0 hst hbun hl1
 clear hW hW1 bn hcn hCS
 go_enter Tryz.func53,Tryz.ntmps53
 go_upto_region 1 with fail
 rw [HW.out]
 clear HW
 have hst:(stBun (.pointer (some ⟨w.heap.size+1,0,none⟩)) (.agg Y)).run Tryz.prog (W.alloc (.cells #[.string ⟨#[]⟩,.int .i64 0,.slice none 0 0] 45))=.ok () W1:=hst
 go_wp2_with fail
 refine hbun.mono ?_
 rintro e w1 ⟨ok,hP,rfl,hb1⟩
 have hbw2:Below w.heap.size w w1:=hbw1.trans (hb1.mono hbw1.size)
 have b1:=B3.below hb1
 have hbl1:=hbl.below hbw2
 clear hbun hl0 hl1 hst
 cases ok
 ·go_wp2_with fail
  go_ret; exact⟨false,hP,rfl,hbw2⟩
 ·have hgl1:=hbl1.lt
  have cK:w1.cell? ⟨gl,5,none⟩=some (.slice A U.length c):=(hbl1.cell 5).trans h5; have hhas:=hasBun_any 109 #[.pointer (some ⟨w.heap.size+1,0,none⟩)] (enters_of Tryz.func109 (by kernel_rfl) rfl) (fun x=>x.1.domain==o.bundle.domain&&decide (x.1.number > o.bundle.number)) A U.length c U w1 (Vs.of_own (own_below hown hbw2 (Nat.le_refl _))) (by omega) (fun W' x _ hb=>putBundle1_any x o.bundle.domain o.bundle.number (w.heap.size+1) W' ((b1.below hb).cell 0) ((b1.below hb).cell 1))
  cases hk:U.any (fun x=>x.1.domain==o.bundle.domain&&decide (x.1.number > o.bundle.number))
  ·have HR:Hid (∀ x w',Puts bunRow 3 45 base gl 5 (.slice A U.length c) (put cBp 3 (o.bundle,kv) U) w x w'→BundlePut true base gl (.slice A U.length c) U (o.bundle,kv) w x w'):=Lib.hid (fun x w' h=>by unfold BundlePut; rw [if_pos rfl,hk]; exact h)
   rw [hk] at hhas; clear hk; go_wp2_with fail
   refine hhas.mono ?_; rintro e w2 ⟨rfl,hb2⟩; have hbw3:Below w.heap.size w w2:=hbw2.trans (hb2.mono hbw2.size); have b2:=b1.below hb2; have f3:∀ p,(ldBun (.pointer (some ⟨w.heap.size+1,0,none⟩))).run Tryz.prog (Batch.grew w2 p)=.ok (.agg Y) (Batch.grew w2 p):=fun p=>by rw [← hY.out]; exact ldBun_blk (b2.below (Batch.grew_below w2 p)) (bunRow_len _)
   clear hhas cK; go_wp2_with fail
   refine Batch.wp_region_grew_tail 4 (by kernel_rfl) (by kernel_rfl) ?_; simp only [List.take_succ_cons,List.take_zero,List.drop_succ_cons,List.drop_zero]; repeat (go_big_quiet_step (fail))
   refine wpQuiet_nil ?_; rintro _ ⟨py,rfl⟩; have g3:=Batch.grew_below w2 py; clear f3; generalize Batch.grew w2 py=w3 at *; have hbw4:Below w.heap.size w w3:=hbw3.trans (g3.mono hbw3.size); have hput:=putBun_any gl 5 111 (enters_of Tryz.func111 (by kernel_rfl) rfl) cBp cBp_cmp (o.bundle,kv) U hr base (.slice A U.length c) 3 w3 hU (by omega) vs 30 (hbl.below hbw4) h5 (own_below hown hbw4 (Nat.le_refl _)) hne (Nat.le_trans hbase hbw4.size) (fun y hy=>bunRow_one y (hU1 y hy)) h1x (fun W' y _ _=>putBundle2_any y (o.bundle,kv) W'); have HPT:=Lib.hid (hput.mono fun x w' h=>puts_from hbw4 h); clear hput; rw [hY.out] at HPT; go_wp2_with fail
   refine HPT.out.mono ?_; intro e w4 h; have h':=Lib.hid (HR.out e w4 h); clear HPT HR; unfold Puts at h
   cases hq:put cBp 3 (o.bundle,kv) U
   all_goals
    rw [hq] at h; obtain⟨rfl,_⟩:=h; clear hq; go_wp2; (try rw [Batch.Qn_normal])
    (try go_wp2)
    go_ret; exact⟨true,hP,h'.out⟩
  ·have HR:Hid (∀ w',Below w.heap.size w w'→BundlePut true base gl (.slice A U.length c) U (o.bundle,kv) w (.returned (.int .i64 22)) w'):=Lib.hid (fun w' h=>by unfold BundlePut; rw [if_pos rfl,hk]; exact⟨rfl,h⟩)
   rw [hk] at hhas; clear hk; go_wp2_with fail
   refine hhas.mono ?_; rintro e w2 ⟨rfl,hb2⟩; go_wp2_with fail
   go_ret; exact⟨true,hP,HR.out _ (hbw2.trans (hb2.mono hbw2.size))⟩
end
section
open Go.RowKit Mem Led
namespace Led
theorem does_or(ok:Bool) (L:Ledger) (o:Op):(does ok L o).1=L∨(does ok L o).2=0:=by
 unfold does
 by_cases h1:o.kind=1
 ·rw [if_pos h1]
  unfold doEntry; repeat' split
  all_goals first|exact .inl rfl|exact .inr rfl
 rw [if_neg h1]
 by_cases h2:o.kind=2
 ·rw [if_pos h2]
  unfold doGone; repeat' split
  all_goals first|exact .inl rfl|exact .inr rfl
 rw [if_neg h2]
 by_cases h3:o.kind=3
 ·rw [if_pos h3]
  unfold doToken; repeat' split
  all_goals first|exact .inl rfl|exact .inr rfl
 rw [if_neg h3]
 by_cases h4:o.kind=4
 ·rw [if_pos h4]
  unfold doJoin; repeat' split
  all_goals first|exact .inl rfl|exact .inr rfl
 rw [if_neg h4]
 by_cases h5:o.kind=5
 ·rw [if_pos h5]
  unfold doNode; repeat' split
  all_goals first|exact .inl rfl|exact .inr rfl
 rw [if_neg h5]
 by_cases h6:o.kind=6
 ·rw [if_pos h6]
  unfold doBan; repeat' split
  all_goals first|exact .inl rfl|exact .inr rfl
 rw [if_neg h6]
 by_cases h7:o.kind=7
 ·rw [if_pos h7]
  unfold doLift; repeat' split
  all_goals first|exact .inl rfl|exact .inr rfl
 rw [if_neg h7]
 by_cases h8:o.kind=8
 ·rw [if_pos h8]
  unfold doEvict; repeat' split
  all_goals first|exact .inl rfl|exact .inr rfl
 rw [if_neg h8]
 by_cases h9:o.kind=9
 ·rw [if_pos h9]
  unfold doPrepare; repeat' split
  all_goals first|exact .inl rfl|exact .inr rfl
 rw [if_neg h9]
 by_cases h10:o.kind=10
 ·rw [if_pos h10]
  unfold doActive; repeat' split
  all_goals first|exact .inl rfl|exact .inr rfl
 rw [if_neg h10]
 by_cases h11:o.kind=11
 ·rw [if_pos h11]
  unfold doDrop; repeat' split
  all_goals first|exact .inl rfl|exact .inr rfl
 rw [if_neg h11]
 by_cases h12:o.kind=12
 ·rw [if_pos h12]
  unfold doBundle; repeat' split
  all_goals first|exact .inl rfl|exact .inr rfl
 rw [if_neg h12]
 by_cases h13:o.kind=13
 ·rw [if_pos h13]
  unfold doUnbind; repeat' split
  all_goals first|exact .inl rfl|exact .inr rfl
 rw [if_neg h13]
 by_cases h14:o.kind=14
 ·rw [if_pos h14]
  unfold doSeq; repeat' split
  all_goals first|exact .inl rfl|exact .inr rfl
 rw [if_neg h14]
 exact .inl rfl
end Led
theorem did_bundle(P:Bool→Prop) {base gl:Nat} {w:World} {vE vN vB vJ vK vU sv kv:Value} {L:Led.Ledger} {E:List (Led.Entry × Value)} {U:List (Led.Bundle × Value)} {o:Led.Op} (H:LAt base gl w vE vN vB vJ vK vU L E U) (hL:L.Wf) (hkv:w.ownsRow base 54 2 kv o.bundle.keys.length (rows jwkRow o.bundle.keys))
  (HB:∀ W',Below w.heap.size w W'→Calls Tryz.prog 107 #[.agg (bunRow (o.bundle,kv)).toArray] W' fun e w'=>∃ ok,P ok∧e=.returned (.bool ok)∧Below W'.heap.size W' w') :
  Calls Tryz.prog 53 #[.pointer (some ⟨gl,0,none⟩),.agg (opCells o sv kv).toArray] w fun x w'=>∃ ok,P ok∧Did base gl (doBundle ok L o.bundle) w x w':=by
 have hlen:U.length=L.bundles.length:=by rw [← H.wk.buns,List.length_map]
 have h3:=hL.u3
 have one:∀ {u:Value} {n:Nat} {xs:List Value},w.ownsRow base 54 2 u n xs→u.oneCell'=true:=fun hu=>by
  obtain⟨A,c,h,_⟩:=own_form hu; rw [h]; rfl
 refine(putBundle_any P gl o sv kv _ U base vU w (one hkv) (by omega) (rises_fst H.wk.buns hL.u1) (fun p hp=>one (H.wk.keyss p hp)) H.hb H.blk rfl H.wk.oU (own_ne H.wk.oU H.blk (by decide)) HB).mono ?_
 rintro x w' ⟨ok,hP,hq⟩
 refine⟨ok,hP,?_⟩
 unfold BundlePut at hq
 unfold doBundle
 rw [any_fst (l:=L.bundles) H.wk.buns (fun b=>b.domain==o.bundle.domain&&decide (b.number > o.bundle.number))] at hq
 split at hq
 ·rename_i hc
  rw [if_pos hc]; split at hq
  ·rename_i hc
   rw [if_pos hc]; exact Did.err H.hb (by decide) hq
  ·rename_i hc
   rw [if_neg hc]; have hi:(ins cBp (o.bundle,kv) U).map Prod.fst=ins cB o.bundle L.bundles:=ins_fst H.wk.buns o.bundle kv; have hil:(ins cBp (o.bundle,kv) U).length=(ins cB o.bundle L.bundles).length:=by rw [← hi,List.length_map]
   unfold Puts put at hq; unfold put; rw [hil] at hq; split at hq
   ·rename_i l hl
    split at hl
    ·rename_i hle
     injection hl with hl
     subst hl; rw [if_pos hle]; obtain⟨rfl,hS⟩:=hq; obtain⟨v',h1,h2⟩:=H.slotU hS hi (fun p hp=>by
      rcases ins_mem hp with rfl|hp
      ·exact hkv
      ·exact H.wk.keyss p hp)
     exact Did.ok h1 h2
    ·cases hl
   ·rename_i hl
    split at hl
    ·cases hl
    ·rename_i hle
     rw [if_neg hle]; exact Did.err H.hb (by decide) hq
 ·rename_i hc
  rw [if_neg hc]; exact Did.err H.hb (by decide) hq
theorem apply_any(P:Bool→Prop) (cs:List Value) (L:Led.Ledger) (E:List (Led.Entry × Value)) (U:List (Led.Bundle × Value)) (o:Led.Op) (sv kv:Value) (w:World) (hL:LgAt w cs L E U) (hW:L.Wf) (ho:Sized o) (hraw:o.kind≤100) (hsv:TextsAt w sv o.entry.sels) (hkv:ElemsAt jwkRow 2 w kv o.bundle.keys)
  (HB:∀ W' kv',Below w.heap.size w W'→ElemsAt jwkRow 2 W' kv' o.bundle.keys→Calls Tryz.prog 107 #[.agg (bunRow (o.bundle,kv')).toArray] W' fun e w'=>∃ ok,P ok∧e=.returned (.bool ok)∧Below W'.heap.size W' w') :
  Calls Tryz.prog 14 #[.agg cs.toArray,.agg (opCells o sv kv).toArray] w (Applied (fun r=>∃ ok,(o.kind=12→P ok)∧r=does ok L o) L w):=by
 by_cases k1:o.kind=1
 ·refine apply_gen cs L E U o sv kv 42 _ w hL hW.small hsv hkv ho.el ho.ul (by rw [k1]; kernel_rfl) (enters_of Tryz.func42 (by kernel_rfl) rfl) ?_
  intro base gl W vE vN vB vJ vK vU E1 U1 sv1 kv1 hb hbl hA h1 h2 h3; have e:does false L o=doEntry L o.entry:=by unfold does; simp [k1]
  refine(did_entry hA hW ho h1 h2).mono fun x w' h=>⟨_,⟨false,fun e=>by omega,rfl⟩,?_⟩; rw [e]; exact h
 by_cases k2:o.kind=2
 ·refine apply_gen cs L E U o sv kv 43 _ w hL hW.small hsv hkv ho.el ho.ul (by rw [k2]; kernel_rfl) (enters_of Tryz.func43 (by kernel_rfl) rfl) ?_
  intro base gl W vE vN vB vJ vK vU E1 U1 sv1 kv1 hb hbl hA h1 h2 h3; have e:does false L o=doGone L o.n:=by unfold does; simp [k2]
  refine(did_gone hA hW).mono fun x w' h=>⟨_,⟨false,fun e=>by omega,rfl⟩,?_⟩; rw [e]; exact h
 by_cases k3:o.kind=3
 ·refine apply_gen cs L E U o sv kv 44 _ w hL hW.small hsv hkv ho.el ho.ul (by rw [k3]; kernel_rfl) (enters_of Tryz.func44 (by kernel_rfl) rfl) ?_
  intro base gl W vE vN vB vJ vK vU E1 U1 sv1 kv1 hb hbl hA h1 h2 h3; have e:does false L o=doToken L o.join:=by unfold does; simp [k3]
  refine(did_token hA hW ho).mono fun x w' h=>⟨_,⟨false,fun e=>by omega,rfl⟩,?_⟩; rw [e]; exact h
 by_cases k4:o.kind=4
 ·refine apply_gen cs L E U o sv kv 45 _ w hL hW.small hsv hkv ho.el ho.ul (by rw [k4]; kernel_rfl) (enters_of Tryz.func45 (by kernel_rfl) rfl) ?_
  intro base gl W vE vN vB vJ vK vU E1 U1 sv1 kv1 hb hbl hA h1 h2 h3; have e:does false L o=doJoin L o.name o.node:=by unfold does; simp [k4]
  refine(did_join hA hW ho).mono fun x w' h=>⟨_,⟨false,fun e=>by omega,rfl⟩,?_⟩; rw [e]; exact h
 by_cases k5:o.kind=5
 ·refine apply_gen cs L E U o sv kv 46 _ w hL hW.small hsv hkv ho.el ho.ul (by rw [k5]; kernel_rfl) (enters_of Tryz.func46 (by kernel_rfl) rfl) ?_
  intro base gl W vE vN vB vJ vK vU E1 U1 sv1 kv1 hb hbl hA h1 h2 h3; have e:does false L o=doNode L o.node:=by unfold does; simp [k5]
  refine(did_node hA hW ho).mono fun x w' h=>⟨_,⟨false,fun e=>by omega,rfl⟩,?_⟩; rw [e]; exact h
 by_cases k6:o.kind=6
 ·refine apply_gen cs L E U o sv kv 47 _ w hL hW.small hsv hkv ho.el ho.ul (by rw [k6]; kernel_rfl) (enters_of Tryz.func47 (by kernel_rfl) rfl) ?_
  intro base gl W vE vN vB vJ vK vU E1 U1 sv1 kv1 hb hbl hA h1 h2 h3; have e:does false L o=doBan L o.name:=by unfold does; simp [k6]
  refine(did_ban hA hW ho).mono fun x w' h=>⟨_,⟨false,fun e=>by omega,rfl⟩,?_⟩; rw [e]; exact h
 by_cases k7:o.kind=7
 ·refine apply_gen cs L E U o sv kv 48 _ w hL hW.small hsv hkv ho.el ho.ul (by rw [k7]; kernel_rfl) (enters_of Tryz.func48 (by kernel_rfl) rfl) ?_
  intro base gl W vE vN vB vJ vK vU E1 U1 sv1 kv1 hb hbl hA h1 h2 h3; have e:does false L o=doLift L o.name:=by unfold does; simp [k7]
  refine(did_lift hA hW).mono fun x w' h=>⟨_,⟨false,fun e=>by omega,rfl⟩,?_⟩; rw [e]; exact h
 by_cases k8:o.kind=8
 ·refine apply_gen cs L E U o sv kv 49 _ w hL hW.small hsv hkv ho.el ho.ul (by rw [k8]; kernel_rfl) (enters_of Tryz.func49 (by kernel_rfl) rfl) ?_
  intro base gl W vE vN vB vJ vK vU E1 U1 sv1 kv1 hb hbl hA h1 h2 h3; have e:does false L o=doEvict L o.name:=by unfold does; simp [k8]
  refine(did_evict hA hW).mono fun x w' h=>⟨_,⟨false,fun e=>by omega,rfl⟩,?_⟩; rw [e]; exact h
 by_cases k9:o.kind=9
 ·refine apply_gen cs L E U o sv kv 50 _ w hL hW.small hsv hkv ho.el ho.ul (by rw [k9]; kernel_rfl) (enters_of Tryz.func50 (by kernel_rfl) rfl) ?_
  intro base gl W vE vN vB vJ vK vU E1 U1 sv1 kv1 hb hbl hA h1 h2 h3; have e:does false L o=doPrepare L o.key:=by unfold does; simp [k9]
  refine(did_prepare hA hW).mono fun x w' h=>⟨_,⟨false,fun e=>by omega,rfl⟩,?_⟩; rw [e]; exact h
 by_cases k10:o.kind=10
 ·refine apply_gen cs L E U o sv kv 51 _ w hL hW.small hsv hkv ho.el ho.ul (by rw [k10]; kernel_rfl) (enters_of Tryz.func51 (by kernel_rfl) rfl) ?_
  intro base gl W vE vN vB vJ vK vU E1 U1 sv1 kv1 hb hbl hA h1 h2 h3; have e:does false L o=doActive L o.n:=by unfold does; simp [k10]
  refine(did_active hA hW).mono fun x w' h=>⟨_,⟨false,fun e=>by omega,rfl⟩,?_⟩; rw [e]; exact h
 by_cases k11:o.kind=11
 ·refine apply_gen cs L E U o sv kv 52 _ w hL hW.small hsv hkv ho.el ho.ul (by rw [k11]; kernel_rfl) (enters_of Tryz.func52 (by kernel_rfl) rfl) ?_
  intro base gl W vE vN vB vJ vK vU E1 U1 sv1 kv1 hb hbl hA h1 h2 h3; have e:does false L o=doDrop L o.name:=by unfold does; simp [k11]
  refine(did_drop hA hW).mono fun x w' h=>⟨_,⟨false,fun e=>by omega,rfl⟩,?_⟩; rw [e]; exact h
 by_cases k13:o.kind=13
 ·refine apply_gen cs L E U o sv kv 54 _ w hL hW.small hsv hkv ho.el ho.ul (by rw [k13]; kernel_rfl) (enters_of Tryz.func54 (by kernel_rfl) rfl) ?_
  intro base gl W vE vN vB vJ vK vU E1 U1 sv1 kv1 hb hbl hA h1 h2 h3; have e:does false L o=doUnbind L o.name:=by unfold does; simp [k13]
  refine(did_unbind hA hW).mono fun x w' h=>⟨_,⟨false,fun e=>by omega,rfl⟩,?_⟩; rw [e]; exact h
 by_cases k14:o.kind=14
 ·refine apply_gen cs L E U o sv kv 55 _ w hL hW.small hsv hkv ho.el ho.ul (by rw [k14]; kernel_rfl) (enters_of Tryz.func55 (by kernel_rfl) rfl) ?_
  intro base gl W vE vN vB vJ vK vU E1 U1 sv1 kv1 hb hbl hA h1 h2 h3; have e:does false L o=doSeq L o.name o.n:=by unfold does; simp [k14]
  refine(did_seq hA hW).mono fun x w' h=>⟨_,⟨false,fun e=>by omega,rfl⟩,?_⟩; rw [e]; exact h
 by_cases k12:o.kind=12
 ·refine apply_gen cs L E U o sv kv 53 _ w hL hW.small hsv hkv ho.el ho.ul (by rw [k12]; kernel_rfl) (enters_of Tryz.func53 (by kernel_rfl) rfl) ?_
  intro base gl W vE vN vB vJ vK vU E1 U1 sv1 kv1 hb hbl hA h1 h2 h3; refine(did_bundle P hA hW h3 (fun W' hb'=>HB W' kv1 (hbl.trans (hb'.mono hbl.size)) ((own_elems h3).below hb'))).mono ?_; rintro x w' ⟨ok,hP,h⟩; have e:does ok L o=doBundle ok L o.bundle:=by unfold does; simp [k12]
  refine⟨_,⟨ok,fun _=>hP,rfl⟩,?_⟩; rw [e]; exact h
 have e:does false L o=(L,1):=by unfold does; simp only [k1,k2,k3,k4,k5,k6,k7,k8,k9,k10,k11,k12,k13,k14,if_false]
 refine(apply_none cs L E U (opCells o sv kv) o.kind w hL hW.small rfl ?_).mono ?_
 ·rw [List.findIdx?_eq_none_iff]
  intro p hp; simp only [doL,List.mem_cons,List.not_mem_nil,or_false] at hp; rcases hp with rfl|rfl|rfl|rfl|rfl|rfl|rfl|rfl|rfl|rfl|rfl|rfl|rfl|rfl|rfl|rfl|rfl|rfl|rfl|rfl <;> simp only [beq_eq_false_iff_ne,ne_eq] <;> omega
 ·rintro x w' ⟨r,rfl,h⟩
  exact⟨(L,1),⟨false,fun e=>absurd e k12,e.symm⟩,h⟩
end
section
open Go.RowKit Mem Led
structure JsV where
 kind:Int
 number:Int
 text:Txt
 names:Value
 kids:Value
def jsRow (v:JsV):List Value:=[.int .i64 v.kind,.int .i64 v.number,.string (str v.text),v.names,v.kids]
theorem jsRow_len(v:JsV):(jsRow v).length=5:=rfl
theorem sizeJs:(Tryz.prog.info? 197).map (·.size)=some 5:=by kernel_rfl
def ldJs (x:Value):Sem Value:=Instr.loadAt 197 x
def stJs (x v:Value):Sem Unit:=Instr.storeAt 197 x v
theorem named_ldJs(x:Value):Instr.loadAt 197 x=ldJs x:=rfl
theorem named_stJs(x v:Value):Instr.storeAt 197 x v=stJs x v:=rfl
attribute [go_sem ↓] named_ldJs named_stJs
theorem ldJs_es{w:World} {A:Option Addr} {n:Nat} {L:List JsV} (h:Es jsRow 5 w A n L) {i:Nat} (hi:i<L.length) :
  ∃ b off,A=some ⟨b,off,none⟩∧b<w.heap.size∧∀ w',Below w.heap.size w w'→(ldJs (.pointer (some ⟨b,off+i * 5,none⟩))).run Tryz.prog w'=.ok (.agg (jsRow L[i]).toArray) w' :=
 load_es Tryz.underlying197 rfl sizeJs jsRow_len (by omega) h hi
theorem ldJs_blk{w:World} {g:Nat} {v:JsV} {t:TypeId} (h:Blk w g (jsRow v) t):(ldJs (.pointer (some ⟨g,0,none⟩))).run Tryz.prog w=.ok (.agg (jsRow v).toArray) w :=
 load_cells Tryz.underlying197 rfl sizeJs rfl fun j u hj=>by rw [h.cell,Nat.zero_add]; exact hj
theorem idxJs_any(g:Nat) (lb:Array Value) (eg:∀ args w,(callFunc g args).run Tryz.prog w=.ok (.enter g args) w) (p:JsV→Bool) (A:Option Addr) (n c:Nat) (L:List JsV) (w:World) (h:Es jsRow 5 w A n L) (hn:n≤9223372036854775807)
  (hp:∀ (W:World) (x:JsV),x∈L→Below w.heap.size w W→Calls Tryz.prog g (#[.agg (jsRow x).toArray]++lb) W fun e w'=>e=.returned (.bool (p x))∧Below W.heap.size W w') :
  Calls Tryz.prog 259 #[.slice A n c,.func (.func g) #[] lb] w fun e w'=>e=.returned (.int .i64 (idxOf p L))∧Below w.heap.size w w':=by
 have hlen:=h.len jsRow_len (by decide)
 have HLEN:=Lib.hid hlen
 obtain⟨r,HR⟩:∃ r,Hid (idxOf p L=r):=⟨_,Lib.hid rfl⟩
 rw [HR.out]
 have HP:=Lib.hid hp
 clear hp
 go_enter Tryz.func259,Tryz.ntmps259
 go_wp2
 go_loopw [8,5] (fun i _ wr=>∃ k:Nat,k≤n∧i=.int .i64 k∧Hid (∀ x∈L.take k,p x=false)∧Below w.heap.size w wr) (fun i _ _=>n - (intOf i).toNat)
 case atStart=>exact⟨0,by omega,rfl,Lib.hid (by simp),Below.refl _ _⟩
 case round =>
  obtain⟨k,hk,rfl,HT,hb⟩:=hrel; by_cases hlt:k<n
  ·have hkL:k<L.length:=by rw [hlen]; exact hlt
   obtain⟨b,off,rfl,hbb,hld⟩:=ldJs_es (h.below hb) hkL; have hl:=hld wr (Below.refl _ _); clear hld; have hc:=HP.out wr L[k] (List.getElem_mem hkL) hb; have hi:(k:Int)<(n:Int):=by omega
   cases hq:p L[k]
   ·have HN:=Lib.hid (take_more hkL HT.out hq)
    rw [hq] at hc; generalize (jsRow L[k]).toArray=X at *; clear hq; go_wp2_with fail
    refine hc.mono ?_; rintro e w1 ⟨rfl,hb1⟩; go_wp2; go_roundw
    case rel=>exact⟨k+1,by omega,by go_num,HN,hb.trans (hb1.mono hb.size)⟩
    case measure=>simp [intOf]; omega
   ·have HI:=Lib.hid (idx_some hkL HT.out hq)
    rw [hq] at hc; generalize (jsRow L[k]).toArray=X at *; clear hq; go_wp2_with fail
    refine hc.mono ?_; rintro e w1 ⟨rfl,hb1⟩; go_wp2; go_ret; exact⟨by rw [← HR.out,HI.out]; rfl,hb.trans (hb1.mono hb.size)⟩
  ·have hkn:k=n:=by omega
   have HI:=Lib.hid (idx_none (p:=p) (L:=L) (by have:=HT.out; rwa [hkn,List.take_of_length_le (by rw [HLEN.out]; exact Nat.le_refl _)] at this))
   have hi:¬ ((k:Int)<(n:Int)):=by omega
   go_wp2; go_ret; exact⟨by rw [← HR.out,HI.out]; rfl,hb⟩
theorem hasJs_any(g:Nat) (lb:Array Value) (eg:∀ args w,(callFunc g args).run Tryz.prog w=.ok (.enter g args) w) (p:JsV→Bool) (A:Option Addr) (n c:Nat) (L:List (JsV)) (w:World) (h:Es jsRow 5 w A n L) (hn:n≤9223372036854775807)
  (hp:∀ (W:World) (x:JsV),x∈L→Below w.heap.size w W→Calls Tryz.prog g (#[.agg (jsRow x).toArray]++lb) W fun e w'=>e=.returned (.bool (p x))∧Below W.heap.size W w') :
  Calls Tryz.prog 232 #[.slice A n c,.func (.func g) #[] lb] w fun e w'=>e=.returned (.bool (L.any p))∧Below w.heap.size w w':=by
 have hc:=idxJs_any g lb eg p A n c L w h hn hp
 rw [← idx_any]
 generalize idxOf p L=r at *
 go_enter Tryz.func232,Tryz.ntmps232
 go_wp2_with fail
 refine hc.mono ?_
 rintro e w1 ⟨rfl,hb1⟩
 go_wp2
 go_ret
 exact⟨by first|rfl|simp,hb1⟩
theorem hasStr_any(g:Nat) (lb:Array Value) (eg:∀ args w,(callFunc g args).run Tryz.prog w=.ok (.enter g args) w) (p:Txt→Bool) (A:Option Addr) (n c:Nat) (L:List (Txt)) (w:World) (h:Ts w A n L) (hn:n≤9223372036854775807)
  (hp:∀ (W:World) (x:Txt),x∈L→Below w.heap.size w W→Calls Tryz.prog g (#[.string (str x)]++lb) W fun e w'=>e=.returned (.bool (p x))∧Below W.heap.size W w') :
  Calls Tryz.prog 159 #[.slice A n c,.func (.func g) #[] lb] w fun e w'=>e=.returned (.bool (L.any p))∧Below w.heap.size w w':=by
 have hc:=idxStr_any g lb eg p A n c L w h hn hp
 rw [← idx_any]
 generalize idxOf p L=r at *
 go_enter Tryz.func159,Tryz.ntmps159
 go_wp2_with fail
 refine hc.mono ?_
 rintro e w1 ⟨rfl,hb1⟩
 go_wp2
 go_ret
 exact⟨by first|rfl|simp,hb1⟩
theorem plain_any(k:Int) (m:Int) (t:Txt) (A:Option Addr) (n c:Nat) (A':Option Addr) (n' c':Nat) (w:World) (hk:k=2∨k=3∨k=4∨k=5) (h1:m=0∨k=2) (h2:n'=0∨k=4∨k=5) (h3:n=0∨k=5) (h4:t=[]∨k=3) :
  Calls Tryz.prog 228 #[.agg #[.int .i64 k,.int .i64 m,.string (str t),.slice A n c,.slice A' n' c']] w fun e w'=>e=.returned (.bool true)∧Below w.heap.size w w':=by
 have hb:∀ o,Below w.heap.size w (w.alloc o):=fun o=>(Below.refl _ _).alloc (Nat.le_refl _) _
 have hs0:str []=⟨#[]⟩:=rfl
 rcases hk with rfl|rfl|rfl|rfl
 ·have e2:n'=0:=by omega
  have e3:n=0:=by omega
  have e4:t=[]:=by rcases h4 with h|h; exact h; omega
  subst e2 e3 e4; rw [hs0]; clear h1 h2 h3 h4; by_cases hm:m=0
  ·subst hm
   go_enter Tryz.func228,Tryz.ntmps228
   go_wp2_with fail
   go_ret; exact⟨rfl,hb _⟩
  ·have hmb:(m==0)=false:=by simpa using hm
   have hmd:decide (m=0)=false:=by simpa using hm
   go_enter Tryz.func228,Tryz.ntmps228
   go_wp2_with fail
   go_ret; exact⟨rfl,hb _⟩
 ·have e1:m=0:=by omega
  have e2:n'=0:=by omega
  have e3:n=0:=by omega
  subst e1 e2 e3; clear h1 h2 h3 h4; by_cases ht:t=[]
  ·subst ht
   rw [hs0]; go_enter Tryz.func228,Tryz.ntmps228
   go_wp2_with fail
   go_ret; exact⟨rfl,hb _⟩
  ·have f1:decide (str t=⟨#[]⟩)=false:=by simp [str]; exact ht
   have f2:(str t).toList.isEmpty=false:=by rw [str_bytes]; simpa using ht
   have f3:t.isEmpty=false:=by simpa using ht
   have f4:(t==[])=false:=by simpa using ht
   go_enter Tryz.func228,Tryz.ntmps228
   go_wp2_with fail
   go_ret; exact⟨rfl,hb _⟩
 ·have e1:m=0:=by omega
  have e3:n=0:=by omega
  have e4:t=[]:=by rcases h4 with h|h; exact h; omega
  subst e1 e3 e4; rw [hs0]; clear h1 h2 h3 h4; by_cases hn:n'=0
  ·subst hn
   go_enter Tryz.func228,Tryz.ntmps228
   go_wp2_with fail
   go_ret; exact⟨rfl,hb _⟩
  ·have f1:((n':Int)==0)=false:=by simp; omega
   have f2:decide ((n':Int)=0)=false:=by simp; omega
   have f3:(n'==0)=false:=by simpa using hn
   go_enter Tryz.func228,Tryz.ntmps228
   go_wp2_with fail
   go_ret; exact⟨rfl,hb _⟩
 ·have e1:m=0:=by omega
  have e4:t=[]:=by rcases h4 with h|h; exact h; omega
  subst e1 e4; rw [hs0]; clear h1 h2 h3 h4; by_cases hn:n'=0 <;> by_cases hn2:n=0
  ·subst hn hn2
   go_enter Tryz.func228,Tryz.ntmps228
   go_wp2_with fail
   go_ret; exact⟨rfl,hb _⟩
  ·subst hn
   have f3:(n==0)=false:=by simpa using hn2
   go_enter Tryz.func228,Tryz.ntmps228
   go_wp2_with fail
   go_ret; exact⟨rfl,hb _⟩
  ·subst hn2
   have f3:(n'==0)=false:=by simpa using hn
   go_enter Tryz.func228,Tryz.ntmps228
   go_wp2_with fail
   go_ret; exact⟨rfl,hb _⟩
  ·have f3:(n'==0)=false:=by simpa using hn
   have f4:(n==0)=false:=by simpa using hn2
   go_enter Tryz.func228,Tryz.ntmps228
   go_wp2_with fail
   go_ret; exact⟨rfl,hb _⟩
end
end Go.Proofs.YtmbpnkacggngkaaGreatDoor
section
namespace Go.Proofs
open Go.Shelf
theorem Tryz.Builder_Extra_169:Builder.Extra Tryz.prog Tryz.lays169_ren:={
 sizeBuilder:=by kernel_rfl
 liesBuilder:=by kernel_rfl
 t5:=Tryz.underlying5
 a5:=Tryz.isAgg5
 z5:=Tryz.sizeOf5
 v5:=Tryz.zeroValue5
 infoByte:=by kernel_rfl
 cellsByte:=by kernel_rfl
 sizeByte:=by kernel_rfl
 neB5:=by decide }
open Go.RowKit in
theorem Tryz.Builder_String_any(B b:Nat) (l:List UInt8) (w:World) (h:Lib.IsBuilder 214 5 B b (Lib.byteCells l) w) (hBw:B≤w.heap.size) :
  Calls Tryz.prog 202 #[.pointer (some ⟨b,0,none⟩)] w fun e w'=>e=.returned (.string ⟨l.toArray⟩)∧Below B w w':=Any.Builder_String_any Tryz.lays169 Tryz.Builder_Extra_169 B b l w h hBw
def Tryz.laysGw17_ren:Go.Shelf.Ren:=⟨fun|17=>230|15=>258|20=>272|n=>n,fun|9=>9|23=>241|4=>4|3=>3|0=>0|21=>21|n=>n,fun|n=>n⟩
theorem Tryz.laysGw17:Go.Proofs.LaysGw.n17 Tryz.prog Tryz.laysGw17_ren:={
 mixed:=by kernel_rfl
 f15:=Tryz.func258.trans (congrArg some (by kernel_rfl))
 f17:=Tryz.func230.trans (congrArg some (by kernel_rfl))
 f20:=Tryz.func272.trans (congrArg some (by kernel_rfl))
 t0:=Tryz.underlying0
 a0:=Tryz.isAgg0
 z0:=Tryz.sizeOf0
 v0:=Tryz.zeroValue0
 i0:=by kernel_rfl
 t3:=Tryz.underlying3
 a3:=Tryz.isAgg3
 z3:=Tryz.sizeOf3
 v3:=Tryz.zeroValue3
 i3:=by kernel_rfl
 t4:=Tryz.underlying4
 a4:=Tryz.isAgg4
 z4:=Tryz.sizeOf4
 v4:=Tryz.zeroValue4
 i4:=by kernel_rfl
 t9:=Tryz.underlying9
 a9:=Tryz.isAgg9
 z9:=Tryz.sizeOf9
 v9:=Tryz.zeroValue9
 i9:=by kernel_rfl
 t21:=Tryz.underlying21
 a21:=Tryz.isAgg21
 z21:=Tryz.sizeOf21
 v21:=Tryz.zeroValue21
 i21:=by kernel_rfl
 t23:=Tryz.underlying241
 a23:=Tryz.isAgg241
 z23:=Tryz.sizeOf241
 v23:=Tryz.zeroValue241
 i23:=by kernel_rfl }
open Go.RowKit Go.Lib in
theorem Tryz.strings_ContainsFunc_runes(g:Nat) (lb:Array Value) (eg:∀ args w,(callFunc g args).run Tryz.prog w=.ok (.enter g args) w) (p:Nat→Bool) (s:ByteArray) (w:World) (hp:PredAtRunes Tryz.prog g lb p w) :
  Calls Tryz.prog 230 #[.string s,.func (.func g) #[] lb] w fun e w'=>e=.returned (.bool (decide (0≤Lib.idxFunc p true s)))∧Below w.heap.size w w':=Any.strings_ContainsFunc_runes Tryz.laysGw17 g lb eg p s w hp
end Go.Proofs
end
