/- THE WALK of LedgerWell. -/
import Derived.Test.YtmbpnkacggngkaaGreatDoorLW14
set_option maxRecDepth 100000
set_option maxHeartbeats 16000000
namespace Go.Proofs.YtmbpnkacggngkaaGreatDoor
section
open Go.RowKit Mem Led
theorem rises_at{α:Type} {c:α→α→Int} {l:List α} (h:Rises c l) {i j:Nat} (hij:i<j) (hj:j<l.length):c (l[i]'(by omega)) l[j]<0:=(List.pairwise_iff_getElem.1 h) i j (by omega) hj hij
theorem count_at{α:Type} (p:α→Bool) (l:List α) (i:Nat) (h:i<l.length):(l.take (i+1)).countP p=(l.take i).countP p+if p l[i]=true then 1 else 0:=by
 rw [List.take_succ_eq_append_getElem h,List.countP_append,List.countP_singleton]
theorem count_take_le{α:Type} (p:α→Bool) (l:List α) (i:Nat):(l.take i).countP p≤l.countP p:=(List.take_sublist i l).countP_le
theorem agent_len{t:Txt} (h:Ids.agent t=true):t.length≤40:=by
 unfold Ids.agent at h
 simp only [Bool.and_eq_true] at h
 exact(path_len h.1.2).2
theorem sel_len{t:Txt} (h:Ids.selector t=true):t.length≤25:=by
 unfold Ids.selector at h
 simp only [Bool.and_eq_true,decide_eq_true_eq] at h
 omega
theorem entry_len{e:Led.Entry} (h:mayEntry e=true):e.path.length≤40∧e.parent.length≤40∧∀ x∈e.sels,x.length≤25:=by
 unfold mayEntry at h
 simp only [Bool.and_eq_true] at h
 refine⟨(path_len h.1.1.1.1.2).2,(path_len h.1.1.2).2,fun x hx=>?_⟩
 have h1:=h.1.1.1.1.1.1.1
 unfold Ids.setOf at h1
 split at h1
 ·rename_i ha
  exact sel_len (List.all_eq_true.1 ha x hx)
 ·simp at h1
theorem node_len{n:Led.Node} (h:mayNode n=true):n.name.length≤40:=by
 unfold mayNode at h
 simp only [Bool.and_eq_true] at h
 exact agent_len h.1.1.1.1
theorem es_cell{α:Type} {enc:α→List Value} {k:Nat} (hk:∀ x,(enc x).length=k) (h0:0<k) {w w':World} {b off n:Nat} {L:List α} (h:Es enc k w (some ⟨b,off,none⟩) n L) {i:Nat} (hi:i<L.length) (hb:Below w.heap.size w w') {j:Nat} {u:Value} (hj:(enc L[i])[j]?=some u) :
  w'.cell? ⟨b,off+i * k+j,none⟩=some u:=by
 obtain⟨b',off',e,h1,h2⟩:=h.lit hk h0 hi
 injection e with e
 injection e with e1 e2 _
 subst e1 e2
 rw [Nat.add_assoc]
 exact(hb.cell (p:=⟨b,off+(i * k+j),none⟩) h1).trans (h2 j u hj)
theorem ledgerWell_in(A:Option Addr) (n c:Nat) (L:List OpV) (w:World) (hT:Tab Sha.kkL w) (hd:OpsIn w A n L) (_hn:n≤c) (_hc:c≤9223372036854775807) :
  Calls Tryz.prog 5 #[.slice A n c] w fun e w'=>e=.returned (.bool true)∧Below w.heap.size w w':=by
 have HD:=Lib.hid hd
 have HL:=Lib.hid hd.len
 have HT:=Lib.hid hT
 obtain⟨W0,hW0⟩:∃ W0,w.alloc (.cells (lgCells (.slice none 0 0)).toArray 30)=W0:=⟨_,rfl⟩
 have hV0:LgVar w.heap.size W0 (lgCells (.slice none 0 0)) none' [] []:=by rw [← hW0]; exact LgVar.new w
 have hb0:Below w.heap.size w W0:=by rw [← hW0]; exact(Below.refl _ _).alloc (Nat.le_refl _) _
 have HW0:Hid (w.alloc (.cells #[.slice none 0 0,.slice none 0 0,.slice none 0 0,.slice none 0 0,.slice none 0 0,.slice none 0 0] 30)=W0):=Lib.hid hW0
 clear hW0 hd hT
 have HV0:=Lib.hid hV0
 clear hV0
 go_enter Tryz.func5,Tryz.ntmps5
 go_upto_region 2 with fail
 rw [HW0.out]
 clear HW0
 go_upto_block 0 with fail
 go_cut [4,5] (fun _ _ wx=>∃ (cs:List Value) (Lg:Led.Ledger) (E:List (Led.Entry × Value)) (U:List (Led.Bundle × Value)),Below w.heap.size w wx∧Hid (LgVar w.heap.size wx cs Lg E U)∧Hid Lg.Wf)
 case first =>
  go_wp2_with fail
  go_loopw [4,5] (fun i _ wx=>∃ (j:Nat) (cs:List Value) (Lg:Led.Ledger) (E:List (Led.Entry × Value)) (U:List (Led.Bundle × Value)),j≤n∧j≤40∧i=.int .i64 (j:Int)∧Below w.heap.size w wx∧Hid (LgVar w.heap.size wx cs Lg E U)∧Hid Lg.Wf) (fun i _ _=>n - (intOf i).toNat)
  case atStart=>exact⟨0,_,_,_,_,by omega,by omega,rfl,hb0,HV0,Lib.hid none_wf⟩
  case round =>
   clear hb0 HV0; obtain⟨j,cs,Lg,E,U,hj,hj40,rfl,hbx,HV,HWf⟩:=hrel; obtain⟨wx,hwx⟩:∃ wx,wx=wr:=⟨_,rfl⟩; subst hwx; have hgw:w.heap.size<wx.heap.size:=HV.out.blk.lt; by_cases hlt:j<n
   ·have hjz:(j:Int)<(n:Int):=by omega
    by_cases h40:j<40
    ·have hj4:(j:Int)<40:=by omega
     have hjl:j<L.length:=by rw [HL.out]; exact hlt
     obtain⟨bk,ok,rfl,hbk,hld⟩:=ldOp_es HD.out.es hjl; have hld1:=hld wx hbx; have HIN:Hid (L[j].In wx):=Lib.hid (OpIn.below (HD.out.each _ (List.getElem_mem hjl)) hbx); generalize L[j]=x at *; have HC:=Lib.hid (cutv_any x wx HIN.out); obtain⟨CX,hCX⟩:∃ CX,Hid ((opvRow x).toArray=CX):=⟨_,Lib.hid rfl⟩; rw [hCX.out] at hld1 HC; clear hld HIN hCX; go_wp2_with fail
     refine HC.out.mono ?_; rintro e w1 ⟨A1,c1,A2,c2,KK,rfl,f1,f2,t1,t2,hKT,hb1⟩; clear HC hld1; obtain⟨hso,hkz⟩:=cut_sized (fun x r h=>by rw [h,Sha.nameOf_len]; omega) hKT
     have HSO:=Lib.hid hso; have HKZ:=Lib.hid hkz; have HSIZE:=Lib.hid (show (cutOp x.o KK).entry.sels.length≤1000∧(cutOp x.o KK).bundle.keys.length≤1000 from⟨hso.el,hso.ul⟩); generalize cutOp x.o KK=o at *; have hsv1:=own_texts (L:=o.entry.sels) (by rw [tv_rows]; exact t1)
     have hkv1:=own_elems (enc:=jwkRow) (L:=o.bundle.keys) t2; obtain⟨w2,hst,B2,hb2⟩:=new_opv w1 (opCells o (.slice A1 (min x.ns 6) c1) (.slice A2 (min x.nk 9) c2)) rfl (opCells_one _ _ _ _ _ _ _); have HSV:=Lib.hid (hsv1.below hb2); have HKV:=Lib.hid (hkv1.below hb2); have hb12:=hb1.trans (hb2.mono hb1.size); have hbw2:Below w.heap.size w w2:=hbx.trans (hb12.mono hbx.size); have hV2:=HV.out.below hb12; have q0:w2.cell? ⟨w1.heap.size,0,none⟩=some (.int .i64 o.kind):=B2.cell 0; have hlo:=load_op B2 rfl; have hll:=hV2.load; have HV2:=Lib.hid hV2; have HRAW:Hid (o.kind≤100→Calls Tryz.prog 14 #[.agg cs.toArray,.agg (opCells o (.slice A1 (min x.ns 6) c1) (.slice A2 (min x.nk 9) c2)).toArray] w2 (Applied (fun r=>r=does (Led.pmay o.bundle) Lg o) Lg w2)):=Lib.hid fun h=>applyc_any cs Lg E U o _ _ w2 HV2.out.at_ HWf.out HSO.out h HSV.out HKV.out HKZ.out (HT.out.below hbw2); have hsz12:=hb1.size; have hsz2:=hb2.size; clear hso hkz t1 t2 hKT hsv1 hkv1 HSV HKV HSO HKZ hb1 hb2 hb12 hV2 B2 f1 f2 HV; obtain⟨CO,hCO⟩:∃ CO,Hid ((opCells o (.slice A1 (min x.ns 6) c1) (.slice A2 (min x.nk 9) c2)).toArray=CO):=⟨_,Lib.hid rfl⟩; rw [hCO.out] at hst hlo HRAW; obtain⟨CL,hCL⟩:∃ CL,Hid (cs.toArray=CL):=⟨_,Lib.hid rfl⟩; rw [hCL.out] at hll HRAW; rw [hCO.out]; by_cases hraw:o.kind≤100
     ·have hap:=HRAW.out hraw
      clear HRAW hCO; go_wp2_with fail
      refine hap.mono ?_; rintro e w3 ⟨r,hr,vE,vN,vB,vJ,vK,vU,E',U',rfl,hWk,hb3⟩; have hWf':(does (Led.pmay o.bundle) Lg o).1.Wf:=does_wf HWf.out HSIZE.out.1 HSIZE.out.2; rw [hr,after_does] at hWk; obtain⟨w4,hst4,hV4,hc4,hWk4⟩:=HV2.out.put hb3 hWk (by omega); have hsz3:=hb3.size; have hbw4:Below w.heap.size w w4:=(hbw2.trans (hb3.mono hbw2.size)).trans (hc4.below' (by omega) (by simp)); have HWf':=Lib.hid hWf'; have HV4:=Lib.hid hV4; clear hr hWk hWk4 hc4 hb3 hap hlo hll hst HV2 hV4 hWf' hbw2 hbx q0; go_wp2_with fail
      go_roundw
      case rel=>exact⟨j+1,_,_,_,_,by omega,by omega,by go_num,hbw4,HV4,HWf'⟩
      case measure=>simp [intOf]; omega
     ·clear HRAW hCO hlo hll
      go_wp2_with fail
      go_roundw
      case rel=>exact⟨j+1,_,_,_,_,by omega,by omega,by go_num,hbw2,HV2,HWf⟩
      case measure=>simp [intOf]; omega
    ·have hj4:¬ (j:Int)<40:=by omega
     go_wp2_with fail
     go_meet
     exact⟨_,_,_,_,hbx,HV,HWf⟩
   ·have hjz:¬ (j:Int)<(n:Int):=by omega
    go_wp2_with fail
    go_meet
    exact⟨_,_,_,_,hbx,HV,HWf⟩
 case rest =>
  obtain⟨cs,Lg,E,U,hbx,HV,HWf⟩:=hcut; clear hb0 HV0 HD HL; obtain⟨⟨vE,vN,vB,vJ,vK,vU,rfl,hE,hN,hB,hJ,hK,hU⟩,hents,hbuns,hsels,hkeyss⟩:=HV.out.at_; obtain⟨AE,nE,cE,rfl,fE,eE⟩:=hE; obtain⟨AN,nN,cN,rfl,fN,eN⟩:=hN; obtain⟨AB,nB,cB,rfl,fB,eB⟩:=hB; obtain⟨AJ,nJ,cJ,rfl,fJ,eJ⟩:=hJ; obtain⟨AK,nK,cK,rfl,fK,eK⟩:=hK; obtain⟨AU,nU,cU,rfl,fU,eU⟩:=hU; have B0:=HV.out.blk; have HlE:=Lib.hid (eE.len entRow_len (by omega)); have HlN:=Lib.hid (eN.len nodeRow_len (by omega)); have HlB:=Lib.hid (show Lg.bans.length=nB by have:=eB.len; omega)
  have HlJ:=Lib.hid (eJ.len joinRow_len (by omega)); have HlK:=Lib.hid (eK.len keyRow_len (by omega)); have HlU:=Lib.hid (eU.len bunRow_len (by omega)); have HENT:=Lib.hid hents; have HSEL:=Lib.hid hsels; have zE:nE≤24:=by have h1:=HWf.out.e3; have h2:=HlE.out; rw [← hents,List.length_map] at h1; omega
  have zN:nN≤4:=by have h1:=HWf.out.n3; have h2:=HlN.out; omega
  have zB:nB≤8:=by have h1:=HWf.out.b3; have h2:=HlB.out; omega
  have zJ:nJ≤16:=by have h1:=HWf.out.j3; have h2:=HlJ.out; omega
  have zK:nK≤8:=by have h1:=HWf.out.k3; have h2:=HlK.out; omega
  have zU:nU≤3:=by have h1:=HWf.out.u3; have h2:=HlU.out; rw [← hbuns,List.length_map] at h1; omega
  clear hents hbuns hsels hkeyss HV fE fN fB fJ fK fU; have k0:wc.cell? ⟨w.heap.size,0,none⟩=some (.slice AE nE cE):=B0.cell 0; go_wp2_with fail
  go_loopw [6,7] (fun i _ wx=>∃ j:Nat,j≤nE∧i=.int .i64 (j:Int)∧Below wc.heap.size wc wx) (fun i _ _=>nE - (intOf i).toNat)
  case atStart=>exact⟨0,by omega,rfl,Below.refl _ _⟩
  case round =>
   clear k0; obtain⟨j,hj,rfl,hb2⟩:=hrel; obtain⟨wx,hwx⟩:∃ wx,wx=wr:=⟨_,rfl⟩; subst hwx; have B:=B0.below hb2; have k0:wx.cell? ⟨w.heap.size,0,none⟩=some (.slice AE nE cE):=B.cell 0; by_cases hlt:j<nE
   ·have hjz:(j:Int)<(nE:Int):=by omega
    have hjl:j<E.length:=by rw [HlE.out]; exact hlt
    obtain⟨b,off,rfl,hbb,hld⟩:=ldEnt_es eE hjl; have hld1:=hld wx hb2; have hmem:=List.getElem_mem hjl; have hmeme:E[j].1∈Lg.entries:=by rw [← HENT.out]; exact List.mem_map.2 ⟨_,hmem,rfl⟩
    have hmay:=HWf.out.e2 _ hmeme; obtain⟨z1,z2,z3⟩:=entry_len hmay; have hr:=rentry_any E[j].1 E[j].2 wx ((HSEL.out _ hmem).below hb2) (HWf.out.e4 _ hmeme) (fun x hx=>by have:=z3 x hx; omega) (by omega) (by omega)
    rw [hmay] at hr; have hr:Calls Tryz.prog 16 #[.agg (entRow E[j]).toArray] wx (fun x w'=>x=.returned (.bool true)∧Below wx.heap.size wx w'):=hr; rcases Nat.eq_zero_or_pos j with hj0|hj0
    ·have HJ0:=Lib.hid hj0
     have g1:¬ (0:Int)<(j:Int):=by omega
     have g2:decide ((0:Int)<(j:Int))=false:=decide_eq_false g1; have g3:¬ 0<j:=by omega
     have g4:decide (0<j)=false:=decide_eq_false g3; clear hld hmem hmeme hmay z1 z2 z3 hj0; generalize (entRow E[j]).toArray=X at *; go_wp2_with fail
     refine hr.mono ?_; rintro x w2 ⟨rfl,hb3⟩; have hb4:=hb2.trans (hb3.mono hb2.size); clear hr hld1 k0; go_upto_region 12 with fail
     refine Batch.wp_region_grew (by kernel_rfl) (by kernel_rfl) ?_; repeat (go_big_quiet_step (fail))
     refine wpQuiet_nil ?_; rintro _ ⟨p,rfl⟩; have hb5:=hb4.trans ((Batch.grew_below w2 p).mono hb4.size); go_wp2_with fail
     go_roundw
     case rel=>exact⟨j+1,by omega,by go_num,hb5⟩
     case measure=>simp [intOf]; omega
    ·obtain⟨pp,hp⟩:∃ pp,j=pp+1:=⟨j - 1,by omega⟩
     have HP:=Lib.hid hp; have g1:(0:Int)<(j:Int):=by omega
     have g3:(j:Int) - 1=(pp:Int):=by omega
     have g4:(pp:Int)<(nE:Int):=by omega
     have hpl:pp<E.length:=by omega
     have hri:E[pp].1.n<E[j].1.n:=by
      have h1:=HWf.out.e1; rw [← HENT.out] at h1; have h2:=rises_at h1 (i:=pp) (j:=j) (by omega) (by rw [List.length_map]; exact hjl)
      simp only [List.getElem_map] at h2; unfold Led.cE at h2; omega
     have hc1:∀ w',Below wc.heap.size wc w'→w'.cell? ⟨b,off+j * 5,none⟩=some (.int .i64 E[j].1.n):=fun w' hb=>es_cell entRow_len (by omega) eE hjl hb (j:=0) rfl; have hc2:∀ w',Below wc.heap.size wc w'→w'.cell? ⟨b,off+pp * 5,none⟩=some (.int .i64 E[pp].1.n):=fun w' hb=>es_cell entRow_len (by omega) eE hpl hb (j:=0) rfl; have g5:¬ E[j].1.n≤E[pp].1.n:=by omega
     have g6:decide (E[j].1.n≤E[pp].1.n)=false:=decide_eq_false g5; clear hld hmem hmeme hmay z1 z2 z3 hp hri; generalize (entRow E[j]).toArray=X at *; generalize E[j].1.n=e1 at *; generalize E[pp].1.n=e2 at *; go_wp2_with fail
     refine hr.mono ?_; rintro x w2 ⟨rfl,hb3⟩; have hb4:=hb2.trans (hb3.mono hb2.size); have k0':w2.cell? ⟨w.heap.size,0,none⟩=some (.slice (some ⟨b,off,none⟩) nE cE):=(B.below hb3).cell 0; have q1:=hc1 w2 hb4; have q2:=hc2 w2 hb4; have f0:∀ p,(Batch.grew w2 p).cell? ⟨w.heap.size,0,none⟩=some (.slice (some ⟨b,off,none⟩) nE cE):=fun p=>((B.below hb3).below (Batch.grew_below w2 p)).cell 0; have f1:∀ p,(Batch.grew w2 p).cell? ⟨b,off+j * 5,none⟩=some (.int .i64 e1):=fun p=>hc1 _ (hb4.trans ((Batch.grew_below w2 p).mono hb4.size)); have f2:∀ p,(Batch.grew w2 p).cell? ⟨b,off+pp * 5,none⟩=some (.int .i64 e2):=fun p=>hc2 _ (hb4.trans ((Batch.grew_below w2 p).mono hb4.size)); clear hr hld1 k0 hc1 hc2 q1 q2 k0'; go_upto_region 12 with fail
     refine Batch.wp_region_grew (by kernel_rfl) (by kernel_rfl) ?_; repeat (go_big_quiet_step (fail))
     refine wpQuiet_nil ?_; rintro _ ⟨p,rfl⟩; have hb5:=hb4.trans ((Batch.grew_below w2 p).mono hb4.size); go_wp2_with fail
     go_roundw
     case rel=>exact⟨j+1,by omega,by go_num,hb5⟩
     case measure=>simp [intOf]; omega
   ·have hjz:¬ (j:Int)<(nE:Int):=by omega
    have hjE:=Lib.hid (show j=nE by omega); have k1:wx.cell? ⟨w.heap.size,1,none⟩=some (.slice AN nN cN):=B.cell 1; clear HENT HSEL HlE; go_wp2_with fail
    go_loopw [8,9,10] (fun i _ _ wy=>∃ j:Nat,j≤nN∧i=.int .i64 (j:Int)∧Below wc.heap.size wc wy) (fun i _ _ _=>nN - (intOf i).toNat)
    case atStart=>exact⟨0,by omega,rfl,hb2⟩
    case round =>
     clear k0 k1 B hb2; obtain⟨j,hj,rfl,hb2⟩:=hrel; obtain⟨wy,hwy⟩:∃ wy,wy=wr:=⟨_,rfl⟩; subst hwy; have B:=B0.below hb2; have k1:wy.cell? ⟨w.heap.size,1,none⟩=some (.slice AN nN cN):=B.cell 1; by_cases hlt:j<nN
     ·have hjz:(j:Int)<(nN:Int):=by omega
      have hjl:j<Lg.nodes.length:=by rw [HlN.out]; exact hlt
      obtain⟨b,off,rfl,hbb,hld⟩:=ldNod_es eN hjl; have hld1:=hld wy hb2; have hmem:=List.getElem_mem hjl; have hmay:=HWf.out.n2 _ hmem; have z1:=node_len hmay; have hr:=rnode_any Lg.nodes[j] wy (by omega); rw [hmay] at hr; have HNB:=Lib.hid (HWf.out.b4 _ hmem); have hcN:∀ w',Below wc.heap.size wc w'→w'.cell? ⟨b,off+j * 5,none⟩=some (.string (str Lg.nodes[j].name)):=fun w' hb=>es_cell nodeRow_len (by omega) eN hjl hb (j:=0) rfl; have HCN:=Lib.hid hcN; obtain⟨nmj,HNM⟩:∃ nmj,Hid (Lg.nodes[j].name=nmj):=⟨_,Lib.hid rfl⟩; rcases Nat.eq_zero_or_pos j with hj0|hj0
      ·have HJ0:=Lib.hid hj0
       have g1:¬ (0:Int)<(j:Int):=by omega
       have g2:decide ((0:Int)<(j:Int))=false:=decide_eq_false g1; have g3:¬ 0<j:=by omega
       have g4:decide (0<j)=false:=decide_eq_false g3; have g5:=g1; have g6:=g1; have g7:=g1; have f0:=g1; have f1:=g1; have f2:=g1; have hr:Calls Tryz.prog 17 #[.agg (nodeRow Lg.nodes[j]).toArray] wy (fun x w'=>x=.returned (.bool true)∧Below wy.heap.size wy w'):=hr; clear hld hmem hmay z1 hj0; generalize (nodeRow Lg.nodes[j]).toArray=X at *; go_wp2_with fail
       refine hr.mono ?_; rintro x w2 ⟨rfl,hb3⟩; have hb4:=hb2.trans (hb3.mono hb2.size); go_upto_region 18 with fail
       refine Batch.wp_region_grew (by kernel_rfl) (by kernel_rfl) ?_; repeat (go_big_quiet_step (fail))
       refine wpQuiet_nil ?_; rintro _ ⟨p,rfl⟩; clear hr hld1 k1 hcN f0 f1 f2 g1 g2 g3 g4 g5 g6 g7; have hb5:=hb4.trans ((Batch.grew_below w2 p).mono hb4.size); generalize Batch.grew w2 p=w5 at *; clear hb4 hb3; have B5:=B0.below hb5; have k2:w5.cell? ⟨w.heap.size,2,none⟩=some (.slice AB nB cB):=B5.cell 2; go_wp2_with fail
       go_loopw [10] (fun k wz=>∃ q:Nat,q≤nB∧k=.int .i64 (q:Int)∧Below wc.heap.size wc wz) (fun k _=>nB - (intOf k).toNat)
       case atStart=>exact⟨0,by omega,rfl,hb5⟩
       case round =>
        clear k2 B5 hb5; obtain⟨q,hq,rfl,hb6⟩:=hrel; obtain⟨wz,hwz⟩:∃ wz,wz=wr:=⟨_,rfl⟩; subst hwz; have B6:=B0.below hb6; have k2:wz.cell? ⟨w.heap.size,2,none⟩=some (.slice AB nB cB):=B6.cell 2; by_cases hltq:q<nB
        ·have hqz:(q:Int)<(nB:Int):=by omega
         have hql:q<Lg.bans.length:=by rw [HlB.out]; exact hltq
         have eBz:Ts wz AB nB Lg.bans:=Ts.below eB hb6; obtain⟨bb,ob,rfl,hcell⟩:=eBz.lit (i:=q) hql; have hne:(Lg.bans[q]==nmj)=false:=by
          rw [beq_eq_false_iff_ne]; exact fun e=>HNB.out (by rw [HNM.out,← e]; exact List.getElem_mem hql)
         have eB6:=eBz; have h0:∀ p,(Batch.grew wz p).cell? ⟨bb,ob+q,none⟩=some (.string (str Lg.bans[q])):=fun p=>by
          have e3:=Ts.below eB6 (Batch.grew_below wz p); obtain⟨bb',ob',e4,hc4⟩:=e3.lit (i:=q) hql; injection e4 with e4
          injection e4 with e5 e6 _
          subst e5 e6; exact hc4
         have h1:∀ p,(Batch.grew wz p).cell? ⟨w.heap.size,2,none⟩=some (.slice (some ⟨bb,ob,none⟩) nB cB):=fun p=>(B6.below (Batch.grew_below wz p)).cell 2; have h2:∀ p,(Batch.grew wz p).cell? ⟨w.heap.size,1,none⟩=some (.slice (some ⟨b,off,none⟩) nN cN):=fun p=>(B6.below (Batch.grew_below wz p)).cell 1; have h3:∀ p,(Batch.grew wz p).cell? ⟨b,off+j * 5,none⟩=some (.string (str nmj)):=fun p=>by rw [← HNM.out]; exact HCN.out _ (hb6.trans ((Batch.grew_below wz p).mono hb6.size))
         clear hcell eBz; generalize Lg.bans[q]=bq at *; go_upto_region 23 with fail
         refine Batch.wp_region_grew (by kernel_rfl) (by kernel_rfl) ?_; repeat (go_big_quiet_step (fail))
         refine wpQuiet_nil ?_; rintro _ ⟨p,rfl⟩; have hb7:=hb6.trans ((Batch.grew_below wz p).mono hb6.size); clear h0 h1 h2 h3 k2 B6; go_wp2_with fail
         go_roundw
         case rel=>exact⟨q+1,by omega,by go_num,hb7⟩
         case measure=>simp [intOf]; omega
        ·have hqz:¬ (q:Int)<(nB:Int):=by omega
         have hqE:=Lib.hid (show q=nB by omega); go_wp2_with fail
         go_roundw
         case rel=>exact⟨j+1,by omega,by go_num,hb6⟩
         case measure=>simp [intOf]; omega
      ·obtain⟨pp,hp⟩:∃ pp,j=pp+1:=⟨j - 1,by omega⟩
       have HP:=Lib.hid hp; have g1:(0:Int)<(j:Int):=by omega
       have g2:(j:Int) - 1=(pp:Int):=by omega
       have g3:(pp:Int)<(nN:Int):=by omega
       have hpl:pp<Lg.nodes.length:=by omega
       have hri:Lg.nodes[pp].name<nmj:=by
        have h2:=rises_at HWf.out.n1 (i:=pp) (j:=j) (by omega) hjl; unfold Led.cN at h2; rw [← HNM.out]; exact ord_lt.1 h2
       have g4:Op.bytesLess nmj Lg.nodes[pp].name=false:=less_no (fun h=>List.lt_irrefl _ (List.lt_trans h hri)); have g8:(nmj==Lg.nodes[pp].name)=false:=by rw [beq_eq_false_iff_ne]; exact fun e=>List.lt_irrefl _ (by rw [e] at hri; exact hri)
       have hcP:∀ w',Below wc.heap.size wc w'→w'.cell? ⟨b,off+pp * 5,none⟩=some (.string (str Lg.nodes[pp].name)):=fun w' hb=>es_cell nodeRow_len (by omega) eN hpl hb (j:=0) rfl; have hr:Calls Tryz.prog 17 #[.agg (nodeRow Lg.nodes[j]).toArray] wy (fun x w'=>x=.returned (.bool true)∧Below wy.heap.size wy w'):=hr; have g5:=g1; have g6:=g1; have g7:=g1; clear hld hmem hmay z1 hp hri; generalize (nodeRow Lg.nodes[j]).toArray=X at *; generalize Lg.nodes[pp].name=nmp at *; go_wp2_with fail
       refine hr.mono ?_; rintro x w2 ⟨rfl,hb3⟩; have hb4:=hb2.trans (hb3.mono hb2.size); have f0:∀ p,(Batch.grew w2 p).cell? ⟨w.heap.size,1,none⟩=some (.slice (some ⟨b,off,none⟩) nN cN):=fun p=>((B.below hb3).below (Batch.grew_below w2 p)).cell 1; have f1:∀ p,(Batch.grew w2 p).cell? ⟨b,off+j * 5,none⟩=some (.string (str nmj)):=fun p=>by rw [← HNM.out]; exact HCN.out _ (hb4.trans ((Batch.grew_below w2 p).mono hb4.size))
       have f2:∀ p,(Batch.grew w2 p).cell? ⟨b,off+pp * 5,none⟩=some (.string (str nmp)):=fun p=>hcP _ (hb4.trans ((Batch.grew_below w2 p).mono hb4.size)); clear hcP; go_upto_region 18 with fail
       refine Batch.wp_region_grew (by kernel_rfl) (by kernel_rfl) ?_; repeat (go_big_quiet_step (fail))
       refine wpQuiet_nil ?_; rintro _ ⟨p,rfl⟩; clear hr hld1 k1 hcN f0 f1 f2 g1 g2 g3 g4 g5 g6 g7; have hb5:=hb4.trans ((Batch.grew_below w2 p).mono hb4.size); generalize Batch.grew w2 p=w5 at *; clear hb4 hb3; have B5:=B0.below hb5; have k2:w5.cell? ⟨w.heap.size,2,none⟩=some (.slice AB nB cB):=B5.cell 2; go_wp2_with fail
       go_loopw [10] (fun k wz=>∃ q:Nat,q≤nB∧k=.int .i64 (q:Int)∧Below wc.heap.size wc wz) (fun k _=>nB - (intOf k).toNat)
       case atStart=>exact⟨0,by omega,rfl,hb5⟩
       case round =>
        clear k2 B5 hb5; obtain⟨q,hq,rfl,hb6⟩:=hrel; obtain⟨wz,hwz⟩:∃ wz,wz=wr:=⟨_,rfl⟩; subst hwz; have B6:=B0.below hb6; have k2:wz.cell? ⟨w.heap.size,2,none⟩=some (.slice AB nB cB):=B6.cell 2; by_cases hltq:q<nB
        ·have hqz:(q:Int)<(nB:Int):=by omega
         have hql:q<Lg.bans.length:=by rw [HlB.out]; exact hltq
         have eBz:Ts wz AB nB Lg.bans:=Ts.below eB hb6; obtain⟨bb,ob,rfl,hcell⟩:=eBz.lit (i:=q) hql; have hne:(Lg.bans[q]==nmj)=false:=by
          rw [beq_eq_false_iff_ne]; exact fun e=>HNB.out (by rw [HNM.out,← e]; exact List.getElem_mem hql)
         have eB6:=eBz; have h0:∀ p,(Batch.grew wz p).cell? ⟨bb,ob+q,none⟩=some (.string (str Lg.bans[q])):=fun p=>by
          have e3:=Ts.below eB6 (Batch.grew_below wz p); obtain⟨bb',ob',e4,hc4⟩:=e3.lit (i:=q) hql; injection e4 with e4
          injection e4 with e5 e6 _
          subst e5 e6; exact hc4
         have h1:∀ p,(Batch.grew wz p).cell? ⟨w.heap.size,2,none⟩=some (.slice (some ⟨bb,ob,none⟩) nB cB):=fun p=>(B6.below (Batch.grew_below wz p)).cell 2; have h2:∀ p,(Batch.grew wz p).cell? ⟨w.heap.size,1,none⟩=some (.slice (some ⟨b,off,none⟩) nN cN):=fun p=>(B6.below (Batch.grew_below wz p)).cell 1; have h3:∀ p,(Batch.grew wz p).cell? ⟨b,off+j * 5,none⟩=some (.string (str nmj)):=fun p=>by rw [← HNM.out]; exact HCN.out _ (hb6.trans ((Batch.grew_below wz p).mono hb6.size))
         clear hcell eBz; generalize Lg.bans[q]=bq at *; go_upto_region 23 with fail
         refine Batch.wp_region_grew (by kernel_rfl) (by kernel_rfl) ?_; repeat (go_big_quiet_step (fail))
         refine wpQuiet_nil ?_; rintro _ ⟨p,rfl⟩; have hb7:=hb6.trans ((Batch.grew_below wz p).mono hb6.size); clear h0 h1 h2 h3 k2 B6; go_wp2_with fail
         go_roundw
         case rel=>exact⟨q+1,by omega,by go_num,hb7⟩
         case measure=>simp [intOf]; omega
        ·have hqz:¬ (q:Int)<(nB:Int):=by omega
         have hqE:=Lib.hid (show q=nB by omega); go_wp2_with fail
         go_roundw
         case rel=>exact⟨j+1,by omega,by go_num,hb6⟩
         case measure=>simp [intOf]; omega
     ·have hjz:¬ (j:Int)<(nN:Int):=by omega
      have hjE:=Lib.hid (show j=nN by omega); have k4:wy.cell? ⟨w.heap.size,4,none⟩=some (.slice AK nK cK):=B.cell 4; clear HlN HlB; go_wp2_with fail
      go_loopw [11,12,13] (fun a b i wz=>∃ j P Q:Nat,j≤nK∧i=.int .i64 (j:Int)∧a=.int .i64 (P:Int)∧b=.int .i64 (Q:Int)∧Hid (P=(Lg.keys.take j).countP (fun k=>k.state==1))∧Hid (Q=(Lg.keys.take j).countP (fun k=>k.state==2))∧P≤8∧Q≤8∧Below wc.heap.size wc wz) (fun _ _ i _=>nK - (intOf i).toNat)
      case atStart=>exact⟨0,0,0,by omega,rfl,rfl,rfl,Lib.hid rfl,Lib.hid rfl,by omega,by omega,hb2⟩
      case round =>
       clear k1 k4 B hb2; obtain⟨j,P,Q,hj,rfl,rfl,rfl,HP,HQ,hP8,hQ8,hb2⟩:=hrel; obtain⟨wz,hwz⟩:∃ wz,wz=wr:=⟨_,rfl⟩; subst hwz; have B:=B0.below hb2; have k4:wz.cell? ⟨w.heap.size,4,none⟩=some (.slice AK nK cK):=B.cell 4; by_cases hlt:j<nK
       ·have hjz:(j:Int)<(nK:Int):=by omega
        have hjl:j<Lg.keys.length:=by rw [HlK.out]; exact hlt
        obtain⟨b,off,rfl,hbb,_⟩:=ldKey_es eK hjl; have q2:wz.cell? ⟨b,off+j * 4+2,none⟩=some (.int .i64 Lg.keys[j].state):=es_cell keyRow_len (by omega) eK hjl hb2 (j:=2) rfl; have HP':=Lib.hid (count_at (fun k:Led.Key=>k.state==1) Lg.keys j hjl); have HQ':=Lib.hid (count_at (fun k:Led.Key=>k.state==2) Lg.keys j hjl); have HLE:=Lib.hid (show (Lg.keys.take (j+1)).countP (fun k=>k.state==1)≤1∧(Lg.keys.take (j+1)).countP (fun k=>k.state==2)≤1 from⟨Nat.le_trans (count_take_le _ _ _) HWf.out.k4,Nat.le_trans (count_take_le _ _ _) HWf.out.k5⟩); generalize Lg.keys[j].state=s at *
        cases h1:(s==1) <;> cases h2:(s==2)
        ·go_wp2_with fail
         go_roundw
         case rel=>exact⟨j+1,P,Q,by omega,by go_num,rfl,rfl,Lib.hid (by rw [HP.out,HP'.out,h1]; simp),Lib.hid (by rw [HQ.out,HQ'.out,h2]; simp),hP8,hQ8,hb2⟩
         case measure=>simp [intOf]; omega
        ·have e2:Q+1=(Lg.keys.take (j+1)).countP (fun k=>k.state==2):=by rw [HQ.out,HQ'.out,h2]; simp
         have l2:=HLE.out.2; rw [← e2] at l2; have HE2:=Lib.hid e2; clear e2; go_wp2_with fail
         go_roundw
         case rel=>exact⟨j+1,P,Q+1,by omega,by go_num,rfl,by go_num,Lib.hid (by rw [HP.out,HP'.out,h1]; simp),HE2,hP8,by omega,hb2⟩
         case measure=>simp [intOf]; omega
        ·have e1:P+1=(Lg.keys.take (j+1)).countP (fun k=>k.state==1):=by rw [HP.out,HP'.out,h1]; simp
         have l1:=HLE.out.1; rw [← e1] at l1; have HE1:=Lib.hid e1; clear e1; go_wp2_with fail
         go_roundw
         case rel=>exact⟨j+1,P+1,Q,by omega,by go_num,by go_num,rfl,HE1,Lib.hid (by rw [HQ.out,HQ'.out,h2]; simp),by omega,hQ8,hb2⟩
         case measure=>simp [intOf]; omega
        ·simp at h1 h2
         omega
       ·have hjz:¬ (j:Int)<(nK:Int):=by omega
        have hjE:=Lib.hid (show j=nK by omega); have l1:P≤1:=by
         have:=HP.out; have h2:=count_take_le (fun k:Led.Key=>k.state==1) Lg.keys j; have:=HWf.out.k4; omega
        have l2:Q≤1:=by
         have:=HQ.out; have h2:=count_take_le (fun k:Led.Key=>k.state==2) Lg.keys j; have:=HWf.out.k5; omega
        have p0:wz.cell? ⟨w.heap.size,0,none⟩=some (.slice AE nE cE):=B.cell 0; have p1:wz.cell? ⟨w.heap.size,1,none⟩=some (.slice AN nN cN):=B.cell 1; have p2:wz.cell? ⟨w.heap.size,2,none⟩=some (.slice AB nB cB):=B.cell 2; have p3:wz.cell? ⟨w.heap.size,3,none⟩=some (.slice AJ nJ cJ):=B.cell 3; have p5:wz.cell? ⟨w.heap.size,5,none⟩=some (.slice AU nU cU):=B.cell 5; have i0:(nE:Int)≤24:=by omega
        have i1:(nN:Int)≤4:=by omega
        have i2:(nB:Int)≤8:=by omega
        have i3:(nJ:Int)≤16:=by omega
        have i4:(nK:Int)≤8:=by omega
        have i5:(nU:Int)≤3:=by omega
        have i6:(P:Int)≤1:=by omega
        have i7:(Q:Int)≤1:=by omega
        have hl:=lives2_any wz (HT.out.below (hbx.trans (hb2.mono hbx.size))); clear HP HQ HWf HlK HlJ HlU; go_wp2_with fail
        refine hl.mono ?_; rintro e w7 ⟨rfl,hb8⟩; go_wp2; go_ret; exact⟨rfl,(hbx.trans (hb2.mono hbx.size)).trans (hb8.mono (hbx.trans (hb2.mono hbx.size)).size)⟩
end
end Go.Proofs.YtmbpnkacggngkaaGreatDoor
