/- LedCut, LedEqs, IdsSpec, IdsSetLaw, LedLaw, LedHas, LedElem, LedRow (put together by bundle.py: only what is needed). -/
import Derived.Laws.StructEq
import Derived.Lib.Split
import Derived.Lib.SplitLaws
import Derived.Lib.IndexBytes
import Derived.Lib.SlTrimSet
import Derived.Lib.SlicesCompact
import Derived.Sort.Walk0
import Derived.Laws.CopyOwn
import Derived.Lib.AppendZerosOnto
import Derived.Lib.AppendZeros
import Derived.Lib.Overlaps
import Derived.Lib.SliceRun
import Derived.Test.YtmbpnkacggngkaaGreatDoorLW3
set_option maxRecDepth 100000
set_option maxHeartbeats 16000000
namespace Go.Proofs.YtmbpnkacggngkaaGreatDoor
section
open Go.RowKit Mem Led
theorem few_any(s:Txt) (hs:s.length≤9223372036854775807) (w:World):Calls Tryz.prog 24 #[.string (str s)] w fun e w'=>e=.returned (.string (str (Led.few s)))∧w=w':=by
 have hz:=Lib.hid (str_size s)
 by_cases h:s.length≤60
 ·have e:Led.few s=s:=by unfold Led.few; exact List.take_of_length_le h
  rw [e]; have h1:(str s).size≤60:=by rw [hz.out]; exact h
  go_enter Tryz.func24,Tryz.ntmps24
  go_wp2; go_ret; exact⟨rfl,rfl⟩
 ·have h1:60<(str s).size:=by rw [hz.out]; omega
  have h2:(str s).size≤9223372036854775807:=by rw [hz.out]; omega
  have hsl:∀ w',(Instr.slice 9 (.string (str s)) none (some (.int .i64 60)) none).run Tryz.prog w'=.ok (.string (str (Led.few s))) w':=fun w'=>by
   have e:(str s).extract 0 60=str (Led.few s):=by
    apply ByteArray.ext
    apply Array.toList_inj.1
    simp [str,Led.few]
   have hj:(0:Int)≤60∧(60:Int)≤((str s).size:Int):=⟨by omega,by omega⟩; rw [← e]; simp [Instr.slice,Instr.sliceBounds,Instr.sliceBound,asIntOf,run_underlying Tryz.underlying9,hj]
  go_enter Tryz.func24,Tryz.ntmps24
  go_wp2; go_ret; exact⟨rfl,rfl⟩
theorem below_own2{w w':World} {base size:Nat} {e:TypeId} {v:Value} {n:Nat} {xs:List Value} (h:w.ownsRow base e size v n xs) (hb:Below w.heap.size w w'):w'.ownsRow base e size v n xs:=by
 refine⟨h.1,?_⟩
 rcases h.2 with h2|⟨g,cap,cur,hv,hg,hh,r⟩
 ·exact .inl h2
 ·exact .inr ⟨g,cap,cur,hv,hg,by rw [hb.block g (Array.getElem?_eq_some_iff.1 hh).1]; exact hh,r⟩
theorem few_q(s:Txt) (hs:s.length≤9223372036854775807) (w:World):Calls Tryz.prog 24 #[.string (str s)] w fun e w'=>e=.returned (.string (str (Led.few s)))∧Below w.heap.size w w' :=
 (few_any s hs w).mono fun e w' ⟨he,hw⟩=>⟨he,by rw [← hw]; exact Below.refl _ _⟩
theorem infoJ:(Tryz.prog.info? 54).map (fun i=>(i.zero,i.size,i.bytes))=some (some (.agg #[.string ⟨#[]⟩,.string ⟨#[]⟩]),2,32):=by kernel_rfl
def fewT (L:List Txt) (t:Nat):List Value:=tv ((L.take t).map Led.few)
theorem fewT_snoc(L:List Txt) (t:Nat) (h:t<L.length):fewT L t++[.string (str (Led.few (L[t]'h)))]=fewT L (t+1):=by
 unfold fewT
 rw [List.take_add_one,List.getElem?_eq_getElem h,Option.toList_some,List.map_append,tv_append]
 rfl
def oc (kind n:Int) (name:Txt) (en:Int) (path parent:Txt) (ttl:Int) (S:Value) (jtext jname:Txt) (jexp:Int) (used:Bool) (nname nkey:Txt) (nexp nseq:Int) (ndoc kid seed:Txt) (state since:Int) (dom:Txt) (num:Int) (K:Value):List Value :=
 [.int .i64 kind,.int .i64 n,.string (str name),.int .i64 en,.string (str path),.string (str parent),.int .i64 ttl,S,.string (str jtext),.string (str jname),.int .i64 jexp,.bool used,.string (str nname),.string (str nkey),.int .i64 nexp,.int .i64 nseq,.string (str ndoc),.string (str kid),.string (str seed),.int .i64 state,.int .i64 since,.string (str dom),.int .i64 num,K]
theorem oc_one(kind n:Int) (name:Txt) (en:Int) (path parent:Txt) (ttl:Int) (A:Option Addr) (x y:Nat) (jtext jname:Txt) (jexp:Int) (used:Bool) (nname nkey:Txt) (nexp nseq:Int) (ndoc kid seed:Txt) (state since:Int) (dom:Txt) (num:Int) (B:Option Addr) (z q:Nat):∀ v∈oc kind n name en path parent ttl (.slice A x y) jtext jname jexp used nname nkey nexp nseq ndoc kid seed state since dom num (.slice B z q),v.oneCell'=true:=by
 intro v hv
 simp only [oc,List.mem_cons,List.not_mem_nil,or_false] at hv
 rcases hv with rfl|rfl|rfl|rfl|rfl|rfl|rfl|rfl|rfl|rfl|rfl|rfl|rfl|rfl|rfl|rfl|rfl|rfl|rfl|rfl|rfl|rfl|rfl|rfl <;> rfl
theorem own_setCells2:∀ (vs:List Value) {w:World} {base n g k size:Nat} {v:Value} {e:TypeId} {xs:List Value},w.ownsRow base e size v n xs→g<base→(w.setCells g k vs).ownsRow base e size v n xs
 | [],_,_,_,_,_,_,_,_,_,h,_=>h
 | u::vs,_,_,_,_,_,_,_,_,_,h,hg=>own_setCells2 vs (ownsRow_setCell_below h hg u) hg
theorem cut_go(kind n:Int) (name:Txt) (en:Int) (path parent:Txt) (ttl:Int) (jtext jname:Txt) (jexp:Int) (used:Bool) (nname nkey:Txt) (nexp nseq:Int) (ndoc kid seed:Txt) (state since:Int) (dom:Txt) (num:Int) (As:Option Addr) (ns cS:Nat) (Ak:Option Addr) (nk cK:Nat) (sels:List Txt) (keys:List Jwk) (z_name:name.length≤9223372036854775807) (z_path:path.length≤9223372036854775807) (z_parent:parent.length≤9223372036854775807) (z_jtext:jtext.length≤9223372036854775807) (z_jname:jname.length≤9223372036854775807) (z_nname:nname.length≤9223372036854775807) (z_nkey:nkey.length≤9223372036854775807) (z_ndoc:ndoc.length≤9223372036854775807) (z_kid:kid.length≤9223372036854775807) (z_seed:seed.length≤9223372036854775807) (z_dom:dom.length≤9223372036854775807) (w:World)
  (hs:Ts w As ns sels) (hsz:∀ s∈sels,s.length≤9223372036854775807) (_hsc:ns≤cS) (hk:Vs w w.heap.size 2 Ak nk (jv keys)) (hkz:∀ k∈keys,k.kid.length≤9223372036854775807∧k.x.length≤9223372036854775807) (_hkc:nk≤cK) :
  Calls Tryz.prog 13 #[.agg (oc kind n name en path parent ttl (.slice As ns cS) jtext jname jexp used nname nkey nexp nseq ndoc kid seed state since dom num (.slice Ak nk cK)).toArray] w fun e w'=>∃ A1 c1 A2 c2 KK,e=.returned (.agg (oc kind n (Led.few name) en (Led.few path) (Led.few parent) ttl (.slice A1 (min ns 6) c1) (Led.few jtext) (Led.few jname) jexp used (Led.few nname) (Led.few nkey) nexp nseq (Led.few ndoc) (Led.few kid) (Led.few seed) state since (Led.few dom) num (.slice A2 (min nk 9) c2)).toArray)∧min ns 6≤c1∧min nk 9≤c2 ∧
   w'.ownsRow w.heap.size 9 1 (.slice A1 (min ns 6) c1) (min ns 6) (tv ((sels.take 6).map Led.few))∧w'.ownsRow w.heap.size 54 2 (.slice A2 (min nk 9) c2) (min nk 9) (jv KK)∧KeysTo (fun x r=>r=Sha.nameOf x) (keys.take 9) KK∧Below w.heap.size w w':=by
 obtain⟨W,hW⟩:∃ W,(w.alloc (.cells (oc kind n name en path parent ttl (.slice As ns cS) jtext jname jexp used nname nkey nexp nseq ndoc kid seed state since dom num (.slice Ak nk cK)).toArray 47)).alloc (.cells (opCells noOp (.slice none 0 0) (.slice none 0 0)).toArray 47)=W:=⟨_,rfl⟩
 have B:Blk W w.heap.size (oc kind n name en path parent ttl (.slice As ns cS) jtext jname jexp used nname nkey nexp nseq ndoc kid seed state since dom num (.slice Ak nk cK)) 47:=by rw [← hW]; exact(Blk.new _ _ _).alloc _
 have BR:Blk W (w.heap.size+1) (opCells noOp (.slice none 0 0) (.slice none 0 0)) 47:=by
  have:=Blk.new (w.alloc (.cells (oc kind n name en path parent ttl (.slice As ns cS) jtext jname jexp used nname nkey nexp nseq ndoc kid seed state since dom num (.slice Ak nk cK)).toArray 47)) (opCells noOp (.slice none 0 0) (.slice none 0 0)) 47; rw [← hW]; simpa using this
 have hbW:Below w.heap.size w W:=by rw [← hW]; exact((Below.refl _ _).alloc (Nat.le_refl _) _).alloc (by simp) _
 have hc:Chg [w.heap.size] W W:=Chg.refl _ _
 unfold oc opCells noOp at hW
 simp only [nm,tx,show str []=⟨#[]⟩ from rfl] at hW
 have HW:=Lib.hid hW
 clear hW
 unfold oc
 go_enter Tryz.func13,Tryz.ntmps13
 go_upto_region 1 with fail
 rw [HW.out]
 have q:W.cell? ⟨w.heap.size,2,none⟩=some (.string (str name)):=B.cell 2
 have qf:W.frozen? ⟨w.heap.size,2,none⟩=false:=B.froz 2
 have ql:=B.lt
 go_wp2_with fail
 refine(few_any name z_name W).mono ?_
 rintro e w' ⟨rfl,rfl⟩
 go_upto_region 2 with fail
 have B':Blk (W.setCell ⟨w.heap.size,2,none⟩ (.string (str (Led.few name)))) w.heap.size (oc kind n (Led.few name) en path parent ttl (.slice As ns cS) jtext jname jexp used nname nkey nexp nseq ndoc kid seed state since dom num (.slice Ak nk cK)) 47:=B.set 2 (.string (str (Led.few name)))
 have BR':=BR.set_ne (p:=⟨w.heap.size,2,none⟩) (by simp) (.string (str (Led.few name)))
 have hc':=hc.setCell (p:=⟨w.heap.size,2,none⟩) (.inl (by simp)) (.string (str (Led.few name)))
 generalize W.setCell ⟨w.heap.size,2,none⟩ (.string (str (Led.few name)))=W1 at *
 clear B BR hc q qf ql
 have B:=B'
 have BR:=BR'
 have hc:=hc'
 clear B' BR' hc'
 have q:W1.cell? ⟨w.heap.size,4,none⟩=some (.string (str path)):=B.cell 4
 have qf:W1.frozen? ⟨w.heap.size,4,none⟩=false:=B.froz 4
 have ql:=B.lt
 go_wp2_with fail
 refine(few_any path z_path W1).mono ?_
 rintro e w' ⟨rfl,rfl⟩
 go_upto_region 3 with fail
 have B':Blk (W1.setCell ⟨w.heap.size,4,none⟩ (.string (str (Led.few path)))) w.heap.size (oc kind n (Led.few name) en (Led.few path) parent ttl (.slice As ns cS) jtext jname jexp used nname nkey nexp nseq ndoc kid seed state since dom num (.slice Ak nk cK)) 47:=B.set 4 (.string (str (Led.few path)))
 have BR':=BR.set_ne (p:=⟨w.heap.size,4,none⟩) (by simp) (.string (str (Led.few path)))
 have hc':=hc.setCell (p:=⟨w.heap.size,4,none⟩) (.inl (by simp)) (.string (str (Led.few path)))
 generalize W1.setCell ⟨w.heap.size,4,none⟩ (.string (str (Led.few path)))=W2 at *
 clear B BR hc q qf ql
 have B:=B'
 have BR:=BR'
 have hc:=hc'
 clear B' BR' hc'
 have q:W2.cell? ⟨w.heap.size,5,none⟩=some (.string (str parent)):=B.cell 5
 have qf:W2.frozen? ⟨w.heap.size,5,none⟩=false:=B.froz 5
 have ql:=B.lt
 go_wp2_with fail
 refine(few_any parent z_parent W2).mono ?_
 rintro e w' ⟨rfl,rfl⟩
 go_upto_region 4 with fail
 have B':Blk (W2.setCell ⟨w.heap.size,5,none⟩ (.string (str (Led.few parent)))) w.heap.size (oc kind n (Led.few name) en (Led.few path) (Led.few parent) ttl (.slice As ns cS) jtext jname jexp used nname nkey nexp nseq ndoc kid seed state since dom num (.slice Ak nk cK)) 47:=B.set 5 (.string (str (Led.few parent)))
 have BR':=BR.set_ne (p:=⟨w.heap.size,5,none⟩) (by simp) (.string (str (Led.few parent)))
 have hc':=hc.setCell (p:=⟨w.heap.size,5,none⟩) (.inl (by simp)) (.string (str (Led.few parent)))
 generalize W2.setCell ⟨w.heap.size,5,none⟩ (.string (str (Led.few parent)))=W3 at *
 clear B BR hc q qf ql
 have B:=B'
 have BR:=BR'
 have hc:=hc'
 clear B' BR' hc'
 have hltW:w.heap.size<W3.heap.size:=B.lt
 have hltR:w.heap.size+1<W3.heap.size:=BR.lt
 have hb3:Below w.heap.size w W3:=hbW.trans (hc.below' hbW.size (by simp))
 have hs3:Ts W3 As ns sels:=(Vs.below hs hb3).mono hb3.size
 have HK0:=Lib.hid hk
 have HSL:=Lib.hid hs3.len
 obtain⟨i0,hi,hz0,hz1,hz2⟩:=info_parts infoT
 obtain⟨iJ,hiJ,hj0,hj1,hj2⟩:=info_parts infoJ
 obtain⟨m,hm⟩:∃ m,min ns 6=m:=⟨_,rfl⟩
 have hmn:m≤ns:=by omega
 have hm6:m≤6:=by omega
 have HM:=Lib.hid (show m<ns→m=6 by omega)
 have HMM:=Lib.hid hm
 clear hs hk hm
 go_wp2_with fail
 go_loopw [3,4] (fun v i wx=>∃ (t:Nat) (A:Option Addr) (c:Nat),t≤m∧i=.int .i64 (t:Int)∧v=.slice A t c∧t≤c∧Below W3.heap.size W3 wx∧wx.ownsRow W3.heap.size 9 1 (.slice A t c) t (fewT sels t)) (fun _ i _=>6 - (intOf i).toNat)
 case atStart=>exact⟨0,none,0,by omega,rfl,rfl,by omega,Below.refl _ _,World.ownsRow_nil _ _ _ _⟩
 case round =>
  obtain⟨t,A1,c1,ht,rfl,rfl,htc,hbx,hown⟩:=hrel; have q7:wr.cell? ⟨w.heap.size,7,none⟩=some (.slice As ns cS):=(B.below hbx).cell 7; by_cases htm:t<m
  ·have htn:t<ns:=by omega
   have ht6:t<6:=by omega
   have htl:t<sels.length:=by rw [HSL.out]; exact htn
   obtain⟨bs,os,hAe,hbs,hcs⟩:=vs_lit (xs:=tv sels) hs3 (by omega); have qe:wr.cell? ⟨bs,os+t,none⟩=some (.string (str (sels[t]'htl))):=(hbx.cell (p:=⟨bs,os+t,none⟩) hbs).trans (hcs t _ (by simp [tv,htl])); have hzt:=hsz (sels[t]'htl) (List.getElem_mem _); have HS:=Lib.hid (fewT_snoc sels t htl); generalize sels[t]'htl=st at *; rw [hAe] at q7; have j0:(0:Int)≤(t:Int):=by omega
   have j1:(t:Int)<(ns:Int):=by omega
   have j2:(t:Int)<6:=by omega
   have h63:t+1≤maxLen:=by unfold maxLen; omega
   have hB1:W3.heap.size≤wr.heap.size:=hbx.size; clear hcs hAe; go_wp2_with fail
   refine(few_any st hzt wr).mono ?_; rintro e w' ⟨rfl,rfl⟩; go_wp2_with (at_builtin; go_must (refine wpList_push rfl (.tmp 36) (.tmp 44) 25 rfl W3.heap.size i0 (.string ⟨#[]⟩) 16 Tryz.underlying25 hi hz0 hz1 hz2 rfl _ _ _ rfl hown rfl rfl h63 (by omega) hB1 ?_))
   intro A' c' w6 hown' g1' g2' hgr; have hb6:=below_push hbx hgr hB1 hown (Nat.le_refl _); rw [HS.out] at hown'; clear hown hgr hbx; go_wp2; go_roundw
   case rel=>exact⟨t+1,A',c',by omega,by go_num,rfl,g1',hb6,hown'⟩
   case measure=>simp [intOf]; omega
  ·have hte:t=m:=by omega
   subst hte; have q7f:wr.frozen? ⟨w.heap.size,7,none⟩=false:=(B.below hbx).froz 7; have ql:w.heap.size<wr.heap.size:=(B.below hbx).lt; have hcX:=hc.and_below hbx; have BX:=B.below hbx; have BRX:=BR.below hbx; clear B BR hc hs3; have hownS:wr.ownsRow W3.heap.size 9 1 (.slice A1 t c1) t (fewT sels t):=hown; have BX':Blk (wr.setCell ⟨w.heap.size,7,none⟩ (.slice A1 t c1)) w.heap.size (oc kind n (Led.few name) en (Led.few path) (Led.few parent) ttl (.slice A1 t c1) jtext jname jexp used nname nkey nexp nseq ndoc kid seed state since dom num (.slice Ak nk cK)) 47:=BX.set 7 (.slice A1 t c1); have BR':=BRX.set_ne (p:=⟨w.heap.size,7,none⟩) (by simp) (.slice A1 t c1); have hc':=hcX.setCell (p:=⟨w.heap.size,7,none⟩) (.inl (by simp)) (.slice A1 t c1); have hown4:=ownsRow_setCell_below hownS (a:=⟨w.heap.size,7,none⟩) (by exact hltW) (.slice A1 t c1); have htge:t<ns→6≤t:=fun h=>by have:=HM.out h; omega
   have HTG:=Lib.hid htge; clear hbx BX BRX hcX hown; have hdd:(t<ns∧6≤t)∨ns≤t:=by
    rcases Nat.lt_or_ge t ns with hd|hd
    ·exact .inl ⟨hd,htge hd⟩
    ·exact .inr hd
   have HMT:=Lib.hid (show t=min ns 6 from HMM.out.symm); have htc':t≤c1:=htc; have ht6:t≤6:=hm6; clear htge hmn ht htm hownS hm6; rcases hdd with⟨hd,hd6⟩|hd
   all_goals
    go_upto_region 10 with fail
    generalize wr.setCell ⟨w.heap.size,7,none⟩ (.slice A1 t c1)=W4 at *; clear q7 q7f ql hd; have B:=BX'; have BR:=BR'; have hc:=hc'; have hown:=hown4; clear BX' BR' hc' hown4; have q:W4.cell? ⟨w.heap.size,8,none⟩=some (.string (str jtext)):=B.cell 8; have qf:W4.frozen? ⟨w.heap.size,8,none⟩=false:=B.froz 8; have ql:=B.lt; go_wp2_with fail
    refine(few_any jtext z_jtext W4).mono ?_; rintro e w' ⟨rfl,rfl⟩; go_upto_region 11 with fail
    have B':Blk (W4.setCell ⟨w.heap.size,8,none⟩ (.string (str (Led.few jtext)))) w.heap.size (oc kind n (Led.few name) en (Led.few path) (Led.few parent) ttl (.slice A1 t c1) (Led.few jtext) jname jexp used nname nkey nexp nseq ndoc kid seed state since dom num (.slice Ak nk cK)) 47:=B.set 8 (.string (str (Led.few jtext))); have BR':=BR.set_ne (p:=⟨w.heap.size,8,none⟩) (by simp) (.string (str (Led.few jtext))); have hc':=hc.setCell (p:=⟨w.heap.size,8,none⟩) (.inl (by simp)) (.string (str (Led.few jtext))); have hown':=ownsRow_setCell_below hown (a:=⟨w.heap.size,8,none⟩) (by exact hltW) (.string (str (Led.few jtext))); generalize W4.setCell ⟨w.heap.size,8,none⟩ (.string (str (Led.few jtext)))=W5 at *; clear B BR hc hown q qf ql; have B:=B'; have BR:=BR'; have hc:=hc'; have hown:=hown'; clear B' BR' hc' hown'; have q:W5.cell? ⟨w.heap.size,9,none⟩=some (.string (str jname)):=B.cell 9; have qf:W5.frozen? ⟨w.heap.size,9,none⟩=false:=B.froz 9; have ql:=B.lt; go_wp2_with fail
    refine(few_any jname z_jname W5).mono ?_; rintro e w' ⟨rfl,rfl⟩; go_upto_region 12 with fail
    have B':Blk (W5.setCell ⟨w.heap.size,9,none⟩ (.string (str (Led.few jname)))) w.heap.size (oc kind n (Led.few name) en (Led.few path) (Led.few parent) ttl (.slice A1 t c1) (Led.few jtext) (Led.few jname) jexp used nname nkey nexp nseq ndoc kid seed state since dom num (.slice Ak nk cK)) 47:=B.set 9 (.string (str (Led.few jname))); have BR':=BR.set_ne (p:=⟨w.heap.size,9,none⟩) (by simp) (.string (str (Led.few jname))); have hc':=hc.setCell (p:=⟨w.heap.size,9,none⟩) (.inl (by simp)) (.string (str (Led.few jname))); have hown':=ownsRow_setCell_below hown (a:=⟨w.heap.size,9,none⟩) (by exact hltW) (.string (str (Led.few jname))); generalize W5.setCell ⟨w.heap.size,9,none⟩ (.string (str (Led.few jname)))=W6 at *; clear B BR hc hown q qf ql; have B:=B'; have BR:=BR'; have hc:=hc'; have hown:=hown'; clear B' BR' hc' hown'; have q:W6.cell? ⟨w.heap.size,12,none⟩=some (.string (str nname)):=B.cell 12; have qf:W6.frozen? ⟨w.heap.size,12,none⟩=false:=B.froz 12; have ql:=B.lt; go_wp2_with fail
    refine(few_any nname z_nname W6).mono ?_; rintro e w' ⟨rfl,rfl⟩; go_upto_region 13 with fail
    have B':Blk (W6.setCell ⟨w.heap.size,12,none⟩ (.string (str (Led.few nname)))) w.heap.size (oc kind n (Led.few name) en (Led.few path) (Led.few parent) ttl (.slice A1 t c1) (Led.few jtext) (Led.few jname) jexp used (Led.few nname) nkey nexp nseq ndoc kid seed state since dom num (.slice Ak nk cK)) 47:=B.set 12 (.string (str (Led.few nname))); have BR':=BR.set_ne (p:=⟨w.heap.size,12,none⟩) (by simp) (.string (str (Led.few nname))); have hc':=hc.setCell (p:=⟨w.heap.size,12,none⟩) (.inl (by simp)) (.string (str (Led.few nname))); have hown':=ownsRow_setCell_below hown (a:=⟨w.heap.size,12,none⟩) (by exact hltW) (.string (str (Led.few nname))); generalize W6.setCell ⟨w.heap.size,12,none⟩ (.string (str (Led.few nname)))=W7 at *; clear B BR hc hown q qf ql; have B:=B'; have BR:=BR'; have hc:=hc'; have hown:=hown'; clear B' BR' hc' hown'; have q:W7.cell? ⟨w.heap.size,13,none⟩=some (.string (str nkey)):=B.cell 13; have qf:W7.frozen? ⟨w.heap.size,13,none⟩=false:=B.froz 13; have ql:=B.lt; go_wp2_with fail
    refine(few_any nkey z_nkey W7).mono ?_; rintro e w' ⟨rfl,rfl⟩; go_upto_region 14 with fail
    have B':Blk (W7.setCell ⟨w.heap.size,13,none⟩ (.string (str (Led.few nkey)))) w.heap.size (oc kind n (Led.few name) en (Led.few path) (Led.few parent) ttl (.slice A1 t c1) (Led.few jtext) (Led.few jname) jexp used (Led.few nname) (Led.few nkey) nexp nseq ndoc kid seed state since dom num (.slice Ak nk cK)) 47:=B.set 13 (.string (str (Led.few nkey))); have BR':=BR.set_ne (p:=⟨w.heap.size,13,none⟩) (by simp) (.string (str (Led.few nkey))); have hc':=hc.setCell (p:=⟨w.heap.size,13,none⟩) (.inl (by simp)) (.string (str (Led.few nkey))); have hown':=ownsRow_setCell_below hown (a:=⟨w.heap.size,13,none⟩) (by exact hltW) (.string (str (Led.few nkey))); generalize W7.setCell ⟨w.heap.size,13,none⟩ (.string (str (Led.few nkey)))=W8 at *; clear B BR hc hown q qf ql; have B:=B'; have BR:=BR'; have hc:=hc'; have hown:=hown'; clear B' BR' hc' hown'; have q:W8.cell? ⟨w.heap.size,16,none⟩=some (.string (str ndoc)):=B.cell 16; have qf:W8.frozen? ⟨w.heap.size,16,none⟩=false:=B.froz 16; have ql:=B.lt; go_wp2_with fail
    refine(few_any ndoc z_ndoc W8).mono ?_; rintro e w' ⟨rfl,rfl⟩; go_upto_region 15 with fail
    have B':Blk (W8.setCell ⟨w.heap.size,16,none⟩ (.string (str (Led.few ndoc)))) w.heap.size (oc kind n (Led.few name) en (Led.few path) (Led.few parent) ttl (.slice A1 t c1) (Led.few jtext) (Led.few jname) jexp used (Led.few nname) (Led.few nkey) nexp nseq (Led.few ndoc) kid seed state since dom num (.slice Ak nk cK)) 47:=B.set 16 (.string (str (Led.few ndoc))); have BR':=BR.set_ne (p:=⟨w.heap.size,16,none⟩) (by simp) (.string (str (Led.few ndoc))); have hc':=hc.setCell (p:=⟨w.heap.size,16,none⟩) (.inl (by simp)) (.string (str (Led.few ndoc))); have hown':=ownsRow_setCell_below hown (a:=⟨w.heap.size,16,none⟩) (by exact hltW) (.string (str (Led.few ndoc))); generalize W8.setCell ⟨w.heap.size,16,none⟩ (.string (str (Led.few ndoc)))=W9 at *; clear B BR hc hown q qf ql; have B:=B'; have BR:=BR'; have hc:=hc'; have hown:=hown'; clear B' BR' hc' hown'; have q:W9.cell? ⟨w.heap.size,17,none⟩=some (.string (str kid)):=B.cell 17; have qf:W9.frozen? ⟨w.heap.size,17,none⟩=false:=B.froz 17; have ql:=B.lt; go_wp2_with fail
    refine(few_any kid z_kid W9).mono ?_; rintro e w' ⟨rfl,rfl⟩; go_upto_region 16 with fail
    have B':Blk (W9.setCell ⟨w.heap.size,17,none⟩ (.string (str (Led.few kid)))) w.heap.size (oc kind n (Led.few name) en (Led.few path) (Led.few parent) ttl (.slice A1 t c1) (Led.few jtext) (Led.few jname) jexp used (Led.few nname) (Led.few nkey) nexp nseq (Led.few ndoc) (Led.few kid) seed state since dom num (.slice Ak nk cK)) 47:=B.set 17 (.string (str (Led.few kid))); have BR':=BR.set_ne (p:=⟨w.heap.size,17,none⟩) (by simp) (.string (str (Led.few kid))); have hc':=hc.setCell (p:=⟨w.heap.size,17,none⟩) (.inl (by simp)) (.string (str (Led.few kid))); have hown':=ownsRow_setCell_below hown (a:=⟨w.heap.size,17,none⟩) (by exact hltW) (.string (str (Led.few kid))); generalize W9.setCell ⟨w.heap.size,17,none⟩ (.string (str (Led.few kid)))=W10 at *; clear B BR hc hown q qf ql; have B:=B'; have BR:=BR'; have hc:=hc'; have hown:=hown'; clear B' BR' hc' hown'; have q:W10.cell? ⟨w.heap.size,18,none⟩=some (.string (str seed)):=B.cell 18; have qf:W10.frozen? ⟨w.heap.size,18,none⟩=false:=B.froz 18; have ql:=B.lt; go_wp2_with fail
    refine(few_any seed z_seed W10).mono ?_; rintro e w' ⟨rfl,rfl⟩; go_upto_region 17 with fail
    have B':Blk (W10.setCell ⟨w.heap.size,18,none⟩ (.string (str (Led.few seed)))) w.heap.size (oc kind n (Led.few name) en (Led.few path) (Led.few parent) ttl (.slice A1 t c1) (Led.few jtext) (Led.few jname) jexp used (Led.few nname) (Led.few nkey) nexp nseq (Led.few ndoc) (Led.few kid) (Led.few seed) state since dom num (.slice Ak nk cK)) 47:=B.set 18 (.string (str (Led.few seed))); have BR':=BR.set_ne (p:=⟨w.heap.size,18,none⟩) (by simp) (.string (str (Led.few seed))); have hc':=hc.setCell (p:=⟨w.heap.size,18,none⟩) (.inl (by simp)) (.string (str (Led.few seed))); have hown':=ownsRow_setCell_below hown (a:=⟨w.heap.size,18,none⟩) (by exact hltW) (.string (str (Led.few seed))); generalize W10.setCell ⟨w.heap.size,18,none⟩ (.string (str (Led.few seed)))=W11 at *; clear B BR hc hown q qf ql; have B:=B'; have BR:=BR'; have hc:=hc'; have hown:=hown'; clear B' BR' hc' hown'; have q:W11.cell? ⟨w.heap.size,21,none⟩=some (.string (str dom)):=B.cell 21; have qf:W11.frozen? ⟨w.heap.size,21,none⟩=false:=B.froz 21; have ql:=B.lt; go_wp2_with fail
    refine(few_any dom z_dom W11).mono ?_; rintro e w' ⟨rfl,rfl⟩; go_upto_region 18 with fail
    have B':Blk (W11.setCell ⟨w.heap.size,21,none⟩ (.string (str (Led.few dom)))) w.heap.size (oc kind n (Led.few name) en (Led.few path) (Led.few parent) ttl (.slice A1 t c1) (Led.few jtext) (Led.few jname) jexp used (Led.few nname) (Led.few nkey) nexp nseq (Led.few ndoc) (Led.few kid) (Led.few seed) state since (Led.few dom) num (.slice Ak nk cK)) 47:=B.set 21 (.string (str (Led.few dom))); have BR':=BR.set_ne (p:=⟨w.heap.size,21,none⟩) (by simp) (.string (str (Led.few dom))); have hc':=hc.setCell (p:=⟨w.heap.size,21,none⟩) (.inl (by simp)) (.string (str (Led.few dom))); have hown':=ownsRow_setCell_below hown (a:=⟨w.heap.size,21,none⟩) (by exact hltW) (.string (str (Led.few dom))); generalize W11.setCell ⟨w.heap.size,21,none⟩ (.string (str (Led.few dom)))=W12 at *; clear B BR hc hown q qf ql; have B:=B'; have BR:=BR'; have hc:=hc'; have hown:=hown'; clear B' BR' hc' hown'; have hb12:Below w.heap.size w W12:=hbW.trans (hc.below' hbW.size (by simp)); have hk12:Vs W12 W12.heap.size 2 Ak nk (jv keys):=(Vs.below HK0.out hb12).mono hb12.size; have hlt12:=B.lt; have hlt12R:w.heap.size+1<W12.heap.size:=BR.lt; have HKL:=Lib.hid (show keys.length=nk by have:=hk12.len; rw [jv_length] at this; omega)
    obtain⟨m2,hm2⟩:∃ m2,min nk 9=m2:=⟨_,rfl⟩; have hmn2:m2≤nk:=by omega
    have hm9:m2≤9:=by omega
    have HM2:=Lib.hid (show m2<nk→m2=9 by omega); have HMM2:=Lib.hid hm2; clear hm2; go_wp2_with fail
    go_loopw [5,6,7] (fun v i _ wx=>∃ (u:Nat) (A:Option Addr) (c:Nat) (KK:List Jwk),u≤m2∧i=.int .i64 (u:Int)∧v=.slice A u c∧u≤c∧Below W12.heap.size W12 wx∧wx.ownsRow W12.heap.size 54 2 (.slice A u c) u (jv KK)∧KeysTo (fun x r=>r=Sha.nameOf x) (keys.take u) KK) (fun _ i _ _=>9 - (intOf i).toNat)
    case atStart=>exact⟨0,none,0,[],by omega,rfl,rfl,by omega,Below.refl _ _,World.ownsRow_nil _ _ _ _,trivial⟩
    case round =>
     obtain⟨u,A2,c2,KK,hu,rfl,rfl,huc,hbx,hown2,hKK⟩:=hrel; have HKK:=Lib.hid hKK; clear hKK; have q7:wr.cell? ⟨w.heap.size,23,none⟩=some (.slice Ak nk cK):=(B.below hbx).cell 23; by_cases hum:u<m2
     ·have hun:u<nk:=by omega
      have hu9:u<9:=by omega
      have hul:u<keys.length:=by rw [HKL.out]; exact hun
      have hjl:(jv keys).length=nk * 2:=hk12.len; have hz2:0<(jv keys).length:=by omega
      have hwhere:∃ bk ok,Ak=some ⟨bk,ok,none⟩∧bk<W12.heap.size∧∀ j x,(jv keys)[j]?=some x→W12.cell? ⟨bk,ok+j,none⟩=some x:=by
       have c0:=(hk12.rd 0 _ (List.getElem?_eq_getElem hz2)); obtain⟨ad,e,hb,hcx⟩:=c0; have hsp:=World.cell?_spot hcx; obtain⟨bk,ok,sp⟩:=ad; simp [Addr.add] at hsp
       subst hsp; refine⟨bk,ok,e,hb,fun j x hj=>?_⟩; obtain⟨ad',e',_,hcj⟩:=hk12.rd j x hj; rw [e] at e'; injection e' with e'
       subst e'; have:(⟨bk,ok,none⟩:Addr).add j=⟨bk,ok+j,none⟩:=by
        unfold Addr.add; split <;> simp_all
       rw [this] at hcj; exact hcj
      obtain⟨bk,ok,hAk,hbk,hcs⟩:=hwhere; have qe0:wr.cell? ⟨bk,ok+u * 2,none⟩=some (.string (str (keys[u]'hul).kid)):=(hbx.cell (p:=⟨bk,ok+u * 2,none⟩) hbk).trans (hcs _ _ (jv_at0 hul)); have qe1:wr.cell? ⟨bk,ok+u * 2+1,none⟩=some (.string (str (keys[u]'hul).x)):=(hbx.cell (p:=⟨bk,ok+u * 2+1,none⟩) hbk).trans (by rw [Nat.add_assoc]; exact hcs _ _ (jv_at1 hul))
      have hzt:=hkz (keys[u]'hul) (List.getElem_mem _); have HS:=Lib.hid (show keys.take (u+1)=keys.take u++[keys[u]'hul] by rw [List.take_add_one,List.getElem?_eq_getElem hul]; rfl)
      generalize keys[u]'hul=kk at *; rw [hAk] at q7; have j0:(0:Int)≤(u:Int):=by omega
      have j1:(u:Int)<(nk:Int):=by omega
      have j2:(u:Int)<9:=by omega
      have HW1:=Lib.hid hzt.1; have HW2:=Lib.hid hzt.2; have hsz3:w.heap.size<wr.heap.size:=Nat.lt_of_lt_of_le hlt12 hbx.size; have hbk3:bk<wr.heap.size:=Nat.lt_of_lt_of_le hbk hbx.size; clear hcs hAk hzt hjl hz2; go_wp2_with fail
      have f1:∀ p,(Batch.grew wr p).cell? ⟨w.heap.size,23,none⟩=some (.slice (some ⟨bk,ok,none⟩) nk cK):=fun p=>(Batch.grew_cell hsz3 p).trans q7; have f2:∀ p,(Batch.grew wr p).cell? ⟨bk,ok+u * 2,none⟩=some (.string (str kk.kid)):=fun p=>(Batch.grew_cell hbk3 p).trans qe0; have f3:∀ p,(Batch.grew wr p).cell? ⟨bk,ok+u * 2+1,none⟩=some (.string (str kk.x)):=fun p=>(Batch.grew_cell hbk3 p).trans qe1; refine Batch.wp_region_segs [([0,1,2,3,4,5,6],7),([8,9,10,11,12,13,14],15)] [16] [(17,fun v w'=>∃ g,wr.heap.size≤g∧v=.pointer (some ⟨g,0,none⟩)∧Blk w' g [.string ⟨#[]⟩,.string ⟨#[]⟩] 54)] [18] (by kernel_rfl) (by kernel_rfl) (by
       intro x hx; simp only [List.mem_cons,List.not_mem_nil,or_false] at hx; subst hx; exact Batch.stable_gr fun v w w' hb ⟨g,e0,e,h⟩=>⟨g,e0,e,h.below hb⟩) ?_
      simp only [Batch.segs,Batch.pick,List.getD_cons_zero,List.getD_cons_succ]; repeat (go_big_quiet_step (fail))
      refine wpQuiet_nil (Batch.segs_call rfl (fun K0 hK0=>?_)); go_simp
      refine⟨_,fun p=>Batch.calls_grew1 (few_q kk.kid HW1.out _),hK0 _ ?_⟩; clear hK0 K0; repeat (go_big_quiet_step (fail))
      refine wpQuiet_nil (Batch.segs_call rfl (fun K0 hK0=>?_)); go_simp
      refine⟨_,fun p=>Batch.calls_grew1 (few_q kk.x HW2.out _),hK0 _ ?_⟩; clear hK0 K0; repeat (go_big_quiet_step (fail))
      refine wpQuiet_nil ?_; refine⟨_,rfl,rfl,?_,?_⟩
      ·intro w1 hw1
       have hwz:=hw1.below.size; go_simp
       exact⟨Batch.GR.of ((Below.refl _ _).alloc (Nat.le_refl _) _),w1.heap.size,hwz,rfl,Blk.new w1 [.string ⟨#[]⟩,.string ⟨#[]⟩] _⟩
      ·rintro v w6 hw6 ⟨_,gx,hgx,rfl,hBx⟩
       have hb6:=hw6.below; have hb3:Below W12.heap.size W12 w6:=hbx.trans (hb6.mono hbx.size); have hown3:=below_own2 hown2 hb6; have hgo:(Value.slice A2 u c2).ownBlock≠some gx:=fun e=>by have:=(hown2.lt gx e).2; omega
       have hgW:W12.heap.size≤gx:=Nat.le_trans hbx.size hgx; generalize hfk:Led.few kk.kid=fk at *; generalize hfx:Led.few kk.x=fx at *; have HFK:=Lib.hid hfk; have HFX:=Lib.hid hfx; clear hfk hfx; have x0:w6.cell? ⟨gx,0,none⟩=some (.string ⟨#[]⟩):=hBx.cell 0; have x1:w6.cell? ⟨gx,1,none⟩=some (.string ⟨#[]⟩):=hBx.cell 1; have y0:w6.frozen? ⟨gx,0,none⟩=false:=hBx.froz 0; have y1:w6.frozen? ⟨gx,1,none⟩=false:=hBx.froz 1; have xl:=hBx.lt; clear f1 f2 f3 q7 qe0 qe1 hw6 hb6 hown2 hbx hgx; go_upto_region 23 with fail
       have B7:Blk ((w6.setCell ⟨gx,0,none⟩ (.string (str fk))).setCell ⟨gx,1,none⟩ (.string (str fx))) gx [.string (str fk),.string (str fx)] 54:=(hBx.set 0 (.string (str fk))).set 1 (.string (str fx)); have hb7:=(hb3.setCell (p:=⟨gx,0,none⟩) hgW (.string (str fk))).setCell (p:=⟨gx,1,none⟩) hgW (.string (str fx)); have hown7:=own_set (own_set hown3 (p:=⟨gx,0,none⟩) (.string (str fk)) hgo) (p:=⟨gx,1,none⟩) (.string (str fx)) hgo; generalize (w6.setCell ⟨gx,0,none⟩ (.string (str fk))).setCell ⟨gx,1,none⟩ (.string (str fx))=w7 at *; clear x0 x1 y0 y1 xl hBx hb3 hown3; have x0:w7.cell? ⟨gx,0,none⟩=some (.string (str fk)):=B7.cell 0; have x1:w7.cell? ⟨gx,1,none⟩=some (.string (str fx)):=B7.cell 1; have y0:w7.frozen? ⟨gx,0,none⟩=false:=B7.froz 0; have xl:=B7.lt; have h63:u+1≤maxLen:=by unfold maxLen; omega
       have hB1:W12.heap.size≤w7.heap.size:=hb7.size; by_cases hke:fk=[]
       ·subst hke
        have hs0:str []=⟨#[]⟩:=rfl; rw [hs0] at x0; obtain⟨wc,cc,hcv,hbs,hbc⟩:=conv_txt fx w7; have hfl:fx.length≤1000000:=by have:=Led.few_len kk.x; rw [HFX.out] at this; omega
        have hnm:=Lib.hid (rname_any (some ⟨w7.heap.size,0,none⟩) fx.length cc fx wc hbs hfl); rw [hs0]; go_wp2_with fail
        refine hnm.out.mono ?_; rintro e wn ⟨rfl,hbn⟩; have hb79:=hbc.trans (hbn.mono hbc.size); have B9:=B7.below hb79; have hb9:=hb7.trans (hb79.mono hb7.size); have hown9':=below_own2 hown7 hb79; have HNM:=Lib.hid (rfl:Sha.nameOf fx=Sha.nameOf fx); generalize hgn:Sha.nameOf fx=fn at *; have HGN:=Lib.hid hgn; clear hgn HNM hcv hbs hbc hbn hb79 hown7 hb7 B7 x0 x1 y0 xl hB1 hnm; have x0:wn.cell? ⟨gx,0,none⟩=some (.string (str [])):=B9.cell 0; have y0:wn.frozen? ⟨gx,0,none⟩=false:=B9.froz 0; have xl:=B9.lt; go_upto_region 25 with fail
        have B10:Blk (wn.setCell ⟨gx,0,none⟩ (.string (str fn))) gx [.string (str fn),.string (str fx)] 54:=B9.set 0 (.string (str fn)); have hb10:=hb9.setCell (p:=⟨gx,0,none⟩) hgW (.string (str fn)); have hownX:=own_set hown9' (p:=⟨gx,0,none⟩) (.string (str fn)) hgo; generalize wn.setCell ⟨gx,0,none⟩ (.string (str fn))=wy at *; clear x0 y0 xl B9 hb9 hown9'; have x0:wy.cell? ⟨gx,0,none⟩=some (.string (str fn)):=B10.cell 0; have x1:wy.cell? ⟨gx,1,none⟩=some (.string (str fx)):=B10.cell 1; have hB1:W12.heap.size≤wy.heap.size:=hb10.size; have hrd:Vs (wy.alloc (.cells #[.string (str fn),.string (str fx)] 54)) (wy.alloc (.cells #[.string (str fn),.string (str fx)] 54)).heap.size 2 (some ⟨wy.heap.size,0,none⟩) 1 [.string (str fn),.string (str fx)] :=
         ⟨rfl,fun j q hj=>⟨_,rfl,by simp,by rw [zero_add_]; exact((Blk.new wy [.string (str fn),.string (str fx)] 54).cell j).trans hj⟩⟩
        go_wp2_with (at_builtin; go_must (refine wpList_append (wy.alloc (.cells #[.string (str fn),.string (str fx)] 54)) rfl (.tmp 134) (.tmp 136) 43 rfl W12.heap.size 54 iJ (.agg #[.string ⟨#[]⟩,.string ⟨#[]⟩]) 2 32 Tryz.underlying43 hiJ hj0 hj1 hj2 rfl (by omega) _ _ _ rfl (hownX.alloc _) _ _ 1 _ _ rfl hrd (by intro v hv; simp at hv; rcases hv with rfl|rfl <;> rfl) h63 (by omega) (by simp; omega) ?_))
        intro A' c' w8 hown' g1' g2' hgr; have hb8:Below W12.heap.size W12 w8:=Mem.below_grown (hb10.alloc hB1 _) hgr (by simp; omega) (hownX.alloc _)
        have HKT:=Lib.hid (show KeysTo (fun x r=>r=Sha.nameOf x) (keys.take (u+1)) (KK++[⟨fn,fx⟩]) by
         rw [HS.out]; exact HKK.out.snoc ⟨HFX.out.symm,by rw [HFK.out,if_pos rfl]; show _=_; rw [HFX.out]; exact HGN.out.symm⟩)
        have hown9:w8.ownsRow W12.heap.size 54 2 (.slice A' (u+1) c') (u+1) (jv (KK++[⟨fn,fx⟩])):=by rw [jv_snoc]; exact hown'
        clear hownX hgr hb10 hown' hrd; go_wp2; go_roundw
        case rel=>exact⟨u+1,A',c',KK++[⟨fn,fx⟩],by omega,by go_num,rfl,g1',hb8,hown9,HKT.out⟩
        case measure=>simp [intOf]; omega
       ·have e1:decide (str fk=⟨#[]⟩)=false:=by simp [str]; exact hke
        have e2:(str fk).toList.isEmpty=false:=by rw [str_bytes]; simpa using hke
        have e3:fk.isEmpty=false:=by simpa using hke
        have e4:(fk==[])=false:=by simpa using hke
        have hrd:Vs (w7.alloc (.cells #[.string (str fk),.string (str fx)] 54)) (w7.alloc (.cells #[.string (str fk),.string (str fx)] 54)).heap.size 2 (some ⟨w7.heap.size,0,none⟩) 1 [.string (str fk),.string (str fx)] :=
         ⟨rfl,fun j q hj=>⟨_,rfl,by simp,by rw [zero_add_]; exact((Blk.new w7 [.string (str fk),.string (str fx)] 54).cell j).trans hj⟩⟩
        go_wp2_with (at_builtin; go_must (refine wpList_append (w7.alloc (.cells #[.string (str fk),.string (str fx)] 54)) rfl (.tmp 134) (.tmp 136) 43 rfl W12.heap.size 54 iJ (.agg #[.string ⟨#[]⟩,.string ⟨#[]⟩]) 2 32 Tryz.underlying43 hiJ hj0 hj1 hj2 rfl (by omega) _ _ _ rfl (hown7.alloc _) _ _ 1 _ _ rfl hrd (by intro v hv; simp at hv; rcases hv with rfl|rfl <;> rfl) h63 (by omega) (by simp; omega) ?_))
        intro A' c' w8 hown' g1' g2' hgr; have hb8:Below W12.heap.size W12 w8:=Mem.below_grown (hb7.alloc hB1 _) hgr (by simp; omega) (hown7.alloc _)
        have HKT:=Lib.hid (show KeysTo (fun x r=>r=Sha.nameOf x) (keys.take (u+1)) (KK++[⟨fk,fx⟩]) by
         rw [HS.out]; exact HKK.out.snoc ⟨HFX.out.symm,by rw [HFK.out,if_neg hke]⟩)
        have hown9:w8.ownsRow W12.heap.size 54 2 (.slice A' (u+1) c') (u+1) (jv (KK++[⟨fk,fx⟩])):=by rw [jv_snoc]; exact hown'
        clear hown7 hgr hb7 hown' hrd; go_wp2; go_roundw
        case rel=>exact⟨u+1,A',c',KK++[⟨fk,fx⟩],by omega,by go_num,rfl,g1',hb8,hown9,HKT.out⟩
        case measure=>simp [intOf]; omega
     ·have hue:u=m2:=by omega
      subst hue; have hdd:(u<nk∧9≤u)∨nk≤u:=by
       rcases Nat.lt_or_ge u nk with hd|hd
       ·exact .inl ⟨hd,by have:=HM2.out hd; omega⟩
       ·exact .inr hd
      have BX:Blk (wr.setCell ⟨w.heap.size,23,none⟩ (.slice A2 u c2)) w.heap.size (oc kind n (Led.few name) en (Led.few path) (Led.few parent) ttl (.slice A1 t c1) (Led.few jtext) (Led.few jname) jexp used (Led.few nname) (Led.few nkey) nexp nseq (Led.few ndoc) (Led.few kid) (Led.few seed) state since (Led.few dom) num (.slice A2 u c2)) 47:=(B.below hbx).set 23 (.slice A2 u c2); have BRX:=(BR.below hbx).set_ne (p:=⟨w.heap.size,23,none⟩) (by simp) (.slice A2 u c2); have hcX:=(hc.and_below hbx).setCell (p:=⟨w.heap.size,23,none⟩) (.inl (by simp)) (.slice A2 u c2); have q7f:wr.frozen? ⟨w.heap.size,23,none⟩=false:=(B.below hbx).froz 23; have ql:w.heap.size<wr.heap.size:=(B.below hbx).lt; have own1:=ownsRow_setCell_below (below_own2 hown hbx) (a:=⟨w.heap.size,23,none⟩) (by exact hltW) (.slice A2 u c2); have own2:=ownsRow_setCell_below hown2 (a:=⟨w.heap.size,23,none⟩) (by exact hlt12) (.slice A2 u c2); have HU:=Lib.hid (show min nk 9=u from HMM2.out); clear hown hown2 hbx hum hu hmn2 hm9; rcases hdd with⟨hd,hd6⟩|hd
      all_goals
       go_upto_region 27 with fail
       generalize wr.setCell ⟨w.heap.size,23,none⟩ (.slice A2 u c2)=w13 at *; clear q7 q7f ql; obtain⟨s1,s2⟩:=store_op BRX rfl (vs:=oc kind n (Led.few name) en (Led.few path) (Led.few parent) ttl (.slice A1 t c1) (Led.few jtext) (Led.few jname) jexp used (Led.few nname) (Led.few nkey) nexp nseq (Led.few ndoc) (Led.few kid) (Led.few seed) state since (Led.few dom) num (.slice A2 u c2)) rfl (oc_one _ _ _ _ _ _ _ _ _ _ _ _ _ _ _ _ _ _ _ _ _ _ _ _ _ _ _ _); have hld:=load_op BX rfl; have own1':=own_setCells2 (oc kind n (Led.few name) en (Led.few path) (Led.few parent) ttl (.slice A1 t c1) (Led.few jtext) (Led.few jname) jexp used (Led.few nname) (Led.few nkey) nexp nseq (Led.few ndoc) (Led.few kid) (Led.few seed) state since (Led.few dom) num (.slice A2 u c2)) own1 (g:=w.heap.size+1) (k:=0) (by omega); have own2':=own_setCells2 (oc kind n (Led.few name) en (Led.few path) (Led.few parent) ttl (.slice A1 t c1) (Led.few jtext) (Led.few jname) jexp used (Led.few nname) (Led.few nkey) nexp nseq (Led.few ndoc) (Led.few kid) (Led.few seed) state since (Led.few dom) num (.slice A2 u c2)) own2 (g:=w.heap.size+1) (k:=0) (by omega); have hcF:=(hcX.mono (S':=[w.heap.size,w.heap.size+1]) (by simp)).setCells (oc kind n (Led.few name) en (Led.few path) (Led.few parent) ttl (.slice A1 t c1) (Led.few jtext) (Led.few jname) jexp used (Led.few nname) (Led.few nkey) nexp nseq (Led.few ndoc) (Led.few kid) (Led.few seed) state since (Led.few dom) num (.slice A2 u c2)) (b:=w.heap.size+1) (o:=0) (.inl (by simp)); generalize w13.setCells (w.heap.size+1) 0 (oc kind n (Led.few name) en (Led.few path) (Led.few parent) ttl (.slice A1 t c1) (Led.few jtext) (Led.few jname) jexp used (Led.few nname) (Led.few nkey) nexp nseq (Led.few ndoc) (Led.few kid) (Led.few seed) state since (Led.few dom) num (.slice A2 u c2))=wf at *; have hbF:Below w.heap.size w wf:=hbW.trans (hcF.below' hbW.size (by simp)); have hT1:wf.ownsRow w.heap.size 9 1 (.slice A1 t c1) t (tv ((sels.take 6).map Led.few)):=by
        have h1:=own_base (b':=w.heap.size) own1' (by omega); have e:sels.take 6=sels.take t:=by
         have hl:=HSL.out; have ht':=HMT.out; rcases Nat.le_total ns 6 with h|h
         ·rw [List.take_of_length_le (by omega),List.take_of_length_le (by omega)]
         ·rw [show t=6 by omega]
        rw [e]; exact h1
       have hV2:=own_base (b':=w.heap.size) own2' (by omega); have hKT:KeysTo (fun x r=>r=Sha.nameOf x) (keys.take 9) KK:=by
        have hl:=HKL.out; have hu':=HU.out; have e:keys.take 9=keys.take u:=by
         rcases Nat.le_total nk 9 with h|h
         ·rw [List.take_of_length_le (by omega),List.take_of_length_le (by omega)]
         ·rw [show u=9 by omega]
        rw [e]; exact HKK.out
       have hH:=s2.has (n:=24) rfl; have hA:=s2.arr (n:=24) rfl; have HRES:=Lib.hid (And.intro hT1 (And.intro hV2 (And.intro hKT hbF))); clear hT1 hV2 hKT own1' own2' hcF; unfold oc at s1 hld; simp only [List.toArray] at s1 hld; go_wp2; refine bodyPost_ret (results_arr (P:=Tryz.prog) Tryz.results13 _ _ (w.heap.size+1) 0 24 _ rfl Tryz.underlying47 rfl size_op hH) rfl ?_; rw [← HMT.out,HU.out]; exact⟨A1,c1,A2,c2,KK,by rw [hA]; rfl,htc',huc,HRES.out.1,HRES.out.2.1,HRES.out.2.2.1,HRES.out.2.2.2⟩
end
section
open Go.RowKit Mem Led
def jwkRow (k:Led.Jwk):List Value:=[tx k.kid,tx k.x]
def nodeRow (n:Led.Node):List Value:=[tx n.name,tx n.key,nm n.expires,nm n.seq,tx n.doc]
def joinRow (j:Led.Join):List Value:=[tx j.text,tx j.name,nm j.expires,.bool j.used]
def keyRow (k:Led.Key):List Value:=[tx k.kid,tx k.seed,nm k.state,nm k.since]
end
section
namespace Ids
abbrev Txt:=List UInt8
def small (c:UInt8):Bool:=decide (97≤c.toNat∧c.toNat≤122)
def digit (c:UInt8):Bool:=decide (48≤c.toNat∧c.toNat≤57)
def inner (c:UInt8):Bool:=small c||digit c||c==46||c==45
def named (c:UInt8):Bool:=inner c||decide (65≤c.toNat∧c.toNat≤90)||c==95
def seen (c:UInt8):Bool:=decide (33≤c.toNat∧c.toNat≤126)
def allOf (p:UInt8→Bool) (l:Txt):Bool:=l.all p&&!l.isEmpty
def dotty (c:UInt8):Bool:=c==46||c==45
def edged (l:Txt):Bool:=(l.head?.map dotty).getD false||(l.getLast?.map dotty).getD false
def domain (l:Txt):Bool:=decide (l.length≤16)&&allOf inner l&&!edged l
def segOk (w:Txt):Bool:=allOf named w&&!(w==[46])&&!(w==[46,46])
def pieces:Txt→List Txt
 | []=>[[]]
 | c::t=>if c=47 then []::pieces t else match pieces t with
  | []=>[[c]]
  | w::ws=>(c::w)::ws
theorem pieces_ne:∀ l,pieces l≠[]
 | []=>by simp [pieces]
 | c::t=>by
  unfold pieces; split
  ·simp
  ·split <;> simp
theorem pieces_none{l:Txt} (h:47∉l):pieces l=[l]:=by
 induction l with
 | nil=>rfl
 | cons c t ih =>
  have hc:c≠47:=fun e=>h (by simp [e]); have ht:47∉t:=fun e=>h (by simp [e]); unfold pieces; rw [if_neg hc,ih ht]
theorem pieces_cut{l:Txt} (h:47∉l) (r:Txt):pieces (l++47::r)=l::pieces r:=by
 induction l with
 | nil=>simp [pieces]
 | cons c t ih =>
  have hc:c≠47:=fun e=>h (by simp [e]); have ht:47∉t:=fun e=>h (by simp [e]); rw [List.cons_append,pieces,if_neg hc,ih ht]
def segsOk (l:Txt):Bool:=(pieces l).all segOk
def path (l:Txt):Bool:=match l with
 | []=>false
 | c::t=>decide (t.length+1≤40)&&c==47&&segsOk t
def agentPre:Txt:=[47,97,103,101,110,116,47]
def agent (l:Txt):Bool:=agentPre.isPrefixOf l&&path l&&!(l.drop 7).contains 47
def till (c:UInt8) (l:Txt):Nat:=(l.takeWhile (· != c)).length
theorem till_le(c:UInt8) (l:Txt):till c l≤l.length:=by
 unfold till
 have:=(List.takeWhile_sublist (· != c) (l:=l)).length_le
 exact this
def selector (l:Txt):Bool:=decide (till 58 l<l.length)&&decide (till 58 l≤8)&&allOf small (l.take (till 58 l))&&decide (l.length≤till 58 l+1+16)&&allOf seen (l.drop (till 58 l+1))
theorem till_cons(c b:UInt8) (l:Txt):till c (b::l)=if b=c then 0 else till c l+1:=by
 unfold till
 by_cases h:b=c
 ·simp [h]
 ·simp [h]
theorem indexByte_till(c:UInt8):∀ l:Txt,Lib.indexByte l c=if till c l<l.length then (till c l:Int) else -1
 | []=>by simp [Lib.indexByte,till]
 | b::l=>by
  have ih:=indexByte_till c l; unfold Lib.indexByte; rw [till_cons]; by_cases h:b=c
  ·simp [h]
  ·have hb:(b==c)=false:=by simp [h]
   rw [hb,if_neg h,List.length_cons]; simp only [Bool.false_eq_true,if_false]; by_cases h2:till c l<l.length
   ·rw [if_pos h2] at ih
    rw [ih,if_neg (by simp),if_pos (by omega)]; omega
   ·rw [if_neg h2] at ih
    rw [ih,if_pos (by simp),if_neg (by omega)]
theorem till_append{c:UInt8} {a:Txt} (h:c∉a) (r:Txt):till c (a++c::r)=a.length:=by
 induction a with
 | nil=>simp [till]
 | cons b t ih =>
  have hb:b≠c:=fun e=>h (by simp [e]); have ht:c∉t:=fun e=>h (by simp [e]); rw [List.cons_append,till_cons,if_neg hb,ih ht]; simp
theorem till_none{c:UInt8} {l:Txt} (h:c∉l):till c l=l.length:=by
 induction l with
 | nil=>rfl
 | cons b t ih =>
  have hb:b≠c:=fun e=>h (by simp [e]); have ht:c∉t:=fun e=>h (by simp [e]); rw [till_cons,if_neg hb,ih ht]; simp
theorem till_lt{c:UInt8} {l:Txt}:till c l<l.length↔c∈l:=by
 constructor
 ·intro h
  apply Classical.byContradiction
  intro hn; rw [till_none hn] at h; omega
 ·intro h
  obtain⟨a,r,rfl,ha⟩:=List.eq_append_cons_of_mem h; rw [till_append ha]; simp
theorem till_eq{c:UInt8} {l:Txt} {k:Nat} (hk:k≤l.length) (h1:∀ j,j<k→l[j]?≠some c) (h2:k<l.length→l[k]?=some c):till c l=k:=by
 have hn:c∉l.take k:=by
  intro hm; obtain⟨j,hj⟩:=List.mem_iff_getElem?.1 hm; rw [List.getElem?_take] at hj; split at hj
  ·rename_i hjk
   exact h1 j hjk hj
  ·cases hj
 by_cases h:k<l.length
 ·have e:l=l.take k++c::l.drop (k+1):=by
   have hx:=h2 h; rw [List.getElem?_eq_getElem h] at hx; injection hx with hx
   rw [← hx,← List.drop_eq_getElem_cons h,List.take_append_drop]
  have:=till_append hn (l.drop (k+1)); rw [← e,List.length_take] at this; omega
 ·have:k=l.length:=by omega
  subst this; rw [List.take_length] at hn; exact till_none hn
theorem pieces_split(l:Txt):Lib.splitK [47] 0 (l.count 47) l=pieces l:=by
 obtain⟨n,hn⟩:∃ n,l.length=n:=⟨_,rfl⟩
 induction n using Nat.strongRecOn generalizing l with
 | _ n ih =>
  by_cases h:47∈l
  ·obtain⟨a,r,rfl,ha⟩:=List.eq_append_cons_of_mem h
   have hc:(a++47::r).count 47=r.count 47+1:=by
    rw [List.count_append,List.count_cons_self,List.count_eq_zero.2 ha]; omega
   have hi:Lib.index (a++47::r) [47]=(a.length:Int):=by
    rw [Lib.index_one,indexByte_till,till_append ha]; simp
   rw [hc,Lib.splitK,hi,if_neg (by simp),pieces_cut ha]; rw [← ih r.length (by rw [← hn]; simp; omega) r rfl]
   congr 1
   ·simp
   ·congr 1
    simp
  ·rw [List.count_eq_zero.2 h,pieces_none h]
   rfl
theorem dropWhile_id{p:UInt8→Bool}:∀ {l:Txt},(l.head?.map p).getD false=false→l.dropWhile p=l
 | [],_=>rfl
 | b::l,h=>by
  simp at h
  simp [h]
theorem dropWhile_lt{p:UInt8→Bool}:∀ {l:Txt},(l.head?.map p).getD false=true→(l.dropWhile p).length<l.length
 | [],h=>by simp at h
 | b::l,h=>by
  simp at h
  have:=(List.dropWhile_sublist p (l:=l)).length_le; simp [h]
  omega
theorem dotty_contains:(fun c=>([46,45]:Txt).contains c)=dotty:=by
 funext c
 cases h1:(c==46) <;> cases h2:(c==45) <;> simp_all [dotty]
theorem trim_same(l:Txt):(Lib.trimS l [46,45]=l)↔edged l=false:=by
 have e2:∀ l:Txt,Lib.trimLeftS l [46,45]=l.dropWhile dotty:=fun l=>by unfold Lib.trimLeftS; rw [dotty_contains]
 have e3:∀ l:Txt,Lib.trimRightS l [46,45]=(l.reverse.dropWhile dotty).reverse:=fun l=>by unfold Lib.trimRightS; rw [dotty_contains]
 unfold Lib.trimS edged
 rw [e2,e3]
 have hrev:(l.getLast?.map dotty).getD false=(l.reverse.head?.map dotty).getD false:=by rw [List.head?_reverse]
 rw [hrev]
 cases h2:(l.reverse.head?.map dotty).getD false
 ·rw [dropWhile_id h2,List.reverse_reverse]
  cases h1:(l.head?.map dotty).getD false
  ·rw [dropWhile_id h1]
   simp
  ·have:=dropWhile_lt h1
   constructor
   ·intro e
    rw [e] at this; omega
   ·intro e
    simp at e
 ·have h3:=dropWhile_lt h2
  constructor
  ·intro e
   have h4:=(List.dropWhile_sublist dotty (l:=(l.reverse.dropWhile dotty).reverse)).length_le; rw [e] at h4; simp at h3 h4
   omega
  ·intro e
   simp at e
def lNamed:Txt:=[97,98,99,100,101,102,103,104,105,106,107,108,109,110,111,112,113,114,115,116,117,118,119,120,121,122,65,66,67,68,69,70,71,72,73,74,75,76,77,78,79,80,81,82,83,84,85,86,87,88,89,90,48,49,50,51,52,53,54,55,56,57,46,45,95]
def lSmall:Txt:=[97,98,99,100,101,102,103,104,105,106,107,108,109,110,111,112,113,114,115,116,117,118,119,120,121,122]
theorem all_u8{p:UInt8→Bool} (h:(List.range 256).all (fun k=>p (UInt8.ofNat k))=true) (c:UInt8):p c=true:=by
 have:=List.all_eq_true.1 h c.toNat (List.mem_range.2 c.toNat_lt)
 simpa using this
theorem named_list(c:UInt8):lNamed.contains c=named c:=by
 have:=all_u8 (p:=fun c=>lNamed.contains c==named c) (by decide +kernel) c
 simpa using this
theorem small_list(c:UInt8):lSmall.contains c=small c:=by
 have:=all_u8 (p:=fun c=>lSmall.contains c==small c) (by decide +kernel) c
 simpa using this
def ofOf (some:Txt) (most:Nat) (l:Txt):Bool:=l.all (fun c=>some.contains c)&&decide (1≤l.length)&&decide (l.length≤most)
theorem isEmpty_len(l:Txt):(!l.isEmpty)=decide (1≤l.length):=by cases l <;> simp
theorem of_named{l:Txt} (h:l.length≤40):ofOf lNamed 40 l=allOf named l:=by
 unfold ofOf allOf
 simp only [named_list,isEmpty_len,h,decide_true,Bool.and_true]
theorem of_small(l:Txt):ofOf lSmall 8 l=(decide (l.length≤8)&&allOf small l):=by
 unfold ofOf allOf
 simp only [small_list,isEmpty_len]
 cases l.all small <;> cases decide (1≤l.length) <;> cases decide (l.length≤8) <;> rfl
end Ids
end
section
namespace Ids
theorem lt_irr(a:Txt):¬ a<a:=List.lt_irrefl a
theorem lt_tr{a b c:Txt} (h:a<b) (k:b<c):a<c:=List.lt_trans h k
theorem lt_as{a b:Txt} (h:a<b):¬ b<a:=List.lt_asymm h
theorem lt_tri(a b:Txt):a<b∨a=b∨b<a:=by
 by_cases h1:a<b
 ·exact .inl h1
 ·by_cases h2:b<a
  ·exact .inr (.inr h2)
  ·exact .inr (.inl (List.le_antisymm (List.not_lt.1 h2) (List.not_lt.1 h1)))
theorem rise_eq:∀ (a b:List Txt),a.Pairwise (·<·)→b.Pairwise (·<·)→(∀ x,x∈a↔x∈b)→a=b
 | [],[],_,_,_=>rfl
 | [],y::b,_,_,h=>by have:=(h y).2 (by simp); simp at this
 | x::a,[],_,_,h=>by have:=(h x).1 (by simp); simp at this
 | x::a,y::b,ha,hb,h=>by
  have ha':=List.pairwise_cons.1 ha; have hb':=List.pairwise_cons.1 hb; have hxy:x=y:=by
   have h1:=(h x).1 (by simp); have h2:=(h y).2 (by simp); rcases List.mem_cons.1 h1 with h1|h1
   ·exact h1
   ·rcases List.mem_cons.1 h2 with h2|h2
    ·exact h2.symm
    ·exact absurd (hb'.1 x h1) (lt_as (ha'.1 y h2))
  subst hxy; rw [rise_eq a b ha'.2 hb'.2 fun z=>?_]; constructor
  ·intro hz
   have:=(h z).1 (by simp [hz]); rcases List.mem_cons.1 this with e|e
   ·subst e; exact absurd (ha'.1 z hz) (lt_irr z)
   ·exact e
  ·intro hz
   have:=(h z).2 (by simp [hz]); rcases List.mem_cons.1 this with e|e
   ·subst e; exact absurd (hb'.1 z hz) (lt_irr z)
   ·exact e
def uniq (L:List Txt):List Txt:=Lib.compact (L.mergeSort fun x y=>decide (x≤y))
theorem upto_rise{d:Array Txt} (hs:∀ i j,i<j→j<d.size→¬ d[j]! < d[i]!):∀ m,m≤d.size→(Lib.compactUpTo d m).Pairwise (·<·)∧(∀ x,x∈Lib.compactUpTo d m↔∃ j,j<m∧d[j]! = x):=by
 intro m
 induction m with
 | zero=>intro _; simp [Lib.compactUpTo]
 | succ m ih =>
  intro hm; obtain⟨h1,h2⟩:=ih (by omega); rw [Lib.compactUpTo_succ]; by_cases hk:Lib.keeps d m=true
  ·rw [if_pos hk]
   have hnew:∀ y∈Lib.compactUpTo d m,y<d[m]! := by
    intro y hy; obtain⟨j,hj,rfl⟩:=(h2 y).1 hy; rcases lt_tri d[j]! d[m]! with h|h|h
    ·exact h
    ·exfalso
     by_cases h0:m=0
     ·omega
     ·have hne:d[m]! ≠ d[m - 1]! := by
       intro e; have:=Lib.keeps_neg (by omega) e; rw [this] at hk
       cases hk
      rcases lt_tri d[m - 1]! d[m]! with g|g|g
      ·by_cases hj1:j=m - 1
       ·subst hj1; exact hne h.symm
       ·exact hs j (m - 1) (by omega) (by omega) (by rw [h]; exact g)
      ·exact hne g.symm
      ·exact hs (m - 1) m (by omega) (by omega) g
    ·exact absurd h (hs j m hj (by omega))
   refine⟨?_,fun x=>?_⟩
   ·rw [List.pairwise_append]
    exact⟨h1,by simp,fun a ha b hb=>by simp at hb; subst hb; exact hnew a ha⟩
   ·rw [List.mem_append,h2]
    constructor
    ·rintro (⟨j,hj,rfl⟩|h)
     ·exact⟨j,by omega,rfl⟩
     ·simp at h; exact⟨m,by omega,h.symm⟩
    ·rintro ⟨j,hj,rfl⟩
     by_cases e:j=m
     ·subst e; exact .inr (by simp)
     ·exact .inl ⟨j,by omega,rfl⟩
  ·rw [if_neg hk,List.append_nil]
   refine⟨h1,fun x=>?_⟩; rw [h2]; constructor
   ·rintro ⟨j,hj,rfl⟩
    exact⟨j,by omega,rfl⟩
   ·rintro ⟨j,hj,rfl⟩
    by_cases e:j=m
    ·subst e
     by_cases h0:j=0
     ·subst h0
      exact absurd (Lib.keeps_lt_one d 0 (by omega)) hk
     ·refine⟨j - 1,by omega,?_⟩
      apply Classical.byContradiction
      intro hne; exact hk (Lib.keeps_pos (fun e=>hne e.symm))
    ·exact⟨j,by omega,rfl⟩
theorem uniq_spec(L:List Txt):(uniq L).Pairwise (·<·)∧∀ x,x∈uniq L↔x∈L:=by
 have hp:=List.pairwise_mergeSort (le:=fun x y:Txt=>decide (x≤y)) (fun a b c h1 h2=>by simp only [decide_eq_true_eq] at *; exact List.le_trans h1 h2) (fun a b=>by simp only [Bool.or_eq_true,decide_eq_true_eq]; exact List.le_total a b) L
 have hm:=fun x=>(List.mergeSort_perm L fun x y:Txt=>decide (x≤y)).mem_iff (a:=x)
 unfold uniq
 generalize L.mergeSort (fun x y=>decide (x≤y))=Z at *
 have key:=upto_rise (d:=Z.toArray) (fun i j hij hj=>by
  have hj':j<Z.length:=by simpa using hj
  have:=List.pairwise_iff_getElem.1 hp i j (by omega) hj' hij; simp only [decide_eq_true_eq] at this; rw [getElem!_pos _ j hj,getElem!_pos _ i (by omega)]; exact List.not_lt.2 this) Z.length (by simp)
 unfold Lib.compact
 refine⟨key.1,fun x=>?_⟩
 rw [key.2,← hm]
 constructor
 ·rintro ⟨j,hj,rfl⟩
  rw [getElem!_pos _ j (by simpa using hj)]; exact List.getElem_mem _
 ·intro hx
  obtain⟨j,hj,rfl⟩:=List.mem_iff_getElem.1 hx; exact⟨j,hj,by rw [getElem!_pos _ j (by simpa using hj)]; rfl⟩
structure Part (L out:List Txt):Prop where
 rise:out.Pairwise (·<·)
 sub:∀ x∈out,x∈L
 low:∀ x∈L,∀ y∈out,¬ y<x→x∈out
theorem Part.nil(L:List Txt):Part L []:=⟨by simp,by simp,by simp⟩
def cand (out:List Txt) (x:Txt):Bool:=match out.getLast? with
 | none=>true
 | some y=>decide (y<x)
theorem part_last{L out:List Txt} (h:Part L out) {y:Txt} (hy:out.getLast?=some y):∀ x∈out,x=y∨x<y:=by
 intro x hx
 obtain⟨ys,rfl⟩:=List.getLast?_eq_some_iff.1 hy
 rcases List.mem_append.1 hx with h1|h1
 ·exact .inr ((List.pairwise_append.1 h.rise).2.2 x h1 y (by simp))
 ·simp at h1
  exact .inl h1
theorem Part.done{L out:List Txt} (h:Part L out) (hn:∀ x∈L,cand out x=false):out=uniq L:=by
 obtain⟨u1,u2⟩:=uniq_spec L
 refine rise_eq _ _ h.rise u1 fun x=>?_
 rw [u2]
 refine⟨h.sub x,fun hx=>?_⟩
 have hc:=hn x hx
 unfold cand at hc
 cases hl:out.getLast? with
 | none=>rw [hl] at hc; cases hc
 | some y =>
  rw [hl] at hc; simp only [decide_eq_false_iff_not] at hc; exact h.low x hx y (List.mem_of_getLast? hl) hc
theorem Part.next{L out:List Txt} (h:Part L out) {b:Txt} (hb:b∈L) (hc:cand out b=true) (hmin:∀ x∈L,cand out x=true→¬ x<b):Part L (out++[b]):=by
 have hlt:∀ y∈out,y<b:=by
  intro y hy; unfold cand at hc
  cases hl:out.getLast? with
  | none=>rw [List.getLast?_eq_none_iff.1 hl] at hy; cases hy
  | some z =>
   rw [hl] at hc; simp only [decide_eq_true_eq] at hc; rcases part_last h hl y hy with rfl|g
   ·exact hc
   ·exact lt_tr g hc
 refine⟨?_,?_,?_⟩
 ·rw [List.pairwise_append]
  exact⟨h.rise,by simp,fun a ha c hcc=>by simp at hcc; subst hcc; exact hlt a ha⟩
 ·intro x hx
  rcases List.mem_append.1 hx with h1|h1
  ·exact h.sub x h1
  ·simp at h1; subst h1; exact hb
 ·intro x hx y hy hxy
  rcases List.mem_append.1 hy with h1|h1
  ·exact List.mem_append.2 (.inl (h.low x hx y h1 hxy))
  ·simp at h1
   subst h1; rw [List.mem_append]
   cases hcx:cand out x
   ·left
    unfold cand at hcx
    cases hl:out.getLast? with
    | none=>rw [hl] at hcx; cases hcx
    | some z =>
     rw [hl] at hcx; simp only [decide_eq_false_iff_not] at hcx; exact h.low x hx z (List.mem_of_getLast? hl) hcx
   ·right
    rcases lt_tri x y with g|g|g
    ·exact absurd g (hmin x hx hcx)
    ·simp [g]
    ·exact absurd g hxy
def left_ (L out:List Txt):Nat:=(L.filter (cand out)).length
theorem filter_lt{p q:Txt→Bool}:∀ {L:List Txt},(∀ x∈L,q x=true→p x=true)→(∃ x∈L,p x=true∧q x=false)→(L.filter q).length<(L.filter p).length
 | [],_,⟨x,hx,_⟩=>by cases hx
 | a::L,h,⟨x,hx,h1,h2⟩=>by
  have hle:(L.filter q).length≤(L.filter p).length:=by
   have:∀ L:List Txt,(∀ x∈L,q x=true→p x=true)→(L.filter q).length≤(L.filter p).length:=by
    intro L; induction L with
    | nil=>intro _; simp
    | cons b L ih =>
     intro hh; have i1:=ih (fun x hx=>hh x (by simp [hx])); rw [List.filter_cons,List.filter_cons]
     cases hq:q b
     ·cases hp:p b <;> simp <;> omega
     ·rw [hh b (by simp) hq]; simp; omega
   exact this L fun x hx=>h x (by simp [hx])
  rw [List.filter_cons,List.filter_cons]; rcases List.mem_cons.1 hx with rfl|hx
  ·rw [h1,h2]; simp; omega
  ·have ih:=filter_lt (L:=L) (fun x hx=>h x (by simp [hx])) ⟨x,hx,h1,h2⟩
   cases hq:q a
   ·cases hp:p a <;> simp <;> omega
   ·rw [h a (by simp) hq]; simp; omega
theorem left_lt{L out:List Txt} {b:Txt} (hb:b∈L) (hc:cand out b=true):left_ L (out++[b])<left_ L out:=by
 have hcl:∀ x,cand (out++[b]) x=decide (b<x):=fun x=>by
  unfold cand; rw [List.getLast?_append]; simp
 refine filter_lt (fun x _ hx=>?_) ⟨b,hb,hc,by rw [hcl]; exact decide_eq_false (lt_irr b)⟩
 rw [hcl] at hx
 simp only [decide_eq_true_eq] at hx
 unfold cand at hc ⊢
 cases hl:out.getLast? with
 | none=>rfl
 | some y =>
  rw [hl] at hc; simp only [decide_eq_true_eq] at hc ⊢; exact lt_tr hc hx
theorem left_le(L out:List Txt):left_ L out≤L.length:=List.length_filter_le _ _
def setOf (L:List Txt):Option (List Txt) × Nat:=if L.all selector then (if 4<(uniq L).length then (none,4) else (some (uniq L),0)) else (none,13)
end Ids
end
section
namespace Led
structure Ledger where
 entries:List Entry
 nodes:List Node
 bans:List Txt
 joins:List Join
 keys:List Key
 bundles:List Bundle
def none':Ledger:=⟨[],[],[],[],[],[]⟩
def ord (a b:Txt):Int:=if a<b then -1 else if b<a then 1 else 0
def cE (a b:Entry):Int:=a.n - b.n
def cN (a b:Node):Int:=ord a.name b.name
def cB (a b:Bundle):Int:=ord a.domain b.domain
structure Cmp {α:Type} (c:α→α→Int):Prop where
 flip:∀ a b,c a b<0↔0<c b a
 trans:∀ a b d,c a b<0→c b d<0→c a d<0
 left:∀ a b d,c a b=0→(c a d<0↔c b d<0)
theorem cE_cmp:Cmp cE:=⟨fun a b=>by unfold cE; omega,fun a b d=>by unfold cE; omega,fun a b d=>by unfold cE; omega⟩
theorem ord_lt{a b:Txt}:ord a b<0↔a<b:=by
 unfold ord
 split
 ·simp_all
 ·split <;> simp_all
theorem ord_gt{a b:Txt}:0<ord a b↔b<a:=by
 unfold ord
 split
 ·rename_i h
  constructor
  ·intro h'; omega
  ·intro h'; exact absurd (List.lt_trans h h') (List.lt_irrefl _)
 ·split <;> simp_all
theorem ord_eq{a b:Txt}:ord a b=0↔a=b:=by
 unfold ord
 split
 ·rename_i h
  constructor
  ·intro h'; omega
  ·rintro rfl; exact absurd h (List.lt_irrefl _)
 ·split
  ·rename_i h
   constructor
   ·intro h'; omega
   ·rintro rfl; exact absurd h (List.lt_irrefl _)
  ·rename_i h1 h2
   exact⟨fun _=>List.le_antisymm (List.not_lt.1 h2) (List.not_lt.1 h1),fun _=>rfl⟩
theorem ord_cmp{α:Type} (f:α→Txt):Cmp (fun a b=>ord (f a) (f b)):=⟨fun a b=>by rw [ord_lt,ord_gt],fun a b d=>by rw [ord_lt,ord_lt,ord_lt]; exact List.lt_trans,fun a b d h=>by rw [ord_eq] at h; simp only [h]⟩
theorem cN_cmp:Cmp cN:=ord_cmp Node.name
theorem cB_cmp:Cmp cB:=ord_cmp Bundle.domain
theorem ord_cmp':Cmp ord:=ord_cmp id
def ins {α:Type} (c:α→α→Int) (x:α) (l:List α):List α:=l.filter (fun y=>decide (c y x<0))++x::l.filter (fun y=>decide (0<c y x))
def put {α:Type} (c:α→α→Int) (most:Nat) (x:α) (l:List α):Option (List α):=if (ins c x l).length≤most then some (ins c x l) else none
def within (n a b:Int):Bool:=decide (a≤n∧n≤b)
def mayEntry (e:Entry):Bool:=(Ids.setOf e.sels).2==0&&(Ids.setOf e.sels).1.getD []==e.sels&&!e.sels.isEmpty&&Ids.path e.path&&!Ids.agent e.path&&Ids.path e.parent&&within e.n 1 1099511627776&&within e.ttl 1 1000
def mayJoin (j:Join):Bool:=j.text.all (fun c=>Ids.small c||Ids.digit c)&&Ids.agent j.name&&within j.text.length 1 16&&within j.expires 0 1099511627776
def mayNode (n:Node):Bool:=Ids.agent n.name&&n.key.length==32&&within n.expires 0 1099511627776&&within n.seq 0 1099511627776&&decide (n.doc.length≤16)
def mayKey (k:Key):Bool:=k.seed.length==32&&within k.kid.length 1 16&&within k.state 1 3&&within k.since 0 1099511627776
def doEntry (L:Ledger) (e:Entry):Ledger × Int :=
 if mayEntry e then match put cE 24 e L.entries with
  | some l=>({ L with entries:=l },0)
  | none=>(L,6)
 else (L,1)
def doGone (L:Ledger) (n:Int):Ledger × Int:=if L.entries.any (fun e=>e.n==n) then ({ L with entries:=L.entries.eraseP (fun e=>e.n==n) },0) else (L,7)
def doToken (L:Ledger) (j:Join):Ledger × Int :=
 if !mayJoin j||j.used then (L,1)
 else if L.joins.any (fun k=>k.text==j.text) then (L,8)
 else if 16≤L.joins.length then (L,6)
 else ({ L with joins:=L.joins++[j] },0)
def doNode (L:Ledger) (n:Node):Ledger × Int :=
 if mayNode n then
  if L.bans.contains n.name then (L,21)
  else match put cN 4 n L.nodes with
   | some l=>({ L with nodes:=l },0)
   | none=>(L,6)
 else (L,1)
def modP {α:Type} (p:α→Bool) (f:α→α):List α→List α
 | []=>[]
 | a::l=>if p a then f a::l else a::modP p f l
def doJoin (L:Ledger) (text:Txt) (n:Node):Ledger × Int :=
 match L.joins.find? (fun j=>j.text==text) with
 | none=>(L,7)
 | some j=>if j.used then (L,20) else if n.name==j.name then
   (if (doNode L n).2==0 then ({ (doNode L n).1 with joins:=modP (fun j=>j.text==text) (fun j=>{ j with used:=true }) L.joins },0) else (L,(doNode L n).2))
  else (L,1)
def doBan (L:Ledger) (s:Txt):Ledger × Int :=
 if Ids.agent s then
  if L.bans.contains s then (L,8)
  else match put ord 8 s L.bans with
   | some l=>({ L with bans:=l,nodes:=L.nodes.eraseP (fun n=>n.name==s) },0)
   | none=>(L,6)
 else (L,1)
def doLift (L:Ledger) (s:Txt):Ledger × Int:=if L.bans.any (fun t=>t==s) then ({ L with bans:=L.bans.eraseP (fun t=>t==s) },0) else (L,7)
def doEvict (L:Ledger) (s:Txt):Ledger × Int:=if L.nodes.any (fun n=>n.name==s) then ({ L with nodes:=L.nodes.eraseP (fun n=>n.name==s) },0) else (L,7)
def doPrepare (L:Ledger) (k:Key):Ledger × Int :=
 if !mayKey k||!(k.state==1) then (L,1)
 else if L.keys.any (fun j=>j.state==1)||L.keys.any (fun j=>j.kid==k.kid) then (L,8)
 else if 8≤L.keys.length then (L,6)
 else ({ L with keys:=L.keys++[k] },0)
def retire (n:Int) (L:List Key):List Key:=modP (fun j=>j.state==2) (fun j=>{ j with state:=3,since:=n }) L
def doActive (L:Ledger) (n:Int):Ledger × Int :=
 if within n 0 1099511627776 then
  if L.keys.any (fun j=>j.state==1) then ({ L with keys:=modP (fun j=>j.state==1) (fun j=>{ j with state:=2,since:=n }) (retire n L.keys) },0)
  else (L,7)
 else (L,1)
def doDrop (L:Ledger) (s:Txt):Ledger × Int:=if L.keys.any (fun j=>j.kid==s&&j.state==3) then ({ L with keys:=L.keys.eraseP (fun j=>j.kid==s&&j.state==3) },0) else (L,7)
def doBundle (ok:Bool) (L:Ledger) (b:Bundle):Ledger × Int :=
 if ok then
  if L.bundles.any (fun o=>o.domain==b.domain&&decide (o.number > b.number)) then (L,22)
  else match put cB 3 b L.bundles with
   | some l=>({ L with bundles:=l },0)
   | none=>(L,6)
 else (L,1)
def doUnbind (L:Ledger) (s:Txt):Ledger × Int:=if L.bundles.any (fun b=>b.domain==s) then ({ L with bundles:=L.bundles.eraseP (fun b=>b.domain==s) },0) else (L,7)
def doSeq (L:Ledger) (s:Txt) (n:Int):Ledger × Int :=
 match L.nodes.find? (fun d=>d.name==s) with
 | none=>(L,7)
 | some d=>if n≤d.seq||n > 1099511627776 then (L,22) else ({ L with nodes:=modP (fun d=>d.name==s) (fun d=>{ d with seq:=n }) L.nodes },0)
def does (ok:Bool) (L:Ledger) (o:Op):Ledger × Int :=
 if o.kind=1 then doEntry L o.entry
 else if o.kind=2 then doGone L o.n
 else if o.kind=3 then doToken L o.join
 else if o.kind=4 then doJoin L o.name o.node
 else if o.kind=5 then doNode L o.node
 else if o.kind=6 then doBan L o.name
 else if o.kind=7 then doLift L o.name
 else if o.kind=8 then doEvict L o.name
 else if o.kind=9 then doPrepare L o.key
 else if o.kind=10 then doActive L o.n
 else if o.kind=11 then doDrop L o.name
 else if o.kind=12 then doBundle ok L o.bundle
 else if o.kind=13 then doUnbind L o.name
 else if o.kind=14 then doSeq L o.name o.n
 else (L,1)
def Rises {α:Type} (c:α→α→Int) (l:List α):Prop:=l.Pairwise fun a b=>c a b<0
structure Ledger.Wf (L:Ledger):Prop where
 e1:Rises cE L.entries
 e2:∀ e∈L.entries,mayEntry e=true
 e3:L.entries.length≤24
 e4:∀ e∈L.entries,e.sels.length≤1000
 n1:Rises cN L.nodes
 n2:∀ n∈L.nodes,mayNode n=true
 n3:L.nodes.length≤4
 b1:Rises ord L.bans
 b2:∀ s∈L.bans,Ids.agent s=true
 b3:L.bans.length≤8
 b4:∀ n∈L.nodes,n.name∉L.bans
 j1:(L.joins.map Join.text).Nodup
 j2:∀ j∈L.joins,mayJoin j=true
 j3:L.joins.length≤16
 k1:(L.keys.map Key.kid).Nodup
 k2:∀ k∈L.keys,mayKey k=true
 k3:L.keys.length≤8
 k4:L.keys.countP (fun k=>k.state==1)≤1
 k5:L.keys.countP (fun k=>k.state==2)≤1
 u1:Rises cB L.bundles
 u2:∀ b∈L.bundles,b.keys.length≤1000
 u3:L.bundles.length≤3
theorem none_wf:none'.Wf:=by
 constructor <;> simp [none',Rises]
section
variable {α:Type} {c:α→α→Int} {x:α} {l:List α}
theorem ins_mem{y:α} (h:y∈ins c x l):y=x∨y∈l:=by
 unfold ins at h
 simp only [List.mem_append,List.mem_cons,List.mem_filter] at h
 rcases h with h|h|h
 ·exact .inr h.1
 ·exact .inl h
 ·exact .inr h.1
theorem ins_rises(hc:Cmp c) (h:Rises c l):Rises c (ins c x l):=by
 unfold Rises ins at *
 rw [List.pairwise_append,List.pairwise_cons]
 refine⟨h.filter _,⟨?_,h.filter _⟩,?_⟩
 ·intro a ha
  simp only [List.mem_filter,decide_eq_true_eq] at ha; exact(hc.flip _ _).2 ha.2
 ·intro a ha b hb
  simp only [List.mem_filter,decide_eq_true_eq,List.mem_cons] at ha hb; rcases hb with rfl|hb
  ·exact ha.2
  ·exact hc.trans _ _ _ ha.2 ((hc.flip _ _).2 hb.2)
theorem put_some{most:Nat} {m:List α} (h:put c most x l=some m):m=ins c x l∧m.length≤most:=by
 unfold put at h
 split at h
 ·injection h with h; subst h; exact⟨rfl,by assumption⟩
 ·cases h
theorem modP_length{p:α→Bool} {f:α→α}:∀ {l:List α},(modP p f l).length=l.length
 | []=>rfl
 | a::l=>by
  unfold modP; split
  ·rfl
  ·simp [modP_length (l:=l)]
theorem modP_mem{p:α→Bool} {f:α→α} {y:α}:∀ {l:List α},y∈modP p f l→y∈l∨∃ a∈l,p a=true∧y=f a
 | a::l,h=>by
  unfold modP at h; split at h
  ·rename_i hp
   rcases List.mem_cons.1 h with rfl|h
   ·exact .inr ⟨a,List.mem_cons_self,hp,rfl⟩
   ·exact .inl (List.mem_cons_of_mem _ h)
  ·rcases List.mem_cons.1 h with rfl|h
   ·exact .inl List.mem_cons_self
   ·rcases modP_mem h with h|⟨b,hb,h1,h2⟩
    ·exact .inl (List.mem_cons_of_mem _ h)
    ·exact .inr ⟨b,List.mem_cons_of_mem _ hb,h1,h2⟩
theorem modP_map{β:Type} {p:α→Bool} {f:α→α} (g:α→β) (hg:∀ a,g (f a)=g a):∀ {l:List α},(modP p f l).map g=l.map g
 | []=>rfl
 | a::l=>by
  unfold modP; split
  ·simp [hg]
  ·simp [modP_map g hg (l:=l)]
end
end Led
end
section
open Go.RowKit Mem Led
def rows {α:Type} (enc:α→List Value) (L:List α):List Value:=(L.map enc).flatten
section
variable {α:Type} {enc:α→List Value} {k:Nat}
theorem rows_cons(x:α) (L:List α):rows enc (x::L)=enc x++rows enc L:=by simp [rows]
theorem rows_append(L M:List α):rows enc (L++M)=rows enc L++rows enc M:=by simp [rows]
theorem rows_length(hk:∀ x,(enc x).length=k):∀ L:List α,(rows enc L).length=L.length * k
 | []=>by simp [rows]
 | x::L=>by
  rw [rows_cons,List.length_append,hk,rows_length hk L,List.length_cons,Nat.succ_mul,Nat.add_comm]
theorem rows_at(hk:∀ x,(enc x).length=k):∀ {L:List α} {i:Nat} (h:i<L.length) {j:Nat},j<k→(rows enc L)[i * k+j]?=(enc L[i])[j]?
 | x::L,0,h,j,hj=>by
  rw [rows_cons,Nat.zero_mul,Nat.zero_add,List.getElem?_append_left (by rw [hk]; exact hj)]
  rfl
 | x::L,i+1,h,j,hj=>by
  have ih:=rows_at hk (L:=L) (i:=i) (by simpa using h) hj; rw [rows_cons,List.getElem?_append_right (by rw [hk,Nat.succ_mul]; omega),hk,show (i+1) * k+j - k=i * k+j by rw [Nat.succ_mul]; omega,ih]
  rfl
end
def Es {α:Type} (enc:α→List Value) (k:Nat) (w:World) (A:Option Addr) (n:Nat) (L:List α):Prop:=Vs w w.heap.size k A n (rows enc L)
section
variable {α:Type} {enc:α→List Value} {k n:Nat} {w w':World} {A:Option Addr} {L:List α}
theorem Es.len(hk:∀ x,(enc x).length=k) (h0:0<k) (h:Es enc k w A n L):L.length=n:=by
 have:=Vs.len h
 rw [rows_length hk] at this
 exact Nat.eq_of_mul_eq_mul_right h0 this
theorem Es.lit(hk:∀ x,(enc x).length=k) (h0:0<k) (h:Es enc k w A n L) {i:Nat} (hi:i<L.length):∃ b off,A=some ⟨b,off,none⟩∧b<w.heap.size∧∀ j u,(enc L[i])[j]?=some u→w.cell? ⟨b,off+(i * k+j),none⟩=some u:=by
 obtain⟨b,off,h1,h2,h3⟩:=Vs.lit h (by rw [rows_length hk]; exact Nat.mul_pos (by omega) h0)
 refine⟨b,off,h1,h2,fun j u hj=>h3 _ _ ?_⟩
 have hjk:j<k:=by
  have:=(List.getElem?_eq_some_iff.1 hj).1; rwa [hk] at this
 rw [rows_at hk hi hjk,hj]
theorem Es.below(h:Es enc k w A n L) (hb:Below w.heap.size w w'):Es enc k w' A n L:=(Vs.below h hb).mono hb.size
theorem Es.empty(w:World) (A:Option Addr):Es enc k w A 0 []:=Vs.empty _ _ _ _
end
def Fit (n c:Nat) (A:Option Addr):Prop:=n≤c∧c≤9223372036854775807∧(A=none→n=0)
def TextsAt (w:World) (v:Value) (L:List Txt):Prop:=∃ A n c,v=.slice A n c∧Fit n c A∧Ts w A n L
def ElemsAt {α:Type} (enc:α→List Value) (k:Nat) (w:World) (v:Value) (L:List α):Prop:=∃ A n c,v=.slice A n c∧Fit n c A∧Es enc k w A n L
theorem TextsAt.below{w w':World} {v:Value} {L:List Txt} (h:TextsAt w v L) (hb:Below w.heap.size w w'):TextsAt w' v L:=by
 obtain⟨A,n,c,h1,h2,h3⟩:=h
 exact⟨A,n,c,h1,h2,(Vs.below h3 hb).mono hb.size⟩
theorem ElemsAt.below{α:Type} {enc:α→List Value} {k:Nat} {w w':World} {v:Value} {L:List α} (h:ElemsAt enc k w v L) (hb:Below w.heap.size w w'):ElemsAt enc k w' v L:=by
 obtain⟨A,n,c,h1,h2,h3⟩:=h
 exact⟨A,n,c,h1,h2,h3.below hb⟩
def entRow (p:Led.Entry × Value):List Value:=[nm p.1.n,tx p.1.path,tx p.1.parent,nm p.1.ttl,p.2]
def bunRow (p:Led.Bundle × Value):List Value:=[tx p.1.domain,nm p.1.number,p.2]
theorem jwkRow_len(x:Led.Jwk):(jwkRow x).length=2:=rfl
theorem nodeRow_len(x:Led.Node):(nodeRow x).length=5:=rfl
theorem joinRow_len(x:Led.Join):(joinRow x).length=4:=rfl
theorem keyRow_len(x:Led.Key):(keyRow x).length=4:=rfl
theorem entRow_len(x:Led.Entry × Value):(entRow x).length=5:=rfl
theorem bunRow_len(x:Led.Bundle × Value):(bunRow x).length=3:=rfl
structure LgAt (w:World) (cs:List Value) (L:Led.Ledger) (E:List (Led.Entry × Value)) (U:List (Led.Bundle × Value)):Prop where
 cells:∃ vE vN vB vJ vK vU,cs=[vE,vN,vB,vJ,vK,vU]∧ElemsAt entRow 5 w vE E∧ElemsAt nodeRow 5 w vN L.nodes∧TextsAt w vB L.bans∧ElemsAt joinRow 4 w vJ L.joins∧ElemsAt keyRow 4 w vK L.keys∧ElemsAt bunRow 3 w vU U
 ents:E.map Prod.fst=L.entries
 buns:U.map Prod.fst=L.bundles
 sels:∀ p∈E,TextsAt w p.2 p.1.sels
 keyss:∀ p∈U,ElemsAt jwkRow 2 w p.2 p.1.keys
theorem LgAt.below{w w':World} {cs:List Value} {L:Led.Ledger} {E:List (Led.Entry × Value)} {U:List (Led.Bundle × Value)} (h:LgAt w cs L E U) (hb:Below w.heap.size w w'):LgAt w' cs L E U:=by
 obtain⟨⟨vE,vN,vB,vJ,vK,vU,h0,h1,h2,h3,h4,h5,h6⟩,e,u,s,k⟩:=h
 exact⟨⟨vE,vN,vB,vJ,vK,vU,h0,h1.below hb,h2.below hb,h3.below hb,h4.below hb,h5.below hb,h6.below hb⟩,e,u,fun p hp=>(s p hp).below hb,fun p hp=>(k p hp).below hb⟩
end
section
open Go.RowKit Mem Led
theorem arr_cells{w:World} {b o n:Nat} {cs:List Value} (hn:cs.length=n) (h:∀ j u,cs[j]?=some u→w.cell? ⟨b,o+j,none⟩=some u):Mem.arr w b o n=cs.toArray∧Has w b o n:=by
 have hh:∀ j,(hj:j<cs.length)→w.cell? ⟨b,o+j,none⟩=some cs[j]:=fun j hj=>h j _ (List.getElem?_eq_getElem hj)
 subst hn
 constructor
 ·unfold Mem.arr
  congr 1
  apply List.ext_getElem
  ·simp
  ·intro j h1 h2
   rw [List.getElem_map,List.getElem_range,hh j h2]; rfl
 ·intro j hj
  rw [hh j hj]; rfl
section
variable {P:Program} {T:TypeId} {d:TypeDesc} {k:Nat}
theorem load_cells(hu:P.underlying T=some d) (hd:(match d with|.struct _|.array _ _=>true|_=>false)=true) (hi:(P.info? T).map (·.size)=some k)
  {w:World} {b o:Nat} {cs:List Value} (hn:cs.length=k) (h:∀ j u,cs[j]?=some u→w.cell? ⟨b,o+j,none⟩=some u):(Instr.loadAt T (.pointer (some ⟨b,o,none⟩))).run P w=.ok (.agg cs.toArray) w:=by
 obtain⟨h1,h2⟩:=arr_cells hn h
 have:=run_load_arr (P:=P) w T b o k _ hu hd hi h2
 rw [h1] at this
 exact this
theorem load_es{α:Type} {enc:α→List Value} (hu:P.underlying T=some d) (hd:(match d with|.struct _|.array _ _=>true|_=>false)=true) (hi:(P.info? T).map (·.size)=some k)
  (hk:∀ x,(enc x).length=k) (h0:0<k) {w:World} {A:Option Addr} {n:Nat} {L:List α} (h:Es enc k w A n L) {i:Nat} (hi':i<L.length) :
  ∃ b off,A=some ⟨b,off,none⟩∧b<w.heap.size∧∀ w',Below w.heap.size w w'→(Instr.loadAt T (.pointer (some ⟨b,off+i * k,none⟩))).run P w'=.ok (.agg (enc L[i]).toArray) w':=by
 obtain⟨b,off,h1,h2,h3⟩:=h.lit hk h0 hi'
 refine⟨b,off,h1,h2,fun w' hb=>load_cells hu hd hi (hk _) fun j u hj=>?_⟩
 rw [Nat.add_assoc]
 exact(hb.cell (p:=⟨b,off+(i * k+j),none⟩) h2).trans (h3 j u hj)
theorem load_blk(hu:P.underlying T=some d) (hd:(match d with|.struct _|.array _ _=>true|_=>false)=true) (hi:(P.info? T).map (·.size)=some k)
  {w:World} {g:Nat} {cs:List Value} {t:TypeId} (h:Blk w g cs t) (hn:cs.length=k):(Instr.loadAt T (.pointer (some ⟨g,0,none⟩))).run P w=.ok (.agg cs.toArray) w :=
 load_cells hu hd hi hn fun j u hj=>by rw [Nat.zero_add,h.cell j]; exact hj
end
def idxOf {α:Type} (p:α→Bool) (L:List α):Int:=match L.findIdx? p with
 | some i=>(i:Int)
 | none => -1
theorem idx_none{α:Type} {p:α→Bool} {L:List α} (h:∀ x∈L,p x=false):idxOf p L = -1:=by
 unfold idxOf
 rw [List.findIdx?_eq_none_iff.2 h]
theorem idx_some{α:Type} {p:α→Bool} {L:List α} {k:Nat} (hk:k<L.length) (h:∀ x∈L.take k,p x=false) (hp:p L[k]=true):idxOf p L=k:=by
 unfold idxOf
 have:L.findIdx? p=some k:=by
  rw [List.findIdx?_eq_some_iff_getElem]; refine⟨hk,hp,fun j hj=>?_⟩; have:=h L[j] (by rw [List.mem_take_iff_getElem]; exact⟨j,by omega,rfl⟩)
  simp [this]
 rw [this]
theorem take_more{α:Type} {p:α→Bool} {L:List α} {k:Nat} (hk:k<L.length) (h:∀ x∈L.take k,p x=false) (hp:p L[k]=false):∀ x∈L.take (k+1),p x=false:=by
 intro x hx
 rw [List.take_succ_eq_append_getElem hk] at hx
 rcases List.mem_append.1 hx with hx|hx
 ·exact h x hx
 ·simp at hx
  subst hx; exact hp
def ldEnt (x:Value):Sem Value:=Instr.loadAt 36 x
def stEnt (x v:Value):Sem Unit:=Instr.storeAt 36 x v
theorem named_ldEnt(x:Value):Instr.loadAt 36 x=ldEnt x:=rfl
theorem named_stEnt(x v:Value):Instr.storeAt 36 x v=stEnt x v:=rfl
attribute [go_sem ↓] named_ldEnt named_stEnt
theorem sizeEnt:(Tryz.prog.info? 36).map (·.size)=some 5:=by kernel_rfl
theorem ldEnt_es{w:World} {A:Option Addr} {n:Nat} {L:List (Led.Entry × Value)} (h:Es entRow 5 w A n L) {i:Nat} (hi:i<L.length) :
  ∃ b off,A=some ⟨b,off,none⟩∧b<w.heap.size∧∀ w',Below w.heap.size w w'→(ldEnt (.pointer (some ⟨b,off+i * 5,none⟩))).run Tryz.prog w'=.ok (.agg (entRow L[i]).toArray) w' :=
 load_es Tryz.underlying36 rfl sizeEnt entRow_len (by decide) h hi
theorem ldEnt_blk{w:World} {g:Nat} {cs:List Value} {t:TypeId} (h:Blk w g cs t) (hn:cs.length=5):(ldEnt (.pointer (some ⟨g,0,none⟩))).run Tryz.prog w=.ok (.agg cs.toArray) w :=
 load_blk Tryz.underlying36 rfl sizeEnt h hn
def ldNod (x:Value):Sem Value:=Instr.loadAt 40 x
def stNod (x v:Value):Sem Unit:=Instr.storeAt 40 x v
theorem named_ldNod(x:Value):Instr.loadAt 40 x=ldNod x:=rfl
theorem named_stNod(x v:Value):Instr.storeAt 40 x v=stNod x v:=rfl
attribute [go_sem ↓] named_ldNod named_stNod
theorem sizeNod:(Tryz.prog.info? 40).map (·.size)=some 5:=by kernel_rfl
theorem ldNod_es{w:World} {A:Option Addr} {n:Nat} {L:List (Led.Node)} (h:Es nodeRow 5 w A n L) {i:Nat} (hi:i<L.length) :
  ∃ b off,A=some ⟨b,off,none⟩∧b<w.heap.size∧∀ w',Below w.heap.size w w'→(ldNod (.pointer (some ⟨b,off+i * 5,none⟩))).run Tryz.prog w'=.ok (.agg (nodeRow L[i]).toArray) w' :=
 load_es Tryz.underlying40 rfl sizeNod nodeRow_len (by decide) h hi
theorem ldNod_blk{w:World} {g:Nat} {cs:List Value} {t:TypeId} (h:Blk w g cs t) (hn:cs.length=5):(ldNod (.pointer (some ⟨g,0,none⟩))).run Tryz.prog w=.ok (.agg cs.toArray) w :=
 load_blk Tryz.underlying40 rfl sizeNod h hn
def ldJoi (x:Value):Sem Value:=Instr.loadAt 38 x
theorem named_ldJoi(x:Value):Instr.loadAt 38 x=ldJoi x:=rfl
attribute [go_sem ↓] named_ldJoi
theorem sizeJoi:(Tryz.prog.info? 38).map (·.size)=some 4:=by kernel_rfl
theorem ldJoi_es{w:World} {A:Option Addr} {n:Nat} {L:List (Led.Join)} (h:Es joinRow 4 w A n L) {i:Nat} (hi:i<L.length) :
  ∃ b off,A=some ⟨b,off,none⟩∧b<w.heap.size∧∀ w',Below w.heap.size w w'→(ldJoi (.pointer (some ⟨b,off+i * 4,none⟩))).run Tryz.prog w'=.ok (.agg (joinRow L[i]).toArray) w' :=
 load_es Tryz.underlying38 rfl sizeJoi joinRow_len (by decide) h hi
def ldKey (x:Value):Sem Value:=Instr.loadAt 42 x
theorem named_ldKey(x:Value):Instr.loadAt 42 x=ldKey x:=rfl
attribute [go_sem ↓] named_ldKey
theorem sizeKey:(Tryz.prog.info? 42).map (·.size)=some 4:=by kernel_rfl
theorem ldKey_es{w:World} {A:Option Addr} {n:Nat} {L:List (Led.Key)} (h:Es keyRow 4 w A n L) {i:Nat} (hi:i<L.length) :
  ∃ b off,A=some ⟨b,off,none⟩∧b<w.heap.size∧∀ w',Below w.heap.size w w'→(ldKey (.pointer (some ⟨b,off+i * 4,none⟩))).run Tryz.prog w'=.ok (.agg (keyRow L[i]).toArray) w' :=
 load_es Tryz.underlying42 rfl sizeKey keyRow_len (by decide) h hi
def ldBun (x:Value):Sem Value:=Instr.loadAt 45 x
def stBun (x v:Value):Sem Unit:=Instr.storeAt 45 x v
theorem named_ldBun(x:Value):Instr.loadAt 45 x=ldBun x:=rfl
theorem named_stBun(x v:Value):Instr.storeAt 45 x v=stBun x v:=rfl
attribute [go_sem ↓] named_ldBun named_stBun
theorem sizeBun:(Tryz.prog.info? 45).map (·.size)=some 3:=by kernel_rfl
theorem ldBun_es{w:World} {A:Option Addr} {n:Nat} {L:List (Led.Bundle × Value)} (h:Es bunRow 3 w A n L) {i:Nat} (hi:i<L.length) :
  ∃ b off,A=some ⟨b,off,none⟩∧b<w.heap.size∧∀ w',Below w.heap.size w w'→(ldBun (.pointer (some ⟨b,off+i * 3,none⟩))).run Tryz.prog w'=.ok (.agg (bunRow L[i]).toArray) w' :=
 load_es Tryz.underlying45 rfl sizeBun bunRow_len (by decide) h hi
theorem ldBun_blk{w:World} {g:Nat} {cs:List Value} {t:TypeId} (h:Blk w g cs t) (hn:cs.length=3):(ldBun (.pointer (some ⟨g,0,none⟩))).run Tryz.prog w=.ok (.agg cs.toArray) w :=
 load_blk Tryz.underlying45 rfl sizeBun h hn
end
section
open Go.RowKit Mem Led
theorem own_cases{w:World} {base:Nat} {e:TypeId} {k n:Nat} {v:Value} {xs:List Value} (h:w.ownsRow base e k v n xs) :
  (v=.slice none 0 0∧n=0∧xs=[])∨∃ g c M,v=.slice (some ⟨g,0,none⟩) n c∧base≤g∧g<w.heap.size∧Blk w g M e∧n≤c∧c≤maxLen∧M.length=c * k∧M.take (n * k)=xs:=by
 obtain⟨h1,h2⟩:=h
 rcases h2 with⟨rfl,rfl⟩|⟨g,c,cur,rfl,hb,hg,hn,hc,hs,ht⟩
 ·exact .inl ⟨rfl,rfl,List.eq_nil_of_length_eq_zero (by simpa using h1)⟩
 ·exact .inr ⟨g,c,cur.toList,rfl,hb,(Array.getElem?_eq_some_iff.1 hg).1,by unfold Blk; simpa using hg,hn,hc,by simpa using hs,ht⟩
theorem own_of_row{w:World} {base:Nat} {e:TypeId} {k n g c:Nat} {M xs:List Value} (hb:base≤g) (hg:Blk w g M e) (hn:n≤c) (hc:c≤maxLen) (hs:M.length=c * k) (ht:M.take (n * k)=xs):w.ownsRow base e k (.slice (some ⟨g,0,none⟩) n c) n xs:=by
 refine⟨?_,.inr ⟨g,c,M.toArray,rfl,hb,hg,hn,hc,by simpa using hs,by simpa using ht⟩⟩
 rw [← ht,List.length_take,hs]
 exact Nat.min_eq_left (Nat.mul_le_mul_right _ hn)
theorem Blk.setRow{w:World} {g:Nat} {M M':List Value} {e:TypeId} (h:Blk w g M e):Blk (w.setRow g M'.toArray) g M' e:=setRow_heap w g M.toArray _ e _ h
theorem grown_setRow{w w':World} {g:Nat} {M':Array Value} (h:w.grownBy w' (some g)):w.grownBy (w'.setRow g M') (some g) :=
 ⟨h.os,h.tape,h.output,by simp [World.setRow]; exact h.size,fun k hk hne=>by rw [setRow_other w' g k M' (by simpa using hne)]; exact h.block k hk hne⟩
theorem grown_drew{w w':World} {r:Option Nat} (h:w.grownBy w' r):w.grownBy w'.drew r:=⟨h.os,h.tape,h.output,h.size,h.block⟩
theorem grown_refl(w:World) (r:Option Nat):w.grownBy w r:=⟨rfl,rfl,rfl,Nat.le_refl _,fun _ _ _=>rfl⟩
section
variable {P:Program}
theorem run_copyK{w:World} {dT sT ty elem:TypeId} {g o dLen dCap:Nat} {a:Addr} {sLen sCap k m:Nat} {M:List Value} {t:TypeId} {cs:List Value}
  (hu:P.underlying dT=some (.slice elem)) (hs:(P.info? elem).map (·.size)=some k) (hg:Blk w g M t) (hm:Nat.min sLen dLen=m) (hn:cs.length=m * k)
  (hsrc:∀ j v,cs[j]?=some v→w.cell? (a.add j)=some v) (hfit:o+cs.length≤M.length) (h1:∀ v∈cs,v.oneCell'=true) :
  (Builtin.copy_ #[dT,sT] ty #[.slice (some ⟨g,o,none⟩) dLen dCap,.slice (some a) sLen sCap]).run P w=.ok (goInt m) (w.setRow g (splice M o cs).toArray):=by
 have hl:=run_loadCells_list (P:=P) w a cs hsrc
 have hst:=run_storeCells_at P g o t cs 0 M.toArray w hg (by simpa using hfit) h1
 cases hq:P.info? elem with
 | none=>simp [hq] at hs
 | some i =>
  have hi:i.size=k:=by simpa [hq] using hs
  subst hm; simp [Builtin.copy_,run_underlying hu,Builtin.lenOf,Builtin.firstCells,sizeOf,typeInfo,hq,hi,← hn,hl,hst,splice]
theorem run_clearK{w:World} {t e ty:TypeId} {z:Value} {k:Nat} (ht:P.underlying t=some (.slice e)) (hv:∀ w,(zeroValue e).run P w=.ok z w) (hz:z.cells.size=k) (h1:∀ v∈z.cells.toList,v.oneCell'=true) {g o n c:Nat} {M:List Value} {te:TypeId} (hn:0<n)
  (hg:Blk w g M te) (hfit:o+n * k≤M.length) :
  ∃ Z:List Value,Z.length=n * k∧(Builtin.clear_ #[t] ty #[.slice (some ⟨g,o,none⟩) n c]).run P w=.ok (.tuple #[]) (w.setRow g (splice M o Z).toArray):=by
 refine⟨(Builtin.zeroCells z.cells n).toList,by rw [Array.length_toList,size_zeroCells,hz],?_⟩
 have hst:=run_storeCells_at P g o te (Builtin.zeroCells z.cells n).toList 0 M.toArray w hg (by rw [Array.length_toList,size_zeroCells,hz]; simpa using hfit) (by
  intro v hv'; unfold Builtin.zeroCells at hv'; simp at hv'
  obtain⟨i,hi,rfl⟩:=hv'; refine h1 _ ?_; have hpos:0<z.cells.size:=by
   rcases Nat.eq_zero_or_pos z.cells.size with h0|h0
   ·rw [h0] at hi; omega
   ·exact h0
  rw [getElem!_pos z.cells _ (Nat.mod_lt _ hpos)]; exact Array.getElem_mem_toList _)
 simp only [Nat.add_zero] at hst
 obtain⟨m,rfl⟩:∃ m,n=m+1:=⟨n - 1,by omega⟩
 simp [Builtin.clear_,run_underlying ht,hv,hst,splice]
theorem step_appendR{ops:Array Oper} {o:Oper} {a:Act} {w:World} {K:Act→World→Prop} {Q:Exit→Act→World→Prop} {E:Prop}
  (hg:o.guard=none) (d x:Operand) (dT sT:TypeId) (hop:o.op=Op.call { callee:=Callee.builtin Builtin.append,args:=#[d,x],argTypes:=#[dT,sT] })
  (v u:Value) (hd:a.eval d=v) (hx:a.eval x=u) {v':Value} {w':World} (hr:(Builtin.append_ #[dT,sT] o.type #[v,u]).run P w=.ok v' w') (hK:K (a.put o.dst v') w') :
  if Region.wanted o (yielded ops a.tmps)=true then Oper.wp P o a w K Q else E:=by
 have hw:Region.wanted o (yielded ops a.tmps)=true:=by simp [Region.wanted,hg]
 rw [if_pos hw]
 exact Lib.wp_append_run w d x dT sT hop v u hd hx v' w' hr hK
end
theorem splice_insert{α:Type} {A D R X:List α} {k:Nat} (hX:X.length=k) (hR:k≤R.length):splice (splice (A++D++R) (A.length+k) D) A.length X=A++X++D++R.drop k:=by
 unfold splice
 have e1:(A++D++R).take (A.length+k)=A++(D++R).take k:=by rw [List.append_assoc,List.take_append,List.take_of_length_le (by omega)]; congr 2; omega
 have e2:(A++D++R).drop (A.length+k+D.length)=R.drop k:=by
  rw [List.drop_append,List.drop_of_length_le (by simp only [List.length_append]; omega),List.nil_append,List.length_append]
  congr 1
  omega
 rw [e1,e2]
 have hl:((D++R).take k).length=k:=by rw [List.length_take,List.length_append]; omega
 have e3:(A++(D++R).take k++(D++R.drop k)).take A.length=A:=by rw [List.append_assoc,List.take_append_of_le_length (Nat.le_refl _),List.take_of_length_le (Nat.le_refl _)]
 have e4:(A++(D++R).take k++(D++R.drop k)).drop (A.length+X.length)=D++R.drop k:=by
  rw [List.drop_append,List.drop_of_length_le (by simp only [List.length_append]; omega),List.nil_append,List.length_append,hl,hX]
  have:A.length+k - (A.length+k)=0:=by omega
  rw [this,List.drop_zero]
 rw [e3,e4]
 simp [List.append_assoc]
theorem splice_fresh{α:Type} {A D Z X:List α} {k:Nat} (hX:X.length=k):splice (splice (A++Z) A.length X) (A.length+k) D=A++X++D++Z.drop (k+D.length):=by
 unfold splice
 have e1:(A++Z).take A.length=A:=by rw [List.take_append_of_le_length (Nat.le_refl _),List.take_of_length_le (Nat.le_refl _)]
 have e2:(A++Z).drop (A.length+X.length)=Z.drop k:=by
  rw [List.drop_append,List.drop_of_length_le (by omega),List.nil_append,hX]; congr 1
  omega
 rw [e1,e2]
 have e3:(A++(X++Z.drop k)).take (A.length+k)=A++X:=by
  rw [← List.append_assoc,List.take_append_of_le_length (by simp only [List.length_append]; omega),List.take_of_length_le (by simp only [List.length_append]; omega)]
 have e4:(A++(X++Z.drop k)).drop (A.length+k+D.length)=Z.drop (k+D.length):=by
  rw [← List.append_assoc,List.drop_append,List.drop_of_length_le (by simp only [List.length_append]; omega),List.nil_append,List.length_append,List.drop_drop,hX]
  congr 1
  omega
 rw [e3,e4]
 simp [List.append_assoc]
end
end Go.Proofs.YtmbpnkacggngkaaGreatDoor
