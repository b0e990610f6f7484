/- LedCut, LedEqs, IdsSpec, IdsSetLaw, LedLaw, LedHas, LedElem, LedRow (put together by bundle.py: only what is needed). -/
import Derived.Laws.StructEq
import Derived.Lib.Split
import Derived.Lib.SplitLaws
import Derived.Lib.IndexBytes
import Derived.Lib.SlTrimSet
import Derived.Lib.SlicesCompact
import Derived.Sort.Walk0
import Derived.Laws.CopyOwn
import Derived.Lib.AppendZerosOnto
import Derived.Lib.AppendZeros
import Derived.Lib.Overlaps
import Derived.Lib.SliceRun
import Derived.Test.YtmbpnkacggngkaaGreatDoorLI4
set_option maxRecDepth 100000
set_option maxHeartbeats 16000000
namespace Go.Proofs.YtmbpnkacggngkaaGreatDoor
open Batch
open Tryz
section
open Go.RowKit Mem Led
theorem eW(s:Txt)(E:s.length<=9223372036854775807)(w:World):Calls prog 24 #[.string (str s)] w fun e w'=>e=.returned (.string (str (Led.few s)))/\w=w':=by
 have A:=eA (aC s)
 by_cases h:s.length<=60
 .have e:Led.few s=s:=by unfold Led.few;exact List.take_of_length_le h
  rw[e];have B:(str s).size<=60:=by rw[A.out];exact h
  go_enter func24,ntmps24
  go_wp2;go_ret;exact⟨rfl,rfl⟩
 .have B:60<(str s).size:=by rw[A.out];omega
  have F:(str s).size<=9223372036854775807:=by rw[A.out];omega
  have C:∀w',(Instr.slice 9 (.string (str s)) none (some (.int .i64 60)) none).run prog w'=.ok (.string (str (Led.few s))) w':=fun w'=>by
   have e:(str s).extract 0 60=str (Led.few s):=by
    apply ByteArray.ext
    apply Array.toList_inj.1
    simp[str,Led.few]
   have D:(0:Int)<=60/\(60:Int)<=((str s).size:Int):=⟨by omega,by omega⟩;rw[<-e];simp[Instr.slice,Instr.sliceBounds,Instr.sliceBound,asIntOf,run_underlying underlying9,D]
  go_enter func24,ntmps24
  go_wp2;go_ret;exact⟨rfl,rfl⟩
theorem mJ{w w':World}{base size:Nat}{e:TypeId}{v:Value}{n:Nat}{xs:List Value}(h:w.ownsRow base e size v n xs)(C:eF w w'):w'.ownsRow base e size v n xs:=by
 refine⟨h.1,?_⟩
 rcases h.2 with D|⟨g,cap,A,E,F,B,r⟩
 .exact .inl D
 .exact .inr ⟨g,cap,A,E,F,by rw[C.block g (Array.getElem?_eq_some_iff.1 B).1];exact B,r⟩
theorem few_q(s:Txt)(A:s.length<=9223372036854775807)(w:World):Calls prog 24 #[.string (str s)] w fun e w'=>e=.returned (.string (str (Led.few s)))/\eF w w' :=
 (eW s A w).mono fun e w' ⟨B,hw⟩=>⟨B,by rw[<-hw];exact Below.refl _ _⟩
theorem infoJ:(prog.info? 54).map (fun i=>(i.zero,i.size,i.bytes))=some (some (.agg #[.string ⟨#[]⟩,.string ⟨#[]⟩]),2,32):=by kernel_rfl
def fewT(L:List Txt)(t:Nat):List Value:=tv ((L.take t).map Led.few)
theorem fewT_snoc(L:List Txt)(t:Nat)(h:t<L.length):fewT L t++[.string (str (Led.few (L[t]'h)))]=fewT L (t+1):=by
 unfold fewT
 rw[List.take_add_one,List.getElem?_eq_getElem h,Option.toList_some,List.map_append,sX]
 rfl
def oc(D n:Int)(name:Txt)(J:Int)(path A:Txt)(G:Int)(S:Value)(B jname:Txt)(jexp:Int)(E:Bool)(C nkey:Txt)(nexp nseq:Int)(ndoc H F:Txt)(state since:Int)(I:Txt)(num:Int)(K:Value):List Value :=
 [.int .i64 D,.int .i64 n,.string (str name),.int .i64 J,.string (str path),.string (str A),.int .i64 G,S,.string (str B),.string (str jname),.int .i64 jexp,.bool E,.string (str C),.string (str nkey),.int .i64 nexp,.int .i64 nseq,.string (str ndoc),.string (str H),.string (str F),.int .i64 state,.int .i64 since,.string (str I),.int .i64 num,K]
theorem oc_one(F n:Int)(name:Txt)(M:Int)(path C:Txt)(I:Int)(A:Option Addr)(x y:Nat)(D jname:Txt)(jexp:Int)(G:Bool)(E nkey:Txt)(nexp nseq:Int)(ndoc J H:Txt)(state since:Int)(K:Txt)(num:Int)(B:Option Addr)(z q:Nat):∀v∈oc F n name M path C I (.slice A x y) D jname jexp G E nkey nexp nseq ndoc J H state since K num (.slice B z q),v.oneCell'=true:=by
 intro v L
 simp only[oc,List.mem_cons,List.not_mem_nil,or_false] at L
 rcases L with rfl|rfl|rfl|rfl|rfl|rfl|rfl|rfl|rfl|rfl|rfl|rfl|rfl|rfl|rfl|rfl|rfl|rfl|rfl|rfl|rfl|rfl|rfl|rfl<;>rfl
theorem js:∀(vs:List Value) {w:World} {base n g k size:Nat} {v:Value} {e:TypeId} {xs:List Value},w.ownsRow base e size v n xs->g<base->(w.setCells g k vs).ownsRow base e size v n xs
 | [],_,_,_,_,_,_,_,_,_,h,_=>h
 | u::vs,_,_,_,_,_,_,_,_,_,h,hg=>js vs (ownsRow_setCell_below h hg u) hg
theorem cut_go(I n:Int)(name:Txt)(z:Int)(path C:Txt)(R:Int)(D jname:Txt)(jexp:Int)(J:Bool)(E nkey:Txt)(nexp nseq:Int)(ndoc N G:Txt)(state since:Int)(O:Txt)(num:Int)(As:Option Addr)(l cS:Nat)(Ak:Option Addr)(U cK:Nat)(sels:List Txt)(M:List Jwk)(AF:name.length<=9223372036854775807)(AG:path.length<=9223372036854775807)(An:C.length<=9223372036854775807)(Au:D.length<=9223372036854775807)(Av:jname.length<=9223372036854775807)(Aw:E.length<=9223372036854775807)(AH:nkey.length<=9223372036854775807)(AI:ndoc.length<=9223372036854775807)(AT:N.length<=9223372036854775807)(AJ:G.length<=9223372036854775807)(AU:O.length<=9223372036854775807)(w:World)
  (hs:Ts w As l sels) (BK:∀s∈sels,s.length<=9223372036854775807) (_hsc:l<=cS) (hk:Vs w w.heap.size 2 Ak U (jv M)) (BL:∀k∈M,k.kid.length<=9223372036854775807/\k.x.length<=9223372036854775807) (_hkc:U<=cK) :
  Calls prog 13 #[.agg (oc I n name z path C R (.slice As l cS) D jname jexp J E nkey nexp nseq ndoc N G state since O num (.slice Ak U cK)).toArray] w fun e w'=>∃f Z A2 c2 KK,e=.returned (.agg (oc I n (Led.few name) z (Led.few path) (Led.few C) R (.slice f (min l 6) Z) (Led.few D) (Led.few jname) jexp J (Led.few E) (Led.few nkey) nexp nseq (Led.few ndoc) (Led.few N) (Led.few G) state since (Led.few O) num (.slice A2 (min U 9) c2)).toArray)/\min l 6<=Z/\min U 9<=c2 /\
   w'.ownsRow w.heap.size 9 1 (.slice f (min l 6) Z) (min l 6) (tv ((sels.take 6).map Led.few))/\w'.ownsRow w.heap.size 54 2 (.slice A2 (min U 9) c2) (min U 9) (jv KK)/\dZ (fun x r=>r=Sha.cm x) (M.take 9) KK/\eF w w':=by
 obtain⟨W,hW⟩:=eC ((w.alloc (.cells (oc I n name z path C R (.slice As l cS) D jname jexp J E nkey nexp nseq ndoc N G state since O num (.slice Ak U cK)).toArray 47)).alloc (.cells (ac fe (.slice none 0 0) (.slice none 0 0)).toArray 47))
 have B:Blk W w.heap.size (oc I n name z path C R (.slice As l cS) D jname jexp J E nkey nexp nseq ndoc N G state since O num (.slice Ak U cK)) 47:=by rw[<-hW];exact(Blk.new _ _ _).alloc _
 have S:Blk W (w.heap.size+1) (ac fe (.slice none 0 0) (.slice none 0 0)) 47:=by
  have:=Blk.new (w.alloc (.cells (oc I n name z path C R (.slice As l cS) D jname jexp J E nkey nexp nseq ndoc N G state since O num (.slice Ak U cK)).toArray 47)) (ac fe (.slice none 0 0) (.slice none 0 0)) 47;rw[<-hW];simpa using this
 have Ao:eF w W:=by rw[<-hW];exact eI.alloc (by simp) _
 have T:Chg [w.heap.size] W W:=Chg.refl _ _
 unfold oc ac fe at hW
 simp only[nm,tx,show str []=⟨#[]⟩ from rfl] at hW
 have HW:=eA hW
 clear hW
 unfold oc
 go_enter func13,ntmps13
 go_upto_region 1 with fail
 rw[HW.out]
 have q:W.cell? ⟨w.heap.size,2,none⟩=some (.string (str name)):=B.cell 2
 have qf:W.frozen? ⟨w.heap.size,2,none⟩=false:=B.froz 2
 have y:=B.lt
 go_wp2_with fail
 refine(eW name AF W).mono ?_
 rintro e w' ⟨rfl,rfl⟩
 go_upto_region 2 with fail
 have B':Blk (W.setCell ⟨w.heap.size,2,none⟩ (.string (str (Led.few name)))) w.heap.size (oc I n (Led.few name) z path C R (.slice As l cS) D jname jexp J E nkey nexp nseq ndoc N G state since O num (.slice Ak U cK)) 47:=B.set 2 (.string (str (Led.few name)))
 have K:=S.set_ne (p:=⟨w.heap.size,2,none⟩) (by simp) (.string (str (Led.few name)))
 have L:=T.setCell (p:=⟨w.heap.size,2,none⟩) (.inl (by simp)) (.string (str (Led.few name)))
 generalize W.setCell ⟨w.heap.size,2,none⟩ (.string (str (Led.few name)))=W1 at *
 clear B S T q qf y
 have B:=B'
 have S:=K
 have T:=L
 clear B' K L
 have q:W1.cell? ⟨w.heap.size,4,none⟩=some (.string (str path)):=B.cell 4
 have qf:W1.frozen? ⟨w.heap.size,4,none⟩=false:=B.froz 4
 have y:=B.lt
 go_wp2_with fail
 refine(eW path AG W1).mono ?_
 rintro e w' ⟨rfl,rfl⟩
 go_upto_region 3 with fail
 have B':Blk (W1.setCell ⟨w.heap.size,4,none⟩ (.string (str (Led.few path)))) w.heap.size (oc I n (Led.few name) z (Led.few path) C R (.slice As l cS) D jname jexp J E nkey nexp nseq ndoc N G state since O num (.slice Ak U cK)) 47:=B.set 4 (.string (str (Led.few path)))
 have K:=S.set_ne (p:=⟨w.heap.size,4,none⟩) (by simp) (.string (str (Led.few path)))
 have L:=T.setCell (p:=⟨w.heap.size,4,none⟩) (.inl (by simp)) (.string (str (Led.few path)))
 generalize W1.setCell ⟨w.heap.size,4,none⟩ (.string (str (Led.few path)))=W2 at *
 clear B S T q qf y
 have B:=B'
 have S:=K
 have T:=L
 clear B' K L
 have q:W2.cell? ⟨w.heap.size,5,none⟩=some (.string (str C)):=B.cell 5
 have qf:W2.frozen? ⟨w.heap.size,5,none⟩=false:=B.froz 5
 have y:=B.lt
 go_wp2_with fail
 refine(eW C An W2).mono ?_
 rintro e w' ⟨rfl,rfl⟩
 go_upto_region 4 with fail
 have B':Blk (W2.setCell ⟨w.heap.size,5,none⟩ (.string (str (Led.few C)))) w.heap.size (oc I n (Led.few name) z (Led.few path) (Led.few C) R (.slice As l cS) D jname jexp J E nkey nexp nseq ndoc N G state since O num (.slice Ak U cK)) 47:=B.set 5 (.string (str (Led.few C)))
 have K:=S.set_ne (p:=⟨w.heap.size,5,none⟩) (by simp) (.string (str (Led.few C)))
 have L:=T.setCell (p:=⟨w.heap.size,5,none⟩) (.inl (by simp)) (.string (str (Led.few C)))
 generalize W2.setCell ⟨w.heap.size,5,none⟩ (.string (str (Led.few C)))=W3 at *
 clear B S T q qf y
 have B:=B'
 have S:=K
 have T:=L
 clear B' K L
 have X:w.heap.size<W3.heap.size:=B.lt
 have Ct:w.heap.size+1<W3.heap.size:=S.lt
 have Ax:eF w W3:=Ao.trans (T.below' Ao.size (by simp))
 have AV:Ts W3 As l sels:=(Vs.below hs Ax).mono Ax.size
 have BM:=eA hk
 have Bf:=eA AV.len
 obtain⟨i0,hi,BN,BO,AK⟩:=an infoT
 obtain⟨iJ,Bg,Bh,Bi,Bj⟩:=an infoJ
 obtain⟨m,hm⟩:=eC (min l 6)
 have BP:m<=l:=by omega
 have Bk:m<=6:=by omega
 have HM:=eA (show m<l->m=6 by omega)
 have BQ:=eA hm
 clear hs hk hm
 go_wp2_with fail
 go_loopw [3,4] (fun v i wx=>∃(t:Nat) (A:Option Addr) (c:Nat),t<=m/\i=.int .i64 (t:Int)/\v=.slice A t c/\t<=c/\eF W3 wx/\wx.ownsRow W3.heap.size 9 1 (.slice A t c) t (fewT sels t)) (fun _ i _=>6-(intOf i).toNat)
 case atStart=>exact⟨0,none,0,by omega,rfl,rfl,by omega,Below.refl _ _,World.ownsRow_nil _ _ _ _⟩
 case round =>
  obtain⟨t,f,Z,ht,rfl,rfl,BS,Q,H⟩:=hrel;have q7:wr.cell? ⟨w.heap.size,7,none⟩=some (.slice As l cS):=(B.below Q).cell 7;by_cases BT:t<m
  .have BU:t<l:=by omega
   have BV:t<6:=by omega
   have Ay:t<sels.length:=by rw[Bf.out];exact BU
   obtain⟨bs,os,Bl,AL,Ap⟩:=dY (xs:=tv sels) AV (by omega);have qe:wr.cell? ⟨bs,os+t,none⟩=some (.string (str (sels[t]'Ay))):=(Q.cell (p:=⟨bs,os+t,none⟩) AL).trans (Ap t _ (by simp[tv,Ay]));have Az:=BK (sels[t]'Ay) (List.getElem_mem _);have HS:=eA (fewT_snoc sels t Ay);generalize sels[t]'Ay=st at *;rw[Bl] at q7;have j0:(0:Int)<=(t:Int):=by omega
   have j1:(t:Int)<(l:Int):=by omega
   have j2:(t:Int)<6:=by omega
   have AM:t+1<=maxLen:=by unfold maxLen;omega
   have Ae:W3.heap.size<=wr.heap.size:=Q.size;clear Ap Bl;go_wp2_with fail
   refine(eW st Az wr).mono ?_;rintro e w' ⟨rfl,rfl⟩;go_wp2_with (at_builtin;go_must (refine bi rfl (.tmp 36) (.tmp 44) 25 rfl W3.heap.size i0 (.string ⟨#[]⟩) 16 underlying25 hi BN BO AK rfl _ _ _ rfl H rfl rfl AM (by omega) Ae ?_))
   intro A' c' w6 F A0 Bm Ac;have A3:=bC Q Ac Ae H eH;rw[HS.out] at F;clear H Ac Q;go_wp2;go_roundw
   case rel=>exact⟨t+1,A',c',by omega,by go_num,rfl,A0,A3,F⟩
   case measure=>simp[intOf];omega
  .have BW:t=m:=by omega
   subst BW;have AW:wr.frozen? ⟨w.heap.size,7,none⟩=false:=(B.below Q).froz 7;have y:w.heap.size<wr.heap.size:=(B.below Q).lt;have AN:=T.and_below Q;have BX:=B.below Q;have AO:=S.below Q;clear B S T AV;have A4:wr.ownsRow W3.heap.size 9 1 (.slice f t Z) t (fewT sels t):=H;have Bn:Blk (wr.setCell ⟨w.heap.size,7,none⟩ (.slice f t Z)) w.heap.size (oc I n (Led.few name) z (Led.few path) (Led.few C) R (.slice f t Z) D jname jexp J E nkey nexp nseq ndoc N G state since O num (.slice Ak U cK)) 47:=BX.set 7 (.slice f t Z);have K:=AO.set_ne (p:=⟨w.heap.size,7,none⟩) (by simp) (.slice f t Z);have L:=AN.setCell (p:=⟨w.heap.size,7,none⟩) (.inl (by simp)) (.slice f t Z);have A5:=ownsRow_setCell_below A4 (a:=⟨w.heap.size,7,none⟩) (by exact X) (.slice f t Z);have A6:t<l->6<=t:=fun h=>by have:=HM.out h;omega
   have Cu:=eA A6;clear Q BX AO AN H;have AX:(t<l/\6<=t)\/l<=t:=by
    rcases Nat.lt_or_ge t l with hd|hd
    .exact .inl ⟨hd,A6 hd⟩
    .exact .inr hd
   have Bo:=eA (show t=min l 6 from BQ.out.symm);have Bp:t<=Z:=BS;have BV:t<=6:=Bk;clear A6 BP ht BT A4 Bk;rcases AX with⟨hd,BY⟩|hd
   all_goals
    go_upto_region 10 with fail
    generalize wr.setCell ⟨w.heap.size,7,none⟩ (.slice f t Z)=W4 at *;clear q7 AW y hd;have B:=Bn;have S:=K;have T:=L;have H:=A5;clear Bn K L A5;have q:W4.cell? ⟨w.heap.size,8,none⟩=some (.string (str D)):=B.cell 8;have qf:W4.frozen? ⟨w.heap.size,8,none⟩=false:=B.froz 8;have y:=B.lt;go_wp2_with fail
    refine(eW D Au W4).mono ?_;rintro e w' ⟨rfl,rfl⟩;go_upto_region 11 with fail
    have B':Blk (W4.setCell ⟨w.heap.size,8,none⟩ (.string (str (Led.few D)))) w.heap.size (oc I n (Led.few name) z (Led.few path) (Led.few C) R (.slice f t Z) (Led.few D) jname jexp J E nkey nexp nseq ndoc N G state since O num (.slice Ak U cK)) 47:=B.set 8 (.string (str (Led.few D)));have K:=S.set_ne (p:=⟨w.heap.size,8,none⟩) (by simp) (.string (str (Led.few D)));have L:=T.setCell (p:=⟨w.heap.size,8,none⟩) (.inl (by simp)) (.string (str (Led.few D)));have F:=ownsRow_setCell_below H (a:=⟨w.heap.size,8,none⟩) (by exact X) (.string (str (Led.few D)));generalize W4.setCell ⟨w.heap.size,8,none⟩ (.string (str (Led.few D)))=W5 at *;clear B S T H q qf y;have B:=B';have S:=K;have T:=L;have H:=F;clear B' K L F;have q:W5.cell? ⟨w.heap.size,9,none⟩=some (.string (str jname)):=B.cell 9;have qf:W5.frozen? ⟨w.heap.size,9,none⟩=false:=B.froz 9;have y:=B.lt;go_wp2_with fail
    refine(eW jname Av W5).mono ?_;rintro e w' ⟨rfl,rfl⟩;go_upto_region 12 with fail
    have B':Blk (W5.setCell ⟨w.heap.size,9,none⟩ (.string (str (Led.few jname)))) w.heap.size (oc I n (Led.few name) z (Led.few path) (Led.few C) R (.slice f t Z) (Led.few D) (Led.few jname) jexp J E nkey nexp nseq ndoc N G state since O num (.slice Ak U cK)) 47:=B.set 9 (.string (str (Led.few jname)));have K:=S.set_ne (p:=⟨w.heap.size,9,none⟩) (by simp) (.string (str (Led.few jname)));have L:=T.setCell (p:=⟨w.heap.size,9,none⟩) (.inl (by simp)) (.string (str (Led.few jname)));have F:=ownsRow_setCell_below H (a:=⟨w.heap.size,9,none⟩) (by exact X) (.string (str (Led.few jname)));generalize W5.setCell ⟨w.heap.size,9,none⟩ (.string (str (Led.few jname)))=W6 at *;clear B S T H q qf y;have B:=B';have S:=K;have T:=L;have H:=F;clear B' K L F;have q:W6.cell? ⟨w.heap.size,12,none⟩=some (.string (str E)):=B.cell 12;have qf:W6.frozen? ⟨w.heap.size,12,none⟩=false:=B.froz 12;have y:=B.lt;go_wp2_with fail
    refine(eW E Aw W6).mono ?_;rintro e w' ⟨rfl,rfl⟩;go_upto_region 13 with fail
    have B':Blk (W6.setCell ⟨w.heap.size,12,none⟩ (.string (str (Led.few E)))) w.heap.size (oc I n (Led.few name) z (Led.few path) (Led.few C) R (.slice f t Z) (Led.few D) (Led.few jname) jexp J (Led.few E) nkey nexp nseq ndoc N G state since O num (.slice Ak U cK)) 47:=B.set 12 (.string (str (Led.few E)));have K:=S.set_ne (p:=⟨w.heap.size,12,none⟩) (by simp) (.string (str (Led.few E)));have L:=T.setCell (p:=⟨w.heap.size,12,none⟩) (.inl (by simp)) (.string (str (Led.few E)));have F:=ownsRow_setCell_below H (a:=⟨w.heap.size,12,none⟩) (by exact X) (.string (str (Led.few E)));generalize W6.setCell ⟨w.heap.size,12,none⟩ (.string (str (Led.few E)))=W7 at *;clear B S T H q qf y;have B:=B';have S:=K;have T:=L;have H:=F;clear B' K L F;have q:W7.cell? ⟨w.heap.size,13,none⟩=some (.string (str nkey)):=B.cell 13;have qf:W7.frozen? ⟨w.heap.size,13,none⟩=false:=B.froz 13;have y:=B.lt;go_wp2_with fail
    refine(eW nkey AH W7).mono ?_;rintro e w' ⟨rfl,rfl⟩;go_upto_region 14 with fail
    have B':Blk (W7.setCell ⟨w.heap.size,13,none⟩ (.string (str (Led.few nkey)))) w.heap.size (oc I n (Led.few name) z (Led.few path) (Led.few C) R (.slice f t Z) (Led.few D) (Led.few jname) jexp J (Led.few E) (Led.few nkey) nexp nseq ndoc N G state since O num (.slice Ak U cK)) 47:=B.set 13 (.string (str (Led.few nkey)));have K:=S.set_ne (p:=⟨w.heap.size,13,none⟩) (by simp) (.string (str (Led.few nkey)));have L:=T.setCell (p:=⟨w.heap.size,13,none⟩) (.inl (by simp)) (.string (str (Led.few nkey)));have F:=ownsRow_setCell_below H (a:=⟨w.heap.size,13,none⟩) (by exact X) (.string (str (Led.few nkey)));generalize W7.setCell ⟨w.heap.size,13,none⟩ (.string (str (Led.few nkey)))=W8 at *;clear B S T H q qf y;have B:=B';have S:=K;have T:=L;have H:=F;clear B' K L F;have q:W8.cell? ⟨w.heap.size,16,none⟩=some (.string (str ndoc)):=B.cell 16;have qf:W8.frozen? ⟨w.heap.size,16,none⟩=false:=B.froz 16;have y:=B.lt;go_wp2_with fail
    refine(eW ndoc AI W8).mono ?_;rintro e w' ⟨rfl,rfl⟩;go_upto_region 15 with fail
    have B':Blk (W8.setCell ⟨w.heap.size,16,none⟩ (.string (str (Led.few ndoc)))) w.heap.size (oc I n (Led.few name) z (Led.few path) (Led.few C) R (.slice f t Z) (Led.few D) (Led.few jname) jexp J (Led.few E) (Led.few nkey) nexp nseq (Led.few ndoc) N G state since O num (.slice Ak U cK)) 47:=B.set 16 (.string (str (Led.few ndoc)));have K:=S.set_ne (p:=⟨w.heap.size,16,none⟩) (by simp) (.string (str (Led.few ndoc)));have L:=T.setCell (p:=⟨w.heap.size,16,none⟩) (.inl (by simp)) (.string (str (Led.few ndoc)));have F:=ownsRow_setCell_below H (a:=⟨w.heap.size,16,none⟩) (by exact X) (.string (str (Led.few ndoc)));generalize W8.setCell ⟨w.heap.size,16,none⟩ (.string (str (Led.few ndoc)))=W9 at *;clear B S T H q qf y;have B:=B';have S:=K;have T:=L;have H:=F;clear B' K L F;have q:W9.cell? ⟨w.heap.size,17,none⟩=some (.string (str N)):=B.cell 17;have qf:W9.frozen? ⟨w.heap.size,17,none⟩=false:=B.froz 17;have y:=B.lt;go_wp2_with fail
    refine(eW N AT W9).mono ?_;rintro e w' ⟨rfl,rfl⟩;go_upto_region 16 with fail
    have B':Blk (W9.setCell ⟨w.heap.size,17,none⟩ (.string (str (Led.few N)))) w.heap.size (oc I n (Led.few name) z (Led.few path) (Led.few C) R (.slice f t Z) (Led.few D) (Led.few jname) jexp J (Led.few E) (Led.few nkey) nexp nseq (Led.few ndoc) (Led.few N) G state since O num (.slice Ak U cK)) 47:=B.set 17 (.string (str (Led.few N)));have K:=S.set_ne (p:=⟨w.heap.size,17,none⟩) (by simp) (.string (str (Led.few N)));have L:=T.setCell (p:=⟨w.heap.size,17,none⟩) (.inl (by simp)) (.string (str (Led.few N)));have F:=ownsRow_setCell_below H (a:=⟨w.heap.size,17,none⟩) (by exact X) (.string (str (Led.few N)));generalize W9.setCell ⟨w.heap.size,17,none⟩ (.string (str (Led.few N)))=A7 at *;clear B S T H q qf y;have B:=B';have S:=K;have T:=L;have H:=F;clear B' K L F;have q:A7.cell? ⟨w.heap.size,18,none⟩=some (.string (str G)):=B.cell 18;have qf:A7.frozen? ⟨w.heap.size,18,none⟩=false:=B.froz 18;have y:=B.lt;go_wp2_with fail
    refine(eW G AJ A7).mono ?_;rintro e w' ⟨rfl,rfl⟩;go_upto_region 17 with fail
    have B':Blk (A7.setCell ⟨w.heap.size,18,none⟩ (.string (str (Led.few G)))) w.heap.size (oc I n (Led.few name) z (Led.few path) (Led.few C) R (.slice f t Z) (Led.few D) (Led.few jname) jexp J (Led.few E) (Led.few nkey) nexp nseq (Led.few ndoc) (Led.few N) (Led.few G) state since O num (.slice Ak U cK)) 47:=B.set 18 (.string (str (Led.few G)));have K:=S.set_ne (p:=⟨w.heap.size,18,none⟩) (by simp) (.string (str (Led.few G)));have L:=T.setCell (p:=⟨w.heap.size,18,none⟩) (.inl (by simp)) (.string (str (Led.few G)));have F:=ownsRow_setCell_below H (a:=⟨w.heap.size,18,none⟩) (by exact X) (.string (str (Led.few G)));generalize A7.setCell ⟨w.heap.size,18,none⟩ (.string (str (Led.few G)))=A8 at *;clear B S T H q qf y;have B:=B';have S:=K;have T:=L;have H:=F;clear B' K L F;have q:A8.cell? ⟨w.heap.size,21,none⟩=some (.string (str O)):=B.cell 21;have qf:A8.frozen? ⟨w.heap.size,21,none⟩=false:=B.froz 21;have y:=B.lt;go_wp2_with fail
    refine(eW O AU A8).mono ?_;rintro e w' ⟨rfl,rfl⟩;go_upto_region 18 with fail
    have B':Blk (A8.setCell ⟨w.heap.size,21,none⟩ (.string (str (Led.few O)))) w.heap.size (oc I n (Led.few name) z (Led.few path) (Led.few C) R (.slice f t Z) (Led.few D) (Led.few jname) jexp J (Led.few E) (Led.few nkey) nexp nseq (Led.few ndoc) (Led.few N) (Led.few G) state since (Led.few O) num (.slice Ak U cK)) 47:=B.set 21 (.string (str (Led.few O)));have K:=S.set_ne (p:=⟨w.heap.size,21,none⟩) (by simp) (.string (str (Led.few O)));have L:=T.setCell (p:=⟨w.heap.size,21,none⟩) (.inl (by simp)) (.string (str (Led.few O)));have F:=ownsRow_setCell_below H (a:=⟨w.heap.size,21,none⟩) (by exact X) (.string (str (Led.few O)));generalize A8.setCell ⟨w.heap.size,21,none⟩ (.string (str (Led.few O)))=V at *;clear B S T H q qf y;have B:=B';have S:=K;have T:=L;have H:=F;clear B' K L F;have AR:eF w V:=Ao.trans (T.below' Ao.size (by simp));have Ai:Vs V V.heap.size 2 Ak U (jv M):=(Vs.below BM.out AR).mono AR.size;have A9:=B.lt;have BJ:w.heap.size+1<V.heap.size:=S.lt;have Bq:=eA (show M.length=U by have:=Ai.len;rw[jO] at this;omega)
    obtain⟨m2,Br⟩:=eC (min U 9);have Bt:m2<=U:=by omega
    have BZ:m2<=9:=by omega
    have Ca:=eA (show m2<U->m2=9 by omega);have Bu:=eA Br;clear Br;go_wp2_with fail
    go_loopw [5,6,7] (fun v i _ wx=>∃(u:Nat) (A:Option Addr) (c:Nat) (KK:List Jwk),u<=m2/\i=.int .i64 (u:Int)/\v=.slice A u c/\u<=c/\eF V wx/\wx.ownsRow V.heap.size 54 2 (.slice A u c) u (jv KK)/\dZ (fun x r=>r=Sha.cm x) (M.take u) KK) (fun _ i _ _=>9-(intOf i).toNat)
    case atStart=>exact⟨0,none,0,[],by omega,rfl,rfl,by omega,Below.refl _ _,World.ownsRow_nil _ _ _ _,trivial⟩
    case round =>
     obtain⟨u,A2,c2,KK,hu,rfl,rfl,Cb,Q,Aa,Bv⟩:=hrel;have AY:=eA Bv;clear Bv;have q7:wr.cell? ⟨w.heap.size,23,none⟩=some (.slice Ak U cK):=(B.below Q).cell 23;by_cases Cc:u<m2
     .have Cd:u<U:=by omega
      have Cv:u<9:=by omega
      have Ad:u<M.length:=by rw[Bq.out];exact Cd
      have Ce:(jv M).length=U*2:=Ai.len;have AK:0<(jv M).length:=by omega
      have AP:∃bk ok,Ak=some ⟨bk,ok,none⟩/\bk<V.heap.size/\∀j x,(jv M)[j]?=some x->V.cell? ⟨bk,ok+j,none⟩=some x:=by
       have c0:=(Ai.rd 0 _ (List.getElem?_eq_getElem AK));obtain⟨ad,e,hb,Cf⟩:=c0;have Bw:=World.cell?_spot Cf;obtain⟨bk,ok,sp⟩:=ad;simp[Addr.add] at Bw
       subst Bw;refine⟨bk,ok,e,hb,fun j x hj=>?_⟩;obtain⟨Cw,e',_,Bx⟩:=Ai.rd j x hj;rw[e] at e';injection e' with e'
       subst e';have:(⟨bk,ok,none⟩:Addr).add j=⟨bk,ok+j,none⟩:=by
        unfold Addr.add;split<;>simp_all
       rw[this] at Bx;exact Bx
      obtain⟨bk,ok,By,AZ,Ap⟩:=AP;have Bz:wr.cell? ⟨bk,ok+u*2,none⟩=some (.string (str (M[u]'Ad).kid)):=(Q.cell (p:=⟨bk,ok+u*2,none⟩) AZ).trans (Ap _ _ (vb Ad));have B0:wr.cell? ⟨bk,ok+u*2+1,none⟩=some (.string (str (M[u]'Ad).x)):=(Q.cell (p:=⟨bk,ok+u*2+1,none⟩) AZ).trans (by rw[Nat.add_assoc];exact Ap _ _ (va Ad))
      have Az:=BL (M[u]'Ad) (List.getElem_mem _);have HS:=eA (show M.take (u+1)=M.take u++[M[u]'Ad] by rw[List.take_add_one,List.getElem?_eq_getElem Ad];rfl)
      generalize M[u]'Ad=kk at *;rw[By] at q7;have j0:(0:Int)<=(u:Int):=by omega
      have j1:(u:Int)<(U:Int):=by omega
      have j2:(u:Int)<9:=by omega
      have Cg:=eA Az.1;have Ch:=eA Az.2;have B1:w.heap.size<wr.heap.size:=Nat.lt_of_lt_of_le A9 Q.size;have AS:bk<wr.heap.size:=Nat.lt_of_lt_of_le AZ Q.size;clear Ap By Az Ce AK;go_wp2_with fail
      have f1:∀p,(ab wr p).cell? ⟨w.heap.size,23,none⟩=some (.slice (some ⟨bk,ok,none⟩) U cK):=fun p=>(ap B1 p).trans q7;have f2:∀p,(ab wr p).cell? ⟨bk,ok+u*2,none⟩=some (.string (str kk.kid)):=fun p=>(ap AS p).trans Bz;have f3:∀p,(ab wr p).cell? ⟨bk,ok+u*2+1,none⟩=some (.string (str kk.x)):=fun p=>(ap AS p).trans B0;refine eh [([0,1,2,3,4,5,6],7,[],fun v _=>v=.string (str (Led.few kk.kid))),([8,9,10,11,12,13,14],15,[],fun v _=>v=.string (str (Led.few kk.x))),([16],17,[],fun v w'=>∃g,wr.heap.size<=g/\v=.pointer (some ⟨g,0,none⟩)/\Blk w' g [.string ⟨#[]⟩,.string ⟨#[]⟩] 54)] [18] (by kernel_rfl) (by kernel_rfl) (by
       intro x hx;simp only[List.mem_cons,List.not_mem_nil,or_false] at hx;rcases hx with rfl|rfl|rfl
       .exact ao fun v w w' hb h=>h
       .exact ao fun v w w' hb h=>h
       .exact ao fun v w w' hb ⟨g,e0,e,h⟩=>⟨g,e0,e,h.below hb⟩) ?_
      refine aI ?_;simp only[pick,List.getD_cons_zero,List.getD_cons_succ];repeat (go_big_quiet_step (fail))
      refine wpQuiet_nil ?_;refine⟨_,rfl,rfl,⟨_,wr,rfl⟩,?_,?_⟩
      .intro w5 Ci _
       go_simp
       exact⟨rfl,(few_q kk.kid Cg.out w5).mono fun _ _ ⟨he,hb⟩=>⟨_,he,GR.of hb,rfl⟩⟩
      rintro v1 ⟨_,rfl⟩;refine aI ?_;simp only[pick,List.getD_cons_zero,List.getD_cons_succ,List.getElem_toArray,List.getElem_cons_succ,List.getElem_cons_zero,Act.put,List.setIfInBounds_toArray,List.set_cons_zero,List.set_cons_succ];repeat (go_big_quiet_step (fail))
      refine wpQuiet_nil ?_;refine⟨_,rfl,rfl,⟨_,wr,rfl⟩,?_,?_⟩
      .intro w5 Ci _
       go_simp
       exact⟨rfl,(few_q kk.x Ch.out w5).mono fun _ _ ⟨he,hb⟩=>⟨_,he,GR.of hb,rfl⟩⟩
      rintro v2 ⟨_,rfl⟩;refine aI ?_;simp only[pick,List.getD_cons_zero,List.getD_cons_succ,List.getElem_toArray,List.getElem_cons_succ,List.getElem_cons_zero,Act.put,List.setIfInBounds_toArray,List.set_cons_zero,List.set_cons_succ];repeat (go_big_quiet_step (fail))
      refine wpQuiet_nil ?_;refine⟨_,rfl,rfl,⟨_,_,_,eH,rfl,Blk.new wr [.string ⟨#[]⟩,.string ⟨#[]⟩] _⟩,?_,?_⟩
      .intro w1 Cj _
       have Ck:=Cj.below.size;go_simp
       exact⟨GR.of eI,w1.heap.size,Ck,rfl,Blk.new w1 [.string ⟨#[]⟩,.string ⟨#[]⟩] _⟩
      .rintro v-w6 B2 ⟨⟨d,B3,rfl,Af⟩,_⟩
       have A3:=B2.below;have Ax:eF V w6:=Q.trans (A3.mono Q.size);have AA:=mJ Aa A3;have Ba:(Value.slice A2 u c2).ownBlock≠some d:=fun e=>by have:=(Aa.lt d e).2;omega
       have Bb:V.heap.size<=d:=Nat.le_trans Q.size B3;generalize hfk:Led.few kk.kid=fk at *;generalize hfx:Led.few kk.x=Y at *;have B4:=eA hfk;have AQ:=eA hfx;clear hfk hfx;have x0:w6.cell? ⟨d,0,none⟩=some (.string ⟨#[]⟩):=Af.cell 0;have x1:w6.cell? ⟨d,1,none⟩=some (.string ⟨#[]⟩):=Af.cell 1;have y0:w6.frozen? ⟨d,0,none⟩=false:=Af.froz 0;have y1:w6.frozen? ⟨d,1,none⟩=false:=Af.froz 1;have xl:=Af.lt;clear f1 f2 f3 q7 Bz B0 B2 A3 Aa Q B3;go_upto_region 23 with fail
       have B7:Blk ((w6.setCell ⟨d,0,none⟩ (.string (str fk))).setCell ⟨d,1,none⟩ (.string (str Y))) d [.string (str fk),.string (str Y)] 54:=(Af.set 0 (.string (str fk))).set 1 (.string (str Y));have Aq:=(Ax.setCell (p:=⟨d,0,none⟩) Bb (.string (str fk))).setCell (p:=⟨d,1,none⟩) Bb (.string (str Y));have Ab:=ku (ku AA (p:=⟨d,0,none⟩) (.string (str fk)) Ba) (p:=⟨d,1,none⟩) (.string (str Y)) Ba;generalize (w6.setCell ⟨d,0,none⟩ (.string (str fk))).setCell ⟨d,1,none⟩ (.string (str Y))=w7 at *;clear x0 x1 y0 y1 xl Af Ax AA;have x0:w7.cell? ⟨d,0,none⟩=some (.string (str fk)):=B7.cell 0;have x1:w7.cell? ⟨d,1,none⟩=some (.string (str Y)):=B7.cell 1;have y0:w7.frozen? ⟨d,0,none⟩=false:=B7.froz 0;have xl:=B7.lt;have AM:u+1<=maxLen:=by unfold maxLen;omega
       have Ae:V.heap.size<=w7.heap.size:=Aq.size;by_cases Ar:fk=[]
       .subst Ar
        have B5:str []=⟨#[]⟩:=rfl;rw[B5] at x0;obtain⟨wc,cc,Cl,AL,Bc⟩:=ji Y w7;have Cm:Y.length<=1000000:=by have:=Led.pV kk.x;rw[AQ.out] at this;omega
        have B6:=eA (th (some ⟨w7.heap.size,0,none⟩) Y.length cc Y wc AL Cm);rw[B5];go_wp2_with fail
        refine B6.out.mono ?_;rintro e wn ⟨rfl,B8⟩;have Aj:=Bc.trans (B8.mono Bc.size);have B9:=B7.below Aj;have BA:=Aq.trans (Aj.mono Aq.size);have Al:=mJ Ab Aj;have Cn:=eA (rfl:Sha.cm Y=Sha.cm Y);generalize hgn:Sha.cm Y=fn at *;have Co:=eA hgn;clear hgn Cn Cl AL Bc B8 Aj Ab Aq B7 x0 x1 y0 xl Ae B6;have x0:wn.cell? ⟨d,0,none⟩=some (.string (str [])):=B9.cell 0;have y0:wn.frozen? ⟨d,0,none⟩=false:=B9.froz 0;have xl:=B9.lt;go_upto_region 25 with fail
        have BB:Blk (wn.setCell ⟨d,0,none⟩ (.string (str fn))) d [.string (str fn),.string (str Y)] 54:=B9.set 0 (.string (str fn));have AB:=BA.setCell (p:=⟨d,0,none⟩) Bb (.string (str fn));have Ag:=ku Al (p:=⟨d,0,none⟩) (.string (str fn)) Ba;generalize wn.setCell ⟨d,0,none⟩ (.string (str fn))=wy at *;clear x0 y0 xl B9 BA Al;have x0:wy.cell? ⟨d,0,none⟩=some (.string (str fn)):=BB.cell 0;have x1:wy.cell? ⟨d,1,none⟩=some (.string (str Y)):=BB.cell 1;have Ae:V.heap.size<=wy.heap.size:=AB.size;have AC:Vs (wy.alloc (.cells #[.string (str fn),.string (str Y)] 54)) (wy.alloc (.cells #[.string (str fn),.string (str Y)] 54)).heap.size 2 (some ⟨wy.heap.size,0,none⟩) 1 [.string (str fn),.string (str Y)] :=
         ⟨rfl,fun j q hj=>⟨_,rfl,by simp,by rw[aZ];exact((Blk.new wy [.string (str fn),.string (str Y)] 54).cell j).trans hj⟩⟩
        go_wp2_with (at_builtin;go_must (refine aK (wy.alloc (.cells #[.string (str fn),.string (str Y)] 54)) rfl (.tmp 134) (.tmp 136) 43 rfl V.heap.size 54 iJ (.agg #[.string ⟨#[]⟩,.string ⟨#[]⟩]) 2 32 underlying43 Bg Bh Bi Bj rfl (by omega) _ _ _ rfl (Ag.alloc _) _ _ 1 _ _ rfl AC (by intro v hv;simp at hv;rcases hv with rfl|rfl<;>rfl) AM (by omega) (by simp;omega) ?_))
        intro A' c' w8 F A0 Bm Ac;have Bd:eF V w8:=Mem.aH (AB.alloc Ae _) Ac (by simp;omega) (Ag.alloc _)
        have Be:=eA (show dZ (fun x r=>r=Sha.cm x) (M.take (u+1)) (KK++[⟨fn,Y⟩]) by
         rw[HS.out];exact AY.out.snoc ⟨AQ.out.symm,by rw[B4.out,if_pos rfl];show _=_;rw[AQ.out];exact Co.out.symm⟩)
        have Ah:w8.ownsRow V.heap.size 54 2 (.slice A' (u+1) c') (u+1) (jv (KK++[⟨fn,Y⟩])):=by rw[jv_snoc];exact F
        clear Ag Ac AB F AC;go_wp2;go_roundw
        case rel=>exact⟨u+1,A',c',KK++[⟨fn,Y⟩],by omega,by go_num,rfl,A0,Bd,Ah,Be.out⟩
        case measure=>simp[intOf];omega
       .have e1:decide (str fk=⟨#[]⟩)=false:=by simp[str];exact Ar
        have e2:(str fk).toList.isEmpty=false:=by rw[nZ];simpa using Ar
        have e3:fk.isEmpty=false:=by simpa using Ar
        have e4:(fk==[])=false:=by simpa using Ar
        have AC:Vs (w7.alloc (.cells #[.string (str fk),.string (str Y)] 54)) (w7.alloc (.cells #[.string (str fk),.string (str Y)] 54)).heap.size 2 (some ⟨w7.heap.size,0,none⟩) 1 [.string (str fk),.string (str Y)] :=
         ⟨rfl,fun j q hj=>⟨_,rfl,by simp,by rw[aZ];exact((Blk.new w7 [.string (str fk),.string (str Y)] 54).cell j).trans hj⟩⟩
        go_wp2_with (at_builtin;go_must (refine aK (w7.alloc (.cells #[.string (str fk),.string (str Y)] 54)) rfl (.tmp 134) (.tmp 136) 43 rfl V.heap.size 54 iJ (.agg #[.string ⟨#[]⟩,.string ⟨#[]⟩]) 2 32 underlying43 Bg Bh Bi Bj rfl (by omega) _ _ _ rfl (Ab.alloc _) _ _ 1 _ _ rfl AC (by intro v hv;simp at hv;rcases hv with rfl|rfl<;>rfl) AM (by omega) (by simp;omega) ?_))
        intro A' c' w8 F A0 Bm Ac;have Bd:eF V w8:=Mem.aH (Aq.alloc Ae _) Ac (by simp;omega) (Ab.alloc _)
        have Be:=eA (show dZ (fun x r=>r=Sha.cm x) (M.take (u+1)) (KK++[⟨fk,Y⟩]) by
         rw[HS.out];exact AY.out.snoc ⟨AQ.out.symm,by rw[B4.out,if_neg Ar]⟩)
        have Ah:w8.ownsRow V.heap.size 54 2 (.slice A' (u+1) c') (u+1) (jv (KK++[⟨fk,Y⟩])):=by rw[jv_snoc];exact F
        clear Ab Ac Aq F AC;go_wp2;go_roundw
        case rel=>exact⟨u+1,A',c',KK++[⟨fk,Y⟩],by omega,by go_num,rfl,A0,Bd,Ah,Be.out⟩
        case measure=>simp[intOf];omega
     .have Cq:u=m2:=by omega
      subst Cq;have AX:(u<U/\9<=u)\/U<=u:=by
       rcases Nat.lt_or_ge u U with hd|hd
       .exact .inl ⟨hd,by have:=Ca.out hd;omega⟩
       .exact .inr hd
      have BX:Blk (wr.setCell ⟨w.heap.size,23,none⟩ (.slice A2 u c2)) w.heap.size (oc I n (Led.few name) z (Led.few path) (Led.few C) R (.slice f t Z) (Led.few D) (Led.few jname) jexp J (Led.few E) (Led.few nkey) nexp nseq (Led.few ndoc) (Led.few N) (Led.few G) state since (Led.few O) num (.slice A2 u c2)) 47:=(B.below Q).set 23 (.slice A2 u c2);have AO:=(S.below Q).set_ne (p:=⟨w.heap.size,23,none⟩) (by simp) (.slice A2 u c2);have AN:=(T.and_below Q).setCell (p:=⟨w.heap.size,23,none⟩) (.inl (by simp)) (.slice A2 u c2);have AW:wr.frozen? ⟨w.heap.size,23,none⟩=false:=(B.below Q).froz 23;have y:w.heap.size<wr.heap.size:=(B.below Q).lt;have BC:=ownsRow_setCell_below (mJ H Q) (a:=⟨w.heap.size,23,none⟩) (by exact X) (.slice A2 u c2);have BD:=ownsRow_setCell_below Aa (a:=⟨w.heap.size,23,none⟩) (by exact A9) (.slice A2 u c2);have HU:=eA (show min U 9=u from Bu.out);clear H Aa Q Cc hu Bt BZ;rcases AX with⟨hd,BY⟩|hd
      all_goals
       go_upto_region 27 with fail
       generalize wr.setCell ⟨w.heap.size,23,none⟩ (.slice A2 u c2)=Cr at *;clear q7 AW y;obtain⟨s1,s2⟩:=store_op AO rfl (vs:=oc I n (Led.few name) z (Led.few path) (Led.few C) R (.slice f t Z) (Led.few D) (Led.few jname) jexp J (Led.few E) (Led.few nkey) nexp nseq (Led.few ndoc) (Led.few N) (Led.few G) state since (Led.few O) num (.slice A2 u c2)) rfl (oc_one _ _ _ _ _ _ _ _ _ _ _ _ _ _ _ _ _ _ _ _ _ _ _ _ _ _ _ _);have BE:=eS BX rfl;have AD:=js (oc I n (Led.few name) z (Led.few path) (Led.few C) R (.slice f t Z) (Led.few D) (Led.few jname) jexp J (Led.few E) (Led.few nkey) nexp nseq (Led.few ndoc) (Led.few N) (Led.few G) state since (Led.few O) num (.slice A2 u c2)) BC (g:=w.heap.size+1) (k:=0) (by omega);have AE:=js (oc I n (Led.few name) z (Led.few path) (Led.few C) R (.slice f t Z) (Led.few D) (Led.few jname) jexp J (Led.few E) (Led.few nkey) nexp nseq (Led.few ndoc) (Led.few N) (Led.few G) state since (Led.few O) num (.slice A2 u c2)) BD (g:=w.heap.size+1) (k:=0) (by omega);have BF:=(AN.mono (S':=[w.heap.size,w.heap.size+1]) (by simp)).setCells (oc I n (Led.few name) z (Led.few path) (Led.few C) R (.slice f t Z) (Led.few D) (Led.few jname) jexp J (Led.few E) (Led.few nkey) nexp nseq (Led.few ndoc) (Led.few N) (Led.few G) state since (Led.few O) num (.slice A2 u c2)) (b:=w.heap.size+1) (o:=0) (.inl (by simp));generalize Cr.setCells (w.heap.size+1) 0 (oc I n (Led.few name) z (Led.few path) (Led.few C) R (.slice f t Z) (Led.few D) (Led.few jname) jexp J (Led.few E) (Led.few nkey) nexp nseq (Led.few ndoc) (Led.few N) (Led.few G) state since (Led.few O) num (.slice A2 u c2))=wf at *;have Cs:eF w wf:=Ao.trans (BF.below' Ao.size (by simp));have BG:wf.ownsRow w.heap.size 9 1 (.slice f t Z) t (tv ((sels.take 6).map Led.few)):=by
        have h1:=aG (b':=w.heap.size) AD (by omega);have e:sels.take 6=sels.take t:=by
         have hl:=Bf.out;have Cx:=Bo.out;rcases Nat.le_total l 6 with h|h
         .rw [List.take_of_length_le (by omega),List.take_of_length_le (by omega)]
         .rw [show t=6 by omega]
        rw[e];exact h1
       have BH:=aG (b':=w.heap.size) AE (by omega);have BI:dZ (fun x r=>r=Sha.cm x) (M.take 9) KK:=by
        have hl:=Bq.out;have Cy:=HU.out;have e:M.take 9=M.take u:=by
         rcases Nat.le_total U 9 with h|h
         .rw [List.take_of_length_le (by omega),List.take_of_length_le (by omega)]
         .rw [show u=9 by omega]
        rw[e];exact AY.out
       have hH:=s2.has (n:=24) rfl;have hA:=s2.arr (n:=24) rfl;have Am:=eA (And.intro BG (And.intro BH (And.intro BI Cs)));clear BG BH BI AD AE BF;unfold oc at s1 BE;simp only[List.toArray] at s1 BE;go_wp2;refine bodyPost_ret (dA (P:=prog) Tryz.results13 _ _ (w.heap.size+1) 0 24 _ rfl underlying47 rfl kn hH) rfl ?_;rw[<-Bo.out,HU.out];exact⟨f,Z,A2,c2,KK,by rw[hA];rfl,Bp,Cb,Am.out.1,Am.out.2.1,Am.out.2.2.1,Am.out.2.2.2⟩
end
section
open Go.RowKit Mem Led
def aN(k:Led.Jwk):List Value:=[tx k.kid,tx k.x]
def ae(n:Led.Node):List Value:=[tx n.name,tx n.key,nm n.expires,nm n.seq,tx n.doc]
def vq(j:Led.Join):List Value:=[tx j.text,tx j.name,nm j.expires,.bool j.used]
def ar(k:Led.Key):List Value:=[tx k.kid,tx k.seed,nm k.state,nm k.since]
def jwkEq(a b:Led.Jwk):Bool:=a.kid==b.kid&&a.x==b.x
def qQ(a b:Led.Node):Bool:=a.name==b.name&&a.key==b.key&&a.expires==b.expires&&a.seq==b.seq&&a.doc==b.doc
def ru(a b:Led.Join):Bool:=a.text==b.text&&a.name==b.name&&a.expires==b.expires&&a.used==b.used
def keyEq(a b:Led.Key):Bool:=a.kid==b.kid&&a.seed==b.seed&&a.state==b.state&&a.since==b.since
theorem tD{a b:Led.Jwk}:jwkEq a b=true↔a=b:=by
 cases a;cases b;simp[jwkEq]
theorem qP{a b:Led.Node}:qQ a b=true↔a=b:=by
 cases a;cases b;simp[qQ,and_assoc]
theorem rr{a b:Led.Join}:ru a b=true↔a=b:=by
 cases a;cases b;simp[ru,and_assoc]
theorem tC{a b:Led.Key}:keyEq a b=true↔a=b:=by
 cases a;cases b;simp[keyEq,and_assoc]
theorem neq_jwk(a b:Led.Jwk)(w:World):(Go.binOp .neq 54 (.agg (aN a).toArray) (.agg (aN b).toArray)).run prog w=.ok (.bool (!jwkEq a b)) w:=by
 have u3:=underlying9
 have A:prog.underlying 54=some (.struct (prog.fieldsOf 54)):=by kernel_rfl
 have B:prog.stoodInHeld 54=false:=by kernel_rfl
 unfold jwkEq
 simp only[aN,tx]
 rw[run_neq_struct,show (10000:Nat)=9999+1 from rfl,run_equalIn_agg w 9999 54 _ _ A B]
 simp only[Program.fieldsOf,underlying54]
 go_simp
 by_cases C:a.kid=b.kid<;>by_cases D:a.x=b.x<;>simp[C,D]
end
section
namespace Ids
abbrev Txt:=List UInt8
def small(c:UInt8):Bool:=decide (97<=c.toNat/\c.toNat<=122)
def digit(c:UInt8):Bool:=decide (48<=c.toNat/\c.toNat<=57)
def inner(c:UInt8):Bool:=small c||digit c||c==46||c==45
def named(c:UInt8):Bool:=inner c||decide (65<=c.toNat/\c.toNat<=90)||c==95
def seen(c:UInt8):Bool:=decide (33<=c.toNat/\c.toNat<=126)
def bG(p:UInt8->Bool)(l:Txt):Bool:=l.all p&&!l.isEmpty
def ig(c:UInt8):Bool:=c==46||c==45
def edged(l:Txt):Bool:=(l.head?.map ig).getD false||(l.getLast?.map ig).getD false
def domain(l:Txt):Bool:=decide (l.length<=16)&&bG inner l&&!edged l
def iQ(w:Txt):Bool:=bG named w&&!(w==[46])&&!(w==[46,46])
def bd:Txt->List Txt
 | []=>[[]]
 | c::t=>if c=47 then []::bd t else match bd t with
  | []=>[[c]]
  | w::ws=>(c::w)::ws
theorem pieces_ne:∀l,bd l≠[]
 | []=>by simp[bd]
 | c::t=>by
  unfold bd;split
  .simp
  .split<;>simp
theorem o6{l:Txt}(h:47∉l):bd l=[l]:=by
 induction l with
 | nil=>rfl
 | cons c t ih =>
  have A:c≠47:=fun e=>h (by simp[e]);have ht:47∉t:=fun e=>h (by simp[e]);unfold bd;rw[if_neg A,ih ht]
theorem qL{l:Txt}(h:47∉l)(r:Txt):bd (l++47::r)=l::bd r:=by
 induction l with
 | nil=>simp[bd]
 | cons c t ih =>
  have A:c≠47:=fun e=>h (by simp[e]);have ht:47∉t:=fun e=>h (by simp[e]);rw[List.cons_append,bd,if_neg A,ih ht]
def em(l:Txt):Bool:=(bd l).all iQ
def path(l:Txt):Bool:=match l with
 | []=>false
 | c::t=>decide (t.length+1<=40)&&c==47&&em t
def fq:Txt:=[47,97,103,101,110,116,47]
def agent(l:Txt):Bool:=fq.isPrefixOf l&&path l&&!(l.drop 7).contains 47
def cM(c:UInt8)(l:Txt):Nat:=(l.takeWhile (· != c)).length
theorem till_le(c:UInt8)(l:Txt):cM c l<=l.length:=by
 unfold cM
 have:=(List.takeWhile_sublist (· != c) (l:=l)).length_le
 exact this
def selector(l:Txt):Bool:=decide (cM 58 l<l.length)&&decide (cM 58 l<=8)&&bG small (l.take (cM 58 l))&&decide (l.length<=cM 58 l+1+16)&&bG seen (l.drop (cM 58 l+1))
theorem nY(c b:UInt8)(l:Txt):cM c (b::l)=if b=c then 0 else cM c l+1:=by
 unfold cM
 by_cases h:b=c
 .simp [h]
 .simp [h]
theorem ge(c:UInt8):∀l:Txt,Lib.indexByte l c=if cM c l<l.length then (cM c l:Int) else -1
 | []=>by simp[Lib.indexByte,cM]
 | b::l=>by
  have ih:=ge c l;unfold Lib.indexByte;rw[nY];by_cases h:b=c
  .simp [h]
  .have B:(b==c)=false:=by simp[h]
   rw[B,if_neg h,List.length_cons];simp only[Bool.false_eq_true,if_false];by_cases A:cM c l<l.length
   .rw [if_pos A] at ih
    rw[ih,if_neg (by simp),if_pos (by omega)];omega
   .rw [if_neg A] at ih
    rw[ih,if_pos (by simp),if_neg (by omega)]
theorem lc{c:UInt8}{a:Txt}(h:c∉a)(r:Txt):cM c (a++c::r)=a.length:=by
 induction a with
 | nil=>simp[cM]
 | cons b t ih =>
  have A:b≠c:=fun e=>h (by simp[e]);have ht:c∉t:=fun e=>h (by simp[e]);rw[List.cons_append,nY,if_neg A,ih ht];simp
theorem s7{c:UInt8}{l:Txt}(h:c∉l):cM c l=l.length:=by
 induction l with
 | nil=>rfl
 | cons b t ih =>
  have A:b≠c:=fun e=>h (by simp[e]);have ht:c∉t:=fun e=>h (by simp[e]);rw[nY,if_neg A,ih ht];simp
theorem till_lt{c:UInt8}{l:Txt}:cM c l<l.length↔c∈l:=by
 constructor
 .intro h
  apply Classical.byContradiction
  intro A;rw[s7 A] at h;omega
 .intro h
  obtain⟨a,r,rfl,B⟩:=List.eq_append_cons_of_mem h;rw[lc B];simp
theorem till_eq{c:UInt8}{l:Txt}{k:Nat}(F:k<=l.length)(C:∀j,j<k->l[j]?≠some c)(D:k<l.length->l[k]?=some c):cM c l=k:=by
 have B:c∉l.take k:=by
  intro E;obtain⟨j,A⟩:=List.mem_iff_getElem?.1 E;rw[List.getElem?_take] at A;split at A
  .rename_i hjk
   exact C j hjk A
  .cases A
 by_cases h:k<l.length
 .have e:l=l.take k++c::l.drop (k+1):=by
   have hx:=D h;rw[List.getElem?_eq_getElem h] at hx;injection hx with hx
   rw[<-hx,<-List.drop_eq_getElem_cons h,List.take_append_drop]
  have:=lc B (l.drop (k+1));rw[<-e,List.length_take] at this;omega
 .have:k=l.length:=by omega
  subst this;rw[List.take_length] at B;exact s7 B
theorem uI(l:Txt):Lib.splitK [47] 0 (l.count 47) l=bd l:=by
 obtain⟨n,B⟩:=eC (l.length)
 induction n using Nat.strongRecOn generalizing l with
 | _ n ih =>
  by_cases h:47∈l
  .obtain⟨a,r,rfl,A⟩:=List.eq_append_cons_of_mem h
   have C:(a++47::r).count 47=r.count 47+1:=by
    rw[List.count_append,List.count_cons_self,List.count_eq_zero.2 A];omega
   have hi:Lib.index (a++47::r) [47]=(a.length:Int):=by
    rw[Lib.index_one,ge,lc A];simp
   rw[C,Lib.splitK,hi,if_neg (by simp),qL A];rw[<-ih r.length (by rw[<-B];simp;omega) r rfl]
   congr 1
   .simp
   .congr 1
    simp
  .rw [List.count_eq_zero.2 h,o6 h]
   rfl
theorem nM{p:UInt8->Bool}:∀{l:Txt},(l.head?.map p).getD false=false->l.dropWhile p=l
 | [],_=>rfl
 | b::l,h=>by
  simp at h
  simp[h]
theorem nI{p:UInt8->Bool}:∀{l:Txt},(l.head?.map p).getD false=true->(l.dropWhile p).length<l.length
 | [],h=>by simp at h
 | b::l,h=>by
  simp at h
  have:=(List.dropWhile_sublist p (l:=l)).length_le;simp[h]
  omega
theorem jf:(fun c=>([46,45]:Txt).contains c)=ig:=by
 funext c
 cases A:(c==46)<;>cases B:(c==45)<;>simp_all [ig]
theorem trim_same(l:Txt):(Lib.trimS l [46,45]=l)↔edged l=false:=by
 have e2:∀l:Txt,Lib.trimLeftS l [46,45]=l.dropWhile ig:=fun l=>by unfold Lib.trimLeftS;rw[jf]
 have e3:∀l:Txt,Lib.trimRightS l [46,45]=(l.reverse.dropWhile ig).reverse:=fun l=>by unfold Lib.trimRightS;rw[jf]
 unfold Lib.trimS edged
 rw[e2,e3]
 have A:(l.getLast?.map ig).getD false=(l.reverse.head?.map ig).getD false:=by rw[List.head?_reverse]
 rw[A]
 cases B:(l.reverse.head?.map ig).getD false
 .rw [nM B,List.reverse_reverse]
  cases C:(l.head?.map ig).getD false
  .rw [nM C]
   simp
  .have:=nI C
   constructor
   .intro e
    rw[e] at this;omega
   .intro e
    simp at e
 .have E:=nI B
  constructor
  .intro e
   have D:=(List.dropWhile_sublist ig (l:=(l.reverse.dropWhile ig).reverse)).length_le;rw[e] at D;simp at E D
   omega
  .intro e
   simp at e
def u6:Txt:=[97,98,99,100,101,102,103,104,105,106,107,108,109,110,111,112,113,114,115,116,117,118,119,120,121,122,48,49,50,51,52,53,54,55,56,57,46,45]
def uZ:Txt:=[97,98,99,100,101,102,103,104,105,106,107,108,109,110,111,112,113,114,115,116,117,118,119,120,121,122,65,66,67,68,69,70,71,72,73,74,75,76,77,78,79,80,81,82,83,84,85,86,87,88,89,90,48,49,50,51,52,53,54,55,56,57,46,45,95]
def uY:Txt:=[97,98,99,100,101,102,103,104,105,106,107,108,109,110,111,112,113,114,115,116,117,118,119,120,121,122]
theorem all_u8{p:UInt8->Bool}(h:(List.range 256).all (fun k=>p (UInt8.ofNat k))=true)(c:UInt8):p c=true:=by
 have:=List.all_eq_true.1 h c.toNat (List.mem_range.2 c.toNat_lt)
 simpa using this
theorem inner_list(c:UInt8):u6.contains c=inner c:=by
 have:=all_u8 (p:=fun c=>u6.contains c==inner c) (by decide +kernel) c
 simpa using this
theorem named_list(c:UInt8):uZ.contains c=named c:=by
 have:=all_u8 (p:=fun c=>uZ.contains c==named c) (by decide +kernel) c
 simpa using this
theorem small_list(c:UInt8):uY.contains c=small c:=by
 have:=all_u8 (p:=fun c=>uY.contains c==small c) (by decide +kernel) c
 simpa using this
theorem dotty_list(c:UInt8):([46,45]:Txt).contains c=ig c:=congrFun jf c
def qN(some:Txt)(most:Nat)(l:Txt):Bool:=l.all (fun c=>some.contains c)&&decide (1<=l.length)&&decide (l.length<=most)
theorem ib(l:Txt):(!l.isEmpty)=decide (1<=l.length):=by cases l<;>simp
theorem of_inner(l:Txt):qN u6 16 l=(decide (l.length<=16)&&bG inner l):=by
 unfold qN bG
 simp only[inner_list,ib]
 cases l.all inner<;>cases decide (1<=l.length)<;>cases decide (l.length<=16)<;>rfl
theorem of_named{l:Txt}(h:l.length<=40):qN uZ 40 l=bG named l:=by
 unfold qN bG
 simp only[named_list,ib,h,decide_true,Bool.and_true]
theorem of_small(l:Txt):qN uY 8 l=(decide (l.length<=8)&&bG small l):=by
 unfold qN bG
 simp only[small_list,ib]
 cases l.all small<;>cases decide (1<=l.length)<;>cases decide (l.length<=8)<;>rfl
end Ids
end
section
namespace Ids
theorem my(a:Txt):¬a<a:=List.lt_irrefl a
theorem lt_tr{a b c:Txt}(h:a<b)(k:b<c):a<c:=List.lt_trans h k
theorem lt_as{a b:Txt}(h:a<b):¬b<a:=List.lt_asymm h
theorem re(a b:Txt):a<b\/a=b\/b<a:=by
 by_cases A:a<b
 .exact .inl A
 .by_cases B:b<a
  .exact .inr (.inr B)
  .exact .inr (.inl (List.le_antisymm (List.not_lt.1 B) (List.not_lt.1 A)))
theorem rise_eq:∀(a b:List Txt),a.Pairwise (·<·)->b.Pairwise (·<·)->(∀x,x∈a↔x∈b)->a=b
 | [],[],_,_,_=>rfl
 | [],y::b,_,_,h=>by have:=(h y).2 (by simp);simp at this
 | x::a,[],_,_,h=>by have:=(h x).1 (by simp);simp at this
 | x::a,y::b,ha,hb,h=>by
  have A:=List.pairwise_cons.1 ha;have B:=List.pairwise_cons.1 hb;have F:x=y:=by
   have C:=(h x).1 (by simp);have D:=(h y).2 (by simp);rcases List.mem_cons.1 C with C|C
   .exact C
   .rcases List.mem_cons.1 D with D|D
    .exact D.symm
    .exact absurd (B.1 x C) (lt_as (A.1 y D))
  subst F;rw[rise_eq a b A.2 B.2 fun z=>?_];constructor
  .intro E
   have:=(h z).1 (by simp[E]);rcases List.mem_cons.1 this with e|e
   .subst e;exact absurd (A.1 z E) (my z)
   .exact e
  .intro E
   have:=(h z).2 (by simp[E]);rcases List.mem_cons.1 this with e|e
   .subst e;exact absurd (B.1 z E) (my z)
   .exact e
def qj(L:List Txt):List Txt:=Lib.compact (L.mergeSort fun x y=>decide (x<=y))
theorem upto_rise{d:Array Txt}(E:∀i j,i<j->j<d.size->¬d[j]! < d[i]!):∀m,m<=d.size->(Lib.compactUpTo d m).Pairwise (·<·)/\(∀x,x∈Lib.compactUpTo d m↔∃j,j<m/\d[j]! = x):=by
 intro m
 induction m with
 | zero=>intro _;simp[Lib.compactUpTo]
 | succ m ih =>
  intro L;obtain⟨H,F⟩:=ih (by omega);rw[Lib.compactUpTo_succ];by_cases B:Lib.keeps d m=true
  .rw [if_pos B]
   have C:∀y∈Lib.compactUpTo d m,y<d[m]! := by
    intro y J;obtain⟨j,D,rfl⟩:=(F y).1 J;rcases re d[j]! d[m]! with h|h|h
    .exact h
    .exfalso
     by_cases h0:m=0
     .omega
     .have A:d[m]! ≠ d[m-1]! := by
       intro e;have:=Lib.keeps_neg (by omega) e;rw[this] at B
       cases B
      rcases re d[m-1]! d[m]! with g|g|g
      .by_cases G:j=m-1
       .subst G;exact A h.symm
       .exact E j (m-1) (by omega) (by omega) (by rw[h];exact g)
      .exact A g.symm
      .exact E (m-1) m (by omega) (by omega) g
    .exact absurd h (E j m D (by omega))
   refine⟨?_,fun x=>?_⟩
   .rw [List.pairwise_append]
    exact⟨H,by simp,fun a K b I=>by simp at I;subst I;exact C a K⟩
   .rw [List.mem_append,F]
    constructor
    .rintro (⟨j,D,rfl⟩|h)
     .exact⟨j,by omega,rfl⟩
     .simp at h;exact⟨m,by omega,h.symm⟩
    .rintro ⟨j,D,rfl⟩
     by_cases e:j=m
     .subst e;exact .inr (by simp)
     .exact .inl ⟨j,by omega,rfl⟩
  .rw [if_neg B,List.append_nil]
   refine⟨H,fun x=>?_⟩;rw[F];constructor
   .rintro ⟨j,D,rfl⟩
    exact⟨j,by omega,rfl⟩
   .rintro ⟨j,D,rfl⟩
    by_cases e:j=m
    .subst e
     by_cases h0:j=0
     .subst h0
      exact absurd (Lib.keeps_lt_one d 0 (by omega)) B
     .refine⟨j-1,by omega,?_⟩
      apply Classical.byContradiction
      intro A;exact B (Lib.keeps_pos (fun e=>A e.symm))
    .exact⟨j,by omega,rfl⟩
theorem sV(L:List Txt):(qj L).Pairwise (·<·)/\∀x,x∈qj L↔x∈L:=by
 have D:=List.pairwise_mergeSort (le:=fun x y:Txt=>decide (x<=y)) (fun a b c E F=>by simp only[decide_eq_true_eq] at *;exact List.le_trans E F) (fun a b=>by simp only[Bool.or_eq_true,decide_eq_true_eq];exact List.le_total a b) L
 have G:=fun x=>(List.mergeSort_perm L fun x y:Txt=>decide (x<=y)).mem_iff (a:=x)
 unfold qj
 generalize L.mergeSort (fun x y=>decide (x<=y))=Z at *
 have key:=upto_rise (d:=Z.toArray) (fun i j B A=>by
  have C:j<Z.length:=by simpa using A
  have:=List.pairwise_iff_getElem.1 D i j (by omega) C B;simp only[decide_eq_true_eq] at this;rw[getElem!_pos _ j A,getElem!_pos _ i (by omega)];exact List.not_lt.2 this) Z.length (by simp)
 unfold Lib.compact
 refine⟨key.1,fun x=>?_⟩
 rw[key.2,<-G]
 constructor
 .rintro ⟨j,A,rfl⟩
  rw[getElem!_pos _ j (by simpa using A)];exact List.getElem_mem _
 .intro hx
  obtain⟨j,A,rfl⟩:=List.mem_iff_getElem.1 hx;exact⟨j,A,by rw[getElem!_pos _ j (by simpa using A)];rfl⟩
structure Part(L out:List Txt):Prop where
 rise:out.Pairwise (·<·)
 sub:∀x∈out,x∈L
 low:∀x∈L,∀y∈out,¬y<x->x∈out
theorem Part.nil(L:List Txt):Part L []:=⟨by simp,by simp,by simp⟩
def iF(A:List Txt)(x:Txt):Bool:=match A.getLast? with
 | none=>true
 | some y=>decide (y<x)
theorem part_last{L A:List Txt}(h:Part L A){y:Txt}(C:A.getLast?=some y):∀x∈A,x=y\/x<y:=by
 intro x hx
 obtain⟨ys,rfl⟩:=List.getLast?_eq_some_iff.1 C
 rcases List.mem_append.1 hx with B|B
 .exact .inr ((List.pairwise_append.1 h.rise).2.2 x B y (by simp))
 .simp at B
  exact .inl B
theorem Part.done{L A:List Txt}(h:Part L A)(D:∀x∈L,iF A x=false):A=qj L:=by
 obtain⟨E,u2⟩:=sV L
 refine rise_eq _ _ h.rise E fun x=>?_
 rw[u2]
 refine⟨h.sub x,fun hx=>?_⟩
 have B:=D x hx
 unfold iF at B
 cases C:A.getLast? with
 | none=>rw[C] at B;cases B
 | some y =>
  rw[C] at B;simp only[decide_eq_false_iff_not] at B;exact h.low x hx y (List.mem_of_getLast? C) B
theorem Part.next{L A:List Txt}(h:Part L A){b:Txt}(K:b∈L)(E:iF A b=true)(F:∀x∈L,iF A x=true->¬x<b):Part L (A++[b]):=by
 have J:∀y∈A,y<b:=by
  intro y G;unfold iF at E
  cases D:A.getLast? with
  | none=>rw[List.getLast?_eq_none_iff.1 D] at G;cases G
  | some z =>
   rw[D] at E;simp only[decide_eq_true_eq] at E;rcases part_last h D y G with rfl|g
   .exact E
   .exact lt_tr g E
 refine⟨?_,?_,?_⟩
 .rw [List.pairwise_append]
  exact⟨h.rise,by simp,fun a M c H=>by simp at H;subst H;exact J a M⟩
 .intro x hx
  rcases List.mem_append.1 hx with C|C
  .exact h.sub x C
  .simp at C;subst C;exact K
 .intro x hx y G I
  rcases List.mem_append.1 G with C|C
  .exact List.mem_append.2 (.inl (h.low x hx y C I))
  .simp at C
   subst C;rw[List.mem_append]
   cases B:iF A x
   .left
    unfold iF at B
    cases D:A.getLast? with
    | none=>rw[D] at B;cases B
    | some z =>
     rw[D] at B;simp only[decide_eq_false_iff_not] at B;exact h.low x hx z (List.mem_of_getLast? D) B
   .right
    rcases re x y with g|g|g
    .exact absurd g (F x hx B)
    .simp [g]
    .exact absurd g I
def left_(L A:List Txt):Nat:=(L.filter (iF A)).length
theorem tQ{p q:Txt->Bool}:∀{L:List Txt},(∀x∈L,q x=true->p x=true)->(∃x∈L,p x=true/\q x=false)->(L.filter q).length<(L.filter p).length
 | [],_,⟨x,hx,_⟩=>by cases hx
 | a::L,h,⟨x,hx,h1,h2⟩=>by
  have C:(L.filter q).length<=(L.filter p).length:=by
   have:∀L:List Txt,(∀x∈L,q x=true->p x=true)->(L.filter q).length<=(L.filter p).length:=by
    intro L;induction L with
    | nil=>intro _;simp
    | cons b L ih =>
     intro B;have E:=ih (fun x hx=>B x (by simp[hx]));rw[List.filter_cons,List.filter_cons]
     cases A:q b
     .cases D:p b<;>simp<;>omega
     .rw [B b (by simp) A];simp;omega
   exact this L fun x hx=>h x (by simp[hx])
  rw[List.filter_cons,List.filter_cons];rcases List.mem_cons.1 hx with rfl|hx
  .rw [h1,h2];simp;omega
  .have ih:=tQ (L:=L) (fun x hx=>h x (by simp[hx])) ⟨x,hx,h1,h2⟩
   cases A:q a
   .cases D:p a<;>simp<;>omega
   .rw [h a (by simp) A];simp;omega
theorem left_lt{L A:List Txt}{b:Txt}(D:b∈L)(B:iF A b=true):left_ L (A++[b])<left_ L A:=by
 have C:∀x,iF (A++[b]) x=decide (b<x):=fun x=>by
  unfold iF;rw[List.getLast?_append];simp
 refine tQ (fun x _ hx=>?_) ⟨b,D,B,by rw[C];exact decide_eq_false (my b)⟩
 rw[C] at hx
 simp only[decide_eq_true_eq] at hx
 unfold iF at B ⊢
 cases E:A.getLast? with
 | none=>rfl
 | some y =>
  rw[E] at B;simp only[decide_eq_true_eq] at B ⊢;exact lt_tr B hx
theorem left_le(L A:List Txt):left_ L A<=L.length:=List.length_filter_le _ _
def ej(L:List Txt):Option (List Txt) × Nat:=if L.all selector then (if 4<(qj L).length then (none,4) else (some (qj L),0)) else (none,13)
end Ids
end
section
namespace Led
structure Ledger where
 entries:List Entry
 nodes:List Node
 bans:List Txt
 joins:List Join
 keys:List Key
 bundles:List Bundle
def none':Ledger:=⟨[],[],[],[],[],[]⟩
def ord(a b:Txt):Int:=if a<b then -1 else if b<a then 1 else 0
def cE(a b:Entry):Int:=a.n-b.n
def cN(a b:Node):Int:=ord a.name b.name
def cB(a b:Bundle):Int:=ord a.domain b.domain
structure Cmp{α:Type}(c:α->α->Int):Prop where
 flip:∀a b,c a b<0↔0<c b a
 trans:∀a b d,c a b<0->c b d<0->c a d<0
 left:∀a b d,c a b=0->(c a d<0↔c b d<0)
theorem rX:Cmp cE:=⟨fun a b=>by unfold cE;omega,fun a b d=>by unfold cE;omega,fun a b d=>by unfold cE;omega⟩
theorem mw{a b:Txt}:ord a b<0↔a<b:=by
 unfold ord
 split
 .simp_all
 .split<;>simp_all
theorem ord_gt{a b:Txt}:0<ord a b↔b<a:=by
 unfold ord
 split
 .rename_i h
  constructor
  .intro A;omega
  .intro A;exact absurd (List.lt_trans h A) (List.lt_irrefl _)
 .split<;>simp_all
theorem lp{a b:Txt}:ord a b=0↔a=b:=by
 unfold ord
 split
 .rename_i h
  constructor
  .intro A;omega
  .rintro rfl;exact absurd h (List.lt_irrefl _)
 .split
  .rename_i h
   constructor
   .intro A;omega
   .rintro rfl;exact absurd h (List.lt_irrefl _)
  .rename_i h1 h2
   exact⟨fun _=>List.le_antisymm (List.not_lt.1 h2) (List.not_lt.1 h1),fun _=>rfl⟩
theorem uJ{α:Type}(f:α->Txt):Cmp (fun a b=>ord (f a) (f b)):=⟨fun a b=>by rw[mw,ord_gt],fun a b d=>by rw[mw,mw,mw];exact List.lt_trans,fun a b d h=>by rw[lp] at h;simp only[h]⟩
theorem rW:Cmp cN:=uJ Node.name
theorem lI:Cmp cB:=uJ Bundle.domain
theorem ord_cmp':Cmp ord:=uJ id
def ins{α:Type}(c:α->α->Int)(x:α)(l:List α):List α:=l.filter (fun y=>decide (c y x<0))++x::l.filter (fun y=>decide (0<c y x))
def put{α:Type}(c:α->α->Int)(most:Nat)(x:α)(l:List α):Option (List α):=if (ins c x l).length<=most then some (ins c x l) else none
def aD(n a b:Int):Bool:=decide (a<=n/\n<=b)
def cq(e:Entry):Bool:=(Ids.ej e.sels).2==0&&(Ids.ej e.sels).1.getD []==e.sels&&!e.sels.isEmpty&&Ids.path e.path&&!Ids.agent e.path&&Ids.path e.parent&&aD e.n 1 1099511627776&&aD e.ttl 1 1000
def cI(j:Join):Bool:=j.text.all (fun c=>Ids.small c||Ids.digit c)&&Ids.agent j.name&&aD j.text.length 1 16&&aD j.expires 0 1099511627776
def cH(n:Node):Bool:=Ids.agent n.name&&n.key.length==32&&aD n.expires 0 1099511627776&&aD n.seq 0 1099511627776&&decide (n.doc.length<=16)
def dx(k:Key):Bool:=k.seed.length==32&&aD k.kid.length 1 16&&aD k.state 1 3&&aD k.since 0 1099511627776
def az(b:Bundle):Bool:=Ids.domain b.domain&&aD b.number 0 1099511627776&&decide (b.keys.length<=8)&&b.keys.all (fun k=>k.x.length==32&&k.kid==Sha.cm k.x)&&decide (b.keys.map Jwk.kid).Nodup
def fA(L:Ledger)(e:Entry):Ledger × Int :=
 if cq e then match put cE 24 e L.entries with
  | some l=>({ L with entries:=l },0)
  | none=>(L,6)
 else (L,1)
def im(L:Ledger)(n:Int):Ledger × Int:=if L.entries.any (fun e=>e.n==n) then ({ L with entries:=L.entries.eraseP (fun e=>e.n==n) },0) else (L,7)
def vr(L:Ledger)(j:Join):Ledger × Int :=
 if !cI j||j.used then (L,1)
 else if L.joins.any (fun k=>k.text==j.text) then (L,8)
 else if 16<=L.joins.length then (L,6)
 else ({ L with joins:=L.joins++[j] },0)
def aR(L:Ledger)(n:Node):Ledger × Int :=
 if cH n then
  if L.bans.contains n.name then (L,21)
  else match put cN 4 n L.nodes with
   | some l=>({ L with nodes:=l },0)
   | none=>(L,6)
 else (L,1)
def dH{α:Type}(p:α->Bool)(f:α->α):List α->List α
 | []=>[]
 | a::l=>if p a then f a::l else a::dH p f l
def fF(L:Ledger)(A:Txt)(n:Node):Ledger × Int :=
 match L.joins.find? (fun j=>j.text==A) with
 | none=>(L,7)
 | some j=>if j.used then (L,20) else if n.name==j.name then
   (if (aR L n).2==0 then ({ (aR L n).1 with joins:=dH (fun j=>j.text==A) (fun j=>{ j with used:=true }) L.joins },0) else (L,(aR L n).2))
  else (L,1)
def ii(L:Ledger)(s:Txt):Ledger × Int :=
 if Ids.agent s then
  if L.bans.contains s then (L,8)
  else match put ord 8 s L.bans with
   | some l=>({ L with bans:=l,nodes:=L.nodes.eraseP (fun n=>n.name==s) },0)
   | none=>(L,6)
 else (L,1)
def jg(L:Ledger)(s:Txt):Ledger × Int:=if L.bans.any (fun t=>t==s) then ({ L with bans:=L.bans.eraseP (fun t=>t==s) },0) else (L,7)
def gq(L:Ledger)(s:Txt):Ledger × Int:=if L.nodes.any (fun n=>n.name==s) then ({ L with nodes:=L.nodes.eraseP (fun n=>n.name==s) },0) else (L,7)
def dU(L:Ledger)(k:Key):Ledger × Int :=
 if !dx k||!(k.state==1) then (L,1)
 else if L.keys.any (fun j=>j.state==1)||L.keys.any (fun j=>j.kid==k.kid) then (L,8)
 else if 8<=L.keys.length then (L,6)
 else ({ L with keys:=L.keys++[k] },0)
def eo(n:Int)(L:List Key):List Key:=dH (fun j=>j.state==2) (fun j=>{ j with state:=3,since:=n }) L
def dK(L:Ledger)(n:Int):Ledger × Int :=
 if aD n 0 1099511627776 then
  if L.keys.any (fun j=>j.state==1) then ({ L with keys:=dH (fun j=>j.state==1) (fun j=>{ j with state:=2,since:=n }) (eo n L.keys) },0)
  else (L,7)
 else (L,1)
def jh(L:Ledger)(s:Txt):Ledger × Int:=if L.keys.any (fun j=>j.kid==s&&j.state==3) then ({ L with keys:=L.keys.eraseP (fun j=>j.kid==s&&j.state==3) },0) else (L,7)
def bQ(ok:Bool)(L:Ledger)(b:Bundle):Ledger × Int :=
 if ok then
  if L.bundles.any (fun o=>o.domain==b.domain&&decide (o.number > b.number)) then (L,22)
  else match put cB 3 b L.bundles with
   | some l=>({ L with bundles:=l },0)
   | none=>(L,6)
 else (L,1)
def dz(L:Ledger)(s:Txt):Ledger × Int:=if L.bundles.any (fun b=>b.domain==s) then ({ L with bundles:=L.bundles.eraseP (fun b=>b.domain==s) },0) else (L,7)
def jZ(L:Ledger)(s:Txt)(n:Int):Ledger × Int :=
 match L.nodes.find? (fun d=>d.name==s) with
 | none=>(L,7)
 | some d=>if n<=d.seq||n > 1099511627776 then (L,22) else ({ L with nodes:=dH (fun d=>d.name==s) (fun d=>{ d with seq:=n }) L.nodes },0)
def does(ok:Bool)(L:Ledger)(o:Op):Ledger × Int :=
 if o.kind=1 then fA L o.entry
 else if o.kind=2 then im L o.n
 else if o.kind=3 then vr L o.join
 else if o.kind=4 then fF L o.name o.node
 else if o.kind=5 then aR L o.node
 else if o.kind=6 then ii L o.name
 else if o.kind=7 then jg L o.name
 else if o.kind=8 then gq L o.name
 else if o.kind=9 then dU L o.key
 else if o.kind=10 then dK L o.n
 else if o.kind=11 then jh L o.name
 else if o.kind=12 then bQ ok L o.bundle
 else if o.kind=13 then dz L o.name
 else if o.kind=14 then jZ L o.name o.n
 else (L,1)
def aY{α:Type}(c:α->α->Int)(l:List α):Prop:=l.Pairwise fun a b=>c a b<0
structure Ledger.Wf(L:Ledger):Prop where
 e1:aY cE L.entries
 e2:∀e∈L.entries,cq e=true
 e3:L.entries.length<=24
 e4:∀e∈L.entries,e.sels.length<=1000
 n1:aY cN L.nodes
 n2:∀n∈L.nodes,cH n=true
 n3:L.nodes.length<=4
 b1:aY ord L.bans
 b2:∀s∈L.bans,Ids.agent s=true
 b3:L.bans.length<=8
 b4:∀n∈L.nodes,n.name∉L.bans
 j1:(L.joins.map Join.text).Nodup
 j2:∀j∈L.joins,cI j=true
 j3:L.joins.length<=16
 k1:(L.keys.map Key.kid).Nodup
 k2:∀k∈L.keys,dx k=true
 k3:L.keys.length<=8
 k4:L.keys.countP (fun k=>k.state==1)<=1
 k5:L.keys.countP (fun k=>k.state==2)<=1
 u1:aY cB L.bundles
 u2:∀b∈L.bundles,b.keys.length<=1000
 u3:L.bundles.length<=3
theorem pP:none'.Wf:=by
 constructor<;>simp[none',aY]
section
variable {α:Type}{c:α->α->Int}{x:α}{l:List α}
theorem gP{y:α}(h:y∈ins c x l):y=x\/y∈l:=by
 unfold ins at h
 simp only[List.mem_append,List.mem_cons,List.mem_filter] at h
 rcases h with h|h|h
 .exact .inr h.1
 .exact .inl h
 .exact .inr h.1
theorem me(C:Cmp c)(h:aY c l):aY c (ins c x l):=by
 unfold aY ins at *
 rw[List.pairwise_append,List.pairwise_cons]
 refine⟨h.filter _,⟨?_,h.filter _⟩,?_⟩
 .intro a A
  simp only[List.mem_filter,decide_eq_true_eq] at A;exact(C.flip _ _).2 A.2
 .intro a A b B
  simp only[List.mem_filter,decide_eq_true_eq,List.mem_cons] at A B;rcases B with rfl|B
  .exact A.2
  .exact C.trans _ _ _ A.2 ((C.flip _ _).2 B.2)
theorem mZ{most:Nat}{m:List α}(h:put c most x l=some m):m=ins c x l/\m.length<=most:=by
 unfold put at h
 split at h
 .injection h with h;subst h;exact⟨rfl,by assumption⟩
 .cases h
theorem gW{p:α->Bool}{f:α->α}:∀{l:List α},(dH p f l).length=l.length
 | []=>rfl
 | a::l=>by
  unfold dH;split
  .rfl
  .simp [gW (l:=l)]
theorem iZ{p:α->Bool}{f:α->α}{y:α}:∀{l:List α},y∈dH p f l->y∈l\/∃a∈l,p a=true/\y=f a
 | a::l,h=>by
  unfold dH at h;split at h
  .rename_i hp
   rcases List.mem_cons.1 h with rfl|h
   .exact .inr ⟨a,List.mem_cons_self,hp,rfl⟩
   .exact .inl (List.mem_cons_of_mem _ h)
  .rcases List.mem_cons.1 h with rfl|h
   .exact .inl List.mem_cons_self
   .rcases iZ h with h|⟨b,A,B,C⟩
    .exact .inl (List.mem_cons_of_mem _ h)
    .exact .inr ⟨b,List.mem_cons_of_mem _ A,B,C⟩
theorem ng{β:Type}{p:α->Bool}{f:α->α}(g:α->β)(A:∀a,g (f a)=g a):∀{l:List α},(dH p f l).map g=l.map g
 | []=>rfl
 | a::l=>by
  unfold dH;split
  .simp [A]
  .simp [ng g A (l:=l)]
end
end Led
end
section
open Go.RowKit Mem Led
def ah{α:Type}(enc:α->List Value)(L:List α):List Value:=(L.map enc).flatten
section
variable {α:Type}{enc:α->List Value}{k:Nat}
theorem bM(x:α)(L:List α):ah enc (x::L)=enc x++ah enc L:=by simp[ah]
theorem aT(L M:List α):ah enc (L++M)=ah enc L++ah enc M:=by simp[ah]
theorem aJ(A:∀x,(enc x).length=k):∀L:List α,(ah enc L).length=L.length*k
 | []=>by simp[ah]
 | x::L=>by
  rw[bM,List.length_append,A,aJ A L,List.length_cons,Nat.succ_mul,Nat.add_comm]
theorem kr(A:∀x,(enc x).length=k):∀{L:List α} {i:Nat} (h:i<L.length) {j:Nat},j<k->(ah enc L)[i*k+j]?=(enc L[i])[j]?
 | x::L,0,h,j,hj=>by
  rw[bM,Nat.zero_mul,Nat.zero_add,List.getElem?_append_left (by rw[A];exact hj)]
  rfl
 | x::L,i+1,h,j,hj=>by
  have ih:=kr A (L:=L) (i:=i) (by simpa using h) hj;rw[bM,List.getElem?_append_right (by rw[A,Nat.succ_mul];omega),A,show (i+1)*k+j-k=i*k+j by rw[Nat.succ_mul];omega,ih]
  rfl
theorem rows_take(A:∀x,(enc x).length=k)(L:List α)(i:Nat):(ah enc L).take (i*k)=ah enc (L.take i):=by
 by_cases h:i<=L.length
 .have e:ah enc L=ah enc (L.take i)++ah enc (L.drop i):=by rw[<-aT,List.take_append_drop]
  have B:(ah enc (L.take i)).length=i*k:=by rw[aJ A,List.length_take,Nat.min_eq_left h]
  rw[e,List.take_append_of_le_length (by omega),List.take_of_length_le (by omega)]
 .rw [List.take_of_length_le (i:=i) (by omega),List.take_of_length_le]
  rw[aJ A];exact Nat.mul_le_mul_right _ (by omega)
theorem rows_drop(A:∀x,(enc x).length=k)(L:List α)(i:Nat):(ah enc L).drop (i*k)=ah enc (L.drop i):=by
 by_cases h:i<=L.length
 .have e:ah enc L=ah enc (L.take i)++ah enc (L.drop i):=by rw[<-aT,List.take_append_drop]
  have B:(ah enc (L.take i)).length=i*k:=by rw[aJ A,List.length_take,Nat.min_eq_left h]
  rw[e,List.drop_append_of_le_length (by omega),List.drop_of_length_le (by omega),List.nil_append]
 .rw [List.drop_of_length_le (i:=i) (by omega),List.drop_of_length_le]
  .simp [ah]
  rw[aJ A];exact Nat.mul_le_mul_right _ (by omega)
end
def Es{α:Type}(enc:α->List Value)(k:Nat)(w:World)(A:Option Addr)(n:Nat)(L:List α):Prop:=Vs w w.heap.size k A n (ah enc L)
section
variable {α:Type}{enc:α->List Value}{k n:Nat}{w w':World}{A:Option Addr}{L:List α}
theorem Es.len(B:∀x,(enc x).length=k)(h0:0<k)(h:Es enc k w A n L):L.length=n:=by
 have:=Vs.len h
 rw[aJ B] at this
 exact Nat.eq_of_mul_eq_mul_right h0 this
theorem Es.lit(C:∀x,(enc x).length=k)(h0:0<k)(h:Es enc k w A n L){i:Nat}(hi:i<L.length):∃b B,A=some ⟨b,B,none⟩/\b<w.heap.size/\∀j u,(enc L[i])[j]?=some u->w.cell? ⟨b,B+(i*k+j),none⟩=some u:=by
 obtain⟨b,B,F,G,H⟩:=Vs.lit h (by rw[aJ C];exact Nat.mul_pos (by omega) h0)
 refine⟨b,B,F,G,fun j u E=>H _ _ ?_⟩
 have D:j<k:=by
  have:=(List.getElem?_eq_some_iff.1 E).1;rwa [C] at this
 rw[kr C hi D,E]
theorem Es.below(h:Es enc k w A n L)(B:eF w w'):Es enc k w' A n L:=(Vs.below h B).mono B.size
theorem Es.empty(w:World)(A:Option Addr):Es enc k w A 0 []:=Vs.empty _ _ _ _
end
def Fit(n c:Nat)(A:Option Addr):Prop:=n<=c/\c<=9223372036854775807/\(A=none->n=0)
def br(w:World)(v:Value)(L:List Txt):Prop:=∃A n c,v=.slice A n c/\Fit n c A/\Ts w A n L
def aV{α:Type}(enc:α->List Value)(k:Nat)(w:World)(v:Value)(L:List α):Prop:=∃A n c,v=.slice A n c/\Fit n c A/\Es enc k w A n L
theorem br.below{w w':World}{v:Value}{L:List Txt}(h:br w v L)(B:eF w w'):br w' v L:=by
 obtain⟨A,n,c,C,D,E⟩:=h
 exact⟨A,n,c,C,D,(Vs.below E B).mono B.size⟩
theorem aV.below{α:Type}{enc:α->List Value}{k:Nat}{w w':World}{v:Value}{L:List α}(h:aV enc k w v L)(B:eF w w'):aV enc k w' v L:=by
 obtain⟨A,n,c,C,D,E⟩:=h
 exact⟨A,n,c,C,D,E.below B⟩
def ag(p:Led.Entry × Value):List Value:=[nm p.1.n,tx p.1.path,tx p.1.parent,nm p.1.ttl,p.2]
def ai(p:Led.Bundle × Value):List Value:=[tx p.1.domain,nm p.1.number,p.2]
theorem cG(x:Led.Jwk):(aN x).length=2:=rfl
theorem aM(x:Led.Node):(ae x).length=5:=rfl
theorem bm(x:Led.Join):(vq x).length=4:=rfl
theorem aP(x:Led.Key):(ar x).length=4:=rfl
theorem bf(x:Led.Entry × Value):(ag x).length=5:=rfl
theorem aQ(x:Led.Bundle × Value):(ai x).length=3:=rfl
structure dk(w:World)(cs:List Value)(L:Led.Ledger)(E:List (Led.Entry × Value))(U:List (Led.Bundle × Value)):Prop where
 cells:∃vE vN vB vJ vK vU,cs=[vE,vN,vB,vJ,vK,vU]/\aV ag 5 w vE E/\aV ae 5 w vN L.nodes/\br w vB L.bans/\aV vq 4 w vJ L.joins/\aV ar 4 w vK L.keys/\aV ai 3 w vU U
 ents:E.map Prod.fst=L.entries
 buns:U.map Prod.fst=L.bundles
 sels:∀p∈E,br w p.2 p.1.sels
 keyss:∀p∈U,aV aN 2 w p.2 p.1.keys
theorem dk.below{w w':World}{cs:List Value}{L:Led.Ledger}{E:List (Led.Entry × Value)}{U:List (Led.Bundle × Value)}(h:dk w cs L E U)(A:eF w w'):dk w' cs L E U:=by
 obtain⟨⟨vE,vN,vB,vJ,vK,vU,h0,C,D,F,G,H,I⟩,e,u,s,k⟩:=h
 exact⟨⟨vE,vN,vB,vJ,vK,vU,h0,C.below A,D.below A,F.below A,G.below A,H.below A,I.below A⟩,e,u,fun p B=>(s p B).below A,fun p B=>(k p B).below A⟩
end
section
open Go.RowKit Mem Led
theorem arr_cells{w:World}{b o n:Nat}{cs:List Value}(B:cs.length=n)(h:∀j u,cs[j]?=some u->w.cell? ⟨b,o+j,none⟩=some u):Mem.arr w b o n=cs.toArray/\Has w b o n:=by
 have A:∀j,(hj:j<cs.length)->w.cell? ⟨b,o+j,none⟩=some cs[j]:=fun j hj=>h j _ (List.getElem?_eq_getElem hj)
 subst B
 constructor
 .unfold Mem.arr
  congr 1
  apply List.ext_getElem
  .simp
  .intro j D C
   rw[List.getElem_map,List.getElem_range,A j C];rfl
 .intro j hj
  rw[A j hj];rfl
section
variable {P:Program}{T:TypeId}{d:TypeDesc}{k:Nat}
theorem cz(A:P.underlying T=some d)(hd:(match d with|.struct _|.array _ _=>true|_=>false)=true)(hi:(P.info? T).map (·.size)=some k)
  {w:World} {b o:Nat} {cs:List Value} (B:cs.length=k) (h:∀j u,cs[j]?=some u->w.cell? ⟨b,o+j,none⟩=some u):(Instr.loadAt T (.pointer (some ⟨b,o,none⟩))).run P w=.ok (.agg cs.toArray) w:=by
 obtain⟨C,D⟩:=arr_cells B h
 have:=bH (P:=P) w T b o k _ A hd hi D
 rw[C] at this
 exact this
theorem fZ{α:Type}{enc:α->List Value}(F:P.underlying T=some d)(hd:(match d with|.struct _|.array _ _=>true|_=>false)=true)(hi:(P.info? T).map (·.size)=some k)
  (D:∀x,(enc x).length=k) (h0:0<k) {w:World} {A:Option Addr} {n:Nat} {L:List α} (h:Es enc k w A n L) {i:Nat} (C:i<L.length) :
  ∃b B,A=some ⟨b,B,none⟩/\b<w.heap.size/\∀w',eF w w'->(Instr.loadAt T (.pointer (some ⟨b,B+i*k,none⟩))).run P w'=.ok (.agg (enc L[i]).toArray) w':=by
 obtain⟨b,B,G,E,H⟩:=h.lit D h0 C
 refine⟨b,B,G,E,fun w' I=>cz F hd hi (D _) fun j u J=>?_⟩
 rw[Nat.add_assoc]
 exact(I.cell (p:=⟨b,B+(i*k+j),none⟩) E).trans (H j u J)
theorem ls(A:P.underlying T=some d)(hd:(match d with|.struct _|.array _ _=>true|_=>false)=true)(hi:(P.info? T).map (·.size)=some k)
  {w:World} {g:Nat} {cs:List Value} {t:TypeId} (h:Blk w g cs t) (B:cs.length=k):(Instr.loadAt T (.pointer (some ⟨g,0,none⟩))).run P w=.ok (.agg cs.toArray) w :=
 cz A hd hi B fun j u C=>by rw[Nat.zero_add,h.cell j];exact C
end
def aX{α:Type}(p:α->Bool)(L:List α):Int:=match L.findIdx? p with
 | some i=>(i:Int)
 | none => -1
theorem gj{α:Type}{p:α->Bool}{L:List α}(h:∀x∈L,p x=false):aX p L = -1:=by
 unfold aX
 rw[List.findIdx?_eq_none_iff.2 h]
theorem gi{α:Type}{p:α->Bool}{L:List α}{k:Nat}(A:k<L.length)(h:∀x∈L.take k,p x=false)(B:p L[k]=true):aX p L=k:=by
 unfold aX
 have:L.findIdx? p=some k:=by
  rw[List.findIdx?_eq_some_iff_getElem];refine⟨A,B,fun j C=>?_⟩;have:=h L[j] (by rw[List.mem_take_iff_getElem];exact⟨j,by omega,rfl⟩)
  simp[this]
 rw[this]
theorem dP{α:Type}{p:α->Bool}{L:List α}{k:Nat}(A:k<L.length)(h:∀x∈L.take k,p x=false)(B:p L[k]=false):∀x∈L.take (k+1),p x=false:=by
 intro x hx
 rw[List.take_succ_eq_append_getElem A] at hx
 rcases List.mem_append.1 hx with hx|hx
 .exact h x hx
 .simp at hx
  subst hx;exact B
def gz(x:Value):Sem Value:=Instr.loadAt 36 x
def stEnt(x v:Value):Sem Unit:=Instr.storeAt 36 x v
theorem named_ldEnt(x:Value):Instr.loadAt 36 x=gz x:=rfl
theorem pc(x v:Value):Instr.storeAt 36 x v=stEnt x v:=rfl
attribute [go_sem ↓] named_ldEnt pc
theorem lT:(prog.info? 36).map (·.size)=some 5:=by kernel_rfl
theorem gZ{w:World}{A:Option Addr}{n:Nat}{L:List (Led.Entry × Value)}(h:Es ag 5 w A n L){i:Nat}(hi:i<L.length) :
  ∃b B,A=some ⟨b,B,none⟩/\b<w.heap.size/\∀w',eF w w'->(gz (.pointer (some ⟨b,B+i*5,none⟩))).run prog w'=.ok (.agg (ag L[i]).toArray) w' :=
 fZ underlying36 rfl lT bf (by decide) h hi
theorem eT{w:World}{g:Nat}{cs:List Value}{t:TypeId}(h:Blk w g cs t)(A:cs.length=5):(gz (.pointer (some ⟨g,0,none⟩))).run prog w=.ok (.agg cs.toArray) w :=
 ls underlying36 rfl lT h A
def fI(x:Value):Sem Value:=Instr.loadAt 40 x
def stNod(x v:Value):Sem Unit:=Instr.storeAt 40 x v
theorem named_ldNod(x:Value):Instr.loadAt 40 x=fI x:=rfl
theorem o9(x v:Value):Instr.storeAt 40 x v=stNod x v:=rfl
attribute [go_sem ↓] named_ldNod o9
theorem mQ:(prog.info? 40).map (·.size)=some 5:=by kernel_rfl
theorem gY{w:World}{A:Option Addr}{n:Nat}{L:List (Led.Node)}(h:Es ae 5 w A n L){i:Nat}(hi:i<L.length) :
  ∃b B,A=some ⟨b,B,none⟩/\b<w.heap.size/\∀w',eF w w'->(fI (.pointer (some ⟨b,B+i*5,none⟩))).run prog w'=.ok (.agg (ae L[i]).toArray) w' :=
 fZ underlying40 rfl mQ aM (by decide) h hi
theorem dS{w:World}{g:Nat}{cs:List Value}{t:TypeId}(h:Blk w g cs t)(A:cs.length=5):(fI (.pointer (some ⟨g,0,none⟩))).run prog w=.ok (.agg cs.toArray) w :=
 ls underlying40 rfl mQ h A
def ny(x:Value):Sem Value:=Instr.loadAt 38 x
def stJoi(x v:Value):Sem Unit:=Instr.storeAt 38 x v
theorem named_ldJoi(x:Value):Instr.loadAt 38 x=ny x:=rfl
theorem pb(x v:Value):Instr.storeAt 38 x v=stJoi x v:=rfl
attribute [go_sem ↓] named_ldJoi pb
theorem pJ:(prog.info? 38).map (·.size)=some 4:=by kernel_rfl
theorem nx{w:World}{A:Option Addr}{n:Nat}{L:List (Led.Join)}(h:Es vq 4 w A n L){i:Nat}(hi:i<L.length) :
  ∃b B,A=some ⟨b,B,none⟩/\b<w.heap.size/\∀w',eF w w'->(ny (.pointer (some ⟨b,B+i*4,none⟩))).run prog w'=.ok (.agg (vq L[i]).toArray) w' :=
 fZ underlying38 rfl pJ bm (by decide) h hi
theorem ldJoi_blk{w:World}{g:Nat}{cs:List Value}{t:TypeId}(h:Blk w g cs t)(A:cs.length=4):(ny (.pointer (some ⟨g,0,none⟩))).run prog w=.ok (.agg cs.toArray) w :=
 ls underlying38 rfl pJ h A
def nv(x:Value):Sem Value:=Instr.loadAt 42 x
def stKey(x v:Value):Sem Unit:=Instr.storeAt 42 x v
theorem named_ldKey(x:Value):Instr.loadAt 42 x=nv x:=rfl
theorem pa(x v:Value):Instr.storeAt 42 x v=stKey x v:=rfl
attribute [go_sem ↓] named_ldKey pa
theorem pI:(prog.info? 42).map (·.size)=some 4:=by kernel_rfl
theorem nu{w:World}{A:Option Addr}{n:Nat}{L:List (Led.Key)}(h:Es ar 4 w A n L){i:Nat}(hi:i<L.length) :
  ∃b B,A=some ⟨b,B,none⟩/\b<w.heap.size/\∀w',eF w w'->(nv (.pointer (some ⟨b,B+i*4,none⟩))).run prog w'=.ok (.agg (ar L[i]).toArray) w' :=
 fZ underlying42 rfl pI aP (by decide) h hi
theorem ldKey_blk{w:World}{g:Nat}{cs:List Value}{t:TypeId}(h:Blk w g cs t)(A:cs.length=4):(nv (.pointer (some ⟨g,0,none⟩))).run prog w=.ok (.agg cs.toArray) w :=
 ls underlying42 rfl pI h A
def fo(x:Value):Sem Value:=Instr.loadAt 45 x
def stBun(x v:Value):Sem Unit:=Instr.storeAt 45 x v
theorem named_ldBun(x:Value):Instr.loadAt 45 x=fo x:=rfl
theorem pd(x v:Value):Instr.storeAt 45 x v=stBun x v:=rfl
attribute [go_sem ↓] named_ldBun pd
theorem pK:(prog.info? 45).map (·.size)=some 3:=by kernel_rfl
theorem jb{w:World}{A:Option Addr}{n:Nat}{L:List (Led.Bundle × Value)}(h:Es ai 3 w A n L){i:Nat}(hi:i<L.length) :
  ∃b B,A=some ⟨b,B,none⟩/\b<w.heap.size/\∀w',eF w w'->(fo (.pointer (some ⟨b,B+i*3,none⟩))).run prog w'=.ok (.agg (ai L[i]).toArray) w' :=
 fZ underlying45 rfl pK aQ (by decide) h hi
theorem cR{w:World}{g:Nat}{cs:List Value}{t:TypeId}(h:Blk w g cs t)(A:cs.length=3):(fo (.pointer (some ⟨g,0,none⟩))).run prog w=.ok (.agg cs.toArray) w :=
 ls underlying45 rfl pK h A
end
section
open Go.RowKit Mem Led
theorem aS{w:World}{base:Nat}{e:TypeId}{k n:Nat}{v:Value}{xs:List Value}(h:w.ownsRow base e k v n xs) :
  (v=.slice none 0 0/\n=0/\xs=[])\/∃g c M,v=.slice (some ⟨g,0,none⟩) n c/\base<=g/\g<w.heap.size/\Blk w g M e/\n<=c/\c<=maxLen/\M.length=c*k/\M.take (n*k)=xs:=by
 obtain⟨C,D⟩:=h
 rcases D with⟨rfl,rfl⟩|⟨g,c,A,rfl,E,B,F,G,H,ht⟩
 .exact .inl ⟨rfl,rfl,List.eq_nil_of_length_eq_zero (by simpa using C)⟩
 .exact .inr ⟨g,c,A.toList,rfl,E,(Array.getElem?_eq_some_iff.1 B).1,by unfold Blk;simpa using B,F,G,by simpa using H,ht⟩
theorem dG{w:World}{base:Nat}{e:TypeId}{k n g c:Nat}{M xs:List Value}(C:base<=g)(D:Blk w g M e)(A:n<=c)(E:c<=maxLen)(B:M.length=c*k)(ht:M.take (n*k)=xs):w.ownsRow base e k (.slice (some ⟨g,0,none⟩) n c) n xs:=by
 refine⟨?_,.inr ⟨g,c,M.toArray,rfl,C,D,A,E,by simpa using B,by simpa using ht⟩⟩
 rw[<-ht,List.length_take,B]
 exact Nat.min_eq_left (Nat.mul_le_mul_right _ A)
theorem Blk.setRow{w:World}{g:Nat}{M M':List Value}{e:TypeId}(h:Blk w g M e):Blk (w.setRow g M'.toArray) g M' e:=setRow_heap w g M.toArray _ e _ h
theorem cZ{w w':World}{g:Nat}{M':Array Value}(h:w.grownBy w' (some g)):w.grownBy (w'.setRow g M') (some g) :=
 ⟨h.os,h.tape,h.output,by simp[World.setRow];exact h.size,fun k B A=>by rw[setRow_other w' g k M' (by simpa using A)];exact h.block k B A⟩
theorem gJ{w w':World}{r:Option Nat}(h:w.grownBy w' r):w.grownBy w'.drew r:=⟨h.os,h.tape,h.output,h.size,h.block⟩
theorem fD(w:World)(r:Option Nat):w.grownBy w r:=⟨rfl,rfl,rfl,eH,fun _ _ _=>rfl⟩
section
variable {P:Program}
theorem jG{w:World}{J L ty A:TypeId}{g o B D:Nat}{a:Addr}{C E k m:Nat}{M:List Value}{t:TypeId}{cs:List Value}
  (N:P.underlying J=some (.slice A)) (K:(P.info? A).map (·.size)=some k) (O:Blk w g M t) (Q:Nat.min C B=m) (R:cs.length=m*k)
  (F:∀j v,cs[j]?=some v->w.cell? (a.add j)=some v) (G:o+cs.length<=M.length) (S:∀v∈cs,v.oneCell'=true) :
  (Builtin.copy_ #[J,L] ty #[.slice (some ⟨g,o,none⟩) B D,.slice (some a) C E]).run P w=.ok (goInt m) (w.setRow g (splice M o cs).toArray):=by
 have T:=run_loadCells_list (P:=P) w a cs F
 have H:=run_storeCells_at P g o t cs 0 M.toArray w O (by simpa using G) S
 cases I:P.info? A with
 | none=>simp[I] at K
 | some i =>
  have hi:i.size=k:=by simpa [I] using K
  subst Q;simp[Builtin.copy_,run_underlying N,Builtin.lenOf,Builtin.firstCells,sizeOf,typeInfo,I,hi,<-R,T,H,splice]
theorem qy{w:World}{t e ty:TypeId}{z:Value}{k:Nat}(ht:P.underlying t=some (.slice e))(G:∀w,(zeroValue e).run P w=.ok z w)(E:z.cells.size=k)(H:∀v∈z.cells.toList,v.oneCell'=true){g o n c:Nat}{M:List Value}{F:TypeId}(J:0<n)
  (I:Blk w g M F) (B:o+n*k<=M.length) :
  ∃Z:List Value,Z.length=n*k/\(Builtin.clear_ #[t] ty #[.slice (some ⟨g,o,none⟩) n c]).run P w=.ok (.tuple #[]) (w.setRow g (splice M o Z).toArray):=by
 refine⟨(Builtin.zeroCells z.cells n).toList,by rw[Array.length_toList,size_zeroCells,E],?_⟩
 have C:=run_storeCells_at P g o F (Builtin.zeroCells z.cells n).toList 0 M.toArray w I (by rw[Array.length_toList,size_zeroCells,E];simpa using B) (by
  intro v A;unfold Builtin.zeroCells at A;simp at A
  obtain⟨i,hi,rfl⟩:=A;refine H _ ?_;have D:0<z.cells.size:=by
   rcases Nat.eq_zero_or_pos z.cells.size with h0|h0
   .rw [h0] at hi;omega
   .exact h0
  rw[getElem!_pos z.cells _ (Nat.mod_lt _ D)];exact Array.getElem_mem_toList _)
 simp only[Nat.add_zero] at C
 obtain⟨m,rfl⟩:∃m,n=m+1:=⟨n-1,by omega⟩
 simp[Builtin.clear_,run_underlying ht,G,C,splice]
theorem fQ{ops:Array Oper}{o:Oper}{a:Act}{w:World}{K:Act->World->Prop}{Q:Exit->Act->World->Prop}{E:Prop}
  (F:o.guard=none) (d x:Operand) (A B:TypeId) (C:o.op=Op.call { callee:=Callee.builtin Builtin.append,args:=#[d,x],argTypes:=#[A,B] })
  (v u:Value) (hd:a.eval d=v) (hx:a.eval x=u) {D:Value} {w':World} (G:(Builtin.append_ #[A,B] o.type #[v,u]).run P w=.ok D w') (H:K (a.put o.dst D) w') :
  if Region.wanted o (yielded ops a.tmps)=true then Oper.wp P o a w K Q else E:=by
 have I:Region.wanted o (yielded ops a.tmps)=true:=by simp[Region.wanted,F]
 rw[if_pos I]
 exact Lib.wp_append_run w d x A B C v u hd hx D w' G H
end
theorem sr{α:Type}{A D R X:List α}{k:Nat}(B:X.length=k)(F:k<=R.length):splice (splice (A++D++R) (A.length+k) D) A.length X=A++X++D++R.drop k:=by
 unfold splice
 have C:(A++D++R).take (A.length+k)=A++(D++R).take k:=by rw[List.append_assoc,List.take_append,List.take_of_length_le (by omega)];congr 2;omega
 have e2:(A++D++R).drop (A.length+k+D.length)=R.drop k:=by
  rw[List.drop_append,List.drop_of_length_le (by simp only[List.length_append];omega),List.nil_append,List.length_append]
  congr 1
  omega
 rw[C,e2]
 have E:((D++R).take k).length=k:=by rw[List.length_take,List.length_append];omega
 have e3:(A++(D++R).take k++(D++R.drop k)).take A.length=A:=by rw[List.append_assoc,List.take_append_of_le_length eH,List.take_of_length_le eH]
 have e4:(A++(D++R).take k++(D++R.drop k)).drop (A.length+X.length)=D++R.drop k:=by
  rw[List.drop_append,List.drop_of_length_le (by simp only[List.length_append];omega),List.nil_append,List.length_append,E,B]
  have:A.length+k-(A.length+k)=0:=by omega
  rw[this,List.drop_zero]
 rw[e3,e4]
 simp[List.append_assoc]
theorem uq{α:Type}{A D Z X:List α}{k:Nat}(B:X.length=k):splice (splice (A++Z) A.length X) (A.length+k) D=A++X++D++Z.drop (k+D.length):=by
 unfold splice
 have C:(A++Z).take A.length=A:=by rw[List.take_append_of_le_length eH,List.take_of_length_le eH]
 have e2:(A++Z).drop (A.length+X.length)=Z.drop k:=by
  rw[List.drop_append,List.drop_of_length_le (by omega),List.nil_append,B];congr 1
  omega
 rw[C,e2]
 have e3:(A++(X++Z.drop k)).take (A.length+k)=A++X:=by
  rw[<-List.append_assoc,List.take_append_of_le_length (by simp only[List.length_append];omega),List.take_of_length_le (by simp only[List.length_append];omega)]
 have e4:(A++(X++Z.drop k)).drop (A.length+k+D.length)=Z.drop (k+D.length):=by
  rw[<-List.append_assoc,List.drop_append,List.drop_of_length_le (by simp only[List.length_append];omega),List.nil_append,List.length_append,List.drop_drop,B]
  congr 1
  omega
 rw[e3,e4]
 simp[List.append_assoc]
end
end Go.Proofs.YtmbpnkacggngkaaGreatDoor
