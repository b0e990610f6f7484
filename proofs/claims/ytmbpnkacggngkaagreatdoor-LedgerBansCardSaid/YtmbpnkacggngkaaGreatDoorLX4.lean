/- LedCut, LedEqs, IdsSpec, IdsSetLaw, LedLaw, LedHas, LedElem, LedRow (put together by bundle.py: only what is needed). -/
import Derived.Laws.StructEq
import Derived.Lib.Split
import Derived.Lib.SplitLaws
import Derived.Lib.IndexBytes
import Derived.Lib.SlTrimSet
import Derived.Lib.SlicesCompact
import Derived.Sort.Walk0
import Derived.Laws.CopyOwn
import Derived.Lib.AppendZerosOnto
import Derived.Lib.AppendZeros
import Derived.Lib.Overlaps
import Derived.Lib.SliceRun
import Derived.Test.YtmbpnkacggngkaaGreatDoorLX3
set_option maxRecDepth 100000
set_option maxHeartbeats 16000000
namespace Go.Proofs.YtmbpnkacggngkaaGreatDoor
open Batch
open Tryz
section
open Go.RowKit Mem Led
theorem ej(s:Txt) (E:s.length<=9223372036854775807) (w:World):Calls prog 24 #[.string (str s)] w fun e w'=>e=.returned (.string (str (Led.few s)))/\w=w':=by
 have A:=hO (aJ s)
 by_cases h:s.length<=60
 .have e:Led.few s=s:=by unfold Led.few; exact List.take_of_length_le h
  rw [e]; have B:(str s).size<=60:=by rw [A.out]; exact h
  go_enter func24,ntmps24
  go_wp2; go_ret; exact⟨rfl,rfl⟩
 .have B:60<(str s).size:=by rw [A.out]; omega
  have F:(str s).size<=9223372036854775807:=by rw [A.out]; omega
  have C:∀ w',(Instr.slice 9 (.string (str s)) none (some (.int .i64 60)) none).run prog w'=.ok (.string (str (Led.few s))) w':=fun w'=>by
   have e:(str s).extract 0 60=str (Led.few s):=by
    apply ByteArray.ext
    apply Array.toList_inj.1
    simp [str,Led.few]
   have D:(0:Int)<=60/\(60:Int)<=((str s).size:Int):=⟨by omega,by omega⟩; rw [<-e]; simp [Instr.slice,Instr.sliceBounds,Instr.sliceBound,asIntOf,run_underlying underlying9,D]
  go_enter func24,ntmps24
  go_wp2; go_ret; exact⟨rfl,rfl⟩
theorem lZ{w w':World} {base size:Nat} {e:TypeId} {v:Value} {n:Nat} {xs:List Value} (h:w.ownsRow base e size v n xs) (C:eD w w'):w'.ownsRow base e size v n xs:=by
 refine⟨h.1,?_⟩
 rcases h.2 with D|⟨g,cap,A,E,F,B,r⟩
 .exact .inl D
 .exact .inr ⟨g,cap,A,E,F,by rw [C.block g (Array.getElem?_eq_some_iff.1 B).1]; exact B,r⟩
theorem few_q(s:Txt) (A:s.length<=9223372036854775807) (w:World):Calls prog 24 #[.string (str s)] w fun e w'=>e=.returned (.string (str (Led.few s)))/\eD w w' :=
 (ej s A w).mono fun e w' ⟨B,hw⟩=>⟨B,by rw [<-hw]; exact Below.refl _ _⟩
theorem infoJ:(prog.info? 54).map (fun i=>(i.zero,i.size,i.bytes))=some (some (.agg #[.string ⟨#[]⟩,.string ⟨#[]⟩]),2,32):=by kernel_rfl
def fewT (L:List Txt) (t:Nat):List Value:=tv ((L.take t).map Led.few)
theorem fewT_snoc(L:List Txt) (t:Nat) (h:t<L.length):fewT L t++[.string (str (Led.few (L[t]'h)))]=fewT L (t+1):=by
 unfold fewT
 rw [List.take_add_one,List.getElem?_eq_getElem h,Option.toList_some,List.map_append,ru]
 rfl
def oc (E n:Int) (name:Txt) (R:Int) (path A:Txt) (N:Int) (S:Value) (B C:Txt) (F:Int) (G:Bool) (D H:Txt) (I J:Int) (L O M:Txt) (state since:Int) (Q:Txt) (num:Int) (K:Value):List Value :=
 [.int .i64 E,.int .i64 n,.string (str name),.int .i64 R,.string (str path),.string (str A),.int .i64 N,S,.string (str B),.string (str C),.int .i64 F,.bool G,.string (str D),.string (str H),.int .i64 I,.int .i64 J,.string (str L),.string (str O),.string (str M),.int .i64 state,.int .i64 since,.string (str Q),.int .i64 num,K]
theorem oc_one(G n:Int) (name:Txt) (T:Int) (path C:Txt) (O:Int) (A:Option Addr) (x y:Nat) (D E:Txt) (H:Int) (I:Bool) (F J:Txt) (K L:Int) (M Q N:Txt) (state since:Int) (R:Txt) (num:Int) (B:Option Addr) (z q:Nat):∀ v∈oc G n name T path C O (.slice A x y) D E H I F J K L M Q N state since R num (.slice B z q),v.oneCell'=true:=by
 intro v S
 simp only [oc,List.mem_cons,List.not_mem_nil,or_false] at S
 rcases S with rfl|rfl|rfl|rfl|rfl|rfl|rfl|rfl|rfl|rfl|rfl|rfl|rfl|rfl|rfl|rfl|rfl|rfl|rfl|rfl|rfl|rfl|rfl|rfl <;> rfl
theorem iI:∀ (vs:List Value) {w:World} {base n g k size:Nat} {v:Value} {e:TypeId} {xs:List Value},w.ownsRow base e size v n xs->g<base->(w.setCells g k vs).ownsRow base e size v n xs
 | [],_,_,_,_,_,_,_,_,_,h,_=>h
 | u::vs,_,_,_,_,_,_,_,_,_,h,hg=>iI vs (ownsRow_setCell_below h hg u) hg
theorem cut_go(L n:Int) (name:Txt) (en:Int) (path C:Txt) (Y:Int) (D E:Txt) (M:Int) (N:Bool) (F H:Txt) (O Q:Int) (I U J:Txt) (state since:Int) (V:Txt) (num:Int) (As:Option Addr) (ns cS:Nat) (Ak:Option Addr) (f cK:Nat) (sels:List Txt) (T:List Jwk) (AF:name.length<=9223372036854775807) (AG:path.length<=9223372036854775807) (An:C.length<=9223372036854775807) (At:D.length<=9223372036854775807) (Au:E.length<=9223372036854775807) (Av:F.length<=9223372036854775807) (AH:H.length<=9223372036854775807) (AI:I.length<=9223372036854775807) (AT:U.length<=9223372036854775807) (AJ:J.length<=9223372036854775807) (AU:V.length<=9223372036854775807) (w:World)
  (hs:Ts w As ns sels) (BK:∀ s∈sels,s.length<=9223372036854775807) (_hsc:ns<=cS) (hk:Vs w w.heap.size 2 Ak f (jv T)) (BL:∀ k∈T,k.kid.length<=9223372036854775807/\k.x.length<=9223372036854775807) (_hkc:f<=cK) :
  Calls prog 13 #[.agg (oc L n name en path C Y (.slice As ns cS) D E M N F H O Q I U J state since V num (.slice Ak f cK)).toArray] w fun e w'=>∃ A1 c1 A2 c2 KK,e=.returned (.agg (oc L n (Led.few name) en (Led.few path) (Led.few C) Y (.slice A1 (min ns 6) c1) (Led.few D) (Led.few E) M N (Led.few F) (Led.few H) O Q (Led.few I) (Led.few U) (Led.few J) state since (Led.few V) num (.slice A2 (min f 9) c2)).toArray)/\min ns 6<=c1/\min f 9<=c2 /\
   w'.ownsRow w.heap.size 9 1 (.slice A1 (min ns 6) c1) (min ns 6) (tv ((sels.take 6).map Led.few))/\w'.ownsRow w.heap.size 54 2 (.slice A2 (min f 9) c2) (min f 9) (jv KK)/\dR (fun x r=>r=Sha.bZ x) (T.take 9) KK/\eD w w':=by
 obtain⟨W,hW⟩:=eA ((w.alloc (.cells (oc L n name en path C Y (.slice As ns cS) D E M N F H O Q I U J state since V num (.slice Ak f cK)).toArray 47)).alloc (.cells (ah lv (.slice none 0 0) (.slice none 0 0)).toArray 47))
 have B:Blk W w.heap.size (oc L n name en path C Y (.slice As ns cS) D E M N F H O Q I U J state since V num (.slice Ak f cK)) 47:=by rw [<-hW]; exact(Blk.new _ _ _).alloc _
 have Z:Blk W (w.heap.size+1) (ah lv (.slice none 0 0) (.slice none 0 0)) 47:=by
  have:=Blk.new (w.alloc (.cells (oc L n name en path C Y (.slice As ns cS) D E M N F H O Q I U J state since V num (.slice Ak f cK)).toArray 47)) (ah lv (.slice none 0 0) (.slice none 0 0)) 47; rw [<-hW]; simpa using this
 have Ao:eD w W:=by rw [<-hW]; exact eH.alloc (by simp) _
 have d:Chg [w.heap.size] W W:=Chg.refl _ _
 unfold oc ah lv at hW
 simp only [nm,tx,show str []=⟨#[]⟩ from rfl] at hW
 have HW:=hO hW
 clear hW
 unfold oc
 go_enter func13,ntmps13
 go_upto_region 1 with fail
 rw [HW.out]
 have q:W.cell? ⟨w.heap.size,2,none⟩=some (.string (str name)):=B.cell 2
 have qf:W.frozen? ⟨w.heap.size,2,none⟩=false:=B.froz 2
 have ql:=B.lt
 go_wp2_with fail
 refine(ej name AF W).mono ?_
 rintro e w' ⟨rfl,rfl⟩
 go_upto_region 2 with fail
 have B':Blk (W.setCell ⟨w.heap.size,2,none⟩ (.string (str (Led.few name)))) w.heap.size (oc L n (Led.few name) en path C Y (.slice As ns cS) D E M N F H O Q I U J state since V num (.slice Ak f cK)) 47:=B.set 2 (.string (str (Led.few name)))
 have R:=Z.set_ne (p:=⟨w.heap.size,2,none⟩) (by simp) (.string (str (Led.few name)))
 have S:=d.setCell (p:=⟨w.heap.size,2,none⟩) (.inl (by simp)) (.string (str (Led.few name)))
 generalize W.setCell ⟨w.heap.size,2,none⟩ (.string (str (Led.few name)))=W1 at *
 clear B Z d q qf ql
 have B:=B'
 have Z:=R
 have d:=S
 clear B' R S
 have q:W1.cell? ⟨w.heap.size,4,none⟩=some (.string (str path)):=B.cell 4
 have qf:W1.frozen? ⟨w.heap.size,4,none⟩=false:=B.froz 4
 have ql:=B.lt
 go_wp2_with fail
 refine(ej path AG W1).mono ?_
 rintro e w' ⟨rfl,rfl⟩
 go_upto_region 3 with fail
 have B':Blk (W1.setCell ⟨w.heap.size,4,none⟩ (.string (str (Led.few path)))) w.heap.size (oc L n (Led.few name) en (Led.few path) C Y (.slice As ns cS) D E M N F H O Q I U J state since V num (.slice Ak f cK)) 47:=B.set 4 (.string (str (Led.few path)))
 have R:=Z.set_ne (p:=⟨w.heap.size,4,none⟩) (by simp) (.string (str (Led.few path)))
 have S:=d.setCell (p:=⟨w.heap.size,4,none⟩) (.inl (by simp)) (.string (str (Led.few path)))
 generalize W1.setCell ⟨w.heap.size,4,none⟩ (.string (str (Led.few path)))=W2 at *
 clear B Z d q qf ql
 have B:=B'
 have Z:=R
 have d:=S
 clear B' R S
 have q:W2.cell? ⟨w.heap.size,5,none⟩=some (.string (str C)):=B.cell 5
 have qf:W2.frozen? ⟨w.heap.size,5,none⟩=false:=B.froz 5
 have ql:=B.lt
 go_wp2_with fail
 refine(ej C An W2).mono ?_
 rintro e w' ⟨rfl,rfl⟩
 go_upto_region 4 with fail
 have B':Blk (W2.setCell ⟨w.heap.size,5,none⟩ (.string (str (Led.few C)))) w.heap.size (oc L n (Led.few name) en (Led.few path) (Led.few C) Y (.slice As ns cS) D E M N F H O Q I U J state since V num (.slice Ak f cK)) 47:=B.set 5 (.string (str (Led.few C)))
 have R:=Z.set_ne (p:=⟨w.heap.size,5,none⟩) (by simp) (.string (str (Led.few C)))
 have S:=d.setCell (p:=⟨w.heap.size,5,none⟩) (.inl (by simp)) (.string (str (Led.few C)))
 generalize W2.setCell ⟨w.heap.size,5,none⟩ (.string (str (Led.few C)))=W3 at *
 clear B Z d q qf ql
 have B:=B'
 have Z:=R
 have d:=S
 clear B' R S
 have y:w.heap.size<W3.heap.size:=B.lt
 have Cr:w.heap.size+1<W3.heap.size:=Z.lt
 have Aw:eD w W3:=Ao.trans (d.below' Ao.size (by simp))
 have AV:Ts W3 As ns sels:=(Vs.below hs Aw).mono Aw.size
 have BM:=hO hk
 have Bf:=hO AV.len
 obtain⟨i0,hi,BN,BO,AK⟩:=al infoT
 obtain⟨iJ,Bg,Bh,Bi,Bj⟩:=al infoJ
 obtain⟨m,hm⟩:=eA (min ns 6)
 have BP:m<=ns:=by omega
 have Bk:m<=6:=by omega
 have HM:=hO (show m<ns->m=6 by omega)
 have BQ:=hO hm
 clear hs hk hm
 go_wp2_with fail
 go_loopw [3,4] (fun v i wx=>∃ (t:Nat) (A:Option Addr) (c:Nat),t<=m/\i=.int .i64 (t:Int)/\v=.slice A t c/\t<=c/\eD W3 wx/\wx.ownsRow W3.heap.size 9 1 (.slice A t c) t (fewT sels t)) (fun _ i _=>6 - (intOf i).toNat)
 case atStart=>exact⟨0,none,0,by omega,rfl,rfl,by omega,Below.refl _ _,World.ownsRow_nil _ _ _ _⟩
 case round =>
  obtain⟨t,A1,c1,ht,rfl,rfl,BS,X,K⟩:=hrel; have q7:wr.cell? ⟨w.heap.size,7,none⟩=some (.slice As ns cS):=(B.below X).cell 7; by_cases BT:t<m
  .have BU:t<ns:=by omega
   have BV:t<6:=by omega
   have Ax:t<sels.length:=by rw [Bf.out]; exact BU
   obtain⟨bs,os,Bl,AL,Ap⟩:=dO (xs:=tv sels) AV (by omega); have qe:wr.cell? ⟨bs,os+t,none⟩=some (.string (str (sels[t]'Ax))):=(X.cell (p:=⟨bs,os+t,none⟩) AL).trans (Ap t _ (by simp [tv,Ax])); have Ay:=BK (sels[t]'Ax) (List.getElem_mem _); have HS:=hO (fewT_snoc sels t Ax); generalize sels[t]'Ax=st at *; rw [Bl] at q7; have j0:(0:Int)<=(t:Int):=by omega
   have j1:(t:Int)<(ns:Int):=by omega
   have j2:(t:Int)<6:=by omega
   have AM:t+1<=maxLen:=by unfold maxLen; omega
   have Ae:W3.heap.size<=wr.heap.size:=X.size; clear Ap Bl; go_wp2_with fail
   refine(ej st Ay wr).mono ?_; rintro e w' ⟨rfl,rfl⟩; go_wp2_with (at_builtin; go_must (refine bi rfl (.tmp 36) (.tmp 44) 25 rfl W3.heap.size i0 (.string ⟨#[]⟩) 16 underlying25 hi BN BO AK rfl _ _ _ rfl K rfl rfl AM (by omega) Ae ?_))
   intro A' c' w6 G Az Bm Ac; have A0:=bz X Ac Ae K eG; rw [HS.out] at G; clear K Ac X; go_wp2; go_roundw
   case rel=>exact⟨t+1,A',c',by omega,by go_num,rfl,Az,A0,G⟩
   case measure=>simp [intOf]; omega
  .have BW:t=m:=by omega
   subst BW; have AW:wr.frozen? ⟨w.heap.size,7,none⟩=false:=(B.below X).froz 7; have ql:w.heap.size<wr.heap.size:=(B.below X).lt; have AN:=d.and_below X; have BX:=B.below X; have AO:=Z.below X; clear B Z d AV; have A3:wr.ownsRow W3.heap.size 9 1 (.slice A1 t c1) t (fewT sels t):=K; have Bn:Blk (wr.setCell ⟨w.heap.size,7,none⟩ (.slice A1 t c1)) w.heap.size (oc L n (Led.few name) en (Led.few path) (Led.few C) Y (.slice A1 t c1) D E M N F H O Q I U J state since V num (.slice Ak f cK)) 47:=BX.set 7 (.slice A1 t c1); have R:=AO.set_ne (p:=⟨w.heap.size,7,none⟩) (by simp) (.slice A1 t c1); have S:=AN.setCell (p:=⟨w.heap.size,7,none⟩) (.inl (by simp)) (.slice A1 t c1); have A4:=ownsRow_setCell_below A3 (a:=⟨w.heap.size,7,none⟩) (by exact y) (.slice A1 t c1); have A5:t<ns->6<=t:=fun h=>by have:=HM.out h; omega
   have Cs:=hO A5; clear X BX AO AN K; have AX:(t<ns/\6<=t)\/ns<=t:=by
    rcases Nat.lt_or_ge t ns with hd|hd
    .exact .inl ⟨hd,A5 hd⟩
    .exact .inr hd
   have Bo:=hO (show t=min ns 6 from BQ.out.symm); have Bp:t<=c1:=BS; have BV:t<=6:=Bk; clear A5 BP ht BT A3 Bk; rcases AX with⟨hd,BY⟩|hd
   all_goals
    go_upto_region 10 with fail
    generalize wr.setCell ⟨w.heap.size,7,none⟩ (.slice A1 t c1)=W4 at *; clear q7 AW ql hd; have B:=Bn; have Z:=R; have d:=S; have K:=A4; clear Bn R S A4; have q:W4.cell? ⟨w.heap.size,8,none⟩=some (.string (str D)):=B.cell 8; have qf:W4.frozen? ⟨w.heap.size,8,none⟩=false:=B.froz 8; have ql:=B.lt; go_wp2_with fail
    refine(ej D At W4).mono ?_; rintro e w' ⟨rfl,rfl⟩; go_upto_region 11 with fail
    have B':Blk (W4.setCell ⟨w.heap.size,8,none⟩ (.string (str (Led.few D)))) w.heap.size (oc L n (Led.few name) en (Led.few path) (Led.few C) Y (.slice A1 t c1) (Led.few D) E M N F H O Q I U J state since V num (.slice Ak f cK)) 47:=B.set 8 (.string (str (Led.few D))); have R:=Z.set_ne (p:=⟨w.heap.size,8,none⟩) (by simp) (.string (str (Led.few D))); have S:=d.setCell (p:=⟨w.heap.size,8,none⟩) (.inl (by simp)) (.string (str (Led.few D))); have G:=ownsRow_setCell_below K (a:=⟨w.heap.size,8,none⟩) (by exact y) (.string (str (Led.few D))); generalize W4.setCell ⟨w.heap.size,8,none⟩ (.string (str (Led.few D)))=W5 at *; clear B Z d K q qf ql; have B:=B'; have Z:=R; have d:=S; have K:=G; clear B' R S G; have q:W5.cell? ⟨w.heap.size,9,none⟩=some (.string (str E)):=B.cell 9; have qf:W5.frozen? ⟨w.heap.size,9,none⟩=false:=B.froz 9; have ql:=B.lt; go_wp2_with fail
    refine(ej E Au W5).mono ?_; rintro e w' ⟨rfl,rfl⟩; go_upto_region 12 with fail
    have B':Blk (W5.setCell ⟨w.heap.size,9,none⟩ (.string (str (Led.few E)))) w.heap.size (oc L n (Led.few name) en (Led.few path) (Led.few C) Y (.slice A1 t c1) (Led.few D) (Led.few E) M N F H O Q I U J state since V num (.slice Ak f cK)) 47:=B.set 9 (.string (str (Led.few E))); have R:=Z.set_ne (p:=⟨w.heap.size,9,none⟩) (by simp) (.string (str (Led.few E))); have S:=d.setCell (p:=⟨w.heap.size,9,none⟩) (.inl (by simp)) (.string (str (Led.few E))); have G:=ownsRow_setCell_below K (a:=⟨w.heap.size,9,none⟩) (by exact y) (.string (str (Led.few E))); generalize W5.setCell ⟨w.heap.size,9,none⟩ (.string (str (Led.few E)))=W6 at *; clear B Z d K q qf ql; have B:=B'; have Z:=R; have d:=S; have K:=G; clear B' R S G; have q:W6.cell? ⟨w.heap.size,12,none⟩=some (.string (str F)):=B.cell 12; have qf:W6.frozen? ⟨w.heap.size,12,none⟩=false:=B.froz 12; have ql:=B.lt; go_wp2_with fail
    refine(ej F Av W6).mono ?_; rintro e w' ⟨rfl,rfl⟩; go_upto_region 13 with fail
    have B':Blk (W6.setCell ⟨w.heap.size,12,none⟩ (.string (str (Led.few F)))) w.heap.size (oc L n (Led.few name) en (Led.few path) (Led.few C) Y (.slice A1 t c1) (Led.few D) (Led.few E) M N (Led.few F) H O Q I U J state since V num (.slice Ak f cK)) 47:=B.set 12 (.string (str (Led.few F))); have R:=Z.set_ne (p:=⟨w.heap.size,12,none⟩) (by simp) (.string (str (Led.few F))); have S:=d.setCell (p:=⟨w.heap.size,12,none⟩) (.inl (by simp)) (.string (str (Led.few F))); have G:=ownsRow_setCell_below K (a:=⟨w.heap.size,12,none⟩) (by exact y) (.string (str (Led.few F))); generalize W6.setCell ⟨w.heap.size,12,none⟩ (.string (str (Led.few F)))=W7 at *; clear B Z d K q qf ql; have B:=B'; have Z:=R; have d:=S; have K:=G; clear B' R S G; have q:W7.cell? ⟨w.heap.size,13,none⟩=some (.string (str H)):=B.cell 13; have qf:W7.frozen? ⟨w.heap.size,13,none⟩=false:=B.froz 13; have ql:=B.lt; go_wp2_with fail
    refine(ej H AH W7).mono ?_; rintro e w' ⟨rfl,rfl⟩; go_upto_region 14 with fail
    have B':Blk (W7.setCell ⟨w.heap.size,13,none⟩ (.string (str (Led.few H)))) w.heap.size (oc L n (Led.few name) en (Led.few path) (Led.few C) Y (.slice A1 t c1) (Led.few D) (Led.few E) M N (Led.few F) (Led.few H) O Q I U J state since V num (.slice Ak f cK)) 47:=B.set 13 (.string (str (Led.few H))); have R:=Z.set_ne (p:=⟨w.heap.size,13,none⟩) (by simp) (.string (str (Led.few H))); have S:=d.setCell (p:=⟨w.heap.size,13,none⟩) (.inl (by simp)) (.string (str (Led.few H))); have G:=ownsRow_setCell_below K (a:=⟨w.heap.size,13,none⟩) (by exact y) (.string (str (Led.few H))); generalize W7.setCell ⟨w.heap.size,13,none⟩ (.string (str (Led.few H)))=W8 at *; clear B Z d K q qf ql; have B:=B'; have Z:=R; have d:=S; have K:=G; clear B' R S G; have q:W8.cell? ⟨w.heap.size,16,none⟩=some (.string (str I)):=B.cell 16; have qf:W8.frozen? ⟨w.heap.size,16,none⟩=false:=B.froz 16; have ql:=B.lt; go_wp2_with fail
    refine(ej I AI W8).mono ?_; rintro e w' ⟨rfl,rfl⟩; go_upto_region 15 with fail
    have B':Blk (W8.setCell ⟨w.heap.size,16,none⟩ (.string (str (Led.few I)))) w.heap.size (oc L n (Led.few name) en (Led.few path) (Led.few C) Y (.slice A1 t c1) (Led.few D) (Led.few E) M N (Led.few F) (Led.few H) O Q (Led.few I) U J state since V num (.slice Ak f cK)) 47:=B.set 16 (.string (str (Led.few I))); have R:=Z.set_ne (p:=⟨w.heap.size,16,none⟩) (by simp) (.string (str (Led.few I))); have S:=d.setCell (p:=⟨w.heap.size,16,none⟩) (.inl (by simp)) (.string (str (Led.few I))); have G:=ownsRow_setCell_below K (a:=⟨w.heap.size,16,none⟩) (by exact y) (.string (str (Led.few I))); generalize W8.setCell ⟨w.heap.size,16,none⟩ (.string (str (Led.few I)))=W9 at *; clear B Z d K q qf ql; have B:=B'; have Z:=R; have d:=S; have K:=G; clear B' R S G; have q:W9.cell? ⟨w.heap.size,17,none⟩=some (.string (str U)):=B.cell 17; have qf:W9.frozen? ⟨w.heap.size,17,none⟩=false:=B.froz 17; have ql:=B.lt; go_wp2_with fail
    refine(ej U AT W9).mono ?_; rintro e w' ⟨rfl,rfl⟩; go_upto_region 16 with fail
    have B':Blk (W9.setCell ⟨w.heap.size,17,none⟩ (.string (str (Led.few U)))) w.heap.size (oc L n (Led.few name) en (Led.few path) (Led.few C) Y (.slice A1 t c1) (Led.few D) (Led.few E) M N (Led.few F) (Led.few H) O Q (Led.few I) (Led.few U) J state since V num (.slice Ak f cK)) 47:=B.set 17 (.string (str (Led.few U))); have R:=Z.set_ne (p:=⟨w.heap.size,17,none⟩) (by simp) (.string (str (Led.few U))); have S:=d.setCell (p:=⟨w.heap.size,17,none⟩) (.inl (by simp)) (.string (str (Led.few U))); have G:=ownsRow_setCell_below K (a:=⟨w.heap.size,17,none⟩) (by exact y) (.string (str (Led.few U))); generalize W9.setCell ⟨w.heap.size,17,none⟩ (.string (str (Led.few U)))=A6 at *; clear B Z d K q qf ql; have B:=B'; have Z:=R; have d:=S; have K:=G; clear B' R S G; have q:A6.cell? ⟨w.heap.size,18,none⟩=some (.string (str J)):=B.cell 18; have qf:A6.frozen? ⟨w.heap.size,18,none⟩=false:=B.froz 18; have ql:=B.lt; go_wp2_with fail
    refine(ej J AJ A6).mono ?_; rintro e w' ⟨rfl,rfl⟩; go_upto_region 17 with fail
    have B':Blk (A6.setCell ⟨w.heap.size,18,none⟩ (.string (str (Led.few J)))) w.heap.size (oc L n (Led.few name) en (Led.few path) (Led.few C) Y (.slice A1 t c1) (Led.few D) (Led.few E) M N (Led.few F) (Led.few H) O Q (Led.few I) (Led.few U) (Led.few J) state since V num (.slice Ak f cK)) 47:=B.set 18 (.string (str (Led.few J))); have R:=Z.set_ne (p:=⟨w.heap.size,18,none⟩) (by simp) (.string (str (Led.few J))); have S:=d.setCell (p:=⟨w.heap.size,18,none⟩) (.inl (by simp)) (.string (str (Led.few J))); have G:=ownsRow_setCell_below K (a:=⟨w.heap.size,18,none⟩) (by exact y) (.string (str (Led.few J))); generalize A6.setCell ⟨w.heap.size,18,none⟩ (.string (str (Led.few J)))=A7 at *; clear B Z d K q qf ql; have B:=B'; have Z:=R; have d:=S; have K:=G; clear B' R S G; have q:A7.cell? ⟨w.heap.size,21,none⟩=some (.string (str V)):=B.cell 21; have qf:A7.frozen? ⟨w.heap.size,21,none⟩=false:=B.froz 21; have ql:=B.lt; go_wp2_with fail
    refine(ej V AU A7).mono ?_; rintro e w' ⟨rfl,rfl⟩; go_upto_region 18 with fail
    have B':Blk (A7.setCell ⟨w.heap.size,21,none⟩ (.string (str (Led.few V)))) w.heap.size (oc L n (Led.few name) en (Led.few path) (Led.few C) Y (.slice A1 t c1) (Led.few D) (Led.few E) M N (Led.few F) (Led.few H) O Q (Led.few I) (Led.few U) (Led.few J) state since (Led.few V) num (.slice Ak f cK)) 47:=B.set 21 (.string (str (Led.few V))); have R:=Z.set_ne (p:=⟨w.heap.size,21,none⟩) (by simp) (.string (str (Led.few V))); have S:=d.setCell (p:=⟨w.heap.size,21,none⟩) (.inl (by simp)) (.string (str (Led.few V))); have G:=ownsRow_setCell_below K (a:=⟨w.heap.size,21,none⟩) (by exact y) (.string (str (Led.few V))); generalize A7.setCell ⟨w.heap.size,21,none⟩ (.string (str (Led.few V)))=l at *; clear B Z d K q qf ql; have B:=B'; have Z:=R; have d:=S; have K:=G; clear B' R S G; have AR:eD w l:=Ao.trans (d.below' Ao.size (by simp)); have Ai:Vs l l.heap.size 2 Ak f (jv T):=(Vs.below BM.out AR).mono AR.size; have A8:=B.lt; have BJ:w.heap.size+1<l.heap.size:=Z.lt; have Bq:=hO (show T.length=f by have:=Ai.len; rw [rW] at this; omega)
    obtain⟨m2,Br⟩:=eA (min f 9); have Bt:m2<=f:=by omega
    have BZ:m2<=9:=by omega
    have Ca:=hO (show m2<f->m2=9 by omega); have Bu:=hO Br; clear Br; go_wp2_with fail
    go_loopw [5,6,7] (fun v i _ wx=>∃ (u:Nat) (A:Option Addr) (c:Nat) (KK:List Jwk),u<=m2/\i=.int .i64 (u:Int)/\v=.slice A u c/\u<=c/\eD l wx/\wx.ownsRow l.heap.size 54 2 (.slice A u c) u (jv KK)/\dR (fun x r=>r=Sha.bZ x) (T.take u) KK) (fun _ i _ _=>9 - (intOf i).toNat)
    case atStart=>exact⟨0,none,0,[],by omega,rfl,rfl,by omega,Below.refl _ _,World.ownsRow_nil _ _ _ _,trivial⟩
    case round =>
     obtain⟨u,A2,c2,KK,hu,rfl,rfl,Cb,X,Aa,Bv⟩:=hrel; have AY:=hO Bv; clear Bv; have q7:wr.cell? ⟨w.heap.size,23,none⟩=some (.slice Ak f cK):=(B.below X).cell 23; by_cases Cc:u<m2
     .have Cd:u<f:=by omega
      have Ct:u<9:=by omega
      have Ad:u<T.length:=by rw [Bq.out]; exact Cd
      have Ce:(jv T).length=f * 2:=Ai.len; have AK:0<(jv T).length:=by omega
      have AP:∃ bk ok,Ak=some ⟨bk,ok,none⟩/\bk<l.heap.size/\∀ j x,(jv T)[j]?=some x->l.cell? ⟨bk,ok+j,none⟩=some x:=by
       have c0:=(Ai.rd 0 _ (List.getElem?_eq_getElem AK)); obtain⟨ad,e,hb,Cf⟩:=c0; have Bw:=World.cell?_spot Cf; obtain⟨bk,ok,sp⟩:=ad; simp [Addr.add] at Bw
       subst Bw; refine⟨bk,ok,e,hb,fun j x hj=>?_⟩; obtain⟨Cu,e',_,Bx⟩:=Ai.rd j x hj; rw [e] at e'; injection e' with e'
       subst e'; have:(⟨bk,ok,none⟩:Addr).add j=⟨bk,ok+j,none⟩:=by
        unfold Addr.add; split <;> simp_all
       rw [this] at Bx; exact Bx
      obtain⟨bk,ok,By,AZ,Ap⟩:=AP; have Bz:wr.cell? ⟨bk,ok+u * 2,none⟩=some (.string (str (T[u]'Ad).kid)):=(X.cell (p:=⟨bk,ok+u * 2,none⟩) AZ).trans (Ap _ _ (jv_at0 Ad)); have B0:wr.cell? ⟨bk,ok+u * 2+1,none⟩=some (.string (str (T[u]'Ad).x)):=(X.cell (p:=⟨bk,ok+u * 2+1,none⟩) AZ).trans (by rw [Nat.add_assoc]; exact Ap _ _ (jv_at1 Ad))
      have Ay:=BL (T[u]'Ad) (List.getElem_mem _); have HS:=hO (show T.take (u+1)=T.take u++[T[u]'Ad] by rw [List.take_add_one,List.getElem?_eq_getElem Ad]; rfl)
      generalize T[u]'Ad=kk at *; rw [By] at q7; have j0:(0:Int)<=(u:Int):=by omega
      have j1:(u:Int)<(f:Int):=by omega
      have j2:(u:Int)<9:=by omega
      have Cg:=hO Ay.1; have Ch:=hO Ay.2; have B1:w.heap.size<wr.heap.size:=Nat.lt_of_lt_of_le A8 X.size; have AS:bk<wr.heap.size:=Nat.lt_of_lt_of_le AZ X.size; clear Ap By Ay Ce AK; go_wp2_with fail
      have f1:∀ p,(ab wr p).cell? ⟨w.heap.size,23,none⟩=some (.slice (some ⟨bk,ok,none⟩) f cK):=fun p=>(ap B1 p).trans q7; have f2:∀ p,(ab wr p).cell? ⟨bk,ok+u * 2,none⟩=some (.string (str kk.kid)):=fun p=>(ap AS p).trans Bz; have f3:∀ p,(ab wr p).cell? ⟨bk,ok+u * 2+1,none⟩=some (.string (str kk.x)):=fun p=>(ap AS p).trans B0; refine oY [([0,1,2,3,4,5,6],7),([8,9,10,11,12,13,14],15)] [16] [(17,fun v w'=>∃ g,wr.heap.size<=g/\v=.pointer (some ⟨g,0,none⟩)/\Blk w' g [.string ⟨#[]⟩,.string ⟨#[]⟩] 54)] [18] (by kernel_rfl) (by kernel_rfl) (by
       intro x hx; simp only [List.mem_cons,List.not_mem_nil,or_false] at hx; subst hx; exact ax fun v w w' hb ⟨g,e0,e,h⟩=>⟨g,e0,e,h.below hb⟩) ?_
      simp only [ix,pick,List.getD_cons_zero,List.getD_cons_succ]; repeat (go_big_quiet_step (fail))
      refine wpQuiet_nil (rF rfl (fun K0 A9=>?_)); go_simp
      refine⟨_,fun p=>oh (few_q kk.kid Cg.out _),A9 _ ?_⟩; clear A9 K0; repeat (go_big_quiet_step (fail))
      refine wpQuiet_nil (rF rfl (fun K0 A9=>?_)); go_simp
      refine⟨_,fun p=>oh (few_q kk.x Ch.out _),A9 _ ?_⟩; clear A9 K0; repeat (go_big_quiet_step (fail))
      refine wpQuiet_nil ?_; refine⟨_,rfl,rfl,?_,?_⟩
      .intro w1 Ci
       have Cj:=Ci.below.size; go_simp
       exact⟨GR.of eH,w1.heap.size,Cj,rfl,Blk.new w1 [.string ⟨#[]⟩,.string ⟨#[]⟩] _⟩
      .rintro v w6 B2 ⟨_,gx,B3,rfl,Af⟩
       have A0:=B2.below; have Aw:eD l w6:=X.trans (A0.mono X.size); have AA:=lZ Aa A0; have Ba:(Value.slice A2 u c2).ownBlock≠some gx:=fun e=>by have:=(Aa.lt gx e).2; omega
       have Bb:l.heap.size<=gx:=Nat.le_trans X.size B3; generalize hfk:Led.few kk.kid=fk at *; generalize hfx:Led.few kk.x=z at *; have B4:=hO hfk; have AQ:=hO hfx; clear hfk hfx; have x0:w6.cell? ⟨gx,0,none⟩=some (.string ⟨#[]⟩):=Af.cell 0; have x1:w6.cell? ⟨gx,1,none⟩=some (.string ⟨#[]⟩):=Af.cell 1; have y0:w6.frozen? ⟨gx,0,none⟩=false:=Af.froz 0; have y1:w6.frozen? ⟨gx,1,none⟩=false:=Af.froz 1; have xl:=Af.lt; clear f1 f2 f3 q7 Bz B0 B2 A0 Aa X B3; go_upto_region 23 with fail
       have B7:Blk ((w6.setCell ⟨gx,0,none⟩ (.string (str fk))).setCell ⟨gx,1,none⟩ (.string (str z))) gx [.string (str fk),.string (str z)] 54:=(Af.set 0 (.string (str fk))).set 1 (.string (str z)); have Aq:=(Aw.setCell (p:=⟨gx,0,none⟩) Bb (.string (str fk))).setCell (p:=⟨gx,1,none⟩) Bb (.string (str z)); have Ab:=tz (tz AA (p:=⟨gx,0,none⟩) (.string (str fk)) Ba) (p:=⟨gx,1,none⟩) (.string (str z)) Ba; generalize (w6.setCell ⟨gx,0,none⟩ (.string (str fk))).setCell ⟨gx,1,none⟩ (.string (str z))=w7 at *; clear x0 x1 y0 y1 xl Af Aw AA; have x0:w7.cell? ⟨gx,0,none⟩=some (.string (str fk)):=B7.cell 0; have x1:w7.cell? ⟨gx,1,none⟩=some (.string (str z)):=B7.cell 1; have y0:w7.frozen? ⟨gx,0,none⟩=false:=B7.froz 0; have xl:=B7.lt; have AM:u+1<=maxLen:=by unfold maxLen; omega
       have Ae:l.heap.size<=w7.heap.size:=Aq.size; by_cases Ar:fk=[]
       .subst Ar
        have B5:str []=⟨#[]⟩:=rfl; rw [B5] at x0; obtain⟨wc,cc,Ck,AL,Bc⟩:=kO z w7; have Cl:z.length<=1000000:=by have:=Led.mI kk.x; rw [AQ.out] at this; omega
        have B6:=hO (rI (some ⟨w7.heap.size,0,none⟩) z.length cc z wc AL Cl); rw [B5]; go_wp2_with fail
        refine B6.out.mono ?_; rintro e wn ⟨rfl,B8⟩; have Aj:=Bc.trans (B8.mono Bc.size); have B9:=B7.below Aj; have BA:=Aq.trans (Aj.mono Aq.size); have Al:=lZ Ab Aj; have Cm:=hO (rfl:Sha.bZ z=Sha.bZ z); generalize hgn:Sha.bZ z=fn at *; have Cn:=hO hgn; clear hgn Cm Ck AL Bc B8 Aj Ab Aq B7 x0 x1 y0 xl Ae B6; have x0:wn.cell? ⟨gx,0,none⟩=some (.string (str [])):=B9.cell 0; have y0:wn.frozen? ⟨gx,0,none⟩=false:=B9.froz 0; have xl:=B9.lt; go_upto_region 25 with fail
        have BB:Blk (wn.setCell ⟨gx,0,none⟩ (.string (str fn))) gx [.string (str fn),.string (str z)] 54:=B9.set 0 (.string (str fn)); have AB:=BA.setCell (p:=⟨gx,0,none⟩) Bb (.string (str fn)); have Ag:=tz Al (p:=⟨gx,0,none⟩) (.string (str fn)) Ba; generalize wn.setCell ⟨gx,0,none⟩ (.string (str fn))=wy at *; clear x0 y0 xl B9 BA Al; have x0:wy.cell? ⟨gx,0,none⟩=some (.string (str fn)):=BB.cell 0; have x1:wy.cell? ⟨gx,1,none⟩=some (.string (str z)):=BB.cell 1; have Ae:l.heap.size<=wy.heap.size:=AB.size; have AC:Vs (wy.alloc (.cells #[.string (str fn),.string (str z)] 54)) (wy.alloc (.cells #[.string (str fn),.string (str z)] 54)).heap.size 2 (some ⟨wy.heap.size,0,none⟩) 1 [.string (str fn),.string (str z)] :=
         ⟨rfl,fun j q hj=>⟨_,rfl,by simp,by rw [aO]; exact((Blk.new wy [.string (str fn),.string (str z)] 54).cell j).trans hj⟩⟩
        go_wp2_with (at_builtin; go_must (refine au (wy.alloc (.cells #[.string (str fn),.string (str z)] 54)) rfl (.tmp 134) (.tmp 136) 43 rfl l.heap.size 54 iJ (.agg #[.string ⟨#[]⟩,.string ⟨#[]⟩]) 2 32 underlying43 Bg Bh Bi Bj rfl (by omega) _ _ _ rfl (Ag.alloc _) _ _ 1 _ _ rfl AC (by intro v hv; simp at hv; rcases hv with rfl|rfl <;> rfl) AM (by omega) (by simp; omega) ?_))
        intro A' c' w8 G Az Bm Ac; have Bd:eD l w8:=Mem.ay (AB.alloc Ae _) Ac (by simp; omega) (Ag.alloc _)
        have Be:=hO (show dR (fun x r=>r=Sha.bZ x) (T.take (u+1)) (KK++[⟨fn,z⟩]) by
         rw [HS.out]; exact AY.out.snoc ⟨AQ.out.symm,by rw [B4.out,if_pos rfl]; show _=_; rw [AQ.out]; exact Cn.out.symm⟩)
        have Ah:w8.ownsRow l.heap.size 54 2 (.slice A' (u+1) c') (u+1) (jv (KK++[⟨fn,z⟩])):=by rw [jv_snoc]; exact G
        clear Ag Ac AB G AC; go_wp2; go_roundw
        case rel=>exact⟨u+1,A',c',KK++[⟨fn,z⟩],by omega,by go_num,rfl,Az,Bd,Ah,Be.out⟩
        case measure=>simp [intOf]; omega
       .have e1:decide (str fk=⟨#[]⟩)=false:=by simp [str]; exact Ar
        have e2:(str fk).toList.isEmpty=false:=by rw [mQ]; simpa using Ar
        have e3:fk.isEmpty=false:=by simpa using Ar
        have e4:(fk==[])=false:=by simpa using Ar
        have AC:Vs (w7.alloc (.cells #[.string (str fk),.string (str z)] 54)) (w7.alloc (.cells #[.string (str fk),.string (str z)] 54)).heap.size 2 (some ⟨w7.heap.size,0,none⟩) 1 [.string (str fk),.string (str z)] :=
         ⟨rfl,fun j q hj=>⟨_,rfl,by simp,by rw [aO]; exact((Blk.new w7 [.string (str fk),.string (str z)] 54).cell j).trans hj⟩⟩
        go_wp2_with (at_builtin; go_must (refine au (w7.alloc (.cells #[.string (str fk),.string (str z)] 54)) rfl (.tmp 134) (.tmp 136) 43 rfl l.heap.size 54 iJ (.agg #[.string ⟨#[]⟩,.string ⟨#[]⟩]) 2 32 underlying43 Bg Bh Bi Bj rfl (by omega) _ _ _ rfl (Ab.alloc _) _ _ 1 _ _ rfl AC (by intro v hv; simp at hv; rcases hv with rfl|rfl <;> rfl) AM (by omega) (by simp; omega) ?_))
        intro A' c' w8 G Az Bm Ac; have Bd:eD l w8:=Mem.ay (Aq.alloc Ae _) Ac (by simp; omega) (Ab.alloc _)
        have Be:=hO (show dR (fun x r=>r=Sha.bZ x) (T.take (u+1)) (KK++[⟨fk,z⟩]) by
         rw [HS.out]; exact AY.out.snoc ⟨AQ.out.symm,by rw [B4.out,if_neg Ar]⟩)
        have Ah:w8.ownsRow l.heap.size 54 2 (.slice A' (u+1) c') (u+1) (jv (KK++[⟨fk,z⟩])):=by rw [jv_snoc]; exact G
        clear Ab Ac Aq G AC; go_wp2; go_roundw
        case rel=>exact⟨u+1,A',c',KK++[⟨fk,z⟩],by omega,by go_num,rfl,Az,Bd,Ah,Be.out⟩
        case measure=>simp [intOf]; omega
     .have Co:u=m2:=by omega
      subst Co; have AX:(u<f/\9<=u)\/f<=u:=by
       rcases Nat.lt_or_ge u f with hd|hd
       .exact .inl ⟨hd,by have:=Ca.out hd; omega⟩
       .exact .inr hd
      have BX:Blk (wr.setCell ⟨w.heap.size,23,none⟩ (.slice A2 u c2)) w.heap.size (oc L n (Led.few name) en (Led.few path) (Led.few C) Y (.slice A1 t c1) (Led.few D) (Led.few E) M N (Led.few F) (Led.few H) O Q (Led.few I) (Led.few U) (Led.few J) state since (Led.few V) num (.slice A2 u c2)) 47:=(B.below X).set 23 (.slice A2 u c2); have AO:=(Z.below X).set_ne (p:=⟨w.heap.size,23,none⟩) (by simp) (.slice A2 u c2); have AN:=(d.and_below X).setCell (p:=⟨w.heap.size,23,none⟩) (.inl (by simp)) (.slice A2 u c2); have AW:wr.frozen? ⟨w.heap.size,23,none⟩=false:=(B.below X).froz 23; have ql:w.heap.size<wr.heap.size:=(B.below X).lt; have BC:=ownsRow_setCell_below (lZ K X) (a:=⟨w.heap.size,23,none⟩) (by exact y) (.slice A2 u c2); have BD:=ownsRow_setCell_below Aa (a:=⟨w.heap.size,23,none⟩) (by exact A8) (.slice A2 u c2); have HU:=hO (show min f 9=u from Bu.out); clear K Aa X Cc hu Bt BZ; rcases AX with⟨hd,BY⟩|hd
      all_goals
       go_upto_region 27 with fail
       generalize wr.setCell ⟨w.heap.size,23,none⟩ (.slice A2 u c2)=Cp at *; clear q7 AW ql; obtain⟨s1,s2⟩:=pd AO rfl (vs:=oc L n (Led.few name) en (Led.few path) (Led.few C) Y (.slice A1 t c1) (Led.few D) (Led.few E) M N (Led.few F) (Led.few H) O Q (Led.few I) (Led.few U) (Led.few J) state since (Led.few V) num (.slice A2 u c2)) rfl (oc_one _ _ _ _ _ _ _ _ _ _ _ _ _ _ _ _ _ _ _ _ _ _ _ _ _ _ _ _); have BE:=fy BX rfl; have AD:=iI (oc L n (Led.few name) en (Led.few path) (Led.few C) Y (.slice A1 t c1) (Led.few D) (Led.few E) M N (Led.few F) (Led.few H) O Q (Led.few I) (Led.few U) (Led.few J) state since (Led.few V) num (.slice A2 u c2)) BC (g:=w.heap.size+1) (k:=0) (by omega); have AE:=iI (oc L n (Led.few name) en (Led.few path) (Led.few C) Y (.slice A1 t c1) (Led.few D) (Led.few E) M N (Led.few F) (Led.few H) O Q (Led.few I) (Led.few U) (Led.few J) state since (Led.few V) num (.slice A2 u c2)) BD (g:=w.heap.size+1) (k:=0) (by omega); have BF:=(AN.mono (S':=[w.heap.size,w.heap.size+1]) (by simp)).setCells (oc L n (Led.few name) en (Led.few path) (Led.few C) Y (.slice A1 t c1) (Led.few D) (Led.few E) M N (Led.few F) (Led.few H) O Q (Led.few I) (Led.few U) (Led.few J) state since (Led.few V) num (.slice A2 u c2)) (b:=w.heap.size+1) (o:=0) (.inl (by simp)); generalize Cp.setCells (w.heap.size+1) 0 (oc L n (Led.few name) en (Led.few path) (Led.few C) Y (.slice A1 t c1) (Led.few D) (Led.few E) M N (Led.few F) (Led.few H) O Q (Led.few I) (Led.few U) (Led.few J) state since (Led.few V) num (.slice A2 u c2))=wf at *; have Cq:eD w wf:=Ao.trans (BF.below' Ao.size (by simp)); have BG:wf.ownsRow w.heap.size 9 1 (.slice A1 t c1) t (tv ((sels.take 6).map Led.few)):=by
        have h1:=aG (b':=w.heap.size) AD (by omega); have e:sels.take 6=sels.take t:=by
         have hl:=Bf.out; have Cv:=Bo.out; rcases Nat.le_total ns 6 with h|h
         .rw [List.take_of_length_le (by omega),List.take_of_length_le (by omega)]
         .rw [show t=6 by omega]
        rw [e]; exact h1
       have BH:=aG (b':=w.heap.size) AE (by omega); have BI:dR (fun x r=>r=Sha.bZ x) (T.take 9) KK:=by
        have hl:=Bq.out; have Cw:=HU.out; have e:T.take 9=T.take u:=by
         rcases Nat.le_total f 9 with h|h
         .rw [List.take_of_length_le (by omega),List.take_of_length_le (by omega)]
         .rw [show u=9 by omega]
        rw [e]; exact AY.out
       have hH:=s2.has (n:=24) rfl; have hA:=s2.arr (n:=24) rfl; have Am:=hO (And.intro BG (And.intro BH (And.intro BI Cq))); clear BG BH BI AD AE BF; unfold oc at s1 BE; simp only [List.toArray] at s1 BE; go_wp2; refine bodyPost_ret (dr (P:=prog) Tryz.results13 _ _ (w.heap.size+1) 0 24 _ rfl underlying47 rfl oA hH) rfl ?_; rw [<-Bo.out,HU.out]; exact⟨A1,c1,A2,c2,KK,by rw [hA]; rfl,Bp,Cb,Am.out.1,Am.out.2.1,Am.out.2.2.1,Am.out.2.2.2⟩
end
section
open Go.RowKit Mem Led
def aV (k:Led.Jwk):List Value:=[tx k.kid,tx k.x]
def ac (n:Led.Node):List Value:=[tx n.name,tx n.key,nm n.expires,nm n.seq,tx n.doc]
def ao (j:Led.Join):List Value:=[tx j.text,tx j.name,nm j.expires,.bool j.used]
def aq (k:Led.Key):List Value:=[tx k.kid,tx k.seed,nm k.state,nm k.since]
def jwkEq (a b:Led.Jwk):Bool:=a.kid==b.kid&&a.x==b.x
def tF (a b:Led.Node):Bool:=a.name==b.name&&a.key==b.key&&a.expires==b.expires&&a.seq==b.seq&&a.doc==b.doc
def tQ (a b:Led.Join):Bool:=a.text==b.text&&a.name==b.name&&a.expires==b.expires&&a.used==b.used
def keyEq (a b:Led.Key):Bool:=a.kid==b.kid&&a.seed==b.seed&&a.state==b.state&&a.since==b.since
theorem rV{a b:Led.Jwk}:jwkEq a b=true↔a=b:=by
 cases a; cases b; simp [jwkEq]
theorem nodeEq_iff{a b:Led.Node}:tF a b=true↔a=b:=by
 cases a; cases b; simp [tF,and_assoc]
theorem joinEq_iff{a b:Led.Join}:tQ a b=true↔a=b:=by
 cases a; cases b; simp [tQ,and_assoc]
theorem keyEq_iff{a b:Led.Key}:keyEq a b=true↔a=b:=by
 cases a; cases b; simp [keyEq,and_assoc]
theorem neq_jwk(a b:Led.Jwk) (w:World):(Go.binOp .neq 54 (.agg (aV a).toArray) (.agg (aV b).toArray)).run prog w=.ok (.bool (!jwkEq a b)) w:=by
 have u3:=underlying9
 have A:prog.underlying 54=some (.struct (prog.fieldsOf 54)):=by kernel_rfl
 have B:prog.stoodInHeld 54=false:=by kernel_rfl
 unfold jwkEq
 simp only [aV,tx]
 rw [run_neq_struct,show (10000:Nat)=9999+1 from rfl,run_equalIn_agg w 9999 54 _ _ A B]
 simp only [Program.fieldsOf,underlying54]
 go_simp
 by_cases C:a.kid=b.kid <;> by_cases D:a.x=b.x <;> simp [C,D]
end
section
namespace Ids
abbrev Txt:=List UInt8
def small (c:UInt8):Bool:=decide (97<=c.toNat/\c.toNat<=122)
def digit (c:UInt8):Bool:=decide (48<=c.toNat/\c.toNat<=57)
def inner (c:UInt8):Bool:=small c||digit c||c==46||c==45
def named (c:UInt8):Bool:=inner c||decide (65<=c.toNat/\c.toNat<=90)||c==95
def seen (c:UInt8):Bool:=decide (33<=c.toNat/\c.toNat<=126)
def bD (p:UInt8->Bool) (l:Txt):Bool:=l.all p&&!l.isEmpty
def gG (c:UInt8):Bool:=c==46||c==45
def edged (l:Txt):Bool:=(l.head?.map gG).getD false||(l.getLast?.map gG).getD false
def domain (l:Txt):Bool:=decide (l.length<=16)&&bD inner l&&!edged l
def ie (w:Txt):Bool:=bD named w&&!(w==[46])&&!(w==[46,46])
def bf:Txt->List Txt
 | []=>[[]]
 | c::t=>if c=47 then []::bf t else match bf t with
  | []=>[[c]]
  | w::ws=>(c::w)::ws
theorem pieces_ne:∀ l,bf l≠[]
 | []=>by simp [bf]
 | c::t=>by
  unfold bf; split
  .simp
  .split <;> simp
theorem nR{l:Txt} (h:47∉l):bf l=[l]:=by
 induction l with
 | nil=>rfl
 | cons c t ih =>
  have A:c≠47:=fun e=>h (by simp [e]); have ht:47∉t:=fun e=>h (by simp [e]); unfold bf; rw [if_neg A,ih ht]
theorem pH{l:Txt} (h:47∉l) (r:Txt):bf (l++47::r)=l::bf r:=by
 induction l with
 | nil=>simp [bf]
 | cons c t ih =>
  have A:c≠47:=fun e=>h (by simp [e]); have ht:47∉t:=fun e=>h (by simp [e]); rw [List.cons_append,bf,if_neg A,ih ht]
def dV (l:Txt):Bool:=(bf l).all ie
def path (l:Txt):Bool:=match l with
 | []=>false
 | c::t=>decide (t.length+1<=40)&&c==47&&dV t
def eT:Txt:=[47,97,103,101,110,116,47]
def agent (l:Txt):Bool:=eT.isPrefixOf l&&path l&&!(l.drop 7).contains 47
def bV (c:UInt8) (l:Txt):Nat:=(l.takeWhile (· != c)).length
theorem till_le(c:UInt8) (l:Txt):bV c l<=l.length:=by
 unfold bV
 have:=(List.takeWhile_sublist (· != c) (l:=l)).length_le
 exact this
def selector (l:Txt):Bool:=decide (bV 58 l<l.length)&&decide (bV 58 l<=8)&&bD small (l.take (bV 58 l))&&decide (l.length<=bV 58 l+1+16)&&bD seen (l.drop (bV 58 l+1))
theorem mP(c b:UInt8) (l:Txt):bV c (b::l)=if b=c then 0 else bV c l+1:=by
 unfold bV
 by_cases h:b=c
 .simp [h]
 .simp [h]
theorem fC(c:UInt8):∀ l:Txt,Lib.indexByte l c=if bV c l<l.length then (bV c l:Int) else -1
 | []=>by simp [Lib.indexByte,bV]
 | b::l=>by
  have ih:=fC c l; unfold Lib.indexByte; rw [mP]; by_cases h:b=c
  .simp [h]
  .have B:(b==c)=false:=by simp [h]
   rw [B,if_neg h,List.length_cons]; simp only [Bool.false_eq_true,if_false]; by_cases A:bV c l<l.length
   .rw [if_pos A] at ih
    rw [ih,if_neg (by simp),if_pos (by omega)]; omega
   .rw [if_neg A] at ih
    rw [ih,if_pos (by simp),if_neg (by omega)]
theorem km{c:UInt8} {a:Txt} (h:c∉a) (r:Txt):bV c (a++c::r)=a.length:=by
 induction a with
 | nil=>simp [bV]
 | cons b t ih =>
  have A:b≠c:=fun e=>h (by simp [e]); have ht:c∉t:=fun e=>h (by simp [e]); rw [List.cons_append,mP,if_neg A,ih ht]; simp
theorem ry{c:UInt8} {l:Txt} (h:c∉l):bV c l=l.length:=by
 induction l with
 | nil=>rfl
 | cons b t ih =>
  have A:b≠c:=fun e=>h (by simp [e]); have ht:c∉t:=fun e=>h (by simp [e]); rw [mP,if_neg A,ih ht]; simp
theorem till_lt{c:UInt8} {l:Txt}:bV c l<l.length↔c∈l:=by
 constructor
 .intro h
  apply Classical.byContradiction
  intro A; rw [ry A] at h; omega
 .intro h
  obtain⟨a,r,rfl,B⟩:=List.eq_append_cons_of_mem h; rw [km B]; simp
theorem till_eq{c:UInt8} {l:Txt} {k:Nat} (F:k<=l.length) (C:∀ j,j<k->l[j]?≠some c) (D:k<l.length->l[k]?=some c):bV c l=k:=by
 have B:c∉l.take k:=by
  intro E; obtain⟨j,A⟩:=List.mem_iff_getElem?.1 E; rw [List.getElem?_take] at A; split at A
  .rename_i hjk
   exact C j hjk A
  .cases A
 by_cases h:k<l.length
 .have e:l=l.take k++c::l.drop (k+1):=by
   have hx:=D h; rw [List.getElem?_eq_getElem h] at hx; injection hx with hx
   rw [<-hx,<-List.drop_eq_getElem_cons h,List.take_append_drop]
  have:=km B (l.drop (k+1)); rw [<-e,List.length_take] at this; omega
 .have:k=l.length:=by omega
  subst this; rw [List.take_length] at B; exact ry B
theorem tw(l:Txt):Lib.splitK [47] 0 (l.count 47) l=bf l:=by
 obtain⟨n,B⟩:=eA (l.length)
 induction n using Nat.strongRecOn generalizing l with
 | _ n ih =>
  by_cases h:47∈l
  .obtain⟨a,r,rfl,A⟩:=List.eq_append_cons_of_mem h
   have C:(a++47::r).count 47=r.count 47+1:=by
    rw [List.count_append,List.count_cons_self,List.count_eq_zero.2 A]; omega
   have hi:Lib.index (a++47::r) [47]=(a.length:Int):=by
    rw [Lib.index_one,fC,km A]; simp
   rw [C,Lib.splitK,hi,if_neg (by simp),pH A]; rw [<-ih r.length (by rw [<-B]; simp; omega) r rfl]
   congr 1
   .simp
   .congr 1
    simp
  .rw [List.count_eq_zero.2 h,nR h]
   rfl
theorem mK{p:UInt8->Bool}:∀ {l:Txt},(l.head?.map p).getD false=false->l.dropWhile p=l
 | [],_=>rfl
 | b::l,h=>by
  simp at h
  simp [h]
theorem mJ{p:UInt8->Bool}:∀ {l:Txt},(l.head?.map p).getD false=true->(l.dropWhile p).length<l.length
 | [],h=>by simp at h
 | b::l,h=>by
  simp at h
  have:=(List.dropWhile_sublist p (l:=l)).length_le; simp [h]
  omega
theorem ir:(fun c=>([46,45]:Txt).contains c)=gG:=by
 funext c
 cases A:(c==46) <;> cases B:(c==45) <;> simp_all [gG]
theorem trim_same(l:Txt):(Lib.trimS l [46,45]=l)↔edged l=false:=by
 have e2:∀ l:Txt,Lib.trimLeftS l [46,45]=l.dropWhile gG:=fun l=>by unfold Lib.trimLeftS; rw [ir]
 have e3:∀ l:Txt,Lib.trimRightS l [46,45]=(l.reverse.dropWhile gG).reverse:=fun l=>by unfold Lib.trimRightS; rw [ir]
 unfold Lib.trimS edged
 rw [e2,e3]
 have A:(l.getLast?.map gG).getD false=(l.reverse.head?.map gG).getD false:=by rw [List.head?_reverse]
 rw [A]
 cases B:(l.reverse.head?.map gG).getD false
 .rw [mK B,List.reverse_reverse]
  cases C:(l.head?.map gG).getD false
  .rw [mK C]
   simp
  .have:=mJ C
   constructor
   .intro e
    rw [e] at this; omega
   .intro e
    simp at e
 .have E:=mJ B
  constructor
  .intro e
   have D:=(List.dropWhile_sublist gG (l:=(l.reverse.dropWhile gG).reverse)).length_le; rw [e] at D; simp at E D
   omega
  .intro e
   simp at e
def tO:Txt:=[97,98,99,100,101,102,103,104,105,106,107,108,109,110,111,112,113,114,115,116,117,118,119,120,121,122,48,49,50,51,52,53,54,55,56,57,46,45]
def tN:Txt:=[97,98,99,100,101,102,103,104,105,106,107,108,109,110,111,112,113,114,115,116,117,118,119,120,121,122,65,66,67,68,69,70,71,72,73,74,75,76,77,78,79,80,81,82,83,84,85,86,87,88,89,90,48,49,50,51,52,53,54,55,56,57,46,45,95]
def tM:Txt:=[97,98,99,100,101,102,103,104,105,106,107,108,109,110,111,112,113,114,115,116,117,118,119,120,121,122]
theorem all_u8{p:UInt8->Bool} (h:(List.range 256).all (fun k=>p (UInt8.ofNat k))=true) (c:UInt8):p c=true:=by
 have:=List.all_eq_true.1 h c.toNat (List.mem_range.2 c.toNat_lt)
 simpa using this
theorem inner_list(c:UInt8):tO.contains c=inner c:=by
 have:=all_u8 (p:=fun c=>tO.contains c==inner c) (by decide +kernel) c
 simpa using this
theorem named_list(c:UInt8):tN.contains c=named c:=by
 have:=all_u8 (p:=fun c=>tN.contains c==named c) (by decide +kernel) c
 simpa using this
theorem small_list(c:UInt8):tM.contains c=small c:=by
 have:=all_u8 (p:=fun c=>tM.contains c==small c) (by decide +kernel) c
 simpa using this
theorem dotty_list(c:UInt8):([46,45]:Txt).contains c=gG c:=congrFun ir c
def pJ (some:Txt) (most:Nat) (l:Txt):Bool:=l.all (fun c=>some.contains c)&&decide (1<=l.length)&&decide (l.length<=most)
theorem gC(l:Txt):(!l.isEmpty)=decide (1<=l.length):=by cases l <;> simp
theorem of_inner(l:Txt):pJ tO 16 l=(decide (l.length<=16)&&bD inner l):=by
 unfold pJ bD
 simp only [inner_list,gC]
 cases l.all inner <;> cases decide (1<=l.length) <;> cases decide (l.length<=16) <;> rfl
theorem of_named{l:Txt} (h:l.length<=40):pJ tN 40 l=bD named l:=by
 unfold pJ bD
 simp only [named_list,gC,h,decide_true,Bool.and_true]
theorem of_small(l:Txt):pJ tM 8 l=(decide (l.length<=8)&&bD small l):=by
 unfold pJ bD
 simp only [small_list,gC]
 cases l.all small <;> cases decide (1<=l.length) <;> cases decide (l.length<=8) <;> rfl
end Ids
end
section
namespace Ids
theorem lL(a:Txt):¬ a<a:=List.lt_irrefl a
theorem lt_tr{a b c:Txt} (h:a<b) (k:b<c):a<c:=List.lt_trans h k
theorem lt_as{a b:Txt} (h:a<b):¬ b<a:=List.lt_asymm h
theorem ni(a b:Txt):a<b\/a=b\/b<a:=by
 by_cases A:a<b
 .exact .inl A
 .by_cases B:b<a
  .exact .inr (.inr B)
  .exact .inr (.inl (List.le_antisymm (List.not_lt.1 B) (List.not_lt.1 A)))
theorem rise_eq:∀ (a b:List Txt),a.Pairwise (·<·)->b.Pairwise (·<·)->(∀ x,x∈a↔x∈b)->a=b
 | [],[],_,_,_=>rfl
 | [],y::b,_,_,h=>by have:=(h y).2 (by simp); simp at this
 | x::a,[],_,_,h=>by have:=(h x).1 (by simp); simp at this
 | x::a,y::b,ha,hb,h=>by
  have A:=List.pairwise_cons.1 ha; have B:=List.pairwise_cons.1 hb; have F:x=y:=by
   have C:=(h x).1 (by simp); have D:=(h y).2 (by simp); rcases List.mem_cons.1 C with C|C
   .exact C
   .rcases List.mem_cons.1 D with D|D
    .exact D.symm
    .exact absurd (B.1 x C) (lt_as (A.1 y D))
  subst F; rw [rise_eq a b A.2 B.2 fun z=>?_]; constructor
  .intro E
   have:=(h z).1 (by simp [E]); rcases List.mem_cons.1 this with e|e
   .subst e; exact absurd (A.1 z E) (lL z)
   .exact e
  .intro E
   have:=(h z).2 (by simp [E]); rcases List.mem_cons.1 this with e|e
   .subst e; exact absurd (B.1 z E) (lL z)
   .exact e
def qT (L:List Txt):List Txt:=Lib.compact (L.mergeSort fun x y=>decide (x<=y))
theorem upto_rise{d:Array Txt} (E:∀ i j,i<j->j<d.size->¬ d[j]! < d[i]!):∀ m,m<=d.size->(Lib.compactUpTo d m).Pairwise (·<·)/\(∀ x,x∈Lib.compactUpTo d m↔∃ j,j<m/\d[j]! = x):=by
 intro m
 induction m with
 | zero=>intro _; simp [Lib.compactUpTo]
 | succ m ih =>
  intro L; obtain⟨H,F⟩:=ih (by omega); rw [Lib.compactUpTo_succ]; by_cases B:Lib.keeps d m=true
  .rw [if_pos B]
   have C:∀ y∈Lib.compactUpTo d m,y<d[m]! := by
    intro y J; obtain⟨j,D,rfl⟩:=(F y).1 J; rcases ni d[j]! d[m]! with h|h|h
    .exact h
    .exfalso
     by_cases h0:m=0
     .omega
     .have A:d[m]! ≠ d[m - 1]! := by
       intro e; have:=Lib.keeps_neg (by omega) e; rw [this] at B
       cases B
      rcases ni d[m - 1]! d[m]! with g|g|g
      .by_cases G:j=m - 1
       .subst G; exact A h.symm
       .exact E j (m - 1) (by omega) (by omega) (by rw [h]; exact g)
      .exact A g.symm
      .exact E (m - 1) m (by omega) (by omega) g
    .exact absurd h (E j m D (by omega))
   refine⟨?_,fun x=>?_⟩
   .rw [List.pairwise_append]
    exact⟨H,by simp,fun a K b I=>by simp at I; subst I; exact C a K⟩
   .rw [List.mem_append,F]
    constructor
    .rintro (⟨j,D,rfl⟩|h)
     .exact⟨j,by omega,rfl⟩
     .simp at h; exact⟨m,by omega,h.symm⟩
    .rintro ⟨j,D,rfl⟩
     by_cases e:j=m
     .subst e; exact .inr (by simp)
     .exact .inl ⟨j,by omega,rfl⟩
  .rw [if_neg B,List.append_nil]
   refine⟨H,fun x=>?_⟩; rw [F]; constructor
   .rintro ⟨j,D,rfl⟩
    exact⟨j,by omega,rfl⟩
   .rintro ⟨j,D,rfl⟩
    by_cases e:j=m
    .subst e
     by_cases h0:j=0
     .subst h0
      exact absurd (Lib.keeps_lt_one d 0 (by omega)) B
     .refine⟨j - 1,by omega,?_⟩
      apply Classical.byContradiction
      intro A; exact B (Lib.keeps_pos (fun e=>A e.symm))
    .exact⟨j,by omega,rfl⟩
theorem uniq_spec(L:List Txt):(qT L).Pairwise (·<·)/\∀ x,x∈qT L↔x∈L:=by
 have D:=List.pairwise_mergeSort (le:=fun x y:Txt=>decide (x<=y)) (fun a b c E F=>by simp only [decide_eq_true_eq] at *; exact List.le_trans E F) (fun a b=>by simp only [Bool.or_eq_true,decide_eq_true_eq]; exact List.le_total a b) L
 have G:=fun x=>(List.mergeSort_perm L fun x y:Txt=>decide (x<=y)).mem_iff (a:=x)
 unfold qT
 generalize L.mergeSort (fun x y=>decide (x<=y))=Z at *
 have key:=upto_rise (d:=Z.toArray) (fun i j B A=>by
  have C:j<Z.length:=by simpa using A
  have:=List.pairwise_iff_getElem.1 D i j (by omega) C B; simp only [decide_eq_true_eq] at this; rw [getElem!_pos _ j A,getElem!_pos _ i (by omega)]; exact List.not_lt.2 this) Z.length (by simp)
 unfold Lib.compact
 refine⟨key.1,fun x=>?_⟩
 rw [key.2,<-G]
 constructor
 .rintro ⟨j,A,rfl⟩
  rw [getElem!_pos _ j (by simpa using A)]; exact List.getElem_mem _
 .intro hx
  obtain⟨j,A,rfl⟩:=List.mem_iff_getElem.1 hx; exact⟨j,A,by rw [getElem!_pos _ j (by simpa using A)]; rfl⟩
structure rp (L out:List Txt):Prop where
 rise:out.Pairwise (·<·)
 sub:∀ x∈out,x∈L
 low:∀ x∈L,∀ y∈out,¬ y<x->x∈out
theorem rp.nil(L:List Txt):rp L []:=⟨by simp,by simp,by simp⟩
def gX (A:List Txt) (x:Txt):Bool:=match A.getLast? with
 | none=>true
 | some y=>decide (y<x)
theorem part_last{L A:List Txt} (h:rp L A) {y:Txt} (C:A.getLast?=some y):∀ x∈A,x=y\/x<y:=by
 intro x hx
 obtain⟨ys,rfl⟩:=List.getLast?_eq_some_iff.1 C
 rcases List.mem_append.1 hx with B|B
 .exact .inr ((List.pairwise_append.1 h.rise).2.2 x B y (by simp))
 .simp at B
  exact .inl B
theorem rp.done{L A:List Txt} (h:rp L A) (D:∀ x∈L,gX A x=false):A=qT L:=by
 obtain⟨E,u2⟩:=uniq_spec L
 refine rise_eq _ _ h.rise E fun x=>?_
 rw [u2]
 refine⟨h.sub x,fun hx=>?_⟩
 have B:=D x hx
 unfold gX at B
 cases C:A.getLast? with
 | none=>rw [C] at B; cases B
 | some y =>
  rw [C] at B; simp only [decide_eq_false_iff_not] at B; exact h.low x hx y (List.mem_of_getLast? C) B
theorem rp.next{L A:List Txt} (h:rp L A) {b:Txt} (K:b∈L) (E:gX A b=true) (F:∀ x∈L,gX A x=true->¬ x<b):rp L (A++[b]):=by
 have J:∀ y∈A,y<b:=by
  intro y G; unfold gX at E
  cases D:A.getLast? with
  | none=>rw [List.getLast?_eq_none_iff.1 D] at G; cases G
  | some z =>
   rw [D] at E; simp only [decide_eq_true_eq] at E; rcases part_last h D y G with rfl|g
   .exact E
   .exact lt_tr g E
 refine⟨?_,?_,?_⟩
 .rw [List.pairwise_append]
  exact⟨h.rise,by simp,fun a M c H=>by simp at H; subst H; exact J a M⟩
 .intro x hx
  rcases List.mem_append.1 hx with C|C
  .exact h.sub x C
  .simp at C; subst C; exact K
 .intro x hx y G I
  rcases List.mem_append.1 G with C|C
  .exact List.mem_append.2 (.inl (h.low x hx y C I))
  .simp at C
   subst C; rw [List.mem_append]
   cases B:gX A x
   .left
    unfold gX at B
    cases D:A.getLast? with
    | none=>rw [D] at B; cases B
    | some z =>
     rw [D] at B; simp only [decide_eq_false_iff_not] at B; exact h.low x hx z (List.mem_of_getLast? D) B
   .right
    rcases ni x y with g|g|g
    .exact absurd g (F x hx B)
    .simp [g]
    .exact absurd g I
def left_ (L A:List Txt):Nat:=(L.filter (gX A)).length
theorem sf{p q:Txt->Bool}:∀ {L:List Txt},(∀ x∈L,q x=true->p x=true)->(∃ x∈L,p x=true/\q x=false)->(L.filter q).length<(L.filter p).length
 | [],_,⟨x,hx,_⟩=>by cases hx
 | a::L,h,⟨x,hx,h1,h2⟩=>by
  have C:(L.filter q).length<=(L.filter p).length:=by
   have:∀ L:List Txt,(∀ x∈L,q x=true->p x=true)->(L.filter q).length<=(L.filter p).length:=by
    intro L; induction L with
    | nil=>intro _; simp
    | cons b L ih =>
     intro B; have E:=ih (fun x hx=>B x (by simp [hx])); rw [List.filter_cons,List.filter_cons]
     cases A:q b
     .cases D:p b <;> simp <;> omega
     .rw [B b (by simp) A]; simp; omega
   exact this L fun x hx=>h x (by simp [hx])
  rw [List.filter_cons,List.filter_cons]; rcases List.mem_cons.1 hx with rfl|hx
  .rw [h1,h2]; simp; omega
  .have ih:=sf (L:=L) (fun x hx=>h x (by simp [hx])) ⟨x,hx,h1,h2⟩
   cases A:q a
   .cases D:p a <;> simp <;> omega
   .rw [h a (by simp) A]; simp; omega
theorem left_lt{L A:List Txt} {b:Txt} (D:b∈L) (B:gX A b=true):left_ L (A++[b])<left_ L A:=by
 have C:∀ x,gX (A++[b]) x=decide (b<x):=fun x=>by
  unfold gX; rw [List.getLast?_append]; simp
 refine sf (fun x _ hx=>?_) ⟨b,D,B,by rw [C]; exact decide_eq_false (lL b)⟩
 rw [C] at hx
 simp only [decide_eq_true_eq] at hx
 unfold gX at B ⊢
 cases E:A.getLast? with
 | none=>rfl
 | some y =>
  rw [E] at B; simp only [decide_eq_true_eq] at B ⊢; exact lt_tr B hx
theorem left_le(L A:List Txt):left_ L A<=L.length:=List.length_filter_le _ _
def ey (L:List Txt):Option (List Txt) × Nat:=if L.all selector then (if 4<(qT L).length then (none,4) else (some (qT L),0)) else (none,13)
end Ids
end
section
namespace Led
structure Ledger where
 entries:List Entry
 nodes:List Node
 bans:List Txt
 joins:List Join
 keys:List Key
 bundles:List Bundle
def none':Ledger:=⟨[],[],[],[],[],[]⟩
def ord (a b:Txt):Int:=if a<b then -1 else if b<a then 1 else 0
def cE (a b:Entry):Int:=a.n - b.n
def cN (a b:Node):Int:=ord a.name b.name
def cB (a b:Bundle):Int:=ord a.domain b.domain
structure Cmp {α:Type} (c:α->α->Int):Prop where
 flip:∀ a b,c a b<0↔0<c b a
 trans:∀ a b d,c a b<0->c b d<0->c a d<0
 left:∀ a b d,c a b=0->(c a d<0↔c b d<0)
theorem qE:Cmp cE:=⟨fun a b=>by unfold cE; omega,fun a b d=>by unfold cE; omega,fun a b d=>by unfold cE; omega⟩
theorem kw{a b:Txt}:ord a b<0↔a<b:=by
 unfold ord
 split
 .simp_all
 .split <;> simp_all
theorem ord_gt{a b:Txt}:0<ord a b↔b<a:=by
 unfold ord
 split
 .rename_i h
  constructor
  .intro A; omega
  .intro A; exact absurd (List.lt_trans h A) (List.lt_irrefl _)
 .split <;> simp_all
theorem kx{a b:Txt}:ord a b=0↔a=b:=by
 unfold ord
 split
 .rename_i h
  constructor
  .intro A; omega
  .rintro rfl; exact absurd h (List.lt_irrefl _)
 .split
  .rename_i h
   constructor
   .intro A; omega
   .rintro rfl; exact absurd h (List.lt_irrefl _)
  .rename_i h1 h2
   exact⟨fun _=>List.le_antisymm (List.not_lt.1 h2) (List.not_lt.1 h1),fun _=>rfl⟩
theorem tA{α:Type} (f:α->Txt):Cmp (fun a b=>ord (f a) (f b)):=⟨fun a b=>by rw [kw,ord_gt],fun a b d=>by rw [kw,kw,kw]; exact List.lt_trans,fun a b d h=>by rw [kx] at h; simp only [h]⟩
theorem qD:Cmp cN:=tA Node.name
theorem kQ:Cmp cB:=tA Bundle.domain
theorem ord_cmp':Cmp ord:=tA id
def ins {α:Type} (c:α->α->Int) (x:α) (l:List α):List α:=l.filter (fun y=>decide (c y x<0))++x::l.filter (fun y=>decide (0<c y x))
def put {α:Type} (c:α->α->Int) (most:Nat) (x:α) (l:List α):Option (List α):=if (ins c x l).length<=most then some (ins c x l) else none
def aI (n a b:Int):Bool:=decide (a<=n/\n<=b)
def cM (e:Entry):Bool:=(Ids.ey e.sels).2==0&&(Ids.ey e.sels).1.getD []==e.sels&&!e.sels.isEmpty&&Ids.path e.path&&!Ids.agent e.path&&Ids.path e.parent&&aI e.n 1 1099511627776&&aI e.ttl 1 1000
def cL (j:Join):Bool:=j.text.all (fun c=>Ids.small c||Ids.digit c)&&Ids.agent j.name&&aI j.text.length 1 16&&aI j.expires 0 1099511627776
def cI (n:Node):Bool:=Ids.agent n.name&&n.key.length==32&&aI n.expires 0 1099511627776&&aI n.seq 0 1099511627776&&decide (n.doc.length<=16)
def dC (k:Key):Bool:=k.seed.length==32&&aI k.kid.length 1 16&&aI k.state 1 3&&aI k.since 0 1099511627776
def aD (b:Bundle):Bool:=Ids.domain b.domain&&aI b.number 0 1099511627776&&decide (b.keys.length<=8)&&b.keys.all (fun k=>k.x.length==32&&k.kid==Sha.bZ k.x)&&decide (b.keys.map Jwk.kid).Nodup
def em (L:Ledger) (e:Entry):Ledger × Int :=
 if cM e then match put cE 24 e L.entries with
  | some l=>({ L with entries:=l },0)
  | none=>(L,6)
 else (L,1)
def fZ (L:Ledger) (n:Int):Ledger × Int:=if L.entries.any (fun e=>e.n==n) then ({ L with entries:=L.entries.eraseP (fun e=>e.n==n) },0) else (L,7)
def dE (L:Ledger) (j:Join):Ledger × Int :=
 if !cL j||j.used then (L,1)
 else if L.joins.any (fun k=>k.text==j.text) then (L,8)
 else if 16<=L.joins.length then (L,6)
 else ({ L with joins:=L.joins++[j] },0)
def aX (L:Ledger) (n:Node):Ledger × Int :=
 if cI n then
  if L.bans.contains n.name then (L,21)
  else match put cN 4 n L.nodes with
   | some l=>({ L with nodes:=l },0)
   | none=>(L,6)
 else (L,1)
def dB {α:Type} (p:α->Bool) (f:α->α):List α->List α
 | []=>[]
 | a::l=>if p a then f a::l else a::dB p f l
def eO (L:Ledger) (A:Txt) (n:Node):Ledger × Int :=
 match L.joins.find? (fun j=>j.text==A) with
 | none=>(L,7)
 | some j=>if j.used then (L,20) else if n.name==j.name then
   (if (aX L n).2==0 then ({ (aX L n).1 with joins:=dB (fun j=>j.text==A) (fun j=>{ j with used:=true }) L.joins },0) else (L,(aX L n).2))
  else (L,1)
def cX (L:Ledger) (s:Txt):Ledger × Int :=
 if Ids.agent s then
  if L.bans.contains s then (L,8)
  else match put ord 8 s L.bans with
   | some l=>({ L with bans:=l,nodes:=L.nodes.eraseP (fun n=>n.name==s) },0)
   | none=>(L,6)
 else (L,1)
def gJ (L:Ledger) (s:Txt):Ledger × Int:=if L.bans.any (fun t=>t==s) then ({ L with bans:=L.bans.eraseP (fun t=>t==s) },0) else (L,7)
def eX (L:Ledger) (s:Txt):Ledger × Int:=if L.nodes.any (fun n=>n.name==s) then ({ L with nodes:=L.nodes.eraseP (fun n=>n.name==s) },0) else (L,7)
def dp (L:Ledger) (k:Key):Ledger × Int :=
 if !dC k||!(k.state==1) then (L,1)
 else if L.keys.any (fun j=>j.state==1)||L.keys.any (fun j=>j.kid==k.kid) then (L,8)
 else if 8<=L.keys.length then (L,6)
 else ({ L with keys:=L.keys++[k] },0)
def dW (n:Int) (L:List Key):List Key:=dB (fun j=>j.state==2) (fun j=>{ j with state:=3,since:=n }) L
def dq (L:Ledger) (n:Int):Ledger × Int :=
 if aI n 0 1099511627776 then
  if L.keys.any (fun j=>j.state==1) then ({ L with keys:=dB (fun j=>j.state==1) (fun j=>{ j with state:=2,since:=n }) (dW n L.keys) },0)
  else (L,7)
 else (L,1)
def gK (L:Ledger) (s:Txt):Ledger × Int:=if L.keys.any (fun j=>j.kid==s&&j.state==3) then ({ L with keys:=L.keys.eraseP (fun j=>j.kid==s&&j.state==3) },0) else (L,7)
def bH (ok:Bool) (L:Ledger) (b:Bundle):Ledger × Int :=
 if ok then
  if L.bundles.any (fun o=>o.domain==b.domain&&decide (o.number > b.number)) then (L,22)
  else match put cB 3 b L.bundles with
   | some l=>({ L with bundles:=l },0)
   | none=>(L,6)
 else (L,1)
def cP (L:Ledger) (s:Txt):Ledger × Int:=if L.bundles.any (fun b=>b.domain==s) then ({ L with bundles:=L.bundles.eraseP (fun b=>b.domain==s) },0) else (L,7)
def iC (L:Ledger) (s:Txt) (n:Int):Ledger × Int :=
 match L.nodes.find? (fun d=>d.name==s) with
 | none=>(L,7)
 | some d=>if n<=d.seq||n > 1099511627776 then (L,22) else ({ L with nodes:=dB (fun d=>d.name==s) (fun d=>{ d with seq:=n }) L.nodes },0)
def does (ok:Bool) (L:Ledger) (o:Op):Ledger × Int :=
 if o.kind=1 then em L o.entry
 else if o.kind=2 then fZ L o.n
 else if o.kind=3 then dE L o.join
 else if o.kind=4 then eO L o.name o.node
 else if o.kind=5 then aX L o.node
 else if o.kind=6 then cX L o.name
 else if o.kind=7 then gJ L o.name
 else if o.kind=8 then eX L o.name
 else if o.kind=9 then dp L o.key
 else if o.kind=10 then dq L o.n
 else if o.kind=11 then gK L o.name
 else if o.kind=12 then bH ok L o.bundle
 else if o.kind=13 then cP L o.name
 else if o.kind=14 then iC L o.name o.n
 else (L,1)
def bd {α:Type} (c:α->α->Int) (l:List α):Prop:=l.Pairwise fun a b=>c a b<0
structure Ledger.Wf (L:Ledger):Prop where
 e1:bd cE L.entries
 e2:∀ e∈L.entries,cM e=true
 e3:L.entries.length<=24
 e4:∀ e∈L.entries,e.sels.length<=1000
 n1:bd cN L.nodes
 n2:∀ n∈L.nodes,cI n=true
 n3:L.nodes.length<=4
 b1:bd ord L.bans
 b2:∀ s∈L.bans,Ids.agent s=true
 b3:L.bans.length<=8
 b4:∀ n∈L.nodes,n.name∉L.bans
 j1:(L.joins.map Join.text).Nodup
 j2:∀ j∈L.joins,cL j=true
 j3:L.joins.length<=16
 k1:(L.keys.map Key.kid).Nodup
 k2:∀ k∈L.keys,dC k=true
 k3:L.keys.length<=8
 k4:L.keys.countP (fun k=>k.state==1)<=1
 k5:L.keys.countP (fun k=>k.state==2)<=1
 u1:bd cB L.bundles
 u2:∀ b∈L.bundles,b.keys.length<=1000
 u3:L.bundles.length<=3
theorem oI:none'.Wf:=by
 constructor <;> simp [none',bd]
section
variable {α:Type} {c:α->α->Int} {x:α} {l:List α}
theorem gj{y:α} (h:y∈ins c x l):y=x\/y∈l:=by
 unfold ins at h
 simp only [List.mem_append,List.mem_cons,List.mem_filter] at h
 rcases h with h|h|h
 .exact .inr h.1
 .exact .inl h
 .exact .inr h.1
theorem lh(C:Cmp c) (h:bd c l):bd c (ins c x l):=by
 unfold bd ins at *
 rw [List.pairwise_append,List.pairwise_cons]
 refine⟨h.filter _,⟨?_,h.filter _⟩,?_⟩
 .intro a A
  simp only [List.mem_filter,decide_eq_true_eq] at A; exact(C.flip _ _).2 A.2
 .intro a A b B
  simp only [List.mem_filter,decide_eq_true_eq,List.mem_cons] at A B; rcases B with rfl|B
  .exact A.2
  .exact C.trans _ _ _ A.2 ((C.flip _ _).2 B.2)
theorem jd{most:Nat} {m:List α} (h:put c most x l=some m):m=ins c x l/\m.length<=most:=by
 unfold put at h
 split at h
 .injection h with h; subst h; exact⟨rfl,by assumption⟩
 .cases h
theorem gy{p:α->Bool} {f:α->α}:∀ {l:List α},(dB p f l).length=l.length
 | []=>rfl
 | a::l=>by
  unfold dB; split
  .rfl
  .simp [gy (l:=l)]
theorem im{p:α->Bool} {f:α->α} {y:α}:∀ {l:List α},y∈dB p f l->y∈l\/∃ a∈l,p a=true/\y=f a
 | a::l,h=>by
  unfold dB at h; split at h
  .rename_i hp
   rcases List.mem_cons.1 h with rfl|h
   .exact .inr ⟨a,List.mem_cons_self,hp,rfl⟩
   .exact .inl (List.mem_cons_of_mem _ h)
  .rcases List.mem_cons.1 h with rfl|h
   .exact .inl List.mem_cons_self
   .rcases im h with h|⟨b,A,B,C⟩
    .exact .inl (List.mem_cons_of_mem _ h)
    .exact .inr ⟨b,List.mem_cons_of_mem _ A,B,C⟩
theorem mu{β:Type} {p:α->Bool} {f:α->α} (g:α->β) (A:∀ a,g (f a)=g a):∀ {l:List α},(dB p f l).map g=l.map g
 | []=>rfl
 | a::l=>by
  unfold dB; split
  .simp [A]
  .simp [mu g A (l:=l)]
end
end Led
end
section
open Go.RowKit Mem Led
def af {α:Type} (enc:α->List Value) (L:List α):List Value:=(L.map enc).flatten
section
variable {α:Type} {enc:α->List Value} {k:Nat}
theorem bT(x:α) (L:List α):af enc (x::L)=enc x++af enc L:=by simp [af]
theorem aL(L M:List α):af enc (L++M)=af enc L++af enc M:=by simp [af]
theorem aQ(A:∀ x,(enc x).length=k):∀ L:List α,(af enc L).length=L.length * k
 | []=>by simp [af]
 | x::L=>by
  rw [bT,List.length_append,A,aQ A L,List.length_cons,Nat.succ_mul,Nat.add_comm]
theorem jF(A:∀ x,(enc x).length=k):∀ {L:List α} {i:Nat} (h:i<L.length) {j:Nat},j<k->(af enc L)[i * k+j]?=(enc L[i])[j]?
 | x::L,0,h,j,hj=>by
  rw [bT,Nat.zero_mul,Nat.zero_add,List.getElem?_append_left (by rw [A]; exact hj)]
  rfl
 | x::L,i+1,h,j,hj=>by
  have ih:=jF A (L:=L) (i:=i) (by simpa using h) hj; rw [bT,List.getElem?_append_right (by rw [A,Nat.succ_mul]; omega),A,show (i+1) * k+j - k=i * k+j by rw [Nat.succ_mul]; omega,ih]
  rfl
theorem rows_take(A:∀ x,(enc x).length=k) (L:List α) (i:Nat):(af enc L).take (i * k)=af enc (L.take i):=by
 by_cases h:i<=L.length
 .have e:af enc L=af enc (L.take i)++af enc (L.drop i):=by rw [<-aL,List.take_append_drop]
  have B:(af enc (L.take i)).length=i * k:=by rw [aQ A,List.length_take,Nat.min_eq_left h]
  rw [e,List.take_append_of_le_length (by omega),List.take_of_length_le (by omega)]
 .rw [List.take_of_length_le (i:=i) (by omega),List.take_of_length_le]
  rw [aQ A]; exact Nat.mul_le_mul_right _ (by omega)
theorem rows_drop(A:∀ x,(enc x).length=k) (L:List α) (i:Nat):(af enc L).drop (i * k)=af enc (L.drop i):=by
 by_cases h:i<=L.length
 .have e:af enc L=af enc (L.take i)++af enc (L.drop i):=by rw [<-aL,List.take_append_drop]
  have B:(af enc (L.take i)).length=i * k:=by rw [aQ A,List.length_take,Nat.min_eq_left h]
  rw [e,List.drop_append_of_le_length (by omega),List.drop_of_length_le (by omega),List.nil_append]
 .rw [List.drop_of_length_le (i:=i) (by omega),List.drop_of_length_le]
  .simp [af]
  rw [aQ A]; exact Nat.mul_le_mul_right _ (by omega)
end
def Es {α:Type} (enc:α->List Value) (k:Nat) (w:World) (A:Option Addr) (n:Nat) (L:List α):Prop:=Vs w w.heap.size k A n (af enc L)
section
variable {α:Type} {enc:α->List Value} {k n:Nat} {w w':World} {A:Option Addr} {L:List α}
theorem Es.len(B:∀ x,(enc x).length=k) (h0:0<k) (h:Es enc k w A n L):L.length=n:=by
 have:=Vs.len h
 rw [aQ B] at this
 exact Nat.eq_of_mul_eq_mul_right h0 this
theorem Es.lit(C:∀ x,(enc x).length=k) (h0:0<k) (h:Es enc k w A n L) {i:Nat} (hi:i<L.length):∃ b B,A=some ⟨b,B,none⟩/\b<w.heap.size/\∀ j u,(enc L[i])[j]?=some u->w.cell? ⟨b,B+(i * k+j),none⟩=some u:=by
 obtain⟨b,B,F,G,H⟩:=Vs.lit h (by rw [aQ C]; exact Nat.mul_pos (by omega) h0)
 refine⟨b,B,F,G,fun j u E=>H _ _ ?_⟩
 have D:j<k:=by
  have:=(List.getElem?_eq_some_iff.1 E).1; rwa [C] at this
 rw [jF C hi D,E]
theorem Es.below(h:Es enc k w A n L) (B:eD w w'):Es enc k w' A n L:=(Vs.below h B).mono B.size
theorem Es.empty(w:World) (A:Option Addr):Es enc k w A 0 []:=Vs.empty _ _ _ _
end
def Fit (n c:Nat) (A:Option Addr):Prop:=n<=c/\c<=9223372036854775807/\(A=none->n=0)
def bm (w:World) (v:Value) (L:List Txt):Prop:=∃ A n c,v=.slice A n c/\Fit n c A/\Ts w A n L
def a8 {α:Type} (enc:α->List Value) (k:Nat) (w:World) (v:Value) (L:List α):Prop:=∃ A n c,v=.slice A n c/\Fit n c A/\Es enc k w A n L
theorem bm.below{w w':World} {v:Value} {L:List Txt} (h:bm w v L) (B:eD w w'):bm w' v L:=by
 obtain⟨A,n,c,C,D,E⟩:=h
 exact⟨A,n,c,C,D,(Vs.below E B).mono B.size⟩
theorem a8.below{α:Type} {enc:α->List Value} {k:Nat} {w w':World} {v:Value} {L:List α} (h:a8 enc k w v L) (B:eD w w'):a8 enc k w' v L:=by
 obtain⟨A,n,c,C,D,E⟩:=h
 exact⟨A,n,c,C,D,E.below B⟩
def ag (p:Led.Entry × Value):List Value:=[nm p.1.n,tx p.1.path,tx p.1.parent,nm p.1.ttl,p.2]
def ai (p:Led.Bundle × Value):List Value:=[tx p.1.domain,nm p.1.number,p.2]
theorem cm(x:Led.Jwk):(aV x).length=2:=rfl
theorem aR(x:Led.Node):(ac x).length=5:=rfl
theorem a9(x:Led.Join):(ao x).length=4:=rfl
theorem aP(x:Led.Key):(aq x).length=4:=rfl
theorem aZ(x:Led.Entry × Value):(ag x).length=5:=rfl
theorem aU(x:Led.Bundle × Value):(ai x).length=3:=rfl
structure cZ (w:World) (cs:List Value) (L:Led.Ledger) (E:List (Led.Entry × Value)) (U:List (Led.Bundle × Value)):Prop where
 cells:∃ vE vN vB vJ vK vU,cs=[vE,vN,vB,vJ,vK,vU]/\a8 ag 5 w vE E/\a8 ac 5 w vN L.nodes/\bm w vB L.bans/\a8 ao 4 w vJ L.joins/\a8 aq 4 w vK L.keys/\a8 ai 3 w vU U
 ents:E.map Prod.fst=L.entries
 buns:U.map Prod.fst=L.bundles
 sels:∀ p∈E,bm w p.2 p.1.sels
 keyss:∀ p∈U,a8 aV 2 w p.2 p.1.keys
theorem cZ.below{w w':World} {cs:List Value} {L:Led.Ledger} {E:List (Led.Entry × Value)} {U:List (Led.Bundle × Value)} (h:cZ w cs L E U) (A:eD w w'):cZ w' cs L E U:=by
 obtain⟨⟨vE,vN,vB,vJ,vK,vU,h0,C,D,F,G,H,I⟩,e,u,s,k⟩:=h
 exact⟨⟨vE,vN,vB,vJ,vK,vU,h0,C.below A,D.below A,F.below A,G.below A,H.below A,I.below A⟩,e,u,fun p B=>(s p B).below A,fun p B=>(k p B).below A⟩
end
section
open Go.RowKit Mem Led
theorem arr_cells{w:World} {b o n:Nat} {cs:List Value} (B:cs.length=n) (h:∀ j u,cs[j]?=some u->w.cell? ⟨b,o+j,none⟩=some u):Mem.arr w b o n=cs.toArray/\Has w b o n:=by
 have A:∀ j,(hj:j<cs.length)->w.cell? ⟨b,o+j,none⟩=some cs[j]:=fun j hj=>h j _ (List.getElem?_eq_getElem hj)
 subst B
 constructor
 .unfold Mem.arr
  congr 1
  apply List.ext_getElem
  .simp
  .intro j D C
   rw [List.getElem_map,List.getElem_range,A j C]; rfl
 .intro j hj
  rw [A j hj]; rfl
section
variable {P:Program} {T:TypeId} {d:TypeDesc} {k:Nat}
theorem cl(A:P.underlying T=some d) (hd:(match d with|.struct _|.array _ _=>true|_=>false)=true) (hi:(P.info? T).map (·.size)=some k)
  {w:World} {b o:Nat} {cs:List Value} (B:cs.length=k) (h:∀ j u,cs[j]?=some u->w.cell? ⟨b,o+j,none⟩=some u):(Instr.loadAt T (.pointer (some ⟨b,o,none⟩))).run P w=.ok (.agg cs.toArray) w:=by
 obtain⟨C,D⟩:=arr_cells B h
 have:=bF (P:=P) w T b o k _ A hd hi D
 rw [C] at this
 exact this
theorem iA{α:Type} {enc:α->List Value} (F:P.underlying T=some d) (hd:(match d with|.struct _|.array _ _=>true|_=>false)=true) (hi:(P.info? T).map (·.size)=some k)
  (D:∀ x,(enc x).length=k) (h0:0<k) {w:World} {A:Option Addr} {n:Nat} {L:List α} (h:Es enc k w A n L) {i:Nat} (C:i<L.length) :
  ∃ b B,A=some ⟨b,B,none⟩/\b<w.heap.size/\∀ w',eD w w'->(Instr.loadAt T (.pointer (some ⟨b,B+i * k,none⟩))).run P w'=.ok (.agg (enc L[i]).toArray) w':=by
 obtain⟨b,B,G,E,H⟩:=h.lit D h0 C
 refine⟨b,B,G,E,fun w' I=>cl F hd hi (D _) fun j u J=>?_⟩
 rw [Nat.add_assoc]
 exact(I.cell (p:=⟨b,B+(i * k+j),none⟩) E).trans (H j u J)
theorem pW(A:P.underlying T=some d) (hd:(match d with|.struct _|.array _ _=>true|_=>false)=true) (hi:(P.info? T).map (·.size)=some k)
  {w:World} {g:Nat} {cs:List Value} {t:TypeId} (h:Blk w g cs t) (B:cs.length=k):(Instr.loadAt T (.pointer (some ⟨g,0,none⟩))).run P w=.ok (.agg cs.toArray) w :=
 cl A hd hi B fun j u C=>by rw [Nat.zero_add,h.cell j]; exact C
end
def bc {α:Type} (p:α->Bool) (L:List α):Int:=match L.findIdx? p with
 | some i=>(i:Int)
 | none => -1
theorem fF{α:Type} {p:α->Bool} {L:List α} (h:∀ x∈L,p x=false):bc p L = -1:=by
 unfold bc
 rw [List.findIdx?_eq_none_iff.2 h]
theorem fD{α:Type} {p:α->Bool} {L:List α} {k:Nat} (A:k<L.length) (h:∀ x∈L.take k,p x=false) (B:p L[k]=true):bc p L=k:=by
 unfold bc
 have:L.findIdx? p=some k:=by
  rw [List.findIdx?_eq_some_iff_getElem]; refine⟨A,B,fun j C=>?_⟩; have:=h L[j] (by rw [List.mem_take_iff_getElem]; exact⟨j,by omega,rfl⟩)
  simp [this]
 rw [this]
theorem dL{α:Type} {p:α->Bool} {L:List α} {k:Nat} (A:k<L.length) (h:∀ x∈L.take k,p x=false) (B:p L[k]=false):∀ x∈L.take (k+1),p x=false:=by
 intro x hx
 rw [List.take_succ_eq_append_getElem A] at hx
 rcases List.mem_append.1 hx with hx|hx
 .exact h x hx
 .simp at hx
  subst hx; exact B
def fM (x:Value):Sem Value:=Instr.loadAt 36 x
def stEnt (x v:Value):Sem Unit:=Instr.storeAt 36 x v
theorem named_ldEnt(x:Value):Instr.loadAt 36 x=fM x:=rfl
theorem named_stEnt(x v:Value):Instr.storeAt 36 x v=stEnt x v:=rfl
attribute [go_sem ↓] named_ldEnt named_stEnt
theorem me:(prog.info? 36).map (·.size)=some 5:=by kernel_rfl
theorem kC{w:World} {A:Option Addr} {n:Nat} {L:List (Led.Entry × Value)} (h:Es ag 5 w A n L) {i:Nat} (hi:i<L.length) :
  ∃ b B,A=some ⟨b,B,none⟩/\b<w.heap.size/\∀ w',eD w w'->(fM (.pointer (some ⟨b,B+i * 5,none⟩))).run prog w'=.ok (.agg (ag L[i]).toArray) w' :=
 iA underlying36 rfl me aZ (by decide) h hi
theorem ff{w:World} {g:Nat} {cs:List Value} {t:TypeId} (h:Blk w g cs t) (A:cs.length=5):(fM (.pointer (some ⟨g,0,none⟩))).run prog w=.ok (.agg cs.toArray) w :=
 pW underlying36 rfl me h A
def fL (x:Value):Sem Value:=Instr.loadAt 40 x
def stNod (x v:Value):Sem Unit:=Instr.storeAt 40 x v
theorem named_ldNod(x:Value):Instr.loadAt 40 x=fL x:=rfl
theorem named_stNod(x v:Value):Instr.storeAt 40 x v=stNod x v:=rfl
attribute [go_sem ↓] named_ldNod named_stNod
theorem oC:(prog.info? 40).map (·.size)=some 5:=by kernel_rfl
theorem kA{w:World} {A:Option Addr} {n:Nat} {L:List (Led.Node)} (h:Es ac 5 w A n L) {i:Nat} (hi:i<L.length) :
  ∃ b B,A=some ⟨b,B,none⟩/\b<w.heap.size/\∀ w',eD w w'->(fL (.pointer (some ⟨b,B+i * 5,none⟩))).run prog w'=.ok (.agg (ac L[i]).toArray) w' :=
 iA underlying40 rfl oC aR (by decide) h hi
theorem ef{w:World} {g:Nat} {cs:List Value} {t:TypeId} (h:Blk w g cs t) (A:cs.length=5):(fL (.pointer (some ⟨g,0,none⟩))).run prog w=.ok (.agg cs.toArray) w :=
 pW underlying40 rfl oC h A
def rT (x:Value):Sem Value:=Instr.loadAt 38 x
theorem named_ldJoi(x:Value):Instr.loadAt 38 x=rT x:=rfl
attribute [go_sem ↓] named_ldJoi
theorem sizeJoi:(prog.info? 38).map (·.size)=some 4:=by kernel_rfl
theorem ldJoi_es{w:World} {A:Option Addr} {n:Nat} {L:List (Led.Join)} (h:Es ao 4 w A n L) {i:Nat} (hi:i<L.length) :
  ∃ b B,A=some ⟨b,B,none⟩/\b<w.heap.size/\∀ w',eD w w'->(rT (.pointer (some ⟨b,B+i * 4,none⟩))).run prog w'=.ok (.agg (ao L[i]).toArray) w' :=
 iA underlying38 rfl sizeJoi a9 (by decide) h hi
def rS (x:Value):Sem Value:=Instr.loadAt 42 x
theorem named_ldKey(x:Value):Instr.loadAt 42 x=rS x:=rfl
attribute [go_sem ↓] named_ldKey
theorem sizeKey:(prog.info? 42).map (·.size)=some 4:=by kernel_rfl
theorem ldKey_es{w:World} {A:Option Addr} {n:Nat} {L:List (Led.Key)} (h:Es aq 4 w A n L) {i:Nat} (hi:i<L.length) :
  ∃ b B,A=some ⟨b,B,none⟩/\b<w.heap.size/\∀ w',eD w w'->(rS (.pointer (some ⟨b,B+i * 4,none⟩))).run prog w'=.ok (.agg (aq L[i]).toArray) w' :=
 iA underlying42 rfl sizeKey aP (by decide) h hi
def fz (x:Value):Sem Value:=Instr.loadAt 45 x
def stBun (x v:Value):Sem Unit:=Instr.storeAt 45 x v
theorem named_ldBun(x:Value):Instr.loadAt 45 x=fz x:=rfl
theorem named_stBun(x v:Value):Instr.storeAt 45 x v=stBun x v:=rfl
attribute [go_sem ↓] named_ldBun named_stBun
theorem s8:(prog.info? 45).map (·.size)=some 3:=by kernel_rfl
theorem mD{w:World} {A:Option Addr} {n:Nat} {L:List (Led.Bundle × Value)} (h:Es ai 3 w A n L) {i:Nat} (hi:i<L.length) :
  ∃ b B,A=some ⟨b,B,none⟩/\b<w.heap.size/\∀ w',eD w w'->(fz (.pointer (some ⟨b,B+i * 3,none⟩))).run prog w'=.ok (.agg (ai L[i]).toArray) w' :=
 iA underlying45 rfl s8 aU (by decide) h hi
theorem di{w:World} {g:Nat} {cs:List Value} {t:TypeId} (h:Blk w g cs t) (A:cs.length=3):(fz (.pointer (some ⟨g,0,none⟩))).run prog w=.ok (.agg cs.toArray) w :=
 pW underlying45 rfl s8 h A
end
section
open Go.RowKit Mem Led
theorem aW{w:World} {base:Nat} {e:TypeId} {k n:Nat} {v:Value} {xs:List Value} (h:w.ownsRow base e k v n xs) :
  (v=.slice none 0 0/\n=0/\xs=[])\/∃ g c M,v=.slice (some ⟨g,0,none⟩) n c/\base<=g/\g<w.heap.size/\Blk w g M e/\n<=c/\c<=maxLen/\M.length=c * k/\M.take (n * k)=xs:=by
 obtain⟨C,D⟩:=h
 rcases D with⟨rfl,rfl⟩|⟨g,c,A,rfl,E,B,F,G,H,ht⟩
 .exact .inl ⟨rfl,rfl,List.eq_nil_of_length_eq_zero (by simpa using C)⟩
 .exact .inr ⟨g,c,A.toList,rfl,E,(Array.getElem?_eq_some_iff.1 B).1,by unfold Blk; simpa using B,F,G,by simpa using H,ht⟩
theorem dz{w:World} {base:Nat} {e:TypeId} {k n g c:Nat} {M xs:List Value} (C:base<=g) (D:Blk w g M e) (A:n<=c) (E:c<=maxLen) (B:M.length=c * k) (ht:M.take (n * k)=xs):w.ownsRow base e k (.slice (some ⟨g,0,none⟩) n c) n xs:=by
 refine⟨?_,.inr ⟨g,c,M.toArray,rfl,C,D,A,E,by simpa using B,by simpa using ht⟩⟩
 rw [<-ht,List.length_take,B]
 exact Nat.min_eq_left (Nat.mul_le_mul_right _ A)
theorem Blk.setRow{w:World} {g:Nat} {M M':List Value} {e:TypeId} (h:Blk w g M e):Blk (w.setRow g M'.toArray) g M' e:=setRow_heap w g M.toArray _ e _ h
theorem cO{w w':World} {g:Nat} {M':Array Value} (h:w.grownBy w' (some g)):w.grownBy (w'.setRow g M') (some g) :=
 ⟨h.os,h.tape,h.output,by simp [World.setRow]; exact h.size,fun k B A=>by rw [setRow_other w' g k M' (by simpa using A)]; exact h.block k B A⟩
theorem fX{w w':World} {r:Option Nat} (h:w.grownBy w' r):w.grownBy w'.drew r:=⟨h.os,h.tape,h.output,h.size,h.block⟩
theorem eZ(w:World) (r:Option Nat):w.grownBy w r:=⟨rfl,rfl,rfl,eG,fun _ _ _=>rfl⟩
section
variable {P:Program}
theorem jb{w:World} {J L ty A:TypeId} {g o B D:Nat} {a:Addr} {C E k m:Nat} {M:List Value} {t:TypeId} {cs:List Value}
  (N:P.underlying J=some (.slice A)) (K:(P.info? A).map (·.size)=some k) (O:Blk w g M t) (Q:Nat.min C B=m) (R:cs.length=m * k)
  (F:∀ j v,cs[j]?=some v->w.cell? (a.add j)=some v) (G:o+cs.length<=M.length) (S:∀ v∈cs,v.oneCell'=true) :
  (Builtin.copy_ #[J,L] ty #[.slice (some ⟨g,o,none⟩) B D,.slice (some a) C E]).run P w=.ok (goInt m) (w.setRow g (splice M o cs).toArray):=by
 have T:=run_loadCells_list (P:=P) w a cs F
 have H:=run_storeCells_at P g o t cs 0 M.toArray w O (by simpa using G) S
 cases I:P.info? A with
 | none=>simp [I] at K
 | some i =>
  have hi:i.size=k:=by simpa [I] using K
  subst Q; simp [Builtin.copy_,run_underlying N,Builtin.lenOf,Builtin.firstCells,sizeOf,typeInfo,I,hi,<-R,T,H,splice]
theorem pm{w:World} {t e ty:TypeId} {z:Value} {k:Nat} (ht:P.underlying t=some (.slice e)) (G:∀ w,(zeroValue e).run P w=.ok z w) (E:z.cells.size=k) (H:∀ v∈z.cells.toList,v.oneCell'=true) {g o n c:Nat} {M:List Value} {F:TypeId} (J:0<n)
  (I:Blk w g M F) (B:o+n * k<=M.length) :
  ∃ Z:List Value,Z.length=n * k/\(Builtin.clear_ #[t] ty #[.slice (some ⟨g,o,none⟩) n c]).run P w=.ok (.tuple #[]) (w.setRow g (splice M o Z).toArray):=by
 refine⟨(Builtin.zeroCells z.cells n).toList,by rw [Array.length_toList,size_zeroCells,E],?_⟩
 have C:=run_storeCells_at P g o F (Builtin.zeroCells z.cells n).toList 0 M.toArray w I (by rw [Array.length_toList,size_zeroCells,E]; simpa using B) (by
  intro v A; unfold Builtin.zeroCells at A; simp at A
  obtain⟨i,hi,rfl⟩:=A; refine H _ ?_; have D:0<z.cells.size:=by
   rcases Nat.eq_zero_or_pos z.cells.size with h0|h0
   .rw [h0] at hi; omega
   .exact h0
  rw [getElem!_pos z.cells _ (Nat.mod_lt _ D)]; exact Array.getElem_mem_toList _)
 simp only [Nat.add_zero] at C
 obtain⟨m,rfl⟩:∃ m,n=m+1:=⟨n - 1,by omega⟩
 simp [Builtin.clear_,run_underlying ht,G,C,splice]
theorem fm{ops:Array Oper} {o:Oper} {a:Act} {w:World} {K:Act->World->Prop} {Q:Exit->Act->World->Prop} {E:Prop}
  (F:o.guard=none) (d x:Operand) (A B:TypeId) (C:o.op=Op.call { callee:=Callee.builtin Builtin.append,args:=#[d,x],argTypes:=#[A,B] })
  (v u:Value) (hd:a.eval d=v) (hx:a.eval x=u) {D:Value} {w':World} (G:(Builtin.append_ #[A,B] o.type #[v,u]).run P w=.ok D w') (H:K (a.put o.dst D) w') :
  if Region.wanted o (yielded ops a.tmps)=true then Oper.wp P o a w K Q else E:=by
 have I:Region.wanted o (yielded ops a.tmps)=true:=by simp [Region.wanted,F]
 rw [if_pos I]
 exact Lib.wp_append_run w d x A B C v u hd hx D w' G H
end
theorem qU{α:Type} {A D R X:List α} {k:Nat} (B:X.length=k) (F:k<=R.length):splice (splice (A++D++R) (A.length+k) D) A.length X=A++X++D++R.drop k:=by
 unfold splice
 have C:(A++D++R).take (A.length+k)=A++(D++R).take k:=by rw [List.append_assoc,List.take_append,List.take_of_length_le (by omega)]; congr 2; omega
 have e2:(A++D++R).drop (A.length+k+D.length)=R.drop k:=by
  rw [List.drop_append,List.drop_of_length_le (by simp only [List.length_append]; omega),List.nil_append,List.length_append]
  congr 1
  omega
 rw [C,e2]
 have E:((D++R).take k).length=k:=by rw [List.length_take,List.length_append]; omega
 have e3:(A++(D++R).take k++(D++R.drop k)).take A.length=A:=by rw [List.append_assoc,List.take_append_of_le_length eG,List.take_of_length_le eG]
 have e4:(A++(D++R).take k++(D++R.drop k)).drop (A.length+X.length)=D++R.drop k:=by
  rw [List.drop_append,List.drop_of_length_le (by simp only [List.length_append]; omega),List.nil_append,List.length_append,E,B]
  have:A.length+k - (A.length+k)=0:=by omega
  rw [this,List.drop_zero]
 rw [e3,e4]
 simp [List.append_assoc]
theorem sZ{α:Type} {A D Z X:List α} {k:Nat} (B:X.length=k):splice (splice (A++Z) A.length X) (A.length+k) D=A++X++D++Z.drop (k+D.length):=by
 unfold splice
 have C:(A++Z).take A.length=A:=by rw [List.take_append_of_le_length eG,List.take_of_length_le eG]
 have e2:(A++Z).drop (A.length+X.length)=Z.drop k:=by
  rw [List.drop_append,List.drop_of_length_le (by omega),List.nil_append,B]; congr 1
  omega
 rw [C,e2]
 have e3:(A++(X++Z.drop k)).take (A.length+k)=A++X:=by
  rw [<-List.append_assoc,List.take_append_of_le_length (by simp only [List.length_append]; omega),List.take_of_length_le (by simp only [List.length_append]; omega)]
 have e4:(A++(X++Z.drop k)).drop (A.length+k+D.length)=Z.drop (k+D.length):=by
  rw [<-List.append_assoc,List.drop_append,List.drop_of_length_le (by simp only [List.length_append]; omega),List.nil_append,List.length_append,List.drop_drop,B]
  congr 1
  omega
 rw [e3,e4]
 simp [List.append_assoc]
end
end Go.Proofs.YtmbpnkacggngkaaGreatDoor
