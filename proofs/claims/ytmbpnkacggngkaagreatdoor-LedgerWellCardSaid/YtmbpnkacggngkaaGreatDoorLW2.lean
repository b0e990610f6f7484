/- ShaBlock, ShaSum, ShaMul, ShaRoot, ShaPrimes (put together by bundle.py: only what is needed). -/
import Derived.Test.YtmbpnkacggngkaaGreatDoorLW1
set_option maxRecDepth 100000
set_option maxHeartbeats 16000000
namespace Go.Proofs.YtmbpnkacggngkaaGreatDoor
section
open Go.RowKit Mem
structure HIn (w:World) (hc:List Value) (A:Option Addr) (cA:Nat) (B:Option Addr) (cB:Nat) (C:Option Addr) (cC:Nat) (D:Option Addr) (cD:Nat) (K:Option Addr) (cK:Nat) (F:Option Addr) (cF:Nat):Prop where
 eq:hc=[.int .i64 32,.int .i64 64,.slice A 3 cA,.slice B 3 cB,.slice C 3 cC,.slice D 3 cD,.slice K 64 cK,.slice F 8 cF]
 a:Is w A 3 [((2:Nat):Int),((13:Nat):Int),((22:Nat):Int)]
 b:Is w B 3 [((6:Nat):Int),((11:Nat):Int),((25:Nat):Int)]
 c:Is w C 3 [((7:Nat):Int),((18:Nat):Int),((3:Nat):Int)]
 d:Is w D 3 [((17:Nat):Int),((19:Nat):Int),((10:Nat):Int)]
 k:Ws w K 64 (Sha.tops 3 64)
 f:Ws w F 8 (Sha.tops 2 8)
 kc:64≤cK
 fc:8≤cF
theorem HIn.h32{w:World} {hc:List Value} {A B C D K F:Option Addr} {cA cB cC cD cK cF:Nat} (h:HIn w hc A cA B cB C cC D cD K cK F cF):H32 hc:=by
 rw [h.eq]
 refine⟨rfl,rfl,rfl,fun v hv=>?_⟩
 simp only [List.mem_cons,List.not_mem_nil,or_false] at hv
 rcases hv with rfl|rfl|rfl|rfl|rfl|rfl|rfl|rfl <;> rfl
theorem HIn.below{w w':World} {hc:List Value} {A B C D K F:Option Addr} {cA cB cC cD cK cF:Nat} (h:HIn w hc A cA B cB C cC D cD K cK F cF) (hb:Below w.heap.size w w'):HIn w' hc A cA B cB C cC D cD K cK F cF :=
 ⟨h.eq,h.a.below hb,h.b.below hb,h.c.below hb,h.d.below hb,h.k.below hb,h.f.below hb,h.kc,h.fc⟩
theorem own_lit{w:World} {base n c:Nat} {e:TypeId} {A:Option Addr} {xs:List Value} (h:w.ownsRow base e 1 (.slice A n c) n xs) (hn:0<n):∃ g,A=some ⟨g,0,none⟩∧base≤g∧g<w.heap.size∧∀ k u,xs[k]?=some u→w.cell? ⟨g,k,none⟩=some u:=by
 obtain⟨g,e,h1,h2⟩:=own_some h hn
 subst e
 refine⟨g,rfl,h1,h2,fun k u hk=>?_⟩
 have:=h.cells (g:=g) rfl k u hk
 rwa [zero_add_] at this
inductive MixArg (w:World):Option Addr→Nat→Nat→Bool→Nat→Prop
 | mk (P:Option Addr) (cap m a b c:Nat) (sh:Bool) (h:Is w P 3 [(a:Int),(b:Int),(c:Int)]) (hm:m<4294967296) (ha:a≤64) (hb:b≤64) (hc:c≤64):MixArg w P cap m sh (Sha.mixed a b c sh m)
theorem mix_arg{w:World} {P:Option Addr} {cap m z:Nat} {sh:Bool} (h:MixArg w P cap m sh z) {hc:List Value} (h32:H32 hc) {w':World} (hb:Below w.heap.size w w') :
  Calls Tryz.prog 157 #[.agg hc.toArray,.int .u64 (m:Int),.slice P 3 cap,.bool sh] w' fun e w''=>e=.returned (.int .u64 (z:Int))∧Below w.heap.size w w'':=by
 match h with
 | .mk _ _ _ a b c _ h1 hm ha hb' hc'=>exact(rmixed_any hc h32 a b c m hm ha hb' hc' sh P cap w' (h1.below hb)).mono fun e w'' ⟨he,hb2⟩=>⟨he,hb.trans (hb2.mono hb.size)⟩
theorem mix_any{w:World} {P:Option Addr} {cap m z:Nat} {sh:Bool} (h:MixArg w P cap m sh z) {hc:List Value} (h32:H32 hc) {w':World} (hb:Below w.heap.size w w') :
  Calls Tryz.prog 157 #[.agg hc.toArray,.int .u64 (m:Int),.slice P 3 cap,.bool sh] w' fun e w''=>e=.returned (.int .u64 (z:Int))∧Below w'.heap.size w' w'':=by
 match h with
 | .mk _ _ _ a b c _ h1 hm ha hb' hc'=>exact rmixed_any hc h32 a b c m hm ha hb' hc' sh P cap w' (h1.below hb)
structure StepR (Rn:List Nat) (r0 r1 r2 r3 r4 r5 r6 r7 kt wt p1 p2:Nat):Prop where
 b0:r0<4294967296
 b1:r1<4294967296
 b2:r2<4294967296
 b3:r3<4294967296
 b4:r4<4294967296
 b5:r5<4294967296
 b6:r6<4294967296
 b7:r7<4294967296
 bk:kt<4294967296
 bw:wt<4294967296
 q1:p1<4294967296
 q2:p2<4294967296
 eq:Rn=[((r7+p1+((r4 &&& r5) ^^^ ((4294967295 ^^^ r4) &&& r6))+kt+wt) % 4294967296+(p2+((r0 &&& r1) ^^^ (r0 &&& r2) ^^^ (r1 &&& r2))) % 4294967296) % 4294967296,r0,r1,r2,(r3+(r7+p1+((r4 &&& r5) ^^^ ((4294967295 ^^^ r4) &&& r6))+kt+wt) % 4294967296) % 4294967296,r4,r5,r6]
theorem StepR.mk'{R Rn:List Nat} {kt wt:Nat} (h:Sha.All32 R) (hk:kt<4294967296) (hw:wt<4294967296) (hR:Rn=Sha.step kt wt R) :
  StepR Rn (R.getD 0 0) (R.getD 1 0) (R.getD 2 0) (R.getD 3 0) (R.getD 4 0) (R.getD 5 0) (R.getD 6 0) (R.getD 7 0) kt wt (Sha.big1 (R.getD 4 0)) (Sha.big0 (R.getD 0 0)) :=
 ⟨h.at_ 0,h.at_ 1,h.at_ 2,h.at_ 3,h.at_ 4,h.at_ 5,h.at_ 6,h.at_ 7,hk,hw,Sha.mixed_lt (h.at_ 4) _ _ _ _,Sha.mixed_lt (h.at_ 0) _ _ _ _,hR⟩
theorem stepX_int{r4 r5 r6 r7 kt wt p1:Nat} (b4:r4<4294967296) (b6:r6<4294967296) (b5:r5<4294967296) :
  (IntKind.u64.wrap (IntKind.u64.wrap (IntKind.u64.wrap (IntKind.u64.wrap ((r7:Int)+p1)+bits BinOp.xor IntKind.u64 (bits BinOp.and IntKind.u64 r4 r5) (bits BinOp.and IntKind.u64 (bits BinOp.xor IntKind.u64 4294967295 r4) r6))+kt)+wt)).tmod 4294967296 =
   (((r7+p1+((r4 &&& r5) ^^^ ((4294967295 ^^^ r4) &&& r6))+kt+wt) % 4294967296:Nat):Int):=by
 have a1:=u64_and_nat r4 r5 (by omega) (by omega)
 have x1:bits .xor .u64 4294967295 (r4:Int)=((4294967295 ^^^ r4:Nat):Int):=u64_xor_nat 4294967295 r4 (by omega) (by omega)
 have hx1:=Sha.xor_lt (show 4294967295<4294967296 by omega) b4
 have a2:=u64_and_nat (4294967295 ^^^ r4) r6 (by omega) (by omega)
 have ha1:=Sha.and_lt (b:=r5) b4
 have ha2:=Sha.and_lt (b:=r6) hx1
 have x2:=u64_xor_nat (r4 &&& r5) ((4294967295 ^^^ r4) &&& r6) (by omega) (by omega)
 have hx2:=Sha.xor_lt ha1 ha2
 rw [a1,x1,a2,x2]
 generalize (r4 &&& r5) ^^^ ((4294967295 ^^^ r4) &&& r6)=z at *
 simp only [IntKind.wrap_u64]
 rw [Int.tmod_eq_emod_of_nonneg (by omega)]
 omega
theorem stepY_int{r0 r1 r2 p2:Nat} (b0:r0<4294967296) (b1:r1<4294967296) (b2:r2<4294967296) :
  (IntKind.u64.wrap ((p2:Int)+bits BinOp.xor IntKind.u64 (bits BinOp.xor IntKind.u64 (bits BinOp.and IntKind.u64 r0 r1) (bits BinOp.and IntKind.u64 r0 r2)) (bits BinOp.and IntKind.u64 r1 r2))).tmod 4294967296 =
   (((p2+((r0 &&& r1) ^^^ (r0 &&& r2) ^^^ (r1 &&& r2))) % 4294967296:Nat):Int):=by
 have a3:=u64_and_nat r0 r1 (by omega) (by omega)
 have a4:=u64_and_nat r0 r2 (by omega) (by omega)
 have a5:=u64_and_nat r1 r2 (by omega) (by omega)
 have ha3:=Sha.and_lt (b:=r1) b0
 have ha4:=Sha.and_lt (b:=r2) b0
 have ha5:=Sha.and_lt (b:=r2) b1
 have x3:=u64_xor_nat (r0 &&& r1) (r0 &&& r2) (by omega) (by omega)
 have hx3:=Sha.xor_lt ha3 ha4
 have x4:=u64_xor_nat ((r0 &&& r1) ^^^ (r0 &&& r2)) (r1 &&& r2) (by omega) (by omega)
 have hx4:=Sha.xor_lt hx3 ha5
 rw [a3,a4,a5,x3,x4]
 generalize (r0 &&& r1) ^^^ (r0 &&& r2) ^^^ (r1 &&& r2)=z at *
 simp only [IntKind.wrap_u64]
 rw [Int.tmod_eq_emod_of_nonneg (by omega)]
 omega
theorem sum_int(x y:Nat):((x:Int)+y).tmod 4294967296=(((x+y) % 4294967296:Nat):Int):=by
 rw [Int.tmod_eq_emod_of_nonneg (by omega)]
 omega
theorem bs_lit{w:World} {A:Option Addr} {n:Nat} {l:List UInt8} (h:Bs w w.heap.size A n l) (hn:0<n):∃ blk off,A=some ⟨blk,off,none⟩∧blk<w.heap.size∧∀ k,k<n→w.cell? ⟨blk,off+k,none⟩=some (.int .u8 (((l.getD k 0).toNat:Nat):Int)):=by
 have hl:=h.len
 obtain⟨blk,off,e,hb,hx⟩:=vs_lit h hn
 refine⟨blk,off,e,hb,fun k hk=>hx k _ ?_⟩
 rw [bv_at,List.getElem?_eq_getElem (by omega)]
 simp [List.getD_eq_getElem?_getD,show k<l.length by omega]
theorem below_own{w w':World} {base:Nat} {e:TypeId} {v:Value} {n:Nat} {xs:List Value} (h:w.ownsRow base e 1 v n xs) (hb:Below w.heap.size w w'):w'.ownsRow base e 1 v n xs:=by
 refine⟨h.1,?_⟩
 rcases h.2 with h2|⟨g,cap,cur,hv,hg,hh,r⟩
 ·exact .inl h2
 ·exact .inr ⟨g,cap,cur,hv,hg,by rw [hb.block g (Array.getElem?_eq_some_iff.1 hh).1]; exact hh,r⟩
theorem rblock_any(hc:List Value) (A:Option Addr) (cA:Nat) (B:Option Addr) (cB:Nat) (C:Option Addr) (cC:Nat) (D:Option Addr) (cD:Nat) (K:Option Addr) (cK:Nat) (F:Option Addr) (cF:Nat)
  (As:Option Addr) (cs:Nat) (s:List Nat) (Ab:Option Addr) (cb:Nat) (b:List UInt8) (w:World) (h:HIn w hc A cA B cB C cC D cD K cK F cF) (hs:Ws w As 8 s) (hs32:Sha.All32 s) (hcs:8≤cs) (hb:Bs w w.heap.size Ab 64 b) :
  Calls Tryz.prog 127 #[.agg hc.toArray,.slice As 8 cs,.slice Ab 64 cb] w fun e w'=>∃ A' c',e=.returned (.slice A' 8 c')∧8≤c'∧Ws w' A' 8 (Sha.block (Sha.tops 3 64) s b)∧Below w.heap.size w w':=by
 obtain⟨i0,hi,hz0,hz1,hz2⟩:=info_parts infoW
 have h32:=h.h32
 obtain⟨W,hW⟩:∃ W,w.alloc (.cells hc.toArray 114)=W:=⟨_,rfl⟩
 have BH:Blk W w.heap.size hc 114:=by rw [← hW]; exact Blk.new _ _ _
 have hbW:Below w.heap.size w W:=by rw [← hW]; exact(Below.refl _ _).alloc (Nat.le_refl _) _
 have HH:HIn W hc A cA B cB C cC D cD K cK F cF:=h.below hbW
 have hsW:=hs.below hbW
 have hbW2:Bs W W.heap.size Ab 64 b:=vs_below hb hbW
 obtain⟨bb,ob,rfl,hbb,hbc⟩:=bs_lit hbW2 (by omega)
 have c0:∀ wr,Below W.heap.size W wr→wr.cell? ⟨w.heap.size,0,none⟩=some (.int .i64 32):=fun wr hr=>((BH.below hr).cell 0).trans h32.bits
 have c1:∀ wr,Below W.heap.size W wr→wr.cell? ⟨w.heap.size,1,none⟩=some (.int .i64 64):=fun wr hr=>((BH.below hr).cell 1).trans h32.steps
 have HC0:=Lib.hid c0
 have HC1:=Lib.hid c1
 have HBC:Hid (∀ wr,Below W.heap.size W wr→∀ k,k<64→wr.cell? ⟨bb,ob+k,none⟩=some (.int .u8 (((b.getD k 0).toNat:Nat):Int))):=Lib.hid fun wr hr k hk=>(hr.cell (p:=⟨bb,ob+k,none⟩) hbb).trans (hbc k hk)
 have HW:=Lib.hid hW
 clear hW c0 c1 hbc hb hs h
 go_enter Tryz.func127,Tryz.ntmps127
 go_upto_region 2 with fail
 rw [HW.out]
 go_wp2_with fail
 go_loopw [7,8,9,10] (fun v t _ _ wr=>∃ (T:Nat) (A7:Option Addr) (c7:Nat),T≤16∧t=.int .i64 T∧v=.slice A7 T c7∧Below W.heap.size W wr∧wr.ownsRow W.heap.size 151 1 (.slice A7 T c7) T (wv (Sha.sched1 b T))) (fun _ t _ _ _=>16 - (intOf t).toNat)
 case atStart=>exact⟨0,none,0,by omega,rfl,rfl,Below.refl _ _,World.ownsRow_nil _ _ _ _⟩
 case round =>
  obtain⟨T,A7,c7,hT,rfl,rfl,hbr,hown⟩:=hrel; have k0:=HC0.out _ hbr; by_cases h16:T<16
  ·have HB:=Lib.hid (HBC.out _ hbr)
   have hu8:Int.tdiv ((T:Int) * 32) 8=((4 * T:Nat):Int):=by
    rw [Int.tdiv_eq_ediv_of_nonneg (by omega)]; omega
   have HS:=Lib.hid (show Sha.sched1 b (T+1)=Sha.sched1 b T++[Sha.wordIn b T 4] from rfl); obtain⟨u,hu⟩:∃ u,Hid (4 * T=u):=⟨_,Lib.hid rfl⟩; have hu60:u≤60:=by rw [← hu.out]; omega
   rw [hu.out] at hu8; go_wp2; go_loop [9,10] (fun v k=>∃ j:Nat,j≤4∧k=.int .i64 j∧v=.int .u64 ((Sha.wordIn b T j:Nat):Int)) (fun _ k=>4 - (intOf k).toNat)
   case atStart=>exact⟨0,by omega,rfl,rfl⟩
   case round =>
    obtain⟨j,hj,rfl,rfl⟩:=hrel; by_cases h4:j<4
    ·have cj:=HB.out (u+j) (by omega)
     have HX:=Lib.hid (show Sha.wordIn b T (j+1)=Sha.wordIn b T j * 256+(b.getD (4 * T+j) 0).toNat from rfl); rw [hu.out] at HX; have hx1:=Sha.wordIn_lt b T j; have hx2:Sha.wordIn b T j<16777216:=Nat.lt_of_lt_of_le hx1 (Nat.le_trans (Nat.pow_le_pow_right (by omega) (show j≤3 by omega)) (by decide)); have hy:=(b.getD (u+j) 0).toNat_lt; generalize (b.getD (u+j) 0).toNat=y at *; generalize Sha.wordIn b T j=x at *; clear hx1; have hy:y<256:=hy; go_wp2; go_round
     case rel=>exact⟨j+1,by omega,by go_num,by rw [HX.out,Int.natCast_add,Int.natCast_mul]; rfl⟩
     case measure=>simp [intOf]; omega
    ·obtain rfl:j=4:=by omega
     have h63:T+1≤maxLen:=by unfold maxLen; omega
     have hB1:W.heap.size≤wr.heap.size:=hbr.size; clear HB hu8 hu; go_wp2_with (at_builtin; go_must (refine wpList_push rfl (.tmp 47) (.tmp 49) 112 rfl W.heap.size i0 (.int .u64 0) 8 Tryz.underlying112 hi hz0 hz1 hz2 rfl _ _ _ rfl hown rfl rfl h63 (by omega) hB1 ?_))
     intro A' c' w2 hown' g1' g2' hgr; have hb2:=below_push hbr hgr hB1 hown (Nat.le_refl _); rw [show wv (Sha.sched1 b T)++[.int .u64 ((Sha.wordIn b T 4:Nat):Int)]=wv (Sha.sched1 b (T+1)) by rw [HS.out,wv_append]; rfl] at hown'
     clear hown hgr hbr; go_wp2; go_roundw
     case rel=>exact⟨T+1,A',c',by omega,by go_num,rfl,hb2,hown'⟩
     case measure=>simp [intOf]; omega
  ·have hT16:T=16:=by omega
   have HT:=Lib.hid hT16; have hTb:T≤16:=hT; clear k0 hT16 hT; have HS32:=Lib.hid (Sha.sched2_32 b); have HSL:=Lib.hid (Sha.sched2_len b); have hown:wr.ownsRow W.heap.size 151 1 (.slice A7 T c7) T (wv (Sha.sched2 b 0)):=by
    have:=hown; rw [show Sha.sched1 b T=Sha.sched2 b 0 by rw [HT.out]; rfl] at this
    exact this
   go_wp2_with fail
   go_loopw [7,11,12] (fun v t _ wr=>∃ (u:Nat) (A7:Option Addr) (n c7:Nat),u≤48∧n=16+u∧t=.int .i64 (n:Int)∧v=.slice A7 n c7∧Below W.heap.size W wr∧wr.ownsRow W.heap.size 151 1 (.slice A7 n c7) n (wv (Sha.sched2 b u))) (fun _ t _ _=>(100 - intOf t).toNat)
   case atStart=>exact⟨0,A7,T,c7,by omega,by rw [HT.out],by rw [HT.out]; rfl,rfl,hbr,hown⟩
   case round =>
    clear hown hbr; obtain⟨u,A7,n,c7,hu,hn,rfl,rfl,hbr,hown⟩:=hrel; have k1:=HC1.out _ hbr; by_cases h48:u<48
    ·have hbox:=BH.below hbr
     have HHr:=HH.below hbr; obtain⟨g7,rfl,hg1,hg2,hg3⟩:=own_lit hown (by omega); have hl7:=HSL.out u; have h732:=HS32.out u; have HS:=Lib.hid (show Sha.sched2 b (u+1)=Sha.sched2 b u++[Sha.next (Sha.sched2 b u) u] from rfl); unfold Sha.next at HS; obtain⟨j1,hj1⟩:∃ j,u+1=j:=⟨_,rfl⟩; obtain⟨j9,hj9⟩:∃ j,u+9=j:=⟨_,rfl⟩; obtain⟨j14,hj14⟩:∃ j,u+14=j:=⟨_,rfl⟩; rw [hj1,hj9,hj14] at HS; have e0:=hg3 u _ (wv_at _ (by omega)); have e1:=hg3 (j1) _ (wv_at _ (by omega)); have e9:=hg3 (j9) _ (wv_at _ (by omega)); have e14:=hg3 (j14) _ (wv_at _ (by omega)); have b0:=h732.at_ u; have b1:=h732.at_ (j1); have b9:=h732.at_ (j9); have b14:=h732.at_ (j14); generalize Sha.sched2 b u=L7 at *; generalize L7.getD u 0=x0 at *; generalize L7.getD (j1) 0=x1 at *; generalize L7.getD (j9) 0=x9 at *; generalize L7.getD (j14) 0=x14 at *; have z1b:Sha.sig0 x1<4294967296:=Sha.mixed_lt b1 _ _ _ _; have z2b:Sha.sig1 x14<4294967296:=Sha.mixed_lt b14 _ _ _ _; have M1:MixArg wr C cC x1 true (Sha.sig0 x1):=.mk _ _ _ _ _ _ _ HHr.c b1 (by omega) (by omega) (by omega); have M2:MixArg wr D cD x14 true (Sha.sig1 x14):=.mk _ _ _ _ _ _ _ HHr.d b14 (by omega) (by omega) (by omega); generalize Sha.sig0 x1=z1 at *; generalize Sha.sig1 x14=z2 at *; have hkey:∀ w',Below wr.heap.size wr w'→w'.cell? ⟨g7,u,none⟩=some (.int .u64 (x0:Int))∧w'.cell? ⟨g7,j1,none⟩=some (.int .u64 (x1:Int))∧w'.cell? ⟨g7,j9,none⟩=some (.int .u64 (x9:Int))∧w'.cell? ⟨g7,j14,none⟩=some (.int .u64 (x14:Int))∧w'.cell? ⟨w.heap.size,4,none⟩=some (.slice C 3 cC)∧w'.cell? ⟨w.heap.size,5,none⟩=some (.slice D 3 cD)∧(loadH (.pointer (some ⟨w.heap.size,0,none⟩))).run Tryz.prog w'=.ok (.agg hc.toArray) w'∧Below wr.heap.size wr w':=fun w' hb' =>
      ⟨(hb'.cell (p:=⟨g7,u,none⟩) hg2).trans e0,(hb'.cell (p:=⟨g7,j1,none⟩) hg2).trans e1,(hb'.cell (p:=⟨g7,j9,none⟩) hg2).trans e9,(hb'.cell (p:=⟨g7,j14,none⟩) hg2).trans e14,
       ((hbox.below hb').cell 4).trans (by rw [HHr.eq]; rfl),((hbox.below hb').cell 5).trans (by rw [HHr.eq]; rfl),load_H (hbox.below hb') h32.len,hb'⟩
     have MIX:Hid (∀ P cap m z,MixArg wr P cap m true z→∀ w',(w'.cell? ⟨g7,u,none⟩=some (.int .u64 (x0:Int))∧w'.cell? ⟨g7,j1,none⟩=some (.int .u64 (x1:Int))∧w'.cell? ⟨g7,j9,none⟩=some (.int .u64 (x9:Int))∧w'.cell? ⟨g7,j14,none⟩=some (.int .u64 (x14:Int))∧w'.cell? ⟨w.heap.size,4,none⟩=some (.slice C 3 cC)∧w'.cell? ⟨w.heap.size,5,none⟩=some (.slice D 3 cD)∧(loadH (.pointer (some ⟨w.heap.size,0,none⟩))).run Tryz.prog w'=.ok (.agg hc.toArray) w'∧Below wr.heap.size wr w') →
       Calls Tryz.prog 157 #[.agg hc.toArray,.int .u64 (m:Int),.slice P 3 cap,.bool true] w' fun e w''=>e=.returned (.int .u64 (z:Int))∧(w''.cell? ⟨g7,u,none⟩=some (.int .u64 (x0:Int))∧w''.cell? ⟨g7,j1,none⟩=some (.int .u64 (x1:Int))∧w''.cell? ⟨g7,j9,none⟩=some (.int .u64 (x9:Int))∧w''.cell? ⟨g7,j14,none⟩=some (.int .u64 (x14:Int))∧w''.cell? ⟨w.heap.size,4,none⟩=some (.slice C 3 cC)∧w''.cell? ⟨w.heap.size,5,none⟩=some (.slice D 3 cD)∧(loadH (.pointer (some ⟨w.heap.size,0,none⟩))).run Tryz.prog w''=.ok (.agg hc.toArray) w''∧Below wr.heap.size wr w'')) :=
      Lib.hid fun P cap m z hM w' hS=>(mix_arg hM h32 hS.2.2.2.2.2.2.2).mono fun e w'' ⟨he,hb2⟩=>⟨he,hkey w'' hb2⟩
     have HS0:=Lib.hid (hkey wr (Below.refl _ _)); have HS1:=Lib.hid (hkey wr.drew (Below.refl _ _).drew); clear e0 e1 e9 e14 hg3 hkey hl7 h732 b1 b14 HHr; have i0_:IntKind.i64.wrap ((n:Int) - 16)=(u:Int):=by rw [IntKind.wrap_i64]; omega
     have i1_:IntKind.i64.wrap ((n:Int) - 15)=(j1:Int):=by rw [IntKind.wrap_i64]; omega
     have i9_:IntKind.i64.wrap ((n:Int) - 7)=(j9:Int):=by rw [IntKind.wrap_i64]; omega
     have i14_:IntKind.i64.wrap ((n:Int) - 2)=(j14:Int):=by rw [IntKind.wrap_i64]; omega
     have p0:(0:Int)≤(u:Int):=by omega
     have p1:(0:Int)≤(j1:Int):=by omega
     have p9:(0:Int)≤(j9:Int):=by omega
     have p14:(0:Int)≤(j14:Int):=by omega
     have q0:(u:Int)<(n:Int):=by omega
     have q1:(j1:Int)<(n:Int):=by omega
     have q9:(j9:Int)<(n:Int):=by omega
     have q14:(j14:Int)<(n:Int):=by omega
     have hn64:(n:Int)<64:=by omega
     have HN:=Lib.hid hn; have HJ1:=Lib.hid hj1; clear hj1 hj9 hj14; clear hn; go_wp2_with fail
     go_region_held3 (fun w'=>w'.cell? ⟨g7,u,none⟩=some (.int .u64 (x0:Int))∧w'.cell? ⟨g7,j1,none⟩=some (.int .u64 (x1:Int))∧w'.cell? ⟨g7,j9,none⟩=some (.int .u64 (x9:Int))∧w'.cell? ⟨g7,j14,none⟩=some (.int .u64 (x14:Int))∧w'.cell? ⟨w.heap.size,4,none⟩=some (.slice C 3 cC)∧w'.cell? ⟨w.heap.size,5,none⟩=some (.slice D 3 cD)∧(loadH (.pointer (some ⟨w.heap.size,0,none⟩))).run Tryz.prog w'=.ok (.agg hc.toArray) w'∧Below wr.heap.size wr w') (first|exact HS1.out|exact HS0.out|assumption|go_keep) (first|(go_at_call 157; refine(MIX.out _ _ _ _ (by assumption) _ (by first|assumption|exact HS1.out)).mono ?_; rintro e wq ⟨rfl,hs1⟩))
     clear HS0 HS1 MIX M1 M2 i0_ i1_ i9_ i14_ p0 p1 p9 p14 q1 q9 q14; obtain⟨_,_,_,_,_,_,hld,hbq⟩:=hs1; have hownq:=below_own hown hbq; have hbrq:Below W.heap.size W wq:=hbr.trans (hbq.mono hbr.size); have hlow:=rlowI hc h32 ((x0:Int)+(z1:Int)+(x9:Int)+(z2:Int)) wq; have htm:Int.tmod ((x0:Int)+(z1:Int)+(x9:Int)+(z2:Int)) 4294967296=(((x0+z1+x9+z2) % 4294967296:Nat):Int):=by
      rw [Int.tmod_eq_emod_of_nonneg (by omega)]; omega
     rw [htm] at hlow; obtain⟨y,hy⟩:∃ y,(x0+z1+x9+z2) % 4294967296=y:=⟨_,rfl⟩; rw [hy] at hlow HS; clear hy htm; have hn64':n<64:=by omega
     go_wp2_with fail
     refine hlow.mono ?_; rintro e w5 ⟨rfl,hb5⟩; have hown5:=below_own hownq hb5; have hbr5:=hbrq.trans (hb5.mono hbrq.size); have h63:n+1≤maxLen:=by unfold maxLen; omega
     have hB1:W.heap.size≤w5.heap.size:=hbr5.size; clear hlow hown hownq hbq hb5 hld; go_wp2_with (at_builtin; go_must (refine wpList_push rfl (.tmp 88) (.tmp 92) 112 rfl W.heap.size i0 (.int .u64 0) 8 Tryz.underlying112 hi hz0 hz1 hz2 rfl _ _ _ rfl hown5 rfl rfl h63 (by omega) hB1 ?_))
     intro A' c' w6 hown' g1' g2' hgr; have hb6:=below_push hbr5 hgr hB1 hown5 (Nat.le_refl _); have hrep:wv L7++[.int .u64 (y:Int)]=wv (Sha.sched2 b j1):=by rw [HS.out,wv_append]; rfl
     rw [hrep] at hown'; clear hown5 hgr hrep hbrq hbr5; have HRES:Hid (u+1≤48∧n+1=16+(u+1)∧w6.ownsRow W.heap.size 151 1 (.slice A' (n+1) c') (n+1) (wv (Sha.sched2 b (u+1)))):=Lib.hid ⟨by omega,by have:=HN.out; omega,by rw [HJ1.out]; exact hown'⟩
     go_wp2; go_roundw
     case rel=>exact⟨u+1,A',n+1,c',HRES.out.1,HRES.out.2.1,by go_num,rfl,hb6,HRES.out.2.2⟩
     case measure=>simp [intOf]; omega
    ·have hu48:u=48:=by omega
     subst hu48; have HN64:=Lib.hid (show n=64 by omega); have hn64:64≤n:=by omega
     clear hn hu; have h63a:0+8≤maxLen:=by unfold maxLen; omega
     have hB1:W.heap.size≤wr.heap.size:=hbr.size; have hsr:=hsW.below hbr; go_wp2_with (at_builtin; go_must (refine wpList_append wr rfl (.tmp 94) (.tmp 95) 112 rfl wr.heap.size 151 i0 (.int .u64 0) 1 8 Tryz.underlying112 hi hz0 hz1 hz2 rfl (by omega) _ 0 [] rfl (World.ownsRow_nil _ _ _ _) wr.heap.size _ 8 _ _ rfl hsr (wv_one _) h63a (by omega) (Nat.le_refl _) ?_))
     intro A13 c13 W5 hown13 g13 g13' hgr; have hb5:Below wr.heap.size wr W5:=Mem.below_grown (Below.refl _ _) hgr (Nat.le_refl _) (World.ownsRow_nil wr wr.heap.size 151 1); have hbW5:Below W.heap.size W W5:=hbr.trans (hb5.mono hbr.size); have hw7:Ws W5 A7 n (Sha.sched2 b 48):=(Ws.of_own hown).below hb5; have hS5:Ws W5 A13 8 s:=Ws.of_own hown13; have hH5:=HH.below hbW5; have HBOX:=Lib.hid (BH.below hbW5); have hs8:s.length=8:=hS5.len; have HK:=Lib.hid (Sha.tops_32 3 64); obtain⟨Ks,hKs⟩:∃ Ks,Sha.tops 3 64=Ks:=⟨_,rfl⟩; rw [hKs] at HK; have hK5:Ws W5 K 64 Ks:=by rw [← hKs]; exact hH5.k
     have HWW:=Lib.hid (Sha.sched2_32 b 48); obtain⟨Ww,hWw⟩:∃ Ww,Sha.sched2 b 48=Ww:=⟨_,rfl⟩; rw [hWw] at hw7 HWW; have HKS:=Lib.hid hKs; have HWS:=Lib.hid hWw; obtain⟨gk,ok,hKe,hgk,hkc⟩:=vs_lit hK5 (by omega); subst hKe; obtain⟨g7,o7,h7e,hg7,h7c⟩:=vs_lit hw7 (by omega); subst h7e; have hkl:=hK5.len; have hwl:=hw7.len; have HKC:=Lib.hid hkc; have H7C:=Lib.hid h7c; have HKL:=Lib.hid hkl; have HWL:=Lib.hid hwl; have HS8:=Lib.hid hs8; clear hsr hgr hown hown13 hb5 hw7 hK5 hkc h7c hkl hwl hs8 hKs hWw hbr k1 h63a; go_wp2_with fail
     go_loopw [13,14,15,16,17,18,19] (fun rv t _ _ _ _ _ wr=>∃ (Q:Nat) (Ar:Option Addr) (cr:Nat),Q≤64∧t=.int .i64 (Q:Int)∧rv=.slice Ar 8 cr∧8≤cr∧Below W5.heap.size W5 wr∧Ws wr Ar 8 (Sha.steps Ks Ww s Q)) (fun _ t _ _ _ _ _ _=>64 - (intOf t).toNat)
     case atStart=>exact⟨0,A13,c13,by omega,rfl,rfl,g13,Below.refl _ _,hS5⟩
     case round =>
      clear hS5 g13 g13'; obtain⟨Q,Ar,cr,hQ,rfl,rfl,hcr,hbr,hR⟩:=hrel; have hbrW:Below W.heap.size W wr:=hbW5.trans (hbr.mono hbW5.size); have k1:=HC1.out _ hbrW; by_cases hQ64:Q<64
      ·have hbox:=HBOX.out.below hbr
       have hHr:=hH5.below hbr; obtain⟨gr,orr,hre,hgr,hrc⟩:=vs_lit hR (by omega); subst hre; have hRl:=hR.len; have hR32:=Sha.steps_32 hs32 Ks Ww Q; have HS:=Lib.hid (show Sha.steps Ks Ww s (Q+1)=Sha.step (Ks.getD Q 0) (Ww.getD Q 0) (Sha.steps Ks Ww s Q) from rfl); generalize Sha.steps Ks Ww s Q=R at *; have e0:wr.cell? ⟨gr,orr,none⟩=some (.int .u64 ((R.getD 0 0:Nat):Int)):=hrc 0 _ (wv_at R (by omega)); have e1:=hrc 1 _ (wv_at R (by omega)); have e2:=hrc 2 _ (wv_at R (by omega)); have e3:=hrc 3 _ (wv_at R (by omega)); have e4:=hrc 4 _ (wv_at R (by omega)); have e5:=hrc 5 _ (wv_at R (by omega)); have e6:=hrc 6 _ (wv_at R (by omega)); have e7:=hrc 7 _ (wv_at R (by omega)); have ek:=(hbr.cell (p:=⟨gk,ok+Q,none⟩) hgk).trans (HKC.out Q _ (wv_at Ks (by rw [HKL.out]; exact hQ64)))
       have ew:=(hbr.cell (p:=⟨g7,o7+Q,none⟩) hg7).trans (H7C.out Q _ (wv_at Ww (by rw [HWL.out]; omega)))
       have SR:=Lib.hid (StepR.mk' hR32 (HK.out.at_ Q) (HWW.out.at_ Q) HS.out); have b0:=hR32.at_ 0; have b4:=hR32.at_ 4; have M1:=Lib.hid (show MixArg wr B cB (R.getD 4 0) false (Sha.big1 (R.getD 4 0)) from .mk _ _ _ _ _ _ _ hHr.b b4 (by omega) (by omega) (by omega)); have M2:=Lib.hid (show MixArg wr A cA (R.getD 0 0) false (Sha.big0 (R.getD 0 0)) from .mk _ _ _ _ _ _ _ hHr.a b0 (by omega) (by omega) (by omega)); generalize R.getD 0 0=r0 at *; generalize R.getD 1 0=r1 at *; generalize R.getD 2 0=r2 at *; generalize R.getD 3 0=r3 at *; generalize R.getD 4 0=r4 at *; generalize R.getD 5 0=r5 at *; generalize R.getD 6 0=r6 at *; generalize R.getD 7 0=r7 at *; generalize Ks.getD Q 0=kt at *; generalize Ww.getD Q 0=wt at *; generalize Sha.big1 r4=p1 at *; generalize Sha.big0 r0=p2 at *; have hkey:∀ w',Below wr.heap.size wr w'→w'.cell? ⟨gr,orr+1,none⟩=some (.int .u64 (r1:Int))∧w'.cell? ⟨gr,orr+2,none⟩=some (.int .u64 (r2:Int))∧w'.cell? ⟨gr,orr+3,none⟩=some (.int .u64 (r3:Int))∧w'.cell? ⟨gr,orr+5,none⟩=some (.int .u64 (r5:Int))∧w'.cell? ⟨gr,orr+6,none⟩=some (.int .u64 (r6:Int))∧w'.cell? ⟨gr,orr+7,none⟩=some (.int .u64 (r7:Int))∧w'.cell? ⟨gk,ok+Q,none⟩=some (.int .u64 (kt:Int))∧w'.cell? ⟨g7,o7+Q,none⟩=some (.int .u64 (wt:Int))∧w'.cell? ⟨w.heap.size,2,none⟩=some (.slice A 3 cA)∧w'.cell? ⟨w.heap.size,3,none⟩=some (.slice B 3 cB)∧w'.cell? ⟨w.heap.size,6,none⟩=some (.slice (some ⟨gk,ok,none⟩) 64 cK)∧(loadH (.pointer (some ⟨w.heap.size,0,none⟩))).run Tryz.prog w'=.ok (.agg hc.toArray) w':=fun w' hb' =>
        ⟨(hb'.cell (p:=⟨gr,orr+1,none⟩) hgr).trans e1,(hb'.cell (p:=⟨gr,orr+2,none⟩) hgr).trans e2,(hb'.cell (p:=⟨gr,orr+3,none⟩) hgr).trans e3,(hb'.cell (p:=⟨gr,orr+5,none⟩) hgr).trans e5,(hb'.cell (p:=⟨gr,orr+6,none⟩) hgr).trans e6,(hb'.cell (p:=⟨gr,orr+7,none⟩) hgr).trans e7,(hb'.cell (p:=⟨gk,ok+Q,none⟩) (Nat.lt_of_lt_of_le hgk hbr.size)).trans ek,(hb'.cell (p:=⟨g7,o7+Q,none⟩) (Nat.lt_of_lt_of_le hg7 hbr.size)).trans ew,((hbox.below hb').cell 2).trans (by rw [hHr.eq]; rfl),((hbox.below hb').cell 3).trans (by rw [hHr.eq]; rfl),((hbox.below hb').cell 6).trans (by rw [hHr.eq]; rfl),load_H (hbox.below hb') h32.len⟩
       have HKEY:=Lib.hid hkey; clear hkey; have kld:=load_H hbox h32.len; have hones:=Lib.hid (rlowI hc h32 18446744073709551615 wr); have hQi:(Q:Int)<64:=by omega
       have hQn:(Q:Int)<(n:Int):=by omega
       have hQ0:(0:Int)≤(Q:Int):=by omega
       clear hrc e1 e2 e3 e5 e6 e7 ek ew hHr hRl hR32 b0 b4; go_wp2_with fail
       refine(hones.out).mono ?_; rintro e w6 ⟨rfl,hb6⟩; rw [show Int.tmod (18446744073709551615:Int) 4294967296=4294967295 by decide]; clear hones kld e0 e4; go_wp2_with fail
       have GK:∀ p,Below wr.heap.size wr (Batch.grew w6 p):=fun p=>hb6.trans ((Batch.grew_below w6 p).mono hb6.size); have f0:∀ p,(Batch.grew w6 p).cell? ⟨gr,orr+1,none⟩=some (.int .u64 (r1:Int)):=fun p=>(HKEY.out _ (GK p)).1; have f1:∀ p,(Batch.grew w6 p).cell? ⟨gr,orr+2,none⟩=some (.int .u64 (r2:Int)):=fun p=>(HKEY.out _ (GK p)).2.1; have f2:∀ p,(Batch.grew w6 p).cell? ⟨gr,orr+3,none⟩=some (.int .u64 (r3:Int)):=fun p=>(HKEY.out _ (GK p)).2.2.1; have f3:∀ p,(Batch.grew w6 p).cell? ⟨gr,orr+5,none⟩=some (.int .u64 (r5:Int)):=fun p=>(HKEY.out _ (GK p)).2.2.2.1; have f4:∀ p,(Batch.grew w6 p).cell? ⟨gr,orr+6,none⟩=some (.int .u64 (r6:Int)):=fun p=>(HKEY.out _ (GK p)).2.2.2.2.1; have f5:∀ p,(Batch.grew w6 p).cell? ⟨gr,orr+7,none⟩=some (.int .u64 (r7:Int)):=fun p=>(HKEY.out _ (GK p)).2.2.2.2.2.1; have f6:∀ p,(Batch.grew w6 p).cell? ⟨gk,ok+Q,none⟩=some (.int .u64 (kt:Int)):=fun p=>(HKEY.out _ (GK p)).2.2.2.2.2.2.1; have f7:∀ p,(Batch.grew w6 p).cell? ⟨g7,o7+Q,none⟩=some (.int .u64 (wt:Int)):=fun p=>(HKEY.out _ (GK p)).2.2.2.2.2.2.2.1; have f8:∀ p,(Batch.grew w6 p).cell? ⟨w.heap.size,2,none⟩=some (.slice A 3 cA):=fun p=>(HKEY.out _ (GK p)).2.2.2.2.2.2.2.2.1; have f9:∀ p,(Batch.grew w6 p).cell? ⟨w.heap.size,3,none⟩=some (.slice B 3 cB):=fun p=>(HKEY.out _ (GK p)).2.2.2.2.2.2.2.2.2.1; have f10:∀ p,(Batch.grew w6 p).cell? ⟨w.heap.size,6,none⟩=some (.slice (some ⟨gk,ok,none⟩) 64 cK):=fun p=>(HKEY.out _ (GK p)).2.2.2.2.2.2.2.2.2.2.1; have fld:∀ p,(loadH (.pointer (some ⟨w.heap.size,0,none⟩))).run Tryz.prog (Batch.grew w6 p)=.ok (.agg hc.toArray) (Batch.grew w6 p):=fun p=>(HKEY.out _ (GK p)).2.2.2.2.2.2.2.2.2.2.2; have HM:Hid (∀ p,Calls Tryz.prog 157 #[.agg hc.toArray,.int .u64 (r4:Int),.slice B 3 cB,.bool false] (Batch.grew w6 p) fun e w''=>e=.returned (.int .u64 (p1:Int))∧Below (Batch.grew w6 p).heap.size (Batch.grew w6 p) w''):=Lib.hid fun p=>mix_any M1.out h32 (GK p); refine Batch.wp_region_grew (by kernel_rfl) (by kernel_rfl) ?_; repeat (go_big_quiet_step (first|(go_at_call 157; exact Batch.calls_grew (HM.out _))|(go_at_call 158; exact Batch.calls_grew (rlowI hc h32 _ _))))
       refine wpQuiet_nil ?_; rintro _ ⟨px,rfl⟩; clear HM GK fld f0 f1 f2 f3 f4 f5 f6 f7 f8 f9 f10; rw [stepX_int SR.out.b4 SR.out.b6 SR.out.b5]; have HSR:=Lib.hid SR.out.eq; have hXb:(r7+p1+((r4 &&& r5) ^^^ ((4294967295 ^^^ r4) &&& r6))+kt+wt) % 4294967296<4294967296:=Nat.mod_lt _ (by omega); generalize (r7+p1+((r4 &&& r5) ^^^ ((4294967295 ^^^ r4) &&& r6))+kt+wt) % 4294967296=X at *; have hb7:Below wr.heap.size wr (Batch.grew w6 px):=hb6.trans ((Batch.grew_below w6 px).mono hb6.size); generalize Batch.grew w6 px=w7 at *; clear hb6 w6; go_wp2_with fail
       have GK:∀ p,Below wr.heap.size wr (Batch.grew w7 p):=fun p=>hb7.trans ((Batch.grew_below w7 p).mono hb7.size); have f0:∀ p,(Batch.grew w7 p).cell? ⟨gr,orr+1,none⟩=some (.int .u64 (r1:Int)):=fun p=>(HKEY.out _ (GK p)).1; have f1:∀ p,(Batch.grew w7 p).cell? ⟨gr,orr+2,none⟩=some (.int .u64 (r2:Int)):=fun p=>(HKEY.out _ (GK p)).2.1; have f2:∀ p,(Batch.grew w7 p).cell? ⟨gr,orr+3,none⟩=some (.int .u64 (r3:Int)):=fun p=>(HKEY.out _ (GK p)).2.2.1; have f3:∀ p,(Batch.grew w7 p).cell? ⟨gr,orr+5,none⟩=some (.int .u64 (r5:Int)):=fun p=>(HKEY.out _ (GK p)).2.2.2.1; have f4:∀ p,(Batch.grew w7 p).cell? ⟨gr,orr+6,none⟩=some (.int .u64 (r6:Int)):=fun p=>(HKEY.out _ (GK p)).2.2.2.2.1; have f5:∀ p,(Batch.grew w7 p).cell? ⟨gr,orr+7,none⟩=some (.int .u64 (r7:Int)):=fun p=>(HKEY.out _ (GK p)).2.2.2.2.2.1; have f6:∀ p,(Batch.grew w7 p).cell? ⟨gk,ok+Q,none⟩=some (.int .u64 (kt:Int)):=fun p=>(HKEY.out _ (GK p)).2.2.2.2.2.2.1; have f7:∀ p,(Batch.grew w7 p).cell? ⟨g7,o7+Q,none⟩=some (.int .u64 (wt:Int)):=fun p=>(HKEY.out _ (GK p)).2.2.2.2.2.2.2.1; have f8:∀ p,(Batch.grew w7 p).cell? ⟨w.heap.size,2,none⟩=some (.slice A 3 cA):=fun p=>(HKEY.out _ (GK p)).2.2.2.2.2.2.2.2.1; have f9:∀ p,(Batch.grew w7 p).cell? ⟨w.heap.size,3,none⟩=some (.slice B 3 cB):=fun p=>(HKEY.out _ (GK p)).2.2.2.2.2.2.2.2.2.1; have f10:∀ p,(Batch.grew w7 p).cell? ⟨w.heap.size,6,none⟩=some (.slice (some ⟨gk,ok,none⟩) 64 cK):=fun p=>(HKEY.out _ (GK p)).2.2.2.2.2.2.2.2.2.2.1; have fld:∀ p,(loadH (.pointer (some ⟨w.heap.size,0,none⟩))).run Tryz.prog (Batch.grew w7 p)=.ok (.agg hc.toArray) (Batch.grew w7 p):=fun p=>(HKEY.out _ (GK p)).2.2.2.2.2.2.2.2.2.2.2; have HM:Hid (∀ p,Calls Tryz.prog 157 #[.agg hc.toArray,.int .u64 (r0:Int),.slice A 3 cA,.bool false] (Batch.grew w7 p) fun e w''=>e=.returned (.int .u64 (p2:Int))∧Below (Batch.grew w7 p).heap.size (Batch.grew w7 p) w''):=Lib.hid fun p=>mix_any M2.out h32 (GK p); refine Batch.wp_region_grew (by kernel_rfl) (by kernel_rfl) ?_; repeat (go_big_quiet_step (first|(go_at_call 157; exact Batch.calls_grew (HM.out _))|(go_at_call 158; exact Batch.calls_grew (rlowI hc h32 _ _))))
       refine wpQuiet_nil ?_; rintro _ ⟨py,rfl⟩; clear HM GK fld f0 f1 f2 f3 f4 f5 f6 f7 f8 f9 f10; rw [stepY_int SR.out.b0 SR.out.b1 SR.out.b2]; have hYb:(p2+((r0 &&& r1) ^^^ (r0 &&& r2) ^^^ (r1 &&& r2))) % 4294967296<4294967296:=Nat.mod_lt _ (by omega); generalize (p2+((r0 &&& r1) ^^^ (r0 &&& r2) ^^^ (r1 &&& r2))) % 4294967296=Y at *; have hb8:Below wr.heap.size wr (Batch.grew w7 py):=hb7.trans ((Batch.grew_below w7 py).mono hb7.size); generalize Batch.grew w7 py=w8 at *; clear hb7 w7; go_wp2_with fail
       have b3:=SR.out.b3; have GK:∀ p,Below wr.heap.size wr (Batch.grew w8 p):=fun p=>hb8.trans ((Batch.grew_below w8 p).mono hb8.size); have f0:∀ p,(Batch.grew w8 p).cell? ⟨gr,orr+1,none⟩=some (.int .u64 (r1:Int)):=fun p=>(HKEY.out _ (GK p)).1; have f1:∀ p,(Batch.grew w8 p).cell? ⟨gr,orr+2,none⟩=some (.int .u64 (r2:Int)):=fun p=>(HKEY.out _ (GK p)).2.1; have f2:∀ p,(Batch.grew w8 p).cell? ⟨gr,orr+3,none⟩=some (.int .u64 (r3:Int)):=fun p=>(HKEY.out _ (GK p)).2.2.1; have f3:∀ p,(Batch.grew w8 p).cell? ⟨gr,orr+5,none⟩=some (.int .u64 (r5:Int)):=fun p=>(HKEY.out _ (GK p)).2.2.2.1; have f4:∀ p,(Batch.grew w8 p).cell? ⟨gr,orr+6,none⟩=some (.int .u64 (r6:Int)):=fun p=>(HKEY.out _ (GK p)).2.2.2.2.1; have f5:∀ p,(Batch.grew w8 p).cell? ⟨gr,orr+7,none⟩=some (.int .u64 (r7:Int)):=fun p=>(HKEY.out _ (GK p)).2.2.2.2.2.1; have f6:∀ p,(Batch.grew w8 p).cell? ⟨gk,ok+Q,none⟩=some (.int .u64 (kt:Int)):=fun p=>(HKEY.out _ (GK p)).2.2.2.2.2.2.1; have f7:∀ p,(Batch.grew w8 p).cell? ⟨g7,o7+Q,none⟩=some (.int .u64 (wt:Int)):=fun p=>(HKEY.out _ (GK p)).2.2.2.2.2.2.2.1; have f8:∀ p,(Batch.grew w8 p).cell? ⟨w.heap.size,2,none⟩=some (.slice A 3 cA):=fun p=>(HKEY.out _ (GK p)).2.2.2.2.2.2.2.2.1; have f9:∀ p,(Batch.grew w8 p).cell? ⟨w.heap.size,3,none⟩=some (.slice B 3 cB):=fun p=>(HKEY.out _ (GK p)).2.2.2.2.2.2.2.2.2.1; have f10:∀ p,(Batch.grew w8 p).cell? ⟨w.heap.size,6,none⟩=some (.slice (some ⟨gk,ok,none⟩) 64 cK):=fun p=>(HKEY.out _ (GK p)).2.2.2.2.2.2.2.2.2.2.1; have fld:∀ p,(loadH (.pointer (some ⟨w.heap.size,0,none⟩))).run Tryz.prog (Batch.grew w8 p)=.ok (.agg hc.toArray) (Batch.grew w8 p):=fun p=>(HKEY.out _ (GK p)).2.2.2.2.2.2.2.2.2.2.2; refine Batch.wp_region_grew_tail 26 (by kernel_rfl) (by kernel_rfl) ?_; simp only [List.take_succ_cons,List.take_zero,List.drop_succ_cons,List.drop_zero]; repeat (go_big_quiet_step (first|(go_at_call 158; exact Batch.calls_grew (rlowI hc h32 _ _))))
       refine wpQuiet_nil ?_; rintro _ ⟨pz,rfl⟩; clear GK fld f0 f1 f2 f3 f4 f5 f6 f7 f8 f9 f10; rw [sum_int X Y,sum_int r3 X]; generalize (X+Y) % 4294967296=Z0 at *; generalize (r3+X) % 4294967296=Z4 at *; have hb9:Below wr.heap.size wr (Batch.grew w8 pz):=hb8.trans ((Batch.grew_below w8 pz).mono hb8.size); generalize Batch.grew w8 pz=w9 at *; clear hb8 w8; have hR9:Blk (w9.alloc (.cells (wv (Sha.steps Ks Ww s (Q+1))).toArray 151)) w9.heap.size (wv (Sha.steps Ks Ww s (Q+1))) 151:=Blk.new _ _ _; have hR10:=Lib.hid (Ws.of_blk hR9); have HL10:=Lib.hid (show (Sha.steps Ks Ww s (Q+1)).length=8 from Sha.steps_len HS8.out _ _ _); have hb10:=(hbr.trans (hb9.mono hbr.size)).alloc (Nat.le_trans hbr.size hb9.size) (.cells (wv (Sha.steps Ks Ww s (Q+1))).toArray 151); rw [HL10.out] at hR10; clear hR9; rw [HSR.out] at hR10 hb10; have hbA:Below W5.heap.size W5 (w9.alloc (.cells (wv _).toArray 151)):=hb10; simp only [wv,List.map_cons,List.map_nil] at hR10 hbA; have HbA:=Lib.hid hbA; clear hb10 hbA; go_wp2; go_roundw
       case rel=>exact⟨Q+1,some ⟨w9.heap.size,0,none⟩,8,by omega,by go_num,rfl,by omega,HbA.out,by rw [HSR.out]; exact hR10.out⟩
       case measure=>simp [intOf]; omega
      ·have hQe:Q=64:=by omega
       have HBOX2:=Lib.hid (HBOX.out.below hbr); have hsr:=hsW.below hbrW; have hrl:=hR.len; have hsl:=hsr.len; have HR32:=Lib.hid (Sha.steps_32 hs32 Ks Ww Q); have HS32s:=Lib.hid hs32; have HBK:=Lib.hid (show Sha.block Ks s b=Sha.plus (Sha.steps Ks Ww s Q) s 8 by unfold Sha.block; rw [← HWS.out,hQe])
       have hQge:64≤Q:=by omega
       clear hQe hQ64 hQ; have hbr0:=hbW.trans (hbrW.mono hbW.size); obtain⟨gr,orr,hre,hgr,hrc⟩:=vs_lit hR (by omega); subst hre; obtain⟨gs,os,hse,hgs,hsc⟩:=vs_lit hsr (by omega); subst hse; have HRC:=Lib.hid hrc; have HSC:=Lib.hid hsc; have HRL:=Lib.hid hrl; have HSL2:=Lib.hid hsl; clear hsr hR hrc hsc hrl hsl HK HWW hH5 HH HKC H7C HKL HWL HWS; generalize Sha.steps Ks Ww s Q=R at *; obtain⟨wo,hwo⟩:∃ wo,wo=wr:=⟨_,rfl⟩; subst hwo; go_wp2_with fail
       go_loopw [20,21] (fun v i wx=>∃ (j:Nat) (A7:Option Addr) (c7:Nat),j≤8∧i=.int .i64 (j:Int)∧v=.slice A7 j c7∧j≤c7∧Below wo.heap.size wo wx∧wx.ownsRow wo.heap.size 151 1 (.slice A7 j c7) j (wv (Sha.plus R s j))) (fun _ i _=>8 - (intOf i).toNat)
       case atStart=>exact⟨0,none,0,by omega,rfl,rfl,by omega,Below.refl _ _,World.ownsRow_nil _ _ _ _⟩
       case round =>
        obtain⟨j,A7',c7',hj,rfl,rfl,hjc,hb2,hown⟩:=hrel; by_cases hj8:j<8
        ·have hbox:=HBOX2.out.below hb2
         have HS:=Lib.hid (show Sha.plus R s (j+1)=Sha.plus R s j++[(R.getD j 0+s.getD j 0) % 4294967296] from rfl); have er:=(hb2.cell (p:=⟨gr,orr+j,none⟩) hgr).trans (HRC.out j _ (wv_at R (by rw [HRL.out]; exact hj8)))
         have es:=(hb2.cell (p:=⟨gs,os+j,none⟩) hgs).trans (HSC.out j _ (wv_at s (by rw [HSL2.out]; exact hj8)))
         have bx:=HR32.out.at_ j; have bs:=HS32s.out.at_ j; generalize R.getD j 0=x at *; generalize s.getD j 0=y at *; have f1:∀ p,(Batch.grew wr p).cell? ⟨gr,orr+j,none⟩=some (.int .u64 (x:Int)):=fun p=>(Batch.grew_cell (Nat.lt_of_lt_of_le hgr hb2.size) p).trans er; have f2:∀ p,(Batch.grew wr p).cell? ⟨gs,os+j,none⟩=some (.int .u64 (y:Int)):=fun p=>(Batch.grew_cell (Nat.lt_of_lt_of_le hgs hb2.size) p).trans es; have fld:∀ p,(loadH (.pointer (some ⟨w.heap.size,0,none⟩))).run Tryz.prog (Batch.grew wr p)=.ok (.agg hc.toArray) (Batch.grew wr p):=fun p=>load_H (hbox.below (Batch.grew_below wr p)) h32.len; have hj0:(0:Int)≤(j:Int):=by omega
         have hji:(j:Int)<8:=by omega
         have hjs:(j:Int)<(cs:Int):=by omega
         have h63:j+1≤maxLen:=by unfold maxLen; omega
         clear er es hbox; go_wp2_with fail
         refine Batch.wp_region_grew_move [0] [1,2,3,4,5,6,7,8,9,10,11] 12 (by kernel_rfl) (by kernel_rfl) ?_; simp only [Batch.pick,List.getD_cons_zero,List.getD_cons_succ,List.drop_succ_cons,List.drop_zero]; repeat (go_big_quiet_step (fail))
         refine wpQuiet_nil ?_; repeat (go_big_quiet_step (first|(go_at_call 158; exact Batch.calls_grew (rlowI hc h32 _ _))))
         refine wpQuiet_nil ?_; rintro _ ⟨pz,rfl⟩; clear f1 f2 fld; rw [sum_int x y]; generalize (x+y) % 4294967296=z at *; have hb3:Below wo.heap.size wo (Batch.grew wr pz):=hb2.trans ((Batch.grew_below wr pz).mono hb2.size); have hown3:=below_own hown (Batch.grew_below wr pz); generalize Batch.grew wr pz=w3 at *; have hB3:wo.heap.size≤w3.heap.size:=hb3.size; clear hown hb2; go_wp2_with (at_builtin; go_must (refine wpList_push rfl (.tmp 205) (.tmp 217) 112 rfl wo.heap.size i0 (.int .u64 0) 8 Tryz.underlying112 hi hz0 hz1 hz2 rfl _ _ _ rfl hown3 rfl rfl h63 (by omega) hB3 ?_))
         intro A' c' w6 hown' g1' g2' hgr; have hb6:=below_push hb3 hgr hB3 hown3 (Nat.le_refl _); have hrep:wv (Sha.plus R s j)++[.int .u64 (z:Int)]=wv (Sha.plus R s (j+1)):=by rw [HS.out,wv_append]; rfl
         rw [hrep] at hown'; clear hown3 hgr hrep hb3; go_wp2; rw [Batch.Qn_normal]; go_wp2; go_roundw
         case rel=>exact⟨j+1,A',c',by omega,by go_num,rfl,g1',hb6,hown'⟩
         case measure=>simp [intOf]; omega
        ·have hje:j=8:=by omega
         subst hje; go_wp2; go_ret; exact⟨A7',c7',rfl,hjc,by rw [HKS.out,HBK.out]; exact Ws.of_own hown,hbr0.trans (hb2.mono hbr0.size)⟩
end
section
open Go.RowKit Mem
def sha_pad (d:List UInt8) (z:Nat):List UInt8:=d++[128]++List.replicate z 0
theorem pad_zero(d:List UInt8):bv d++[.int .u8 128]=bv (sha_pad d 0):=by simp [sha_pad,bv]
theorem pad_more(d:List UInt8) (z:Nat):bv (sha_pad d z)++[.int .u8 0]=bv (sha_pad d (z+1)):=by
 unfold sha_pad
 rw [List.replicate_succ',← List.append_assoc,bv_append (d++[128]++List.replicate z 0)]
 rfl
theorem full_pad(d:List UInt8):bv (sha_pad d (Sha.zeros d.length))++bv (Sha.be 8 (8 * d.length))=bv (Sha.full d):=by rw [← bv_append]; rfl
theorem rep_more(j:Nat):bv (List.replicate j 0)++[.int .u8 0]=bv (List.replicate (j+1) 0):=by
 rw [List.replicate_succ',bv_append]
 rfl
def lenV:Value→Nat
 | .slice _ n _=>n
 | _=>0
theorem zeros_more{n z k:Nat} (hk:k=n+1+z) (hz:z<Sha.zeros n):∃ r,0<r∧(k+8) % 64=r:=by
 refine⟨_,?_,rfl⟩
 unfold Sha.zeros at hz
 omega
theorem zeros_done{n z k:Nat} (hk:k=n+1+z) (hz:z=Sha.zeros n):(k+8) % 64=0:=by
 unfold Sha.zeros at hz
 omega
theorem rsum_any(hc:List Value) (A:Option Addr) (cA:Nat) (B:Option Addr) (cB:Nat) (C:Option Addr) (cC:Nat) (D:Option Addr) (cD:Nat) (K:Option Addr) (cK:Nat) (F:Option Addr) (cF:Nat)
  (Ad:Option Addr) (n c:Nat) (d:List UInt8) (w:World) (h:HIn w hc A cA B cB C cC D cD K cK F cF) (hd:Bs w w.heap.size Ad n d) (hn:n≤1000000) :
  Calls Tryz.prog 78 #[.agg hc.toArray,.slice Ad n c] w fun e w'=>∃ A' c',e=.returned (.slice A' 32 c')∧32≤c'∧w'.ownsRow w.heap.size 5 1 (.slice A' 32 c') 32 (bv (Sha.sum (Sha.tops 3 64) (Sha.tops 2 8) d))∧Below w.heap.size w w':=by
 obtain⟨i0,hi,hz0,hz1,hz2⟩:=info_parts infoB
 obtain⟨i1,hi1,hy0,hy1,hy2⟩:=info_parts infoW
 have h32:=h.h32
 have HDL:=Lib.hid hd.len
 obtain⟨W,hW⟩:∃ W,w.alloc (.cells hc.toArray 114)=W:=⟨_,rfl⟩
 have BH:Blk W w.heap.size hc 114:=by rw [← hW]; exact Blk.new _ _ _
 have hbW:Below w.heap.size w W:=by rw [← hW]; exact(Below.refl _ _).alloc (Nat.le_refl _) _
 have hWs:w.heap.size≤W.heap.size:=hbW.size
 have HH:HIn W hc A cA B cB C cC D cD K cK F cF:=h.below hbW
 have hdW:Bs W W.heap.size Ad n d:=vs_below hd hbW
 have HC0:Hid (∀ wr,Below W.heap.size W wr→wr.cell? ⟨w.heap.size,0,none⟩=some (.int .i64 32)):=Lib.hid fun wr hr=>((BH.below hr).cell 0).trans h32.bits
 have HW:=Lib.hid hW
 have h63:0+n≤maxLen:=by unfold maxLen; omega
 have h63b:n+1≤maxLen:=by unfold maxLen; omega
 clear hW hd h
 go_enter Tryz.func78,Tryz.ntmps78
 go_upto_region 1 with fail
 rw [HW.out]
 go_wp2_with (at_builtin; go_must (refine wpList_append W rfl (.tmp 15) (.tmp 16) 62 rfl W.heap.size 5 i0 (.int .u8 0) 1 1 Tryz.underlying62 hi hz0 hz1 hz2 rfl (by omega) _ 0 [] rfl (World.ownsRow_nil _ _ _ _) W.heap.size _ n _ _ rfl hdW (bv_oneCell _) h63 (by omega) (Nat.le_refl _) ?_))
 intro A5 c5 w5 hown5 g5 g5' hgr
 have hb5:Below W.heap.size W w5:=Mem.below_grown (Below.refl _ _) hgr (Nat.le_refl _) (World.ownsRow_nil W W.heap.size 5 1)
 have hown5:w5.ownsRow W.heap.size 5 1 (.slice A5 n c5) n (bv d):=by simpa using hown5
 have hB1:W.heap.size≤w5.heap.size:=hb5.size
 clear hgr hdW
 go_wp2_with (at_builtin; go_must (refine wpList_push rfl (.tmp 18) (.tmp 19) 62 rfl W.heap.size i0 (.int .u8 0) 1 Tryz.underlying62 hi hz0 hz1 hz2 rfl _ _ _ rfl hown5 rfl rfl h63b (by omega) hB1 ?_))
 intro A6 c6 w6 hown6 g6 g6' hgr6
 have hb6:=below_push hb5 hgr6 hB1 hown5 (Nat.le_refl _)
 have hown6:w6.ownsRow W.heap.size 5 1 (.slice A6 (n+1) c6) (n+1) (bv (sha_pad d 0)):=by rw [← pad_zero]; exact hown6
 have k6:=HC0.out _ hb6
 clear hown5 hgr6 hb5 hB1 g5 g5' g6 g6' h63 h63b
 go_wp2_with fail
 go_loopw [5] (fun v wr=>∃ (z k:Nat) (A5:Option Addr) (c5:Nat),z≤Sha.zeros n∧Hid (k=n+1+z)∧k≤n+65∧v=.slice A5 k c5∧Below W.heap.size W wr∧wr.ownsRow W.heap.size 5 1 (.slice A5 k c5) k (bv (sha_pad d z))) (fun v _=>n+66 - lenV v)
 case atStart=>exact⟨0,n+1,A6,c6,by omega,Lib.hid rfl,by omega,rfl,hb6,hown6⟩
 case round =>
  clear k6 hown6 hb6; obtain⟨z,k,A5,c5,hz,HK,hk,rfl,hbr,hown⟩:=hrel; have k0:=HC0.out _ hbr; have hm1:(k:Int)+8≤2000000:=by omega
  have hm0:(0:Int)≤(k:Int):=by omega
  by_cases hzl:z<Sha.zeros n
  ·obtain⟨r,hr0,hr⟩:=zeros_more HK.out hzl
   have ht:Int.tmod ((k:Int)+8) 64=(r:Int):=by rw [← hr]; exact nat_tmod (k+8) 64
   have ht2:((k:Int)+8) % 64=(r:Int):=by rw [← hr]; omega
   have hrn:((r:Int) != 0)=true:=by simp; omega
   have HZ:=Lib.hid hzl; have h63:k+1≤maxLen:=by unfold maxLen; omega
   have hB1:W.heap.size≤wr.heap.size:=hbr.size; clear hr hz hzl; go_wp2_with (at_builtin; go_must (refine wpList_push rfl (.tmp 33) (.tmp 34) 62 rfl W.heap.size i0 (.int .u8 0) 1 Tryz.underlying62 hi hz0 hz1 hz2 rfl _ _ _ rfl hown rfl rfl h63 (by omega) hB1 ?_))
   intro A' c' w2 hown' g1' g2' hgr; have hb2:=below_push hbr hgr hB1 hown (Nat.le_refl _); rw [pad_more] at hown'; have hkz:z<Sha.zeros n:=HZ.out; have hz64:Sha.zeros n<64:=Nat.mod_lt _ (by omega); have HKB:=Lib.hid (show k+1≤n+65 by have:=HK.out; omega)
   clear hown hgr hbr ht ht2 hrn hr0 hkz hz64; go_wp2; go_roundw
   case rel=>exact⟨z+1,k+1,A',c',HZ.out,Lib.hid (by rw [HK.out]; omega),HKB.out,rfl,hb2,hown'⟩
   case measure=>simp [lenV]; omega
  ·have hze:z=Sha.zeros n:=by omega
   have hr:=zeros_done HK.out hze; have ht:Int.tmod ((k:Int)+8) 64=0:=by
    have:=nat_tmod (k+8) 64; rw [hr] at this; exact this
   have ht2:((k:Int)+8) % 64=0:=by omega
   rw [hze] at hown; have HK2:=Lib.hid (show k=n+1+Sha.zeros n by rw [HK.out,hze]); clear hr hz hzl hze HK; obtain⟨wo,hwo⟩:∃ wo,wo=wr:=⟨_,rfl⟩; subst hwo; go_wp2_with fail
   have hkb:k+8≤2000000:=by omega
   have hbW0:=hbr; clear ht ht2 k0 hm1 hm0; go_loopw [8,9] (fun v i wx=>∃ (j:Nat) (A8:Option Addr) (c8:Nat),j≤8∧i=.int .i64 (j:Int)∧v=.slice A8 j c8∧Below wo.heap.size wo wx∧wx.ownsRow wo.heap.size 5 1 (.slice A8 j c8) j (bv (List.replicate j 0))) (fun _ i _=>8 - (intOf i).toNat)
   case atStart=>exact⟨0,none,0,by omega,rfl,rfl,Below.refl _ _,World.ownsRow_nil _ _ _ _⟩
   case round =>
    obtain⟨j,A8,c8,hj,rfl,rfl,hbr,hown8⟩:=hrel; by_cases hj8:j<8
    ·have h63:j+1≤maxLen:=by unfold maxLen; omega
     have hB1:wo.heap.size≤wr.heap.size:=hbr.size; go_wp2_with (at_builtin; go_must (refine wpList_push rfl (.tmp 44) (.tmp 45) 62 rfl wo.heap.size i0 (.int .u8 0) 1 Tryz.underlying62 hi hz0 hz1 hz2 rfl _ _ _ rfl hown8 rfl rfl h63 (by omega) hB1 ?_))
     intro A' c' w2 hown' g1' g2' hgr; have hb2:=below_push hbr hgr hB1 hown8 (Nat.le_refl _); rw [rep_more] at hown'; clear hown8 hgr hbr; go_wp2; go_roundw
     case rel=>exact⟨j+1,A',c',by omega,by go_num,rfl,hb2,hown'⟩
     case measure=>simp [intOf]; omega
    ·have hje:j=8:=by omega
     have HJ:=Lib.hid hje; have hjge:8≤j:=by omega
     have hjle:j≤8:=by omega
     obtain⟨g8,rfl,hg8a,hg8b⟩:=own_some hown8 (by omega); have hj8':j≤c8:=by obtain⟨_,_,e,h1,_⟩:=own_form hown8; injection e with _ _ e; omega
     obtain⟨w1,hw1⟩:∃ w1,w1=wr:=⟨_,rfl⟩; subst hw1; have hown8':w1.ownsRow wo.heap.size 5 1 (.slice (some ⟨g8,0,none⟩) j c8) j (bv (List.replicate (8 - 0) 0++Sha.be 0 (8 * n))):=by rw [hje] at hown8 ⊢; exact hown8
     have hbW1:=hbr; clear hj hje hown8 hj8; go_wp2_with fail
     go_loopw [7,10] (fun v i wx=>∃ q:Nat,q≤8∧i=.int .i64 (7 - (q:Int))∧v=.int .i64 ((Sha.rem (8 * n) q:Nat):Int)∧Below wo.heap.size wo wx∧wx.ownsRow wo.heap.size 5 1 (.slice (some ⟨g8,0,none⟩) j c8) j (bv (List.replicate (8 - q) 0++Sha.be q (8 * n)))) (fun _ i _=>(intOf i+1).toNat)
     case atStart=>exact⟨0,by omega,rfl,by simp [Sha.rem],hbW1,hown8'⟩
     case round =>
      clear hown8' hbW1; obtain⟨q,hq,rfl,rfl,hb,hown8⟩:=hrel; by_cases h8:q<8
      ·obtain⟨dd,hdd⟩:∃ dd:Nat,7 - q=dd:=⟨_,rfl⟩
       have e1:(7 - (q:Int))=(dd:Int):=by omega
       have hd7:dd≤7:=by omega
       have hdj:(dd:Int)<(j:Int):=by omega
       have hx:Sha.rem (8 * n) q≤8000000:=Nat.le_trans (rem_le _ q) (by omega); have HS:=Lib.hid (Sha.be_set 8 q (8 * n) h8); rw [show 8 - q - 1=dd by omega] at HS; have HR:=Lib.hid (show Sha.rem (8 * n) (q+1)=Sha.rem (8 * n) q / 256 from rfl); have hl:(List.replicate (8 - q) 0++Sha.be q (8 * n)).length=8:=by rw [List.length_append,List.length_replicate,Sha.be_len]; omega
       generalize List.replicate (8 - q) 0++Sha.be q (8 * n)=O at *; generalize Sha.rem (8 * n) q=x at *; have cd:wr.cell? ⟨g8,dd,none⟩=some (.int .u8 (O[dd]'(by omega)).toNat):=by
        have:=hown8.cells (g:=g8) rfl dd (.int .u8 (O[dd]'(by omega)).toNat) (by rw [bv_at,List.getElem?_eq_getElem (by omega)]; rfl)
        rwa [zero_add_] at this
       have cf:wr.frozen? ⟨g8,dd,none⟩=false:=hown8.frozenAt dd; have ch:g8<wr.heap.size:=(hown8.lt g8 rfl).2; generalize (O[dd]'(by omega)).toNat=od at *; have hr:=nat_tmod x 256; have hqd:=nat_tdiv x 256; obtain⟨r,hr2⟩:∃ r,x % 256=r:=⟨_,rfl⟩; obtain⟨y,hy2⟩:∃ y,x / 256=y:=⟨_,rfl⟩; have hr3:r<256:=by omega
       have hy3:y≤8000000:=by omega
       have hrE:(x:Int) % 256=(r:Int):=by omega
       have hyE:(x:Int) / 256=(y:Int):=by omega
       rw [hr2] at hr HS; rw [hy2] at hqd HR; have hr:Int.tmod (x:Int) 256=(r:Int):=hr; have hqd:Int.tdiv (x:Int) 256=(y:Int):=hqd; have hst:=(hown8.stored dd (.int .u8 ((UInt8.ofNat r).toNat:Int))).1; rw [bv_set,HS.out,UInt8.toNat_ofNat_of_lt' (show r<256 from hr3)] at hst; have hms:(intOf (Value.int IntKind.i64 ((dd:Int) - 1))+1).toNat<(intOf (Value.int IntKind.i64 (dd:Int))+1).toNat:=by
        show ((dd:Int) - 1+1).toNat<((dd:Int)+1).toNat
        omega
       have HE:=Lib.hid (show ((dd:Int) - 1)=7 - ((q+1:Nat):Int) by omega); have HST:=Lib.hid hst; have hb3:=hb.setCell (p:=⟨g8,dd,none⟩) hg8a (.int .u8 (r:Int)); clear hr2 hy2 hdd hown8 HS hl hst hb; rw [e1]; clear e1; go_wp2; go_roundw
       case rel=>exact⟨q+1,by omega,by rw [HE.out],by rw [HR.out],hb3,HST.out⟩
       case measure=>exact hms
      ·have hqe:q=8:=by omega
       have hown9:wr.ownsRow wo.heap.size 5 1 (.slice (some ⟨g8,0,none⟩) j c8) j (bv (Sha.be 8 (8 * n))):=by rw [hqe] at hown8; simpa using hown8
       have hneg:(7 - (q:Int)) = -1:=by omega
       obtain⟨w2,hw2⟩:∃ w2,w2=wr:=⟨_,rfl⟩; subst hw2; have HQ:=Lib.hid hqe; have hq8:8≤q:=by omega
       have HB:=Lib.hid hb; have hownA:=below_own hown hb; have hbA:=hbW0.trans (hb.mono hbW0.size); have hrd:Vs w2 w2.heap.size 1 (some ⟨g8,0,none⟩) j (bv (Sha.be 8 (8 * n))):=Bs.of_own hown9; have h63:k+j≤maxLen:=by unfold maxLen; omega
       have hB1:W.heap.size≤w2.heap.size:=hbA.size; clear hown8 hqe hneg hq h8 hb hown hown9 hbW0; go_wp2_with (at_builtin; go_must (refine wpList_append w2 rfl (.tmp 61) (.tmp 62) 62 rfl W.heap.size 5 i0 (.int .u8 0) 1 1 Tryz.underlying62 hi hz0 hz1 hz2 rfl (by omega) _ _ _ rfl hownA w2.heap.size _ j _ _ rfl hrd (bv_oneCell _) h63 (by omega) hB1 ?_))
       intro AA cA' w3 hownF gF gF' hgr; have hb3:=Mem.below_grown hbA hgr hB1 hownA; have hfp:bv (sha_pad d (Sha.zeros n))++bv (Sha.be 8 (8 * n))=bv (Sha.full d):=by rw [← HDL.out]; exact full_pad d
       rw [hfp] at hownF; clear hgr hownA hrd hfp hB1 h63 hbA; obtain⟨KK,hKK⟩:∃ KK,k+j=KK:=⟨_,rfl⟩; have hKb:KK≤2000000:=by omega
       have HKE:=Lib.hid (show (Sha.full d).length=KK by have:=Bs.len (Bs.of_own hownF); rw [this,hKK])
       have H64:=Lib.hid (show KK % 64=0 by rw [← HKE.out]; exact Sha.full_len d)
       have hKp:0<KK:=by omega
       rw [hKK] at hownF gF; rw [hKK]; clear hKK; obtain⟨ga,rfl,hga1,hga2⟩:=own_some hownF hKp; have hfW:Ws w3 F 8 (Sha.tops 2 8):=HH.f.below hb3; have h63:0+8≤maxLen:=by unfold maxLen; omega
       have k7:w3.cell? ⟨w.heap.size,7,none⟩=some (.slice F 8 cF):=((BH.below hb3).cell 7).trans (by rw [HH.eq]; rfl)
       go_wp2_with (at_builtin; go_must (refine wpList_append w3 rfl (.tmp 64) (.tmp 66) 112 rfl w3.heap.size 151 i1 (.int .u64 0) 1 8 Tryz.underlying112 hi1 hy0 hy1 hy2 rfl (by omega) _ 0 [] rfl (World.ownsRow_nil _ _ _ _) w3.heap.size _ 8 _ _ rfl hfW (wv_one _) h63 (by omega) (Nat.le_refl _) ?_))
       intro As cs w4 hownS gS gS' hgr; have hownS:w4.ownsRow w3.heap.size 151 1 (.slice As 8 cs) 8 (wv (Sha.tops 2 8)):=by simpa using hownS
       have hS4:Ws w4 As 8 (Sha.states (Sha.tops 3 64) (Sha.tops 2 8) (Sha.full d) 0):=Ws.of_own hownS; have hb4:Below w3.heap.size w3 w4:=Mem.below_grown (Below.refl _ _) hgr (Nat.le_refl _) (World.ownsRow_nil w3 w3.heap.size 151 1); clear hgr hownS hfW k7 h63 gS'; go_wp2_with fail
       go_loopw [11,12] (fun v i wx=>∃ (t q:Nat) (As:Option Addr) (cs:Nat),Hid (q=64 * t)∧q≤KK∧i=.int .i64 (q:Int)∧v=.slice As 8 cs∧8≤cs∧Below w3.heap.size w3 wx∧Ws wx As 8 (Sha.states (Sha.tops 3 64) (Sha.tops 2 8) (Sha.full d) t)) (fun _ i _=>KK - (intOf i).toNat)
       case atStart=>exact⟨0,0,As,cs,Lib.hid rfl,by omega,rfl,rfl,gS,hb4,hS4⟩
       case round =>
        clear hS4 hb4 gS; obtain⟨t,q2,As,cs,HQ2,hq2,rfl,rfl,hcs,hbx,hSx⟩:=hrel; have hbxW:=hb3.trans (hbx.mono hb3.size); have k0:=HC0.out _ hbxW; by_cases hlt:q2<KK
        ·have hq64:q2+64≤KK:=by have:=H64.out; have:=HQ2.out; omega
         have HS:=Lib.hid (show Sha.states (Sha.tops 3 64) (Sha.tops 2 8) (Sha.full d) (t+1)=Sha.block (Sha.tops 3 64) (Sha.states (Sha.tops 3 64) (Sha.tops 2 8) (Sha.full d) t) (((Sha.full d).drop (64 * t)).take 64) from rfl); have hS32:=Lib.hid (Sha.states_32 (Sha.tops_32 2 8) (Sha.tops 3 64) (Sha.full d) t); rw [← HQ2.out] at HS; have hrd:=(Bs.of_own hownF).below hbx; have hrd2:Bs wr w3.heap.size (some ⟨ga,q2,none⟩) 64 (((Sha.full d).drop q2).take 64):=by
          have h1:=(hrd.tail (k:=q2) (cap:=cA') (by omega) gF (by omega)).take (k:=64) (by omega); simpa [zero_add_] using h1
         have fld:∀ p,(loadH (.pointer (some ⟨w.heap.size,0,none⟩))).run Tryz.prog (Batch.grew wr p)=.ok (.agg hc.toArray) (Batch.grew wr p):=fun p=>load_H ((BH.below hbxW).below (Batch.grew_below wr p)) h32.len; have f0:∀ p,(Batch.grew wr p).cell? ⟨w.heap.size,0,none⟩=some (.int .i64 32):=fun p=>((BH.below hbxW).below (Batch.grew_below wr p)).cell 0 |>.trans h32.bits; have i1':IntKind.i64.wrap ((q2:Int)+64)=(q2:Int)+64:=by rw [IntKind.wrap_i64]; omega
         have i2:(0:Int)≤(q2:Int):=by omega
         have i3:(q2:Int)≤(q2:Int)+64:=by omega
         have i4:(q2:Int)+64≤(cA':Int):=by omega
         have i5:¬ cA'=q2:=by omega
         have i6:((q2:Int)+64).toNat=q2+64:=by omega
         clear hrd; go_wp2_with fail
         refine Batch.wp_region_grew_tail 10 (by kernel_rfl) (by kernel_rfl) ?_; simp only [List.take_succ_cons,List.take_zero,List.drop_succ_cons,List.drop_zero]; repeat (go_big_quiet_step (fail))
         refine wpQuiet_nil ?_; rintro _ ⟨pz,rfl⟩; have hg:=Batch.grew_below wr pz; have hbB:=rblock_any hc A cA B cB C cC D cD K cK F cF As cs _ (some ⟨ga,q2,none⟩) (cA' - q2) _ (Batch.grew wr pz) (HH.below (hbxW.trans (hg.mono hbxW.size))) (hSx.below hg) hS32.out hcs ((hrd2.mono hbx.size).below hg |>.mono hg.size); have hgx:Below w3.heap.size w3 (Batch.grew wr pz):=hbx.trans (hg.mono hbx.size); rw [← HS.out] at hbB; generalize Batch.grew wr pz=wg at *; clear fld f0 i1' i2 i3 i4 i5 i6 hrd2 hSx hg hbx hbxW k0; go_wp2_with fail
         refine hbB.mono ?_; rintro e w7 ⟨A7,c7,rfl,hc7,hS7,hb7⟩; have hb8:=hgx.trans (hb7.mono hgx.size); have k7:=HC0.out _ (hb3.trans (hb8.mono hb3.size)); have HQ3:=Lib.hid (show q2+64=64 * (t+1) by rw [HQ2.out]; omega)
         clear hbB hb7 hgx; go_wp2; go_roundw
         case rel=>exact⟨t+1,q2+64,A7,c7,HQ3,hq64,by go_num,rfl,hc7,hb8,hS7⟩
         case measure=>simp [intOf]; omega
        ·have hqe:q2=KK:=by omega
         have HT:Hid (t=(Sha.full d).length / 64):=Lib.hid (by have:=HQ2.out; rw [HKE.out]; omega)
         have hqge:KK≤q2:=by omega
         have HSL:=Lib.hid (Sha.states_len (F:=Sha.tops 2 8) (by simp [Sha.tops_len]) (Sha.tops 3 64) (Sha.full d) t); have HS32:=Lib.hid (Sha.states_32 (Sha.tops_32 2 8) (Sha.tops 3 64) (Sha.full d) t); have HSUM:=Lib.hid (show Sha.sum (Sha.tops 3 64) (Sha.tops 2 8) d=Sha.digest (Sha.states (Sha.tops 3 64) (Sha.tops 2 8) (Sha.full d) t) 8 by unfold Sha.sum; rw [← HT.out])
         generalize Sha.states (Sha.tops 3 64) (Sha.tops 2 8) (Sha.full d) t=S at *; obtain⟨gs,os,rfl,hgs,hsc⟩:=vs_lit hSx (by omega); have HSC:=Lib.hid hsc; obtain⟨w5,hw5⟩:∃ w5,w5=wr:=⟨_,rfl⟩; subst hw5; have hdec:decide (q2<KK)=false:=by simp; omega
         clear hqe hlt hq2 k0 hsc hSx; go_wp2_with fail
         clear hqge; go_loopw [13,14] (fun v i wx=>∃ (j m:Nat) (A9:Option Addr) (c9:Nat),j≤8∧Hid (m=4 * j)∧m≤32∧i=.int .i64 (j:Int)∧v=.slice A9 m c9∧m≤c9∧Below w5.heap.size w5 wx∧wx.ownsRow w5.heap.size 5 1 (.slice A9 m c9) m (bv (Sha.digest S j))) (fun _ i _=>8 - (intOf i).toNat)
         case atStart=>exact⟨0,0,none,0,by omega,Lib.hid rfl,by omega,rfl,rfl,by omega,Below.refl _ _,World.ownsRow_nil _ _ _ _⟩
         case round =>
          obtain⟨j,m,A9,c9,hj,HM,hm,rfl,rfl,hmc,hby,hown9⟩:=hrel; by_cases hj8:j<8
          ·have HS:=Lib.hid (show Sha.digest S (j+1)=Sha.digest S j++Sha.be 4 (S.getD j 0) from rfl)
           have es:=(hby.cell (p:=⟨gs,os+j,none⟩) hgs).trans (HSC.out j _ (wv_at S (by rw [HSL.out]; exact hj8)))
           have bs:=HS32.out.at_ j; generalize S.getD j 0=y at *; have hbyW:=hbxW.trans (hby.mono hbxW.size); have f2:∀ p,(Batch.grew wr p).cell? ⟨gs,os+j,none⟩=some (.int .u64 (y:Int)):=fun p=>(Batch.grew_cell (Nat.lt_of_lt_of_le hgs hby.size) p).trans es; have fld:∀ p,(loadH (.pointer (some ⟨w.heap.size,0,none⟩))).run Tryz.prog (Batch.grew wr p)=.ok (.agg hc.toArray) (Batch.grew wr p):=fun p=>load_H ((BH.below hbyW).below (Batch.grew_below wr p)) h32.len; have hj0:(0:Int)≤(j:Int):=by omega
           have hji:(j:Int)<8:=by omega
           have h63:m+4≤maxLen:=by unfold maxLen; omega
           clear es; go_wp2_with fail
           refine Batch.wp_region_grew_move [0] [1,2,3,4,5] 6 (by kernel_rfl) (by kernel_rfl) ?_; simp only [Batch.pick,List.getD_cons_zero,List.getD_cons_succ,List.drop_succ_cons,List.drop_zero]; repeat (go_big_quiet_step (fail))
           refine wpQuiet_nil ?_; repeat (go_big_quiet_step (fail))
           refine wpQuiet_nil ?_; rintro _ ⟨pz,rfl⟩; have hg:=Batch.grew_below wr pz; have hb3':Below w5.heap.size w5 (Batch.grew wr pz):=hby.trans (hg.mono hby.size); have hown3:=below_own hown9 hg; have hbB:=rbytes_any hc h32 y (by omega) (Batch.grew wr pz); generalize Batch.grew wr pz=w6 at *; clear f2 fld hown9 hby hg hbyW; go_wp2_with fail
           refine hbB.mono ?_; rintro e w7 ⟨rfl,hB7,hb7⟩; have hown7:=below_own hown3 hb7; have hb8:=hb3'.trans (hb7.mono hb3'.size); have hB3:w5.heap.size≤w7.heap.size:=hb8.size; have hrd:Vs w7 w7.heap.size 1 (some ⟨w6.heap.size+1,0,none⟩) 4 (bv (Sha.be 4 y)):=⟨by rw [bv_length,Sha.be_len],fun k u hk=>⟨_,rfl,hB7.lt,by rw [zero_add_]; exact(hB7.cell k).trans hk⟩⟩
           clear hbB hB7 hown3 hb7 hb3'; go_wp2_with (at_builtin; go_must (refine wpList_append w7 rfl (.tmp 92) (.tmp 98) 62 rfl w5.heap.size 5 i0 (.int .u8 0) 1 1 Tryz.underlying62 hi hz0 hz1 hz2 rfl (by omega) _ _ _ rfl hown7 w7.heap.size _ 4 _ _ rfl hrd (bv_oneCell _) h63 (by omega) hB3 ?_))
           intro A' c' w8 hown' g1' g2' hgr; have hb9:=Mem.below_grown hb8 hgr hB3 hown7; rw [← bv_append,← HS.out] at hown'; have HM2:=Lib.hid (show m+4=4 * (j+1) by rw [HM.out]; omega)
           have HMB:=Lib.hid (show m+4≤32 by have:=HM.out; omega)
           clear hown7 hgr hb8 hrd hB3 h63; go_wp2; rw [Batch.Qn_normal]; go_wp2; go_roundw
           case rel=>exact⟨j+1,m+4,A',c',by omega,HM2,HMB.out,by go_num,rfl,g1',hb9,hown'⟩
           case measure=>simp [intOf]; omega
          ·have hje:j=8:=by omega
           have hme:m=32:=by rw [HM.out,hje]
           subst hje; subst hme; have hbF:=(hbW.trans (hbxW.mono hbW.size)).trans (hby.mono (Nat.le_trans hbW.size hbxW.size)); have hz5:w.heap.size≤w5.heap.size:=Nat.le_trans hbW.size hbxW.size; go_wp2; go_ret; exact⟨A9,c9,rfl,hmc,by rw [HSUM.out]; exact own_base hown9 hz5,hbF⟩
end
section
open Go.RowKit Mem
theorem rmul_any(A:Option Addr) (n c:Nat) (xs:List Int) (A':Option Addr) (n' c':Nat) (ys:List Int) (w:World) (h:Is w A n xs) (h':Is w A' n' ys) (hn:n≤1000) (hn':n'≤1000) :
  Calls Tryz.prog 155 #[.slice A n c,.slice A' n' c'] w fun e w'=>e=.returned (.slice (some ⟨w.heap.size,0,none⟩) (n+n') (n+n'))∧Blk w' w.heap.size (iv (Sha.mul xs ys)) 3∧Below w.heap.size w w':=by
 have hl:=h.len
 have hl':=h'.len
 have hmk:=makeI w (n+n') (by omega)
 have hb0:=Blk.new w (iv (List.replicate (n+n') 0)) 3
 have he0:List.replicate (n+n') 0=Sha.mulOut xs ys 0:=by unfold Sha.mulOut; rw [hl,hl']
 rw [he0] at hmk hb0
 rw [Int.natCast_add] at hmk
 have hbw:Below w.heap.size w (w.alloc (.cells (iv (Sha.mulOut xs ys 0)).toArray 3)):=(Below.refl _ _).alloc (Nat.le_refl _) _
 have hlen:∀ i,(Sha.mulOut xs ys i).length=n+n':=fun i=>by rw [Sha.mulOut_len,hl,hl']
 have hilen:∀ i o j,(Sha.mulIn xs ys i o j).1.length=o.length:=fun i o j=>by rw [Sha.mulIn_len]
 unfold Sha.mul
 have HL:=Lib.hid hl
 have HL':=Lib.hid hl'
 rw [hl]
 clear hl hl' he0
 go_enter Tryz.func155,Tryz.ntmps155
 go_wp2
 go_loopw [6] (fun i wr=>∃ k:Nat,k≤n∧i=.int .i64 k∧Below w.heap.size w wr∧Blk wr w.heap.size (iv (Sha.mulOut xs ys k)) 3) (fun i _=>n - (intOf i).toNat)
 case atStart=>exact⟨0,by omega,rfl,hbw,hb0⟩
 case round =>
  obtain⟨k,hk,rfl,hb,hB⟩:=hrel; by_cases hlt:k<n
  ·have ho:=hlen k
   have hs:Sha.mulOut xs ys (k+1)=((Sha.mulIn xs ys k (Sha.mulOut xs ys k) n').1.set (k+n') (wrap64 ((Sha.mulIn xs ys k (Sha.mulOut xs ys k) n').1.getD (k+n') 0+(Sha.mulIn xs ys k (Sha.mulOut xs ys k) n').2))):=by
    conv=>lhs; unfold Sha.mulOut
    rw [HL'.out]
   have HS:=Lib.hid hs; clear hs; generalize Sha.mulOut xs ys k=o at *; go_wp2; go_loopw [7,8,9] (fun cy j _ wr=>∃ l:Nat,l≤n'∧j=.int .i64 l∧cy=.int .i64 (Sha.mulIn xs ys k o l).2∧Below w.heap.size w wr∧Blk wr w.heap.size (iv (Sha.mulIn xs ys k o l).1) 3) (fun _ j _ _=>n' - (intOf j).toNat)
   case atStart=>exact⟨0,by omega,rfl,rfl,hb,hB⟩
   case round =>
    obtain⟨l,hl,rfl,rfl,hb1,hB1⟩:=hrel; by_cases hlt':l<n'
    ·obtain⟨ba,oa,rfl,hba,hca⟩:=vs_lit (h.below hb1) (by omega)
     obtain⟨bb,ob,rfl,hbb,hcb⟩:=vs_lit (h'.below hb1) (by omega); have ca:=hca k _ (iv_at xs (by rw [HL.out]; exact hlt))
     have cb:=hcb l _ (iv_at ys (by rw [HL'.out]; exact hlt'))
     have hql:=hilen k o l; have HS2:=Lib.hid (show Sha.mulIn xs ys k o (l+1)=(let q:=Sha.mulIn xs ys k o l
      let v:=wrap64 (wrap64 (q.1.getD (k+l) 0+wrap64 (xs.getD k 0 * ys.getD l 0))+q.2)
      (q.1.set (k+l) (v.tmod 65536),wrap64 (v.tdiv 65536))) from rfl)
     generalize Sha.mulIn xs ys k o l=q at *; obtain⟨P,cy⟩:=q; dsimp only at *
     have cp:wr.cell? ⟨w.heap.size,k+l,none⟩=some (.int .i64 (P.getD (k+l) 0)):=(hB1.cell _).trans (iv_at P (by omega)); have cf:wr.frozen? ⟨w.heap.size,k+l,none⟩=false:=hB1.froz _; clear hca hcb hql; generalize xs.getD k 0=x at *; generalize ys.getD l 0=y at *; generalize P.getD (k+l) 0=p at *; go_wp2; go_region
     all_goals
      go_wp2; go_roundw
      case rel =>
       have hB2:=(hB1.set (k+l) (.int .i64 ((wrap64 (wrap64 (p+wrap64 (x * y))+cy)).tmod 65536))).drew; rw [iv_set] at hB2; exact⟨l+1,by omega,by go_num,by rw [HS2.out],(hb1.setCell (Nat.le_refl _) _).drew,by rw [HS2.out]; exact hB2⟩
      case measure=>simp [intOf]; omega
    ·obtain rfl:l=n':=by omega
     have hql:=hilen k o l; generalize Sha.mulIn xs ys k o l=q at *; obtain⟨P,cy⟩:=q; dsimp only at *
     have cp:wr.cell? ⟨w.heap.size,k+l,none⟩=some (.int .i64 (P.getD (k+l) 0)):=(hB1.cell _).trans (iv_at P (by omega)); have cf:wr.frozen? ⟨w.heap.size,k+l,none⟩=false:=hB1.froz _; clear hql; generalize P.getD (k+l) 0=p at *; go_wp2; go_roundw
     case rel =>
      have hB2:=hB1.set (k+l) (.int .i64 (wrap64 (p+cy))); rw [iv_set] at hB2; exact⟨k+1,by omega,by go_num,hb1.setCell (Nat.le_refl _) _,by rw [HS.out]; exact hB2⟩
     case measure=>simp [intOf]; omega
  ·obtain rfl:k=n:=by omega
   go_wp2; go_ret; exact⟨rfl,hB,hb⟩
theorem lessFrom_out{xs ys:List Int} (j:Nat):Sha.lessFrom xs ys (j+1)=if xs.getD j 0=ys.getD j 0 then Sha.lessFrom xs ys j else decide (xs.getD j 0<ys.getD j 0):=rfl
theorem getD_out(xs:List Int) (j:Nat) (h:¬ j<xs.length):xs.getD j 0=0:=by
 rw [List.getD_eq_getElem?_getD,List.getElem?_eq_none (by omega)]
 rfl
theorem rless_any(A:Option Addr) (n c:Nat) (xs:List Int) (A':Option Addr) (n' c':Nat) (ys:List Int) (w:World) (h:Is w A n xs) (h':Is w A' n' ys) (hn:n≤1000) (hn':n'≤1000) :
  Calls Tryz.prog 156 #[.slice A n c,.slice A' n' c'] w fun e w'=>e=.returned (.bool (Sha.less xs ys))∧w=w':=by
 have HL:=Lib.hid h.len
 have HL':=Lib.hid h'.len
 obtain⟨m,hm⟩:∃ m,Hid (max n n'=m):=⟨_,Lib.hid rfl⟩
 have hr:Sha.less xs ys=Sha.lessFrom xs ys m:=by unfold Sha.less; rw [HL.out,HL'.out,hm.out]
 rw [hr]
 obtain⟨r,hr2⟩:∃ r,Sha.lessFrom xs ys m=r:=⟨_,rfl⟩
 rw [hr2]
 have HR2:=Lib.hid hr2
 have hm1:m≤1000:=by rw [← hm.out]; omega
 clear hr hr2
 by_cases hc:n<n'
 ·have HM:Hid (n'=m):=Lib.hid (by rw [← hm.out]; omega)
  go_enter Tryz.func156,Tryz.ntmps156
  go_wp2; go_loop [6] (fun i=>∃ k:Nat,k≤m∧i=.int .i64 ((k:Int) - 1)∧Hid (Sha.lessFrom xs ys k=r)) (fun i=>(intOf i+1).toNat)
  case atStart=>exact⟨m,by omega,by rw [← HM.out],HR2⟩
  case round =>
   obtain⟨k,hk,rfl,HK⟩:=hrel; rcases k with _|j
   ·have hrf:r=false:=by rw [← HK.out]; rfl
    subst hrf; go_wp2; go_ret; exact⟨rfl,rfl⟩
   ·have e1:(((j+1:Nat):Int) - 1)=(j:Int):=by omega
    rw [e1]; have HS:=Lib.hid (lessFrom_out (xs:=xs) (ys:=ys) j); have fa:j<n→∃ blk off,A=some ⟨blk,off,none⟩∧w.cell? ⟨blk,off+j,none⟩=some (.int .i64 (xs.getD j 0)):=fun hj=>by
     obtain⟨blk,off,e,_,hx⟩:=vs_lit h (by omega); exact⟨blk,off,e,hx j _ (iv_at xs (by rw [HL.out]; exact hj))⟩
    have fb:j<n'→∃ blk off,A'=some ⟨blk,off,none⟩∧w.cell? ⟨blk,off+j,none⟩=some (.int .i64 (ys.getD j 0)):=fun hj=>by
     obtain⟨blk,off,e,_,hx⟩:=vs_lit h' (by omega); exact⟨blk,off,e,hx j _ (iv_at ys (by rw [HL'.out]; exact hj))⟩
    have za:¬ j<n→xs.getD j 0=0:=fun hj=>getD_out xs j (by rw [HL.out]; exact hj)
    have zb:¬ j<n'→ys.getD j 0=0:=fun hj=>getD_out ys j (by rw [HL'.out]; exact hj)
    generalize xs.getD j 0=x at *; generalize ys.getD j 0=y at *; by_cases ha:j<n <;> by_cases hb:j<n' <;> by_cases hxy:x=y
    all_goals
     try (exfalso; have:=HM.out; omega)
    all_goals
     first|(have hza:=za ha; subst hza)|(obtain⟨ba,oa,rfl,ca⟩:=fa ha)
     first|(have hzb:=zb hb; first|subst hzb|skip)|(obtain⟨bb,ob,rfl,cb⟩:=fb hb)
     clear fa fb za zb; have H2:=HS.out; rw [HK.out] at H2; first|rw [if_pos hxy] at H2|rw [if_neg hxy] at H2
     have H3:=Lib.hid H2; clear H2; go_wp2; all_goals
      first
      | (go_ret; exact⟨by rw [H3.out]; rfl,rfl⟩)
      | (go_round; (case rel=>exact⟨j,by omega,by go_num,Lib.hid H3.out.symm⟩); (case measure=>simp [intOf]))
 ·have HM:Hid (n=m):=Lib.hid (by rw [← hm.out]; omega)
  go_enter Tryz.func156,Tryz.ntmps156
  go_wp2; go_loop [6] (fun i=>∃ k:Nat,k≤m∧i=.int .i64 ((k:Int) - 1)∧Hid (Sha.lessFrom xs ys k=r)) (fun i=>(intOf i+1).toNat)
  case atStart=>exact⟨m,by omega,by rw [← HM.out],HR2⟩
  case round =>
   obtain⟨k,hk,rfl,HK⟩:=hrel; rcases k with _|j
   ·have hrf:r=false:=by rw [← HK.out]; rfl
    subst hrf; go_wp2; go_ret; exact⟨rfl,rfl⟩
   ·have e1:(((j+1:Nat):Int) - 1)=(j:Int):=by omega
    rw [e1]; have HS:=Lib.hid (lessFrom_out (xs:=xs) (ys:=ys) j); have fa:j<n→∃ blk off,A=some ⟨blk,off,none⟩∧w.cell? ⟨blk,off+j,none⟩=some (.int .i64 (xs.getD j 0)):=fun hj=>by
     obtain⟨blk,off,e,_,hx⟩:=vs_lit h (by omega); exact⟨blk,off,e,hx j _ (iv_at xs (by rw [HL.out]; exact hj))⟩
    have fb:j<n'→∃ blk off,A'=some ⟨blk,off,none⟩∧w.cell? ⟨blk,off+j,none⟩=some (.int .i64 (ys.getD j 0)):=fun hj=>by
     obtain⟨blk,off,e,_,hx⟩:=vs_lit h' (by omega); exact⟨blk,off,e,hx j _ (iv_at ys (by rw [HL'.out]; exact hj))⟩
    have za:¬ j<n→xs.getD j 0=0:=fun hj=>getD_out xs j (by rw [HL.out]; exact hj)
    have zb:¬ j<n'→ys.getD j 0=0:=fun hj=>getD_out ys j (by rw [HL'.out]; exact hj)
    generalize xs.getD j 0=x at *; generalize ys.getD j 0=y at *; by_cases ha:j<n <;> by_cases hb:j<n' <;> by_cases hxy:x=y
    all_goals
     try (exfalso; have:=HM.out; omega)
    all_goals
     first|(have hza:=za ha; subst hza)|(obtain⟨ba,oa,rfl,ca⟩:=fa ha)
     first|(have hzb:=zb hb; first|subst hzb|skip)|(obtain⟨bb,ob,rfl,cb⟩:=fb hb)
     clear fa fb za zb; have H2:=HS.out; rw [HK.out] at H2; first|rw [if_pos hxy] at H2|rw [if_neg hxy] at H2
     have H3:=Lib.hid H2; clear H2; go_wp2; all_goals
      first
      | (go_ret; exact⟨by rw [H3.out]; rfl,rfl⟩)
      | (go_round; (case rel=>exact⟨j,by omega,by go_num,Lib.hid H3.out.symm⟩); (case measure=>simp [intOf]))
end
section
open Go.RowKit Mem
theorem ret_val{a b:Value} (h:a=b):Ending.returned a=.returned b:=by rw [h]
theorem rroot3_any(p:Int) (w:World) :
  Calls Tryz.prog 126 #[.int .i64 p,.int .i64 3] w fun e w'=>e=.returned (.int .u64 ((Sha.root p 3:Nat):Int))∧Below w.heap.size w w':=by
 rw [Sha.root_cast]
 obtain⟨rv,hrv⟩:∃ rv,Sha.rootSum (Sha.rootX p 3 69)=rv:=⟨_,rfl⟩
 rw [hrv]
 have HRV:=Lib.hid hrv
 clear hrv
 have hmk:(Instr.makeSlice 111 (.int .i64 13) (.int .i64 13)).run Tryz.prog w=.ok (.slice (some ⟨w.heap.size,0,none⟩) 13 13) (w.alloc (.cells (iv (List.replicate 13 0)).toArray 3)):=makeI w 13 (by omega)
 have b0:=Blk.new w (iv (List.replicate 13 0)) 3
 have c0:(w.alloc (.cells (iv (List.replicate 13 0)).toArray 3)).cell? ⟨w.heap.size,12,none⟩=some (.int .i64 0):=(b0.cell 12).trans rfl
 have f0:(w.alloc (.cells (iv (List.replicate 13 0)).toArray 3)).frozen? ⟨w.heap.size,12,none⟩=false:=b0.froz 12
 have e1:((iv (List.replicate 13 0)).toArray.setIfInBounds 12 (.int .i64 p))=(iv (Sha.target p 3)).toArray:=by
  rw [List.setIfInBounds_toArray,iv_set]; rfl
 have b1:=Blk.new w (iv (Sha.target p 3)) 3
 have hz1:(w.alloc (.cells (iv (Sha.target p 3)).toArray 3)).heap.size=w.heap.size+1:=by simp
 have hmk2:(Instr.makeSlice 111 (.int .i64 5) (.int .i64 5)).run Tryz.prog (w.alloc (.cells (iv (Sha.target p 3)).toArray 3))=_:=makeI _ 5 (by omega)
 rw [hz1] at hmk2
 obtain⟨W2,hW2⟩:∃ W2,(w.alloc (.cells (iv (Sha.target p 3)).toArray 3)).alloc (.cells (iv (List.replicate 5 0)).toArray 3)=W2:=⟨_,rfl⟩
 have B0:Blk W2 w.heap.size (iv (Sha.target p 3)) 3:=by rw [← hW2]; exact b1.alloc _
 have B1:Blk W2 (w.heap.size+1) (iv (Sha.rootX p 3 0)) 3:=by
  have:=Blk.new (w.alloc (.cells (iv (Sha.target p 3)).toArray 3)) (iv (List.replicate 5 0)) 3; rw [hz1,hW2] at this; exact this
 have hbW:Below w.heap.size w W2:=by rw [← hW2]; exact((Below.refl _ _).alloc (Nat.le_refl _) _).alloc (by rw [hz1]; omega) _
 rw [hW2,← e1] at hmk2
 clear hW2 hz1 b1 b0 e1
 generalize (iv (List.replicate 13 0)).toArray=Z at *
 go_enter Tryz.func126,Tryz.ntmps126
 go_wp2
 go_loopw [7] (fun bit wr=>∃ t:Nat,t≤69∧bit=.int .i64 (68 - (t:Int))∧Below w.heap.size w wr∧Blk wr w.heap.size (iv (Sha.target p 3)) 3∧Blk wr (w.heap.size+1) (iv (Sha.rootX p 3 t)) 3) (fun bit _=>(intOf bit+1).toNat)
 case atStart=>exact⟨0,by omega,by go_num,hbW,B0,B1⟩
 case round =>
  clear hmk hmk2 c0 f0 hbW B0 B1; obtain⟨t,ht,rfl,hb,B0,B1⟩:=hrel; by_cases h69:t=69
  ·subst h69
   have hl5:=Sha.rootX_len p 3 69; have HRS:=HRV.out; unfold Sha.rootSum at HRS; generalize Sha.rootX p 3 69=X at *; have k0:wr.cell? ⟨w.heap.size+1,0,none⟩=some (.int .i64 (X.getD 0 0)):=(B1.cell 0).trans (iv_at X (by omega)); have k1:wr.cell? ⟨w.heap.size+1,1,none⟩=some (.int .i64 (X.getD 1 0)):=(B1.cell 1).trans (iv_at X (by omega)); have k2:wr.cell? ⟨w.heap.size+1,2,none⟩=some (.int .i64 (X.getD 2 0)):=(B1.cell 2).trans (iv_at X (by omega)); have k3:wr.cell? ⟨w.heap.size+1,3,none⟩=some (.int .i64 (X.getD 3 0)):=(B1.cell 3).trans (iv_at X (by omega)); generalize X.getD 0 0=x0 at *; generalize X.getD 1 0=x1 at *; generalize X.getD 2 0=x2 at *; generalize X.getD 3 0=x3 at *; have HR2:=Lib.hid HRS; clear B0 B1 HRS; go_wp2; go_region
   all_goals
    go_wp2; go_ret; exact⟨ret_val (by rw [HR2.out]; rfl),hb.drew⟩
  ·obtain⟨b,hbt⟩:∃ b:Nat,b=68 - t:=⟨_,rfl⟩
   have e1:(68 - (t:Int))=(b:Int):=by omega
   have hb68:b≤68:=by omega
   have hstep:=Sha.rootX_len p 3 t; have HS:=Lib.hid (show Sha.rootX p 3 (t+1)=Sha.rootStep p 3 b (Sha.rootX p 3 t) by rw [hbt]; rfl)
   obtain⟨r,hr⟩:∃ r,Hid (b % 16=r):=⟨_,Lib.hid rfl⟩; obtain⟨q,hq⟩:∃ q,Hid (b / 16=q):=⟨_,Lib.hid rfl⟩; have hr15:r≤15:=by rw [← hr.out]; omega
   have hq4:q≤4:=by rw [← hq.out]; omega
   have r16:Int.tmod (b:Int) 16=(r:Int):=by
    rw [Int.tmod_eq_emod_of_nonneg (by omega),← hr.out]; omega
   have q16:Int.tdiv (b:Int) 16=(q:Int):=by
    rw [Int.tdiv_eq_ediv_of_nonneg (by omega),← hq.out]; omega
   have ht1:t<69:=by omega
   rw [e1]; have HB:=Lib.hid e1; have H5:=Lib.hid hstep; clear e1 hbt hstep h69 ht; go_wp2; go_loop [8,9] (fun d i=>∃ j:Nat,j≤r∧i=.int .i64 j∧d=.int .i64 (Sha.dbl j)) (fun _ i=>r - (intOf i).toNat)
   case atStart=>exact⟨0,by omega,rfl,rfl⟩
   case round =>
    obtain⟨j,hj,rfl,rfl⟩:=hrel; by_cases hj2:j<r
    ·have HD:=Lib.hid (show Sha.dbl (j+1)=wrap64 (2 * Sha.dbl j) from rfl)
     generalize Sha.dbl j=dj at *; go_wp2; go_round
     case rel=>exact⟨j+1,by omega,by go_num,by rw [HD.out]⟩
     case measure=>simp [intOf]; omega
    ·have hjb:j=r:=by omega
     subst hjb; clear hj hj2; have hl5:=H5.out; have hx1l:∀ v,((Sha.rootX p 3 t).set q v).length=5:=fun v=>by rw [List.length_set]; exact hl5
     have HS2:=HS; unfold Sha.rootStep at HS2; rw [hr.out,hq.out] at HS2; generalize Sha.rootX p 3 t=X at *; have k0:wr.cell? ⟨w.heap.size+1,q,none⟩=some (.int .i64 (X.getD q 0)):=(B1.cell q).trans (iv_at X (by omega)); have kf:wr.frozen? ⟨w.heap.size+1,q,none⟩=false:=B1.froz q; have kl:w.heap.size+1<wr.heap.size:=B1.lt; generalize X.getD q 0=xq at *; generalize Sha.dbl j=d at *; obtain⟨WA,hWA⟩:∃ WA,wr.setCell ⟨w.heap.size+1,q,none⟩ (.int .i64 (wrap64 (xq+d)))=WA:=⟨_,rfl⟩; have A1:=B1.set q (.int .i64 (wrap64 (xq+d))); rw [hWA,iv_set] at A1; have A0:Blk WA w.heap.size (iv (Sha.target p 3)) 3:=by rw [← hWA]; exact B0.set_ne (by simp) _
     have hbA:Below w.heap.size w WA:=by rw [← hWA]; exact hb.setCell (by simp) _
     have hXl:=hx1l (wrap64 (xq+d)); generalize X.set q (wrap64 (xq+d))=X1 at *; have I1:=Is.of_blk A1; rw [hXl] at I1; have hm:=rmul_any _ 5 5 X1 _ 5 5 X1 WA I1 I1 (by omega) (by omega); have HW:=Lib.hid hWA; simp only [Nat.reduceAdd] at hm; clear hWA B0 B1 hb HS hx1l; go_wp2_with fail
     rw [HW.out]; refine hm.mono ?_; rintro e w3 ⟨rfl,A2,hb3⟩; have I2:Is w3 (some ⟨WA.heap.size,0,none⟩) 10 (Sha.mul X1 X1):=by
      have:=Is.of_blk A2; rwa [Sha.mul_len,hXl] at this
     have hbw3:Below w.heap.size w w3:=hbA.trans (hb3.mono hbA.size); have D0:=A0.below hb3; have D1:=A1.below hb3; have HX:=Lib.hid hXl; have HX5:=Lib.hid hl5; clear hm A0 A1 A2 hb3 hXl hl5 hbA k0 kf kl HW; have hp:Sha.power 3 X1=Sha.mul (Sha.mul X1 X1) X1:=rfl; rw [hp] at HS2; have I3:Is w3 (some ⟨w.heap.size+1,0,none⟩) 5 X1:=by
      have:=Is.of_blk D1; rwa [HX.out] at this
     have hm2:=rmul_any _ 10 10 _ _ 5 5 X1 w3 I2 I3 (by omega) (by omega); simp only [Nat.reduceAdd] at hm2; clear hp I1 I2 I3; go_wp2_with fail
     refine hm2.mono ?_; rintro e w4 ⟨rfl,A4,hb4⟩; have I4:Is w4 (some ⟨w3.heap.size,0,none⟩) 15 (Sha.mul (Sha.mul X1 X1) X1):=by
      have:=Is.of_blk A4; rwa [Sha.mul_len,Sha.mul_len,HX.out] at this
     have E0:=D0.below hb4; have E1:=D1.below hb4; have hbw4:Below w.heap.size w w4:=hbw3.trans (hb4.mono hbw3.size); clear hm2 D0 D1 A4 hb4; generalize Sha.mul (Sha.mul X1 X1) X1=PW at *; have hle:=rless_any (some ⟨w.heap.size,0,none⟩) 13 13 (Sha.target p 3) _ 15 15 PW w4 (by have:=Is.of_blk E0; rwa [show (Sha.target p 3).length=13 by simp [Sha.target]] at this) I4 (by omega) (by omega)
     have kq:w4.cell? ⟨w.heap.size+1,q,none⟩=some (.int .i64 (X1.getD q 0)):=(E1.cell q).trans (iv_at X1 (by rw [HX.out]; omega))
     have kf:w4.frozen? ⟨w.heap.size+1,q,none⟩=false:=E1.froz q; have kl:w.heap.size+1<w4.heap.size:=E1.lt; generalize X1.getD q 0=xq1 at *; have hbt1:((b:Int) - 1)=68 - ((t+1:Nat):Int):=by
      have h:=HB.out; clear q16 r16; omega
     have hms:(intOf (Value.int IntKind.i64 ((b:Int) - 1))+1).toNat<(intOf (Value.int IntKind.i64 (b:Int))+1).toNat:=by
      show ((b:Int) - 1+1).toNat<((b:Int)+1).toNat
      clear q16 r16 hbt1; omega
     have HT:=Lib.hid hbt1; clear hbt1
     cases hmo:Sha.less (Sha.target p 3) PW
     ·rw [hmo] at hle HS2
      simp only [Bool.false_eq_true,if_false] at HS2; clear hmo; go_wp2_with fail
      refine hle.mono ?_; rintro e w5 ⟨rfl,rfl⟩; clear hle; go_wp2_with fail
      go_roundw
      case rel=>exact⟨t+1,by omega,by rw [HT.out],hbw4,E0,by rw [HS2.out]; exact E1⟩
      case measure=>exact hms
     ·rw [hmo] at hle HS2
      simp only [if_true] at HS2; clear hmo; have F1:=E1.set q (.int .i64 (wrap64 (xq1 - d))); rw [iv_set] at F1; have F0:=E0.set_ne (p:=⟨w.heap.size+1,q,none⟩) (by simp) (.int .i64 (wrap64 (xq1 - d))); have hbF:=hbw4.setCell (p:=⟨w.heap.size+1,q,none⟩) (by simp) (.int .i64 (wrap64 (xq1 - d))); go_wp2_with fail
      refine hle.mono ?_; rintro e w5 ⟨rfl,rfl⟩; clear hle E0 E1; go_wp2_with fail
      go_roundw
      case rel=>exact⟨t+1,by omega,by rw [HT.out],hbF,F0,by rw [HS2.out]; exact F1⟩
      case measure=>exact hms
theorem rroot2_any(p:Int) (w:World) :
  Calls Tryz.prog 126 #[.int .i64 p,.int .i64 2] w fun e w'=>e=.returned (.int .u64 ((Sha.root p 2:Nat):Int))∧Below w.heap.size w w':=by
 rw [Sha.root_cast]
 obtain⟨rv,hrv⟩:∃ rv,Sha.rootSum (Sha.rootX p 2 69)=rv:=⟨_,rfl⟩
 rw [hrv]
 have HRV:=Lib.hid hrv
 clear hrv
 have hmk:(Instr.makeSlice 111 (.int .i64 9) (.int .i64 9)).run Tryz.prog w=.ok (.slice (some ⟨w.heap.size,0,none⟩) 9 9) (w.alloc (.cells (iv (List.replicate 9 0)).toArray 3)):=makeI w 9 (by omega)
 have b0:=Blk.new w (iv (List.replicate 9 0)) 3
 have c0:(w.alloc (.cells (iv (List.replicate 9 0)).toArray 3)).cell? ⟨w.heap.size,8,none⟩=some (.int .i64 0):=(b0.cell 8).trans rfl
 have f0:(w.alloc (.cells (iv (List.replicate 9 0)).toArray 3)).frozen? ⟨w.heap.size,8,none⟩=false:=b0.froz 8
 have e1:((iv (List.replicate 9 0)).toArray.setIfInBounds 8 (.int .i64 p))=(iv (Sha.target p 2)).toArray:=by
  rw [List.setIfInBounds_toArray,iv_set]; rfl
 have b1:=Blk.new w (iv (Sha.target p 2)) 3
 have hz1:(w.alloc (.cells (iv (Sha.target p 2)).toArray 3)).heap.size=w.heap.size+1:=by simp
 have hmk2:(Instr.makeSlice 111 (.int .i64 5) (.int .i64 5)).run Tryz.prog (w.alloc (.cells (iv (Sha.target p 2)).toArray 3))=_:=makeI _ 5 (by omega)
 rw [hz1] at hmk2
 obtain⟨W2,hW2⟩:∃ W2,(w.alloc (.cells (iv (Sha.target p 2)).toArray 3)).alloc (.cells (iv (List.replicate 5 0)).toArray 3)=W2:=⟨_,rfl⟩
 have B0:Blk W2 w.heap.size (iv (Sha.target p 2)) 3:=by rw [← hW2]; exact b1.alloc _
 have B1:Blk W2 (w.heap.size+1) (iv (Sha.rootX p 2 0)) 3:=by
  have:=Blk.new (w.alloc (.cells (iv (Sha.target p 2)).toArray 3)) (iv (List.replicate 5 0)) 3; rw [hz1,hW2] at this; exact this
 have hbW:Below w.heap.size w W2:=by rw [← hW2]; exact((Below.refl _ _).alloc (Nat.le_refl _) _).alloc (by rw [hz1]; omega) _
 rw [hW2,← e1] at hmk2
 clear hW2 hz1 b1 b0 e1
 generalize (iv (List.replicate 9 0)).toArray=Z at *
 go_enter Tryz.func126,Tryz.ntmps126
 go_wp2
 go_loopw [7] (fun bit wr=>∃ t:Nat,t≤69∧bit=.int .i64 (68 - (t:Int))∧Below w.heap.size w wr∧Blk wr w.heap.size (iv (Sha.target p 2)) 3∧Blk wr (w.heap.size+1) (iv (Sha.rootX p 2 t)) 3) (fun bit _=>(intOf bit+1).toNat)
 case atStart=>exact⟨0,by omega,by go_num,hbW,B0,B1⟩
 case round =>
  clear hmk hmk2 c0 f0 hbW B0 B1; obtain⟨t,ht,rfl,hb,B0,B1⟩:=hrel; by_cases h69:t=69
  ·subst h69
   have hl5:=Sha.rootX_len p 2 69; have HRS:=HRV.out; unfold Sha.rootSum at HRS; generalize Sha.rootX p 2 69=X at *; have k0:wr.cell? ⟨w.heap.size+1,0,none⟩=some (.int .i64 (X.getD 0 0)):=(B1.cell 0).trans (iv_at X (by omega)); have k1:wr.cell? ⟨w.heap.size+1,1,none⟩=some (.int .i64 (X.getD 1 0)):=(B1.cell 1).trans (iv_at X (by omega)); have k2:wr.cell? ⟨w.heap.size+1,2,none⟩=some (.int .i64 (X.getD 2 0)):=(B1.cell 2).trans (iv_at X (by omega)); have k3:wr.cell? ⟨w.heap.size+1,3,none⟩=some (.int .i64 (X.getD 3 0)):=(B1.cell 3).trans (iv_at X (by omega)); generalize X.getD 0 0=x0 at *; generalize X.getD 1 0=x1 at *; generalize X.getD 2 0=x2 at *; generalize X.getD 3 0=x3 at *; have HR2:=Lib.hid HRS; clear B0 B1 HRS; go_wp2; go_region
   all_goals
    go_wp2; go_ret; exact⟨ret_val (by rw [HR2.out]; rfl),hb.drew⟩
  ·obtain⟨b,hbt⟩:∃ b:Nat,b=68 - t:=⟨_,rfl⟩
   have e1:(68 - (t:Int))=(b:Int):=by omega
   have hb68:b≤68:=by omega
   have hstep:=Sha.rootX_len p 2 t; have HS:=Lib.hid (show Sha.rootX p 2 (t+1)=Sha.rootStep p 2 b (Sha.rootX p 2 t) by rw [hbt]; rfl)
   obtain⟨r,hr⟩:∃ r,Hid (b % 16=r):=⟨_,Lib.hid rfl⟩; obtain⟨q,hq⟩:∃ q,Hid (b / 16=q):=⟨_,Lib.hid rfl⟩; have hr15:r≤15:=by rw [← hr.out]; omega
   have hq4:q≤4:=by rw [← hq.out]; omega
   have r16:Int.tmod (b:Int) 16=(r:Int):=by
    rw [Int.tmod_eq_emod_of_nonneg (by omega),← hr.out]; omega
   have q16:Int.tdiv (b:Int) 16=(q:Int):=by
    rw [Int.tdiv_eq_ediv_of_nonneg (by omega),← hq.out]; omega
   have ht1:t<69:=by omega
   rw [e1]; have HB:=Lib.hid e1; have H5:=Lib.hid hstep; clear e1 hbt hstep h69 ht; go_wp2; go_loop [8,9] (fun d i=>∃ j:Nat,j≤r∧i=.int .i64 j∧d=.int .i64 (Sha.dbl j)) (fun _ i=>r - (intOf i).toNat)
   case atStart=>exact⟨0,by omega,rfl,rfl⟩
   case round =>
    obtain⟨j,hj,rfl,rfl⟩:=hrel; by_cases hj2:j<r
    ·have HD:=Lib.hid (show Sha.dbl (j+1)=wrap64 (2 * Sha.dbl j) from rfl)
     generalize Sha.dbl j=dj at *; go_wp2; go_round
     case rel=>exact⟨j+1,by omega,by go_num,by rw [HD.out]⟩
     case measure=>simp [intOf]; omega
    ·have hjb:j=r:=by omega
     subst hjb; clear hj hj2; have hl5:=H5.out; have hx1l:∀ v,((Sha.rootX p 2 t).set q v).length=5:=fun v=>by rw [List.length_set]; exact hl5
     have HS2:=HS; unfold Sha.rootStep at HS2; rw [hr.out,hq.out] at HS2; generalize Sha.rootX p 2 t=X at *; have k0:wr.cell? ⟨w.heap.size+1,q,none⟩=some (.int .i64 (X.getD q 0)):=(B1.cell q).trans (iv_at X (by omega)); have kf:wr.frozen? ⟨w.heap.size+1,q,none⟩=false:=B1.froz q; have kl:w.heap.size+1<wr.heap.size:=B1.lt; generalize X.getD q 0=xq at *; generalize Sha.dbl j=d at *; obtain⟨WA,hWA⟩:∃ WA,wr.setCell ⟨w.heap.size+1,q,none⟩ (.int .i64 (wrap64 (xq+d)))=WA:=⟨_,rfl⟩; have A1:=B1.set q (.int .i64 (wrap64 (xq+d))); rw [hWA,iv_set] at A1; have A0:Blk WA w.heap.size (iv (Sha.target p 2)) 3:=by rw [← hWA]; exact B0.set_ne (by simp) _
     have hbA:Below w.heap.size w WA:=by rw [← hWA]; exact hb.setCell (by simp) _
     have hXl:=hx1l (wrap64 (xq+d)); generalize X.set q (wrap64 (xq+d))=X1 at *; have I1:=Is.of_blk A1; rw [hXl] at I1; have hm:=rmul_any _ 5 5 X1 _ 5 5 X1 WA I1 I1 (by omega) (by omega); have HW:=Lib.hid hWA; simp only [Nat.reduceAdd] at hm; clear hWA B0 B1 hb HS hx1l; go_wp2_with fail
     rw [HW.out]; refine hm.mono ?_; rintro e w3 ⟨rfl,A2,hb3⟩; have I2:Is w3 (some ⟨WA.heap.size,0,none⟩) 10 (Sha.mul X1 X1):=by
      have:=Is.of_blk A2; rwa [Sha.mul_len,hXl] at this
     have hbw3:Below w.heap.size w w3:=hbA.trans (hb3.mono hbA.size); have D0:=A0.below hb3; have D1:=A1.below hb3; have HX:=Lib.hid hXl; have HX5:=Lib.hid hl5; clear hm A0 A1 A2 hb3 hXl hl5 hbA k0 kf kl HW; have hp:Sha.power 2 X1=Sha.mul X1 X1:=rfl; rw [hp] at HS2; clear hp I1; generalize Sha.mul X1 X1=PW at *; have E0:=D0; have E1:=D1; have hbw4:=hbw3; have hle:=rless_any (some ⟨w.heap.size,0,none⟩) 9 9 (Sha.target p 2) _ 10 10 PW w3 (by have:=Is.of_blk E0; rwa [show (Sha.target p 2).length=9 by simp [Sha.target]] at this) I2 (by omega) (by omega)
     clear I2 D0 D1 hbw3; have kq:w3.cell? ⟨w.heap.size+1,q,none⟩=some (.int .i64 (X1.getD q 0)):=(E1.cell q).trans (iv_at X1 (by rw [HX.out]; omega))
     have kf:w3.frozen? ⟨w.heap.size+1,q,none⟩=false:=E1.froz q; have kl:w.heap.size+1<w3.heap.size:=E1.lt; generalize X1.getD q 0=xq1 at *; have hbt1:((b:Int) - 1)=68 - ((t+1:Nat):Int):=by
      have h:=HB.out; clear q16 r16; omega
     have hms:(intOf (Value.int IntKind.i64 ((b:Int) - 1))+1).toNat<(intOf (Value.int IntKind.i64 (b:Int))+1).toNat:=by
      show ((b:Int) - 1+1).toNat<((b:Int)+1).toNat
      clear q16 r16 hbt1; omega
     have HT:=Lib.hid hbt1; clear hbt1
     cases hmo:Sha.less (Sha.target p 2) PW
     ·rw [hmo] at hle HS2
      simp only [Bool.false_eq_true,if_false] at HS2; clear hmo; go_wp2_with fail
      refine hle.mono ?_; rintro e w5 ⟨rfl,rfl⟩; clear hle; go_wp2_with fail
      go_roundw
      case rel=>exact⟨t+1,by omega,by rw [HT.out],hbw4,E0,by rw [HS2.out]; exact E1⟩
      case measure=>exact hms
     ·rw [hmo] at hle HS2
      simp only [if_true] at HS2; clear hmo; have F1:=E1.set q (.int .i64 (wrap64 (xq1 - d))); rw [iv_set] at F1; have F0:=E0.set_ne (p:=⟨w.heap.size+1,q,none⟩) (by simp) (.int .i64 (wrap64 (xq1 - d))); have hbF:=hbw4.setCell (p:=⟨w.heap.size+1,q,none⟩) (by simp) (.int .i64 (wrap64 (xq1 - d))); go_wp2_with fail
      refine hle.mono ?_; rintro e w5 ⟨rfl,rfl⟩; clear hle E0 E1; go_wp2_with fail
      go_roundw
      case rel=>exact⟨t+1,by omega,by rw [HT.out],hbF,F0,by rw [HS2.out]; exact F1⟩
      case measure=>exact hms
end
section
open Go.RowKit Mem
def ints (l:List Nat):List Int:=l.map fun x:Nat=>(x:Int)
theorem ints_length(l:List Nat):(ints l).length=l.length:=by simp [ints]
theorem ints_at(l:List Nat) (j:Nat):(ints l).getD j 0=((l.getD j 0:Nat):Int):=by
 rcases Nat.lt_or_ge j l.length with h|h
 ·simp [ints,List.getD_eq_getElem?_getD,h]
 ·simp [ints,List.getD_eq_getElem?_getD,h]
theorem pr_at{t j:Nat} (h:j<(Sha.pr t).length):2≤(Sha.pr t).getD j 0∧(Sha.pr t).getD j 0<t+2:=by
 have:(Sha.pr t).getD j 0=(Sha.pr t)[j]:=by simp [List.getD_eq_getElem?_getD,h]
 rw [this]
 exact Sha.pr_range t _ (List.getElem_mem h)
theorem all_take_succ{p:Nat→Bool} {l:List Nat} {j:Nat} (h:j<l.length):(l.take (j+1)).all p=((l.take j).all p&&p (l.getD j 0)):=by
 rw [List.take_succ_eq_append_getElem h,List.all_append]
 simp [List.getD_eq_getElem?_getD,h]
theorem rprimes_any(w:World) :
  Calls Tryz.prog 124 #[.int .i64 80] w fun e w'=>∃ A c,e=.returned (.slice A 80 c)∧Is w' A 80 (ints (Sha.pr 408))∧Below w.heap.size w w':=by
 obtain⟨i0,hi,hz0,hz1,hz2⟩:=info_parts infoI
 go_enter Tryz.func124,Tryz.ntmps124
 go_wp2
 go_loopw [3,4,5,6] (fun v k _ _ wr=>∃ (t:Nat) (A:Option Addr) (n c:Nat),t≤408∧n≤80∧k=.int .i64 ((t:Int)+2)∧v=.slice A n c∧Hid ((Sha.pr t).length=n)∧Below w.heap.size w wr∧wr.ownsRow w.heap.size 3 1 (.slice A n c) n (iv (ints (Sha.pr t)))) (fun _ k _ _ _=>(500 - intOf k).toNat)
 case atStart=>exact⟨0,none,0,0,by omega,by omega,rfl,rfl,Lib.hid rfl,Below.refl _ _,World.ownsRow_nil _ _ _ _⟩
 case round =>
  obtain⟨t,A,n,c,ht,hn80,rfl,rfl,HN,hb,hown⟩:=hrel; by_cases h408:t=408
  ·subst h408
   have hn:n=80:=by rw [← HN.out,Sha.pr_408]
   subst hn; go_wp2; go_ret; exact⟨A,c,rfl,Is.of_own hown,hb⟩
  ·have hn:n<80:=by rw [← HN.out]; exact Sha.pr_short (by omega)
   have hat:∀ j,j<n→2≤(Sha.pr t).getD j 0∧(Sha.pr t).getD j 0<t+2:=fun j hj=>pr_at (by rw [HN.out]; exact hj)
   have HP:=Lib.hid (show Sha.pr (t+1)=if (Sha.pr t).all (fun p=>(t+2) % p != 0) then Sha.pr t++[t+2] else Sha.pr t from rfl); have hl:Hid (∀ j,j<n→j<(Sha.pr t).length):=Lib.hid fun j hj=>by rw [HN.out]; exact hj
   have hI:=Is.of_own hown; have ht2:t<408:=by omega
   generalize Sha.pr t=L at *; clear h408; go_wp2; go_loop [5,6] (fun is i=>∃ j:Nat,j≤n∧i=.int .i64 j∧is=.bool ((L.take j).all fun p=>(t+2) % p != 0)) (fun _ i=>n - (intOf i).toNat)
   case atStart=>exact⟨0,by omega,rfl,rfl⟩
   case round =>
    obtain⟨j,hj,rfl,rfl⟩:=hrel; by_cases hlt:j<n
    ·obtain⟨blk,off,rfl,_,hx⟩:=vs_lit hI (by omega)
     have cj:=hx j _ (iv_at _ (by rw [ints_length]; exact hl.out j hlt))
     rw [ints_at] at cj; obtain⟨g1,g2⟩:=hat j hlt; have HA:Hid ((L.take (j+1)).all (fun p=>(t+2) % p != 0)=((L.take j).all (fun p=>(t+2) % p != 0)&&((t+2) % (L.getD j 0) != 0))):=Lib.hid (all_take_succ (hl.out j hlt)); generalize L.getD j 0=p at *; generalize (L.take j).all (fun p=>(t+2) % p != 0)=a at *; have hm:Int.tmod ((t:Int)+2) (p:Int)=(((t+2) % p:Nat):Int):=by
      have:=Int.ofNat_tmod (t+2) p; exact this.symm
     have hp0:¬ (p:Int)=0:=by omega
     obtain⟨u,hu⟩:∃ u,(t+2) % p=u:=⟨_,rfl⟩; rw [hu] at hm HA; clear hx hu; by_cases hu0:u=0
     ·subst hu0
      have hm:Int.tmod ((t:Int)+2) (p:Int)=0:=hm; go_wp2; go_round
      case rel=>exact⟨j+1,by omega,by go_num,by rw [HA.out]; cases a <;> rfl⟩
      case measure=>simp [intOf]; omega
     ·have hub:(u != 0)=true:=by simp [hu0]
      rw [hub] at HA; go_wp2; go_round
      case rel=>exact⟨j+1,by omega,by go_num,by rw [HA.out]; cases a <;> rfl⟩
      case measure=>simp [intOf]; omega
    ·obtain rfl:j=n:=by omega
     have hla:(L.take j).all (fun p=>(t+2) % p != 0)=L.all (fun p=>(t+2) % p != 0):=by
      rw [List.take_of_length_le (by rw [HN.out]; exact Nat.le_refl _)]
     rw [hla]
     cases hq:L.all (fun p=>(t+2) % p != 0)
     ·rw [hq] at HP
      have HP2:Hid (Sha.pr (t+1)=L):=Lib.hid HP.out; clear hat hI hl HP hq hla; go_wp2; go_roundw
      case rel=>exact⟨t+1,A,j,c,by omega,by omega,by go_num,rfl,by rw [HP2.out]; exact HN,hb,by rw [HP2.out]; exact hown⟩
      case measure=>simp [intOf]; omega
     ·rw [hq] at HP
      have HP2:Hid (Sha.pr (t+1)=L++[t+2]):=Lib.hid HP.out; clear hat hI hl HP hq hla; have h63:j+1≤maxLen:=by unfold maxLen; omega
      have hB1:=hb.size; go_wp2_with (at_builtin; go_must (refine wpList_push rfl (.tmp 27) (.tmp 29) 111 rfl w.heap.size i0 (.int .i64 0) 8 Tryz.underlying111 hi hz0 hz1 hz2 rfl _ _ _ rfl hown rfl rfl h63 (by omega) hB1 ?_))
      intro A' c' w2 hown' g1' g2' hgr; have hb2:=below_push hb hgr hB1 hown (Nat.le_refl _); have hrep:iv (ints (L++[t+2]))=iv (ints L)++[.int .i64 ((t:Int)+2)]:=by simp [ints,iv]
      rw [← hrep] at hown'; clear hown hgr hb hrep; go_wp2; go_roundw
      case rel=>exact⟨t+1,A',j+1,c',by omega,by omega,by go_num,rfl,by rw [HP2.out]; exact Lib.hid (by rw [List.length_append,HN.out]; rfl),hb2,by rw [HP2.out]; exact hown'⟩
      case measure=>simp [intOf]; omega
end
end Go.Proofs.YtmbpnkacggngkaaGreatDoor
