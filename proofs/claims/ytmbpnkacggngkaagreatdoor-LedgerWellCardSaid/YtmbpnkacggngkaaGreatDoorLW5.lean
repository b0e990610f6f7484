/- LedInsert, LedDelete, LedIdx (put together by bundle.py: only what is needed). -/
import Derived.Shelf.RegionOpenPlain
import Derived.Test.YtmbpnkacggngkaaGreatDoorLW4
set_option maxRecDepth 100000
set_option maxHeartbeats 16000000
namespace Go.Proofs.YtmbpnkacggngkaaGreatDoor
section
open Go.RowKit Mem Led
theorem blk_shape{w:World} {g:Nat} {M:List Value} {e:TypeId} (h:Blk w g M e):w.shape? g=some (e,M.length):=by
 unfold World.shape?
 rw [h]
 simp
theorem grown_new{w w':World} {r:Option Nat} {g:Nat} {M':Array Value} (h:w.grownBy w' r) (hg:w.heap.size≤g):w.grownBy (w'.setRow g M') r :=
 ⟨h.os,h.tape,h.output,by simp [World.setRow]; exact h.size,fun k hk hne=>by rw [setRow_other w' g k M' (by omega)]; exact h.block k hk hne⟩
def strRow (s:Txt):List Value:=[tx s]
theorem strRow_len(s:Txt):(strRow s).length=1:=rfl
def Inserted {α:Type} (enc:α→List Value) (k:Nat) (e:TypeId) (base:Nat) (v:Value) (n:Nat) (L':List α) (w:World) (x:Ending) (w':World):Prop :=
 ∃ A c,x=.returned (.slice A (n+1) c)∧w'.ownsRow base e k (.slice A (n+1) c) (n+1) (rows enc L')∧w.grownBy w' v.ownBlock∧((Value.slice A (n+1) c).ownBlock=v.ownBlock∨∃ g,w.heap.size≤g∧(Value.slice A (n+1) c).ownBlock=some g)
theorem infoEnt:(Tryz.prog.info? 36).map (fun i=>(i.zero,i.size,i.bytes))=some (some (.agg #[.int .i64 0,.string ⟨#[]⟩,.string ⟨#[]⟩,.int .i64 0,.slice none 0 0]),5,72):=by kernel_rfl
theorem iszEnt:(Tryz.prog.info? 36).map (·.size)=some 5:=by kernel_rfl
theorem insEnt_any(L:List (Led.Entry × Value)) (x:Led.Entry × Value) (n i base:Nat) (v:Value) (gx:Nat) (w:World) (hL:L.length=n) (hown:w.ownsRow base 36 5 v n (rows entRow L)) (hx:Blk w gx (entRow x) 36) (hgx:v.ownBlock≠some gx) (hi:i≤n) (hn:n≤1000) (hbase:base≤w.heap.size)
  (h1:∀ y∈L,∀ u∈entRow y,u.oneCell'=true) (h1x:∀ u∈entRow x,u.oneCell'=true) :
  Calls Tryz.prog 133 #[v,.int .i64 i,.slice (some ⟨gx,0,none⟩) 1 1] w (Inserted entRow 5 36 base v n (L.take i++x::L.drop i) w):=by
 obtain⟨iT,hiT,hzT,hsT,hbT⟩:=info_parts infoEnt
 have hvx:Vs w w.heap.size 5 (some ⟨gx,0,none⟩) 1 (entRow x):=⟨by rw [entRow_len],fun j u hj=>⟨_,rfl,hx.lt,by rw [zero_add_,hx.cell j]; exact hj⟩⟩
 by_cases hin:i=n
 ·subst hin
  have HR:Hid (rows entRow L++entRow x=rows entRow (L.take i++x::L.drop i)):=Lib.hid (by
   rw [List.take_of_length_le (by omega),List.drop_of_length_le (by omega),rows_append]; simp [rows])
  obtain⟨v',w',hrun,hown',hg,hb⟩:=run_append (P:=Tryz.prog) w base 23 23 36 iT _ 5 72 Tryz.underlying23 hiT hzT hsT hbT rfl (by omega) v i _ hown w.heap.size (some ⟨gx,0,none⟩) 1 1 (entRow x) hvx h1x (by unfold maxLen; omega) (by omega) hbase
  obtain⟨A,c,rfl,_,_⟩:=own_form hown'; rw [HR.out] at hown'; have HRES:Hid (Inserted entRow 5 36 base v i (L.take i++x::L.drop i) w (.returned (.slice A (i+1) c)) w'):=Lib.hid ⟨A,c,rfl,hown',hg,hb.imp id (fun h=>⟨_,Nat.le_refl _,h⟩)⟩; obtain⟨A0,c0,hv0,hc0,hm0⟩:=own_form hown; subst hv0; clear hown hown' hg hb HR hvx hx hgx h1 h1x; by_cases hci:c0=i
  all_goals
   go_enter Tryz.func133,Tryz.ntmps133
   go_wp2_with (at_builtin; refine Lib.wpList_append_run _ rfl _ _ _ _ rfl _ _ rfl rfl _ _ hrun ?_)
   go_ret; exact HRES.out
 ·have hlt:i<n:=by omega
  rcases own_cases hown with⟨_,h0,_⟩|⟨g,c,M,rfl,hbg,hgw,hB,hnc,hcm,hM,hMt⟩
  ·omega
  have hcm':c≤9223372036854775807:=hcm; obtain⟨A,hA⟩:∃ A,rows entRow (L.take i)=A:=⟨_,rfl⟩; obtain⟨D,hD⟩:∃ D,rows entRow (L.drop i)=D:=⟨_,rfl⟩; obtain⟨R,hR⟩:∃ R,M.drop (n * 5)=R:=⟨_,rfl⟩; obtain⟨X,hX⟩:∃ X,entRow x=X:=⟨_,rfl⟩; have hAl:A.length=i * 5:=by rw [← hA,rows_length entRow_len,List.length_take,Nat.min_eq_left (by omega)]
  have hDl:D.length=(n - i) * 5:=by rw [← hD,rows_length entRow_len,List.length_drop,hL]
  have hXl:X.length=5:=by rw [← hX]; rfl
  have hRl:R.length=c * 5 - n * 5:=by rw [← hR,List.length_drop,hM]
  have hMd:M=A++D++R:=by
   rw [← hA,← hD,← rows_append,List.take_append_drop,← hMt,← hR,List.take_append_drop]
  have hRES:rows entRow (L.take i++x::L.drop i)=A++X++D:=by
   rw [rows_append,rows_cons,hA,hD,hX,List.append_assoc]
  have hD1:∀ u∈D,u.oneCell'=true:=by
   intro u hu; rw [← hD] at hu; unfold rows at hu; obtain⟨r,hr,hur⟩:=List.mem_flatten.1 hu; obtain⟨y,hy,rfl⟩:=List.mem_map.1 hr; exact h1 y (List.mem_of_mem_drop hy) u hur
  rw [hX] at hx h1x; have hne:gx≠g:=fun e=>hgx (by simp [Value.ownBlock,e]); have hsrcD:∀ W,Blk W g M 36→∀ j u,D[j]?=some u→W.cell? ((⟨g,i * 5,none⟩:Addr).add j)=some u:=fun W hW j u hj=>by
   rw [Addr.add_lit,hW.cell,hMd,List.append_assoc,List.getElem?_append_right (by omega),show i * 5+j - A.length=j by omega,List.getElem?_append_left (List.getElem?_eq_some_iff.1 hj).1]; exact hj
  have hsrcX:∀ W,Blk W gx X 36→∀ j u,X[j]?=some u→W.cell? ((⟨gx,0,none⟩:Addr).add j)=some u:=fun W hW j u hj=>by
   rw [Addr.add_lit,Nat.zero_add,hW.cell]; exact hj
  have hz1:¬ ((i:Int)=(n:Int)):=by omega
  have hin':i≤n:=hi; have hci:¬ c=i:=by omega
  by_cases hroom:n+1≤c
  ·have hRk:5≤R.length:=by omega
   obtain⟨M1,hM1⟩:∃ M1,splice M ((i+1) * 5) D=M1:=⟨_,rfl⟩; obtain⟨M2,hM2⟩:∃ M2,splice M1 (i * 5) X=M2:=⟨_,rfl⟩; have hMf:M2=A++X++D++R.drop 5:=by
    have:=splice_insert (A:=A) (D:=D) (R:=R) hXl hRk; rw [← hMd,show A.length+5=(i+1) * 5 by omega,show A.length=i * 5 by omega,hM1,hM2] at this; exact this
   have hM1l:M1.length=M.length:=by rw [← hM1]; exact length_splice _ _ _ (by omega)
   have hM2l:M2.length=M.length:=by rw [← hM2,← hM1l]; exact length_splice _ _ _ (by omega)
   have hcp1:∀ W,Blk W g M 36→∀ ty dc sc,(Builtin.copy_ #[23,23] ty #[.slice (some ⟨g,(i+1) * 5,none⟩) (n - i) dc,.slice (some ⟨g,i * 5,none⟩) (n+1 - i) sc]).run Tryz.prog W=.ok (goInt ((n - i:Nat):Int)) (W.setRow g M1.toArray):=fun W hW ty dc sc=>by
    rw [← hM1]; refine run_copyK (m:=n - i) Tryz.underlying23 iszEnt hW ?_ hDl (hsrcD W hW) ?_ hD1
    ·simp only [Nat.min_def]
     split <;> omega
    ·omega
   have hcp2:∀ W,Blk W g M1 36→Blk W gx X 36→∀ ty dc,(Builtin.copy_ #[23,23] ty #[.slice (some ⟨g,i * 5,none⟩) (n+1 - i) dc,.slice (some ⟨gx,0,none⟩) 1 1]).run Tryz.prog W=.ok (goInt 1) (W.setRow g M2.toArray):=fun W hW hWx ty dc=>by
    rw [← hM2]; refine run_copyK (m:=1) Tryz.underlying23 iszEnt hW ?_ (by omega) (hsrcX W hWx) ?_ h1x
    ·simp only [Nat.min_def]
     split <;> omega
    ·omega
   have hov:∀ lb cb,(callFunc 168 #[.slice (some ⟨gx,0,none⟩) 1 1,.slice (some ⟨g,(i+1) * 5,none⟩) lb cb]).run Tryz.prog w=.ok (.value (.bool false)) w:=fun lb cb=>by
    rw [run_callFunc_extern Tryz.func168 (by kernel_rfl) (by kernel_rfl) (by kernel_rfl) (e:=Extern.SlicesOverlaps.overlaps #[23,23] #[4]) (by kernel_rfl),
     Lib.run_overlaps_apart w 23 4 36 Tryz.underlying23 5 Tryz.sizeOf36 ⟨gx,0,none⟩ ⟨g,(i+1) * 5,none⟩ 1 1 lb cb hne 36 36 X.length M.length (blk_shape hx) (blk_shape hB) (by omega) (hx.froz _) (hx.froz _)]
    rfl
   have hres:∀ W W',W=(w.drew.setRow g M1.toArray)→W'=(W.setRow g M2.toArray)→Inserted entRow 5 36 base (.slice (some ⟨g,0,none⟩) n c) n (L.take i++x::L.drop i) w (.returned (.slice (some ⟨g,0,none⟩) (n+1) c)) W':=fun W W' e1 e2=>by
    subst e1 e2; refine⟨_,c,rfl,own_of_row hbg ((hB.drew.setRow (M':=M1)).setRow) hroom hcm (by rw [hM2l,hM]) ?_,grown_setRow (grown_setRow (grown_drew (grown_refl _ _))),.inl rfl⟩; rw [hMf,hRES,List.take_append_of_le_length (by simp only [List.length_append]; omega),List.take_of_length_le (by simp only [List.length_append]; omega)]
   have HRES:=Lib.hid (hres _ _ rfl rfl); have b1:Blk w.drew g M 36:=hB.drew; have b2:Blk (w.drew.setRow g M1.toArray) g M1 36:=b1.setRow; have b3:Blk (w.drew.setRow g M1.toArray) gx X 36:=by
    unfold Blk; rw [setRow_other _ g gx _ hne]; exact hx
   have hc1:=fun ty dc sc=>hcp1 _ b1 ty dc sc; have hc2:=fun ty dc=>hcp2 _ b2 b3 ty dc; have hw1:(n:Int)+1≤(c:Int):=by omega
   have hq1:IntKind.i64.wrap ((i:Int)+1)=(i:Int)+1:=by rw [IntKind.wrap_i64]; omega
   have hq2:(0:Int)≤(i:Int)+1:=by omega
   have hq3:(i:Int)+1≤(n:Int)+1:=by omega
   have hq4:((i:Int)+1).toNat=i+1:=by omega
   have hq5:(i:Int)≤(n:Int)+1:=by omega
   have hw2:¬ c=i+1:=by omega
   have hw3:¬ c<n+1:=by omega
   clear hres hcp1 hcp2 hsrcD hsrcX hMd hRES hD1 b1 b2 b3 hMf hvx; go_enter Tryz.func133,Tryz.ntmps133
   go_wp2_with (simp only [hov])
   go_region_law (refine step_copyR rfl _ _ 23 23 rfl _ _ (by simp [Act.eval,Act.put]) (by simp [Act.eval,Act.put]) (hc1 _ _ _) ?_)
   go_wp2_with (at_builtin; refine wpList_copyR _ rfl _ _ 23 23 rfl _ _ rfl rfl (hc2 _ _) ?_)
   go_ret; exact HRES.out
  ·obtain⟨G,hG⟩:∃ G,grownCap w (n+1) c 36=G:=⟨_,rfl⟩
   have hGn:n+1≤G:=by rw [← hG]; exact grownCap_ge w _ _ _
   have hGm:G≤maxLen:=by rw [← hG]; exact grownCap_le_maxLen w _ _ _ (by unfold maxLen; omega)
   have hG63:G≤9223372036854775807:=hGm; have hold:(Builtin.firstCells iT.size i (.slice (some ⟨g,0,none⟩) i c)).run Tryz.prog w.drew=.ok A.toArray w.drew:=by
    rw [hsT]; exact run_firstCells_some w.drew 5 i ⟨g,0,none⟩ i c A hAl (fun j u hj=>by
     rw [Addr.add_lit,Nat.zero_add,hB.drew.cell,hMd,List.append_assoc,List.getElem?_append_left (List.getElem?_eq_some_iff.1 hj).1]; exact hj)
   obtain⟨Z1,hZ1⟩:∃ Z1,Builtin.zeroCells (Value.cells (.agg #[.int .i64 0,.string ⟨#[]⟩,.string ⟨#[]⟩,.int .i64 0,.slice none 0 0])) (n+1 - i)=Z1:=⟨_,rfl⟩; obtain⟨Z2,hZ2⟩:∃ Z2,Builtin.zeroCells (Value.cells (.agg #[.int .i64 0,.string ⟨#[]⟩,.string ⟨#[]⟩,.int .i64 0,.slice none 0 0])) (G - (n+1))=Z2:=⟨_,rfl⟩; obtain⟨Zs,hZs⟩:∃ Zs,(Z1++Z2).toList=Zs:=⟨_,rfl⟩; have hzc:(Value.cells (.agg #[.int .i64 0,.string ⟨#[]⟩,.string ⟨#[]⟩,.int .i64 0,.slice none 0 0])).size=5:=by rfl
   have hZl:Zs.length=(G - i) * 5:=by
    rw [← hZs,Array.length_toList,Array.size_append,← hZ1,← hZ2,size_zeroCells,size_zeroCells,hzc]; omega
   have hrz:∀ ty,(Builtin.append_ #[23,3] ty #[.slice (some ⟨g,0,none⟩) i c,.int .i64 ((n:Int)+1 - (i:Int))]).run Tryz.prog w=.ok (.slice (some ⟨w.heap.size,0,none⟩) (n+1) G) (w.drew.alloc (.cells (A++Zs).toArray 36)):=fun ty=>by
    have h:=Lib.run_append_grow_zeros w 23 3 ty 36 iT _ .i64 .i64 Tryz.underlying23 Tryz.underlying3 hiT hzT (some ⟨g,0,none⟩) i c A hold (n+1 - i) (by omega) (by omega) (by omega) (by omega) (by rw [hbT]; omega) (by rw [hbT,show i+(n+1 - i)=n+1 by omega]; exact growslice_fits (by omega) (by omega))
    rw [show i+(n+1 - i)=n+1 by omega,hG] at h; rw [hZ1,hZ2] at h; rw [show (n:Int)+1 - (i:Int)=((n+1 - i:Nat):Int) by omega,h,← hZs]; congr 4
    simp
   obtain⟨M1,hM1⟩:∃ M1,splice (A++Zs) (i * 5) X=M1:=⟨_,rfl⟩; obtain⟨M2,hM2⟩:∃ M2,splice M1 ((i+1) * 5) D=M2:=⟨_,rfl⟩; have hMf:M2=A++X++D++Zs.drop (5+D.length):=by
    have:=splice_fresh (A:=A) (D:=D) (Z:=Zs) hXl; rw [show A.length+5=(i+1) * 5 by omega,show A.length=i * 5 by omega,hM1,hM2] at this; exact this
   have hM1l:M1.length=G * 5:=by rw [← hM1,length_splice _ _ _ (by rw [List.length_append]; omega),List.length_append]; omega
   have hM2l:M2.length=G * 5:=by rw [← hM2,← hM1l]; exact length_splice _ _ _ (by omega)
   have hcp1:∀ W,Blk W w.heap.size (A++Zs) 36→Blk W gx X 36→∀ ty dc,(Builtin.copy_ #[23,23] ty #[.slice (some ⟨w.heap.size,i * 5,none⟩) (n+1 - i) dc,.slice (some ⟨gx,0,none⟩) 1 1]).run Tryz.prog W=.ok (goInt 1) (W.setRow w.heap.size M1.toArray):=fun W hW hWx ty dc=>by
    rw [← hM1]; refine run_copyK (m:=1) Tryz.underlying23 iszEnt hW ?_ (by omega) (hsrcX W hWx) ?_ h1x
    ·simp only [Nat.min_def]
     split <;> omega
    ·rw [List.length_append]
     omega
   have hcp2:∀ W,Blk W w.heap.size M1 36→Blk W g M 36→∀ ty dc sc,(Builtin.copy_ #[23,23] ty #[.slice (some ⟨w.heap.size,(i+1) * 5,none⟩) (n - i) dc,.slice (some ⟨g,i * 5,none⟩) (n - i) sc]).run Tryz.prog W=.ok (goInt ((n - i:Nat):Int)) (W.setRow w.heap.size M2.toArray):=fun W hW hWg ty dc sc=>by
    rw [← hM2]; refine run_copyK (m:=n - i) Tryz.underlying23 iszEnt hW ?_ hDl (hsrcD W hWg) ?_ hD1
    ·simp only [Nat.min_def]
     split <;> omega
    ·omega
   have b1:Blk (w.alloc (.cells (A++Zs).toArray 36)).drew w.heap.size (A++Zs) 36:=(Blk.new w (A++Zs) 36).drew; have b2:Blk (w.alloc (.cells (A++Zs).toArray 36)).drew gx X 36:=(hx.alloc _).drew; have b3:Blk (w.alloc (.cells (A++Zs).toArray 36)).drew g M 36:=(hB.alloc _).drew; have b4:Blk ((w.alloc (.cells (A++Zs).toArray 36)).drew.setRow w.heap.size M1.toArray).drew w.heap.size M1 36:=b1.setRow.drew; have b5:Blk ((w.alloc (.cells (A++Zs).toArray 36)).drew.setRow w.heap.size M1.toArray).drew g M 36:=by
    refine Blk.drew ?_; unfold Blk; rw [setRow_other _ w.heap.size g _ (by omega)]; exact b3
   have hres:∀ W',W'=((w.alloc (.cells (A++Zs).toArray 36)).drew.setRow w.heap.size M1.toArray).drew.setRow w.heap.size M2.toArray→Inserted entRow 5 36 base (.slice (some ⟨g,0,none⟩) n c) n (L.take i++x::L.drop i) w (.returned (.slice (some ⟨w.heap.size,0,none⟩) (n+1) G)) W':=fun W' e1=>by
    subst e1; refine⟨_,G,rfl,own_of_row hbase b4.setRow hGn hGm hM2l ?_,grown_new (grown_drew (grown_new (grown_drew (World.grownBy_alloc w _ _)) (Nat.le_refl _))) (Nat.le_refl _),.inr ⟨w.heap.size,Nat.le_refl _,rfl⟩⟩; rw [hMf,hRES,List.take_append_of_le_length (by simp only [List.length_append]; omega),List.take_of_length_le (by simp only [List.length_append]; omega)]
   have HRES:=Lib.hid (hres _ rfl); have hc1:=fun ty dc=>hcp1 _ b1 b2 ty dc; have hc2:=fun ty dc sc=>hcp2 _ b4 b5 ty dc sc; have hw1:(c:Int)<(n:Int)+1:=by omega
   have hq1:IntKind.i64.wrap ((i:Int)+1)=(i:Int)+1:=by rw [IntKind.wrap_i64]; omega
   have hq2:(0:Int)≤(i:Int)+1:=by omega
   have hq3:(i:Int)+1≤(n:Int)+1:=by omega
   have hq4:((i:Int)+1).toNat=i+1:=by omega
   have hq5:(i:Int)≤(n:Int)+1:=by omega
   have hq6:¬ G=i:=by omega
   have hq7:¬ G=i+1:=by omega
   have hq8:(i:Int)≤(n:Int):=by omega
   clear hres hcp1 hcp2 hsrcD hsrcX hMd hRES hD1 b1 b2 b3 b4 b5 hMf hvx hold hZs hM1l hM2l hZl; go_enter Tryz.func133,Tryz.ntmps133
   go_wp2_with (first|(at_builtin; refine Lib.wpList_append_run _ rfl _ _ _ _ rfl _ _ rfl rfl _ _ (hrz _) ?_)|(at_builtin; refine wpList_copyR _ rfl _ _ 23 23 rfl _ _ rfl rfl (hc1 _ _) ?_))
   go_region_law (refine step_copyR rfl _ _ 23 23 rfl _ _ (by simp [Act.eval,Act.put]) (by simp [Act.eval,Act.put]) (hc2 _ _ _) ?_)
   go_wp2; go_ret; exact HRES.out
theorem infoNod:(Tryz.prog.info? 40).map (fun i=>(i.zero,i.size,i.bytes))=some (some (.agg #[.string ⟨#[]⟩,.string ⟨#[]⟩,.int .i64 0,.int .i64 0,.string ⟨#[]⟩]),5,64):=by kernel_rfl
theorem iszNod:(Tryz.prog.info? 40).map (·.size)=some 5:=by kernel_rfl
theorem insNod_any(L:List (Led.Node)) (x:Led.Node) (n i base:Nat) (v:Value) (gx:Nat) (w:World) (hL:L.length=n) (hown:w.ownsRow base 40 5 v n (rows nodeRow L)) (hx:Blk w gx (nodeRow x) 40) (hgx:v.ownBlock≠some gx) (hi:i≤n) (hn:n≤1000) (hbase:base≤w.heap.size)
  (h1:∀ y∈L,∀ u∈nodeRow y,u.oneCell'=true) (h1x:∀ u∈nodeRow x,u.oneCell'=true) :
  Calls Tryz.prog 138 #[v,.int .i64 i,.slice (some ⟨gx,0,none⟩) 1 1] w (Inserted nodeRow 5 40 base v n (L.take i++x::L.drop i) w):=by
 obtain⟨iT,hiT,hzT,hsT,hbT⟩:=info_parts infoNod
 have hvx:Vs w w.heap.size 5 (some ⟨gx,0,none⟩) 1 (nodeRow x):=⟨by rw [nodeRow_len],fun j u hj=>⟨_,rfl,hx.lt,by rw [zero_add_,hx.cell j]; exact hj⟩⟩
 by_cases hin:i=n
 ·subst hin
  have HR:Hid (rows nodeRow L++nodeRow x=rows nodeRow (L.take i++x::L.drop i)):=Lib.hid (by
   rw [List.take_of_length_le (by omega),List.drop_of_length_le (by omega),rows_append]; simp [rows])
  obtain⟨v',w',hrun,hown',hg,hb⟩:=run_append (P:=Tryz.prog) w base 24 24 40 iT _ 5 64 Tryz.underlying24 hiT hzT hsT hbT rfl (by omega) v i _ hown w.heap.size (some ⟨gx,0,none⟩) 1 1 (nodeRow x) hvx h1x (by unfold maxLen; omega) (by omega) hbase
  obtain⟨A,c,rfl,_,_⟩:=own_form hown'; rw [HR.out] at hown'; have HRES:Hid (Inserted nodeRow 5 40 base v i (L.take i++x::L.drop i) w (.returned (.slice A (i+1) c)) w'):=Lib.hid ⟨A,c,rfl,hown',hg,hb.imp id (fun h=>⟨_,Nat.le_refl _,h⟩)⟩; obtain⟨A0,c0,hv0,hc0,hm0⟩:=own_form hown; subst hv0; clear hown hown' hg hb HR hvx hx hgx h1 h1x; by_cases hci:c0=i
  all_goals
   go_enter Tryz.func138,Tryz.ntmps138
   go_wp2_with (at_builtin; refine Lib.wpList_append_run _ rfl _ _ _ _ rfl _ _ rfl rfl _ _ hrun ?_)
   go_ret; exact HRES.out
 ·have hlt:i<n:=by omega
  rcases own_cases hown with⟨_,h0,_⟩|⟨g,c,M,rfl,hbg,hgw,hB,hnc,hcm,hM,hMt⟩
  ·omega
  have hcm':c≤9223372036854775807:=hcm; obtain⟨A,hA⟩:∃ A,rows nodeRow (L.take i)=A:=⟨_,rfl⟩; obtain⟨D,hD⟩:∃ D,rows nodeRow (L.drop i)=D:=⟨_,rfl⟩; obtain⟨R,hR⟩:∃ R,M.drop (n * 5)=R:=⟨_,rfl⟩; obtain⟨X,hX⟩:∃ X,nodeRow x=X:=⟨_,rfl⟩; have hAl:A.length=i * 5:=by rw [← hA,rows_length nodeRow_len,List.length_take,Nat.min_eq_left (by omega)]
  have hDl:D.length=(n - i) * 5:=by rw [← hD,rows_length nodeRow_len,List.length_drop,hL]
  have hXl:X.length=5:=by rw [← hX]; rfl
  have hRl:R.length=c * 5 - n * 5:=by rw [← hR,List.length_drop,hM]
  have hMd:M=A++D++R:=by
   rw [← hA,← hD,← rows_append,List.take_append_drop,← hMt,← hR,List.take_append_drop]
  have hRES:rows nodeRow (L.take i++x::L.drop i)=A++X++D:=by
   rw [rows_append,rows_cons,hA,hD,hX,List.append_assoc]
  have hD1:∀ u∈D,u.oneCell'=true:=by
   intro u hu; rw [← hD] at hu; unfold rows at hu; obtain⟨r,hr,hur⟩:=List.mem_flatten.1 hu; obtain⟨y,hy,rfl⟩:=List.mem_map.1 hr; exact h1 y (List.mem_of_mem_drop hy) u hur
  rw [hX] at hx h1x; have hne:gx≠g:=fun e=>hgx (by simp [Value.ownBlock,e]); have hsrcD:∀ W,Blk W g M 40→∀ j u,D[j]?=some u→W.cell? ((⟨g,i * 5,none⟩:Addr).add j)=some u:=fun W hW j u hj=>by
   rw [Addr.add_lit,hW.cell,hMd,List.append_assoc,List.getElem?_append_right (by omega),show i * 5+j - A.length=j by omega,List.getElem?_append_left (List.getElem?_eq_some_iff.1 hj).1]; exact hj
  have hsrcX:∀ W,Blk W gx X 40→∀ j u,X[j]?=some u→W.cell? ((⟨gx,0,none⟩:Addr).add j)=some u:=fun W hW j u hj=>by
   rw [Addr.add_lit,Nat.zero_add,hW.cell]; exact hj
  have hz1:¬ ((i:Int)=(n:Int)):=by omega
  have hin':i≤n:=hi; have hci:¬ c=i:=by omega
  by_cases hroom:n+1≤c
  ·have hRk:5≤R.length:=by omega
   obtain⟨M1,hM1⟩:∃ M1,splice M ((i+1) * 5) D=M1:=⟨_,rfl⟩; obtain⟨M2,hM2⟩:∃ M2,splice M1 (i * 5) X=M2:=⟨_,rfl⟩; have hMf:M2=A++X++D++R.drop 5:=by
    have:=splice_insert (A:=A) (D:=D) (R:=R) hXl hRk; rw [← hMd,show A.length+5=(i+1) * 5 by omega,show A.length=i * 5 by omega,hM1,hM2] at this; exact this
   have hM1l:M1.length=M.length:=by rw [← hM1]; exact length_splice _ _ _ (by omega)
   have hM2l:M2.length=M.length:=by rw [← hM2,← hM1l]; exact length_splice _ _ _ (by omega)
   have hcp1:∀ W,Blk W g M 40→∀ ty dc sc,(Builtin.copy_ #[24,24] ty #[.slice (some ⟨g,(i+1) * 5,none⟩) (n - i) dc,.slice (some ⟨g,i * 5,none⟩) (n+1 - i) sc]).run Tryz.prog W=.ok (goInt ((n - i:Nat):Int)) (W.setRow g M1.toArray):=fun W hW ty dc sc=>by
    rw [← hM1]; refine run_copyK (m:=n - i) Tryz.underlying24 iszNod hW ?_ hDl (hsrcD W hW) ?_ hD1
    ·simp only [Nat.min_def]
     split <;> omega
    ·omega
   have hcp2:∀ W,Blk W g M1 40→Blk W gx X 40→∀ ty dc,(Builtin.copy_ #[24,24] ty #[.slice (some ⟨g,i * 5,none⟩) (n+1 - i) dc,.slice (some ⟨gx,0,none⟩) 1 1]).run Tryz.prog W=.ok (goInt 1) (W.setRow g M2.toArray):=fun W hW hWx ty dc=>by
    rw [← hM2]; refine run_copyK (m:=1) Tryz.underlying24 iszNod hW ?_ (by omega) (hsrcX W hWx) ?_ h1x
    ·simp only [Nat.min_def]
     split <;> omega
    ·omega
   have hov:∀ lb cb,(callFunc 170 #[.slice (some ⟨gx,0,none⟩) 1 1,.slice (some ⟨g,(i+1) * 5,none⟩) lb cb]).run Tryz.prog w=.ok (.value (.bool false)) w:=fun lb cb=>by
    rw [run_callFunc_extern Tryz.func170 (by kernel_rfl) (by kernel_rfl) (by kernel_rfl) (e:=Extern.SlicesOverlaps.overlaps #[24,24] #[4]) (by kernel_rfl),
     Lib.run_overlaps_apart w 24 4 40 Tryz.underlying24 5 Tryz.sizeOf40 ⟨gx,0,none⟩ ⟨g,(i+1) * 5,none⟩ 1 1 lb cb hne 40 40 X.length M.length (blk_shape hx) (blk_shape hB) (by omega) (hx.froz _) (hx.froz _)]
    rfl
   have hres:∀ W W',W=(w.drew.setRow g M1.toArray)→W'=(W.setRow g M2.toArray)→Inserted nodeRow 5 40 base (.slice (some ⟨g,0,none⟩) n c) n (L.take i++x::L.drop i) w (.returned (.slice (some ⟨g,0,none⟩) (n+1) c)) W':=fun W W' e1 e2=>by
    subst e1 e2; refine⟨_,c,rfl,own_of_row hbg ((hB.drew.setRow (M':=M1)).setRow) hroom hcm (by rw [hM2l,hM]) ?_,grown_setRow (grown_setRow (grown_drew (grown_refl _ _))),.inl rfl⟩; rw [hMf,hRES,List.take_append_of_le_length (by simp only [List.length_append]; omega),List.take_of_length_le (by simp only [List.length_append]; omega)]
   have HRES:=Lib.hid (hres _ _ rfl rfl); have b1:Blk w.drew g M 40:=hB.drew; have b2:Blk (w.drew.setRow g M1.toArray) g M1 40:=b1.setRow; have b3:Blk (w.drew.setRow g M1.toArray) gx X 40:=by
    unfold Blk; rw [setRow_other _ g gx _ hne]; exact hx
   have hc1:=fun ty dc sc=>hcp1 _ b1 ty dc sc; have hc2:=fun ty dc=>hcp2 _ b2 b3 ty dc; have hw1:(n:Int)+1≤(c:Int):=by omega
   have hq1:IntKind.i64.wrap ((i:Int)+1)=(i:Int)+1:=by rw [IntKind.wrap_i64]; omega
   have hq2:(0:Int)≤(i:Int)+1:=by omega
   have hq3:(i:Int)+1≤(n:Int)+1:=by omega
   have hq4:((i:Int)+1).toNat=i+1:=by omega
   have hq5:(i:Int)≤(n:Int)+1:=by omega
   have hw2:¬ c=i+1:=by omega
   have hw3:¬ c<n+1:=by omega
   clear hres hcp1 hcp2 hsrcD hsrcX hMd hRES hD1 b1 b2 b3 hMf hvx; go_enter Tryz.func138,Tryz.ntmps138
   go_wp2_with (simp only [hov])
   go_region_law (refine step_copyR rfl _ _ 24 24 rfl _ _ (by simp [Act.eval,Act.put]) (by simp [Act.eval,Act.put]) (hc1 _ _ _) ?_)
   go_wp2_with (at_builtin; refine wpList_copyR _ rfl _ _ 24 24 rfl _ _ rfl rfl (hc2 _ _) ?_)
   go_ret; exact HRES.out
  ·obtain⟨G,hG⟩:∃ G,grownCap w (n+1) c 40=G:=⟨_,rfl⟩
   have hGn:n+1≤G:=by rw [← hG]; exact grownCap_ge w _ _ _
   have hGm:G≤maxLen:=by rw [← hG]; exact grownCap_le_maxLen w _ _ _ (by unfold maxLen; omega)
   have hG63:G≤9223372036854775807:=hGm; have hold:(Builtin.firstCells iT.size i (.slice (some ⟨g,0,none⟩) i c)).run Tryz.prog w.drew=.ok A.toArray w.drew:=by
    rw [hsT]; exact run_firstCells_some w.drew 5 i ⟨g,0,none⟩ i c A hAl (fun j u hj=>by
     rw [Addr.add_lit,Nat.zero_add,hB.drew.cell,hMd,List.append_assoc,List.getElem?_append_left (List.getElem?_eq_some_iff.1 hj).1]; exact hj)
   obtain⟨Z1,hZ1⟩:∃ Z1,Builtin.zeroCells (Value.cells (.agg #[.string ⟨#[]⟩,.string ⟨#[]⟩,.int .i64 0,.int .i64 0,.string ⟨#[]⟩])) (n+1 - i)=Z1:=⟨_,rfl⟩; obtain⟨Z2,hZ2⟩:∃ Z2,Builtin.zeroCells (Value.cells (.agg #[.string ⟨#[]⟩,.string ⟨#[]⟩,.int .i64 0,.int .i64 0,.string ⟨#[]⟩])) (G - (n+1))=Z2:=⟨_,rfl⟩; obtain⟨Zs,hZs⟩:∃ Zs,(Z1++Z2).toList=Zs:=⟨_,rfl⟩; have hzc:(Value.cells (.agg #[.string ⟨#[]⟩,.string ⟨#[]⟩,.int .i64 0,.int .i64 0,.string ⟨#[]⟩])).size=5:=by rfl
   have hZl:Zs.length=(G - i) * 5:=by
    rw [← hZs,Array.length_toList,Array.size_append,← hZ1,← hZ2,size_zeroCells,size_zeroCells,hzc]; omega
   have hrz:∀ ty,(Builtin.append_ #[24,3] ty #[.slice (some ⟨g,0,none⟩) i c,.int .i64 ((n:Int)+1 - (i:Int))]).run Tryz.prog w=.ok (.slice (some ⟨w.heap.size,0,none⟩) (n+1) G) (w.drew.alloc (.cells (A++Zs).toArray 40)):=fun ty=>by
    have h:=Lib.run_append_grow_zeros w 24 3 ty 40 iT _ .i64 .i64 Tryz.underlying24 Tryz.underlying3 hiT hzT (some ⟨g,0,none⟩) i c A hold (n+1 - i) (by omega) (by omega) (by omega) (by omega) (by rw [hbT]; omega) (by rw [hbT,show i+(n+1 - i)=n+1 by omega]; exact growslice_fits (by omega) (by omega))
    rw [show i+(n+1 - i)=n+1 by omega,hG] at h; rw [hZ1,hZ2] at h; rw [show (n:Int)+1 - (i:Int)=((n+1 - i:Nat):Int) by omega,h,← hZs]; congr 4
    simp
   obtain⟨M1,hM1⟩:∃ M1,splice (A++Zs) (i * 5) X=M1:=⟨_,rfl⟩; obtain⟨M2,hM2⟩:∃ M2,splice M1 ((i+1) * 5) D=M2:=⟨_,rfl⟩; have hMf:M2=A++X++D++Zs.drop (5+D.length):=by
    have:=splice_fresh (A:=A) (D:=D) (Z:=Zs) hXl; rw [show A.length+5=(i+1) * 5 by omega,show A.length=i * 5 by omega,hM1,hM2] at this; exact this
   have hM1l:M1.length=G * 5:=by rw [← hM1,length_splice _ _ _ (by rw [List.length_append]; omega),List.length_append]; omega
   have hM2l:M2.length=G * 5:=by rw [← hM2,← hM1l]; exact length_splice _ _ _ (by omega)
   have hcp1:∀ W,Blk W w.heap.size (A++Zs) 40→Blk W gx X 40→∀ ty dc,(Builtin.copy_ #[24,24] ty #[.slice (some ⟨w.heap.size,i * 5,none⟩) (n+1 - i) dc,.slice (some ⟨gx,0,none⟩) 1 1]).run Tryz.prog W=.ok (goInt 1) (W.setRow w.heap.size M1.toArray):=fun W hW hWx ty dc=>by
    rw [← hM1]; refine run_copyK (m:=1) Tryz.underlying24 iszNod hW ?_ (by omega) (hsrcX W hWx) ?_ h1x
    ·simp only [Nat.min_def]
     split <;> omega
    ·rw [List.length_append]
     omega
   have hcp2:∀ W,Blk W w.heap.size M1 40→Blk W g M 40→∀ ty dc sc,(Builtin.copy_ #[24,24] ty #[.slice (some ⟨w.heap.size,(i+1) * 5,none⟩) (n - i) dc,.slice (some ⟨g,i * 5,none⟩) (n - i) sc]).run Tryz.prog W=.ok (goInt ((n - i:Nat):Int)) (W.setRow w.heap.size M2.toArray):=fun W hW hWg ty dc sc=>by
    rw [← hM2]; refine run_copyK (m:=n - i) Tryz.underlying24 iszNod hW ?_ hDl (hsrcD W hWg) ?_ hD1
    ·simp only [Nat.min_def]
     split <;> omega
    ·omega
   have b1:Blk (w.alloc (.cells (A++Zs).toArray 40)).drew w.heap.size (A++Zs) 40:=(Blk.new w (A++Zs) 40).drew; have b2:Blk (w.alloc (.cells (A++Zs).toArray 40)).drew gx X 40:=(hx.alloc _).drew; have b3:Blk (w.alloc (.cells (A++Zs).toArray 40)).drew g M 40:=(hB.alloc _).drew; have b4:Blk ((w.alloc (.cells (A++Zs).toArray 40)).drew.setRow w.heap.size M1.toArray).drew w.heap.size M1 40:=b1.setRow.drew; have b5:Blk ((w.alloc (.cells (A++Zs).toArray 40)).drew.setRow w.heap.size M1.toArray).drew g M 40:=by
    refine Blk.drew ?_; unfold Blk; rw [setRow_other _ w.heap.size g _ (by omega)]; exact b3
   have hres:∀ W',W'=((w.alloc (.cells (A++Zs).toArray 40)).drew.setRow w.heap.size M1.toArray).drew.setRow w.heap.size M2.toArray→Inserted nodeRow 5 40 base (.slice (some ⟨g,0,none⟩) n c) n (L.take i++x::L.drop i) w (.returned (.slice (some ⟨w.heap.size,0,none⟩) (n+1) G)) W':=fun W' e1=>by
    subst e1; refine⟨_,G,rfl,own_of_row hbase b4.setRow hGn hGm hM2l ?_,grown_new (grown_drew (grown_new (grown_drew (World.grownBy_alloc w _ _)) (Nat.le_refl _))) (Nat.le_refl _),.inr ⟨w.heap.size,Nat.le_refl _,rfl⟩⟩; rw [hMf,hRES,List.take_append_of_le_length (by simp only [List.length_append]; omega),List.take_of_length_le (by simp only [List.length_append]; omega)]
   have HRES:=Lib.hid (hres _ rfl); have hc1:=fun ty dc=>hcp1 _ b1 b2 ty dc; have hc2:=fun ty dc sc=>hcp2 _ b4 b5 ty dc sc; have hw1:(c:Int)<(n:Int)+1:=by omega
   have hq1:IntKind.i64.wrap ((i:Int)+1)=(i:Int)+1:=by rw [IntKind.wrap_i64]; omega
   have hq2:(0:Int)≤(i:Int)+1:=by omega
   have hq3:(i:Int)+1≤(n:Int)+1:=by omega
   have hq4:((i:Int)+1).toNat=i+1:=by omega
   have hq5:(i:Int)≤(n:Int)+1:=by omega
   have hq6:¬ G=i:=by omega
   have hq7:¬ G=i+1:=by omega
   have hq8:(i:Int)≤(n:Int):=by omega
   clear hres hcp1 hcp2 hsrcD hsrcX hMd hRES hD1 b1 b2 b3 b4 b5 hMf hvx hold hZs hM1l hM2l hZl; go_enter Tryz.func138,Tryz.ntmps138
   go_wp2_with (first|(at_builtin; refine Lib.wpList_append_run _ rfl _ _ _ _ rfl _ _ rfl rfl _ _ (hrz _) ?_)|(at_builtin; refine wpList_copyR _ rfl _ _ 24 24 rfl _ _ rfl rfl (hc1 _ _) ?_))
   go_region_law (refine step_copyR rfl _ _ 24 24 rfl _ _ (by simp [Act.eval,Act.put]) (by simp [Act.eval,Act.put]) (hc2 _ _ _) ?_)
   go_wp2; go_ret; exact HRES.out
theorem infoBun:(Tryz.prog.info? 45).map (fun i=>(i.zero,i.size,i.bytes))=some (some (.agg #[.string ⟨#[]⟩,.int .i64 0,.slice none 0 0]),3,48):=by kernel_rfl
theorem iszBun:(Tryz.prog.info? 45).map (·.size)=some 3:=by kernel_rfl
theorem insBun_any(L:List (Led.Bundle × Value)) (x:Led.Bundle × Value) (n i base:Nat) (v:Value) (gx:Nat) (w:World) (hL:L.length=n) (hown:w.ownsRow base 45 3 v n (rows bunRow L)) (hx:Blk w gx (bunRow x) 45) (hgx:v.ownBlock≠some gx) (hi:i≤n) (hn:n≤1000) (hbase:base≤w.heap.size)
  (h1:∀ y∈L,∀ u∈bunRow y,u.oneCell'=true) (h1x:∀ u∈bunRow x,u.oneCell'=true) :
  Calls Tryz.prog 152 #[v,.int .i64 i,.slice (some ⟨gx,0,none⟩) 1 1] w (Inserted bunRow 3 45 base v n (L.take i++x::L.drop i) w):=by
 obtain⟨iT,hiT,hzT,hsT,hbT⟩:=info_parts infoBun
 have hvx:Vs w w.heap.size 3 (some ⟨gx,0,none⟩) 1 (bunRow x):=⟨by rw [bunRow_len],fun j u hj=>⟨_,rfl,hx.lt,by rw [zero_add_,hx.cell j]; exact hj⟩⟩
 by_cases hin:i=n
 ·subst hin
  have HR:Hid (rows bunRow L++bunRow x=rows bunRow (L.take i++x::L.drop i)):=Lib.hid (by
   rw [List.take_of_length_le (by omega),List.drop_of_length_le (by omega),rows_append]; simp [rows])
  obtain⟨v',w',hrun,hown',hg,hb⟩:=run_append (P:=Tryz.prog) w base 28 28 45 iT _ 3 48 Tryz.underlying28 hiT hzT hsT hbT rfl (by omega) v i _ hown w.heap.size (some ⟨gx,0,none⟩) 1 1 (bunRow x) hvx h1x (by unfold maxLen; omega) (by omega) hbase
  obtain⟨A,c,rfl,_,_⟩:=own_form hown'; rw [HR.out] at hown'; have HRES:Hid (Inserted bunRow 3 45 base v i (L.take i++x::L.drop i) w (.returned (.slice A (i+1) c)) w'):=Lib.hid ⟨A,c,rfl,hown',hg,hb.imp id (fun h=>⟨_,Nat.le_refl _,h⟩)⟩; obtain⟨A0,c0,hv0,hc0,hm0⟩:=own_form hown; subst hv0; clear hown hown' hg hb HR hvx hx hgx h1 h1x; by_cases hci:c0=i
  all_goals
   go_enter Tryz.func152,Tryz.ntmps152
   go_wp2_with (at_builtin; refine Lib.wpList_append_run _ rfl _ _ _ _ rfl _ _ rfl rfl _ _ hrun ?_)
   go_ret; exact HRES.out
 ·have hlt:i<n:=by omega
  rcases own_cases hown with⟨_,h0,_⟩|⟨g,c,M,rfl,hbg,hgw,hB,hnc,hcm,hM,hMt⟩
  ·omega
  have hcm':c≤9223372036854775807:=hcm; obtain⟨A,hA⟩:∃ A,rows bunRow (L.take i)=A:=⟨_,rfl⟩; obtain⟨D,hD⟩:∃ D,rows bunRow (L.drop i)=D:=⟨_,rfl⟩; obtain⟨R,hR⟩:∃ R,M.drop (n * 3)=R:=⟨_,rfl⟩; obtain⟨X,hX⟩:∃ X,bunRow x=X:=⟨_,rfl⟩; have hAl:A.length=i * 3:=by rw [← hA,rows_length bunRow_len,List.length_take,Nat.min_eq_left (by omega)]
  have hDl:D.length=(n - i) * 3:=by rw [← hD,rows_length bunRow_len,List.length_drop,hL]
  have hXl:X.length=3:=by rw [← hX]; rfl
  have hRl:R.length=c * 3 - n * 3:=by rw [← hR,List.length_drop,hM]
  have hMd:M=A++D++R:=by
   rw [← hA,← hD,← rows_append,List.take_append_drop,← hMt,← hR,List.take_append_drop]
  have hRES:rows bunRow (L.take i++x::L.drop i)=A++X++D:=by
   rw [rows_append,rows_cons,hA,hD,hX,List.append_assoc]
  have hD1:∀ u∈D,u.oneCell'=true:=by
   intro u hu; rw [← hD] at hu; unfold rows at hu; obtain⟨r,hr,hur⟩:=List.mem_flatten.1 hu; obtain⟨y,hy,rfl⟩:=List.mem_map.1 hr; exact h1 y (List.mem_of_mem_drop hy) u hur
  rw [hX] at hx h1x; have hne:gx≠g:=fun e=>hgx (by simp [Value.ownBlock,e]); have hsrcD:∀ W,Blk W g M 45→∀ j u,D[j]?=some u→W.cell? ((⟨g,i * 3,none⟩:Addr).add j)=some u:=fun W hW j u hj=>by
   rw [Addr.add_lit,hW.cell,hMd,List.append_assoc,List.getElem?_append_right (by omega),show i * 3+j - A.length=j by omega,List.getElem?_append_left (List.getElem?_eq_some_iff.1 hj).1]; exact hj
  have hsrcX:∀ W,Blk W gx X 45→∀ j u,X[j]?=some u→W.cell? ((⟨gx,0,none⟩:Addr).add j)=some u:=fun W hW j u hj=>by
   rw [Addr.add_lit,Nat.zero_add,hW.cell]; exact hj
  have hz1:¬ ((i:Int)=(n:Int)):=by omega
  have hin':i≤n:=hi; have hci:¬ c=i:=by omega
  by_cases hroom:n+1≤c
  ·have hRk:3≤R.length:=by omega
   obtain⟨M1,hM1⟩:∃ M1,splice M ((i+1) * 3) D=M1:=⟨_,rfl⟩; obtain⟨M2,hM2⟩:∃ M2,splice M1 (i * 3) X=M2:=⟨_,rfl⟩; have hMf:M2=A++X++D++R.drop 3:=by
    have:=splice_insert (A:=A) (D:=D) (R:=R) hXl hRk; rw [← hMd,show A.length+3=(i+1) * 3 by omega,show A.length=i * 3 by omega,hM1,hM2] at this; exact this
   have hM1l:M1.length=M.length:=by rw [← hM1]; exact length_splice _ _ _ (by omega)
   have hM2l:M2.length=M.length:=by rw [← hM2,← hM1l]; exact length_splice _ _ _ (by omega)
   have hcp1:∀ W,Blk W g M 45→∀ ty dc sc,(Builtin.copy_ #[28,28] ty #[.slice (some ⟨g,(i+1) * 3,none⟩) (n - i) dc,.slice (some ⟨g,i * 3,none⟩) (n+1 - i) sc]).run Tryz.prog W=.ok (goInt ((n - i:Nat):Int)) (W.setRow g M1.toArray):=fun W hW ty dc sc=>by
    rw [← hM1]; refine run_copyK (m:=n - i) Tryz.underlying28 iszBun hW ?_ hDl (hsrcD W hW) ?_ hD1
    ·simp only [Nat.min_def]
     split <;> omega
    ·omega
   have hcp2:∀ W,Blk W g M1 45→Blk W gx X 45→∀ ty dc,(Builtin.copy_ #[28,28] ty #[.slice (some ⟨g,i * 3,none⟩) (n+1 - i) dc,.slice (some ⟨gx,0,none⟩) 1 1]).run Tryz.prog W=.ok (goInt 1) (W.setRow g M2.toArray):=fun W hW hWx ty dc=>by
    rw [← hM2]; refine run_copyK (m:=1) Tryz.underlying28 iszBun hW ?_ (by omega) (hsrcX W hWx) ?_ h1x
    ·simp only [Nat.min_def]
     split <;> omega
    ·omega
   have hov:∀ lb cb,(callFunc 180 #[.slice (some ⟨gx,0,none⟩) 1 1,.slice (some ⟨g,(i+1) * 3,none⟩) lb cb]).run Tryz.prog w=.ok (.value (.bool false)) w:=fun lb cb=>by
    rw [run_callFunc_extern Tryz.func180 (by kernel_rfl) (by kernel_rfl) (by kernel_rfl) (e:=Extern.SlicesOverlaps.overlaps #[28,28] #[4]) (by kernel_rfl),
     Lib.run_overlaps_apart w 28 4 45 Tryz.underlying28 3 Tryz.sizeOf45 ⟨gx,0,none⟩ ⟨g,(i+1) * 3,none⟩ 1 1 lb cb hne 45 45 X.length M.length (blk_shape hx) (blk_shape hB) (by omega) (hx.froz _) (hx.froz _)]
    rfl
   have hres:∀ W W',W=(w.drew.setRow g M1.toArray)→W'=(W.setRow g M2.toArray)→Inserted bunRow 3 45 base (.slice (some ⟨g,0,none⟩) n c) n (L.take i++x::L.drop i) w (.returned (.slice (some ⟨g,0,none⟩) (n+1) c)) W':=fun W W' e1 e2=>by
    subst e1 e2; refine⟨_,c,rfl,own_of_row hbg ((hB.drew.setRow (M':=M1)).setRow) hroom hcm (by rw [hM2l,hM]) ?_,grown_setRow (grown_setRow (grown_drew (grown_refl _ _))),.inl rfl⟩; rw [hMf,hRES,List.take_append_of_le_length (by simp only [List.length_append]; omega),List.take_of_length_le (by simp only [List.length_append]; omega)]
   have HRES:=Lib.hid (hres _ _ rfl rfl); have b1:Blk w.drew g M 45:=hB.drew; have b2:Blk (w.drew.setRow g M1.toArray) g M1 45:=b1.setRow; have b3:Blk (w.drew.setRow g M1.toArray) gx X 45:=by
    unfold Blk; rw [setRow_other _ g gx _ hne]; exact hx
   have hc1:=fun ty dc sc=>hcp1 _ b1 ty dc sc; have hc2:=fun ty dc=>hcp2 _ b2 b3 ty dc; have hw1:(n:Int)+1≤(c:Int):=by omega
   have hq1:IntKind.i64.wrap ((i:Int)+1)=(i:Int)+1:=by rw [IntKind.wrap_i64]; omega
   have hq2:(0:Int)≤(i:Int)+1:=by omega
   have hq3:(i:Int)+1≤(n:Int)+1:=by omega
   have hq4:((i:Int)+1).toNat=i+1:=by omega
   have hq5:(i:Int)≤(n:Int)+1:=by omega
   have hw2:¬ c=i+1:=by omega
   have hw3:¬ c<n+1:=by omega
   clear hres hcp1 hcp2 hsrcD hsrcX hMd hRES hD1 b1 b2 b3 hMf hvx; go_enter Tryz.func152,Tryz.ntmps152
   go_wp2_with (simp only [hov])
   go_region_law (refine step_copyR rfl _ _ 28 28 rfl _ _ (by simp [Act.eval,Act.put]) (by simp [Act.eval,Act.put]) (hc1 _ _ _) ?_)
   go_wp2_with (at_builtin; refine wpList_copyR _ rfl _ _ 28 28 rfl _ _ rfl rfl (hc2 _ _) ?_)
   go_ret; exact HRES.out
  ·obtain⟨G,hG⟩:∃ G,grownCap w (n+1) c 45=G:=⟨_,rfl⟩
   have hGn:n+1≤G:=by rw [← hG]; exact grownCap_ge w _ _ _
   have hGm:G≤maxLen:=by rw [← hG]; exact grownCap_le_maxLen w _ _ _ (by unfold maxLen; omega)
   have hG63:G≤9223372036854775807:=hGm; have hold:(Builtin.firstCells iT.size i (.slice (some ⟨g,0,none⟩) i c)).run Tryz.prog w.drew=.ok A.toArray w.drew:=by
    rw [hsT]; exact run_firstCells_some w.drew 3 i ⟨g,0,none⟩ i c A hAl (fun j u hj=>by
     rw [Addr.add_lit,Nat.zero_add,hB.drew.cell,hMd,List.append_assoc,List.getElem?_append_left (List.getElem?_eq_some_iff.1 hj).1]; exact hj)
   obtain⟨Z1,hZ1⟩:∃ Z1,Builtin.zeroCells (Value.cells (.agg #[.string ⟨#[]⟩,.int .i64 0,.slice none 0 0])) (n+1 - i)=Z1:=⟨_,rfl⟩; obtain⟨Z2,hZ2⟩:∃ Z2,Builtin.zeroCells (Value.cells (.agg #[.string ⟨#[]⟩,.int .i64 0,.slice none 0 0])) (G - (n+1))=Z2:=⟨_,rfl⟩; obtain⟨Zs,hZs⟩:∃ Zs,(Z1++Z2).toList=Zs:=⟨_,rfl⟩; have hzc:(Value.cells (.agg #[.string ⟨#[]⟩,.int .i64 0,.slice none 0 0])).size=3:=by rfl
   have hZl:Zs.length=(G - i) * 3:=by
    rw [← hZs,Array.length_toList,Array.size_append,← hZ1,← hZ2,size_zeroCells,size_zeroCells,hzc]; omega
   have hrz:∀ ty,(Builtin.append_ #[28,3] ty #[.slice (some ⟨g,0,none⟩) i c,.int .i64 ((n:Int)+1 - (i:Int))]).run Tryz.prog w=.ok (.slice (some ⟨w.heap.size,0,none⟩) (n+1) G) (w.drew.alloc (.cells (A++Zs).toArray 45)):=fun ty=>by
    have h:=Lib.run_append_grow_zeros w 28 3 ty 45 iT _ .i64 .i64 Tryz.underlying28 Tryz.underlying3 hiT hzT (some ⟨g,0,none⟩) i c A hold (n+1 - i) (by omega) (by omega) (by omega) (by omega) (by rw [hbT]; omega) (by rw [hbT,show i+(n+1 - i)=n+1 by omega]; exact growslice_fits (by omega) (by omega))
    rw [show i+(n+1 - i)=n+1 by omega,hG] at h; rw [hZ1,hZ2] at h; rw [show (n:Int)+1 - (i:Int)=((n+1 - i:Nat):Int) by omega,h,← hZs]; congr 4
    simp
   obtain⟨M1,hM1⟩:∃ M1,splice (A++Zs) (i * 3) X=M1:=⟨_,rfl⟩; obtain⟨M2,hM2⟩:∃ M2,splice M1 ((i+1) * 3) D=M2:=⟨_,rfl⟩; have hMf:M2=A++X++D++Zs.drop (3+D.length):=by
    have:=splice_fresh (A:=A) (D:=D) (Z:=Zs) hXl; rw [show A.length+3=(i+1) * 3 by omega,show A.length=i * 3 by omega,hM1,hM2] at this; exact this
   have hM1l:M1.length=G * 3:=by rw [← hM1,length_splice _ _ _ (by rw [List.length_append]; omega),List.length_append]; omega
   have hM2l:M2.length=G * 3:=by rw [← hM2,← hM1l]; exact length_splice _ _ _ (by omega)
   have hcp1:∀ W,Blk W w.heap.size (A++Zs) 45→Blk W gx X 45→∀ ty dc,(Builtin.copy_ #[28,28] ty #[.slice (some ⟨w.heap.size,i * 3,none⟩) (n+1 - i) dc,.slice (some ⟨gx,0,none⟩) 1 1]).run Tryz.prog W=.ok (goInt 1) (W.setRow w.heap.size M1.toArray):=fun W hW hWx ty dc=>by
    rw [← hM1]; refine run_copyK (m:=1) Tryz.underlying28 iszBun hW ?_ (by omega) (hsrcX W hWx) ?_ h1x
    ·simp only [Nat.min_def]
     split <;> omega
    ·rw [List.length_append]
     omega
   have hcp2:∀ W,Blk W w.heap.size M1 45→Blk W g M 45→∀ ty dc sc,(Builtin.copy_ #[28,28] ty #[.slice (some ⟨w.heap.size,(i+1) * 3,none⟩) (n - i) dc,.slice (some ⟨g,i * 3,none⟩) (n - i) sc]).run Tryz.prog W=.ok (goInt ((n - i:Nat):Int)) (W.setRow w.heap.size M2.toArray):=fun W hW hWg ty dc sc=>by
    rw [← hM2]; refine run_copyK (m:=n - i) Tryz.underlying28 iszBun hW ?_ hDl (hsrcD W hWg) ?_ hD1
    ·simp only [Nat.min_def]
     split <;> omega
    ·omega
   have b1:Blk (w.alloc (.cells (A++Zs).toArray 45)).drew w.heap.size (A++Zs) 45:=(Blk.new w (A++Zs) 45).drew; have b2:Blk (w.alloc (.cells (A++Zs).toArray 45)).drew gx X 45:=(hx.alloc _).drew; have b3:Blk (w.alloc (.cells (A++Zs).toArray 45)).drew g M 45:=(hB.alloc _).drew; have b4:Blk ((w.alloc (.cells (A++Zs).toArray 45)).drew.setRow w.heap.size M1.toArray).drew w.heap.size M1 45:=b1.setRow.drew; have b5:Blk ((w.alloc (.cells (A++Zs).toArray 45)).drew.setRow w.heap.size M1.toArray).drew g M 45:=by
    refine Blk.drew ?_; unfold Blk; rw [setRow_other _ w.heap.size g _ (by omega)]; exact b3
   have hres:∀ W',W'=((w.alloc (.cells (A++Zs).toArray 45)).drew.setRow w.heap.size M1.toArray).drew.setRow w.heap.size M2.toArray→Inserted bunRow 3 45 base (.slice (some ⟨g,0,none⟩) n c) n (L.take i++x::L.drop i) w (.returned (.slice (some ⟨w.heap.size,0,none⟩) (n+1) G)) W':=fun W' e1=>by
    subst e1; refine⟨_,G,rfl,own_of_row hbase b4.setRow hGn hGm hM2l ?_,grown_new (grown_drew (grown_new (grown_drew (World.grownBy_alloc w _ _)) (Nat.le_refl _))) (Nat.le_refl _),.inr ⟨w.heap.size,Nat.le_refl _,rfl⟩⟩; rw [hMf,hRES,List.take_append_of_le_length (by simp only [List.length_append]; omega),List.take_of_length_le (by simp only [List.length_append]; omega)]
   have HRES:=Lib.hid (hres _ rfl); have hc1:=fun ty dc=>hcp1 _ b1 b2 ty dc; have hc2:=fun ty dc sc=>hcp2 _ b4 b5 ty dc sc; have hw1:(c:Int)<(n:Int)+1:=by omega
   have hq1:IntKind.i64.wrap ((i:Int)+1)=(i:Int)+1:=by rw [IntKind.wrap_i64]; omega
   have hq2:(0:Int)≤(i:Int)+1:=by omega
   have hq3:(i:Int)+1≤(n:Int)+1:=by omega
   have hq4:((i:Int)+1).toNat=i+1:=by omega
   have hq5:(i:Int)≤(n:Int)+1:=by omega
   have hq6:¬ G=i:=by omega
   have hq7:¬ G=i+1:=by omega
   have hq8:(i:Int)≤(n:Int):=by omega
   clear hres hcp1 hcp2 hsrcD hsrcX hMd hRES hD1 b1 b2 b3 b4 b5 hMf hvx hold hZs hM1l hM2l hZl; go_enter Tryz.func152,Tryz.ntmps152
   go_wp2_with (first|(at_builtin; refine Lib.wpList_append_run _ rfl _ _ _ _ rfl _ _ rfl rfl _ _ (hrz _) ?_)|(at_builtin; refine wpList_copyR _ rfl _ _ 28 28 rfl _ _ rfl rfl (hc1 _ _) ?_))
   go_region_law (refine step_copyR rfl _ _ 28 28 rfl _ _ (by simp [Act.eval,Act.put]) (by simp [Act.eval,Act.put]) (hc2 _ _ _) ?_)
   go_wp2; go_ret; exact HRES.out
theorem infoStr:(Tryz.prog.info? 9).map (fun i=>(i.zero,i.size,i.bytes))=some (some (.string ⟨#[]⟩),1,16):=by kernel_rfl
theorem iszStr:(Tryz.prog.info? 9).map (·.size)=some 1:=by kernel_rfl
theorem insStr_any(L:List (Txt)) (x:Txt) (n i base:Nat) (v:Value) (gx:Nat) (w:World) (hL:L.length=n) (hown:w.ownsRow base 9 1 v n (rows strRow L)) (hx:Blk w gx (strRow x) 9) (hgx:v.ownBlock≠some gx) (hi:i≤n) (hn:n≤1000) (hbase:base≤w.heap.size)
  (h1:∀ y∈L,∀ u∈strRow y,u.oneCell'=true) (h1x:∀ u∈strRow x,u.oneCell'=true) :
  Calls Tryz.prog 142 #[v,.int .i64 i,.slice (some ⟨gx,0,none⟩) 1 1] w (Inserted strRow 1 9 base v n (L.take i++x::L.drop i) w):=by
 obtain⟨iT,hiT,hzT,hsT,hbT⟩:=info_parts infoStr
 have hvx:Vs w w.heap.size 1 (some ⟨gx,0,none⟩) 1 (strRow x):=⟨by rw [strRow_len],fun j u hj=>⟨_,rfl,hx.lt,by rw [zero_add_,hx.cell j]; exact hj⟩⟩
 by_cases hin:i=n
 ·subst hin
  have HR:Hid (rows strRow L++strRow x=rows strRow (L.take i++x::L.drop i)):=Lib.hid (by
   rw [List.take_of_length_le (by omega),List.drop_of_length_le (by omega),rows_append]; simp [rows])
  obtain⟨v',w',hrun,hown',hg,hb⟩:=run_append (P:=Tryz.prog) w base 25 25 9 iT _ 1 16 Tryz.underlying25 hiT hzT hsT hbT rfl (by omega) v i _ hown w.heap.size (some ⟨gx,0,none⟩) 1 1 (strRow x) hvx h1x (by unfold maxLen; omega) (by omega) hbase
  obtain⟨A,c,rfl,_,_⟩:=own_form hown'; rw [HR.out] at hown'; have HRES:Hid (Inserted strRow 1 9 base v i (L.take i++x::L.drop i) w (.returned (.slice A (i+1) c)) w'):=Lib.hid ⟨A,c,rfl,hown',hg,hb.imp id (fun h=>⟨_,Nat.le_refl _,h⟩)⟩; obtain⟨A0,c0,hv0,hc0,hm0⟩:=own_form hown; subst hv0; clear hown hown' hg hb HR hvx hx hgx h1 h1x; by_cases hci:c0=i
  all_goals
   go_enter Tryz.func142,Tryz.ntmps142
   go_wp2_with (at_builtin; refine Lib.wpList_append_run _ rfl _ _ _ _ rfl _ _ rfl rfl _ _ hrun ?_)
   go_ret; exact HRES.out
 ·have hlt:i<n:=by omega
  rcases own_cases hown with⟨_,h0,_⟩|⟨g,c,M,rfl,hbg,hgw,hB,hnc,hcm,hM,hMt⟩
  ·omega
  have hcm':c≤9223372036854775807:=hcm; obtain⟨A,hA⟩:∃ A,rows strRow (L.take i)=A:=⟨_,rfl⟩; obtain⟨D,hD⟩:∃ D,rows strRow (L.drop i)=D:=⟨_,rfl⟩; obtain⟨R,hR⟩:∃ R,M.drop (n * 1)=R:=⟨_,rfl⟩; obtain⟨X,hX⟩:∃ X,strRow x=X:=⟨_,rfl⟩; have hAl:A.length=i * 1:=by rw [← hA,rows_length strRow_len,List.length_take,Nat.min_eq_left (by omega)]
  have hDl:D.length=(n - i) * 1:=by rw [← hD,rows_length strRow_len,List.length_drop,hL]
  have hXl:X.length=1:=by rw [← hX]; rfl
  have hRl:R.length=c * 1 - n * 1:=by rw [← hR,List.length_drop,hM]
  have hMd:M=A++D++R:=by
   rw [← hA,← hD,← rows_append,List.take_append_drop,← hMt,← hR,List.take_append_drop]
  have hRES:rows strRow (L.take i++x::L.drop i)=A++X++D:=by
   rw [rows_append,rows_cons,hA,hD,hX,List.append_assoc]
  have hD1:∀ u∈D,u.oneCell'=true:=by
   intro u hu; rw [← hD] at hu; unfold rows at hu; obtain⟨r,hr,hur⟩:=List.mem_flatten.1 hu; obtain⟨y,hy,rfl⟩:=List.mem_map.1 hr; exact h1 y (List.mem_of_mem_drop hy) u hur
  rw [hX] at hx h1x; have hne:gx≠g:=fun e=>hgx (by simp [Value.ownBlock,e]); have hsrcD:∀ W,Blk W g M 9→∀ j u,D[j]?=some u→W.cell? ((⟨g,i,none⟩:Addr).add j)=some u:=fun W hW j u hj=>by
   rw [Addr.add_lit,hW.cell,hMd,List.append_assoc,List.getElem?_append_right (by omega),show i+j - A.length=j by omega,List.getElem?_append_left (List.getElem?_eq_some_iff.1 hj).1]; exact hj
  have hsrcX:∀ W,Blk W gx X 9→∀ j u,X[j]?=some u→W.cell? ((⟨gx,0,none⟩:Addr).add j)=some u:=fun W hW j u hj=>by
   rw [Addr.add_lit,Nat.zero_add,hW.cell]; exact hj
  have hz1:¬ ((i:Int)=(n:Int)):=by omega
  have hin':i≤n:=hi; have hci:¬ c=i:=by omega
  by_cases hroom:n+1≤c
  ·have hRk:1≤R.length:=by omega
   obtain⟨M1,hM1⟩:∃ M1,splice M (i+1) D=M1:=⟨_,rfl⟩; obtain⟨M2,hM2⟩:∃ M2,splice M1 (i) X=M2:=⟨_,rfl⟩; have hMf:M2=A++X++D++R.drop 1:=by
    have:=splice_insert (A:=A) (D:=D) (R:=R) hXl hRk; rw [← hMd,show A.length+1=i+1 by omega,show A.length=i by omega,hM1,hM2] at this; exact this
   have hM1l:M1.length=M.length:=by rw [← hM1]; exact length_splice _ _ _ (by omega)
   have hM2l:M2.length=M.length:=by rw [← hM2,← hM1l]; exact length_splice _ _ _ (by omega)
   have hcp1:∀ W,Blk W g M 9→∀ ty dc sc,(Builtin.copy_ #[25,25] ty #[.slice (some ⟨g,i+1,none⟩) (n - i) dc,.slice (some ⟨g,i,none⟩) (n+1 - i) sc]).run Tryz.prog W=.ok (goInt ((n - i:Nat):Int)) (W.setRow g M1.toArray):=fun W hW ty dc sc=>by
    rw [← hM1]; refine run_copyK (m:=n - i) Tryz.underlying25 iszStr hW ?_ hDl (hsrcD W hW) ?_ hD1
    ·simp only [Nat.min_def]
     split <;> omega
    ·omega
   have hcp2:∀ W,Blk W g M1 9→Blk W gx X 9→∀ ty dc,(Builtin.copy_ #[25,25] ty #[.slice (some ⟨g,i,none⟩) (n+1 - i) dc,.slice (some ⟨gx,0,none⟩) 1 1]).run Tryz.prog W=.ok (goInt 1) (W.setRow g M2.toArray):=fun W hW hWx ty dc=>by
    rw [← hM2]; refine run_copyK (m:=1) Tryz.underlying25 iszStr hW ?_ (by omega) (hsrcX W hWx) ?_ h1x
    ·simp only [Nat.min_def]
     split <;> omega
    ·omega
   have hov:∀ lb cb,(callFunc 174 #[.slice (some ⟨gx,0,none⟩) 1 1,.slice (some ⟨g,i+1,none⟩) lb cb]).run Tryz.prog w=.ok (.value (.bool false)) w:=fun lb cb=>by
    rw [run_callFunc_extern Tryz.func174 (by kernel_rfl) (by kernel_rfl) (by kernel_rfl) (e:=Extern.SlicesOverlaps.overlaps #[25,25] #[4]) (by kernel_rfl),
     Lib.run_overlaps_apart w 25 4 9 Tryz.underlying25 1 Tryz.sizeOf9 ⟨gx,0,none⟩ ⟨g,i+1,none⟩ 1 1 lb cb hne 9 9 X.length M.length (blk_shape hx) (blk_shape hB) (by omega) (hx.froz _) (hx.froz _)]
    rfl
   have hres:∀ W W',W=(w.drew.setRow g M1.toArray)→W'=(W.setRow g M2.toArray)→Inserted strRow 1 9 base (.slice (some ⟨g,0,none⟩) n c) n (L.take i++x::L.drop i) w (.returned (.slice (some ⟨g,0,none⟩) (n+1) c)) W':=fun W W' e1 e2=>by
    subst e1 e2; refine⟨_,c,rfl,own_of_row hbg ((hB.drew.setRow (M':=M1)).setRow) hroom hcm (by rw [hM2l,hM]) ?_,grown_setRow (grown_setRow (grown_drew (grown_refl _ _))),.inl rfl⟩; rw [hMf,hRES,List.take_append_of_le_length (by simp only [List.length_append]; omega),List.take_of_length_le (by simp only [List.length_append]; omega)]
   have HRES:=Lib.hid (hres _ _ rfl rfl); have b1:Blk w.drew g M 9:=hB.drew; have b2:Blk (w.drew.setRow g M1.toArray) g M1 9:=b1.setRow; have b3:Blk (w.drew.setRow g M1.toArray) gx X 9:=by
    unfold Blk; rw [setRow_other _ g gx _ hne]; exact hx
   have hc1:=fun ty dc sc=>hcp1 _ b1 ty dc sc; have hc2:=fun ty dc=>hcp2 _ b2 b3 ty dc; have hw1:(n:Int)+1≤(c:Int):=by omega
   have hq1:IntKind.i64.wrap ((i:Int)+1)=(i:Int)+1:=by rw [IntKind.wrap_i64]; omega
   have hq2:(0:Int)≤(i:Int)+1:=by omega
   have hq3:(i:Int)+1≤(n:Int)+1:=by omega
   have hq4:((i:Int)+1).toNat=i+1:=by omega
   have hq5:(i:Int)≤(n:Int)+1:=by omega
   have hw2:¬ c=i+1:=by omega
   have hw3:¬ c<n+1:=by omega
   clear hres hcp1 hcp2 hsrcD hsrcX hMd hRES hD1 b1 b2 b3 hMf hvx; go_enter Tryz.func142,Tryz.ntmps142
   go_wp2_with (simp only [hov])
   go_region_law (refine step_copyR rfl _ _ 25 25 rfl _ _ (by simp [Act.eval,Act.put]) (by simp [Act.eval,Act.put]) (hc1 _ _ _) ?_)
   go_wp2_with (at_builtin; refine wpList_copyR _ rfl _ _ 25 25 rfl _ _ rfl rfl (hc2 _ _) ?_)
   go_ret; exact HRES.out
  ·obtain⟨G,hG⟩:∃ G,grownCap w (n+1) c 9=G:=⟨_,rfl⟩
   have hGn:n+1≤G:=by rw [← hG]; exact grownCap_ge w _ _ _
   have hGm:G≤maxLen:=by rw [← hG]; exact grownCap_le_maxLen w _ _ _ (by unfold maxLen; omega)
   have hG63:G≤9223372036854775807:=hGm; have hold:(Builtin.firstCells iT.size i (.slice (some ⟨g,0,none⟩) i c)).run Tryz.prog w.drew=.ok A.toArray w.drew:=by
    rw [hsT]; exact run_firstCells_some w.drew 1 i ⟨g,0,none⟩ i c A hAl (fun j u hj=>by
     rw [Addr.add_lit,Nat.zero_add,hB.drew.cell,hMd,List.append_assoc,List.getElem?_append_left (List.getElem?_eq_some_iff.1 hj).1]; exact hj)
   obtain⟨Z1,hZ1⟩:∃ Z1,Builtin.zeroCells (Value.cells (.string ⟨#[]⟩)) (n+1 - i)=Z1:=⟨_,rfl⟩; obtain⟨Z2,hZ2⟩:∃ Z2,Builtin.zeroCells (Value.cells (.string ⟨#[]⟩)) (G - (n+1))=Z2:=⟨_,rfl⟩; obtain⟨Zs,hZs⟩:∃ Zs,(Z1++Z2).toList=Zs:=⟨_,rfl⟩; have hzc:(Value.cells (.string ⟨#[]⟩)).size=1:=by rfl
   have hZl:Zs.length=(G - i) * 1:=by
    rw [← hZs,Array.length_toList,Array.size_append,← hZ1,← hZ2,size_zeroCells,size_zeroCells,hzc]; omega
   have hrz:∀ ty,(Builtin.append_ #[25,3] ty #[.slice (some ⟨g,0,none⟩) i c,.int .i64 ((n:Int)+1 - (i:Int))]).run Tryz.prog w=.ok (.slice (some ⟨w.heap.size,0,none⟩) (n+1) G) (w.drew.alloc (.cells (A++Zs).toArray 9)):=fun ty=>by
    have h:=Lib.run_append_grow_zeros w 25 3 ty 9 iT _ .i64 .i64 Tryz.underlying25 Tryz.underlying3 hiT hzT (some ⟨g,0,none⟩) i c A hold (n+1 - i) (by omega) (by omega) (by omega) (by omega) (by rw [hbT]; omega) (by rw [hbT,show i+(n+1 - i)=n+1 by omega]; exact growslice_fits (by omega) (by omega))
    rw [show i+(n+1 - i)=n+1 by omega,hG] at h; rw [hZ1,hZ2] at h; rw [show (n:Int)+1 - (i:Int)=((n+1 - i:Nat):Int) by omega,h,← hZs]; congr 4
    simp
   obtain⟨M1,hM1⟩:∃ M1,splice (A++Zs) (i) X=M1:=⟨_,rfl⟩; obtain⟨M2,hM2⟩:∃ M2,splice M1 (i+1) D=M2:=⟨_,rfl⟩; have hMf:M2=A++X++D++Zs.drop (1+D.length):=by
    have:=splice_fresh (A:=A) (D:=D) (Z:=Zs) hXl; rw [show A.length+1=i+1 by omega,show A.length=i by omega,hM1,hM2] at this; exact this
   have hM1l:M1.length=G * 1:=by rw [← hM1,length_splice _ _ _ (by rw [List.length_append]; omega),List.length_append]; omega
   have hM2l:M2.length=G * 1:=by rw [← hM2,← hM1l]; exact length_splice _ _ _ (by omega)
   have hcp1:∀ W,Blk W w.heap.size (A++Zs) 9→Blk W gx X 9→∀ ty dc,(Builtin.copy_ #[25,25] ty #[.slice (some ⟨w.heap.size,i,none⟩) (n+1 - i) dc,.slice (some ⟨gx,0,none⟩) 1 1]).run Tryz.prog W=.ok (goInt 1) (W.setRow w.heap.size M1.toArray):=fun W hW hWx ty dc=>by
    rw [← hM1]; refine run_copyK (m:=1) Tryz.underlying25 iszStr hW ?_ (by omega) (hsrcX W hWx) ?_ h1x
    ·simp only [Nat.min_def]
     split <;> omega
    ·rw [List.length_append]
     omega
   have hcp2:∀ W,Blk W w.heap.size M1 9→Blk W g M 9→∀ ty dc sc,(Builtin.copy_ #[25,25] ty #[.slice (some ⟨w.heap.size,i+1,none⟩) (n - i) dc,.slice (some ⟨g,i,none⟩) (n - i) sc]).run Tryz.prog W=.ok (goInt ((n - i:Nat):Int)) (W.setRow w.heap.size M2.toArray):=fun W hW hWg ty dc sc=>by
    rw [← hM2]; refine run_copyK (m:=n - i) Tryz.underlying25 iszStr hW ?_ hDl (hsrcD W hWg) ?_ hD1
    ·simp only [Nat.min_def]
     split <;> omega
    ·omega
   have b1:Blk (w.alloc (.cells (A++Zs).toArray 9)).drew w.heap.size (A++Zs) 9:=(Blk.new w (A++Zs) 9).drew; have b2:Blk (w.alloc (.cells (A++Zs).toArray 9)).drew gx X 9:=(hx.alloc _).drew; have b3:Blk (w.alloc (.cells (A++Zs).toArray 9)).drew g M 9:=(hB.alloc _).drew; have b4:Blk ((w.alloc (.cells (A++Zs).toArray 9)).drew.setRow w.heap.size M1.toArray).drew w.heap.size M1 9:=b1.setRow.drew; have b5:Blk ((w.alloc (.cells (A++Zs).toArray 9)).drew.setRow w.heap.size M1.toArray).drew g M 9:=by
    refine Blk.drew ?_; unfold Blk; rw [setRow_other _ w.heap.size g _ (by omega)]; exact b3
   have hres:∀ W',W'=((w.alloc (.cells (A++Zs).toArray 9)).drew.setRow w.heap.size M1.toArray).drew.setRow w.heap.size M2.toArray→Inserted strRow 1 9 base (.slice (some ⟨g,0,none⟩) n c) n (L.take i++x::L.drop i) w (.returned (.slice (some ⟨w.heap.size,0,none⟩) (n+1) G)) W':=fun W' e1=>by
    subst e1; refine⟨_,G,rfl,own_of_row hbase b4.setRow hGn hGm hM2l ?_,grown_new (grown_drew (grown_new (grown_drew (World.grownBy_alloc w _ _)) (Nat.le_refl _))) (Nat.le_refl _),.inr ⟨w.heap.size,Nat.le_refl _,rfl⟩⟩; rw [hMf,hRES,List.take_append_of_le_length (by simp only [List.length_append]; omega),List.take_of_length_le (by simp only [List.length_append]; omega)]
   have HRES:=Lib.hid (hres _ rfl); have hc1:=fun ty dc=>hcp1 _ b1 b2 ty dc; have hc2:=fun ty dc sc=>hcp2 _ b4 b5 ty dc sc; have hw1:(c:Int)<(n:Int)+1:=by omega
   have hq1:IntKind.i64.wrap ((i:Int)+1)=(i:Int)+1:=by rw [IntKind.wrap_i64]; omega
   have hq2:(0:Int)≤(i:Int)+1:=by omega
   have hq3:(i:Int)+1≤(n:Int)+1:=by omega
   have hq4:((i:Int)+1).toNat=i+1:=by omega
   have hq5:(i:Int)≤(n:Int)+1:=by omega
   have hq6:¬ G=i:=by omega
   have hq7:¬ G=i+1:=by omega
   have hq8:(i:Int)≤(n:Int):=by omega
   clear hres hcp1 hcp2 hsrcD hsrcX hMd hRES hD1 b1 b2 b3 b4 b5 hMf hvx hold hZs hM1l hM2l hZl; go_enter Tryz.func142,Tryz.ntmps142
   go_wp2_with (first|(at_builtin; refine Lib.wpList_append_run _ rfl _ _ _ _ rfl _ _ rfl rfl _ _ (hrz _) ?_)|(at_builtin; refine wpList_copyR _ rfl _ _ 25 25 rfl _ _ rfl rfl (hc1 _ _) ?_))
   go_region_law (refine step_copyR rfl _ _ 25 25 rfl _ _ (by simp [Act.eval,Act.put]) (by simp [Act.eval,Act.put]) (hc2 _ _ _) ?_)
   go_wp2; go_ret; exact HRES.out
end
section
open Go.RowKit Mem Led
def Deleted {α:Type} (enc:α→List Value) (k:Nat) (e:TypeId) (base:Nat) (v:Value) (n:Nat) (L':List α) (w:World) (x:Ending) (w':World):Prop :=
 ∃ A c,x=.returned (.slice A n c)∧w'.ownsRow base e k (.slice A n c) n (rows enc L')∧w.grownBy w' v.ownBlock∧(Value.slice A n c).ownBlock=v.ownBlock
theorem splice_nil{α:Type} (L:List α) (o:Nat):splice L o []=L:=by simp [splice]
theorem splice_delete{α:Type} {A Y D R Z:List α} {k:Nat} (hY:Y.length=k) (hZ:Z.length=k):splice (splice (A++Y++D++R) A.length D) (A.length+D.length) Z=A++D++Z++R:=by
 unfold splice
 have e1:(A++Y++D++R).take A.length=A:=by simp only [List.append_assoc]; rw [List.take_append_of_le_length (Nat.le_refl _),List.take_of_length_le (Nat.le_refl _)]
 rw [e1]
 have e2:((A++Y++D++R).drop (A.length+D.length)).length=k+R.length:=by simp only [List.length_drop,List.length_append]; omega
 have e3:((A++Y++D++R).drop (A.length+D.length)).drop k=R:=by
  rw [List.drop_drop,show A.length+D.length+k=(A++Y++D).length by simp only [List.length_append]; omega,List.drop_append_of_le_length (Nat.le_refl _),List.drop_of_length_le (Nat.le_refl _),List.nil_append]
 generalize (A++Y++D++R).drop (A.length+D.length)=S at *
 have e4:(A++(D++S)).take (A.length+D.length)=A++D:=by
  rw [← List.append_assoc,List.take_append_of_le_length (by simp only [List.length_append]; omega),List.take_of_length_le (by simp only [List.length_append]; omega)]
 have e5:(A++(D++S)).drop (A.length+D.length+Z.length)=R:=by
  rw [← List.append_assoc,List.drop_append,List.drop_of_length_le (by simp only [List.length_append]; omega),List.nil_append,List.length_append,hZ,show A.length+D.length+k - (A.length+D.length)=k by omega,e3]
 rw [e4,e5]
 simp only [List.append_assoc]
theorem delEnt_any(L:List (Led.Entry × Value)) (i m base:Nat) (v:Value) (w:World) (hL:L.length=i+1+m) (hown:w.ownsRow base 36 5 v (i+1+m) (rows entRow L)) (hn:i+1+m≤1000) (h1:∀ y∈L,∀ u∈entRow y,u.oneCell'=true) :
  Calls Tryz.prog 135 #[v,.int .i64 i,.int .i64 ((i:Int)+1)] w (Deleted entRow 5 36 base v (i+m) (L.take i++L.drop (i+1)) w):=by
 obtain⟨iT,hiT,hzT,hsT,hbT⟩:=info_parts infoEnt
 rcases own_cases hown with⟨_,h0,_⟩|⟨g,c,M,rfl,hbg,hgw,hB,hnc,hcm,hM,hMt⟩
 ·omega
 have hcm':c≤9223372036854775807:=hcm
 have hiL:i<L.length:=by omega
 obtain⟨A,hA⟩:∃ A,rows entRow (L.take i)=A:=⟨_,rfl⟩
 obtain⟨Y,hY⟩:∃ Y,entRow L[i]=Y:=⟨_,rfl⟩
 obtain⟨D,hD⟩:∃ D,rows entRow (L.drop (i+1))=D:=⟨_,rfl⟩
 obtain⟨R,hR⟩:∃ R,M.drop ((i+1+m) * 5)=R:=⟨_,rfl⟩
 have hAl:A.length=i * 5:=by rw [← hA,rows_length entRow_len,List.length_take,Nat.min_eq_left (by omega)]
 have hDl:D.length=m * 5:=by rw [← hD,rows_length entRow_len,List.length_drop,hL,Nat.add_sub_cancel_left]
 have hYl:Y.length=5:=by rw [← hY]; rfl
 have hRl:R.length=c * 5 - (i+1+m) * 5:=by rw [← hR,List.length_drop,hM]
 have hMd:M=A++Y++D++R:=by
  have e:rows entRow L=A++Y++D:=by
   rw [← hA,← hY,← hD,List.append_assoc,← rows_cons,← rows_append,← List.drop_eq_getElem_cons hiL,List.take_append_drop]
  rw [← e,← hMt,← hR,List.take_append_drop]
 have hRES:rows entRow (L.take i++L.drop (i+1))=A++D:=by rw [rows_append,hA,hD]
 have hD1:∀ u∈D,u.oneCell'=true:=by
  intro u hu; rw [← hD] at hu; unfold rows at hu; obtain⟨r,hr,hur⟩:=List.mem_flatten.1 hu; obtain⟨y,hy,rfl⟩:=List.mem_map.1 hr; exact h1 y (List.mem_of_mem_drop hy) u hur
 obtain⟨M1,hM1⟩:∃ M1,splice M (i * 5) D=M1:=⟨_,rfl⟩
 have hM1l:M1.length=M.length:=by rw [← hM1]; exact length_splice _ _ _ (by omega)
 have hap:∀ W,Blk W g M 36→∀ (a:Addr) ty sc,(0<m→a=⟨g,(i+1) * 5,none⟩)→(Builtin.append_ #[23,23] ty #[.slice (some ⟨g,0,none⟩) i c,.slice (some a) m sc]).run Tryz.prog W=.ok (.slice (some ⟨g,0,none⟩) (i+m) c) (W.setRow g M1.toArray):=fun W hW a ty sc ha=>by
  have hnews:∀ j u,D[j]?=some u→W.cell? (a.add j)=some u:=fun j u hj=>by
   have hjl:=(List.getElem?_eq_some_iff.1 hj).1; rw [ha (by omega),Addr.add_lit,hW.cell,hMd,List.append_assoc,List.getElem?_append_right (by rw [List.length_append]; omega),List.length_append,show (i+1) * 5+j - (A.length+Y.length)=j by omega,List.getElem?_append_left hjl]
   exact hj
  have:=run_append_room (P:=Tryz.prog) W 23 ty 36 iT Tryz.underlying23 hiT g i c M.toArray hW a m sc D (by rw [hsT,hDl]) hnews hD1 (by omega) (by rw [hsT]; simp; omega)
  rw [this,← hM1,hsT]; unfold splice; simp
 have hzv:∀ w,(zeroValue 36).run Tryz.prog w=.ok (.agg #[.int .i64 0,.string ⟨#[]⟩,.string ⟨#[]⟩,.int .i64 0,.slice none 0 0]) w:=Tryz.zeroValue36
 have fin:∀ W M' Zs,Blk W g M' 36→M'.length=M.length→w.grownBy W (some g)→Zs.length=1 * 5→splice M' ((i+m) * 5) Zs=A++D++Zs++R→Deleted entRow 5 36 base (.slice (some ⟨g,0,none⟩) (i+1+m) c) (i+m) (L.take i++L.drop (i+1)) w (.returned (.slice (some ⟨g,0,none⟩) (i+m) c)) (W.setRow g (splice M' ((i+m) * 5) Zs).toArray):=fun W M' Zs hW hl hg hz he=>by
  refine⟨_,c,rfl,own_of_row hbg hW.setRow (by omega) hcm (by rw [length_splice _ _ _ (by omega),hl,hM]) ?_,grown_setRow hg,rfl⟩; rw [he,hRES,List.append_assoc,List.take_append_of_le_length (by simp only [List.length_append]; omega),List.take_of_length_le (by simp only [List.length_append]; omega)]
 have ha1:=fun a ty sc=>hap _ hB.drew a ty sc
 have hq1:IntKind.i64.wrap ((i:Int)+1)=(i:Int)+1:=by rw [IntKind.wrap_i64]; omega
 have hq2:(0:Int)≤(i:Int)+1:=by omega
 have hq3:(i:Int)+1≤(i:Int)+1+(m:Int):=by omega
 have hq4:((i:Int)+1).toNat=i+1:=by omega
 have hq6:¬ c=i:=by omega
 have hq7:¬ c=i+m:=by omega
 have hq8:¬ ((i:Int)=(i:Int)+1):=by omega
 have hq9:(i:Int)≤(i:Int)+1:=by omega
 have hq10:(i:Int)≤(c:Int):=by omega
 have hq11:(0:Int)≤(m:Int):=by omega
 have hsp:=fun (Z:List Value) (hz:Z.length=5)=>splice_delete (A:=A) (Y:=Y) (D:=D) (R:=R) hYl hz
 rcases Nat.eq_zero_or_pos m with hm0|hm0
 ·subst hm0
  have hD0:D=[]:=List.eq_nil_of_length_eq_zero (by omega); have b0:Blk w.drew g M 36:=hB.drew; obtain⟨Zs,hZl,hcl⟩:=run_clearK (P:=Tryz.prog) (t:=23) (e:=36) (ty:=0) (n:=1) (c:=c - i) (k:=5) (o:=i * 5) Tryz.underlying23 hzv rfl (by intro v hv; simp [Value.cells] at hv; first|(rcases hv with rfl|rfl|rfl|rfl|rfl <;> rfl)|(rcases hv with rfl|rfl|rfl|rfl <;> rfl)|(rcases hv with rfl|rfl|rfl <;> rfl)|(subst hv; rfl)) (by omega) b0 (by omega)
  have hres:=fin w.drew M Zs b0 rfl (grown_drew (grown_refl _ _)) hZl (by
   have:=hsp Zs (by omega); rw [hD0] at this ⊢; simp only [List.append_nil,List.length_nil,Nat.add_zero] at this ⊢; rw [show A.length=i * 5 by omega,splice_nil] at this; rw [hMd,hD0]; simp only [List.append_nil]; exact this)
  have HRES:=Lib.hid hres; clear hres fin hap hMd hRES hD1 ha1 hsp b0; by_cases hci:c=i+1
  ·subst hci
   have e1:i+1 - i=1:=by omega
   rw [e1] at hcl; go_enter Tryz.func135,Tryz.ntmps135
   go_wp2_with fail
   go_region
   go_wp2_with (at_builtin; refine wpList_clearR _ rfl _ 23 rfl _ rfl (hcl) ?_)
   go_ret; exact HRES.out
  ·go_enter Tryz.func135,Tryz.ntmps135
   go_wp2_with fail
   go_region
   go_wp2_with (at_builtin; refine wpList_clearR _ rfl _ 23 rfl _ rfl (hcl) ?_)
   go_ret; exact HRES.out
 ·have hci:¬ c=i+1:=by omega
  have b1:Blk (w.drew.setRow g M1.toArray) g M1 36:=hB.drew.setRow; obtain⟨Zs,hZl,hcl⟩:=run_clearK (P:=Tryz.prog) (t:=23) (e:=36) (ty:=0) (n:=1) (c:=c - (i+m)) (k:=5) (o:=(i+m) * 5) Tryz.underlying23 hzv rfl (by intro v hv; simp [Value.cells] at hv; first|(rcases hv with rfl|rfl|rfl|rfl|rfl <;> rfl)|(rcases hv with rfl|rfl|rfl|rfl <;> rfl)|(rcases hv with rfl|rfl|rfl <;> rfl)|(subst hv; rfl)) (by omega) b1 (by omega)
  have hres:=fin (w.drew.setRow g M1.toArray) M1 Zs b1 hM1l (grown_setRow (grown_drew (grown_refl _ _))) hZl (by
   have:=hsp Zs (by omega); rw [← hMd,show A.length+D.length=(i+m) * 5 by omega,show A.length=i * 5 by omega,hM1] at this; exact this)
  have HRES:=Lib.hid hres; have hcl':(Builtin.clear_ #[23] 0 #[.slice (some ⟨g,(i+m) * 5,none⟩) (i+1+m - (i+m)) (c - (i+m))]).run Tryz.prog (w.drew.setRow g M1.toArray)=.ok (.tuple #[]) ((w.drew.setRow g M1.toArray).setRow g (splice M1 ((i+m) * 5) Zs).toArray):=by
   rw [show i+1+m - (i+m)=1 by omega]; exact hcl
  have ha2:=fun ty sc=>ha1 ⟨g,(i+1) * 5,none⟩ ty sc (fun _=>rfl); clear hres fin hap hMd hRES hD1 ha1 hsp b1; go_enter Tryz.func135,Tryz.ntmps135
  go_wp2_with fail
  go_region_law (refine step_appendR rfl (.tmp 22) (.tmp 25) 23 23 rfl (.slice (some ⟨g,0,none⟩) i c) (.slice (some ⟨g,(i+1) * 5,none⟩) m (c - (i+1))) (by simp [Act.eval,Act.put]) (by simp [Act.eval,Act.put]) (ha2 23 (c - (i+1))) ?_)
  go_wp2_with (at_builtin; refine wpList_clearR _ rfl _ 23 rfl _ rfl (hcl') ?_)
  go_ret; exact HRES.out
theorem delNod_any(L:List (Led.Node)) (i m base:Nat) (v:Value) (w:World) (hL:L.length=i+1+m) (hown:w.ownsRow base 40 5 v (i+1+m) (rows nodeRow L)) (hn:i+1+m≤1000) (h1:∀ y∈L,∀ u∈nodeRow y,u.oneCell'=true) :
  Calls Tryz.prog 145 #[v,.int .i64 i,.int .i64 ((i:Int)+1)] w (Deleted nodeRow 5 40 base v (i+m) (L.take i++L.drop (i+1)) w):=by
 obtain⟨iT,hiT,hzT,hsT,hbT⟩:=info_parts infoNod
 rcases own_cases hown with⟨_,h0,_⟩|⟨g,c,M,rfl,hbg,hgw,hB,hnc,hcm,hM,hMt⟩
 ·omega
 have hcm':c≤9223372036854775807:=hcm
 have hiL:i<L.length:=by omega
 obtain⟨A,hA⟩:∃ A,rows nodeRow (L.take i)=A:=⟨_,rfl⟩
 obtain⟨Y,hY⟩:∃ Y,nodeRow L[i]=Y:=⟨_,rfl⟩
 obtain⟨D,hD⟩:∃ D,rows nodeRow (L.drop (i+1))=D:=⟨_,rfl⟩
 obtain⟨R,hR⟩:∃ R,M.drop ((i+1+m) * 5)=R:=⟨_,rfl⟩
 have hAl:A.length=i * 5:=by rw [← hA,rows_length nodeRow_len,List.length_take,Nat.min_eq_left (by omega)]
 have hDl:D.length=m * 5:=by rw [← hD,rows_length nodeRow_len,List.length_drop,hL,Nat.add_sub_cancel_left]
 have hYl:Y.length=5:=by rw [← hY]; rfl
 have hRl:R.length=c * 5 - (i+1+m) * 5:=by rw [← hR,List.length_drop,hM]
 have hMd:M=A++Y++D++R:=by
  have e:rows nodeRow L=A++Y++D:=by
   rw [← hA,← hY,← hD,List.append_assoc,← rows_cons,← rows_append,← List.drop_eq_getElem_cons hiL,List.take_append_drop]
  rw [← e,← hMt,← hR,List.take_append_drop]
 have hRES:rows nodeRow (L.take i++L.drop (i+1))=A++D:=by rw [rows_append,hA,hD]
 have hD1:∀ u∈D,u.oneCell'=true:=by
  intro u hu; rw [← hD] at hu; unfold rows at hu; obtain⟨r,hr,hur⟩:=List.mem_flatten.1 hu; obtain⟨y,hy,rfl⟩:=List.mem_map.1 hr; exact h1 y (List.mem_of_mem_drop hy) u hur
 obtain⟨M1,hM1⟩:∃ M1,splice M (i * 5) D=M1:=⟨_,rfl⟩
 have hM1l:M1.length=M.length:=by rw [← hM1]; exact length_splice _ _ _ (by omega)
 have hap:∀ W,Blk W g M 40→∀ (a:Addr) ty sc,(0<m→a=⟨g,(i+1) * 5,none⟩)→(Builtin.append_ #[24,24] ty #[.slice (some ⟨g,0,none⟩) i c,.slice (some a) m sc]).run Tryz.prog W=.ok (.slice (some ⟨g,0,none⟩) (i+m) c) (W.setRow g M1.toArray):=fun W hW a ty sc ha=>by
  have hnews:∀ j u,D[j]?=some u→W.cell? (a.add j)=some u:=fun j u hj=>by
   have hjl:=(List.getElem?_eq_some_iff.1 hj).1; rw [ha (by omega),Addr.add_lit,hW.cell,hMd,List.append_assoc,List.getElem?_append_right (by rw [List.length_append]; omega),List.length_append,show (i+1) * 5+j - (A.length+Y.length)=j by omega,List.getElem?_append_left hjl]
   exact hj
  have:=run_append_room (P:=Tryz.prog) W 24 ty 40 iT Tryz.underlying24 hiT g i c M.toArray hW a m sc D (by rw [hsT,hDl]) hnews hD1 (by omega) (by rw [hsT]; simp; omega)
  rw [this,← hM1,hsT]; unfold splice; simp
 have hzv:∀ w,(zeroValue 40).run Tryz.prog w=.ok (.agg #[.string ⟨#[]⟩,.string ⟨#[]⟩,.int .i64 0,.int .i64 0,.string ⟨#[]⟩]) w:=Tryz.zeroValue40
 have fin:∀ W M' Zs,Blk W g M' 40→M'.length=M.length→w.grownBy W (some g)→Zs.length=1 * 5→splice M' ((i+m) * 5) Zs=A++D++Zs++R→Deleted nodeRow 5 40 base (.slice (some ⟨g,0,none⟩) (i+1+m) c) (i+m) (L.take i++L.drop (i+1)) w (.returned (.slice (some ⟨g,0,none⟩) (i+m) c)) (W.setRow g (splice M' ((i+m) * 5) Zs).toArray):=fun W M' Zs hW hl hg hz he=>by
  refine⟨_,c,rfl,own_of_row hbg hW.setRow (by omega) hcm (by rw [length_splice _ _ _ (by omega),hl,hM]) ?_,grown_setRow hg,rfl⟩; rw [he,hRES,List.append_assoc,List.take_append_of_le_length (by simp only [List.length_append]; omega),List.take_of_length_le (by simp only [List.length_append]; omega)]
 have ha1:=fun a ty sc=>hap _ hB.drew a ty sc
 have hq1:IntKind.i64.wrap ((i:Int)+1)=(i:Int)+1:=by rw [IntKind.wrap_i64]; omega
 have hq2:(0:Int)≤(i:Int)+1:=by omega
 have hq3:(i:Int)+1≤(i:Int)+1+(m:Int):=by omega
 have hq4:((i:Int)+1).toNat=i+1:=by omega
 have hq6:¬ c=i:=by omega
 have hq7:¬ c=i+m:=by omega
 have hq8:¬ ((i:Int)=(i:Int)+1):=by omega
 have hq9:(i:Int)≤(i:Int)+1:=by omega
 have hq10:(i:Int)≤(c:Int):=by omega
 have hq11:(0:Int)≤(m:Int):=by omega
 have hsp:=fun (Z:List Value) (hz:Z.length=5)=>splice_delete (A:=A) (Y:=Y) (D:=D) (R:=R) hYl hz
 rcases Nat.eq_zero_or_pos m with hm0|hm0
 ·subst hm0
  have hD0:D=[]:=List.eq_nil_of_length_eq_zero (by omega); have b0:Blk w.drew g M 40:=hB.drew; obtain⟨Zs,hZl,hcl⟩:=run_clearK (P:=Tryz.prog) (t:=24) (e:=40) (ty:=0) (n:=1) (c:=c - i) (k:=5) (o:=i * 5) Tryz.underlying24 hzv rfl (by intro v hv; simp [Value.cells] at hv; first|(rcases hv with rfl|rfl|rfl|rfl|rfl <;> rfl)|(rcases hv with rfl|rfl|rfl|rfl <;> rfl)|(rcases hv with rfl|rfl|rfl <;> rfl)|(subst hv; rfl)) (by omega) b0 (by omega)
  have hres:=fin w.drew M Zs b0 rfl (grown_drew (grown_refl _ _)) hZl (by
   have:=hsp Zs (by omega); rw [hD0] at this ⊢; simp only [List.append_nil,List.length_nil,Nat.add_zero] at this ⊢; rw [show A.length=i * 5 by omega,splice_nil] at this; rw [hMd,hD0]; simp only [List.append_nil]; exact this)
  have HRES:=Lib.hid hres; clear hres fin hap hMd hRES hD1 ha1 hsp b0; by_cases hci:c=i+1
  ·subst hci
   have e1:i+1 - i=1:=by omega
   rw [e1] at hcl; go_enter Tryz.func145,Tryz.ntmps145
   go_wp2_with fail
   go_region
   go_wp2_with (at_builtin; refine wpList_clearR _ rfl _ 24 rfl _ rfl (hcl) ?_)
   go_ret; exact HRES.out
  ·go_enter Tryz.func145,Tryz.ntmps145
   go_wp2_with fail
   go_region
   go_wp2_with (at_builtin; refine wpList_clearR _ rfl _ 24 rfl _ rfl (hcl) ?_)
   go_ret; exact HRES.out
 ·have hci:¬ c=i+1:=by omega
  have b1:Blk (w.drew.setRow g M1.toArray) g M1 40:=hB.drew.setRow; obtain⟨Zs,hZl,hcl⟩:=run_clearK (P:=Tryz.prog) (t:=24) (e:=40) (ty:=0) (n:=1) (c:=c - (i+m)) (k:=5) (o:=(i+m) * 5) Tryz.underlying24 hzv rfl (by intro v hv; simp [Value.cells] at hv; first|(rcases hv with rfl|rfl|rfl|rfl|rfl <;> rfl)|(rcases hv with rfl|rfl|rfl|rfl <;> rfl)|(rcases hv with rfl|rfl|rfl <;> rfl)|(subst hv; rfl)) (by omega) b1 (by omega)
  have hres:=fin (w.drew.setRow g M1.toArray) M1 Zs b1 hM1l (grown_setRow (grown_drew (grown_refl _ _))) hZl (by
   have:=hsp Zs (by omega); rw [← hMd,show A.length+D.length=(i+m) * 5 by omega,show A.length=i * 5 by omega,hM1] at this; exact this)
  have HRES:=Lib.hid hres; have hcl':(Builtin.clear_ #[24] 0 #[.slice (some ⟨g,(i+m) * 5,none⟩) (i+1+m - (i+m)) (c - (i+m))]).run Tryz.prog (w.drew.setRow g M1.toArray)=.ok (.tuple #[]) ((w.drew.setRow g M1.toArray).setRow g (splice M1 ((i+m) * 5) Zs).toArray):=by
   rw [show i+1+m - (i+m)=1 by omega]; exact hcl
  have ha2:=fun ty sc=>ha1 ⟨g,(i+1) * 5,none⟩ ty sc (fun _=>rfl); clear hres fin hap hMd hRES hD1 ha1 hsp b1; go_enter Tryz.func145,Tryz.ntmps145
  go_wp2_with fail
  go_region_law (refine step_appendR rfl (.tmp 22) (.tmp 25) 24 24 rfl (.slice (some ⟨g,0,none⟩) i c) (.slice (some ⟨g,(i+1) * 5,none⟩) m (c - (i+1))) (by simp [Act.eval,Act.put]) (by simp [Act.eval,Act.put]) (ha2 24 (c - (i+1))) ?_)
  go_wp2_with (at_builtin; refine wpList_clearR _ rfl _ 24 rfl _ rfl (hcl') ?_)
  go_ret; exact HRES.out
theorem infoKey:(Tryz.prog.info? 42).map (fun i=>(i.zero,i.size,i.bytes))=some (some (.agg #[.string ⟨#[]⟩,.string ⟨#[]⟩,.int .i64 0,.int .i64 0]),4,48):=by kernel_rfl
theorem delKey_any(L:List (Led.Key)) (i m base:Nat) (v:Value) (w:World) (hL:L.length=i+1+m) (hown:w.ownsRow base 42 4 v (i+1+m) (rows keyRow L)) (hn:i+1+m≤1000) (h1:∀ y∈L,∀ u∈keyRow y,u.oneCell'=true) :
  Calls Tryz.prog 148 #[v,.int .i64 i,.int .i64 ((i:Int)+1)] w (Deleted keyRow 4 42 base v (i+m) (L.take i++L.drop (i+1)) w):=by
 obtain⟨iT,hiT,hzT,hsT,hbT⟩:=info_parts infoKey
 rcases own_cases hown with⟨_,h0,_⟩|⟨g,c,M,rfl,hbg,hgw,hB,hnc,hcm,hM,hMt⟩
 ·omega
 have hcm':c≤9223372036854775807:=hcm
 have hiL:i<L.length:=by omega
 obtain⟨A,hA⟩:∃ A,rows keyRow (L.take i)=A:=⟨_,rfl⟩
 obtain⟨Y,hY⟩:∃ Y,keyRow L[i]=Y:=⟨_,rfl⟩
 obtain⟨D,hD⟩:∃ D,rows keyRow (L.drop (i+1))=D:=⟨_,rfl⟩
 obtain⟨R,hR⟩:∃ R,M.drop ((i+1+m) * 4)=R:=⟨_,rfl⟩
 have hAl:A.length=i * 4:=by rw [← hA,rows_length keyRow_len,List.length_take,Nat.min_eq_left (by omega)]
 have hDl:D.length=m * 4:=by rw [← hD,rows_length keyRow_len,List.length_drop,hL,Nat.add_sub_cancel_left]
 have hYl:Y.length=4:=by rw [← hY]; rfl
 have hRl:R.length=c * 4 - (i+1+m) * 4:=by rw [← hR,List.length_drop,hM]
 have hMd:M=A++Y++D++R:=by
  have e:rows keyRow L=A++Y++D:=by
   rw [← hA,← hY,← hD,List.append_assoc,← rows_cons,← rows_append,← List.drop_eq_getElem_cons hiL,List.take_append_drop]
  rw [← e,← hMt,← hR,List.take_append_drop]
 have hRES:rows keyRow (L.take i++L.drop (i+1))=A++D:=by rw [rows_append,hA,hD]
 have hD1:∀ u∈D,u.oneCell'=true:=by
  intro u hu; rw [← hD] at hu; unfold rows at hu; obtain⟨r,hr,hur⟩:=List.mem_flatten.1 hu; obtain⟨y,hy,rfl⟩:=List.mem_map.1 hr; exact h1 y (List.mem_of_mem_drop hy) u hur
 obtain⟨M1,hM1⟩:∃ M1,splice M (i * 4) D=M1:=⟨_,rfl⟩
 have hM1l:M1.length=M.length:=by rw [← hM1]; exact length_splice _ _ _ (by omega)
 have hap:∀ W,Blk W g M 42→∀ (a:Addr) ty sc,(0<m→a=⟨g,(i+1) * 4,none⟩)→(Builtin.append_ #[27,27] ty #[.slice (some ⟨g,0,none⟩) i c,.slice (some a) m sc]).run Tryz.prog W=.ok (.slice (some ⟨g,0,none⟩) (i+m) c) (W.setRow g M1.toArray):=fun W hW a ty sc ha=>by
  have hnews:∀ j u,D[j]?=some u→W.cell? (a.add j)=some u:=fun j u hj=>by
   have hjl:=(List.getElem?_eq_some_iff.1 hj).1; rw [ha (by omega),Addr.add_lit,hW.cell,hMd,List.append_assoc,List.getElem?_append_right (by rw [List.length_append]; omega),List.length_append,show (i+1) * 4+j - (A.length+Y.length)=j by omega,List.getElem?_append_left hjl]
   exact hj
  have:=run_append_room (P:=Tryz.prog) W 27 ty 42 iT Tryz.underlying27 hiT g i c M.toArray hW a m sc D (by rw [hsT,hDl]) hnews hD1 (by omega) (by rw [hsT]; simp; omega)
  rw [this,← hM1,hsT]; unfold splice; simp
 have hzv:∀ w,(zeroValue 42).run Tryz.prog w=.ok (.agg #[.string ⟨#[]⟩,.string ⟨#[]⟩,.int .i64 0,.int .i64 0]) w:=Tryz.zeroValue42
 have fin:∀ W M' Zs,Blk W g M' 42→M'.length=M.length→w.grownBy W (some g)→Zs.length=1 * 4→splice M' ((i+m) * 4) Zs=A++D++Zs++R→Deleted keyRow 4 42 base (.slice (some ⟨g,0,none⟩) (i+1+m) c) (i+m) (L.take i++L.drop (i+1)) w (.returned (.slice (some ⟨g,0,none⟩) (i+m) c)) (W.setRow g (splice M' ((i+m) * 4) Zs).toArray):=fun W M' Zs hW hl hg hz he=>by
  refine⟨_,c,rfl,own_of_row hbg hW.setRow (by omega) hcm (by rw [length_splice _ _ _ (by omega),hl,hM]) ?_,grown_setRow hg,rfl⟩; rw [he,hRES,List.append_assoc,List.take_append_of_le_length (by simp only [List.length_append]; omega),List.take_of_length_le (by simp only [List.length_append]; omega)]
 have ha1:=fun a ty sc=>hap _ hB.drew a ty sc
 have hq1:IntKind.i64.wrap ((i:Int)+1)=(i:Int)+1:=by rw [IntKind.wrap_i64]; omega
 have hq2:(0:Int)≤(i:Int)+1:=by omega
 have hq3:(i:Int)+1≤(i:Int)+1+(m:Int):=by omega
 have hq4:((i:Int)+1).toNat=i+1:=by omega
 have hq6:¬ c=i:=by omega
 have hq7:¬ c=i+m:=by omega
 have hq8:¬ ((i:Int)=(i:Int)+1):=by omega
 have hq9:(i:Int)≤(i:Int)+1:=by omega
 have hq10:(i:Int)≤(c:Int):=by omega
 have hq11:(0:Int)≤(m:Int):=by omega
 have hsp:=fun (Z:List Value) (hz:Z.length=4)=>splice_delete (A:=A) (Y:=Y) (D:=D) (R:=R) hYl hz
 rcases Nat.eq_zero_or_pos m with hm0|hm0
 ·subst hm0
  have hD0:D=[]:=List.eq_nil_of_length_eq_zero (by omega); have b0:Blk w.drew g M 42:=hB.drew; obtain⟨Zs,hZl,hcl⟩:=run_clearK (P:=Tryz.prog) (t:=27) (e:=42) (ty:=0) (n:=1) (c:=c - i) (k:=4) (o:=i * 4) Tryz.underlying27 hzv rfl (by intro v hv; simp [Value.cells] at hv; first|(rcases hv with rfl|rfl|rfl|rfl|rfl <;> rfl)|(rcases hv with rfl|rfl|rfl|rfl <;> rfl)|(rcases hv with rfl|rfl|rfl <;> rfl)|(subst hv; rfl)) (by omega) b0 (by omega)
  have hres:=fin w.drew M Zs b0 rfl (grown_drew (grown_refl _ _)) hZl (by
   have:=hsp Zs (by omega); rw [hD0] at this ⊢; simp only [List.append_nil,List.length_nil,Nat.add_zero] at this ⊢; rw [show A.length=i * 4 by omega,splice_nil] at this; rw [hMd,hD0]; simp only [List.append_nil]; exact this)
  have HRES:=Lib.hid hres; clear hres fin hap hMd hRES hD1 ha1 hsp b0; by_cases hci:c=i+1
  ·subst hci
   have e1:i+1 - i=1:=by omega
   rw [e1] at hcl; go_enter Tryz.func148,Tryz.ntmps148
   go_wp2_with fail
   go_region
   go_wp2_with (at_builtin; refine wpList_clearR _ rfl _ 27 rfl _ rfl (hcl) ?_)
   go_ret; exact HRES.out
  ·go_enter Tryz.func148,Tryz.ntmps148
   go_wp2_with fail
   go_region
   go_wp2_with (at_builtin; refine wpList_clearR _ rfl _ 27 rfl _ rfl (hcl) ?_)
   go_ret; exact HRES.out
 ·have hci:¬ c=i+1:=by omega
  have b1:Blk (w.drew.setRow g M1.toArray) g M1 42:=hB.drew.setRow; obtain⟨Zs,hZl,hcl⟩:=run_clearK (P:=Tryz.prog) (t:=27) (e:=42) (ty:=0) (n:=1) (c:=c - (i+m)) (k:=4) (o:=(i+m) * 4) Tryz.underlying27 hzv rfl (by intro v hv; simp [Value.cells] at hv; first|(rcases hv with rfl|rfl|rfl|rfl|rfl <;> rfl)|(rcases hv with rfl|rfl|rfl|rfl <;> rfl)|(rcases hv with rfl|rfl|rfl <;> rfl)|(subst hv; rfl)) (by omega) b1 (by omega)
  have hres:=fin (w.drew.setRow g M1.toArray) M1 Zs b1 hM1l (grown_setRow (grown_drew (grown_refl _ _))) hZl (by
   have:=hsp Zs (by omega); rw [← hMd,show A.length+D.length=(i+m) * 4 by omega,show A.length=i * 4 by omega,hM1] at this; exact this)
  have HRES:=Lib.hid hres; have hcl':(Builtin.clear_ #[27] 0 #[.slice (some ⟨g,(i+m) * 4,none⟩) (i+1+m - (i+m)) (c - (i+m))]).run Tryz.prog (w.drew.setRow g M1.toArray)=.ok (.tuple #[]) ((w.drew.setRow g M1.toArray).setRow g (splice M1 ((i+m) * 4) Zs).toArray):=by
   rw [show i+1+m - (i+m)=1 by omega]; exact hcl
  have ha2:=fun ty sc=>ha1 ⟨g,(i+1) * 4,none⟩ ty sc (fun _=>rfl); clear hres fin hap hMd hRES hD1 ha1 hsp b1; go_enter Tryz.func148,Tryz.ntmps148
  go_wp2_with fail
  go_region_law (refine step_appendR rfl (.tmp 22) (.tmp 25) 27 27 rfl (.slice (some ⟨g,0,none⟩) i c) (.slice (some ⟨g,(i+1) * 4,none⟩) m (c - (i+1))) (by simp [Act.eval,Act.put]) (by simp [Act.eval,Act.put]) (ha2 27 (c - (i+1))) ?_)
  go_wp2_with (at_builtin; refine wpList_clearR _ rfl _ 27 rfl _ rfl (hcl') ?_)
  go_ret; exact HRES.out
theorem delBun_any(L:List (Led.Bundle × Value)) (i m base:Nat) (v:Value) (w:World) (hL:L.length=i+1+m) (hown:w.ownsRow base 45 3 v (i+1+m) (rows bunRow L)) (hn:i+1+m≤1000) (h1:∀ y∈L,∀ u∈bunRow y,u.oneCell'=true) :
  Calls Tryz.prog 153 #[v,.int .i64 i,.int .i64 ((i:Int)+1)] w (Deleted bunRow 3 45 base v (i+m) (L.take i++L.drop (i+1)) w):=by
 obtain⟨iT,hiT,hzT,hsT,hbT⟩:=info_parts infoBun
 rcases own_cases hown with⟨_,h0,_⟩|⟨g,c,M,rfl,hbg,hgw,hB,hnc,hcm,hM,hMt⟩
 ·omega
 have hcm':c≤9223372036854775807:=hcm
 have hiL:i<L.length:=by omega
 obtain⟨A,hA⟩:∃ A,rows bunRow (L.take i)=A:=⟨_,rfl⟩
 obtain⟨Y,hY⟩:∃ Y,bunRow L[i]=Y:=⟨_,rfl⟩
 obtain⟨D,hD⟩:∃ D,rows bunRow (L.drop (i+1))=D:=⟨_,rfl⟩
 obtain⟨R,hR⟩:∃ R,M.drop ((i+1+m) * 3)=R:=⟨_,rfl⟩
 have hAl:A.length=i * 3:=by rw [← hA,rows_length bunRow_len,List.length_take,Nat.min_eq_left (by omega)]
 have hDl:D.length=m * 3:=by rw [← hD,rows_length bunRow_len,List.length_drop,hL,Nat.add_sub_cancel_left]
 have hYl:Y.length=3:=by rw [← hY]; rfl
 have hRl:R.length=c * 3 - (i+1+m) * 3:=by rw [← hR,List.length_drop,hM]
 have hMd:M=A++Y++D++R:=by
  have e:rows bunRow L=A++Y++D:=by
   rw [← hA,← hY,← hD,List.append_assoc,← rows_cons,← rows_append,← List.drop_eq_getElem_cons hiL,List.take_append_drop]
  rw [← e,← hMt,← hR,List.take_append_drop]
 have hRES:rows bunRow (L.take i++L.drop (i+1))=A++D:=by rw [rows_append,hA,hD]
 have hD1:∀ u∈D,u.oneCell'=true:=by
  intro u hu; rw [← hD] at hu; unfold rows at hu; obtain⟨r,hr,hur⟩:=List.mem_flatten.1 hu; obtain⟨y,hy,rfl⟩:=List.mem_map.1 hr; exact h1 y (List.mem_of_mem_drop hy) u hur
 obtain⟨M1,hM1⟩:∃ M1,splice M (i * 3) D=M1:=⟨_,rfl⟩
 have hM1l:M1.length=M.length:=by rw [← hM1]; exact length_splice _ _ _ (by omega)
 have hap:∀ W,Blk W g M 45→∀ (a:Addr) ty sc,(0<m→a=⟨g,(i+1) * 3,none⟩)→(Builtin.append_ #[28,28] ty #[.slice (some ⟨g,0,none⟩) i c,.slice (some a) m sc]).run Tryz.prog W=.ok (.slice (some ⟨g,0,none⟩) (i+m) c) (W.setRow g M1.toArray):=fun W hW a ty sc ha=>by
  have hnews:∀ j u,D[j]?=some u→W.cell? (a.add j)=some u:=fun j u hj=>by
   have hjl:=(List.getElem?_eq_some_iff.1 hj).1; rw [ha (by omega),Addr.add_lit,hW.cell,hMd,List.append_assoc,List.getElem?_append_right (by rw [List.length_append]; omega),List.length_append,show (i+1) * 3+j - (A.length+Y.length)=j by omega,List.getElem?_append_left hjl]
   exact hj
  have:=run_append_room (P:=Tryz.prog) W 28 ty 45 iT Tryz.underlying28 hiT g i c M.toArray hW a m sc D (by rw [hsT,hDl]) hnews hD1 (by omega) (by rw [hsT]; simp; omega)
  rw [this,← hM1,hsT]; unfold splice; simp
 have hzv:∀ w,(zeroValue 45).run Tryz.prog w=.ok (.agg #[.string ⟨#[]⟩,.int .i64 0,.slice none 0 0]) w:=Tryz.zeroValue45
 have fin:∀ W M' Zs,Blk W g M' 45→M'.length=M.length→w.grownBy W (some g)→Zs.length=1 * 3→splice M' ((i+m) * 3) Zs=A++D++Zs++R→Deleted bunRow 3 45 base (.slice (some ⟨g,0,none⟩) (i+1+m) c) (i+m) (L.take i++L.drop (i+1)) w (.returned (.slice (some ⟨g,0,none⟩) (i+m) c)) (W.setRow g (splice M' ((i+m) * 3) Zs).toArray):=fun W M' Zs hW hl hg hz he=>by
  refine⟨_,c,rfl,own_of_row hbg hW.setRow (by omega) hcm (by rw [length_splice _ _ _ (by omega),hl,hM]) ?_,grown_setRow hg,rfl⟩; rw [he,hRES,List.append_assoc,List.take_append_of_le_length (by simp only [List.length_append]; omega),List.take_of_length_le (by simp only [List.length_append]; omega)]
 have ha1:=fun a ty sc=>hap _ hB.drew a ty sc
 have hq1:IntKind.i64.wrap ((i:Int)+1)=(i:Int)+1:=by rw [IntKind.wrap_i64]; omega
 have hq2:(0:Int)≤(i:Int)+1:=by omega
 have hq3:(i:Int)+1≤(i:Int)+1+(m:Int):=by omega
 have hq4:((i:Int)+1).toNat=i+1:=by omega
 have hq6:¬ c=i:=by omega
 have hq7:¬ c=i+m:=by omega
 have hq8:¬ ((i:Int)=(i:Int)+1):=by omega
 have hq9:(i:Int)≤(i:Int)+1:=by omega
 have hq10:(i:Int)≤(c:Int):=by omega
 have hq11:(0:Int)≤(m:Int):=by omega
 have hsp:=fun (Z:List Value) (hz:Z.length=3)=>splice_delete (A:=A) (Y:=Y) (D:=D) (R:=R) hYl hz
 rcases Nat.eq_zero_or_pos m with hm0|hm0
 ·subst hm0
  have hD0:D=[]:=List.eq_nil_of_length_eq_zero (by omega); have b0:Blk w.drew g M 45:=hB.drew; obtain⟨Zs,hZl,hcl⟩:=run_clearK (P:=Tryz.prog) (t:=28) (e:=45) (ty:=0) (n:=1) (c:=c - i) (k:=3) (o:=i * 3) Tryz.underlying28 hzv rfl (by intro v hv; simp [Value.cells] at hv; first|(rcases hv with rfl|rfl|rfl|rfl|rfl <;> rfl)|(rcases hv with rfl|rfl|rfl|rfl <;> rfl)|(rcases hv with rfl|rfl|rfl <;> rfl)|(subst hv; rfl)) (by omega) b0 (by omega)
  have hres:=fin w.drew M Zs b0 rfl (grown_drew (grown_refl _ _)) hZl (by
   have:=hsp Zs (by omega); rw [hD0] at this ⊢; simp only [List.append_nil,List.length_nil,Nat.add_zero] at this ⊢; rw [show A.length=i * 3 by omega,splice_nil] at this; rw [hMd,hD0]; simp only [List.append_nil]; exact this)
  have HRES:=Lib.hid hres; clear hres fin hap hMd hRES hD1 ha1 hsp b0; by_cases hci:c=i+1
  ·subst hci
   have e1:i+1 - i=1:=by omega
   rw [e1] at hcl; go_enter Tryz.func153,Tryz.ntmps153
   go_wp2_with fail
   go_region
   go_wp2_with (at_builtin; refine wpList_clearR _ rfl _ 28 rfl _ rfl (hcl) ?_)
   go_ret; exact HRES.out
  ·go_enter Tryz.func153,Tryz.ntmps153
   go_wp2_with fail
   go_region
   go_wp2_with (at_builtin; refine wpList_clearR _ rfl _ 28 rfl _ rfl (hcl) ?_)
   go_ret; exact HRES.out
 ·have hci:¬ c=i+1:=by omega
  have b1:Blk (w.drew.setRow g M1.toArray) g M1 45:=hB.drew.setRow; obtain⟨Zs,hZl,hcl⟩:=run_clearK (P:=Tryz.prog) (t:=28) (e:=45) (ty:=0) (n:=1) (c:=c - (i+m)) (k:=3) (o:=(i+m) * 3) Tryz.underlying28 hzv rfl (by intro v hv; simp [Value.cells] at hv; first|(rcases hv with rfl|rfl|rfl|rfl|rfl <;> rfl)|(rcases hv with rfl|rfl|rfl|rfl <;> rfl)|(rcases hv with rfl|rfl|rfl <;> rfl)|(subst hv; rfl)) (by omega) b1 (by omega)
  have hres:=fin (w.drew.setRow g M1.toArray) M1 Zs b1 hM1l (grown_setRow (grown_drew (grown_refl _ _))) hZl (by
   have:=hsp Zs (by omega); rw [← hMd,show A.length+D.length=(i+m) * 3 by omega,show A.length=i * 3 by omega,hM1] at this; exact this)
  have HRES:=Lib.hid hres; have hcl':(Builtin.clear_ #[28] 0 #[.slice (some ⟨g,(i+m) * 3,none⟩) (i+1+m - (i+m)) (c - (i+m))]).run Tryz.prog (w.drew.setRow g M1.toArray)=.ok (.tuple #[]) ((w.drew.setRow g M1.toArray).setRow g (splice M1 ((i+m) * 3) Zs).toArray):=by
   rw [show i+1+m - (i+m)=1 by omega]; exact hcl
  have ha2:=fun ty sc=>ha1 ⟨g,(i+1) * 3,none⟩ ty sc (fun _=>rfl); clear hres fin hap hMd hRES hD1 ha1 hsp b1; go_enter Tryz.func153,Tryz.ntmps153
  go_wp2_with fail
  go_region_law (refine step_appendR rfl (.tmp 22) (.tmp 25) 28 28 rfl (.slice (some ⟨g,0,none⟩) i c) (.slice (some ⟨g,(i+1) * 3,none⟩) m (c - (i+1))) (by simp [Act.eval,Act.put]) (by simp [Act.eval,Act.put]) (ha2 28 (c - (i+1))) ?_)
  go_wp2_with (at_builtin; refine wpList_clearR _ rfl _ 28 rfl _ rfl (hcl') ?_)
  go_ret; exact HRES.out
theorem delStr_any(L:List (Txt)) (i m base:Nat) (v:Value) (w:World) (hL:L.length=i+1+m) (hown:w.ownsRow base 9 1 v (i+1+m) (rows strRow L)) (hn:i+1+m≤1000) (h1:∀ y∈L,∀ u∈strRow y,u.oneCell'=true) :
  Calls Tryz.prog 144 #[v,.int .i64 i,.int .i64 ((i:Int)+1)] w (Deleted strRow 1 9 base v (i+m) (L.take i++L.drop (i+1)) w):=by
 obtain⟨iT,hiT,hzT,hsT,hbT⟩:=info_parts infoStr
 rcases own_cases hown with⟨_,h0,_⟩|⟨g,c,M,rfl,hbg,hgw,hB,hnc,hcm,hM,hMt⟩
 ·omega
 have hcm':c≤9223372036854775807:=hcm
 have hiL:i<L.length:=by omega
 obtain⟨A,hA⟩:∃ A,rows strRow (L.take i)=A:=⟨_,rfl⟩
 obtain⟨Y,hY⟩:∃ Y,strRow L[i]=Y:=⟨_,rfl⟩
 obtain⟨D,hD⟩:∃ D,rows strRow (L.drop (i+1))=D:=⟨_,rfl⟩
 obtain⟨R,hR⟩:∃ R,M.drop ((i+1+m) * 1)=R:=⟨_,rfl⟩
 have hAl:A.length=i * 1:=by rw [← hA,rows_length strRow_len,List.length_take,Nat.min_eq_left (by omega)]
 have hDl:D.length=m * 1:=by rw [← hD,rows_length strRow_len,List.length_drop,hL,Nat.add_sub_cancel_left]
 have hYl:Y.length=1:=by rw [← hY]; rfl
 have hRl:R.length=c * 1 - (i+1+m) * 1:=by rw [← hR,List.length_drop,hM]
 have hMd:M=A++Y++D++R:=by
  have e:rows strRow L=A++Y++D:=by
   rw [← hA,← hY,← hD,List.append_assoc,← rows_cons,← rows_append,← List.drop_eq_getElem_cons hiL,List.take_append_drop]
  rw [← e,← hMt,← hR,List.take_append_drop]
 have hRES:rows strRow (L.take i++L.drop (i+1))=A++D:=by rw [rows_append,hA,hD]
 have hD1:∀ u∈D,u.oneCell'=true:=by
  intro u hu; rw [← hD] at hu; unfold rows at hu; obtain⟨r,hr,hur⟩:=List.mem_flatten.1 hu; obtain⟨y,hy,rfl⟩:=List.mem_map.1 hr; exact h1 y (List.mem_of_mem_drop hy) u hur
 obtain⟨M1,hM1⟩:∃ M1,splice M (i) D=M1:=⟨_,rfl⟩
 have hM1l:M1.length=M.length:=by rw [← hM1]; exact length_splice _ _ _ (by omega)
 have hap:∀ W,Blk W g M 9→∀ (a:Addr) ty sc,(0<m→a=⟨g,i+1,none⟩)→(Builtin.append_ #[25,25] ty #[.slice (some ⟨g,0,none⟩) i c,.slice (some a) m sc]).run Tryz.prog W=.ok (.slice (some ⟨g,0,none⟩) (i+m) c) (W.setRow g M1.toArray):=fun W hW a ty sc ha=>by
  have hnews:∀ j u,D[j]?=some u→W.cell? (a.add j)=some u:=fun j u hj=>by
   have hjl:=(List.getElem?_eq_some_iff.1 hj).1; rw [ha (by omega),Addr.add_lit,hW.cell,hMd,List.append_assoc,List.getElem?_append_right (by rw [List.length_append]; omega),List.length_append,show i+1+j - (A.length+Y.length)=j by omega,List.getElem?_append_left hjl]
   exact hj
  have:=run_append_room (P:=Tryz.prog) W 25 ty 9 iT Tryz.underlying25 hiT g i c M.toArray hW a m sc D (by rw [hsT,hDl]) hnews hD1 (by omega) (by rw [hsT]; simp; omega)
  rw [this,← hM1,hsT]; unfold splice; simp
 have hzv:∀ w,(zeroValue 9).run Tryz.prog w=.ok (.string ⟨#[]⟩) w:=Tryz.zeroValue9
 have fin:∀ W M' Zs,Blk W g M' 9→M'.length=M.length→w.grownBy W (some g)→Zs.length=1 * 1→splice M' (i+m) Zs=A++D++Zs++R→Deleted strRow 1 9 base (.slice (some ⟨g,0,none⟩) (i+1+m) c) (i+m) (L.take i++L.drop (i+1)) w (.returned (.slice (some ⟨g,0,none⟩) (i+m) c)) (W.setRow g (splice M' (i+m) Zs).toArray):=fun W M' Zs hW hl hg hz he=>by
  refine⟨_,c,rfl,own_of_row hbg hW.setRow (by omega) hcm (by rw [length_splice _ _ _ (by omega),hl,hM]) ?_,grown_setRow hg,rfl⟩; rw [he,hRES,List.append_assoc,List.take_append_of_le_length (by simp only [List.length_append]; omega),List.take_of_length_le (by simp only [List.length_append]; omega)]
 have ha1:=fun a ty sc=>hap _ hB.drew a ty sc
 have hq1:IntKind.i64.wrap ((i:Int)+1)=(i:Int)+1:=by rw [IntKind.wrap_i64]; omega
 have hq2:(0:Int)≤(i:Int)+1:=by omega
 have hq3:(i:Int)+1≤(i:Int)+1+(m:Int):=by omega
 have hq4:((i:Int)+1).toNat=i+1:=by omega
 have hq6:¬ c=i:=by omega
 have hq7:¬ c=i+m:=by omega
 have hq8:¬ ((i:Int)=(i:Int)+1):=by omega
 have hq9:(i:Int)≤(i:Int)+1:=by omega
 have hq10:(i:Int)≤(c:Int):=by omega
 have hq11:(0:Int)≤(m:Int):=by omega
 have hsp:=fun (Z:List Value) (hz:Z.length=1)=>splice_delete (A:=A) (Y:=Y) (D:=D) (R:=R) hYl hz
 rcases Nat.eq_zero_or_pos m with hm0|hm0
 ·subst hm0
  have hD0:D=[]:=List.eq_nil_of_length_eq_zero (by omega); have b0:Blk w.drew g M 9:=hB.drew; obtain⟨Zs,hZl,hcl⟩:=run_clearK (P:=Tryz.prog) (t:=25) (e:=9) (ty:=0) (n:=1) (c:=c - i) (k:=1) (o:=i) Tryz.underlying25 hzv rfl (by intro v hv; simp [Value.cells] at hv; first|(rcases hv with rfl|rfl|rfl|rfl|rfl <;> rfl)|(rcases hv with rfl|rfl|rfl|rfl <;> rfl)|(rcases hv with rfl|rfl|rfl <;> rfl)|(subst hv; rfl)) (by omega) b0 (by omega)
  have hres:=fin w.drew M Zs b0 rfl (grown_drew (grown_refl _ _)) hZl (by
   have:=hsp Zs (by omega); rw [hD0] at this ⊢; simp only [List.append_nil,List.length_nil,Nat.add_zero] at this ⊢; rw [show A.length=i by omega,splice_nil] at this; rw [hMd,hD0]; simp only [List.append_nil]; exact this)
  have HRES:=Lib.hid hres; clear hres fin hap hMd hRES hD1 ha1 hsp b0; by_cases hci:c=i+1
  ·subst hci
   have e1:i+1 - i=1:=by omega
   rw [e1] at hcl; go_enter Tryz.func144,Tryz.ntmps144
   go_wp2_with fail
   go_region
   go_wp2_with (at_builtin; refine wpList_clearR _ rfl _ 25 rfl _ rfl (hcl) ?_)
   go_ret; exact HRES.out
  ·go_enter Tryz.func144,Tryz.ntmps144
   go_wp2_with fail
   go_region
   go_wp2_with (at_builtin; refine wpList_clearR _ rfl _ 25 rfl _ rfl (hcl) ?_)
   go_ret; exact HRES.out
 ·have hci:¬ c=i+1:=by omega
  have b1:Blk (w.drew.setRow g M1.toArray) g M1 9:=hB.drew.setRow; obtain⟨Zs,hZl,hcl⟩:=run_clearK (P:=Tryz.prog) (t:=25) (e:=9) (ty:=0) (n:=1) (c:=c - (i+m)) (k:=1) (o:=i+m) Tryz.underlying25 hzv rfl (by intro v hv; simp [Value.cells] at hv; first|(rcases hv with rfl|rfl|rfl|rfl|rfl <;> rfl)|(rcases hv with rfl|rfl|rfl|rfl <;> rfl)|(rcases hv with rfl|rfl|rfl <;> rfl)|(subst hv; rfl)) (by omega) b1 (by omega)
  have hres:=fin (w.drew.setRow g M1.toArray) M1 Zs b1 hM1l (grown_setRow (grown_drew (grown_refl _ _))) hZl (by
   have:=hsp Zs (by omega); rw [← hMd,show A.length+D.length=i+m by omega,show A.length=i by omega,hM1] at this; exact this)
  have HRES:=Lib.hid hres; have hcl':(Builtin.clear_ #[25] 0 #[.slice (some ⟨g,i+m,none⟩) (i+1+m - (i+m)) (c - (i+m))]).run Tryz.prog (w.drew.setRow g M1.toArray)=.ok (.tuple #[]) ((w.drew.setRow g M1.toArray).setRow g (splice M1 (i+m) Zs).toArray):=by
   rw [show i+1+m - (i+m)=1 by omega]; exact hcl
  have ha2:=fun ty sc=>ha1 ⟨g,i+1,none⟩ ty sc (fun _=>rfl); clear hres fin hap hMd hRES hD1 ha1 hsp b1; go_enter Tryz.func144,Tryz.ntmps144
  go_wp2_with fail
  go_region_law (refine step_appendR rfl (.tmp 22) (.tmp 25) 25 25 rfl (.slice (some ⟨g,0,none⟩) i c) (.slice (some ⟨g,i+1,none⟩) m (c - (i+1))) (by simp [Act.eval,Act.put]) (by simp [Act.eval,Act.put]) (ha2 25 (c - (i+1))) ?_)
  go_wp2_with (at_builtin; refine wpList_clearR _ rfl _ 25 rfl _ rfl (hcl') ?_)
  go_ret; exact HRES.out
end
section
open Go.RowKit Mem Led
theorem idxEnt_any(g:Nat) (lb:Array Value) (eg:∀ args w,(callFunc g args).run Tryz.prog w=.ok (.enter g args) w) (p:Led.Entry × Value→Bool) (A:Option Addr) (n c:Nat) (L:List (Led.Entry × Value)) (w:World) (h:Es entRow 5 w A n L) (hn:n≤9223372036854775807)
  (hp:∀ (W:World) (x:Led.Entry × Value),x∈L→Below w.heap.size w W→Calls Tryz.prog g (#[.agg (entRow x).toArray]++lb) W fun e w'=>e=.returned (.bool (p x))∧Below W.heap.size W w') :
  Calls Tryz.prog 134 #[.slice A n c,.func (.func g) #[] lb] w fun e w'=>e=.returned (.int .i64 (idxOf p L))∧Below w.heap.size w w':=by
 have hlen:=h.len entRow_len (by decide)
 have HLEN:=Lib.hid hlen
 obtain⟨r,HR⟩:∃ r,Hid (idxOf p L=r):=⟨_,Lib.hid rfl⟩
 rw [HR.out]
 have HP:=Lib.hid hp
 clear hp
 go_enter Tryz.func134,Tryz.ntmps134
 go_wp2
 go_loopw [8,5] (fun i _ wr=>∃ k:Nat,k≤n∧i=.int .i64 k∧Hid (∀ x∈L.take k,p x=false)∧Below w.heap.size w wr) (fun i _ _=>n - (intOf i).toNat)
 case atStart=>exact⟨0,by omega,rfl,Lib.hid (by simp),Below.refl _ _⟩
 case round =>
  obtain⟨k,hk,rfl,HT,hb⟩:=hrel; by_cases hlt:k<n
  ·have hkL:k<L.length:=by rw [hlen]; exact hlt
   obtain⟨b,off,rfl,hbb,hld⟩:=ldEnt_es (h.below hb) hkL; have hl:=hld wr (Below.refl _ _); clear hld; have hc:=HP.out wr L[k] (List.getElem_mem hkL) hb; have hi:(k:Int)<(n:Int):=by omega
   cases hq:p L[k]
   ·have HN:=Lib.hid (take_more hkL HT.out hq)
    rw [hq] at hc; generalize (entRow L[k]).toArray=X at *; clear hq; go_wp2_with fail
    refine hc.mono ?_; rintro e w1 ⟨rfl,hb1⟩; go_wp2; go_roundw
    case rel=>exact⟨k+1,by omega,by go_num,HN,hb.trans (hb1.mono hb.size)⟩
    case measure=>simp [intOf]; omega
   ·have HI:=Lib.hid (idx_some hkL HT.out hq)
    rw [hq] at hc; generalize (entRow L[k]).toArray=X at *; clear hq; go_wp2_with fail
    refine hc.mono ?_; rintro e w1 ⟨rfl,hb1⟩; go_wp2; go_ret; exact⟨by rw [← HR.out,HI.out]; rfl,hb.trans (hb1.mono hb.size)⟩
  ·have hkn:k=n:=by omega
   have HI:=Lib.hid (idx_none (p:=p) (L:=L) (by have:=HT.out; rwa [hkn,List.take_of_length_le (by rw [HLEN.out]; exact Nat.le_refl _)] at this))
   have hi:¬ ((k:Int)<(n:Int)):=by omega
   go_wp2; go_ret; exact⟨by rw [← HR.out,HI.out]; rfl,hb⟩
theorem idxNod_any(g:Nat) (lb:Array Value) (eg:∀ args w,(callFunc g args).run Tryz.prog w=.ok (.enter g args) w) (p:Led.Node→Bool) (A:Option Addr) (n c:Nat) (L:List (Led.Node)) (w:World) (h:Es nodeRow 5 w A n L) (hn:n≤9223372036854775807)
  (hp:∀ (W:World) (x:Led.Node),x∈L→Below w.heap.size w W→Calls Tryz.prog g (#[.agg (nodeRow x).toArray]++lb) W fun e w'=>e=.returned (.bool (p x))∧Below W.heap.size W w') :
  Calls Tryz.prog 114 #[.slice A n c,.func (.func g) #[] lb] w fun e w'=>e=.returned (.int .i64 (idxOf p L))∧Below w.heap.size w w':=by
 have hlen:=h.len nodeRow_len (by decide)
 have HLEN:=Lib.hid hlen
 obtain⟨r,HR⟩:∃ r,Hid (idxOf p L=r):=⟨_,Lib.hid rfl⟩
 rw [HR.out]
 have HP:=Lib.hid hp
 clear hp
 go_enter Tryz.func114,Tryz.ntmps114
 go_wp2
 go_loopw [8,5] (fun i _ wr=>∃ k:Nat,k≤n∧i=.int .i64 k∧Hid (∀ x∈L.take k,p x=false)∧Below w.heap.size w wr) (fun i _ _=>n - (intOf i).toNat)
 case atStart=>exact⟨0,by omega,rfl,Lib.hid (by simp),Below.refl _ _⟩
 case round =>
  obtain⟨k,hk,rfl,HT,hb⟩:=hrel; by_cases hlt:k<n
  ·have hkL:k<L.length:=by rw [hlen]; exact hlt
   obtain⟨b,off,rfl,hbb,hld⟩:=ldNod_es (h.below hb) hkL; have hl:=hld wr (Below.refl _ _); clear hld; have hc:=HP.out wr L[k] (List.getElem_mem hkL) hb; have hi:(k:Int)<(n:Int):=by omega
   cases hq:p L[k]
   ·have HN:=Lib.hid (take_more hkL HT.out hq)
    rw [hq] at hc; generalize (nodeRow L[k]).toArray=X at *; clear hq; go_wp2_with fail
    refine hc.mono ?_; rintro e w1 ⟨rfl,hb1⟩; go_wp2; go_roundw
    case rel=>exact⟨k+1,by omega,by go_num,HN,hb.trans (hb1.mono hb.size)⟩
    case measure=>simp [intOf]; omega
   ·have HI:=Lib.hid (idx_some hkL HT.out hq)
    rw [hq] at hc; generalize (nodeRow L[k]).toArray=X at *; clear hq; go_wp2_with fail
    refine hc.mono ?_; rintro e w1 ⟨rfl,hb1⟩; go_wp2; go_ret; exact⟨by rw [← HR.out,HI.out]; rfl,hb.trans (hb1.mono hb.size)⟩
  ·have hkn:k=n:=by omega
   have HI:=Lib.hid (idx_none (p:=p) (L:=L) (by have:=HT.out; rwa [hkn,List.take_of_length_le (by rw [HLEN.out]; exact Nat.le_refl _)] at this))
   have hi:¬ ((k:Int)<(n:Int)):=by omega
   go_wp2; go_ret; exact⟨by rw [← HR.out,HI.out]; rfl,hb⟩
theorem idxJoi_any(g:Nat) (lb:Array Value) (eg:∀ args w,(callFunc g args).run Tryz.prog w=.ok (.enter g args) w) (p:Led.Join→Bool) (A:Option Addr) (n c:Nat) (L:List (Led.Join)) (w:World) (h:Es joinRow 4 w A n L) (hn:n≤9223372036854775807)
  (hp:∀ (W:World) (x:Led.Join),x∈L→Below w.heap.size w W→Calls Tryz.prog g (#[.agg (joinRow x).toArray]++lb) W fun e w'=>e=.returned (.bool (p x))∧Below W.heap.size W w') :
  Calls Tryz.prog 87 #[.slice A n c,.func (.func g) #[] lb] w fun e w'=>e=.returned (.int .i64 (idxOf p L))∧Below w.heap.size w w':=by
 have hlen:=h.len joinRow_len (by decide)
 have HLEN:=Lib.hid hlen
 obtain⟨r,HR⟩:∃ r,Hid (idxOf p L=r):=⟨_,Lib.hid rfl⟩
 rw [HR.out]
 have HP:=Lib.hid hp
 clear hp
 go_enter Tryz.func87,Tryz.ntmps87
 go_wp2
 go_loopw [8,5] (fun i _ wr=>∃ k:Nat,k≤n∧i=.int .i64 k∧Hid (∀ x∈L.take k,p x=false)∧Below w.heap.size w wr) (fun i _ _=>n - (intOf i).toNat)
 case atStart=>exact⟨0,by omega,rfl,Lib.hid (by simp),Below.refl _ _⟩
 case round =>
  obtain⟨k,hk,rfl,HT,hb⟩:=hrel; by_cases hlt:k<n
  ·have hkL:k<L.length:=by rw [hlen]; exact hlt
   obtain⟨b,off,rfl,hbb,hld⟩:=ldJoi_es (h.below hb) hkL; have hl:=hld wr (Below.refl _ _); clear hld; have hc:=HP.out wr L[k] (List.getElem_mem hkL) hb; have hi:(k:Int)<(n:Int):=by omega
   cases hq:p L[k]
   ·have HN:=Lib.hid (take_more hkL HT.out hq)
    rw [hq] at hc; generalize (joinRow L[k]).toArray=X at *; clear hq; go_wp2_with fail
    refine hc.mono ?_; rintro e w1 ⟨rfl,hb1⟩; go_wp2; go_roundw
    case rel=>exact⟨k+1,by omega,by go_num,HN,hb.trans (hb1.mono hb.size)⟩
    case measure=>simp [intOf]; omega
   ·have HI:=Lib.hid (idx_some hkL HT.out hq)
    rw [hq] at hc; generalize (joinRow L[k]).toArray=X at *; clear hq; go_wp2_with fail
    refine hc.mono ?_; rintro e w1 ⟨rfl,hb1⟩; go_wp2; go_ret; exact⟨by rw [← HR.out,HI.out]; rfl,hb.trans (hb1.mono hb.size)⟩
  ·have hkn:k=n:=by omega
   have HI:=Lib.hid (idx_none (p:=p) (L:=L) (by have:=HT.out; rwa [hkn,List.take_of_length_le (by rw [HLEN.out]; exact Nat.le_refl _)] at this))
   have hi:¬ ((k:Int)<(n:Int)):=by omega
   go_wp2; go_ret; exact⟨by rw [← HR.out,HI.out]; rfl,hb⟩
theorem idxKey_any(g:Nat) (lb:Array Value) (eg:∀ args w,(callFunc g args).run Tryz.prog w=.ok (.enter g args) w) (p:Led.Key→Bool) (A:Option Addr) (n c:Nat) (L:List (Led.Key)) (w:World) (h:Es keyRow 4 w A n L) (hn:n≤9223372036854775807)
  (hp:∀ (W:World) (x:Led.Key),x∈L→Below w.heap.size w W→Calls Tryz.prog g (#[.agg (keyRow x).toArray]++lb) W fun e w'=>e=.returned (.bool (p x))∧Below W.heap.size W w') :
  Calls Tryz.prog 146 #[.slice A n c,.func (.func g) #[] lb] w fun e w'=>e=.returned (.int .i64 (idxOf p L))∧Below w.heap.size w w':=by
 have hlen:=h.len keyRow_len (by decide)
 have HLEN:=Lib.hid hlen
 obtain⟨r,HR⟩:∃ r,Hid (idxOf p L=r):=⟨_,Lib.hid rfl⟩
 rw [HR.out]
 have HP:=Lib.hid hp
 clear hp
 go_enter Tryz.func146,Tryz.ntmps146
 go_wp2
 go_loopw [8,5] (fun i _ wr=>∃ k:Nat,k≤n∧i=.int .i64 k∧Hid (∀ x∈L.take k,p x=false)∧Below w.heap.size w wr) (fun i _ _=>n - (intOf i).toNat)
 case atStart=>exact⟨0,by omega,rfl,Lib.hid (by simp),Below.refl _ _⟩
 case round =>
  obtain⟨k,hk,rfl,HT,hb⟩:=hrel; by_cases hlt:k<n
  ·have hkL:k<L.length:=by rw [hlen]; exact hlt
   obtain⟨b,off,rfl,hbb,hld⟩:=ldKey_es (h.below hb) hkL; have hl:=hld wr (Below.refl _ _); clear hld; have hc:=HP.out wr L[k] (List.getElem_mem hkL) hb; have hi:(k:Int)<(n:Int):=by omega
   cases hq:p L[k]
   ·have HN:=Lib.hid (take_more hkL HT.out hq)
    rw [hq] at hc; generalize (keyRow L[k]).toArray=X at *; clear hq; go_wp2_with fail
    refine hc.mono ?_; rintro e w1 ⟨rfl,hb1⟩; go_wp2; go_roundw
    case rel=>exact⟨k+1,by omega,by go_num,HN,hb.trans (hb1.mono hb.size)⟩
    case measure=>simp [intOf]; omega
   ·have HI:=Lib.hid (idx_some hkL HT.out hq)
    rw [hq] at hc; generalize (keyRow L[k]).toArray=X at *; clear hq; go_wp2_with fail
    refine hc.mono ?_; rintro e w1 ⟨rfl,hb1⟩; go_wp2; go_ret; exact⟨by rw [← HR.out,HI.out]; rfl,hb.trans (hb1.mono hb.size)⟩
  ·have hkn:k=n:=by omega
   have HI:=Lib.hid (idx_none (p:=p) (L:=L) (by have:=HT.out; rwa [hkn,List.take_of_length_le (by rw [HLEN.out]; exact Nat.le_refl _)] at this))
   have hi:¬ ((k:Int)<(n:Int)):=by omega
   go_wp2; go_ret; exact⟨by rw [← HR.out,HI.out]; rfl,hb⟩
theorem idxBun_any(g:Nat) (lb:Array Value) (eg:∀ args w,(callFunc g args).run Tryz.prog w=.ok (.enter g args) w) (p:Led.Bundle × Value→Bool) (A:Option Addr) (n c:Nat) (L:List (Led.Bundle × Value)) (w:World) (h:Es bunRow 3 w A n L) (hn:n≤9223372036854775807)
  (hp:∀ (W:World) (x:Led.Bundle × Value),x∈L→Below w.heap.size w W→Calls Tryz.prog g (#[.agg (bunRow x).toArray]++lb) W fun e w'=>e=.returned (.bool (p x))∧Below W.heap.size W w') :
  Calls Tryz.prog 150 #[.slice A n c,.func (.func g) #[] lb] w fun e w'=>e=.returned (.int .i64 (idxOf p L))∧Below w.heap.size w w':=by
 have hlen:=h.len bunRow_len (by decide)
 have HLEN:=Lib.hid hlen
 obtain⟨r,HR⟩:∃ r,Hid (idxOf p L=r):=⟨_,Lib.hid rfl⟩
 rw [HR.out]
 have HP:=Lib.hid hp
 clear hp
 go_enter Tryz.func150,Tryz.ntmps150
 go_wp2
 go_loopw [8,5] (fun i _ wr=>∃ k:Nat,k≤n∧i=.int .i64 k∧Hid (∀ x∈L.take k,p x=false)∧Below w.heap.size w wr) (fun i _ _=>n - (intOf i).toNat)
 case atStart=>exact⟨0,by omega,rfl,Lib.hid (by simp),Below.refl _ _⟩
 case round =>
  obtain⟨k,hk,rfl,HT,hb⟩:=hrel; by_cases hlt:k<n
  ·have hkL:k<L.length:=by rw [hlen]; exact hlt
   obtain⟨b,off,rfl,hbb,hld⟩:=ldBun_es (h.below hb) hkL; have hl:=hld wr (Below.refl _ _); clear hld; have hc:=HP.out wr L[k] (List.getElem_mem hkL) hb; have hi:(k:Int)<(n:Int):=by omega
   cases hq:p L[k]
   ·have HN:=Lib.hid (take_more hkL HT.out hq)
    rw [hq] at hc; generalize (bunRow L[k]).toArray=X at *; clear hq; go_wp2_with fail
    refine hc.mono ?_; rintro e w1 ⟨rfl,hb1⟩; go_wp2; go_roundw
    case rel=>exact⟨k+1,by omega,by go_num,HN,hb.trans (hb1.mono hb.size)⟩
    case measure=>simp [intOf]; omega
   ·have HI:=Lib.hid (idx_some hkL HT.out hq)
    rw [hq] at hc; generalize (bunRow L[k]).toArray=X at *; clear hq; go_wp2_with fail
    refine hc.mono ?_; rintro e w1 ⟨rfl,hb1⟩; go_wp2; go_ret; exact⟨by rw [← HR.out,HI.out]; rfl,hb.trans (hb1.mono hb.size)⟩
  ·have hkn:k=n:=by omega
   have HI:=Lib.hid (idx_none (p:=p) (L:=L) (by have:=HT.out; rwa [hkn,List.take_of_length_le (by rw [HLEN.out]; exact Nat.le_refl _)] at this))
   have hi:¬ ((k:Int)<(n:Int)):=by omega
   go_wp2; go_ret; exact⟨by rw [← HR.out,HI.out]; rfl,hb⟩
end
end Go.Proofs.YtmbpnkacggngkaaGreatDoor
