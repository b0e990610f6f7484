/- LedPut, LedPutS, LedDoA, LedMayB (put together by bundle.py: only what is needed). -/
import Derived.Test.YtmbpnkacggngkaaGreatDoorLW7
set_option maxRecDepth 100000
set_option maxHeartbeats 16000000
namespace Go.Proofs.YtmbpnkacggngkaaGreatDoor
section
open Go.RowKit Mem Led
def Slot {α:Type} (enc:α→List Value) (k:Nat) (e:TypeId) (base gl sl:Nat) (v:Value) (L':List α) (w w':World):Prop :=
 ∃ v' w1,w'=w1.setCell ⟨gl,sl,none⟩ v'∧w.grownBy w1 v.ownBlock∧w1.ownsRow base e k v' L'.length (rows enc L')∧(v'.ownBlock=v.ownBlock∨∃ g,w.heap.size≤g∧v'.ownBlock=some g)
theorem grown_after{w w1 w2:World} {r:Option Nat} (h:Below w.heap.size w w1) (hg:w1.grownBy w2 r):w.grownBy w2 r :=
 ⟨hg.os.trans h.os,hg.tape.trans h.tape,hg.output.trans h.output,Nat.le_trans h.size hg.size,fun k hk hne=>(hg.block k (Nat.lt_of_lt_of_le hk h.size) hne).trans (h.block k hk)⟩
theorem erase_at{α:Type} {p:α→Bool} {L:List α} {i:Nat} (hi:i<L.length) (h:∀ x∈L.take i,p x=false) (hp:p L[i]=true):L.eraseP p=L.take i++L.drop (i+1):=by
 have e:L=L.take i++L[i]::L.drop (i+1):=by rw [← List.drop_eq_getElem_cons hi,List.take_append_drop]
 generalize L[i]=x at *
 generalize L.take i=A at *
 generalize L.drop (i+1)=D at *
 subst e
 rw [List.eraseP_append_right _ (by intro b hb; rw [h b hb]; simp)]
 simp [hp]
theorem idx_cases{α:Type} (p:α→Bool) (L:List α):(idxOf p L = -1∧L.any p=false)∨∃ i:Nat,∃ hi:i<L.length,idxOf p L=i∧L.any p=true∧p L[i]=true∧∀ x∈L.take i,p x=false:=by
 unfold idxOf
 cases h:L.findIdx? p with
 | none =>
  rw [List.findIdx?_eq_none_iff] at h; exact .inl ⟨rfl,by rw [List.any_eq_false]; intro x hx; rw [h x hx]; simp⟩
 | some i =>
  obtain⟨hi,hp,hb⟩:=List.findIdx?_eq_some_iff_getElem.1 h; refine .inr ⟨i,hi,rfl,List.any_eq_true.2 ⟨_,List.getElem_mem hi,hp⟩,hp,fun x hx=>?_⟩; rw [List.mem_take_iff_getElem] at hx; obtain⟨j,hj,rfl⟩:=hx; have:=hb j (by omega); simpa using this
theorem rows_str:∀ L:List Txt,rows strRow L=tv L
 | []=>rfl
 | x::L=>by
  rw [rows_cons,rows_str L]; rfl
theorem ts_own{w:World} {base n c:Nat} {A:Option Addr} {L:List Txt} {e:TypeId} (h:w.ownsRow base e 1 (.slice A n c) n (rows strRow L)):Ts w A n L:=by
 rw [rows_str] at h
 exact Ts.of_own h
def Gone {α:Type} (enc:α→List Value) (k:Nat) (e:TypeId) (base gl sl:Nat) (v:Value) (L:List α) (p:α→Bool) (w:World) (x:Ending) (w':World):Prop :=
 if L.any p then x=.returned (.int .i64 0)∧Slot enc k e base gl sl v (L.eraseP p) w w' else x=.returned (.int .i64 7)∧Below w.heap.size w w'
theorem goneEnt_any(gl sl:Nat) (g:Nat) (lb:Array Value) (eg:∀ args w,(callFunc g args).run Tryz.prog w=.ok (.enter g args) w) (p:Led.Entry × Value→Bool) (L:List (Led.Entry × Value)) (base:Nat) (v:Value) (w:World) (hn:L.length≤1000)
  (hc:w.cell? ⟨gl,sl,none⟩=some v) (hf:w.frozen? ⟨gl,sl,none⟩=false) (hgl:gl<w.heap.size) (hown:w.ownsRow base 36 5 v L.length (rows entRow L)) (hne:v.ownBlock≠some gl) (h1:∀ y∈L,∀ u∈entRow y,u.oneCell'=true)
  (hp:∀ (W:World) (x:Led.Entry × Value),x∈L→Below w.heap.size w W→Calls Tryz.prog g (#[.agg (entRow x).toArray]++lb) W fun e w'=>e=.returned (.bool (p x))∧Below W.heap.size W w') :
  Calls Tryz.prog 82 #[.pointer (some ⟨gl,sl,none⟩),.func (.func g) #[] lb] w (Gone entRow 5 36 base gl sl v L p w):=by
 obtain⟨A,c,rfl,hnc,hcm⟩:=own_form hown
 have hidx:=idxEnt_any g lb eg p A L.length c L w (Vs.of_own hown) (by omega) hp
 rcases idx_cases p L with⟨hi,ha⟩|⟨i,hiL,hi,ha,hpi,hlo⟩
 ·rw [hi] at hidx
  have HRES:Hid (∀ w',Below w.heap.size w w'→Gone entRow 5 36 base gl sl (.slice A L.length c) L p w (.returned (.int .i64 7)) w'):=Lib.hid (fun w' hb=>by unfold Gone; rw [ha]; exact⟨rfl,hb⟩)
  clear hi ha hp; go_enter Tryz.func82,Tryz.ntmps82
  go_wp2_with fail
  refine hidx.mono ?_; rintro e w1 ⟨rfl,hb1⟩; go_wp2; go_ret; exact HRES.out _ hb1
 ·rw [hi] at hidx
  obtain⟨m,hm⟩:∃ m,L.length=i+1+m:=⟨L.length - (i+1),by omega⟩; have hdel:∀ w1,Below w.heap.size w w1→Calls Tryz.prog 135 #[.slice A L.length c,.int .i64 i,.int .i64 ((i:Int)+1)] w1 (Deleted entRow 5 36 base (.slice A L.length c) (i+m) (L.take i++L.drop (i+1)) w1):=fun w1 hb=>by
   have hown1:=own_below hown hb (Nat.le_refl _); have:=delEnt_any L i m base (.slice A L.length c) w1 hm (by rw [← hm]; exact hown1) (by omega) h1
   exact this
  have HRES:Hid (∀ w1 w2 A' c',Below w.heap.size w w1→w2.ownsRow base 36 5 (.slice A' (i+m) c') (i+m) (rows entRow (L.take i++L.drop (i+1)))→w1.grownBy w2 (Value.slice A L.length c).ownBlock→(Value.slice A' (i+m) c').ownBlock=(Value.slice A L.length c).ownBlock →
    Gone entRow 5 36 base gl sl (.slice A L.length c) L p w (.returned (.int .i64 0)) (w2.setCell ⟨gl,sl,none⟩ (.slice A' (i+m) c'))):=Lib.hid (fun w1 w2 A' c' hb h2 h3 h4=>by
   unfold Gone; rw [ha]; have e:=erase_at hiL hlo hpi; refine⟨rfl,_,w2,rfl,grown_after hb h3,?_,.inl h4⟩; rw [e]; have hl:(L.take i++L.drop (i+1)).length=i+m:=by rw [List.length_append,List.length_take,List.length_drop]; omega
   rw [hl]; exact h2)
  have hi0:¬ ((i:Int)<0):=by omega
  have hw1:IntKind.i64.wrap ((i:Int)+1)=(i:Int)+1:=by rw [IntKind.wrap_i64]; omega
  have HDEL:=Lib.hid hdel; have HNE:=Lib.hid hne; clear hi ha hp hdel hpi hlo hm hne h1; go_enter Tryz.func82,Tryz.ntmps82
  go_wp2_with fail
  refine hidx.mono ?_; rintro e w1 ⟨rfl,hb1⟩; have hc1:=(hb1.cell (p:=⟨gl,sl,none⟩) hgl).trans hc; go_wp2_with fail
  refine(HDEL.out w1 hb1).mono ?_; rintro e w2 ⟨A',c',rfl,h2,h3,h4⟩; have hg2:=h3.block gl (Nat.lt_of_lt_of_le hgl hb1.size) (fun e=>HNE.out e.symm); have hc2:w2.cell? ⟨gl,sl,none⟩=some (.slice A L.length c):=(World.cell?_of_block (a:=⟨gl,sl,none⟩) hg2).trans hc1; have hf2:w2.frozen? ⟨gl,sl,none⟩=false:=(World.frozen?_of_block (a:=⟨gl,sl,none⟩) hg2).trans ((hb1.frozen (p:=⟨gl,sl,none⟩) hgl).trans hf); have hres:=Lib.hid (HRES.out w1 w2 A' c' hb1 h2 h3 h4); clear h2 h3 h4 HDEL HRES; go_wp2; go_ret; exact hres.out
theorem goneNod_any(gl sl:Nat) (g:Nat) (lb:Array Value) (eg:∀ args w,(callFunc g args).run Tryz.prog w=.ok (.enter g args) w) (p:Led.Node→Bool) (L:List (Led.Node)) (base:Nat) (v:Value) (w:World) (hn:L.length≤1000)
  (hc:w.cell? ⟨gl,sl,none⟩=some v) (hf:w.frozen? ⟨gl,sl,none⟩=false) (hgl:gl<w.heap.size) (hown:w.ownsRow base 40 5 v L.length (rows nodeRow L)) (hne:v.ownBlock≠some gl) (h1:∀ y∈L,∀ u∈nodeRow y,u.oneCell'=true)
  (hp:∀ (W:World) (x:Led.Node),x∈L→Below w.heap.size w W→Calls Tryz.prog g (#[.agg (nodeRow x).toArray]++lb) W fun e w'=>e=.returned (.bool (p x))∧Below W.heap.size W w') :
  Calls Tryz.prog 98 #[.pointer (some ⟨gl,sl,none⟩),.func (.func g) #[] lb] w (Gone nodeRow 5 40 base gl sl v L p w):=by
 obtain⟨A,c,rfl,hnc,hcm⟩:=own_form hown
 have hidx:=idxNod_any g lb eg p A L.length c L w (Vs.of_own hown) (by omega) hp
 rcases idx_cases p L with⟨hi,ha⟩|⟨i,hiL,hi,ha,hpi,hlo⟩
 ·rw [hi] at hidx
  have HRES:Hid (∀ w',Below w.heap.size w w'→Gone nodeRow 5 40 base gl sl (.slice A L.length c) L p w (.returned (.int .i64 7)) w'):=Lib.hid (fun w' hb=>by unfold Gone; rw [ha]; exact⟨rfl,hb⟩)
  clear hi ha hp; go_enter Tryz.func98,Tryz.ntmps98
  go_wp2_with fail
  refine hidx.mono ?_; rintro e w1 ⟨rfl,hb1⟩; go_wp2; go_ret; exact HRES.out _ hb1
 ·rw [hi] at hidx
  obtain⟨m,hm⟩:∃ m,L.length=i+1+m:=⟨L.length - (i+1),by omega⟩; have hdel:∀ w1,Below w.heap.size w w1→Calls Tryz.prog 145 #[.slice A L.length c,.int .i64 i,.int .i64 ((i:Int)+1)] w1 (Deleted nodeRow 5 40 base (.slice A L.length c) (i+m) (L.take i++L.drop (i+1)) w1):=fun w1 hb=>by
   have hown1:=own_below hown hb (Nat.le_refl _); have:=delNod_any L i m base (.slice A L.length c) w1 hm (by rw [← hm]; exact hown1) (by omega) h1
   exact this
  have HRES:Hid (∀ w1 w2 A' c',Below w.heap.size w w1→w2.ownsRow base 40 5 (.slice A' (i+m) c') (i+m) (rows nodeRow (L.take i++L.drop (i+1)))→w1.grownBy w2 (Value.slice A L.length c).ownBlock→(Value.slice A' (i+m) c').ownBlock=(Value.slice A L.length c).ownBlock →
    Gone nodeRow 5 40 base gl sl (.slice A L.length c) L p w (.returned (.int .i64 0)) (w2.setCell ⟨gl,sl,none⟩ (.slice A' (i+m) c'))):=Lib.hid (fun w1 w2 A' c' hb h2 h3 h4=>by
   unfold Gone; rw [ha]; have e:=erase_at hiL hlo hpi; refine⟨rfl,_,w2,rfl,grown_after hb h3,?_,.inl h4⟩; rw [e]; have hl:(L.take i++L.drop (i+1)).length=i+m:=by rw [List.length_append,List.length_take,List.length_drop]; omega
   rw [hl]; exact h2)
  have hi0:¬ ((i:Int)<0):=by omega
  have hw1:IntKind.i64.wrap ((i:Int)+1)=(i:Int)+1:=by rw [IntKind.wrap_i64]; omega
  have HDEL:=Lib.hid hdel; have HNE:=Lib.hid hne; clear hi ha hp hdel hpi hlo hm hne h1; go_enter Tryz.func98,Tryz.ntmps98
  go_wp2_with fail
  refine hidx.mono ?_; rintro e w1 ⟨rfl,hb1⟩; have hc1:=(hb1.cell (p:=⟨gl,sl,none⟩) hgl).trans hc; go_wp2_with fail
  refine(HDEL.out w1 hb1).mono ?_; rintro e w2 ⟨A',c',rfl,h2,h3,h4⟩; have hg2:=h3.block gl (Nat.lt_of_lt_of_le hgl hb1.size) (fun e=>HNE.out e.symm); have hc2:w2.cell? ⟨gl,sl,none⟩=some (.slice A L.length c):=(World.cell?_of_block (a:=⟨gl,sl,none⟩) hg2).trans hc1; have hf2:w2.frozen? ⟨gl,sl,none⟩=false:=(World.frozen?_of_block (a:=⟨gl,sl,none⟩) hg2).trans ((hb1.frozen (p:=⟨gl,sl,none⟩) hgl).trans hf); have hres:=Lib.hid (HRES.out w1 w2 A' c' hb1 h2 h3 h4); clear h2 h3 h4 HDEL HRES; go_wp2; go_ret; exact hres.out
theorem goneKey_any(gl sl:Nat) (g:Nat) (lb:Array Value) (eg:∀ args w,(callFunc g args).run Tryz.prog w=.ok (.enter g args) w) (p:Led.Key→Bool) (L:List (Led.Key)) (base:Nat) (v:Value) (w:World) (hn:L.length≤1000)
  (hc:w.cell? ⟨gl,sl,none⟩=some v) (hf:w.frozen? ⟨gl,sl,none⟩=false) (hgl:gl<w.heap.size) (hown:w.ownsRow base 42 4 v L.length (rows keyRow L)) (hne:v.ownBlock≠some gl) (h1:∀ y∈L,∀ u∈keyRow y,u.oneCell'=true)
  (hp:∀ (W:World) (x:Led.Key),x∈L→Below w.heap.size w W→Calls Tryz.prog g (#[.agg (keyRow x).toArray]++lb) W fun e w'=>e=.returned (.bool (p x))∧Below W.heap.size W w') :
  Calls Tryz.prog 105 #[.pointer (some ⟨gl,sl,none⟩),.func (.func g) #[] lb] w (Gone keyRow 4 42 base gl sl v L p w):=by
 obtain⟨A,c,rfl,hnc,hcm⟩:=own_form hown
 have hidx:=idxKey_any g lb eg p A L.length c L w (Vs.of_own hown) (by omega) hp
 rcases idx_cases p L with⟨hi,ha⟩|⟨i,hiL,hi,ha,hpi,hlo⟩
 ·rw [hi] at hidx
  have HRES:Hid (∀ w',Below w.heap.size w w'→Gone keyRow 4 42 base gl sl (.slice A L.length c) L p w (.returned (.int .i64 7)) w'):=Lib.hid (fun w' hb=>by unfold Gone; rw [ha]; exact⟨rfl,hb⟩)
  clear hi ha hp; go_enter Tryz.func105,Tryz.ntmps105
  go_wp2_with fail
  refine hidx.mono ?_; rintro e w1 ⟨rfl,hb1⟩; go_wp2; go_ret; exact HRES.out _ hb1
 ·rw [hi] at hidx
  obtain⟨m,hm⟩:∃ m,L.length=i+1+m:=⟨L.length - (i+1),by omega⟩; have hdel:∀ w1,Below w.heap.size w w1→Calls Tryz.prog 148 #[.slice A L.length c,.int .i64 i,.int .i64 ((i:Int)+1)] w1 (Deleted keyRow 4 42 base (.slice A L.length c) (i+m) (L.take i++L.drop (i+1)) w1):=fun w1 hb=>by
   have hown1:=own_below hown hb (Nat.le_refl _); have:=delKey_any L i m base (.slice A L.length c) w1 hm (by rw [← hm]; exact hown1) (by omega) h1
   exact this
  have HRES:Hid (∀ w1 w2 A' c',Below w.heap.size w w1→w2.ownsRow base 42 4 (.slice A' (i+m) c') (i+m) (rows keyRow (L.take i++L.drop (i+1)))→w1.grownBy w2 (Value.slice A L.length c).ownBlock→(Value.slice A' (i+m) c').ownBlock=(Value.slice A L.length c).ownBlock →
    Gone keyRow 4 42 base gl sl (.slice A L.length c) L p w (.returned (.int .i64 0)) (w2.setCell ⟨gl,sl,none⟩ (.slice A' (i+m) c'))):=Lib.hid (fun w1 w2 A' c' hb h2 h3 h4=>by
   unfold Gone; rw [ha]; have e:=erase_at hiL hlo hpi; refine⟨rfl,_,w2,rfl,grown_after hb h3,?_,.inl h4⟩; rw [e]; have hl:(L.take i++L.drop (i+1)).length=i+m:=by rw [List.length_append,List.length_take,List.length_drop]; omega
   rw [hl]; exact h2)
  have hi0:¬ ((i:Int)<0):=by omega
  have hw1:IntKind.i64.wrap ((i:Int)+1)=(i:Int)+1:=by rw [IntKind.wrap_i64]; omega
  have HDEL:=Lib.hid hdel; have HNE:=Lib.hid hne; clear hi ha hp hdel hpi hlo hm hne h1; go_enter Tryz.func105,Tryz.ntmps105
  go_wp2_with fail
  refine hidx.mono ?_; rintro e w1 ⟨rfl,hb1⟩; have hc1:=(hb1.cell (p:=⟨gl,sl,none⟩) hgl).trans hc; go_wp2_with fail
  refine(HDEL.out w1 hb1).mono ?_; rintro e w2 ⟨A',c',rfl,h2,h3,h4⟩; have hg2:=h3.block gl (Nat.lt_of_lt_of_le hgl hb1.size) (fun e=>HNE.out e.symm); have hc2:w2.cell? ⟨gl,sl,none⟩=some (.slice A L.length c):=(World.cell?_of_block (a:=⟨gl,sl,none⟩) hg2).trans hc1; have hf2:w2.frozen? ⟨gl,sl,none⟩=false:=(World.frozen?_of_block (a:=⟨gl,sl,none⟩) hg2).trans ((hb1.frozen (p:=⟨gl,sl,none⟩) hgl).trans hf); have hres:=Lib.hid (HRES.out w1 w2 A' c' hb1 h2 h3 h4); clear h2 h3 h4 HDEL HRES; go_wp2; go_ret; exact hres.out
theorem goneBun_any(gl sl:Nat) (g:Nat) (lb:Array Value) (eg:∀ args w,(callFunc g args).run Tryz.prog w=.ok (.enter g args) w) (p:Led.Bundle × Value→Bool) (L:List (Led.Bundle × Value)) (base:Nat) (v:Value) (w:World) (hn:L.length≤1000)
  (hc:w.cell? ⟨gl,sl,none⟩=some v) (hf:w.frozen? ⟨gl,sl,none⟩=false) (hgl:gl<w.heap.size) (hown:w.ownsRow base 45 3 v L.length (rows bunRow L)) (hne:v.ownBlock≠some gl) (h1:∀ y∈L,∀ u∈bunRow y,u.oneCell'=true)
  (hp:∀ (W:World) (x:Led.Bundle × Value),x∈L→Below w.heap.size w W→Calls Tryz.prog g (#[.agg (bunRow x).toArray]++lb) W fun e w'=>e=.returned (.bool (p x))∧Below W.heap.size W w') :
  Calls Tryz.prog 112 #[.pointer (some ⟨gl,sl,none⟩),.func (.func g) #[] lb] w (Gone bunRow 3 45 base gl sl v L p w):=by
 obtain⟨A,c,rfl,hnc,hcm⟩:=own_form hown
 have hidx:=idxBun_any g lb eg p A L.length c L w (Vs.of_own hown) (by omega) hp
 rcases idx_cases p L with⟨hi,ha⟩|⟨i,hiL,hi,ha,hpi,hlo⟩
 ·rw [hi] at hidx
  have HRES:Hid (∀ w',Below w.heap.size w w'→Gone bunRow 3 45 base gl sl (.slice A L.length c) L p w (.returned (.int .i64 7)) w'):=Lib.hid (fun w' hb=>by unfold Gone; rw [ha]; exact⟨rfl,hb⟩)
  clear hi ha hp; go_enter Tryz.func112,Tryz.ntmps112
  go_wp2_with fail
  refine hidx.mono ?_; rintro e w1 ⟨rfl,hb1⟩; go_wp2; go_ret; exact HRES.out _ hb1
 ·rw [hi] at hidx
  obtain⟨m,hm⟩:∃ m,L.length=i+1+m:=⟨L.length - (i+1),by omega⟩; have hdel:∀ w1,Below w.heap.size w w1→Calls Tryz.prog 153 #[.slice A L.length c,.int .i64 i,.int .i64 ((i:Int)+1)] w1 (Deleted bunRow 3 45 base (.slice A L.length c) (i+m) (L.take i++L.drop (i+1)) w1):=fun w1 hb=>by
   have hown1:=own_below hown hb (Nat.le_refl _); have:=delBun_any L i m base (.slice A L.length c) w1 hm (by rw [← hm]; exact hown1) (by omega) h1
   exact this
  have HRES:Hid (∀ w1 w2 A' c',Below w.heap.size w w1→w2.ownsRow base 45 3 (.slice A' (i+m) c') (i+m) (rows bunRow (L.take i++L.drop (i+1)))→w1.grownBy w2 (Value.slice A L.length c).ownBlock→(Value.slice A' (i+m) c').ownBlock=(Value.slice A L.length c).ownBlock →
    Gone bunRow 3 45 base gl sl (.slice A L.length c) L p w (.returned (.int .i64 0)) (w2.setCell ⟨gl,sl,none⟩ (.slice A' (i+m) c'))):=Lib.hid (fun w1 w2 A' c' hb h2 h3 h4=>by
   unfold Gone; rw [ha]; have e:=erase_at hiL hlo hpi; refine⟨rfl,_,w2,rfl,grown_after hb h3,?_,.inl h4⟩; rw [e]; have hl:(L.take i++L.drop (i+1)).length=i+m:=by rw [List.length_append,List.length_take,List.length_drop]; omega
   rw [hl]; exact h2)
  have hi0:¬ ((i:Int)<0):=by omega
  have hw1:IntKind.i64.wrap ((i:Int)+1)=(i:Int)+1:=by rw [IntKind.wrap_i64]; omega
  have HDEL:=Lib.hid hdel; have HNE:=Lib.hid hne; clear hi ha hp hdel hpi hlo hm hne h1; go_enter Tryz.func112,Tryz.ntmps112
  go_wp2_with fail
  refine hidx.mono ?_; rintro e w1 ⟨rfl,hb1⟩; have hc1:=(hb1.cell (p:=⟨gl,sl,none⟩) hgl).trans hc; go_wp2_with fail
  refine(HDEL.out w1 hb1).mono ?_; rintro e w2 ⟨A',c',rfl,h2,h3,h4⟩; have hg2:=h3.block gl (Nat.lt_of_lt_of_le hgl hb1.size) (fun e=>HNE.out e.symm); have hc2:w2.cell? ⟨gl,sl,none⟩=some (.slice A L.length c):=(World.cell?_of_block (a:=⟨gl,sl,none⟩) hg2).trans hc1; have hf2:w2.frozen? ⟨gl,sl,none⟩=false:=(World.frozen?_of_block (a:=⟨gl,sl,none⟩) hg2).trans ((hb1.frozen (p:=⟨gl,sl,none⟩) hgl).trans hf); have hres:=Lib.hid (HRES.out w1 w2 A' c' hb1 h2 h3 h4); clear h2 h3 h4 HDEL HRES; go_wp2; go_ret; exact hres.out
theorem goneStr_any(gl sl:Nat) (g:Nat) (lb:Array Value) (eg:∀ args w,(callFunc g args).run Tryz.prog w=.ok (.enter g args) w) (p:Txt→Bool) (L:List (Txt)) (base:Nat) (v:Value) (w:World) (hn:L.length≤1000)
  (hc:w.cell? ⟨gl,sl,none⟩=some v) (hf:w.frozen? ⟨gl,sl,none⟩=false) (hgl:gl<w.heap.size) (hown:w.ownsRow base 9 1 v L.length (rows strRow L)) (hne:v.ownBlock≠some gl) (h1:∀ y∈L,∀ u∈strRow y,u.oneCell'=true)
  (hp:∀ (W:World) (x:Txt),x∈L→Below w.heap.size w W→Calls Tryz.prog g (#[.string (str x)]++lb) W fun e w'=>e=.returned (.bool (p x))∧Below W.heap.size W w') :
  Calls Tryz.prog 96 #[.pointer (some ⟨gl,sl,none⟩),.func (.func g) #[] lb] w (Gone strRow 1 9 base gl sl v L p w):=by
 obtain⟨A,c,rfl,hnc,hcm⟩:=own_form hown
 have hidx:=idxStr_any g lb eg p A L.length c L w (ts_own hown) (by omega) hp
 rcases idx_cases p L with⟨hi,ha⟩|⟨i,hiL,hi,ha,hpi,hlo⟩
 ·rw [hi] at hidx
  have HRES:Hid (∀ w',Below w.heap.size w w'→Gone strRow 1 9 base gl sl (.slice A L.length c) L p w (.returned (.int .i64 7)) w'):=Lib.hid (fun w' hb=>by unfold Gone; rw [ha]; exact⟨rfl,hb⟩)
  clear hi ha hp; go_enter Tryz.func96,Tryz.ntmps96
  go_wp2_with fail
  refine hidx.mono ?_; rintro e w1 ⟨rfl,hb1⟩; go_wp2; go_ret; exact HRES.out _ hb1
 ·rw [hi] at hidx
  obtain⟨m,hm⟩:∃ m,L.length=i+1+m:=⟨L.length - (i+1),by omega⟩; have hdel:∀ w1,Below w.heap.size w w1→Calls Tryz.prog 144 #[.slice A L.length c,.int .i64 i,.int .i64 ((i:Int)+1)] w1 (Deleted strRow 1 9 base (.slice A L.length c) (i+m) (L.take i++L.drop (i+1)) w1):=fun w1 hb=>by
   have hown1:=own_below hown hb (Nat.le_refl _); have:=delStr_any L i m base (.slice A L.length c) w1 hm (by rw [← hm]; exact hown1) (by omega) h1
   exact this
  have HRES:Hid (∀ w1 w2 A' c',Below w.heap.size w w1→w2.ownsRow base 9 1 (.slice A' (i+m) c') (i+m) (rows strRow (L.take i++L.drop (i+1)))→w1.grownBy w2 (Value.slice A L.length c).ownBlock→(Value.slice A' (i+m) c').ownBlock=(Value.slice A L.length c).ownBlock →
    Gone strRow 1 9 base gl sl (.slice A L.length c) L p w (.returned (.int .i64 0)) (w2.setCell ⟨gl,sl,none⟩ (.slice A' (i+m) c'))):=Lib.hid (fun w1 w2 A' c' hb h2 h3 h4=>by
   unfold Gone; rw [ha]; have e:=erase_at hiL hlo hpi; refine⟨rfl,_,w2,rfl,grown_after hb h3,?_,.inl h4⟩; rw [e]; have hl:(L.take i++L.drop (i+1)).length=i+m:=by rw [List.length_append,List.length_take,List.length_drop]; omega
   rw [hl]; exact h2)
  have hi0:¬ ((i:Int)<0):=by omega
  have hw1:IntKind.i64.wrap ((i:Int)+1)=(i:Int)+1:=by rw [IntKind.wrap_i64]; omega
  have HDEL:=Lib.hid hdel; have HNE:=Lib.hid hne; clear hi ha hp hdel hpi hlo hm hne h1; go_enter Tryz.func96,Tryz.ntmps96
  go_wp2_with fail
  refine hidx.mono ?_; rintro e w1 ⟨rfl,hb1⟩; have hc1:=(hb1.cell (p:=⟨gl,sl,none⟩) hgl).trans hc; go_wp2_with fail
  refine(HDEL.out w1 hb1).mono ?_; rintro e w2 ⟨A',c',rfl,h2,h3,h4⟩; have hg2:=h3.block gl (Nat.lt_of_lt_of_le hgl hb1.size) (fun e=>HNE.out e.symm); have hc2:w2.cell? ⟨gl,sl,none⟩=some (.slice A L.length c):=(World.cell?_of_block (a:=⟨gl,sl,none⟩) hg2).trans hc1; have hf2:w2.frozen? ⟨gl,sl,none⟩=false:=(World.frozen?_of_block (a:=⟨gl,sl,none⟩) hg2).trans ((hb1.frozen (p:=⟨gl,sl,none⟩) hgl).trans hf); have hres:=Lib.hid (HRES.out w1 w2 A' c' hb1 h2 h3 h4); clear h2 h3 h4 HDEL HRES; go_wp2; go_ret; exact hres.out
def cnt {α:Type} (c:α→α→Int) (x:α) (L:List α):Nat:=(L.filter (fun y=>decide (c y x<0))).length
def isAt {α:Type} (c:α→α→Int) (x:α) (L:List α):Bool:=(L[cnt c x L]?.map (fun y=>decide (c y x=0))).getD false
theorem place_cnt{α:Type} {c:α→α→Int} {x:α} {L:List α} {k:Nat} (h:Led.Place c x L k):k=cnt c x L:=by
 unfold cnt
 have e:L=L.take k++L.drop k:=(List.take_append_drop k L).symm
 have hlo:=h.lo
 have hhi:=h.hi
 have hl:(L.take k).length=k:=by rw [List.length_take]; exact Nat.min_eq_left h.le
 generalize L.take k=A at *
 generalize L.drop k=B at *
 rw [e,List.filter_append,filter_all (t:=A) (fun z hz=>decide_eq_true (hlo z hz)),filter_none (t:=B) (fun z hz=>decide_eq_false (by have:=hhi z hz; omega)),List.append_nil,hl]
theorem isAt_iff{α:Type} {c:α→α→Int} {x:α} {L:List α}:isAt c x L=true↔∃ hk:cnt c x L<L.length,c L[cnt c x L] x=0:=by
 unfold isAt
 by_cases h:cnt c x L<L.length
 ·rw [List.getElem?_eq_getElem h]
  simp [h]
 ·rw [List.getElem?_eq_none (by omega)]
  simp [h]
theorem found_det{α:Type} {P:Program} {F:FuncId} {args:Array Value} {c:α→α→Int} {x:α} {L:List α} {w:World} (h:Calls P F args w (Found c x L w)) :
  Calls P F args w fun e w'=>e=.returned (.tuple #[.int .i64 (cnt c x L:Nat),.bool (isAt c x L)])∧Below w.heap.size w w':=h.mono fun e w' ⟨k,f,h1,h2,h3,h4⟩=>by
 obtain rfl:=place_cnt h2
 have hf:f=isAt c x L:=by rw [Bool.eq_iff_iff,h3,isAt_iff]
 exact⟨by rw [h1,hf],h4⟩
theorem found_place{α:Type} {c:α→α→Int} {x:α} {L:List α} (hc:Cmp c) (hr:Rises c L):Led.Place c x L (cnt c x L):=by
 have key:∀ L:List α,Rises c L→∃ k,Led.Place c x L k:=by
  intro L hL; induction L with
  | nil=>exact⟨0,⟨Nat.le_refl _,by simp,by simp⟩⟩
  | cons y L ih =>
   unfold Rises at hL; rw [List.pairwise_cons] at hL; by_cases hy:c y x<0
   ·obtain⟨k,hk⟩:=ih hL.2
    refine⟨k+1,⟨by have:=hk.le; simp; omega,?_,?_⟩⟩
    ·intro z hz
     rw [List.take_succ_cons] at hz; rcases List.mem_cons.1 hz with rfl|hz
     ·exact hy
     ·exact hk.lo z hz
    ·intro z hz
     rw [List.drop_succ_cons] at hz; exact hk.hi z hz
   ·refine⟨0,⟨Nat.zero_le _,by simp,?_⟩⟩
    intro z hz; rw [List.drop_zero] at hz; rcases List.mem_cons.1 hz with rfl|hz
    ·omega
    ·have:=above hc hL.1 (x:=x) (by omega) z hz
     omega
 obtain⟨k,hk⟩:=key L hr
 rw [← place_cnt hk]
 exact hk
theorem ins_at{α:Type} {c:α→α→Int} {x:α} {L:List α} (hc:Cmp c) (hr:Rises c L) (hp:Led.Place c x L (cnt c x L)) (h:isAt c x L=true):ins c x L=L.set (cnt c x L) x:=by
 obtain⟨hk,he⟩:=isAt_iff.1 h
 exact hp.ins_set hc hr hk he
theorem ins_off{α:Type} {c:α→α→Int} {x:α} {L:List α} (hc:Cmp c) (hr:Rises c L) (hp:Led.Place c x L (cnt c x L)) (h:isAt c x L=false):ins c x L=L.take (cnt c x L)++x::L.drop (cnt c x L) :=
 hp.ins_new (hp.new_of hc hr (fun hk he=>by have:=isAt_iff.2 ⟨hk,he⟩; rw [h] at this; cases this))
def Puts {α:Type} (enc:α→List Value) (k:Nat) (e:TypeId) (base gl sl:Nat) (v:Value) (r:Option (List α)) (w:World) (x:Ending) (w':World):Prop:=match r with
 | some L'=>x=.returned (.int .i64 0)∧Slot enc k e base gl sl v L' w w'
 | none=>x=.returned (.int .i64 6)∧Below w.heap.size w w'
theorem store_row{P:Program} {T:TypeId} {k:Nat} (hi:(P.info? T).map (·.size)=some k) {w:World} {g o:Nat} {M Y:List Value} {t:TypeId} (hg:Blk w g M t) (hY:Y.length=k) (hfit:o+k≤M.length) (h1:∀ u∈Y,u.oneCell'=true) :
  (Instr.storeAt T (.pointer (some ⟨g,o,none⟩)) (.agg Y.toArray)).run P w=.ok () (w.setRow g (splice M o Y).toArray):=by
 have h2:(Go.sizeOf T).run P w=.ok k w:=by
  cases hq:P.info? T with
  | none=>simp [hq] at hi
  | some i =>
   have:i.size=k:=by simpa [hq] using hi
   simp [Go.sizeOf,typeInfo,hq,this]
 have hst:=run_storeCells_at P g o t Y 0 M.toArray w hg (by simpa [hY] using hfit) h1
 simp only [Nat.add_zero] at hst
 have hc:(Value.agg Y.toArray).cells=Y.toArray:=rfl
 have hs:Y.toArray.size=k:=by simpa using hY
 simp only [Instr.storeAt,Instr.sureAddr,Sem.run_bind,Sem.run_pure,Result.andThen_ok,storeVar,h2,hc,hs,ne_eq,not_true_eq_false,if_false,hst]
 simp [splice]
theorem set_keep{α:Type} {l:List α} {k:Nat} {v:α} (h:l[k]?=some v):l.set k v=l:=by
 obtain⟨hk,rfl⟩:=List.getElem?_eq_some_iff.1 h
 exact List.set_getElem_self hk
theorem setCell_keep{w:World} {g k:Nat} {cs:List Value} {t:TypeId} {v:Value} (h:Blk w g cs t) (hk:cs[k]?=some v):w.setCell ⟨g,k,none⟩ v=w:=by
 have hh:(w.setCell ⟨g,k,none⟩ v).heap=w.heap:=by
  apply Array.ext_getElem?
  intro i; by_cases hi:i=g
  ·subst hi
   have h1:=h.set k v; rw [set_keep hk] at h1; unfold Blk at h h1; rw [h1,h]
  ·exact heap_setCell_other w ⟨g,k,none⟩ i v hi
 have e:w.setCell ⟨g,k,none⟩ v={ w with heap:=(w.setCell ⟨g,k,none⟩ v).heap }:=rfl
 rw [e,hh]
theorem splice_set{α:Type} {enc:α→List Value} {k:Nat} (hk:∀ x,(enc x).length=k) {L:List α} {i:Nat} {x:α} {R:List Value} (hi:i<L.length):splice (rows enc L++R) (i * k) (enc x)=rows enc (L.set i x)++R:=by
 have e:L=L.take i++L[i]::L.drop (i+1):=by rw [← List.drop_eq_getElem_cons hi,List.take_append_drop]
 have hs:L.set i x=L.take i++x::L.drop (i+1):=by rw [List.set_eq_take_append_cons_drop,if_pos hi]
 have hl:(rows enc (L.take i)).length=i * k:=by rw [rows_length hk,List.length_take,Nat.min_eq_left (by omega)]
 have hy:=hk L[i]
 rw [hs]
 conv=>lhs; rw [e]
 rw [rows_append,rows_cons,rows_append,rows_cons]
 generalize rows enc (L.take i)=A at *
 generalize rows enc (L.drop (i+1))=D at *
 generalize enc L[i]=Y at *
 unfold splice
 rw [show i * k+(enc x).length=(A++Y).length by rw [List.length_append,hk,hl,hy],← hl]
 simp only [List.append_assoc]
 rw [List.take_append_of_le_length (Nat.le_refl _),List.take_of_length_le (Nat.le_refl _),← List.append_assoc A Y,List.drop_append_of_le_length (Nat.le_refl _),List.drop_of_length_le (Nat.le_refl _),List.nil_append]
theorem putEnt_any(gl sl:Nat) (g:Nat) (eg:∀ args w,(callFunc g args).run Tryz.prog w=.ok (.enter g args) w) (cf:Led.Entry × Value→Led.Entry × Value→Int) (hcf:Cmp cf) (x:Led.Entry × Value) (L:List (Led.Entry × Value)) (hr:Rises cf L) (base:Nat) (v:Value) (most:Nat) (w:World) (hn:L.length≤most) (hmost:most≤900)
  (cs:List Value) (tl:TypeId) (hbl:Blk w gl cs tl) (hsl:cs[sl]?=some v) (hown:w.ownsRow base 36 5 v L.length (rows entRow L)) (hne:v.ownBlock≠some gl) (hbase:base≤w.heap.size) (h1:∀ y∈L,∀ u∈entRow y,u.oneCell'=true) (h1x:∀ u∈entRow x,u.oneCell'=true)
  (hp:∀ (W:World) (y:Led.Entry × Value),y∈L→Below w.heap.size w W→Calls Tryz.prog g (#[.agg (entRow y).toArray,.agg (entRow x).toArray]) W fun e w'=>e=.returned (.int .i64 (cf y x))∧Below W.heap.size W w') :
  Calls Tryz.prog 80 #[.pointer (some ⟨gl,sl,none⟩),.agg (entRow x).toArray,.int .i64 most,.func (.func g) #[] #[]] w (Puts entRow 5 36 base gl sl v (put cf most x L) w):=by
 have hc:=(hbl.cell sl).trans hsl
 have hf:=hbl.froz sl
 have hgl:=hbl.lt
 obtain⟨A,c,rfl,hnc,hcm⟩:=own_form hown
 have hpl:=found_place (x:=x) hcf hr
 obtain⟨W,hW⟩:∃ W,w.alloc (.cells (entRow x).toArray 36)=W:=⟨_,rfl⟩
 have b0:Blk W w.heap.size (entRow x) 36:=by rw [← hW]; exact Blk.new w _ _
 have hbW:Below w.heap.size w W:=by rw [← hW]; exact(Below.refl _ _).alloc (Nat.le_refl _) _
 have hglW:gl<W.heap.size:=Nat.lt_of_lt_of_le hgl hbW.size
 have hcW:=(hbW.cell (p:=⟨gl,sl,none⟩) hgl).trans hc
 have ownW:=own_below hown hbW (Nat.le_refl _)
 have f1:∀ p,(Batch.grew W p).cell? ⟨gl,sl,none⟩=some (.slice A L.length c):=fun p=>(Batch.grew_cell hglW p).trans hcW
 have f2:∀ p,(ldEnt (.pointer (some ⟨w.heap.size,0,none⟩))).run Tryz.prog (Batch.grew W p)=.ok (.agg (entRow x).toArray) (Batch.grew W p):=fun p=>ldEnt_blk (b0.below (Batch.grew_below W p)) rfl
 have HV:Hid (∀ p,Calls Tryz.prog 132 #[.slice A L.length c,.agg (entRow x).toArray,.func (.func g) #[] #[]] (Batch.grew W p) fun e w'=>e=.returned (.tuple #[.int .i64 (cnt cf x L:Nat),.bool (isAt cf x L)])∧Below (Batch.grew W p).heap.size (Batch.grew W p) w'):=Lib.hid fun p =>
  found_det (bsEnt_any g eg cf hcf x A L.length c L hr (Batch.grew W p) (Vs.of_own (own_below ownW (Batch.grew_below W p) (Nat.le_refl _))) (by omega) (fun W' y hy hb=>hp W' y hy (hbW.trans ((((Batch.grew_below W p).trans (hb.mono (Batch.grew_below W p).size))).mono hbW.size))))
 have HAT:=Lib.hid (fun h=>ins_at (x:=x) hcf hr hpl h)
 have HOFF:=Lib.hid (fun h=>ins_off (x:=x) hcf hr hpl h)
 have HLE:=Lib.hid hpl.le
 have HISAT:=Lib.hid (fun h=>isAt_iff.1 (show isAt cf x L=true from h))
 have HW:=Lib.hid hW
 clear hW hp hpl
 obtain⟨Y,hY⟩:∃ Y,(entRow x).toArray=Y:=⟨_,rfl⟩
 have HW':Hid (w.alloc (.cells Y 36)=W):=Lib.hid (by rw [← hY]; exact HW.out)
 have HY:=Lib.hid hY
 rw [hY] at f2 HV ⊢
 clear hY HW
 obtain⟨K,hK⟩:∃ K,cnt cf x L=K:=⟨_,rfl⟩
 rw [hK] at HV HAT HOFF HLE HISAT
 go_enter Tryz.func80,Tryz.ntmps80
 go_upto_region 1 with fail
 rw [HW'.out]
 clear HW'
 cases hat:isAt cf x L
 ·rw [hat] at HV
  have hins:ins cf x L=L.take K++x::L.drop K:=HOFF.out hat; have hlen:(ins cf x L).length=L.length+1:=by rw [hins,List.length_append,List.length_cons,List.length_take,List.length_drop]; have:=HLE.out; omega
  have HINS:=Lib.hid hins; go_wp2_with fail
  refine Batch.wp_region_grew (by kernel_rfl) (by kernel_rfl) ?_; repeat (go_big_quiet_step (first|(go_at_call 132; exact Batch.calls_grew (HV.out _))|fail))
  refine wpQuiet_nil ?_; rintro _ ⟨px,rfl⟩; have g1:=Batch.grew_below W px; clear f1 f2 HV; generalize Batch.grew W px=w1 at *; have hb1:Below w.heap.size w w1:=hbW.trans (g1.mono hbW.size); have hc1:=(g1.cell (p:=⟨gl,sl,none⟩) hglW).trans hcW; by_cases hroom:L.length+1≤most
  ·have HRES:Hid (∀ x' w',x'=.returned (.int .i64 0)→Slot entRow 5 36 base gl sl (.slice A L.length c) (L.take K++x::L.drop K) w w'→Puts entRow 5 36 base gl sl (.slice A L.length c) (put cf most x L) w x' w'):=Lib.hid (fun x' w' h h'=>by
    have:put cf most x L=some (L.take K++x::L.drop K):=by unfold put; rw [if_pos (by omega),HINS.out]
    rw [this]; exact⟨h,h'⟩)
   have hge:¬ (most:Int)≤(L.length:Int):=by omega
   have own1:=own_below ownW g1 (Nat.le_refl _); have hgl1:gl<w1.heap.size:=Nat.lt_of_lt_of_le hglW g1.size; have f1:∀ p,(Batch.grew w1 p).cell? ⟨gl,sl,none⟩=some (.slice A L.length c):=fun p=>(Batch.grew_cell hgl1 p).trans hc1; have f2:∀ p,(ldEnt (.pointer (some ⟨w.heap.size,0,none⟩))).run Tryz.prog (Batch.grew w1 p)=.ok (.agg #[.int .i64 x.1.n,.string (str x.1.path),.string (str x.1.parent),.int .i64 x.1.ttl,x.2]) (Batch.grew w1 p):=fun p=>ldEnt_blk ((b0.below g1).below (Batch.grew_below w1 p)) rfl; go_upto_region 2 with fail
   refine Batch.wp_region_move_segs [0] [] [1,2,3,4,5] [(6,fun v w'=>∃ gx,w1.heap.size≤gx∧v=.slice (some ⟨gx,0,none⟩) 1 1∧Blk w' gx (entRow x) 36)] [7,8,9] (by kernel_rfl) (by kernel_rfl) (by kernel_rfl) (by
    intro z hz; simp only [List.mem_cons,List.not_mem_nil,or_false] at hz; subst hz; exact Batch.stable_gr fun v w w' hb ⟨gx,e0,e,h⟩=>⟨gx,e0,e,h.below hb⟩) ?_
   simp only [Batch.segs,Batch.pick,List.getD_cons_zero,List.getD_cons_succ]; repeat (go_big_quiet_step (fail))
   refine wpQuiet_nil ?_; repeat (go_big_quiet_step (fail))
   refine wpQuiet_nil ?_; refine⟨_,rfl,rfl,?_,?_⟩
   ·intro w2 hw2
    have hwz:=hw2.below.size; go_simp
    exact⟨Batch.GR.of ((Below.refl _ _).alloc (Nat.le_refl _) _),w2.heap.size,hwz,rfl,Blk.new w2 (entRow x) _⟩
   ·rintro v w6 hw6 ⟨_,gx,hgx,rfl,hBx⟩
    have hb6:=hw6.below; have own6:=own_below own1 hb6 (Nat.le_refl _); have hc6:=(hb6.cell (p:=⟨gl,sl,none⟩) hgl1).trans hc1; have hgx':(Value.slice A L.length c).ownBlock≠some gx:=fun e=>by have:=(own1.lt gx e).2; omega
    have hb06:Below w.heap.size w w6:=hb1.trans (hb6.mono hb1.size); have hins6:=insEnt_any L x L.length K base (.slice A L.length c) gx w6 rfl own6 hBx hgx' HLE.out (by omega) (Nat.le_trans hbase hb06.size) h1 h1x; have HNE:=Lib.hid hne; have hf6:=(hb06.frozen (p:=⟨gl,sl,none⟩) hgl).trans hf; clear f1 f2 hne h1 h1x own1 ownW own6 hBx hgx' hw6 hgx HINS hlen hins HAT HOFF HISAT; have HRES2:Hid (∀ w7 A' c',w7.ownsRow base 36 5 (.slice A' (L.length+1) c') (L.length+1) (rows entRow (L.take K++x::L.drop K))→w6.grownBy w7 (Value.slice A L.length c).ownBlock→((Value.slice A' (L.length+1) c').ownBlock=(Value.slice A L.length c).ownBlock∨∃ g,w6.heap.size≤g∧(Value.slice A' (L.length+1) c').ownBlock=some g) →
      Puts entRow 5 36 base gl sl (.slice A L.length c) (put cf most x L) w (.returned (.int .i64 0)) (w7.setCell ⟨gl,sl,none⟩ (.slice A' (L.length+1) c'))):=Lib.hid (fun w7 A' c' h2 h3 h4=>HRES.out _ _ rfl ⟨_,w7,rfl,grown_after hb06 h3,by
       have:(L.take K++x::L.drop K).length=L.length+1:=by rw [List.length_append,List.length_cons,List.length_take,List.length_drop]; have:=HLE.out; omega
       rw [this]; exact h2,h4.imp id (fun ⟨g,hg,e⟩=>⟨g,Nat.le_trans hb06.size hg,e⟩)⟩)
    go_wp2_with fail
    refine hins6.mono ?_; rintro e w7 ⟨A',c',rfl,h2,h3,h4⟩; have hg7:=h3.block gl (Nat.lt_of_lt_of_le hgl hb06.size) (fun e=>HNE.out e.symm); have hc7:w7.cell? ⟨gl,sl,none⟩=some (.slice A L.length c):=(World.cell?_of_block (a:=⟨gl,sl,none⟩) hg7).trans hc6; have hf7:w7.frozen? ⟨gl,sl,none⟩=false:=(World.frozen?_of_block (a:=⟨gl,sl,none⟩) hg7).trans hf6; have hres:=Lib.hid (HRES2.out w7 A' c' h2 h3 h4); clear h2 h3 h4 HRES2 HRES; go_wp2; rw [Batch.Qn_normal]; go_wp2; go_ret; exact hres.out
  ·have HRES:Hid (∀ w',Below w.heap.size w w'→Puts entRow 5 36 base gl sl (.slice A L.length c) (put cf most x L) w (.returned (.int .i64 6)) w'):=Lib.hid (fun w' h=>by
    have:put cf most x L=none:=by unfold put; rw [if_neg (by omega)]
    rw [this]; exact⟨rfl,h⟩)
   have hge:(most:Int)≤(L.length:Int):=by omega
   go_wp2_with fail
   go_ret; exact HRES.out _ hb1
 ·rw [hat] at HV
  have hins:ins cf x L=L.set K x:=HAT.out hat; obtain⟨hKL,_⟩:=HISAT.out hat; have HINS:=Lib.hid hins; have HRES:Hid (∀ x' w',x'=.returned (.int .i64 0)→Slot entRow 5 36 base gl sl (.slice A L.length c) (L.set K x) w w'→Puts entRow 5 36 base gl sl (.slice A L.length c) (put cf most x L) w x' w'):=Lib.hid (fun x' w' h h'=>by
   have:put cf most x L=some (L.set K x):=by unfold put; rw [if_pos (by rw [HINS.out,List.length_set]; exact hn),HINS.out]
   rw [this]; exact⟨h,h'⟩)
  rcases own_cases ownW with⟨_,h0,_⟩|⟨g,c',M,he,hbg,hgw,hB,hnc',hcm',hM,hMt⟩
  ·omega
  injection he with he1 _ he3
  subst he1 he3; go_wp2_with fail
  refine Batch.wp_region_grew (by kernel_rfl) (by kernel_rfl) ?_; repeat (go_big_quiet_step (first|(go_at_call 132; exact Batch.calls_grew (HV.out _))|fail))
  refine wpQuiet_nil ?_; rintro _ ⟨px,rfl⟩; have g1:=Batch.grew_below W px; clear f1 f2 HV; generalize Batch.grew W px=w1 at *; have hc1:=(g1.cell (p:=⟨gl,sl,none⟩) hglW).trans hcW; have hgl1:gl<w1.heap.size:=Nat.lt_of_lt_of_le hglW g1.size; have b1:=b0.below g1; have hKi:(K:Int)<(L.length:Int):=by omega
  have f1:∀ p,(Batch.grew w1 p).cell? ⟨gl,sl,none⟩=some (.slice (some ⟨g,0,none⟩) L.length c):=fun p=>(Batch.grew_cell hgl1 p).trans hc1; have f2:∀ p,(ldEnt (.pointer (some ⟨w.heap.size,0,none⟩))).run Tryz.prog (Batch.grew w1 p)=.ok (.agg (entRow x).toArray) (Batch.grew w1 p):=fun p=>ldEnt_blk (b1.below (Batch.grew_below w1 p)) rfl; go_wp2_with fail
  refine Batch.wp_region_grew_tail 6 (by kernel_rfl) (by kernel_rfl) ?_; simp only [List.take_succ_cons,List.take_zero,List.drop_succ_cons,List.drop_zero]; repeat (go_big_quiet_step (fail))
  refine wpQuiet_nil ?_; rintro _ ⟨py,rfl⟩; have g2:Below W.heap.size W (Batch.grew w1 py):=g1.trans ((Batch.grew_below w1 py).mono g1.size); clear f1 f2; generalize Batch.grew w1 py=w2 at *; have hB2:=hB.below g2; have hst:(stEnt (.pointer (some ⟨g,K * 5,none⟩)) (.agg (entRow x).toArray)).run Tryz.prog w2=.ok () (w2.setRow g (splice M (K * 5) (entRow x)).toArray):=store_row sizeEnt hB2 rfl (by omega) h1x; have hc2:=(g2.cell (p:=⟨gl,sl,none⟩) hglW).trans hcW; have hb2:Below w.heap.size w w2:=hbW.trans (g2.mono hbW.size); have hgg:gl≠g:=fun e=>hne (by simp [Value.ownBlock,e]); have hB3:Blk (w2.setRow g (splice M (K * 5) (entRow x)).toArray) gl cs tl:=by
   unfold Blk; rw [setRow_other _ g gl _ hgg]; exact hbl.below hb2
  have hMe:splice M (K * 5) (entRow x)=rows entRow (L.set K x)++M.drop (L.length * 5):=by
   have e:M=rows entRow L++M.drop (L.length * 5):=by rw [← hMt,List.take_append_drop]
   conv=>lhs; rw [e]
   exact splice_set entRow_len hKL
  have hres:=HRES.out _ (w2.setRow g (splice M (K * 5) (entRow x)).toArray) rfl ⟨.slice (some ⟨g,0,none⟩) L.length c,w2.setRow g (splice M (K * 5) (entRow x)).toArray,(setCell_keep hB3 hsl).symm,grown_after hb2 (grown_setRow (grown_refl _ _)),by
   rw [List.length_set]; refine own_of_row hbg hB2.setRow hnc hcm' (by rw [length_splice _ _ _ (by rw [entRow_len]; omega),hM]) ?_
   rw [hMe,List.take_append_of_le_length (by rw [rows_length entRow_len,List.length_set]; exact Nat.le_refl _),List.take_of_length_le (by rw [rows_length entRow_len,List.length_set]; exact Nat.le_refl _)],.inl rfl⟩
  have HR:=Lib.hid hres; clear hres hB3 hMe HRES; go_wp2_with fail
  go_ret; exact HR.out
theorem putNod_any(gl sl:Nat) (g:Nat) (eg:∀ args w,(callFunc g args).run Tryz.prog w=.ok (.enter g args) w) (cf:Led.Node→Led.Node→Int) (hcf:Cmp cf) (x:Led.Node) (L:List (Led.Node)) (hr:Rises cf L) (base:Nat) (v:Value) (most:Nat) (w:World) (hn:L.length≤most) (hmost:most≤900)
  (cs:List Value) (tl:TypeId) (hbl:Blk w gl cs tl) (hsl:cs[sl]?=some v) (hown:w.ownsRow base 40 5 v L.length (rows nodeRow L)) (hne:v.ownBlock≠some gl) (hbase:base≤w.heap.size) (h1:∀ y∈L,∀ u∈nodeRow y,u.oneCell'=true) (h1x:∀ u∈nodeRow x,u.oneCell'=true)
  (hp:∀ (W:World) (y:Led.Node),y∈L→Below w.heap.size w W→Calls Tryz.prog g (#[.agg (nodeRow y).toArray,.agg (nodeRow x).toArray]) W fun e w'=>e=.returned (.int .i64 (cf y x))∧Below W.heap.size W w') :
  Calls Tryz.prog 91 #[.pointer (some ⟨gl,sl,none⟩),.agg (nodeRow x).toArray,.int .i64 most,.func (.func g) #[] #[]] w (Puts nodeRow 5 40 base gl sl v (put cf most x L) w):=by
 have hc:=(hbl.cell sl).trans hsl
 have hf:=hbl.froz sl
 have hgl:=hbl.lt
 obtain⟨A,c,rfl,hnc,hcm⟩:=own_form hown
 have hpl:=found_place (x:=x) hcf hr
 obtain⟨W,hW⟩:∃ W,w.alloc (.cells (nodeRow x).toArray 40)=W:=⟨_,rfl⟩
 have b0:Blk W w.heap.size (nodeRow x) 40:=by rw [← hW]; exact Blk.new w _ _
 have hbW:Below w.heap.size w W:=by rw [← hW]; exact(Below.refl _ _).alloc (Nat.le_refl _) _
 have hglW:gl<W.heap.size:=Nat.lt_of_lt_of_le hgl hbW.size
 have hcW:=(hbW.cell (p:=⟨gl,sl,none⟩) hgl).trans hc
 have ownW:=own_below hown hbW (Nat.le_refl _)
 have f1:∀ p,(Batch.grew W p).cell? ⟨gl,sl,none⟩=some (.slice A L.length c):=fun p=>(Batch.grew_cell hglW p).trans hcW
 have f2:∀ p,(ldNod (.pointer (some ⟨w.heap.size,0,none⟩))).run Tryz.prog (Batch.grew W p)=.ok (.agg (nodeRow x).toArray) (Batch.grew W p):=fun p=>ldNod_blk (b0.below (Batch.grew_below W p)) rfl
 have HV:Hid (∀ p,Calls Tryz.prog 137 #[.slice A L.length c,.agg (nodeRow x).toArray,.func (.func g) #[] #[]] (Batch.grew W p) fun e w'=>e=.returned (.tuple #[.int .i64 (cnt cf x L:Nat),.bool (isAt cf x L)])∧Below (Batch.grew W p).heap.size (Batch.grew W p) w'):=Lib.hid fun p =>
  found_det (bsNod_any g eg cf hcf x A L.length c L hr (Batch.grew W p) (Vs.of_own (own_below ownW (Batch.grew_below W p) (Nat.le_refl _))) (by omega) (fun W' y hy hb=>hp W' y hy (hbW.trans ((((Batch.grew_below W p).trans (hb.mono (Batch.grew_below W p).size))).mono hbW.size))))
 have HAT:=Lib.hid (fun h=>ins_at (x:=x) hcf hr hpl h)
 have HOFF:=Lib.hid (fun h=>ins_off (x:=x) hcf hr hpl h)
 have HLE:=Lib.hid hpl.le
 have HISAT:=Lib.hid (fun h=>isAt_iff.1 (show isAt cf x L=true from h))
 have HW:=Lib.hid hW
 clear hW hp hpl
 obtain⟨Y,hY⟩:∃ Y,(nodeRow x).toArray=Y:=⟨_,rfl⟩
 have HW':Hid (w.alloc (.cells Y 40)=W):=Lib.hid (by rw [← hY]; exact HW.out)
 have HY:=Lib.hid hY
 rw [hY] at f2 HV ⊢
 clear hY HW
 obtain⟨K,hK⟩:∃ K,cnt cf x L=K:=⟨_,rfl⟩
 rw [hK] at HV HAT HOFF HLE HISAT
 go_enter Tryz.func91,Tryz.ntmps91
 go_upto_region 1 with fail
 rw [HW'.out]
 clear HW'
 cases hat:isAt cf x L
 ·rw [hat] at HV
  have hins:ins cf x L=L.take K++x::L.drop K:=HOFF.out hat; have hlen:(ins cf x L).length=L.length+1:=by rw [hins,List.length_append,List.length_cons,List.length_take,List.length_drop]; have:=HLE.out; omega
  have HINS:=Lib.hid hins; go_wp2_with fail
  refine Batch.wp_region_grew (by kernel_rfl) (by kernel_rfl) ?_; repeat (go_big_quiet_step (first|(go_at_call 137; exact Batch.calls_grew (HV.out _))|fail))
  refine wpQuiet_nil ?_; rintro _ ⟨px,rfl⟩; have g1:=Batch.grew_below W px; clear f1 f2 HV; generalize Batch.grew W px=w1 at *; have hb1:Below w.heap.size w w1:=hbW.trans (g1.mono hbW.size); have hc1:=(g1.cell (p:=⟨gl,sl,none⟩) hglW).trans hcW; by_cases hroom:L.length+1≤most
  ·have HRES:Hid (∀ x' w',x'=.returned (.int .i64 0)→Slot nodeRow 5 40 base gl sl (.slice A L.length c) (L.take K++x::L.drop K) w w'→Puts nodeRow 5 40 base gl sl (.slice A L.length c) (put cf most x L) w x' w'):=Lib.hid (fun x' w' h h'=>by
    have:put cf most x L=some (L.take K++x::L.drop K):=by unfold put; rw [if_pos (by omega),HINS.out]
    rw [this]; exact⟨h,h'⟩)
   have hge:¬ (most:Int)≤(L.length:Int):=by omega
   have own1:=own_below ownW g1 (Nat.le_refl _); have hgl1:gl<w1.heap.size:=Nat.lt_of_lt_of_le hglW g1.size; have f1:∀ p,(Batch.grew w1 p).cell? ⟨gl,sl,none⟩=some (.slice A L.length c):=fun p=>(Batch.grew_cell hgl1 p).trans hc1; have f2:∀ p,(ldNod (.pointer (some ⟨w.heap.size,0,none⟩))).run Tryz.prog (Batch.grew w1 p)=.ok (.agg #[.string (str x.name),.string (str x.key),.int .i64 x.expires,.int .i64 x.seq,.string (str x.doc)]) (Batch.grew w1 p):=fun p=>ldNod_blk ((b0.below g1).below (Batch.grew_below w1 p)) rfl; go_upto_region 2 with fail
   refine Batch.wp_region_move_segs [0] [] [1,2,3,4,5] [(6,fun v w'=>∃ gx,w1.heap.size≤gx∧v=.slice (some ⟨gx,0,none⟩) 1 1∧Blk w' gx (nodeRow x) 40)] [7,8,9] (by kernel_rfl) (by kernel_rfl) (by kernel_rfl) (by
    intro z hz; simp only [List.mem_cons,List.not_mem_nil,or_false] at hz; subst hz; exact Batch.stable_gr fun v w w' hb ⟨gx,e0,e,h⟩=>⟨gx,e0,e,h.below hb⟩) ?_
   simp only [Batch.segs,Batch.pick,List.getD_cons_zero,List.getD_cons_succ]; repeat (go_big_quiet_step (fail))
   refine wpQuiet_nil ?_; repeat (go_big_quiet_step (fail))
   refine wpQuiet_nil ?_; refine⟨_,rfl,rfl,?_,?_⟩
   ·intro w2 hw2
    have hwz:=hw2.below.size; go_simp
    exact⟨Batch.GR.of ((Below.refl _ _).alloc (Nat.le_refl _) _),w2.heap.size,hwz,rfl,Blk.new w2 (nodeRow x) _⟩
   ·rintro v w6 hw6 ⟨_,gx,hgx,rfl,hBx⟩
    have hb6:=hw6.below; have own6:=own_below own1 hb6 (Nat.le_refl _); have hc6:=(hb6.cell (p:=⟨gl,sl,none⟩) hgl1).trans hc1; have hgx':(Value.slice A L.length c).ownBlock≠some gx:=fun e=>by have:=(own1.lt gx e).2; omega
    have hb06:Below w.heap.size w w6:=hb1.trans (hb6.mono hb1.size); have hins6:=insNod_any L x L.length K base (.slice A L.length c) gx w6 rfl own6 hBx hgx' HLE.out (by omega) (Nat.le_trans hbase hb06.size) h1 h1x; have HNE:=Lib.hid hne; have hf6:=(hb06.frozen (p:=⟨gl,sl,none⟩) hgl).trans hf; clear f1 f2 hne h1 h1x own1 ownW own6 hBx hgx' hw6 hgx HINS hlen hins HAT HOFF HISAT; have HRES2:Hid (∀ w7 A' c',w7.ownsRow base 40 5 (.slice A' (L.length+1) c') (L.length+1) (rows nodeRow (L.take K++x::L.drop K))→w6.grownBy w7 (Value.slice A L.length c).ownBlock→((Value.slice A' (L.length+1) c').ownBlock=(Value.slice A L.length c).ownBlock∨∃ g,w6.heap.size≤g∧(Value.slice A' (L.length+1) c').ownBlock=some g) →
      Puts nodeRow 5 40 base gl sl (.slice A L.length c) (put cf most x L) w (.returned (.int .i64 0)) (w7.setCell ⟨gl,sl,none⟩ (.slice A' (L.length+1) c'))):=Lib.hid (fun w7 A' c' h2 h3 h4=>HRES.out _ _ rfl ⟨_,w7,rfl,grown_after hb06 h3,by
       have:(L.take K++x::L.drop K).length=L.length+1:=by rw [List.length_append,List.length_cons,List.length_take,List.length_drop]; have:=HLE.out; omega
       rw [this]; exact h2,h4.imp id (fun ⟨g,hg,e⟩=>⟨g,Nat.le_trans hb06.size hg,e⟩)⟩)
    go_wp2_with fail
    refine hins6.mono ?_; rintro e w7 ⟨A',c',rfl,h2,h3,h4⟩; have hg7:=h3.block gl (Nat.lt_of_lt_of_le hgl hb06.size) (fun e=>HNE.out e.symm); have hc7:w7.cell? ⟨gl,sl,none⟩=some (.slice A L.length c):=(World.cell?_of_block (a:=⟨gl,sl,none⟩) hg7).trans hc6; have hf7:w7.frozen? ⟨gl,sl,none⟩=false:=(World.frozen?_of_block (a:=⟨gl,sl,none⟩) hg7).trans hf6; have hres:=Lib.hid (HRES2.out w7 A' c' h2 h3 h4); clear h2 h3 h4 HRES2 HRES; go_wp2; rw [Batch.Qn_normal]; go_wp2; go_ret; exact hres.out
  ·have HRES:Hid (∀ w',Below w.heap.size w w'→Puts nodeRow 5 40 base gl sl (.slice A L.length c) (put cf most x L) w (.returned (.int .i64 6)) w'):=Lib.hid (fun w' h=>by
    have:put cf most x L=none:=by unfold put; rw [if_neg (by omega)]
    rw [this]; exact⟨rfl,h⟩)
   have hge:(most:Int)≤(L.length:Int):=by omega
   go_wp2_with fail
   go_ret; exact HRES.out _ hb1
 ·rw [hat] at HV
  have hins:ins cf x L=L.set K x:=HAT.out hat; obtain⟨hKL,_⟩:=HISAT.out hat; have HINS:=Lib.hid hins; have HRES:Hid (∀ x' w',x'=.returned (.int .i64 0)→Slot nodeRow 5 40 base gl sl (.slice A L.length c) (L.set K x) w w'→Puts nodeRow 5 40 base gl sl (.slice A L.length c) (put cf most x L) w x' w'):=Lib.hid (fun x' w' h h'=>by
   have:put cf most x L=some (L.set K x):=by unfold put; rw [if_pos (by rw [HINS.out,List.length_set]; exact hn),HINS.out]
   rw [this]; exact⟨h,h'⟩)
  rcases own_cases ownW with⟨_,h0,_⟩|⟨g,c',M,he,hbg,hgw,hB,hnc',hcm',hM,hMt⟩
  ·omega
  injection he with he1 _ he3
  subst he1 he3; go_wp2_with fail
  refine Batch.wp_region_grew (by kernel_rfl) (by kernel_rfl) ?_; repeat (go_big_quiet_step (first|(go_at_call 137; exact Batch.calls_grew (HV.out _))|fail))
  refine wpQuiet_nil ?_; rintro _ ⟨px,rfl⟩; have g1:=Batch.grew_below W px; clear f1 f2 HV; generalize Batch.grew W px=w1 at *; have hc1:=(g1.cell (p:=⟨gl,sl,none⟩) hglW).trans hcW; have hgl1:gl<w1.heap.size:=Nat.lt_of_lt_of_le hglW g1.size; have b1:=b0.below g1; have hKi:(K:Int)<(L.length:Int):=by omega
  have f1:∀ p,(Batch.grew w1 p).cell? ⟨gl,sl,none⟩=some (.slice (some ⟨g,0,none⟩) L.length c):=fun p=>(Batch.grew_cell hgl1 p).trans hc1; have f2:∀ p,(ldNod (.pointer (some ⟨w.heap.size,0,none⟩))).run Tryz.prog (Batch.grew w1 p)=.ok (.agg (nodeRow x).toArray) (Batch.grew w1 p):=fun p=>ldNod_blk (b1.below (Batch.grew_below w1 p)) rfl; go_wp2_with fail
  refine Batch.wp_region_grew_tail 6 (by kernel_rfl) (by kernel_rfl) ?_; simp only [List.take_succ_cons,List.take_zero,List.drop_succ_cons,List.drop_zero]; repeat (go_big_quiet_step (fail))
  refine wpQuiet_nil ?_; rintro _ ⟨py,rfl⟩; have g2:Below W.heap.size W (Batch.grew w1 py):=g1.trans ((Batch.grew_below w1 py).mono g1.size); clear f1 f2; generalize Batch.grew w1 py=w2 at *; have hB2:=hB.below g2; have hst:(stNod (.pointer (some ⟨g,K * 5,none⟩)) (.agg (nodeRow x).toArray)).run Tryz.prog w2=.ok () (w2.setRow g (splice M (K * 5) (nodeRow x)).toArray):=store_row sizeNod hB2 rfl (by omega) h1x; have hc2:=(g2.cell (p:=⟨gl,sl,none⟩) hglW).trans hcW; have hb2:Below w.heap.size w w2:=hbW.trans (g2.mono hbW.size); have hgg:gl≠g:=fun e=>hne (by simp [Value.ownBlock,e]); have hB3:Blk (w2.setRow g (splice M (K * 5) (nodeRow x)).toArray) gl cs tl:=by
   unfold Blk; rw [setRow_other _ g gl _ hgg]; exact hbl.below hb2
  have hMe:splice M (K * 5) (nodeRow x)=rows nodeRow (L.set K x)++M.drop (L.length * 5):=by
   have e:M=rows nodeRow L++M.drop (L.length * 5):=by rw [← hMt,List.take_append_drop]
   conv=>lhs; rw [e]
   exact splice_set nodeRow_len hKL
  have hres:=HRES.out _ (w2.setRow g (splice M (K * 5) (nodeRow x)).toArray) rfl ⟨.slice (some ⟨g,0,none⟩) L.length c,w2.setRow g (splice M (K * 5) (nodeRow x)).toArray,(setCell_keep hB3 hsl).symm,grown_after hb2 (grown_setRow (grown_refl _ _)),by
   rw [List.length_set]; refine own_of_row hbg hB2.setRow hnc hcm' (by rw [length_splice _ _ _ (by rw [nodeRow_len]; omega),hM]) ?_
   rw [hMe,List.take_append_of_le_length (by rw [rows_length nodeRow_len,List.length_set]; exact Nat.le_refl _),List.take_of_length_le (by rw [rows_length nodeRow_len,List.length_set]; exact Nat.le_refl _)],.inl rfl⟩
  have HR:=Lib.hid hres; clear hres hB3 hMe HRES; go_wp2_with fail
  go_ret; exact HR.out
theorem putBun_any(gl sl:Nat) (g:Nat) (eg:∀ args w,(callFunc g args).run Tryz.prog w=.ok (.enter g args) w) (cf:Led.Bundle × Value→Led.Bundle × Value→Int) (hcf:Cmp cf) (x:Led.Bundle × Value) (L:List (Led.Bundle × Value)) (hr:Rises cf L) (base:Nat) (v:Value) (most:Nat) (w:World) (hn:L.length≤most) (hmost:most≤900)
  (cs:List Value) (tl:TypeId) (hbl:Blk w gl cs tl) (hsl:cs[sl]?=some v) (hown:w.ownsRow base 45 3 v L.length (rows bunRow L)) (hne:v.ownBlock≠some gl) (hbase:base≤w.heap.size) (h1:∀ y∈L,∀ u∈bunRow y,u.oneCell'=true) (h1x:∀ u∈bunRow x,u.oneCell'=true)
  (hp:∀ (W:World) (y:Led.Bundle × Value),y∈L→Below w.heap.size w W→Calls Tryz.prog g (#[.agg (bunRow y).toArray,.agg (bunRow x).toArray]) W fun e w'=>e=.returned (.int .i64 (cf y x))∧Below W.heap.size W w') :
  Calls Tryz.prog 110 #[.pointer (some ⟨gl,sl,none⟩),.agg (bunRow x).toArray,.int .i64 most,.func (.func g) #[] #[]] w (Puts bunRow 3 45 base gl sl v (put cf most x L) w):=by
 have hc:=(hbl.cell sl).trans hsl
 have hf:=hbl.froz sl
 have hgl:=hbl.lt
 obtain⟨A,c,rfl,hnc,hcm⟩:=own_form hown
 have hpl:=found_place (x:=x) hcf hr
 obtain⟨W,hW⟩:∃ W,w.alloc (.cells (bunRow x).toArray 45)=W:=⟨_,rfl⟩
 have b0:Blk W w.heap.size (bunRow x) 45:=by rw [← hW]; exact Blk.new w _ _
 have hbW:Below w.heap.size w W:=by rw [← hW]; exact(Below.refl _ _).alloc (Nat.le_refl _) _
 have hglW:gl<W.heap.size:=Nat.lt_of_lt_of_le hgl hbW.size
 have hcW:=(hbW.cell (p:=⟨gl,sl,none⟩) hgl).trans hc
 have ownW:=own_below hown hbW (Nat.le_refl _)
 have f1:∀ p,(Batch.grew W p).cell? ⟨gl,sl,none⟩=some (.slice A L.length c):=fun p=>(Batch.grew_cell hglW p).trans hcW
 have f2:∀ p,(ldBun (.pointer (some ⟨w.heap.size,0,none⟩))).run Tryz.prog (Batch.grew W p)=.ok (.agg (bunRow x).toArray) (Batch.grew W p):=fun p=>ldBun_blk (b0.below (Batch.grew_below W p)) rfl
 have HV:Hid (∀ p,Calls Tryz.prog 151 #[.slice A L.length c,.agg (bunRow x).toArray,.func (.func g) #[] #[]] (Batch.grew W p) fun e w'=>e=.returned (.tuple #[.int .i64 (cnt cf x L:Nat),.bool (isAt cf x L)])∧Below (Batch.grew W p).heap.size (Batch.grew W p) w'):=Lib.hid fun p =>
  found_det (bsBun_any g eg cf hcf x A L.length c L hr (Batch.grew W p) (Vs.of_own (own_below ownW (Batch.grew_below W p) (Nat.le_refl _))) (by omega) (fun W' y hy hb=>hp W' y hy (hbW.trans ((((Batch.grew_below W p).trans (hb.mono (Batch.grew_below W p).size))).mono hbW.size))))
 have HAT:=Lib.hid (fun h=>ins_at (x:=x) hcf hr hpl h)
 have HOFF:=Lib.hid (fun h=>ins_off (x:=x) hcf hr hpl h)
 have HLE:=Lib.hid hpl.le
 have HISAT:=Lib.hid (fun h=>isAt_iff.1 (show isAt cf x L=true from h))
 have HW:=Lib.hid hW
 clear hW hp hpl
 obtain⟨Y,hY⟩:∃ Y,(bunRow x).toArray=Y:=⟨_,rfl⟩
 have HW':Hid (w.alloc (.cells Y 45)=W):=Lib.hid (by rw [← hY]; exact HW.out)
 have HY:=Lib.hid hY
 rw [hY] at f2 HV ⊢
 clear hY HW
 obtain⟨K,hK⟩:∃ K,cnt cf x L=K:=⟨_,rfl⟩
 rw [hK] at HV HAT HOFF HLE HISAT
 go_enter Tryz.func110,Tryz.ntmps110
 go_upto_region 1 with fail
 rw [HW'.out]
 clear HW'
 cases hat:isAt cf x L
 ·rw [hat] at HV
  have hins:ins cf x L=L.take K++x::L.drop K:=HOFF.out hat; have hlen:(ins cf x L).length=L.length+1:=by rw [hins,List.length_append,List.length_cons,List.length_take,List.length_drop]; have:=HLE.out; omega
  have HINS:=Lib.hid hins; go_wp2_with fail
  refine Batch.wp_region_grew (by kernel_rfl) (by kernel_rfl) ?_; repeat (go_big_quiet_step (first|(go_at_call 151; exact Batch.calls_grew (HV.out _))|fail))
  refine wpQuiet_nil ?_; rintro _ ⟨px,rfl⟩; have g1:=Batch.grew_below W px; clear f1 f2 HV; generalize Batch.grew W px=w1 at *; have hb1:Below w.heap.size w w1:=hbW.trans (g1.mono hbW.size); have hc1:=(g1.cell (p:=⟨gl,sl,none⟩) hglW).trans hcW; by_cases hroom:L.length+1≤most
  ·have HRES:Hid (∀ x' w',x'=.returned (.int .i64 0)→Slot bunRow 3 45 base gl sl (.slice A L.length c) (L.take K++x::L.drop K) w w'→Puts bunRow 3 45 base gl sl (.slice A L.length c) (put cf most x L) w x' w'):=Lib.hid (fun x' w' h h'=>by
    have:put cf most x L=some (L.take K++x::L.drop K):=by unfold put; rw [if_pos (by omega),HINS.out]
    rw [this]; exact⟨h,h'⟩)
   have hge:¬ (most:Int)≤(L.length:Int):=by omega
   have own1:=own_below ownW g1 (Nat.le_refl _); have hgl1:gl<w1.heap.size:=Nat.lt_of_lt_of_le hglW g1.size; have f1:∀ p,(Batch.grew w1 p).cell? ⟨gl,sl,none⟩=some (.slice A L.length c):=fun p=>(Batch.grew_cell hgl1 p).trans hc1; have f2:∀ p,(ldBun (.pointer (some ⟨w.heap.size,0,none⟩))).run Tryz.prog (Batch.grew w1 p)=.ok (.agg #[.string (str x.1.domain),.int .i64 x.1.number,x.2]) (Batch.grew w1 p):=fun p=>ldBun_blk ((b0.below g1).below (Batch.grew_below w1 p)) rfl; go_upto_region 2 with fail
   refine Batch.wp_region_move_segs [0] [] [1,2,3,4,5] [(6,fun v w'=>∃ gx,w1.heap.size≤gx∧v=.slice (some ⟨gx,0,none⟩) 1 1∧Blk w' gx (bunRow x) 45)] [7,8,9] (by kernel_rfl) (by kernel_rfl) (by kernel_rfl) (by
    intro z hz; simp only [List.mem_cons,List.not_mem_nil,or_false] at hz; subst hz; exact Batch.stable_gr fun v w w' hb ⟨gx,e0,e,h⟩=>⟨gx,e0,e,h.below hb⟩) ?_
   simp only [Batch.segs,Batch.pick,List.getD_cons_zero,List.getD_cons_succ]; repeat (go_big_quiet_step (fail))
   refine wpQuiet_nil ?_; repeat (go_big_quiet_step (fail))
   refine wpQuiet_nil ?_; refine⟨_,rfl,rfl,?_,?_⟩
   ·intro w2 hw2
    have hwz:=hw2.below.size; go_simp
    exact⟨Batch.GR.of ((Below.refl _ _).alloc (Nat.le_refl _) _),w2.heap.size,hwz,rfl,Blk.new w2 (bunRow x) _⟩
   ·rintro v w6 hw6 ⟨_,gx,hgx,rfl,hBx⟩
    have hb6:=hw6.below; have own6:=own_below own1 hb6 (Nat.le_refl _); have hc6:=(hb6.cell (p:=⟨gl,sl,none⟩) hgl1).trans hc1; have hgx':(Value.slice A L.length c).ownBlock≠some gx:=fun e=>by have:=(own1.lt gx e).2; omega
    have hb06:Below w.heap.size w w6:=hb1.trans (hb6.mono hb1.size); have hins6:=insBun_any L x L.length K base (.slice A L.length c) gx w6 rfl own6 hBx hgx' HLE.out (by omega) (Nat.le_trans hbase hb06.size) h1 h1x; have HNE:=Lib.hid hne; have hf6:=(hb06.frozen (p:=⟨gl,sl,none⟩) hgl).trans hf; clear f1 f2 hne h1 h1x own1 ownW own6 hBx hgx' hw6 hgx HINS hlen hins HAT HOFF HISAT; have HRES2:Hid (∀ w7 A' c',w7.ownsRow base 45 3 (.slice A' (L.length+1) c') (L.length+1) (rows bunRow (L.take K++x::L.drop K))→w6.grownBy w7 (Value.slice A L.length c).ownBlock→((Value.slice A' (L.length+1) c').ownBlock=(Value.slice A L.length c).ownBlock∨∃ g,w6.heap.size≤g∧(Value.slice A' (L.length+1) c').ownBlock=some g) →
      Puts bunRow 3 45 base gl sl (.slice A L.length c) (put cf most x L) w (.returned (.int .i64 0)) (w7.setCell ⟨gl,sl,none⟩ (.slice A' (L.length+1) c'))):=Lib.hid (fun w7 A' c' h2 h3 h4=>HRES.out _ _ rfl ⟨_,w7,rfl,grown_after hb06 h3,by
       have:(L.take K++x::L.drop K).length=L.length+1:=by rw [List.length_append,List.length_cons,List.length_take,List.length_drop]; have:=HLE.out; omega
       rw [this]; exact h2,h4.imp id (fun ⟨g,hg,e⟩=>⟨g,Nat.le_trans hb06.size hg,e⟩)⟩)
    go_wp2_with fail
    refine hins6.mono ?_; rintro e w7 ⟨A',c',rfl,h2,h3,h4⟩; have hg7:=h3.block gl (Nat.lt_of_lt_of_le hgl hb06.size) (fun e=>HNE.out e.symm); have hc7:w7.cell? ⟨gl,sl,none⟩=some (.slice A L.length c):=(World.cell?_of_block (a:=⟨gl,sl,none⟩) hg7).trans hc6; have hf7:w7.frozen? ⟨gl,sl,none⟩=false:=(World.frozen?_of_block (a:=⟨gl,sl,none⟩) hg7).trans hf6; have hres:=Lib.hid (HRES2.out w7 A' c' h2 h3 h4); clear h2 h3 h4 HRES2 HRES; go_wp2; rw [Batch.Qn_normal]; go_wp2; go_ret; exact hres.out
  ·have HRES:Hid (∀ w',Below w.heap.size w w'→Puts bunRow 3 45 base gl sl (.slice A L.length c) (put cf most x L) w (.returned (.int .i64 6)) w'):=Lib.hid (fun w' h=>by
    have:put cf most x L=none:=by unfold put; rw [if_neg (by omega)]
    rw [this]; exact⟨rfl,h⟩)
   have hge:(most:Int)≤(L.length:Int):=by omega
   go_wp2_with fail
   go_ret; exact HRES.out _ hb1
 ·rw [hat] at HV
  have hins:ins cf x L=L.set K x:=HAT.out hat; obtain⟨hKL,_⟩:=HISAT.out hat; have HINS:=Lib.hid hins; have HRES:Hid (∀ x' w',x'=.returned (.int .i64 0)→Slot bunRow 3 45 base gl sl (.slice A L.length c) (L.set K x) w w'→Puts bunRow 3 45 base gl sl (.slice A L.length c) (put cf most x L) w x' w'):=Lib.hid (fun x' w' h h'=>by
   have:put cf most x L=some (L.set K x):=by unfold put; rw [if_pos (by rw [HINS.out,List.length_set]; exact hn),HINS.out]
   rw [this]; exact⟨h,h'⟩)
  rcases own_cases ownW with⟨_,h0,_⟩|⟨g,c',M,he,hbg,hgw,hB,hnc',hcm',hM,hMt⟩
  ·omega
  injection he with he1 _ he3
  subst he1 he3; go_wp2_with fail
  refine Batch.wp_region_grew (by kernel_rfl) (by kernel_rfl) ?_; repeat (go_big_quiet_step (first|(go_at_call 151; exact Batch.calls_grew (HV.out _))|fail))
  refine wpQuiet_nil ?_; rintro _ ⟨px,rfl⟩; have g1:=Batch.grew_below W px; clear f1 f2 HV; generalize Batch.grew W px=w1 at *; have hc1:=(g1.cell (p:=⟨gl,sl,none⟩) hglW).trans hcW; have hgl1:gl<w1.heap.size:=Nat.lt_of_lt_of_le hglW g1.size; have b1:=b0.below g1; have hKi:(K:Int)<(L.length:Int):=by omega
  have f1:∀ p,(Batch.grew w1 p).cell? ⟨gl,sl,none⟩=some (.slice (some ⟨g,0,none⟩) L.length c):=fun p=>(Batch.grew_cell hgl1 p).trans hc1; have f2:∀ p,(ldBun (.pointer (some ⟨w.heap.size,0,none⟩))).run Tryz.prog (Batch.grew w1 p)=.ok (.agg (bunRow x).toArray) (Batch.grew w1 p):=fun p=>ldBun_blk (b1.below (Batch.grew_below w1 p)) rfl; go_wp2_with fail
  refine Batch.wp_region_grew_tail 6 (by kernel_rfl) (by kernel_rfl) ?_; simp only [List.take_succ_cons,List.take_zero,List.drop_succ_cons,List.drop_zero]; repeat (go_big_quiet_step (fail))
  refine wpQuiet_nil ?_; rintro _ ⟨py,rfl⟩; have g2:Below W.heap.size W (Batch.grew w1 py):=g1.trans ((Batch.grew_below w1 py).mono g1.size); clear f1 f2; generalize Batch.grew w1 py=w2 at *; have hB2:=hB.below g2; have hst:(stBun (.pointer (some ⟨g,K * 3,none⟩)) (.agg (bunRow x).toArray)).run Tryz.prog w2=.ok () (w2.setRow g (splice M (K * 3) (bunRow x)).toArray):=store_row sizeBun hB2 rfl (by omega) h1x; have hc2:=(g2.cell (p:=⟨gl,sl,none⟩) hglW).trans hcW; have hb2:Below w.heap.size w w2:=hbW.trans (g2.mono hbW.size); have hgg:gl≠g:=fun e=>hne (by simp [Value.ownBlock,e]); have hB3:Blk (w2.setRow g (splice M (K * 3) (bunRow x)).toArray) gl cs tl:=by
   unfold Blk; rw [setRow_other _ g gl _ hgg]; exact hbl.below hb2
  have hMe:splice M (K * 3) (bunRow x)=rows bunRow (L.set K x)++M.drop (L.length * 3):=by
   have e:M=rows bunRow L++M.drop (L.length * 3):=by rw [← hMt,List.take_append_drop]
   conv=>lhs; rw [e]
   exact splice_set bunRow_len hKL
  have hres:=HRES.out _ (w2.setRow g (splice M (K * 3) (bunRow x)).toArray) rfl ⟨.slice (some ⟨g,0,none⟩) L.length c,w2.setRow g (splice M (K * 3) (bunRow x)).toArray,(setCell_keep hB3 hsl).symm,grown_after hb2 (grown_setRow (grown_refl _ _)),by
   rw [List.length_set]; refine own_of_row hbg hB2.setRow hnc hcm' (by rw [length_splice _ _ _ (by rw [bunRow_len]; omega),hM]) ?_
   rw [hMe,List.take_append_of_le_length (by rw [rows_length bunRow_len,List.length_set]; exact Nat.le_refl _),List.take_of_length_le (by rw [rows_length bunRow_len,List.length_set]; exact Nat.le_refl _)],.inl rfl⟩
  have HR:=Lib.hid hres; clear hres hB3 hMe HRES; go_wp2_with fail
  go_ret; exact HR.out
end
section
open Go.RowKit Mem Led
theorem strRow_one(s:Txt):∀ u∈strRow s,u.oneCell'=true:=by
 intro u hu
 simp [strRow,tx] at hu
 subst hu
 rfl
theorem putStr_any(gl sl:Nat) (x:Txt) (L:List Txt) (hr:Rises ord L) (base:Nat) (v:Value) (most:Nat) (w:World) (hn:L.length≤most) (hmost:most≤900)
  (cs:List Value) (tl:TypeId) (hbl:Blk w gl cs tl) (hsl:cs[sl]?=some v) (hown:w.ownsRow base 9 1 v L.length (rows strRow L)) (hne:v.ownBlock≠some gl) (hbase:base≤w.heap.size) :
  Calls Tryz.prog 95 #[.pointer (some ⟨gl,sl,none⟩),.string (str x),.int .i64 most,.func (.func 93) #[] #[]] w (Puts strRow 1 9 base gl sl v (put ord most x L) w):=by
 have hc:=(hbl.cell sl).trans hsl
 have hf:=hbl.froz sl
 have hgl:=hbl.lt
 obtain⟨A,c,rfl,hnc,hcm⟩:=own_form hown
 have hpl:=found_place (x:=x) ord_cmp' hr
 have hbs:=found_det (bsStr_any x A L.length c L hr w (ts_own hown) (by omega))
 have HAT:=Lib.hid (fun h=>ins_at (x:=x) ord_cmp' hr hpl h)
 have HOFF:=Lib.hid (fun h=>ins_off (x:=x) ord_cmp' hr hpl h)
 have HLE:=Lib.hid hpl.le
 have HISAT:=Lib.hid (fun h=>isAt_iff.1 (show isAt ord x L=true from h))
 clear hpl
 obtain⟨K,hK⟩:∃ K,cnt ord x L=K:=⟨_,rfl⟩
 rw [hK] at hbs HAT HOFF HLE HISAT
 go_enter Tryz.func95,Tryz.ntmps95
 cases hat:isAt ord x L
 ·rw [hat] at hbs
  have hins:ins ord x L=L.take K++x::L.drop K:=HOFF.out hat; have hlen:(ins ord x L).length=L.length+1:=by rw [hins,List.length_append,List.length_cons,List.length_take,List.length_drop]; have:=HLE.out; omega
  have HINS:=Lib.hid hins; have hle:=HLE.out; go_wp2_with fail
  refine hbs.mono ?_; rintro e w1 ⟨rfl,hb1⟩; have hc1:=(hb1.cell (p:=⟨gl,sl,none⟩) hgl).trans hc; by_cases hroom:L.length+1≤most
  ·have HRES:Hid (∀ x' w',x'=.returned (.int .i64 0)→Slot strRow 1 9 base gl sl (.slice A L.length c) (L.take K++x::L.drop K) w w'→Puts strRow 1 9 base gl sl (.slice A L.length c) (put ord most x L) w x' w'):=Lib.hid (fun x' w' h h'=>by
    have:put ord most x L=some (L.take K++x::L.drop K):=by unfold put; rw [if_pos (by omega),HINS.out]
    rw [this]; exact⟨h,h'⟩)
   have hge:¬ (most:Int)≤(L.length:Int):=by omega
   have own1:=own_below hown hb1 (Nat.le_refl _); have own6:=World.ownsRow.alloc own1 (.cells #[.string (str x)] 9); have hBx:Blk (w1.alloc (.cells #[.string (str x)] 9)) w1.heap.size (strRow x) 9:=Blk.new w1 (strRow x) _; have hgx':(Value.slice A L.length c).ownBlock≠some w1.heap.size:=fun e=>by have:=(own1.lt _ e).2; omega
   have hb6:Below w1.heap.size w1 (w1.alloc (.cells #[.string (str x)] 9)):=(Below.refl _ _).alloc (Nat.le_refl _) _; have hb06:Below w.heap.size w (w1.alloc (.cells #[.string (str x)] 9)):=hb1.trans (hb6.mono hb1.size); have hins6:=insStr_any L x L.length K base (.slice A L.length c) w1.heap.size _ rfl own6 hBx hgx' hle (by omega) (Nat.le_trans hbase hb06.size) (fun y _=>strRow_one y) (strRow_one x); have hc6:=(hb06.cell (p:=⟨gl,sl,none⟩) hgl).trans hc; have hf6:=(hb06.frozen (p:=⟨gl,sl,none⟩) hgl).trans hf; have HNE:=Lib.hid hne; have HRES2:Hid (∀ w7 A' c',w7.ownsRow base 9 1 (.slice A' (L.length+1) c') (L.length+1) (rows strRow (L.take K++x::L.drop K))→(w1.alloc (.cells #[.string (str x)] 9)).grownBy w7 (Value.slice A L.length c).ownBlock→((Value.slice A' (L.length+1) c').ownBlock=(Value.slice A L.length c).ownBlock∨∃ g,(w1.alloc (.cells #[.string (str x)] 9)).heap.size≤g∧(Value.slice A' (L.length+1) c').ownBlock=some g) →
     Puts strRow 1 9 base gl sl (.slice A L.length c) (put ord most x L) w (.returned (.int .i64 0)) (w7.setCell ⟨gl,sl,none⟩ (.slice A' (L.length+1) c'))):=Lib.hid (fun w7 A' c' h2 h3 h4=>HRES.out _ _ rfl ⟨_,w7,rfl,grown_after hb06 h3,by
      have:(L.take K++x::L.drop K).length=L.length+1:=by rw [List.length_append,List.length_cons,List.length_take,List.length_drop]; omega
      rw [this]; exact h2,h4.imp id (fun ⟨g,hg,e⟩=>⟨g,Nat.le_trans hb06.size hg,e⟩)⟩)
   have hgl6:gl<(w1.alloc (.cells #[.string (str x)] 9)).heap.size:=Nat.lt_of_lt_of_le hgl hb06.size; clear hne own1 own6 hBx hgx' HINS hlen hins HAT HOFF HISAT hb6 hb06 HRES; go_wp2_with fail
   refine hins6.mono ?_; rintro e w7 ⟨A',c',rfl,h2,h3,h4⟩; have hg7:=h3.block gl hgl6 (fun e=>HNE.out e.symm); have hc7:w7.cell? ⟨gl,sl,none⟩=some (.slice A L.length c):=(World.cell?_of_block (a:=⟨gl,sl,none⟩) hg7).trans hc6; have hf7:w7.frozen? ⟨gl,sl,none⟩=false:=(World.frozen?_of_block (a:=⟨gl,sl,none⟩) hg7).trans hf6; have hres:=Lib.hid (HRES2.out w7 A' c' h2 h3 h4); clear h2 h3 h4 HRES2; go_wp2; go_ret; exact hres.out
  ·have HRES:Hid (∀ w',Below w.heap.size w w'→Puts strRow 1 9 base gl sl (.slice A L.length c) (put ord most x L) w (.returned (.int .i64 6)) w'):=Lib.hid (fun w' h=>by
    have:put ord most x L=none:=by unfold put; rw [if_neg (by omega)]
    rw [this]; exact⟨rfl,h⟩)
   have hge:(most:Int)≤(L.length:Int):=by omega
   go_wp2_with fail
   go_ret; exact HRES.out _ hb1
 ·rw [hat] at hbs
  have hins:ins ord x L=L.set K x:=HAT.out hat; obtain⟨hKL,_⟩:=HISAT.out hat; have HINS:=Lib.hid hins; have HRES:Hid (∀ x' w',x'=.returned (.int .i64 0)→Slot strRow 1 9 base gl sl (.slice A L.length c) (L.set K x) w w'→Puts strRow 1 9 base gl sl (.slice A L.length c) (put ord most x L) w x' w'):=Lib.hid (fun x' w' h h'=>by
   have:put ord most x L=some (L.set K x):=by unfold put; rw [if_pos (by rw [HINS.out,List.length_set]; exact hn),HINS.out]
   rw [this]; exact⟨h,h'⟩)
  rcases own_cases hown with⟨_,h0,_⟩|⟨g,c',M,he,hbg,hgw,hB,hnc',hcm',hM,hMt⟩
  ·omega
  injection he with he1 _ he3
  subst he1 he3; go_wp2_with fail
  refine hbs.mono ?_; rintro e w1 ⟨rfl,hb1⟩; have hc1:=(hb1.cell (p:=⟨gl,sl,none⟩) hgl).trans hc; have hKi:(K:Int)<(L.length:Int):=by omega
  have hB2:=hB.below hb1; have hKM:K<M.length:=by omega
  have hcK:w1.cell? ⟨g,K,none⟩=some M[K]:=by rw [hB2.cell K,List.getElem?_eq_getElem hKM]
  have hfK:w1.frozen? ⟨g,K,none⟩=false:=hB2.froz K; have hgg:gl≠g:=fun e=>hne (by simp [Value.ownBlock,e]); have hB3:Blk (w1.setCell ⟨g,K,none⟩ (.string (str x))) gl cs tl:=(hbl.below hb1).set_ne (p:=⟨g,K,none⟩) hgg _; have hBM:Blk (w1.setCell ⟨g,K,none⟩ (.string (str x))) g (M.set K (.string (str x))) 9:=hB2.set K _; have hgr:w1.grownBy (w1.setCell ⟨g,K,none⟩ (.string (str x))) (some g):=by
   rw [setCell_eq_setRow w1 g K M.toArray _ (0,0) _ hB2]; exact grown_setRow (grown_refl _ _)
  have hMe:M.set K (.string (str x))=rows strRow (L.set K x)++M.drop L.length:=by
   have e:M=rows strRow L++M.drop (L.length * 1):=by rw [← hMt,List.take_append_drop]
   have h:=splice_set strRow_len (x:=x) (R:=M.drop (L.length * 1)) hKL; rw [← e,Nat.mul_one] at h; rw [Nat.mul_one] at h; rw [← h]; unfold splice; rw [List.set_eq_take_append_cons_drop,if_pos hKM]; simp [strRow,tx]
  have hres:=HRES.out _ (w1.setCell ⟨g,K,none⟩ (.string (str x))) rfl ⟨.slice (some ⟨g,0,none⟩) L.length c,w1.setCell ⟨g,K,none⟩ (.string (str x)),(setCell_keep hB3 hsl).symm,grown_after hb1 hgr,by
   rw [List.length_set]; refine own_of_row hbg hBM hnc hcm' (by rw [List.length_set,hM]) ?_; rw [hMe,List.take_append_of_le_length (by rw [rows_length strRow_len,List.length_set]; exact Nat.le_refl _),List.take_of_length_le (by rw [rows_length strRow_len,List.length_set]; exact Nat.le_refl _)],.inl rfl⟩
  have HR:=Lib.hid hres; clear hres hB3 hMe HRES hBM hgr; go_wp2_with fail
  go_ret; exact HR.out
end
section
open Go.RowKit Mem Led
theorem slot_from{α:Type} {enc:α→List Value} {k:Nat} {e:TypeId} {base gl sl:Nat} {v:Value} {L':List α} {w W w':World} (hb:Below w.heap.size w W) (h:Slot enc k e base gl sl v L' W w'):Slot enc k e base gl sl v L' w w':=by
 obtain⟨v',w1,h1,h2,h3,h4⟩:=h
 exact⟨v',w1,h1,grown_after hb h2,h3,h4.imp id fun ⟨g,hg,e⟩=>⟨g,Nat.le_trans hb.size hg,e⟩⟩
theorem gone_from{α:Type} {enc:α→List Value} {k:Nat} {e:TypeId} {base gl sl:Nat} {v:Value} {L:List α} {p:α→Bool} {w W w':World} {x:Ending} (hb:Below w.heap.size w W) (h:Gone enc k e base gl sl v L p W x w'):Gone enc k e base gl sl v L p w x w':=by
 unfold Gone at h ⊢
 split
 ·rename_i hp
  rw [if_pos hp] at h; exact⟨h.1,slot_from hb h.2⟩
 ·rename_i hp
  rw [if_neg hp] at h; exact⟨h.1,hb.trans (h.2.mono hb.size)⟩
theorem goneEntry1_any(x:Led.Entry × Value) (n:Int) (go:Nat) (W:World) (hc:W.cell? ⟨go,1,none⟩=some (.int .i64 n)) :
  Calls Tryz.prog 83 (#[.agg (entRow x).toArray]++#[.pointer (some ⟨go,0,none⟩)]) W fun e w'=>e=.returned (.bool (x.1.n==n))∧Below W.heap.size W w':=by
 have hgo:=World.block_lt_of_cell? W _ hc
 simp only [] at hgo
 have hb:∀ o,Below W.heap.size W (W.alloc o):=fun o=>(Below.refl _ _).alloc (Nat.le_refl _) _
 show Calls Tryz.prog 83 #[.agg #[.int .i64 x.1.n,.string (str x.1.path),.string (str x.1.parent),.int .i64 x.1.ttl,x.2],.pointer (some ⟨go,0,none⟩)] W _
 go_enter Tryz.func83,Tryz.ntmps83
 go_wp2_with fail
 go_ret
 exact⟨by first|rfl|simp,hb _⟩
theorem goneEntry_any(gl:Nat) (ops vs:List Value) (n:Int) (L:List (Led.Entry × Value)) (base:Nat) (v:Value) (w:World) (hn:L.length≤1000) (hops:ops[1]?=some (.int .i64 n)) (hbl:Blk w gl vs 30) (hsl:vs[0]?=some v) (hown:w.ownsRow base 36 5 v L.length (rows entRow L)) (hne:v.ownBlock≠some gl) (h1:∀ y∈L,∀ u∈entRow y,u.oneCell'=true) :
  Calls Tryz.prog 43 #[.pointer (some ⟨gl,0,none⟩),.agg ops.toArray] w (Gone entRow 5 36 base gl 0 v L (fun x=>x.1.n==n) w):=by
 obtain⟨W,hW⟩:∃ W,w.alloc (.cells ops.toArray 47)=W:=⟨_,rfl⟩
 have b0:Blk W w.heap.size ops 47:=by rw [← hW]; exact Blk.new w _ _
 have hbW:Below w.heap.size w W:=by rw [← hW]; exact(Below.refl _ _).alloc (Nat.le_refl _) _
 have bW:=hbl.below hbW
 have hg:=goneEnt_any gl 0 83 #[.pointer (some ⟨w.heap.size,0,none⟩)] (enters_of Tryz.func83 (by kernel_rfl) rfl) (fun x=>x.1.n==n) L base v W hn ((bW.cell 0).trans hsl) (bW.froz 0) bW.lt (own_below hown hbW (Nat.le_refl _)) hne h1 (fun W' x _ hb=>goneEntry1_any x n w.heap.size W' (((b0.below hb).cell 1).trans hops))
 have HG:=Lib.hid (hg.mono fun _ _ h=>gone_from hbW h)
 have HW:=Lib.hid hW
 clear hW hg
 go_enter Tryz.func43,Tryz.ntmps43
 go_wp2_with fail
 rw [HW.out]
 refine HG.out.mono ?_
 intro e w1 h
 unfold Gone at h
 by_cases hp:L.any (fun x=>x.1.n==n)=true
 ·rw [if_pos hp] at h
  obtain⟨rfl,h2⟩:=h; have HR:Hid (Gone entRow 5 36 base gl 0 v L (fun x=>x.1.n==n) w (.returned (.int .i64 0)) w1):=Lib.hid (by unfold Gone; rw [if_pos hp]; exact⟨rfl,h2⟩)
  clear hp h2 HG; go_wp2; go_ret; exact HR.out
 ·rw [if_neg hp] at h
  obtain⟨rfl,h2⟩:=h; have HR:Hid (Gone entRow 5 36 base gl 0 v L (fun x=>x.1.n==n) w (.returned (.int .i64 7)) w1):=Lib.hid (by unfold Gone; rw [if_neg hp]; exact⟨rfl,h2⟩)
  clear hp h2 HG; go_wp2; go_ret; exact HR.out
theorem lift1_any(x:Txt) (n:Txt) (go:Nat) (W:World) (hc:W.cell? ⟨go,2,none⟩=some (.string (str n))) :
  Calls Tryz.prog 97 (#[.string (str x)]++#[.pointer (some ⟨go,0,none⟩)]) W fun e w'=>e=.returned (.bool (x==n))∧Below W.heap.size W w':=by
 have hgo:=World.block_lt_of_cell? W _ hc
 simp only [] at hgo
 go_enter Tryz.func97,Tryz.ntmps97
 go_wp2_with fail
 go_ret
 exact⟨by first|rfl|simp,Below.refl _ _⟩
theorem lift_any(gl:Nat) (ops vs:List Value) (n:Txt) (L:List (Txt)) (base:Nat) (v:Value) (w:World) (hn:L.length≤1000) (hops:ops[2]?=some (.string (str n))) (hbl:Blk w gl vs 30) (hsl:vs[2]?=some v) (hown:w.ownsRow base 9 1 v L.length (rows strRow L)) (hne:v.ownBlock≠some gl) :
  Calls Tryz.prog 48 #[.pointer (some ⟨gl,0,none⟩),.agg ops.toArray] w (Gone strRow 1 9 base gl 2 v L (fun x=>x==n) w):=by
 obtain⟨W,hW⟩:∃ W,w.alloc (.cells ops.toArray 47)=W:=⟨_,rfl⟩
 have b0:Blk W w.heap.size ops 47:=by rw [← hW]; exact Blk.new w _ _
 have hbW:Below w.heap.size w W:=by rw [← hW]; exact(Below.refl _ _).alloc (Nat.le_refl _) _
 have bW:=hbl.below hbW
 have hg:=goneStr_any gl 2 97 #[.pointer (some ⟨w.heap.size,0,none⟩)] (enters_of Tryz.func97 (by kernel_rfl) rfl) (fun x=>x==n) L base v W hn ((bW.cell 2).trans hsl) (bW.froz 2) bW.lt (own_below hown hbW (Nat.le_refl _)) hne (fun y _=>strRow_one y) (fun W' x _ hb=>lift1_any x n w.heap.size W' (((b0.below hb).cell 2).trans hops))
 have HG:=Lib.hid (hg.mono fun _ _ h=>gone_from hbW h)
 have HW:=Lib.hid hW
 clear hW hg
 go_enter Tryz.func48,Tryz.ntmps48
 go_wp2_with fail
 rw [HW.out]
 refine HG.out.mono ?_
 intro e w1 h
 unfold Gone at h
 by_cases hp:L.any (fun x=>x==n)=true
 ·rw [if_pos hp] at h
  obtain⟨rfl,h2⟩:=h; have HR:Hid (Gone strRow 1 9 base gl 2 v L (fun x=>x==n) w (.returned (.int .i64 0)) w1):=Lib.hid (by unfold Gone; rw [if_pos hp]; exact⟨rfl,h2⟩)
  clear hp h2 HG; go_wp2; go_ret; exact HR.out
 ·rw [if_neg hp] at h
  obtain⟨rfl,h2⟩:=h; have HR:Hid (Gone strRow 1 9 base gl 2 v L (fun x=>x==n) w (.returned (.int .i64 7)) w1):=Lib.hid (by unfold Gone; rw [if_neg hp]; exact⟨rfl,h2⟩)
  clear hp h2 HG; go_wp2; go_ret; exact HR.out
theorem evict1_any(x:Led.Node) (n:Txt) (go:Nat) (W:World) (hc:W.cell? ⟨go,2,none⟩=some (.string (str n))) :
  Calls Tryz.prog 99 (#[.agg (nodeRow x).toArray]++#[.pointer (some ⟨go,0,none⟩)]) W fun e w'=>e=.returned (.bool (x.name==n))∧Below W.heap.size W w':=by
 have hgo:=World.block_lt_of_cell? W _ hc
 simp only [] at hgo
 have hb:∀ o,Below W.heap.size W (W.alloc o):=fun o=>(Below.refl _ _).alloc (Nat.le_refl _) _
 show Calls Tryz.prog 99 #[.agg #[.string (str x.name),.string (str x.key),.int .i64 x.expires,.int .i64 x.seq,.string (str x.doc)],.pointer (some ⟨go,0,none⟩)] W _
 go_enter Tryz.func99,Tryz.ntmps99
 go_wp2_with fail
 go_ret
 exact⟨by first|rfl|simp,hb _⟩
theorem evict_any(gl:Nat) (ops vs:List Value) (n:Txt) (L:List (Led.Node)) (base:Nat) (v:Value) (w:World) (hn:L.length≤1000) (hops:ops[2]?=some (.string (str n))) (hbl:Blk w gl vs 30) (hsl:vs[1]?=some v) (hown:w.ownsRow base 40 5 v L.length (rows nodeRow L)) (hne:v.ownBlock≠some gl) (h1:∀ y∈L,∀ u∈nodeRow y,u.oneCell'=true) :
  Calls Tryz.prog 49 #[.pointer (some ⟨gl,0,none⟩),.agg ops.toArray] w (Gone nodeRow 5 40 base gl 1 v L (fun x=>x.name==n) w):=by
 obtain⟨W,hW⟩:∃ W,w.alloc (.cells ops.toArray 47)=W:=⟨_,rfl⟩
 have b0:Blk W w.heap.size ops 47:=by rw [← hW]; exact Blk.new w _ _
 have hbW:Below w.heap.size w W:=by rw [← hW]; exact(Below.refl _ _).alloc (Nat.le_refl _) _
 have bW:=hbl.below hbW
 have hg:=goneNod_any gl 1 99 #[.pointer (some ⟨w.heap.size,0,none⟩)] (enters_of Tryz.func99 (by kernel_rfl) rfl) (fun x=>x.name==n) L base v W hn ((bW.cell 1).trans hsl) (bW.froz 1) bW.lt (own_below hown hbW (Nat.le_refl _)) hne h1 (fun W' x _ hb=>evict1_any x n w.heap.size W' (((b0.below hb).cell 2).trans hops))
 have HG:=Lib.hid (hg.mono fun _ _ h=>gone_from hbW h)
 have HW:=Lib.hid hW
 clear hW hg
 go_enter Tryz.func49,Tryz.ntmps49
 go_wp2_with fail
 rw [HW.out]
 refine HG.out.mono ?_
 intro e w1 h
 unfold Gone at h
 by_cases hp:L.any (fun x=>x.name==n)=true
 ·rw [if_pos hp] at h
  obtain⟨rfl,h2⟩:=h; have HR:Hid (Gone nodeRow 5 40 base gl 1 v L (fun x=>x.name==n) w (.returned (.int .i64 0)) w1):=Lib.hid (by unfold Gone; rw [if_pos hp]; exact⟨rfl,h2⟩)
  clear hp h2 HG; go_wp2; go_ret; exact HR.out
 ·rw [if_neg hp] at h
  obtain⟨rfl,h2⟩:=h; have HR:Hid (Gone nodeRow 5 40 base gl 1 v L (fun x=>x.name==n) w (.returned (.int .i64 7)) w1):=Lib.hid (by unfold Gone; rw [if_neg hp]; exact⟨rfl,h2⟩)
  clear hp h2 HG; go_wp2; go_ret; exact HR.out
theorem drop1_any(x:Led.Key) (n:Txt) (go:Nat) (W:World) (hc:W.cell? ⟨go,2,none⟩=some (.string (str n))) :
  Calls Tryz.prog 106 (#[.agg (keyRow x).toArray]++#[.pointer (some ⟨go,0,none⟩)]) W fun e w'=>e=.returned (.bool (x.kid==n&&x.state==3))∧Below W.heap.size W w':=by
 have hgo:=World.block_lt_of_cell? W _ hc
 simp only [] at hgo
 have hb:∀ o,Below W.heap.size W (W.alloc o):=fun o=>(Below.refl _ _).alloc (Nat.le_refl _) _
 show Calls Tryz.prog 106 #[.agg #[.string (str x.kid),.string (str x.seed),.int .i64 x.state,.int .i64 x.since],.pointer (some ⟨go,0,none⟩)] W _
 cases hq:(x.kid==n)
 all_goals
  go_enter Tryz.func106,Tryz.ntmps106
  go_wp2_with fail
  go_ret; exact⟨by first|rfl|simp,hb _⟩
theorem drop_any(gl:Nat) (ops vs:List Value) (n:Txt) (L:List (Led.Key)) (base:Nat) (v:Value) (w:World) (hn:L.length≤1000) (hops:ops[2]?=some (.string (str n))) (hbl:Blk w gl vs 30) (hsl:vs[4]?=some v) (hown:w.ownsRow base 42 4 v L.length (rows keyRow L)) (hne:v.ownBlock≠some gl) (h1:∀ y∈L,∀ u∈keyRow y,u.oneCell'=true) :
  Calls Tryz.prog 52 #[.pointer (some ⟨gl,0,none⟩),.agg ops.toArray] w (Gone keyRow 4 42 base gl 4 v L (fun x=>x.kid==n&&x.state==3) w):=by
 obtain⟨W,hW⟩:∃ W,w.alloc (.cells ops.toArray 47)=W:=⟨_,rfl⟩
 have b0:Blk W w.heap.size ops 47:=by rw [← hW]; exact Blk.new w _ _
 have hbW:Below w.heap.size w W:=by rw [← hW]; exact(Below.refl _ _).alloc (Nat.le_refl _) _
 have bW:=hbl.below hbW
 have hg:=goneKey_any gl 4 106 #[.pointer (some ⟨w.heap.size,0,none⟩)] (enters_of Tryz.func106 (by kernel_rfl) rfl) (fun x=>x.kid==n&&x.state==3) L base v W hn ((bW.cell 4).trans hsl) (bW.froz 4) bW.lt (own_below hown hbW (Nat.le_refl _)) hne h1 (fun W' x _ hb=>drop1_any x n w.heap.size W' (((b0.below hb).cell 2).trans hops))
 have HG:=Lib.hid (hg.mono fun _ _ h=>gone_from hbW h)
 have HW:=Lib.hid hW
 clear hW hg
 go_enter Tryz.func52,Tryz.ntmps52
 go_wp2_with fail
 rw [HW.out]
 refine HG.out.mono ?_
 intro e w1 h
 unfold Gone at h
 by_cases hp:L.any (fun x=>x.kid==n&&x.state==3)=true
 ·rw [if_pos hp] at h
  obtain⟨rfl,h2⟩:=h; have HR:Hid (Gone keyRow 4 42 base gl 4 v L (fun x=>x.kid==n&&x.state==3) w (.returned (.int .i64 0)) w1):=Lib.hid (by unfold Gone; rw [if_pos hp]; exact⟨rfl,h2⟩)
  clear hp h2 HG; go_wp2; go_ret; exact HR.out
 ·rw [if_neg hp] at h
  obtain⟨rfl,h2⟩:=h; have HR:Hid (Gone keyRow 4 42 base gl 4 v L (fun x=>x.kid==n&&x.state==3) w (.returned (.int .i64 7)) w1):=Lib.hid (by unfold Gone; rw [if_neg hp]; exact⟨rfl,h2⟩)
  clear hp h2 HG; go_wp2; go_ret; exact HR.out
theorem unbind1_any(x:Led.Bundle × Value) (n:Txt) (go:Nat) (W:World) (hc:W.cell? ⟨go,2,none⟩=some (.string (str n))) :
  Calls Tryz.prog 113 (#[.agg (bunRow x).toArray]++#[.pointer (some ⟨go,0,none⟩)]) W fun e w'=>e=.returned (.bool (x.1.domain==n))∧Below W.heap.size W w':=by
 have hgo:=World.block_lt_of_cell? W _ hc
 simp only [] at hgo
 have hb:∀ o,Below W.heap.size W (W.alloc o):=fun o=>(Below.refl _ _).alloc (Nat.le_refl _) _
 show Calls Tryz.prog 113 #[.agg #[.string (str x.1.domain),.int .i64 x.1.number,x.2],.pointer (some ⟨go,0,none⟩)] W _
 go_enter Tryz.func113,Tryz.ntmps113
 go_wp2_with fail
 go_ret
 exact⟨by first|rfl|simp,hb _⟩
theorem unbind_any(gl:Nat) (ops vs:List Value) (n:Txt) (L:List (Led.Bundle × Value)) (base:Nat) (v:Value) (w:World) (hn:L.length≤1000) (hops:ops[2]?=some (.string (str n))) (hbl:Blk w gl vs 30) (hsl:vs[5]?=some v) (hown:w.ownsRow base 45 3 v L.length (rows bunRow L)) (hne:v.ownBlock≠some gl) (h1:∀ y∈L,∀ u∈bunRow y,u.oneCell'=true) :
  Calls Tryz.prog 54 #[.pointer (some ⟨gl,0,none⟩),.agg ops.toArray] w (Gone bunRow 3 45 base gl 5 v L (fun x=>x.1.domain==n) w):=by
 obtain⟨W,hW⟩:∃ W,w.alloc (.cells ops.toArray 47)=W:=⟨_,rfl⟩
 have b0:Blk W w.heap.size ops 47:=by rw [← hW]; exact Blk.new w _ _
 have hbW:Below w.heap.size w W:=by rw [← hW]; exact(Below.refl _ _).alloc (Nat.le_refl _) _
 have bW:=hbl.below hbW
 have hg:=goneBun_any gl 5 113 #[.pointer (some ⟨w.heap.size,0,none⟩)] (enters_of Tryz.func113 (by kernel_rfl) rfl) (fun x=>x.1.domain==n) L base v W hn ((bW.cell 5).trans hsl) (bW.froz 5) bW.lt (own_below hown hbW (Nat.le_refl _)) hne h1 (fun W' x _ hb=>unbind1_any x n w.heap.size W' (((b0.below hb).cell 2).trans hops))
 have HG:=Lib.hid (hg.mono fun _ _ h=>gone_from hbW h)
 have HW:=Lib.hid hW
 clear hW hg
 go_enter Tryz.func54,Tryz.ntmps54
 go_wp2_with fail
 rw [HW.out]
 refine HG.out.mono ?_
 intro e w1 h
 unfold Gone at h
 by_cases hp:L.any (fun x=>x.1.domain==n)=true
 ·rw [if_pos hp] at h
  obtain⟨rfl,h2⟩:=h; have HR:Hid (Gone bunRow 3 45 base gl 5 v L (fun x=>x.1.domain==n) w (.returned (.int .i64 0)) w1):=Lib.hid (by unfold Gone; rw [if_pos hp]; exact⟨rfl,h2⟩)
  clear hp h2 HG; go_wp2; go_ret; exact HR.out
 ·rw [if_neg hp] at h
  obtain⟨rfl,h2⟩:=h; have HR:Hid (Gone bunRow 3 45 base gl 5 v L (fun x=>x.1.domain==n) w (.returned (.int .i64 7)) w1):=Lib.hid (by unfold Gone; rw [if_neg hp]; exact⟨rfl,h2⟩)
  clear hp h2 HG; go_wp2; go_ret; exact HR.out
end
section
open Go.RowKit Mem Led
theorem inb_any(x a b:Int) (w:World):Calls Tryz.prog 104 #[.int .i64 x,.int .i64 a,.int .i64 b] w fun e w'=>e=.returned (.bool (within x a b))∧w'=w:=by
 have hx:within x a b=(decide (a≤x)&&decide (x≤b)):=by unfold within; simp
 rw [hx]
 by_cases h1:a≤x
 all_goals by_cases h2:x≤b
 all_goals
  go_enter Tryz.func104,Tryz.ntmps104
  go_wp2_with fail
  go_ret; exact⟨by simp [h1,h2],rfl⟩
theorem node_any(n:Led.Node) (w:World) (hz:n.name.length≤9223372036854775807):Calls Tryz.prog 89 #[.agg (nodeRow n).toArray] w fun e w'=>e=.returned (.bool (mayNode n))∧Below w.heap.size w w':=by
 obtain⟨W,hW⟩:∃ W,w.alloc (.cells (nodeRow n).toArray 40)=W:=⟨_,rfl⟩
 have b0:Blk W w.heap.size (nodeRow n) 40:=by rw [← hW]; exact Blk.new w _ _
 have hbW:Below w.heap.size w W:=by rw [← hW]; exact(Below.refl _ _).alloc (Nat.le_refl _) _
 have c0:W.cell? ⟨w.heap.size,0,none⟩=some (.string (str n.name)):=b0.cell 0
 have hag:=agent_any n.name W hz
 have hmay:mayNode n=(Ids.agent n.name&&decide ((n.key.length:Int)=32)&&within n.expires 0 1099511627776&&within n.seq 0 1099511627776&&decide ((n.doc.length:Int)≤16)):=by
  unfold mayNode; congr 1
  ·congr 3
   rw [Bool.eq_iff_iff]; simp
   omega
  ·rw [Bool.eq_iff_iff]
   simp
   omega
 rw [hmay]
 generalize Ids.agent n.name=r0 at *
 obtain⟨K,hK⟩:∃ K,n.key.length=K:=⟨_,rfl⟩
 obtain⟨D,hD⟩:∃ D,n.doc.length=D:=⟨_,rfl⟩
 have sK:(str n.key).size=K:=by rw [str_size,hK]
 have sD:(str n.doc).size=D:=by rw [str_size,hD]
 rw [hK,hD]
 have HW:=Lib.hid hW
 unfold nodeRow tx nm at HW ⊢
 clear hW hmay
 go_enter Tryz.func89,Tryz.ntmps89
 go_upto_region 1 with fail
 rw [HW.out]
 by_cases h1:(K:Int)=32
 all_goals by_cases h2:(D:Int)≤16
 all_goals cases r0 <;> cases hr1:within n.expires 0 1099511627776 <;> cases hr2:within n.seq 0 1099511627776
 all_goals
  go_wp2_with fail
  refine hag.mono ?_; rintro e w1 ⟨rfl,hb1⟩; have c1:w1.cell? ⟨w.heap.size,1,none⟩=some (.string (str n.key)):=(b0.below hb1).cell 1; have c2:w1.cell? ⟨w.heap.size,2,none⟩=some (.int .i64 n.expires):=(b0.below hb1).cell 2; have c3:w1.cell? ⟨w.heap.size,3,none⟩=some (.int .i64 n.seq):=(b0.below hb1).cell 3; have c4:w1.cell? ⟨w.heap.size,4,none⟩=some (.string (str n.doc)):=(b0.below hb1).cell 4; go_wp2_with (go_at_call 104; refine(inb_any _ _ _ _).mono ?_; rintro e w2 ⟨rfl,rfl⟩)
  go_ret; exact⟨by simp [h1,h2,hr1,hr2],hbW.trans (hb1.mono hbW.size)⟩
theorem key_any(n:Led.Key) (w:World):Calls Tryz.prog 100 #[.agg (keyRow n).toArray] w fun e w'=>e=.returned (.bool (mayKey n))∧Below w.heap.size w w':=by
 have hmay:mayKey n=(decide ((n.seed.length:Int)=32)&&within n.kid.length 1 16&&within n.state 1 3&&within n.since 0 1099511627776):=by
  unfold mayKey; congr 3
  rw [Bool.eq_iff_iff]; simp
  omega
 rw [hmay]
 have sK:((str n.kid).size:Int)=(n.kid.length:Int):=by rw [str_size]
 obtain⟨D,hD⟩:∃ D,n.seed.length=D:=⟨_,rfl⟩
 have sD:(str n.seed).size=D:=by rw [str_size,hD]
 rw [hD]
 clear hmay
 have hb:∀ o,Below w.heap.size w (w.alloc o):=fun o=>(Below.refl _ _).alloc (Nat.le_refl _) _
 unfold keyRow tx nm
 go_enter Tryz.func100,Tryz.ntmps100
 by_cases h1:(D:Int)=32
 all_goals cases hr1:within n.kid.length 1 16 <;> cases hr2:within n.state 1 3 <;> cases hr3:within n.since 0 1099511627776
 all_goals
  go_wp2_with (go_at_call 104; refine(inb_any _ _ _ _).mono ?_; rintro e w2 ⟨rfl,rfl⟩)
  go_ret; exact⟨by simp [h1],hb _⟩
end
end Go.Proofs.YtmbpnkacggngkaaGreatDoor
