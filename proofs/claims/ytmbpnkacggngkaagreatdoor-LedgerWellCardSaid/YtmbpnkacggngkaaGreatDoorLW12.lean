/- JsonB, JwkBuilder, JwkWr, JsonW, JsonK, JsonV, JsonT, JsonX, B64Spec, JwkSolo, JwkMask, JwkEnc, ShaKL (put together by bundle.py: only what is needed). -/
import Derived.Lib.Builder
import Derived.Laws.Externs
import Derived.Test.YtmbpnkacggngkaaGreatDoorLW11
set_option maxRecDepth 100000
set_option maxHeartbeats 16000000
namespace Go.Proofs.YtmbpnkacggngkaaGreatDoor
section
open Go.RowKit Mem Led
def Asc (t:Txt):Prop:=∀ c∈t,c.toNat≤126
theorem decode_small(s:ByteArray) (i:Nat) (h:(s.get! i).toNat<128):Utf8.decode s i=((s.get! i).toNat,1):=by
 unfold Utf8.decode
 simp only [Nat.add_zero]
 rw [if_pos h]
theorem get_str(t:Txt) (i:Nat) (h:i<t.length):(str t).get! i=t[i]:=by
 show (str t).data[i]! = _
 have:(str t).data=t.toArray:=by simp [str]
 rw [this]
 simp [h]
theorem idx_asc{p:Nat→Bool} (hp:∀ x,x≤126→p x=false) {t:Txt} (ht:Asc t):∀ f pos,Lib.idxFuncFrom p true (str t) f pos = -1
 | 0,_=>rfl
 | f+1,pos=>by
  unfold Lib.idxFuncFrom; split
  ·rename_i hlt
   rw [str_size] at hlt; have hg:=get_str t pos hlt; have ha:=ht _ (List.getElem_mem hlt); rw [decode_small _ _ (by rw [hg]; omega),hg]
   rw [if_neg (by rw [hp _ ha]; simp)]
   exact idx_asc hp ht f _
  ·rfl
theorem right11_any(x:Nat) (hx:x≤1114111) (W:World):Calls Tryz.prog 231 (#[.int .i32 (x:Int)]++#[]) W fun e w'=>e=.returned (.bool (decide (126<x)))∧∃ q,w'=W.drewN q:=by
 by_cases h:126<x
 ·rw [decide_eq_true h]
  have h1:(126:Int)<(x:Int):=by omega
  go_enter Tryz.func231,Tryz.ntmps231
  go_wp2; go_ret; exact⟨rfl,0,rfl⟩
 ·rw [decide_eq_false h]
  have h1:¬ (126:Int)<(x:Int):=by omega
  go_enter Tryz.func231,Tryz.ntmps231
  go_wp2; go_ret; exact⟨rfl,0,rfl⟩
theorem right1_any(t:Txt) (ht:Asc t) (W:World):Calls Tryz.prog 229 #[.string (str t)] W fun e w'=>e=.returned (.bool false)∧Below W.heap.size W w':=by
 have hc:=Tryz.strings_ContainsFunc_runes 231 #[] (enters_of Tryz.func231 (by kernel_rfl) rfl) (fun x=>decide (126<x)) (str t) W (fun W' x hx _=>right11_any x hx W')
 rw [show decide (0≤Lib.idxFunc (fun x=>decide (126<x)) true (str t))=false by
  unfold Lib.idxFunc; rw [idx_asc (fun x hx=>by simp; omega) ht]
  rfl] at hc
 go_enter Tryz.func229,Tryz.ntmps229
 go_wp2_with fail
 refine hc.mono ?_
 rintro e w1 ⟨rfl,hb⟩
 go_wp2
 go_ret
 exact⟨rfl,hb⟩
theorem ts_take2{w:World} {A:Option Addr} {n:Nat} {L:List Txt} (h:Ts w A n L) {k:Nat} (hk:k≤n):Ts w A k (L.take k):=by
 have:=Vs.take h hk
 rw [Nat.mul_one] at this
 unfold Ts tv at *
 rw [List.map_take]
 exact this
theorem right2_any(k:JsV) (go d:Nat) (hd:d≤1000) (W:World) (hc:W.cell? ⟨go,0,none⟩=some (.int .i64 (d:Int))) (hr:∀ W',Below W.heap.size W W'→Calls Tryz.prog 199 #[.agg (jsRow k).toArray,.int .i64 ((d:Int) - 1)] W' fun e w''=>e=.returned (.bool true)∧Below W'.heap.size W' w'') :
  Calls Tryz.prog 233 (#[.agg (jsRow k).toArray]++#[.pointer (some ⟨go,0,none⟩)]) W fun e w'=>e=.returned (.bool false)∧Below W.heap.size W w':=by
 have hgo:=World.block_lt_of_cell? W _ hc
 simp only [] at hgo
 have hb:Below W.heap.size W (W.alloc (.cells (jsRow k).toArray 197)):=(Below.refl _ _).alloc (Nat.le_refl _) _
 have hld:=ldJs_blk (Blk.new W (jsRow k) 197)
 have hr1:=hr _ hb
 have hc1:(W.alloc (.cells (jsRow k).toArray 197)).cell? ⟨go,0,none⟩=some (.int .i64 (d:Int)):=(hb.cell (p:=⟨go,0,none⟩) hgo).trans hc
 clear hr hc
 show Calls Tryz.prog 233 #[.agg (jsRow k).toArray,.pointer (some ⟨go,0,none⟩)] W _
 generalize (jsRow k).toArray=X at *
 have hwr:wrap64 ((d:Int) - 1)=(d:Int) - 1:=by unfold wrap64; omega
 go_enter Tryz.func233,Tryz.ntmps233
 go_wp2_with fail
 refine hr1.mono ?_
 rintro e w1 ⟨rfl,hb1⟩
 go_wp2_with fail
 go_ret
 exact⟨rfl,hb.trans (hb1.mono hb.size)⟩
theorem right_2(w:World) (d:Nat) (m:Int) (h1 : -1000000000000000≤m) (h2:m≤1000000000000000) :
  Calls Tryz.prog 199 #[.agg #[.int .i64 2,.int .i64 m,.string ⟨#[]⟩,.slice none 0 0,.slice none 0 0],.int .i64 (d:Int)] w fun e w'=>e=.returned (.bool true)∧Below w.heap.size w w':=by
 have hs0:str []=⟨#[]⟩:=rfl
 obtain⟨W,hW⟩:∃ W,(w.alloc (.cells (jsRow ⟨2,m,[],.slice none 0 0,.slice none 0 0⟩).toArray 197)).alloc (.cells ([.int .i64 (d:Int)]:List Value).toArray 3)=W:=⟨_,rfl⟩
 have B0:Blk W w.heap.size (jsRow ⟨2,m,[],.slice none 0 0,.slice none 0 0⟩) 197:=by rw [← hW]; exact(Blk.new _ _ _).alloc _
 have B1:Blk W (w.heap.size+1) [.int .i64 (d:Int)] 3:=by
  have:=Blk.new (w.alloc (.cells (jsRow ⟨2,m,[],.slice none 0 0,.slice none 0 0⟩).toArray 197)) [.int .i64 (d:Int)] 3; rw [← hW]; simpa using this
 have hbw:Below w.heap.size w W:=by rw [← hW]; exact((Below.refl _ _).alloc (Nat.le_refl _) _).alloc (by simp) _
 have hpl:=plain_any 2 m [] none 0 0 none 0 0 W (by omega) (by omega) (by omega) (by omega) (by first|exact .inl rfl|exact .inr rfl)
 have hld:(ldJs (.pointer (some ⟨w.heap.size,0,none⟩))).run Tryz.prog W=.ok (.agg #[.int .i64 2,.int .i64 m,.string ⟨#[]⟩,.slice none 0 0,.slice none 0 0]) W:=ldJs_blk B0
 have HW:Hid ((w.alloc (.cells #[.int .i64 2,.int .i64 m,.string ⟨#[]⟩,.slice none 0 0,.slice none 0 0] 197)).alloc (.cells #[.int .i64 (d:Int)] 3)=W):=Lib.hid hW
 clear hW
 rw [hs0] at hpl
 obtain⟨db,hdb⟩:∃ db,((d:Int)==0)=db:=⟨_,rfl⟩
 go_enter Tryz.func199,Tryz.ntmps199
 go_upto_region 1 with fail
 rw [HW.out]
 clear HW
 go_wp2_with fail
 refine hpl.mono ?_
 rintro e w1 ⟨rfl,hb1⟩
 have hbw1:Below w.heap.size w w1:=hbw.trans (hb1.mono hbw.size)
 have C0:=B0.below hb1
 have C1:=B1.below hb1
 have k0:w1.cell? ⟨w.heap.size,0,none⟩=some (.int .i64 2):=C0.cell 0
 have k1:w1.cell? ⟨w.heap.size,1,none⟩=some (.int .i64 m):=C0.cell 1
 have k2:w1.cell? ⟨w.heap.size,2,none⟩=some (.string ⟨#[]⟩):=C0.cell 2
 have k3:w1.cell? ⟨w.heap.size,3,none⟩=some (.slice none 0 0):=C0.cell 3
 have k4:w1.cell? ⟨w.heap.size,4,none⟩=some (.slice none 0 0):=C0.cell 4
 have k5:w1.cell? ⟨w.heap.size+1,0,none⟩=some (.int .i64 (d:Int)):=C1.cell 0
 have hodd:=right1_any [] (fun c hc=>by cases hc) w1
 clear hpl hld B0 B1 hb1
 rw [hs0] at hodd
 cases db
 all_goals
  go_wp2_with fail
  refine hodd.mono ?_; rintro e w2 ⟨rfl,hb2⟩; have hbw2:Below w.heap.size w w2:=hbw1.trans (hb2.mono hbw1.size); have D0:=C0.below hb2; have D1:=C1.below hb2; have q3:w2.cell? ⟨w.heap.size,3,none⟩=some (.slice none 0 0):=D0.cell 3; have hnm:=hasStr_any 229 #[] (enters_of Tryz.func229 (by kernel_rfl) rfl) (fun _=>false) none 0 0 ([]:List Txt) w2 (Ts.empty w2 none) (by omega) (fun W' x hx _=>by cases hx); rw [show ([]:List Txt).any (fun _=>false)=false by simp] at hnm; clear hodd k0 k1 k2 k3 k4 k5 C0 C1; go_wp2_with fail
  refine hnm.mono ?_; rintro e w3 ⟨rfl,hb3⟩; have hbw3:Below w.heap.size w w3:=hbw2.trans (hb3.mono hbw2.size); have E0:=D0.below hb3; have E1:=D1.below hb3; have k0:w3.cell? ⟨w.heap.size,0,none⟩=some (.int .i64 2):=E0.cell 0; have k1:w3.cell? ⟨w.heap.size,1,none⟩=some (.int .i64 m):=E0.cell 1; have k3:w3.cell? ⟨w.heap.size,3,none⟩=some (.slice none 0 0):=E0.cell 3; clear hnm q3 D0 D1 hb2; go_wp2_with fail
  go_loopw [6,7,72] (fun _ _ i wx=>∃ j:Nat,j≤0∧i=.int .i64 (j:Int)∧Below w3.heap.size w3 wx) (fun _ _ i _=>0 - (intOf i).toNat)
  case atStart=>exact⟨0,by omega,rfl,Below.refl _ _⟩
  case round =>
   clear k0 k1 k3; obtain⟨j,hj,rfl,hbx⟩:=hrel; obtain⟨wx,hwx⟩:∃ wx,wx=wr:=⟨_,rfl⟩; subst hwx; have hbwx:Below w.heap.size w wx:=hbw3.trans (hbx.mono hbw3.size); have X0:=E0.below hbx; have X1:=E1.below hbx; have k3:wx.cell? ⟨w.heap.size,3,none⟩=some (.slice none 0 0):=X0.cell 3; have k4:wx.cell? ⟨w.heap.size,4,none⟩=some (.slice none 0 0):=X0.cell 4; obtain rfl:j=0:=by omega
   have hjs:=hasJs_any 233 #[.pointer (some ⟨w.heap.size+1,0,none⟩)] (enters_of Tryz.func233 (by kernel_rfl) rfl) (fun _=>false) none 0 0 ([]:List JsV) wx (Vs.empty _ _ _ _) (by omega) (fun W' x hx _=>by cases hx); rw [show ([]:List JsV).any (fun _=>false)=false from rfl] at hjs; go_wp2_with fail
   refine hjs.mono ?_; rintro e w5 ⟨rfl,hb5⟩; go_wp2_with fail
   go_ret; exact⟨rfl,hbwx.trans (hb5.mono hbwx.size)⟩
theorem right_3(w:World) (d:Nat) (t:Txt) (hta:Asc t) :
  Calls Tryz.prog 199 #[.agg #[.int .i64 3,.int .i64 0,.string (str t),.slice none 0 0,.slice none 0 0],.int .i64 (d:Int)] w fun e w'=>e=.returned (.bool true)∧Below w.heap.size w w':=by
 have hs0:str []=⟨#[]⟩:=rfl
 obtain⟨W,hW⟩:∃ W,(w.alloc (.cells (jsRow ⟨3,0,t,.slice none 0 0,.slice none 0 0⟩).toArray 197)).alloc (.cells ([.int .i64 (d:Int)]:List Value).toArray 3)=W:=⟨_,rfl⟩
 have B0:Blk W w.heap.size (jsRow ⟨3,0,t,.slice none 0 0,.slice none 0 0⟩) 197:=by rw [← hW]; exact(Blk.new _ _ _).alloc _
 have B1:Blk W (w.heap.size+1) [.int .i64 (d:Int)] 3:=by
  have:=Blk.new (w.alloc (.cells (jsRow ⟨3,0,t,.slice none 0 0,.slice none 0 0⟩).toArray 197)) [.int .i64 (d:Int)] 3; rw [← hW]; simpa using this
 have hbw:Below w.heap.size w W:=by rw [← hW]; exact((Below.refl _ _).alloc (Nat.le_refl _) _).alloc (by simp) _
 have hpl:=plain_any 3 0 t none 0 0 none 0 0 W (by omega) (by omega) (by omega) (by omega) (by first|exact .inl rfl|exact .inr rfl)
 have hld:(ldJs (.pointer (some ⟨w.heap.size,0,none⟩))).run Tryz.prog W=.ok (.agg #[.int .i64 3,.int .i64 0,.string (str t),.slice none 0 0,.slice none 0 0]) W:=ldJs_blk B0
 have HW:Hid ((w.alloc (.cells #[.int .i64 3,.int .i64 0,.string (str t),.slice none 0 0,.slice none 0 0] 197)).alloc (.cells #[.int .i64 (d:Int)] 3)=W):=Lib.hid hW
 clear hW
 obtain⟨db,hdb⟩:∃ db,((d:Int)==0)=db:=⟨_,rfl⟩
 go_enter Tryz.func199,Tryz.ntmps199
 go_upto_region 1 with fail
 rw [HW.out]
 clear HW
 go_wp2_with fail
 refine hpl.mono ?_
 rintro e w1 ⟨rfl,hb1⟩
 have hbw1:Below w.heap.size w w1:=hbw.trans (hb1.mono hbw.size)
 have C0:=B0.below hb1
 have C1:=B1.below hb1
 have k0:w1.cell? ⟨w.heap.size,0,none⟩=some (.int .i64 3):=C0.cell 0
 have k1:w1.cell? ⟨w.heap.size,1,none⟩=some (.int .i64 0):=C0.cell 1
 have k2:w1.cell? ⟨w.heap.size,2,none⟩=some (.string (str t)):=C0.cell 2
 have k3:w1.cell? ⟨w.heap.size,3,none⟩=some (.slice none 0 0):=C0.cell 3
 have k4:w1.cell? ⟨w.heap.size,4,none⟩=some (.slice none 0 0):=C0.cell 4
 have k5:w1.cell? ⟨w.heap.size+1,0,none⟩=some (.int .i64 (d:Int)):=C1.cell 0
 have hodd:=right1_any t hta w1
 clear hpl hld B0 B1 hb1
 cases db
 all_goals
  go_wp2_with fail
  refine hodd.mono ?_; rintro e w2 ⟨rfl,hb2⟩; have hbw2:Below w.heap.size w w2:=hbw1.trans (hb2.mono hbw1.size); have D0:=C0.below hb2; have D1:=C1.below hb2; have q3:w2.cell? ⟨w.heap.size,3,none⟩=some (.slice none 0 0):=D0.cell 3; have hnm:=hasStr_any 229 #[] (enters_of Tryz.func229 (by kernel_rfl) rfl) (fun _=>false) none 0 0 ([]:List Txt) w2 (Ts.empty w2 none) (by omega) (fun W' x hx _=>by cases hx); rw [show ([]:List Txt).any (fun _=>false)=false by simp] at hnm; clear hodd k0 k1 k2 k3 k4 k5 C0 C1; go_wp2_with fail
  refine hnm.mono ?_; rintro e w3 ⟨rfl,hb3⟩; have hbw3:Below w.heap.size w w3:=hbw2.trans (hb3.mono hbw2.size); have E0:=D0.below hb3; have E1:=D1.below hb3; have k0:w3.cell? ⟨w.heap.size,0,none⟩=some (.int .i64 3):=E0.cell 0; have k1:w3.cell? ⟨w.heap.size,1,none⟩=some (.int .i64 0):=E0.cell 1; have k3:w3.cell? ⟨w.heap.size,3,none⟩=some (.slice none 0 0):=E0.cell 3; clear hnm q3 D0 D1 hb2; go_wp2_with fail
  go_loopw [6,7,72] (fun _ _ i wx=>∃ j:Nat,j≤0∧i=.int .i64 (j:Int)∧Below w3.heap.size w3 wx) (fun _ _ i _=>0 - (intOf i).toNat)
  case atStart=>exact⟨0,by omega,rfl,Below.refl _ _⟩
  case round =>
   clear k0 k1 k3; obtain⟨j,hj,rfl,hbx⟩:=hrel; obtain⟨wx,hwx⟩:∃ wx,wx=wr:=⟨_,rfl⟩; subst hwx; have hbwx:Below w.heap.size w wx:=hbw3.trans (hbx.mono hbw3.size); have X0:=E0.below hbx; have X1:=E1.below hbx; have k3:wx.cell? ⟨w.heap.size,3,none⟩=some (.slice none 0 0):=X0.cell 3; have k4:wx.cell? ⟨w.heap.size,4,none⟩=some (.slice none 0 0):=X0.cell 4; obtain rfl:j=0:=by omega
   have hjs:=hasJs_any 233 #[.pointer (some ⟨w.heap.size+1,0,none⟩)] (enters_of Tryz.func233 (by kernel_rfl) rfl) (fun _=>false) none 0 0 ([]:List JsV) wx (Vs.empty _ _ _ _) (by omega) (fun W' x hx _=>by cases hx); rw [show ([]:List JsV).any (fun _=>false)=false from rfl] at hjs; go_wp2_with fail
   refine hjs.mono ?_; rintro e w5 ⟨rfl,hb5⟩; go_wp2_with fail
   go_ret; exact⟨rfl,hbwx.trans (hb5.mono hbwx.size)⟩
theorem right_4(w:World) (d:Nat) (hd1:1≤d) (hd2:d≤1000) (A:Option Addr) (n c:Nat) (L:List JsV) (hE:Es jsRow 5 w A n L) (hn:n≤1000) (hk:∀ k∈L,∀ W',Below w.heap.size w W'→Calls Tryz.prog 199 #[.agg (jsRow k).toArray,.int .i64 ((d:Int) - 1)] W' fun e w''=>e=.returned (.bool true)∧Below W'.heap.size W' w'') :
  Calls Tryz.prog 199 #[.agg #[.int .i64 4,.int .i64 0,.string ⟨#[]⟩,.slice none 0 0,.slice A n c],.int .i64 (d:Int)] w fun e w'=>e=.returned (.bool true)∧Below w.heap.size w w':=by
 have hs0:str []=⟨#[]⟩:=rfl
 obtain⟨W,hW⟩:∃ W,(w.alloc (.cells (jsRow ⟨4,0,[],.slice none 0 0,.slice A n c⟩).toArray 197)).alloc (.cells ([.int .i64 (d:Int)]:List Value).toArray 3)=W:=⟨_,rfl⟩
 have B0:Blk W w.heap.size (jsRow ⟨4,0,[],.slice none 0 0,.slice A n c⟩) 197:=by rw [← hW]; exact(Blk.new _ _ _).alloc _
 have B1:Blk W (w.heap.size+1) [.int .i64 (d:Int)] 3:=by
  have:=Blk.new (w.alloc (.cells (jsRow ⟨4,0,[],.slice none 0 0,.slice A n c⟩).toArray 197)) [.int .i64 (d:Int)] 3; rw [← hW]; simpa using this
 have hbw:Below w.heap.size w W:=by rw [← hW]; exact((Below.refl _ _).alloc (Nat.le_refl _) _).alloc (by simp) _
 have hpl:=plain_any 4 0 [] none 0 0 A n c W (by omega) (by omega) (by omega) (by omega) (by first|exact .inl rfl|exact .inr rfl)
 have hld:(ldJs (.pointer (some ⟨w.heap.size,0,none⟩))).run Tryz.prog W=.ok (.agg #[.int .i64 4,.int .i64 0,.string ⟨#[]⟩,.slice none 0 0,.slice A n c]) W:=ldJs_blk B0
 have HW:Hid ((w.alloc (.cells #[.int .i64 4,.int .i64 0,.string ⟨#[]⟩,.slice none 0 0,.slice A n c] 197)).alloc (.cells #[.int .i64 (d:Int)] 3)=W):=Lib.hid hW
 clear hW
 rw [hs0] at hpl
 have hdb:((d:Int)==0)=false:=by simp; omega
 go_enter Tryz.func199,Tryz.ntmps199
 go_upto_region 1 with fail
 rw [HW.out]
 clear HW
 go_wp2_with fail
 refine hpl.mono ?_
 rintro e w1 ⟨rfl,hb1⟩
 have hbw1:Below w.heap.size w w1:=hbw.trans (hb1.mono hbw.size)
 have C0:=B0.below hb1
 have C1:=B1.below hb1
 have k0:w1.cell? ⟨w.heap.size,0,none⟩=some (.int .i64 4):=C0.cell 0
 have k1:w1.cell? ⟨w.heap.size,1,none⟩=some (.int .i64 0):=C0.cell 1
 have k2:w1.cell? ⟨w.heap.size,2,none⟩=some (.string ⟨#[]⟩):=C0.cell 2
 have k3:w1.cell? ⟨w.heap.size,3,none⟩=some (.slice none 0 0):=C0.cell 3
 have k4:w1.cell? ⟨w.heap.size,4,none⟩=some (.slice A n c):=C0.cell 4
 have k5:w1.cell? ⟨w.heap.size+1,0,none⟩=some (.int .i64 (d:Int)):=C1.cell 0
 have hodd:=right1_any [] (fun c hc=>by cases hc) w1
 clear hpl hld B0 B1 hb1
 rw [hs0] at hodd
 go_wp2_with fail
 refine hodd.mono ?_
 rintro e w2 ⟨rfl,hb2⟩
 have hbw2:Below w.heap.size w w2:=hbw1.trans (hb2.mono hbw1.size)
 have D0:=C0.below hb2
 have D1:=C1.below hb2
 have q3:w2.cell? ⟨w.heap.size,3,none⟩=some (.slice none 0 0):=D0.cell 3
 have hnm:=hasStr_any 229 #[] (enters_of Tryz.func229 (by kernel_rfl) rfl) (fun _=>false) none 0 0 ([]:List Txt) w2 (Ts.empty w2 none) (by omega) (fun W' x hx _=>by cases hx)
 rw [show ([]:List Txt).any (fun _=>false)=false by simp] at hnm
 clear hodd k0 k1 k2 k3 k4 k5 C0 C1
 go_wp2_with fail
 refine hnm.mono ?_
 rintro e w3 ⟨rfl,hb3⟩
 have hbw3:Below w.heap.size w w3:=hbw2.trans (hb3.mono hbw2.size)
 have E0:=D0.below hb3
 have E1:=D1.below hb3
 have k0:w3.cell? ⟨w.heap.size,0,none⟩=some (.int .i64 4):=E0.cell 0
 have k1:w3.cell? ⟨w.heap.size,1,none⟩=some (.int .i64 0):=E0.cell 1
 have k3:w3.cell? ⟨w.heap.size,3,none⟩=some (.slice none 0 0):=E0.cell 3
 clear hnm q3 D0 D1 hb2
 go_wp2_with fail
 go_loopw [6,7,72] (fun _ _ i wx=>∃ j:Nat,j≤0∧i=.int .i64 (j:Int)∧Below w3.heap.size w3 wx) (fun _ _ i _=>0 - (intOf i).toNat)
 case atStart=>exact⟨0,by omega,rfl,Below.refl _ _⟩
 case round =>
  clear k0 k1 k3; obtain⟨j,hj,rfl,hbx⟩:=hrel; obtain⟨wx,hwx⟩:∃ wx,wx=wr:=⟨_,rfl⟩; subst hwx; have hbwx:Below w.heap.size w wx:=hbw3.trans (hbx.mono hbw3.size); have X0:=E0.below hbx; have X1:=E1.below hbx; have k3:wx.cell? ⟨w.heap.size,3,none⟩=some (.slice none 0 0):=X0.cell 3; have k4:wx.cell? ⟨w.heap.size,4,none⟩=some (.slice A n c):=X0.cell 4; obtain rfl:j=0:=by omega
  have hjs:=hasJs_any 233 #[.pointer (some ⟨w.heap.size+1,0,none⟩)] (enters_of Tryz.func233 (by kernel_rfl) rfl) (fun _=>false) A n c L wx (Es.below hE hbwx) (by omega) (fun W' x hx hb=>right2_any x (w.heap.size+1) d hd2 W' ((X1.below hb).cell 0) (fun W'' hb''=>hk x hx W'' (hbwx.trans ((hb.trans (hb''.mono hb.size)).mono hbwx.size)))); rw [show L.any (fun _=>false)=false by simp] at hjs; go_wp2_with fail
  refine hjs.mono ?_; rintro e w5 ⟨rfl,hb5⟩; go_wp2_with fail
  go_ret; exact⟨rfl,hbwx.trans (hb5.mono hbwx.size)⟩
theorem right_5(w:World) (d:Nat) (hd1:1≤d) (hd2:d≤1000) (A:Option Addr) (n c:Nat) (L:List JsV) (hE:Es jsRow 5 w A n L) (hn:n≤1000) (A':Option Addr) (c':Nat) (ns:List Txt) (hT:Ts w A' n ns) (hF:Fit n c' A') (hna:∀ x∈ns,Asc x) (hnd:ns.Nodup) (hk:∀ k∈L,∀ W',Below w.heap.size w W'→Calls Tryz.prog 199 #[.agg (jsRow k).toArray,.int .i64 ((d:Int) - 1)] W' fun e w''=>e=.returned (.bool true)∧Below W'.heap.size W' w'') :
  Calls Tryz.prog 199 #[.agg #[.int .i64 5,.int .i64 0,.string ⟨#[]⟩,.slice A' n c',.slice A n c],.int .i64 (d:Int)] w fun e w'=>e=.returned (.bool true)∧Below w.heap.size w w':=by
 have hs0:str []=⟨#[]⟩:=rfl
 obtain⟨W,hW⟩:∃ W,(w.alloc (.cells (jsRow ⟨5,0,[],.slice A' n c',.slice A n c⟩).toArray 197)).alloc (.cells ([.int .i64 (d:Int)]:List Value).toArray 3)=W:=⟨_,rfl⟩
 have B0:Blk W w.heap.size (jsRow ⟨5,0,[],.slice A' n c',.slice A n c⟩) 197:=by rw [← hW]; exact(Blk.new _ _ _).alloc _
 have B1:Blk W (w.heap.size+1) [.int .i64 (d:Int)] 3:=by
  have:=Blk.new (w.alloc (.cells (jsRow ⟨5,0,[],.slice A' n c',.slice A n c⟩).toArray 197)) [.int .i64 (d:Int)] 3; rw [← hW]; simpa using this
 have hbw:Below w.heap.size w W:=by rw [← hW]; exact((Below.refl _ _).alloc (Nat.le_refl _) _).alloc (by simp) _
 have hpl:=plain_any 5 0 [] A' n c' A n c W (by omega) (by omega) (by omega) (by omega) (by first|exact .inl rfl|exact .inr rfl)
 have hld:(ldJs (.pointer (some ⟨w.heap.size,0,none⟩))).run Tryz.prog W=.ok (.agg #[.int .i64 5,.int .i64 0,.string ⟨#[]⟩,.slice A' n c',.slice A n c]) W:=ldJs_blk B0
 have HW:Hid ((w.alloc (.cells #[.int .i64 5,.int .i64 0,.string ⟨#[]⟩,.slice A' n c',.slice A n c] 197)).alloc (.cells #[.int .i64 (d:Int)] 3)=W):=Lib.hid hW
 clear hW
 rw [hs0] at hpl
 obtain⟨hF1,hF2,hF3⟩:=hF
 have hdb:((d:Int)==0)=false:=by simp; omega
 go_enter Tryz.func199,Tryz.ntmps199
 go_upto_region 1 with fail
 rw [HW.out]
 clear HW
 go_wp2_with fail
 refine hpl.mono ?_
 rintro e w1 ⟨rfl,hb1⟩
 have hbw1:Below w.heap.size w w1:=hbw.trans (hb1.mono hbw.size)
 have C0:=B0.below hb1
 have C1:=B1.below hb1
 have k0:w1.cell? ⟨w.heap.size,0,none⟩=some (.int .i64 5):=C0.cell 0
 have k1:w1.cell? ⟨w.heap.size,1,none⟩=some (.int .i64 0):=C0.cell 1
 have k2:w1.cell? ⟨w.heap.size,2,none⟩=some (.string ⟨#[]⟩):=C0.cell 2
 have k3:w1.cell? ⟨w.heap.size,3,none⟩=some (.slice A' n c'):=C0.cell 3
 have k4:w1.cell? ⟨w.heap.size,4,none⟩=some (.slice A n c):=C0.cell 4
 have k5:w1.cell? ⟨w.heap.size+1,0,none⟩=some (.int .i64 (d:Int)):=C1.cell 0
 have hodd:=right1_any [] (fun c hc=>by cases hc) w1
 clear hpl hld B0 B1 hb1
 rw [hs0] at hodd
 go_wp2_with fail
 refine hodd.mono ?_
 rintro e w2 ⟨rfl,hb2⟩
 have hbw2:Below w.heap.size w w2:=hbw1.trans (hb2.mono hbw1.size)
 have D0:=C0.below hb2
 have D1:=C1.below hb2
 have q3:w2.cell? ⟨w.heap.size,3,none⟩=some (.slice A' n c'):=D0.cell 3
 have hnm:=hasStr_any 229 #[] (enters_of Tryz.func229 (by kernel_rfl) rfl) (fun _=>false) A' n c' ns w2 (Ts.below hT hbw2) (by omega) (fun W' x hx _=>right1_any x (hna x hx) W')
 rw [show ns.any (fun _=>false)=false by simp] at hnm
 clear hodd k0 k1 k2 k3 k4 k5 C0 C1
 go_wp2_with fail
 refine hnm.mono ?_
 rintro e w3 ⟨rfl,hb3⟩
 have hbw3:Below w.heap.size w w3:=hbw2.trans (hb3.mono hbw2.size)
 have E0:=D0.below hb3
 have E1:=D1.below hb3
 have k0:w3.cell? ⟨w.heap.size,0,none⟩=some (.int .i64 5):=E0.cell 0
 have k1:w3.cell? ⟨w.heap.size,1,none⟩=some (.int .i64 0):=E0.cell 1
 have k3:w3.cell? ⟨w.heap.size,3,none⟩=some (.slice A' n c'):=E0.cell 3
 clear hnm q3 D0 D1 hb2
 go_wp2_with fail
 go_loopw [6,7,72] (fun _ _ i wx=>∃ j:Nat,j≤n∧i=.int .i64 (j:Int)∧Below w3.heap.size w3 wx) (fun _ _ i _=>n - (intOf i).toNat)
 case atStart=>exact⟨0,by omega,rfl,Below.refl _ _⟩
 case round =>
  clear k0 k1 k3; obtain⟨j,hj,rfl,hbx⟩:=hrel; obtain⟨wx,hwx⟩:∃ wx,wx=wr:=⟨_,rfl⟩; subst hwx; have hbwx:Below w.heap.size w wx:=hbw3.trans (hbx.mono hbw3.size); have X0:=E0.below hbx; have X1:=E1.below hbx; have k3:wx.cell? ⟨w.heap.size,3,none⟩=some (.slice A' n c'):=X0.cell 3; have k4:wx.cell? ⟨w.heap.size,4,none⟩=some (.slice A n c):=X0.cell 4; by_cases hlt:j<n
  ·have hns:=hT.len
   have hTx:=Ts.below hT hbwx; obtain⟨bb,off,rfl,hcell⟩:=hTx.lit (i:=j) (by omega); have hcon:=contains_any (some ⟨bb,off,none⟩) j c' (ns.take j) (ns[j]'(by omega)) wx (ts_take2 hTx (by omega)) (by omega); have hnc:(ns.take j).contains (ns[j]'(by omega))=false:=by
    rw [List.contains_eq_mem]; simp only [decide_eq_false_iff_not]; intro hm; obtain⟨q,hq,he⟩:=List.getElem_of_mem hm; rw [List.length_take] at hq; rw [List.getElem_take] at he; exact(List.nodup_iff_pairwise_ne.1 hnd |> fun hp=>(List.pairwise_iff_getElem.1 hp) q j (by omega) (by omega) (by omega)) he
   rw [hnc] at hcon; have hjz:(j:Int)<(n:Int):=by omega
   have hjc:(j:Int)≤(c':Int):=by omega
   generalize ns[j]'(by omega)=sj at *; go_wp2_with fail
   refine hcon.mono ?_; rintro e w4 ⟨rfl,hw4⟩; have hw4':=hw4.symm; subst hw4'; go_wp2; go_roundw
   case rel=>exact⟨j+1,by omega,by go_num,hbx⟩
   case measure=>simp [intOf]; omega
  ·have hje:(n:Int)≤(j:Int):=by omega
   have hjs:=hasJs_any 233 #[.pointer (some ⟨w.heap.size+1,0,none⟩)] (enters_of Tryz.func233 (by kernel_rfl) rfl) (fun _=>false) A n c L wx (Es.below hE hbwx) (by omega) (fun W' x hx hb=>right2_any x (w.heap.size+1) d hd2 W' ((X1.below hb).cell 0) (fun W'' hb''=>hk x hx W'' (hbwx.trans ((hb.trans (hb''.mono hb.size)).mono hbwx.size)))); rw [show L.any (fun _=>false)=false by simp] at hjs; go_wp2_with fail
   refine hjs.mono ?_; rintro e w5 ⟨rfl,hb5⟩; go_wp2_with fail
   go_ret; exact⟨rfl,hbwx.trans (hb5.mono hbwx.size)⟩
end
section
open Go.RowKit Mem
theorem copyCheck_used(b:Nat) (w:World) (h0:w.cell? ⟨b,0,none⟩=some (.pointer (some ⟨b,0,none⟩))) :
  Calls Tryz.prog 257 #[.pointer (some ⟨b,0,none⟩)] w fun e w'=>e=.returned (.tuple #[])∧w'=w:=by
 have X:=Tryz.Builder_Extra_169
 obtain⟨j,hj,_⟩:=Option.map_eq_some_iff.1 X.sizeBuilder
 have hp:=fun W=>Lib.run_neq_ptr_same (P:=Tryz.prog) W ⟨b,0,none⟩ Tryz.underlying212 hj
 go_enter Tryz.func257,Tryz.ntmps257
 go_wp2
 go_end0
 exact⟨rfl,rfl⟩
theorem copyCheck_fresh(b:Nat) (w:World) (h0:w.cell? ⟨b,0,none⟩=some (.pointer none)) (hsh:w.shape? b=some (216,2)) (hfz:w.frozen? ⟨b,0,none⟩=false) :
  Calls Tryz.prog 257 #[.pointer (some ⟨b,0,none⟩)] w fun e w'=>e=.returned (.tuple #[])∧w'=w.setCell ⟨b,0,none⟩ (.pointer (some ⟨b,0,none⟩)):=by
 have X:=Tryz.Builder_Extra_169
 obtain⟨j,hj,hjs⟩:=Option.map_eq_some_iff.1 X.sizeBuilder
 go_enter Tryz.func257,Tryz.ntmps257
 go_wp2
 rw [Lib.run_to_unsafe w ⟨b,0,none⟩ Tryz.underlying212 Tryz.underlying286 hj (by rw [hjs]; decide) hsh (Nat.zero_lt_succ 1)]
 simp only [Result.andThen]
 rw [Oper.upon_value]
 go_wp2
 rw [run_callFunc_extern Tryz.func271 (by kernel_rfl) (by kernel_rfl) (by kernel_rfl) (e:=Extern.AbiNoEscape.same) (by kernel_rfl)]
 rw [Lib.run_noEscape]
 simp only [Result.andThen]
 rw [Oper.upon_value]
 go_wp2
 rw [Lib.run_from_unsafe w ⟨b,0,none⟩ Tryz.underlying286 Tryz.underlying212 hj hsh (by kernel_rfl)]
 simp only [Result.andThen]
 rw [Oper.upon_value]
 go_wp2
 go_end0
 exact⟨rfl,rfl⟩
end
section
open Go.RowKit Mem
def KeepB (b:Nat) (w w':World):Prop:=Below b w w'∧∀ (g:Nat) (M:List Value) (e:TypeId),Blk w g M e→e≠5→g≠b→Blk w' g M e
theorem KeepB.refl(b:Nat) (w:World):KeepB b w w:=⟨Below.refl _ _,fun _ _ _ h _ _=>h⟩
theorem KeepB.trans{b:Nat} {w w' w'':World} (h:KeepB b w w') (h':KeepB b w' w''):KeepB b w w'':=⟨h.1.trans h'.1,fun g M e hB he hg=>h'.2 g M e (h.2 g M e hB he hg) he hg⟩
theorem KeepB.of_below{b:Nat} {w w':World} (h:Below w.heap.size w w') (hb:b≤w.heap.size):KeepB b w w':=⟨h.mono hb,fun _ _ _ hB _ _=>hB.below h⟩
def AllB (bs:List Value):Prop:=∀ u∈bs,∃ c:UInt8,u=.int .u8 (c.toNat:Int)
theorem AllB.one{bs:List Value} (h:AllB bs):∀ u∈bs,u.oneCell'=true:=fun u hu=>by
 obtain⟨c,rfl⟩:=h u hu
 rfl
theorem AllB.append{a c:List Value} (h:AllB a) (h':AllB c):AllB (a++c):=fun u hu=>(List.mem_append.1 hu).elim (h u) (h' u)
theorem AllB.drop{a:List Value} (h:AllB a) (k:Nat):AllB (a.drop k):=fun u hu=>h u (List.mem_of_mem_drop hu)
theorem AllB.of_bv(l:List UInt8):AllB (bv l):=fun u hu=>by
 obtain⟨c,_,rfl⟩:=List.mem_map.1 hu
 exact⟨c,rfl⟩
theorem byte_of{c:Int} (h0:0≤c) (h1:c<256):∃ x:UInt8,Value.int .u8 c=.int .u8 (x.toNat:Int):=by
 obtain⟨n,rfl⟩:=Int.eq_ofNat_of_zero_le h0
 refine⟨UInt8.ofNat n,?_⟩
 rw [UInt8.toNat_ofNat_of_lt' (by show n<256; omega)]
theorem AllB.bytes:∀ {bs:List Value},AllB bs→∃ l:List UInt8,bs=bv l
 | [],_=>⟨[],rfl⟩
 | u::bs,h=>by
  obtain⟨l,hl⟩:=AllB.bytes (bs:=bs) fun x hx=>h x (List.mem_cons_of_mem _ hx); obtain⟨c,rfl⟩:=h u (List.mem_cons_self ..); exact⟨c::l,by rw [hl]; rfl⟩
def WS (b n:Nat) (w:World):Prop:=b<w.heap.size∧∃ bs:List Value,bs.length=n∧AllB bs∧Lib.IsBuilder 216 5 b b bs w
theorem WS.below{b n:Nat} {w w':World} (h:WS b n w) (hb:Below w.heap.size w w'):WS b n w':=by
 obtain⟨hlt,bs,hl,hby,hI⟩:=h
 refine⟨Nat.lt_of_lt_of_le hlt hb.size,bs,hl,hby,?_⟩
 have key:∀ p,Lib.BuilderAt 216 5 b b p bs w→Lib.BuilderAt 216 5 b b p bs w':=fun p ⟨h1,v,h2,h3,h4⟩=>⟨h1,v,by rw [hb.block b hlt]; exact h2,own_below h3 hb (Nat.le_refl _),h4⟩
 exact hI.imp (key _) (key _)
theorem copyCheck_keep(b:Nat) (bs:List Value) (w:World) (h:Lib.IsBuilder 216 5 b b bs w) :
  Calls Tryz.prog 257 #[.pointer (some ⟨b,0,none⟩)] w fun e w'=>e=.returned (.tuple #[])∧Lib.BuilderAt 216 5 b b (.pointer (some ⟨b,0,none⟩)) bs w'∧KeepB b w w':=by
 rcases h with h|h
 ·refine(copyCheck_fresh b w h.cell0 h.shape h.frozen0).mono ?_
  rintro e w' ⟨rfl,rfl⟩; exact⟨rfl,h.used _,(Below.refl b w).setCell (p:=⟨b,0,none⟩) h.1 _,fun g M e hB _ hg=>hB.set_ne (p:=⟨b,0,none⟩) hg _⟩
 ·refine(copyCheck_used b w h.cell0).mono ?_
  rintro e w' ⟨rfl,rfl⟩; exact⟨rfl,h,KeepB.refl _ _⟩
theorem keep_grown{b:Nat} {w w1 w2:World} {v:Value} {bs:List Value} {x:Value} (hb:b≤w.heap.size) (hown:w.ownsRow b 5 1 v bs.length bs) (ha:Below w.heap.size w w1) (hg:w1.grownBy w2 v.ownBlock):KeepB b w (w2.setCell ⟨b,1,none⟩ x):=by
 refine⟨?_,fun g M e hB he hgb=>?_⟩
 ·exact((ha.mono hb).grown hg (Nat.le_trans hb ha.size) (fun k hk=>(hown.lt k hk).1)).setCell (p:=⟨b,1,none⟩) (Nat.le_refl _) _
 ·have h1:v.ownBlock≠some g:=own_ne hown hB (fun e=>he e.symm)
  have hB2:Blk w2 g M e:=by
   have hB1:=hB.below ha; unfold Blk at *; rw [hg.block g (Array.getElem?_eq_some_iff.1 hB1).1 (fun e=>h1 e.symm)]; exact hB1
  exact hB2.set_ne (p:=⟨b,1,none⟩) hgb _
theorem wbyte_any(b n:Nat) (c:Int) (w:World) (h:WS b n w) (hlen:n≤1000000) (hc0:0≤c:=by omega) (hc1:c<256:=by omega) :
  Calls Tryz.prog 227 #[.pointer (some ⟨b,0,none⟩),.int .u8 c] w fun e w'=>e=.returned .nilIface∧WS b (n+1) w'∧KeepB b w w':=by
 obtain⟨hbl,bs,rfl,hby,hI⟩:=h
 have hbc:AllB [Value.int .u8 c]:=fun u hu=>by
  rw [List.mem_singleton.1 hu]; exact byte_of hc0 hc1
 obtain⟨i0,hi,hz0,hz1,hz2⟩:=info_parts infoB
 go_enter Tryz.func227,Tryz.ntmps227
 go_wp2_with fail
 refine(copyCheck_keep b bs _ hI).mono ?_
 rintro e w1 ⟨rfl,h1,hb1⟩
 obtain⟨hB,v,hbk,hown,hne⟩:=h1
 have c0:w1.cell? ⟨b,0,none⟩=some (.pointer (some ⟨b,0,none⟩)):=by rw [Lib.cell_of_heap hbk]; rfl
 have c1:w1.cell? ⟨b,1,none⟩=some v:=by rw [Lib.cell_of_heap hbk]; rfl
 have hB1:b≤w1.heap.size:=Nat.le_trans (Nat.le_of_lt hbl) hb1.1.size
 have h63:bs.length+1≤maxLen:=by unfold maxLen; omega
 go_wp2_with (at_builtin; go_must (refine wpList_push rfl (.tmp 11) (.tmp 13) 62 rfl b i0 (.int .u8 0) 1 Tryz.underlying62 hi hz0 hz1 hz2 rfl _ _ _ rfl hown rfl rfl h63 (by omega) hB1 ?_))
 intro A' c' w2 hown' g1 g2 hgrow
 have hlt:b<w1.heap.size:=by
  rcases Nat.lt_or_ge b w1.heap.size with h'|h'
  ·exact h'
  ·simp [Array.getElem?_eq_none h'] at hbk
 have hb2:w2.heap[b]?=some (.cells #[.pointer (some ⟨b,0,none⟩),v] 216 (0,0)):=by
  rw [hgrow.block b (by simp; omega) (fun e=>hne e.symm),Lib.alloc_old w1 _ b hlt]
  exact hbk
 have d0:w2.cell? ⟨b,0,none⟩=some (.pointer (some ⟨b,0,none⟩)):=by rw [Lib.cell_of_heap hb2]; rfl
 have d1:w2.cell? ⟨b,1,none⟩=some v:=by rw [Lib.cell_of_heap hb2]; rfl
 have f1:w2.frozen? ⟨b,1,none⟩=false:=Lib.frozen_of_heap hb2 1
 obtain⟨g,cap,hsl⟩:∃ g cap,Value.slice A' (bs.length+1) c'=.slice (some ⟨g,0,none⟩) (bs.length+1) cap:=by
  rcases hown'.2 with⟨_,h0⟩|⟨g,cap,cur,hv,_⟩
  ·omega
  ·exact⟨g,cap,hv⟩
 rw [hsl] at hown' ⊢
 have hkg:=keep_grown (x:=.slice (some ⟨g,0,none⟩) (bs.length+1) cap) hB1 hown ((Below.refl _ _).alloc (Nat.le_refl _) _) hgrow
 have hsz:b<w2.heap.size:=by have:=hgrow.size; simp at this; omega
 clear hc0 hc1
 go_wp2
 go_ret
 refine⟨rfl,⟨by simpa using hsz,bs++[.int .u8 c],by simp,hby.append hbc,.inr ?_⟩,hb1.trans hkg⟩
 exact Lib.BuilderAt.put (T:=216) (e:=5) hB hb2 (bs':=bs++[.int .u8 c]) (by simpa using hown') (by decide)
theorem wbytes_any(b n g off m cap0:Nat) (M:List Value) (e:TypeId) (w:World) (h:WS b n w) (hlen:n≤1000000) (hm:1≤m) (hm2:m≤1000) (hB0:Blk w g M e) (he:e≠5) (hg:g≠b) (hM:M.length=off+m) (hM8:AllB M) :
  Calls Tryz.prog 260 #[.pointer (some ⟨b,0,none⟩),.slice (some ⟨g,off,none⟩) m cap0] w fun x w'=>x=.returned (.tuple #[.int .i64 (m:Int),.nilIface])∧WS b (n+m) w'∧KeepB b w w':=by
 obtain⟨hbl,bs,rfl,hby,hI⟩:=h
 have h1:=hM8.one
 obtain⟨i0,hi,hz0,hz1,hz2⟩:=info_parts infoB
 go_enter Tryz.func260,Tryz.ntmps260
 go_wp2_with fail
 refine(copyCheck_keep b bs _ hI).mono ?_
 rintro x w1 ⟨rfl,hq1,hb1⟩
 obtain⟨hB,v,hbk,hown,hne⟩:=hq1
 have hBg:=hb1.2 g M e hB0 he hg
 have c0:w1.cell? ⟨b,0,none⟩=some (.pointer (some ⟨b,0,none⟩)):=by rw [Lib.cell_of_heap hbk]; rfl
 have c1:w1.cell? ⟨b,1,none⟩=some v:=by rw [Lib.cell_of_heap hbk]; rfl
 have hB1:b≤w1.heap.size:=Nat.le_trans (Nat.le_of_lt hbl) hb1.1.size
 have h63:bs.length+m≤maxLen:=by unfold maxLen; omega
 have hvs:Vs w1 w1.heap.size 1 (some ⟨g,off,none⟩) m (M.drop off):=⟨by rw [List.length_drop]; omega,fun j u hj=>⟨_,rfl,hBg.lt,by
  rw [show (⟨g,off,none⟩:Addr).add j=⟨g,off+j,none⟩ by simp [Addr.add],hBg.cell]; rw [List.getElem?_drop] at hj; exact hj⟩⟩
 go_wp2_with (at_builtin; go_must (refine wpList_append w1 rfl (.tmp 12) (.tmp 13) 62 rfl b 5 i0 (.int .u8 0) 1 1 Tryz.underlying62 hi hz0 hz1 hz2 rfl (by omega) _ _ _ rfl hown _ _ m _ _ rfl hvs (fun u hu=>h1 u (List.mem_of_mem_drop hu)) h63 (by omega) hB1 ?_))
 intro A' c' w2 hown' g1 g2 hgrow
 have hlt:b<w1.heap.size:=by
  rcases Nat.lt_or_ge b w1.heap.size with h'|h'
  ·exact h'
  ·simp [Array.getElem?_eq_none h'] at hbk
 have hb2:w2.heap[b]?=some (.cells #[.pointer (some ⟨b,0,none⟩),v] 216 (0,0)):=by
  rw [hgrow.block b hlt (fun e=>hne e.symm)]; exact hbk
 have d0:w2.cell? ⟨b,0,none⟩=some (.pointer (some ⟨b,0,none⟩)):=by rw [Lib.cell_of_heap hb2]; rfl
 have d1:w2.cell? ⟨b,1,none⟩=some v:=by rw [Lib.cell_of_heap hb2]; rfl
 have f1:w2.frozen? ⟨b,1,none⟩=false:=Lib.frozen_of_heap hb2 1
 obtain⟨g',cap,hsl⟩:∃ g cap,Value.slice A' (bs.length+m) c'=.slice (some ⟨g,0,none⟩) (bs.length+m) cap:=by
  rcases hown'.2 with⟨_,h0⟩|⟨g,cap,cur,hv,_⟩
  ·omega
  ·exact⟨g,cap,hv⟩
 rw [hsl] at hown' ⊢
 have hkg:=keep_grown (x:=.slice (some ⟨g',0,none⟩) (bs.length+m) cap) hB1 hown (Below.refl _ _) hgrow
 have hsz:b<w2.heap.size:=by have:=hgrow.size; omega
 have hll:(bs++M.drop off).length=bs.length+m:=by rw [List.length_append,List.length_drop]; omega
 go_wp2
 go_ret2
 refine⟨rfl,⟨by simpa using hsz,bs++M.drop off,hll,hby.append (hM8.drop off),.inr ?_⟩,hb1.trans hkg⟩
 exact Lib.BuilderAt.put (T:=216) (e:=5) hB hb2 (bs':=bs++M.drop off) (by rw [hll]; exact hown') (by decide)
theorem wlen_any(b n:Nat) (w:World) (h:WS b n w):Calls Tryz.prog 201 #[.pointer (some ⟨b,0,none⟩)] w fun e w'=>e=.returned (.int .i64 (n:Int))∧w'=w:=by
 obtain⟨hbl,bs,rfl,hby,hI⟩:=h
 obtain⟨p,hB,v,hbk,hown,hne⟩:∃ p,Lib.BuilderAt 216 5 b b p bs w:=by
  rcases hI with h|h
  ·exact⟨_,h⟩
  ·exact⟨_,h⟩
 have c1:w.cell? ⟨b,1,none⟩=some v:=by rw [Lib.cell_of_heap hbk]; rfl
 obtain⟨A,m,c,hv,hm⟩:∃ A m c,v=.slice A m c∧m=bs.length:=by
  rcases hown.2 with⟨h1,h2⟩|⟨g,cap,cur,hv,_⟩
  ·exact⟨none,0,0,h1,h2.symm⟩
  ·exact⟨_,_,_,hv,rfl⟩
 subst hv hm
 clear hown hne hbk hI
 go_enter Tryz.func201,Tryz.ntmps201
 go_wp2
 go_ret
 exact⟨rfl,rfl⟩
theorem wstr_any(b n:Nat) (w:World) (h:WS b n w) (hn:0<n):Calls Tryz.prog 202 #[.pointer (some ⟨b,0,none⟩)] w fun e w'=>(∃ l:List UInt8,l.length=n∧e=.returned (.string ⟨l.toArray⟩))∧Below b w w':=by
 obtain⟨hbl,bs,hl,hby,hI⟩:=h
 obtain⟨l,rfl⟩:=hby.bytes
 rw [bv_length] at hl
 subst hl
 obtain⟨p,hB,v,hbk,hown,hne⟩:∃ p,Lib.BuilderAt 216 5 b b p (bv l) w:=by
  rcases hI with h|h
  ·exact⟨_,h⟩
  ·exact⟨_,h⟩
 rw [bv_length] at hown
 obtain⟨g,cap,cur,rfl,hbg,hg,hnc,hcm,hcs,htake⟩:∃ g cap cur,v=.slice (some ⟨g,0,none⟩) l.length cap∧b≤g∧w.heap[g]?=some (.cells cur 5 (0,0))∧l.length≤cap∧cap≤maxLen∧cur.size=cap * 1∧cur.toList.take (l.length * 1)=bv l:=by
  rcases hown.2 with⟨_,hz⟩|⟨g,cap,cur,hv,r⟩
  ·omega
  ·exact⟨g,cap,cur,hv,r⟩
 have c1:w.drew.cell? ⟨b,1,none⟩=some (.slice (some ⟨g,0,none⟩) l.length cap):=by
  have:w.drew.heap[b]?=some (.cells #[p,.slice (some ⟨g,0,none⟩) l.length cap] 216 (0,0)):=hbk; rw [Lib.cell_of_heap this]; rfl
 have hSD:(Builtin.unsafeSliceData_ #[62] 247 #[.slice (some ⟨g,0,none⟩) l.length cap]).run Tryz.prog w.drew=.ok (.pointer (some ⟨g,0,none⟩)) w.drew :=
  Lib.run_unsafeSliceData_row _ _ _ _ _ _ (by omega)
 have hUS:(Builtin.unsafeString_ #[247,3] 9 #[.pointer (some ⟨g,0,none⟩),.int .i64 l.length]).run Tryz.prog w.drew=.ok (.string ⟨l.toArray⟩) (w.drew.freeze ⟨g,0,none⟩ l.length):=by
  refine Lib.run_unsafeString_row w.drew 247 3 9 5 Tryz.underlying247 (by kernel_rfl) g cur.size (by have hg':w.drew.heap[g]?=some (.cells cur 5 (0,0)):=hg; simp [World.shape?,hg']) l (fun e=>by simp [e] at hn) (by omega) (by unfold maxLen at hcm; omega) ?_
  intro j x hx; exact hown.cells (g:=g) rfl j (.int .u8 x.toNat) (by simp [bv,hx])
 have mixed:Tryz.prog.follows Departure.mixedOrders=true:=by kernel_rfl
 go_enter Tryz.func202,Tryz.ntmps202
 go_wp2
 go_region_o
 all_goals (go_wp2; go_ret; exact⟨⟨l,rfl,rfl⟩,Lib.below_freeze (Below.drew (Below.refl b w)) (p:=⟨g,0,none⟩) hbg _⟩)
end
section
open Go.RowKit Mem Led
def Clear (t:Txt):Prop:=∀ c∈t,32≤c.toNat∧c.toNat≠34∧c.toNat≠92
theorem index_str(t:Txt) (j:Nat) (h:j<t.length) (w:World):(Instr.index 9 (.string (str t)) (.int .i64 (j:Int))).run Tryz.prog w=.ok (.int .u8 ((t[j].toNat:Nat):Int)) w:=by
 have hs:=str_size t
 have h3:(0:Int)≤(j:Int)∧(j:Int)<((str t).size:Int):=⟨by omega,by rw [hs]; omega⟩
 refine(run_index_string _ _ _ _ _ Tryz.underlying9).trans ?_
 rw [dif_pos h3]
 have:(str t)[((j:Int)).toNat]'(by omega)=t[j]:=by
  simp [str,ByteArray.getElem_eq_getElem_data]
 rw [this]
theorem wtext_any(b n:Nat) (t:Txt) (w:World) (h:WS b n w) (hn:n≤900000) (hl:t.length≤1000) (ht:Clear t) :
  Calls Tryz.prog 236 #[.pointer (some ⟨b,0,none⟩),.string (str t)] w fun e w'=>e=.returned (.tuple #[])∧WS b (n+t.length+2) w'∧KeepB b w w':=by
 have hs:=str_size t
 have h0:=wbyte_any b n 34 w h (by omega)
 have HT:=Lib.hid ht
 clear ht
 go_enter Tryz.func236,Tryz.ntmps236
 go_wp2_with fail
 refine h0.mono ?_
 rintro e w1 ⟨rfl,hw1,hk1⟩
 clear h0
 go_wp2_with fail
 go_loopw [4,5,12] (fun _ _ i wx=>∃ j:Nat,j≤t.length∧i=.int .i64 (j:Int)∧WS b (n+1+j) wx∧KeepB b w wx) (fun _ _ i _=>t.length - (intOf i).toNat)
 case atStart=>exact⟨0,by omega,rfl,hw1,hk1⟩
 case round =>
  clear hw1 hk1; obtain⟨j,hj,rfl,hw,hk⟩:=hrel; obtain⟨wx,hwx⟩:∃ wx,wx=wr:=⟨_,rfl⟩; subst hwx; by_cases hlt:j<t.length
  ·have hix:=fun W=>index_str t j hlt W
   obtain⟨c1,c2,c3⟩:=HT.out _ (List.getElem_mem hlt); have c4:=t[j].toNat_lt; generalize t[j].toNat=c at *; have hb:=wbyte_any b (n+1+j) (c:Int) wx hw (by omega); have d1:decide ((c:Int)<32)=false:=by simp; omega
   have d2:((c:Int)==34)=false:=by simp; omega
   have d3:((c:Int)==92)=false:=by simp; omega
   have d4:¬ (c:Int)<32:=by omega
   go_wp2_with fail
   refine hb.mono ?_; rintro e w2 ⟨rfl,hw2,hk2⟩; have hk3:=hk.trans hk2; clear hb hix hw hk hk2; go_wp2_with fail
   go_roundw
   case rel=>exact⟨j+1,by omega,by go_num,hw2,hk3⟩
   case measure=>simp [intOf]; omega
  ·have hje:j=t.length:=by omega
   have hjge:(t.length:Int)≤(j:Int):=by omega
   have h2:=wbyte_any b (n+1+j) 34 wx hw (by omega); have HE:=Lib.hid (show n+1+j+1=n+t.length+2 by omega); clear hje; go_wp2_with fail
   refine h2.mono ?_; rintro e w2 ⟨rfl,hw2,hk2⟩; go_wp2; go_end0
   exact⟨rfl,by rw [← HE.out]; exact hw2,hk.trans hk2⟩
theorem WS.set{b n g o:Nat} {w:World} {M:List Value} {e:TypeId} (h:WS b n w) (hB:Blk w g M e) (he:e≠5) (hg:g≠b) (x:Value):WS b n (w.setCell ⟨g,o,none⟩ x):=by
 obtain⟨hlt,bs,hl,hby,hI⟩:=h
 refine⟨by simpa using hlt,bs,hl,hby,?_⟩
 have key:∀ p,Lib.BuilderAt 216 5 b b p bs w→Lib.BuilderAt 216 5 b b p bs (w.setCell ⟨g,o,none⟩ x):=fun p ⟨h1,v,h2,h3,h4⟩=>⟨h1,v,by rw [heap_setCell_other w ⟨g,o,none⟩ b x (fun e=>hg e.symm)]; exact h2,own_at h3 (own_ne h3 hB (fun e=>he e.symm)),h4⟩
 exact hI.imp (key _) (key _)
theorem ten_div{M k:Nat} (hk:k<16) (h:M<10 ^ (16 - k)):M / 10<10 ^ (16 - (k+1)):=by
 rw [Nat.div_lt_iff_lt_mul (by omega),← Nat.pow_succ]
 rw [show (16 - (k+1)).succ=16 - k by omega]
 exact h
theorem sliceA16(g at_:Nat) (h:at_≤15) (W:World):(Instr.sliceAt 272 (.pointer (some ⟨g,0,none⟩)) (some (.int .i64 (at_:Int))) none none).run Tryz.prog W=.ok (.slice (some ⟨g,at_,none⟩) (16 - at_) (16 - at_)) W:=by
 have:at_=0∨at_=1∨at_=2∨at_=3∨at_=4∨at_=5∨at_=6∨at_=7∨at_=8∨at_=9∨at_=10∨at_=11∨at_=12∨at_=13∨at_=14∨at_=15:=by omega
 rcases this with rfl|rfl|rfl|rfl|rfl|rfl|rfl|rfl|rfl|rfl|rfl|rfl|rfl|rfl|rfl|rfl <;> rfl
theorem wnum_any(b n m:Nat) (w:World) (h:WS b n w) (hn:n≤900000) (hm:m<10 ^ 16) :
  Calls Tryz.prog 235 #[.pointer (some ⟨b,0,none⟩),.int .i64 (m:Int)] w fun e w'=>e=.returned (.tuple #[])∧∃ n',n'≤n+16∧WS b n' w'∧KeepB b w w':=by
 have hm':m<10000000000000000:=hm
 have hbl:=h.1
 have hneg:¬ (m:Int)<0:=by omega
 have BA:=Blk.new w (bv (List.replicate 16 0)) 272
 have hbA:Below w.heap.size w (w.alloc (.cells (bv (List.replicate 16 0)).toArray 272)):=(Below.refl _ _).alloc (Nat.le_refl _) _
 obtain⟨wA,hwA⟩:∃ wA,Hid (w.alloc (.cells #[.int .u8 0,.int .u8 0,.int .u8 0,.int .u8 0,.int .u8 0,.int .u8 0,.int .u8 0,.int .u8 0,.int .u8 0,.int .u8 0,.int .u8 0,.int .u8 0,.int .u8 0,.int .u8 0,.int .u8 0,.int .u8 0] 272)=wA):=⟨_,Lib.hid rfl⟩
 have BA:Blk wA w.heap.size (bv (List.replicate 16 0)) 272:=by rw [← hwA.out]; exact BA
 have hbA:Below w.heap.size w wA:=by rw [← hwA.out]; exact hbA
 have hWA:=h.below hbA
 have hKA:KeepB b w wA:=KeepB.of_below hbA (Nat.le_of_lt hbl)
 go_enter Tryz.func235,Tryz.ntmps235
 go_upto_region 4 with fail
 rw [hwA.out]
 go_wp2_with fail
 go_loopw [1,5] (fun v i wx=>∃ (k M:Nat) (C:List Value),k≤15∧Hid (M<10 ^ (16 - k))∧(k=0∨0<M)∧M<10000000000000000∧v=.int .i64 (M:Int)∧i=.int .i64 (16 - (k:Int))∧WS b n wx∧KeepB b w wx∧Blk wx w.heap.size C 272∧C.length=16∧Hid (AllB C)) (fun _ i _=>(intOf i).toNat)
 case atStart=>exact⟨0,m,_,by omega,Lib.hid hm,.inl rfl,hm',rfl,rfl,hWA,hKA,BA,rfl,Lib.hid (AllB.of_bv _)⟩
 case round =>
  clear hWA hKA BA hbA; obtain⟨k,M,C,hk,HM,hkm,hM,rfl,rfl,hw,hK,hB,hC,HC⟩:=hrel; obtain⟨wx,hwx⟩:∃ wx,wx=wr:=⟨_,rfl⟩; subst hwx; obtain⟨at_,hat⟩:∃ at_:Nat,15 - k=at_:=⟨_,rfl⟩; have e1:(16 - (k:Int)) - 1=(at_:Int):=by omega
  have ha15:at_≤15:=by omega
  obtain⟨q,hq⟩:∃ q,M / 10=q:=⟨_,rfl⟩; have hqM:q<10000000000000000:=by omega
  have hdv:Int.tdiv (M:Int) 10=(q:Int):=by rw [← hq]; exact nat_tdiv M 10
  obtain⟨r,hr⟩:∃ r,M % 10=r:=⟨_,rfl⟩; have hr10:r<10:=by omega
  have hmd:Int.tmod (M:Int) 10=(r:Int):=by rw [← hr]; exact nat_tmod M 10
  have hdv2:(M:Int) / 10=(q:Int):=by omega
  have hmd2:(M:Int) % 10=(r:Int):=by omega
  obtain⟨u0,hu0⟩:∃ u,C[at_]?=some u:=⟨_,List.getElem?_eq_getElem (by omega)⟩; have hcl:wx.cell? ⟨w.heap.size,at_,none⟩=some u0:=(hB.cell at_).trans hu0; have hfz:wx.frozen? ⟨w.heap.size,at_,none⟩=false:=hB.froz _; have hblt:=hB.lt; have HQ:=Lib.hid (by rw [← hq]; exact ten_div (show k<16 by omega) HM.out:q<10 ^ (16 - (k+1)))
  have hwr1:IntKind.i64.wrap ((16:Int) - (k:Int) - 1)=(at_:Int):=by rw [IntKind.wrap_i64]; omega
  clear hu0 hq hr; have hKs:KeepB b w (wx.setCell ⟨w.heap.size,at_,none⟩ (.int .u8 (48+(r:Int)))):=⟨hK.1.setCell (p:=⟨w.heap.size,at_,none⟩) (Nat.le_of_lt hbl) _,fun g M' e hB' he hg=>(hK.2 g M' e hB' he hg).set_ne (p:=⟨w.heap.size,at_,none⟩) (by have:=hB'.lt; simp; omega) _⟩
  have hWs:WS b n (wx.setCell ⟨w.heap.size,at_,none⟩ (.int .u8 (48+(r:Int)))):=hw.set hB (by decide) (by omega) _; have hBs:=hB.set at_ (.int .u8 (48+(r:Int))); have hCs:(C.set at_ (.int .u8 (48+(r:Int)))).length=16:=by rw [List.length_set]; exact hC
  have hCo:AllB (C.set at_ (.int .u8 (48+(r:Int)))):=fun u hu=>by
   rcases List.mem_or_eq_of_mem_set hu with h|h
   ·exact HC.out u h
   ·rw [h]; exact byte_of (by omega) (by omega)
  by_cases hq0:q=0
  ·subst hq0
   have HH:=Lib.hid (show WS b n (wx.setCell ⟨w.heap.size,at_,none⟩ (.int .u8 (48+(r:Int))))∧Blk (wx.setCell ⟨w.heap.size,at_,none⟩ (.int .u8 (48+(r:Int)))) w.heap.size (C.set at_ (.int .u8 (48+(r:Int)))) 272∧(C.set at_ (.int .u8 (48+(r:Int)))).length=16∧AllB (C.set at_ (.int .u8 (48+(r:Int)))) from⟨hWs,hBs,hCs,hCo⟩); have hblt2:w.heap.size<(wx.setCell ⟨w.heap.size,at_,none⟩ (.int .u8 (48+(r:Int)))).heap.size:=hBs.lt; have hsl:=fun W=>sliceA16 w.heap.size at_ ha15 W; have HKS:=Lib.hid hKs; clear hKs hWs hBs hCs hCo hw hK hB; go_upto_region 9 with fail
   generalize wx.setCell ⟨w.heap.size,at_,none⟩ (.int .u8 (48+(r:Int)))=wy at *; refine Batch.wp_region_grew_tail 5 (by kernel_rfl) (by kernel_rfl) ?_; simp only [List.take_succ_cons,List.take_zero,List.drop_succ_cons,List.drop_zero]; repeat (go_big_quiet_step (fail))
   refine wpQuiet_nil ?_; rintro _ ⟨p,rfl⟩; have hbp:=Batch.grew_below wy p; have hKp:KeepB b wy (Batch.grew wy p):=KeepB.of_below hbp (by have:=hblt2; omega)
   obtain⟨hw1,hB1,hC1,hC2⟩:=HH.out; have hwr:=wbytes_any b n w.heap.size at_ (16 - at_) (16 - at_) _ _ _ (hw1.below hbp) (by omega) (by omega) (by omega) (hB1.below hbp) (by decide) (by omega) (by rw [hC1]; omega) hC2
   have hKF:=HKS.out.trans hKp; clear hsl HKS hbp hKp hw1 hB1 hC1 hC2 HH; generalize Batch.grew wy p=wz at *; go_wp2_with fail
   refine hwr.mono ?_; rintro x w5 ⟨rfl,hw5,hk5⟩; go_wp2; (try rw [Batch.Qn_normal])
   (try go_wp2)
   go_end0
   exact⟨rfl,n+(16 - at_),by omega,hw5,hKF.trans hk5⟩
  ·have hq1:((q:Int)==0)=false:=by simp; omega
   have HKS:=Lib.hid hKs; go_wp2_with fail
   go_roundw
   case rel=>exact⟨k+1,q,_,by(have:=HQ.out; rcases Nat.lt_or_ge k 15 with h|h; omega; (have h15:k=15:=by omega); subst h15; simp at this; omega),HQ,.inr (by omega),hqM,rfl,by rw [show (16 - ((k+1:Nat):Int))=(at_:Int) by omega],hWs,HKS.out,hBs,hCs,Lib.hid hCo⟩
   case measure=>simp [intOf]; omega
end
section
open Go.RowKit Mem Led
def sumW (wt:JsV→Nat) (L:List JsV):Nat:=(L.map wt).sum
theorem sumW_step(wt:JsV→Nat) {L:List JsV} {j:Nat} (h:j<L.length):sumW wt (L.take (j+1))=sumW wt (L.take j)+wt L[j]:=by
 unfold sumW
 rw [List.take_add_one,List.getElem?_eq_getElem h,Option.toList_some,List.map_append,List.sum_append]
 simp
theorem sumW_le(wt:JsV→Nat) (L:List JsV) (j:Nat):sumW wt (L.take j)≤sumW wt L:=by
 have:sumW wt L=sumW wt (L.take j)+sumW wt (L.drop j):=by
  unfold sumW; rw [← List.sum_append,← List.map_append,List.take_append_drop]
 omega
theorem store_js{w:World} {g:Nat} {cs vs:List Value} {t:TypeId} (h:Blk w g cs t) (hn:cs.length=5) (hv:vs.length=5) (h1:∀ v∈vs,v.oneCell'=true) :
  (stJs (.pointer (some ⟨g,0,none⟩)) (.agg vs.toArray)).run Tryz.prog w=.ok () (w.setCells g 0 vs)∧Blk (w.setCells g 0 vs) g vs t:=by
 have h2:=run_store_arr (P:=Tryz.prog) w 197 g 0 5 sizeJs vs.toArray ⟨by simpa using hv,by simpa using h1⟩ (blk_has h hn) (fun j _=>h.froz _)
 have h3:=set_all vs w g 0 cs t h (by omega)
 simp [hv,← hn] at h3
 exact⟨h2,h3⟩
theorem jsRow_one(k:JsV) (h1:k.names.oneCell'=true) (h2:k.kids.oneCell'=true):∀ u∈jsRow k,u.oneCell'=true:=by
 intro u hu
 simp only [jsRow,List.mem_cons,List.not_mem_nil,or_false] at hu
 rcases hu with rfl|rfl|rfl|rfl|rfl
 ·rfl
 ·rfl
 ·rfl
 ·exact h1
 ·exact h2
theorem ldJs_vs{w:World} {B:Nat} {A:Option Addr} {n:Nat} {L:List JsV} (h:Vs w B 5 A n (rows jsRow L)) {i:Nat} (hi:i<L.length) :
  ∃ b off,A=some ⟨b,off,none⟩∧b<B∧∀ w',Below B w w'→(ldJs (.pointer (some ⟨b,off+i * 5,none⟩))).run Tryz.prog w'=.ok (.agg (jsRow L[i]).toArray) w':=by
 obtain⟨b,off,h1,h2,h3⟩:=Vs.lit h (by rw [rows_length jsRow_len]; omega)
 refine⟨b,off,h1,h2,fun w' hbw=>load_cells Tryz.underlying197 rfl sizeJs (jsRow_len _) fun j u hj=>?_⟩
 have hj5:j<5:=by
  have:=(List.getElem?_eq_some_iff.1 hj).1; rwa [jsRow_len] at this
 have hc:=h3 (i * 5+j) u (by rw [rows_at jsRow_len hi hj5,hj])
 rw [show off+i * 5+j=off+(i * 5+j) by omega,hbw.cell (p:=⟨b,off+(i * 5+j),none⟩) h2]
 exact hc
theorem names_at{w:World} {B:Nat} {A:Option Addr} {n:Nat} {ns:List Txt} (h:Vs w B 1 A n (tv ns)) {i:Nat} (hi:i<ns.length) :
  ∃ b off,A=some ⟨b,off,none⟩∧∀ w',Below B w w'→w'.cell? ⟨b,off+i,none⟩=some (.string (str ns[i])):=by
 have hx:(tv ns)[i]?=some (.string (str ns[i])):=by unfold tv; rw [List.getElem?_map,List.getElem?_eq_getElem hi]; rfl
 have hl:0<(tv ns).length:=by
  have:=(List.getElem?_eq_some_iff.1 hx).1; omega
 obtain⟨b,off,h1,h2,h3⟩:=Vs.lit h hl
 exact⟨b,off,h1,fun w' hbw=>by rw [hbw.cell (p:=⟨b,off+i,none⟩) h2]; exact h3 i _ hx⟩
theorem wkids_4(b n:Nat) (w:World) (A:Option Addr) (nL c:Nat) (L:List JsV) (wt:JsV→Nat) (h:WS b n w) (hL:L.length=nL) (hE:Vs w b 5 A nL (rows jsRow L)) (hone:∀ k∈L,k.names.oneCell'=true∧k.kids.oneCell'=true) (hn:n+2+sumW wt L+1 * L.length≤2000) (hl:nL≤100)
  (hk:∀ k∈L,∀ W' n',KeepB b w W'→WS b n' W'→n'+wt k≤2000→Calls Tryz.prog 200 #[.pointer (some ⟨b,0,none⟩),.agg (jsRow k).toArray] W' fun e w''=>e=.returned (.tuple #[])∧∃ n'',n''≤n'+wt k∧WS b n'' w''∧KeepB b W' w'') :
  Calls Tryz.prog 237 #[.pointer (some ⟨b,0,none⟩),.agg #[.int .i64 4,.int .i64 0,.string ⟨#[]⟩,.slice none 0 0,.slice A nL c]] w fun e w'=>e=.returned (.tuple #[])∧∃ n',0<n'∧n'≤n+2+sumW wt L+1 * L.length∧WS b n' w'∧KeepB b w w':=by
 have hs0:str []=⟨#[]⟩:=rfl
 have hbl:=h.1
 obtain⟨W,hW⟩:∃ W,w.alloc (.cells (jsRow ⟨4,0,[],.slice none 0 0,.slice A nL c⟩).toArray 197)=W:=⟨_,rfl⟩
 have B0:Blk W w.heap.size (jsRow ⟨4,0,[],.slice none 0 0,.slice A nL c⟩) 197:=by rw [← hW]; exact Blk.new _ _ _
 have hbw:Below w.heap.size w W:=by rw [← hW]; exact(Below.refl _ _).alloc (Nat.le_refl _) _
 have hKW:KeepB b w W:=KeepB.of_below hbw (Nat.le_of_lt hbl)
 have hWS:=h.below hbw
 have HW:Hid (w.alloc (.cells #[.int .i64 4,.int .i64 0,.string ⟨#[]⟩,.slice none 0 0,.slice A nL c] 197)=W):=Lib.hid hW
 clear hW
 have k0:W.cell? ⟨w.heap.size,0,none⟩=some (.int .i64 4):=B0.cell 0
 have hopn:Hid (∀ p,Calls Tryz.prog 227 #[.pointer (some ⟨b,0,none⟩),.int .u8 91] (Batch.grew W p) fun e w'=>e=.returned .nilIface∧WS b (n+1) w'∧KeepB b (Batch.grew W p) w'):=Lib.hid fun p=>wbyte_any b n 91 _ (hWS.below (Batch.grew_below W p)) (by omega)
 have hix:∀ W',(Instr.index 9 (.string ⟨#[91,93]⟩) (.int .i64 0)).run Tryz.prog W'=.ok (.int .u8 91) W':=fun W'=>rfl
 have hix2:∀ W',(Instr.index 9 (.string ⟨#[91,93]⟩) (.int .i64 1)).run Tryz.prog W'=.ok (.int .u8 93) W':=fun W'=>rfl
 go_enter Tryz.func237,Tryz.ntmps237
 go_upto_region 1 with fail
 rw [HW.out]
 clear HW
 go_upto_region 4 with fail
 refine Batch.wp_region_grew_tail 5 (by kernel_rfl) (by kernel_rfl) ?_
 simp only [List.take_succ_cons,List.take_zero,List.drop_succ_cons,List.drop_zero]
 repeat (go_big_quiet_step (fail))
 refine wpQuiet_nil ?_
 rintro _ ⟨p,rfl⟩
 have hop1:=hopn.out p
 have hKp:KeepB b w (Batch.grew W p):=hKW.trans (KeepB.of_below (Batch.grew_below W p) (Nat.le_trans (Nat.le_of_lt hbl) hbw.size))
 have B1:=B0.below (Batch.grew_below W p)
 clear hopn hKW hWS k0 hbw
 generalize Batch.grew W p=w1 at *
 go_wp2_with fail
 refine hop1.mono ?_
 rintro e w2 ⟨rfl,hw2,hk2⟩
 have hK2:=hKp.trans hk2
 have B2:=hk2.2 _ _ _ B1 (by decide) (by omega)
 have k4:w2.cell? ⟨w.heap.size,4,none⟩=some (.slice A nL c):=B2.cell 4
 clear hop1 hKp hk2 B0 B1
 go_wp2_with fail
 (try rw [Batch.Qn_normal])
 (try go_wp2_with fail)
 go_loopw [5,6,19] (fun _ _ i wx=>∃ (j m:Nat),j≤nL∧i=.int .i64 (j:Int)∧Hid (m≤n+1+sumW wt (L.take j)+1 * j)∧WS b m wx∧KeepB b w wx∧Blk wx w.heap.size (jsRow ⟨4,0,[],.slice none 0 0,.slice A nL c⟩) 197) (fun _ _ i _=>nL - (intOf i).toNat)
 case atStart=>exact⟨0,n+1,by omega,rfl,Lib.hid (by simp [sumW]),hw2,hK2,B2⟩
 case round =>
  clear hw2 hK2 B2 k4; obtain⟨j,m,hj,rfl,HM,hw,hK,hB⟩:=hrel; obtain⟨wx,hwx⟩:∃ wx,wx=wr:=⟨_,rfl⟩; subst hwx; by_cases hlt:j<nL
  ·have hjL:j<L.length:=by omega
   obtain⟨bk,ok,rfl,hbk,hld⟩:=ldJs_vs hE hjL; have hld1:=hld wx hK.1; have hst1:=sumW_step wt hjL; have hst2:=sumW_le wt L (j+1); have HST:=Lib.hid hst1; have hmb:m+wt L[j]+1≤2000:=by
    have:=HM.out; have h3:1 * (j+1)≤1 * L.length:=Nat.mul_le_mul_left _ hjL; omega
   have hval:=hk L[j] (List.getElem_mem hjL); obtain⟨ho1,ho2⟩:=hone L[j] (List.getElem_mem hjL); have HVAL:=Lib.hid hval; clear hval hst1 hst2 hld; generalize L[j]=kj at *; have bn:=Blk.new wx (jsRow ⟨0,0,[],.slice none 0 0,.slice none 0 0⟩) 197; obtain⟨hst,BK⟩:=store_js bn (vs:=jsRow kj) rfl rfl (jsRow_one kj ho1 ho2); obtain⟨w3,hw3⟩:∃ w3,(wx.alloc (.cells (jsRow ⟨0,0,[],.slice none 0 0,.slice none 0 0⟩).toArray 197)).setCells wx.heap.size 0 (jsRow kj)=w3:=⟨_,rfl⟩; have hcn:Chg [] wx w3:=by rw [← hw3]; exact((Chg.refl _ _).alloc _).setCells _ (.inr (Nat.le_refl _))
   rw [hw3] at hst BK; have hb3:=hcn.below (fun _ h=>by cases h); have hbx:b≤wx.heap.size:=Nat.le_of_lt hw.1; have hk3:KeepB b wx w3:=KeepB.of_below hb3 hbx; have hw3':=hw.below hb3; have hB3:=hB.below hb3; have hgk:wx.heap.size≠b:=by have:=hw.1; omega
   have hst':(stJs (.pointer (some ⟨wx.heap.size,0,none⟩)) (.agg (jsRow kj).toArray)).run Tryz.prog (wx.alloc (.cells #[.int .i64 0,.int .i64 0,.string ⟨#[]⟩,.slice none 0 0,.slice none 0 0] 197))=.ok () w3:=hst; have hjz:(j:Int)<(nL:Int):=by omega
   clear hst bn hcn hw3 hb3 hw; obtain⟨RK,hRK⟩:∃ RK,Hid ((jsRow kj).toArray=RK):=⟨_,Lib.hid rfl⟩; rw [hRK.out] at hst' hld1; have hKK3:=hK.trans hk3; clear hK hk3 hB; by_cases hj0:j=0
   ·have hz0:decide ((0:Int)<(j:Int))=false:=by simp; omega
    have hz1:(j:Int)≤0:=by omega
    clear hj0; have e0:w3.cell? ⟨w.heap.size,0,none⟩=some (.int .i64 4):=hB3.cell 0; have hlk:=ldJs_blk BK; rw [hRK.out] at hlk; have hv:=HVAL.out w3 _ hKK3 hw3' (by omega); rw [hRK.out] at hv; have HB9:=Lib.hid (show m+wt kj≤n+1+sumW wt (L.take (j+1))+1 * (j+1) by have:=HM.out; have:=HST.out; omega)
    clear hw3'; go_wp2_with fail
    refine hv.mono ?_; rintro e w7 ⟨rfl,n7,hn7,hw7,hk7⟩; have hB7:=hk7.2 _ _ _ hB3 (by decide) (by omega); have hKK7:=hKK3.trans hk7; have HN7:=Lib.hid (Nat.le_trans hn7 HB9.out); clear hv hk7 hlk hn7 hB3 BK hKK3; (try clear hst' hld1)
    go_wp2_with fail
    go_roundw
    case rel=>exact⟨j+1,n7,by omega,by go_num,HN7,hw7,hKK7,hB7⟩
    case measure=>simp [intOf]; omega
   ·have hz0:decide ((0:Int)<(j:Int))=true:=by simp; omega
    have hz1:(0:Int)<(j:Int):=by omega
    clear hj0; have hcom:=wbyte_any b m 44 w3 hw3' (by omega); go_wp2_with fail
    refine hcom.mono ?_; rintro e w4 ⟨rfl,hw4,hk4⟩; have hB3:=hk4.2 _ _ _ hB3 (by decide) (by omega); have BK:=hk4.2 _ _ _ BK (by decide) hgk; have hKK3:=hKK3.trans hk4; have hw3':=hw4; clear hcom hst' hld1 hk4 hw4; have e0:w4.cell? ⟨w.heap.size,0,none⟩=some (.int .i64 4):=hB3.cell 0; have hlk:=ldJs_blk BK; rw [hRK.out] at hlk; have hv:=HVAL.out w4 _ hKK3 hw3' (by omega); rw [hRK.out] at hv; have HB9:=Lib.hid (show m+1+wt kj≤n+1+sumW wt (L.take (j+1))+1 * (j+1) by have:=HM.out; have:=HST.out; omega)
    clear hw3'; go_wp2_with fail
    refine hv.mono ?_; rintro e w7 ⟨rfl,n7,hn7,hw7,hk7⟩; have hB7:=hk7.2 _ _ _ hB3 (by decide) (by omega); have hKK7:=hKK3.trans hk7; have HN7:=Lib.hid (Nat.le_trans hn7 HB9.out); clear hv hk7 hlk hn7 hB3 BK hKK3; (try clear hst' hld1)
    go_wp2_with fail
    go_roundw
    case rel=>exact⟨j+1,n7,by omega,by go_num,HN7,hw7,hKK7,hB7⟩
    case measure=>simp [intOf]; omega
  ·have hje:j=nL:=by omega
   have hjge:(nL:Int)≤(j:Int):=by omega
   have HMF:=Lib.hid (show m+1≤n+2+sumW wt L+1 * L.length by
    have:=HM.out; rw [hje,← hL,List.take_length] at this; omega)
   have hcl:Hid (∀ p,Calls Tryz.prog 227 #[.pointer (some ⟨b,0,none⟩),.int .u8 93] (Batch.grew wx p) fun e w'=>e=.returned .nilIface∧WS b (m+1) w'∧KeepB b (Batch.grew wx p) w'):=Lib.hid fun p=>wbyte_any b m 93 _ (hw.below (Batch.grew_below wx p)) (by have:=HMF.out; omega)
   have hbx:b≤wx.heap.size:=Nat.le_of_lt hw.1; clear hje; go_upto_region 15 with fail
   refine Batch.wp_region_grew_tail 5 (by kernel_rfl) (by kernel_rfl) ?_; simp only [List.take_succ_cons,List.take_zero,List.drop_succ_cons,List.drop_zero]; repeat (go_big_quiet_step (fail))
   refine wpQuiet_nil ?_; rintro _ ⟨p,rfl⟩; have hcl1:=hcl.out p; have hKp:=hK.trans (KeepB.of_below (Batch.grew_below wx p) hbx); clear hcl hK hB hw; generalize Batch.grew wx p=wy at *; go_wp2_with fail
   refine hcl1.mono ?_; rintro e w9 ⟨rfl,hw9,hk9⟩; go_wp2; (try rw [Batch.Qn_normal])
   (try go_wp2)
   go_end0
   exact⟨rfl,m+1,Nat.succ_pos _,HMF.out,hw9,hKp.trans hk9⟩
theorem wkids_5(b n:Nat) (w:World) (A:Option Addr) (nL c:Nat) (L:List JsV) (wt:JsV→Nat) (A':Option Addr) (c':Nat) (ns:List Txt) (hT:Vs w b 1 A' nL (tv ns)) (hna:∀ x∈ns,Clear x∧x.length≤6) (h:WS b n w) (hL:L.length=nL) (hE:Vs w b 5 A nL (rows jsRow L)) (hone:∀ k∈L,k.names.oneCell'=true∧k.kids.oneCell'=true) (hn:n+2+sumW wt L+10 * L.length≤2000) (hl:nL≤100)
  (hk:∀ k∈L,∀ W' n',KeepB b w W'→WS b n' W'→n'+wt k≤2000→Calls Tryz.prog 200 #[.pointer (some ⟨b,0,none⟩),.agg (jsRow k).toArray] W' fun e w''=>e=.returned (.tuple #[])∧∃ n'',n''≤n'+wt k∧WS b n'' w''∧KeepB b W' w'') :
  Calls Tryz.prog 237 #[.pointer (some ⟨b,0,none⟩),.agg #[.int .i64 5,.int .i64 0,.string ⟨#[]⟩,.slice A' nL c',.slice A nL c]] w fun e w'=>e=.returned (.tuple #[])∧∃ n',0<n'∧n'≤n+2+sumW wt L+10 * L.length∧WS b n' w'∧KeepB b w w':=by
 have hs0:str []=⟨#[]⟩:=rfl
 have hbl:=h.1
 obtain⟨W,hW⟩:∃ W,w.alloc (.cells (jsRow ⟨5,0,[],.slice A' nL c',.slice A nL c⟩).toArray 197)=W:=⟨_,rfl⟩
 have B0:Blk W w.heap.size (jsRow ⟨5,0,[],.slice A' nL c',.slice A nL c⟩) 197:=by rw [← hW]; exact Blk.new _ _ _
 have hbw:Below w.heap.size w W:=by rw [← hW]; exact(Below.refl _ _).alloc (Nat.le_refl _) _
 have hKW:KeepB b w W:=KeepB.of_below hbw (Nat.le_of_lt hbl)
 have hWS:=h.below hbw
 have HW:Hid (w.alloc (.cells #[.int .i64 5,.int .i64 0,.string ⟨#[]⟩,.slice A' nL c',.slice A nL c] 197)=W):=Lib.hid hW
 clear hW
 have k0:W.cell? ⟨w.heap.size,0,none⟩=some (.int .i64 5):=B0.cell 0
 have hopn:Hid (∀ p,Calls Tryz.prog 227 #[.pointer (some ⟨b,0,none⟩),.int .u8 123] (Batch.grew W p) fun e w'=>e=.returned .nilIface∧WS b (n+1) w'∧KeepB b (Batch.grew W p) w'):=Lib.hid fun p=>wbyte_any b n 123 _ (hWS.below (Batch.grew_below W p)) (by omega)
 have hix:∀ W',(Instr.index 9 (.string ⟨#[123,125]⟩) (.int .i64 0)).run Tryz.prog W'=.ok (.int .u8 123) W':=fun W'=>rfl
 have hix2:∀ W',(Instr.index 9 (.string ⟨#[123,125]⟩) (.int .i64 1)).run Tryz.prog W'=.ok (.int .u8 125) W':=fun W'=>rfl
 go_enter Tryz.func237,Tryz.ntmps237
 go_upto_region 1 with fail
 rw [HW.out]
 clear HW
 go_upto_region 4 with fail
 refine Batch.wp_region_grew_tail 5 (by kernel_rfl) (by kernel_rfl) ?_
 simp only [List.take_succ_cons,List.take_zero,List.drop_succ_cons,List.drop_zero]
 repeat (go_big_quiet_step (fail))
 refine wpQuiet_nil ?_
 rintro _ ⟨p,rfl⟩
 have hop1:=hopn.out p
 have hKp:KeepB b w (Batch.grew W p):=hKW.trans (KeepB.of_below (Batch.grew_below W p) (Nat.le_trans (Nat.le_of_lt hbl) hbw.size))
 have B1:=B0.below (Batch.grew_below W p)
 clear hopn hKW hWS k0 hbw
 generalize Batch.grew W p=w1 at *
 go_wp2_with fail
 refine hop1.mono ?_
 rintro e w2 ⟨rfl,hw2,hk2⟩
 have hK2:=hKp.trans hk2
 have B2:=hk2.2 _ _ _ B1 (by decide) (by omega)
 have k4:w2.cell? ⟨w.heap.size,4,none⟩=some (.slice A nL c):=B2.cell 4
 clear hop1 hKp hk2 B0 B1
 go_wp2_with fail
 (try rw [Batch.Qn_normal])
 (try go_wp2_with fail)
 go_loopw [5,6,19] (fun _ _ i wx=>∃ (j m:Nat),j≤nL∧i=.int .i64 (j:Int)∧Hid (m≤n+1+sumW wt (L.take j)+10 * j)∧WS b m wx∧KeepB b w wx∧Blk wx w.heap.size (jsRow ⟨5,0,[],.slice A' nL c',.slice A nL c⟩) 197) (fun _ _ i _=>nL - (intOf i).toNat)
 case atStart=>exact⟨0,n+1,by omega,rfl,Lib.hid (by simp [sumW]),hw2,hK2,B2⟩
 case round =>
  clear hw2 hK2 B2 k4; obtain⟨j,m,hj,rfl,HM,hw,hK,hB⟩:=hrel; obtain⟨wx,hwx⟩:∃ wx,wx=wr:=⟨_,rfl⟩; subst hwx; by_cases hlt:j<nL
  ·have hjL:j<L.length:=by omega
   obtain⟨bk,ok,rfl,hbk,hld⟩:=ldJs_vs hE hjL; have hld1:=hld wx hK.1; have hst1:=sumW_step wt hjL; have hst2:=sumW_le wt L (j+1); have HST:=Lib.hid hst1; have hmb:m+wt L[j]+10≤2000:=by
    have:=HM.out; have h3:10 * (j+1)≤10 * L.length:=Nat.mul_le_mul_left _ hjL; omega
   have hval:=hk L[j] (List.getElem_mem hjL); obtain⟨ho1,ho2⟩:=hone L[j] (List.getElem_mem hjL); have HVAL:=Lib.hid hval; clear hval hst1 hst2 hld; generalize L[j]=kj at *; have bn:=Blk.new wx (jsRow ⟨0,0,[],.slice none 0 0,.slice none 0 0⟩) 197; obtain⟨hst,BK⟩:=store_js bn (vs:=jsRow kj) rfl rfl (jsRow_one kj ho1 ho2); obtain⟨w3,hw3⟩:∃ w3,(wx.alloc (.cells (jsRow ⟨0,0,[],.slice none 0 0,.slice none 0 0⟩).toArray 197)).setCells wx.heap.size 0 (jsRow kj)=w3:=⟨_,rfl⟩; have hcn:Chg [] wx w3:=by rw [← hw3]; exact((Chg.refl _ _).alloc _).setCells _ (.inr (Nat.le_refl _))
   rw [hw3] at hst BK; have hb3:=hcn.below (fun _ h=>by cases h); have hbx:b≤wx.heap.size:=Nat.le_of_lt hw.1; have hk3:KeepB b wx w3:=KeepB.of_below hb3 hbx; have hw3':=hw.below hb3; have hB3:=hB.below hb3; have hgk:wx.heap.size≠b:=by have:=hw.1; omega
   have hst':(stJs (.pointer (some ⟨wx.heap.size,0,none⟩)) (.agg (jsRow kj).toArray)).run Tryz.prog (wx.alloc (.cells #[.int .i64 0,.int .i64 0,.string ⟨#[]⟩,.slice none 0 0,.slice none 0 0] 197))=.ok () w3:=hst; have hjz:(j:Int)<(nL:Int):=by omega
   clear hst bn hcn hw3 hb3 hw; obtain⟨RK,hRK⟩:∃ RK,Hid ((jsRow kj).toArray=RK):=⟨_,Lib.hid rfl⟩; rw [hRK.out] at hst' hld1; have hKK3:=hK.trans hk3; clear hK hk3 hB; by_cases hj0:j=0
   ·have hz0:decide ((0:Int)<(j:Int))=false:=by simp; omega
    have hz1:(j:Int)≤0:=by omega
    clear hj0; obtain⟨bs',of',hA',hcs⟩:=names_at hT (i:=j) (by have:=hT.len; rw [tv_length] at this; omega)
    subst hA'; have hnsl:j<ns.length:=by have:=hT.len; rw [tv_length] at this; omega
    obtain⟨hc1,hc2⟩:=hna _ (List.getElem_mem hnsl); have e0:w3.cell? ⟨w.heap.size,0,none⟩=some (.int .i64 5):=hB3.cell 0; have e3:w3.cell? ⟨w.heap.size,3,none⟩=some (.slice (some ⟨bs',of',none⟩) nL c'):=hB3.cell 3; have ec:=hcs w3 hKK3.1; generalize ns[j]=nj at *; have htx:=wtext_any b (m) nj w3 hw3' (by omega) (by omega) hc1; go_wp2_with fail
    refine htx.mono ?_; rintro e w5 ⟨rfl,hw5,hk5⟩; have hB3:=hk5.2 _ _ _ hB3 (by decide) (by omega); have BK:=hk5.2 _ _ _ BK (by decide) hgk; have hKK3:=hKK3.trans hk5; have hco:=wbyte_any b (m+nj.length+2) 58 w5 hw5 (by omega); clear htx e0 e3 ec hk5 hw3'; (try clear hst' hld1)
    go_wp2_with fail
    refine hco.mono ?_; rintro e w6 ⟨rfl,hw6,hk6⟩; have hB3:=hk6.2 _ _ _ hB3 (by decide) (by omega); have BK:=hk6.2 _ _ _ BK (by decide) hgk; have hKK3:=hKK3.trans hk6; have hlk:=ldJs_blk BK; rw [hRK.out] at hlk; have hv:=HVAL.out w6 _ hKK3 hw6 (by omega); rw [hRK.out] at hv; have HB9:=Lib.hid (show m+nj.length+2+1+wt kj≤n+1+sumW wt (L.take (j+1))+10 * (j+1) by have:=HM.out; have:=HST.out; omega)
    clear hco hk6 hw6 hw5; go_wp2_with fail
    refine hv.mono ?_; rintro e w7 ⟨rfl,n7,hn7,hw7,hk7⟩; have hB7:=hk7.2 _ _ _ hB3 (by decide) (by omega); have hKK7:=hKK3.trans hk7; have HN7:=Lib.hid (Nat.le_trans hn7 HB9.out); clear hv hk7 hlk hn7 hB3 BK hKK3; (try clear hst' hld1)
    go_wp2_with fail
    go_roundw
    case rel=>exact⟨j+1,n7,by omega,by go_num,HN7,hw7,hKK7,hB7⟩
    case measure=>simp [intOf]; omega
   ·have hz0:decide ((0:Int)<(j:Int))=true:=by simp; omega
    have hz1:(0:Int)<(j:Int):=by omega
    clear hj0; have hcom:=wbyte_any b m 44 w3 hw3' (by omega); go_wp2_with fail
    refine hcom.mono ?_; rintro e w4 ⟨rfl,hw4,hk4⟩; have hB3:=hk4.2 _ _ _ hB3 (by decide) (by omega); have BK:=hk4.2 _ _ _ BK (by decide) hgk; have hKK3:=hKK3.trans hk4; have hw3':=hw4; clear hcom hst' hld1 hk4 hw4; obtain⟨bs',of',hA',hcs⟩:=names_at hT (i:=j) (by have:=hT.len; rw [tv_length] at this; omega)
    subst hA'; have hnsl:j<ns.length:=by have:=hT.len; rw [tv_length] at this; omega
    obtain⟨hc1,hc2⟩:=hna _ (List.getElem_mem hnsl); have e0:w4.cell? ⟨w.heap.size,0,none⟩=some (.int .i64 5):=hB3.cell 0; have e3:w4.cell? ⟨w.heap.size,3,none⟩=some (.slice (some ⟨bs',of',none⟩) nL c'):=hB3.cell 3; have ec:=hcs w4 hKK3.1; generalize ns[j]=nj at *; have htx:=wtext_any b (m+1) nj w4 hw3' (by omega) (by omega) hc1; go_wp2_with fail
    refine htx.mono ?_; rintro e w5 ⟨rfl,hw5,hk5⟩; have hB3:=hk5.2 _ _ _ hB3 (by decide) (by omega); have BK:=hk5.2 _ _ _ BK (by decide) hgk; have hKK3:=hKK3.trans hk5; have hco:=wbyte_any b (m+1+nj.length+2) 58 w5 hw5 (by omega); clear htx e0 e3 ec hk5 hw3'; (try clear hst' hld1)
    go_wp2_with fail
    refine hco.mono ?_; rintro e w6 ⟨rfl,hw6,hk6⟩; have hB3:=hk6.2 _ _ _ hB3 (by decide) (by omega); have BK:=hk6.2 _ _ _ BK (by decide) hgk; have hKK3:=hKK3.trans hk6; have hlk:=ldJs_blk BK; rw [hRK.out] at hlk; have hv:=HVAL.out w6 _ hKK3 hw6 (by omega); rw [hRK.out] at hv; have HB9:=Lib.hid (show m+1+nj.length+2+1+wt kj≤n+1+sumW wt (L.take (j+1))+10 * (j+1) by have:=HM.out; have:=HST.out; omega)
    clear hco hk6 hw6 hw5; go_wp2_with fail
    refine hv.mono ?_; rintro e w7 ⟨rfl,n7,hn7,hw7,hk7⟩; have hB7:=hk7.2 _ _ _ hB3 (by decide) (by omega); have hKK7:=hKK3.trans hk7; have HN7:=Lib.hid (Nat.le_trans hn7 HB9.out); clear hv hk7 hlk hn7 hB3 BK hKK3; (try clear hst' hld1)
    go_wp2_with fail
    go_roundw
    case rel=>exact⟨j+1,n7,by omega,by go_num,HN7,hw7,hKK7,hB7⟩
    case measure=>simp [intOf]; omega
  ·have hje:j=nL:=by omega
   have hjge:(nL:Int)≤(j:Int):=by omega
   have HMF:=Lib.hid (show m+1≤n+2+sumW wt L+10 * L.length by
    have:=HM.out; rw [hje,← hL,List.take_length] at this; omega)
   have hcl:Hid (∀ p,Calls Tryz.prog 227 #[.pointer (some ⟨b,0,none⟩),.int .u8 125] (Batch.grew wx p) fun e w'=>e=.returned .nilIface∧WS b (m+1) w'∧KeepB b (Batch.grew wx p) w'):=Lib.hid fun p=>wbyte_any b m 125 _ (hw.below (Batch.grew_below wx p)) (by have:=HMF.out; omega)
   have hbx:b≤wx.heap.size:=Nat.le_of_lt hw.1; clear hje; go_upto_region 15 with fail
   refine Batch.wp_region_grew_tail 5 (by kernel_rfl) (by kernel_rfl) ?_; simp only [List.take_succ_cons,List.take_zero,List.drop_succ_cons,List.drop_zero]; repeat (go_big_quiet_step (fail))
   refine wpQuiet_nil ?_; rintro _ ⟨p,rfl⟩; have hcl1:=hcl.out p; have hKp:=hK.trans (KeepB.of_below (Batch.grew_below wx p) hbx); clear hcl hK hB hw; generalize Batch.grew wx p=wy at *; go_wp2_with fail
   refine hcl1.mono ?_; rintro e w9 ⟨rfl,hw9,hk9⟩; go_wp2; (try rw [Batch.Qn_normal])
   (try go_wp2)
   go_end0
   exact⟨rfl,m+1,Nat.succ_pos _,HMF.out,hw9,hKp.trans hk9⟩
end
section
open Go.RowKit Mem Led
theorem wval_2(b n:Nat) (w:World) (h:WS b n w) (m:Nat) (hm:m<10 ^ 16) (hn:n+16≤2000) :
  Calls Tryz.prog 200 #[.pointer (some ⟨b,0,none⟩),.agg (jsRow ⟨2,(m:Int),[],.slice none 0 0,.slice none 0 0⟩).toArray] w fun e w'=>e=.returned (.tuple #[])∧∃ n',n'≤n+16∧WS b n' w'∧KeepB b w w':=by
 have hbl:=h.1
 obtain⟨W,hW⟩:∃ W,w.alloc (.cells (jsRow ⟨2,(m:Int),[],.slice none 0 0,.slice none 0 0⟩).toArray 197)=W:=⟨_,rfl⟩
 have B0:Blk W w.heap.size (jsRow ⟨2,(m:Int),[],.slice none 0 0,.slice none 0 0⟩) 197:=by rw [← hW]; exact Blk.new _ _ _
 have hbw:Below w.heap.size w W:=by rw [← hW]; exact(Below.refl _ _).alloc (Nat.le_refl _) _
 have hKW:KeepB b w W:=KeepB.of_below hbw (Nat.le_of_lt hbl)
 have hWS:=h.below hbw
 have HW:Hid (w.alloc (.cells #[.int .i64 2,.int .i64 (m:Int),.string ⟨#[]⟩,.slice none 0 0,.slice none 0 0] 197)=W):=Lib.hid hW
 clear hW
 have k0:W.cell? ⟨w.heap.size,0,none⟩=some (.int .i64 2):=B0.cell 0
 have k1:W.cell? ⟨w.heap.size,1,none⟩=some (.int .i64 (m:Int)):=B0.cell 1
 have k2:W.cell? ⟨w.heap.size,2,none⟩=some (.string ⟨#[]⟩):=B0.cell 2
 have hld:(ldJs (.pointer (some ⟨w.heap.size,0,none⟩))).run Tryz.prog W=.ok (.agg #[.int .i64 2,.int .i64 (m:Int),.string ⟨#[]⟩,.slice none 0 0,.slice none 0 0]) W:=ldJs_blk B0
 have hlen:=wlen_any b n W hWS
 have d0:decide (2000<(n:Int))=false:=by simp; omega
 have d1:(n:Int)≤2000:=by omega
 have hx:=wnum_any b n m W hWS (by omega) hm
 show Calls Tryz.prog 200 #[.pointer (some ⟨b,0,none⟩),.agg #[.int .i64 2,.int .i64 (m:Int),.string ⟨#[]⟩,.slice none 0 0,.slice none 0 0]] w _
 go_enter Tryz.func200,Tryz.ntmps200
 go_upto_region 1 with fail
 rw [HW.out]
 clear HW
 go_wp2_with fail
 refine hlen.mono ?_
 rintro e w1 ⟨rfl,hww⟩
 have:=hww.symm
 subst this
 clear hlen
 go_wp2_with fail
 refine hx.mono ?_
 rintro e w2 ⟨rfl,n2,hn2,hw2,hk2⟩
 go_wp2
 go_end0
 exact⟨rfl,n2,hn2,hw2,hKW.trans hk2⟩
theorem wval_3(b n:Nat) (w:World) (h:WS b n w) (t:Txt) (ht:Clear t) (hl:t.length≤1000) (hn:n+(t.length+2)≤2000) :
  Calls Tryz.prog 200 #[.pointer (some ⟨b,0,none⟩),.agg (jsRow ⟨3,0,t,.slice none 0 0,.slice none 0 0⟩).toArray] w fun e w'=>e=.returned (.tuple #[])∧∃ n',n'≤n+(t.length+2)∧WS b n' w'∧KeepB b w w':=by
 have hbl:=h.1
 obtain⟨W,hW⟩:∃ W,w.alloc (.cells (jsRow ⟨3,0,t,.slice none 0 0,.slice none 0 0⟩).toArray 197)=W:=⟨_,rfl⟩
 have B0:Blk W w.heap.size (jsRow ⟨3,0,t,.slice none 0 0,.slice none 0 0⟩) 197:=by rw [← hW]; exact Blk.new _ _ _
 have hbw:Below w.heap.size w W:=by rw [← hW]; exact(Below.refl _ _).alloc (Nat.le_refl _) _
 have hKW:KeepB b w W:=KeepB.of_below hbw (Nat.le_of_lt hbl)
 have hWS:=h.below hbw
 have HW:Hid (w.alloc (.cells #[.int .i64 3,.int .i64 0,.string (str t),.slice none 0 0,.slice none 0 0] 197)=W):=Lib.hid hW
 clear hW
 have k0:W.cell? ⟨w.heap.size,0,none⟩=some (.int .i64 3):=B0.cell 0
 have k1:W.cell? ⟨w.heap.size,1,none⟩=some (.int .i64 0):=B0.cell 1
 have k2:W.cell? ⟨w.heap.size,2,none⟩=some (.string (str t)):=B0.cell 2
 have hld:(ldJs (.pointer (some ⟨w.heap.size,0,none⟩))).run Tryz.prog W=.ok (.agg #[.int .i64 3,.int .i64 0,.string (str t),.slice none 0 0,.slice none 0 0]) W:=ldJs_blk B0
 have hlen:=wlen_any b n W hWS
 have d0:decide (2000<(n:Int))=false:=by simp; omega
 have d1:(n:Int)≤2000:=by omega
 have hx:=wtext_any b n t W hWS (by omega) hl ht
 show Calls Tryz.prog 200 #[.pointer (some ⟨b,0,none⟩),.agg #[.int .i64 3,.int .i64 0,.string (str t),.slice none 0 0,.slice none 0 0]] w _
 go_enter Tryz.func200,Tryz.ntmps200
 go_upto_region 1 with fail
 rw [HW.out]
 clear HW
 go_wp2_with fail
 refine hlen.mono ?_
 rintro e w1 ⟨rfl,hww⟩
 have:=hww.symm
 subst this
 clear hlen
 go_wp2_with fail
 refine hx.mono ?_
 rintro e w2 ⟨rfl,hw2,hk2⟩
 go_wp2
 go_end0
 exact⟨rfl,_,by omega,hw2,hKW.trans hk2⟩
theorem wval_4(b n:Nat) (w:World) (h:WS b n w) (A:Option Addr) (nL c:Nat) (g:Nat) (hg:n+g≤2000) (hk:∀ W,KeepB b w W→WS b n W→Calls Tryz.prog 237 #[.pointer (some ⟨b,0,none⟩),.agg #[.int .i64 4,.int .i64 0,.string ⟨#[]⟩,.slice none 0 0,.slice A nL c]] W fun e w'=>e=.returned (.tuple #[])∧∃ n',0<n'∧n'≤n+g∧WS b n' w'∧KeepB b W w') :
  Calls Tryz.prog 200 #[.pointer (some ⟨b,0,none⟩),.agg (jsRow ⟨4,0,[],.slice none 0 0,.slice A nL c⟩).toArray] w fun e w'=>e=.returned (.tuple #[])∧∃ n',0<n'∧n'≤n+g∧WS b n' w'∧KeepB b w w':=by
 have hbl:=h.1
 obtain⟨W,hW⟩:∃ W,w.alloc (.cells (jsRow ⟨4,0,[],.slice none 0 0,.slice A nL c⟩).toArray 197)=W:=⟨_,rfl⟩
 have B0:Blk W w.heap.size (jsRow ⟨4,0,[],.slice none 0 0,.slice A nL c⟩) 197:=by rw [← hW]; exact Blk.new _ _ _
 have hbw:Below w.heap.size w W:=by rw [← hW]; exact(Below.refl _ _).alloc (Nat.le_refl _) _
 have hKW:KeepB b w W:=KeepB.of_below hbw (Nat.le_of_lt hbl)
 have hWS:=h.below hbw
 have HW:Hid (w.alloc (.cells #[.int .i64 4,.int .i64 0,.string ⟨#[]⟩,.slice none 0 0,.slice A nL c] 197)=W):=Lib.hid hW
 clear hW
 have k0:W.cell? ⟨w.heap.size,0,none⟩=some (.int .i64 4):=B0.cell 0
 have k1:W.cell? ⟨w.heap.size,1,none⟩=some (.int .i64 0):=B0.cell 1
 have k2:W.cell? ⟨w.heap.size,2,none⟩=some (.string ⟨#[]⟩):=B0.cell 2
 have hld:(ldJs (.pointer (some ⟨w.heap.size,0,none⟩))).run Tryz.prog W=.ok (.agg #[.int .i64 4,.int .i64 0,.string ⟨#[]⟩,.slice none 0 0,.slice A nL c]) W:=ldJs_blk B0
 have hlen:=wlen_any b n W hWS
 have d0:decide (2000<(n:Int))=false:=by simp; omega
 have d1:(n:Int)≤2000:=by omega
 have hx:=hk W hKW hWS
 show Calls Tryz.prog 200 #[.pointer (some ⟨b,0,none⟩),.agg #[.int .i64 4,.int .i64 0,.string ⟨#[]⟩,.slice none 0 0,.slice A nL c]] w _
 go_enter Tryz.func200,Tryz.ntmps200
 go_upto_region 1 with fail
 rw [HW.out]
 clear HW
 go_wp2_with fail
 refine hlen.mono ?_
 rintro e w1 ⟨rfl,hww⟩
 have:=hww.symm
 subst this
 clear hlen
 go_wp2_with fail
 refine hx.mono ?_
 rintro e w2 ⟨rfl,n2,hn0,hn2,hw2,hk2⟩
 go_wp2
 go_end0
 exact⟨rfl,n2,hn0,hn2,hw2,hKW.trans hk2⟩
theorem wval_5(b n:Nat) (w:World) (h:WS b n w) (A:Option Addr) (nL c:Nat) (A':Option Addr) (c':Nat) (g:Nat) (hg:n+g≤2000) (hk:∀ W,KeepB b w W→WS b n W→Calls Tryz.prog 237 #[.pointer (some ⟨b,0,none⟩),.agg #[.int .i64 5,.int .i64 0,.string ⟨#[]⟩,.slice A' nL c',.slice A nL c]] W fun e w'=>e=.returned (.tuple #[])∧∃ n',0<n'∧n'≤n+g∧WS b n' w'∧KeepB b W w') :
  Calls Tryz.prog 200 #[.pointer (some ⟨b,0,none⟩),.agg (jsRow ⟨5,0,[],.slice A' nL c',.slice A nL c⟩).toArray] w fun e w'=>e=.returned (.tuple #[])∧∃ n',0<n'∧n'≤n+g∧WS b n' w'∧KeepB b w w':=by
 have hbl:=h.1
 obtain⟨W,hW⟩:∃ W,w.alloc (.cells (jsRow ⟨5,0,[],.slice A' nL c',.slice A nL c⟩).toArray 197)=W:=⟨_,rfl⟩
 have B0:Blk W w.heap.size (jsRow ⟨5,0,[],.slice A' nL c',.slice A nL c⟩) 197:=by rw [← hW]; exact Blk.new _ _ _
 have hbw:Below w.heap.size w W:=by rw [← hW]; exact(Below.refl _ _).alloc (Nat.le_refl _) _
 have hKW:KeepB b w W:=KeepB.of_below hbw (Nat.le_of_lt hbl)
 have hWS:=h.below hbw
 have HW:Hid (w.alloc (.cells #[.int .i64 5,.int .i64 0,.string ⟨#[]⟩,.slice A' nL c',.slice A nL c] 197)=W):=Lib.hid hW
 clear hW
 have k0:W.cell? ⟨w.heap.size,0,none⟩=some (.int .i64 5):=B0.cell 0
 have k1:W.cell? ⟨w.heap.size,1,none⟩=some (.int .i64 0):=B0.cell 1
 have k2:W.cell? ⟨w.heap.size,2,none⟩=some (.string ⟨#[]⟩):=B0.cell 2
 have hld:(ldJs (.pointer (some ⟨w.heap.size,0,none⟩))).run Tryz.prog W=.ok (.agg #[.int .i64 5,.int .i64 0,.string ⟨#[]⟩,.slice A' nL c',.slice A nL c]) W:=ldJs_blk B0
 have hlen:=wlen_any b n W hWS
 have d0:decide (2000<(n:Int))=false:=by simp; omega
 have d1:(n:Int)≤2000:=by omega
 have hx:=hk W hKW hWS
 show Calls Tryz.prog 200 #[.pointer (some ⟨b,0,none⟩),.agg #[.int .i64 5,.int .i64 0,.string ⟨#[]⟩,.slice A' nL c',.slice A nL c]] w _
 go_enter Tryz.func200,Tryz.ntmps200
 go_upto_region 1 with fail
 rw [HW.out]
 clear HW
 go_wp2_with fail
 refine hlen.mono ?_
 rintro e w1 ⟨rfl,hww⟩
 have:=hww.symm
 subst this
 clear hlen
 go_wp2_with fail
 refine hx.mono ?_
 rintro e w2 ⟨rfl,n2,hn0,hn2,hw2,hk2⟩
 go_wp2
 go_end0
 exact⟨rfl,n2,hn0,hn2,hw2,hKW.trans hk2⟩
end
section
open Go.RowKit Mem Led
theorem sumW_const(c:Nat):∀ L:List JsV,sumW (fun _=>c) L=c * L.length
 | []=>rfl
 | x::L=>by
  have:=sumW_const c L; unfold sumW at *; rw [List.map_cons,List.sum_cons,this,List.length_cons,Nat.mul_succ,Nat.add_comm]
def jText (t:Txt):JsV:=⟨3,0,t,.slice none 0 0,.slice none 0 0⟩
def keyNames:List Txt:=[[99,114,118],[107,105,100],[107,116,121],[120]]
def bunNames:List Txt:=[[100,111,109,97,105,110],[107,101,121,115],[110,117,109,98,101,114]]
def tEd:Txt:=[69,100,50,53,53,49,57]
def tOkp:Txt:=[79,75,80]
def Fine (t:Txt):Prop:=Asc t∧Clear t
def KeyV (B:Nat) (w:World) (v:JsV):Prop:=∃ (A' A:Option Addr) (c' c:Nat) (kid x:Txt),v=⟨5,0,[],.slice A' 4 c',.slice A 4 c⟩∧Fit 4 c' A'∧Vs w B 1 A' 4 (tv keyNames)∧Vs w B 5 A 4 (rows jsRow [jText tEd,jText kid,jText tOkp,jText x])∧Fine kid∧Fine x∧kid.length≤60∧x.length≤60
theorem KeyV.mono{B B':Nat} {w w':World} {v:JsV} (h:KeyV B w v) (hb:Below B w w') (hB:B≤B'):KeyV B' w' v:=by
 obtain⟨A',A,c',c,kid,x,e,hf,h1,h2,h3⟩:=h
 exact⟨A',A,c',c,kid,x,e,hf,(h1.below hb).mono hB,(h2.below hb).mono hB,h3⟩
theorem fine_ed:Fine tEd:=by unfold Fine Asc Clear; decide
theorem fine_okp:Fine tOkp:=by unfold Fine Asc Clear; decide
theorem right_text(t:Txt) (ht:Asc t) (d:Nat) (w:World):Calls Tryz.prog 199 #[.agg (jsRow (jText t)).toArray,.int .i64 (d:Int)] w fun e w'=>e=.returned (.bool true)∧Below w.heap.size w w':=right_3 w d t ht
theorem right_key(w:World) (v:JsV) (h:KeyV w.heap.size w v):Calls Tryz.prog 199 #[.agg (jsRow v).toArray,.int .i64 4] w fun e w'=>e=.returned (.bool true)∧Below w.heap.size w w':=by
 obtain⟨A',A,c',c,kid,x,rfl,hf,h1,h2,h3,h4,_⟩:=h
 refine right_5 w 4 (by omega) (by omega) A 4 c [jText tEd,jText kid,jText tOkp,jText x] h2 (by omega) A' c' keyNames h1 hf (by unfold Asc; decide) (by decide) (fun k hk W' _=>?_)
 have key:∀ t,Asc t→Calls Tryz.prog 199 #[.agg (jsRow (jText t)).toArray,.int .i64 ((4:Nat) - 1:Int)] W' fun e w''=>e=.returned (.bool true)∧Below W'.heap.size W' w'':=fun t ht=>right_text t ht 3 W'
 simp only [List.mem_cons,List.not_mem_nil,or_false] at hk
 rcases hk with rfl|rfl|rfl|rfl
 ·exact key _ fine_ed.1
 ·exact key _ h3.1
 ·exact key _ fine_okp.1
 ·exact key _ h4.1
theorem value_text(b n:Nat) (t:Txt) (w:World) (h:WS b n w) (ht:Clear t) (hn:n+(t.length+2)≤2000) (hl:t.length≤1000):Calls Tryz.prog 200 #[.pointer (some ⟨b,0,none⟩),.agg (jsRow (jText t)).toArray] w fun e w'=>e=.returned (.tuple #[])∧∃ n',n'≤n+(t.length+2)∧WS b n' w'∧KeepB b w w':=wval_3 b n w h t ht hl hn
theorem value_key(b n:Nat) (v:JsV) (w:World) (h:WS b n w) (hv:KeyV b w v) (hn:n+200≤2000):Calls Tryz.prog 200 #[.pointer (some ⟨b,0,none⟩),.agg (jsRow v).toArray] w fun e w'=>e=.returned (.tuple #[])∧∃ n',n'≤n+200∧WS b n' w'∧KeepB b w w':=by
 obtain⟨A',A,c',c,kid,x,rfl,hf,h1,h2,h3,h4,h5,h6⟩:=hv
 refine(wval_5 b n w h A 4 c A' c' 200 (by omega) (fun W hK hW=>?_)).mono (fun e w' ⟨h1,n',_,h2⟩=>⟨h1,n',h2⟩)
 have hsum:sumW (fun k=>k.text.length+2) [jText tEd,jText kid,jText tOkp,jText x]≤150:=by
  simp [sumW,jText,tEd,tOkp]
  omega
 refine(wkids_5 b n W A 4 c [jText tEd,jText kid,jText tOkp,jText x] (fun k=>k.text.length+2) A' c' keyNames (h1.below hK.1) (by unfold keyNames Clear; decide) hW rfl (h2.below hK.1) (fun k hk=>?_) (by simp only [List.length_cons,List.length_nil]; omega) (by omega) (fun k hk W' n' _ hW' hn'=>?_)).mono ?_
 ·simp only [List.mem_cons,List.not_mem_nil,or_false] at hk
  rcases hk with rfl|rfl|rfl|rfl <;> exact⟨rfl,rfl⟩
 ·have key:∀ t:Txt,k=jText t→Clear t→t.length≤60→Calls Tryz.prog 200 #[.pointer (some ⟨b,0,none⟩),.agg (jsRow k).toArray] W' fun e w''=>e=.returned (.tuple #[])∧∃ n'',n''≤n'+(k.text.length+2)∧WS b n'' w''∧KeepB b W' w'':=fun t e hc hl=>by
   subst e; exact value_text b n' t W' hW' hc hn' (by omega)
  simp only [List.mem_cons,List.not_mem_nil,or_false] at hk; rcases hk with rfl|rfl|rfl|rfl
  ·exact key _ rfl fine_ed.2 (by decide)
  ·exact key _ rfl h3.2 h5
  ·exact key _ rfl fine_okp.2 (by decide)
  ·exact key _ rfl h4.2 h6
 ·rintro e w' ⟨he,n',h0,hn',hr⟩
  simp only [List.length_cons,List.length_nil] at hn'; exact⟨he,n',h0,by omega,hr⟩
def BunV (B:Nat) (w:World) (v:JsV):Prop:=∃ (A' A K:Option Addr) (c' c n kc:Nat) (dom:Txt) (num:Nat) (Ks:List JsV),v=⟨5,0,[],.slice A' 3 c',.slice A 3 c⟩∧Fit 3 c' A'∧Vs w B 1 A' 3 (tv bunNames)∧Vs w B 5 A 3 (rows jsRow [jText dom,⟨4,0,[],.slice none 0 0,.slice K n kc⟩,⟨2,(num:Int),[],.slice none 0 0,.slice none 0 0⟩])∧Fine dom∧dom.length≤300∧num≤1000000000000000∧n≤8∧Vs w B 5 K n (rows jsRow Ks)∧∀ k∈Ks,KeyV B w k
theorem BunV.mono{B B':Nat} {w w':World} {v:JsV} (h:BunV B w v) (hb:Below B w w') (hB:B≤B'):BunV B' w' v:=by
 obtain⟨A',A,K,c',c,n,kc,dom,num,Ks,e,hf,h1,h2,h3,h4,h5,h6,h7,h8⟩:=h
 exact⟨A',A,K,c',c,n,kc,dom,num,Ks,e,hf,(h1.below hb).mono hB,(h2.below hb).mono hB,h3,h4,h5,h6,(h7.below hb).mono hB,fun k hk=>(h8 k hk).mono hb hB⟩
theorem right_bun(w:World) (v:JsV) (h:BunV w.heap.size w v):Calls Tryz.prog 199 #[.agg (jsRow v).toArray,.int .i64 6] w fun e w'=>e=.returned (.bool true)∧Below w.heap.size w w':=by
 obtain⟨A',A,K,c',c,n,kc,dom,num,Ks,rfl,hf,h1,h2,h3,h4,h5,h6,h7,h8⟩:=h
 refine right_5 w 6 (by omega) (by omega) A 3 c [jText dom,⟨4,0,[],.slice none 0 0,.slice K n kc⟩,⟨2,(num:Int),[],.slice none 0 0,.slice none 0 0⟩] h2 (by omega) A' c' bunNames h1 hf (by unfold Asc; decide) (by decide) (fun k hk W' hb=>?_)
 simp only [List.mem_cons,List.not_mem_nil,or_false] at hk
 rcases hk with rfl|rfl|rfl
 ·exact right_text dom h3.1 5 W'
 ·refine right_4 W' 5 (by omega) (by omega) K n kc Ks (Es.below h7 hb) (by omega) (fun k hk W'' hb'=>?_)
  exact right_key W'' k ((h8 k hk).mono (hb.trans (hb'.mono hb.size)) (Nat.le_trans hb.size hb'.size))
 ·exact right_2 W' 5 (num:Int) (by omega) (by omega)
theorem value_bun(b n:Nat) (v:JsV) (w:World) (h:WS b n w) (hv:BunV b w v) (hn:n≤10):Calls Tryz.prog 200 #[.pointer (some ⟨b,0,none⟩),.agg (jsRow v).toArray] w fun e w'=>e=.returned (.tuple #[])∧∃ n',0<n'∧n'≤2000∧WS b n' w'∧KeepB b w w':=by
 obtain⟨A',A,K,c',c,m,kc,dom,num,Ks,rfl,hf,h1,h2,h3,h4,h5,h6,h7,h8⟩:=hv
 have hlK:Ks.length=m:=by
  have:=h7.len; rw [rows_length jsRow_len] at this; omega
 refine(wval_5 b n w h A 3 c A' c' 1990 (by omega) (fun W hK hW=>?_)).mono ?_
 ·obtain⟨wt,hwt⟩:∃ wt:JsV→Nat,wt=fun k=>if k.kind=4 then 1610 else if k.kind=2 then 16 else k.text.length+2:=⟨_,rfl⟩
  have w1:wt (jText dom)=dom.length+2:=by rw [hwt]; rfl
  have w2:wt ⟨4,0,[],.slice none 0 0,.slice K m kc⟩=1610:=by rw [hwt]; rfl
  have w3:wt ⟨2,(num:Int),[],.slice none 0 0,.slice none 0 0⟩=16:=by rw [hwt]; rfl
  have hsum:sumW wt [jText dom,⟨4,0,[],.slice none 0 0,.slice K m kc⟩,⟨2,(num:Int),[],.slice none 0 0,.slice none 0 0⟩]≤1930:=by
   simp only [sumW,List.map_cons,List.map_nil,List.sum_cons,List.sum_nil,w1,w2,w3]; omega
  refine(wkids_5 b n W A 3 c [jText dom,⟨4,0,[],.slice none 0 0,.slice K m kc⟩,⟨2,(num:Int),[],.slice none 0 0,.slice none 0 0⟩] wt A' c' bunNames (h1.below hK.1) (by unfold bunNames Clear; decide) hW rfl (h2.below hK.1) (fun k hk=>?_) (by simp only [List.length_cons,List.length_nil]; omega) (by omega) (fun k hk W' n' hK' hW' hn'=>?_)).mono ?_
  ·simp only [List.mem_cons,List.not_mem_nil,or_false] at hk
   rcases hk with rfl|rfl|rfl <;> exact⟨rfl,rfl⟩
  ·simp only [List.mem_cons,List.not_mem_nil,or_false] at hk
   rcases hk with rfl|rfl|rfl
   ·rw [w1] at hn' ⊢
    exact value_text b n' dom W' hW' h3.2 hn' (by omega)
   ·rw [w2] at hn' ⊢
    refine(wval_4 b n' W' hW' K m kc 1610 hn' (fun W'' hK'' hW''=>?_)).mono (fun e w' ⟨h1,n',_,h2⟩=>⟨h1,n',h2⟩); have hs2:sumW (fun _=>200) Ks=200 * m:=by
     rw [← hlK]; exact sumW_const 200 Ks
    refine(wkids_4 b n' W'' K m kc Ks (fun _=>200) hW'' hlK (h7.below ((hK.1.trans hK'.1).trans hK''.1)) (fun k hk=>?_) (by rw [hs2,hlK]; omega) (by omega) (fun k hk W3 n3 hK3 hW3 hn3=>value_key b n3 k W3 hW3 ((h8 k hk).mono (((hK.1.trans hK'.1).trans hK''.1).trans hK3.1) (Nat.le_refl _)) hn3)).mono ?_
    ·obtain⟨A3,A4,c3,c4,kid,x,rfl,_⟩:=h8 k hk
     exact⟨rfl,rfl⟩
    ·rintro e w' ⟨he,n4,h0,hn4,hr⟩
     rw [hs2,hlK] at hn4; exact⟨he,n4,h0,by omega,hr⟩
   ·rw [w3] at hn' ⊢
    exact wval_2 b n' W' hW' num (by omega) hn'
  ·rintro e w' ⟨he,n',h0,hn',hr⟩
   simp only [List.length_cons,List.length_nil] at hn'; exact⟨he,n',h0,by omega,hr⟩
 ·rintro e w' ⟨he,n',h0,hn',hr⟩
  exact⟨he,n',h0,by omega,hr⟩
end
section
open Go.RowKit Mem Led
theorem ws_new(w:World):WS w.heap.size 0 (w.alloc (.cells #[.pointer none,.slice none 0 0] 216)) :=
 ⟨by simp,([]:List Value),rfl,(by intro u hu; cases hu),Lib.fresh_isBuilder _ _ w⟩
theorem jwrite_any(v:JsV) (w:World) (h:BunV w.heap.size w v) :
  Calls Tryz.prog 178 #[.agg (jsRow v).toArray] w fun e w'=>(∃ s,e=.returned (.tuple #[.string s,.int .i64 0]))∧Below w.heap.size w w':=by
 obtain⟨W,hW⟩:∃ W,w.alloc (.cells (jsRow v).toArray 197)=W:=⟨_,rfl⟩
 have B0:Blk W w.heap.size (jsRow v) 197:=by rw [← hW]; exact Blk.new _ _ _
 have hbw:Below w.heap.size w W:=by rw [← hW]; exact(Below.refl _ _).alloc (Nat.le_refl _) _
 have hr:=right_bun W v (h.mono hbw hbw.size)
 have HV:=Lib.hid (fun b n W' (hb:Below w.heap.size w W') (hB:w.heap.size≤b) hw hn=>value_bun b n v W' hw (h.mono hb hB) hn)
 have hld:=ldJs_blk B0
 have HB:Hid (∀ w',Below W.heap.size W w'→Blk w' w.heap.size (jsRow v) 197):=Lib.hid fun w' hb=>B0.below hb
 have HL:∀ w',Blk w' w.heap.size (jsRow v) 197→(ldJs (.pointer (some ⟨w.heap.size,0,none⟩))).run Tryz.prog w'=.ok (.agg (jsRow v).toArray) w':=fun w' hb=>ldJs_blk hb
 have HL:=Lib.hid HL
 clear h
 have hvb:=B0
 generalize (jsRow v).toArray=X at *
 go_enter Tryz.func178,Tryz.ntmps178
 go_upto_region 1 with fail
 clear hW
 go_wp2_with fail
 refine hr.mono ?_
 rintro e w1 ⟨rfl,hb1⟩
 have hbw1:Below w.heap.size w w1:=hbw.trans (hb1.mono hbw.size)
 have hWS:=ws_new w1
 have hb2:Below w1.heap.size w1 (w1.alloc (.cells #[.pointer none,.slice none 0 0] 216)):=(Below.refl _ _).alloc (Nat.le_refl _) _
 have hbw2:=hbw1.trans (hb2.mono hbw1.size)
 have hl2:=HL.out _ ((HB.out w1 hb1).below hb2)
 have hv2:=HV.out w1.heap.size 0 _ hbw2 hbw1.size hWS (by omega)
 clear hr HL HB HV hld hvb B0 hWS
 go_wp2_with fail
 refine hv2.mono ?_
 rintro e w3 ⟨rfl,n3,h30,h3n,hw3,hk3⟩
 have hlen:=wlen_any _ _ w3 hw3
 have hst:=wstr_any _ _ w3 hw3 h30
 have d0:decide (2000<(n3:Int))=false:=by simp; omega
 have d1:(n3:Int)≤2000:=by omega
 clear hv2 hl2
 go_wp2_with fail
 refine hlen.mono ?_
 rintro e w4 ⟨rfl,hww⟩
 have:=hww.symm
 subst this
 clear hlen
 go_wp2_with fail
 refine hst.mono ?_
 rintro e w5 ⟨⟨l,_,rfl⟩,hb5⟩
 go_wp2
 go_ret2
 exact⟨⟨_,rfl⟩,hbw2.trans ((hk3.1.trans hb5).mono hbw1.size)⟩
end
section
namespace B64
def bits:Nat→Nat→List Nat
 | 0,_=>[]
 | k+1,n=>bits k (n / 2)++[n % 2]
def num (l:List Nat):Nat:=l.foldl (fun a b=>2 * a+b) 0
def IsBits (l:List Nat):Prop:=∀ b∈l,b<2
def groups (k:Nat) (L:List Nat):List Nat:=(List.range (L.length / k)).map fun i=>num ((L.drop (i * k)).take k)
theorem bits_length(k n:Nat):(bits k n).length=k:=by
 induction k generalizing n with
 | zero=>rfl
 | succ k ih=>simp [bits,ih]
theorem bits_is(k n:Nat):IsBits (bits k n):=by
 induction k generalizing n with
 | zero=>intro b hb; simp [bits] at hb
 | succ k ih =>
  intro b hb; simp only [bits,List.mem_append,List.mem_singleton] at hb; rcases hb with hb|rfl
  ·exact ih _ b hb
  ·omega
theorem num_from(l:List Nat) (a:Nat):l.foldl (fun a b=>2 * a+b) a=a * 2 ^ l.length+num l:=by
 induction l generalizing a with
 | nil=>simp [num]
 | cons x l ih =>
  unfold num; simp only [List.foldl_cons,List.length_cons]; rw [ih,ih (2 * 0+x),Nat.pow_succ,Nat.add_mul]; simp only [Nat.mul_zero,Nat.zero_add]; have:2 * a * 2 ^ l.length=a * (2 ^ l.length * 2):=by rw [Nat.mul_comm 2 a,Nat.mul_assoc,Nat.mul_comm 2]
  omega
theorem num_append(a b:List Nat):num (a++b)=num a * 2 ^ b.length+num b:=by
 unfold num
 rw [List.foldl_append,num_from]
 rfl
theorem num_one(x:Nat):num [x]=x:=by simp [num]
theorem num_lt{l:List Nat} (h:IsBits l):num l<2 ^ l.length:=by
 induction l with
 | nil=>simp [num]
 | cons x l ih =>
  have h1:=ih fun b hb=>h b (by simp [hb]); have h2:=h x (by simp); rw [show x::l=[x]++l from rfl,num_append,num_one,List.length_append,List.length_singleton,Nat.pow_add]; have:x * 2 ^ l.length≤1 * 2 ^ l.length:=Nat.mul_le_mul_right _ (by omega); omega
theorem num_bits(k n:Nat) (h:n<2 ^ k):num (bits k n)=n:=by
 induction k generalizing n with
 | zero=>simp at h; subst h; rfl
 | succ k ih =>
  rw [bits,num_append,ih _ (by rw [Nat.pow_succ] at h; omega),num_one]
  simp
  omega
theorem IsBits.append{a b:List Nat} (ha:IsBits a) (hb:IsBits b):IsBits (a++b):=fun x hx=>by
 rcases List.mem_append.1 hx with h|h
 ·exact ha x h
 ·exact hb x h
theorem IsBits.left{a b:List Nat} (h:IsBits (a++b)):IsBits a:=fun x hx=>h x (by simp [hx])
theorem IsBits.right{a b:List Nat} (h:IsBits (a++b)):IsBits b:=fun x hx=>h x (by simp [hx])
theorem zeros_is(k:Nat):IsBits (List.replicate k 0):=fun b hb=>by
 rw [List.eq_of_mem_replicate hb]
 omega
theorem num_zeros(k:Nat):num (List.replicate k 0)=0:=by
 induction k with
 | zero=>rfl
 | succ k ih=>rw [List.replicate_succ',num_append,ih,num_one]; simp
theorem groups_length(k:Nat) (L:List Nat):(groups k L).length=L.length / k:=by simp [groups]
theorem groups_append{k:Nat} (hk:0<k) (a b:List Nat) (m:Nat) (h:a.length=m * k):groups k (a++b)=groups k a++groups k b:=by
 unfold groups
 have h1:(a++b).length / k=m+b.length / k:=by
  rw [List.length_append,h,Nat.add_comm,Nat.add_mul_div_right _ _ hk,Nat.add_comm]
 have h2:a.length / k=m:=by rw [h,Nat.mul_div_cancel _ hk]
 rw [h1,h2,List.range_add,List.map_append,List.map_map]
 congr 1
 ·apply List.map_congr_left
  intro i hi; have hi:=List.mem_range.1 hi; have h3:(i+1) * k≤m * k:=Nat.mul_le_mul_right _ hi; rw [Nat.add_mul] at h3; rw [List.drop_append_of_le_length (by omega),List.take_append_of_le_length (by simp; omega)]
 ·apply List.map_congr_left
  intro i _; simp only [Function.comp]; rw [List.drop_append,List.drop_eq_nil_of_le (by rw [h,Nat.add_mul]; omega),List.nil_append,h,Nat.add_mul,Nat.add_sub_cancel_left]
theorem groups_one{k:Nat} (hk:0<k) (a:List Nat) (h:a.length=k):groups k a=[num a]:=by
 unfold groups
 rw [h,Nat.div_self hk,show (List.range 1)=[0] from rfl]
 simp [← h]
theorem groups_push{k:Nat} (hk:0<k) (a q:List Nat) (m:Nat) (h:a.length=m * k) (hq:q.length=k):groups k (a++q)=groups k a++[num q]:=by
 rw [groups_append hk a q m h,groups_one hk q hq]
def pad (L:List Nat):List Nat:=L++List.replicate ((6 - L.length % 6) % 6) 0
def bitsAll (l:List UInt8):List Nat:=l.flatMap fun c=>bits 8 c.toNat
def alphabet:List UInt8:=[65,66,67,68,69,70,71,72,73,74,75,76,77,78,79,80,81,82,83,84,85,86,87,88,89,90,97,98,99,100,101,102,103,104,105,106,107,108,109,110,111,112,113,114,115,116,117,118,119,120,121,122,48,49,50,51,52,53,54,55,56,57,45,95]
def lett (n:Nat):UInt8:=alphabet.getD n 63
def enc (l:List UInt8):List UInt8:=(groups 6 (pad (bitsAll l))).map lett
theorem bitsAll_is(l:List UInt8):IsBits (bitsAll l):=fun b hb=>by
 obtain⟨c,_,hc⟩:=List.mem_flatMap.1 hb
 exact bits_is _ _ b hc
theorem bitsAll_length(l:List UInt8):(bitsAll l).length=l.length * 8:=by
 induction l with
 | nil=>rfl
 | cons c l ih =>
  have:bitsAll (c::l)=bits 8 c.toNat++bitsAll l:=rfl; rw [this,List.length_append,bits_length,ih,List.length_cons]; omega
theorem bitsAll_append(a b:List UInt8):bitsAll (a++b)=bitsAll a++bitsAll b:=by simp [bitsAll]
theorem pad_length(L:List Nat):∃ m,(pad L).length=m * 6∧m=(L.length+5) / 6:=by
 refine⟨(L.length+5) / 6,?_,rfl⟩
 simp [pad]
 omega
theorem enc_length(l:List UInt8):(enc l).length=(l.length * 8+5) / 6:=by
 obtain⟨m,h1,h2⟩:=pad_length (bitsAll l)
 unfold enc
 rw [List.length_map,groups_length,h1,Nat.mul_div_cancel _ (by omega),h2,bitsAll_length]
end B64
end
section
open Go.RowKit Mem
theorem bitsAll_take(l:List UInt8) (k:Nat) (h:k<l.length):B64.bitsAll (l.take (k+1))=B64.bitsAll (l.take k)++B64.bits 8 l[k].toNat:=by
 rw [List.take_succ_eq_append_getElem h,B64.bitsAll_append]
 simp [B64.bitsAll]
theorem copyCheckS_fresh(b:Nat) (w:World) (h0:w.cell? ⟨b,0,none⟩=some (.pointer none)) (hsh:w.shape? b=some (214,2)) (hfz:w.frozen? ⟨b,0,none⟩=false) :
  Calls Tryz.prog 257 #[.pointer (some ⟨b,0,none⟩)] w fun e w'=>e=.returned (.tuple #[])∧w'=w.setCell ⟨b,0,none⟩ (.pointer (some ⟨b,0,none⟩)):=by
 have X:=Tryz.Builder_Extra_169
 obtain⟨j,hj,hjs⟩:=Option.map_eq_some_iff.1 X.sizeBuilder
 go_enter Tryz.func257,Tryz.ntmps257
 go_wp2
 rw [Lib.run_to_unsafe w ⟨b,0,none⟩ Tryz.underlying212 Tryz.underlying286 hj (by rw [hjs]; decide) hsh (Nat.zero_lt_succ 1)]
 simp only [Result.andThen]
 rw [Oper.upon_value]
 go_wp2
 rw [run_callFunc_extern Tryz.func271 (by kernel_rfl) (by kernel_rfl) (by kernel_rfl) (e:=Extern.AbiNoEscape.same) (by kernel_rfl)]
 rw [Lib.run_noEscape]
 simp only [Result.andThen]
 rw [Oper.upon_value]
 go_wp2
 rw [Lib.run_from_unsafe w ⟨b,0,none⟩ Tryz.underlying286 Tryz.underlying212 hj hsh (by kernel_rfl)]
 simp only [Result.andThen]
 rw [Oper.upon_value]
 go_wp2
 go_end0
 exact⟨rfl,rfl⟩
theorem copyCheckS_any(B b:Nat) (bs:List Value) (w:World) (h:Lib.IsBuilder 214 5 B b bs w) :
  Calls Tryz.prog 257 #[.pointer (some ⟨b,0,none⟩)] w fun e w'=>e=.returned (.tuple #[])∧(Lib.BuilderAt 214 5 B b (.pointer (some ⟨b,0,none⟩)) bs w'∧Below B w w'):=by
 rcases h with h|h
 ·refine(copyCheckS_fresh b w h.cell0 h.shape h.frozen0).mono ?_
  rintro e w' ⟨rfl,rfl⟩; exact⟨rfl,h.used _,(Below.refl B w).setCell (p:=⟨b,0,none⟩) h.1 _⟩
 ·refine(copyCheck_used b w h.cell0).mono ?_
  rintro e w' ⟨rfl,rfl⟩; exact⟨rfl,h,Below.refl B _⟩
theorem writeByteS_any(B b:Nat) (bs:List Value) (c:Int) (w:World) (h:Lib.IsBuilder 214 5 B b bs w) (hlen:bs.length+1≤140737488355328) (hBw:B≤w.heap.size) :
  Calls Tryz.prog 227 #[.pointer (some ⟨b,0,none⟩),.int .u8 c] w fun e w'=>e=.returned .nilIface∧(Lib.BuilderAt 214 5 B b (.pointer (some ⟨b,0,none⟩)) (bs++[.int .u8 c]) w'∧Below B w w'):=by
 obtain⟨i0,hi,hz0,hz1,hz2⟩:=info_parts infoB
 go_enter Tryz.func227,Tryz.ntmps227
 go_wp2_with fail
 refine(copyCheckS_any B b bs _ h).mono ?_
 rintro e w1 ⟨rfl,h1,hb1⟩
 obtain⟨hB,v,hbk,hown,hne⟩:=h1
 have c0:w1.cell? ⟨b,0,none⟩=some (.pointer (some ⟨b,0,none⟩)):=by rw [Lib.cell_of_heap hbk]; rfl
 have c1:w1.cell? ⟨b,1,none⟩=some v:=by rw [Lib.cell_of_heap hbk]; rfl
 have hB1:B≤w1.heap.size:=Nat.le_trans hBw hb1.size
 have h63:bs.length+1≤maxLen:=by unfold maxLen; omega
 go_wp2_with (at_builtin; go_must (refine wpList_push rfl (.tmp 11) (.tmp 13) 62 rfl B i0 (.int .u8 0) 1 Tryz.underlying62 hi hz0 hz1 hz2 rfl _ _ _ rfl hown rfl rfl h63 (by omega) hB1 ?_))
 intro A' c' w2 hown' g1 g2 hgrow
 have hlt:b<w1.heap.size:=by
  rcases Nat.lt_or_ge b w1.heap.size with h'|h'
  ·exact h'
  ·simp [Array.getElem?_eq_none h'] at hbk
 have hb2:w2.heap[b]?=some (.cells #[.pointer (some ⟨b,0,none⟩),v] 214 (0,0)):=by
  rw [hgrow.block b (by simp; omega) (fun e=>hne e.symm),Lib.alloc_old w1 _ b hlt]
  exact hbk
 have d0:w2.cell? ⟨b,0,none⟩=some (.pointer (some ⟨b,0,none⟩)):=by rw [Lib.cell_of_heap hb2]; rfl
 have d1:w2.cell? ⟨b,1,none⟩=some v:=by rw [Lib.cell_of_heap hb2]; rfl
 have f1:w2.frozen? ⟨b,1,none⟩=false:=Lib.frozen_of_heap hb2 1
 obtain⟨g,cap,hsl⟩:∃ g cap,Value.slice A' (bs.length+1) c'=.slice (some ⟨g,0,none⟩) (bs.length+1) cap:=by
  rcases hown'.2 with⟨_,h0⟩|⟨g,cap,cur,hv,_⟩
  ·omega
  ·exact⟨g,cap,hv⟩
 rw [hsl] at hown' ⊢
 go_wp2
 go_ret
 refine⟨rfl,?_,?_⟩
 ·exact Lib.BuilderAt.put (T:=214) (e:=5) hB hb2 (bs':=bs++[.int .u8 c]) (by simpa using hown') (by decide)
 ·exact((hb1.alloc (by have:=hb1.size; omega) _).grown hgrow (by have:=hb1.size; simp; omega) (fun k hk=>(hown.lt k hk).1)).setCell (p:=⟨b,1,none⟩) hB _
end
section
open Go.RowKit
theorem mwraps_i64_20(n:Int) (h₀:0≤n) (h₁:n<2 ^ 20):IntKind.i64.wrap n=n:=by rw [IntKind.wrap_i64]; omega
section
variable (x:Nat) (hx:x<1048576)
include hx
theorem mand63:Go.bits .and .i64 (x:Int) 63=((x % 64:Nat):Int):=by
 have:=bits_mask .i64 20 (by decide) mwraps_i64_20 6 (by decide) (x:Int) (by omega) (by omega)
 simpa using this
end
theorem mor256(x y:Nat) (hx:x<4096) (hy:y<256):Go.bits .or .i64 ((x:Int) * 256) (y:Int)=((x * 256+y:Nat):Int):=by
 have:=bits_join .i64 20 (by decide) mwraps_i64_20 8 ((x:Int) * 256) (y:Int) (by omega) (by omega) (by omega) (by omega) (by omega) (by omega)
 rw [this]
 omega
theorem mmask_any(x sh:Nat) (hx:x<1048576) (h:sh≤7):Go.bits .and .i64 (x:Int) (wrap64 (wrap64 (2 ^ sh) - 1))=((x % 2 ^ sh:Nat):Int):=by
 have key:∀ i,i≤7→wrap64 (wrap64 (2 ^ i) - 1)=2 ^ i - 1:=by decide +kernel
 rw [key sh h,bits_mask .i64 20 (by decide) mwraps_i64_20 sh (by omega) (x:Int) (by omega) (by omega)]
 simp
end
section
open Go.RowKit Mem B64
def letters:ByteArray:=⟨#[65,66,67,68,69,70,71,72,73,74,75,76,77,78,79,80,81,82,83,84,85,86,87,88,89,90,97,98,99,100,101,102,103,104,105,106,107,108,109,110,111,112,113,114,115,116,117,118,119,120,121,122,48,49,50,51,52,53,54,55,56,57,45,95]⟩
theorem letters_at(r:Nat) (h:r<letters.size):letters[r]=lett r:=by
 have h64:r<alphabet.length:=h
 unfold lett
 rw [List.getD_eq_getElem?_getD,List.getElem?_eq_getElem h64]
 rfl
theorem encode_any(A:Option Addr) (n c B:Nat) (l:List UInt8) (w:World) (hd:Bs w B A n l) (hn:n≤400) (hB:B≤w.heap.size) :
  Calls Tryz.prog 198 #[.slice A n c] w fun e w'=>e=.returned (.string (str (enc l)))∧Below w.heap.size w w':=by
 have hln:=hd.len
 have HL:=Lib.hid hln
 clear hln
 have hb0:Lib.IsBuilder 214 5 w.heap.size w.heap.size [] (w.alloc (.cells #[.pointer none,.slice none 0 0] 214)):=Lib.fresh_isBuilder _ _ w
 have hbel0:Below w.heap.size w (w.alloc (.cells #[.pointer none,.slice none 0 0] 214)):=(Below.refl _ _).alloc (Nat.le_refl _) _
 go_enter Tryz.func198,Tryz.ntmps198
 go_wp2
 go_loopw [4,5,10] (fun vw vn i wr=>∃ (k m pn x:Nat) (Q P:List Nat),k≤n∧i=.int .i64 k∧vn=.int .i64 pn∧vw=.int .i64 x∧pn<6∧x<32∧m≤3200∧Hid (bitsAll (l.take k)=Q++P∧Q.length=m * 6∧P.length=pn∧num P=x)∧Lib.IsBuilder 214 5 w.heap.size w.heap.size (bv ((groups 6 Q).map lett)) wr∧Below w.heap.size w wr) (fun _ _ i _=>n - (intOf i).toNat)
 case atStart=>exact⟨0,0,0,0,[],[],by omega,rfl,rfl,rfl,by omega,by omega,by omega,Lib.hid ⟨rfl,rfl,rfl,rfl⟩,hb0,hbel0⟩
 case round =>
  obtain⟨k,m,pn,x,Q,P,hk,rfl,rfl,rfl,hpn,hx,hm,HH,hbl,hb⟩:=hrel; clear hb0 hbel0; by_cases hlt:k<n
  ·obtain⟨ad,hl,rfl,hblk,hcell⟩:=(hd.next hB hb).at_ hlt
   have hst:=bitsAll_take l k hl; have hc:l[k].toNat<256:=l[k].toNat_lt; generalize l[k].toNat=ch at *; have hor:=mor256 x ch (by omega) hc; obtain⟨y,hy⟩:∃ y,x * 256+ch=y:=⟨_,rfl⟩; rw [hy] at hor; have hy2:y<8192:=by omega
   have hbitsP:num (B64.bits 8 ch)=ch:=num_bits 8 ch (by omega); have HH2:Hid (bitsAll (l.take (k+1))=Q++(P++B64.bits 8 ch)∧Q.length=m * 6∧(P++B64.bits 8 ch).length=pn+8∧num (P++B64.bits 8 ch)=y):=by
    refine Lib.hid ⟨?_,HH.out.2.1,?_,?_⟩
    ·rw [hst,HH.out.1,List.append_assoc]
    ·rw [List.length_append,bits_length,HH.out.2.2.1]
    ·rw [num_append,bits_length,hbitsP,HH.out.2.2.2]
     omega
   clear hst hbitsP hy HH hd; generalize P++B64.bits 8 ch=P2 at HH2; go_wp2_with fail
   go_loopw [4,5] (fun vw vn wr=>∃ (m pn x:Nat) (Q P:List Nat),vn=.int .i64 pn∧vw=.int .i64 x∧pn≤13∧x<8192∧m≤3200∧Hid (bitsAll (l.take (k+1))=Q++P∧Q.length=m * 6∧P.length=pn∧num P=x)∧Lib.IsBuilder 214 5 w.heap.size w.heap.size (bv ((groups 6 Q).map lett)) wr∧Below w.heap.size w wr) (fun _ vn _=>(intOf vn).toNat)
   case atStart=>exact⟨m,pn+8,y,Q,P2,by go_num,rfl,by omega,by omega,by omega,HH2,hbl,hb⟩
   case round =>
    clear hor; obtain⟨m1,pn1,x1,Q1,P1,rfl,rfl,hpn1,hx1,hm1,HH1,hbl1,hb1⟩:=hrel; by_cases hge:6≤pn1
    ·obtain⟨sh,hsh⟩:∃ sh,pn1=sh+6:=⟨pn1 - 6,by omega⟩
     subst hsh; obtain⟨R,S,hRS,hR,hS⟩:∃ R S,P1=R++S∧R.length=6∧S.length=sh:=⟨P1.take 6,P1.drop 6,(List.take_append_drop 6 P1).symm,by simp [HH1.out.2.2.1],by simp [HH1.out.2.2.1]⟩; have hbitsAll:=bitsAll_is (l.take (k+1)); rw [HH1.out.1,hRS] at hbitsAll; have hRis:=hbitsAll.right.left; have hSis:=hbitsAll.right.right; have hrlt:=num_lt hRis; have hslt:=num_lt hSis; have hx:=HH1.out.2.2.2; rw [hRS,num_append] at hx; rw [hR] at hrlt; rw [hS] at hslt hx; obtain⟨sN,hsN⟩:∃ sN,num S=sN:=⟨_,rfl⟩; have HH3:Hid (bitsAll (l.take (k+1))=(Q1++R)++S∧(Q1++R).length=(m1+1) * 6∧S.length=sh∧num S=sN):=Lib.hid ⟨by rw [HH1.out.1,hRS,List.append_assoc],by rw [List.length_append,HH1.out.2.1,hR]; omega,hS,hsN⟩
     have hpush:bv ((groups 6 (Q1++R)).map lett)=bv ((groups 6 Q1).map lett)++[.int .u8 ((lett (num R)).toNat:Int)]:=by
      rw [groups_push (by omega) Q1 R m1 HH1.out.2.1 hR,List.map_append,bv_append]; rfl
     have HP:=Lib.hid hpush; have hm2:m1<3200:=by
      have h1:=congrArg List.length HH1.out.1; rw [bitsAll_length,List.length_append,HH1.out.2.1] at h1; have:(l.take (k+1)).length≤401:=by simp; omega
      omega
     rw [hsN] at hx hslt; generalize num R=r at *; clear hsN; have hq:x1 / 2 ^ sh=r:=by
      rw [← hx,Nat.add_comm,Nat.add_mul_div_right _ _ (Nat.two_pow_pos _),Nat.div_eq_of_lt hslt,Nat.zero_add]
     have hr:x1 % 2 ^ sh=sN:=by
      rw [← hx,Nat.add_comm,Nat.add_mul_mod_self_right,Nat.mod_eq_of_lt hslt]
     have f1:(x1:Int) / 2 ^ sh=(r:Int):=by rw [← hq]; simp
     have f2:=mand63 r (by omega); rw [Nat.mod_eq_of_lt (by omega)] at f2; clear hx hbitsAll hpush hR hS hRS; have hHq:=Lib.hid hq; have hHr:=Lib.hid hr; clear hq hr; have hlenb:(bv ((groups 6 Q1).map lett)).length+1≤140737488355328:=by
      rw [bv_length,List.length_map,groups_length]; have:=HH1.out.2.1; omega
     go_wp2_with fail
     refine(writeByteS_any w.heap.size w.heap.size _ _ wr hbl1 hlenb hb1.size).mono ?_; rintro e w2 ⟨rfl,hbl2,hb2⟩; have hbl3:Lib.IsBuilder 214 5 w.heap.size w.heap.size (bv ((groups 6 (Q1++R)).map lett)) w2:=by
      rw [HP.out,← letters_at r (by show r<64; omega)]
      exact .inr hbl2
     have hb3:=hb1.trans hb2; clear hbl2 hb2 hbl1 hb1 f1 f2; have hmask:=mmask_any x1 sh (by omega) (by omega); rw [hHr.out] at hmask; have hs7:2 ^ sh≤2 ^ 7:=Nat.pow_le_pow_right (by omega) (by omega); go_wp2; go_roundw
     case rel=>exact⟨m1+1,sh,sN,Q1++R,S,rfl,by first|rfl|rw [hmask],by omega,by omega,by omega,HH3,hbl3,hb3⟩
     case measure=>simp [intOf]; omega
    ·have hP1:IsBits P1:=by
      have h:=bitsAll_is (l.take (k+1)); rw [HH1.out.1] at h; exact h.right
     have hx32:x1<32:=by
      have h:=num_lt hP1; rw [HH1.out.2.2.1,HH1.out.2.2.2] at h; have:2 ^ pn1≤2 ^ 5:=Nat.pow_le_pow_right (by omega) (by omega); omega
     go_wp2; go_roundw
     case rel=>exact⟨k+1,m1,pn1,x1,Q1,P1,by omega,by go_num,rfl,rfl,by omega,hx32,hm1,HH1,hbl1,hb1⟩
     case measure=>simp [intOf]; omega
  ·obtain rfl:k=n:=by omega
   have htk:l.take k=l:=by rw [← HL.out,List.take_length]
   rw [htk] at HH; have hPis:IsBits P:=by
    have h:=bitsAll_is l; rw [HH.out.1] at h; exact h.right
   by_cases h0:pn=0
   ·subst h0
    have hP:P=[]:=List.eq_nil_of_length_eq_zero HH.out.2.2.1; have henc:enc l=(groups 6 Q).map lett:=by
     have hz:(6 - (bitsAll l).length % 6) % 6=0:=by
      rw [HH.out.1,hP,List.append_nil,HH.out.2.1]; omega
     unfold enc pad; rw [hz,HH.out.1,hP]; simp
    have HE:=Lib.hid henc; have hstr:=Tryz.Builder_String_any w.heap.size w.heap.size _ wr hbl hb.size; rw [← HE.out] at hstr; clear henc hP; go_wp2_with fail
    refine hstr.mono ?_; rintro e w2 ⟨rfl,hb2⟩; go_wp2; go_ret; exact⟨rfl,hb.trans hb2⟩
   ·have hzs:num (P++List.replicate (6 - pn) 0)=x * 2 ^ (6 - pn):=by
     rw [num_append,num_zeros,HH.out.2.2.2,List.length_replicate,Nat.add_zero]
    have hR:(P++List.replicate (6 - pn) 0).length=6:=by
     rw [List.length_append,List.length_replicate,HH.out.2.2.1]; omega
    have hz64:=num_lt (hPis.append (zeros_is (6 - pn))); rw [hR] at hz64; obtain⟨z,hz⟩:∃ z,x * 2 ^ (6 - pn)=z:=⟨_,rfl⟩; rw [hzs,hz] at hz64; have hzi:(x:Int) * 2 ^ (6 - pn)=(z:Int):=by rw [← hz]; simp
    have hw:wrap64 ((x:Int) * 2 ^ (6 - pn))=(z:Int):=by
     rw [hzi]; unfold wrap64; omega
    have henc:enc l=(groups 6 (Q++(P++List.replicate (6 - pn) 0))).map lett:=by
     have hzz:(6 - (bitsAll l).length % 6) % 6=6 - pn:=by
      rw [HH.out.1,List.length_append,HH.out.2.1,HH.out.2.2.1]; omega
     unfold enc pad; rw [hzz,HH.out.1,List.append_assoc]
    have hpush:bv (enc l)=bv ((groups 6 Q).map lett)++[.int .u8 ((lett z).toNat:Int)]:=by
     rw [henc,groups_push (by omega) Q _ m HH.out.2.1 hR,List.map_append,bv_append,hzs,hz]; rfl
    have HP:=Lib.hid hpush; have hlenb:(bv ((groups 6 Q).map lett)).length+1≤140737488355328:=by
     rw [bv_length,List.length_map,groups_length]; have:=HH.out.2.1; omega
    clear hzs hR hz hzi henc hpush htk hd; go_wp2_with fail
    refine(writeByteS_any w.heap.size w.heap.size _ _ wr hbl hlenb hb.size).mono ?_; rintro e w2 ⟨rfl,hbl2,hb2⟩; have hbl3:Lib.IsBuilder 214 5 w.heap.size w.heap.size (bv (enc l)) w2:=by
     rw [HP.out,← letters_at z (by show z<64; omega)]
     exact .inr hbl2
    have hb3:=hb.trans hb2; have hstr:=Tryz.Builder_String_any w.heap.size w.heap.size _ w2 hbl3 hb3.size; clear hbl2 hb2 hbl hb hw; go_wp2_with fail
    refine hstr.mono ?_; rintro e w4 ⟨rfl,hb4⟩; go_wp2; go_ret; exact⟨rfl,hb3.trans hb4⟩
end
section
namespace Sha
def kkL:List Nat:=[1116352408,1899447441,3049323471,3921009573,961987163,1508970993,2453635748,2870763221,3624381080,310598401,607225278,1426881987,1925078388,2162078206,2614888103,3248222580,3835390401,4022224774,264347078,604807628,770255983,1249150122,1555081692,1996064986,2554220882,2821834349,2952996808,3210313671,3336571891,3584528711,113926993,338241895,666307205,773529912,1294757372,1396182291,1695183700,1986661051,2177026350,2456956037,2730485921,2820302411,3259730800,3345764771,3516065817,3600352804,4094571909,275423344,430227734,506948616,659060556,883997877,958139571,1322822218,1537002063,1747873779,1955562222,2024104815,2227730452,2361852424,2428436474,2756734187,3204031479,3329325298]
def ffL:List Nat:=[1779033703,3144134277,1013904242,2773480762,1359893119,2600822924,528734635,1541459225]
def psum (d:List UInt8):List UInt8:=sum kkL ffL d
def pname (d:List UInt8):List UInt8:=hexs (psum d) 4
theorem psum_len(d:List UInt8):(psum d).length=32:=sum_len _ _ _
theorem pname_len(d:List UInt8):(pname d).length=8:=hexs_len _ 4
end Sha
end
end Go.Proofs.YtmbpnkacggngkaaGreatDoor
