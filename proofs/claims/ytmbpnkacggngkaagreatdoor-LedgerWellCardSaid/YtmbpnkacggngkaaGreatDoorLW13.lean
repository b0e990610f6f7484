/- JwkText, ShaTurn, PshWord, PshRow, PshMix, PshSum, PshName, StrMap, JwkMay (put together by bundle.py: only what is needed). -/
import Derived.Test.YtmbpnkacggngkaaGreatDoorLW12
set_option maxRecDepth 100000
set_option maxHeartbeats 16000000
namespace Go.Proofs.YtmbpnkacggngkaaGreatDoor
section
open Go.RowKit Mem Led
theorem lett_fine(n:Nat):(B64.lett n).toNat≤126∧32≤(B64.lett n).toNat∧(B64.lett n).toNat≠34∧(B64.lett n).toNat≠92:=by
 by_cases h:n<64
 ·exact(by decide +kernel:∀ n,n<64→(B64.lett n).toNat≤126∧32≤(B64.lett n).toNat∧(B64.lett n).toNat≠34∧(B64.lett n).toNat≠92) n h
 ·unfold B64.lett
  have:B64.alphabet[n]?=none:=List.getElem?_eq_none (by show 64≤n; omega)
  rw [List.getD_eq_getElem?_getD,this]; decide
theorem fine_enc(l:List UInt8):Fine (B64.enc l):=by
 have key:∀ c∈B64.enc l,c.toNat≤126∧32≤c.toNat∧c.toNat≠34∧c.toNat≠92:=fun c hc=>by
  obtain⟨n,_,rfl⟩:=List.mem_map.1 hc; exact lett_fine n
 exact⟨fun c hc=>(key c hc).1,fun c hc=>(key c hc).2⟩
theorem hexd_fine:∀ n,n<16→(Sha.hexd n).toNat≤126∧32≤(Sha.hexd n).toNat∧(Sha.hexd n).toNat≠34∧(Sha.hexd n).toNat≠92:=by decide +kernel
theorem hexs_fine(h:List UInt8):∀ i,∀ c∈Sha.hexs h i,c.toNat≤126∧32≤c.toNat∧c.toNat≠34∧c.toNat≠92
 | 0,c,hc=>by cases hc
 | i+1,c,hc=>by
  simp only [Sha.hexs,List.mem_append,List.mem_cons,List.not_mem_nil,or_false] at hc; rcases hc with(hc|rfl)|rfl
  ·exact hexs_fine h i c hc
  ·exact hexd_fine _ (by have:=(h.getD i 0).toNat_lt; omega)
  ·exact hexd_fine _ (Nat.mod_lt _ (by omega))
theorem fine_pname(l:List UInt8):Fine (Sha.pname l):=⟨fun c hc=>(hexs_fine _ 4 c hc).1,fun c hc=>(hexs_fine _ 4 c hc).2⟩
theorem jtext_any(t:Txt) (w:World):Calls Tryz.prog 179 #[.string (str t)] w fun e w'=>e=.returned (.agg (jsRow (jText t)).toArray)∧Below w.heap.size w w':=by
 have bn:=Blk.new w (jsRow ⟨0,0,[],.slice none 0 0,.slice none 0 0⟩) 197
 obtain⟨hst,BK⟩:=store_js bn (vs:=jsRow (jText t)) rfl rfl (jsRow_one _ rfl rfl)
 obtain⟨w3,hw3⟩:∃ w3,(w.alloc (.cells (jsRow ⟨0,0,[],.slice none 0 0,.slice none 0 0⟩).toArray 197)).setCells w.heap.size 0 (jsRow (jText t))=w3:=⟨_,rfl⟩
 have hcn:Chg [] w w3:=by rw [← hw3]; exact((Chg.refl _ _).alloc _).setCells _ (.inr (Nat.le_refl _))
 rw [hw3] at hst BK
 have hb3:=hcn.below (fun _ h=>by cases h)
 have hst':(stJs (.pointer (some ⟨w.heap.size,0,none⟩)) (.agg #[.int .i64 3,.int .i64 0,.string (str t),.slice none 0 0,.slice none 0 0])).run Tryz.prog (w.alloc (.cells #[.int .i64 0,.int .i64 0,.string ⟨#[]⟩,.slice none 0 0,.slice none 0 0] 197))=.ok () w3:=hst
 have hH:=BK.has (n:=5) rfl
 have hA:=BK.arr (n:=5) rfl
 clear hst hw3 hcn bn
 go_enter Tryz.func179,Tryz.ntmps179
 go_wp2
 refine bodyPost_ret (results_arr (P:=Tryz.prog) Tryz.results179 _ _ w.heap.size 0 5 _ rfl Tryz.underlying197 rfl sizeJs hH) rfl ?_
 exact⟨congrArg (fun a=>Ending.returned (Value.agg a)) hA,hb3⟩
end
section
namespace Sha
theorem down_eq:∀ (n m:Nat),down n m=m / 2 ^ n
 | 0,m=>by simp [down]
 | n+1,m=>by rw [down,down_eq n m,Nat.div_div_eq_div_mul,← Nat.pow_succ]
theorem turn_eq(m:Nat):∀ n,n≤32→turn n m=m / 2 ^ n+m % 2 ^ n * 2 ^ (32 - n)
 | 0,_=>by simp [turn,Nat.mod_one]
 | n+1,h=>by
  rw [turn,turn_eq m n (by omega)]; have e1:2 ^ (32 - n)=2 * 2 ^ (32 - (n+1)):=by rw [← Nat.pow_succ']; congr 1; omega
  have e2:m % 2 ^ (n+1)=m % 2 ^ n+2 ^ n * (m / 2 ^ n % 2):=Nat.mod_pow_succ; have e3:m / 2 ^ (n+1)=m / 2 ^ n / 2:=by rw [Nat.div_div_eq_div_mul,← Nat.pow_succ]
  have e4:2 ^ n * 2 ^ (32 - (n+1))=2147483648:=by rw [← Nat.pow_add,show n+(32 - (n+1))=31 by omega]
  have e5:2 ^ n * (m / 2 ^ n % 2) * 2 ^ (32 - (n+1))=m / 2 ^ n % 2 * 2147483648:=by
   rw [← e4,Nat.mul_comm (2 ^ n) (m / 2 ^ n % 2),Nat.mul_assoc]
  rw [e1,e2,e3,Nat.add_mul,e5]; unfold half; generalize m / 2 ^ n=a; have e6:m % 2 ^ n * (2 * 2 ^ (32 - (n+1)))=2 * (m % 2 ^ n * 2 ^ (32 - (n+1))):=by rw [Nat.mul_left_comm]
  rw [e6]; generalize m % 2 ^ n * 2 ^ (32 - (n+1))=b; omega
theorem turn_or(m:Nat) (hm:m<4294967296) (n:Nat) (hn:n≤32):m / 2 ^ n ||| m * 2 ^ (32 - n) % 4294967296=turn n m:=by
 have e:4294967296=2 ^ n * 2 ^ (32 - n):=by rw [← Nat.pow_add,show n+(32 - n)=32 by omega]
 have h1:m / 2 ^ n<2 ^ (32 - n):=by
  rw [Nat.div_lt_iff_lt_mul (Nat.two_pow_pos n),Nat.mul_comm,← e]; exact hm
 rw [turn_eq m n hn]
 have h2:m * 2 ^ (32 - n) % 4294967296=2 ^ (32 - n) * (m % 2 ^ n):=by
  rw [e,Nat.mul_mod_mul_right,Nat.mul_comm]
 rw [h2,Nat.or_comm,← Nat.two_pow_add_eq_or_of_lt h1,Nat.mul_comm (m % 2 ^ n),Nat.add_comm]
end Sha
end
section
open Go.RowKit Mem
def formL:List Value:=[.int .i64 32,.int .i64 64,.int .i64 2,.int .i64 13,.int .i64 22,.int .i64 6,.int .i64 11,.int .i64 25,.int .i64 7,.int .i64 18,.int .i64 3,.int .i64 17,.int .i64 19,.int .i64 10]
structure F32 (hc:List Value):Prop where
 len:hc.length=14
 bits:hc[0]?=some (.int .i64 32)
 many:hc[1]?=some (.int .i64 64)
 one:∀ v∈hc,v.oneCell'=true
theorem pturned_any(hc:List Value) (h:F32 hc) (m n:Nat) (hm:m<4294967296) (hn:n≤32) (w:World) :
  Calls Tryz.prog 280 #[.agg hc.toArray,.int .u64 (m:Int),.int .i64 (n:Int)] w fun e w'=>e=.returned (.int .u64 ((Sha.turn n m:Nat):Int))∧Below w.heap.size w w':=by
 have hbits:=h.bits
 go_enter Tryz.func280,Tryz.ntmps280
 go_wp2
 refine Batch.wp_region_grew (by kernel_rfl) (by kernel_rfl) ?_
 repeat (go_big_quiet_step (fail))
 refine wpQuiet_nil ?_
 rintro _ ⟨p,rfl⟩
 have hb:=Batch.grew_below (w.alloc (.cells hc.toArray 269)) p
 generalize Batch.grew (w.alloc (.cells hc.toArray 269)) p=w1 at *
 go_wp2
 go_ret
 refine⟨ret_v ?_,((Below.refl _ _).alloc (Nat.le_refl _) _).trans (hb.mono (by simp))⟩
 have e1:(m:Int) / 2 ^ n=((m / 2 ^ n:Nat):Int):=by rw [Int.natCast_ediv,Int.natCast_pow]; rfl
 have e2:(m:Int) * 2 ^ (32 - n) % 4294967296=((m * 2 ^ (32 - n) % 4294967296:Nat):Int):=by rw [Int.natCast_emod,Int.natCast_mul,Int.natCast_pow]; rfl
 have h1:m / 2 ^ n<4294967296:=Nat.lt_of_le_of_lt (Nat.div_le_self _ _) hm
 rw [e1,e2,u32_or_nat _ _ h1 (Nat.mod_lt _ (by omega)),Sha.turn_or m hm n hn]
 have:=Sha.turn_lt hm n
 have e3:IntKind.u64.wrap ((Sha.turn n m:Nat):Int)=((Sha.turn n m:Nat):Int):=by rw [IntKind.wrap_u64]; omega
 rw [e3]
 rfl
theorem size_F:(Tryz.prog.info? 269).map (·.size)=some 14:=by kernel_rfl
def loadF (x:Value):Sem Value:=Instr.loadAt 269 x
theorem named_load_F(x:Value):Instr.loadAt 269 x=loadF x:=rfl
attribute [go_sem ↓] named_load_F
theorem load_F{w:World} {g:Nat} {cs:List Value} {t:TypeId} (h:Blk w g cs t) (hn:cs.length=14):(loadF (.pointer (some ⟨g,0,none⟩))).run Tryz.prog w=.ok (.agg cs.toArray) w:=by
 have:=run_load_arr (P:=Tryz.prog) w 269 g 0 14 _ Tryz.underlying269 rfl size_F (blk_has h hn)
 rw [blk_arr h hn] at this
 exact this
theorem pall_any(hc:List Value) (h:F32 hc) (a b c m:Nat) (hm:m<4294967296) (ha:a≤32) (hb:b≤32) (hcc:c≤32) (sh:Bool) (w:World) :
  Calls Tryz.prog 277 #[.agg hc.toArray,.int .u64 (m:Int),.agg #[.int .i64 (a:Int),.int .i64 (b:Int),.int .i64 (c:Int)],.bool sh] w fun e w'=>e=.returned (.int .u64 ((Sha.mixed a b c sh m:Nat):Int))∧Below w.heap.size w w':=by
 obtain⟨W,hW⟩:∃ W,(w.alloc (.cells hc.toArray 269)).alloc (.cells ([.int .i64 (a:Int),.int .i64 (b:Int),.int .i64 (c:Int)]:List Value).toArray 265)=W:=⟨_,rfl⟩
 have B:Blk W w.heap.size hc 269:=by rw [← hW]; exact(Blk.new _ _ _).alloc _
 have B1:Blk W (w.heap.size+1) [.int .i64 (a:Int),.int .i64 (b:Int),.int .i64 (c:Int)] 265:=by
  have:=Blk.new (w.alloc (.cells hc.toArray 269)) [.int .i64 (a:Int),.int .i64 (b:Int),.int .i64 (c:Int)] 265; rw [← hW]; simpa using this
 have hbw:Below w.heap.size w W:=by rw [← hW]; exact((Below.refl _ _).alloc (Nat.le_refl _) _).alloc (by simp) _
 have hlen:=h.len
 have TURN:Hid (∀ n:Nat,n≤32→∀ w',Calls Tryz.prog 280 #[.agg hc.toArray,.int .u64 (m:Int),.int .i64 (n:Int)] w' fun e w''=>e=.returned (.int .u64 ((Sha.turn n m:Nat):Int))∧Below w'.heap.size w' w''):=Lib.hid fun n hn w'=>pturned_any hc h m n hm hn w'
 have l0:=load_F B hlen
 have i2:W.cell? ⟨w.heap.size+1,2,none⟩=some (.int .i64 (c:Int)):=B1.cell 2
 have HW:=Lib.hid hW
 clear hW
 obtain⟨z,hz1⟩:∃ z,Hid (Sha.lastOf c sh m=z):=⟨_,Lib.hid rfl⟩
 have HM:=Lib.hid (show Sha.mixed a b c sh m=Sha.turn a m ^^^ Sha.turn b m ^^^ z by rw [← hz1.out]; rfl)
 have ht1:=Sha.turn_lt hm a
 have ht2:=Sha.turn_lt hm b
 have ht3:z<4294967296:=by rw [← hz1.out]; exact Sha.lastOf_lt hm c sh
 have hx1:=u64_xor_nat (Sha.turn a m) (Sha.turn b m) (by omega) (by omega)
 have hx2:=u64_xor_nat (Sha.turn a m ^^^ Sha.turn b m) z (by have:=Sha.xor_lt ht1 ht2; omega) (by omega)
 obtain⟨u,hu⟩:∃ u,Sha.turn a m ^^^ Sha.turn b m=u:=⟨_,rfl⟩
 rw [hu] at hx1 hx2 HM
 obtain⟨r,hr⟩:∃ r,u ^^^ z=r:=⟨_,rfl⟩
 rw [hr] at hx2 HM
 clear hu hr ht1 ht2
 go_enter Tryz.func277,Tryz.ntmps277
 go_upto_region 1 with fail
 rw [show ((w.alloc (.cells hc.toArray 269)).alloc (.cells #[.int .i64 (a:Int),.int .i64 (b:Int),.int .i64 (c:Int)] 265))=W from HW.out]
 go_wp2_with fail
 refine(TURN.out c hcc _).mono ?_
 rintro e w1 ⟨rfl,hb1⟩
 have b1:=B.below hb1
 have b2:=B1.below hb1
 have hbw1:Below w.heap.size w w1:=hbw.trans (hb1.mono hbw.size)
 have f0:∀ p,(loadF (.pointer (some ⟨w.heap.size,0,none⟩))).run Tryz.prog (Batch.grew w1 p)=.ok (.agg hc.toArray) (Batch.grew w1 p):=fun p=>load_F (b1.below (Batch.grew_below w1 p)) hlen
 have f1:∀ p,(Batch.grew w1 p).cell? ⟨w.heap.size+1,0,none⟩=some (.int .i64 (a:Int)):=fun p=>(b2.below (Batch.grew_below w1 p)).cell 0
 have f2:∀ p,(Batch.grew w1 p).cell? ⟨w.heap.size+1,1,none⟩=some (.int .i64 (b:Int)):=fun p=>(b2.below (Batch.grew_below w1 p)).cell 1
 have i3:w1.cell? ⟨w.heap.size+1,2,none⟩=some (.int .i64 (c:Int)):=b2.cell 2
 clear l0 i2 HW B B1 b1 b2
 cases sh
 ·have HL:Sha.turn c m=z:=hz1.out
  rw [HL]; clear HL hz1; go_wp2_with fail
  refine Batch.wp_region_grew (by kernel_rfl) (by kernel_rfl) ?_; repeat (go_big_quiet_step (fail))
  go_big_quiet_step ((go_at_call 280; exact Batch.calls_grew (TURN.out a ha _)))
  repeat (go_big_quiet_step (fail))
  go_big_quiet_step ((go_at_call 280; exact Batch.calls_grew (TURN.out b hb _)))
  repeat (go_big_quiet_step (fail))
  refine wpQuiet_nil ?_; rintro _ ⟨p,rfl⟩; have hbp:=Batch.grew_below w1 p; generalize Batch.grew w1 p=w2 at *; go_wp2; go_ret; exact⟨ret_v (by rw [HM.out]; rfl),hbw1.trans (hbp.mono hbw1.size)⟩
 ·have HL:m / 2 ^ c=z:=by rw [← hz1.out]; exact(Sha.down_eq c m).symm
  have hsh:(m:Int) / 2 ^ c=(z:Int):=by rw [← HL,Int.natCast_ediv,Int.natCast_pow]; rfl
  clear HL hz1; go_wp2_with fail
  refine Batch.wp_region_grew (by kernel_rfl) (by kernel_rfl) ?_; repeat (go_big_quiet_step (fail))
  go_big_quiet_step ((go_at_call 280; exact Batch.calls_grew (TURN.out a ha _)))
  repeat (go_big_quiet_step (fail))
  go_big_quiet_step ((go_at_call 280; exact Batch.calls_grew (TURN.out b hb _)))
  repeat (go_big_quiet_step (fail))
  refine wpQuiet_nil ?_; rintro _ ⟨p,rfl⟩; have hbp:=Batch.grew_below w1 p; generalize Batch.grew w1 p=w2 at *; go_wp2; go_ret; exact⟨ret_v (by rw [HM.out]; rfl),hbw1.trans (hbp.mono hbw1.size)⟩
theorem pcut_any(x:Int) (w:World):Calls Tryz.prog 269 #[.int .u64 x] w fun e w'=>e=.returned (.int .u32 (IntKind.u32.wrap x))∧Below w.heap.size w w':=by
 go_enter Tryz.func269,Tryz.ntmps269
 go_wp2
 go_ret
 exact⟨rfl,Below.refl _ _⟩
end
section
open Go.RowKit Mem
namespace Sha
def sch (b:List UInt8) (t:Nat):List Nat:=if t≤16 then sched1 b t else sched2 b (t - 16)
theorem sch_len(b:List UInt8) (t:Nat):(sch b t).length=t:=by
 unfold sch
 split
 ·exact sched1_len b t
 ·rw [sched2_len]; omega
theorem sch_lo(b:List UInt8) {t:Nat} (h:t<16):sch b (t+1)=sch b t++[wordIn b t 4]:=by
 unfold sch
 rw [if_pos (by omega),if_pos (by omega)]
 rfl
theorem sch_hi(b:List UInt8) (u:Nat):sch b (u+16+1)=sch b (u+16)++[next (sch b (u+16)) u]:=by
 have e:sch b (u+16)=sched2 b u:=by
  unfold sch; split
  ·obtain rfl:u=0:=by omega
   rfl
  ·rfl
 rw [e]
 unfold sch
 rw [if_neg (by omega)]
 rfl
theorem sch_32(b:List UInt8) (t:Nat):All32 (sch b t):=by
 unfold sch
 split
 ·exact sched1_32 b t
 ·exact sched2_32 b _
theorem sch_end(b:List UInt8):sch b 64=sched2 b 48:=rfl
end Sha
def uv (l:List Nat):List Value:=l.map fun x:Nat=>Value.int .u32 (x:Int)
theorem uv_length(l:List Nat):(uv l).length=l.length:=by simp [uv]
theorem uv_at(l:List Nat) {k:Nat} (h:k<l.length):(uv l)[k]?=some (.int .u32 ((l.getD k 0:Nat):Int)):=by simp [uv,h]
theorem uv_set(l:List Nat) (k:Nat) (x:Nat):(uv l).set k (.int .u32 (x:Int))=uv (l.set k x):=by simp [uv,List.map_set]
theorem uv_one(l:List Nat):∀ u∈uv l,u.oneCell'=true:=by
 intro u hu
 simp only [uv,List.mem_map] at hu
 obtain⟨b,_,rfl⟩:=hu
 rfl
theorem infoU:(Tryz.prog.info? 228).map (fun i=>(i.zero,i.size,i.bytes))=some (some (.int .u32 0),1,4):=by kernel_rfl
theorem makeU(w:World) (n:Nat) (h:n≤100000):(Instr.makeSlice 290 (.int .i64 (n:Int)) (.int .i64 (n:Int))).run Tryz.prog w=.ok (.slice (some ⟨w.heap.size,0,none⟩) n n) (w.alloc (.cells (uv (List.replicate n 0)).toArray 228)):=by
 obtain⟨i0,hi,hz0,hz1,hz2⟩:=info_parts infoU
 have hr:=run_make (P:=Tryz.prog) w 290 228 i0 _ Tryz.underlying290 hi hz0 .i64 .i64 (n:Int) (n:Int) (by omega) (by omega) (by rw [hz2]; omega) (by omega)
 rw [hz1] at hr
 rw [show (uv (List.replicate n 0)).toArray=madeCells (.int .u32 0:Value).cells (n * 1) by rw [made_one _ rfl]; simp [uv]]
 exact hr
def fillM (ws:List Nat) (n:Nat):List Nat:=ws++List.replicate (n - ws.length) 0
theorem fillM_len(ws:List Nat) {n:Nat} (h:ws.length≤n):(fillM ws n).length=n:=by unfold fillM; simp; omega
theorem fillM_set(ws:List Nat) {n:Nat} (h:ws.length<n) (x:Nat):(fillM ws n).set ws.length x=fillM (ws++[x]) n:=by
 unfold fillM
 rw [List.set_append_right _ _ (Nat.le_refl _),Nat.sub_self,List.length_append]
 obtain⟨d,hd⟩:∃ d,n - ws.length=d+1:=⟨n - ws.length - 1,by omega⟩
 rw [hd,List.replicate_succ,show n - (ws.length+[x].length)=d by simp; omega]
 simp
theorem fillM_get(ws:List Nat) {n k:Nat} (h:k<ws.length):(fillM ws n).getD k 0=ws.getD k 0:=by
 unfold fillM
 rw [List.getD_eq_getElem?_getD,List.getD_eq_getElem?_getD,List.getElem?_append_left h]
theorem fillM_zero(ws:List Nat) {n:Nat} (h:ws.length<n):(fillM ws n).getD ws.length 0=0:=by
 unfold fillM
 rw [List.getD_eq_getElem?_getD,List.getElem?_append_right (Nat.le_refl _),Nat.sub_self]
 obtain⟨d,hd⟩:∃ d,n - ws.length=d+1:=⟨n - ws.length - 1,by omega⟩
 rw [hd]
 rfl
theorem size_A3:(Tryz.prog.info? 265).map (·.size)=some 3:=by kernel_rfl
def loadA3 (x:Value):Sem Value:=Instr.loadAt 265 x
theorem named_load_A3(x:Value):Instr.loadAt 265 x=loadA3 x:=rfl
attribute [go_sem ↓] named_load_A3
theorem load_A3{w:World} {g o:Nat} {a b c:Nat} {cs:List Value} {t:TypeId} (h:Blk w g cs t) (h0:cs[o]?=some (.int .i64 (a:Int))) (h1:cs[o+1]?=some (.int .i64 (b:Int))) (h2:cs[o+2]?=some (.int .i64 (c:Int))) :
  (loadA3 (.pointer (some ⟨g,o,none⟩))).run Tryz.prog w=.ok (.agg #[.int .i64 (a:Int),.int .i64 (b:Int),.int .i64 (c:Int)]) w:=by
 exact load_cells (P:=Tryz.prog) (T:=265) (k:=3) Tryz.underlying265 rfl size_A3 (cs:=[.int .i64 (a:Int),.int .i64 (b:Int),.int .i64 (c:Int)]) rfl fun j u hj=>by
  rw [h.cell]; match j,hj with
  | 0,hj=>rw [← hj]; exact h0
  | 1,hj=>rw [← hj]; exact h1
  | 2,hj=>rw [← hj]; exact h2
  | j+3,hj=>simp at hj
theorem form32:F32 formL:=⟨rfl,rfl,rfl,fun v hv=>by
 simp only [formL,List.mem_cons,List.not_mem_nil,or_false] at hv
 rcases hv with rfl|rfl|rfl|rfl|rfl|rfl|rfl|rfl|rfl|rfl|rfl|rfl|rfl|rfl <;> rfl⟩
theorem word_step(b:List UInt8) (t k:Nat) (hk:k<4):bits .or .u32 ((Sha.wordIn b t k:Int) * 256 % 4294967296) (((b.getD (4 * t+k) 0).toNat:Nat):Int)=((Sha.wordIn b t (k+1):Nat):Int):=by
 have h1:=Sha.wordIn_lt b t k
 have h2:=(b.getD (4 * t+k) 0).toNat_lt
 have h3:(256:Nat) ^ k≤256 ^ 3:=Nat.pow_le_pow_right (by omega) (by omega)
 have e:(Sha.wordIn b t k:Int) * 256 % 4294967296=((2 ^ 8 * Sha.wordIn b t k:Nat):Int):=by
  rw [Int.natCast_mul]; have:((2 ^ 8:Nat):Int)=256:=rfl; rw [this]; omega
 rw [e,u32_or_nat _ _ (by omega) (by omega),← Nat.two_pow_add_eq_or_of_lt (by omega)]
 show _=((Sha.wordIn b t k * 256+(b.getD (4 * t+k) 0).toNat:Nat):Int)
 omega
theorem prow_any(hc:List Value) (hF:hc=formL) (A:Option Addr) (c:Nat) (b:List UInt8) (w:World) (hb:Bs w w.heap.size A 64 b) (hcap:64≤c) :
  Calls Tryz.prog 276 #[.agg hc.toArray,.slice A 64 c] w fun e w'=>∃ g,e=.returned (.slice (some ⟨g,0,none⟩) 64 64)∧w.heap.size≤g∧Blk w' g (uv (Sha.sched2 b 48)) 228∧Below w.heap.size w w':=by
 have hf:F32 hc:=by rw [hF]; exact form32
 have HF:=Lib.hid hF
 clear hF
 have hbl:=hb.len
 obtain⟨blk,off,rfl,hblk,hx⟩:=vs_lit hb (by omega)
 obtain⟨W,hW⟩:∃ W,w.alloc (.cells hc.toArray 269)=W:=⟨_,rfl⟩
 have B:Blk W w.heap.size hc 269:=by rw [← hW]; exact Blk.new _ _ _
 have hbw:Below w.heap.size w W:=by rw [← hW]; exact(Below.refl _ _).alloc (Nat.le_refl _) _
 have hz:W.heap.size=w.heap.size+1:=by rw [← hW]; simp
 have hbits:=hf.bits
 have hmany:=hf.many
 have hmk:(Instr.makeSlice 290 (.int .i64 64) (.int .i64 64)).run Tryz.prog W=_:=makeU W 64 (by omega)
 have BG:=Blk.new W (uv (List.replicate 64 0)) 228
 have hb0:Below w.heap.size w (W.alloc (.cells (uv (List.replicate 64 0)).toArray 228)):=hbw.alloc hbw.size _
 have B0:=B.alloc (.cells (uv (List.replicate 64 0)).toArray 228)
 rw [hz] at hmk BG
 have i0:W.cell? ⟨w.heap.size,0,none⟩=some (.int .i64 32):=(B.cell 0).trans hbits
 have i1:W.cell? ⟨w.heap.size,1,none⟩=some (.int .i64 64):=(B.cell 1).trans hmany
 have i2:(W.alloc (.cells (uv (List.replicate 64 0)).toArray 228)).cell? ⟨w.heap.size,0,none⟩=some (.int .i64 32):=(B0.cell 0).trans hbits
 have HW:=Lib.hid hW
 obtain⟨W1,hW1⟩:∃ W1,W.alloc (.cells (uv (List.replicate 64 0)).toArray 228)=W1:=⟨_,rfl⟩
 rw [hW1] at hmk BG hb0 B0 i2
 clear hW hW1
 go_enter Tryz.func276,Tryz.ntmps276
 go_upto_region 1 with fail
 rw [HW.out]
 clear HW
 go_wp2_with fail
 go_loopw [7,9,10,11,20] (fun _ _ _ _ i wr=>∃ t:Nat,t≤64∧i=.int .i64 (t:Int)∧Below w.heap.size w wr∧Blk wr w.heap.size hc 269∧Blk wr (w.heap.size+1) (uv (fillM (Sha.sch b t) 64)) 228) (fun _ _ _ _ i _=>64 - (intOf i).toNat)
 case atStart=>exact⟨0,by omega,rfl,hb0,B0,BG⟩
 case round =>
  obtain⟨t,ht,rfl,hbr,B1,B2⟩:=hrel; obtain⟨wy,hwy⟩:∃ wy,wy=wr:=⟨_,rfl⟩; subst hwy; by_cases hlt:t<64
  ·by_cases h16:t<16
   ·have z0:wy.cell? ⟨w.heap.size,0,none⟩=some (.int .i64 32):=(B1.cell 0).trans hbits
    have hsl:=Sha.sch_len b t; have hfl:(fillM (Sha.sch b t) 64).length=64:=fillM_len _ (by omega); have hz0:(fillM (Sha.sch b t) 64).set t (Sha.wordIn b t 0)=fillM (Sha.sch b t) 64:=by
     have:=fillM_zero (Sha.sch b t) (n:=64) (by omega); rw [hsl] at this; apply List.ext_getElem?
     intro i; rw [List.getElem?_set]; split
     ·rename_i hi
      subst hi; rw [if_pos (by omega)]; rw [List.getD_eq_getElem?_getD,List.getElem?_eq_getElem (by omega)] at this; rw [List.getElem?_eq_getElem (by omega)]; simp only [Option.getD_some] at this; rw [this]; rfl
     ·rfl
    have HS:=Lib.hid (show fillM (Sha.sch b (t+1)) 64=(fillM (Sha.sch b t) 64).set t (Sha.wordIn b t 4) by
     rw [Sha.sch_lo b h16,← fillM_set _ (by omega),hsl])
    go_wp2_with fail
    go_loopw [9,35] (fun _ i wx=>∃ k:Nat,k≤4∧i=.int .i64 (k:Int)∧Below w.heap.size w wx∧Blk wx w.heap.size hc 269∧Blk wx (w.heap.size+1) (uv ((fillM (Sha.sch b t) 64).set t (Sha.wordIn b t k))) 228) (fun _ i _=>4 - (intOf i).toNat)
    case atStart=>exact⟨0,by omega,rfl,hbr,B1,by rw [hz0]; exact B2⟩
    case round =>
     obtain⟨k,hk,rfl,hbx,C1,C2⟩:=hrel; by_cases hk4:k<4
     ·have hby:wr.cell? ⟨blk,off+t * 4+k,none⟩=some (.int .u8 (((b.getD (4 * t+k) 0).toNat:Nat):Int)):=by
       rw [show off+t * 4+k=off+(4 * t+k) by omega]; exact(hbx.cell (p:=⟨blk,off+(4 * t+k),none⟩) hblk).trans (hx (4 * t+k) _ (by rw [bv_at,List.getElem?_eq_getElem (by omega)]; simp [List.getD_eq_getElem?_getD,List.getElem?_eq_getElem (show 4 * t+k<b.length by omega)]))
      have hcw:wr.cell? ⟨w.heap.size+1,t,none⟩=some (.int .u32 ((Sha.wordIn b t k:Nat):Int)):=(C2.cell t).trans (by rw [uv_at _ (by rw [List.length_set]; omega)]; simp [List.getD_eq_getElem?_getD,hfl,hlt])
      have hcf:wr.frozen? ⟨w.heap.size+1,t,none⟩=false:=C2.froz _; have hws:=word_step b t k hk4; have hz256:=(b.getD (4 * t+k) 0).toNat_lt; have hxlt:Sha.wordIn b t k<16777216:=by
       have h1:=Sha.wordIn_lt b t k; have h3:(256:Nat) ^ k≤256 ^ 3:=Nat.pow_le_pow_right (by omega) (by omega); omega
      have E2:=(C2.set t (.int .u32 ((Sha.wordIn b t (k+1):Nat):Int))); rw [uv_set,List.set_set] at E2; generalize (b.getD (4 * t+k) 0).toNat=z at *; generalize Sha.wordIn b t k=x at *; have e256:(x:Int) * 256 % 4294967296=(x:Int) * 256:=by omega
      rw [e256] at hws; clear e256; obtain⟨y,hy⟩:∃ y,Hid (Sha.wordIn b t (k+1)=y):=⟨_,Lib.hid rfl⟩; rw [hy.out] at hws E2; go_wp2_with fail
      go_roundw
      case rel=>exact⟨k+1,by omega,by go_num,hbx.setCell (by simp) _,C1.set_ne (by simp) _,by rw [hy.out]; exact E2⟩
      case measure=>simp [intOf]; omega
     ·obtain rfl:k=4:=by omega
      go_wp2_with fail
      go_roundw
      case rel=>exact⟨t+1,by omega,by go_num,hbx,C1,by rw [HS.out]; exact C2⟩
      case measure=>simp [intOf]; omega
   ·have h16':16≤t:=by omega
    have hsl:=Sha.sch_len b t; have h32:=Sha.sch_32 b t; have hfl:(fillM (Sha.sch b t) 64).length=64:=fillM_len _ (by omega); have hat:∀ k,k<t→wy.cell? ⟨w.heap.size+1,k,none⟩=some (.int .u32 (((Sha.sch b t).getD k 0:Nat):Int)):=fun k hk=>(B2.cell k).trans (by rw [uv_at _ (by omega),fillM_get _ (by omega)]); have hnx:Sha.sch b (t+1)=Sha.sch b t++[Sha.next (Sha.sch b t) (t - 16)]:=by
     have:=Sha.sch_hi b (t - 16); rw [show t - 16+16=t by omega] at this; exact this
    have hE:=fillM_set (Sha.sch b t) (n:=64) (by omega) (Sha.next (Sha.sch b t) (t - 16)); rw [hsl,← hnx] at hE; have hnext:Sha.next (Sha.sch b t) (t - 16)=((Sha.sch b t).getD (t - 16) 0+Sha.sig0 ((Sha.sch b t).getD (t - 15) 0)+(Sha.sch b t).getD (t - 7) 0+Sha.sig1 ((Sha.sch b t).getD (t - 2) 0)) % 4294967296:=by
     unfold Sha.next; rw [show t - 16+1=t - 15 by omega,show t - 16+9=t - 7 by omega,show t - 16+14=t - 2 by omega]
    have E2:∀ w',Blk w' (w.heap.size+1) (uv (fillM (Sha.sch b t) 64)) 228→Blk (w'.setCell ⟨w.heap.size+1,t,none⟩ (.int .u32 ((Sha.next (Sha.sch b t) (t - 16):Nat):Int))) (w.heap.size+1) (uv (fillM (Sha.sch b (t+1)) 64)) 228:=fun w' h=>by
     have:=h.set t (.int .u32 ((Sha.next (Sha.sch b t) (t - 16):Nat):Int)); rw [uv_set,hE] at this; exact this
    rw [hnext] at E2; have m15:=h32.at_ (t - 15); have m2:=h32.at_ (t - 2); have m16:=h32.at_ (t - 16); have m7:=h32.at_ (t - 7); have k15:=hat (t - 15) (by omega); have k2:=hat (t - 2) (by omega); have k16:=hat (t - 16) (by omega); have k7:=hat (t - 7) (by omega); have HE:=Lib.hid E2; have cf:wy.frozen? ⟨w.heap.size+1,t,none⟩=false:=B2.froz _; have hct:∃ v,(uv (fillM (Sha.sch b t) 64))[t]?=some v:=⟨_,uv_at _ (by omega)⟩; clear hat hnx hE hnext E2 hfl hsl h32; generalize (Sha.sch b t).getD (t - 15) 0=x15 at *; generalize (Sha.sch b t).getD (t - 2) 0=x2 at *; generalize (Sha.sch b t).getD (t - 16) 0=x16 at *; generalize (Sha.sch b t).getD (t - 7) 0=x7 at *; have f0:∀ p,(loadF (.pointer (some ⟨w.heap.size,0,none⟩))).run Tryz.prog (Batch.grew wy p)=.ok (.agg hc.toArray) (Batch.grew wy p):=fun p=>load_F (B1.below (Batch.grew_below wy p)) hf.len; have f1:∀ p,(loadA3 (.pointer (some ⟨w.heap.size,8,none⟩))).run Tryz.prog (Batch.grew wy p)=.ok (.agg #[.int .i64 ((7:Nat):Int),.int .i64 ((18:Nat):Int),.int .i64 ((3:Nat):Int)]) (Batch.grew wy p):=fun p=>load_A3 (B1.below (Batch.grew_below wy p)) (by rw [HF.out]; rfl) (by rw [HF.out]; rfl) (by rw [HF.out]; rfl)
    have f2:∀ p,(loadA3 (.pointer (some ⟨w.heap.size,11,none⟩))).run Tryz.prog (Batch.grew wy p)=.ok (.agg #[.int .i64 ((17:Nat):Int),.int .i64 ((19:Nat):Int),.int .i64 ((10:Nat):Int)]) (Batch.grew wy p):=fun p=>load_A3 (B1.below (Batch.grew_below wy p)) (by rw [HF.out]; rfl) (by rw [HF.out]; rfl) (by rw [HF.out]; rfl)
    have f3:∀ p,(Batch.grew wy p).cell? ⟨w.heap.size+1,t - 15,none⟩=some (.int .u32 (x15:Int)):=fun p=>(Batch.grew_cell (a:=⟨w.heap.size+1,t - 15,none⟩) B2.lt p).trans k15; have f4:∀ p,(Batch.grew wy p).cell? ⟨w.heap.size+1,t - 2,none⟩=some (.int .u32 (x2:Int)):=fun p=>(Batch.grew_cell (a:=⟨w.heap.size+1,t - 2,none⟩) B2.lt p).trans k2; have hA1:=fun p=>pall_any hc hf 7 18 3 x15 m15 (by omega) (by omega) (by omega) true (Batch.grew wy p); have hA2:=fun p=>pall_any hc hf 17 19 10 x2 m2 (by omega) (by omega) (by omega) true (Batch.grew wy p); have hs0:=Sha.mixed_lt m15 7 18 3 true; have hs1:=Sha.mixed_lt m2 17 19 10 true; have HE:Hid (∀ w',Blk w' (w.heap.size+1) (uv (fillM (Sha.sch b t) 64)) 228→Blk (w'.setCell ⟨w.heap.size+1,t,none⟩ (.int .u32 (((x16+Sha.mixed 7 18 3 true x15+x7+Sha.mixed 17 19 10 true x2) % 4294967296:Nat):Int))) (w.heap.size+1) (uv (fillM (Sha.sch b (t+1)) 64)) 228):=HE; generalize Sha.mixed 7 18 3 true x15=y0 at *; generalize Sha.mixed 17 19 10 true x2=y1 at *; have HA1:=Lib.hid hA1; have HA2:=Lib.hid hA2; clear hA1 hA2; go_upto_region 12 with fail
    refine Batch.wp_region_grew (by kernel_rfl) (by kernel_rfl) ?_; repeat (go_big_quiet_step (fail))
    go_big_quiet_step ((go_at_call 277; exact Batch.calls_grew (HA1.out _)))
    repeat (go_big_quiet_step (fail))
    go_big_quiet_step ((go_at_call 277; exact Batch.calls_grew (HA2.out _)))
    repeat (go_big_quiet_step (fail))
    refine wpQuiet_nil ?_; rintro _ ⟨p,rfl⟩; have hp:=Batch.grew_below wy p; clear f0 f1 f2 f3 f4 HA1 HA2 k15 k2; have D1:=B1.below hp; have D2:=B2.below hp; have hbp:Below w.heap.size w (Batch.grew wy p):=hbr.trans (hp.mono hbr.size); have q16:∀ p',(Batch.grew (Batch.grew wy p) p').cell? ⟨w.heap.size+1,t - 16,none⟩=some (.int .u32 (x16:Int)):=fun p'=>(Batch.grew_cell (a:=⟨w.heap.size+1,t - 16,none⟩) D2.lt p').trans ((Batch.grew_cell (a:=⟨w.heap.size+1,t - 16,none⟩) B2.lt p).trans k16); have q7:∀ p',(Batch.grew (Batch.grew wy p) p').cell? ⟨w.heap.size+1,t - 7,none⟩=some (.int .u32 (x7:Int)):=fun p'=>(Batch.grew_cell (a:=⟨w.heap.size+1,t - 7,none⟩) D2.lt p').trans ((Batch.grew_cell (a:=⟨w.heap.size+1,t - 7,none⟩) B2.lt p).trans k7); generalize Batch.grew wy p=wz at *; obtain⟨z,hz⟩:∃ z:Nat,(y0+y1) % 4294967296=z:=⟨_,rfl⟩; have hzlt:z<4294967296:=by omega
    have HC:Hid (∀ p',Calls Tryz.prog 269 #[.int .u64 ((y0:Int)+(y1:Int))] (Batch.grew wz p') fun e w'=>e=.returned (.int .u32 (z:Int))∧Below (Batch.grew wz p').heap.size (Batch.grew wz p') w'):=Lib.hid fun p'=>(pcut_any _ _).mono fun e w' ⟨he,hb⟩=>⟨by rw [he,← hz,IntKind.wrap_u32,Int.natCast_emod,Int.natCast_add]; rfl,hb⟩
    have HV:Hid (((((x16:Int)+(x7:Int))+(z:Int)) % 4294967296:Int)=(((x16+y0+x7+y1) % 4294967296:Nat):Int)):=Lib.hid (by omega); clear hz; go_upto_region 13 with fail
    refine Batch.wp_region_grew_tail 18 (by kernel_rfl) (by kernel_rfl) ?_; simp only [List.take_succ_cons,List.take_zero,List.drop_succ_cons,List.drop_zero]; repeat (go_big_quiet_step (fail))
    go_big_quiet_step ((go_at_call 269; exact Batch.calls_grew (HC.out _)))
    repeat (go_big_quiet_step (fail))
    refine wpQuiet_nil ?_; rintro _ ⟨px,rfl⟩; have hpx:=Batch.grew_below wz px; have F1:=D1.below hpx; have F2:=D2.below hpx; have cf:(Batch.grew wz px).frozen? ⟨w.heap.size+1,t,none⟩=false:=F2.froz _; have hbx:Below w.heap.size w (Batch.grew wz px):=hbp.trans (hpx.mono hbp.size); have hlt4:=F2.lt; obtain⟨vt,hvt⟩:=hct; have hct:(Batch.grew wz px).cell? ⟨w.heap.size+1,t,none⟩=some vt:=(F2.cell t).trans hvt; clear hvt; clear q16 q7 HC D1 D2; generalize Batch.grew wz px=w4 at *; have G2:=Lib.hid (HE.out w4 F2); go_wp2_with fail
    (try rw [Batch.Qn_normal])
    (try go_wp2)
    go_roundw
    case rel=>exact⟨t+1,by omega,by go_num,hbx.setCell (by simp) _,F1.set_ne (by simp) _,by first|exact G2.out|(rw [HV.out]; exact G2.out)⟩
    case measure=>simp [intOf]; omega
  ·obtain rfl:t=64:=by omega
   go_wp2_with fail
   go_ret; refine⟨_,rfl,by omega,?_,hbr⟩; have:fillM (Sha.sch b 64) 64=Sha.sched2 b 48:=by
    rw [Sha.sch_end]; unfold fillM; rw [Sha.sched2_len]; simp
   rw [this] at B2; exact B2
end
section
open Go.RowKit Mem
theorem size_A8:(Tryz.prog.info? 281).map (·.size)=some 8:=by kernel_rfl
def loadA8 (x:Value):Sem Value:=Instr.loadAt 281 x
def storeA8 (x v:Value):Sem Unit:=Instr.storeAt 281 x v
theorem named_load_A8(x:Value):Instr.loadAt 281 x=loadA8 x:=rfl
theorem named_store_A8(x v:Value):Instr.storeAt 281 x v=storeA8 x v:=rfl
attribute [go_sem ↓] named_load_A8 named_store_A8
theorem load_A8{w:World} {g:Nat} {cs:List Value} {t:TypeId} (h:Blk w g cs t) (hn:cs.length=8):(loadA8 (.pointer (some ⟨g,0,none⟩))).run Tryz.prog w=.ok (.agg cs.toArray) w:=by
 have:=run_load_arr (P:=Tryz.prog) w 281 g 0 8 _ Tryz.underlying281 rfl size_A8 (blk_has h hn)
 rw [blk_arr h hn] at this
 exact this
theorem store_A8{w:World} {g:Nat} {cs vs:List Value} {t:TypeId} (h:Blk w g cs t) (hn:cs.length=8) (hv:vs.length=8) (h1:∀ v∈vs,v.oneCell'=true) :
  (storeA8 (.pointer (some ⟨g,0,none⟩)) (.agg vs.toArray)).run Tryz.prog w=.ok () (w.setCells g 0 vs)∧Blk (w.setCells g 0 vs) g vs t:=by
 have h2:=run_store_arr (P:=Tryz.prog) w 281 g 0 8 size_A8 vs.toArray ⟨by simpa using hv,by simpa using h1⟩ (blk_has h hn) (fun j _=>h.froz _)
 have h3:=set_all vs w g 0 cs t h (by omega)
 simp [hv,← hn] at h3
 exact⟨h2,h3⟩
def plF (R s:List Nat) (i:Nat):List Nat:=Sha.plus R s i++R.drop i
theorem plF_len{R s:List Nat} (h:R.length=8) {i:Nat} (hi:i≤8):(plF R s i).length=8:=by unfold plF; rw [List.length_append,Sha.plus_len,List.length_drop]; omega
theorem plF_get{R s:List Nat} {i:Nat}:(plF R s i).getD i 0=R.getD i 0:=by
 unfold plF
 rw [List.getD_eq_getElem?_getD,List.getElem?_append_right (by rw [Sha.plus_len]; omega),Sha.plus_len,Nat.sub_self,List.getElem?_drop,Nat.add_zero,List.getD_eq_getElem?_getD]
theorem plF_set{R s:List Nat} (h:R.length=8) {i:Nat} (hi:i<8):(plF R s i).set i ((R.getD i 0+s.getD i 0) % 4294967296)=plF R s (i+1):=by
 unfold plF
 have e:(R.drop i).set 0 ((R.getD i 0+s.getD i 0) % 4294967296)=(R.getD i 0+s.getD i 0) % 4294967296::R.drop (i+1):=by
  rw [List.drop_eq_getElem_cons (show i<R.length by omega)]; rfl
 rw [List.set_append_right _ _ (by rw [Sha.plus_len]; omega),Sha.plus_len,Nat.sub_self,e]
 show _=(Sha.plus R s i++[(R.getD i 0+s.getD i 0) % 4294967296])++_
 rw [List.append_assoc]
 rfl
theorem iszU:(Tryz.prog.info? 228).map (·.size)=some 1:=by kernel_rfl
theorem list8{l:List Nat} (h:l.length=8):∃ a b c d e f g i,l=[a,b,c,d,e,f,g,i]:=by
 match l,h with
 | [a,b,c,d,e,f,g,i],_=>exact⟨a,b,c,d,e,f,g,i,rfl⟩
def Tab (KK:List Nat) (w:World):Prop:=∀ t,t<64→∃ v:Nat,w.cell? ⟨1,t,none⟩=some (.int .u64 (v:Int))∧v<18446744073709551616∧v / 4294967296=KK.getD t 0
theorem Tab.below{KK:List Nat} {w w':World} (h:Tab KK w) (hb:Below w.heap.size w w'):Tab KK w':=fun t ht=>by
 obtain⟨v,h1,h2⟩:=h t ht
 exact⟨v,(hb.cell (p:=⟨1,t,none⟩) (World.block_lt_of_cell? w _ h1)).trans h1,h2⟩
theorem pmix_any(hc:List Value) (hF:hc=formL) (s:List Nat) (hs8:s.length=8) (h32:Sha.All32 s) (A:Option Addr) (c:Nat) (b:List UInt8) (w:World) (hb:Bs w w.heap.size A 64 b) (hcap:64≤c) (KK:List Nat) (hT:Tab KK w) :
  Calls Tryz.prog 270 #[.agg hc.toArray,.agg (uv s).toArray,.slice A 64 c] w fun e w'=>e=.returned (.agg (uv (Sha.block KK s b)).toArray)∧Below w.heap.size w w':=by
 have hf:F32 hc:=by rw [hF]; exact form32
 obtain⟨Wd,hWd⟩:∃ Wd,Hid (Sha.sched2 b 48=Wd):=⟨_,Lib.hid rfl⟩
 have hwl:Wd.length=64:=by rw [← hWd.out]; exact Sha.sched2_len b 48
 unfold Sha.block
 rw [hWd.out]
 obtain⟨W,hW⟩:∃ W,((w.alloc (.cells hc.toArray 269)).alloc (.cells (uv s).toArray 281)).alloc (.cells (uv (List.replicate 8 0)).toArray 281)=W:=⟨_,rfl⟩
 have B0:Blk W w.heap.size hc 269:=by rw [← hW]; exact((Blk.new _ _ _).alloc _).alloc _
 have B1:Blk W (w.heap.size+1) (uv s) 281:=by
  have:=Blk.new (w.alloc (.cells hc.toArray 269)) (uv s) 281; rw [← hW]; exact Blk.alloc (by simpa using this) _
 have B2:Blk W (w.heap.size+2) (uv (List.replicate 8 0)) 281:=by
  have:=Blk.new ((w.alloc (.cells hc.toArray 269)).alloc (.cells (uv s).toArray 281)) (uv (List.replicate 8 0)) 281; rw [← hW]; simpa using this
 have hbw:Below w.heap.size w W:=by rw [← hW]; exact(((Below.refl _ _).alloc (Nat.le_refl _) _).alloc (by simp) _).alloc (by simp; omega) _
 have hz:W.heap.size=w.heap.size+3:=by rw [← hW]; simp
 have hus:(uv s).length=8:=by rw [uv_length]; exact hs8
 have l0:=load_A8 B1 hus
 have bn:=Blk.new W (uv (List.replicate 8 0)) 281
 obtain⟨hst,B3⟩:=store_A8 bn rfl hus (uv_one s)
 obtain⟨W1,hW1⟩:∃ W1,(W.alloc (.cells (uv (List.replicate 8 0)).toArray 281)).setCells W.heap.size 0 (uv s)=W1:=⟨_,rfl⟩
 have hcn:Chg [] W W1:=by rw [← hW1]; exact((Chg.refl _ _).alloc _).setCells _ (.inr (Nat.le_refl _))
 rw [hW1] at hst B3
 have e0:=B0.chg hcn (by simp)
 have e1:=B1.chg hcn (by simp)
 have e2:=B2.chg hcn (by simp)
 have hbW1:=hcn.below (fun _ h=>by cases h)
 have hbw1:Below w.heap.size w W1:=hbw.trans (hbW1.mono hbw.size)
 rw [hz] at hst B3
 have hrow:=prow_any hc hF A c b W1 (hb.next (Nat.le_refl _) hbw1 |>.mono hbw1.size) hcap
 rw [hWd.out] at hrow
 have hW32:Sha.All32 Wd:=by rw [← hWd.out]; exact Sha.sched2_32 b 48
 clear hWd
 have l1:=load_F e0 hf.len
 have HW:=Lib.hid hW
 have HF:=Lib.hid hF
 clear hW hW1 bn hcn hF
 go_enter Tryz.func270,Tryz.ntmps270
 go_upto_region 1 with fail
 rw [show (((w.alloc (.cells hc.toArray 269)).alloc (.cells (uv s).toArray 281)).alloc (.cells #[.int .u32 0,.int .u32 0,.int .u32 0,.int .u32 0,.int .u32 0,.int .u32 0,.int .u32 0,.int .u32 0] 281))=W from HW.out]
 have hst:(storeA8 (.pointer (some ⟨w.heap.size+3,0,none⟩)) (.agg (uv s).toArray)).run Tryz.prog (W.alloc (.cells #[.int .u32 0,.int .u32 0,.int .u32 0,.int .u32 0,.int .u32 0,.int .u32 0,.int .u32 0,.int .u32 0] 281))=.ok () W1:=hst
 go_wp2_with fail
 refine hrow.mono ?_
 rintro e w1 ⟨g,rfl,hg,B4,hb1⟩
 have f0:=e0.below hb1
 have f1:=e1.below hb1
 obtain⟨ZZ,hZZ⟩:∃ ZZ,Hid (uv (List.replicate 8 0)=ZZ):=⟨_,Lib.hid rfl⟩
 have hZl:ZZ.length=8:=by rw [← hZZ.out]; rfl
 have f2:=e2.below hb1
 rw [hZZ.out] at f2
 have f3:=B3.below hb1
 have hbr:Below w.heap.size w w1:=hbw1.trans (hb1.mono hbw1.size)
 have hg3:w.heap.size+4≤g:=by have:=B3.lt; omega
 clear hst
 clear hrow l0 l1 hst e0 e1 e2 B0 B1 B2 B3 HW hbW1 hb1
 go_wp2_with fail
 go_loopw [8,9,10,11,12,13,14,21] (fun _ _ _ _ _ _ _ i wr=>∃ t:Nat,t≤64∧i=.int .i64 (t:Int)∧Below w.heap.size w wr∧Blk wr w.heap.size hc 269∧Blk wr (w.heap.size+1) (uv s) 281∧Blk wr (w.heap.size+2) ZZ 281∧Blk wr (w.heap.size+3) (uv (Sha.steps KK Wd s t)) 281∧Blk wr g (uv Wd) 228) (fun _ _ _ _ _ _ _ i _=>64 - (intOf i).toNat)
 case atStart=>exact⟨0,by omega,rfl,hbr,f0,f1,f2,f3,B4⟩
 case round =>
  obtain⟨t,ht,rfl,hbx,C0,C1,C2,C3,C4⟩:=hrel; obtain⟨wy,hwy⟩:∃ wy,wy=wr:=⟨_,rfl⟩; subst hwy; by_cases hlt:t<64
  ·have cw:wy.cell? ⟨g,t,none⟩=some (.int .u32 ((Wd.getD t 0:Nat):Int)):=(C4.cell t).trans (uv_at _ (by omega))
   obtain⟨wt,hwt⟩:∃ wt,Hid (Wd.getD t 0=wt):=⟨_,Lib.hid rfl⟩; rw [hwt.out] at cw; have hf3:∀ p,(Batch.grew wy p).cell? ⟨w.heap.size,0,none⟩=some (.int .i64 32):=fun p=>(Batch.grew_cell (a:=⟨w.heap.size,0,none⟩) C0.lt p).trans ((C0.cell 0).trans hf.bits); obtain⟨vt,hv1,hv2,hv3⟩:=hT t hlt; have hv1b:=World.block_lt_of_cell? w _ hv1; have f5:∀ p,(Batch.grew wy p).cell? ⟨1,t,none⟩=some (.int .u64 (vt:Int)):=fun p=>((hbx.trans ((Batch.grew_below wy p).mono hbx.size)).cell (p:=⟨1,t,none⟩) hv1b).trans hv1; have HC:Hid (∀ p',Calls Tryz.prog 269 #[.int .u64 ((vt:Int) / 4294967296)] (Batch.grew wy p') fun e w'=>e=.returned (.int .u32 ((KK.getD t 0:Nat):Int))∧Below (Batch.grew wy p').heap.size (Batch.grew wy p') w'):=Lib.hid fun p'=>(pcut_any _ _).mono fun e w' ⟨he,hb⟩=>⟨by rw [he,← hv3,IntKind.wrap_u32]; congr 2; omega,hb⟩
   have hklt:KK.getD t 0<4294967296:=by omega
   have HS:=Lib.hid (show Sha.steps KK Wd s (t+1)=Sha.step (KK.getD t 0) (Wd.getD t 0) (Sha.steps KK Wd s t) from rfl); rw [hwt.out] at HS; clear hv1 hv3 hv1b; generalize KK.getD t 0=kt at *; go_upto_region 5 with fail
   refine Batch.wp_region_grew (by kernel_rfl) (by kernel_rfl) ?_; repeat (go_big_quiet_step (fail))
   go_big_quiet_step ((go_at_call 269; exact Batch.calls_grew (HC.out _)))
   repeat (go_big_quiet_step (fail))
   refine wpQuiet_nil ?_; rintro _ ⟨p,rfl⟩; have hbp:=Batch.grew_below wy p; have C0:=C0.below hbp; have C1:=C1.below hbp; have C2:=C2.below hbp; have C3:=C3.below hbp; have C4:=C4.below hbp; have hbx:Below w.heap.size w (Batch.grew wy p):=hbx.trans (hbp.mono hbx.size); have hsl:=Sha.steps_len hs8 KK Wd t; have hs32:=Sha.steps_32 h32 KK Wd t; have hwlt:wt<4294967296:=by rw [← hwt.out]; exact hW32.at_ t
   clear f5 hf3 HC cw hbp; generalize Batch.grew wy p=w2 at *; generalize Sha.steps KK Wd s t=R at *; obtain⟨r0,r1,r2,r3,r4,r5,r6,r7,rfl⟩:=list8 hsl; have m0:r0<4294967296:=hs32 _ (by simp); have m1:r1<4294967296:=hs32 _ (by simp); have m2:r2<4294967296:=hs32 _ (by simp); have m3:r3<4294967296:=hs32 _ (by simp); have m4:r4<4294967296:=hs32 _ (by simp); have m5:r5<4294967296:=hs32 _ (by simp); have m6:r6<4294967296:=hs32 _ (by simp); have m7:r7<4294967296:=hs32 _ (by simp); have HS2:Hid (Sha.steps KK Wd s (t+1)=[((r7+Sha.mixed 6 11 25 false r4+((r4 &&& r5) ^^^ ((4294967295 ^^^ r4) &&& r6))+kt+wt) % 4294967296+(Sha.mixed 2 13 22 false r0+((r0 &&& r1) ^^^ (r0 &&& r2) ^^^ (r1 &&& r2))) % 4294967296) % 4294967296,r0,r1,r2,(r3+(r7+Sha.mixed 6 11 25 false r4+((r4 &&& r5) ^^^ ((4294967295 ^^^ r4) &&& r6))+kt+wt) % 4294967296) % 4294967296,r4,r5,r6]):=HS; have hA1:=fun W'=>pall_any hc hf 6 11 25 r4 m4 (by omega) (by omega) (by omega) false W'; have hA2:=fun W'=>pall_any hc hf 2 13 22 r0 m0 (by omega) (by omega) (by omega) false W'; have n1:Sha.mixed 6 11 25 false r4<4294967296:=Sha.mixed_lt m4 6 11 25 false; have n2:Sha.mixed 2 13 22 false r0<4294967296:=Sha.mixed_lt m0 2 13 22 false; have x1:=u32_and_nat r4 r5 m4 m5; have x2:bits BinOp.xor IntKind.u32 (if IntKind.u32.signed=true then -1 else IntKind.u32.max) (r4:Int)=((4294967295 ^^^ r4:Nat):Int):=u32_xor_nat 4294967295 r4 (by omega) m4; have x2l:4294967295 ^^^ r4<4294967296:=Sha.xor_lt (by omega) m4; have x3:=u32_and_nat (4294967295 ^^^ r4) r6 x2l m6; have x1l:r4 &&& r5<4294967296:=Sha.and_lt m4; have x3l:(4294967295 ^^^ r4) &&& r6<4294967296:=Sha.and_lt x2l; have x4:=u32_xor_nat (r4 &&& r5) ((4294967295 ^^^ r4) &&& r6) x1l x3l; have x4l:=Sha.xor_lt x1l x3l; have y1:=u32_and_nat r0 r1 m0 m1; have y2:=u32_and_nat r0 r2 m0 m2; have y3:=u32_and_nat r1 r2 m1 m2; have y1l:r0 &&& r1<4294967296:=Sha.and_lt m0; have y2l:r0 &&& r2<4294967296:=Sha.and_lt m0; have y3l:r1 &&& r2<4294967296:=Sha.and_lt m1; have y4:=u32_xor_nat (r0 &&& r1) (r0 &&& r2) y1l y2l; have y4l:=Sha.xor_lt y1l y2l; have y5:=u32_xor_nat ((r0 &&& r1) ^^^ (r0 &&& r2)) (r1 &&& r2) y4l y3l; have y5l:=Sha.xor_lt y4l y3l; generalize Sha.mixed 6 11 25 false r4=b1 at *; generalize Sha.mixed 2 13 22 false r0=b0 at *; generalize (r4 &&& r5) ^^^ ((4294967295 ^^^ r4) &&& r6)=cx at *; generalize (4294967295 ^^^ r4) &&& r6=cx3 at *; generalize 4294967295 ^^^ r4=cx2 at *; generalize r4 &&& r5=cx1 at *; generalize (r0 &&& r1) ^^^ (r0 &&& r2) ^^^ (r1 &&& r2)=cy at *; generalize (r0 &&& r1) ^^^ (r0 &&& r2)=cy4 at *; generalize r0 &&& r1=cy1 at *; generalize r0 &&& r2=cy2 at *; generalize r1 &&& r2=cy3 at *; obtain⟨X,hX⟩:∃ X,(r7+b1+cx+kt+wt) % 4294967296=X:=⟨_,rfl⟩; obtain⟨Y,hY⟩:∃ Y,(b0+cy) % 4294967296=Y:=⟨_,rfl⟩; rw [hX,hY] at HS2; have hXl:X<4294967296:=by omega
   have hYl:Y<4294967296:=by omega
   have hXi:Hid ((((r7:Int)+b1+cx+kt) % 4294967296+wt) % 4294967296=(X:Int)):=Lib.hid (by omega); have hYi:Hid (((b0:Int)+cy) % 4294967296=(Y:Int)):=Lib.hid (by omega); have HA1:=Lib.hid hA1; have HA2:=Lib.hid hA2; have HC1:Hid (∀ W',Calls Tryz.prog 269 #[.int .u64 (b1:Int)] W' fun e w'=>e=.returned (.int .u32 (b1:Int))∧Below W'.heap.size W' w'):=Lib.hid fun W'=>(pcut_any _ _).mono fun e w' ⟨he,hb⟩=>⟨by rw [he,IntKind.wrap_u32]; congr 2; omega,hb⟩
   have HC2:Hid (∀ W',Calls Tryz.prog 269 #[.int .u64 (b0:Int)] W' fun e w'=>e=.returned (.int .u32 (b0:Int))∧Below W'.heap.size W' w'):=Lib.hid fun W'=>(pcut_any _ _).mono fun e w' ⟨he,hb⟩=>⟨by rw [he,IntKind.wrap_u32]; congr 2; omega,hb⟩
   have K0:∀ W',Below w2.heap.size w2 W'→∀ i v,(uv [r0,r1,r2,r3,r4,r5,r6,r7])[i]?=some v→W'.cell? ⟨w.heap.size+3,i,none⟩=some v:=fun W' hb i v h=>((C3.below hb).cell i).trans h; clear hA1 hA2 HS hX hY hsl hs32 hW32; have a0:∀ p,(Batch.grew w2 p).cell? ⟨w.heap.size+3,0,none⟩=some (.int .u32 (r0:Int)):=fun p=>K0 _ (Batch.grew_below w2 p) 0 _ rfl; have a4:∀ p,(Batch.grew w2 p).cell? ⟨w.heap.size+3,4,none⟩=some (.int .u32 (r4:Int)):=fun p=>K0 _ (Batch.grew_below w2 p) 4 _ rfl; go_upto_region 6 with fail
   refine Batch.wp_region_grew (by kernel_rfl) (by kernel_rfl) ?_; repeat (go_big_quiet_step (fail))
   refine wpQuiet_nil ?_; rintro _ ⟨p,rfl⟩; have hb3:=Batch.grew_below w2 p; clear a0 a4; generalize Batch.grew w2 p=w3 at *; have B3':∀ p,Below w2.heap.size w2 (Batch.grew w3 p):=fun p=>hb3.trans ((Batch.grew_below w3 p).mono hb3.size); have a5:∀ p,(Batch.grew w3 p).cell? ⟨w.heap.size+3,5,none⟩=some (.int .u32 (r5:Int)):=fun p=>K0 _ (B3' p) 5 _ rfl; have a6:∀ p,(Batch.grew w3 p).cell? ⟨w.heap.size+3,6,none⟩=some (.int .u32 (r6:Int)):=fun p=>K0 _ (B3' p) 6 _ rfl; have a7:∀ p,(Batch.grew w3 p).cell? ⟨w.heap.size+3,7,none⟩=some (.int .u32 (r7:Int)):=fun p=>K0 _ (B3' p) 7 _ rfl; have aF:∀ p,(loadF (.pointer (some ⟨w.heap.size,0,none⟩))).run Tryz.prog (Batch.grew w3 p)=.ok (.agg hc.toArray) (Batch.grew w3 p):=fun p=>load_F (C0.below (B3' p)) hf.len; have aA:∀ p,(loadA3 (.pointer (some ⟨w.heap.size,5,none⟩))).run Tryz.prog (Batch.grew w3 p)=.ok (.agg #[.int .i64 ((6:Nat):Int),.int .i64 ((11:Nat):Int),.int .i64 ((25:Nat):Int)]) (Batch.grew w3 p):=fun p=>load_A3 (C0.below (B3' p)) (by rw [HF.out]; rfl) (by rw [HF.out]; rfl) (by rw [HF.out]; rfl)
   go_upto_region 7 with fail
   refine Batch.wp_region_grew (by kernel_rfl) (by kernel_rfl) ?_; repeat (go_big_quiet_step (fail))
   go_big_quiet_step ((go_at_call 277; exact Batch.calls_grew (HA1.out _)))
   repeat (go_big_quiet_step (fail))
   go_big_quiet_step ((go_at_call 269; exact Batch.calls_grew (HC1.out _)))
   repeat (go_big_quiet_step (fail))
   refine wpQuiet_nil ?_; rintro _ ⟨p,rfl⟩; rw [hXi.out]; have hb4:=B3' p; clear a5 a6 a7 aF aA B3' HA1 HC1 x1 x2 x3 x4; generalize Batch.grew w3 p=w4 at *; have B4':∀ p,Below w2.heap.size w2 (Batch.grew w4 p):=fun p=>hb4.trans ((Batch.grew_below w4 p).mono hb4.size); have a1:∀ p,(Batch.grew w4 p).cell? ⟨w.heap.size+3,1,none⟩=some (.int .u32 (r1:Int)):=fun p=>K0 _ (B4' p) 1 _ rfl; have a2:∀ p,(Batch.grew w4 p).cell? ⟨w.heap.size+3,2,none⟩=some (.int .u32 (r2:Int)):=fun p=>K0 _ (B4' p) 2 _ rfl; have aF:∀ p,(loadF (.pointer (some ⟨w.heap.size,0,none⟩))).run Tryz.prog (Batch.grew w4 p)=.ok (.agg hc.toArray) (Batch.grew w4 p):=fun p=>load_F (C0.below (B4' p)) hf.len; have aA:∀ p,(loadA3 (.pointer (some ⟨w.heap.size,2,none⟩))).run Tryz.prog (Batch.grew w4 p)=.ok (.agg #[.int .i64 ((2:Nat):Int),.int .i64 ((13:Nat):Int),.int .i64 ((22:Nat):Int)]) (Batch.grew w4 p):=fun p=>load_A3 (C0.below (B4' p)) (by rw [HF.out]; rfl) (by rw [HF.out]; rfl) (by rw [HF.out]; rfl)
   go_upto_region 8 with fail
   refine Batch.wp_region_grew (by kernel_rfl) (by kernel_rfl) ?_; repeat (go_big_quiet_step (fail))
   go_big_quiet_step ((go_at_call 277; exact Batch.calls_grew (HA2.out _)))
   repeat (go_big_quiet_step (fail))
   go_big_quiet_step ((go_at_call 269; exact Batch.calls_grew (HC2.out _)))
   repeat (go_big_quiet_step (fail))
   refine wpQuiet_nil ?_; rintro _ ⟨p,rfl⟩; rw [hYi.out]; have hb5:=B4' p; clear a1 a2 aF aA B4' HA2 HC2 y1 y2 y3 y4 y5; generalize Batch.grew w4 p=w5 at *; go_upto_region 9 with fail
   refine Batch.wp_region_grew_tail 2 (by kernel_rfl) (by kernel_rfl) ?_; simp only [List.take_succ_cons,List.take_zero,List.drop_succ_cons,List.drop_zero]; repeat (go_big_quiet_step (fail))
   refine wpQuiet_nil ?_; rintro _ ⟨p,rfl⟩; have hb6:Below w2.heap.size w2 (Batch.grew w5 p):=hb5.trans ((Batch.grew_below w5 p).mono hb5.size); clear hb3 hb4 hb5; generalize Batch.grew w5 p=w6 at *; have D0:=C0.below hb6; have D1:=C1.below hb6; have D2:=C2.below hb6; have D3:=C3.below hb6; have D4:=C4.below hb6; have hbw6:Below w.heap.size w w6:=hbx.trans (hb6.mono hbx.size); have hcp:∀ ty,(Builtin.copy_ #[290,290] ty #[.slice (some ⟨w.heap.size+3,1,none⟩) 7 7,.slice (some ⟨w.heap.size+3,0,none⟩) 7 8]).run Tryz.prog w6=.ok (goInt 7) (w6.setRow (w.heap.size+3) (uv [r0,r0,r1,r2,r3,r4,r5,r6]).toArray):=fun ty =>
    run_copyK (m:=7) (k:=1) (cs:=uv [r0,r1,r2,r3,r4,r5,r6]) Tryz.underlying290 iszU D3 rfl rfl (fun j v hj=>by
     have hlt:j<7:=by
      have:=(List.getElem?_eq_some_iff.1 hj).1; rw [uv_length] at this; exact this
     rw [show (⟨w.heap.size+3,0,none⟩:Addr).add j=⟨w.heap.size+3,j,none⟩ by simp [Addr.add]; omega,D3.cell]
     rw [← hj]; match j,hlt with
     | 0,_=>rfl
     | 1,_=>rfl
     | 2,_=>rfl
     | 3,_=>rfl
     | 4,_=>rfl
     | 5,_=>rfl
     | 6,_=>rfl) (by simp [uv]) (uv_one _)
   obtain⟨w7,hw7⟩:∃ w7,w6.setRow (w.heap.size+3) (uv [r0,r0,r1,r2,r3,r4,r5,r6]).toArray=w7:=⟨_,rfl⟩; have E3:Blk w7 (w.heap.size+3) (uv [r0,r0,r1,r2,r3,r4,r5,r6]) 281:=by rw [← hw7]; exact D3.setRow
   have oth:∀ {g':Nat} {M:List Value} {e:TypeId},Blk w6 g' M e→g'≠w.heap.size+3→Blk w7 g' M e:=fun h hne=>by
    rw [← hw7]; unfold Blk at *; rw [setRow_other _ _ _ _ hne]; exact h
   have E0:=oth D0 (by omega); have E1:=oth D1 (by omega); have E2:=oth D2 (by omega); have E4:=oth D4 (by omega); have hbw7:Below w.heap.size w w7:=by
    rw [← hw7]; exact⟨hbw6.os,hbw6.tape,hbw6.output,by simp [World.setRow]; exact hbw6.size,fun i hi=>by rw [setRow_other _ _ _ _ (by omega)]; exact hbw6.block i hi⟩
   rw [hw7] at hcp; have s4:w7.cell? ⟨w.heap.size+3,4,none⟩=some (.int .u32 (r3:Int)):=E3.cell 4; have s0:w7.cell? ⟨w.heap.size+3,0,none⟩=some (.int .u32 (r0:Int)):=E3.cell 0; have z4:w7.frozen? ⟨w.heap.size+3,4,none⟩=false:=E3.froz 4; have z0:w7.frozen? ⟨w.heap.size+3,0,none⟩=false:=E3.froz 0; have G3:=(E3.set 4 (.int .u32 (((r3+X) % 4294967296:Nat):Int))).set 0 (.int .u32 (((X+Y) % 4294967296:Nat):Int)); have G3':=Lib.hid (show Blk ((w7.setCell ⟨w.heap.size+3,4,none⟩ (.int .u32 (((r3+X) % 4294967296:Nat):Int))).setCell ⟨w.heap.size+3,0,none⟩ (.int .u32 (((X+Y) % 4294967296:Nat):Int))) (w.heap.size+3) (uv (Sha.steps KK Wd s (t+1))) 281 by rw [HS2.out]; exact G3)
   have q1:((r3:Int)+X) % 4294967296=(((r3+X) % 4294967296:Nat):Int):=by omega
   have q2:((X:Int)+Y) % 4294967296=(((X+Y) % 4294967296:Nat):Int):=by omega
   have hw7s:=E3.lt; clear K0 C0 C1 C2 C3 C4 D0 D1 D2 D3 D4 oth hw7 hb6 hbx hbw6 G3 HS2 hXi hYi; generalize (r3+X) % 4294967296=V4 at *; generalize (X+Y) % 4294967296=V0 at *; go_wp2_with (at_builtin; refine wpList_copyR _ rfl _ _ 290 290 rfl _ _ rfl rfl (hcp _) ?_)
   (try rw [Batch.Qn_normal])
   (try go_wp2)
   go_roundw
   case rel=>exact⟨t+1,by omega,by go_num,(hbw7.setCell (by simp) _).setCell (by simp) _,(E0.set_ne (by simp) _).set_ne (by simp) _,(E1.set_ne (by simp) _).set_ne (by simp) _,(E2.set_ne (by simp) _).set_ne (by simp) _,by first|exact G3'.out|(rw [← q1,← q2] at G3'; exact G3'.out),(E4.set_ne (by simp; omega) _).set_ne (by simp; omega) _⟩
   case measure=>simp [intOf]; omega
  ·obtain rfl:t=64:=by omega
   have hRl:=Sha.steps_len hs8 KK Wd 64; have hR32:=Sha.steps_32 h32 KK Wd 64; obtain⟨R,hR⟩:∃ R,Hid (Sha.steps KK Wd s 64=R):=⟨_,Lib.hid rfl⟩; rw [hR.out] at hRl hR32 C3; have C3':Blk wy (w.heap.size+3) (uv (plF R s 0)) 281:=C3; clear C3 hW32 hwl hT B4 f0 f1 f2 f3; go_wp2_with fail
   go_loopw [15,101] (fun _ i wr=>∃ j:Nat,j≤8∧i=.int .i64 (j:Int)∧Below w.heap.size w wr∧Blk wr (w.heap.size+1) (uv s) 281∧Blk wr (w.heap.size+2) ZZ 281∧Blk wr (w.heap.size+3) (uv (plF R s j)) 281) (fun _ i _=>8 - (intOf i).toNat)
   case atStart=>exact⟨0,by omega,rfl,hbx,C1,C2,C3'⟩
   case round =>
    obtain⟨j,hj,rfl,hbz,F1,F2,F3⟩:=hrel; obtain⟨wz,hwz⟩:∃ wz,wz=wr:=⟨_,rfl⟩; subst hwz; by_cases hjl:j<8
    ·have hpl:=plF_len (s:=s) hRl (i:=j) (by omega)
     have hmR:=hR32.at_ j; have hmS:=h32.at_ j; have g3:∀ W',Below wz.heap.size wz W'→W'.cell? ⟨w.heap.size+3,j,none⟩=some (.int .u32 ((R.getD j 0:Nat):Int)):=fun W' hb=>((F3.below hb).cell j).trans (by rw [uv_at _ (by omega),plF_get]); have g1:∀ W',Below wz.heap.size wz W'→W'.cell? ⟨w.heap.size+1,j,none⟩=some (.int .u32 ((s.getD j 0:Nat):Int)):=fun W' hb=>((F1.below hb).cell j).trans (uv_at _ (by omega)); have gs:Hid (∀ W',Blk W' (w.heap.size+3) (uv (plF R s j)) 281→Blk (W'.setCell ⟨w.heap.size+3,j,none⟩ (.int .u32 (((R.getD j 0+s.getD j 0) % 4294967296:Nat):Int))) (w.heap.size+3) (uv (plF R s (j+1))) 281):=Lib.hid fun W' h=>by
      have:=h.set j (.int .u32 (((R.getD j 0+s.getD j 0) % 4294967296:Nat):Int)); rw [uv_set,plF_set hRl hjl] at this; exact this
     generalize R.getD j 0=x at *; generalize s.getD j 0=y at *; have k3:∀ p,(Batch.grew wz p).cell? ⟨w.heap.size+3,j,none⟩=some (.int .u32 (x:Int)):=fun p=>g3 _ (Batch.grew_below wz p); have k1:∀ p,(Batch.grew wz p).cell? ⟨w.heap.size+1,j,none⟩=some (.int .u32 (y:Int)):=fun p=>g1 _ (Batch.grew_below wz p); have qv:((x:Int)+y) % 4294967296=(((x+y) % 4294967296:Nat):Int):=by omega
     clear g1 hpl hmR; go_upto_region 16 with fail
     refine Batch.wp_region_grew_tail 8 (by kernel_rfl) (by kernel_rfl) ?_; simp only [List.take_succ_cons,List.take_zero,List.drop_succ_cons,List.drop_zero]; repeat (go_big_quiet_step (fail))
     refine wpQuiet_nil ?_; rintro _ ⟨p,rfl⟩; have hbp:=Batch.grew_below wz p; have kc:=k3 p; have G1:=F1.below hbp; have G2:=F2.below hbp; have G3:=F3.below hbp; have hbq:Below w.heap.size w (Batch.grew wz p):=hbz.trans (hbp.mono hbz.size); have kf:(Batch.grew wz p).frozen? ⟨w.heap.size+3,j,none⟩=false:=G3.froz _; have hG3:=Lib.hid (gs.out _ G3); have hlt3:=G3.lt; clear k3 k1 g3 F1 F2 F3; generalize Batch.grew wz p=wq at *; generalize (x+y) % 4294967296=xy at *; go_wp2_with fail
     (try rw [Batch.Qn_normal])
     (try go_wp2)
     go_roundw
     case rel=>exact⟨j+1,by omega,by go_num,hbq.setCell (by simp) _,G1.set_ne (by simp) _,G2.set_ne (by simp) _,by first|exact hG3.out|(rw [qv]; exact hG3.out)⟩
     case measure=>simp [intOf]; omega
    ·obtain rfl:j=8:=by omega
     have hpl:=plF_len (s:=s) hRl (i:=8) (by omega); have hpe:plF R s 8=Sha.plus R s 8:=by
      unfold plF; rw [List.drop_of_length_le (by omega),List.append_nil]
     rw [hpe] at F3 hpl; clear hpe; have hld:=load_A8 F3 (by rw [uv_length]; exact hpl)
     obtain⟨hst,hSt⟩:=store_A8 F2 hZl (vs:=uv (Sha.plus R s 8)) (by rw [uv_length]; exact hpl) (uv_one _)
     obtain⟨wf,hwf⟩:∃ wf,wz.setCells (w.heap.size+2) 0 (uv (Sha.plus R s 8))=wf:=⟨_,rfl⟩; have hbf:Below w.heap.size w wf:=by
      rw [← hwf]; exact((Chg.of_below (S:=[]) hbz).setCells _ (.inr (by omega))).below (by simp)
     rw [hwf] at hst hSt; have hHh:Has wf (w.heap.size+2) 0 8:=blk_has hSt (by rw [uv_length]; exact hpl)
     have hA:=blk_arr hSt (n:=8) (by rw [uv_length]; exact hpl)
     clear hwf; go_wp2; refine bodyPost_ret (results_arr (P:=Tryz.prog) Tryz.results270 _ _ (w.heap.size+2) 0 8 _ rfl Tryz.underlying281 rfl size_A8 hHh) rfl ?_; exact⟨by rw [hA,← hR.out],hbf⟩
end
section
open Go.RowKit Mem
def FirstOk (FF:List Nat) (fv:List Value):Prop:=fv.length=8∧∀ j,j<8→∃ v:Nat,fv[j]?=some (.int .u64 (v:Int))∧v<18446744073709551616∧v / 4294967296=FF.getD j 0
theorem index_u64(fv:List Value) (W:World) (j:Nat) (v:Value) (hj:j<8) (h:fv[j]?=some v):(Instr.index 282 (.agg fv.toArray) (.int .i64 (j:Int))).run Tryz.prog W=.ok v W:=by
 have h1:(Go.sizeOf 151).run Tryz.prog W=.ok 1 W:=by kernel_rfl
 have h2:(Go.isAgg 151).run Tryz.prog W=.ok false W:=by kernel_rfl
 have h3:(0:Int)≤(j:Int)∧(j:Int)<((8:Nat):Int):=by omega
 unfold Instr.index
 simp only [asIntOf,Sem.run_bind,Sem.run_pure,run_underlying Tryz.underlying282,Result.andThen_ok,if_pos h3,h1,Go.part,h2,Bool.false_eq_true,if_false,Int.toNat_natCast,Nat.mul_one,List.getElem?_toArray,h]
theorem index_u32(fv:List Value) (W:World) (j:Nat) (v:Value) (hj:j<8) (h:fv[j]?=some v):(Instr.index 281 (.agg fv.toArray) (.int .i64 (j:Int))).run Tryz.prog W=.ok v W:=by
 have h1:(Go.sizeOf 228).run Tryz.prog W=.ok 1 W:=by kernel_rfl
 have h2:(Go.isAgg 228).run Tryz.prog W=.ok false W:=by kernel_rfl
 have h3:(0:Int)≤(j:Int)∧(j:Int)<((8:Nat):Int):=by omega
 unfold Instr.index
 simp only [asIntOf,Sem.run_bind,Sem.run_pure,run_underlying Tryz.underlying281,Result.andThen_ok,if_pos h3,h1,Go.part,h2,Bool.false_eq_true,if_false,Int.toNat_natCast,Nat.mul_one,List.getElem?_toArray,h]
theorem rem_pow(n:Nat):∀ j,Sha.rem n j=n / 2 ^ (8 * j)
 | 0=>by simp [Sha.rem]
 | j+1=>by
  rw [Sha.rem,rem_pow n j,Nat.div_div_eq_div_mul,show (256:Nat)=2 ^ 8 from rfl,← Nat.pow_add]; rfl
theorem be_at:∀ (k n q:Nat),q<k→(Sha.be k n)[q]?=some (UInt8.ofNat (Sha.rem n (k - 1 - q) % 256))
 | 0,_,_,h=>by omega
 | k+1,n,0,_=>rfl
 | k+1,n,q+1,h=>by
  rw [Sha.be,List.getElem?_cons_succ,be_at k n q (by omega),show k+1 - 1 - (q+1)=k - 1 - q by omega]
theorem be_more(k n q:Nat) (h:q<k) (s:Nat) (hs:s=8 * (k - 1 - q)):bv ((Sha.be k n).take q)++[.int .u8 ((n / 2 ^ s % 256:Nat):Int)]=bv ((Sha.be k n).take (q+1)):=by
 rw [List.take_add_one,be_at k n q h,bv_append,rem_pow,← hs]
 simp [bv]
theorem psum_any(hc:List Value) (hF:hc=formL) (KK FF:List Nat) (A:Option Addr) (c n:Nat) (d:List UInt8) (w:World) (hd:Bs w w.heap.size A n d) (hn:n≤1000000) (hT:Tab KK w) (hFl:FF.length=8) (hF32:Sha.All32 FF) (fv:List Value) (hfv:FirstOk FF fv)
  (hfirst:∀ W',Calls Tryz.prog 268 #[] W' fun e w'=>e=.returned (.agg fv.toArray)∧Below W'.heap.size W' w') :
  Calls Tryz.prog 256 #[.agg hc.toArray,.slice A n c] w fun e w'=>∃ A' c',e=.returned (.slice A' 32 c')∧32≤c'∧w'.ownsRow w.heap.size 5 1 (.slice A' 32 c') 32 (bv (Sha.sum KK FF d))∧Below w.heap.size w w':=by
 obtain⟨i0,hi,hz0,hz1,hz2⟩:=info_parts infoB
 have hf:F32 hc:=by rw [hF]; exact form32
 have HDL:=Lib.hid hd.len
 obtain⟨W,hW⟩:∃ W,w.alloc (.cells hc.toArray 269)=W:=⟨_,rfl⟩
 have BH:Blk W w.heap.size hc 269:=by rw [← hW]; exact Blk.new _ _ _
 have hbW:Below w.heap.size w W:=by rw [← hW]; exact(Below.refl _ _).alloc (Nat.le_refl _) _
 have hWs:w.heap.size≤W.heap.size:=hbW.size
 have hdW:Bs W W.heap.size A n d:=vs_below hd hbW
 have f0:∀ p,(Batch.grew W p).cell? ⟨w.heap.size,0,none⟩=some (.int .i64 32):=fun p=>((BH.below (Batch.grew_below W p)).cell 0).trans hf.bits
 have HW:=Lib.hid hW
 have HF:=Lib.hid hF
 have h63:0+n≤maxLen:=by unfold maxLen; omega
 have h63b:n+1≤maxLen:=by unfold maxLen; omega
 clear hW hd hF
 go_enter Tryz.func256,Tryz.ntmps256
 go_upto_region 1 with fail
 rw [HW.out]
 refine Batch.wp_region_grew (by kernel_rfl) (by kernel_rfl) ?_
 repeat (go_big_quiet_step (fail))
 refine wpQuiet_nil ?_
 rintro _ ⟨p,rfl⟩
 have hbp:=Batch.grew_below W p
 have BH:=BH.below hbp
 have hdW:=vs_below hdW hbp
 have hbW:Below w.heap.size w (Batch.grew W p):=hbW.trans (hbp.mono hbW.size)
 have hWs:w.heap.size≤(Batch.grew W p).heap.size:=hbW.size
 clear f0 HW
 generalize Batch.grew W p=W1 at *
 have hN0:(W1.alloc (.cells #[] 5)).ownsRow W1.heap.size 5 1 (.slice (some ⟨W1.heap.size,0,none⟩) 0 0) 0 []:=own_of_row (M:=[]) (Nat.le_refl _) (Blk.new W1 [] 5) (Nat.le_refl _) (by omega) rfl rfl
 have hbN:Below W1.heap.size W1 (W1.alloc (.cells #[] 5)):=(Below.refl _ _).alloc (Nat.le_refl _) _
 have hdN:=vs_below hdW hbN
 have hB0:=hbN.size
 have hzN:(W1.alloc (.cells #[] 5)).heap.size=W1.heap.size+1:=by simp
 go_upto_region 2 with fail
 go_wp2_with (at_builtin; go_must (refine wpList_append (W1.alloc (.cells #[] 5)) rfl (.tmp 23) (.tmp 24) 62 rfl W1.heap.size 5 i0 (.int .u8 0) 1 1 Tryz.underlying62 hi hz0 hz1 hz2 rfl (by omega) _ 0 [] rfl hN0 _ _ n _ _ rfl hdN (bv_oneCell _) h63 (by omega) hB0 ?_))
 intro A5 c5 w5 hown5 g5 g5' hgr
 have hb5:Below W1.heap.size W1 w5:=Mem.below_grown hbN hgr hB0 hN0
 have hown5:w5.ownsRow W1.heap.size 5 1 (.slice A5 n c5) n (bv d):=by simpa using hown5
 have hB1:W1.heap.size≤w5.heap.size:=hb5.size
 clear hgr hdW hdN hN0 hbN hB0 hzN
 go_wp2_with (at_builtin; go_must (refine wpList_push rfl (.tmp 26) (.tmp 27) 62 rfl W1.heap.size i0 (.int .u8 0) 1 Tryz.underlying62 hi hz0 hz1 hz2 rfl _ _ _ rfl hown5 rfl rfl h63b (by omega) hB1 ?_))
 intro A6 c6 w6 hown6 g6 g6' hgr6
 have hb6:=below_push hb5 hgr6 hB1 hown5 (Nat.le_refl _)
 have hown6:w6.ownsRow W1.heap.size 5 1 (.slice A6 (n+1) c6) (n+1) (bv (sha_pad d 0)):=by rw [← pad_zero]; exact hown6
 clear hown5 hgr6 hb5 hB1 g5 g5' g6 g6' h63 h63b
 go_wp2_with fail
 go_loopw [7] (fun v wr=>∃ (z k:Nat) (A5:Option Addr) (c5:Nat),z≤Sha.zeros n∧Hid (k=n+1+z)∧k≤n+65∧v=.slice A5 k c5∧Below W1.heap.size W1 wr∧wr.ownsRow W1.heap.size 5 1 (.slice A5 k c5) k (bv (sha_pad d z))) (fun v _=>n+66 - lenV v)
 case atStart=>exact⟨0,n+1,A6,c6,by omega,Lib.hid rfl,by omega,rfl,hb6,hown6⟩
 case round =>
  clear hown6 hb6; obtain⟨z,k,A5,c5,hz,HK,hk,rfl,hbr,hown⟩:=hrel; have hm1:(k:Int)+8≤2000000:=by omega
  have hm0:(0:Int)≤(k:Int):=by omega
  by_cases hzl:z<Sha.zeros n
  ·obtain⟨r,hr0,hr⟩:=zeros_more HK.out hzl
   obtain⟨r2,hr2⟩:∃ r2,k % 64=r2:=⟨_,rfl⟩; have hr3:r2≠56:=by omega
   have ht:Int.tmod (k:Int) 64=(r2:Int):=by rw [← hr2]; exact nat_tmod k 64
   have ht2:(k:Int) % 64=(r2:Int):=by rw [← hr2]; omega
   have hrn:((r2:Int) != 56)=true:=by simp; omega
   have HZ:=Lib.hid hzl; have h63:k+1≤maxLen:=by unfold maxLen; omega
   have hB1:W1.heap.size≤wr.heap.size:=hbr.size; clear hr hz hzl hr2 hr0; go_wp2_with (at_builtin; go_must (refine wpList_push rfl (.tmp 36) (.tmp 37) 62 rfl W1.heap.size i0 (.int .u8 0) 1 Tryz.underlying62 hi hz0 hz1 hz2 rfl _ _ _ rfl hown rfl rfl h63 (by omega) hB1 ?_))
   intro A' c' w2 hown' g1' g2' hgr; have hb2:=below_push hbr hgr hB1 hown (Nat.le_refl _); rw [pad_more] at hown'; have hkz:z<Sha.zeros n:=HZ.out; have hz64:Sha.zeros n<64:=Nat.mod_lt _ (by omega); have HKB:=Lib.hid (show k+1≤n+65 by have:=HK.out; omega)
   clear hown hgr hbr ht ht2 hrn hkz hz64; go_wp2; go_roundw
   case rel=>exact⟨z+1,k+1,A',c',HZ.out,Lib.hid (by rw [HK.out]; omega),HKB.out,rfl,hb2,hown'⟩
   case measure=>simp [lenV]; omega
  ·have hze:z=Sha.zeros n:=by omega
   have hr:=zeros_done HK.out hze; have hr2:k % 64=56:=by omega
   have ht:Int.tmod (k:Int) 64=56:=by
    have:=nat_tmod k 64; rw [hr2] at this; exact this
   have ht2:(k:Int) % 64=56:=by omega
   rw [hze] at hown; have HK2:=Lib.hid (show k=n+1+Sha.zeros n by rw [HK.out,hze]); have H56:=Lib.hid hr2; clear hr hz hzl hze HK hr2; obtain⟨wo,hwo⟩:∃ wo,wo=wr:=⟨_,rfl⟩; subst hwo; go_wp2_with fail
   have hkb:k+8≤2000000:=by omega
   clear ht ht2 hm1 hm0; go_loopw [7,8] (fun v i wx=>∃ (q m:Nat) (A8:Option Addr) (c8:Nat),q≤8∧i=.int .i64 (56 - 8 * (q:Int))∧Hid (m=k+q)∧m≤k+8∧v=.slice A8 m c8∧Below W1.heap.size W1 wx∧wx.ownsRow W1.heap.size 5 1 (.slice A8 m c8) m (bv (sha_pad d (Sha.zeros n))++bv ((Sha.be 8 (8 * n)).take q))) (fun _ i _=>(intOf i+8).toNat)
   case atStart=>exact⟨0,k,A5,c5,by omega,rfl,Lib.hid rfl,by omega,rfl,hbr,by simpa [bv] using hown⟩
   case round =>
    clear hown hbr; obtain⟨q,m,A8,c8,hq,rfl,HM,hm,rfl,hbr,hown⟩:=hrel; by_cases hq8:q<8
    ·obtain⟨sh,hsh⟩:∃ sh:Nat,8 * (7 - q)=sh:=⟨_,rfl⟩
     have e1:(56 - 8 * (q:Int))=(sh:Int):=by omega
     have hsh2:sh≤56:=by omega
     have h63:m+1≤maxLen:=by unfold maxLen; omega
     have hB1:W1.heap.size≤wr.heap.size:=hbr.size; have HBE:=Lib.hid (be_more 8 (8 * n) q hq8 sh hsh.symm); have HE:=Lib.hid (show (sh:Int) - 8=56 - 8 * ((q+1:Nat):Int) by omega); have HN:=Lib.hid (show q+1≤8 from hq8); have hms:(intOf (Value.int IntKind.i64 ((sh:Int) - 8))+8).toNat<(intOf (Value.int IntKind.i64 (sh:Int))+8).toNat:=by
      show ((sh:Int) - 8+8).toNat<((sh:Int)+8).toNat
      omega
     have HMS:=Lib.hid hms; have hv8:((n:Int) * 8) / 2 ^ sh % 256=((8 * n / 2 ^ sh % 256:Nat):Int):=by
      rw [Int.natCast_emod,Int.natCast_ediv,Int.natCast_mul,Int.natCast_pow,Int.mul_comm]; rfl
     rw [e1]; clear e1 hsh hq hq8 hms; go_wp2_with (at_builtin; go_must (refine wpList_push rfl (.tmp 67) (.tmp 75) 62 rfl W1.heap.size i0 (.int .u8 0) 1 Tryz.underlying62 hi hz0 hz1 hz2 rfl _ _ _ rfl hown rfl rfl h63 (by omega) hB1 ?_))
     intro A' c' w2 hown' g1' g2' hgr; have hb2:=below_push hbr hgr hB1 hown (Nat.le_refl _); have hown'':w2.ownsRow W1.heap.size 5 1 (.slice A' (m+1) c') (m+1) (bv (sha_pad d (Sha.zeros n))++bv ((Sha.be 8 (8 * n)).take (q+1))):=by
      have e:((8 * n / 2 ^ sh % 256:Nat):Int)=8 * (n:Int) / 2 ^ sh % 256:=by
       rw [Int.natCast_emod,Int.natCast_ediv,Int.natCast_mul,Int.natCast_pow]; rfl
      rw [← HBE.out,e]; exact hown'
     have HM2:=Lib.hid (show m+1=k+(q+1) by rw [HM.out]; omega)
     have HMB:=Lib.hid (show m+1≤k+8 by have:=HM.out; have:=HN.out; omega)
     clear hown hown' hgr hbr hv8; go_wp2; go_roundw
     case rel=>exact⟨q+1,m+1,A',c',HN.out,by rw [HE.out],HM2,HMB.out,rfl,hb2,hown''⟩
     case measure=>exact HMS.out
    ·have hqe:q=8:=by omega
     have hneg:(56 - 8 * (q:Int)) = -8:=by omega
     obtain⟨w2,hw2⟩:∃ w2,w2=wr:=⟨_,rfl⟩; subst hw2; have hfull:w2.ownsRow W1.heap.size 5 1 (.slice A8 m c8) m (bv (Sha.full d)):=by
      rw [hqe] at hown; have e:(Sha.be 8 (8 * n)).take 8=Sha.be 8 (8 * n):=List.take_of_length_le (by rw [Sha.be_len]; omega)
      have e2:bv (sha_pad d (Sha.zeros n))++bv (Sha.be 8 (8 * n))=bv (Sha.full d):=by rw [← HDL.out]; exact full_pad d
      rw [e,e2] at hown; exact hown
     have HKE:=Lib.hid (show (Sha.full d).length=m by have:=Bs.len (Bs.of_own hfull); exact this)
     have H64:=Lib.hid (show m % 64=0 by rw [← HKE.out]; exact Sha.full_len d)
     have hm64:64≤m:=by have:=HM.out; have:=H64.out; have:=H56.out; omega
     obtain⟨ga,rfl,hga1,hga2⟩:=own_some hfull (by omega); have hmc:m≤c8:=by obtain⟨_,_,e,h1,_⟩:=own_form hfull; injection e with _ _ e; omega
     have hb0w2:Below w.heap.size w w2:=hbW.trans (hbr.mono hWs); have hT2:=hT.below hb0w2; have B2:=BH.below hbr; have hfi:=hfirst (w2.alloc (.cells (uv (List.replicate 8 0)).toArray 281)); have BS:=Blk.new w2 (uv (List.replicate 8 0)) 281; have hbS:Below w2.heap.size w2 (w2.alloc (.cells (uv (List.replicate 8 0)).toArray 281)):=(Below.refl _ _).alloc (Nat.le_refl _) _; obtain⟨w3,hw3⟩:∃ w3,Hid (w2.alloc (.cells (uv (List.replicate 8 0)).toArray 281)=w3):=⟨_,Lib.hid rfl⟩; rw [hw3.out] at hfi BS hbS; have HW3:Hid (w2.alloc (.cells #[.int .u32 0,.int .u32 0,.int .u32 0,.int .u32 0,.int .u32 0,.int .u32 0,.int .u32 0,.int .u32 0] 281)=w3):=Lib.hid hw3.out; clear hw3 hown hq8 hfirst hT; rw [hneg]; clear hneg hqe hq; go_upto_region 13 with fail
     rw [HW3.out]; go_wp2_with fail
     refine hfi.mono ?_; rintro e w4 ⟨rfl,hb4⟩; have BS4:Blk w4 w2.heap.size (uv (fillM (FF.take 0) 8)) 281:=BS.below hb4; have hb24:Below w2.heap.size w2 w4:=hbS.trans (hb4.mono hbS.size); clear hfi BS hbS hb4 HW3; go_wp2_with fail
     go_loopw [10,11,78] (fun _ _ i wx=>∃ j:Nat,j≤8∧i=.int .i64 (j:Int)∧Below w2.heap.size w2 wx∧Blk wx w2.heap.size (uv (fillM (FF.take j) 8)) 281) (fun _ _ i _=>8 - (intOf i).toNat)
     case atStart=>exact⟨0,by omega,rfl,hb24,BS4⟩
     case round =>
      clear BS4 hb24; obtain⟨j,hj,rfl,hbj,BJ⟩:=hrel; by_cases hj8:j<8
      ·obtain⟨fj,hf1,hf2,hf3⟩:=hfv.2 j hj8
       have k0:wr.cell? ⟨w.heap.size,0,none⟩=some (.int .i64 32):=((B2.below hbj).cell 0).trans hf.bits; have hcut:=pcut_any ((fj:Int) / 4294967296) wr; rw [show IntKind.u32.wrap ((fj:Int) / 4294967296)=((FF.getD j 0:Nat):Int) by rw [← hf3,IntKind.wrap_u32]; omega] at hcut
       have hset:=fillM_set (FF.take j) (n:=8) (by rw [List.length_take]; omega) (FF.getD j 0)
       have htl:(FF.take j).length=j:=by rw [List.length_take]; omega
       have htk:FF.take j++[FF.getD j 0]=FF.take (j+1):=by
        rw [List.take_add_one,List.getElem?_eq_getElem (by omega)]; simp [List.getD_eq_getElem?_getD,List.getElem?_eq_getElem (show j<FF.length by omega)]
       rw [htl,htk] at hset; have HSET:=Lib.hid hset; have hfl8:(fillM (FF.take j) 8).length=8:=fillM_len _ (by rw [htl]; omega)
       obtain⟨vj,hvj⟩:∃ v,(uv (fillM (FF.take j) 8))[j]?=some v:=⟨_,uv_at _ (by omega)⟩; have HVJ:=Lib.hid hvj; clear hset htk htl hfl8 hvj hf3; generalize FF.getD j 0=yj at *; have hjz:(j:Int)<8:=by omega
       have hix:=fun W=>index_u64 fv W j _ hj8 hf1; clear hf1; go_wp2_with fail
       refine hcut.mono ?_; rintro e w5 ⟨rfl,hb5⟩; have BJ5:=BJ.below hb5; have hbj5:Below w2.heap.size w2 w5:=hbj.trans (hb5.mono hbj.size); have c5:w5.cell? ⟨w2.heap.size,j,none⟩=some vj:=(BJ5.cell j).trans HVJ.out; have z5:w5.frozen? ⟨w2.heap.size,j,none⟩=false:=BJ5.froz _; have hlt5:=BJ5.lt; have BN:=BJ5.set j (.int .u32 (yj:Int)); rw [uv_set,HSET.out] at BN; clear hcut hix k0 hb5 hbj BJ BJ5; go_wp2_with fail
       go_roundw
       case rel=>exact⟨j+1,by omega,by go_num,hbj5.setCell (by simp) _,BN⟩
       case measure=>simp [intOf]; omega
      ·have hje:j=8:=by omega
       have hFF:fillM (FF.take j) 8=Sha.states KK FF (Sha.full d) 0:=by
        rw [hje,List.take_of_length_le (by omega)]; unfold fillM; rw [hFl]; simp [Sha.states]
       rw [hFF] at BJ; have hdec:decide ((j:Int)<8)=false:=by simp; omega
       have hjge:(8:Int)≤(j:Int):=by omega
       obtain⟨w7,hw7⟩:∃ w7,w7=wr:=⟨_,rfl⟩; subst hw7; have hg27:ga<w2.heap.size:=hga2; have hjle:(j:Int)≤8:=by omega
       clear hFF hfv hje; go_wp2_with fail
       go_loopw [12] (fun i wx=>∃ (t q:Nat),Hid (q=64 * t)∧q≤m∧i=.int .i64 (q:Int)∧Below w2.heap.size w2 wx∧Blk wx w2.heap.size (uv (Sha.states KK FF (Sha.full d) t)) 281) (fun i _=>m - (intOf i).toNat)
       case atStart=>exact⟨0,0,Lib.hid rfl,by omega,rfl,hbj,BJ⟩
       case round =>
        clear BJ hbj hdec; obtain⟨t,q2,HQ2,hq2,rfl,hbx,BX⟩:=hrel; obtain⟨wx,hwx⟩:∃ wx,wx=wr:=⟨_,rfl⟩; subst hwx; by_cases hlt:q2<m
        ·have hq64:q2+64≤m:=by have:=H64.out; have:=HQ2.out; omega
         have HS:=Lib.hid (show Sha.states KK FF (Sha.full d) (t+1)=Sha.block KK (Sha.states KK FF (Sha.full d) t) (((Sha.full d).drop (64 * t)).take 64) from rfl); rw [← HQ2.out] at HS; have hSl:=Sha.states_len hFl KK (Sha.full d) t; have hS32:=Sha.states_32 hF32 KK (Sha.full d) t; have hownx:=below_own hfull hbx; have hrd2:Bs wx wx.heap.size (some ⟨ga,q2,none⟩) 64 (((Sha.full d).drop q2).take 64):=by
          have h1:=((Bs.of_own hownx).tail (k:=q2) (cap:=c8) (by omega) hmc (by omega)).take (k:=64) (by omega); simpa [zero_add_] using h1
         have fld:∀ p,(loadF (.pointer (some ⟨w.heap.size,0,none⟩))).run Tryz.prog (Batch.grew wx p)=.ok (.agg hc.toArray) (Batch.grew wx p):=fun p=>load_F ((B2.below hbx).below (Batch.grew_below wx p)) hf.len; have fl8:∀ p,(loadA8 (.pointer (some ⟨w2.heap.size,0,none⟩))).run Tryz.prog (Batch.grew wx p)=.ok (.agg (uv (Sha.states KK FF (Sha.full d) t)).toArray) (Batch.grew wx p):=fun p=>load_A8 (BX.below (Batch.grew_below wx p)) (by rw [uv_length]; exact hSl)
         have hmix:=fun p=>pmix_any hc HF.out (Sha.states KK FF (Sha.full d) t) hSl hS32 (some ⟨ga,q2,none⟩) (c8 - q2) (((Sha.full d).drop q2).take 64) (Batch.grew wx p) (vs_below hrd2 (Batch.grew_below wx p)) (by omega) KK ((hT2.below hbx).below (Batch.grew_below wx p)); rw [← HS.out] at hmix; have hS8:(uv (Sha.states KK FF (Sha.full d) (t+1))).length=8:=by rw [uv_length]; exact Sha.states_len hFl KK (Sha.full d) (t+1)
         have hcl8:(uv (Sha.states KK FF (Sha.full d) t)).length=8:=by rw [uv_length]; exact hSl
         obtain⟨S0,hS0⟩:∃ S0,Hid (Sha.states KK FF (Sha.full d) t=S0):=⟨_,Lib.hid rfl⟩; obtain⟨S1,hS1⟩:∃ S1,Hid (Sha.states KK FF (Sha.full d) (t+1)=S1):=⟨_,Lib.hid rfl⟩; rw [hS0.out] at fl8 hmix BX hcl8; rw [hS1.out] at hmix hS8; have HMX:=Lib.hid hmix; have i2:(0:Int)≤(q2:Int):=by omega
         have i4:(q2:Int)+64≤(c8:Int):=by omega
         clear hmix hSl hS32 HS hrd2 hownx; go_upto_region 21 with fail
         refine Batch.wp_region_grew_tail 8 (by kernel_rfl) (by kernel_rfl) ?_; simp only [List.take_succ_cons,List.take_zero,List.drop_succ_cons,List.drop_zero]; repeat (go_big_quiet_step (fail))
         refine wpQuiet_nil ?_; rintro _ ⟨pz,rfl⟩; have hg:=Batch.grew_below wx pz; have hmx:=HMX.out pz; have BG:=BX.below hg; have hgx:Below w2.heap.size w2 (Batch.grew wx pz):=hbx.trans (hg.mono hbx.size); have HQ3:=Lib.hid (show q2+64=64 * (t+1) by rw [HQ2.out]; omega)
         clear fld fl8 i2 i4 HMX hg hbx BX; generalize Batch.grew wx pz=w8 at *; go_wp2_with fail
         refine hmx.mono ?_; rintro e w9 ⟨rfl,hb9⟩; have BX9:=BG.below hb9; have hb29:Below w2.heap.size w2 w9:=hgx.trans (hb9.mono hgx.size); obtain⟨hst,hSt⟩:=store_A8 BX9 hcl8 (vs:=uv S1) hS8 (uv_one _); obtain⟨wA,hwA⟩:∃ wA,w9.setCells w2.heap.size 0 (uv S1)=wA:=⟨_,rfl⟩; have hbA:Below w2.heap.size w2 wA:=by
          rw [← hwA]; exact((Chg.of_below (S:=[]) hb29).setCells _ (.inr (by omega))).below (by simp)
         rw [hwA] at hst hSt; rw [← hS1.out] at hSt; clear hmx hb9 hwA BX9 BG hgx hb29; go_wp2; (try rw [Batch.Qn_normal])
         (try go_wp2)
         go_roundw
         case rel=>exact⟨t+1,q2+64,HQ3,hq64,by go_num,hbA,hSt⟩
         case measure=>simp [intOf]; omega
        ·have hqe:q2=m:=by omega
         have HTT:Hid (t=(Sha.full d).length / 64):=Lib.hid (by have:=HQ2.out; rw [HKE.out]; omega)
         have hqge:m≤q2:=by omega
         have HSL:=Lib.hid (Sha.states_len hFl KK (Sha.full d) t); have HS32:=Lib.hid (Sha.states_32 hF32 KK (Sha.full d) t); have HSUM:=Lib.hid (show Sha.sum KK FF d=Sha.digest (Sha.states KK FF (Sha.full d) t) 8 by unfold Sha.sum; rw [← HTT.out])
         generalize Sha.states KK FF (Sha.full d) t=S at *; have hl8:=load_A8 BX (by rw [uv_length]; exact HSL.out)
         have hdec:decide (q2<m)=false:=by simp; omega
         have hb0x:Below w.heap.size w wx:=hb0w2.trans (hbx.mono hb0w2.size); have B9:=B2.below hbx; clear hqe hlt hq2 BX hT2 hfull; go_wp2_with fail
         clear hqge; go_loopw [13,15,16,108] (fun v _ _ i wz=>∃ (j m9:Nat) (A9:Option Addr) (c9:Nat),j≤8∧Hid (m9=4 * j)∧m9≤32∧i=.int .i64 (j:Int)∧v=.slice A9 m9 c9∧m9≤c9∧Below wx.heap.size wx wz∧wz.ownsRow wx.heap.size 5 1 (.slice A9 m9 c9) m9 (bv (Sha.digest S j))) (fun _ _ _ i _=>8 - (intOf i).toNat)
         case atStart=>exact⟨0,0,none,0,by omega,Lib.hid rfl,by omega,rfl,rfl,by omega,Below.refl _ _,World.ownsRow_nil _ _ _ _⟩
         case round =>
          obtain⟨j,m9,A9,c9,hj,HM9,hm9,rfl,rfl,hmc9,hby,hown9⟩:=hrel; obtain⟨wb,hwb⟩:∃ wb,wb=wr:=⟨_,rfl⟩; subst hwb; by_cases hj8:j<8
          ·have HD:=Lib.hid (show Sha.digest S (j+1)=Sha.digest S j++Sha.be 4 (S.getD j 0) from rfl)
           have hyl:=HS32.out.at_ j; have hix:=fun W=>index_u32 (uv S) W j _ hj8 (uv_at S (by rw [HSL.out]; exact hj8))
           have k0:wb.cell? ⟨w.heap.size,0,none⟩=some (.int .i64 32):=((B9.below hby).cell 0).trans hf.bits; have hjz:(j:Int)<8:=by omega
           generalize S.getD j 0=y at *; have hst0:wb.ownsRow wx.heap.size 5 1 (.slice A9 m9 c9) m9 (bv (Sha.digest S j)++bv ((Sha.be 4 y).take 0)):=by simpa [bv] using hown9
           clear hown9; go_wp2_with fail
           go_loopw [13,16] (fun v i wz=>∃ (q mq:Nat) (A9:Option Addr) (c9:Nat),q≤4∧i=.int .i64 (24 - 8 * (q:Int))∧Hid (mq=m9+q)∧mq≤m9+4∧v=.slice A9 mq c9∧mq≤c9∧Below wx.heap.size wx wz∧wz.ownsRow wx.heap.size 5 1 (.slice A9 mq c9) mq (bv (Sha.digest S j)++bv ((Sha.be 4 y).take q))) (fun _ i _=>(intOf i+8).toNat)
           case atStart=>exact⟨0,m9,A9,c9,by omega,rfl,Lib.hid rfl,by omega,rfl,hmc9,hby,hst0⟩
           case round =>
            clear hst0 k0 hix hby; obtain⟨q,mq,A9,c9,hq,rfl,HMQ,hmq,rfl,hmcq,hbz,hownz⟩:=hrel; by_cases hq4:q<4
            ·obtain⟨sh,hsh⟩:∃ sh:Nat,8 * (3 - q)=sh:=⟨_,rfl⟩
             have e1:(24 - 8 * (q:Int))=(sh:Int):=by omega
             have hsh2:sh≤24:=by omega
             have h63:mq+1≤maxLen:=by unfold maxLen; omega
             have hB1:wx.heap.size≤wr.heap.size:=hbz.size; have HBE:=Lib.hid (be_more 4 y q hq4 sh hsh.symm); have HE:=Lib.hid (show (sh:Int) - 8=24 - 8 * ((q+1:Nat):Int) by omega); have HN:=Lib.hid (show q+1≤4 from hq4); have hms:(intOf (Value.int IntKind.i64 ((sh:Int) - 8))+8).toNat<(intOf (Value.int IntKind.i64 (sh:Int))+8).toNat:=by
              show ((sh:Int) - 8+8).toNat<((sh:Int)+8).toNat
              omega
             have HMS:=Lib.hid hms; rw [e1]; clear e1 hsh hq hq4 hms; go_wp2_with (at_builtin; go_must (refine wpList_push rfl (.tmp 118) (.tmp 124) 62 rfl wx.heap.size i0 (.int .u8 0) 1 Tryz.underlying62 hi hz0 hz1 hz2 rfl _ _ _ rfl hownz rfl rfl h63 (by omega) hB1 ?_))
             intro A' c' w8 hown' g1' g2' hgr; have hb8:=below_push hbz hgr hB1 hownz (Nat.le_refl _); have hown'':w8.ownsRow wx.heap.size 5 1 (.slice A' (mq+1) c') (mq+1) (bv (Sha.digest S j)++bv ((Sha.be 4 y).take (q+1))):=by
              have e:((y / 2 ^ sh % 256:Nat):Int)=(y:Int) / 2 ^ sh % 256:=by
               rw [Int.natCast_emod,Int.natCast_ediv,Int.natCast_pow]; rfl
              rw [← HBE.out,e]; exact hown'
             have HM2:=Lib.hid (show mq+1=m9+(q+1) by rw [HMQ.out]; omega)
             have HMB:=Lib.hid (show mq+1≤m9+4 by have:=HMQ.out; have:=HN.out; omega)
             clear hownz hown' hgr hbz; go_wp2; go_roundw
             case rel=>exact⟨q+1,mq+1,A',c',HN.out,by rw [HE.out],HM2,HMB.out,rfl,g1',hb8,hown''⟩
             case measure=>exact HMS.out
            ·have hqe:q=4:=by omega
             have hneg:(24 - 8 * (q:Int)) = -8:=by omega
             have hown4:wr.ownsRow wx.heap.size 5 1 (.slice A9 mq c9) mq (bv (Sha.digest S (j+1))):=by
              rw [HD.out,bv_append]; rw [hqe,List.take_of_length_le (show (Sha.be 4 y).length≤4 by rw [Sha.be_len]; omega)] at hownz
              exact hownz
             have HM4:=Lib.hid (show mq=4 * (j+1) by rw [HMQ.out,HM9.out,hqe]; omega)
             have HM5:=Lib.hid (show mq≤32 by have:=HM4.out; omega)
             rw [hneg]; clear hownz hqe hneg hq hq4; go_wp2; go_roundw
             case rel=>exact⟨j+1,mq,A9,c9,by omega,HM4,HM5.out,by go_num,rfl,hmcq,hbz,hown4⟩
             case measure=>simp [intOf]; omega
          ·have hje:j=8:=by omega
           have hme:m9=32:=by rw [HM9.out,hje]
           have hjge:(8:Int)≤(j:Int):=by omega
           rw [hje] at hown9; rw [hme] at hown9 hmc9; rw [hme]; have hbF:=hb0x.trans (hby.mono hb0x.size); go_wp2; go_ret; exact⟨A9,c9,rfl,hmc9,by rw [HSUM.out]; exact own_base hown9 hb0x.size,hbF⟩
end
section
open Go.RowKit Mem
def fvN:List Nat:=[7640891576956012808,13503953896175478587,4354685564936845355,11912009170470909681,5840696475078001361,11170449401992604703,2270897969802886507,6620516959819538809]
def fvL:List Value:=fvN.map fun x:Nat=>Value.int .u64 (x:Int)
theorem fv_ok:FirstOk Sha.ffL fvL:=by
 refine⟨rfl,fun j hj=>?_⟩
 have:j=0∨j=1∨j=2∨j=3∨j=4∨j=5∨j=6∨j=7:=by omega
 rcases this with rfl|rfl|rfl|rfl|rfl|rfl|rfl|rfl
 ·exact⟨7640891576956012808,rfl,by decide,by decide⟩
 ·exact⟨13503953896175478587,rfl,by decide,by decide⟩
 ·exact⟨4354685564936845355,rfl,by decide,by decide⟩
 ·exact⟨11912009170470909681,rfl,by decide,by decide⟩
 ·exact⟨5840696475078001361,rfl,by decide,by decide⟩
 ·exact⟨11170449401992604703,rfl,by decide,by decide⟩
 ·exact⟨2270897969802886507,rfl,by decide,by decide⟩
 ·exact⟨6620516959819538809,rfl,by decide,by decide⟩
theorem size_B8:(Tryz.prog.info? 282).map (·.size)=some 8:=by kernel_rfl
def storeB8 (x v:Value):Sem Unit:=Instr.storeAt 282 x v
theorem named_store_B8(x v:Value):Instr.storeAt 282 x v=storeB8 x v:=rfl
attribute [go_sem ↓] named_store_B8
theorem store_B8{w:World} {g:Nat} {cs vs:List Value} {t:TypeId} (h:Blk w g cs t) (hn:cs.length=8) (hv:vs.length=8) (h1:∀ v∈vs,v.oneCell'=true) :
  (storeB8 (.pointer (some ⟨g,0,none⟩)) (.agg vs.toArray)).run Tryz.prog w=.ok () (w.setCells g 0 vs)∧Blk (w.setCells g 0 vs) g vs t:=by
 have h2:=run_store_arr (P:=Tryz.prog) w 282 g 0 8 size_B8 vs.toArray ⟨by simpa using hv,by simpa using h1⟩ (blk_has h hn) (fun j _=>h.froz _)
 have h3:=set_all vs w g 0 cs t h (by omega)
 simp [hv,← hn] at h3
 exact⟨h2,h3⟩
theorem fvL_one:∀ v∈fvL,v.oneCell'=true:=by
 intro v hv
 simp only [fvL,List.mem_map] at hv
 obtain⟨x,_,rfl⟩:=hv
 rfl
theorem pfirst_any(w:World):Calls Tryz.prog 268 #[] w fun e w'=>e=.returned (.agg fvL.toArray)∧Below w.heap.size w w':=by
 have bn:=Blk.new w (wv (List.replicate 8 0)) 282
 obtain⟨hst,hSt⟩:=store_B8 bn rfl (vs:=fvL) rfl fvL_one
 obtain⟨w1,hw1⟩:∃ w1,(w.alloc (.cells (wv (List.replicate 8 0)).toArray 282)).setCells w.heap.size 0 fvL=w1:=⟨_,rfl⟩
 have hcn:Chg [] w w1:=by rw [← hw1]; exact((Chg.refl _ _).alloc _).setCells _ (.inr (Nat.le_refl _))
 rw [hw1] at hst hSt
 have hb:=hcn.below (fun _ h=>by cases h)
 have hHh:Has w1 w.heap.size 0 8:=blk_has hSt rfl
 have hA:=blk_arr hSt (n:=8) rfl
 have hst:(storeB8 (.pointer (some ⟨w.heap.size,0,none⟩)) (.agg #[.int .u64 7640891576956012808,.int .u64 13503953896175478587,.int .u64 4354685564936845355,.int .u64 11912009170470909681,.int .u64 5840696475078001361,.int .u64 11170449401992604703,.int .u64 2270897969802886507,.int .u64 6620516959819538809])).run Tryz.prog (w.alloc (.cells #[.int .u64 0,.int .u64 0,.int .u64 0,.int .u64 0,.int .u64 0,.int .u64 0,.int .u64 0,.int .u64 0] 282))=.ok () w1:=hst
 clear hw1 hcn bn
 go_enter Tryz.func268,Tryz.ntmps268
 go_wp2
 refine bodyPost_ret (results_arr (P:=Tryz.prog) Tryz.results268 _ _ w.heap.size 0 8 _ rfl Tryz.underlying282 rfl size_B8 hHh) rfl ?_
 exact⟨by rw [hA],hb⟩
theorem psum256_any(A:Option Addr) (n c:Nat) (d:List UInt8) (w:World) (hd:Bs w w.heap.size A n d) (hn:n≤1000000) (hT:Tab Sha.kkL w) :
  Calls Tryz.prog 226 #[.slice A n c] w fun e w'=>∃ A' c',e=.returned (.slice A' 32 c')∧32≤c'∧w'.ownsRow w.heap.size 5 1 (.slice A' 32 c') 32 (bv (Sha.psum d))∧Below w.heap.size w w':=by
 have hs:=psum_any formL rfl Sha.kkL Sha.ffL A c n d w hd hn hT rfl (by unfold Sha.All32 Sha.ffL; decide) fvL fv_ok (fun W'=>pfirst_any W')
 have e:Sha.sum Sha.kkL Sha.ffL d=Sha.psum d:=rfl
 rw [e] at hs
 generalize Sha.psum d=S at *
 clear e
 unfold formL at hs
 go_enter Tryz.func226,Tryz.ntmps226
 go_wp2_with fail
 refine hs.mono ?_
 rintro e w1 ⟨A',c',rfl,h1,h2,h3⟩
 go_wp2
 go_ret
 exact⟨A',c',rfl,h1,h2,h3⟩
theorem index_hex(a:Nat) (h:a<16) (w:World):(Instr.index 9 (.string ⟨#[48,49,50,51,52,53,54,55,56,57,97,98,99,100,101,102]⟩) (.int .u8 (a:Int))).run Tryz.prog w=.ok (.int .u8 (((Sha.hexd a).toNat:Nat):Int)) w:=by
 have key:∀ a:Fin 16,∃ h:((a.1:Int)).toNat<(⟨#[48,49,50,51,52,53,54,55,56,57,97,98,99,100,101,102]⟩:ByteArray).size,(⟨#[48,49,50,51,52,53,54,55,56,57,97,98,99,100,101,102]⟩:ByteArray)[((a.1:Int)).toNat]'h=Sha.hexd a.1:=by decide
 obtain⟨h1,h2⟩:=key ⟨a,h⟩
 have h3:(0:Int)≤(a:Int)∧(a:Int)<((⟨#[48,49,50,51,52,53,54,55,56,57,97,98,99,100,101,102]⟩:ByteArray).size:Int):=⟨by omega,by show (a:Int)<16; omega⟩
 refine(run_index_string _ _ _ _ _ Tryz.underlying9).trans ?_
 rw [dif_pos h3]
 exact congrArg (fun b:UInt8=>Result.ok (Value.int .u8 (b.toNat:Int)) w) h2
theorem and15(x:Nat) (h:x<256):bits .and .u8 (x:Int) 15=((x % 16:Nat):Int):=by
 have:=u8_and_nat x 15 h (by omega)
 rw [show ((15:Nat):Int)=15 from rfl] at this
 rw [this]
 congr 1
 exact Nat.and_two_pow_sub_one_eq_mod x 4
theorem pname_any(Ad:Option Addr) (n c:Nat) (d:List UInt8) (w:World) (hd:Bs w w.heap.size Ad n d) (hn:n≤1000000) (hT:Tab Sha.kkL w) :
  Calls Tryz.prog 197 #[.slice Ad n c] w fun e w'=>e=.returned (.string (str (Sha.pname d)))∧Below w.heap.size w w':=by
 obtain⟨i0,hi,hz0,hz1,hz2⟩:=info_parts infoB
 go_enter Tryz.func197,Tryz.ntmps197
 go_wp2_with fail
 refine(psum256_any Ad n c d w hd hn hT).mono ?_
 rintro e w1 ⟨A,c1,rfl,h1,h2,h3⟩
 obtain⟨g,rfl,hg1,hg2⟩:=own_some h2 (by omega)
 have HN:=Lib.hid (show Sha.pname d=Sha.hexs (Sha.psum d) 4 from rfl)
 have HL:=Lib.hid (Sha.psum_len d)
 have hcell:∀ j,j<32→w1.cell? ⟨g,j,none⟩=some (.int .u8 (((Sha.psum d).getD j 0).toNat:Int)):=fun j hj=>by
  have hl:(Sha.psum d).length=32:=HL.out; have:=h2.cells (g:=g) rfl j (.int .u8 (((Sha.psum d).getD j 0).toNat:Int)) (by rw [bv_at,List.getElem?_eq_getElem (by omega)]; simp [List.getD_eq_getElem?_getD,show j<(Sha.psum d).length by omega])
  rwa [zero_add_] at this
 have HC:=Lib.hid hcell
 clear hcell h2 HL hd hT
 generalize Sha.psum d=S at *
 go_wp2_with fail
 go_loopw [3,5,10] (fun v _ i wx=>∃ (t m:Nat) (A9:Option Addr) (c9:Nat),t≤4∧i=.int .i64 (t:Int)∧Hid (m=2 * t)∧m≤8∧v=.slice A9 m c9∧Below w1.heap.size w1 wx∧wx.ownsRow w1.heap.size 5 1 (.slice A9 m c9) m (bv (Sha.hexs S t))) (fun _ _ i _=>4 - (intOf i).toNat)
 case atStart=>exact⟨0,0,none,0,by omega,rfl,Lib.hid rfl,by omega,rfl,Below.refl _ _,World.ownsRow_nil _ _ _ _⟩
 case round =>
  obtain⟨t,m,A9,c9,ht,rfl,HM,hm,rfl,hb,hown⟩:=hrel; obtain⟨wb,hwb⟩:∃ wb,wb=wr:=⟨_,rfl⟩; subst hwb; by_cases hlt:t<4
  ·have hcl:=(hb.cell (p:=⟨g,t,none⟩) hg2).trans (HC.out t (by omega))
   have HS:=Lib.hid (hexs_more S t); have hx:=(S.getD t 0).toNat_lt; generalize (S.getD t 0).toNat=x at *; have hx256:x<256:=hx; have ha:=and15 x hx256; have hq3:(x:Int) / 16=((x / 16:Nat):Int):=by omega
   obtain⟨q,hq⟩:∃ q,x / 16=q:=⟨_,rfl⟩; obtain⟨r,hr⟩:∃ r,x % 16=r:=⟨_,rfl⟩; have hqb:q<16:=by omega
   have hrb:r<16:=by omega
   rw [hq] at hq3 HS; rw [hr] at ha HS; have ix1:=fun W=>index_hex q hqb W; have ix2:=fun W=>index_hex r hrb W; have e1:[Sha.hexd q,Sha.hexd r]=[Sha.hexd q,Sha.hexd r]:=rfl; have h63:m+2≤maxLen:=by unfold maxLen; omega
   clear hq hr hx; go_upto_region 5 with fail
   refine Batch.wp_region_grew_move [0] [1,2,3,4,5,6] 7 (by kernel_rfl) (by kernel_rfl) ?_; simp only [Batch.pick,List.getD_cons_zero,List.getD_cons_succ,List.drop_succ_cons,List.drop_zero]; repeat (go_big_quiet_step (fail))
   refine wpQuiet_nil ?_; repeat (go_big_quiet_step (fail))
   refine wpQuiet_nil ?_; rintro _ ⟨p,rfl⟩; have hg:=Batch.grew_below wb p; have hown2:=below_own hown hg; have hb2:Below w1.heap.size w1 (Batch.grew wb p):=hb.trans (hg.mono hb.size); clear hown hb hg hcl ha hq3 ix1 ix2 e1; generalize Batch.grew wb p=w4 at *; have hnew:Vs (w4.alloc (.cells #[.int .u8 (((Sha.hexd q).toNat:Nat):Int),.int .u8 (((Sha.hexd r).toNat:Nat):Int)] 5)) (w4.alloc (.cells #[.int .u8 (((Sha.hexd q).toNat:Nat):Int),.int .u8 (((Sha.hexd r).toNat:Nat):Int)] 5)).heap.size 1 (some ⟨w4.heap.size,0,none⟩) 2 (bv [Sha.hexd q,Sha.hexd r]) :=
    ⟨rfl,fun j u hj=>⟨_,rfl,by simp,by rw [zero_add_]; exact((Blk.new w4 (bv [Sha.hexd q,Sha.hexd r]) 5).cell j).trans hj⟩⟩
   have hB1:w1.heap.size≤(w4.alloc (.cells #[.int .u8 (((Sha.hexd q).toNat:Nat):Int),.int .u8 (((Sha.hexd r).toNat:Nat):Int)] 5)).heap.size:=by have:=hb2.size; simp; omega
   have hownA:=hown2.alloc (.cells #[.int .u8 (((Sha.hexd q).toNat:Nat):Int),.int .u8 (((Sha.hexd r).toNat:Nat):Int)] 5); have hbA:=hb2.alloc hb2.size (.cells #[.int .u8 (((Sha.hexd q).toNat:Nat):Int),.int .u8 (((Sha.hexd r).toNat:Nat):Int)] 5); go_wp2_with (at_builtin; go_must (refine wpList_append (w4.alloc (.cells #[.int .u8 (((Sha.hexd q).toNat:Nat):Int),.int .u8 (((Sha.hexd r).toNat:Nat):Int)] 5)) rfl (.tmp 14) (.tmp 21) 62 rfl w1.heap.size 5 i0 (.int .u8 0) 1 1 Tryz.underlying62 hi hz0 hz1 hz2 rfl (by omega) _ _ _ rfl hownA _ _ 2 _ _ rfl hnew (bv_oneCell _) h63 (by omega) hB1 ?_))
   intro A' c' w8 hown' g1' g2' hgr; have hb9:=Mem.below_grown hbA hgr hB1 hownA; have HZ:=Lib.hid (show Sha.hexs S t++[Sha.hexd q,Sha.hexd r]=Sha.hexs S (t+1) by rw [HS.out,List.append_assoc]; rfl)
   rw [← bv_append,HZ.out] at hown'; have HM2:=Lib.hid (show m+2=2 * (t+1) by rw [HM.out]; omega)
   have HM3:=Lib.hid (show m+2≤8 by have:=HM.out; omega)
   clear hown2 hgr hnew hownA hbA hB1 hb2; go_wp2; (try rw [Batch.Qn_normal])
   (try go_wp2)
   go_roundw
   case rel=>exact⟨t+1,m+2,A',c',by omega,by go_num,HM2,HM3.out,rfl,hb9,hown'⟩
   case measure=>simp [intOf]; omega
  ·have hte:t=4:=by omega
   have hcv:=fun W (h:Bs W W.heap.size A9 m (Sha.hexs S t))=>run_string (P:=Tryz.prog) h 62 5 9 c9 Tryz.underlying62 Tryz.underlying5 Tryz.underlying9; have hcv1:=hcv wb (Bs.of_own hown); have hti:(4:Int)≤(t:Int):=by omega
   have HE:=Lib.hid (show str (Sha.hexs S t)=str (Sha.pname d) by rw [HN.out,hte]); rw [HE.out] at hcv1; clear hte hcv hown; go_wp2_with fail
   go_ret; exact⟨rfl,h3.trans (hb.mono h3.size)⟩
end
section
open Go.RowKit Mem Led
theorem str_beq2(a b:List UInt8):(str a==str b)=(a==b):=by
 by_cases h:a=b
 ·subst h
  rw [(Go.MapKept.bytes_beq _ _).2 rfl,beq_self_eq_true]
 ·have h2:(str a==str b)=false:=by
   cases hq:(str a==str b)
   ·rfl
   ·exact absurd (str_inj ((Go.MapKept.bytes_beq _ _).1 hq)) h
  rw [h2,beq_eq_false_iff_ne.2 h]
def entsS:Nat→List Txt→List MapEntry
 | _,[]=>[]
 | i,k::r=>{ key:=.string (str k),val:=.int .i64 1,born:=i }::entsS (i+1) r
theorem entsS_snoc:∀ (i:Nat) (l:List Txt) (k:Txt),entsS i (l++[k])=entsS i l++[{ key:=.string (str k),val:=.int .i64 1,born:=i+l.length }]
 | i,[],k=>by simp [entsS]
 | i,k'::r,k=>by
  have ih:=entsS_snoc (i+1) r k; simp only [List.cons_append,entsS,ih,List.length_cons]; congr 4
  omega
theorem findNow_entsS(k:Txt):∀ (i j:Nat) (l:List Txt),Instr.findNow .string (.string (str k)) (entsS i l) j=some ((l.findIdx? fun p=>k==p).map fun n=>(j+n,.int .i64 1))
 | i,j,[]=>rfl
 | i,j,k'::r=>by
  have ih:=findNow_entsS k (i+1) (j+1) r; simp only [entsS,Instr.findNow,Instr.sameNow,str_beq2]; by_cases h:k=k'
  ·subst h
   simp [List.findIdx?_cons]
  ·have hb:(k==k')=false:=by simp [h]
   simp only [hb,ih,List.findIdx?_cons]; congr 1
   cases hq:List.findIdx? (fun p:Txt=>k==p) r with
   | none=>simp
   | some n=>simp [Nat.add_assoc,Nat.add_comm 1 n]
def mobjS (l:List Txt):Obj:=.map (entsS 0 l).toArray l.length
def setMap (w:World) (r:Nat) (l:List Txt):World:={ w with heap:=w.heap.setIfInBounds r (mobjS l) }
theorem setMap_at{w:World} {r:Nat} (l:List Txt) (h:r<w.heap.size):(setMap w r l).heap[r]?=some (mobjS l):=by
 show (w.heap.setIfInBounds r (mobjS l))[r]?=_
 rw [Array.getElem?_setIfInBounds_self_of_lt h]
theorem setMap_other{w:World} {r g:Nat} (l:List Txt) (h:g≠r):(setMap w r l).heap[g]?=w.heap[g]?:=by
 show (w.heap.setIfInBounds r (mobjS l))[g]?=_
 rw [Array.getElem?_setIfInBounds_ne (Ne.symm h)]
theorem setMap_below{w0 w:World} {B r:Nat} (l:List Txt) (hb:Below B w0 w) (h:B≤r):Below B w0 (setMap w r l) :=
 ⟨hb.os,hb.tape,hb.output,by show _≤(w.heap.setIfInBounds r (mobjS l)).size; rw [Array.size_setIfInBounds]; exact hb.size,fun i hi=>by rw [setMap_other l (by omega)]; exact hb.block i hi⟩
theorem run_lookS{P:Program} (w:World) (r:Nat) (l:List Txt) (k:Txt) (t kt et:TypeId) (ht:P.underlying t=some (.map kt et)) (hk:P.underlying kt=some .string) (hz:(zeroValue et).run P w=.ok (.int .i64 0) w) (hr:w.heap[r]?=some (mobjS l)) :
  (Instr.lookup t (.map (some r)) (.string (str k)) false).run P w=.ok (.int .i64 (if k∈l then 1 else 0)) w:=by
 have h1:=Go.MapKept.run_getObj_map (P:=P) (w:=w) (r:=r) (es:=(entsS 0 l).toArray) (clock:=l.length) hr
 have h2:=Go.MapKept.run_checkKey (P:=P) (w:=w) hk (k:=.string (str k)) trivial (entsS 0 l).toArray.isEmpty 9999
 have h3:=Go.MapKept.run_findKey (P:=P) (w:=w) hk (findNow_entsS k 0 0 l)
 unfold Instr.lookup
 simp only [Sem.run_bind,run_underlying ht,Result.andThen_ok,h1,h2,h3,Sem.run_pure]
 cases hq:List.findIdx? (fun p:Txt=>k==p) l with
 | none =>
  have hn:k∉l:=fun hm=>by
   have:=List.findIdx?_eq_none_iff.1 hq k hm; simp at this
  simp [hz,hn]
 | some n =>
  have hm:k∈l:=by
   obtain⟨hn,h,_⟩:=List.findIdx?_eq_some_iff_getElem.1 hq; have:k=l[n]:=by simpa using h
   rw [this]; exact List.getElem_mem hn
  simp [hm]
theorem run_updS{P:Program} (w:World) (r:Nat) (l:List Txt) (k:Txt) (t kt et:TypeId) (ht:P.underlying t=some (.map kt et)) (hk:P.underlying kt=some .string) (hn:k∉l) (hr:w.heap[r]?=some (mobjS l)) :
  (Instr.mapUpdate t (.map (some r)) (.string (str k)) (.int .i64 1)).run P w=.ok () (setMap w r (l++[k])):=by
 have h1:=Go.MapKept.run_getObj_map (P:=P) (w:=w) (r:=r) (es:=(entsS 0 l).toArray) (clock:=l.length) hr
 have h2:=Go.MapKept.run_checkKey (P:=P) (w:=w) hk (k:=.string (str k)) trivial false 9999
 have hf:Instr.findNow .string (.string (str k)) (entsS 0 l) 0=some none:=by
  rw [findNow_entsS,List.findIdx?_eq_none_iff.2 (fun x hx=>by simp; intro e; exact hn (e▸hx))]
  rfl
 have h3:=Go.MapKept.run_findKey (P:=P) (w:=w) hk hf
 have h4:=Go.MapKept.run_setObj_map (P:=P) (w:=w) (r:=r) (.map ((entsS 0 l).toArray.push { key:=.string (str k),val:=.int .i64 1,born:=l.length }) (l.length+1)) hr
 have he:{ w with heap:=w.heap.setIfInBounds r (.map ((entsS 0 l).toArray.push { key:=.string (str k),val:=.int .i64 1,born:=l.length }) (l.length+1)) }=setMap w r (l++[k]):=by
  unfold setMap mobjS; rw [entsS_snoc]; simp only [Nat.zero_add,List.push_toArray,List.length_append,List.length_cons,List.length_nil]
 rw [he] at h4
 unfold Instr.mapUpdate
 simp only [Sem.run_bind,run_underlying ht,Result.andThen_ok,h1,h2,h3,h4]
end
section
open Go.RowKit Mem Led
namespace Led
def pmay (b:Bundle):Bool:=Ids.domain b.domain&&within b.number 0 1099511627776&&decide (b.keys.length≤8)&&b.keys.all (fun k=>k.x.length==32&&k.kid==Sha.pname k.x)&&decide (b.keys.map Jwk.kid).Nodup
end Led
theorem sizeJwk2:(Tryz.prog.info? 54).map (·.size)=some 2:=by kernel_rfl
def ldJwk (x:Value):Sem Value:=Instr.loadAt 54 x
def stJwk (x v:Value):Sem Unit:=Instr.storeAt 54 x v
theorem named_ldJwk(x:Value):Instr.loadAt 54 x=ldJwk x:=rfl
theorem named_stJwk(x v:Value):Instr.storeAt 54 x v=stJwk x v:=rfl
attribute [go_sem ↓] named_ldJwk named_stJwk
theorem store_jwk{w:World} {g:Nat} {cs vs:List Value} {t:TypeId} (h:Blk w g cs t) (hn:cs.length=2) (hv:vs.length=2) (h1:∀ v∈vs,v.oneCell'=true) :
  (stJwk (.pointer (some ⟨g,0,none⟩)) (.agg vs.toArray)).run Tryz.prog w=.ok () (w.setCells g 0 vs)∧Blk (w.setCells g 0 vs) g vs t:=by
 have h2:=run_store_arr (P:=Tryz.prog) w 54 g 0 2 sizeJwk2 vs.toArray ⟨by simpa using hv,by simpa using h1⟩ (blk_has h hn) (fun j _=>h.froz _)
 have h3:=set_all vs w g 0 cs t h (by omega)
 simp [hv,← hn] at h3
 exact⟨h2,h3⟩
theorem ldJwk_es{w:World} {A:Option Addr} {n:Nat} {L:List Led.Jwk} (h:Es jwkRow 2 w A n L) {i:Nat} (hi:i<L.length) :
  ∃ b off,A=some ⟨b,off,none⟩∧b<w.heap.size∧∀ w',Below w.heap.size w w'→(ldJwk (.pointer (some ⟨b,off+i * 2,none⟩))).run Tryz.prog w'=.ok (.agg (jwkRow L[i]).toArray) w' :=
 load_es Tryz.underlying54 rfl sizeJwk2 jwkRow_len (by omega) h hi
theorem jwkRow_one(k:Led.Jwk):∀ u∈jwkRow k,u.oneCell'=true:=by
 intro u hu
 simp [jwkRow,tx] at hu
 rcases hu with rfl|rfl <;> rfl
theorem may_any(b:Led.Bundle) (kv:Value) (w:World) (hkv:ElemsAt jwkRow 2 w kv b.keys) (hd:b.domain.length≤9223372036854775807) (hk:b.keys.length≤1000) (hkz:∀ k∈b.keys,k.kid.length≤1000000∧k.x.length≤1000000) (hT:Tab Sha.kkL w) :
  Calls Tryz.prog 176 #[.agg (bunRow (b,kv)).toArray] w fun e w'=>e=.returned (.bool (Led.pmay b))∧Below w.heap.size w w':=by
 obtain⟨A,n,c,rfl,hf,hv⟩:=hkv
 have hl:=hv.len jwkRow_len (by omega)
 obtain⟨W,hW⟩:∃ W,w.alloc (.cells ([.string (str b.domain),.int .i64 b.number,.slice A n c]:List Value).toArray 45)=W:=⟨_,rfl⟩
 have B:Blk W w.heap.size [.string (str b.domain),.int .i64 b.number,.slice A n c] 45:=by rw [← hW]; exact Blk.new _ _ _
 have hbW:Below w.heap.size w W:=by rw [← hW]; exact(Below.refl _ _).alloc (Nat.le_refl _) _
 have hdo:=domain_any b.domain W hd
 have c0:W.cell? ⟨w.heap.size,0,none⟩=some (.string (str b.domain)):=B.cell 0
 have HW:=Lib.hid hW
 have hne:∀ o,Below w.heap.size w (W.alloc o):=fun o=>hbW.alloc hbW.size _
 clear hW
 show Calls Tryz.prog 176 #[.agg #[.string (str b.domain),.int .i64 b.number,.slice A n c]] w _
 by_cases hpre:(Ids.domain b.domain&&within b.number 0 1099511627776&&decide (b.keys.length≤8))=true
 ·simp only [Bool.and_eq_true,decide_eq_true_eq] at hpre
  obtain⟨⟨h1,h2⟩,h3⟩:=hpre; rw [h1] at hdo; have h2':0≤b.number∧b.number≤1099511627776:=by unfold within at h2; simpa using h2
  have hn8:n≤8:=by omega
  have hPM:Hid (Led.pmay b=(b.keys.all (fun k=>k.x.length==32&&k.kid==Sha.pname k.x)&&decide (b.keys.map Jwk.kid).Nodup)):=Lib.hid (by
   unfold Led.pmay; rw [h1,h2,decide_eq_true h3]; rfl)
  clear h1 h2; go_enter Tryz.func176,Tryz.ntmps176
  go_upto_region 1 with fail
  rw [show w.alloc (.cells #[.string (str b.domain),.int .i64 b.number,.slice A n c] 45)=W from HW.out]; go_wp2_with fail
  refine hdo.mono ?_; rintro e w1 ⟨rfl,hb1⟩; have B1:=B.below hb1; have d1:w1.cell? ⟨w.heap.size,1,none⟩=some (.int .i64 b.number):=B1.cell 1; have d2:w1.cell? ⟨w.heap.size,2,none⟩=some (.slice A n c):=B1.cell 2; have hbw1:Below w.heap.size w w1:=hbW.trans (hb1.mono hbW.size); clear hdo c0; have hm:=@run_makeMap Tryz.prog; have BM:Blk (w1.alloc (.map #[] 0)) w.heap.size [.string (str b.domain),.int .i64 b.number,.slice A n c] 45:=B1.alloc _; have e2:(w1.alloc (.map #[] 0)).cell? ⟨w.heap.size,2,none⟩=some (.slice A n c):=BM.cell 2; have hbM:Below w.heap.size w (w1.alloc (.map #[] 0)):=hbw1.alloc hbw1.size _; have hM0:(w1.alloc (.map #[] 0)).heap[w1.heap.size]?=some (mobjS ((b.keys.take 0).map Jwk.kid)):=heap_alloc_new w1 _; have hzr:w.heap.size≤w1.heap.size:=hbw1.size; go_wp2_with fail
  obtain⟨wM,hwM⟩:∃ wM,w1.alloc (.map #[] 0)=wM:=⟨_,rfl⟩; rw [hwM] at hM0 hbM ⊢; have HM0:=Lib.hid hM0; clear hwM BM e2 hM0 d1 d2 B1 hne hbW B HW hm; go_loopw [5,30] (fun _ i wx=>∃ j:Nat,j≤n∧i=.int .i64 (j:Int)∧Below w.heap.size w wx∧Hid (wx.heap[w1.heap.size]?=some (mobjS ((b.keys.take j).map Jwk.kid))∧(b.keys.take j).all (fun k=>k.x.length==32&&k.kid==Sha.pname k.x)=true∧((b.keys.take j).map Jwk.kid).Nodup)) (fun _ i _=>n - (intOf i).toNat)
  case atStart=>exact⟨0,by omega,rfl,hbM,Lib.hid ⟨HM0.out,rfl,List.nodup_nil⟩⟩
  case round =>
   clear HM0 hbM; obtain⟨j,hj,rfl,hbx,HI⟩:=hrel; obtain⟨wx,hwx⟩:∃ wx,wx=wr:=⟨_,rfl⟩; subst hwx; by_cases hlt:j<n
   ·have hjl:j<b.keys.length:=by omega
    obtain⟨bk,ok,rfl,hbk,hld⟩:=ldJwk_es hv hjl; have hld1:=hld wx hbx; have hkz1:=hkz _ (List.getElem_mem hjl); have HK1:=Lib.hid (show b.keys.take (j+1)=b.keys.take j++[b.keys[j]] by rw [List.take_add_one,List.getElem?_eq_getElem hjl]; rfl)
    have HMEM:=Lib.hid (List.getElem_mem hjl); generalize b.keys[j]=k at *; have bn:=Blk.new wx [.string ⟨#[]⟩,.string ⟨#[]⟩] 54; obtain⟨hst,BK⟩:=store_jwk bn rfl (vs:=[.string (str k.kid),.string (str k.x)]) rfl (jwkRow_one k); obtain⟨w2,hw2⟩:∃ w2,(wx.alloc (.cells ([.string ⟨#[]⟩,.string ⟨#[]⟩]:List Value).toArray 54)).setCells wx.heap.size 0 [.string (str k.kid),.string (str k.x)]=w2:=⟨_,rfl⟩; have hcn:Chg [] wx w2:=by rw [← hw2]; exact((Chg.refl _ _).alloc _).setCells _ (.inr (Nat.le_refl _))
    rw [hw2] at hst BK; have hb2:=hcn.below (fun _ h=>by cases h); have hbw2:Below w.heap.size w w2:=hbx.trans (hb2.mono hbx.size); have hld1':(ldJwk (.pointer (some ⟨bk,ok+j * 2,none⟩))).run Tryz.prog wx=.ok (.agg #[.string (str k.kid),.string (str k.x)]) wx:=hld1; have hst':(stJwk (.pointer (some ⟨wx.heap.size,0,none⟩)) (.agg #[.string (str k.kid),.string (str k.x)])).run Tryz.prog (wx.alloc (.cells #[.string ⟨#[]⟩,.string ⟨#[]⟩] 54))=.ok () w2:=hst; have hjz:(j:Int)<(n:Int):=by omega
    have hxs:=str_size k.x; have f0:∀ p,(Batch.grew w2 p).cell? ⟨wx.heap.size,0,none⟩=some (.string (str k.kid)):=fun p=>(BK.below (Batch.grew_below w2 p)).cell 0; have f1:∀ p,(Batch.grew w2 p).cell? ⟨wx.heap.size,1,none⟩=some (.string (str k.x)):=fun p=>(BK.below (Batch.grew_below w2 p)).cell 1; have hr2:w2.heap[w1.heap.size]?=some (mobjS ((b.keys.take j).map Jwk.kid)):=by
     have hlt2:w1.heap.size<wx.heap.size:=(Array.getElem?_eq_some_iff.1 HI.out.1).1; rw [hb2.block _ hlt2]; exact HI.out.1
    have HR2:=Lib.hid hr2; clear hld hld1 hst bn hcn hw2 hr2; by_cases hx32:k.x.length=32
    ·have hxb:((k.x.length:Int) != 32)=false:=by simp; omega
     have hlk:Hid (∀ p,(Instr.lookup 209 (.map (some w1.heap.size)) (.string (str k.kid)) false).run Tryz.prog (Batch.grew w2 p)=.ok (.int .i64 (if k.kid∈(b.keys.take j).map Jwk.kid then 1 else 0)) (Batch.grew w2 p)):=Lib.hid fun p =>
      run_lookS (Batch.grew w2 p) w1.heap.size _ k.kid _ _ _ Tryz.underlying209 Tryz.underlying9 (by kernel_rfl) (by rw [(Batch.grew_below w2 p).block _ (Array.getElem?_eq_some_iff.1 HR2.out).1]; exact HR2.out)
     have hname:Hid (∀ (g c:Nat) (W':World),Below w2.heap.size w2 W'→Bs W' W'.heap.size (some ⟨g,0,none⟩) 32 k.x→Calls Tryz.prog 197 #[.slice (some ⟨g,0,none⟩) 32 c] W' fun e w'=>e=.returned (.string (str (Sha.pname k.x)))∧Below W'.heap.size W' w'):=Lib.hid fun g c W' hb h =>
      pname_any (some ⟨g,0,none⟩) 32 c k.x W' h (by omega) (hT.below (hbw2.trans (hb.mono hbw2.size)))
     obtain⟨nm,hnm⟩:∃ nm,Hid (Sha.pname k.x=nm):=⟨_,Lib.hid rfl⟩; rw [hnm.out] at hname; have hname:Hid (∀ (g c:Nat) (W':World),Below w2.heap.size w2 W'→Bs W' W'.heap.size (some ⟨g,0,none⟩) 32 k.x→Calls Tryz.prog 197 #[.slice (some ⟨g,0,none⟩) 32 c] W' (fun x w''=>∃ v,x=.returned v∧Batch.GR W' w''∧v=.string (str nm))):=Lib.hid fun g c W' h1 h2=>(hname.out g c W' h1 h2).mono fun e w' ⟨he,hb⟩=>⟨_,he,Batch.GR.of hb,rfl⟩; obtain⟨cnt,hcnt⟩:∃ cnt:Int,Hid ((if k.kid∈(b.keys.take j).map Jwk.kid then 1 else 0:Int)=cnt):=⟨_,Lib.hid rfl⟩; rw [hcnt.out] at hlk; obtain⟨okv,hokv⟩:∃ okv:Bool,Hid ((!(k.kid==nm)||decide (0<cnt))=okv):=⟨_,Lib.hid rfl⟩; have hlk:=hlk.out; go_upto_region 7 with fail
     refine Batch.wp_region_turns [([0,1,2,3,4,5,6,7,8],(9,fun v w'=>∃ g c,v=.slice (some ⟨g,0,none⟩) 32 c∧Bs w' w'.heap.size (some ⟨g,0,none⟩) 32 k.x)),([],(10,fun v w'=>v=.string (str (nm)))),([11,12,13,14,15,16,17,18],(19,fun v w'=>v=.bool okv))] [] (by kernel_rfl) (by kernel_rfl) (by
      intro x hx; simp only [List.mem_cons,List.not_mem_nil,or_false] at hx; rcases hx with rfl|rfl|rfl
      ·exact Batch.stable_gr fun v w w' hb ⟨g,c,e,h⟩=>⟨g,c,e,vs_below h hb⟩
      ·exact Batch.stable_gr fun v w w' hb h=>h
      ·exact Batch.stable_gr fun v w w' hb h=>h) ?_
     refine Batch.turnsR_cons ?_; simp only [Batch.pick,List.getD_cons_zero,List.getD_cons_succ]; repeat (go_big_quiet_step (fail))
     refine wpQuiet_nil ?_; refine⟨_,rfl,rfl,?_,?_⟩
     ·intro w5 hw5 _
      obtain⟨wc,cc,hcv,hbs,hbc⟩:=conv_txt k.x w5; rw [hx32] at hcv hbs; go_simp
      exact⟨Batch.GR.of hbc,_,⟨cc,rfl⟩,hbs⟩
     rintro v1 ⟨_,g1,c1,rfl,_⟩; refine Batch.turnsR_cons ?_; simp only [Batch.pick,List.getElem_toArray,List.getElem_cons_succ,List.getElem_cons_zero,Act.put,List.setIfInBounds_toArray,List.set_cons_zero,List.set_cons_succ]; refine wpQuiet_nil ?_; refine⟨_,rfl,rfl,?_,?_⟩
     ·rintro w5 hw5 ⟨_,g2,c2,he,hbs⟩
      injection he with he1 he2 he3
      injection he1 with he1
      injection he1 with he1
      subst he1; go_simp
      exact⟨rfl,hname.out g1 _ w5 hw5.below hbs⟩
     rintro v2 ⟨_,rfl⟩; refine Batch.turnsR_cons ?_; simp only [Batch.pick,List.getD_cons_zero,List.getD_cons_succ,List.getElem_toArray,List.getElem_cons_succ,List.getElem_cons_zero,Act.put,List.setIfInBounds_toArray,List.set_cons_zero,List.set_cons_succ]
     cases hkn:(k.kid==nm)
     ·have hPF:Hid (Led.pmay b=false):=Lib.hid (by
       rw [hPM.out]; have:b.keys.all (fun k=>k.x.length==32&&k.kid==Sha.pname k.x)=false:=by
        rw [List.all_eq_false]; exact⟨k,HMEM.out,by rw [hnm.out,hkn]; simp⟩
       rw [this]; rfl)
      have hoe:okv=true:=by rw [← hokv.out,hkn]; rfl
      subst hoe; repeat (go_big_quiet_step (fail))
      refine wpQuiet_nil ?_; refine⟨_,rfl,rfl,?_,?_⟩
      ·intro w5 hw5 _
       go_simp
       exact⟨Batch.GR.of (Below.refl _ _),by simp⟩
      rintro v3 ⟨_,rfl⟩ w6 hw6 hF; have hbF:=hbw2.trans (hw6.below.mono hbw2.size); clear f0 f1 hlk hname HI HK1 hF hw6; go_wp2_with fail
      (try rw [Batch.Qn_normal])
      (try go_wp2_with fail)
      go_ret; exact⟨by rw [hPF.out]; rfl,hbF⟩
     ·have hoe:okv=decide (0<cnt):=by rw [← hokv.out,hkn]; rfl
      subst hoe; repeat (go_big_quiet_step (fail))
      refine wpQuiet_nil ?_; refine⟨_,rfl,rfl,?_,?_⟩
      ·intro w5 hw5 _
       go_simp
       exact⟨Batch.GR.of (Below.refl _ _),by simp⟩
      rintro v3 ⟨_,rfl⟩ w6 hw6 hF; have hb6:=hw6.below; have hbF:=hbw2.trans (hb6.mono hbw2.size); have BK6:=BK.below hb6; have hr6:w6.heap[w1.heap.size]?=some (mobjS ((b.keys.take j).map Jwk.kid)):=by
       rw [hb6.block _ (Array.getElem?_eq_some_iff.1 HR2.out).1]; exact HR2.out
      by_cases hmem:k.kid∈(b.keys.take j).map Jwk.kid
      ·have hPF:Hid (Led.pmay b=false):=Lib.hid (by
        rw [hPM.out]; have:¬ (b.keys.map Jwk.kid).Nodup:=fun hn=>by
         have e:b.keys.map Jwk.kid=(b.keys.take (j+1)).map Jwk.kid++(b.keys.drop (j+1)).map Jwk.kid:=by rw [← List.map_append,List.take_append_drop]
         rw [e,HK1.out,List.map_append] at hn; have h2:=(List.nodup_append.1 hn).1; exact(List.nodup_append.1 h2).2.2 _ hmem _ (by simp) rfl
        rw [decide_eq_false this,Bool.and_false])
       have hc1:cnt=1:=by rw [← hcnt.out,if_pos hmem]
       subst hc1; clear f0 f1 hlk hname HI HK1 hF hw6 hr6 hmem; go_wp2_with fail
       (try rw [Batch.Qn_normal])
       (try go_wp2_with fail)
       go_ret; exact⟨by rw [hPF.out]; rfl,hbF⟩
      ·have hc0:cnt=0:=by rw [← hcnt.out,if_neg hmem]
       subst hc0; have kf0:w6.cell? ⟨wx.heap.size,0,none⟩=some (.string (str k.kid)):=BK6.cell 0; have hl6:=run_lookS (P:=Tryz.prog) w6 w1.heap.size _ k.kid _ _ _ Tryz.underlying209 Tryz.underlying9 (by kernel_rfl) hr6; rw [if_neg hmem] at hl6; have hu6:=run_updS (P:=Tryz.prog) w6 w1.heap.size _ k.kid _ _ _ Tryz.underlying209 Tryz.underlying9 hmem hr6; have hlt6:=(Array.getElem?_eq_some_iff.1 hr6).1; have hbU:=setMap_below ((b.keys.take j).map Jwk.kid++[k.kid]) hbF hzr; have HNX:=Lib.hid (show (setMap w6 w1.heap.size ((b.keys.take j).map Jwk.kid++[k.kid])).heap[w1.heap.size]?=some (mobjS ((b.keys.take (j+1)).map Jwk.kid))∧(b.keys.take (j+1)).all (fun k=>k.x.length==32&&k.kid==Sha.pname k.x)=true∧((b.keys.take (j+1)).map Jwk.kid).Nodup by
        rw [HK1.out,List.map_append]; refine⟨setMap_at _ hlt6,?_,?_⟩
        ·rw [List.all_append,HI.out.2.1]
         simp [hx32,hnm.out,hkn]
        ·exact nodup_snoc HI.out.2.2 hmem)
       clear f0 f1 hlk hname HI HK1 hF hw6 hr6 hmem HR2 hcnt; generalize setMap w6 w1.heap.size ((b.keys.take j).map Jwk.kid++[k.kid])=wU at *; go_wp2_with fail
       (try rw [Batch.Qn_normal])
       (try go_wp2_with fail)
       go_roundw
       case rel=>exact⟨j+1,by omega,by go_num,hbU,HNX⟩
       case measure=>simp [intOf]; omega
    ·have hxb:((k.x.length:Int) != 32)=true:=by simp; omega
     have hPF:Hid (Led.pmay b=false):=Lib.hid (by
      rw [hPM.out]; have:b.keys.all (fun k=>k.x.length==32&&k.kid==Sha.pname k.x)=false:=by
       rw [List.all_eq_false]; exact⟨k,HMEM.out,by simp [hx32]⟩
      rw [this]; rfl)
     clear HI HK1; go_upto_region 7 with fail
     refine Batch.wp_region_grew (by kernel_rfl) (by kernel_rfl) ?_; repeat (go_big_quiet_step (fail))
     refine wpQuiet_nil ?_; rintro _ ⟨p,rfl⟩; have hbp:=Batch.grew_below w2 p; have hbF:=hbw2.trans (hbp.mono hbw2.size); clear f0 f1; go_wp2_with fail
     go_ret; exact⟨by rw [hPF.out]; rfl,hbF⟩
   ·have hje:j=n:=by omega
    have hPT:Hid (Led.pmay b=true):=Lib.hid (by
     rw [hPM.out]; have hI:=HI.out; rw [hje,← hl,List.take_length] at hI; rw [hI.2.1,decide_eq_true hI.2.2]; rfl)
    have hjge:(n:Int)≤(j:Int):=by omega
    clear hje HI; go_wp2_with fail
    go_ret; exact⟨by rw [hPT.out]; rfl,hbx⟩
 ·have hPF:Hid (Led.pmay b=false):=Lib.hid (by
   unfold Led.pmay; rw [Bool.eq_false_iff.2 hpre]; rfl)
  have hmz:Int.ofNat n=(n:Int):=rfl; go_enter Tryz.func176,Tryz.ntmps176
  go_upto_region 1 with fail
  rw [show w.alloc (.cells #[.string (str b.domain),.int .i64 b.number,.slice A n c] 45)=W from HW.out]
  cases h1:Ids.domain b.domain
  ·rw [h1] at hdo
   clear hpre h1; go_wp2_with fail
   refine hdo.mono ?_; rintro e w1 ⟨rfl,hb1⟩; go_wp2_with fail
   go_ret; exact⟨by rw [hPF.out]; rfl,hbW.trans (hb1.mono hbW.size)⟩
  ·rw [h1] at hdo hpre
   by_cases h2:b.number<0
   ·clear hpre h1
    go_wp2_with fail
    refine hdo.mono ?_; rintro e w1 ⟨rfl,hb1⟩; have B1:=B.below hb1; have d1:w1.cell? ⟨w.heap.size,1,none⟩=some (.int .i64 b.number):=B1.cell 1; go_wp2_with fail
    go_ret; exact⟨by rw [hPF.out]; rfl,hbW.trans (hb1.mono hbW.size)⟩
   ·by_cases h3:1099511627776<b.number
    ·clear hpre h1
     go_wp2_with fail
     refine hdo.mono ?_; rintro e w1 ⟨rfl,hb1⟩; have B1:=B.below hb1; have d1:w1.cell? ⟨w.heap.size,1,none⟩=some (.int .i64 b.number):=B1.cell 1; go_wp2_with fail
     go_ret; exact⟨by rw [hPF.out]; rfl,hbW.trans (hb1.mono hbW.size)⟩
    ·have hw:within b.number 0 1099511627776=true:=by unfold within; simp; omega
     have h8:¬ b.keys.length≤8:=fun h=>hpre (by rw [hw,decide_eq_true h]; rfl)
     have hn8:(8:Int)<(n:Int):=by omega
     clear hpre h1; go_wp2_with fail
     refine hdo.mono ?_; rintro e w1 ⟨rfl,hb1⟩; have B1:=B.below hb1; have d1:w1.cell? ⟨w.heap.size,1,none⟩=some (.int .i64 b.number):=B1.cell 1; have d2:w1.cell? ⟨w.heap.size,2,none⟩=some (.slice A n c):=B1.cell 2; go_wp2_with fail
     go_ret; exact⟨by rw [hPF.out]; rfl,hbW.trans (hb1.mono hbW.size)⟩
end
end Go.Proofs.YtmbpnkacggngkaaGreatDoor
