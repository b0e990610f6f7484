/- Mem, Arr, LedMem, LedSpec, LedMany, LedStepW, LedOpW, Texts, LedIn, ShaSpec, ShaMem, ShaWord, ShaBytes, Batch (put together by bundle.py: only what is needed). -/
import Derived.WalkKit
import Derived.ProofKit
import Derived.OpenShut
import Derived.Lib.Hide
import Derived.Laws.OwnMore
import Derived.Maps.AppendAt
import Derived.Deep.Draws
import Derived.Deep.AppendLies
import Derived.Lib.SlBytesConst
import Derived.Laws.BytesArg
import Derived.RegionTactic
import Derived.OwnWalk
import Derived.Laws.IdiomCopy
import Derived.WalkLawsBesides
import Derived.Test.YtmbpnkacggngkaaGreatDoorProg
import Derived.Laws.Rows
import Derived.Lib.AppendStr
import Derived.Deep.RegionLaw
import Derived.Deep.DeepMust
import Derived.Laws.BitsLemmas
import Derived.BigRegion
import Derived.BigQuiet
import Derived.Deep.RegionWith
import Derived.Lib.Strings
import Derived.Deep.Slices
import Derived.Deep.Strs
import Derived.RowKit
import Derived.Deep.RegionHeld3
import Derived.Deep.CutBlock
import Derived.Deep.DeepCutAuto
import Derived.Deep.Quiet
import Derived.StillTail
import Derived.Below
set_option maxRecDepth 100000
set_option maxHeartbeats 16000000
namespace Go.Proofs.YtmbpnkacggngkaaGreatDoor
section
namespace Mem
open Go.RowKit
theorem block_add(a:Addr) (i:Nat):(a.add i).block=a.block:=by
 unfold Addr.add
 split <;> rfl
theorem add_add(a:Addr) (i j:Nat):(a.add i).add j=a.add (i+j):=by
 unfold Addr.add
 by_cases h1:i=0 <;> by_cases h2:j=0 <;> simp [h1,h2,Nat.add_assoc]
theorem wf_int{x:Int} (h:(Lit.int .i64 x).wf=true) : -9223372036854775808≤x∧x≤9223372036854775807:=by
 simp [Lit.wf,IntKind.min,IntKind.max,IntKind.signed,IntKind.bits] at h
 exact h
structure Vs (w:World) (B size:Nat) (A:Option Addr) (n:Nat) (xs:List Value):Prop where
 len:xs.length=n * size
 rd:∀ j u,xs[j]?=some u→∃ ad,A=some ad∧ad.block<B∧w.cell? (ad.add j)=some u
section
variable {w w':World} {B B' size n:Nat} {A:Option Addr} {xs:List Value}
theorem Vs.empty(w:World) (B size:Nat) (A:Option Addr):Vs w B size A 0 []:=⟨by simp,fun j u h=>by simp at h⟩
theorem Vs.keep(h:Vs w B size A n xs) (hk:∀ p:Addr,p.block<B→w'.cell? p=w.cell? p):Vs w' B size A n xs :=
 ⟨h.len,fun j u hj=>by
  obtain⟨ad,e,hb,hc⟩:=h.rd j u hj; exact⟨ad,e,hb,(hk _ (by rw [block_add]; exact hb)).trans hc⟩⟩
theorem Vs.mono(h:Vs w B size A n xs) (hB:B≤B'):Vs w B' size A n xs :=
 ⟨h.len,fun j u hj=>by
  obtain⟨ad,e,hb,hc⟩:=h.rd j u hj; exact⟨ad,e,by omega,hc⟩⟩
theorem Vs.below(h:Vs w B size A n xs) (hb:Below B w w'):Vs w' B size A n xs:=h.keep fun _ hp=>hb.cell hp
theorem Vs.at_{k:Nat} (h:Vs w B 1 A n xs) (hk:k<n):∃ ad u,A=some ad∧ad.block<B∧xs[k]?=some u∧w.cell? (ad.add k)=some u:=by
 have hl:k<xs.length:=by have:=h.len; omega
 obtain⟨ad,e,hb,hc⟩:=h.rd k _ (List.getElem?_eq_getElem hl)
 exact⟨ad,xs[k],e,hb,List.getElem?_eq_getElem hl,hc⟩
theorem Vs.drop(h:Vs w B size A n xs) {k cap:Nat} (hk:k≤n) (hc:n≤cap) :
  Vs w B size (if cap=k then A else A.map (·.add (k * size))) (n - k) (xs.drop (k * size)):=by
 refine⟨by rw [List.length_drop,h.len,Nat.sub_mul],fun j u hj=>?_⟩
 rw [List.getElem?_drop] at hj
 obtain⟨ad,rfl,hb,hcell⟩:=h.rd _ _ hj
 have hlt:k * size+j<n * size:=by
  have:=(List.getElem?_eq_some_iff.1 hj).1; rw [h.len] at this; exact this
 have hne:¬ cap=k:=by
  rintro rfl; have:n=cap:=by omega
  subst this; omega
 rw [if_neg hne]
 exact⟨ad.add (k * size),rfl,by rw [block_add]; exact hb,by rw [add_add]; exact hcell⟩
theorem Vs.take(h:Vs w B size A n xs) {k:Nat} (hk:k≤n):Vs w B size A k (xs.take (k * size)):=by
 refine⟨by rw [List.length_take,h.len]; exact Nat.min_eq_left (Nat.mul_le_mul_right _ hk),fun j u hj=>?_⟩
 rw [List.getElem?_take] at hj
 split at hj
 ·exact h.rd j u hj
 ·cases hj
theorem Vs.of_own{base:Nat} {e:TypeId} {c:Nat} (h:w.ownsRow base e size (.slice A n c) n xs):Vs w w.heap.size size A n xs:=by
 refine⟨h.1,fun j u hj=>?_⟩
 rcases h.2 with⟨hv,hn⟩|⟨g,cap,cur,hv,_,hh,_⟩
 ·subst hn
  have:xs=[]:=List.eq_nil_of_length_eq_zero (by simpa using h.1); subst this; simp at hj
 ·have hA:A=some ⟨g,0,none⟩:=by injection hv
  subst hA; exact⟨_,rfl,(Array.getElem?_eq_some_iff.1 hh).1,h.cells (g:=g) rfl j u hj⟩
theorem own_form{base:Nat} {e:TypeId} {v:Value} (h:w.ownsRow base e size v n xs):∃ A c,v=.slice A n c∧n≤c∧c≤9223372036854775807:=by
 rcases h.2 with⟨rfl,rfl⟩|⟨g,cap,cur,rfl,_,_,h1,h2,_⟩
 ·exact⟨none,0,rfl,Nat.le_refl _,by omega⟩
 ·exact⟨_,cap,rfl,h1,by unfold maxLen at h2; omega⟩
end
theorem below_grown{a w w1:World} {B base:Nat} {v:Value} {e:TypeId} {size n:Nat} {xs:List Value} (hb:Below B a w) (hg:w.grownBy w1 v.ownBlock) (hB:B≤w.heap.size) (hown:w.ownsRow base e size v n xs) (hbase:B≤base:=by omega):Below B a w1 :=
 hb.grown hg hB fun k hk=>by have:=(hown.lt k hk).1; omega
theorem own_some{w:World} {base:Nat} {e:TypeId} {size n c:Nat} {A:Option Addr} {xs:List Value} (h:w.ownsRow base e size (.slice A n c) n xs) (hn:0<n):∃ g,A=some ⟨g,0,none⟩∧base≤g∧g<w.heap.size:=by
 rcases h.2 with⟨_,h0⟩|⟨g,cap,cur,hv,hg,hh,_⟩
 ·omega
 ·refine⟨g,?_,hg,(Array.getElem?_eq_some_iff.1 hh).1⟩
  injection hv
theorem own_below{w w':World} {base B:Nat} {e:TypeId} {size n:Nat} {v:Value} {xs:List Value} (h:w.ownsRow base e size v n xs) (hb:Below B w w') (hB:w.heap.size≤B):w'.ownsRow base e size v n xs:=by
 refine⟨h.1,?_⟩
 rcases h.2 with h2|⟨g,cap,cur,hv,hg,hh,r⟩
 ·exact .inl h2
 ·have hlt:=(Array.getElem?_eq_some_iff.1 hh).1
  exact .inr ⟨g,cap,cur,hv,hg,by rw [hb.block g (by omega)]; exact hh,r⟩
theorem own_base{w:World} {b b':Nat} {e:TypeId} {size n:Nat} {v:Value} {xs:List Value} (h:w.ownsRow b e size v n xs) (hb:b'≤b):w.ownsRow b' e size v n xs:=by
 refine⟨h.1,?_⟩
 rcases h.2 with h2|⟨g,cap,cur,hv,hg,r⟩
 ·exact .inl h2
 ·exact .inr ⟨g,cap,cur,hv,by omega,r⟩
def bv (l:List UInt8):List Value:=l.map fun b=>.int .u8 (b.toNat:Int)
theorem bv_length(l:List UInt8):(bv l).length=l.length:=by simp [bv]
theorem bv_append(a b:List UInt8):bv (a++b)=bv a++bv b:=by simp [bv]
theorem bv_at(l:List UInt8) (k:Nat):(bv l)[k]?=l[k]?.map fun b=>.int .u8 (b.toNat:Int):=by simp [bv]
theorem bv_take(l:List UInt8) (k:Nat):(bv l).take k=bv (l.take k):=by simp [bv]
theorem bv_drop(l:List UInt8) (k:Nat):(bv l).drop k=bv (l.drop k):=by simp [bv]
theorem bv_set(l:List UInt8) (j:Nat) (b:UInt8):(bv l).set j (.int .u8 (b.toNat:Int))=bv (l.set j b):=by
 simp [bv,List.map_set]
theorem bv_oneCell(l:List UInt8):∀ u∈bv l,u.oneCell'=true:=by
 intro u hu
 simp only [bv,List.mem_map] at hu
 obtain⟨b,_,rfl⟩:=hu
 rfl
def Bs (w:World) (B:Nat) (A:Option Addr) (n:Nat) (l:List UInt8):Prop:=Vs w B 1 A n (bv l)
section
variable {w w':World} {B B' n:Nat} {A:Option Addr} {l:List UInt8}
theorem Bs.len(h:Bs w B A n l):l.length=n:=by have:=Vs.len h; rw [bv_length] at this; omega
theorem Bs.mono(h:Bs w B A n l) (hB:B≤B'):Bs w B' A n l:=Vs.mono h hB
theorem Bs.below(h:Bs w B A n l) (hb:Below B w w'):Bs w' B A n l:=Vs.below h hb
theorem Bs.next(h:Bs w B A n l) (hB:B≤w.heap.size) (hb:Below w.heap.size w w'):Bs w' B A n l:=Vs.below h (hb.mono hB)
theorem Bs.at_{k:Nat} (h:Bs w B A n l) (hk:k<n):∃ ad,∃ hl:k<l.length,A=some ad∧ad.block<B∧w.cell? (ad.add k)=some (.int .u8 (l[k].toNat:Int)):=by
 have hl:k<l.length:=by have:=h.len; omega
 obtain⟨ad,u,e,hb,hu,hc⟩:=Vs.at_ h hk
 rw [bv_at,List.getElem?_eq_getElem hl] at hu
 simp only [Option.map_some,Option.some.injEq] at hu
 subst hu
 exact⟨ad,hl,e,hb,hc⟩
theorem Bs.take(h:Bs w B A n l) {k:Nat} (hk:k≤n):Bs w B A k (l.take k):=by
 have:=Vs.take h hk
 rw [Nat.mul_one,bv_take] at this
 exact this
theorem Bs.drop(h:Bs w B A n l) {k cap:Nat} (hk:k≤n) (hc:n≤cap):Bs w B (if cap=k then A else A.map (·.add k)) (n - k) (l.drop k):=by
 have:=Vs.drop h hk hc
 rw [Nat.mul_one,bv_drop] at this
 exact this
theorem Bs.tail(h:Bs w B A n l) {k cap:Nat} (hk:k≤n) (hc:n≤cap) (hne:¬ cap=k):Bs w B (A.map fun x=>x.add k) (n - k) (l.drop k):=by
 have:=Bs.drop h hk hc
 rw [if_neg hne] at this
 exact this
theorem Bs.of_own{base:Nat} {e:TypeId} {c:Nat} (h:w.ownsRow base e 1 (.slice A n c) n (bv l)):Bs w w.heap.size A n l:=Vs.of_own h
theorem cell_new(w:World) (cs:Array Value) (e:TypeId) (fr:Nat × Nat) (j:Nat):(w.alloc (.cells cs e fr)).cell? ⟨w.heap.size,j,none⟩=cs[j]?:=by
 unfold World.cell?
 show (match (w.heap.push (.cells cs e fr))[w.heap.size]? with|some (.cells cs' _ _)=>_|_=>_)=_
 simp
theorem zero_add_(g j:Nat):(⟨g,0,none⟩:Addr).add j=⟨g,j,none⟩:=by
 unfold Addr.add
 split <;> simp_all
theorem Vs.new(w:World) (cs:Array Value) (e:TypeId) (fr:Nat × Nat) (size n:Nat) (xs:List Value) (h:cs.toList.take (n * size)=xs) (hn:n * size≤cs.size) :
  Vs (w.alloc (.cells cs e fr)) (w.heap.size+1) size (some ⟨w.heap.size,0,none⟩) n xs:=by
 subst h
 refine⟨by simp; omega,fun j u hj=>⟨_,rfl,by simp,?_⟩⟩
 rw [zero_add_,cell_new]
 rw [List.getElem?_take] at hj
 split at hj
 ·simpa using hj
 ·cases hj
def str (l:List UInt8):ByteArray:=⟨l.toArray⟩
theorem str_bytes(l:List UInt8):(str l).toList=l:=by
 rw [ByteArray.toList_eq]
 rfl
theorem str_size(l:List UInt8):(str l).size=l.length:=by simp [str,ByteArray.size]
theorem str_inj{a b:List UInt8} (h:str a=str b):a=b:=by
 have:=congrArg (fun s=>s.data.toList) h
 simpa [str] using this
theorem run_string{P:Program} (h:Bs w B A n l) (src e dst:TypeId) (c:Nat) (hs:P.underlying src=some (.slice e)) (he:P.underlying e=some (.int .u8)) (hd:P.underlying dst=some .string) :
  (convert src dst (.slice A n c)).run P w=.ok (.string (str l)) w:=by
 rcases Nat.eq_zero_or_pos n with h0|h0
 ·subst h0
  have hl:l=[]:=List.eq_nil_of_length_eq_zero h.len; subst hl; rw [run_convert_bytes_string w src dst e A 0 c hs he hd]
  cases A with
  | none=>simp [Conv.bytesToString]; rfl
  | some a => 
   rw [run_bytesToString w a 0 c [] (by simpa using run_loadCells_list (P:=P) w a [] (fun j v hj=>by simp at hj))]; rfl
 ·obtain⟨ad,_,rfl,_,_⟩:=h.at_ h0
  have hl:(loadCells ad n).run P w=.ok ((l.map fun b=>(b.toNat:Int)).map (Value.int .u8)).toArray w:=by
   have:=run_loadCells_list (P:=P) w ad (bv l) (fun j v hj=>by
    obtain⟨ad',e,_,hc⟩:=Vs.rd h j v hj; injection e with e
    subst e; exact hc)
   rw [bv_length,h.len] at this; simpa [bv,List.map_map,Function.comp_def] using this
  rw [run_convert_bytes_string w src dst e _ n c hs he hd,run_bytesToString w ad n c _ hl,foldl_push_bytes]; congr 2
  simp [str,ByteArray.empty,ByteArray.emptyWithCapacity,List.map_map,Function.comp_def]
  rfl
end
theorem run_append{P:Program} (w:World) (base:Nat) (t ty e:TypeId) (i:TypeInfo) (z:Value) (size bytes:Nat) (ht:P.underlying t=some (.slice e)) (hi:P.info? e=some i) (hz:i.zero=some z)
  (hsize:i.size=size) (hby:i.bytes=bytes) (hzs:z.cells.size=size) (hsz:0<size)
  (v:Value) (n:Nat) (xs:List Value) (hown:w.ownsRow base e size v n xs)
  (B:Nat) (A:Option Addr) (m c:Nat) (news:List Value) (hr:Vs w B size A m news) (h1:∀ u∈news,u.oneCell'=true)
  (h63:n+m≤maxLen) (hbytes:(n+m) * bytes≤140737488355328) (hbase:base≤w.heap.size) :
  ∃ v' w',(Builtin.append_ #[t,t] ty #[v,.slice A m c]).run P w=.ok v' w'∧w'.ownsRow base e size v' (n+m) (xs++news)∧w.grownBy w' v.ownBlock ∧
   (v'.ownBlock=v.ownBlock∨v'.ownBlock=some w.heap.size):=by
 by_cases hm:m=0
 ·subst hm
  have hn:news=[]:=List.eq_nil_of_length_eq_zero (by simpa using hr.len); subst hn
  cases A with
  | none =>
   refine⟨v,w,?_,by simpa using hown,World.grownBy.refl w _,.inl rfl⟩; rcases hown.2 with⟨rfl,rfl⟩|⟨g,cap,cur,rfl,_,_,hnc,_⟩
   ·simp [Builtin.append_,run_underlying ht,sizeOf,typeInfo,hi,Builtin.lenOf,Builtin.firstCells]
   ·simp [Builtin.append_,run_underlying ht,sizeOf,typeInfo,hi,Builtin.lenOf,Builtin.firstCells,hnc,storeCells]
  | some ad =>
   obtain⟨v',w',hrun,h2,h3,_,h5⟩:=run_append_own_at (P:=P) w base t ty e i z size bytes ht hi hz hsize hby hzs hsz v n xs hown ad 0 c [] (by simp) (fun j u hj=>by simp at hj) (by simp) h63 hbytes hbase; exact⟨v',w',hrun,h2,h3,h5⟩
 ·have hpos:0<news.length:=by
   rw [hr.len]; exact Nat.mul_pos (by omega) hsz
  obtain⟨ad,rfl,_,_⟩:=hr.rd 0 _ (List.getElem?_eq_getElem hpos); obtain⟨v',w',hrun,h2,h3,_,h5⟩:=run_append_own_at (P:=P) w base t ty e i z size bytes ht hi hz hsize hby hzs hsz v n xs hown ad m c news hr.len (fun j u hj=>by
   obtain⟨ad',e,_,hc⟩:=hr.rd j u hj; injection e with e
   subst e; exact hc) h1 h63 hbytes hbase
  exact⟨v',w',hrun,h2,h3,h5⟩
theorem wp_append{P:Program} (w:World) {o:Oper} {a:Act} {K:Act→World→Prop} {Q:Exit→Act→World→Prop} (s x:Operand) (t:TypeId)
  (ho:o.op=.call { callee:=.builtin .append,args:=#[s,x],argTypes:=#[t,t] })
  (base:Nat) (e:TypeId) (i:TypeInfo) (z:Value) (size bytes:Nat) (ht:P.underlying t=some (.slice e)) (hi:P.info? e=some i) (hz:i.zero=some z)
  (hsize:i.size=size) (hby:i.bytes=bytes) (hzs:z.cells.size=size) (hsz:0<size)
  (v:Value) (n:Nat) (xs:List Value) (hs:a.eval s=v) (hown:w.ownsRow base e size v n xs)
  (B:Nat) (A:Option Addr) (m c:Nat) (news:List Value) (hx:a.eval x=.slice A m c) (hr:Vs w B size A m news) (h1:∀ u∈news,u.oneCell'=true)
  (h63:n+m≤maxLen) (hbytes:(n+m) * bytes≤140737488355328) (hbase:base≤w.heap.size)
  (h:∀ A' c' w',w'.ownsRow base e size (.slice A' (n+m) c') (n+m) (xs++news)→n+m≤c'→c'≤9223372036854775807→w.grownBy w' v.ownBlock→K (a.put o.dst (.slice A' (n+m) c')) w'):o.wp P a w K Q:=by
 obtain⟨v',w',hrun,h2,h3,_⟩:=run_append (P:=P) w base t o.type e i z size bytes ht hi hz hsize hby hzs hsz v n xs hown B A m c news hr h1 h63 hbytes hbase
 obtain⟨A',c',rfl,g1,g2⟩:=own_form h2
 unfold Oper.wp execOp
 simp only [ho,resolve,invoke,builtin,Sem.run_bind,Sem.run_pure,Result.andThen_ok,List.map_toArray,List.map_cons,List.map_nil,hs,hx,hrun]
 exact h A' c' w' h2 g1 g2 h3
theorem wpList_append{P:Program} (w:World) {ops:Array Oper} {rest:List Oper} {o:Oper} {a:Act} {Q:Exit→Act→World→Prop} (hgd:o.guard=none) (s x:Operand) (t:TypeId)
  (ho:o.op=.call { callee:=.builtin .append,args:=#[s,x],argTypes:=#[t,t] })
  (base:Nat) (e:TypeId) (i:TypeInfo) (z:Value) (size bytes:Nat) (ht:P.underlying t=some (.slice e)) (hi:P.info? e=some i) (hz:i.zero=some z)
  (hsize:i.size=size) (hby:i.bytes=bytes) (hzs:z.cells.size=size) (hsz:0<size)
  (v:Value) (n:Nat) (xs:List Value) (hs:a.eval s=v) (hown:w.ownsRow base e size v n xs)
  (B:Nat) (A:Option Addr) (m c:Nat) (news:List Value) (hx:a.eval x=.slice A m c) (hr:Vs w B size A m news) (h1:∀ u∈news,u.oneCell'=true)
  (h63:n+m≤maxLen) (hbytes:(n+m) * bytes≤140737488355328) (hbase:base≤w.heap.size)
  (h:∀ A' c' w',w'.ownsRow base e size (.slice A' (n+m) c') (n+m) (xs++news)→n+m≤c'→c'≤9223372036854775807→w.grownBy w' v.ownBlock→wpList P ops Q rest (a.put o.dst (.slice A' (n+m) c')) w'):wpList P ops Q (o::rest) a w :=
 wpList_plain hgd fun _ hK=>wp_append w s x t ho base e i z size bytes ht hi hz hsize hby hzs hsz v n xs hs hown B A m c news hx hr h1 h63 hbytes hbase fun A' c' w' h2 g1 g2 h3=>hK _ _ (h A' c' w' h2 g1 g2 h3)
theorem wpList_push{P:Program} {w:World} {e:TypeId} {X:Value} {ops:Array Oper} {rest:List Oper} {o:Oper} {a:Act} {Q:Exit→Act→World→Prop} (hgd:o.guard=none) (s x:Operand) (t:TypeId)
  (ho:o.op=.call { callee:=.builtin .append,args:=#[s,x],argTypes:=#[t,t] })
  (base:Nat) (i:TypeInfo) (z:Value) (bytes:Nat) (ht:P.underlying t=some (.slice e)) (hi:P.info? e=some i) (hz:i.zero=some z)
  (hsize:i.size=1) (hby:i.bytes=bytes) (hzs:z.cells.size=1)
  (v:Value) (n:Nat) (xs:List Value) (hs:a.eval s=v) (hown:w.ownsRow base e 1 v n xs)
  (hx:a.eval x=.slice (some ⟨w.heap.size,0,none⟩) 1 1) (hX:X.oneCell'=true)
  (h63:n+1≤maxLen) (hbytes:(n+1) * bytes≤140737488355328) (hbase:base≤w.heap.size)
  (h:∀ A' c' w',w'.ownsRow base e 1 (.slice A' (n+1) c') (n+1) (xs++[X])→n+1≤c'→c'≤9223372036854775807→(w.alloc (.cells #[X] e)).grownBy w' v.ownBlock→wpList P ops Q rest (a.put o.dst (.slice A' (n+1) c')) w'):wpList P ops Q (o::rest) a (w.alloc (.cells #[X] e)) :=
 wpList_append (w.alloc (.cells #[X] e)) hgd s x t ho base e i z 1 bytes ht hi hz hsize hby hzs (by omega) v n xs hs (hown.alloc _) _ _ 1 1 [X] hx
  (Vs.new w #[X] e (0,0) 1 1 [X] rfl (by simp)) (by intro u hu; simp at hu; subst hu; exact hX) h63 hbytes (by simp; omega) h
theorem below_push{a w w1:World} {B base:Nat} {X v:Value} {e:TypeId} {n:Nat} {xs:List Value} (hb:Below B a w) (hg:(w.alloc (.cells #[X] e)).grownBy w1 v.ownBlock) (hB:B≤w.heap.size) (hown:w.ownsRow base e 1 v n xs) (hbase:B≤base):Below B a w1 :=
 below_grown (hb.alloc hB _) hg (by simp; omega) (hown.alloc (.cells #[X] e)) hbase
end Mem
attribute [go_sem] Mem.str_bytes
end
section
namespace Mem
open Go.RowKit
def Has (w:World) (b o n:Nat):Prop:=∀ j,j<n→(w.cell? ⟨b,o+j,none⟩).isSome=true
def Fre (w:World) (b o n:Nat):Prop:=∀ j,j<n→w.frozen? ⟨b,o+j,none⟩=false
def arr (w:World) (b o n:Nat):Array Value:=((List.range n).map fun j=>(w.cell? ⟨b,o+j,none⟩).getD undef).toArray
def Cells (V:Array Value) (n:Nat):Prop:=V.size=n∧∀ v∈V.toList,v.oneCell'=true
section
variable {w:World} {b o n:Nat}
theorem arr_size(w:World) (b o n:Nat):(arr w b o n).size=n:=by simp [arr]
theorem arr_drew:arr w.drew b o n=arr w b o n:=rfl
theorem arr_drewN(q:Nat):arr (w.drewN q) b o n=arr w b o n:=rfl
end
section
variable {P:Program} (w:World) (t:TypeId) (b o n:Nat) (d:TypeDesc) (ht:P.underlying t=some d) (hd:(match d with|.struct _|.array _ _=>true|_=>false)=true) (hi:(P.info? t).map (·.size)=some n)
include ht hd hi
omit hi in
theorem run_isAgg:(isAgg t).run P w=.ok true w:=by
 unfold isAgg
 rw [Sem.run_bind,run_underlying ht w]
 cases d <;> simp_all
omit ht hd in
theorem run_sizeOf:(sizeOf t).run P w=.ok n w:=by
 cases hq:P.info? t with
 | none=>simp [hq] at hi
 | some i =>
  have hs:i.size=n:=by simpa [hq] using hi
  simp [sizeOf,typeInfo,hq,hs]
theorem run_load_arr(h:Has w b o n):(Instr.loadAt t (.pointer (some ⟨b,o,none⟩))).run P w=.ok (.agg (arr w b o n)) w:=by
 have hl:(loadCells ⟨b,o,none⟩ n).run P w=.ok (arr w b o n) w:=by
  have:=run_loadCells_list (P:=P) w ⟨b,o,none⟩ (arr w b o n).toList (fun j v hv=>by
   have hadd:(⟨b,o,none⟩:Addr).add j=⟨b,o+j,none⟩:=by unfold Addr.add; split <;> simp_all
   rw [hadd]; have hj:j<n:=by
    have:=(List.getElem?_eq_some_iff.1 hv).1; simpa [arr] using this
   obtain⟨u,hu⟩:=Option.isSome_iff_exists.1 (h j hj); simp [arr,hj,hu] at hv
   rw [hu,hv])
  rw [Array.length_toList,arr_size] at this; simpa using this
 have h1:=run_isAgg (P:=P) w t d ht hd
 have h2:=run_sizeOf (P:=P) w t n hi
 simp only [Instr.loadAt,Instr.sureAddr,Sem.run_bind,Sem.run_pure,Result.andThen_ok,loadVar,h1,h2,if_true,hl]
omit ht hd in
theorem run_store_arr(V:Array Value) (hV:Cells V n) (h:Has w b o n) (hf:Fre w b o n):(Instr.storeAt t (.pointer (some ⟨b,o,none⟩)) (.agg V)).run P w=.ok () (w.setCells b o V.toList):=by
 have h2:=run_sizeOf (P:=P) w t n hi
 have hl:V.toList.length=n:=by simpa using hV.1
 have hst:=run_storeCells_cells (P:=P) b o V.toList 0 w (fun j hj=>by simpa using h j (by omega)) (fun j hj=>by simpa using hf j (by omega)) hV.2
 simp only [Nat.add_zero] at hst
 have hc:(Value.agg V).cells=V:=rfl
 simp only [Instr.storeAt,Instr.sureAddr,Sem.run_bind,Sem.run_pure,Result.andThen_ok,storeVar,h2,hc,hV.1,ne_eq,not_true_eq_false,if_false,hst]
end
section
variable {w w':World} {b o:Nat} {l:List UInt8}
end
theorem arr_block{w:World} {g n:Nat} {cs:Array Value} {t:TypeId} {fr:Nat × Nat} (h:w.heap[g]?=some (.cells cs t fr)) (hn:cs.size=n):arr w g 0 n=cs∧Has w g 0 n:=by
 subst hn
 have hc:∀ j,w.cell? ⟨g,0+j,none⟩=cs[j]?:=fun j=>by rw [Nat.zero_add,cell_of_row w g j cs t fr h]
 constructor
 ·unfold arr
  apply Array.toList_inj.1
  apply List.ext_getElem?
  intro j; by_cases hj:j<cs.size
  ·have hcj:=hc j
   rw [Nat.zero_add] at hcj; simp [hj,hcj]
  ·simp [hj]
 ·intro j hj
  rw [hc]; simp [hj]
theorem results_arr{P:Program} {fn:Func} {p:Tmp} {ty:TypeId} (h:fn.results=#[.cell p ty]) (tmps:Array Value) (w:World) (g o n:Nat) (d:TypeDesc)
  (hp:tmps.getD p undef=.pointer (some ⟨g,o,none⟩)) (hu:P.underlying ty=some d) (hd:(match d with|.struct _|.array _ _=>true|_=>false)=true) (hi:(P.info? ty).map (·.size)=some n) (hh:Has w g o n) :
  (results fn tmps).run P w=.ok (.agg (arr w g o n)) w:=by
 have hp':tmps[p]?.getD undef=.pointer (some ⟨g,o,none⟩):=by simpa using hp
 have hl:=run_load_arr (P:=P) w ty g o n d hu hd hi hh
 simp only [Instr.loadAt,Instr.sureAddr,Sem.run_bind,Sem.run_pure,Result.andThen_ok] at hl
 simp [results,h,hp',asAddr,hl]
structure Chg (S:List Nat) (w w':World):Prop where
 os:w'.os=w.os
 tape:w'.tape=w.tape
 output:w'.output=w.output
 size:w.heap.size≤w'.heap.size
 block:∀ k,k<w.heap.size→k∉S→w'.heap[k]?=w.heap[k]?
section
variable {S S':List Nat} {a w w':World}
theorem Chg.refl(S:List Nat) (w:World):Chg S w w:=⟨rfl,rfl,rfl,Nat.le_refl _,fun _ _ _=>rfl⟩
theorem Chg.trans(h:Chg S a w) (k:Chg S' w w') (hS:∀ s,s∈S'→s∈S∨a.heap.size≤s):Chg S a w' :=
 ⟨k.os.trans h.os,k.tape.trans h.tape,k.output.trans h.output,Nat.le_trans h.size k.size,fun i hi hn =>
  (k.block i (Nat.lt_of_lt_of_le hi h.size) (fun hm=>by
   rcases hS i hm with h1|h1
   ·exact hn h1
   ·omega)).trans (h.block i hi hn)⟩
theorem Chg.and(h:Chg S a w) (k:Chg S w w'):Chg S a w':=h.trans k fun _ hs=>.inl hs
theorem Chg.of_below(h:Below a.heap.size a w):Chg S a w:=⟨h.os,h.tape,h.output,h.size,fun i hi _=>h.block i hi⟩
theorem Chg.and_below(h:Chg S a w) (k:Below w.heap.size w w'):Chg S a w':=h.and (Chg.of_below k)
theorem Chg.below(h:Chg S a w) (hS:∀ s,s∈S→a.heap.size≤s):Below a.heap.size a w :=
 ⟨h.os,h.tape,h.output,h.size,fun i hi=>h.block i hi fun hm=>by have:=hS i hm; omega⟩
theorem Chg.below'{B:Nat} (h:Chg S a w) (hB:B≤a.heap.size) (hS:∀ s,s∈S→B≤s):Below B a w :=
 ⟨h.os,h.tape,h.output,h.size,fun i hi=>h.block i (by omega) fun hm=>by have:=hS i hm; omega⟩
theorem Chg.mono(h:Chg S a w) (hS:∀ s,s∈S→s∈S'):Chg S' a w:=⟨h.os,h.tape,h.output,h.size,fun i hi hn=>h.block i hi fun hm=>hn (hS i hm)⟩
theorem Chg.alloc(h:Chg S a w) (o:Obj):Chg S a (w.alloc o):=h.and_below ((Below.refl _ _).alloc (Nat.le_refl _) o)
theorem Chg.setCell(h:Chg S a w) {p:Addr} (hp:p.block∈S∨a.heap.size≤p.block) (v:Value):Chg S a (w.setCell p v) :=
 h.trans (S':=[p.block]) ⟨rfl,rfl,rfl,by simp [World.setCell],fun i _ hn=>Below.heap_setCell _ _ _ _ (by simpa using hn)⟩ (by simpa using hp)
theorem Chg.setCells(vs:List Value):∀ {w:World} {b o:Nat},Chg S a w→(b∈S∨a.heap.size≤b)→Chg S a (w.setCells b o vs):=by
 induction vs with
 | nil=>intro w b o h _; exact h
 | cons v r ih =>
  intro w b o h hb; exact ih (h.setCell (p:=⟨b,o,none⟩) hb v) hb
theorem Chg.cell(h:Chg S a w) {p:Addr} (hp:p.block<a.heap.size) (hn:p.block∉S):w.cell? p=a.cell? p:=World.cell?_of_block (h.block _ hp hn)
theorem Chg.frozen(h:Chg S a w) {p:Addr} (hp:p.block<a.heap.size) (hn:p.block∉S):w.frozen? p=a.frozen? p:=World.frozen?_of_block (h.block _ hp hn)
end
end Mem
attribute [go_sem] Mem.arr_drew Mem.arr_drewN World.frozen?_setCells
end
section
open Go.RowKit Mem
theorem info_parts{P:Program} {t:TypeId} {z:Value} {n b:Nat} (h:(P.info? t).map (fun i=>(i.zero,i.size,i.bytes))=some (some z,n,b)) :
  ∃ i,P.info? t=some i∧i.zero=some z∧i.size=n∧i.bytes=b:=by
 cases hi:P.info? t with
 | none=>rw [hi] at h; cases h
 | some i =>
  rw [hi] at h; simp at h
  exact⟨i,rfl,h.1,h.2.1,h.2.2⟩
def Blk (w:World) (g:Nat) (cs:List Value) (t:TypeId):Prop:=w.heap[g]?=some (.cells cs.toArray t (0,0))
section
variable {w w':World} {g:Nat} {cs:List Value} {t:TypeId}
theorem Blk.lt(h:Blk w g cs t):g<w.heap.size:=(Array.getElem?_eq_some_iff.1 h).1
theorem Blk.cell(h:Blk w g cs t) (k:Nat):w.cell? ⟨g,k,none⟩=cs[k]?:=by
 unfold World.cell?
 show (match w.heap[g]? with|some (.cells cs' _ _)=>_|_=>_)=_
 rw [h]
 simp
theorem Blk.froz(h:Blk w g cs t) (k:Nat):w.frozen? ⟨g,k,none⟩=false:=frozen_of_row w g k _ t h
theorem Blk.set(h:Blk w g cs t) (k:Nat) (v:Value):Blk (w.setCell ⟨g,k,none⟩ v) g (cs.set k v) t:=by
 unfold Blk
 rw [heap_setCell_same w g k _ t v h]
 simp
theorem Blk.set_ne(h:Blk w g cs t) {p:Addr} (hp:g≠p.block) (v:Value):Blk (w.setCell p v) g cs t:=by
 unfold Blk
 rw [heap_setCell_other w p g v hp]
 exact h
theorem Blk.chg{S:List Nat} (h:Blk w g cs t) (hc:Chg S w w') (hS:g∉S):Blk w' g cs t:=by
 unfold Blk
 rw [hc.block g h.lt hS]
 exact h
theorem Blk.below(h:Blk w g cs t) (hb:Below w.heap.size w w'):Blk w' g cs t:=h.chg (S:=[]) (Chg.of_below hb) (by simp)
theorem Blk.drew(h:Blk w g cs t):Blk w.drew g cs t:=h
theorem Blk.alloc(h:Blk w g cs t) (o:Obj):Blk (w.alloc o) g cs t:=h.chg (S:=[]) ((Chg.refl _ _).alloc o) (by simp)
theorem Blk.new(w:World) (cs:List Value) (t:TypeId):Blk (w.alloc (.cells cs.toArray t)) w.heap.size cs t:=by
 unfold Blk
 show (w.heap.push (.cells cs.toArray t))[w.heap.size]?=_
 simp
end
end
section
namespace Led
abbrev Txt:=List UInt8
structure Entry where
 n:Int
 path:Txt
 parent:Txt
 ttl:Int
 sels:List Txt
structure Join where
 text:Txt
 name:Txt
 expires:Int
 used:Bool
structure Node where
 name:Txt
 key:Txt
 expires:Int
 seq:Int
 doc:Txt
structure Key where
 kid:Txt
 seed:Txt
 state:Int
 since:Int
structure Jwk where
 kid:Txt
 x:Txt
structure Bundle where
 domain:Txt
 number:Int
 keys:List Jwk
structure Op where
 kind:Int
 n:Int
 name:Txt
 entry:Entry
 join:Join
 node:Node
 key:Key
 bundle:Bundle
def I64 (x:Int):Prop := -9223372036854775808≤x∧x≤9223372036854775807
end Led
end
section
open Go.RowKit Mem Led
theorem own_set{w:World} {base:Nat} {e:TypeId} {size n:Nat} {v:Value} {xs:List Value} (h:w.ownsRow base e size v n xs) {p:Addr} (u:Value) (hp:v.ownBlock≠some p.block):(w.setCell p u).ownsRow base e size v n xs:=by
 refine⟨h.1,?_⟩
 rcases h.2 with h2|⟨g,cap,cur,rfl,hg,hh,r⟩
 ·exact .inl h2
 ·refine .inr ⟨g,cap,cur,rfl,hg,?_,r⟩
  rw [heap_setCell_other w p g u (fun e=>hp (by rw [← e]; rfl))]
  exact hh
end
section
open Go.RowKit Mem Led
section
variable {gc:Nat} {S:List Nat} {K:List (Nat × List Value × TypeId)} {w0 w w':World} {l l':Txt}
end
theorem Vs.lit{w:World} {B size n:Nat} {A:Option Addr} {xs:List Value} (h:Vs w B size A n xs) (h0:0<xs.length):∃ b off,A=some ⟨b,off,none⟩∧b<B∧∀ j u,xs[j]?=some u→w.cell? ⟨b,off+j,none⟩=some u:=by
 obtain⟨ad,e,hb,hc⟩:=Vs.rd h 0 _ (List.getElem?_eq_getElem h0)
 have hsp:=World.cell?_spot hc
 obtain⟨b,o,s⟩:=ad
 simp [Addr.add] at hsp
 subst hsp
 refine⟨b,o,e,hb,fun j u hj=>?_⟩
 obtain⟨ad2,e2,_,c⟩:=Vs.rd h j u hj
 rw [e] at e2
 injection e2 with e2
 subst e2
 have:(⟨b,o,none⟩:Addr).add j=⟨b,o+j,none⟩:=by
  unfold Addr.add; split <;> simp_all
 rw [this] at c
 exact c
end
section
open Go.RowKit Mem Led
def tx (t:Txt):Value:=.string (str t)
def nm (x:Int):Value:=.int .i64 x
def opCells (o:Led.Op) (sv kv:Value):List Value :=
 [nm o.kind,nm o.n,tx o.name,nm o.entry.n,tx o.entry.path,tx o.entry.parent,nm o.entry.ttl,sv,tx o.join.text,tx o.join.name,nm o.join.expires,.bool o.join.used,
  tx o.node.name,tx o.node.key,nm o.node.expires,nm o.node.seq,tx o.node.doc,tx o.key.kid,tx o.key.seed,nm o.key.state,nm o.key.since,tx o.bundle.domain,nm o.bundle.number,kv]
def jv (L:List Jwk):List Value:=(L.map fun k=>[tx k.kid,tx k.x]).flatten
theorem jv_length:∀ L:List Jwk,(jv L).length=L.length * 2
 | []=>rfl
 | k::L=>by
  have ih:=jv_length L; unfold jv at ih ⊢; simp only [List.map_cons,List.flatten_cons,List.length_append,List.length_cons,List.length_nil]; omega
theorem jv_at0:∀ {L:List Jwk} {m:Nat} (h:m<L.length),(jv L)[m * 2]?=some (tx L[m].kid)
 | k::L,0,_=>rfl
 | k::L,m+1,h=>by
  have ih:=jv_at0 (L:=L) (m:=m) (by simpa using h); rw [show (m+1) * 2=m * 2+2 by omega]; exact ih
theorem jv_at1:∀ {L:List Jwk} {m:Nat} (h:m<L.length),(jv L)[m * 2+1]?=some (tx L[m].x)
 | k::L,0,_=>rfl
 | k::L,m+1,h=>by
  have ih:=jv_at1 (L:=L) (m:=m) (by simpa using h); rw [show (m+1) * 2+1=m * 2+1+2 by omega]; exact ih
end
section
open Go.RowKit Mem
theorem infoT:(Tryz.prog.info? 9).map (fun i=>(i.zero,i.size,i.bytes))=some (some (.string ⟨#[]⟩),1,16):=by kernel_rfl
def tv (L:List (List UInt8)):List Value:=L.map fun l=>.string (str l)
theorem tv_length(L:List (List UInt8)):(tv L).length=L.length:=by simp [tv]
theorem tv_append(a b:List (List UInt8)):tv (a++b)=tv a++tv b:=by simp [tv]
def Ts (w:World) (A:Option Addr) (n:Nat) (L:List (List UInt8)):Prop:=Vs w w.heap.size 1 A n (tv L)
theorem Ts.len{w:World} {A:Option Addr} {n:Nat} {L:List (List UInt8)} (h:Ts w A n L):L.length=n:=by have:=Vs.len h; rw [tv_length] at this; omega
theorem Ts.of_own{w:World} {base c n:Nat} {A:Option Addr} {L:List (List UInt8)} {e:TypeId} (h:w.ownsRow base e 1 (.slice A n c) n (tv L)):Ts w A n L:=Vs.of_own h
theorem Ts.lit{w:World} {A:Option Addr} {n:Nat} {L:List (List UInt8)} (h:Ts w A n L) {i:Nat} (hi:i<L.length):∃ blk off,A=some ⟨blk,off,none⟩∧w.cell? ⟨blk,off+i,none⟩=some (.string (str L[i])):=by
 have hl:=h.len
 have key:∀ j,(hj:j<L.length)→∃ ad,A=some ad∧w.cell? (ad.add j)=some (.string (str L[j])):=by
  intro j hj; have hr:(tv L)[j]?=some (.string (str L[j])):=by simp [tv,hj]
  obtain⟨ad,e,_,hc⟩:=Vs.rd h j _ hr; exact⟨ad,e,hc⟩
 obtain⟨ad0,e0,c0⟩:=key 0 (by omega)
 have hsp:=World.cell?_spot c0
 obtain⟨ad,e,c⟩:=key i hi
 obtain rfl:ad0=ad:=by rw [e0] at e; injection e
 obtain⟨b,o,s⟩:=ad0
 simp [Addr.add] at hsp
 subst hsp
 have e9:(⟨b,o,none⟩:Addr).add i=⟨b,o+i,none⟩:=by
  unfold Addr.add; split <;> simp_all
 rw [e9] at c
 exact⟨b,o,e0,c⟩
theorem Ts.chg{w w':World} {S:List Nat} {A:Option Addr} {n:Nat} {L:List (List UInt8)} (h:Ts w A n L) (hS:∀ a,A=some a→0<n→a.block∉S) (hc:Chg S w w'):Ts w' A n L:=by
 refine⟨Vs.len h,fun j u hj=>?_⟩
 obtain⟨ad,rfl,hb,hcell⟩:=Vs.rd h j u hj
 have hn:0<n:=by
  have h1:=(List.getElem?_eq_some_iff.1 hj).1; have h2:=Vs.len h; omega
 refine⟨ad,rfl,Nat.lt_of_lt_of_le hb hc.size,?_⟩
 rw [hc.cell (by rw [block_add]; exact hb) (by rw [block_add]; exact hS ad rfl hn)]
 exact hcell
theorem Ts.below{w w':World} {A:Option Addr} {n:Nat} {L:List (List UInt8)} (h:Ts w A n L) (hb:Below w.heap.size w w'):Ts w' A n L:=h.chg (S:=[]) (by simp) (Chg.of_below hb)
theorem Ts.empty(w:World) (A:Option Addr):Ts w A 0 []:=Vs.empty _ _ _ _
theorem Ts.new(w:World) (L:List (List UInt8)) (e:TypeId):Ts (w.alloc (.cells (tv L).toArray e)) (some ⟨w.heap.size,0,none⟩) L.length L:=by
 refine⟨by rw [tv_length]; omega,fun j u hj=>⟨⟨w.heap.size,0,none⟩,rfl,by simp,?_⟩⟩
 rw [zero_add_,cell_new,List.getElem?_toArray]
 exact hj
end
section
open Go.RowKit Mem Led
abbrev Trod {H:Type} (enc:TypeId × Value→H) (W:World) (spare:Nat→Bool) (held:Bool) (t:TypeId) (cs:List Value):Prop :=
 ∃ fuel y,DataW.trod enc Tryz.prog W 0 spare held fuel t cs=some y
section
variable {H:Type} {enc:TypeId × Value→H} {W:World} {spare:Nat→Bool} {held:Bool} {t:TypeId} {cs:List Value}
theorem Trod.field{fs:Array Field} (h:Trod enc W spare held t cs) (ht:Tryz.prog.underlying t=some (.struct fs)) :
  cs.length=Tryz.prog.cellsOf t∧∀ (i:Nat) (f:Field),fs[i]?=some f→Trod enc W spare held f.type ((cs.drop f.offset).take (Tryz.prog.cellsOf f.type)):=by
 obtain⟨fuel,y,h⟩:=h
 obtain⟨xs,n,_,rfl,hl,hlen,hf⟩:=DataW.trod_struct ht h
 refine⟨hl,fun i f hi=>?_⟩
 have hix:i<xs.length:=by
  rw [hlen]; rcases Nat.lt_or_ge i fs.size with h|h
  ·exact h
  ·rw [Array.getElem?_eq_none h] at hi
   cases hi
 exact⟨n,xs[i],by rw [hf i f hi,List.getElem?_eq_getElem hix]⟩
theorem Trod.num(h:Trod enc W spare held t cs) (ht:Tryz.prog.underlying t=some (.int .i64)):∃ x,cs=[nm x]∧I64 x:=by
 obtain⟨fuel,y,h⟩:=h
 obtain⟨x,rfl,_,wx⟩:=DataW.trod_int ht h
 exact⟨x,rfl,wf_int wx⟩
theorem Trod.text(h:Trod enc W spare held t cs) (ht:Tryz.prog.underlying t=some .string):∃ l:Txt,cs=[tx l]∧l.length≤9223372036854775807:=by
 obtain⟨fuel,y,h⟩:=h
 obtain⟨s,rfl,_,hs⟩:=DataW.trod_string ht h
 refine⟨s.data.toList,?_,?_⟩
 ·cases s
  simp [tx,str]
 ·unfold maxLen at hs
  have:s.data.toList.length=s.size:=(Lib.size_eq s).symm; rw [this]; exact hs
theorem Trod.flag(h:Trod enc W spare held t cs) (ht:Tryz.prog.underlying t=some .bool):∃ b,cs=[.bool b]:=by
 obtain⟨fuel,y,h⟩:=h
 obtain⟨b,rfl,_⟩:=DataW.trod_bool ht h
 exact⟨b,rfl⟩
theorem Trod.slice{e:TypeId} (h:Trod enc W spare held t cs) (ht:Tryz.prog.underlying t=some (.slice e)) :
  ∃ A n c,cs=[.slice A n c]∧n≤c∧c≤9223372036854775807∧∀ i,i<n→∃ a cs',A=some a∧cs'.length=Tryz.prog.cellsOf e∧(∀ j u,cs'[j]?=some u→W.cell? (a.add (i * Tryz.prog.cellsOf e+j))=some u)∧Trod enc W spare held e cs':=by
 obtain⟨fuel,y,h⟩:=h
 rcases Go.Deep.open_slice ht h with⟨rfl,_⟩|⟨a,len,cap,m,n,D,Pl,rfl,_,hl,hm,hmm,_,hx⟩
 ·exact⟨none,0,0,rfl,by omega,by omega,fun i hi=>by omega⟩
 ·refine⟨some a,len,cap,rfl,hl,by unfold maxLen at hm; omega,fun i hi=>?_⟩
  have hlm:len≤m:=by rw [hmm]; split <;> omega
  obtain⟨cs',h1,h2⟩:=hx i (by omega); obtain⟨_,hlen,hcell⟩:=World.cells?_some h1; refine⟨a,cs',rfl,hlen,fun j u hj=>?_,⟨n,_,h2⟩⟩; have hjl:j<cs'.length:=(List.getElem?_eq_some_iff.1 hj).1; have:=hcell j (by omega); rw [add_add] at this; rw [this,← hj]
end
theorem choose_all{α:Type} (d:α) {n:Nat} {q:Nat→α→Prop} (h:∀ i,i<n→∃ x,q i x):∃ L:List α,L.length=n∧∀ i,(hi:i<L.length)→q i L[i]:=by
 classical
 refine⟨(List.range n).map fun i=>if hi:i<n then Classical.choose (h i hi) else d,by simp,fun i hi=>?_⟩
 have hi':i<n:=by simpa using hi
 simp only [List.getElem_map,List.getElem_range,dif_pos hi']
 exact Classical.choose_spec (h i hi')
theorem flat_at{α:Type} (f:α→List Value) (s:Nat) (hs:∀ x,(f x).length=s):∀ (L:List α) (j:Nat) (u:Value),((L.map f).flatten)[j]?=some u→∃ i k,∃ hi:i<L.length,k<s∧j=i * s+k∧(f L[i])[k]?=some u
 | [],j,u,h=>by simp at h
 | x::L,j,u,h=>by
  rw [List.map_cons,List.flatten_cons] at h; rcases Nat.lt_or_ge j s with hj|hj
  ·rw [List.getElem?_append_left (by rw [hs]; exact hj)] at h
   exact⟨0,j,by simp,hj,by omega,h⟩
  ·rw [List.getElem?_append_right (by rw [hs]; exact hj),hs] at h
   obtain⟨i,k,hi,hk,e,hu⟩:=flat_at f s hs L _ u h; refine⟨i+1,k,by simpa using hi,hk,?_,by simpa using hu⟩; rw [Nat.add_mul]; omega
theorem flat_len_of{α:Type} (f:α→List Value) (s:Nat) (hs:∀ x,(f x).length=s):∀ L:List α,((L.map f).flatten).length=L.length * s
 | []=>by simp
 | x::L=>by
  have ih:=flat_len_of f s hs L; rw [List.map_cons,List.flatten_cons,List.length_append,hs,ih,List.length_cons,Nat.add_mul]; omega
theorem vs_of_slice{α:Type} {W:World} {A:Option Addr} {n s:Nat} (f:α→List Value) (hs:∀ x,(f x).length=s) {L:List α} (hL:L.length=n)
  (h:∀ i,(hi:i<L.length)→∃ a,A=some a∧∀ j u,(f L[i])[j]?=some u→W.cell? (a.add (i * s+j))=some u):Vs W W.heap.size s A n ((L.map f).flatten):=by
 refine⟨by rw [flat_len_of f s hs,hL],fun j u hj=>?_⟩
 obtain⟨i,k,hi,hk,rfl,hu⟩:=flat_at f s hs L j u hj
 obtain⟨a,rfl,hc⟩:=h i hi
 have h2:=hc k u hu
 refine⟨a,rfl,?_,h2⟩
 have:=World.block_lt_of_cell? W _ h2
 rwa [block_add] at this
section
set_option maxRecDepth 100000
variable {H:Type} {enc:TypeId × Value→H} {W:World} {spare:Nat→Bool} {held:Bool} {cs:List Value}
theorem Trod.texts(h:Trod enc W spare held 25 cs) :
  ∃ A n c L,cs=[.slice A n c]∧n≤c∧c≤9223372036854775807∧Ts W A n L∧∀ x∈L,x.length≤9223372036854775807:=by
 have c1:Tryz.prog.cellsOf 9=1:=by kernel_rfl
 obtain⟨A,n,c,rfl,hn,hc,hx⟩:=h.slice Tryz.underlying25
 obtain⟨L,hL,hLx⟩:=choose_all (α:=Txt) [] (n:=n) (q:=fun i l=>(∃ a,A=some a∧∀ j u,[tx l][j]?=some u→W.cell? (a.add (i * 1+j))=some u)∧l.length≤9223372036854775807) (fun i hi=>by
  obtain⟨a,cs',e,_,hcell,ht⟩:=hx i hi; obtain⟨l,rfl,hl⟩:=ht.text Tryz.underlying9; rw [c1] at hcell; exact⟨l,⟨a,e,hcell⟩,hl⟩)
 have hv:=vs_of_slice (W:=W) (A:=A) (n:=n) (s:=1) (fun l:Txt=>[tx l]) (fun _=>rfl) hL (fun i hi=>(hLx i hi).1)
 refine⟨A,n,c,L,rfl,hn,hc,?_,fun x hx=>?_⟩
 ·have e:(L.map fun l:Txt=>[tx l]).flatten=tv L:=by
   clear hv hLx hL; induction L with
   | nil=>rfl
   | cons x L ih=>rw [List.map_cons,List.flatten_cons,ih]; rfl
  rw [e] at hv; exact hv
 ·obtain⟨i,hi,rfl⟩:=List.getElem_of_mem hx
  exact(hLx i hi).2
theorem Trod.jwks(h:Trod enc W spare held 43 cs) :
  ∃ A n c L,cs=[.slice A n c]∧n≤c∧c≤9223372036854775807∧L.length=n∧Vs W W.heap.size 2 A n (jv L)∧∀ k∈L,k.kid.length≤9223372036854775807∧k.x.length≤9223372036854775807:=by
 have c1:Tryz.prog.cellsOf 9=1:=by kernel_rfl
 have c2:Tryz.prog.cellsOf 54=2:=by kernel_rfl
 obtain⟨A,n,c,rfl,hn,hc,hx⟩:=h.slice Tryz.underlying43
 obtain⟨L,hL,hLx⟩:=choose_all (α:=Jwk) ⟨[],[]⟩ (n:=n) (q:=fun i k=>(∃ a,A=some a∧∀ j u,[tx k.kid,tx k.x][j]?=some u→W.cell? (a.add (i * 2+j))=some u)∧k.kid.length≤9223372036854775807∧k.x.length≤9223372036854775807) (fun i hi=>by
  obtain⟨a,cs',e,hlen,hcell,ht⟩:=hx i hi; obtain⟨_,hf⟩:=ht.field Tryz.underlying54; rw [c2] at hlen hcell; match cs',hlen with
  | [v0,v1],_ =>
   have f0:=hf 0 _ rfl; have f1:=hf 1 _ rfl; simp only [c1,List.getElem_toArray,List.getElem_cons_zero,List.getElem_cons_succ,List.drop_succ_cons,List.drop_zero,List.take_succ_cons,List.take_zero] at f0 f1; obtain⟨l0,e0,h0⟩:=f0.text Tryz.underlying9; obtain⟨l1,e1,h1⟩:=f1.text Tryz.underlying9; injection e0 with e0
   injection e1 with e1
   subst e0 e1; exact⟨⟨l0,l1⟩,⟨a,e,hcell⟩,h0,h1⟩)
 refine⟨A,n,c,L,rfl,hn,hc,hL,vs_of_slice (fun k:Jwk=>[tx k.kid,tx k.x]) (fun _=>rfl) hL (fun i hi=>(hLx i hi).1),fun x hx=>?_⟩
 obtain⟨i,hi,rfl⟩:=List.getElem_of_mem hx
 exact(hLx i hi).2
end
structure Led.Op.Sized (o:Led.Op):Prop where
 kind:I64 o.kind
 n:I64 o.n
 name:o.name.length≤9223372036854775807
 en:I64 o.entry.n
 epath:o.entry.path.length≤9223372036854775807
 eparent:o.entry.parent.length≤9223372036854775807
 ettl:I64 o.entry.ttl
 esel:∀ x∈o.entry.sels,x.length≤9223372036854775807
 jtext:o.join.text.length≤9223372036854775807
 jname:o.join.name.length≤9223372036854775807
 jexp:I64 o.join.expires
 nname:o.node.name.length≤9223372036854775807
 nkey:o.node.key.length≤9223372036854775807
 nexp:I64 o.node.expires
 nseq:I64 o.node.seq
 ndoc:o.node.doc.length≤9223372036854775807
 kkid:o.key.kid.length≤9223372036854775807
 kseed:o.key.seed.length≤9223372036854775807
 kstate:I64 o.key.state
 ksince:I64 o.key.since
 bdom:o.bundle.domain.length≤9223372036854775807
 bnum:I64 o.bundle.number
 bkey:∀ k∈o.bundle.keys,k.kid.length≤9223372036854775807∧k.x.length≤9223372036854775807
structure OpIn (w:World) (o:Led.Op) (As:Option Addr) (ns cS:Nat) (Ak:Option Addr) (nk cK:Nat):Prop where
 sels:Ts w As ns o.entry.sels
 keys:Vs w w.heap.size 2 Ak nk (jv o.bundle.keys)
 hs:ns≤cS
 hs':cS≤9223372036854775807
 hk:nk≤cK
 hk':cK≤9223372036854775807
 sized:o.Sized
theorem open_op{H:Type} {enc:TypeId × Value→H} {W:World} {spare:Nat→Bool} {held:Bool} {cs:List Value} (h:Trod enc W spare held 47 cs) :
  ∃ o As ns cS Ak nk cK,cs=opCells o (.slice As ns cS) (.slice Ak nk cK)∧OpIn W o As ns cS Ak nk cK:=by
 have ci:Tryz.prog.cellsOf 3=1:=by kernel_rfl
 have ct:Tryz.prog.cellsOf 9=1:=by kernel_rfl
 have cb:Tryz.prog.cellsOf 4=1:=by kernel_rfl
 have cst:Tryz.prog.cellsOf 25=1:=by kernel_rfl
 have csj:Tryz.prog.cellsOf 43=1:=by kernel_rfl
 have ce:Tryz.prog.cellsOf 36=5:=by kernel_rfl
 have cj:Tryz.prog.cellsOf 38=4:=by kernel_rfl
 have cn:Tryz.prog.cellsOf 40=5:=by kernel_rfl
 have ck:Tryz.prog.cellsOf 42=4:=by kernel_rfl
 have cbu:Tryz.prog.cellsOf 45=3:=by kernel_rfl
 have co:Tryz.prog.cellsOf 47=24:=by kernel_rfl
 obtain⟨hl,hf⟩:=h.field Tryz.underlying47
 rw [co] at hl
 match cs,hl with
 | [v0,v1,v2,v3,v4,v5,v6,v7,v8,v9,v10,v11,v12,v13,v14,v15,v16,v17,v18,v19,v20,v21,v22,v23],_ =>
  have f0:=hf 0 _ rfl; have f1:=hf 1 _ rfl; have f2:=hf 2 _ rfl; have f3:=hf 3 _ rfl; have f4:=hf 4 _ rfl; have f5:=hf 5 _ rfl; have f6:=hf 6 _ rfl; have f7:=hf 7 _ rfl; simp only [ci,ct,ce,cj,cn,ck,cbu,List.getElem_toArray,List.getElem_cons_zero,List.getElem_cons_succ,List.drop_succ_cons,List.drop_zero,List.take_succ_cons,List.take_zero] at f0 f1 f2 f3 f4 f5 f6 f7; clear hf h; obtain⟨k0,e0,i0⟩:=f0.num Tryz.underlying3; obtain⟨k1,e1,i1⟩:=f1.num Tryz.underlying3; obtain⟨k2,e2,i2⟩:=f2.text Tryz.underlying9; obtain⟨_,g3⟩:=f3.field Tryz.underlying36; have a0:=g3 0 _ rfl; have a1:=g3 1 _ rfl; have a2:=g3 2 _ rfl; have a3:=g3 3 _ rfl; have a4:=g3 4 _ rfl; simp only [ci,ct,cst,List.getElem_toArray,List.getElem_cons_zero,List.getElem_cons_succ,List.drop_succ_cons,List.drop_zero,List.take_succ_cons,List.take_zero] at a0 a1 a2 a3 a4; obtain⟨k3,e3,i3⟩:=a0.num Tryz.underlying3; obtain⟨k4,e4,i4⟩:=a1.text Tryz.underlying9; obtain⟨k5,e5,i5⟩:=a2.text Tryz.underlying9; obtain⟨k6,e6,i6⟩:=a3.num Tryz.underlying3; obtain⟨As,ns,cS,L,e7,hs1,hs2,hs3,hs4⟩:=a4.texts; obtain⟨_,g4⟩:=f4.field Tryz.underlying38; have b0:=g4 0 _ rfl; have b1:=g4 1 _ rfl; have b2:=g4 2 _ rfl; have b3:=g4 3 _ rfl; simp only [ci,ct,cb,List.getElem_toArray,List.getElem_cons_zero,List.getElem_cons_succ,List.drop_succ_cons,List.drop_zero,List.take_succ_cons,List.take_zero] at b0 b1 b2 b3; obtain⟨k8,e8,i8⟩:=b0.text Tryz.underlying9; obtain⟨k9,e9,i9⟩:=b1.text Tryz.underlying9; obtain⟨k10,e10,i10⟩:=b2.num Tryz.underlying3; obtain⟨k11,e11⟩:=b3.flag Tryz.underlying4; obtain⟨_,g5⟩:=f5.field Tryz.underlying40; have c0:=g5 0 _ rfl; have c1:=g5 1 _ rfl; have c2:=g5 2 _ rfl; have c3:=g5 3 _ rfl; have c4:=g5 4 _ rfl; simp only [ci,ct,List.getElem_toArray,List.getElem_cons_zero,List.getElem_cons_succ,List.drop_succ_cons,List.drop_zero,List.take_succ_cons,List.take_zero] at c0 c1 c2 c3 c4; obtain⟨k12,e12,i12⟩:=c0.text Tryz.underlying9; obtain⟨k13,e13,i13⟩:=c1.text Tryz.underlying9; obtain⟨k14,e14,i14⟩:=c2.num Tryz.underlying3; obtain⟨k15,e15,i15⟩:=c3.num Tryz.underlying3; obtain⟨k16,e16,i16⟩:=c4.text Tryz.underlying9; obtain⟨_,g6⟩:=f6.field Tryz.underlying42; have d0:=g6 0 _ rfl; have d1:=g6 1 _ rfl; have d2:=g6 2 _ rfl; have d3:=g6 3 _ rfl; simp only [ci,ct,List.getElem_toArray,List.getElem_cons_zero,List.getElem_cons_succ,List.drop_succ_cons,List.drop_zero,List.take_succ_cons,List.take_zero] at d0 d1 d2 d3; obtain⟨k17,e17,i17⟩:=d0.text Tryz.underlying9; obtain⟨k18,e18,i18⟩:=d1.text Tryz.underlying9; obtain⟨k19,e19,i19⟩:=d2.num Tryz.underlying3; obtain⟨k20,e20,i20⟩:=d3.num Tryz.underlying3; obtain⟨_,g7⟩:=f7.field Tryz.underlying45; have m0:=g7 0 _ rfl; have m1:=g7 1 _ rfl; have m2:=g7 2 _ rfl; simp only [ci,ct,csj,List.getElem_toArray,List.getElem_cons_zero,List.getElem_cons_succ,List.drop_succ_cons,List.drop_zero,List.take_succ_cons,List.take_zero] at m0 m1 m2; obtain⟨k21,e21,i21⟩:=m0.text Tryz.underlying9; obtain⟨k22,e22,i22⟩:=m1.num Tryz.underlying3; obtain⟨Ak,nk,cK,K,e23,hk1,hk2,hk3,hk4,hk5⟩:=m2.jwks; injection e0 with e0; injection e1 with e1; injection e2 with e2; injection e3 with e3; injection e4 with e4; injection e5 with e5; injection e6 with e6; injection e7 with e7
  injection e8 with e8; injection e9 with e9; injection e10 with e10; injection e11 with e11; injection e12 with e12; injection e13 with e13; injection e14 with e14; injection e15 with e15
  injection e16 with e16; injection e17 with e17; injection e18 with e18; injection e19 with e19; injection e20 with e20; injection e21 with e21; injection e22 with e22; injection e23 with e23
  refine⟨⟨k0,k1,k2,⟨k3,k4,k5,k6,L⟩,⟨k8,k9,k10,k11⟩,⟨k12,k13,k14,k15,k16⟩,⟨k17,k18,k19,k20⟩,⟨k21,k22,K⟩⟩,As,ns,cS,Ak,nk,cK,?_,⟨hs3,hk4,hs1,hs2,hk1,hk2,?_⟩⟩
  ·subst e0 e1 e2 e3 e4 e5 e6 e7 e8 e9 e10 e11 e12 e13 e14 e15 e16 e17 e18 e19 e20 e21 e22 e23
   rfl
  ·exact⟨i0,i1,i2,i3,i4,i5,i6,hs4,i8,i9,i10,i12,i13,i14,i15,i16,i17,i18,i19,i20,i21,i22,hk5⟩
end
section
namespace Sha
open Go.RowKit
def mulIn (a b:List Int) (i:Nat) (out:List Int):Nat→List Int × Int
 | 0=>(out,0)
 | j+1 =>
  let q:=mulIn a b i out j
  let v:=wrap64 (wrap64 (q.1.getD (i+j) 0+wrap64 (a.getD i 0 * b.getD j 0))+q.2)
  (q.1.set (i+j) (v.tmod 65536),wrap64 (v.tdiv 65536))
def mulOut (a b:List Int):Nat→List Int
 | 0=>List.replicate (a.length+b.length) 0
 | i+1 =>
  let q:=mulIn a b i (mulOut a b i) b.length
  q.1.set (i+b.length) (wrap64 (q.1.getD (i+b.length) 0+q.2))
def mul (a b:List Int):List Int:=mulOut a b a.length
theorem mulIn_len(a b:List Int) (i:Nat) (out:List Int):∀ j,(mulIn a b i out j).1.length=out.length
 | 0=>rfl
 | j+1=>by
  simp only [mulIn,List.length_set]; exact mulIn_len a b i out j
theorem mulOut_len(a b:List Int):∀ i,(mulOut a b i).length=a.length+b.length
 | 0=>by simp [mulOut]
 | i+1=>by
  simp only [mulOut,List.length_set,mulIn_len]; exact mulOut_len a b i
theorem mul_len(a b:List Int):(mul a b).length=a.length+b.length:=mulOut_len a b _
def lessFrom (a b:List Int):Nat→Bool
 | 0=>false
 | i+1=>if a.getD i 0=b.getD i 0 then lessFrom a b i else decide (a.getD i 0<b.getD i 0)
def less (a b:List Int):Bool:=lessFrom a b (max a.length b.length)
def dbl:Nat→Int
 | 0=>1
 | j+1=>wrap64 (2 * dbl j)
def target (p:Int) (k:Nat):List Int:=(List.replicate (4 * k+1) 0).set (4 * k) p
def power (k:Nat) (x:List Int):List Int:=if k=3 then mul (mul x x) x else mul x x
def rootStep (p:Int) (k bit:Nat) (x:List Int):List Int :=
 let x1:=x.set (bit / 16) (wrap64 (x.getD (bit / 16) 0+dbl (bit % 16)))
 if less (target p k) (power k x1) then x1.set (bit / 16) (wrap64 (x1.getD (bit / 16) 0 - dbl (bit % 16))) else x1
def rootX (p:Int) (k:Nat):Nat→List Int
 | 0=>[0,0,0,0,0]
 | t+1=>rootStep p k (68 - t) (rootX p k t)
theorem rootStep_len(p:Int) (k bit:Nat) (x:List Int):(rootStep p k bit x).length=x.length:=by
 unfold rootStep
 simp only []
 split <;> simp
theorem rootX_len(p:Int) (k:Nat):∀ t,(rootX p k t).length=5
 | 0=>rfl
 | t+1=>by rw [rootX,rootStep_len,rootX_len p k t]
def rootSum (x:List Int):Int :=
 IntKind.u64.wrap (IntKind.u64.wrap (IntKind.u64.wrap (IntKind.u64.wrap (x.getD 0 0)+IntKind.u64.wrap (IntKind.u64.wrap (x.getD 1 0) * 65536))+IntKind.u64.wrap (IntKind.u64.wrap (x.getD 2 0) * 4294967296))+IntKind.u64.wrap (IntKind.u64.wrap (x.getD 3 0) * 281474976710656))
theorem u64_range(x:Int):0≤IntKind.u64.wrap x∧IntKind.u64.wrap x<18446744073709551616:=by
 rw [IntKind.wrap_u64]
 omega
def root (p:Int) (k:Nat):Nat:=(rootSum (rootX p k 69)).toNat
theorem root_cast(p:Int) (k:Nat):((root p k:Nat):Int)=rootSum (rootX p k 69):=Int.toNat_of_nonneg (u64_range _).1
theorem root_lt(p:Int) (k:Nat):root p k<18446744073709551616:=by
 have h:=root_cast p k
 have h2:rootSum (rootX p k 69)<18446744073709551616:=(u64_range _).2
 omega
def pstep (L:List Nat) (k:Nat):List Nat:=if L.all (fun p=>k % p != 0) then L++[k] else L
def pr:Nat→List Nat
 | 0=>[]
 | t+1=>pstep (pr t) (t+2)
theorem pstep_len(L:List Nat) (k:Nat):L.length≤(pstep L k).length∧(pstep L k).length≤L.length+1:=by
 unfold pstep
 split <;> simp
theorem pr_mono:∀ {s t:Nat},s≤t→(pr s).length≤(pr t).length
 | s,0,h=>by rw [Nat.le_zero.1 h]; exact Nat.le_refl _
 | s,t+1,h=>by
  rcases Nat.lt_or_ge s (t+1) with h1|h1
  ·exact Nat.le_trans (pr_mono (Nat.le_of_lt_succ h1)) (pstep_len _ _).1
  ·rw [Nat.le_antisymm h h1]; exact Nat.le_refl _
theorem pr_407:(pr 407).length=79:=by decide +kernel
theorem pr_408:(pr 408).length=80:=by decide +kernel
theorem pr_short{t:Nat} (h:t<408):(pr t).length<80:=by
 have:=pr_mono (show t≤407 by omega)
 rw [pr_407] at this
 omega
theorem pr_range:∀ (t:Nat),∀ p∈pr t,2≤p∧p<t+2
 | 0,p,h=>by simp [pr] at h
 | t+1,p,h=>by
  unfold pr pstep at h; split at h
  ·simp at h
   rcases h with h|rfl
   ·have:=pr_range t p h; omega
   ·omega
  ·have:=pr_range t p h; omega
def half (m:Nat):Nat:=m / 2+m % 2 * 2147483648
def turn:Nat→Nat→Nat
 | 0,m=>m
 | n+1,m=>half (turn n m)
def down:Nat→Nat→Nat
 | 0,m=>m
 | n+1,m=>down n m / 2
theorem half_lt{m:Nat} (h:m<4294967296):half m<4294967296:=by unfold half; omega
theorem turn_lt{m:Nat} (h:m<4294967296):∀ n,turn n m<4294967296
 | 0=>h
 | n+1=>half_lt (turn_lt h n)
theorem down_lt{m:Nat} (h:m<4294967296):∀ n,down n m<4294967296
 | 0=>h
 | n+1=>by have:=down_lt h n; unfold down; omega
def lastOf (c:Nat) (sh:Bool) (m:Nat):Nat:=if sh then down c m else turn c m
def mixed (a b c:Nat) (sh:Bool) (m:Nat):Nat:=turn a m ^^^ turn b m ^^^ lastOf c sh m
theorem lastOf_lt{m:Nat} (h:m<4294967296) (c:Nat) (sh:Bool):lastOf c sh m<4294967296:=by
 unfold lastOf
 split
 ·exact down_lt h c
 ·exact turn_lt h c
theorem xor_lt{a b:Nat} (ha:a<4294967296) (hb:b<4294967296):a ^^^ b<4294967296:=Nat.xor_lt_two_pow (n:=32) ha hb
theorem and_lt{a b:Nat} (ha:a<4294967296):a &&& b<4294967296:=Nat.lt_of_le_of_lt Nat.and_le_left ha
theorem mixed_lt{m:Nat} (h:m<4294967296) (a b c:Nat) (sh:Bool):mixed a b c sh m<4294967296:=xor_lt (xor_lt (turn_lt h a) (turn_lt h b)) (lastOf_lt h c sh)
def sig0 (m:Nat):Nat:=mixed 7 18 3 true m
def sig1 (m:Nat):Nat:=mixed 17 19 10 true m
def big0 (m:Nat):Nat:=mixed 2 13 22 false m
def big1 (m:Nat):Nat:=mixed 6 11 25 false m
def wordIn (b:List UInt8) (t:Nat):Nat→Nat
 | 0=>0
 | k+1=>wordIn b t k * 256+(b.getD (4 * t+k) 0).toNat
theorem wordIn_lt(b:List UInt8) (t:Nat):∀ k,wordIn b t k<256 ^ k
 | 0=>by simp [wordIn]
 | k+1=>by
  have h:=wordIn_lt b t k; have h2:=(b.getD (4 * t+k) 0).toNat_lt; simp only [wordIn,Nat.pow_succ]; omega
def sched1 (b:List UInt8):Nat→List Nat
 | 0=>[]
 | t+1=>sched1 b t++[wordIn b t 4]
def next (w:List Nat) (u:Nat):Nat:=(w.getD u 0+sig0 (w.getD (u+1) 0)+w.getD (u+9) 0+sig1 (w.getD (u+14) 0)) % 4294967296
def sched2 (b:List UInt8):Nat→List Nat
 | 0=>sched1 b 16
 | u+1=>sched2 b u++[next (sched2 b u) u]
theorem sched1_len(b:List UInt8):∀ t,(sched1 b t).length=t
 | 0=>rfl
 | t+1=>by simp [sched1,sched1_len b t]
theorem sched2_len(b:List UInt8):∀ u,(sched2 b u).length=16+u
 | 0=>sched1_len b 16
 | u+1=>by simp [sched2,sched2_len b u]; omega
def All32 (l:List Nat):Prop:=∀ x∈l,x<4294967296
theorem All32.at_{l:List Nat} (h:All32 l) (i:Nat):l.getD i 0<4294967296:=by
 rw [List.getD_eq_getElem?_getD]
 cases hq:l[i]? with
 | none=>simp
 | some x=>exact h x (List.mem_of_getElem? hq)
theorem All32.snoc{l:List Nat} {x:Nat} (h:All32 l) (hx:x<4294967296):All32 (l++[x]):=by
 intro y hy
 rcases List.mem_append.1 hy with h1|h1
 ·exact h y h1
 ·simp at h1
  subst h1; exact hx
theorem sched1_32(b:List UInt8):∀ t,All32 (sched1 b t)
 | 0=>fun x h=>by simp [sched1] at h
 | t+1=>(sched1_32 b t).snoc (by have:=wordIn_lt b t 4; simpa using this)
theorem sched2_32(b:List UInt8):∀ u,All32 (sched2 b u)
 | 0=>sched1_32 b 16
 | u+1=>(sched2_32 b u).snoc (Nat.mod_lt _ (by omega))
def stepX (k w:Nat) (r:List Nat):Nat :=
 (r.getD 7 0+big1 (r.getD 4 0)+((r.getD 4 0 &&& r.getD 5 0) ^^^ ((4294967295 ^^^ r.getD 4 0) &&& r.getD 6 0))+k+w) % 4294967296
def stepY (r:List Nat):Nat :=
 (big0 (r.getD 0 0)+((r.getD 0 0 &&& r.getD 1 0) ^^^ (r.getD 0 0 &&& r.getD 2 0) ^^^ (r.getD 1 0 &&& r.getD 2 0))) % 4294967296
def step (k w:Nat) (r:List Nat):List Nat :=
 [(stepX k w r+stepY r) % 4294967296,r.getD 0 0,r.getD 1 0,r.getD 2 0,(r.getD 3 0+stepX k w r) % 4294967296,r.getD 4 0,r.getD 5 0,r.getD 6 0]
def steps (K W:List Nat) (s:List Nat):Nat→List Nat
 | 0=>s
 | t+1=>step (K.getD t 0) (W.getD t 0) (steps K W s t)
theorem step_32{r:List Nat} (h:All32 r) (k w:Nat):All32 (step k w r):=by
 intro x hx
 have h0:=h.at_ 0; have h1:=h.at_ 1; have h2:=h.at_ 2; have h4:=h.at_ 4; have h5:=h.at_ 5; have h6:=h.at_ 6
 simp only [step,List.mem_cons,List.not_mem_nil,or_false] at hx
 rcases hx with rfl|rfl|rfl|rfl|rfl|rfl|rfl|rfl <;> first|assumption|exact Nat.mod_lt _ (by omega)
theorem steps_32{s:List Nat} (h:All32 s) (K W:List Nat):∀ t,All32 (steps K W s t)
 | 0=>h
 | t+1=>step_32 (steps_32 h K W t) _ _
theorem steps_len{s:List Nat} (h:s.length=8) (K W:List Nat):∀ t,(steps K W s t).length=8
 | 0=>h
 | _+1=>rfl
def plus (r s:List Nat):Nat→List Nat
 | 0=>[]
 | i+1=>plus r s i++[(r.getD i 0+s.getD i 0) % 4294967296]
theorem plus_len(r s:List Nat):∀ i,(plus r s i).length=i
 | 0=>rfl
 | i+1=>by simp [plus,plus_len r s i]
theorem plus_32(r s:List Nat):∀ i,All32 (plus r s i)
 | 0=>fun x h=>by simp [plus] at h
 | i+1=>(plus_32 r s i).snoc (Nat.mod_lt _ (by omega))
def block (K s:List Nat) (b:List UInt8):List Nat:=plus (steps K (sched2 b 48) s 64) s 8
theorem block_len(K s:List Nat) (b:List UInt8):(block K s b).length=8:=plus_len _ _ 8
theorem block_32(K s:List Nat) (b:List UInt8):All32 (block K s b):=plus_32 _ _ 8
def rem (n:Nat):Nat→Nat
 | 0=>n
 | j+1=>rem n j / 256
def be:Nat→Nat→List UInt8
 | 0,_=>[]
 | k+1,n=>UInt8.ofNat (rem n k % 256)::be k n
theorem be_len:∀ k n,(be k n).length=k
 | 0,_=>rfl
 | k+1,n=>by simp [be,be_len k]
theorem be_set(N j n:Nat) (hj:j<N):(List.replicate (N - j) 0++be j n).set (N - j - 1) (UInt8.ofNat (rem n j % 256))=List.replicate (N - (j+1)) 0++be (j+1) n:=by
 obtain⟨d,hd⟩:∃ d,N - j=d+1:=⟨N - j - 1,by omega⟩
 have h2:N - (j+1)=d:=by omega
 rw [hd,h2,List.replicate_succ',List.append_assoc,List.set_append_right _ _ (by simp)]
 simp [be]
def zeros (n:Nat):Nat:=(64 - (n+9) % 64) % 64
def full (d:List UInt8):List UInt8:=d++[128]++List.replicate (zeros d.length) 0++be 8 (8 * d.length)
theorem full_len(d:List UInt8):(full d).length % 64=0:=by
 unfold full zeros
 simp only [List.length_append,List.length_cons,List.length_nil,List.length_replicate,be_len]
 omega
def states (K F:List Nat) (all:List UInt8):Nat→List Nat
 | 0=>F
 | t+1=>block K (states K F all t) ((all.drop (64 * t)).take 64)
theorem states_len{F:List Nat} (h:F.length=8) (K:List Nat) (all:List UInt8):∀ t,(states K F all t).length=8
 | 0=>h
 | _+1=>block_len _ _ _
theorem states_32{F:List Nat} (h:All32 F) (K:List Nat) (all:List UInt8):∀ t,All32 (states K F all t)
 | 0=>h
 | _+1=>block_32 _ _ _
def digest (s:List Nat):Nat→List UInt8
 | 0=>[]
 | i+1=>digest s i++be 4 (s.getD i 0)
theorem digest_len(s:List Nat):∀ i,(digest s i).length=4 * i
 | 0=>rfl
 | i+1=>by simp [digest,digest_len s i,be_len]; omega
def sum (K F:List Nat) (d:List UInt8):List UInt8:=digest (states K F (full d) ((full d).length / 64)) 8
theorem sum_len(K F:List Nat) (d:List UInt8):(sum K F d).length=32:=digest_len _ 8
def tops (k:Nat):Nat→List Nat
 | 0=>[]
 | i+1=>tops k i++[root (((pr 408).getD i 0:Nat):Int) k / 4294967296]
theorem tops_len(k:Nat):∀ i,(tops k i).length=i
 | 0=>rfl
 | i+1=>by simp [tops,tops_len k i]
theorem tops_32(k:Nat):∀ i,All32 (tops k i)
 | 0=>fun x h=>by simp [tops] at h
 | i+1=>(tops_32 k i).snoc (by have:=root_lt (((pr 408).getD i 0:Nat):Int) k; omega)
def sum256 (d:List UInt8):List UInt8:=sum (tops 3 64) (tops 2 8) d
def hexd (n:Nat):UInt8:=if n<10 then UInt8.ofNat (48+n) else UInt8.ofNat (87+n)
def hexs (h:List UInt8):Nat→List UInt8
 | 0=>[]
 | i+1=>hexs h i++[hexd ((h.getD i 0).toNat / 16)]++[hexd ((h.getD i 0).toNat % 16)]
theorem hexs_len(h:List UInt8):∀ i,(hexs h i).length=2 * i
 | 0=>rfl
 | i+1=>by simp [hexs,hexs_len h i]; omega
def nameOf (d:List UInt8):List UInt8:=hexs (sum256 d) 4
theorem nameOf_len(d:List UInt8):(nameOf d).length=8:=hexs_len _ 4
end Sha
end
section
open Go.RowKit Mem
def iv (l:List Int):List Value:=l.map fun x=>.int .i64 x
theorem iv_length(l:List Int):(iv l).length=l.length:=by simp [iv]
theorem iv_at(l:List Int) {k:Nat} (h:k<l.length):(iv l)[k]?=some (.int .i64 (l.getD k 0)):=by simp [iv,h]
theorem iv_set(l:List Int) (k:Nat) (x:Int):(iv l).set k (.int .i64 x)=iv (l.set k x):=by simp [iv,List.map_set]
def wv (l:List Nat):List Value:=l.map fun x:Nat=>Value.int .u64 (x:Int)
theorem wv_length(l:List Nat):(wv l).length=l.length:=by simp [wv]
theorem wv_at(l:List Nat) {k:Nat} (h:k<l.length):(wv l)[k]?=some (.int .u64 ((l.getD k 0:Nat):Int)):=by simp [wv,h]
theorem wv_append(a b:List Nat):wv (a++b)=wv a++wv b:=by simp [wv]
theorem wv_one(l:List Nat):∀ u∈wv l,u.oneCell'=true:=by
 intro u hu
 simp only [wv,List.mem_map] at hu
 obtain⟨b,_,rfl⟩:=hu
 rfl
def Is (w:World) (A:Option Addr) (n:Nat) (l:List Int):Prop:=Vs w w.heap.size 1 A n (iv l)
def Ws (w:World) (A:Option Addr) (n:Nat) (l:List Nat):Prop:=Vs w w.heap.size 1 A n (wv l)
theorem vs_chg{w w':World} {S:List Nat} {A:Option Addr} {n size:Nat} {xs:List Value} (h:Vs w w.heap.size size A n xs) (hc:Chg S w w') (hS:∀ a,A=some a→a.block∉S):Vs w' w'.heap.size size A n xs :=
 ⟨h.len,fun j u hj=>by
  obtain⟨ad,e,hb,hcell⟩:=h.rd j u hj; exact⟨ad,e,Nat.lt_of_lt_of_le hb hc.size,(hc.cell (by rw [block_add]; exact hb) (by rw [block_add]; exact hS ad e)).trans hcell⟩⟩
theorem vs_below{w w':World} {A:Option Addr} {n size:Nat} {xs:List Value} (h:Vs w w.heap.size size A n xs) (hb:Below w.heap.size w w'):Vs w' w'.heap.size size A n xs:=vs_chg (S:=[]) h (Chg.of_below hb) (by simp)
section
variable {w w':World} {A:Option Addr} {n:Nat} {l:List Int} {m:List Nat}
theorem Is.below(h:Is w A n l) (hb:Below w.heap.size w w'):Is w' A n l:=vs_below h hb
theorem Ws.below(h:Ws w A n m) (hb:Below w.heap.size w w'):Ws w' A n m:=vs_below h hb
theorem Is.len(h:Is w A n l):l.length=n:=by have:=Vs.len h; rw [iv_length] at this; omega
theorem Ws.len(h:Ws w A n m):m.length=n:=by have:=Vs.len h; rw [wv_length] at this; omega
theorem vs_lit{xs:List Value} (h:Vs w w.heap.size 1 A n xs) (hn:0<n):∃ blk off,A=some ⟨blk,off,none⟩∧blk<w.heap.size∧∀ k u,xs[k]?=some u→w.cell? ⟨blk,off+k,none⟩=some u:=by
 have hl:=h.len
 have h0:0<xs.length:=by omega
 obtain⟨ad0,e0,hb,c0⟩:=h.rd 0 _ (List.getElem?_eq_getElem h0)
 have hsp:=World.cell?_spot c0
 obtain⟨b,o,s⟩:=ad0
 simp [Addr.add] at hsp
 subst hsp
 refine⟨b,o,e0,hb,fun k u hk=>?_⟩
 obtain⟨ad,e,_,c⟩:=h.rd k u hk
 rw [e0] at e
 injection e with e
 subst e
 have:(⟨b,o,none⟩:Addr).add k=⟨b,o+k,none⟩:=by
  unfold Addr.add; split <;> simp_all
 rw [this] at c
 exact c
theorem Is.of_blk{g:Nat} {t:TypeId} (h:Blk w g (iv l) t):Is w (some ⟨g,0,none⟩) l.length l :=
 ⟨by rw [iv_length]; omega,fun j u hj=>⟨_,rfl,h.lt,by rw [zero_add_]; exact(h.cell j).trans hj⟩⟩
theorem Ws.of_blk{g:Nat} {t:TypeId} (h:Blk w g (wv m) t):Ws w (some ⟨g,0,none⟩) m.length m :=
 ⟨by rw [wv_length]; omega,fun j u hj=>⟨_,rfl,h.lt,by rw [zero_add_]; exact(h.cell j).trans hj⟩⟩
theorem Ws.of_own{base c:Nat} {e:TypeId} (h:w.ownsRow base e 1 (.slice A n c) n (wv m)):Ws w A n m:=Vs.of_own h
theorem Is.of_own{base c:Nat} {e:TypeId} (h:w.ownsRow base e 1 (.slice A n c) n (iv l)):Is w A n l:=Vs.of_own h
end
theorem infoI:(Tryz.prog.info? 3).map (fun i=>(i.zero,i.size,i.bytes))=some (some (.int .i64 0),1,8):=by kernel_rfl
theorem infoW:(Tryz.prog.info? 151).map (fun i=>(i.zero,i.size,i.bytes))=some (some (.int .u64 0),1,8):=by kernel_rfl
theorem infoB:(Tryz.prog.info? 5).map (fun i=>(i.zero,i.size,i.bytes))=some (some (.int .u8 0),1,1):=by kernel_rfl
theorem made_one(v:Value) (h:v.cells=#[v]) (n:Nat):madeCells v.cells (n * 1)=(List.replicate n v).toArray:=by
 rw [h]
 apply Array.ext
 ·simp [size_madeCells]
 ·intro j h1 h2
  unfold madeCells; simp [Nat.mod_one]
theorem makeI(w:World) (n:Nat) (h:n≤100000):(Instr.makeSlice 111 (.int .i64 (n:Int)) (.int .i64 (n:Int))).run Tryz.prog w=.ok (.slice (some ⟨w.heap.size,0,none⟩) n n) (w.alloc (.cells (iv (List.replicate n 0)).toArray 3)):=by
 obtain⟨i0,hi,hz0,hz1,hz2⟩:=info_parts infoI
 have hr:=run_make (P:=Tryz.prog) w 111 3 i0 _ Tryz.underlying111 hi hz0 .i64 .i64 (n:Int) (n:Int) (by omega) (by omega) (by rw [hz2]; omega) (by omega)
 rw [hz1] at hr
 rw [show (iv (List.replicate n 0)).toArray=madeCells (.int .i64 0:Value).cells (n * 1) by rw [made_one _ rfl]; simp [iv]]
 exact hr
theorem makeB(w:World) (n:Nat) (h:n≤100000):(Instr.makeSlice 62 (.int .i64 (n:Int)) (.int .i64 (n:Int))).run Tryz.prog w=.ok (.slice (some ⟨w.heap.size,0,none⟩) n n) (w.alloc (.cells (bv (List.replicate n 0)).toArray 5)):=by
 obtain⟨i0,hi,hz0,hz1,hz2⟩:=info_parts infoB
 have hr:=run_make (P:=Tryz.prog) w 62 5 i0 _ Tryz.underlying62 hi hz0 .i64 .i64 (n:Int) (n:Int) (by omega) (by omega) (by rw [hz2]; omega) (by omega)
 rw [hz1] at hr
 rw [show (bv (List.replicate n 0)).toArray=madeCells (.int .u8 0:Value).cells (n * 1) by rw [made_one _ rfl]; simp [bv]]
 exact hr
end
section
open Go.RowKit Mem
theorem ret_v{a b:Value} (h:a=b):Ending.returned a=.returned b:=by rw [h]
structure H32 (hc:List Value):Prop where
 len:hc.length=8
 bits:hc[0]?=some (.int .i64 32)
 steps:hc[1]?=some (.int .i64 64)
 one:∀ v∈hc,v.oneCell'=true
theorem nat_tmod(x k:Nat):Int.tmod (x:Int) (k:Int)=((x % k:Nat):Int):=(Int.ofNat_tmod x k).symm
theorem nat_tdiv(x k:Nat):Int.tdiv (x:Int) (k:Int)=((x / k:Nat):Int):=(Int.ofNat_tdiv x k).symm
theorem rtop_any(hc:List Value) (h:H32 hc) (m:Nat) (hm:m<18446744073709551616) (w:World) :
  Calls Tryz.prog 125 #[.agg hc.toArray,.int .u64 (m:Int)] w fun e w'=>e=.returned (.int .u64 ((m / 4294967296:Nat):Int))∧Below w.heap.size w w':=by
 have hbits:=h.bits
 obtain⟨q,hq⟩:∃ q,m / 4294967296=q:=⟨_,rfl⟩
 have hq2:q<4294967296:=by omega
 have hd:Int.tdiv (m:Int) 4294967296=(q:Int):=by
  have:=nat_tdiv m 4294967296; rw [hq] at this; exact this
 rw [hq]
 clear hq
 go_enter Tryz.func125,Tryz.ntmps125
 go_wp2
 go_ret
 exact⟨rfl,(Below.refl _ _).alloc (Nat.le_refl _) _⟩
theorem rlowI(hc:List Value) (h:H32 hc) (x:Int) (w:World) :
  Calls Tryz.prog 158 #[.agg hc.toArray,.int .u64 x] w fun e w'=>e=.returned (.int .u64 (x.tmod 4294967296))∧Below w.heap.size w w':=by
 have hbits:=h.bits
 go_enter Tryz.func158,Tryz.ntmps158
 go_wp2
 go_ret
 exact⟨rfl,(Below.refl _ _).alloc (Nat.le_refl _) _⟩
theorem rturn_any(hc:List Value) (h:H32 hc) (m n:Nat) (hm:m<4294967296) (hn:n≤1000) (w:World) :
  Calls Tryz.prog 182 #[.agg hc.toArray,.int .u64 (m:Int),.int .i64 (n:Int)] w fun e w'=>e=.returned (.int .u64 ((Sha.turn n m:Nat):Int))∧Below w.heap.size w w':=by
 have hbits:=h.bits
 go_enter Tryz.func182,Tryz.ntmps182
 go_wp2
 go_loop [1,7,8] (fun v i _=>∃ j:Nat,j≤n∧i=.int .i64 j∧v=.int .u64 ((Sha.turn j m:Nat):Int)) (fun _ i _=>n - (intOf i).toNat)
 case atStart=>exact⟨0,by omega,rfl,rfl⟩
 case round =>
  obtain⟨j,hj,rfl,rfl⟩:=hrel; by_cases hlt:j<n
  ·have hx:=Sha.turn_lt hm j
   have HS:=Lib.hid (show Sha.turn (j+1) m=Sha.half (Sha.turn j m) from rfl); generalize Sha.turn j m=x at *; unfold Sha.half at HS; have hd:=nat_tdiv x 2; have hr:=nat_tmod x 2; obtain⟨y,hy⟩:∃ y,x / 2=y:=⟨_,rfl⟩; have hy2:y<2147483648:=by omega
   rw [hy] at hd HS; have hd:Int.tdiv (x:Int) 2=(y:Int):=hd; rcases Nat.mod_two_eq_zero_or_one x with ho|ho
   all_goals
    rw [ho] at hr HS; clear hy ho; simp only [Nat.zero_mul,Nat.one_mul,Nat.add_zero] at HS; first|(have hr2:Int.tmod (x:Int) 2=0:=hr)|(have hr2:Int.tmod (x:Int) 2=1:=hr)
    clear hr; go_wp2; all_goals
     go_round
     case rel=>exact⟨j+1,by omega,by go_num,by rw [HS.out] <;> go_num⟩
     case measure=>simp [intOf]; omega
  ·obtain rfl:j=n:=by omega
   go_wp2; go_ret; exact⟨rfl,(Below.refl _ _).alloc (Nat.le_refl _) _⟩
theorem mixed_off(by_:List Int) (w:World) (A:Option Addr) (h:Is w A 3 by_):∃ blk off,A=some ⟨blk,off,none⟩∧blk<w.heap.size∧w.cell? ⟨blk,off,none⟩=some (.int .i64 (by_.getD 0 0))∧w.cell? ⟨blk,off+1,none⟩=some (.int .i64 (by_.getD 1 0))∧w.cell? ⟨blk,off+2,none⟩=some (.int .i64 (by_.getD 2 0)):=by
 have hl:=h.len
 obtain⟨blk,off,e,hb,hx⟩:=vs_lit h (by omega)
 exact⟨blk,off,e,hb,hx 0 _ (iv_at by_ (by omega)),hx 1 _ (iv_at by_ (by omega)),hx 2 _ (iv_at by_ (by omega))⟩
theorem size_H:(Tryz.prog.info? 114).map (·.size)=some 8:=by kernel_rfl
def loadH (x:Value):Sem Value:=Instr.loadAt 114 x
def storeH (x v:Value):Sem Unit:=Instr.storeAt 114 x v
theorem named_load_H(x:Value):Instr.loadAt 114 x=loadH x:=rfl
theorem named_store_H(x v:Value):Instr.storeAt 114 x v=storeH x v:=rfl
attribute [go_sem ↓] named_load_H named_store_H
theorem blk_has{w:World} {g n:Nat} {cs:List Value} {t:TypeId} (h:Blk w g cs t) (hn:cs.length=n):Has w g 0 n:=fun j hj=>by
 rw [Nat.zero_add,h.cell j,List.getElem?_eq_getElem (by omega)]
 rfl
theorem blk_arr{w:World} {g n:Nat} {cs:List Value} {t:TypeId} (h:Blk w g cs t) (hn:cs.length=n):arr w g 0 n=cs.toArray:=(arr_block (n:=n) h (by simpa using hn)).1
theorem load_H{w:World} {g:Nat} {cs:List Value} {t:TypeId} (h:Blk w g cs t) (hn:cs.length=8):(loadH (.pointer (some ⟨g,0,none⟩))).run Tryz.prog w=.ok (.agg cs.toArray) w:=by
 have:=run_load_arr (P:=Tryz.prog) w 114 g 0 8 _ Tryz.underlying114 rfl size_H (blk_has h hn)
 rw [blk_arr h hn] at this
 exact this
theorem set_all:∀ (vs:List Value) (w:World) (g k:Nat) (cs:List Value) (t:TypeId),Blk w g cs t→k+vs.length≤cs.length→Blk (w.setCells g k vs) g (cs.take k++vs++cs.drop (k+vs.length)) t
 | [],w,g,k,cs,t,h,_=>by simpa [World.setCells] using h
 | v::vs,w,g,k,cs,t,h,hk=>by
  have ih:=set_all vs (w.setCell ⟨g,k,none⟩ v) g (k+1) (cs.set k v) t (h.set k v) (by simp at hk ⊢; omega)
  have e:(cs.set k v).take (k+1)++vs++(cs.set k v).drop (k+1+vs.length)=cs.take k++v::vs++cs.drop (k+(v::vs).length):=by
   have hk':k<cs.length:=by simp at hk; omega
   rw [List.take_set,List.drop_set_of_lt (by omega),List.length_cons,show k+1+vs.length=k+(vs.length+1) by omega]; have:(cs.take (k+1)).set k v=cs.take k++[v]:=by
    rw [← List.take_append_getElem hk',List.set_append_right _ _ (by rw [List.length_take]; omega)]
    simp [Nat.min_eq_left (Nat.le_of_lt hk')]
   rw [this]; simp
  rw [e] at ih; exact ih
theorem store_H{w:World} {g:Nat} {cs vs:List Value} {t:TypeId} (h:Blk w g cs t) (hn:cs.length=8) (hv:vs.length=8) (h1:∀ v∈vs,v.oneCell'=true) :
  (storeH (.pointer (some ⟨g,0,none⟩)) (.agg vs.toArray)).run Tryz.prog w=.ok () (w.setCells g 0 vs)∧Blk (w.setCells g 0 vs) g vs t:=by
 have h2:=run_store_arr (P:=Tryz.prog) w 114 g 0 8 size_H vs.toArray ⟨by simpa using hv,by simpa using h1⟩ (blk_has h hn) (fun j _=>h.froz _)
 have h3:=set_all vs w g 0 cs t h (by omega)
 simp [hv,← hn] at h3
 exact⟨h2,h3⟩
theorem rmixed_any(hc:List Value) (h:H32 hc) (a b c m:Nat) (hm:m<4294967296) (ha:a≤64) (hb:b≤64) (hcc:c≤64) (sh:Bool) (A:Option Addr) (cap:Nat) (w:World) (hA:Is w A 3 [(a:Int),b,c]) :
  Calls Tryz.prog 157 #[.agg hc.toArray,.int .u64 (m:Int),.slice A 3 cap,.bool sh] w fun e w'=>e=.returned (.int .u64 ((Sha.mixed a b c sh m:Nat):Int))∧Below w.heap.size w w':=by
 obtain⟨blk,off,rfl,hblk,c0,c1,c2⟩:=mixed_off _ w A hA
 simp only [List.getD_cons_zero,List.getD_cons_succ] at c0 c1 c2
 clear hA
 obtain⟨W,hW⟩:∃ W,w.alloc (.cells hc.toArray 114)=W:=⟨_,rfl⟩
 have B:Blk W w.heap.size hc 114:=by rw [← hW]; exact Blk.new _ _ _
 have hbw:Below w.heap.size w W:=by rw [← hW]; exact(Below.refl _ _).alloc (Nat.le_refl _) _
 have hz:W.heap.size=w.heap.size+1:=by rw [← hW]; simp
 have HW:=Lib.hid hW
 clear hW
 have key:∀ w',Below W.heap.size W w'→w'.cell? ⟨blk,off,none⟩=some (.int .i64 (a:Int))∧w'.cell? ⟨blk,off+1,none⟩=some (.int .i64 (b:Int))∧w'.cell? ⟨blk,off+2,none⟩=some (.int .i64 (c:Int))∧(loadH (.pointer (some ⟨w.heap.size,0,none⟩))).run Tryz.prog w'=.ok (.agg hc.toArray) w'∧Below w.heap.size w w':=fun w' hb'=>by
  have hbb:Below w.heap.size w w':=hbw.trans (hb'.mono hbw.size); exact⟨(hbb.cell (p:=⟨blk,off,none⟩) hblk).trans c0,(hbb.cell (p:=⟨blk,off+1,none⟩) hblk).trans c1,(hbb.cell (p:=⟨blk,off+2,none⟩) hblk).trans c2,load_H (B.below hb') h.len,hbb⟩
 obtain⟨S,hS⟩:∃ S:World→Prop,S=fun w'=>w'.cell? ⟨blk,off,none⟩=some (.int .i64 (a:Int))∧w'.cell? ⟨blk,off+1,none⟩=some (.int .i64 (b:Int))∧w'.cell? ⟨blk,off+2,none⟩=some (.int .i64 (c:Int))∧(loadH (.pointer (some ⟨w.heap.size,0,none⟩))).run Tryz.prog w'=.ok (.agg hc.toArray) w'∧Below W.heap.size W w':=⟨_,rfl⟩
 have keyS:∀ w',Below W.heap.size W w'→S w':=fun w' hb'=>by
  rw [hS]; obtain⟨d0,d1,d2,dl,_⟩:=key w' hb'; exact⟨d0,d1,d2,dl,hb'⟩
 have turn_:∀ n:Nat,n≤64→∀ w',S w'→Calls Tryz.prog 182 #[.agg hc.toArray,.int .u64 (m:Int),.int .i64 (n:Int)] w' fun e w''=>e=.returned (.int .u64 ((Sha.turn n m:Nat):Int))∧S w'':=fun n hn w' hs =>
  have hb':Below W.heap.size W w':=by rw [hS] at hs; exact hs.2.2.2.2
  (rturn_any hc h m n hm (by omega) w').mono fun e w'' ⟨he,hb2⟩=>⟨he,keyS _ (hb'.trans (hb2.mono hb'.size))⟩
 have S0:=keyS W.drew (Below.refl _ _).drew
 have S00:=keyS W (Below.refl _ _)
 subst hS
 dsimp only at turn_ S0 S00
 have TURN:=Lib.hid turn_
 have HS0:=Lib.hid S0
 have HS00:=Lib.hid S00
 have key2:∀ w',Below W.heap.size W w'→(loadH (.pointer (some ⟨w.heap.size,0,none⟩))).run Tryz.prog w'=.ok (.agg hc.toArray) w':=fun w' hb'=>(key w' hb').2.2.2.1
 clear key c0 c1 c2 B turn_ S0 S00 keyS
 go_enter Tryz.func157,Tryz.ntmps157
 go_wp2_with fail
 rw [HW.out]
 go_region_held3 (fun w'=>w'.cell? ⟨blk,off,none⟩=some (.int .i64 (a:Int))∧w'.cell? ⟨blk,off+1,none⟩=some (.int .i64 (b:Int))∧w'.cell? ⟨blk,off+2,none⟩=some (.int .i64 (c:Int))∧(loadH (.pointer (some ⟨w.heap.size,0,none⟩))).run Tryz.prog w'=.ok (.agg hc.toArray) w'∧Below W.heap.size W w') (first|exact HS0.out|exact HS00.out|assumption|go_keep) (first|(go_at_call 182; refine(TURN.out c hcc _ (by first|assumption|exact HS0.out)).mono ?_; rintro e w1 ⟨rfl,hs1⟩))
 clear HS0 HS00 HW
 obtain⟨k0,k1,k2,kl,hb1⟩:=hs1
 have hbw1:Below w.heap.size w w1:=hbw.trans (hb1.mono hbw.size)
 have hb1d:=hb1.drew
 have d0:w1.drew.cell? ⟨blk,off,none⟩=some (.int .i64 (a:Int)):=k0
 have d1:w1.drew.cell? ⟨blk,off+1,none⟩=some (.int .i64 (b:Int)):=k1
 have d2:w1.drew.cell? ⟨blk,off+2,none⟩=some (.int .i64 (c:Int)):=k2
 have HS1:=Lib.hid (show w1.drew.cell? ⟨blk,off,none⟩=some (.int .i64 (a:Int))∧w1.drew.cell? ⟨blk,off+1,none⟩=some (.int .i64 (b:Int))∧w1.drew.cell? ⟨blk,off+2,none⟩=some (.int .i64 (c:Int))∧(loadH (.pointer (some ⟨w.heap.size,0,none⟩))).run Tryz.prog w1.drew=.ok (.agg hc.toArray) w1.drew∧Below W.heap.size W w1.drew from⟨d0,d1,d2,key2 w1.drew hb1d,hb1d⟩)
 clear d0 d1 d2 key2
 obtain⟨z,hz1⟩:∃ z,Hid (Sha.lastOf c sh m=z):=⟨_,Lib.hid rfl⟩
 have HM:=Lib.hid (show Sha.mixed a b c sh m=Sha.turn a m ^^^ Sha.turn b m ^^^ z by rw [← hz1.out]; rfl)
 have ht1:=Sha.turn_lt hm a
 have ht2:=Sha.turn_lt hm b
 have ht3:z<4294967296:=by rw [← hz1.out]; exact Sha.lastOf_lt hm c sh
 have hx1:=u64_xor_nat (Sha.turn a m) (Sha.turn b m) (by omega) (by omega)
 have hx2:=u64_xor_nat (Sha.turn a m ^^^ Sha.turn b m) z (by have:=Sha.xor_lt ht1 ht2; omega) (by omega)
 obtain⟨u,hu⟩:∃ u,Sha.turn a m ^^^ Sha.turn b m=u:=⟨_,rfl⟩
 rw [hu] at hx1 hx2 HM
 obtain⟨r,hr⟩:∃ r,u ^^^ z=r:=⟨_,rfl⟩
 rw [hr] at hx2 HM
 clear hu hr ht1 ht2 ht3 k0 k1 k2 kl hz hblk hb1d
 cases sh
 ·have HL:Sha.turn c m=z:=hz1.out
  rw [HL]; clear HL; go_wp2_with fail
  go_region_held3 (fun w'=>w'.cell? ⟨blk,off,none⟩=some (.int .i64 (a:Int))∧w'.cell? ⟨blk,off+1,none⟩=some (.int .i64 (b:Int))∧w'.cell? ⟨blk,off+2,none⟩=some (.int .i64 (c:Int))∧(loadH (.pointer (some ⟨w.heap.size,0,none⟩))).run Tryz.prog w'=.ok (.agg hc.toArray) w'∧Below W.heap.size W w') (first|exact HS1.out|assumption|go_keep) (first|(go_at_call 182; refine(TURN.out _ (by assumption) _ (by first|assumption|exact HS1.out)).mono ?_; rintro e wq ⟨rfl,hs1⟩))
  obtain⟨_,_,_,_,hbq⟩:=hs1; go_wp2; go_ret; exact⟨ret_v (by rw [HM.out]; rfl),hbw.trans (hbq.mono hbw.size)⟩
 ·have hdn:∀ j,Sha.down j m<4294967296:=fun j=>Sha.down_lt hm j
  have HL:Hid (Sha.down c m=z):=Lib.hid hz1.out; obtain⟨_,_,k2,_,_⟩:=HS1.out; have k2:w1.cell? ⟨blk,off+2,none⟩=some (.int .i64 (c:Int)):=k2; go_wp2_with fail
  go_loop [9,10] (fun v i=>∃ j:Nat,j≤c∧i=.int .i64 j∧v=.int .u64 ((Sha.down j m:Nat):Int)) (fun _ i=>c - (intOf i).toNat)
  case atStart=>exact⟨0,by omega,rfl,rfl⟩
  case round =>
   obtain⟨j,hj,rfl,rfl⟩:=hrel; by_cases hlt:j<c
   ·have hd1:=hdn j
    have hd:=nat_tdiv (Sha.down j m) 2; have HD:=Lib.hid (show Sha.down (j+1) m=Sha.down j m / 2 from rfl); generalize Sha.down j m=x at *; obtain⟨y,hy⟩:∃ y,x / 2=y:=⟨_,rfl⟩; have hy2:y<4294967296:=by omega
    rw [hy] at hd HD; have hd:Int.tdiv (x:Int) 2=(y:Int):=hd; clear hy; go_wp2_with fail
    go_round
    case rel=>exact⟨j+1,by omega,by go_num,by rw [HD.out]⟩
    case measure=>simp [intOf]; omega
   ·obtain rfl:c=j:=by omega
    rw [HL.out]; clear hdn k2; go_wp2_with fail
    go_region_held3 (fun w'=>w'.cell? ⟨blk,off,none⟩=some (.int .i64 (a:Int))∧w'.cell? ⟨blk,off+1,none⟩=some (.int .i64 (b:Int))∧w'.cell? ⟨blk,off+2,none⟩=some (.int .i64 (c:Int))∧(loadH (.pointer (some ⟨w.heap.size,0,none⟩))).run Tryz.prog w'=.ok (.agg hc.toArray) w'∧Below W.heap.size W w') (first|exact HS1.out|assumption|go_keep) (first|(go_at_call 182; refine(TURN.out _ (by assumption) _ (by first|assumption|exact HS1.out)).mono ?_; rintro e wq ⟨rfl,hs1⟩))
    obtain⟨_,_,_,_,hbq⟩:=hs1; go_wp2; go_ret; exact⟨ret_v (by rw [HM.out]; rfl),hbw.trans (hbq.mono hbw.size)⟩
end
section
open Go.RowKit Mem
theorem rem_le(n:Nat):∀ j,Sha.rem n j≤n
 | 0=>Nat.le_refl _
 | j+1=>Nat.le_trans (Nat.div_le_self _ _) (rem_le n j)
theorem rbytes_any(hc:List Value) (h:H32 hc) (m:Nat) (hm:m<18446744073709551616) (w:World) :
  Calls Tryz.prog 128 #[.agg hc.toArray,.int .u64 (m:Int)] w fun e w'=>e=.returned (.slice (some ⟨w.heap.size+1,0,none⟩) 4 4)∧Blk w' (w.heap.size+1) (bv (Sha.be 4 m)) 5∧Below w.heap.size w w':=by
 have hbits:=h.bits
 have B:=Blk.new w hc 114
 obtain⟨W,hW⟩:∃ W,w.alloc (.cells hc.toArray 114)=W:=⟨_,rfl⟩
 have hz:W.heap.size=w.heap.size+1:=by rw [← hW]; simp
 have hbW:Below w.heap.size w W:=by rw [← hW]; exact(Below.refl _ _).alloc (Nat.le_refl _) _
 have hmk:(Instr.makeSlice 62 (.int .i64 4) (.int .i64 4)).run Tryz.prog W=_:=makeB W 4 (by omega)
 have B1:=Blk.new W (bv (List.replicate 4 0)) 5
 obtain⟨W2,hW2⟩:∃ W2,W.alloc (.cells (bv (List.replicate 4 0)).toArray 5)=W2:=⟨_,rfl⟩
 have hb2:Below w.heap.size w W2:=by rw [← hW2]; exact hbW.alloc (by omega) _
 have B0:Blk W2 w.heap.size hc 114:=by rw [← hW2,← hW]; exact B.alloc _
 rw [hW2,hz] at B1
 rw [hW2,hz,← hW] at hmk
 have k0:W2.cell? ⟨w.heap.size,0,none⟩=some (.int .i64 32):=(B0.cell 0).trans hbits
 have hB2:Blk W2 (w.heap.size+1) (bv (List.replicate (4 - 0) 0++Sha.be 0 m)) 5:=B1
 clear B B1 hW2 hW hz hbW
 go_enter Tryz.func128,Tryz.ntmps128
 go_wp2
 go_loopw [1,6] (fun v i wr=>∃ j:Nat,j≤4∧i=.int .i64 (3 - (j:Int))∧v=.int .u64 ((Sha.rem m j:Nat):Int)∧Below w.heap.size w wr∧Blk wr (w.heap.size+1) (bv (List.replicate (4 - j) 0++Sha.be j m)) 5) (fun _ i _=>(intOf i+1).toNat)
 case atStart=>exact⟨0,by omega,rfl,rfl,hb2,hB2⟩
 case round =>
  clear hmk k0 B0 hB2 hb2 hbits; obtain⟨j,hj,rfl,rfl,hb,hB⟩:=hrel; by_cases h4:j<4
  ·obtain⟨d,hd⟩:∃ d:Nat,3 - j=d:=⟨_,rfl⟩
   have e1:(3 - (j:Int))=(d:Int):=by omega
   have hd3:d≤3:=by omega
   have hx:Sha.rem m j<18446744073709551616:=Nat.lt_of_le_of_lt (rem_le m j) hm; have HS:=Lib.hid (Sha.be_set 4 j m h4); rw [show 4 - j - 1=d by omega] at HS; have HR:=Lib.hid (show Sha.rem m (j+1)=Sha.rem m j / 256 from rfl); have hl:(List.replicate (4 - j) 0++Sha.be j m).length=4:=by rw [List.length_append,List.length_replicate,Sha.be_len]; omega
   generalize List.replicate (4 - j) 0++Sha.be j m=O at *; generalize Sha.rem m j=x at *; have cd:wr.cell? ⟨w.heap.size+1,d,none⟩=some (.int .u8 (O[d]'(by omega)).toNat):=by
    rw [hB.cell d,bv_at,List.getElem?_eq_getElem (by omega)]; rfl
   have cf:wr.frozen? ⟨w.heap.size+1,d,none⟩=false:=hB.froz d; have ch:w.heap.size+1<wr.heap.size:=hB.lt; generalize (O[d]'(by omega)).toNat=od at *; have hr:=nat_tmod x 256; have hq:=nat_tdiv x 256; obtain⟨r,hr2⟩:∃ r,x % 256=r:=⟨_,rfl⟩; obtain⟨q,hq2⟩:∃ q,x / 256=q:=⟨_,rfl⟩; have hr3:r<256:=by omega
   have hq3:q<18446744073709551616:=by omega
   rw [hr2] at hr HS; rw [hq2] at hq HR; have hr:Int.tmod (x:Int) 256=(r:Int):=hr; have hq:Int.tdiv (x:Int) 256=(q:Int):=hq; have hB3:=hB.set d (.int .u8 ((UInt8.ofNat r).toNat:Int)); rw [bv_set,HS.out,UInt8.toNat_ofNat_of_lt' (show r<256 from hr3)] at hB3; have hms:(intOf (Value.int IntKind.i64 ((d:Int) - 1))+1).toNat<(intOf (Value.int IntKind.i64 (d:Int))+1).toNat:=by
    show ((d:Int) - 1+1).toNat<((d:Int)+1).toNat
    omega
   have HE:=Lib.hid (show ((d:Int) - 1)=3 - ((j+1:Nat):Int) by omega); have HB3:=Lib.hid hB3; have hb3:=hb.setCell (p:=⟨w.heap.size+1,d,none⟩) (by simp) (.int .u8 (r:Int)); clear hr2 hq2 hd hB HS hl hx hB3; rw [e1]; clear e1; go_wp2; go_roundw
   case rel=>exact⟨j+1,by omega,by rw [HE.out],by rw [HR.out],hb3,HB3.out⟩
   case measure=>exact hms
  ·obtain rfl:j=4:=by omega
   go_wp2; go_ret; exact⟨rfl,by simpa using hB,hb⟩
end
section
namespace Batch
open Go.RowKit
def lay (listed:Array Bool) (B:List Nat):Array Bool:=B.foldl (fun l i=>l.setIfInBounds i true) listed
theorem lay_size:∀ (B:List Nat) (listed:Array Bool),(lay listed B).size=listed.size
 | [],_=>rfl
 | i::B,listed=>by
  show (lay (listed.setIfInBounds i true) B).size=_
  rw [lay_size B]; simp
theorem lay_keep:∀ (B:List Nat) (listed:Array Bool) (j:Nat),listed.getD j false=true→(lay listed B).getD j false=true
 | [],_,_,h=>h
 | _::B,_,j,h=>lay_keep B _ j (getD_set_true h)
theorem lay_out:∀ (B:List Nat) (listed:Array Bool) (j:Nat),j∉B→(lay listed B).getD j true=listed.getD j true
 | [],_,_,_=>rfl
 | i::B,listed,j,h=>by
  show (lay (listed.setIfInBounds i true) B).getD j true=_
  rw [lay_out B _ j (fun hm=>h (List.mem_cons_of_mem _ hm)),getD_set_ne true (fun e=>h (by rw [e]; exact List.mem_cons_self))]
theorem set_self{listed:Array Bool} {i:Nat} (h:i<listed.size):(listed.setIfInBounds i true).getD i false=true:=by simp [h]
theorem lay_in:∀ (B:List Nat) (listed:Array Bool) (j:Nat),j∈B→j<listed.size→(lay listed B).getD j false=true
 | [],_,_,h,_=>by cases h
 | i::B,listed,j,h,hj=>by
  rcases List.mem_cons.1 h with rfl|h
  ·exact lay_keep B _ j (set_self hj)
  ·exact lay_in B _ j h (by simpa using hj)
theorem getD_swap{listed:Array Bool} {j:Nat} (hj:j<listed.size) (d:Bool):listed.getD j d=listed.getD j false:=by
 simp [hj]
section
variable {P:Program} {ops:Array Oper} {md:Region.Mode} {C:World→Prop}
def depsOK (md:Region.Mode) (ops:Array Oper) (l:Array Bool) (j:Nat):Bool :=
 match ops[j]? with
 | some o=>o.after.all fun e=>!Region.binds md e||l.getD e.on false
 | none=>false
def without (md:Region.Mode) (ops:Array Oper) (i:Nat):List Nat→Array Bool→Array Bool
 | [],l=>l
 | j::B,l=>without md ops i B (if j != i&&depsOK md ops l j then l.setIfInBounds j true else l)
def topo (md:Region.Mode) (ops:Array Oper):List Nat→Array Bool→Bool
 | [],_=>true
 | j::B,l=>depsOK md ops l j&&topo md ops B (l.setIfInBounds j true)
def closedB (md:Region.Mode) (ops:Array Oper) (base:Array Bool) (B:List Nat):Bool :=
 topo md ops B base&&B.all fun i=>(Region.ready md ops (without md ops i B base)).all fun j=>B.contains j
theorem depsOK_iff{l:Array Bool} {j:Nat}:depsOK md ops l j=true↔∃ o,ops[j]?=some o∧∀ e∈o.after,Region.binds md e=true→l.getD e.on false=true:=by
 unfold depsOK
 cases ho:ops[j]? with
 | none=>simp
 | some o =>
  simp only [Array.all_eq_true_iff_forall_mem,Bool.or_eq_true,Bool.not_eq_true',Option.some.injEq,exists_eq_left']; constructor
  ·intro h e he hb
   exact(h e he).resolve_left (by simp [hb])
  ·intro h e he
   cases hb:Region.binds md e
   ·exact .inl rfl
   ·exact .inr (h e he hb)
theorem without_out(i:Nat):∀ (B:List Nat) (l:Array Bool) (j:Nat),j∉B→(without md ops i B l).getD j true=l.getD j true
 | [],_,_,_=>rfl
 | k::B,l,j,h=>by
  unfold without; rw [without_out i B _ j (fun hm=>h (List.mem_cons_of_mem _ hm))]; split
  ·exact getD_set_ne true (fun e=>h (by rw [e]; exact List.mem_cons_self))
  ·rfl
theorem if_keep{l:Array Bool} {k j:Nat} (b:Bool) (h:l.getD j false=true):(if b=true then l.setIfInBounds k true else l).getD j false=true:=by
 cases b
 ·exact h
 ·exact getD_set_true h
theorem without_ge{listed base:Array Bool} {i:Nat} (hi:listed.getD i false=false) (hcl:∀ j oj,ops[j]?=some oj→listed.getD j false=true→base.getD j false=false→∀ e∈oj.after,Region.binds md e=true→listed.getD e.on false=true) :
  ∀ (B:List Nat) (l acc:Array Bool),(∀ j∈B,j<l.size)→topo md ops B acc=true→(∀ j,base.getD j false=true→acc.getD j false=true)→(∀ j,acc.getD j false=true→listed.getD j false=true→l.getD j false=true) →
   ∀ j,(lay acc B).getD j false=true→listed.getD j false=true→(without md ops i B l).getD j false=true
 | [],_,_,_,_,_,h,j,h1,h2=>h j h1 h2
 | k::B,l,acc,hs,ht,hb,h,j,h1,h2=>by
  simp only [topo,Bool.and_eq_true] at ht; obtain⟨ht1,ht2⟩:=ht; have hk:=hs k List.mem_cons_self; unfold without; refine without_ge hi hcl B _ (acc.setIfInBounds k true) (fun j hj=>?_) ht2 (fun j hj=>getD_set_true (hb j hj)) (fun j hj hl=>?_) j h1 h2
  ·have:=hs j (List.mem_cons_of_mem _ hj)
   split
   ·simpa using this
   ·exact this
  ·by_cases hjk:k=j
   ·subst hjk
    by_cases hbk:base.getD k false=true
    ·have h3:=h k (hb k hbk) hl
     exact if_keep _ h3
    ·have hne:k≠i:=fun e=>by rw [e,hi] at hl; cases hl
     obtain⟨o,ho,hd⟩:=depsOK_iff.1 ht1; have hd2:depsOK md ops l k=true:=depsOK_iff.2 ⟨o,ho,fun e he hbd=>h e.on (hd e he hbd) (hcl k o ho hl (by simpa using hbk) e he hbd)⟩; rw [if_pos (by rw [hd2]; simpa using hne)]
     simp [hk]
   ·rw [getD_set_ne false hjk] at hj
    have h3:=h j hj hl; exact if_keep _ h3
def seqOK (md:Region.Mode) (ops:Array Oper):List Nat→Array Bool→Bool
 | [],_=>true
 | i::B,listed=>(Region.ready md ops listed).contains i&&Region.free md ops listed i&&seqOK md ops B (listed.setIfInBounds i true)
structure Inv (md:Region.Mode) (ops:Array Oper) (B:List Nat) (base listed:Array Bool):Prop where
 bs:base.size=ops.size
 size:listed.size=ops.size
 out:∀ j,j∉B→listed.getD j true=base.getD j true
 closed:∀ j oj,ops[j]?=some oj→listed.getD j false=true→base.getD j false=false→∀ e∈oj.after,Region.binds md e=true→listed.getD e.on false=true
theorem Inv.refl{B:List Nat} {base:Array Bool} (h:base.size=ops.size):Inv md ops B base base:=⟨h,h,fun _ _=>rfl,fun j _ _ h1 h2=>by rw [h1] at h2; cases h2⟩
theorem Inv.set{B:List Nat} {base listed:Array Bool} (h:Inv md ops B base listed) {i:Nat} (hi:i∈B) (hr:i∈Region.ready md ops listed):Inv md ops B base (listed.setIfInBounds i true) :=
 ⟨h.bs,by simp [h.size],fun j hj=>by rw [getD_set_ne true (fun e=>hj (by rw [← e]; exact hi))]; exact h.out j hj,fun j oj hj hl hb e he hbd=>by
  by_cases hij:i=j
  ·subst hij
   obtain⟨_,oi,hoi,hall⟩:=mem_ready.1 hr; have:oj=oi:=Option.some.inj (hj.symm.trans hoi); subst this; exact getD_set_true (hall e he hbd)
  ·rw [getD_set_ne false hij] at hl
   exact getD_set_true (h.closed j oj hj hl hb e he hbd)⟩
theorem Inv.stays{B:List Nat} {base listed:Array Bool} (h:Inv md ops B base listed) (hc:closedB md ops base B=true) {i j:Nat} (hi:i∈B) (hun:listed.getD i true=false) (hj:j∈Region.ready md ops listed):j∈B:=by
 by_cases hjB:j∈B
 ·exact hjB
 ·exfalso
  simp only [closedB,Bool.and_eq_true] at hc; obtain⟨htopo,hc⟩:=hc; have h1:=List.all_eq_true.1 hc i hi; obtain⟨hju,o,ho,hall⟩:=mem_ready.1 hj; have hsz:∀ (L:List Nat) (acc:Array Bool),topo md ops L acc=true→∀ k∈L,k<ops.size:=by
   intro L; induction L with
   | nil=>intro acc _ k hk; cases hk
   | cons k0 L ih =>
    intro acc ht k hk; simp only [topo,Bool.and_eq_true] at ht; rcases List.mem_cons.1 hk with rfl|hk
    ·obtain⟨o,ho,_⟩:=depsOK_iff.1 ht.1
     exact(Array.getElem?_eq_some_iff.1 ho).1
    ·exact ih _ ht.2 k hk
  have hge:=without_ge (md:=md) (ops:=ops) (listed:=listed) (base:=base) (i:=i) (getD_both hun) h.closed B base base (fun k hk=>by rw [h.bs]; exact hsz B base htopo k hk) htopo (fun _ h=>h) (fun _ h _=>h)
  have h2:j∈Region.ready md ops (without md ops i B base):=by
   rw [mem_ready]; refine⟨?_,o,ho,fun e he hb=>?_⟩
   ·rw [without_out i B base j hjB,← h.out j hjB]
    exact hju
   ·have h3:=hall e he hb
    have hes:e.on<ops.size:=by
     rcases Nat.lt_or_ge e.on listed.size with h'|h'
     ·rw [← h.size]; exact h'
     ·simp [Array.getElem?_eq_none h'] at h3
    refine hge e.on ?_ h3; by_cases heB:e.on∈B
    ·exact lay_in _ _ _ heB (by rw [h.bs]; exact hes)
    ·refine lay_keep _ _ _ ?_
     have h4:=h.out _ heB; rw [getD_swap (listed:=listed) (by rw [h.size]; exact hes),getD_swap (listed:=base) (by rw [h.bs]; exact hes),h3] at h4
     exact h4.symm
  have h5:=List.all_eq_true.1 h1 j h2; exact hjB (by simpa using h5)
def wpBatch (P:Program) (md:Region.Mode) (ops:Array Oper) (C:World→Prop) (B:List Nat) (L:Array Bool→Act→Prop):Nat→Array Bool→Act→Prop
 | 0,listed,a=>L listed a
 | f+1,listed,a=>Region.ready md ops listed≠[]∧∀ i∈Region.ready md ops listed,i∈B∧qOp P ops C i (wpBatch P md ops C B L f (listed.setIfInBounds i true)) a
theorem wpAny_of_batch{B:List Nat} {g:Nat} {L:Array Bool→Act→Prop} {Q':Exit→Act→World→Prop} (hL:∀ listed a w,C w→L listed a→wpAny P md ops Q' g listed a w) :
  ∀ (f:Nat) (listed:Array Bool) (a:Act) (w:World),C w→wpBatch P md ops C B L f listed a→wpAny P md ops Q' (f+g) listed a w
 | 0,listed,a,w,hw,h=>by rw [Nat.zero_add]; exact hL _ _ _ hw h
 | f+1,listed,a,w,hw,h=>by
  rw [show f+1+g=(f+g)+1 by omega]; exact⟨fun h0=>absurd h0 h.1,fun i hi=>wpOp_of_qOp hw (fun a' w' hw' h'=>wpAny_of_batch hL f _ a' w' hw' h') (h.2 i hi).2⟩
theorem wpBatch_first{B:List Nat} {i:Nat} {oi:Oper} {v:Value} {L:Array Bool→Act→Prop} {base fin:Array Bool} (hi:ops[i]?=some oi) (hsel:∀ (j:Nat) (o:Oper) cs b,ops[j]?=some o→o.op≠.select cs b)
  (hc:closedB md ops base B=true) (hiB:i∈B) (hfin:∀ j∈B,fin.getD j true=true) (hL:∀ listed a,L listed a→listed=fin) :
  ∀ (f:Nat) (listed:Array Bool) (a:Act),Inv md ops B base listed →
   (∀ j oj,ops[j]?=some oj→j≠i→listed.getD j true=false→(∀ e∈oj.after,Region.binds md e=true→e.on≠i)→oi.apart ops oj=true) →
   i∈Region.ready md ops listed→YieldsIn P ops C oi v a →
   wpBatch P md ops C B L f (listed.setIfInBounds i true) (a.put oi.dst v)→wpBatch P md ops C B L (f+1) listed a:=by
 intro f
 induction f with
 | zero =>
  intro listed a inv _ hr hy H; have hun:=(mem_ready.1 hr).1; refine⟨fun h=>(by rw [h] at hr; cases hr),fun j hj=>?_⟩
  have hjB:=inv.stays hc hiB hun hj; refine⟨hjB,?_⟩; by_cases hji:j=i
  ·subst hji; exact hy.qOp hi H
  ·exfalso
   have h1:=ready_mono hj hji; rw [hL _ _ H] at h1; have h2:=(mem_ready.1 h1).1; rw [hfin j hjB] at h2
   cases h2
 | succ f ih =>
  intro listed a inv hfree hr hy H; have hun:=(mem_ready.1 hr).1; refine⟨fun h=>(by rw [h] at hr; cases hr),fun j hj=>?_⟩
  have hjB:=inv.stays hc hiB hun hj; refine⟨hjB,?_⟩; by_cases hji:j=i
  ·subst hji; exact hy.qOp hi H
  ·have h1:=(H.2 j (ready_mono hj hji)).2
   obtain⟨hjun,oj,hoj,hall⟩:=mem_ready.1 hj; have hnot:∀ e∈oj.after,Region.binds md e=true→e.on≠i:=fun e he hb heq=>by
    have h1:=hall e he hb; rw [heq,getD_both hun] at h1
    cases h1
   have h2:=qOp_put hoj (hfree j oj hoj hji hjun hnot) (fun cs b=>hsel i oi cs b hi) (fun cs b=>hsel j oj cs b hoj) hy h1; have hfree':∀ k ok,ops[k]?=some ok→k≠i→(listed.setIfInBounds j true).getD k true=false →
     (∀ e∈ok.after,Region.binds md e=true→e.on≠i)→oi.apart ops ok=true:=fun k ok hk hki hun hno=>by
    refine hfree k ok hk hki ?_ hno; by_cases hjk:j=k
    ·subst hjk; exact hjun
    ·rw [getD_set_ne true hjk] at hun; exact hun
   refine qOp_mono (fun a' h3=>ih (listed.setIfInBounds j true) a' (inv.set hjB hj) hfree' (ready_mono hr (Ne.symm hji)) h3.1 ?_) h2; rw [Array.setIfInBounds_comm _ _ hji]; exact h3.2
theorem wpBatch_lex{B:List Nat} {Lq:Act→Prop} {base fin:Array Bool} (hsel:Region.noSelect ops=true) (hc:closedB md ops base B=true) (hfin:∀ j∈B,fin.getD j true=true) :
  ∀ (l:List Nat) (listed:Array Bool) (a:Act),(∀ i∈l,i∈B)→Inv md ops B base listed→seqOK md ops l listed=true→lay listed l=fin →
  wpQuiet P ops C Lq (l.filterMap (ops[·]?)) a→wpBatch P md ops C B (fun listed' a'=>listed'=fin∧Lq a') l.length listed a
 | [],listed,a,_,_,_,hf,h=>⟨hf,h⟩
 | i::l,listed,a,hl,inv,hB,hf,h=>by
  simp only [seqOK,Bool.and_eq_true] at hB; obtain⟨⟨hr,hfr⟩,hB'⟩:=hB; have hr':i∈Region.ready md ops listed:=by simpa using hr
  obtain⟨_,o,ho,_⟩:=mem_ready.1 hr'; have hst:qOp P ops C i (wpQuiet P ops C Lq (l.filterMap (ops[·]?))) a:=by
   unfold qOp; simp only [ho]; rw [List.filterMap_cons_some ho] at h; exact h
  obtain⟨v,hy,hK⟩:=yieldsIn_of_qOp ho hst; have hiB:=hl i List.mem_cons_self; exact wpBatch_first ho (Region.noSelect_spec hsel) hc hiB hfin (fun _ _ hL=>hL.1) l.length listed a inv (Region.free_spec ho hfr) hr' hy
   (wpBatch_lex hsel hc hfin l _ _ (fun k hk=>hl k (List.mem_cons_of_mem _ hk)) (inv.set hiB hr') hB' hf hK)
def quietB (md:Region.Mode) (ops:Array Oper) (base:Array Bool) (B:List Nat):Bool :=
 Region.noSelect ops&&decide (base.size=ops.size)&&closedB md ops base B&&seqOK md ops B base
theorem wpAny_quiet{Q:Exit→Act→World→Prop} {a:Act} {w:World} {base:Array Bool} {N fuel:Nat} (B:List Nat) (hB:quietB md ops base B=true) (hN:N=B.length+fuel) (hw:C w)
  (h:wpQuiet P ops C (fun a'=>∀ w',C w'→wpAny P md ops Q fuel (lay base B) a' w') (B.filterMap (ops[·]?)) a):wpAny P md ops Q N base a w:=by
 simp only [quietB,Bool.and_eq_true,decide_eq_true_eq] at hB
 obtain⟨⟨⟨hsel,hsz⟩,hc⟩,hseq⟩:=hB
 subst hN
 have hfin:∀ j∈B,(lay base B).getD j true=true:=fun j hj=>by
  by_cases hjs:j<base.size
  ·rw [getD_swap (by rw [lay_size]; exact hjs)]
   exact lay_in B base j hj hjs
  ·simp [Array.getElem?_eq_none (show (lay base B).size≤j by rw [lay_size]; omega)]
 have H:=wpBatch_lex (md:=md) (base:=base) hsel hc hfin B base a (fun _ h=>h) (Inv.refl hsz) hseq rfl h
 exact wpAny_of_batch (fun listed a' w' hw' hL=>by obtain⟨rfl,h2⟩:=hL; exact h2 w' hw') _ _ _ _ hw H
def gives (P:Program) (R:World→World→Prop) (T:Value→World→Prop) (w:World):Result Next→Prop
 | .ok (.value u) w'=>R w w'∧T u w'
 | .ok .skip w'=>R w w'∧T undef w'
 | .ok (.enter f args) w'=>w'=w∧Calls P f args w (fun e w''=>∃ v,e=.returned v∧R w w''∧T v w'')
 | _=>False
structure Rely (R:World→World→Prop):Prop where
 refl:∀ w,R w w
 trans:∀ {a b c},R a b→R b c→R a c
def Stable (R:World→World→Prop) (T:Value→World→Prop):Prop:=∀ v w w',R w w'→T v w→T v w'
abbrev Item:=Nat × (Value→World→Prop)
def wpLoose (P:Program) (ops:Array Oper) (R:World→World→Prop) (w0:World) (Q:Act→(World→Prop)→Prop):List Item→Act→(World→Prop)→Prop
 | [],a,F=>Q a F
 | x::rest,a,F=>∃ o,ops[x.1]?=some o∧Region.wanted o (yielded ops a.tmps)=true∧(∀ w,R w0 w→gives P R x.2 w ((execOp a.eval o).run P w)) ∧
   ∀ v,wpLoose P ops R w0 Q rest (a.put o.dst v) (fun w=>F w∧x.2 v w)
def apartB (ops:Array Oper) (B:List Nat):Bool :=
 B.all fun i=>B.all fun j=>i==j||(match ops[i]?,ops[j]? with|some x,some y=>x.apart ops y|_,_=>false)
theorem apartB_spec{B:List Nat} (h:apartB ops B=true) {i j:Nat} (hi:i∈B) (hj:j∈B) (hij:i≠j) {x y:Oper} (hx:ops[i]?=some x) (hy:ops[j]?=some y):x.apart ops y=true:=by
 have h1:=List.all_eq_true.1 (List.all_eq_true.1 h i hi) j hj
 simp only [hx,hy,Bool.or_eq_true,beq_iff_eq] at h1
 exact h1.resolve_left hij
variable {R:World→World→Prop} {w0:World}
theorem wpLoose_mono{Q:Act→(World→Prop)→Prop} (hQ:∀ a F F',(∀ w,F' w→F w)→Q a F→Q a F'):∀ (B:List Item) (a:Act) (F F':World→Prop),(∀ w,F' w→F w)→wpLoose P ops R w0 Q B a F→wpLoose P ops R w0 Q B a F'
 | [],_,_,_,hF,h=>hQ _ _ _ hF h
 | _::B,_,_,_,hF,⟨o,h1,h2,h3,h4⟩=>⟨o,h1,h2,h3,fun v=>wpLoose_mono hQ B _ _ _ (fun w hw=>⟨hF w hw.1,hw.2⟩) (h4 v)⟩
theorem wpLoose_pull{Q:Act→(World→Prop)→Prop} (hQ:∀ a F F',(∀ w,F' w→F w)→Q a F→Q a F') (hsel:∀ (j:Nat) (o:Oper) cs b,ops[j]?=some o→o.op≠.select cs b) {B:List Nat} (hap:apartB ops B=true) {j:Nat} {T:Value→World→Prop} {B2:List Item} (hj:j∈B) :
  ∀ (B1:List Item) (a:Act) (F:World→Prop),(∀ x∈B1,x.1∈B∧x.1≠j)→wpLoose P ops R w0 Q (B1++(j,T)::B2) a F →
  ∃ o,ops[j]?=some o∧Region.wanted o (yielded ops a.tmps)=true∧(∀ w,R w0 w→gives P R T w ((execOp a.eval o).run P w))∧∀ v,wpLoose P ops R w0 Q (B1++B2) (a.put o.dst v) (fun w=>F w∧T v w)
 | [],_,_,_,h=>h
 | x::B1,a,F,hB,⟨o,h1,h2,h3,h4⟩=>by
  have hx:=hB x List.mem_cons_self; have IH:=fun v=>wpLoose_pull hQ hsel hap hj B1 (a.put o.dst v) _ (fun y hy=>hB y (List.mem_cons_of_mem _ hy)) (h4 v); obtain⟨oj,k1,k2,k3,_⟩:=IH undef; have hA:=apartB_spec hap hx.1 hj hx.2 h1 k1; obtain⟨g1,g2,g3⟩:=Oper.apart_spec hA; refine⟨oj,k1,?_,fun w hw=>?_,fun v=>?_⟩
  ·rw [wanted_put oj a o.dst undef g1] at k2
   exact k2
  ·have:=k3 w hw
   rw [execOp_put oj (fun cs b=>hsel j oj cs b k1) a o.dst undef g1] at this; exact this
  ·refine⟨o,h1,?_,fun w hw=>?_,fun u=>?_⟩
   ·rw [wanted_put o a oj.dst v g3]
    exact h2
   ·rw [execOp_put o (fun cs b=>hsel x.1 o cs b h1) a oj.dst v g3]
    exact h3 w hw
   ·obtain⟨oj',k1',_,_,k4'⟩:=IH u
    rw [k1] at k1'; injection k1' with k1'
    subst k1'; rw [← Act.put_comm a u v g2]; exact wpLoose_mono hQ _ _ _ _ (fun w hw=>⟨⟨hw.1.1,hw.2⟩,hw.1.2⟩) (k4' v)
theorem wp_region_start{id:Nat} {Q:Exit→Act→World→Prop} {a:Act} {w:World} {l:List Oper} (hm:P.follows .mixedOrders=true)
  (h:wpAny P .any l.toArray Q l.length (Array.replicate l.length false) a w.drew):(Code.region id l.toArray true).wp P Q a w :=
 wp_region_any hm h
end
structure Grew where
 n:Nat
 os:Array Obj
instance:Inhabited Grew:=⟨⟨0,#[]⟩⟩
def grew (w:World) (p:Grew):World:={ w with heap:=w.heap++p.os,drawn:=p.n }
theorem grew_below(w:World) (p:Grew):Below w.heap.size w (grew w p) :=
 ⟨rfl,rfl,rfl,by simp [grew],fun k hk=>by show (w.heap++p.os)[k]?=_; rw [Array.getElem?_append,if_pos hk]⟩
theorem grew_of{w w':World} (h:Below w.heap.size w w'):∃ p,w'=grew w p:=by
 refine⟨⟨w'.drawn,w'.heap.extract w.heap.size w'.heap.size⟩,?_⟩
 obtain⟨hp,t,d,o,ou⟩:=w'
 obtain⟨hp0,t0,d0,o0,ou0⟩:=w
 obtain⟨h1,h2,h3,h4,h5⟩:=h
 simp only at h1 h2 h3 h4 h5
 subst h1 h2 h3
 simp only [grew,World.mk.injEq,and_self,and_true]
 apply Array.ext_getElem?
 intro k
 by_cases hk:k<hp0.size
 ·rw [h5 k hk,Array.getElem?_append,if_pos hk]
 ·rw [Array.getElem?_append,if_neg hk]
  by_cases hk2:k<hp.size
  ·rw [Array.getElem?_extract,if_pos (by omega)]
   congr 1
   omega
  ·rw [Array.getElem?_extract,if_neg (by omega),Array.getElem?_eq_none (by omega)]
theorem grew_size(w:World) (p:Grew):w.heap.size≤(grew w p).heap.size:=(grew_below w p).size
theorem grew_cell{w:World} {a:Addr} (h:a.block<w.heap.size) (p:Grew):(grew w p).cell? a=w.cell? a:=(grew_below w p).cell h
theorem calls_grew{P:Program} {f:FuncId} {args:Array Value} {w:World} {p:Grew} {v:Value} (h:Calls P f args (grew w p) fun e w'=>e=.returned v∧Below (grew w p).heap.size (grew w p) w') :
  Calls P f args (grew w p) fun e w'=>e=.returned v∧∃ q:Grew,w'=grew w q :=
 h.mono fun _ _ ⟨he,hb⟩=>⟨he,grew_of ((grew_below w p).trans (hb.mono (grew_size w p)))⟩
theorem wp_region_grew{P:Program} {id:Nat} {Q:Exit→Act→World→Prop} {a:Act} {w:World} {l:List Oper} (hm:P.follows .mixedOrders=true) (hB:Region.lexB .any l.toArray=true)
  (h:wpQuiet P l.toArray (fun w'=>∃ p:Grew,w'=grew w p) (fun a'=>∀ w',(∃ p:Grew,w'=grew w p)→Q .normal a' w') l a):(Code.region id l.toArray true).wp P Q a w :=
 wp_region_quiet (C:=fun w'=>∃ p:Grew,w'=grew w p) hm hB (grew_of (Below.refl _ _).drew) (by simpa using h)
theorem range_take(l:List Oper) (n:Nat) (h:n≤l.length):(List.range n).filterMap (fun i=>l.toArray[i]?)=l.take n:=by
 induction n with
 | zero=>simp
 | succ n ih =>
  have hn:n<l.length:=by omega
  rw [List.range_succ,List.filterMap_append,ih (by omega),List.take_add_one]; simp [hn]
theorem wp_region_grew_tail{P:Program} {id:Nat} {Q:Exit→Act→World→Prop} {a:Act} {w:World} {l:List Oper} (n:Nat) (hm:P.follows .mixedOrders=true)
  (hB:(quietB .any l.toArray (Array.replicate l.length false) (List.range n)&&decide (n≤l.length)&&Region.seqB .any l.toArray (l.length - n) n (lay (Array.replicate l.length false) (List.range n)))=true)
  (h:wpQuiet P l.toArray (fun w'=>∃ p:Grew,w'=grew w p) (fun a'=>∀ w',(∃ p:Grew,w'=grew w p)→wpList P l.toArray Q (l.drop n) a' w') (l.take n) a):(Code.region id l.toArray true).wp P Q a w:=by
 simp only [Bool.and_eq_true,decide_eq_true_eq] at hB
 obtain⟨⟨h1,h2⟩,h3⟩:=hB
 refine wp_region_start hm (wpAny_quiet (C:=fun w'=>∃ p:Grew,w'=grew w p) (fuel:=l.length - n) (List.range n) h1 (by rw [List.length_range]; omega) (grew_of (Below.refl _ _).drew) ?_)
 rw [range_take l n h2]
 have key:∀ (L:List Oper) (a:Act),wpQuiet P l.toArray (fun w'=>∃ p:Grew,w'=grew w p) (fun a'=>∀ w',(∃ p:Grew,w'=grew w p)→wpList P l.toArray Q (l.drop n) a' w') L a →
   wpQuiet P l.toArray (fun w'=>∃ p:Grew,w'=grew w p) (fun a'=>∀ w',(∃ p:Grew,w'=grew w p)→wpAny P .any l.toArray Q (l.length - n) (lay (Array.replicate l.length false) (List.range n)) a' w') L a:=by
  intro L; induction L with
  | nil =>
   intro a h w' hw; have hd:(l.drop n).length=l.length - n:=by simp
   have:=wpAny_of_seq (P:=P) (md:=.any) (ops:=l.toArray) (Q':=Q) (l.drop n) n (lay (Array.replicate l.length false) (List.range n)) a w' (fun j=>by simp [List.getElem?_drop]) (by rw [hd]; exact h3) (h w' hw)
   rw [hd] at this; exact this
  | cons o L ih =>
   intro a h; unfold wpQuiet at h ⊢; split
   ·rename_i hw
    simp only [hw,if_true] at h; exact Oper.quiet_mono (fun a=>ih a) h
   ·rename_i hw
    simp only [hw] at h; exact ih _ h
 exact key _ _ h
def valued:Op→Bool
 | .move _|.assign _|.fieldAddr _ _ _|.indexAddr _ _ _|.binOp _ _ _ _ _|.convert _ _ _|.slice _ _ _ _ _=>true
 | _=>false
theorem valued_value{P:Program} {o:Oper} (h:valued o.op=true) (ρ:Operand→Value) (w w':World) (n:Next) (hr:(execOp ρ o).run P w=.ok n w'):∃ u,n=.value u:=by
 obtain⟨dst,op,type,pos,after,guard⟩:=o
 have key:∀ (s:Sem Value),(do pure (Next.value (← s)):Sem Next).run P w=.ok n w'→∃ u,n=.value u:=fun s hs=>by
  rw [Sem.run_bind] at hs
  cases hq:s.run P w with
  | halt q w1=>rw [hq] at hs; cases hs
  | ok u w1 =>
   rw [hq] at hs; simp only [Result.andThen_ok,Sem.run_pure,Result.ok.injEq] at hs; exact⟨u,hs.1.symm⟩
 cases op <;> first|(exfalso; simp [valued] at h; done)|skip
 case move x=>exact key (pure (ρ x)) hr
 case assign x=>exact key (pure (ρ x)) hr
 all_goals exact key _ hr
def moveB (ops:Array Oper) (M:List Nat):Bool:=M.all fun i=>match ops[i]? with|some o=>valued o.op&&o.guard.isNone|none=>false
theorem wpAny_moves{P:Program} {ops:Array Oper} {Q:Exit→Act→World→Prop} {K:Act→Prop} {w:World} {fuel:Nat} {fin:Array Bool} (hs:Region.noSelect ops=true) (hQ:∀ c a i v w,Q (.panic c) (a.put i v) w→Q (.panic c) a w) :
  ∀ (M:List Nat) (listed:Array Bool) (a:Act),moveB ops M=true→seqOK .any ops M listed=true→lay listed M=fin→(∀ a',K a'→wpAny P .any ops Q fuel fin a' w) →
   wpQuiet P ops (fun _=>True) K (M.filterMap (ops[·]?)) a→wpAny P .any ops Q (M.length+fuel) listed a w
 | [],listed,a,_,_,hf,hK,h=>by
  have hf:listed=fin:=hf; subst hf; simp only [List.length_nil,Nat.zero_add]; exact hK a h
 | i::M,listed,a,hm,hsq,hf,hK,h=>by
  simp only [seqOK,Bool.and_eq_true] at hsq; obtain⟨⟨hr,hfr⟩,hB'⟩:=hsq; simp only [moveB,List.all_cons,Bool.and_eq_true] at hm; obtain⟨hm1,hm2⟩:=hm
  cases ho:ops[i]? with
  | none=>rw [ho] at hm1; simp at hm1
  | some o =>
   rw [ho] at hm1; rw [List.filterMap_cons_some ho] at h; simp only [Bool.and_eq_true] at hm1; obtain⟨hmv,hg⟩:=hm1; have hw:Region.wanted o (yielded ops a.tmps)=true:=by
    unfold Region.wanted
    cases hgd:o.guard with
    | none=>rfl
    | some g=>rw [hgd] at hg; cases hg
   unfold wpQuiet at h; rw [if_pos hw] at h; obtain⟨v,hv,hk⟩:=h; have hrun:∀ w,(execOp a.eval o).run P w=.ok (.value v) w:=fun w=>by
    have h1:=hv w trivial; unfold Oper.quietAt at h1
    cases hq:(execOp a.eval o).run P w with
    | halt q w1=>rw [hq] at h1; exact h1.elim
    | ok n w1 =>
     obtain⟨u,rfl⟩:=valued_value hmv a.eval w w1 n hq; rw [hq] at h1; obtain⟨rfl,rfl⟩:=h1; rfl
   rw [show (i::M).length+fuel=(M.length+fuel)+1 by simp only [List.length_cons]; omega]
   exact wpAny_take ho hs hfr hr (fun c a' w' h'=>hQ c a' _ _ w' h') (.inl ⟨hw,hrun⟩) (wpAny_moves hs hQ M _ _ (by simpa [moveB] using hm2) hB' hf hK hk)
def Qn (Q:Exit→Act→World→Prop):Exit→Act→World→Prop
 | .normal,a,w=>Q .normal a w
 | .outgrown,a,w=>Q .outgrown a w
 | _,_,_=>False
theorem Qn_normal(Q:Exit→Act→World→Prop) (a:Act) (w:World):Qn Q .normal a w=Q .normal a w:=rfl
theorem wpOp_qn{P:Program} {ops:Array Oper} {Q:Exit→Act→World→Prop} {i:Nat} {K K':Act→World→Prop} {a:Act} {w:World} (h:∀ a w,K a w→K' a w) (hh:wpOp P ops (Qn Q) i K a w):wpOp P ops Q i K' a w:=by
 have hl:LetsOut (Qn Q)→LetsOut Q:=fun ⟨a,w,h⟩=>⟨a,w,h⟩
 unfold wpOp at *
 split
 ·rename_i ho; simp only [ho] at hh; exact h _ _ hh
 ·rename_i o ho
  simp only [ho] at hh; split
  ·rename_i hw
   simp only [hw,if_true] at hh; refine hh.imp (fun hh=>?_) (fun hh=>⟨hh.1,hl hh.2⟩); unfold Oper.wp at *; generalize (execOp a.eval o).run P w=r at *
   cases r with
   | ok n w' =>
    cases n <;> simp only [Oper.upon] at hh ⊢
    case value=>exact h _ _ hh
    case skip=>exact h _ _ hh
    case defer=>exact h _ _ hh
    case enter f args=>exact Calls.mono hh (fun e w'' he=>by cases e <;> first|exact h _ _ he|exact hl he|exact he.elim)
    case row row args=>exact Rows.mono hh (fun _ _ he=>h _ _ he)
   | halt x w'=>cases x <;> simp only [Oper.upon] at hh ⊢ <;> exact hh.elim
  ·rename_i hw; simp only [hw] at hh; exact h _ _ hh
theorem wpAny_qn{P:Program} {md:Region.Mode} {ops:Array Oper} {Q:Exit→Act→World→Prop}:∀ (fuel:Nat) (listed:Array Bool) (a:Act) (w:World),wpAny P md ops (Qn Q) fuel listed a w→wpAny P md ops Q fuel listed a w
 | 0,_,_,_,h=>h
 | fuel+1,_,_,_,h=>⟨h.1,fun i hi=>wpOp_qn (fun a w=>wpAny_qn fuel _ a w) (h.2 i hi)⟩
def pick (l:List Oper):List Nat→List Oper
 | []=>[]
 | i::B=>l.getD i default::pick l B
theorem pick_eq(l:List Oper):∀ (B:List Nat),B.all (fun i=>decide (i<l.length))=true→B.filterMap (fun i=>l.toArray[i]?)=pick l B
 | [],_=>rfl
 | i::B,h=>by
  simp only [List.all_cons,Bool.and_eq_true,decide_eq_true_eq] at h; rw [pick,← pick_eq l B h.2]; simp [h.1]
theorem wp_region_grew_move{P:Program} {id:Nat} {Q:Exit→Act→World→Prop} {a:Act} {w:World} {l:List Oper} (M B:List Nat) (n:Nat) (hm:P.follows .mixedOrders=true)
  (hB:(M.all (fun i=>decide (i<l.length))&&B.all (fun i=>decide (i<l.length))&&Region.noSelect l.toArray&&moveB l.toArray M&&seqOK .any l.toArray M (Array.replicate l.length false)&&quietB .any l.toArray (lay (Array.replicate l.length false) M) B&&decide (M.length+B.length=n)&&decide (n≤l.length)&&Region.seqB .any l.toArray (l.length - n) n (lay (lay (Array.replicate l.length false) M) B))=true)
  (h:wpQuiet P l.toArray (fun _=>True) (fun a'=>wpQuiet P l.toArray (fun w'=>∃ p:Grew,w'=grew w p) (fun a'=>∀ w',(∃ p:Grew,w'=grew w p)→wpList P l.toArray (Qn Q) (l.drop n) a' w') (pick l B) a') (pick l M) a):(Code.region id l.toArray true).wp P Q a w:=by
 simp only [Bool.and_eq_true,decide_eq_true_eq] at hB
 obtain⟨⟨⟨⟨⟨⟨⟨⟨g1,g2⟩,h0⟩,h1⟩,h2⟩,h3⟩,h4⟩,h5⟩,h6⟩:=hB
 rw [← pick_eq l M g1,← pick_eq l B g2] at h
 have key:∀ (L:List Oper) (a:Act),wpQuiet P l.toArray (fun w'=>∃ p:Grew,w'=grew w p) (fun a'=>∀ w',(∃ p:Grew,w'=grew w p)→wpList P l.toArray (Qn Q) (l.drop n) a' w') L a →
   wpQuiet P l.toArray (fun w'=>∃ p:Grew,w'=grew w p) (fun a'=>∀ w',(∃ p:Grew,w'=grew w p)→wpAny P .any l.toArray (Qn Q) (l.length - n) (lay (lay (Array.replicate l.length false) M) B) a' w') L a:=by
  intro L; induction L with
  | nil =>
   intro a h w' hw; have hd:(l.drop n).length=l.length - n:=by simp
   have:=wpAny_of_seq (P:=P) (md:=.any) (ops:=l.toArray) (Q':=Qn Q) (l.drop n) n (lay (lay (Array.replicate l.length false) M) B) a w' (fun j=>by simp [List.getElem?_drop]) (by rw [hd]; exact h6) (h w' hw)
   rw [hd] at this; exact this
  | cons o L ih =>
   intro a h; unfold wpQuiet at h ⊢; split
   ·rename_i hw
    simp only [hw,if_true] at h; exact Oper.quiet_mono (fun a=>ih a) h
   ·rename_i hw
    simp only [hw] at h; exact ih _ h
 refine wp_region_start hm (wpAny_qn _ _ _ _ ?_)
 have:=wpAny_moves (Q:=Qn Q) (w:=w.drew) (fuel:=l.length - M.length) h0 (fun _ _ _ _ _ h=>h.elim) M (Array.replicate l.length false) a h1 h2 rfl (fun a' ha'=>wpAny_quiet (C:=fun w'=>∃ p:Grew,w'=grew w p) (fuel:=l.length - n) B h3 (by omega) (grew_of (Below.refl _ _).drew) (key _ _ ha')) h
 rwa [show M.length+(l.length - M.length)=l.length by omega] at this
end Batch
end
end Go.Proofs.YtmbpnkacggngkaaGreatDoor
