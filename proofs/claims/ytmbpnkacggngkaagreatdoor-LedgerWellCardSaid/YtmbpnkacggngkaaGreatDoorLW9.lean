/- LedSets, LedDoB, LedDoC, LedDoD, LedDoE, LedSame, LedEntry, LedDoF, LedDoG, LedDoH (put together by bundle.py: only what is needed). -/
import Derived.Lib.OwnBridge
import Derived.Sort.OwnSorted
import Derived.Test.YtmbpnkacggngkaaGreatDoorLW8
set_option maxRecDepth 100000
set_option maxHeartbeats 16000000
namespace Go.Proofs.YtmbpnkacggngkaaGreatDoor
section
open Go.RowKit Mem
def SetOut (w:World) (L:List (List UInt8)) (e:Ending) (w':World):Prop :=
 ∃ A m c,e=.returned (.tuple #[.slice A m c,.int .i64 ((Ids.setOf L).2:Int)])∧m≤c∧w'.ownsRow w.heap.size 9 1 (.slice A m c) m (tv ((Ids.setOf L).1.getD []))∧Below w.heap.size w w'
def Best (L out:List (List UInt8)) (k:Nat) (b:List UInt8):Prop :=
 (b=[]∧∀ j,(h:j<L.length)→j<k→Ids.cand out L[j]=false)∨(b∈L∧b≠[]∧Ids.cand out b=true∧∀ j,(h:j<L.length)→j<k→Ids.cand out L[j]=true→¬ L[j]<b)
def Drew (w w':World):Prop:=∃ q,w'=w.drewN q
theorem Drew.refl(w:World):Drew w w:=⟨0,rfl⟩
theorem Drew.next{w w':World} (h:Drew w w') (k:Nat):Drew w (w'.drewN k):=by
 obtain⟨q,rfl⟩:=h
 exact⟨q+k,by simp [World.drewN,Nat.add_assoc]⟩
theorem Drew.below{w w':World} (h:Drew w w') (B:Nat):Below B w w':=by
 obtain⟨q,rfl⟩:=h
 exact below_drewM B w q
theorem nonempty_sel{x:List UInt8} (h:Ids.selector x=true):x≠[]:=by
 rintro rfl
 simp [Ids.selector,Ids.till] at h
theorem best_take{L out:List (List UInt8)} {j:Nat} {bl x:List UInt8} (hB:Best L out j bl) (hj:j<L.length) (hx:L[j]=x) (hne:x≠[]) (hc:Ids.cand out x=true) (h:bl=[]∨x<bl):Best L out (j+1) x:=by
 refine .inr ⟨by rw [← hx]; exact List.getElem_mem hj,hne,hc,fun i hi hij hci=>?_⟩
 by_cases e:i=j
 ·subst e; rw [hx]; exact Ids.lt_irr x
 ·rcases hB with⟨_,h2⟩|⟨_,hbn,_,h2⟩
  ·rw [h2 i hi (by omega)] at hci; cases hci
  ·rcases h with h|h
   ·exact absurd h hbn
   ·exact fun hlt=>h2 i hi (by omega) hci (Ids.lt_tr hlt h)
theorem best_keep{L out:List (List UInt8)} {j:Nat} {bl x:List UInt8} (hB:Best L out j bl) (hj:j<L.length) (hx:L[j]=x) (h:Ids.cand out x=false∨(bl≠[]∧¬ x<bl)):Best L out (j+1) bl:=by
 rcases hB with⟨h1,h2⟩|⟨h0,h1,hc,h2⟩
 ·refine .inl ⟨h1,fun i hi hij=>?_⟩
  by_cases e:i=j
  ·subst e
   rw [hx]; rcases h with h|h
   ·exact h
   ·exact absurd h1 h.1
  ·exact h2 i hi (by omega)
 ·refine .inr ⟨h0,h1,hc,fun i hi hij hci=>?_⟩
  by_cases e:i=j
  ·subst e
   rw [hx] at hci ⊢; rcases h with h|h
   ·rw [h] at hci; cases hci
   ·exact h.2
  ·exact h2 i hi (by omega) hci
theorem less_yes{a b:List UInt8} (h:a<b):Op.bytesLess a b=true:=by rw [bytesLess_eq]; exact decide_eq_true h
theorem less_no{a b:List UInt8} (h:¬ a<b):Op.bytesLess a b=false:=by rw [bytesLess_eq]; exact decide_eq_false h
theorem rset_any(A:Option Addr) (n c:Nat) (L:List (List UInt8)) (w:World) (h:Ts w A n L) (hn:n * 16≤140737488355328) (hlen:∀ x∈L,x.length≤9223372036854775807) :
  Calls Tryz.prog 32 #[.slice A n c] w (SetOut w L):=by
 obtain⟨iT,hiT,hzT,hsT,hbT⟩:=info_parts infoT
 have HL:=Lib.hid h.len
 have HLEN:=Lib.hid hlen
 clear hlen
 go_enter Tryz.func32,Tryz.ntmps32
 go_wp2_with fail
 go_loop [4,5] (fun i _=>∃ k:Nat,k≤n∧i=.int .i64 k∧Hid ((L.take k).all Ids.selector=true)) (fun i _=>n - (intOf i).toNat)
 case atStart=>exact⟨0,by omega,rfl,Lib.hid (by simp)⟩
 case round =>
  obtain⟨k,hk,rfl,HT⟩:=hrel; by_cases hlt:k<n
  ·have hkL:k<L.length:=by rw [HL.out]; exact hlt
   obtain⟨blk,off,rfl,hcell⟩:=h.lit hkL; have hcall:=rselector_any L[k] w (HLEN.out _ (List.getElem_mem hkL)); have hi:(k:Int)<(n:Int):=by omega
   cases hq:Ids.selector L[k]
   ·have hx:Hid (Ids.setOf L=(none,13)):=Lib.hid (by
     unfold Ids.setOf; rw [List.all_eq_false.2 ⟨L[k],List.getElem_mem hkL,by rw [hq]; simp⟩]
     rfl)
    rw [hq] at hcall; generalize L[k]=x at *; clear hq; go_wp2_with fail
    refine hcall.mono ?_; rintro e w' ⟨rfl,rfl⟩; go_wp2; go_ret2; exact⟨none,0,0,by rw [hx.out]; rfl,by omega,by rw [hx.out]; exact World.ownsRow_nil _ _ _ _,Below.refl _ _⟩
   ·have HN:=Lib.hid ((all_takeL (p:=Ids.selector) HT.out hkL).trans hq)
    rw [hq] at hcall; generalize L[k]=x at *; clear hq; go_wp2_with fail
    refine hcall.mono ?_; rintro e w' ⟨rfl,rfl⟩; go_wp2; go_round
    case rel=>exact⟨k+1,by omega,by go_num,HN⟩
    case measure=>simp [intOf]; omega
  ·obtain rfl:k=n:=by omega
   have HSEL:Hid (L.all Ids.selector=true):=Lib.hid (by
    have:=HT.out; rwa [List.take_of_length_le (by rw [HL.out]; exact Nat.le_refl _)] at this)
   clear HT; go_wp2_with fail
   go_loopw [6,7,8] (fun v _ _ wr=>∃ (m:Nat) (A4:Option Addr) (c4:Nat) (out:List (List UInt8)),v=.slice A4 m c4∧m≤c4∧wr.ownsRow w.heap.size 9 1 (.slice A4 m c4) m (tv out)∧Below w.heap.size w wr∧Ids.Part L out∧m+Ids.left_ L out≤k∧Hid (out.length=m)) (fun v _ _ _=>match v with|.slice _ m _=>k - m|_=>0)
   case atStart=>exact⟨0,none,0,[],rfl,by omega,World.ownsRow_nil _ _ _ _,Below.refl _ _,Ids.Part.nil L,by have:=Ids.left_le L []; rw [HL.out] at this; omega,Lib.hid rfl⟩
   case round =>
    obtain⟨m,A4,c4,out,rfl,hmc,hown,hb,hpart,hleft,HM⟩:=hrel; have HP:=Lib.hid hpart; clear hpart; obtain⟨wo,hwo⟩:∃ wo,wo=wr:=⟨_,rfl⟩; subst hwo; go_wp2_with fail
    go_loopw [7,8] (fun b i wx=>∃ (j:Nat) (bl:List UInt8),j≤k∧i=.int .i64 j∧b=.string (str bl)∧Hid (Best L out j bl)∧Drew wo wx) (fun _ i _=>k - (intOf i).toNat)
    case atStart=>exact⟨0,[],by omega,rfl,rfl,Lib.hid (.inl ⟨rfl,fun j _ hj=>by omega⟩),Drew.refl _⟩
    case round =>
     obtain⟨wx,hwx⟩:∃ wx,wx=wr:=⟨_,rfl⟩; subst hwx; obtain⟨j,bl,hj,rfl,rfl,HB,hdr⟩:=hrel; by_cases hjt:j<k
     ·have hjL:j<L.length:=by rw [HL.out]; exact hjt
      have ht1:Ts wx A k L:=(h.below hb).below (hdr.below _); obtain⟨blk,off,rfl,hcell⟩:=ht1.lit hjL; obtain⟨x,hjx⟩:∃ x,L[j]=x:=⟨_,rfl⟩; rw [hjx] at hcell; have hxne:x≠[]:=by rw [← hjx]; exact nonempty_sel (List.all_eq_true.1 HSEL.out _ (List.getElem_mem hjL))
      have hi:(j:Int)<(k:Int):=by omega
      clear ht1; by_cases hm0:m=0
      ·subst hm0
       have hcd:Ids.cand out x=true:=by
        have:=List.eq_nil_of_length_eq_zero HM.out; rw [this]; rfl
       by_cases hbl:bl=[]
       ·have HT:=Lib.hid (best_take HB.out hjL hjx hxne hcd (.inl hbl))
        subst hbl; clear hjx hxne hcd; go_wp2_with fail
        go_quiet (fail)
        go_wp2_with fail
        go_roundw
        case rel=>exact⟨j+1,x,by omega,by go_num,rfl,HT,hdr.next nq⟩
        case measure=>simp [intOf]; omega
       ·have hne:bl.isEmpty=false:=by cases bl <;> simp_all
        have hem:decide (str bl=⟨#[]⟩)=false:=(empty_str bl).trans hne; have hems:¬ str bl=⟨#[]⟩:=by simpa using hem
        by_cases hxb:x<bl
        ·have HT:=Lib.hid (best_take HB.out hjL hjx hxne hcd (.inr hxb))
         have hless:=less_yes hxb; clear hjx hxne hxb hcd; go_wp2_with fail
         go_quiet (fail)
         go_wp2_with fail
         go_roundw
         case rel=>exact⟨j+1,x,by omega,by go_num,rfl,HT,hdr.next nq⟩
         case measure=>simp [intOf]; omega
        ·have HK:=Lib.hid (best_keep HB.out hjL hjx (.inr ⟨hbl,hxb⟩))
         have hless:=less_no hxb; clear hjx hxne hxb hcd; go_wp2_with fail
         go_quiet (fail)
         go_wp2_with fail
         go_roundw
         case rel=>exact⟨j+1,bl,by omega,by go_num,rfl,HK,hdr.next nq⟩
         case measure=>simp [intOf]; omega
      ·obtain⟨M,rfl⟩:∃ M,m=M+1:=⟨m - 1,by omega⟩
       have hMo:M<out.length:=by rw [HM.out]; omega
       have hto:Ts wx A4 (M+1) out:=(Ts.of_own hown).below (hdr.below _); obtain⟨blk2,off2,rfl,hcell2⟩:=hto.lit hMo; obtain⟨y,hy⟩:∃ y,out[M]=y:=⟨_,rfl⟩; rw [hy] at hcell2; have hcy:Ids.cand out x=decide (y<x):=by
        unfold Ids.cand; rw [List.getLast?_eq_getElem?,HM.out,Nat.add_sub_cancel,List.getElem?_eq_getElem hMo,hy]
       have hM1:M≤8796093022208:=by omega
       have hM2:(((M:Int)+1)==0)=false:=by simp; omega
       have hM3:IntKind.i64.wrap (M:Int)=(M:Int):=by rw [IntKind.wrap_i64]; omega
       clear hto hy hm0; by_cases hyx:y<x
       ·have hcd:Ids.cand out x=true:=by rw [hcy]; exact decide_eq_true hyx
        have g1:=less_no (Ids.lt_as hyx); have g2:(x==y)=false:=by
         cases e:(x==y)
         ·rfl
         ·simp at e; subst e; exact absurd hyx (Ids.lt_irr _)
        clear hcy hyx; by_cases hbl:bl=[]
        ·have HT:=Lib.hid (best_take HB.out hjL hjx hxne hcd (.inl hbl))
         subst hbl; clear hjx hxne hcd; go_wp2_with fail
         go_quiet (fail)
         go_wp2_with fail
         go_roundw
         case rel=>exact⟨j+1,x,by omega,by go_num,rfl,HT,hdr.next nq⟩
         case measure=>simp [intOf]; omega
        ·have hne:bl.isEmpty=false:=by cases bl <;> simp_all
         have hem:decide (str bl=⟨#[]⟩)=false:=(empty_str bl).trans hne; have hems:¬ str bl=⟨#[]⟩:=by simpa using hem
         by_cases hxb:x<bl
         ·have HT:=Lib.hid (best_take HB.out hjL hjx hxne hcd (.inr hxb))
          have hless:=less_yes hxb; clear hjx hxne hxb hcd; go_wp2_with fail
          go_quiet (fail)
          go_wp2_with fail
          go_roundw
          case rel=>exact⟨j+1,x,by omega,by go_num,rfl,HT,hdr.next nq⟩
          case measure=>simp [intOf]; omega
         ·have HK:=Lib.hid (best_keep HB.out hjL hjx (.inr ⟨hbl,hxb⟩))
          have hless:=less_no hxb; clear hjx hxne hxb hcd; go_wp2_with fail
          go_quiet (fail)
          go_wp2_with fail
          go_roundw
          case rel=>exact⟨j+1,bl,by omega,by go_num,rfl,HK,hdr.next nq⟩
          case measure=>simp [intOf]; omega
       ·have hcd:Ids.cand out x=false:=by rw [hcy]; exact decide_eq_false hyx
        have HK:=Lib.hid (best_keep HB.out hjL hjx (.inl hcd)); by_cases hxy:x<y
        ·have g1:=less_yes hxy
         clear hcy hyx hjx hxne hcd hxy; go_wp2_with fail
         go_quiet (fail)
         go_wp2_with fail
         go_roundw
         case rel=>exact⟨j+1,bl,by omega,by go_num,rfl,HK,hdr.next nq⟩
         case measure=>simp [intOf]; omega
        ·have g1:=less_no hxy
         have hex:x=y:=by
          rcases Ids.lt_tri x y with g|g|g
          ·exact absurd g hxy
          ·exact g
          ·exact absurd g hyx
         have g2:(x==y)=true:=by simp [hex]
         clear hcy hyx hjx hxne hcd hxy hex; go_wp2_with fail
         go_quiet (fail)
         go_wp2_with fail
         go_roundw
         case rel=>exact⟨j+1,bl,by omega,by go_num,rfl,HK,hdr.next nq⟩
         case measure=>simp [intOf]; omega
     ·obtain rfl:j=k:=by omega
      have hownx:wx.ownsRow w.heap.size 9 1 (.slice A4 m c4) m (tv out):=own_below hown (hdr.below wo.heap.size) (Nat.le_refl _); have hbx:Below w.heap.size w wx:=hb.trans (hdr.below _); by_cases hbl:bl=[]
      ·have hdone:out=Ids.uniq L:=HP.out.done (fun x hx=>by
        rcases HB.out with⟨_,h2⟩|⟨_,h2,_⟩
        ·obtain⟨i,hi,rfl⟩:=List.mem_iff_getElem.1 hx
         exact h2 i hi (by have:=HL.out; omega)
        ·exact absurd hbl h2)
       subst hbl; have hset:Hid (Ids.setOf L=if 4<m then (none,4) else (some out,0)):=Lib.hid (by
        unfold Ids.setOf; rw [HSEL.out,← hdone,HM.out]; rfl)
       have hem:decide (str ([]:List UInt8)=⟨#[]⟩)=true:=empty_str []; clear hdone hown hb; by_cases h4:4<m
       ·go_wp2_with fail
        go_ret2; exact⟨none,0,0,by rw [hset.out,if_pos h4]; rfl,by omega,by rw [hset.out,if_pos h4]; exact World.ownsRow_nil _ _ _ _,hbx⟩
       ·go_wp2_with fail
        go_ret2; exact⟨A4,m,c4,by rw [hset.out,if_neg h4]; rfl,hmc,by rw [hset.out,if_neg h4]; exact hownx,hbx⟩
      ·have hin:bl∈L∧Ids.cand out bl=true∧∀ x∈L,Ids.cand out x=true→¬ x<bl:=by
        rcases HB.out with⟨h1,_⟩|⟨h1,_,h2,h3⟩
        ·exact absurd h1 hbl
        ·refine⟨h1,h2,fun x hx hc=>?_⟩
         obtain⟨i,hi,rfl⟩:=List.mem_iff_getElem.1 hx; exact h3 i hi (by have:=HL.out; omega) hc
       have HP2:=Lib.hid (HP.out.next hin.1 hin.2.1 hin.2.2); have hll:=Ids.left_lt hin.1 hin.2.1; have hne:bl.isEmpty=false:=by cases bl <;> simp_all
       have hem:decide (str bl=⟨#[]⟩)=false:=(empty_str bl).trans hne; have hems:¬ str bl=⟨#[]⟩:=by simpa using hem
       have e1:tv (out++[bl])=tv out++[.string (str bl)]:=by rw [tv_append]; rfl
       have HE:=Lib.hid e1; have h63:m+1≤maxLen:=by unfold maxLen; omega
       have hk16:(m+1) * 16≤140737488355328:=by omega
       have hB4:w.heap.size≤wx.heap.size:=hbx.size; clear e1 hin hown hb; go_wp2_with (at_builtin; go_must (refine wpList_push rfl (.tmp 62) (.tmp 64) 25 rfl w.heap.size iT (.string ⟨#[]⟩) 16 Tryz.underlying25 hiT hzT hsT hbT rfl _ _ _ rfl hownx rfl rfl h63 hk16 hB4 ?_))
       intro A8 c8 w8 hown8 g7 g8 hgr; have hb8:Below w.heap.size w w8:=below_push hbx hgr hB4 hownx (Nat.le_refl _); rw [← HE.out] at hown8; clear hgr hownx hdr; go_wp2_with fail
       go_roundw
       case rel=>exact⟨m+1,A8,c8,out++[bl],rfl,g7,hown8,hb8,HP2.out,by omega,Lib.hid (by rw [List.length_append,HM.out]; rfl)⟩
       case measure=>simp; omega
end
section
open Go.RowKit Mem Go.Sort Go.Lib
theorem cells_of_ts{w:World} {A:Option Addr} {n:Nat} {L:List (List UInt8)} (h:Ts w A n L) (hn:0<n):∃ b off,A=some ⟨b,off,none⟩∧b<w.heap.size∧∀ j,(hj:j<L.length)→w.cell? ⟨b,off+j,none⟩=some (.string (str L[j])):=by
 have hl:=h.len
 obtain⟨b,off,e,hc0⟩:=h.lit (i:=0) (by omega)
 refine⟨b,off,e,World.block_lt_of_cell? w _ hc0,fun j hj=>?_⟩
 obtain⟨b2,off2,e2,hc⟩:=h.lit hj
 rw [e] at e2
 injection e2 with e2
 injection e2 with e2 e3
 subst e2 e3
 exact hc
theorem clone_any(A:Option Addr) (n c:Nat) (L:List (List UInt8)) (w:World) (h:Ts w A n L) (hn:n * 16≤140737488355328) (hnil:A=none→n=0) :
  Calls Tryz.prog 28 #[.slice A n c] w fun e w'=>∃ v',e=.returned v'∧w'.ownsRow w.heap.size 9 1 v' n (tv L)∧Below w.heap.size w w':=by
 have hl:=h.len
 by_cases h0:n=0
 ·subst h0
  obtain rfl:=List.eq_nil_of_length_eq_zero hl
  cases A with
  | none =>
   refine(Tryz.slices_Clone_string_nil 0 c w).mono ?_; rintro e w' ⟨rfl,rfl⟩; exact⟨_,rfl,World.ownsRow_nil _ _ _ _,Below.refl _ _⟩
  | some a =>
   refine(Tryz.slices_Clone_string_zero a c w).mono ?_; rintro e w' ⟨v',rfl,h1,_,h2⟩; exact⟨v',rfl,h1,h2⟩
 ·obtain⟨b,off,rfl,hb,hc⟩:=cells_of_ts h (by omega)
  refine(Tryz.slices_Clone_string b off n c (L.map str) w (by rw [List.length_map]; omega) hn (fun j hj=>?_)).mono ?_
  ·have hj':j<L.length:=by simpa using hj
   rw [hc j hj']; congr 2
   rw [List.getD_eq_getElem?_getD,List.getElem?_map,List.getElem?_eq_getElem hj']; rfl
  ·rintro e w' ⟨v',rfl,h1,_,h2⟩
   rw [List.take_of_length_le (by rw [List.length_map]; omega),List.map_map] at h1
   exact⟨v',rfl,h1,h2⟩
theorem sort_any(base:Nat) (v:Value) (n:Nat) (L:List (List UInt8)) (w:World) (h:w.ownsRow base 9 1 v n (tv L)) (hn:n * 16≤140737488355328) (hb:base≤w.heap.size) :
  Calls Tryz.prog 162 #[v] w fun e w'=>e=.returned (.tuple #[])∧w'.ownsRow base 9 1 v n (tv (L.mergeSort fun x y=>decide (x≤y)))∧Below base w w':=by
 have hl:L.length=n:=by have:=h.1; rw [tv_length] at this; omega
 by_cases h0:n=0
 ·subst h0
  obtain rfl:=List.eq_nil_of_length_eq_zero hl; obtain⟨A,c,rfl,_,_⟩:=own_form h; refine(Tryz.slices_Sort_string_none A c w).mono ?_; rintro e w' ⟨rfl,rfl⟩; exact⟨rfl,by simpa using h,Below.refl _ _⟩
 ·have hne:v≠.slice none 0 0:=by
   rintro rfl; rcases h.2 with⟨_,h1⟩|⟨g,cap,cur,h1,_⟩
   ·exact h0 h1
   ·cases h1
  rcases h.2 with⟨h1,_⟩|⟨g,cap,cur,rfl,hbg,hg,hnc,hcm,hcs,ht⟩
  ·exact absurd h1 hne
  ·have hH:Holds encStr w g 0 L.toArray:=holds_of_block hg (by rw [hl,← Nat.mul_one n]; exact ht)
   have hgl:g<w.heap.size:=(Array.getElem?_eq_some_iff.1 hg).1; have hS:=Tryz.slices_Sort_string g 0 cap L w hH hgl (by omega); rw [hl] at hS; refine hS.mono ?_; rintro e w' ⟨rfl,q,os,rfl⟩; refine⟨rfl,?_,?_⟩
   ·have:=ownsRow_sorted (n:=q) (os:=os) (ss:=L) (ts:=L.mergeSort fun x y=>decide (x≤y)) (by simp) hbg hg (by omega) hcm hcs
    rw [hl] at this; exact this
   ·exact(Below.refl base w).grown (grownBy_sorted _) hb (fun j hj=>by cases hj; exact hbg)
theorem upto_le(d:Array (List UInt8)):∀ m,(Lib.compactUpTo d m).length≤m
 | 0=>by simp [Lib.compactUpTo]
 | m+1=>by
  rw [Lib.compactUpTo_succ,List.length_append]; have:=upto_le d m; split <;> simp <;> omega
theorem compact_le(L:List (List UInt8)):(Lib.compact L).length≤L.length:=upto_le _ _
theorem compact_any(base:Nat) (v:Value) (n:Nat) (L:List (List UInt8)) (w:World) (h:w.ownsRow base 9 1 v n (tv L)) (hn:n * 16≤140737488355328) :
  Calls Tryz.prog 163 #[v] w fun e w'=>∃ A c,e=.returned (.slice A (Lib.compact L).length c)∧(Lib.compact L).length≤c∧w'.ownsRow base 9 1 (.slice A (Lib.compact L).length c) (Lib.compact L).length (tv (Lib.compact L))∧Below base w w':=by
 have hl:L.length=n:=by have:=h.1; rw [tv_length] at this; omega
 by_cases h0:n=0
 ·subst h0
  obtain rfl:=List.eq_nil_of_length_eq_zero hl; obtain⟨A,c,rfl,hc,_⟩:=own_form h; refine(Tryz.slices_Compact_string_empty A c w).mono ?_; rintro e w' ⟨rfl,rfl⟩; exact⟨A,c,rfl,hc,h,Below.refl _ _⟩
 ·have hne:v≠.slice none 0 0:=by
   rintro rfl; rcases h.2 with⟨_,h1⟩|⟨g,cap,cur,h1,_⟩
   ·exact h0 h1
   ·cases h1
  obtain⟨g,cap,rfl,hbg,hgl,hnc,hcm,_,hH⟩:=holds_of_ownsRow (enc:=encStr) h hne; have hC:=Tryz.slices_Compact_string g 0 cap L w hH (by omega) (by omega); rw [hl] at hC; have hle:(Lib.compact L).length≤n:=by rw [← hl]; exact compact_le L
  refine hC.mono ?_; rintro e w' ⟨rfl,q,rfl⟩; refine⟨_,cap,rfl,by omega,?_,below_putRow (Below.refl _ _) hbg⟩; have:=ownsRow_putRow (enc:=encStr) (q:=q) (k:=(Lib.compact L).length) (ys:=Lib.compact L++List.replicate (n - (Lib.compact L).length) []) h (by simp; omega) hle
  rw [List.take_left'] at this
  ·exact this
  ·rfl
end
section
open Go.RowKit Mem Go.Sort Go.Lib
theorem set1_any(l:List UInt8) (w:World) (hl:l.length≤9223372036854775807):Calls Tryz.prog 160 #[.string (str l)] w fun e w'=>e=.returned (.bool (!Ids.selector l))∧∃ q,w'=w.drewN q:=by
 have h:=selector_any l w hl
 generalize Ids.selector l=b at *
 go_enter Tryz.func160,Tryz.ntmps160
 go_wp2_with fail
 refine h.mono ?_
 rintro e w1 ⟨rfl,q,rfl⟩
 go_wp2
 go_ret
 exact⟨rfl,q,rfl⟩
theorem idxQ_any(g:Nat) (lb:Array Value) (eg:∀ args w,(callFunc g args).run Tryz.prog w=.ok (.enter g args) w) (p:List UInt8→Bool) (A:Option Addr) (n c:Nat) (L:List (List UInt8)) (w:World) (h:Ts w A n L) (hn:n≤9223372036854775807) (hlen:∀ x∈L,x.length≤9223372036854775807)
  (hp:∀ (W:World) (x:List UInt8),x.length≤9223372036854775807→Below w.heap.size w W→Calls Tryz.prog g (#[.string (str x)]++lb) W fun e w'=>e=.returned (.bool (p x))∧∃ q,w'=W.drewN q) :
  Calls Tryz.prog 143 #[.slice A n c,.func (.func g) #[] lb] w fun e w'=>e=.returned (.int .i64 (idxOf p L))∧Drew w w':=by
 have hl:=h.len
 have HLEN:=Lib.hid hl
 obtain⟨r,HR⟩:∃ r,Hid (idxOf p L=r):=⟨_,Lib.hid rfl⟩
 rw [HR.out]
 have HP:=Lib.hid hp
 have HZ:=Lib.hid hlen
 clear hp hlen
 go_enter Tryz.func143,Tryz.ntmps143
 go_wp2
 go_loopw [8,5] (fun i _ wr=>∃ k:Nat,k≤n∧i=.int .i64 k∧Hid (∀ x∈L.take k,p x=false)∧Drew w wr) (fun i _ _=>n - (intOf i).toNat)
 case atStart=>exact⟨0,by omega,rfl,Lib.hid (by simp),Drew.refl _⟩
 case round =>
  obtain⟨k,hk,rfl,HT,hb⟩:=hrel; by_cases hlt:k<n
  ·have hkL:k<L.length:=by rw [hl]; exact hlt
   have hbb:=hb.below w.heap.size; obtain⟨b,off,rfl,hcell⟩:=(Ts.below h hbb).lit hkL; have hc:=HP.out wr L[k] (HZ.out _ (List.getElem_mem hkL)) hbb; have hi:(k:Int)<(n:Int):=by omega
   cases hq:p L[k]
   ·have HN:=Lib.hid (take_more hkL HT.out hq)
    rw [hq] at hc; generalize L[k]=X at *; clear hq hbb; go_wp2_with fail
    refine hc.mono ?_; rintro e w1 ⟨rfl,q,rfl⟩; go_wp2; go_roundw
    case rel=>exact⟨k+1,by omega,by go_num,HN,hb.next q⟩
    case measure=>simp [intOf]; omega
   ·have HI:=Lib.hid (idx_some hkL HT.out hq)
    rw [hq] at hc; generalize L[k]=X at *; clear hq hbb; go_wp2_with fail
    refine hc.mono ?_; rintro e w1 ⟨rfl,q,rfl⟩; go_wp2; go_ret; exact⟨by rw [← HR.out,HI.out]; rfl,hb.next q⟩
  ·have hkn:k=n:=by omega
   have HI:=Lib.hid (idx_none (p:=p) (L:=L) (by have:=HT.out; rwa [hkn,List.take_of_length_le (by rw [HLEN.out]; exact Nat.le_refl _)] at this))
   have hi:¬ ((k:Int)<(n:Int)):=by omega
   go_wp2; go_ret; exact⟨by rw [← HR.out,HI.out]; rfl,hb⟩
theorem func_any(g:Nat) (lb:Array Value) (eg:∀ args w,(callFunc g args).run Tryz.prog w=.ok (.enter g args) w) (p:List UInt8→Bool) (A:Option Addr) (n c:Nat) (L:List (List UInt8)) (w:World) (h:Ts w A n L) (hn:n≤9223372036854775807) (hlen:∀ x∈L,x.length≤9223372036854775807)
  (hp:∀ (W:World) (x:List UInt8),x.length≤9223372036854775807→Below w.heap.size w W→Calls Tryz.prog g (#[.string (str x)]++lb) W fun e w'=>e=.returned (.bool (p x))∧∃ q,w'=W.drewN q) :
  Calls Tryz.prog 159 #[.slice A n c,.func (.func g) #[] lb] w fun e w'=>e=.returned (.bool (L.any p))∧∃ q,w'=w.drewN q:=by
 have hc:=idxQ_any g lb eg p A n c L w h hn hlen hp
 rw [← idx_any]
 generalize idxOf p L=r at *
 go_enter Tryz.func159,Tryz.ntmps159
 go_wp2_with fail
 refine hc.mono ?_
 rintro e w1 ⟨rfl,q,rfl⟩
 go_wp2
 go_ret
 exact⟨by first|rfl|simp,q,rfl⟩
theorem any_not(L:List (List UInt8)) (p:List UInt8→Bool):L.any (fun x=>!p x)=!L.all p:=by
 rw [List.not_all_eq_any_not]
theorem set_any(A:Option Addr) (n c:Nat) (L:List (List UInt8)) (w:World) (h:Ts w A n L) (hn:n * 16≤140737488355328) (hnil:A=none→n=0) (hlen:∀ x∈L,x.length≤9223372036854775807) :
  Calls Tryz.prog 129 #[.slice A n c] w (SetOut w L):=by
 have hall:=func_any 160 #[] (enters_of Tryz.func160 (by kernel_rfl) rfl) (fun x=>!Ids.selector x) A n c L w h (by omega) hlen (fun W x hx _=>set1_any x W hx)
 rw [any_not] at hall
 cases hs:L.all Ids.selector
 ·have hx:Hid (Ids.setOf L=(none,13)):=Lib.hid (by unfold Ids.setOf; rw [hs]; rfl)
  rw [hs] at hall; go_enter Tryz.func129,Tryz.ntmps129
  go_wp2_with fail
  refine hall.mono ?_; rintro e w1 ⟨rfl,q,rfl⟩; go_wp2; go_ret2; exact⟨none,0,0,by rw [hx.out]; rfl,by omega,by rw [hx.out]; exact World.ownsRow_nil _ _ _ _,below_drewM _ _ _⟩
 ·rw [hs] at hall
  have HS:=Lib.hid hs; clear hs; go_enter Tryz.func129,Tryz.ntmps129
  go_wp2_with fail
  refine hall.mono ?_; rintro e w1 ⟨rfl,q,rfl⟩; have h1:Ts (w.drewN q) A n L:=h.below (below_drewM _ _ _); go_wp2_with fail
  refine(clone_any A n c L _ h1 hn hnil).mono ?_; rintro e w2 ⟨v2,rfl,hown2,hb2⟩; have hB2:w.heap.size≤w2.heap.size:=hb2.size; go_wp2_with fail
  refine(sort_any w.heap.size v2 n L w2 hown2 hn hB2).mono ?_; rintro e w3 ⟨rfl,hown3,hb3⟩; go_wp2_with fail
  refine(compact_any w.heap.size v2 n _ w3 hown3 hn).mono ?_; rintro e w4 ⟨A4,c4,rfl,hc4,hown4,hb4⟩; have hu:Lib.compact (L.mergeSort fun x y=>decide (x≤y))=Ids.uniq L:=rfl; rw [hu] at hc4 hown4 ⊢; have hB:Below w.heap.size w w4:=(((below_drewM _ w q).trans hb2).trans hb3).trans hb4; obtain⟨m,hm⟩:∃ m,(Ids.uniq L).length=m:=⟨_,rfl⟩; have hset:Hid (Ids.setOf L=if 4<m then (none,4) else (some (Ids.uniq L),0)):=Lib.hid (by
   unfold Ids.setOf; rw [HS.out,hm]; rfl)
  rw [hm] at hc4 hown4 ⊢; clear hm hu hown3 hown2 h1; by_cases h4:4<m
  ·go_wp2_with fail
   go_ret2; exact⟨none,0,0,by rw [hset.out,if_pos h4]; rfl,by omega,by rw [hset.out,if_pos h4]; exact World.ownsRow_nil _ _ _ _,hB⟩
  ·go_wp2_with fail
   go_ret2; exact⟨A4,m,c4,by rw [hset.out,if_neg h4]; rfl,hc4,by rw [hset.out,if_neg h4]; exact hown4,hB⟩
theorem contains_any(A:Option Addr) (n c:Nat) (L:List (List UInt8)) (x:List UInt8) (w:World) (h:Ts w A n L) (hn:n≤9223372036854775807) :
  Calls Tryz.prog 90 #[.slice A n c,.string (str x)] w fun e w'=>e=.returned (.bool (L.contains x))∧w'=w:=by
 have hl:=h.len
 by_cases h0:n=0
 ·subst h0
  obtain rfl:=List.eq_nil_of_length_eq_zero hl; exact Tryz.slices_Contains_string_empty A c (str x) w
 ·obtain⟨b,off,rfl,hb,hc⟩:=cells_of_ts h (by omega)
  refine(Tryz.slices_Contains_string b off n c (L.map str) (str x) w (by rw [List.length_map]; omega) hn (fun j hj=>?_)).mono ?_
  ·have hj':j<L.length:=by simpa using hj
   rw [hc j hj']; congr 2
   rw [List.getD_eq_getElem?_getD,List.getElem?_map,List.getElem?_eq_getElem hj']; rfl
  ·rintro e w' ⟨rfl,rfl⟩
   refine⟨?_,rfl⟩; congr 2
   rw [List.take_of_length_le (by rw [List.length_map]; omega),Bool.eq_iff_iff,containsS_iff,List.contains_iff_mem]
   constructor
   ·intro hm
    obtain⟨y,hy,e⟩:=List.mem_map.1 hm; rw [← str_inj e]; exact hy
   ·intro hm
    exact List.mem_map.2 ⟨x,hm,rfl⟩
end
section
open Go.RowKit Mem Led
theorem op_node(o:Led.Op) (sv kv:Value):∀ j u,(nodeRow o.node)[j]?=some u→(opCells o sv kv)[12+j]?=some u:=by
 intro j u h
 match j,h with
 | 0,h=>exact h
 | 1,h=>exact h
 | 2,h=>exact h
 | 3,h=>exact h
 | 4,h=>exact h
 | j+5,h=>simp [nodeRow] at h
theorem ld_node{w:World} {g:Nat} {o:Led.Op} {sv kv:Value} (h:Blk w g (opCells o sv kv) 47):(ldNod (.pointer (some ⟨g,12,none⟩))).run Tryz.prog w=.ok (.agg (nodeRow o.node).toArray) w :=
 load_cells Tryz.underlying40 rfl sizeNod rfl fun j u hj=>by rw [h.cell]; exact op_node o sv kv j u hj
theorem nodeRow_one(n:Led.Node):∀ u∈nodeRow n,u.oneCell'=true:=by
 intro u hu
 simp [nodeRow,tx,nm] at hu
 rcases hu with rfl|rfl|rfl|rfl|rfl <;> rfl
theorem putNode1_any(a b:Led.Node) (W:World):Calls Tryz.prog 92 #[.agg (nodeRow a).toArray,.agg (nodeRow b).toArray] W fun e w'=>e=.returned (.int .i64 (cN a b))∧Below W.heap.size W w':=by
 have ho:=fun W=>order_any a.name b.name W
 have hb:∀ o p,Below W.heap.size W ((W.alloc o).alloc p):=fun o p=>((Below.refl _ _).alloc (Nat.le_refl _) _).alloc (by simp) _
 unfold cN
 show Calls Tryz.prog 92 #[.agg #[.string (str a.name),.string (str a.key),.int .i64 a.expires,.int .i64 a.seq,.string (str a.doc)],.agg #[.string (str b.name),.string (str b.key),.int .i64 b.expires,.int .i64 b.seq,.string (str b.doc)]] W _
 generalize ord a.name b.name=v at *
 go_enter Tryz.func92,Tryz.ntmps92
 go_wp2_with fail
 refine(ho _).mono ?_
 rintro e w1 ⟨rfl,rfl⟩
 go_wp2
 go_ret
 exact⟨rfl,hb _ _⟩
def NodePut (base gl:Nat) (vN:Value) (N:List Led.Node) (Bn:List Txt) (n:Led.Node) (w:World) (x:Ending) (w':World):Prop :=
 if mayNode n then (if Bn.contains n.name then x=.returned (.int .i64 21)∧Below w.heap.size w w' else Puts nodeRow 5 40 base gl 1 vN (put cN 4 n N) w x w') else x=.returned (.int .i64 1)∧Below w.heap.size w w'
theorem puts_from{α:Type} {enc:α→List Value} {k:Nat} {e:TypeId} {base gl sl:Nat} {v:Value} {r:Option (List α)} {w W w':World} {x:Ending} (hb:Below w.heap.size w W) (h:Puts enc k e base gl sl v r W x w'):Puts enc k e base gl sl v r w x w':=by
 unfold Puts at h ⊢
 cases r with
 | none=>exact⟨h.1,hb.trans (h.2.mono hb.size)⟩
 | some L=>exact⟨h.1,slot_from hb h.2⟩
theorem putNode_any(gl:Nat) (o:Led.Op) (sv kv:Value) (vs:List Value) (N:List Led.Node) (Bn:List Txt) (base:Nat) (vN vB:Value) (w:World) (hz:o.node.name.length≤9223372036854775807) (hN:N.length≤4) (hB:Bn.length≤8) (hr:Rises cN N) (hbase:base≤w.heap.size)
  (hbl:Blk w gl vs 30) (h1:vs[1]?=some vN) (h2:vs[2]?=some vB) (hown:w.ownsRow base 40 5 vN N.length (rows nodeRow N)) (hne:vN.ownBlock≠some gl) (hownB:w.ownsRow base 9 1 vB Bn.length (rows strRow Bn)) :
  Calls Tryz.prog 46 #[.pointer (some ⟨gl,0,none⟩),.agg (opCells o sv kv).toArray] w (NodePut base gl vN N Bn o.node w):=by
 obtain⟨AB,cB,rfl,hBc,hBm⟩:=own_form hownB
 obtain⟨W,hW⟩:∃ W,w.alloc (.cells (opCells o sv kv).toArray 47)=W:=⟨_,rfl⟩
 have b0:Blk W w.heap.size (opCells o sv kv) 47:=by rw [← hW]; exact Blk.new w _ _
 have hbW:Below w.heap.size w W:=by rw [← hW]; exact(Below.refl _ _).alloc (Nat.le_refl _) _
 have hl0:=ld_node b0
 have hnode:=node_any o.node W hz
 have HW:=Lib.hid hW
 clear hW
 obtain⟨CS,hCS⟩:∃ CS,(opCells o sv kv).toArray=CS:=⟨_,rfl⟩
 rw [hCS] at HW ⊢
 clear hCS
 go_enter Tryz.func46,Tryz.ntmps46
 go_upto_region 1 with fail
 rw [HW.out]
 clear HW
 cases hm:mayNode o.node
 ·have HR:Hid (∀ w',Below w.heap.size w w'→NodePut base gl vN N Bn o.node w (.returned (.int .i64 1)) w'):=Lib.hid (fun w' h=>by unfold NodePut; rw [hm]; exact⟨rfl,h⟩)
  rw [hm] at hnode; clear hm; go_wp2_with fail
  refine hnode.mono ?_; rintro e w1 ⟨rfl,hb1⟩; go_wp2; go_ret; exact HR.out _ (hbW.trans (hb1.mono hbW.size))
 ·rw [hm] at hnode
  go_wp2_with fail
  refine hnode.mono ?_; rintro e w1 ⟨rfl,hb1⟩; have b1:=b0.below hb1; have hbw1:Below w.heap.size w w1:=hbW.trans (hb1.mono hbW.size); have hbl1:=hbl.below hbw1; have f1:∀ p,(Batch.grew w1 p).cell? ⟨gl,2,none⟩=some (.slice AB Bn.length cB):=fun p=>(Batch.grew_cell (a:=⟨gl,2,none⟩) hbl1.lt p).trans ((hbl1.cell 2).trans h2); have f2:∀ p,(Batch.grew w1 p).cell? ⟨w.heap.size,12,none⟩=some (.string (str o.node.name)):=fun p=>(Batch.grew_cell (a:=⟨w.heap.size,12,none⟩) b1.lt p).trans (b1.cell 12); have HC:Hid (∀ p,Calls Tryz.prog 90 #[.slice AB Bn.length cB,.string (str o.node.name)] (Batch.grew w1 p) fun e w'=>e=.returned (.bool (Bn.contains o.node.name))∧Below (Batch.grew w1 p).heap.size (Batch.grew w1 p) w'):=Lib.hid fun p =>
   (contains_any AB Bn.length cB Bn o.node.name _ (Ts.below (Ts.below (ts_own hownB) hbw1) (Batch.grew_below w1 p)) (by omega)).mono fun e w' ⟨he,hw⟩=>⟨he,by rw [hw]; exact Below.refl _ _⟩
  clear hl0 hnode
  cases hcn:Bn.contains o.node.name
  ·have HR:Hid (∀ x w',Puts nodeRow 5 40 base gl 1 vN (put cN 4 o.node N) w x w'→NodePut base gl vN N Bn o.node w x w'):=Lib.hid (fun x w' h=>by unfold NodePut; rw [hm,hcn]; exact h)
   rw [hcn] at HC; clear hcn hm; go_wp2_with fail
   refine Batch.wp_region_grew (by kernel_rfl) (by kernel_rfl) ?_; repeat (go_big_quiet_step (first|(go_at_call 90; exact Batch.calls_grew (HC.out _))|fail))
   refine wpQuiet_nil ?_; rintro _ ⟨px,rfl⟩; have g2:=Batch.grew_below w1 px; clear f1 f2 HC; generalize Batch.grew w1 px=w2 at *; have b2:=b1.below g2; have f3:∀ p,(ldNod (.pointer (some ⟨w.heap.size,12,none⟩))).run Tryz.prog (Batch.grew w2 p)=.ok (.agg (nodeRow o.node).toArray) (Batch.grew w2 p):=fun p=>ld_node (b2.below (Batch.grew_below w2 p)); go_wp2_with fail
   refine Batch.wp_region_grew_tail 5 (by kernel_rfl) (by kernel_rfl) ?_; simp only [List.take_succ_cons,List.take_zero,List.drop_succ_cons,List.drop_zero]; repeat (go_big_quiet_step (fail))
   refine wpQuiet_nil ?_; rintro _ ⟨py,rfl⟩; have g3:Below w1.heap.size w1 (Batch.grew w2 py):=g2.trans ((Batch.grew_below w2 py).mono g2.size); clear f3; generalize Batch.grew w2 py=w3 at *; have hbw3:Below w.heap.size w w3:=hbw1.trans (g3.mono hbw1.size); have hput:=putNod_any gl 1 92 (enters_of Tryz.func92 (by kernel_rfl) rfl) cN cN_cmp o.node N hr base vN 4 w3 hN (by omega) vs 30 (hbl.below hbw3) h1 (own_below hown hbw3 (Nat.le_refl _)) hne (Nat.le_trans hbase hbw3.size) (fun y _=>nodeRow_one y) (nodeRow_one _) (fun W' y _ _=>putNode1_any y o.node W'); have HP:=Lib.hid (hput.mono fun x w' h=>puts_from hbw3 h); clear hput; obtain⟨Y,hY⟩:∃ Y,(nodeRow o.node).toArray=Y:=⟨_,rfl⟩; rw [hY] at HP ⊢; go_wp2_with fail
   refine HP.out.mono ?_; intro e w4 h; have h':=Lib.hid (HR.out e w4 h); clear HP HR; unfold Puts at h
   cases hq:put cN 4 o.node N
   all_goals
    rw [hq] at h; obtain⟨rfl,_⟩:=h; clear hq; go_wp2; (try rw [Batch.Qn_normal])
    (try go_wp2)
    go_ret; exact h'.out
  ·have HR:Hid (∀ w',Below w.heap.size w w'→NodePut base gl vN N Bn o.node w (.returned (.int .i64 21)) w'):=Lib.hid (fun w' h=>by unfold NodePut; rw [hm,hcn]; exact⟨rfl,h⟩)
   rw [hcn] at HC; clear hcn hm; go_wp2_with fail
   refine Batch.wp_region_grew (by kernel_rfl) (by kernel_rfl) ?_; repeat (go_big_quiet_step (first|(go_at_call 90; exact Batch.calls_grew (HC.out _))|fail))
   refine wpQuiet_nil ?_; rintro _ ⟨px,rfl⟩; have g2:=Batch.grew_below w1 px; clear f1 f2 HC; generalize Batch.grew w1 px=w2 at *; go_wp2_with fail
   go_ret; exact HR.out _ (hbw1.trans (g2.mono hbw1.size))
end
section
open Go.RowKit Mem Led
theorem rows_set{α:Type} {enc:α→List Value} {k:Nat} (hk:∀ x,(enc x).length=k) {L:List α} {i j:Nat} {x':α} {u:Value} {R:List Value} (hi:i<L.length) (hj:j<k) (he:enc x'=(enc L[i]).set j u) :
  (rows enc L++R).set (i * k+j) u=rows enc (L.set i x')++R:=by
 have e:L=L.take i++L[i]::L.drop (i+1):=by rw [← List.drop_eq_getElem_cons hi,List.take_append_drop]
 have hs:L.set i x'=L.take i++x'::L.drop (i+1):=by rw [List.set_eq_take_append_cons_drop,if_pos hi]
 have hl:(rows enc (L.take i)).length=i * k:=by rw [rows_length hk,List.length_take,Nat.min_eq_left (by omega)]
 have hy:=hk L[i]
 rw [hs]
 conv=>lhs; rw [e]
 rw [rows_append,rows_cons,rows_append,rows_cons,he]
 generalize rows enc (L.take i)=A at *
 generalize rows enc (L.drop (i+1))=D at *
 generalize enc L[i]=Y at *
 simp only [List.append_assoc]
 rw [List.set_append_right _ _ (by omega),List.set_append_left _ _ (by omega)]
 congr 2
 rw [hl,Nat.add_sub_cancel_left]
theorem modP_at{α:Type} {p:α→Bool} {f:α→α}:∀ {L:List α} {i:Nat} (hi:i<L.length),(∀ x∈L.take i,p x=false)→p L[i]=true→modP p f L=L.set i (f L[i])
 | a::L,0,_,_,hp=>by
  unfold modP; have:p a=true:=hp; rw [if_pos this]; rfl
 | a::L,i+1,hi,h,hp=>by
  unfold modP; have ha:p a=false:=h a (by simp); rw [ha]; simp only [Bool.false_eq_true,if_false,List.set_cons_succ,List.getElem_cons_succ]; rw [modP_at (L:=L) (f:=f) (by simpa using hi) (fun x hx=>h x (by rw [List.take_succ_cons]; exact List.mem_cons_of_mem _ hx)) hp]
theorem find_at{α:Type} {p:α→Bool}:∀ {L:List α} {i:Nat} (hi:i<L.length),(∀ x∈L.take i,p x=false)→p L[i]=true→L.find? p=some L[i]
 | a::L,0,_,_,hp=>by
  have:p a=true:=hp; simp [this]
 | a::L,i+1,hi,h,hp=>by
  have ha:p a=false:=h a (by simp); rw [List.find?_cons,ha]; simp only [List.getElem_cons_succ]; exact find_at (by simpa using hi) (fun x hx=>h x (by rw [List.take_succ_cons]; exact List.mem_cons_of_mem _ hx)) hp
theorem slot_cell{α:Type} {enc:α→List Value} {k:Nat} (hk:∀ x,(enc x).length=k) {e:TypeId} {base gl sl g c i j:Nat} {L:List α} {M vs:List Value} {tl:TypeId} {x':α} {u:Value} {w w1:World} (hb:Below w.heap.size w w1) (hbg:base≤g) (hB:Blk w1 g M e) (hnc:L.length≤c) (hcm:c≤maxLen) (hM:M.length=c * k) (hMt:M.take (L.length * k)=rows enc L)
  (hi:i<L.length) (hj:j<k) (he:enc x'=(enc L[i]).set j u) (hgl:gl≠g) (hbl:Blk w gl vs tl) (hsl:vs[sl]?=some (.slice (some ⟨g,0,none⟩) L.length c)) :
  Slot enc k e base gl sl (.slice (some ⟨g,0,none⟩) L.length c) (L.set i x') w (w1.setCell ⟨g,i * k+j,none⟩ u):=by
 have hB3:Blk (w1.setCell ⟨g,i * k+j,none⟩ u) gl vs tl:=(hbl.below hb).set_ne (p:=⟨g,i * k+j,none⟩) hgl _
 have hBM:Blk (w1.setCell ⟨g,i * k+j,none⟩ u) g (M.set (i * k+j) u) e:=hB.set _ _
 refine⟨_,w1.setCell ⟨g,i * k+j,none⟩ u,(setCell_keep hB3 hsl).symm,grown_after hb ?_,?_,.inl rfl⟩
 ·rw [setCell_eq_setRow w1 g (i * k+j) M.toArray _ (0,0) _ hB]
  exact grown_setRow (grown_refl _ _)
 ·rw [List.length_set]
  refine own_of_row hbg hBM hnc hcm (by rw [List.length_set,hM]) ?_; have e:M=rows enc L++M.drop (L.length * k):=by rw [← hMt,List.take_append_drop]
  have h:=rows_set hk (R:=M.drop (L.length * k)) hi hj he; rw [← e] at h; rw [h,List.take_append_of_le_length (by rw [rows_length hk,List.length_set]; exact Nat.le_refl _),List.take_of_length_le (by rw [rows_length hk,List.length_set]; exact Nat.le_refl _)]
theorem seq1_any(x:Led.Node) (n:Txt) (go:Nat) (W:World) (hc:W.cell? ⟨go,2,none⟩=some (.string (str n))) :
  Calls Tryz.prog 115 (#[.agg (nodeRow x).toArray]++#[.pointer (some ⟨go,0,none⟩)]) W fun e w'=>e=.returned (.bool (x.name==n))∧Below W.heap.size W w':=by
 have hgo:=World.block_lt_of_cell? W _ hc
 simp only [] at hgo
 have hb:∀ o,Below W.heap.size W (W.alloc o):=fun o=>(Below.refl _ _).alloc (Nat.le_refl _) _
 show Calls Tryz.prog 115 #[.agg #[.string (str x.name),.string (str x.key),.int .i64 x.expires,.int .i64 x.seq,.string (str x.doc)],.pointer (some ⟨go,0,none⟩)] W _
 go_enter Tryz.func115,Tryz.ntmps115
 go_wp2_with fail
 go_ret
 exact⟨by first|rfl|simp,hb _⟩
def SeqDone (base gl:Nat) (vN:Value) (N:List Led.Node) (s:Txt) (n:Int) (w:World) (x:Ending) (w':World):Prop:=match N.find? (fun d=>d.name==s) with
 | none=>x=.returned (.int .i64 7)∧Below w.heap.size w w'
 | some d=>if n≤d.seq||n > 1099511627776 then x=.returned (.int .i64 22)∧Below w.heap.size w w'
  else x=.returned (.int .i64 0)∧Slot nodeRow 5 40 base gl 1 vN (modP (fun d=>d.name==s) (fun d=>{ d with seq:=n }) N) w w'
theorem seq_any(gl:Nat) (ops vs:List Value) (s:Txt) (n:Int) (N:List Led.Node) (base:Nat) (vN:Value) (w:World) (hN:N.length≤1000) (ho1:ops[1]?=some (.int .i64 n)) (ho2:ops[2]?=some (.string (str s)))
  (hbl:Blk w gl vs 30) (h1:vs[1]?=some vN) (hown:w.ownsRow base 40 5 vN N.length (rows nodeRow N)) (hne:vN.ownBlock≠some gl) :
  Calls Tryz.prog 55 #[.pointer (some ⟨gl,0,none⟩),.agg ops.toArray] w (SeqDone base gl vN N s n w):=by
 obtain⟨A,c,rfl,hnc,hcm⟩:=own_form hown
 obtain⟨W,hW⟩:∃ W,w.alloc (.cells ops.toArray 47)=W:=⟨_,rfl⟩
 have b0:Blk W w.heap.size ops 47:=by rw [← hW]; exact Blk.new w _ _
 have hbW:Below w.heap.size w W:=by rw [← hW]; exact(Below.refl _ _).alloc (Nat.le_refl _) _
 have hblW:=hbl.below hbW
 have cN:W.cell? ⟨gl,1,none⟩=some (.slice A N.length c):=(hblW.cell 1).trans h1
 have hidx:=idxNod_any 115 #[.pointer (some ⟨w.heap.size,0,none⟩)] (enters_of Tryz.func115 (by kernel_rfl) rfl) (fun d=>d.name==s) A N.length c N W (Vs.of_own (own_below hown hbW (Nat.le_refl _))) (by omega) (fun W' x _ hb=>seq1_any x s w.heap.size W' (((b0.below hb).cell 2).trans ho2))
 have HW:=Lib.hid hW
 clear hW
 obtain⟨CS,hCS⟩:∃ CS,ops.toArray=CS:=⟨_,rfl⟩
 rw [hCS] at HW ⊢
 clear hCS
 go_enter Tryz.func55,Tryz.ntmps55
 go_upto_region 1 with fail
 rw [HW.out]
 clear HW
 rcases idx_cases (fun d:Led.Node=>d.name==s) N with⟨hi,ha⟩|⟨i,hiL,hi,ha,hpi,hlo⟩
 ·rw [hi] at hidx
  have HR:Hid (∀ w',Below w.heap.size w w'→SeqDone base gl (.slice A N.length c) N s n w (.returned (.int .i64 7)) w'):=Lib.hid (fun w' h=>by
   unfold SeqDone; have:N.find? (fun d=>d.name==s)=none:=by
    rw [List.find?_eq_none]; intro x hx; rw [List.any_eq_false] at ha; exact ha x hx
   rw [this]; exact⟨rfl,h⟩)
  clear hi ha; go_wp2_with fail
  refine hidx.mono ?_; rintro e w1 ⟨rfl,hb1⟩; go_wp2; go_ret; exact HR.out _ (hbW.trans (hb1.mono hbW.size))
 ·rw [hi] at hidx
  rcases own_cases hown with⟨_,h0,_⟩|⟨g,c',M,he,hbg,hgw,hB,hnc',hcm',hM,hMt⟩
  ·omega
  injection he with he1 _ he3
  subst he1 he3; have hgg:gl≠g:=fun e=>hne (by simp [Value.ownBlock,e]); obtain⟨d,hd⟩:∃ d,N[i]=d:=⟨_,rfl⟩; have hfind:N.find? (fun d=>d.name==s)=some d:=by rw [find_at hiL hlo hpi,hd]
  have hmod:modP (fun d:Led.Node=>d.name==s) (fun d=>{ d with seq:=n }) N=N.set i { d with seq:=n }:=by rw [modP_at hiL hlo hpi,hd]
  have H22:Hid ((n≤d.seq||n > 1099511627776)=true→∀ w',Below w.heap.size w w'→SeqDone base gl (.slice (some ⟨g,0,none⟩) N.length c) N s n w (.returned (.int .i64 22)) w'):=Lib.hid (fun h w' hb=>by
   unfold SeqDone; rw [hfind]; simp only [h,if_true]; exact⟨trivial,hb⟩)
  have H0:Hid ((n≤d.seq||n > 1099511627776)=false→∀ w',Slot nodeRow 5 40 base gl 1 (.slice (some ⟨g,0,none⟩) N.length c) (N.set i { d with seq:=n }) w w'→SeqDone base gl (.slice (some ⟨g,0,none⟩) N.length c) N s n w (.returned (.int .i64 0)) w'):=Lib.hid (fun h w' hb=>by
   unfold SeqDone; rw [hfind,hmod]; simp only [h,Bool.false_eq_true,if_false]; exact⟨trivial,hb⟩)
  have hcd:∀ W',Blk W' g M 40→W'.cell? ⟨g,i * 5+3,none⟩=some (.int .i64 d.seq):=fun W' hb=>by
   have hlt:i * 5+3<N.length * 5:=by omega
   have h:=rows_at nodeRow_len (enc:=nodeRow) hiL (j:=3) (by omega); rw [hb.cell]; rw [← hMt,List.getElem?_take,if_pos hlt,hd] at h; exact h
  have HSL:Hid (∀ w1,Below w.heap.size w w1→Slot nodeRow 5 40 base gl 1 (.slice (some ⟨g,0,none⟩) N.length c) (N.set i { d with seq:=n }) w (w1.setCell ⟨g,i * 5+3,none⟩ (.int .i64 n))):=Lib.hid (fun w1 hb =>
   slot_cell nodeRow_len hb hbg (hB.below hb) hnc hcm' hM hMt hiL (by omega) (by rw [hd]; rfl) hgg hbl h1)
  have hi0:¬ ((i:Int)<0):=by omega
  have hi1:(i:Int)<(N.length:Int):=by omega
  clear hi ha hpi hlo hfind hmod hd; go_wp2_with fail
  refine hidx.mono ?_; rintro e w1 ⟨rfl,hb1⟩; have hbw1:Below w.heap.size w w1:=hbW.trans (hb1.mono hbW.size); have b1:=b0.below hb1; have hbl1:=hbl.below hbw1; have hB1:=hB.below hbw1; have f1:∀ p,(Batch.grew w1 p).cell? ⟨gl,1,none⟩=some (.slice (some ⟨g,0,none⟩) N.length c):=fun p=>(Batch.grew_cell (a:=⟨gl,1,none⟩) hbl1.lt p).trans ((hbl1.cell 1).trans h1); have f2:∀ p,(Batch.grew w1 p).cell? ⟨w.heap.size,1,none⟩=some (.int .i64 n):=fun p=>(Batch.grew_cell (a:=⟨w.heap.size,1,none⟩) b1.lt p).trans ((b1.cell 1).trans ho1); have f3:∀ p,(Batch.grew w1 p).cell? ⟨g,i * 5+3,none⟩=some (.int .i64 d.seq):=fun p=>hcd _ (hB1.below (Batch.grew_below w1 p)); generalize d.seq=sq at *; by_cases hq1:n≤sq
  ·have hdd:decide (n≤sq)=true:=decide_eq_true hq1
   have h22:=H22.out (by simp [hq1]); have HH:=Lib.hid h22; clear h22 H22 H0 hcd HSL; go_wp2_with fail
   refine Batch.wp_region_grew (by kernel_rfl) (by kernel_rfl) ?_; repeat (go_big_quiet_step (fail))
   refine wpQuiet_nil ?_; rintro _ ⟨px,rfl⟩; have g2:=Batch.grew_below w1 px; clear f1 f2 f3; generalize Batch.grew w1 px=w2 at *; go_wp2_with fail
   go_ret; exact HH.out _ (hbw1.trans (g2.mono hbw1.size))
  ·by_cases hq2:n > 1099511627776
   ·have hdd:decide (n≤sq)=false:=decide_eq_false hq1
    have hde:decide ((1099511627776:Int)<n)=true:=decide_eq_true hq2; have h22:=H22.out (by simp [hq2]); have HH:=Lib.hid h22; clear h22 H22 H0 hcd HSL; go_wp2_with fail
    refine Batch.wp_region_grew (by kernel_rfl) (by kernel_rfl) ?_; repeat (go_big_quiet_step (fail))
    refine wpQuiet_nil ?_; rintro _ ⟨px,rfl⟩; have g2:=Batch.grew_below w1 px; clear f1 f2 f3; generalize Batch.grew w1 px=w2 at *; go_wp2_with fail
    go_ret; exact HH.out _ (hbw1.trans (g2.mono hbw1.size))
   ·have hdd:decide (n≤sq)=false:=decide_eq_false hq1
    have hde:decide ((1099511627776:Int)<n)=false:=decide_eq_false hq2; have h0:=H0.out (by simp [hq1,hq2]); have HH:=Lib.hid h0; clear h0 H22 H0; go_wp2_with fail
    refine Batch.wp_region_grew (by kernel_rfl) (by kernel_rfl) ?_; repeat (go_big_quiet_step (fail))
    refine wpQuiet_nil ?_; rintro _ ⟨px,rfl⟩; have g2:=Batch.grew_below w1 px; clear f1 f2 f3; generalize Batch.grew w1 px=w2 at *; have hbw2:Below w.heap.size w w2:=hbw1.trans (g2.mono hbw1.size); have b2:=b1.below g2; have hbl2:=hbl.below hbw2; have hB2:=hB.below hbw2; have f1:∀ p,(Batch.grew w2 p).cell? ⟨gl,1,none⟩=some (.slice (some ⟨g,0,none⟩) N.length c):=fun p=>(Batch.grew_cell (a:=⟨gl,1,none⟩) hbl2.lt p).trans ((hbl2.cell 1).trans h1); have f2:∀ p,(Batch.grew w2 p).cell? ⟨w.heap.size,1,none⟩=some (.int .i64 n):=fun p=>(Batch.grew_cell (a:=⟨w.heap.size,1,none⟩) b2.lt p).trans ((b2.cell 1).trans ho1); go_wp2_with fail
    refine Batch.wp_region_grew_tail 9 (by kernel_rfl) (by kernel_rfl) ?_; simp only [List.take_succ_cons,List.take_zero,List.drop_succ_cons,List.drop_zero]; repeat (go_big_quiet_step (fail))
    refine wpQuiet_nil ?_; rintro _ ⟨py,rfl⟩; have g3:=Batch.grew_below w2 py; clear f1 f2; generalize Batch.grew w2 py=w3 at *; have hbw3:Below w.heap.size w w3:=hbw2.trans (g3.mono hbw2.size); have hB3:=hB.below hbw3; have hc3:=hcd _ hB3; have hf3:w3.frozen? ⟨g,i * 5+3,none⟩=false:=hB3.froz _; have hres:=HH.out _ (HSL.out w3 hbw3); have HRR:=Lib.hid hres; clear hres HH HSL hcd; go_wp2_with fail
    go_ret; exact HRR.out
end
section
open Go.RowKit Mem Led
theorem keyRow_one(n:Led.Key):∀ u∈keyRow n,u.oneCell'=true:=by
 intro u hu
 simp [keyRow,tx,nm] at hu
 rcases hu with rfl|rfl|rfl|rfl <;> rfl
theorem state1_any(x:Led.Key) (n:Int) (go:Nat) (W:World) (hc:W.cell? ⟨go,0,none⟩=some (.int .i64 n)) :
  Calls Tryz.prog 147 (#[.agg (keyRow x).toArray]++#[.pointer (some ⟨go,0,none⟩)]) W fun e w'=>e=.returned (.bool (x.state==n))∧Below W.heap.size W w':=by
 have hgo:=World.block_lt_of_cell? W _ hc
 simp only [] at hgo
 have hb:∀ o,Below W.heap.size W (W.alloc o):=fun o=>(Below.refl _ _).alloc (Nat.le_refl _) _
 show Calls Tryz.prog 147 #[.agg #[.string (str x.kid),.string (str x.seed),.int .i64 x.state,.int .i64 x.since],.pointer (some ⟨go,0,none⟩)] W _
 go_enter Tryz.func147,Tryz.ntmps147
 go_wp2_with fail
 go_ret
 exact⟨by first|rfl|simp,hb _⟩
theorem prepare1_any(x:Led.Key) (n:Txt) (go:Nat) (W:World) (hc:W.cell? ⟨go,17,none⟩=some (.string (str n))) :
  Calls Tryz.prog 103 (#[.agg (keyRow x).toArray]++#[.pointer (some ⟨go,0,none⟩)]) W fun e w'=>e=.returned (.bool (x.kid==n))∧Below W.heap.size W w':=by
 have hgo:=World.block_lt_of_cell? W _ hc
 simp only [] at hgo
 have hb:∀ o,Below W.heap.size W (W.alloc o):=fun o=>(Below.refl _ _).alloc (Nat.le_refl _) _
 show Calls Tryz.prog 103 #[.agg #[.string (str x.kid),.string (str x.seed),.int .i64 x.state,.int .i64 x.since],.pointer (some ⟨go,0,none⟩)] W _
 go_enter Tryz.func103,Tryz.ntmps103
 go_wp2_with fail
 go_ret
 exact⟨by first|rfl|simp,hb _⟩
theorem state_any(gl:Nat) (vs:List Value) (n:Int) (K:List Led.Key) (base:Nat) (vK:Value) (w:World) (hK:K.length≤1000) (hbl:Blk w gl vs 30) (h4:vs[4]?=some vK) (hown:w.ownsRow base 42 4 vK K.length (rows keyRow K)) :
  Calls Tryz.prog 101 #[.pointer (some ⟨gl,0,none⟩),.int .i64 n] w fun e w'=>e=.returned (.int .i64 (idxOf (fun k=>k.state==n) K))∧Below w.heap.size w w':=by
 obtain⟨A,c,rfl,hnc,hcm⟩:=own_form hown
 obtain⟨W,hW⟩:∃ W,w.alloc (.cells #[.int .i64 n] 3)=W:=⟨_,rfl⟩
 have b0:Blk W w.heap.size [.int .i64 n] 3:=by rw [← hW]; exact Blk.new w [.int .i64 n] _
 have hbW:Below w.heap.size w W:=by rw [← hW]; exact(Below.refl _ _).alloc (Nat.le_refl _) _
 have cK:W.cell? ⟨gl,4,none⟩=some (.slice A K.length c):=((hbl.below hbW).cell 4).trans h4
 have hidx:=idxKey_any 147 #[.pointer (some ⟨w.heap.size,0,none⟩)] (enters_of Tryz.func147 (by kernel_rfl) rfl) (fun k=>k.state==n) A K.length c K W (Vs.of_own (own_below hown hbW (Nat.le_refl _))) (by omega) (fun W' x _ hb=>state1_any x n w.heap.size W' ((b0.below hb).cell 0))
 generalize idxOf (fun k:Led.Key=>k.state==n) K=r at *
 have HW:=Lib.hid hW
 clear hW
 go_enter Tryz.func101,Tryz.ntmps101
 go_upto_region 1 with fail
 rw [HW.out]
 go_wp2_with fail
 refine hidx.mono ?_
 rintro e w1 ⟨rfl,hb1⟩
 go_wp2
 go_ret
 exact⟨rfl,hbW.trans (hb1.mono hbW.size)⟩
theorem op_key(o:Led.Op) (sv kv:Value):∀ j u,(keyRow o.key)[j]?=some u→(opCells o sv kv)[17+j]?=some u:=by
 intro j u h
 match j,h with
 | 0,h=>exact h
 | 1,h=>exact h
 | 2,h=>exact h
 | 3,h=>exact h
 | j+4,h=>simp [keyRow] at h
theorem ld_key{w:World} {g:Nat} {o:Led.Op} {sv kv:Value} (h:Blk w g (opCells o sv kv) 47):(ldKey (.pointer (some ⟨g,17,none⟩))).run Tryz.prog w=.ok (.agg (keyRow o.key).toArray) w :=
 load_cells Tryz.underlying42 rfl sizeKey rfl fun j u hj=>by rw [h.cell]; exact op_key o sv kv j u hj
theorem idx_neg{α:Type} (p:α→Bool) (L:List α):(idxOf p L ≥ 0∧L.any p=true)∨(idxOf p L = -1∧L.any p=false):=by
 rcases idx_cases p L with⟨h1,h2⟩|⟨i,_,h1,h2,_⟩
 ·exact .inr ⟨h1,h2⟩
 ·exact .inl ⟨by omega,h2⟩
def Prepared (base gl:Nat) (vK:Value) (K:List Led.Key) (k:Led.Key) (w:World) (x:Ending) (w':World):Prop :=
 if !mayKey k||!(k.state==1) then x=.returned (.int .i64 1)∧Below w.heap.size w w'
 else if K.any (fun j=>j.state==1)||K.any (fun j=>j.kid==k.kid) then x=.returned (.int .i64 8)∧Below w.heap.size w w'
 else if 8≤K.length then x=.returned (.int .i64 6)∧Below w.heap.size w w'
 else x=.returned (.int .i64 0)∧Slot keyRow 4 42 base gl 4 vK (K++[k]) w w'
theorem prepare_any(gl:Nat) (o:Led.Op) (sv kv:Value) (vs:List Value) (K:List Led.Key) (base:Nat) (vK:Value) (w:World) (hK:K.length≤8) (hbase:base≤w.heap.size)
  (hbl:Blk w gl vs 30) (h4:vs[4]?=some vK) (hown:w.ownsRow base 42 4 vK K.length (rows keyRow K)) (hne:vK.ownBlock≠some gl) :
  Calls Tryz.prog 50 #[.pointer (some ⟨gl,0,none⟩),.agg (opCells o sv kv).toArray] w (Prepared base gl vK K o.key w):=by
 obtain⟨A,c,rfl,hnc,hcm⟩:=own_form hown
 obtain⟨W,hW⟩:∃ W,w.alloc (.cells (opCells o sv kv).toArray 47)=W:=⟨_,rfl⟩
 have b0:Blk W w.heap.size (opCells o sv kv) 47:=by rw [← hW]; exact Blk.new w _ _
 have hbW:Below w.heap.size w W:=by rw [← hW]; exact(Below.refl _ _).alloc (Nat.le_refl _) _
 have hl0:=ld_key b0
 have hkey:=key_any o.key W
 have HW:=Lib.hid hW
 clear hW
 obtain⟨CS,hCS⟩:∃ CS,(opCells o sv kv).toArray=CS:=⟨_,rfl⟩
 rw [hCS] at HW ⊢
 clear hCS
 go_enter Tryz.func50,Tryz.ntmps50
 go_upto_region 1 with fail
 rw [HW.out]
 clear HW
 by_cases hbad:(!mayKey o.key||!(o.key.state==1))=true
 ·have HR:Hid (∀ w',Below w.heap.size w w'→Prepared base gl (.slice A K.length c) K o.key w (.returned (.int .i64 1)) w'):=Lib.hid (fun w' h=>by unfold Prepared; rw [if_pos hbad]; exact⟨rfl,h⟩)
  cases hm:mayKey o.key
  ·rw [hm] at hkey
   clear hbad hm; go_wp2_with fail
   refine hkey.mono ?_; rintro e w1 ⟨rfl,hb1⟩; go_wp2; go_ret; exact HR.out _ (hbW.trans (hb1.mono hbW.size))
  ·have hs:¬ o.key.state=1:=by
    intro e; rw [hm,e] at hbad; simp at hbad
   rw [hm] at hkey; clear hbad hm; go_wp2_with fail
   refine hkey.mono ?_; rintro e w1 ⟨rfl,hb1⟩; have c19:w1.cell? ⟨w.heap.size,19,none⟩=some (.int .i64 o.key.state):=(b0.below hb1).cell 19; go_wp2_with fail
   go_ret; exact HR.out _ (hbW.trans (hb1.mono hbW.size))
 ·have hm:mayKey o.key=true:=by
   cases h:mayKey o.key
   ·rw [h] at hbad; simp at hbad
   ·rfl
  have hs:o.key.state=1:=by
   rw [hm] at hbad; simpa using hbad
  rw [hm] at hkey; have HR0:Hid (∀ x w',(if K.any (fun j=>j.state==1)||K.any (fun j=>j.kid==o.key.kid) then x=.returned (.int .i64 8)∧Below w.heap.size w w'
    else if 8≤K.length then x=.returned (.int .i64 6)∧Below w.heap.size w w'
    else x=.returned (.int .i64 0)∧Slot keyRow 4 42 base gl 4 (.slice A K.length c) (K++[o.key]) w w')→Prepared base gl (.slice A K.length c) K o.key w x w'):=Lib.hid (fun x w' h=>by unfold Prepared; rw [if_neg hbad]; exact h)
  clear hbad hm; go_wp2_with fail
  refine hkey.mono ?_; rintro e w1 ⟨rfl,hb1⟩; have hbw1:Below w.heap.size w w1:=hbW.trans (hb1.mono hbW.size); have b1:=b0.below hb1; have hbl1:=hbl.below hbw1; have c19:w1.cell? ⟨w.heap.size,19,none⟩=some (.int .i64 1):=by rw [b1.cell 19,← hs]; rfl
  have hst:=state_any gl vs 1 K base (.slice A K.length c) w1 (by omega) hbl1 h4 (own_below hown hbw1 (Nat.le_refl _)); clear hl0 hkey; rcases idx_neg (fun k:Led.Key=>k.state==1) K with⟨hi,ha⟩|⟨hi,ha⟩
  ·have HR:Hid (∀ w',Below w.heap.size w w'→Prepared base gl (.slice A K.length c) K o.key w (.returned (.int .i64 8)) w'):=Lib.hid (fun w' h=>HR0.out _ _ (by rw [ha]; exact⟨rfl,h⟩))
   generalize idxOf (fun k:Led.Key=>k.state==1) K=r at *; have hdd:decide (0≤r)=true:=decide_eq_true hi; clear ha HR0; go_wp2_with fail
   refine hst.mono ?_; rintro e w2 ⟨rfl,hb2⟩; go_wp2_with fail
   go_ret; exact HR.out _ (hbw1.trans (hb2.mono hbw1.size))
  ·have HA:=Lib.hid ha
   have hdd:decide ((0:Int) ≤ -1)=false:=by decide
   rw [hi] at hst; clear hi ha; go_wp2_with fail
   refine hst.mono ?_; rintro e w2 ⟨rfl,hb2⟩; have hbw2:Below w.heap.size w w2:=hbw1.trans (hb2.mono hbw1.size); have b2:=b1.below hb2; have hbl2:=hbl.below hbw2; have cK:w2.cell? ⟨gl,4,none⟩=some (.slice A K.length c):=(hbl2.cell 4).trans h4; have hhas:=hasKey_any 103 #[.pointer (some ⟨w.heap.size,0,none⟩)] (enters_of Tryz.func103 (by kernel_rfl) rfl) (fun k=>k.kid==o.key.kid) A K.length c K w2 (Vs.of_own (own_below hown hbw2 (Nat.le_refl _))) (by omega) (fun W' x _ hb=>prepare1_any x o.key.kid w.heap.size W' ((b2.below hb).cell 17))
   cases hk:K.any (fun k=>k.kid==o.key.kid)
   ·rw [hk] at hhas
    have HK:=Lib.hid hk; clear hk; go_wp2_with fail
    refine hhas.mono ?_; rintro e w3 ⟨rfl,hb3⟩; have hbw3:Below w.heap.size w w3:=hbw2.trans (hb3.mono hbw2.size); have b3:=b2.below hb3; have hbl3:=hbl.below hbw3; have cK3:w3.cell? ⟨gl,4,none⟩=some (.slice A K.length c):=(hbl3.cell 4).trans h4; by_cases h8:8≤K.length
    ·have HR:Hid (∀ w',Below w.heap.size w w'→Prepared base gl (.slice A K.length c) K o.key w (.returned (.int .i64 6)) w'):=Lib.hid (fun w' h=>HR0.out _ _ (by rw [HA.out,HK.out]; simp only [Bool.or_self,Bool.false_eq_true,if_false,if_pos h8]; exact⟨trivial,h⟩))
     have hge:(8:Int)≤(K.length:Int):=by omega
     clear HR0; go_wp2_with fail
     go_ret; exact HR.out _ hbw3
    ·have HR:Hid (∀ w',Slot keyRow 4 42 base gl 4 (.slice A K.length c) (K++[o.key]) w w'→Prepared base gl (.slice A K.length c) K o.key w (.returned (.int .i64 0)) w'):=Lib.hid (fun w' h=>HR0.out _ _ (by rw [HA.out,HK.out]; simp only [Bool.or_self,Bool.false_eq_true,if_false,if_neg h8]; exact⟨trivial,h⟩))
     have hge:¬ (8:Int)≤(K.length:Int):=by omega
     clear HR0 HA HK hhas hst hs; have f1:∀ p,(Batch.grew w3 p).cell? ⟨gl,4,none⟩=some (.slice A K.length c):=fun p=>(Batch.grew_cell (a:=⟨gl,4,none⟩) hbl3.lt p).trans cK3; have f2:∀ p,(ldKey (.pointer (some ⟨w.heap.size,17,none⟩))).run Tryz.prog (Batch.grew w3 p)=.ok (.agg #[.string (str o.key.kid),.string (str o.key.seed),.int .i64 o.key.state,.int .i64 o.key.since]) (Batch.grew w3 p):=fun p=>ld_key (b3.below (Batch.grew_below w3 p)); go_upto_region 7 with fail
     refine Batch.wp_region_move_segs [0] [] [1,2,3,4,5,6] [(7,fun v w'=>∃ gx,w3.heap.size≤gx∧v=.slice (some ⟨gx,0,none⟩) 1 1∧Blk w' gx (keyRow o.key) 42)] [8,9,10,11] (by kernel_rfl) (by kernel_rfl) (by kernel_rfl) (by
      intro z hz; simp only [List.mem_cons,List.not_mem_nil,or_false] at hz; subst hz; exact Batch.stable_gr fun v w w' hb ⟨gx,e0,e,h⟩=>⟨gx,e0,e,h.below hb⟩) ?_
     simp only [Batch.segs,Batch.pick,List.getD_cons_zero,List.getD_cons_succ]; repeat (go_big_quiet_step (fail))
     refine wpQuiet_nil ?_; repeat (go_big_quiet_step (fail))
     refine wpQuiet_nil ?_; refine⟨_,rfl,rfl,?_,?_⟩
     ·intro w4 hw4
      have hwz:=hw4.below.size; go_simp
      exact⟨Batch.GR.of ((Below.refl _ _).alloc (Nat.le_refl _) _),w4.heap.size,hwz,rfl,Blk.new w4 (keyRow o.key) _⟩
     ·rintro v w6 hw6 ⟨_,gx,hgx,rfl,hBx⟩
      have hb6:=hw6.below; have hbw6:Below w.heap.size w w6:=hbw3.trans (hb6.mono hbw3.size); have own6:=own_below hown hbw6 (Nat.le_refl _); obtain⟨iT,hiT,hzT,hsT,hbT⟩:=info_parts infoKey; have hvx:Vs w6 w6.heap.size 4 (some ⟨gx,0,none⟩) 1 (keyRow o.key):=⟨by rw [keyRow_len],fun j u hj=>⟨_,rfl,hBx.lt,by rw [zero_add_,hBx.cell j]; exact hj⟩⟩
      obtain⟨v',w7,hrun,hown7,hg7,hb7⟩:=run_append (P:=Tryz.prog) w6 base 27 27 42 iT _ 4 48 Tryz.underlying27 hiT hzT hsT hbT rfl (by omega) _ K.length _ own6 w6.heap.size (some ⟨gx,0,none⟩) 1 1 (keyRow o.key) hvx (keyRow_one _) (by unfold maxLen; omega) (by omega) (Nat.le_trans hbase hbw6.size)
      obtain⟨A',c',rfl,_,_⟩:=own_form hown7; have hgl6:gl<w6.heap.size:=Nat.lt_of_lt_of_le hbl.lt hbw6.size; have hblk:=hg7.block gl hgl6 (fun e=>hne e.symm); have hc7:w7.cell? ⟨gl,4,none⟩=some (.slice A K.length c):=(World.cell?_of_block (a:=⟨gl,4,none⟩) hblk).trans (((hbl.below hbw6).cell 4).trans h4); have hf7:w7.frozen? ⟨gl,4,none⟩=false:=(World.frozen?_of_block (a:=⟨gl,4,none⟩) hblk).trans ((hbl.below hbw6).froz 4); have hrow:rows keyRow K++keyRow o.key=rows keyRow (K++[o.key]):=by rw [rows_append]; simp [rows]
      rw [hrow] at hown7; have hres:=HR.out (w7.setCell ⟨gl,4,none⟩ (.slice A' (K.length+1) c')) ⟨_,w7,rfl,grown_after hbw6 hg7,by rw [List.length_append]; exact hown7,hb7.imp id (fun h=>⟨_,hbw6.size,h⟩)⟩
      have HH:=Lib.hid hres; clear hres HR hown7 hg7 hb7 hblk hvx hBx own6 hown f1 f2; go_wp2_with (at_builtin; refine Lib.wpList_append_run _ rfl _ _ _ _ rfl _ _ rfl rfl _ _ hrun ?_)
      (try rw [Batch.Qn_normal])
      (try go_wp2)
      go_ret; exact HH.out
   ·rw [hk] at hhas
    have HR:Hid (∀ w',Below w.heap.size w w'→Prepared base gl (.slice A K.length c) K o.key w (.returned (.int .i64 8)) w'):=Lib.hid (fun w' h=>HR0.out _ _ (by rw [hk,Bool.or_true]; exact⟨rfl,h⟩))
    clear hk HR0; go_wp2_with fail
    refine hhas.mono ?_; rintro e w3 ⟨rfl,hb3⟩; go_wp2_with fail
    go_ret; exact HR.out _ (hbw2.trans (hb3.mono hbw2.size))
end
section
open Go.RowKit Mem Led
def Apart (u v:Value):Prop:=u.ownBlock=none∨u.ownBlock≠v.ownBlock
section
variable {α:Type} {enc:α→List Value} {k:Nat} {e:TypeId} {base gl sl:Nat} {v:Value} {L':List α} {w w':World}
theorem own_at{w1:World} {B:Nat} {e':TypeId} {s n:Nat} {u x:Value} {xs:List Value} {a:Addr} (h:w1.ownsRow B e' s u n xs) (hne:u.ownBlock≠some a.block):(w1.setCell a x).ownsRow B e' s u n xs:=by
 refine⟨h.1,?_⟩
 rcases h.2 with h2|⟨b,cap,cur,hv,hb,hh,r⟩
 ·exact .inl h2
 ·exact .inr ⟨b,cap,cur,hv,hb,by
   rw [heap_setCell_other w1 a b x (fun h=>hne (by rw [hv]; simp [Value.ownBlock,h]))]
   exact hh,r⟩
theorem Slot.opened(h:Slot enc k e base gl sl v L' w w') {vs:List Value} {t:TypeId} (hb:Blk w gl vs t) (hne:v.ownBlock≠some gl) :
  ∃ v',Blk w' gl (vs.set sl v') t∧w'.ownsRow base e k v' L'.length (rows enc L')∧v'.ownBlock≠some gl∧(v'.ownBlock=v.ownBlock∨∃ g,w.heap.size≤g∧v'.ownBlock=some g):=by
 obtain⟨v',w1,rfl,h2,h3,h4⟩:=h
 have hne':v'.ownBlock≠some gl:=by
  rcases h4 with h4|⟨g,hg,h4⟩
  ·rw [h4]; exact hne
  ·rw [h4]
   intro e; injection e with e
   have:=hb.lt; omega
 have hB1:Blk w1 gl vs t:=by
  unfold Blk; rw [h2.block gl hb.lt (fun e=>hne e.symm)]; exact hb
 exact⟨v',hB1.set sl v',own_at h3 hne',hne',h4⟩
theorem Slot.keeps(h:Slot enc k e base gl sl v L' w w') {B:Nat} {e':TypeId} {s n:Nat} {u:Value} {xs:List Value} (hu:w.ownsRow B e' s u n xs) (hap:Apart u v) (hne:u.ownBlock≠some gl):w'.ownsRow B e' s u n xs:=by
 obtain⟨v',w1,rfl,h2,h3,h4⟩:=h
 exact own_at (hu.kept h2 hap) hne
theorem Slot.below(h:Slot enc k e base gl sl v L' w w') {B:Nat} (hgl:B≤gl) (hv:∀ g,v.ownBlock=some g→B≤g) (hB:B≤w.heap.size):Below B w w':=by
 obtain⟨v',w1,rfl,h2,h3,h4⟩:=h
 have h1:Below B w w1:=⟨h2.os,h2.tape,h2.output,h2.size,fun i hi=>h2.block i (by omega) (fun e=>by have:=hv i e.symm; omega)⟩
 exact h1.setCell (p:=⟨gl,sl,none⟩) hgl _
theorem Slot.blk(h:Slot enc k e base gl sl v L' w w') {g:Nat} {cs:List Value} {t:TypeId} (hb:Blk w g cs t) (hv:v.ownBlock≠some g) (hg:g≠gl):Blk w' g cs t:=by
 obtain⟨v',w1,rfl,h2,h3,h4⟩:=h
 have hB1:Blk w1 g cs t:=by
  unfold Blk; rw [h2.block g hb.lt (fun e=>hv e.symm)]; exact hb
 exact hB1.set_ne (p:=⟨gl,sl,none⟩) hg _
theorem Slot.size(h:Slot enc k e base gl sl v L' w w'):w.heap.size≤w'.heap.size:=by
 obtain⟨v',w1,rfl,h2,h3,h4⟩:=h
 have:=h2.size
 simpa using this
end
def Banned2 (base gl:Nat) (vN vB:Value) (N:List Led.Node) (Bn:List Txt) (s:Txt) (w:World) (x:Ending) (w':World):Prop :=
 if Ids.agent s then (if Bn.contains s then x=.returned (.int .i64 8)∧Below w.heap.size w w' else match put ord 8 s Bn with
  | none=>x=.returned (.int .i64 6)∧Below w.heap.size w w'
  | some L'=>x=.returned (.int .i64 0)∧∃ w1 x',Slot strRow 1 9 base gl 2 vB L' w w1∧Gone nodeRow 5 40 base gl 1 vN N (fun n=>n.name==s) w1 x' w')
 else x=.returned (.int .i64 1)∧Below w.heap.size w w'
theorem ban_any(gl:Nat) (o:Led.Op) (sv kv:Value) (vs:List Value) (N:List Led.Node) (Bn:List Txt) (base:Nat) (vN vB:Value) (w:World) (hz:o.name.length≤9223372036854775807) (hN:N.length≤4) (hB:Bn.length≤8) (hr:Rises ord Bn) (hbase:base≤w.heap.size)
  (hbl:Blk w gl vs 30) (h1:vs[1]?=some vN) (h2:vs[2]?=some vB) (hown:w.ownsRow base 40 5 vN N.length (rows nodeRow N)) (hne:vN.ownBlock≠some gl) (hownB:w.ownsRow base 9 1 vB Bn.length (rows strRow Bn)) (hneB:vB.ownBlock≠some gl) (hap:Apart vN vB) :
  Calls Tryz.prog 47 #[.pointer (some ⟨gl,0,none⟩),.agg (opCells o sv kv).toArray] w (Banned2 base gl vN vB N Bn o.name w):=by
 obtain⟨AB,cB,rfl,hBc,hBm⟩:=own_form hownB
 obtain⟨W,hW⟩:∃ W,w.alloc (.cells (opCells o sv kv).toArray 47)=W:=⟨_,rfl⟩
 have b0:Blk W w.heap.size (opCells o sv kv) 47:=by rw [← hW]; exact Blk.new w _ _
 have hbW:Below w.heap.size w W:=by rw [← hW]; exact(Below.refl _ _).alloc (Nat.le_refl _) _
 have c2:W.cell? ⟨w.heap.size,2,none⟩=some (.string (str o.name)):=b0.cell 2
 have hag:=agent_any o.name W hz
 have HW:=Lib.hid hW
 clear hW
 obtain⟨CS,hCS⟩:∃ CS,(opCells o sv kv).toArray=CS:=⟨_,rfl⟩
 have HCS:=Lib.hid hCS
 rw [hCS] at HW ⊢
 clear hCS
 go_enter Tryz.func47,Tryz.ntmps47
 go_upto_region 1 with fail
 rw [HW.out]
 clear HW
 cases hm:Ids.agent o.name
 ·have HR:Hid (∀ w',Below w.heap.size w w'→Banned2 base gl vN (.slice AB Bn.length cB) N Bn o.name w (.returned (.int .i64 1)) w'):=Lib.hid (fun w' h=>by unfold Banned2; rw [hm]; exact⟨rfl,h⟩)
  rw [hm] at hag; clear hm; go_wp2_with fail
  refine hag.mono ?_; rintro e w1 ⟨rfl,hb1⟩; go_wp2; go_ret; exact HR.out _ (hbW.trans (hb1.mono hbW.size))
 ·rw [hm] at hag
  go_wp2_with fail
  refine hag.mono ?_; rintro e w1 ⟨rfl,hb1⟩; have b1:=b0.below hb1; have hbw1:Below w.heap.size w w1:=hbW.trans (hb1.mono hbW.size); have hbl1:=hbl.below hbw1; have f1:∀ p,(Batch.grew w1 p).cell? ⟨gl,2,none⟩=some (.slice AB Bn.length cB):=fun p=>(Batch.grew_cell (a:=⟨gl,2,none⟩) hbl1.lt p).trans ((hbl1.cell 2).trans h2); have f2:∀ p,(Batch.grew w1 p).cell? ⟨w.heap.size,2,none⟩=some (.string (str o.name)):=fun p=>(Batch.grew_cell (a:=⟨w.heap.size,2,none⟩) b1.lt p).trans (b1.cell 2); have HC:Hid (∀ p,Calls Tryz.prog 90 #[.slice AB Bn.length cB,.string (str o.name)] (Batch.grew w1 p) fun e w'=>e=.returned (.bool (Bn.contains o.name))∧Below (Batch.grew w1 p).heap.size (Batch.grew w1 p) w'):=Lib.hid fun p =>
   (contains_any AB Bn.length cB Bn o.name _ (Ts.below (Ts.below (ts_own hownB) hbw1) (Batch.grew_below w1 p)) (by omega)).mono fun e w' ⟨he,hw⟩=>⟨he,by rw [hw]; exact Below.refl _ _⟩
  clear hag
  cases hcn:Bn.contains o.name
  ·rw [hcn] at HC
   have H6:Hid (put ord 8 o.name Bn=none→∀ w',Below w.heap.size w w'→Banned2 base gl vN (.slice AB Bn.length cB) N Bn o.name w (.returned (.int .i64 6)) w'):=Lib.hid (fun hp w' h=>by unfold Banned2; rw [hm,hcn,hp]; exact⟨rfl,h⟩)
   have H0:Hid (∀ L',put ord 8 o.name Bn=some L'→∀ w' w1 x',Slot strRow 1 9 base gl 2 (.slice AB Bn.length cB) L' w w1→Gone nodeRow 5 40 base gl 1 vN N (fun n=>n.name==o.name) w1 x' w'→Banned2 base gl vN (.slice AB Bn.length cB) N Bn o.name w (.returned (.int .i64 0)) w'):=Lib.hid (fun L' hp w' w1 x' h h'=>by unfold Banned2; rw [hm,hcn,hp]; exact⟨rfl,w1,x',h,h'⟩)
   clear hcn hm; go_wp2_with fail
   refine Batch.wp_region_grew (by kernel_rfl) (by kernel_rfl) ?_; repeat (go_big_quiet_step (first|(go_at_call 90; exact Batch.calls_grew (HC.out _))|fail))
   refine wpQuiet_nil ?_; rintro _ ⟨px,rfl⟩; have g2:=Batch.grew_below w1 px; clear f1 f2 HC; generalize Batch.grew w1 px=w2 at *; have b2:=b1.below g2; have f3:∀ p,(Batch.grew w2 p).cell? ⟨w.heap.size,2,none⟩=some (.string (str o.name)):=fun p=>(Batch.grew_cell (a:=⟨w.heap.size,2,none⟩) b2.lt p).trans (b2.cell 2); go_wp2_with fail
   refine Batch.wp_region_grew_tail 5 (by kernel_rfl) (by kernel_rfl) ?_; simp only [List.take_succ_cons,List.take_zero,List.drop_succ_cons,List.drop_zero]; repeat (go_big_quiet_step (fail))
   refine wpQuiet_nil ?_; rintro _ ⟨py,rfl⟩; have g3:Below w1.heap.size w1 (Batch.grew w2 py):=g2.trans ((Batch.grew_below w2 py).mono g2.size); clear f3; generalize Batch.grew w2 py=w3 at *; have hbw3:Below w.heap.size w w3:=hbw1.trans (g3.mono hbw1.size); have b3:=b1.below g3; have hput:=putStr_any gl 2 o.name Bn hr base (.slice AB Bn.length cB) 8 w3 hB (by omega) vs 30 (hbl.below hbw3) h2 (own_below hownB hbw3 (Nat.le_refl _)) hneB (Nat.le_trans hbase hbw3.size); go_wp2_with fail
   refine hput.mono ?_; intro e w4 h; have hnm:w.heap.size≠gl:=by have:=hbl.lt; omega
   unfold Puts at h
   cases hq:put ord 8 o.name Bn with
   | none =>
    rw [hq] at h; obtain⟨rfl,hb4⟩:=h; have HH:=Lib.hid (H6.out hq w4 (hbw3.trans (hb4.mono hbw3.size))); clear hq H6 H0 hput; go_wp2; (try rw [Batch.Qn_normal])
    (try go_wp2)
    go_ret; exact HH.out
   | some L' =>
    rw [hq] at h; obtain⟨rfl,hs⟩:=h; obtain⟨v',hbl4,_,hne4,hfr⟩:=hs.opened (hbl.below hbw3) hneB; have own4:=hs.keeps (own_below hown hbw3 (Nat.le_refl _)) hap hne; have b4:Blk w4 w.heap.size (opCells o sv kv) 47:=hs.blk b3 (fun e=>by have:=(hownB.lt _ e).2; omega) hnm
    have h14:(vs.set 2 v')[1]?=some vN:=by rw [List.getElem?_set_ne (by omega)]; exact h1
    have hld:=load_op b4 rfl; rw [HCS.out] at hld; have hev:=evict_any gl (opCells o sv kv) (vs.set 2 v') o.name N base vN w4 (by omega) rfl hbl4 h14 own4 hne (fun y _=>nodeRow_one y); rw [HCS.out] at hev; have HH:Hid (∀ x' w',Gone nodeRow 5 40 base gl 1 vN N (fun n=>n.name==o.name) w4 x' w'→Banned2 base gl vN (.slice AB Bn.length cB) N Bn o.name w (.returned (.int .i64 0)) w'):=Lib.hid (fun x' w' h=>H0.out L' hq w' w4 x' (slot_from hbw3 hs) h); clear hq H6 H0 hput hs; go_wp2_with fail
    (try rw [Batch.Qn_normal])
    (try go_wp2_with fail)
    refine hev.mono ?_; intro e w5 h5; have HG:=Lib.hid (HH.out e w5 h5); unfold Gone at h5; by_cases hp:N.any (fun n=>n.name==o.name)=true
    ·rw [if_pos hp] at h5
     obtain⟨rfl,_⟩:=h5; clear hp HH hev; go_wp2; go_ret; exact HG.out
    ·rw [if_neg hp] at h5
     obtain⟨rfl,_⟩:=h5; clear hp HH hev; go_wp2; go_ret; exact HG.out
  ·have HR:Hid (∀ w',Below w.heap.size w w'→Banned2 base gl vN (.slice AB Bn.length cB) N Bn o.name w (.returned (.int .i64 8)) w'):=Lib.hid (fun w' h=>by unfold Banned2; rw [hm,hcn]; exact⟨rfl,h⟩)
   rw [hcn] at HC; clear hcn hm; go_wp2_with fail
   refine Batch.wp_region_grew (by kernel_rfl) (by kernel_rfl) ?_; repeat (go_big_quiet_step (first|(go_at_call 90; exact Batch.calls_grew (HC.out _))|fail))
   refine wpQuiet_nil ?_; rintro _ ⟨px,rfl⟩; have g2:=Batch.grew_below w1 px; clear f1 f2 HC; generalize Batch.grew w1 px=w2 at *; go_wp2_with fail
   go_ret; exact HR.out _ (hbw1.trans (g2.mono hbw1.size))
end
section
open Go.RowKit Mem Led
theorem below_dr(B:Nat) (w:World) (k:Nat):Below B w (w.drewN k):=⟨rfl,rfl,rfl,Nat.le_refl _,fun _ _=>rfl⟩
theorem take_step{α:Type} {L M:List α} {k:Nat} (h:L.take k=M.take k) (hL:k<L.length) (hM:k<M.length) (he:L[k]=M[k]):L.take (k+1)=M.take (k+1):=by
 rw [List.take_succ_eq_append_getElem hL,List.take_succ_eq_append_getElem hM,h,he]
end
section
open Go.RowKit Mem Led
end
section
open Go.RowKit Mem Led
end
section
open Go.RowKit Mem Led
theorem eqs_any(A:Option Addr) (n c:Nat) (L:List Txt) (A':Option Addr) (n' c':Nat) (M:List Txt) (w:World) (h:Ts w A n L) (h':Ts w A' n' M) (hn:n≤9223372036854775807) (hn':n'≤9223372036854775807) :
  Calls Tryz.prog 130 #[.slice A n c,.slice A' n' c'] w fun e w'=>e=.returned (.bool (decide (L=M)))∧Below w.heap.size w w':=by
 have hlen:=h.len
 have hlen':=h'.len
 by_cases hnn:n=n'
 ·subst hnn
  go_enter Tryz.func130,Tryz.ntmps130
  go_wp2; go_loopw [13,5] (fun i _ wr=>∃ k:Nat,k≤n∧i=.int .i64 k∧Hid (L.take k=M.take k)∧Below w.heap.size w wr∧Ts wr A n L∧Ts wr A' n M) (fun i _ _=>n - (intOf i).toNat)
  case atStart=>exact⟨0,by omega,rfl,Lib.hid rfl,Below.refl _ _,h,h'⟩
  case round =>
   obtain⟨k,hk,rfl,HT,hb,t1,t2⟩:=hrel; by_cases hlt:k<n
   ·have hkL:k<L.length:=by omega
    have hkM:k<M.length:=by omega
    obtain⟨blk,off,rfl,hcell⟩:=t1.lit hkL; obtain⟨blk',off',rfl,hcell'⟩:=t2.lit hkM; by_cases hab:L[k]=M[k]
    ·have HT2:=Lib.hid (take_step HT.out hkL hkM hab)
     rw [← hab] at hcell'; generalize L[k]=s at *; have hss:(s==s)=true:=by rw [beq_iff_eq]
     have hi:(k:Int)<(n:Int):=by omega
     clear hab; go_wp2_with fail
     go_quiet (fail)
     go_wp2; go_roundw
     case rel=>exact⟨k+1,by omega,by go_num,HT2,hb.trans (below_dr _ _ _),Ts.below t1 (below_dr _ _ _),Ts.below t2 (below_dr _ _ _)⟩
     case measure=>simp [intOf]; omega
    ·have hne:¬ L=M:=fun e=>hab (by subst e; rfl)
     have hd:decide (L=M)=false:=decide_eq_false hne; have hss:(L[k]==M[k])=false:=by rw [beq_eq_false_iff_ne]; exact hab
     generalize L[k]=s at *; generalize M[k]=s' at *; have hi:(k:Int)<(n:Int):=by omega
     clear hab hne; go_wp2_with fail
     go_quiet (fail)
     go_wp2; go_ret; exact⟨by rw [hd]; rfl,hb.trans (below_dr _ _ _)⟩
   ·obtain rfl:k=n:=by omega
    have hd:decide (L=M)=true:=decide_eq_true (by
     have:=HT.out; rw [List.take_of_length_le (by omega),List.take_of_length_le (by omega)] at this; exact this)
    go_wp2; go_ret; exact⟨by rw [hd]; rfl,hb⟩
 ·have hd:decide (L=M)=false:=decide_eq_false (fun e=>hnn (by subst e; omega))
  go_enter Tryz.func130,Tryz.ntmps130
  go_wp2; go_ret; exact⟨by rw [hd]; rfl,Below.refl _ _⟩
theorem ts_own'{w:World} {base n c:Nat} {A:Option Addr} {L:List Txt} {e:TypeId} (h:w.ownsRow base e 1 (.slice A n c) n (tv L)):Ts w A n L:=Ts.of_own h
theorem entry_bool(e:Led.Entry):mayEntry e=(((Ids.setOf e.sels).2==0&&decide (0<((Ids.setOf e.sels).1.getD []).length)&&decide ((Ids.setOf e.sels).1.getD []=e.sels))&&within e.n 1 1099511627776&&within e.ttl 1 1000&&Ids.path e.path&&!Ids.agent e.path&&Ids.path e.parent):=by
 unfold mayEntry
 generalize Ids.setOf e.sels=S
 have h2:(decide (0<(S.1.getD []).length)&&decide (S.1.getD []=e.sels))=((S.1.getD []==e.sels)&&!e.sels.isEmpty):=by
  by_cases h:S.1.getD []=e.sels
  ·rw [h]
   cases e.sels <;> simp
  ·have:(S.1.getD []==e.sels)=false:=by rw [beq_eq_false_iff_ne]; exact h
   rw [this,decide_eq_false h]; simp
 have h3:(S.2==0&&decide (0<(S.1.getD []).length)&&decide (S.1.getD []=e.sels))=(S.2==0&&((S.1.getD []==e.sels)&&!e.sels.isEmpty)):=by rw [Bool.and_assoc,h2]
 rw [h3]
 generalize (S.1.getD []==e.sels)=b1
 generalize (S.2==0)=b0
 generalize (!e.sels.isEmpty)=b2
 generalize Ids.path e.path=b3
 generalize Ids.agent e.path=b4
 generalize Ids.path e.parent=b5
 generalize within e.n 1 1099511627776=b6
 generalize within e.ttl 1 1000=b7
 cases b0 <;> cases b1 <;> cases b2 <;> cases b3 <;> cases b4 <;> cases b5 <;> cases b6 <;> cases b7 <;> rfl
theorem entry_any(e:Led.Entry) (v:Value) (w:World) (hv:TextsAt w v e.sels) (hn:e.sels.length≤1000) (hz:∀ x∈e.sels,x.length≤9223372036854775807) (hp1:e.path.length≤9223372036854775807) (hp2:e.parent.length≤9223372036854775807) :
  Calls Tryz.prog 79 #[.agg (entRow (e,v)).toArray] w fun x w'=>x=.returned (.bool (mayEntry e))∧Below w.heap.size w w':=by
 obtain⟨A,n,c,rfl,hf,ht⟩:=hv
 have hln:=ht.len
 obtain⟨W,hW⟩:∃ W,w.alloc (.cells (entRow (e,.slice A n c)).toArray 36)=W:=⟨_,rfl⟩
 have b0:Blk W w.heap.size (entRow (e,.slice A n c)) 36:=by rw [← hW]; exact Blk.new w _ _
 have hbW:Below w.heap.size w W:=by rw [← hW]; exact(Below.refl _ _).alloc (Nat.le_refl _) _
 have hset:=set_any A n c e.sels W (Ts.below ht hbW) (by omega) hf.2.2 hz
 rw [entry_bool]
 unfold SetOut at hset
 generalize hS:(Ids.setOf e.sels)=S at *
 obtain⟨S1,F⟩:=S
 dsimp only at hset ⊢
 generalize S1.getD []=S' at *
 clear hS
 obtain⟨good,hgood⟩:∃ good,((F==0)&&decide (0<S'.length)&&decide (S'=e.sels))=good:=⟨_,rfl⟩
 rw [hgood]
 have HGOOD:=Lib.hid hgood
 clear hgood
 have HW:=Lib.hid hW
 clear hW
 have c4:W.cell? ⟨w.heap.size,4,none⟩=some (.slice A n c):=b0.cell 4
 obtain⟨CS,hCS⟩:∃ CS,(entRow (e,Value.slice A n c)).toArray=CS:=⟨_,rfl⟩
 rw [hCS] at HW ⊢
 clear hCS
 go_enter Tryz.func79,Tryz.ntmps79
 go_upto_region 1 with fail
 rw [HW.out]
 clear HW
 go_wp2_with fail
 refine hset.mono ?_
 rintro x w1 ⟨A1,m,c1,rfl,hmc,hown,hb1⟩
 have b1:=b0.below hb1
 have hbw1:Below w.heap.size w w1:=hbW.trans (hb1.mono hbW.size)
 have hts1:=ts_own' hown
 have hml:=hts1.len
 have hc1:=(own_form hown)
 have d4:w1.cell? ⟨w.heap.size,4,none⟩=some (.slice A n c):=b1.cell 4
 have heq:=eqs_any A1 m c1 S' A n c e.sels w1 hts1 (Ts.below ht hbw1) (by obtain⟨A2,c2,h1,h2,h3⟩:=hc1; injection h1; omega) (Nat.le_trans hf.1 hf.2.1)
 clear hset hc1 c4
 go_upto_region 2 with fail
 go_cut [5] (fun s5 wx=>s5=.bool good∧Below w1.heap.size w1 wx)
 case first =>
  by_cases h1:F=0
  ·by_cases h2:0<S'.length
   ·have hgd:decide (S'=e.sels)=good:=by
     rw [← HGOOD.out,h1]; simp [h2]
    rw [hgd] at heq; have hm0:(0:Int)<(m:Int):=by omega
    subst h1; clear hgd h2; go_wp2_with fail
    refine heq.mono ?_; rintro x w2 ⟨rfl,hb2⟩; go_wp2; go_meet
    case rel=>exact⟨rfl,hb2⟩
   ·have hg:good=false:=by rw [← HGOOD.out]; simp [h2]
    have hm0:¬ (0:Int)<(m:Int):=by omega
    subst h1 hg; clear h2 heq; go_wp2_with fail
    go_meet
    case rel=>exact⟨rfl,Below.refl _ _⟩
  ·have hg:good=false:=by rw [← HGOOD.out]; simp [h1]
   have hF:¬ (F:Int)=0:=by omega
   subst hg; clear heq; go_wp2_with fail
   go_meet
   case rel=>exact⟨rfl,Below.refl _ _⟩
 case rest =>
  obtain⟨rfl,hbx⟩:=hcut; have bx:=b1.below hbx; have hbwx:Below w.heap.size w wc:=hbw1.trans (hbx.mono hbw1.size); clear heq hown hts1 d4 HGOOD hmc hml; have e0:wc.cell? ⟨w.heap.size,0,none⟩=some (.int .i64 e.n):=bx.cell 0; have e3:wc.cell? ⟨w.heap.size,3,none⟩=some (.int .i64 e.ttl):=bx.cell 3; have e1:wc.cell? ⟨w.heap.size,1,none⟩=some (.string (str e.path)):=bx.cell 1
  cases good
  ·go_wp2_with fail
   go_ret; exact⟨by simp,hbwx⟩
  cases h1:within e.n 1 1099511627776
  ·go_wp2_with (go_at_call 104; refine(inb_any _ _ _ _).mono ?_; rintro x w2 ⟨rfl,hw2⟩; have hw3:=hw2.symm; subst hw3; clear hw2)
   go_ret; exact⟨by simp [h1],hbwx⟩
  cases h2:within e.ttl 1 1000
  ·go_wp2_with (go_at_call 104; refine(inb_any _ _ _ _).mono ?_; rintro x w2 ⟨rfl,hw2⟩; have hw3:=hw2.symm; subst hw3; clear hw2)
   go_ret; exact⟨by simp [h2],hbwx⟩
  cases h3:Ids.path e.path
  ·go_wp2_with (go_at_call 104; refine(inb_any _ _ _ _).mono ?_; rintro x w2 ⟨rfl,hw2⟩; have hw3:=hw2.symm; subst hw3; clear hw2)
   refine(path_any e.path _ hp1).mono ?_; rintro x w3 ⟨rfl,hb3⟩; go_wp2_with fail
   go_ret; exact⟨by simp [h3],hbwx.trans (hb3.mono hbwx.size)⟩
  cases h4:Ids.agent e.path
  rotate_left
  ·go_wp2_with (go_at_call 104; refine(inb_any _ _ _ _).mono ?_; rintro x w2 ⟨rfl,hw2⟩; have hw3:=hw2.symm; subst hw3; clear hw2)
   refine(path_any e.path _ hp1).mono ?_; rintro x w3 ⟨rfl,hb3⟩; have b3:=bx.below hb3; have k1:w3.cell? ⟨w.heap.size,1,none⟩=some (.string (str e.path)):=b3.cell 1; go_wp2_with fail
   refine(agent_any e.path _ hp1).mono ?_; rintro x w4 ⟨rfl,hb4⟩; have hb34:Below wc.heap.size wc w4:=hb3.trans (hb4.mono hb3.size); go_wp2_with fail
   go_ret; exact⟨by simp [h4],hbwx.trans (hb34.mono hbwx.size)⟩
  ·go_wp2_with (go_at_call 104; refine(inb_any _ _ _ _).mono ?_; rintro x w2 ⟨rfl,hw2⟩; have hw3:=hw2.symm; subst hw3; clear hw2)
   refine(path_any e.path _ hp1).mono ?_; rintro x w3 ⟨rfl,hb3⟩; have b3:=bx.below hb3; have k1:w3.cell? ⟨w.heap.size,1,none⟩=some (.string (str e.path)):=b3.cell 1; go_wp2_with fail
   refine(agent_any e.path _ hp1).mono ?_; rintro x w4 ⟨rfl,hb4⟩; have hb34:Below wc.heap.size wc w4:=hb3.trans (hb4.mono hb3.size); have b4:=bx.below hb34; have k2:w4.cell? ⟨w.heap.size,2,none⟩=some (.string (str e.parent)):=b4.cell 2; go_wp2_with fail
   refine(path_any e.parent _ hp2).mono ?_; rintro x w5 ⟨rfl,hb5⟩; go_wp2_with fail
   go_ret; exact⟨by simp [h1,h2,h3,h4],hbwx.trans ((hb34.trans (hb5.mono hb34.size)).mono hbwx.size)⟩
end
section
open Go.RowKit Mem Led
def cEp (a b:Led.Entry × Value):Int:=cE a.1 b.1
theorem cEp_cmp:Cmp cEp:=⟨fun a b=>cE_cmp.flip a.1 b.1,fun a b d=>cE_cmp.trans a.1 b.1 d.1,fun a b d=>cE_cmp.left a.1 b.1 d.1⟩
theorem op_entry(o:Led.Op) (sv kv:Value):∀ j u,(entRow (o.entry,sv))[j]?=some u→(opCells o sv kv)[3+j]?=some u:=by
 intro j u h
 match j,h with
 | 0,h=>exact h
 | 1,h=>exact h
 | 2,h=>exact h
 | 3,h=>exact h
 | 4,h=>exact h
 | j+5,h=>simp [entRow] at h
theorem ld_entry{w:World} {g:Nat} {o:Led.Op} {sv kv:Value} (h:Blk w g (opCells o sv kv) 47):(ldEnt (.pointer (some ⟨g,3,none⟩))).run Tryz.prog w=.ok (.agg (entRow (o.entry,sv)).toArray) w :=
 load_cells Tryz.underlying36 rfl sizeEnt rfl fun j u hj=>by rw [h.cell]; exact op_entry o sv kv j u hj
theorem entRow_one(p:Led.Entry × Value) (h:p.2.oneCell'=true):∀ u∈entRow p,u.oneCell'=true:=by
 intro u hu
 simp [entRow,tx,nm] at hu
 rcases hu with rfl|rfl|rfl|rfl|rfl
 ·rfl
 ·rfl
 ·rfl
 ·rfl
 ·exact h
theorem putEntry1_any(a b:Led.Entry × Value) (W:World) (ha:1≤a.1.n∧a.1.n≤1099511627776) (hb:1≤b.1.n∧b.1.n≤1099511627776):Calls Tryz.prog 81 #[.agg (entRow a).toArray,.agg (entRow b).toArray] W fun e w'=>e=.returned (.int .i64 (cEp a b))∧Below W.heap.size W w':=by
 have hbl:∀ o p,Below W.heap.size W ((W.alloc o).alloc p):=fun o p=>((Below.refl _ _).alloc (Nat.le_refl _) _).alloc (by simp) _
 have hw:IntKind.i64.wrap (a.1.n - b.1.n)=a.1.n - b.1.n:=by rw [IntKind.wrap_i64]; omega
 unfold cEp cE
 show Calls Tryz.prog 81 #[.agg #[.int .i64 a.1.n,.string (str a.1.path),.string (str a.1.parent),.int .i64 a.1.ttl,a.2],.agg #[.int .i64 b.1.n,.string (str b.1.path),.string (str b.1.parent),.int .i64 b.1.ttl,b.2]] W _
 generalize a.1.n=x at *
 generalize b.1.n=y at *
 go_enter Tryz.func81,Tryz.ntmps81
 go_wp2_with fail
 go_ret
 exact⟨by first|rfl|(congr 2),hbl _ _⟩
def EntryPut (base gl:Nat) (vE:Value) (E:List (Led.Entry × Value)) (p:Led.Entry × Value) (w:World) (x:Ending) (w':World):Prop :=
 if mayEntry p.1 then Puts entRow 5 36 base gl 0 vE (put cEp 24 p E) w x w' else x=.returned (.int .i64 1)∧Below w.heap.size w w'
theorem may_n{e:Led.Entry} (h:mayEntry e=true):1≤e.n∧e.n≤1099511627776:=by
 unfold mayEntry at h
 simp only [Bool.and_eq_true] at h
 have:=h.1.2
 unfold within at this
 simpa using this
theorem putEntry_any(gl:Nat) (o:Led.Op) (sv kv:Value) (vs:List Value) (E:List (Led.Entry × Value)) (base:Nat) (vE:Value) (w:World) (hsv:TextsAt w sv o.entry.sels) (hsl:o.entry.sels.length≤1000) (hsz:∀ x∈o.entry.sels,x.length≤9223372036854775807) (hp1:o.entry.path.length≤9223372036854775807) (hp2:o.entry.parent.length≤9223372036854775807)
  (hE:E.length≤24) (hr:Rises cEp E) (hEn:∀ p∈E,1≤p.1.n∧p.1.n≤1099511627776) (hE1:∀ p∈E,p.2.oneCell'=true) (hbase:base≤w.heap.size)
  (hbl:Blk w gl vs 30) (h0:vs[0]?=some vE) (hown:w.ownsRow base 36 5 vE E.length (rows entRow E)) (hne:vE.ownBlock≠some gl) :
  Calls Tryz.prog 42 #[.pointer (some ⟨gl,0,none⟩),.agg (opCells o sv kv).toArray] w (EntryPut base gl vE E (o.entry,sv) w):=by
 have hs1:sv.oneCell'=true:=by obtain⟨A,n,c,rfl,_⟩:=hsv; rfl
 obtain⟨W,hW⟩:∃ W,w.alloc (.cells (opCells o sv kv).toArray 47)=W:=⟨_,rfl⟩
 have b0:Blk W w.heap.size (opCells o sv kv) 47:=by rw [← hW]; exact Blk.new w _ _
 have hbW:Below w.heap.size w W:=by rw [← hW]; exact(Below.refl _ _).alloc (Nat.le_refl _) _
 have hl0:=ld_entry b0
 have hent:=entry_any o.entry sv W (hsv.below hbW) hsl hsz hp1 hp2
 have HW:=Lib.hid hW
 clear hW
 obtain⟨CS,hCS⟩:∃ CS,(opCells o sv kv).toArray=CS:=⟨_,rfl⟩
 rw [hCS] at HW ⊢
 clear hCS
 have HX:=Lib.hid (fun (h:mayEntry o.entry=true) (W':World) (y:Led.Entry × Value) (hy:y∈E)=>putEntry1_any y (o.entry,sv) W' (hEn y hy) (may_n h))
 go_enter Tryz.func42,Tryz.ntmps42
 go_upto_region 1 with fail
 rw [HW.out]
 clear HW
 cases hm:mayEntry o.entry
 ·have HR:Hid (∀ w',Below w.heap.size w w'→EntryPut base gl vE E (o.entry,sv) w (.returned (.int .i64 1)) w'):=Lib.hid (fun w' h=>by unfold EntryPut; rw [hm]; exact⟨rfl,h⟩)
  rw [hm] at hent; clear hm; go_wp2_with fail
  refine hent.mono ?_; rintro e w1 ⟨rfl,hb1⟩; go_wp2; go_ret; exact HR.out _ (hbW.trans (hb1.mono hbW.size))
 ·rw [hm] at hent
  have HR:Hid (∀ x w',Puts entRow 5 36 base gl 0 vE (put cEp 24 (o.entry,sv) E) w x w'→EntryPut base gl vE E (o.entry,sv) w x w'):=Lib.hid (fun x w' h=>by unfold EntryPut; rw [hm]; exact h)
  have HC:=Lib.hid (HX.out hm); clear hm HX; go_wp2_with fail
  refine hent.mono ?_; rintro e w1 ⟨rfl,hb1⟩; have b1:=b0.below hb1; have hbw1:Below w.heap.size w w1:=hbW.trans (hb1.mono hbW.size); clear hl0 hent; have f3:∀ p,(ldEnt (.pointer (some ⟨w.heap.size,3,none⟩))).run Tryz.prog (Batch.grew w1 p)=.ok (.agg (entRow (o.entry,sv)).toArray) (Batch.grew w1 p):=fun p=>ld_entry (b1.below (Batch.grew_below w1 p)); go_wp2_with fail
  refine Batch.wp_region_grew_tail 5 (by kernel_rfl) (by kernel_rfl) ?_; simp only [List.take_succ_cons,List.take_zero,List.drop_succ_cons,List.drop_zero]; repeat (go_big_quiet_step (fail))
  refine wpQuiet_nil ?_; rintro _ ⟨py,rfl⟩; have g3:=Batch.grew_below w1 py; clear f3; generalize Batch.grew w1 py=w3 at *; have hbw3:Below w.heap.size w w3:=hbw1.trans (g3.mono hbw1.size); have hput:=putEnt_any gl 0 81 (enters_of Tryz.func81 (by kernel_rfl) rfl) cEp cEp_cmp (o.entry,sv) E hr base vE 24 w3 hE (by omega) vs 30 (hbl.below hbw3) h0 (own_below hown hbw3 (Nat.le_refl _)) hne (Nat.le_trans hbase hbw3.size) (fun y hy=>entRow_one y (hE1 y hy)) (entRow_one _ hs1) (fun W' y hy _=>HC.out W' y hy); have HP:=Lib.hid (hput.mono fun x w' h=>puts_from hbw3 h); clear hput; obtain⟨Y,hY⟩:∃ Y,(entRow (o.entry,sv)).toArray=Y:=⟨_,rfl⟩; rw [hY] at HP ⊢; go_wp2_with fail
  refine HP.out.mono ?_; intro e w4 h; have h':=Lib.hid (HR.out e w4 h); clear HP HR; unfold Puts at h
  cases hq:put cEp 24 (o.entry,sv) E
  all_goals
   rw [hq] at h; obtain⟨rfl,_⟩:=h; clear hq; go_wp2; (try rw [Batch.Qn_normal])
   (try go_wp2)
   go_ret; exact h'.out
end
section
open Go.RowKit Mem Led
def letter (c:UInt8):Bool:=Ids.small c||Ids.digit c
theorem all_more{L:Txt} {k:Nat} (hk:k<L.length) (h:(L.take k).all letter=true) (hp:letter L[k]=true):(L.take (k+1)).all letter=true:=by
 rw [List.take_succ_eq_append_getElem hk,List.all_append,h]
 simp [hp]
theorem all_bad{L:Txt} {k:Nat} (hk:k<L.length) (hp:letter L[k]=false):L.all letter=false:=by
 rw [List.all_eq_false]
 exact⟨L[k],List.getElem_mem hk,by rw [hp]; simp⟩
theorem join_any(j:Led.Join) (w:World) (hz1:j.text.length≤9223372036854775807) (hz2:j.name.length≤9223372036854775807):Calls Tryz.prog 84 #[.agg (joinRow j).toArray] w fun e w'=>e=.returned (.bool (mayJoin j))∧Below w.heap.size w w':=by
 obtain⟨W,hW⟩:∃ W,w.alloc (.cells (joinRow j).toArray 38)=W:=⟨_,rfl⟩
 have b0:Blk W w.heap.size (joinRow j) 38:=by rw [← hW]; exact Blk.new w _ _
 have hbW:Below w.heap.size w W:=by rw [← hW]; exact(Below.refl _ _).alloc (Nat.le_refl _) _
 have c0:W.cell? ⟨w.heap.size,0,none⟩=some (.string (str j.text)):=b0.cell 0
 have c1:W.cell? ⟨w.heap.size,1,none⟩=some (.string (str j.name)):=b0.cell 1
 have hag:=agent_any j.name W hz2
 obtain⟨r,HR⟩:∃ r,Hid (mayJoin j=r):=⟨_,Lib.hid rfl⟩
 have hmay:mayJoin j=(j.text.all letter&&Ids.agent j.name&&within j.text.length 1 16&&within j.expires 0 1099511627776):=rfl
 have HM:=Lib.hid hmay
 rw [HR.out]
 clear hmay
 obtain⟨N,hN⟩:∃ N,j.text.length=N:=⟨_,rfl⟩
 have hsz:(str j.text).size=N:=by rw [str_size,hN]
 have HN:=Lib.hid hN
 rw [hN] at hz1
 clear hN
 have HW:=Lib.hid hW
 clear hW
 obtain⟨CS,hCS⟩:∃ CS,(joinRow j).toArray=CS:=⟨_,rfl⟩
 rw [hCS] at HW ⊢
 clear hCS
 go_enter Tryz.func84,Tryz.ntmps84
 go_upto_region 1 with fail
 rw [HW.out]
 clear HW
 go_wp2_with fail
 go_loopw [8,3,4] (fun i _ _ wr=>∃ k:Nat,k≤N∧i=.int .i64 k∧Hid ((j.text.take k).all letter=true)∧wr=W) (fun i _ _ _=>N - (intOf i).toNat)
 case atStart=>exact⟨0,by omega,rfl,Lib.hid (by simp),rfl⟩
 case round =>
  obtain⟨k,hk,rfl,HA,hwr⟩:=hrel; subst hwr; by_cases hlt:k<N
  ·have hks:k<(str j.text).size:=by omega
   have hkl:k<j.text.length:=by rw [HN.out]; exact hlt
   have hi:(k:Int)<(N:Int):=by omega
   have hce:((str j.text)[k]).toNat=(j.text[k]).toNat:=rfl; have hlet:letter j.text[k]=(decide (97≤((str j.text)[k]).toNat∧((str j.text)[k]).toNat≤122)||decide (48≤((str j.text)[k]).toNat∧((str j.text)[k]).toNat≤57)):=rfl; have HMORE:=Lib.hid (all_more hkl HA.out); have HBAD:=Lib.hid (fun h=>all_bad hkl h); obtain⟨lk,hlk⟩:∃ lk,letter j.text[k]=lk:=⟨_,rfl⟩; rw [hlk] at hlet HMORE HBAD; have HLET:=Lib.hid hlet; clear hce hlet hlk; generalize hcc:((str j.text)[k]).toNat=cc at *; have hq:(97≤cc∧cc≤122)∨(cc<48)∨(48≤cc∧cc≤57)∨(57<cc∧cc<97)∨122<cc:=by omega
   rcases hq with hq|hq|hq|hq|hq
   ·have e:lk=true:=by rw [HLET.out]; simp [hq]
    have HN2:=Lib.hid (HMORE.out e); clear HLET HMORE HBAD e; have i1:¬ (cc:Int)<97:=by omega
    have i2:¬ (cc:Int) > 122:=by omega
    go_wp2_with fail
    go_roundw
    case rel=>exact⟨k+1,by omega,by go_num,HN2,by trivial⟩
    case measure=>simp [intOf]; omega
   ·have e:lk=false:=by rw [HLET.out]; simp; omega
    have HN2:=Lib.hid (HBAD.out e); have hr:Hid (r=false):=Lib.hid (by rw [← HR.out,HM.out,HN2.out]; rfl)
    clear HLET HMORE HBAD e; have i1:(cc:Int)<97:=by omega
    have i3:(cc:Int)<48:=by omega
    go_wp2_with fail
    go_ret; exact⟨by rw [hr.out]; rfl,hbW⟩
   ·have e:lk=true:=by rw [HLET.out]; simp [hq]
    have HN2:=Lib.hid (HMORE.out e); clear HLET HMORE HBAD e; have i1:(cc:Int)<97:=by omega
    have i3:¬ (cc:Int)<48:=by omega
    have i4:¬ (cc:Int) > 57:=by omega
    go_wp2_with fail
    go_roundw
    case rel=>exact⟨k+1,by omega,by go_num,HN2,by trivial⟩
    case measure=>simp [intOf]; omega
   ·have e:lk=false:=by rw [HLET.out]; simp; omega
    have HN2:=Lib.hid (HBAD.out e); have hr:Hid (r=false):=Lib.hid (by rw [← HR.out,HM.out,HN2.out]; rfl)
    clear HLET HMORE HBAD e; have i1:(cc:Int)<97:=by omega
    have i3:¬ (cc:Int)<48:=by omega
    have i4:(cc:Int) > 57:=by omega
    go_wp2_with fail
    go_ret; exact⟨by rw [hr.out]; rfl,hbW⟩
   ·have e:lk=false:=by rw [HLET.out]; simp; omega
    have HN2:=Lib.hid (HBAD.out e); have hr:Hid (r=false):=Lib.hid (by rw [← HR.out,HM.out,HN2.out]; rfl)
    clear HLET HMORE HBAD e; have i1:¬ (cc:Int)<97:=by omega
    have i2:(cc:Int) > 122:=by omega
    have i3:¬ (cc:Int)<48:=by omega
    have i4:(cc:Int) > 57:=by omega
    go_wp2_with fail
    go_ret; exact⟨by rw [hr.out]; rfl,hbW⟩
  ·have hkn:k=N:=by omega
   have HALL:Hid (j.text.all letter=true):=Lib.hid (by have:=HA.out; rwa [hkn,← HN.out,List.take_length] at this)
   have hi:¬ ((k:Int)<(N:Int)):=by omega
   have hin:∀ W,Calls Tryz.prog 104 #[.int .i64 (N:Int),.int .i64 1,.int .i64 16] W fun e w'=>e=.returned (.bool (within N 1 16))∧w'=W:=fun W=>inb_any _ _ _ W
   cases h1:within (N:Int) 1 16
   ·have hr:Hid (r=false):=Lib.hid (by rw [← HR.out,HM.out,HN.out,h1]; simp)
    go_wp2_with fail
    refine(inb_any _ _ _ _).mono ?_; rintro e w2 ⟨rfl,hw2⟩; have hw3:=hw2.symm; subst hw3; go_wp2_with fail
    go_ret; exact⟨by rw [hr.out]; first|rfl|(rw [h1]; rfl),hbW⟩
   ·cases h2:Ids.agent j.name
    ·have hr:Hid (r=false):=Lib.hid (by rw [← HR.out,HM.out,h2]; simp)
     rw [h2] at hag; go_wp2_with fail
     refine(inb_any _ _ _ _).mono ?_; rintro e w2 ⟨rfl,hw2⟩; have hw3:=hw2.symm; subst hw3; go_wp2_with fail
     refine hag.mono ?_; rintro e w3 ⟨rfl,hb3⟩; go_wp2_with fail
     go_ret; exact⟨by rw [hr.out]; rfl,hbW.trans (hb3.mono hbW.size)⟩
    ·have hr:Hid (r=within j.expires 0 1099511627776):=Lib.hid (by rw [← HR.out,HM.out,HN.out,h2,h1,HALL.out]; rfl)
     rw [h2] at hag; go_wp2_with fail
     refine(inb_any _ _ _ _).mono ?_; rintro e w2 ⟨rfl,hw2⟩; have hw3:=hw2.symm; subst hw3; go_wp2_with fail
     refine hag.mono ?_; rintro e w3 ⟨rfl,hb3⟩; have c2:w3.cell? ⟨w.heap.size,2,none⟩=some (.int .i64 j.expires):=(b0.below hb3).cell 2
     cases h3:within j.expires 0 1099511627776
     all_goals
      go_wp2_with fail
      refine(inb_any _ _ _ _).mono ?_; rintro e w4 ⟨rfl,hw4⟩; have hw5:=hw4.symm; subst hw5; go_wp2_with fail
      go_ret; exact⟨by rw [hr.out]; first|rfl|(rw [h3]; rfl),hbW.trans (hb3.mono hbW.size)⟩
end
section
open Go.RowKit Mem Led
theorem op_join(o:Led.Op) (sv kv:Value):∀ j u,(joinRow o.join)[j]?=some u→(opCells o sv kv)[8+j]?=some u:=by
 intro j u h
 match j,h with
 | 0,h=>exact h
 | 1,h=>exact h
 | 2,h=>exact h
 | 3,h=>exact h
 | j+4,h=>simp [joinRow] at h
theorem ld_join{w:World} {g:Nat} {o:Led.Op} {sv kv:Value} (h:Blk w g (opCells o sv kv) 47):(ldJoi (.pointer (some ⟨g,8,none⟩))).run Tryz.prog w=.ok (.agg (joinRow o.join).toArray) w :=
 load_cells Tryz.underlying38 rfl sizeJoi rfl fun j u hj=>by rw [h.cell]; exact op_join o sv kv j u hj
theorem joinRow_one(n:Led.Join):∀ u∈joinRow n,u.oneCell'=true:=by
 intro u hu
 simp [joinRow,tx,nm] at hu
 rcases hu with rfl|rfl|rfl|rfl <;> rfl
theorem infoJoi:(Tryz.prog.info? 38).map (fun i=>(i.zero,i.size,i.bytes))=some (some (.agg #[.string ⟨#[]⟩,.string ⟨#[]⟩,.int .i64 0,.bool false]),4,48):=by kernel_rfl
theorem putJoin1_any(x:Led.Join) (n:Txt) (go:Nat) (W:World) (hc:W.cell? ⟨go,8,none⟩=some (.string (str n))) :
  Calls Tryz.prog 86 (#[.agg (joinRow x).toArray]++#[.pointer (some ⟨go,0,none⟩)]) W fun e w'=>e=.returned (.bool (x.text==n))∧Below W.heap.size W w':=by
 have hgo:=World.block_lt_of_cell? W _ hc
 simp only [] at hgo
 have hb:∀ o,Below W.heap.size W (W.alloc o):=fun o=>(Below.refl _ _).alloc (Nat.le_refl _) _
 show Calls Tryz.prog 86 #[.agg #[.string (str x.text),.string (str x.name),.int .i64 x.expires,.bool x.used],.pointer (some ⟨go,0,none⟩)] W _
 go_enter Tryz.func86,Tryz.ntmps86
 go_wp2_with fail
 go_ret
 exact⟨by first|rfl|simp,hb _⟩
def Tokened (base gl:Nat) (vJ:Value) (J:List Led.Join) (j:Led.Join) (w:World) (x:Ending) (w':World):Prop :=
 if !mayJoin j||j.used then x=.returned (.int .i64 1)∧Below w.heap.size w w'
 else if J.any (fun k=>k.text==j.text) then x=.returned (.int .i64 8)∧Below w.heap.size w w'
 else if 16≤J.length then x=.returned (.int .i64 6)∧Below w.heap.size w w'
 else x=.returned (.int .i64 0)∧Slot joinRow 4 38 base gl 3 vJ (J++[j]) w w'
theorem putJoin_any(gl:Nat) (o:Led.Op) (sv kv:Value) (vs:List Value) (J:List Led.Join) (base:Nat) (vJ:Value) (w:World) (hz1:o.join.text.length≤9223372036854775807) (hz2:o.join.name.length≤9223372036854775807) (hJ:J.length≤16) (hbase:base≤w.heap.size)
  (hbl:Blk w gl vs 30) (h3:vs[3]?=some vJ) (hown:w.ownsRow base 38 4 vJ J.length (rows joinRow J)) (hne:vJ.ownBlock≠some gl) :
  Calls Tryz.prog 44 #[.pointer (some ⟨gl,0,none⟩),.agg (opCells o sv kv).toArray] w (Tokened base gl vJ J o.join w):=by
 obtain⟨A,c,rfl,hnc,hcm⟩:=own_form hown
 obtain⟨W,hW⟩:∃ W,w.alloc (.cells (opCells o sv kv).toArray 47)=W:=⟨_,rfl⟩
 have b0:Blk W w.heap.size (opCells o sv kv) 47:=by rw [← hW]; exact Blk.new w _ _
 have hbW:Below w.heap.size w W:=by rw [← hW]; exact(Below.refl _ _).alloc (Nat.le_refl _) _
 have hl0:=ld_join b0
 have hjoin:=join_any o.join W hz1 hz2
 have HW:=Lib.hid hW
 clear hW
 obtain⟨CS,hCS⟩:∃ CS,(opCells o sv kv).toArray=CS:=⟨_,rfl⟩
 rw [hCS] at HW ⊢
 clear hCS
 go_enter Tryz.func44,Tryz.ntmps44
 go_upto_region 1 with fail
 rw [HW.out]
 clear HW
 by_cases hbad:(!mayJoin o.join||o.join.used)=true
 ·have HR:Hid (∀ w',Below w.heap.size w w'→Tokened base gl (.slice A J.length c) J o.join w (.returned (.int .i64 1)) w'):=Lib.hid (fun w' h=>by unfold Tokened; rw [if_pos hbad]; exact⟨rfl,h⟩)
  cases hm:mayJoin o.join
  ·rw [hm] at hjoin
   clear hbad hm; go_wp2_with fail
   refine hjoin.mono ?_; rintro e w1 ⟨rfl,hb1⟩; go_wp2; go_ret; exact HR.out _ (hbW.trans (hb1.mono hbW.size))
  ·have hs:o.join.used=true:=by
    rw [hm] at hbad; simpa using hbad
   rw [hm] at hjoin; clear hbad hm; go_wp2_with fail
   refine hjoin.mono ?_; rintro e w1 ⟨rfl,hb1⟩; have c11:w1.cell? ⟨w.heap.size,11,none⟩=some (.bool true):=by rw [(b0.below hb1).cell 11,← hs]; rfl
   go_wp2_with fail
   go_ret; exact HR.out _ (hbW.trans (hb1.mono hbW.size))
 ·have hm:mayJoin o.join=true:=by
   cases h:mayJoin o.join
   ·rw [h] at hbad; simp at hbad
   ·rfl
  have hs:o.join.used=false:=by
   rw [hm] at hbad; simpa using hbad
  rw [hm] at hjoin; have HR0:Hid (∀ x w',(if J.any (fun k=>k.text==o.join.text) then x=.returned (.int .i64 8)∧Below w.heap.size w w'
    else if 16≤J.length then x=.returned (.int .i64 6)∧Below w.heap.size w w'
    else x=.returned (.int .i64 0)∧Slot joinRow 4 38 base gl 3 (.slice A J.length c) (J++[o.join]) w w')→Tokened base gl (.slice A J.length c) J o.join w x w'):=Lib.hid (fun x w' h=>by unfold Tokened; rw [if_neg hbad]; exact h)
  clear hbad hm; go_wp2_with fail
  refine hjoin.mono ?_; rintro e w2 ⟨rfl,hb1⟩; have hbw2:Below w.heap.size w w2:=hbW.trans (hb1.mono hbW.size); have b2:=b0.below hb1; have hbl2:=hbl.below hbw2; have c11:w2.cell? ⟨w.heap.size,11,none⟩=some (.bool false):=by rw [b2.cell 11,← hs]; rfl
  have cK:w2.cell? ⟨gl,3,none⟩=some (.slice A J.length c):=(hbl2.cell 3).trans h3; clear hl0 hjoin; have hhas:=hasJoi_any 86 #[.pointer (some ⟨w.heap.size,0,none⟩)] (enters_of Tryz.func86 (by kernel_rfl) rfl) (fun k=>k.text==o.join.text) A J.length c J w2 (Vs.of_own (own_below hown hbw2 (Nat.le_refl _))) (by omega) (fun W' x _ hb=>putJoin1_any x o.join.text w.heap.size W' ((b2.below hb).cell 8))
  cases hk:J.any (fun k=>k.text==o.join.text)
  ·rw [hk] at hhas
   have HK:=Lib.hid hk; clear hk; go_wp2_with fail
   refine hhas.mono ?_; rintro e w3 ⟨rfl,hb3⟩; have hbw3:Below w.heap.size w w3:=hbw2.trans (hb3.mono hbw2.size); have b3:=b2.below hb3; have hbl3:=hbl.below hbw3; have cK3:w3.cell? ⟨gl,3,none⟩=some (.slice A J.length c):=(hbl3.cell 3).trans h3; by_cases h8:16≤J.length
   ·have HR:Hid (∀ w',Below w.heap.size w w'→Tokened base gl (.slice A J.length c) J o.join w (.returned (.int .i64 6)) w'):=Lib.hid (fun w' h=>HR0.out _ _ (by rw [HK.out]; simp only [Bool.false_eq_true,if_false,if_pos h8]; exact⟨trivial,h⟩))
    have hge:(16:Int)≤(J.length:Int):=by omega
    clear HR0; go_wp2_with fail
    go_ret; exact HR.out _ hbw3
   ·have HR:Hid (∀ w',Slot joinRow 4 38 base gl 3 (.slice A J.length c) (J++[o.join]) w w'→Tokened base gl (.slice A J.length c) J o.join w (.returned (.int .i64 0)) w'):=Lib.hid (fun w' h=>HR0.out _ _ (by rw [HK.out]; simp only [Bool.false_eq_true,if_false,if_neg h8]; exact⟨trivial,h⟩))
    have hge:¬ (16:Int)≤(J.length:Int):=by omega
    clear HR0 HK hhas hs; have f1:∀ p,(Batch.grew w3 p).cell? ⟨gl,3,none⟩=some (.slice A J.length c):=fun p=>(Batch.grew_cell (a:=⟨gl,3,none⟩) hbl3.lt p).trans cK3; have f2:∀ p,(ldJoi (.pointer (some ⟨w.heap.size,8,none⟩))).run Tryz.prog (Batch.grew w3 p)=.ok (.agg #[.string (str o.join.text),.string (str o.join.name),.int .i64 o.join.expires,.bool o.join.used]) (Batch.grew w3 p):=fun p=>ld_join (b3.below (Batch.grew_below w3 p)); go_upto_region 7 with fail
    refine Batch.wp_region_move_segs [0] [] [1,2,3,4,5,6] [(7,fun v w'=>∃ gx,w3.heap.size≤gx∧v=.slice (some ⟨gx,0,none⟩) 1 1∧Blk w' gx (joinRow o.join) 38)] [8,9,10,11] (by kernel_rfl) (by kernel_rfl) (by kernel_rfl) (by
     intro z hz; simp only [List.mem_cons,List.not_mem_nil,or_false] at hz; subst hz; exact Batch.stable_gr fun v w w' hb ⟨gx,e0,e,h⟩=>⟨gx,e0,e,h.below hb⟩) ?_
    simp only [Batch.segs,Batch.pick,List.getD_cons_zero,List.getD_cons_succ]; repeat (go_big_quiet_step (fail))
    refine wpQuiet_nil ?_; repeat (go_big_quiet_step (fail))
    refine wpQuiet_nil ?_; refine⟨_,rfl,rfl,?_,?_⟩
    ·intro w4 hw4
     have hwz:=hw4.below.size; go_simp
     exact⟨Batch.GR.of ((Below.refl _ _).alloc (Nat.le_refl _) _),w4.heap.size,hwz,rfl,Blk.new w4 (joinRow o.join) _⟩
    ·rintro v w6 hw6 ⟨_,gx,hgx,rfl,hBx⟩
     have hb6:=hw6.below; have hbw6:Below w.heap.size w w6:=hbw3.trans (hb6.mono hbw3.size); have own6:=own_below hown hbw6 (Nat.le_refl _); obtain⟨iT,hiT,hzT,hsT,hbT⟩:=info_parts infoJoi; have hvx:Vs w6 w6.heap.size 4 (some ⟨gx,0,none⟩) 1 (joinRow o.join):=⟨by rw [joinRow_len],fun j u hj=>⟨_,rfl,hBx.lt,by rw [zero_add_,hBx.cell j]; exact hj⟩⟩
     obtain⟨v',w7,hrun,hown7,hg7,hb7⟩:=run_append (P:=Tryz.prog) w6 base 26 26 38 iT _ 4 48 Tryz.underlying26 hiT hzT hsT hbT rfl (by omega) _ J.length _ own6 w6.heap.size (some ⟨gx,0,none⟩) 1 1 (joinRow o.join) hvx (joinRow_one _) (by unfold maxLen; omega) (by omega) (Nat.le_trans hbase hbw6.size)
     obtain⟨A',c',rfl,_,_⟩:=own_form hown7; have hgl6:gl<w6.heap.size:=Nat.lt_of_lt_of_le hbl.lt hbw6.size; have hblk:=hg7.block gl hgl6 (fun e=>hne e.symm); have hc7:w7.cell? ⟨gl,3,none⟩=some (.slice A J.length c):=(World.cell?_of_block (a:=⟨gl,3,none⟩) hblk).trans (((hbl.below hbw6).cell 3).trans h3); have hf7:w7.frozen? ⟨gl,3,none⟩=false:=(World.frozen?_of_block (a:=⟨gl,3,none⟩) hblk).trans ((hbl.below hbw6).froz 3); have hrow:rows joinRow J++joinRow o.join=rows joinRow (J++[o.join]):=by rw [rows_append]; simp [rows]
     rw [hrow] at hown7; have hres:=HR.out (w7.setCell ⟨gl,3,none⟩ (.slice A' (J.length+1) c')) ⟨_,w7,rfl,grown_after hbw6 hg7,by rw [List.length_append]; exact hown7,hb7.imp id (fun h=>⟨_,hbw6.size,h⟩)⟩
     have HH:=Lib.hid hres; clear hres HR hown7 hg7 hb7 hblk hvx hBx own6 hown f1 f2; go_wp2_with (at_builtin; refine Lib.wpList_append_run _ rfl _ _ _ _ rfl _ _ rfl rfl _ _ hrun ?_)
     (try rw [Batch.Qn_normal])
     (try go_wp2)
     go_ret; exact HH.out
  ·rw [hk] at hhas
   have HR:Hid (∀ w',Below w.heap.size w w'→Tokened base gl (.slice A J.length c) J o.join w (.returned (.int .i64 8)) w'):=Lib.hid (fun w' h=>HR0.out _ _ (by rw [hk]; exact⟨rfl,h⟩))
   clear hk HR0; go_wp2_with fail
   refine hhas.mono ?_; rintro e w3 ⟨rfl,hb3⟩; go_wp2_with fail
   go_ret; exact HR.out _ (hbw2.trans (hb3.mono hbw2.size))
end
end Go.Proofs.YtmbpnkacggngkaaGreatDoor
