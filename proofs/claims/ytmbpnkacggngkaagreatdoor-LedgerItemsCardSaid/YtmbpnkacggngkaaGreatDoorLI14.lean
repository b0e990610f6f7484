/- LedRefCopy, LedScan, LedRefMay, LedRefB, LedRAt, LedRefC, LedRSlot (put together by bundle.py: only what is needed). -/
import Derived.Deep.LoopGhost
import Derived.Deep.Cut
import Derived.Deep.CutRange
import Derived.Test.YtmbpnkacggngkaaGreatDoorLI13
set_option maxRecDepth 100000
set_option maxHeartbeats 16000000
namespace Go.Proofs.YtmbpnkacggngkaaGreatDoor
open Batch
open Tryz
section
open Go.RowKit Mem Led
theorem pD{w w':World}{b k n:Nat}{e:TypeId}{u:Value}{xs:List Value}{r:Option Nat}(h:w.ownsRow b e k u n xs)(B:w.grownBy w' r)(C:∀g,u.ownBlock=some g->r≠some g):w'.ownsRow b e k u n xs :=
 jl h (iD B) fun g A D=>C g A (by simpa using D)
theorem Blk.older{w w':World}{g B:Nat}{cs:List Value}{t:TypeId}(h:Blk w g cs t)(A:Below B w w')(C:g<B):Blk w' g cs t:=by
 unfold Blk
 rw[A.block _ C]
 exact h
theorem lF{k B:Nat}{ts e:TypeId}{z:Value}(C:(prog.info? e).map (fun i=>(i.zero,i.size,i.bytes))=some (some z,k,B))(E:prog.underlying ts=some (.slice e))(base:Nat)(W:World)(xs:List Value){A:Option Addr}{n c:Nat}
  (O:base<=W.heap.size) (R:Vs W W.heap.size k A n xs) (S:∀u∈xs,u.oneCell'=true) (Z:n<=1000) {ops:Array Oper} {rest:List Oper} {o:Oper} {a:Act} {Q:Exit->Act->World->Prop} (s y:Operand) (F:o.guard=none)
  (T:o.op=.call { callee:=.builtin .append,args:=#[s,y],argTypes:=#[ts,ts] }) (U:a.eval s=.slice none 0 0) (V:a.eval y=.slice A n c)
  (h:∀G H w',w'.ownsRow base e k (.slice G n H) n xs->W.grownBy w' none->wpList prog ops Q rest (a.put o.dst (.slice G n H)) w')
  (X:z.cells.size=k:=by rfl) (h0:0<k:=by decide) (I:B<=1000:=by decide):wpList prog ops Q (o::rest) a W:=by
 obtain⟨Y,J,K,L,M⟩:=an C
 refine aK W F s y ts T base e Y z k B E J K L M X h0 _ 0 [] U (World.ownsRow_nil _ _ _ _) _ _ _ _ _ V R S (by unfold maxLen;omega) (Nat.le_trans (Nat.mul_le_mul (show 0+n<=1000 by omega) I) (by decide)) O ?_
 intro G H w' D _ _ N
 rw[Nat.zero_add,List.nil_append] at *
 exact h _ _ _ D N
structure Cp(w z:World)(cs zs os:List Value)(O:TypeId->Nat->Value->Nat->List Value->Prop):Prop where
 hb:eF w z
 b0:Blk z w.heap.size cs 30
 b1:Blk z (w.heap.size+1) zs 30
 b2:Blk z (w.heap.size+2) os 30
 own:∀e k v n xs,O e k v n xs->z.ownsRow (w.heap.size+3) e k v n xs
theorem Cp.step{w z y:World}{cs F os:List Value}{O:TypeId->Nat->Value->Nat->List Value->Prop}(h:Cp w z cs F os O){e:TypeId}{k n i:Nat}{v u:Value}{xs:List Value}(B:y.ownsRow (w.heap.size+3) e k v n xs)(D:z.grownBy y none)(hi:os[i]?=some u) :
  y.cell? ⟨w.heap.size+2,i,none⟩=some u/\y.frozen? ⟨w.heap.size+2,i,none⟩=false /\
  Cp w (y.setCell ⟨w.heap.size+2,i,none⟩ v) cs F (os.set i v) (fun e' k' E n' A=>O e' k' E n' A\/(e'=e/\k'=k/\E=v/\n'=n/\A=xs)):=by
 have C:=(iD D).below (fun _ h=>by cases h)
 have b2:=h.b2.below C
 refine⟨(b2.cell i).trans hi,b2.froz i,(h.hb.trans (C.mono h.hb.size)).setCell (p:=⟨w.heap.size+2,i,none⟩) (by simp) v,(h.b0.below C).set_ne (p:=⟨w.heap.size+2,i,none⟩) (by simp) v,(h.b1.below C).set_ne (p:=⟨w.heap.size+2,i,none⟩) (by simp) v,b2.set i v,?_⟩
 rintro e' k' E n' A (G|⟨rfl,rfl,rfl,rfl,rfl⟩)
 .exact ownsRow_setCell_below (af (h.own _ _ _ _ _ G) C eH) (a:=⟨w.heap.size+2,i,none⟩) (by simp) _
 .exact ownsRow_setCell_below B (a:=⟨w.heap.size+2,i,none⟩) (by simp) _
theorem rcopy_any(cs:List Value)(L:Led.Ledger)(E:List (Led.Entry × Value))(U:List (Led.Bundle × Value))(w:World)(h:dk w cs L E U)(hs:L.Small)(AM:∀p∈U,Nop w p.2) :
  Calls prog 39 #[.agg cs.toArray] w fun e w'=>∃vE vN vB vJ vK vU J,e=.returned (.agg #[vE,vN,vB,vJ,vK,vU])/\Rk w.heap.size w' vE vN vB vJ vK vU L J U/\eF w w':=by
 obtain⟨⟨vE,vN,vB,vJ,vK,vU,rfl,hE,hN,hB,hJ,hK,hU⟩,m,Aa,Af,o⟩:=h
 obtain⟨AE,nE,cE,rfl,fE,eE⟩:=hE
 obtain⟨AN,Y,cN,rfl,fN,eN⟩:=hN
 obtain⟨AB,Z,cB,rfl,fB,eB⟩:=hB
 obtain⟨AJ,d,cJ,rfl,fJ,eJ⟩:=hJ
 obtain⟨AK,f,cK,rfl,fK,eK⟩:=hK
 obtain⟨AU,l,cU,rfl,fU,eU⟩:=hU
 have lE:=eE.len bf (by omega)
 have lN:=eN.len aM (by omega)
 have lB:L.bans.length=Z:=by have:=eB.len;omega
 have lJ:=eJ.len bm (by omega)
 have lK:=eK.len aP (by omega)
 have lU:=eU.len aQ (by omega)
 have zE:nE<=1000:=by have h1:=hs.e;rw[<-m,List.length_map] at h1;omega
 have zN:Y<=1000:=by have h1:=hs.n;omega
 have zB:Z<=1000:=by have h1:=hs.b;omega
 have zJ:d<=1000:=by have h1:=hs.j;omega
 have zK:f<=1000:=by have h1:=hs.k;omega
 have zU:l<=1000:=by have h1:=hs.u;rw[<-Aa,List.length_map] at h1;omega
 have A7:=eA lE
 have HL:=eA (show L.nodes.length=Y/\L.bans.length=Z/\L.joins.length=d/\L.keys.length=f/\U.length=l from⟨lN,lB,lJ,lK,lU⟩)
 have Ax:=eA m
 have Ay:=eA Aa
 have AO:=eA Af
 have Az:=eA (show ∀p∈U,NK w.heap.size w p.2 p.1.keys from fun p F=>NK.old (o p F) (AM p F))
 clear AM
 have Bm:Hid (∀p∈E,p.1.sels.length<=1000):=eA fun p F=>hs.s _ (by rw[<-m];exact List.mem_map.2 ⟨p,F,rfl⟩)
 have AP:=eA (pO (w:=w) (U:=U) o)
 obtain⟨iE,Bn,e0,e1,e2⟩:=an gR
 obtain⟨iS,Bo,s0,s1,s2⟩:=an gQ
 obtain⟨W,hW⟩:=eC (((w.alloc (.cells ([.slice AE nE cE,.slice AN Y cN,.slice AB Z cB,.slice AJ d cJ,.slice AK f cK,.slice AU l cU]:List Value).toArray 30)).alloc (.cells (aB (.slice none 0 0)).toArray 30)).alloc (.cells (aB (.slice none 0 0)).toArray 30))
 have B0:Blk W w.heap.size [.slice AE nE cE,.slice AN Y cN,.slice AB Z cB,.slice AJ d cJ,.slice AK f cK,.slice AU l cU] 30:=by rw[<-hW];exact((Blk.new _ _ _).alloc _).alloc _
 have B1:Blk W (w.heap.size+1) (aB (.slice none 0 0)) 30:=by
  have:=(Blk.new (w.alloc (.cells ([.slice AE nE cE,.slice AN Y cN,.slice AB Z cB,.slice AJ d cJ,.slice AK f cK,.slice AU l cU]:List Value).toArray 30)) (aB (.slice none 0 0)) 30).alloc (.cells (aB (.slice none 0 0)).toArray 30);rw[<-hW];simpa using this
 have B2:Blk W (w.heap.size+2) [.slice none 0 0,.slice none 0 0,.slice none 0 0,.slice none 0 0,.slice none 0 0,.slice none 0 0] 30:=by
  have:=Blk.new ((w.alloc (.cells ([.slice AE nE cE,.slice AN Y cN,.slice AB Z cB,.slice AJ d cJ,.slice AK f cK,.slice AU l cU]:List Value).toArray 30)).alloc (.cells (aB (.slice none 0 0)).toArray 30)) (aB (.slice none 0 0)) 30;rw[<-hW];simp at this
  exact this
 have AQ:eF w W:=by rw[<-hW];exact((eI.alloc (by simp) _).alloc (by simp;omega) _)
 have HW:Hid (((w.alloc (.cells #[.slice AE nE cE,.slice AN Y cN,.slice AB Z cB,.slice AJ d cJ,.slice AK f cK,.slice AU l cU] 30)).alloc (.cells #[.slice none 0 0,.slice none 0 0,.slice none 0 0,.slice none 0 0,.slice none 0 0,.slice none 0 0] 30)).alloc (.cells #[.slice none 0 0,.slice none 0 0,.slice none 0 0,.slice none 0 0,.slice none 0 0,.slice none 0 0] 30)=W):=eA hW
 have Bp:w.heap.size+3<=W.heap.size:=B2.lt
 clear hW m Aa Af o hs lE lN lB lJ lK lU fE fN fB fJ fK fU
 show Calls prog 39 #[.agg #[.slice AE nE cE,.slice AN Y cN,.slice AB Z cB,.slice AJ d cJ,.slice AK f cK,.slice AU l cU]] w _
 go_enter func39,ntmps39
 go_upto_region 2 with fail
 rw[HW.out]
 clear HW
 go_wp2_with fail
 go_loopw [4,5,6] (fun i _ _ wx=>∃(j:Nat) (v:Value) (J:List (Led.Entry × Value)),j<=nE/\i=.int .i64 (j:Int)/\eF w wx/\Blk wx w.heap.size [.slice AE nE cE,.slice AN Y cN,.slice AB Z cB,.slice AJ d cJ,.slice AK f cK,.slice AU l cU] 30/\Blk wx (w.heap.size+1) (aB (.slice none 0 0)) 30/\Blk wx (w.heap.size+2) [v,.slice none 0 0,.slice none 0 0,.slice none 0 0,.slice none 0 0,.slice none 0 0] 30 /\
   Hid (wx.ownsRow (w.heap.size+3) 36 5 v j (ah ag J))/\Hid (J.map Prod.fst=(E.map Prod.fst).take j)/\Hid (∀p∈J,wx.ownsRow (w.heap.size+3) 9 1 p.2 p.1.sels.length (ah al p.1.sels))) (fun i _ _ _=>nE-(intOf i).toNat)
 case atStart=>exact⟨0,_,[],by omega,rfl,AQ,B0,B1,B2,eA (World.ownsRow_nil _ _ _ _),eA rfl,eA (fun p F=>by cases F)⟩
 case round =>
  clear AQ B0 B1 B2 Bp;obtain⟨j,v,J,hj,rfl,Ab,B0,B1,B2,HO,HM,HS⟩:=hrel;obtain⟨wx,Bq⟩:∃wx,wx=wr:=⟨_,rfl⟩;subst Bq;have BW:w.heap.size+3<=wx.heap.size:=B2.lt;have q0:wx.cell? ⟨w.heap.size,0,none⟩=some (.slice AE nE cE):=B0.cell 0;by_cases Br:j<nE
  .have Bt:(j:Int)<(nE:Int):=by omega
   have A8:j<E.length:=by rw[A7.out];exact Br
   obtain⟨bk,ok,rfl,BX,Ag⟩:=gZ eE A8;have AR:=Ag wx Ab;have Ah:=List.getElem_mem A8;obtain⟨As,D,c7,AS,fs,ts⟩:=(AO.out _ Ah).below Ab;have AT:=Bm.out _ Ah;have AA:Hid ((E.map Prod.fst).take (j+1)=(E.map Prod.fst).take j++[E[j].1]):=eA (by rw[List.take_succ_eq_append_getElem (by rw[List.length_map];exact A8),List.getElem_map])
   generalize E[j]=p at *;obtain⟨x,sv⟩:=p;dsimp only at AS ts AT AA
   subst AS;have Bu:x.sels.length=D:=ts.len;have BY:D<=1000:=by omega
   have Bv:=eA Bu;obtain⟨Ae,B3⟩:=n9 (Blk.new wx [.int .i64 0,.string ⟨#[]⟩,.string ⟨#[]⟩,.int .i64 0,.slice none 0 0] 36) rfl (vs:=ag (x,.slice As D c7)) rfl (gL _ rfl);have Ae:(stEnt (.pointer (some ⟨wx.heap.size,0,none⟩)) (.agg (ag (x,.slice As D c7)).toArray)).run prog (wx.alloc (.cells #[.int .i64 0,.string ⟨#[]⟩,.string ⟨#[]⟩,.int .i64 0,.slice none 0 0] 36))=.ok () ((wx.alloc (.cells #[.int .i64 0,.string ⟨#[]⟩,.string ⟨#[]⟩,.int .i64 0,.slice none 0 0] 36)).setCells wx.heap.size 0 (ag (x,.slice As D c7))):=Ae;have AV:Chg [] wx ((wx.alloc (.cells #[.int .i64 0,.string ⟨#[]⟩,.string ⟨#[]⟩,.int .i64 0,.slice none 0 0] 36)).setCells wx.heap.size 0 (ag (x,.slice As D c7))):=((Chg.refl _ _).alloc _).setCells _ (.inr eH);have y:=AV.below (fun _ h=>by cases h);have Av:Blk ((wx.alloc (.cells #[.int .i64 0,.string ⟨#[]⟩,.string ⟨#[]⟩,.int .i64 0,.slice none 0 0] 36)).setCells wx.heap.size 0 (ag (x,.slice As D c7))) wx.heap.size (ag (x,.slice As D c7)) 36:=B3;generalize (wx.alloc (.cells #[.int .i64 0,.string ⟨#[]⟩,.string ⟨#[]⟩,.int .i64 0,.slice none 0 0] 36)).setCells wx.heap.size 0 (ag (x,.slice As D c7))=w2 at *;clear B3 AV Ag Ah;have q4:w2.cell? ⟨wx.heap.size,4,none⟩=some (.slice As D c7):=Av.cell 4;have AW:Vs w2 w2.heap.size 1 As D (tv x.sels):=Ts.below ts y;have AX:=eA (af HO.out y eH);have AY:Hid (∀p∈J,w2.ownsRow (w.heap.size+3) 9 1 p.2 p.1.sels.length (ah al p.1.sels)):=eA fun p F=>af (HS.out p F) y eH;have D0:=B0.below y;have D1:=B1.below y;have D2:=B2.below y;have Ai:=Ab.trans (y.mono Ab.size);have AZ:w.heap.size+3<=w2.heap.size:=D2.lt;have Bw:0+D<=maxLen:=by unfold maxLen;omega
   have BZ:wx.heap.size<w2.heap.size:=Av.lt;have Ba:v.ownBlock≠some wx.heap.size:=fun e=>by have:=(du HO.out e).2;omega
   clear HO HS B0 B1 B2 y Ab ts;go_upto_region 7 with fail
   clear Ae AR;go_wp2_with (at_builtin;go_must (refine aK w2 rfl (.tmp 19) (.tmp 21) 25 rfl (w.heap.size+3) 9 iS (.string ⟨#[]⟩) 1 16 underlying25 Bo s0 s1 s2 rfl (by omega) _ 0 [] rfl (World.ownsRow_nil _ _ _ _) w2.heap.size _ _ _ (tv x.sels) rfl AW (tv_one _) Bw (by omega) AZ ?_))
   intro G H w3 I _ _ C;have I:w3.ownsRow (w.heap.size+3) 9 1 (.slice G D H) D (tv x.sels):=by simpa using I
   have Bb:Chg [] w2 w3:=iD C;have q:=Bb.below (fun _ h=>by cases h);have A0:=eA (af AX.out q eH);have Aj:Hid (∀p∈J,w3.ownsRow (w.heap.size+3) 9 1 p.2 p.1.sels.length (ah al p.1.sels)):=eA fun p F=>af (AY.out p F) q eH;have C0:=D0.below q;have C1:=D1.below q;have C2:=D2.below q;have C3:=Av.below q;have A2:=Ai.trans (q.mono Ai.size);have x4:w3.cell? ⟨wx.heap.size,4,none⟩=some (.slice As D c7):=C3.cell 4;have Bx:=C3.froz 4;have BV:=q.size;(try rw[Nat.zero_add])
   clear AX AY D0 D1 D2 Av C Bb q Ai q4 AW;go_upto_region 9 with fail
   have Bc:Blk (w3.setCell ⟨wx.heap.size,4,none⟩ (.slice G D H)) wx.heap.size (ag (x,.slice G D H)) 36:=C3.set 4 _;have Bd:=C0.set_ne (p:=⟨wx.heap.size,4,none⟩) (by simp;omega) (.slice G D H)
   have Be:=C1.set_ne (p:=⟨wx.heap.size,4,none⟩) (by simp;omega) (.slice G D H)
   have Aw:=C2.set_ne (p:=⟨wx.heap.size,4,none⟩) (by simp;omega) (.slice G D H)
   have Ac:=eA (dv (a:=⟨wx.heap.size,4,none⟩) (x:=.slice G D H) A0.out Ba);have A3:Hid (∀p∈J,(w3.setCell ⟨wx.heap.size,4,none⟩ (.slice G D H)).ownsRow (w.heap.size+3) 9 1 p.2 p.1.sels.length (ah al p.1.sels)):=eA fun p F=>dv (Aj.out p F) (ax (Aj.out p F) C3 (by decide));have Ak:=dv (a:=⟨wx.heap.size,4,none⟩) (x:=.slice G D H) I (ax I C3 (by decide));have A4:=A2.setCell (p:=⟨wx.heap.size,4,none⟩) (by simp;omega) (.slice G D H)
   generalize w3.setCell ⟨wx.heap.size,4,none⟩ (.slice G D H)=w4 at *;clear C0 C1 C2 C3 A0 Aj I x4 Bx A2;have y0:w4.cell? ⟨w.heap.size+2,0,none⟩=some v:=Aw.cell 0;have Bf:(gz (.pointer (some ⟨wx.heap.size,0,none⟩))).run prog w4=.ok (.agg #[.int .i64 x.n,.string (str x.path),.string (str x.parent),.int .i64 x.ttl,.slice G D H]) w4:=eT Bc rfl;have Bg:Vs (w4.alloc (.cells #[.int .i64 x.n,.string (str x.path),.string (str x.parent),.int .i64 x.ttl,.slice G D H] 36)) (w4.alloc (.cells #[.int .i64 x.n,.string (str x.path),.string (str x.parent),.int .i64 x.ttl,.slice G D H] 36)).heap.size 5 (some ⟨w4.heap.size,0,none⟩) 1 (ag (x,.slice G D H)):=mt (Blk.new w4 (ag (x,.slice G D H)) 36) rfl;have By:w.heap.size+3<=w4.heap.size:=Aw.lt;have Bh:j+1<=maxLen:=by unfold maxLen;omega
   go_wp2_with (at_builtin;go_must (refine aK (w4.alloc (.cells #[.int .i64 x.n,.string (str x.path),.string (str x.parent),.int .i64 x.ttl,.slice G D H] 36)) rfl (.tmp 26) (.tmp 28) 23 rfl (w.heap.size+3) 36 iE (.agg #[.int .i64 0,.string ⟨#[]⟩,.string ⟨#[]⟩,.int .i64 0,.slice none 0 0]) 5 72 underlying23 Bn e0 e1 e2 rfl (by omega) _ _ _ rfl (Ac.out.alloc _) _ _ 1 _ (ag (x,.slice G D H)) rfl Bg (gL _ rfl) Bh (by omega) (by simp;omega) ?_))
   intro A9 c9 w6 Al _ _ C;have Am:Below (w.heap.size+3) w4 w6:=Mem.aH ((Below.refl (w.heap.size+3) w4).alloc By _) C (by simp;omega) (Ac.out.alloc _)
   have ba:eF w4 (w4.alloc (.cells #[.int .i64 x.n,.string (str x.path),.string (str x.parent),.int .i64 x.ttl,.slice G D H] 36)):=eI;have A5:Hid (∀p∈J++[(x,Value.slice G D H)],w6.ownsRow (w.heap.size+3) 9 1 p.2 p.1.sels.length (ah al p.1.sels)):=eA fun p F=>by
    have h4:w4.ownsRow (w.heap.size+3) 9 1 p.2 p.1.sels.length (ah al p.1.sels):=by
     rcases List.mem_append.1 F with F|F
     .exact A3.out p F
     .rw [List.mem_singleton] at F
      subst F;show w4.ownsRow (w.heap.size+3) 9 1 (.slice G D H) x.sels.length (ah al x.sels)
      rw[Bv.out,ke];exact Ak
    have h5:=af h4 ba eH;refine pD h5 C (fun g hg=>?_);rcases dw h4 Ac.out (by decide) with h9|h9
    .rw [h9] at hg;cases hg
    .exact fun e=>h9 (hg.trans e.symm)
   have F0:=Bd.older Am (by omega);have F1:=Be.older Am (by omega);have F2:=Aw.older Am (by omega);have z0:w6.cell? ⟨w.heap.size+2,0,none⟩=some v:=F2.cell 0;have Ca:=F2.froz 0;have G0:=F0.set_ne (p:=⟨w.heap.size+2,0,none⟩) (by simp) (.slice A9 (j+1) c9);have G1:=F1.set_ne (p:=⟨w.heap.size+2,0,none⟩) (by simp) (.slice A9 (j+1) c9);have G2:Blk (w6.setCell ⟨w.heap.size+2,0,none⟩ (.slice A9 (j+1) c9)) (w.heap.size+2) [.slice A9 (j+1) c9,.slice none 0 0,.slice none 0 0,.slice none 0 0,.slice none 0 0,.slice none 0 0] 30:=F2.set 0 _;have Bi:=ownsRow_setCell_below Al (a:=⟨w.heap.size+2,0,none⟩) (by simp) (.slice A9 (j+1) c9);have Bz:Hid ((w6.setCell ⟨w.heap.size+2,0,none⟩ (.slice A9 (j+1) c9)).ownsRow (w.heap.size+3) 36 5 (.slice A9 (j+1) c9) (j+1) (ah ag (J++[(x,Value.slice G D H)]))):=eA (by
    rw[show ah ag (J++[(x,Value.slice G D H)])=ah ag J++ag (x,.slice G D H) by unfold ah;simp]
    exact Bi)
   have B4:Hid (∀p∈J++[(x,Value.slice G D H)],(w6.setCell ⟨w.heap.size+2,0,none⟩ (.slice A9 (j+1) c9)).ownsRow (w.heap.size+3) 9 1 p.2 p.1.sels.length (ah al p.1.sels)):=eA fun p F=>ownsRow_setCell_below (A5.out p F) (a:=⟨w.heap.size+2,0,none⟩) (by simp) _;have B5:Hid ((J++[(x,Value.slice G D H)]).map Prod.fst=(E.map Prod.fst).take (j+1)):=eA (by rw[List.map_append,HM.out,AA.out];rfl)
   have Bj:=(A4.trans (Am.mono (by omega))).setCell (p:=⟨w.heap.size+2,0,none⟩) (by simp) (.slice A9 (j+1) c9);clear Al Bi C Am ba A5 A3 Ac Ak Bd Be Aw Bc F0 F1 F2 Bg y0 A4 Bf HM AA;go_wp2_with fail
   go_roundw
   case rel=>exact⟨j+1,_,_,by omega,by go_num,Bj,G0,G1,G2,Bz,B5,B4⟩
   case measure=>simp[intOf];omega
  .have Bt:¬(j:Int)<(nE:Int):=by omega
   have B6:=eA (show j=nE by omega);have An:Hid (J.map Prod.fst=L.entries):=eA (by rw[HM.out,List.take_of_length_le (by rw[List.length_map,A7.out];omega),Ax.out])
   have C0:Cp w wx _ _ _ (fun e k v' n xs=>(e=36/\k=5/\v'=v/\n=j/\xs=ah ag J)\/∃p∈J,e=9/\k=1/\v'=p.2/\n=p.1.sels.length/\xs=ah al p.1.sels):=⟨Ab,B0,B1,B2,fun e k v' n xs h=>by
    rcases h with⟨rfl,rfl,rfl,rfl,rfl⟩|⟨p,F,rfl,rfl,rfl,rfl,rfl⟩
    .exact HO.out
    .exact HS.out p F⟩
   clear HM HO Ab B0 B1 B2 HS;have B7:wx.cell? ⟨w.heap.size,1,none⟩=some (.slice AN Y cN):=C0.b0.cell 1;have B8:wx.cell? ⟨w.heap.size+2,1,none⟩=some (.slice none 0 0):=C0.b2.cell 1;go_wp2_with (at_builtin;go_must (refine lF iz underlying24 (w.heap.size+3) wx (ah ae L.nodes) C0.b2.lt (Es.below eN C0.hb) (qM _) (by omega) (.tmp 32) (.tmp 34) rfl rfl rfl rfl ?_))
   intro K M y1 B C;obtain⟨BA,BB,C1⟩:=C0.step B C (i:=1) rfl;clear B7 B8 B C C0;go_upto_region 11 with fail
   generalize y1.setCell ⟨w.heap.size+2,1,none⟩ (.slice K Y M)=AC at *;clear BA BB;have BC:AC.cell? ⟨w.heap.size,2,none⟩=some (.slice AB Z cB):=C1.b0.cell 2;have BD:AC.cell? ⟨w.heap.size+2,2,none⟩=some (.slice none 0 0):=C1.b2.cell 2;go_wp2_with (at_builtin;go_must (refine lF gQ underlying25 (w.heap.size+3) AC (ah al L.bans) C1.b2.lt (by rw[ke];exact Ts.below eB C1.hb) (pL _) (by omega) (.tmp 38) (.tmp 40) rfl rfl rfl rfl ?_))
   intro r t y2 B C;obtain⟨BE,BF,C2⟩:=C1.step B C (i:=2) rfl;clear BC BD B C C1;go_upto_region 12 with fail
   generalize y2.setCell ⟨w.heap.size+2,2,none⟩ (.slice r Z t)=AD at *;clear BE BF;have BG:AD.cell? ⟨w.heap.size,3,none⟩=some (.slice AJ d cJ):=C2.b0.cell 3;have BH:AD.cell? ⟨w.heap.size+2,3,none⟩=some (.slice none 0 0):=C2.b2.cell 3;go_wp2_with (at_builtin;go_must (refine lF nz underlying26 (w.heap.size+3) AD (ah vq L.joins) C2.b2.lt (Es.below eJ C2.hb) (one_join _) (by omega) (.tmp 44) (.tmp 46) rfl rfl rfl rfl ?_))
   intro N O y3 B C;obtain⟨BI,BJ,C3⟩:=C2.step B C (i:=3) rfl;clear BG BH B C C2;go_upto_region 13 with fail
   generalize y3.setCell ⟨w.heap.size+2,3,none⟩ (.slice N d O)=AF at *;clear BI BJ;have BK:AF.cell? ⟨w.heap.size,4,none⟩=some (.slice AK f cK):=C3.b0.cell 4;have BL:AF.cell? ⟨w.heap.size+2,4,none⟩=some (.slice none 0 0):=C3.b2.cell 4;go_wp2_with (at_builtin;go_must (refine lF kC underlying27 (w.heap.size+3) AF (ah ar L.keys) C3.b2.lt (Es.below eK C3.hb) (pM _) (by omega) (.tmp 50) (.tmp 52) rfl rfl rfl rfl ?_))
   intro Q R y4 B C;obtain⟨BM,BN,C4⟩:=C3.step B C (i:=4) rfl;clear BK BL B C C3;go_upto_region 14 with fail
   generalize y4.setCell ⟨w.heap.size+2,4,none⟩ (.slice Q f R)=AG at *;clear BM BN;have BO:AG.cell? ⟨w.heap.size,5,none⟩=some (.slice AU l cU):=C4.b0.cell 5;have BP:AG.cell? ⟨w.heap.size+2,5,none⟩=some (.slice none 0 0):=C4.b2.cell 5;go_wp2_with (at_builtin;go_must (refine lF iA underlying28 (w.heap.size+3) AG (ah ai U) C4.b2.lt (Es.below eU C4.hb) AP.out (by omega) (.tmp 56) (.tmp 58) rfl rfl rfl rfl ?_))
   intro T V y5 B C;obtain⟨BQ,BR,C5⟩:=C4.step B C (i:=5) rfl;clear BO BP B C C4;go_upto_region 15 with fail
   generalize y5.setCell ⟨w.heap.size+2,5,none⟩ (.slice T l V)=X at *;clear BQ BR;have Ad:=C5.own _ _ _ _ _ (.inl (.inl (.inl (.inl (.inl (.inl ⟨rfl,rfl,rfl,rfl,rfl⟩))))));have Ao:=C5.own _ _ _ _ _ (.inl (.inl (.inl (.inl (.inr ⟨rfl,rfl,rfl,rfl,rfl⟩)))));have A6:=C5.own _ _ _ _ _ (.inl (.inl (.inl (.inr ⟨rfl,rfl,rfl,rfl,rfl⟩))));have Ap:=C5.own _ _ _ _ _ (.inl (.inl (.inr ⟨rfl,rfl,rfl,rfl,rfl⟩)));have Aq:=C5.own _ _ _ _ _ (.inl (.inr ⟨rfl,rfl,rfl,rfl,rfl⟩));have Ar:=C5.own _ _ _ _ _ (.inr ⟨rfl,rfl,rfl,rfl,rfl⟩);have Bk:∀p∈J,X.ownsRow (w.heap.size+3) 9 1 p.2 p.1.sels.length (ah al p.1.sels):=fun p F=>C5.own _ _ _ _ _ (.inl (.inl (.inl (.inl (.inl (.inr ⟨p,F,rfl,rfl,rfl,rfl,rfl⟩))))));have z:=C5.hb;have AH:=C5.b1;have D2:Blk X (w.heap.size+2) [v,.slice K Y M,.slice r Z t,.slice N d O,.slice Q f R,.slice T l V] 30:=C5.b2;have Ag:=cY D2 rfl;have AI:v.oneCell'=true:=by
    obtain⟨A,c,rfl,_⟩:=aj Ad;rfl
   obtain⟨Ae,B9⟩:=bX AH rfl (vs:=[v,.slice K Y M,.slice r Z t,.slice N d O,.slice Q f R,.slice T l V]) rfl (by
    intro u hu;simp only[List.mem_cons,List.not_mem_nil,or_false] at hu;rcases hu with rfl|rfl|rfl|rfl|rfl|rfl
    .exact AI
    all_goals rfl)
   have Ag:(gH (.pointer (some ⟨w.heap.size+2,0,none⟩))).run prog X=.ok (.agg #[v,.slice K Y M,.slice r Z t,.slice N d O,.slice Q f R,.slice T l V]) X:=Ag;have Ae:(ir (.pointer (some ⟨w.heap.size+1,0,none⟩)) (.agg #[v,.slice K Y M,.slice r Z t,.slice N d O,.slice Q f R,.slice T l V])).run prog X=.ok () (X.setCells (w.heap.size+1) 0 [v,.slice K Y M,.slice r Z t,.slice N d O,.slice Q f R,.slice T l V]):=Ae;have BS:J.length=j:=by
    have h1:=congrArg List.length An.out;have h2:=congrArg List.length Ax.out;rw[List.length_map] at h1 h2;have h3:=A7.out;have h4:=B6.out;omega
   have Bl:Hid (Rk w.heap.size X v (.slice K Y M) (.slice r Z t) (.slice N d O) (.slice Q f R) (.slice T l V) L J U):=by
    obtain⟨l1,l2,l3,l4,l5⟩:=HL.out;refine eA ⟨?_,?_,?_,?_,?_,?_,An.out,Ay.out,fun p F=>.inr (aG (Bk p F) (by omega)),fun p F=>(Az.out p F).chg (Chg.of_below (S:=[]) z) (fun s hs=>by cases hs) eH⟩
    .rw [BS];exact aG Ad (by omega)
    .rw [l1];exact aG Ao (by omega)
    .rw [l2];exact aG A6 (by omega)
    .rw [l3];exact aG Ap (by omega)
    .rw [l4];exact aG Aq (by omega)
    .rw [l5];exact aG Ar (by omega)
   have AL:Chg [w.heap.size+1] X (X.setCells (w.heap.size+1) 0 [v,.slice K Y M,.slice r Z t,.slice N d O,.slice Q f R,.slice T l V]):=(Chg.refl _ _).setCells _ (.inl (by simp));have Au:∀u∈[v,Value.slice K Y M,.slice N d O,.slice Q f R,.slice T l V],∀g,u.ownBlock=some g->w.heap.size+3<=g:=by
    intro u hu g hg;simp only[List.mem_cons,List.not_mem_nil,or_false] at hu;rcases hu with rfl|rfl|rfl|rfl|rfl
    .exact(du Ad hg).1
    .exact(du Ao hg).1
    .exact(du Ap hg).1
    .exact(du Aq hg).1
    .exact(du Ar hg).1
   have BT:=eA (Bl.out.chg AL (Far.one (by omega) AH (by decide)) (by have:=z.size;omega) (fun u hu g hg=>by
    have:=Au u hu g hg;simp
    omega))
   have BU:eF w (X.setCells (w.heap.size+1) 0 [v,.slice K Y M,.slice r Z t,.slice N d O,.slice Q f R,.slice T l V]):=z.trans (AL.below' z.size (by simp));have hH:=B9.has (n:=6) rfl;have hA:=B9.arr (n:=6) rfl;clear Bl AL Ad Ao A6 Ap Aq Ar Au Bk z B9 D2 C5 AH An HL Ay Az;go_wp2_with fail
   refine bodyPost_ret (dA (P:=prog) Tryz.results39 _ _ (w.heap.size+1) 0 6 _ rfl underlying30 rfl bT hH) rfl ?_;exact⟨_,_,_,_,_,_,_,congrArg (fun a=>Ending.returned (Value.agg a)) hA,BT.out,BU⟩
end
section
open Go.RowKit Mem Led
theorem ey{α:Type}{enc:α->List Value}{k:Nat}(C:∀x,(enc x).length=k)(h0:0<k){w w':World}{b A n:Nat}{L:List α}(h:Es enc k w (some ⟨b,A,none⟩) n L){i:Nat}(hi:i<L.length)(D:eF w w'){j:Nat}{u:Value}(E:(enc L[i])[j]?=some u) :
  w'.cell? ⟨b,A+i*k+j,none⟩=some u:=by
 obtain⟨b',B,e,F,G⟩:=h.lit C h0 hi
 injection e with e
 injection e with e1 e2 _
 subst e1 e2
 rw[Nat.add_assoc]
 exact(D.cell (p:=⟨b,A+(i*k+j),none⟩) F).trans (G j u E)
theorem strRow_len2(x:Txt):(al x).length=1:=rfl
theorem ri(a b:Txt):Op.bytesLess a b=decide (ord a b<0):=by
 by_cases h:a<b
 .rw [ni h,decide_eq_true (mw.2 h)]
 .rw [nl h,decide_eq_false (fun e=>h (mw.1 e))]
theorem eq_ord(a b:Txt):(a==b)=decide (ord a b=0):=by
 rw[Bool.eq_iff_iff]
 simp[lp]
theorem lV{α:Type}{c:α->α->Int}{x y:α}{B:Bool}{S T R:List α}{A:Int}(h:Hid (S++aU c x B (y::T)=R))(D:c y x=A):Hid ((S++if (!B&&!decide (A<0)) then [x] else [])++(if decide (A=0) then [] else [y])++aU c x (B||!decide (A<0)) T=R):=eA (by
 have C:=h.out
 rw[aU] at C
 rw[<-C]
 simp only[D,show decide (0<=A)=!decide (A<0) by rw[Bool.eq_iff_iff];simp,List.append_assoc])
theorem mU{α:Type}{c:α->α->Int}{x:α}{A:Bool}{S L R:List α}{n:Nat}(h:Hid (S++aU c x A (L.drop n)=R))(C:L.length<=n):Hid ((if A=true then S else S++[x])=R):=eA (by
 have B:=h.out
 rw[List.drop_eq_nil_of_le C,aU] at B
 rw[<-B]
 cases A<;>simp)
theorem dI{α:Type}{enc:α->List Value}{k A:Nat}{ts e:TypeId}{z:Value}(B:(prog.info? e).map (fun i=>(i.zero,i.size,i.bytes))=some (some z,k,A))(D:prog.underlying ts=some (.slice e))(base:Nat)(W:World)(x:α){sv:Value}{S:List α}
  (M:W.ownsRow base e k sv S.length (ah enc S)) (N:base<=W.heap.size) (O:∀u∈enc x,u.oneCell'=true) (Z:S.length<=3000) {ops:Array Oper} {rest:List Oper} {o:Oper} {a:Act} {Q:Exit->Act->World->Prop} (s y:Operand) (E:o.guard=none)
  (R:o.op=.call { callee:=.builtin .append,args:=#[s,y],argTypes:=#[ts,ts] }) (T:a.eval s=sv) (U:a.eval y=.slice (some ⟨W.heap.size,0,none⟩) 1 1)
  (h:∀v w',Hid (w'.ownsRow base e k v (S.length+1) (ah enc (S++[x])))->Below base W w'->wpList prog ops Q rest (a.put o.dst v) w')
  (hx:(enc x).length=k:=by rfl) (V:z.cells.size=k:=by rfl) (h0:0<k:=by decide) (F:A<=1000:=by decide):wpList prog ops Q (o::rest) a (W.alloc (.cells (enc x).toArray e)):=by
 obtain⟨X,G,H,I,J⟩:=an B
 have Y:=Blk.new W (enc x) e
 have K:Vs (W.alloc (.cells (enc x).toArray e)) (W.alloc (.cells (enc x).toArray e)).heap.size k (some ⟨W.heap.size,0,none⟩) 1 (enc x):=mt Y (by rw[Nat.one_mul];exact hx)
 refine aK _ E s y ts R base e X z k A D G H I J V h0 sv _ _ T (M.alloc _) _ _ _ _ _ U K O (by unfold maxLen;omega) (Nat.le_trans (Nat.mul_le_mul (show S.length+1<=3001 by omega) F) (by decide)) (by simp;omega) ?_
 intro b c w' C _ _ L
 refine h _ _ (eA ?_) (Mem.aH ((Below.refl base W).alloc N _) L (by simp;omega) (M.alloc _))
 rw[show ah enc (S++[x])=ah enc S++enc x by rw[aT];simp[ah]]
 exact C
theorem rows_es(w:World)(A:Option Addr)(n:Nat)(L:List Txt):Es al 1 w A n L=Ts w A n L:=by unfold Es Ts;rw[ke]
theorem scanEnt_any(A:Option Addr)(n c:Nat)(L:List (Led.Entry × Value))(x:Led.Entry × Value)(w:World)(h:Es ag 5 w A n L)(hn:n<=1000)(h1:∀y∈L,∀u∈ag y,u.oneCell'=true)(hx:∀u∈ag x,u.oneCell'=true) :
  Calls prog 71 #[.slice A n c,.agg (ag x).toArray] w fun e w'=>∃v,e=.returned v/\w'.ownsRow w.heap.size 36 5 v (aU (fun a b:Led.Entry × Value=>cE a.1 b.1) x false L).length (ah ag (aU (fun a b:Led.Entry × Value=>cE a.1 b.1) x false L))/\eF w w':=by
 obtain⟨i0,hi,i1,i2,i3⟩:=an gR
 have HL:=eA (h.len bf (by omega))
 have HX:=eA hx
 have HO:=eA h1
 obtain⟨W,hW⟩:=eC (w.alloc (.cells (ag x).toArray 36))
 have B:Blk W w.heap.size (ag x) 36:=by rw[<-hW];exact Blk.new _ _ _
 have H:eF w W:=eG hW
 have HW:Hid (w.alloc (.cells #[.int .i64 x.1.n,.string (str x.1.path),.string (str x.1.parent),.int .i64 x.1.ttl,x.2] 36)=W):=eA hW
 clear hW hx h1
 show Calls prog 71 #[.slice A n c,.agg #[.int .i64 x.1.n,.string (str x.1.path),.string (str x.1.parent),.int .i64 x.1.ttl,x.2]] w _
 go_enter func71,ntmps71
 go_upto_region 1 with fail
 rw[HW.out]
 clear HW
 go_wp2_with fail
 go_loopg [5,6,7] n (fun g s d i wr=>∃(j:Nat) (F:Bool) (S:List (Led.Entry × Value)) (sv:Value),j<=n/\g=n-j/\i=.int .i64 (j:Int)/\d=.bool F/\sv=s/\S.length<=2*j/\eF w wr/\Blk wr w.heap.size (ag x) 36/\Hid (wr.ownsRow (w.heap.size+1) 36 5 sv S.length (ah ag S))/\Hid (S++aU (fun a b:Led.Entry × Value=>cE a.1 b.1) x F (L.drop j)=aU (fun a b:Led.Entry × Value=>cE a.1 b.1) x false L))
 case atStart=>exact⟨0,false,[],_,by omega,by omega,rfl,rfl,rfl,by simp,H,B,eA (World.ownsRow_nil _ _ _ _),eA rfl⟩
 case round =>
  clear B H;obtain⟨j,F,S,sv,hj,rfl,rfl,rfl,rfl,Ak,H,B,Y,Z⟩:=hrel;have Ab:(w.heap.size+1)<=wr.heap.size:=B.lt;by_cases Ac:j<n
  .have Ad:(j:Int)<(n:Int):=by omega
   have I:j<L.length:=by rw[HL.out];exact Ac
   have f:=List.drop_eq_getElem_cons I;have HY:=eA (HO.out _ (List.getElem_mem I));obtain⟨b,J,rfl,Al,k⟩:=gZ h I;have l:∀w',eF w w'->w'.cell? ⟨b,J+j*5,none⟩=some (.int .i64 L[j].1.n):=fun w' H=>ey bf (by omega) h I H (j:=0) rfl;generalize L[j]=y at *;rw[f] at Z;have m:=eA l;have Ae:=eA k;clear f l k;obtain⟨N,O⟩:=eD ((fun a b:Led.Entry × Value=>cE a.1 b.1) y x);have Q:y.1.n-x.1.n=N:=O.out;have e1:decide (x.1.n<=y.1.n)=!decide (N<0):=by rw[<-Q,<-decide_not,decide_eq_decide];omega
   have e2:(y.1.n==x.1.n)=decide (N=0):=by rw[<-Q,Bool.eq_iff_iff,beq_iff_eq,decide_eq_true_eq];omega
   clear Q;have E:=lV Z O.out;clear Z O;have f0:∀p,(ab wr p).cell? ⟨b,J+j*5,none⟩=some (.int .i64 y.1.n):=fun p=>m.out _ (H.trans ((aa wr p).mono H.size));have f1:∀p,(ab wr p).cell? ⟨w.heap.size,0,none⟩=some (.int .i64 x.1.n):=fun p=>(B.below (aa wr p)).cell 0;go_upto_region 6 with fail
   go_cut [25] (fun t wy=>t=.bool (!F&&!decide (N<0))/\eF wr wy)
   case first =>
    cases F
    all_goals
     refine au ?_;repeat (go_big_quiet_step (fail))
     refine wpQuiet_nil ?_;rintro _ ⟨p,rfl⟩;have G:=aa wr p;generalize ab wr p=o at *;(try rw[ak])
     (try go_wp2_with fail)
     go_meet
     case rel=>exact⟨rfl,G⟩
   case rest =>
    obtain⟨rfl,K⟩:=hcut;have C:=H.trans (K.mono H.size);have M:=B.below K;have V:=eA (af Y.out K eH);clear f0 f1 K H Y B;obtain⟨X,D⟩:=eD ((!F&&!decide (N<0)));have q:Hid ((F||!decide (N<0))=(F||X)):=eA (by rw[<-D.out];cases F<;>simp)
    rw[D.out,q.out] at E;rw[D.out];have Af:Hid (X=true->F=false):=eA (fun h=>by rw[<-D.out] at h;cases F<;>simp_all)
    clear D q;go_upto_if 25 with fail
    go_cut [5,6] (fun s d wy=>∃(R:List (Led.Entry × Value)) (sv2:Value),d=.bool (F||X)/\sv2=s/\Hid (R=S++if X then [x] else [])/\R.length<=2*j+1/\eF w wy/\Blk wy w.heap.size (ag x) 36/\Hid (wy.ownsRow (w.heap.size+1) 36 5 sv2 R.length (ah ag R)))
    case first =>
     cases X
     .go_wp2_with fail
      go_meet
      case rel=>exact⟨S,sv,by simp,rfl,eA (by simp),by omega,C,M,V⟩
     .have Ag:=Af.out rfl
      subst Ag;have hl:(gz (.pointer (some ⟨w.heap.size,0,none⟩))).run prog wc=.ok (.agg #[.int .i64 x.1.n,.string (str x.1.path),.string (str x.1.parent),.int .i64 x.1.ttl,x.2]) wc:=eT M rfl;have r:(w.heap.size+1)<=wc.heap.size:=M.lt;go_wp2_with (at_builtin;go_must (refine dI gR underlying23 (w.heap.size+1) wc x V.out r HX.out (by omega) (.tmp 26) (.tmp 28) rfl rfl rfl rfl ?_))
      intro v1 w1 O1 hd;have D:=C.trans (hd.mono (by omega));have B1:=M.older hd (by omega);clear hd r hl;go_wp2_with fail
      go_meet
      case rel=>exact⟨S++[x],_,rfl,rfl,eA rfl,by simp;omega,D,B1,eA (by rw[List.length_append];exact O1.out)⟩
    case rest =>
     clear C V M;obtain⟨R,sv2,rfl,rfl,z,Am,C,M,V⟩:=hcut;have T:=E.out;rw[<-z.out] at T;have E:=eA T;clear T z;have f0:∀p,(ab wc p).cell? ⟨b,J+j*5,none⟩=some (.int .i64 y.1.n):=fun p=>m.out _ (C.trans ((aa wc p).mono C.size));have f1:∀p,(ab wc p).cell? ⟨w.heap.size,0,none⟩=some (.int .i64 x.1.n):=fun p=>(M.below (aa wc p)).cell 0;go_upto_region 9 with fail
     refine au ?_;repeat (go_big_quiet_step (fail))
     refine wpQuiet_nil ?_;rintro _ ⟨p,rfl⟩;have G:=aa wc p;have U:=C.trans (G.mono C.size);have B3:=M.below G;have O3:=eA (af V.out G eH);generalize ab wc p=o at *;clear f0 f1 G C V M;obtain⟨d2,Ah⟩:=eD ((F||X));rw[Ah.out] at E ⊢
     cases hq:decide (N=0)
     .rw [hq] at E e2
      have hl:(gz (.pointer (some ⟨b,J+j*5,none⟩))).run prog o=.ok (.agg #[.int .i64 y.1.n,.string (str y.1.path),.string (str y.1.parent),.int .i64 y.1.ttl,y.2]) o:=Ae.out _ U;have r:(w.heap.size+1)<=o.heap.size:=B3.lt;go_wp2_with (at_builtin;go_must (refine dI gR underlying23 (w.heap.size+1) o y O3.out r HY.out (by omega) (.tmp 38) (.tmp 43) rfl rfl rfl rfl ?_))
      intro v4 w4 O4 hd;have Ai:=U.trans (hd.mono (by omega));have B4:=B3.older hd (by omega);clear hd r hl;go_wp2_with fail
      go_roundg (n-(j+1))
      case measure=>omega
      case rel=>exact⟨j+1,d2,R++[y],_,by omega,by omega,by go_num,rfl,rfl,by simp;omega,Ai,B4,eA (by rw[List.length_append];exact O4.out),E⟩
     .rw [hq] at E e2
      go_wp2_with fail
      go_roundg (n-(j+1))
      case measure=>omega
      case rel=>exact⟨j+1,d2,R,sv2,by omega,by omega,by go_num,rfl,rfl,by omega,U,B3,O3,eA (by simpa using E.out)⟩
  .have Ad:¬(j:Int)<(n:Int):=by omega
   have Aa:=mU Z (by rw[HL.out];omega)
   have An:=eA (show j=n by omega)
   cases F
   .skip
    have Aj:(gz (.pointer (some ⟨w.heap.size,0,none⟩))).run prog wr=.ok (.agg #[.int .i64 x.1.n,.string (str x.1.path),.string (str x.1.parent),.int .i64 x.1.ttl,x.2]) wr:=eT B rfl;go_wp2_with (at_builtin;go_must (refine dI gR underlying23 (w.heap.size+1) wr x Y.out Ab HX.out (by omega) (.tmp 47) (.tmp 49) rfl rfl rfl rfl ?_))
    intro v1 w1 O1 hd;have D:=H.trans (hd.mono (by omega));clear hd Y Z B Aj;go_wp2_with fail
    go_ret;exact⟨_,rfl,by rw[<-Aa.out,if_neg (by simp),List.length_append];exact aG O1.out (by omega),D⟩
   .skip
    go_wp2_with fail
    go_ret;exact⟨_,rfl,by rw[<-Aa.out,if_pos (by simp)];exact aG Y.out (by omega),H⟩
theorem oZ(A:Option Addr)(n c:Nat)(L:List (Led.Node))(x:Led.Node)(C:Bool)(w:World)(h:Es ae 5 w A n L)(hn:n<=1000)(h1:∀y∈L,∀u∈ae y,u.oneCell'=true)(hx:∀u∈ae x,u.oneCell'=true) :
  Calls prog 119 #[.slice A n c,.agg (ae x).toArray,.bool C] w fun e w'=>∃v,e=.returned v/\w'.ownsRow w.heap.size 40 5 v (aU cN x C L).length (ah ae (aU cN x C L))/\eF w w':=by
 obtain⟨i0,hi,i1,i2,i3⟩:=an iz
 have HL:=eA (h.len aM (by omega))
 have HX:=eA hx
 have HO:=eA h1
 obtain⟨W,hW⟩:=eC (w.alloc (.cells (ae x).toArray 40))
 have B:Blk W w.heap.size (ae x) 40:=by rw[<-hW];exact Blk.new _ _ _
 have I:eF w W:=eG hW
 have HW:Hid (w.alloc (.cells #[.string (str x.name),.string (str x.key),.int .i64 x.expires,.int .i64 x.seq,.string (str x.doc)] 40)=W):=eA hW
 clear hW hx h1
 show Calls prog 119 #[.slice A n c,.agg #[.string (str x.name),.string (str x.key),.int .i64 x.expires,.int .i64 x.seq,.string (str x.doc)],.bool C] w _
 go_enter func119,ntmps119
 go_upto_region 1 with fail
 rw[HW.out]
 clear HW
 go_wp2_with fail
 go_loopg [7,8,9] n (fun g s d i wr=>∃(j:Nat) (G:Bool) (S:List (Led.Node)) (sv:Value),j<=n/\g=n-j/\i=.int .i64 (j:Int)/\d=.bool G/\sv=s/\S.length<=2*j/\eF w wr/\Blk wr w.heap.size (ae x) 40/\Hid (wr.ownsRow (w.heap.size+1) 40 5 sv S.length (ah ae S))/\Hid (S++aU cN x G (L.drop j)=aU cN x C L))
 case atStart=>exact⟨0,C,[],_,by omega,by omega,rfl,rfl,rfl,by simp,I,B,eA (World.ownsRow_nil _ _ _ _),eA rfl⟩
 case round =>
  clear B I;obtain⟨j,G,S,sv,hj,rfl,rfl,rfl,rfl,Ak,I,B,Y,Z⟩:=hrel;have Ab:(w.heap.size+1)<=wr.heap.size:=B.lt;by_cases Ac:j<n
  .have Ad:(j:Int)<(n:Int):=by omega
   have J:j<L.length:=by rw[HL.out];exact Ac
   have f:=List.drop_eq_getElem_cons J;have HY:=eA (HO.out _ (List.getElem_mem J));obtain⟨b,K,rfl,Al,k⟩:=gY h J;have l:∀w',eF w w'->w'.cell? ⟨b,K+j*5,none⟩=some (.string (str L[j].name)):=fun w' I=>ey aM (by omega) h J I (j:=0) rfl;generalize L[j]=y at *;rw[f] at Z;have m:=eA l;have Ae:=eA k;clear f l k;obtain⟨U,M⟩:=eD (cN y x);have e1:Op.bytesLess y.name x.name=decide (U<0):=by rw[<-M.out];exact ri _ _
   have e2:(y.name==x.name)=decide (U=0):=by rw[<-M.out];exact eq_ord _ _
   have F:=lV Z M.out;clear Z M;have f0:∀p,(ab wr p).cell? ⟨b,K+j*5,none⟩=some (.string (str y.name)):=fun p=>m.out _ (I.trans ((aa wr p).mono I.size));have f1:∀p,(ab wr p).cell? ⟨w.heap.size,0,none⟩=some (.string (str x.name)):=fun p=>(B.below (aa wr p)).cell 0;go_upto_region 6 with fail
   go_cut [28] (fun t wy=>t=.bool (!G&&!decide (U<0))/\eF wr wy)
   case first =>
    cases G
    all_goals
     refine au ?_;repeat (go_big_quiet_step (fail))
     refine wpQuiet_nil ?_;rintro _ ⟨p,rfl⟩;have H:=aa wr p;generalize ab wr p=o at *;(try rw[ak])
     (try go_wp2_with fail)
     go_meet
     case rel=>exact⟨rfl,H⟩
   case rest =>
    obtain⟨rfl,N⟩:=hcut;have D:=I.trans (N.mono I.size);have O:=B.below N;have V:=eA (af Y.out N eH);clear f0 f1 N I Y B;obtain⟨X,E⟩:=eD ((!G&&!decide (U<0)));have q:Hid ((G||!decide (U<0))=(G||X)):=eA (by rw[<-E.out];cases G<;>simp)
    rw[E.out,q.out] at F;rw[E.out];have Af:Hid (X=true->G=false):=eA (fun h=>by rw[<-E.out] at h;cases G<;>simp_all)
    clear E q;go_upto_if 28 with fail
    go_cut [7,8] (fun s d wy=>∃(Q:List (Led.Node)) (sv2:Value),d=.bool (G||X)/\sv2=s/\Hid (Q=S++if X then [x] else [])/\Q.length<=2*j+1/\eF w wy/\Blk wy w.heap.size (ae x) 40/\Hid (wy.ownsRow (w.heap.size+1) 40 5 sv2 Q.length (ah ae Q)))
    case first =>
     cases X
     .go_wp2_with fail
      go_meet
      case rel=>exact⟨S,sv,by simp,rfl,eA (by simp),by omega,D,O,V⟩
     .have Ag:=Af.out rfl
      subst Ag;have hl:(fI (.pointer (some ⟨w.heap.size,0,none⟩))).run prog wc=.ok (.agg #[.string (str x.name),.string (str x.key),.int .i64 x.expires,.int .i64 x.seq,.string (str x.doc)]) wc:=dS O rfl;have r:(w.heap.size+1)<=wc.heap.size:=O.lt;go_wp2_with (at_builtin;go_must (refine dI iz underlying24 (w.heap.size+1) wc x V.out r HX.out (by omega) (.tmp 29) (.tmp 31) rfl rfl rfl rfl ?_))
      intro v1 w1 O1 hd;have E:=D.trans (hd.mono (by omega));have B1:=O.older hd (by omega);clear hd r hl;go_wp2_with fail
      go_meet
      case rel=>exact⟨S++[x],_,rfl,rfl,eA rfl,by simp;omega,E,B1,eA (by rw[List.length_append];exact O1.out)⟩
    case rest =>
     clear D V O;obtain⟨Q,sv2,rfl,rfl,z,Am,D,O,V⟩:=hcut;have R:=F.out;rw[<-z.out] at R;have F:=eA R;clear R z;have f0:∀p,(ab wc p).cell? ⟨b,K+j*5,none⟩=some (.string (str y.name)):=fun p=>m.out _ (D.trans ((aa wc p).mono D.size));have f1:∀p,(ab wc p).cell? ⟨w.heap.size,0,none⟩=some (.string (str x.name)):=fun p=>(O.below (aa wc p)).cell 0;go_upto_region 9 with fail
     refine au ?_;repeat (go_big_quiet_step (fail))
     refine wpQuiet_nil ?_;rintro _ ⟨p,rfl⟩;have H:=aa wc p;have T:=D.trans (H.mono D.size);have B3:=O.below H;have O3:=eA (af V.out H eH);generalize ab wc p=o at *;clear f0 f1 H D V O;obtain⟨d2,Ah⟩:=eD ((G||X));rw[Ah.out] at F ⊢
     cases hq:decide (U=0)
     .rw [hq] at F e2
      have hl:(fI (.pointer (some ⟨b,K+j*5,none⟩))).run prog o=.ok (.agg #[.string (str y.name),.string (str y.key),.int .i64 y.expires,.int .i64 y.seq,.string (str y.doc)]) o:=Ae.out _ T;have r:(w.heap.size+1)<=o.heap.size:=B3.lt;go_wp2_with (at_builtin;go_must (refine dI iz underlying24 (w.heap.size+1) o y O3.out r HY.out (by omega) (.tmp 41) (.tmp 46) rfl rfl rfl rfl ?_))
      intro v4 w4 O4 hd;have Ai:=T.trans (hd.mono (by omega));have B4:=B3.older hd (by omega);clear hd r hl;go_wp2_with fail
      go_roundg (n-(j+1))
      case measure=>omega
      case rel=>exact⟨j+1,d2,Q++[y],_,by omega,by omega,by go_num,rfl,rfl,by simp;omega,Ai,B4,eA (by rw[List.length_append];exact O4.out),F⟩
     .rw [hq] at F e2
      go_wp2_with fail
      go_roundg (n-(j+1))
      case measure=>omega
      case rel=>exact⟨j+1,d2,Q,sv2,by omega,by omega,by go_num,rfl,rfl,by omega,T,B3,O3,eA (by simpa using F.out)⟩
  .have Ad:¬(j:Int)<(n:Int):=by omega
   have Aa:=mU Z (by rw[HL.out];omega)
   have An:=eA (show j=n by omega)
   cases G
   .skip
    have Aj:(fI (.pointer (some ⟨w.heap.size,0,none⟩))).run prog wr=.ok (.agg #[.string (str x.name),.string (str x.key),.int .i64 x.expires,.int .i64 x.seq,.string (str x.doc)]) wr:=dS B rfl;go_wp2_with (at_builtin;go_must (refine dI iz underlying24 (w.heap.size+1) wr x Y.out Ab HX.out (by omega) (.tmp 50) (.tmp 52) rfl rfl rfl rfl ?_))
    intro v1 w1 O1 hd;have E:=I.trans (hd.mono (by omega));clear hd Y Z B Aj;go_wp2_with fail
    go_ret;exact⟨_,rfl,by rw[<-Aa.out,if_neg (by simp),List.length_append];exact aG O1.out (by omega),E⟩
   .skip
    go_wp2_with fail
    go_ret;exact⟨_,rfl,by rw[<-Aa.out,if_pos (by simp)];exact aG Y.out (by omega),I⟩
theorem scanBun_any(A:Option Addr)(n c:Nat)(L:List (Led.Bundle × Value))(x:Led.Bundle × Value)(C:Bool)(w:World)(h:Es ai 3 w A n L)(hn:n<=1000)(h1:∀y∈L,∀u∈ai y,u.oneCell'=true)(hx:∀u∈ai x,u.oneCell'=true) :
  Calls prog 123 #[.slice A n c,.agg (ai x).toArray,.bool C] w fun e w'=>∃v,e=.returned v/\w'.ownsRow w.heap.size 45 3 v (aU (fun a b:Led.Bundle × Value=>cB a.1 b.1) x C L).length (ah ai (aU (fun a b:Led.Bundle × Value=>cB a.1 b.1) x C L))/\eF w w':=by
 obtain⟨i0,hi,i1,i2,i3⟩:=an iA
 have HL:=eA (h.len aQ (by omega))
 have HX:=eA hx
 have HO:=eA h1
 obtain⟨W,hW⟩:=eC (w.alloc (.cells (ai x).toArray 45))
 have B:Blk W w.heap.size (ai x) 45:=by rw[<-hW];exact Blk.new _ _ _
 have I:eF w W:=eG hW
 have HW:Hid (w.alloc (.cells #[.string (str x.1.domain),.int .i64 x.1.number,x.2] 45)=W):=eA hW
 clear hW hx h1
 show Calls prog 123 #[.slice A n c,.agg #[.string (str x.1.domain),.int .i64 x.1.number,x.2],.bool C] w _
 go_enter func123,ntmps123
 go_upto_region 1 with fail
 rw[HW.out]
 clear HW
 go_wp2_with fail
 go_loopg [7,8,9] n (fun g s d i wr=>∃(j:Nat) (G:Bool) (S:List (Led.Bundle × Value)) (sv:Value),j<=n/\g=n-j/\i=.int .i64 (j:Int)/\d=.bool G/\sv=s/\S.length<=2*j/\eF w wr/\Blk wr w.heap.size (ai x) 45/\Hid (wr.ownsRow (w.heap.size+1) 45 3 sv S.length (ah ai S))/\Hid (S++aU (fun a b:Led.Bundle × Value=>cB a.1 b.1) x G (L.drop j)=aU (fun a b:Led.Bundle × Value=>cB a.1 b.1) x C L))
 case atStart=>exact⟨0,C,[],_,by omega,by omega,rfl,rfl,rfl,by simp,I,B,eA (World.ownsRow_nil _ _ _ _),eA rfl⟩
 case round =>
  clear B I;obtain⟨j,G,S,sv,hj,rfl,rfl,rfl,rfl,Ak,I,B,Y,Z⟩:=hrel;have Ab:(w.heap.size+1)<=wr.heap.size:=B.lt;by_cases Ac:j<n
  .have Ad:(j:Int)<(n:Int):=by omega
   have J:j<L.length:=by rw[HL.out];exact Ac
   have f:=List.drop_eq_getElem_cons J;have HY:=eA (HO.out _ (List.getElem_mem J));obtain⟨b,K,rfl,Al,k⟩:=jb h J;have l:∀w',eF w w'->w'.cell? ⟨b,K+j*3,none⟩=some (.string (str L[j].1.domain)):=fun w' I=>ey aQ (by omega) h J I (j:=0) rfl;generalize L[j]=y at *;rw[f] at Z;have m:=eA l;have Ae:=eA k;clear f l k;obtain⟨U,M⟩:=eD ((fun a b:Led.Bundle × Value=>cB a.1 b.1) y x);have e1:Op.bytesLess y.1.domain x.1.domain=decide (U<0):=by rw[<-M.out];exact ri _ _
   have e2:(y.1.domain==x.1.domain)=decide (U=0):=by rw[<-M.out];exact eq_ord _ _
   have F:=lV Z M.out;clear Z M;have f0:∀p,(ab wr p).cell? ⟨b,K+j*3,none⟩=some (.string (str y.1.domain)):=fun p=>m.out _ (I.trans ((aa wr p).mono I.size));have f1:∀p,(ab wr p).cell? ⟨w.heap.size,0,none⟩=some (.string (str x.1.domain)):=fun p=>(B.below (aa wr p)).cell 0;go_upto_region 6 with fail
   go_cut [28] (fun t wy=>t=.bool (!G&&!decide (U<0))/\eF wr wy)
   case first =>
    cases G
    all_goals
     refine au ?_;repeat (go_big_quiet_step (fail))
     refine wpQuiet_nil ?_;rintro _ ⟨p,rfl⟩;have H:=aa wr p;generalize ab wr p=o at *;(try rw[ak])
     (try go_wp2_with fail)
     go_meet
     case rel=>exact⟨rfl,H⟩
   case rest =>
    obtain⟨rfl,N⟩:=hcut;have D:=I.trans (N.mono I.size);have O:=B.below N;have V:=eA (af Y.out N eH);clear f0 f1 N I Y B;obtain⟨X,E⟩:=eD ((!G&&!decide (U<0)));have q:Hid ((G||!decide (U<0))=(G||X)):=eA (by rw[<-E.out];cases G<;>simp)
    rw[E.out,q.out] at F;rw[E.out];have Af:Hid (X=true->G=false):=eA (fun h=>by rw[<-E.out] at h;cases G<;>simp_all)
    clear E q;go_upto_if 28 with fail
    go_cut [7,8] (fun s d wy=>∃(Q:List (Led.Bundle × Value)) (sv2:Value),d=.bool (G||X)/\sv2=s/\Hid (Q=S++if X then [x] else [])/\Q.length<=2*j+1/\eF w wy/\Blk wy w.heap.size (ai x) 45/\Hid (wy.ownsRow (w.heap.size+1) 45 3 sv2 Q.length (ah ai Q)))
    case first =>
     cases X
     .go_wp2_with fail
      go_meet
      case rel=>exact⟨S,sv,by simp,rfl,eA (by simp),by omega,D,O,V⟩
     .have Ag:=Af.out rfl
      subst Ag;have hl:(fo (.pointer (some ⟨w.heap.size,0,none⟩))).run prog wc=.ok (.agg #[.string (str x.1.domain),.int .i64 x.1.number,x.2]) wc:=cR O rfl;have r:(w.heap.size+1)<=wc.heap.size:=O.lt;go_wp2_with (at_builtin;go_must (refine dI iA underlying28 (w.heap.size+1) wc x V.out r HX.out (by omega) (.tmp 29) (.tmp 31) rfl rfl rfl rfl ?_))
      intro v1 w1 O1 hd;have E:=D.trans (hd.mono (by omega));have B1:=O.older hd (by omega);clear hd r hl;go_wp2_with fail
      go_meet
      case rel=>exact⟨S++[x],_,rfl,rfl,eA rfl,by simp;omega,E,B1,eA (by rw[List.length_append];exact O1.out)⟩
    case rest =>
     clear D V O;obtain⟨Q,sv2,rfl,rfl,z,Am,D,O,V⟩:=hcut;have R:=F.out;rw[<-z.out] at R;have F:=eA R;clear R z;have f0:∀p,(ab wc p).cell? ⟨b,K+j*3,none⟩=some (.string (str y.1.domain)):=fun p=>m.out _ (D.trans ((aa wc p).mono D.size));have f1:∀p,(ab wc p).cell? ⟨w.heap.size,0,none⟩=some (.string (str x.1.domain)):=fun p=>(O.below (aa wc p)).cell 0;go_upto_region 9 with fail
     refine au ?_;repeat (go_big_quiet_step (fail))
     refine wpQuiet_nil ?_;rintro _ ⟨p,rfl⟩;have H:=aa wc p;have T:=D.trans (H.mono D.size);have B3:=O.below H;have O3:=eA (af V.out H eH);generalize ab wc p=o at *;clear f0 f1 H D V O;obtain⟨d2,Ah⟩:=eD ((G||X));rw[Ah.out] at F ⊢
     cases hq:decide (U=0)
     .rw [hq] at F e2
      have hl:(fo (.pointer (some ⟨b,K+j*3,none⟩))).run prog o=.ok (.agg #[.string (str y.1.domain),.int .i64 y.1.number,y.2]) o:=Ae.out _ T;have r:(w.heap.size+1)<=o.heap.size:=B3.lt;go_wp2_with (at_builtin;go_must (refine dI iA underlying28 (w.heap.size+1) o y O3.out r HY.out (by omega) (.tmp 41) (.tmp 46) rfl rfl rfl rfl ?_))
      intro v4 w4 O4 hd;have Ai:=T.trans (hd.mono (by omega));have B4:=B3.older hd (by omega);clear hd r hl;go_wp2_with fail
      go_roundg (n-(j+1))
      case measure=>omega
      case rel=>exact⟨j+1,d2,Q++[y],_,by omega,by omega,by go_num,rfl,rfl,by simp;omega,Ai,B4,eA (by rw[List.length_append];exact O4.out),F⟩
     .rw [hq] at F e2
      go_wp2_with fail
      go_roundg (n-(j+1))
      case measure=>omega
      case rel=>exact⟨j+1,d2,Q,sv2,by omega,by omega,by go_num,rfl,rfl,by omega,T,B3,O3,eA (by simpa using F.out)⟩
  .have Ad:¬(j:Int)<(n:Int):=by omega
   have Aa:=mU Z (by rw[HL.out];omega)
   have An:=eA (show j=n by omega)
   cases G
   .skip
    have Aj:(fo (.pointer (some ⟨w.heap.size,0,none⟩))).run prog wr=.ok (.agg #[.string (str x.1.domain),.int .i64 x.1.number,x.2]) wr:=cR B rfl;go_wp2_with (at_builtin;go_must (refine dI iA underlying28 (w.heap.size+1) wr x Y.out Ab HX.out (by omega) (.tmp 50) (.tmp 52) rfl rfl rfl rfl ?_))
    intro v1 w1 O1 hd;have E:=I.trans (hd.mono (by omega));clear hd Y Z B Aj;go_wp2_with fail
    go_ret;exact⟨_,rfl,by rw[<-Aa.out,if_neg (by simp),List.length_append];exact aG O1.out (by omega),E⟩
   .skip
    go_wp2_with fail
    go_ret;exact⟨_,rfl,by rw[<-Aa.out,if_pos (by simp)];exact aG Y.out (by omega),I⟩
theorem scanStr_any(A:Option Addr)(n c:Nat)(L:List (Txt))(x:Txt)(C:Bool)(w:World)(h:Es al 1 w A n L)(hn:n<=1000)(h1:∀y∈L,∀u∈al y,u.oneCell'=true)(hx:∀u∈al x,u.oneCell'=true) :
  Calls prog 120 #[.slice A n c,.string (str x),.bool C] w fun e w'=>∃v,e=.returned v/\w'.ownsRow w.heap.size 9 1 v (aU ord x C L).length (ah al (aU ord x C L))/\eF w w':=by
 obtain⟨i0,hi,i1,i2,i3⟩:=an gQ
 have HL:=eA (h.len strRow_len2 (by omega))
 have HX:=eA hx
 have HO:=eA h1
 have H:eF w w:=Below.refl _ _
 clear hx h1
 go_enter func120,ntmps120
 go_wp2_with fail
 go_loopg [7,8,9] n (fun g s d i wr=>∃(j:Nat) (G:Bool) (S:List (Txt)) (sv:Value),j<=n/\g=n-j/\i=.int .i64 (j:Int)/\d=.bool G/\sv=s/\S.length<=2*j/\eF w wr/\Hid (wr.ownsRow w.heap.size 9 1 sv S.length (ah al S))/\Hid (S++aU ord x G (L.drop j)=aU ord x C L))
 case atStart=>exact⟨0,C,[],_,by omega,by omega,rfl,rfl,rfl,by simp,H,eA (World.ownsRow_nil _ _ _ _),eA rfl⟩
 case round =>
  clear H;obtain⟨j,G,S,sv,hj,rfl,rfl,rfl,rfl,Ai,H,V,X⟩:=hrel;have z:w.heap.size<=wr.heap.size:=H.size;by_cases Aa:j<n
  .have Ab:(j:Int)<(n:Int):=by omega
   have K:j<L.length:=by rw[HL.out];exact Aa
   have Y:=List.drop_eq_getElem_cons K;have HY:=eA (HO.out _ (List.getElem_mem K));have Z:Ts w A n L:=by rw[<-rows_es];exact h
   obtain⟨b,f,rfl,F⟩:=Z.lit (i:=j) K;have Ac:b<w.heap.size:=World.block_lt_of_cell? w _ F;have k:∀w',eF w w'->w'.cell? ⟨b,f+j,none⟩=some (.string (str L[j])):=fun w' H=>(H.cell (p:=⟨b,f+j,none⟩) Ac).trans F;clear Z F;generalize L[j]=y at *;rw[Y] at X;have M:=eA k;clear Y k;obtain⟨R,I⟩:=eD (ord y x);have e1:Op.bytesLess y x=decide (R<0):=by rw[<-I.out];exact ri _ _
   have e2:(y==x)=decide (R=0):=by rw[<-I.out];exact eq_ord _ _
   have D:=lV X I.out;clear X I;have f0:=M.out _ H;go_upto_region 6 with fail
   go_cut [26] (fun t wy=>t=.bool (!G&&!decide (R<0))/\eF wr wy)
   case first =>
    cases G
    all_goals
     go_wp2_with fail
     go_meet
     case rel=>exact⟨rfl,Below.refl _ _⟩
   case rest =>
    obtain⟨rfl,N⟩:=hcut;have E:=H.trans (N.mono H.size);have T:=eA (af V.out N eH);clear f0 N H V;obtain⟨U,B⟩:=eD ((!G&&!decide (R<0)));have l:Hid ((G||!decide (R<0))=(G||U)):=eA (by rw[<-B.out];cases G<;>simp)
    rw[B.out,l.out] at D;rw[B.out];have Ad:Hid (U=true->G=false):=eA (fun h=>by rw[<-B.out] at h;cases G<;>simp_all)
    clear B l;go_upto_if 26 with fail
    go_cut [7,8] (fun s d wy=>∃(O:List (Txt)) (sv2:Value),d=.bool (G||U)/\sv2=s/\Hid (O=S++if U then [x] else [])/\O.length<=2*j+1/\eF w wy/\Hid (wy.ownsRow w.heap.size 9 1 sv2 O.length (ah al O)))
    case first =>
     cases U
     .go_wp2_with fail
      go_meet
      case rel=>exact⟨S,sv,by simp,rfl,eA (by simp),by omega,E,T⟩
     .have Ae:=Ad.out rfl
      subst Ae;have m:w.heap.size<=wc.heap.size:=E.size;go_wp2_with (at_builtin;go_must (refine dI gQ underlying25 w.heap.size wc x T.out m HX.out (by omega) (.tmp 27) (.tmp 29) rfl rfl rfl rfl ?_))
      intro v1 w1 O1 hd;have B:=E.trans (hd.mono (by omega));clear hd m;go_wp2_with fail
      go_meet
      case rel=>exact⟨S++[x],_,rfl,rfl,eA rfl,by simp;omega,B,eA (by rw[List.length_append];exact O1.out)⟩
    case rest =>
     clear E T;obtain⟨O,sv2,rfl,rfl,o,Aj,E,T⟩:=hcut;have Q:=D.out;rw[<-o.out] at Q;have D:=eA Q;clear Q o;have Ak:=M.out _ E;obtain⟨r,Af⟩:∃r,r=wc:=⟨_,rfl⟩;subst Af;have J:=E;have O3:=T;clear E T;obtain⟨d2,Ag⟩:=eD ((G||U));rw[Ag.out] at D ⊢
     cases hq:decide (R=0)
     .rw [hq] at D e2
      have hl:=M.out _ J;have m:w.heap.size<=r.heap.size:=J.size;go_wp2_with (at_builtin;go_must (refine dI gQ underlying25 w.heap.size r y O3.out m HY.out (by omega) (.tmp 37) (.tmp 42) rfl rfl rfl rfl ?_))
      intro v4 w4 O4 hd;have Ah:=J.trans (hd.mono (by omega));clear hd m hl;go_wp2_with fail
      go_roundg (n-(j+1))
      case measure=>omega
      case rel=>exact⟨j+1,d2,O++[y],_,by omega,by omega,by go_num,rfl,rfl,by simp;omega,Ah,eA (by rw[List.length_append];exact O4.out),D⟩
     .rw [hq] at D e2
      go_wp2_with fail
      go_roundg (n-(j+1))
      case measure=>omega
      case rel=>exact⟨j+1,d2,O,sv2,by omega,by omega,by go_num,rfl,rfl,by omega,J,O3,eA (by simpa using D.out)⟩
  .have Ab:¬(j:Int)<(n:Int):=by omega
   have q:=mU X (by rw[HL.out];omega)
   have Al:=eA (show j=n by omega)
   cases G
   .skip
    go_wp2_with (at_builtin;go_must (refine dI gQ underlying25 w.heap.size wr x V.out z HX.out (by omega) (.tmp 46) (.tmp 48) rfl rfl rfl rfl ?_))
    intro v1 w1 O1 hd;have B:=H.trans (hd.mono (by omega));clear hd V X;go_wp2_with fail
    go_ret;exact⟨_,rfl,by rw[<-q.out,if_neg (by simp),List.length_append];exact O1.out,B⟩
   .skip
    go_wp2_with fail
    go_ret;exact⟨_,rfl,by rw[<-q.out,if_pos (by simp)];exact V.out,H⟩
end
section
open Go.RowKit Mem Led
theorem dF(x a b:Int):aD x a b=(decide (a<=x)&&decide (x<=b)):=by unfold aD;simp
theorem rnode_any(n:Led.Node)(w:World)(S:n.name.length<=9223372036854775807):Calls prog 17 #[.agg (ae n).toArray] w fun e w'=>e=.returned (.bool (cH n))/\eF w w':=by
 obtain⟨W,G⟩:=eC (w.alloc (.cells (ae n).toArray 40))
 have C:Blk W w.heap.size (ae n) 40:=by rw[<-G];exact Blk.new w _ _
 have I:eF w W:=eG G
 have J:=ks n.name W S
 have U:W.cell? ⟨w.heap.size,0,none⟩=some (.string (str n.name)):=C.cell 0
 have V:W.cell? ⟨w.heap.size,1,none⟩=some (.string (str n.key)):=C.cell 1
 have X:W.cell? ⟨w.heap.size,2,none⟩=some (.int .i64 n.expires):=C.cell 2
 have Y:W.cell? ⟨w.heap.size,3,none⟩=some (.int .i64 n.seq):=C.cell 3
 have Z:W.cell? ⟨w.heap.size,4,none⟩=some (.string (str n.doc)):=C.cell 4
 have A:cH n=(Ids.agent n.name&&decide ((n.key.length:Int)=32)&&decide (0<=n.expires)&&decide (n.expires<=1099511627776)&&decide (0<=n.seq)&&decide (n.seq<=1099511627776)&&decide ((n.doc.length:Int)<=16)):=by
  unfold cH;rw[dF,dF,show (n.key.length==32)=decide ((n.key.length:Int)=32) by rw[Bool.eq_iff_iff];simp;omega,show decide (n.doc.length<=16)=decide ((n.doc.length:Int)<=16) by rw[Bool.eq_iff_iff];simp;omega]
  simp only[Bool.and_assoc]
 rw[A]
 generalize Ids.agent n.name=L at *
 obtain⟨K,O⟩:=eC (n.key.length)
 obtain⟨D,Q⟩:=eC (n.doc.length)
 have b:(str n.key).size=K:=by rw[aC,O]
 have c:(str n.doc).size=D:=by rw[aC,Q]
 rw[O,Q]
 have M:=eA G
 have B:L=false\/(L=true/\((¬(K:Int)=32)\/((K:Int)=32/\¬0<=n.expires)\/((K:Int)=32/\0<=n.expires/\¬n.expires<=1099511627776)\/((K:Int)=32/\0<=n.expires/\n.expires<=1099511627776/\¬0<=n.seq)\/((K:Int)=32/\0<=n.expires/\n.expires<=1099511627776/\0<=n.seq/\¬n.seq<=1099511627776)
  \/ ((K:Int)=32/\0<=n.expires/\n.expires<=1099511627776/\0<=n.seq/\n.seq<=1099511627776/\¬(D:Int)<=16)\/((K:Int)=32/\0<=n.expires/\n.expires<=1099511627776/\0<=n.seq/\n.seq<=1099511627776/\(D:Int)<=16))):=by
  cases L
  .exact .inl rfl
  .refine .inr ⟨rfl,?_⟩
   omega
 unfold ae tx nm at M ⊢
 clear G A
 go_enter func17,ntmps17
 go_upto_region 1 with fail
 rw[M.out]
 clear M C
 go_wp2_with fail
 refine J.mono ?_
 rintro e d ⟨rfl,rfl⟩
 rcases B with rfl|⟨rfl,E|⟨E,F⟩|⟨E,F,H⟩|⟨E,F,H,N⟩|⟨E,F,H,N,R⟩|⟨E,F,H,N,R,T⟩|⟨E,F,H,N,R,T⟩⟩
 all_goals
  go_wp2_with fail
  go_ret;exact⟨by simp[*]<;>omega,I⟩
theorem rentry_any(e:Led.Entry)(v:Value)(w:World)(hv:br w v e.sels)(hn:e.sels.length<=1000)(hz:∀x∈e.sels,x.length<=9223372036854775807)(V:e.path.length<=9223372036854775807)(r:e.parent.length<=9223372036854775807) :
  Calls prog 16 #[.agg (ag (e,v)).toArray] w fun x w'=>x=.returned (.bool (cq e))/\eF w w':=by
 obtain⟨A,n,c,rfl,hf,ht⟩:=hv
 have Aa:=ht.len
 obtain⟨W,l⟩:=eC (w.alloc (.cells (ag (e,.slice A n c)).toArray 36))
 have s:Blk W w.heap.size (ag (e,.slice A n c)) 36:=by rw[<-l];exact Blk.new w _ _
 have M:eF w W:=eG l
 have B:=rset_any A n c e.sels W (Ts.below ht M) (by omega) hz
 have K:cq e=(((Ids.ej e.sels).2==0)&&decide ((Ids.ej e.sels).1.getD []=e.sels)&&decide (0<((Ids.ej e.sels).1.getD []).length)&&Ids.path e.path&&!Ids.agent e.path&&Ids.path e.parent&&decide (1<=e.n)&&decide (e.n<=1099511627776)&&decide (1<=e.ttl)&&decide (e.ttl<=1000)):=by
  unfold cq;rw[dF,dF];generalize Ids.ej e.sels=S;have L:(S.1.getD []==e.sels)=decide (S.1.getD []=e.sels):=by rw[Bool.eq_iff_iff];simp
  have U:(decide (S.1.getD []=e.sels)&&!e.sels.isEmpty)=(decide (S.1.getD []=e.sels)&&decide (0<(S.1.getD []).length)):=by
   by_cases h:S.1.getD []=e.sels
   .rw [h]
    cases e.sels<;>simp
   .rw [decide_eq_false h]
    rfl
  rw[L];have X:((S.2==0)&&decide (S.1.getD []=e.sels)&&!e.sels.isEmpty)=((S.2==0)&&decide (S.1.getD []=e.sels)&&decide (0<(S.1.getD []).length)):=by rw[Bool.and_assoc,U,Bool.and_assoc]
  rw[X];simp only[Bool.and_assoc]
 rw[K]
 clear K
 unfold vp at B
 generalize hS:(Ids.ej e.sels)=S at *
 obtain⟨S1,F⟩:=S
 dsimp only at B ⊢
 generalize S1.getD []=S' at *
 clear hS
 obtain⟨Y,C⟩:∃Y,decide (S'=e.sels)=Y:=⟨_,rfl⟩
 obtain⟨sl,D⟩:=eC (decide (0<S'.length))
 obtain⟨o,N⟩:=eC ((F==0))
 have hF:((F:Int)==0)=o:=by rw[<-N,Bool.eq_iff_iff];simp
 rw[C,D,N]
 have t:=eA l
 clear l
 have c4:W.cell? ⟨w.heap.size,4,none⟩=some (.slice A n c):=s.cell 4
 have Z:=fun b=>ot e.path b V
 have d:=fun b=>ks e.path b V
 have f:=fun b=>ot e.parent b r
 generalize Ids.path e.path=b3 at *
 generalize Ids.agent e.path=b4 at *
 generalize Ids.path e.parent=u at *
 obtain⟨CS,g⟩:=eC ((ag (e,Value.slice A n c)).toArray)
 rw[g] at t ⊢
 clear g
 go_enter func16,ntmps16
 go_upto_region 1 with fail
 rw[t.out]
 clear t
 go_wp2_with fail
 refine B.mono ?_
 rintro x q ⟨A1,m,c1,rfl,Ab,E,O⟩
 have y:=s.below O
 have G:eF w q:=M.trans (O.mono M.size)
 have H:Ts q A1 m S':=Ts.of_own E
 have i:=H.len
 have d4:q.cell? ⟨w.heap.size,4,none⟩=some (.slice A n c):=y.cell 4
 have z:m<=9223372036854775807:=by
  obtain⟨A2,c2,L,U,X⟩:=aj E;injection L;omega
 have Q:=qu A1 m c1 S' A n c e.sels q H (Ts.below ht G) z (Nat.le_trans hf.1 hf.2.1)
 rw[C] at Q
 clear B c4 s
 go_wp2_with fail
 refine Q.mono ?_
 rintro x j ⟨rfl,R⟩
 have k:eF w j:=G.trans (R.mono G.size)
 have b2:=y.below R
 have q0:j.cell? ⟨w.heap.size,0,none⟩=some (.int .i64 e.n):=b2.cell 0
 have q1:j.cell? ⟨w.heap.size,1,none⟩=some (.string (str e.path)):=b2.cell 1
 have q2:j.cell? ⟨w.heap.size,2,none⟩=some (.string (str e.parent)):=b2.cell 2
 have q3:j.cell? ⟨w.heap.size,3,none⟩=some (.int .i64 e.ttl):=b2.cell 3
 have I:decide ((0:Int)<(m:Int))=sl:=by rw[<-D,<-i,Bool.eq_iff_iff];simp
 clear Q d4 E H O R y b2 C D N i
 go_wp2_with fail
 refine(Z _).mono ?_
 rintro x w3 ⟨rfl,rfl⟩
 go_wp2_with fail
 refine(d _).mono ?_
 rintro x w3 ⟨rfl,rfl⟩
 go_wp2_with fail
 refine(f _).mono ?_
 rintro x w3 ⟨rfl,rfl⟩
 have T:o=false\/(o=true/\(Y=false\/(Y=true/\((¬(0:Int)<(m:Int)/\sl=false)\/((0:Int)<(m:Int)/\sl=true/\(b3=false\/(b3=true/\(b4=true\/(b4=false/\(u=false\/(u=true/\(¬1<=e.n\/(1<=e.n/\¬e.n<=1099511627776)\/(1<=e.n/\e.n<=1099511627776/\¬1<=e.ttl)\/(1<=e.n/\e.n<=1099511627776/\1<=e.ttl/\¬e.ttl<=1000)\/(1<=e.n/\e.n<=1099511627776/\1<=e.ttl/\e.ttl<=1000))))))))))))):=by
  cases o
  .exact .inl rfl
  refine .inr ⟨rfl,?_⟩
  cases Y
  .exact .inl rfl
  refine .inr ⟨rfl,?_⟩;by_cases J:(0:Int)<(m:Int)
  rotate_left
  .exact .inl ⟨J,by rw[<-I,decide_eq_false J]⟩
  refine .inr ⟨J,by rw[<-I,decide_eq_true J],?_⟩
  cases b3
  .exact .inl rfl
  refine .inr ⟨rfl,?_⟩
  cases b4
  rotate_left
  .exact .inl rfl
  refine .inr ⟨rfl,?_⟩
  cases u
  .exact .inl rfl
  refine .inr ⟨rfl,?_⟩;omega
 clear Z d f I
 rcases T with rfl|⟨rfl,rfl|⟨rfl,⟨h0,rfl⟩|⟨h0,rfl,rfl|⟨rfl,rfl|⟨rfl,rfl|⟨rfl,L|⟨L,U⟩|⟨L,U,X⟩|⟨L,U,X,h4⟩|⟨L,U,X,h4⟩⟩⟩⟩⟩⟩⟩
 all_goals
  go_wp2_with fail
  go_ret;exact⟨by simp[*]<;>omega,k⟩
end
section
open Go.RowKit Mem Led
theorem mX(A:Option Addr)(n c:Nat)(L:List Led.Node)(s:Txt)(w:World)(h:Es ae 5 w A n L)(Q:n<=1000) :
  Calls prog 118 #[.slice A n c,.string (str s)] w fun e w'=>e=.returned (.int .i64 (aX (fun d:Led.Node=>d.name==s) L))/\eF w w':=by
 have C:=eA (h.len aM (by omega))
 obtain⟨r,E⟩:=eD (aX (fun d:Led.Node=>d.name==s) L)
 rw[E.out]
 go_enter func118,ntmps118
 go_wp2_with fail
 go_loopw [5] (fun i wr=>∃k:Nat,k<=n/\i=.int .i64 k/\Hid (∀x∈L.take k,(x.name==s)=false)/\eF w wr) (fun i _=>n-(intOf i).toNat)
 case atStart=>exact⟨0,by omega,rfl,eA (by simp),Below.refl _ _⟩
 case round =>
  obtain⟨k,R,rfl,F,D⟩:=hrel;obtain⟨wx,G⟩:∃wx,wx=wr:=⟨_,rfl⟩;subst G;by_cases H:k<n
  .have B:k<L.length:=by rw[C.out];exact H
   obtain⟨b,I,rfl,N,_⟩:=gY h B;have S:wx.cell? ⟨b,I+k*5,none⟩=some (.string (str L[k].name)):=ey aM (by omega) h B D (j:=0) rfl;have hi:(k:Int)<(n:Int):=by omega
   cases M:(L[k].name==s)
   .have O:=eA (dP (p:=fun d:Led.Node=>d.name==s) B F.out M)
    generalize L[k].name=nm at *;go_wp2_with fail
    go_roundw
    case rel=>exact⟨k+1,by omega,by go_num,O,D⟩
    case measure=>simp[intOf];omega
   .have J:=eA (gi (p:=fun d:Led.Node=>d.name==s) B F.out M)
    generalize L[k].name=nm at *;go_wp2_with fail
    go_ret;exact⟨by rw[<-E.out,J.out];rfl,D⟩
  .have K:k=n:=by omega
   have J:=eA (gj (p:=fun d:Led.Node=>d.name==s) (L:=L) (by have:=F.out;rwa [K,List.take_of_length_le (by rw[C.out];exact eH)] at this))
   have hi:¬((k:Int)<(n:Int)):=by omega
   go_wp2_with fail
   go_ret;exact⟨by rw[<-E.out,J.out];rfl,D⟩
theorem rkey_any(n:Led.Key)(w:World):Calls prog 121 #[.agg (ar n).toArray] w fun e w'=>e=.returned (.bool (dx n))/\eF w w':=by
 obtain⟨W,H⟩:=eC (w.alloc (.cells (ar n).toArray 42))
 have F:Blk W w.heap.size (ar n) 42:=by rw[<-H];exact Blk.new w _ _
 have J:eF w W:=eG H
 have S:W.cell? ⟨w.heap.size,0,none⟩=some (.string (str n.kid)):=F.cell 0
 have T:W.cell? ⟨w.heap.size,1,none⟩=some (.string (str n.seed)):=F.cell 1
 have U:W.cell? ⟨w.heap.size,2,none⟩=some (.int .i64 n.state):=F.cell 2
 have V:W.cell? ⟨w.heap.size,3,none⟩=some (.int .i64 n.since):=F.cell 3
 have A:dx n=(decide ((n.seed.length:Int)=32)&&decide ((1:Int)<=(n.kid.length:Int))&&decide ((n.kid.length:Int)<=16)&&decide (1<=n.state)&&decide (n.state<=3)&&decide (0<=n.since)&&decide (n.since<=1099511627776)):=by
  unfold dx;rw[dF,dF,dF,show (n.seed.length==32)=decide ((n.seed.length:Int)=32) by rw[Bool.eq_iff_iff];simp;omega]
  simp only[Bool.and_assoc]
 rw[A]
 obtain⟨K,N⟩:=eC (n.seed.length)
 obtain⟨D,O⟩:=eC (n.kid.length)
 have X:(str n.seed).size=K:=by rw[aC,N]
 have Y:(str n.kid).size=D:=by rw[aC,O]
 rw[N,O]
 have L:=eA H
 have B:(¬(K:Int)=32)\/((K:Int)=32/\¬(1:Int)<=(D:Int))\/((K:Int)=32/\(1:Int)<=(D:Int)/\¬(D:Int)<=16)\/((K:Int)=32/\(1:Int)<=(D:Int)/\(D:Int)<=16/\¬1<=n.state)\/((K:Int)=32/\(1:Int)<=(D:Int)/\(D:Int)<=16/\1<=n.state/\¬n.state<=3)\/((K:Int)=32/\(1:Int)<=(D:Int)/\(D:Int)<=16/\1<=n.state/\n.state<=3/\¬0<=n.since)
  \/ ((K:Int)=32/\(1:Int)<=(D:Int)/\(D:Int)<=16/\1<=n.state/\n.state<=3/\0<=n.since/\¬n.since<=1099511627776)\/((K:Int)=32/\(1:Int)<=(D:Int)/\(D:Int)<=16/\1<=n.state/\n.state<=3/\0<=n.since/\n.since<=1099511627776):=by omega
 unfold ar tx nm at L ⊢
 clear H A
 go_enter func121,ntmps121
 go_upto_region 1 with fail
 rw[L.out]
 clear L F
 rcases B with C|⟨C,E⟩|⟨C,E,G⟩|⟨C,E,G,I⟩|⟨C,E,G,I,M⟩|⟨C,E,G,I,M,Q⟩|⟨C,E,G,I,M,Q,R⟩|⟨C,E,G,I,M,Q,R⟩
 all_goals
  go_wp2_with fail
  go_ret;exact⟨by simp[*]<;>omega,J⟩
theorem rjoin_any(j:Led.Join)(w:World)(Y:j.text.length<=9223372036854775807)(Z:j.name.length<=9223372036854775807):Calls prog 116 #[.agg (vq j).toArray] w fun e w'=>e=.returned (.bool (cI j))/\eF w w':=by
 obtain⟨W,R⟩:=eC (w.alloc (.cells (vq j).toArray 38))
 have b:Blk W w.heap.size (vq j) 38:=by rw[<-R];exact Blk.new w _ _
 have F:eF w W:=eG R
 have c0:W.cell? ⟨w.heap.size,0,none⟩=some (.string (str j.text)):=b.cell 0
 have c1:W.cell? ⟨w.heap.size,1,none⟩=some (.string (str j.name)):=b.cell 1
 have c2:W.cell? ⟨w.heap.size,2,none⟩=some (.int .i64 j.expires):=b.cell 2
 have c:=ks j.name W Z
 obtain⟨r,d⟩:=eD (cI j)
 have I:cI j=(j.text.all fg&&Ids.agent j.name&&decide ((1:Int)<=(j.text.length:Int))&&decide ((j.text.length:Int)<=16)&&decide (0<=j.expires)&&decide (j.expires<=1099511627776)):=by
  show (j.text.all fg&&Ids.agent j.name&&aD j.text.length 1 16&&aD j.expires 0 1099511627776)=_
  rw[dF,dF];simp only[Bool.and_assoc]
 have x:=eA I
 rw[d.out]
 clear I
 obtain⟨N,S⟩:=eC (j.text.length)
 have Aa:(str j.text).size=N:=by rw[aC,S]
 have f:=eA S
 rw[S] at Y
 clear S
 have g:=eA R
 clear R
 obtain⟨CS,O⟩:=eC ((vq j).toArray)
 rw[O] at g ⊢
 clear O
 go_enter func116,ntmps116
 go_upto_region 1 with fail
 rw[g.out]
 clear g
 go_wp2_with fail
 go_loopw [3,4] (fun i _ wr=>∃k:Nat,k<=N/\i=.int .i64 k/\Hid ((j.text.take k).all fg=true)/\wr=W) (fun i _ _=>N-(intOf i).toNat)
 case atStart=>exact⟨0,by omega,rfl,eA (by simp),rfl⟩
 case round =>
  obtain⟨k,hk,rfl,l,m⟩:=hrel;subst m;by_cases n:k<N
  .have G:k<j.text.length:=by rw[f.out];exact n
   have hi:(k:Int)<(N:Int):=by omega
   have Ab:=fun W=>tJ j.text k G W;have E:fg j.text[k]=(decide (97<=(j.text[k]).toNat/\(j.text[k]).toNat<=122)||decide (48<=(j.text[k]).toNat/\(j.text[k]).toNat<=57)):=rfl;have B:=eA (all_more G l.out);have C:=eA (fun h=>all_bad G h);obtain⟨y,Q⟩:=eC (fg j.text[k]);rw[Q] at E B C;have D:=eA E;clear E Q;generalize (j.text[k]).toNat=A at *;clear G;have M:((97<=A/\A<=122)\/(48<=A/\A<=57))\/(A<48\/(57<A/\A<97)\/122<A):=by omega
   rcases M with M|M
   .have e:y=true:=by rw[D.out];simp only[Bool.or_eq_true,decide_eq_true_eq];exact M
    have H:=eA (B.out e);clear D B C e;rcases M with⟨T,z⟩|⟨T,z⟩
    .have U:(97:Int)<=(A:Int):=by omega
     have V:(A:Int)<=122:=by omega
     go_wp2_with fail
     go_roundw
     case rel=>exact⟨k+1,by omega,by go_num,H,by trivial⟩
     case measure=>simp[intOf];omega
    .have U:¬(97:Int)<=(A:Int):=by omega
     have V:(48:Int)<=(A:Int):=by omega
     have o:48<=A:=by omega
     have i3:(A:Int)<=57:=by omega
     go_wp2_with fail
     go_roundw
     case rel=>exact⟨k+1,by omega,by go_num,H,by trivial⟩
     case measure=>simp[intOf];omega
   .have e:y=false:=by rw[D.out];simp;omega
    have H:=eA (C.out e);have q:Hid (r=false):=eA (by rw[<-d.out,x.out,H.out];rfl)
    clear D B C e;rcases M with T|⟨T,z⟩|T
    .have U:¬(97:Int)<=(A:Int):=by omega
     have V:¬(48:Int)<=(A:Int):=by omega
     have o:¬48<=A:=by omega
     go_wp2_with fail
     go_ret;exact⟨by rw[q.out];rfl,F⟩
    .have U:¬(97:Int)<=(A:Int):=by omega
     have V:(48:Int)<=(A:Int):=by omega
     have o:48<=A:=by omega
     have i3:¬(A:Int)<=57:=by omega
     have m3:¬A<=57:=by omega
     go_wp2_with fail
     go_ret;exact⟨by rw[q.out];rfl,F⟩
    .have U:(97:Int)<=(A:Int):=by omega
     have V:¬(A:Int)<=122:=by omega
     have m1:97<=A:=by omega
     have o:¬A<=122:=by omega
     have m3:48<=A:=by omega
     have m4:¬A<=57:=by omega
     have i3:(48:Int)<=(A:Int):=by omega
     have i4:¬(A:Int)<=57:=by omega
     go_wp2_with fail
     go_ret;exact⟨by rw[q.out];rfl,F⟩
  .have hi:¬(k:Int)<(N:Int):=by omega
   have J:j.text.all fg=true:=by
    have:=l.out;rwa [List.take_of_length_le (by rw[f.out];omega)] at this
   have K:=x.out;rw[d.out,J,f.out] at K;generalize Ids.agent j.name=s at *;have t:=eA K;have L:s=false\/(s=true/\((¬(1:Int)<=(N:Int))\/((1:Int)<=(N:Int)/\¬(N:Int)<=16)\/((1:Int)<=(N:Int)/\(N:Int)<=16/\¬0<=j.expires)\/((1:Int)<=(N:Int)/\(N:Int)<=16/\0<=j.expires/\¬j.expires<=1099511627776)\/((1:Int)<=(N:Int)/\(N:Int)<=16/\0<=j.expires/\j.expires<=1099511627776))):=by
    cases s
    .exact .inl rfl
    .refine .inr ⟨rfl,?_⟩
     omega
   clear J K l;go_wp2_with fail
   refine c.mono ?_;rintro e w1 ⟨rfl,rfl⟩;rcases L with rfl|⟨rfl,X|⟨X,u⟩|⟨X,u,h3⟩|⟨X,u,h3,h4⟩|⟨X,u,h3,h4⟩⟩
   all_goals
    go_wp2_with fail
    go_ret;exact⟨by rw[t.out];simp[*]<;>omega,F⟩
end
section
open Go.RowKit Mem Led
structure RAt(base gl:Nat)(w:World)(vE vN vB vJ vK vU:Value)(L:Led.Ledger)(E:List (Led.Entry × Value))(U:List (Led.Bundle × Value)):Prop where
 hb:base<=w.heap.size
 hg:base<=gl
 rk:Rk base w vE vN vB vJ vK vU L E U
 blk:Blk w gl [vE,vN,vB,vJ,vK,vU] 30
def bE(base gl:Nat)(r:Led.Ledger × Int)(w:World)(x:Ending)(w':World):Prop :=
 x=.returned (.int .i64 r.2)/\Below base w w'/\(r.2=0->∃vE vN vB vJ vK vU E U,RAt base gl w' vE vN vB vJ vK vU r.1 E U)
section
variable {base gl:Nat}{w w':World}{vE vN vB vJ vK vU:Value}{L:Led.Ledger}{E:List (Led.Entry × Value)}{U:List (Led.Bundle × Value)}
theorem RAt.below(h:RAt base gl w vE vN vB vJ vK vU L E U)(A:eF w w'):RAt base gl w' vE vN vB vJ vK vU L E U :=
 ⟨Nat.le_trans h.hb A.size,h.hg,h.rk.below A h.hb,h.blk.below A⟩
theorem RAt.apart(h:RAt base gl w vE vN vB vJ vK vU L E U):∀v∈[vE,vN,vJ,vK,vU],∀g,v.ownBlock=some g->g∉[gl]:=by
 intro v B g A
 simp only[List.mem_cons,List.not_mem_nil,or_false] at B ⊢
 rintro rfl
 rcases B with rfl|rfl|rfl|rfl|rfl
 .exact ax h.rk.oE h.blk (by decide) A
 .exact ax h.rk.oN h.blk (by decide) A
 .exact ax h.rk.oJ h.blk (by decide) A
 .exact ax h.rk.oK h.blk (by decide) A
 .exact ax h.rk.oU h.blk (by decide) A
theorem RAt.stay(h:RAt base gl w vE vN vB vJ vK vU L E U)(k:Nat)(v:Value):Rk base (w.setCell ⟨gl,k,none⟩ v) vE vN vB vJ vK vU L E U :=
 h.rk.chg ((Chg.refl _ _).setCell (.inl (by simp)) v) (Far.one h.hg h.blk (by decide)) h.hb h.apart
theorem RAt.setN(h:RAt base gl w vE vN vB vJ vK vU L E U){A:Value}{l:List Led.Node}(B:w.ownsRow base 40 5 A l.length (ah ae l)):RAt base gl (w.setCell ⟨gl,1,none⟩ A) vE A vB vJ vK vU { L with nodes:=l } E U :=
 ⟨by simpa using h.hb,h.hg,{ h.stay 1 A with oN:=dv B (ax B h.blk (by decide)) },h.blk.set 1 A⟩
theorem RAt.setE(h:RAt base gl w vE vN vB vJ vK vU L E U){A:Value}{l:List Led.Entry}{B:List (Led.Entry × Value)}(C:w.ownsRow base 36 5 A B.length (ah ag B))(D:B.map Prod.fst=l)(F:∀p∈B,NT base w p.2 p.1.sels):RAt base gl (w.setCell ⟨gl,0,none⟩ A) A vN vB vJ vK vU { L with entries:=l } B U :=
 ⟨by simpa using h.hb,h.hg,{ h.stay 0 A with oE:=dv C (ax C h.blk (by decide)),ents:=D,sels:=fun p G=>(F p G).chg ((Chg.refl [gl] _).setCell (.inl (by simp)) A) (Far.one h.hg h.blk (by decide)) h.hb },h.blk.set 0 A⟩
theorem RAt.setB(h:RAt base gl w vE vN vB vJ vK vU L E U){A:Value}{l:List Txt}(B:w.ownsRow base 9 1 A l.length (ah al l)):RAt base gl (w.setCell ⟨gl,2,none⟩ A) vE vN A vJ vK vU { L with bans:=l } E U :=
 ⟨by simpa using h.hb,h.hg,{ h.stay 2 A with oB:=dv B (ax B h.blk (by decide)) },h.blk.set 2 A⟩
theorem RAt.setK(h:RAt base gl w vE vN vB vJ vK vU L E U){A:Value}{l:List Led.Key}(B:w.ownsRow base 42 4 A l.length (ah ar l)):RAt base gl (w.setCell ⟨gl,4,none⟩ A) vE vN vB vJ A vU { L with keys:=l } E U :=
 ⟨by simpa using h.hb,h.hg,{ h.stay 4 A with oK:=dv B (ax B h.blk (by decide)) },h.blk.set 4 A⟩
theorem RAt.setU(h:RAt base gl w vE vN vB vJ vK vU L E U){A:Value}{l:List Led.Bundle}{B:List (Led.Bundle × Value)}(D:w.ownsRow base 45 3 A B.length (ah ai B))(F:B.map Prod.fst=l)(C:∀p∈B,NK base w p.2 p.1.keys):RAt base gl (w.setCell ⟨gl,5,none⟩ A) vE vN vB vJ vK A { L with bundles:=l } E B :=
 ⟨by simpa using h.hb,h.hg,{ h.stay 5 A with oU:=dv D (ax D h.blk (by decide)),buns:=F,keyss:=fun p G=>(C p G).chg ((Chg.refl [gl] _).setCell (.inl (by simp)) A) (fun s C=>by rw[List.mem_singleton] at C;rw[C];exact h.hg) h.hb },h.blk.set 5 A⟩
end
theorem kA{α:Type}{c:α->α->Int}(F:Cmp c){x:α}:∀{l:List α},aY c l->(ins c x l).length=l.length+if l.any (fun y=>decide (c y x=0)) then 0 else 1
 | [],_=>by simp[ins]
 | y::l,h=>by
  have B:=h;unfold aY at B;rw[List.pairwise_cons] at B;have ih:=kA F (x:=x) (l:=l) B.2;unfold ins at ih ⊢;simp only[List.length_append,List.length_cons,List.filter_cons,List.any_cons] at ih ⊢;rcases Int.lt_trichotomy (c y x) 0 with C|C|C
  .have D:¬0<c y x:=by omega
   have E:¬c y x=0:=by omega
   simp only[C,D,E,decide_true,decide_false,if_true,Bool.false_eq_true,if_false,List.length_cons,Bool.false_or];omega
  .have h0:∀z∈l,0<c z x:=pu F B.1 (by omega)
   have D:¬c y x<0:=by omega
   have E:¬0<c y x:=by omega
   rw[dD (t:=l) (fun z A=>decide_eq_false (by have:=h0 z A;omega)),di (t:=l) (fun z A=>decide_eq_true (h0 z A))]
   simp[C]
  .have h0:∀z∈l,0<c z x:=pu F B.1 (by omega)
   have D:¬c y x<0:=by omega
   have E:¬c y x=0:=by omega
   have G:l.any (fun y=>decide (c y x=0))=false:=by
    rw[List.any_eq_false];intro z A;have:=h0 z A;simp
    omega
   rw[dD (t:=l) (fun z A=>decide_eq_false (by have:=h0 z A;omega)),di (t:=l) (fun z A=>decide_eq_true (h0 z A))]
   simp[C,D,E,G]
theorem uK{α:Type}(f:α->Txt)(x:α)(l:List α):l.any (fun y=>decide (ord (f y) (f x)=0))=l.any (fun y=>f y==f x):=by
 congr 1
 funext y
 rw[Bool.eq_iff_iff]
 simp[lp]
end
section
open Go.RowKit Mem Led
theorem node_fits{L:Led.Ledger}(A:L.Wf)(n:Led.Node):(ins cN n L.nodes).length=L.nodes.length+if aX (fun d:Led.Node=>d.name==n.name) L.nodes<0 then 1 else 0:=by
 rw[kA rW A.n1]
 have B:=iB (fun d:Led.Node=>d.name==n.name) L.nodes
 have C:(L.nodes.any fun y=>decide (cN y n=0))=L.nodes.any fun y=>y.name==n.name:=uK Led.Node.name n L.nodes
 rw[C,<-B]
 by_cases h:0<=aX (fun d:Led.Node=>d.name==n.name) L.nodes
 .rw [decide_eq_true h,if_pos rfl,if_neg (by omega)]
 .rw [decide_eq_false h,if_neg (by simp),if_pos (by omega)]
theorem mV{base gl:Nat}{vE vN vB vJ vK vU:Value}{L:Led.Ledger}{E:List (Led.Entry × Value)}{U:List (Led.Bundle × Value)}(n:Led.Node)(w:World)(H:RAt base gl w vE vN vB vJ vK vU L E U)(hL:L.Wf)(hz:n.name.length<=9223372036854775807) :
  Calls prog 73 #[.pointer (some ⟨gl,0,none⟩),.agg (ae n).toArray] w (bE base gl (aR L n) w):=by
 obtain⟨V,D,rfl,fN,eN⟩:=cl H.rk.oN
 obtain⟨AB,s,rfl,fB,eB⟩:=cl H.rk.oB
 have zN:=hL.n3
 have zB:=hL.b3
 have K:=eA (node_fits hL n)
 have d1:Hid (cH n=false->aR L n=(L,1)):=eA fun h=>by unfold aR;rw[h];rfl
 have d2:Hid (cH n=true->L.bans.contains n.name=true->aR L n=(L,21)):=eA fun h g=>by unfold aR;rw[h,g];rfl
 have d3:Hid (cH n=true->L.bans.contains n.name=false->¬(ins cN n L.nodes).length<=4->aR L n=(L,6)):=eA fun h g h3=>by unfold aR put;rw[h,g,if_neg h3];rfl
 have d4:Hid (cH n=true->L.bans.contains n.name=false->(ins cN n L.nodes).length<=4->aR L n=({ L with nodes:=ins cN n L.nodes },0)):=eA fun h g h3=>by unfold aR put;rw[h,g,if_pos h3];rfl
 obtain⟨W,hW⟩:=eC (w.alloc (.cells (ae n).toArray 40))
 have b0:Blk W w.heap.size (ae n) 40:=by rw[<-hW];exact Blk.new w _ _
 have O:eF w W:=eG hW
 have I:=rnode_any n W hz
 have t:(fI (.pointer (some ⟨w.heap.size,0,none⟩))).run prog W=.ok (.agg (ae n).toArray) W:=dS b0 rfl
 have HW:=eA hW
 clear hW
 obtain⟨CS,i⟩:=eD ((ae n).toArray)
 rw[i.out] at HW I t ⊢
 have HH:=eA (H.below O)
 have HB:=eA H.hb
 obtain⟨N,hN⟩:=eC (L.nodes.length)
 obtain⟨M,hM⟩:=eC (L.bans.length)
 have HN:=eA hN
 rw[hN] at fN eN zN HH
 rw[hM] at fB eB zB HH
 clear hN hM H fN eN fB eB
 cases o:cH n
 .rw [d1.out o]
  rw[o] at I;clear d1 d2 d3 d4 K;go_enter func73,ntmps73
  go_upto_region 1 with fail
  rw[HW.out];go_wp2_with fail
  refine I.mono ?_;rintro e Q ⟨rfl,J⟩;go_wp2_with fail
  go_ret;exact⟨rfl,(O.trans (J.mono O.size)).mono HB.out,fun h=>by cases h⟩
 .rw [o] at I
  go_enter func73,ntmps73
  go_upto_region 1 with fail
  rw[HW.out];clear HW;go_wp2_with fail
  refine I.mono ?_;rintro e Q ⟨rfl,J⟩;have R:=O.trans (J.mono O.size);have X:=eA (HH.out.below J);have B1:=b0.below J;have f0:∀p,(ab Q p).cell? ⟨gl,2,none⟩=some (.slice AB M s):=fun p=>(X.out.blk.below (aa Q p)).cell 2;have f1:∀p,(ab Q p).cell? ⟨w.heap.size,0,none⟩=some (.string (str n.name)):=fun p=>(B1.below (aa Q p)).cell 0;have j:Hid (∀p,Calls prog 117 #[.slice AB M s,.string (str n.name)] (ab Q p) fun e w'=>e=.returned (.bool (L.bans.contains n.name))/\Below (ab Q p).heap.size (ab Q p) w'):=eA fun p=>by
   obtain⟨A,n',c,e,_,ht⟩:=dR (X.out.below (aa Q p)).rk.oB;injection e with e1 e2 e3
   subst e1 e2 e3;exact(rhas_any _ _ _ L.bans n.name _ ht (by omega)).mono fun e w' ⟨h1,g⟩=>⟨h1,g▸Below.refl _ _⟩
  clear I t HH J b0;go_upto_region 4 with fail
  refine au ?_;repeat (go_big_quiet_step (first|(go_at_call 117;exact aq (j.out _))|fail))
  refine wpQuiet_nil ?_;rintro _ ⟨p,rfl⟩;have B:=aa Q p;have C:=R.trans (B.mono R.size);have S:=eA (X.out.below B);have B2:=B1.below B;generalize ab Q p=F at *;clear f0 f1 j X B1 B R
  cases k:L.bans.contains n.name
  .have f0:∀p,(ab F p).cell? ⟨gl,1,none⟩=some (.slice V N D):=fun p=>(S.out.blk.below (aa F p)).cell 1
   have f1:∀p,(ab F p).cell? ⟨w.heap.size,0,none⟩=some (.string (str n.name)):=fun p=>(B2.below (aa F p)).cell 0;obtain⟨r,hr⟩:=eD (aX (fun d:Led.Node=>d.name==n.name) L.nodes);have HE:Hid (∀w',eF F w'->Es ae 5 w' V N L.nodes):=eA fun w' Z=>by
    obtain⟨A,n',c,e,_,ht⟩:=bc (S.out.below Z).rk.oN;injection e with e1 e2 e3
    subst e1 e2 e3;exact ht
   have j:Hid (∀p,Calls prog 118 #[.slice V N D,.string (str n.name)] (ab F p) fun e w'=>e=.returned (.int .i64 r)/\Below (ab F p).heap.size (ab F p) w'):=eA fun p=>by
    rw[<-hr.out];exact mX V N D L.nodes n.name _ (HE.out _ (aa F p)) (by omega)
   have G:=K.out;rw[hr.out,HN.out] at G;have Af:((r<0/\(4:Int)<=(N:Int))\/(r<0/\¬(4:Int)<=(N:Int)))\/¬r<0:=by omega
   go_upto_region 7 with fail
   refine au ?_;rcases Af with(⟨q1,q2⟩|⟨q1,q2⟩)|q1
   .have m2:4<=N:=by omega
    have u:=eA (d3.out o k (by rw[G,if_pos q1];omega))
    repeat (go_big_quiet_step (first|(go_at_call 118;exact aq (j.out _))|fail))
    refine wpQuiet_nil ?_;rintro _ ⟨p,rfl⟩;have B:=aa F p;have Ag:=C.trans (B.mono C.size);generalize ab F p=l at *;clear f0 f1 j HE;go_wp2_with fail
    go_ret;rw[u.out];exact⟨rfl,Ag.mono HB.out,fun h=>by cases h⟩
   all_goals
    have m2:r<0->¬4<=N:=fun h=>by omega
    have z:(ins cN n L.nodes).length<=4:=by
     rw[G];split<;>omega
    have u:=eA (d4.out o k z);(try have m3:=m2 q1)
    clear m2 z G d1 d2 d3 d4;repeat (go_big_quiet_step (first|(go_at_call 118;exact aq (j.out _))|fail))
    refine wpQuiet_nil ?_;rintro _ ⟨p,rfl⟩;have B:=aa F p;have b:=C.trans (B.mono C.size);have Y:=eA (S.out.below B);have B3:=B2.below B;have Aa:Hid (∀w',Below (ab F p).heap.size (ab F p) w'->Es ae 5 w' V N L.nodes):=eA fun w' Z=>HE.out w' (B.trans (Z.mono B.size));generalize ab F p=l at *;clear f0 f1 j HE B S B2 C;have g0:∀p,(ab l p).cell? ⟨gl,1,none⟩=some (.slice V N D):=fun p=>(Y.out.blk.below (aa l p)).cell 1;have g1:∀p,(fI (.pointer (some ⟨w.heap.size,0,none⟩))).run prog (ab l p)=.ok (.agg CS) (ab l p):=fun p=>by rw[<-i.out];exact dS (B3.below (aa l p)) rfl
    have Ab:Hid (∀f,eF l f->Calls prog 119 #[.slice V N D,.agg CS,.bool false] f fun e w'=>∃v,e=.returned v/\GR f w'/\w'.ownsRow base 40 5 v (ins cN n L.nodes).length (ah ae (ins cN n L.nodes))):=eA fun f Z=>by
     rw[<-i.out];refine(oZ V N D L.nodes n false f (Aa.out f Z) (by omega) (fun y _=>cX y) (cX n)).mono ?_;rintro e w' ⟨v,he,q,Ah⟩;rw[gE rW hL.n1] at q;exact⟨v,he,GR.of Ah,aG q (Nat.le_trans Y.out.hb Z.size)⟩
    go_upto_region 9 with fail
    refine aE [([0,1,2,3,4,5],(6,fun v w'=>w'.ownsRow base 40 5 v (ins cN n L.nodes).length (ah ae (ins cN n L.nodes))))] [7,8,9] (by kernel_rfl) (by kernel_rfl) (by
     intro x hx;simp only[List.mem_cons,List.not_mem_nil,or_false] at hx;subst hx;exact ao fun v w w' Z h=>af h Z eH) ?_
    refine aw ?_;simp only[pick,List.getD_cons_zero,List.getD_cons_succ];repeat (go_big_quiet_step (fail))
    refine wpQuiet_nil ?_;refine⟨_,rfl,rfl,?_,?_⟩
    .intro f Ai _
     go_simp
     exact⟨rfl,Ab.out f Ai.below⟩
    rintro v1-w6 Ac hF;obtain⟨_,q⟩:=hF;obtain⟨A9,c9,rfl,_,_⟩:=aj q;have m:=Ac.below;have T:=Y.out.below m;have q6:w6.cell? ⟨gl,1,none⟩=some (.slice V N D):=T.blk.cell 1;have Ak:=T.blk.froz 1;have Aj:=eA (T.setN q);have Ad:=b.trans (m.mono b.size);have Ae:Below base w (w6.setCell ⟨gl,1,none⟩ (.slice A9 (ins cN n L.nodes).length c9)):=(Ad.mono HB.out).setCell (p:=⟨gl,1,none⟩) T.hg (.slice A9 (ins cN n L.nodes).length c9);clear g0 g1 Ab Aa Y T B3 Ac m q;go_wp2;(try rw[ak])
    (try go_wp2)
    go_ret;rw[u.out];exact⟨rfl,Ae,fun _=>⟨_,_,_,_,_,_,_,_,Aj.out⟩⟩
  .have u:=eA (d2.out o k)
   clear S B2 K d1 d2 d3 d4;go_wp2_with fail
   go_ret;rw[u.out];exact⟨rfl,C.mono HB.out,fun h=>by cases h⟩
end
section
open Go.RowKit Mem Led
def gA{α:Type}(p:α->Bool)(L:List α)(k:Nat):Int:=match (L.drop k).findIdx? p with
 | some i=>((k+i:Nat):Int)
 | none => -1
section
variable {α:Type}{p:α->Bool}{L:List α}{k:Nat}
theorem lD(h:L.length<=k):gA p L k = -1:=by
 unfold gA
 rw[List.drop_eq_nil_of_le h]
 rfl
theorem down_hit(A:k<L.length)(h:p L[k]=true):gA p L k=k:=by
 unfold gA
 rw[List.drop_eq_getElem_cons A,List.findIdx?_cons,h]
 simp
theorem tV(A:k<L.length)(h:p L[k]=false):gA p L k=gA p L (k+1):=by
 unfold gA
 rw[List.drop_eq_getElem_cons A,List.findIdx?_cons,h]
 cases (L.drop (k+1)).findIdx? p with
 | none=>rfl
 | some i=>simp;omega
theorem jY:gA p L 0=aX p L:=by
 unfold gA aX
 rw[List.drop_zero]
 cases L.findIdx? p with
 | none=>rfl
 | some i=>simp
end
theorem bK.chg{α:Type}{enc:α->List Value}{k:Nat}{e:TypeId}{base gl sl:Nat}{v:Value}{L':List α}{w w':World}(h:bK enc k e base gl sl v L' w w'):Chg (gl::v.ownBlock.toList) w w':=by
 obtain⟨B,C,rfl,A,_,_⟩:=h
 exact((iD A).mono (by intro x hx;exact List.mem_cons_of_mem _ hx)).setCell (.inl (by simp)) _
theorem own_block{w:World}{base k n:Nat}{e:TypeId}{v:Value}{xs:List Value}(h:w.ownsRow base e k v n xs){g:Nat}(A:v.ownBlock=some g):base<=g/\∃M,Blk w g M e:=by
 rcases aS h with⟨rfl,_⟩|⟨D,c,M,rfl,B,_,C,_⟩
 .simp [Value.ownBlock] at A
 .simp only [Value.ownBlock,Option.some.injEq] at A
  subst A;exact⟨B,M,C⟩
theorem cap_of{w:World}{base k m n c:Nat}{e:TypeId}{A:Option Addr}{xs:List Value}(h:w.ownsRow base e k (.slice A m c) m xs)(B:m=n):n<=c:=by
 subst B
 obtain⟨C,D,e',f,_⟩:=cl h
 injection e' with _ _ e3
 subst e3
 exact f.1
theorem o4{α:Type}{enc:α->List Value}{k B:Nat}(Z:∀x,(enc x).length=k)(h0:0<k){t e:TypeId}{z:Value}(F:(prog.info? e).map (fun i=>(i.zero,i.size,i.bytes))=some (some z,k,B))(q:z.cells.size=k)(ht:prog.underlying t=some (.slice e))(b:B<=1000)
  {w:World} {A:Option Addr} {n c:Nat} {L:List α} (K:Es enc k w A n L) (r:n<=c) (hn:n<=1000) {i:Nat} (hi:i<n) (s:∀y∈L,∀u∈enc y,u.oneCell'=true) :
  ∃A1 c1 A2 c2 U V G X Y J,(∀w',(Instr.slice t (.slice A n c) none (some (.int .i64 (i:Int))) none).run prog w'=.ok (.slice A1 i c1) w')/\(∀w',(Instr.slice t (.slice A n c) (some (.int .i64 ((i:Int)+1))) none none).run prog w'=.ok (.slice A2 (n-(i+1)) c2) w') /\
   (Builtin.append_ #[t,t] t #[.slice none 0 0,.slice A1 i c1]).run prog w=.ok (.slice U i V) G/\eF w G/\(Builtin.append_ #[t,t] t #[.slice U i V,.slice A2 (n-(i+1)) c2]).run prog G=.ok (.slice X (n-1) Y) J/\eF w J /\
   J.ownsRow w.heap.size e k (.slice X (n-1) Y) (L.take i++L.drop (i+1)).length (ah enc (L.take i++L.drop (i+1))):=by
 obtain⟨iT,H,M,I,N⟩:=an F
 have O:prog.elem t=e:=by simp[Program.elem,ht]
 have Q:∀w,(sizeOf (prog.elem t)).run prog w=.ok k w:=fun w=>by simp[sizeOf,typeInfo,O,H,I]
 have R:prog.underlying t=some (.slice (prog.elem t)):=by rw[O];exact ht
 have d:L.length=n:=K.len Z h0
 have K:Vs w w.heap.size k A n (ah enc L):=K
 have v1:=(K.drop (k:=0) (cap:=c) (by omega) r).take (k:=i) (by omega)
 have v2:=K.drop (k:=i+1) (cap:=c) (by omega) r
 rw[Nat.zero_mul,List.drop_zero,rows_take Z] at v1
 rw[rows_drop Z] at v2
 have o1:∀u∈ah enc (L.take i),u.oneCell'=true:=fW fun y f=>s y (List.mem_of_mem_take f)
 have o2:∀u∈ah enc (L.drop (i+1)),u.oneCell'=true:=fW fun y f=>s y (List.mem_of_mem_drop f)
 have S:∀m,m<=1000->m*B<=140737488355328:=fun m hm=>Nat.le_trans (Nat.mul_le_mul hm b) (by decide)
 obtain⟨x1,G,g,D,h,_⟩:=bj (P:=prog) w w.heap.size t t e iT z k B ht H M I N q h0 _ 0 [] (World.ownsRow_nil _ _ _ _) w.heap.size _ i (c-0) _ v1 o1 (by unfold maxLen;omega) (S _ (by omega)) eH
 rw[Nat.zero_add,List.nil_append] at D
 obtain⟨U,V,rfl,_,_⟩:=aj D
 have C:eF w G:=Mem.aH (Below.refl _ w) h eH (World.ownsRow_nil w w.heap.size e k)
 obtain⟨x2,J,j,E,l,_⟩:=bj (P:=prog) G w.heap.size t t e iT z k B ht H M I N q h0 _ i _ D w.heap.size _ (n-(i+1)) (c-(i+1)) _ (v2.below C) o2 (by unfold maxLen;omega) (S _ (by omega)) C.size
 have T:i+(n-(i+1))=n-1:=by omega
 rw[T] at E
 obtain⟨X,Y,rfl,_,_⟩:=aj E
 have o:eF w J:=Mem.aH C l C.size D
 refine⟨_,_,_,_,U,V,G,X,Y,J,fun w'=>?_,fun w'=>?_,g,C,j,o,?_⟩
 .rw [run_slice_h w' t A n c R .i64 (i:Int) (by omega) (by omega),Q]
  simp[Result.andThen,sliced]
 .rw [run_slice_l w' t A n c R .i64 ((i:Int)+1) (by omega) (by omega),Q]
  simp[Result.andThen,sliced]
 .rw [<-aT] at E
  rw[List.length_append,List.length_take,List.length_drop,Nat.min_eq_left (by omega),d,T];exact E
section
variable {base gl:Nat}{w w':World}{vE vN vB vJ vK vU:Value}{L:Led.Ledger}{E:List (Led.Entry × Value)}{U:List (Led.Bundle × Value)}
theorem RAt.slot(H:RAt base gl w vE vN vB vJ vK vU L E U){α:Type}{enc:α->List Value}{k sl:Nat}{e:TypeId}{v:Value}{L0 L':List α}(A:bK enc k e base gl sl v L' w w')(B:w.ownsRow base e k v L0.length (ah enc L0))(N:e≠9)(F:e≠30) :
  Far base (gl::v.ownBlock.toList) w/\Chg (gl::v.ownBlock.toList) w w'/\Below base w w'/\(∀{e':TypeId} {k' n':Nat} {u:Value} {xs:List Value},w.ownsRow base e' k' u n' xs->e'≠e->e'≠30->w'.ownsRow base e' k' u n' xs)/\∃C,Blk w' gl ([vE,vN,vB,vJ,vK,vU].set sl C) 30/\w'.ownsRow base e k C L'.length (ah enc L'):=by
 have O:=ax B H.blk F
 obtain⟨C,G,I,_,_⟩:=A.opened H.blk O
 refine⟨fun s D=>?_,A.chg,A.below H.hg (fun g Q=>(du B Q).1) H.hb,fun J K R=>A.keeps J (dw J B K) (ax J H.blk R),C,G,I⟩
 rcases List.mem_cons.1 D with rfl|D
 .exact Far.one H.hg H.blk (by decide) s (by simp)
 .rw [Option.mem_toList] at D
  obtain⟨K,M,S⟩:=own_block B D;exact Far.one K S N s (by simp)
theorem RAt.slotN(H:RAt base gl w vE vN vB vJ vK vU L E U){l:List Led.Node}(I:bK ae 5 40 base gl 1 vN l w w'):∃B,RAt base gl w' vE B vB vJ vK vU { L with nodes:=l } E U/\Below base w w':=by
 obtain⟨G,C,J,A,B,D,K⟩:=H.slot I H.rk.oN (by decide) (by decide)
 have h:=H.rk
 exact⟨B,⟨Nat.le_trans H.hb C.size,H.hg,⟨A h.oE (by decide) (by decide),K,A h.oB (by decide) (by decide),A h.oJ (by decide) (by decide),A h.oK (by decide) (by decide),A h.oU (by decide) (by decide),h.ents,h.buns,fun p F=>(h.sels p F).chg C G H.hb,fun p F=>(h.keyss p F).chg C (fun s M=>(G s M).1) H.hb⟩,D⟩,J⟩
theorem RAt.slotJ(H:RAt base gl w vE vN vB vJ vK vU L E U){l:List Led.Join}(I:bK vq 4 38 base gl 3 vJ l w w'):∃B,RAt base gl w' vE vN vB B vK vU { L with joins:=l } E U/\Below base w w':=by
 obtain⟨G,C,J,A,B,D,K⟩:=H.slot I H.rk.oJ (by decide) (by decide)
 have h:=H.rk
 exact⟨B,⟨Nat.le_trans H.hb C.size,H.hg,⟨A h.oE (by decide) (by decide),A h.oN (by decide) (by decide),A h.oB (by decide) (by decide),K,A h.oK (by decide) (by decide),A h.oU (by decide) (by decide),h.ents,h.buns,fun p F=>(h.sels p F).chg C G H.hb,fun p F=>(h.keyss p F).chg C (fun s M=>(G s M).1) H.hb⟩,D⟩,J⟩
theorem RAt.slotK(H:RAt base gl w vE vN vB vJ vK vU L E U){l:List Led.Key}(I:bK ar 4 42 base gl 4 vK l w w'):∃B,RAt base gl w' vE vN vB vJ B vU { L with keys:=l } E U/\Below base w w':=by
 obtain⟨G,C,J,A,B,D,K⟩:=H.slot I H.rk.oK (by decide) (by decide)
 have h:=H.rk
 exact⟨B,⟨Nat.le_trans H.hb C.size,H.hg,⟨A h.oE (by decide) (by decide),A h.oN (by decide) (by decide),A h.oB (by decide) (by decide),A h.oJ (by decide) (by decide),K,A h.oU (by decide) (by decide),h.ents,h.buns,fun p F=>(h.sels p F).chg C G H.hb,fun p F=>(h.keyss p F).chg C (fun s M=>(G s M).1) H.hb⟩,D⟩,J⟩
theorem RAt.turnK(H:RAt base gl w vE vN vB vJ vK vU L E U){i:Nat}(hi:i<L.keys.length):∃g c,vK=.slice (some ⟨g,0,none⟩) L.keys.length c/\gl≠g/\(∀j u,(ar L.keys[i])[j]?=some u->w.cell? ⟨g,i*4+j,none⟩=some u/\w.frozen? ⟨g,i*4+j,none⟩=false) /\
  ∀j u x',j<4->ar x'=(ar L.keys[i]).set j u->RAt base gl (w.setCell ⟨g,i*4+j,none⟩ u) vE vN vB vJ vK vU { L with keys:=L.keys.set i x' } E U/\Below base w (w.setCell ⟨g,i*4+j,none⟩ u):=by
 have J:=H.rk.oK
 rcases aS J with⟨_,h0,_⟩|⟨g,c,M,rfl,D,R,K,F,G,N,B⟩
 .omega
 have A:gl≠g:=fun e=>ax J H.blk (by decide) (by simp[Value.ownBlock,e])
 have C:ip ar 4 42 g c L.keys.length w L.keys:=⟨rfl,M,K,N,B⟩
 refine⟨g,c,rfl,A,fun j u S=>C.cell aP hi S,fun j u x' T V=>?_⟩
 obtain⟨X,O,I⟩:=H.slotK (jE (sl:=4) aP (Below.refl _ w) D K F G N B hi T V A H.blk rfl)
 have e:X=.slice (some ⟨g,0,none⟩) L.keys.length c:=by
  have Q:=(H.blk.set_ne (p:=⟨g,i*4+j,none⟩) A u).cell 4;rw[O.blk.cell 4] at Q;simpa using Q
 subst e
 exact⟨O,I⟩
theorem RAt.twoK{g c n i:Nat}(H:RAt base gl w vE vN vB vJ (.slice (some ⟨g,0,none⟩) n c) vU L E U)(hi:i<L.keys.length)(C t:Int) :
  gl≠g/\(∃u,w.cell? ⟨g,i*4+2,none⟩=some u)/\w.frozen? ⟨g,i*4+2,none⟩=false/\RAt base gl (w.setCell ⟨g,i*4+2,none⟩ (.int .i64 C)) vE vN vB vJ (.slice (some ⟨g,0,none⟩) n c) vU { L with keys:=L.keys.set i { L.keys[i] with state:=C } } E U /\
  ∀G,Below (w.setCell ⟨g,i*4+2,none⟩ (.int .i64 C)).heap.size (w.setCell ⟨g,i*4+2,none⟩ (.int .i64 C)) G->(∃u,G.cell? ⟨g,i*4+3,none⟩=some u)/\G.frozen? ⟨g,i*4+3,none⟩=false/\RAt base gl (G.setCell ⟨g,i*4+3,none⟩ (.int .i64 t)) vE vN vB vJ (.slice (some ⟨g,0,none⟩) n c) vU { L with keys:=L.keys.set i { L.keys[i] with state:=C,since:=t } } E U/\Below base w (G.setCell ⟨g,i*4+3,none⟩ (.int .i64 t)):=by
 obtain⟨S,T,e,I,B,F⟩:=H.turnK hi
 injection e with e1 e2 e3
 injection e1 with e1
 injection e1 with e1
 subst e1 e3
 obtain⟨J,K⟩:=F 2 (.int .i64 C) { L.keys[i] with state:=C } (by omega) rfl
 refine⟨I,⟨_,(B 2 _ rfl).1⟩,(B 2 _ rfl).2,J,fun G O=>?_⟩
 have R:=J.below O
 have M:i<(L.keys.set i { L.keys[i] with state:=C }).length:=by rw[List.length_set];exact hi
 obtain⟨V,X,e,_,A,D⟩:=R.turnK M
 injection e with e1 _ e3
 injection e1 with e1
 injection e1 with e1
 subst e1 e3
 obtain⟨Q,N⟩:=D 3 (.int .i64 t) { L.keys[i] with state:=C,since:=t } (by omega) (by simp only[List.getElem_set_self];rfl)
 simp only[List.set_set] at Q
 exact⟨⟨_,(A 3 _ rfl).1⟩,(A 3 _ rfl).2,Q,(K.trans (O.mono J.hb)).trans N⟩
theorem RAt.turnN(H:RAt base gl w vE vN vB vJ vK vU L E U){i:Nat}(hi:i<L.nodes.length):∃g c,vN=.slice (some ⟨g,0,none⟩) L.nodes.length c/\gl≠g/\(∀j u,(ae L.nodes[i])[j]?=some u->w.cell? ⟨g,i*5+j,none⟩=some u/\w.frozen? ⟨g,i*5+j,none⟩=false) /\
  ∀j u x',j<5->ae x'=(ae L.nodes[i]).set j u->RAt base gl (w.setCell ⟨g,i*5+j,none⟩ u) vE vN vB vJ vK vU { L with nodes:=L.nodes.set i x' } E U/\Below base w (w.setCell ⟨g,i*5+j,none⟩ u):=by
 have J:=H.rk.oN
 rcases aS J with⟨_,h0,_⟩|⟨g,c,M,rfl,D,R,K,F,G,N,B⟩
 .omega
 have A:gl≠g:=fun e=>ax J H.blk (by decide) (by simp[Value.ownBlock,e])
 have C:ip ae 5 40 g c L.nodes.length w L.nodes:=⟨rfl,M,K,N,B⟩
 refine⟨g,c,rfl,A,fun j u S=>C.cell aM hi S,fun j u x' T V=>?_⟩
 obtain⟨X,O,I⟩:=H.slotN (jE (sl:=1) aM (Below.refl _ w) D K F G N B hi T V A H.blk rfl)
 have e:X=.slice (some ⟨g,0,none⟩) L.nodes.length c:=by
  have Q:=(H.blk.set_ne (p:=⟨g,i*5+j,none⟩) A u).cell 1;rw[O.blk.cell 1] at Q;simpa using Q
 subst e
 exact⟨O,I⟩
end
end
end Go.Proofs.YtmbpnkacggngkaaGreatDoor
