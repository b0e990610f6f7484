/- LedScan, LedRefMay, LedRefB, LedRAt, LedRefC, LedRSlot (put together by bundle.py: only what is needed). -/
import Derived.Deep.LoopGhost
import Derived.Deep.Cut
import Derived.Deep.CutRange
import Derived.Test.YtmbpnkacggngkaaGreatDoorLX13
set_option maxRecDepth 100000
set_option maxHeartbeats 16000000
namespace Go.Proofs.YtmbpnkacggngkaaGreatDoor
open Batch
open Tryz
section
open Go.RowKit Mem Led
theorem dZ{α:Type} {enc:α->List Value} {k:Nat} (C:∀ x,(enc x).length=k) (h0:0<k) {w w':World} {b A n:Nat} {L:List α} (h:Es enc k w (some ⟨b,A,none⟩) n L) {i:Nat} (hi:i<L.length) (D:eD w w') {j:Nat} {u:Value} (E:(enc L[i])[j]?=some u) :
  w'.cell? ⟨b,A+i * k+j,none⟩=some u:=by
 obtain⟨b',B,e,F,G⟩:=h.lit C h0 hi
 injection e with e
 injection e with e1 e2 _
 subst e1 e2
 rw [Nat.add_assoc]
 exact(D.cell (p:=⟨b,A+(i * k+j),none⟩) F).trans (G j u E)
theorem strRow_len2(x:Txt):(aj x).length=1:=rfl
theorem pZ(a b:Txt):Op.bytesLess a b=decide (ord a b<0):=by
 by_cases h:a<b
 .rw [mx h,decide_eq_true (kw.2 h)]
 .rw [my h,decide_eq_false (fun e=>h (kw.1 e))]
theorem eq_ord(a b:Txt):(a==b)=decide (ord a b=0):=by
 rw [Bool.eq_iff_iff]
 simp [kx]
theorem rows_es(w:World) (A:Option Addr) (n:Nat) (L:List Txt):Es aj 1 w A n L=Ts w A n L:=by unfold Es Ts; rw [gP]
theorem scanEnt_any(A:Option Addr) (n c:Nat) (L:List (Led.Entry × Value)) (x:Led.Entry × Value) (w:World) (h:Es ag 5 w A n L) (hn:n<=1000) (h1:∀ y∈L,∀ u∈ag y,u.oneCell'=true) (hx:∀ u∈ag x,u.oneCell'=true) :
  Calls prog 71 #[.slice A n c,.agg (ag x).toArray] w fun e w'=>∃ v,e=.returned v/\w'.ownsRow w.heap.size 36 5 v (aM (fun a b:Led.Entry × Value=>cE a.1 b.1) x false L).length (af ag (aM (fun a b:Led.Entry × Value=>cE a.1 b.1) x false L))/\eD w w':=by
 obtain⟨i0,hi,i1,i2,i3⟩:=al jN
 have HL:=hO (h.len aZ (by omega))
 have HX:=hO hx
 have HO:=hO h1
 obtain⟨W,hW⟩:=eA (w.alloc (.cells (ag x).toArray 36))
 have B:Blk W w.heap.size (ag x) 36:=by rw [<-hW]; exact Blk.new _ _ _
 have M:eD w W:=eF hW
 have HW:Hid (w.alloc (.cells #[.int .i64 x.1.n,.string (str x.1.path),.string (str x.1.parent),.int .i64 x.1.ttl,x.2] 36)=W):=hO hW
 clear hW hx h1
 show Calls prog 71 #[.slice A n c,.agg #[.int .i64 x.1.n,.string (str x.1.path),.string (str x.1.parent),.int .i64 x.1.ttl,x.2]] w _
 go_enter func71,ntmps71
 go_upto_region 1 with fail
 rw [HW.out]
 clear HW
 go_wp2_with fail
 go_loopg [5,6,7] n (fun g s d i wx=>∃ (j:Nat) (F:Bool) (S:List (Led.Entry × Value)) (sv:Value),j<=n/\g=n - j/\i=.int .i64 (j:Int)/\d=.bool F/\sv=s/\S.length<=2 * j/\eD w wx/\Blk wx w.heap.size (ag x) 36/\Hid (wx.ownsRow (w.heap.size+1) 36 5 sv S.length (af ag S))/\Hid (S++aM (fun a b:Led.Entry × Value=>cE a.1 b.1) x F (L.drop j)=aM (fun a b:Led.Entry × Value=>cE a.1 b.1) x false L)/\Hid (∀ u∈S,u=x\/u∈L))
 case atStart=>exact⟨0,false,[],_,by omega,by omega,rfl,rfl,rfl,by simp,M,B,hO (World.ownsRow_nil _ _ _ _),hO rfl,hO (fun u q=>by cases q)⟩
 case round =>
  clear B M; obtain⟨j,F,S,sv,hj,rfl,rfl,rfl,rfl,Ax,M,B,X,r,HM⟩:=hrel; obtain⟨wx,Ai⟩:∃ wx,wx=wr:=⟨_,rfl⟩; subst Ai; have Aj:(w.heap.size+1)<=wx.heap.size:=B.lt; by_cases Ak:j<n
  .have Al:(j:Int)<(n:Int):=by omega
   have O:j<L.length:=by rw [HL.out]; exact Ak
   have z:=List.drop_eq_getElem_cons O; have HY:=hO (HO.out _ (List.getElem_mem O)); have Aa:=List.getElem_mem O; obtain⟨b,R,rfl,Ay,Ab⟩:=kC h O; have Ac:∀ w',eD w w'->w'.cell? ⟨b,R+j * 5,none⟩=some (.int .i64 L[j].1.n):=fun w' M=>dZ aZ (by omega) h O M (j:=0) rfl; generalize L[j]=y at *; rw [z] at r; have Ad:=hO Ac; have Am:=hO Ab; clear z Ac Ab; obtain⟨J,Y⟩:=eC ((fun a b:Led.Entry × Value=>cE a.1 b.1) y x); have Z:y.1.n - x.1.n=J:=Y.out; have e1:decide (x.1.n<=y.1.n)=!decide (J<0):=by rw [<-Z,<-decide_not,decide_eq_decide]; omega
   have e2:(y.1.n==x.1.n)=decide (J=0):=by rw [<-Z,Bool.eq_iff_iff,beq_iff_eq,decide_eq_true_eq]; omega
   clear Z; have G:Hid ((S++if (!F&&!decide (J<0)) then [x] else [])++(if decide (J=0) then [] else [y])++aM (fun a b:Led.Entry × Value=>cE a.1 b.1) x (F||!decide (J<0)) (L.drop (j+1))=aM (fun a b:Led.Entry × Value=>cE a.1 b.1) x false L):=hO (by
    have h9:=r.out; have h8:cE y.1 x.1=J:=Y.out; rw [aM] at h9; rw [<-h9]; simp only [h8,show decide (0<=J)=!decide (J<0) by rw [Bool.eq_iff_iff]; simp,List.append_assoc])
   have An:=hO Aa; clear r Y Aa; have f0:∀ p,(ab wx p).cell? ⟨b,R+j * 5,none⟩=some (.int .i64 y.1.n):=fun p=>Ad.out _ (M.trans ((aa wx p).mono M.size)); have f1:∀ p,(ab wx p).cell? ⟨w.heap.size,0,none⟩=some (.int .i64 x.1.n):=fun p=>(B.below (aa wx p)).cell 0; go_upto_region 6 with fail
   go_cut [25] (fun t wy=>t=.bool (!F&&!decide (J<0))/\eD wx wy)
   case first =>
    cases F
    all_goals
     refine az ?_; repeat (go_big_quiet_step (fail))
     refine wpQuiet_nil ?_; rintro _ ⟨p,rfl⟩; have K:=aa wx p; generalize ab wx p=Q at *; (try rw [am])
     (try go_wp2_with fail)
     go_meet
     case rel=>exact⟨rfl,K⟩
   case rest =>
    obtain⟨rfl,T⟩:=hcut; obtain⟨N,Ao⟩:∃ N,N=wc:=⟨_,rfl⟩; subst Ao; have D:=M.trans (T.mono M.size); have U:=B.below T; have f:=hO (ae X.out T eG); clear f0 f1 T M X B; obtain⟨k,E⟩:=eC ((!F&&!decide (J<0))); have Ae:Hid ((F||!decide (J<0))=(F||k)):=hO (by rw [<-E.out]; cases F <;> simp)
    rw [E.out,Ae.out] at G; rw [E.out]; have Ap:Hid (k=true->F=false):=hO (fun h=>by rw [<-E.out] at h; cases F <;> simp_all)
    clear E Ae; go_upto_if 25 with fail
    go_cut [5,6] (fun s d wy=>∃ (I:List (Led.Entry × Value)) (sv2:Value),d=.bool (F||k)/\sv2=s/\Hid (I=S++if k then [x] else [])/\I.length<=2 * j+1/\eD w wy/\Blk wy w.heap.size (ag x) 36/\Hid (wy.ownsRow (w.heap.size+1) 36 5 sv2 I.length (af ag I)))
    case first =>
     cases k
     .go_wp2_with fail
      go_meet
      case rel=>exact⟨S,sv,by simp,rfl,hO (by simp),by omega,D,U,f⟩
     .have Aq:=Ap.out rfl
      subst Aq; have hl:(fM (.pointer (some ⟨w.heap.size,0,none⟩))).run prog N=.ok (.agg #[.int .i64 x.1.n,.string (str x.1.path),.string (str x.1.parent),.int .i64 x.1.ttl,x.2]) N:=ff U rfl; have g0:(w.heap.size+1)<=N.heap.size:=U.lt; have hv:Vs (N.alloc (.cells #[.int .i64 x.1.n,.string (str x.1.path),.string (str x.1.parent),.int .i64 x.1.ttl,x.2] 36)) (N.alloc (.cells #[.int .i64 x.1.n,.string (str x.1.path),.string (str x.1.parent),.int .i64 x.1.ttl,x.2] 36)).heap.size 5 (some ⟨N.heap.size,0,none⟩) 1 (ag x):=dP (Blk.new N (ag x) 36) rfl; have h6:S.length+1<=maxLen:=by unfold maxLen; omega
      go_wp2_with (at_builtin; go_must (refine au (N.alloc (.cells #[.int .i64 x.1.n,.string (str x.1.path),.string (str x.1.parent),.int .i64 x.1.ttl,x.2] 36)) rfl (.tmp 26) (.tmp 28) 23 rfl (w.heap.size+1) 36 i0 (.agg #[.int .i64 0,.string ⟨#[]⟩,.string ⟨#[]⟩,.int .i64 0,.slice none 0 0]) 5 72 underlying23 hi i1 i2 i3 rfl (by omega) _ _ _ rfl (f.out.alloc _) _ _ 1 _ (ag x) rfl hv HX.out h6 (by omega) (by simp; omega) ?_))
      intro A1 c1 w1 C _ _ H; have hd:Below (w.heap.size+1) N w1:=Mem.ay ((Below.refl (w.heap.size+1) N).alloc g0 _) H (by simp; omega) (f.out.alloc _)
      have E:=D.trans (hd.mono (by omega)); have B1:=U.older hd (by omega); have O1:Hid (w1.ownsRow (w.heap.size+1) 36 5 (.slice A1 (S.length+1) c1) (S.length+1) (af ag (S++[x]))):=hO (by
       rw [show af ag (S++[x])=af ag S++ag x by unfold af; simp]
       exact C)
      clear hv h6 C H hd g0 hl; go_wp2_with fail
      go_meet
      case rel=>exact⟨S++[x],_,rfl,rfl,hO rfl,by simp; omega,E,B1,hO (by rw [List.length_append]; exact O1.out)⟩
    case rest =>
     clear D f U; obtain⟨I,sv2,rfl,rfl,l,Az,D,U,f⟩:=hcut; obtain⟨V,Ar⟩:∃ V,V=wc:=⟨_,rfl⟩; subst Ar; have Af:Hid (∀ u∈I,u=x\/u∈L):=hO (fun u q=>by
      rw [l.out] at q; rcases List.mem_append.1 q with h|h
      .exact HM.out u h
      .cases k
       .cases h
       .exact .inl (List.mem_singleton.1 h))
     have m:=G.out; rw [<-l.out] at m; have G:=hO m; clear m HM l; have f0:∀ p,(ab V p).cell? ⟨b,R+j * 5,none⟩=some (.int .i64 y.1.n):=fun p=>Ad.out _ (D.trans ((aa V p).mono D.size)); have f1:∀ p,(ab V p).cell? ⟨w.heap.size,0,none⟩=some (.int .i64 x.1.n):=fun p=>(U.below (aa V p)).cell 0; go_upto_region 9 with fail
     refine az ?_; repeat (go_big_quiet_step (fail))
     refine wpQuiet_nil ?_; rintro _ ⟨p,rfl⟩; have K:=aa V p; have o:=D.trans (K.mono D.size); have B3:=U.below K; have O3:=hO (ae f.out K eG); generalize ab V p=Q at *; clear f0 f1 K D f U; obtain⟨d2,As⟩:=eC ((F||k)); rw [As.out] at G ⊢
     cases hq:decide (J=0)
     .rw [hq] at G e2
      have At:Hid (∀ u∈I++[y],u=x\/u∈L):=hO (fun u q=>by
       rcases List.mem_append.1 q with h|h
       .exact Af.out u h
       .exact .inr (List.mem_singleton.1 h▸An.out))
      have hl:(fM (.pointer (some ⟨b,R+j * 5,none⟩))).run prog Q=.ok (.agg #[.int .i64 y.1.n,.string (str y.1.path),.string (str y.1.parent),.int .i64 y.1.ttl,y.2]) Q:=Am.out _ o; have g0:(w.heap.size+1)<=Q.heap.size:=B3.lt; have hv:Vs (Q.alloc (.cells #[.int .i64 y.1.n,.string (str y.1.path),.string (str y.1.parent),.int .i64 y.1.ttl,y.2] 36)) (Q.alloc (.cells #[.int .i64 y.1.n,.string (str y.1.path),.string (str y.1.parent),.int .i64 y.1.ttl,y.2] 36)).heap.size 5 (some ⟨Q.heap.size,0,none⟩) 1 (ag y):=dP (Blk.new Q (ag y) 36) rfl; have h6:I.length+1<=maxLen:=by unfold maxLen; omega
      go_wp2_with (at_builtin; go_must (refine au (Q.alloc (.cells #[.int .i64 y.1.n,.string (str y.1.path),.string (str y.1.parent),.int .i64 y.1.ttl,y.2] 36)) rfl (.tmp 38) (.tmp 43) 23 rfl (w.heap.size+1) 36 i0 (.agg #[.int .i64 0,.string ⟨#[]⟩,.string ⟨#[]⟩,.int .i64 0,.slice none 0 0]) 5 72 underlying23 hi i1 i2 i3 rfl (by omega) _ _ _ rfl (O3.out.alloc _) _ _ 1 _ (ag y) rfl hv HY.out h6 (by omega) (by simp; omega) ?_))
      intro A4 c4 w4 C _ _ H; have hd:Below (w.heap.size+1) Q w4:=Mem.ay ((Below.refl (w.heap.size+1) Q).alloc g0 _) H (by simp; omega) (O3.out.alloc _)
      have Au:=o.trans (hd.mono (by omega)); have B4:=B3.older hd (by omega); have O4:Hid (w4.ownsRow (w.heap.size+1) 36 5 (.slice A4 (I.length+1) c4) (I.length+1) (af ag (I++[y]))):=hO (by
       rw [show af ag (I++[y])=af ag I++ag y by unfold af; simp]
       exact C)
      clear hv h6 C H hd g0 hl; go_wp2_with fail
      go_roundg (n - (j+1))
      case measure=>omega
      case rel=>exact⟨j+1,d2,I++[y],_,by omega,by omega,by go_num,rfl,rfl,by simp; omega,Au,B4,hO (by rw [List.length_append]; exact O4.out),G,At⟩
     .rw [hq] at G e2
      go_wp2_with fail
      go_roundg (n - (j+1))
      case measure=>omega
      case rel=>exact⟨j+1,d2,I,sv2,by omega,by omega,by go_num,rfl,rfl,by omega,o,B3,O3,hO (by simpa using G.out),Af⟩
  .have Al:¬ (j:Int)<(n:Int):=by omega
   have Ag:Hid ((if F=true then S else S++[x])=aM (fun a b:Led.Entry × Value=>cE a.1 b.1) x false L):=hO (by
    have h9:=r.out; rw [List.drop_eq_nil_of_le (by rw [HL.out]; omega),aM] at h9
    rw [<-h9]
    cases F <;> simp)
   have A0:=hO (show j=n by omega)
   cases F
   .clear r
    have Av:(fM (.pointer (some ⟨w.heap.size,0,none⟩))).run prog wx=.ok (.agg #[.int .i64 x.1.n,.string (str x.1.path),.string (str x.1.parent),.int .i64 x.1.ttl,x.2]) wx:=ff B rfl; have Ah:Vs (wx.alloc (.cells #[.int .i64 x.1.n,.string (str x.1.path),.string (str x.1.parent),.int .i64 x.1.ttl,x.2] 36)) (wx.alloc (.cells #[.int .i64 x.1.n,.string (str x.1.path),.string (str x.1.parent),.int .i64 x.1.ttl,x.2] 36)).heap.size 5 (some ⟨wx.heap.size,0,none⟩) 1 (ag x):=dP (Blk.new wx (ag x) 36) rfl; have Aw:S.length+1<=maxLen:=by unfold maxLen; omega
    go_wp2_with (at_builtin; go_must (refine au (wx.alloc (.cells #[.int .i64 x.1.n,.string (str x.1.path),.string (str x.1.parent),.int .i64 x.1.ttl,x.2] 36)) rfl (.tmp 47) (.tmp 49) 23 rfl (w.heap.size+1) 36 i0 (.agg #[.int .i64 0,.string ⟨#[]⟩,.string ⟨#[]⟩,.int .i64 0,.slice none 0 0]) 5 72 underlying23 hi i1 i2 i3 rfl (by omega) _ _ _ rfl (X.out.alloc _) _ _ 1 _ (ag x) rfl Ah HX.out Aw (by omega) (by simp; omega) ?_))
    intro A1 c1 w1 C _ _ H; have hd:Below (w.heap.size+1) wx w1:=Mem.ay ((Below.refl (w.heap.size+1) wx).alloc Aj _) H (by simp; omega) (X.out.alloc _)
    have E:=M.trans (hd.mono (by omega)); have O1:Hid (w1.ownsRow w.heap.size 36 5 (.slice A1 (S.length+1) c1) (aM (fun a b:Led.Entry × Value=>cE a.1 b.1) x false L).length (af ag (aM (fun a b:Led.Entry × Value=>cE a.1 b.1) x false L))):=hO (by
     rw [<-Ag.out,if_neg (by simp),show af ag (S++[x])=af ag S++ag x by unfold af; simp,List.length_append]
     exact aG C (by omega))
    clear Ah C H hd X B Av; go_wp2_with fail
    go_ret; exact⟨_,rfl,O1.out,E⟩
   .have O1:Hid (wx.ownsRow w.heap.size 36 5 sv (aM (fun a b:Led.Entry × Value=>cE a.1 b.1) x false L).length (af ag (aM (fun a b:Led.Entry × Value=>cE a.1 b.1) x false L))):=hO (by
     rw [<-Ag.out,if_pos rfl]; exact aG X.out (by omega))
    clear r X; go_wp2_with fail
    go_ret; exact⟨_,rfl,O1.out,M⟩
theorem nO(A:Option Addr) (n c:Nat) (L:List (Led.Node)) (x:Led.Node) (C:Bool) (w:World) (h:Es ac 5 w A n L) (hn:n<=1000) (h1:∀ y∈L,∀ u∈ac y,u.oneCell'=true) (hx:∀ u∈ac x,u.oneCell'=true) :
  Calls prog 119 #[.slice A n c,.agg (ac x).toArray,.bool C] w fun e w'=>∃ v,e=.returned v/\w'.ownsRow w.heap.size 40 5 v (aM cN x C L).length (af ac (aM cN x C L))/\eD w w':=by
 obtain⟨i0,hi,i1,i2,i3⟩:=al lj
 have HL:=hO (h.len aR (by omega))
 have HX:=hO hx
 have HO:=hO h1
 obtain⟨W,hW⟩:=eA (w.alloc (.cells (ac x).toArray 40))
 have B:Blk W w.heap.size (ac x) 40:=by rw [<-hW]; exact Blk.new _ _ _
 have M:eD w W:=eF hW
 have HW:Hid (w.alloc (.cells #[.string (str x.name),.string (str x.key),.int .i64 x.expires,.int .i64 x.seq,.string (str x.doc)] 40)=W):=hO hW
 clear hW hx h1
 show Calls prog 119 #[.slice A n c,.agg #[.string (str x.name),.string (str x.key),.int .i64 x.expires,.int .i64 x.seq,.string (str x.doc)],.bool C] w _
 go_enter func119,ntmps119
 go_upto_region 1 with fail
 rw [HW.out]
 clear HW
 go_wp2_with fail
 go_loopg [7,8,9] n (fun g s d i wx=>∃ (j:Nat) (G:Bool) (S:List (Led.Node)) (sv:Value),j<=n/\g=n - j/\i=.int .i64 (j:Int)/\d=.bool G/\sv=s/\S.length<=2 * j/\eD w wx/\Blk wx w.heap.size (ac x) 40/\Hid (wx.ownsRow (w.heap.size+1) 40 5 sv S.length (af ac S))/\Hid (S++aM cN x G (L.drop j)=aM cN x C L)/\Hid (∀ u∈S,u=x\/u∈L))
 case atStart=>exact⟨0,C,[],_,by omega,by omega,rfl,rfl,rfl,by simp,M,B,hO (World.ownsRow_nil _ _ _ _),hO rfl,hO (fun u q=>by cases q)⟩
 case round =>
  clear B M; obtain⟨j,G,S,sv,hj,rfl,rfl,rfl,rfl,Ax,M,B,Z,r,HM⟩:=hrel; obtain⟨wx,Ai⟩:∃ wx,wx=wr:=⟨_,rfl⟩; subst Ai; have Aj:(w.heap.size+1)<=wx.heap.size:=B.lt; by_cases Ak:j<n
  .have Al:(j:Int)<(n:Int):=by omega
   have Q:j<L.length:=by rw [HL.out]; exact Ak
   have z:=List.drop_eq_getElem_cons Q; have HY:=hO (HO.out _ (List.getElem_mem Q)); have Aa:=List.getElem_mem Q; obtain⟨b,T,rfl,Ay,Ab⟩:=kA h Q; have Ac:∀ w',eD w w'->w'.cell? ⟨b,T+j * 5,none⟩=some (.string (str L[j].name)):=fun w' M=>dZ aR (by omega) h Q M (j:=0) rfl; generalize L[j]=y at *; rw [z] at r; have Ad:=hO Ac; have Am:=hO Ab; clear z Ac Ab; obtain⟨N,U⟩:=eC (cN y x); have e1:Op.bytesLess y.name x.name=decide (N<0):=by rw [<-U.out]; exact pZ _ _
   have e2:(y.name==x.name)=decide (N=0):=by rw [<-U.out]; exact eq_ord _ _
   have H:Hid ((S++if (!G&&!decide (N<0)) then [x] else [])++(if decide (N=0) then [] else [y])++aM cN x (G||!decide (N<0)) (L.drop (j+1))=aM cN x C L):=hO (by
    have h9:=r.out; have h8:cN y x=N:=U.out; rw [aM] at h9; rw [<-h9]; simp only [h8,show decide (0<=N)=!decide (N<0) by rw [Bool.eq_iff_iff]; simp,List.append_assoc])
   have An:=hO Aa; clear r U Aa; have f0:∀ p,(ab wx p).cell? ⟨b,T+j * 5,none⟩=some (.string (str y.name)):=fun p=>Ad.out _ (M.trans ((aa wx p).mono M.size)); have f1:∀ p,(ab wx p).cell? ⟨w.heap.size,0,none⟩=some (.string (str x.name)):=fun p=>(B.below (aa wx p)).cell 0; go_upto_region 6 with fail
   go_cut [28] (fun t wy=>t=.bool (!G&&!decide (N<0))/\eD wx wy)
   case first =>
    cases G
    all_goals
     refine az ?_; repeat (go_big_quiet_step (fail))
     refine wpQuiet_nil ?_; rintro _ ⟨p,rfl⟩; have K:=aa wx p; generalize ab wx p=R at *; (try rw [am])
     (try go_wp2_with fail)
     go_meet
     case rel=>exact⟨rfl,K⟩
   case rest =>
    obtain⟨rfl,V⟩:=hcut; obtain⟨O,Ao⟩:∃ O,O=wc:=⟨_,rfl⟩; subst Ao; have E:=M.trans (V.mono M.size); have X:=B.below V; have f:=hO (ae Z.out V eG); clear f0 f1 V M Z B; obtain⟨k,F⟩:=eC ((!G&&!decide (N<0))); have Ae:Hid ((G||!decide (N<0))=(G||k)):=hO (by rw [<-F.out]; cases G <;> simp)
    rw [F.out,Ae.out] at H; rw [F.out]; have Ap:Hid (k=true->G=false):=hO (fun h=>by rw [<-F.out] at h; cases G <;> simp_all)
    clear F Ae; go_upto_if 28 with fail
    go_cut [7,8] (fun s d wy=>∃ (J:List (Led.Node)) (sv2:Value),d=.bool (G||k)/\sv2=s/\Hid (J=S++if k then [x] else [])/\J.length<=2 * j+1/\eD w wy/\Blk wy w.heap.size (ac x) 40/\Hid (wy.ownsRow (w.heap.size+1) 40 5 sv2 J.length (af ac J)))
    case first =>
     cases k
     .go_wp2_with fail
      go_meet
      case rel=>exact⟨S,sv,by simp,rfl,hO (by simp),by omega,E,X,f⟩
     .have Aq:=Ap.out rfl
      subst Aq; have hl:(fL (.pointer (some ⟨w.heap.size,0,none⟩))).run prog O=.ok (.agg #[.string (str x.name),.string (str x.key),.int .i64 x.expires,.int .i64 x.seq,.string (str x.doc)]) O:=ef X rfl; have g0:(w.heap.size+1)<=O.heap.size:=X.lt; have hv:Vs (O.alloc (.cells #[.string (str x.name),.string (str x.key),.int .i64 x.expires,.int .i64 x.seq,.string (str x.doc)] 40)) (O.alloc (.cells #[.string (str x.name),.string (str x.key),.int .i64 x.expires,.int .i64 x.seq,.string (str x.doc)] 40)).heap.size 5 (some ⟨O.heap.size,0,none⟩) 1 (ac x):=dP (Blk.new O (ac x) 40) rfl; have h6:S.length+1<=maxLen:=by unfold maxLen; omega
      go_wp2_with (at_builtin; go_must (refine au (O.alloc (.cells #[.string (str x.name),.string (str x.key),.int .i64 x.expires,.int .i64 x.seq,.string (str x.doc)] 40)) rfl (.tmp 29) (.tmp 31) 24 rfl (w.heap.size+1) 40 i0 (.agg #[.string ⟨#[]⟩,.string ⟨#[]⟩,.int .i64 0,.int .i64 0,.string ⟨#[]⟩]) 5 64 underlying24 hi i1 i2 i3 rfl (by omega) _ _ _ rfl (f.out.alloc _) _ _ 1 _ (ac x) rfl hv HX.out h6 (by omega) (by simp; omega) ?_))
      intro A1 c1 w1 D _ _ I; have hd:Below (w.heap.size+1) O w1:=Mem.ay ((Below.refl (w.heap.size+1) O).alloc g0 _) I (by simp; omega) (f.out.alloc _)
      have F:=E.trans (hd.mono (by omega)); have B1:=X.older hd (by omega); have O1:Hid (w1.ownsRow (w.heap.size+1) 40 5 (.slice A1 (S.length+1) c1) (S.length+1) (af ac (S++[x]))):=hO (by
       rw [show af ac (S++[x])=af ac S++ac x by unfold af; simp]
       exact D)
      clear hv h6 D I hd g0 hl; go_wp2_with fail
      go_meet
      case rel=>exact⟨S++[x],_,rfl,rfl,hO rfl,by simp; omega,F,B1,hO (by rw [List.length_append]; exact O1.out)⟩
    case rest =>
     clear E f X; obtain⟨J,sv2,rfl,rfl,l,Az,E,X,f⟩:=hcut; obtain⟨Y,Ar⟩:∃ Y,Y=wc:=⟨_,rfl⟩; subst Ar; have Af:Hid (∀ u∈J,u=x\/u∈L):=hO (fun u q=>by
      rw [l.out] at q; rcases List.mem_append.1 q with h|h
      .exact HM.out u h
      .cases k
       .cases h
       .exact .inl (List.mem_singleton.1 h))
     have m:=H.out; rw [<-l.out] at m; have H:=hO m; clear m HM l; have f0:∀ p,(ab Y p).cell? ⟨b,T+j * 5,none⟩=some (.string (str y.name)):=fun p=>Ad.out _ (E.trans ((aa Y p).mono E.size)); have f1:∀ p,(ab Y p).cell? ⟨w.heap.size,0,none⟩=some (.string (str x.name)):=fun p=>(X.below (aa Y p)).cell 0; go_upto_region 9 with fail
     refine az ?_; repeat (go_big_quiet_step (fail))
     refine wpQuiet_nil ?_; rintro _ ⟨p,rfl⟩; have K:=aa Y p; have o:=E.trans (K.mono E.size); have B3:=X.below K; have O3:=hO (ae f.out K eG); generalize ab Y p=R at *; clear f0 f1 K E f X; obtain⟨d2,As⟩:=eC ((G||k)); rw [As.out] at H ⊢
     cases hq:decide (N=0)
     .rw [hq] at H e2
      have At:Hid (∀ u∈J++[y],u=x\/u∈L):=hO (fun u q=>by
       rcases List.mem_append.1 q with h|h
       .exact Af.out u h
       .exact .inr (List.mem_singleton.1 h▸An.out))
      have hl:(fL (.pointer (some ⟨b,T+j * 5,none⟩))).run prog R=.ok (.agg #[.string (str y.name),.string (str y.key),.int .i64 y.expires,.int .i64 y.seq,.string (str y.doc)]) R:=Am.out _ o; have g0:(w.heap.size+1)<=R.heap.size:=B3.lt; have hv:Vs (R.alloc (.cells #[.string (str y.name),.string (str y.key),.int .i64 y.expires,.int .i64 y.seq,.string (str y.doc)] 40)) (R.alloc (.cells #[.string (str y.name),.string (str y.key),.int .i64 y.expires,.int .i64 y.seq,.string (str y.doc)] 40)).heap.size 5 (some ⟨R.heap.size,0,none⟩) 1 (ac y):=dP (Blk.new R (ac y) 40) rfl; have h6:J.length+1<=maxLen:=by unfold maxLen; omega
      go_wp2_with (at_builtin; go_must (refine au (R.alloc (.cells #[.string (str y.name),.string (str y.key),.int .i64 y.expires,.int .i64 y.seq,.string (str y.doc)] 40)) rfl (.tmp 41) (.tmp 46) 24 rfl (w.heap.size+1) 40 i0 (.agg #[.string ⟨#[]⟩,.string ⟨#[]⟩,.int .i64 0,.int .i64 0,.string ⟨#[]⟩]) 5 64 underlying24 hi i1 i2 i3 rfl (by omega) _ _ _ rfl (O3.out.alloc _) _ _ 1 _ (ac y) rfl hv HY.out h6 (by omega) (by simp; omega) ?_))
      intro A4 c4 w4 D _ _ I; have hd:Below (w.heap.size+1) R w4:=Mem.ay ((Below.refl (w.heap.size+1) R).alloc g0 _) I (by simp; omega) (O3.out.alloc _)
      have Au:=o.trans (hd.mono (by omega)); have B4:=B3.older hd (by omega); have O4:Hid (w4.ownsRow (w.heap.size+1) 40 5 (.slice A4 (J.length+1) c4) (J.length+1) (af ac (J++[y]))):=hO (by
       rw [show af ac (J++[y])=af ac J++ac y by unfold af; simp]
       exact D)
      clear hv h6 D I hd g0 hl; go_wp2_with fail
      go_roundg (n - (j+1))
      case measure=>omega
      case rel=>exact⟨j+1,d2,J++[y],_,by omega,by omega,by go_num,rfl,rfl,by simp; omega,Au,B4,hO (by rw [List.length_append]; exact O4.out),H,At⟩
     .rw [hq] at H e2
      go_wp2_with fail
      go_roundg (n - (j+1))
      case measure=>omega
      case rel=>exact⟨j+1,d2,J,sv2,by omega,by omega,by go_num,rfl,rfl,by omega,o,B3,O3,hO (by simpa using H.out),Af⟩
  .have Al:¬ (j:Int)<(n:Int):=by omega
   have Ag:Hid ((if G=true then S else S++[x])=aM cN x C L):=hO (by
    have h9:=r.out; rw [List.drop_eq_nil_of_le (by rw [HL.out]; omega),aM] at h9
    rw [<-h9]
    cases G <;> simp)
   have A0:=hO (show j=n by omega)
   cases G
   .clear r
    have Av:(fL (.pointer (some ⟨w.heap.size,0,none⟩))).run prog wx=.ok (.agg #[.string (str x.name),.string (str x.key),.int .i64 x.expires,.int .i64 x.seq,.string (str x.doc)]) wx:=ef B rfl; have Ah:Vs (wx.alloc (.cells #[.string (str x.name),.string (str x.key),.int .i64 x.expires,.int .i64 x.seq,.string (str x.doc)] 40)) (wx.alloc (.cells #[.string (str x.name),.string (str x.key),.int .i64 x.expires,.int .i64 x.seq,.string (str x.doc)] 40)).heap.size 5 (some ⟨wx.heap.size,0,none⟩) 1 (ac x):=dP (Blk.new wx (ac x) 40) rfl; have Aw:S.length+1<=maxLen:=by unfold maxLen; omega
    go_wp2_with (at_builtin; go_must (refine au (wx.alloc (.cells #[.string (str x.name),.string (str x.key),.int .i64 x.expires,.int .i64 x.seq,.string (str x.doc)] 40)) rfl (.tmp 50) (.tmp 52) 24 rfl (w.heap.size+1) 40 i0 (.agg #[.string ⟨#[]⟩,.string ⟨#[]⟩,.int .i64 0,.int .i64 0,.string ⟨#[]⟩]) 5 64 underlying24 hi i1 i2 i3 rfl (by omega) _ _ _ rfl (Z.out.alloc _) _ _ 1 _ (ac x) rfl Ah HX.out Aw (by omega) (by simp; omega) ?_))
    intro A1 c1 w1 D _ _ I; have hd:Below (w.heap.size+1) wx w1:=Mem.ay ((Below.refl (w.heap.size+1) wx).alloc Aj _) I (by simp; omega) (Z.out.alloc _)
    have F:=M.trans (hd.mono (by omega)); have O1:Hid (w1.ownsRow w.heap.size 40 5 (.slice A1 (S.length+1) c1) (aM cN x C L).length (af ac (aM cN x C L))):=hO (by
     rw [<-Ag.out,if_neg (by simp),show af ac (S++[x])=af ac S++ac x by unfold af; simp,List.length_append]
     exact aG D (by omega))
    clear Ah D I hd Z B Av; go_wp2_with fail
    go_ret; exact⟨_,rfl,O1.out,F⟩
   .have O1:Hid (wx.ownsRow w.heap.size 40 5 sv (aM cN x C L).length (af ac (aM cN x C L))):=hO (by
     rw [<-Ag.out,if_pos rfl]; exact aG Z.out (by omega))
    clear r Z; go_wp2_with fail
    go_ret; exact⟨_,rfl,O1.out,M⟩
theorem scanBun_any(A:Option Addr) (n c:Nat) (L:List (Led.Bundle × Value)) (x:Led.Bundle × Value) (C:Bool) (w:World) (h:Es ai 3 w A n L) (hn:n<=1000) (h1:∀ y∈L,∀ u∈ai y,u.oneCell'=true) (hx:∀ u∈ai x,u.oneCell'=true) :
  Calls prog 123 #[.slice A n c,.agg (ai x).toArray,.bool C] w fun e w'=>∃ v,e=.returned v/\w'.ownsRow w.heap.size 45 3 v (aM (fun a b:Led.Bundle × Value=>cB a.1 b.1) x C L).length (af ai (aM (fun a b:Led.Bundle × Value=>cB a.1 b.1) x C L))/\eD w w':=by
 obtain⟨i0,hi,i1,i2,i3⟩:=al ll
 have HL:=hO (h.len aU (by omega))
 have HX:=hO hx
 have HO:=hO h1
 obtain⟨W,hW⟩:=eA (w.alloc (.cells (ai x).toArray 45))
 have B:Blk W w.heap.size (ai x) 45:=by rw [<-hW]; exact Blk.new _ _ _
 have M:eD w W:=eF hW
 have HW:Hid (w.alloc (.cells #[.string (str x.1.domain),.int .i64 x.1.number,x.2] 45)=W):=hO hW
 clear hW hx h1
 show Calls prog 123 #[.slice A n c,.agg #[.string (str x.1.domain),.int .i64 x.1.number,x.2],.bool C] w _
 go_enter func123,ntmps123
 go_upto_region 1 with fail
 rw [HW.out]
 clear HW
 go_wp2_with fail
 go_loopg [7,8,9] n (fun g s d i wx=>∃ (j:Nat) (G:Bool) (S:List (Led.Bundle × Value)) (sv:Value),j<=n/\g=n - j/\i=.int .i64 (j:Int)/\d=.bool G/\sv=s/\S.length<=2 * j/\eD w wx/\Blk wx w.heap.size (ai x) 45/\Hid (wx.ownsRow (w.heap.size+1) 45 3 sv S.length (af ai S))/\Hid (S++aM (fun a b:Led.Bundle × Value=>cB a.1 b.1) x G (L.drop j)=aM (fun a b:Led.Bundle × Value=>cB a.1 b.1) x C L)/\Hid (∀ u∈S,u=x\/u∈L))
 case atStart=>exact⟨0,C,[],_,by omega,by omega,rfl,rfl,rfl,by simp,M,B,hO (World.ownsRow_nil _ _ _ _),hO rfl,hO (fun u q=>by cases q)⟩
 case round =>
  clear B M; obtain⟨j,G,S,sv,hj,rfl,rfl,rfl,rfl,Ax,M,B,Z,r,HM⟩:=hrel; obtain⟨wx,Ai⟩:∃ wx,wx=wr:=⟨_,rfl⟩; subst Ai; have Aj:(w.heap.size+1)<=wx.heap.size:=B.lt; by_cases Ak:j<n
  .have Al:(j:Int)<(n:Int):=by omega
   have Q:j<L.length:=by rw [HL.out]; exact Ak
   have z:=List.drop_eq_getElem_cons Q; have HY:=hO (HO.out _ (List.getElem_mem Q)); have Aa:=List.getElem_mem Q; obtain⟨b,T,rfl,Ay,Ab⟩:=mD h Q; have Ac:∀ w',eD w w'->w'.cell? ⟨b,T+j * 3,none⟩=some (.string (str L[j].1.domain)):=fun w' M=>dZ aU (by omega) h Q M (j:=0) rfl; generalize L[j]=y at *; rw [z] at r; have Ad:=hO Ac; have Am:=hO Ab; clear z Ac Ab; obtain⟨N,U⟩:=eC ((fun a b:Led.Bundle × Value=>cB a.1 b.1) y x); have e1:Op.bytesLess y.1.domain x.1.domain=decide (N<0):=by rw [<-U.out]; exact pZ _ _
   have e2:(y.1.domain==x.1.domain)=decide (N=0):=by rw [<-U.out]; exact eq_ord _ _
   have H:Hid ((S++if (!G&&!decide (N<0)) then [x] else [])++(if decide (N=0) then [] else [y])++aM (fun a b:Led.Bundle × Value=>cB a.1 b.1) x (G||!decide (N<0)) (L.drop (j+1))=aM (fun a b:Led.Bundle × Value=>cB a.1 b.1) x C L):=hO (by
    have h9:=r.out; have h8:cB y.1 x.1=N:=U.out; rw [aM] at h9; rw [<-h9]; simp only [h8,show decide (0<=N)=!decide (N<0) by rw [Bool.eq_iff_iff]; simp,List.append_assoc])
   have An:=hO Aa; clear r U Aa; have f0:∀ p,(ab wx p).cell? ⟨b,T+j * 3,none⟩=some (.string (str y.1.domain)):=fun p=>Ad.out _ (M.trans ((aa wx p).mono M.size)); have f1:∀ p,(ab wx p).cell? ⟨w.heap.size,0,none⟩=some (.string (str x.1.domain)):=fun p=>(B.below (aa wx p)).cell 0; go_upto_region 6 with fail
   go_cut [28] (fun t wy=>t=.bool (!G&&!decide (N<0))/\eD wx wy)
   case first =>
    cases G
    all_goals
     refine az ?_; repeat (go_big_quiet_step (fail))
     refine wpQuiet_nil ?_; rintro _ ⟨p,rfl⟩; have K:=aa wx p; generalize ab wx p=R at *; (try rw [am])
     (try go_wp2_with fail)
     go_meet
     case rel=>exact⟨rfl,K⟩
   case rest =>
    obtain⟨rfl,V⟩:=hcut; obtain⟨O,Ao⟩:∃ O,O=wc:=⟨_,rfl⟩; subst Ao; have E:=M.trans (V.mono M.size); have X:=B.below V; have f:=hO (ae Z.out V eG); clear f0 f1 V M Z B; obtain⟨k,F⟩:=eC ((!G&&!decide (N<0))); have Ae:Hid ((G||!decide (N<0))=(G||k)):=hO (by rw [<-F.out]; cases G <;> simp)
    rw [F.out,Ae.out] at H; rw [F.out]; have Ap:Hid (k=true->G=false):=hO (fun h=>by rw [<-F.out] at h; cases G <;> simp_all)
    clear F Ae; go_upto_if 28 with fail
    go_cut [7,8] (fun s d wy=>∃ (J:List (Led.Bundle × Value)) (sv2:Value),d=.bool (G||k)/\sv2=s/\Hid (J=S++if k then [x] else [])/\J.length<=2 * j+1/\eD w wy/\Blk wy w.heap.size (ai x) 45/\Hid (wy.ownsRow (w.heap.size+1) 45 3 sv2 J.length (af ai J)))
    case first =>
     cases k
     .go_wp2_with fail
      go_meet
      case rel=>exact⟨S,sv,by simp,rfl,hO (by simp),by omega,E,X,f⟩
     .have Aq:=Ap.out rfl
      subst Aq; have hl:(fz (.pointer (some ⟨w.heap.size,0,none⟩))).run prog O=.ok (.agg #[.string (str x.1.domain),.int .i64 x.1.number,x.2]) O:=di X rfl; have g0:(w.heap.size+1)<=O.heap.size:=X.lt; have hv:Vs (O.alloc (.cells #[.string (str x.1.domain),.int .i64 x.1.number,x.2] 45)) (O.alloc (.cells #[.string (str x.1.domain),.int .i64 x.1.number,x.2] 45)).heap.size 3 (some ⟨O.heap.size,0,none⟩) 1 (ai x):=dP (Blk.new O (ai x) 45) rfl; have h6:S.length+1<=maxLen:=by unfold maxLen; omega
      go_wp2_with (at_builtin; go_must (refine au (O.alloc (.cells #[.string (str x.1.domain),.int .i64 x.1.number,x.2] 45)) rfl (.tmp 29) (.tmp 31) 28 rfl (w.heap.size+1) 45 i0 (.agg #[.string ⟨#[]⟩,.int .i64 0,.slice none 0 0]) 3 48 underlying28 hi i1 i2 i3 rfl (by omega) _ _ _ rfl (f.out.alloc _) _ _ 1 _ (ai x) rfl hv HX.out h6 (by omega) (by simp; omega) ?_))
      intro A1 c1 w1 D _ _ I; have hd:Below (w.heap.size+1) O w1:=Mem.ay ((Below.refl (w.heap.size+1) O).alloc g0 _) I (by simp; omega) (f.out.alloc _)
      have F:=E.trans (hd.mono (by omega)); have B1:=X.older hd (by omega); have O1:Hid (w1.ownsRow (w.heap.size+1) 45 3 (.slice A1 (S.length+1) c1) (S.length+1) (af ai (S++[x]))):=hO (by
       rw [show af ai (S++[x])=af ai S++ai x by unfold af; simp]
       exact D)
      clear hv h6 D I hd g0 hl; go_wp2_with fail
      go_meet
      case rel=>exact⟨S++[x],_,rfl,rfl,hO rfl,by simp; omega,F,B1,hO (by rw [List.length_append]; exact O1.out)⟩
    case rest =>
     clear E f X; obtain⟨J,sv2,rfl,rfl,l,Az,E,X,f⟩:=hcut; obtain⟨Y,Ar⟩:∃ Y,Y=wc:=⟨_,rfl⟩; subst Ar; have Af:Hid (∀ u∈J,u=x\/u∈L):=hO (fun u q=>by
      rw [l.out] at q; rcases List.mem_append.1 q with h|h
      .exact HM.out u h
      .cases k
       .cases h
       .exact .inl (List.mem_singleton.1 h))
     have m:=H.out; rw [<-l.out] at m; have H:=hO m; clear m HM l; have f0:∀ p,(ab Y p).cell? ⟨b,T+j * 3,none⟩=some (.string (str y.1.domain)):=fun p=>Ad.out _ (E.trans ((aa Y p).mono E.size)); have f1:∀ p,(ab Y p).cell? ⟨w.heap.size,0,none⟩=some (.string (str x.1.domain)):=fun p=>(X.below (aa Y p)).cell 0; go_upto_region 9 with fail
     refine az ?_; repeat (go_big_quiet_step (fail))
     refine wpQuiet_nil ?_; rintro _ ⟨p,rfl⟩; have K:=aa Y p; have o:=E.trans (K.mono E.size); have B3:=X.below K; have O3:=hO (ae f.out K eG); generalize ab Y p=R at *; clear f0 f1 K E f X; obtain⟨d2,As⟩:=eC ((G||k)); rw [As.out] at H ⊢
     cases hq:decide (N=0)
     .rw [hq] at H e2
      have At:Hid (∀ u∈J++[y],u=x\/u∈L):=hO (fun u q=>by
       rcases List.mem_append.1 q with h|h
       .exact Af.out u h
       .exact .inr (List.mem_singleton.1 h▸An.out))
      have hl:(fz (.pointer (some ⟨b,T+j * 3,none⟩))).run prog R=.ok (.agg #[.string (str y.1.domain),.int .i64 y.1.number,y.2]) R:=Am.out _ o; have g0:(w.heap.size+1)<=R.heap.size:=B3.lt; have hv:Vs (R.alloc (.cells #[.string (str y.1.domain),.int .i64 y.1.number,y.2] 45)) (R.alloc (.cells #[.string (str y.1.domain),.int .i64 y.1.number,y.2] 45)).heap.size 3 (some ⟨R.heap.size,0,none⟩) 1 (ai y):=dP (Blk.new R (ai y) 45) rfl; have h6:J.length+1<=maxLen:=by unfold maxLen; omega
      go_wp2_with (at_builtin; go_must (refine au (R.alloc (.cells #[.string (str y.1.domain),.int .i64 y.1.number,y.2] 45)) rfl (.tmp 41) (.tmp 46) 28 rfl (w.heap.size+1) 45 i0 (.agg #[.string ⟨#[]⟩,.int .i64 0,.slice none 0 0]) 3 48 underlying28 hi i1 i2 i3 rfl (by omega) _ _ _ rfl (O3.out.alloc _) _ _ 1 _ (ai y) rfl hv HY.out h6 (by omega) (by simp; omega) ?_))
      intro A4 c4 w4 D _ _ I; have hd:Below (w.heap.size+1) R w4:=Mem.ay ((Below.refl (w.heap.size+1) R).alloc g0 _) I (by simp; omega) (O3.out.alloc _)
      have Au:=o.trans (hd.mono (by omega)); have B4:=B3.older hd (by omega); have O4:Hid (w4.ownsRow (w.heap.size+1) 45 3 (.slice A4 (J.length+1) c4) (J.length+1) (af ai (J++[y]))):=hO (by
       rw [show af ai (J++[y])=af ai J++ai y by unfold af; simp]
       exact D)
      clear hv h6 D I hd g0 hl; go_wp2_with fail
      go_roundg (n - (j+1))
      case measure=>omega
      case rel=>exact⟨j+1,d2,J++[y],_,by omega,by omega,by go_num,rfl,rfl,by simp; omega,Au,B4,hO (by rw [List.length_append]; exact O4.out),H,At⟩
     .rw [hq] at H e2
      go_wp2_with fail
      go_roundg (n - (j+1))
      case measure=>omega
      case rel=>exact⟨j+1,d2,J,sv2,by omega,by omega,by go_num,rfl,rfl,by omega,o,B3,O3,hO (by simpa using H.out),Af⟩
  .have Al:¬ (j:Int)<(n:Int):=by omega
   have Ag:Hid ((if G=true then S else S++[x])=aM (fun a b:Led.Bundle × Value=>cB a.1 b.1) x C L):=hO (by
    have h9:=r.out; rw [List.drop_eq_nil_of_le (by rw [HL.out]; omega),aM] at h9
    rw [<-h9]
    cases G <;> simp)
   have A0:=hO (show j=n by omega)
   cases G
   .clear r
    have Av:(fz (.pointer (some ⟨w.heap.size,0,none⟩))).run prog wx=.ok (.agg #[.string (str x.1.domain),.int .i64 x.1.number,x.2]) wx:=di B rfl; have Ah:Vs (wx.alloc (.cells #[.string (str x.1.domain),.int .i64 x.1.number,x.2] 45)) (wx.alloc (.cells #[.string (str x.1.domain),.int .i64 x.1.number,x.2] 45)).heap.size 3 (some ⟨wx.heap.size,0,none⟩) 1 (ai x):=dP (Blk.new wx (ai x) 45) rfl; have Aw:S.length+1<=maxLen:=by unfold maxLen; omega
    go_wp2_with (at_builtin; go_must (refine au (wx.alloc (.cells #[.string (str x.1.domain),.int .i64 x.1.number,x.2] 45)) rfl (.tmp 50) (.tmp 52) 28 rfl (w.heap.size+1) 45 i0 (.agg #[.string ⟨#[]⟩,.int .i64 0,.slice none 0 0]) 3 48 underlying28 hi i1 i2 i3 rfl (by omega) _ _ _ rfl (Z.out.alloc _) _ _ 1 _ (ai x) rfl Ah HX.out Aw (by omega) (by simp; omega) ?_))
    intro A1 c1 w1 D _ _ I; have hd:Below (w.heap.size+1) wx w1:=Mem.ay ((Below.refl (w.heap.size+1) wx).alloc Aj _) I (by simp; omega) (Z.out.alloc _)
    have F:=M.trans (hd.mono (by omega)); have O1:Hid (w1.ownsRow w.heap.size 45 3 (.slice A1 (S.length+1) c1) (aM (fun a b:Led.Bundle × Value=>cB a.1 b.1) x C L).length (af ai (aM (fun a b:Led.Bundle × Value=>cB a.1 b.1) x C L))):=hO (by
     rw [<-Ag.out,if_neg (by simp),show af ai (S++[x])=af ai S++ai x by unfold af; simp,List.length_append]
     exact aG D (by omega))
    clear Ah D I hd Z B Av; go_wp2_with fail
    go_ret; exact⟨_,rfl,O1.out,F⟩
   .have O1:Hid (wx.ownsRow w.heap.size 45 3 sv (aM (fun a b:Led.Bundle × Value=>cB a.1 b.1) x C L).length (af ai (aM (fun a b:Led.Bundle × Value=>cB a.1 b.1) x C L))):=hO (by
     rw [<-Ag.out,if_pos rfl]; exact aG Z.out (by omega))
    clear r Z; go_wp2_with fail
    go_ret; exact⟨_,rfl,O1.out,M⟩
theorem scanStr_any(A:Option Addr) (n c:Nat) (L:List (Txt)) (x:Txt) (B:Bool) (w:World) (h:Es aj 1 w A n L) (hn:n<=1000) (h1:∀ y∈L,∀ u∈aj y,u.oneCell'=true) (hx:∀ u∈aj x,u.oneCell'=true) :
  Calls prog 120 #[.slice A n c,.string (str x),.bool B] w fun e w'=>∃ v,e=.returned v/\w'.ownsRow w.heap.size 9 1 v (aM ord x B L).length (af aj (aM ord x B L))/\eD w w':=by
 obtain⟨i0,hi,i1,i2,i3⟩:=al li
 have HL:=hO (h.len strRow_len2 (by omega))
 have HX:=hO hx
 have HO:=hO h1
 have K:eD w w:=Below.refl _ _
 clear hx h1
 go_enter func120,ntmps120
 go_wp2_with fail
 go_loopg [7,8,9] n (fun g s d i wx=>∃ (j:Nat) (E:Bool) (S:List (Txt)) (sv:Value),j<=n/\g=n - j/\i=.int .i64 (j:Int)/\d=.bool E/\sv=s/\S.length<=2 * j/\eD w wx/\Hid (wx.ownsRow w.heap.size 9 1 sv S.length (af aj S))/\Hid (S++aM ord x E (L.drop j)=aM ord x B L)/\Hid (∀ u∈S,u=x\/u∈L))
 case atStart=>exact⟨0,B,[],_,by omega,by omega,rfl,rfl,rfl,by simp,K,hO (World.ownsRow_nil _ _ _ _),hO rfl,hO (fun u l=>by cases l)⟩
 case round =>
  clear K; obtain⟨j,E,S,sv,hj,rfl,rfl,rfl,rfl,Au,K,U,m,HM⟩:=hrel; obtain⟨wx,Af⟩:∃ wx,wx=wr:=⟨_,rfl⟩; subst Af; have Ag:w.heap.size<=wx.heap.size:=K.size; by_cases Ah:j<n
  .have Ai:(j:Int)<(n:Int):=by omega
   have Q:j<L.length:=by rw [HL.out]; exact Ah
   have o:=List.drop_eq_getElem_cons Q; have HY:=hO (HO.out _ (List.getElem_mem Q)); have q:=List.getElem_mem Q; have r:Ts w A n L:=by rw [<-rows_es]; exact h
   obtain⟨b,z,rfl,I⟩:=r.lit (i:=j) Q; have Aj:b<w.heap.size:=World.block_lt_of_cell? w _ I; have Aa:∀ w',eD w w'->w'.cell? ⟨b,z+j,none⟩=some (.string (str L[j])):=fun w' K=>(K.cell (p:=⟨b,z+j,none⟩) Aj).trans I; clear r I; generalize L[j]=y at *; rw [o] at m; have V:=hO Aa; clear o Aa; obtain⟨M,R⟩:=eC (ord y x); have e1:Op.bytesLess y x=decide (M<0):=by rw [<-R.out]; exact pZ _ _
   have e2:(y==x)=decide (M=0):=by rw [<-R.out]; exact eq_ord _ _
   have F:Hid ((S++if (!E&&!decide (M<0)) then [x] else [])++(if decide (M=0) then [] else [y])++aM ord x (E||!decide (M<0)) (L.drop (j+1))=aM ord x B L):=hO (by
    have h9:=m.out; have h8:ord y x=M:=R.out; rw [aM] at h9; rw [<-h9]; simp only [h8,show decide (0<=M)=!decide (M<0) by rw [Bool.eq_iff_iff]; simp,List.append_assoc])
   have Ak:=hO q; clear m R q; have f0:=V.out _ K; go_upto_region 6 with fail
   go_cut [26] (fun t wy=>t=.bool (!E&&!decide (M<0))/\eD wx wy)
   case first =>
    cases E
    all_goals
     go_wp2_with fail
     go_meet
     case rel=>exact⟨rfl,Below.refl _ _⟩
   case rest =>
    obtain⟨rfl,X⟩:=hcut; obtain⟨N,Al⟩:∃ N,N=wc:=⟨_,rfl⟩; subst Al; have G:=K.trans (X.mono K.size); have Y:=hO (ae U.out X eG); clear f0 X K U; obtain⟨Z,D⟩:=eC ((!E&&!decide (M<0))); have Ab:Hid ((E||!decide (M<0))=(E||Z)):=hO (by rw [<-D.out]; cases E <;> simp)
    rw [D.out,Ab.out] at F; rw [D.out]; have Am:Hid (Z=true->E=false):=hO (fun h=>by rw [<-D.out] at h; cases E <;> simp_all)
    clear D Ab; go_upto_if 26 with fail
    go_cut [7,8] (fun s d wy=>∃ (J:List (Txt)) (sv2:Value),d=.bool (E||Z)/\sv2=s/\Hid (J=S++if Z then [x] else [])/\J.length<=2 * j+1/\eD w wy/\Hid (wy.ownsRow w.heap.size 9 1 sv2 J.length (af aj J)))
    case first =>
     cases Z
     .go_wp2_with fail
      go_meet
      case rel=>exact⟨S,sv,by simp,rfl,hO (by simp),by omega,G,Y⟩
     .have An:=Am.out rfl
      subst An; have g0:w.heap.size<=N.heap.size:=G.size; have hv:Vs (N.alloc (.cells #[.string (str x)] 9)) (N.alloc (.cells #[.string (str x)] 9)).heap.size 1 (some ⟨N.heap.size,0,none⟩) 1 (aj x):=dP (Blk.new N (aj x) 9) rfl; have h6:S.length+1<=maxLen:=by unfold maxLen; omega
      go_wp2_with (at_builtin; go_must (refine au (N.alloc (.cells #[.string (str x)] 9)) rfl (.tmp 27) (.tmp 29) 25 rfl w.heap.size 9 i0 (.string ⟨#[]⟩) 1 16 underlying25 hi i1 i2 i3 rfl (by omega) _ _ _ rfl (Y.out.alloc _) _ _ 1 _ (aj x) rfl hv HX.out h6 (by omega) (by simp; omega) ?_))
      intro A1 c1 w1 C _ _ H; have hd:Below w.heap.size N w1:=Mem.ay ((Below.refl w.heap.size N).alloc g0 _) H (by simp; omega) (Y.out.alloc _)
      have D:=G.trans (hd.mono (by omega)); have O1:Hid (w1.ownsRow w.heap.size 9 1 (.slice A1 (S.length+1) c1) (S.length+1) (af aj (S++[x]))):=hO (by
       rw [show af aj (S++[x])=af aj S++aj x by unfold af; simp]
       exact C)
      clear hv h6 C H hd g0; go_wp2_with fail
      go_meet
      case rel=>exact⟨S++[x],_,rfl,rfl,hO rfl,by simp; omega,D,hO (by rw [List.length_append]; exact O1.out)⟩
    case rest =>
     clear G Y; obtain⟨J,sv2,rfl,rfl,f,Av,G,Y⟩:=hcut; obtain⟨wb,Ao⟩:∃ wb,wb=wc:=⟨_,rfl⟩; subst Ao; have Ac:Hid (∀ u∈J,u=x\/u∈L):=hO (fun u l=>by
      rw [f.out] at l; rcases List.mem_append.1 l with h|h
      .exact HM.out u h
      .cases Z
       .cases h
       .exact .inl (List.mem_singleton.1 h))
     have k:=F.out; rw [<-f.out] at k; have F:=hO k; clear k HM f; have Aw:=V.out _ G; obtain⟨O,Ap⟩:∃ O,O=wb:=⟨_,rfl⟩; subst Ap; have T:=G; have O3:=Y; clear G Y; obtain⟨d2,Aq⟩:=eC ((E||Z)); rw [Aq.out] at F ⊢
     cases hq:decide (M=0)
     .rw [hq] at F e2
      have Ar:Hid (∀ u∈J++[y],u=x\/u∈L):=hO (fun u l=>by
       rcases List.mem_append.1 l with h|h
       .exact Ac.out u h
       .exact .inr (List.mem_singleton.1 h▸Ak.out))
      have hl:=V.out _ T; have g0:w.heap.size<=O.heap.size:=T.size; have hv:Vs (O.alloc (.cells #[.string (str y)] 9)) (O.alloc (.cells #[.string (str y)] 9)).heap.size 1 (some ⟨O.heap.size,0,none⟩) 1 (aj y):=dP (Blk.new O (aj y) 9) rfl; have h6:J.length+1<=maxLen:=by unfold maxLen; omega
      go_wp2_with (at_builtin; go_must (refine au (O.alloc (.cells #[.string (str y)] 9)) rfl (.tmp 37) (.tmp 42) 25 rfl w.heap.size 9 i0 (.string ⟨#[]⟩) 1 16 underlying25 hi i1 i2 i3 rfl (by omega) _ _ _ rfl (O3.out.alloc _) _ _ 1 _ (aj y) rfl hv HY.out h6 (by omega) (by simp; omega) ?_))
      intro A4 c4 w4 C _ _ H; have hd:Below w.heap.size O w4:=Mem.ay ((Below.refl w.heap.size O).alloc g0 _) H (by simp; omega) (O3.out.alloc _)
      have As:=T.trans (hd.mono (by omega)); have O4:Hid (w4.ownsRow w.heap.size 9 1 (.slice A4 (J.length+1) c4) (J.length+1) (af aj (J++[y]))):=hO (by
       rw [show af aj (J++[y])=af aj J++aj y by unfold af; simp]
       exact C)
      clear hv h6 C H hd g0 hl; go_wp2_with fail
      go_roundg (n - (j+1))
      case measure=>omega
      case rel=>exact⟨j+1,d2,J++[y],_,by omega,by omega,by go_num,rfl,rfl,by simp; omega,As,hO (by rw [List.length_append]; exact O4.out),F,Ar⟩
     .rw [hq] at F e2
      go_wp2_with fail
      go_roundg (n - (j+1))
      case measure=>omega
      case rel=>exact⟨j+1,d2,J,sv2,by omega,by omega,by go_num,rfl,rfl,by omega,T,O3,hO (by simpa using F.out),Ac⟩
  .have Ai:¬ (j:Int)<(n:Int):=by omega
   have Ad:Hid ((if E=true then S else S++[x])=aM ord x B L):=hO (by
    have h9:=m.out; rw [List.drop_eq_nil_of_le (by rw [HL.out]; omega),aM] at h9
    rw [<-h9]
    cases E <;> simp)
   have Ax:=hO (show j=n by omega)
   cases E
   .clear m
    have Ae:Vs (wx.alloc (.cells #[.string (str x)] 9)) (wx.alloc (.cells #[.string (str x)] 9)).heap.size 1 (some ⟨wx.heap.size,0,none⟩) 1 (aj x):=dP (Blk.new wx (aj x) 9) rfl; have At:S.length+1<=maxLen:=by unfold maxLen; omega
    go_wp2_with (at_builtin; go_must (refine au (wx.alloc (.cells #[.string (str x)] 9)) rfl (.tmp 46) (.tmp 48) 25 rfl w.heap.size 9 i0 (.string ⟨#[]⟩) 1 16 underlying25 hi i1 i2 i3 rfl (by omega) _ _ _ rfl (U.out.alloc _) _ _ 1 _ (aj x) rfl Ae HX.out At (by omega) (by simp; omega) ?_))
    intro A1 c1 w1 C _ _ H; have hd:Below w.heap.size wx w1:=Mem.ay ((Below.refl w.heap.size wx).alloc Ag _) H (by simp; omega) (U.out.alloc _)
    have D:=K.trans (hd.mono (by omega)); have O1:Hid (w1.ownsRow w.heap.size 9 1 (.slice A1 (S.length+1) c1) (aM ord x B L).length (af aj (aM ord x B L))):=hO (by
     rw [<-Ad.out,if_neg (by simp),show af aj (S++[x])=af aj S++aj x by unfold af; simp,List.length_append]
     exact aG C (by omega))
    clear Ae C H hd U; go_wp2_with fail
    go_ret; exact⟨_,rfl,O1.out,D⟩
   .have O1:Hid (wx.ownsRow w.heap.size 9 1 sv (aM ord x B L).length (af aj (aM ord x B L))):=hO (by
     rw [<-Ad.out,if_pos rfl]; exact aG U.out (by omega))
    clear m U; go_wp2_with fail
    go_ret; exact⟨_,rfl,O1.out,K⟩
end
section
open Go.RowKit Mem Led
theorem dx(x a b:Int):aI x a b=(decide (a<=x)&&decide (x<=b)):=by unfold aI; simp
theorem rnode_any(n:Led.Node) (w:World) (S:n.name.length<=9223372036854775807):Calls prog 17 #[.agg (ac n).toArray] w fun e w'=>e=.returned (.bool (cI n))/\eD w w':=by
 obtain⟨W,G⟩:=eA (w.alloc (.cells (ac n).toArray 40))
 have C:Blk W w.heap.size (ac n) 40:=by rw [<-G]; exact Blk.new w _ _
 have I:eD w W:=eF G
 have J:=jG n.name W S
 have U:W.cell? ⟨w.heap.size,0,none⟩=some (.string (str n.name)):=C.cell 0
 have V:W.cell? ⟨w.heap.size,1,none⟩=some (.string (str n.key)):=C.cell 1
 have X:W.cell? ⟨w.heap.size,2,none⟩=some (.int .i64 n.expires):=C.cell 2
 have Y:W.cell? ⟨w.heap.size,3,none⟩=some (.int .i64 n.seq):=C.cell 3
 have Z:W.cell? ⟨w.heap.size,4,none⟩=some (.string (str n.doc)):=C.cell 4
 have A:cI n=(Ids.agent n.name&&decide ((n.key.length:Int)=32)&&decide (0<=n.expires)&&decide (n.expires<=1099511627776)&&decide (0<=n.seq)&&decide (n.seq<=1099511627776)&&decide ((n.doc.length:Int)<=16)):=by
  unfold cI; rw [dx,dx,show (n.key.length==32)=decide ((n.key.length:Int)=32) by rw [Bool.eq_iff_iff]; simp; omega,show decide (n.doc.length<=16)=decide ((n.doc.length:Int)<=16) by rw [Bool.eq_iff_iff]; simp; omega]
  simp only [Bool.and_assoc]
 rw [A]
 generalize Ids.agent n.name=L at *
 obtain⟨K,O⟩:=eA (n.key.length)
 obtain⟨D,Q⟩:=eA (n.doc.length)
 have b:(str n.key).size=K:=by rw [aJ,O]
 have c:(str n.doc).size=D:=by rw [aJ,Q]
 rw [O,Q]
 have M:=hO G
 have B:L=false\/(L=true/\((¬ (K:Int)=32)\/((K:Int)=32/\¬ 0<=n.expires)\/((K:Int)=32/\0<=n.expires/\¬ n.expires<=1099511627776)\/((K:Int)=32/\0<=n.expires/\n.expires<=1099511627776/\¬ 0<=n.seq)\/((K:Int)=32/\0<=n.expires/\n.expires<=1099511627776/\0<=n.seq/\¬ n.seq<=1099511627776)
  \/ ((K:Int)=32/\0<=n.expires/\n.expires<=1099511627776/\0<=n.seq/\n.seq<=1099511627776/\¬ (D:Int)<=16)\/((K:Int)=32/\0<=n.expires/\n.expires<=1099511627776/\0<=n.seq/\n.seq<=1099511627776/\(D:Int)<=16))):=by
  cases L
  .exact .inl rfl
  .refine .inr ⟨rfl,?_⟩
   omega
 unfold ac tx nm at M ⊢
 clear G A
 go_enter func17,ntmps17
 go_upto_region 1 with fail
 rw [M.out]
 clear M C
 go_wp2_with fail
 refine J.mono ?_
 rintro e d ⟨rfl,rfl⟩
 rcases B with rfl|⟨rfl,E|⟨E,F⟩|⟨E,F,H⟩|⟨E,F,H,N⟩|⟨E,F,H,N,R⟩|⟨E,F,H,N,R,T⟩|⟨E,F,H,N,R,T⟩⟩
 all_goals
  go_wp2_with fail
  go_ret; exact⟨by simp [*] <;> omega,I⟩
theorem rentry_any(e:Led.Entry) (v:Value) (w:World) (hv:bm w v e.sels) (hn:e.sels.length<=1000) (hz:∀ x∈e.sels,x.length<=9223372036854775807) (V:e.path.length<=9223372036854775807) (r:e.parent.length<=9223372036854775807) :
  Calls prog 16 #[.agg (ag (e,v)).toArray] w fun x w'=>x=.returned (.bool (cM e))/\eD w w':=by
 obtain⟨A,n,c,rfl,hf,ht⟩:=hv
 have Aa:=ht.len
 obtain⟨W,l⟩:=eA (w.alloc (.cells (ag (e,.slice A n c)).toArray 36))
 have s:Blk W w.heap.size (ag (e,.slice A n c)) 36:=by rw [<-l]; exact Blk.new w _ _
 have M:eD w W:=eF l
 have B:=rset_any A n c e.sels W (Ts.below ht M) (by omega) hz
 have K:cM e=(((Ids.ey e.sels).2==0)&&decide ((Ids.ey e.sels).1.getD []=e.sels)&&decide (0<((Ids.ey e.sels).1.getD []).length)&&Ids.path e.path&&!Ids.agent e.path&&Ids.path e.parent&&decide (1<=e.n)&&decide (e.n<=1099511627776)&&decide (1<=e.ttl)&&decide (e.ttl<=1000)):=by
  unfold cM; rw [dx,dx]; generalize Ids.ey e.sels=S; have L:(S.1.getD []==e.sels)=decide (S.1.getD []=e.sels):=by rw [Bool.eq_iff_iff]; simp
  have U:(decide (S.1.getD []=e.sels)&&!e.sels.isEmpty)=(decide (S.1.getD []=e.sels)&&decide (0<(S.1.getD []).length)):=by
   by_cases h:S.1.getD []=e.sels
   .rw [h]
    cases e.sels <;> simp
   .rw [decide_eq_false h]
    rfl
  rw [L]; have X:((S.2==0)&&decide (S.1.getD []=e.sels)&&!e.sels.isEmpty)=((S.2==0)&&decide (S.1.getD []=e.sels)&&decide (0<(S.1.getD []).length)):=by rw [Bool.and_assoc,U,Bool.and_assoc]
  rw [X]; simp only [Bool.and_assoc]
 rw [K]
 clear K
 unfold t6 at B
 generalize hS:(Ids.ey e.sels)=S at *
 obtain⟨S1,F⟩:=S
 dsimp only at B ⊢
 generalize S1.getD []=S' at *
 clear hS
 obtain⟨Y,C⟩:∃ Y,decide (S'=e.sels)=Y:=⟨_,rfl⟩
 obtain⟨sl,D⟩:=eA (decide (0<S'.length))
 obtain⟨o,N⟩:=eA ((F==0))
 have hF:((F:Int)==0)=o:=by rw [<-N,Bool.eq_iff_iff]; simp
 rw [C,D,N]
 have t:=hO l
 clear l
 have c4:W.cell? ⟨w.heap.size,4,none⟩=some (.slice A n c):=s.cell 4
 have Z:=fun b=>na e.path b V
 have d:=fun b=>jG e.path b V
 have f:=fun b=>na e.parent b r
 generalize Ids.path e.path=b3 at *
 generalize Ids.agent e.path=b4 at *
 generalize Ids.path e.parent=u at *
 obtain⟨CS,g⟩:=eA ((ag (e,Value.slice A n c)).toArray)
 rw [g] at t ⊢
 clear g
 go_enter func16,ntmps16
 go_upto_region 1 with fail
 rw [t.out]
 clear t
 go_wp2_with fail
 refine B.mono ?_
 rintro x q ⟨A1,m,c1,rfl,Ab,E,O⟩
 have y:=s.below O
 have G:eD w q:=M.trans (O.mono M.size)
 have H:Ts q A1 m S':=Ts.of_own E
 have i:=H.len
 have d4:q.cell? ⟨w.heap.size,4,none⟩=some (.slice A n c):=y.cell 4
 have z:m<=9223372036854775807:=by
  obtain⟨A2,c2,L,U,X⟩:=ak E; injection L; omega
 have Q:=pk A1 m c1 S' A n c e.sels q H (Ts.below ht G) z (Nat.le_trans hf.1 hf.2.1)
 rw [C] at Q
 clear B c4 s
 go_wp2_with fail
 refine Q.mono ?_
 rintro x j ⟨rfl,R⟩
 have k:eD w j:=G.trans (R.mono G.size)
 have b2:=y.below R
 have q0:j.cell? ⟨w.heap.size,0,none⟩=some (.int .i64 e.n):=b2.cell 0
 have q1:j.cell? ⟨w.heap.size,1,none⟩=some (.string (str e.path)):=b2.cell 1
 have q2:j.cell? ⟨w.heap.size,2,none⟩=some (.string (str e.parent)):=b2.cell 2
 have q3:j.cell? ⟨w.heap.size,3,none⟩=some (.int .i64 e.ttl):=b2.cell 3
 have I:decide ((0:Int)<(m:Int))=sl:=by rw [<-D,<-i,Bool.eq_iff_iff]; simp
 clear Q d4 E H O R y b2 C D N i
 go_wp2_with fail
 refine(Z _).mono ?_
 rintro x w3 ⟨rfl,rfl⟩
 go_wp2_with fail
 refine(d _).mono ?_
 rintro x w3 ⟨rfl,rfl⟩
 go_wp2_with fail
 refine(f _).mono ?_
 rintro x w3 ⟨rfl,rfl⟩
 have T:o=false\/(o=true/\(Y=false\/(Y=true/\((¬ (0:Int)<(m:Int)/\sl=false)\/((0:Int)<(m:Int)/\sl=true/\(b3=false\/(b3=true/\(b4=true\/(b4=false/\(u=false\/(u=true/\(¬ 1<=e.n\/(1<=e.n/\¬ e.n<=1099511627776)\/(1<=e.n/\e.n<=1099511627776/\¬ 1<=e.ttl)\/(1<=e.n/\e.n<=1099511627776/\1<=e.ttl/\¬ e.ttl<=1000)\/(1<=e.n/\e.n<=1099511627776/\1<=e.ttl/\e.ttl<=1000))))))))))))):=by
  cases o
  .exact .inl rfl
  refine .inr ⟨rfl,?_⟩
  cases Y
  .exact .inl rfl
  refine .inr ⟨rfl,?_⟩; by_cases J:(0:Int)<(m:Int)
  rotate_left
  .exact .inl ⟨J,by rw [<-I,decide_eq_false J]⟩
  refine .inr ⟨J,by rw [<-I,decide_eq_true J],?_⟩
  cases b3
  .exact .inl rfl
  refine .inr ⟨rfl,?_⟩
  cases b4
  rotate_left
  .exact .inl rfl
  refine .inr ⟨rfl,?_⟩
  cases u
  .exact .inl rfl
  refine .inr ⟨rfl,?_⟩; omega
 clear Z d f I
 rcases T with rfl|⟨rfl,rfl|⟨rfl,⟨h0,rfl⟩|⟨h0,rfl,rfl|⟨rfl,rfl|⟨rfl,rfl|⟨rfl,L|⟨L,U⟩|⟨L,U,X⟩|⟨L,U,X,h4⟩|⟨L,U,X,h4⟩⟩⟩⟩⟩⟩⟩
 all_goals
  go_wp2_with fail
  go_ret; exact⟨by simp [*] <;> omega,k⟩
end
section
open Go.RowKit Mem Led
theorem ml(A:Option Addr) (n c:Nat) (L:List Led.Node) (s:Txt) (w:World) (h:Es ac 5 w A n L) (Q:n<=1000) :
  Calls prog 118 #[.slice A n c,.string (str s)] w fun e w'=>e=.returned (.int .i64 (bc (fun d:Led.Node=>d.name==s) L))/\eD w w':=by
 have C:=hO (h.len aR (by omega))
 obtain⟨r,E⟩:=eC (bc (fun d:Led.Node=>d.name==s) L)
 rw [E.out]
 go_enter func118,ntmps118
 go_wp2_with fail
 go_loopw [5] (fun i wr=>∃ k:Nat,k<=n/\i=.int .i64 k/\Hid (∀ x∈L.take k,(x.name==s)=false)/\eD w wr) (fun i _=>n - (intOf i).toNat)
 case atStart=>exact⟨0,by omega,rfl,hO (by simp),Below.refl _ _⟩
 case round =>
  obtain⟨k,R,rfl,F,D⟩:=hrel; obtain⟨wx,G⟩:∃ wx,wx=wr:=⟨_,rfl⟩; subst G; by_cases H:k<n
  .have B:k<L.length:=by rw [C.out]; exact H
   obtain⟨b,I,rfl,N,_⟩:=kA h B; have S:wx.cell? ⟨b,I+k * 5,none⟩=some (.string (str L[k].name)):=dZ aR (by omega) h B D (j:=0) rfl; have hi:(k:Int)<(n:Int):=by omega
   cases M:(L[k].name==s)
   .have O:=hO (dL (p:=fun d:Led.Node=>d.name==s) B F.out M)
    generalize L[k].name=nm at *; go_wp2_with fail
    go_roundw
    case rel=>exact⟨k+1,by omega,by go_num,O,D⟩
    case measure=>simp [intOf]; omega
   .have J:=hO (fD (p:=fun d:Led.Node=>d.name==s) B F.out M)
    generalize L[k].name=nm at *; go_wp2_with fail
    go_ret; exact⟨by rw [<-E.out,J.out]; rfl,D⟩
  .have K:k=n:=by omega
   have J:=hO (fF (p:=fun d:Led.Node=>d.name==s) (L:=L) (by have:=F.out; rwa [K,List.take_of_length_le (by rw [C.out]; exact eG)] at this))
   have hi:¬ ((k:Int)<(n:Int)):=by omega
   go_wp2_with fail
   go_ret; exact⟨by rw [<-E.out,J.out]; rfl,D⟩
theorem rkey_any(n:Led.Key) (w:World):Calls prog 121 #[.agg (aq n).toArray] w fun e w'=>e=.returned (.bool (dC n))/\eD w w':=by
 obtain⟨W,H⟩:=eA (w.alloc (.cells (aq n).toArray 42))
 have F:Blk W w.heap.size (aq n) 42:=by rw [<-H]; exact Blk.new w _ _
 have J:eD w W:=eF H
 have S:W.cell? ⟨w.heap.size,0,none⟩=some (.string (str n.kid)):=F.cell 0
 have T:W.cell? ⟨w.heap.size,1,none⟩=some (.string (str n.seed)):=F.cell 1
 have U:W.cell? ⟨w.heap.size,2,none⟩=some (.int .i64 n.state):=F.cell 2
 have V:W.cell? ⟨w.heap.size,3,none⟩=some (.int .i64 n.since):=F.cell 3
 have A:dC n=(decide ((n.seed.length:Int)=32)&&decide ((1:Int)<=(n.kid.length:Int))&&decide ((n.kid.length:Int)<=16)&&decide (1<=n.state)&&decide (n.state<=3)&&decide (0<=n.since)&&decide (n.since<=1099511627776)):=by
  unfold dC; rw [dx,dx,dx,show (n.seed.length==32)=decide ((n.seed.length:Int)=32) by rw [Bool.eq_iff_iff]; simp; omega]
  simp only [Bool.and_assoc]
 rw [A]
 obtain⟨K,N⟩:=eA (n.seed.length)
 obtain⟨D,O⟩:=eA (n.kid.length)
 have X:(str n.seed).size=K:=by rw [aJ,N]
 have Y:(str n.kid).size=D:=by rw [aJ,O]
 rw [N,O]
 have L:=hO H
 have B:(¬ (K:Int)=32)\/((K:Int)=32/\¬ (1:Int)<=(D:Int))\/((K:Int)=32/\(1:Int)<=(D:Int)/\¬ (D:Int)<=16)\/((K:Int)=32/\(1:Int)<=(D:Int)/\(D:Int)<=16/\¬ 1<=n.state)\/((K:Int)=32/\(1:Int)<=(D:Int)/\(D:Int)<=16/\1<=n.state/\¬ n.state<=3)\/((K:Int)=32/\(1:Int)<=(D:Int)/\(D:Int)<=16/\1<=n.state/\n.state<=3/\¬ 0<=n.since)
  \/ ((K:Int)=32/\(1:Int)<=(D:Int)/\(D:Int)<=16/\1<=n.state/\n.state<=3/\0<=n.since/\¬ n.since<=1099511627776)\/((K:Int)=32/\(1:Int)<=(D:Int)/\(D:Int)<=16/\1<=n.state/\n.state<=3/\0<=n.since/\n.since<=1099511627776):=by omega
 unfold aq tx nm at L ⊢
 clear H A
 go_enter func121,ntmps121
 go_upto_region 1 with fail
 rw [L.out]
 clear L F
 rcases B with C|⟨C,E⟩|⟨C,E,G⟩|⟨C,E,G,I⟩|⟨C,E,G,I,M⟩|⟨C,E,G,I,M,Q⟩|⟨C,E,G,I,M,Q,R⟩|⟨C,E,G,I,M,Q,R⟩
 all_goals
  go_wp2_with fail
  go_ret; exact⟨by simp [*] <;> omega,J⟩
theorem rjoin_any(j:Led.Join) (w:World) (Y:j.text.length<=9223372036854775807) (Z:j.name.length<=9223372036854775807):Calls prog 116 #[.agg (ao j).toArray] w fun e w'=>e=.returned (.bool (cL j))/\eD w w':=by
 obtain⟨W,R⟩:=eA (w.alloc (.cells (ao j).toArray 38))
 have b:Blk W w.heap.size (ao j) 38:=by rw [<-R]; exact Blk.new w _ _
 have F:eD w W:=eF R
 have c0:W.cell? ⟨w.heap.size,0,none⟩=some (.string (str j.text)):=b.cell 0
 have c1:W.cell? ⟨w.heap.size,1,none⟩=some (.string (str j.name)):=b.cell 1
 have c2:W.cell? ⟨w.heap.size,2,none⟩=some (.int .i64 j.expires):=b.cell 2
 have c:=jG j.name W Z
 obtain⟨r,d⟩:=eC (cL j)
 have I:cL j=(j.text.all eM&&Ids.agent j.name&&decide ((1:Int)<=(j.text.length:Int))&&decide ((j.text.length:Int)<=16)&&decide (0<=j.expires)&&decide (j.expires<=1099511627776)):=by
  show (j.text.all eM&&Ids.agent j.name&&aI j.text.length 1 16&&aI j.expires 0 1099511627776)=_
  rw [dx,dx]; simp only [Bool.and_assoc]
 have x:=hO I
 rw [d.out]
 clear I
 obtain⟨N,S⟩:=eA (j.text.length)
 have Aa:(str j.text).size=N:=by rw [aJ,S]
 have f:=hO S
 rw [S] at Y
 clear S
 have g:=hO R
 clear R
 obtain⟨CS,O⟩:=eA ((ao j).toArray)
 rw [O] at g ⊢
 clear O
 go_enter func116,ntmps116
 go_upto_region 1 with fail
 rw [g.out]
 clear g
 go_wp2_with fail
 go_loopw [3,4] (fun i _ wr=>∃ k:Nat,k<=N/\i=.int .i64 k/\Hid ((j.text.take k).all eM=true)/\wr=W) (fun i _ _=>N - (intOf i).toNat)
 case atStart=>exact⟨0,by omega,rfl,hO (by simp),rfl⟩
 case round =>
  obtain⟨k,hk,rfl,l,m⟩:=hrel; subst m; by_cases n:k<N
  .have G:k<j.text.length:=by rw [f.out]; exact n
   have hi:(k:Int)<(N:Int):=by omega
   have Ab:=fun W=>rZ j.text k G W; have E:eM j.text[k]=(decide (97<=(j.text[k]).toNat/\(j.text[k]).toNat<=122)||decide (48<=(j.text[k]).toNat/\(j.text[k]).toNat<=57)):=rfl; have B:=hO (all_more G l.out); have C:=hO (fun h=>all_bad G h); obtain⟨y,Q⟩:=eA (eM j.text[k]); rw [Q] at E B C; have D:=hO E; clear E Q; generalize (j.text[k]).toNat=A at *; clear G; have M:((97<=A/\A<=122)\/(48<=A/\A<=57))\/(A<48\/(57<A/\A<97)\/122<A):=by omega
   rcases M with M|M
   .have e:y=true:=by rw [D.out]; simp only [Bool.or_eq_true,decide_eq_true_eq]; exact M
    have H:=hO (B.out e); clear D B C e; rcases M with⟨T,z⟩|⟨T,z⟩
    .have U:(97:Int)<=(A:Int):=by omega
     have V:(A:Int)<=122:=by omega
     go_wp2_with fail
     go_roundw
     case rel=>exact⟨k+1,by omega,by go_num,H,by trivial⟩
     case measure=>simp [intOf]; omega
    .have U:¬ (97:Int)<=(A:Int):=by omega
     have V:(48:Int)<=(A:Int):=by omega
     have o:48<=A:=by omega
     have i3:(A:Int)<=57:=by omega
     go_wp2_with fail
     go_roundw
     case rel=>exact⟨k+1,by omega,by go_num,H,by trivial⟩
     case measure=>simp [intOf]; omega
   .have e:y=false:=by rw [D.out]; simp; omega
    have H:=hO (C.out e); have q:Hid (r=false):=hO (by rw [<-d.out,x.out,H.out]; rfl)
    clear D B C e; rcases M with T|⟨T,z⟩|T
    .have U:¬ (97:Int)<=(A:Int):=by omega
     have V:¬ (48:Int)<=(A:Int):=by omega
     have o:¬ 48<=A:=by omega
     go_wp2_with fail
     go_ret; exact⟨by rw [q.out]; rfl,F⟩
    .have U:¬ (97:Int)<=(A:Int):=by omega
     have V:(48:Int)<=(A:Int):=by omega
     have o:48<=A:=by omega
     have i3:¬ (A:Int)<=57:=by omega
     have m3:¬ A<=57:=by omega
     go_wp2_with fail
     go_ret; exact⟨by rw [q.out]; rfl,F⟩
    .have U:(97:Int)<=(A:Int):=by omega
     have V:¬ (A:Int)<=122:=by omega
     have m1:97<=A:=by omega
     have o:¬ A<=122:=by omega
     have m3:48<=A:=by omega
     have m4:¬ A<=57:=by omega
     have i3:(48:Int)<=(A:Int):=by omega
     have i4:¬ (A:Int)<=57:=by omega
     go_wp2_with fail
     go_ret; exact⟨by rw [q.out]; rfl,F⟩
  .have hi:¬ (k:Int)<(N:Int):=by omega
   have J:j.text.all eM=true:=by
    have:=l.out; rwa [List.take_of_length_le (by rw [f.out]; omega)] at this
   have K:=x.out; rw [d.out,J,f.out] at K; generalize Ids.agent j.name=s at *; have t:=hO K; have L:s=false\/(s=true/\((¬ (1:Int)<=(N:Int))\/((1:Int)<=(N:Int)/\¬ (N:Int)<=16)\/((1:Int)<=(N:Int)/\(N:Int)<=16/\¬ 0<=j.expires)\/((1:Int)<=(N:Int)/\(N:Int)<=16/\0<=j.expires/\¬ j.expires<=1099511627776)\/((1:Int)<=(N:Int)/\(N:Int)<=16/\0<=j.expires/\j.expires<=1099511627776))):=by
    cases s
    .exact .inl rfl
    .refine .inr ⟨rfl,?_⟩
     omega
   clear J K l; go_wp2_with fail
   refine c.mono ?_; rintro e w1 ⟨rfl,rfl⟩; rcases L with rfl|⟨rfl,X|⟨X,u⟩|⟨X,u,h3⟩|⟨X,u,h3,h4⟩|⟨X,u,h3,h4⟩⟩
   all_goals
    go_wp2_with fail
    go_ret; exact⟨by rw [t.out]; simp [*] <;> omega,F⟩
end
section
open Go.RowKit Mem Led
structure RAt (base gl:Nat) (w:World) (vE vN vB vJ vK vU:Value) (L:Led.Ledger) (E:List (Led.Entry × Value)) (U:List (Led.Bundle × Value)):Prop where
 hb:base<=w.heap.size
 hg:base<=gl
 rk:Rk base w vE vN vB vJ vK vU L E U
 blk:Blk w gl [vE,vN,vB,vJ,vK,vU] 30
def bB (base gl:Nat) (r:Led.Ledger × Int) (w:World) (x:Ending) (w':World):Prop :=
 x=.returned (.int .i64 r.2)/\Below base w w'/\(r.2=0->∃ vE vN vB vJ vK vU E U,RAt base gl w' vE vN vB vJ vK vU r.1 E U)
section
variable {base gl:Nat} {w w':World} {vE vN vB vJ vK vU:Value} {L:Led.Ledger} {E:List (Led.Entry × Value)} {U:List (Led.Bundle × Value)}
theorem RAt.below(h:RAt base gl w vE vN vB vJ vK vU L E U) (A:eD w w'):RAt base gl w' vE vN vB vJ vK vU L E U :=
 ⟨Nat.le_trans h.hb A.size,h.hg,h.rk.below A h.hb,h.blk.below A⟩
theorem RAt.apart(h:RAt base gl w vE vN vB vJ vK vU L E U):∀ v∈[vE,vN,vJ,vK,vU],∀ g,v.ownBlock=some g->g∉[gl]:=by
 intro v B g A
 simp only [List.mem_cons,List.not_mem_nil,or_false] at B ⊢
 rintro rfl
 rcases B with rfl|rfl|rfl|rfl|rfl
 .exact aC h.rk.oE h.blk (by decide) A
 .exact aC h.rk.oN h.blk (by decide) A
 .exact aC h.rk.oJ h.blk (by decide) A
 .exact aC h.rk.oK h.blk (by decide) A
 .exact aC h.rk.oU h.blk (by decide) A
theorem RAt.stay(h:RAt base gl w vE vN vB vJ vK vU L E U) (k:Nat) (v:Value):Rk base (w.setCell ⟨gl,k,none⟩ v) vE vN vB vJ vK vU L E U :=
 h.rk.chg ((Chg.refl _ _).setCell (.inl (by simp)) v) (Far.one h.hg h.blk (by decide)) h.hb h.apart
theorem RAt.setN(h:RAt base gl w vE vN vB vJ vK vU L E U) {A:Value} {l:List Led.Node} (B:w.ownsRow base 40 5 A l.length (af ac l)):RAt base gl (w.setCell ⟨gl,1,none⟩ A) vE A vB vJ vK vU { L with nodes:=l } E U :=
 ⟨by simpa using h.hb,h.hg,{ h.stay 1 A with oN:=dh B (aC B h.blk (by decide)) },h.blk.set 1 A⟩
theorem RAt.setE(h:RAt base gl w vE vN vB vJ vK vU L E U) {A:Value} {l:List Led.Entry} {B:List (Led.Entry × Value)} (C:w.ownsRow base 36 5 A B.length (af ag B)) (D:B.map Prod.fst=l) (F:∀ p∈B,NT base w p.2 p.1.sels):RAt base gl (w.setCell ⟨gl,0,none⟩ A) A vN vB vJ vK vU { L with entries:=l } B U :=
 ⟨by simpa using h.hb,h.hg,{ h.stay 0 A with oE:=dh C (aC C h.blk (by decide)),ents:=D,sels:=fun p G=>(F p G).chg ((Chg.refl [gl] _).setCell (.inl (by simp)) A) (Far.one h.hg h.blk (by decide)) h.hb },h.blk.set 0 A⟩
theorem RAt.setB(h:RAt base gl w vE vN vB vJ vK vU L E U) {A:Value} {l:List Txt} (B:w.ownsRow base 9 1 A l.length (af aj l)):RAt base gl (w.setCell ⟨gl,2,none⟩ A) vE vN A vJ vK vU { L with bans:=l } E U :=
 ⟨by simpa using h.hb,h.hg,{ h.stay 2 A with oB:=dh B (aC B h.blk (by decide)) },h.blk.set 2 A⟩
theorem RAt.setK(h:RAt base gl w vE vN vB vJ vK vU L E U) {A:Value} {l:List Led.Key} (B:w.ownsRow base 42 4 A l.length (af aq l)):RAt base gl (w.setCell ⟨gl,4,none⟩ A) vE vN vB vJ A vU { L with keys:=l } E U :=
 ⟨by simpa using h.hb,h.hg,{ h.stay 4 A with oK:=dh B (aC B h.blk (by decide)) },h.blk.set 4 A⟩
theorem RAt.setU(h:RAt base gl w vE vN vB vJ vK vU L E U) {A:Value} {l:List Led.Bundle} {B:List (Led.Bundle × Value)} (D:w.ownsRow base 45 3 A B.length (af ai B)) (F:B.map Prod.fst=l) (C:∀ p∈B,NK base w p.2 p.1.keys):RAt base gl (w.setCell ⟨gl,5,none⟩ A) vE vN vB vJ vK A { L with bundles:=l } E B :=
 ⟨by simpa using h.hb,h.hg,{ h.stay 5 A with oU:=dh D (aC D h.blk (by decide)),buns:=F,keyss:=fun p G=>(C p G).chg ((Chg.refl [gl] _).setCell (.inl (by simp)) A) (fun s C=>by rw [List.mem_singleton] at C; rw [C]; exact h.hg) h.hb },h.blk.set 5 A⟩
end
theorem jL{α:Type} {c:α->α->Int} (F:Cmp c) {x:α}:∀ {l:List α},bd c l->(ins c x l).length=l.length+if l.any (fun y=>decide (c y x=0)) then 0 else 1
 | [],_=>by simp [ins]
 | y::l,h=>by
  have B:=h; unfold bd at B; rw [List.pairwise_cons] at B; have ih:=jL F (x:=x) (l:=l) B.2; unfold ins at ih ⊢; simp only [List.length_append,List.length_cons,List.filter_cons,List.any_cons] at ih ⊢; rcases Int.lt_trichotomy (c y x) 0 with C|C|C
  .have D:¬ 0<c y x:=by omega
   have E:¬ c y x=0:=by omega
   simp only [C,D,E,decide_true,decide_false,if_true,Bool.false_eq_true,if_false,List.length_cons,Bool.false_or]; omega
  .have h0:∀ z∈l,0<c z x:=om F B.1 (by omega)
   have D:¬ c y x<0:=by omega
   have E:¬ 0<c y x:=by omega
   rw [dv (t:=l) (fun z A=>decide_eq_false (by have:=h0 z A; omega)),cW (t:=l) (fun z A=>decide_eq_true (h0 z A))]
   simp [C]
  .have h0:∀ z∈l,0<c z x:=om F B.1 (by omega)
   have D:¬ c y x<0:=by omega
   have E:¬ c y x=0:=by omega
   have G:l.any (fun y=>decide (c y x=0))=false:=by
    rw [List.any_eq_false]; intro z A; have:=h0 z A; simp
    omega
   rw [dv (t:=l) (fun z A=>decide_eq_false (by have:=h0 z A; omega)),cW (t:=l) (fun z A=>decide_eq_true (h0 z A))]
   simp [C,D,E,G]
theorem tB{α:Type} (f:α->Txt) (x:α) (l:List α):l.any (fun y=>decide (ord (f y) (f x)=0))=l.any (fun y=>f y==f x):=by
 congr 1
 funext y
 rw [Bool.eq_iff_iff]
 simp [kx]
end
section
open Go.RowKit Mem Led
theorem node_fits{L:Led.Ledger} (A:L.Wf) (n:Led.Node):(ins cN n L.nodes).length=L.nodes.length+if bc (fun d:Led.Node=>d.name==n.name) L.nodes<0 then 1 else 0:=by
 rw [jL qD A.n1]
 have B:=gV (fun d:Led.Node=>d.name==n.name) L.nodes
 have C:(L.nodes.any fun y=>decide (cN y n=0))=L.nodes.any fun y=>y.name==n.name:=tB Led.Node.name n L.nodes
 rw [C,<-B]
 by_cases h:0<=bc (fun d:Led.Node=>d.name==n.name) L.nodes
 .rw [decide_eq_true h,if_pos rfl,if_neg (by omega)]
 .rw [decide_eq_false h,if_neg (by simp),if_pos (by omega)]
theorem mi{base gl:Nat} {vE vN vB vJ vK vU:Value} {L:Led.Ledger} {E:List (Led.Entry × Value)} {U:List (Led.Bundle × Value)} (n:Led.Node) (w:World) (H:RAt base gl w vE vN vB vJ vK vU L E U) (hL:L.Wf) (hz:n.name.length<=9223372036854775807) :
  Calls prog 73 #[.pointer (some ⟨gl,0,none⟩),.agg (ac n).toArray] w (bB base gl (aX L n) w):=by
 obtain⟨AN,D,rfl,fN,eN⟩:=dy H.rk.oN
 obtain⟨AB,q,rfl,fB,eB⟩:=dy H.rk.oB
 have zN:=hL.n3
 have zB:=hL.b3
 have K:=hO (node_fits hL n)
 have d1:Hid (cI n=false->aX L n=(L,1)):=hO fun h=>by unfold aX; rw [h]; rfl
 have d2:Hid (cI n=true->L.bans.contains n.name=true->aX L n=(L,21)):=hO fun h f=>by unfold aX; rw [h,f]; rfl
 have d3:Hid (cI n=true->L.bans.contains n.name=false->¬ (ins cN n L.nodes).length<=4->aX L n=(L,6)):=hO fun h f h3=>by unfold aX put; rw [h,f,if_neg h3]; rfl
 have d4:Hid (cI n=true->L.bans.contains n.name=false->(ins cN n L.nodes).length<=4->aX L n=({ L with nodes:=ins cN n L.nodes },0)):=hO fun h f h3=>by unfold aX put; rw [h,f,if_pos h3]; rfl
 obtain⟨W,hW⟩:=eA (w.alloc (.cells (ac n).toArray 40))
 have b0:Blk W w.heap.size (ac n) 40:=by rw [<-hW]; exact Blk.new w _ _
 have O:eD w W:=eF hW
 have I:=rnode_any n W hz
 have s:(fL (.pointer (some ⟨w.heap.size,0,none⟩))).run prog W=.ok (.agg (ac n).toArray) W:=ef b0 rfl
 have HW:=hO hW
 clear hW
 obtain⟨CS,g⟩:=eC ((ac n).toArray)
 rw [g.out] at HW I s ⊢
 have HH:=hO (H.below O)
 have HB:=hO H.hb
 obtain⟨N,hN⟩:=eA (L.nodes.length)
 obtain⟨M,hM⟩:=eA (L.bans.length)
 have HN:=hO hN
 rw [hN] at fN eN zN HH
 rw [hM] at fB eB zB HH
 clear hN hM H fN eN fB eB
 cases m:cI n
 .rw [d1.out m]
  rw [m] at I; clear d1 d2 d3 d4 K; go_enter func73,ntmps73
  go_upto_region 1 with fail
  rw [HW.out]; go_wp2_with fail
  refine I.mono ?_; rintro e Q ⟨rfl,J⟩; go_wp2_with fail
  go_ret; exact⟨rfl,(O.trans (J.mono O.size)).mono HB.out,fun h=>by cases h⟩
 .rw [m] at I
  go_enter func73,ntmps73
  go_upto_region 1 with fail
  rw [HW.out]; clear HW; go_wp2_with fail
  refine I.mono ?_; rintro e Q ⟨rfl,J⟩; have R:=O.trans (J.mono O.size); have V:=hO (HH.out.below J); have B1:=b0.below J; have f0:∀ p,(ab Q p).cell? ⟨gl,2,none⟩=some (.slice AB M q):=fun p=>(V.out.blk.below (aa Q p)).cell 2; have f1:∀ p,(ab Q p).cell? ⟨w.heap.size,0,none⟩=some (.string (str n.name)):=fun p=>(B1.below (aa Q p)).cell 0; have i:Hid (∀ p,Calls prog 117 #[.slice AB M q,.string (str n.name)] (ab Q p) fun e w'=>e=.returned (.bool (L.bans.contains n.name))/\Below (ab Q p).heap.size (ab Q p) w'):=hO fun p=>by
   obtain⟨A,n',c,e,_,ht⟩:=dg (V.out.below (aa Q p)).rk.oB; injection e with e1 e2 e3
   subst e1 e2 e3; exact(rhas_any _ _ _ L.bans n.name _ ht (by omega)).mono fun e w' ⟨h1,f⟩=>⟨h1,f▸Below.refl _ _⟩
  clear I s HH J b0; go_upto_region 4 with fail
  refine az ?_; repeat (go_big_quiet_step (first|(go_at_call 117; exact aw (i.out _))|fail))
  refine wpQuiet_nil ?_; rintro _ ⟨p,rfl⟩; have B:=aa Q p; have C:=R.trans (B.mono R.size); have S:=hO (V.out.below B); have B2:=B1.below B; generalize ab Q p=F at *; clear f0 f1 i V B1 B R
  cases j:L.bans.contains n.name
  .have f0:∀ p,(ab F p).cell? ⟨gl,1,none⟩=some (.slice AN N D):=fun p=>(S.out.blk.below (aa F p)).cell 1
   have f1:∀ p,(ab F p).cell? ⟨w.heap.size,0,none⟩=some (.string (str n.name)):=fun p=>(B2.below (aa F p)).cell 0; obtain⟨r,hr⟩:=eC (bc (fun d:Led.Node=>d.name==n.name) L.nodes); have HE:Hid (∀ w',eD F w'->Es ac 5 w' AN N L.nodes):=hO fun w' Y=>by
    obtain⟨A,n',c,e,_,ht⟩:=aY (S.out.below Y).rk.oN; injection e with e1 e2 e3
    subst e1 e2 e3; exact ht
   have i:Hid (∀ p,Calls prog 118 #[.slice AN N D,.string (str n.name)] (ab F p) fun e w'=>e=.returned (.int .i64 r)/\Below (ab F p).heap.size (ab F p) w'):=hO fun p=>by
    rw [<-hr.out]; exact ml AN N D L.nodes n.name _ (HE.out _ (aa F p)) (by omega)
   have G:=K.out; rw [hr.out,HN.out] at G; have Ae:((r<0/\(4:Int)<=(N:Int))\/(r<0/\¬ (4:Int)<=(N:Int)))\/¬ r<0:=by omega
   go_upto_region 7 with fail
   refine az ?_; rcases Ae with(⟨q1,q2⟩|⟨q1,q2⟩)|q1
   .have m2:4<=N:=by omega
    have t:=hO (d3.out m j (by rw [G,if_pos q1]; omega))
    repeat (go_big_quiet_step (first|(go_at_call 118; exact aw (i.out _))|fail))
    refine wpQuiet_nil ?_; rintro _ ⟨p,rfl⟩; have B:=aa F p; have Af:=C.trans (B.mono C.size); generalize ab F p=k at *; clear f0 f1 i HE; go_wp2_with fail
    go_ret; rw [t.out]; exact⟨rfl,Af.mono HB.out,fun h=>by cases h⟩
   all_goals
    have m2:r<0->¬ 4<=N:=fun h=>by omega
    have u:(ins cN n L.nodes).length<=4:=by
     rw [G]; split <;> omega
    have t:=hO (d4.out m j u); (try have m3:=m2 q1)
    clear m2 u G d1 d2 d3 d4; repeat (go_big_quiet_step (first|(go_at_call 118; exact aw (i.out _))|fail))
    refine wpQuiet_nil ?_; rintro _ ⟨p,rfl⟩; have B:=aa F p; have Z:=C.trans (B.mono C.size); have X:=hO (S.out.below B); have B3:=B2.below B; have z:Hid (∀ w',Below (ab F p).heap.size (ab F p) w'->Es ac 5 w' AN N L.nodes):=hO fun w' Y=>HE.out w' (B.trans (Y.mono B.size)); generalize ab F p=k at *; clear f0 f1 i HE B S B2 C; have g0:∀ p,(ab k p).cell? ⟨gl,1,none⟩=some (.slice AN N D):=fun p=>(X.out.blk.below (aa k p)).cell 1; have g1:∀ p,(fL (.pointer (some ⟨w.heap.size,0,none⟩))).run prog (ab k p)=.ok (.agg CS) (ab k p):=fun p=>by rw [<-g.out]; exact ef (B3.below (aa k p)) rfl
    have Aa:Hid (∀ b,eD k b->Calls prog 119 #[.slice AN N D,.agg CS,.bool false] b fun e w'=>∃ v,e=.returned v/\GR b w'/\w'.ownsRow base 40 5 v (ins cN n L.nodes).length (af ac (ins cN n L.nodes))):=hO fun b Y=>by
     rw [<-g.out]; refine(nO AN N D L.nodes n false b (z.out b Y) (by omega) (fun y _=>dt y) (dt n)).mono ?_; rintro e w' ⟨v,he,o,Ag⟩; rw [fS qD hL.n1] at o; exact⟨v,he,GR.of Ag,aG o (Nat.le_trans X.out.hb Y.size)⟩
    go_upto_region 9 with fail
    refine aN [([0,1,2,3,4,5],(6,fun v w'=>w'.ownsRow base 40 5 v (ins cN n L.nodes).length (af ac (ins cN n L.nodes))))] [7,8,9] (by kernel_rfl) (by kernel_rfl) (by
     intro x hx; simp only [List.mem_cons,List.not_mem_nil,or_false] at hx; subst hx; exact ax fun v w w' Y h=>ae h Y eG) ?_
    refine aH ?_; simp only [pick,List.getD_cons_zero,List.getD_cons_succ]; repeat (go_big_quiet_step (fail))
    refine wpQuiet_nil ?_; refine⟨_,rfl,rfl,?_,?_⟩
    .intro b Ah _
     go_simp
     exact⟨rfl,Aa.out b Ah.below⟩
    rintro v1 - w6 Ab hF; obtain⟨_,o⟩:=hF; obtain⟨A9,c9,rfl,_,_⟩:=ak o; have l:=Ab.below; have T:=X.out.below l; have q6:w6.cell? ⟨gl,1,none⟩=some (.slice AN N D):=T.blk.cell 1; have Aj:=T.blk.froz 1; have Ai:=hO (T.setN o); have Ac:=Z.trans (l.mono Z.size); have Ad:Below base w (w6.setCell ⟨gl,1,none⟩ (.slice A9 (ins cN n L.nodes).length c9)):=(Ac.mono HB.out).setCell (p:=⟨gl,1,none⟩) T.hg (.slice A9 (ins cN n L.nodes).length c9); clear g0 g1 Aa z X T B3 Ab l o; go_wp2; (try rw [am])
    (try go_wp2)
    go_ret; rw [t.out]; exact⟨rfl,Ad,fun _=>⟨_,_,_,_,_,_,_,_,Ai.out⟩⟩
  .have t:=hO (d2.out m j)
   clear S B2 K d1 d2 d3 d4; go_wp2_with fail
   go_ret; rw [t.out]; exact⟨rfl,C.mono HB.out,fun h=>by cases h⟩
end
section
open Go.RowKit Mem Led
def fO {α:Type} (p:α->Bool) (L:List α) (k:Nat):Int:=match (L.drop k).findIdx? p with
 | some i=>((k+i:Nat):Int)
 | none => -1
section
variable {α:Type} {p:α->Bool} {L:List α} {k:Nat}
theorem kI(h:L.length<=k):fO p L k = -1:=by
 unfold fO
 rw [List.drop_eq_nil_of_le h]
 rfl
theorem down_hit(A:k<L.length) (h:p L[k]=true):fO p L k=k:=by
 unfold fO
 rw [List.drop_eq_getElem_cons A,List.findIdx?_cons,h]
 simp
theorem so(A:k<L.length) (h:p L[k]=false):fO p L k=fO p L (k+1):=by
 unfold fO
 rw [List.drop_eq_getElem_cons A,List.findIdx?_cons,h]
 cases (L.drop (k+1)).findIdx? p with
 | none=>rfl
 | some i=>simp; omega
theorem jp:fO p L 0=bc p L:=by
 unfold fO bc
 rw [List.drop_zero]
 cases L.findIdx? p with
 | none=>rfl
 | some i=>simp
end
theorem bu.chg{α:Type} {enc:α->List Value} {k:Nat} {e:TypeId} {base gl sl:Nat} {v:Value} {L':List α} {w w':World} (h:bu enc k e base gl sl v L' w w'):Chg (gl::v.ownBlock.toList) w w':=by
 obtain⟨B,C,rfl,A,_,_⟩:=h
 exact((cQ A).mono (by intro x hx; exact List.mem_cons_of_mem _ hx)).setCell (.inl (by simp)) _
theorem own_block{w:World} {base k n:Nat} {e:TypeId} {v:Value} {xs:List Value} (h:w.ownsRow base e k v n xs) {g:Nat} (A:v.ownBlock=some g):base<=g/\∃ M,Blk w g M e:=by
 rcases aW h with⟨rfl,_⟩|⟨D,c,M,rfl,B,_,C,_⟩
 .simp [Value.ownBlock] at A
 .simp only [Value.ownBlock,Option.some.injEq] at A
  subst A; exact⟨B,M,C⟩
theorem cap_of{w:World} {base k m n c:Nat} {e:TypeId} {A:Option Addr} {xs:List Value} (h:w.ownsRow base e k (.slice A m c) m xs) (B:m=n):n<=c:=by
 subst B
 obtain⟨C,D,e',f,_⟩:=dy h
 injection e' with _ _ e3
 subst e3
 exact f.1
theorem nP{α:Type} {enc:α->List Value} {k B:Nat} (Z:∀ x,(enc x).length=k) (h0:0<k) {t e:TypeId} {z:Value} (F:(prog.info? e).map (fun i=>(i.zero,i.size,i.bytes))=some (some z,k,B)) (q:z.cells.size=k) (ht:prog.underlying t=some (.slice e)) (b:B<=1000)
  {w:World} {A:Option Addr} {n c:Nat} {L:List α} (K:Es enc k w A n L) (r:n<=c) (hn:n<=1000) {i:Nat} (hi:i<n) (s:∀ y∈L,∀ u∈enc y,u.oneCell'=true) :
  ∃ A1 c1 A2 c2 U V G X Y J,(∀ w',(Instr.slice t (.slice A n c) none (some (.int .i64 (i:Int))) none).run prog w'=.ok (.slice A1 i c1) w')/\(∀ w',(Instr.slice t (.slice A n c) (some (.int .i64 ((i:Int)+1))) none none).run prog w'=.ok (.slice A2 (n - (i+1)) c2) w') /\
   (Builtin.append_ #[t,t] t #[.slice none 0 0,.slice A1 i c1]).run prog w=.ok (.slice U i V) G/\eD w G/\(Builtin.append_ #[t,t] t #[.slice U i V,.slice A2 (n - (i+1)) c2]).run prog G=.ok (.slice X (n - 1) Y) J/\eD w J /\
   J.ownsRow w.heap.size e k (.slice X (n - 1) Y) (L.take i++L.drop (i+1)).length (af enc (L.take i++L.drop (i+1))):=by
 obtain⟨iT,H,M,I,N⟩:=al F
 have O:prog.elem t=e:=by simp [Program.elem,ht]
 have Q:∀ w,(sizeOf (prog.elem t)).run prog w=.ok k w:=fun w=>by simp [sizeOf,typeInfo,O,H,I]
 have R:prog.underlying t=some (.slice (prog.elem t)):=by rw [O]; exact ht
 have d:L.length=n:=K.len Z h0
 have K:Vs w w.heap.size k A n (af enc L):=K
 have v1:=(K.drop (k:=0) (cap:=c) (by omega) r).take (k:=i) (by omega)
 have v2:=K.drop (k:=i+1) (cap:=c) (by omega) r
 rw [Nat.zero_mul,List.drop_zero,rows_take Z] at v1
 rw [rows_drop Z] at v2
 have o1:∀ u∈af enc (L.take i),u.oneCell'=true:=ft fun y f=>s y (List.mem_of_mem_take f)
 have o2:∀ u∈af enc (L.drop (i+1)),u.oneCell'=true:=ft fun y f=>s y (List.mem_of_mem_drop f)
 have S:∀ m,m<=1000->m * B<=140737488355328:=fun m hm=>Nat.le_trans (Nat.mul_le_mul hm b) (by decide)
 obtain⟨x1,G,g,D,h,_⟩:=aT (P:=prog) w w.heap.size t t e iT z k B ht H M I N q h0 _ 0 [] (World.ownsRow_nil _ _ _ _) w.heap.size _ i (c - 0) _ v1 o1 (by unfold maxLen; omega) (S _ (by omega)) eG
 rw [Nat.zero_add,List.nil_append] at D
 obtain⟨U,V,rfl,_,_⟩:=ak D
 have C:eD w G:=Mem.ay (Below.refl _ w) h eG (World.ownsRow_nil w w.heap.size e k)
 obtain⟨x2,J,j,E,l,_⟩:=aT (P:=prog) G w.heap.size t t e iT z k B ht H M I N q h0 _ i _ D w.heap.size _ (n - (i+1)) (c - (i+1)) _ (v2.below C) o2 (by unfold maxLen; omega) (S _ (by omega)) C.size
 have T:i+(n - (i+1))=n - 1:=by omega
 rw [T] at E
 obtain⟨X,Y,rfl,_,_⟩:=ak E
 have o:eD w J:=Mem.ay C l C.size D
 refine⟨_,_,_,_,U,V,G,X,Y,J,fun w'=>?_,fun w'=>?_,g,C,j,o,?_⟩
 .rw [run_slice_h w' t A n c R .i64 (i:Int) (by omega) (by omega),Q]
  simp [Result.andThen,sliced]
 .rw [run_slice_l w' t A n c R .i64 ((i:Int)+1) (by omega) (by omega),Q]
  simp [Result.andThen,sliced]
 .rw [<-aL] at E
  rw [List.length_append,List.length_take,List.length_drop,Nat.min_eq_left (by omega),d,T]; exact E
section
variable {base gl:Nat} {w w':World} {vE vN vB vJ vK vU:Value} {L:Led.Ledger} {E:List (Led.Entry × Value)} {U:List (Led.Bundle × Value)}
theorem RAt.slot(H:RAt base gl w vE vN vB vJ vK vU L E U) {α:Type} {enc:α->List Value} {k sl:Nat} {e:TypeId} {v:Value} {L0 L':List α} (A:bu enc k e base gl sl v L' w w') (B:w.ownsRow base e k v L0.length (af enc L0)) (N:e≠9) (F:e≠30) :
  Far base (gl::v.ownBlock.toList) w/\Chg (gl::v.ownBlock.toList) w w'/\Below base w w'/\(∀ {e':TypeId} {k' n':Nat} {u:Value} {xs:List Value},w.ownsRow base e' k' u n' xs->e'≠e->e'≠30->w'.ownsRow base e' k' u n' xs)/\∃ C,Blk w' gl ([vE,vN,vB,vJ,vK,vU].set sl C) 30/\w'.ownsRow base e k C L'.length (af enc L'):=by
 have O:=aC B H.blk F
 obtain⟨C,G,I,_,_⟩:=A.opened H.blk O
 refine⟨fun s D=>?_,A.chg,A.below H.hg (fun g Q=>(dA B Q).1) H.hb,fun J K R=>A.keeps J (dM J B K) (aC J H.blk R),C,G,I⟩
 rcases List.mem_cons.1 D with rfl|D
 .exact Far.one H.hg H.blk (by decide) s (by simp)
 .rw [Option.mem_toList] at D
  obtain⟨K,M,S⟩:=own_block B D; exact Far.one K S N s (by simp)
theorem RAt.slotN(H:RAt base gl w vE vN vB vJ vK vU L E U) {l:List Led.Node} (I:bu ac 5 40 base gl 1 vN l w w'):∃ B,RAt base gl w' vE B vB vJ vK vU { L with nodes:=l } E U/\Below base w w':=by
 obtain⟨G,C,J,A,B,D,K⟩:=H.slot I H.rk.oN (by decide) (by decide)
 have h:=H.rk
 exact⟨B,⟨Nat.le_trans H.hb C.size,H.hg,⟨A h.oE (by decide) (by decide),K,A h.oB (by decide) (by decide),A h.oJ (by decide) (by decide),A h.oK (by decide) (by decide),A h.oU (by decide) (by decide),h.ents,h.buns,fun p F=>(h.sels p F).chg C G H.hb,fun p F=>(h.keyss p F).chg C (fun s M=>(G s M).1) H.hb⟩,D⟩,J⟩
theorem RAt.slotJ(H:RAt base gl w vE vN vB vJ vK vU L E U) {l:List Led.Join} (I:bu ao 4 38 base gl 3 vJ l w w'):∃ B,RAt base gl w' vE vN vB B vK vU { L with joins:=l } E U/\Below base w w':=by
 obtain⟨G,C,J,A,B,D,K⟩:=H.slot I H.rk.oJ (by decide) (by decide)
 have h:=H.rk
 exact⟨B,⟨Nat.le_trans H.hb C.size,H.hg,⟨A h.oE (by decide) (by decide),A h.oN (by decide) (by decide),A h.oB (by decide) (by decide),K,A h.oK (by decide) (by decide),A h.oU (by decide) (by decide),h.ents,h.buns,fun p F=>(h.sels p F).chg C G H.hb,fun p F=>(h.keyss p F).chg C (fun s M=>(G s M).1) H.hb⟩,D⟩,J⟩
theorem RAt.slotK(H:RAt base gl w vE vN vB vJ vK vU L E U) {l:List Led.Key} (I:bu aq 4 42 base gl 4 vK l w w'):∃ B,RAt base gl w' vE vN vB vJ B vU { L with keys:=l } E U/\Below base w w':=by
 obtain⟨G,C,J,A,B,D,K⟩:=H.slot I H.rk.oK (by decide) (by decide)
 have h:=H.rk
 exact⟨B,⟨Nat.le_trans H.hb C.size,H.hg,⟨A h.oE (by decide) (by decide),A h.oN (by decide) (by decide),A h.oB (by decide) (by decide),A h.oJ (by decide) (by decide),K,A h.oU (by decide) (by decide),h.ents,h.buns,fun p F=>(h.sels p F).chg C G H.hb,fun p F=>(h.keyss p F).chg C (fun s M=>(G s M).1) H.hb⟩,D⟩,J⟩
theorem RAt.turnK(H:RAt base gl w vE vN vB vJ vK vU L E U) {i:Nat} (hi:i<L.keys.length):∃ g c,vK=.slice (some ⟨g,0,none⟩) L.keys.length c/\gl≠g/\(∀ j u,(aq L.keys[i])[j]?=some u->w.cell? ⟨g,i * 4+j,none⟩=some u/\w.frozen? ⟨g,i * 4+j,none⟩=false) /\
  ∀ j u x',j<4->aq x'=(aq L.keys[i]).set j u->RAt base gl (w.setCell ⟨g,i * 4+j,none⟩ u) vE vN vB vJ vK vU { L with keys:=L.keys.set i x' } E U/\Below base w (w.setCell ⟨g,i * 4+j,none⟩ u):=by
 have J:=H.rk.oK
 rcases aW J with⟨_,h0,_⟩|⟨g,c,M,rfl,D,R,K,F,G,N,B⟩
 .omega
 have A:gl≠g:=fun e=>aC J H.blk (by decide) (by simp [Value.ownBlock,e])
 have C:gM aq 4 42 g c L.keys.length w L.keys:=⟨rfl,M,K,N,B⟩
 refine⟨g,c,rfl,A,fun j u S=>C.cell aP hi S,fun j u x' T V=>?_⟩
 obtain⟨X,O,I⟩:=H.slotK (iY (sl:=4) aP (Below.refl _ w) D K F G N B hi T V A H.blk rfl)
 have e:X=.slice (some ⟨g,0,none⟩) L.keys.length c:=by
  have Q:=(H.blk.set_ne (p:=⟨g,i * 4+j,none⟩) A u).cell 4; rw [O.blk.cell 4] at Q; simpa using Q
 subst e
 exact⟨O,I⟩
theorem RAt.twoK{g c n i:Nat} (H:RAt base gl w vE vN vB vJ (.slice (some ⟨g,0,none⟩) n c) vU L E U) (hi:i<L.keys.length) (C t:Int) :
  gl≠g/\(∃ u,w.cell? ⟨g,i * 4+2,none⟩=some u)/\w.frozen? ⟨g,i * 4+2,none⟩=false/\RAt base gl (w.setCell ⟨g,i * 4+2,none⟩ (.int .i64 C)) vE vN vB vJ (.slice (some ⟨g,0,none⟩) n c) vU { L with keys:=L.keys.set i { L.keys[i] with state:=C } } E U /\
  ∀ G,Below (w.setCell ⟨g,i * 4+2,none⟩ (.int .i64 C)).heap.size (w.setCell ⟨g,i * 4+2,none⟩ (.int .i64 C)) G->(∃ u,G.cell? ⟨g,i * 4+3,none⟩=some u)/\G.frozen? ⟨g,i * 4+3,none⟩=false/\RAt base gl (G.setCell ⟨g,i * 4+3,none⟩ (.int .i64 t)) vE vN vB vJ (.slice (some ⟨g,0,none⟩) n c) vU { L with keys:=L.keys.set i { L.keys[i] with state:=C,since:=t } } E U/\Below base w (G.setCell ⟨g,i * 4+3,none⟩ (.int .i64 t)):=by
 obtain⟨S,T,e,I,B,F⟩:=H.turnK hi
 injection e with e1 e2 e3
 injection e1 with e1
 injection e1 with e1
 subst e1 e3
 obtain⟨J,K⟩:=F 2 (.int .i64 C) { L.keys[i] with state:=C } (by omega) rfl
 refine⟨I,⟨_,(B 2 _ rfl).1⟩,(B 2 _ rfl).2,J,fun G O=>?_⟩
 have R:=J.below O
 have M:i<(L.keys.set i { L.keys[i] with state:=C }).length:=by rw [List.length_set]; exact hi
 obtain⟨V,X,e,_,A,D⟩:=R.turnK M
 injection e with e1 _ e3
 injection e1 with e1
 injection e1 with e1
 subst e1 e3
 obtain⟨Q,N⟩:=D 3 (.int .i64 t) { L.keys[i] with state:=C,since:=t } (by omega) (by simp only [List.getElem_set_self]; rfl)
 simp only [List.set_set] at Q
 exact⟨⟨_,(A 3 _ rfl).1⟩,(A 3 _ rfl).2,Q,(K.trans (O.mono J.hb)).trans N⟩
theorem RAt.turnN(H:RAt base gl w vE vN vB vJ vK vU L E U) {i:Nat} (hi:i<L.nodes.length):∃ g c,vN=.slice (some ⟨g,0,none⟩) L.nodes.length c/\gl≠g/\(∀ j u,(ac L.nodes[i])[j]?=some u->w.cell? ⟨g,i * 5+j,none⟩=some u/\w.frozen? ⟨g,i * 5+j,none⟩=false) /\
  ∀ j u x',j<5->ac x'=(ac L.nodes[i]).set j u->RAt base gl (w.setCell ⟨g,i * 5+j,none⟩ u) vE vN vB vJ vK vU { L with nodes:=L.nodes.set i x' } E U/\Below base w (w.setCell ⟨g,i * 5+j,none⟩ u):=by
 have J:=H.rk.oN
 rcases aW J with⟨_,h0,_⟩|⟨g,c,M,rfl,D,R,K,F,G,N,B⟩
 .omega
 have A:gl≠g:=fun e=>aC J H.blk (by decide) (by simp [Value.ownBlock,e])
 have C:gM ac 5 40 g c L.nodes.length w L.nodes:=⟨rfl,M,K,N,B⟩
 refine⟨g,c,rfl,A,fun j u S=>C.cell aR hi S,fun j u x' T V=>?_⟩
 obtain⟨X,O,I⟩:=H.slotN (iY (sl:=1) aR (Below.refl _ w) D K F G N B hi T V A H.blk rfl)
 have e:X=.slice (some ⟨g,0,none⟩) L.nodes.length c:=by
  have Q:=(H.blk.set_ne (p:=⟨g,i * 5+j,none⟩) A u).cell 1; rw [O.blk.cell 1] at Q; simpa using Q
 subst e
 exact⟨O,I⟩
end
end
end Go.Proofs.YtmbpnkacggngkaaGreatDoor
