/- LedWf, LedInsLaw, LedFind, Shelf (put together by bundle.py: only what is needed). -/
import Derived.Shelf.Strings.Builder1
import Derived.Shelf.Strings.Trim
import Derived.Shelf.Small.Utf8
import Derived.Shelf.Small.Bits
import Derived.Shelf.Small.Strs
import Derived.Shelf.Small.Wraps
import Derived.Shelf.Utf8.RuneCount
import Derived.Shelf.Strconv.Itoa0
import Derived.Shelf.Strings.Search1
import Derived.Shelf.Strings.Search2
import Derived.Shelf.Strings.Search3
import Derived.Shelf.Strings.Cut
import Derived.Shelf.Strings.Count
import Derived.Shelf.LaysM
import Derived.Shelf.Strings.Shaped
import Derived.Shelf.Sort.Plain
import Derived.Shelf.Strings.Prefix
import Derived.Shelf.Strings.Split
import Derived.Shelf.Strings.SplitShaped
import Derived.Shelf.Unicode.Decode
import Derived.Shelf.Strings.Runes
import Derived.Shelf.Strings.RuneCount
import Derived.Shelf.Strings.AsciiSet
import Derived.Shelf.Strings.Explode
import Derived.Shelf.Unicode.DecodeSlow
import Derived.Shelf.Unicode.DecodeAny
import Derived.Shelf.Unicode.DecodeLast
import Derived.Shelf.Slices.Turned
import Derived.Shelf.Slices.Equal
import Derived.Ground.Names2Prog
import Derived.Shelf.Slices.ReverseS
import Derived.Shelf.Slices.Clone
import Derived.Shelf.Slices.CompactS
import Derived.Shelf.Slices.Delete
import Derived.Shelf.Slices.Cells
import Derived.Shelf.Slices.In.SortNone
import Derived.Shelf.Slices.Empties
import Derived.Shelf.Slices.Empties2
import Derived.Ground.SlgnProg
import Derived.Shelf.SlicesE.Clone
import Derived.Test.YtmbpnkacggngkaaGreatDoorLW5
set_option maxRecDepth 100000
set_option maxHeartbeats 16000000
namespace Go.Proofs.YtmbpnkacggngkaaGreatDoor
section
namespace Led
theorem rises_erase{α:Type} {c:α→α→Int} {p:α→Bool} {l:List α} (h:Rises c l):Rises c (l.eraseP p):=h.sublist List.eraseP_sublist
theorem erase_mem{α:Type} {p:α→Bool} {l:List α} {y:α} (h:y∈l.eraseP p):y∈l:=List.eraseP_sublist.mem h
theorem erase_le{α:Type} {p:α→Bool} {l:List α} {n:Nat} (h:l.length≤n):(l.eraseP p).length≤n:=Nat.le_trans List.eraseP_sublist.length_le h
theorem wf_entry{L:Ledger} {e:Entry} (h:L.Wf) (hs:e.sels.length≤1000):(doEntry L e).1.Wf:=by
 unfold doEntry
 split
 ·rename_i hm
  split
  ·rename_i l hl
   obtain⟨rfl,hle⟩:=put_some hl; exact { h with
    e1:=ins_rises cE_cmp h.e1
    e2:=fun x hx=>by
     rcases ins_mem hx with rfl|hx
     ·exact hm
     ·exact h.e2 _ hx
    e3:=hle
    e4:=fun x hx=>by
     rcases ins_mem hx with rfl|hx
     ·exact hs
     ·exact h.e4 _ hx }
  ·exact h
 ·exact h
theorem wf_gone{L:Ledger} {n:Int} (h:L.Wf):(doGone L n).1.Wf:=by
 unfold doGone
 split
 ·exact { h with e1:=rises_erase h.e1,e2:=fun x hx=>h.e2 _ (erase_mem hx),e3:=erase_le h.e3,e4:=fun x hx=>h.e4 _ (erase_mem hx) }
 ·exact h
theorem nodup_snoc{α:Type} {l:List α} {x:α} (h:l.Nodup) (hx:x∉l):(l++[x]).Nodup:=by
 rw [List.nodup_append]
 refine⟨h,by simp,?_⟩
 intro a ha b hb
 simp at hb
 subst hb
 intro e
 exact hx (e▸ha)
theorem wf_token{L:Ledger} {j:Join} (h:L.Wf):(doToken L j).1.Wf:=by
 unfold doToken
 split
 ·exact h
 ·rename_i hm
  split
  ·exact h
  ·rename_i ha
   split
   ·exact h
   ·rename_i hl
    simp only [Bool.or_eq_true,Bool.not_eq_true',not_or,Bool.not_eq_false] at hm; refine { h with j1:=?_,j2:=?_,j3:=?_ }
    ·show ((L.joins++[j]).map Join.text).Nodup
     rw [List.map_append]; refine nodup_snoc h.j1 ?_; intro hx; obtain⟨k,hk,hkt⟩:=List.mem_map.1 hx; exact ha (List.any_eq_true.2 ⟨k,hk,by simp [hkt]⟩)
    ·intro k hk
     rcases List.mem_append.1 hk with hk|hk
     ·exact h.j2 _ hk
     ·simp at hk
      subst hk; exact hm.1
    ·show (L.joins++[j]).length≤16
     simp
     omega
theorem node_cases(L:Ledger) (n:Node):((doNode L n).2≠0∧(doNode L n).1=L)∨((doNode L n).2=0∧mayNode n=true∧n.name∉L.bans∧(ins cN n L.nodes).length≤4∧(doNode L n).1={ L with nodes:=ins cN n L.nodes }):=by
 unfold doNode
 split
 ·rename_i hm
  split
  ·exact .inl ⟨by simp,rfl⟩
  ·rename_i hb
   split
   ·rename_i l hl
    obtain⟨rfl,hle⟩:=put_some hl; exact .inr ⟨rfl,hm,by simpa using hb,hle,rfl⟩
   ·exact .inl ⟨by simp,rfl⟩
 ·exact .inl ⟨by simp,rfl⟩
theorem wf_node{L:Ledger} {n:Node} (h:L.Wf):(doNode L n).1.Wf:=by
 rcases node_cases L n with⟨_,h2⟩|⟨_,hm,hb,hle,h2⟩
 ·rw [h2]; exact h
 ·rw [h2]
  exact { h with
   n1:=ins_rises cN_cmp h.n1
   n2:=fun x hx=>by
    rcases ins_mem hx with rfl|hx
    ·exact hm
    ·exact h.n2 _ hx
   n3:=hle
   b4:=fun x hx=>by
    rcases ins_mem hx with rfl|hx
    ·exact hb
    ·exact h.b4 _ hx }
theorem mayJoin_used{j:Join}:mayJoin { j with used:=true }=mayJoin j:=rfl
theorem wf_join{L:Ledger} {t:Txt} {n:Node} (h:L.Wf):(doJoin L t n).1.Wf:=by
 unfold doJoin
 split
 ·exact h
 ·split
  ·exact h
  ·split
   ·split
    ·have hn:=wf_node (n:=n) h
     rcases node_cases L n with⟨h1,h2⟩|⟨_,_,_,_,h2⟩
     ·rename_i hz
      simp at hz
      exact absurd hz h1
     ·rw [h2] at hn ⊢
      refine { hn with j1:=?_,j2:=?_,j3:=?_ }
      ·show ((modP _ _ L.joins).map Join.text).Nodup
       rw [modP_map (f:=fun j:Join=>{ j with used:=true }) Join.text (fun _=>rfl)]; exact h.j1
      ·intro k hk
       rcases modP_mem hk with hk|⟨a,ha,_,rfl⟩
       ·exact h.j2 _ hk
       ·rw [mayJoin_used]; exact h.j2 _ ha
      ·show (modP _ _ L.joins).length≤16
       rw [modP_length]; exact h.j3
    ·exact h
   ·exact h
theorem erased_none{s:Txt} {x:Node}:∀ {l:List Node},Rises cN l→x∈l.eraseP (fun n=>n.name==s)→¬ x.name=s
 | a::l,hr,hx,hs=>by
  unfold Rises at hr; rw [List.pairwise_cons] at hr; by_cases ha:(a.name==s)=true
  ·have e:(a::l).eraseP (fun n=>n.name==s)=l:=by simp only [List.eraseP_cons,ha]; rfl
   have hx':x∈l:=by rw [← e]; exact hx
   have:=hr.1 x hx'; unfold cN at this; rw [ord_lt,show a.name=s from by simpa using ha,hs] at this; exact List.lt_irrefl _ this
  ·have e:(a::l).eraseP (fun n=>n.name==s)=a::l.eraseP (fun n=>n.name==s):=by simp only [List.eraseP_cons,ha]; rfl
   have hx':x∈a::l.eraseP (fun n=>n.name==s):=by rw [← e]; exact hx
   rcases List.mem_cons.1 hx' with rfl|hx'
   ·exact ha (by simp [hs])
   ·exact erased_none (l:=l) hr.2 hx' hs
theorem wf_ban{L:Ledger} {s:Txt} (h:L.Wf):(doBan L s).1.Wf:=by
 unfold doBan
 split
 ·rename_i hm
  split
  ·exact h
  ·split
   ·rename_i l hl
    obtain⟨rfl,hle⟩:=put_some hl; refine { h with b1:=ins_rises ord_cmp' h.b1,b2:=?_,b3:=hle,n1:=rises_erase h.n1,n2:=fun x hx=>h.n2 _ (erase_mem hx),n3:=erase_le h.n3,b4:=?_ }
    ·intro x hx
     rcases ins_mem hx with rfl|hx
     ·exact hm
     ·exact h.b2 _ hx
    ·intro x hx hin
     rcases ins_mem hin with hs|hin
     ·exact erased_none h.n1 hx hs
     ·exact h.b4 _ (erase_mem hx) hin
   ·exact h
 ·exact h
theorem wf_lift{L:Ledger} {s:Txt} (h:L.Wf):(doLift L s).1.Wf:=by
 unfold doLift
 split
 ·exact { h with b1:=rises_erase h.b1,b2:=fun x hx=>h.b2 _ (erase_mem hx),b3:=erase_le h.b3,b4:=fun x hx hin=>h.b4 _ hx (erase_mem hin) }
 ·exact h
theorem wf_evict{L:Ledger} {s:Txt} (h:L.Wf):(doEvict L s).1.Wf:=by
 unfold doEvict
 split
 ·exact { h with n1:=rises_erase h.n1,n2:=fun x hx=>h.n2 _ (erase_mem hx),n3:=erase_le h.n3,b4:=fun x hx hin=>h.b4 _ (erase_mem hx) hin }
 ·exact h
theorem count_none{α:Type} {p:α→Bool} {l:List α} (h:¬ l.any p=true):l.countP p=0:=by
 rw [List.countP_eq_zero]
 intro a ha hp
 exact h (List.any_eq_true.2 ⟨a,ha,hp⟩)
theorem wf_prepare{L:Ledger} {k:Key} (h:L.Wf):(doPrepare L k).1.Wf:=by
 unfold doPrepare
 split
 ·exact h
 ·rename_i hm
  split
  ·exact h
  ·rename_i ha
   split
   ·exact h
   ·rename_i hl
    simp only [Bool.or_eq_true,Bool.not_eq_true',not_or,Bool.not_eq_false] at hm ha; have hk1:k.state=1:=by simpa using hm.2
    refine { h with k1:=?_,k2:=?_,k3:=?_,k4:=?_,k5:=?_ }
    ·show ((L.keys++[k]).map Key.kid).Nodup
     rw [List.map_append]; refine nodup_snoc h.k1 ?_; intro hx; obtain⟨j,hj,hjt⟩:=List.mem_map.1 hx; exact ha.2 (List.any_eq_true.2 ⟨j,hj,by simp [hjt]⟩)
    ·intro j hj
     rcases List.mem_append.1 hj with hj|hj
     ·exact h.k2 _ hj
     ·simp at hj
      subst hj; exact hm.1
    ·show (L.keys++[k]).length≤8
     simp
     omega
    ·show (L.keys++[k]).countP _≤1
     rw [List.countP_append,count_none ha.1]; exact Nat.le_trans (Nat.add_le_add (Nat.le_refl 0) List.countP_le_length) (by simp)
    ·show (L.keys++[k]).countP _≤1
     rw [List.countP_append]; have:[k].countP (fun k=>k.state==2)=0:=by simp [hk1]
     rw [this]; exact h.k5
theorem count_modP{α:Type} {p q:α→Bool} {f:α→α} (hf:∀ a,p a=true→q (f a)=false):∀ {l:List α},(modP p f l).countP q≤l.countP q
 | []=>Nat.le_refl _
 | a::l=>by
  unfold modP; split
  ·rename_i hp
   rw [List.countP_cons,List.countP_cons,hf a hp]; simp
  ·rw [List.countP_cons,List.countP_cons]
   have:=count_modP hf (l:=l); omega
theorem count_less{α:Type} {p:α→Bool} {f:α→α} (hf:∀ a,p (f a)=false):∀ {l:List α},(modP p f l).countP p=l.countP p - 1
 | []=>rfl
 | a::l=>by
  unfold modP; split
  ·rename_i hp
   rw [List.countP_cons,List.countP_cons,hf a,hp]; simp
  ·rename_i hp
   rw [List.countP_cons,List.countP_cons]; have:=count_less hf (l:=l); simp [hp,this]
theorem count_more{α:Type} {p q:α→Bool} {f:α→α}:∀ {l:List α},(modP p f l).countP q≤l.countP q+1
 | []=>by simp [modP]
 | a::l=>by
  unfold modP; split
  ·rw [List.countP_cons,List.countP_cons]
   split <;> split <;> omega
  ·rw [List.countP_cons,List.countP_cons]
   have:=count_more (p:=p) (q:=q) (f:=f) (l:=l); omega
theorem mayKey_since{k:Key} {s n:Int} (h:mayKey k=true) (hs:1≤s∧s≤3) (hn:within n 0 1099511627776=true):mayKey { k with state:=s,since:=n }=true:=by
 unfold mayKey at h ⊢
 simp only [Bool.and_eq_true] at h ⊢
 exact⟨⟨h.1.1,by simp [within,hs]⟩,hn⟩
theorem wf_active{L:Ledger} {n:Int} (h:L.Wf):(doActive L n).1.Wf:=by
 unfold doActive
 split
 ·rename_i hn
  split
  ·refine { h with k1:=?_,k2:=?_,k3:=?_,k4:=?_,k5:=?_ }
   ·show ((modP _ _ (retire n L.keys)).map Key.kid).Nodup
    unfold retire; rw [modP_map (f:=fun j:Key=>{ j with state:=2,since:=n }) Key.kid (fun _=>rfl),modP_map (f:=fun j:Key=>{ j with state:=3,since:=n }) Key.kid (fun _=>rfl)]; exact h.k1
   ·intro k hk
    have hr:∀ j∈retire n L.keys,mayKey j=true:=fun j hj=>by
     rcases modP_mem hj with hj|⟨a,ha,_,rfl⟩
     ·exact h.k2 _ hj
     ·exact mayKey_since (h.k2 _ ha) (by omega) hn
    rcases modP_mem hk with hk|⟨a,ha,_,rfl⟩
    ·exact hr _ hk
    ·exact mayKey_since (hr _ ha) (by omega) hn
   ·show (modP _ _ (retire n L.keys)).length≤8
    unfold retire; rw [modP_length,modP_length]; exact h.k3
   ·show (modP _ _ (retire n L.keys)).countP _≤1
    refine Nat.le_trans (count_modP (fun a _=>rfl)) (Nat.le_trans (count_modP (fun a _=>rfl)) h.k4)
   ·show (modP _ _ (retire n L.keys)).countP _≤1
    have h1:=count_more (p:=fun j:Key=>j.state==1) (q:=fun j:Key=>j.state==2) (f:=fun j=>{ j with state:=2,since:=n }) (l:=retire n L.keys); have h2:(retire n L.keys).countP (fun j=>j.state==2)=L.keys.countP (fun j=>j.state==2) - 1:=count_less (fun a=>rfl); have:=h.k5; omega
  ·exact h
 ·exact h
theorem wf_drop{L:Ledger} {s:Txt} (h:L.Wf):(doDrop L s).1.Wf:=by
 unfold doDrop
 split
 ·refine { h with k1:=?_,k2:=fun x hx=>h.k2 _ (erase_mem hx),k3:=erase_le h.k3,k4:=?_,k5:=?_ }
  ·exact h.k1.sublist (List.eraseP_sublist.map _)
  ·exact Nat.le_trans (List.eraseP_sublist.countP_le) h.k4
  ·exact Nat.le_trans (List.eraseP_sublist.countP_le) h.k5
 ·exact h
theorem wf_bundle{ok:Bool} {L:Ledger} {b:Bundle} (h:L.Wf) (hk:b.keys.length≤1000):(doBundle ok L b).1.Wf:=by
 unfold doBundle
 split
 ·split
  ·exact h
  ·split
   ·rename_i l hl
    obtain⟨rfl,hle⟩:=put_some hl; exact { h with
     u1:=ins_rises cB_cmp h.u1
     u2:=fun x hx=>by
      rcases ins_mem hx with rfl|hx
      ·exact hk
      ·exact h.u2 _ hx
     u3:=hle }
   ·exact h
 ·exact h
theorem wf_unbind{L:Ledger} {s:Txt} (h:L.Wf):(doUnbind L s).1.Wf:=by
 unfold doUnbind
 split
 ·exact { h with u1:=rises_erase h.u1,u2:=fun x hx=>h.u2 _ (erase_mem hx),u3:=erase_le h.u3 }
 ·exact h
theorem rises_modP{α:Type} {c:α→α→Int} {p:α→Bool} {f:α→α} (h1:∀ a b,c (f a) b=c a b) (h2:∀ a b,c a (f b)=c a b):∀ {l:List α},Rises c l→Rises c (modP p f l)
 | [],h=>h
 | a::l,h=>by
  unfold Rises at h ⊢; rw [List.pairwise_cons] at h; unfold modP; split
  ·rw [List.pairwise_cons]
   exact⟨fun b hb=>by rw [h1]; exact h.1 _ hb,h.2⟩
  ·rw [List.pairwise_cons]
   refine⟨fun b hb=>?_,rises_modP h1 h2 h.2⟩; rcases modP_mem hb with hb|⟨b',hb',_,rfl⟩
   ·exact h.1 _ hb
   ·rw [h2]; exact h.1 _ hb'
theorem wf_seq{L:Ledger} {s:Txt} {n:Int} (h:L.Wf):(doSeq L s n).1.Wf:=by
 unfold doSeq
 split
 ·exact h
 ·rename_i d hd
  split
  ·exact h
  ·rename_i hc
   simp only [Bool.or_eq_true,decide_eq_true_eq,not_or] at hc; refine { h with n1:=rises_modP (f:=fun d:Node=>{ d with seq:=n }) (fun _ _=>rfl) (fun _ _=>rfl) h.n1,n2:=?_,n3:=?_,b4:=?_ }
   ·intro x hx
    rcases modP_mem hx with hx|⟨a,ha,_,rfl⟩
    ·exact h.n2 _ hx
    ·have ha':=h.n2 _ ha
     have hd':=h.n2 _ (List.mem_of_find?_eq_some hd); unfold mayNode within at ha' hd' ⊢; simp only [Bool.and_eq_true,decide_eq_true_eq] at ha' hd' ⊢; exact⟨⟨ha'.1.1,by omega⟩,ha'.2⟩
   ·show (modP _ _ L.nodes).length≤4
    rw [modP_length]; exact h.n3
   ·intro x hx
    rcases modP_mem hx with hx|⟨a,ha,_,rfl⟩
    ·exact h.b4 _ hx
    ·exact h.b4 a ha
theorem does_wf{ok:Bool} {L:Ledger} {o:Op} (h:L.Wf) (hs:o.entry.sels.length≤1000) (hk:o.bundle.keys.length≤1000):(does ok L o).1.Wf:=by
 unfold does
 by_cases hentry:o.kind=1
 ·rw [if_pos hentry]; exact wf_entry h hs
 rw [if_neg hentry]
 by_cases hgone:o.kind=2
 ·rw [if_pos hgone]; exact wf_gone h
 rw [if_neg hgone]
 by_cases htoken:o.kind=3
 ·rw [if_pos htoken]; exact wf_token h
 rw [if_neg htoken]
 by_cases hjoin:o.kind=4
 ·rw [if_pos hjoin]; exact wf_join h
 rw [if_neg hjoin]
 by_cases hnode:o.kind=5
 ·rw [if_pos hnode]; exact wf_node h
 rw [if_neg hnode]
 by_cases hban:o.kind=6
 ·rw [if_pos hban]; exact wf_ban h
 rw [if_neg hban]
 by_cases hlift:o.kind=7
 ·rw [if_pos hlift]; exact wf_lift h
 rw [if_neg hlift]
 by_cases hevict:o.kind=8
 ·rw [if_pos hevict]; exact wf_evict h
 rw [if_neg hevict]
 by_cases hprepare:o.kind=9
 ·rw [if_pos hprepare]; exact wf_prepare h
 rw [if_neg hprepare]
 by_cases hactive:o.kind=10
 ·rw [if_pos hactive]; exact wf_active h
 rw [if_neg hactive]
 by_cases hdrop:o.kind=11
 ·rw [if_pos hdrop]; exact wf_drop h
 rw [if_neg hdrop]
 by_cases hbundle:o.kind=12
 ·rw [if_pos hbundle]; exact wf_bundle h hk
 rw [if_neg hbundle]
 by_cases hunbind:o.kind=13
 ·rw [if_pos hunbind]; exact wf_unbind h
 rw [if_neg hunbind]
 by_cases hseq:o.kind=14
 ·rw [if_pos hseq]; exact wf_seq h
 rw [if_neg hseq]
 exact h
end Led
end
section
namespace Led
section
variable {α:Type} {c:α→α→Int} {x:α}
theorem above{y:α} {t:List α} (hc:Cmp c) (h:∀ z∈t,c y z<0) (h0:0≤c y x):∀ z∈t,0<c z x:=by
 intro z hz
 have hyz:=h z hz
 rw [← hc.flip]
 by_cases he:c y x=0
 ·exact(hc.left _ _ _ he).1 hyz
 ·have:c x y<0:=(hc.flip _ _).2 (by omega)
  exact hc.trans _ _ _ this hyz
theorem filter_none{p:α→Bool} {t:List α} (h:∀ z∈t,p z=false):t.filter p=[]:=by
 rw [List.filter_eq_nil_iff]
 intro z hz
 rw [h z hz]
 simp
theorem filter_all{p:α→Bool} {t:List α} (h:∀ z∈t,p z=true):t.filter p=t:=List.filter_eq_self.2 h
structure Place (c:α→α→Int) (x:α) (l:List α) (k:Nat):Prop where
 le:k≤l.length
 lo:∀ y∈l.take k,c y x<0
 hi:∀ y∈l.drop k,0≤c y x
theorem Place.ins_set(hc:Cmp c) {l:List α} {k:Nat} (h:Rises c l) (hp:Place c x l k) (hk:k<l.length) (he:c l[k] x=0):ins c x l=l.set k x:=by
 have e:l=l.take k++l[k]::l.drop (k+1):=by rw [← List.drop_eq_getElem_cons hk,List.take_append_drop]
 have hd:∀ z∈l.drop (k+1),0<c z x:=by
  have h':Rises c (l[k]::l.drop (k+1)):=by rw [← List.drop_eq_getElem_cons hk]; exact h.sublist (List.drop_sublist _ _)
  unfold Rises at h'; rw [List.pairwise_cons] at h'; exact above hc h'.1 (by omega)
 rw [List.set_eq_take_append_cons_drop,if_pos hk]
 have hlo:=hp.lo
 generalize l.take k=A at *
 generalize l.drop (k+1)=B at *
 generalize l[k]=y at *
 rw [e]
 unfold ins
 rw [List.filter_append,List.filter_append,List.filter_cons,List.filter_cons,filter_all (t:=A) (fun z hz=>decide_eq_true (hlo z hz)),filter_none (t:=B) (fun z hz=>decide_eq_false (by have:=hd z hz; omega)),
  filter_none (t:=A) (fun z hz=>decide_eq_false (by have:=hlo z hz; omega)),filter_all (t:=B) (fun z hz=>decide_eq_true (hd z hz))]
 simp [he]
theorem Place.ins_new{l:List α} {k:Nat} (hp:Place c x l k) (hn:∀ y∈l.drop k,c y x≠0):ins c x l=l.take k++x::l.drop k:=by
 have hlo:=hp.lo
 have hhi:=hp.hi
 have e:l=l.take k++l.drop k:=(List.take_append_drop k l).symm
 generalize l.take k=A at *
 generalize l.drop k=B at *
 rw [e]
 unfold ins
 rw [List.filter_append,List.filter_append,filter_all (t:=A) (fun z hz=>decide_eq_true (hlo z hz)),filter_none (t:=B) (fun z hz=>decide_eq_false (by have:=hhi z hz; omega)),
  filter_none (t:=A) (fun z hz=>decide_eq_false (by have:=hlo z hz; omega)),filter_all (t:=B) (fun z hz=>decide_eq_true (by have:=hhi z hz; have:=hn z hz; omega))]
 simp
theorem Place.new_of(hc:Cmp c) {l:List α} {k:Nat} (h:Rises c l) (hp:Place c x l k) (he:∀ hk:k<l.length,c l[k] x≠0):∀ y∈l.drop k,c y x≠0:=by
 intro y hy
 by_cases hk:k<l.length
 ·have hk0:=hp.hi l[k] (by rw [List.drop_eq_getElem_cons hk]; exact List.mem_cons_self)
  have hk1:=he hk; rw [List.drop_eq_getElem_cons hk] at hy; have h':Rises c (l[k]::l.drop (k+1)):=by rw [← List.drop_eq_getElem_cons hk]; exact h.sublist (List.drop_sublist _ _)
  unfold Rises at h'; rw [List.pairwise_cons] at h'; rcases List.mem_cons.1 hy with rfl|hy
  ·exact hk1
  ·have:=above hc h'.1 (x:=x) (by omega) y hy
   omega
 ·rw [List.drop_of_length_le (by omega)] at hy
  cases hy
structure Between (c:α→α→Int) (x:α) (l:List α) (i j:Nat):Prop where
 le:i≤j
 len:j≤l.length
 lo:∀ y∈l.take i,c y x<0
 hi:∀ y∈l.drop j,0≤c y x
theorem Between.start(l:List α):Between c x l 0 l.length:=⟨Nat.zero_le _,Nat.le_refl _,by simp,by simp⟩
theorem Between.place{l:List α} {i:Nat} (h:Between c x l i i):Place c x l i:=⟨h.len,h.lo,h.hi⟩
theorem Between.up(hc:Cmp c) {l:List α} {i j m:Nat} (hr:Rises c l) (h:Between c x l i j) (h2:m<j) (hm:m<l.length) (hlt:c l[m] x<0):Between c x l (m+1) j:=by
 refine⟨by omega,h.len,?_,h.hi⟩
 intro y hy
 rw [List.take_succ_eq_append_getElem hm] at hy
 rcases List.mem_append.1 hy with hy|hy
 ·obtain⟨k,hk,rfl⟩:=List.mem_iff_getElem.1 hy
  have hk':k<m:=by simp at hk; omega
  have:=List.pairwise_iff_getElem.1 hr k m (by omega) hm hk'; rw [List.getElem_take]; exact hc.trans _ _ _ this hlt
 ·simp at hy
  subst hy; exact hlt
theorem Between.down(hc:Cmp c) {l:List α} {i j m:Nat} (hr:Rises c l) (h:Between c x l i j) (h1:i≤m) (hm:m<l.length) (hge:¬ c l[m] x<0):Between c x l i m:=by
 refine⟨h1,by omega,h.lo,?_⟩
 intro y hy
 obtain⟨k,hk,rfl⟩:=List.mem_iff_getElem.1 hy
 rw [List.getElem_drop]
 rcases Nat.eq_zero_or_pos k with rfl|hk0
 ·simpa using hge
 ·have hk':m+k<l.length:=by simp at hk; omega
  have hlt:=List.pairwise_iff_getElem.1 hr m (m+k) hm hk' (by omega); have h':0≤c l[m] x:=by omega
  have:=above (c:=c) (x:=x) (y:=l[m]) (t:=[l[m+k]]) hc (by simpa using hlt) h' l[m+k] (by simp); omega
end
end Led
end
section
open Go.RowKit Mem Led
theorem idx_any{α:Type} (p:α→Bool) (L:List α):decide (0≤idxOf p L)=L.any p:=by
 unfold idxOf
 cases h:L.findIdx? p with
 | none =>
  rw [List.findIdx?_eq_none_iff] at h; have:L.any p=false:=by rw [List.any_eq_false]; intro x hx; rw [h x hx]; simp
  rw [this]; rfl
 | some i =>
  obtain⟨hi,hp,_⟩:=List.findIdx?_eq_some_iff_getElem.1 h; have:L.any p=true:=List.any_eq_true.2 ⟨_,List.getElem_mem hi,hp⟩; rw [this]; simp
def Found {α:Type} (c:α→α→Int) (x:α) (L:List α) (w:World) (e:Ending) (w':World):Prop :=
 ∃ k,∃ f:Bool,e=.returned (.tuple #[.int .i64 (k:Nat),.bool f])∧Led.Place c x L k∧(f=true↔∃ hk:k<L.length,c L[k] x=0)∧Below w.heap.size w w'
theorem hasJoi_any(g:Nat) (lb:Array Value) (eg:∀ args w,(callFunc g args).run Tryz.prog w=.ok (.enter g args) w) (p:Led.Join→Bool) (A:Option Addr) (n c:Nat) (L:List (Led.Join)) (w:World) (h:Es joinRow 4 w A n L) (hn:n≤9223372036854775807)
  (hp:∀ (W:World) (x:Led.Join),x∈L→Below w.heap.size w W→Calls Tryz.prog g (#[.agg (joinRow x).toArray]++lb) W fun e w'=>e=.returned (.bool (p x))∧Below W.heap.size W w') :
  Calls Tryz.prog 85 #[.slice A n c,.func (.func g) #[] lb] w fun e w'=>e=.returned (.bool (L.any p))∧Below w.heap.size w w':=by
 have hc:=idxJoi_any g lb eg p A n c L w h hn hp
 rw [← idx_any]
 generalize idxOf p L=r at *
 go_enter Tryz.func85,Tryz.ntmps85
 go_wp2_with fail
 refine hc.mono ?_
 rintro e w1 ⟨rfl,hb1⟩
 go_wp2
 go_ret
 exact⟨by first|rfl|simp,hb1⟩
theorem hasKey_any(g:Nat) (lb:Array Value) (eg:∀ args w,(callFunc g args).run Tryz.prog w=.ok (.enter g args) w) (p:Led.Key→Bool) (A:Option Addr) (n c:Nat) (L:List (Led.Key)) (w:World) (h:Es keyRow 4 w A n L) (hn:n≤9223372036854775807)
  (hp:∀ (W:World) (x:Led.Key),x∈L→Below w.heap.size w W→Calls Tryz.prog g (#[.agg (keyRow x).toArray]++lb) W fun e w'=>e=.returned (.bool (p x))∧Below W.heap.size W w') :
  Calls Tryz.prog 102 #[.slice A n c,.func (.func g) #[] lb] w fun e w'=>e=.returned (.bool (L.any p))∧Below w.heap.size w w':=by
 have hc:=idxKey_any g lb eg p A n c L w h hn hp
 rw [← idx_any]
 generalize idxOf p L=r at *
 go_enter Tryz.func102,Tryz.ntmps102
 go_wp2_with fail
 refine hc.mono ?_
 rintro e w1 ⟨rfl,hb1⟩
 go_wp2
 go_ret
 exact⟨by first|rfl|simp,hb1⟩
theorem hasBun_any(g:Nat) (lb:Array Value) (eg:∀ args w,(callFunc g args).run Tryz.prog w=.ok (.enter g args) w) (p:Led.Bundle × Value→Bool) (A:Option Addr) (n c:Nat) (L:List (Led.Bundle × Value)) (w:World) (h:Es bunRow 3 w A n L) (hn:n≤9223372036854775807)
  (hp:∀ (W:World) (x:Led.Bundle × Value),x∈L→Below w.heap.size w W→Calls Tryz.prog g (#[.agg (bunRow x).toArray]++lb) W fun e w'=>e=.returned (.bool (p x))∧Below W.heap.size W w') :
  Calls Tryz.prog 108 #[.slice A n c,.func (.func g) #[] lb] w fun e w'=>e=.returned (.bool (L.any p))∧Below w.heap.size w w':=by
 have hc:=idxBun_any g lb eg p A n c L w h hn hp
 rw [← idx_any]
 generalize idxOf p L=r at *
 go_enter Tryz.func108,Tryz.ntmps108
 go_wp2_with fail
 refine hc.mono ?_
 rintro e w1 ⟨rfl,hb1⟩
 go_wp2
 go_ret
 exact⟨by first|rfl|simp,hb1⟩
theorem bsEnt_any(g:Nat) (eg:∀ args w,(callFunc g args).run Tryz.prog w=.ok (.enter g args) w) (cf:Led.Entry × Value→Led.Entry × Value→Int) (hcf:Cmp cf) (x:Led.Entry × Value) (A:Option Addr) (n c:Nat) (L:List (Led.Entry × Value)) (hr:Rises cf L) (w:World) (h:Es entRow 5 w A n L) (hn:n≤4000000000000000000)
  (hp:∀ (W:World) (y:Led.Entry × Value),y∈L→Below w.heap.size w W→Calls Tryz.prog g (#[.agg (entRow y).toArray,.agg (entRow x).toArray]) W fun e w'=>e=.returned (.int .i64 (cf y x))∧Below W.heap.size W w') :
  Calls Tryz.prog 132 #[.slice A n c,.agg (entRow x).toArray,.func (.func g) #[] #[]] w (Found cf x L w):=by
 have hlen:=h.len entRow_len (by decide)
 have HLEN:=Lib.hid hlen
 have HP:=Lib.hid hp
 have HR:=Lib.hid hr
 have HC:=Lib.hid hcf
 clear hp hr hcf
 obtain⟨Y,hY⟩:∃ Y,(entRow x).toArray=Y:=⟨_,rfl⟩
 obtain⟨W,hW⟩:∃ W,w.alloc (.cells (entRow x).toArray 36)=W:=⟨_,rfl⟩
 have b0:Blk W w.heap.size (entRow x) 36:=by rw [← hW]; exact Blk.new w _ _
 have hbW:Below w.heap.size w W:=by rw [← hW]; exact(Below.refl _ _).alloc (Nat.le_refl _) _
 rw [hY] at hW
 have HW:=Lib.hid hW
 have HY:=Lib.hid hY
 rw [hY]
 clear hW hY
 go_enter Tryz.func132,Tryz.ntmps132
 go_upto_region 1 with fail
 rw [HW.out]
 clear HW
 go_wp2_with fail
 go_loopw [9,10,11] (fun i j _ wr=>∃ a b:Nat,i=.int .i64 a∧j=.int .i64 b∧a≤n∧b≤n∧Hid (Between cf x L a b)∧Below w.heap.size w wr∧Blk wr w.heap.size (entRow x) 36) (fun i j _ _=>(intOf j).toNat - (intOf i).toNat)
 case atStart=>exact⟨0,n,rfl,rfl,by omega,by omega,Lib.hid (by have:=Between.start (c:=cf) (x:=x) L; rwa [hlen] at this),hbW,b0⟩
 case round =>
  clear hbW b0; obtain⟨a,b,rfl,rfl,ha,hb,HB,hbw,b0⟩:=hrel; have hab:=HB.out.le; by_cases hlt:a<b
  ·have hi:(a:Int)<(b:Int):=by omega
   obtain⟨m,hm⟩:∃ m:Nat,(a+b) / 2=m:=⟨_,rfl⟩; have hm1:a≤m:=by omega
   have hm2:m<b:=by omega
   have hmL:m<L.length:=by rw [hlen]; omega
   have hmid:((a:Int)+(b:Int)) / 2=(m:Int):=by omega
   have hv:=HP.out; obtain⟨blk,off,rfl,hblk,hld⟩:=ldEnt_es (h.below hbw) hmL; have f1:∀ p,(ldEnt (.pointer (some ⟨blk,off+m * 5,none⟩))).run Tryz.prog (Batch.grew wr p)=.ok (.agg (entRow L[m]).toArray) (Batch.grew wr p):=fun p=>hld _ (Batch.grew_below wr p); have f2:∀ p,(ldEnt (.pointer (some ⟨w.heap.size,0,none⟩))).run Tryz.prog (Batch.grew wr p)=.ok (.agg Y) (Batch.grew wr p):=fun p=>by rw [← HY.out]; exact ldEnt_blk (b0.below (Batch.grew_below wr p)) rfl
   have HV:Hid (∀ p,Calls Tryz.prog g #[.agg (entRow L[m]).toArray,.agg Y] (Batch.grew wr p) fun e w'=>e=.returned (.int .i64 (cf L[m] x))∧Below (Batch.grew wr p).heap.size (Batch.grew wr p) w'):=Lib.hid fun p=>by rw [← HY.out]; exact HP.out _ _ (List.getElem_mem hmL) (hbw.trans ((Batch.grew_below wr p).mono hbw.size))
   have HUP:=Lib.hid (HB.out.up HC.out HR.out hm2 hmL); have HDN:=Lib.hid (HB.out.down HC.out HR.out hm1 hmL); have gm:(m:Int)<(n:Int):=by omega
   have hb1:=b0; clear hv hld HB; generalize (entRow L[m]).toArray=X at *; generalize cf L[m] x=v at *; go_upto_region 5 with fail
   refine Batch.wp_region_grew (by kernel_rfl) (by kernel_rfl) ?_; repeat (go_big_quiet_step (exact Batch.calls_grew (HV.out _)))
   refine wpQuiet_nil ?_; rintro _ ⟨px,rfl⟩; have gx:=Batch.grew_below wr px; clear f1 f2 HV; generalize Batch.grew wr px=w5 at *; by_cases hv0:v<0
   ·have HB:=Lib.hid (HUP.out hv0)
    clear HUP HDN; go_wp2_with fail
    go_roundw
    case rel=>exact⟨m+1,b,by go_num,rfl,by omega,hb,HB,hbw.trans (gx.mono hbw.size),b0.below gx⟩
    case measure=>simp [intOf]; omega
   ·have HB:=Lib.hid (HDN.out hv0)
    clear HUP HDN; go_wp2_with fail
    go_roundw
    case rel=>exact⟨a,m,rfl,rfl,ha,by omega,HB,hbw.trans (gx.mono hbw.size),b0.below gx⟩
    case measure=>simp [intOf]; omega
  ·obtain rfl:a=b:=by omega
   have HPL:=Lib.hid HB.out.place; have hi:¬ ((a:Int)<(a:Int)):=by omega
   by_cases han:a<n
   ·have haL:a<L.length:=by rw [hlen]; exact han
    obtain⟨blk,off,rfl,hblk,hld⟩:=ldEnt_es (h.below hbw) haL; have f1:∀ p,(ldEnt (.pointer (some ⟨blk,off+a * 5,none⟩))).run Tryz.prog (Batch.grew wr p)=.ok (.agg (entRow L[a]).toArray) (Batch.grew wr p):=fun p=>hld _ (Batch.grew_below wr p); have f2:∀ p,(ldEnt (.pointer (some ⟨w.heap.size,0,none⟩))).run Tryz.prog (Batch.grew wr p)=.ok (.agg Y) (Batch.grew wr p):=fun p=>by rw [← HY.out]; exact ldEnt_blk (b0.below (Batch.grew_below wr p)) rfl
    have HV:Hid (∀ p,Calls Tryz.prog g #[.agg (entRow L[a]).toArray,.agg Y] (Batch.grew wr p) fun e w'=>e=.returned (.int .i64 (cf L[a] x))∧Below (Batch.grew wr p).heap.size (Batch.grew wr p) w'):=Lib.hid fun p=>by rw [← HY.out]; exact HP.out _ _ (List.getElem_mem haL) (hbw.trans ((Batch.grew_below wr p).mono hbw.size))
    have HF:Hid (cf L[a] x=0↔∃ hk:a<L.length,cf L[a] x=0):=Lib.hid ⟨fun e=>⟨haL,e⟩,fun ⟨_,e⟩=>e⟩; have gm:(a:Int)<(n:Int):=by omega
    clear hld HB; generalize (entRow L[a]).toArray=X at *; generalize hvv:cf L[a] x=v at HV HF; clear hvv; go_wp2_with fail
    refine Batch.wp_region_grew (by kernel_rfl) (by kernel_rfl) ?_; repeat (go_big_quiet_step (exact Batch.calls_grew (HV.out _)))
    refine wpQuiet_nil ?_; rintro _ ⟨px,rfl⟩; have gx:=Batch.grew_below wr px; clear f1 f2 HV; generalize Batch.grew wr px=w5 at *; go_wp2_with fail
    go_ret2; exact⟨a,_,rfl,HPL.out,by rw [← HF.out]; simp,hbw.trans (gx.mono hbw.size)⟩
   ·have gm:¬ ((a:Int)<(n:Int)):=by omega
    have HF:Hid (¬ ∃ hk:a<L.length,cf L[a] x=0):=Lib.hid (fun ⟨hk,_⟩=>by omega); clear HB; go_wp2_with fail
    refine Batch.wp_region_grew (by kernel_rfl) (by kernel_rfl) ?_; repeat (go_big_quiet_step (fail))
    refine wpQuiet_nil ?_; rintro _ ⟨px,rfl⟩; have gx:=Batch.grew_below wr px; generalize Batch.grew wr px=w5 at *; go_wp2_with fail
    go_ret2; exact⟨a,false,rfl,HPL.out,⟨fun e=>by simp at e,fun e=>absurd e HF.out⟩,hbw.trans (gx.mono hbw.size)⟩
theorem bsNod_any(g:Nat) (eg:∀ args w,(callFunc g args).run Tryz.prog w=.ok (.enter g args) w) (cf:Led.Node→Led.Node→Int) (hcf:Cmp cf) (x:Led.Node) (A:Option Addr) (n c:Nat) (L:List (Led.Node)) (hr:Rises cf L) (w:World) (h:Es nodeRow 5 w A n L) (hn:n≤4000000000000000000)
  (hp:∀ (W:World) (y:Led.Node),y∈L→Below w.heap.size w W→Calls Tryz.prog g (#[.agg (nodeRow y).toArray,.agg (nodeRow x).toArray]) W fun e w'=>e=.returned (.int .i64 (cf y x))∧Below W.heap.size W w') :
  Calls Tryz.prog 137 #[.slice A n c,.agg (nodeRow x).toArray,.func (.func g) #[] #[]] w (Found cf x L w):=by
 have hlen:=h.len nodeRow_len (by decide)
 have HLEN:=Lib.hid hlen
 have HP:=Lib.hid hp
 have HR:=Lib.hid hr
 have HC:=Lib.hid hcf
 clear hp hr hcf
 obtain⟨Y,hY⟩:∃ Y,(nodeRow x).toArray=Y:=⟨_,rfl⟩
 obtain⟨W,hW⟩:∃ W,w.alloc (.cells (nodeRow x).toArray 40)=W:=⟨_,rfl⟩
 have b0:Blk W w.heap.size (nodeRow x) 40:=by rw [← hW]; exact Blk.new w _ _
 have hbW:Below w.heap.size w W:=by rw [← hW]; exact(Below.refl _ _).alloc (Nat.le_refl _) _
 rw [hY] at hW
 have HW:=Lib.hid hW
 have HY:=Lib.hid hY
 rw [hY]
 clear hW hY
 go_enter Tryz.func137,Tryz.ntmps137
 go_upto_region 1 with fail
 rw [HW.out]
 clear HW
 go_wp2_with fail
 go_loopw [9,10,11] (fun i j _ wr=>∃ a b:Nat,i=.int .i64 a∧j=.int .i64 b∧a≤n∧b≤n∧Hid (Between cf x L a b)∧Below w.heap.size w wr∧Blk wr w.heap.size (nodeRow x) 40) (fun i j _ _=>(intOf j).toNat - (intOf i).toNat)
 case atStart=>exact⟨0,n,rfl,rfl,by omega,by omega,Lib.hid (by have:=Between.start (c:=cf) (x:=x) L; rwa [hlen] at this),hbW,b0⟩
 case round =>
  clear hbW b0; obtain⟨a,b,rfl,rfl,ha,hb,HB,hbw,b0⟩:=hrel; have hab:=HB.out.le; by_cases hlt:a<b
  ·have hi:(a:Int)<(b:Int):=by omega
   obtain⟨m,hm⟩:∃ m:Nat,(a+b) / 2=m:=⟨_,rfl⟩; have hm1:a≤m:=by omega
   have hm2:m<b:=by omega
   have hmL:m<L.length:=by rw [hlen]; omega
   have hmid:((a:Int)+(b:Int)) / 2=(m:Int):=by omega
   have hv:=HP.out; obtain⟨blk,off,rfl,hblk,hld⟩:=ldNod_es (h.below hbw) hmL; have f1:∀ p,(ldNod (.pointer (some ⟨blk,off+m * 5,none⟩))).run Tryz.prog (Batch.grew wr p)=.ok (.agg (nodeRow L[m]).toArray) (Batch.grew wr p):=fun p=>hld _ (Batch.grew_below wr p); have f2:∀ p,(ldNod (.pointer (some ⟨w.heap.size,0,none⟩))).run Tryz.prog (Batch.grew wr p)=.ok (.agg Y) (Batch.grew wr p):=fun p=>by rw [← HY.out]; exact ldNod_blk (b0.below (Batch.grew_below wr p)) rfl
   have HV:Hid (∀ p,Calls Tryz.prog g #[.agg (nodeRow L[m]).toArray,.agg Y] (Batch.grew wr p) fun e w'=>e=.returned (.int .i64 (cf L[m] x))∧Below (Batch.grew wr p).heap.size (Batch.grew wr p) w'):=Lib.hid fun p=>by rw [← HY.out]; exact HP.out _ _ (List.getElem_mem hmL) (hbw.trans ((Batch.grew_below wr p).mono hbw.size))
   have HUP:=Lib.hid (HB.out.up HC.out HR.out hm2 hmL); have HDN:=Lib.hid (HB.out.down HC.out HR.out hm1 hmL); have gm:(m:Int)<(n:Int):=by omega
   have hb1:=b0; clear hv hld HB; generalize (nodeRow L[m]).toArray=X at *; generalize cf L[m] x=v at *; go_upto_region 5 with fail
   refine Batch.wp_region_grew (by kernel_rfl) (by kernel_rfl) ?_; repeat (go_big_quiet_step (exact Batch.calls_grew (HV.out _)))
   refine wpQuiet_nil ?_; rintro _ ⟨px,rfl⟩; have gx:=Batch.grew_below wr px; clear f1 f2 HV; generalize Batch.grew wr px=w5 at *; by_cases hv0:v<0
   ·have HB:=Lib.hid (HUP.out hv0)
    clear HUP HDN; go_wp2_with fail
    go_roundw
    case rel=>exact⟨m+1,b,by go_num,rfl,by omega,hb,HB,hbw.trans (gx.mono hbw.size),b0.below gx⟩
    case measure=>simp [intOf]; omega
   ·have HB:=Lib.hid (HDN.out hv0)
    clear HUP HDN; go_wp2_with fail
    go_roundw
    case rel=>exact⟨a,m,rfl,rfl,ha,by omega,HB,hbw.trans (gx.mono hbw.size),b0.below gx⟩
    case measure=>simp [intOf]; omega
  ·obtain rfl:a=b:=by omega
   have HPL:=Lib.hid HB.out.place; have hi:¬ ((a:Int)<(a:Int)):=by omega
   by_cases han:a<n
   ·have haL:a<L.length:=by rw [hlen]; exact han
    obtain⟨blk,off,rfl,hblk,hld⟩:=ldNod_es (h.below hbw) haL; have f1:∀ p,(ldNod (.pointer (some ⟨blk,off+a * 5,none⟩))).run Tryz.prog (Batch.grew wr p)=.ok (.agg (nodeRow L[a]).toArray) (Batch.grew wr p):=fun p=>hld _ (Batch.grew_below wr p); have f2:∀ p,(ldNod (.pointer (some ⟨w.heap.size,0,none⟩))).run Tryz.prog (Batch.grew wr p)=.ok (.agg Y) (Batch.grew wr p):=fun p=>by rw [← HY.out]; exact ldNod_blk (b0.below (Batch.grew_below wr p)) rfl
    have HV:Hid (∀ p,Calls Tryz.prog g #[.agg (nodeRow L[a]).toArray,.agg Y] (Batch.grew wr p) fun e w'=>e=.returned (.int .i64 (cf L[a] x))∧Below (Batch.grew wr p).heap.size (Batch.grew wr p) w'):=Lib.hid fun p=>by rw [← HY.out]; exact HP.out _ _ (List.getElem_mem haL) (hbw.trans ((Batch.grew_below wr p).mono hbw.size))
    have HF:Hid (cf L[a] x=0↔∃ hk:a<L.length,cf L[a] x=0):=Lib.hid ⟨fun e=>⟨haL,e⟩,fun ⟨_,e⟩=>e⟩; have gm:(a:Int)<(n:Int):=by omega
    clear hld HB; generalize (nodeRow L[a]).toArray=X at *; generalize hvv:cf L[a] x=v at HV HF; clear hvv; go_wp2_with fail
    refine Batch.wp_region_grew (by kernel_rfl) (by kernel_rfl) ?_; repeat (go_big_quiet_step (exact Batch.calls_grew (HV.out _)))
    refine wpQuiet_nil ?_; rintro _ ⟨px,rfl⟩; have gx:=Batch.grew_below wr px; clear f1 f2 HV; generalize Batch.grew wr px=w5 at *; go_wp2_with fail
    go_ret2; exact⟨a,_,rfl,HPL.out,by rw [← HF.out]; simp,hbw.trans (gx.mono hbw.size)⟩
   ·have gm:¬ ((a:Int)<(n:Int)):=by omega
    have HF:Hid (¬ ∃ hk:a<L.length,cf L[a] x=0):=Lib.hid (fun ⟨hk,_⟩=>by omega); clear HB; go_wp2_with fail
    refine Batch.wp_region_grew (by kernel_rfl) (by kernel_rfl) ?_; repeat (go_big_quiet_step (fail))
    refine wpQuiet_nil ?_; rintro _ ⟨px,rfl⟩; have gx:=Batch.grew_below wr px; generalize Batch.grew wr px=w5 at *; go_wp2_with fail
    go_ret2; exact⟨a,false,rfl,HPL.out,⟨fun e=>by simp at e,fun e=>absurd e HF.out⟩,hbw.trans (gx.mono hbw.size)⟩
theorem bsBun_any(g:Nat) (eg:∀ args w,(callFunc g args).run Tryz.prog w=.ok (.enter g args) w) (cf:Led.Bundle × Value→Led.Bundle × Value→Int) (hcf:Cmp cf) (x:Led.Bundle × Value) (A:Option Addr) (n c:Nat) (L:List (Led.Bundle × Value)) (hr:Rises cf L) (w:World) (h:Es bunRow 3 w A n L) (hn:n≤4000000000000000000)
  (hp:∀ (W:World) (y:Led.Bundle × Value),y∈L→Below w.heap.size w W→Calls Tryz.prog g (#[.agg (bunRow y).toArray,.agg (bunRow x).toArray]) W fun e w'=>e=.returned (.int .i64 (cf y x))∧Below W.heap.size W w') :
  Calls Tryz.prog 151 #[.slice A n c,.agg (bunRow x).toArray,.func (.func g) #[] #[]] w (Found cf x L w):=by
 have hlen:=h.len bunRow_len (by decide)
 have HLEN:=Lib.hid hlen
 have HP:=Lib.hid hp
 have HR:=Lib.hid hr
 have HC:=Lib.hid hcf
 clear hp hr hcf
 obtain⟨Y,hY⟩:∃ Y,(bunRow x).toArray=Y:=⟨_,rfl⟩
 obtain⟨W,hW⟩:∃ W,w.alloc (.cells (bunRow x).toArray 45)=W:=⟨_,rfl⟩
 have b0:Blk W w.heap.size (bunRow x) 45:=by rw [← hW]; exact Blk.new w _ _
 have hbW:Below w.heap.size w W:=by rw [← hW]; exact(Below.refl _ _).alloc (Nat.le_refl _) _
 rw [hY] at hW
 have HW:=Lib.hid hW
 have HY:=Lib.hid hY
 rw [hY]
 clear hW hY
 go_enter Tryz.func151,Tryz.ntmps151
 go_upto_region 1 with fail
 rw [HW.out]
 clear HW
 go_wp2_with fail
 go_loopw [9,10,11] (fun i j _ wr=>∃ a b:Nat,i=.int .i64 a∧j=.int .i64 b∧a≤n∧b≤n∧Hid (Between cf x L a b)∧Below w.heap.size w wr∧Blk wr w.heap.size (bunRow x) 45) (fun i j _ _=>(intOf j).toNat - (intOf i).toNat)
 case atStart=>exact⟨0,n,rfl,rfl,by omega,by omega,Lib.hid (by have:=Between.start (c:=cf) (x:=x) L; rwa [hlen] at this),hbW,b0⟩
 case round =>
  clear hbW b0; obtain⟨a,b,rfl,rfl,ha,hb,HB,hbw,b0⟩:=hrel; have hab:=HB.out.le; by_cases hlt:a<b
  ·have hi:(a:Int)<(b:Int):=by omega
   obtain⟨m,hm⟩:∃ m:Nat,(a+b) / 2=m:=⟨_,rfl⟩; have hm1:a≤m:=by omega
   have hm2:m<b:=by omega
   have hmL:m<L.length:=by rw [hlen]; omega
   have hmid:((a:Int)+(b:Int)) / 2=(m:Int):=by omega
   have hv:=HP.out; obtain⟨blk,off,rfl,hblk,hld⟩:=ldBun_es (h.below hbw) hmL; have f1:∀ p,(ldBun (.pointer (some ⟨blk,off+m * 3,none⟩))).run Tryz.prog (Batch.grew wr p)=.ok (.agg (bunRow L[m]).toArray) (Batch.grew wr p):=fun p=>hld _ (Batch.grew_below wr p); have f2:∀ p,(ldBun (.pointer (some ⟨w.heap.size,0,none⟩))).run Tryz.prog (Batch.grew wr p)=.ok (.agg Y) (Batch.grew wr p):=fun p=>by rw [← HY.out]; exact ldBun_blk (b0.below (Batch.grew_below wr p)) rfl
   have HV:Hid (∀ p,Calls Tryz.prog g #[.agg (bunRow L[m]).toArray,.agg Y] (Batch.grew wr p) fun e w'=>e=.returned (.int .i64 (cf L[m] x))∧Below (Batch.grew wr p).heap.size (Batch.grew wr p) w'):=Lib.hid fun p=>by rw [← HY.out]; exact HP.out _ _ (List.getElem_mem hmL) (hbw.trans ((Batch.grew_below wr p).mono hbw.size))
   have HUP:=Lib.hid (HB.out.up HC.out HR.out hm2 hmL); have HDN:=Lib.hid (HB.out.down HC.out HR.out hm1 hmL); have gm:(m:Int)<(n:Int):=by omega
   have hb1:=b0; clear hv hld HB; generalize (bunRow L[m]).toArray=X at *; generalize cf L[m] x=v at *; go_upto_region 5 with fail
   refine Batch.wp_region_grew (by kernel_rfl) (by kernel_rfl) ?_; repeat (go_big_quiet_step (exact Batch.calls_grew (HV.out _)))
   refine wpQuiet_nil ?_; rintro _ ⟨px,rfl⟩; have gx:=Batch.grew_below wr px; clear f1 f2 HV; generalize Batch.grew wr px=w5 at *; by_cases hv0:v<0
   ·have HB:=Lib.hid (HUP.out hv0)
    clear HUP HDN; go_wp2_with fail
    go_roundw
    case rel=>exact⟨m+1,b,by go_num,rfl,by omega,hb,HB,hbw.trans (gx.mono hbw.size),b0.below gx⟩
    case measure=>simp [intOf]; omega
   ·have HB:=Lib.hid (HDN.out hv0)
    clear HUP HDN; go_wp2_with fail
    go_roundw
    case rel=>exact⟨a,m,rfl,rfl,ha,by omega,HB,hbw.trans (gx.mono hbw.size),b0.below gx⟩
    case measure=>simp [intOf]; omega
  ·obtain rfl:a=b:=by omega
   have HPL:=Lib.hid HB.out.place; have hi:¬ ((a:Int)<(a:Int)):=by omega
   by_cases han:a<n
   ·have haL:a<L.length:=by rw [hlen]; exact han
    obtain⟨blk,off,rfl,hblk,hld⟩:=ldBun_es (h.below hbw) haL; have f1:∀ p,(ldBun (.pointer (some ⟨blk,off+a * 3,none⟩))).run Tryz.prog (Batch.grew wr p)=.ok (.agg (bunRow L[a]).toArray) (Batch.grew wr p):=fun p=>hld _ (Batch.grew_below wr p); have f2:∀ p,(ldBun (.pointer (some ⟨w.heap.size,0,none⟩))).run Tryz.prog (Batch.grew wr p)=.ok (.agg Y) (Batch.grew wr p):=fun p=>by rw [← HY.out]; exact ldBun_blk (b0.below (Batch.grew_below wr p)) rfl
    have HV:Hid (∀ p,Calls Tryz.prog g #[.agg (bunRow L[a]).toArray,.agg Y] (Batch.grew wr p) fun e w'=>e=.returned (.int .i64 (cf L[a] x))∧Below (Batch.grew wr p).heap.size (Batch.grew wr p) w'):=Lib.hid fun p=>by rw [← HY.out]; exact HP.out _ _ (List.getElem_mem haL) (hbw.trans ((Batch.grew_below wr p).mono hbw.size))
    have HF:Hid (cf L[a] x=0↔∃ hk:a<L.length,cf L[a] x=0):=Lib.hid ⟨fun e=>⟨haL,e⟩,fun ⟨_,e⟩=>e⟩; have gm:(a:Int)<(n:Int):=by omega
    clear hld HB; generalize (bunRow L[a]).toArray=X at *; generalize hvv:cf L[a] x=v at HV HF; clear hvv; go_wp2_with fail
    refine Batch.wp_region_grew (by kernel_rfl) (by kernel_rfl) ?_; repeat (go_big_quiet_step (exact Batch.calls_grew (HV.out _)))
    refine wpQuiet_nil ?_; rintro _ ⟨px,rfl⟩; have gx:=Batch.grew_below wr px; clear f1 f2 HV; generalize Batch.grew wr px=w5 at *; go_wp2_with fail
    go_ret2; exact⟨a,_,rfl,HPL.out,by rw [← HF.out]; simp,hbw.trans (gx.mono hbw.size)⟩
   ·have gm:¬ ((a:Int)<(n:Int)):=by omega
    have HF:Hid (¬ ∃ hk:a<L.length,cf L[a] x=0):=Lib.hid (fun ⟨hk,_⟩=>by omega); clear HB; go_wp2_with fail
    refine Batch.wp_region_grew (by kernel_rfl) (by kernel_rfl) ?_; repeat (go_big_quiet_step (fail))
    refine wpQuiet_nil ?_; rintro _ ⟨px,rfl⟩; have gx:=Batch.grew_below wr px; generalize Batch.grew wr px=w5 at *; go_wp2_with fail
    go_ret2; exact⟨a,false,rfl,HPL.out,⟨fun e=>by simp at e,fun e=>absurd e HF.out⟩,hbw.trans (gx.mono hbw.size)⟩
end
end Go.Proofs.YtmbpnkacggngkaaGreatDoor
section
namespace Go.Proofs
open Go.Shelf
def Tryz.lays169_ren:Go.Shelf.Ren:=⟨fun|169=>202|n=>n,fun|70=>212|9=>9|0=>0|72=>214|37=>62|127=>247|3=>3|5=>5|n=>n,fun|n=>n⟩
theorem Tryz.lays169:Go.Proofs.Lays.n169 Tryz.prog Tryz.lays169_ren:={
 mixed:=by kernel_rfl
 f169:=Tryz.func202.trans (congrArg some (by kernel_rfl))
 t0:=Tryz.underlying0
 a0:=Tryz.isAgg0
 z0:=Tryz.sizeOf0
 v0:=Tryz.zeroValue0
 t3:=Tryz.underlying3
 a3:=Tryz.isAgg3
 z3:=Tryz.sizeOf3
 v3:=Tryz.zeroValue3
 t9:=Tryz.underlying9
 a9:=Tryz.isAgg9
 z9:=Tryz.sizeOf9
 v9:=Tryz.zeroValue9
 t37:=Tryz.underlying62
 a37:=Tryz.isAgg62
 z37:=Tryz.sizeOf62
 v37:=Tryz.zeroValue62
 t70:=Tryz.underlying212
 a70:=Tryz.isAgg212
 z70:=Tryz.sizeOf212
 v70:=Tryz.zeroValue212
 t72:=Tryz.underlying214
 a72:=Tryz.isAgg214
 z72:=Tryz.sizeOf214
 v72:=Tryz.zeroValue214
 t127:=Tryz.underlying247
 a127:=Tryz.isAgg247
 z127:=Tryz.sizeOf247
 v127:=Tryz.zeroValue247 }
def Tryz.lays160_ren:Go.Shelf.Ren:=⟨fun|160=>225|232=>250|231=>249|227=>251|234=>253|233=>252|236=>255|235=>254|228=>265|271=>267|151=>266|197=>263|120=>275|152=>274|260=>273|137=>278|119=>279|224=>222|225=>221|217=>220|266=>247|n=>n,fun|9=>9|4=>4|3=>3|5=>5|117=>260|116=>259|0=>0|124=>263|21=>21|105=>278|46=>189|119=>294|139=>297|138=>296|n=>n,fun|3=>2|4=>3|n=>n⟩
theorem Tryz.lays160:Go.Proofs.Lays.n160 Tryz.prog Tryz.lays160_ren:={
 mixed:=by kernel_rfl
 f119:=Tryz.func279.trans (congrArg some (by kernel_rfl))
 f120:=Tryz.func275.trans (congrArg some (by kernel_rfl))
 f137:=Tryz.func278.trans (congrArg some (by kernel_rfl))
 f151:=Tryz.func266.trans (congrArg some (by kernel_rfl))
 f152:=Tryz.func274.trans (congrArg some (by kernel_rfl))
 f160:=Tryz.func225.trans (congrArg some (by kernel_rfl))
 f197:=Tryz.func263.trans (congrArg some (by kernel_rfl))
 f217:=Tryz.func220.trans (congrArg some (by kernel_rfl))
 f224:=Tryz.func222.trans (congrArg some (by kernel_rfl))
 f225:=Tryz.func221.trans (congrArg some (by kernel_rfl))
 f227:=Tryz.func251.trans (congrArg some (by kernel_rfl))
 f228:=Tryz.func265.trans (congrArg some (by kernel_rfl))
 f231:=Tryz.func249.trans (congrArg some (by kernel_rfl))
 f232:=Tryz.func250.trans (congrArg some (by kernel_rfl))
 f233:=Tryz.func252.trans (congrArg some (by kernel_rfl))
 f234:=Tryz.func253.trans (congrArg some (by kernel_rfl))
 f235:=Tryz.func254.trans (congrArg some (by kernel_rfl))
 f236:=Tryz.func255.trans (congrArg some (by kernel_rfl))
 f260:=Tryz.func273.trans (congrArg some (by kernel_rfl))
 f266:=Tryz.func247.trans (congrArg some (by kernel_rfl))
 f271:=Tryz.func267.trans (congrArg some (by kernel_rfl))
 t0:=Tryz.underlying0
 a0:=Tryz.isAgg0
 z0:=Tryz.sizeOf0
 v0:=Tryz.zeroValue0
 t3:=Tryz.underlying3
 a3:=Tryz.isAgg3
 z3:=Tryz.sizeOf3
 v3:=Tryz.zeroValue3
 t4:=Tryz.underlying4
 a4:=Tryz.isAgg4
 z4:=Tryz.sizeOf4
 v4:=Tryz.zeroValue4
 t5:=Tryz.underlying5
 a5:=Tryz.isAgg5
 z5:=Tryz.sizeOf5
 v5:=Tryz.zeroValue5
 t9:=Tryz.underlying9
 a9:=Tryz.isAgg9
 z9:=Tryz.sizeOf9
 v9:=Tryz.zeroValue9
 t21:=Tryz.underlying21
 a21:=Tryz.isAgg21
 z21:=Tryz.sizeOf21
 v21:=Tryz.zeroValue21
 t46:=Tryz.underlying189
 a46:=Tryz.isAgg189
 z46:=Tryz.sizeOf189
 v46:=Tryz.zeroValue189
 t105:=Tryz.underlying278
 a105:=Tryz.isAgg278
 z105:=Tryz.sizeOf278
 v105:=Tryz.zeroValue278
 t116:=Tryz.underlying259
 a116:=Tryz.isAgg259
 z116:=Tryz.sizeOf259
 t117:=Tryz.underlying260
 a117:=Tryz.isAgg260
 z117:=Tryz.sizeOf260
 v117:=Tryz.zeroValue260
 t119:=Tryz.underlying294
 a119:=Tryz.isAgg294
 z119:=Tryz.sizeOf294
 t124:=Tryz.underlying263
 a124:=Tryz.isAgg263
 z124:=Tryz.sizeOf263
 v124:=Tryz.zeroValue263
 t138:=Tryz.underlying296
 a138:=Tryz.isAgg296
 z138:=Tryz.sizeOf296
 v138:=Tryz.zeroValue296
 t139:=Tryz.underlying297
 a139:=Tryz.isAgg297
 z139:=Tryz.sizeOf297
 v139:=Tryz.zeroValue297
 g3:=by kernel_rfl
 g4:=by kernel_rfl }
def Tryz.lays103_ren:Go.Shelf.Ren:=⟨fun|103=>139|210=>172|206=>188|n=>n,fun|9=>9|4=>4|24=>164|3=>3|n=>n,fun|n=>n⟩
theorem Tryz.lays103:Go.Proofs.Lays.n103 Tryz.prog Tryz.lays103_ren:={
 mixed:=by kernel_rfl
 f103:=Tryz.func139.trans (congrArg some (by kernel_rfl))
 f206:=Tryz.func188.trans (congrArg some (by kernel_rfl))
 f210:=Tryz.func172.trans (congrArg some (by kernel_rfl))
 t3:=Tryz.underlying3
 a3:=Tryz.isAgg3
 z3:=Tryz.sizeOf3
 v3:=Tryz.zeroValue3
 t4:=Tryz.underlying4
 a4:=Tryz.isAgg4
 z4:=Tryz.sizeOf4
 v4:=Tryz.zeroValue4
 t9:=Tryz.underlying9
 a9:=Tryz.isAgg9
 z9:=Tryz.sizeOf9
 v9:=Tryz.zeroValue9
 t24:=Tryz.underlying164
 a24:=Tryz.isAgg164
 z24:=Tryz.sizeOf164
 v24:=Tryz.zeroValue164 }
open Go.RowKit in
theorem Tryz.strings_CutPrefix(s p:ByteArray) (w:World) :
  Calls Tryz.prog 139 #[.string s,.string p] w fun e w'=>e=.returned (.tuple #[.string ⟨(Lib.trimPrefix s.data.toList p.data.toList).toArray⟩,.bool (Lib.hasPrefix s.data.toList p.data.toList)])∧w'=w:=Any.strings_CutPrefix Tryz.lays103 s p w
def Tryz.lays219_ren:Go.Shelf.Ren:=⟨fun|219=>194|217=>220|225=>221|224=>222|267=>223|266=>247|314=>248|n=>n,fun|9=>9|3=>3|4=>4|5=>5|46=>189|146=>255|51=>228|n=>n,fun|1=>0|n=>n⟩
theorem Tryz.lays219:Go.Proofs.Lays.n219 Tryz.prog Tryz.lays219_ren:={
 mixed:=by kernel_rfl
 f217:=Tryz.func220.trans (congrArg some (by kernel_rfl))
 f219:=Tryz.func194.trans (congrArg some (by kernel_rfl))
 f224:=Tryz.func222.trans (congrArg some (by kernel_rfl))
 f225:=Tryz.func221.trans (congrArg some (by kernel_rfl))
 f266:=Tryz.func247.trans (congrArg some (by kernel_rfl))
 f267:=Tryz.func223.trans (congrArg some (by kernel_rfl))
 f314:=Tryz.func248.trans (congrArg some (by kernel_rfl))
 t3:=Tryz.underlying3
 a3:=Tryz.isAgg3
 z3:=Tryz.sizeOf3
 v3:=Tryz.zeroValue3
 t4:=Tryz.underlying4
 a4:=Tryz.isAgg4
 z4:=Tryz.sizeOf4
 v4:=Tryz.zeroValue4
 t5:=Tryz.underlying5
 a5:=Tryz.isAgg5
 z5:=Tryz.sizeOf5
 v5:=Tryz.zeroValue5
 t9:=Tryz.underlying9
 a9:=Tryz.isAgg9
 z9:=Tryz.sizeOf9
 v9:=Tryz.zeroValue9
 t46:=Tryz.underlying189
 a46:=Tryz.isAgg189
 z46:=Tryz.sizeOf189
 v46:=Tryz.zeroValue189
 t51:=Tryz.underlying228
 a51:=Tryz.isAgg228
 z51:=Tryz.sizeOf228
 v51:=Tryz.zeroValue228
 t146:=Tryz.underlying255
 a146:=Tryz.isAgg255
 z146:=Tryz.sizeOf255
 v146:=Tryz.zeroValue255
 g1:=by kernel_rfl }
def Tryz.lays143_ren:Go.Shelf.Ren:=⟨fun|143=>173|219=>194|217=>220|225=>221|224=>222|267=>223|266=>247|314=>248|n=>n,fun|9=>9|3=>3|4=>4|5=>5|46=>189|146=>255|51=>228|n=>n,fun|1=>0|n=>n⟩
theorem Tryz.lays143:Go.Proofs.Lays.n143 Tryz.prog Tryz.lays143_ren:={
 mixed:=by kernel_rfl
 f143:=Tryz.func173.trans (congrArg some (by kernel_rfl))
 f217:=Tryz.func220.trans (congrArg some (by kernel_rfl))
 f219:=Tryz.func194.trans (congrArg some (by kernel_rfl))
 f224:=Tryz.func222.trans (congrArg some (by kernel_rfl))
 f225:=Tryz.func221.trans (congrArg some (by kernel_rfl))
 f266:=Tryz.func247.trans (congrArg some (by kernel_rfl))
 f267:=Tryz.func223.trans (congrArg some (by kernel_rfl))
 f314:=Tryz.func248.trans (congrArg some (by kernel_rfl))
 t3:=Tryz.underlying3
 a3:=Tryz.isAgg3
 z3:=Tryz.sizeOf3
 v3:=Tryz.zeroValue3
 t4:=Tryz.underlying4
 a4:=Tryz.isAgg4
 z4:=Tryz.sizeOf4
 v4:=Tryz.zeroValue4
 t5:=Tryz.underlying5
 a5:=Tryz.isAgg5
 z5:=Tryz.sizeOf5
 v5:=Tryz.zeroValue5
 t9:=Tryz.underlying9
 a9:=Tryz.isAgg9
 z9:=Tryz.sizeOf9
 v9:=Tryz.zeroValue9
 t46:=Tryz.underlying189
 a46:=Tryz.isAgg189
 z46:=Tryz.sizeOf189
 v46:=Tryz.zeroValue189
 t51:=Tryz.underlying228
 a51:=Tryz.isAgg228
 z51:=Tryz.sizeOf228
 v51:=Tryz.zeroValue228
 t146:=Tryz.underlying255
 a146:=Tryz.isAgg255
 z146:=Tryz.sizeOf255
 v146:=Tryz.zeroValue255
 g1:=by kernel_rfl }
def Tryz.lays144_ren:Go.Shelf.Ren:=⟨fun|144=>140|143=>173|219=>194|217=>220|225=>221|224=>222|267=>223|266=>247|314=>248|n=>n,fun|9=>9|4=>4|3=>3|5=>5|46=>189|146=>255|51=>228|n=>n,fun|1=>0|n=>n⟩
theorem Tryz.lays144:Go.Proofs.Lays.n144 Tryz.prog Tryz.lays144_ren:={
 mixed:=by kernel_rfl
 f143:=Tryz.func173.trans (congrArg some (by kernel_rfl))
 f144:=Tryz.func140.trans (congrArg some (by kernel_rfl))
 f217:=Tryz.func220.trans (congrArg some (by kernel_rfl))
 f219:=Tryz.func194.trans (congrArg some (by kernel_rfl))
 f224:=Tryz.func222.trans (congrArg some (by kernel_rfl))
 f225:=Tryz.func221.trans (congrArg some (by kernel_rfl))
 f266:=Tryz.func247.trans (congrArg some (by kernel_rfl))
 f267:=Tryz.func223.trans (congrArg some (by kernel_rfl))
 f314:=Tryz.func248.trans (congrArg some (by kernel_rfl))
 t3:=Tryz.underlying3
 a3:=Tryz.isAgg3
 z3:=Tryz.sizeOf3
 v3:=Tryz.zeroValue3
 t4:=Tryz.underlying4
 a4:=Tryz.isAgg4
 z4:=Tryz.sizeOf4
 v4:=Tryz.zeroValue4
 t5:=Tryz.underlying5
 a5:=Tryz.isAgg5
 z5:=Tryz.sizeOf5
 v5:=Tryz.zeroValue5
 t9:=Tryz.underlying9
 a9:=Tryz.isAgg9
 z9:=Tryz.sizeOf9
 v9:=Tryz.zeroValue9
 t46:=Tryz.underlying189
 a46:=Tryz.isAgg189
 z46:=Tryz.sizeOf189
 v46:=Tryz.zeroValue189
 t51:=Tryz.underlying228
 a51:=Tryz.isAgg228
 z51:=Tryz.sizeOf228
 v51:=Tryz.zeroValue228
 t146:=Tryz.underlying255
 a146:=Tryz.isAgg255
 z146:=Tryz.sizeOf255
 v146:=Tryz.zeroValue255
 g1:=by kernel_rfl }
open Go.RowKit Go.Lib in
theorem Tryz.strings_Contains_one(s:ByteArray) (c:UInt8) (w:World) :
  Calls Tryz.prog 140 #[.string s,.string ⟨#[c]⟩] w fun e w'=>e=.returned (.bool (decide (0≤Lib.indexByte s.data.toList c)))∧w'=w:=Any.strings_Contains_one Tryz.lays144 s c w
def Tryz.lays138_ren:Go.Shelf.Ren:=⟨fun|138=>246|195=>262|218=>264|143=>173|219=>194|217=>220|225=>221|224=>222|267=>223|266=>247|314=>248|n=>n,fun|9=>9|3=>3|4=>4|5=>5|0=>0|46=>189|146=>255|51=>228|n=>n,fun|1=>0|n=>n⟩
theorem Tryz.lays138:Go.Proofs.Lays.n138 Tryz.prog Tryz.lays138_ren:={
 mixed:=by kernel_rfl
 f138:=Tryz.func246.trans (congrArg some (by kernel_rfl))
 f143:=Tryz.func173.trans (congrArg some (by kernel_rfl))
 f195:=Tryz.func262.trans (congrArg some (by kernel_rfl))
 f217:=Tryz.func220.trans (congrArg some (by kernel_rfl))
 f218:=Tryz.func264.trans (congrArg some (by kernel_rfl))
 f219:=Tryz.func194.trans (congrArg some (by kernel_rfl))
 f224:=Tryz.func222.trans (congrArg some (by kernel_rfl))
 f225:=Tryz.func221.trans (congrArg some (by kernel_rfl))
 f266:=Tryz.func247.trans (congrArg some (by kernel_rfl))
 f267:=Tryz.func223.trans (congrArg some (by kernel_rfl))
 f314:=Tryz.func248.trans (congrArg some (by kernel_rfl))
 t0:=Tryz.underlying0
 a0:=Tryz.isAgg0
 z0:=Tryz.sizeOf0
 v0:=Tryz.zeroValue0
 t3:=Tryz.underlying3
 a3:=Tryz.isAgg3
 z3:=Tryz.sizeOf3
 v3:=Tryz.zeroValue3
 t4:=Tryz.underlying4
 a4:=Tryz.isAgg4
 z4:=Tryz.sizeOf4
 v4:=Tryz.zeroValue4
 t5:=Tryz.underlying5
 a5:=Tryz.isAgg5
 z5:=Tryz.sizeOf5
 v5:=Tryz.zeroValue5
 t9:=Tryz.underlying9
 a9:=Tryz.isAgg9
 z9:=Tryz.sizeOf9
 v9:=Tryz.zeroValue9
 t46:=Tryz.underlying189
 a46:=Tryz.isAgg189
 z46:=Tryz.sizeOf189
 v46:=Tryz.zeroValue189
 t51:=Tryz.underlying228
 a51:=Tryz.isAgg228
 z51:=Tryz.sizeOf228
 v51:=Tryz.zeroValue228
 t146:=Tryz.underlying255
 a146:=Tryz.isAgg255
 z146:=Tryz.sizeOf255
 v146:=Tryz.zeroValue255
 g1:=by kernel_rfl }
def Tryz.lays190_ren:Go.Shelf.Ren:=⟨fun|190=>162|125=>187|258=>186|128=>214|129=>215|302=>205|303=>206|304=>207|305=>208|306=>209|307=>210|308=>211|309=>212|310=>213|333=>239|329=>240|330=>241|334=>242|335=>243|336=>244|344=>261|n=>n,fun|31=>25|9=>9|3=>3|46=>189|0=>0|51=>228|53=>151|4=>4|183=>222|182=>221|131=>156|5=>5|218=>249|222=>100|228=>274|229=>275|n=>n,fun|n=>n⟩
theorem Tryz.lays190:Go.Proofs.Lays.n190 Tryz.prog Tryz.lays190_ren:={
 mixed:=by kernel_rfl
 f125:=Tryz.func187.trans (congrArg some (by kernel_rfl))
 f128:=Tryz.func214.trans (congrArg some (by kernel_rfl))
 f129:=Tryz.func215.trans (congrArg some (by kernel_rfl))
 f190:=Tryz.func162.trans (congrArg some (by kernel_rfl))
 f258:=Tryz.func186.trans (congrArg some (by kernel_rfl))
 f302:=Tryz.func205.trans (congrArg some (by kernel_rfl))
 f303:=Tryz.func206.trans (congrArg some (by kernel_rfl))
 f304:=Tryz.func207.trans (congrArg some (by kernel_rfl))
 f305:=Tryz.func208.trans (congrArg some (by kernel_rfl))
 f306:=Tryz.func209.trans (congrArg some (by kernel_rfl))
 f307:=Tryz.func210.trans (congrArg some (by kernel_rfl))
 f308:=Tryz.func211.trans (congrArg some (by kernel_rfl))
 f309:=Tryz.func212.trans (congrArg some (by kernel_rfl))
 f310:=Tryz.func213.trans (congrArg some (by kernel_rfl))
 f329:=Tryz.func240.trans (congrArg some (by kernel_rfl))
 f330:=Tryz.func241.trans (congrArg some (by kernel_rfl))
 f333:=Tryz.func239.trans (congrArg some (by kernel_rfl))
 f334:=Tryz.func242.trans (congrArg some (by kernel_rfl))
 f335:=Tryz.func243.trans (congrArg some (by kernel_rfl))
 f336:=Tryz.func244.trans (congrArg some (by kernel_rfl))
 f344:=Tryz.func261.trans (congrArg some (by kernel_rfl))
 t0:=Tryz.underlying0
 a0:=Tryz.isAgg0
 z0:=Tryz.sizeOf0
 v0:=Tryz.zeroValue0
 t3:=Tryz.underlying3
 a3:=Tryz.isAgg3
 z3:=Tryz.sizeOf3
 v3:=Tryz.zeroValue3
 t4:=Tryz.underlying4
 a4:=Tryz.isAgg4
 z4:=Tryz.sizeOf4
 v4:=Tryz.zeroValue4
 t5:=Tryz.underlying5
 a5:=Tryz.isAgg5
 z5:=Tryz.sizeOf5
 v5:=Tryz.zeroValue5
 t9:=Tryz.underlying9
 a9:=Tryz.isAgg9
 z9:=Tryz.sizeOf9
 v9:=Tryz.zeroValue9
 t31:=Tryz.underlying25
 a31:=Tryz.isAgg25
 z31:=Tryz.sizeOf25
 v31:=Tryz.zeroValue25
 t46:=Tryz.underlying189
 a46:=Tryz.isAgg189
 z46:=Tryz.sizeOf189
 v46:=Tryz.zeroValue189
 t51:=Tryz.underlying228
 a51:=Tryz.isAgg228
 z51:=Tryz.sizeOf228
 v51:=Tryz.zeroValue228
 t53:=Tryz.underlying151
 a53:=Tryz.isAgg151
 z53:=Tryz.sizeOf151
 v53:=Tryz.zeroValue151
 t131:=Tryz.underlying156
 a131:=Tryz.isAgg156
 z131:=Tryz.sizeOf156
 v131:=Tryz.zeroValue156
 t182:=Tryz.underlying221
 a182:=Tryz.isAgg221
 z182:=Tryz.sizeOf221
 v182:=Tryz.zeroValue221
 t183:=Tryz.underlying222
 a183:=Tryz.isAgg222
 z183:=Tryz.sizeOf222
 v183:=Tryz.zeroValue222
 t218:=Tryz.underlying249
 a218:=Tryz.isAgg249
 z218:=Tryz.sizeOf249
 v218:=Tryz.zeroValue249
 t222:=Tryz.underlying100
 a222:=Tryz.isAgg100
 z222:=Tryz.sizeOf100
 v222:=Tryz.zeroValue100
 t228:=Tryz.underlying274
 a228:=Tryz.isAgg274
 z228:=Tryz.sizeOf274
 v228:=Tryz.zeroValue274
 t229:=Tryz.underlying275
 a229:=Tryz.isAgg275
 z229:=Tryz.sizeOf275
 v229:=Tryz.zeroValue275 }
open Go.Sort Go.RowKit in
theorem Tryz.slices_Sort_string(blk off cap:Nat) (ss:List (List UInt8)) (w:World) (hH:Holds encStr w blk off ss.toArray) (hblk:blk<w.heap.size) (hsz:ss.length<4611686018427387904) :
  Calls Tryz.prog 162 #[.slice (some ⟨blk,off,none⟩) ss.length cap] w fun e w' =>
   e=.returned (.tuple #[])∧∃ n os,w'=grow (putRow encStr (Sort.ahead w n) blk off (ss.mergeSort fun x y=>decide (x≤y)).toArray) os:=Any.slices_Sort_string Tryz.lays190 blk off cap ss w hH hblk hsz
def Tryz.lays99_ren:Go.Shelf.Ren:=⟨fun|99=>164|206=>188|n=>n,fun|9=>9|4=>4|3=>3|n=>n,fun|n=>n⟩
theorem Tryz.lays99:Go.Proofs.Lays.n99 Tryz.prog Tryz.lays99_ren:={
 mixed:=by kernel_rfl
 f99:=Tryz.func164.trans (congrArg some (by kernel_rfl))
 f206:=Tryz.func188.trans (congrArg some (by kernel_rfl))
 t3:=Tryz.underlying3
 a3:=Tryz.isAgg3
 z3:=Tryz.sizeOf3
 v3:=Tryz.zeroValue3
 t4:=Tryz.underlying4
 a4:=Tryz.isAgg4
 z4:=Tryz.sizeOf4
 v4:=Tryz.zeroValue4
 t9:=Tryz.underlying9
 a9:=Tryz.isAgg9
 z9:=Tryz.sizeOf9
 v9:=Tryz.zeroValue9 }
open Go.RowKit Go.Lib in
theorem Tryz.strings_HasPrefix(s p:ByteArray) (w:World) :
  Calls Tryz.prog 164 #[.string s,.string p] w fun e w'=>e=.returned (.bool (Lib.hasPrefix s.data.toList p.data.toList))∧w'=w:=Any.strings_HasPrefix Tryz.lays99 s p w
def Tryz.lays221_ren:Go.Shelf.Ren:=⟨fun|221=>216|268=>245|138=>246|143=>173|195=>262|197=>263|218=>264|219=>194|260=>273|217=>220|225=>221|224=>222|267=>223|266=>247|314=>248|n=>n,fun|9=>9|3=>3|31=>25|4=>4|0=>0|105=>278|21=>21|5=>5|46=>189|119=>294|139=>297|138=>296|146=>255|51=>228|n=>n,fun|1=>0|3=>2|4=>3|n=>n⟩
theorem Tryz.lays221:Go.Proofs.Lays.n221 Tryz.prog Tryz.lays221_ren:={
 mixed:=by kernel_rfl
 f138:=Tryz.func246.trans (congrArg some (by kernel_rfl))
 f143:=Tryz.func173.trans (congrArg some (by kernel_rfl))
 f195:=Tryz.func262.trans (congrArg some (by kernel_rfl))
 f197:=Tryz.func263.trans (congrArg some (by kernel_rfl))
 f217:=Tryz.func220.trans (congrArg some (by kernel_rfl))
 f218:=Tryz.func264.trans (congrArg some (by kernel_rfl))
 f219:=Tryz.func194.trans (congrArg some (by kernel_rfl))
 f221:=Tryz.func216.trans (congrArg some (by kernel_rfl))
 f224:=Tryz.func222.trans (congrArg some (by kernel_rfl))
 f225:=Tryz.func221.trans (congrArg some (by kernel_rfl))
 f260:=Tryz.func273.trans (congrArg some (by kernel_rfl))
 f266:=Tryz.func247.trans (congrArg some (by kernel_rfl))
 f267:=Tryz.func223.trans (congrArg some (by kernel_rfl))
 f268:=Tryz.func245.trans (congrArg some (by kernel_rfl))
 f314:=Tryz.func248.trans (congrArg some (by kernel_rfl))
 t0:=Tryz.underlying0
 a0:=Tryz.isAgg0
 z0:=Tryz.sizeOf0
 v0:=Tryz.zeroValue0
 t3:=Tryz.underlying3
 a3:=Tryz.isAgg3
 z3:=Tryz.sizeOf3
 v3:=Tryz.zeroValue3
 t4:=Tryz.underlying4
 a4:=Tryz.isAgg4
 z4:=Tryz.sizeOf4
 v4:=Tryz.zeroValue4
 t5:=Tryz.underlying5
 a5:=Tryz.isAgg5
 z5:=Tryz.sizeOf5
 v5:=Tryz.zeroValue5
 t9:=Tryz.underlying9
 a9:=Tryz.isAgg9
 z9:=Tryz.sizeOf9
 v9:=Tryz.zeroValue9
 t21:=Tryz.underlying21
 a21:=Tryz.isAgg21
 z21:=Tryz.sizeOf21
 v21:=Tryz.zeroValue21
 t31:=Tryz.underlying25
 a31:=Tryz.isAgg25
 z31:=Tryz.sizeOf25
 v31:=Tryz.zeroValue25
 t46:=Tryz.underlying189
 a46:=Tryz.isAgg189
 z46:=Tryz.sizeOf189
 v46:=Tryz.zeroValue189
 t51:=Tryz.underlying228
 a51:=Tryz.isAgg228
 z51:=Tryz.sizeOf228
 v51:=Tryz.zeroValue228
 t105:=Tryz.underlying278
 a105:=Tryz.isAgg278
 z105:=Tryz.sizeOf278
 v105:=Tryz.zeroValue278
 t119:=Tryz.underlying294
 a119:=Tryz.isAgg294
 z119:=Tryz.sizeOf294
 t138:=Tryz.underlying296
 a138:=Tryz.isAgg296
 z138:=Tryz.sizeOf296
 v138:=Tryz.zeroValue296
 t139:=Tryz.underlying297
 a139:=Tryz.isAgg297
 z139:=Tryz.sizeOf297
 v139:=Tryz.zeroValue297
 t146:=Tryz.underlying255
 a146:=Tryz.isAgg255
 z146:=Tryz.sizeOf255
 v146:=Tryz.zeroValue255
 g1:=by kernel_rfl
 g3:=by kernel_rfl
 g4:=by kernel_rfl }
def Tryz.lays110_ren:Go.Shelf.Ren:=⟨fun|110=>90|109=>136|n=>n,fun|31=>25|9=>9|4=>4|3=>3|0=>0|n=>n,fun|n=>n⟩
theorem Tryz.lays110:Go.Proofs.Lays.n110 Tryz.prog Tryz.lays110_ren:={
 mixed:=by kernel_rfl
 f109:=Tryz.func136.trans (congrArg some (by kernel_rfl))
 f110:=Tryz.func90.trans (congrArg some (by kernel_rfl))
 t0:=Tryz.underlying0
 a0:=Tryz.isAgg0
 z0:=Tryz.sizeOf0
 v0:=Tryz.zeroValue0
 t3:=Tryz.underlying3
 a3:=Tryz.isAgg3
 z3:=Tryz.sizeOf3
 v3:=Tryz.zeroValue3
 t4:=Tryz.underlying4
 a4:=Tryz.isAgg4
 z4:=Tryz.sizeOf4
 v4:=Tryz.zeroValue4
 t9:=Tryz.underlying9
 a9:=Tryz.isAgg9
 z9:=Tryz.sizeOf9
 v9:=Tryz.zeroValue9
 t31:=Tryz.underlying25
 a31:=Tryz.isAgg25
 z31:=Tryz.sizeOf25
 v31:=Tryz.zeroValue25 }
open Go.Lib in
theorem Tryz.slices_Contains_string(b off n c:Nat) (zs:List ByteArray) (x:ByteArray) (w:World) (hz:n≤zs.length) (hbig:n≤9223372036854775807) (hc:∀ j,j<zs.length→w.cell? ⟨b,off+j,none⟩=some (.string (zs.getD j ByteArray.empty))) :
  Calls Tryz.prog 90 #[.slice (some ⟨b,off,none⟩) n c,.string x] w fun e w'=>e=.returned (.bool (Lib.containsS (zs.take n) x))∧w'=w:=Any.slices_Contains_string Tryz.lays110 b off n c zs x w hz hbig hc
open Go.Lib in
theorem Tryz.slices_Contains_string_empty(a:Option Addr) (c:Nat) (x:ByteArray) (w:World) :
  Calls Tryz.prog 90 #[.slice a 0 c,.string x] w fun e w'=>e=.returned (.bool false)∧w'=w:=Any.slices_Contains_string_empty Tryz.lays110 a c x w
def Tryz.laysNm216_ren:Go.Shelf.Ren:=⟨fun|16=>28|n=>n,fun|24=>25|9=>9|4=>4|n=>n,fun|n=>n⟩
theorem Tryz.laysNm216:Go.Proofs.Lays2.n16 Tryz.prog Tryz.laysNm216_ren:={
 mixed:=by kernel_rfl
 f16:=Tryz.func28.trans (congrArg some (by kernel_rfl))
 t4:=Tryz.underlying4
 a4:=Tryz.isAgg4
 z4:=Tryz.sizeOf4
 v4:=Tryz.zeroValue4
 t9:=Tryz.underlying9
 a9:=Tryz.isAgg9
 z9:=Tryz.sizeOf9
 v9:=Tryz.zeroValue9
 t24:=Tryz.underlying25
 a24:=Tryz.isAgg25
 z24:=Tryz.sizeOf25
 v24:=Tryz.zeroValue25
 i9:=by kernel_rfl }
open Go.RowKit Go.Lib in
theorem Tryz.slices_Clone_string(b off n c:Nat) (zs:List ByteArray) (w:World) (hz:n≤zs.length) (hbig:n * 16≤140737488355328) (hc:∀ j,j<zs.length→w.cell? ⟨b,off+j,none⟩=some (.string (zs.getD j ByteArray.empty))) :
  Calls Tryz.prog 28 #[.slice (some ⟨b,off,none⟩) n c] w fun e w'=>∃ v',e=.returned v'∧w'.ownsRow w.heap.size 9 1 v' n ((zs.take n).map (Value.string))∧v'≠.slice none 0 0∧Below w.heap.size w w':=Any.slices_Clone_string Tryz.laysNm216 b off n c zs w hz hbig hc
open Go.RowKit Go.Lib in
theorem Tryz.slices_Clone_string_nil(n c:Nat) (w:World) :
  Calls Tryz.prog 28 #[.slice none n c] w fun e w'=>e=.returned (.slice none 0 0)∧w'=w:=Any.slices_Clone_string_nil Tryz.laysNm216 n c w
open Go.RowKit Go.Lib in
theorem Tryz.slices_Clone_string_zero(a:Addr) (c:Nat) (w:World) :
  Calls Tryz.prog 28 #[.slice (some a) 0 c] w fun e w'=>∃ v',e=.returned v'∧w'.ownsRow w.heap.size 9 1 v' 0 []∧v'≠.slice none 0 0∧Below w.heap.size w w':=Any.slices_Clone_string_zero Tryz.laysNm216 a c w
def Tryz.lays194_ren:Go.Shelf.Ren:=⟨fun|194=>163|n=>n,fun|31=>25|9=>9|3=>3|4=>4|0=>0|n=>n,fun|n=>n⟩
theorem Tryz.lays194:Go.Proofs.Lays.n194 Tryz.prog Tryz.lays194_ren:={
 mixed:=by kernel_rfl
 f194:=Tryz.func163.trans (congrArg some (by kernel_rfl))
 t0:=Tryz.underlying0
 a0:=Tryz.isAgg0
 z0:=Tryz.sizeOf0
 v0:=Tryz.zeroValue0
 t3:=Tryz.underlying3
 a3:=Tryz.isAgg3
 z3:=Tryz.sizeOf3
 v3:=Tryz.zeroValue3
 t4:=Tryz.underlying4
 a4:=Tryz.isAgg4
 z4:=Tryz.sizeOf4
 v4:=Tryz.zeroValue4
 t9:=Tryz.underlying9
 a9:=Tryz.isAgg9
 z9:=Tryz.sizeOf9
 v9:=Tryz.zeroValue9
 t31:=Tryz.underlying25
 a31:=Tryz.isAgg25
 z31:=Tryz.sizeOf25
 v31:=Tryz.zeroValue25 }
open Go.RowKit Go.Lib Go.Sort in
theorem Tryz.slices_Compact_string(blk off cap:Nat) (zs:List (List UInt8)) (w:World) (hH:Holds encStr w blk off zs.toArray) (hsz:zs.length≤9223372036854775807) (hcap:zs.length≤cap) :
  Calls Tryz.prog 163 #[.slice (some ⟨blk,off,none⟩) zs.length cap] w fun e w'=>e=.returned (.slice (some ⟨blk,off,none⟩) (Lib.compact zs).length cap)∧∃ q,w'=putRow encStr (Sort.ahead w q) blk off (Lib.compact zs++List.replicate (zs.length - (Lib.compact zs).length) []).toArray:=Any.slices_Compact_string Tryz.lays194 blk off cap zs w hH hsz hcap
open Go.RowKit Go.Lib Go.Sort in
theorem Tryz.slices_Compact_string_empty(a:Option Addr) (cap:Nat) (w:World) :
  Calls Tryz.prog 163 #[.slice a 0 cap] w fun e w'=>e=.returned (.slice a 0 cap)∧w'=w:=Any.slices_Compact_string_empty Tryz.lays194 a cap w
open Go.RowKit Go.Sort in
theorem Tryz.slices_Sort_string_none(p:Option Addr) (cap:Nat) (w:World) :
  Calls Tryz.prog 162 #[.slice p 0 cap] w fun e w'=>e=.returned (.tuple #[])∧w'=w:=Any.slices_Sort_string_none Tryz.lays190 p cap w
end Go.Proofs
end
