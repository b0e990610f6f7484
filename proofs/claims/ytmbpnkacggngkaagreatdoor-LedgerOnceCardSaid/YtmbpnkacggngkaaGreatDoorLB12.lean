/- LedDoK, LedApA, JsonA, JwkShelf, JsonB, JwkBuilder, JwkWr, JsonW (put together by bundle.py: only what is needed). -/
import Derived.Shelf.Strings.Builder1
import Derived.Ground.GgwProg
import Derived.Shelf.GgClosure.StringsIndexFuncTop
import Derived.Shelf.GgClosure.StringsRunes
import Derived.Lib.Builder
import Derived.Lib.AppendStr
import Derived.Laws.Externs
import Derived.Deep.DeepMust
import Derived.Test.YtmbpnkacggngkaaGreatDoorLB1
import Derived.Test.YtmbpnkacggngkaaGreatDoorLB6
import Derived.Test.YtmbpnkacggngkaaGreatDoorLB7
import Derived.Test.YtmbpnkacggngkaaGreatDoorLB8
import Derived.Test.YtmbpnkacggngkaaGreatDoorLB10
import Derived.Test.YtmbpnkacggngkaaGreatDoorLB11
section
namespace Go.Proofs.YtmbpnkacggngkaaGreatDoor
open Go.RowKit Mem Led
def cBp (a b : Led.Bundle × Value) : Int := cB a.1 b.1
theorem cBp_cmp : Cmp cBp := ⟨fun a b => cB_cmp.flip a.1 b.1, fun a b d => cB_cmp.trans a.1 b.1 d.1, fun a b d => cB_cmp.left a.1 b.1 d.1⟩
theorem op_bundle (o : Led.Op) (sv kv : Value) : ∀ j u, (bunRow (o.bundle, kv))[j]? = some u → (opCells o sv kv)[21 + j]? = some u := by
 intro j u h
 match j, h with
 | 0, h => exact h
 | 1, h => exact h
 | 2, h => exact h
 | j + 3, h => simp [bunRow] at h
theorem sizeBun3 : (Tryz.prog.info? 45).map (·.size) = some 3 := by kernel_rfl
theorem ld_bundle {w : World} {g : Nat} {o : Led.Op} {sv kv : Value} (h : Blk w g (opCells o sv kv) 47) : (ldBun (.pointer (some ⟨g, 21, none⟩))).run Tryz.prog w = .ok (.agg (bunRow (o.bundle, kv)).toArray) w :=
 load_cells Tryz.underlying45 rfl sizeBun3 rfl fun j u hj => by rw [h.cell]; exact op_bundle o sv kv j u hj
theorem store_bun {w : World} {g : Nat} {cs vs : List Value} {t : TypeId} (h : Blk w g cs t) (hn : cs.length = 3) (hv : vs.length = 3) (h1 : ∀ v ∈ vs, v.oneCell' = true) :
  (stBun (.pointer (some ⟨g, 0, none⟩)) (.agg vs.toArray)).run Tryz.prog w = .ok () (w.setCells g 0 vs) ∧ Blk (w.setCells g 0 vs) g vs t := by
 have h2 := run_store_arr (P := Tryz.prog) w 45 g 0 3 sizeBun3 vs.toArray ⟨by simpa using hv, by simpa using h1⟩ (blk_has h hn) (fun j _ => h.froz _)
 have h3 := set_all vs w g 0 cs t h (by omega)
 simp [hv, ← hn] at h3
 exact ⟨h2, h3⟩
theorem bunRow_one (p : Led.Bundle × Value) (h : p.2.oneCell' = true) : ∀ u ∈ bunRow p, u.oneCell' = true := by
 intro u hu
 simp [bunRow, tx, nm] at hu
 rcases hu with rfl | rfl | rfl
 ·rfl
 ·rfl
 ·exact h
theorem putBundle1_any (x : Led.Bundle × Value) (d : Txt) (n : Int) (go : Nat) (W : World) (hc : W.cell? ⟨go, 0, none⟩ = some (.string (str d))) (hc1 : W.cell? ⟨go, 1, none⟩ = some (.int .i64 n)) :
  Calls Tryz.prog 109 (#[.agg (bunRow x).toArray] ++ #[.pointer (some ⟨go, 0, none⟩)]) W fun e w' => e = .returned (.bool (x.1.domain == d && decide (x.1.number > n))) ∧ Below W.heap.size W w' := by
 have hgo := World.block_lt_of_cell? W _ hc
 simp only [] at hgo
 have hb : ∀ o, Below W.heap.size W (W.alloc o) := fun o => (Below.refl _ _).alloc (Nat.le_refl _) _
 show Calls Tryz.prog 109 #[.agg #[.string (str x.1.domain), .int .i64 x.1.number, x.2], .pointer (some ⟨go, 0, none⟩)] W _
 cases hq : (x.1.domain == d)
 all_goals
  go_enter Tryz.func109, Tryz.ntmps109
  go_wp2_with fail
  go_ret
  exact ⟨by first | rfl | simp, hb _⟩
set_option maxRecDepth 100000 in
theorem putBundle2_any (a b : Led.Bundle × Value) (W : World) : Calls Tryz.prog 111 #[.agg (bunRow a).toArray, .agg (bunRow b).toArray] W fun e w' => e = .returned (.int .i64 (cBp a b)) ∧ Below W.heap.size W w' := by
 have ho := fun W => order_any a.1.domain b.1.domain W
 have hb : ∀ o p, Below W.heap.size W ((W.alloc o).alloc p) := fun o p => ((Below.refl _ _).alloc (Nat.le_refl _) _).alloc (by simp) _
 unfold cBp cB
 show Calls Tryz.prog 111 #[.agg #[.string (str a.1.domain), .int .i64 a.1.number, a.2], .agg #[.string (str b.1.domain), .int .i64 b.1.number, b.2]] W _
 generalize ord a.1.domain b.1.domain = v at *
 go_enter Tryz.func111, Tryz.ntmps111
 go_wp2_with fail
 refine (ho _).mono ?_
 rintro e w1 ⟨rfl, rfl⟩
 go_wp2
 go_ret
 exact ⟨rfl, hb _ _⟩
def BundlePut (ok : Bool) (base gl : Nat) (vU : Value) (U : List (Led.Bundle × Value)) (p : Led.Bundle × Value) (w : World) (x : Ending) (w' : World) : Prop :=
 if ok then (if U.any (fun o => o.1.domain == p.1.domain && decide (o.1.number > p.1.number)) then x = .returned (.int .i64 22) ∧ Below w.heap.size w w' else Puts bunRow 3 45 base gl 5 vU (put cBp 3 p U) w x w') else x = .returned (.int .i64 1) ∧ Below w.heap.size w w'
set_option maxRecDepth 100000 in
set_option maxHeartbeats 8000000 in
theorem putBundle_any (P : Bool → Prop) (gl : Nat) (o : Led.Op) (sv kv : Value) (vs : List Value) (U : List (Led.Bundle × Value)) (base : Nat) (vU : Value) (w : World) (hk1 : kv.oneCell' = true) (hU : U.length ≤ 3) (hr : Rises cBp U) (hU1 : ∀ p ∈ U, p.2.oneCell' = true) (hbase : base ≤ w.heap.size)
  (hbl : Blk w gl vs 30) (h5 : vs[5]? = some vU) (hown : w.ownsRow base 45 3 vU U.length (rows bunRow U)) (hne : vU.ownBlock ≠ some gl)
  (HB : ∀ W', Below w.heap.size w W' → Calls Tryz.prog 107 #[.agg (bunRow (o.bundle, kv)).toArray] W' fun e w' => ∃ ok, P ok ∧ e = .returned (.bool ok) ∧ Below W'.heap.size W' w') :
  Calls Tryz.prog 53 #[.pointer (some ⟨gl, 0, none⟩), .agg (opCells o sv kv).toArray] w fun x w' => ∃ ok, P ok ∧ BundlePut ok base gl vU U (o.bundle, kv) w x w' := by
 obtain ⟨A, c, rfl, hnc, hcm⟩ := own_form hown
 obtain ⟨W, hW⟩ : ∃ W, w.alloc (.cells (opCells o sv kv).toArray 47) = W := ⟨_, rfl⟩
 have b0 : Blk W w.heap.size (opCells o sv kv) 47 := by rw [← hW]; exact Blk.new w _ _
 have hbW : Below w.heap.size w W := by rw [← hW]; exact (Below.refl _ _).alloc (Nat.le_refl _) _
 have hz : W.heap.size = w.heap.size + 1 := by rw [← hW]; simp
 have hl0 := ld_bundle b0
 have bn := Blk.new W [.string ⟨#[]⟩, .int .i64 0, .slice none 0 0] 45
 have h1x := bunRow_one (o.bundle, kv) hk1
 obtain ⟨hst, B3⟩ := store_bun bn rfl (vs := bunRow (o.bundle, kv)) rfl h1x
 obtain ⟨W1, hW1⟩ : ∃ W1, (W.alloc (.cells ([.string ⟨#[]⟩, .int .i64 0, .slice none 0 0] : List Value).toArray 45)).setCells W.heap.size 0 (bunRow (o.bundle, kv)) = W1 := ⟨_, rfl⟩
 have hcn : Chg [] W W1 := by rw [← hW1]; exact ((Chg.refl _ _).alloc _).setCells _ (.inr (Nat.le_refl _))
 rw [hW1] at hst B3
 have hbW1 := hcn.below (fun _ h => by cases h)
 have hbw1 : Below w.heap.size w W1 := hbW.trans (hbW1.mono hbW.size)
 rw [hz] at hst B3
 have hbun := HB W1 hbw1
 have hl1 := ldBun_blk B3 (bunRow_len _)
 have HW := Lib.hid hW
 obtain ⟨CS, hCS⟩ : ∃ CS, (opCells o sv kv).toArray = CS := ⟨_, rfl⟩
 rw [hCS] at HW ⊢
 obtain ⟨Y, hY⟩ : ∃ Y, Hid ((bunRow (o.bundle, kv)).toArray = Y) := ⟨_, Lib.hid rfl⟩
 rw [hY.out] at hl0 hst hbun hl1
 clear hW hW1 bn hcn hCS
 go_enter Tryz.func53, Tryz.ntmps53
 go_upto_region 1 with fail
 rw [HW.out]
 clear HW
 have hst : (stBun (.pointer (some ⟨w.heap.size + 1, 0, none⟩)) (.agg Y)).run Tryz.prog (W.alloc (.cells #[.string ⟨#[]⟩, .int .i64 0, .slice none 0 0] 45)) = .ok () W1 := hst
 go_wp2_with fail
 refine hbun.mono ?_
 rintro e w1 ⟨ok, hP, rfl, hb1⟩
 have hbw2 : Below w.heap.size w w1 := hbw1.trans (hb1.mono hbw1.size)
 have b1 := B3.below hb1
 have hbl1 := hbl.below hbw2
 clear hbun hl0 hl1 hst
 cases ok
 ·go_wp2_with fail
  go_ret
  exact ⟨false, hP, rfl, hbw2⟩
 ·have hgl1 := hbl1.lt
  have cK : w1.cell? ⟨gl, 5, none⟩ = some (.slice A U.length c) := (hbl1.cell 5).trans h5
  have hhas := hasBun_any 109 #[.pointer (some ⟨w.heap.size + 1, 0, none⟩)] (enters_of Tryz.func109 (by kernel_rfl) rfl) (fun x => x.1.domain == o.bundle.domain && decide (x.1.number > o.bundle.number)) A U.length c U w1 (Vs.of_own (own_below hown hbw2 (Nat.le_refl _))) (by omega) (fun W' x _ hb => putBundle1_any x o.bundle.domain o.bundle.number (w.heap.size + 1) W' ((b1.below hb).cell 0) ((b1.below hb).cell 1))
  cases hk : U.any (fun x => x.1.domain == o.bundle.domain && decide (x.1.number > o.bundle.number))
  ·have HR : Hid (∀ x w', Puts bunRow 3 45 base gl 5 (.slice A U.length c) (put cBp 3 (o.bundle, kv) U) w x w' → BundlePut true base gl (.slice A U.length c) U (o.bundle, kv) w x w') := Lib.hid (fun x w' h => by unfold BundlePut; rw [if_pos rfl, hk]; exact h)
   rw [hk] at hhas
   clear hk
   go_wp2_with fail
   refine hhas.mono ?_
   rintro e w2 ⟨rfl, hb2⟩
   have hbw3 : Below w.heap.size w w2 := hbw2.trans (hb2.mono hbw2.size)
   have b2 := b1.below hb2
   have f3 : ∀ p, (ldBun (.pointer (some ⟨w.heap.size + 1, 0, none⟩))).run Tryz.prog (Batch.grew w2 p) = .ok (.agg Y) (Batch.grew w2 p) := fun p => by rw [← hY.out]; exact ldBun_blk (b2.below (Batch.grew_below w2 p)) (bunRow_len _)
   clear hhas cK
   go_wp2_with fail
   refine Batch.wp_region_grew_tail 4 (by kernel_rfl) (by kernel_rfl) ?_
   simp only [List.take_succ_cons, List.take_zero, List.drop_succ_cons, List.drop_zero]
   repeat (go_big_quiet_step (fail))
   refine wpQuiet_nil ?_
   rintro _ ⟨py, rfl⟩
   have g3 := Batch.grew_below w2 py
   clear f3
   generalize Batch.grew w2 py = w3 at *
   have hbw4 : Below w.heap.size w w3 := hbw3.trans (g3.mono hbw3.size)
   have hput := putBun_any gl 5 111 (enters_of Tryz.func111 (by kernel_rfl) rfl) cBp cBp_cmp (o.bundle, kv) U hr base (.slice A U.length c) 3 w3 hU (by omega) vs 30 (hbl.below hbw4) h5 (own_below hown hbw4 (Nat.le_refl _)) hne (Nat.le_trans hbase hbw4.size) (fun y hy => bunRow_one y (hU1 y hy)) h1x (fun W' y _ _ => putBundle2_any y (o.bundle, kv) W')
   have HPT := Lib.hid (hput.mono fun x w' h => puts_from hbw4 h)
   clear hput
   rw [hY.out] at HPT
   go_wp2_with fail
   refine HPT.out.mono ?_
   intro e w4 h
   have h' := Lib.hid (HR.out e w4 h)
   clear HPT HR
   unfold Puts at h
   cases hq : put cBp 3 (o.bundle, kv) U
   all_goals
    rw [hq] at h
    obtain ⟨rfl, _⟩ := h
    clear hq
    go_wp2
    (try rw [Batch.Qn_normal])
    (try go_wp2)
    go_ret
    exact ⟨true, hP, h'.out⟩
  ·have HR : Hid (∀ w', Below w.heap.size w w' → BundlePut true base gl (.slice A U.length c) U (o.bundle, kv) w (.returned (.int .i64 22)) w') := Lib.hid (fun w' h => by unfold BundlePut; rw [if_pos rfl, hk]; exact ⟨rfl, h⟩)
   rw [hk] at hhas
   clear hk
   go_wp2_with fail
   refine hhas.mono ?_
   rintro e w2 ⟨rfl, hb2⟩
   go_wp2_with fail
   go_ret
   exact ⟨true, hP, HR.out _ (hbw2.trans (hb2.mono hbw2.size))⟩
end Go.Proofs.YtmbpnkacggngkaaGreatDoor
end
section
namespace Go.Proofs.YtmbpnkacggngkaaGreatDoor
open Go.RowKit Mem Led
namespace Led
theorem does_or (ok : Bool) (L : Ledger) (o : Op) : (does ok L o).1 = L ∨ (does ok L o).2 = 0 := by
 unfold does
 by_cases h1 : o.kind = 1
 ·rw [if_pos h1]
  unfold doEntry
  repeat' split
  all_goals first | exact .inl rfl | exact .inr rfl
 rw [if_neg h1]
 by_cases h2 : o.kind = 2
 ·rw [if_pos h2]
  unfold doGone
  repeat' split
  all_goals first | exact .inl rfl | exact .inr rfl
 rw [if_neg h2]
 by_cases h3 : o.kind = 3
 ·rw [if_pos h3]
  unfold doToken
  repeat' split
  all_goals first | exact .inl rfl | exact .inr rfl
 rw [if_neg h3]
 by_cases h4 : o.kind = 4
 ·rw [if_pos h4]
  unfold doJoin
  repeat' split
  all_goals first | exact .inl rfl | exact .inr rfl
 rw [if_neg h4]
 by_cases h5 : o.kind = 5
 ·rw [if_pos h5]
  unfold doNode
  repeat' split
  all_goals first | exact .inl rfl | exact .inr rfl
 rw [if_neg h5]
 by_cases h6 : o.kind = 6
 ·rw [if_pos h6]
  unfold doBan
  repeat' split
  all_goals first | exact .inl rfl | exact .inr rfl
 rw [if_neg h6]
 by_cases h7 : o.kind = 7
 ·rw [if_pos h7]
  unfold doLift
  repeat' split
  all_goals first | exact .inl rfl | exact .inr rfl
 rw [if_neg h7]
 by_cases h8 : o.kind = 8
 ·rw [if_pos h8]
  unfold doEvict
  repeat' split
  all_goals first | exact .inl rfl | exact .inr rfl
 rw [if_neg h8]
 by_cases h9 : o.kind = 9
 ·rw [if_pos h9]
  unfold doPrepare
  repeat' split
  all_goals first | exact .inl rfl | exact .inr rfl
 rw [if_neg h9]
 by_cases h10 : o.kind = 10
 ·rw [if_pos h10]
  unfold doActive
  repeat' split
  all_goals first | exact .inl rfl | exact .inr rfl
 rw [if_neg h10]
 by_cases h11 : o.kind = 11
 ·rw [if_pos h11]
  unfold doDrop
  repeat' split
  all_goals first | exact .inl rfl | exact .inr rfl
 rw [if_neg h11]
 by_cases h12 : o.kind = 12
 ·rw [if_pos h12]
  unfold doBundle
  repeat' split
  all_goals first | exact .inl rfl | exact .inr rfl
 rw [if_neg h12]
 by_cases h13 : o.kind = 13
 ·rw [if_pos h13]
  unfold doUnbind
  repeat' split
  all_goals first | exact .inl rfl | exact .inr rfl
 rw [if_neg h13]
 by_cases h14 : o.kind = 14
 ·rw [if_pos h14]
  unfold doSeq
  repeat' split
  all_goals first | exact .inl rfl | exact .inr rfl
 rw [if_neg h14]
 exact .inl rfl
end Led
theorem did_bundle (P : Bool → Prop) {base gl : Nat} {w : World} {vE vN vB vJ vK vU sv kv : Value} {L : Led.Ledger} {E : List (Led.Entry × Value)} {U : List (Led.Bundle × Value)} {o : Led.Op} (H : LAt base gl w vE vN vB vJ vK vU L E U) (hL : L.Wf) (hkv : w.ownsRow base 54 2 kv o.bundle.keys.length (rows jwkRow o.bundle.keys))
  (HB : ∀ W', Below w.heap.size w W' → Calls Tryz.prog 107 #[.agg (bunRow (o.bundle, kv)).toArray] W' fun e w' => ∃ ok, P ok ∧ e = .returned (.bool ok) ∧ Below W'.heap.size W' w') :
  Calls Tryz.prog 53 #[.pointer (some ⟨gl, 0, none⟩), .agg (opCells o sv kv).toArray] w fun x w' => ∃ ok, P ok ∧ Did base gl (doBundle ok L o.bundle) w x w' := by
 have hlen : U.length = L.bundles.length := by rw [← H.wk.buns, List.length_map]
 have h3 := hL.u3
 have one : ∀ {u : Value} {n : Nat} {xs : List Value}, w.ownsRow base 54 2 u n xs → u.oneCell' = true := fun hu => by
  obtain ⟨A, c, h, _⟩ := own_form hu
  rw [h]
  rfl
 refine (putBundle_any P gl o sv kv _ U base vU w (one hkv) (by omega) (rises_fst H.wk.buns hL.u1) (fun p hp => one (H.wk.keyss p hp)) H.hb H.blk rfl H.wk.oU (own_ne H.wk.oU H.blk (by decide)) HB).mono ?_
 rintro x w' ⟨ok, hP, hq⟩
 refine ⟨ok, hP, ?_⟩
 unfold BundlePut at hq
 unfold doBundle
 rw [any_fst (l := L.bundles) H.wk.buns (fun b => b.domain == o.bundle.domain && decide (b.number > o.bundle.number))] at hq
 split at hq
 ·rename_i hc
  rw [if_pos hc]
  split at hq
  ·rename_i hc
   rw [if_pos hc]
   exact Did.err H.hb (by decide) hq
  ·rename_i hc
   rw [if_neg hc]
   have hi : (ins cBp (o.bundle, kv) U).map Prod.fst = ins cB o.bundle L.bundles := ins_fst H.wk.buns o.bundle kv
   have hil : (ins cBp (o.bundle, kv) U).length = (ins cB o.bundle L.bundles).length := by rw [← hi, List.length_map]
   unfold Puts put at hq
   unfold put
   rw [hil] at hq
   split at hq
   ·rename_i l hl
    split at hl
    ·rename_i hle
     injection hl with hl
     subst hl
     rw [if_pos hle]
     obtain ⟨rfl, hS⟩ := hq
     obtain ⟨v', h1, h2⟩ := H.slotU hS hi (fun p hp => by
      rcases ins_mem hp with rfl | hp
      ·exact hkv
      ·exact H.wk.keyss p hp)
     exact Did.ok h1 h2
    ·cases hl
   ·rename_i hl
    split at hl
    ·cases hl
    ·rename_i hle
     rw [if_neg hle]
     exact Did.err H.hb (by decide) hq
 ·rename_i hc
  rw [if_neg hc]
  exact Did.err H.hb (by decide) hq
set_option maxRecDepth 100000 in
theorem apply_any (P : Bool → Prop) (cs : List Value) (L : Led.Ledger) (E : List (Led.Entry × Value)) (U : List (Led.Bundle × Value)) (o : Led.Op) (sv kv : Value) (w : World) (hL : LgAt w cs L E U) (hW : L.Wf) (ho : Sized o) (hraw : o.kind ≤ 100) (hsv : TextsAt w sv o.entry.sels) (hkv : ElemsAt jwkRow 2 w kv o.bundle.keys)
  (HB : ∀ W' kv', Below w.heap.size w W' → ElemsAt jwkRow 2 W' kv' o.bundle.keys → Calls Tryz.prog 107 #[.agg (bunRow (o.bundle, kv')).toArray] W' fun e w' => ∃ ok, P ok ∧ e = .returned (.bool ok) ∧ Below W'.heap.size W' w') :
  Calls Tryz.prog 14 #[.agg cs.toArray, .agg (opCells o sv kv).toArray] w (Applied (fun r => ∃ ok, (o.kind = 12 → P ok) ∧ r = does ok L o) L w) := by
 by_cases k1 : o.kind = 1
 ·refine apply_gen cs L E U o sv kv 42 _ w hL hW.small hsv hkv ho.el ho.ul (by rw [k1]; kernel_rfl) (enters_of Tryz.func42 (by kernel_rfl) rfl) ?_
  intro base gl W vE vN vB vJ vK vU E1 U1 sv1 kv1 hb hbl hA h1 h2 h3
  have e : does false L o = doEntry L o.entry := by unfold does; simp [k1]
  refine (did_entry hA hW ho h1 h2).mono fun x w' h => ⟨_, ⟨false, fun e => by omega, rfl⟩, ?_⟩
  rw [e]
  exact h
 by_cases k2 : o.kind = 2
 ·refine apply_gen cs L E U o sv kv 43 _ w hL hW.small hsv hkv ho.el ho.ul (by rw [k2]; kernel_rfl) (enters_of Tryz.func43 (by kernel_rfl) rfl) ?_
  intro base gl W vE vN vB vJ vK vU E1 U1 sv1 kv1 hb hbl hA h1 h2 h3
  have e : does false L o = doGone L o.n := by unfold does; simp [k2]
  refine (did_gone hA hW).mono fun x w' h => ⟨_, ⟨false, fun e => by omega, rfl⟩, ?_⟩
  rw [e]
  exact h
 by_cases k3 : o.kind = 3
 ·refine apply_gen cs L E U o sv kv 44 _ w hL hW.small hsv hkv ho.el ho.ul (by rw [k3]; kernel_rfl) (enters_of Tryz.func44 (by kernel_rfl) rfl) ?_
  intro base gl W vE vN vB vJ vK vU E1 U1 sv1 kv1 hb hbl hA h1 h2 h3
  have e : does false L o = doToken L o.join := by unfold does; simp [k3]
  refine (did_token hA hW ho).mono fun x w' h => ⟨_, ⟨false, fun e => by omega, rfl⟩, ?_⟩
  rw [e]
  exact h
 by_cases k4 : o.kind = 4
 ·refine apply_gen cs L E U o sv kv 45 _ w hL hW.small hsv hkv ho.el ho.ul (by rw [k4]; kernel_rfl) (enters_of Tryz.func45 (by kernel_rfl) rfl) ?_
  intro base gl W vE vN vB vJ vK vU E1 U1 sv1 kv1 hb hbl hA h1 h2 h3
  have e : does false L o = doJoin L o.name o.node := by unfold does; simp [k4]
  refine (did_join hA hW ho).mono fun x w' h => ⟨_, ⟨false, fun e => by omega, rfl⟩, ?_⟩
  rw [e]
  exact h
 by_cases k5 : o.kind = 5
 ·refine apply_gen cs L E U o sv kv 46 _ w hL hW.small hsv hkv ho.el ho.ul (by rw [k5]; kernel_rfl) (enters_of Tryz.func46 (by kernel_rfl) rfl) ?_
  intro base gl W vE vN vB vJ vK vU E1 U1 sv1 kv1 hb hbl hA h1 h2 h3
  have e : does false L o = doNode L o.node := by unfold does; simp [k5]
  refine (did_node hA hW ho).mono fun x w' h => ⟨_, ⟨false, fun e => by omega, rfl⟩, ?_⟩
  rw [e]
  exact h
 by_cases k6 : o.kind = 6
 ·refine apply_gen cs L E U o sv kv 47 _ w hL hW.small hsv hkv ho.el ho.ul (by rw [k6]; kernel_rfl) (enters_of Tryz.func47 (by kernel_rfl) rfl) ?_
  intro base gl W vE vN vB vJ vK vU E1 U1 sv1 kv1 hb hbl hA h1 h2 h3
  have e : does false L o = doBan L o.name := by unfold does; simp [k6]
  refine (did_ban hA hW ho).mono fun x w' h => ⟨_, ⟨false, fun e => by omega, rfl⟩, ?_⟩
  rw [e]
  exact h
 by_cases k7 : o.kind = 7
 ·refine apply_gen cs L E U o sv kv 48 _ w hL hW.small hsv hkv ho.el ho.ul (by rw [k7]; kernel_rfl) (enters_of Tryz.func48 (by kernel_rfl) rfl) ?_
  intro base gl W vE vN vB vJ vK vU E1 U1 sv1 kv1 hb hbl hA h1 h2 h3
  have e : does false L o = doLift L o.name := by unfold does; simp [k7]
  refine (did_lift hA hW).mono fun x w' h => ⟨_, ⟨false, fun e => by omega, rfl⟩, ?_⟩
  rw [e]
  exact h
 by_cases k8 : o.kind = 8
 ·refine apply_gen cs L E U o sv kv 49 _ w hL hW.small hsv hkv ho.el ho.ul (by rw [k8]; kernel_rfl) (enters_of Tryz.func49 (by kernel_rfl) rfl) ?_
  intro base gl W vE vN vB vJ vK vU E1 U1 sv1 kv1 hb hbl hA h1 h2 h3
  have e : does false L o = doEvict L o.name := by unfold does; simp [k8]
  refine (did_evict hA hW).mono fun x w' h => ⟨_, ⟨false, fun e => by omega, rfl⟩, ?_⟩
  rw [e]
  exact h
 by_cases k9 : o.kind = 9
 ·refine apply_gen cs L E U o sv kv 50 _ w hL hW.small hsv hkv ho.el ho.ul (by rw [k9]; kernel_rfl) (enters_of Tryz.func50 (by kernel_rfl) rfl) ?_
  intro base gl W vE vN vB vJ vK vU E1 U1 sv1 kv1 hb hbl hA h1 h2 h3
  have e : does false L o = doPrepare L o.key := by unfold does; simp [k9]
  refine (did_prepare hA hW).mono fun x w' h => ⟨_, ⟨false, fun e => by omega, rfl⟩, ?_⟩
  rw [e]
  exact h
 by_cases k10 : o.kind = 10
 ·refine apply_gen cs L E U o sv kv 51 _ w hL hW.small hsv hkv ho.el ho.ul (by rw [k10]; kernel_rfl) (enters_of Tryz.func51 (by kernel_rfl) rfl) ?_
  intro base gl W vE vN vB vJ vK vU E1 U1 sv1 kv1 hb hbl hA h1 h2 h3
  have e : does false L o = doActive L o.n := by unfold does; simp [k10]
  refine (did_active hA hW).mono fun x w' h => ⟨_, ⟨false, fun e => by omega, rfl⟩, ?_⟩
  rw [e]
  exact h
 by_cases k11 : o.kind = 11
 ·refine apply_gen cs L E U o sv kv 52 _ w hL hW.small hsv hkv ho.el ho.ul (by rw [k11]; kernel_rfl) (enters_of Tryz.func52 (by kernel_rfl) rfl) ?_
  intro base gl W vE vN vB vJ vK vU E1 U1 sv1 kv1 hb hbl hA h1 h2 h3
  have e : does false L o = doDrop L o.name := by unfold does; simp [k11]
  refine (did_drop hA hW).mono fun x w' h => ⟨_, ⟨false, fun e => by omega, rfl⟩, ?_⟩
  rw [e]
  exact h
 by_cases k13 : o.kind = 13
 ·refine apply_gen cs L E U o sv kv 54 _ w hL hW.small hsv hkv ho.el ho.ul (by rw [k13]; kernel_rfl) (enters_of Tryz.func54 (by kernel_rfl) rfl) ?_
  intro base gl W vE vN vB vJ vK vU E1 U1 sv1 kv1 hb hbl hA h1 h2 h3
  have e : does false L o = doUnbind L o.name := by unfold does; simp [k13]
  refine (did_unbind hA hW).mono fun x w' h => ⟨_, ⟨false, fun e => by omega, rfl⟩, ?_⟩
  rw [e]
  exact h
 by_cases k14 : o.kind = 14
 ·refine apply_gen cs L E U o sv kv 55 _ w hL hW.small hsv hkv ho.el ho.ul (by rw [k14]; kernel_rfl) (enters_of Tryz.func55 (by kernel_rfl) rfl) ?_
  intro base gl W vE vN vB vJ vK vU E1 U1 sv1 kv1 hb hbl hA h1 h2 h3
  have e : does false L o = doSeq L o.name o.n := by unfold does; simp [k14]
  refine (did_seq hA hW).mono fun x w' h => ⟨_, ⟨false, fun e => by omega, rfl⟩, ?_⟩
  rw [e]
  exact h
 by_cases k12 : o.kind = 12
 ·refine apply_gen cs L E U o sv kv 53 _ w hL hW.small hsv hkv ho.el ho.ul (by rw [k12]; kernel_rfl) (enters_of Tryz.func53 (by kernel_rfl) rfl) ?_
  intro base gl W vE vN vB vJ vK vU E1 U1 sv1 kv1 hb hbl hA h1 h2 h3
  refine (did_bundle P hA hW h3 (fun W' hb' => HB W' kv1 (hbl.trans (hb'.mono hbl.size)) ((own_elems h3).below hb'))).mono ?_
  rintro x w' ⟨ok, hP, h⟩
  have e : does ok L o = doBundle ok L o.bundle := by unfold does; simp [k12]
  refine ⟨_, ⟨ok, fun _ => hP, rfl⟩, ?_⟩
  rw [e]
  exact h
 have e : does false L o = (L, 1) := by unfold does; simp only [k1, k2, k3, k4, k5, k6, k7, k8, k9, k10, k11, k12, k13, k14, if_false]
 refine (apply_none cs L E U (opCells o sv kv) o.kind w hL hW.small rfl ?_).mono ?_
 ·rw [List.findIdx?_eq_none_iff]
  intro p hp
  simp only [doL, List.mem_cons, List.not_mem_nil, or_false] at hp
  rcases hp with rfl | rfl | rfl | rfl | rfl | rfl | rfl | rfl | rfl | rfl | rfl | rfl | rfl | rfl | rfl | rfl | rfl | rfl | rfl | rfl <;> simp only [beq_eq_false_iff_ne, ne_eq] <;> omega
 ·rintro x w' ⟨r, rfl, h⟩
  exact ⟨(L, 1), ⟨false, fun e => absurd e k12, e.symm⟩, h⟩
end Go.Proofs.YtmbpnkacggngkaaGreatDoor
end
section
namespace Go.Proofs.YtmbpnkacggngkaaGreatDoor
open Go.RowKit Mem Led
structure JsV where
 kind : Int
 number : Int
 text : Txt
 names : Value
 kids : Value
def jsRow (v : JsV) : List Value := [.int .i64 v.kind, .int .i64 v.number, .string (str v.text), v.names, v.kids]
theorem jsRow_len (v : JsV) : (jsRow v).length = 5 := rfl
theorem sizeJs : (Tryz.prog.info? 197).map (·.size) = some 5 := by kernel_rfl
def ldJs (x : Value) : Sem Value := Instr.loadAt 197 x
def stJs (x v : Value) : Sem Unit := Instr.storeAt 197 x v
theorem named_ldJs (x : Value) : Instr.loadAt 197 x = ldJs x := rfl
theorem named_stJs (x v : Value) : Instr.storeAt 197 x v = stJs x v := rfl
attribute [go_sem ↓] named_ldJs named_stJs
theorem ldJs_es {w : World} {A : Option Addr} {n : Nat} {L : List JsV} (h : Es jsRow 5 w A n L) {i : Nat} (hi : i < L.length) :
  ∃ b off, A = some ⟨b, off, none⟩ ∧ b < w.heap.size ∧ ∀ w', Below w.heap.size w w' → (ldJs (.pointer (some ⟨b, off + i * 5, none⟩))).run Tryz.prog w' = .ok (.agg (jsRow L[i]).toArray) w' :=
 load_es Tryz.underlying197 rfl sizeJs jsRow_len (by omega) h hi
theorem ldJs_blk {w : World} {g : Nat} {v : JsV} {t : TypeId} (h : Blk w g (jsRow v) t) : (ldJs (.pointer (some ⟨g, 0, none⟩))).run Tryz.prog w = .ok (.agg (jsRow v).toArray) w :=
 load_cells Tryz.underlying197 rfl sizeJs rfl fun j u hj => by rw [h.cell, Nat.zero_add]; exact hj
set_option maxHeartbeats 4000000 in
theorem idxJs_any (g : Nat) (lb : Array Value) (eg : ∀ args w, (callFunc g args).run Tryz.prog w = .ok (.enter g args) w) (p : JsV → Bool) (A : Option Addr) (n c : Nat) (L : List JsV) (w : World) (h : Es jsRow 5 w A n L) (hn : n ≤ 9223372036854775807)
  (hp : ∀ (W : World) (x : JsV), x ∈ L → Below w.heap.size w W → Calls Tryz.prog g (#[.agg (jsRow x).toArray] ++ lb) W fun e w' => e = .returned (.bool (p x)) ∧ Below W.heap.size W w') :
  Calls Tryz.prog 259 #[.slice A n c, .func (.func g) #[] lb] w fun e w' => e = .returned (.int .i64 (idxOf p L)) ∧ Below w.heap.size w w' := by
 have hlen := h.len jsRow_len (by decide)
 have HLEN := Lib.hid hlen
 obtain ⟨r, HR⟩ : ∃ r, Hid (idxOf p L = r) := ⟨_, Lib.hid rfl⟩
 rw [HR.out]
 have HP := Lib.hid hp
 clear hp
 go_enter Tryz.func259, Tryz.ntmps259
 go_wp2
 go_loopw [8, 5] (fun i _ wr => ∃ k : Nat, k ≤ n ∧ i = .int .i64 k ∧ Hid (∀ x ∈ L.take k, p x = false) ∧ Below w.heap.size w wr) (fun i _ _ => n - (intOf i).toNat)
 case atStart => exact ⟨0, by omega, rfl, Lib.hid (by simp), Below.refl _ _⟩
 case round =>
  obtain ⟨k, hk, rfl, HT, hb⟩ := hrel
  by_cases hlt : k < n
  ·have hkL : k < L.length := by rw [hlen]; exact hlt
   obtain ⟨b, off, rfl, hbb, hld⟩ := ldJs_es (h.below hb) hkL
   have hl := hld wr (Below.refl _ _)
   clear hld
   have hc := HP.out wr L[k] (List.getElem_mem hkL) hb
   have hi : (k : Int) < (n : Int) := by omega
   cases hq : p L[k]
   ·have HN := Lib.hid (take_more hkL HT.out hq)
    rw [hq] at hc
    generalize (jsRow L[k]).toArray = X at *
    clear hq
    go_wp2_with fail
    refine hc.mono ?_
    rintro e w1 ⟨rfl, hb1⟩
    go_wp2
    go_roundw
    case rel => exact ⟨k + 1, by omega, by go_num, HN, hb.trans (hb1.mono hb.size)⟩
    case measure => simp [intOf]; omega
   ·have HI := Lib.hid (idx_some hkL HT.out hq)
    rw [hq] at hc
    generalize (jsRow L[k]).toArray = X at *
    clear hq
    go_wp2_with fail
    refine hc.mono ?_
    rintro e w1 ⟨rfl, hb1⟩
    go_wp2
    go_ret
    exact ⟨by rw [← HR.out, HI.out]; rfl, hb.trans (hb1.mono hb.size)⟩
  ·have hkn : k = n := by omega
   have HI := Lib.hid (idx_none (p := p) (L := L) (by have := HT.out; rwa [hkn, List.take_of_length_le (by rw [HLEN.out]; exact Nat.le_refl _)] at this))
   have hi : ¬ ((k : Int) < (n : Int)) := by omega
   go_wp2
   go_ret
   exact ⟨by rw [← HR.out, HI.out]; rfl, hb⟩
theorem hasJs_any (g : Nat) (lb : Array Value) (eg : ∀ args w, (callFunc g args).run Tryz.prog w = .ok (.enter g args) w) (p : JsV → Bool) (A : Option Addr) (n c : Nat) (L : List (JsV)) (w : World) (h : Es jsRow 5 w A n L) (hn : n ≤ 9223372036854775807)
  (hp : ∀ (W : World) (x : JsV), x ∈ L → Below w.heap.size w W → Calls Tryz.prog g (#[.agg (jsRow x).toArray] ++ lb) W fun e w' => e = .returned (.bool (p x)) ∧ Below W.heap.size W w') :
  Calls Tryz.prog 232 #[.slice A n c, .func (.func g) #[] lb] w fun e w' => e = .returned (.bool (L.any p)) ∧ Below w.heap.size w w' := by
 have hc := idxJs_any g lb eg p A n c L w h hn hp
 rw [← idx_any]
 generalize idxOf p L = r at *
 go_enter Tryz.func232, Tryz.ntmps232
 go_wp2_with fail
 refine hc.mono ?_
 rintro e w1 ⟨rfl, hb1⟩
 go_wp2
 go_ret
 exact ⟨by first | rfl | simp, hb1⟩
theorem hasStr_any (g : Nat) (lb : Array Value) (eg : ∀ args w, (callFunc g args).run Tryz.prog w = .ok (.enter g args) w) (p : Txt → Bool) (A : Option Addr) (n c : Nat) (L : List (Txt)) (w : World) (h : Ts w A n L) (hn : n ≤ 9223372036854775807)
  (hp : ∀ (W : World) (x : Txt), x ∈ L → Below w.heap.size w W → Calls Tryz.prog g (#[.string (str x)] ++ lb) W fun e w' => e = .returned (.bool (p x)) ∧ Below W.heap.size W w') :
  Calls Tryz.prog 159 #[.slice A n c, .func (.func g) #[] lb] w fun e w' => e = .returned (.bool (L.any p)) ∧ Below w.heap.size w w' := by
 have hc := idxStr_any g lb eg p A n c L w h hn hp
 rw [← idx_any]
 generalize idxOf p L = r at *
 go_enter Tryz.func159, Tryz.ntmps159
 go_wp2_with fail
 refine hc.mono ?_
 rintro e w1 ⟨rfl, hb1⟩
 go_wp2
 go_ret
 exact ⟨by first | rfl | simp, hb1⟩
set_option maxRecDepth 100000 in
set_option maxHeartbeats 2000000 in
theorem plain_any (k : Int) (m : Int) (t : Txt) (A : Option Addr) (n c : Nat) (A' : Option Addr) (n' c' : Nat) (w : World) (hk : k = 2 ∨ k = 3 ∨ k = 4 ∨ k = 5) (h1 : m = 0 ∨ k = 2) (h2 : n' = 0 ∨ k = 4 ∨ k = 5) (h3 : n = 0 ∨ k = 5) (h4 : t = [] ∨ k = 3) :
  Calls Tryz.prog 228 #[.agg #[.int .i64 k, .int .i64 m, .string (str t), .slice A n c, .slice A' n' c']] w fun e w' => e = .returned (.bool true) ∧ Below w.heap.size w w' := by
 have hb : ∀ o, Below w.heap.size w (w.alloc o) := fun o => (Below.refl _ _).alloc (Nat.le_refl _) _
 have hs0 : str [] = ⟨#[]⟩ := rfl
 rcases hk with rfl | rfl | rfl | rfl
 ·have e2 : n' = 0 := by omega
  have e3 : n = 0 := by omega
  have e4 : t = [] := by rcases h4 with h | h; exact h; omega
  subst e2 e3 e4
  rw [hs0]
  clear h1 h2 h3 h4
  by_cases hm : m = 0
  ·subst hm
   go_enter Tryz.func228, Tryz.ntmps228
   go_wp2_with fail
   go_ret
   exact ⟨rfl, hb _⟩
  ·have hmb : (m == 0) = false := by simpa using hm
   have hmd : decide (m = 0) = false := by simpa using hm
   go_enter Tryz.func228, Tryz.ntmps228
   go_wp2_with fail
   go_ret
   exact ⟨rfl, hb _⟩
 ·have e1 : m = 0 := by omega
  have e2 : n' = 0 := by omega
  have e3 : n = 0 := by omega
  subst e1 e2 e3
  clear h1 h2 h3 h4
  by_cases ht : t = []
  ·subst ht
   rw [hs0]
   go_enter Tryz.func228, Tryz.ntmps228
   go_wp2_with fail
   go_ret
   exact ⟨rfl, hb _⟩
  ·have f1 : decide (str t = ⟨#[]⟩) = false := by simp [str]; exact ht
   have f2 : (str t).toList.isEmpty = false := by rw [str_bytes]; simpa using ht
   have f3 : t.isEmpty = false := by simpa using ht
   have f4 : (t == []) = false := by simpa using ht
   go_enter Tryz.func228, Tryz.ntmps228
   go_wp2_with fail
   go_ret
   exact ⟨rfl, hb _⟩
 ·have e1 : m = 0 := by omega
  have e3 : n = 0 := by omega
  have e4 : t = [] := by rcases h4 with h | h; exact h; omega
  subst e1 e3 e4
  rw [hs0]
  clear h1 h2 h3 h4
  by_cases hn : n' = 0
  ·subst hn
   go_enter Tryz.func228, Tryz.ntmps228
   go_wp2_with fail
   go_ret
   exact ⟨rfl, hb _⟩
  ·have f1 : ((n' : Int) == 0) = false := by simp; omega
   have f2 : decide ((n' : Int) = 0) = false := by simp; omega
   have f3 : (n' == 0) = false := by simpa using hn
   go_enter Tryz.func228, Tryz.ntmps228
   go_wp2_with fail
   go_ret
   exact ⟨rfl, hb _⟩
 ·have e1 : m = 0 := by omega
  have e4 : t = [] := by rcases h4 with h | h; exact h; omega
  subst e1 e4
  rw [hs0]
  clear h1 h2 h3 h4
  by_cases hn : n' = 0 <;> by_cases hn2 : n = 0
  ·subst hn hn2
   go_enter Tryz.func228, Tryz.ntmps228
   go_wp2_with fail
   go_ret
   exact ⟨rfl, hb _⟩
  ·subst hn
   have f3 : (n == 0) = false := by simpa using hn2
   go_enter Tryz.func228, Tryz.ntmps228
   go_wp2_with fail
   go_ret
   exact ⟨rfl, hb _⟩
  ·subst hn2
   have f3 : (n' == 0) = false := by simpa using hn
   go_enter Tryz.func228, Tryz.ntmps228
   go_wp2_with fail
   go_ret
   exact ⟨rfl, hb _⟩
  ·have f3 : (n' == 0) = false := by simpa using hn
   have f4 : (n == 0) = false := by simpa using hn2
   go_enter Tryz.func228, Tryz.ntmps228
   go_wp2_with fail
   go_ret
   exact ⟨rfl, hb _⟩
end Go.Proofs.YtmbpnkacggngkaaGreatDoor
end
section
namespace Go.Proofs
open Go.Shelf
theorem Tryz.Builder_Extra_169 : Builder.Extra Tryz.prog Tryz.lays169_ren := {
 sizeBuilder := by kernel_rfl
 liesBuilder := by kernel_rfl
 t5 := Tryz.underlying5
 a5 := Tryz.isAgg5
 z5 := Tryz.sizeOf5
 v5 := Tryz.zeroValue5
 infoByte := by kernel_rfl
 cellsByte := by kernel_rfl
 sizeByte := by kernel_rfl
 neB5 := by decide }
open Go.RowKit in
theorem Tryz.Builder_String_any (B b : Nat) (l : List UInt8) (w : World) (h : Lib.IsBuilder 214 5 B b (Lib.byteCells l) w) (hBw : B ≤ w.heap.size) :
  Calls Tryz.prog 202 #[.pointer (some ⟨b, 0, none⟩)] w fun e w' => e = .returned (.string ⟨l.toArray⟩) ∧ Below B w w' := Any.Builder_String_any Tryz.lays169 Tryz.Builder_Extra_169 B b l w h hBw
def Tryz.laysGw17_ren : Go.Shelf.Ren := ⟨fun | 17 => 230 | 15 => 258 | 20 => 272 | n => n, fun | 9 => 9 | 23 => 241 | 4 => 4 | 3 => 3 | 0 => 0 | 21 => 21 | n => n, fun | n => n⟩
theorem Tryz.laysGw17 : Go.Proofs.LaysGw.n17 Tryz.prog Tryz.laysGw17_ren := {
 mixed := by kernel_rfl
 f15 := Tryz.func258.trans (congrArg some (by kernel_rfl))
 f17 := Tryz.func230.trans (congrArg some (by kernel_rfl))
 f20 := Tryz.func272.trans (congrArg some (by kernel_rfl))
 t0 := Tryz.underlying0
 a0 := Tryz.isAgg0
 z0 := Tryz.sizeOf0
 v0 := Tryz.zeroValue0
 i0 := by kernel_rfl
 t3 := Tryz.underlying3
 a3 := Tryz.isAgg3
 z3 := Tryz.sizeOf3
 v3 := Tryz.zeroValue3
 i3 := by kernel_rfl
 t4 := Tryz.underlying4
 a4 := Tryz.isAgg4
 z4 := Tryz.sizeOf4
 v4 := Tryz.zeroValue4
 i4 := by kernel_rfl
 t9 := Tryz.underlying9
 a9 := Tryz.isAgg9
 z9 := Tryz.sizeOf9
 v9 := Tryz.zeroValue9
 i9 := by kernel_rfl
 t21 := Tryz.underlying21
 a21 := Tryz.isAgg21
 z21 := Tryz.sizeOf21
 v21 := Tryz.zeroValue21
 i21 := by kernel_rfl
 t23 := Tryz.underlying241
 a23 := Tryz.isAgg241
 z23 := Tryz.sizeOf241
 v23 := Tryz.zeroValue241
 i23 := by kernel_rfl }
open Go.RowKit Go.Lib in
theorem Tryz.strings_ContainsFunc_runes (g : Nat) (lb : Array Value) (eg : ∀ args w, (callFunc g args).run Tryz.prog w = .ok (.enter g args) w) (p : Nat → Bool) (s : ByteArray) (w : World) (hp : PredAtRunes Tryz.prog g lb p w) :
  Calls Tryz.prog 230 #[.string s, .func (.func g) #[] lb] w fun e w' => e = .returned (.bool (decide (0 ≤ Lib.idxFunc p true s))) ∧ Below w.heap.size w w' := Any.strings_ContainsFunc_runes Tryz.laysGw17 g lb eg p s w hp
end Go.Proofs
end
section
namespace Go.Proofs.YtmbpnkacggngkaaGreatDoor
open Go.RowKit Mem Led
def Asc (t : Txt) : Prop := ∀ c ∈ t, c.toNat ≤ 126
theorem decode_small (s : ByteArray) (i : Nat) (h : (s.get! i).toNat < 128) : Utf8.decode s i = ((s.get! i).toNat, 1) := by
 unfold Utf8.decode
 simp only [Nat.add_zero]
 rw [if_pos h]
theorem get_str (t : Txt) (i : Nat) (h : i < t.length) : (str t).get! i = t[i] := by
 show (str t).data[i]! = _
 have : (str t).data = t.toArray := by simp [str]
 rw [this]
 simp [h]
theorem idx_asc {p : Nat → Bool} (hp : ∀ x, x ≤ 126 → p x = false) {t : Txt} (ht : Asc t) : ∀ f pos, Lib.idxFuncFrom p true (str t) f pos = -1
 | 0, _ => rfl
 | f + 1, pos => by
  unfold Lib.idxFuncFrom
  split
  ·rename_i hlt
   rw [str_size] at hlt
   have hg := get_str t pos hlt
   have ha := ht _ (List.getElem_mem hlt)
   rw [decode_small _ _ (by rw [hg]; omega), hg]
   rw [if_neg (by rw [hp _ ha]; simp)]
   exact idx_asc hp ht f _
  ·rfl
theorem right11_any (x : Nat) (hx : x ≤ 1114111) (W : World) : Calls Tryz.prog 231 (#[.int .i32 (x : Int)] ++ #[]) W fun e w' => e = .returned (.bool (decide (126 < x))) ∧ ∃ q, w' = W.drewN q := by
 by_cases h : 126 < x
 ·rw [decide_eq_true h]
  have h1 : (126 : Int) < (x : Int) := by omega
  go_enter Tryz.func231, Tryz.ntmps231
  go_wp2
  go_ret
  exact ⟨rfl, 0, rfl⟩
 ·rw [decide_eq_false h]
  have h1 : ¬ (126 : Int) < (x : Int) := by omega
  go_enter Tryz.func231, Tryz.ntmps231
  go_wp2
  go_ret
  exact ⟨rfl, 0, rfl⟩
theorem right1_any (t : Txt) (ht : Asc t) (W : World) : Calls Tryz.prog 229 #[.string (str t)] W fun e w' => e = .returned (.bool false) ∧ Below W.heap.size W w' := by
 have hc := Tryz.strings_ContainsFunc_runes 231 #[] (enters_of Tryz.func231 (by kernel_rfl) rfl) (fun x => decide (126 < x)) (str t) W (fun W' x hx _ => right11_any x hx W')
 rw [show decide (0 ≤ Lib.idxFunc (fun x => decide (126 < x)) true (str t)) = false by
  unfold Lib.idxFunc
  rw [idx_asc (fun x hx => by simp; omega) ht]
  rfl] at hc
 go_enter Tryz.func229, Tryz.ntmps229
 go_wp2_with fail
 refine hc.mono ?_
 rintro e w1 ⟨rfl, hb⟩
 go_wp2
 go_ret
 exact ⟨rfl, hb⟩
theorem ts_take2 {w : World} {A : Option Addr} {n : Nat} {L : List Txt} (h : Ts w A n L) {k : Nat} (hk : k ≤ n) : Ts w A k (L.take k) := by
 have := Vs.take h hk
 rw [Nat.mul_one] at this
 unfold Ts tv at *
 rw [List.map_take]
 exact this
set_option maxRecDepth 100000 in
set_option maxHeartbeats 2000000 in
theorem right2_any (k : JsV) (go d : Nat) (hd : d ≤ 1000) (W : World) (hc : W.cell? ⟨go, 0, none⟩ = some (.int .i64 (d : Int))) (hr : ∀ W', Below W.heap.size W W' → Calls Tryz.prog 199 #[.agg (jsRow k).toArray, .int .i64 ((d : Int) - 1)] W' fun e w'' => e = .returned (.bool true) ∧ Below W'.heap.size W' w'') :
  Calls Tryz.prog 233 (#[.agg (jsRow k).toArray] ++ #[.pointer (some ⟨go, 0, none⟩)]) W fun e w' => e = .returned (.bool false) ∧ Below W.heap.size W w' := by
 have hgo := World.block_lt_of_cell? W _ hc
 simp only [] at hgo
 have hb : Below W.heap.size W (W.alloc (.cells (jsRow k).toArray 197)) := (Below.refl _ _).alloc (Nat.le_refl _) _
 have hld := ldJs_blk (Blk.new W (jsRow k) 197)
 have hr1 := hr _ hb
 have hc1 : (W.alloc (.cells (jsRow k).toArray 197)).cell? ⟨go, 0, none⟩ = some (.int .i64 (d : Int)) := (hb.cell (p := ⟨go, 0, none⟩) hgo).trans hc
 clear hr hc
 show Calls Tryz.prog 233 #[.agg (jsRow k).toArray, .pointer (some ⟨go, 0, none⟩)] W _
 generalize (jsRow k).toArray = X at *
 have hwr : wrap64 ((d : Int) - 1) = (d : Int) - 1 := by unfold wrap64; omega
 go_enter Tryz.func233, Tryz.ntmps233
 go_wp2_with fail
 refine hr1.mono ?_
 rintro e w1 ⟨rfl, hb1⟩
 go_wp2_with fail
 go_ret
 exact ⟨rfl, hb.trans (hb1.mono hb.size)⟩
set_option maxRecDepth 100000 in
set_option maxHeartbeats 8000000 in
theorem right_2 (w : World) (d : Nat) (m : Int) (h1 : -1000000000000000 ≤ m) (h2 : m ≤ 1000000000000000) :
  Calls Tryz.prog 199 #[.agg #[.int .i64 2, .int .i64 m, .string ⟨#[]⟩, .slice none 0 0, .slice none 0 0], .int .i64 (d : Int)] w fun e w' => e = .returned (.bool true) ∧ Below w.heap.size w w' := by
 have hs0 : str [] = ⟨#[]⟩ := rfl
 obtain ⟨W, hW⟩ : ∃ W, (w.alloc (.cells (jsRow ⟨2, m, [], .slice none 0 0, .slice none 0 0⟩).toArray 197)).alloc (.cells ([.int .i64 (d : Int)] : List Value).toArray 3) = W := ⟨_, rfl⟩
 have B0 : Blk W w.heap.size (jsRow ⟨2, m, [], .slice none 0 0, .slice none 0 0⟩) 197 := by rw [← hW]; exact (Blk.new _ _ _).alloc _
 have B1 : Blk W (w.heap.size + 1) [.int .i64 (d : Int)] 3 := by
  have := Blk.new (w.alloc (.cells (jsRow ⟨2, m, [], .slice none 0 0, .slice none 0 0⟩).toArray 197)) [.int .i64 (d : Int)] 3
  rw [← hW]
  simpa using this
 have hbw : Below w.heap.size w W := by rw [← hW]; exact ((Below.refl _ _).alloc (Nat.le_refl _) _).alloc (by simp) _
 have hpl := plain_any 2 m [] none 0 0 none 0 0 W (by omega) (by omega) (by omega) (by omega) (by first | exact .inl rfl | exact .inr rfl)
 have hld : (ldJs (.pointer (some ⟨w.heap.size, 0, none⟩))).run Tryz.prog W = .ok (.agg #[.int .i64 2, .int .i64 m, .string ⟨#[]⟩, .slice none 0 0, .slice none 0 0]) W := ldJs_blk B0
 have HW : Hid ((w.alloc (.cells #[.int .i64 2, .int .i64 m, .string ⟨#[]⟩, .slice none 0 0, .slice none 0 0] 197)).alloc (.cells #[.int .i64 (d : Int)] 3) = W) := Lib.hid hW
 clear hW
 rw [hs0] at hpl
 obtain ⟨db, hdb⟩ : ∃ db, ((d : Int) == 0) = db := ⟨_, rfl⟩
 go_enter Tryz.func199, Tryz.ntmps199
 go_upto_region 1 with fail
 rw [HW.out]
 clear HW
 go_wp2_with fail
 refine hpl.mono ?_
 rintro e w1 ⟨rfl, hb1⟩
 have hbw1 : Below w.heap.size w w1 := hbw.trans (hb1.mono hbw.size)
 have C0 := B0.below hb1
 have C1 := B1.below hb1
 have k0 : w1.cell? ⟨w.heap.size, 0, none⟩ = some (.int .i64 2) := C0.cell 0
 have k1 : w1.cell? ⟨w.heap.size, 1, none⟩ = some (.int .i64 m) := C0.cell 1
 have k2 : w1.cell? ⟨w.heap.size, 2, none⟩ = some (.string ⟨#[]⟩) := C0.cell 2
 have k3 : w1.cell? ⟨w.heap.size, 3, none⟩ = some (.slice none 0 0) := C0.cell 3
 have k4 : w1.cell? ⟨w.heap.size, 4, none⟩ = some (.slice none 0 0) := C0.cell 4
 have k5 : w1.cell? ⟨w.heap.size + 1, 0, none⟩ = some (.int .i64 (d : Int)) := C1.cell 0
 have hodd := right1_any [] (fun c hc => by cases hc) w1
 clear hpl hld B0 B1 hb1
 rw [hs0] at hodd
 cases db
 all_goals
  go_wp2_with fail
  refine hodd.mono ?_
  rintro e w2 ⟨rfl, hb2⟩
  have hbw2 : Below w.heap.size w w2 := hbw1.trans (hb2.mono hbw1.size)
  have D0 := C0.below hb2
  have D1 := C1.below hb2
  have q3 : w2.cell? ⟨w.heap.size, 3, none⟩ = some (.slice none 0 0) := D0.cell 3
  have hnm := hasStr_any 229 #[] (enters_of Tryz.func229 (by kernel_rfl) rfl) (fun _ => false) none 0 0 ([] : List Txt) w2 (Ts.empty w2 none) (by omega) (fun W' x hx _ => by cases hx)
  rw [show ([] : List Txt).any (fun _ => false) = false by simp] at hnm
  clear hodd k0 k1 k2 k3 k4 k5 C0 C1
  go_wp2_with fail
  refine hnm.mono ?_
  rintro e w3 ⟨rfl, hb3⟩
  have hbw3 : Below w.heap.size w w3 := hbw2.trans (hb3.mono hbw2.size)
  have E0 := D0.below hb3
  have E1 := D1.below hb3
  have k0 : w3.cell? ⟨w.heap.size, 0, none⟩ = some (.int .i64 2) := E0.cell 0
  have k1 : w3.cell? ⟨w.heap.size, 1, none⟩ = some (.int .i64 m) := E0.cell 1
  have k3 : w3.cell? ⟨w.heap.size, 3, none⟩ = some (.slice none 0 0) := E0.cell 3
  clear hnm q3 D0 D1 hb2
  go_wp2_with fail
  go_loopw [6, 7, 72] (fun _ _ i wx => ∃ j : Nat, j ≤ 0 ∧ i = .int .i64 (j : Int) ∧ Below w3.heap.size w3 wx) (fun _ _ i _ => 0 - (intOf i).toNat)
  case atStart => exact ⟨0, by omega, rfl, Below.refl _ _⟩
  case round =>
   clear k0 k1 k3
   obtain ⟨j, hj, rfl, hbx⟩ := hrel
   obtain ⟨wx, hwx⟩ : ∃ wx, wx = wr := ⟨_, rfl⟩
   subst hwx
   have hbwx : Below w.heap.size w wx := hbw3.trans (hbx.mono hbw3.size)
   have X0 := E0.below hbx
   have X1 := E1.below hbx
   have k3 : wx.cell? ⟨w.heap.size, 3, none⟩ = some (.slice none 0 0) := X0.cell 3
   have k4 : wx.cell? ⟨w.heap.size, 4, none⟩ = some (.slice none 0 0) := X0.cell 4
   obtain rfl : j = 0 := by omega
   have hjs := hasJs_any 233 #[.pointer (some ⟨w.heap.size + 1, 0, none⟩)] (enters_of Tryz.func233 (by kernel_rfl) rfl) (fun _ => false) none 0 0 ([] : List JsV) wx (Vs.empty _ _ _ _) (by omega) (fun W' x hx _ => by cases hx)
   rw [show ([] : List JsV).any (fun _ => false) = false from rfl] at hjs
   go_wp2_with fail
   refine hjs.mono ?_
   rintro e w5 ⟨rfl, hb5⟩
   go_wp2_with fail
   go_ret
   exact ⟨rfl, hbwx.trans (hb5.mono hbwx.size)⟩
set_option maxRecDepth 100000 in
set_option maxHeartbeats 8000000 in
theorem right_3 (w : World) (d : Nat) (t : Txt) (hta : Asc t) :
  Calls Tryz.prog 199 #[.agg #[.int .i64 3, .int .i64 0, .string (str t), .slice none 0 0, .slice none 0 0], .int .i64 (d : Int)] w fun e w' => e = .returned (.bool true) ∧ Below w.heap.size w w' := by
 have hs0 : str [] = ⟨#[]⟩ := rfl
 obtain ⟨W, hW⟩ : ∃ W, (w.alloc (.cells (jsRow ⟨3, 0, t, .slice none 0 0, .slice none 0 0⟩).toArray 197)).alloc (.cells ([.int .i64 (d : Int)] : List Value).toArray 3) = W := ⟨_, rfl⟩
 have B0 : Blk W w.heap.size (jsRow ⟨3, 0, t, .slice none 0 0, .slice none 0 0⟩) 197 := by rw [← hW]; exact (Blk.new _ _ _).alloc _
 have B1 : Blk W (w.heap.size + 1) [.int .i64 (d : Int)] 3 := by
  have := Blk.new (w.alloc (.cells (jsRow ⟨3, 0, t, .slice none 0 0, .slice none 0 0⟩).toArray 197)) [.int .i64 (d : Int)] 3
  rw [← hW]
  simpa using this
 have hbw : Below w.heap.size w W := by rw [← hW]; exact ((Below.refl _ _).alloc (Nat.le_refl _) _).alloc (by simp) _
 have hpl := plain_any 3 0 t none 0 0 none 0 0 W (by omega) (by omega) (by omega) (by omega) (by first | exact .inl rfl | exact .inr rfl)
 have hld : (ldJs (.pointer (some ⟨w.heap.size, 0, none⟩))).run Tryz.prog W = .ok (.agg #[.int .i64 3, .int .i64 0, .string (str t), .slice none 0 0, .slice none 0 0]) W := ldJs_blk B0
 have HW : Hid ((w.alloc (.cells #[.int .i64 3, .int .i64 0, .string (str t), .slice none 0 0, .slice none 0 0] 197)).alloc (.cells #[.int .i64 (d : Int)] 3) = W) := Lib.hid hW
 clear hW
 obtain ⟨db, hdb⟩ : ∃ db, ((d : Int) == 0) = db := ⟨_, rfl⟩
 go_enter Tryz.func199, Tryz.ntmps199
 go_upto_region 1 with fail
 rw [HW.out]
 clear HW
 go_wp2_with fail
 refine hpl.mono ?_
 rintro e w1 ⟨rfl, hb1⟩
 have hbw1 : Below w.heap.size w w1 := hbw.trans (hb1.mono hbw.size)
 have C0 := B0.below hb1
 have C1 := B1.below hb1
 have k0 : w1.cell? ⟨w.heap.size, 0, none⟩ = some (.int .i64 3) := C0.cell 0
 have k1 : w1.cell? ⟨w.heap.size, 1, none⟩ = some (.int .i64 0) := C0.cell 1
 have k2 : w1.cell? ⟨w.heap.size, 2, none⟩ = some (.string (str t)) := C0.cell 2
 have k3 : w1.cell? ⟨w.heap.size, 3, none⟩ = some (.slice none 0 0) := C0.cell 3
 have k4 : w1.cell? ⟨w.heap.size, 4, none⟩ = some (.slice none 0 0) := C0.cell 4
 have k5 : w1.cell? ⟨w.heap.size + 1, 0, none⟩ = some (.int .i64 (d : Int)) := C1.cell 0
 have hodd := right1_any t hta w1
 clear hpl hld B0 B1 hb1
 cases db
 all_goals
  go_wp2_with fail
  refine hodd.mono ?_
  rintro e w2 ⟨rfl, hb2⟩
  have hbw2 : Below w.heap.size w w2 := hbw1.trans (hb2.mono hbw1.size)
  have D0 := C0.below hb2
  have D1 := C1.below hb2
  have q3 : w2.cell? ⟨w.heap.size, 3, none⟩ = some (.slice none 0 0) := D0.cell 3
  have hnm := hasStr_any 229 #[] (enters_of Tryz.func229 (by kernel_rfl) rfl) (fun _ => false) none 0 0 ([] : List Txt) w2 (Ts.empty w2 none) (by omega) (fun W' x hx _ => by cases hx)
  rw [show ([] : List Txt).any (fun _ => false) = false by simp] at hnm
  clear hodd k0 k1 k2 k3 k4 k5 C0 C1
  go_wp2_with fail
  refine hnm.mono ?_
  rintro e w3 ⟨rfl, hb3⟩
  have hbw3 : Below w.heap.size w w3 := hbw2.trans (hb3.mono hbw2.size)
  have E0 := D0.below hb3
  have E1 := D1.below hb3
  have k0 : w3.cell? ⟨w.heap.size, 0, none⟩ = some (.int .i64 3) := E0.cell 0
  have k1 : w3.cell? ⟨w.heap.size, 1, none⟩ = some (.int .i64 0) := E0.cell 1
  have k3 : w3.cell? ⟨w.heap.size, 3, none⟩ = some (.slice none 0 0) := E0.cell 3
  clear hnm q3 D0 D1 hb2
  go_wp2_with fail
  go_loopw [6, 7, 72] (fun _ _ i wx => ∃ j : Nat, j ≤ 0 ∧ i = .int .i64 (j : Int) ∧ Below w3.heap.size w3 wx) (fun _ _ i _ => 0 - (intOf i).toNat)
  case atStart => exact ⟨0, by omega, rfl, Below.refl _ _⟩
  case round =>
   clear k0 k1 k3
   obtain ⟨j, hj, rfl, hbx⟩ := hrel
   obtain ⟨wx, hwx⟩ : ∃ wx, wx = wr := ⟨_, rfl⟩
   subst hwx
   have hbwx : Below w.heap.size w wx := hbw3.trans (hbx.mono hbw3.size)
   have X0 := E0.below hbx
   have X1 := E1.below hbx
   have k3 : wx.cell? ⟨w.heap.size, 3, none⟩ = some (.slice none 0 0) := X0.cell 3
   have k4 : wx.cell? ⟨w.heap.size, 4, none⟩ = some (.slice none 0 0) := X0.cell 4
   obtain rfl : j = 0 := by omega
   have hjs := hasJs_any 233 #[.pointer (some ⟨w.heap.size + 1, 0, none⟩)] (enters_of Tryz.func233 (by kernel_rfl) rfl) (fun _ => false) none 0 0 ([] : List JsV) wx (Vs.empty _ _ _ _) (by omega) (fun W' x hx _ => by cases hx)
   rw [show ([] : List JsV).any (fun _ => false) = false from rfl] at hjs
   go_wp2_with fail
   refine hjs.mono ?_
   rintro e w5 ⟨rfl, hb5⟩
   go_wp2_with fail
   go_ret
   exact ⟨rfl, hbwx.trans (hb5.mono hbwx.size)⟩
set_option maxRecDepth 100000 in
set_option maxHeartbeats 8000000 in
theorem right_4 (w : World) (d : Nat) (hd1 : 1 ≤ d) (hd2 : d ≤ 1000) (A : Option Addr) (n c : Nat) (L : List JsV) (hE : Es jsRow 5 w A n L) (hn : n ≤ 1000) (hk : ∀ k ∈ L, ∀ W', Below w.heap.size w W' → Calls Tryz.prog 199 #[.agg (jsRow k).toArray, .int .i64 ((d : Int) - 1)] W' fun e w'' => e = .returned (.bool true) ∧ Below W'.heap.size W' w'') :
  Calls Tryz.prog 199 #[.agg #[.int .i64 4, .int .i64 0, .string ⟨#[]⟩, .slice none 0 0, .slice A n c], .int .i64 (d : Int)] w fun e w' => e = .returned (.bool true) ∧ Below w.heap.size w w' := by
 have hs0 : str [] = ⟨#[]⟩ := rfl
 obtain ⟨W, hW⟩ : ∃ W, (w.alloc (.cells (jsRow ⟨4, 0, [], .slice none 0 0, .slice A n c⟩).toArray 197)).alloc (.cells ([.int .i64 (d : Int)] : List Value).toArray 3) = W := ⟨_, rfl⟩
 have B0 : Blk W w.heap.size (jsRow ⟨4, 0, [], .slice none 0 0, .slice A n c⟩) 197 := by rw [← hW]; exact (Blk.new _ _ _).alloc _
 have B1 : Blk W (w.heap.size + 1) [.int .i64 (d : Int)] 3 := by
  have := Blk.new (w.alloc (.cells (jsRow ⟨4, 0, [], .slice none 0 0, .slice A n c⟩).toArray 197)) [.int .i64 (d : Int)] 3
  rw [← hW]
  simpa using this
 have hbw : Below w.heap.size w W := by rw [← hW]; exact ((Below.refl _ _).alloc (Nat.le_refl _) _).alloc (by simp) _
 have hpl := plain_any 4 0 [] none 0 0 A n c W (by omega) (by omega) (by omega) (by omega) (by first | exact .inl rfl | exact .inr rfl)
 have hld : (ldJs (.pointer (some ⟨w.heap.size, 0, none⟩))).run Tryz.prog W = .ok (.agg #[.int .i64 4, .int .i64 0, .string ⟨#[]⟩, .slice none 0 0, .slice A n c]) W := ldJs_blk B0
 have HW : Hid ((w.alloc (.cells #[.int .i64 4, .int .i64 0, .string ⟨#[]⟩, .slice none 0 0, .slice A n c] 197)).alloc (.cells #[.int .i64 (d : Int)] 3) = W) := Lib.hid hW
 clear hW
 rw [hs0] at hpl
 have hdb : ((d : Int) == 0) = false := by simp; omega
 go_enter Tryz.func199, Tryz.ntmps199
 go_upto_region 1 with fail
 rw [HW.out]
 clear HW
 go_wp2_with fail
 refine hpl.mono ?_
 rintro e w1 ⟨rfl, hb1⟩
 have hbw1 : Below w.heap.size w w1 := hbw.trans (hb1.mono hbw.size)
 have C0 := B0.below hb1
 have C1 := B1.below hb1
 have k0 : w1.cell? ⟨w.heap.size, 0, none⟩ = some (.int .i64 4) := C0.cell 0
 have k1 : w1.cell? ⟨w.heap.size, 1, none⟩ = some (.int .i64 0) := C0.cell 1
 have k2 : w1.cell? ⟨w.heap.size, 2, none⟩ = some (.string ⟨#[]⟩) := C0.cell 2
 have k3 : w1.cell? ⟨w.heap.size, 3, none⟩ = some (.slice none 0 0) := C0.cell 3
 have k4 : w1.cell? ⟨w.heap.size, 4, none⟩ = some (.slice A n c) := C0.cell 4
 have k5 : w1.cell? ⟨w.heap.size + 1, 0, none⟩ = some (.int .i64 (d : Int)) := C1.cell 0
 have hodd := right1_any [] (fun c hc => by cases hc) w1
 clear hpl hld B0 B1 hb1
 rw [hs0] at hodd
 go_wp2_with fail
 refine hodd.mono ?_
 rintro e w2 ⟨rfl, hb2⟩
 have hbw2 : Below w.heap.size w w2 := hbw1.trans (hb2.mono hbw1.size)
 have D0 := C0.below hb2
 have D1 := C1.below hb2
 have q3 : w2.cell? ⟨w.heap.size, 3, none⟩ = some (.slice none 0 0) := D0.cell 3
 have hnm := hasStr_any 229 #[] (enters_of Tryz.func229 (by kernel_rfl) rfl) (fun _ => false) none 0 0 ([] : List Txt) w2 (Ts.empty w2 none) (by omega) (fun W' x hx _ => by cases hx)
 rw [show ([] : List Txt).any (fun _ => false) = false by simp] at hnm
 clear hodd k0 k1 k2 k3 k4 k5 C0 C1
 go_wp2_with fail
 refine hnm.mono ?_
 rintro e w3 ⟨rfl, hb3⟩
 have hbw3 : Below w.heap.size w w3 := hbw2.trans (hb3.mono hbw2.size)
 have E0 := D0.below hb3
 have E1 := D1.below hb3
 have k0 : w3.cell? ⟨w.heap.size, 0, none⟩ = some (.int .i64 4) := E0.cell 0
 have k1 : w3.cell? ⟨w.heap.size, 1, none⟩ = some (.int .i64 0) := E0.cell 1
 have k3 : w3.cell? ⟨w.heap.size, 3, none⟩ = some (.slice none 0 0) := E0.cell 3
 clear hnm q3 D0 D1 hb2
 go_wp2_with fail
 go_loopw [6, 7, 72] (fun _ _ i wx => ∃ j : Nat, j ≤ 0 ∧ i = .int .i64 (j : Int) ∧ Below w3.heap.size w3 wx) (fun _ _ i _ => 0 - (intOf i).toNat)
 case atStart => exact ⟨0, by omega, rfl, Below.refl _ _⟩
 case round =>
  clear k0 k1 k3
  obtain ⟨j, hj, rfl, hbx⟩ := hrel
  obtain ⟨wx, hwx⟩ : ∃ wx, wx = wr := ⟨_, rfl⟩
  subst hwx
  have hbwx : Below w.heap.size w wx := hbw3.trans (hbx.mono hbw3.size)
  have X0 := E0.below hbx
  have X1 := E1.below hbx
  have k3 : wx.cell? ⟨w.heap.size, 3, none⟩ = some (.slice none 0 0) := X0.cell 3
  have k4 : wx.cell? ⟨w.heap.size, 4, none⟩ = some (.slice A n c) := X0.cell 4
  obtain rfl : j = 0 := by omega
  have hjs := hasJs_any 233 #[.pointer (some ⟨w.heap.size + 1, 0, none⟩)] (enters_of Tryz.func233 (by kernel_rfl) rfl) (fun _ => false) A n c L wx (Es.below hE hbwx) (by omega) (fun W' x hx hb => right2_any x (w.heap.size + 1) d hd2 W' ((X1.below hb).cell 0) (fun W'' hb'' => hk x hx W'' (hbwx.trans ((hb.trans (hb''.mono hb.size)).mono hbwx.size))))
  rw [show L.any (fun _ => false) = false by simp] at hjs
  go_wp2_with fail
  refine hjs.mono ?_
  rintro e w5 ⟨rfl, hb5⟩
  go_wp2_with fail
  go_ret
  exact ⟨rfl, hbwx.trans (hb5.mono hbwx.size)⟩
set_option maxRecDepth 100000 in
set_option maxHeartbeats 8000000 in
theorem right_5 (w : World) (d : Nat) (hd1 : 1 ≤ d) (hd2 : d ≤ 1000) (A : Option Addr) (n c : Nat) (L : List JsV) (hE : Es jsRow 5 w A n L) (hn : n ≤ 1000) (A' : Option Addr) (c' : Nat) (ns : List Txt) (hT : Ts w A' n ns) (hF : Fit n c' A') (hna : ∀ x ∈ ns, Asc x) (hnd : ns.Nodup) (hk : ∀ k ∈ L, ∀ W', Below w.heap.size w W' → Calls Tryz.prog 199 #[.agg (jsRow k).toArray, .int .i64 ((d : Int) - 1)] W' fun e w'' => e = .returned (.bool true) ∧ Below W'.heap.size W' w'') :
  Calls Tryz.prog 199 #[.agg #[.int .i64 5, .int .i64 0, .string ⟨#[]⟩, .slice A' n c', .slice A n c], .int .i64 (d : Int)] w fun e w' => e = .returned (.bool true) ∧ Below w.heap.size w w' := by
 have hs0 : str [] = ⟨#[]⟩ := rfl
 obtain ⟨W, hW⟩ : ∃ W, (w.alloc (.cells (jsRow ⟨5, 0, [], .slice A' n c', .slice A n c⟩).toArray 197)).alloc (.cells ([.int .i64 (d : Int)] : List Value).toArray 3) = W := ⟨_, rfl⟩
 have B0 : Blk W w.heap.size (jsRow ⟨5, 0, [], .slice A' n c', .slice A n c⟩) 197 := by rw [← hW]; exact (Blk.new _ _ _).alloc _
 have B1 : Blk W (w.heap.size + 1) [.int .i64 (d : Int)] 3 := by
  have := Blk.new (w.alloc (.cells (jsRow ⟨5, 0, [], .slice A' n c', .slice A n c⟩).toArray 197)) [.int .i64 (d : Int)] 3
  rw [← hW]
  simpa using this
 have hbw : Below w.heap.size w W := by rw [← hW]; exact ((Below.refl _ _).alloc (Nat.le_refl _) _).alloc (by simp) _
 have hpl := plain_any 5 0 [] A' n c' A n c W (by omega) (by omega) (by omega) (by omega) (by first | exact .inl rfl | exact .inr rfl)
 have hld : (ldJs (.pointer (some ⟨w.heap.size, 0, none⟩))).run Tryz.prog W = .ok (.agg #[.int .i64 5, .int .i64 0, .string ⟨#[]⟩, .slice A' n c', .slice A n c]) W := ldJs_blk B0
 have HW : Hid ((w.alloc (.cells #[.int .i64 5, .int .i64 0, .string ⟨#[]⟩, .slice A' n c', .slice A n c] 197)).alloc (.cells #[.int .i64 (d : Int)] 3) = W) := Lib.hid hW
 clear hW
 rw [hs0] at hpl
 obtain ⟨hF1, hF2, hF3⟩ := hF
 have hdb : ((d : Int) == 0) = false := by simp; omega
 go_enter Tryz.func199, Tryz.ntmps199
 go_upto_region 1 with fail
 rw [HW.out]
 clear HW
 go_wp2_with fail
 refine hpl.mono ?_
 rintro e w1 ⟨rfl, hb1⟩
 have hbw1 : Below w.heap.size w w1 := hbw.trans (hb1.mono hbw.size)
 have C0 := B0.below hb1
 have C1 := B1.below hb1
 have k0 : w1.cell? ⟨w.heap.size, 0, none⟩ = some (.int .i64 5) := C0.cell 0
 have k1 : w1.cell? ⟨w.heap.size, 1, none⟩ = some (.int .i64 0) := C0.cell 1
 have k2 : w1.cell? ⟨w.heap.size, 2, none⟩ = some (.string ⟨#[]⟩) := C0.cell 2
 have k3 : w1.cell? ⟨w.heap.size, 3, none⟩ = some (.slice A' n c') := C0.cell 3
 have k4 : w1.cell? ⟨w.heap.size, 4, none⟩ = some (.slice A n c) := C0.cell 4
 have k5 : w1.cell? ⟨w.heap.size + 1, 0, none⟩ = some (.int .i64 (d : Int)) := C1.cell 0
 have hodd := right1_any [] (fun c hc => by cases hc) w1
 clear hpl hld B0 B1 hb1
 rw [hs0] at hodd
 go_wp2_with fail
 refine hodd.mono ?_
 rintro e w2 ⟨rfl, hb2⟩
 have hbw2 : Below w.heap.size w w2 := hbw1.trans (hb2.mono hbw1.size)
 have D0 := C0.below hb2
 have D1 := C1.below hb2
 have q3 : w2.cell? ⟨w.heap.size, 3, none⟩ = some (.slice A' n c') := D0.cell 3
 have hnm := hasStr_any 229 #[] (enters_of Tryz.func229 (by kernel_rfl) rfl) (fun _ => false) A' n c' ns w2 (Ts.below hT hbw2) (by omega) (fun W' x hx _ => right1_any x (hna x hx) W')
 rw [show ns.any (fun _ => false) = false by simp] at hnm
 clear hodd k0 k1 k2 k3 k4 k5 C0 C1
 go_wp2_with fail
 refine hnm.mono ?_
 rintro e w3 ⟨rfl, hb3⟩
 have hbw3 : Below w.heap.size w w3 := hbw2.trans (hb3.mono hbw2.size)
 have E0 := D0.below hb3
 have E1 := D1.below hb3
 have k0 : w3.cell? ⟨w.heap.size, 0, none⟩ = some (.int .i64 5) := E0.cell 0
 have k1 : w3.cell? ⟨w.heap.size, 1, none⟩ = some (.int .i64 0) := E0.cell 1
 have k3 : w3.cell? ⟨w.heap.size, 3, none⟩ = some (.slice A' n c') := E0.cell 3
 clear hnm q3 D0 D1 hb2
 go_wp2_with fail
 go_loopw [6, 7, 72] (fun _ _ i wx => ∃ j : Nat, j ≤ n ∧ i = .int .i64 (j : Int) ∧ Below w3.heap.size w3 wx) (fun _ _ i _ => n - (intOf i).toNat)
 case atStart => exact ⟨0, by omega, rfl, Below.refl _ _⟩
 case round =>
  clear k0 k1 k3
  obtain ⟨j, hj, rfl, hbx⟩ := hrel
  obtain ⟨wx, hwx⟩ : ∃ wx, wx = wr := ⟨_, rfl⟩
  subst hwx
  have hbwx : Below w.heap.size w wx := hbw3.trans (hbx.mono hbw3.size)
  have X0 := E0.below hbx
  have X1 := E1.below hbx
  have k3 : wx.cell? ⟨w.heap.size, 3, none⟩ = some (.slice A' n c') := X0.cell 3
  have k4 : wx.cell? ⟨w.heap.size, 4, none⟩ = some (.slice A n c) := X0.cell 4
  by_cases hlt : j < n
  ·have hns := hT.len
   have hTx := Ts.below hT hbwx
   obtain ⟨bb, off, rfl, hcell⟩ := hTx.lit (i := j) (by omega)
   have hcon := contains_any (some ⟨bb, off, none⟩) j c' (ns.take j) (ns[j]'(by omega)) wx (ts_take2 hTx (by omega)) (by omega)
   have hnc : (ns.take j).contains (ns[j]'(by omega)) = false := by
    rw [List.contains_eq_mem]
    simp only [decide_eq_false_iff_not]
    intro hm
    obtain ⟨q, hq, he⟩ := List.getElem_of_mem hm
    rw [List.length_take] at hq
    rw [List.getElem_take] at he
    exact (List.nodup_iff_pairwise_ne.1 hnd |> fun hp => (List.pairwise_iff_getElem.1 hp) q j (by omega) (by omega) (by omega)) he
   rw [hnc] at hcon
   have hjz : (j : Int) < (n : Int) := by omega
   have hjc : (j : Int) ≤ (c' : Int) := by omega
   generalize ns[j]'(by omega) = sj at *
   go_wp2_with fail
   refine hcon.mono ?_
   rintro e w4 ⟨rfl, hw4⟩
   have hw4' := hw4.symm
   subst hw4'
   go_wp2
   go_roundw
   case rel => exact ⟨j + 1, by omega, by go_num, hbx⟩
   case measure => simp [intOf]; omega
  ·have hje : (n : Int) ≤ (j : Int) := by omega
   have hjs := hasJs_any 233 #[.pointer (some ⟨w.heap.size + 1, 0, none⟩)] (enters_of Tryz.func233 (by kernel_rfl) rfl) (fun _ => false) A n c L wx (Es.below hE hbwx) (by omega) (fun W' x hx hb => right2_any x (w.heap.size + 1) d hd2 W' ((X1.below hb).cell 0) (fun W'' hb'' => hk x hx W'' (hbwx.trans ((hb.trans (hb''.mono hb.size)).mono hbwx.size))))
   rw [show L.any (fun _ => false) = false by simp] at hjs
   go_wp2_with fail
   refine hjs.mono ?_
   rintro e w5 ⟨rfl, hb5⟩
   go_wp2_with fail
   go_ret
   exact ⟨rfl, hbwx.trans (hb5.mono hbwx.size)⟩
end Go.Proofs.YtmbpnkacggngkaaGreatDoor
end
section
namespace Go.Proofs.YtmbpnkacggngkaaGreatDoor
open Go.RowKit Mem
set_option maxHeartbeats 1000000 in
set_option maxRecDepth 100000 in
theorem copyCheck_used (b : Nat) (w : World) (h0 : w.cell? ⟨b, 0, none⟩ = some (.pointer (some ⟨b, 0, none⟩))) :
  Calls Tryz.prog 257 #[.pointer (some ⟨b, 0, none⟩)] w fun e w' => e = .returned (.tuple #[]) ∧ w' = w := by
 have X := Tryz.Builder_Extra_169
 obtain ⟨j, hj, _⟩ := Option.map_eq_some_iff.1 X.sizeBuilder
 have hp := fun W => Lib.run_neq_ptr_same (P := Tryz.prog) W ⟨b, 0, none⟩ Tryz.underlying212 hj
 go_enter Tryz.func257, Tryz.ntmps257
 go_wp2
 go_end0
 exact ⟨rfl, rfl⟩
set_option maxHeartbeats 1000000 in
set_option maxRecDepth 100000 in
theorem copyCheck_fresh (b : Nat) (w : World) (h0 : w.cell? ⟨b, 0, none⟩ = some (.pointer none)) (hsh : w.shape? b = some (216, 2)) (hfz : w.frozen? ⟨b, 0, none⟩ = false) :
  Calls Tryz.prog 257 #[.pointer (some ⟨b, 0, none⟩)] w fun e w' => e = .returned (.tuple #[]) ∧ w' = w.setCell ⟨b, 0, none⟩ (.pointer (some ⟨b, 0, none⟩)) := by
 have X := Tryz.Builder_Extra_169
 obtain ⟨j, hj, hjs⟩ := Option.map_eq_some_iff.1 X.sizeBuilder
 go_enter Tryz.func257, Tryz.ntmps257
 go_wp2
 rw [Lib.run_to_unsafe w ⟨b, 0, none⟩ Tryz.underlying212 Tryz.underlying286 hj (by rw [hjs]; decide) hsh (Nat.zero_lt_succ 1)]
 simp only [Result.andThen]
 rw [Oper.upon_value]
 go_wp2
 rw [run_callFunc_extern Tryz.func271 (by kernel_rfl) (by kernel_rfl) (by kernel_rfl) (e := Extern.AbiNoEscape.same) (by kernel_rfl)]
 rw [Lib.run_noEscape]
 simp only [Result.andThen]
 rw [Oper.upon_value]
 go_wp2
 rw [Lib.run_from_unsafe w ⟨b, 0, none⟩ Tryz.underlying286 Tryz.underlying212 hj hsh (by kernel_rfl)]
 simp only [Result.andThen]
 rw [Oper.upon_value]
 go_wp2
 go_end0
 exact ⟨rfl, rfl⟩
end Go.Proofs.YtmbpnkacggngkaaGreatDoor
end
section
namespace Go.Proofs.YtmbpnkacggngkaaGreatDoor
open Go.RowKit Mem
def KeepB (b : Nat) (w w' : World) : Prop := Below b w w' ∧ ∀ (g : Nat) (M : List Value) (e : TypeId), Blk w g M e → e ≠ 5 → g ≠ b → Blk w' g M e
theorem KeepB.refl (b : Nat) (w : World) : KeepB b w w := ⟨Below.refl _ _, fun _ _ _ h _ _ => h⟩
theorem KeepB.trans {b : Nat} {w w' w'' : World} (h : KeepB b w w') (h' : KeepB b w' w'') : KeepB b w w'' := ⟨h.1.trans h'.1, fun g M e hB he hg => h'.2 g M e (h.2 g M e hB he hg) he hg⟩
theorem KeepB.of_below {b : Nat} {w w' : World} (h : Below w.heap.size w w') (hb : b ≤ w.heap.size) : KeepB b w w' := ⟨h.mono hb, fun _ _ _ hB _ _ => hB.below h⟩
def AllB (bs : List Value) : Prop := ∀ u ∈ bs, ∃ c : UInt8, u = .int .u8 (c.toNat : Int)
theorem AllB.one {bs : List Value} (h : AllB bs) : ∀ u ∈ bs, u.oneCell' = true := fun u hu => by
 obtain ⟨c, rfl⟩ := h u hu
 rfl
theorem AllB.append {a c : List Value} (h : AllB a) (h' : AllB c) : AllB (a ++ c) := fun u hu => (List.mem_append.1 hu).elim (h u) (h' u)
theorem AllB.drop {a : List Value} (h : AllB a) (k : Nat) : AllB (a.drop k) := fun u hu => h u (List.mem_of_mem_drop hu)
theorem AllB.of_bv (l : List UInt8) : AllB (bv l) := fun u hu => by
 obtain ⟨c, _, rfl⟩ := List.mem_map.1 hu
 exact ⟨c, rfl⟩
theorem byte_of {c : Int} (h0 : 0 ≤ c) (h1 : c < 256) : ∃ x : UInt8, Value.int .u8 c = .int .u8 (x.toNat : Int) := by
 obtain ⟨n, rfl⟩ := Int.eq_ofNat_of_zero_le h0
 refine ⟨UInt8.ofNat n, ?_⟩
 rw [UInt8.toNat_ofNat_of_lt' (by show n < 256; omega)]
theorem AllB.bytes : ∀ {bs : List Value}, AllB bs → ∃ l : List UInt8, bs = bv l
 | [], _ => ⟨[], rfl⟩
 | u :: bs, h => by
  obtain ⟨l, hl⟩ := AllB.bytes (bs := bs) fun x hx => h x (List.mem_cons_of_mem _ hx)
  obtain ⟨c, rfl⟩ := h u (List.mem_cons_self ..)
  exact ⟨c :: l, by rw [hl]; rfl⟩
def WS (b n : Nat) (w : World) : Prop := b < w.heap.size ∧ ∃ bs : List Value, bs.length = n ∧ AllB bs ∧ Lib.IsBuilder 216 5 b b bs w
theorem WS.below {b n : Nat} {w w' : World} (h : WS b n w) (hb : Below w.heap.size w w') : WS b n w' := by
 obtain ⟨hlt, bs, hl, hby, hI⟩ := h
 refine ⟨Nat.lt_of_lt_of_le hlt hb.size, bs, hl, hby, ?_⟩
 have key : ∀ p, Lib.BuilderAt 216 5 b b p bs w → Lib.BuilderAt 216 5 b b p bs w' := fun p ⟨h1, v, h2, h3, h4⟩ => ⟨h1, v, by rw [hb.block b hlt]; exact h2, own_below h3 hb (Nat.le_refl _), h4⟩
 exact hI.imp (key _) (key _)
theorem copyCheck_keep (b : Nat) (bs : List Value) (w : World) (h : Lib.IsBuilder 216 5 b b bs w) :
  Calls Tryz.prog 257 #[.pointer (some ⟨b, 0, none⟩)] w fun e w' => e = .returned (.tuple #[]) ∧ Lib.BuilderAt 216 5 b b (.pointer (some ⟨b, 0, none⟩)) bs w' ∧ KeepB b w w' := by
 rcases h with h | h
 ·refine (copyCheck_fresh b w h.cell0 h.shape h.frozen0).mono ?_
  rintro e w' ⟨rfl, rfl⟩
  exact ⟨rfl, h.used _, (Below.refl b w).setCell (p := ⟨b, 0, none⟩) h.1 _, fun g M e hB _ hg => hB.set_ne (p := ⟨b, 0, none⟩) hg _⟩
 ·refine (copyCheck_used b w h.cell0).mono ?_
  rintro e w' ⟨rfl, rfl⟩
  exact ⟨rfl, h, KeepB.refl _ _⟩
theorem keep_grown {b : Nat} {w w1 w2 : World} {v : Value} {bs : List Value} {x : Value} (hb : b ≤ w.heap.size) (hown : w.ownsRow b 5 1 v bs.length bs) (ha : Below w.heap.size w w1) (hg : w1.grownBy w2 v.ownBlock) : KeepB b w (w2.setCell ⟨b, 1, none⟩ x) := by
 refine ⟨?_, fun g M e hB he hgb => ?_⟩
 ·exact ((ha.mono hb).grown hg (Nat.le_trans hb ha.size) (fun k hk => (hown.lt k hk).1)).setCell (p := ⟨b, 1, none⟩) (Nat.le_refl _) _
 ·have h1 : v.ownBlock ≠ some g := own_ne hown hB (fun e => he e.symm)
  have hB2 : Blk w2 g M e := by
   have hB1 := hB.below ha
   unfold Blk at *
   rw [hg.block g (Array.getElem?_eq_some_iff.1 hB1).1 (fun e => h1 e.symm)]
   exact hB1
  exact hB2.set_ne (p := ⟨b, 1, none⟩) hgb _
set_option maxHeartbeats 2000000 in
set_option maxRecDepth 100000 in
theorem wbyte_any (b n : Nat) (c : Int) (w : World) (h : WS b n w) (hlen : n ≤ 1000000) (hc0 : 0 ≤ c := by omega) (hc1 : c < 256 := by omega) :
  Calls Tryz.prog 227 #[.pointer (some ⟨b, 0, none⟩), .int .u8 c] w fun e w' => e = .returned .nilIface ∧ WS b (n + 1) w' ∧ KeepB b w w' := by
 obtain ⟨hbl, bs, rfl, hby, hI⟩ := h
 have hbc : AllB [Value.int .u8 c] := fun u hu => by
  rw [List.mem_singleton.1 hu]
  exact byte_of hc0 hc1
 obtain ⟨i0, hi, hz0, hz1, hz2⟩ := info_parts infoB
 go_enter Tryz.func227, Tryz.ntmps227
 go_wp2_with fail
 refine (copyCheck_keep b bs _ hI).mono ?_
 rintro e w1 ⟨rfl, h1, hb1⟩
 obtain ⟨hB, v, hbk, hown, hne⟩ := h1
 have c0 : w1.cell? ⟨b, 0, none⟩ = some (.pointer (some ⟨b, 0, none⟩)) := by rw [Lib.cell_of_heap hbk]; rfl
 have c1 : w1.cell? ⟨b, 1, none⟩ = some v := by rw [Lib.cell_of_heap hbk]; rfl
 have hB1 : b ≤ w1.heap.size := Nat.le_trans (Nat.le_of_lt hbl) hb1.1.size
 have h63 : bs.length + 1 ≤ maxLen := by unfold maxLen; omega
 go_wp2_with (at_builtin; go_must (refine wpList_push rfl (.tmp 11) (.tmp 13) 62 rfl b i0 (.int .u8 0) 1 Tryz.underlying62 hi hz0 hz1 hz2 rfl _ _ _ rfl hown rfl rfl h63 (by omega) hB1 ?_))
 intro A' c' w2 hown' g1 g2 hgrow
 have hlt : b < w1.heap.size := by
  rcases Nat.lt_or_ge b w1.heap.size with h' | h'
  ·exact h'
  ·simp [Array.getElem?_eq_none h'] at hbk
 have hb2 : w2.heap[b]? = some (.cells #[.pointer (some ⟨b, 0, none⟩), v] 216 (0, 0)) := by
  rw [hgrow.block b (by simp; omega) (fun e => hne e.symm), Lib.alloc_old w1 _ b hlt]
  exact hbk
 have d0 : w2.cell? ⟨b, 0, none⟩ = some (.pointer (some ⟨b, 0, none⟩)) := by rw [Lib.cell_of_heap hb2]; rfl
 have d1 : w2.cell? ⟨b, 1, none⟩ = some v := by rw [Lib.cell_of_heap hb2]; rfl
 have f1 : w2.frozen? ⟨b, 1, none⟩ = false := Lib.frozen_of_heap hb2 1
 obtain ⟨g, cap, hsl⟩ : ∃ g cap, Value.slice A' (bs.length + 1) c' = .slice (some ⟨g, 0, none⟩) (bs.length + 1) cap := by
  rcases hown'.2 with ⟨_, h0⟩ | ⟨g, cap, cur, hv, _⟩
  ·omega
  ·exact ⟨g, cap, hv⟩
 rw [hsl] at hown' ⊢
 have hkg := keep_grown (x := .slice (some ⟨g, 0, none⟩) (bs.length + 1) cap) hB1 hown ((Below.refl _ _).alloc (Nat.le_refl _) _) hgrow
 have hsz : b < w2.heap.size := by have := hgrow.size; simp at this; omega
 clear hc0 hc1
 go_wp2
 go_ret
 refine ⟨rfl, ⟨by simpa using hsz, bs ++ [.int .u8 c], by simp, hby.append hbc, .inr ?_⟩, hb1.trans hkg⟩
 exact Lib.BuilderAt.put (T := 216) (e := 5) hB hb2 (bs' := bs ++ [.int .u8 c]) (by simpa using hown') (by decide)
set_option maxHeartbeats 2000000 in
set_option maxRecDepth 100000 in
theorem wbytes_any (b n g off m cap0 : Nat) (M : List Value) (e : TypeId) (w : World) (h : WS b n w) (hlen : n ≤ 1000000) (hm : 1 ≤ m) (hm2 : m ≤ 1000) (hB0 : Blk w g M e) (he : e ≠ 5) (hg : g ≠ b) (hM : M.length = off + m) (hM8 : AllB M) :
  Calls Tryz.prog 260 #[.pointer (some ⟨b, 0, none⟩), .slice (some ⟨g, off, none⟩) m cap0] w fun x w' => x = .returned (.tuple #[.int .i64 (m : Int), .nilIface]) ∧ WS b (n + m) w' ∧ KeepB b w w' := by
 obtain ⟨hbl, bs, rfl, hby, hI⟩ := h
 have h1 := hM8.one
 obtain ⟨i0, hi, hz0, hz1, hz2⟩ := info_parts infoB
 go_enter Tryz.func260, Tryz.ntmps260
 go_wp2_with fail
 refine (copyCheck_keep b bs _ hI).mono ?_
 rintro x w1 ⟨rfl, hq1, hb1⟩
 obtain ⟨hB, v, hbk, hown, hne⟩ := hq1
 have hBg := hb1.2 g M e hB0 he hg
 have c0 : w1.cell? ⟨b, 0, none⟩ = some (.pointer (some ⟨b, 0, none⟩)) := by rw [Lib.cell_of_heap hbk]; rfl
 have c1 : w1.cell? ⟨b, 1, none⟩ = some v := by rw [Lib.cell_of_heap hbk]; rfl
 have hB1 : b ≤ w1.heap.size := Nat.le_trans (Nat.le_of_lt hbl) hb1.1.size
 have h63 : bs.length + m ≤ maxLen := by unfold maxLen; omega
 have hvs : Vs w1 w1.heap.size 1 (some ⟨g, off, none⟩) m (M.drop off) := ⟨by rw [List.length_drop]; omega, fun j u hj => ⟨_, rfl, hBg.lt, by
  rw [show (⟨g, off, none⟩ : Addr).add j = ⟨g, off + j, none⟩ by simp [Addr.add], hBg.cell]
  rw [List.getElem?_drop] at hj
  exact hj⟩⟩
 go_wp2_with (at_builtin; go_must (refine wpList_append w1 rfl (.tmp 12) (.tmp 13) 62 rfl b 5 i0 (.int .u8 0) 1 1 Tryz.underlying62 hi hz0 hz1 hz2 rfl (by omega) _ _ _ rfl hown _ _ m _ _ rfl hvs (fun u hu => h1 u (List.mem_of_mem_drop hu)) h63 (by omega) hB1 ?_))
 intro A' c' w2 hown' g1 g2 hgrow
 have hlt : b < w1.heap.size := by
  rcases Nat.lt_or_ge b w1.heap.size with h' | h'
  ·exact h'
  ·simp [Array.getElem?_eq_none h'] at hbk
 have hb2 : w2.heap[b]? = some (.cells #[.pointer (some ⟨b, 0, none⟩), v] 216 (0, 0)) := by
  rw [hgrow.block b hlt (fun e => hne e.symm)]
  exact hbk
 have d0 : w2.cell? ⟨b, 0, none⟩ = some (.pointer (some ⟨b, 0, none⟩)) := by rw [Lib.cell_of_heap hb2]; rfl
 have d1 : w2.cell? ⟨b, 1, none⟩ = some v := by rw [Lib.cell_of_heap hb2]; rfl
 have f1 : w2.frozen? ⟨b, 1, none⟩ = false := Lib.frozen_of_heap hb2 1
 obtain ⟨g', cap, hsl⟩ : ∃ g cap, Value.slice A' (bs.length + m) c' = .slice (some ⟨g, 0, none⟩) (bs.length + m) cap := by
  rcases hown'.2 with ⟨_, h0⟩ | ⟨g, cap, cur, hv, _⟩
  ·omega
  ·exact ⟨g, cap, hv⟩
 rw [hsl] at hown' ⊢
 have hkg := keep_grown (x := .slice (some ⟨g', 0, none⟩) (bs.length + m) cap) hB1 hown (Below.refl _ _) hgrow
 have hsz : b < w2.heap.size := by have := hgrow.size; omega
 have hll : (bs ++ M.drop off).length = bs.length + m := by rw [List.length_append, List.length_drop]; omega
 go_wp2
 go_ret2
 refine ⟨rfl, ⟨by simpa using hsz, bs ++ M.drop off, hll, hby.append (hM8.drop off), .inr ?_⟩, hb1.trans hkg⟩
 exact Lib.BuilderAt.put (T := 216) (e := 5) hB hb2 (bs' := bs ++ M.drop off) (by rw [hll]; exact hown') (by decide)
set_option maxHeartbeats 1000000 in
set_option maxRecDepth 100000 in
theorem wlen_any (b n : Nat) (w : World) (h : WS b n w) : Calls Tryz.prog 201 #[.pointer (some ⟨b, 0, none⟩)] w fun e w' => e = .returned (.int .i64 (n : Int)) ∧ w' = w := by
 obtain ⟨hbl, bs, rfl, hby, hI⟩ := h
 obtain ⟨p, hB, v, hbk, hown, hne⟩ : ∃ p, Lib.BuilderAt 216 5 b b p bs w := by
  rcases hI with h | h
  ·exact ⟨_, h⟩
  ·exact ⟨_, h⟩
 have c1 : w.cell? ⟨b, 1, none⟩ = some v := by rw [Lib.cell_of_heap hbk]; rfl
 obtain ⟨A, m, c, hv, hm⟩ : ∃ A m c, v = .slice A m c ∧ m = bs.length := by
  rcases hown.2 with ⟨h1, h2⟩ | ⟨g, cap, cur, hv, _⟩
  ·exact ⟨none, 0, 0, h1, h2.symm⟩
  ·exact ⟨_, _, _, hv, rfl⟩
 subst hv hm
 clear hown hne hbk hI
 go_enter Tryz.func201, Tryz.ntmps201
 go_wp2
 go_ret
 exact ⟨rfl, rfl⟩
set_option maxHeartbeats 2000000 in
set_option maxRecDepth 100000 in
theorem wstr_any (b n : Nat) (w : World) (h : WS b n w) (hn : 0 < n) : Calls Tryz.prog 202 #[.pointer (some ⟨b, 0, none⟩)] w fun e w' => (∃ l : List UInt8, l.length = n ∧ e = .returned (.string ⟨l.toArray⟩)) ∧ Below b w w' := by
 obtain ⟨hbl, bs, hl, hby, hI⟩ := h
 obtain ⟨l, rfl⟩ := hby.bytes
 rw [bv_length] at hl
 subst hl
 obtain ⟨p, hB, v, hbk, hown, hne⟩ : ∃ p, Lib.BuilderAt 216 5 b b p (bv l) w := by
  rcases hI with h | h
  ·exact ⟨_, h⟩
  ·exact ⟨_, h⟩
 rw [bv_length] at hown
 obtain ⟨g, cap, cur, rfl, hbg, hg, hnc, hcm, hcs, htake⟩ : ∃ g cap cur, v = .slice (some ⟨g, 0, none⟩) l.length cap ∧ b ≤ g ∧ w.heap[g]? = some (.cells cur 5 (0, 0)) ∧ l.length ≤ cap ∧ cap ≤ maxLen ∧ cur.size = cap * 1 ∧ cur.toList.take (l.length * 1) = bv l := by
  rcases hown.2 with ⟨_, hz⟩ | ⟨g, cap, cur, hv, r⟩
  ·omega
  ·exact ⟨g, cap, cur, hv, r⟩
 have c1 : w.drew.cell? ⟨b, 1, none⟩ = some (.slice (some ⟨g, 0, none⟩) l.length cap) := by
  have : w.drew.heap[b]? = some (.cells #[p, .slice (some ⟨g, 0, none⟩) l.length cap] 216 (0, 0)) := hbk
  rw [Lib.cell_of_heap this]; rfl
 have hSD : (Builtin.unsafeSliceData_ #[62] 247 #[.slice (some ⟨g, 0, none⟩) l.length cap]).run Tryz.prog w.drew = .ok (.pointer (some ⟨g, 0, none⟩)) w.drew :=
  Lib.run_unsafeSliceData_row _ _ _ _ _ _ (by omega)
 have hUS : (Builtin.unsafeString_ #[247, 3] 9 #[.pointer (some ⟨g, 0, none⟩), .int .i64 l.length]).run Tryz.prog w.drew = .ok (.string ⟨l.toArray⟩) (w.drew.freeze ⟨g, 0, none⟩ l.length) := by
  refine Lib.run_unsafeString_row w.drew 247 3 9 5 Tryz.underlying247 (by kernel_rfl) g cur.size (by have hg' : w.drew.heap[g]? = some (.cells cur 5 (0, 0)) := hg; simp [World.shape?, hg']) l (fun e => by simp [e] at hn) (by omega) (by unfold maxLen at hcm; omega) ?_
  intro j x hx
  exact hown.cells (g := g) rfl j (.int .u8 x.toNat) (by simp [bv, hx])
 have mixed : Tryz.prog.follows Departure.mixedOrders = true := by kernel_rfl
 go_enter Tryz.func202, Tryz.ntmps202
 go_wp2
 go_region_o
 all_goals (go_wp2; go_ret; exact ⟨⟨l, rfl, rfl⟩, Lib.below_freeze (Below.drew (Below.refl b w)) (p := ⟨g, 0, none⟩) hbg _⟩)
end Go.Proofs.YtmbpnkacggngkaaGreatDoor
end
section
namespace Go.Proofs.YtmbpnkacggngkaaGreatDoor
open Go.RowKit Mem Led
def Clear (t : Txt) : Prop := ∀ c ∈ t, 32 ≤ c.toNat ∧ c.toNat ≠ 34 ∧ c.toNat ≠ 92
theorem index_str (t : Txt) (j : Nat) (h : j < t.length) (w : World) : (Instr.index 9 (.string (str t)) (.int .i64 (j : Int))).run Tryz.prog w = .ok (.int .u8 ((t[j].toNat : Nat) : Int)) w := by
 have hs := str_size t
 have h3 : (0 : Int) ≤ (j : Int) ∧ (j : Int) < ((str t).size : Int) := ⟨by omega, by rw [hs]; omega⟩
 refine (run_index_string _ _ _ _ _ Tryz.underlying9).trans ?_
 rw [dif_pos h3]
 have : (str t)[((j : Int)).toNat]'(by omega) = t[j] := by
  simp [str, ByteArray.getElem_eq_getElem_data]
 rw [this]
set_option maxRecDepth 100000 in
set_option maxHeartbeats 4000000 in
theorem wtext_any (b n : Nat) (t : Txt) (w : World) (h : WS b n w) (hn : n ≤ 900000) (hl : t.length ≤ 1000) (ht : Clear t) :
  Calls Tryz.prog 236 #[.pointer (some ⟨b, 0, none⟩), .string (str t)] w fun e w' => e = .returned (.tuple #[]) ∧ WS b (n + t.length + 2) w' ∧ KeepB b w w' := by
 have hs := str_size t
 have h0 := wbyte_any b n 34 w h (by omega)
 have HT := Lib.hid ht
 clear ht
 go_enter Tryz.func236, Tryz.ntmps236
 go_wp2_with fail
 refine h0.mono ?_
 rintro e w1 ⟨rfl, hw1, hk1⟩
 clear h0
 go_wp2_with fail
 go_loopw [4, 5, 12] (fun _ _ i wx => ∃ j : Nat, j ≤ t.length ∧ i = .int .i64 (j : Int) ∧ WS b (n + 1 + j) wx ∧ KeepB b w wx) (fun _ _ i _ => t.length - (intOf i).toNat)
 case atStart => exact ⟨0, by omega, rfl, hw1, hk1⟩
 case round =>
  clear hw1 hk1
  obtain ⟨j, hj, rfl, hw, hk⟩ := hrel
  obtain ⟨wx, hwx⟩ : ∃ wx, wx = wr := ⟨_, rfl⟩
  subst hwx
  by_cases hlt : j < t.length
  ·have hix := fun W => index_str t j hlt W
   obtain ⟨c1, c2, c3⟩ := HT.out _ (List.getElem_mem hlt)
   have c4 := t[j].toNat_lt
   generalize t[j].toNat = c at *
   have hb := wbyte_any b (n + 1 + j) (c : Int) wx hw (by omega)
   have d1 : decide ((c : Int) < 32) = false := by simp; omega
   have d2 : ((c : Int) == 34) = false := by simp; omega
   have d3 : ((c : Int) == 92) = false := by simp; omega
   have d4 : ¬ (c : Int) < 32 := by omega
   go_wp2_with fail
   refine hb.mono ?_
   rintro e w2 ⟨rfl, hw2, hk2⟩
   have hk3 := hk.trans hk2
   clear hb hix hw hk hk2
   go_wp2_with fail
   go_roundw
   case rel => exact ⟨j + 1, by omega, by go_num, hw2, hk3⟩
   case measure => simp [intOf]; omega
  ·have hje : j = t.length := by omega
   have hjge : (t.length : Int) ≤ (j : Int) := by omega
   have h2 := wbyte_any b (n + 1 + j) 34 wx hw (by omega)
   have HE := Lib.hid (show n + 1 + j + 1 = n + t.length + 2 by omega)
   clear hje
   go_wp2_with fail
   refine h2.mono ?_
   rintro e w2 ⟨rfl, hw2, hk2⟩
   go_wp2
   go_end0
   exact ⟨rfl, by rw [← HE.out]; exact hw2, hk.trans hk2⟩
theorem WS.set {b n g o : Nat} {w : World} {M : List Value} {e : TypeId} (h : WS b n w) (hB : Blk w g M e) (he : e ≠ 5) (hg : g ≠ b) (x : Value) : WS b n (w.setCell ⟨g, o, none⟩ x) := by
 obtain ⟨hlt, bs, hl, hby, hI⟩ := h
 refine ⟨by simpa using hlt, bs, hl, hby, ?_⟩
 have key : ∀ p, Lib.BuilderAt 216 5 b b p bs w → Lib.BuilderAt 216 5 b b p bs (w.setCell ⟨g, o, none⟩ x) := fun p ⟨h1, v, h2, h3, h4⟩ => ⟨h1, v, by rw [heap_setCell_other w ⟨g, o, none⟩ b x (fun e => hg e.symm)]; exact h2, own_at h3 (own_ne h3 hB (fun e => he e.symm)), h4⟩
 exact hI.imp (key _) (key _)
theorem ten_div {M k : Nat} (hk : k < 16) (h : M < 10 ^ (16 - k)) : M / 10 < 10 ^ (16 - (k + 1)) := by
 rw [Nat.div_lt_iff_lt_mul (by omega), ← Nat.pow_succ]
 rw [show (16 - (k + 1)).succ = 16 - k by omega]
 exact h
set_option maxRecDepth 100000 in
theorem sliceA16 (g at_ : Nat) (h : at_ ≤ 15) (W : World) : (Instr.sliceAt 272 (.pointer (some ⟨g, 0, none⟩)) (some (.int .i64 (at_ : Int))) none none).run Tryz.prog W = .ok (.slice (some ⟨g, at_, none⟩) (16 - at_) (16 - at_)) W := by
 have : at_ = 0 ∨ at_ = 1 ∨ at_ = 2 ∨ at_ = 3 ∨ at_ = 4 ∨ at_ = 5 ∨ at_ = 6 ∨ at_ = 7 ∨ at_ = 8 ∨ at_ = 9 ∨ at_ = 10 ∨ at_ = 11 ∨ at_ = 12 ∨ at_ = 13 ∨ at_ = 14 ∨ at_ = 15 := by omega
 rcases this with rfl | rfl | rfl | rfl | rfl | rfl | rfl | rfl | rfl | rfl | rfl | rfl | rfl | rfl | rfl | rfl <;> rfl
set_option maxRecDepth 100000 in
set_option maxHeartbeats 4000000 in
theorem wnum_any (b n m : Nat) (w : World) (h : WS b n w) (hn : n ≤ 900000) (hm : m < 10 ^ 16) :
  Calls Tryz.prog 235 #[.pointer (some ⟨b, 0, none⟩), .int .i64 (m : Int)] w fun e w' => e = .returned (.tuple #[]) ∧ ∃ n', n' ≤ n + 16 ∧ WS b n' w' ∧ KeepB b w w' := by
 have hm' : m < 10000000000000000 := hm
 have hbl := h.1
 have hneg : ¬ (m : Int) < 0 := by omega
 have BA := Blk.new w (bv (List.replicate 16 0)) 272
 have hbA : Below w.heap.size w (w.alloc (.cells (bv (List.replicate 16 0)).toArray 272)) := (Below.refl _ _).alloc (Nat.le_refl _) _
 obtain ⟨wA, hwA⟩ : ∃ wA, Hid (w.alloc (.cells #[.int .u8 0, .int .u8 0, .int .u8 0, .int .u8 0, .int .u8 0, .int .u8 0, .int .u8 0, .int .u8 0, .int .u8 0, .int .u8 0, .int .u8 0, .int .u8 0, .int .u8 0, .int .u8 0, .int .u8 0, .int .u8 0] 272) = wA) := ⟨_, Lib.hid rfl⟩
 have BA : Blk wA w.heap.size (bv (List.replicate 16 0)) 272 := by rw [← hwA.out]; exact BA
 have hbA : Below w.heap.size w wA := by rw [← hwA.out]; exact hbA
 have hWA := h.below hbA
 have hKA : KeepB b w wA := KeepB.of_below hbA (Nat.le_of_lt hbl)
 go_enter Tryz.func235, Tryz.ntmps235
 go_upto_region 4 with fail
 rw [hwA.out]
 go_wp2_with fail
 go_loopw [1, 5] (fun v i wx => ∃ (k M : Nat) (C : List Value), k ≤ 15 ∧ Hid (M < 10 ^ (16 - k)) ∧ (k = 0 ∨ 0 < M) ∧ M < 10000000000000000 ∧ v = .int .i64 (M : Int) ∧ i = .int .i64 (16 - (k : Int)) ∧ WS b n wx ∧ KeepB b w wx ∧ Blk wx w.heap.size C 272 ∧ C.length = 16 ∧ Hid (AllB C)) (fun _ i _ => (intOf i).toNat)
 case atStart => exact ⟨0, m, _, by omega, Lib.hid hm, .inl rfl, hm', rfl, rfl, hWA, hKA, BA, rfl, Lib.hid (AllB.of_bv _)⟩
 case round =>
  clear hWA hKA BA hbA
  obtain ⟨k, M, C, hk, HM, hkm, hM, rfl, rfl, hw, hK, hB, hC, HC⟩ := hrel
  obtain ⟨wx, hwx⟩ : ∃ wx, wx = wr := ⟨_, rfl⟩
  subst hwx
  obtain ⟨at_, hat⟩ : ∃ at_ : Nat, 15 - k = at_ := ⟨_, rfl⟩
  have e1 : (16 - (k : Int)) - 1 = (at_ : Int) := by omega
  have ha15 : at_ ≤ 15 := by omega
  obtain ⟨q, hq⟩ : ∃ q, M / 10 = q := ⟨_, rfl⟩
  have hqM : q < 10000000000000000 := by omega
  have hdv : Int.tdiv (M : Int) 10 = (q : Int) := by rw [← hq]; exact nat_tdiv M 10
  obtain ⟨r, hr⟩ : ∃ r, M % 10 = r := ⟨_, rfl⟩
  have hr10 : r < 10 := by omega
  have hmd : Int.tmod (M : Int) 10 = (r : Int) := by rw [← hr]; exact nat_tmod M 10
  have hdv2 : (M : Int) / 10 = (q : Int) := by omega
  have hmd2 : (M : Int) % 10 = (r : Int) := by omega
  obtain ⟨u0, hu0⟩ : ∃ u, C[at_]? = some u := ⟨_, List.getElem?_eq_getElem (by omega)⟩
  have hcl : wx.cell? ⟨w.heap.size, at_, none⟩ = some u0 := (hB.cell at_).trans hu0
  have hfz : wx.frozen? ⟨w.heap.size, at_, none⟩ = false := hB.froz _
  have hblt := hB.lt
  have HQ := Lib.hid (by rw [← hq]; exact ten_div (show k < 16 by omega) HM.out : q < 10 ^ (16 - (k + 1)))
  have hwr1 : IntKind.i64.wrap ((16 : Int) - (k : Int) - 1) = (at_ : Int) := by rw [IntKind.wrap_i64]; omega
  clear hu0 hq hr
  have hKs : KeepB b w (wx.setCell ⟨w.heap.size, at_, none⟩ (.int .u8 (48 + (r : Int)))) := ⟨hK.1.setCell (p := ⟨w.heap.size, at_, none⟩) (Nat.le_of_lt hbl) _, fun g M' e hB' he hg => (hK.2 g M' e hB' he hg).set_ne (p := ⟨w.heap.size, at_, none⟩) (by have := hB'.lt; simp; omega) _⟩
  have hWs : WS b n (wx.setCell ⟨w.heap.size, at_, none⟩ (.int .u8 (48 + (r : Int)))) := hw.set hB (by decide) (by omega) _
  have hBs := hB.set at_ (.int .u8 (48 + (r : Int)))
  have hCs : (C.set at_ (.int .u8 (48 + (r : Int)))).length = 16 := by rw [List.length_set]; exact hC
  have hCo : AllB (C.set at_ (.int .u8 (48 + (r : Int)))) := fun u hu => by
   rcases List.mem_or_eq_of_mem_set hu with h | h
   ·exact HC.out u h
   ·rw [h]; exact byte_of (by omega) (by omega)
  by_cases hq0 : q = 0
  ·subst hq0
   have HH := Lib.hid (show WS b n (wx.setCell ⟨w.heap.size, at_, none⟩ (.int .u8 (48 + (r : Int)))) ∧ Blk (wx.setCell ⟨w.heap.size, at_, none⟩ (.int .u8 (48 + (r : Int)))) w.heap.size (C.set at_ (.int .u8 (48 + (r : Int)))) 272 ∧ (C.set at_ (.int .u8 (48 + (r : Int)))).length = 16 ∧ AllB (C.set at_ (.int .u8 (48 + (r : Int)))) from ⟨hWs, hBs, hCs, hCo⟩)
   have hblt2 : w.heap.size < (wx.setCell ⟨w.heap.size, at_, none⟩ (.int .u8 (48 + (r : Int)))).heap.size := hBs.lt
   have hsl := fun W => sliceA16 w.heap.size at_ ha15 W
   have HKS := Lib.hid hKs
   clear hKs hWs hBs hCs hCo hw hK hB
   go_upto_region 9 with fail
   generalize wx.setCell ⟨w.heap.size, at_, none⟩ (.int .u8 (48 + (r : Int))) = wy at *
   refine Batch.wp_region_grew_tail 5 (by kernel_rfl) (by kernel_rfl) ?_
   simp only [List.take_succ_cons, List.take_zero, List.drop_succ_cons, List.drop_zero]
   repeat (go_big_quiet_step (fail))
   refine wpQuiet_nil ?_
   rintro _ ⟨p, rfl⟩
   have hbp := Batch.grew_below wy p
   have hKp : KeepB b wy (Batch.grew wy p) := KeepB.of_below hbp (by have := hblt2; omega)
   obtain ⟨hw1, hB1, hC1, hC2⟩ := HH.out
   have hwr := wbytes_any b n w.heap.size at_ (16 - at_) (16 - at_) _ _ _ (hw1.below hbp) (by omega) (by omega) (by omega) (hB1.below hbp) (by decide) (by omega) (by rw [hC1]; omega) hC2
   have hKF := HKS.out.trans hKp
   clear hsl HKS hbp hKp hw1 hB1 hC1 hC2 HH
   generalize Batch.grew wy p = wz at *
   go_wp2_with fail
   refine hwr.mono ?_
   rintro x w5 ⟨rfl, hw5, hk5⟩
   go_wp2
   (try rw [Batch.Qn_normal])
   (try go_wp2)
   go_end0
   exact ⟨rfl, n + (16 - at_), by omega, hw5, hKF.trans hk5⟩
  ·have hq1 : ((q : Int) == 0) = false := by simp; omega
   have HKS := Lib.hid hKs
   go_wp2_with fail
   go_roundw
   case rel => exact ⟨k + 1, q, _, by (have := HQ.out; rcases Nat.lt_or_ge k 15 with h | h; omega; (have h15 : k = 15 := by omega); subst h15; simp at this; omega), HQ, .inr (by omega), hqM, rfl, by rw [show (16 - ((k + 1 : Nat) : Int)) = (at_ : Int) by omega], hWs, HKS.out, hBs, hCs, Lib.hid hCo⟩
   case measure => simp [intOf]; omega
end Go.Proofs.YtmbpnkacggngkaaGreatDoor
end
