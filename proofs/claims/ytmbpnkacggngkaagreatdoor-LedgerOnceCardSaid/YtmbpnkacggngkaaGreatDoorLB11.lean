/- LedLives, LedInRow, MixC, LedCloneA, LedDid, LedApG, LedApN (put together by bundle.py: only what is needed). -/
import Derived.Test.YtmbpnkacggngkaaGreatDoorLB6
import Derived.Test.YtmbpnkacggngkaaGreatDoorLB7
import Derived.Test.YtmbpnkacggngkaaGreatDoorLB10
section
namespace Go.Proofs.YtmbpnkacggngkaaGreatDoor
open Go.RowKit Mem Led
def agentA : List UInt8 := [47, 97, 103, 101, 110, 116, 47, 97]
def C0 (cs : List Value) (_ : World) : Prop := cs = lgCells (.slice none 0 0)
def C1 (x : List UInt8) (cs : List Value) (w : World) : Prop := ∃ A c, cs = lgCells (.slice A 1 c) ∧ 1 ≤ c ∧ Ts w A 1 [x]
theorem C0.fit (cs : List Value) (w : World) (h : C0 cs w) : cs.length = 6 ∧ ∀ v ∈ cs, v.oneCell' = true := by
 rw [show cs = _ from h]
 exact ⟨rfl, lgCells_one _ _ _⟩
theorem C1.fit (x : List UInt8) (cs : List Value) (w : World) (h : C1 x cs w) : cs.length = 6 ∧ ∀ v ∈ cs, v.oneCell' = true := by
 obtain ⟨A, c, rfl, _, _⟩ := h
 exact ⟨rfl, lgCells_one _ _ _⟩
theorem C0.clone (cs : List Value) (W : World) (h : C0 cs W) : Calls Tryz.prog 27 #[.agg cs.toArray] W fun e w' => ∃ cs', e = .returned (.agg cs'.toArray) ∧ C0 cs' w' ∧ Below W.heap.size W w' := by
 rw [show cs = _ from h]
 exact (clone_nil W).mono fun e w' ⟨he, hb⟩ => ⟨_, he, rfl, hb⟩
theorem C1.clone (x : List UInt8) (cs : List Value) (W : World) (h : C1 x cs W) : Calls Tryz.prog 27 #[.agg cs.toArray] W fun e w' => ∃ cs', e = .returned (.agg cs'.toArray) ∧ C1 x cs' w' ∧ Below W.heap.size W w' := by
 obtain ⟨A, c, rfl, _, ht⟩ := h
 exact (clone_one A c x W ht).mono fun e w' ⟨A', c', he, g1, _, hown, hb⟩ => ⟨_, he, ⟨A', c', rfl, g1, Ts.of_own hown⟩, hb⟩
def opGone : List Value := opCells { noOp with kind := 2, n := 5 } (.slice none 0 0) (.slice none 0 0)
def opBan (x : List UInt8) : List Value := opCells { noOp with kind := 6, name := x } (.slice none 0 0) (.slice none 0 0)
theorem gone_apply (w : World) : Calls Tryz.prog 14 #[.agg (lgCells (.slice none 0 0)).toArray, .agg opGone.toArray] w fun e w' => ∃ cs' : List Value, e = .returned (.tuple #[.agg cs'.toArray, .int .i64 7]) ∧ (cs'.length = 6 ∧ ∀ v ∈ cs', v.oneCell' = true) ∧ Below w.heap.size w w' :=
 apply_err _ opGone 2 43 w 7 (by omega) C0 rfl C0.fit (fun _ _ _ h _ => h) ⟨rfl, rfl, rfl, rfl⟩ rfl C0.clone (enters_of Tryz.func43 (by kernel_rfl) rfl)
  (fun gl cs' W hc hb => by
   rw [show cs' = _ from hc] at hb
   exact goneEntry_nil gl opGone _ W hb)
theorem again_apply (cs : List Value) (x : List UInt8) (w : World) (h : C1 x cs w) (ha : Ids.agent x = true) (hl : x.length ≤ 1000) : Calls Tryz.prog 14 #[.agg cs.toArray, .agg (opBan x).toArray] w fun e w' => ∃ cs' : List Value, e = .returned (.tuple #[.agg cs'.toArray, .int .i64 8]) ∧ (cs'.length = 6 ∧ ∀ v ∈ cs', v.oneCell' = true) ∧ Below w.heap.size w w' :=
 apply_err cs (opBan x) 6 47 w 8 (by omega) (C1 x) h (C1.fit x) (fun _ _ _ ⟨A, c, e, g, t⟩ hb => ⟨A, c, e, g, t.below hb⟩) ⟨rfl, rfl, rfl, rfl⟩ rfl (C1.clone x) (enters_of Tryz.func47 (by kernel_rfl) rfl)
  (fun gl cs' W hc hb => by
   obtain ⟨A, c, rfl, _, ht⟩ := hc
   exact ban_again gl (opBan x) x A c W hb rfl ha hl ht)
theorem own_keep_chg {w w' : World} {base g : Nat} {e : TypeId} {size n : Nat} {v : Value} {xs : List Value} (h : w.ownsRow base e size v n xs) (hc : Chg [g] w w') (hg : g < base) : w'.ownsRow base e size v n xs := by
 refine ⟨h.1, ?_⟩
 rcases h.2 with h2 | ⟨b, cap, cur, hv, hb, hh, r⟩
 ·exact .inl h2
 ·exact .inr ⟨b, cap, cur, hv, hb, by rw [hc.block b (Array.getElem?_eq_some_iff.1 hh).1 (by simp; omega)]; exact hh, r⟩
def D1 (B : Nat) (x : List UInt8) (cs : List Value) (w : World) : Prop := ∃ A c, cs = lgCells (.slice A 1 c) ∧ 1 ≤ c ∧ w.ownsRow B 9 1 (.slice A 1 c) 1 (tv [x])
theorem ban_apply (x : List UInt8) (w : World) (ha : Ids.agent x = true) (hl : x.length ≤ 1000) : Calls Tryz.prog 14 #[.agg (lgCells (.slice none 0 0)).toArray, .agg (opBan x).toArray] w fun e w' => ∃ cs' : List Value, e = .returned (.tuple #[.agg cs'.toArray, .int .i64 0]) ∧ D1 (w.heap.size + 3) x cs' w' ∧ (cs'.length = 6 ∧ ∀ v ∈ cs', v.oneCell' = true) ∧ Below w.heap.size w w' :=
 apply_ok _ (opBan x) 6 47 w C0 rfl C0.fit (D1 (w.heap.size + 3) x)
  (fun cs w' w'' g hg ⟨A, c, e, g1, ho⟩ hc => ⟨A, c, e, g1, own_keep_chg ho hc (by simpa using hg)⟩)
  (fun _ _ _ h _ => h) ⟨rfl, rfl, rfl, rfl⟩ rfl C0.clone (enters_of Tryz.func47 (by kernel_rfl) rfl)
  (fun gl cs' W hz hc hb => by
   rw [show cs' = _ from hc] at hb
   refine (ban_nil gl (opBan x) x W hb rfl rfl ha hl).mono ?_
   rintro e w' ⟨he, A, c, g1, _, hB, hown, hch⟩
   exact ⟨he, _, hB, ⟨A, c, rfl, g1, own_base hown hz⟩, hch, rfl, lgCells_one _ _ _⟩)
theorem new_lg (w : World) (cs : List Value) (h : cs.length = 6 ∧ ∀ v ∈ cs, v.oneCell' = true) :
  ∃ wn, (storeLg (.pointer (some ⟨w.heap.size, 0, none⟩)) (.agg cs.toArray)).run Tryz.prog (w.alloc (.cells #[.slice none 0 0, .slice none 0 0, .slice none 0 0, .slice none 0 0, .slice none 0 0, .slice none 0 0] 30)) = .ok () wn ∧ Blk wn w.heap.size cs 30 ∧ Below w.heap.size w wn := by
 have bn := Blk.new w (lgCells (.slice none 0 0)) 30
 obtain ⟨hs1, B3⟩ := store_lg bn rfl h.1 h.2
 have hcn : Chg [] w ((w.alloc (.cells (lgCells (.slice none 0 0)).toArray 30)).setCells w.heap.size 0 cs) := ((Chg.refl _ _).alloc _).setCells _ (.inr (Nat.le_refl _))
 exact ⟨_, hs1, B3, hcn.below (fun _ h => by cases h)⟩
set_option maxRecDepth 100000 in
set_option maxHeartbeats 4000000 in
theorem lives_any (w : World) : Calls Tryz.prog 12 #[] w fun e w' => e = .returned (.bool true) ∧ Below w.heap.size w w' := by
 have ha : Ids.agent agentA = true := by decide +kernel
 have h1 := fun W => gone_apply W
 have h2 := fun W => ban_apply agentA W ha (by decide)
 have h3 := fun cs W h => again_apply cs agentA W h ha (by decide)
 obtain ⟨W0, hW0⟩ : ∃ W0, w.alloc (.cells (lgCells (.slice none 0 0)).toArray 30) = W0 := ⟨_, rfl⟩
 have b0 : Blk W0 w.heap.size (lgCells (.slice none 0 0)) 30 := by rw [← hW0]; exact Blk.new _ _ _
 have hb0 : Below w.heap.size w W0 := by rw [← hW0]; exact (Below.refl _ _).alloc (Nat.le_refl _) _
 have hz0 : W0.heap.size = w.heap.size + 1 := by rw [← hW0]; simp
 have hld0 := load_lg b0 rfl
 rw [← hW0] at hld0
 have HW0 := Lib.hid hW0
 clear hW0
 unfold lgCells at hld0 HW0
 go_enter Tryz.func12, Tryz.ntmps12
 go_wp2_with fail
 rw [HW0.out]
 refine (h1 W0).mono ?_
 rintro e w1 ⟨cs1, rfl, hf1, hb1⟩
 clear hld0 HW0
 have c0 := b0.below hb1
 have hbw1 : Below w.heap.size w w1 := hb0.trans (hb1.mono hb0.size)
 obtain ⟨w2, hs2, B2, hb2⟩ := new_lg w1 cs1 hf1
 have c2 := c0.below hb2
 have hbw2 : Below w.heap.size w w2 := hbw1.trans (hb2.mono hbw1.size)
 have hld2 := load_lg c2 rfl
 unfold lgCells at hld2
 clear c0 B2 hb0 b0 hb1
 go_wp2_with fail
 refine (h2 w2).mono ?_
 rintro e w3 ⟨cs3, rfl, ⟨A, c, rfl, g1, hown⟩, hf3, hb3⟩
 have hbw3 : Below w.heap.size w w3 := hbw2.trans (hb3.mono hbw2.size)
 obtain ⟨w4, hs4, B4, hb4⟩ := new_lg w3 _ hf3
 have hbw4 : Below w.heap.size w w4 := hbw3.trans (hb4.mono hbw3.size)
 have ht4 : Ts w4 A 1 [agentA] := (Ts.of_own hown).below hb4
 have hld4 := load_lg B4 rfl
 clear hs2 hld2 c2 hb2 hb3
 generalize hCS : (lgCells (.slice A 1 c)).toArray = CS at *
 have HCS := Lib.hid hCS
 clear hCS
 have h4 := h3 _ w4 ⟨A, c, rfl, g1, ht4⟩
 rw [HCS.out] at h4
 go_wp2_with fail
 refine h4.mono ?_
 rintro e w5 ⟨cs5, rfl, hf5, hb5⟩
 obtain ⟨w6, hs6, B6, hb6⟩ := new_lg w5 cs5 hf5
 have b4 := (B4.below hb5).below hb6
 have m4 : w6.cell? ⟨w3.heap.size, 2, none⟩ = some (.slice A 1 c) := b4.cell 2
 have hbw6 : Below w.heap.size w w6 := (hbw4.trans (hb5.mono hbw4.size)).trans (hb6.mono (Nat.le_trans hbw4.size hb5.size))
 clear hs4 hld4 HCS h4 B4 B6 b4
 go_wp2
 go_ret
 exact ⟨rfl, hbw6⟩
end Go.Proofs.YtmbpnkacggngkaaGreatDoor
end
section
namespace Go.Proofs.YtmbpnkacggngkaaGreatDoor
open Go.RowKit Mem Led
def InRow {α β : Type} (enc : α × Value → List Value) (k : Nat) (e ei : TypeId) (ki : Nat) (ienc : β → List Value) (sub : α → List β) (X : Value → Prop) (base : Nat) (v : Value) (E0 : List (α × Value)) (j : Nat) (wr : World) : Prop :=
 ∃ E' : List (α × Value), E'.map Prod.fst = E0.map Prod.fst ∧ wr.ownsRow base e k v E0.length (rows enc E') ∧
  (∀ i, i < j → ∀ p, E'[i]? = some p → wr.ownsRow base ei ki p.2 (sub p.1).length (rows ienc (sub p.1)) ∧ X p.2) ∧ (∀ i, j ≤ i → E'[i]? = E0[i]?)
section
variable {α β : Type} {enc : α × Value → List Value} {k : Nat} {e ei : TypeId} {ki : Nat} {ienc : β → List Value} {sub : α → List β} {X : Value → Prop} {base : Nat} {v : Value} {E0 : List (α × Value)} {j : Nat} {wr w' : World}
theorem InRow.start (h : wr.ownsRow base e k v E0.length (rows enc E0)) : InRow enc k e ei ki ienc sub X base v E0 0 wr :=
 ⟨E0, rfl, h, fun i hi => absurd hi (Nat.not_lt_zero i), fun _ _ => rfl⟩
theorem InRow.below (h : InRow enc k e ei ki ienc sub X base v E0 j wr) (hb : Below wr.heap.size wr w') : InRow enc k e ei ki ienc sub X base v E0 j w' := by
 obtain ⟨E', h1, h2, h3, h4⟩ := h
 exact ⟨E', h1, own_below h2 hb (Nat.le_refl _), fun i hi p hp => ⟨own_below (h3 i hi p hp).1 hb (Nat.le_refl _), (h3 i hi p hp).2⟩, h4⟩
theorem InRow.other (h : InRow enc k e ei ki ienc sub X base v E0 j wr) {g o : Nat} {u : Value} {M : List Value} {e' : TypeId} (hB : Blk wr g M e') (h1 : e ≠ e') (h2 : ei ≠ e') : InRow enc k e ei ki ienc sub X base v E0 j (wr.setCell ⟨g, o, none⟩ u) := by
 obtain ⟨E', g1, g2, g3, g4⟩ := h
 exact ⟨E', g1, own_at g2 (own_ne g2 hB h1), fun i hi p hp => ⟨own_at (g3 i hi p hp).1 (own_ne (g3 i hi p hp).1 hB h2), (g3 i hi p hp).2⟩, g4⟩
theorem InRow.step (hk : ∀ x, (enc x).length = k) {f : Nat} (hf : f < k) (hset : ∀ x u, enc (x.1, u) = (enc x).set f u) (hget : ∀ x, (enc x)[f]? = some x.2) (hee : ei ≠ e) (h : InRow enc k e ei ki ienc sub X base v E0 j wr) (hj : j < E0.length) :
  ∃ g c, v = .slice (some ⟨g, 0, none⟩) E0.length c ∧ base ≤ g ∧ g < wr.heap.size ∧ (∀ w', Below wr.heap.size wr w' → w'.cell? ⟨g, j * k + f, none⟩ = some E0[j].2 ∧ w'.frozen? ⟨g, j * k + f, none⟩ = false ∧ ∃ M, Blk w' g M e) ∧
   ∀ w' v9, Below wr.heap.size wr w' → w'.ownsRow base ei ki v9 (sub E0[j].1).length (rows ienc (sub E0[j].1)) → X v9 → InRow enc k e ei ki ienc sub X base v E0 (j + 1) (w'.setCell ⟨g, j * k + f, none⟩ v9) := by
 obtain ⟨E', h1, h2, h3, h4⟩ := h
 have hl : E'.length = E0.length := by have := congrArg List.length h1; simpa using this
 rcases own_cases h2 with ⟨_, h0, _⟩ | ⟨g, c, M, rfl, hbg, hgw, hB, hnc, hcm, hM, hMt⟩
 ·omega
 have hj' : j < E'.length := by omega
 have hEj : E'[j] = E0[j] := by
  have := h4 j (Nat.le_refl _)
  rw [List.getElem?_eq_getElem hj', List.getElem?_eq_getElem hj] at this
  exact Option.some.inj this
 have hr : RowAt enc k e g c E0.length wr E' := ⟨hl, M, hB, hM, hMt⟩
 refine ⟨g, c, rfl, hbg, hgw, fun w' hb => ?_, fun w' v9 hb ho hX => ?_⟩
 ·obtain ⟨q1, q2⟩ := (hr.below hb).cell hk hj' (u := E'[j].2) (hget _)
  rw [hEj] at q1
  exact ⟨q1, q2, M, hB.below hb⟩
 ·have hr' := (hr.below hb).turn hk (x' := (E'[j].1, v9)) (u := v9) hj' hf (hset _ _)
  obtain ⟨hl2, M2, hB2, hM2, hMt2⟩ := hr'
  have hBb := hB.below hb
  refine ⟨E'.set j (E'[j].1, v9), ?_, own_of_row hbg hB2 hnc hcm hM2 hMt2, ?_, ?_⟩
  ·rw [← h1, List.map_set]
   apply List.ext_getElem?
   intro i
   rw [List.getElem?_set]
   split
   ·rename_i hij
    subst hij
    simp [hj']
   ·rfl
  ·intro i hi p hp
   rw [List.getElem?_set] at hp
   split at hp
   ·rename_i hij
    subst hij
    simp only [Option.some.injEq] at hp
    subst hp
    rw [hEj]
    exact ⟨own_at ho (own_ne ho hBb hee), hX⟩
   ·rename_i hij
    obtain ⟨q1, q2⟩ := h3 i (by omega) p hp
    have q3 := own_below q1 hb (Nat.le_refl _)
    exact ⟨own_at q3 (own_ne q3 hBb hee), q2⟩
  ·intro i hi
   rw [List.getElem?_set, if_neg (by omega)]
   exact h4 i (by omega)
end
structure CS (w : World) (vE vN vB vJ vK vU : Value) (L : Led.Ledger) (wr : World) : Prop where
 oN : wr.ownsRow (w.heap.size + 2) 40 5 vN L.nodes.length (rows nodeRow L.nodes)
 oB : wr.ownsRow (w.heap.size + 2) 9 1 vB L.bans.length (rows strRow L.bans)
 oJ : wr.ownsRow (w.heap.size + 2) 38 4 vJ L.joins.length (rows joinRow L.joins)
 oK : wr.ownsRow (w.heap.size + 2) 42 4 vK L.keys.length (rows keyRow L.keys)
 b0 : Blk wr w.heap.size [vE, vN, vB, vJ, vK, vU] 30
 b1 : Blk wr (w.heap.size + 1) (lgCells (.slice none 0 0)) 30
 bel : Below w.heap.size w wr
theorem CS.step {w wr w' : World} {vE vN vB vJ vK vU u : Value} {L : Led.Ledger} (h : CS w vE vN vB vJ vK vU L wr) (hb : Below wr.heap.size wr w') {g o : Nat} {M : List Value} {e' : TypeId} (hg : w.heap.size + 2 ≤ g) (hB : Blk w' g M e') (he : e' = 36 ∨ e' = 45) :
  CS w vE vN vB vJ vK vU L (w'.setCell ⟨g, o, none⟩ u) := by
 have h1 := own_below h.oN hb (Nat.le_refl _)
 have h2 := own_below h.oB hb (Nat.le_refl _)
 have h3 := own_below h.oJ hb (Nat.le_refl _)
 have h4 := own_below h.oK hb (Nat.le_refl _)
 have n1 : (40 : TypeId) ≠ e' := by rcases he with rfl | rfl <;> decide
 have n2 : (9 : TypeId) ≠ e' := by rcases he with rfl | rfl <;> decide
 have n3 : (38 : TypeId) ≠ e' := by rcases he with rfl | rfl <;> decide
 have n4 : (42 : TypeId) ≠ e' := by rcases he with rfl | rfl <;> decide
 exact ⟨own_at h1 (own_ne h1 hB n1), own_at h2 (own_ne h2 hB n2), own_at h3 (own_ne h3 hB n3), own_at h4 (own_ne h4 hB n4), (h.b0.below hb).set_ne (p := ⟨g, o, none⟩) (by simp; omega) _, (h.b1.below hb).set_ne (p := ⟨g, o, none⟩) (by simp; omega) _,
  (h.bel.trans (hb.mono h.bel.size)).setCell (p := ⟨g, o, none⟩) (by simp; omega) _⟩
end Go.Proofs.YtmbpnkacggngkaaGreatDoor
end
section
namespace Go.Proofs.YtmbpnkacggngkaaGreatDoor
namespace Batch
open Go.RowKit
def calm2 : Op → Bool
 | .pick _ _ _ => true
 | .lookup _ _ _ _ => true
 | .unOp _ _ _ => true
 | .call c => match c.callee with
  | .builtin .len => true
  | _ => false
 | o => calm o
theorem calm2_value {P : Program} {o : Oper} (h : calm2 o.op = true) (ρ : Operand → Value) (w w' : World) (n : Next) (hr : (execOp ρ o).run P w = .ok n w') : ∃ u, n = .value u := by
 by_cases hv : calm o.op = true
 ·exact calm_value hv ρ w w' n hr
 ·obtain ⟨dst, op, type, pos, after, guard⟩ := o
  have key : ∀ (s : Sem Value), (do pure (Next.value (← s)) : Sem Next).run P w = .ok n w' → ∃ u, n = .value u := fun s hs => by
   rw [Sem.run_bind] at hs
   cases hq : s.run P w with
   | halt q w1 => rw [hq] at hs; cases hs
   | ok u w1 =>
    rw [hq] at hs
    simp only [Result.andThen_ok, Sem.run_pure, Result.ok.injEq] at hs
    exact ⟨u, hs.1.symm⟩
  cases op <;> first | (exfalso; simp [calm2, calm, valued] at h hv; done) | skip
  case neg.pick c x y =>
   unfold execOp at hr
   simp only [Sem.run_bind] at hr
   cases hq : (asBool (ρ c)).run P w with
   | halt q w1 => rw [hq] at hr; cases hr
   | ok u w1 =>
    rw [hq] at hr
    simp only [Result.andThen_ok, Sem.run_pure, Result.ok.injEq] at hr
    exact ⟨_, hr.1.symm⟩
  case neg.call c =>
   obtain ⟨callee, args, ats⟩ := c
   cases callee with
   | builtin b =>
    cases b <;> first | (exfalso; simp [calm2] at h; done) | skip
    simp [execOp, resolve, invoke] at hr
    exact key (Builtin.len_ ats type (args.map ρ)) hr
   | invoke r nme => exfalso; simp [calm2] at h
   | value g => exfalso; simp [calm2] at h
  all_goals exact key _ hr
section
variable {P : Program} {ops : Array Oper} {md : Region.Mode} {R : World → World → Prop} {w0 : World}
def calmAt2 (ops : Array Oper) (i : Nat) : Bool := match ops[i]? with | some o => calm2 o.op | none => false
theorem wpOp_calm2 {i : Nat} {a : Act} {K : Act → Prop} {K' : Act → World → Prop} {Q' : Exit → Act → World → Prop} {C : World → Prop} {w : World} (hc : calmAt2 ops i = true) (hC : C w) (h : ∀ a, K a → K' a w) (hh : qOp P ops C i K a) : wpOp P ops Q' i K' a w := by
 unfold qOp at hh
 unfold wpOp
 unfold calmAt2 at hc
 cases ho : ops[i]? with
 | none => rw [ho] at hc; cases hc
 | some o =>
  simp only [ho] at hh hc ⊢
  split
  ·rename_i hw
   simp only [hw, if_true] at hh
   refine .inl ?_
   obtain ⟨v, h1, h2⟩ := hh
   have h3 := h1 w hC
   unfold Oper.quietAt at h3
   unfold Oper.wp
   cases hr : (execOp a.eval o).run P w with
   | halt q w' => rw [hr] at h3; exact h3.elim
   | ok n w' =>
    obtain ⟨u, rfl⟩ := calm2_value hc a.eval w w' n hr
    rw [hr] at h3
    obtain ⟨rfl, rfl⟩ := h3
    exact h _ h2
  ·rename_i hw
   simp only [hw] at hh
   exact h _ hh
end
section
variable {P : Program} {ops : Array Oper} {md : Region.Mode} {R : World → World → Prop} {w0 : World}
def wpMixF (P : Program) (md : Region.Mode) (ops : Array Oper) (R : World → World → Prop) (w0 : World) (B : List Nat) (L : List Item) (Q : Array Bool → Act → (World → Prop) → Prop) : Nat → Array Bool → Act → (World → Prop) → Prop
 | 0, listed, a, F => Q listed a F
 | f + 1, listed, a, F => Region.ready md ops listed ≠ [] ∧ ∀ i ∈ Region.ready md ops listed,
   (i ∈ B ∧ qOp P ops (R w0) i (fun a' => wpMixF P md ops R w0 B L Q f (listed.setIfInBounds i true) a' F) a) ∨
   (∃ x ∈ L, x.1 = i ∧ ∃ o, ops[i]? = some o ∧ Region.wanted o (yielded ops a.tmps) = true ∧ (∀ w, R w0 w → F w → gives P R x.2 w ((execOp a.eval o).run P w)) ∧
    ∀ v, (∃ w, x.2 v w) → wpMixF P md ops R w0 B L Q f (listed.setIfInBounds i true) (a.put o.dst v) (fun w => F w ∧ x.2 v w))
theorem wpAny_of_mixM {B M : List Nat} {L : List Item} {base : Array Bool} {g : Nat} {Q : Array Bool → Act → (World → Prop) → Prop} {Q' : Exit → Act → World → Prop} (hR : Rely R) (hst : ∀ x ∈ L, Stable R x.2) (hBM : ∀ i ∈ B, i ∈ M) (hLM : ∀ x ∈ L, x.1 ∈ M) (hcalm : ∀ i ∈ B, calmAt2 ops i = true)
  (hQ : ∀ listed a F w, R w0 w → F w → Q listed a F → wpAny P md ops Q' g listed a w) :
  ∀ (f : Nat) (listed : Array Bool) (a : Act) (F : World → Prop) (w : World), Inv md ops M base listed → R w0 w → F w → (∀ w w', R w w' → F w → F w') →
   wpMixF P md ops R w0 B L Q f listed a F → wpAny P md ops Q' (f + g) listed a w := by
 intro f
 induction f with
 | zero =>
  intro listed a F w _ hw hF _ h
  rw [Nat.zero_add]
  exact hQ _ _ _ _ hw hF h
 | succ f ih =>
  intro listed a F w inv hw hF hFs h
  rw [show f + 1 + g = (f + g) + 1 by omega]
  refine ⟨fun h0 => absurd h0 h.1, fun i hi => ?_⟩
  rcases h.2 i hi with ⟨hiB, hq⟩ | ⟨x, hx, rfl, o, ho, hwa, hg, hk⟩
  ·exact wpOp_calm2 (C := R w0) (hcalm i hiB) hw (fun a' ha' => ih _ a' F w (inv.set (hBM i hiB) hi) hw hF hFs ha') hq
  ·have inv' := inv.set (hLM x hx) hi
   have step : ∀ v w', R w w' → x.2 v w' → wpAny P md ops Q' (f + g) (listed.setIfInBounds x.1 true) (a.put o.dst v) w' := fun v w' hww hTv =>
    ih _ _ _ w' inv' (hR.trans hw hww) ⟨hFs _ _ hww hF, hTv⟩ (fun w1 w2 h12 h1 => ⟨hFs _ _ h12 h1.1, hst x hx _ _ _ h12 h1.2⟩) (hk v ⟨w', hTv⟩)
   unfold wpOp
   simp only [ho]
   rw [if_pos hwa]
   refine .inl ?_
   have hgw := hg w hw hF
   unfold Oper.wp
   generalize (execOp a.eval o).run P w = r at *
   cases r with
   | ok m w' =>
    cases m <;> simp only [gives] at hgw <;> simp only [Oper.upon]
    case value u => exact step u w' hgw.1 hgw.2
    case skip => exact step undef w' hgw.1 hgw.2
    case enter f' args =>
     obtain ⟨rfl, hcall⟩ := hgw
     exact hcall.mono fun e w'' ⟨v, he, h1, h2⟩ => by subst he; exact step v w'' h1 h2
   | halt q w' => simp only [gives] at hgw
theorem wpMix_firstM {B M : List Nat} {L : List Item} {Q : Array Bool → Act → (World → Prop) → Prop} {base fin : Array Bool} {i : Nat} {oi : Oper} {v : Value} (hi : ops[i]? = some oi) (hsel : ∀ (j : Nat) (o : Oper) cs b, ops[j]? = some o → o.op ≠ .select cs b)
  (hc : closedB md ops base M = true) (hBM : ∀ i ∈ B, i ∈ M) (hiB : i ∈ B) (hfin : ∀ j ∈ M, fin.getD j true = true) (hQ : ∀ listed a F, Q listed a F → listed = fin) :
  ∀ (f : Nat) (listed : Array Bool) (a : Act) (F : World → Prop), Inv md ops M base listed →
   (∀ j oj, ops[j]? = some oj → j ≠ i → listed.getD j true = false → (∀ e ∈ oj.after, Region.binds md e = true → e.on ≠ i) → oi.apart ops oj = true) →
   i ∈ Region.ready md ops listed → YieldsIn P ops (R w0) oi v a →
   wpMixF P md ops R w0 B L Q f (listed.setIfInBounds i true) (a.put oi.dst v) F → wpMixF P md ops R w0 B L Q (f + 1) listed a F := by
 intro f
 induction f with
 | zero =>
  intro listed a F inv _ hr hy H
  have hun := (mem_ready.1 hr).1
  refine ⟨fun h => (by rw [h] at hr; cases hr), fun j hj => ?_⟩
  have hjB := inv.stays hc (hBM _ hiB) hun hj
  by_cases hji : j = i
  ·subst hji; exact .inl ⟨hiB, hy.qOp hi H⟩
  ·exfalso
   have h1 := ready_mono hj hji
   rw [hQ _ _ _ H] at h1
   have h2 := (mem_ready.1 h1).1
   rw [hfin j hjB] at h2
   cases h2
 | succ f ih =>
  intro listed a F inv hfree hr hy H
  have hun := (mem_ready.1 hr).1
  refine ⟨fun h => (by rw [h] at hr; cases hr), fun j hj => ?_⟩
  have hjB := inv.stays hc (hBM _ hiB) hun hj
  by_cases hji : j = i
  ·subst hji; exact .inl ⟨hiB, hy.qOp hi H⟩
  ·have h1 := H.2 j (ready_mono hj hji)
   obtain ⟨hjun, oj, hoj, hall⟩ := mem_ready.1 hj
   have hnot : ∀ e ∈ oj.after, Region.binds md e = true → e.on ≠ i := fun e he hb heq => by
    have h1 := hall e he hb
    rw [heq, getD_both hun] at h1
    cases h1
   have hap := hfree j oj hoj hji hjun hnot
   have hfree' : ∀ k ok, ops[k]? = some ok → k ≠ i → (listed.setIfInBounds j true).getD k true = false →
     (∀ e ∈ ok.after, Region.binds md e = true → e.on ≠ i) → oi.apart ops ok = true := fun k ok hk hki hun hno => by
    refine hfree k ok hk hki ?_ hno
    by_cases hjk : j = k
    ·subst hjk; exact hjun
    ·rw [getD_set_ne true hjk] at hun; exact hun
   rcases h1 with ⟨hjB', h1⟩ | ⟨x, hx, hxj, o, ho, hwa, hg, hk⟩
   ·refine .inl ⟨hjB', ?_⟩
    have h2 := qOp_put hoj hap (fun cs b => hsel i oi cs b hi) (fun cs b => hsel j oj cs b hoj) hy h1
    refine qOp_mono (fun a' h3 => ih (listed.setIfInBounds j true) a' F (inv.set hjB hj) hfree' (ready_mono hr (Ne.symm hji)) h3.1 ?_) h2
    rw [Array.setIfInBounds_comm _ _ hji]
    exact h3.2
   ·have : o = oj := Option.some.inj (ho.symm.trans hoj)
    subst this
    obtain ⟨g1, g2, g3⟩ := Oper.apart_spec hap
    refine .inr ⟨x, hx, hxj, o, ho, ?_, fun w hw hFw => ?_, fun u hu => ?_⟩
    ·rw [wanted_put o a oi.dst v g1] at hwa
     exact hwa
    ·have := hg w hw hFw
     rw [execOp_put o (fun cs b => hsel j o cs b ho) a oi.dst v g1] at this
     exact this
    ·refine ih (listed.setIfInBounds j true) (a.put o.dst u) _ (inv.set hjB hj) hfree' (ready_mono hr (Ne.symm hji)) (hy.of_same (execOp_put oi (fun cs b => hsel i oi cs b hi) a o.dst u g3) (wanted_put oi a o.dst u g3)) ?_
     rw [Array.setIfInBounds_comm _ _ hji, ← Act.put_comm a v u g2]
     exact hk u hu
def wpTurns (P : Program) (ops : Array Oper) (R : World → World → Prop) (w0 : World) (Q : Act → (World → Prop) → Prop) : List (List Nat × Item) → Act → (World → Prop) → Prop
 | [], a, F => Q a F
 | (r, x) :: rest, a, F => wpQuiet P ops (R w0) (fun a' => ∃ o, ops[x.1]? = some o ∧ Region.wanted o (yielded ops a'.tmps) = true ∧ (∀ w, R w0 w → F w → gives P R x.2 w ((execOp a'.eval o).run P w)) ∧
   ∀ v, (∃ w, x.2 v w) → wpTurns P ops R w0 Q rest (a'.put o.dst v) (fun w => F w ∧ x.2 v w)) (r.filterMap (ops[·]?)) a
def turnsB (md : Region.Mode) (ops : Array Oper) : List (List Nat × Nat) → Array Bool → Bool
 | [], _ => true
 | (r, k) :: T, listed => seqOK md ops r listed && decide (Region.ready md ops (lay listed r) = [k]) && turnsB md ops T ((lay listed r).setIfInBounds k true)
def layT : List (List Nat × Nat) → Array Bool → Array Bool
 | [], s => s
 | (r, k) :: T, s => layT T ((lay s r).setIfInBounds k true)
def sizeT : List (List Nat × Nat) → Nat
 | [] => 0
 | (r, _) :: T => r.length + (sizeT T + 1)
theorem wpMix_quiet {B M : List Nat} {L : List Item} {Q : Array Bool → Act → (World → Prop) → Prop} {base fin : Array Bool} {F : World → Prop} (hsel : ∀ (j : Nat) (o : Oper) cs b, ops[j]? = some o → o.op ≠ .select cs b)
  (hc : closedB md ops base M = true) (hBM : ∀ i ∈ B, i ∈ M) (hfin : ∀ j ∈ M, fin.getD j true = true) (hQ : ∀ listed a F, Q listed a F → listed = fin) (n : Nat) :
  ∀ (l : List Nat) (listed : Array Bool) (a : Act) (K : Act → Prop), (∀ i ∈ l, i ∈ B) → Inv md ops M base listed → seqOK md ops l listed = true →
   (∀ a', Inv md ops M base (lay listed l) → K a' → wpMixF P md ops R w0 B L Q n (lay listed l) a' F) → wpQuiet P ops (R w0) K (l.filterMap (ops[·]?)) a → wpMixF P md ops R w0 B L Q (l.length + n) listed a F
 | [], listed, a, K, _, inv, _, hK, h => by
  rw [List.length_nil, Nat.zero_add]
  exact hK a inv h
 | i :: l, listed, a, K, hl, inv, hsq, hK, h => by
  simp only [seqOK, Bool.and_eq_true] at hsq
  obtain ⟨⟨hr, hfr⟩, hB'⟩ := hsq
  have hr' : i ∈ Region.ready md ops listed := by simpa using hr
  obtain ⟨_, o, ho, _⟩ := mem_ready.1 hr'
  have hiB := hl i List.mem_cons_self
  have hstp : qOp P ops (R w0) i (wpQuiet P ops (R w0) K (l.filterMap (ops[·]?))) a := by
   unfold qOp
   simp only [ho]
   rw [List.filterMap_cons_some ho] at h
   exact h
  obtain ⟨v, hy, hK'⟩ := yieldsIn_of_qOp ho hstp
  have := wpMix_quiet hsel hc hBM hfin hQ n l (listed.setIfInBounds i true) _ K (fun k hk => hl k (List.mem_cons_of_mem _ hk)) (inv.set (hBM _ hiB) hr') hB' hK hK'
  rw [show (i :: l).length + n = (l.length + n) + 1 by simp only [List.length_cons]; omega]
  exact wpMix_firstM ho hsel hc hBM hiB hfin hQ _ listed a F inv (Region.free_spec ho hfr) hr' hy this
theorem wpMix_turns {B M : List Nat} {L0 : List Item} {Qf : Act → (World → Prop) → Prop} {base fin : Array Bool} (hsel : ∀ (j : Nat) (o : Oper) cs b, ops[j]? = some o → o.op ≠ .select cs b)
  (hc : closedB md ops base M = true) (hBM : ∀ i ∈ B, i ∈ M) (hLM : ∀ x ∈ L0, x.1 ∈ M) (hfin : ∀ j ∈ M, fin.getD j true = true) :
  ∀ (S : List (List Nat × Item)) (listed : Array Bool) (a : Act) (F : World → Prop), (∀ s ∈ S, (∀ i ∈ s.1, i ∈ B) ∧ s.2 ∈ L0) → Inv md ops M base listed → turnsB md ops (S.map fun s => (s.1, s.2.1)) listed = true → layT (S.map fun s => (s.1, s.2.1)) listed = fin →
  wpTurns P ops R w0 Qf S a F → wpMixF P md ops R w0 B L0 (fun listed' a' F' => listed' = fin ∧ Qf a' F') (sizeT (S.map fun s => (s.1, s.2.1))) listed a F
 | [], _, _, _, _, _, _, hf, h => ⟨hf, h⟩
 | (r, x) :: S, listed, a, F, hS, inv, hs, hf, h => by
  simp only [List.map_cons, turnsB, Bool.and_eq_true, decide_eq_true_eq] at hs
  have h0 := hS (r, x) List.mem_cons_self
  refine wpMix_quiet hsel hc hBM hfin (fun _ _ _ hq => hq.1) _ r listed a _ h0.1 inv hs.1.1 (fun a' inv' hK => ?_) h
  refine ⟨fun h1 => (by rw [hs.1.2] at h1; cases h1), fun i hi => ?_⟩
  have hi' := hi
  rw [hs.1.2] at hi
  have hix : i = x.1 := by simpa using hi
  subst hix
  obtain ⟨o, k1, k2, k3, k4⟩ := hK
  exact .inr ⟨x, h0.2, rfl, o, k1, k2, k3, fun v hv => wpMix_turns hsel hc hBM hLM hfin S _ _ _ (fun y hy => hS y (List.mem_cons_of_mem _ hy)) (inv'.set (hLM x h0.2) hi') hs.2 hf (k4 v hv)⟩
def orderT (S : List (List Nat × Nat)) : List Nat := S.flatMap fun s => s.1 ++ [s.2]
def turnB (md : Region.Mode) (ops : Array Oper) (base : Array Bool) (S : List (List Nat × Nat)) : Bool :=
 Region.noSelect ops && decide (base.size = ops.size) && closedB md ops base (orderT S) && (S.all fun s => s.1.all fun i => calmAt2 ops i) && turnsB md ops S base && (orderT S).all fun j => (layT S base).getD j true
theorem wpAny_turns {Q' : Exit → Act → World → Prop} {a : Act} {w : World} {base : Array Bool} {N fuel : Nat} (hR : Rely R) (hw0 : R w0 w) (S : List (List Nat × Item)) (hB : turnB md ops base (S.map fun s => (s.1, s.2.1)) = true) (hst : ∀ s ∈ S, Stable R s.2.2) (hN : N = sizeT (S.map fun s => (s.1, s.2.1)) + fuel)
  (h : wpTurns P ops R w0 (fun a' F => ∀ w', R w0 w' → F w' → wpAny P md ops Q' fuel (layT (S.map fun s => (s.1, s.2.1)) base) a' w') S a (fun _ => True)) : wpAny P md ops Q' N base a w := by
 simp only [turnB, Bool.and_eq_true, decide_eq_true_eq] at hB
 obtain ⟨⟨⟨⟨⟨hsel, hsz⟩, hc⟩, hcalm⟩, hts⟩, hfin⟩ := hB
 subst hN
 have hsel' := Region.noSelect_spec hsel
 have hbm : ∀ s ∈ S, (∀ i ∈ s.1, i ∈ orderT (S.map fun s => (s.1, s.2.1))) ∧ s.2.1 ∈ orderT (S.map fun s => (s.1, s.2.1)) := fun s hs =>
  ⟨fun i hi => List.mem_flatMap.2 ⟨(s.1, s.2.1), List.mem_map.2 ⟨s, hs, rfl⟩, List.mem_append_left _ hi⟩, List.mem_flatMap.2 ⟨(s.1, s.2.1), List.mem_map.2 ⟨s, hs, rfl⟩, List.mem_append_right _ (List.mem_singleton.2 rfl)⟩⟩
 have hcm : ∀ i ∈ S.flatMap (·.1), calmAt2 ops i = true := fun i hi => by
  obtain ⟨s, hs, hi⟩ := List.mem_flatMap.1 hi
  exact List.all_eq_true.1 (List.all_eq_true.1 hcalm (s.1, s.2.1) (List.mem_map.2 ⟨s, hs, rfl⟩)) i hi
 have hBM : ∀ i ∈ S.flatMap (·.1), i ∈ orderT (S.map fun s => (s.1, s.2.1)) := fun i hi => by
  obtain ⟨s, hs, hi⟩ := List.mem_flatMap.1 hi
  exact (hbm s hs).1 i hi
 have hLM : ∀ x ∈ S.map (·.2), x.1 ∈ orderT (S.map fun s => (s.1, s.2.1)) := fun x hx => by
  obtain ⟨s, hs, rfl⟩ := List.mem_map.1 hx
  exact (hbm s hs).2
 have hM := wpMix_turns (P := P) (R := R) (w0 := w0) (B := S.flatMap (·.1)) (L0 := S.map (·.2)) hsel' hc hBM hLM (fun j hj => List.all_eq_true.1 hfin j hj) S base a (fun _ => True) (fun s hs => ⟨fun i hi => List.mem_flatMap.2 ⟨s, hs, hi⟩, List.mem_map_of_mem hs⟩) (Inv.refl hsz) hts rfl h
 refine wpAny_of_mixM hR (fun x hx => ?_) hBM hLM hcm (fun listed a' F w' hw' hF hq => by obtain ⟨rfl, h2⟩ := hq; exact h2 w' hw' hF) _ base a _ w (Inv.refl hsz) hw0 trivial (fun _ _ _ h => h) hM
 obtain ⟨s, hs, rfl⟩ := List.mem_map.1 hx
 exact hst s hs
end
def wpItem (P : Program) (l : List Oper) (x : Item) (w : World) (K : Act → (World → Prop) → Prop) (F : World → Prop) (a : Act) : Prop :=
 ∃ o, l.toArray[x.1]? = some o ∧ Region.wanted o (yielded l.toArray a.tmps) = true ∧ (∀ w', GR w w' → F w' → gives P GR x.2 w' ((execOp a.eval o).run P w')) ∧ ∀ v, (∃ w, x.2 v w) → K (a.put o.dst v) (fun w => F w ∧ x.2 v w)
def wpTurnsR (P : Program) (l : List Oper) (w : World) (Q : Act → (World → Prop) → Prop) : List (List Nat × Item) → Act → (World → Prop) → Prop
 | [], a, F => Q a F
 | (r, x) :: rest, a, F => wpQuiet P l.toArray (fun w' => ∃ p : Grew, w' = grew w p) (wpItem P l x w (wpTurnsR P l w Q rest) F) (pick l r) a
theorem turnsR_cons {P : Program} {l : List Oper} {w : World} {Q : Act → (World → Prop) → Prop} {r : List Nat} {x : Item} {rest : List (List Nat × Item)} {a : Act} {F : World → Prop} (h : wpQuiet P l.toArray (fun w' => ∃ p : Grew, w' = grew w p) (wpItem P l x w (wpTurnsR P l w Q rest) F) (pick l r) a) : wpTurnsR P l w Q ((r, x) :: rest) a F := h
theorem wpQuiet_mono {P : Program} {ops : Array Oper} {C : World → Prop} {K K' : Act → Prop} (h : ∀ a, K a → K' a) : ∀ {L : List Oper} {a : Act}, wpQuiet P ops C K L a → wpQuiet P ops C K' L a
 | [], a, hh => h a hh
 | o :: L, a, hh => by
  unfold wpQuiet at hh ⊢
  split
  ·rename_i hw
   simp only [hw, if_true] at hh
   exact Oper.quiet_mono (fun a => wpQuiet_mono h) hh
  ·rename_i hw
   simp only [hw] at hh
   exact wpQuiet_mono h hh
theorem wpTurnsR_turns {P : Program} {l : List Oper} {w : World} {Q : Act → (World → Prop) → Prop} : ∀ (S : List (List Nat × Item)) (a : Act) (F : World → Prop), (S.all (fun s => s.1.all fun i => decide (i < l.length))) = true → wpTurnsR P l w Q S a F → wpTurns P l.toArray GR w Q S a F
 | [], _, _, _, h => h
 | (r, x) :: S, a, F, hS, h => by
  simp only [List.all_cons, Bool.and_eq_true] at hS
  unfold wpTurnsR at h
  rw [← pick_eq l r hS.1] at h
  exact wpQuiet_mono (fun a' ⟨o, k1, k2, k3, k4⟩ => ⟨o, k1, k2, k3, fun v hv => wpTurnsR_turns S _ _ hS.2 (k4 v hv)⟩) h
theorem wp_region_turns {P : Program} {id : Nat} {Q : Exit → Act → World → Prop} {a : Act} {w : World} {l : List Oper} (S : List (List Nat × Item)) (T : List Nat) (hm : P.follows .mixedOrders = true)
  (hB : (S.all (fun s => s.1.all fun i => decide (i < l.length)) && T.all (fun i => decide (i < l.length)) && turnB .any l.toArray (Array.replicate l.length false) (S.map fun s => (s.1, s.2.1)) && decide (sizeT (S.map fun s => (s.1, s.2.1)) + T.length = l.length) && seqL .any l.toArray T (layT (S.map fun s => (s.1, s.2.1)) (Array.replicate l.length false))) = true)
  (hst : ∀ s ∈ S, Stable GR s.2.2)
  (h : wpTurnsR P l w (fun a'' F => ∀ w', GR w w' → F w' → wpList P l.toArray Q (pick l T) a'' w') S a (fun _ => True)) : (Code.region id l.toArray true).wp P Q a w := by
 simp only [Bool.and_eq_true, decide_eq_true_eq] at hB
 obtain ⟨⟨⟨⟨g1, g2⟩, h1⟩, h2⟩, h3⟩ := hB
 rw [← pick_eq l T g2] at h
 refine wp_region_start hm (wpAny_turns (fuel := T.length) rely_gr (GR.of (Below.refl _ _).drew) S h1 hst (by omega) ?_)
 have h4 := wpTurnsR_turns S a (fun _ => True) g1 h
 have key : ∀ (L0 : List (List Nat × Item)) (a : Act) (F : World → Prop), wpTurns P l.toArray GR w (fun a'' F => ∀ w', GR w w' → F w' → wpList P l.toArray Q (T.filterMap (fun i => l.toArray[i]?)) a'' w') L0 a F →
   wpTurns P l.toArray GR w (fun a' F => ∀ w', GR w w' → F w' → wpAny P .any l.toArray Q T.length (layT (S.map fun s => (s.1, s.2.1)) (Array.replicate l.length false)) a' w') L0 a F := by
  intro L0
  induction L0 with
  | nil => intro a F h w' hw hF; exact wpAny_of_seqL T _ a w' h3 (h w' hw hF)
  | cons s L0 ih =>
   obtain ⟨r, x⟩ := s
   intro a F h
   exact wpQuiet_mono (fun a' ⟨o, k1, k2, k3, k4⟩ => ⟨o, k1, k2, k3, fun v hv => ih _ _ (k4 v hv)⟩) h
 exact key _ _ _ h4
end Batch
end Go.Proofs.YtmbpnkacggngkaaGreatDoor
end
section
namespace Go.Proofs.YtmbpnkacggngkaaGreatDoor
open Go.RowKit Mem Led
theorem own_setK : ∀ (vs : List Value) {w : World} {base n g k size : Nat} {v : Value} {e : TypeId} {xs : List Value}, w.ownsRow base e size v n xs → g < base → (w.setCells g k vs).ownsRow base e size v n xs
 | [], _, _, _, _, _, _, _, _, _, h, _ => h
 | u :: vs, _, _, _, _, _, _, _, _, _, h, hg => own_setK vs (ownsRow_setCell_below h hg u) hg
section
variable {base b : Nat} {w w' : World} {vE vN vB vJ vK vU : Value} {L : Led.Ledger} {E : List (Led.Entry × Value)} {U : List (Led.Bundle × Value)}
theorem Wk.lower (h : Wk base w vE vN vB vJ vK vU L E U) (hb : b ≤ base) : Wk b w vE vN vB vJ vK vU L E U :=
 ⟨own_base h.oE hb, own_base h.oN hb, own_base h.oB hb, own_base h.oJ hb, own_base h.oK hb, own_base h.oU hb, h.ents, h.buns, fun p hp => ⟨own_base (h.sels p hp).1 hb, (h.sels p hp).2⟩, fun p hp => own_base (h.keyss p hp) hb⟩
theorem Wk.setCells (h : Wk base w vE vN vB vJ vK vU L E U) {g k : Nat} (hg : g < base) (vs : List Value) : Wk base (w.setCells g k vs) vE vN vB vJ vK vU L E U :=
 ⟨own_setK vs h.oE hg, own_setK vs h.oN hg, own_setK vs h.oB hg, own_setK vs h.oJ hg, own_setK vs h.oK hg, own_setK vs h.oU hg, h.ents, h.buns, fun p hp => ⟨own_setK vs (h.sels p hp).1 hg, (h.sels p hp).2⟩, fun p hp => own_setK vs (h.keyss p hp) hg⟩
theorem Wk.setCell (h : Wk base w vE vN vB vJ vK vU L E U) {a : Addr} (hg : a.block < base) (v : Value) : Wk base (w.setCell a v) vE vN vB vJ vK vU L E U :=
 ⟨ownsRow_setCell_below h.oE hg v, ownsRow_setCell_below h.oN hg v, ownsRow_setCell_below h.oB hg v, ownsRow_setCell_below h.oJ hg v, ownsRow_setCell_below h.oK hg v, ownsRow_setCell_below h.oU hg v, h.ents, h.buns, fun p hp => ⟨ownsRow_setCell_below (h.sels p hp).1 hg v, (h.sels p hp).2⟩, fun p hp => ownsRow_setCell_below (h.keyss p hp) hg v⟩
end
theorem stable_own {b k n : Nat} {e : TypeId} {xs : List Value} : Batch.Stable Batch.GR fun v w => w.ownsRow b e k v n xs := Batch.stable_gr fun _ _ _ hb h => own_below h hb (Nat.le_refl _)
theorem gives_clone {P : Program} {F : FuncId} {args : Array Value} {w1 : World} {b k n : Nat} {e : TypeId} {xs : List Value} (hb : b ≤ w1.heap.size) (h : Calls P F args w1 (Cloned xs e k n w1)) :
  Calls P F args w1 (fun x w'' => ∃ v, x = .returned v ∧ Batch.GR w1 w'' ∧ w''.ownsRow b e k v n xs) :=
 h.mono fun _ _ ⟨v, h1, h2, h3⟩ => ⟨v, h1, Batch.GR.of h3, own_base h2 hb⟩
def Copy (L : Led.Ledger) (w : World) (x : Ending) (w' : World) : Prop :=
 ∃ vE vN vB vJ vK vU E U, x = .returned (.agg (#[vE, vN, vB, vJ, vK, vU] : Array Value)) ∧ Wk w.heap.size w' vE vN vB vJ vK vU L E U ∧ Below w.heap.size w w'
set_option maxRecDepth 100000 in
set_option maxHeartbeats 8000000 in
theorem cloneLg_any (cs : List Value) (L : Led.Ledger) (E : List (Led.Entry × Value)) (U : List (Led.Bundle × Value)) (w : World) (h : LgAt w cs L E U) (hs : L.Small) : Calls Tryz.prog 27 #[.agg cs.toArray] w (Copy L w) := by
 obtain ⟨⟨vE, vN, vB, vJ, vK, vU, rfl, ⟨AE, nE, cE, rfl, fE, rE⟩, ⟨AN, nN, cN, rfl, fN, rN⟩, ⟨AB, nB, cB, rfl, fB, rB⟩, ⟨AJ, nJ, cJ, rfl, fJ, rJ⟩, ⟨AK, nK, cK, rfl, fK, rK⟩, ⟨AU, nU, cU, rfl, fU, rU⟩⟩, hEs, hUs, hsel, hkey⟩ := h
 obtain ⟨W, hW⟩ : ∃ W, ((w.alloc (.cells ([.slice AE nE cE, .slice AN nN cN, .slice AB nB cB, .slice AJ nJ cJ, .slice AK nK cK, .slice AU nU cU] : List Value).toArray 30)).alloc (.cells (lgCells (.slice none 0 0)).toArray 30)) = W := ⟨_, rfl⟩
 have b0 : Blk W w.heap.size [.slice AE nE cE, .slice AN nN cN, .slice AB nB cB, .slice AJ nJ cJ, .slice AK nK cK, .slice AU nU cU] 30 := by rw [← hW]; exact (Blk.new _ _ _).alloc _
 have b1 : Blk W (w.heap.size + 1) (lgCells (.slice none 0 0)) 30 := by
  have := Blk.new (w.alloc (.cells ([.slice AE nE cE, .slice AN nN cN, .slice AB nB cB, .slice AJ nJ cJ, .slice AK nK cK, .slice AU nU cU] : List Value).toArray 30)) (lgCells (.slice none 0 0)) 30
  rw [← hW]
  simpa using this
 have hbW : Below w.heap.size w W := by rw [← hW]; exact ((Below.refl _ _).alloc (Nat.le_refl _) _).alloc (by simp) _
 have hzW : W.heap.size = w.heap.size + 2 := by rw [← hW]; simp
 have lE := rE.len entRow_len (by omega)
 have lN := rN.len nodeRow_len (by omega)
 have lB : L.bans.length = nB := by have := rB.len; simpa [tv] using this
 have lJ := rJ.len joinRow_len (by omega)
 have lK := rK.len keyRow_len (by omega)
 have lU := rU.len bunRow_len (by omega)
 have lE2 : E.length = L.entries.length := by rw [← hEs, List.length_map]
 have lU2 : U.length = L.bundles.length := by rw [← hUs, List.length_map]
 have kE := Lib.hid (fun wx (hx : Below w.heap.size w wx) => clnEnt_any AE nE cE _ wx (Es.below rE hx) (by have := hs.e; omega) fE.2.2 (one_ent hsel))
 have kN := Lib.hid (fun wx (hx : Below w.heap.size w wx) => clnNod_any AN nN cN _ wx (Es.below rN hx) (by have := hs.n; omega) fN.2.2 (one_node _))
 have kB := Lib.hid (fun wx (hx : Below w.heap.size w wx) => clnStr_any AB nB cB (rows strRow L.bans) wx (by rw [tv_rows]; exact Ts.below rB hx) (by have := hs.b; omega) fB.2.2 (one_str _))
 have kJ := Lib.hid (fun wx (hx : Below w.heap.size w wx) => clnJoi_any AJ nJ cJ _ wx (Es.below rJ hx) (by have := hs.j; omega) fJ.2.2 (one_join _))
 have kK := Lib.hid (fun wx (hx : Below w.heap.size w wx) => clnKey_any AK nK cK _ wx (Es.below rK hx) (by have := hs.k; omega) fK.2.2 (one_key _))
 have kU := Lib.hid (fun wx (hx : Below w.heap.size w wx) => clnBun_any AU nU cU _ wx (Es.below rU hx) (by have := hs.u; omega) fU.2.2 (one_bun hkey))
 have HBW := Lib.hid hbW
 have HW := Lib.hid hW
 clear hW rE rN rB rJ rK rU fE fN fB fJ fK fU
 go_enter Tryz.func27, Tryz.ntmps27
 go_upto_region 1 with fail
 rw [show ((w.alloc (.cells #[.slice AE nE cE, .slice AN nN cN, .slice AB nB cB, .slice AJ nJ cJ, .slice AK nK cK, .slice AU nU cU] 30)).alloc (.cells #[.slice none 0 0, .slice none 0 0, .slice none 0 0, .slice none 0 0, .slice none 0 0, .slice none 0 0] 30)) = W from HW.out]
 clear HW
 have f0 : ∀ p, (Batch.grew W p).cell? ⟨w.heap.size, 0, none⟩ = some (.slice AE nE cE) := fun p => (Batch.grew_cell (a := ⟨w.heap.size, 0, none⟩) b0.lt p).trans (b0.cell 0)
 have f1 : ∀ p, (Batch.grew W p).cell? ⟨w.heap.size, 1, none⟩ = some (.slice AN nN cN) := fun p => (Batch.grew_cell (a := ⟨w.heap.size, 1, none⟩) b0.lt p).trans (b0.cell 1)
 have f2 : ∀ p, (Batch.grew W p).cell? ⟨w.heap.size, 2, none⟩ = some (.slice AB nB cB) := fun p => (Batch.grew_cell (a := ⟨w.heap.size, 2, none⟩) b0.lt p).trans (b0.cell 2)
 refine Batch.wp_region_turns [([0, 1, 3, 4, 6, 7], (2, fun v w' => w'.ownsRow W.heap.size 36 5 v nE (rows entRow E))), ([9], (5, fun v w' => w'.ownsRow W.heap.size 40 5 v nN (rows nodeRow L.nodes))), ([], (8, fun v w' => w'.ownsRow W.heap.size 9 1 v nB (rows strRow L.bans)))] [10, 11, 12, 13, 14] (by kernel_rfl) (by kernel_rfl) (by
  intro x hx
  simp only [List.mem_cons, List.not_mem_nil, or_false] at hx
  rcases hx with rfl | rfl | rfl <;> exact stable_own) ?_
 refine Batch.turnsR_cons ?_
 simp only [Batch.pick, List.getD_cons_zero, List.getD_cons_succ]
 repeat (go_big_quiet_step (fail))
 refine wpQuiet_nil ?_
 refine ⟨_, rfl, rfl, ?_, ?_⟩
 ·intro w1 hw1 _
  go_simp
  exact ⟨rfl, gives_clone (by have := hw1.below.size; omega) (kE.out w1 (HBW.out.trans (hw1.below.mono HBW.out.size)))⟩
 intro v1 _
 refine Batch.turnsR_cons ?_
 simp only [Batch.pick, List.getD_cons_zero, List.getD_cons_succ, List.getElem_toArray, List.getElem_cons_succ, List.getElem_cons_zero, Act.put, List.setIfInBounds_toArray, List.set_cons_zero, List.set_cons_succ]
 repeat (go_big_quiet_step (fail))
 refine wpQuiet_nil ?_
 refine ⟨_, rfl, rfl, ?_, ?_⟩
 ·intro w1 hw1 _
  go_simp
  exact ⟨rfl, gives_clone (by have := hw1.below.size; omega) (kN.out w1 (HBW.out.trans (hw1.below.mono HBW.out.size)))⟩
 intro v2 _
 refine Batch.turnsR_cons ?_
 simp only [Batch.pick, List.getElem_toArray, List.getElem_cons_succ, List.getElem_cons_zero, Act.put, List.setIfInBounds_toArray, List.set_cons_zero, List.set_cons_succ]
 repeat (go_big_quiet_step (fail))
 refine wpQuiet_nil ?_
 refine ⟨_, rfl, rfl, ?_, ?_⟩
 ·intro w1 hw1 _
  go_simp
  exact ⟨rfl, gives_clone (by have := hw1.below.size; omega) (kB.out w1 (HBW.out.trans (hw1.below.mono HBW.out.size)))⟩
 intro v3 _ w1 hw1 hF
 obtain ⟨⟨⟨_, o1⟩, o2⟩, o3⟩ := hF
 have hb01 : Below w.heap.size w w1 := HBW.out.trans (hw1.below.mono HBW.out.size)
 have d0 := b0.below hw1.below
 have d1 := b1.below hw1.below
 have hz1 := hw1.below.size
 clear f0 f1 f2 kE kN kB b0 b1 hw1 hbW
 obtain ⟨A1, c1, rfl, _, _⟩ := own_form o1
 obtain ⟨A2, c2, rfl, _, _⟩ := own_form o2
 obtain ⟨A3, c3, rfl, _, _⟩ := own_form o3
 have x0 : w1.cell? ⟨w.heap.size, 0, none⟩ = some (.slice AE nE cE) := d0.cell 0
 have x1 : w1.cell? ⟨w.heap.size, 1, none⟩ = some (.slice AN nN cN) := d0.cell 1
 have x2 : w1.cell? ⟨w.heap.size, 2, none⟩ = some (.slice AB nB cB) := d0.cell 2
 have z0 : w1.frozen? ⟨w.heap.size, 0, none⟩ = false := d0.froz 0
 have z1 : w1.frozen? ⟨w.heap.size, 1, none⟩ = false := d0.froz 1
 have z2 : w1.frozen? ⟨w.heap.size, 2, none⟩ = false := d0.froz 2
 go_upto_region 2 with fail
 obtain ⟨w2, hw2⟩ : ∃ w2, ((w1.setCell ⟨w.heap.size, 0, none⟩ (.slice A1 nE c1)).setCell ⟨w.heap.size, 1, none⟩ (.slice A2 nN c2)).setCell ⟨w.heap.size, 2, none⟩ (.slice A3 nB c3) = w2 := ⟨_, rfl⟩
 have b0 : Blk w2 w.heap.size [.slice A1 nE c1, .slice A2 nN c2, .slice A3 nB c3, .slice AJ nJ cJ, .slice AK nK cK, .slice AU nU cU] 30 := by rw [← hw2]; exact ((d0.set 0 _).set 1 _).set 2 _
 have b1 : Blk w2 (w.heap.size + 1) (lgCells (.slice none 0 0)) 30 := by
  rw [← hw2]
  exact ((d1.set_ne (p := ⟨w.heap.size, 0, none⟩) (by simp) _).set_ne (p := ⟨w.heap.size, 1, none⟩) (by simp) _).set_ne (p := ⟨w.heap.size, 2, none⟩) (by simp) _
 have hs2 : ∀ {B n k : Nat} {v : Value} {e : TypeId} {xs : List Value}, w1.ownsRow B e k v n xs → w.heap.size + 2 ≤ B → w2.ownsRow B e k v n xs := fun h hB => by
  rw [← hw2]
  exact ownsRow_setCell_below (ownsRow_setCell_below (ownsRow_setCell_below h (a := ⟨w.heap.size, 0, none⟩) (by simp; omega) _) (a := ⟨w.heap.size, 1, none⟩) (by simp; omega) _) (a := ⟨w.heap.size, 2, none⟩) (by simp; omega) _
 have hbW : Below w.heap.size w w2 := by
  rw [← hw2]
  exact ((hb01.setCell (p := ⟨w.heap.size, 0, none⟩) (Nat.le_refl _) _).setCell (p := ⟨w.heap.size, 1, none⟩) (Nat.le_refl _) _).setCell (p := ⟨w.heap.size, 2, none⟩) (Nat.le_refl _) _
 have HBW := Lib.hid hbW
 rw [hzW] at o1 o2 o3
 have p1 := hs2 o1 (Nat.le_refl _)
 have p2 := hs2 o2 (Nat.le_refl _)
 have p3 := hs2 o3 (Nat.le_refl _)
 rw [hw2]
 clear hs2 hw2 x0 x1 x2 z0 z1 z2 o1 o2 o3 hb01 d0 d1
 have hz2 := b1.lt
 have f0 : ∀ p, (Batch.grew w2 p).cell? ⟨w.heap.size, 3, none⟩ = some (.slice AJ nJ cJ) := fun p => (Batch.grew_cell (a := ⟨w.heap.size, 3, none⟩) b0.lt p).trans (b0.cell 3)
 have f1 : ∀ p, (Batch.grew w2 p).cell? ⟨w.heap.size, 4, none⟩ = some (.slice AK nK cK) := fun p => (Batch.grew_cell (a := ⟨w.heap.size, 4, none⟩) b0.lt p).trans (b0.cell 4)
 have f2 : ∀ p, (Batch.grew w2 p).cell? ⟨w.heap.size, 5, none⟩ = some (.slice AU nU cU) := fun p => (Batch.grew_cell (a := ⟨w.heap.size, 5, none⟩) b0.lt p).trans (b0.cell 5)
 refine Batch.wp_region_turns [([0, 1, 3, 4, 6, 7], (2, fun v w' => w'.ownsRow (w.heap.size + 2) 38 4 v nJ (rows joinRow L.joins))), ([9], (5, fun v w' => w'.ownsRow (w.heap.size + 2) 42 4 v nK (rows keyRow L.keys))), ([], (8, fun v w' => w'.ownsRow (w.heap.size + 2) 45 3 v nU (rows bunRow U)))] [10, 11, 12, 13, 14] (by kernel_rfl) (by kernel_rfl) (by
  intro x hx
  simp only [List.mem_cons, List.not_mem_nil, or_false] at hx
  rcases hx with rfl | rfl | rfl <;> exact stable_own) ?_
 refine Batch.turnsR_cons ?_
 simp only [Batch.pick, List.getD_cons_zero, List.getD_cons_succ]
 repeat (go_big_quiet_step (fail))
 refine wpQuiet_nil ?_
 refine ⟨_, rfl, rfl, ?_, ?_⟩
 ·intro w1 hw1 _
  go_simp
  exact ⟨rfl, gives_clone (by have := hw1.below.size; omega) (kJ.out w1 (HBW.out.trans (hw1.below.mono HBW.out.size)))⟩
 intro v1 _
 refine Batch.turnsR_cons ?_
 simp only [Batch.pick, List.getD_cons_zero, List.getD_cons_succ, List.getElem_toArray, List.getElem_cons_succ, List.getElem_cons_zero, Act.put, List.setIfInBounds_toArray, List.set_cons_zero, List.set_cons_succ]
 repeat (go_big_quiet_step (fail))
 refine wpQuiet_nil ?_
 refine ⟨_, rfl, rfl, ?_, ?_⟩
 ·intro w1 hw1 _
  go_simp
  exact ⟨rfl, gives_clone (by have := hw1.below.size; omega) (kK.out w1 (HBW.out.trans (hw1.below.mono HBW.out.size)))⟩
 intro v2 _
 refine Batch.turnsR_cons ?_
 simp only [Batch.pick, List.getElem_toArray, List.getElem_cons_succ, List.getElem_cons_zero, Act.put, List.setIfInBounds_toArray, List.set_cons_zero, List.set_cons_succ]
 repeat (go_big_quiet_step (fail))
 refine wpQuiet_nil ?_
 refine ⟨_, rfl, rfl, ?_, ?_⟩
 ·intro w1 hw1 _
  go_simp
  exact ⟨rfl, gives_clone (by have := hw1.below.size; omega) (kU.out w1 (HBW.out.trans (hw1.below.mono HBW.out.size)))⟩
 intro v6 _ w3 hw1 hF
 obtain ⟨⟨⟨_, o1⟩, o2⟩, o3⟩ := hF
 have p1 := own_below p1 hw1.below (Nat.le_refl _)
 have p2 := own_below p2 hw1.below (Nat.le_refl _)
 have p3 := own_below p3 hw1.below (Nat.le_refl _)
 have hb01 : Below w.heap.size w w3 := HBW.out.trans (hw1.below.mono HBW.out.size)
 have d0 := b0.below hw1.below
 have d1 := b1.below hw1.below
 have hz1 := hw1.below.size
 clear f0 f1 f2 kJ kK kU b0 b1 hw1 hbW
 obtain ⟨A4, c4, rfl, _, _⟩ := own_form o1
 obtain ⟨A5, c5, rfl, _, _⟩ := own_form o2
 obtain ⟨A6, c6, rfl, _, _⟩ := own_form o3
 have x0 : w3.cell? ⟨w.heap.size, 3, none⟩ = some (.slice AJ nJ cJ) := d0.cell 3
 have x1 : w3.cell? ⟨w.heap.size, 4, none⟩ = some (.slice AK nK cK) := d0.cell 4
 have x2 : w3.cell? ⟨w.heap.size, 5, none⟩ = some (.slice AU nU cU) := d0.cell 5
 have z0 : w3.frozen? ⟨w.heap.size, 3, none⟩ = false := d0.froz 3
 have z1 : w3.frozen? ⟨w.heap.size, 4, none⟩ = false := d0.froz 4
 have z2 : w3.frozen? ⟨w.heap.size, 5, none⟩ = false := d0.froz 5
 go_upto_region 3 with fail
 obtain ⟨w4, hw4⟩ : ∃ w4, ((w3.setCell ⟨w.heap.size, 3, none⟩ (.slice A4 nJ c4)).setCell ⟨w.heap.size, 4, none⟩ (.slice A5 nK c5)).setCell ⟨w.heap.size, 5, none⟩ (.slice A6 nU c6) = w4 := ⟨_, rfl⟩
 have b0 : Blk w4 w.heap.size [.slice A1 nE c1, .slice A2 nN c2, .slice A3 nB c3, .slice A4 nJ c4, .slice A5 nK c5, .slice A6 nU c6] 30 := by rw [← hw4]; exact ((d0.set 3 _).set 4 _).set 5 _
 have b1 : Blk w4 (w.heap.size + 1) (lgCells (.slice none 0 0)) 30 := by
  rw [← hw4]
  exact ((d1.set_ne (p := ⟨w.heap.size, 3, none⟩) (by simp) _).set_ne (p := ⟨w.heap.size, 4, none⟩) (by simp) _).set_ne (p := ⟨w.heap.size, 5, none⟩) (by simp) _
 have hs2 : ∀ {B n k : Nat} {v : Value} {e : TypeId} {xs : List Value}, w3.ownsRow B e k v n xs → w.heap.size + 2 ≤ B → w4.ownsRow B e k v n xs := fun h hB => by
  rw [← hw4]
  exact ownsRow_setCell_below (ownsRow_setCell_below (ownsRow_setCell_below h (a := ⟨w.heap.size, 3, none⟩) (by simp; omega) _) (a := ⟨w.heap.size, 4, none⟩) (by simp; omega) _) (a := ⟨w.heap.size, 5, none⟩) (by simp; omega) _
 have hbW : Below w.heap.size w w4 := by
  rw [← hw4]
  exact ((hb01.setCell (p := ⟨w.heap.size, 3, none⟩) (Nat.le_refl _) _).setCell (p := ⟨w.heap.size, 4, none⟩) (Nat.le_refl _) _).setCell (p := ⟨w.heap.size, 5, none⟩) (Nat.le_refl _) _
 have HBW := Lib.hid hbW
 have p4 := hs2 o1 (Nat.le_refl _)
 have p5 := hs2 o2 (Nat.le_refl _)
 have p6 := hs2 o3 (Nat.le_refl _)
 have p1 := hs2 p1 (Nat.le_refl _)
 have p2 := hs2 p2 (Nat.le_refl _)
 have p3 := hs2 p3 (Nat.le_refl _)
 rw [hw4]
 clear hs2 hw4 x0 x1 x2 z0 z1 z2 o1 o2 o3 hb01 d0 d1
 have hC0 : CS w (.slice A1 nE c1) (.slice A2 nN c2) (.slice A3 nB c3) (.slice A4 nJ c4) (.slice A5 nK c5) (.slice A6 nU c6) L w4 := ⟨by rw [lN]; exact p2, by rw [lB]; exact p3, by rw [lJ]; exact p4, by rw [lK]; exact p5, b0, b1, hbW⟩
 have hI0 : InRow entRow 5 36 9 1 strRow Led.Entry.sels (fun u => Apart u (.slice A3 nB c3)) (w.heap.size + 2) (.slice A1 nE c1) E 0 w4 := InRow.start (by rw [lE]; exact p1)
 have hU0 : w4.ownsRow (w.heap.size + 2) 45 3 (.slice A6 nU c6) U.length (rows bunRow U) := by rw [lU]; exact p6
 have v0 : w4.cell? ⟨w.heap.size, 0, none⟩ = some (.slice A1 nE c1) := b0.cell 0
 clear p1 p2 p3 p4 p5 p6 hbW b0 b1 HBW
 go_wp2
 go_loopw [3, 32] (fun _ i wr => ∃ j : Nat, i = .int .i64 (j : Int) ∧ j ≤ nE ∧ Hid (CS w (.slice A1 nE c1) (.slice A2 nN c2) (.slice A3 nB c3) (.slice A4 nJ c4) (.slice A5 nK c5) (.slice A6 nU c6) L wr ∧ InRow entRow 5 36 9 1 strRow Led.Entry.sels (fun u => Apart u (.slice A3 nB c3)) (w.heap.size + 2) (.slice A1 nE c1) E j wr ∧ wr.ownsRow (w.heap.size + 2) 45 3 (.slice A6 nU c6) U.length (rows bunRow U))) (fun _ i _ => nE - (intOf i).toNat)
 case atStart => exact ⟨0, rfl, Nat.zero_le _, Lib.hid ⟨hC0, hI0, hU0⟩⟩
 case round =>
  obtain ⟨j, rfl, hj, hH⟩ := hrel
  obtain ⟨wy, hwy⟩ : ∃ wy, wy = wr := ⟨_, rfl⟩
  subst hwy
  by_cases hjn : j < nE
  ·have hjz : (j : Int) < (nE : Int) := by omega
   have hjE : j < E.length := by omega
   obtain ⟨g, c', hv, hbg, hgw, hcell, hstep⟩ := hH.out.2.1.step (fun x => entRow_len x) (f := 4) (by omega) (fun _ _ => rfl) (fun _ => rfl) (by decide) hjE
   injection hv with hv1 hv2 hv3
   subst hv1
   clear hv2 hv3
   obtain ⟨A7, n7, c7, hE7, hf7, ht7⟩ := hsel _ (List.getElem_mem hjE)
   have hl7 := ht7.len
   have hs7 : E[j].1.sels.length ≤ 1000 := hs.s _ (by rw [← hEs]; exact List.mem_map.2 ⟨_, List.getElem_mem hjE, rfl⟩)
   have hC := hH.out.1
   have hzy : w.heap.size + 2 ≤ wy.heap.size := by have := hC.b1.lt; omega
   have fa : ∀ p, (Batch.grew wy p).cell? ⟨w.heap.size, 0, none⟩ = some (.slice (some ⟨g, 0, none⟩) nE c1) := fun p => (Batch.grew_cell (a := ⟨w.heap.size, 0, none⟩) hC.b0.lt p).trans (hC.b0.cell 0)
   have fb : ∀ p, (Batch.grew wy p).cell? ⟨g, j * 5 + 4, none⟩ = some (.slice A7 n7 c7) := fun p => by rw [(hcell _ (Batch.grew_below wy p)).1, hE7]
   have k7 := Lib.hid (fun wx (hx : Below w.heap.size w wx) => clnStr_any A7 n7 c7 (rows strRow E[j].1.sels) wx (by rw [tv_rows]; exact Ts.below ht7 hx) (by omega) hf7.2.2 (one_str _))
   have HC := Lib.hid hC.bel
   have HST := Lib.hid hstep
   have HCL := Lib.hid hcell
   clear hcell hstep hC
   go_upto_region 6 with fail
   refine Batch.wp_region_turns [([0, 1, 2, 3, 4, 5, 6, 7, 8], (9, fun v w' => w'.ownsRow wy.heap.size 9 1 v n7 (rows strRow E[j].1.sels)))] [10, 11, 12] (by kernel_rfl) (by kernel_rfl) (by
    intro x hx
    simp only [List.mem_cons, List.not_mem_nil, or_false] at hx
    subst hx
    exact stable_own) ?_
   refine Batch.turnsR_cons ?_
   simp only [Batch.pick, List.getD_cons_zero, List.getD_cons_succ]
   repeat (go_big_quiet_step (fail))
   refine wpQuiet_nil ?_
   refine ⟨_, rfl, rfl, ?_, ?_⟩
   ·intro w1 hw1 _
    go_simp
    exact ⟨rfl, gives_clone (by have := hw1.below.size; omega) (k7.out w1 (HC.out.trans (hw1.below.mono HC.out.size)))⟩
   intro v7 _ w5 hw5 hF
   obtain ⟨_, o1⟩ := hF
   have hb5 := hw5.below
   obtain ⟨A8, c8, rfl, _, _⟩ := own_form o1
   obtain ⟨q1, q2, M, hM⟩ := HCL.out w5 hb5
   rw [hE7] at q1
   have hCS := Lib.hid (hH.out.1.step (u := .slice A8 n7 c8) (o := j * 5 + 4) hb5 hbg hM (.inl rfl))
   have hIR := Lib.hid (HST.out w5 (.slice A8 n7 c8) hb5 (own_base (by rw [← hl7] at o1 ⊢; exact o1) hzy) (by
    cases hq : (Value.slice A8 n7 c8).ownBlock with
    | none => exact .inl hq
    | some b =>
     refine .inr ?_
     rw [hq]
     intro e
     have h1 := (own_lt o1 hq).1
     have h2 := (own_lt hH.out.1.oB e.symm).2
     omega))
   have hUR := Lib.hid (own_at (a := ⟨g, j * 5 + 4, none⟩) (x := .slice A8 n7 c8) (own_below hH.out.2.2 hb5 (Nat.le_refl _)) (own_ne (own_below hH.out.2.2 hb5 (Nat.le_refl _)) hM (by decide)))
   clear hH fa fb k7 HCL HST hw5
   go_wp2_with fail
   (try rw [Batch.Qn_normal])
   (try go_wp2)
   go_roundw
   case rel => exact ⟨j + 1, by go_num, by omega, Lib.hid ⟨hCS.out, hIR.out, hUR.out⟩⟩
   case measure => simp [intOf]; omega
  ·obtain ⟨hC, hI, hU⟩ := hH.out
   have hje : j = nE := by omega
   have u5 : wy.cell? ⟨w.heap.size, 5, none⟩ = some (.slice A6 nU c6) := hC.b0.cell 5
   rw [hje] at hI
   have HI := Lib.hid hI
   have HCC := Lib.hid hC
   clear hH hI hC hC0 hI0 hU0 v0
   go_wp2
   go_loopw [4, 51] (fun _ i wr => ∃ k : Nat, i = .int .i64 (k : Int) ∧ k ≤ nU ∧ Hid (CS w (.slice A1 nE c1) (.slice A2 nN c2) (.slice A3 nB c3) (.slice A4 nJ c4) (.slice A5 nK c5) (.slice A6 nU c6) L wr ∧ InRow entRow 5 36 9 1 strRow Led.Entry.sels (fun u => Apart u (.slice A3 nB c3)) (w.heap.size + 2) (.slice A1 nE c1) E nE wr ∧ InRow bunRow 3 45 54 2 jwkRow Led.Bundle.keys (fun _ => True) (w.heap.size + 2) (.slice A6 nU c6) U k wr)) (fun _ i _ => nU - (intOf i).toNat)
   case atStart => exact ⟨0, rfl, Nat.zero_le _, Lib.hid ⟨HCC.out, HI.out, InRow.start hU⟩⟩
   case round =>
    obtain ⟨k, rfl, hk, hH⟩ := hrel
    obtain ⟨wx, hwx⟩ : ∃ wx, wx = wr := ⟨_, rfl⟩
    subst hwx
    by_cases hkn : k < nU
    ·have hkz : (k : Int) < (nU : Int) := by omega
     have hkU : k < U.length := by omega
     obtain ⟨g, c', hv, hbg, hgw, hcell, hstep⟩ := hH.out.2.2.step (fun x => bunRow_len x) (f := 2) (by omega) (fun _ _ => rfl) (fun _ => rfl) (by decide) hkU
     injection hv with hv1 hv2 hv3
     subst hv1
     clear hv2 hv3
     obtain ⟨A7, n7, c7, hE7, hf7, ht7⟩ := hkey _ (List.getElem_mem hkU)
     have hl7 := ht7.len jwkRow_len (by omega)
     have hs7 : U[k].1.keys.length ≤ 1000 := hs.y _ (by rw [← hUs]; exact List.mem_map.2 ⟨_, List.getElem_mem hkU, rfl⟩)
     have hC := hH.out.1
     have hzy : w.heap.size + 2 ≤ wx.heap.size := by have := hC.b1.lt; omega
     have fa : ∀ p, (Batch.grew wx p).cell? ⟨w.heap.size, 5, none⟩ = some (.slice (some ⟨g, 0, none⟩) nU c6) := fun p => (Batch.grew_cell (a := ⟨w.heap.size, 5, none⟩) hC.b0.lt p).trans (hC.b0.cell 5)
     have fb : ∀ p, (Batch.grew wx p).cell? ⟨g, k * 3 + 2, none⟩ = some (.slice A7 n7 c7) := fun p => by rw [(hcell _ (Batch.grew_below wx p)).1, hE7]
     have k7 := Lib.hid (fun wz (hz : Below w.heap.size w wz) => clnJwk_any A7 n7 c7 (rows jwkRow U[k].1.keys) wz (Es.below ht7 hz) (by omega) hf7.2.2 (one_jwk _))
     have HC := Lib.hid hC.bel
     have HST := Lib.hid hstep
     have HCL := Lib.hid hcell
     clear hcell hstep hC
     go_upto_region 11 with fail
     refine Batch.wp_region_turns [([0, 1, 2, 3, 4, 5, 6, 7, 8], (9, fun v w' => w'.ownsRow wx.heap.size 54 2 v n7 (rows jwkRow U[k].1.keys)))] [10, 11, 12] (by kernel_rfl) (by kernel_rfl) (by
      intro x hx
      simp only [List.mem_cons, List.not_mem_nil, or_false] at hx
      subst hx
      exact stable_own) ?_
     refine Batch.turnsR_cons ?_
     simp only [Batch.pick, List.getD_cons_zero, List.getD_cons_succ]
     repeat (go_big_quiet_step (fail))
     refine wpQuiet_nil ?_
     refine ⟨_, rfl, rfl, ?_, ?_⟩
     ·intro w1 hw1 _
      go_simp
      exact ⟨rfl, gives_clone (by have := hw1.below.size; omega) (k7.out w1 (HC.out.trans (hw1.below.mono HC.out.size)))⟩
     intro v7 _ w5 hw5 hF
     obtain ⟨_, o1⟩ := hF
     have hb5 := hw5.below
     obtain ⟨A8, c8, rfl, _, _⟩ := own_form o1
     obtain ⟨q1, q2, M, hM⟩ := HCL.out w5 hb5
     rw [hE7] at q1
     have hCS := Lib.hid (hH.out.1.step (u := .slice A8 n7 c8) (o := k * 3 + 2) hb5 hbg hM (.inr rfl))
     have hIR := Lib.hid (HST.out w5 (.slice A8 n7 c8) hb5 (own_base (by rw [← hl7] at o1 ⊢; exact o1) hzy) trivial)
     have hER := Lib.hid ((hH.out.2.1.below hb5).other (o := k * 3 + 2) (u := .slice A8 n7 c8) hM (by decide) (by decide))
     clear hH fa fb k7 HCL HST hw5
     go_wp2_with fail
     (try rw [Batch.Qn_normal])
     (try go_wp2)
     go_roundw
     case rel => exact ⟨k + 1, by go_num, by omega, Lib.hid ⟨hCS.out, hER.out, hIR.out⟩⟩
     case measure => simp [intOf]; omega
    ·obtain ⟨hC, ⟨E', hE1, hE2, hE3, hE4⟩, ⟨U', hU1, hU2, hU3, hU4⟩⟩ := hH.out
     have hlE' : E'.length = E.length := by have := congrArg List.length hE1; simpa using this
     have hlU' : U'.length = U.length := by have := congrArg List.length hU1; simpa using this
     have hwk : Wk (w.heap.size + 2) wx (.slice A1 nE c1) (.slice A2 nN c2) (.slice A3 nB c3) (.slice A4 nJ c4) (.slice A5 nK c5) (.slice A6 nU c6) L E' U' :=
      ⟨by rw [hlE']; exact hE2, hC.oN, hC.oB, hC.oJ, hC.oK, by rw [hlU']; exact hU2, hE1.trans hEs, hU1.trans hUs, fun p hp => by
       obtain ⟨i, hi, rfl⟩ := List.getElem_of_mem hp
       exact hE3 i (by omega) _ (List.getElem?_eq_getElem hi), fun p hp => by
       obtain ⟨i, hi, rfl⟩ := List.getElem_of_mem hp
       exact (hU3 i (by omega) _ (List.getElem?_eq_getElem hi)).1⟩
     have hld := load_lg hC.b0 rfl
     obtain ⟨hst, hSt⟩ := store_lg hC.b1 rfl (vs := [.slice A1 nE c1, .slice A2 nN c2, .slice A3 nB c3, .slice A4 nJ c4, .slice A5 nK c5, .slice A6 nU c6]) rfl hwk.ones
     obtain ⟨wf, hwf⟩ : ∃ wf, wx.setCells (w.heap.size + 1) 0 [.slice A1 nE c1, .slice A2 nN c2, .slice A3 nB c3, .slice A4 nJ c4, .slice A5 nK c5, .slice A6 nU c6] = wf := ⟨_, rfl⟩
     have hof : Wk (w.heap.size + 2) wf (.slice A1 nE c1) (.slice A2 nN c2) (.slice A3 nB c3) (.slice A4 nJ c4) (.slice A5 nK c5) (.slice A6 nU c6) L E' U' := by rw [← hwf]; exact hwk.setCells (by omega) _
     have hbf : Below w.heap.size w wf := by
      rw [← hwf]
      exact ((Chg.of_below (S := []) hC.bel).setCells _ (.inr (by omega))).below (by simp)
     rw [hwf] at hst hSt
     have hHh := hSt.has (n := 6) rfl
     have hA := hSt.arr (n := 6) rfl
     have HOF := Lib.hid (hof.lower (b := w.heap.size) (by omega))
     clear hH hwf hwk hE2 hE3 hE4 hU2 hU3 hU4 hof HI HCC hC
     go_wp2
     refine bodyPost_ret (results_arr (P := Tryz.prog) Tryz.results27 _ _ (w.heap.size + 1) 0 6 _ rfl Tryz.underlying30 rfl size_ledger hHh) rfl ?_
     exact ⟨_, _, _, _, _, _, E', U', congrArg (fun a => Ending.returned (Value.agg a)) hA, HOF.out, hbf⟩
end Go.Proofs.YtmbpnkacggngkaaGreatDoor
end
section
namespace Go.Proofs.YtmbpnkacggngkaaGreatDoor
open Go.RowKit Mem Led
structure LAt (base gl : Nat) (w : World) (vE vN vB vJ vK vU : Value) (L : Led.Ledger) (E : List (Led.Entry × Value)) (U : List (Led.Bundle × Value)) : Prop where
 wk : Wk base w vE vN vB vJ vK vU L E U
 blk : Blk w gl [vE, vN, vB, vJ, vK, vU] 30
 hgl : base ≤ gl
 hb : base ≤ w.heap.size
def Did (base gl : Nat) (r : Led.Ledger × Int) (w : World) (x : Ending) (w' : World) : Prop :=
 x = .returned (.int .i64 r.2) ∧ Below base w w' ∧ (r.2 = 0 → ∃ vE vN vB vJ vK vU E U, LAt base gl w' vE vN vB vJ vK vU r.1 E U)
theorem apart_new {w : World} {u v v' : Value} {b k n : Nat} {e : TypeId} {xs : List Value} (hap : Apart u v) (hu : w.ownsRow b e k u n xs) (hv : v'.ownBlock = v.ownBlock ∨ ∃ g, w.heap.size ≤ g ∧ v'.ownBlock = some g) : Apart u v' := by
 rcases hv with h | ⟨g, hg, h⟩
 ·unfold Apart at hap ⊢
  rw [h]
  exact hap
 ·cases hq : u.ownBlock with
  | none => exact .inl hq
  | some b =>
   refine .inr ?_
   rw [hq, h]
   intro e
   injection e with e
   have := (own_lt hu hq).2
   omega
section
variable {base gl : Nat} {w w' : World} {vE vN vB vJ vK vU : Value} {L : Led.Ledger} {E E2 : List (Led.Entry × Value)} {U U2 : List (Led.Bundle × Value)}
theorem LAt.slotE (H : LAt base gl w vE vN vB vJ vK vU L E U) {l : List Led.Entry} (hS : Slot entRow 5 36 base gl 0 vE E2 w w') (hl : E2.map Prod.fst = l) (hi : ∀ p ∈ E2, w.ownsRow base 9 1 p.2 p.1.sels.length (rows strRow p.1.sels) ∧ Apart p.2 vB) :
  ∃ v', LAt base gl w' v' vN vB vJ vK vU { L with entries := l } E2 U ∧ Below base w w' := by
 obtain ⟨h, hb, hg, hw⟩ := H
 have n0 := own_ne h.oE hb (by decide)
 obtain ⟨v', hB', ho, _, _⟩ := hS.opened hb n0
 have keep : ∀ {e : TypeId} {k n : Nat} {u : Value} {xs : List Value}, w.ownsRow base e k u n xs → e ≠ 36 → e ≠ 30 → w'.ownsRow base e k u n xs := fun hu h1 h2 => hS.keeps hu (own_apart hu h.oE h1) (own_ne hu hb h2)
 exact ⟨v', ⟨⟨ho, keep h.oN (by decide) (by decide), keep h.oB (by decide) (by decide), keep h.oJ (by decide) (by decide), keep h.oK (by decide) (by decide), keep h.oU (by decide) (by decide), hl, h.buns, fun p hp => ⟨keep (hi p hp).1 (by decide) (by decide), (hi p hp).2⟩, fun p hp => keep (h.keyss p hp) (by decide) (by decide)⟩, hB', hg, Nat.le_trans hw hS.size⟩, hS.below hg (fun g hg => (own_lt h.oE hg).1) hw⟩
theorem LAt.slotU (H : LAt base gl w vE vN vB vJ vK vU L E U) {l : List Led.Bundle} (hS : Slot bunRow 3 45 base gl 5 vU U2 w w') (hl : U2.map Prod.fst = l) (hi : ∀ p ∈ U2, w.ownsRow base 54 2 p.2 p.1.keys.length (rows jwkRow p.1.keys)) :
  ∃ v', LAt base gl w' vE vN vB vJ vK v' { L with bundles := l } E U2 ∧ Below base w w' := by
 obtain ⟨h, hb, hg, hw⟩ := H
 have n0 := own_ne h.oU hb (by decide)
 obtain ⟨v', hB', ho, _, _⟩ := hS.opened hb n0
 have keep : ∀ {e : TypeId} {k n : Nat} {u : Value} {xs : List Value}, w.ownsRow base e k u n xs → e ≠ 45 → e ≠ 30 → w'.ownsRow base e k u n xs := fun hu h1 h2 => hS.keeps hu (own_apart hu h.oU h1) (own_ne hu hb h2)
 exact ⟨v', ⟨⟨keep h.oE (by decide) (by decide), keep h.oN (by decide) (by decide), keep h.oB (by decide) (by decide), keep h.oJ (by decide) (by decide), keep h.oK (by decide) (by decide), ho, h.ents, hl, fun p hp => ⟨keep (h.sels p hp).1 (by decide) (by decide), (h.sels p hp).2⟩, fun p hp => keep (hi p hp) (by decide) (by decide)⟩, hB', hg, Nat.le_trans hw hS.size⟩, hS.below hg (fun g hg => (own_lt h.oU hg).1) hw⟩
theorem LAt.slotN (H : LAt base gl w vE vN vB vJ vK vU L E U) {l : List Led.Node} (hS : Slot nodeRow 5 40 base gl 1 vN l w w') :
  ∃ v', LAt base gl w' vE v' vB vJ vK vU { L with nodes := l } E U ∧ Below base w w' := by
 obtain ⟨h, hb, hg, hw⟩ := H
 have n0 := own_ne h.oN hb (by decide)
 obtain ⟨v', hB', ho, _, _⟩ := hS.opened hb n0
 have keep : ∀ {e : TypeId} {k n : Nat} {u : Value} {xs : List Value}, w.ownsRow base e k u n xs → e ≠ 40 → e ≠ 30 → w'.ownsRow base e k u n xs := fun hu h1 h2 => hS.keeps hu (own_apart hu h.oN h1) (own_ne hu hb h2)
 exact ⟨v', ⟨⟨keep h.oE (by decide) (by decide), ho, keep h.oB (by decide) (by decide), keep h.oJ (by decide) (by decide), keep h.oK (by decide) (by decide), keep h.oU (by decide) (by decide), h.ents, h.buns, fun p hp => ⟨keep (h.sels p hp).1 (by decide) (by decide), (h.sels p hp).2⟩, fun p hp => keep (h.keyss p hp) (by decide) (by decide)⟩, hB', hg, Nat.le_trans hw hS.size⟩, hS.below hg (fun g hg => (own_lt h.oN hg).1) hw⟩
theorem LAt.slotJ (H : LAt base gl w vE vN vB vJ vK vU L E U) {l : List Led.Join} (hS : Slot joinRow 4 38 base gl 3 vJ l w w') :
  ∃ v', LAt base gl w' vE vN vB v' vK vU { L with joins := l } E U ∧ Below base w w' := by
 obtain ⟨h, hb, hg, hw⟩ := H
 have n0 := own_ne h.oJ hb (by decide)
 obtain ⟨v', hB', ho, _, _⟩ := hS.opened hb n0
 have keep : ∀ {e : TypeId} {k n : Nat} {u : Value} {xs : List Value}, w.ownsRow base e k u n xs → e ≠ 38 → e ≠ 30 → w'.ownsRow base e k u n xs := fun hu h1 h2 => hS.keeps hu (own_apart hu h.oJ h1) (own_ne hu hb h2)
 exact ⟨v', ⟨⟨keep h.oE (by decide) (by decide), keep h.oN (by decide) (by decide), keep h.oB (by decide) (by decide), ho, keep h.oK (by decide) (by decide), keep h.oU (by decide) (by decide), h.ents, h.buns, fun p hp => ⟨keep (h.sels p hp).1 (by decide) (by decide), (h.sels p hp).2⟩, fun p hp => keep (h.keyss p hp) (by decide) (by decide)⟩, hB', hg, Nat.le_trans hw hS.size⟩, hS.below hg (fun g hg => (own_lt h.oJ hg).1) hw⟩
theorem LAt.slotK (H : LAt base gl w vE vN vB vJ vK vU L E U) {l : List Led.Key} (hS : Slot keyRow 4 42 base gl 4 vK l w w') :
  ∃ v', LAt base gl w' vE vN vB vJ v' vU { L with keys := l } E U ∧ Below base w w' := by
 obtain ⟨h, hb, hg, hw⟩ := H
 have n0 := own_ne h.oK hb (by decide)
 obtain ⟨v', hB', ho, _, _⟩ := hS.opened hb n0
 have keep : ∀ {e : TypeId} {k n : Nat} {u : Value} {xs : List Value}, w.ownsRow base e k u n xs → e ≠ 42 → e ≠ 30 → w'.ownsRow base e k u n xs := fun hu h1 h2 => hS.keeps hu (own_apart hu h.oK h1) (own_ne hu hb h2)
 exact ⟨v', ⟨⟨keep h.oE (by decide) (by decide), keep h.oN (by decide) (by decide), keep h.oB (by decide) (by decide), keep h.oJ (by decide) (by decide), ho, keep h.oU (by decide) (by decide), h.ents, h.buns, fun p hp => ⟨keep (h.sels p hp).1 (by decide) (by decide), (h.sels p hp).2⟩, fun p hp => keep (h.keyss p hp) (by decide) (by decide)⟩, hB', hg, Nat.le_trans hw hS.size⟩, hS.below hg (fun g hg => (own_lt h.oK hg).1) hw⟩
theorem LAt.slotB (H : LAt base gl w vE vN vB vJ vK vU L E U) {l : List Txt} (hS : Slot strRow 1 9 base gl 2 vB l w w') :
  ∃ v', LAt base gl w' vE vN v' vJ vK vU { L with bans := l } E U ∧ Below base w w' := by
 obtain ⟨h, hb, hg, hw⟩ := H
 have n0 := own_ne h.oB hb (by decide)
 obtain ⟨v', hB', ho, _, hv'⟩ := hS.opened hb n0
 have keep : ∀ {e : TypeId} {k n : Nat} {u : Value} {xs : List Value}, w.ownsRow base e k u n xs → e ≠ 9 → e ≠ 30 → w'.ownsRow base e k u n xs := fun hu h1 h2 => hS.keeps hu (own_apart hu h.oB h1) (own_ne hu hb h2)
 exact ⟨v', ⟨⟨keep h.oE (by decide) (by decide), keep h.oN (by decide) (by decide), ho, keep h.oJ (by decide) (by decide), keep h.oK (by decide) (by decide), keep h.oU (by decide) (by decide), h.ents, h.buns, fun p hp => ⟨hS.keeps (h.sels p hp).1 (h.sels p hp).2 (own_ne (h.sels p hp).1 hb (by decide)), apart_new (h.sels p hp).2 (h.sels p hp).1 hv'⟩, fun p hp => keep (h.keyss p hp) (by decide) (by decide)⟩, hB', hg, Nat.le_trans hw hS.size⟩, hS.below hg (fun g hg => (own_lt h.oB hg).1) hw⟩
theorem Did.err {k : Int} {x : Ending} (hb : base ≤ w.heap.size) (hk : k ≠ 0) (h : x = .returned (.int .i64 k) ∧ Below w.heap.size w w') : Did base gl (L, k) w x w' := ⟨h.1, h.2.mono hb, fun e => absurd e hk⟩
theorem Did.ok {L' : Led.Ledger} {vE vN vB vJ vK vU : Value} {E : List (Led.Entry × Value)} {U : List (Led.Bundle × Value)} (h : LAt base gl w' vE vN vB vJ vK vU L' E U) (hb : Below base w w') : Did base gl (L', 0) w (.returned (.int .i64 0)) w' := ⟨rfl, hb, fun _ => ⟨vE, vN, vB, vJ, vK, vU, E, U, h⟩⟩
end
structure Sized (o : Led.Op) : Prop where
 nm : o.name.length ≤ 9223372036854775807
 ep : o.entry.path.length ≤ 9223372036854775807
 er : o.entry.parent.length ≤ 9223372036854775807
 es : ∀ x ∈ o.entry.sels, x.length ≤ 9223372036854775807
 el : o.entry.sels.length ≤ 1000
 jt : o.join.text.length ≤ 9223372036854775807
 jn : o.join.name.length ≤ 9223372036854775807
 nn : o.node.name.length ≤ 9223372036854775807
 ud : o.bundle.domain.length ≤ 9223372036854775807
 ul : o.bundle.keys.length ≤ 1000
theorem Led.Ledger.Wf.small {L : Led.Ledger} (h : L.Wf) : L.Small := by
 have := h.e3; have := h.n3; have := h.b3; have := h.j3; have := h.k3; have := h.u3
 exact ⟨by omega, by omega, by omega, by omega, by omega, by omega, h.e4, h.u2⟩
section
variable {base gl : Nat} {w w' : World} {vE vN vB vJ vK vU sv kv : Value} {L : Led.Ledger} {E E2 : List (Led.Entry × Value)} {U U2 : List (Led.Bundle × Value)} {o : Led.Op}
theorem any_fst {α β : Type} {E : List (α × β)} {l : List α} (h : E.map Prod.fst = l) (p : α → Bool) : (E.any fun x => p x.1) = l.any p := by
 subst h
 rw [List.any_map]
 rfl
theorem erase_fst {α β : Type} {E : List (α × β)} {l : List α} (h : E.map Prod.fst = l) (p : α → Bool) : (E.eraseP fun x => p x.1).map Prod.fst = l.eraseP p := by
 subst h
 rw [List.eraseP_map]
 rfl
theorem ins_fst {α β : Type} {c : α → α → Int} {E : List (α × β)} {l : List α} (h : E.map Prod.fst = l) (x : α) (v : β) : (ins (fun a b : α × β => c a.1 b.1) (x, v) E).map Prod.fst = ins c x l := by
 subst h
 unfold ins
 rw [List.map_append, List.map_cons, List.filter_map, List.filter_map]
 rfl
theorem rises_fst {α β : Type} {c : α → α → Int} {E : List (α × β)} {l : List α} (h : E.map Prod.fst = l) (hr : Rises c l) : Rises (fun a b : α × β => c a.1 b.1) E := by
 subst h
 exact List.pairwise_map.1 hr
theorem did_gone (H : LAt base gl w vE vN vB vJ vK vU L E U) (hL : L.Wf) : Calls Tryz.prog 43 #[.pointer (some ⟨gl, 0, none⟩), .agg (opCells o sv kv).toArray] w (Did base gl (doGone L o.n) w) := by
 have hlen : E.length = L.entries.length := by rw [← H.wk.ents, List.length_map]
 have h3 := hL.e3
 refine (goneEntry_any gl _ _ o.n E base vE w (by omega) rfl H.blk rfl H.wk.oE (own_ne H.wk.oE H.blk (by decide)) (fun y hy => ?_)).mono ?_
 ·intro u hu
  exact one_ent (w := w) (E := E) (fun p hp => own_texts (H.wk.sels p hp).1) u (List.mem_flatten.2 ⟨entRow y, List.mem_map.2 ⟨y, hy, rfl⟩, hu⟩)
 intro x w' hq
 unfold Gone at hq
 rw [any_fst (l := L.entries) H.wk.ents (fun e => e.n == o.n)] at hq
 unfold doGone
 split at hq
 ·obtain ⟨rfl, hS⟩ := hq
  rename_i hc
  rw [if_pos hc]
  obtain ⟨v', h1, h2⟩ := H.slotE hS (erase_fst (l := L.entries) H.wk.ents (fun e => e.n == o.n)) (fun p hp => H.wk.sels p (erase_mem hp))
  exact Did.ok h1 h2
 ·rename_i hc
  rw [if_neg hc]
  exact Did.err H.hb (by decide) hq
theorem did_unbind (H : LAt base gl w vE vN vB vJ vK vU L E U) (hL : L.Wf) : Calls Tryz.prog 54 #[.pointer (some ⟨gl, 0, none⟩), .agg (opCells o sv kv).toArray] w (Did base gl (doUnbind L o.name) w) := by
 have hlen : U.length = L.bundles.length := by rw [← H.wk.buns, List.length_map]
 have h3 := hL.u3
 refine (unbind_any gl _ _ o.name U base vU w (by omega) rfl H.blk rfl H.wk.oU (own_ne H.wk.oU H.blk (by decide)) (fun y hy => ?_)).mono ?_
 ·intro u hu
  exact one_bun (w := w) (U := U) (fun p hp => own_elems (H.wk.keyss p hp)) u (List.mem_flatten.2 ⟨bunRow y, List.mem_map.2 ⟨y, hy, rfl⟩, hu⟩)
 intro x w' hq
 unfold Gone at hq
 rw [any_fst (l := L.bundles) H.wk.buns (fun e => e.domain == o.name)] at hq
 unfold doUnbind
 split at hq
 ·obtain ⟨rfl, hS⟩ := hq
  rename_i hc
  rw [if_pos hc]
  obtain ⟨v', h1, h2⟩ := H.slotU hS (erase_fst (l := L.bundles) H.wk.buns (fun e => e.domain == o.name)) (fun p hp => H.wk.keyss p (erase_mem hp))
  exact Did.ok h1 h2
 ·rename_i hc
  rw [if_neg hc]
  exact Did.err H.hb (by decide) hq
theorem did_lift (H : LAt base gl w vE vN vB vJ vK vU L E U) (hL : L.Wf) : Calls Tryz.prog 48 #[.pointer (some ⟨gl, 0, none⟩), .agg (opCells o sv kv).toArray] w (Did base gl (doLift L o.name) w) := by
 have h3 := hL.b3
 refine (lift_any gl _ _ o.name L.bans base vB w (by omega) rfl H.blk rfl H.wk.oB (own_ne H.wk.oB H.blk (by decide))).mono ?_
 intro x w' hq
 unfold Gone at hq
 unfold doLift
 split at hq
 ·obtain ⟨rfl, hS⟩ := hq
  rename_i hc
  rw [if_pos hc]
  obtain ⟨v', h1, h2⟩ := H.slotB hS
  exact Did.ok h1 h2
 ·rename_i hc
  rw [if_neg hc]
  exact Did.err H.hb (by decide) hq
theorem row_one {α : Type} {enc : α → List Value} {l : List α} (h : ∀ u ∈ rows enc l, u.oneCell' = true) : ∀ y ∈ l, ∀ u ∈ enc y, u.oneCell' = true := fun y hy u hu => h u (List.mem_flatten.2 ⟨enc y, List.mem_map.2 ⟨y, hy, rfl⟩, hu⟩)
theorem did_evict (H : LAt base gl w vE vN vB vJ vK vU L E U) (hL : L.Wf) : Calls Tryz.prog 49 #[.pointer (some ⟨gl, 0, none⟩), .agg (opCells o sv kv).toArray] w (Did base gl (doEvict L o.name) w) := by
 have h3 := hL.n3
 refine (evict_any gl _ _ o.name L.nodes base vN w (by omega) rfl H.blk rfl H.wk.oN (own_ne H.wk.oN H.blk (by decide)) (row_one (one_node _))).mono ?_
 intro x w' hq
 unfold Gone at hq
 unfold doEvict
 split at hq
 ·obtain ⟨rfl, hS⟩ := hq
  rename_i hc
  rw [if_pos hc]
  obtain ⟨v', h1, h2⟩ := H.slotN hS
  exact Did.ok h1 h2
 ·rename_i hc
  rw [if_neg hc]
  exact Did.err H.hb (by decide) hq
theorem did_drop (H : LAt base gl w vE vN vB vJ vK vU L E U) (hL : L.Wf) : Calls Tryz.prog 52 #[.pointer (some ⟨gl, 0, none⟩), .agg (opCells o sv kv).toArray] w (Did base gl (doDrop L o.name) w) := by
 have h3 := hL.k3
 refine (drop_any gl _ _ o.name L.keys base vK w (by omega) rfl H.blk rfl H.wk.oK (own_ne H.wk.oK H.blk (by decide)) (row_one (one_key _))).mono ?_
 intro x w' hq
 unfold Gone at hq
 unfold doDrop
 split at hq
 ·obtain ⟨rfl, hS⟩ := hq
  rename_i hc
  rw [if_pos hc]
  obtain ⟨v', h1, h2⟩ := H.slotK hS
  exact Did.ok h1 h2
 ·rename_i hc
  rw [if_neg hc]
  exact Did.err H.hb (by decide) hq
theorem node_did (H : LAt base gl w vE vN vB vJ vK vU L E U) {n : Led.Node} {x : Ending} (hq : NodePut base gl vN L.nodes L.bans n w x w') :
  x = .returned (.int .i64 (doNode L n).2) ∧ Below base w w' ∧ ((doNode L n).2 = 0 → ∃ v' l, (doNode L n).1 = { L with nodes := l } ∧ LAt base gl w' vE v' vB vJ vK vU { L with nodes := l } E U) := by
 unfold NodePut at hq
 unfold doNode
 split at hq
 ·rename_i h1
  rw [if_pos h1]
  split at hq
  ·rename_i h2
   rw [if_pos h2]
   exact ⟨hq.1, hq.2.mono H.hb, fun e => by cases e⟩
  ·rename_i h2
   rw [if_neg h2]
   unfold Puts at hq
   cases hp : put cN 4 n L.nodes with
   | none =>
    rw [hp] at hq
    exact ⟨hq.1, hq.2.mono H.hb, fun e => by cases e⟩
   | some l =>
    rw [hp] at hq
    obtain ⟨rfl, hS⟩ := hq
    obtain ⟨v', g1, g2⟩ := H.slotN hS
    exact ⟨rfl, g2, fun _ => ⟨v', l, rfl, g1⟩⟩
 ·rename_i h1
  rw [if_neg h1]
  exact ⟨hq.1, hq.2.mono H.hb, fun e => by cases e⟩
theorem did_node (H : LAt base gl w vE vN vB vJ vK vU L E U) (hL : L.Wf) (ho : Sized o) : Calls Tryz.prog 46 #[.pointer (some ⟨gl, 0, none⟩), .agg (opCells o sv kv).toArray] w (Did base gl (doNode L o.node) w) := by
 refine (putNode_any gl o sv kv _ L.nodes L.bans base vN vB w ho.nn hL.n3 hL.b3 hL.n1 H.hb H.blk rfl rfl H.wk.oN (own_ne H.wk.oN H.blk (by decide)) H.wk.oB).mono ?_
 intro x w' hq
 obtain ⟨h1, h2, h3⟩ := node_did H hq
 refine ⟨h1, h2, fun e => ?_⟩
 obtain ⟨v', l, e1, h4⟩ := h3 e
 rw [e1]
 exact ⟨_, _, _, _, _, _, _, _, h4⟩
theorem did_seq (H : LAt base gl w vE vN vB vJ vK vU L E U) (hL : L.Wf) : Calls Tryz.prog 55 #[.pointer (some ⟨gl, 0, none⟩), .agg (opCells o sv kv).toArray] w (Did base gl (doSeq L o.name o.n) w) := by
 have h3 := hL.n3
 refine (seq_any gl _ _ o.name o.n L.nodes base vN w (by omega) rfl rfl H.blk rfl H.wk.oN (own_ne H.wk.oN H.blk (by decide))).mono ?_
 intro x w' hq
 unfold SeqDone at hq
 unfold doSeq
 cases hf : L.nodes.find? (fun d => d.name == o.name) with
 | none =>
  rw [hf] at hq
  exact Did.err H.hb (by decide) hq
 | some d =>
  rw [hf] at hq
  simp only [] at hq ⊢
  split at hq
  ·rename_i hc
   rw [if_pos hc]
   exact Did.err H.hb (by decide) hq
  ·rename_i hc
   rw [if_neg hc]
   obtain ⟨rfl, hS⟩ := hq
   obtain ⟨v', h1, h2⟩ := H.slotN hS
   exact Did.ok h1 h2
theorem did_prepare (H : LAt base gl w vE vN vB vJ vK vU L E U) (hL : L.Wf) : Calls Tryz.prog 50 #[.pointer (some ⟨gl, 0, none⟩), .agg (opCells o sv kv).toArray] w (Did base gl (doPrepare L o.key) w) := by
 refine (prepare_any gl o sv kv _ L.keys base vK w hL.k3 H.hb H.blk rfl H.wk.oK (own_ne H.wk.oK H.blk (by decide))).mono ?_
 intro x w' hq
 unfold Prepared at hq
 unfold doPrepare
 split at hq
 ·rename_i hc
  rw [if_pos hc]
  exact Did.err H.hb (by decide) hq
 ·rename_i hc
  rw [if_neg hc]
  split at hq
  ·rename_i hc
   rw [if_pos hc]
   exact Did.err H.hb (by decide) hq
  ·rename_i hc
   rw [if_neg hc]
   split at hq
   ·rename_i hc
    rw [if_pos hc]
    exact Did.err H.hb (by decide) hq
   ·rename_i hc
    rw [if_neg hc]
    obtain ⟨rfl, hS⟩ := hq
    obtain ⟨v', h1, h2⟩ := H.slotK hS
    exact Did.ok h1 h2
theorem did_active (H : LAt base gl w vE vN vB vJ vK vU L E U) (hL : L.Wf) : Calls Tryz.prog 51 #[.pointer (some ⟨gl, 0, none⟩), .agg (opCells o sv kv).toArray] w (Did base gl (doActive L o.n) w) := by
 refine (activate_any gl o sv kv _ L.keys base vK w hL.k3 H.blk rfl H.wk.oK (own_ne H.wk.oK H.blk (by decide))).mono ?_
 intro x w' hq
 unfold Activated at hq
 unfold doActive
 split at hq
 ·rename_i hc
  rw [if_pos hc]
  split at hq
  ·rename_i hc
   rw [if_pos hc]
   obtain ⟨rfl, hS⟩ := hq
   obtain ⟨v', h1, h2⟩ := H.slotK hS
   exact Did.ok h1 h2
  ·rename_i hc
   rw [if_neg hc]
   exact Did.err H.hb (by decide) hq
 ·rename_i hc
  rw [if_neg hc]
  exact Did.err H.hb (by decide) hq
theorem did_token (H : LAt base gl w vE vN vB vJ vK vU L E U) (hL : L.Wf) (ho : Sized o) : Calls Tryz.prog 44 #[.pointer (some ⟨gl, 0, none⟩), .agg (opCells o sv kv).toArray] w (Did base gl (doToken L o.join) w) := by
 refine (putJoin_any gl o sv kv _ L.joins base vJ w ho.jt ho.jn hL.j3 H.hb H.blk rfl H.wk.oJ (own_ne H.wk.oJ H.blk (by decide))).mono ?_
 intro x w' hq
 unfold Tokened at hq
 unfold doToken
 split at hq
 ·rename_i hc
  rw [if_pos hc]
  exact Did.err H.hb (by decide) hq
 ·rename_i hc
  rw [if_neg hc]
  split at hq
  ·rename_i hc
   rw [if_pos hc]
   exact Did.err H.hb (by decide) hq
  ·rename_i hc
   rw [if_neg hc]
   split at hq
   ·rename_i hc
    rw [if_pos hc]
    exact Did.err H.hb (by decide) hq
   ·rename_i hc
    rw [if_neg hc]
    obtain ⟨rfl, hS⟩ := hq
    obtain ⟨v', h1, h2⟩ := H.slotJ hS
    exact Did.ok h1 h2
theorem did_ban (H : LAt base gl w vE vN vB vJ vK vU L E U) (hL : L.Wf) (ho : Sized o) : Calls Tryz.prog 47 #[.pointer (some ⟨gl, 0, none⟩), .agg (opCells o sv kv).toArray] w (Did base gl (doBan L o.name) w) := by
 refine (ban_any gl o sv kv _ L.nodes L.bans base vN vB w ho.nm hL.n3 hL.b3 hL.b1 H.hb H.blk rfl rfl H.wk.oN (own_ne H.wk.oN H.blk (by decide)) H.wk.oB (own_ne H.wk.oB H.blk (by decide)) (own_apart H.wk.oN H.wk.oB (by decide))).mono ?_
 intro x w' hq
 unfold Banned2 at hq
 unfold doBan
 split at hq
 ·rename_i hc
  rw [if_pos hc]
  split at hq
  ·rename_i hc
   rw [if_pos hc]
   exact Did.err H.hb (by decide) hq
  ·rename_i hc
   rw [if_neg hc]
   cases hp : put ord 8 o.name L.bans with
   | none =>
    rw [hp] at hq
    exact Did.err H.hb (by decide) hq
   | some l =>
    rw [hp] at hq
    obtain ⟨rfl, w1, x', hS, hg⟩ := hq
    obtain ⟨v', H1, hb1⟩ := H.slotB hS
    unfold Gone at hg
    split at hg
    ·obtain ⟨_, hS2⟩ := hg
     obtain ⟨v2, H2, hb2⟩ := H1.slotN hS2
     exact Did.ok H2 (hb1.trans hb2)
    ·rename_i hn
     have hb2 := hg.2
     have he : L.nodes.eraseP (fun n => n.name == o.name) = L.nodes := List.eraseP_of_forall_not (fun a ha => by
      intro h
      exact hn (List.any_eq_true.2 ⟨a, ha, h⟩))
     rw [he]
     refine Did.ok (vE := vE) (vN := vN) (vB := v') (vJ := vJ) (vK := vK) (vU := vU) (E := E) (U := U) ⟨H1.wk.below hb2, H1.blk.below hb2, H1.hgl, Nat.le_trans H1.hb hb2.size⟩ (hb1.trans (hb2.mono H1.hb))
 ·rename_i hc
  rw [if_neg hc]
  exact Did.err H.hb (by decide) hq
theorem did_join (H : LAt base gl w vE vN vB vJ vK vU L E U) (hL : L.Wf) (ho : Sized o) : Calls Tryz.prog 45 #[.pointer (some ⟨gl, 0, none⟩), .agg (opCells o sv kv).toArray] w (Did base gl (doJoin L o.name o.node) w) := by
 refine (useJoin_any gl o sv kv _ L.nodes L.bans L.joins base vN vB vJ w ho.nn hL.n3 hL.b3 hL.j3 hL.n1 H.hb H.blk rfl rfl rfl H.wk.oN (own_ne H.wk.oN H.blk (by decide)) H.wk.oB H.wk.oJ (own_ne H.wk.oJ H.blk (by decide)) (own_apart H.wk.oJ H.wk.oN (by decide))).mono ?_
 intro x w' hq
 unfold Joined at hq
 unfold doJoin
 cases hf : L.joins.find? (fun j => j.text == o.name) with
 | none =>
  rw [hf] at hq
  exact Did.err H.hb (by decide) hq
 | some j =>
  rw [hf] at hq
  simp only [] at hq ⊢
  split at hq
  ·rename_i hc
   rw [if_pos hc]
   exact Did.err H.hb (by decide) hq
  ·rename_i hc
   rw [if_neg hc]
   split at hq
   ·rename_i hc
    rw [if_pos hc]
    rcases hq with ⟨rfl, w1, hN, hS⟩ | ⟨hx, hN⟩
    ·obtain ⟨h1, h2, h3⟩ := node_did H hN
     have hz : (doNode L o.node).2 = 0 := by injection h1 with h1; injection h1 with _ h1; exact h1.symm
     obtain ⟨v', l, e1, H1⟩ := h3 hz
     obtain ⟨v2, H2, hb2⟩ := H1.slotJ hS
     rw [hz, e1]
     exact Did.ok H2 (h2.trans hb2)
    ·obtain ⟨h1, h2, h3⟩ := node_did H hN
     have hz : (doNode L o.node).2 ≠ 0 := fun e => hx (by rw [h1, e])
     have hz2 : ((doNode L o.node).2 == 0) = false := by simpa using hz
     simp only [hz2]
     exact ⟨h1, h2, fun e => absurd e hz⟩
   ·rename_i hc
    rw [if_neg hc]
    exact Did.err H.hb (by decide) hq
theorem did_entry (H : LAt base gl w vE vN vB vJ vK vU L E U) (hL : L.Wf) (ho : Sized o) (hsv : w.ownsRow base 9 1 sv o.entry.sels.length (rows strRow o.entry.sels)) (hap : Apart sv vB) : Calls Tryz.prog 42 #[.pointer (some ⟨gl, 0, none⟩), .agg (opCells o sv kv).toArray] w (Did base gl (doEntry L o.entry) w) := by
 have hlen : E.length = L.entries.length := by rw [← H.wk.ents, List.length_map]
 have h3 := hL.e3
 refine (putEntry_any gl o sv kv _ E base vE w (own_texts hsv) ho.el ho.es ho.ep ho.er (by omega) (rises_fst H.wk.ents hL.e1) (fun p hp => may_n (hL.e2 _ (by rw [← H.wk.ents]; exact List.mem_map.2 ⟨p, hp, rfl⟩))) (fun p hp => ?_) H.hb H.blk rfl H.wk.oE (own_ne H.wk.oE H.blk (by decide))).mono ?_
 ·obtain ⟨A, c, h, _⟩ := own_form (H.wk.sels p hp).1
  rw [h]
  rfl
 intro x w' hq
 unfold EntryPut at hq
 unfold doEntry
 split at hq
 ·rename_i hc
  rw [if_pos hc]
  have hi : (ins cEp (o.entry, sv) E).map Prod.fst = ins cE o.entry L.entries := ins_fst H.wk.ents o.entry sv
  have hil : (ins cEp (o.entry, sv) E).length = (ins cE o.entry L.entries).length := by rw [← hi, List.length_map]
  unfold Puts put at hq
  unfold put
  rw [hil] at hq
  split at hq
  ·rename_i l hl
   split at hl
   ·rename_i hle
    injection hl with hl
    subst hl
    rw [if_pos hle]
    obtain ⟨rfl, hS⟩ := hq
    obtain ⟨v', h1, h2⟩ := H.slotE hS hi (fun p hp => by
     rcases ins_mem hp with rfl | hp
     ·exact ⟨hsv, hap⟩
     ·exact H.wk.sels p hp)
    exact Did.ok h1 h2
   ·cases hl
  ·rename_i hl
   split at hl
   ·cases hl
   ·rename_i hle
    rw [if_neg hle]
    exact Did.err H.hb (by decide) hq
 ·rename_i hc
  rw [if_neg hc]
  exact Did.err H.hb (by decide) hq
end
end Go.Proofs.YtmbpnkacggngkaaGreatDoor
end
section
namespace Go.Proofs.YtmbpnkacggngkaaGreatDoor
open Go.RowKit Mem Led
theorem LgAt.len {w : World} {cs : List Value} {L : Led.Ledger} {E : List (Led.Entry × Value)} {U : List (Led.Bundle × Value)} (h : LgAt w cs L E U) : cs.length = 6 := by
 obtain ⟨⟨vE, vN, vB, vJ, vK, vU, rfl, _⟩, _⟩ := h
 rfl
theorem Blk.lower {w w' : World} {g B : Nat} {cs : List Value} {t : TypeId} (h : Blk w g cs t) (hb : Below B w w') (hg : g < B) : Blk w' g cs t := by
 unfold Blk at *
 rw [hb.block g hg]
 exact h
def After (L : Led.Ledger) (r : Led.Ledger × Int) : Led.Ledger := if r.2 = 0 then r.1 else L
def Applied (D : Led.Ledger × Int → Prop) (L : Led.Ledger) (w : World) (x : Ending) (w' : World) : Prop :=
 ∃ r, D r ∧ ∃ vE vN vB vJ vK vU E U, x = .returned (.tuple #[.agg #[vE, vN, vB, vJ, vK, vU], .int .i64 r.2]) ∧ Wk w.heap.size w' vE vN vB vJ vK vU (After L r) E U ∧ Below w.heap.size w w'
def Doer (F : FuncId) (w : World) (L : Led.Ledger) (o : Led.Op) (D : Led.Ledger × Int → Prop) : Prop :=
 ∀ base gl W vE vN vB vJ vK vU E U sv kv, w.heap.size ≤ base → Below w.heap.size w W → LAt base gl W vE vN vB vJ vK vU L E U → W.ownsRow base 9 1 sv o.entry.sels.length (rows strRow o.entry.sels) → Apart sv vB →
  W.ownsRow base 54 2 kv o.bundle.keys.length (rows jwkRow o.bundle.keys) → Calls Tryz.prog F #[.pointer (some ⟨gl, 0, none⟩), .agg (opCells o sv kv).toArray] W fun x w' => ∃ r, D r ∧ Did base gl r W x w'
set_option maxRecDepth 100000 in
set_option maxHeartbeats 8000000 in
theorem apply_gen (cs : List Value) (L : Led.Ledger) (E : List (Led.Entry × Value)) (U : List (Led.Bundle × Value)) (o : Led.Op) (sv kv : Value) (F : FuncId) (D : Led.Ledger × Int → Prop) (w : World) (hL : LgAt w cs L E U) (hs : L.Small) (hsv : TextsAt w sv o.entry.sels) (hkv : ElemsAt jwkRow 2 w kv o.bundle.keys)
  (hel : o.entry.sels.length ≤ 1000) (hul : o.bundle.keys.length ≤ 1000) (hK : ((doL.findIdx? fun p => o.kind == p.1).bind fun n => doL[n]?.map fun p => p.2) = some (.func (.func F) #[] #[]))
  (eg : ∀ args w, (callFunc F args).run Tryz.prog w = .ok (.enter F args) w) (hdo : Doer F w L o D) :
  Calls Tryz.prog 14 #[.agg cs.toArray, .agg (opCells o sv kv).toArray] w (Applied D L w) := by
 obtain ⟨As, ns, cS, rfl, fs, ts⟩ := hsv
 obtain ⟨Ak, nk, cK, rfl, fk, tk⟩ := hkv
 have lns := ts.len
 have lnk := tk.len jwkRow_len (by omega)
 obtain ⟨W, hW⟩ : ∃ W, ((w.alloc (.cells cs.toArray 30)).alloc (.cells (opCells o (.slice As ns cS) (.slice Ak nk cK)).toArray 47)).alloc (.cells (lgCells (.slice none 0 0)).toArray 30) = W := ⟨_, rfl⟩
 have b0 : Blk W w.heap.size cs 30 := by rw [← hW]; exact ((Blk.new _ _ _).alloc _).alloc _
 have b1 : Blk W (w.heap.size + 1) (opCells o (.slice As ns cS) (.slice Ak nk cK)) 47 := by
  have := Blk.new (w.alloc (.cells cs.toArray 30)) (opCells o (.slice As ns cS) (.slice Ak nk cK)) 47
  rw [← hW]
  exact Blk.alloc (by simpa using this) _
 have b2 : Blk W (w.heap.size + 2) (lgCells (.slice none 0 0)) 30 := by
  have := Blk.new ((w.alloc (.cells cs.toArray 30)).alloc (.cells (opCells o (.slice As ns cS) (.slice Ak nk cK)).toArray 47)) (lgCells (.slice none 0 0)) 30
  rw [← hW]
  simpa using this
 have hbW : Below w.heap.size w W := by rw [← hW]; exact (((Below.refl _ _).alloc (Nat.le_refl _) _).alloc (by simp) _).alloc (by simp; omega) _
 have hzW : W.heap.size = w.heap.size + 3 := by rw [← hW]; simp
 have hdoers := doers_any W.drew
 have hlook : (Instr.lookup 73 (.map (some (w.heap.size + 3))) (.int .i64 o.kind) false).run Tryz.prog (W.alloc (mo 20)).drew = .ok (.func (.func F) #[] #[]) (W.alloc (mo 20)).drew := by
  have := look_doer W.drew o.kind F hK
  rw [show W.drew.heap.size = w.heap.size + 3 from hzW] at this
  exact this
 have hk0 : (opCells o (.slice As ns cS) (.slice Ak nk cK))[0]? = some (.int .i64 o.kind) := rfl
 have m0 : W.cell? ⟨w.heap.size + 1, 0, none⟩ = some (.int .i64 o.kind) := (b1.cell 0).trans hk0
 have m1 : ∀ o', (W.alloc o').cell? ⟨w.heap.size + 1, 0, none⟩ = some (.int .i64 o.kind) := fun o' => ((b1.alloc o').cell 0).trans hk0
 obtain ⟨ops, hops⟩ : ∃ ops, Hid (opCells o (.slice As ns cS) (.slice Ak nk cK) = ops) := ⟨_, Lib.hid rfl⟩
 have ho7 : ops[7]? = some (.slice As ns cS) := by rw [← hops.out]; rfl
 have ho23 : ops[23]? = some (.slice Ak nk cK) := by rw [← hops.out]; rfl
 have holen : ops.length = 24 := by rw [← hops.out]; rfl
 rw [hops.out] at b1 hW ⊢
 have HW := Lib.hid hW
 unfold lgCells at HW
 clear hW
 go_enter Tryz.func14, Tryz.ntmps14
 go_upto_region 1 with fail
 rw [HW.out]
 go_cut [6] (fun s6 wx => s6 = .func (.func F) #[] #[] ∧ Below W.heap.size W wx)
 case first =>
  go_region_with (go_at_call 26; refine hdoers.mono ?_; rintro e w1 ⟨rfl, rfl⟩)
  all_goals
   go_wp2_with fail
   go_meet
   case rel => exact ⟨rfl, ((Below.refl _ _).drew).alloc (Nat.le_refl _) _⟩
 case rest =>
  obtain ⟨rfl, hbx⟩ := hcut
  have c0 := b0.below hbx
  have c1 := b1.below hbx
  have c2 := b2.below hbx
  have hbw : Below w.heap.size w wc := hbW.trans (hbx.mono hbW.size)
  have hLc := hL.below hbw
  have hld := load_lg c0 hL.len
  have hcc := cloneLg_any cs L E U wc hLc hs
  have hnil : ∀ W, (Go.binOp .eql 72 (.func (.func F) #[] #[]) .nilFunc).run Tryz.prog W = .ok (.bool false) W := fun W => by kernel_rfl
  have hzc : w.heap.size + 3 ≤ wc.heap.size := by have := hbx.size; omega
  clear hlook hdoers m0 m1 HW b0 b1 b2 hbx
  go_wp2_with fail
  refine hcc.mono ?_
  rintro e w2 ⟨vE, vN, vB, vJ, vK, vU, E1, U1, rfl, hwk, hb2⟩
  have d0 := c0.below hb2
  have d1 := c1.below hb2
  have d2 := c2.below hb2
  have hbw2 : Below w.heap.size w w2 := hbw.trans (hb2.mono hbw.size)
  have bn := Blk.new w2 (lgCells (.slice none 0 0)) 30
  obtain ⟨hs1, B3⟩ := store_lg bn rfl (vs := [vE, vN, vB, vJ, vK, vU]) rfl hwk.ones
  obtain ⟨wn, hwn⟩ : ∃ wn, (w2.alloc (.cells (lgCells (.slice none 0 0)).toArray 30)).setCells w2.heap.size 0 [vE, vN, vB, vJ, vK, vU] = wn := ⟨_, rfl⟩
  have hcn : Chg [] w2 wn := by rw [← hwn]; exact ((Chg.refl _ _).alloc _).setCells _ (.inr (Nat.le_refl _))
  rw [hwn] at hs1 B3
  unfold lgCells at hs1
  have e0 := d0.chg hcn (by simp)
  have e1 := d1.chg hcn (by simp)
  have e2 := d2.chg hcn (by simp)
  have hbn := hcn.below (fun _ h => by cases h)
  have hwn1 : Wk (w.heap.size + 3) wn vE vN vB vJ vK vU L E1 U1 := (hwk.below hbn).lower hzc
  have hbwn : Below w.heap.size w wn := hbw2.trans (hbn.mono hbw2.size)
  have hzn : w.heap.size + 3 ≤ wn.heap.size := by have := hbn.size; have := hb2.size; omega
  have hzg : w.heap.size + 3 ≤ w2.heap.size := by have := hb2.size; omega
  clear hld hcc c0 c1 c2 d0 d1 d2 bn hwn hcn hbn hLc hwk
  have f7 : ∀ p, (Batch.grew wn p).cell? ⟨w.heap.size + 1, 7, none⟩ = some (.slice As ns cS) := fun p => (Batch.grew_cell (a := ⟨w.heap.size + 1, 7, none⟩) e1.lt p).trans ((e1.cell 7).trans ho7)
  have f23 : ∀ p, (Batch.grew wn p).cell? ⟨w.heap.size + 1, 23, none⟩ = some (.slice Ak nk cK) := fun p => (Batch.grew_cell (a := ⟨w.heap.size + 1, 23, none⟩) e1.lt p).trans ((e1.cell 23).trans ho23)
  have kS := Lib.hid (fun wx (hx : Below w.heap.size w wx) => clnStr_any As ns cS (rows strRow o.entry.sels) wx (by rw [tv_rows]; exact Ts.below ts hx) (by omega) fs.2.2 (one_str _))
  have kK := Lib.hid (fun wx (hx : Below w.heap.size w wx) => clnJwk_any Ak nk cK (rows jwkRow o.bundle.keys) wx (Es.below tk hx) (by omega) fk.2.2 (one_jwk _))
  have HB := Lib.hid hbwn
  go_upto_region 5 with fail
  refine Batch.wp_region_turns [([0, 1, 2, 4, 5, 6], (3, fun v w' => w'.ownsRow wn.heap.size 9 1 v ns (rows strRow o.entry.sels))), ([8, 9], (7, fun v w' => w'.ownsRow wn.heap.size 54 2 v nk (rows jwkRow o.bundle.keys)))] [10, 11, 12, 13] (by kernel_rfl) (by kernel_rfl) (by
   intro x hx
   simp only [List.mem_cons, List.not_mem_nil, or_false] at hx
   rcases hx with rfl | rfl <;> exact stable_own) ?_
  refine Batch.turnsR_cons ?_
  simp only [Batch.pick, List.getD_cons_zero, List.getD_cons_succ]
  repeat (go_big_quiet_step (fail))
  refine wpQuiet_nil ?_
  refine ⟨_, rfl, rfl, ?_, ?_⟩
  ·intro w1 hw1 _
   go_simp
   exact ⟨rfl, gives_clone (by have := hw1.below.size; omega) (kS.out w1 (HB.out.trans (hw1.below.mono HB.out.size)))⟩
  intro v1 _
  refine Batch.turnsR_cons ?_
  simp only [Batch.pick, List.getD_cons_zero, List.getD_cons_succ, List.getElem_toArray, List.getElem_cons_succ, List.getElem_cons_zero, Act.put, List.setIfInBounds_toArray, List.set_cons_zero, List.set_cons_succ]
  repeat (go_big_quiet_step (fail))
  refine wpQuiet_nil ?_
  refine ⟨_, rfl, rfl, ?_, ?_⟩
  ·intro w1 hw1 _
   go_simp
   exact ⟨rfl, gives_clone (by have := hw1.below.size; omega) (kK.out w1 (HB.out.trans (hw1.below.mono HB.out.size)))⟩
  intro v2 _ w5 hw5 hF
  obtain ⟨⟨_, o1⟩, o2⟩ := hF
  have hb5 := hw5.below
  obtain ⟨A8, c8, rfl, _, _⟩ := own_form o1
  obtain ⟨A9, c9, rfl, _, _⟩ := own_form o2
  have g0 := e0.below hb5
  have g1 := e1.below hb5
  have g2 := e2.below hb5
  have g3 := B3.below hb5
  have hwk5 := hwn1.below hb5
  have hb05 : Below w.heap.size w w5 := hbwn.trans (hb5.mono hbwn.size)
  have x7 : w5.cell? ⟨w.heap.size + 1, 7, none⟩ = some (.slice As ns cS) := (g1.cell 7).trans ho7
  have z7 : w5.frozen? ⟨w.heap.size + 1, 7, none⟩ = false := g1.froz 7
  have x23 : w5.cell? ⟨w.heap.size + 1, 23, none⟩ = some (.slice Ak nk cK) := (g1.cell 23).trans ho23
  have z23 : w5.frozen? ⟨w.heap.size + 1, 23, none⟩ = false := g1.froz 23
  have hsz5 := hb5.size
  clear f7 f23 kS kK hw5 e0 e1 e2
  go_upto_region 6 with fail
  obtain ⟨w6, hw6⟩ : ∃ w6, (w5.setCell ⟨w.heap.size + 1, 7, none⟩ (.slice A8 ns c8)).setCell ⟨w.heap.size + 1, 23, none⟩ (.slice A9 nk c9) = w6 := ⟨_, rfl⟩
  have hopc : (ops.set 7 (.slice A8 ns c8)).set 23 (.slice A9 nk c9) = opCells o (.slice A8 ns c8) (.slice A9 nk c9) := by rw [← hops.out]; rfl
  have j1 : Blk w6 (w.heap.size + 1) (opCells o (.slice A8 ns c8) (.slice A9 nk c9)) 47 := by rw [← hw6, ← hopc]; exact (g1.set 7 _).set 23 _
  have j0 : Blk w6 w.heap.size cs 30 := by rw [← hw6]; exact (g0.set_ne (p := ⟨w.heap.size + 1, 7, none⟩) (by simp) _).set_ne (p := ⟨w.heap.size + 1, 23, none⟩) (by simp) _
  have j2 : Blk w6 (w.heap.size + 2) (lgCells (.slice none 0 0)) 30 := by rw [← hw6]; exact (g2.set_ne (p := ⟨w.heap.size + 1, 7, none⟩) (by simp) _).set_ne (p := ⟨w.heap.size + 1, 23, none⟩) (by simp) _
  have j3 : Blk w6 w2.heap.size [vE, vN, vB, vJ, vK, vU] 30 := by rw [← hw6]; exact (g3.set_ne (p := ⟨w.heap.size + 1, 7, none⟩) (by simp; omega) _).set_ne (p := ⟨w.heap.size + 1, 23, none⟩) (by simp; omega) _
  have hwk6 : Wk (w.heap.size + 3) w6 vE vN vB vJ vK vU L E1 U1 := by rw [← hw6]; exact (hwk5.setCell (a := ⟨w.heap.size + 1, 7, none⟩) (by simp) _).setCell (a := ⟨w.heap.size + 1, 23, none⟩) (by simp) _
  have hb06 : Below w.heap.size w w6 := by rw [← hw6]; exact (hb05.setCell (p := ⟨w.heap.size + 1, 7, none⟩) (by simp) _).setCell (p := ⟨w.heap.size + 1, 23, none⟩) (by simp) _
  have o16 : w6.ownsRow (w.heap.size + 3) 9 1 (.slice A8 ns c8) o.entry.sels.length (rows strRow o.entry.sels) := by
   rw [← hw6, lns]
   exact ownsRow_setCell_below (ownsRow_setCell_below (own_base o1 hzn) (a := ⟨w.heap.size + 1, 7, none⟩) (by simp) _) (a := ⟨w.heap.size + 1, 23, none⟩) (by simp) _
  have o26 : w6.ownsRow (w.heap.size + 3) 54 2 (.slice A9 nk c9) o.bundle.keys.length (rows jwkRow o.bundle.keys) := by
   rw [← hw6, lnk]
   exact ownsRow_setCell_below (ownsRow_setCell_below (own_base o2 hzn) (a := ⟨w.heap.size + 1, 7, none⟩) (by simp) _) (a := ⟨w.heap.size + 1, 23, none⟩) (by simp) _
  have hap : Apart (.slice A8 ns c8) vB := by
   cases hq : (Value.slice A8 ns c8).ownBlock with
   | none => exact .inl hq
   | some b =>
    refine .inr ?_
    rw [hq]
    intro e
    have h1 := (own_lt o1 hq).1
    have h2 := (own_lt hwn1.oB e.symm).2
    omega
  have hsz6 : w.heap.size + 3 ≤ w6.heap.size := by rw [← hw6]; simp; omega
  rw [hw6]
  have hdd := hdo (w.heap.size + 3) w2.heap.size w6 vE vN vB vJ vK vU E1 U1 _ _ (by omega) hb06 ⟨hwk6, j3, hzg, hsz6⟩ o16 hap o26
  have hld := load_op j1 rfl
  obtain ⟨CS, hCS⟩ : ∃ CS, (opCells o (.slice A8 ns c8) (.slice A9 nk c9)).toArray = CS := ⟨_, rfl⟩
  rw [hCS] at hld hdd
  clear x7 z7 x23 z23 hw6 hopc g0 g1 g2 g3 o1 o2 hwk5 hwn1 B3 hCS hops ho7 ho23 holen HB
  go_wp2_with fail
  refine hdd.mono ?_
  rintro e w7 ⟨r, hDr, rfl, hb7, hok⟩
  have hb07 : Below w.heap.size w w7 := hb06.trans (hb7.mono (by omega))
  have q0 := j0.lower hb7 (by omega)
  have q2 := j2.lower hb7 (by omega)
  by_cases hr : r.2 = 0
  ·obtain ⟨vE', vN', vB', vJ', vK', vU', E', U', hAt⟩ := hok hr
   have hld2 := load_lg hAt.blk rfl
   obtain ⟨hs2, B4⟩ := store_lg q2 rfl (vs := [vE', vN', vB', vJ', vK', vU']) rfl hAt.wk.ones
   obtain ⟨w8, hw8⟩ : ∃ w8, w7.setCells (w.heap.size + 2) 0 [vE', vN', vB', vJ', vK', vU'] = w8 := ⟨_, rfl⟩
   have hc8 : Chg [w.heap.size + 2] w7 w8 := by rw [← hw8]; exact (Chg.refl _ _).setCells _ (.inl (by simp))
   have hwk8 : Wk (w.heap.size + 3) w8 vE' vN' vB' vJ' vK' vU' r.1 E' U' := by rw [← hw8]; exact hAt.wk.setCells (by omega) _
   rw [hw8] at hs2 B4
   have hH := B4.has (n := 6) rfl
   have hA := B4.arr (n := 6) rfl
   have hb08 : Below w.heap.size w w8 := ((Chg.of_below (S := [w.heap.size + 2]) hb07).and hc8).below' (Nat.le_refl _) (by simp)
   have HWK := Lib.hid hwk8
   clear hld hdd hw8 hc8 B4 hAt hwk8 hok
   rw [hr]
   go_wp2
   refine bodyPost_ret (results_arr2 (P := Tryz.prog) Tryz.results14 _ _ (w.heap.size + 2) 0 6 _ rfl Tryz.underlying30 rfl size_ledger hH) rfl ?_
   refine ⟨r, hDr, vE', vN', vB', vJ', vK', vU', E', U', by rw [hA, hr]; rfl, ?_, hb08⟩
   unfold After
   rw [if_pos hr]
   exact HWK.out.lower (by omega)
  ·have hkb : (r.2 != 0) = true := by simpa using hr
   have hld2 := load_lg q0 hL.len
   have hcc2 := cloneLg_any cs L E U w7 (hL.below hb07) hs
   have HR := Lib.hid hr
   clear hld hdd hok j0 j1 j2 j3 hwk6 o16 o26
   obtain ⟨rv, hrv⟩ : ∃ rv, Hid (r.2 = rv) := ⟨_, Lib.hid rfl⟩
   rw [hrv.out] at hkb hr ⊢
   go_wp2_with fail
   refine hcc2.mono ?_
   rintro e w8 ⟨vE', vN', vB', vJ', vK', vU', E', U', rfl, hwk8, hb8⟩
   have q28 := q2.below hb8
   obtain ⟨hs2, B4⟩ := store_lg q28 rfl (vs := [vE', vN', vB', vJ', vK', vU']) rfl hwk8.ones
   have hb08 : Below w.heap.size w w8 := hb07.trans (hb8.mono hb07.size)
   obtain ⟨w9, hw9⟩ : ∃ w9, w8.setCells (w.heap.size + 2) 0 [vE', vN', vB', vJ', vK', vU'] = w9 := ⟨_, rfl⟩
   have hc9 : Chg [w.heap.size + 2] w8 w9 := by rw [← hw9]; exact (Chg.refl _ _).setCells _ (.inl (by simp))
   have hwk9 : Wk w7.heap.size w9 vE' vN' vB' vJ' vK' vU' L E' U' := by rw [← hw9]; exact hwk8.setCells q2.lt _
   rw [hw9] at hs2 B4
   have hH := B4.has (n := 6) rfl
   have hA := B4.arr (n := 6) rfl
   have hb09 : Below w.heap.size w w9 := ((Chg.of_below (S := [w.heap.size + 2]) hb08).and hc9).below' (Nat.le_refl _) (by simp)
   have HWK := Lib.hid (hwk9.lower (b := w.heap.size) hb07.size)
   clear hw9 hc9 B4 hwk8 hwk9 hcc2
   go_wp2
   refine bodyPost_ret (results_arr2 (P := Tryz.prog) Tryz.results14 _ _ (w.heap.size + 2) 0 6 _ rfl Tryz.underlying30 rfl size_ledger hH) rfl ?_
   refine ⟨r, hDr, vE', vN', vB', vJ', vK', vU', E', U', by rw [hA, hrv.out]; rfl, ?_, hb09⟩
   unfold After
   rw [if_neg HR.out]
   exact HWK.out
end Go.Proofs.YtmbpnkacggngkaaGreatDoor
end
section
namespace Go.Proofs.YtmbpnkacggngkaaGreatDoor
open Go.RowKit Mem Led
theorem look_none (w : World) (K : Int) (hK : doL.findIdx? (fun p => K == p.1) = none) :
  (Instr.lookup 73 (.map (some w.heap.size)) (.int .i64 K) false).run Tryz.prog (w.alloc (mo 20)) = .ok .nilFunc (w.alloc (mo 20)) := by
 have h := run_look (P := Tryz.prog) (w.alloc (mo 20)) w.heap.size (doL.take 20) K _ _ _ .nilFunc Tryz.underlying73 Tryz.underlying3 (zero_doer _) (heap_alloc_new w _)
 rw [show doL.take 20 = doL from rfl, hK] at h
 exact h
set_option maxRecDepth 100000 in
set_option maxHeartbeats 8000000 in
theorem apply_none (cs : List Value) (L : Led.Ledger) (E : List (Led.Entry × Value)) (U : List (Led.Bundle × Value)) (ops : List Value) (k : Int) (w : World) (hL : LgAt w cs L E U) (hs : L.Small) (hk0 : ops[0]? = some (.int .i64 k)) (hK : doL.findIdx? (fun p => k == p.1) = none) :
  Calls Tryz.prog 14 #[.agg cs.toArray, .agg ops.toArray] w (Applied (fun r => r = (L, 1)) L w) := by
 obtain ⟨W, hW⟩ : ∃ W, ((w.alloc (.cells cs.toArray 30)).alloc (.cells ops.toArray 47)).alloc (.cells (lgCells (.slice none 0 0)).toArray 30) = W := ⟨_, rfl⟩
 have b0 : Blk W w.heap.size cs 30 := by rw [← hW]; exact ((Blk.new _ _ _).alloc _).alloc _
 have b1 : Blk W (w.heap.size + 1) ops 47 := by
  have := Blk.new (w.alloc (.cells cs.toArray 30)) ops 47
  rw [← hW]
  exact Blk.alloc (by simpa using this) _
 have b2 : Blk W (w.heap.size + 2) (lgCells (.slice none 0 0)) 30 := by
  have := Blk.new ((w.alloc (.cells cs.toArray 30)).alloc (.cells ops.toArray 47)) (lgCells (.slice none 0 0)) 30
  rw [← hW]
  simpa using this
 have hbW : Below w.heap.size w W := by rw [← hW]; exact (((Below.refl _ _).alloc (Nat.le_refl _) _).alloc (by simp) _).alloc (by simp; omega) _
 have hzW : W.heap.size = w.heap.size + 3 := by rw [← hW]; simp
 have hdoers := doers_any W.drew
 have hlook : (Instr.lookup 73 (.map (some (w.heap.size + 3))) (.int .i64 k) false).run Tryz.prog (W.alloc (mo 20)).drew = .ok .nilFunc (W.alloc (mo 20)).drew := by
  have := look_none W.drew k hK
  rw [show W.drew.heap.size = w.heap.size + 3 from hzW] at this
  exact this
 have m0 : W.cell? ⟨w.heap.size + 1, 0, none⟩ = some (.int .i64 k) := (b1.cell 0).trans hk0
 have m1 : ∀ o', (W.alloc o').cell? ⟨w.heap.size + 1, 0, none⟩ = some (.int .i64 k) := fun o' => ((b1.alloc o').cell 0).trans hk0
 have HW := Lib.hid hW
 unfold lgCells at HW
 clear hW
 go_enter Tryz.func14, Tryz.ntmps14
 go_upto_region 1 with fail
 rw [HW.out]
 go_cut [6] (fun s6 wx => s6 = .nilFunc ∧ Below W.heap.size W wx)
 case first =>
  go_region_with (go_at_call 26; refine hdoers.mono ?_; rintro e w1 ⟨rfl, rfl⟩)
  all_goals
   go_wp2_with fail
   go_meet
   case rel => exact ⟨rfl, ((Below.refl _ _).drew).alloc (Nat.le_refl _) _⟩
 case rest =>
  obtain ⟨rfl, hbx⟩ := hcut
  have c0 := b0.below hbx
  have c2 := b2.below hbx
  have hbw : Below w.heap.size w wc := hbW.trans (hbx.mono hbW.size)
  have hLc := hL.below hbw
  have hld := load_lg c0 hL.len
  have hcc := cloneLg_any cs L E U wc hLc hs
  have hnil : ∀ W, (Go.binOp .eql 72 .nilFunc .nilFunc).run Tryz.prog W = .ok (.bool true) W := fun W => by kernel_rfl
  clear hlook hdoers m0 m1 HW b0 b1 b2
  go_wp2_with fail
  refine hcc.mono ?_
  rintro e w8 ⟨vE', vN', vB', vJ', vK', vU', E', U', rfl, hwk8, hb8⟩
  have q28 := c2.below hb8
  obtain ⟨hs2, B4⟩ := store_lg q28 rfl (vs := [vE', vN', vB', vJ', vK', vU']) rfl hwk8.ones
  have hb08 : Below w.heap.size w w8 := hbw.trans (hb8.mono hbw.size)
  obtain ⟨w9, hw9⟩ : ∃ w9, w8.setCells (w.heap.size + 2) 0 [vE', vN', vB', vJ', vK', vU'] = w9 := ⟨_, rfl⟩
  have hc9 : Chg [w.heap.size + 2] w8 w9 := by rw [← hw9]; exact (Chg.refl _ _).setCells _ (.inl (by simp))
  have hwk9 : Wk wc.heap.size w9 vE' vN' vB' vJ' vK' vU' L E' U' := by rw [← hw9]; exact hwk8.setCells c2.lt _
  rw [hw9] at hs2 B4
  have hH := B4.has (n := 6) rfl
  have hA := B4.arr (n := 6) rfl
  have hb09 : Below w.heap.size w w9 := ((Chg.of_below (S := [w.heap.size + 2]) hb08).and hc9).below' (Nat.le_refl _) (by simp)
  have HWK := Lib.hid (hwk9.lower (b := w.heap.size) hbw.size)
  clear hw9 hc9 B4 hwk8 hwk9 hcc hld c0 c2 hbx
  go_wp2
  refine bodyPost_ret (results_arr2 (P := Tryz.prog) Tryz.results14 _ _ (w.heap.size + 2) 0 6 _ rfl Tryz.underlying30 rfl size_ledger hH) rfl ?_
  exact ⟨(L, 1), rfl, vE', vN', vB', vJ', vK', vU', E', U', by rw [hA]; rfl, HWK.out, hb09⟩
end Go.Proofs.YtmbpnkacggngkaaGreatDoor
end
