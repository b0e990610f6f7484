/- THE WALK of lives: the document's examples. -/
import Derived.Test.YtmbpnkacggngkaaGreatDoorLedApply
namespace Go.Proofs.YtmbpnkacggngkaaGreatDoor
open Go.RowKit Mem Led

def agentA : List UInt8 := [47, 97, 103, 101, 110, 116, 47, 97]
def C0 (cs : List Value) (_ : World) : Prop := cs = lgCells (.slice none 0 0)
def C1 (x : List UInt8) (cs : List Value) (w : World) : Prop := ∃ A c, cs = lgCells (.slice A 1 c) ∧ 1 ≤ c ∧ Ts w A 1 [x]
theorem C0.fit (cs : List Value) (w : World) (h : C0 cs w) : cs.length = 6 ∧ ∀ v ∈ cs, v.oneCell' = true := by
  rw [show cs = _ from h]
  exact ⟨rfl, lgCells_one _ _ _⟩
theorem C1.fit (x : List UInt8) (cs : List Value) (w : World) (h : C1 x cs w) : cs.length = 6 ∧ ∀ v ∈ cs, v.oneCell' = true := by
  obtain ⟨A, c, rfl, _, _⟩ := h
  exact ⟨rfl, lgCells_one _ _ _⟩
theorem C0.clone (cs : List Value) (W : World) (h : C0 cs W) : Calls Tryz.prog 27 #[.agg cs.toArray] W fun e w' => ∃ cs', e = .returned (.agg cs'.toArray) ∧ C0 cs' w' ∧ Below W.heap.size W w' := by
  rw [show cs = _ from h]
  exact (clone_nil W).mono fun e w' ⟨he, hb⟩ => ⟨_, he, rfl, hb⟩
theorem C1.clone (x : List UInt8) (cs : List Value) (W : World) (h : C1 x cs W) : Calls Tryz.prog 27 #[.agg cs.toArray] W fun e w' => ∃ cs', e = .returned (.agg cs'.toArray) ∧ C1 x cs' w' ∧ Below W.heap.size W w' := by
  obtain ⟨A, c, rfl, _, ht⟩ := h
  exact (clone_one A c x W ht).mono fun e w' ⟨A', c', he, g1, _, hown, hb⟩ => ⟨_, he, ⟨A', c', rfl, g1, Ts.of_own hown⟩, hb⟩
/-- The operations of the examples. -/
def opGone : List Value := opCells { noOp with kind := 2, n := 5 } (.slice none 0 0) (.slice none 0 0)
def opBan (x : List UInt8) : List Value := opCells { noOp with kind := 6, name := x } (.slice none 0 0) (.slice none 0 0)
theorem gone_apply (w : World) : Calls Tryz.prog 14 #[.agg (lgCells (.slice none 0 0)).toArray, .agg opGone.toArray] w fun e w' => ∃ cs' : List Value, e = .returned (.tuple #[.agg cs'.toArray, .int .i64 7]) ∧ (cs'.length = 6 ∧ ∀ v ∈ cs', v.oneCell' = true) ∧ Below w.heap.size w w' :=
  apply_err _ opGone 2 43 w 7 (by omega) C0 rfl C0.fit (fun _ _ _ h _ => h) ⟨rfl, rfl, rfl, rfl⟩ rfl C0.clone (enters_of Tryz.func43 (by kernel_rfl) rfl)
    (fun gl cs' W hc hb => by
      rw [show cs' = _ from hc] at hb
      exact goneEntry_nil gl opGone _ W hb)
theorem again_apply (cs : List Value) (x : List UInt8) (w : World) (h : C1 x cs w) (ha : Ids.agent x = true) (hl : x.length ≤ 1000) : Calls Tryz.prog 14 #[.agg cs.toArray, .agg (opBan x).toArray] w fun e w' => ∃ cs' : List Value, e = .returned (.tuple #[.agg cs'.toArray, .int .i64 8]) ∧ (cs'.length = 6 ∧ ∀ v ∈ cs', v.oneCell' = true) ∧ Below w.heap.size w w' :=
  apply_err cs (opBan x) 6 47 w 8 (by omega) (C1 x) h (C1.fit x) (fun _ _ _ ⟨A, c, e, g, t⟩ hb => ⟨A, c, e, g, t.below hb⟩) ⟨rfl, rfl, rfl, rfl⟩ rfl (C1.clone x) (enters_of Tryz.func47 (by kernel_rfl) rfl)
    (fun gl cs' W hc hb => by
      obtain ⟨A, c, rfl, _, ht⟩ := hc
      exact ban_again gl (opBan x) x A c W hb rfl ha hl ht)
theorem own_keep_chg {w w' : World} {base g : Nat} {e : TypeId} {size n : Nat} {v : Value} {xs : List Value} (h : w.ownsRow base e size v n xs) (hc : Chg [g] w w') (hg : g < base) : w'.ownsRow base e size v n xs := by
  refine ⟨h.1, ?_⟩
  rcases h.2 with h2 | ⟨b, cap, cur, hv, hb, hh, r⟩
  · exact .inl h2
  · exact .inr ⟨b, cap, cur, hv, hb, by rw [hc.block b (Array.getElem?_eq_some_iff.1 hh).1 (by simp; omega)]; exact hh, r⟩
/-- A ledger of one ban, since block B. -/
def D1 (B : Nat) (x : List UInt8) (cs : List Value) (w : World) : Prop := ∃ A c, cs = lgCells (.slice A 1 c) ∧ 1 ≤ c ∧ w.ownsRow B 9 1 (.slice A 1 c) 1 (tv [x])
theorem ban_apply (x : List UInt8) (w : World) (ha : Ids.agent x = true) (hl : x.length ≤ 1000) : Calls Tryz.prog 14 #[.agg (lgCells (.slice none 0 0)).toArray, .agg (opBan x).toArray] w fun e w' => ∃ cs' : List Value, e = .returned (.tuple #[.agg cs'.toArray, .int .i64 0]) ∧ D1 (w.heap.size + 3) x cs' w' ∧ (cs'.length = 6 ∧ ∀ v ∈ cs', v.oneCell' = true) ∧ Below w.heap.size w w' :=
  apply_ok _ (opBan x) 6 47 w C0 rfl C0.fit (D1 (w.heap.size + 3) x)
    (fun cs w' w'' g hg ⟨A, c, e, g1, ho⟩ hc => ⟨A, c, e, g1, own_keep_chg ho hc (by simpa using hg)⟩)
    (fun _ _ _ h _ => h) ⟨rfl, rfl, rfl, rfl⟩ rfl C0.clone (enters_of Tryz.func47 (by kernel_rfl) rfl)
    (fun gl cs' W hz hc hb => by
      rw [show cs' = _ from hc] at hb
      refine (ban_nil gl (opBan x) x W hb rfl rfl ha hl).mono ?_
      rintro e w' ⟨he, A, c, g1, _, hB, hown, hch⟩
      exact ⟨he, _, hB, ⟨A, c, rfl, g1, own_base hown hz⟩, hch, rfl, lgCells_one _ _ _⟩)
/-- A ledger in a variable of its own. -/
theorem new_lg (w : World) (cs : List Value) (h : cs.length = 6 ∧ ∀ v ∈ cs, v.oneCell' = true) :
    ∃ wn, (storeLg (.pointer (some ⟨w.heap.size, 0, none⟩)) (.agg cs.toArray)).run Tryz.prog (w.alloc (.cells #[.slice none 0 0, .slice none 0 0, .slice none 0 0, .slice none 0 0, .slice none 0 0, .slice none 0 0] 30)) = .ok () wn ∧ Blk wn w.heap.size cs 30 ∧ Below w.heap.size w wn := by
  have bn := Blk.new w (lgCells (.slice none 0 0)) 30
  obtain ⟨hs1, B3⟩ := store_lg bn rfl h.1 h.2
  have hcn : Chg [] w ((w.alloc (.cells (lgCells (.slice none 0 0)).toArray 30)).setCells w.heap.size 0 cs) := ((Chg.refl _ _).alloc _).setCells _ (.inr (Nat.le_refl _))
  exact ⟨_, hs1, B3, hcn.below (fun _ h => by cases h)⟩
set_option maxRecDepth 100000 in
set_option maxHeartbeats 4000000 in
theorem lives_any (w : World) : Calls Tryz.prog 12 #[] w fun e w' => e = .returned (.bool true) ∧ Below w.heap.size w w' := by
  have ha : Ids.agent agentA = true := by decide +kernel
  have h1 := fun W => gone_apply W
  have h2 := fun W => ban_apply agentA W ha (by decide)
  have h3 := fun cs W h => again_apply cs agentA W h ha (by decide)
  obtain ⟨W0, hW0⟩ : ∃ W0, w.alloc (.cells (lgCells (.slice none 0 0)).toArray 30) = W0 := ⟨_, rfl⟩
  have b0 : Blk W0 w.heap.size (lgCells (.slice none 0 0)) 30 := by rw [← hW0]; exact Blk.new _ _ _
  have hb0 : Below w.heap.size w W0 := by rw [← hW0]; exact (Below.refl _ _).alloc (Nat.le_refl _) _
  have hz0 : W0.heap.size = w.heap.size + 1 := by rw [← hW0]; simp
  have hld0 := load_lg b0 rfl
  rw [← hW0] at hld0
  have HW0 := Lib.hid hW0
  clear hW0
  unfold lgCells at hld0 HW0
  go_enter Tryz.func12, Tryz.ntmps12
  go_wp2_with fail
  rw [HW0.out]
  refine (h1 W0).mono ?_
  rintro e w1 ⟨cs1, rfl, hf1, hb1⟩
  clear hld0 HW0
  have c0 := b0.below hb1
  have hbw1 : Below w.heap.size w w1 := hb0.trans (hb1.mono hb0.size)
  obtain ⟨w2, hs2, B2, hb2⟩ := new_lg w1 cs1 hf1
  have c2 := c0.below hb2
  have hbw2 : Below w.heap.size w w2 := hbw1.trans (hb2.mono hbw1.size)
  have hld2 := load_lg c2 rfl
  unfold lgCells at hld2
  clear c0 B2 hb0 b0 hb1
  go_wp2_with fail
  refine (h2 w2).mono ?_
  rintro e w3 ⟨cs3, rfl, ⟨A, c, rfl, g1, hown⟩, hf3, hb3⟩
  have hbw3 : Below w.heap.size w w3 := hbw2.trans (hb3.mono hbw2.size)
  obtain ⟨w4, hs4, B4, hb4⟩ := new_lg w3 _ hf3
  have hbw4 : Below w.heap.size w w4 := hbw3.trans (hb4.mono hbw3.size)
  have ht4 : Ts w4 A 1 [agentA] := (Ts.of_own hown).below hb4
  have hld4 := load_lg B4 rfl
  clear hs2 hld2 c2 hb2 hb3
  generalize hCS : (lgCells (.slice A 1 c)).toArray = CS at *
  have HCS := Lib.hid hCS
  clear hCS
  have h4 := h3 _ w4 ⟨A, c, rfl, g1, ht4⟩
  rw [HCS.out] at h4
  go_wp2_with fail
  refine h4.mono ?_
  rintro e w5 ⟨cs5, rfl, hf5, hb5⟩
  obtain ⟨w6, hs6, B6, hb6⟩ := new_lg w5 cs5 hf5
  have b4 := (B4.below hb5).below hb6
  have m4 : w6.cell? ⟨w3.heap.size, 2, none⟩ = some (.slice A 1 c) := b4.cell 2
  have hbw6 : Below w.heap.size w w6 := (hbw4.trans (hb5.mono hbw4.size)).trans (hb6.mono (Nat.le_trans hbw4.size hb5.size))
  clear hs4 hld4 HCS h4 B4 B6 b4
  go_wp2
  go_ret
  exact ⟨rfl, hbw6⟩
end Go.Proofs.YtmbpnkacggngkaaGreatDoor
