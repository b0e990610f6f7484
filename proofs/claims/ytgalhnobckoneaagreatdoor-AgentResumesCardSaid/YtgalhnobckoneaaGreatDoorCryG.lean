/- THE WALKS of the program's field, that they return: wide's plus and over, Mul. -/
import Derived.Test.YtgalhnobckoneaaGreatDoorCryE
import Derived.Laws.Externs
namespace Go.Proofs.YtgalhnobckoneaaGreatDoor
open Go.RowKit Mem
namespace Cry

/-- The model's entry for math/bits.Add64. -/
theorem add64_ex (x y : Int) (c : Nat) (hc : c ≤ 1) : ∃ (a : Int) (b : Nat), 0 ≤ a ∧ a < 18446744073709551616 ∧ (x < 18446744073709551616 → y < 18446744073709551616 → b ≤ 1) ∧
    ∀ w, (callFunc 189 #[.int .u64 x, .int .u64 y, .int .u64 (c : Int)]).run Tryz.prog w = .ok (.value (.tuple #[.int .u64 a, .int .u64 (b : Int)])) w := by
  refine ⟨(((x.toNat + y.toNat + c) % 18446744073709551616 : Nat) : Int), (x.toNat + y.toNat + c) / 18446744073709551616, by omega, by omega, fun h1 h2 => by omega, fun w => ?_⟩
  rw [run_callFunc_extern Tryz.func189 (by kernel_rfl) (by kernel_rfl) (by kernel_rfl) (e := add64Entry) (by kernel_rfl)]
  have key : ∀ k : Nat, k ≤ 1 → (add64Entry #[.int .u64 x, .int .u64 y, .int .u64 (k : Int)]).run Tryz.prog w = .ok (Extern.MathBitsCarry.pair ((x.toNat + y.toNat + k) % Extern.MathBitsCarry.m64) ((x.toNat + y.toNat + k) / Extern.MathBitsCarry.m64)) w := by
    intro k hk
    have : k = 0 ∨ k = 1 := by omega
    rcases this with rfl | rfl <;> rfl
  rw [key c hc]
  rfl
set_option maxRecDepth 100000 in
set_option maxHeartbeats 4000000 in
theorem mul64_ex (x y : Int) : ∃ h l : Int, 0 ≤ l ∧ l < 18446744073709551616 ∧ ∀ w, Calls Tryz.prog 188 #[.int .u64 x, .int .u64 y] w fun e w' => e = .returned (.tuple #[.int .u64 h, .int .u64 l]) ∧ w' = w := by
  apply Exists.intro
  refine ⟨IntKind.u64.wrap (x * y), ?_, ?_, fun w => ?_⟩
  rotate_left 2
  · go_enter Tryz.func188, Tryz.ntmps188
    go_wp2
    go_ret2
    exact ⟨rfl, rfl⟩
  · rw [IntKind.wrap_u64]; omega
  · rw [IntKind.wrap_u64]; omega
/-- Of a number of two words the lower one is one. -/
def Lo (l : Int) : Prop := 0 ≤ l ∧ l < 18446744073709551616
theorem size_Wd : (Tryz.prog.info? 187).map (·.size) = some 2 := by kernel_rfl
def loadWd (x : Value) : Sem Value := Instr.loadAt 187 x
def storeWd (x v : Value) : Sem Unit := Instr.storeAt 187 x v
theorem named_load_Wd (x : Value) : Instr.loadAt 187 x = loadWd x := rfl
theorem named_store_Wd (x v : Value) : Instr.storeAt 187 x v = storeWd x v := rfl
attribute [go_sem ↓] named_load_Wd named_store_Wd
/-- Five numbers of two words. -/
def Rb (w : World) (g : Nat) (t : TypeId) : Prop := ∃ rs : List Int, rs.length = 10 ∧ (∀ i, i < 5 → Lo (rs.getD (2 * i + 1) 0)) ∧ Blk w g (us rs) t
section
variable {w w' : World} {g : Nat} {t : TypeId}
theorem Rb.ub (h : Rb w g t) : Ub w g 10 t := by obtain ⟨rs, h1, _, h2⟩ := h; exact ⟨rs, h1, h2⟩
theorem Rb.chg {S : List Nat} (h : Rb w g t) (hc : Chg S w w') (hS : g ∉ S) : Rb w' g t := by obtain ⟨rs, h1, h2, h3⟩ := h; exact ⟨rs, h1, h2, h3.chg hc hS⟩
theorem Rb.below (h : Rb w g t) (hb : Below w.heap.size w w') : Rb w' g t := by obtain ⟨rs, h1, h2, h3⟩ := h; exact ⟨rs, h1, h2, h3.below hb⟩
theorem Rb.load (h : Rb w g t) {k : Nat} (hk : k < 5) : ∃ a b : Int, Lo b ∧ ∀ w', Below w.heap.size w w' → (loadWd (.pointer (some ⟨g, k * 2, none⟩))).run Tryz.prog w' = .ok (.agg #[.int .u64 a, .int .u64 b]) w' := by
  obtain ⟨rs, h1, h2, h3⟩ := h
  refine ⟨rs.getD (2 * k) 0, rs.getD (2 * k + 1) 0, h2 k hk, fun w' hb => load_cells (P := Tryz.prog) (T := 187) (k := 2) Tryz.underlying187 rfl size_Wd (cs := [.int .u64 (rs.getD (2 * k) 0), .int .u64 (rs.getD (2 * k + 1) 0)]) rfl fun j u hj => ?_⟩
  rw [(h3.below hb).cell]
  match j, hj with
  | 0, hj => rw [← hj, show k * 2 + 0 = 2 * k by omega]; exact us_at rs (by omega)
  | 1, hj => rw [← hj, show k * 2 + 1 = 2 * k + 1 by omega]; exact us_at rs (by omega)
  | j + 2, hj => simp at hj
theorem Rb.store (h : Rb w g t) {k : Nat} (hk : k < 5) (a : Int) {b : Int} (hb : Lo b) : ∃ w1, (storeWd (.pointer (some ⟨g, k * 2, none⟩)) (.agg #[.int .u64 a, .int .u64 b])).run Tryz.prog w = .ok () w1 ∧ Rb w1 g t ∧ Chg [g] w w1 := by
  obtain ⟨rs, h1, h2, h3⟩ := h
  have hH : Has w g (k * 2) 2 := fun j hj => by rw [h3.cell, us_at rs (by omega)]; rfl
  have hs := run_store_arr (P := Tryz.prog) w 187 g (k * 2) 2 size_Wd #[.int .u64 a, .int .u64 b] ⟨rfl, by intro v hv; simp at hv; rcases hv with rfl | rfl <;> rfl⟩ hH (fun j _ => h3.froz _)
  refine ⟨_, hs, ⟨(rs.set (2 * k) a).set (2 * k + 1) b, by simpa using h1, fun i hi => ?_, ?_⟩, (Chg.refl _ _).setCells _ (.inl (by simp))⟩
  · rw [List.getD_eq_getElem?_getD, List.getElem?_set]
    by_cases e : i = k
    · subst e
      rw [if_pos rfl, if_pos (by simp; omega)]
      exact hb
    · rw [if_neg (by omega), List.getElem?_set_ne (by omega), ← List.getD_eq_getElem?_getD]
      exact h2 i hi
  · have h4 := set_all [.int .u64 a, .int .u64 b] w g (k * 2) (us rs) t h3 (by rw [us_length]; simp; omega)
    have e : us ((rs.set (2 * k) a).set (2 * k + 1) b) = (us rs).take (k * 2) ++ [.int .u64 a, .int .u64 b] ++ (us rs).drop (k * 2 + 2) := by
      rw [← us_set, ← us_set]
      apply List.ext_getElem?
      intro i
      rw [List.getElem?_set, List.getElem?_set, List.append_assoc, List.getElem?_append, List.length_take, us_length, h1]
      simp only [List.length_set, us_length, h1]
      by_cases c1 : i < k * 2
      · rw [if_neg (by omega), if_neg (by omega), if_pos (by omega), List.getElem?_take, if_pos c1]
      · rw [if_neg (by omega : ¬ i < min (k * 2) 10)]
        obtain ⟨m, rfl⟩ : ∃ m, i = k * 2 + m := ⟨i - k * 2, by omega⟩
        rw [show k * 2 + m - min (k * 2) 10 = m by omega]
        match m with
        | 0 => rw [if_neg (by omega), if_pos (by omega), if_pos (by omega)]; rfl
        | 1 => rw [if_pos (by omega), if_pos (by omega)]; rfl
        | m + 2 =>
          rw [if_neg (by omega), if_neg (by omega)]
          show _ = ((us rs).drop (k * 2 + 2))[m]?
          rw [List.getElem?_drop, show k * 2 + 2 + m = k * 2 + (m + 2) by omega]
    rw [e]
    exact h4
end
set_option maxRecDepth 100000 in
set_option maxHeartbeats 4000000 in
theorem plus_ex (h l a b : Int) (hl : Lo l) (w : World) : Calls Tryz.prog 138 #[.agg #[.int .u64 h, .int .u64 l], .int .u64 a, .int .u64 b] w fun e w' => (∃ h' l', Lo l' ∧ e = .returned (.agg #[.int .u64 h', .int .u64 l'])) ∧ Below w.heap.size w w' := by
  obtain ⟨W, HW, A0, A1, hbw, hz⟩ := boxes2 w [.int .u64 h, .int .u64 l] 187 [.int .u64 0, .int .u64 0] 187
  obtain ⟨mh, ml, hm0, hm1, hM⟩ := mul64_ex a b
  obtain ⟨s, c, hs0, hs1, hc, hA⟩ := add64_ex l ml 0 (by omega)
  have hA : ∀ w, (callFunc 189 #[.int .u64 l, .int .u64 ml, .int .u64 0]).run Tryz.prog w = .ok (.value (.tuple #[.int .u64 s, .int .u64 (c : Int)])) w := hA
  obtain ⟨s2, c2, _, _, _, hA2⟩ := add64_ex h mh c (hc hl.2 hm1)
  have k0 : W.cell? ⟨w.heap.size, 0, none⟩ = some (.int .u64 h) := A0.cell 0
  have k1 : W.cell? ⟨w.heap.size, 1, none⟩ = some (.int .u64 l) := A0.cell 1
  have hst := run_store_arr (P := Tryz.prog) W 187 (w.heap.size + 1) 0 2 size_Wd #[.int .u64 s2, .int .u64 s] ⟨rfl, by intro v hv; simp at hv; rcases hv with rfl | rfl <;> rfl⟩ (blk_has A1 rfl) (fun j _ => A1.froz _)
  have hS : Blk (W.setCells (w.heap.size + 1) 0 [.int .u64 s2, .int .u64 s]) (w.heap.size + 1) [.int .u64 s2, .int .u64 s] 187 := set_all [.int .u64 s2, .int .u64 s] W (w.heap.size + 1) 0 [.int .u64 0, .int .u64 0] _ A1 (by simp)
  have hcg : Chg [w.heap.size + 1] W (W.setCells (w.heap.size + 1) 0 [.int .u64 s2, .int .u64 s]) := (Chg.refl _ _).setCells _ (.inl (by simp))
  obtain ⟨w1, hw1⟩ : ∃ w1, W.setCells (w.heap.size + 1) 0 [.int .u64 s2, .int .u64 s] = w1 := ⟨_, rfl⟩
  have hst : (storeWd (.pointer (some ⟨w.heap.size + 1, 0, none⟩)) (.agg #[.int .u64 s2, .int .u64 s])).run Tryz.prog W = .ok () w1 := by rw [← hw1]; exact hst
  rw [hw1] at hS hcg
  have hb1 : Below w.heap.size w w1 := hbw.trans (hcg.below' hbw.size (by simp))
  have hH := blk_has hS (n := 2) rfl
  have hR := blk_arr hS (n := 2) rfl
  clear hw1 hcg A0 A1
  go_enter Tryz.func138, Tryz.ntmps138
  go_upto_region 1 with fail
  rw [show ((w.alloc (.cells #[.int .u64 h, .int .u64 l] 187)).alloc (.cells #[.int .u64 0, .int .u64 0] 187)) = W from HW.out]
  clear HW
  go_wp2_with fail
  refine (hM _).mono ?_
  rintro e w' ⟨rfl, hw⟩
  have := hw.symm
  subst this
  go_wp2_with (first | simp only [hA] | simp only [hA2])
  refine bodyPost_ret (results_arr (P := Tryz.prog) Tryz.results138 _ _ (w.heap.size + 1) 0 2 _ rfl Tryz.underlying187 rfl size_Wd hH) rfl ?_
  exact ⟨⟨s2, s, ⟨hs0, hs1⟩, by rw [hR]⟩, hb1⟩
theorem over_ex (h l : Int) (w : World) : Calls Tryz.prog 139 #[.agg #[.int .u64 h, .int .u64 l]] w fun e w' => (∃ r, e = .returned (.int .u64 r)) ∧ Below w.heap.size w w' := by
  obtain ⟨W, HW, A0, hbw, hz⟩ := boxes1 w [.int .u64 h, .int .u64 l] 187
  have k0 : W.cell? ⟨w.heap.size, 0, none⟩ = some (.int .u64 h) := A0.cell 0
  have k1 : W.cell? ⟨w.heap.size, 1, none⟩ = some (.int .u64 l) := A0.cell 1
  go_enter Tryz.func139, Tryz.ntmps139
  go_upto_region 1 with fail
  rw [show (w.alloc (.cells #[.int .u64 h, .int .u64 l] 187)) = W from HW.out]
  clear HW
  go_wp2
  go_ret
  exact ⟨⟨_, rfl⟩, hbw⟩
end Cry
end Go.Proofs.YtgalhnobckoneaaGreatDoor
