/- THE WALKS of IdsWithin, IdsSets, IdsOwns. -/
import Derived.Test.YtjndogfbhhbfcaaDoorIdsWalks2
namespace Go.Proofs.YtjndogfbhhbfcaaDoor
open Go.RowKit Mem

theorem own_le {w : World} {base n c : Nat} {A : Option Addr} {e : TypeId} {size : Nat} {xs : List Value} (h : w.ownsRow base e size (.slice A n c) n xs) : n ≤ c ∧ c ≤ 9223372036854775807 := by
  obtain ⟨A', c', e1, h1, h2⟩ := own_form h
  cases e1
  exact ⟨h1, h2⟩
theorem tv_take (L : List (List UInt8)) (k : Nat) : (tv L).take k = tv (L.take k) := by simp [tv]
theorem Ts.take {w : World} {A : Option Addr} {n : Nat} {L : List (List UInt8)} (h : Ts w A n L) {k : Nat} (hk : k ≤ n) : Ts w A k (L.take k) := by
  have := Vs.take h (k := k) hk
  rw [Nat.mul_one, tv_take] at this
  exact this
theorem within_self (L : List (List UInt8)) : withinOf L L = true := by
  unfold withinOf
  rw [List.all_eq_true]
  intro x hx
  exact List.contains_iff_mem.2 hx
/-- A list cut to eight. -/
theorem cut8 {w : World} {A : Option Addr} {n c : Nat} {L : List (List UInt8)} (h : Ts w A n L) (hn : n ≤ c) (hlen : ∀ x ∈ L, x.length ≤ 9223372036854775807) :
    ∃ (m : Nat) (M : List (List UInt8)), Ts w A m M ∧ m ≤ c ∧ m ≤ 8 ∧ (∀ x ∈ M, x.length ≤ 9223372036854775807) ∧ ((8 < n ∧ m = 8) ∨ (¬ 8 < n ∧ n = m)) := by
  by_cases hbig : 8 < n
  · exact ⟨8, _, h.take (by omega), by omega, by omega, fun x hx => hlen x (List.mem_of_mem_take hx), .inl ⟨hbig, rfl⟩⟩
  · exact ⟨n, _, h, by omega, by omega, hlen, .inr ⟨hbig, rfl⟩⟩
set_option maxRecDepth 100000 in
set_option maxHeartbeats 1000000 in
theorem idsWithin_walk (A : Option Addr) (n c : Nat) (L : List (List UInt8)) (A' : Option Addr) (n' c' : Nat) (L' : List (List UInt8)) (w : World)
    (h : Ts w A n L) (h' : Ts w A' n' L') (hn : n ≤ c) (hc : c ≤ 9223372036854775807) (hn' : n' ≤ c') (hc' : c' ≤ 9223372036854775807) (hlen : ∀ x ∈ L, x.length ≤ 9223372036854775807) (hlen' : ∀ x ∈ L', x.length ≤ 9223372036854775807) :
    Calls Tryd.prog 9 #[.slice A n c, .slice A' n' c'] w fun e w' => e = .returned (.bool true) ∧ Below w.heap.size w w' := by
  obtain ⟨m, M, hM, hmc, hm8, hMl, hw1⟩ := cut8 h hn hlen
  obtain ⟨m', M', hM', hmc', hm8', hMl', hw2⟩ := cut8 h' hn' hlen'
  clear h h' hlen hlen'
  have a1 := within_any A m c M A' m' c' M' w hM hM' (by omega) (by omega) hMl
  have a2 := fun w1 (hb : Below w.heap.size w w1) => rwithin_any A m c M A' m' c' M' w1 (hM.below hb) (hM'.below hb) (by omega) (by omega)
  have a3 := fun w1 (hb : Below w.heap.size w w1) => within_any A m c M A m c M w1 (hM.below hb) (hM.below hb) (by omega) (by omega) hMl
  have a4 := fun w1 (hb : Below w.heap.size w w1) => within_any none 0 0 [] A' m' c' M' w1 (Ts.empty _ _) (hM'.below hb) (by omega) (by omega) (by simp)
  rw [within_self] at a3
  simp only [show withinOf [] M' = true from rfl] at a4
  generalize withinOf M M' = b at *
  have s1 : (b == b) = true := by simp
  have hlv := lives_any
  clear hM hM' hMl hMl'
  rcases hw1 with ⟨hw1, rfl⟩ | ⟨hw1, rfl⟩ <;> rcases hw2 with ⟨hw2, rfl⟩ | ⟨hw2, rfl⟩
  all_goals
    go_enter Tryd.func9, Tryd.ntmps9
    go_wp2_with fail
    refine a1.mono ?_
    rintro e w1 ⟨rfl, hb1⟩
    go_wp2_with fail
    refine (a2 _ hb1).mono ?_
    rintro e w' ⟨rfl, rfl⟩
    go_wp2_with fail
    refine (a3 _ hb1).mono ?_
    rintro e w2 ⟨rfl, hb2'⟩
    have hb2 := hb1.trans (hb2'.mono hb1.size)
    go_wp2_with fail
    refine (a4 _ hb2).mono ?_
    rintro e w3 ⟨rfl, hb3'⟩
    have hb3 := hb2.trans (hb3'.mono hb2.size)
    go_wp2_with fail
    refine (hlv _).mono ?_
    rintro e w4 ⟨rfl, hb4⟩
    go_wp2
    go_ret
    exact ⟨rfl, hb3.trans (hb4.mono hb3.size)⟩

set_option maxRecDepth 100000 in
set_option maxHeartbeats 1000000 in
theorem idsSets_walk (A : Option Addr) (n c : Nat) (L : List (List UInt8)) (w : World)
    (h : Ts w A n L) (_ : n ≤ c) (_ : c ≤ 9223372036854775807) (hlen : ∀ x ∈ L, x.length ≤ 9223372036854775807) :
    Calls Tryd.prog 4 #[.slice A n c] w fun e w' => e = .returned (.bool true) ∧ Below w.heap.size w w' := by
  obtain ⟨iT, hiT, hzT, hsT, hbT⟩ := info_parts infoT
  have HL := Lib.hid h.len
  have HLEN := Lib.hid hlen
  clear hlen
  go_enter Tryd.func4, Tryd.ntmps4
  go_wp2_with fail
  go_loopw [3, 4] (fun v i wr => ∃ (k : Nat) (A4 : Option Addr) (c4 : Nat) (M : List (List UInt8)), k ≤ n ∧ k ≤ 8 ∧ i = .int .i64 k ∧ v = .slice A4 k c4 ∧ k ≤ c4 ∧ wr.ownsRow w.heap.size 9 1 (.slice A4 k c4) k (tv M) ∧ Below w.heap.size w wr ∧ Hid (∀ x ∈ M, x.length ≤ 80)) (fun _ i _ => n - (intOf i).toNat)
  case atStart => exact ⟨0, none, 0, [], by omega, by omega, rfl, rfl, by omega, World.ownsRow_nil _ _ _ _, Below.refl _ _, Lib.hid (by simp)⟩
  case round =>
    obtain ⟨k, A4, c4, M, hk, hk8, rfl, rfl, hkc, hown, hb, HM⟩ := hrel
    by_cases hlt : k < n
    · by_cases h8 : k < 8
      · have hkL : k < L.length := by rw [HL.out]; exact hlt
        obtain ⟨blk, off, rfl, hcell⟩ := (h.below hb).lit hkL
        have hfew := few_any L[k] wr (HLEN.out _ (List.getElem_mem hkL))
        have hx80 : (L[k].take 80).length ≤ 80 := by rw [List.length_take]; omega
        generalize L[k].take 80 = x at *
        generalize L[k] = y at *
        have hi : (k : Int) < (n : Int) := by omega
        have e1 : tv (M ++ [x]) = tv M ++ [.string (str x)] := by rw [tv_append]; rfl
        have HE := Lib.hid e1
        have HM2 : Hid (∀ z ∈ M ++ [x], z.length ≤ 80) := Lib.hid (by
          intro z hz
          rcases List.mem_append.1 hz with hz | hz
          · exact HM.out z hz
          · simp at hz; subst hz; exact hx80)
        have h63 : k + 1 ≤ maxLen := by unfold maxLen; omega
        have hk16 : (k + 1) * 16 ≤ 140737488355328 := by omega
        have hB4 : w.heap.size ≤ wr.heap.size := hb.size
        clear e1 hx80
        go_wp2_with fail
        refine hfew.mono ?_
        rintro e w' ⟨rfl, rfl⟩
        go_wp2_with (at_builtin; go_must (refine wpList_push rfl (.tmp 20) (.tmp 26) 30 rfl w.heap.size iT (.string ⟨#[]⟩) 16 Tryd.underlying30 hiT hzT hsT hbT rfl _ _ _ rfl hown rfl rfl h63 hk16 hB4 ?_))
        intro A8 c8 w8 hown8 g7 g8 hgr
        have hb8 : Below w.heap.size w w8 := below_push hb hgr hB4 hown (Nat.le_refl _)
        rw [← HE.out] at hown8
        clear hgr hown
        go_wp2_with fail
        go_roundw
        case rel => exact ⟨k + 1, A8, c8, M ++ [x], by omega, by omega, by go_num, rfl, g7, hown8, hb8, HM2⟩
        case measure => simp [intOf]; omega
      · obtain rfl : k = 8 := by omega
        have hTs := Ts.of_own hown
        have hnil : A4 = none → 8 = 0 := fun e => by
          rcases Nat.eq_zero_or_pos 8 with h0 | h0
          · exact h0
          · obtain ⟨g, hg, _⟩ := own_some hown h0
            rw [e] at hg
            cases hg
        have hMl : ∀ x ∈ M, x.length ≤ 9223372036854775807 := fun x hx => by have := HM.out x hx; omega
        have hs1 := set_any A4 8 c4 M wr hTs (by omega) hnil hMl
        clear hown hnil
        go_wp2_with fail
        refine hs1.mono ?_
        rintro e w1 ⟨A1, m1, c1, rfl, g1, o1, hb1⟩
        have hs2 := rset_any A4 8 c4 M w1 (hTs.below hb1) (by omega) hMl
        clear hs1 hMl
        go_wp2_with fail
        refine hs2.mono ?_
        rintro e w2 ⟨A2, m2, c2, rfl, g2, o2, hb2⟩
        have t1 := (Ts.of_own o1).below hb2
        have t2 := Ts.of_own o2
        obtain ⟨h11, h12⟩ := own_le o1
        obtain ⟨h21, h22⟩ := own_le o2
        have hB : Below w.heap.size w w2 := (hb.trans (hb1.mono hb.size)).trans (hb2.mono (by have := hb.size; have := hb1.size; omega))
        clear hs2 o1 o2 hTs
        generalize (Ids.setOf M).1.getD [] = R at *
        generalize (Ids.setOf M).2 = x at *
        have s1 : (((x : Nat) : Int) == (x : Int)) = true := by simp
        go_wp2_with fail
        refine (same_any _ _ _ _ _ _ _ _ _ t1 t2 (by omega) (by omega)).mono ?_
        rintro e w3 ⟨rfl, hb3⟩
        rw [decide_eq_true (rfl : R = R)]
        have hB3 := hB.trans (hb3.mono hB.size)
        clear t1 t2
        go_wp2_with fail
        refine (lives_any _).mono ?_
        rintro e w4 ⟨rfl, hb4⟩
        go_wp2
        go_ret
        exact ⟨rfl, hB3.trans (hb4.mono hB3.size)⟩
    · have hTs := Ts.of_own hown
      have hnil : A4 = none → k = 0 := fun e => by
        rcases Nat.eq_zero_or_pos k with h0 | h0
        · exact h0
        · obtain ⟨g, hg, _⟩ := own_some hown h0
          rw [e] at hg
          cases hg
      have hMl : ∀ x ∈ M, x.length ≤ 9223372036854775807 := fun x hx => by have := HM.out x hx; omega
      have hs1 := set_any A4 k c4 M wr hTs (by omega) hnil hMl
      clear hown hnil
      go_wp2_with fail
      refine hs1.mono ?_
      rintro e w1 ⟨A1, m1, c1, rfl, g1, o1, hb1⟩
      have hs2 := rset_any A4 k c4 M w1 (hTs.below hb1) (by omega) hMl
      clear hs1 hMl
      go_wp2_with fail
      refine hs2.mono ?_
      rintro e w2 ⟨A2, m2, c2, rfl, g2, o2, hb2⟩
      have t1 := (Ts.of_own o1).below hb2
      have t2 := Ts.of_own o2
      obtain ⟨h11, h12⟩ := own_le o1
      obtain ⟨h21, h22⟩ := own_le o2
      have hB : Below w.heap.size w w2 := (hb.trans (hb1.mono hb.size)).trans (hb2.mono (by have := hb.size; have := hb1.size; omega))
      clear hs2 o1 o2 hTs
      generalize (Ids.setOf M).1.getD [] = R at *
      generalize (Ids.setOf M).2 = x at *
      have s1 : (((x : Nat) : Int) == (x : Int)) = true := by simp
      go_wp2_with fail
      refine (same_any _ _ _ _ _ _ _ _ _ t1 t2 (by omega) (by omega)).mono ?_
      rintro e w3 ⟨rfl, hb3⟩
      rw [decide_eq_true (rfl : R = R)]
      have hB3 := hB.trans (hb3.mono hB.size)
      clear t1 t2
      go_wp2_with fail
      refine (lives_any _).mono ?_
      rintro e w4 ⟨rfl, hb4⟩
      go_wp2
      go_ret
      exact ⟨rfl, hB3.trans (hb4.mono hB3.size)⟩
theorem own_cells {w : World} {base m c : Nat} {A : Option Addr} {R : List (List UInt8)} (h : w.ownsRow base 9 1 (.slice A m c) m (tv R)) (hm : 0 < m) : ∃ g, A = some ⟨g, 0, none⟩ ∧ base ≤ g ∧ ∀ j, j < m → (∃ v, w.cell? ⟨g, j, none⟩ = some v) ∧ w.frozen? ⟨g, j, none⟩ = false := by
  rcases h.2 with ⟨_, h0⟩ | ⟨g, cap, cur, e, hb, hg, hn, _, hs, _⟩
  · omega
  · injection e with e1 _ e3
    subst e1 e3
    refine ⟨g, rfl, hb, fun j hj => ⟨?_, frozen_of_row _ _ _ _ _ hg⟩⟩
    have hjc : j < cur.size := by omega
    refine ⟨cur[j], ?_⟩
    simp only [World.cell?, hg]
    simp [hjc]
theorem Ts.blk {w : World} {A : Option Addr} {n : Nat} {L : List (List UInt8)} (h : Ts w A n L) (hn : 0 < n) : ∀ a, A = some a → a.block < w.heap.size := by
  intro a ha
  have hl := h.len
  obtain ⟨ad, e, hb, _⟩ := Vs.rd h 0 (.string (str (L[0]'(by omega)))) (by simp [tv, show 0 < L.length by omega])
  rw [ha] at e
  injection e with e
  subst e
  exact hb
set_option maxRecDepth 100000 in
set_option maxHeartbeats 1000000 in
theorem idsOwns_walk (A : Option Addr) (n c : Nat) (L : List (List UInt8)) (w : World)
    (h : Ts w A n L) (hn : n ≤ c) (hc : c ≤ 9223372036854775807) (hnil : A = none → n = 0) (hlen : ∀ x ∈ L, x.length ≤ 9223372036854775807) :
    Calls Tryd.prog 5 #[.slice A n c] w fun e w' => e = .returned (.bool true) ∧ Below w.heap.size w w' := by
  obtain ⟨iT, hiT, hzT, hsT, hbT⟩ := info_parts infoT
  obtain ⟨m, M, hM, hmc, hm8, hMl, hw1⟩ := cut8 h hn hlen
  have hnil' : A = none → m = 0 := fun e => by have := hnil e; omega
  clear h hlen hnil
  have h63 : 0 + m ≤ maxLen := by unfold maxLen; omega
  rcases hw1 with ⟨hw1, rfl⟩ | ⟨hw1, rfl⟩
  all_goals
    go_enter Tryd.func5, Tryd.ntmps5
    go_wp2_with (at_builtin; go_must (refine wpList_append w rfl (.tmp 12) (.tmp 13) 30 rfl w.heap.size 9 iT (.string ⟨#[]⟩) 1 16 Tryd.underlying30 hiT hzT hsT hbT rfl (by omega) _ 0 [] rfl (World.ownsRow_nil _ _ _ _) w.heap.size _ _ _ _ rfl hM (tv_one _) h63 (by omega) (Nat.le_refl _) ?_))
    intro A1 c1 w1 hown1 g1 g2 hgr
    have hb1 : Below w.heap.size w w1 := Mem.below_grown (Below.refl _ _) hgr (Nat.le_refl _) (World.ownsRow_nil w w.heap.size 9 1)
    have hM1 := hM.below hb1
    have hW1 := Ts.of_own hown1
    have hset := set_any A _ c M w1 hM1 (by omega) hnil' hMl
    clear hgr hown1 hnil'
    go_wp2_with fail
    refine hset.mono ?_
    rintro e w2 ⟨A2, m2, c2, rfl, h22, o2, hb2⟩
    have hM2 := hM1.below hb2
    have hW2 := hW1.below hb2
    have t2 := Ts.of_own o2
    have h23 := (own_le o2).2
    have hB2 : Below w.heap.size w w2 := hb1.trans (hb2.mono hb1.size)
    generalize (Ids.setOf M).1.getD [] = R at *
    generalize (Ids.setOf M).2 = x at *
    clear hset hM1
    by_cases hm0 : m2 = 0
    · subst hm0
      clear t2 o2
      go_wp2_with fail
      go_loopw [6] (fun i wr => i = .int .i64 0 ∧ wr = w2) (fun _ _ => 0)
      case atStart => exact ⟨rfl, rfl⟩
      case round =>
        obtain ⟨rfl, rfl⟩ := hrel
        go_wp2_with fail
        refine (same_any _ _ _ _ _ _ _ _ _ hM2 hW2 (by omega) (by omega)).mono ?_
        rintro e w3 ⟨rfl, hb3⟩
        rw [decide_eq_true (rfl : M = M)]
        have hB3 := hB2.trans (hb3.mono hB2.size)
        go_wp2_with fail
        refine (lives_any _).mono ?_
        rintro e w4 ⟨rfl, hb4⟩
        go_wp2
        go_ret
        exact ⟨rfl, hB3.trans (hb4.mono hB3.size)⟩
    · obtain ⟨g, rfl, hgw, hcl⟩ := own_cells o2 (by omega)
      have hgM : ∀ a, A = some a → 0 < _ → a.block ∉ [g] := fun a ha hp => by have := hM.blk hp a ha; have := hb1.size; simp; omega
      have hgW : ∀ a, A1 = some a → 0 < _ → a.block ∉ [g] := fun a ha hp => by have := hW1.blk hp a ha; simp; omega
      clear t2 o2 hW1
      go_wp2_with fail
      go_loopw [6] (fun i wr => ∃ k : Nat, k ≤ m2 ∧ i = .int .i64 k ∧ Chg [g] w2 wr ∧ Hid (∀ j, j < m2 → (∃ v, wr.cell? ⟨g, j, none⟩ = some v) ∧ wr.frozen? ⟨g, j, none⟩ = false)) (fun i _ => m2 - (intOf i).toNat)
      case atStart => exact ⟨0, by omega, rfl, Chg.refl _ _, Lib.hid hcl⟩
      case round =>
        obtain ⟨k, hk, rfl, hch, HC⟩ := hrel
        by_cases hlt : k < m2
        · obtain ⟨⟨v, hv⟩, hfz⟩ := HC.out k hlt
          have hi : (k : Int) < (m2 : Int) := by omega
          have hch2 := hch.setCell (p := ⟨g, k, none⟩) (.inl (by simp)) (.string ⟨#[120]⟩)
          have HC2 : Hid (∀ j, j < m2 → (∃ v, (wr.setCell ⟨g, k, none⟩ (.string ⟨#[120]⟩)).cell? ⟨g, j, none⟩ = some v) ∧ (wr.setCell ⟨g, k, none⟩ (.string ⟨#[120]⟩)).frozen? ⟨g, j, none⟩ = false) := Lib.hid (fun j hj => by
            obtain ⟨⟨u, hu⟩, hf⟩ := HC.out j hj
            refine ⟨?_, (World.frozen?_setCell _ _ _ _).trans hf⟩
            by_cases e : k = j
            · subst e
              exact ⟨_, World.cell?_setCell_same _ _ _ hv⟩
            · exact ⟨u, (World.cell?_setCell_other _ _ _ _ (fun h => e (by cases h; rfl))).trans hu⟩)
          go_wp2_with fail
          go_roundw
          case rel => exact ⟨k + 1, by omega, by go_num, hch2, HC2⟩
          case measure => simp [intOf]; omega
        · have hM3 := hM2.chg hgM hch
          have hW3 := hW2.chg hgW hch
          have hBr : Below w.heap.size w wr := hB2.trans (hch.below' hB2.size (by intro s hs; simp at hs; have := hb1.size; omega))
          clear hM2 hW2
          go_wp2_with fail
          refine (same_any _ _ _ _ _ _ _ _ _ hM3 hW3 (by omega) (by omega)).mono ?_
          rintro e w3 ⟨rfl, hb3⟩
          rw [decide_eq_true (rfl : M = M)]
          have hB3 := hBr.trans (hb3.mono hBr.size)
          clear hM3 hW3
          go_wp2_with fail
          refine (lives_any _).mono ?_
          rintro e w4 ⟨rfl, hb4⟩
          go_wp2
          go_ret
          exact ⟨rfl, hB3.trans (hb4.mono hB3.size)⟩
end Go.Proofs.YtjndogfbhhbfcaaDoor
