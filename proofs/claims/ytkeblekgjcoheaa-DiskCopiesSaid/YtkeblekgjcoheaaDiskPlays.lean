/- THE WALKS of DiskSizes and DiskPlays. -/
import Derived.Test.YtkeblekgjcoheaaDiskOpen
namespace Go.Proofs.Ytkeblekgjcoheaa
open Go.RowKit Mem

theorem new_none (x : Int) (w : World) (h : x < 1 ∨ 256 < x) : Calls Try.prog 7 #[.int .i64 x] w fun e w' => e = .returned (.pointer none) ∧ w = w' := by
  by_cases h1 : x < 1
  · go_enter Try.func7, Try.ntmps7
    go_wp2
    go_ret
    exact ⟨rfl, rfl⟩
  · have h2 : 256 < x := by omega
    have h3 : 1 ≤ x := by omega
    clear h
    go_enter Try.func7, Try.ntmps7
    go_wp2
    go_ret
    exact ⟨rfl, rfl⟩
theorem refnew_none (x : Int) (w : World) (h : x < 1 ∨ 256 < x) : Calls Try.prog 11 #[.int .i64 x] w fun e w' => e = .returned (.pointer none) ∧ w = w' := by
  by_cases h1 : x < 1
  · go_enter Try.func11, Try.ntmps11
    go_wp2
    go_ret
    exact ⟨rfl, rfl⟩
  · have h2 : 256 < x := by omega
    have h3 : 1 ≤ x := by omega
    clear h
    go_enter Try.func11, Try.ntmps11
    go_wp2
    go_ret
    exact ⟨rfl, rfl⟩

set_option maxHeartbeats 1000000 in
theorem diskSizes_walk (x : Int) (w : World) (_wx : (Lit.int .i64 x).wf = true) : Calls Try.prog 4 #[.int .i64 x] w fun e w' => e = .returned (.bool true) ∧ Below w.heap.size w w' := by
  by_cases h : x < 1 ∨ 256 < x
  · have hn := new_none x w h
    rcases h with h | h
    · go_enter Try.func4, Try.ntmps4
      go_wp2_with fail
      refine hn.mono ?_
      rintro e w' ⟨rfl, rfl⟩
      go_wp2_with fail
      refine (lives_any w).mono ?_
      rintro e w1 ⟨rfl, hb⟩
      go_wp2
      go_ret
      exact ⟨rfl, hb⟩
    · have f1 : decide (x ≤ 256) = false := decide_eq_false (by omega)
      have f2 : decide (1 ≤ x) = true := decide_eq_true (by omega)
      have f3 : ¬ x ≤ 256 := by omega
      have f4 : 1 ≤ x := by omega
      have f5 : ¬ x < 1 := by omega
      go_enter Try.func4, Try.ntmps4
      go_wp2_with fail
      refine hn.mono ?_
      rintro e w' ⟨rfl, rfl⟩
      go_wp2_with fail
      refine (lives_any w).mono ?_
      rintro e w1 ⟨rfl, hb⟩
      go_wp2
      go_ret
      exact ⟨rfl, hb⟩
  · obtain ⟨n, rfl⟩ := Int.eq_ofNat_of_zero_le (show 0 ≤ x by omega)
    have h1 : 1 ≤ n := by omega
    have h2 : n ≤ 256 := by omega
    have hn := new_any n w h1 h2
    clear h
    go_enter Try.func4, Try.ntmps4
    go_wp2_with fail
    refine hn.mono ?_
    rintro e w1 ⟨p, g, rfl, i1, hb1, hp, hg⟩
    have hl := len_any i1
    have hlen : (DS.fresh n).secs.length = n := by simp [DS.fresh]
    rw [hlen] at hl
    go_wp2_with fail
    refine hl.mono ?_
    rintro e w' ⟨rfl, rfl⟩
    go_wp2_with fail
    refine (lives_any _).mono ?_
    rintro e w2 ⟨rfl, hb2⟩
    go_wp2
    go_ret
    exact ⟨rfl, hb1.trans (hb2.mono hb1.size)⟩

theorem deed_writes (d : DS) (kd x : Int) (l : List UInt8) : (d.deed kd x l).writes ≤ d.writes + 1 := by
  unfold DS.deed
  split
  · unfold DS.write
    split
    · omega
    · split
      · omega
      · split <;> simp
  · split
    · unfold DS.arm
      simp
    · split
      · unfold DS.up
        simp
      · omega

/-- A deed's bytes, wherever the two disks have come to. -/
theorem Deeds.bytes {w wr : World} {A : Option Addr} {n : Nat} {L : List Deed} {p g q r : Nat} (h : Deeds w w.heap.size A n L) (hb : Below w.heap.size w wr) (hp : w.heap.size ≤ p) (hg : w.heap.size ≤ g) (hq : w.heap.size ≤ q) (hr : w.heap.size ≤ r) {i : Nat} (hi : i < L.length) :
    ∀ W, Chg [p, g, q, r] wr W → Bs W W.heap.size L[i].A L[i].n L[i].l := fun W hW => by
  obtain ⟨b, o, _, _, _, _, _, _, _, _, h1⟩ := h.at_ i hi
  have h2 := Bs.below h1 hb
  have h3 := Bs.chg h2 hW hb.size (by intro s hs; simp at hs; omega)
  exact h3.mono (Nat.le_trans hb.size hW.size)

set_option maxHeartbeats 4000000 in
theorem diskPlays_walk (x : Int) (A : Option Addr) (n c : Nat) (L : List Deed) (w : World) (wx : (Lit.int .i64 x).wf = true) (hd : Deeds w w.heap.size A n L) (hn : n ≤ c) (_hc : c ≤ 9223372036854775807) :
    Calls Try.prog 5 #[.int .i64 x, .slice A n c] w fun e w' => e = .returned (.bool true) ∧ Below w.heap.size w w' := by
  obtain ⟨hx1, hx2⟩ := wf_int wx
  clear wx
  have hL := hd.len
  have HL := Lib.hid hL
  clear hL
  have split : (∃ m : Nat, 12 < m ∧ m ≤ 256 ∧ x = m ∧ m % 13 = 0) ∨ (∃ m : Nat, 12 < m ∧ m ≤ 256 ∧ x = m ∧ 1 ≤ m % 13) ∨ (∃ m : Nat, 1 ≤ m ∧ m ≤ 12 ∧ x = m) ∨ x < 1 ∨ 256 < x := by
    by_cases h1 : x < 1
    · exact .inr (.inr (.inr (.inl h1)))
    · by_cases h2 : 256 < x
      · exact .inr (.inr (.inr (.inr h2)))
      · obtain ⟨m, rfl⟩ := Int.eq_ofNat_of_zero_le (show 0 ≤ x by omega)
        by_cases h3 : m ≤ 12
        · exact .inr (.inr (.inl ⟨m, by omega, h3, rfl⟩))
        · by_cases h4 : m % 13 = 0
          · exact .inl ⟨m, by omega, by omega, rfl, h4⟩
          · exact .inr (.inl ⟨m, by omega, by omega, rfl, by omega⟩)
  rcases split with ⟨m, h1, h2, rfl, h3⟩ | ⟨m, h1, h2, rfl, h3⟩ | ⟨m, h1, h2, rfl⟩ | h | h
  · have hnew := new_none ((m : Int) % 13) w (by omega)
    have hnewr := refnew_none ((m : Int) % 13) w (by omega)
    have H3 := Lib.hid h3
    clear h3
    go_enter Try.func5, Try.ntmps5
    go_wp2_with fail
    refine hnew.mono ?_
    rintro e w' ⟨rfl, rfl⟩
    go_wp2_with fail
    refine hnewr.mono ?_
    rintro e w' ⟨rfl, rfl⟩
    go_wp2_with fail
    refine (lives_any _).mono ?_
    rintro e w2 ⟨rfl, hb2⟩
    go_wp2
    go_ret
    exact ⟨rfl, hb2⟩
  · have hnew := new_any (m % 13) w h3 (by omega)
    have hnewr := fun w1 => refnew_any (m % 13) w1 h3 (by omega)
    simp only [Int.natCast_emod] at hnew hnewr
    go_enter Try.func5, Try.ntmps5
    go_wp2_with fail
    refine hnew.mono ?_
    rintro e w1 ⟨p, g, rfl, i1, hb1, hp, hg⟩
    go_wp2_with fail
    refine (hnewr w1).mono ?_
    rintro e w2 ⟨q, r, rfl, i2, hb2, hq, hr⟩
    have hb12 : Below w.heap.size w w2 := hb1.trans (hb2.mono hb1.size)
    have hq' : w.heap.size ≤ q := Nat.le_trans hb1.size hq
    have hr' : w.heap.size ≤ r := Nat.le_trans hb1.size hr
    have hpq : p ≠ q ∧ p ≠ r ∧ g ≠ q ∧ g ≠ r := by
      have := i1.plt
      have := i1.glt
      omega
    have k1 := i1.chg (Chg.of_below hb2 (S := [])) (by simp) (by simp)
    clear i1 hnew hnewr hb1 hb2 hq hr
    go_wp2_with fail
    go_loopw [7] (fun i wr => ∃ k : Nat, ∃ d : DS, k ≤ n ∧ k ≤ 30 ∧ i = .int .i64 k ∧ IsDisk wr p g d ∧ IsRef wr q r d ∧ d.writes ≤ k ∧ Below w.heap.size w wr) (fun i _ => n - (intOf i).toNat)
    case atStart => exact ⟨0, _, by omega, by omega, rfl, k1, i2, by simp [DS.fresh], hb12⟩
    case round =>
      obtain ⟨k, d, hkn, hk30, rfl, i3, j3, hwr, hb3⟩ := hrel
      clear k1 i2 hb12
      by_cases hend : k < n ∧ k < 30
      · obtain ⟨e1, e2⟩ := hend
        have hkL : k < L.length := by rw [HL.out]; exact e1
        obtain ⟨b, o, rfl, hbb, c0, c1, c2, x1, x2, x3, _⟩ := hd.at_ k hkL
        have cell0 := (hb3.cell (p := ⟨b, o + k * 3, none⟩) hbb).trans c0
        have cell1 := (hb3.cell (p := ⟨b, o + k * 3 + 1, none⟩) hbb).trans c1
        have cell2 := (hb3.cell (p := ⟨b, o + k * 3 + 2, none⟩) hbb).trans c2
        have hbytes := hd.bytes hb3 hp hg hq' hr' hkL
        generalize L[k] = D at *
        have hdoes := does_any i3 j3 hpq D.kd D.x x1 x2 D.A D.n D.c D.l x3 hbytes (by omega) (by omega)
        clear c0 c1 c2 hd
        go_wp2_with fail
        refine hdoes.mono ?_
        rintro e w4 ⟨bb, rfl, hbt, i4, j4, hc4⟩
        obtain rfl := hbt rfl
        have hb4 : Below w.heap.size w w4 := hb3.trans (hc4.below' hb3.size (by intro s hs; simp at hs; omega))
        go_wp2_with fail
        refine (like_any i4 j4).mono ?_
        rintro e w5 ⟨rfl, hb5⟩
        go_wp2
        go_roundw
        case rel => exact ⟨k + 1, d.deed D.kd D.x (D.l.take 140), by omega, by omega, by go_num, i4.chg (Chg.of_below hb5 (S := [])) (by simp) (by simp), j4.chg (Chg.of_below hb5 (S := [])) (by simp) (by simp), Nat.le_trans (deed_writes _ _ _ _) (by omega), hb4.trans (hb5.mono hb4.size)⟩
        case measure => simp [intOf]; omega
      · by_cases e1 : k < n
        · obtain rfl : k = 30 := by omega
          go_wp2_with fail
          refine (lives_any _).mono ?_
          rintro e w4 ⟨rfl, hb4⟩
          go_wp2
          go_ret
          exact ⟨rfl, hb3.trans (hb4.mono hb3.size)⟩
        · obtain rfl : k = n := by omega
          go_wp2_with fail
          refine (lives_any _).mono ?_
          rintro e w4 ⟨rfl, hb4⟩
          go_wp2
          go_ret
          exact ⟨rfl, hb3.trans (hb4.mono hb3.size)⟩
  · have hnew := new_any m w h1 (by omega)
    go_enter Try.func5, Try.ntmps5
    go_wp2_with fail
    refine hnew.mono ?_
    rintro e w1 ⟨p, g, rfl, i1, hb1, hp, hg⟩
    go_wp2_with fail
    refine (refnew_any m w1 h1 (by omega)).mono ?_
    rintro e w2 ⟨q, r, rfl, i2, hb2, hq, hr⟩
    have hb12 : Below w.heap.size w w2 := hb1.trans (hb2.mono hb1.size)
    have hq' : w.heap.size ≤ q := Nat.le_trans hb1.size hq
    have hr' : w.heap.size ≤ r := Nat.le_trans hb1.size hr
    have hpq : p ≠ q ∧ p ≠ r ∧ g ≠ q ∧ g ≠ r := by
      have := i1.plt
      have := i1.glt
      omega
    have k1 := i1.chg (Chg.of_below hb2 (S := [])) (by simp) (by simp)
    clear i1 hnew hb1 hb2 hq hr
    go_wp2_with fail
    go_loopw [7] (fun i wr => ∃ k : Nat, ∃ d : DS, k ≤ n ∧ k ≤ 30 ∧ i = .int .i64 k ∧ IsDisk wr p g d ∧ IsRef wr q r d ∧ d.writes ≤ k ∧ Below w.heap.size w wr) (fun i _ => n - (intOf i).toNat)
    case atStart => exact ⟨0, _, by omega, by omega, rfl, k1, i2, by simp [DS.fresh], hb12⟩
    case round =>
      obtain ⟨k, d, hkn, hk30, rfl, i3, j3, hwr, hb3⟩ := hrel
      clear k1 i2 hb12
      by_cases hend : k < n ∧ k < 30
      · obtain ⟨e1, e2⟩ := hend
        have hkL : k < L.length := by rw [HL.out]; exact e1
        obtain ⟨b, o, rfl, hbb, c0, c1, c2, x1, x2, x3, _⟩ := hd.at_ k hkL
        have cell0 := (hb3.cell (p := ⟨b, o + k * 3, none⟩) hbb).trans c0
        have cell1 := (hb3.cell (p := ⟨b, o + k * 3 + 1, none⟩) hbb).trans c1
        have cell2 := (hb3.cell (p := ⟨b, o + k * 3 + 2, none⟩) hbb).trans c2
        have hbytes := hd.bytes hb3 hp hg hq' hr' hkL
        generalize L[k] = D at *
        have hdoes := does_any i3 j3 hpq D.kd D.x x1 x2 D.A D.n D.c D.l x3 hbytes (by omega) (by omega)
        clear c0 c1 c2 hd
        go_wp2_with fail
        refine hdoes.mono ?_
        rintro e w4 ⟨bb, rfl, hbt, i4, j4, hc4⟩
        obtain rfl := hbt rfl
        have hb4 : Below w.heap.size w w4 := hb3.trans (hc4.below' hb3.size (by intro s hs; simp at hs; omega))
        go_wp2_with fail
        refine (like_any i4 j4).mono ?_
        rintro e w5 ⟨rfl, hb5⟩
        go_wp2
        go_roundw
        case rel => exact ⟨k + 1, d.deed D.kd D.x (D.l.take 140), by omega, by omega, by go_num, i4.chg (Chg.of_below hb5 (S := [])) (by simp) (by simp), j4.chg (Chg.of_below hb5 (S := [])) (by simp) (by simp), Nat.le_trans (deed_writes _ _ _ _) (by omega), hb4.trans (hb5.mono hb4.size)⟩
        case measure => simp [intOf]; omega
      · by_cases e1 : k < n
        · obtain rfl : k = 30 := by omega
          go_wp2_with fail
          refine (lives_any _).mono ?_
          rintro e w4 ⟨rfl, hb4⟩
          go_wp2
          go_ret
          exact ⟨rfl, hb3.trans (hb4.mono hb3.size)⟩
        · obtain rfl : k = n := by omega
          go_wp2_with fail
          refine (lives_any _).mono ?_
          rintro e w4 ⟨rfl, hb4⟩
          go_wp2
          go_ret
          exact ⟨rfl, hb3.trans (hb4.mono hb3.size)⟩
  · have hnew := new_none x w (.inl h)
    have hnewr := refnew_none x w (.inl h)
    go_enter Try.func5, Try.ntmps5
    go_wp2_with fail
    refine hnew.mono ?_
    rintro e w' ⟨rfl, rfl⟩
    go_wp2_with fail
    refine hnewr.mono ?_
    rintro e w' ⟨rfl, rfl⟩
    go_wp2_with fail
    refine (lives_any _).mono ?_
    rintro e w2 ⟨rfl, hb2⟩
    go_wp2
    go_ret
    exact ⟨rfl, hb2⟩
  · have hnew := new_none x w (.inr h)
    have hnewr := refnew_none x w (.inr h)
    have f1 : decide (x ≤ 256) = false := decide_eq_false (by omega)
    have f3 : ¬ x ≤ 256 := by omega
    have f5 : 12 < x := by omega
    go_enter Try.func5, Try.ntmps5
    go_wp2_with fail
    refine hnew.mono ?_
    rintro e w' ⟨rfl, rfl⟩
    go_wp2_with fail
    refine hnewr.mono ?_
    rintro e w' ⟨rfl, rfl⟩
    go_wp2_with fail
    refine (lives_any _).mono ?_
    rintro e w2 ⟨rfl, hb2⟩
    go_wp2
    go_ret
    exact ⟨rfl, hb2⟩
end Go.Proofs.Ytkeblekgjcoheaa
