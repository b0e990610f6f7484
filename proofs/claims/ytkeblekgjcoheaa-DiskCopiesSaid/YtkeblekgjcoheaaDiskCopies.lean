/- THE WALK of DiskCopies. -/
import Derived.Test.YtkeblekgjcoheaaDiskStays
import Derived.Deep.CutBlock
import Derived.Deep.DeepCutAuto
namespace Go.Proofs.Ytkeblekgjcoheaa
open Go.RowKit Mem

/-- A row of one's own: its cells stand and take a byte. -/
def Room (w : World) (base : Nat) (A : Option Addr) (n : Nat) : Prop := ∀ k, k < n → ∃ g, A = some ⟨g, 0, none⟩ ∧ base ≤ g ∧ (∃ u : UInt8, w.cell? ⟨g, k, none⟩ = some (.int .u8 (u.toNat : Int))) ∧ w.frozen? ⟨g, k, none⟩ = false
theorem Room.of_own {w : World} {base n c : Nat} {A : Option Addr} {e : TypeId} {l : List UInt8} (h : w.ownsRow base e 1 (.slice A n c) n (bv l)) : Room w base A n := by
  have hb := Bs.of_own h
  have hln := hb.len
  intro k hk
  obtain ⟨ad, hl, rfl, hlt, hcell⟩ := hb.at_ hk
  rcases h.2 with ⟨h1, _⟩ | ⟨g, cap, cur, hv, hg, hw, _⟩
  · cases h1
  · injection hv with h1
    injection h1 with h1
    subst h1
    rw [zero_add_] at hcell
    exact ⟨g, rfl, hg, ⟨_, hcell⟩, frozen_of_row w g k cur e hw⟩
theorem Room.set {w : World} {base n g k : Nat} {A : Option Addr} (h : Room w base A n) (hA : A = some ⟨g, 0, none⟩) : Room (w.setCell ⟨g, k, none⟩ (.int .u8 9)) base A n := by
  intro j hj
  obtain ⟨g', hA', hg, ⟨u, hu⟩, hf⟩ := h j hj
  rw [hA] at hA'
  injection hA' with h1
  injection h1 with h1
  subst h1
  refine ⟨g, hA, hg, ?_, by simpa using hf⟩
  by_cases hjk : k = j
  · subst hjk
    exact ⟨9, setc_same w g k _ _ hu⟩
  · exact ⟨u, (setc_ne w g k j _ hjk).trans hu⟩

set_option maxHeartbeats 4000000 in
theorem diskCopies_walk (A : Option Addr) (n c : Nat) (L : List Deed) (A2 : Option Addr) (n2 c2 : Nat) (L2 : List Deed) (w : World) (hd : Deeds w w.heap.size A n L) (hn : n ≤ c) (_hc : c ≤ 9223372036854775807)
    (hd2 : Deeds w w.heap.size A2 n2 L2) (hn2 : n2 ≤ c2) (_hc2 : c2 ≤ 9223372036854775807) :
    Calls Try.prog 6 #[.slice A n c, .slice A2 n2 c2] w fun e w' => e = .returned (.bool true) ∧ Below w.heap.size w w' := by
  have hL := hd.len
  have HL := Lib.hid hL
  have hL2 := hd2.len
  have HL2 := Lib.hid hL2
  clear hL hL2
  have hnew := new_any 6 w (by omega) (by omega)
  go_enter Try.func6, Try.ntmps6
  go_wp2_with fail
  refine hnew.mono ?_
  rintro e w1 ⟨p, g, rfl, i1, hb1, hp, hg⟩
  go_wp2_with fail
  refine (refnew_any 6 w1 (by omega) (by omega)).mono ?_
  rintro e w2 ⟨q, r, rfl, j2, hb2, hq, hr⟩
  have hb12 : Below w.heap.size w w2 := hb1.trans (hb2.mono hb1.size)
  have hq' : w.heap.size ≤ q := Nat.le_trans hb1.size hq
  have hr' : w.heap.size ≤ r := Nat.le_trans hb1.size hr
  have hpq : p ≠ q ∧ p ≠ r ∧ g ≠ q ∧ g ≠ r := by
    have := i1.plt
    have := i1.glt
    omega
  have i2 := i1.chg (Chg.of_below hb2 (S := [])) (by simp) (by simp)
  clear i1 hnew hb1 hb2 hq hr
  go_upto_block 0 with fail
  go_cut [7] (fun s7 wx => ∃ d : DS, IsDisk wx p g d ∧ IsRef wx q r d ∧ d.writes ≤ 15 ∧ Below w.heap.size w wx)
  case first =>
    go_wp2_with fail
    go_loopw [7] (fun i wr => ∃ k : Nat, ∃ d : DS, k ≤ n ∧ k ≤ 15 ∧ i = .int .i64 k ∧ IsDisk wr p g d ∧ IsRef wr q r d ∧ d.writes ≤ k ∧ Below w.heap.size w wr) (fun i _ => n - (intOf i).toNat)
    case atStart => exact ⟨0, _, by omega, by omega, rfl, i2, j2, by simp [DS.fresh], hb12⟩
    case round =>
      obtain ⟨k, d, hkn, hk30, rfl, i3, j3, hwr, hb3⟩ := hrel
      clear i2 j2 hb12
      by_cases hend : k < n ∧ k < 15
      · obtain ⟨e1, e2⟩ := hend
        have hkL : k < L.length := by rw [HL.out]; exact e1
        obtain ⟨b, o, rfl, hbb, c0, c1, c2, x1, x2, x3, _⟩ := hd.at_ k hkL
        have cell0 := (hb3.cell (p := ⟨b, o + k * 3, none⟩) hbb).trans c0
        have cell1 := (hb3.cell (p := ⟨b, o + k * 3 + 1, none⟩) hbb).trans c1
        have cell2 := (hb3.cell (p := ⟨b, o + k * 3 + 2, none⟩) hbb).trans c2
        have hbytes := hd.bytes hb3 hp hg hq' hr' hkL
        generalize L[k] = D at *
        have hdoes := does_any i3 j3 hpq D.kd D.x x1 x2 D.A D.n D.c D.l x3 hbytes (by omega) (by omega)
        clear c0 c1 c2 hd hd2
        go_wp2_with fail
        refine hdoes.mono ?_
        rintro e w4 ⟨bb, rfl, _, i4, j4, hc4⟩
        have hb4 : Below w.heap.size w w4 := hb3.trans (hc4.below' hb3.size (by intro s hs; simp at hs; omega))
        go_wp2
        go_roundw
        case rel => exact ⟨k + 1, d.deed D.kd D.x (D.l.take 140), by omega, by omega, by go_num, i4, j4, Nat.le_trans (deed_writes _ _ _ _) (by omega), hb4⟩
        case measure => simp [intOf]; omega
      · by_cases e1 : k < n
        · obtain rfl : k = 15 := by omega
          go_wp2_with fail
          go_meet
          exact ⟨d, i3, j3, hwr, hb3⟩
        · obtain rfl : k = n := by omega
          go_wp2_with fail
          go_meet
          exact ⟨d, i3, j3, by omega, hb3⟩
  case rest =>
    obtain ⟨d, i3, j3, hwr, hb3⟩ := hcut
    clear i2 j2 hb12
    go_wp2_with fail
    refine (copy_any i3).mono ?_
    rintro e w3 ⟨p2, g2, rfl, i4, hb4, hp2, hg2⟩
    have pl := i3.plt
    have gl := i3.glt
    have ql := j3.qlt
    have rl := j3.rlt
    have hs3 := hb3.size
    have i5 := i3.chg (Chg.of_below hb4 (S := [])) (by simp) (by simp)
    have j5 := j3.chg (Chg.of_below hb4 (S := [])) (by simp) (by simp)
    have hb5 := hb3.trans (hb4.mono hb3.size)
    have hp2' : w.heap.size ≤ p2 := Nat.le_trans hs3 hp2
    have hg2' : w.heap.size ≤ g2 := Nat.le_trans hs3 hg2
    clear i3 j3 hb3 hb4
    go_upto_block 2 with fail
    go_cut [9] (fun s9 wx => IsDisk wx p g d ∧ IsRef wx q r d ∧ Below w.heap.size w wx)
    case first =>
      go_wp2_with fail
      go_loopw [9] (fun i wr => ∃ k : Nat, ∃ d2 : DS, k ≤ n2 ∧ k ≤ 15 ∧ i = .int .i64 k ∧ IsDisk wr p2 g2 d2 ∧ IsDisk wr p g d ∧ IsRef wr q r d ∧ d2.writes ≤ 15 + k ∧ Below w.heap.size w wr) (fun i _ => n2 - (intOf i).toNat)
      case atStart => exact ⟨0, d, by omega, by omega, rfl, i4, i5, j5, by omega, hb5⟩
      case round =>
        obtain ⟨k, d2, hkn, hk30, rfl, ic, id, jd, hwr2, hb6⟩ := hrel
        clear i4 i5 j5 hb5
        by_cases hend : k < n2 ∧ k < 15
        · obtain ⟨e1, e2⟩ := hend
          have hkL : k < L2.length := by rw [HL2.out]; exact e1
          obtain ⟨b, o, rfl, hbb, c0, c1, c2, x1, x2, x3, _⟩ := hd2.at_ k hkL
          go_wp2_with fail
          refine (refnew_any 6 wr (by omega) (by omega)).mono ?_
          rintro e w7 ⟨q3, r3, rfl, j7, hb7, hq3, hr3⟩
          have hb67 := hb6.trans (hb7.mono hb6.size)
          have ic7 := ic.chg (Chg.of_below hb7 (S := [])) (by simp) (by simp)
          have id7 := id.chg (Chg.of_below hb7 (S := [])) (by simp) (by simp)
          have jd7 := jd.chg (Chg.of_below hb7 (S := [])) (by simp) (by simp)
          have cell0 := (hb67.cell (p := ⟨b, o + k * 3, none⟩) hbb).trans c0
          have cell1 := (hb67.cell (p := ⟨b, o + k * 3 + 1, none⟩) hbb).trans c1
          have cell2 := (hb67.cell (p := ⟨b, o + k * 3 + 2, none⟩) hbb).trans c2
          have pl2 := ic.plt
          have gl2 := ic.glt
          have pl3 := id.plt
          have gl3 := id.glt
          have ql3 := jd.qlt
          have rl3 := jd.rlt
          have hs6 := hb6.size
          have hbytes := hd2.bytes hb67 hp2' hg2' (show w.heap.size ≤ q3 by omega) (show w.heap.size ≤ r3 by omega) hkL
          generalize L2[k] = D at *
          have hdoes := does_any ic7 j7 ⟨by omega, by omega, by omega, by omega⟩ D.kd D.x x1 x2 D.A D.n D.c D.l x3 hbytes (by omega) (by simp [DS.fresh])
          clear c0 c1 c2 hd hd2 hb7 ic id jd
          go_wp2_with fail
          refine hdoes.mono ?_
          rintro e w8 ⟨bb, rfl, _, ic8, _, hc8⟩
          have hb8 : Below w.heap.size w w8 := hb67.trans (hc8.below' hb67.size (by intro s hs; simp at hs; omega))
          have id8 := id7.chg hc8 (by simp; omega) (by simp; omega)
          have jd8 := jd7.chg hc8 (by simp; omega) (by simp; omega)
          go_wp2
          go_roundw
          case rel => exact ⟨k + 1, d2.deed D.kd D.x (D.l.take 140), by omega, by omega, by go_num, ic8, id8, jd8, Nat.le_trans (deed_writes _ _ _ _) (by omega), hb8⟩
          case measure => simp [intOf]; omega
        · by_cases e1 : k < n2
          · obtain rfl : k = 15 := by omega
            go_wp2_with fail
            go_meet
            exact ⟨id, jd, hb6⟩
          · obtain rfl : k = n2 := by omega
            go_wp2_with fail
            go_meet
            exact ⟨id, jd, hb6⟩
    case rest =>
      obtain ⟨i6, j6, hb6⟩ := hcut
      clear i4 i5 j5 hb5
      go_wp2_with fail
      refine (read_any i6 0).mono ?_
      rintro e w7 ⟨A7, n7, c7, rfl, g1, g2, hown, hb7⟩
      have room := Room.of_own hown
      have i7 := i6.chg (Chg.of_below hb7 (S := [])) (by simp) (by simp)
      have j7 := j6.chg (Chg.of_below hb7 (S := [])) (by simp) (by simp)
      have hb67 := hb6.trans (hb7.mono hb6.size)
      have pl6 := i6.plt
      have gl6 := i6.glt
      have ql6 := j6.qlt
      have rl6 := j6.rlt
      have hs6 := hb6.size
      clear i6 j6 hown hb7
      go_wp2_with fail
      go_loopw [13] (fun i wr => ∃ k : Nat, k ≤ n7 ∧ i = .int .i64 k ∧ IsDisk wr p g d ∧ IsRef wr q r d ∧ Room wr wc.heap.size A7 n7 ∧ Below w.heap.size w wr) (fun i _ => n7 - (intOf i).toNat)
      case atStart => exact ⟨0, by omega, rfl, i7, j7, room, hb67⟩
      case round =>
        obtain ⟨k, hk, rfl, i8, j8, room8, hb8⟩ := hrel
        clear i7 j7 room hb67
        by_cases hlt : k < n7
        · obtain ⟨g8, rfl, hg8, ⟨u, hu⟩, hf⟩ := room8 k hlt
          have hc8 : Chg [g8] wr (wr.setCell ⟨g8, k, none⟩ (.int .u8 9)) := (Chg.refl [g8] wr).setCell (.inl (by simp)) _
          have i9 := i8.chg hc8 (by simp; omega) (by simp; omega)
          have j9 := j8.chg hc8 (by simp; omega) (by simp; omega)
          have room9 := room8.set (k := k) rfl
          have hb9 : Below w.heap.size w (wr.setCell ⟨g8, k, none⟩ (.int .u8 9)) := hb8.trans (hc8.below' hb8.size (by intro s hs; simp at hs; omega))
          go_wp2
          go_roundw
          case rel => exact ⟨k + 1, by omega, by go_num, i9, j9, room9, hb9⟩
          case measure => simp [intOf]; omega
        · obtain rfl : k = n7 := by omega
          go_wp2_with fail
          refine (like_any i8 j8).mono ?_
          rintro e w9 ⟨rfl, hb9⟩
          have hb89 := hb8.trans (hb9.mono hb8.size)
          go_wp2_with fail
          refine (lives_any _).mono ?_
          rintro e w10 ⟨rfl, hb10⟩
          go_wp2
          go_ret
          exact ⟨rfl, hb89.trans (hb10.mono hb89.size)⟩
end Go.Proofs.Ytkeblekgjcoheaa
