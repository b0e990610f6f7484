/- THE WALK of DiskStays, k below nought. -/
import Derived.Test.YtkeblekgjcoheaaDiskStays
namespace Go.Proofs.Ytkeblekgjcoheaa
open Go.RowKit Mem

set_option maxHeartbeats 4000000 in
theorem stays_neg (m k : Nat) (hm : m ≤ 9223372036854775807) (hk8 : k < 8) (hmk : Hid ((m : Int) % 8 = (k : Int))) (A : Option Addr) (n c : Nat) (L : List Deed) (B : Option Addr) (n2 c2 : Nat) (l2 : List UInt8) (w : World) (hd : Deeds w w.heap.size A n L) (hn : n ≤ c)
    (hd2 : Bs w w.heap.size B n2 l2) (hn2 : n2 ≤ c2) :
    Calls Try.prog 3 #[.slice A n c, .int .i64 (-(m : Int) - 1), .slice B n2 c2] w fun e w' => e = .returned (.bool true) ∧ Below w.heap.size w w' := by
  have hL := hd.len
  have HL := Lib.hid hL
  clear hL
  obtain ⟨q2, hq2⟩ : ∃ k, min n2 140 = k := ⟨_, rfl⟩
  have Hq := Lib.hid hq2
  have hlt : Bs w w.heap.size B q2 (l2.take 140) := by
    have := hd2.take (k := min n2 140) (Nat.min_le_left _ _)
    rw [hq2] at this
    rw [show l2.take 140 = l2.take q2 by rw [← hq2, ← hd2.len, Nat.min_comm, ← List.take_take, List.take_length]]
    exact this
  have hq140 : q2 ≤ 140 := by omega
  generalize l2.take 140 = lt at hlt
  have hltl := hlt.len
  have HLT := Lib.hid hltl
  clear hltl hq2 hd2
  have hmod := hmk.out
  have hnew := new_any 8 w (by omega) (by omega)
  go_enter Try.func3, Try.ntmps3
  go_wp2_with fail
  refine hnew.mono ?_
  rintro e w1 ⟨p, g, rfl, i1, hb1, hp, hg⟩
  go_wp2_with fail
  refine (few_at _ _ _ _ _ hn2 Hq).mono ?_
  rintro e w' ⟨rfl, rfl⟩
  go_wp2_with fail
  have hkW : ∀ W, Chg [p, g] w1 W → Bs W W.heap.size B q2 lt := fun W hW =>
    ((hlt.below hb1).chg hW hb1.size (by intro s hs; simp at hs; omega)).mono (Nat.le_trans hb1.size hW.size)
  have hwrt := write_any i1 k B q2 c2 lt hkW (by simp [DS.fresh])
  by_cases hbig : 128 < q2
  · rw [fresh_write_bad k lt (by rw [HLT.out]; exact hbig)] at hwrt
    refine hwrt.mono ?_
    rintro e w2 ⟨rfl, _, hc2⟩
    have hb2 : Below w.heap.size w w2 := hb1.trans (hc2.below' hb1.size (by intro s hs; simp at hs; omega))
    clear hwrt hkW
    go_wp2_with fail
    refine (few_at _ _ _ _ _ hn2 Hq).mono ?_
    rintro e w' ⟨rfl, rfl⟩
    go_wp2_with fail
    refine (lives_any _).mono ?_
    rintro e w4 ⟨rfl, hb4⟩
    go_wp2
    go_ret
    exact ⟨rfl, hb2.trans (hb4.mono hb2.size)⟩
  · obtain ⟨f1, f2, f3, f4⟩ := fresh_write k lt hk8 (by rw [HLT.out]; omega)
    rw [f1] at hwrt
    generalize (DS.fresh 8).write k lt = d0 at hwrt f2 f3 f4
    refine hwrt.mono ?_
    rintro e w2 ⟨rfl, i2, hc2⟩
    have hb2 : Below w.heap.size w w2 := hb1.trans (hc2.below' hb1.size (by intro s hs; simp at hs; omega))
    obtain ⟨F, hF⟩ : ∃ F, fill lt = F := ⟨_, rfl⟩
    have HF := Lib.hid hF
    rw [hF] at f3
    have start : d0.secs.length = 8 ∧ d0.secs.getD k [] = F ∧ d0.writes ≤ 0 + 1 := ⟨f2, f3, by omega⟩
    clear hwrt hkW i1 hb1 hc2 f1 f2 f3 f4 hF
    go_wp2_with fail
    go_loopw [8] (fun i wr => ∃ j : Nat, ∃ d : DS, j ≤ n ∧ j ≤ 30 ∧ i = .int .i64 j ∧ IsDisk wr p g d ∧ (d.secs.length = 8 ∧ d.secs.getD k [] = F ∧ d.writes ≤ j + 1) ∧ Below w.heap.size w wr) (fun i _ => n - (intOf i).toNat)
    case atStart => exact ⟨0, d0, by omega, by omega, rfl, i2, start, hb2⟩
    case round =>
      obtain ⟨j, d, hjn, hj30, rfl, i3, st3, hb3⟩ := hrel
      clear i2 hb2 start
      by_cases hend : j < n ∧ j < 30
      · obtain ⟨e1, e2⟩ := hend
        have hjL : j < L.length := by rw [HL.out]; exact e1
        obtain ⟨b, o, rfl, hbb, c0, c1, c2', x1, x2, x3, hbsD⟩ := hd.at_ j hjL
        have cell0 := (hb3.cell (p := ⟨b, o + j * 3, none⟩) hbb).trans c0
        have cell1 := (hb3.cell (p := ⟨b, o + j * 3 + 1, none⟩) hbb).trans c1
        have cell2 := (hb3.cell (p := ⟨b, o + j * 3 + 2, none⟩) hbb).trans c2'
        generalize L[j] = D at *
        clear c0 c1 c2' hd
        obtain ⟨kd, dx, dA, dn, dc, dl⟩ := D
        obtain ⟨st0, st1, st2⟩ := st3
        have hSt : Hid (d.secs.length = 8 ∧ d.secs.getD k [] = F ∧ d.writes ≤ j + 1) := Lib.hid ⟨st0, st1, st2⟩
        clear st0 st1 st2
        have skip : ∀ W, Below w.heap.size w W → IsDisk W p g d → ∃ j' : Nat, ∃ d : DS, j' ≤ n ∧ j' ≤ 30 ∧ Value.int .i64 ((j : Int) + 1) = .int .i64 j' ∧ IsDisk W p g d ∧ (d.secs.length = 8 ∧ d.secs.getD k [] = F ∧ d.writes ≤ j' + 1) ∧ Below w.heap.size w W :=
          fun W hW iW => ⟨j + 1, d, by omega, by omega, by go_num, iW, ⟨hSt.out.1, hSt.out.2.1, Nat.le_trans hSt.out.2.2 (by omega)⟩, hW⟩
        have play : ∀ W, (kd = 0 → dx ≠ (k : Int)) → Below w.heap.size w W → IsDisk W p g (d.deed kd dx (dl.take 140)) → ∃ j' : Nat, ∃ d : DS, j' ≤ n ∧ j' ≤ 30 ∧ Value.int .i64 ((j : Int) + 1) = .int .i64 j' ∧ IsDisk W p g d ∧ (d.secs.length = 8 ∧ d.secs.getD k [] = F ∧ d.writes ≤ j' + 1) ∧ Below w.heap.size w W :=
          fun W hne hW iW => ⟨j + 1, d.deed kd dx (dl.take 140), by omega, by omega, by go_num, iW, ⟨(deed_len _ _ _ _).trans hSt.out.1, (deed_keeps _ _ _ _ _ hne).trans hSt.out.2.1, Nat.le_trans (deed_writes _ _ _ _) (by have := hSt.out.2.2; omega)⟩, hW⟩
        have hwr : d.writes ≤ 31 := by have := hSt.out.2.2; omega
        simp only at cell0 cell1 cell2 x1 x2 x3 hbsD
        have bx : ∀ j, (wr.alloc (.cells #[.int .i64 kd, .int .i64 dx, .slice dA dn dc] 31)).cell? ⟨wr.heap.size, j, none⟩ = (#[.int .i64 kd, .int .i64 dx, .slice dA dn dc] : Array Value)[j]? := fun j => cell_new wr _ _ (0, 0) j
        have hbW : Below w.heap.size w (wr.alloc (.cells #[.int .i64 kd, .int .i64 dx, .slice dA dn dc] 31)) := hb3.alloc hb3.size _
        have iW := i3.chg ((Chg.refl [] wr).alloc (.cells #[.int .i64 kd, .int .i64 dx, .slice dA dn dc] 31)) (by simp) (by simp)
        have hrn := refnew_any 8 (wr.alloc (.cells #[.int .i64 kd, .int .i64 dx, .slice dA dn dc] 31)) (by omega) (by omega)
        by_cases hk0 : kd = 0
        · subst hk0
          by_cases hkx : dx = (k : Int)
          · subst hkx
            clear hrn play
            go_wp2
            go_roundw
            case rel => exact skip _ hbW iW
            case measure => simp [intOf]; omega
          have zx : (dx == (k : Int)) = false := beq_eq_false_iff_ne.2 hkx
          go_wp2_with fail
          refine hrn.mono ?_
          rintro e w4 ⟨q, r, rfl, j4, hb4, hq, hr⟩
          have hq' : wr.heap.size < q := by simp at hq; omega
          have hr' : wr.heap.size < r := by simp at hr; omega
          have hbW4 : Below w.heap.size w w4 := hbW.trans (hb4.mono hbW.size)
          have i4 := iW.chg (Chg.of_below hb4 (S := [])) (by simp) (by simp)
          have bx0 := (hb4.cell (p := ⟨wr.heap.size, 0, none⟩) (by simp)).trans (bx 0)
          have bx1 := (hb4.cell (p := ⟨wr.heap.size, 1, none⟩) (by simp)).trans (bx 1)
          have bx2 := (hb4.cell (p := ⟨wr.heap.size, 2, none⟩) (by simp)).trans (bx 2)
          have hqw : w.heap.size ≤ q := by have := hb3.size; omega
          have hrw : w.heap.size ≤ r := by have := hb3.size; omega
          have hpq : p ≠ q ∧ p ≠ r ∧ g ≠ q ∧ g ≠ r := by
            have := i3.plt
            have := i3.glt
            omega
          have hbytes : ∀ W, Chg [p, g, q, r] w4 W → Bs W W.heap.size dA dn dl := fun W hW =>
            ((hbsD.below hbW4).chg hW hbW4.size (by intro s hs; simp at hs; omega)).mono (Nat.le_trans hbW4.size hW.size)
          have hdoes := does_any i4 j4 hpq 0 dx x1 x2 dA dn dc dl x3 hbytes (by omega) (by simp [DS.fresh])
          clear hrn hb4 hq hr
          go_wp2_with fail
          refine hdoes.mono ?_
          rintro e w5 ⟨bb, rfl, _, i5, _, hc5⟩
          have hb5 : Below w.heap.size w w5 := hbW4.trans (hc5.below' hbW4.size (by intro s hs; simp at hs; omega))
          go_wp2
          go_roundw
          case rel => exact play _ (fun _ => hkx) hb5 i5
          case measure => simp [intOf]; omega
        · have z0 : (kd == 0) = false := beq_eq_false_iff_ne.2 hk0
          go_wp2_with fail
          refine hrn.mono ?_
          rintro e w4 ⟨q, r, rfl, j4, hb4, hq, hr⟩
          have hq' : wr.heap.size < q := by simp at hq; omega
          have hr' : wr.heap.size < r := by simp at hr; omega
          have hbW4 : Below w.heap.size w w4 := hbW.trans (hb4.mono hbW.size)
          have i4 := iW.chg (Chg.of_below hb4 (S := [])) (by simp) (by simp)
          have bx0 := (hb4.cell (p := ⟨wr.heap.size, 0, none⟩) (by simp)).trans (bx 0)
          have bx1 := (hb4.cell (p := ⟨wr.heap.size, 1, none⟩) (by simp)).trans (bx 1)
          have bx2 := (hb4.cell (p := ⟨wr.heap.size, 2, none⟩) (by simp)).trans (bx 2)
          have hqw : w.heap.size ≤ q := by have := hb3.size; omega
          have hrw : w.heap.size ≤ r := by have := hb3.size; omega
          have hpq : p ≠ q ∧ p ≠ r ∧ g ≠ q ∧ g ≠ r := by
            have := i3.plt
            have := i3.glt
            omega
          have hbytes : ∀ W, Chg [p, g, q, r] w4 W → Bs W W.heap.size dA dn dl := fun W hW =>
            ((hbsD.below hbW4).chg hW hbW4.size (by intro s hs; simp at hs; omega)).mono (Nat.le_trans hbW4.size hW.size)
          have hdoes := does_any i4 j4 hpq kd dx x1 x2 dA dn dc dl x3 hbytes (by omega) (by simp [DS.fresh])
          clear hrn hb4 hq hr
          go_wp2_with fail
          refine hdoes.mono ?_
          rintro e w5 ⟨bb, rfl, _, i5, _, hc5⟩
          have hb5 : Below w.heap.size w w5 := hbW4.trans (hc5.below' hbW4.size (by intro s hs; simp at hs; omega))
          go_wp2
          go_roundw
          case rel => exact play _ (fun h => absurd h hk0) hb5 i5
          case measure => simp [intOf]; omega
      · by_cases e1 : j < n
        · obtain rfl : j = 30 := by omega
          go_wp2_with fail
          refine (up_any i3).mono ?_
          rintro e w4 ⟨rfl, i4, hc4⟩
          have hb4 : Below w.heap.size w w4 := hb3.trans (hc4.below' hb3.size (by intro s hs; simp at hs; omega))
          have hrd := read_any i4 (k : Int)
          rw [show d.up.read (k : Int) = F from (up_read d k (by omega)).trans st3.2.1, show d.up.readErr (k : Int) = 0 from up_readErr d k (by omega)] at hrd
          clear hc4 i3 i4 hb3
          go_wp2_with fail
          refine hrd.mono ?_
          rintro e w5 ⟨A5, n5, c5, rfl, g1, g2, hown, hb5⟩
          have hb45 := hb4.trans (hb5.mono hb4.size)
          have hxa := conv (Bs.drew (Bs.of_own hown)) c5
          have hltd : Bs w5.drew w5.heap.size B q2 lt := ((hlt.below hb45).mono hb45.size).drew
          have hf := fill_any B q2 c2 _ lt w5.drew hltd (Nat.le_refl _)
          rw [HF.out] at hf
          have hself : (F == F) = true := beq_self_eq_true _
          have hend : ∀ w6, Below w5.drew.heap.size w5.drew w6 → Below w.heap.size w w6 := fun w6 hb6 => (hb45.drew).trans (hb6.mono (by have := hb45.size; exact this))
          have HFF := Lib.hid hf
          have HEND := Lib.hid hend
          have hown' := Lib.hid hown
          clear hrd hf hend hown hb5 hltd
          go_wp2_with fail
          go_region_with (first
            | (go_at_call 9; refine (few_at _ _ _ _ _ hn2 Hq).mono ?_; rintro e w' ⟨rfl, rfl⟩)
            | (go_at_call 15; refine HFF.out.mono ?_; rintro e w6 ⟨rfl, hb6⟩; have hxc := conv ((Bs.drew (Bs.of_own hown'.out)).next (Nat.le_refl _) hb6) c5)
            | (go_at_call 10; refine (lives_any _).mono ?_; rintro e w7 ⟨rfl, hb7⟩))
          all_goals go_wp2
          all_goals go_ret
          all_goals refine ⟨?_, (HEND.out _ hb6).trans (hb7.mono (HEND.out _ hb6).size)⟩
          all_goals go_simp
        · obtain rfl : j = n := by omega
          go_wp2_with fail
          refine (up_any i3).mono ?_
          rintro e w4 ⟨rfl, i4, hc4⟩
          have hb4 : Below w.heap.size w w4 := hb3.trans (hc4.below' hb3.size (by intro s hs; simp at hs; omega))
          have hrd := read_any i4 (k : Int)
          rw [show d.up.read (k : Int) = F from (up_read d k (by omega)).trans st3.2.1, show d.up.readErr (k : Int) = 0 from up_readErr d k (by omega)] at hrd
          clear hc4 i3 i4 hb3
          go_wp2_with fail
          refine hrd.mono ?_
          rintro e w5 ⟨A5, n5, c5, rfl, g1, g2, hown, hb5⟩
          have hb45 := hb4.trans (hb5.mono hb4.size)
          have hxa := conv (Bs.drew (Bs.of_own hown)) c5
          have hltd : Bs w5.drew w5.heap.size B q2 lt := ((hlt.below hb45).mono hb45.size).drew
          have hf := fill_any B q2 c2 _ lt w5.drew hltd (Nat.le_refl _)
          rw [HF.out] at hf
          have hself : (F == F) = true := beq_self_eq_true _
          have hend : ∀ w6, Below w5.drew.heap.size w5.drew w6 → Below w.heap.size w w6 := fun w6 hb6 => (hb45.drew).trans (hb6.mono (by have := hb45.size; exact this))
          have HFF := Lib.hid hf
          have HEND := Lib.hid hend
          have hown' := Lib.hid hown
          clear hrd hf hend hown hb5 hltd
          go_wp2_with fail
          go_region_with (first
            | (go_at_call 9; refine (few_at _ _ _ _ _ hn2 Hq).mono ?_; rintro e w' ⟨rfl, rfl⟩)
            | (go_at_call 15; refine HFF.out.mono ?_; rintro e w6 ⟨rfl, hb6⟩; have hxc := conv ((Bs.drew (Bs.of_own hown'.out)).next (Nat.le_refl _) hb6) c5)
            | (go_at_call 10; refine (lives_any _).mono ?_; rintro e w7 ⟨rfl, hb7⟩))
          all_goals go_wp2
          all_goals go_ret
          all_goals refine ⟨?_, (HEND.out _ hb6).trans (hb7.mono (HEND.out _ hb6).size)⟩
          all_goals go_simp
end Go.Proofs.Ytkeblekgjcoheaa
