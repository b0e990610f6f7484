/- THE WALK of WalPlays. -/
import Derived.Test.YtgaplcgenlphdaaWalRun
import Derived.Test.YtgaplcgenlphdaaWalWDeeds
namespace Go.Proofs.Ytgaplcgenlphdaa
open Go.RowKit Mem Wal

set_option maxRecDepth 100000 in
set_option maxHeartbeats 4000000 in
theorem walPlays_walk (x : Int) (A : Option Addr) (n c : Nat) (L : List WDeed) (w : World) (wx : (Lit.int .i64 x).wf = true) (hd : WDeeds w w.heap.size A n L) (hn : n ≤ c) (_ : c ≤ 9223372036854775807) :
    Calls Try.prog 8 #[.int .i64 x, .slice A n c] w fun e w' => e = .returned (.bool true) ∧ Below w.heap.size w w' := by
  obtain ⟨hx1, hx2⟩ := wf_int wx
  have main : (∃ m k : Nat, m ≤ 9223372036854775807 ∧ k < 54 ∧ x = (m : Int) ∧ Hid ((m : Int) % 54 = (k : Int))) ∨ (∃ m k : Nat, m ≤ 9223372036854775807 ∧ k < 54 ∧ x = -(m : Int) - 1 ∧ Hid ((m : Int) % 54 = (k : Int))) := by
    by_cases h : 0 ≤ x
    · obtain ⟨m, rfl⟩ := Int.eq_ofNat_of_zero_le h
      exact .inl ⟨m, m % 54, by omega, by omega, rfl, Lib.hid (by omega)⟩
    · obtain ⟨m, hm⟩ := Int.eq_ofNat_of_zero_le (show 0 ≤ -x - 1 by omega)
      exact .inr ⟨m, m % 54, by omega, by omega, by omega, Lib.hid (by omega)⟩
  clear wx
  have HL := Lib.hid hd.len
  rcases main with ⟨m, k, hm, hk, rfl, HM⟩ | ⟨m, k, hm, hk, rfl, HM⟩
  all_goals
    have hmk := HM.out
    have hnew : Calls Try.prog 10 #[.int .i64 (7 + (k : Int))] w (NewDisk w (DS.fresh (7 + k))) := by
      have := new_any (7 + k) w (by omega) (by omega)
      rwa [show ((7 + k : Nat) : Int) = 7 + (k : Int) by omega] at this
    obtain ⟨H, hH⟩ : ∃ H, Wal.half (7 + k) = H := ⟨_, rfl⟩
    have hdiv : ((7 + (k : Int)) - 3) / 2 = (H : Int) := by rw [← hH]; unfold Wal.half; omega
    have hH2 : H ≤ 30 := by unfold Wal.half at hH; omega
    have HH := Lib.hid hH
    clear hH
    go_enter Try.func8, Try.ntmps8
    go_wp2_with fail
    refine hnew.mono ?_
    rintro e w1 ⟨p, g, rfl, i1, hb1, hp, hg⟩
    have h1 := new_world (H := H) (t := 49) i1
    have hsz1 := hb1.size
    have hb2 := (Below.refl w1.heap.size w1).alloc (Nat.le_refl _) (.cells #[.pointer (some ⟨p, 0, none⟩), .pointer none, .int .i64 (H : Int), .slice none 0 0, .slice none 0 0, .bool false] 49)
    have hf := run_first (B := w.heap.size) h1 (by omega) hp hg (by omega) (by omega) HH.out.symm
    clear hnew i1 h1
    go_wp2_with fail
    refine hf.mono ?_
    rintro e w2 ⟨rfl, r2, hb3⟩
    generalize w1.heap.size = u at *
    have hb02 : Below w.heap.size w w2 := (hb1.trans (hb2.mono hsz1)).trans hb3
    clear hb1 hb2 hb3 hf hdiv hmk HM HH hH2 hsz1
    go_wp2_with fail
    go_loopw [7] (fun i wr => ∃ k : Nat, k ≤ n ∧ k ≤ 20 ∧ i = .int .i64 k ∧ Run w.heap.size wr u p g H k ∧ Below w.heap.size w wr) (fun i _ => n - (intOf i).toNat)
    case atStart => exact ⟨0, by omega, by omega, rfl, r2, hb02⟩
    case round =>
      obtain ⟨k, hkn, hk20, rfl, hr, hb⟩ := hrel
      clear r2 hb02
      by_cases hend : k < n ∧ k < 20
      · obtain ⟨e1, e2⟩ := hend
        have hkL : k < L.length := by rw [HL.out]; exact e1
        obtain ⟨b, o, rfl, hbb, c0, c1, c2, c3, x1, x2, x3, x4, x5, x6, x7⟩ := hd.at_ k hkL
        have cell0 := (hb.cell (p := ⟨b, o + k * 4, none⟩) hbb).trans c0
        have cell1 := (hb.cell (p := ⟨b, o + k * 4 + 1, none⟩) hbb).trans c1
        have cell2 := (hb.cell (p := ⟨b, o + k * 4 + 2, none⟩) hbb).trans c2
        have cell3 := (hb.cell (p := ⟨b, o + k * 4 + 3, none⟩) hbb).trans c3
        have hR := x4.keep (fun x hx => hb.cell hx)
        have hT := x7.keep (fun x hx => hb.cell hx)
        generalize L[k] = D at *
        clear c0 c1 c2 c3 hd x4 x7
        obtain ⟨kd, hkd⟩ : ∃ kd, D.kd = kd := ⟨_, rfl⟩
        rw [hkd] at cell0
        clear hkd
        obtain ⟨ult, plt, glt, hB, hup, hug⟩ := hr.ult
        obtain ⟨wa, hwa⟩ : ∃ wa, wr.alloc (.cells #[.int .i64 kd, .int .i64 D.x, .slice D.A D.n D.c, .slice D.A' D.n' D.c'] 51) = wa := ⟨_, rfl⟩
        have hba : Below wr.heap.size wr wa := by rw [← hwa]; exact (Below.refl _ _).alloc (Nat.le_refl _) _
        have ka0 : wa.cell? ⟨wr.heap.size, 0, none⟩ = some (.int .i64 kd) := by rw [← hwa]; exact World.cell?_alloc_at _ _ _ 0 rfl
        have ka1 : wa.cell? ⟨wr.heap.size, 1, none⟩ = some (.int .i64 D.x) := by rw [← hwa]; exact World.cell?_alloc_at _ _ _ 1 rfl
        have ka2 : wa.cell? ⟨wr.heap.size, 2, none⟩ = some (.slice D.A D.n D.c) := by rw [← hwa]; exact World.cell?_alloc_at _ _ _ 2 rfl
        have ka3 : wa.cell? ⟨wr.heap.size, 3, none⟩ = some (.slice D.A' D.n' D.c') := by rw [← hwa]; exact World.cell?_alloc_at _ _ _ 3 rfl
        have hsa : wr.heap.size < wa.heap.size := by rw [← hwa]; simp
        have hra := hr.below hba
        have hBa : Below w.heap.size w wa := hb.trans (hba.mono hB)
        have hRa : RsB wa w.heap.size D.A D.n D.R := hR.keep fun x hx => hba.cell (by omega)
        have hTa : Bs wa w.heap.size D.A' D.n' D.l := hT.keep fun x hx => hba.cell (by omega)
        have ku := hra.c0
        clear hR hT hr hb
        have kinds : kd = 0 ∨ kd = 1 ∨ kd = 2 ∨ kd = 3 ∨ (kd ≠ 0 ∧ kd ≠ 1 ∧ kd ≠ 2 ∧ kd ≠ 3) := by omega
        rcases kinds with rfl | rfl | rfl | rfl | ⟨q0, q1, q2, q3⟩
        · go_wp2_with fail
          refine (run_write hra (by omega) hRa x3).mono ?_
          rintro e w3 ⟨A', m', c', rfl, r3, hb3, hwrite⟩
          have hw := hwrite false
          clear hwrite hra hba hRa hTa hwa ka0 ka1 ka2 ka3
          go_wp2_with fail
          refine hw.mono ?_
          rintro e w4 ⟨rfl, r4, hb4⟩
          go_wp2
          go_roundw
          case rel => exact ⟨k + 1, by omega, by omega, by go_num, r4, (hBa.trans hb3).trans hb4⟩
          case measure => simp [intOf]; omega
        · go_wp2_with fail
          refine (run_write hra (by omega) hRa x3).mono ?_
          rintro e w3 ⟨A', m', c', rfl, r3, hb3, hwrite⟩
          have hw := hwrite true
          clear hwrite hra hba hRa hTa hwa ka0 ka1 ka2 ka3
          go_wp2_with fail
          refine hw.mono ?_
          rintro e w4 ⟨rfl, r4, hb4⟩
          go_wp2
          go_roundw
          case rel => exact ⟨k + 1, by omega, by omega, by go_num, r4, (hBa.trans hb3).trans hb4⟩
          case measure => simp [intOf]; omega
        · obtain ⟨nt, t, bt, ht1, ht2, hw2⟩ := cut_bytes hTa x5 128
          have harm := run_arm hra D.x x1 x2 D.A' nt D.c' t bt
          have hnn : (⟨u, 0, none⟩ : Addr).block ∉ [p, g] := by simp; omega
          have hna : (⟨wr.heap.size, 1, none⟩ : Addr).block ∉ [p, g] := by simp; omega
          have hua : (⟨u, 0, none⟩ : Addr).block < wa.heap.size := hra.ult.1
          have hsb : (⟨wr.heap.size, 1, none⟩ : Addr).block < wa.heap.size := hsa
          clear bt
          rcases hw2 with ⟨hw2, rfl⟩ | ⟨hw2, rfl⟩
          all_goals
            clear hra hba hRa hTa
            go_wp2_with fail
            go_region_held3 (fun w' => w'.cell? ⟨u, 0, none⟩ = some (.pointer (some ⟨p, 0, none⟩)) ∧ w'.cell? ⟨wr.heap.size, 1, none⟩ = some (.int .i64 D.x)) (go_keep) (first | (go_at_call 21; refine (harm _ ?_).mono ?_; (first | exact (Chg.refl [] wa).drewN _ | exact (Chg.refl [] wa).drew | exact ((Chg.refl [] wa).drewN _).drew); rintro e w4 ⟨rfl, r4, hc4⟩; have q05 := (hc4.cell hua hnn).trans ku; have q15 := (hc4.cell hsb hna).trans ka1))
            clear harm hwa ka0 ka1 ka2 ka3
            go_wp2
            go_roundw
            case rel => exact ⟨k + 1, by omega, by omega, by go_num, r4.mono (by omega), hBa.trans (hc4.below' hBa.size (by intro s hs; simp at hs; omega))⟩
            case measure => simp [intOf]; omega
        · have hop := run_open hra (by omega)
          clear hra hba hRa hTa
          go_wp2_with fail
          refine hop.mono ?_
          rintro e w4 ⟨rfl, r4, hb4⟩
          clear hop hwa ka0 ka1 ka2 ka3
          go_wp2
          go_roundw
          case rel => exact ⟨k + 1, by omega, by omega, by go_num, r4, hBa.trans hb4⟩
          case measure => simp [intOf]; omega
        · have r4 := hra.mono (show k ≤ k + 1 by omega)
          clear hra hba hRa hTa
          go_wp2
          go_roundw
          case rel => exact ⟨k + 1, by omega, by omega, by go_num, r4, hBa⟩
          case measure => simp [intOf]; omega
      · have hop := run_open hr (by omega)
        clear hr hd
        by_cases e1 : k < n
        · obtain rfl : k = 20 := by omega
          go_wp2_with fail
          refine hop.mono ?_
          rintro e w4 ⟨rfl, r4, hb4⟩
          clear hop
          go_wp2_with fail
          refine (lives_any _).mono ?_
          rintro e w5 ⟨rfl, hb5⟩
          go_wp2
          go_ret
          exact ⟨rfl, (hb.trans hb4).trans (hb5.mono (hb.trans hb4).size)⟩
        · obtain rfl : k = n := by omega
          go_wp2_with fail
          refine hop.mono ?_
          rintro e w4 ⟨rfl, r4, hb4⟩
          clear hop
          go_wp2_with fail
          refine (lives_any _).mono ?_
          rintro e w5 ⟨rfl, hb5⟩
          go_wp2
          go_ret
          exact ⟨rfl, (hb.trans hb4).trans (hb5.mono (hb.trans hb4).size)⟩
end Go.Proofs.Ytgaplcgenlphdaa
