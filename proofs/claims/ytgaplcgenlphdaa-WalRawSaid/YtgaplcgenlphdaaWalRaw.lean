/- THE WALK of WalRaw. -/
import Derived.Test.YtgaplcgenlphdaaWalOrder
namespace Go.Proofs.Ytgaplcgenlphdaa
open Go.RowKit Mem Wal

theorem write_quiet {d : DS} (hw : WF d) (hdn : d.down = false) (hl : d.left = none) (i : Int) (l : List UInt8) :
    WF (d.write i l) ∧ (d.write i l).down = false ∧ (d.write i l).left = none ∧ (d.write i l).secs.length = d.secs.length ∧ (d.write i l).writes ≤ d.writes + 1 := by
  have hf := write_facts d i l
  refine ⟨?_, ?_, ?_, hf.1, hf.2.1⟩
  all_goals
    have ht : d.tears = false := by unfold DS.tears; rw [hl]
    unfold DS.write
    rw [ht, hdn]
    simp only [Bool.false_eq_true, if_false]
    split
  · exact hw
  · refine ⟨fun s hs => ?_, fun n t h => by simp [hl] at h⟩
    rcases List.mem_or_eq_of_mem_set hs with h | h
    · exact hw.1 s h
    · rw [h]
      exact fill_length _
  · exact hdn
  · rfl
  · exact hl
  · simp [hl]
/-- Whatever is on a disk. -/
theorem openD_raw {d : DS} (hw : WF d) (hdn : d.down = false) (hn : 7 ≤ d.secs.length) (hn2 : d.secs.length ≤ 256) (hl : d.left = none) :
    (∃ d' s u rs, openD d = (d', .inr (s, u, rs)) ∧ Live d' ⟨s, u, false⟩ rs ∧ d'.secs.length = d.secs.length ∧ d'.writes ≤ d.writes + 3 ∧ d'.left = none) ∨ (∃ d', openD d = (d', .inl 5)) := by
  have hml : (hd d.secs).length = 128 := by
    have l0 := sec_len hw.1 (i := 0) (by omega)
    have l1 := sec_len hw.1 (i := 1) (by omega)
    unfold hd most
    split <;> assumption
  have hin : ∀ x ∈ fixes d.secs (hd d.secs) 0, x.1 < d.secs.length ∧ x.2.length ≤ 128 := by
    intro x hx
    obtain ⟨i, hi, hx⟩ := List.mem_filterMap.1 hx
    have hi3 : i < 3 := by
      simp only [List.drop_zero, List.mem_cons, List.not_mem_nil, or_false] at hi
      omega
    split at hx
    · cases hx
    · injection hx with hx
      subst hx
      exact ⟨by simp only; omega, by simp only; omega⟩
  have hf := fill_full hml
  have hnl : ¬ d.secs.length < 7 := by omega
  have hws : (fixes d.secs (hd d.secs) 0).length ≤ 3 := by
    have := List.length_filterMap_le (fun i => if sec d.secs i = hd d.secs then none else some (i, hd d.secs)) ([0, 1, 2].drop 0)
    exact this
  rcases wrAll_cases _ d hdn hw hin with ⟨d', g1, g2, g3, g4, g5, g6⟩ | ⟨d', k, t, hkl, g1, g2, g3, g4, g5, g6, g7, g8⟩
  · have hlen : d'.secs.length = d.secs.length := by rw [g4, puts_length]
    obtain ⟨e0, e1, e2⟩ := fixes_puts (S := d.secs) hf hn
    rw [← g4] at e0 e1 e2
    have hun : openD d = openR d' (norm d.secs.length (hd d.secs)).1 (norm d.secs.length (hd d.secs)).2 := by
      unfold openD
      rw [if_neg hnl, hdn, g1]
      simp only [Bool.false_eq_true, if_false, if_true]
    obtain ⟨s, hs⟩ : ∃ s, (norm d.secs.length (hd d.secs)).1 = s := ⟨_, rfl⟩
    obtain ⟨u, hu⟩ : ∃ u, (norm d.secs.length (hd d.secs)).2 = u := ⟨_, rfl⟩
    rw [hs, hu] at hun
    cases hp : parse u (content d'.secs s u) with
    | none => 
      right
      refine ⟨d', ?_⟩
      rw [hun]
      unfold openR
      rw [hp]
    | some rs =>
      left
      refine ⟨d', s, u, rs, ?_, ⟨g3, g2, by omega, by omega, rfl, hd d.secs, ⟨e0, e1, e2, ?_⟩, by rw [hlen, ← hs, ← hu]⟩, hlen, by omega, g6 hl⟩
      · rw [hun]
        unfold openR
        rw [hp]
      · unfold Says
        rw [hlen, hs, hu]
        exact hp
  · exact absurd hl g5
theorem fresh_wf (n : Nat) : WF (DS.fresh n) := by
  refine ⟨fun s hs => ?_, fun n t h => by cases h⟩
  rw [List.eq_of_mem_replicate (show s ∈ List.replicate _ (List.replicate 128 0) from hs), List.length_replicate]

set_option maxRecDepth 100000 in
set_option maxHeartbeats 8000000 in
theorem walRaw_walk (A : Option Addr) (n c : Nat) (R : Secs) (w : World) (hd : RsB w w.heap.size A n R) (_ : n ≤ c) (_ : c ≤ 9223372036854775807) :
    Calls Try.prog 5 #[.slice A n c] w fun e w' => e = .returned (.bool true) ∧ Below w.heap.size w w' := by
  have hlen := hd.len
  have hnew := new_any 20 w (by omega) (by omega)
  have hsz : sizes [[(110 : UInt8), 101, 119]] = 1 := by decide
  have htl : tooLong [[(110 : UInt8), 101, 119]] = false := by decide
  have kc := fun (w : World) (C : Array Value) (n c : Nat) => Lib.run_convert_bytes_const (P := Try.prog) w 33 5 C n c Try.underlying33 Try.underlying5
  go_enter Try.func5, Try.ntmps5
  go_wp2_with fail
  refine hnew.mono ?_
  rintro e w1 ⟨p, g, rfl, i1, hb1, hp, hg⟩
  have hp1 := i1.plt
  have hg1 := i1.glt
  have hl20 : (DS.fresh 20).secs.length = 20 := by simp [DS.fresh]
  have H20 := Lib.hid hl20
  have hf20 : (DS.fresh 20).writes ≤ 0 := by simp [DS.fresh]
  clear hnew hl20
  go_wp2_with fail
  go_loopw [4, 5] (fun i _ wr => ∃ (k : Nat) (d : DS), k ≤ n ∧ k ≤ 12 ∧ i = .int .i64 k ∧ IsDisk wr p g d ∧ WF d ∧ d.down = false ∧ d.left = none ∧ Hid (d.secs.length = 20) ∧ d.writes ≤ k ∧ Chg [p, g] w1 wr) (fun i _ _ => n - (intOf i).toNat)
  case atStart => exact ⟨0, _, by omega, by omega, rfl, i1, fresh_wf 20, rfl, rfl, H20, hf20, Chg.refl _ _⟩
  case round =>
    obtain ⟨k, d, hk, hk12, rfl, id, hwf, hdn, hlf, HL, hwr, hch⟩ := hrel
    have hB0 : w.heap.size ≤ w1.heap.size := hb1.size
    have hbe : Below w.heap.size w wr := hb1.trans (hch.below' hB0 (by intro s hs; simp at hs; omega))
    have hcs : (k < n ∧ k < 12) ∨ (k < n ∧ k = 12) ∨ k = n := by omega
    rcases hcs with ⟨hlt, h12⟩ | hrest
    · have hkL : k < R.length := by omega
      have hdr := hd.keep (fun x hx => hbe.cell hx)
      obtain ⟨blk, off, A', n', c', rfl, b1, b3, b4, b5, b6⟩ := hdr.lit hkL
      have hi1 : (k : Int) < (n : Int) := by omega
      have hi2 : (k : Int) < 12 := by omega
      have hbt : ∃ (n3 : Nat) (r : List UInt8), Bs wr w.heap.size A' n3 r ∧ n3 ≤ c' ∧ n3 ≤ 128 ∧ ((128 < n' ∧ n3 = 128) ∨ (¬ 128 < n' ∧ n3 = n')) := by
        by_cases hbig : 128 < n'
        · exact ⟨128, _, b6.take (k := 128) (by omega), by omega, by omega, .inl ⟨hbig, rfl⟩⟩
        · exact ⟨n', _, b6, by omega, by omega, .inr ⟨hbig, rfl⟩⟩
      obtain ⟨n3, r, hbr, h3c, h3l, hway⟩ := hbt
      have hwq := write_quiet hwf hdn hlf (k : Int) r
      have hwa := write_any id (k : Int) A' n3 c' r (fun W hW => ((hbr.keep (fun x hx => (hW.cell (p := x) (by have := hch.size; omega) (by simp; omega)))).mono (by have := hW.size; have := hch.size; omega))) (by omega)
      clear b6 hdr
      rcases hway with ⟨hbig, rfl⟩ | ⟨hbig, rfl⟩
      all_goals
        go_wp2_with fail
        refine hwa.mono ?_
        rintro e w4 ⟨rfl, i4, hc4⟩
        generalize d.write (k : Int) r = d4 at *
        obtain ⟨q1, q2, q3, q4, q5⟩ := hwq
        have H4 : Hid (d4.secs.length = 20) := Lib.hid (by rw [q4, HL.out])
        clear q4
        go_wp2_with fail
        go_roundw
        case rel => exact ⟨k + 1, d4, by omega, by omega, by go_num, i4, q1, q2, q3, H4, by omega, hch.and hc4⟩
        case measure => simp [intOf]; omega
    · have h7 : 7 ≤ d.secs.length := by rw [HL.out]; omega
      have h256 : d.secs.length ≤ 256 := by rw [HL.out]; omega
      have hop := wopen_alive id h7 hdn (by omega)
      have hrw := openD_raw hwf hdn h7 h256 hlf
      clear hd
      rcases hrest with ⟨hlt, rfl⟩ | rfl
      all_goals
        go_wp2_with fail
        refine hop.mono ?_
        rintro e w2 ⟨i2, hc2, ho⟩
        rcases hrw with ⟨d2, s2, u2, rs2, a1, a2, a3, a4, a5⟩ | ⟨d2, a1⟩
        · rw [a1] at i2 ho
          rcases ho with ⟨x, hx, _⟩ | ⟨s', u', rs', q, A2, n2, c2, xs2, hx, rfl, k1, l2, hq, hrow2⟩
          · cases hx
          · injection hx with hx
            simp only [Prod.mk.injEq] at hx
            obtain ⟨rfl, rfl, rfl⟩ := hx
            have i2 : IsDisk w2 p g d2 := i2
            have h20 : d2.secs.length = 20 := by rw [a3, HL.out]
            have H2 := Lib.hid h20
            have hbe2 : Below w.heap.size w w2 := hbe.trans (hc2.below' (by have := hch.size; omega) (by intro s hs; simp at hs; omega))
            have hpq : q ≠ p ∧ q ≠ g := by have := hch.size; omega
            obtain ⟨hqp, hqg⟩ := hpq
            have hqw : w.heap.size ≤ q := by have := hch.size; omega
            clear h20 a1 a3 hrow2 hop id i1
            obtain ⟨w3, hw3⟩ : ∃ w3, w2.alloc (.cells #[.int .u8 110, .int .u8 101, .int .u8 119] 5 (3, 4)) = w3 := ⟨_, rfl⟩
            have hb3 : Below w2.heap.size w2 w3 := by rw [← hw3]; exact (Below.refl _ _).alloc (Nat.le_refl _) _
            have hs3 : w2.heap.size < w3.heap.size := by rw [← hw3]; simp
            have hbs : Bs w3 w3.heap.size (some ⟨w2.heap.size, 0, none⟩) 3 [110, 101, 119] := by
              have := Bs.new w2 #[.int .u8 110, .int .u8 101, .int .u8 119] 5 (3, 4) 3 [110, 101, 119] rfl rfl
              rw [hw3] at this
              exact this.mono (by rw [← hw3]; simp)
            have HBS := Lib.hid hbs
            clear hbs
            have hpq2 : p < w2.heap.size ∧ g < w2.heap.size ∧ q < w2.heap.size := ⟨i2.plt, i2.glt, l2.qlt⟩
            obtain ⟨hp2, hg2, hq2⟩ := hpq2
            obtain ⟨w4, hw4⟩ : ∃ w4, w3.alloc (.cells #[.slice (some ⟨w2.heap.size, 0, none⟩) 3 3] 33) = w4 := ⟨_, rfl⟩
            have hb4 : Below w3.heap.size w3 w4 := by rw [← hw4]; exact (Below.refl _ _).alloc (Nat.le_refl _) _
            have hrx : RsX w4 [p, g, q] (some ⟨w3.heap.size, 0, none⟩) 1 [[110, 101, 119]] := by
              rw [← hw4]
              exact RsX.one HBS.out (by omega) (by omega) (by intro a' ha _; injection ha with ha; subst ha; simp; omega) (by intro s hs; simp at hs; omega) _
            have hb24 : Below w2.heap.size w2 w4 := hb3.trans (hb4.mono (by omega))
            have hrep := replace_live (L := ⟨s2, u2, false⟩) (l2.chg (Chg.of_below (S := []) hb24) (by simp)) (i2.chg (Chg.of_below (S := []) hb24) (by simp) (by simp)) hqp hqg a2 _ 1 1 _ hrx (by omega) (by omega)
            clear i2 l2 hrx HBS
            go_wp2_with fail
            refine hrep.mono ?_
            rintro e w5 ⟨hc5, ⟨h1, _⟩ | ⟨_, h1, _⟩ | ⟨_, _, d5, L5, rfl, i5, l5, v5, n5, wr5, lf5⟩ | ⟨_, _, h1, _⟩⟩
            · rw [htl] at h1; cases h1
            · rw [H2.out, hsz] at h1
              exact absurd h1 (by decide)
            · have hc25 : Chg [p, g, q] w2 w5 := (Chg.of_below hb24).and hc5
              clear hrep hc5 n5
              go_wp2_with fail
              refine (open_live i5 v5 (lf5 a5) (by omega)).mono ?_
              rintro e w6 ⟨d6, q6, A6, n6, c6, xs6, rfl, k6, i6, l6, v6, hq6, hrow6, n6', _, _, hc6⟩
              have hn6 : n6 = 1 := by
                have e1 := hrow6.own.1
                have e2 := hrow6.len
                simp at e2
                omega
              subst hn6
              have hrsx := hrow6.rs (S := []) (by simp)
              obtain ⟨blk, off, A7, n7, c7, rfl, b1, b2, b3, b4, b5, b6, b7⟩ := hrsx.lit (i := 0) (by simp)
              rw [Nat.add_zero] at b3
              have hx := conv b6 c7
              have hstr : str ([[110, 101, 119]] : List (List UInt8))[0] = ⟨#[110, 101, 119]⟩ := rfl
              rw [hstr] at hx
              have hend : Below w.heap.size w w6 := by
                refine hbe2.trans ((hc25.trans hc6 (by intro s hs; simp at hs; simp; omega)).below' (by have := hbe2.size; omega) (by intro s hs; simp at hs; omega))
              clear b6 hrow6 hrsx v6 i6 l6 v5 i5 l5 hstr
              go_wp2_with fail
              refine (lives_any _).mono ?_
              rintro e w8 ⟨rfl, hb8⟩
              go_wp2
              go_ret
              exact ⟨rfl, hend.trans (hb8.mono hend.size)⟩
            · exact absurd a5 h1
        · rw [a1] at i2 ho
          rcases ho with ⟨x, hx, rfl⟩ | ⟨s', u', rs', q, A2, n2, c2, xs2, hx, _⟩
          · injection hx with hx
            subst hx
            have hbe2 : Below w.heap.size w w2 := hbe.trans (hc2.below' (by have := hch.size; omega) (by intro s hs; simp at hs; omega))
            go_wp2_with fail
            refine (lives_any _).mono ?_
            rintro e w3 ⟨rfl, hb3⟩
            go_wp2
            go_ret
            exact ⟨rfl, hbe2.trans (hb3.mono hbe2.size)⟩
          · cases hx
end Go.Proofs.Ytgaplcgenlphdaa
