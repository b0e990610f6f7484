/- THE WALK of WalOrder. -/
import Derived.Test.YtgaplcgenlphdaaWalCalls
import Derived.Test.YtgaplcgenlphdaaWalIn
namespace Go.Proofs.Ytgaplcgenlphdaa
open Go.RowKit Mem Wal

theorem RsB.lit {w : World} {B n : Nat} {A : Option Addr} {L : List (List UInt8)} (h : RsB w B A n L) {i : Nat} (hi : i < L.length) : ∃ blk off A' n' c', A = some ⟨blk, off, none⟩ ∧ blk < B ∧ w.cell? ⟨blk, off + i, none⟩ = some (.slice A' n' c') ∧ n' ≤ c' ∧ c' ≤ 9223372036854775807 ∧ Bs w B A' n' L[i] := by
  obtain ⟨ad, A', n', c', rfl, b1, b3, r⟩ := h.rd i hi
  have hsp : ad.spot = none := by
    obtain ⟨ad0, _, _, _, e0, _, c0, _⟩ := h.rd 0 (by omega)
    injection e0 with e0
    subst e0
    have := World.cell?_spot c0
    simpa [Addr.add] using this
  obtain ⟨blk, off, sp⟩ := ad
  simp only at hsp
  subst hsp
  refine ⟨blk, off, A', n', c', rfl, b1, ?_, r⟩
  rw [← b3]
  congr 1
  unfold Addr.add
  split <;> simp_all

/-- What Open finds of a disk that says A is what its log knows. -/
theorem openD_same {d d' : DS} {L : LS} {A rs : Secs} {s u : Nat} (h : Live d L A) (he : openD d = (d', .inr (s, u, rs))) : s = L.side ∧ u = L.used := by
  obtain ⟨t, hg, hnm⟩ := h.good
  have h7 := h.n7
  have h256 := h.n256
  unfold openD at he
  rw [if_neg (by omega), h.dn] at he
  simp only [Bool.false_eq_true, if_false] at he
  have hhd : hd d.secs = t := by unfold hd most; rw [hg.1, hg.2.1, hg.2.2.1]; simp
  rw [hhd, hnm] at he
  split at he
  · unfold openR at he
    split at he
    · simp at he
    · simp only [Prod.mk.injEq, Sum.inr.injEq] at he
      exact ⟨he.2.1.symm, he.2.2.1.symm⟩
  · simp at he
/-- The power cannot go; the log that was there knows the disk still. -/
theorem open_live {w : World} {p g : Nat} {d : DS} {L : LS} {A : Secs} (h : IsDisk w p g d) (hv : Live d L A) (hl : d.left = none) (hwr : d.writes < 800000) : Calls Try.prog 9 #[.pointer (some ⟨p, 0, none⟩)] w fun e w' =>
    ∃ d' q A' n c xs, e = .returned (.tuple #[.pointer (some ⟨q, 0, none⟩), .slice A' n c, .int .i64 0]) ∧ n ≤ c ∧ IsDisk w' p g d' ∧ IsLog w' q p L.side L.used L.dead ∧ Live d' L A ∧ w.heap.size ≤ q ∧
      Row w' w.heap.size [] (.slice A' n c) n xs A ∧ d'.secs.length = d.secs.length ∧ d'.writes ≤ d.writes + 3 ∧ d'.left = none ∧ Chg [p, g] w w' := by
  have hal := hv.alive
  obtain ⟨ls, lu, ld⟩ := L
  simp only at hal
  subst hal
  refine (wopen_alive h hv.n7 hv.dn (by omega)).mono ?_
  rintro e w' ⟨id, hc, ho⟩
  rcases openD_either (hv.either A) hv.dn with ⟨d', s, u, rs, a1, a2, a3, a4, a5, a6⟩ | ⟨d', a1, a2, a3, a4, a5, a6, a7⟩
  · obtain ⟨rfl, rfl⟩ := openD_same hv a1
    have hrs : A = rs := by rcases a3 with a3 | a3 <;> exact a3.symm
    subst hrs
    rw [a1] at id ho
    rcases ho with ⟨x, hx, _⟩ | ⟨s', u', rs', q, A', n, c, xs, hx, hv', k1, k2, k3, k4⟩
    · cases hx
    · injection hx with hx
      simp only [Prod.mk.injEq] at hx
      obtain ⟨rfl, rfl, rfl⟩ := hx
      exact ⟨d', q, A', n, c, xs, hv', k1, id, k2, a2, k3, k4, a4, a5, a6 hl, hc⟩
  · exact absurd hl a7

set_option maxRecDepth 100000 in
set_option maxHeartbeats 8000000 in
theorem walOrder_walk (A : Option Addr) (n c : Nat) (R : Secs) (w : World) (hd : RsB w w.heap.size A n R) (hn : n ≤ c) (_ : c ≤ 9223372036854775807) :
    Calls Try.prog 4 #[.slice A n c] w fun e w' => e = .returned (.bool true) ∧ Below w.heap.size w w' := by
  obtain ⟨iT, hiT, hzT, hsT, hbT⟩ := info_parts infoT
  have hlen := hd.len
  have hnew := new_any 30 w (by omega) (by omega)
  go_enter Try.func4, Try.ntmps4
  go_wp2_with fail
  refine hnew.mono ?_
  rintro e w1 ⟨p, g, rfl, i1, hb1, hp, hg⟩
  go_wp2_with fail
  refine (open_fresh i1 (by omega) (by omega)).mono ?_
  rintro e w2 ⟨d2, q, A2, c2, xs2, rfl, i2, l2, v2, hq, _, n2, wr2, lf2, hc2⟩
  have hp1 := i1.plt
  have hg1 := i1.glt
  have hqp : q ≠ p := by omega
  have hqg : q ≠ g := by omega
  have hpg2 : p < w2.heap.size ∧ g < w2.heap.size ∧ q < w2.heap.size := ⟨i2.plt, i2.glt, l2.qlt⟩
  obtain ⟨hp2, hg2, hq2⟩ := hpg2
  have hc02 : Below w.heap.size w w2 := by
    refine ((Chg.of_below (S := []) hb1).trans hc2 (by intro s hs; simp at hs; omega)).below (by simp)
  have hq0 : w.heap.size ≤ q := by have := hb1.size; omega
  clear hnew i1
  go_wp2_with fail
  go_loopw [7, 8, 9, 10, 11, 12, 13, 14] (fun vw i _ _ _ _ _ _ wr => ∃ (k m : Nat) (A4 : Option Addr) (c4 : Nat) (M : Secs) (d : DS) (L : LS), k ≤ n ∧ k ≤ 12 ∧ i = .int .i64 k ∧ vw = .slice A4 m c4 ∧ m ≤ k ∧ m ≤ c4 ∧ wr.ownsRow w2.heap.size 9 1 (.slice A4 m c4) m (tv M) ∧ IsDisk wr p g d ∧ IsLog wr q p L.side L.used L.dead ∧ Live d L M ∧ d.left = none ∧ d.writes ≤ 3 + k * 300 ∧ Chg [p, g, q] w2 wr) (fun _ i _ _ _ _ _ _ _ => n - (intOf i).toNat)
  case atStart => exact ⟨0, 0, none, 0, [], d2, ⟨0, 0, false⟩, by omega, by omega, rfl, rfl, by omega, by omega, World.ownsRow_nil _ _ _ _, i2, l2, v2, lf2, by omega, Chg.refl _ _⟩
  case round =>
    obtain ⟨k, m, A4, c4, M, d, L, hk, hk12, rfl, rfl, hmk, hmc, hown, id, il, hv, hlf, hwr, hch⟩ := hrel
    have hB2 : w2.heap.size ≤ wr.heap.size := hch.size
    have hB0 : w.heap.size ≤ w2.heap.size := hc02.size
    have hbe : Below w.heap.size w wr := hc02.trans (hch.below' hB0 (by intro s hs; simp at hs; omega))
    by_cases hlt : k < n
    · by_cases h12 : k < 12
      · have hkL : k < R.length := by omega
        have hdr := hd.keep (fun x hx => hbe.cell hx)
        obtain ⟨blk, off, A', n', c', rfl, b1, b3, b4, b5, b6⟩ := hdr.lit hkL
        have hi1 : (k : Int) < (n : Int) := by omega
        have hi2 : (k : Int) < 12 := by omega
        have hl6 := b6.len
        have hbt : ∃ (n3 : Nat) (r : List UInt8), Bs wr w.heap.size A' n3 r ∧ n3 ≤ c' ∧ n3 ≤ 200 ∧ ((200 < n' ∧ n3 = 200) ∨ (¬ 200 < n' ∧ n3 = n')) := by
          by_cases hbig : 200 < n'
          · exact ⟨200, _, b6.take (k := 200) (by omega), by omega, by omega, .inl ⟨hbig, rfl⟩⟩
          · exact ⟨n', _, b6, by omega, by omega, .inr ⟨hbig, rfl⟩⟩
        obtain ⟨n3, r, hbr, h3c, h3l, hway⟩ := hbt
        have hrl := hbr.len
        have htl : tooLong [r] = false := by
          unfold tooLong
          rw [List.any_eq_false]
          intro x hx
          simp at hx
          subst hx
          simp
          omega
        have happ := append_live il id hqp hqg hv A' n3 c' r (hbr.mono (by omega)) (by omega) (by omega)
        clear b6 hl6 hdr
        rcases hway with ⟨hbig, rfl⟩ | ⟨hbig, rfl⟩
        all_goals
          go_wp2_with fail
          refine happ.mono ?_
          rintro e w4 ⟨hc4, ⟨h1, _⟩ | ⟨_, hfull, rfl, i4, l4⟩ | ⟨_, hroom, d4, L4, rfl, i4, l4, v4, n4, wr4, lf4⟩ | ⟨_, _, h1, _⟩⟩
          · rw [htl] at h1; cases h1
          · have hch4 := hch.and hc4
            have hown4 := own_chg hown hc4 (by intro s hs; simp at hs; omega)
            have hT : Ts w4 A4 m M := Ts.of_own hown4
            clear happ
            go_wp2_with fail
            refine (open_live i4 hv hlf (by omega)).mono ?_
            rintro e w5 ⟨d5, q5, A5, n5, c5, xs5, rfl, k5, i5, l5, v5, hq5, hrow5, n5', wr5, lf5, hc5⟩
            have hown5 := own_chg hown4 hc5 (by intro s hs; simp at hs; omega)
            have hch5 := hch4.and (hc5.mono (by simp))
            have il5 := l4.chg hc5 (by simp; omega)
            have hrsx := hrow5.rs (S := []) (by simp)
            have hn5 : n5 ≤ 13 := by
              have e1 := hrsx.len
              have e2 := hT.len
              omega
            have hm13 : m ≤ 13 := by omega
            have n5a := Lib.hid n5'
            clear n5'
            go_wp2_with fail
            refine (texts_any _ _ _ _ _ hrsx (by omega)).mono ?_
            rintro e w6 ⟨A6, c6, rfl, k6, hown6, hb6⟩
            have hown56 := own_below hown5 hb6 (Nat.le_refl _)
            go_wp2_with fail
            refine (same_any _ _ _ _ _ _ _ _ _ (Ts.of_own hown6) (Ts.of_own hown56) (by omega) (by omega)).mono ?_
            rintro e w7 ⟨rfl, hb7⟩
            have hdec : decide (M = M) = true := by simp
            rw [hdec]
            have hb57 : Below w5.heap.size w5 w7 := hb6.trans (hb7.mono hb6.size)
            have hch7 := hch5.and_below hb57
            have hown7 := own_below hown5 hb57 (Nat.le_refl _)
            have i7 := i5.chg (Chg.of_below (S := []) hb57) (by simp) (by simp)
            have l7 := il5.chg (Chg.of_below (S := []) hb57) (by simp)
            clear hown6 hown56 hown5 hown4 hrsx hrow5 hT hown i4 l4 i5 il5 l5 hb6 hb7 id il
            go_wp2_with fail
            go_roundw
            case rel => exact ⟨k + 1, m, A4, c4, M, d5, L, by omega, by omega, by go_num, rfl, by omega, hmc, hown7, i7, l7, v5, lf5, by omega, hch7⟩
            case measure => simp [intOf]; omega
          · have hch4 := hch.and hc4
            have hown4 := own_chg hown hc4 (by intro s hs; simp at hs; omega)
            have hbr4 : Bs w4 w4.heap.size A' _ r := (hbr.keep (fun x hx => (hc4.cell (p := x) (by omega) (by simp; omega)))).mono (by have := hc4.size; omega)
            have hcv := conv hbr4 c'
            have e1 : tv (M ++ [r]) = tv M ++ [.string (str r)] := by rw [tv_append]; rfl
            have HE := Lib.hid e1
            generalize str r = sr at *
            have h63 : m + 1 ≤ maxLen := by unfold maxLen; omega
            have hk16 : (m + 1) * 16 ≤ 140737488355328 := by omega
            have hB4 : w2.heap.size ≤ w4.heap.size := hch4.size
            clear happ e1
            go_wp2_with (at_builtin; go_must (refine wpList_push rfl (.tmp 52) (.tmp 55) 32 rfl w2.heap.size iT (.string ⟨#[]⟩) 16 Try.underlying32 hiT hzT hsT hbT rfl _ _ _ rfl hown4 rfl rfl h63 hk16 hB4 ?_))
            intro A8 c8 w8 hown8 g7 g8 hgr
            obtain ⟨S8, hS8, hc8⟩ := chg_push hgr hown4
            rw [← HE.out] at hown8
            have i8 := i4.chg hc8 (fun hm => by have := hS8 _ hm; omega) (fun hm => by have := hS8 _ hm; omega)
            have l8 := l4.chg hc8 (fun hm => by have := hS8 _ hm; omega)
            have hch8 : Chg [p, g, q] w2 w8 := hch4.trans hc8 fun s hs => .inr (hS8 s hs)
            clear hcv hgr hown4 hown i4 l4
            go_wp2_with fail
            refine (open_live i8 v4 (lf4 hlf) (by omega)).mono ?_
            rintro e w5 ⟨d5, q5, A5, n5, c5, xs5, rfl, k5, i5, l5, v5, hq5, hrow5, n5', wr5, lf5, hc5⟩
            have hown5 := own_chg hown8 hc5 (by intro s hs; simp at hs; omega)
            have hch5 := hch8.and (hc5.mono (by simp))
            have hq8 := l8.qlt
            have il5 := l8.chg hc5 (by simp; omega)
            have hrsx := hrow5.rs (S := []) (by simp)
            have hn5 : n5 ≤ 13 := by
              have e1 := hrsx.len
              have e2 := (Ts.of_own hown8).len
              omega
            have hm13 : m + 1 ≤ 13 := by omega
            have n5a := Lib.hid n5'
            have n4a := Lib.hid n4
            clear n5' n4
            go_wp2_with fail
            refine (texts_any _ _ _ _ _ hrsx (by omega)).mono ?_
            rintro e w6 ⟨A6, c6, rfl, k6, hown6, hb6⟩
            have hown56 := own_below hown5 hb6 (Nat.le_refl _)
            go_wp2_with fail
            refine (same_any _ _ _ _ _ _ _ _ _ (Ts.of_own hown6) (Ts.of_own hown56) (by omega) (by omega)).mono ?_
            rintro e w7 ⟨rfl, hb7⟩
            have hdec : decide (M ++ [r] = M ++ [r]) = true := by simp
            rw [hdec]
            have hb57 : Below w5.heap.size w5 w7 := hb6.trans (hb7.mono hb6.size)
            have hch7 := hch5.and_below hb57
            have hown7 := own_below hown5 hb57 (Nat.le_refl _)
            have i7 := i5.chg (Chg.of_below (S := []) hb57) (by simp) (by simp)
            have l7 := il5.chg (Chg.of_below (S := []) hb57) (by simp)
            clear hown6 hown56 hown5 hrsx hrow5 i5 il5 l5 hb6 hb7 id il hown8 i8 l8
            go_wp2_with fail
            go_roundw
            case rel => exact ⟨k + 1, m + 1, A8, c8, M ++ [r], d5, L4, by omega, by omega, by go_num, rfl, by omega, g7, hown7, i7, l7, v5, lf5, by omega, hch7⟩
            case measure => simp [intOf]; omega
          · exact absurd hlf h1
      · obtain rfl : k = 12 := by omega
        have hi1 : (12 : Int) < (n : Int) := by omega
        clear hown id il hv hd
        go_wp2_with fail
        refine (lives_any _).mono ?_
        rintro e w3 ⟨rfl, hb3⟩
        go_wp2
        go_ret
        exact ⟨rfl, hbe.trans (hb3.mono (by omega))⟩
    · obtain rfl : k = n := by omega
      clear hown id il hv hd
      go_wp2_with fail
      refine (lives_any _).mono ?_
      rintro e w3 ⟨rfl, hb3⟩
      go_wp2
      go_ret
      exact ⟨rfl, hbe.trans (hb3.mono (by omega))⟩
end Go.Proofs.Ytgaplcgenlphdaa
