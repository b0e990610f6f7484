/- THE WALK of WalTorn. -/
import Derived.Test.YtgaplcgenlphdaaWalOrder
import Derived.Test.YtgaplcgenlphdaaKeep
namespace Go.Proofs.Ytgaplcgenlphdaa
open Go.RowKit Mem Wal

theorem Ts.chg {w w' : World} {S : List Nat} {A : Option Addr} {n : Nat} {L : List (List UInt8)} (h : Ts w A n L) (hS : ∀ a, A = some a → 0 < n → a.block ∉ S) (hc : Chg S w w') : Ts w' A n L := by
  refine ⟨Vs.len h, fun j u hj => ?_⟩
  obtain ⟨ad, rfl, hb, hcell⟩ := Vs.rd h j u hj
  have hn : 0 < n := by
    have h1 := (List.getElem?_eq_some_iff.1 hj).1
    have h2 := Vs.len h
    omega
  refine ⟨ad, rfl, Nat.lt_of_lt_of_le hb hc.size, ?_⟩
  rw [hc.cell (by rw [block_add]; exact hb) (by rw [block_add]; exact hS ad rfl hn)]
  exact hcell
theorem Wal.Live.arm {d : DS} {L : LS} {rs : Secs} (h : Live d L rs) (a : Int) (t : List UInt8) : Live (d.arm a t) L rs := by
  refine ⟨⟨h.wf.1, fun n t' e => ?_⟩, h.dn, h.n7, h.n256, h.alive, h.good⟩
  unfold DS.arm at e
  simp only at e
  split at e
  · injection e with e
    injection e with e1 e2
    rw [← e2]
    exact fill_length _
  · cases e
theorem Wal.Either.up {d : DS} {A B : Secs} (h : Either d A B) : Either d.up A B := ⟨⟨h.wf.1, fun n t e => by simp [DS.up] at e⟩, h.n7, h.n256, h.may⟩
/-- What Append told, and what may be found. -/
def Found (M : Secs) (r : List UInt8) (f : Int) (X Y : Secs) : Prop := (f = 6 ∧ X = M ∧ Y = M) ∨ (f = 0 ∧ X = M ++ [r] ∧ Y = M ++ [r]) ∨ (f = 26 ∧ X = M ∧ Y = M ++ [r])

theorem puts_found {w : World} {q p g : Nat} {d : DS} {L : LS} {M : Secs} {r : List UInt8} (hv : Live d L M) (htl : tooLong [r] = false) {e : Ending} {w' : World} (h : Puts w q p g d L M (M ++ [r]) [r] L.used e w') :
    ∃ f d' X Y, e = .returned (.int .i64 f) ∧ IsDisk w' p g d' ∧ Either d' X Y ∧ Found M r f X Y ∧ d'.writes ≤ d.writes + 256 ∧ Chg [p, g, q] w w' := by
  obtain ⟨hc, ⟨h1, _⟩ | ⟨_, _, he, i, l⟩ | ⟨_, _, d', L', he, i, l, v, _, wr, _⟩ | ⟨_, _, _, d', L', he, i, l, _, _, _, _, ei, _, wr, _⟩⟩ := h
  · rw [htl] at h1; cases h1
  · exact ⟨6, d, M, M, he, i, hv.either M, .inl ⟨rfl, rfl, rfl⟩, by omega, hc⟩
  · exact ⟨0, d', _, _, he, i, v.either _, .inr (.inl ⟨rfl, rfl, rfl⟩), wr, hc⟩
  · exact ⟨26, d', _, _, he, i, ei, .inr (.inr ⟨rfl, rfl, rfl⟩), wr, hc⟩
theorem found_end {M : Secs} {r : List UInt8} {f : Int} {X Y rs : Secs} (h : Found M r f X Y) (hr : rs = X ∨ rs = Y) :
    (f = 6 ∧ decide (rs = M) = true) ∨ (f = 0 ∧ decide (rs = M ++ [r]) = true) ∨ (f = 26 ∧ decide (rs = M) = true) ∨ (f = 26 ∧ decide (rs = M) = false ∧ decide (rs = M ++ [r]) = true) := by
  rcases h with ⟨rfl, rfl, rfl⟩ | ⟨rfl, rfl, rfl⟩ | ⟨rfl, rfl, rfl⟩
  · exact .inl ⟨rfl, by rcases hr with h | h <;> exact decide_eq_true h⟩
  · exact .inr (.inl ⟨rfl, by rcases hr with h | h <;> exact decide_eq_true h⟩)
  · rcases hr with rfl | rfl
    · exact .inr (.inr (.inl ⟨rfl, decide_eq_true rfl⟩))
    · exact .inr (.inr (.inr ⟨rfl, decide_eq_false (fun e => by have := congrArg List.length e; simp at this), decide_eq_true rfl⟩))
theorem cut_bytes {w : World} {B : Nat} {A : Option Addr} {n c : Nat} {l : List UInt8} (h : Bs w B A n l) (hn : n ≤ c) (z : Nat) : ∃ (m : Nat) (r : List UInt8), Bs w B A m r ∧ m ≤ c ∧ m ≤ z ∧ ((z < n ∧ m = z) ∨ (¬ z < n ∧ n = m)) := by
  by_cases hbig : z < n
  · exact ⟨z, _, h.take (k := z) (by omega), by omega, by omega, .inl ⟨hbig, rfl⟩⟩
  · exact ⟨n, _, h, by omega, by omega, .inr ⟨hbig, rfl⟩⟩

set_option maxRecDepth 100000 in
set_option maxHeartbeats 16000000 in
theorem walTorn_walk (A : Option Addr) (n c : Nat) (R : Secs) (A1 : Option Addr) (n1 c1 : Nat) (r1 : List UInt8) (x : Int) (A3 : Option Addr) (n3 c3 : Nat) (r3 : List UInt8) (w : World)
    (hd : RsB w w.heap.size A n R) (hn : n ≤ c) (_ : c ≤ 9223372036854775807) (hd1 : Bs w w.heap.size A1 n1 r1) (hn1 : n1 ≤ c1) (hc1 : c1 ≤ 9223372036854775807) (wx : (Lit.int .i64 x).wf = true) (hd3 : Bs w w.heap.size A3 n3 r3) (hn3 : n3 ≤ c3) (hc3 : c3 ≤ 9223372036854775807) :
    Calls Try.prog 7 #[.slice A n c, .slice A1 n1 c1, .int .i64 x, .slice A3 n3 c3] w fun e w' => e = .returned (.bool true) ∧ Below w.heap.size w w' := by
  obtain ⟨iT, hiT, hzT, hsT, hbT⟩ := info_parts infoT
  have hnew := new_any 40 w (by omega) (by omega)
  obtain ⟨hx1, hx2⟩ := wf_int wx
  have main : (∃ m k : Nat, m ≤ 9223372036854775807 ∧ k < 12 ∧ x = (m : Int) ∧ Hid ((m : Int) % 12 = (k : Int))) ∨ (∃ m k : Nat, m ≤ 9223372036854775807 ∧ k < 12 ∧ x = -(m : Int) - 1 ∧ Hid ((m : Int) % 12 = (k : Int))) := by
    by_cases h : 0 ≤ x
    · obtain ⟨m, rfl⟩ := Int.eq_ofNat_of_zero_le h
      exact .inl ⟨m, m % 12, by omega, by omega, rfl, Lib.hid (by omega)⟩
    · obtain ⟨m, hm⟩ := Int.eq_ofNat_of_zero_le (show 0 ≤ -x - 1 by omega)
      exact .inr ⟨m, m % 12, by omega, by omega, by omega, Lib.hid (by omega)⟩
  clear wx
  go_enter Try.func7, Try.ntmps7
  go_wp2_with fail
  refine hnew.mono ?_
  rintro e w1 ⟨p, g, rfl, i1, hb1, hp, hg⟩
  go_wp2_with fail
  refine (open_fresh i1 (by omega) (by omega)).mono ?_
  rintro e w2 ⟨d2, q, A2, c2, xs2, rfl, i2, l2, v2, hq, _, n2, wr2, lf2, hc2⟩
  have hp1 := i1.plt
  have hg1 := i1.glt
  have hqp : q ≠ p := by omega
  have hqg : q ≠ g := by omega
  have hpg2 : p < w2.heap.size ∧ g < w2.heap.size ∧ q < w2.heap.size := ⟨i2.plt, i2.glt, l2.qlt⟩
  obtain ⟨hp2, hg2, hq2⟩ := hpg2
  have hc02 : Below w.heap.size w w2 := by
    refine ((Chg.of_below (S := []) hb1).trans hc2 (by intro s hs; simp at hs; omega)).below (by simp)
  have hq0 : w.heap.size ≤ q := by have := hb1.size; omega
  have hB02 := hc02.size
  have hx2 : RsX w2 [p, g, q] A n R := (hd.keep (fun x hx => hc02.cell hx)).x hB02 (by intro s hs; simp at hs; omega)
  have N2 := Lib.hid n2
  clear hnew i1 n2
  go_wp2_with fail
  refine (few_any _ _ _ _ _ hx2 hn).mono ?_
  rintro e w3 ⟨Af, nf, cf, xsf, rfl, hf4, hfc, hfc2, hrowf, hb3⟩
  have hc23 : Chg [p, g, q] w2 w3 := Chg.of_below hb3
  have hB23 := hb3.size
  have i3 := i2.chg (Chg.of_below (S := []) hb3) (by simp) (by simp)
  have l3 := l2.chg (Chg.of_below (S := []) hb3) (by simp)
  have hrf := hrowf.rs (by intro s hs; simp at hs; omega)
  have hshort := fewOf_short R
  have hrl := hrf.len
  generalize fewOf R = F at *
  have HRL := Lib.hid hrl
  clear hrowf i2 l2 hrl hx2
  go_wp2_with fail
  go_loopw [13, 14] (fun vw i wr => ∃ (k m : Nat) (A4 : Option Addr) (c4 : Nat) (M : Secs) (d : DS) (L : LS), k ≤ nf ∧ i = .int .i64 k ∧ vw = .slice A4 m c4 ∧ m ≤ k ∧ m ≤ c4 ∧ wr.ownsRow w3.heap.size 9 1 (.slice A4 m c4) m (tv M) ∧ IsDisk wr p g d ∧ IsLog wr q p L.side L.used L.dead ∧ Live d L M ∧ d.left = none ∧ d.writes ≤ 3 + k * 300 ∧ Chg [p, g, q] w3 wr) (fun _ i _ => nf - (intOf i).toNat)
  case atStart => exact ⟨0, 0, none, 0, [], d2, ⟨0, 0, false⟩, by omega, rfl, rfl, by omega, by omega, World.ownsRow_nil _ _ _ _, i3, l3, v2, lf2, by omega, Chg.refl _ _⟩
  case round =>
    obtain ⟨k, m, A4, c4, M, d, L, hk, rfl, rfl, hmk, hmc, hown, id, il, hv, hlf, hwr, hch⟩ := hrel
    have hB3 : w3.heap.size ≤ wr.heap.size := hch.size
    have hbe : Below w.heap.size w wr := (hc02.trans (hb3.mono hB02)).trans (hch.below' (by omega) (by intro s hs; simp at hs; omega))
    by_cases hlt : k < nf
    · have hkL : k < F.length := by rw [HRL.out]; exact hlt
      have hrx := hrf.chg hch
      obtain ⟨blk, off, A', n', c', rfl, b1, b2, b3, b4, b5, b6, b7⟩ := hrx.lit hkL
      have hl6 := b6.len
      have hs6 := hshort _ (List.getElem_mem hkL)
      generalize F[k] = r at *
      have happ := append_live il id hqp hqg hv A' n' c' r b6 (by omega) (by omega)
      clear hl6 hrx
      go_wp2_with fail
      refine happ.mono ?_
      rintro e w4 ⟨hc4, ⟨htl, rfl, i4, l4⟩ | ⟨_, hfull, rfl, i4, l4⟩ | ⟨_, hroom, d4, L4, rfl, i4, l4, v4, n4, wr4, lf4⟩ | ⟨_, _, h1, _⟩⟩
      · have hown4 := own_chg hown hc4 (by intro s hs; simp at hs; omega)
        have hch4 := hch.and hc4
        clear happ hown id il b6
        go_wp2_with fail
        go_roundw
        case rel => exact ⟨k + 1, m, A4, c4, M, d, L, by omega, by go_num, rfl, by omega, hmc, hown4, i4, l4, hv, hlf, by omega, hch4⟩
        case measure => simp [intOf]; omega
      · have hown4 := own_chg hown hc4 (by intro s hs; simp at hs; omega)
        have hch4 := hch.and hc4
        clear happ hown id il b6
        go_wp2_with fail
        go_roundw
        case rel => exact ⟨k + 1, m, A4, c4, M, d, L, by omega, by go_num, rfl, by omega, hmc, hown4, i4, l4, hv, hlf, by omega, hch4⟩
        case measure => simp [intOf]; omega
      · have hch4 := hch.and hc4
        have hown4 := own_chg hown hc4 (by intro s hs; simp at hs; omega)
        have b34 := (hc4.cell (p := ⟨blk, off + k, none⟩) b1 b2).trans b3
        have hbr4 := bs_chgX b6 b7 hc4
        have hcv := conv hbr4 c'
        have e1 : tv (M ++ [r]) = tv M ++ [.string (str r)] := by rw [tv_append]; rfl
        have HE := Lib.hid e1
        generalize str r = sr at *
        have h63 : m + 1 ≤ maxLen := by unfold maxLen; omega
        have hk16 : (m + 1) * 16 ≤ 140737488355328 := by omega
        have hB4 : w3.heap.size ≤ w4.heap.size := hch4.size
        have lf4' := lf4 hlf
        clear happ e1 b3 b6 n4 hbr4 lf4
        go_wp2_with (at_builtin; go_must (refine wpList_push rfl (.tmp 51) (.tmp 57) 32 rfl w3.heap.size iT (.string ⟨#[]⟩) 16 Try.underlying32 hiT hzT hsT hbT rfl _ _ _ rfl hown4 rfl rfl h63 hk16 hB4 ?_))
        intro A8 c8 w8 hown8 g7 g8 hgr
        obtain ⟨S8, hS8, hc8⟩ := chg_push hgr hown4
        rw [← HE.out] at hown8
        have i8 := i4.chg hc8 (fun hm => by have := hS8 _ hm; omega) (fun hm => by have := hS8 _ hm; omega)
        have l8 := l4.chg hc8 (fun hm => by have := hS8 _ hm; omega)
        have hch8 : Chg [p, g, q] w3 w8 := hch4.trans hc8 fun s hs => .inr (hS8 s hs)
        clear hcv hgr hown4 hown i4 l4 b34
        go_wp2_with fail
        go_roundw
        case rel => exact ⟨k + 1, m + 1, A8, c8, M ++ [r], d4, L4, by omega, by go_num, rfl, by omega, g7, hown8, i8, l8, v4, lf4', by omega, hch8⟩
        case measure => simp [intOf]; omega
      · exact absurd hlf h1
    · obtain rfl : k = nf := by omega
      have hown0 := fun h => own_some hown h
      have hm4 : m ≤ 4 := by omega
      have hbr := cut_bytes (hd1.keep (fun x hx => hbe.cell hx)) hn1 300
      have hbt := cut_bytes (hd3.keep (fun x hx => hbe.cell hx)) hn3 128
      have hq3 : p < wr.heap.size ∧ g < wr.heap.size ∧ q < wr.heap.size := by omega
      obtain ⟨hp3, hg3, hq3⟩ := hq3
      clear hrf hshort hd hd1 hd3 HRL i3 l3 v2
      rcases main with ⟨mx, kx, hmx, hkx, rfl, HM⟩ | ⟨mx, kx, hmx, hkx, rfl, HM⟩
      all_goals
        have hmk := HM.out
        obtain ⟨nr, r, br, hr1, hr2, hw1⟩ := hbr
        obtain ⟨nt, t, bt, ht1, ht2, hw2⟩ := hbt
        have hr3 : r.length ≤ 300 := by rw [br.len]; exact hr2
        have htl : tooLong [r] = false := by
          unfold tooLong
          rw [List.any_eq_false]
          intro y hy
          simp at hy
          subst hy
          simp
          omega
        have harm := arm_any id (kx : Int) (by omega) (by omega) A3 nt c3 w.heap.size t bt (by omega)
        have va := hv.arm (kx : Int) t
        have hwa : (d.arm (kx : Int) t).writes ≤ 3 + k * 300 := hwr
        generalize d.arm (kx : Int) t = da at *
        clear hv hlf hwr bt
        rcases hw1 with ⟨hw1, rfl⟩ | ⟨hw1, rfl⟩ <;> rcases hw2 with ⟨hw2, rfl⟩ | ⟨hw2, rfl⟩
        all_goals
          go_wp2_with fail
          refine harm.mono ?_
          rintro e w4 ⟨rfl, i4, hc4⟩
          have l4 := il.chg hc4 (by simp; omega)
          have hown4 := own_chg hown hc4 (by intro s hs; simp at hs; omega)
          have hsz4 := hc4.size
          have br4 := (br.keep (fun x hx => hc4.cell (p := x) (by omega) (by simp; omega)))
          have happ := append_live l4 i4 hqp hqg va A1 _ c1 r (br4.mono (by omega)) (by omega) (by omega)
          clear hmk HM id il harm br hown
          go_wp2_with fail
          refine happ.mono ?_
          intro e w5 hputs
          obtain ⟨f, d5, X, Y, rfl, i5, he5, hfound, wr5, hc5⟩ := puts_found va htl hputs
          have hsz5 := hc5.size
          have hown5 := own_chg hown4 hc5 (by intro s hs; simp at hs; omega)
          have hc35 : Chg [p, g, q] wr w5 := (hc4.mono (by simp)).and hc5
          have br5 := (br4.keep (fun x hx => hc5.cell (p := x) (by omega) (by simp; omega))).mono (show w.heap.size ≤ w5.heap.size by omega)
          have hcv := conv br5 c1
          have e1 : tv (M ++ [r]) = tv M ++ [.string (str r)] := by rw [tv_append]; rfl
          have HE := Lib.hid e1
          generalize str r = sr at *
          have h63 : m + 1 ≤ maxLen := by unfold maxLen; omega
          have hk16 : (m + 1) * 16 ≤ 140737488355328 := by omega
          have hB5 : w3.heap.size ≤ w5.heap.size := by omega
          clear happ e1 hputs br4 br5 hown4 i4 l4 va
          go_wp2_with (at_builtin; go_must (refine wpList_pushKeep rfl (.tmp 82) (.tmp 85) 32 rfl w3.heap.size iT (.string ⟨#[]⟩) 16 Try.underlying32 hiT hzT hsT hbT rfl _ _ _ _ rfl hown5 rfl rfl h63 hk16 hB5 ?_))
          intro A8 c8 w8 hown8 g7 g8 hgr hkeep
          obtain ⟨S8, hS8, hc8⟩ := chg_push hgr hown5
          rw [← HE.out] at hown8
          have hTM : Ts w8 A4 m M := hkeep
          have hA4 : ∀ a, A4 = some a → 0 < m → w3.heap.size ≤ a.block := fun a ha hm => by
            obtain ⟨g0, hg0, hg1, _⟩ := hown0 hm
            rw [ha] at hg0
            injection hg0 with hg0
            subst hg0
            exact hg1
          have i8 := i5.chg hc8 (fun hm => by have := hS8 _ hm; omega) (fun hm => by have := hS8 _ hm; omega)
          have hc38 : Chg [p, g, q] w3 w8 := (hch.and hc35).trans hc8 fun s hs => .inr (hS8 s hs)
          have hsz8 := hc8.size
          clear hcv hgr hown5 i5 hkeep hown0
          go_wp2_with fail
          refine (up_any i8).mono ?_
          rintro e w9 ⟨rfl, i9, hc9⟩
          have hsz9 := hc9.size
          have hTM9 : Ts w9 A4 m M := hTM.chg (fun a ha hm => by have := hA4 a ha hm; simp; omega) hc9
          have hown9 := own_chg hown8 hc9 (by intro s hs; simp at hs; omega)
          have he9 := he5.up
          have hw9 : d5.up.writes ≤ 2000 := by show d5.writes ≤ 2000; omega
          have hdn9 : d5.up.down = false := rfl
          have hlf9 : d5.up.left = none := rfl
          generalize d5.up = du at *
          clear hTM hown8 i8 he5
          go_wp2_with fail
          refine (open_sure i9 he9 hdn9 hlf9 (by omega)).mono ?_
          rintro e w10 ⟨d6, L6, rs, q6, A6, n6, c6, xs6, rfl, k6, i6, l6, v6, hrs, hq6, hrow6, _, _, _, hc10⟩
          have hTM10 : Ts w10 A4 m M := hTM9.chg (fun a ha hm => by have := hA4 a ha hm; simp; omega) hc10
          have hown10 := own_chg hown9 hc10 (by intro s hs; simp at hs; omega)
          have hTY10 := Ts.of_own hown10
          have hrsx := hrow6.rs (S := []) (by simp)
          have hfin := found_end hfound hrs
          have hn6 : n6 ≤ 5 := by
            have e1 := hrsx.len
            have e2 := hTM10.len
            have e3 := hTY10.len
            rcases hfound with ⟨_, rfl, rfl⟩ | ⟨_, rfl, rfl⟩ | ⟨_, rfl, rfl⟩ <;> rcases hrs with rfl | rfl <;> omega
          have hbe10 : Below w.heap.size w w10 := ((hc02.trans (hb3.mono hB02)).trans ((hc38.and (hc9.mono (by simp))).and (hc10.mono (by simp)) |>.below' (by omega) (by intro s hs; simp at hs; omega)))
          obtain ⟨o1, ho1⟩ : ∃ b, decide (rs = M) = b := ⟨_, rfl⟩
          obtain ⟨o2, ho2⟩ : ∃ b, decide (rs = M ++ [r]) = b := ⟨_, rfl⟩
          rw [ho1, ho2] at hfin
          have hsz10 := hc10.size
          clear hTM9 hown9 i9 he9 i6 l6 v6 hrow6 hfound hrs hc9 hc38
          go_wp2_with fail
          refine (texts_any _ _ _ _ _ hrsx (by omega)).mono ?_
          rintro e w11 ⟨A11, c11, rfl, k11, hown11, hb11⟩
          have t1 := Ts.of_own hown11
          have hTM11 : Ts w11 A4 m M := hTM10.chg (S := []) (by simp) (Chg.of_below hb11)
          have hTY11 : Ts w11 A8 (m + 1) (M ++ [r]) := hTY10.chg (S := []) (by simp) (Chg.of_below hb11)
          have hsz11 := hb11.size
          clear hown11 hTM10 hTY10 hown10 hrsx
          go_wp2_with fail
          refine (same_any _ _ _ _ _ _ _ _ _ t1 hTM11 (by omega) (by omega)).mono ?_
          rintro e w12 ⟨rfl, hb12⟩
          rw [ho1]
          have hsz12 := hb12.size
          have t12 : Ts w12 A11 n6 rs := t1.chg (S := []) (by simp) (Chg.of_below hb12)
          have hTY12 : Ts w12 A8 (m + 1) (M ++ [r]) := hTY11.chg (S := []) (by simp) (Chg.of_below hb12)
          clear t1 hTM11 hTY11
          go_wp2_with fail
          refine (same_any _ _ _ _ _ _ _ _ _ t12 hTY12 (by omega) (by omega)).mono ?_
          rintro e w13 ⟨rfl, hb13⟩
          rw [ho2]
          have hend : Below w.heap.size w w13 := ((hbe10.trans (hb11.mono (by omega))).trans (hb12.mono (by omega))).trans (hb13.mono (by omega))
          clear t12 hTY12 ho1 ho2
          rcases hfin with ⟨rfl, rfl⟩ | ⟨rfl, rfl⟩ | ⟨rfl, rfl⟩ | ⟨rfl, rfl, rfl⟩
          all_goals
            go_wp2_with fail
            refine (lives_any _).mono ?_
            rintro e w14 ⟨rfl, hb14⟩
            go_wp2
            go_ret
            exact ⟨rfl, hend.trans (hb14.mono hend.size)⟩
end Go.Proofs.Ytgaplcgenlphdaa
