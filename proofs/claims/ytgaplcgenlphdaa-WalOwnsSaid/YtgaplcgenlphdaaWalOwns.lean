/- THE WALK of WalOwns. -/
import Derived.Test.YtgaplcgenlphdaaWalOrder
import Derived.Test.YtgaplcgenlphdaaOwnRecs
namespace Go.Proofs.Ytgaplcgenlphdaa
open Go.RowKit Mem Wal

set_option maxRecDepth 100000 in
set_option maxHeartbeats 16000000 in
theorem walOwns_walk (A : Option Addr) (n c : Nat) (R : Secs) (w : World) (hd : RsB w w.heap.size A n R) (hn : n ≤ c) (_ : c ≤ 9223372036854775807) :
    Calls Try.prog 6 #[.slice A n c] w fun e w' => e = .returned (.bool true) ∧ Below w.heap.size w w' := by
  obtain ⟨iT, hiT, hzT, hsT, hbT⟩ := info_parts infoT
  obtain ⟨iB, hiB, hzB, hsB, hbB⟩ := info_parts infoBs
  obtain ⟨i8, hi8, hz8, hs8, hb8⟩ := info_parts info8
  have hnew := new_any 60 w (by omega) (by omega)
  go_enter Try.func6, Try.ntmps6
  go_wp2_with fail
  refine hnew.mono ?_
  rintro e w1 ⟨p, g, rfl, i1, hb1, hp, hg⟩
  go_wp2_with fail
  refine (open_fresh i1 (by omega) (by omega)).mono ?_
  rintro e w2 ⟨d2, q, A2, c2, xs2, rfl, i2, l2, v2, hq, _, n2, wr2, lf2, hc2⟩
  have hp1 := i1.plt
  have hg1 := i1.glt
  have hqp : q ≠ p := by omega
  have hqg : q ≠ g := by omega
  have hpg2 : p < w2.heap.size ∧ g < w2.heap.size ∧ q < w2.heap.size := ⟨i2.plt, i2.glt, l2.qlt⟩
  obtain ⟨hp2, hg2, hq2⟩ := hpg2
  have hc02 : Below w.heap.size w w2 := by
    refine ((Chg.of_below (S := []) hb1).trans hc2 (by intro s hs; simp at hs; omega)).below (by simp)
  have hq0 : w.heap.size ≤ q := by have := hb1.size; omega
  have hB02 := hc02.size
  have hx2 : RsX w2 [p, g, q] A n R := (hd.keep (fun x hx => hc02.cell hx)).x hB02 (by intro s hs; simp at hs; omega)
  have N2 := Lib.hid n2
  clear hnew i1 n2
  go_wp2_with fail
  refine (few_any _ _ _ _ _ hx2 hn).mono ?_
  rintro e w3 ⟨Af, nf, cf, xsf, rfl, hf4, hfc, hfc2, hrowf, hb3⟩
  have hB23 := hb3.size
  have i3 := i2.chg (Chg.of_below (S := []) hb3) (by simp) (by simp)
  have l3 := l2.chg (Chg.of_below (S := []) hb3) (by simp)
  have hrf := hrowf.rs (by intro s hs; simp at hs; omega)
  have hshort := fewOf_short R
  have hrl := hrf.len
  generalize fewOf R = F at *
  have HRL := Lib.hid hrl
  have hbe3 : Below w.heap.size w w3 := hc02.trans (hb3.mono hB02)
  clear hrowf i2 l2 hrl hx2 hd
  go_wp2_with fail
  go_loopw [7, 8, 9, 10] (fun vh vo i _ wr => ∃ (k m : Nat) (Ah Ao : Option Addr) (ch co : Nat) (xs : List Value) (M : Secs), k ≤ nf ∧ i = .int .i64 k ∧ vh = .slice Ah m ch ∧ vo = .slice Ao m co ∧ m ≤ k ∧ m ≤ ch ∧ m ≤ co ∧ Three wr w3.heap.size (.slice Ao m co) (.slice Ah m ch) m xs M m (tv M) ∧ Hid (∀ r ∈ M, r.length ≤ 1000) ∧ Below w3.heap.size w3 wr) (fun _ _ i _ _ => nf - (intOf i).toNat)
  case atStart => exact ⟨0, 0, none, none, 0, 0, [], [], by omega, rfl, rfl, rfl, by omega, by omega, by omega, Three.nil _ _, Lib.hid (by simp), Below.refl _ _⟩
  case round =>
    obtain ⟨k, m, Ah, Ao, ch, co, xs, M, hk, rfl, rfl, rfl, hmk, hmh, hmo, h3, HM, hb⟩ := hrel
    have hB3 : w3.heap.size ≤ wr.heap.size := hb.size
    by_cases hlt : k < nf
    · have hkL : k < F.length := by rw [HRL.out]; exact hlt
      have hrx := hrf.chg (Chg.of_below (S := [p, g, q]) hb)
      obtain ⟨blk, off, A', n', c', rfl, b1, b2, b3, b4, b5, b6, b7⟩ := hrx.lit hkL
      have hl6 := b6.len
      have hs6 := hshort _ (List.getElem_mem hkL)
      have hn1010 : n' ≤ 1010 := by omega
      generalize F[k] = r at *
      by_cases hbig : 1000 < n'
      · clear hl6 b6 hrx
        go_wp2
        go_roundw
        case rel => exact ⟨k + 1, m, Ah, Ao, ch, co, xs, M, by omega, by go_num, rfl, rfl, by omega, hmh, hmo, h3, HM, hb⟩
        case measure => simp [intOf]; omega
      · have h63a : 0 + n' ≤ maxLen := by unfold maxLen; omega
        have HL6 := Lib.hid hl6
        clear hl6 hrx
        go_wp2_with (at_builtin; go_must (refine wpList_append wr rfl (.tmp 45) (.tmp 49) 33 rfl wr.heap.size 5 i8 (.int .u8 0) 1 1 Try.underlying33 hi8 hz8 hs8 hb8 rfl (by omega) _ 0 [] rfl (World.ownsRow_nil _ _ _ _) wr.heap.size _ _ _ _ rfl b6 (bv_oneCell _) h63a (by omega) (Nat.le_refl _) ?_))
        intro Ab cb w5 hownb gb1 gb2 hgrb
        have hb5 : Below wr.heap.size wr w5 := below_grown (Below.refl _ _) hgrb (Nat.le_refl _) (World.ownsRow_nil wr wr.heap.size 5 1)
        have h35 := h3.below hb5
        have hsz5 := hb5.size
        have hvb : w5.ownsRow w3.heap.size 5 1 (.slice Ab n' cb) r.length (bv r) := by rw [HL6.out]; exact own_base hownb hB3
        have hfar := fun b hh => (hownb.lt b hh).1
        have hf : ∀ v ∈ xs, ∀ b, v.ownBlock = some b → (Value.slice Ab n' cb).ownBlock ≠ some b := fun v hv b hh h2 => by
          have := (h3.e.blk hv hh).2
          have := hfar b h2
          omega
        have hfo : ∀ b, (Value.slice Ab n' cb).ownBlock = some b → (Value.slice Ao m co).ownBlock ≠ some b ∧ (Value.slice Ah m ch).ownBlock ≠ some b := fun b h2 => by
          have := hfar b h2
          exact ⟨fun e => by have := (h3.o.lt b e).2; omega, fun e => by have := (h3.h.lt b e).2; omega⟩
        have h63 : m + 1 ≤ maxLen := by unfold maxLen; omega
        have hk24 : (m + 1) * 24 ≤ 140737488355328 := by omega
        have hk16 : (m + 1) * 16 ≤ 140737488355328 := by omega
        have hB5 : w3.heap.size ≤ w5.heap.size := by omega
        have hownO := h35.o
        have HV := Lib.hid hvb
        have HF := Lib.hid hf
        have HFO := Lib.hid hfo
        clear hgrb hownb hfar hvb hf hfo h3 b6
        go_wp2_with (at_builtin; go_must (refine wpList_pushAt rfl (.tmp 51) (.tmp 53) 23 rfl w3.heap.size iB (.slice none 0 0) 24 Try.underlying23 hiB hzB hsB hbB rfl _ _ _ rfl hownO rfl rfl h63 hk24 hB5 ?_))
        intro A6 c6 w6 hown6 g7 g8 hgr6 hat6
        have h36 := h35.pushOwn HV.out HF.out HFO.out hown6 hgr6 hat6
        have hb36 : Below w3.heap.size w3 w6 := below_push (hb.trans (hb5.mono hB3)) hgr6 hB5 hownO (Nat.le_refl _)
        have hB6 := hb36.size
        have hlast := h36.last
        rw [HL6.out] at hlast
        have hcv := conv (Bs.of_own hlast) cb
        have e1 : tv (M ++ [r]) = tv M ++ [.string (str r)] := by rw [tv_append]; rfl
        have HE := Lib.hid e1
        have hr1000 : ∀ x ∈ M ++ [r], x.length ≤ 1000 := by
          intro x hx
          rcases List.mem_append.1 hx with hx | hx
          · exact HM.out x hx
          · simp at hx
            subst hx
            rw [HL6.out]
            omega
        have HM2 := Lib.hid hr1000
        generalize str r = sr at *
        have hownH := h36.h
        clear h35 hownO hgr6 hat6 hown6 e1 hlast hr1000
        go_wp2_with (at_builtin; go_must (refine wpList_pushAt rfl (.tmp 55) (.tmp 58) 32 rfl w3.heap.size iT (.string ⟨#[]⟩) 16 Try.underlying32 hiT hzT hsT hbT rfl _ _ _ rfl hownH rfl rfl h63 hk16 hB6 ?_))
        intro A8 c8 w8 hown8 g9 g10 hgr8 hat8
        have h38 := h36.pushHad hown8 hgr8 hat8
        have hb38 : Below w3.heap.size w3 w8 := below_push hb36 hgr8 hB6 hownH (Nat.le_refl _)
        rw [← HE.out] at h38
        clear hgr8 hown8 hownH h36 hcv
        go_wp2_with fail
        go_roundw
        case rel => exact ⟨k + 1, m + 1, A8, A6, c8, c6, _, M ++ [r], by omega, by go_num, rfl, rfl, by omega, g9, g7, h38, HM2, hb38⟩
        case measure => simp [intOf]; omega
    · obtain rfl : k = nf := by omega
      have hTM := Ts.of_own h3.h
      have hMl := hTM.len
      have hr5 : ∀ r ∈ M, r.length ≤ 100000 := fun r hr => by have := HM.out r hr; omega
      have hrs := rsizes_any Ah m ch M wr hTM (by omega) hr5
      have ir := i3.chg (Chg.of_below (S := []) hb) (by simp) (by simp)
      have lr := l3.chg (Chg.of_below (S := []) hb) (by simp)
      have hh := half_any lr ir (by rw [N2.out]; omega)
      rw [N2.out] at hh
      have hh28 : Wal.half 60 = 28 := rfl
      rw [hh28] at hh
      have htl : tooLong M = false := by
        unfold tooLong
        rw [List.any_eq_false]
        intro y hy
        have := HM.out y hy
        simp
        omega
      have hbe : Below w.heap.size w wr := hbe3.trans (hb.mono (by omega))
      have HML := Lib.hid hMl
      obtain ⟨z, hz⟩ : ∃ z, sizes M = z := ⟨_, rfl⟩
      rw [hz] at hrs
      have HZ := Lib.hid hz
      clear hrf hshort HRL i3 l3 hMl hz hTM hr5
      by_cases hbig : 28 < z
      · clear ir lr h3
        go_wp2_with fail
        refine hrs.mono ?_
        rintro e w' ⟨rfl, rfl⟩
        go_wp2_with fail
        refine hh.mono ?_
        rintro e w' ⟨rfl, rfl⟩
        go_wp2_with fail
        refine (lives_any _).mono ?_
        rintro e w4 ⟨rfl, hb4⟩
        go_wp2
        go_ret
        exact ⟨rfl, hbe.trans (hb4.mono hbe.size)⟩
      · have hrx := h3.rs (S := [p, g, q]) (by intro s hs; simp at hs; omega)
        have hrep := replace_live (L := ⟨0, 0, false⟩) lr ir hqp hqg v2 Ao m co M hrx (by omega) (by omega)
        go_wp2_with fail
        refine hrs.mono ?_
        rintro e w' ⟨rfl, rfl⟩
        go_wp2_with fail
        refine hh.mono ?_
        rintro e w' ⟨rfl, rfl⟩
        go_wp2_with fail
        refine hrep.mono ?_
        rintro e w4 ⟨hc4, ⟨h1, _⟩ | ⟨_, h1, _⟩ | ⟨_, _, d4, L4, rfl, i4, l4, v4, n4, wr4, lf4⟩ | ⟨_, _, h1, _⟩⟩
        · rw [htl] at h1; cases h1
        · rw [N2.out, hh28, HZ.out] at h1
          omega
        · have h34 := h3.chg hc4 (by intro s hs; simp at hs; omega)
          have hbe4 : Below w.heap.size w w4 := hbe.trans (hc4.below' (by omega) (by intro s hs; simp at hs; omega))
          have lf := lf4 lf2
          have hB4 : w3.heap.size ≤ w4.heap.size := by have := hc4.size; omega
          clear hrs hh hrep ir lr h3 hrx n4 l4 lf4
          go_wp2_with fail
          go_loopw [12, 13] (fun i _ wx => ∃ (k : Nat) (L' : Secs), k ≤ m ∧ i = .int .i64 k ∧ Three wx w3.heap.size (.slice Ao m co) (.slice Ah m ch) m xs L' m (tv M) ∧ Hid (L'.drop k = M.drop k) ∧ IsDisk wx p g d4 ∧ w3.heap.size ≤ wx.heap.size ∧ Below w.heap.size w wx) (fun i _ _ => m - (intOf i).toNat)
          case atStart => exact ⟨0, M, by omega, rfl, h34, Lib.hid rfl, i4, hB4, hbe4⟩
          case round =>
            obtain ⟨k, L', hk, rfl, hx3, HD, ix, hBx, hbx⟩ := hrel
            by_cases hlt : k < m
            · have hkM : k < M.length := by rw [HML.out]; exact hlt
              have hlM : M[k]? = some M[k] := List.getElem?_eq_getElem hkM
              have hlL : L'[k]? = some M[k] := by
                have := congrArg (fun (x : Secs) => x[0]?) HD.out
                simp only [List.getElem?_drop, Nat.add_zero] at this
                rw [this]
                exact hlM
              have hdrop : L'.drop (k + 1) = M.drop (k + 1) := by
                have := congrArg (fun (x : Secs) => x.drop 1) HD.out
                simpa [List.drop_drop] using this
              have hl1000 := HM.out _ (List.getElem_mem hkM)
              generalize M[k] = l at *
              obtain ⟨go, A', c', rfl, hce1, hx1, hbs, _⟩ := hx3.at_ hlt hlL
              obtain ⟨gh, rfl, hce2⟩ := hx3.had hlt hlM
              obtain ⟨ni, hni⟩ : ∃ ni, l.length = ni := ⟨_, rfl⟩
              rw [hni] at hce1 hx1 hbs hl1000
              have hcv := fun q => conv (hbs.drewN q) c'
              have hss : (l == l) = true := by rw [beq_iff_eq]
              have HD1 := Lib.hid hdrop
              have HNI := Lib.hid hni
              have hi1 : (k : Int) < (m : Int) := by omega
              clear hdrop hni hkM h34 i4 hlM
              go_wp2_with fail
              go_quiet (fail)
              have hbq : Below wr.heap.size wr (wr.drewN nq) := below_drewNs _ _ _
              have hxq := hx3.below hbq
              have ixq := ix.chg (Chg.of_below (S := []) hbq) (by simp) (by simp)
              have hBq : w3.heap.size ≤ (wr.drewN nq).heap.size := hBx
              have hbxq := hbx.trans (hbq.mono hbx.size)
              obtain ⟨wq, hwq⟩ : ∃ wq, wr.drewN nq = wq := ⟨_, rfl⟩
              rw [hwq] at hxq ixq hBq hbxq ⊢
              clear hcv hce1 hce2 hbs hx3 ix hbx hbq hwq
              go_wp2_with fail
              go_loopw [13] (fun kk wy => ∃ (j : Nat) (L2 : Secs) (l2 : List UInt8), j ≤ ni ∧ kk = .int .i64 j ∧ Three wy w3.heap.size (.slice (some ⟨go, 0, none⟩) m co) (.slice (some ⟨gh, 0, none⟩) m ch) m xs L2 m (tv M) ∧ L2[k]? = some l2 ∧ Hid (l2.length = ni) ∧ Hid (L2.drop (k + 1) = M.drop (k + 1)) ∧ IsDisk wy p g d4 ∧ w3.heap.size ≤ wy.heap.size ∧ Below w.heap.size w wy) (fun i _ => ni - (intOf i).toNat)
              case atStart => exact ⟨0, L', l, by omega, rfl, hxq, hlL, HNI, HD1, ixq, hBq, hbxq⟩
              case round =>
                clear hxq ixq hbxq hBq hlL HD1 HD
                obtain ⟨j, L2, l2, hj, rfl, hy3, hl2, HL2, HD2, iy, hBy, hby⟩ := hrel
                obtain ⟨go2, A3, c3, e1, hce3, hx2, _, hge⟩ := hy3.at_ hlt hl2
                injection e1 with e1
                injection e1 with e1
                subst e1
                rw [HL2.out] at hce3 hx2 hge
                rw [hx1] at hx2
                injection hx2 with hx2
                injection hx2 with e2 e3 e4
                subst e2 e4
                by_cases hjn : j < ni
                · obtain ⟨ge, rfl⟩ := hge (by omega)
                  obtain ⟨hnew3, ⟨zb, hzb, hcz⟩, hfz, hge1, hge2⟩ := hy3.put 7 hl2 hx1 (by rw [HL2.out]; exact hjn)
                  obtain ⟨w7, hw7⟩ : ∃ w7, wr.setCell ⟨ge, j, none⟩ (.int .u8 7) = w7 := ⟨_, rfl⟩
                  have hnew7 : Three w7 w3.heap.size (.slice (some ⟨go, 0, none⟩) m co) (.slice (some ⟨gh, 0, none⟩) m ch) m xs (L2.set k (l2.set j 7)) m (tv M) := by rw [← hw7]; exact hnew3
                  have i7 : IsDisk w7 p g d4 := by
                    rw [← hw7]
                    exact iy.chg (S := [ge]) ((Chg.refl [ge] wr).setCell (p := ⟨ge, j, none⟩) (.inl (by simp)) _) (by simp; omega) (by simp; omega)
                  have hb7 : Below w.heap.size w w7 := by
                    rw [← hw7]
                    exact hby.setCell (p := ⟨ge, j, none⟩) (by show w.heap.size ≤ ge; omega) _
                  have hB7 : w3.heap.size ≤ w7.heap.size := by rw [← hw7]; simpa using hBy
                  have hkl : k < L2.length := (List.getElem?_eq_some_iff.1 hl2).1
                  have hl7 : (L2.set k (l2.set j 7))[k]? = some (l2.set j 7) := List.getElem?_set_self hkl
                  have HL7 : Hid ((l2.set j 7).length = ni) := Lib.hid (by rw [List.length_set]; exact HL2.out)
                  have HD7 : Hid ((L2.set k (l2.set j 7)).drop (k + 1) = M.drop (k + 1)) := Lib.hid (by rw [List.drop_set, if_pos (by omega)]; exact HD2.out)
                  have hi7 : (j : Int) < (ni : Int) := by omega
                  clear hnew3 hy3 iy hby hl2 hge
                  go_wp2_with fail
                  go_roundw
                  case rel => exact ⟨j + 1, _, _, by omega, by go_num, hnew7, hl7, HL7, HD7, i7, hB7, hb7⟩
                  case measure => simp [intOf]; omega
                · obtain rfl : j = ni := by omega
                  clear hge
                  go_wp2_with fail
                  go_roundw
                  case rel => exact ⟨k + 1, L2, by omega, by go_num, hy3, HD2, iy, hBy, hby⟩
                  case measure => simp [intOf]; omega
            · obtain rfl : k = m := by omega
              clear h34 i4
              have v4' := v4
              go_wp2_with fail
              refine (open_live ix v4 lf (by omega)).mono ?_
              rintro e w10 ⟨d6, q6, A6, n6, c6, xs6, rfl, k6, i6, l6, v6, hq6, hrow6, _, _, _, hc10⟩
              have h310 := hx3.chg hc10 (by intro s hs; simp at hs; omega)
              have hrsx := hrow6.rs (S := []) (by simp)
              have hn6 : n6 ≤ 5 := by
                have e1 := hrsx.len
                have e2 := HML.out
                omega
              have hbe10 := hbx.trans (hc10.below' (by omega) (by intro s hs; simp at hs; omega))
              have hTM10 := Ts.of_own h310.h
              clear i6 l6 v6 hrow6 hx3 ix h310
              go_wp2_with fail
              refine (texts_any _ _ _ _ _ hrsx (by omega)).mono ?_
              rintro e w11 ⟨A11, c11, rfl, k11, hown11, hb11⟩
              have t1 := Ts.of_own hown11
              have hTM11 : Ts w11 Ah _ M := (Vs.below hTM10 hb11).mono hb11.size
              have hsz11 := hb11.size
              clear hown11 hTM10 hrsx
              go_wp2_with fail
              refine (same_any _ _ _ _ _ _ _ _ _ t1 hTM11 (by omega) (by omega)).mono ?_
              rintro e w12 ⟨rfl, hb12⟩
              have hdec : decide (M = M) = true := by simp
              rw [hdec]
              have hend : Below w.heap.size w w12 := (hbe10.trans (hb11.mono hbe10.size)).trans (hb12.mono (by have := hbe10.size; omega))
              clear t1 hTM11
              go_wp2_with fail
              refine (lives_any _).mono ?_
              rintro e w14 ⟨rfl, hb14⟩
              go_wp2
              go_ret
              exact ⟨rfl, hend.trans (hb14.mono hend.size)⟩
        · exact absurd lf2 h1
end Go.Proofs.Ytgaplcgenlphdaa
