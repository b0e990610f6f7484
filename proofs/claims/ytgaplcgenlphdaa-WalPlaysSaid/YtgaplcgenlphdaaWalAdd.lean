/- THE WALK of the law's World.write, one behind the others. -/
import Derived.Test.YtgaplcgenlphdaaWalNew
namespace Go.Proofs.Ytgaplcgenlphdaa
open Go.RowKit Mem Wal


set_option maxRecDepth 100000 in
set_option maxHeartbeats 16000000 in
theorem pwrite_add {w : World} {u p g q H : Nat} {d : DS} {L : LS} {M N : Secs} {dead : Bool} (h : PW w u p g q d H (.pointer (some ⟨q, 0, none⟩)) M N dead) (hl : IsLog w q p L.side L.used L.dead) (hst : St d L M N dead) (hH : H = half d.secs.length) (hqp : q ≠ p) (hqg : q ≠ g)
    (hm : M.length ≤ 190) (A : Option Addr) (n c : Nat) (R : Secs) (hr : RsX w [u, p, g, q] A n R) (hnc : n ≤ c) (hR : ∀ r ∈ R, r.length ≤ 1010) (hwr : d.writes < 700000) :
    Calls Try.prog 24 #[.pointer (some ⟨u, 0, none⟩), .slice A n c, .bool false] w (PWrote w u p g q d H) := by
  obtain ⟨iT, hiT, hzT, hsT, hbT⟩ := info_parts infoT
  have HH := Lib.hid hH
  have h7 := hst.n7.1
  have hult := h.ult
  have hplt := h.id.plt
  have hglt := h.id.glt
  have hqlt := hl.qlt
  have hMr := h.mr
  have h63 : 0 + M.length ≤ maxLen := by unfold maxLen; omega
  have h63b : M.length + 1 ≤ maxLen := by unfold maxLen; omega
  have hbs0 : ∀ W, Bs W W.heap.size none 0 [] := fun W => Bs.empty _ _ _
  clear hH
  have hway : (n = 0 ∨ 0 < n) := by omega
  rcases hway with rfl | hpos
  · obtain ⟨w0, hw0⟩ : ∃ w0, w.alloc (.cells #[.slice none 0 0] 33) = w0 := ⟨_, rfl⟩
    have hb0 : Below w.heap.size w w0 := by rw [← hw0]; exact (Below.refl _ _).alloc (Nat.le_refl _) _
    have h0 := h.below hb0
    have l0 := hl.chg (Chg.of_below (S := []) hb0) (by simp)
    have r0 : RsX w0 [u, p, g, q] (some ⟨w.heap.size, 0, none⟩) 1 [[]] := by
      rw [← hw0]
      exact RsX.one (A := none) (n := 0) (c := 0) (Bs.empty _ _ _) (by omega) (by omega) (by intro a' ha; cases ha) (by intro s hs; simp at hs; omega) _
    have hr1010 : ([] : List UInt8).length ≤ 1010 := by simp
    obtain ⟨r, hrr⟩ : ∃ r, ([] : List UInt8) = r := ⟨_, rfl⟩
    rw [hrr] at r0 hr1010
    clear hrr
    have r0' := r0
    obtain ⟨blk, off, Ar, nr, cr, e1, b1, b2, b3, b4, b5, b6, b7⟩ := r0'.lit (i := 0) (by simp)
    rw [Nat.add_zero] at b3
    have b6 : Bs w0 w0.heap.size Ar nr r := b6
    have hnr : nr ≤ 1010 := by have := b6.len; omega
    obtain ⟨z, hz⟩ : ∃ z, sizes (M ++ [r]) = z := ⟨_, rfl⟩
    have HZ := Lib.hid hz
    have hnx : ∀ x ∈ M ++ [r], x.length ≤ 1010 := by
      intro x hx
      rcases List.mem_append.1 hx with hx | hx
      · exact hMr x hx
      · simp at hx
        subst hx
        exact hr1010
    obtain ⟨A03, c03, k03, t03⟩ := h0.c3
    clear hz h hl hr r0'
    injection e1 with e1
    injection e1 with e2 e3
    subst e2 e3
    go_enter Try.func24, Try.ntmps24
    go_wp2_with (at_builtin; go_must (refine wpList_append _ rfl (.tmp 19) (.tmp 24) 32 rfl w0.heap.size 9 iT (.string ⟨#[]⟩) 1 16 Try.underlying32 hiT hzT hsT hbT rfl (by omega) _ 0 [] rfl (World.ownsRow_nil _ _ _ _) w0.heap.size _ _ _ _ rfl t03.1 (tv_one _) h63 (by omega) (Nat.le_refl _) ?_))
    intro A8 c8 w8 hown8 gg1 gg2 hgr8
    have hb8 : Below w0.heap.size w0 w8 := below_grown (Below.refl _ _) hgr8 (Nat.le_refl _) (World.ownsRow_nil w0 w0.heap.size 9 1)
    have r8 := r0.below hb8
    have hsz08 := hb8.size
    clear hgr8 k03 t03
    go_wp2_with fail
    refine (texts_any _ _ _ _ _ r8 (by omega)).mono ?_
    rintro e w1 ⟨A1, c1, rfl, k1, hown1, hb1⟩
    have t1 := Ts.of_own hown1
    have hown81 := own_below hown8 hb1 (Nat.le_refl _)
    have hb01 : Below w0.heap.size w0 w1 := hb8.trans (hb1.mono hb8.size)
    have hsz81 := hb1.size
    go_wp2_with (at_builtin; go_must (refine wpList_append w1 rfl (.tmp 26) (.tmp 28) 32 rfl w0.heap.size 9 iT (.string ⟨#[]⟩) 1 16 Try.underlying32 hiT hzT hsT hbT rfl (by omega) _ _ _ rfl hown81 w1.heap.size _ _ _ _ rfl t1 (tv_one _) h63b (by omega) (by omega) ?_))
    intro A2 c2 w2 hown2 gg3 gg4 hgr2
    rw [← tv_append] at hown2
    have hb2 : Below w0.heap.size w0 w2 := below_grown hb01 hgr2 (by omega) hown81
    have hsz0 := hb0.size
    have h2 := h0.below hb2
    have l2 := l0.chg (Chg.of_below (S := []) hb2) (by simp)
    have r2 := r0.below hb2
    have t2 : TsX w2 [u, p, g, q] A2 (M.length + 1) (M ++ [r]) := TsX.of_own hown2 (by simp; omega)
    have b32 := (hb2.cell (p := ⟨_, _, none⟩) b1).trans b3
    have k22 := h2.c2
    have hS := fun k => rsizes_any A2 (M.length + 1) c2 (M ++ [r]) _ (Ts.drewN' t2.1 k) (by omega) (fun x hx => by have := hnx x hx; omega)
    rw [HZ.out] at hS
    have hbb2 : Below w.heap.size w w2 := hb0.trans (hb2.mono hsz0)
    have bs2 := bs_chgX b6 b7 (Chg.of_below hb2)
    clear h0 l0 r0 r8 hgr2 hown2 hown81 hown8 hown1 t1 b3 b6 hb01 hb8 hb1
    have hfull : (H < z ∨ ¬ H < z) := by omega
    rcases hfull with hbig | hbig
    all_goals
      have hbi : (decide ((H : Int) < (z : Int))) = decide (H < z) := by simp
      go_wp2_with fail
      go_quiet ((first | (go_at_call 20; exact quiet_of (hS _))))
      have hbq : Below w2.heap.size w2 (w2.drewN nq) := below_drewNs _ _ _
      obtain ⟨w3, hw3⟩ : ∃ w3, w2.drewN nq = w3 := ⟨_, rfl⟩
      rw [hw3] at hbq ⊢
      have h3 := h2.below hbq
      have l3 := l2.chg (Chg.of_below (S := []) hbq) (by simp)
      have r3 := r2.below hbq
      have t3 := t2.chg (Chg.of_below hbq)
      have hch3 : Chg [u, p, g, q] w w3 := (Chg.of_below hbb2).and (Chg.of_below (hbq.mono (by have := hbb2.size; exact Nat.le_refl _)))
      have k35 := h3.c5
      have k30 := h3.c0
      have k31 := h3.c1
      have hb1w : w.heap.size < w2.heap.size := by have := hb2.size; omega
      have b33 := (hbq.cell (p := ⟨w.heap.size, 0, none⟩) hb1w).trans b32
      have hlong := long_any _ _ 1 _ _ r3 (show 1 ≤ 100000 by omega)
      have bs3 := bs_chgX bs2 b7 (Chg.of_below hbq)
      have hput : ∀ W, Chg [] w3 W → Calls Try.prog 14 #[.pointer (some ⟨q, 0, none⟩), .slice Ar nr cr] W (PutOut w3 q p g d M N (M ++ [r]) dead (wantOf dead H [r] (M ++ [r]))) := by
        intro W hW
        rw [HH.out]
        refine (append_out hst (l3.chg hW (by simp)) (h3.id.chg hW (by simp) (by simp)) hqp hqg Ar nr cr r (bs_chgX bs3 (by simp) hW) (by omega) (by omega)).mono ?_
        rintro e w' ⟨f, d', L', x1, x2, x3, x4, x5⟩
        exact ⟨f, d', L', x1, x2, x3, (hW.mono (by simp)).and x4, x5⟩
      have hal := alive_any h3.id
      have hu3 := h3.ult
      have hun : u ∉ [p, g, q] := by have := h3.hup; have := h3.hug; have := h3.huq; simp; omega
      have hbn : w.heap.size ∉ [p, g, q] := fun hm => b2 (by simp at hm ⊢; exact .inr hm)
      have hb3w : w.heap.size < w3.heap.size := by have := hbq.size; omega
      clear h2 l2 r2 t2 hS hw3 k22 b32 bs2
      cases htl : tooLong [r]
      all_goals
        rw [htl] at hlong
        cases dead
        · have hdn : d.down = false := by rcases hst with ⟨_, h⟩ | ⟨h, _⟩; exact h.dn; cases h
          rw [hdn] at hal
          go_wp2_with fail
          refine hlong.mono ?_
          rintro e w' ⟨rfl, rfl⟩
          go_wp2_with fail
          refine hal.mono ?_
          rintro e w' ⟨rfl, rfl⟩
          go_wp2_with fail
          go_region_held3 (fun w' => w'.cell? ⟨u, 1, none⟩ = some (.pointer (some ⟨q, 0, none⟩)) ∧ w'.cell? ⟨w.heap.size, 0, none⟩ = some (.slice Ar nr cr)) (go_keep) (first | (go_at_call 14; refine (hput _ ?_).mono ?_; (first | exact (Chg.refl [] w3).drewN _ | exact (Chg.refl [] w3).drew | exact ((Chg.refl [] w3).drewN _).drew); rintro e w4 ⟨f, d4, L4, rfl, i4, l4, hc4, hn4, wr4, hout⟩; have q05 := (hc4.cell (p := ⟨u, 1, none⟩) hu3 hun).trans k31; have q06 := (hc4.cell (p := ⟨w.heap.size, 0, none⟩) hb3w hbn).trans b33))
          have n4 := Lib.hid hn4
          clear hn4 hput hlong hal
          have hwant : wantOf false H [r] (M ++ [r]) = (if tooLong [r] then 4 else if H < z then 6 else 0) := by unfold wantOf; rw [HZ.out]; rfl
          rw [htl] at hwant
          simp only [hbig, if_true, if_false, Bool.false_eq_true] at hwant
          rw [hwant] at hout
          have h4 := h3.chg hc4 i4
          have t4 := t3.chg (hc4.mono (by simp))
          have hch4 := hch3.and (hc4.mono (by simp))
          have k41 := h4.c1
          have k42 := h4.c2
          have k45 := h4.c5
          have k40 := h4.c0
          have k4f := h4.uf
          obtain ⟨A43, c43, k43, t43⟩ := h4.c3
          obtain ⟨A44, c44, k44, t44⟩ := h4.c4
          rcases hout with ⟨rfl, hne, hst4⟩ | ⟨rfl, hne, _, hv4⟩ | ⟨rfl, hne, _, hdn4, he4, hs4, hu4⟩
          · first
            | exact absurd rfl hne
            | (have hv4 : Live d4 L4 M := by rcases hst4 with ⟨_, h⟩ | ⟨h, _⟩; exact h; cases h
               obtain ⟨zm, hzm⟩ : ∃ z, sizes M = z := ⟨_, rfl⟩
               have hzu : L4.used = zm := hv4.sizes.1.trans hzm
               have hU := fun k => used_any (l4.drewN k)
               rw [hzu] at hU
               have hmr := h4.mr
               have hml := h4.ml
               have hSm := fun k => rsizes_any A43 M.length c43 M _ (Ts.drewN' t43.1 k) (by omega) (fun r hr => by have := hmr r hr; omega)
               rw [hzm] at hSm
               have hzz : ((zm : Int) == (zm : Int)) = true := by simp
               have HFIN := Lib.hid (show PW w4 u p g q d4 H (.pointer (some ⟨q, 0, none⟩)) M N false ∧ IsLog w4 q p L4.side L4.used L4.dead from ⟨h4, l4⟩)
               clear h3 h4 l4 t3 t4 t43 t44 i4 hzu hzm
               go_wp2_with fail
               go_quiet ((first | (go_at_call 13; exact quiet_of (hU _)) | (go_at_call 20; exact quiet_of (hSm _))))
               go_wp2
               go_ret
               have hbq : Below w4.heap.size w4 (w4.drewN nq) := below_drewNs _ _ _
               exact ⟨d4, L4, M, N, false, rfl, HFIN.out.1.below hbq, HFIN.out.2.chg (Chg.of_below (S := []) hbq) (by simp), hst4, n4.out, by omega, hch4.and_below hbq⟩)
          · first
            | (exact absurd hne (by decide))
            | (obtain ⟨w5, hw5⟩ : ∃ w5, w4.setCell ⟨u, 3, none⟩ (.slice A2 (M.length + 1) c2) = w5 := ⟨_, rfl⟩
               have h5 : PW w5 u p g q d4 H (.pointer (some ⟨q, 0, none⟩)) (M ++ [r]) N false := by rw [← hw5]; exact h4.setM t4 (by omega) hnx
               have hc5 : Chg [u] w4 w5 := by rw [← hw5]; exact chg_set _ _ _ _
               have l5 := l4.chg hc5 (by simp; exact Ne.symm h4.huq)
               have t5 := t4.chg (hc5.mono (by simp))
               have k55 := h5.c5
               have k51 := h5.c1
               have k53 : w5.cell? ⟨u, 3, none⟩ = some (.slice A2 (M.length + 1) c2) := by rw [← hw5]; exact setc_same _ _ _ _ _ k43
               have hch5 := hch4.and (hc5.mono (by simp))
               have hzu : L4.used = z := hv4.sizes.1.trans HZ.out
               have hU := fun k => used_any (l5.drewN k)
               rw [hzu] at hU
               have hSm := fun k => rsizes_any A2 ((M.length + 1)) c2 (M ++ [r]) _ (Ts.drewN' t5.1 k) (by omega) (fun r hr => by have := hnx r hr; omega)
               rw [HZ.out] at hSm
               have hzz : ((z : Int) == (z : Int)) = true := by simp
               have HFIN := Lib.hid (show PW w5 u p g q d4 H (.pointer (some ⟨q, 0, none⟩)) (M ++ [r]) N false ∧ IsLog w5 q p L4.side L4.used L4.dead from ⟨h5, l5⟩)
               clear h3 h4 l4 t3 t4 t43 t44 i4 h5 l5 t5 hzu
               go_wp2_with fail
               go_quiet ((first | (go_at_call 13; exact quiet_of (hU _)) | (go_at_call 20; exact quiet_of (hSm _))))
               go_wp2
               go_ret
               have hbq : Below w5.heap.size w5 (w5.drewN nq) := below_drewNs _ _ _
               exact ⟨d4, L4, _, N, false, rfl, HFIN.out.1.below hbq, HFIN.out.2.chg (Chg.of_below (S := []) hbq) (by simp), .inl ⟨rfl, hv4⟩, n4.out, by omega, hch5.and_below hbq⟩)
          · first
            | (exact absurd hne (by decide))
            | (obtain ⟨w5, hw5⟩ : ∃ w5, w4.setCell ⟨u, 5, none⟩ (.bool true) = w5 := ⟨_, rfl⟩
               have h5 : PW w5 u p g q d4 H (.pointer (some ⟨q, 0, none⟩)) M N true := by rw [← hw5]; exact h4.setDead
               have hc5 : Chg [u] w4 w5 := by rw [← hw5]; exact chg_set _ _ _ _
               have t5 := t4.chg (hc5.mono (by simp))
               have k5f := h5.uf
               obtain ⟨A54, c54, k54, _⟩ := h5.c4
               obtain ⟨w6, hw6⟩ : ∃ w6, w5.setCell ⟨u, 4, none⟩ (.slice A2 (M.length + 1) c2) = w6 := ⟨_, rfl⟩
               have h6 : PW w6 u p g q d4 H (.pointer (some ⟨q, 0, none⟩)) M (M ++ [r]) true := by rw [← hw6]; exact h5.setOther t5 (by omega) hnx
               have hc6 : Chg [u] w5 w6 := by rw [← hw6]; exact chg_set _ _ _ _
               have l6 := (l4.chg hc5 (by simp; exact Ne.symm h4.huq)).chg hc6 (by simp; exact Ne.symm h4.huq)
               have k60 := h6.c0
               have hch6 := (hch4.and (hc5.mono (by simp))).and (hc6.mono (by simp))
               have hal6 := alive_any h6.id
               rw [hdn4] at hal6
               have HFIN := Lib.hid (show PW w6 u p g q d4 H (.pointer (some ⟨q, 0, none⟩)) M (M ++ [r]) true ∧ IsLog w6 q p L4.side L4.used L4.dead from ⟨h6, l6⟩)
               clear h3 h4 l4 t3 t4 t43 t44 i4 h5 t5 h6 l6
               go_wp2_with fail
               refine hal6.mono ?_
               rintro e w7 ⟨rfl, rfl⟩
               go_wp2
               go_ret
               exact ⟨d4, L4, M, _, true, rfl, HFIN.out.1, HFIN.out.2, .inr ⟨rfl, hdn4, he4, hs4, hu4⟩, n4.out, by omega, hch6⟩)
        · go_wp2_with fail
          refine hlong.mono ?_
          rintro e w' ⟨rfl, rfl⟩
          go_wp2_with fail
          go_region_held3 (fun w' => w'.cell? ⟨u, 1, none⟩ = some (.pointer (some ⟨q, 0, none⟩)) ∧ w'.cell? ⟨w.heap.size, 0, none⟩ = some (.slice Ar nr cr)) (go_keep) (first | (go_at_call 14; refine (hput _ ?_).mono ?_; (first | exact (Chg.refl [] w3).drewN _ | exact (Chg.refl [] w3).drew | exact ((Chg.refl [] w3).drewN _).drew); rintro e w4 ⟨f, d4, L4, rfl, i4, l4, hc4, hn4, wr4, hout⟩; have q05 := (hc4.cell (p := ⟨u, 1, none⟩) hu3 hun).trans k31; have q06 := (hc4.cell (p := ⟨w.heap.size, 0, none⟩) hb3w hbn).trans b33))
          have n4 := Lib.hid hn4
          clear hn4 hput hlong hal
          have hwant : wantOf true H [r] (M ++ [r]) = 26 := rfl
          rw [hwant] at hout
          have h4 := h3.chg hc4 i4
          have t4 := t3.chg (hc4.mono (by simp))
          have hch4 := hch3.and (hc4.mono (by simp))
          have k41 := h4.c1
          have k42 := h4.c2
          have k45 := h4.c5
          have k40 := h4.c0
          have k4f := h4.uf
          obtain ⟨A43, c43, k43, t43⟩ := h4.c3
          obtain ⟨A44, c44, k44, t44⟩ := h4.c4
          rcases hout with ⟨rfl, hne, hst4⟩ | ⟨rfl, hne, _⟩ | ⟨rfl, hne, _⟩
          · obtain ⟨w5, hw5⟩ : ∃ w5, w4.setCell ⟨u, 5, none⟩ (.bool true) = w5 := ⟨_, rfl⟩
            have h5 : PW w5 u p g q d4 H (.pointer (some ⟨q, 0, none⟩)) M N true := by rw [← hw5]; exact h4.setDead
            have hc5 : Chg [u] w4 w5 := by rw [← hw5]; exact chg_set _ _ _ _
            have l5 := l4.chg hc5 (by simp; exact Ne.symm h4.huq)
            have k55 := h5.c5
            have hch5 := hch4.and (hc5.mono (by simp))
            have HFIN := Lib.hid (show PW w5 u p g q d4 H (.pointer (some ⟨q, 0, none⟩)) M N true ∧ IsLog w5 q p L4.side L4.used L4.dead from ⟨h5, l5⟩)
            clear h3 h4 h5 l4 l5 t3 t4 t43 t44 i4
            go_wp2_with fail
            go_quiet (fail)
            go_wp2
            go_ret
            have hbq : Below w5.heap.size w5 (w5.drewN nq) := below_drewNs _ _ _
            exact ⟨d4, L4, M, N, true, rfl, HFIN.out.1.below hbq, HFIN.out.2.chg (Chg.of_below (S := []) hbq) (by simp), hst4, n4.out, by omega, hch5.and_below hbq⟩
          · exact absurd hne (by decide)
          · exact absurd hne (by decide)
  · have hb0 : Below w.heap.size w w := Below.refl _ _
    have h0 := h
    have l0 := hl
    have hlen := hr.len
    have hR0 : 0 < R.length := by omega
    have hr1010 := hR _ (List.getElem_mem hR0)
    have r0 : RsX w [u, p, g, q] A 1 [R[0]] := by
      have := hr.take 1 (by omega)
      rw [List.take_succ_eq_append_getElem hR0] at this
      simpa using this
    generalize R[0] = r at *
    clear hlen hR0 hR
    have h1c : 1 ≤ c := by omega
    have hnz : ¬ (n : Int) = 0 := by omega
    have r0' := r0
    obtain ⟨blk, off, Ar, nr, cr, e1, b1, b2, b3, b4, b5, b6, b7⟩ := r0'.lit (i := 0) (by simp)
    rw [Nat.add_zero] at b3
    have b6 : Bs w w.heap.size Ar nr r := b6
    have hnr : nr ≤ 1010 := by have := b6.len; omega
    obtain ⟨z, hz⟩ : ∃ z, sizes (M ++ [r]) = z := ⟨_, rfl⟩
    have HZ := Lib.hid hz
    have hnx : ∀ x ∈ M ++ [r], x.length ≤ 1010 := by
      intro x hx
      rcases List.mem_append.1 hx with hx | hx
      · exact hMr x hx
      · simp at hx
        subst hx
        exact hr1010
    obtain ⟨A03, c03, k03, t03⟩ := h0.c3
    clear hz h hl hr r0'
    subst e1
    go_enter Try.func24, Try.ntmps24
    go_wp2_with (at_builtin; go_must (refine wpList_append _ rfl (.tmp 19) (.tmp 24) 32 rfl w.heap.size 9 iT (.string ⟨#[]⟩) 1 16 Try.underlying32 hiT hzT hsT hbT rfl (by omega) _ 0 [] rfl (World.ownsRow_nil _ _ _ _) w.heap.size _ _ _ _ rfl t03.1 (tv_one _) h63 (by omega) (Nat.le_refl _) ?_))
    intro A8 c8 w8 hown8 gg1 gg2 hgr8
    have hb8 : Below w.heap.size w w8 := below_grown (Below.refl _ _) hgr8 (Nat.le_refl _) (World.ownsRow_nil w w.heap.size 9 1)
    have r8 := r0.below hb8
    have hsz08 := hb8.size
    clear hgr8 k03 t03
    go_wp2_with fail
    refine (texts_any _ _ _ _ _ r8 (by omega)).mono ?_
    rintro e w1 ⟨A1, c1, rfl, k1, hown1, hb1⟩
    have t1 := Ts.of_own hown1
    have hown81 := own_below hown8 hb1 (Nat.le_refl _)
    have hb01 : Below w.heap.size w w1 := hb8.trans (hb1.mono hb8.size)
    have hsz81 := hb1.size
    go_wp2_with (at_builtin; go_must (refine wpList_append w1 rfl (.tmp 26) (.tmp 28) 32 rfl w.heap.size 9 iT (.string ⟨#[]⟩) 1 16 Try.underlying32 hiT hzT hsT hbT rfl (by omega) _ _ _ rfl hown81 w1.heap.size _ _ _ _ rfl t1 (tv_one _) h63b (by omega) (by omega) ?_))
    intro A2 c2 w2 hown2 gg3 gg4 hgr2
    rw [← tv_append] at hown2
    have hb2 : Below w.heap.size w w2 := below_grown hb01 hgr2 (by omega) hown81
    have hsz0 := hb0.size
    have h2 := h0.below hb2
    have l2 := l0.chg (Chg.of_below (S := []) hb2) (by simp)
    have r2 := r0.below hb2
    have t2 : TsX w2 [u, p, g, q] A2 (M.length + 1) (M ++ [r]) := TsX.of_own hown2 (by simp; omega)
    have b32 := (hb2.cell (p := ⟨_, _, none⟩) b1).trans b3
    have k22 := h2.c2
    have hS := fun k => rsizes_any A2 (M.length + 1) c2 (M ++ [r]) _ (Ts.drewN' t2.1 k) (by omega) (fun x hx => by have := hnx x hx; omega)
    rw [HZ.out] at hS
    have hbb2 : Below w.heap.size w w2 := hb0.trans (hb2.mono hsz0)
    have bs2 := bs_chgX b6 b7 (Chg.of_below hb2)
    clear h0 l0 r0 r8 hgr2 hown2 hown81 hown8 hown1 t1 b3 b6 hb01 hb8 hb1
    have hfull : (H < z ∨ ¬ H < z) := by omega
    rcases hfull with hbig | hbig
    all_goals
      have hbi : (decide ((H : Int) < (z : Int))) = decide (H < z) := by simp
      go_wp2_with fail
      go_quiet ((first | (go_at_call 20; exact quiet_of (hS _))))
      have hbq : Below w2.heap.size w2 (w2.drewN nq) := below_drewNs _ _ _
      obtain ⟨w3, hw3⟩ : ∃ w3, w2.drewN nq = w3 := ⟨_, rfl⟩
      rw [hw3] at hbq ⊢
      have h3 := h2.below hbq
      have l3 := l2.chg (Chg.of_below (S := []) hbq) (by simp)
      have r3 := r2.below hbq
      have t3 := t2.chg (Chg.of_below hbq)
      have hch3 : Chg [u, p, g, q] w w3 := (Chg.of_below hbb2).and (Chg.of_below (hbq.mono (by have := hbb2.size; exact Nat.le_refl _)))
      have k35 := h3.c5
      have k30 := h3.c0
      have k31 := h3.c1
      have hb1w : blk < w2.heap.size := by have := hb2.size; omega
      have b33 := (hbq.cell (p := ⟨blk, off, none⟩) hb1w).trans b32
      have hlong := long_any _ _ c _ _ r3 (show 1 ≤ 100000 by omega)
      have bs3 := bs_chgX bs2 b7 (Chg.of_below hbq)
      have hput : ∀ W, Chg [] w3 W → Calls Try.prog 14 #[.pointer (some ⟨q, 0, none⟩), .slice Ar nr cr] W (PutOut w3 q p g d M N (M ++ [r]) dead (wantOf dead H [r] (M ++ [r]))) := by
        intro W hW
        rw [HH.out]
        refine (append_out hst (l3.chg hW (by simp)) (h3.id.chg hW (by simp) (by simp)) hqp hqg Ar nr cr r (bs_chgX bs3 (by simp) hW) (by omega) (by omega)).mono ?_
        rintro e w' ⟨f, d', L', x1, x2, x3, x4, x5⟩
        exact ⟨f, d', L', x1, x2, x3, (hW.mono (by simp)).and x4, x5⟩
      have hal := alive_any h3.id
      have hu3 := h3.ult
      have hun : u ∉ [p, g, q] := by have := h3.hup; have := h3.hug; have := h3.huq; simp; omega
      have hbn : blk ∉ [p, g, q] := fun hm => b2 (by simp at hm ⊢; exact .inr hm)
      have hb3w : blk < w3.heap.size := by have := hbq.size; omega
      clear h2 l2 r2 t2 hS hw3 k22 b32 bs2
      cases htl : tooLong [r]
      all_goals
        rw [htl] at hlong
        cases dead
        · have hdn : d.down = false := by rcases hst with ⟨_, h⟩ | ⟨h, _⟩; exact h.dn; cases h
          rw [hdn] at hal
          go_wp2_with fail
          refine hlong.mono ?_
          rintro e w' ⟨rfl, rfl⟩
          go_wp2_with fail
          refine hal.mono ?_
          rintro e w' ⟨rfl, rfl⟩
          go_wp2_with fail
          go_region_held3 (fun w' => w'.cell? ⟨u, 1, none⟩ = some (.pointer (some ⟨q, 0, none⟩)) ∧ w'.cell? ⟨blk, off, none⟩ = some (.slice Ar nr cr)) (go_keep) (first | (go_at_call 14; refine (hput _ ?_).mono ?_; (first | exact (Chg.refl [] w3).drewN _ | exact (Chg.refl [] w3).drew | exact ((Chg.refl [] w3).drewN _).drew); rintro e w4 ⟨f, d4, L4, rfl, i4, l4, hc4, hn4, wr4, hout⟩; have q05 := (hc4.cell (p := ⟨u, 1, none⟩) hu3 hun).trans k31; have q06 := (hc4.cell (p := ⟨blk, off, none⟩) hb3w hbn).trans b33))
          have n4 := Lib.hid hn4
          clear hn4 hput hlong hal
          have hwant : wantOf false H [r] (M ++ [r]) = (if tooLong [r] then 4 else if H < z then 6 else 0) := by unfold wantOf; rw [HZ.out]; rfl
          rw [htl] at hwant
          simp only [hbig, if_true, if_false, Bool.false_eq_true] at hwant
          rw [hwant] at hout
          have h4 := h3.chg hc4 i4
          have t4 := t3.chg (hc4.mono (by simp))
          have hch4 := hch3.and (hc4.mono (by simp))
          have k41 := h4.c1
          have k42 := h4.c2
          have k45 := h4.c5
          have k40 := h4.c0
          have k4f := h4.uf
          obtain ⟨A43, c43, k43, t43⟩ := h4.c3
          obtain ⟨A44, c44, k44, t44⟩ := h4.c4
          rcases hout with ⟨rfl, hne, hst4⟩ | ⟨rfl, hne, _, hv4⟩ | ⟨rfl, hne, _, hdn4, he4, hs4, hu4⟩
          · first
            | exact absurd rfl hne
            | (have hv4 : Live d4 L4 M := by rcases hst4 with ⟨_, h⟩ | ⟨h, _⟩; exact h; cases h
               obtain ⟨zm, hzm⟩ : ∃ z, sizes M = z := ⟨_, rfl⟩
               have hzu : L4.used = zm := hv4.sizes.1.trans hzm
               have hU := fun k => used_any (l4.drewN k)
               rw [hzu] at hU
               have hmr := h4.mr
               have hml := h4.ml
               have hSm := fun k => rsizes_any A43 M.length c43 M _ (Ts.drewN' t43.1 k) (by omega) (fun r hr => by have := hmr r hr; omega)
               rw [hzm] at hSm
               have hzz : ((zm : Int) == (zm : Int)) = true := by simp
               have HFIN := Lib.hid (show PW w4 u p g q d4 H (.pointer (some ⟨q, 0, none⟩)) M N false ∧ IsLog w4 q p L4.side L4.used L4.dead from ⟨h4, l4⟩)
               clear h3 h4 l4 t3 t4 t43 t44 i4 hzu hzm
               go_wp2_with fail
               go_quiet ((first | (go_at_call 13; exact quiet_of (hU _)) | (go_at_call 20; exact quiet_of (hSm _))))
               go_wp2
               go_ret
               have hbq : Below w4.heap.size w4 (w4.drewN nq) := below_drewNs _ _ _
               exact ⟨d4, L4, M, N, false, rfl, HFIN.out.1.below hbq, HFIN.out.2.chg (Chg.of_below (S := []) hbq) (by simp), hst4, n4.out, by omega, hch4.and_below hbq⟩)
          · first
            | (exact absurd hne (by decide))
            | (obtain ⟨w5, hw5⟩ : ∃ w5, w4.setCell ⟨u, 3, none⟩ (.slice A2 (M.length + 1) c2) = w5 := ⟨_, rfl⟩
               have h5 : PW w5 u p g q d4 H (.pointer (some ⟨q, 0, none⟩)) (M ++ [r]) N false := by rw [← hw5]; exact h4.setM t4 (by omega) hnx
               have hc5 : Chg [u] w4 w5 := by rw [← hw5]; exact chg_set _ _ _ _
               have l5 := l4.chg hc5 (by simp; exact Ne.symm h4.huq)
               have t5 := t4.chg (hc5.mono (by simp))
               have k55 := h5.c5
               have k51 := h5.c1
               have k53 : w5.cell? ⟨u, 3, none⟩ = some (.slice A2 (M.length + 1) c2) := by rw [← hw5]; exact setc_same _ _ _ _ _ k43
               have hch5 := hch4.and (hc5.mono (by simp))
               have hzu : L4.used = z := hv4.sizes.1.trans HZ.out
               have hU := fun k => used_any (l5.drewN k)
               rw [hzu] at hU
               have hSm := fun k => rsizes_any A2 ((M.length + 1)) c2 (M ++ [r]) _ (Ts.drewN' t5.1 k) (by omega) (fun r hr => by have := hnx r hr; omega)
               rw [HZ.out] at hSm
               have hzz : ((z : Int) == (z : Int)) = true := by simp
               have HFIN := Lib.hid (show PW w5 u p g q d4 H (.pointer (some ⟨q, 0, none⟩)) (M ++ [r]) N false ∧ IsLog w5 q p L4.side L4.used L4.dead from ⟨h5, l5⟩)
               clear h3 h4 l4 t3 t4 t43 t44 i4 h5 l5 t5 hzu
               go_wp2_with fail
               go_quiet ((first | (go_at_call 13; exact quiet_of (hU _)) | (go_at_call 20; exact quiet_of (hSm _))))
               go_wp2
               go_ret
               have hbq : Below w5.heap.size w5 (w5.drewN nq) := below_drewNs _ _ _
               exact ⟨d4, L4, _, N, false, rfl, HFIN.out.1.below hbq, HFIN.out.2.chg (Chg.of_below (S := []) hbq) (by simp), .inl ⟨rfl, hv4⟩, n4.out, by omega, hch5.and_below hbq⟩)
          · first
            | (exact absurd hne (by decide))
            | (obtain ⟨w5, hw5⟩ : ∃ w5, w4.setCell ⟨u, 5, none⟩ (.bool true) = w5 := ⟨_, rfl⟩
               have h5 : PW w5 u p g q d4 H (.pointer (some ⟨q, 0, none⟩)) M N true := by rw [← hw5]; exact h4.setDead
               have hc5 : Chg [u] w4 w5 := by rw [← hw5]; exact chg_set _ _ _ _
               have t5 := t4.chg (hc5.mono (by simp))
               have k5f := h5.uf
               obtain ⟨A54, c54, k54, _⟩ := h5.c4
               obtain ⟨w6, hw6⟩ : ∃ w6, w5.setCell ⟨u, 4, none⟩ (.slice A2 (M.length + 1) c2) = w6 := ⟨_, rfl⟩
               have h6 : PW w6 u p g q d4 H (.pointer (some ⟨q, 0, none⟩)) M (M ++ [r]) true := by rw [← hw6]; exact h5.setOther t5 (by omega) hnx
               have hc6 : Chg [u] w5 w6 := by rw [← hw6]; exact chg_set _ _ _ _
               have l6 := (l4.chg hc5 (by simp; exact Ne.symm h4.huq)).chg hc6 (by simp; exact Ne.symm h4.huq)
               have k60 := h6.c0
               have hch6 := (hch4.and (hc5.mono (by simp))).and (hc6.mono (by simp))
               have hal6 := alive_any h6.id
               rw [hdn4] at hal6
               have HFIN := Lib.hid (show PW w6 u p g q d4 H (.pointer (some ⟨q, 0, none⟩)) M (M ++ [r]) true ∧ IsLog w6 q p L4.side L4.used L4.dead from ⟨h6, l6⟩)
               clear h3 h4 l4 t3 t4 t43 t44 i4 h5 t5 h6 l6
               go_wp2_with fail
               refine hal6.mono ?_
               rintro e w7 ⟨rfl, rfl⟩
               go_wp2
               go_ret
               exact ⟨d4, L4, M, _, true, rfl, HFIN.out.1, HFIN.out.2, .inr ⟨rfl, hdn4, he4, hs4, hu4⟩, n4.out, by omega, hch6⟩)
        · go_wp2_with fail
          refine hlong.mono ?_
          rintro e w' ⟨rfl, rfl⟩
          go_wp2_with fail
          go_region_held3 (fun w' => w'.cell? ⟨u, 1, none⟩ = some (.pointer (some ⟨q, 0, none⟩)) ∧ w'.cell? ⟨blk, off, none⟩ = some (.slice Ar nr cr)) (go_keep) (first | (go_at_call 14; refine (hput _ ?_).mono ?_; (first | exact (Chg.refl [] w3).drewN _ | exact (Chg.refl [] w3).drew | exact ((Chg.refl [] w3).drewN _).drew); rintro e w4 ⟨f, d4, L4, rfl, i4, l4, hc4, hn4, wr4, hout⟩; have q05 := (hc4.cell (p := ⟨u, 1, none⟩) hu3 hun).trans k31; have q06 := (hc4.cell (p := ⟨blk, off, none⟩) hb3w hbn).trans b33))
          have n4 := Lib.hid hn4
          clear hn4 hput hlong hal
          have hwant : wantOf true H [r] (M ++ [r]) = 26 := rfl
          rw [hwant] at hout
          have h4 := h3.chg hc4 i4
          have t4 := t3.chg (hc4.mono (by simp))
          have hch4 := hch3.and (hc4.mono (by simp))
          have k41 := h4.c1
          have k42 := h4.c2
          have k45 := h4.c5
          have k40 := h4.c0
          have k4f := h4.uf
          obtain ⟨A43, c43, k43, t43⟩ := h4.c3
          obtain ⟨A44, c44, k44, t44⟩ := h4.c4
          rcases hout with ⟨rfl, hne, hst4⟩ | ⟨rfl, hne, _⟩ | ⟨rfl, hne, _⟩
          · obtain ⟨w5, hw5⟩ : ∃ w5, w4.setCell ⟨u, 5, none⟩ (.bool true) = w5 := ⟨_, rfl⟩
            have h5 : PW w5 u p g q d4 H (.pointer (some ⟨q, 0, none⟩)) M N true := by rw [← hw5]; exact h4.setDead
            have hc5 : Chg [u] w4 w5 := by rw [← hw5]; exact chg_set _ _ _ _
            have l5 := l4.chg hc5 (by simp; exact Ne.symm h4.huq)
            have k55 := h5.c5
            have hch5 := hch4.and (hc5.mono (by simp))
            have HFIN := Lib.hid (show PW w5 u p g q d4 H (.pointer (some ⟨q, 0, none⟩)) M N true ∧ IsLog w5 q p L4.side L4.used L4.dead from ⟨h5, l5⟩)
            clear h3 h4 h5 l4 l5 t3 t4 t43 t44 i4
            go_wp2_with fail
            go_quiet (fail)
            go_wp2
            go_ret
            have hbq : Below w5.heap.size w5 (w5.drewN nq) := below_drewNs _ _ _
            exact ⟨d4, L4, M, N, true, rfl, HFIN.out.1.below hbq, HFIN.out.2.chg (Chg.of_below (S := []) hbq) (by simp), hst4, n4.out, by omega, hch5.and_below hbq⟩
          · exact absurd hne (by decide)
          · exact absurd hne (by decide)
end Go.Proofs.Ytgaplcgenlphdaa
