/- THE WALK of the law's World.write, all anew. -/
import Derived.Test.YtgaplcgenlphdaaWalDeeds
namespace Go.Proofs.Ytgaplcgenlphdaa
open Go.RowKit Mem Wal

theorem tv_one (L : Secs) : ∀ u ∈ tv L, u.oneCell' = true := by
  intro u hu
  simp only [tv, List.mem_map] at hu
  obtain ⟨b, _, rfl⟩ := hu
  rfl
/-- What write leaves. -/
def PWrote (w : World) (u p g q : Nat) (d : DS) (H : Nat) (e : Ending) (w' : World) : Prop :=
  ∃ d' L' M' N' dead', e = .returned (.bool true) ∧ PW w' u p g q d' H (.pointer (some ⟨q, 0, none⟩)) M' N' dead' ∧ IsLog w' q p L'.side L'.used L'.dead ∧ St d' L' M' N' dead' ∧ d'.secs.length = d.secs.length ∧ d'.writes ≤ d.writes + 256 ∧ Chg [u, p, g, q] w w'


set_option maxRecDepth 100000 in
set_option maxHeartbeats 16000000 in
theorem pwrite_new {w : World} {u p g q H : Nat} {d : DS} {L : LS} {M N : Secs} {dead : Bool} (h : PW w u p g q d H (.pointer (some ⟨q, 0, none⟩)) M N dead) (hl : IsLog w q p L.side L.used L.dead) (hst : St d L M N dead) (hH : H = half d.secs.length) (hqp : q ≠ p) (hqg : q ≠ g)
    (A : Option Addr) (n c : Nat) (R : Secs) (hr : RsX w [u, p, g, q] A n R) (hn : n ≤ 4) (hR : ∀ r ∈ R, r.length ≤ 1010) (hwr : d.writes < 700000) :
    Calls Try.prog 24 #[.pointer (some ⟨u, 0, none⟩), .slice A n c, .bool true] w (PWrote w u p g q d H) := by
  obtain ⟨iT, hiT, hzT, hsT, hbT⟩ := info_parts infoT
  have HH := Lib.hid hH
  have h7 := hst.n7.1
  have hult := h.ult
  have hplt := h.id.plt
  have hglt := h.id.glt
  have hqlt := hl.qlt
  obtain ⟨z, hz⟩ : ∃ z, sizes R = z := ⟨_, rfl⟩
  have HZ := Lib.hid hz
  have hnx := hR
  clear hz hH
  go_enter Try.func24, Try.ntmps24
  go_wp2_with fail
  refine (texts_any _ _ _ _ _ hr (by omega)).mono ?_
  rintro e w1 ⟨A1, c1, rfl, k1, hown1, hb1⟩
  have t1 := Ts.of_own hown1
  have h63 : 0 + n ≤ maxLen := by unfold maxLen; omega
  go_wp2_with (at_builtin; go_must (refine wpList_append w1 rfl (.tmp 26) (.tmp 28) 32 rfl w.heap.size 9 iT (.string ⟨#[]⟩) 1 16 Try.underlying32 hiT hzT hsT hbT rfl (by omega) _ 0 [] rfl (World.ownsRow_nil _ _ _ _) w1.heap.size _ _ _ _ rfl t1 (tv_one _) h63 (by omega) hb1.size ?_))
  intro A2 c2 w2 hown2 gg1 gg2 hgr2
  have hb2 : Below w.heap.size w w2 := below_grown hb1 hgr2 hb1.size (World.ownsRow_nil w1 w.heap.size 9 1)
  have h2 := h.below hb2
  have l2 := hl.chg (Chg.of_below (S := []) hb2) (by simp)
  have r2 := hr.below hb2
  have t2 : TsX w2 [u, p, g, q] A2 n R := TsX.of_own hown2 (by simp; omega)
  have k22 := h2.c2
  have hS := fun k => rsizes_any A2 n c2 R _ (Ts.drewN' t2.1 k) (by omega) (fun r hr => by have := hR r hr; omega)
  rw [HZ.out] at hS
  clear hgr2 hown2 hown1 t1 h hl hr
  have hfull : (H < z ∨ ¬ H < z) := by omega
  rcases hfull with hbig | hbig
  all_goals
    have hbi : (decide ((H : Int) < (z : Int))) = decide (H < z) := by simp
    go_wp2_with fail
    go_quiet ((first | (go_at_call 20; exact quiet_of (hS _))))
    have hbq : Below w2.heap.size w2 (w2.drewN nq) := below_drewNs _ _ _
    obtain ⟨w3, hw3⟩ : ∃ w3, w2.drewN nq = w3 := ⟨_, rfl⟩
    rw [hw3] at hbq ⊢
    have h3 := h2.below hbq
    have l3 := l2.chg (Chg.of_below (S := []) hbq) (by simp)
    have r3 := r2.below hbq
    have t3 := t2.chg (Chg.of_below hbq)
    have hch3 : Chg [u, p, g, q] w w3 := (Chg.of_below hb2).and_below hbq
    have k35 := h3.c5
    have k30 := h3.c0
    have k31 := h3.c1
    have hlong := long_any _ _ c _ _ r3 (show n ≤ 100000 by omega)
    have hput := replace_out hst l3 h3.id hqp hqg A n c R (r3.mono (by simp)) (by omega) (by omega)
    rw [← HH.out] at hput
    have hal := alive_any h3.id
    clear h2 l2 r2 t2 hS hw3 k22
    cases htl : tooLong R
    all_goals
      rw [htl] at hlong
      cases dead
      · have hdn : d.down = false := by rcases hst with ⟨_, h⟩ | ⟨h, _⟩; exact h.dn; cases h
        rw [hdn] at hal
        go_wp2_with fail
        refine hlong.mono ?_
        rintro e w' ⟨rfl, rfl⟩
        go_wp2_with fail
        refine hal.mono ?_
        rintro e w' ⟨rfl, rfl⟩
        go_wp2_with fail
        refine hput.mono ?_
        rintro e w4 ⟨f, d4, L4, rfl, i4, l4, hc4, hn4, wr4, hout⟩
        have n4 := Lib.hid hn4
        clear hn4 hput hlong hal
        have hwant : wantOf false H R R = (if tooLong R then 4 else if H < z then 6 else 0) := by unfold wantOf; rw [HZ.out]; rfl
        rw [htl] at hwant
        simp only [hbig, if_true, if_false, Bool.false_eq_true] at hwant
        rw [hwant] at hout
        have h4 := h3.chg hc4 i4
        have t4 := t3.chg (hc4.mono (by simp))
        have hch4 := hch3.and (hc4.mono (by simp))
        have k41 := h4.c1
        have k42 := h4.c2
        have k45 := h4.c5
        have k40 := h4.c0
        have k4f := h4.uf
        obtain ⟨A43, c43, k43, t43⟩ := h4.c3
        obtain ⟨A44, c44, k44, t44⟩ := h4.c4
        rcases hout with ⟨rfl, hne, hst4⟩ | ⟨rfl, hne, _, hv4⟩ | ⟨rfl, hne, _, hdn4, he4, hs4, hu4⟩
        · first
          | exact absurd rfl hne
          | (have hv4 : Live d4 L4 M := by rcases hst4 with ⟨_, h⟩ | ⟨h, _⟩; exact h; cases h
             obtain ⟨zm, hzm⟩ : ∃ z, sizes M = z := ⟨_, rfl⟩
             have hzu : L4.used = zm := hv4.sizes.1.trans hzm
             have hU := fun k => used_any (l4.drewN k)
             rw [hzu] at hU
             have hmr := h4.mr
             have hml := h4.ml
             have hSm := fun k => rsizes_any A43 M.length c43 M _ (Ts.drewN' t43.1 k) (by omega) (fun r hr => by have := hmr r hr; omega)
             rw [hzm] at hSm
             have hzz : ((zm : Int) == (zm : Int)) = true := by simp
             have HFIN := Lib.hid (show PW w4 u p g q d4 H (.pointer (some ⟨q, 0, none⟩)) M N false ∧ IsLog w4 q p L4.side L4.used L4.dead from ⟨h4, l4⟩)
             clear h3 h4 l4 t3 t4 t43 t44 i4 hzu hzm
             go_wp2_with fail
             go_quiet ((first | (go_at_call 13; exact quiet_of (hU _)) | (go_at_call 20; exact quiet_of (hSm _))))
             go_wp2
             go_ret
             have hbq : Below w4.heap.size w4 (w4.drewN nq) := below_drewNs _ _ _
             exact ⟨d4, L4, M, N, false, rfl, HFIN.out.1.below hbq, HFIN.out.2.chg (Chg.of_below (S := []) hbq) (by simp), hst4, n4.out, by omega, hch4.and_below hbq⟩)
        · first
          | (exact absurd hne (by decide))
          | (obtain ⟨w5, hw5⟩ : ∃ w5, w4.setCell ⟨u, 3, none⟩ (.slice A2 n c2) = w5 := ⟨_, rfl⟩
             have h5 : PW w5 u p g q d4 H (.pointer (some ⟨q, 0, none⟩)) (R) N false := by rw [← hw5]; exact h4.setM t4 (by omega) hnx
             have hc5 : Chg [u] w4 w5 := by rw [← hw5]; exact chg_set _ _ _ _
             have l5 := l4.chg hc5 (by simp; exact Ne.symm h4.huq)
             have t5 := t4.chg (hc5.mono (by simp))
             have k55 := h5.c5
             have k51 := h5.c1
             have k53 : w5.cell? ⟨u, 3, none⟩ = some (.slice A2 n c2) := by rw [← hw5]; exact setc_same _ _ _ _ _ k43
             have hch5 := hch4.and (hc5.mono (by simp))
             have hzu : L4.used = z := hv4.sizes.1.trans HZ.out
             have hU := fun k => used_any (l5.drewN k)
             rw [hzu] at hU
             have hSm := fun k => rsizes_any A2 (n) c2 (R) _ (Ts.drewN' t5.1 k) (by omega) (fun r hr => by have := hnx r hr; omega)
             rw [HZ.out] at hSm
             have hzz : ((z : Int) == (z : Int)) = true := by simp
             have HFIN := Lib.hid (show PW w5 u p g q d4 H (.pointer (some ⟨q, 0, none⟩)) (R) N false ∧ IsLog w5 q p L4.side L4.used L4.dead from ⟨h5, l5⟩)
             clear h3 h4 l4 t3 t4 t43 t44 i4 h5 l5 t5 hzu
             go_wp2_with fail
             go_quiet ((first | (go_at_call 13; exact quiet_of (hU _)) | (go_at_call 20; exact quiet_of (hSm _))))
             go_wp2
             go_ret
             have hbq : Below w5.heap.size w5 (w5.drewN nq) := below_drewNs _ _ _
             exact ⟨d4, L4, _, N, false, rfl, HFIN.out.1.below hbq, HFIN.out.2.chg (Chg.of_below (S := []) hbq) (by simp), .inl ⟨rfl, hv4⟩, n4.out, by omega, hch5.and_below hbq⟩)
        · first
          | (exact absurd hne (by decide))
          | (obtain ⟨w5, hw5⟩ : ∃ w5, w4.setCell ⟨u, 5, none⟩ (.bool true) = w5 := ⟨_, rfl⟩
             have h5 : PW w5 u p g q d4 H (.pointer (some ⟨q, 0, none⟩)) M N true := by rw [← hw5]; exact h4.setDead
             have hc5 : Chg [u] w4 w5 := by rw [← hw5]; exact chg_set _ _ _ _
             have t5 := t4.chg (hc5.mono (by simp))
             have k5f := h5.uf
             obtain ⟨A54, c54, k54, _⟩ := h5.c4
             obtain ⟨w6, hw6⟩ : ∃ w6, w5.setCell ⟨u, 4, none⟩ (.slice A2 n c2) = w6 := ⟨_, rfl⟩
             have h6 : PW w6 u p g q d4 H (.pointer (some ⟨q, 0, none⟩)) M (R) true := by rw [← hw6]; exact h5.setOther t5 (by omega) hnx
             have hc6 : Chg [u] w5 w6 := by rw [← hw6]; exact chg_set _ _ _ _
             have l6 := (l4.chg hc5 (by simp; exact Ne.symm h4.huq)).chg hc6 (by simp; exact Ne.symm h4.huq)
             have k60 := h6.c0
             have hch6 := (hch4.and (hc5.mono (by simp))).and (hc6.mono (by simp))
             have hal6 := alive_any h6.id
             rw [hdn4] at hal6
             have HFIN := Lib.hid (show PW w6 u p g q d4 H (.pointer (some ⟨q, 0, none⟩)) M (R) true ∧ IsLog w6 q p L4.side L4.used L4.dead from ⟨h6, l6⟩)
             clear h3 h4 l4 t3 t4 t43 t44 i4 h5 t5 h6 l6
             go_wp2_with fail
             refine hal6.mono ?_
             rintro e w7 ⟨rfl, rfl⟩
             go_wp2
             go_ret
             exact ⟨d4, L4, M, _, true, rfl, HFIN.out.1, HFIN.out.2, .inr ⟨rfl, hdn4, he4, hs4, hu4⟩, n4.out, by omega, hch6⟩)
      · go_wp2_with fail
        refine hlong.mono ?_
        rintro e w' ⟨rfl, rfl⟩
        go_wp2_with fail
        refine hput.mono ?_
        rintro e w4 ⟨f, d4, L4, rfl, i4, l4, hc4, hn4, wr4, hout⟩
        have n4 := Lib.hid hn4
        clear hn4 hput hlong hal
        have hwant : wantOf true H R R = 26 := rfl
        rw [hwant] at hout
        have h4 := h3.chg hc4 i4
        have t4 := t3.chg (hc4.mono (by simp))
        have hch4 := hch3.and (hc4.mono (by simp))
        have k41 := h4.c1
        have k42 := h4.c2
        have k45 := h4.c5
        have k40 := h4.c0
        have k4f := h4.uf
        obtain ⟨A43, c43, k43, t43⟩ := h4.c3
        obtain ⟨A44, c44, k44, t44⟩ := h4.c4
        rcases hout with ⟨rfl, hne, hst4⟩ | ⟨rfl, hne, _⟩ | ⟨rfl, hne, _⟩
        · obtain ⟨w5, hw5⟩ : ∃ w5, w4.setCell ⟨u, 5, none⟩ (.bool true) = w5 := ⟨_, rfl⟩
          have h5 : PW w5 u p g q d4 H (.pointer (some ⟨q, 0, none⟩)) M N true := by rw [← hw5]; exact h4.setDead
          have hc5 : Chg [u] w4 w5 := by rw [← hw5]; exact chg_set _ _ _ _
          have l5 := l4.chg hc5 (by simp; exact Ne.symm h4.huq)
          have k55 := h5.c5
          have hch5 := hch4.and (hc5.mono (by simp))
          have HFIN := Lib.hid (show PW w5 u p g q d4 H (.pointer (some ⟨q, 0, none⟩)) M N true ∧ IsLog w5 q p L4.side L4.used L4.dead from ⟨h5, l5⟩)
          clear h3 h4 h5 l4 l5 t3 t4 t43 t44 i4
          go_wp2_with fail
          go_quiet (fail)
          go_wp2
          go_ret
          have hbq : Below w5.heap.size w5 (w5.drewN nq) := below_drewNs _ _ _
          exact ⟨d4, L4, M, N, true, rfl, HFIN.out.1.below hbq, HFIN.out.2.chg (Chg.of_below (S := []) hbq) (by simp), hst4, n4.out, by omega, hch5.and_below hbq⟩
        · exact absurd hne (by decide)
        · exact absurd hne (by decide)
end Go.Proofs.Ytgaplcgenlphdaa
