/- THE WALK of a disk's Write where it writes. -/
import Derived.Test.YtgaplcgenlphdaaDiskWalks
import Derived.BigRegion
namespace Go.Proofs.Ytgaplcgenlphdaa
open Go.RowKit Mem

section
variable {w : World} {p g : Nat} {d : DS}
set_option maxHeartbeats 1000000 in
theorem write_torn (h : IsDisk w p g d) (i : Nat) (A : Option Addr) (n c : Nat) (hi : i < d.secs.length) (hn : n ≤ 128) (hdn : d.down = false) (t : List UInt8) (hleft : d.left = some (0, t)) (hwr : d.writes < 4611686018427387904) :
    Calls Try.prog 17 #[.pointer (some ⟨p, 0, none⟩), .int .i64 (i : Int), .slice A n c] w fun e w' => e = .returned (.int .i64 26) ∧
      IsDisk w' p g { secs := d.secs.set i t, writes := d.writes + 1, down := true, left := none } ∧ Chg [p, g] w w' := by
  obtain ⟨cc, _, h0⟩ := h.c0
  have h1 := h.c1
  have h2 := h.c2
  have h3 := h.c3
  obtain ⟨a, _, _, h4, ha⟩ := h.c4
  obtain ⟨t', ht1, ht2, ht3⟩ := h.c5
  obtain rfl := ht3 _ _ hleft
  obtain rfl := ha _ _ hleft
  rw [hdn] at h2
  rw [hleft] at h3
  have hmax := h.max
  have hle : (i : Int) < (d.secs.length : Int) := by omega
  have hfp := h.pf
  have hfg := h.gf
  have hne := h.ne
  have hne' : g ≠ p := Ne.symm h.ne
  have hHp : Has w p 5 128 := by have := ht2.has; rwa [ht1] at this
  have hAp : arr w p 5 128 = (bv t').toArray := by have := ht2.eq; rwa [ht1] at this
  have hHg : Has w g (i * 128) 128 := by have := (h.secs i hi).2.has; rwa [(h.secs i hi).1] at this
  have hFg : Fre w g (i * 128) 128 := fun j _ => h.gf _
  have hcl := bv_cells t' ht1
  obtain ⟨V, hV⟩ : ∃ V, (bv t').toArray = V := ⟨_, rfl⟩
  rw [hV] at hAp hcl
  clear ha ht3 hleft hdn
  have hiy := is_yes h (i : Int) (by omega) hle
  have HV := Lib.hid hV
  clear hV
  go_enter Try.func17, Try.ntmps17
  go_wp2_with fail
  refine hiy.mono ?_
  rintro e w' ⟨rfl, rfl⟩
  clear hiy
  go_wp2_with fail
  go_region
  go_wp2
  go_ret
  have hch : Chg [p, g] w (((((w.setCell ⟨p, 1, none⟩ (.int .i64 ((d.writes : Int) + 1))).setCells g (i * 128) V.toList).setCell ⟨p, 2, none⟩ (.bool true)).setCell ⟨p, 3, none⟩ (.bool false)).drew) :=
    (((((Chg.refl [p, g] w).setCell (p := ⟨p, 1, none⟩) (.inl (by simp)) _).setCells _ (.inl (by simp))).setCell (p := ⟨p, 2, none⟩) (.inl (by simp)) _).setCell (p := ⟨p, 3, none⟩) (.inl (by simp)) _).drew
  have hVl : V.toList = bv t' := by rw [← HV.out]
  refine ⟨rfl, h.put _ i t' ht1 rfl (by go_simp) (by go_simp) (by go_simp) (by go_simp) ⟨0, by omega, by omega, by go_simp, by simp⟩ ⟨t', ht1, ht2.keep fun j hj => ?_, by simp⟩ (fun k hk => ?_) ?_ (fun o => by go_simp) (fun o => by go_simp) hch.size, hch⟩
  · exact (setc_ne _ p 3 j _ (by omega)).trans ((setc_ne _ p 2 j _ (by omega)).trans ((setcs_far _ _ _ _ _ _ hne).trans (setc_ne _ p 1 j _ (by omega))))
  · exact (setc_far _ p 3 g k _ hne).trans ((setc_far _ p 2 g k _ hne).trans ((setcs_out V.toList _ g _ k (by rw [hVl, bv_length, ht1]; exact hk)).trans (setc_far _ p 1 g k _ hne)))
  · rw [hVl]
    have hH := (has_setCell (w := w) (b := g) (o := i * 128) (n := 128) ⟨p, 1, none⟩ (.int .i64 ((d.writes : Int) + 1))).2 hHg
    have ha := Arr.of_setCells t' (w.setCell ⟨p, 1, none⟩ (.int .i64 ((d.writes : Int) + 1))) g (i * 128) (by rw [ht1]; exact hH)
    exact fun j hj => (setc_far _ p 3 g _ _ hne).trans ((setc_far _ p 2 g _ _ hne).trans (ha j hj))

/-- What is behind the last region of Write. -/
theorem put_end {w2 w' : World} {a : Int} (h : IsDisk w p g d) (i : Nat) (l : List UInt8) (W2 : World) (hW2 : W2 = ((w.setCell ⟨p, 1, none⟩ (.int .i64 ((d.writes : Int) + 1))).setCell ⟨p, 4, none⟩ (.int .i64 (wrap64 (a - 1)))).drew)
    (hb : Below W2.heap.size W2 w2) (hw' : w' = w2.setCells g (i * 128) (bv (fill l))) (hi : i < d.secs.length) (hdn : d.down = false) (h4 : w.cell? ⟨p, 4, none⟩ = some (.int .i64 a)) (ha1 : -9223372036854775808 ≤ a) (ha2 : a ≤ 9223372036854775807)
    (ha : ∀ n t, d.left = some (n, t) → a = (n : Int)) (hl : ∀ t, d.left ≠ some (0, t)) :
    IsDisk w' p g { secs := d.secs.set i (fill l), writes := d.writes + 1, down := false, left := d.left.map fun x => (x.1 - 1, x.2) } ∧ Chg [p, g] w w' := by
  have hc2 : Chg [p, g] w W2 := by
    rw [hW2]
    exact (((Chg.refl [p, g] w).setCell (p := ⟨p, 1, none⟩) (.inl (by simp)) _).setCell (p := ⟨p, 4, none⟩) (.inl (by simp)) _).drew
  have hc' : Chg [p, g] w w' := by
    rw [hw']
    exact (hc2.and_below hb).setCells _ (.inl (by simp))
  have hz : W2.heap.size = w.heap.size := by
    rw [hW2]
    show ((w.setCell ⟨p, 1, none⟩ (.int .i64 ((d.writes : Int) + 1))).setCell ⟨p, 4, none⟩ (.int .i64 (wrap64 (a - 1)))).heap.size = _
    simp [World.setCell]
  have hplt : p < W2.heap.size := by rw [hz]; exact h.plt
  have hglt : g < W2.heap.size := by rw [hz]; exact h.glt
  have pw : ∀ k, w'.cell? ⟨p, k, none⟩ = W2.cell? ⟨p, k, none⟩ := fun k => by
    rw [hw', setcs_far _ _ _ _ _ _ h.ne]
    exact hb.cell (p := ⟨p, k, none⟩) hplt
  have gw : ∀ k, W2.cell? ⟨g, k, none⟩ = w.cell? ⟨g, k, none⟩ := fun k => by
    rw [hW2]
    exact (setc_far _ p 4 g k _ h.ne).trans (setc_far _ p 1 g k _ h.ne)
  have pk : ∀ k, k ≠ 1 → k ≠ 4 → W2.cell? ⟨p, k, none⟩ = w.cell? ⟨p, k, none⟩ := fun k k1 k4 => by
    rw [hW2]
    exact (setc_ne _ p 4 k _ (Ne.symm k4)).trans (setc_ne _ p 1 k _ (Ne.symm k1))
  have p1 : W2.cell? ⟨p, 1, none⟩ = some (.int .i64 ((d.writes : Int) + 1)) := by
    rw [hW2]
    exact (setc_ne _ p 4 1 _ (by omega)).trans (setc_same _ _ _ _ _ h.c1)
  have p4 : W2.cell? ⟨p, 4, none⟩ = some (.int .i64 (wrap64 (a - 1))) := by
    rw [hW2]
    exact setc_same _ _ _ _ _ ((setc_ne _ p 1 4 _ (by omega)).trans h4)
  have hHg : Has w2 g (i * 128) (fill l).length := by
    have := (h.secs i hi).2.has
    rw [(h.secs i hi).1] at this
    rw [fill_length]
    intro j hj
    rw [hb.cell (p := ⟨g, i * 128 + j, none⟩) hglt, gw]
    exact this j hj
  obtain ⟨t, t1, t2, t3⟩ := h.c5
  refine ⟨h.put _ i (fill l) (fill_length l) rfl ((pw 0).trans (pk 0 (by omega) (by omega))) ((pw 1).trans p1) ((pw 2).trans ((pk 2 (by omega) (by omega)).trans (by rw [h.c2, hdn]))) ((pw 3).trans ((pk 3 (by omega) (by omega)).trans (by rw [h.c3]; simp)))
    ⟨wrap64 (a - 1), by unfold wrap64; omega, by unfold wrap64; omega, (pw 4).trans p4, fun n t' e => ?_⟩ ⟨t, t1, t2.keep fun j hj => (pw j).trans (pk j (by omega) (by omega)), fun n t' e => ?_⟩ (fun k hk => ?_) ?_ (fun o => ?_) (fun o => ?_) hc'.size, hc'⟩
  · cases hL : d.left with
    | none => rw [hL] at e; simp at e
    | some x =>
      obtain ⟨m, s⟩ := x
      rw [hL] at e
      simp only [Option.map_some, Option.some.injEq, Prod.mk.injEq] at e
      have hm : m ≠ 0 := fun e0 => hl s (by rw [hL, e0])
      have := ha m s hL
      unfold wrap64
      omega
  · cases hL : d.left with
    | none => rw [hL] at e; simp at e
    | some x =>
      obtain ⟨m, s⟩ := x
      rw [hL] at e
      simp only [Option.map_some, Option.some.injEq, Prod.mk.injEq] at e
      rw [t3 m s hL]
      exact e.2
  · rw [hw', setcs_out _ _ _ _ _ (by rw [bv_length, fill_length]; exact hk), hb.cell (p := ⟨g, k, none⟩) hglt]
    exact gw k
  · rw [hw']
    exact Arr.of_setCells _ _ _ _ hHg
  · rw [hw', World.frozen?_setCells, hb.frozen (p := ⟨p, o, none⟩) hplt, hW2]
    show ((w.setCell ⟨p, 1, none⟩ _).setCell ⟨p, 4, none⟩ _).frozen? _ = false
    rw [World.frozen?_setCell, World.frozen?_setCell]
    exact h.pf o
  · rw [hw', World.frozen?_setCells, hb.frozen (p := ⟨g, o, none⟩) hglt, hW2]
    show ((w.setCell ⟨p, 1, none⟩ _).setCell ⟨p, 4, none⟩ _).frozen? _ = false
    rw [World.frozen?_setCell, World.frozen?_setCell]
    exact h.gf o

set_option maxHeartbeats 2000000 in
theorem write_ok (h : IsDisk w p g d) (i : Nat) (A : Option Addr) (n c : Nat) (l : List UInt8) (hk : ∀ W, Chg [p, g] w W → Bs W W.heap.size A n l) (hi : i < d.secs.length) (hn : n ≤ 128) (hdn : d.down = false) (hl : ∀ t, d.left ≠ some (0, t)) (hwr : d.writes < 4611686018427387904) :
    Calls Try.prog 17 #[.pointer (some ⟨p, 0, none⟩), .int .i64 (i : Int), .slice A n c] w fun e w' => e = .returned (.int .i64 0) ∧
      IsDisk w' p g { secs := d.secs.set i (fill l), writes := d.writes + 1, down := false, left := d.left.map fun x => (x.1 - 1, x.2) } ∧ Chg [p, g] w w' := by
  obtain ⟨cc, _, h0⟩ := h.c0
  have h1 := h.c1
  have h2 := h.c2
  have h3 := h.c3
  obtain ⟨a, ha1, ha2, h4, ha⟩ := h.c4
  rw [hdn] at h2
  have hmax := h.max
  have hle : (i : Int) < (d.secs.length : Int) := by omega
  have hfp := h.pf
  have hfg := h.gf
  have hne := h.ne
  have hne' : g ≠ p := Ne.symm h.ne
  have hHg : Has w g (i * 128) 128 := by have := (h.secs i hi).2.has; rwa [(h.secs i hi).1] at this
  have hFg : Fre w g (i * 128) 128 := fun j _ => h.gf _
  have hiy := is_yes h (i : Int) (by omega) hle
  have hcl := bv_cells (fill l) (fill_length l)
  obtain ⟨W2, hW2⟩ : ∃ W2, W2 = ((w.setCell ⟨p, 1, none⟩ (.int .i64 ((d.writes : Int) + 1))).setCell ⟨p, 4, none⟩ (.int .i64 (wrap64 (a - 1)))).drew := ⟨_, rfl⟩
  have hc2 : Chg [p, g] w W2 := by
    rw [hW2]
    exact (((Chg.refl [p, g] w).setCell (p := ⟨p, 1, none⟩) (.inl (by simp)) _).setCell (p := ⟨p, 4, none⟩) (.inl (by simp)) _).drew
  have hbs := hk W2 hc2
  have hof := of_any A n c W2.heap.size l W2 hbs (Nat.le_refl _)
  have hz : W2.heap.size = w.heap.size := by
    rw [hW2]
    show ((w.setCell ⟨p, 1, none⟩ (.int .i64 ((d.writes : Int) + 1))).setCell ⟨p, 4, none⟩ (.int .i64 (wrap64 (a - 1)))).heap.size = _
    simp [World.setCell]
  have hplt : p < W2.heap.size := by rw [hz]; exact h.plt
  have hglt : g < W2.heap.size := by rw [hz]; exact h.glt
  have k0 : W2.cell? ⟨p, 0, none⟩ = some (.slice (some ⟨g, 0, none⟩) d.secs.length cc) := by
    rw [hW2]
    exact (setc_ne _ p 4 0 _ (by omega)).trans ((setc_ne _ p 1 0 _ (by omega)).trans h0)
  have kH : Has W2 g (i * 128) 128 := by
    rw [hW2]
    exact (has_setCell _ _).2 ((has_setCell _ _).2 hHg)
  have kF : Fre W2 g (i * 128) 128 := by
    rw [hW2]
    exact (fre_setCell _ _).2 ((fre_setCell _ _).2 hFg)
  have HW2 := Lib.hid hW2
  have hends : ∀ w2, Below W2.heap.size W2 w2 → IsDisk (w2.setCells g (i * 128) (bv (fill l))) p g { secs := d.secs.set i (fill l), writes := d.writes + 1, down := false, left := d.left.map fun x => (x.1 - 1, x.2) } ∧ Chg [p, g] w (w2.setCells g (i * 128) (bv (fill l))) :=
    fun w2 hb => put_end h i l W2 hW2 hb rfl hi hdn h4 ha1 ha2 ha hl
  have HE := Lib.hid hends
  have HO := Lib.hid hof
  clear hends hof hc2 hbs hk hdn ha1 ha2
  have hsplit : (d.left.isSome = false) ∨ (d.left.isSome = true ∧ (a == 0) = false) := by
    cases hL : d.left with
    | none => exact .inl rfl
    | some x =>
      obtain ⟨m, s⟩ := x
      refine .inr ⟨rfl, beq_eq_false_iff_ne.2 fun e => hl s ?_⟩
      have := ha m s hL
      rw [hL]
      congr 2
      omega
  clear ha hl hW2
  rcases hsplit with hs | ⟨hs, hs0⟩
  all_goals
    go_enter Try.func17, Try.ntmps17
    go_wp2_with fail
    refine hiy.mono ?_
    rintro e w' ⟨rfl, rfl⟩
    clear hiy
    go_wp2_with fail
    go_region_with (go_at_call 34; rw [← HW2.out]; refine HO.out.mono ?_; rintro e w1 ⟨rfl, hb1⟩; have e0 := (hb1.cell (p := ⟨p, 0, none⟩) hplt).trans k0; have eH := kH.below hb1 hglt; have eF := kF.below hb1 hglt)
    all_goals go_wp2
    all_goals go_ret
    all_goals exact ⟨rfl, HE.out w1 hb1⟩
end
end Go.Proofs.Ytgaplcgenlphdaa
