/- THE WALKS of the reference's Write where it writes, and New. -/
import Derived.Test.YtkeblekgjcoheaaDiskRefWrite
import Derived.Deep.RegionLaw
namespace Go.Proofs.Ytkeblekgjcoheaa
open Go.RowKit Mem

section
variable {w : World} {q r : Nat} {d : DS}
/-- Behind the last region of Write. -/
theorem IsRef.put_end {w2 : World} {a b : Int} (h : IsRef w q r d) (i : Nat) (l : List UInt8) (W2 : World) (hc2 : Chg [q, r] w W2)
    (e1 : W2.cell? ⟨q, 1, none⟩ = some (.int .i64 ((d.writes : Int) + 1))) (e3 : W2.cell? ⟨q, 3, none⟩ = some (.int .i64 b)) (ek : ∀ k, k ≠ 1 → k ≠ 3 → W2.cell? ⟨q, k, none⟩ = w.cell? ⟨q, k, none⟩) (er : ∀ k, W2.cell? ⟨r, k, none⟩ = w.cell? ⟨r, k, none⟩)
    (ef : ∀ c k, W2.frozen? ⟨c, k, none⟩ = w.frozen? ⟨c, k, none⟩) (hz : W2.heap.size = w.heap.size) (hb : Below W2.heap.size W2 w2) (hi : i < d.secs.length) (hdn : d.down = false)
    (ha1 : d.left = none → a = -1) (ha2 : ∀ n t, d.left = some (n, t) → a = (n : Int) ∧ a ≤ 9223372036854775807) (hl : ∀ t, d.left ≠ some (0, t)) (hab : b = if 0 < a then a - 1 else a) :
    IsRef (w2.setCell ⟨r, i, none⟩ (.string (str (fill l)))) q r { secs := d.secs.set i (fill l), writes := d.writes + 1, down := false, left := d.left.map fun x => (x.1 - 1, x.2) } ∧ Chg [q, r] w (w2.setCell ⟨r, i, none⟩ (.string (str (fill l)))) := by
  have hq : q < W2.heap.size := by rw [hz]; exact h.qlt
  have hr : r < W2.heap.size := by rw [hz]; exact h.rlt
  have hrq : r ≠ q := Ne.symm h.ne
  have hc : Chg [q, r] w (w2.setCell ⟨r, i, none⟩ (.string (str (fill l)))) := (hc2.and_below hb).setCell (p := ⟨r, i, none⟩) (.inl (by simp)) _
  have qk : ∀ k, (w2.setCell ⟨r, i, none⟩ (.string (str (fill l)))).cell? ⟨q, k, none⟩ = W2.cell? ⟨q, k, none⟩ := fun k => (setc_far _ _ _ _ _ _ hrq).trans (hb.cell (p := ⟨q, k, none⟩) hq)
  obtain ⟨s, s1, s2⟩ := h.c4
  refine ⟨h.put _ i (fill l) rfl ((qk 0).trans (ek 0 (by omega) (by omega))) ((qk 1).trans e1) ((qk 2).trans ((ek 2 (by omega) (by omega)).trans (by rw [h.c2, hdn]))) ⟨b, (qk 3).trans e3, fun e => ?_, fun n t e => ?_⟩
    ⟨s, (qk 4).trans ((ek 4 (by omega) (by omega)).trans s1), fun n t e => ?_⟩ (fun k hk => ?_) ?_ hc (fun o => ?_) (fun o => ?_), hc⟩
  · have hn : d.left = none := by
      cases hL : d.left with
      | none => rfl
      | some x => rw [hL] at e; simp at e
    have := ha1 hn
    rw [hab, if_neg (by omega)]
    exact this
  · cases hL : d.left with
    | none => rw [hL] at e; simp at e
    | some x =>
      obtain ⟨m, s'⟩ := x
      rw [hL] at e
      simp only [Option.map_some, Option.some.injEq, Prod.mk.injEq] at e
      have hm : m ≠ 0 := fun e0 => hl s' (by rw [hL, e0])
      have := ha2 m s' hL
      rw [hab, if_pos (by omega)]
      omega
  · cases hL : d.left with
    | none => rw [hL] at e; simp at e
    | some x =>
      obtain ⟨m, s'⟩ := x
      rw [hL] at e
      simp only [Option.map_some, Option.some.injEq, Prod.mk.injEq] at e
      rw [s2 m s' hL, e.2]
  · exact (setc_ne _ _ _ _ _ (Ne.symm hk)).trans ((hb.cell (p := ⟨r, k, none⟩) hr).trans (er k))
  · exact setc_same _ _ _ _ _ ((hb.cell (p := ⟨r, i, none⟩) hr).trans ((er i).trans (h.secs i hi)))
  · rw [World.frozen?_setCell]
    exact (hb.frozen (p := ⟨q, o, none⟩) hq).trans ((ef q o).trans (h.qf o))
  · rw [World.frozen?_setCell]
    exact (hb.frozen (p := ⟨r, o, none⟩) hr).trans ((ef r o).trans (h.rf o))

set_option maxHeartbeats 2000000 in
theorem refwrite_ok (h : IsRef w q r d) (i : Nat) (A : Option Addr) (n c : Nat) (l : List UInt8) (hk : ∀ W, Chg [q, r] w W → Bs W W.heap.size A n l) (hi : i < d.secs.length) (hn : n ≤ 128) (hdn : d.down = false) (hl : ∀ t, d.left ≠ some (0, t)) (hwr : d.writes < 4611686018427387904) :
    Calls Try.prog 22 #[.pointer (some ⟨q, 0, none⟩), .int .i64 (i : Int), .slice A n c] w fun e w' => e = .returned (.int .i64 0) ∧
      IsRef w' q r { secs := d.secs.set i (fill l), writes := d.writes + 1, down := false, left := d.left.map fun x => (x.1 - 1, x.2) } ∧ Chg [q, r] w w' := by
  obtain ⟨cc, _, h0⟩ := h.c0
  have h1 := h.c1
  have h2 := h.c2
  obtain ⟨a, h3, ha1, ha2⟩ := h.c3
  rw [hdn] at h2
  have hmax := h.max
  have hle : (i : Int) < (d.secs.length : Int) := by omega
  have hne := h.ne
  have hne' : r ≠ q := Ne.symm h.ne
  have hsi := h.secs i hi
  have hr0 := h.rlt
  have hq0 := h.qlt
  have hfq := h.qf
  have ha3 : a = -1 ∨ (1 ≤ a ∧ a ≤ 9223372036854775807) := by
    cases hL : d.left with
    | none => exact .inl (ha1 hL)
    | some x =>
      obtain ⟨m, s⟩ := x
      have := ha2 m s hL
      have hm : m ≠ 0 := fun e0 => hl s (by rw [hL, e0])
      omega
  have key : ∀ W2 : World, (∃ b : Int, (b = if 0 < a then a - 1 else a) ∧ W2.cell? ⟨q, 3, none⟩ = some (.int .i64 b)) → Chg [q, r] w W2 → W2.cell? ⟨q, 1, none⟩ = some (.int .i64 ((d.writes : Int) + 1)) → (∀ k, k ≠ 1 → k ≠ 3 → W2.cell? ⟨q, k, none⟩ = w.cell? ⟨q, k, none⟩) → (∀ k, W2.cell? ⟨r, k, none⟩ = w.cell? ⟨r, k, none⟩) →
      (∀ c k, W2.frozen? ⟨c, k, none⟩ = w.frozen? ⟨c, k, none⟩) → W2.heap.size = w.heap.size →
      (Calls Try.prog 15 #[.slice A n c] W2 fun e w2 => e = .returned (.string (str (fill l))) ∧ w2.cell? ⟨q, 0, none⟩ = some (.slice (some ⟨r, 0, none⟩) d.secs.length cc) ∧ w2.cell? ⟨r, i, none⟩ = some (.string (str d.secs[i])) ∧ w2.frozen? ⟨r, i, none⟩ = false ∧
        Hid (IsRef (w2.setCell ⟨r, i, none⟩ (.string (str (fill l)))) q r { secs := d.secs.set i (fill l), writes := d.writes + 1, down := false, left := d.left.map fun x => (x.1 - 1, x.2) } ∧ Chg [q, r] w (w2.setCell ⟨r, i, none⟩ (.string (str (fill l))))) ∧ W2.heap.size ≤ w2.heap.size) := by
    rintro W2 ⟨b, hb, e3⟩ hc2 e1 ek er ef hz
    refine (fill_any A n c _ l W2 (hk W2 hc2) (Nat.le_refl _)).mono ?_
    rintro e w2 ⟨rfl, hb2⟩
    have hq : q < W2.heap.size := by rw [hz]; exact h.qlt
    have hr : r < W2.heap.size := by rw [hz]; exact h.rlt
    exact ⟨rfl, (hb2.cell (p := ⟨q, 0, none⟩) hq).trans ((ek 0 (by omega) (by omega)).trans h0), (hb2.cell (p := ⟨r, i, none⟩) hr).trans ((er i).trans hsi), (hb2.frozen (p := ⟨r, i, none⟩) hr).trans ((ef r i).trans (h.rf i)),
      h.put_end i l W2 hc2 e1 e3 ek er ef hz hb2 hi hdn ha1 ha2 hl hb, hb2.size⟩
  have K := Lib.hid key
  clear key hk hdn hl ha1 ha2
  rcases ha3 with rfl | ⟨ha3, ha4⟩
  · have hc2 : Chg [q, r] w ((w.setCell ⟨q, 1, none⟩ (.int .i64 ((d.writes : Int) + 1))).drew) := ((Chg.refl [q, r] w).setCell (p := ⟨q, 1, none⟩) (.inl (by simp)) _).drew
    have k2 := K.out ((w.setCell ⟨q, 1, none⟩ (.int .i64 ((d.writes : Int) + 1))).drew) ⟨-1, rfl, (setc_ne _ q 1 3 _ (by omega)).trans h3⟩ hc2 (setc_same _ _ _ _ _ h1) (fun k k1 _ => setc_ne _ q 1 k _ (Ne.symm k1)) (fun k => setc_far _ q 1 r k _ hne) (fun b k => World.frozen?_setCell _ _ _ _) (by show (w.setCell ⟨q, 1, none⟩ (.int .i64 ((d.writes : Int) + 1))).heap.size = _; simp [World.setCell])
    have K2 := Lib.hid k2
    clear k2 K hc2
    go_enter Try.func22, Try.ntmps22
    go_wp2_with fail
    go_region_with (go_at_call 15; refine K2.out.mono ?_; rintro e w2 ⟨rfl, e0, e1, e2, e3, e4⟩)
    all_goals go_wp2
    all_goals go_ret
    all_goals exact ⟨rfl, e3.out⟩
  · have hpos : 0 < a := by omega
    have hz0 : (a == 0) = false := beq_eq_false_iff_ne.2 (by omega)
    have hc2 : Chg [q, r] w (((w.setCell ⟨q, 1, none⟩ (.int .i64 ((d.writes : Int) + 1))).setCell ⟨q, 3, none⟩ (.int .i64 (a - 1))).drew) := (((Chg.refl [q, r] w).setCell (p := ⟨q, 1, none⟩) (.inl (by simp)) _).setCell (p := ⟨q, 3, none⟩) (.inl (by simp)) _).drew
    have k2 := K.out (((w.setCell ⟨q, 1, none⟩ (.int .i64 ((d.writes : Int) + 1))).setCell ⟨q, 3, none⟩ (.int .i64 (a - 1))).drew) ⟨a - 1, by rw [if_pos hpos], setc_same _ q 3 _ _ ((setc_ne _ q 1 3 _ (by omega)).trans h3)⟩ hc2 ((setc_ne _ q 3 1 _ (by omega)).trans (setc_same _ _ _ _ _ h1)) (fun k k1 k3 => (setc_ne _ q 3 k _ (Ne.symm k3)).trans (setc_ne _ q 1 k _ (Ne.symm k1))) (fun k => (setc_far _ q 3 r k _ hne).trans (setc_far _ q 1 r k _ hne)) (fun b k => (World.frozen?_setCell _ _ _ _).trans (World.frozen?_setCell _ _ _ _)) (by show ((w.setCell ⟨q, 1, none⟩ (.int .i64 ((d.writes : Int) + 1))).setCell ⟨q, 3, none⟩ (.int .i64 (a - 1))).heap.size = _; simp [World.setCell])
    have K2 := Lib.hid k2
    clear k2 K hc2
    go_enter Try.func22, Try.ntmps22
    go_wp2_with fail
    go_region_with (go_at_call 15; refine K2.out.mono ?_; rintro e w2 ⟨rfl, e0, e1, e2, e3, e4⟩)
    all_goals go_wp2
    all_goals go_ret
    all_goals exact ⟨rfl, e3.out⟩
end
end Go.Proofs.Ytkeblekgjcoheaa
