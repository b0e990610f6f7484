/- THE WALKS of the reference's Write, Arm. -/
import Derived.Test.YtkeblekgjcoheaaDiskRef
namespace Go.Proofs.Ytkeblekgjcoheaa
open Go.RowKit Mem

section
variable {w : World} {q r : Nat} {d : DS}
theorem refwrite_bad (h : IsRef w q r d) (i : Int) (A : Option Addr) (n c : Nat) (hi : i < 0 ∨ (d.secs.length : Int) ≤ i) : Calls Try.prog 22 #[.pointer (some ⟨q, 0, none⟩), .int .i64 i, .slice A n c] w fun e w' => e = .returned (.int .i64 1) ∧ w = w' := by
  obtain ⟨cc, _, h0⟩ := h.c0
  by_cases hi0 : i < 0
  · go_enter Try.func22, Try.ntmps22
    go_wp2
    go_ret
    exact ⟨rfl, rfl⟩
  · have hle : (d.secs.length : Int) ≤ i := by omega
    have h3 : 0 ≤ i := by omega
    clear hi hi0
    go_enter Try.func22, Try.ntmps22
    go_wp2
    go_ret
    exact ⟨rfl, rfl⟩
theorem refwrite_long (h : IsRef w q r d) (i : Int) (A : Option Addr) (n c : Nat) (h1 : 0 ≤ i) (hi : i < (d.secs.length : Int)) (hn : 128 < n) : Calls Try.prog 22 #[.pointer (some ⟨q, 0, none⟩), .int .i64 i, .slice A n c] w fun e w' => e = .returned (.int .i64 1) ∧ w = w' := by
  obtain ⟨cc, _, h0⟩ := h.c0
  go_enter Try.func22, Try.ntmps22
  go_wp2
  go_ret
  exact ⟨rfl, rfl⟩
theorem refwrite_down (h : IsRef w q r d) (i : Int) (A : Option Addr) (n c : Nat) (h1 : 0 ≤ i) (hi : i < (d.secs.length : Int)) (hn : n ≤ 128) (hdn : d.down = true) : Calls Try.prog 22 #[.pointer (some ⟨q, 0, none⟩), .int .i64 i, .slice A n c] w fun e w' => e = .returned (.int .i64 26) ∧ w = w' := by
  obtain ⟨cc, _, h0⟩ := h.c0
  have h2 := h.c2
  rw [hdn] at h2
  go_enter Try.func22, Try.ntmps22
  go_wp2
  go_ret
  exact ⟨rfl, rfl⟩

/-- A reference's disk one of whose texts is another one now. -/
theorem IsRef.put {w' : World} (h : IsRef w q r d) (d' : DS) (i : Nat) (s : List UInt8) (hsec : d'.secs = d.secs.set i s)
    (e0 : w'.cell? ⟨q, 0, none⟩ = w.cell? ⟨q, 0, none⟩) (e1 : w'.cell? ⟨q, 1, none⟩ = some (.int .i64 (d'.writes : Int))) (e2 : w'.cell? ⟨q, 2, none⟩ = some (.bool d'.down))
    (e3 : ∃ a : Int, w'.cell? ⟨q, 3, none⟩ = some (.int .i64 a) ∧ (d'.left = none → a = -1) ∧ (∀ n t, d'.left = some (n, t) → a = (n : Int) ∧ a ≤ 9223372036854775807))
    (e4 : ∃ s, w'.cell? ⟨q, 4, none⟩ = some (.string s) ∧ ∀ n t, d'.left = some (n, t) → s = str t)
    (er : ∀ k, k ≠ i → w'.cell? ⟨r, k, none⟩ = w.cell? ⟨r, k, none⟩) (es : w'.cell? ⟨r, i, none⟩ = some (.string (str s)))
    (hc : Chg [q, r] w w') (fq : ∀ o, w'.frozen? ⟨q, o, none⟩ = false) (fr : ∀ o, w'.frozen? ⟨r, o, none⟩ = false) : IsRef w' q r d' := by
  have hl : d'.secs.length = d.secs.length := by rw [hsec, List.length_set]
  refine ⟨by rw [hl, e0]; exact h.c0, e1, e2, e3, e4, fun j hj => ?_, fq, fr, h.ne, Nat.lt_of_lt_of_le h.qlt hc.size, Nat.lt_of_lt_of_le h.rlt hc.size, by rw [hl]; exact h.max⟩
  have hj' : j < (d.secs.set i s).length := by rw [← hsec]; exact hj
  have ej : d'.secs[j] = (d.secs.set i s)[j] := by congr 1
  have hj2 : j < d.secs.length := by rwa [List.length_set] at hj'
  by_cases hij : i = j
  · subst hij
    rw [ej, List.getElem_set_self]
    exact es
  · rw [ej, List.getElem_set_ne hij, er j (Ne.symm hij)]
    exact h.secs j hj2

set_option maxHeartbeats 1000000 in
theorem refwrite_torn (h : IsRef w q r d) (i : Nat) (A : Option Addr) (n c : Nat) (hi : i < d.secs.length) (hn : n ≤ 128) (hdn : d.down = false) (t : List UInt8) (hleft : d.left = some (0, t)) (hwr : d.writes < 4611686018427387904) :
    Calls Try.prog 22 #[.pointer (some ⟨q, 0, none⟩), .int .i64 (i : Int), .slice A n c] w fun e w' => e = .returned (.int .i64 26) ∧
      IsRef w' q r { secs := d.secs.set i t, writes := d.writes + 1, down := true, left := none } ∧ Chg [q, r] w w' := by
  obtain ⟨cc, _, h0⟩ := h.c0
  have h1 := h.c1
  have h2 := h.c2
  obtain ⟨a, h3, _, ha⟩ := h.c3
  obtain ⟨s, h4, hs⟩ := h.c4
  obtain rfl := hs _ _ hleft
  obtain ⟨rfl, _⟩ := ha _ _ hleft
  rw [hdn] at h2
  have hmax := h.max
  have hle : (i : Int) < (d.secs.length : Int) := by omega
  have hfq := h.qf
  have hfr := h.rf
  have hne := h.ne
  have hne' : r ≠ q := Ne.symm h.ne
  have hsi := h.secs i hi
  clear ha hs hleft hdn
  go_enter Try.func22, Try.ntmps22
  go_wp2_with fail
  go_region
  go_wp2
  go_ret
  have hch : Chg [q, r] w (((((w.setCell ⟨q, 1, none⟩ (.int .i64 ((d.writes : Int) + 1))).setCell ⟨r, i, none⟩ (.string (str t))).setCell ⟨q, 2, none⟩ (.bool true)).setCell ⟨q, 3, none⟩ (.int .i64 (-1))).drew) :=
    (((((Chg.refl [q, r] w).setCell (p := ⟨q, 1, none⟩) (.inl (by simp)) _).setCell (p := ⟨r, i, none⟩) (.inl (by simp)) _).setCell (p := ⟨q, 2, none⟩) (.inl (by simp)) _).setCell (p := ⟨q, 3, none⟩) (.inl (by simp)) _).drew
  refine ⟨rfl, h.put _ i t rfl (by go_simp) (by go_simp) (by go_simp) ⟨-1, by go_simp, fun _ => rfl, by simp⟩ ⟨_, by go_simp; rfl, by simp⟩ (fun k hk => ?_) (by go_simp) hch (fun o => by go_simp) (fun o => by go_simp), hch⟩
  exact (setc_far _ q 3 r k _ hne).trans ((setc_far _ q 2 r k _ hne).trans ((setc_ne _ r i k _ (Ne.symm hk)).trans (setc_far _ q 1 r k _ hne)))

/-- Behind Arm: only the count and the torn text have turned. -/
theorem IsRef.armed {w' : World} (h : IsRef w q r d) (x : Int) (hx : x ≤ 9223372036854775807) (l : List UInt8) (e : ∀ k, k ≠ 3 → k ≠ 4 → w'.cell? ⟨q, k, none⟩ = w.cell? ⟨q, k, none⟩)
    (e3 : w'.cell? ⟨q, 3, none⟩ = some (.int .i64 (if x < 0 then -1 else x))) (e4 : w'.cell? ⟨q, 4, none⟩ = some (.string (str (fill l)))) (er : ∀ k, w'.cell? ⟨r, k, none⟩ = w.cell? ⟨r, k, none⟩)
    (hc : Chg [q, r] w w') (fq : ∀ o, w'.frozen? ⟨q, o, none⟩ = false) (fr : ∀ o, w'.frozen? ⟨r, o, none⟩ = false) : IsRef w' q r (d.arm x l) := by
  obtain ⟨cc, cc1, h0⟩ := h.c0
  refine ⟨⟨cc, cc1, (e 0 (by omega) (by omega)).trans h0⟩, (e 1 (by omega) (by omega)).trans h.c1, (e 2 (by omega) (by omega)).trans h.c2, ⟨_, e3, fun e => ?_, fun n t e => ?_⟩, ⟨_, e4, fun n t e => ?_⟩, fun i hi => (er i).trans (h.secs i hi), fq, fr, h.ne, Nat.lt_of_lt_of_le h.qlt hc.size, Nat.lt_of_lt_of_le h.rlt hc.size, h.max⟩
  · unfold DS.arm at e
    by_cases h0 : 0 ≤ x
    · simp [h0] at e
    · rw [if_pos (by omega)]
  · unfold DS.arm at e
    by_cases h0 : 0 ≤ x
    · simp only [h0, if_true, Option.some.injEq, Prod.mk.injEq] at e
      rw [if_neg (by omega)]
      omega
    · simp [h0] at e
  · unfold DS.arm at e
    by_cases h0 : 0 ≤ x
    · simp only [h0, if_true, Option.some.injEq, Prod.mk.injEq] at e
      rw [e.2]
    · simp [h0] at e

set_option maxHeartbeats 1000000 in
theorem refarm_any (h : IsRef w q r d) (x : Int) (hx2 : x ≤ 9223372036854775807) (A : Option Addr) (n c : Nat) (l : List UInt8) (hk : ∀ W, Chg [q, r] w W → Bs W W.heap.size A n l) :
    Calls Try.prog 24 #[.pointer (some ⟨q, 0, none⟩), .int .i64 x, .slice A n c] w fun e w' => e = .returned (.tuple #[]) ∧ IsRef w' q r (d.arm x l) ∧ Chg [q, r] w w' := by
  obtain ⟨a, h3, _, _⟩ := h.c3
  obtain ⟨s, h4, _⟩ := h.c4
  have hfq := h.qf
  have hne := h.ne
  have hqlt := h.qlt
  by_cases hx : x < 0
  · have hc1 : Chg [q, r] w ((w.setCell ⟨q, 3, none⟩ (.int .i64 x)).setCell ⟨q, 3, none⟩ (.int .i64 (-1))) :=
      ((Chg.refl [q, r] w).setCell (p := ⟨q, 3, none⟩) (.inl (by simp)) _).setCell (p := ⟨q, 3, none⟩) (.inl (by simp)) _
    obtain ⟨W1, hW1⟩ : ∃ W1, (w.setCell ⟨q, 3, none⟩ (.int .i64 x)).setCell ⟨q, 3, none⟩ (.int .i64 (-1)) = W1 := ⟨_, rfl⟩
    rw [hW1] at hc1
    have hof := fill_any A n c _ l W1 (hk W1 hc1) (Nat.le_refl _)
    have e1 : ∀ k, k ≠ 3 → W1.cell? ⟨q, k, none⟩ = w.cell? ⟨q, k, none⟩ := fun k k3 => by
      rw [← hW1]
      exact (setc_ne _ _ _ _ _ (Ne.symm k3)).trans (setc_ne _ _ _ _ _ (Ne.symm k3))
    have e3 : W1.cell? ⟨q, 3, none⟩ = some (.int .i64 (-1)) := by
      rw [← hW1]
      exact setc_same _ _ _ _ _ (setc_same _ _ _ _ _ h3)
    have er : ∀ k, W1.cell? ⟨r, k, none⟩ = w.cell? ⟨r, k, none⟩ := fun k => by
      rw [← hW1]
      exact (setc_far _ _ _ _ _ _ hne).trans (setc_far _ _ _ _ _ _ hne)
    have ef : ∀ b k, W1.frozen? ⟨b, k, none⟩ = w.frozen? ⟨b, k, none⟩ := fun b k => by
      rw [← hW1, World.frozen?_setCell, World.frozen?_setCell]
    have hz : W1.heap.size = w.heap.size := by rw [← hW1]; simp [World.setCell]
    have HW := Lib.hid hW1
    have HO := Lib.hid hof
    have E1 := Lib.hid e1
    have ER := Lib.hid er
    have EF := Lib.hid ef
    have HZ := Lib.hid hz
    clear hW1 hof e1 er ef hz
    go_enter Try.func24, Try.ntmps24
    go_wp2_with fail
    rw [HW.out]
    refine HO.out.mono ?_
    rintro e w2 ⟨rfl, hb2⟩
    have hq1 : q < W1.heap.size := by rw [HZ.out]; exact hqlt
    have g4 : w2.cell? ⟨q, 4, none⟩ = some (.string s) := (hb2.cell (p := ⟨q, 4, none⟩) hq1).trans ((E1.out 4 (by omega)).trans h4)
    have gf : ∀ k, w2.frozen? ⟨q, k, none⟩ = false := fun k => (hb2.frozen (p := ⟨q, k, none⟩) hq1).trans ((EF.out q k).trans (hfq k))
    clear h3 h4 hfq
    go_wp2
    go_end0
    have hc2 := (hc1.and_below hb2).setCell (p := ⟨q, 4, none⟩) (.inl (by simp)) (.string (str (fill l)))
    have hr1 : r < W1.heap.size := by rw [HZ.out]; exact h.rlt
    refine ⟨rfl, h.armed x hx2 l (fun k k3 k4 => (setc_ne _ _ _ _ _ (Ne.symm k4)).trans ((hb2.cell (p := ⟨q, k, none⟩) hq1).trans (E1.out k k3))) ?_ (setc_same _ _ _ _ _ g4) (fun k => (setc_far _ _ _ _ _ _ hne).trans ((hb2.cell (p := ⟨r, k, none⟩) hr1).trans (ER.out k))) hc2 (fun o => ?_) (fun o => ?_), hc2⟩
    · rw [if_pos hx]
      exact (setc_ne _ _ _ _ _ (by omega)).trans ((hb2.cell (p := ⟨q, 3, none⟩) hq1).trans e3)
    · rw [World.frozen?_setCell]
      exact gf o
    · rw [World.frozen?_setCell]
      exact (hb2.frozen (p := ⟨r, o, none⟩) hr1).trans ((EF.out r o).trans (h.rf o))
  · have hc1 : Chg [q, r] w (w.setCell ⟨q, 3, none⟩ (.int .i64 x)) := (Chg.refl [q, r] w).setCell (p := ⟨q, 3, none⟩) (.inl (by simp)) _
    obtain ⟨W1, hW1⟩ : ∃ W1, w.setCell ⟨q, 3, none⟩ (.int .i64 x) = W1 := ⟨_, rfl⟩
    rw [hW1] at hc1
    have hof := fill_any A n c _ l W1 (hk W1 hc1) (Nat.le_refl _)
    have e1 : ∀ k, k ≠ 3 → W1.cell? ⟨q, k, none⟩ = w.cell? ⟨q, k, none⟩ := fun k k3 => by
      rw [← hW1]
      exact setc_ne _ _ _ _ _ (Ne.symm k3)
    have e3 : W1.cell? ⟨q, 3, none⟩ = some (.int .i64 x) := by
      rw [← hW1]
      exact setc_same _ _ _ _ _ h3
    have er : ∀ k, W1.cell? ⟨r, k, none⟩ = w.cell? ⟨r, k, none⟩ := fun k => by
      rw [← hW1]
      exact setc_far _ _ _ _ _ _ hne
    have ef : ∀ b k, W1.frozen? ⟨b, k, none⟩ = w.frozen? ⟨b, k, none⟩ := fun b k => by
      rw [← hW1, World.frozen?_setCell]
    have hz : W1.heap.size = w.heap.size := by rw [← hW1]; simp [World.setCell]
    have HW := Lib.hid hW1
    have HO := Lib.hid hof
    have E1 := Lib.hid e1
    have ER := Lib.hid er
    have EF := Lib.hid ef
    have HZ := Lib.hid hz
    clear hW1 hof e1 er ef hz
    go_enter Try.func24, Try.ntmps24
    go_wp2_with fail
    rw [HW.out]
    refine HO.out.mono ?_
    rintro e w2 ⟨rfl, hb2⟩
    have hq1 : q < W1.heap.size := by rw [HZ.out]; exact hqlt
    have g4 : w2.cell? ⟨q, 4, none⟩ = some (.string s) := (hb2.cell (p := ⟨q, 4, none⟩) hq1).trans ((E1.out 4 (by omega)).trans h4)
    have gf : ∀ k, w2.frozen? ⟨q, k, none⟩ = false := fun k => (hb2.frozen (p := ⟨q, k, none⟩) hq1).trans ((EF.out q k).trans (hfq k))
    clear h3 h4 hfq
    go_wp2
    go_end0
    have hc2 := (hc1.and_below hb2).setCell (p := ⟨q, 4, none⟩) (.inl (by simp)) (.string (str (fill l)))
    have hr1 : r < W1.heap.size := by rw [HZ.out]; exact h.rlt
    refine ⟨rfl, h.armed x hx2 l (fun k k3 k4 => (setc_ne _ _ _ _ _ (Ne.symm k4)).trans ((hb2.cell (p := ⟨q, k, none⟩) hq1).trans (E1.out k k3))) ?_ (setc_same _ _ _ _ _ g4) (fun k => (setc_far _ _ _ _ _ _ hne).trans ((hb2.cell (p := ⟨r, k, none⟩) hr1).trans (ER.out k))) hc2 (fun o => ?_) (fun o => ?_), hc2⟩
    · rw [if_neg (by omega)]
      exact (setc_ne _ _ _ _ _ (by omega)).trans ((hb2.cell (p := ⟨q, 3, none⟩) hq1).trans e3)
    · rw [World.frozen?_setCell]
      exact gf o
    · rw [World.frozen?_setCell]
      exact (hb2.frozen (p := ⟨r, o, none⟩) hr1).trans ((EF.out r o).trans (h.rf o))
end
end Go.Proofs.Ytkeblekgjcoheaa
