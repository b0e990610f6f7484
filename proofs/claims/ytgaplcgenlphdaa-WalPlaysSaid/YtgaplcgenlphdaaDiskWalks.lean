/- THE WALKS of a disk's methods. -/
import Derived.Test.YtgaplcgenlphdaaDiskBase
namespace Go.Proofs.Ytgaplcgenlphdaa
open Go.RowKit Mem

section
variable {w : World} {p g : Nat} {d : DS}
theorem len_any (h : IsDisk w p g d) : Calls Try.prog 25 #[.pointer (some ⟨p, 0, none⟩)] w fun e w' => e = .returned (.int .i64 (d.secs.length : Int)) ∧ w = w' := by
  obtain ⟨cc, _, h0⟩ := h.c0
  go_enter Try.func25, Try.ntmps25
  go_wp2
  go_ret
  exact ⟨rfl, rfl⟩
theorem alive_any (h : IsDisk w p g d) : Calls Try.prog 37 #[.pointer (some ⟨p, 0, none⟩)] w fun e w' => e = .returned (.bool (!d.down)) ∧ w = w' := by
  have h0 := h.c2
  go_enter Try.func37, Try.ntmps37
  go_wp2
  go_ret
  exact ⟨rfl, rfl⟩
theorem is_yes (h : IsDisk w p g d) (i : Int) (h1 : 0 ≤ i) (h2 : i < d.secs.length) : Calls Try.prog 33 #[.pointer (some ⟨p, 0, none⟩), .int .i64 i] w fun e w' => e = .returned (.bool true) ∧ w = w' := by
  obtain ⟨cc, _, h0⟩ := h.c0
  go_enter Try.func33, Try.ntmps33
  go_wp2
  go_ret
  exact ⟨rfl, rfl⟩
theorem is_no (h : IsDisk w p g d) (i : Int) (h1 : i < 0 ∨ (d.secs.length : Int) ≤ i) : Calls Try.prog 33 #[.pointer (some ⟨p, 0, none⟩), .int .i64 i] w fun e w' => e = .returned (.bool false) ∧ w = w' := by
  obtain ⟨cc, _, h0⟩ := h.c0
  by_cases hi : i < 0
  · go_enter Try.func33, Try.ntmps33
    go_wp2
    go_ret
    exact ⟨rfl, rfl⟩
  · have h2 : (d.secs.length : Int) ≤ i := by omega
    have h3 : 0 ≤ i := by omega
    have h4 : decide (i < (d.secs.length : Int)) = false := by simpa using h2
    clear h1
    go_enter Try.func33, Try.ntmps33
    go_wp2
    go_ret
    exact ⟨rfl, rfl⟩
theorem up_any (h : IsDisk w p g d) : Calls Try.prog 22 #[.pointer (some ⟨p, 0, none⟩)] w fun e w' => e = .returned (.tuple #[]) ∧ IsDisk w' p g d.up ∧ Chg [p, g] w w' := by
  have h2 := h.c2
  have h3 := h.c3
  have hf := h.pf
  go_enter Try.func22, Try.ntmps22
  go_wp2
  go_end0
  refine ⟨rfl, ?_, ((Chg.refl [p, g] w).setCell (p := ⟨p, 2, none⟩) (.inl (by simp)) _).setCell (p := ⟨p, 3, none⟩) (.inl (by simp)) _⟩
  have hp : ∀ k, k ≠ 2 → k ≠ 3 → ((w.setCell ⟨p, 2, none⟩ (.bool false)).setCell ⟨p, 3, none⟩ (.bool false)).cell? ⟨p, k, none⟩ = w.cell? ⟨p, k, none⟩ := fun k h2 h3 => by
    rw [setc_ne _ _ _ _ _ (Ne.symm h3), setc_ne _ _ _ _ _ (Ne.symm h2)]
  have hg : ∀ k, ((w.setCell ⟨p, 2, none⟩ (.bool false)).setCell ⟨p, 3, none⟩ (.bool false)).cell? ⟨g, k, none⟩ = w.cell? ⟨g, k, none⟩ := fun k => by
    rw [setc_far _ _ _ _ _ _ h.ne, setc_far _ _ _ _ _ _ h.ne]
  obtain ⟨a, a1, a2, a3, _⟩ := h.c4
  obtain ⟨t, t1, t2, _⟩ := h.c5
  obtain ⟨cc, cc1, cc2⟩ := h.c0
  exact ⟨⟨cc, cc1, (hp 0 (by omega) (by omega)).trans cc2⟩, (hp 1 (by omega) (by omega)).trans h.c1, by rw [setc_ne _ _ _ _ _ (by omega)]; exact setc_same _ _ _ _ _ h2, setc_same _ _ _ _ _ (by rw [setc_ne _ _ _ _ _ (by omega)]; exact h3),
    ⟨a, a1, a2, (hp 4 (by omega) (by omega)).trans a3, fun n t e => by simp [DS.up] at e⟩, ⟨t, t1, t2.keep fun j hj => hp j (by omega) (by omega), fun n t e => by simp [DS.up] at e⟩,
    fun i hi => ⟨(h.secs i hi).1, (h.secs i hi).2.keep fun j _ => hg j⟩, fun o => by simp [h.pf], fun o => by simp [h.gf], h.ne, by simpa [World.setCell] using h.plt, by simpa [World.setCell] using h.glt, h.pos, h.max⟩

/-- A sector that is handed out: new bytes. -/
def ReadOk (w : World) (l : List UInt8) (e : Ending) (w' : World) : Prop :=
  ∃ A c, e = .returned (.tuple #[.slice A 128 c, .int .i64 0]) ∧ 128 ≤ c ∧ c ≤ 9223372036854775807 ∧ w'.ownsRow w.heap.size 5 1 (.slice A 128 c) 128 (bv l) ∧ Below w.heap.size w w'
theorem read_ok (h : IsDisk w p g d) (i : Nat) (hi : i < d.secs.length) (hdn : d.down = false) : Calls Try.prog 28 #[.pointer (some ⟨p, 0, none⟩), .int .i64 (i : Int)] w (ReadOk w d.secs[i]) := by
  obtain ⟨cc, _, h0⟩ := h.c0
  have h2 := h.c2
  rw [hdn] at h2
  have hmax := h.max
  have hle : (i : Int) < (d.secs.length : Int) := by omega
  have hb : Bs w w.heap.size (some ⟨g, i * 128, none⟩) 128 d.secs[i] := by
    have := (h.secs i hi).2.bs h.glt
    rw [(h.secs i hi).1] at this
    exact this
  go_enter Try.func28, Try.ntmps28
  go_wp2_with fail
  refine (is_yes h _ (by omega) hle).mono ?_
  rintro e w' ⟨rfl, rfl⟩
  go_wp2_with fail
  refine (clone_any _ _ _ _ _ _ hb (by omega) (Nat.le_refl _)).mono ?_
  rintro e w1 ⟨A, c, rfl, g1, g2, hown, hb1⟩
  go_wp2
  go_ret2
  exact ⟨A, c, rfl, g1, g2, hown, hb1⟩
theorem read_bad (h : IsDisk w p g d) (i : Int) (hi : i < 0 ∨ (d.secs.length : Int) ≤ i) : Calls Try.prog 28 #[.pointer (some ⟨p, 0, none⟩), .int .i64 i] w fun e w' => e = .returned (.tuple #[.slice none 0 0, .int .i64 1]) ∧ w = w' := by
  go_enter Try.func28, Try.ntmps28
  go_wp2_with fail
  refine (is_no h _ hi).mono ?_
  rintro e w' ⟨rfl, rfl⟩
  clear hi
  go_wp2
  go_ret2
  exact ⟨rfl, rfl⟩
theorem read_down (h : IsDisk w p g d) (i : Int) (h1 : 0 ≤ i) (hi : i < (d.secs.length : Int)) (hdn : d.down = true) : Calls Try.prog 28 #[.pointer (some ⟨p, 0, none⟩), .int .i64 i] w fun e w' => e = .returned (.tuple #[.slice none 0 0, .int .i64 26]) ∧ w = w' := by
  have h2 := h.c2
  rw [hdn] at h2
  go_enter Try.func28, Try.ntmps28
  go_wp2_with fail
  refine (is_yes h _ h1 hi).mono ?_
  rintro e w' ⟨rfl, rfl⟩
  go_wp2
  go_ret2
  exact ⟨rfl, rfl⟩

theorem write_bad (h : IsDisk w p g d) (i : Int) (A : Option Addr) (n c : Nat) (hi : i < 0 ∨ (d.secs.length : Int) ≤ i) : Calls Try.prog 17 #[.pointer (some ⟨p, 0, none⟩), .int .i64 i, .slice A n c] w fun e w' => e = .returned (.int .i64 1) ∧ w = w' := by
  go_enter Try.func17, Try.ntmps17
  go_wp2_with fail
  refine (is_no h _ hi).mono ?_
  rintro e w' ⟨rfl, rfl⟩
  clear hi
  go_wp2
  go_ret
  exact ⟨rfl, rfl⟩
theorem write_long (h : IsDisk w p g d) (i : Int) (A : Option Addr) (n c : Nat) (h1 : 0 ≤ i) (hi : i < (d.secs.length : Int)) (hn : 128 < n) : Calls Try.prog 17 #[.pointer (some ⟨p, 0, none⟩), .int .i64 i, .slice A n c] w fun e w' => e = .returned (.int .i64 1) ∧ w = w' := by
  go_enter Try.func17, Try.ntmps17
  go_wp2_with fail
  refine (is_yes h _ h1 hi).mono ?_
  rintro e w' ⟨rfl, rfl⟩
  go_wp2
  go_ret
  exact ⟨rfl, rfl⟩
theorem write_down (h : IsDisk w p g d) (i : Int) (A : Option Addr) (n c : Nat) (h1 : 0 ≤ i) (hi : i < (d.secs.length : Int)) (hn : n ≤ 128) (hdn : d.down = true) : Calls Try.prog 17 #[.pointer (some ⟨p, 0, none⟩), .int .i64 i, .slice A n c] w fun e w' => e = .returned (.int .i64 26) ∧ w = w' := by
  have h2 := h.c2
  rw [hdn] at h2
  go_enter Try.func17, Try.ntmps17
  go_wp2_with fail
  refine (is_yes h _ h1 hi).mono ?_
  rintro e w' ⟨rfl, rfl⟩
  go_wp2
  go_ret
  exact ⟨rfl, rfl⟩
end
end Go.Proofs.Ytgaplcgenlphdaa
