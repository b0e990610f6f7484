/- THE WALKS of the law's own helpers: few, does, like, lives. -/
import Derived.Test.YtkeblekgjcoheaaDiskAny
namespace Go.Proofs.Ytkeblekgjcoheaa
open Go.RowKit Mem

theorem few_at (A : Option Addr) (n c k : Nat) (w : World) (hn : n ≤ c) (hk : Hid (min n 140 = k)) :
    Calls Try.prog 9 #[.slice A n c] w fun e w' => e = .returned (.slice A k c) ∧ w = w' := by
  have hk' := hk.out
  by_cases h : 140 < n
  · obtain rfl : k = 140 := by omega
    go_enter Try.func9, Try.ntmps9
    go_wp2
    go_ret
    exact ⟨rfl, rfl⟩
  · obtain rfl : k = n := by omega
    go_enter Try.func9, Try.ntmps9
    go_wp2
    go_ret
    exact ⟨rfl, rfl⟩

/-- What a deed makes of a disk. -/
def DS.deed (d : DS) (kd x : Int) (l : List UInt8) : DS :=
  if kd = 0 then d.write x l else if kd = 2 then d.arm x l else if kd = 3 then d.up else d
def DidBoth (w : World) (p g q r : Nat) (d d' : DS) (kd x : Int) (l : List UInt8) (e : Ending) (w' : World) : Prop :=
  ∃ b : Bool, e = .returned (.bool b) ∧ (d = d' → b = true) ∧ IsDisk w' p g (d.deed kd x l) ∧ IsRef w' q r (d'.deed kd x l) ∧ Chg [p, g, q, r] w w'

section
variable {w : World} {p g q r : Nat} {d d' : DS}
theorem sub_pg {S : List Nat} {a b : World} (h : Chg S a b) (hs : ∀ s, s ∈ S → s ∈ [p, g, q, r]) : Chg [p, g, q, r] a b := h.mono hs

set_option maxHeartbeats 2000000 in
theorem does_any (h : IsDisk w p g d) (h' : IsRef w q r d') (hpq : p ≠ q ∧ p ≠ r ∧ g ≠ q ∧ g ≠ r) (kd x : Int) (hx1 : -9223372036854775808 ≤ x) (hx2 : x ≤ 9223372036854775807) (A : Option Addr) (n c : Nat) (l : List UInt8) (hn : n ≤ c)
    (hk : ∀ W, Chg [p, g, q, r] w W → Bs W W.heap.size A n l) (hw1 : d.writes < 4611686018427387904) (hw2 : d'.writes < 4611686018427387904) :
    Calls Try.prog 12 #[.pointer (some ⟨p, 0, none⟩), .pointer (some ⟨q, 0, none⟩), .agg #[.int .i64 kd, .int .i64 x, .slice A n c]] w (DidBoth w p g q r d d' kd x (l.take 140)) := by
  obtain ⟨k, hkn⟩ : ∃ k, min n 140 = k := ⟨_, rfl⟩
  have H : Hid (min n 140 = k) := hkn
  have hkt : ∀ W, Chg [p, g, q, r] w W → Bs W W.heap.size A k (l.take 140) := fun W hW => by
    have h1 := hk W hW
    have := h1.take (k := min n 140) (Nat.min_le_left _ _)
    rw [hkn] at this
    rw [show l.take 140 = l.take k by rw [← hkn, ← h1.len, Nat.min_comm, ← List.take_take, List.take_length]]
    exact this
  generalize l.take 140 = lt at hkt
  have hc0 : Chg [p, g, q, r] w (w.alloc (.cells #[.int .i64 kd, .int .i64 x, .slice A n c] 31)) := (Chg.refl _ _).alloc _
  have hS : ∀ {S : List Nat}, Chg S w (w.alloc (.cells #[.int .i64 kd, .int .i64 x, .slice A n c] 31)) := (Chg.refl _ _).alloc _
  have i0 := h.chg (hS (S := [])) (by simp) (by simp)
  have j0 := h'.chg (hS (S := [])) (by simp) (by simp)
  obtain ⟨b1, b2, b3, b4⟩ := hpq
  have hplt := h.plt
  have hglt := h.glt
  have hqlt := h'.qlt
  have hrlt := h'.rlt
  clear hk hkn hS
  have HK := Lib.hid hkt
  clear hkt
  by_cases hk0 : kd = 0
  · subst hk0
    have bx : ∀ j, ((w.alloc (.cells #[.int .i64 0, .int .i64 x, .slice A n c] 31)).drew).cell? ⟨w.heap.size, j, none⟩ = (#[.int .i64 0, .int .i64 x, .slice A n c] : Array Value)[j]? := fun j => cell_new w _ _ (0, 0) j
    have hwr := write_any (i0.chg ((Chg.refl [] _).drew) (by simp) (by simp)) x A k c lt (fun W hW => HK.out W ((hc0.drew).and (sub_pg hW (by simp)))) hw1
    have HW := Lib.hid hwr
    have HJ := Lib.hid j0
    clear hwr i0 j0
    go_enter Try.func12, Try.ntmps12
    go_wp2_with fail
    refine (few_at _ _ _ _ _ hn H).mono ?_
    rintro e w' ⟨rfl, rfl⟩
    go_wp2_with fail
    go_region_with (first
      | (go_at_call 8; refine HW.out.mono ?_; rintro e w1 ⟨rfl, id1, ic1⟩; have bx1 := (ic1.cell (p := ⟨w.heap.size, 1, none⟩) (by show _ < (w.alloc _).heap.size; simp) (by simp; omega)).trans (bx 1); have ref1 := (HJ.out.chg ((Chg.refl [] _).drew) (by simp) (by simp)).chg ic1 (by simp; omega) (by simp; omega); have hc1 : Chg [p, g, q, r] w w1 := (hc0.drew).and (sub_pg ic1 (by simp)))
      | (go_at_call 22; refine (refwrite_any ref1 x A k c lt (fun W hW => HK.out W (hc1.and (sub_pg hW (by simp)))) hw2).mono ?_; rintro e w2 ⟨rfl, id2, ic2⟩))
    all_goals go_wp2
    all_goals go_ret
    all_goals exact ⟨_, rfl, fun e => by subst e; exact beq_self_eq_true _, id1.chg ic2 (by simp; omega) (by simp; omega), id2, hc1.and (sub_pg ic2 (by simp))⟩
  · have z0 : (kd == 0) = false := beq_eq_false_iff_ne.2 hk0
    by_cases hk1 : kd = 1
    · subst hk1
      go_enter Try.func12, Try.ntmps12
      go_wp2_with fail
      refine (few_at _ _ _ _ _ hn H).mono ?_
      rintro e w' ⟨rfl, rfl⟩
      go_wp2_with fail
      refine (read_any i0 x).mono ?_
      rintro e w1 ⟨A1, n1, c1, rfl, g1, g2, hown, hb1⟩
      have bx1 : w1.cell? ⟨w.heap.size, 1, none⟩ = some (.int .i64 x) := (hb1.cell (p := ⟨w.heap.size, 1, none⟩) (by simp)).trans (cell_new w _ _ (0, 0) 1)
      have j1 := j0.chg (Chg.of_below hb1 (S := [])) (by simp) (by simp)
      have hx1 := conv (Bs.of_own hown) c1
      go_wp2_with fail
      refine (refread_any j1 x).mono ?_
      rintro e w' ⟨rfl, rfl⟩
      by_cases hdd : d = d'
      · subst hdd
        go_wp2
        go_ret
        exact ⟨true, rfl, fun _ => rfl, i0.chg (Chg.of_below hb1 (S := [])) (by simp) (by simp), j1, hc0.and_below hb1⟩
      · go_wp2
        all_goals go_ret
        all_goals exact ⟨_, rfl, fun e => absurd e hdd, i0.chg (Chg.of_below hb1 (S := [])) (by simp) (by simp), j1, hc0.and_below hb1⟩
    · have z1 : (kd == 1) = false := beq_eq_false_iff_ne.2 hk1
      by_cases hk2 : kd = 2
      · subst hk2
        have e1 : d.deed 2 x lt = d.arm x lt := rfl
        have e2 : d'.deed 2 x lt = d'.arm x lt := rfl
        have E1 := Lib.hid e1
        have E2 := Lib.hid e2
        clear e1 e2
        go_enter Try.func12, Try.ntmps12
        go_wp2_with fail
        refine (few_at _ _ _ _ _ hn H).mono ?_
        rintro e w' ⟨rfl, rfl⟩
        go_wp2_with fail
        refine (arm_any i0 x hx1 hx2 A k c _ lt (HK.out _ hc0) (Nat.le_refl _)).mono ?_
        rintro e w1 ⟨rfl, id1, ic1⟩
        have bx1 : w1.cell? ⟨w.heap.size, 1, none⟩ = some (.int .i64 x) := (ic1.cell (p := ⟨w.heap.size, 1, none⟩) (by simp) (by simp; omega)).trans (cell_new w _ _ (0, 0) 1)
        have j1 := j0.chg ic1 (by simp; omega) (by simp; omega)
        have hc1 : Chg [p, g, q, r] w w1 := hc0.and (sub_pg ic1 (by simp))
        go_wp2_with fail
        refine (refarm_any j1 x hx2 A k c lt (fun W hW => HK.out W (hc1.and (sub_pg hW (by simp))))).mono ?_
        rintro e w2 ⟨rfl, id2, ic2⟩
        go_wp2
        go_ret
        exact ⟨true, rfl, fun _ => rfl, by rw [E1.out]; exact id1.chg ic2 (by simp; omega) (by simp; omega), by rw [E2.out]; exact id2, hc1.and (sub_pg ic2 (by simp))⟩
      · have z2 : (kd == 2) = false := beq_eq_false_iff_ne.2 hk2
        by_cases hk3 : kd = 3
        · subst hk3
          have e1 : d.deed 3 x lt = d.up := rfl
          have e2 : d'.deed 3 x lt = d'.up := rfl
          have E1 := Lib.hid e1
          have E2 := Lib.hid e2
          clear e1 e2
          go_enter Try.func12, Try.ntmps12
          go_wp2_with fail
          refine (few_at _ _ _ _ _ hn H).mono ?_
          rintro e w' ⟨rfl, rfl⟩
          go_wp2_with fail
          refine (up_any i0).mono ?_
          rintro e w1 ⟨rfl, id1, ic1⟩
          have j1 := j0.chg ic1 (by simp; omega) (by simp; omega)
          have hc1 : Chg [p, g, q, r] w w1 := hc0.and (sub_pg ic1 (by simp))
          go_wp2_with fail
          refine (refup_any j1).mono ?_
          rintro e w2 ⟨rfl, id2, ic2⟩
          go_wp2
          go_ret
          exact ⟨true, rfl, fun _ => rfl, by rw [E1.out]; exact id1.chg ic2 (by simp; omega) (by simp; omega), by rw [E2.out]; exact id2, hc1.and (sub_pg ic2 (by simp))⟩
        · have z3 : (kd == 3) = false := beq_eq_false_iff_ne.2 hk3
          have e1 : d.deed kd x lt = d := by unfold DS.deed; rw [if_neg hk0, if_neg hk2, if_neg hk3]
          have e2 : d'.deed kd x lt = d' := by unfold DS.deed; rw [if_neg hk0, if_neg hk2, if_neg hk3]
          have E1 := Lib.hid e1
          have E2 := Lib.hid e2
          clear e1 e2 hk0 hk1 hk2 hk3
          go_enter Try.func12, Try.ntmps12
          go_wp2_with fail
          refine (few_at _ _ _ _ _ hn H).mono ?_
          rintro e w' ⟨rfl, rfl⟩
          go_wp2
          go_ret
          exact ⟨true, rfl, fun _ => rfl, by rw [E1.out]; exact i0, by rw [E2.out]; exact j0, hc0⟩
end
end Go.Proofs.Ytkeblekgjcoheaa
