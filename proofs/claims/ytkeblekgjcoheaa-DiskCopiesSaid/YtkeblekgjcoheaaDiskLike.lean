/- THE WALK of the law's 'like': a disk has what the reference has. -/
import Derived.Test.YtkeblekgjcoheaaDiskDoes
namespace Go.Proofs.Ytkeblekgjcoheaa
open Go.RowKit Mem

section
variable {w : World} {p g q r : Nat} {d : DS}
theorem below_drewN' (B : Nat) (w : World) (k : Nat) : Below B w (w.drewN k) := ⟨rfl, rfl, rfl, Nat.le_refl _, fun _ _ => rfl⟩
/-- A contract that leaves the world alone, in a region that draws its order. -/
theorem quiet_of {P : Program} {f : FuncId} {args : Array Value} {w : World} {n : Nat} {v : Value}
    (h : Calls P f args (w.drewN n) fun e w' => e = .returned v ∧ w.drewN n = w') : Calls P f args (w.drewN n) fun e w'' => e = .returned v ∧ ∃ m, w'' = w.drewN m :=
  h.mono fun _ _ ⟨he, hm⟩ => ⟨he, n, hm.symm⟩
theorem IsDisk.drewN (h : IsDisk w p g d) (n : Nat) : IsDisk (w.drewN n) p g d := h.chg ((Chg.refl [] w).drewN n) (by simp) (by simp)

set_option maxHeartbeats 2000000 in
theorem like_any (h : IsDisk w p g d) (h' : IsRef w q r d) : Calls Try.prog 17 #[.pointer (some ⟨p, 0, none⟩), .pointer (some ⟨q, 0, none⟩)] w fun e w' => e = .returned (.bool true) ∧ Below w.heap.size w w' := by
  obtain ⟨cc, _, r0⟩ := h'.c0
  have r1 := h'.c1
  have r2 := h'.c2
  have hmax := h.max
  cases hdn : d.down
  all_goals
    rw [hdn] at r2
    go_enter Try.func17, Try.ntmps17
    go_wp2_with fail
    go_quiet ((first | (go_at_call 16; exact quiet_of (len_any (h.drewN _))) | (go_at_call 27; exact quiet_of (alive_any (h.drewN _))) | (go_at_call 28; exact quiet_of (writes_any (h.drewN _)))))
    go_wp2_with fail
    refine (copy_any (h.drewN nq)).mono ?_
    rintro e w1 ⟨p2, g2, rfl, i1, hb1, hp2, hg2⟩
    go_wp2_with fail
    refine (up_any i1).mono ?_
    rintro e w2 ⟨rfl, i2, hc2⟩
    have hb2 : Below w.heap.size w w2 := ((below_drewN' w.heap.size w nq).trans hb1).trans (hc2.below' (Nat.le_of_lt (Nat.lt_of_le_of_lt hp2 i1.plt)) (by intro s hs; simp at hs; rcases hs with rfl | rfl <;> assumption))
    have hp2' : w.heap.size ≤ p2 := hp2
    have hg2' : w.heap.size ≤ g2 := hg2
    clear i1 hb1 hc2 hp2 hg2 r1 r2
    go_wp2
    go_loopw [6] (fun i wr => ∃ k : Nat, k ≤ d.secs.length ∧ i = .int .i64 k ∧ IsDisk wr p2 g2 d.up ∧ Below w.heap.size w wr) (fun i _ => d.secs.length - (intOf i).toNat)
    case atStart => exact ⟨0, by omega, rfl, i2, hb2⟩
    case round =>
      obtain ⟨k, hk, rfl, i3, hb3⟩ := hrel
      clear i2 hb2
      have j3 := h'.chg (Chg.of_below hb3 (S := [])) (by simp) (by simp)
      obtain ⟨cc, _, s0⟩ := j3.c0
      by_cases hlt : k < d.secs.length
      · have hlt2 : k < d.up.secs.length := hlt
        have sk := j3.secs k hlt
        have hkl : (k : Int) < (d.secs.length : Int) := by omega
        go_wp2_with fail
        refine (read_ok i3 k hlt2 rfl).mono ?_
        rintro e w4 ⟨A4, c4, rfl, g1, g2', hown, hb4⟩
        have hb34 := hb3.trans (hb4.mono hb3.size)
        have i4 := i3.chg (Chg.of_below hb4 (S := [])) (by simp) (by simp)
        have s4 := (hb4.cell (p := ⟨q, 0, none⟩) j3.qlt).trans s0
        have t4 := (hb4.cell (p := ⟨r, k, none⟩) j3.rlt).trans sk
        have hx := fun nq => conv ((Bs.of_own hown).drewN nq) c4
        have ex : d.up.secs[k] = d.secs[k] := rfl
        rw [ex] at hx
        obtain ⟨lk, hlk⟩ : ∃ lk, d.secs[k] = lk := ⟨_, rfl⟩
        have t5 : w4.cell? ⟨r, k, none⟩ = some (.string (str lk)) := by rw [← hlk]; exact t4
        have hx5 : ∀ nq, (convert 23 9 (.slice A4 128 c4)).run Try.prog (w4.drewN nq) = .ok (.string (str lk)) (w4.drewN nq) := by rw [← hlk]; exact hx
        clear t4 hx
        have hself : (lk == lk) = true := beq_self_eq_true _
        clear hlk ex hown
        clear s0 sk i3 j3
        go_wp2_with fail
        go_quiet (fail)
        go_wp2
        go_roundw
        case rel => exact ⟨k + 1, by omega, by go_num, i4.drewN _, hb34.trans (below_drewN' _ _ _)⟩
        case measure => simp [intOf]; omega
      · go_wp2
        go_ret
        exact ⟨rfl, hb3⟩
end
end Go.Proofs.Ytkeblekgjcoheaa
