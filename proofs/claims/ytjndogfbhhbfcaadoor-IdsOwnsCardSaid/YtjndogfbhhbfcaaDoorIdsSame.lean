/- THE WALKS of the reference's lists of texts: Same, Has, Within. -/
import Derived.Test.YtjndogfbhhbfcaaDoorIdsMake
namespace Go.Proofs.YtjndogfbhhbfcaaDoor
open Go.RowKit Mem

set_option maxHeartbeats 2000000 in
theorem same_any (A : Option Addr) (n c : Nat) (L : List (List UInt8)) (A' : Option Addr) (n' c' : Nat) (M : List (List UInt8)) (w : World) (h : Ts w A n L) (h' : Ts w A' n' M) (hn : n ≤ 9223372036854775807) (hn' : n' ≤ 9223372036854775807) :
    Calls Tryd.prog 16 #[.slice A n c, .slice A' n' c'] w fun e w' => e = .returned (.bool (decide (L = M))) ∧ Below w.heap.size w w' := by
  have hlen := h.len
  have hlen' := h'.len
  by_cases hnn : n = n'
  · subst hnn
    go_enter Tryd.func16, Tryd.ntmps16
    go_wp2
    go_loopw [5] (fun i wr => ∃ k : Nat, k ≤ n ∧ i = .int .i64 k ∧ Hid (L.take k = M.take k) ∧ Below w.heap.size w wr ∧ Ts wr A n L ∧ Ts wr A' n M) (fun i _ => n - (intOf i).toNat)
    case atStart => exact ⟨0, by omega, rfl, Lib.hid rfl, Below.refl _ _, h, h'⟩
    case round =>
      obtain ⟨k, hk, rfl, HT, hb, t1, t2⟩ := hrel
      by_cases hlt : k < n
      · have hkL : k < L.length := by omega
        have hkM : k < M.length := by omega
        obtain ⟨blk, off, rfl, hcell⟩ := t1.lit hkL
        obtain ⟨blk', off', rfl, hcell'⟩ := t2.lit hkM
        have e1 : L.take (k + 1) = L.take k ++ [L[k]] := List.take_succ_eq_append_getElem hkL
        have e2 : M.take (k + 1) = M.take k ++ [M[k]] := List.take_succ_eq_append_getElem hkM
        by_cases hab : L[k] = M[k]
        · have HT2 := Lib.hid (show L.take (k + 1) = M.take (k + 1) by rw [e1, e2, HT.out, hab])
          rw [← hab] at hcell'
          generalize L[k] = s at *
          have hss : (s == s) = true := by rw [beq_iff_eq]
          have hi : (k : Int) < (n : Int) := by omega
          clear e1 e2 hab
          go_wp2_with fail
          go_quiet (fail)
          go_wp2
          go_roundw
          case rel => exact ⟨k + 1, by omega, by go_num, HT2, hb.trans (below_drewM _ _ _), Ts.below t1 (below_drewM _ _ _), Ts.below t2 (below_drewM _ _ _)⟩
          case measure => simp [intOf]; omega
        · have hne : ¬ L = M := fun e => hab (by subst e; rfl)
          have hd : decide (L = M) = false := decide_eq_false hne
          have hss : (L[k] == M[k]) = false := by rw [beq_eq_false_iff_ne]; exact hab
          generalize L[k] = s at *
          generalize M[k] = s' at *
          have hi : (k : Int) < (n : Int) := by omega
          clear e1 e2 hab hne
          go_wp2_with fail
          go_quiet (fail)
          go_wp2
          go_ret
          exact ⟨by rw [hd]; rfl, hb.trans (below_drewM _ _ _)⟩
      · obtain rfl : k = n := by omega
        have hd : decide (L = M) = true := decide_eq_true (by
          have := HT.out
          rw [List.take_of_length_le (by omega), List.take_of_length_le (by omega)] at this
          exact this)
        go_wp2
        go_ret
        exact ⟨by rw [hd]; rfl, hb⟩
  · have hd : decide (L = M) = false := decide_eq_false (fun e => hnn (by subst e; omega))
    go_enter Tryd.func16, Tryd.ntmps16
    go_wp2
    go_ret
    exact ⟨by rw [hd]; rfl, Below.refl _ _⟩


theorem has_take {L : List (List UInt8)} {s : List UInt8} {k : Nat} (h : (L.take k).contains s = false) (hk : k < L.length) (hn : (L[k] == s) = false) : (L.take (k + 1)).contains s = false := by
  rw [List.take_succ_eq_append_getElem hk, List.contains_eq_any_beq, List.any_append, ← List.contains_eq_any_beq, h]
  have : ¬ s = L[k] := fun e => by rw [← e] at hn; simp at hn
  simp [this]
theorem rhas_any (A : Option Addr) (n c : Nat) (L : List (List UInt8)) (s : List UInt8) (w : World) (h : Ts w A n L) (hn : n ≤ 9223372036854775807) :
    Calls Tryd.prog 49 #[.slice A n c, .string (str s)] w fun e w' => e = .returned (.bool (L.contains s)) ∧ w = w' := by
  have hlen := h.len
  have HLEN := Lib.hid hlen
  obtain ⟨r, hr0⟩ : ∃ r, L.contains s = r := ⟨_, rfl⟩
  have HR := Lib.hid hr0
  rw [hr0]
  clear hr0 hlen
  go_enter Tryd.func49, Tryd.ntmps49
  go_wp2
  go_loop [5] (fun i => ∃ k : Nat, k ≤ n ∧ i = .int .i64 k ∧ Hid ((L.take k).contains s = false)) (fun i => n - (intOf i).toNat)
  case atStart => exact ⟨0, by omega, rfl, Lib.hid (by simp)⟩
  case round =>
    obtain ⟨k, hk, rfl, HT⟩ := hrel
    by_cases hlt : k < n
    · have hkL : k < L.length := by rw [HLEN.out]; exact hlt
      obtain ⟨blk, off, rfl, hcell⟩ := h.lit hkL
      cases hq : (L[k] == s)
      · have HN := Lib.hid (has_take HT.out hkL hq)
        generalize L[k] = x at *
        have hi : (k : Int) < (n : Int) := by omega
        go_wp2_with fail
        go_round
        case rel => exact ⟨k + 1, by omega, by go_num, HN⟩
        case measure => simp [intOf]; omega
      · have hx : Hid (L.contains s = true) := Lib.hid (by
          simp only [beq_iff_eq] at hq
          rw [List.contains_iff_mem, ← hq]
          exact List.getElem_mem hkL)
        generalize L[k] = x at *
        have hi : (k : Int) < (n : Int) := by omega
        go_wp2_with fail
        go_ret
        exact ⟨by rw [← HR.out, hx.out]; rfl, rfl⟩
    · obtain rfl : k = n := by omega
      have hx : Hid (L.contains s = false) := Lib.hid (by
        have := HT.out
        rwa [List.take_of_length_le (by rw [HLEN.out]; exact Nat.le_refl _)] at this)
      go_wp2
      go_ret
      exact ⟨by rw [← HR.out, hx.out]; rfl, rfl⟩
/-- Is each of a one of b? -/
def withinOf (a b : List (List UInt8)) : Bool := a.all fun x => b.contains x
theorem rwithin_any (A : Option Addr) (n c : Nat) (L : List (List UInt8)) (A' : Option Addr) (n' c' : Nat) (M : List (List UInt8)) (w : World) (h : Ts w A n L) (h' : Ts w A' n' M) (hn : n ≤ 9223372036854775807) (hn' : n' ≤ 9223372036854775807) :
    Calls Tryd.prog 27 #[.slice A n c, .slice A' n' c'] w fun e w' => e = .returned (.bool (withinOf L M)) ∧ w = w' := by
  have hlen := h.len
  have HLEN := Lib.hid hlen
  obtain ⟨r, hr0⟩ : ∃ r, withinOf L M = r := ⟨_, rfl⟩
  have HR := Lib.hid hr0
  rw [hr0]
  clear hr0 hlen
  go_enter Tryd.func27, Tryd.ntmps27
  go_wp2
  go_loop [5, 6] (fun i _ => ∃ k : Nat, k ≤ n ∧ i = .int .i64 k ∧ Hid ((L.take k).all (fun x => M.contains x) = true)) (fun i _ => n - (intOf i).toNat)
  case atStart => exact ⟨0, by omega, rfl, Lib.hid (by simp)⟩
  case round =>
    obtain ⟨k, hk, rfl, HT⟩ := hrel
    by_cases hlt : k < n
    · have hkL : k < L.length := by rw [HLEN.out]; exact hlt
      obtain ⟨blk, off, rfl, hcell⟩ := h.lit hkL
      have hcall := rhas_any A' n' c' M L[k] w h' hn'
      cases hq : M.contains L[k]
      · have hx : Hid (withinOf L M = false) := Lib.hid (by
          unfold withinOf
          rw [List.all_eq_false]
          exact ⟨L[k], List.getElem_mem hkL, by rw [hq]; simp⟩)
        rw [hq] at hcall
        generalize L[k] = x at *
        have hi : (k : Int) < (n : Int) := by omega
        clear hq
        go_wp2_with fail
        refine hcall.mono ?_
        rintro e w' ⟨rfl, rfl⟩
        go_wp2
        go_ret
        exact ⟨by rw [← HR.out, hx.out]; rfl, rfl⟩
      · have HN := Lib.hid ((all_takeL (p := fun x => M.contains x) HT.out hkL).trans hq)
        rw [hq] at hcall
        generalize L[k] = x at *
        have hi : (k : Int) < (n : Int) := by omega
        clear hq
        go_wp2_with fail
        refine hcall.mono ?_
        rintro e w' ⟨rfl, rfl⟩
        go_wp2
        go_round
        case rel => exact ⟨k + 1, by omega, by go_num, HN⟩
        case measure => simp [intOf]; omega
    · obtain rfl : k = n := by omega
      have hx : Hid (withinOf L M = true) := Lib.hid (by
        have := HT.out
        rwa [List.take_of_length_le (by rw [HLEN.out]; exact Nat.le_refl _)] at this)
      go_wp2
      go_ret
      exact ⟨by rw [← HR.out, hx.out]; rfl, rfl⟩
end Go.Proofs.YtjndogfbhhbfcaaDoor
