/- THE WALKS of ids.Set and ids.Within, off the library's Clone, Sort, Compact, ContainsFunc, Contains. -/
import Derived.Test.YtjndogfbhhbfcaaDoorIdsRefSet
import Derived.Lib.OwnBridge
import Derived.Sort.OwnSorted
namespace Go.Proofs.YtjndogfbhhbfcaaDoor
open Go.RowKit Mem Go.Sort Go.Lib

theorem tv_enc (L : List (List UInt8)) : tv L = L.map Proofs.encStr := rfl
theorem cells_of_ts {w : World} {A : Option Addr} {n : Nat} {L : List (List UInt8)} (h : Ts w A n L) (hn : 0 < n) : ∃ b off, A = some ⟨b, off, none⟩ ∧ b < w.heap.size ∧ ∀ j, (hj : j < L.length) → w.cell? ⟨b, off + j, none⟩ = some (.string (str L[j])) := by
  have hl := h.len
  obtain ⟨b, off, e, hc0⟩ := h.lit (i := 0) (by omega)
  refine ⟨b, off, e, World.block_lt_of_cell? w _ hc0, fun j hj => ?_⟩
  obtain ⟨b2, off2, e2, hc⟩ := h.lit hj
  rw [e] at e2
  injection e2 with e2
  injection e2 with e2 e3
  subst e2 e3
  exact hc
theorem clone_any (A : Option Addr) (n c : Nat) (L : List (List UInt8)) (w : World) (h : Ts w A n L) (hn : n * 16 ≤ 140737488355328) (hnil : A = none → n = 0) :
    Calls Tryd.prog 32 #[.slice A n c] w fun e w' => ∃ v', e = .returned v' ∧ w'.ownsRow w.heap.size 9 1 v' n (tv L) ∧ Below w.heap.size w w' := by
  have hl := h.len
  by_cases h0 : n = 0
  · subst h0
    obtain rfl := List.eq_nil_of_length_eq_zero hl
    cases A with
    | none =>
      refine (Tryd.slices_Clone_string_nil 0 c w).mono ?_
      rintro e w' ⟨rfl, rfl⟩
      exact ⟨_, rfl, World.ownsRow_nil _ _ _ _, Below.refl _ _⟩
    | some a =>
      refine (Tryd.slices_Clone_string_zero a c w).mono ?_
      rintro e w' ⟨v', rfl, h1, _, h2⟩
      exact ⟨v', rfl, h1, h2⟩
  · obtain ⟨b, off, rfl, hb, hc⟩ := cells_of_ts h (by omega)
    refine (Tryd.slices_Clone_string b off n c (L.map str) w (by rw [List.length_map]; omega) hn (fun j hj => ?_)).mono ?_
    · have hj' : j < L.length := by simpa using hj
      rw [hc j hj']
      congr 2
      rw [List.getD_eq_getElem?_getD, List.getElem?_map, List.getElem?_eq_getElem hj']
      rfl
    · rintro e w' ⟨v', rfl, h1, _, h2⟩
      rw [List.take_of_length_le (by rw [List.length_map]; omega), List.map_map] at h1
      exact ⟨v', rfl, h1, h2⟩
theorem sort_any (base : Nat) (v : Value) (n : Nat) (L : List (List UInt8)) (w : World) (h : w.ownsRow base 9 1 v n (tv L)) (hn : n * 16 ≤ 140737488355328) (hb : base ≤ w.heap.size) :
    Calls Tryd.prog 33 #[v] w fun e w' => e = .returned (.tuple #[]) ∧ w'.ownsRow base 9 1 v n (tv (L.mergeSort fun x y => decide (x ≤ y))) ∧ Below base w w' := by
  have hl : L.length = n := by have := h.1; rw [tv_length] at this; omega
  by_cases h0 : n = 0
  · subst h0
    obtain rfl := List.eq_nil_of_length_eq_zero hl
    obtain ⟨A, c, rfl, _, _⟩ := own_form h
    refine (Tryd.slices_Sort_string_none A c w).mono ?_
    rintro e w' ⟨rfl, rfl⟩
    exact ⟨rfl, by simpa using h, Below.refl _ _⟩
  · have hne : v ≠ .slice none 0 0 := by
      rintro rfl
      rcases h.2 with ⟨_, h1⟩ | ⟨g, cap, cur, h1, _⟩
      · exact h0 h1
      · cases h1
    rcases h.2 with ⟨h1, _⟩ | ⟨g, cap, cur, rfl, hbg, hg, hnc, hcm, hcs, ht⟩
    · exact absurd h1 hne
    · have hH : Holds encStr w g 0 L.toArray := holds_of_block hg (by rw [hl, ← Nat.mul_one n]; exact ht)
      have hgl : g < w.heap.size := (Array.getElem?_eq_some_iff.1 hg).1
      have hS := Tryd.slices_Sort_string g 0 cap L w hH hgl (by omega)
      rw [hl] at hS
      refine hS.mono ?_
      rintro e w' ⟨rfl, q, os, rfl⟩
      refine ⟨rfl, ?_, ?_⟩
      · have := ownsRow_sorted (n := q) (os := os) (ss := L) (ts := L.mergeSort fun x y => decide (x ≤ y)) (by simp) hbg hg (by omega) hcm hcs
        rw [hl] at this
        exact this
      · exact (Below.refl base w).grown (grownBy_sorted _) hb (fun j hj => by cases hj; exact hbg)
theorem upto_le (d : Array (List UInt8)) : ∀ m, (Lib.compactUpTo d m).length ≤ m
  | 0 => by simp [Lib.compactUpTo]
  | m + 1 => by
    rw [Lib.compactUpTo_succ, List.length_append]
    have := upto_le d m
    split <;> simp <;> omega
theorem compact_le (L : List (List UInt8)) : (Lib.compact L).length ≤ L.length := upto_le _ _
theorem compact_any (base : Nat) (v : Value) (n : Nat) (L : List (List UInt8)) (w : World) (h : w.ownsRow base 9 1 v n (tv L)) (hn : n * 16 ≤ 140737488355328) :
    Calls Tryd.prog 34 #[v] w fun e w' => ∃ A c, e = .returned (.slice A (Lib.compact L).length c) ∧ (Lib.compact L).length ≤ c ∧ w'.ownsRow base 9 1 (.slice A (Lib.compact L).length c) (Lib.compact L).length (tv (Lib.compact L)) ∧ Below base w w' := by
  have hl : L.length = n := by have := h.1; rw [tv_length] at this; omega
  by_cases h0 : n = 0
  · subst h0
    obtain rfl := List.eq_nil_of_length_eq_zero hl
    obtain ⟨A, c, rfl, hc, _⟩ := own_form h
    refine (Tryd.slices_Compact_string_empty A c w).mono ?_
    rintro e w' ⟨rfl, rfl⟩
    exact ⟨A, c, rfl, hc, h, Below.refl _ _⟩
  · have hne : v ≠ .slice none 0 0 := by
      rintro rfl
      rcases h.2 with ⟨_, h1⟩ | ⟨g, cap, cur, h1, _⟩
      · exact h0 h1
      · cases h1
    obtain ⟨g, cap, rfl, hbg, hgl, hnc, hcm, _, hH⟩ := holds_of_ownsRow (enc := encStr) h hne
    have hC := Tryd.slices_Compact_string g 0 cap L w hH (by omega) (by omega)
    rw [hl] at hC
    have hle : (Lib.compact L).length ≤ n := by rw [← hl]; exact compact_le L
    refine hC.mono ?_
    rintro e w' ⟨rfl, q, rfl⟩
    refine ⟨_, cap, rfl, by omega, ?_, below_putRow (Below.refl _ _) hbg⟩
    have := ownsRow_putRow (enc := encStr) (q := q) (k := (Lib.compact L).length) (ys := Lib.compact L ++ List.replicate (n - (Lib.compact L).length) []) h (by simp; omega) hle
    rw [List.take_left'] at this
    · exact this
    · rfl
end Go.Proofs.YtjndogfbhhbfcaaDoor
