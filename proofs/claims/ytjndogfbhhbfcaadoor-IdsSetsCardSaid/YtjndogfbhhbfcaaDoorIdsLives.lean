/- THE WALKS of the law's few and lives (ids). -/
import Derived.Test.YtjndogfbhhbfcaaDoorIdsSet2
namespace Go.Proofs.YtjndogfbhhbfcaaDoor
open Go.RowKit Mem

theorem few_any (l : List UInt8) (w : World) (hl : l.length ≤ 9223372036854775807) : Calls Tryd.prog 10 #[.string (str l)] w fun e w' => e = .returned (.string (str (l.take 80))) ∧ w = w' := by
  obtain ⟨N, hN⟩ : ∃ N, l.length = N := ⟨_, rfl⟩
  have hsz : (str l).size = N := by rw [str_size, hN]
  have hx1 : (str l).extract 0 80 = str (l.take 80) := sub_str l 0 80
  have hle : N ≤ 80 → l.take 80 = l := fun h => List.take_of_length_le (by omega)
  by_cases h : 80 < N
  · generalize l.take 80 = T at *
    clear hle hN
    go_enter Tryd.func10, Tryd.ntmps10
    go_wp2
    go_ret
    exact ⟨rfl, rfl⟩
  · rw [hle (by omega)]
    clear hle hN hx1
    go_enter Tryd.func10, Tryd.ntmps10
    go_wp2
    go_ret
    exact ⟨rfl, rfl⟩
def lId : List UInt8 := [115, 112, 105, 102, 102, 101, 58, 47, 47, 97, 46, 111, 114, 103, 47, 100, 98]
theorem lId_out : IdOut lId = #[.string (str [97, 46, 111, 114, 103]), .string (str [47, 100, 98]), .int .i64 0] := by
  have h : Ids.parse lId = some ([97, 46, 111, 114, 103], [47, 100, 98]) := by decide +kernel
  unfold IdOut
  rw [h]
def u1 : List UInt8 := [117, 105, 100, 58, 49]
def u2 : List UInt8 := [117, 105, 100, 58, 50]
theorem lSet : Ids.setOf [u2, u1, u2] = (some [u1, u2], 0) := by
  have hu : Ids.uniq [u2, u1, u2] = [u1, u2] := by
    obtain ⟨h1, h2⟩ := Ids.uniq_spec [u2, u1, u2]
    refine Ids.rise_eq _ _ h1 ?_ fun x => ?_
    · simp [u1, u2]
      decide
    · rw [h2]
      simp only [List.mem_cons, List.not_mem_nil, or_false]
      constructor
      · rintro (h | h | h)
        · exact .inr h
        · exact .inl h
        · exact .inr h
      · rintro (h | h)
        · exact .inr (.inl h)
        · exact .inl h
  have hs : ([u2, u1, u2] : List Ids.Txt).all Ids.selector = true := by decide +kernel
  unfold Ids.setOf
  rw [hs, hu]
  rfl
theorem lset_any (w : World) (A : Option Addr) (c : Nat) (h : Ts w A 3 [u2, u1, u2]) : Calls Tryd.prog 14 #[.slice A 3 c] w fun e w' => ∃ A' m c', e = .returned (.tuple #[.slice A' m c', .int .i64 0]) ∧ w'.ownsRow w.heap.size 9 1 (.slice A' m c') m (tv [u1, u2]) ∧ Below w.heap.size w w' := by
  have hs := set_any A 3 c [u2, u1, u2] w h (by omega) (fun e => by obtain ⟨_, _, e2, _⟩ := h.lit (i := 0) (by simp); rw [e] at e2; cases e2) (by decide)
  unfold SetOut at hs
  rw [lSet] at hs
  refine hs.mono ?_
  rintro e w' ⟨A', m, c', rfl, _, h1, h2⟩
  exact ⟨A', m, c', rfl, h1, h2⟩
def lBad : List UInt8 := [47, 97, 47, 46, 46, 47, 98]
theorem lBad_path : Ids.path lBad = false := by decide +kernel

set_option maxRecDepth 100000 in
set_option maxHeartbeats 2000000 in
theorem lives_any (w : World) : Calls Tryd.prog 13 #[] w fun e w' => e = .returned (.bool true) ∧ Below w.heap.size w w' := by
  have hp := parse_any lId w (by decide)
  rw [lId_out] at hp
  have hbad := fun w1 => path_any lBad w1 (by decide)
  rw [lBad_path] at hbad
  go_enter Tryd.func13, Tryd.ntmps13
  go_wp2_with fail
  refine hp.mono ?_
  rintro e w1 ⟨rfl, hb1⟩
  go_wp2_with fail
  have t2 := Ts.new w1 [u2, u1, u2] 9
  obtain ⟨w2, hw2⟩ : ∃ w2, w1.alloc (.cells #[.string ⟨#[117, 105, 100, 58, 50]⟩, .string ⟨#[117, 105, 100, 58, 49]⟩, .string ⟨#[117, 105, 100, 58, 50]⟩] 9) = w2 := ⟨_, rfl⟩
  have hb2 : Below w1.heap.size w1 w2 := by rw [← hw2]; exact (Below.refl _ _).alloc (Nat.le_refl _) _
  have t2' : Ts w2 (some ⟨w1.heap.size, 0, none⟩) 3 [u2, u1, u2] := by rw [← hw2]; exact t2
  rw [hw2]
  clear t2 hw2
  refine (lset_any w2 _ 3 t2').mono ?_
  rintro e w3 ⟨A3, m3, c3, rfl, hown3, hb3⟩
  have t3 : Ts w3 A3 m3 [u1, u2] := Ts.of_own hown3
  have hm3 : m3 = 2 := t3.len.symm
  subst hm3
  clear t2' hown3
  go_wp2_with fail
  have t4 := Ts.new w3 [u1, u2] 9
  obtain ⟨w4, hw4⟩ : ∃ w4, w3.alloc (.cells #[.string ⟨#[117, 105, 100, 58, 49]⟩, .string ⟨#[117, 105, 100, 58, 50]⟩] 9) = w4 := ⟨_, rfl⟩
  have hb4 : Below w3.heap.size w3 w4 := by rw [← hw4]; exact (Below.refl _ _).alloc (Nat.le_refl _) _
  have t4' : Ts w4 (some ⟨w3.heap.size, 0, none⟩) 2 [u1, u2] := by rw [← hw4]; exact t4
  have t3' := t3.below hb4
  rw [hw4]
  clear t4 hw4
  refine (same_any _ _ _ _ _ _ _ _ _ t3' t4' (by omega) (by omega)).mono ?_
  rintro e w5 ⟨rfl, hb5⟩
  have hB : Below w.heap.size w w5 := (((hb1.trans (hb2.mono hb1.size)).trans (hb3.mono (by have := hb1.size; have := hb2.size; omega))).trans (hb4.mono (by have := hb1.size; have := hb2.size; have := hb3.size; omega))).trans (hb5.mono (by have := hb1.size; have := hb2.size; have := hb3.size; have := hb4.size; omega))
  rw [decide_eq_true (rfl : [u1, u2] = [u1, u2])]
  clear t3 t3' t4'
  go_wp2_with fail
  refine (hbad _).mono ?_
  rintro e w6 ⟨rfl, hb6⟩
  go_wp2
  go_ret
  exact ⟨rfl, hB.trans (hb6.mono hB.size)⟩
end Go.Proofs.YtjndogfbhhbfcaaDoor
