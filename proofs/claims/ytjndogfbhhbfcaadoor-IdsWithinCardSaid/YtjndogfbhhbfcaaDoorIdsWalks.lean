/- THE WALKS of IdsParts, IdsParses. -/
import Derived.Test.YtjndogfbhhbfcaaDoorIdsLives
namespace Go.Proofs.YtjndogfbhhbfcaaDoor
open Go.RowKit Mem

set_option maxRecDepth 100000 in
set_option maxHeartbeats 2000000 in
theorem idsParts_walk (l : List UInt8) (w : World) (hl : l.length ≤ 9223372036854775807) : Calls Tryd.prog 7 #[.string (str l)] w fun e w' => e = .returned (.bool true) ∧ Below w.heap.size w w' := by
  have hf := few_any l w hl
  have hT : (l.take 80).length ≤ 9223372036854775807 := by rw [List.length_take]; omega
  generalize l.take 80 = T at *
  have a1 := fun w1 => domain_any T w1 hT
  have a2 := fun w1 => rdomain_any T w1 hT
  have b1 := fun w1 => path_any T w1 hT
  have b2 := fun w1 => rpath_any T w1 hT
  have c1 := fun w1 => agent_any T w1 hT
  have c2 := fun w1 => ragent_any T w1 hT
  have d1 := fun w1 => selector_any T w1 hT
  have d2 := fun w1 => rselector_any T w1 hT
  generalize Ids.domain T = a at *
  generalize Ids.path T = b at *
  generalize Ids.agent T = c at *
  generalize Ids.selector T = d at *
  go_enter Tryd.func7, Tryd.ntmps7
  go_wp2_with fail
  refine hf.mono ?_
  rintro e w' ⟨rfl, rfl⟩
  go_wp2_with fail
  refine (a1 _).mono ?_
  rintro e w1 ⟨rfl, hb1⟩
  go_wp2_with fail
  refine (a2 _).mono ?_
  rintro e w' ⟨rfl, rfl⟩
  go_wp2_with fail
  refine (b1 _).mono ?_
  rintro e w2 ⟨rfl, hb2⟩
  go_wp2_with fail
  refine (b2 _).mono ?_
  rintro e w' ⟨rfl, rfl⟩
  go_wp2_with fail
  refine (c1 _).mono ?_
  rintro e w3 ⟨rfl, hb3⟩
  go_wp2_with fail
  refine (c2 _).mono ?_
  rintro e w' ⟨rfl, rfl⟩
  go_wp2_with fail
  refine (d1 _).mono ?_
  rintro e w' ⟨rfl, q, rfl⟩
  go_wp2_with fail
  refine (d2 _).mono ?_
  rintro e w' ⟨rfl, rfl⟩
  go_wp2_with fail
  refine (lives_any _).mono ?_
  rintro e w4 ⟨rfl, hb4⟩
  go_wp2
  go_ret
  have hB : Below w.heap.size w (w3.drewN q) := ((hb1.trans (hb2.mono hb1.size)).trans (hb3.mono (by have := hb1.size; have := hb2.size; omega))).trans (below_drewM _ _ _)
  exact ⟨rfl, hB.trans (hb4.mono hB.size)⟩

set_option maxRecDepth 100000 in
set_option maxHeartbeats 2000000 in
theorem idsParses_walk (l : List UInt8) (w : World) (hl : l.length ≤ 9223372036854775807) : Calls Tryd.prog 3 #[.string (str l)] w fun e w' => e = .returned (.bool true) ∧ Below w.heap.size w w' := by
  have hf := few_any l w hl
  have hT : (l.take 80).length ≤ 9223372036854775807 := by rw [List.length_take]; omega
  generalize l.take 80 = T at *
  have a1 := fun w1 => parse_any T w1 hT
  have a2 := fun w1 => rparse_any T w1 hT
  unfold IdOut at a1
  unfold ParseOut at a2
  cases hp : Ids.parse T with
  | none =>
    rw [hp] at a1 a2
    have hem : decide (str ([] : List UInt8) = ⟨#[]⟩) = true := empty_str []
    go_enter Tryd.func3, Tryd.ntmps3
    go_wp2_with fail
    refine hf.mono ?_
    rintro e w' ⟨rfl, rfl⟩
    go_wp2_with fail
    refine (a1 _).mono ?_
    rintro e w1 ⟨rfl, hb1⟩
    go_wp2_with fail
    refine (a2 _).mono ?_
    rintro e w2 ⟨rfl, hb2⟩
    go_wp2_with fail
    refine (lives_any _).mono ?_
    rintro e w4 ⟨rfl, hb4⟩
    go_wp2
    go_ret
    have hB : Below w.heap.size w w2 := hb1.trans (hb2.mono hb1.size)
    exact ⟨rfl, hB.trans (hb4.mono hB.size)⟩
  | some x =>
    obtain ⟨D, P⟩ := x
    rw [hp] at a1 a2
    have e1 : (D == D) = true := by simp
    have e2 : (P == P) = true := by simp
    clear hp
    go_enter Tryd.func3, Tryd.ntmps3
    go_wp2_with fail
    refine hf.mono ?_
    rintro e w' ⟨rfl, rfl⟩
    go_wp2_with fail
    refine (a1 _).mono ?_
    rintro e w1 ⟨rfl, hb1⟩
    go_wp2_with fail
    refine (a2 _).mono ?_
    rintro e w2 ⟨rfl, hb2⟩
    go_wp2_with fail
    refine (lives_any _).mono ?_
    rintro e w4 ⟨rfl, hb4⟩
    go_wp2
    go_ret
    have hB : Below w.heap.size w w2 := hb1.trans (hb2.mono hb1.size)
    exact ⟨rfl, hB.trans (hb4.mono hB.size)⟩
end Go.Proofs.YtjndogfbhhbfcaaDoor
