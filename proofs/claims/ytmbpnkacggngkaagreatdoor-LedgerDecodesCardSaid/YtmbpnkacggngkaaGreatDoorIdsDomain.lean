/- THE WALKS of ids.Domain and ids.Selector, off the library's contracts. -/
import Derived.Test.YtmbpnkacggngkaaGreatDoorIdsRef3
import Derived.Test.YtmbpnkacggngkaaGreatDoorShelf
import Derived.Shelf.Strings.SlTrimAscii
namespace Go.Proofs.YtmbpnkacggngkaaGreatDoor
open Go.RowKit Mem

theorem infoAscii : (Tryz.prog.info? (Tryz.lays160_ren.t 116)).map (fun i => (i.zero, i.size)) = some (some (.agg (Array.replicate 256 (.bool false))), 256) := by kernel_rfl
theorem trim_any (l : List UInt8) (w : World) (hl : l.length ≤ 9223372036854775807) :
    Calls Tryz.prog 225 #[.string (str l), .string ⟨#[46, 45]⟩] w fun e w' => e = .returned (.string (str (Lib.trimS l [46, 45]))) ∧ Below w.heap.size w w' := by
  refine (Any.strings_Trim_laid Tryz.lays160 infoAscii (str l) ⟨#[46, 45]⟩ w (by rw [str_size]; omega) (by decide) (ascii_of_all (by decide))).mono ?_
  rintro e w' ⟨rfl, hb⟩
  exact ⟨rfl, hb⟩
theorem inner_tells : Tells 191 Ids.inner := inner_any
theorem trim_beq (l : List UInt8) : (Lib.trimS l [46, 45] == l) = !Ids.edged l := by
  rw [Bool.eq_iff_iff]
  simp only [beq_iff_eq, Bool.not_eq_true']
  exact Ids.trim_same l

set_option maxRecDepth 100000 in
theorem domain_any (l : List UInt8) (w : World) (hl : l.length ≤ 9223372036854775807) : Calls Tryz.prog 196 #[.string (str l)] w fun e w' => e = .returned (.bool (Ids.domain l)) ∧ Below w.heap.size w w' := by
  have hsz := str_size l
  have hall := all_any inner_tells (enters_of Tryz.func191 (by kernel_rfl) rfl) l w hl
  have htr := trim_any l w hl
  have hbq := trim_beq l
  unfold Ids.domain
  obtain ⟨N, hN⟩ : ∃ N, l.length = N := ⟨_, rfl⟩
  rw [hN] at hsz ⊢
  clear hN hl
  generalize Lib.trimS l [46, 45] = T at *
  generalize Ids.allOf Ids.inner l = a at *
  generalize Ids.edged l = b at *
  by_cases h16 : N ≤ 16
  · cases a
    · go_enter Tryz.func196, Tryz.ntmps196
      go_wp2_with fail
      refine hall.mono ?_
      rintro e w' ⟨rfl, rfl⟩
      go_wp2
      go_ret
      exact ⟨by simp, Below.refl _ _⟩
    · cases b
      all_goals
        simp only [Bool.not_false, Bool.not_true] at hbq
        go_enter Tryz.func196, Tryz.ntmps196
        go_wp2_with fail
        refine hall.mono ?_
        rintro e w' ⟨rfl, rfl⟩
        go_wp2_with fail
        refine htr.mono ?_
        rintro e w1 ⟨rfl, hb1⟩
        go_wp2
        go_ret
        exact ⟨by simp; try omega, hb1⟩
  · go_enter Tryz.func196, Tryz.ntmps196
    go_wp2
    go_ret
    exact ⟨by simp; try omega, Below.refl _ _⟩
end Go.Proofs.YtmbpnkacggngkaaGreatDoor
