/- strings.Split at '/', off the library's contracts. -/
import Derived.Test.YtmbpnkacggngkaaGreatDoorIdsSel
import Derived.Test.YtmbpnkacggngkaaGreatDoorTexts
import Derived.Shelf.Strings.SplitCore
namespace Go.Proofs.YtmbpnkacggngkaaGreatDoor
open Go.RowKit Mem

theorem splitB_pieces (l : List UInt8) : (Lib.splitB ⟨#[47]⟩ 0 (Lib.countB (str l) ⟨#[47]⟩) (str l)).map Value.string = tv (Ids.pieces l) := by
  have h1 := Lib.splitB_data ⟨#[47]⟩ 0 (Lib.countB (str l) ⟨#[47]⟩) (str l)
  have h2 : Lib.countB (str l) ⟨#[47]⟩ = l.count 47 := Lib.count_one 47 l
  rw [h2] at h1 ⊢
  rw [show (str l).data.toList = l from rfl, show ((⟨#[47]⟩ : ByteArray).data.toList) = [47] from rfl, Ids.pieces_split] at h1
  rw [← h1]
  unfold tv
  rw [List.map_map]
  apply List.map_congr_left
  intro b _
  rfl
set_option maxRecDepth 100000 in
theorem split_any (l : List UInt8) (w : World) (hl : l.length ≤ 4000000000) : Calls Tryz.prog 190 #[.string (str l), .string ⟨#[47]⟩] w fun e w' =>
    e = .returned (.slice (some ⟨w.heap.size, 0, none⟩) (Ids.pieces l).length (Ids.pieces l).length) ∧ w' = w.alloc (.cells (tv (Ids.pieces l)).toArray 9) := by
  have hsz := str_size l
  have h1 : 1 ≤ (⟨#[47]⟩ : ByteArray).size := by decide
  have hle := Lib.countB_le ⟨#[47]⟩ h1 (str l).size (str l) (Nat.le_refl _)
  have hlen := Lib.splitB_all ⟨#[47]⟩ h1 0 _ (str l) rfl
  have hlen2 : (Ids.pieces l).length = Lib.countB (str l) ⟨#[47]⟩ + 1 := by
    rw [← hlen, ← tv_length, ← splitB_pieces, List.length_map]
  have c := Any.strings_genSplit_core Tryz.lays221 (by kernel_rfl) (str l) ⟨#[47]⟩ 0 (-1) (Lib.countB (str l) ⟨#[47]⟩ + 1) w (by omega) h1 (Nat.zero_le _)
    (fun x cs _ => (Any.strings_Index_one Tryz.lays143 x 47 _).mono fun e w' ⟨he, hw⟩ => ⟨by rw [he]; congr 2; exact (Lib.index_one x.data.toList 47).symm, hw⟩)
    ((Any.strings_Count_one Tryz.lays138 (str l) 47 w).mono fun e w' ⟨he, hw⟩ => ⟨by rw [he]; congr 3; exact (Lib.count_one 47 l).symm, hw⟩)
    (by decide) (by decide) (by rw [if_pos (by decide)]; omega)
  rw [Nat.add_sub_cancel, hlen] at c
  have e2 : Lib.cellsOf (Lib.splitB ⟨#[47]⟩ 0 (Lib.countB (str l) ⟨#[47]⟩) (str l)) (Lib.countB (str l) ⟨#[47]⟩ + 1) = (tv (Ids.pieces l)).toArray := by rw [← splitB_pieces, ← hlen]; exact Lib.cellsOf_full _
  rw [e2, ← hlen2] at c
  clear e2 hlen hle hlen2
  generalize tv (Ids.pieces l) = T at *
  generalize (Ids.pieces l).length = n at *
  go_enter Tryz.func190, Tryz.ntmps190
  go_wp2_with fail
  refine c.mono ?_
  rintro e w' ⟨rfl, hw⟩
  rw [hw]
  go_wp2
  go_ret
  exact ⟨rfl, rfl⟩
theorem has_any (l : List UInt8) (w : World) : Calls Tryz.prog 140 #[.string (str l), .string ⟨#[47]⟩] w fun e w' => e = .returned (.bool (l.contains 47)) ∧ w' = w := by
  refine (Tryz.strings_Contains_one (str l) 47 w).mono ?_
  rintro e w' ⟨rfl, rfl⟩
  refine ⟨?_, rfl⟩
  congr 2
  rw [show (str l).data.toList = l from rfl, Ids.indexByte_till, Bool.eq_iff_iff]
  simp only [decide_eq_true_eq, List.contains_iff_mem]
  rw [← Ids.till_lt]
  split <;> omega
theorem pre_any (p l : List UInt8) (w : World) : Calls Tryz.prog 139 #[.string (str l), .string (str p)] w fun e w' => e = .returned (.tuple (if p.isPrefixOf l then #[.string (str (l.drop p.length)), .bool true] else #[.string (str l), .bool false])) ∧ w' = w := by
  refine (Tryz.strings_CutPrefix (str l) (str p) w).mono ?_
  rintro e w' ⟨rfl, rfl⟩
  refine ⟨?_, rfl⟩
  unfold Lib.trimPrefix Lib.hasPrefix
  rw [show (str l).data.toList = l from rfl, show (str p).data.toList = p from rfl]
  cases h : p.isPrefixOf l
  · rfl
  · rfl
theorem head_any (p l : List UInt8) (w : World) : Calls Tryz.prog 164 #[.string (str l), .string (str p)] w fun e w' => e = .returned (.bool (p.isPrefixOf l)) ∧ w' = w := by
  refine (Tryz.strings_HasPrefix (str l) (str p) w).mono ?_
  rintro e w' ⟨rfl, rfl⟩
  exact ⟨rfl, rfl⟩
end Go.Proofs.YtmbpnkacggngkaaGreatDoor
