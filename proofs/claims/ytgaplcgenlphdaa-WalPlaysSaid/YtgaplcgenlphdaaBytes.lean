/- THE WALK of slices.Clone at []byte; string(b). -/
import Derived.Test.YtgaplcgenlphdaaRows
import Derived.Test.YtgaplcgenlphdaaMem
import Derived.WalkLawsBesides
import Derived.BigQuiet
namespace Go.Proofs.Ytgaplcgenlphdaa
open Go.RowKit Mem

theorem info8 : (Try.prog.info? 5).map (fun i => (i.zero, i.size, i.bytes)) = some (some (.int .u8 0), 1, 1) := by kernel_rfl

theorem ret_bool {a b : Bool} (h : a = b) : Ending.returned (.bool a) = .returned (.bool b) := by rw [h]
theorem ret_int {k : IntKind} {a b : Int} (h : a = b) : Ending.returned (.int k a) = .returned (.int k b) := by rw [h]

/-- 'string(b)'. -/
theorem conv {w : World} {B n : Nat} {A : Option Addr} {l : List UInt8} (h : Bs w B A n l) (c : Nat) : (convert 33 9 (.slice A n c)).run Try.prog w = .ok (.string (str l)) w :=
  run_string h _ _ _ c Try.underlying33 Try.underlying5 Try.underlying9

/-- 's[k:]'. -/
theorem slice_from (w : World) (A : Option Addr) (n c k : Nat) (hk : k ≤ n) : (Instr.slice 33 (.slice A n c) (some (.int .i64 (k : Int))) none none).run Try.prog w = .ok (.slice (dropAt A c k) (n - k) (c - k)) w := by
  have he : Try.prog.elem 33 = 5 := by simp [Program.elem, Try.underlying33]
  have hs : (sizeOf 5).run Try.prog w = .ok 1 w := by
    obtain ⟨i0, hi, _, hz1, _⟩ := info_parts info8
    simp [sizeOf, typeInfo, hi, hz1]
  rw [run_slice_l w 33 A n c (by rw [he]; exact Try.underlying33) .i64 (k : Int) (by omega) (by omega), he, hs]
  simp [Result.andThen, sliced, dropAt]

/-- A []byte of n bytes l, new: what it reads as, and that all that was there is as it was. -/
def Made (w : World) (n : Nat) (l : List UInt8) (e : Ending) (w' : World) : Prop :=
  ∃ A c, e = .returned (.slice A n c) ∧ n ≤ c ∧ c ≤ 9223372036854775807 ∧ w'.ownsRow w.heap.size 5 1 (.slice A n c) n (bv l) ∧ Below w.heap.size w w'

set_option maxHeartbeats 400000 in
theorem clone_any (A : Option Addr) (n c B : Nat) (l : List UInt8) (w : World) (hd : Bs w B A n l) (hn : n ≤ 140737488355328) (hB : B ≤ w.heap.size) :
    Calls Try.prog 39 #[.slice A n c] w (Made w n l) := by
  have hq := fun (W : World) => Lib.run_eql_slice_nil (P := Try.prog) W 33 5 A n c 0 0 Try.underlying33
  cases A with
  | none =>
    have h0 : n = 0 := by
      rcases Nat.eq_zero_or_pos n with h | h
      · exact h
      · obtain ⟨ad, _, e, _⟩ := hd.at_ h
        cases e
    subst h0
    have hl : l = [] := List.eq_nil_of_length_eq_zero hd.len
    subst hl
    go_enter Try.func39, Try.ntmps39
    go_wp2
    go_ret
    exact ⟨none, 0, rfl, Nat.le_refl _, by omega, World.ownsRow_nil _ _ _ _, Below.refl _ _⟩
  | some a =>
    obtain ⟨i0, hi, hz0, hz1, hz2⟩ := info_parts info8
    have hown : (w.alloc (.cells #[] 5)).ownsRow w.heap.size 5 1 (.slice (some ⟨w.heap.size, 0, none⟩) 0 0) 0 [] :=
      World.ownsRow_made w #[] 0 (Nat.le_refl _) (by unfold maxLen; omega) (by simp)
    have hd1 : Vs (w.alloc (.cells #[] 5)) B 1 (some a) n (bv l) := Vs.alloc hd hB _
    have h63 : 0 + n ≤ maxLen := by unfold maxLen; omega
    have hb0 : Below w.heap.size w (w.alloc (.cells #[] 5)) := (Below.refl _ _).alloc (Nat.le_refl _) _
    have hle : w.heap.size ≤ (w.alloc (.cells #[] 5)).heap.size := by simp
    go_enter Try.func39, Try.ntmps39
    go_wp2_with (at_builtin; refine wpList_append _ rfl _ _ 33 rfl w.heap.size 5 i0 (.int .u8 0) 1 1 Try.underlying33 hi hz0 hz1 hz2 rfl (by omega) _ _ _ rfl hown B _ _ _ _ rfl hd1 (bv_oneCell _) h63 (by omega) (by simp) ?_)
    intro A' c' w1 hown1 g1 g2 hgr
    go_wp2
    go_ret
    exact ⟨A', c', rfl, g1, g2, hown1, below_grown hb0 hgr hle hown (Nat.le_refl _)⟩
end Go.Proofs.Ytgaplcgenlphdaa
