/- THE WALKS of slices.Clone and slices.Equal at []byte. -/
import Derived.Test.YtjjgejdblibkmaaRows
import Derived.Test.YtjjgejdblibkmaaMem
import Derived.WalkLawsBesides
import Derived.BigQuiet
namespace Go.Proofs.Ytjjgejdblibkmaa
open Go.RowKit Mem

theorem info8 : (Try.prog.info? 5).map (fun i => (i.zero, i.size, i.bytes)) = some (some (.int .u8 0), 1, 1) := by kernel_rfl

theorem ret_bool {a b : Bool} (h : a = b) : Ending.returned (.bool a) = .returned (.bool b) := by rw [h]
theorem ret_int {k : IntKind} {a b : Int} (h : a = b) : Ending.returned (.int k a) = .returned (.int k b) := by rw [h]

/-- 'string(b)'. -/
theorem conv {w : World} {B n : Nat} {A : Option Addr} {l : List UInt8} (h : Bs w B A n l) (c : Nat) : (convert 22 9 (.slice A n c)).run Try.prog w = .ok (.string (str l)) w :=
  run_string h _ _ _ c Try.underlying22 Try.underlying5 Try.underlying9

/-- 's[k:]'. -/
theorem slice_from (w : World) (A : Option Addr) (n c k : Nat) (hk : k ≤ n) : (Instr.slice 22 (.slice A n c) (some (.int .i64 (k : Int))) none none).run Try.prog w = .ok (.slice (dropAt A c k) (n - k) (c - k)) w := by
  have he : Try.prog.elem 22 = 5 := by simp [Program.elem, Try.underlying22]
  have hs : (sizeOf 5).run Try.prog w = .ok 1 w := by
    obtain ⟨i0, hi, _, hz1, _⟩ := info_parts info8
    simp [sizeOf, typeInfo, hi, hz1]
  rw [run_slice_l w 22 A n c (by rw [he]; exact Try.underlying22) .i64 (k : Int) (by omega) (by omega), he, hs]
  simp [Result.andThen, sliced, dropAt]

/-- A []byte of n bytes l, new: what it reads as, and that all that was there is as it was. -/
def Made (w : World) (n : Nat) (l : List UInt8) (e : Ending) (w' : World) : Prop :=
  ∃ A c, e = .returned (.slice A n c) ∧ n ≤ c ∧ c ≤ 9223372036854775807 ∧ w'.ownsRow w.heap.size 5 1 (.slice A n c) n (bv l) ∧ Below w.heap.size w w'

set_option maxHeartbeats 400000 in
theorem clone_any (A : Option Addr) (n c B : Nat) (l : List UInt8) (w : World) (hd : Bs w B A n l) (hn : n ≤ 140737488355328) (hB : B ≤ w.heap.size) :
    Calls Try.prog 17 #[.slice A n c] w (Made w n l) := by
  have hq := fun (W : World) => Lib.run_eql_slice_nil (P := Try.prog) W 22 5 A n c 0 0 Try.underlying22
  cases A with
  | none =>
    have h0 : n = 0 := by
      rcases Nat.eq_zero_or_pos n with h | h
      · exact h
      · obtain ⟨ad, _, e, _⟩ := hd.at_ h
        cases e
    subst h0
    have hl : l = [] := List.eq_nil_of_length_eq_zero hd.len
    subst hl
    go_enter Try.func17, Try.ntmps17
    go_wp2
    go_ret
    exact ⟨none, 0, rfl, Nat.le_refl _, by omega, World.ownsRow_nil _ _ _ _, Below.refl _ _⟩
  | some a =>
    obtain ⟨i0, hi, hz0, hz1, hz2⟩ := info_parts info8
    have hown : (w.alloc (.cells #[] 5)).ownsRow w.heap.size 5 1 (.slice (some ⟨w.heap.size, 0, none⟩) 0 0) 0 [] :=
      World.ownsRow_made w #[] 0 (Nat.le_refl _) (by unfold maxLen; omega) (by simp)
    have hd1 : Vs (w.alloc (.cells #[] 5)) B 1 (some a) n (bv l) := Vs.alloc hd hB _
    have h63 : 0 + n ≤ maxLen := by unfold maxLen; omega
    have hb0 : Below w.heap.size w (w.alloc (.cells #[] 5)) := (Below.refl _ _).alloc (Nat.le_refl _) _
    have hle : w.heap.size ≤ (w.alloc (.cells #[] 5)).heap.size := by simp
    go_enter Try.func17, Try.ntmps17
    go_wp2_with (at_builtin; refine wpList_append _ rfl _ _ 22 rfl w.heap.size 5 i0 (.int .u8 0) 1 1 Try.underlying22 hi hz0 hz1 hz2 rfl (by omega) _ _ _ rfl hown B _ _ _ _ rfl hd1 (bv_oneCell _) h63 (by omega) (by simp) ?_)
    intro A' c' w1 hown1 g1 g2 hgr
    go_wp2
    go_ret
    exact ⟨A', c', rfl, g1, g2, hown1, below_grown hb0 hgr hle hown (Nat.le_refl _)⟩

theorem below_drewN (w : World) (q : Nat) : Below w.heap.size w (w.drewN q) := ⟨rfl, rfl, rfl, Nat.le_refl _, fun _ _ => rfl⟩
theorem below_drewN2 (w : World) (q r : Nat) : Below w.heap.size w ((w.drewN q).drewN r) := (below_drewN w q).trans ⟨rfl, rfl, rfl, Nat.le_refl _, fun _ _ => rfl⟩
theorem take_ne {l l' : List UInt8} {k : Nat} (h : k < l.length) (h' : k < l'.length) (hc : (((l[k].toNat : Nat) : Int) != ((l'[k].toNat : Nat) : Int)) = true) : false = (l == l') := by
  refine (beq_eq_false_iff_ne.2 ?_).symm
  rintro rfl
  simp at hc
theorem take_eq {l l' : List UInt8} {k : Nat} (h : k < l.length) (h' : k < l'.length) (ht : l.take k = l'.take k) (hc : (((l[k].toNat : Nat) : Int) != ((l'[k].toNat : Nat) : Int)) = false) : l.take (k + 1) = l'.take (k + 1) := by
  have e : l[k] = l'[k] := UInt8.toNat_inj.1 (by have := bne_eq_false_iff_eq.1 hc; omega)
  rw [List.take_succ_eq_append_getElem h, List.take_succ_eq_append_getElem h', ht, e]
theorem take_all {l l' : List UInt8} {k : Nat} (h : l.length ≤ k) (h' : l'.length ≤ k) (ht : l.take k = l'.take k) : true = (l == l') := by
  rw [List.take_of_length_le h, List.take_of_length_le h'] at ht
  subst ht
  simp
theorem len_ne {l l' : List UInt8} (h : l.length ≠ l'.length) : false = (l == l') := by
  refine (beq_eq_false_iff_ne.2 ?_).symm
  rintro rfl
  exact h rfl

set_option maxHeartbeats 400000 in
theorem equal_any (A : Option Addr) (n c B : Nat) (l : List UInt8) (A' : Option Addr) (n' c' B' : Nat) (l' : List UInt8) (w : World) (hd : Bs w B A n l) (hd' : Bs w B' A' n' l') (hn : n ≤ 9223372036854775807) (hn' : n' ≤ 9223372036854775807) :
    Calls Try.prog 18 #[.slice A n c, .slice A' n' c'] w fun e w' => e = .returned (.bool (l == l')) ∧ Below w.heap.size w w' := by
  by_cases hne : n = n'
  · subst hne
    go_enter Try.func18, Try.ntmps18
    go_wp2
    go_loopw [13] (fun i wr => ∃ k : Nat, k ≤ n ∧ i = .int .i64 k ∧ l.take k = l'.take k ∧ ∃ q, wr = w.drewN q) (fun i _ => n - (intOf i).toNat)
    case atStart => exact ⟨0, by omega, rfl, rfl, 0, rfl⟩
    case round =>
      obtain ⟨k, hk, rfl, htk, q, rfl⟩ := hrel
      by_cases hlt : k < n
      · obtain ⟨ad, hl, rfl, hb, hc⟩ := hd.at_ hlt
        obtain ⟨ad', hl', rfl, hb', hc'⟩ := hd'.at_ hlt
        have H := Lib.hid htk
        clear htk
        go_wp2
        go_quiet (fail)
        go_wp2
        · go_ret
          exact ⟨ret_bool (take_ne hl hl' (by assumption)), below_drewN2 _ _ _⟩
        · go_roundw
          case rel => exact ⟨k + 1, by omega, by go_num, take_eq hl hl' H.out (by assumption), _, rfl⟩
          case measure => simp [intOf]; omega
      · go_wp2
        go_ret
        exact ⟨ret_bool (take_all (by rw [hd.len]; omega) (by rw [hd'.len]; omega) htk), below_drewN _ _⟩
  · go_enter Try.func18, Try.ntmps18
    go_wp2
    go_ret
    exact ⟨ret_bool (len_ne (by rw [hd.len, hd'.len]; exact hne)), Below.refl _ _⟩
end Go.Proofs.Ytjjgejdblibkmaa
