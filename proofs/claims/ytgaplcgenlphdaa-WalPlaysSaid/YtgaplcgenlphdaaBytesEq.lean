/- THE WALK of slices.Equal at []byte. -/
import Derived.Test.YtgaplcgenlphdaaBytes
namespace Go.Proofs.Ytgaplcgenlphdaa
open Go.RowKit Mem
theorem below_drewN (w : World) (q : Nat) : Below w.heap.size w (w.drewN q) := ⟨rfl, rfl, rfl, Nat.le_refl _, fun _ _ => rfl⟩
theorem below_drewN2 (w : World) (q r : Nat) : Below w.heap.size w ((w.drewN q).drewN r) := (below_drewN w q).trans ⟨rfl, rfl, rfl, Nat.le_refl _, fun _ _ => rfl⟩
theorem take_ne {l l' : List UInt8} {k : Nat} (h : k < l.length) (h' : k < l'.length) (hc : (((l[k].toNat : Nat) : Int) != ((l'[k].toNat : Nat) : Int)) = true) : false = (l == l') := by
  refine (beq_eq_false_iff_ne.2 ?_).symm
  rintro rfl
  simp at hc
theorem take_eq {l l' : List UInt8} {k : Nat} (h : k < l.length) (h' : k < l'.length) (ht : l.take k = l'.take k) (hc : (((l[k].toNat : Nat) : Int) != ((l'[k].toNat : Nat) : Int)) = false) : l.take (k + 1) = l'.take (k + 1) := by
  have e : l[k] = l'[k] := UInt8.toNat_inj.1 (by have := bne_eq_false_iff_eq.1 hc; omega)
  rw [List.take_succ_eq_append_getElem h, List.take_succ_eq_append_getElem h', ht, e]
theorem take_all {l l' : List UInt8} {k : Nat} (h : l.length ≤ k) (h' : l'.length ≤ k) (ht : l.take k = l'.take k) : true = (l == l') := by
  rw [List.take_of_length_le h, List.take_of_length_le h'] at ht
  subst ht
  simp
theorem len_ne {l l' : List UInt8} (h : l.length ≠ l'.length) : false = (l == l') := by
  refine (beq_eq_false_iff_ne.2 ?_).symm
  rintro rfl
  exact h rfl

set_option maxHeartbeats 400000 in
theorem equal_any (A : Option Addr) (n c B : Nat) (l : List UInt8) (A' : Option Addr) (n' c' B' : Nat) (l' : List UInt8) (w : World) (hd : Bs w B A n l) (hd' : Bs w B' A' n' l') (hn : n ≤ 9223372036854775807) (hn' : n' ≤ 9223372036854775807) :
    Calls Try.prog 43 #[.slice A n c, .slice A' n' c'] w fun e w' => e = .returned (.bool (l == l')) ∧ Below w.heap.size w w' := by
  by_cases hne : n = n'
  · subst hne
    go_enter Try.func43, Try.ntmps43
    go_wp2
    go_loopw [13] (fun i wr => ∃ k : Nat, k ≤ n ∧ i = .int .i64 k ∧ l.take k = l'.take k ∧ ∃ q, wr = w.drewN q) (fun i _ => n - (intOf i).toNat)
    case atStart => exact ⟨0, by omega, rfl, rfl, 0, rfl⟩
    case round =>
      obtain ⟨k, hk, rfl, htk, q, rfl⟩ := hrel
      by_cases hlt : k < n
      · obtain ⟨ad, hl, rfl, hb, hc⟩ := hd.at_ hlt
        obtain ⟨ad', hl', rfl, hb', hc'⟩ := hd'.at_ hlt
        have H := Lib.hid htk
        clear htk
        go_wp2
        go_quiet (fail)
        go_wp2
        · go_ret
          exact ⟨ret_bool (take_ne hl hl' (by assumption)), below_drewN2 _ _ _⟩
        · go_roundw
          case rel => exact ⟨k + 1, by omega, by go_num, take_eq hl hl' H.out (by assumption), _, rfl⟩
          case measure => simp [intOf]; omega
      · go_wp2
        go_ret
        exact ⟨ret_bool (take_all (by rw [hd.len]; omega) (by rw [hd'.len]; omega) htk), below_drewN _ _⟩
  · go_enter Try.func43, Try.ntmps43
    go_wp2
    go_ret
    exact ⟨ret_bool (len_ne (by rw [hd.len, hd'.len]; exact hne)), Below.refl _ _⟩
end Go.Proofs.Ytgaplcgenlphdaa
