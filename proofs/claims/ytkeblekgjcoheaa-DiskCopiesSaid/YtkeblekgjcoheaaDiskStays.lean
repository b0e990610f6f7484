/- THE WALK of DiskStays. -/
import Derived.Test.YtkeblekgjcoheaaDiskPlays
namespace Go.Proofs.Ytkeblekgjcoheaa
open Go.RowKit Mem

theorem getD_set_ne (L : List (List UInt8)) (i k : Nat) (v : List UInt8) (h : i ≠ k) : (L.set i v).getD k [] = L.getD k [] := by
  simp [List.getD_eq_getElem?_getD, List.getElem?_set_ne h]
theorem write_len (d : DS) (x : Int) (l : List UInt8) : (d.write x l).secs.length = d.secs.length := by
  unfold DS.write
  split
  · rfl
  · split
    · rfl
    · split <;> simp
theorem deed_len (d : DS) (kd x : Int) (l : List UInt8) : (d.deed kd x l).secs.length = d.secs.length := by
  unfold DS.deed
  split
  · exact write_len d x l
  · split
    · rfl
    · split <;> rfl
theorem write_keeps (d : DS) (x : Int) (l : List UInt8) (k : Nat) (h : x ≠ (k : Int)) : (d.write x l).secs.getD k [] = d.secs.getD k [] := by
  unfold DS.write
  split
  · rfl
  · rename_i hb
    unfold DS.bad at hb
    have h0 : 0 ≤ x := by omega
    have h1 : x.toNat ≠ k := by omega
    split
    · rfl
    · split
      · exact getD_set_ne _ _ _ _ h1
      · exact getD_set_ne _ _ _ _ h1
theorem deed_keeps (d : DS) (kd x : Int) (l : List UInt8) (k : Nat) (h : kd = 0 → x ≠ (k : Int)) : (d.deed kd x l).secs.getD k [] = d.secs.getD k [] := by
  unfold DS.deed
  split
  · rename_i h0
    exact write_keeps d x l k (h h0)
  · split
    · rfl
    · split <;> rfl

theorem fresh_write (k : Nat) (l : List UInt8) (hk : k < 8) (hl : l.length ≤ 128) : (DS.fresh 8).writeErr k l = 0 ∧ ((DS.fresh 8).write k l).secs.length = 8 ∧ ((DS.fresh 8).write k l).secs.getD k [] = fill l ∧ ((DS.fresh 8).write k l).writes = 1 := by
  have hb : ¬ (DS.fresh 8).bad k l := by
    unfold DS.bad DS.fresh
    simp
    omega
  have ht : (DS.fresh 8).tears = false := rfl
  refine ⟨?_, ?_, ?_, ?_⟩
  · unfold DS.writeErr
    rw [if_neg hb]
    rfl
  · rw [write_len]; rfl
  · unfold DS.write
    rw [if_neg hb, ht]
    simp [DS.fresh, List.getD_eq_getElem?_getD, hk]
  · unfold DS.write
    rw [if_neg hb, ht]
    rfl
theorem fresh_write_bad (k : Nat) (l : List UInt8) (hl : 128 < l.length) : (DS.fresh 8).writeErr k l = 1 := by
  unfold DS.writeErr
  rw [if_pos (by unfold DS.bad; omega)]

theorem up_read (d : DS) (k : Nat) (hk : k < d.secs.length) : d.up.read (k : Int) = d.secs.getD k [] := by
  unfold DS.read DS.up
  rw [if_neg (by simp; omega), if_neg (by simp)]
  rfl
theorem up_readErr (d : DS) (k : Nat) (hk : k < d.secs.length) : d.up.readErr (k : Int) = 0 := by
  unfold DS.readErr DS.up
  rw [if_neg (by simp; omega), if_neg (by simp)]

end Go.Proofs.Ytkeblekgjcoheaa
