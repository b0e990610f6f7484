/- A []string AS IT LIES IN MEMORY. -/
import Derived.Test.YtgalhnobckoneaaGreatDoorMem
import Derived.Test.YtgalhnobckoneaaGreatDoorArr
import Derived.Test.YtgalhnobckoneaaGreatDoorProg
namespace Go.Proofs.YtgalhnobckoneaaGreatDoor
open Go.RowKit Mem

theorem infoT : (Tryz.prog.info? 9).map (fun i => (i.zero, i.size, i.bytes)) = some (some (.string ⟨#[]⟩), 1, 16) := by kernel_rfl
/-- Texts as values. -/
def tv (L : List (List UInt8)) : List Value := L.map fun l => .string (str l)
theorem tv_length (L : List (List UInt8)) : (tv L).length = L.length := by simp [tv]
theorem tv_append (a b : List (List UInt8)) : tv (a ++ b) = tv a ++ tv b := by simp [tv]
theorem tv_at {L : List (List UInt8)} {k : Nat} {u : Value} (h : (tv L)[k]? = some u) (hk : k < L.length) : u = .string (str L[k]) := by
  simp [tv, hk] at h
  exact h.symm
theorem tv_one (L : List (List UInt8)) : ∀ u ∈ tv L, u.oneCell' = true := by
  intro u hu
  simp only [tv, List.mem_map] at hu
  obtain ⟨b, _, rfl⟩ := hu
  rfl
/-- A []string that reads as L. -/
def Ts (w : World) (A : Option Addr) (n : Nat) (L : List (List UInt8)) : Prop := Vs w w.heap.size 1 A n (tv L)
theorem Ts.len {w : World} {A : Option Addr} {n : Nat} {L : List (List UInt8)} (h : Ts w A n L) : L.length = n := by have := Vs.len h; rw [tv_length] at this; omega
theorem Ts.of_own {w : World} {base c n : Nat} {A : Option Addr} {L : List (List UInt8)} {e : TypeId} (h : w.ownsRow base e 1 (.slice A n c) n (tv L)) : Ts w A n L := Vs.of_own h
theorem Ts.lit {w : World} {A : Option Addr} {n : Nat} {L : List (List UInt8)} (h : Ts w A n L) {i : Nat} (hi : i < L.length) : ∃ blk off, A = some ⟨blk, off, none⟩ ∧ w.cell? ⟨blk, off + i, none⟩ = some (.string (str L[i])) := by
  have hl := h.len
  have key : ∀ j, (hj : j < L.length) → ∃ ad, A = some ad ∧ w.cell? (ad.add j) = some (.string (str L[j])) := by
    intro j hj
    have hr : (tv L)[j]? = some (.string (str L[j])) := by simp [tv, hj]
    obtain ⟨ad, e, _, hc⟩ := Vs.rd h j _ hr
    exact ⟨ad, e, hc⟩
  obtain ⟨ad0, e0, c0⟩ := key 0 (by omega)
  have hsp := World.cell?_spot c0
  obtain ⟨ad, e, c⟩ := key i hi
  obtain rfl : ad0 = ad := by rw [e0] at e; injection e
  obtain ⟨b, o, s⟩ := ad0
  simp [Addr.add] at hsp
  subst hsp
  have e9 : (⟨b, o, none⟩ : Addr).add i = ⟨b, o + i, none⟩ := by
    unfold Addr.add; split <;> simp_all
  rw [e9] at c
  exact ⟨b, o, e0, c⟩
theorem Ts.chg {w w' : World} {S : List Nat} {A : Option Addr} {n : Nat} {L : List (List UInt8)} (h : Ts w A n L) (hS : ∀ a, A = some a → 0 < n → a.block ∉ S) (hc : Chg S w w') : Ts w' A n L := by
  refine ⟨Vs.len h, fun j u hj => ?_⟩
  obtain ⟨ad, rfl, hb, hcell⟩ := Vs.rd h j u hj
  have hn : 0 < n := by
    have h1 := (List.getElem?_eq_some_iff.1 hj).1
    have h2 := Vs.len h
    omega
  refine ⟨ad, rfl, Nat.lt_of_lt_of_le hb hc.size, ?_⟩
  rw [hc.cell (by rw [block_add]; exact hb) (by rw [block_add]; exact hS ad rfl hn)]
  exact hcell
theorem Ts.below {w w' : World} {A : Option Addr} {n : Nat} {L : List (List UInt8)} (h : Ts w A n L) (hb : Below w.heap.size w w') : Ts w' A n L := h.chg (S := []) (by simp) (Chg.of_below hb)
theorem Ts.empty (w : World) (A : Option Addr) : Ts w A 0 [] := Vs.empty _ _ _ _
theorem Ts.new (w : World) (L : List (List UInt8)) (e : TypeId) : Ts (w.alloc (.cells (tv L).toArray e)) (some ⟨w.heap.size, 0, none⟩) L.length L := by
  refine ⟨by rw [tv_length]; omega, fun j u hj => ⟨⟨w.heap.size, 0, none⟩, rfl, by simp, ?_⟩⟩
  rw [zero_add_, cell_new, List.getElem?_toArray]
  exact hj
end Go.Proofs.YtgalhnobckoneaaGreatDoor
