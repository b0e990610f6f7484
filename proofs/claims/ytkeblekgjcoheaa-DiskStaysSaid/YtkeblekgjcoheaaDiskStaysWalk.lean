/- THE WALK of DiskStays: both signs of k. -/
import Derived.Test.YtkeblekgjcoheaaDiskStaysPos
import Derived.Test.YtkeblekgjcoheaaDiskStaysNeg
namespace Go.Proofs.Ytkeblekgjcoheaa
open Go.RowKit Mem

theorem diskStays_walk (A : Option Addr) (n c : Nat) (L : List Deed) (x : Int) (B : Option Addr) (n2 c2 : Nat) (l2 : List UInt8) (w : World) (hd : Deeds w w.heap.size A n L) (hn : n ≤ c) (_hc : c ≤ 9223372036854775807)
    (wx : (Lit.int .i64 x).wf = true) (hd2 : Bs w w.heap.size B n2 l2) (hn2 : n2 ≤ c2) (_hc2 : c2 ≤ 9223372036854775807) :
    Calls Try.prog 3 #[.slice A n c, .int .i64 x, .slice B n2 c2] w fun e w' => e = .returned (.bool true) ∧ Below w.heap.size w w' := by
  obtain ⟨hx1, hx2⟩ := wf_int wx
  by_cases h : 0 ≤ x
  · obtain ⟨m, rfl⟩ := Int.eq_ofNat_of_zero_le h
    exact stays_pos m (m % 8) (by omega) (by omega) (Lib.hid (by omega)) A n c L B n2 c2 l2 w hd hn hd2 hn2
  · obtain ⟨m, hm⟩ := Int.eq_ofNat_of_zero_le (show 0 ≤ -x - 1 by omega)
    obtain rfl : x = -(m : Int) - 1 := by omega
    exact stays_neg m (m % 8) (by omega) (by omega) (Lib.hid (by omega)) A n c L B n2 c2 l2 w hd hn hd2 hn2
end Go.Proofs.Ytkeblekgjcoheaa
