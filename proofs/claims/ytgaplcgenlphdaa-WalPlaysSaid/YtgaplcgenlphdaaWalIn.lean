/- WHAT CAME IN: a [][]byte, opened. -/
import Derived.Test.YtgaplcgenlphdaaWalTexts
import Derived.Deep.Slices
import Derived.Deep.Strs
namespace Go.Proofs.Ytgaplcgenlphdaa
open Go.RowKit Mem

theorem open_bytes {H : Type} {enc : TypeId × Value → H} {P : Program} {W : World} {spare : Nat → Bool} {held : Bool} {t e : TypeId} {fuel : Nat} {cs : List Value} {y : DataW H × List MemPlace}
    (ht : P.underlying t = some (.slice e)) (he : P.underlying e = some (.int .u8)) (hc : P.cellsOf e = 1) (h : DataW.trod enc P W 0 spare held fuel t cs = some y) :
    ∃ A n c l, cs = [.slice A n c] ∧ Bs W W.heap.size A n l ∧ n ≤ c ∧ c ≤ 9223372036854775807 := by
  rcases Go.ChangeShapes.open_ints ht he hc h with ⟨rfl, _⟩ | ⟨x, l, c, zs, rfl, _, hl, hm, hz, _, hcell, hwz⟩
  · exact ⟨none, 0, 0, [], rfl, Bs.empty _ _ _, by omega, by omega⟩
  · have hlz : l ≤ zs.length := by rw [hz]; split <;> omega
    refine ⟨some x, l, c, _, rfl, Bs.of_row (c := zs.length) hlz rfl hcell hwz, hl, by unfold maxLen at hm; omega⟩
/-- A slice of bytes, as it lies in memory. -/
structure Bit where
  A : Option Addr
  n : Nat
  c : Nat
  l : List UInt8
theorem choose_bits {n : Nat} {q : Nat → Bit → Prop} (h : ∀ i, i < n → ∃ d, q i d) : ∃ f : Nat → Bit, ∀ i, i < n → q i (f i) := by
  classical
  refine ⟨fun i => if hi : i < n then Classical.choose (h i hi) else ⟨none, 0, 0, []⟩, fun i hi => ?_⟩
  simp only [dif_pos hi]
  exact Classical.choose_spec (h i hi)
set_option maxRecDepth 100000 in
theorem open_recs {H : Type} {enc : TypeId × Value → H} {W : World} {spare : Nat → Bool} {held : Bool} {fuel : Nat} {cs : List Value} {y : DataW H × List MemPlace}
    (h : DataW.trod enc Try.prog W 0 spare held fuel 23 cs = some y) :
    ∃ A n c L, cs = [.slice A n c] ∧ RsB W W.heap.size A n L ∧ n ≤ c ∧ c ≤ 9223372036854775807 := by
  have hc1 : Try.prog.cellsOf 33 = 1 := by kernel_rfl
  have cu : Try.prog.cellsOf 5 = 1 := by kernel_rfl
  rcases Go.Deep.open_slice Try.underlying23 h with ⟨rfl, _⟩ | ⟨a, len, cap, m, n, D, Pl, rfl, _, hl, hm, hmm, _, hx⟩
  · exact ⟨none, 0, 0, [], rfl, ⟨rfl, fun i hi => by simp at hi⟩, by omega, by omega⟩
  · have hlm : len ≤ m := by rw [hmm]; split <;> omega
    have key : ∀ i, i < len → ∃ d : Bit, a.block < W.heap.size ∧ W.cell? (a.add i) = some (.slice d.A d.n d.c) ∧ d.n ≤ d.c ∧ d.c ≤ 9223372036854775807 ∧ Bs W W.heap.size d.A d.n d.l := by
      intro i hi
      obtain ⟨cs', h1, h2⟩ := hx i (by omega)
      rw [hc1, Nat.mul_one] at h1
      obtain ⟨A, n2, c2, l, e2, hb, hn, hn2⟩ := open_bytes Try.underlying33 Try.underlying5 cu h2
      subst e2
      obtain ⟨_, _, hcell⟩ := World.cells?_some h1
      have f0 := hcell 0 (by simp)
      rw [add_add, Nat.add_zero] at f0
      refine ⟨⟨A, n2, c2, l⟩, ?_, f0, hn, hn2, hb⟩
      have := World.block_lt_of_cell? W _ f0
      rwa [block_add] at this
    obtain ⟨F, hF⟩ := choose_bits key
    refine ⟨some a, len, cap, (List.range len).map fun i => (F i).l, rfl, ⟨by simp, fun i hi => ?_⟩, hl, by unfold maxLen at hm; omega⟩
    have hi' : i < len := by simpa using hi
    obtain ⟨k1, k2, k3, k4, k5⟩ := hF i hi'
    exact ⟨a, (F i).A, (F i).n, (F i).c, rfl, k1, k2, k3, k4, by simpa using k5⟩
end Go.Proofs.Ytgaplcgenlphdaa
