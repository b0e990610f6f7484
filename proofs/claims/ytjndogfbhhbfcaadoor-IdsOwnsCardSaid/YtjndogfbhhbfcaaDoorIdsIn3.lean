/- WHAT CAME IN (ids): a []string, opened. -/
import Derived.Test.YtjndogfbhhbfcaaDoorIdsWalks3
import Derived.Test.YtjndogfbhhbfcaaDoorIdsIn
namespace Go.Proofs.YtjndogfbhhbfcaaDoor
open Go.RowKit Mem

/-- A []string that came in. -/
structure TextsIn (w : World) (A : Option Addr) (n : Nat) (L : List (List UInt8)) : Prop where
  ts : Ts w A n L
  nil : A = none → n = 0
  len : ∀ x ∈ L, x.length ≤ 9223372036854775807
structure Tx where
  l : List UInt8
theorem choose_texts {n : Nat} {q : Nat → Tx → Prop} (h : ∀ i, i < n → ∃ d, q i d) : ∃ f : Nat → Tx, ∀ i, i < n → q i (f i) := by
  classical
  refine ⟨fun i => if hi : i < n then Classical.choose (h i hi) else ⟨[]⟩, fun i hi => ?_⟩
  simp only [dif_pos hi]
  exact Classical.choose_spec (h i hi)
set_option maxRecDepth 100000 in
theorem open_texts {H : Type} {enc : TypeId × Value → H} {W : World} {spare : Nat → Bool} {held : Bool} {fuel : Nat} {cs : List Value} {y : DataW H × List MemPlace}
    (h : DataW.trod enc Tryd.prog W 0 spare held fuel 30 cs = some y) :
    ∃ A n c L, cs = [.slice A n c] ∧ TextsIn W A n L ∧ n ≤ c ∧ c ≤ 9223372036854775807 := by
  have hc1 : Tryd.prog.cellsOf 9 = 1 := by kernel_rfl
  rcases Go.Deep.open_slice Tryd.underlying30 h with ⟨rfl, _⟩ | ⟨a, len, cap, m, n, D, Pl, rfl, _, hl, hm, hmm, _, hx⟩
  · exact ⟨none, 0, 0, [], rfl, ⟨Ts.empty _ _, fun _ => rfl, by simp⟩, by omega, by omega⟩
  · have hlm : len ≤ m := by rw [hmm]; split <;> omega
    have key : ∀ i, i < len → ∃ d : Tx, a.block < W.heap.size ∧ W.cell? (a.add i) = some (.string (str d.l)) ∧ d.l.length ≤ 9223372036854775807 := by
      intro i hi
      obtain ⟨cs', h1, h2⟩ := hx i (by omega)
      rw [hc1, Nat.mul_one] at h1
      obtain ⟨s, e2, _, hs⟩ := DataW.trod_string Tryd.underlying9 h2
      subst e2
      obtain ⟨_, _, hcell⟩ := World.cells?_some h1
      have f0 := hcell 0 (by simp)
      rw [add_add, Nat.add_zero] at f0
      refine ⟨⟨s.data.toList⟩, ?_, ?_, ?_⟩
      · have := World.block_lt_of_cell? W _ f0
        rwa [block_add] at this
      · rw [← str_of s]
        exact f0
      · exact str_len hs
    obtain ⟨F, hF⟩ := choose_texts key
    refine ⟨some a, len, cap, (List.range len).map fun i => (F i).l, rfl, ⟨⟨by rw [tv_length]; simp, fun j u hj => ?_⟩, fun e => (by cases e), fun x hx => ?_⟩, hl, by unfold maxLen at hm; omega⟩
    · have hj' : j < len := by
        have := (List.getElem?_eq_some_iff.1 hj).1
        rw [tv_length] at this
        simpa using this
      obtain ⟨k1, k2, _⟩ := hF j hj'
      simp [tv, hj'] at hj
      subst hj
      exact ⟨a, rfl, k1, k2⟩
    · simp only [List.mem_map, List.mem_range] at hx
      obtain ⟨i, hi, rfl⟩ := hx
      exact (hF i hi).2.2
theorem idsSets_in (A : Option Addr) (n c : Nat) (L : List (List UInt8)) (w : World) (h : TextsIn w A n L) (hn : n ≤ c) (hc : c ≤ 9223372036854775807) : Calls Tryd.prog 4 #[.slice A n c] w fun e w' => e = .returned (.bool true) ∧ Below w.heap.size w w' :=
  idsSets_walk A n c L w h.ts hn hc h.len
theorem idsOwns_in (A : Option Addr) (n c : Nat) (L : List (List UInt8)) (w : World) (h : TextsIn w A n L) (hn : n ≤ c) (hc : c ≤ 9223372036854775807) : Calls Tryd.prog 5 #[.slice A n c] w fun e w' => e = .returned (.bool true) ∧ Below w.heap.size w w' :=
  idsOwns_walk A n c L w h.ts hn hc h.nil h.len
theorem idsWithin_in (A : Option Addr) (n c : Nat) (L : List (List UInt8)) (A' : Option Addr) (n' c' : Nat) (L' : List (List UInt8)) (w : World) (h : TextsIn w A n L) (hn : n ≤ c) (hc : c ≤ 9223372036854775807) (h' : TextsIn w A' n' L') (hn' : n' ≤ c') (hc' : c' ≤ 9223372036854775807) :
    Calls Tryd.prog 9 #[.slice A n c, .slice A' n' c'] w fun e w' => e = .returned (.bool true) ∧ Below w.heap.size w w' :=
  idsWithin_walk A n c L A' n' c' L' w h.ts h'.ts hn hc hn' hc' h.len h'.len
end Go.Proofs.YtjndogfbhhbfcaaDoor
