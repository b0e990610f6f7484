/- WHAT CAME IN: a slice of deeds, opened. -/
import Derived.Test.YtkeblekgjcoheaaDiskLives
import Derived.Deep.Slices
import Derived.Deep.Strs
namespace Go.Proofs.Ytkeblekgjcoheaa
open Go.RowKit Mem

/-- A deed, as it lies in memory. -/
structure Deed where
  kd : Int
  x : Int
  A : Option Addr
  n : Nat
  c : Nat
  l : List UInt8

structure Deeds (W : World) (B : Nat) (A : Option Addr) (n : Nat) (L : List Deed) : Prop where
  len : L.length = n
  at_ : ∀ i, (h : i < L.length) → ∃ b o, A = some ⟨b, o, none⟩ ∧ b < B ∧ W.cell? ⟨b, o + i * 3, none⟩ = some (.int .i64 L[i].kd) ∧ W.cell? ⟨b, o + i * 3 + 1, none⟩ = some (.int .i64 L[i].x) ∧ W.cell? ⟨b, o + i * 3 + 2, none⟩ = some (.slice L[i].A L[i].n L[i].c) ∧
    -9223372036854775808 ≤ L[i].x ∧ L[i].x ≤ 9223372036854775807 ∧ L[i].n ≤ L[i].c ∧ Bs W B L[i].A L[i].n L[i].l
theorem Deeds.keep {W W' : World} {B n : Nat} {A : Option Addr} {L : List Deed} (h : Deeds W B A n L) (hk : ∀ p : Addr, p.block < B → W'.cell? p = W.cell? p) : Deeds W' B A n L :=
  ⟨h.len, fun i hi => by
    obtain ⟨b, o, e, hb, c0, c1, c2, x1, x2, x3, x4⟩ := h.at_ i hi
    exact ⟨b, o, e, hb, (hk _ hb).trans c0, (hk _ hb).trans c1, (hk _ hb).trans c2, x1, x2, x3, x4.keep hk⟩⟩

theorem open_bytes {H : Type} {enc : TypeId × Value → H} {P : Program} {W : World} {spare : Nat → Bool} {held : Bool} {t e : TypeId} {fuel : Nat} {cs : List Value} {y : DataW H × List MemPlace}
    (ht : P.underlying t = some (.slice e)) (he : P.underlying e = some (.int .u8)) (hc : P.cellsOf e = 1) (h : DataW.trod enc P W 0 spare held fuel t cs = some y) :
    ∃ A n c l, cs = [.slice A n c] ∧ Bs W W.heap.size A n l ∧ n ≤ c ∧ c ≤ 9223372036854775807 := by
  rcases Go.ChangeShapes.open_ints ht he hc h with ⟨rfl, _⟩ | ⟨x, l, c, zs, rfl, _, hl, hm, hz, _, hcell, hwz⟩
  · exact ⟨none, 0, 0, [], rfl, Bs.empty _ _ _, by omega, by omega⟩
  · have hlz : l ≤ zs.length := by rw [hz]; split <;> omega
    refine ⟨some x, l, c, _, rfl, Bs.of_row (c := zs.length) hlz rfl hcell hwz, hl, by unfold maxLen at hm; omega⟩

theorem list3 {α : Type} {l : List α} (h : l.length = 3) : ∃ a b c, l = [a, b, c] := by
  match l, h with
  | [a, b, c], _ => exact ⟨a, b, c, rfl⟩

theorem add_lit (b o k : Nat) : (⟨b, o, none⟩ : Addr).add k = ⟨b, o + k, none⟩ := by
  unfold Addr.add
  split <;> simp_all
theorem choose_deeds {n : Nat} {q : Nat → Deed → Prop} (h : ∀ i, i < n → ∃ d, q i d) : ∃ f : Nat → Deed, ∀ i, i < n → q i (f i) := by
  classical
  refine ⟨fun i => if hi : i < n then Classical.choose (h i hi) else ⟨0, 0, none, 0, 0, []⟩, fun i hi => ?_⟩
  simp only [dif_pos hi]
  exact Classical.choose_spec (h i hi)

set_option maxRecDepth 100000 in
theorem open_deeds {H : Type} {enc : TypeId × Value → H} {W : World} {spare : Nat → Bool} {held : Bool} {fuel : Nat} {cs : List Value} {y : DataW H × List MemPlace}
    (h : DataW.trod enc Try.prog W 0 spare held fuel 22 cs = some y) :
    ∃ A n c L, cs = [.slice A n c] ∧ Deeds W W.heap.size A n L ∧ n ≤ c ∧ c ≤ 9223372036854775807 := by
  have hc3 : Try.prog.cellsOf 31 = 3 := by kernel_rfl
  rcases Go.Deep.open_slice Try.underlying22 h with ⟨rfl, _⟩ | ⟨a, len, cap, m, n, D, Pl, rfl, _, hl, hm, hmm, _, hx⟩
  · exact ⟨none, 0, 0, [], rfl, ⟨rfl, fun i hi => by simp at hi⟩, by omega, by omega⟩
  · have hlm : len ≤ m := by rw [hmm]; split <;> omega
    have hspot : 0 < len → a.spot = none := by
      intro h0
      obtain ⟨cs', h1, _⟩ := hx 0 (by omega)
      rw [hc3] at h1
      obtain ⟨_, hlen, hcell⟩ := World.cells?_some h1
      obtain ⟨v0, v1, v2, rfl⟩ := list3 hlen
      have f0 := hcell 0 (by omega)
      have := World.cell?_spot f0
      simpa [Addr.add] using this
    have key : ∀ i, i < len → ∃ d : Deed, ∃ b o, a = ⟨b, o, none⟩ ∧ b < W.heap.size ∧ W.cell? ⟨b, o + i * 3, none⟩ = some (.int .i64 d.kd) ∧ W.cell? ⟨b, o + i * 3 + 1, none⟩ = some (.int .i64 d.x) ∧ W.cell? ⟨b, o + i * 3 + 2, none⟩ = some (.slice d.A d.n d.c) ∧
        -9223372036854775808 ≤ d.x ∧ d.x ≤ 9223372036854775807 ∧ d.n ≤ d.c ∧ Bs W W.heap.size d.A d.n d.l := by
      intro i hi
      obtain ⟨cs', h1, h2⟩ := hx i (by omega)
      rw [hc3] at h1
      obtain ⟨_, hlen, hcell⟩ := World.cells?_some h1
      obtain ⟨v0, v1, v2, rfl⟩ := list3 hlen
      obtain ⟨y0, y1, y2, n', _, _, t0, t1, t2⟩ := Go.Deep.trod_struct3 Try.underlying31 h2
      have ci : Try.prog.cellsOf 3 = 1 := by kernel_rfl
      have cb : Try.prog.cellsOf 23 = 1 := by kernel_rfl
      have cu : Try.prog.cellsOf 5 = 1 := by kernel_rfl
      obtain ⟨kd, e0, _, _⟩ := DataW.trod_int Try.underlying3 t0
      obtain ⟨x, e1, _, wx⟩ := DataW.trod_int Try.underlying3 t1
      obtain ⟨A, n2, c2, l, e2, hb, hn, _⟩ := open_bytes Try.underlying23 Try.underlying5 cu t2
      simp [ci] at e0 e1
      simp [cb] at e2
      subst e0 e1 e2
      have f0 := hcell 0 (by omega)
      have f1 := hcell 1 (by omega)
      have f2 := hcell 2 (by omega)
      obtain ⟨b, o, s⟩ := a
      have hsp : s = none := hspot (by omega)
      subst hsp
      rw [add_add] at f0 f1 f2
      rw [add_lit] at f0 f1 f2
      refine ⟨⟨kd, x, A, n2, c2, l⟩, b, o, rfl, World.block_lt_of_cell? W _ f0, f0, by rw [Nat.add_assoc]; exact f1, by rw [Nat.add_assoc]; exact f2, (wf_int wx).1, (wf_int wx).2, hn, hb⟩
    obtain ⟨F, hF⟩ := choose_deeds key
    refine ⟨some a, len, cap, (List.range len).map F, rfl, ⟨by simp, fun i hi => ?_⟩, hl, by unfold maxLen at hm; omega⟩
    have hi' : i < len := by simpa using hi
    obtain ⟨b, o, e, r⟩ := hF i hi'
    refine ⟨b, o, by rw [e], ?_⟩
    simpa using r
end Go.Proofs.Ytkeblekgjcoheaa
