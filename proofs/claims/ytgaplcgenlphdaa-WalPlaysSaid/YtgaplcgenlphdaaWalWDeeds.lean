/- WHAT CAME IN: a slice of the law's deeds, opened. -/
import Derived.Test.YtgaplcgenlphdaaWalIn
namespace Go.Proofs.Ytgaplcgenlphdaa
open Go.RowKit Mem

/-- A deed, as it lies in memory. -/
structure WDeed where
  kd : Int
  x : Int
  A : Option Addr
  n : Nat
  c : Nat
  R : Wal.Secs
  A' : Option Addr
  n' : Nat
  c' : Nat
  l : List UInt8

structure WDeeds (W : World) (B : Nat) (A : Option Addr) (n : Nat) (L : List WDeed) : Prop where
  len : L.length = n
  at_ : ∀ i, (h : i < L.length) → ∃ b o, A = some ⟨b, o, none⟩ ∧ b < B ∧ W.cell? ⟨b, o + i * 4, none⟩ = some (.int .i64 L[i].kd) ∧ W.cell? ⟨b, o + i * 4 + 1, none⟩ = some (.int .i64 L[i].x) ∧ W.cell? ⟨b, o + i * 4 + 2, none⟩ = some (.slice L[i].A L[i].n L[i].c) ∧ W.cell? ⟨b, o + i * 4 + 3, none⟩ = some (.slice L[i].A' L[i].n' L[i].c') ∧
    -9223372036854775808 ≤ L[i].x ∧ L[i].x ≤ 9223372036854775807 ∧ L[i].n ≤ L[i].c ∧ RsB W B L[i].A L[i].n L[i].R ∧ L[i].n' ≤ L[i].c' ∧ L[i].c' ≤ 9223372036854775807 ∧ Bs W B L[i].A' L[i].n' L[i].l
theorem WDeeds.keep {W W' : World} {B n : Nat} {A : Option Addr} {L : List WDeed} (h : WDeeds W B A n L) (hk : ∀ p : Addr, p.block < B → W'.cell? p = W.cell? p) : WDeeds W' B A n L :=
  ⟨h.len, fun i hi => by
    obtain ⟨b, o, e, hb, c0, c1, c2, c3, x1, x2, x3, x4, x5, x6, x7⟩ := h.at_ i hi
    exact ⟨b, o, e, hb, (hk _ hb).trans c0, (hk _ hb).trans c1, (hk _ hb).trans c2, (hk _ hb).trans c3, x1, x2, x3, x4.keep hk, x5, x6, x7.keep hk⟩⟩
theorem list4 {α : Type} {l : List α} (h : l.length = 4) : ∃ a b c d, l = [a, b, c, d] := by
  match l, h with
  | [a, b, c, d], _ => exact ⟨a, b, c, d, rfl⟩
theorem add_lit4 (b o k : Nat) : (⟨b, o, none⟩ : Addr).add k = ⟨b, o + k, none⟩ := by
  unfold Addr.add
  split <;> simp_all
theorem choose_wdeeds {n : Nat} {q : Nat → WDeed → Prop} (h : ∀ i, i < n → ∃ d, q i d) : ∃ f : Nat → WDeed, ∀ i, i < n → q i (f i) := by
  classical
  refine ⟨fun i => if hi : i < n then Classical.choose (h i hi) else ⟨0, 0, none, 0, 0, [], none, 0, 0, []⟩, fun i hi => ?_⟩
  simp only [dif_pos hi]
  exact Classical.choose_spec (h i hi)

set_option maxRecDepth 100000 in
theorem open_wdeeds {H : Type} {enc : TypeId × Value → H} {W : World} {spare : Nat → Bool} {held : Bool} {fuel : Nat} {cs : List Value} {y : DataW H × List MemPlace}
    (h : DataW.trod enc Try.prog W 0 spare held fuel 44 cs = some y) :
    ∃ A n c L, cs = [.slice A n c] ∧ WDeeds W W.heap.size A n L ∧ n ≤ c ∧ c ≤ 9223372036854775807 := by
  have hc4 : Try.prog.cellsOf 51 = 4 := by kernel_rfl
  rcases Go.Deep.open_slice Try.underlying44 h with ⟨rfl, _⟩ | ⟨a, len, cap, m, n, D, Pl, rfl, _, hl, hm, hmm, _, hx⟩
  · exact ⟨none, 0, 0, [], rfl, ⟨rfl, fun i hi => by simp at hi⟩, by omega, by omega⟩
  · have hlm : len ≤ m := by rw [hmm]; split <;> omega
    have hspot : 0 < len → a.spot = none := by
      intro h0
      obtain ⟨cs', h1, _⟩ := hx 0 (by omega)
      rw [hc4] at h1
      obtain ⟨_, hlen, hcell⟩ := World.cells?_some h1
      obtain ⟨v0, v1, v2, v3, rfl⟩ := list4 hlen
      have f0 := hcell 0 (by omega)
      have := World.cell?_spot f0
      simpa [Addr.add] using this
    have key : ∀ i, i < len → ∃ d : WDeed, ∃ b o, a = ⟨b, o, none⟩ ∧ b < W.heap.size ∧ W.cell? ⟨b, o + i * 4, none⟩ = some (.int .i64 d.kd) ∧ W.cell? ⟨b, o + i * 4 + 1, none⟩ = some (.int .i64 d.x) ∧ W.cell? ⟨b, o + i * 4 + 2, none⟩ = some (.slice d.A d.n d.c) ∧ W.cell? ⟨b, o + i * 4 + 3, none⟩ = some (.slice d.A' d.n' d.c') ∧
        -9223372036854775808 ≤ d.x ∧ d.x ≤ 9223372036854775807 ∧ d.n ≤ d.c ∧ RsB W W.heap.size d.A d.n d.R ∧ d.n' ≤ d.c' ∧ d.c' ≤ 9223372036854775807 ∧ Bs W W.heap.size d.A' d.n' d.l := by
      intro i hi
      obtain ⟨cs', h1, h2⟩ := hx i (by omega)
      rw [hc4] at h1
      obtain ⟨_, hlen, hcell⟩ := World.cells?_some h1
      obtain ⟨v0, v1, v2, v3, rfl⟩ := list4 hlen
      obtain ⟨xs, n', _, _, _, hxs, hf⟩ := DataW.trod_struct Try.underlying51 h2
      obtain ⟨y0, y1, y2, y3, rfl⟩ := list4 hxs
      have t0 := hf 0 _ rfl
      have t1 := hf 1 _ rfl
      have t2 := hf 2 _ rfl
      have t3 := hf 3 _ rfl
      have ci : Try.prog.cellsOf 3 = 1 := by kernel_rfl
      have cb : Try.prog.cellsOf 33 = 1 := by kernel_rfl
      have cr : Try.prog.cellsOf 23 = 1 := by kernel_rfl
      have cu : Try.prog.cellsOf 5 = 1 := by kernel_rfl
      obtain ⟨kd, e0, _, _⟩ := DataW.trod_int Try.underlying3 t0
      obtain ⟨x, e1, _, wx⟩ := DataW.trod_int Try.underlying3 t1
      obtain ⟨A, n2, c2, R, e2, hR, hn, _⟩ := open_recs t2
      obtain ⟨A', n3, c3, l, e3, hb, hn3, hc3⟩ := open_bytes Try.underlying33 Try.underlying5 cu t3
      simp [ci] at e0 e1
      simp [cr] at e2
      simp [cb] at e3
      subst e0 e1 e2 e3
      have f0 := hcell 0 (by omega)
      have f1 := hcell 1 (by omega)
      have f2 := hcell 2 (by omega)
      have f3 := hcell 3 (by omega)
      obtain ⟨b, o, s⟩ := a
      have hsp : s = none := hspot (by omega)
      subst hsp
      rw [add_add] at f0 f1 f2 f3
      rw [add_lit4] at f0 f1 f2 f3
      refine ⟨⟨kd, x, A, n2, c2, R, A', n3, c3, l⟩, b, o, rfl, World.block_lt_of_cell? W _ f0, f0, by rw [Nat.add_assoc]; exact f1, by rw [Nat.add_assoc]; exact f2, by rw [Nat.add_assoc]; exact f3, (wf_int wx).1, (wf_int wx).2, hn, hR, hn3, hc3, hb⟩
    obtain ⟨F, hF⟩ := choose_wdeeds key
    refine ⟨some a, len, cap, (List.range len).map F, rfl, ⟨by simp, fun i hi => ?_⟩, hl, by unfold maxLen at hm; omega⟩
    have hi' : i < len := by simpa using hi
    obtain ⟨b, o, e, r⟩ := hF i hi'
    refine ⟨b, o, by rw [e], ?_⟩
    simpa using r
end Go.Proofs.Ytgaplcgenlphdaa
