/- Mem, LedIn, LedIns (put together by bundle.py: only what is needed). -/
import Derived.WalkKit
import Derived.ProofKit
import Derived.OpenShut
import Derived.Lib.Hide
import Derived.Laws.OwnMore
import Derived.Maps.AppendAt
import Derived.Deep.Draws
import Derived.Deep.AppendLies
import Derived.Lib.SlBytesConst
import Derived.Laws.BytesArg
import Derived.RegionTactic
import Derived.OwnWalk
import Derived.Laws.IdiomCopy
import Derived.WalkLawsBesides
import Derived.Test.YtmbpnkacggngkaaGreatDoorProg
import Derived.Laws.Rows
import Derived.Lib.AppendStr
import Derived.Deep.RegionLaw
import Derived.Deep.DeepMust
import Derived.Laws.BitsLemmas
import Derived.BigRegion
import Derived.BigQuiet
import Derived.Deep.RegionWith
import Derived.Lib.Strings
import Derived.Deep.Slices
import Derived.Deep.Strs
import Derived.RowKit
import Derived.Deep.RegionHeld3
import Derived.Deep.CutBlock
import Derived.Deep.DeepCutAuto
import Derived.Deep.Quiet
import Derived.StillTail
import Derived.Below
import Derived.Laws.DeepStrings4
import Derived.Laws.IdiomStrings
import Derived.Laws.StructEq
import Derived.Lib.Split
import Derived.Lib.SplitLaws
import Derived.Lib.IndexBytes
import Derived.Lib.SlTrimSet
import Derived.Lib.SlicesCompact
import Derived.Sort.Walk0
import Derived.Laws.CopyOwn
import Derived.Lib.AppendZerosOnto
import Derived.Lib.AppendZeros
import Derived.Lib.Overlaps
import Derived.Lib.SliceRun
import Derived.Shelf.RegionOpenPlain
import Derived.Shelf.Strings.Builder1
import Derived.Shelf.Strings.Trim
import Derived.Shelf.Small.Utf8
import Derived.Shelf.Small.Bits
import Derived.Shelf.Small.Strs
import Derived.Shelf.Small.Wraps
import Derived.Shelf.Utf8.RuneCount
import Derived.Shelf.Strconv.Itoa0
import Derived.Shelf.Strings.Search1
import Derived.Shelf.Strings.Search2
import Derived.Shelf.Strings.Search3
import Derived.Shelf.Strings.Cut
import Derived.Shelf.Strings.Count
import Derived.Shelf.LaysM
import Derived.Shelf.Strings.Shaped
import Derived.Shelf.Sort.Plain
import Derived.Shelf.Strings.Prefix
import Derived.Shelf.Strings.Split
import Derived.Shelf.Strings.SplitShaped
import Derived.Shelf.Unicode.Decode
import Derived.Shelf.Strings.Runes
import Derived.Shelf.Strings.RuneCount
import Derived.Shelf.Strings.AsciiSet
import Derived.Shelf.Strings.Explode
import Derived.Shelf.Unicode.DecodeSlow
import Derived.Shelf.Unicode.DecodeAny
import Derived.Shelf.Unicode.DecodeLast
import Derived.Shelf.Slices.Turned
import Derived.Shelf.Slices.Equal
import Derived.Ground.Names2Prog
import Derived.Shelf.Slices.ReverseS
import Derived.Shelf.Slices.Clone
import Derived.Shelf.Slices.CompactS
import Derived.Shelf.Slices.Delete
import Derived.Shelf.Slices.Cells
import Derived.Shelf.Slices.In.SortNone
import Derived.Shelf.Slices.Empties
import Derived.Shelf.Slices.Empties2
import Derived.Ground.SlgnProg
import Derived.Shelf.SlicesE.Clone
import Derived.Shelf.Strings.SlTrimAscii
import Derived.Shelf.Strings.SplitCore
import Derived.RangeFuncNested
import Derived.RangeFuncBound
import Derived.RangeFuncCalls
import Derived.RangeFuncLeaves
import Derived.Shelf.Abstract
import Derived.Shelf.RegionOpen
import Derived.OwnWalkIn
import Derived.OrdersHeld
import Derived.TacticsInMore
import Derived.LoopNIn
import Derived.LoopIn
import Derived.Laws.NewBlocks
import Derived.Lib.OwnBridge
import Derived.Sort.OwnSorted
import Derived.Test.YtmbpnkacggngkaaGreatDoorLBLedOnce
section
namespace Go.Proofs.YtmbpnkacggngkaaGreatDoor
namespace Mem
open Go.RowKit
theorem wf_int {x : Int} (h : (Lit.int .i64 x).wf = true) : -9223372036854775808 ≤ x ∧ x ≤ 9223372036854775807 := by
 simp [Lit.wf, IntKind.min, IntKind.max, IntKind.signed, IntKind.bits] at h
 exact h
section
variable {w w' : World} {B B' size n : Nat} {A : Option Addr} {xs : List Value}
end
section
variable {w w' : World} {B B' n : Nat} {A : Option Addr} {l : List UInt8}
end
end Mem
end Go.Proofs.YtmbpnkacggngkaaGreatDoor
end
section
namespace Go.Proofs.YtmbpnkacggngkaaGreatDoor
open Go.RowKit Mem Led
abbrev Trod {H : Type} (enc : TypeId × Value → H) (W : World) (spare : Nat → Bool) (held : Bool) (t : TypeId) (cs : List Value) : Prop :=
 ∃ fuel y, DataW.trod enc Tryz.prog W 0 spare held fuel t cs = some y
section
variable {H : Type} {enc : TypeId × Value → H} {W : World} {spare : Nat → Bool} {held : Bool} {t : TypeId} {cs : List Value}
theorem Trod.field {fs : Array Field} (h : Trod enc W spare held t cs) (ht : Tryz.prog.underlying t = some (.struct fs)) :
  cs.length = Tryz.prog.cellsOf t ∧ ∀ (i : Nat) (f : Field), fs[i]? = some f → Trod enc W spare held f.type ((cs.drop f.offset).take (Tryz.prog.cellsOf f.type)) := by
 obtain ⟨fuel, y, h⟩ := h
 obtain ⟨xs, n, _, rfl, hl, hlen, hf⟩ := DataW.trod_struct ht h
 refine ⟨hl, fun i f hi => ?_⟩
 have hix : i < xs.length := by
  rw [hlen]
  rcases Nat.lt_or_ge i fs.size with h | h
  ·exact h
  ·rw [Array.getElem?_eq_none h] at hi
   cases hi
 exact ⟨n, xs[i], by rw [hf i f hi, List.getElem?_eq_getElem hix]⟩
theorem Trod.num (h : Trod enc W spare held t cs) (ht : Tryz.prog.underlying t = some (.int .i64)) : ∃ x, cs = [nm x] ∧ I64 x := by
 obtain ⟨fuel, y, h⟩ := h
 obtain ⟨x, rfl, _, wx⟩ := DataW.trod_int ht h
 exact ⟨x, rfl, wf_int wx⟩
theorem Trod.text (h : Trod enc W spare held t cs) (ht : Tryz.prog.underlying t = some .string) : ∃ l : Txt, cs = [tx l] ∧ l.length ≤ 9223372036854775807 := by
 obtain ⟨fuel, y, h⟩ := h
 obtain ⟨s, rfl, _, hs⟩ := DataW.trod_string ht h
 refine ⟨s.data.toList, ?_, ?_⟩
 ·cases s
  simp [tx, str]
 ·unfold maxLen at hs
  have : s.data.toList.length = s.size := (Lib.size_eq s).symm
  rw [this]
  exact hs
theorem Trod.flag (h : Trod enc W spare held t cs) (ht : Tryz.prog.underlying t = some .bool) : ∃ b, cs = [.bool b] := by
 obtain ⟨fuel, y, h⟩ := h
 obtain ⟨b, rfl, _⟩ := DataW.trod_bool ht h
 exact ⟨b, rfl⟩
theorem Trod.slice {e : TypeId} (h : Trod enc W spare held t cs) (ht : Tryz.prog.underlying t = some (.slice e)) :
  ∃ A n c, cs = [.slice A n c] ∧ n ≤ c ∧ c ≤ 9223372036854775807 ∧ ∀ i, i < n → ∃ a cs', A = some a ∧ cs'.length = Tryz.prog.cellsOf e ∧ (∀ j u, cs'[j]? = some u → W.cell? (a.add (i * Tryz.prog.cellsOf e + j)) = some u) ∧ Trod enc W spare held e cs' := by
 obtain ⟨fuel, y, h⟩ := h
 rcases Go.Deep.open_slice ht h with ⟨rfl, _⟩ | ⟨a, len, cap, m, n, D, Pl, rfl, _, hl, hm, hmm, _, hx⟩
 ·exact ⟨none, 0, 0, rfl, by omega, by omega, fun i hi => by omega⟩
 ·refine ⟨some a, len, cap, rfl, hl, by unfold maxLen at hm; omega, fun i hi => ?_⟩
  have hlm : len ≤ m := by rw [hmm]; split <;> omega
  obtain ⟨cs', h1, h2⟩ := hx i (by omega)
  obtain ⟨_, hlen, hcell⟩ := World.cells?_some h1
  refine ⟨a, cs', rfl, hlen, fun j u hj => ?_, ⟨n, _, h2⟩⟩
  have hjl : j < cs'.length := (List.getElem?_eq_some_iff.1 hj).1
  have := hcell j (by omega)
  rw [add_add] at this
  rw [this, ← hj]
end
theorem choose_all {α : Type} (d : α) {n : Nat} {q : Nat → α → Prop} (h : ∀ i, i < n → ∃ x, q i x) : ∃ L : List α, L.length = n ∧ ∀ i, (hi : i < L.length) → q i L[i] := by
 classical
 refine ⟨(List.range n).map fun i => if hi : i < n then Classical.choose (h i hi) else d, by simp, fun i hi => ?_⟩
 have hi' : i < n := by simpa using hi
 simp only [List.getElem_map, List.getElem_range, dif_pos hi']
 exact Classical.choose_spec (h i hi')
theorem flat_at {α : Type} (f : α → List Value) (s : Nat) (hs : ∀ x, (f x).length = s) : ∀ (L : List α) (j : Nat) (u : Value), ((L.map f).flatten)[j]? = some u → ∃ i k, ∃ hi : i < L.length, k < s ∧ j = i * s + k ∧ (f L[i])[k]? = some u
 | [], j, u, h => by simp at h
 | x :: L, j, u, h => by
  rw [List.map_cons, List.flatten_cons] at h
  rcases Nat.lt_or_ge j s with hj | hj
  ·rw [List.getElem?_append_left (by rw [hs]; exact hj)] at h
   exact ⟨0, j, by simp, hj, by omega, h⟩
  ·rw [List.getElem?_append_right (by rw [hs]; exact hj), hs] at h
   obtain ⟨i, k, hi, hk, e, hu⟩ := flat_at f s hs L _ u h
   refine ⟨i + 1, k, by simpa using hi, hk, ?_, by simpa using hu⟩
   rw [Nat.add_mul]
   omega
theorem flat_len_of {α : Type} (f : α → List Value) (s : Nat) (hs : ∀ x, (f x).length = s) : ∀ L : List α, ((L.map f).flatten).length = L.length * s
 | [] => by simp
 | x :: L => by
  have ih := flat_len_of f s hs L
  rw [List.map_cons, List.flatten_cons, List.length_append, hs, ih, List.length_cons, Nat.add_mul]
  omega
theorem vs_of_slice {α : Type} {W : World} {A : Option Addr} {n s : Nat} (f : α → List Value) (hs : ∀ x, (f x).length = s) {L : List α} (hL : L.length = n)
  (h : ∀ i, (hi : i < L.length) → ∃ a, A = some a ∧ ∀ j u, (f L[i])[j]? = some u → W.cell? (a.add (i * s + j)) = some u) : Vs W W.heap.size s A n ((L.map f).flatten) := by
 refine ⟨by rw [flat_len_of f s hs, hL], fun j u hj => ?_⟩
 obtain ⟨i, k, hi, hk, rfl, hu⟩ := flat_at f s hs L j u hj
 obtain ⟨a, rfl, hc⟩ := h i hi
 have h2 := hc k u hu
 refine ⟨a, rfl, ?_, h2⟩
 have := World.block_lt_of_cell? W _ h2
 rwa [block_add] at this
section
set_option maxRecDepth 100000
variable {H : Type} {enc : TypeId × Value → H} {W : World} {spare : Nat → Bool} {held : Bool} {cs : List Value}
theorem Trod.texts (h : Trod enc W spare held 25 cs) :
  ∃ A n c L, cs = [.slice A n c] ∧ n ≤ c ∧ c ≤ 9223372036854775807 ∧ Ts W A n L ∧ ∀ x ∈ L, x.length ≤ 9223372036854775807 := by
 have c1 : Tryz.prog.cellsOf 9 = 1 := by kernel_rfl
 obtain ⟨A, n, c, rfl, hn, hc, hx⟩ := h.slice Tryz.underlying25
 obtain ⟨L, hL, hLx⟩ := choose_all (α := Txt) [] (n := n) (q := fun i l => (∃ a, A = some a ∧ ∀ j u, [tx l][j]? = some u → W.cell? (a.add (i * 1 + j)) = some u) ∧ l.length ≤ 9223372036854775807) (fun i hi => by
  obtain ⟨a, cs', e, _, hcell, ht⟩ := hx i hi
  obtain ⟨l, rfl, hl⟩ := ht.text Tryz.underlying9
  rw [c1] at hcell
  exact ⟨l, ⟨a, e, hcell⟩, hl⟩)
 have hv := vs_of_slice (W := W) (A := A) (n := n) (s := 1) (fun l : Txt => [tx l]) (fun _ => rfl) hL (fun i hi => (hLx i hi).1)
 refine ⟨A, n, c, L, rfl, hn, hc, ?_, fun x hx => ?_⟩
 ·have e : (L.map fun l : Txt => [tx l]).flatten = tv L := by
   clear hv hLx hL
   induction L with
   | nil => rfl
   | cons x L ih => rw [List.map_cons, List.flatten_cons, ih]; rfl
  rw [e] at hv
  exact hv
 ·obtain ⟨i, hi, rfl⟩ := List.getElem_of_mem hx
  exact (hLx i hi).2
theorem Trod.jwks (h : Trod enc W spare held 43 cs) :
  ∃ A n c L, cs = [.slice A n c] ∧ n ≤ c ∧ c ≤ 9223372036854775807 ∧ L.length = n ∧ Vs W W.heap.size 2 A n (jv L) ∧ ∀ k ∈ L, k.kid.length ≤ 9223372036854775807 ∧ k.x.length ≤ 9223372036854775807 := by
 have c1 : Tryz.prog.cellsOf 9 = 1 := by kernel_rfl
 have c2 : Tryz.prog.cellsOf 54 = 2 := by kernel_rfl
 obtain ⟨A, n, c, rfl, hn, hc, hx⟩ := h.slice Tryz.underlying43
 obtain ⟨L, hL, hLx⟩ := choose_all (α := Jwk) ⟨[], []⟩ (n := n) (q := fun i k => (∃ a, A = some a ∧ ∀ j u, [tx k.kid, tx k.x][j]? = some u → W.cell? (a.add (i * 2 + j)) = some u) ∧ k.kid.length ≤ 9223372036854775807 ∧ k.x.length ≤ 9223372036854775807) (fun i hi => by
  obtain ⟨a, cs', e, hlen, hcell, ht⟩ := hx i hi
  obtain ⟨_, hf⟩ := ht.field Tryz.underlying54
  rw [c2] at hlen hcell
  match cs', hlen with
  | [v0, v1], _ =>
   have f0 := hf 0 _ rfl
   have f1 := hf 1 _ rfl
   simp only [c1, List.getElem_toArray, List.getElem_cons_zero, List.getElem_cons_succ, List.drop_succ_cons, List.drop_zero, List.take_succ_cons, List.take_zero] at f0 f1
   obtain ⟨l0, e0, h0⟩ := f0.text Tryz.underlying9
   obtain ⟨l1, e1, h1⟩ := f1.text Tryz.underlying9
   injection e0 with e0
   injection e1 with e1
   subst e0 e1
   exact ⟨⟨l0, l1⟩, ⟨a, e, hcell⟩, h0, h1⟩)
 refine ⟨A, n, c, L, rfl, hn, hc, hL, vs_of_slice (fun k : Jwk => [tx k.kid, tx k.x]) (fun _ => rfl) hL (fun i hi => (hLx i hi).1), fun x hx => ?_⟩
 obtain ⟨i, hi, rfl⟩ := List.getElem_of_mem hx
 exact (hLx i hi).2
end
set_option maxRecDepth 100000 in
set_option maxHeartbeats 2000000 in
theorem open_op {H : Type} {enc : TypeId × Value → H} {W : World} {spare : Nat → Bool} {held : Bool} {cs : List Value} (h : Trod enc W spare held 47 cs) :
  ∃ o As ns cS Ak nk cK, cs = opCells o (.slice As ns cS) (.slice Ak nk cK) ∧ OpIn W o As ns cS Ak nk cK := by
 have ci : Tryz.prog.cellsOf 3 = 1 := by kernel_rfl
 have ct : Tryz.prog.cellsOf 9 = 1 := by kernel_rfl
 have cb : Tryz.prog.cellsOf 4 = 1 := by kernel_rfl
 have cst : Tryz.prog.cellsOf 25 = 1 := by kernel_rfl
 have csj : Tryz.prog.cellsOf 43 = 1 := by kernel_rfl
 have ce : Tryz.prog.cellsOf 36 = 5 := by kernel_rfl
 have cj : Tryz.prog.cellsOf 38 = 4 := by kernel_rfl
 have cn : Tryz.prog.cellsOf 40 = 5 := by kernel_rfl
 have ck : Tryz.prog.cellsOf 42 = 4 := by kernel_rfl
 have cbu : Tryz.prog.cellsOf 45 = 3 := by kernel_rfl
 have co : Tryz.prog.cellsOf 47 = 24 := by kernel_rfl
 obtain ⟨hl, hf⟩ := h.field Tryz.underlying47
 rw [co] at hl
 match cs, hl with
 | [v0, v1, v2, v3, v4, v5, v6, v7, v8, v9, v10, v11, v12, v13, v14, v15, v16, v17, v18, v19, v20, v21, v22, v23], _ =>
  have f0 := hf 0 _ rfl
  have f1 := hf 1 _ rfl
  have f2 := hf 2 _ rfl
  have f3 := hf 3 _ rfl
  have f4 := hf 4 _ rfl
  have f5 := hf 5 _ rfl
  have f6 := hf 6 _ rfl
  have f7 := hf 7 _ rfl
  simp only [ci, ct, ce, cj, cn, ck, cbu, List.getElem_toArray, List.getElem_cons_zero, List.getElem_cons_succ, List.drop_succ_cons, List.drop_zero, List.take_succ_cons, List.take_zero] at f0 f1 f2 f3 f4 f5 f6 f7
  clear hf h
  obtain ⟨k0, e0, i0⟩ := f0.num Tryz.underlying3
  obtain ⟨k1, e1, i1⟩ := f1.num Tryz.underlying3
  obtain ⟨k2, e2, i2⟩ := f2.text Tryz.underlying9
  obtain ⟨_, g3⟩ := f3.field Tryz.underlying36
  have a0 := g3 0 _ rfl
  have a1 := g3 1 _ rfl
  have a2 := g3 2 _ rfl
  have a3 := g3 3 _ rfl
  have a4 := g3 4 _ rfl
  simp only [ci, ct, cst, List.getElem_toArray, List.getElem_cons_zero, List.getElem_cons_succ, List.drop_succ_cons, List.drop_zero, List.take_succ_cons, List.take_zero] at a0 a1 a2 a3 a4
  obtain ⟨k3, e3, i3⟩ := a0.num Tryz.underlying3
  obtain ⟨k4, e4, i4⟩ := a1.text Tryz.underlying9
  obtain ⟨k5, e5, i5⟩ := a2.text Tryz.underlying9
  obtain ⟨k6, e6, i6⟩ := a3.num Tryz.underlying3
  obtain ⟨As, ns, cS, L, e7, hs1, hs2, hs3, hs4⟩ := a4.texts
  obtain ⟨_, g4⟩ := f4.field Tryz.underlying38
  have b0 := g4 0 _ rfl
  have b1 := g4 1 _ rfl
  have b2 := g4 2 _ rfl
  have b3 := g4 3 _ rfl
  simp only [ci, ct, cb, List.getElem_toArray, List.getElem_cons_zero, List.getElem_cons_succ, List.drop_succ_cons, List.drop_zero, List.take_succ_cons, List.take_zero] at b0 b1 b2 b3
  obtain ⟨k8, e8, i8⟩ := b0.text Tryz.underlying9
  obtain ⟨k9, e9, i9⟩ := b1.text Tryz.underlying9
  obtain ⟨k10, e10, i10⟩ := b2.num Tryz.underlying3
  obtain ⟨k11, e11⟩ := b3.flag Tryz.underlying4
  obtain ⟨_, g5⟩ := f5.field Tryz.underlying40
  have c0 := g5 0 _ rfl
  have c1 := g5 1 _ rfl
  have c2 := g5 2 _ rfl
  have c3 := g5 3 _ rfl
  have c4 := g5 4 _ rfl
  simp only [ci, ct, List.getElem_toArray, List.getElem_cons_zero, List.getElem_cons_succ, List.drop_succ_cons, List.drop_zero, List.take_succ_cons, List.take_zero] at c0 c1 c2 c3 c4
  obtain ⟨k12, e12, i12⟩ := c0.text Tryz.underlying9
  obtain ⟨k13, e13, i13⟩ := c1.text Tryz.underlying9
  obtain ⟨k14, e14, i14⟩ := c2.num Tryz.underlying3
  obtain ⟨k15, e15, i15⟩ := c3.num Tryz.underlying3
  obtain ⟨k16, e16, i16⟩ := c4.text Tryz.underlying9
  obtain ⟨_, g6⟩ := f6.field Tryz.underlying42
  have d0 := g6 0 _ rfl
  have d1 := g6 1 _ rfl
  have d2 := g6 2 _ rfl
  have d3 := g6 3 _ rfl
  simp only [ci, ct, List.getElem_toArray, List.getElem_cons_zero, List.getElem_cons_succ, List.drop_succ_cons, List.drop_zero, List.take_succ_cons, List.take_zero] at d0 d1 d2 d3
  obtain ⟨k17, e17, i17⟩ := d0.text Tryz.underlying9
  obtain ⟨k18, e18, i18⟩ := d1.text Tryz.underlying9
  obtain ⟨k19, e19, i19⟩ := d2.num Tryz.underlying3
  obtain ⟨k20, e20, i20⟩ := d3.num Tryz.underlying3
  obtain ⟨_, g7⟩ := f7.field Tryz.underlying45
  have m0 := g7 0 _ rfl
  have m1 := g7 1 _ rfl
  have m2 := g7 2 _ rfl
  simp only [ci, ct, csj, List.getElem_toArray, List.getElem_cons_zero, List.getElem_cons_succ, List.drop_succ_cons, List.drop_zero, List.take_succ_cons, List.take_zero] at m0 m1 m2
  obtain ⟨k21, e21, i21⟩ := m0.text Tryz.underlying9
  obtain ⟨k22, e22, i22⟩ := m1.num Tryz.underlying3
  obtain ⟨Ak, nk, cK, K, e23, hk1, hk2, hk3, hk4, hk5⟩ := m2.jwks
  injection e0 with e0; injection e1 with e1; injection e2 with e2; injection e3 with e3; injection e4 with e4; injection e5 with e5; injection e6 with e6; injection e7 with e7
  injection e8 with e8; injection e9 with e9; injection e10 with e10; injection e11 with e11; injection e12 with e12; injection e13 with e13; injection e14 with e14; injection e15 with e15
  injection e16 with e16; injection e17 with e17; injection e18 with e18; injection e19 with e19; injection e20 with e20; injection e21 with e21; injection e22 with e22; injection e23 with e23
  refine ⟨⟨k0, k1, k2, ⟨k3, k4, k5, k6, L⟩, ⟨k8, k9, k10, k11⟩, ⟨k12, k13, k14, k15, k16⟩, ⟨k17, k18, k19, k20⟩, ⟨k21, k22, K⟩⟩, As, ns, cS, Ak, nk, cK, ?_, ⟨hs3, hk4, hs1, hs2, hk1, hk2, ?_⟩⟩
  ·subst e0 e1 e2 e3 e4 e5 e6 e7 e8 e9 e10 e11 e12 e13 e14 e15 e16 e17 e18 e19 e20 e21 e22 e23
   rfl
  ·exact ⟨i0, i1, i2, i3, i4, i5, i6, hs4, i8, i9, i10, i12, i13, i14, i15, i16, i17, i18, i19, i20, i21, i22, hk5⟩
end Go.Proofs.YtmbpnkacggngkaaGreatDoor
end
section
namespace Go.Proofs.YtmbpnkacggngkaaGreatDoor
open Go.RowKit Mem Led
def noOpV : OpV := ⟨noOp, none, 0, 0, none, 0, 0⟩
set_option maxRecDepth 100000 in
theorem open_ops {H : Type} {enc : TypeId × Value → H} {W : World} {spare : Nat → Bool} {held : Bool} {fuel : Nat} {cs : List Value} {y : DataW H × List MemPlace}
  (h : DataW.trod enc Tryz.prog W 0 spare held fuel 22 cs = some y) :
  ∃ A n c L, cs = [.slice A n c] ∧ OpsIn W A n L ∧ n ≤ c ∧ c ≤ 9223372036854775807 := by
 have co : Tryz.prog.cellsOf 47 = 24 := by kernel_rfl
 have h' : Trod enc W spare held 22 cs := ⟨fuel, y, h⟩
 obtain ⟨A, n, c, rfl, hn, hc, hx⟩ := h'.slice Tryz.underlying22
 obtain ⟨L, hL, hLx⟩ := choose_all (α := OpV) noOpV (n := n) (q := fun i x => (∃ a, A = some a ∧ ∀ j u, (opvRow x)[j]? = some u → W.cell? (a.add (i * 24 + j)) = some u) ∧ x.In W) (fun i hi => by
  obtain ⟨a, cs', e, _, hcell, ht⟩ := hx i hi
  obtain ⟨o, As, ns, cS, Ak, nk, cK, rfl, hin⟩ := open_op ht
  rw [co] at hcell
  exact ⟨⟨o, As, ns, cS, Ak, nk, cK⟩, ⟨a, e, hcell⟩, hin⟩)
 refine ⟨A, n, c, L, rfl, ⟨vs_of_slice opvRow opvRow_len hL (fun i hi => (hLx i hi).1), fun x hx => ?_⟩, hn, hc⟩
 obtain ⟨i, hi, rfl⟩ := List.getElem_of_mem hx
 exact (hLx i hi).2
end Go.Proofs.YtmbpnkacggngkaaGreatDoor
end
