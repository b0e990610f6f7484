/- WORDS FOR ARRAYS IN MEMORY: a whole array (or struct) read, written, as one thing; which blocks may have turned. No program is named. -/
import Derived.Test.YtgalhnobckoneaaGreatDoorMem
import Derived.Laws.IdiomCopy
import Derived.WalkLawsBesides
namespace Go.Proofs.YtgalhnobckoneaaGreatDoor
namespace Mem
open Go.RowKit

/-- The n cells of block b from o on are there; none of them is frozen; what they hold. -/
def Has (w : World) (b o n : Nat) : Prop := ∀ j, j < n → (w.cell? ⟨b, o + j, none⟩).isSome = true
def Fre (w : World) (b o n : Nat) : Prop := ∀ j, j < n → w.frozen? ⟨b, o + j, none⟩ = false
def arr (w : World) (b o n : Nat) : Array Value := ((List.range n).map fun j => (w.cell? ⟨b, o + j, none⟩).getD undef).toArray
def Cells (V : Array Value) (n : Nat) : Prop := V.size = n ∧ ∀ v ∈ V.toList, v.oneCell' = true

section
variable {w : World} {b o n : Nat}
theorem arr_size (w : World) (b o n : Nat) : (arr w b o n).size = n := by simp [arr]
theorem has_setCell (a : Addr) (v : Value) : Has (w.setCell a v) b o n ↔ Has w b o n := by
  have key : ∀ j, ((w.setCell a v).cell? ⟨b, o + j, none⟩).isSome = (w.cell? ⟨b, o + j, none⟩).isSome := by
    intro j
    by_cases h : (⟨b, o + j, none⟩ : Addr) = a
    · subst h
      cases hc : w.cell? ⟨b, o + j, none⟩ with
      | some u => rw [World.cell?_setCell_same _ _ _ hc]; rfl
      | none =>
        cases hd : (w.setCell ⟨b, o + j, none⟩ v).cell? ⟨b, o + j, none⟩ with
        | none => rfl
        | some u =>
          exfalso
          simp only [World.cell?, World.setCell, Array.getElem?_modify] at hc hd
          cases hh : w.heap[b]? with
          | none => simp [hh] at hd
          | some ob =>
            cases ob <;> simp [hh] at hc hd
            rename_i c t fr
            have h1 := (Array.getElem?_eq_some_iff.1 hd).1
            simp at h1
            omega
    · rw [World.cell?_setCell_other _ _ _ _ (fun e => h e.symm)]
  unfold Has
  simp only [key]
theorem fre_setCell (a : Addr) (v : Value) : Fre (w.setCell a v) b o n ↔ Fre w b o n := by
  unfold Fre
  simp only [World.frozen?_setCell]
theorem arr_setCell (a : Addr) (v : Value) (h : a.block ≠ b ∨ a.off < o) : arr (w.setCell a v) b o n = arr w b o n := by
  have key : ∀ j, (w.setCell a v).cell? ⟨b, o + j, none⟩ = w.cell? ⟨b, o + j, none⟩ := fun j =>
    World.cell?_setCell_other _ _ _ _ (fun e => by
      subst e
      rcases h with h | h
      · exact h rfl
      · simp at h
        omega)
  unfold arr
  simp only [key]
theorem arr_setCell_other (g k : Nat) (v : Value) (h : g ≠ b) : arr (w.setCell ⟨g, k, none⟩ v) b o n = arr w b o n := arr_setCell _ _ (.inl h)
theorem arr_setCell_ahead (k : Nat) (v : Value) (h : k < o) : arr (w.setCell ⟨b, k, none⟩ v) b o n = arr w b o n := arr_setCell _ _ (.inr h)
theorem has_setCells : ∀ (vs : List Value) (w : World) (c k : Nat), Has (w.setCells c k vs) b o n ↔ Has w b o n
  | [], _, _, _ => Iff.rfl
  | v :: r, w, c, k => by
    rw [World.setCells, has_setCells r, has_setCell]
theorem fre_setCells (vs : List Value) (w : World) (c k : Nat) : Fre (w.setCells c k vs) b o n ↔ Fre w b o n := by
  unfold Fre
  simp only [World.frozen?_setCells]
theorem cell_setCells_other (vs : List Value) (w : World) (c k : Nat) (g j : Nat) (h : g ≠ c) : (w.setCells c k vs).cell? ⟨g, j, none⟩ = w.cell? ⟨g, j, none⟩ :=
  World.cell?_setCells_out c vs k w _ (fun e => absurd e h)
theorem arr_setCells_other (vs : List Value) (w : World) (c k : Nat) (h : b ≠ c) : arr (w.setCells c k vs) b o n = arr w b o n := by
  unfold arr
  simp only [cell_setCells_other vs w c k b _ h]
theorem has_drew : Has w.drew b o n ↔ Has w b o n := Iff.rfl
theorem fre_drew : Fre w.drew b o n ↔ Fre w b o n := Iff.rfl
theorem arr_drew : arr w.drew b o n = arr w b o n := rfl
theorem has_drewN (q : Nat) : Has (w.drewN q) b o n ↔ Has w b o n := Iff.rfl
theorem fre_drewN (q : Nat) : Fre (w.drewN q) b o n ↔ Fre w b o n := Iff.rfl
theorem arr_drewN (q : Nat) : arr (w.drewN q) b o n = arr w b o n := rfl
theorem setCells_drew (vs : List Value) : ∀ (w : World) (c k : Nat), w.drew.setCells c k vs = (w.setCells c k vs).drew := by
  induction vs with
  | nil => intro w c k; rfl
  | cons v r ih =>
    intro w c k
    rw [World.setCells, World.setCells, ← ih]
    rfl
end

section
variable {P : Program} (w : World) (t : TypeId) (b o n : Nat) (d : TypeDesc) (ht : P.underlying t = some d) (hd : (match d with | .struct _ | .array _ _ => true | _ => false) = true) (hi : (P.info? t).map (·.size) = some n)
include ht hd hi
omit hi in
theorem run_isAgg : (isAgg t).run P w = .ok true w := by
  unfold isAgg
  rw [Sem.run_bind, run_underlying ht w]
  cases d <;> simp_all
omit ht hd in
theorem run_sizeOf : (sizeOf t).run P w = .ok n w := by
  cases hq : P.info? t with
  | none => simp [hq] at hi
  | some i =>
    have hs : i.size = n := by simpa [hq] using hi
    simp [sizeOf, typeInfo, hq, hs]
/-- A whole array or struct is read. -/
theorem run_load_arr (h : Has w b o n) : (Instr.loadAt t (.pointer (some ⟨b, o, none⟩))).run P w = .ok (.agg (arr w b o n)) w := by
  have hl : (loadCells ⟨b, o, none⟩ n).run P w = .ok (arr w b o n) w := by
    have := run_loadCells_list (P := P) w ⟨b, o, none⟩ (arr w b o n).toList (fun j v hv => by
      have hadd : (⟨b, o, none⟩ : Addr).add j = ⟨b, o + j, none⟩ := by unfold Addr.add; split <;> simp_all
      rw [hadd]
      have hj : j < n := by
        have := (List.getElem?_eq_some_iff.1 hv).1
        simpa [arr] using this
      obtain ⟨u, hu⟩ := Option.isSome_iff_exists.1 (h j hj)
      simp [arr, hj, hu] at hv
      rw [hu, hv])
    rw [Array.length_toList, arr_size] at this
    simpa using this
  have h1 := run_isAgg (P := P) w t d ht hd
  have h2 := run_sizeOf (P := P) w t n hi
  simp only [Instr.loadAt, Instr.sureAddr, Sem.run_bind, Sem.run_pure, Result.andThen_ok, loadVar, h1, h2, if_true, hl]
omit ht hd in
/-- A whole array or struct is written. -/
theorem run_store_arr (V : Array Value) (hV : Cells V n) (h : Has w b o n) (hf : Fre w b o n) : (Instr.storeAt t (.pointer (some ⟨b, o, none⟩)) (.agg V)).run P w = .ok () (w.setCells b o V.toList) := by
  have h2 := run_sizeOf (P := P) w t n hi
  have hl : V.toList.length = n := by simpa using hV.1
  have hst := run_storeCells_cells (P := P) b o V.toList 0 w (fun j hj => by simpa using h j (by omega)) (fun j hj => by simpa using hf j (by omega)) hV.2
  simp only [Nat.add_zero] at hst
  have hc : (Value.agg V).cells = V := rfl
  simp only [Instr.storeAt, Instr.sureAddr, Sem.run_bind, Sem.run_pure, Result.andThen_ok, storeVar, h2, hc, hV.1, ne_eq, not_true_eq_false, if_false, hst]
end

theorem Has.below {w w' : World} {b o n : Nat} (h : Has w b o n) (hb : Below w.heap.size w w') (hlt : b < w.heap.size) : Has w' b o n := fun j hj => by
  rw [hb.cell (p := ⟨b, o + j, none⟩) hlt]
  exact h j hj
theorem Fre.below {w w' : World} {b o n : Nat} (h : Fre w b o n) (hb : Below w.heap.size w w') (hlt : b < w.heap.size) : Fre w' b o n := fun j hj => by
  rw [hb.frozen (p := ⟨b, o + j, none⟩) hlt]
  exact h j hj
/-- Bytes that lie in a row. -/
def Arr (w : World) (b o : Nat) (l : List UInt8) : Prop := ∀ j (h : j < l.length), w.cell? ⟨b, o + j, none⟩ = some (.int .u8 (l[j].toNat : Int))
section
variable {w w' : World} {b o : Nat} {l : List UInt8}
theorem Arr.has (h : Arr w b o l) : Has w b o l.length := fun j hj => by rw [h j hj]; rfl
theorem Arr.eq (h : Arr w b o l) : arr w b o l.length = (bv l).toArray := by
  unfold arr
  congr 1
  apply List.ext_getElem?
  intro j
  rw [bv_at]
  by_cases hj : j < l.length
  · simp [hj, h j hj]
  · simp [hj]
theorem bv_cells (l : List UInt8) {n : Nat} (h : l.length = n) : Cells (bv l).toArray n := ⟨by simp [bv_length, h], by simpa using bv_oneCell l⟩
theorem Arr.keep (h : Arr w b o l) (hk : ∀ j, o ≤ j → w'.cell? ⟨b, j, none⟩ = w.cell? ⟨b, j, none⟩) : Arr w' b o l := fun j hj => (hk _ (Nat.le_add_right _ _)).trans (h j hj)
theorem Arr.keep_far (h : Arr w b o l) (hk : ∀ j, o ≤ j → j < o + l.length → w'.cell? ⟨b, j, none⟩ = w.cell? ⟨b, j, none⟩) : Arr w' b o l := fun j hj => (hk _ (Nat.le_add_right _ _) (by omega)).trans (h j hj)
theorem setcs_far (vs : List Value) (w : World) (b o g k : Nat) (h : g ≠ b) : (w.setCells b o vs).cell? ⟨g, k, none⟩ = w.cell? ⟨g, k, none⟩ := World.cell?_setCells_out b vs o w _ (fun e => absurd e h)
theorem setcs_out (vs : List Value) (w : World) (b o k : Nat) (h : k < o ∨ o + vs.length ≤ k) : (w.setCells b o vs).cell? ⟨b, k, none⟩ = w.cell? ⟨b, k, none⟩ := World.cell?_setCells_out b vs o w _ (fun _ _ => h)
theorem size_setCells (vs : List Value) : ∀ (w : World) (b o : Nat), (w.setCells b o vs).heap.size = w.heap.size := by
  induction vs with
  | nil => intro w b o; rfl
  | cons v r ih =>
    intro w b o
    rw [World.setCells, ih]
    simp [World.setCell]
theorem setc_ne (w : World) (p k k' : Nat) (v : Value) (h : k ≠ k') : (w.setCell ⟨p, k, none⟩ v).cell? ⟨p, k', none⟩ = w.cell? ⟨p, k', none⟩ := World.cell?_setCell_other _ _ _ _ (fun e => h (by injection e))
theorem setc_far (w : World) (p k g k' : Nat) (v : Value) (h : p ≠ g) : (w.setCell ⟨p, k, none⟩ v).cell? ⟨g, k', none⟩ = w.cell? ⟨g, k', none⟩ := World.cell?_setCell_other _ _ _ _ (fun e => h (by injection e))
theorem setc_same (w : World) (p k : Nat) (v u : Value) (h : w.cell? ⟨p, k, none⟩ = some u) : (w.setCell ⟨p, k, none⟩ v).cell? ⟨p, k, none⟩ = some v := World.cell?_setCell_same _ _ _ h
theorem Arr.of_setCells (l : List UInt8) (w : World) (b o : Nat) (h : Has w b o l.length) : Arr (w.setCells b o (bv l)) b o l := fun j hj => by
  rw [World.cell?_setCells_in b (bv l) o w (fun i hi => h i (by rwa [bv_length] at hi)) j (by rwa [bv_length])]
  simp [bv]
theorem Arr.bs (h : Arr w b o l) (hb : b < w.heap.size) : Bs w w.heap.size (some ⟨b, o, none⟩) l.length l := by
  refine ⟨by rw [bv_length]; omega, fun j u hj => ⟨_, rfl, hb, ?_⟩⟩
  have hadd : (⟨b, o, none⟩ : Addr).add j = ⟨b, o + j, none⟩ := by unfold Addr.add; split <;> simp_all
  rw [hadd]
  have hj' : j < l.length := by
    have := (List.getElem?_eq_some_iff.1 hj).1
    rwa [bv_length] at this
  rw [h j hj']
  rw [bv_at, List.getElem?_eq_getElem hj'] at hj
  simpa using hj
end

theorem arr_setCells_same (vs : List Value) (w : World) (b o n : Nat) (hn : vs.length = n) (h : Has w b o n) : arr (w.setCells b o vs) b o n = vs.toArray := by
  subst hn
  unfold arr
  congr 1
  apply List.ext_getElem?
  intro j
  by_cases hj : j < vs.length
  · rw [List.getElem?_map, List.getElem?_range hj, Option.map_some, World.cell?_setCells_in b vs o w h j hj, List.getElem?_eq_getElem hj]
    rfl
  · rw [List.getElem?_eq_none (by simp; omega), List.getElem?_eq_none (by omega)]
theorem arr_block {w : World} {g n : Nat} {cs : Array Value} {t : TypeId} {fr : Nat × Nat} (h : w.heap[g]? = some (.cells cs t fr)) (hn : cs.size = n) : arr w g 0 n = cs ∧ Has w g 0 n := by
  subst hn
  have hc : ∀ j, w.cell? ⟨g, 0 + j, none⟩ = cs[j]? := fun j => by rw [Nat.zero_add, cell_of_row w g j cs t fr h]
  constructor
  · unfold arr
    apply Array.toList_inj.1
    apply List.ext_getElem?
    intro j
    by_cases hj : j < cs.size
    · have hcj := hc j
      rw [Nat.zero_add] at hcj
      simp [hj, hcj]
    · simp [hj]
  · intro j hj
    rw [hc]
    simp [hj]
theorem fre_block {w : World} {g o n : Nat} {cs : Array Value} {t : TypeId} (h : w.heap[g]? = some (.cells cs t (0, 0))) : Fre w g o n := fun j _ => frozen_of_row w g (o + j) cs t h
/-- A result that lies in memory: an array, a struct. -/
theorem results_arr {P : Program} {fn : Func} {p : Tmp} {ty : TypeId} (h : fn.results = #[.cell p ty]) (tmps : Array Value) (w : World) (g o n : Nat) (d : TypeDesc)
    (hp : tmps.getD p undef = .pointer (some ⟨g, o, none⟩)) (hu : P.underlying ty = some d) (hd : (match d with | .struct _ | .array _ _ => true | _ => false) = true) (hi : (P.info? ty).map (·.size) = some n) (hh : Has w g o n) :
    (results fn tmps).run P w = .ok (.agg (arr w g o n)) w := by
  have hp' : tmps[p]?.getD undef = .pointer (some ⟨g, o, none⟩) := by simpa using hp
  have hl := run_load_arr (P := P) w ty g o n d hu hd hi hh
  simp only [Instr.loadAt, Instr.sureAddr, Sem.run_bind, Sem.run_pure, Result.andThen_ok] at hl
  simp [results, h, hp', asAddr, hl]

/-- Only the blocks of S, and new ones, have turned. -/
structure Chg (S : List Nat) (w w' : World) : Prop where
  os : w'.os = w.os
  tape : w'.tape = w.tape
  output : w'.output = w.output
  size : w.heap.size ≤ w'.heap.size
  block : ∀ k, k < w.heap.size → k ∉ S → w'.heap[k]? = w.heap[k]?
section
variable {S S' : List Nat} {a w w' : World}
theorem Chg.refl (S : List Nat) (w : World) : Chg S w w := ⟨rfl, rfl, rfl, Nat.le_refl _, fun _ _ _ => rfl⟩
theorem Chg.trans (h : Chg S a w) (k : Chg S' w w') (hS : ∀ s, s ∈ S' → s ∈ S ∨ a.heap.size ≤ s) : Chg S a w' :=
  ⟨k.os.trans h.os, k.tape.trans h.tape, k.output.trans h.output, Nat.le_trans h.size k.size, fun i hi hn =>
    (k.block i (Nat.lt_of_lt_of_le hi h.size) (fun hm => by
      rcases hS i hm with h1 | h1
      · exact hn h1
      · omega)).trans (h.block i hi hn)⟩
theorem Chg.and (h : Chg S a w) (k : Chg S w w') : Chg S a w' := h.trans k fun _ hs => .inl hs
theorem Chg.of_below (h : Below a.heap.size a w) : Chg S a w := ⟨h.os, h.tape, h.output, h.size, fun i hi _ => h.block i hi⟩
theorem Chg.and_below (h : Chg S a w) (k : Below w.heap.size w w') : Chg S a w' := h.and (Chg.of_below k)
theorem Chg.below (h : Chg S a w) (hS : ∀ s, s ∈ S → a.heap.size ≤ s) : Below a.heap.size a w :=
  ⟨h.os, h.tape, h.output, h.size, fun i hi => h.block i hi fun hm => by have := hS i hm; omega⟩
theorem Chg.below' {B : Nat} (h : Chg S a w) (hB : B ≤ a.heap.size) (hS : ∀ s, s ∈ S → B ≤ s) : Below B a w :=
  ⟨h.os, h.tape, h.output, h.size, fun i hi => h.block i (by omega) fun hm => by have := hS i hm; omega⟩
theorem Chg.mono (h : Chg S a w) (hS : ∀ s, s ∈ S → s ∈ S') : Chg S' a w := ⟨h.os, h.tape, h.output, h.size, fun i hi hn => h.block i hi fun hm => hn (hS i hm)⟩
theorem Chg.drew (h : Chg S a w) : Chg S a w.drew := ⟨h.os, h.tape, h.output, h.size, h.block⟩
theorem Chg.drewN (h : Chg S a w) (q : Nat) : Chg S a (w.drewN q) := ⟨h.os, h.tape, h.output, h.size, h.block⟩
theorem Chg.alloc (h : Chg S a w) (o : Obj) : Chg S a (w.alloc o) := h.and_below ((Below.refl _ _).alloc (Nat.le_refl _) o)
theorem Chg.setCell (h : Chg S a w) {p : Addr} (hp : p.block ∈ S ∨ a.heap.size ≤ p.block) (v : Value) : Chg S a (w.setCell p v) :=
  h.trans (S' := [p.block]) ⟨rfl, rfl, rfl, by simp [World.setCell], fun i _ hn => Below.heap_setCell _ _ _ _ (by simpa using hn)⟩ (by simpa using hp)
theorem Chg.setCells (vs : List Value) : ∀ {w : World} {b o : Nat}, Chg S a w → (b ∈ S ∨ a.heap.size ≤ b) → Chg S a (w.setCells b o vs) := by
  induction vs with
  | nil => intro w b o h _; exact h
  | cons v r ih =>
    intro w b o h hb
    exact ih (h.setCell (p := ⟨b, o, none⟩) hb v) hb
theorem Chg.cell (h : Chg S a w) {p : Addr} (hp : p.block < a.heap.size) (hn : p.block ∉ S) : w.cell? p = a.cell? p := World.cell?_of_block (h.block _ hp hn)
theorem Chg.frozen (h : Chg S a w) {p : Addr} (hp : p.block < a.heap.size) (hn : p.block ∉ S) : w.frozen? p = a.frozen? p := World.frozen?_of_block (h.block _ hp hn)
theorem Bs.chg {B n : Nat} {A : Option Addr} {l : List UInt8} (h : Bs a B A n l) (hc : Chg S a w) (hB : B ≤ a.heap.size) (hS : ∀ s, s ∈ S → B ≤ s) : Bs w B A n l :=
  h.keep fun p hp => hc.cell (by omega) fun hm => by have := hS _ hm; omega
end
end Mem
attribute [go_sem] Mem.has_setCell Mem.fre_setCell Mem.arr_setCell_other Mem.arr_setCell_ahead Mem.has_setCells Mem.fre_setCells Mem.cell_setCells_other Mem.arr_setCells_other Mem.has_drew Mem.fre_drew Mem.arr_drew Mem.has_drewN Mem.fre_drewN Mem.arr_drewN Mem.setCells_drew World.frozen?_setCells
end Go.Proofs.YtgalhnobckoneaaGreatDoor
