/- WORDS FOR MEMORY: what a slice's cells read as; rows of the call's own; no program is named. -/
import Derived.WalkKit
import Derived.ProofKit
import Derived.OpenShut
import Derived.Lib.Hide
import Derived.Laws.OwnMore
import Derived.Maps.AppendAt
import Derived.Deep.Draws
import Derived.Deep.AppendLies
import Derived.Lib.SlBytesConst
import Derived.Laws.BytesArg
import Derived.RegionTactic
import Derived.OwnWalk
namespace Go.Proofs.YtgalhnobckoneaaGreatDoor
namespace Mem
open Go.RowKit

theorem block_add (a : Addr) (i : Nat) : (a.add i).block = a.block := by
  unfold Addr.add
  split <;> rfl
theorem add_add (a : Addr) (i j : Nat) : (a.add i).add j = a.add (i + j) := by
  unfold Addr.add
  by_cases h1 : i = 0 <;> by_cases h2 : j = 0 <;> simp [h1, h2, Nat.add_assoc]

theorem wf_int {x : Int} (h : (Lit.int .i64 x).wf = true) : -9223372036854775808 ≤ x ∧ x ≤ 9223372036854775807 := by
  simp [Lit.wf, IntKind.min, IntKind.max, IntKind.signed, IntKind.bits] at h
  exact h
theorem wf_u8 {x : Int} (h : (Lit.int .u8 x).wf = true) : 0 ≤ x ∧ x ≤ 255 := by
  simp [Lit.wf, IntKind.min, IntKind.max, IntKind.signed, IntKind.bits] at h
  exact h

/-- The slice at A, of n elements of 'size' cells, reads as the cells xs, all below block B. -/
structure Vs (w : World) (B size : Nat) (A : Option Addr) (n : Nat) (xs : List Value) : Prop where
  len : xs.length = n * size
  rd : ∀ j u, xs[j]? = some u → ∃ ad, A = some ad ∧ ad.block < B ∧ w.cell? (ad.add j) = some u

section
variable {w w' : World} {B B' size n : Nat} {A : Option Addr} {xs : List Value}
theorem Vs.empty (w : World) (B size : Nat) (A : Option Addr) : Vs w B size A 0 [] := ⟨by simp, fun j u h => by simp at h⟩
theorem Vs.keep (h : Vs w B size A n xs) (hk : ∀ p : Addr, p.block < B → w'.cell? p = w.cell? p) : Vs w' B size A n xs :=
  ⟨h.len, fun j u hj => by
    obtain ⟨ad, e, hb, hc⟩ := h.rd j u hj
    exact ⟨ad, e, hb, (hk _ (by rw [block_add]; exact hb)).trans hc⟩⟩
theorem Vs.mono (h : Vs w B size A n xs) (hB : B ≤ B') : Vs w B' size A n xs :=
  ⟨h.len, fun j u hj => by
    obtain ⟨ad, e, hb, hc⟩ := h.rd j u hj
    exact ⟨ad, e, by omega, hc⟩⟩
theorem Vs.below (h : Vs w B size A n xs) (hb : Below B w w') : Vs w' B size A n xs := h.keep fun _ hp => hb.cell hp
theorem Vs.drew (h : Vs w B size A n xs) : Vs w.drew B size A n xs := h.keep fun _ _ => rfl
theorem Vs.drewN (h : Vs w B size A n xs) (k : Nat) : Vs (w.drewN k) B size A n xs := h.keep fun _ _ => by simp
theorem Vs.alloc (h : Vs w B size A n xs) (hB : B ≤ w.heap.size) (o : Obj) : Vs (w.alloc o) B size A n xs :=
  h.keep fun p hp => World.cell?_alloc_lt w o p (by omega)
theorem Vs.setCell (h : Vs w B size A n xs) {p : Addr} (hB : B ≤ p.block) (u : Value) : Vs (w.setCell p u) B size A n xs :=
  h.keep fun q hq => World.cell?_setCell_other w p q u (fun e => by subst e; omega)
theorem Vs.grown (h : Vs w B size A n xs) {row : Option Nat} (hg : w.grownBy w' row) (hB : B ≤ w.heap.size) (hr : ∀ g, row = some g → B ≤ g) : Vs w' B size A n xs :=
  h.keep fun p hp => World.cell?_of_block (hg.block p.block (by omega) (fun e => by have := hr _ e.symm; omega))
/-- Element k of one cell. -/
theorem Vs.at_ {k : Nat} (h : Vs w B 1 A n xs) (hk : k < n) : ∃ ad u, A = some ad ∧ ad.block < B ∧ xs[k]? = some u ∧ w.cell? (ad.add k) = some u := by
  have hl : k < xs.length := by have := h.len; omega
  obtain ⟨ad, e, hb, hc⟩ := h.rd k _ (List.getElem?_eq_getElem hl)
  exact ⟨ad, xs[k], e, hb, List.getElem?_eq_getElem hl, hc⟩
/-- 's[k:]', as the model gives it. -/
theorem Vs.drop (h : Vs w B size A n xs) {k cap : Nat} (hk : k ≤ n) (hc : n ≤ cap) :
    Vs w B size (if cap = k then A else A.map (·.add (k * size))) (n - k) (xs.drop (k * size)) := by
  refine ⟨by rw [List.length_drop, h.len, Nat.sub_mul], fun j u hj => ?_⟩
  rw [List.getElem?_drop] at hj
  obtain ⟨ad, rfl, hb, hcell⟩ := h.rd _ _ hj
  have hlt : k * size + j < n * size := by
    have := (List.getElem?_eq_some_iff.1 hj).1
    rw [h.len] at this
    exact this
  have hne : ¬ cap = k := by
    rintro rfl
    have : n = cap := by omega
    subst this
    omega
  rw [if_neg hne]
  exact ⟨ad.add (k * size), rfl, by rw [block_add]; exact hb, by rw [add_add]; exact hcell⟩
/-- 's[:k]'. -/
theorem Vs.take (h : Vs w B size A n xs) {k : Nat} (hk : k ≤ n) : Vs w B size A k (xs.take (k * size)) := by
  refine ⟨by rw [List.length_take, h.len]; exact Nat.min_eq_left (Nat.mul_le_mul_right _ hk), fun j u hj => ?_⟩
  rw [List.getElem?_take] at hj
  split at hj
  · exact h.rd j u hj
  · cases hj
theorem Vs.of_own {base : Nat} {e : TypeId} {c : Nat} (h : w.ownsRow base e size (.slice A n c) n xs) : Vs w w.heap.size size A n xs := by
  refine ⟨h.1, fun j u hj => ?_⟩
  rcases h.2 with ⟨hv, hn⟩ | ⟨g, cap, cur, hv, _, hh, _⟩
  · subst hn
    have : xs = [] := List.eq_nil_of_length_eq_zero (by simpa using h.1)
    subst this
    simp at hj
  · have hA : A = some ⟨g, 0, none⟩ := by injection hv
    subst hA
    exact ⟨_, rfl, (Array.getElem?_eq_some_iff.1 hh).1, h.cells (g := g) rfl j u hj⟩
/-- The form of an owned slice. -/
theorem own_form {base : Nat} {e : TypeId} {v : Value} (h : w.ownsRow base e size v n xs) : ∃ A c, v = .slice A n c ∧ n ≤ c ∧ c ≤ 9223372036854775807 := by
  rcases h.2 with ⟨rfl, rfl⟩ | ⟨g, cap, cur, rfl, _, _, h1, h2, _⟩
  · exact ⟨none, 0, rfl, Nat.le_refl _, by omega⟩
  · exact ⟨_, cap, rfl, h1, by unfold maxLen at h2; omega⟩
end

/-- Behind an append onto a row of the call's own. -/
theorem below_grown {a w w1 : World} {B base : Nat} {v : Value} {e : TypeId} {size n : Nat} {xs : List Value} (hb : Below B a w) (hg : w.grownBy w1 v.ownBlock) (hB : B ≤ w.heap.size) (hown : w.ownsRow base e size v n xs) (hbase : B ≤ base := by omega) : Below B a w1 :=
  hb.grown hg hB fun k hk => by have := (hown.lt k hk).1; omega
theorem own_some {w : World} {base : Nat} {e : TypeId} {size n c : Nat} {A : Option Addr} {xs : List Value} (h : w.ownsRow base e size (.slice A n c) n xs) (hn : 0 < n) : ∃ g, A = some ⟨g, 0, none⟩ ∧ base ≤ g ∧ g < w.heap.size := by
  rcases h.2 with ⟨_, h0⟩ | ⟨g, cap, cur, hv, hg, hh, _⟩
  · omega
  · refine ⟨g, ?_, hg, (Array.getElem?_eq_some_iff.1 hh).1⟩
    injection hv
theorem own_below {w w' : World} {base B : Nat} {e : TypeId} {size n : Nat} {v : Value} {xs : List Value} (h : w.ownsRow base e size v n xs) (hb : Below B w w') (hB : w.heap.size ≤ B) : w'.ownsRow base e size v n xs := by
  refine ⟨h.1, ?_⟩
  rcases h.2 with h2 | ⟨g, cap, cur, hv, hg, hh, r⟩
  · exact .inl h2
  · have hlt := (Array.getElem?_eq_some_iff.1 hh).1
    exact .inr ⟨g, cap, cur, hv, hg, by rw [hb.block g (by omega)]; exact hh, r⟩
/-- An owned row, told of an elder base. -/
theorem own_base {w : World} {b b' : Nat} {e : TypeId} {size n : Nat} {v : Value} {xs : List Value} (h : w.ownsRow b e size v n xs) (hb : b' ≤ b) : w.ownsRow b' e size v n xs := by
  refine ⟨h.1, ?_⟩
  rcases h.2 with h2 | ⟨g, cap, cur, hv, hg, r⟩
  · exact .inl h2
  · exact .inr ⟨g, cap, cur, hv, by omega, r⟩
/-- Bytes as cells. -/
def bv (l : List UInt8) : List Value := l.map fun b => .int .u8 (b.toNat : Int)
theorem bv_length (l : List UInt8) : (bv l).length = l.length := by simp [bv]
theorem bv_append (a b : List UInt8) : bv (a ++ b) = bv a ++ bv b := by simp [bv]
theorem bv_at (l : List UInt8) (k : Nat) : (bv l)[k]? = l[k]?.map fun b => .int .u8 (b.toNat : Int) := by simp [bv]
theorem bv_take (l : List UInt8) (k : Nat) : (bv l).take k = bv (l.take k) := by simp [bv]
theorem bv_drop (l : List UInt8) (k : Nat) : (bv l).drop k = bv (l.drop k) := by simp [bv]
theorem bv_set (l : List UInt8) (j : Nat) (b : UInt8) : (bv l).set j (.int .u8 (b.toNat : Int)) = bv (l.set j b) := by
  simp [bv, List.map_set]
theorem bv_oneCell (l : List UInt8) : ∀ u ∈ bv l, u.oneCell' = true := by
  intro u hu
  simp only [bv, List.mem_map] at hu
  obtain ⟨b, _, rfl⟩ := hu
  rfl

/-- The []byte at A, of length n, reads as the bytes l. -/
def Bs (w : World) (B : Nat) (A : Option Addr) (n : Nat) (l : List UInt8) : Prop := Vs w B 1 A n (bv l)
section
variable {w w' : World} {B B' n : Nat} {A : Option Addr} {l : List UInt8}
theorem Bs.len (h : Bs w B A n l) : l.length = n := by have := Vs.len h; rw [bv_length] at this; omega
theorem Bs.empty (w : World) (B : Nat) (A : Option Addr) : Bs w B A 0 [] := Vs.empty w B 1 A
theorem Bs.keep (h : Bs w B A n l) (hk : ∀ p : Addr, p.block < B → w'.cell? p = w.cell? p) : Bs w' B A n l := Vs.keep h hk
theorem Bs.mono (h : Bs w B A n l) (hB : B ≤ B') : Bs w B' A n l := Vs.mono h hB
theorem Bs.below (h : Bs w B A n l) (hb : Below B w w') : Bs w' B A n l := Vs.below h hb
/-- Into the callee's world, in the callee's own terms. -/
theorem Bs.next (h : Bs w B A n l) (hB : B ≤ w.heap.size) (hb : Below w.heap.size w w') : Bs w' B A n l := Vs.below h (hb.mono hB)
theorem Bs.drew (h : Bs w B A n l) : Bs w.drew B A n l := Vs.drew h
theorem Bs.drewN (h : Bs w B A n l) (k : Nat) : Bs (w.drewN k) B A n l := Vs.drewN h k
theorem Bs.alloc (h : Bs w B A n l) (hB : B ≤ w.heap.size) (o : Obj) : Bs (w.alloc o) B A n l := Vs.alloc h hB o
theorem Bs.setCell (h : Bs w B A n l) {p : Addr} (hB : B ≤ p.block) (u : Value) : Bs (w.setCell p u) B A n l := Vs.setCell h hB u
theorem Bs.grown (h : Bs w B A n l) {row : Option Nat} (hg : w.grownBy w' row) (hB : B ≤ w.heap.size) (hr : ∀ g, row = some g → B ≤ g) : Bs w' B A n l := Vs.grown h hg hB hr
theorem Bs.at_ {k : Nat} (h : Bs w B A n l) (hk : k < n) : ∃ ad, ∃ hl : k < l.length, A = some ad ∧ ad.block < B ∧ w.cell? (ad.add k) = some (.int .u8 (l[k].toNat : Int)) := by
  have hl : k < l.length := by have := h.len; omega
  obtain ⟨ad, u, e, hb, hu, hc⟩ := Vs.at_ h hk
  rw [bv_at, List.getElem?_eq_getElem hl] at hu
  simp only [Option.map_some, Option.some.injEq] at hu
  subst hu
  exact ⟨ad, hl, e, hb, hc⟩
theorem Bs.take (h : Bs w B A n l) {k : Nat} (hk : k ≤ n) : Bs w B A k (l.take k) := by
  have := Vs.take h hk
  rw [Nat.mul_one, bv_take] at this
  exact this
theorem Bs.drop (h : Bs w B A n l) {k cap : Nat} (hk : k ≤ n) (hc : n ≤ cap) : Bs w B (if cap = k then A else A.map (·.add k)) (n - k) (l.drop k) := by
  have := Vs.drop h hk hc
  rw [Nat.mul_one, bv_drop] at this
  exact this
theorem Bs.tail (h : Bs w B A n l) {k cap : Nat} (hk : k ≤ n) (hc : n ≤ cap) (hne : ¬ cap = k) : Bs w B (A.map fun x => x.add k) (n - k) (l.drop k) := by
  have := Bs.drop h hk hc
  rw [if_neg hne] at this
  exact this
/-- Where 's[k:]' begins. -/
def dropAt (A : Option Addr) (c k : Nat) : Option Addr := if c = k then A else A.map (·.add k)
theorem Bs.dropAt (h : Bs w B A n l) {k cap : Nat} (hk : k ≤ n) (hc : n ≤ cap) : Bs w B (dropAt A cap k) (n - k) (l.drop k) := Bs.drop h hk hc
theorem Bs.of_own {base : Nat} {e : TypeId} {c : Nat} (h : w.ownsRow base e 1 (.slice A n c) n (bv l)) : Bs w w.heap.size A n l := Vs.of_own h

/-- A block that the call has just laid. -/
theorem cell_new (w : World) (cs : Array Value) (e : TypeId) (fr : Nat × Nat) (j : Nat) : (w.alloc (.cells cs e fr)).cell? ⟨w.heap.size, j, none⟩ = cs[j]? := by
  unfold World.cell?
  show (match (w.heap.push (.cells cs e fr))[w.heap.size]? with | some (.cells cs' _ _) => _ | _ => _) = _
  simp
theorem zero_add_ (g j : Nat) : (⟨g, 0, none⟩ : Addr).add j = ⟨g, j, none⟩ := by
  unfold Addr.add
  split <;> simp_all
theorem Vs.new (w : World) (cs : Array Value) (e : TypeId) (fr : Nat × Nat) (size n : Nat) (xs : List Value) (h : cs.toList.take (n * size) = xs) (hn : n * size ≤ cs.size) :
    Vs (w.alloc (.cells cs e fr)) (w.heap.size + 1) size (some ⟨w.heap.size, 0, none⟩) n xs := by
  subst h
  refine ⟨by simp; omega, fun j u hj => ⟨_, rfl, by simp, ?_⟩⟩
  rw [zero_add_, cell_new]
  rw [List.getElem?_take] at hj
  split at hj
  · simpa using hj
  · cases hj
theorem Bs.new (w : World) (cs : Array Value) (e : TypeId) (fr : Nat × Nat) (n : Nat) (l : List UInt8) (h : cs.toList = bv l) (hn : l.length = n) :
    Bs (w.alloc (.cells cs e fr)) (w.heap.size + 1) (some ⟨w.heap.size, 0, none⟩) n l := by
  have hl : cs.size = n := by
    have := congrArg List.length h
    rw [bv_length] at this
    simpa [hn] using this
  exact Vs.new w cs e fr 1 n _ (by rw [List.take_of_length_le (by simp; omega)]; exact h) (by omega)

/-- A []byte that came in. -/
theorem Bs.of_row {x : Addr} {k c : Nat} {zs : List Int} (hl : k ≤ c) (hz : zs.length = c) (hcell : ∀ i, i < zs.length → w.cell? (x.add i) = some (.int .u8 (zs.getD i 0))) (hwz : ∀ n ∈ zs, (Lit.int .u8 n).wf = true) :
    Bs w w.heap.size (some x) k ((zs.take k).map fun n => UInt8.ofNat n.toNat) := by
  refine ⟨by rw [bv_length]; simp; omega, fun j u hj => ?_⟩
  rw [bv_at, List.getElem?_map] at hj
  have hjk : j < k := by
    rcases Nat.lt_or_ge j k with h | h
    · exact h
    · rw [List.getElem?_eq_none (by simp; omega)] at hj
      cases hj
  have hjz : j < zs.length := by omega
  have hc := hcell j hjz
  rw [List.getElem?_take_of_lt hjk, List.getElem?_eq_getElem hjz] at hj
  simp only [Option.map_some, Option.some.injEq] at hj
  have hw := hwz zs[j] (List.getElem_mem hjz)
  have hr : 0 ≤ zs[j] ∧ zs[j] < 256 := by
    simp [Lit.wf, IntKind.min, IntKind.max, IntKind.signed, IntKind.bits] at hw
    omega
  refine ⟨x, rfl, ?_, ?_⟩
  · have := World.block_lt_of_cell? w _ hc
    rwa [block_add] at this
  · rw [hc, ← hj]
    simp only [List.getD, List.getElem?_eq_getElem hjz, Option.getD_some, Option.some.injEq, Value.int.injEq, true_and]
    rw [UInt8.toNat_ofNat_of_lt' (show zs[j].toNat < 256 by omega)]
    omega

/-- 'string(b)'. -/
def str (l : List UInt8) : ByteArray := ⟨l.toArray⟩
theorem str_toList (l : List UInt8) : (str l).data.toList = l := rfl
theorem str_bytes (l : List UInt8) : (str l).toList = l := by
  rw [ByteArray.toList_eq]
  rfl
theorem str_size (l : List UInt8) : (str l).size = l.length := by simp [str, ByteArray.size]
theorem str_inj {a b : List UInt8} (h : str a = str b) : a = b := by
  have := congrArg (fun s => s.data.toList) h
  simpa [str] using this
theorem run_string {P : Program} (h : Bs w B A n l) (src e dst : TypeId) (c : Nat) (hs : P.underlying src = some (.slice e)) (he : P.underlying e = some (.int .u8)) (hd : P.underlying dst = some .string) :
    (convert src dst (.slice A n c)).run P w = .ok (.string (str l)) w := by
  rcases Nat.eq_zero_or_pos n with h0 | h0
  · subst h0
    have hl : l = [] := List.eq_nil_of_length_eq_zero h.len
    subst hl
    rw [run_convert_bytes_string w src dst e A 0 c hs he hd]
    cases A with
    | none => simp [Conv.bytesToString]; rfl
    | some a => 
      rw [run_bytesToString w a 0 c [] (by simpa using run_loadCells_list (P := P) w a [] (fun j v hj => by simp at hj))]
      rfl
  · obtain ⟨ad, _, rfl, _, _⟩ := h.at_ h0
    have hl : (loadCells ad n).run P w = .ok ((l.map fun b => (b.toNat : Int)).map (Value.int .u8)).toArray w := by
      have := run_loadCells_list (P := P) w ad (bv l) (fun j v hj => by
        obtain ⟨ad', e, _, hc⟩ := Vs.rd h j v hj
        injection e with e
        subst e
        exact hc)
      rw [bv_length, h.len] at this
      simpa [bv, List.map_map, Function.comp_def] using this
    rw [run_convert_bytes_string w src dst e _ n c hs he hd, run_bytesToString w ad n c _ hl, foldl_push_bytes]
    congr 2
    simp [str, ByteArray.empty, ByteArray.emptyWithCapacity, List.map_map, Function.comp_def]
    rfl
end

/-- 'append(out, xs...)': out is the call's own, xs is read. -/
theorem run_append {P : Program} (w : World) (base : Nat) (t ty e : TypeId) (i : TypeInfo) (z : Value) (size bytes : Nat) (ht : P.underlying t = some (.slice e)) (hi : P.info? e = some i) (hz : i.zero = some z)
    (hsize : i.size = size) (hby : i.bytes = bytes) (hzs : z.cells.size = size) (hsz : 0 < size)
    (v : Value) (n : Nat) (xs : List Value) (hown : w.ownsRow base e size v n xs)
    (B : Nat) (A : Option Addr) (m c : Nat) (news : List Value) (hr : Vs w B size A m news) (h1 : ∀ u ∈ news, u.oneCell' = true)
    (h63 : n + m ≤ maxLen) (hbytes : (n + m) * bytes ≤ 140737488355328) (hbase : base ≤ w.heap.size) :
    ∃ v' w', (Builtin.append_ #[t, t] ty #[v, .slice A m c]).run P w = .ok v' w' ∧ w'.ownsRow base e size v' (n + m) (xs ++ news) ∧ w.grownBy w' v.ownBlock ∧
      (v'.ownBlock = v.ownBlock ∨ v'.ownBlock = some w.heap.size) := by
  by_cases hm : m = 0
  · subst hm
    have hn : news = [] := List.eq_nil_of_length_eq_zero (by simpa using hr.len)
    subst hn
    cases A with
    | none =>
      refine ⟨v, w, ?_, by simpa using hown, World.grownBy.refl w _, .inl rfl⟩
      rcases hown.2 with ⟨rfl, rfl⟩ | ⟨g, cap, cur, rfl, _, _, hnc, _⟩
      · simp [Builtin.append_, run_underlying ht, sizeOf, typeInfo, hi, Builtin.lenOf, Builtin.firstCells]
      · simp [Builtin.append_, run_underlying ht, sizeOf, typeInfo, hi, Builtin.lenOf, Builtin.firstCells, hnc, storeCells]
    | some ad =>
      obtain ⟨v', w', hrun, h2, h3, _, h5⟩ := run_append_own_at (P := P) w base t ty e i z size bytes ht hi hz hsize hby hzs hsz v n xs hown ad 0 c [] (by simp) (fun j u hj => by simp at hj) (by simp) h63 hbytes hbase
      exact ⟨v', w', hrun, h2, h3, h5⟩
  · have hpos : 0 < news.length := by
      rw [hr.len]
      exact Nat.mul_pos (by omega) hsz
    obtain ⟨ad, rfl, _, _⟩ := hr.rd 0 _ (List.getElem?_eq_getElem hpos)
    obtain ⟨v', w', hrun, h2, h3, _, h5⟩ := run_append_own_at (P := P) w base t ty e i z size bytes ht hi hz hsize hby hzs hsz v n xs hown ad m c news hr.len (fun j u hj => by
      obtain ⟨ad', e, _, hc⟩ := hr.rd j u hj
      injection e with e
      subst e
      exact hc) h1 h63 hbytes hbase
    exact ⟨v', w', hrun, h2, h3, h5⟩

theorem wp_append {P : Program} (w : World) {o : Oper} {a : Act} {K : Act → World → Prop} {Q : Exit → Act → World → Prop} (s x : Operand) (t : TypeId)
    (ho : o.op = .call { callee := .builtin .append, args := #[s, x], argTypes := #[t, t] })
    (base : Nat) (e : TypeId) (i : TypeInfo) (z : Value) (size bytes : Nat) (ht : P.underlying t = some (.slice e)) (hi : P.info? e = some i) (hz : i.zero = some z)
    (hsize : i.size = size) (hby : i.bytes = bytes) (hzs : z.cells.size = size) (hsz : 0 < size)
    (v : Value) (n : Nat) (xs : List Value) (hs : a.eval s = v) (hown : w.ownsRow base e size v n xs)
    (B : Nat) (A : Option Addr) (m c : Nat) (news : List Value) (hx : a.eval x = .slice A m c) (hr : Vs w B size A m news) (h1 : ∀ u ∈ news, u.oneCell' = true)
    (h63 : n + m ≤ maxLen) (hbytes : (n + m) * bytes ≤ 140737488355328) (hbase : base ≤ w.heap.size)
    (h : ∀ A' c' w', w'.ownsRow base e size (.slice A' (n + m) c') (n + m) (xs ++ news) → n + m ≤ c' → c' ≤ 9223372036854775807 → w.grownBy w' v.ownBlock → K (a.put o.dst (.slice A' (n + m) c')) w') : o.wp P a w K Q := by
  obtain ⟨v', w', hrun, h2, h3, _⟩ := run_append (P := P) w base t o.type e i z size bytes ht hi hz hsize hby hzs hsz v n xs hown B A m c news hr h1 h63 hbytes hbase
  obtain ⟨A', c', rfl, g1, g2⟩ := own_form h2
  unfold Oper.wp execOp
  simp only [ho, resolve, invoke, builtin, Sem.run_bind, Sem.run_pure, Result.andThen_ok, List.map_toArray, List.map_cons, List.map_nil, hs, hx, hrun]
  exact h A' c' w' h2 g1 g2 h3
theorem wpList_append {P : Program} (w : World) {ops : Array Oper} {rest : List Oper} {o : Oper} {a : Act} {Q : Exit → Act → World → Prop} (hgd : o.guard = none) (s x : Operand) (t : TypeId)
    (ho : o.op = .call { callee := .builtin .append, args := #[s, x], argTypes := #[t, t] })
    (base : Nat) (e : TypeId) (i : TypeInfo) (z : Value) (size bytes : Nat) (ht : P.underlying t = some (.slice e)) (hi : P.info? e = some i) (hz : i.zero = some z)
    (hsize : i.size = size) (hby : i.bytes = bytes) (hzs : z.cells.size = size) (hsz : 0 < size)
    (v : Value) (n : Nat) (xs : List Value) (hs : a.eval s = v) (hown : w.ownsRow base e size v n xs)
    (B : Nat) (A : Option Addr) (m c : Nat) (news : List Value) (hx : a.eval x = .slice A m c) (hr : Vs w B size A m news) (h1 : ∀ u ∈ news, u.oneCell' = true)
    (h63 : n + m ≤ maxLen) (hbytes : (n + m) * bytes ≤ 140737488355328) (hbase : base ≤ w.heap.size)
    (h : ∀ A' c' w', w'.ownsRow base e size (.slice A' (n + m) c') (n + m) (xs ++ news) → n + m ≤ c' → c' ≤ 9223372036854775807 → w.grownBy w' v.ownBlock → wpList P ops Q rest (a.put o.dst (.slice A' (n + m) c')) w') : wpList P ops Q (o :: rest) a w :=
  wpList_plain hgd fun _ hK => wp_append w s x t ho base e i z size bytes ht hi hz hsize hby hzs hsz v n xs hs hown B A m c news hx hr h1 h63 hbytes hbase fun A' c' w' h2 g1 g2 h3 => hK _ _ (h A' c' w' h2 g1 g2 h3)
/-- 'append(out, x)' of one element of one cell: x lies in a block of its own, laid the moment before. -/
theorem wpList_push {P : Program} {w : World} {e : TypeId} {X : Value} {ops : Array Oper} {rest : List Oper} {o : Oper} {a : Act} {Q : Exit → Act → World → Prop} (hgd : o.guard = none) (s x : Operand) (t : TypeId)
    (ho : o.op = .call { callee := .builtin .append, args := #[s, x], argTypes := #[t, t] })
    (base : Nat) (i : TypeInfo) (z : Value) (bytes : Nat) (ht : P.underlying t = some (.slice e)) (hi : P.info? e = some i) (hz : i.zero = some z)
    (hsize : i.size = 1) (hby : i.bytes = bytes) (hzs : z.cells.size = 1)
    (v : Value) (n : Nat) (xs : List Value) (hs : a.eval s = v) (hown : w.ownsRow base e 1 v n xs)
    (hx : a.eval x = .slice (some ⟨w.heap.size, 0, none⟩) 1 1) (hX : X.oneCell' = true)
    (h63 : n + 1 ≤ maxLen) (hbytes : (n + 1) * bytes ≤ 140737488355328) (hbase : base ≤ w.heap.size)
    (h : ∀ A' c' w', w'.ownsRow base e 1 (.slice A' (n + 1) c') (n + 1) (xs ++ [X]) → n + 1 ≤ c' → c' ≤ 9223372036854775807 → (w.alloc (.cells #[X] e)).grownBy w' v.ownBlock → wpList P ops Q rest (a.put o.dst (.slice A' (n + 1) c')) w') : wpList P ops Q (o :: rest) a (w.alloc (.cells #[X] e)) :=
  wpList_append (w.alloc (.cells #[X] e)) hgd s x t ho base e i z 1 bytes ht hi hz hsize hby hzs (by omega) v n xs hs (hown.alloc _) _ _ 1 1 [X] hx
    (Vs.new w #[X] e (0, 0) 1 1 [X] rfl (by simp)) (by intro u hu; simp at hu; subst hu; exact hX) h63 hbytes (by simp; omega) h
theorem below_push {a w w1 : World} {B base : Nat} {X v : Value} {e : TypeId} {n : Nat} {xs : List Value} (hb : Below B a w) (hg : (w.alloc (.cells #[X] e)).grownBy w1 v.ownBlock) (hB : B ≤ w.heap.size) (hown : w.ownsRow base e 1 v n xs) (hbase : B ≤ base) : Below B a w1 :=
  below_grown (hb.alloc hB _) hg (by simp; omega) (hown.alloc (.cells #[X] e)) hbase
/-- The same as one step of a region that draws its order. -/
theorem step_push {P : Program} {w : World} {e : TypeId} {X : Value} {ops : Array Oper} {o : Oper} {a : Act} {K : Act → World → Prop} {Q : Exit → Act → World → Prop} {E : Prop} (hgd : o.guard = none) (s x : Operand) (t : TypeId)
    (ho : o.op = .call { callee := .builtin .append, args := #[s, x], argTypes := #[t, t] })
    (base : Nat) (i : TypeInfo) (z : Value) (bytes : Nat) (ht : P.underlying t = some (.slice e)) (hi : P.info? e = some i) (hz : i.zero = some z)
    (hsize : i.size = 1) (hby : i.bytes = bytes) (hzs : z.cells.size = 1)
    (v : Value) (n : Nat) (xs : List Value) (hs : a.eval s = v) (hown : w.ownsRow base e 1 v n xs)
    (hx : a.eval x = .slice (some ⟨w.heap.size, 0, none⟩) 1 1) (hX : X.oneCell' = true)
    (h63 : n + 1 ≤ maxLen) (hbytes : (n + 1) * bytes ≤ 140737488355328) (hbase : base ≤ w.heap.size)
    (h : ∀ A' c' w', w'.ownsRow base e 1 (.slice A' (n + 1) c') (n + 1) (xs ++ [X]) → n + 1 ≤ c' → c' ≤ 9223372036854775807 → (w.alloc (.cells #[X] e)).grownBy w' v.ownBlock → K (a.put o.dst (.slice A' (n + 1) c')) w') :
    if Region.wanted o (yielded ops a.tmps) = true then Oper.wp P o a (w.alloc (.cells #[X] e)) K Q else E := by
  have hw : Region.wanted o (yielded ops a.tmps) = true := by simp [Region.wanted, hgd]
  rw [if_pos hw]
  exact wp_append (w.alloc (.cells #[X] e)) s x t ho base e i z 1 bytes ht hi hz hsize hby hzs (by omega) v n xs hs (hown.alloc _) _ _ 1 1 [X] hx
    (Vs.new w #[X] e (0, 0) 1 1 [X] rfl (by simp)) (by intro u hu; simp at hu; subst hu; exact hX) h63 hbytes (by simp; omega) h
end Mem
attribute [go_sem] Mem.str_bytes
end Go.Proofs.YtgalhnobckoneaaGreatDoor
