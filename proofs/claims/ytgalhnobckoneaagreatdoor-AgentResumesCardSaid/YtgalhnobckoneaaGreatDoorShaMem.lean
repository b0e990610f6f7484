/- Lists of numbers in memory. -/
import Derived.Test.YtgalhnobckoneaaGreatDoorLedMem
import Derived.Test.YtgalhnobckoneaaGreatDoorShaSpec
import Derived.Deep.RegionLaw
import Derived.Deep.DeepMust
namespace Go.Proofs.YtgalhnobckoneaaGreatDoor
open Go.RowKit Mem

/-- Numbers as values. -/
def iv (l : List Int) : List Value := l.map fun x => .int .i64 x
theorem iv_length (l : List Int) : (iv l).length = l.length := by simp [iv]
theorem iv_at (l : List Int) {k : Nat} (h : k < l.length) : (iv l)[k]? = some (.int .i64 (l.getD k 0)) := by simp [iv, h]
theorem iv_set (l : List Int) (k : Nat) (x : Int) : (iv l).set k (.int .i64 x) = iv (l.set k x) := by simp [iv, List.map_set]
/-- Words as values. -/
def wv (l : List Nat) : List Value := l.map fun x : Nat => Value.int .u64 (x : Int)
theorem wv_length (l : List Nat) : (wv l).length = l.length := by simp [wv]
theorem wv_at (l : List Nat) {k : Nat} (h : k < l.length) : (wv l)[k]? = some (.int .u64 ((l.getD k 0 : Nat) : Int)) := by simp [wv, h]
theorem wv_append (a b : List Nat) : wv (a ++ b) = wv a ++ wv b := by simp [wv]
theorem wv_one (l : List Nat) : ∀ u ∈ wv l, u.oneCell' = true := by
  intro u hu
  simp only [wv, List.mem_map] at hu
  obtain ⟨b, _, rfl⟩ := hu
  rfl
theorem iv_one (l : List Int) : ∀ u ∈ iv l, u.oneCell' = true := by
  intro u hu
  simp only [iv, List.mem_map] at hu
  obtain ⟨b, _, rfl⟩ := hu
  rfl
theorem iv_append (a b : List Int) : iv (a ++ b) = iv a ++ iv b := by simp [iv]
/-- A []int, a []uint64, that reads as these. -/
def Is (w : World) (A : Option Addr) (n : Nat) (l : List Int) : Prop := Vs w w.heap.size 1 A n (iv l)
def Ws (w : World) (A : Option Addr) (n : Nat) (l : List Nat) : Prop := Vs w w.heap.size 1 A n (wv l)
theorem vs_chg {w w' : World} {S : List Nat} {A : Option Addr} {n size : Nat} {xs : List Value} (h : Vs w w.heap.size size A n xs) (hc : Chg S w w') (hS : ∀ a, A = some a → a.block ∉ S) : Vs w' w'.heap.size size A n xs :=
  ⟨h.len, fun j u hj => by
    obtain ⟨ad, e, hb, hcell⟩ := h.rd j u hj
    exact ⟨ad, e, Nat.lt_of_lt_of_le hb hc.size, (hc.cell (by rw [block_add]; exact hb) (by rw [block_add]; exact hS ad e)).trans hcell⟩⟩
theorem vs_below {w w' : World} {A : Option Addr} {n size : Nat} {xs : List Value} (h : Vs w w.heap.size size A n xs) (hb : Below w.heap.size w w') : Vs w' w'.heap.size size A n xs := vs_chg (S := []) h (Chg.of_below hb) (by simp)
section
variable {w w' : World} {A : Option Addr} {n : Nat} {l : List Int} {m : List Nat}
theorem Is.below (h : Is w A n l) (hb : Below w.heap.size w w') : Is w' A n l := vs_below h hb
theorem Ws.below (h : Ws w A n m) (hb : Below w.heap.size w w') : Ws w' A n m := vs_below h hb
theorem Is.len (h : Is w A n l) : l.length = n := by have := Vs.len h; rw [iv_length] at this; omega
theorem Ws.len (h : Ws w A n m) : m.length = n := by have := Vs.len h; rw [wv_length] at this; omega
/-- Where they lie. -/
theorem vs_lit {xs : List Value} (h : Vs w w.heap.size 1 A n xs) (hn : 0 < n) : ∃ blk off, A = some ⟨blk, off, none⟩ ∧ blk < w.heap.size ∧ ∀ k u, xs[k]? = some u → w.cell? ⟨blk, off + k, none⟩ = some u := by
  have hl := h.len
  have h0 : 0 < xs.length := by omega
  obtain ⟨ad0, e0, hb, c0⟩ := h.rd 0 _ (List.getElem?_eq_getElem h0)
  have hsp := World.cell?_spot c0
  obtain ⟨b, o, s⟩ := ad0
  simp [Addr.add] at hsp
  subst hsp
  refine ⟨b, o, e0, hb, fun k u hk => ?_⟩
  obtain ⟨ad, e, _, c⟩ := h.rd k u hk
  rw [e0] at e
  injection e with e
  subst e
  have : (⟨b, o, none⟩ : Addr).add k = ⟨b, o + k, none⟩ := by
    unfold Addr.add; split <;> simp_all
  rw [this] at c
  exact c
theorem Is.of_blk {g : Nat} {t : TypeId} (h : Blk w g (iv l) t) : Is w (some ⟨g, 0, none⟩) l.length l :=
  ⟨by rw [iv_length]; omega, fun j u hj => ⟨_, rfl, h.lt, by rw [zero_add_]; exact (h.cell j).trans hj⟩⟩
theorem Ws.of_blk {g : Nat} {t : TypeId} (h : Blk w g (wv m) t) : Ws w (some ⟨g, 0, none⟩) m.length m :=
  ⟨by rw [wv_length]; omega, fun j u hj => ⟨_, rfl, h.lt, by rw [zero_add_]; exact (h.cell j).trans hj⟩⟩
theorem Ws.of_own {base c : Nat} {e : TypeId} (h : w.ownsRow base e 1 (.slice A n c) n (wv m)) : Ws w A n m := Vs.of_own h
theorem Is.of_own {base c : Nat} {e : TypeId} (h : w.ownsRow base e 1 (.slice A n c) n (iv l)) : Is w A n l := Vs.of_own h
end
theorem infoI : (Tryz.prog.info? 3).map (fun i => (i.zero, i.size, i.bytes)) = some (some (.int .i64 0), 1, 8) := by kernel_rfl
theorem infoW : (Tryz.prog.info? 77).map (fun i => (i.zero, i.size, i.bytes)) = some (some (.int .u64 0), 1, 8) := by kernel_rfl
theorem infoB : (Tryz.prog.info? 5).map (fun i => (i.zero, i.size, i.bytes)) = some (some (.int .u8 0), 1, 1) := by kernel_rfl
theorem made_one (v : Value) (h : v.cells = #[v]) (n : Nat) : madeCells v.cells (n * 1) = (List.replicate n v).toArray := by
  rw [h]
  apply Array.ext
  · simp [size_madeCells]
  · intro j h1 h2
    unfold madeCells
    simp [Nat.mod_one]
theorem makeI (w : World) (n : Nat) (h : n ≤ 100000) : (Instr.makeSlice 175 (.int .i64 (n : Int)) (.int .i64 (n : Int))).run Tryz.prog w = .ok (.slice (some ⟨w.heap.size, 0, none⟩) n n) (w.alloc (.cells (iv (List.replicate n 0)).toArray 3)) := by
  obtain ⟨i0, hi, hz0, hz1, hz2⟩ := info_parts infoI
  have hr := run_make (P := Tryz.prog) w 175 3 i0 _ Tryz.underlying175 hi hz0 .i64 .i64 (n : Int) (n : Int) (by omega) (by omega) (by rw [hz2]; omega) (by omega)
  rw [hz1] at hr
  rw [show (iv (List.replicate n 0)).toArray = madeCells (.int .i64 0 : Value).cells (n * 1) by rw [made_one _ rfl]; simp [iv]]
  exact hr
theorem makeB (w : World) (n : Nat) (h : n ≤ 100000) : (Instr.makeSlice 27 (.int .i64 (n : Int)) (.int .i64 (n : Int))).run Tryz.prog w = .ok (.slice (some ⟨w.heap.size, 0, none⟩) n n) (w.alloc (.cells (bv (List.replicate n 0)).toArray 5)) := by
  obtain ⟨i0, hi, hz0, hz1, hz2⟩ := info_parts infoB
  have hr := run_make (P := Tryz.prog) w 27 5 i0 _ Tryz.underlying27 hi hz0 .i64 .i64 (n : Int) (n : Int) (by omega) (by omega) (by rw [hz2]; omega) (by omega)
  rw [hz1] at hr
  rw [show (bv (List.replicate n 0)).toArray = madeCells (.int .u8 0 : Value).cells (n * 1) by rw [made_one _ rfl]; simp [bv]]
  exact hr
end Go.Proofs.YtgalhnobckoneaaGreatDoor
