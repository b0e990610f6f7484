/- THE LOG's TYPES: headers, three of them, read and written as one thing; a log in memory; its small functions. -/
import Derived.Test.YtgaplcgenlphdaaWDisk
import Derived.Test.YtgaplcgenlphdaaWCrc
import Derived.Test.YtgaplcgenlphdaaWalPut
import Derived.Stop.BytesEq
import Derived.Laws.BitsLemmas
import Derived.Deep.DeepMust
import Derived.Deep.QuietTactic
import Derived.BigQuiet
namespace Go.Proofs.Ytgaplcgenlphdaa
open Go.RowKit Mem

theorem size_header : (Try.prog.info? 57).map (·.size) = some 128 := by kernel_rfl
theorem size_heads : (Try.prog.info? 58).map (·.size) = some 384 := by kernel_rfl
def loadHeader (x : Value) : Sem Value := Instr.loadAt 57 x
def storeHeader (x v : Value) : Sem Unit := Instr.storeAt 57 x v
def loadHeads (x : Value) : Sem Value := Instr.loadAt 58 x
def storeHeads (x v : Value) : Sem Unit := Instr.storeAt 58 x v
def eqlHeader (x y : Value) : Sem Value := binOp .eql 57 x y
def buildHeader (ps : Array (Nat × Value)) : Sem Value := Instr.build 57 ps
theorem named_load_header (x : Value) : Instr.loadAt 57 x = loadHeader x := rfl
theorem named_store_header (x v : Value) : Instr.storeAt 57 x v = storeHeader x v := rfl
theorem named_load_heads (x : Value) : Instr.loadAt 58 x = loadHeads x := rfl
theorem named_store_heads (x v : Value) : Instr.storeAt 58 x v = storeHeads x v := rfl
theorem named_eql_header (x y : Value) : binOp .eql 57 x y = eqlHeader x y := rfl
theorem named_build_header (ps : Array (Nat × Value)) : Instr.build 57 ps = buildHeader ps := rfl
theorem load_header (w : World) (b o : Nat) (h : Has w b o 128) : (loadHeader (.pointer (some ⟨b, o, none⟩))).run Try.prog w = .ok (.agg (arr w b o 128)) w :=
  run_load_arr w _ b o 128 _ Try.underlying57 rfl size_header h
theorem load_heads (w : World) (b o : Nat) (h : Has w b o 384) : (loadHeads (.pointer (some ⟨b, o, none⟩))).run Try.prog w = .ok (.agg (arr w b o 384)) w :=
  run_load_arr w _ b o 384 _ Try.underlying58 rfl size_heads h
theorem store_header (w : World) (b o : Nat) (V : Array Value) (hV : Cells V 128) (h : Has w b o 128) (hf : Fre w b o 128) : (storeHeader (.pointer (some ⟨b, o, none⟩)) (.agg V)).run Try.prog w = .ok () (w.setCells b o V.toList) :=
  run_store_arr w _ b o 128 size_header V hV h hf
theorem store_heads (w : World) (b o : Nat) (V : Array Value) (hV : Cells V 384) (h : Has w b o 384) (hf : Fre w b o 384) : (storeHeads (.pointer (some ⟨b, o, none⟩)) (.agg V)).run Try.prog w = .ok () (w.setCells b o V.toList) :=
  run_store_arr w _ b o 384 size_heads V hV h hf
theorem size8 (w : World) : (sizeOf 5).run Try.prog w = .ok 1 w := by
  obtain ⟨i0, hi, _, hz1, _⟩ := info_parts info8
  simp [sizeOf, typeInfo, hi, hz1]
theorem eql_header (w : World) (x y : List UInt8) (hx : x.length = 128) (hy : y.length = 128) : (eqlHeader (.agg (bv x).toArray) (.agg (bv y).toArray)).run Try.prog w = .ok (.bool (x == y)) w :=
  run_eql_bytes w 57 5 128 Try.underlying57 Try.underlying5 size8 x y hx hy
attribute [go_sem ↓] named_load_header named_store_header named_load_heads named_store_heads named_eql_header named_build_header
attribute [go_sem] load_header load_heads store_header store_heads

def zhead : Array Value := (bv (List.replicate 128 0)).toArray
def zheads : Array Value := (bv (List.replicate 384 0)).toArray
theorem info_header : (Try.prog.info? 57).map (fun i => (i.zero, i.size)) = some (some (.agg zhead), 128) := by kernel_rfl
theorem info_heads : (Try.prog.info? 58).map (fun i => (i.zero, i.size)) = some (some (.agg zheads), 384) := by kernel_rfl
theorem zero_header (w : World) : (zeroValue 57).run Try.prog w = .ok (.agg zhead) w := (zero_of_info info_header).1 w
theorem zero_heads (w : World) : (zeroValue 58).run Try.prog w = .ok (.agg zheads) w := (zero_of_info info_heads).1 w
attribute [go_sem] zero_header zero_heads
theorem zhead_size : zhead.size = 128 := by simp [zhead, bv_length]
theorem zheads_size : zheads.size = 384 := by unfold zheads; rw [List.size_toArray, bv_length, List.length_replicate]
def hdrCells (a b c : Int) : Array Value := #[.int .u8 a, .int .u8 b, .int .u8 c] ++ (bv (List.replicate 125 0)).toArray
theorem build_header (w : World) (a b c : Int) : (buildHeader #[(0, .int .u8 a), (1, .int .u8 b), (2, .int .u8 c)]).run Try.prog w = .ok (.agg (hdrCells a b c)) w := by kernel_rfl
attribute [go_sem] build_header
theorem hdrCells_eq (s u : Nat) (hs : s < 256) (hu : u < 65536) : hdrCells (s : Int) ((u : Int) % 256) ((u : Int) / 256) = (bv (Wal.hdr s u)).toArray := by
  unfold hdrCells Wal.hdr fill
  have e : ∀ l : List UInt8, l.length = 3 → l.take 128 = l := fun l hl => List.take_of_length_le (by omega)
  rw [e _ rfl]
  apply Array.toList_inj.1
  simp only [bv, List.length_cons, List.length_nil, Array.toList_append, List.map_append, List.map_cons, List.map_nil]
  congr 1
  simp
  omega

/-- 'header(b)': where a slice's cells lie. -/
theorem run_header_of (w : World) (A : Option Addr) (n c : Nat) (h : 128 ≤ n) : (Instr.arrayAt 57 (.slice A n c)).run Try.prog w = .ok (.pointer A) w := by
  have hn : ¬ n < 128 := by omega
  simp [Instr.arrayAt, run_underlying Try.underlying57, hn]

/-- A log in memory. -/
structure IsLog (w : World) (q p : Nat) (side used : Nat) (dead : Bool) : Prop where
  c0 : w.cell? ⟨q, 0, none⟩ = some (.pointer (some ⟨p, 0, none⟩))
  c1 : w.cell? ⟨q, 1, none⟩ = some (.int .i64 (side : Int))
  c2 : w.cell? ⟨q, 2, none⟩ = some (.int .i64 (used : Int))
  c3 : w.cell? ⟨q, 3, none⟩ = some (.bool dead)
  qf : ∀ o, w.frozen? ⟨q, o, none⟩ = false
  qlt : q < w.heap.size
theorem IsLog.chg {w w' : World} {q p s u : Nat} {b : Bool} {S : List Nat} (h : IsLog w q p s u b) (hc : Chg S w w') (hq : q ∉ S) : IsLog w' q p s u b :=
  ⟨(hc.cell (p := ⟨q, 0, none⟩) h.qlt hq).trans h.c0, (hc.cell (p := ⟨q, 1, none⟩) h.qlt hq).trans h.c1, (hc.cell (p := ⟨q, 2, none⟩) h.qlt hq).trans h.c2, (hc.cell (p := ⟨q, 3, none⟩) h.qlt hq).trans h.c3,
    fun o => (hc.frozen (p := ⟨q, o, none⟩) h.qlt hq).trans (h.qf o), Nat.lt_of_lt_of_le h.qlt hc.size⟩

theorem size_any (n : Nat) (w : World) (hn : n ≤ 1000000) : Calls Try.prog 41 #[.int .i64 (n : Int)] w fun e w' => e = .returned (.int .i64 (Wal.size n : Nat)) ∧ w = w' := by
  go_enter Try.func41, Try.ntmps41
  go_wp2
  go_ret
  refine ⟨ret_int ?_, rfl⟩
  unfold Wal.size
  omega

section
variable {w : World} {q p g s u : Nat} {b : Bool} {d : DS}
theorem half_any (hl : IsLog w q p s u b) (h : IsDisk w p g d) (h7 : 7 ≤ d.secs.length) : Calls Try.prog 12 #[.pointer (some ⟨q, 0, none⟩)] w fun e w' => e = .returned (.int .i64 (Wal.half d.secs.length : Nat)) ∧ w = w' := by
  have h0 := hl.c0
  have hmax := h.max
  go_enter Try.func12, Try.ntmps12
  go_wp2_with fail
  refine (len_any h).mono ?_
  rintro e w' ⟨rfl, rfl⟩
  go_wp2
  go_ret
  refine ⟨ret_int ?_, rfl⟩
  unfold Wal.half
  omega
theorem used_any (hl : IsLog w q p s u b) : Calls Try.prog 13 #[.pointer (some ⟨q, 0, none⟩)] w fun e w' => e = .returned (.int .i64 (u : Int)) ∧ w = w' := by
  have h0 := hl.c2
  go_enter Try.func13, Try.ntmps13
  go_wp2
  go_ret
  exact ⟨rfl, rfl⟩
theorem at_any (hl : IsLog w q p s u b) (h : IsDisk w p g d) (h7 : 7 ≤ d.secs.length) (side k : Nat) (hs : side ≤ 1) (hk : k ≤ 1000) : Calls Try.prog 29 #[.pointer (some ⟨q, 0, none⟩), .int .i64 (side : Int), .int .i64 (k : Int)] w fun e w' => e = .returned (.int .i64 ((3 + side * Wal.half d.secs.length + k : Nat) : Int)) ∧ w = w' := by
  have hhalf := half_any hl h h7
  have hb : Wal.half d.secs.length ≤ 126 := by have := h.max; unfold Wal.half; omega
  generalize Wal.half d.secs.length = H at *
  have hx : side = 0 ∨ side = 1 := by omega
  rcases hx with rfl | rfl
  all_goals
    go_enter Try.func29, Try.ntmps29
    go_wp2_with fail
    refine hhalf.mono ?_
    rintro e w' ⟨rfl, rfl⟩
    go_wp2
    go_ret
    exact ⟨ret_int (by omega), rfl⟩
end
theorem hdrCells_cells (a b c : Int) : Cells (hdrCells a b c) 128 := by
  have h : (bv (List.replicate 125 0)).length = 125 := by rw [bv_length, List.length_replicate]
  refine ⟨?_, ?_⟩
  · unfold hdrCells
    rw [Array.size_append, List.size_toArray, List.size_toArray, h]
    rfl
  · intro v hv
    unfold hdrCells at hv
    rw [Array.toList_append, List.mem_append] at hv
    rcases hv with hv | hv
    · simp only [List.mem_cons, List.not_mem_nil, or_false] at hv
      rcases hv with rfl | rfl | rfl <;> rfl
    · exact bv_oneCell _ v hv
attribute [go_sem] hdrCells_cells
attribute [local irreducible] hdrCells
set_option maxRecDepth 100000 in
theorem hof_any (s u : Nat) (hs : s ≤ 1) (hu : u ≤ 1000) (w : World) : Calls Try.prog 46 #[.int .i64 (s : Int), .int .i64 (u : Int)] w fun e w' => e = .returned (.agg (bv (Wal.hdr s u)).toArray) ∧ Below w.heap.size w w' := by
  have hz := arr_block (heap_alloc_last w (.cells zhead 57)) (n := 128) zhead_size
  have hh := hz.2
  have hf := fre_block (o := 0) (n := 128) (heap_alloc_last w (.cells zhead 57))
  have hc := hdrCells_eq s u (by omega) (by omega)
  have HC := Lib.hid hc
  have hs256 : s < 256 := by omega
  clear hc hz
  go_enter Try.func46, Try.ntmps46
  go_wp2_with fail
  refine bodyPost_ret (results_arr (P := Try.prog) Try.results46 _ _ w.heap.size 0 128 _ rfl Try.underlying57 rfl size_header (by rw [has_setCells]; exact hh)) rfl ?_
  rw [arr_setCells_same _ _ _ _ _ (by simpa using (hdrCells_cells _ _ _).1) hh, HC.out]
  exact ⟨rfl, ((Chg.of_below (S := []) ((Below.refl _ _).alloc (Nat.le_refl _) _)).setCells _ (.inr (Nat.le_refl _))).below (by simp)⟩
end Go.Proofs.Ytgaplcgenlphdaa
