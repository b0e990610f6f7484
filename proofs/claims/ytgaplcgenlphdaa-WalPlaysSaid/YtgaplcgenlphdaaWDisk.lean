/- THE WALKS of disk.New, Arm; whatever is asked of a disk: one contract each. -/
import Derived.Test.YtgaplcgenlphdaaDiskWrite
namespace Go.Proofs.Ytgaplcgenlphdaa
open Go.RowKit Mem

def zrow (n : Nat) : Array Value := madeCells zsec (n * 128)
theorem zrow_size (n : Nat) : (zrow n).size = n * 128 := size_madeCells _ _
theorem zrep_at (n j : Nat) (h : j < n) : (bv (List.replicate n 0)).toArray[j]? = some (.int .u8 0) := by
  simp [bv, h]
theorem zsec_at (j : Nat) (h : j < 128) : zsec[j]? = some (.int .u8 0) := zrep_at 128 j h
theorem zrow_at (n j : Nat) (h : j < n * 128) : (zrow n)[j]? = some (.int .u8 0) := by
  unfold zrow madeCells
  rw [Array.getElem?_eq_getElem (by simpa using h)]
  have hz : j % 128 < zsec.size := by rw [zsec_size]; omega
  have e : zsec[j % 128]? = some (.int .u8 0) := zsec_at _ (by omega)
  simp [zsec_size, getElem!_def, e]
theorem info_sector3 : (Try.prog.info? 68).map (fun i => (i.zero, i.size, i.bytes)) = some (some (.agg zsec), 128, 128) := by kernel_rfl
theorem make_row (w : World) (n : Nat) (h : n ≤ 256) : (Instr.makeSlice 67 (.int .i64 (n : Int)) (.int .i64 (n : Int))).run Try.prog w = .ok (.slice (some ⟨w.heap.size, 0, none⟩) n n) (w.alloc (.cells (zrow n) 68)) := by
  obtain ⟨i0, hi, hz0, hz1, hz2⟩ := info_parts info_sector3
  have hr := run_make (P := Try.prog) w 67 68 i0 _ Try.underlying67 hi hz0 .i64 .i64 (n : Int) (n : Int) (by omega) (by omega) (by rw [hz2]; omega) (by omega)
  rw [hr, hz1]
  rfl
def diskCells (v : Value) : Array Value := #[v, .int .i64 0, .bool false, .bool false, .int .i64 0] ++ zsec
def buildDisk (ps : Array (Nat × Value)) : Sem Value := Instr.build 70 ps
theorem named_build_disk (ps : Array (Nat × Value)) : Instr.build 70 ps = buildDisk ps := rfl
theorem build_disk (w : World) (A : Option Addr) (n c : Nat) : (buildDisk #[(0, .slice A n c)]).run Try.prog w = .ok (.agg (diskCells (.slice A n c))) w := by kernel_rfl
attribute [go_sem ↓] named_build_disk
attribute [go_sem] build_disk

theorem diskCells_at (v : Value) (j : Nat) (h : j < 128) : (diskCells v)[5 + j]? = some (.int .u8 0) := by
  unfold diskCells
  rw [Array.getElem?_append_right (by simp)]
  simpa using zsec_at j h

theorem diskCells_low (v : Value) (j : Nat) (h : j < 5) : (diskCells v)[j]? = (#[v, .int .i64 0, .bool false, .bool false, .int .i64 0] : Array Value)[j]? := by
  unfold diskCells
  rw [Array.getElem?_append_left (by simpa using h)]

/-- A new disk. -/
def NewDisk (w : World) (d : DS) (e : Ending) (w' : World) : Prop :=
  ∃ p g, e = .returned (.pointer (some ⟨p, 0, none⟩)) ∧ IsDisk w' p g d ∧ Below w.heap.size w w' ∧ w.heap.size ≤ p ∧ w.heap.size ≤ g

set_option maxHeartbeats 1000000 in
theorem new_any (n : Nat) (w : World) (h1 : 1 ≤ n) (h2 : n ≤ 256) : Calls Try.prog 10 #[.int .i64 (n : Int)] w (NewDisk w (DS.fresh n)) := by
  have hmk := make_row w n h2
  go_enter Try.func10, Try.ntmps10
  go_wp2
  go_ret
  have hb : Below w.heap.size w ((w.alloc (.cells (zrow n) 68)).alloc (.cells (diskCells (.slice (some ⟨w.heap.size, 0, none⟩) n n)) 70)) := ((Below.refl _ _).alloc (Nat.le_refl _) _).alloc (by simp) _
  have hp : ∀ k, ((w.alloc (.cells (zrow n) 68)).alloc (.cells (diskCells (.slice (some ⟨w.heap.size, 0, none⟩) n n)) 70)).cell? ⟨w.heap.size + 1, k, none⟩ = (diskCells (.slice (some ⟨w.heap.size, 0, none⟩) n n))[k]? := fun k => by
    have := cell_new (w.alloc (.cells (zrow n) 68)) (diskCells (.slice (some ⟨w.heap.size, 0, none⟩) n n)) 70 (0, 0) k
    rw [World.size_alloc] at this
    exact this
  have hg : ∀ k, ((w.alloc (.cells (zrow n) 68)).alloc (.cells (diskCells (.slice (some ⟨w.heap.size, 0, none⟩) n n)) 70)).cell? ⟨w.heap.size, k, none⟩ = (zrow n)[k]? := fun k => by
    rw [World.cell?_alloc_lt _ _ _ (by simp)]
    exact cell_new w (zrow n) 68 (0, 0) k
  have hgp : ((w.alloc (.cells (zrow n) 68)).alloc (.cells (diskCells (.slice (some ⟨w.heap.size, 0, none⟩) n n)) 70)).heap[w.heap.size + 1]? = some (.cells (diskCells (.slice (some ⟨w.heap.size, 0, none⟩) n n)) 70 (0, 0)) := by
    have := heap_alloc_last (w.alloc (.cells (zrow n) 68)) (.cells (diskCells (.slice (some ⟨w.heap.size, 0, none⟩) n n)) 70)
    simpa using this
  have hgg : ((w.alloc (.cells (zrow n) 68)).alloc (.cells (diskCells (.slice (some ⟨w.heap.size, 0, none⟩) n n)) 70)).heap[w.heap.size]? = some (.cells (zrow n) 68 (0, 0)) := by
    rw [Below.heap_alloc _ _ _ (by simp)]
    exact heap_alloc_last w _
  have hlen : (DS.fresh n).secs.length = n := by simp [DS.fresh]
  refine ⟨w.heap.size + 1, w.heap.size, rfl, ⟨⟨n, by rw [hlen]; omega, by rw [hlen]; exact (hp 0).trans (diskCells_low _ 0 (by omega))⟩, (hp 1).trans (diskCells_low _ 1 (by omega)), (hp 2).trans (diskCells_low _ 2 (by omega)), (hp 3).trans (diskCells_low _ 3 (by omega)), ⟨0, by omega, by omega, (hp 4).trans (diskCells_low _ 4 (by omega)), fun n t e => by simp [DS.fresh] at e⟩,
    ⟨List.replicate 128 0, by simp, fun j hj => ?_, fun n t e => by simp [DS.fresh] at e⟩, fun i hi => ⟨by simp [DS.fresh], ?_⟩, fun o => frozen_of_row _ _ _ _ _ hgp, fun o => frozen_of_row _ _ _ _ _ hgg, by omega, by simp, by simp; omega, by rw [hlen]; exact h1, by rw [hlen]; exact h2⟩, hb, by omega, by omega⟩
  · rw [hp, diskCells_at _ _ (by rwa [List.length_replicate] at hj), List.getElem_replicate]
    rfl
  · have hi' : i < n := by rwa [hlen] at hi
    rw [show (DS.fresh n).secs[i] = List.replicate 128 0 from by simp [DS.fresh]]
    intro j hj
    have hj' : j < 128 := by simpa using hj
    rw [hg, zrow_at n _ (by omega), List.getElem_replicate]
    rfl

section
variable {w : World} {p g : Nat} {d : DS}
set_option maxHeartbeats 1000000 in
theorem arm_any (h : IsDisk w p g d) (x : Int) (hx1 : -9223372036854775808 ≤ x) (hx2 : x ≤ 9223372036854775807) (A : Option Addr) (n c B : Nat) (l : List UInt8) (hd : Bs w B A n l) (hB : B ≤ w.heap.size) :
    Calls Try.prog 21 #[.pointer (some ⟨p, 0, none⟩), .int .i64 x, .slice A n c] w fun e w' => e = .returned (.tuple #[]) ∧ IsDisk w' p g (d.arm x l) ∧ Chg [p, g] w w' := by
  obtain ⟨a, _, _, h4, _⟩ := h.c4
  obtain ⟨t, ht1, ht2, _⟩ := h.c5
  have hcl := bv_cells (fill l) (fill_length l)
  have hH : Has w p 5 128 := by have := ht2.has; rwa [ht1] at this
  go_enter Try.func21, Try.ntmps21
  go_wp2_with fail
  refine (of_any A n c B l w hd hB).mono ?_
  rintro e w1 ⟨rfl, hb1⟩
  have hc1 : Chg [p, g] w w1 := Chg.of_below hb1
  have q : ∀ k, w1.cell? ⟨p, k, none⟩ = w.cell? ⟨p, k, none⟩ := fun k => hb1.cell (p := ⟨p, k, none⟩) h.plt
  have qg : ∀ k, w1.cell? ⟨g, k, none⟩ = w.cell? ⟨g, k, none⟩ := fun k => hb1.cell (p := ⟨g, k, none⟩) h.glt
  have q3 := (q 3).trans h.c3
  have q4 := (q 4).trans h4
  have qH := hH.below hb1 h.plt
  have qf : ∀ k, w1.frozen? ⟨p, k, none⟩ = false := fun k => (hb1.frozen (p := ⟨p, k, none⟩) h.plt).trans (h.pf k)
  have qF : Fre w1 p 5 128 := fun j _ => qf _
  have q' := Lib.hid q
  have qg' := Lib.hid qg
  clear q qg h4
  go_wp2
  go_end0
  have hne := h.ne
  have hch := ((hc1.setCell (p := ⟨p, 3, none⟩) (.inl (by simp)) (.bool (decide (0 ≤ x)))).setCell (p := ⟨p, 4, none⟩) (.inl (by simp)) (.int .i64 x)).setCells (bv (fill l)) (b := p) (o := 5) (.inl (by simp))
  have pk : ∀ k, k < 5 → k ≠ 3 → k ≠ 4 → (((w1.setCell ⟨p, 3, none⟩ (.bool (decide (0 ≤ x)))).setCell ⟨p, 4, none⟩ (.int .i64 x)).setCells p 5 (bv (fill l))).cell? ⟨p, k, none⟩ = w.cell? ⟨p, k, none⟩ := fun k k5 k3 k4 =>
    (setcs_out _ _ _ _ _ (.inl k5)).trans ((setc_ne _ p 4 k _ (Ne.symm k4)).trans ((setc_ne _ p 3 k _ (Ne.symm k3)).trans (q'.out k)))
  have gk : ∀ k, (((w1.setCell ⟨p, 3, none⟩ (.bool (decide (0 ≤ x)))).setCell ⟨p, 4, none⟩ (.int .i64 x)).setCells p 5 (bv (fill l))).cell? ⟨g, k, none⟩ = w.cell? ⟨g, k, none⟩ := fun k =>
    (setcs_far _ _ _ _ _ _ (Ne.symm hne)).trans ((setc_far _ p 4 g k _ hne).trans ((setc_far _ p 3 g k _ hne).trans (qg'.out k)))
  have fr : ∀ b k, (((w1.setCell ⟨p, 3, none⟩ (.bool (decide (0 ≤ x)))).setCell ⟨p, 4, none⟩ (.int .i64 x)).setCells p 5 (bv (fill l))).frozen? ⟨b, k, none⟩ = w1.frozen? ⟨b, k, none⟩ := fun b k => by
    rw [World.frozen?_setCells, World.frozen?_setCell, World.frozen?_setCell]
  have hx : (d.arm x l).left.isSome = decide (0 ≤ x) := by
    unfold DS.arm
    by_cases h0 : 0 ≤ x <;> simp [h0]
  obtain ⟨cc, cc1, cc2⟩ := h.c0
  refine ⟨rfl, ⟨⟨cc, cc1, (pk 0 (by omega) (by omega) (by omega)).trans cc2⟩, (pk 1 (by omega) (by omega) (by omega)).trans h.c1, (pk 2 (by omega) (by omega) (by omega)).trans h.c2,
    by rw [hx]; exact (setcs_out _ _ _ _ _ (.inl (by omega))).trans ((setc_ne _ p 4 3 _ (by omega)).trans (setc_same _ _ _ _ _ q3)),
    ⟨x, hx1, hx2, (setcs_out _ _ _ _ _ (.inl (by omega))).trans (setc_same _ _ _ _ _ ((setc_ne _ p 3 4 _ (by omega)).trans q4)), fun n t e => ?_⟩,
    ⟨fill l, fill_length l, Arr.of_setCells _ _ _ _ (by rw [fill_length, has_setCell, has_setCell]; exact qH), fun n t e => ?_⟩,
    fun i hi => ⟨(h.secs i hi).1, (h.secs i hi).2.keep fun j _ => gk j⟩, fun o => (fr p o).trans (qf o), fun o => (fr g o).trans ((hb1.frozen (p := ⟨g, o, none⟩) h.glt).trans (h.gf o)), hne, Nat.lt_of_lt_of_le h.plt hch.size, Nat.lt_of_lt_of_le h.glt hch.size, h.pos, h.max⟩, hch⟩
  · unfold DS.arm at e
    by_cases h0 : 0 ≤ x
    · simp only [h0, if_true, Option.some.injEq, Prod.mk.injEq] at e
      omega
    · simp [h0] at e
  · unfold DS.arm at e
    by_cases h0 : 0 ≤ x
    · simp only [h0, if_true, Option.some.injEq, Prod.mk.injEq] at e
      exact e.2
    · simp [h0] at e
end
theorem flatten_at : ∀ (L : List (List UInt8)) (i j : Nat) (hi : i < L.length) (_ : ∀ x ∈ L, x.length = 128) (hj : j < L[i].length), L.flatten[i * 128 + j]? = some L[i][j]
  | [], i, _, hi, _, _ => by simp at hi
  | x :: L, 0, j, _, h, hj => by
    have hx : x.length = 128 := h x (by simp)
    rw [List.flatten_cons, Nat.zero_mul, Nat.zero_add, List.getElem?_append_left (by simpa using hj)]
    simp at hj
    simp [hj]
  | x :: L, i + 1, j, hi, h, hj => by
    have hx : x.length = 128 := h x (by simp)
    rw [List.flatten_cons, List.getElem?_append_right (by omega)]
    have := flatten_at L i j (by simpa using hi) (fun y hy => h y (by simp [hy])) (by simpa using hj)
    rw [show (i + 1) * 128 + j - x.length = i * 128 + j by omega, this]
    simp
theorem flatten_len (L : List (List UInt8)) (h : ∀ x ∈ L, x.length = 128) : L.flatten.length = L.length * 128 := by
  induction L with
  | nil => rfl
  | cons x L ih =>
    rw [List.flatten_cons, List.length_append, ih (fun y hy => h y (by simp [hy])), h x (by simp), List.length_cons]
    omega
theorem IsDisk.len128 {w : World} {p g : Nat} {d : DS} (h : IsDisk w p g d) : ∀ x ∈ d.secs, x.length = 128 := by
  intro x hx
  obtain ⟨i, hi, rfl⟩ := List.getElem_of_mem hx
  exact (h.secs i hi).1
section
variable {w : World} {p g : Nat} {d : DS}
theorem write_any (h : IsDisk w p g d) (i : Int) (A : Option Addr) (n c : Nat) (l : List UInt8) (hk : ∀ W, Chg [p, g] w W → Bs W W.heap.size A n l) (hwr : d.writes < 4611686018427387904) :
    Calls Try.prog 17 #[.pointer (some ⟨p, 0, none⟩), .int .i64 i, .slice A n c] w fun e w' => e = .returned (.int .i64 (d.writeErr i l)) ∧ IsDisk w' p g (d.write i l) ∧ Chg [p, g] w w' := by
  have hln : l.length = n := (hk w (Chg.refl _ _)).len
  by_cases hb : d.bad i l
  · have e1 : d.writeErr i l = 1 := by unfold DS.writeErr; rw [if_pos hb]
    have e2 : d.write i l = d := by unfold DS.write; rw [if_pos hb]
    rw [e1, e2]
    by_cases hi : i < 0 ∨ (d.secs.length : Int) ≤ i
    · exact (write_bad h i A n c hi).mono fun _ _ ⟨he, hw⟩ => by subst hw; exact ⟨he, h, Chg.refl _ _⟩
    · unfold DS.bad at hb
      exact (write_long h i A n c (by omega) (by omega) (by omega)).mono fun _ _ ⟨he, hw⟩ => by subst hw; exact ⟨he, h, Chg.refl _ _⟩
  · have hb' := hb
    unfold DS.bad at hb'
    by_cases hdn : d.down = true
    · have e1 : d.writeErr i l = 26 := by unfold DS.writeErr; rw [if_neg hb, if_pos hdn]
      have e2 : d.write i l = d := by unfold DS.write; rw [if_neg hb, if_pos hdn]
      rw [e1, e2]
      exact (write_down h i A n c (by omega) (by omega) (by omega) hdn).mono fun _ _ ⟨he, hw⟩ => by subst hw; exact ⟨he, h, Chg.refl _ _⟩
    · obtain ⟨k, rfl⟩ := Int.eq_ofNat_of_zero_le (show 0 ≤ i by omega)
      have hdn' : d.down = false := by simpa using hdn
      cases ht : d.tears with
      | true =>
        have e1 : d.writeErr k l = 26 := by unfold DS.writeErr; rw [if_neg hb, if_neg hdn, if_pos ht]
        have e2 : d.write k l = { secs := d.secs.set k d.torn, writes := d.writes + 1, down := true, left := none } := by unfold DS.write; rw [if_neg hb, if_neg hdn, if_pos ht]; rfl
        rw [e1, e2]
        exact write_torn h k A n c (by omega) (by omega) hdn' _ (DS.tears_some ht) hwr
      | false =>
        have e1 : d.writeErr k l = 0 := by unfold DS.writeErr; rw [if_neg hb, if_neg hdn, ht]; rfl
        have e2 : d.write k l = { secs := d.secs.set k (fill l), writes := d.writes + 1, down := false, left := d.left.map fun x => (x.1 - 1, x.2) } := by unfold DS.write; rw [if_neg hb, if_neg hdn, ht]; rfl
        rw [e1, e2]
        exact write_ok h k A n c l hk (by omega) (by omega) hdn' (DS.tears_not ht) hwr
/-- (bytes, error), the bytes new. -/
def ReadAny (w : World) (l : List UInt8) (x : Int) (e : Ending) (w' : World) : Prop :=
  ∃ A n c, e = .returned (.tuple #[.slice A n c, .int .i64 x]) ∧ n ≤ c ∧ n ≤ 128 ∧ w'.ownsRow w.heap.size 5 1 (.slice A n c) n (bv l) ∧ Below w.heap.size w w'
theorem read_any (h : IsDisk w p g d) (i : Int) : Calls Try.prog 28 #[.pointer (some ⟨p, 0, none⟩), .int .i64 i] w (ReadAny w (d.read i) (d.readErr i)) := by
  by_cases hb : i < 0 ∨ (d.secs.length : Int) ≤ i
  · have e1 : d.readErr i = 1 := by unfold DS.readErr; rw [if_pos hb]
    have e2 : d.read i = [] := by unfold DS.read; rw [if_pos hb]
    rw [e1, e2]
    exact (read_bad h i hb).mono fun _ _ ⟨he, hw⟩ => by subst hw; exact ⟨none, 0, 0, he, by omega, by omega, World.ownsRow_nil _ _ _ _, Below.refl _ _⟩
  · by_cases hdn : d.down = true
    · have e1 : d.readErr i = 26 := by unfold DS.readErr; rw [if_neg hb, if_pos hdn]
      have e2 : d.read i = [] := by unfold DS.read; rw [if_neg hb, if_pos hdn]
      rw [e1, e2]
      exact (read_down h i (by omega) (by omega) hdn).mono fun _ _ ⟨he, hw⟩ => by subst hw; exact ⟨none, 0, 0, he, by omega, by omega, World.ownsRow_nil _ _ _ _, Below.refl _ _⟩
    · obtain ⟨k, rfl⟩ := Int.eq_ofNat_of_zero_le (show 0 ≤ i by omega)
      have hk : k < d.secs.length := by omega
      have e1 : d.readErr k = 0 := by unfold DS.readErr; rw [if_neg hb, if_neg hdn]
      have e2 : d.read k = d.secs[k] := by unfold DS.read; rw [if_neg hb, if_neg hdn, Int.toNat_natCast]; simp [hk]
      rw [e1, e2]
      exact (read_ok h k hk (by simpa using hdn)).mono fun _ _ ⟨A, c, he, h1, _, h3, h4⟩ => ⟨A, 128, c, he, h1, by omega, h3, h4⟩
end
/-- A []byte in one block that has not turned. -/
theorem bs_chgAt {S : List Nat} {w W : World} {B b o n : Nat} {l : List UInt8} (h : Bs w B (some ⟨b, o, none⟩) n l) (hc : Chg S w W) (hb : b ∉ S) (hlt : b < w.heap.size) : Bs W W.heap.size (some ⟨b, o, none⟩) n l := by
  refine ⟨Vs.len h, fun j u hj => ?_⟩
  obtain ⟨ad, e, _, hcell⟩ := Vs.rd h j u hj
  injection e with e
  subst e
  refine ⟨_, rfl, Nat.lt_of_lt_of_le hlt hc.size, ?_⟩
  have hblk : ((⟨b, o, none⟩ : Addr).add j).block = b := block_add _ _
  rw [hc.cell (by rw [hblk]; exact hlt) (by rw [hblk]; exact hb)]
  exact hcell
theorem new_none (x : Int) (w : World) (h : x < 1 ∨ 256 < x) : Calls Try.prog 10 #[.int .i64 x] w fun e w' => e = .returned (.pointer none) ∧ w = w' := by
  by_cases h1 : x < 1
  · go_enter Try.func10, Try.ntmps10
    go_wp2
    go_ret
    exact ⟨rfl, rfl⟩
  · have h2 : 256 < x := by omega
    have h3 : 1 ≤ x := by omega
    clear h
    go_enter Try.func10, Try.ntmps10
    go_wp2
    go_ret
    exact ⟨rfl, rfl⟩
end Go.Proofs.Ytgaplcgenlphdaa
