/- THE WALK of a disk's Copy. -/
import Derived.Test.YtkeblekgjcoheaaDiskNew
namespace Go.Proofs.Ytkeblekgjcoheaa
open Go.RowKit Mem

def zdisk : Array Value := diskCells (.slice none 0 0)
theorem info_disk : (Try.prog.info? 49).map (fun i => (i.zero, i.size)) = some (some (.agg zdisk), 133) := by kernel_rfl
theorem zero_disk (w : World) : (zeroValue 49).run Try.prog w = .ok (.agg zdisk) w := (zero_of_info info_disk).1 w
attribute [go_sem] zero_disk
theorem zdisk_size : zdisk.size = 133 := by
  show (#[_, _, _, _, _] ++ zsec).size = 133
  rw [Array.size_append, zsec_size]
  rfl

theorem arr_at {w : World} {b o n k : Nat} (h : k < n) : (arr w b o n)[k]? = some ((w.cell? ⟨b, o + k, none⟩).getD undef) := by
  simp [arr, h]
/-- A whole block that was just laid, filled. -/
theorem filled (w : World) (z V : Array Value) (t : TypeId) (n : Nat) (hz : z.size = n) (hV : V.size = n) (k : Nat) (hk : k < n) :
    ((w.alloc (.cells z t)).setCells w.heap.size 0 V.toList).cell? ⟨w.heap.size, k, none⟩ = V[k]? := by
  have hH : Has (w.alloc (.cells z t)) w.heap.size 0 V.toList.length := by
    have := (arr_block (heap_alloc_last w (.cells z t)) hz).2
    rwa [Array.length_toList, hV]
  have := World.cell?_setCells_in w.heap.size V.toList 0 (w.alloc (.cells z t)) hH k (by rw [Array.length_toList]; omega)
  rw [Nat.zero_add] at this
  rw [this]
  simp [hV, hk]

section
variable {w : World} {p g : Nat} {d : DS}
theorem IsDisk.has133 (h : IsDisk w p g d) : Has w p 0 133 := by
  obtain ⟨cc, _, h0⟩ := h.c0
  obtain ⟨a, _, _, h4, _⟩ := h.c4
  obtain ⟨t, t1, t2, _⟩ := h.c5
  intro j hj
  rw [Nat.zero_add]
  match j, hj with
  | 0, _ => rw [h0]; rfl
  | 1, _ => rw [h.c1]; rfl
  | 2, _ => rw [h.c2]; rfl
  | 3, _ => rw [h.c3]; rfl
  | 4, _ => rw [h4]; rfl
  | k + 5, hk =>
    have := t2 k (by omega)
    rw [show k + 5 = 5 + k by omega, this]
    rfl
theorem IsDisk.oneCells (h : IsDisk w p g d) : Cells (arr w p 0 133) 133 := by
  refine ⟨arr_size _ _ _ _, fun v hv => ?_⟩
  obtain ⟨cc, _, h0⟩ := h.c0
  obtain ⟨a, _, _, h4, _⟩ := h.c4
  obtain ⟨t, t1, t2, _⟩ := h.c5
  simp only [arr, List.mem_map, List.mem_range] at hv
  obtain ⟨j, hj, rfl⟩ := hv
  rw [Nat.zero_add]
  match j, hj with
  | 0, _ => rw [h0]; rfl
  | 1, _ => rw [h.c1]; rfl
  | 2, _ => rw [h.c2]; rfl
  | 3, _ => rw [h.c3]; rfl
  | 4, _ => rw [h4]; rfl
  | k + 5, hk =>
    have := t2 k (by omega)
    rw [show k + 5 = 5 + k by omega, this]
    rfl

set_option maxHeartbeats 1000000 in
theorem copy_any (h : IsDisk w p g d) : Calls Try.prog 18 #[.pointer (some ⟨p, 0, none⟩)] w (NewDisk w d) := by
  have hH := h.has133
  have hC := h.oneCells
  obtain ⟨V, hV⟩ : ∃ V, arr w p 0 133 = V := ⟨_, rfl⟩
  rw [hV] at hC
  have hplt := h.plt
  have hH1 : Has (w.alloc (.cells zdisk 49)) w.heap.size 0 133 := (arr_block (heap_alloc_last w _) zdisk_size).2
  have hF1 : Fre (w.alloc (.cells zdisk 49)) w.heap.size 0 133 := fre_block (heap_alloc_last w _)
  obtain ⟨W1, hW1⟩ : ∃ W1, (w.alloc (.cells zdisk 49)).setCells w.heap.size 0 V.toList = W1 := ⟨_, rfl⟩
  have hc1 : Chg [] w W1 := by
    rw [← hW1]
    exact ((Chg.refl [] w).alloc _).setCells _ (.inr (Nat.le_refl _))
  have hf : ∀ k, k < 133 → W1.cell? ⟨w.heap.size, k, none⟩ = w.cell? ⟨p, k, none⟩ := fun k hk => by
    rw [← hW1, filled w zdisk V _ 133 zdisk_size hC.1 k hk, ← hV, arr_at hk, Nat.zero_add]
    have := hH k hk
    rw [Nat.zero_add] at this
    obtain ⟨u, hu⟩ := Option.isSome_iff_exists.1 this
    rw [hu]
    rfl
  have hfr : ∀ k, W1.frozen? ⟨w.heap.size, k, none⟩ = false := fun k => by
    rw [← hW1, World.frozen?_setCells]
    exact frozen_of_row _ _ _ _ _ (heap_alloc_last w _)
  have hz1 : W1.heap.size = w.heap.size + 1 := by rw [← hW1, size_setCells, World.size_alloc]
  have h1 := h.chg hc1 (by simp) (by simp)
  obtain ⟨cc, hcc, h0⟩ := h.c0
  have hcl := clone_secs ⟨g, 0, none⟩ d.secs.length cc W1.heap.size _ W1 h1.vs (bv_oneCell _) h1.max (Nat.le_refl _)
  have hf' := Lib.hid hf
  have hz1' := Lib.hid hz1
  have HW := Lib.hid hW1
  have hne : p ≠ w.heap.size := by omega
  have HC := Lib.hid hcl
  have HFR := Lib.hid hfr
  clear hf hz1 hW1 hcl hfr
  go_enter Try.func18, Try.ntmps18
  go_wp2_with fail
  rw [HW.out]
  refine HC.out.mono ?_
  rintro e w2 ⟨A', c', rfl, g1, hown, hb2⟩
  have hb2s := hb2.size
  rw [hz1'.out] at hb2s
  have hlt : w.heap.size < W1.heap.size := by rw [hz1'.out]; omega
  have e0 : w2.cell? ⟨w.heap.size, 0, none⟩ = some (.slice (some ⟨g, 0, none⟩) d.secs.length cc) := (hb2.cell (p := ⟨w.heap.size, 0, none⟩) hlt).trans ((hf'.out 0 (by omega)).trans h0)
  have ef : ∀ k, w2.frozen? ⟨w.heap.size, k, none⟩ = false := fun k => (hb2.frozen (p := ⟨w.heap.size, k, none⟩) hlt).trans (HFR.out k)
  obtain ⟨g2, rfl, hg2, hg2'⟩ := own_some hown h.pos
  rw [hz1'.out] at hg2
  go_wp2
  go_ret
  have hne2 : w.heap.size ≠ g2 := by omega
  have hch : Chg [] w (w2.setCell ⟨w.heap.size, 0, none⟩ (.slice (some ⟨g2, 0, none⟩) d.secs.length c')) := (hc1.and_below hb2).setCell (p := ⟨w.heap.size, 0, none⟩) (.inr (Nat.le_refl _)) _
  have pk : ∀ k, k ≠ 0 → k < 133 → (w2.setCell ⟨w.heap.size, 0, none⟩ (.slice (some ⟨g2, 0, none⟩) d.secs.length c')).cell? ⟨w.heap.size, k, none⟩ = w.cell? ⟨p, k, none⟩ := fun k k0 k1 =>
    (setc_ne _ _ 0 k _ (Ne.symm k0)).trans ((hb2.cell (p := ⟨w.heap.size, k, none⟩) hlt).trans (hf'.out k k1))
  obtain ⟨a, a1, a2, a3, a4⟩ := h.c4
  obtain ⟨t, t1, t2, t3⟩ := h.c5
  refine ⟨w.heap.size, g2, rfl, ⟨⟨c', g1, setc_same _ _ _ _ _ e0⟩, (pk 1 (by omega) (by omega)).trans h.c1, (pk 2 (by omega) (by omega)).trans h.c2, (pk 3 (by omega) (by omega)).trans h.c3, ⟨a, a1, a2, (pk 4 (by omega) (by omega)).trans a3, a4⟩,
    ⟨t, t1, fun j hj => (pk _ (by omega) (by omega)).trans (t2 j hj), t3⟩, fun i hi => ⟨(h.secs i hi).1, fun j hj => ?_⟩, fun o => ?_, fun o => ?_, hne2, ?_, ?_, h.pos, h.max⟩, hch.below (by simp), Nat.le_refl _, by omega⟩
  · rw [setc_far _ _ _ _ _ _ hne2, hown.cellAt _ (by have := (h.secs i hi).1; omega), bv_at, flatten_at _ _ _ hi h.len128 hj]
    rfl
  · rw [World.frozen?_setCell]
    exact ef o
  · rw [World.frozen?_setCell]
    exact hown.frozenAt o
  · simp [World.setCell]
    omega
  · simp [World.setCell]
    omega
end
end Go.Proofs.Ytkeblekgjcoheaa
