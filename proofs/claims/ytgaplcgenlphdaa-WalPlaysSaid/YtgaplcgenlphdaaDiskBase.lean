/- THE DISK's TYPES: whole sectors, whole disks, read and written as one thing; disk.of. -/
import Derived.Test.YtgaplcgenlphdaaRows
import Derived.Test.YtgaplcgenlphdaaDiskSpec
import Derived.Test.YtgaplcgenlphdaaBytes
import Derived.Deep.DeepMust
import Derived.Deep.WholeRow
import Derived.Laws.CopyOwn
import Derived.Deep.RegionWith
import Derived.Deep.RegionHeld3
namespace Go.Proofs.Ytgaplcgenlphdaa
open Go.RowKit Mem

theorem size_sector : (Try.prog.info? 68).map (·.size) = some 128 := by kernel_rfl
theorem size_disk : (Try.prog.info? 70).map (·.size) = some 133 := by kernel_rfl
/-- The four operations, each behind a name that the walk does not open. -/
def loadSector (x : Value) : Sem Value := Instr.loadAt 68 x
def storeSector (x v : Value) : Sem Unit := Instr.storeAt 68 x v
def loadDisk (x : Value) : Sem Value := Instr.loadAt 70 x
def storeDisk (x v : Value) : Sem Unit := Instr.storeAt 70 x v
theorem named_load_sector (x : Value) : Instr.loadAt 68 x = loadSector x := rfl
theorem named_store_sector (x v : Value) : Instr.storeAt 68 x v = storeSector x v := rfl
theorem named_load_disk (x : Value) : Instr.loadAt 70 x = loadDisk x := rfl
theorem named_store_disk (x v : Value) : Instr.storeAt 70 x v = storeDisk x v := rfl
theorem load_sector (w : World) (b o : Nat) (h : Has w b o 128) : (loadSector (.pointer (some ⟨b, o, none⟩))).run Try.prog w = .ok (.agg (arr w b o 128)) w :=
  run_load_arr w _ b o 128 _ Try.underlying68 rfl size_sector h
theorem load_disk (w : World) (b o : Nat) (h : Has w b o 133) : (loadDisk (.pointer (some ⟨b, o, none⟩))).run Try.prog w = .ok (.agg (arr w b o 133)) w :=
  run_load_arr w _ b o 133 _ Try.underlying70 rfl size_disk h
theorem store_sector (w : World) (b o : Nat) (V : Array Value) (hV : Cells V 128) (h : Has w b o 128) (hf : Fre w b o 128) : (storeSector (.pointer (some ⟨b, o, none⟩)) (.agg V)).run Try.prog w = .ok () (w.setCells b o V.toList) :=
  run_store_arr w _ b o 128 size_sector V hV h hf
theorem store_disk (w : World) (b o : Nat) (V : Array Value) (hV : Cells V 133) (h : Has w b o 133) (hf : Fre w b o 133) : (storeDisk (.pointer (some ⟨b, o, none⟩)) (.agg V)).run Try.prog w = .ok () (w.setCells b o V.toList) :=
  run_store_arr w _ b o 133 size_disk V hV h hf
attribute [go_sem ↓] named_load_sector named_store_sector named_load_disk named_store_disk
attribute [go_sem] load_sector load_disk store_sector store_disk

/-- A sector of noughts. -/
def zsec : Array Value := (bv (List.replicate 128 0)).toArray
theorem info_sector : (Try.prog.info? 68).map (fun i => (i.zero, i.size)) = some (some (.agg zsec), 128) := by kernel_rfl
theorem zero_sector (w : World) : (zeroValue 68).run Try.prog w = .ok (.agg zsec) w := (zero_of_info info_sector).1 w
attribute [go_sem] zero_sector
theorem zsec_size : zsec.size = 128 := by simp [zsec, bv_length]

set_option maxHeartbeats 400000 in
theorem of_any (A : Option Addr) (n c B : Nat) (l : List UInt8) (w : World) (hd : Bs w B A n l) (hB : B ≤ w.heap.size) :
    Calls Try.prog 34 #[.slice A n c] w fun e w' => e = .returned (.agg (bv (fill l)).toArray) ∧ Below w.heap.size w w' := by
  have hd2 : Bs ((w.alloc (.cells zsec 68)).alloc (.cells zsec 68)) B A n l := (Bs.alloc hd hB _).alloc (by simp; omega) _
  have hln := hd.len
  have hcs : (bv (l.take (min n 128))).length = Nat.min n 128 := by rw [bv_length, List.length_take, hln]; exact Nat.min_eq_left (Nat.min_le_left _ _)
  have hb0 : Below w.heap.size w ((w.alloc (.cells zsec 68)).alloc (.cells zsec 68)) := ((Below.refl _ _).alloc (Nat.le_refl _) _).alloc (by simp) _
  have hg : ((w.alloc (.cells zsec 68)).alloc (.cells zsec 68)).heap[w.heap.size + 1]? = some (.cells zsec.toList.toArray 68 (0, 0)) := by
    have := heap_alloc_last (w.alloc (.cells zsec 68)) (.cells zsec 68)
    simpa using this
  have hg0 : ((w.alloc (.cells zsec 68)).alloc (.cells zsec 68)).heap[w.heap.size]? = some (.cells zsec 68 (0, 0)) := by
    rw [Below.heap_alloc _ _ _ (by simp)]
    exact heap_alloc_last w _
  have hpos : 0 < (bv (l.take (min n 128))).length → (some (⟨w.heap.size + 1, 0, none⟩ : Addr)) = some ⟨w.heap.size + 1, 0, none⟩ ∧ ∃ ad, A = some ad ∧ ∀ j v, (bv (l.take (min n 128)))[j]? = some v → ((w.alloc (.cells zsec 68)).alloc (.cells zsec 68)).cell? (ad.add j) = some v := by
    intro h
    refine ⟨rfl, ?_⟩
    have hd3 := hd2.take (k := min n 128) (Nat.min_le_left _ _)
    obtain ⟨ad, rfl, _, _⟩ := Vs.rd hd3 0 _ (List.getElem?_eq_getElem h)
    refine ⟨ad, rfl, fun j v hj => ?_⟩
    obtain ⟨ad', e, _, hc⟩ := Vs.rd hd3 j v hj
    injection e with e
    subst e
    exact hc
  have hfit : 0 + (bv (l.take (min n 128))).length ≤ zsec.toList.length := by
    rw [hcs, Array.length_toList, zsec_size]
    show 0 + min n 128 ≤ 128
    omega
  have hsz8 : (Try.prog.info? 5).map (·.size) = some 1 := by kernel_rfl
  have hsp : splice zsec.toList 0 (bv (l.take (min n 128))) = bv (fill l) := by
    have e : min n 128 = min 128 l.length := by rw [hln]; omega
    have e2 : l.take (min n 128) = l.take 128 := by
      rw [e, ← List.take_take, List.take_length]
    have e3 : (bv (l.take 128)).length = min 128 l.length := by rw [bv_length, List.length_take]
    unfold splice fill zsec
    rw [e2, e3, bv_append, List.take_zero, List.nil_append]
    congr 1
    simp only [bv, List.map_replicate, List.drop_replicate]
    congr 1
    omega
  go_enter Try.func34, Try.ntmps34
  go_wp2_with (with_reducible refine wpList_copy_splice rfl (.tmp 4) (.tmp 5) 33 33 rfl 5 Try.underlying33 hsz8 (some ⟨w.heap.size + 1, 0, none⟩) A 128 128 n c rfl rfl (w.heap.size + 1) 0 zsec.toList 68 hg _ hcs hpos hfit (bv_oneCell _) (w.heap.size + 1) _ (Below.refl _ _) (Nat.le_refl _) ?_)
  intro w1 hw1 hb1
  have hw1' := hw1.out
  clear hw1
  have h1 := arr_block hw1' (n := 128) (by simp [bv_length, fill_length])
  have h1a := h1.1
  have h1b := h1.2
  have h2 : w1.heap[w.heap.size]? = some (.cells zsec 68 (0, 0)) := (hb1.block _ (by omega)).trans hg0
  have h2a := (arr_block h2 (n := 128) zsec_size).2
  have h2b := fre_block (o := 0) (n := 128) h2
  have hcl := bv_cells (fill l) (fill_length l)
  have hbl : Below w.heap.size w w1 := hb0.trans (hb1.mono (by omega))
  clear h1 hg hg0 hpos hsp hfit hb0
  go_wp2
  refine bodyPost_ret (results_arr (P := Try.prog) Try.results34 _ _ w.heap.size 0 128 _ rfl Try.underlying68 rfl size_sector (by rw [has_setCells]; exact h2a)) rfl ?_
  rw [arr_setCells_same _ _ _ _ _ (by rw [bv_length, fill_length]) h2a]
  exact ⟨rfl, (Chg.of_below (S := []) hbl).setCells _ (.inr (Nat.le_refl _)) |>.below (by simp)⟩
end Go.Proofs.Ytgaplcgenlphdaa
