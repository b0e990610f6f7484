/- THE WALKS of most, read. -/
import Derived.Test.YtgaplcgenlphdaaWalBase
namespace Go.Proofs.Ytgaplcgenlphdaa
open Go.RowKit Mem

/-- Three headers' bytes, one behind the other. -/
def three (a b c : List UInt8) : List UInt8 := a ++ (b ++ c)
theorem three_length {a b c : List UInt8} (ha : a.length = 128) (hb : b.length = 128) (hc : c.length = 128) : (three a b c).length = 384 := by
  simp [three, ha, hb, hc]
theorem Arr.part {w : World} {g o : Nat} {x y z : List UInt8} (h : Arr w g o (x ++ (y ++ z))) : Arr w g (o + x.length) y := fun j hj => by
  have h1 := h (x.length + j) (by simp; omega)
  rw [Nat.add_assoc, h1]
  rw [List.getElem_append_right (by omega)]
  simp only [Nat.add_sub_cancel_left]
  rw [List.getElem_append_left hj]
theorem Arr.left {w : World} {g o : Nat} {x y : List UInt8} (h : Arr w g o (x ++ y)) : Arr w g o x := fun j hj => by
  rw [h j (by simp; omega), List.getElem_append_left hj]
theorem Arr.right {w : World} {g o : Nat} {x y : List UInt8} (h : Arr w g o (x ++ y)) : Arr w g (o + x.length) y := fun j hj => by
  have h1 := h (x.length + j) (by simp; omega)
  rw [Nat.add_assoc, h1]
  rw [List.getElem_append_right (by omega)]
  simp only [Nat.add_sub_cancel_left]
theorem Arr.three_ {w : World} {g o : Nat} {a b c : List UInt8} (h : Arr w g o (three a b c)) (ha : a.length = 128) (hb : b.length = 128) : Arr w g o a ∧ Arr w g (o + 128) b ∧ Arr w g (o + 256) c := by
  have h1 := Arr.left h
  have h2 := Arr.right h
  rw [ha] at h2
  have h3 := Arr.left h2
  have h4 := Arr.right h2
  rw [hb, Nat.add_assoc] at h4
  exact ⟨h1, h3, h4⟩
theorem Arr.of_block {w : World} {g : Nat} {l : List UInt8} {t : TypeId} {fr : Nat × Nat} (h : w.heap[g]? = some (.cells (bv l).toArray t fr)) : Arr w g 0 l := fun j hj => by
  rw [Nat.zero_add, cell_of_row w g j _ t fr h]
  simp [bv, hj]
theorem Arr.hs {w : World} {g o n : Nat} {l : List UInt8} (h : Arr w g o l) (hn : l.length = n) : Has w g o n ∧ arr w g o n = (bv l).toArray := by
  subst hn
  exact ⟨h.has, h.eq⟩

set_option maxHeartbeats 1000000 in
set_option maxRecDepth 100000 in
theorem most_any (a b c : List UInt8) (ha : a.length = 128) (hb : b.length = 128) (hc : c.length = 128) (w : World) :
    Calls Try.prog 38 #[.agg (bv (three a b c)).toArray] w fun e w' => e = .returned (.agg (bv (Wal.most a b c)).toArray) ∧ Below w.heap.size w w' := by
  have hbl : ((w.alloc (.cells (bv (three a b c)).toArray 58)).alloc (.cells zhead 57)).heap[w.heap.size]? = some (.cells (bv (three a b c)).toArray 58 (0, 0)) := by
    rw [Below.heap_alloc _ _ _ (by simp)]
    exact heap_alloc_last w _
  have hbz : ((w.alloc (.cells (bv (three a b c)).toArray 58)).alloc (.cells zhead 57)).heap[w.heap.size + 1]? = some (.cells zhead 57 (0, 0)) := by
    have := heap_alloc_last (w.alloc (.cells (bv (three a b c)).toArray 58)) (.cells zhead 57)
    simpa using this
  have hz := (arr_block hbz (n := 128) zhead_size).2
  have hf := fre_block (o := 0) (n := 128) hbz
  obtain ⟨r0, r1, r2⟩ := Arr.three_ (Arr.of_block hbl) ha hb
  obtain ⟨a0, b0⟩ := Arr.hs r0 ha
  obtain ⟨a1, b1⟩ := Arr.hs r1 hb
  obtain ⟨a2, b2⟩ := Arr.hs r2 hc
  have e1 := fun W => eql_header W b c hb hc
  have hbel : Below w.heap.size w ((w.alloc (.cells (bv (three a b c)).toArray 58)).alloc (.cells zhead 57)) := ((Below.refl _ _).alloc (Nat.le_refl _) _).alloc (by simp) _
  have cl0 := bv_cells a ha
  have cl1 := bv_cells b hb
  have lv0 : (bv a).length = 128 := by rw [bv_length, ha]
  have lv1 : (bv b).length = 128 := by rw [bv_length, hb]
  have HL0 := Lib.hid lv0
  have HL1 := Lib.hid lv1
  clear hbl hbz r0 r1 r2 ha hb hc lv0 lv1
  by_cases he : b = c
  · have e2 : (b == c) = true := by rw [he]; exact beq_self_eq_true _
    have e3 : Wal.most a b c = b := by unfold Wal.most; rw [if_pos he]
    rw [e3]
    clear e3 he
    generalize (three a b c) = T at *
    go_enter Try.func38, Try.ntmps38
    go_wp2_with fail
    refine bodyPost_ret (results_arr (P := Try.prog) Try.results38 _ _ (w.heap.size + 1) 0 128 _ rfl Try.underlying57 rfl size_header (by rw [has_setCells]; exact hz)) rfl ?_
    rw [arr_setCells_same _ _ _ _ _ HL1.out hz]
    exact ⟨rfl, ((Chg.of_below (S := []) hbel).setCells _ (.inr (by simp))).below (by simp)⟩
  · have e2 : (b == c) = false := beq_eq_false_iff_ne.2 he
    have e3 : Wal.most a b c = a := by unfold Wal.most; rw [if_neg he]
    rw [e3]
    clear e3 he
    generalize (three a b c) = T at *
    go_enter Try.func38, Try.ntmps38
    go_wp2_with fail
    refine bodyPost_ret (results_arr (P := Try.prog) Try.results38 _ _ (w.heap.size + 1) 0 128 _ rfl Try.underlying57 rfl size_header (by rw [has_setCells]; exact hz)) rfl ?_
    rw [arr_setCells_same _ _ _ _ _ HL0.out hz]
    exact ⟨rfl, ((Chg.of_below (S := []) hbel).setCells _ (.inr (by simp))).below (by simp)⟩
end Go.Proofs.Ytgaplcgenlphdaa
