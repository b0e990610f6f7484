/- THE WALK of the reference's New. -/
import Derived.Test.YtkeblekgjcoheaaDiskRefOk
namespace Go.Proofs.Ytkeblekgjcoheaa
open Go.RowKit Mem

theorem info_text : (Try.prog.info? 9).map (fun i => (i.zero, i.size, i.bytes)) = some (some (.string ⟨#[]⟩), 1, 16) := by kernel_rfl

/-- A new disk of the reference's. -/
def NewRef (w : World) (d : DS) (e : Ending) (w' : World) : Prop :=
  ∃ q r, e = .returned (.pointer (some ⟨q, 0, none⟩)) ∧ IsRef w' q r d ∧ Below w.heap.size w w' ∧ w.heap.size ≤ q ∧ w.heap.size ≤ r

def zs : Value := .string (str (fill []))
theorem new_round {w wr w1 w2 : World} {A' : Option Addr} {k c' : Nat} {u : Value} (hlt : w.heap.size < wr.heap.size) (c1 : wr.cell? ⟨w.heap.size, 1, none⟩ = some (.int .i64 0)) (c2 : wr.cell? ⟨w.heap.size, 2, none⟩ = some (.bool false)) (c3 : wr.cell? ⟨w.heap.size, 3, none⟩ = some (.int .i64 (-1))) (c4 : wr.cell? ⟨w.heap.size, 4, none⟩ = some (.string ⟨#[]⟩))
    (hb : Below w.heap.size w wr) (hb1 : Below wr.drew.heap.size wr.drew w1) (hb2 : Below (w.heap.size + 1) w1 w2) (df : ∀ o, w1.frozen? ⟨w.heap.size, o, none⟩ = false)
    (hown2 : w2.ownsRow (w.heap.size + 1) 9 1 (.slice A' (k + 1) c') (k + 1) (List.replicate k zs ++ [.string (str (fill []))])) (e0 : w2.cell? ⟨w.heap.size, 0, none⟩ = some u) :
    let w3 := w2.setCell ⟨w.heap.size, 0, none⟩ (.slice A' (k + 1) c')
    w3.cell? ⟨w.heap.size, 0, none⟩ = some (.slice A' (k + 1) c') ∧ w3.ownsRow (w.heap.size + 1) 9 1 (.slice A' (k + 1) c') (k + 1) (List.replicate (k + 1) zs) ∧
    w3.cell? ⟨w.heap.size, 1, none⟩ = some (.int .i64 0) ∧ w3.cell? ⟨w.heap.size, 2, none⟩ = some (.bool false) ∧ w3.cell? ⟨w.heap.size, 3, none⟩ = some (.int .i64 (-1)) ∧ w3.cell? ⟨w.heap.size, 4, none⟩ = some (.string ⟨#[]⟩) ∧
    (∀ o, w3.frozen? ⟨w.heap.size, o, none⟩ = false) ∧ Below w.heap.size w w3 ∧ w.heap.size < w3.heap.size := by
  intro w3
  have k1 : ∀ o, w1.cell? ⟨w.heap.size, o, none⟩ = wr.cell? ⟨w.heap.size, o, none⟩ := fun o => hb1.cell (p := ⟨w.heap.size, o, none⟩) hlt
  have k2 : ∀ o, w2.cell? ⟨w.heap.size, o, none⟩ = w1.cell? ⟨w.heap.size, o, none⟩ := fun o => hb2.cell (p := ⟨w.heap.size, o, none⟩) (Nat.lt_succ_self _)
  have k3 : ∀ o, o ≠ 0 → w3.cell? ⟨w.heap.size, o, none⟩ = wr.cell? ⟨w.heap.size, o, none⟩ := fun o ho => (setc_ne _ _ _ _ _ (Ne.symm ho)).trans ((k2 o).trans (k1 o))
  have hsz : w.heap.size < w3.heap.size := by
    have := hb2.size
    have h1 : wr.heap.size ≤ w1.heap.size := hb1.size
    simp only [w3, World.setCell, Array.size_modify]
    omega
  refine ⟨setc_same _ _ _ _ _ e0, ?_, (k3 1 (by omega)).trans c1, (k3 2 (by omega)).trans c2, (k3 3 (by omega)).trans c3, (k3 4 (by omega)).trans c4, fun o => ?_, ?_, hsz⟩
  · rw [List.replicate_succ']
    exact ownsRow_setCell_below hown2 (Nat.lt_succ_self _) _
  · exact (World.frozen?_setCell _ _ _ _).trans ((hb2.frozen (p := ⟨w.heap.size, o, none⟩) (Nat.lt_succ_self _)).trans (df o))
  · have hd : Below w.heap.size w wr.drew := hb.drew
    exact ((hd.trans (hb1.mono (by exact Nat.le_of_lt hlt))).trans (hb2.mono (Nat.le_succ _))).setCell (p := ⟨w.heap.size, 0, none⟩) (Nat.le_refl _) _

set_option maxHeartbeats 2000000 in
theorem refnew_any (n : Nat) (w : World) (h1 : 1 ≤ n) (h2 : n ≤ 256) : Calls Try.prog 11 #[.int .i64 (n : Int)] w (NewRef w (DS.fresh n)) := by
  obtain ⟨i0, hi, hz0, hz1, hz2⟩ := info_parts info_text
  go_enter Try.func11, Try.ntmps11
  go_wp2
  go_loopw [4] (fun i wr => ∃ (k : Nat) (A : Option Addr) (c : Nat), k ≤ n ∧ i = .int .i64 k ∧ wr.cell? ⟨w.heap.size, 0, none⟩ = some (.slice A k c) ∧ wr.ownsRow (w.heap.size + 1) 9 1 (.slice A k c) k (List.replicate k zs) ∧
    wr.cell? ⟨w.heap.size, 1, none⟩ = some (.int .i64 0) ∧ wr.cell? ⟨w.heap.size, 2, none⟩ = some (.bool false) ∧ wr.cell? ⟨w.heap.size, 3, none⟩ = some (.int .i64 (-1)) ∧ wr.cell? ⟨w.heap.size, 4, none⟩ = some (.string ⟨#[]⟩) ∧
    (∀ o, wr.frozen? ⟨w.heap.size, o, none⟩ = false) ∧ Below w.heap.size w wr ∧ w.heap.size < wr.heap.size ∧ k ≤ c) (fun i _ => n - (intOf i).toNat)
  case atStart =>
    refine ⟨0, none, 0, by omega, rfl, by go_simp, World.ownsRow_nil _ _ _ _, by go_simp, by go_simp, by go_simp, by go_simp, fun o => by go_simp, (Below.refl _ _).alloc (Nat.le_refl _) _, by simp, by omega⟩
  case round =>
    obtain ⟨k, A, c, hk, rfl, h0, hown, c1, c2, c3, c4, hf, hb, hlt, hkc⟩ := hrel
    by_cases hkn : k < n
    · have h63 : k + 1 ≤ maxLen := by unfold maxLen; omega
      have hlt' : w.heap.size + 1 ≤ wr.drew.heap.size := hlt
      have hof := fill_any none 0 0 0 [] wr.drew (Bs.empty _ _ _) (by omega)
      have HO := Lib.hid hof
      clear hof
      go_wp2_with fail
      go_region_law (first
        | (refine step_push rfl (.tmp 22) (.tmp 24) 52 rfl (w.heap.size + 1) i0 (.string ⟨#[]⟩) 16 Try.underlying52 hi hz0 hz1 hz2 rfl _ _ _ rfl hown1 rfl rfl h63 (by omega) hB1 ?_; intro A' c' w2 hown2 g1 g2 hgr; have hb2 := below_push (Below.refl (w.heap.size + 1) w1) hgr hB1 hown1 (Nat.le_refl _); have e0 := (hb2.cell (p := ⟨w.heap.size, 0, none⟩) (Nat.lt_succ_self _)).trans d0; have ef := (hb2.frozen (p := ⟨w.heap.size, 0, none⟩) (Nat.lt_succ_self _)).trans (df 0))
        | (go_simp; go_at_call 15; refine HO.out.mono ?_; rintro e w1 ⟨rfl, hb1⟩; have hown1 := own_below hown.drew hb1 (Nat.le_refl _); have hB1 : w.heap.size + 1 ≤ w1.heap.size := Nat.le_trans hlt' hb1.size; have hlw : w.heap.size < w1.heap.size := hB1; have d0 := (hb1.cell (p := ⟨w.heap.size, 0, none⟩) hlt).trans h0; have df := fun o => (hb1.frozen (p := ⟨w.heap.size, o, none⟩) hlt).trans (hf o)))
      all_goals
        have hrel2 := new_round (A' := A') hlt c1 c2 c3 c4 hb hb1 hb2 df hown2 e0
        clear hgr
        go_wp2
        go_roundw
        case rel => exact ⟨k + 1, A', c', by omega, by go_num, hrel2.1, hrel2.2.1, hrel2.2.2.1, hrel2.2.2.2.1, hrel2.2.2.2.2.1, hrel2.2.2.2.2.2.1, hrel2.2.2.2.2.2.2.1, hrel2.2.2.2.2.2.2.2.1, hrel2.2.2.2.2.2.2.2.2, g1⟩
        case measure => simp [intOf]; omega
    · have hkn' : k = n := by omega
      subst hkn'
      go_wp2
      go_ret
      obtain ⟨g, rfl, hg1, hg2⟩ := own_some hown (by omega)
      have hlen : (DS.fresh k).secs.length = k := by simp [DS.fresh]
      refine ⟨w.heap.size, g, rfl, ⟨⟨c, by rw [hlen]; exact hkc, by rw [hlen]; exact h0⟩, c1, c2, ⟨-1, c3, fun _ => rfl, fun n t e => by simp [DS.fresh] at e⟩, ⟨_, c4, fun n t e => by simp [DS.fresh] at e⟩, fun i hi => ?_, hf, fun o => hown.frozenAt o, by omega, hlt, hg2, by rw [hlen]; exact h2⟩, hb, Nat.le_refl _, by omega⟩
      have hik : i < k := by rwa [hlen] at hi
      rw [hown.cellAt i (by omega)]
      simp [hik, zs, DS.fresh, fill]
end Go.Proofs.Ytkeblekgjcoheaa
