/- THE WALK of clone at a ledger of which all lists but the bans are nil. -/
import Derived.Test.YtmbpnkacggngkaaGreatDoorLedGone
import Derived.Deep.RegionHeld3
import Derived.Deep.CutBlock
import Derived.Deep.DeepCutAuto
namespace Go.Proofs.YtmbpnkacggngkaaGreatDoor
open Go.RowKit Mem Led

theorem size_ledger : (Tryz.prog.info? 30).map (·.size) = some 6 := by kernel_rfl
set_option maxRecDepth 100000 in
set_option maxHeartbeats 4000000 in
theorem clone_nil (w : World) : Calls Tryz.prog 27 #[.agg (lgCells (.slice none 0 0)).toArray] w fun e w' => e = .returned (.agg (lgCells (.slice none 0 0)).toArray) ∧ Below w.heap.size w w' := by
  unfold lgCells
  go_enter Tryz.func27, Tryz.ntmps27
  go_wp2_with fail
  go_region_held3 (fun w' => w'.cell? ⟨w.heap.size, 0, none⟩ = some (.slice none 0 0) ∧ w'.cell? ⟨w.heap.size, 1, none⟩ = some (.slice none 0 0) ∧ w'.cell? ⟨w.heap.size, 2, none⟩ = some (.slice none 0 0)) (go_keep) (first | (go_at_call 57; refine (cloneEntries_nil _).mono ?_; rintro e w1 ⟨rfl, rfl⟩) | (go_at_call 58; refine (cloneNodes_nil _).mono ?_; rintro e w1 ⟨rfl, rfl⟩) | (go_at_call 28; refine (cloneTexts_nil _).mono ?_; rintro e w1 ⟨rfl, rfl⟩))
  go_wp2_with fail
  go_region_held3 (fun w' => w'.cell? ⟨w.heap.size, 3, none⟩ = some (.slice none 0 0) ∧ w'.cell? ⟨w.heap.size, 4, none⟩ = some (.slice none 0 0) ∧ w'.cell? ⟨w.heap.size, 5, none⟩ = some (.slice none 0 0)) (go_keep) (first | (go_at_call 59; refine (cloneJoins_nil _).mono ?_; rintro e w1 ⟨rfl, rfl⟩) | (go_at_call 60; refine (cloneKeys_nil _).mono ?_; rintro e w1 ⟨rfl, rfl⟩) | (go_at_call 61; refine (cloneBundles_nil _).mono ?_; rintro e w1 ⟨rfl, rfl⟩))
  go_wp2
  go_loopw [3, 32] (fun _ i wr => i = .int .i64 0 ∧ wr = (((w.alloc (.cells #[.slice none 0 0, .slice none 0 0, .slice none 0 0, .slice none 0 0, .slice none 0 0, .slice none 0 0] 30)).alloc (.cells #[.slice none 0 0, .slice none 0 0, .slice none 0 0, .slice none 0 0, .slice none 0 0, .slice none 0 0] 30)).drew).drew) (fun _ _ _ => 0)
  case atStart => exact ⟨rfl, rfl⟩
  case round =>
    obtain ⟨rfl, rfl⟩ := hrel
    go_wp2
    go_loopw [4, 51] (fun _ i wr => i = .int .i64 0 ∧ wr = (((w.alloc (.cells #[.slice none 0 0, .slice none 0 0, .slice none 0 0, .slice none 0 0, .slice none 0 0, .slice none 0 0] 30)).alloc (.cells #[.slice none 0 0, .slice none 0 0, .slice none 0 0, .slice none 0 0, .slice none 0 0, .slice none 0 0] 30)).drew).drew) (fun _ _ _ => 0)
    case atStart => exact ⟨rfl, rfl⟩
    case round =>
      obtain ⟨rfl, rfl⟩ := hrel
      go_wp2
      have hB := Blk.new (w.alloc (.cells (lgCells (.slice none 0 0)).toArray 30)) (lgCells (.slice none 0 0)) 30
      rw [show (w.alloc (.cells (lgCells (.slice none 0 0)).toArray 30)).heap.size = w.heap.size + 1 by simp] at hB
      have hH := (hB.drew.drew).has (n := 6) rfl
      have hA := (hB.drew.drew).arr (n := 6) rfl
      refine bodyPost_ret (results_arr (P := Tryz.prog) Tryz.results27 _ _ (w.heap.size + 1) 0 6 _ rfl Tryz.underlying30 rfl size_ledger hH) rfl ?_
      exact ⟨congrArg (fun a => Ending.returned (Value.agg a)) hA, (((Below.refl _ _).alloc (Nat.le_refl _) _).alloc (by simp) _).drew.drew⟩
theorem cloneText_one (A : Option Addr) (c : Nat) (x : List UInt8) (w : World) (h : Ts w A 1 [x]) :
    Calls Tryz.prog 28 #[.slice A 1 c] w (fun e w' => ∃ A' c', e = .returned (.slice A' 1 c') ∧ 1 ≤ c' ∧ c' ≤ 9223372036854775807 ∧ w'.ownsRow w.heap.size 9 1 (.slice A' 1 c') 1 (tv [x]) ∧ Below w.heap.size w w') := by
  obtain ⟨b, off, rfl, hc⟩ := h.lit (i := 0) (by simp)
  refine (Tryz.slices_Clone_string b off 1 c [str x] w (by simp) (by omega) (fun j hj => ?_)).mono ?_
  · have : j = 0 := by simpa using hj
    subst this
    exact hc
  · rintro e w' ⟨v', rfl, h1, _, h2⟩
    obtain ⟨A', c', rfl, g1, g2⟩ := own_form h1
    exact ⟨A', c', rfl, g1, g2, h1, h2⟩
/-- A whole ledger, read and written, behind names that the walk does not open. -/
def loadLg (x : Value) : Sem Value := Instr.loadAt 30 x
def storeLg (x v : Value) : Sem Unit := Instr.storeAt 30 x v
theorem named_load_lg (x : Value) : Instr.loadAt 30 x = loadLg x := rfl
theorem named_store_lg (x v : Value) : Instr.storeAt 30 x v = storeLg x v := rfl
attribute [go_sem ↓] named_load_lg named_store_lg
theorem load_lg {w : World} {g : Nat} {cs : List Value} {t : TypeId} (h : Blk w g cs t) (hn : cs.length = 6) : (loadLg (.pointer (some ⟨g, 0, none⟩))).run Tryz.prog w = .ok (.agg cs.toArray) w := by
  have := run_load_arr (P := Tryz.prog) w 30 g 0 6 _ Tryz.underlying30 rfl size_ledger (h.has hn)
  rw [h.arr hn] at this
  exact this
theorem store_lg {w : World} {g : Nat} {cs vs : List Value} {t : TypeId} (h : Blk w g cs t) (hn : cs.length = 6) (hv : vs.length = 6) (h1 : ∀ v ∈ vs, v.oneCell' = true) :
    (storeLg (.pointer (some ⟨g, 0, none⟩)) (.agg vs.toArray)).run Tryz.prog w = .ok () (w.setCells g 0 vs) ∧ Blk (w.setCells g 0 vs) g vs t := by
  have h2 := run_store_arr (P := Tryz.prog) w 30 g 0 6 size_ledger vs.toArray ⟨by simpa using hv, by simpa using h1⟩ (h.has hn) (fun j _ => h.froz _)
  have h3 := setCells_blk vs w g 0 cs t h (by omega)
  simp [hv, ← hn] at h3
  exact ⟨h2, h3⟩
theorem lgCells_one (A : Option Addr) (n c : Nat) : ∀ v ∈ lgCells (.slice A n c), v.oneCell' = true := by
  intro v hv
  simp only [lgCells, List.mem_cons, List.not_mem_nil, or_false] at hv
  rcases hv with rfl | rfl | rfl | rfl | rfl | rfl <;> rfl
theorem own_setCells : ∀ (vs : List Value) {w : World} {base n g k : Nat} {v : Value} {e : TypeId} {xs : List Value}, w.ownsRow base e 1 v n xs → g < base → (w.setCells g k vs).ownsRow base e 1 v n xs
  | [], _, _, _, _, _, _, _, _, h, _ => h
  | u :: vs, _, _, _, _, _, _, _, _, h, hg => own_setCells vs (ownsRow_setCell_below h hg u) hg
def Nil3 (B : Nat) (w : World) : Prop := w.cell? ⟨B, 3, none⟩ = some (.slice none 0 0) ∧ w.cell? ⟨B, 4, none⟩ = some (.slice none 0 0) ∧ w.cell? ⟨B, 5, none⟩ = some (.slice none 0 0)
theorem Nil3.set {B : Nat} {w : World} (h : Nil3 B w) (k : Nat) : Nil3 B (w.setCell ⟨B, k, none⟩ (.slice none 0 0)) := by
  obtain ⟨h3, h4, h5⟩ := h
  have key : ∀ j, w.cell? ⟨B, j, none⟩ = some (.slice none 0 0) → (w.setCell ⟨B, k, none⟩ (.slice none 0 0)).cell? ⟨B, j, none⟩ = some (.slice none 0 0) := fun j hj => by
    by_cases e : k = j
    · subst e
      exact setc_same _ _ _ _ _ hj
    · exact (setc_ne _ _ _ _ _ e).trans hj
  exact ⟨key 3 h3, key 4 h4, key 5 h5⟩
/-- A copy of a ledger of one ban. -/
def Copied (x : List UInt8) (w : World) (e : Ending) (w' : World) : Prop :=
  ∃ A' c', e = .returned (.agg (lgCells (.slice A' 1 c')).toArray) ∧ 1 ≤ c' ∧ c' ≤ 9223372036854775807 ∧ w'.ownsRow w.heap.size 9 1 (.slice A' 1 c') 1 (tv [x]) ∧ Below w.heap.size w w'
set_option maxRecDepth 100000 in
set_option maxHeartbeats 4000000 in
theorem clone_one (A : Option Addr) (c : Nat) (x : List UInt8) (w : World) (h : Ts w A 1 [x]) : Calls Tryz.prog 27 #[.agg (lgCells (.slice A 1 c)).toArray] w (Copied x w) := by
  obtain ⟨W, hW⟩ : ∃ W, ((w.alloc (.cells (lgCells (.slice A 1 c)).toArray 30)).alloc (.cells (lgCells (.slice none 0 0)).toArray 30)) = W := ⟨_, rfl⟩
  have b0 : Blk W w.heap.size (lgCells (.slice A 1 c)) 30 := by rw [← hW]; exact (Blk.new _ _ _).alloc _
  have b1 : Blk W (w.heap.size + 1) (lgCells (.slice none 0 0)) 30 := by
    have := Blk.new (w.alloc (.cells (lgCells (.slice A 1 c)).toArray 30)) (lgCells (.slice none 0 0)) 30
    rw [← hW]
    simpa using this
  have hbW : Below w.heap.size w W := by rw [← hW]; exact ((Below.refl _ _).alloc (Nat.le_refl _) _).alloc (by simp) _
  have hzW : W.heap.size = w.heap.size + 2 := by rw [← hW]; simp
  have hcl := cloneText_one A c x W.drew (h.below hbW.drew)
  have HW := Lib.hid hW
  clear hW
  have k0 : W.cell? ⟨w.heap.size, 0, none⟩ = some (.slice none 0 0) := b0.cell 0
  have k1 : W.cell? ⟨w.heap.size, 1, none⟩ = some (.slice none 0 0) := b0.cell 1
  have k2 : W.cell? ⟨w.heap.size, 2, none⟩ = some (.slice A 1 c) := b0.cell 2
  unfold lgCells at HW ⊢
  go_enter Tryz.func27, Tryz.ntmps27
  go_upto_region 1 with fail
  rw [HW.out]
  go_cut [] (fun wx => ∃ A' c', 1 ≤ c' ∧ c' ≤ 9223372036854775807 ∧ Blk wx w.heap.size (lgCells (.slice A' 1 c')) 30 ∧ Blk wx (w.heap.size + 1) (lgCells (.slice none 0 0)) 30 ∧ wx.ownsRow (w.heap.size + 2) 9 1 (.slice A' 1 c') 1 (tv [x]) ∧ Below w.heap.size w wx)
  case first =>
    go_region_with (first | (go_at_call 57; refine (cloneEntries_nil _).mono ?_; rintro e w1 ⟨rfl, rfl⟩) | (go_at_call 58; refine (cloneNodes_nil _).mono ?_; rintro e w1 ⟨rfl, rfl⟩) | (go_at_call 28; refine hcl.mono ?_; rintro e w1 ⟨A', c', rfl, g1, g2, hown, hb1⟩; have r0 := b0.drew.below hb1; have q0 := r0.cell 0; have q1 := r0.cell 1; have q2 := r0.cell 2; have f0 := r0.froz 0; have f1 := r0.froz 1; have f2 := r0.froz 2; simp only [List.getElem?_cons_zero, List.getElem?_cons_succ, lgCells] at q0 q1 q2))
    all_goals
      have hbw1 : Below w.heap.size w w1 := hbW.drew.trans (hb1.mono hbW.size)
      have s1 := ((r0.set 0 (.slice none 0 0)).set 1 (.slice none 0 0)).set 2 (.slice A' 1 c')
      have s2 := (((b1.drew.below hb1).set_ne (p := ⟨w.heap.size, 0, none⟩) (by simp) (.slice none 0 0)).set_ne (p := ⟨w.heap.size, 1, none⟩) (by simp) (.slice none 0 0)).set_ne (p := ⟨w.heap.size, 2, none⟩) (by simp) (.slice A' 1 c')
      have s3 := ((hbw1.setCell (p := ⟨w.heap.size, 0, none⟩) (Nat.le_refl _) (.slice none 0 0)).setCell (p := ⟨w.heap.size, 1, none⟩) (Nat.le_refl _) (.slice none 0 0)).setCell (p := ⟨w.heap.size, 2, none⟩) (Nat.le_refl _) (.slice A' 1 c')
      have s4 := ownsRow_setCell_below (ownsRow_setCell_below (ownsRow_setCell_below (own_base hown (b' := w.heap.size + 2) (by rw [← hzW]; exact Nat.le_refl _)) (a := ⟨w.heap.size, 0, none⟩) (by simp) (.slice none 0 0)) (a := ⟨w.heap.size, 1, none⟩) (by simp) (.slice none 0 0)) (a := ⟨w.heap.size, 2, none⟩) (by simp) (.slice A' 1 c')
      go_wp2_with fail
      go_meet
      case rel => exact ⟨A', c', g1, g2, s1, s2, s4, s3⟩
  case rest =>
    obtain ⟨A', c', g1, g2, s1, s2, s4, s3⟩ := hcut
    have t3 : wc.cell? ⟨w.heap.size, 3, none⟩ = some (.slice none 0 0) := s1.cell 3
    have t4 : wc.cell? ⟨w.heap.size, 4, none⟩ = some (.slice none 0 0) := s1.cell 4
    have t5 : wc.cell? ⟨w.heap.size, 5, none⟩ = some (.slice none 0 0) := s1.cell 5
    have n0 : Nil3 w.heap.size wc := ⟨t3, t4, t5⟩
    have n1 : Hid (Nil3 w.heap.size (wc.setCell ⟨w.heap.size, 3, none⟩ (.slice none 0 0))) ∧ Hid (Nil3 w.heap.size ((wc.setCell ⟨w.heap.size, 3, none⟩ (.slice none 0 0)).setCell ⟨w.heap.size, 4, none⟩ (.slice none 0 0))) ∧ Hid (Nil3 w.heap.size (((wc.setCell ⟨w.heap.size, 3, none⟩ (.slice none 0 0)).setCell ⟨w.heap.size, 4, none⟩ (.slice none 0 0)).setCell ⟨w.heap.size, 5, none⟩ (.slice none 0 0))) := ⟨Lib.hid (n0.set 3), Lib.hid ((n0.set 3).set 4), Lib.hid (((n0.set 3).set 4).set 5)⟩
    have z3 : wc.frozen? ⟨w.heap.size, 3, none⟩ = false := s1.froz 3
    have z4 : wc.frozen? ⟨w.heap.size, 4, none⟩ = false := s1.froz 4
    have z5 : wc.frozen? ⟨w.heap.size, 5, none⟩ = false := s1.froz 5
    go_wp2_with fail
    go_region_held3 (fun w' => w'.cell? ⟨w.heap.size, 3, none⟩ = some (.slice none 0 0) ∧ w'.cell? ⟨w.heap.size, 4, none⟩ = some (.slice none 0 0) ∧ w'.cell? ⟨w.heap.size, 5, none⟩ = some (.slice none 0 0)) (first | exact n1.1.out | exact n1.2.1.out | exact n1.2.2.out | go_keep) (first | (go_at_call 59; refine (cloneJoins_nil _).mono ?_; rintro e w1 ⟨rfl, rfl⟩) | (go_at_call 60; refine (cloneKeys_nil _).mono ?_; rintro e w1 ⟨rfl, rfl⟩) | (go_at_call 61; refine (cloneBundles_nil _).mono ?_; rintro e w1 ⟨rfl, rfl⟩))
    obtain ⟨wz, hwz⟩ : ∃ wz, (((wc.setCell ⟨w.heap.size, 3, none⟩ (.slice none 0 0)).setCell ⟨w.heap.size, 4, none⟩ (.slice none 0 0)).setCell ⟨w.heap.size, 5, none⟩ (.slice none 0 0)).drew = wz := ⟨_, rfl⟩
    have u1 : Blk wz w.heap.size (lgCells (.slice A' 1 c')) 30 := by
      rw [← hwz]
      exact (((s1.set 3 (.slice none 0 0)).set 4 (.slice none 0 0)).set 5 (.slice none 0 0)).drew
    have u2 : Blk wz (w.heap.size + 1) (lgCells (.slice none 0 0)) 30 := by
      rw [← hwz]
      exact (((s2.set_ne (p := ⟨w.heap.size, 3, none⟩) (by simp) _).set_ne (p := ⟨w.heap.size, 4, none⟩) (by simp) _).set_ne (p := ⟨w.heap.size, 5, none⟩) (by simp) _).drew
    have u4 : wz.ownsRow (w.heap.size + 2) 9 1 (.slice A' 1 c') 1 (tv [x]) := by
      rw [← hwz]
      exact (ownsRow_setCell_below (ownsRow_setCell_below (ownsRow_setCell_below s4 (a := ⟨w.heap.size, 3, none⟩) (by simp) _) (a := ⟨w.heap.size, 4, none⟩) (by simp) _) (a := ⟨w.heap.size, 5, none⟩) (by simp) _).drew
    have u3 : Below w.heap.size w wz := by
      rw [← hwz]
      exact (((s3.setCell (p := ⟨w.heap.size, 3, none⟩) (Nat.le_refl _) _).setCell (p := ⟨w.heap.size, 4, none⟩) (Nat.le_refl _) _).setCell (p := ⟨w.heap.size, 5, none⟩) (Nat.le_refl _) _).drew
    rw [hwz]
    clear hwz n0 n1 s1 s2 s3 s4 t3 t4 t5 z3 z4 z5 hcl b0 b1 k0 k1 k2 HW
    have v0 : wz.cell? ⟨w.heap.size, 0, none⟩ = some (.slice none 0 0) := u1.cell 0
    have v5 : wz.cell? ⟨w.heap.size, 5, none⟩ = some (.slice none 0 0) := u1.cell 5
    have hld := load_lg u1 rfl
    obtain ⟨hst, hSt⟩ := store_lg u2 rfl (vs := lgCells (.slice A' 1 c')) rfl (lgCells_one _ _ _)
    obtain ⟨wf, hwf⟩ : ∃ wf, wz.setCells (w.heap.size + 1) 0 (lgCells (.slice A' 1 c')) = wf := ⟨_, rfl⟩
    have hof : wf.ownsRow (w.heap.size + 2) 9 1 (.slice A' 1 c') 1 (tv [x]) := by rw [← hwf]; exact own_setCells _ u4 (by omega)
    have hbf : Below w.heap.size w wf := by
      rw [← hwf]
      exact ((Chg.of_below (S := []) u3).setCells _ (.inr (by omega))).below (by simp)
    rw [hwf] at hst hSt
    have hH := hSt.has (n := 6) rfl
    have hA := hSt.arr (n := 6) rfl
    clear hwf u1 u2 u4 u3 hSt
    generalize hCS : (lgCells (.slice A' 1 c')).toArray = CS at *
    have HCS := Lib.hid hCS
    clear hCS
    go_wp2
    go_loopw [3, 32] (fun _ i wr => i = .int .i64 0 ∧ wr = wz) (fun _ _ _ => 0)
    case atStart => exact ⟨rfl, rfl⟩
    case round =>
      obtain ⟨rfl, rfl⟩ := hrel
      go_wp2
      go_loopw [4, 51] (fun _ i wr' => i = .int .i64 0 ∧ wr' = wr) (fun _ _ _ => 0)
      case atStart => exact ⟨rfl, rfl⟩
      case round =>
        obtain ⟨rfl, rfl⟩ := hrel
        go_wp2
        refine bodyPost_ret (results_arr (P := Tryz.prog) Tryz.results27 _ _ (w.heap.size + 1) 0 6 _ rfl Tryz.underlying30 rfl size_ledger hH) rfl ?_
        exact ⟨A', c', by rw [hA, HCS.out], g1, g2, own_base hof (by omega), hbf⟩
end Go.Proofs.YtmbpnkacggngkaaGreatDoor
