/- THE WALK of Apply where what it does is known. -/
import Derived.Test.YtmbpnkacggngkaaGreatDoorLedClone
import Derived.Test.YtmbpnkacggngkaaGreatDoorLedDoing
namespace Go.Proofs.YtmbpnkacggngkaaGreatDoor
open Go.RowKit Mem Led

theorem zero_doer (w : World) : (zeroValue 72).run Tryz.prog w = .ok .nilFunc w := by kernel_rfl
theorem look_doer (w : World) (K : Int) (F : FuncId) (hK : ((doL.findIdx? fun p => K == p.1).bind fun n => doL[n]?.map fun p => p.2) = some (.func (.func F) #[] #[])) :
    (Instr.lookup 73 (.map (some w.heap.size)) (.int .i64 K) false).run Tryz.prog (w.alloc (mo 20)) = .ok (.func (.func F) #[] #[]) (w.alloc (mo 20)) := by
  have h := run_look (P := Tryz.prog) (w.alloc (mo 20)) w.heap.size (doL.take 20) K _ _ _ .nilFunc Tryz.underlying73 Tryz.underlying3 (zero_doer _) (heap_alloc_new w _)
  rw [show doL.take 20 = doL from rfl, hK] at h
  exact h
theorem setCell_id {w : World} {g k : Nat} {cs : List Value} {t : TypeId} {v : Value} (h : Blk w g cs t) (hk : cs[k]? = some v) : w.setCell ⟨g, k, none⟩ v = w := by
  have hh : (w.setCell ⟨g, k, none⟩ v).heap = w.heap := by
    apply Array.ext_getElem?
    intro i
    by_cases hi : i = g
    · subst hi
      have h1 := h.set k v
      rw [set_same hk] at h1
      unfold Blk at h h1
      rw [h1, h]
    · exact heap_setCell_other w ⟨g, k, none⟩ i v hi
  have e : w.setCell ⟨g, k, none⟩ v = { w with heap := (w.setCell ⟨g, k, none⟩ v).heap } := rfl
  rw [e, hh]
/-- An operation's cells that hold no lists. -/
structure Plain (ops : List Value) (K : Int) : Prop where
  len : ops.length = 24
  kind : ops[0]? = some (.int .i64 K)
  sels : ops[7]? = some (.slice none 0 0)
  keys : ops[23]? = some (.slice none 0 0)
set_option maxRecDepth 100000 in
set_option maxHeartbeats 4000000 in
theorem apply_err (cs : List Value) (ops : List Value) (K : Int) (F : FuncId) (w : World) (k : Int) (hk : k ≠ 0) (C : List Value → World → Prop) (hC : C cs w) (h6 : ∀ cs w, C cs w → cs.length = 6 ∧ ∀ v ∈ cs, v.oneCell' = true)
    (hst : ∀ cs w w', C cs w → Below w.heap.size w w' → C cs w') (hp : Plain ops K)
    (hK : ((doL.findIdx? fun p => K == p.1).bind fun n => doL[n]?.map fun p => p.2) = some (.func (.func F) #[] #[]))
    (hcl : ∀ cs W, C cs W → Calls Tryz.prog 27 #[.agg cs.toArray] W fun e w' => ∃ cs', e = .returned (.agg cs'.toArray) ∧ C cs' w' ∧ Below W.heap.size W w')
    (eg : ∀ args w, (callFunc F args).run Tryz.prog w = .ok (.enter F args) w)
    (hdo : ∀ gl cs' W, C cs' W → Blk W gl cs' 30 → Calls Tryz.prog F #[.pointer (some ⟨gl, 0, none⟩), .agg ops.toArray] W fun e w' => e = .returned (.int .i64 k) ∧ Below W.heap.size W w') :
    Calls Tryz.prog 14 #[.agg cs.toArray, .agg ops.toArray] w fun e w' => ∃ cs' : List Value, e = .returned (.tuple #[.agg cs'.toArray, .int .i64 k]) ∧ (cs'.length = 6 ∧ ∀ v ∈ cs', v.oneCell' = true) ∧ Below w.heap.size w w' := by
  obtain ⟨W, hW⟩ : ∃ W, ((w.alloc (.cells cs.toArray 30)).alloc (.cells ops.toArray 47)).alloc (.cells (lgCells (.slice none 0 0)).toArray 30) = W := ⟨_, rfl⟩
  have b0 : Blk W w.heap.size cs 30 := by rw [← hW]; exact ((Blk.new _ _ _).alloc _).alloc _
  have b1 : Blk W (w.heap.size + 1) ops 47 := by
    have := Blk.new (w.alloc (.cells cs.toArray 30)) ops 47
    rw [← hW]
    exact Blk.alloc (by simpa using this) _
  have b2 : Blk W (w.heap.size + 2) (lgCells (.slice none 0 0)) 30 := by
    have := Blk.new ((w.alloc (.cells cs.toArray 30)).alloc (.cells ops.toArray 47)) (lgCells (.slice none 0 0)) 30
    rw [← hW]
    simpa using this
  have hbW : Below w.heap.size w W := by rw [← hW]; exact (((Below.refl _ _).alloc (Nat.le_refl _) _).alloc (by simp) _).alloc (by simp; omega) _
  have hzW : W.heap.size = w.heap.size + 3 := by rw [← hW]; simp
  have hdoers := doers_any W.drew
  have hlook : (Instr.lookup 73 (.map (some (w.heap.size + 3))) (.int .i64 K) false).run Tryz.prog (W.alloc (mo 20)).drew = .ok (.func (.func F) #[] #[]) (W.alloc (mo 20)).drew := by
    have := look_doer W.drew K F hK
    rw [show W.drew.heap.size = w.heap.size + 3 from hzW] at this
    exact this
  have m0 : W.cell? ⟨w.heap.size + 1, 0, none⟩ = some (.int .i64 K) := (b1.cell 0).trans hp.kind
  have m1 : ∀ o, (W.alloc o).cell? ⟨w.heap.size + 1, 0, none⟩ = some (.int .i64 K) := fun o => ((b1.alloc o).cell 0).trans hp.kind
  have HW := Lib.hid hW
  unfold lgCells at HW
  clear hW
  go_enter Tryz.func14, Tryz.ntmps14
  go_upto_region 1 with fail
  rw [HW.out]
  go_cut [6] (fun s6 wx => s6 = .func (.func F) #[] #[] ∧ Below W.heap.size W wx)
  case first =>
    go_region_with (go_at_call 26; refine hdoers.mono ?_; rintro e w1 ⟨rfl, rfl⟩)
    all_goals
      go_wp2_with fail
      go_meet
      case rel => exact ⟨rfl, ((Below.refl _ _).drew).alloc (Nat.le_refl _) _⟩
  case rest =>
    obtain ⟨rfl, hbx⟩ := hcut
    have c0 := b0.below hbx
    have c1 := b1.below hbx
    have c2 := b2.below hbx
    have hbw : Below w.heap.size w wc := hbW.trans (hbx.mono hbW.size)
    have hCc := hst _ _ _ hC hbw
    have h6a := h6 _ _ hCc
    have hld := load_lg c0 h6a.1
    have hcc := hcl cs wc hCc
    have hnil : ∀ W, (Go.binOp .eql 72 (.func (.func F) #[] #[]) .nilFunc).run Tryz.prog W = .ok (.bool false) W := fun W => by kernel_rfl
    have hzc := hbx.size
    clear hlook hdoers m0 m1 HW b0 b1 b2 hbx hC
    go_wp2_with fail
    refine hcc.mono ?_
    rintro e w2 ⟨cs', rfl, hC2, hb2⟩
    have d0 := c0.below hb2
    have d1 := c1.below hb2
    have d2 := c2.below hb2
    have hbw2 : Below w.heap.size w w2 := hbw.trans (hb2.mono hbw.size)
    have h6b := h6 _ _ hC2
    have bn := Blk.new w2 (lgCells (.slice none 0 0)) 30
    obtain ⟨hs1, B3⟩ := store_lg bn rfl h6b.1 h6b.2
    obtain ⟨wn, hwn⟩ : ∃ wn, (w2.alloc (.cells (lgCells (.slice none 0 0)).toArray 30)).setCells w2.heap.size 0 cs' = wn := ⟨_, rfl⟩
    have hcn : Chg [] w2 wn := by rw [← hwn]; exact ((Chg.refl _ _).alloc _).setCells _ (.inr (Nat.le_refl _))
    rw [hwn] at hs1 B3
    unfold lgCells at hs1
    have e0 := d0.chg hcn (by simp)
    have e1 := d1.chg hcn (by simp)
    have e2 := d2.chg hcn (by simp)
    have hbn := hcn.below (fun _ h => by cases h)
    have hCn := hst _ _ _ hC2 hbn
    have hC0 := hst _ _ _ (hst _ _ _ hCc hb2) hbn
    have hbwn : Below w.heap.size w wn := hbw2.trans (hbn.mono hbw2.size)
    have p7 : wn.cell? ⟨w.heap.size + 1, 7, none⟩ = some (.slice none 0 0) := (e1.cell 7).trans hp.sels
    have p23 : wn.cell? ⟨w.heap.size + 1, 23, none⟩ = some (.slice none 0 0) := (e1.cell 23).trans hp.keys
    have f7 : wn.frozen? ⟨w.heap.size + 1, 7, none⟩ = false := e1.froz 7
    have f23 : wn.frozen? ⟨w.heap.size + 1, 23, none⟩ = false := e1.froz 23
    have s7 : Hid ((wn.setCell ⟨w.heap.size + 1, 7, none⟩ (.slice none 0 0)).cell? ⟨w.heap.size + 1, 7, none⟩ = some (.slice none 0 0) ∧ (wn.setCell ⟨w.heap.size + 1, 7, none⟩ (.slice none 0 0)).cell? ⟨w.heap.size + 1, 23, none⟩ = some (.slice none 0 0)) :=
      Lib.hid ⟨setc_same _ _ _ _ _ p7, (setc_ne _ _ _ _ _ (by omega)).trans p23⟩
    have s23 : Hid (((wn.setCell ⟨w.heap.size + 1, 7, none⟩ (.slice none 0 0)).setCell ⟨w.heap.size + 1, 23, none⟩ (.slice none 0 0)).cell? ⟨w.heap.size + 1, 7, none⟩ = some (.slice none 0 0) ∧ ((wn.setCell ⟨w.heap.size + 1, 7, none⟩ (.slice none 0 0)).setCell ⟨w.heap.size + 1, 23, none⟩ (.slice none 0 0)).cell? ⟨w.heap.size + 1, 23, none⟩ = some (.slice none 0 0)) :=
      Lib.hid ⟨(setc_ne _ _ _ _ _ (by omega)).trans s7.out.1, setc_same _ _ _ _ _ s7.out.2⟩
    clear hld hcc c0 c1 c2 d0 d1 d2 bn hwn hcn hbn hzc
    go_wp2_with fail
    go_region_held3 (fun w' => w'.cell? ⟨w.heap.size + 1, 7, none⟩ = some (.slice none 0 0) ∧ w'.cell? ⟨w.heap.size + 1, 23, none⟩ = some (.slice none 0 0)) (first | exact s7.out | exact s23.out | go_keep) (first | (go_at_call 28; refine (cloneTexts_nil _).mono ?_; rintro e w1 ⟨rfl, rfl⟩) | (go_at_call 29; refine (cloneJwks_nil _).mono ?_; rintro e w1 ⟨rfl, rfl⟩))
    rw [setCell_id e1 hp.sels, setCell_id e1 hp.keys]
    clear s7 s23 f7 f23 p7 p23
    have hbwd : Below w.heap.size w wn.drew := hbwn.drew
    have hCd := hst _ _ _ hCn (Below.refl _ _).drew
    have hC0d := hst _ _ _ hC0 (Below.refl _ _).drew
    have hld := load_op e1.drew hp.len
    have hdd := hdo w2.heap.size cs' wn.drew hCd B3.drew
    have hkb : (k != 0) = true := by simpa using hk
    go_wp2_with fail
    refine hdd.mono ?_
    rintro e w3 ⟨rfl, hb3⟩
    have g0 := e0.drew.below hb3
    have g2 := e2.drew.below hb3
    have hC3 := hst _ _ _ hC0d hb3
    have hbw3 : Below w.heap.size w w3 := hbwd.trans (hb3.mono hbwd.size)
    have hld2 := load_lg g0 (h6 _ _ hC3).1
    have hcc2 := hcl cs w3 hC3
    clear hld hdd e0 e1 e2 B3 hCn hC0 hCd hC0d hbwn hbwd
    go_wp2_with fail
    refine hcc2.mono ?_
    rintro e w4 ⟨cs4, rfl, hC4, hb4⟩
    have h6d := h6 _ _ hC4
    have q2 := g2.below hb4
    obtain ⟨hs2, B4⟩ := store_lg q2 rfl h6d.1 h6d.2
    have hbw4 : Below w.heap.size w w4 := hbw3.trans (hb4.mono hbw3.size)
    obtain ⟨w5, hw5⟩ : ∃ w5, w4.setCells (w.heap.size + 2) 0 cs4 = w5 := ⟨_, rfl⟩
    have hc5 : Chg [w.heap.size + 2] w4 w5 := by rw [← hw5]; exact (Chg.refl _ _).setCells _ (.inl (by simp))
    rw [hw5] at hs2 B4
    have hH := B4.has (n := 6) h6d.1
    have hA := B4.arr (n := 6) h6d.1
    have hbw5 : Below w.heap.size w w5 := ((Chg.of_below (S := [w.heap.size + 2]) hbw4).and hc5).below' (Nat.le_refl _) (by simp)
    clear hw5 hc5 B4 g0 g2 q2
    go_wp2
    refine bodyPost_ret (results_arr2 (P := Tryz.prog) Tryz.results14 _ _ (w.heap.size + 2) 0 6 _ rfl Tryz.underlying30 rfl size_ledger hH) rfl ?_
    exact ⟨cs4, by rw [hA]; rfl, h6d, hbw5⟩
set_option maxRecDepth 100000 in
set_option maxHeartbeats 4000000 in
theorem apply_ok (cs : List Value) (ops : List Value) (K : Int) (F : FuncId) (w : World) (C : List Value → World → Prop) (hC : C cs w) (h6 : ∀ cs w, C cs w → cs.length = 6 ∧ ∀ v ∈ cs, v.oneCell' = true)
    (D : List Value → World → Prop) (hDs : ∀ cs w' w'' g, g < w.heap.size + 3 → D cs w' → Chg [g] w' w'' → D cs w'')
    (hst : ∀ cs w w', C cs w → Below w.heap.size w w' → C cs w') (hp : Plain ops K)
    (hK : ((doL.findIdx? fun p => K == p.1).bind fun n => doL[n]?.map fun p => p.2) = some (.func (.func F) #[] #[]))
    (hcl : ∀ cs W, C cs W → Calls Tryz.prog 27 #[.agg cs.toArray] W fun e w' => ∃ cs', e = .returned (.agg cs'.toArray) ∧ C cs' w' ∧ Below W.heap.size W w')
    (eg : ∀ args w, (callFunc F args).run Tryz.prog w = .ok (.enter F args) w)
    (hdo : ∀ gl cs' W, w.heap.size + 3 ≤ W.heap.size → C cs' W → Blk W gl cs' 30 → Calls Tryz.prog F #[.pointer (some ⟨gl, 0, none⟩), .agg ops.toArray] W fun e w' => e = .returned (.int .i64 0) ∧ ∃ cs2, Blk w' gl cs2 30 ∧ D cs2 w' ∧ Chg [gl] W w' ∧ cs2.length = 6 ∧ ∀ v ∈ cs2, v.oneCell' = true) :
    Calls Tryz.prog 14 #[.agg cs.toArray, .agg ops.toArray] w fun e w' => ∃ cs' : List Value, e = .returned (.tuple #[.agg cs'.toArray, .int .i64 0]) ∧ D cs' w' ∧ (cs'.length = 6 ∧ ∀ v ∈ cs', v.oneCell' = true) ∧ Below w.heap.size w w' := by
  obtain ⟨W, hW⟩ : ∃ W, ((w.alloc (.cells cs.toArray 30)).alloc (.cells ops.toArray 47)).alloc (.cells (lgCells (.slice none 0 0)).toArray 30) = W := ⟨_, rfl⟩
  have b0 : Blk W w.heap.size cs 30 := by rw [← hW]; exact ((Blk.new _ _ _).alloc _).alloc _
  have b1 : Blk W (w.heap.size + 1) ops 47 := by
    have := Blk.new (w.alloc (.cells cs.toArray 30)) ops 47
    rw [← hW]
    exact Blk.alloc (by simpa using this) _
  have b2 : Blk W (w.heap.size + 2) (lgCells (.slice none 0 0)) 30 := by
    have := Blk.new ((w.alloc (.cells cs.toArray 30)).alloc (.cells ops.toArray 47)) (lgCells (.slice none 0 0)) 30
    rw [← hW]
    simpa using this
  have hbW : Below w.heap.size w W := by rw [← hW]; exact (((Below.refl _ _).alloc (Nat.le_refl _) _).alloc (by simp) _).alloc (by simp; omega) _
  have hzW : W.heap.size = w.heap.size + 3 := by rw [← hW]; simp
  have hdoers := doers_any W.drew
  have hlook : (Instr.lookup 73 (.map (some (w.heap.size + 3))) (.int .i64 K) false).run Tryz.prog (W.alloc (mo 20)).drew = .ok (.func (.func F) #[] #[]) (W.alloc (mo 20)).drew := by
    have := look_doer W.drew K F hK
    rw [show W.drew.heap.size = w.heap.size + 3 from hzW] at this
    exact this
  have m0 : W.cell? ⟨w.heap.size + 1, 0, none⟩ = some (.int .i64 K) := (b1.cell 0).trans hp.kind
  have m1 : ∀ o, (W.alloc o).cell? ⟨w.heap.size + 1, 0, none⟩ = some (.int .i64 K) := fun o => ((b1.alloc o).cell 0).trans hp.kind
  have HW := Lib.hid hW
  unfold lgCells at HW
  clear hW
  go_enter Tryz.func14, Tryz.ntmps14
  go_upto_region 1 with fail
  rw [HW.out]
  go_cut [6] (fun s6 wx => s6 = .func (.func F) #[] #[] ∧ Below W.heap.size W wx)
  case first =>
    go_region_with (go_at_call 26; refine hdoers.mono ?_; rintro e w1 ⟨rfl, rfl⟩)
    all_goals
      go_wp2_with fail
      go_meet
      case rel => exact ⟨rfl, ((Below.refl _ _).drew).alloc (Nat.le_refl _) _⟩
  case rest =>
    obtain ⟨rfl, hbx⟩ := hcut
    have c0 := b0.below hbx
    have c1 := b1.below hbx
    have c2 := b2.below hbx
    have hbw : Below w.heap.size w wc := hbW.trans (hbx.mono hbW.size)
    have hCc := hst _ _ _ hC hbw
    have h6a := h6 _ _ hCc
    have hld := load_lg c0 h6a.1
    have hcc := hcl cs wc hCc
    have hnil : ∀ W, (Go.binOp .eql 72 (.func (.func F) #[] #[]) .nilFunc).run Tryz.prog W = .ok (.bool false) W := fun W => by kernel_rfl
    have hzc := hbx.size
    clear hlook hdoers m0 m1 HW b0 b1 b2 hbx hC
    go_wp2_with fail
    refine hcc.mono ?_
    rintro e w2 ⟨cs', rfl, hC2, hb2⟩
    have d0 := c0.below hb2
    have d1 := c1.below hb2
    have d2 := c2.below hb2
    have hbw2 : Below w.heap.size w w2 := hbw.trans (hb2.mono hbw.size)
    have h6b := h6 _ _ hC2
    have bn := Blk.new w2 (lgCells (.slice none 0 0)) 30
    obtain ⟨hs1, B3⟩ := store_lg bn rfl h6b.1 h6b.2
    obtain ⟨wn, hwn⟩ : ∃ wn, (w2.alloc (.cells (lgCells (.slice none 0 0)).toArray 30)).setCells w2.heap.size 0 cs' = wn := ⟨_, rfl⟩
    have hcn : Chg [] w2 wn := by rw [← hwn]; exact ((Chg.refl _ _).alloc _).setCells _ (.inr (Nat.le_refl _))
    rw [hwn] at hs1 B3
    unfold lgCells at hs1
    have hz3 : w.heap.size + 3 ≤ wn.heap.size := by
      have h1 := hcn.size
      have h2 := hb2.size
      omega
    have e0 := d0.chg hcn (by simp)
    have e1 := d1.chg hcn (by simp)
    have e2 := d2.chg hcn (by simp)
    have hbn := hcn.below (fun _ h => by cases h)
    have hCn := hst _ _ _ hC2 hbn
    have hC0 := hst _ _ _ (hst _ _ _ hCc hb2) hbn
    have hbwn : Below w.heap.size w wn := hbw2.trans (hbn.mono hbw2.size)
    have p7 : wn.cell? ⟨w.heap.size + 1, 7, none⟩ = some (.slice none 0 0) := (e1.cell 7).trans hp.sels
    have p23 : wn.cell? ⟨w.heap.size + 1, 23, none⟩ = some (.slice none 0 0) := (e1.cell 23).trans hp.keys
    have f7 : wn.frozen? ⟨w.heap.size + 1, 7, none⟩ = false := e1.froz 7
    have f23 : wn.frozen? ⟨w.heap.size + 1, 23, none⟩ = false := e1.froz 23
    have s7 : Hid ((wn.setCell ⟨w.heap.size + 1, 7, none⟩ (.slice none 0 0)).cell? ⟨w.heap.size + 1, 7, none⟩ = some (.slice none 0 0) ∧ (wn.setCell ⟨w.heap.size + 1, 7, none⟩ (.slice none 0 0)).cell? ⟨w.heap.size + 1, 23, none⟩ = some (.slice none 0 0)) :=
      Lib.hid ⟨setc_same _ _ _ _ _ p7, (setc_ne _ _ _ _ _ (by omega)).trans p23⟩
    have s23 : Hid (((wn.setCell ⟨w.heap.size + 1, 7, none⟩ (.slice none 0 0)).setCell ⟨w.heap.size + 1, 23, none⟩ (.slice none 0 0)).cell? ⟨w.heap.size + 1, 7, none⟩ = some (.slice none 0 0) ∧ ((wn.setCell ⟨w.heap.size + 1, 7, none⟩ (.slice none 0 0)).setCell ⟨w.heap.size + 1, 23, none⟩ (.slice none 0 0)).cell? ⟨w.heap.size + 1, 23, none⟩ = some (.slice none 0 0)) :=
      Lib.hid ⟨(setc_ne _ _ _ _ _ (by omega)).trans s7.out.1, setc_same _ _ _ _ _ s7.out.2⟩
    clear hld hcc c0 c1 c2 d0 d1 d2 bn hwn hcn hbn
    go_wp2_with fail
    go_region_held3 (fun w' => w'.cell? ⟨w.heap.size + 1, 7, none⟩ = some (.slice none 0 0) ∧ w'.cell? ⟨w.heap.size + 1, 23, none⟩ = some (.slice none 0 0)) (first | exact s7.out | exact s23.out | go_keep) (first | (go_at_call 28; refine (cloneTexts_nil _).mono ?_; rintro e w1 ⟨rfl, rfl⟩) | (go_at_call 29; refine (cloneJwks_nil _).mono ?_; rintro e w1 ⟨rfl, rfl⟩))
    rw [setCell_id e1 hp.sels, setCell_id e1 hp.keys]
    clear s7 s23 f7 f23 p7 p23
    have hbwd : Below w.heap.size w wn.drew := hbwn.drew
    have hCd := hst _ _ _ hCn (Below.refl _ _).drew
    have hC0d := hst _ _ _ hC0 (Below.refl _ _).drew
    have hld := load_op e1.drew hp.len
    have hdd := hdo w2.heap.size cs' wn.drew hz3 hCd B3.drew
    go_wp2_with fail
    refine hdd.mono ?_
    rintro e w3 ⟨rfl, cs2, B5, hD5, hc3, h6c, h6e⟩
    have hz2 : w.heap.size + 3 ≤ w2.heap.size := by
      have := hb2.size
      omega
    have g2 := e2.drew.chg hc3 (by simp; omega)
    have hbw3 : Below w.heap.size w w3 := hbwd.trans (hc3.below' (B := w.heap.size) hbwd.size (by simp; omega))
    have hld2 := load_lg B5 h6c
    obtain ⟨hs2, B4⟩ := store_lg g2 rfl h6c h6e
    obtain ⟨w5, hw5⟩ : ∃ w5, w3.setCells (w.heap.size + 2) 0 cs2 = w5 := ⟨_, rfl⟩
    have hc5 : Chg [w.heap.size + 2] w3 w5 := by rw [← hw5]; exact (Chg.refl _ _).setCells _ (.inl (by simp))
    rw [hw5] at hs2 B4
    have hH := B4.has (n := 6) h6c
    have hA := B4.arr (n := 6) h6c
    have hD6 : D cs2 w5 := hDs cs2 w3 w5 (w.heap.size + 2) (by omega) hD5 hc5
    have hbw5 : Below w.heap.size w w5 := ((Chg.of_below (S := [w.heap.size + 2]) hbw3).and hc5).below' (Nat.le_refl _) (by simp)
    clear hld hdd e0 e1 e2 B3 hCn hC0 hCd hC0d hbwn hbwd hw5 hc5 B4 g2 B5
    go_wp2
    refine bodyPost_ret (results_arr2 (P := Tryz.prog) Tryz.results14 _ _ (w.heap.size + 2) 0 6 _ rfl Tryz.underlying30 rfl size_ledger hH) rfl ?_
    exact ⟨cs2, by rw [hA]; rfl, hD6, ⟨h6c, h6e⟩, hbw5⟩
end Go.Proofs.YtmbpnkacggngkaaGreatDoor
