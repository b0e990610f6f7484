/- THE WALK of the program's curve, that it returns: sum. -/
import Derived.Test.YtgalhnobckoneaaGreatDoorCryM
import Derived.Test.YtgalhnobckoneaaGreatDoorMixF
namespace Go.Proofs.YtgalhnobckoneaaGreatDoor
open Go.RowKit Mem
namespace Cry

theorem size_P : (Tryz.prog.info? 82).map (·.size) = some 20 := by kernel_rfl
/-- A point, read and written, behind names that the walk does not open. -/
def loadP (x : Value) : Sem Value := Instr.loadAt 82 x
def storeP (x v : Value) : Sem Unit := Instr.storeAt 82 x v
theorem named_load_P (x : Value) : Instr.loadAt 82 x = loadP x := rfl
theorem named_store_P (x v : Value) : Instr.storeAt 82 x v = storeP x v := rfl
attribute [go_sem ↓] named_load_P named_store_P
section
variable {w : World} {g n : Nat} {t : TypeId}
theorem Ub.loadP (h : Ub w g n t) (o : Nat) (ho : o + 20 ≤ n) : ∃ xs : List Int, xs.length = 20 ∧ ∀ w', Below w.heap.size w w' → (Cry.loadP (.pointer (some ⟨g, o, none⟩))).run Tryz.prog w' = .ok (.agg (us xs).toArray) w' := Ub.load Tryz.underlying82 rfl size_P h o ho
theorem Ub.storeP (h : Ub w g 20 t) {xs : List Int} (hx : xs.length = 20) : ∃ w1, (Cry.storeP (.pointer (some ⟨g, 0, none⟩)) (.agg (us xs).toArray)).run Tryz.prog w = .ok () w1 ∧ Ub w1 g 20 t ∧ Chg [g] w w1 := Ub.store size_P h hx
end
/-- A new element's place. -/
def NewE (W : World) (v : Value) (w' : World) : Prop := ∃ g, W.heap.size ≤ g ∧ v = .pointer (some ⟨g, 0, none⟩) ∧ Ub w' g 5 80
theorem stable_uv {n : Nat} : Batch.Stable Batch.GR (fun v _ => Uv n v) := Batch.stable_gr fun _ _ _ _ h => h
theorem stable_new {W : World} : Batch.Stable Batch.GR (NewE W) := Batch.stable_gr fun _ _ _ hb ⟨g, h1, h2, h3⟩ => ⟨g, h1, h2, h3.below hb⟩
theorem us_lit (a b c d e : Int) : us [a, b, c, d, e] = [.int .u64 a, .int .u64 b, .int .u64 c, .int .u64 d, .int .u64 e] := rfl
def z20 : List Int := [0, 0, 0, 0, 0, 0, 0, 0, 0, 0, 0, 0, 0, 0, 0, 0, 0, 0, 0, 0]
set_option maxRecDepth 100000 in
set_option maxHeartbeats 16000000 in
theorem sum_pt (ps qs ts : List Int) (hp : ps.length = 20) (hq : qs.length = 20) (ht : ts.length = 5) (w : World) : Calls Tryz.prog 81 #[.agg (us ps).toArray, .agg (us qs).toArray, .agg (us ts).toArray] w (Ans (Uv 20) w) := by
  obtain ⟨W, HW, P0, Q0, T0, R0, hB, hz⟩ := boxes4 w (us ps) 82 (us qs) 82 (us ts) 80 (us z20) 82
  have P0 := Blk.ub P0 hp
  have Q0 := Blk.ub Q0 hq
  have T0 := Blk.ub T0 ht
  have R0 : Ub _ _ 20 _ := Blk.ub R0 rfl
  go_enter Tryz.func81, Tryz.ntmps81
  go_upto_region 1 with fail
  rw [show ((((w.alloc (.cells (us ps).toArray 82)).alloc (.cells (us qs).toArray 82)).alloc (.cells (us ts).toArray 80)).alloc (.cells #[.int .u64 0, .int .u64 0, .int .u64 0, .int .u64 0, .int .u64 0, .int .u64 0, .int .u64 0, .int .u64 0, .int .u64 0, .int .u64 0, .int .u64 0, .int .u64 0, .int .u64 0, .int .u64 0, .int .u64 0, .int .u64 0, .int .u64 0, .int .u64 0, .int .u64 0, .int .u64 0] 82)) = W from HW.out]
  clear HW
  obtain ⟨ya, hya, lya⟩ := P0.loadE 5 (by omega)
  have fya : ∀ p, (loadE (.pointer (some ⟨w.heap.size, 5, none⟩))).run Tryz.prog (Batch.grew W p) = .ok (.agg (us ya).toArray) (Batch.grew W p) := fun p => lya _ (Batch.grew_below W p)
  obtain ⟨xa, hxa, lxa⟩ := P0.loadE 0 (by omega)
  have fxa : ∀ p, (loadE (.pointer (some ⟨w.heap.size, 0, none⟩))).run Tryz.prog (Batch.grew W p) = .ok (.agg (us xa).toArray) (Batch.grew W p) := fun p => lxa _ (Batch.grew_below W p)
  obtain ⟨yb, hyb, lyb⟩ := Q0.loadE 5 (by omega)
  have fyb : ∀ p, (loadE (.pointer (some ⟨w.heap.size + 1, 5, none⟩))).run Tryz.prog (Batch.grew W p) = .ok (.agg (us yb).toArray) (Batch.grew W p) := fun p => lyb _ (Batch.grew_below W p)
  obtain ⟨xb, hxb, lxb⟩ := Q0.loadE 0 (by omega)
  have fxb : ∀ p, (loadE (.pointer (some ⟨w.heap.size + 1, 0, none⟩))).run Tryz.prog (Batch.grew W p) = .ok (.agg (us xb).toArray) (Batch.grew W p) := fun p => lxb _ (Batch.grew_below W p)
  have hsz1 := hB.size
  go_upto_region 1 with fail
  refine Batch.wp_region_free [([0, 1, 2, 3], 4, [], fun v _ => Uv 5 v), ([5, 6, 7, 8], 9, [], fun v _ => Uv 5 v), ([], 10, [], fun v _ => Uv 5 v), ([], 11, [], NewE W)] [12] (by kernel_rfl) (by kernel_rfl) (by
    intro x hx
    simp only [List.mem_cons, List.not_mem_nil, or_false] at hx
    rcases hx with rfl | rfl | rfl | rfl
    · exact stable_uv
    · exact stable_uv
    · exact stable_uv
    · exact stable_new) ?_
  refine Batch.freeR_cons ?_
  simp only [Batch.pick, List.getD_cons_zero, List.getD_cons_succ]
  repeat (go_big_quiet_step (fail))
  refine wpQuiet_nil ?_
  refine ⟨_, rfl, rfl, ⟨_, W, z5, rfl, rfl⟩, ?_, ?_⟩
  · intro w5 hw5 _
    go_simp
    exact ⟨rfl, gives_ans (sub_ex ya xa hya hxa w5)⟩
  rintro _ ⟨_, v10, hv10, rfl⟩
  refine Batch.freeR_cons ?_
  simp only [Batch.pick, List.getD_cons_zero, List.getD_cons_succ, List.getElem_toArray, List.getElem_cons_succ, List.getElem_cons_zero, Act.put, List.setIfInBounds_toArray, List.set_cons_zero, List.set_cons_succ]
  repeat (go_big_quiet_step (fail))
  refine wpQuiet_nil ?_
  refine ⟨_, rfl, rfl, ⟨_, W, z5, rfl, rfl⟩, ?_, ?_⟩
  · intro w5 hw5 _
    go_simp
    exact ⟨rfl, gives_ans (sub_ex yb xb hyb hxb w5)⟩
  rintro _ ⟨_, v11, hv11, rfl⟩
  refine Batch.freeR_cons ?_
  simp only [Batch.pick, List.getD_cons_zero, List.getD_cons_succ, List.getElem_toArray, List.getElem_cons_succ, List.getElem_cons_zero, Act.put, List.setIfInBounds_toArray, List.set_cons_zero, List.set_cons_succ]
  repeat (go_big_quiet_step (fail))
  refine wpQuiet_nil ?_
  refine ⟨_, rfl, rfl, ⟨_, W, z5, rfl, rfl⟩, ?_, ?_⟩
  · intro w5 hw5 _
    go_simp
    exact ⟨rfl, gives_ans (mul_ex v10 v11 hv10 hv11 w5)⟩
  rintro _ ⟨_, v12, hv12, rfl⟩
  refine Batch.freeR_cons ?_
  simp only [Batch.pick, List.getD_cons_zero, List.getD_cons_succ, List.getElem_toArray, List.getElem_cons_succ, List.getElem_cons_zero, Act.put, List.setIfInBounds_toArray, List.set_cons_zero, List.set_cons_succ]
  refine wpQuiet_nil ?_
  refine ⟨_, rfl, rfl, ⟨_, _, _, Nat.le_refl _, rfl, Ub.new W z5 _⟩, ?_, ?_⟩
  · intro w1 hw1 _
    have hwz := hw1.below.size
    go_simp
    exact ⟨Batch.GR.of ((Below.refl _ _).alloc (Nat.le_refl _) _), w1.heap.size, hwz, rfl, Ub.new w1 z5 _⟩
  rintro p10 - w1 hw1 ⟨⟨g10, hg10, rfl, U10⟩, _⟩
  have hb1 := hw1.below
  have hs1 := hb1.size
  have hB1 : Below w.heap.size w w1 := hB.trans (hb1.mono hB.size)
  have P0 := P0.below hb1
  have Q0 := Q0.below hb1
  have T0 := T0.below hb1
  have R0 := R0.below hb1
  clear hw1  fya lya fxa lxa fyb lyb fxb lxb
  obtain ⟨w1a, hst10, Ut, hc10⟩ := U10.storeE hv12
  have hB1 : Below w.heap.size w w1a := hB1.trans (hc10.below' hB1.size (by intro s hs; simp at hs; subst hs; omega))
  have P0 := U10.kept Ut hc10 P0
  have Q0 := U10.kept Ut hc10 Q0
  have T0 := U10.kept Ut hc10 T0
  have R0 := U10.kept Ut hc10 R0
  have U10 := Ut
  have hz10 := hc10.size
  have hB := hB1
  obtain ⟨yc, hyc, lyc⟩ := P0.loadE 5 (by omega)
  have fyc : ∀ p, (loadE (.pointer (some ⟨w.heap.size, 5, none⟩))).run Tryz.prog (Batch.grew w1a p) = .ok (.agg (us yc).toArray) (Batch.grew w1a p) := fun p => lyc _ (Batch.grew_below w1a p)
  obtain ⟨xc, hxc, lxc⟩ := P0.loadE 0 (by omega)
  have fxc : ∀ p, (loadE (.pointer (some ⟨w.heap.size, 0, none⟩))).run Tryz.prog (Batch.grew w1a p) = .ok (.agg (us xc).toArray) (Batch.grew w1a p) := fun p => lxc _ (Batch.grew_below w1a p)
  obtain ⟨yd, hyd, lyd⟩ := Q0.loadE 5 (by omega)
  have fyd : ∀ p, (loadE (.pointer (some ⟨w.heap.size + 1, 5, none⟩))).run Tryz.prog (Batch.grew w1a p) = .ok (.agg (us yd).toArray) (Batch.grew w1a p) := fun p => lyd _ (Batch.grew_below w1a p)
  obtain ⟨xd, hxd, lxd⟩ := Q0.loadE 0 (by omega)
  have fxd : ∀ p, (loadE (.pointer (some ⟨w.heap.size + 1, 0, none⟩))).run Tryz.prog (Batch.grew w1a p) = .ok (.agg (us xd).toArray) (Batch.grew w1a p) := fun p => lxd _ (Batch.grew_below w1a p)
  have hsz2 := hB.size
  go_upto_region 2 with fail
  refine Batch.wp_region_free [([0, 1, 2, 3], 4, [], fun v _ => Uv 5 v), ([5, 6, 7, 8], 9, [], fun v _ => Uv 5 v), ([], 10, [], fun v _ => Uv 5 v), ([], 11, [], NewE w1a)] [12] (by kernel_rfl) (by kernel_rfl) (by
    intro x hx
    simp only [List.mem_cons, List.not_mem_nil, or_false] at hx
    rcases hx with rfl | rfl | rfl | rfl
    · exact stable_uv
    · exact stable_uv
    · exact stable_uv
    · exact stable_new) ?_
  refine Batch.freeR_cons ?_
  simp only [Batch.pick, List.getD_cons_zero, List.getD_cons_succ]
  repeat (go_big_quiet_step (fail))
  refine wpQuiet_nil ?_
  refine ⟨_, rfl, rfl, ⟨_, w1a, z5, rfl, rfl⟩, ?_, ?_⟩
  · intro w5 hw5 _
    go_simp
    exact ⟨rfl, gives_ans (add_ex yc xc hyc hxc w5)⟩
  rintro _ ⟨_, v20, hv20, rfl⟩
  refine Batch.freeR_cons ?_
  simp only [Batch.pick, List.getD_cons_zero, List.getD_cons_succ, List.getElem_toArray, List.getElem_cons_succ, List.getElem_cons_zero, Act.put, List.setIfInBounds_toArray, List.set_cons_zero, List.set_cons_succ]
  repeat (go_big_quiet_step (fail))
  refine wpQuiet_nil ?_
  refine ⟨_, rfl, rfl, ⟨_, w1a, z5, rfl, rfl⟩, ?_, ?_⟩
  · intro w5 hw5 _
    go_simp
    exact ⟨rfl, gives_ans (add_ex yd xd hyd hxd w5)⟩
  rintro _ ⟨_, v21, hv21, rfl⟩
  refine Batch.freeR_cons ?_
  simp only [Batch.pick, List.getD_cons_zero, List.getD_cons_succ, List.getElem_toArray, List.getElem_cons_succ, List.getElem_cons_zero, Act.put, List.setIfInBounds_toArray, List.set_cons_zero, List.set_cons_succ]
  repeat (go_big_quiet_step (fail))
  refine wpQuiet_nil ?_
  refine ⟨_, rfl, rfl, ⟨_, w1a, z5, rfl, rfl⟩, ?_, ?_⟩
  · intro w5 hw5 _
    go_simp
    exact ⟨rfl, gives_ans (mul_ex v20 v21 hv20 hv21 w5)⟩
  rintro _ ⟨_, v22, hv22, rfl⟩
  refine Batch.freeR_cons ?_
  simp only [Batch.pick, List.getD_cons_zero, List.getD_cons_succ, List.getElem_toArray, List.getElem_cons_succ, List.getElem_cons_zero, Act.put, List.setIfInBounds_toArray, List.set_cons_zero, List.set_cons_succ]
  refine wpQuiet_nil ?_
  refine ⟨_, rfl, rfl, ⟨_, _, _, Nat.le_refl _, rfl, Ub.new w1a z5 _⟩, ?_, ?_⟩
  · intro w1 hw1 _
    have hwz := hw1.below.size
    go_simp
    exact ⟨Batch.GR.of ((Below.refl _ _).alloc (Nat.le_refl _) _), w1.heap.size, hwz, rfl, Ub.new w1 z5 _⟩
  rintro p20 - w2 hw2 ⟨⟨g20, hg20, rfl, U20⟩, _⟩
  have hb2 := hw2.below
  have hs2 := hb2.size
  have hB2 : Below w.heap.size w w2 := hB.trans (hb2.mono hB.size)
  have P0 := P0.below hb2
  have Q0 := Q0.below hb2
  have T0 := T0.below hb2
  have R0 := R0.below hb2
  have U10 := U10.below hb2
  clear hw2  fyc lyc fxc lxc fyd lyd fxd lxd
  obtain ⟨w2a, hst20, Ut, hc20⟩ := U20.storeE hv22
  have hB2 : Below w.heap.size w w2a := hB2.trans (hc20.below' hB2.size (by intro s hs; simp at hs; subst hs; omega))
  have P0 := U20.kept Ut hc20 P0
  have Q0 := U20.kept Ut hc20 Q0
  have T0 := U20.kept Ut hc20 T0
  have R0 := U20.kept Ut hc20 R0
  have U10 := U20.kept Ut hc20 U10
  have U20 := Ut
  have hz20 := hc20.size
  have hB := hB2
  obtain ⟨ta, hta, lta⟩ := P0.loadE 15 (by omega)
  have fta : ∀ p, (loadE (.pointer (some ⟨w.heap.size, 15, none⟩))).run Tryz.prog (Batch.grew w2a p) = .ok (.agg (us ta).toArray) (Batch.grew w2a p) := fun p => lta _ (Batch.grew_below w2a p)
  obtain ⟨tw, htw, ltw⟩ := T0.loadE 0 (by omega)
  have ftw : ∀ p, (loadE (.pointer (some ⟨w.heap.size + 2, 0, none⟩))).run Tryz.prog (Batch.grew w2a p) = .ok (.agg (us tw).toArray) (Batch.grew w2a p) := fun p => ltw _ (Batch.grew_below w2a p)
  obtain ⟨tb, htb, ltb⟩ := Q0.loadE 15 (by omega)
  have ftb : ∀ p, (loadE (.pointer (some ⟨w.heap.size + 1, 15, none⟩))).run Tryz.prog (Batch.grew w2a p) = .ok (.agg (us tb).toArray) (Batch.grew w2a p) := fun p => ltb _ (Batch.grew_below w2a p)
  have hsz3 := hB.size
  go_upto_region 3 with fail
  refine Batch.wp_region_free [([0, 1, 2], 3, [], fun v _ => Uv 5 v), ([4, 5], 6, [], fun v _ => Uv 5 v), ([], 7, [], NewE w2a)] [8] (by kernel_rfl) (by kernel_rfl) (by
    intro x hx
    simp only [List.mem_cons, List.not_mem_nil, or_false] at hx
    rcases hx with rfl | rfl | rfl
    · exact stable_uv
    · exact stable_uv
    · exact stable_new) ?_
  refine Batch.freeR_cons ?_
  simp only [Batch.pick, List.getD_cons_zero, List.getD_cons_succ]
  repeat (go_big_quiet_step (fail))
  refine wpQuiet_nil ?_
  refine ⟨_, rfl, rfl, ⟨_, w2a, z5, rfl, rfl⟩, ?_, ?_⟩
  · intro w5 hw5 _
    go_simp
    exact ⟨rfl, gives_ans (mul_ex ta tw hta htw w5)⟩
  rintro _ ⟨_, v30, hv30, rfl⟩
  refine Batch.freeR_cons ?_
  simp only [Batch.pick, List.getD_cons_zero, List.getD_cons_succ, List.getElem_toArray, List.getElem_cons_succ, List.getElem_cons_zero, Act.put, List.setIfInBounds_toArray, List.set_cons_zero, List.set_cons_succ]
  repeat (go_big_quiet_step (fail))
  refine wpQuiet_nil ?_
  refine ⟨_, rfl, rfl, ⟨_, w2a, z5, rfl, rfl⟩, ?_, ?_⟩
  · intro w5 hw5 _
    go_simp
    exact ⟨rfl, gives_ans (mul_ex v30 tb hv30 htb w5)⟩
  rintro _ ⟨_, v31, hv31, rfl⟩
  refine Batch.freeR_cons ?_
  simp only [Batch.pick, List.getD_cons_zero, List.getD_cons_succ, List.getElem_toArray, List.getElem_cons_succ, List.getElem_cons_zero, Act.put, List.setIfInBounds_toArray, List.set_cons_zero, List.set_cons_succ]
  refine wpQuiet_nil ?_
  refine ⟨_, rfl, rfl, ⟨_, _, _, Nat.le_refl _, rfl, Ub.new w2a z5 _⟩, ?_, ?_⟩
  · intro w1 hw1 _
    have hwz := hw1.below.size
    go_simp
    exact ⟨Batch.GR.of ((Below.refl _ _).alloc (Nat.le_refl _) _), w1.heap.size, hwz, rfl, Ub.new w1 z5 _⟩
  rintro p30 - w3 hw3 ⟨⟨g30, hg30, rfl, U30⟩, _⟩
  have hb3 := hw3.below
  have hs3 := hb3.size
  have hB3 : Below w.heap.size w w3 := hB.trans (hb3.mono hB.size)
  have P0 := P0.below hb3
  have Q0 := Q0.below hb3
  have T0 := T0.below hb3
  have R0 := R0.below hb3
  have U10 := U10.below hb3
  have U20 := U20.below hb3
  clear hw3  fta lta ftw ltw ftb ltb
  obtain ⟨w3a, hst30, Ut, hc30⟩ := U30.storeE hv31
  have hB3 : Below w.heap.size w w3a := hB3.trans (hc30.below' hB3.size (by intro s hs; simp at hs; subst hs; omega))
  have P0 := U30.kept Ut hc30 P0
  have Q0 := U30.kept Ut hc30 Q0
  have T0 := U30.kept Ut hc30 T0
  have R0 := U30.kept Ut hc30 R0
  have U10 := U30.kept Ut hc30 U10
  have U20 := U30.kept Ut hc30 U20
  have U30 := Ut
  have hz30 := hc30.size
  have hB := hB3
  obtain ⟨za, hza, lza⟩ := P0.loadE 10 (by omega)
  obtain ⟨zb, hzb, lzb⟩ := Q0.loadE 10 (by omega)
  have fza := lza w3a (Below.refl _ _)
  have fzb := lzb w3a (Below.refl _ _)
  go_wp2_with fail
  refine (mul_ex za zb hza hzb _).mono ?_
  rintro e w4 ⟨⟨_, rfl, v40, hv40, rfl⟩, hb4⟩
  have hs4 := hb4.size
  have hB4 : Below w.heap.size w w4 := hB.trans (hb4.mono hB.size)
  have P0 := P0.below hb4
  have Q0 := Q0.below hb4
  have T0 := T0.below hb4
  have R0 := R0.below hb4
  have U10 := U10.below hb4
  have U20 := U20.below hb4
  have U30 := U30.below hb4
  have hn4 : Below w4.heap.size w4 (w4.alloc (.cells (us z5).toArray 80)) := (Below.refl _ _).alloc (Nat.le_refl _) _
  have P0 := P0.below hn4
  have Q0 := Q0.below hn4
  have T0 := T0.below hn4
  have R0 := R0.below hn4
  have U10 := U10.below hn4
  have U20 := U20.below hn4
  have U30 := U30.below hn4
  have hB4 := hB4.trans (hn4.mono hB4.size)
  have U40 : Ub _ _ 5 _ := Ub.new w4 z5 80
  obtain ⟨w4a, hst40, Ut, hc40⟩ := U40.storeE hv40
  have hB4 : Below w.heap.size w w4a := hB4.trans (hc40.below' hB4.size (by intro s hs; simp at hs; subst hs; omega))
  have P0 := U40.kept Ut hc40 P0
  have Q0 := U40.kept Ut hc40 Q0
  have T0 := U40.kept Ut hc40 T0
  have R0 := U40.kept Ut hc40 R0
  have U10 := U40.kept Ut hc40 U10
  have U20 := U40.kept Ut hc40 U20
  have U30 := U40.kept Ut hc40 U30
  have U40 := Ut
  have hB := hB4
  have hst40 : (storeE (.pointer (some ⟨w4.heap.size, 0, none⟩)) (.agg (us v40).toArray)).run Tryz.prog (w4.alloc (.cells #[.int .u64 0, .int .u64 0, .int .u64 0, .int .u64 0, .int .u64 0] 80)) = .ok () w4a := hst40
  clear lza lzb fza fzb hc40 Ut hn4
  obtain ⟨ba, hba, lba⟩ := U20.loadE 0 (by omega)
  have fba : ∀ p, (loadE (.pointer (some ⟨g20, 0, none⟩))).run Tryz.prog (Batch.grew w4a p) = .ok (.agg (us ba).toArray) (Batch.grew w4a p) := fun p => lba _ (Batch.grew_below w4a p)
  obtain ⟨aa, haa, laa⟩ := U10.loadE 0 (by omega)
  have faa : ∀ p, (loadE (.pointer (some ⟨g10, 0, none⟩))).run Tryz.prog (Batch.grew w4a p) = .ok (.agg (us aa).toArray) (Batch.grew w4a p) := fun p => laa _ (Batch.grew_below w4a p)
  have hsz5 := hB.size
  go_upto_region 5 with fail
  refine Batch.wp_region_free [([0, 1], 2, [], fun v _ => Uv 5 v), ([3, 4], 5, [], fun v _ => Uv 5 v), ([], 6, [], NewE w4a), ([], 7, [], NewE w4a)] [8, 9] (by kernel_rfl) (by kernel_rfl) (by
    intro x hx
    simp only [List.mem_cons, List.not_mem_nil, or_false] at hx
    rcases hx with rfl | rfl | rfl | rfl
    · exact stable_uv
    · exact stable_uv
    · exact stable_new
    · exact stable_new) ?_
  refine Batch.freeR_cons ?_
  simp only [Batch.pick, List.getD_cons_zero, List.getD_cons_succ]
  repeat (go_big_quiet_step (fail))
  refine wpQuiet_nil ?_
  refine ⟨_, rfl, rfl, ⟨_, w4a, z5, rfl, rfl⟩, ?_, ?_⟩
  · intro w5 hw5 _
    go_simp
    exact ⟨rfl, gives_ans (sub_ex ba aa hba haa w5)⟩
  rintro _ ⟨_, v50, hv50, rfl⟩
  refine Batch.freeR_cons ?_
  simp only [Batch.pick, List.getD_cons_zero, List.getD_cons_succ, List.getElem_toArray, List.getElem_cons_succ, List.getElem_cons_zero, Act.put, List.setIfInBounds_toArray, List.set_cons_zero, List.set_cons_succ]
  repeat (go_big_quiet_step (fail))
  refine wpQuiet_nil ?_
  refine ⟨_, rfl, rfl, ⟨_, w4a, z5, rfl, rfl⟩, ?_, ?_⟩
  · intro w5 hw5 _
    go_simp
    exact ⟨rfl, gives_ans (add_ex ba aa hba haa w5)⟩
  rintro _ ⟨_, v51, hv51, rfl⟩
  refine Batch.freeR_cons ?_
  simp only [Batch.pick, List.getD_cons_zero, List.getD_cons_succ, List.getElem_toArray, List.getElem_cons_succ, List.getElem_cons_zero, Act.put, List.setIfInBounds_toArray, List.set_cons_zero, List.set_cons_succ]
  refine wpQuiet_nil ?_
  refine ⟨_, rfl, rfl, ⟨_, _, _, Nat.le_refl _, rfl, Ub.new w4a z5 _⟩, ?_, ?_⟩
  · intro w1 hw1 _
    have hwz := hw1.below.size
    go_simp
    exact ⟨Batch.GR.of ((Below.refl _ _).alloc (Nat.le_refl _) _), w1.heap.size, hwz, rfl, Ub.new w1 z5 _⟩
  rintro p50 -
  refine Batch.freeR_cons ?_
  simp only [Batch.pick, List.getD_cons_zero, List.getD_cons_succ, List.getElem_toArray, List.getElem_cons_succ, List.getElem_cons_zero, Act.put, List.setIfInBounds_toArray, List.set_cons_zero, List.set_cons_succ]
  refine wpQuiet_nil ?_
  refine ⟨_, rfl, rfl, ⟨_, _, _, Nat.le_refl _, rfl, Ub.new w4a z5 _⟩, ?_, ?_⟩
  · intro w1 hw1 _
    have hwz := hw1.below.size
    go_simp
    exact ⟨Batch.GR.of ((Below.refl _ _).alloc (Nat.le_refl _) _), w1.heap.size, hwz, rfl, Ub.new w1 z5 _⟩
  rintro p51 - w6 hw5 ⟨⟨g51, hg51, rfl, U51⟩, ⟨g50, hg50, rfl, U50⟩, _⟩
  have hb5 := hw5.below
  have hs5 := hb5.size
  have hB5 : Below w.heap.size w w6 := hB.trans (hb5.mono hB.size)
  have P0 := P0.below hb5
  have Q0 := Q0.below hb5
  have T0 := T0.below hb5
  have R0 := R0.below hb5
  have U10 := U10.below hb5
  have U20 := U20.below hb5
  have U30 := U30.below hb5
  have U40 := U40.below hb5
  clear hw5  fba lba faa laa
  obtain ⟨w6a, hst50, Ut, hc50⟩ := U50.storeE hv50
  have hB5 : Below w.heap.size w w6a := hB5.trans (hc50.below' hB5.size (by intro s hs; simp at hs; subst hs; omega))
  have P0 := U50.kept Ut hc50 P0
  have Q0 := U50.kept Ut hc50 Q0
  have T0 := U50.kept Ut hc50 T0
  have R0 := U50.kept Ut hc50 R0
  have U10 := U50.kept Ut hc50 U10
  have U20 := U50.kept Ut hc50 U20
  have U30 := U50.kept Ut hc50 U30
  have U40 := U50.kept Ut hc50 U40
  have U51 := U50.kept Ut hc50 U51
  have U50 := Ut
  have hz50 := hc50.size
  obtain ⟨w6b, hst51, Ut, hc51⟩ := U51.storeE hv51
  have hB5 : Below w.heap.size w w6b := hB5.trans (hc51.below' hB5.size (by intro s hs; simp at hs; subst hs; omega))
  have P0 := U51.kept Ut hc51 P0
  have Q0 := U51.kept Ut hc51 Q0
  have T0 := U51.kept Ut hc51 T0
  have R0 := U51.kept Ut hc51 R0
  have U10 := U51.kept Ut hc51 U10
  have U20 := U51.kept Ut hc51 U20
  have U30 := U51.kept Ut hc51 U30
  have U40 := U51.kept Ut hc51 U40
  have U50 := U51.kept Ut hc51 U50
  have U51 := Ut
  have hz51 := hc51.size
  have hB := hB5
  obtain ⟨zz, hzz, lzz⟩ := U40.loadE 0 (by omega)
  have fzz : ∀ p, (loadE (.pointer (some ⟨w4.heap.size, 0, none⟩))).run Tryz.prog (Batch.grew w6b p) = .ok (.agg (us zz).toArray) (Batch.grew w6b p) := fun p => lzz _ (Batch.grew_below w6b p)
  obtain ⟨cc, hcc, lcc⟩ := U30.loadE 0 (by omega)
  have fcc : ∀ p, (loadE (.pointer (some ⟨g30, 0, none⟩))).run Tryz.prog (Batch.grew w6b p) = .ok (.agg (us cc).toArray) (Batch.grew w6b p) := fun p => lcc _ (Batch.grew_below w6b p)
  have hsz6 := hB.size
  go_upto_region 6 with fail
  refine Batch.wp_region_free [([0, 1], 2, [], fun v _ => Uv 5 v), ([3], 4, [], fun v _ => Uv 5 v), ([5, 6], 7, [], fun v _ => Uv 5 v), ([8], 9, [], fun v _ => Uv 5 v), ([], 10, [], NewE w6b), ([], 11, [], NewE w6b)] [12, 13] (by kernel_rfl) (by kernel_rfl) (by
    intro x hx
    simp only [List.mem_cons, List.not_mem_nil, or_false] at hx
    rcases hx with rfl | rfl | rfl | rfl | rfl | rfl
    · exact stable_uv
    · exact stable_uv
    · exact stable_uv
    · exact stable_uv
    · exact stable_new
    · exact stable_new) ?_
  refine Batch.freeR_cons ?_
  simp only [Batch.pick, List.getD_cons_zero, List.getD_cons_succ]
  repeat (go_big_quiet_step (fail))
  refine wpQuiet_nil ?_
  refine ⟨_, rfl, rfl, ⟨_, w6b, z5, rfl, rfl⟩, ?_, ?_⟩
  · intro w5 hw5 _
    go_simp
    exact ⟨rfl, gives_ans (add_ex zz zz hzz hzz w5)⟩
  rintro _ ⟨_, v60, hv60, rfl⟩
  refine Batch.freeR_cons ?_
  simp only [Batch.pick, List.getD_cons_zero, List.getD_cons_succ, List.getElem_toArray, List.getElem_cons_succ, List.getElem_cons_zero, Act.put, List.setIfInBounds_toArray, List.set_cons_zero, List.set_cons_succ]
  repeat (go_big_quiet_step (fail))
  refine wpQuiet_nil ?_
  refine ⟨_, rfl, rfl, ⟨_, w6b, z5, rfl, rfl⟩, ?_, ?_⟩
  · intro w5 hw5 _
    go_simp
    exact ⟨rfl, gives_ans (sub_ex v60 cc hv60 hcc w5)⟩
  rintro _ ⟨_, v61, hv61, rfl⟩
  refine Batch.freeR_cons ?_
  simp only [Batch.pick, List.getD_cons_zero, List.getD_cons_succ, List.getElem_toArray, List.getElem_cons_succ, List.getElem_cons_zero, Act.put, List.setIfInBounds_toArray, List.set_cons_zero, List.set_cons_succ]
  repeat (go_big_quiet_step (fail))
  refine wpQuiet_nil ?_
  refine ⟨_, rfl, rfl, ⟨_, w6b, z5, rfl, rfl⟩, ?_, ?_⟩
  · intro w5 hw5 _
    go_simp
    exact ⟨rfl, gives_ans (add_ex zz zz hzz hzz w5)⟩
  rintro _ ⟨_, v62, hv62, rfl⟩
  refine Batch.freeR_cons ?_
  simp only [Batch.pick, List.getD_cons_zero, List.getD_cons_succ, List.getElem_toArray, List.getElem_cons_succ, List.getElem_cons_zero, Act.put, List.setIfInBounds_toArray, List.set_cons_zero, List.set_cons_succ]
  repeat (go_big_quiet_step (fail))
  refine wpQuiet_nil ?_
  refine ⟨_, rfl, rfl, ⟨_, w6b, z5, rfl, rfl⟩, ?_, ?_⟩
  · intro w5 hw5 _
    go_simp
    exact ⟨rfl, gives_ans (add_ex v62 cc hv62 hcc w5)⟩
  rintro _ ⟨_, v63, hv63, rfl⟩
  refine Batch.freeR_cons ?_
  simp only [Batch.pick, List.getD_cons_zero, List.getD_cons_succ, List.getElem_toArray, List.getElem_cons_succ, List.getElem_cons_zero, Act.put, List.setIfInBounds_toArray, List.set_cons_zero, List.set_cons_succ]
  refine wpQuiet_nil ?_
  refine ⟨_, rfl, rfl, ⟨_, _, _, Nat.le_refl _, rfl, Ub.new w6b z5 _⟩, ?_, ?_⟩
  · intro w1 hw1 _
    have hwz := hw1.below.size
    go_simp
    exact ⟨Batch.GR.of ((Below.refl _ _).alloc (Nat.le_refl _) _), w1.heap.size, hwz, rfl, Ub.new w1 z5 _⟩
  rintro p60 -
  refine Batch.freeR_cons ?_
  simp only [Batch.pick, List.getD_cons_zero, List.getD_cons_succ, List.getElem_toArray, List.getElem_cons_succ, List.getElem_cons_zero, Act.put, List.setIfInBounds_toArray, List.set_cons_zero, List.set_cons_succ]
  refine wpQuiet_nil ?_
  refine ⟨_, rfl, rfl, ⟨_, _, _, Nat.le_refl _, rfl, Ub.new w6b z5 _⟩, ?_, ?_⟩
  · intro w1 hw1 _
    have hwz := hw1.below.size
    go_simp
    exact ⟨Batch.GR.of ((Below.refl _ _).alloc (Nat.le_refl _) _), w1.heap.size, hwz, rfl, Ub.new w1 z5 _⟩
  rintro p61 - w7 hw6 ⟨⟨g61, hg61, rfl, U61⟩, ⟨g60, hg60, rfl, U60⟩, _⟩
  have hb6 := hw6.below
  have hs6 := hb6.size
  have hB6 : Below w.heap.size w w7 := hB.trans (hb6.mono hB.size)
  have P0 := P0.below hb6
  have Q0 := Q0.below hb6
  have T0 := T0.below hb6
  have R0 := R0.below hb6
  have U10 := U10.below hb6
  have U20 := U20.below hb6
  have U30 := U30.below hb6
  have U40 := U40.below hb6
  have U50 := U50.below hb6
  have U51 := U51.below hb6
  clear hw6  fzz lzz fcc lcc
  obtain ⟨w7a, hst60, Ut, hc60⟩ := U60.storeE hv61
  have hB6 : Below w.heap.size w w7a := hB6.trans (hc60.below' hB6.size (by intro s hs; simp at hs; subst hs; omega))
  have P0 := U60.kept Ut hc60 P0
  have Q0 := U60.kept Ut hc60 Q0
  have T0 := U60.kept Ut hc60 T0
  have R0 := U60.kept Ut hc60 R0
  have U10 := U60.kept Ut hc60 U10
  have U20 := U60.kept Ut hc60 U20
  have U30 := U60.kept Ut hc60 U30
  have U40 := U60.kept Ut hc60 U40
  have U50 := U60.kept Ut hc60 U50
  have U51 := U60.kept Ut hc60 U51
  have U61 := U60.kept Ut hc60 U61
  have U60 := Ut
  have hz60 := hc60.size
  obtain ⟨w7b, hst61, Ut, hc61⟩ := U61.storeE hv63
  have hB6 : Below w.heap.size w w7b := hB6.trans (hc61.below' hB6.size (by intro s hs; simp at hs; subst hs; omega))
  have P0 := U61.kept Ut hc61 P0
  have Q0 := U61.kept Ut hc61 Q0
  have T0 := U61.kept Ut hc61 T0
  have R0 := U61.kept Ut hc61 R0
  have U10 := U61.kept Ut hc61 U10
  have U20 := U61.kept Ut hc61 U20
  have U30 := U61.kept Ut hc61 U30
  have U40 := U61.kept Ut hc61 U40
  have U50 := U61.kept Ut hc61 U50
  have U51 := U61.kept Ut hc61 U51
  have U60 := U61.kept Ut hc61 U60
  have U61 := Ut
  have hz61 := hc61.size
  have hB := hB6
  obtain ⟨ee, hee, lee⟩ := U50.loadE 0 (by omega)
  have fee : ∀ p, (loadE (.pointer (some ⟨g50, 0, none⟩))).run Tryz.prog (Batch.grew w7b p) = .ok (.agg (us ee).toArray) (Batch.grew w7b p) := fun p => lee _ (Batch.grew_below w7b p)
  obtain ⟨ff, hff, lff⟩ := U60.loadE 0 (by omega)
  have fff : ∀ p, (loadE (.pointer (some ⟨g60, 0, none⟩))).run Tryz.prog (Batch.grew w7b p) = .ok (.agg (us ff).toArray) (Batch.grew w7b p) := fun p => lff _ (Batch.grew_below w7b p)
  obtain ⟨gg, hgg, lgg⟩ := U61.loadE 0 (by omega)
  have fgg : ∀ p, (loadE (.pointer (some ⟨g61, 0, none⟩))).run Tryz.prog (Batch.grew w7b p) = .ok (.agg (us gg).toArray) (Batch.grew w7b p) := fun p => lgg _ (Batch.grew_below w7b p)
  obtain ⟨hh, hhh, lhh⟩ := U51.loadE 0 (by omega)
  have fhh : ∀ p, (loadE (.pointer (some ⟨g51, 0, none⟩))).run Tryz.prog (Batch.grew w7b p) = .ok (.agg (us hh).toArray) (Batch.grew w7b p) := fun p => lhh _ (Batch.grew_below w7b p)
  have hsz7 := hB.size
  go_upto_region 7 with fail
  refine Batch.wp_region_free [([0, 1], 2, [], fun v _ => Uv 5 v), ([3, 4], 5, [], fun v _ => Uv 5 v), ([6, 7], 8, [], fun v _ => Uv 5 v), ([9, 10], 11, [], fun v _ => Uv 5 v)] [12, 13] (by kernel_rfl) (by kernel_rfl) (by
    intro x hx
    simp only [List.mem_cons, List.not_mem_nil, or_false] at hx
    rcases hx with rfl | rfl | rfl | rfl
    · exact stable_uv
    · exact stable_uv
    · exact stable_uv
    · exact stable_uv) ?_
  refine Batch.freeR_cons ?_
  simp only [Batch.pick, List.getD_cons_zero, List.getD_cons_succ]
  repeat (go_big_quiet_step (fail))
  refine wpQuiet_nil ?_
  refine ⟨_, rfl, rfl, ⟨_, w7b, z5, rfl, rfl⟩, ?_, ?_⟩
  · intro w5 hw5 _
    go_simp
    exact ⟨rfl, gives_ans (mul_ex ee ff hee hff w5)⟩
  rintro _ ⟨_, v70, hv70, rfl⟩
  refine Batch.freeR_cons ?_
  simp only [Batch.pick, List.getD_cons_zero, List.getD_cons_succ, List.getElem_toArray, List.getElem_cons_succ, List.getElem_cons_zero, Act.put, List.setIfInBounds_toArray, List.set_cons_zero, List.set_cons_succ]
  repeat (go_big_quiet_step (fail))
  refine wpQuiet_nil ?_
  refine ⟨_, rfl, rfl, ⟨_, w7b, z5, rfl, rfl⟩, ?_, ?_⟩
  · intro w5 hw5 _
    go_simp
    exact ⟨rfl, gives_ans (mul_ex gg hh hgg hhh w5)⟩
  rintro _ ⟨_, v71, hv71, rfl⟩
  refine Batch.freeR_cons ?_
  simp only [Batch.pick, List.getD_cons_zero, List.getD_cons_succ, List.getElem_toArray, List.getElem_cons_succ, List.getElem_cons_zero, Act.put, List.setIfInBounds_toArray, List.set_cons_zero, List.set_cons_succ]
  repeat (go_big_quiet_step (fail))
  refine wpQuiet_nil ?_
  refine ⟨_, rfl, rfl, ⟨_, w7b, z5, rfl, rfl⟩, ?_, ?_⟩
  · intro w5 hw5 _
    go_simp
    exact ⟨rfl, gives_ans (mul_ex ff gg hff hgg w5)⟩
  rintro _ ⟨_, v72, hv72, rfl⟩
  refine Batch.freeR_cons ?_
  simp only [Batch.pick, List.getD_cons_zero, List.getD_cons_succ, List.getElem_toArray, List.getElem_cons_succ, List.getElem_cons_zero, Act.put, List.setIfInBounds_toArray, List.set_cons_zero, List.set_cons_succ]
  repeat (go_big_quiet_step (fail))
  refine wpQuiet_nil ?_
  refine ⟨_, rfl, rfl, ⟨_, w7b, z5, rfl, rfl⟩, ?_, ?_⟩
  · intro w5 hw5 _
    go_simp
    exact ⟨rfl, gives_ans (mul_ex ee hh hee hhh w5)⟩
  rintro _ ⟨_, v73, hv73, rfl⟩
  intro w8 hw7 _
  have hb7 := hw7.below
  have hs7 := hb7.size
  have hB7 : Below w.heap.size w w8 := hB.trans (hb7.mono hB.size)
  have R0 := R0.below hb7
  clear hw7  fee lee fff lff fgg lgg fhh lhh
  have hB := hB7
  obtain ⟨a0, a1, a2, a3, a4, rfl⟩ := us5 hv70
  obtain ⟨b0, b1, b2, b3, b4, rfl⟩ := us5 hv71
  obtain ⟨c0, c1, c2, c3, c4, rfl⟩ := us5 hv72
  obtain ⟨d0, d1, d2, d3, d4, rfl⟩ := us5 hv73
  simp only [us_lit]
  obtain ⟨w9, hst9, Ut, hc9⟩ := R0.storeP (xs := [a0, a1, a2, a3, a4, b0, b1, b2, b3, b4, c0, c1, c2, c3, c4, d0, d1, d2, d3, d4]) rfl
  have hB9 : Below w.heap.size w w9 := hB.trans (hc9.below' hB.size (by intro s hs; simp at hs; subst hs; omega))
  obtain ⟨r1, r2⟩ := Ut.res
  have hst9 : (storeP (.pointer (some ⟨w.heap.size + 3, 0, none⟩)) (.agg #[.int .u64 a0, .int .u64 a1, .int .u64 a2, .int .u64 a3, .int .u64 a4, .int .u64 b0, .int .u64 b1, .int .u64 b2, .int .u64 b3, .int .u64 b4, .int .u64 c0, .int .u64 c1, .int .u64 c2, .int .u64 c3, .int .u64 c4, .int .u64 d0, .int .u64 d1, .int .u64 d2, .int .u64 d3, .int .u64 d4])).run Tryz.prog w8 = .ok () w9 := hst9
  go_wp2
  refine bodyPost_ret (results_arr (P := Tryz.prog) Tryz.results81 _ _ (w.heap.size + 3) 0 20 _ rfl Tryz.underlying82 rfl size_P r1) rfl ?_
  exact ⟨⟨_, rfl, r2⟩, hB9⟩
end Cry
end Go.Proofs.YtgalhnobckoneaaGreatDoor
