/- THE WALKS of the program's sha: turned, all, cut, at 32 bits. -/
import Derived.Test.YtgalhnobckoneaaGreatDoorShaTurn
import Derived.Test.YtgalhnobckoneaaGreatDoorShaWord
import Derived.Test.YtgalhnobckoneaaGreatDoorBatch
namespace Go.Proofs.YtgalhnobckoneaaGreatDoor
open Go.RowKit Mem

/-- How the program makes a digest of 32 bits: the cells. -/
def formL : List Value := [.int .i64 32, .int .i64 64, .int .i64 2, .int .i64 13, .int .i64 22, .int .i64 6, .int .i64 11, .int .i64 25, .int .i64 7, .int .i64 18, .int .i64 3, .int .i64 17, .int .i64 19, .int .i64 10]
structure F32 (hc : List Value) : Prop where
  len : hc.length = 14
  bits : hc[0]? = some (.int .i64 32)
  many : hc[1]? = some (.int .i64 64)
  one : ∀ v ∈ hc, v.oneCell' = true
set_option maxRecDepth 100000 in
set_option maxHeartbeats 1000000 in
theorem pturned_any (hc : List Value) (h : F32 hc) (m n : Nat) (hm : m < 4294967296) (hn : n ≤ 32) (w : World) :
    Calls Tryz.prog 268 #[.agg hc.toArray, .int .u64 (m : Int), .int .i64 (n : Int)] w fun e w' => e = .returned (.int .u64 ((Sha.turn n m : Nat) : Int)) ∧ Below w.heap.size w w' := by
  have hbits := h.bits
  go_enter Tryz.func268, Tryz.ntmps268
  go_wp2
  refine Batch.wp_region_grew (by kernel_rfl) (by kernel_rfl) ?_
  repeat (go_big_quiet_step (fail))
  refine wpQuiet_nil ?_
  rintro _ ⟨p, rfl⟩
  have hb := Batch.grew_below (w.alloc (.cells hc.toArray 232)) p
  generalize Batch.grew (w.alloc (.cells hc.toArray 232)) p = w1 at *
  go_wp2
  go_ret
  refine ⟨ret_v ?_, ((Below.refl _ _).alloc (Nat.le_refl _) _).trans (hb.mono (by simp))⟩
  have e1 : (m : Int) / 2 ^ n = ((m / 2 ^ n : Nat) : Int) := by rw [Int.natCast_ediv, Int.natCast_pow]; rfl
  have e2 : (m : Int) * 2 ^ (32 - n) % 4294967296 = ((m * 2 ^ (32 - n) % 4294967296 : Nat) : Int) := by rw [Int.natCast_emod, Int.natCast_mul, Int.natCast_pow]; rfl
  have h1 : m / 2 ^ n < 4294967296 := Nat.lt_of_le_of_lt (Nat.div_le_self _ _) hm
  rw [e1, e2, u32_or_nat _ _ h1 (Nat.mod_lt _ (by omega)), Sha.turn_or m hm n hn]
  have := Sha.turn_lt hm n
  have e3 : IntKind.u64.wrap ((Sha.turn n m : Nat) : Int) = ((Sha.turn n m : Nat) : Int) := by rw [IntKind.wrap_u64]; omega
  rw [e3]
  rfl
theorem size_F : (Tryz.prog.info? 232).map (·.size) = some 14 := by kernel_rfl
/-- A whole form, read, behind a name that the walk does not open. -/
def loadF (x : Value) : Sem Value := Instr.loadAt 232 x
theorem named_load_F (x : Value) : Instr.loadAt 232 x = loadF x := rfl
attribute [go_sem ↓] named_load_F
theorem load_F {w : World} {g : Nat} {cs : List Value} {t : TypeId} (h : Blk w g cs t) (hn : cs.length = 14) : (loadF (.pointer (some ⟨g, 0, none⟩))).run Tryz.prog w = .ok (.agg cs.toArray) w := by
  have := run_load_arr (P := Tryz.prog) w 232 g 0 14 _ Tryz.underlying232 rfl size_F (blk_has h hn)
  rw [blk_arr h hn] at this
  exact this
set_option maxRecDepth 100000 in
set_option maxHeartbeats 2000000 in
theorem pall_any (hc : List Value) (h : F32 hc) (a b c m : Nat) (hm : m < 4294967296) (ha : a ≤ 32) (hb : b ≤ 32) (hcc : c ≤ 32) (sh : Bool) (w : World) :
    Calls Tryz.prog 253 #[.agg hc.toArray, .int .u64 (m : Int), .agg #[.int .i64 (a : Int), .int .i64 (b : Int), .int .i64 (c : Int)], .bool sh] w fun e w' => e = .returned (.int .u64 ((Sha.mixed a b c sh m : Nat) : Int)) ∧ Below w.heap.size w w' := by
  obtain ⟨W, hW⟩ : ∃ W, (w.alloc (.cells hc.toArray 232)).alloc (.cells ([.int .i64 (a : Int), .int .i64 (b : Int), .int .i64 (c : Int)] : List Value).toArray 228) = W := ⟨_, rfl⟩
  have B : Blk W w.heap.size hc 232 := by rw [← hW]; exact (Blk.new _ _ _).alloc _
  have B1 : Blk W (w.heap.size + 1) [.int .i64 (a : Int), .int .i64 (b : Int), .int .i64 (c : Int)] 228 := by
    have := Blk.new (w.alloc (.cells hc.toArray 232)) [.int .i64 (a : Int), .int .i64 (b : Int), .int .i64 (c : Int)] 228
    rw [← hW]
    simpa using this
  have hbw : Below w.heap.size w W := by rw [← hW]; exact ((Below.refl _ _).alloc (Nat.le_refl _) _).alloc (by simp) _
  have hlen := h.len
  have TURN : Hid (∀ n : Nat, n ≤ 32 → ∀ w', Calls Tryz.prog 268 #[.agg hc.toArray, .int .u64 (m : Int), .int .i64 (n : Int)] w' fun e w'' => e = .returned (.int .u64 ((Sha.turn n m : Nat) : Int)) ∧ Below w'.heap.size w' w'') := Lib.hid fun n hn w' => pturned_any hc h m n hm hn w'
  have l0 := load_F B hlen
  have i2 : W.cell? ⟨w.heap.size + 1, 2, none⟩ = some (.int .i64 (c : Int)) := B1.cell 2
  have HW := Lib.hid hW
  clear hW
  obtain ⟨z, hz1⟩ : ∃ z, Hid (Sha.lastOf c sh m = z) := ⟨_, Lib.hid rfl⟩
  have HM := Lib.hid (show Sha.mixed a b c sh m = Sha.turn a m ^^^ Sha.turn b m ^^^ z by rw [← hz1.out]; rfl)
  have ht1 := Sha.turn_lt hm a
  have ht2 := Sha.turn_lt hm b
  have ht3 : z < 4294967296 := by rw [← hz1.out]; exact Sha.lastOf_lt hm c sh
  have hx1 := u64_xor_nat (Sha.turn a m) (Sha.turn b m) (by omega) (by omega)
  have hx2 := u64_xor_nat (Sha.turn a m ^^^ Sha.turn b m) z (by have := Sha.xor_lt ht1 ht2; omega) (by omega)
  obtain ⟨u, hu⟩ : ∃ u, Sha.turn a m ^^^ Sha.turn b m = u := ⟨_, rfl⟩
  rw [hu] at hx1 hx2 HM
  obtain ⟨r, hr⟩ : ∃ r, u ^^^ z = r := ⟨_, rfl⟩
  rw [hr] at hx2 HM
  clear hu hr ht1 ht2
  go_enter Tryz.func253, Tryz.ntmps253
  go_upto_region 1 with fail
  rw [show ((w.alloc (.cells hc.toArray 232)).alloc (.cells #[.int .i64 (a : Int), .int .i64 (b : Int), .int .i64 (c : Int)] 228)) = W from HW.out]
  go_wp2_with fail
  refine (TURN.out c hcc _).mono ?_
  rintro e w1 ⟨rfl, hb1⟩
  have b1 := B.below hb1
  have b2 := B1.below hb1
  have hbw1 : Below w.heap.size w w1 := hbw.trans (hb1.mono hbw.size)
  have f0 : ∀ p, (loadF (.pointer (some ⟨w.heap.size, 0, none⟩))).run Tryz.prog (Batch.grew w1 p) = .ok (.agg hc.toArray) (Batch.grew w1 p) := fun p => load_F (b1.below (Batch.grew_below w1 p)) hlen
  have f1 : ∀ p, (Batch.grew w1 p).cell? ⟨w.heap.size + 1, 0, none⟩ = some (.int .i64 (a : Int)) := fun p => (b2.below (Batch.grew_below w1 p)).cell 0
  have f2 : ∀ p, (Batch.grew w1 p).cell? ⟨w.heap.size + 1, 1, none⟩ = some (.int .i64 (b : Int)) := fun p => (b2.below (Batch.grew_below w1 p)).cell 1
  have i3 : w1.cell? ⟨w.heap.size + 1, 2, none⟩ = some (.int .i64 (c : Int)) := b2.cell 2
  clear l0 i2 HW B B1 b1 b2
  cases sh
  · have HL : Sha.turn c m = z := hz1.out
    rw [HL]
    clear HL hz1
    go_wp2_with fail
    refine Batch.wp_region_grew (by kernel_rfl) (by kernel_rfl) ?_
    repeat (go_big_quiet_step (fail))
    go_big_quiet_step ((go_at_call 268; exact Batch.calls_grew (TURN.out a ha _)))
    repeat (go_big_quiet_step (fail))
    go_big_quiet_step ((go_at_call 268; exact Batch.calls_grew (TURN.out b hb _)))
    repeat (go_big_quiet_step (fail))
    refine wpQuiet_nil ?_
    rintro _ ⟨p, rfl⟩
    have hbp := Batch.grew_below w1 p
    generalize Batch.grew w1 p = w2 at *
    go_wp2
    go_ret
    exact ⟨ret_v (by rw [HM.out]; rfl), hbw1.trans (hbp.mono hbw1.size)⟩
  · have HL : m / 2 ^ c = z := by rw [← hz1.out]; exact (Sha.down_eq c m).symm
    have hsh : (m : Int) / 2 ^ c = (z : Int) := by rw [← HL, Int.natCast_ediv, Int.natCast_pow]; rfl
    clear HL hz1
    go_wp2_with fail
    refine Batch.wp_region_grew (by kernel_rfl) (by kernel_rfl) ?_
    repeat (go_big_quiet_step (fail))
    go_big_quiet_step ((go_at_call 268; exact Batch.calls_grew (TURN.out a ha _)))
    repeat (go_big_quiet_step (fail))
    go_big_quiet_step ((go_at_call 268; exact Batch.calls_grew (TURN.out b hb _)))
    repeat (go_big_quiet_step (fail))
    refine wpQuiet_nil ?_
    rintro _ ⟨p, rfl⟩
    have hbp := Batch.grew_below w1 p
    generalize Batch.grew w1 p = w2 at *
    go_wp2
    go_ret
    exact ⟨ret_v (by rw [HM.out]; rfl), hbw1.trans (hbp.mono hbw1.size)⟩
theorem pcut_any (x : Int) (w : World) : Calls Tryz.prog 254 #[.int .u64 x] w fun e w' => e = .returned (.int .u32 (IntKind.u32.wrap x)) ∧ Below w.heap.size w w' := by
  go_enter Tryz.func254, Tryz.ntmps254
  go_wp2
  go_ret
  exact ⟨rfl, Below.refl _ _⟩
end Go.Proofs.YtgalhnobckoneaaGreatDoor
