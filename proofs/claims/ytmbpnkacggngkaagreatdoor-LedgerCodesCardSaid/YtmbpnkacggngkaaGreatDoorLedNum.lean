/- THE WALK of a number that is written. -/
import Derived.Test.YtmbpnkacggngkaaGreatDoorLedMem
import Derived.Test.YtmbpnkacggngkaaGreatDoorLedSpec
import Derived.Deep.RegionLaw
import Derived.Deep.DeepMust
namespace Go.Proofs.YtmbpnkacggngkaaGreatDoor
open Go.RowKit Mem Led

/-- A coder that writes: what it has written so far. -/
structure Wr (w : World) (B gc : Nat) (v : Value) (l : List UInt8) : Prop where
  own : w.ownsRow B 5 1 v l.length (bv l)
  blk : Blk w gc [v, .bool false, .bool false] 86
  lt : gc < B
  hB : B ≤ w.heap.size
/-- What a call that writes leaves. -/
def Wrote (B gc : Nat) (v : Value) (l : List UInt8) (w : World) (w' : World) : Prop :=
  ∃ v', Wr w' B gc v' l ∧ Chg (gc :: v.ownBlock.toList) w w' ∧ (∀ b, v'.ownBlock = some b → v.ownBlock = some b ∨ w.heap.size ≤ b)
theorem Wrote.refl {w : World} {B gc : Nat} {v : Value} {l : List UInt8} (h : Wr w B gc v l) : Wrote B gc v l w w := ⟨v, h, Chg.refl _ _, fun _ h => .inl h⟩

theorem le_snoc : ∀ (k : Nat) (x : Int), le (k + 1) x = le k x ++ [UInt8.ofNat (x / (256 ^ k : Nat) % 256).toNat]
  | 0, x => by simp [le]
  | k + 1, x => by
    have ih := le_snoc k (x / 256)
    have e : x / 256 / ((256 ^ k : Nat) : Int) = x / ((256 ^ (k + 1) : Nat) : Int) := by
      rw [Int.ediv_ediv_of_nonneg (by omega)]
      congr 1
      rw [Nat.pow_succ, Nat.mul_comm]
      omega
    rw [e] at ih
    show UInt8.ofNat (x % 256).toNat :: le (k + 1) (x / 256) = _
    rw [ih]
    rfl
theorem pow_two (j : Nat) : (2 : Int) ^ (8 * j) = ((256 ^ j : Nat) : Int) := by
  have : (2 : Nat) ^ (8 * j) = 256 ^ j := by rw [Nat.pow_mul]
  rw [← this]
  exact (Int.natCast_pow 2 (8 * j)).symm
theorem run_shr {P : Program} (x : Int) (j : Nat) (hj : j < 8) (w : World) : (Op.shift .shr .i64 x .i64 (IntKind.i64.wrap (8 * (j : Int)))).run P w = .ok (.int .i64 (x / ((256 ^ j : Nat) : Int))) w := by
  have hw : IntKind.i64.wrap (8 * (j : Int)) = 8 * (j : Int) := by rw [IntKind.wrap_i64]; omega
  unfold Op.shift
  rw [hw, if_neg (by omega)]
  have hn : min (8 * (j : Int)).toNat IntKind.i64.bits = 8 * j := by
    show min (8 * (j : Int)).toNat 64 = 8 * j
    omega
  simp only [hn]
  rw [← pow_two, Int.fdiv_eq_ediv_of_nonneg _ (Int.pow_nonneg (by omega))]
  rfl
theorem u8_wrap (y : Int) : IntKind.u8.wrap y = ((UInt8.ofNat (y % 256).toNat).toNat : Int) := by
  have h1 : 0 ≤ y % 256 := Int.emod_nonneg _ (by omega)
  have h2 : y % 256 < 256 := Int.emod_lt_of_pos _ (by omega)
  rw [IntKind.wrap_u8, UInt8.toNat_ofNat_of_lt' (show (y % 256).toNat < 256 by omega)]
  omega
/-- Bytes more, out of an append. -/
theorem Wr.more {w wr w0 w2 : World} {B gc : Nat} {v v1 : Value} {l t r : List UInt8} {A : Option Addr} {n c : Nat} {xs : List Value} (hW : Wr wr B gc v1 t) (hc : Chg (gc :: v.ownBlock.toList) w wr)
    (hv1 : ∀ b, v1.ownBlock = some b → v.ownBlock = some b ∨ w.heap.size ≤ b) (hown2 : w2.ownsRow B 5 1 (.slice A n c) n (bv t ++ xs)) (hxs : xs = bv r)
    (h0 : Below wr.heap.size wr w0) (hgr : w0.grownBy w2 v1.ownBlock) (hwh : (Value.slice A n c).ownBlock = v1.ownBlock ∨ ∃ b, (Value.slice A n c).ownBlock = some b ∧ wr.heap.size ≤ b) (hl : l = t ++ r) :
    w2.cell? ⟨gc, 0, none⟩ = some v1 ∧ w2.frozen? ⟨gc, 0, none⟩ = false ∧ Wrote B gc v l w (w2.setCell ⟨gc, 0, none⟩ (.slice A n c)) := by
  subst hl hxs
  have hn : n = (t ++ r).length := by
    have := hown2.1
    simp [bv_length] at this
    simpa using this.symm
  have hz := hc.size
  have hB := hW.hB
  have hlt := hW.lt
  have hge : ∀ g, v1.ownBlock = some g → B ≤ g := fun g hg => (hW.own.lt g hg).1
  have hcw : Chg (v1.ownBlock.toList) wr w2 := 
    ⟨hgr.os.trans h0.os, hgr.tape.trans h0.tape, hgr.output.trans h0.output, Nat.le_trans h0.size hgr.size, fun i hi hS => (hgr.block i (Nat.lt_of_lt_of_le hi h0.size) (fun e => hS (by rw [← e]; simp))).trans (h0.block i hi)⟩
  have hb2 : Blk w2 gc [v1, .bool false, .bool false] 86 := hW.blk.chg hcw (by
    intro hm
    simp at hm
    have := hge _ hm
    omega)
  have hz2 := hcw.size
  refine ⟨hb2.cell 0, hb2.froz 0, .slice A n c, ⟨?_, hb2.set 0 _, hlt, by simpa [World.setCell] using Nat.le_trans hB hz2⟩, ?_, ?_⟩
  · rw [← hn, bv_append]
    exact ownsRow_setCell_below hown2 hlt _
  · refine (hc.trans hcw ?_).setCell (.inl (by simp)) _
    intro s hs
    simp at hs
    rcases hv1 s hs with h | h
    · exact .inl (by simp [h])
    · exact .inr h
  · intro g hg
    rcases hwh with h | ⟨b, h, h2⟩
    · exact hv1 g (by rw [← h]; exact hg)
    · rw [h] at hg
      injection hg with hg
      exact .inr (by omega)

set_option maxRecDepth 100000 in
set_option maxHeartbeats 2000000 in
theorem numw_any (k : Nat) (hk : k ≤ 8) (gp kp : Nat) (x : Int) {w : World} {B gc : Nat} {v : Value} {l : List UInt8} (h : Wr w B gc v l) (hp : w.cell? ⟨gp, kp, none⟩ = some (.int .i64 x))
    (hg : gp ≠ gc) (hv : v.ownBlock ≠ some gp) (hl : l.length + 8 ≤ 140737488355328) :
    Calls Tryz.prog 65 #[.pointer (some ⟨gc, 0, none⟩), .int .i64 (k : Int), .pointer (some ⟨gp, kp, none⟩)] w fun e w' => e = .returned (.tuple #[]) ∧ Wrote B gc v (l ++ le k x) w w' := by
  obtain ⟨i8, hi8, hz8, hs8, hb8⟩ := info_parts infoU8
  have hgp : gp < w.heap.size := World.block_lt_of_cell? w _ hp
  have c1 : w.cell? ⟨gc, 1, none⟩ = some (.bool false) := h.blk.cell 1
  go_enter Tryz.func65, Tryz.ntmps65
  go_wp2
  go_loopw [6, 14] (fun _ i wr => ∃ j : Nat, j ≤ k ∧ i = .int .i64 j ∧ Wrote B gc v (l ++ le j x) w wr) (fun _ i _ => k - (intOf i).toNat)
  case atStart => exact ⟨0, by omega, rfl, by simpa [le] using Wrote.refl h⟩
  case round =>
    obtain ⟨j, hj, rfl, v1, hW, hc, hv1⟩ := hrel
    have hxr : wr.cell? ⟨gp, kp, none⟩ = some (.int .i64 x) := (hc.cell (p := ⟨gp, kp, none⟩) hgp (by simp [hg]; exact fun e => hv e)).trans hp
    have d0 : wr.cell? ⟨gc, 0, none⟩ = some v1 := hW.blk.cell 0
    have df : wr.frozen? ⟨gc, 0, none⟩ = false := hW.blk.froz 0
    by_cases hlt : j < k
    · have d1 : ∀ o, (wr.alloc o).cell? ⟨gc, 0, none⟩ = some v1 := fun o => (hW.blk.alloc o).cell 0
      have hown := hW.own
      have hBw := hW.hB
      have hll : (l ++ le j x).length = l.length + j := by rw [List.length_append, le_length]
      have h63 : (l ++ le j x).length + 1 ≤ maxLen := by rw [hll]; unfold maxLen; omega
      have hby : ((l ++ le j x).length + 1) * 1 ≤ 140737488355328 := by rw [hll]; omega
      have hsh : ∀ W, (Op.shift .shr .i64 x .i64 (IntKind.i64.wrap (8 * (j : Int)))).run Tryz.prog W = .ok (.int .i64 (x / ((256 ^ j : Nat) : Int))) W := run_shr x j (by omega)
      have hy := u8_wrap (x / ((256 ^ j : Nat) : Int))
      have hle : l ++ le (j + 1) x = (l ++ le j x) ++ [UInt8.ofNat (x / ((256 ^ j : Nat) : Int) % 256).toNat] := by rw [le_snoc, List.append_assoc]
      have HLE := Lib.hid hle
      generalize (256 ^ j : Nat) = q at *
      generalize x / (q : Int) = y at *
      generalize UInt8.ofNat (y % 256).toNat = b at *
      have HY := Lib.hid hy
      clear hle hy hll
      generalize l ++ le j x = t at *
      go_wp2_with fail
      go_region_law (refine step_pushAt (w := wr.drew) rfl (.tmp 21) (.tmp 29) 62 rfl B i8 (.int .u8 0) 1 Tryz.underlying62 hi8 hz8 hs8 hb8 rfl _ _ _ rfl hown.drew rfl rfl h63 hby hBw ?_; intro A' c' w2 hown2 g1 g2 hgr hwh; obtain ⟨e0, ef, HW2⟩ := hW.more (r := [b]) hc hv1 hown2 (by rw [HY.out]; rfl) ((Below.refl _ _).drew.alloc (Nat.le_refl _) _) hgr (hwh.imp id fun h => ⟨_, h, Nat.le_succ _⟩) HLE.out)
      all_goals
        clear hgr hown2 hown HY HLE
        go_wp2
        go_roundw
        case rel => exact ⟨j + 1, by omega, by go_num, HW2⟩
        case measure => simp [intOf]; omega
    · obtain rfl : j = k := by omega
      go_wp2
      refine bodyPost_ret (results_none rfl _ _ _) rfl ?_
      exact ⟨rfl, v1, hW, hc, hv1⟩
end Go.Proofs.YtmbpnkacggngkaaGreatDoor
