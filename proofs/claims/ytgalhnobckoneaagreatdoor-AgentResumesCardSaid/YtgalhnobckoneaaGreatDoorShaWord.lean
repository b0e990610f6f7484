/- THE WALKS of the reference's top, low, turn, mixed, bytes, at 32 bits. -/
import Derived.Test.YtgalhnobckoneaaGreatDoorShaMem
import Derived.BigQuiet
import Derived.WalkLawsBesides
import Derived.Deep.RegionHeld3
import Derived.Deep.CutBlock
import Derived.Deep.DeepCutAuto
namespace Go.Proofs.YtgalhnobckoneaaGreatDoor
open Go.RowKit Mem

theorem ret_v {a b : Value} (h : a = b) : Ending.returned a = .returned b := by rw [h]
/-- How a digest of 32 bits is made: the cells. -/
structure H32 (hc : List Value) : Prop where
  len : hc.length = 8
  bits : hc[0]? = some (.int .i64 32)
  steps : hc[1]? = some (.int .i64 64)
  one : ∀ v ∈ hc, v.oneCell' = true
theorem nat_tmod (x k : Nat) : Int.tmod (x : Int) (k : Int) = ((x % k : Nat) : Int) := (Int.ofNat_tmod x k).symm
theorem nat_tdiv (x k : Nat) : Int.tdiv (x : Int) (k : Int) = ((x / k : Nat) : Int) := (Int.ofNat_tdiv x k).symm

set_option maxRecDepth 100000 in
set_option maxHeartbeats 1000000 in
theorem rtop_any (hc : List Value) (h : H32 hc) (m : Nat) (hm : m < 18446744073709551616) (w : World) :
    Calls Tryz.prog 182 #[.agg hc.toArray, .int .u64 (m : Int)] w fun e w' => e = .returned (.int .u64 ((m / 4294967296 : Nat) : Int)) ∧ Below w.heap.size w w' := by
  have hbits := h.bits
  obtain ⟨q, hq⟩ : ∃ q, m / 4294967296 = q := ⟨_, rfl⟩
  have hq2 : q < 4294967296 := by omega
  have hd : Int.tdiv (m : Int) 4294967296 = (q : Int) := by
    have := nat_tdiv m 4294967296
    rw [hq] at this
    exact this
  rw [hq]
  clear hq
  go_enter Tryz.func182, Tryz.ntmps182
  go_wp2
  go_ret
  exact ⟨rfl, (Below.refl _ _).alloc (Nat.le_refl _) _⟩
set_option maxRecDepth 100000 in
set_option maxHeartbeats 1000000 in
theorem rlow_any (hc : List Value) (h : H32 hc) (m : Nat) (w : World) :
    Calls Tryz.prog 228 #[.agg hc.toArray, .int .u64 (m : Int)] w fun e w' => e = .returned (.int .u64 ((m % 4294967296 : Nat) : Int)) ∧ Below w.heap.size w w' := by
  have hbits := h.bits
  obtain ⟨q, hq⟩ : ∃ q, m % 4294967296 = q := ⟨_, rfl⟩
  have hq2 : q < 4294967296 := by omega
  have hd : Int.tmod (m : Int) 4294967296 = (q : Int) := by
    have := nat_tmod m 4294967296
    rw [hq] at this
    exact this
  rw [hq]
  clear hq
  go_enter Tryz.func228, Tryz.ntmps228
  go_wp2
  go_ret
  exact ⟨rfl, (Below.refl _ _).alloc (Nat.le_refl _) _⟩
set_option maxRecDepth 100000 in
set_option maxHeartbeats 1000000 in
theorem rlowI (hc : List Value) (h : H32 hc) (x : Int) (w : World) :
    Calls Tryz.prog 228 #[.agg hc.toArray, .int .u64 x] w fun e w' => e = .returned (.int .u64 (x.tmod 4294967296)) ∧ Below w.heap.size w w' := by
  have hbits := h.bits
  go_enter Tryz.func228, Tryz.ntmps228
  go_wp2
  go_ret
  exact ⟨rfl, (Below.refl _ _).alloc (Nat.le_refl _) _⟩
set_option maxRecDepth 100000 in
set_option maxHeartbeats 1000000 in
theorem rturn_any (hc : List Value) (h : H32 hc) (m n : Nat) (hm : m < 4294967296) (hn : n ≤ 1000) (w : World) :
    Calls Tryz.prog 251 #[.agg hc.toArray, .int .u64 (m : Int), .int .i64 (n : Int)] w fun e w' => e = .returned (.int .u64 ((Sha.turn n m : Nat) : Int)) ∧ Below w.heap.size w w' := by
  have hbits := h.bits
  go_enter Tryz.func251, Tryz.ntmps251
  go_wp2
  go_loop [1, 7, 8] (fun v i _ => ∃ j : Nat, j ≤ n ∧ i = .int .i64 j ∧ v = .int .u64 ((Sha.turn j m : Nat) : Int)) (fun _ i _ => n - (intOf i).toNat)
  case atStart => exact ⟨0, by omega, rfl, rfl⟩
  case round =>
    obtain ⟨j, hj, rfl, rfl⟩ := hrel
    by_cases hlt : j < n
    · have hx := Sha.turn_lt hm j
      have HS := Lib.hid (show Sha.turn (j + 1) m = Sha.half (Sha.turn j m) from rfl)
      generalize Sha.turn j m = x at *
      unfold Sha.half at HS
      have hd := nat_tdiv x 2
      have hr := nat_tmod x 2
      obtain ⟨y, hy⟩ : ∃ y, x / 2 = y := ⟨_, rfl⟩
      have hy2 : y < 2147483648 := by omega
      rw [hy] at hd HS
      have hd : Int.tdiv (x : Int) 2 = (y : Int) := hd
      rcases Nat.mod_two_eq_zero_or_one x with ho | ho
      all_goals
        rw [ho] at hr HS
        clear hy ho
        simp only [Nat.zero_mul, Nat.one_mul, Nat.add_zero] at HS
        first | (have hr2 : Int.tmod (x : Int) 2 = 0 := hr) | (have hr2 : Int.tmod (x : Int) 2 = 1 := hr)
        clear hr
        go_wp2
        all_goals
          go_round
          case rel => exact ⟨j + 1, by omega, by go_num, by rw [HS.out] <;> go_num⟩
          case measure => simp [intOf]; omega
    · obtain rfl : j = n := by omega
      go_wp2
      go_ret
      exact ⟨rfl, (Below.refl _ _).alloc (Nat.le_refl _) _⟩
theorem mixed_off (by_ : List Int) (w : World) (A : Option Addr) (h : Is w A 3 by_) : ∃ blk off, A = some ⟨blk, off, none⟩ ∧ blk < w.heap.size ∧ w.cell? ⟨blk, off, none⟩ = some (.int .i64 (by_.getD 0 0)) ∧ w.cell? ⟨blk, off + 1, none⟩ = some (.int .i64 (by_.getD 1 0)) ∧ w.cell? ⟨blk, off + 2, none⟩ = some (.int .i64 (by_.getD 2 0)) := by
  have hl := h.len
  obtain ⟨blk, off, e, hb, hx⟩ := vs_lit h (by omega)
  exact ⟨blk, off, e, hb, hx 0 _ (iv_at by_ (by omega)), hx 1 _ (iv_at by_ (by omega)), hx 2 _ (iv_at by_ (by omega))⟩
theorem size_H : (Tryz.prog.info? 178).map (·.size) = some 8 := by kernel_rfl
/-- A whole receiver, read and written, behind names that the walk does not open. -/
def loadH (x : Value) : Sem Value := Instr.loadAt 178 x
def storeH (x v : Value) : Sem Unit := Instr.storeAt 178 x v
theorem named_load_H (x : Value) : Instr.loadAt 178 x = loadH x := rfl
theorem named_store_H (x v : Value) : Instr.storeAt 178 x v = storeH x v := rfl
attribute [go_sem ↓] named_load_H named_store_H
theorem blk_has {w : World} {g n : Nat} {cs : List Value} {t : TypeId} (h : Blk w g cs t) (hn : cs.length = n) : Has w g 0 n := fun j hj => by
  rw [Nat.zero_add, h.cell j, List.getElem?_eq_getElem (by omega)]
  rfl
theorem blk_arr {w : World} {g n : Nat} {cs : List Value} {t : TypeId} (h : Blk w g cs t) (hn : cs.length = n) : arr w g 0 n = cs.toArray := (arr_block (n := n) h (by simpa using hn)).1
theorem load_H {w : World} {g : Nat} {cs : List Value} {t : TypeId} (h : Blk w g cs t) (hn : cs.length = 8) : (loadH (.pointer (some ⟨g, 0, none⟩))).run Tryz.prog w = .ok (.agg cs.toArray) w := by
  have := run_load_arr (P := Tryz.prog) w 178 g 0 8 _ Tryz.underlying178 rfl size_H (blk_has h hn)
  rw [blk_arr h hn] at this
  exact this
theorem set_all : ∀ (vs : List Value) (w : World) (g k : Nat) (cs : List Value) (t : TypeId), Blk w g cs t → k + vs.length ≤ cs.length → Blk (w.setCells g k vs) g (cs.take k ++ vs ++ cs.drop (k + vs.length)) t
  | [], w, g, k, cs, t, h, _ => by simpa [World.setCells] using h
  | v :: vs, w, g, k, cs, t, h, hk => by
    have ih := set_all vs (w.setCell ⟨g, k, none⟩ v) g (k + 1) (cs.set k v) t (h.set k v) (by simp at hk ⊢; omega)
    have e : (cs.set k v).take (k + 1) ++ vs ++ (cs.set k v).drop (k + 1 + vs.length) = cs.take k ++ v :: vs ++ cs.drop (k + (v :: vs).length) := by
      have hk' : k < cs.length := by simp at hk; omega
      rw [List.take_set, List.drop_set_of_lt (by omega), List.length_cons, show k + 1 + vs.length = k + (vs.length + 1) by omega]
      have : (cs.take (k + 1)).set k v = cs.take k ++ [v] := by
        rw [← List.take_append_getElem hk', List.set_append_right _ _ (by rw [List.length_take]; omega)]
        simp [Nat.min_eq_left (Nat.le_of_lt hk')]
      rw [this]
      simp
    rw [e] at ih
    exact ih
theorem store_H {w : World} {g : Nat} {cs vs : List Value} {t : TypeId} (h : Blk w g cs t) (hn : cs.length = 8) (hv : vs.length = 8) (h1 : ∀ v ∈ vs, v.oneCell' = true) :
    (storeH (.pointer (some ⟨g, 0, none⟩)) (.agg vs.toArray)).run Tryz.prog w = .ok () (w.setCells g 0 vs) ∧ Blk (w.setCells g 0 vs) g vs t := by
  have h2 := run_store_arr (P := Tryz.prog) w 178 g 0 8 size_H vs.toArray ⟨by simpa using hv, by simpa using h1⟩ (blk_has h hn) (fun j _ => h.froz _)
  have h3 := set_all vs w g 0 cs t h (by omega)
  simp [hv, ← hn] at h3
  exact ⟨h2, h3⟩
set_option maxRecDepth 100000 in
set_option maxHeartbeats 2000000 in
theorem rmixed_any (hc : List Value) (h : H32 hc) (a b c m : Nat) (hm : m < 4294967296) (ha : a ≤ 64) (hb : b ≤ 64) (hcc : c ≤ 64) (sh : Bool) (A : Option Addr) (cap : Nat) (w : World) (hA : Is w A 3 [(a : Int), b, c]) :
    Calls Tryz.prog 227 #[.agg hc.toArray, .int .u64 (m : Int), .slice A 3 cap, .bool sh] w fun e w' => e = .returned (.int .u64 ((Sha.mixed a b c sh m : Nat) : Int)) ∧ Below w.heap.size w w' := by
  obtain ⟨blk, off, rfl, hblk, c0, c1, c2⟩ := mixed_off _ w A hA
  simp only [List.getD_cons_zero, List.getD_cons_succ] at c0 c1 c2
  clear hA
  obtain ⟨W, hW⟩ : ∃ W, w.alloc (.cells hc.toArray 178) = W := ⟨_, rfl⟩
  have B : Blk W w.heap.size hc 178 := by rw [← hW]; exact Blk.new _ _ _
  have hbw : Below w.heap.size w W := by rw [← hW]; exact (Below.refl _ _).alloc (Nat.le_refl _) _
  have hz : W.heap.size = w.heap.size + 1 := by rw [← hW]; simp
  have HW := Lib.hid hW
  clear hW
  have key : ∀ w', Below W.heap.size W w' → w'.cell? ⟨blk, off, none⟩ = some (.int .i64 (a : Int)) ∧ w'.cell? ⟨blk, off + 1, none⟩ = some (.int .i64 (b : Int)) ∧ w'.cell? ⟨blk, off + 2, none⟩ = some (.int .i64 (c : Int)) ∧ (loadH (.pointer (some ⟨w.heap.size, 0, none⟩))).run Tryz.prog w' = .ok (.agg hc.toArray) w' ∧ Below w.heap.size w w' := fun w' hb' => by
    have hbb : Below w.heap.size w w' := hbw.trans (hb'.mono hbw.size)
    exact ⟨(hbb.cell (p := ⟨blk, off, none⟩) hblk).trans c0, (hbb.cell (p := ⟨blk, off + 1, none⟩) hblk).trans c1, (hbb.cell (p := ⟨blk, off + 2, none⟩) hblk).trans c2, load_H (B.below hb') h.len, hbb⟩
  obtain ⟨S, hS⟩ : ∃ S : World → Prop, S = fun w' => w'.cell? ⟨blk, off, none⟩ = some (.int .i64 (a : Int)) ∧ w'.cell? ⟨blk, off + 1, none⟩ = some (.int .i64 (b : Int)) ∧ w'.cell? ⟨blk, off + 2, none⟩ = some (.int .i64 (c : Int)) ∧ (loadH (.pointer (some ⟨w.heap.size, 0, none⟩))).run Tryz.prog w' = .ok (.agg hc.toArray) w' ∧ Below W.heap.size W w' := ⟨_, rfl⟩
  have keyS : ∀ w', Below W.heap.size W w' → S w' := fun w' hb' => by
    rw [hS]
    obtain ⟨d0, d1, d2, dl, _⟩ := key w' hb'
    exact ⟨d0, d1, d2, dl, hb'⟩
  have turn_ : ∀ n : Nat, n ≤ 64 → ∀ w', S w' → Calls Tryz.prog 251 #[.agg hc.toArray, .int .u64 (m : Int), .int .i64 (n : Int)] w' fun e w'' => e = .returned (.int .u64 ((Sha.turn n m : Nat) : Int)) ∧ S w'' := fun n hn w' hs =>
    have hb' : Below W.heap.size W w' := by rw [hS] at hs; exact hs.2.2.2.2
    (rturn_any hc h m n hm (by omega) w').mono fun e w'' ⟨he, hb2⟩ => ⟨he, keyS _ (hb'.trans (hb2.mono hb'.size))⟩
  have S0 := keyS W.drew (Below.refl _ _).drew
  have S00 := keyS W (Below.refl _ _)
  subst hS
  dsimp only at turn_ S0 S00
  have TURN := Lib.hid turn_
  have HS0 := Lib.hid S0
  have HS00 := Lib.hid S00
  have key2 : ∀ w', Below W.heap.size W w' → (loadH (.pointer (some ⟨w.heap.size, 0, none⟩))).run Tryz.prog w' = .ok (.agg hc.toArray) w' := fun w' hb' => (key w' hb').2.2.2.1
  clear key c0 c1 c2 B turn_ S0 S00 keyS
  go_enter Tryz.func227, Tryz.ntmps227
  go_wp2_with fail
  rw [HW.out]
  go_region_held3 (fun w' => w'.cell? ⟨blk, off, none⟩ = some (.int .i64 (a : Int)) ∧ w'.cell? ⟨blk, off + 1, none⟩ = some (.int .i64 (b : Int)) ∧ w'.cell? ⟨blk, off + 2, none⟩ = some (.int .i64 (c : Int)) ∧ (loadH (.pointer (some ⟨w.heap.size, 0, none⟩))).run Tryz.prog w' = .ok (.agg hc.toArray) w' ∧ Below W.heap.size W w') (first | exact HS0.out | exact HS00.out | assumption | go_keep) (first | (go_at_call 251; refine (TURN.out c hcc _ (by first | assumption | exact HS0.out)).mono ?_; rintro e w1 ⟨rfl, hs1⟩))
  clear HS0 HS00 HW
  obtain ⟨k0, k1, k2, kl, hb1⟩ := hs1
  have hbw1 : Below w.heap.size w w1 := hbw.trans (hb1.mono hbw.size)
  have hb1d := hb1.drew
  have d0 : w1.drew.cell? ⟨blk, off, none⟩ = some (.int .i64 (a : Int)) := k0
  have d1 : w1.drew.cell? ⟨blk, off + 1, none⟩ = some (.int .i64 (b : Int)) := k1
  have d2 : w1.drew.cell? ⟨blk, off + 2, none⟩ = some (.int .i64 (c : Int)) := k2
  have HS1 := Lib.hid (show w1.drew.cell? ⟨blk, off, none⟩ = some (.int .i64 (a : Int)) ∧ w1.drew.cell? ⟨blk, off + 1, none⟩ = some (.int .i64 (b : Int)) ∧ w1.drew.cell? ⟨blk, off + 2, none⟩ = some (.int .i64 (c : Int)) ∧ (loadH (.pointer (some ⟨w.heap.size, 0, none⟩))).run Tryz.prog w1.drew = .ok (.agg hc.toArray) w1.drew ∧ Below W.heap.size W w1.drew from ⟨d0, d1, d2, key2 w1.drew hb1d, hb1d⟩)
  clear d0 d1 d2 key2
  obtain ⟨z, hz1⟩ : ∃ z, Hid (Sha.lastOf c sh m = z) := ⟨_, Lib.hid rfl⟩
  have HM := Lib.hid (show Sha.mixed a b c sh m = Sha.turn a m ^^^ Sha.turn b m ^^^ z by rw [← hz1.out]; rfl)
  have ht1 := Sha.turn_lt hm a
  have ht2 := Sha.turn_lt hm b
  have ht3 : z < 4294967296 := by rw [← hz1.out]; exact Sha.lastOf_lt hm c sh
  have hx1 := u64_xor_nat (Sha.turn a m) (Sha.turn b m) (by omega) (by omega)
  have hx2 := u64_xor_nat (Sha.turn a m ^^^ Sha.turn b m) z (by have := Sha.xor_lt ht1 ht2; omega) (by omega)
  obtain ⟨u, hu⟩ : ∃ u, Sha.turn a m ^^^ Sha.turn b m = u := ⟨_, rfl⟩
  rw [hu] at hx1 hx2 HM
  obtain ⟨r, hr⟩ : ∃ r, u ^^^ z = r := ⟨_, rfl⟩
  rw [hr] at hx2 HM
  clear hu hr ht1 ht2 ht3 k0 k1 k2 kl hz hblk hb1d
  cases sh
  · have HL : Sha.turn c m = z := hz1.out
    rw [HL]
    clear HL
    go_wp2_with fail
    go_region_held3 (fun w' => w'.cell? ⟨blk, off, none⟩ = some (.int .i64 (a : Int)) ∧ w'.cell? ⟨blk, off + 1, none⟩ = some (.int .i64 (b : Int)) ∧ w'.cell? ⟨blk, off + 2, none⟩ = some (.int .i64 (c : Int)) ∧ (loadH (.pointer (some ⟨w.heap.size, 0, none⟩))).run Tryz.prog w' = .ok (.agg hc.toArray) w' ∧ Below W.heap.size W w') (first | exact HS1.out | assumption | go_keep) (first | (go_at_call 251; refine (TURN.out _ (by assumption) _ (by first | assumption | exact HS1.out)).mono ?_; rintro e wq ⟨rfl, hs1⟩))
    obtain ⟨_, _, _, _, hbq⟩ := hs1
    go_wp2
    go_ret
    exact ⟨ret_v (by rw [HM.out]; rfl), hbw.trans (hbq.mono hbw.size)⟩
  · have hdn : ∀ j, Sha.down j m < 4294967296 := fun j => Sha.down_lt hm j
    have HL : Hid (Sha.down c m = z) := Lib.hid hz1.out
    obtain ⟨_, _, k2, _, _⟩ := HS1.out
    have k2 : w1.cell? ⟨blk, off + 2, none⟩ = some (.int .i64 (c : Int)) := k2
    go_wp2_with fail
    go_loop [9, 10] (fun v i => ∃ j : Nat, j ≤ c ∧ i = .int .i64 j ∧ v = .int .u64 ((Sha.down j m : Nat) : Int)) (fun _ i => c - (intOf i).toNat)
    case atStart => exact ⟨0, by omega, rfl, rfl⟩
    case round =>
      obtain ⟨j, hj, rfl, rfl⟩ := hrel
      by_cases hlt : j < c
      · have hd1 := hdn j
        have hd := nat_tdiv (Sha.down j m) 2
        have HD := Lib.hid (show Sha.down (j + 1) m = Sha.down j m / 2 from rfl)
        generalize Sha.down j m = x at *
        obtain ⟨y, hy⟩ : ∃ y, x / 2 = y := ⟨_, rfl⟩
        have hy2 : y < 4294967296 := by omega
        rw [hy] at hd HD
        have hd : Int.tdiv (x : Int) 2 = (y : Int) := hd
        clear hy
        go_wp2_with fail
        go_round
        case rel => exact ⟨j + 1, by omega, by go_num, by rw [HD.out]⟩
        case measure => simp [intOf]; omega
      · obtain rfl : c = j := by omega
        rw [HL.out]
        clear hdn k2
        go_wp2_with fail
        go_region_held3 (fun w' => w'.cell? ⟨blk, off, none⟩ = some (.int .i64 (a : Int)) ∧ w'.cell? ⟨blk, off + 1, none⟩ = some (.int .i64 (b : Int)) ∧ w'.cell? ⟨blk, off + 2, none⟩ = some (.int .i64 (c : Int)) ∧ (loadH (.pointer (some ⟨w.heap.size, 0, none⟩))).run Tryz.prog w' = .ok (.agg hc.toArray) w' ∧ Below W.heap.size W w') (first | exact HS1.out | assumption | go_keep) (first | (go_at_call 251; refine (TURN.out _ (by assumption) _ (by first | assumption | exact HS1.out)).mono ?_; rintro e wq ⟨rfl, hs1⟩))
        obtain ⟨_, _, _, _, hbq⟩ := hs1
        go_wp2
        go_ret
        exact ⟨ret_v (by rw [HM.out]; rfl), hbw.trans (hbq.mono hbw.size)⟩
end Go.Proofs.YtgalhnobckoneaaGreatDoor
