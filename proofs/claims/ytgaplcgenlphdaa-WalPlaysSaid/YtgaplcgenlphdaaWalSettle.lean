/- THE WALK of settle: the headers that are not the disk's are written. -/
import Derived.Test.YtgaplcgenlphdaaWalRead
import Derived.Deep.RegionHeld3
namespace Go.Proofs.Ytgaplcgenlphdaa
open Go.RowKit Mem

theorem below_drewNs (B : Nat) (w : World) (k : Nat) : Below B w (w.drewN k) := ⟨rfl, rfl, rfl, Nat.le_refl _, fun _ _ => rfl⟩
/-- A contract that leaves the world alone, in a region that draws its order. -/
theorem quiet_of {P : Program} {f : FuncId} {args : Array Value} {w : World} {n : Nat} {v : Value}
    (h : Calls P f args (w.drewN n) fun e w' => e = .returned v ∧ w.drewN n = w') : Calls P f args (w.drewN n) fun e w'' => e = .returned v ∧ ∃ m, w'' = w.drewN m :=
  h.mono fun _ _ ⟨he, hm⟩ => ⟨he, n, hm.symm⟩
theorem IsDisk.drewN {w : World} {p g : Nat} {d : DS} (h : IsDisk w p g d) (n : Nat) : IsDisk (w.drewN n) p g d := h.chg ((Chg.refl [] w).drewN n) (by simp) (by simp)
theorem IsLog.drewN {w : World} {q p s u : Nat} {b : Bool} (h : IsLog w q p s u b) (n : Nat) : IsLog (w.drewN n) q p s u b := h.chg ((Chg.refl [] w).drewN n) (by simp)
theorem IsLog.set12 {w : World} {q p s u : Nat} {b : Bool} (h : IsLog w q p s u b) (s' u' : Nat) : IsLog ((w.setCell ⟨q, 1, none⟩ (.int .i64 (s' : Int))).setCell ⟨q, 2, none⟩ (.int .i64 (u' : Int))) q p s' u' b :=
  ⟨(setc_ne _ q 2 0 _ (by omega)).trans ((setc_ne _ q 1 0 _ (by omega)).trans h.c0), (setc_ne _ q 2 1 _ (by omega)).trans (setc_same _ q 1 _ _ h.c1), setc_same _ q 2 _ _ ((setc_ne _ q 1 2 _ (by omega)).trans h.c2),
    (setc_ne _ q 2 3 _ (by omega)).trans ((setc_ne _ q 1 3 _ (by omega)).trans h.c3), fun o => by simp [h.qf], by simpa [World.setCell] using h.qlt⟩

theorem or_hi (y x : Nat) (hx : x < 256) (hy : y < 256) : Go.bits .or .i64 (y : Int) ((x : Int) * 256) = ((y + 256 * x : Nat) : Int) := by
  have wr : ∀ n : Int, 0 ≤ n → n < 2 ^ 20 → IntKind.i64.wrap n = n := fun n h0 h1 => by rw [IntKind.wrap_i64]; omega
  have h := bits_join .i64 20 (by decide) wr 8 ((x : Int) * 256) (y : Int) (by omega) (by omega) (by omega) (by omega) (by omega) (by omega)
  have hc : Go.bits .or .i64 (y : Int) ((x : Int) * 256) = Go.bits .or .i64 ((x : Int) * 256) (y : Int) := by
    show IntKind.i64.wrap _ = IntKind.i64.wrap _
    rw [BitVec.or_comm]
  rw [hc, h]
  omega

section
variable {w : World} {q p g s u : Nat} {b : Bool} {d : DS}
theorem fixes_step (S : Wal.Secs) (m : List UInt8) (k : Nat) (hk : k < 3) : Wal.fixes S m k = if Wal.sec S k = m then Wal.fixes S m (k + 1) else (k, m) :: Wal.fixes S m (k + 1) := by
  have : k = 0 ∨ k = 1 ∨ k = 2 := by omega
  unfold Wal.fixes
  rcases this with rfl | rfl | rfl
  all_goals
    simp only [List.drop_zero, List.drop_succ_cons, List.drop_nil, List.filterMap_cons, List.filterMap_nil]
    split <;> rename_i h <;> split at h <;> simp_all
theorem writeErr_cases (d : DS) (i : Int) (l : List UInt8) : d.writeErr i l = 0 ∨ d.writeErr i l = 1 ∨ d.writeErr i l = 26 := by
  unfold DS.writeErr
  split
  · exact .inr (.inl rfl)
  · split
    · exact .inr (.inr rfl)
    · split
      · exact .inr (.inr rfl)
      · exact .inl rfl
theorem write_facts (d : DS) (i : Int) (l : List UInt8) : (d.write i l).secs.length = d.secs.length ∧ (d.write i l).writes ≤ d.writes + 1 ∧ (d.writeErr i l = 0 → (d.write i l).down = false) := by
  unfold DS.write DS.writeErr
  split
  · exact ⟨rfl, Nat.le_succ _, fun h => by cases h⟩
  · split
    · exact ⟨rfl, Nat.le_succ _, fun h => by cases h⟩
    · split
      · exact ⟨by simp, by simp, fun h => by cases h⟩
      · exact ⟨by simp, by simp, fun _ => rfl⟩

theorem wrAll_length : ∀ (ws : List (Nat × List UInt8)) (d : DS), (Wal.wrAll d ws).1.secs.length = d.secs.length
  | [], _ => rfl
  | (i, b) :: r, d => by
    show (if _ then _ else _ : DS × Int).1.secs.length = _
    split
    · rw [wrAll_length r]; exact (write_facts d i b).1
    · exact (write_facts d i b).1
theorem wrAll_down : ∀ (ws : List (Nat × List UInt8)) (d : DS), d.down = false → (Wal.wrAll d ws).2 = 0 → (Wal.wrAll d ws).1.down = false
  | [], _, h, _ => h
  | (i, b) :: r, d, h, h2 => by
    by_cases he : d.writeErr (i : Int) b = 0
    · have e : Wal.wrAll d ((i, b) :: r) = Wal.wrAll (d.write (i : Int) b) r := if_pos he
      rw [e] at h2 ⊢
      exact wrAll_down r _ ((write_facts d i b).2.2 he) h2
    · have e : Wal.wrAll d ((i, b) :: r) = (d.write (i : Int) b, d.writeErr (i : Int) b) := if_neg he
      rw [e] at h2
      exact absurd h2 he
theorem wrAll_err : ∀ (ws : List (Nat × List UInt8)) (d : DS), (Wal.wrAll d ws).2 = 0 ∨ (Wal.wrAll d ws).2 = 1 ∨ (Wal.wrAll d ws).2 = 26
  | [], _ => .inl rfl
  | (i, b) :: r, d => by
    by_cases he : d.writeErr (i : Int) b = 0
    · have e : Wal.wrAll d ((i, b) :: r) = Wal.wrAll (d.write (i : Int) b) r := if_pos he
      rw [e]
      exact wrAll_err r _
    · have e : Wal.wrAll d ((i, b) :: r) = (d.write (i : Int) b, d.writeErr (i : Int) b) := if_neg he
      rw [e]
      exact writeErr_cases d i b

/-- What settle leaves. -/
def Settled (w : World) (q p g : Nat) (b : Bool) (r : DS × Int) (su : Nat × Nat) (e : Ending) (w' : World) : Prop :=
  e = .returned (.int .i64 r.2) ∧ IsDisk w' p g r.1 ∧ IsLog w' q p su.1 su.2 b ∧ Chg [p, g, q] w w'

set_option maxRecDepth 100000 in
set_option maxHeartbeats 8000000 in
theorem settle_any (hl : IsLog w q p s u b) (h : IsDisk w p g d) (h7 : 7 ≤ d.secs.length) (hdn : d.down = false) (hqp : q ≠ p) (hqg : q ≠ g) (hwr : d.writes < 1000000) :
    Calls Try.prog 27 #[.pointer (some ⟨q, 0, none⟩), .agg (bv (three (Wal.sec d.secs 0) (Wal.sec d.secs 1) (Wal.sec d.secs 2))).toArray] w
      (Settled w q p g b (Wal.wrAll d (Wal.fixes d.secs (Wal.hd d.secs) 0)) (Wal.norm d.secs.length (Wal.hd d.secs))) := by
  obtain ⟨S, hS⟩ : ∃ S, d.secs = S := ⟨_, rfl⟩
  have hsec : ∀ k, k < 3 → (Wal.sec S k).length = 128 := fun k hk => by
    rw [← hS]
    unfold Wal.sec
    rw [List.getD_eq_getElem?_getD, List.getElem?_eq_getElem (by omega)]
    exact (h.secs k (by omega)).1
  obtain ⟨m, hm⟩ : ∃ m, Wal.hd S = m := ⟨_, rfl⟩
  have hml : m.length = 128 := by
    rw [← hm]
    unfold Wal.hd Wal.most
    split
    · exact hsec 1 (by omega)
    · exact hsec 0 (by omega)
  have hmost := fun W => most_any (Wal.sec S 0) (Wal.sec S 1) (Wal.sec S 2) (hsec 0 (by omega)) (hsec 1 (by omega)) (hsec 2 (by omega)) W
  rw [show Wal.most (Wal.sec S 0) (Wal.sec S 1) (Wal.sec S 2) = m from hm] at hmost
  obtain ⟨x0, e0⟩ : ∃ x0, (m.getD 0 0).toNat = x0 := ⟨_, rfl⟩
  obtain ⟨x1, e1⟩ : ∃ x1, (m.getD 1 0).toNat = x1 := ⟨_, rfl⟩
  obtain ⟨x2, e2⟩ : ∃ x2, (m.getD 2 0).toNat = x2 := ⟨_, rfl⟩
  have ha : Wal.hside m = x0 := e0
  have hx0 : x0 < 256 := by rw [← e0]; exact (m.getD 0 0).toNat_lt
  have hx1 : x1 < 256 := by rw [← e1]; exact (m.getD 1 0).toNat_lt
  have hx2 : x2 < 256 := by rw [← e2]; exact (m.getD 2 0).toNat_lt
  have hor := or_hi x1 x2 hx2 hx1
  obtain ⟨u1, hu1⟩ : ∃ u1, x1 + 256 * x2 = u1 := ⟨_, rfl⟩
  have hb' : Wal.hused m = u1 := by rw [← hu1, ← e1, ← e2]; rfl
  rw [hu1] at hor
  have hu1b : u1 < 65536 := by omega
  have hcells : ∀ W blk, Arr W blk 0 m → W.cell? ⟨blk, 0, none⟩ = some (.int .u8 (x0 : Int)) ∧ W.cell? ⟨blk, 1, none⟩ = some (.int .u8 (x1 : Int)) ∧ W.cell? ⟨blk, 2, none⟩ = some (.int .u8 (x2 : Int)) := by
    intro W blk hA
    have key : ∀ j, j < 3 → W.cell? ⟨blk, j, none⟩ = some (.int .u8 ((m.getD j 0).toNat : Int)) := fun j hj => by
      have h1 := hA j (by omega)
      rw [Nat.zero_add] at h1
      rw [h1, List.getD_eq_getElem?_getD, List.getElem?_eq_getElem (by omega)]
      rfl
    exact ⟨by rw [key 0 (by omega), e0], by rw [key 1 (by omega), e1], by rw [key 2 (by omega), e2]⟩
  obtain ⟨T, hT⟩ : ∃ T, three (Wal.sec S 0) (Wal.sec S 1) (Wal.sec S 2) = T := ⟨_, rfl⟩
  have hTl : T.length = 384 := by rw [← hT]; exact three_length (hsec 0 (by omega)) (hsec 1 (by omega)) (hsec 2 (by omega))
  have hpart : ∀ W blk, Arr W blk 0 T → ∀ k, k < 3 → Arr W blk (k * 128) (Wal.sec S k) := by
    intro W blk hA k hk
    rw [← hT] at hA
    obtain ⟨r0, r1, r2⟩ := Arr.three_ hA (hsec 0 (by omega)) (hsec 1 (by omega))
    have : k = 0 ∨ k = 1 ∨ k = 2 := by omega
    rcases this with rfl | rfl | rfl
    · exact r0
    · simpa using r1
    · simpa using r2
  rw [hS, hm, hT]
  rw [hT] at hmost
  have hn : S.length = d.secs.length := by rw [hS]
  obtain ⟨hf, hhf⟩ : ∃ hf, Wal.half S.length = hf := ⟨_, rfl⟩
  have hhalf := fun W (i1 : IsLog W q p x0 u1 b) (i2 : IsDisk W p g d) => half_any i1 i2 h7
  rw [← hn, hhf] at hhalf
  have hnorm : Wal.norm S.length m = if 1 < x0 ∨ hf < u1 then (0, 0) else (x0, u1) := by unfold Wal.norm; rw [ha, hb', hhf]
  have HN := Lib.hid hnorm
  have HS := Lib.hid hsec
  have HML := Lib.hid hml
  have HP := Lib.hid hpart
  have HB := Lib.hid hcells
  have HTL := Lib.hid hTl
  have HL := Lib.hid hl
  have HD := Lib.hid h
  have HHALF := Lib.hid hhalf
  have HLEN := Lib.hid hn
  have hcl0 := h.plt
  have hcl1 := h.glt
  have hcl2 := hl.qlt
  -- the world in which the loop begins: whichever way was gone
  have hway : (1 < x0 ∧ Hid (Wal.norm S.length m = (0, 0))) ∨ (x0 ≤ 1 ∧ hf < u1 ∧ Hid (Wal.norm S.length m = (0, 0))) ∨ (x0 ≤ 1 ∧ u1 ≤ hf ∧ Hid (Wal.norm S.length m = (x0, u1))) := by
    by_cases c1 : 1 < x0
    · exact .inl ⟨c1, Lib.hid (by rw [hnorm, if_pos (.inl c1)])⟩
    · by_cases c2 : hf < u1
      · exact .inr (.inl ⟨by omega, c2, Lib.hid (by rw [hnorm, if_pos (.inr c2)])⟩)
      · exact .inr (.inr ⟨by omega, by omega, Lib.hid (by rw [hnorm, if_neg (by omega)])⟩)
  clear hsec hml hpart ha hb' e0 e1 e2 hT hTl hnorm hS hm hl h hn hhf hhalf hcells hu1
  obtain ⟨w0, hw0⟩ : ∃ w0, w.alloc (.cells (bv T).toArray 58) = w0 := ⟨_, rfl⟩
  have hbk : w0.heap[w.heap.size]? = some (.cells (bv T).toArray 58 (0, 0)) := by rw [← hw0]; exact heap_alloc_last w _
  have hb0 : Below w.heap.size w w0 := by rw [← hw0]; exact (Below.refl _ _).alloc (Nat.le_refl _) _
  have z0 : w0.heap.size = w.heap.size + 1 := by rw [← hw0]; simp
  have hA0 : Arr w0 w.heap.size 0 T := Arr.of_block hbk
  obtain ⟨t1, t2⟩ := Arr.hs hA0 HTL.out
  have HA0 := Lib.hid hA0
  have HZ0 := Lib.hid z0
  have HM0 := Lib.hid (hmost w0)
  clear hbk hA0 z0 hmost
  go_enter Try.func27, Try.ntmps27
  go_wp2_with fail
  refine HM0.out.mono ?_
  rintro e w1 ⟨rfl, hb1⟩
  have hz1 := hb1.size
  have hcl3 := bv_cells m HML.out
  have hbz := heap_alloc_last w1 (.cells zhead 57)
  have g1 := (arr_block hbz (n := 128) zhead_size).2
  have g2 := fre_block (o := 0) (n := 128) hbz
  obtain ⟨w2, hw2⟩ : ∃ w2, (w1.alloc (.cells zhead 57)).setCells w1.heap.size 0 (bv m) = w2 := ⟨_, rfl⟩
  have hA1 : Arr w2 w1.heap.size 0 m := by rw [← hw2]; exact Arr.of_setCells m _ _ _ (by rw [HML.out]; exact g1)
  have hb2 : Below w1.heap.size w1 w2 := by rw [← hw2]; exact ((Chg.of_below (S := []) ((Below.refl _ _).alloc (Nat.le_refl _) _)).setCells _ (.inr (Nat.le_refl _))).below (by simp)
  have hz2 : w2.heap.size = w1.heap.size + 1 := by rw [← hw2, size_setCells]; simp
  have hA0' : Arr w2 w.heap.size 0 T := Arr.below (Arr.below HA0.out hb1 (by have := HZ0.out; omega)) hb2 (by have := HZ0.out; omega)
  have hbw : Below w.heap.size w w2 := (hb0.trans (hb1.mono hb0.size)).trans (hb2.mono (Nat.le_trans hb0.size hz1))
  obtain ⟨k0, k1, k2⟩ := HB.out w2 _ hA1
  have il := HL.out.chg (Chg.of_below (S := []) hbw) (by simp)
  have id := HD.out.chg (Chg.of_below (S := []) hbw) (by simp) (by simp)
  have q0 := il.c0
  have q1 := il.c1
  have q2 := il.c2
  have qf := il.qf
  have HIL := Lib.hid il
  have HID := Lib.hid id
  have HA1 := Lib.hid hA1
  have HA0' := Lib.hid hA0'
  have HZ2 := Lib.hid hz2
  clear hA1 hA0' hb2 hz2 il id t1 t2 hbz HA0 hb0 hw0
  go_wp2_with fail
  obtain ⟨w3, hw3⟩ : ∃ w3, (w2.setCell ⟨q, 1, none⟩ (.int .i64 (x0 : Int))).setCell ⟨q, 2, none⟩ (.int .i64 (u1 : Int)) = w3 := ⟨_, rfl⟩
  have hc23 : Chg [q] w2 w3 := by rw [← hw3]; exact ((Chg.refl [q] w2).setCell (p := ⟨q, 1, none⟩) (.inl (by simp)) _).setCell (p := ⟨q, 2, none⟩) (.inl (by simp)) _
  have il3 : IsLog w3 q p x0 u1 b := by rw [← hw3]; exact HIL.out.set12 x0 u1
  have id3 : IsDisk w3 p g d := HID.out.chg hc23 (by simp; omega) (by simp; omega)
  have hc3 : Chg [p, g, q] w w3 := (Chg.of_below hbw).trans hc23 (by intro s hs; simp at hs; subst hs; exact .inl (by simp))
  have z2 := HZ2.out
  have z0 := HZ0.out
  have B0 : Arr w3 w.heap.size 0 T := fun j hj => by
    rw [hc23.cell (p := ⟨w.heap.size, 0 + j, none⟩) (by show w.heap.size < _; omega) (by simp; omega)]
    exact HA0'.out j hj
  have B1 : Arr w3 w1.heap.size 0 m := fun j hj => by
    rw [hc23.cell (p := ⟨w1.heap.size, 0 + j, none⟩) (by show w1.heap.size < _; omega) (by simp; omega)]
    exact HA1.out j hj
  have hz3 := hc23.size
  have hz31 : w1.heap.size < w3.heap.size := by omega
  have hz30 : w.heap.size < w1.heap.size := by omega
  rw [hw3]
  have r0 := il3.c0
  have r1 := il3.c1
  have r2 := il3.c2
  have rf := il3.qf
  have IL3 := Lib.hid il3
  have ID3 := Lib.hid id3
  have HB0 := Lib.hid B0
  have HB1 := Lib.hid B1
  clear hw3 hc23 hbw q0 q1 q2 qf k0 k1 k2 hor hw2 il3 id3 B0 B1 z2 z0 g1 g2
  rcases hway with ⟨c1, hfin⟩ | ⟨c1, c2, hfin⟩ | ⟨c1, c2, hfin⟩
  have c3 : ((1 : Int) < (x0 : Int)) := by omega
  go_quiet (fail)
  go_wp2_with fail
  obtain ⟨w4, hw4⟩ : ∃ w4, (((w3.drewN nq).setCell ⟨q, 1, none⟩ (.int .i64 0)).setCell ⟨q, 2, none⟩ (.int .i64 0)) = w4 := ⟨_, rfl⟩
  have hc4 : Chg [q] w3 w4 := by rw [← hw4]; exact (((Chg.refl [q] w3).drewN nq).setCell (p := ⟨q, 1, none⟩) (.inl (by simp)) _).setCell (p := ⟨q, 2, none⟩) (.inl (by simp)) _
  have il4 : IsLog w4 q p 0 0 b := by rw [← hw4]; exact (IL3.out.drewN nq).set12 0 0
  have hsu : IsLog w4 q p (Wal.norm S.length m).1 (Wal.norm S.length m).2 b := by rw [hfin.out]; exact il4
  rw [hw4]
  clear c3 hw4 il4
  rotate_left
  have c3 : decide ((1 : Int) < (x0 : Int)) = false := decide_eq_false (by omega)
  have c4 : decide (hf < u1) = true := decide_eq_true c2
  go_quiet ((go_at_call 12; exact quiet_of (HHALF.out _ (IL3.out.drewN _) (ID3.out.drewN _))))
  go_wp2_with fail
  obtain ⟨w4, hw4⟩ : ∃ w4, (((w3.drewN nq).setCell ⟨q, 1, none⟩ (.int .i64 0)).setCell ⟨q, 2, none⟩ (.int .i64 0)) = w4 := ⟨_, rfl⟩
  have hc4 : Chg [q] w3 w4 := by rw [← hw4]; exact (((Chg.refl [q] w3).drewN nq).setCell (p := ⟨q, 1, none⟩) (.inl (by simp)) _).setCell (p := ⟨q, 2, none⟩) (.inl (by simp)) _
  have il4 : IsLog w4 q p 0 0 b := by rw [← hw4]; exact (IL3.out.drewN nq).set12 0 0
  have hsu : IsLog w4 q p (Wal.norm S.length m).1 (Wal.norm S.length m).2 b := by rw [hfin.out]; exact il4
  rw [hw4]
  clear c3 c4 hw4 il4
  rotate_left
  have c3 : decide ((1 : Int) < (x0 : Int)) = false := decide_eq_false (by omega)
  have c4 : decide (hf < u1) = false := decide_eq_false (by omega)
  go_quiet ((go_at_call 12; exact quiet_of (HHALF.out _ (IL3.out.drewN _) (ID3.out.drewN _))))
  go_wp2_with fail
  obtain ⟨w4, hw4⟩ : ∃ w4, w3.drewN nq = w4 := ⟨_, rfl⟩
  have hc4 : Chg [q] w3 w4 := by rw [← hw4]; exact (Chg.refl [q] w3).drewN nq
  have il4 : IsLog w4 q p x0 u1 b := by rw [← hw4]; exact IL3.out.drewN nq
  have hsu : IsLog w4 q p (Wal.norm S.length m).1 (Wal.norm S.length m).2 b := by rw [hfin.out]; exact il4
  rw [hw4]
  clear c3 c4 hw4 il4
  rotate_left
  all_goals
    clear hfin IL3
    go_loopw [6, 7, 47] (fun _ _ i wr => ∃ k : Nat, ∃ d' : DS, k ≤ 3 ∧ i = .int .i64 k ∧ Hid (Wal.wrAll d (Wal.fixes S m 0) = Wal.wrAll d' (Wal.fixes S m k)) ∧ d'.down = false ∧ d'.secs.length = d.secs.length ∧ d'.writes ≤ d.writes + k ∧ IsDisk wr p g d' ∧ Chg [p, g] w4 wr) (fun _ _ i _ => 3 - (intOf i).toNat)
    case atStart => exact ⟨0, d, by omega, rfl, Lib.hid rfl, hdn, rfl, by omega, ID3.out.chg hc4 (by simp; omega) (by simp; omega), Chg.refl _ _⟩
    case round =>
      obtain ⟨k, d', hk, rfl, HW, hdn', hlen', hwr', idr, hcr⟩ := hrel
      have hz4 := hc4.size
      have hzr := hcr.size
      have hc3r : Chg [p, g, q] w3 wr := (hc4.mono (S' := [p, g, q]) (fun s hs => by simp at hs; simp [hs])).and (hcr.mono (fun s hs => by simp at hs; rcases hs with h | h <;> simp [h]))
      have ilr : IsLog wr q p (Wal.norm S.length m).1 (Wal.norm S.length m).2 b := hsu.chg hcr (by simp; omega)
      have B0 : Arr wr w.heap.size 0 T := fun j hj => by
        rw [hc3r.cell (p := ⟨w.heap.size, 0 + j, none⟩) (by show w.heap.size < _; omega) (by simp; omega)]
        exact HB0.out j hj
      have B1 : Arr wr w1.heap.size 0 m := fun j hj => by
        rw [hc3r.cell (p := ⟨w1.heap.size, 0 + j, none⟩) (by show w1.heap.size < _; omega) (by simp; omega)]
        exact HB1.out j hj
      have HSU := Lib.hid hsu
      have HILR := Lib.hid ilr
      have HDN := Lib.hid hdn'
      have HLEN' := Lib.hid hlen'
      have q0 := ilr.c0
      have hqr := ilr.qlt
      have hwrite := fun W (hW : Chg [] wr W) => write_any (idr.chg hW (by simp) (by simp)) (k : Int) (some ⟨w1.heap.size, 0, none⟩) 128 128 m (fun W' hW' => by
        have hB : Bs W W.heap.size (some ⟨w1.heap.size, 0, none⟩) m.length m := (Arr.keep B1 fun j _ => hW.cell (p := ⟨w1.heap.size, j, none⟩) (by show w1.heap.size < _; omega) (by simp)).bs (by have := hW.size; omega)
        rw [HML.out] at hB
        exact bs_chgAt hB hW' (by simp; omega) (by have := hW.size; omega)) (by omega)
      by_cases hlt : k < 3
      · have hst := fixes_step S m k hlt
        obtain ⟨p1, p2⟩ := Arr.hs (HP.out _ _ B0 k hlt) (HS.out k hlt)
        obtain ⟨p3, p4⟩ := Arr.hs B1 HML.out
        have he := fun W => eql_header W (Wal.sec S k) m (HS.out k hlt) HML.out
        have HC3 := Lib.hid hc3r
        have hk0 : (0 : Int) ≤ (k : Int) := by omega
        have hk3 : (k : Int) < 3 := by omega
        by_cases heq : Wal.sec S k = m
        · rw [if_pos heq] at hst
          have e1 : (Wal.sec S k == m) = true := by rw [heq]; exact beq_self_eq_true _
          have HST := Lib.hid hst
          clear hst heq B0 B1 hsu hc4 hdn' hlen' ilr hc3r hwrite
          go_wp2_with fail
          go_quiet (fail)
          go_wp2_with fail
          go_roundw
          case rel => exact ⟨k + 1, d', by omega, by go_num, Lib.hid (by rw [HW.out, HST.out]), HDN.out, HLEN'.out, by omega, idr.drewN _, hcr.drewN _⟩
          case measure => simp [intOf]; omega
        · rw [if_neg heq] at hst
          have e1 : (Wal.sec S k == m) = false := beq_eq_false_iff_ne.2 heq
          have HST := Lib.hid hst
          have hfa := write_facts d' (k : Int) m
          have hun : Wal.wrAll d' ((k, m) :: Wal.fixes S m (k + 1)) = if d'.writeErr (k : Int) m = 0 then Wal.wrAll (d'.write (k : Int) m) (Wal.fixes S m (k + 1)) else (d'.write (k : Int) m, d'.writeErr (k : Int) m) := rfl
          have hxc := writeErr_cases d' (k : Int) m
          generalize d'.writeErr (k : Int) m = x at *
          generalize hd2 : d'.write (k : Int) m = d2 at *
          have HUN := Lib.hid hun
          have HFA := Lib.hid hfa
          clear hst heq B0 B1 hsu hc4 hdn' hlen' ilr hc3r hun hfa hd2
          by_cases hx : x = 0
          · subst hx
            clear hxc
            go_wp2_with fail
            go_quiet (fail)
            go_wp2_with fail
            go_region_held3 (fun w' => w'.cell? ⟨q, 0, none⟩ = some (.pointer (some ⟨p, 0, none⟩))) (go_keep) (first | (go_at_call 17; refine (hwrite _ ?_).mono ?_; (first | exact (Chg.refl [] wr).drewN _ | exact ((Chg.refl [] wr).drewN _).drew); rintro e w5 ⟨rfl, id5, hc5⟩; have q05 := (hc5.cell (p := ⟨q, 0, none⟩) (by simpa using hqr) (by simp; omega)).trans (by simpa using q0)))
            go_wp2_with fail
            go_roundw
            case rel => exact ⟨k + 1, d2, by omega, by go_num, Lib.hid (by rw [HW.out, HST.out, HUN.out]; exact if_pos (by trivial)), HFA.out.2.2 (by trivial), HFA.out.1.trans HLEN'.out, by have := HFA.out.2.1; omega, id5, (hcr.drewN _).and hc5⟩
            case measure => simp [intOf]; omega
          · have hww : Wal.wrAll d (Wal.fixes S m 0) = (d2, x) := by rw [HW.out, HST.out, HUN.out, if_neg hx]
            have HWW := Lib.hid hww
            clear hww
            have hx2 := hxc.resolve_left hx
            clear hx hxc
            have hcw : Chg [p, g, q] w wr := hc3.and HC3.out
            rcases hx2 with rfl | rfl
            all_goals
              go_wp2_with fail
              go_quiet (fail)
              go_wp2_with fail
              go_region_held3 (fun w' => w'.cell? ⟨q, 0, none⟩ = some (.pointer (some ⟨p, 0, none⟩))) (go_keep) (first | (go_at_call 17; refine (hwrite _ ?_).mono ?_; (first | exact (Chg.refl [] wr).drewN _ | exact ((Chg.refl [] wr).drewN _).drew); rintro e w5 ⟨rfl, id5, hc5⟩; have q05 := (hc5.cell (p := ⟨q, 0, none⟩) (by simpa using hqr) (by simp; omega)).trans (by simpa using q0)))
              go_wp2_with fail
              go_ret
              exact ⟨by rw [HWW.out]; rfl, by rw [HWW.out]; exact id5, (HILR.out.drewN _).chg hc5 (by simp; omega), (hcw.drewN _).and (hc5.mono fun s hs => by simp at hs; rcases hs with h | h <;> simp [h])⟩
      · obtain rfl : k = 3 := by omega
        have hw : Wal.wrAll d (Wal.fixes S m 0) = (d', 0) := by rw [HW.out]; rfl
        have HWW := Lib.hid hw
        have hcw : Chg [p, g, q] w wr := hc3.and hc3r
        clear hw B0 B1 hsu hc4 hdn' hlen' ilr hc3r hwrite
        go_wp2
        go_ret
        exact ⟨by rw [HWW.out]; rfl, by rw [HWW.out]; exact idr, HILR.out, hcw⟩
end
end Go.Proofs.Ytgaplcgenlphdaa
