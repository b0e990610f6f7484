/- LedSameB, LedSameL, LedSameOp (put together by merge.py). -/
import Derived.Test.YtmbpnkacggngkaaGreatDoorLedHas
import Derived.BigQuiet
import Derived.Deep.CutBlock
import Derived.Deep.DeepCutAuto
import Derived.Test.YtmbpnkacggngkaaGreatDoorIdsAll
import Derived.Test.YtmbpnkacggngkaaGreatDoorBatch
/- THE WALK of the reference's Same of bundles. -/
namespace Go.Proofs.YtmbpnkacggngkaaGreatDoor
open Go.RowKit Mem Led

theorem below_dr (B : Nat) (w : World) (k : Nat) : Below B w (w.drewN k) := ⟨rfl, rfl, rfl, Nat.le_refl _, fun _ _ => rfl⟩
/-- Whether p is so is told. -/
def Answers (w : World) (p : Prop) (e : Ending) (w' : World) : Prop := ∃ r, e = .returned (.bool r) ∧ (r = true ↔ p) ∧ Below w.heap.size w w'
theorem Answers.no {w w' : World} {p : Prop} (h : Hid (¬ p)) (hb : Below w.heap.size w w') : Answers w p (.returned (.bool false)) w' := ⟨false, rfl, ⟨fun e => absurd e (by simp), fun e => absurd e h.out⟩, hb⟩
theorem Answers.yes {w w' : World} {p : Prop} (h : Hid p) (hb : Below w.heap.size w w') : Answers w p (.returned (.bool true)) w' := ⟨true, rfl, ⟨fun _ => h.out, fun _ => rfl⟩, hb⟩
theorem take_step {α : Type} {L M : List α} {k : Nat} (h : L.take k = M.take k) (hL : k < L.length) (hM : k < M.length) (he : L[k] = M[k]) : L.take (k + 1) = M.take (k + 1) := by
  rw [List.take_succ_eq_append_getElem hL, List.take_succ_eq_append_getElem hM, h, he]
theorem take_all {α : Type} {L M : List α} {n : Nat} (h : L.take n = M.take n) (hL : L.length = n) (hM : M.length = n) : L = M := by
  rwa [List.take_of_length_le (by omega), List.take_of_length_le (by omega)] at h
set_option maxHeartbeats 4000000 in
theorem bsame_any (d d' : Txt) (m m' : Int) (A : Option Addr) (n c : Nat) (K : List Led.Jwk) (A' : Option Addr) (n' c' : Nat) (K' : List Led.Jwk) (w : World) (h : Es jwkRow 2 w A n K) (h' : Es jwkRow 2 w A' n' K') (hn : n ≤ 9223372036854775807) (hn' : n' ≤ 9223372036854775807) :
    Calls Tryz.prog 31 #[.agg #[tx d, nm m, .slice A n c], .agg #[tx d', nm m', .slice A' n' c']] w (Answers w (d = d' ∧ m = m' ∧ K = K')) := by
  obtain ⟨p, HP⟩ : ∃ p : Prop, Hid (p = (d = d' ∧ m = m' ∧ K = K')) := ⟨_, Lib.hid rfl⟩
  rw [← HP.out]
  have hlen := h.len jwkRow_len (by decide)
  have hlen' := h'.len jwkRow_len (by decide)
  obtain ⟨W, hW⟩ : ∃ W, (w.alloc (.cells #[tx d, nm m, .slice A n c] 45)).alloc (.cells #[tx d', nm m', .slice A' n' c'] 45) = W := ⟨_, rfl⟩
  have b0 : Blk W w.heap.size [tx d, nm m, .slice A n c] 45 := by rw [← hW]; exact (Blk.new w [tx d, nm m, .slice A n c] _).alloc _
  have b1 : Blk W (w.heap.size + 1) [tx d', nm m', .slice A' n' c'] 45 := by
    have := Blk.new (w.alloc (.cells #[tx d, nm m, .slice A n c] 45)) [tx d', nm m', .slice A' n' c'] 45
    rw [← hW]
    simpa using this
  have hbW : Below w.heap.size w W := by rw [← hW]; exact ((Below.refl _ _).alloc (Nat.le_refl _) _).alloc (by simp) _
  have c0 : W.cell? ⟨w.heap.size, 0, none⟩ = some (.string (str d)) := b0.cell 0
  have c1 : W.cell? ⟨w.heap.size, 1, none⟩ = some (.int .i64 m) := b0.cell 1
  have c2 : W.cell? ⟨w.heap.size, 2, none⟩ = some (.slice A n c) := b0.cell 2
  have e0 : W.cell? ⟨w.heap.size + 1, 0, none⟩ = some (.string (str d')) := b1.cell 0
  have e1 : W.cell? ⟨w.heap.size + 1, 1, none⟩ = some (.int .i64 m') := b1.cell 1
  have e2 : W.cell? ⟨w.heap.size + 1, 2, none⟩ = some (.slice A' n' c') := b1.cell 2
  have HW := Lib.hid hW
  simp only [tx, nm] at HW
  clear hW
  unfold tx nm
  go_enter Tryz.func31, Tryz.ntmps31
  go_upto_region 1 with fail
  rw [HW.out]
  by_cases hd : d = d'
  · subst hd
    have hdd : (d == d) = true := by rw [beq_iff_eq]
    by_cases hm : m = m'
    · subst hm
      by_cases hnn : n = n'
      · subst hnn
        have h2 := h.below hbW
        have h2' := h'.below hbW
        go_wp2_with fail
        clear c0 c1 c2 e0 e1 e2
        go_loopw [5] (fun i wr => ∃ k : Nat, k ≤ n ∧ i = .int .i64 k ∧ Hid (K.take k = K'.take k) ∧ Below w.heap.size w wr ∧ Blk wr w.heap.size [tx d, nm m, .slice A n c] 45 ∧ Blk wr (w.heap.size + 1) [tx d, nm m, .slice A' n c'] 45 ∧ Es jwkRow 2 wr A n K ∧ Es jwkRow 2 wr A' n K') (fun i _ => n - (intOf i).toNat)
        case atStart => exact ⟨0, by omega, rfl, Lib.hid rfl, hbW, b0, b1, h2, h2'⟩
        case round =>
          obtain ⟨k, hk, rfl, HT, hb, r0, r1, t1, t2⟩ := hrel
          have k2 : wr.cell? ⟨w.heap.size, 2, none⟩ = some (.slice A n c) := r0.cell 2
          have l2 : wr.cell? ⟨w.heap.size + 1, 2, none⟩ = some (.slice A' n c') := r1.cell 2
          by_cases hlt : k < n
          · have hkL : k < K.length := by omega
            have hkM : k < K'.length := by omega
            obtain ⟨blk, off, rfl, hblk, hcell⟩ := t1.lit jwkRow_len (by decide) hkL
            obtain ⟨blk', off', rfl, hblk', hcell'⟩ := t2.lit jwkRow_len (by decide) hkM
            have p0 : wr.cell? ⟨blk, off + k * 2, none⟩ = some (.string (str K[k].kid)) := hcell 0 _ rfl
            have p1 : wr.cell? ⟨blk, off + k * 2 + 1, none⟩ = some (.string (str K[k].x)) := by rw [Nat.add_assoc]; exact hcell 1 _ rfl
            have q0 : wr.cell? ⟨blk', off' + k * 2, none⟩ = some (.string (str K'[k].kid)) := hcell' 0 _ rfl
            have q1 : wr.cell? ⟨blk', off' + k * 2 + 1, none⟩ = some (.string (str K'[k].x)) := by rw [Nat.add_assoc]; exact hcell' 1 _ rfl
            have hq := fun W => neq_jwk K[k] K'[k] W
            unfold jwkRow tx at hq
            clear hcell hcell'
            cases hab : jwkEq K[k] K'[k]
            · have hx : Hid (¬ K = K') := Lib.hid (fun e => by subst e; rw [jwkEq_iff.2 rfl] at hab; cases hab)
              rw [hab] at hq
              generalize K[k].kid = s1 at *
              generalize K[k].x = s2 at *
              generalize K'[k].kid = s3 at *
              generalize K'[k].x = s4 at *
              have hi : (k : Int) < (n : Int) := by omega
              clear hab
              go_wp2_with fail
              go_quiet (fail)
              go_wp2
              go_ret
              exact .no (Lib.hid fun e => hx.out (HP.out.mp e).2.2) (hb.trans (below_dr _ _ _))
            · have HT2 := Lib.hid (take_step HT.out hkL hkM (jwkEq_iff.1 hab))
              rw [hab] at hq
              generalize K[k].kid = s1 at *
              generalize K[k].x = s2 at *
              generalize K'[k].kid = s3 at *
              generalize K'[k].x = s4 at *
              have hi : (k : Int) < (n : Int) := by omega
              clear hab
              go_wp2_with fail
              go_quiet (fail)
              go_wp2
              go_roundw
              case rel => exact ⟨k + 1, by omega, by go_num, HT2, hb.trans (below_dr _ _ _), r0.below (below_dr _ _ _), r1.below (below_dr _ _ _), t1.below (below_dr _ _ _), t2.below (below_dr _ _ _)⟩
              case measure => simp [intOf]; omega
          · obtain rfl : k = n := by omega
            have hx := take_all HT.out hlen hlen'
            have HX := Lib.hid hx
            clear hx
            go_wp2
            go_ret
            exact .yes (Lib.hid (HP.out.mpr (by simp [HX.out]))) hb
      · have hx : Hid (¬ K = K') := Lib.hid (fun e => hnn (by subst e; omega))
        go_wp2_with fail
        go_ret
        exact .no (Lib.hid fun e => hx.out (HP.out.mp e).2.2) hbW
    · go_wp2_with fail
      go_ret
      exact .no (Lib.hid fun e => hm (HP.out.mp e).2.1) hbW
  · have hdd : (d == d') = false := by rw [beq_eq_false_iff_ne]; exact hd
    go_wp2_with fail
    go_ret
    exact .no (Lib.hid fun e => hd (HP.out.mp e).1) hbW
end Go.Proofs.YtmbpnkacggngkaaGreatDoor
/- THE WALK of the reference's Same of ledgers (printed by gensame.py). -/
namespace Go.Proofs.YtmbpnkacggngkaaGreatDoor
open Go.RowKit Mem Led

theorem neq_node (a b : Led.Node) (w : World) : (Go.binOp .neq 40 (.agg (nodeRow a).toArray) (.agg (nodeRow b).toArray)).run Tryz.prog w = .ok (.bool (!nodeEq a b)) w := by
  have u3 := Tryz.underlying9
  have u4 := Tryz.underlying3
  have u5 := Tryz.underlying4
  have hS : Tryz.prog.underlying 40 = some (.struct (Tryz.prog.fieldsOf 40)) := by kernel_rfl
  have hp : Tryz.prog.stoodInHeld 40 = false := by kernel_rfl
  unfold nodeEq
  simp only [nodeRow, tx, nm]
  rw [run_neq_struct, show (10000 : Nat) = 9999 + 1 from rfl, run_equalIn_agg w 9999 40 _ _ hS hp]
  simp only [Program.fieldsOf, Tryz.underlying40]
  go_simp
  by_cases h0 : a.name = b.name <;> by_cases h1 : a.key = b.key <;> by_cases h2 : a.expires = b.expires <;> by_cases h3 : a.seq = b.seq <;> by_cases h4 : a.doc = b.doc <;> simp [h0, h1, h2, h3, h4]

theorem eql_node (a b : Led.Node) (w : World) : (Go.binOp .eql 40 (.agg (nodeRow a).toArray) (.agg (nodeRow b).toArray)).run Tryz.prog w = .ok (.bool (nodeEq a b)) w := by
  have u3 := Tryz.underlying9
  have u4 := Tryz.underlying3
  have u5 := Tryz.underlying4
  have hS : Tryz.prog.underlying 40 = some (.struct (Tryz.prog.fieldsOf 40)) := by kernel_rfl
  have hp : Tryz.prog.stoodInHeld 40 = false := by kernel_rfl
  unfold nodeEq
  simp only [nodeRow, tx, nm]
  rw [run_eql_struct, show (10000 : Nat) = 9999 + 1 from rfl, run_equalIn_agg w 9999 40 _ _ hS hp]
  simp only [Program.fieldsOf, Tryz.underlying40]
  go_simp
  by_cases h0 : a.name = b.name <;> by_cases h1 : a.key = b.key <;> by_cases h2 : a.expires = b.expires <;> by_cases h3 : a.seq = b.seq <;> by_cases h4 : a.doc = b.doc <;> simp [h0, h1, h2, h3, h4]

theorem neq_join (a b : Led.Join) (w : World) : (Go.binOp .neq 38 (.agg (joinRow a).toArray) (.agg (joinRow b).toArray)).run Tryz.prog w = .ok (.bool (!joinEq a b)) w := by
  have u3 := Tryz.underlying9
  have u4 := Tryz.underlying3
  have u5 := Tryz.underlying4
  have hS : Tryz.prog.underlying 38 = some (.struct (Tryz.prog.fieldsOf 38)) := by kernel_rfl
  have hp : Tryz.prog.stoodInHeld 38 = false := by kernel_rfl
  unfold joinEq
  simp only [joinRow, tx, nm]
  rw [run_neq_struct, show (10000 : Nat) = 9999 + 1 from rfl, run_equalIn_agg w 9999 38 _ _ hS hp]
  simp only [Program.fieldsOf, Tryz.underlying38]
  go_simp
  by_cases h0 : a.text = b.text <;> by_cases h1 : a.name = b.name <;> by_cases h2 : a.expires = b.expires <;> by_cases h3 : a.used = b.used <;> simp [h0, h1, h2, h3]

theorem eql_join (a b : Led.Join) (w : World) : (Go.binOp .eql 38 (.agg (joinRow a).toArray) (.agg (joinRow b).toArray)).run Tryz.prog w = .ok (.bool (joinEq a b)) w := by
  have u3 := Tryz.underlying9
  have u4 := Tryz.underlying3
  have u5 := Tryz.underlying4
  have hS : Tryz.prog.underlying 38 = some (.struct (Tryz.prog.fieldsOf 38)) := by kernel_rfl
  have hp : Tryz.prog.stoodInHeld 38 = false := by kernel_rfl
  unfold joinEq
  simp only [joinRow, tx, nm]
  rw [run_eql_struct, show (10000 : Nat) = 9999 + 1 from rfl, run_equalIn_agg w 9999 38 _ _ hS hp]
  simp only [Program.fieldsOf, Tryz.underlying38]
  go_simp
  by_cases h0 : a.text = b.text <;> by_cases h1 : a.name = b.name <;> by_cases h2 : a.expires = b.expires <;> by_cases h3 : a.used = b.used <;> simp [h0, h1, h2, h3]

theorem neq_key (a b : Led.Key) (w : World) : (Go.binOp .neq 42 (.agg (keyRow a).toArray) (.agg (keyRow b).toArray)).run Tryz.prog w = .ok (.bool (!keyEq a b)) w := by
  have u3 := Tryz.underlying9
  have u4 := Tryz.underlying3
  have u5 := Tryz.underlying4
  have hS : Tryz.prog.underlying 42 = some (.struct (Tryz.prog.fieldsOf 42)) := by kernel_rfl
  have hp : Tryz.prog.stoodInHeld 42 = false := by kernel_rfl
  unfold keyEq
  simp only [keyRow, tx, nm]
  rw [run_neq_struct, show (10000 : Nat) = 9999 + 1 from rfl, run_equalIn_agg w 9999 42 _ _ hS hp]
  simp only [Program.fieldsOf, Tryz.underlying42]
  go_simp
  by_cases h0 : a.kid = b.kid <;> by_cases h1 : a.seed = b.seed <;> by_cases h2 : a.state = b.state <;> by_cases h3 : a.since = b.since <;> simp [h0, h1, h2, h3]

theorem eql_key (a b : Led.Key) (w : World) : (Go.binOp .eql 42 (.agg (keyRow a).toArray) (.agg (keyRow b).toArray)).run Tryz.prog w = .ok (.bool (keyEq a b)) w := by
  have u3 := Tryz.underlying9
  have u4 := Tryz.underlying3
  have u5 := Tryz.underlying4
  have hS : Tryz.prog.underlying 42 = some (.struct (Tryz.prog.fieldsOf 42)) := by kernel_rfl
  have hp : Tryz.prog.stoodInHeld 42 = false := by kernel_rfl
  unfold keyEq
  simp only [keyRow, tx, nm]
  rw [run_eql_struct, show (10000 : Nat) = 9999 + 1 from rfl, run_equalIn_agg w 9999 42 _ _ hS hp]
  simp only [Program.fieldsOf, Tryz.underlying42]
  go_simp
  by_cases h0 : a.kid = b.kid <;> by_cases h1 : a.seed = b.seed <;> by_cases h2 : a.state = b.state <;> by_cases h3 : a.since = b.since <;> simp [h0, h1, h2, h3]

/-- An entry's cells but for its selectors. -/
theorem entry_eq {a b : Led.Entry} (h0 : a.n = b.n) (h1 : a.path = b.path) (h2 : a.parent = b.parent) (h3 : a.ttl = b.ttl) (h4 : a.sels = b.sels) : a = b := by
  cases a; cases b; simp_all
theorem bundle_eq {a b : Led.Bundle} (h0 : a.domain = b.domain) (h1 : a.number = b.number) (h4 : a.keys = b.keys) : a = b := by
  cases a; cases b; simp_all
theorem ledger_eq {a b : Led.Ledger} (h0 : a.entries = b.entries) (h1 : a.nodes = b.nodes) (h2 : a.bans = b.bans) (h3 : a.joins = b.joins) (h4 : a.keys = b.keys) (h5 : a.bundles = b.bundles) : a = b := by
  cases a; cases b; simp_all
theorem fst_at {β : Type} {E : List (β × Value)} {L : List β} (h : E.map Prod.fst = L) {k : Nat} (hk : k < E.length) (hk' : k < L.length) : L[k] = E[k].1 := by
  subst h
  simp

set_option maxRecDepth 100000 in
set_option maxHeartbeats 16000000 in
theorem lsame_any (cs cs' : List Value) (L L' : Led.Ledger) (E E' : List (Led.Entry × Value)) (U U' : List (Led.Bundle × Value)) (w : World) (h : LgAt w cs L E U) (h' : LgAt w cs' L' E' U') :
    Calls Tryz.prog 15 #[.agg cs.toArray, .agg cs'.toArray] w (Answers w (L = L')) := by
  obtain ⟨p, HP⟩ : ∃ p : Prop, Hid (p = (L = L')) := ⟨_, Lib.hid rfl⟩
  rw [← HP.out]
  obtain ⟨⟨vE, vN, vB, vJ, vK, vU, rfl, ⟨A1, n1, c1, rfl, f1, x1⟩, ⟨A2, n2, c2, rfl, f2, x2⟩, ⟨A3, n3, c3, rfl, f3, x3⟩, ⟨A4, n4, c4, rfl, f4, x4⟩, ⟨A5, n5, c5, rfl, f5, x5⟩, ⟨A6, n6, c6, rfl, f6, x6⟩⟩, eE, eU, sE, sU⟩ := h
  obtain ⟨⟨vE, vN, vB, vJ, vK, vU, rfl, ⟨B1, m1, d1, rfl, g1, y1⟩, ⟨B2, m2, d2, rfl, g2, y2⟩, ⟨B3, m3, d3, rfl, g3, y3⟩, ⟨B4, m4, d4, rfl, g4, y4⟩, ⟨B5, m5, d5, rfl, g5, y5⟩, ⟨B6, m6, d6, rfl, g6, y6⟩⟩, eE', eU', sE', sU'⟩ := h'
  have l1 := x1.len entRow_len (by decide)
  have k1 := y1.len entRow_len (by decide)
  have l2 := x2.len nodeRow_len (by decide)
  have k2 := y2.len nodeRow_len (by decide)
  have l4 := x4.len joinRow_len (by decide)
  have k4 := y4.len joinRow_len (by decide)
  have l5 := x5.len keyRow_len (by decide)
  have k5 := y5.len keyRow_len (by decide)
  have l6 := x6.len bunRow_len (by decide)
  have k6 := y6.len bunRow_len (by decide)
  have l3 := x3.len
  have k3 := y3.len
  have z1 : n1 ≤ 9223372036854775807 := Nat.le_trans f1.1 f1.2.1
  have t1 : m1 ≤ 9223372036854775807 := Nat.le_trans g1.1 g1.2.1
  have z2 : n2 ≤ 9223372036854775807 := Nat.le_trans f2.1 f2.2.1
  have t2 : m2 ≤ 9223372036854775807 := Nat.le_trans g2.1 g2.2.1
  have z3 : n3 ≤ 9223372036854775807 := Nat.le_trans f3.1 f3.2.1
  have t3 : m3 ≤ 9223372036854775807 := Nat.le_trans g3.1 g3.2.1
  have z4 : n4 ≤ 9223372036854775807 := Nat.le_trans f4.1 f4.2.1
  have t4 : m4 ≤ 9223372036854775807 := Nat.le_trans g4.1 g4.2.1
  have z5 : n5 ≤ 9223372036854775807 := Nat.le_trans f5.1 f5.2.1
  have t5 : m5 ≤ 9223372036854775807 := Nat.le_trans g5.1 g5.2.1
  have z6 : n6 ≤ 9223372036854775807 := Nat.le_trans f6.1 f6.2.1
  have t6 : m6 ≤ 9223372036854775807 := Nat.le_trans g6.1 g6.2.1
  clear f1 g1 f2 g2 f3 g3 f4 g4 f5 g5 f6 g6
  have HE : Hid (L.entries.length = n1 ∧ L'.entries.length = m1 ∧ L.bundles.length = n6 ∧ L'.bundles.length = m6) := Lib.hid ⟨by rw [← eE]; simpa using l1, by rw [← eE']; simpa using k1, by rw [← eU]; simpa using l6, by rw [← eU']; simpa using k6⟩
  obtain ⟨W, hW⟩ : ∃ W, (w.alloc (.cells #[.slice A1 n1 c1, .slice A2 n2 c2, .slice A3 n3 c3, .slice A4 n4 c4, .slice A5 n5 c5, .slice A6 n6 c6] 30)).alloc (.cells #[.slice B1 m1 d1, .slice B2 m2 d2, .slice B3 m3 d3, .slice B4 m4 d4, .slice B5 m5 d5, .slice B6 m6 d6] 30) = W := ⟨_, rfl⟩
  have b0 : Blk W w.heap.size [.slice A1 n1 c1, .slice A2 n2 c2, .slice A3 n3 c3, .slice A4 n4 c4, .slice A5 n5 c5, .slice A6 n6 c6] 30 := by rw [← hW]; exact (Blk.new w [.slice A1 n1 c1, .slice A2 n2 c2, .slice A3 n3 c3, .slice A4 n4 c4, .slice A5 n5 c5, .slice A6 n6 c6] _).alloc _
  have b1 : Blk W (w.heap.size + 1) [.slice B1 m1 d1, .slice B2 m2 d2, .slice B3 m3 d3, .slice B4 m4 d4, .slice B5 m5 d5, .slice B6 m6 d6] 30 := by
    have := Blk.new (w.alloc (.cells #[.slice A1 n1 c1, .slice A2 n2 c2, .slice A3 n3 c3, .slice A4 n4 c4, .slice A5 n5 c5, .slice A6 n6 c6] 30)) [.slice B1 m1 d1, .slice B2 m2 d2, .slice B3 m3 d3, .slice B4 m4 d4, .slice B5 m5 d5, .slice B6 m6 d6] 30
    rw [← hW]
    simpa using this
  have hbW : Below w.heap.size w W := by rw [← hW]; exact ((Below.refl _ _).alloc (Nat.le_refl _) _).alloc (by simp) _
  have HW := Lib.hid hW
  clear hW
  have q2 : W.cell? ⟨w.heap.size, 2, none⟩ = some (.slice A3 n3 c3) := b0.cell 2
  have p2 : W.cell? ⟨w.heap.size + 1, 2, none⟩ = some (.slice B3 m3 d3) := b1.cell 2
  have hsm := same_any A3 n3 c3 L.bans B3 m3 d3 L'.bans W (Ts.below x3 hbW) (Ts.below y3 hbW) z3 t3
  obtain ⟨rb, hrb⟩ : ∃ rb, decide (L.bans = L'.bans) = rb := ⟨_, rfl⟩
  rw [hrb] at hsm
  have HB := Lib.hid hrb
  clear hrb
  go_enter Tryz.func15, Tryz.ntmps15
  go_upto_region 1 with fail
  rw [HW.out]
  go_wp2_with fail
  refine hsm.mono ?_
  rintro e w1 ⟨rfl, hb1⟩
  have hb : Below w.heap.size w w1 := hbW.trans (hb1.mono hbW.size)
  have a0 := b0.below hb1
  have a1 := b1.below hb1
  clear hb1 b0 b1 hbW HW hsm q2 p2
  have q0 : w1.cell? ⟨w.heap.size, 0, none⟩ = some (.slice A1 n1 c1) := a0.cell 0
  have p0 : w1.cell? ⟨w.heap.size + 1, 0, none⟩ = some (.slice B1 m1 d1) := a1.cell 0
  have q1 : w1.cell? ⟨w.heap.size, 1, none⟩ = some (.slice A2 n2 c2) := a0.cell 1
  have p1 : w1.cell? ⟨w.heap.size + 1, 1, none⟩ = some (.slice B2 m2 d2) := a1.cell 1
  have q2 : w1.cell? ⟨w.heap.size, 2, none⟩ = some (.slice A3 n3 c3) := a0.cell 2
  have p2 : w1.cell? ⟨w.heap.size + 1, 2, none⟩ = some (.slice B3 m3 d3) := a1.cell 2
  have q3 : w1.cell? ⟨w.heap.size, 3, none⟩ = some (.slice A4 n4 c4) := a0.cell 3
  have p3 : w1.cell? ⟨w.heap.size + 1, 3, none⟩ = some (.slice B4 m4 d4) := a1.cell 3
  have q4 : w1.cell? ⟨w.heap.size, 4, none⟩ = some (.slice A5 n5 c5) := a0.cell 4
  have p4 : w1.cell? ⟨w.heap.size + 1, 4, none⟩ = some (.slice B5 m5 d5) := a1.cell 4
  have q5 : w1.cell? ⟨w.heap.size, 5, none⟩ = some (.slice A6 n6 c6) := a0.cell 5
  have p5 : w1.cell? ⟨w.heap.size + 1, 5, none⟩ = some (.slice B6 m6 d6) := a1.cell 5
  cases rb
  · have hx : Hid (¬ L = L') := Lib.hid (fun e => by have := HB.out; subst e; simp at this)
    go_wp2_with fail
    go_ret
    exact .no (Lib.hid fun e => hx.out (HP.out.mp e)) hb
  by_cases e1 : n1 = m1
  rotate_left
  · have hx : Hid (¬ L = L') := Lib.hid (fun e => e1 (HE.out.1.symm.trans (by rw [e]; exact HE.out.2.1)))
    go_wp2_with fail
    go_ret
    exact .no (Lib.hid fun e => hx.out (HP.out.mp e)) hb
  subst e1
  by_cases e2 : n2 = m2
  rotate_left
  · have hx : Hid (¬ L = L') := Lib.hid (fun e => e2 (l2.symm.trans (by rw [e]; exact k2)))
    go_wp2_with fail
    go_ret
    exact .no (Lib.hid fun e => hx.out (HP.out.mp e)) hb
  subst e2
  by_cases e4 : n4 = m4
  rotate_left
  · have hx : Hid (¬ L = L') := Lib.hid (fun e => e4 (l4.symm.trans (by rw [e]; exact k4)))
    go_wp2_with fail
    go_ret
    exact .no (Lib.hid fun e => hx.out (HP.out.mp e)) hb
  subst e4
  by_cases e5 : n5 = m5
  rotate_left
  · have hx : Hid (¬ L = L') := Lib.hid (fun e => e5 (l5.symm.trans (by rw [e]; exact k5)))
    go_wp2_with fail
    go_ret
    exact .no (Lib.hid fun e => hx.out (HP.out.mp e)) hb
  subst e5
  by_cases e6 : n6 = m6
  rotate_left
  · have hx : Hid (¬ L = L') := Lib.hid (fun e => e6 (HE.out.2.2.1.symm.trans (by rw [e]; exact HE.out.2.2.2)))
    go_wp2_with fail
    go_ret
    exact .no (Lib.hid fun e => hx.out (HP.out.mp e)) hb
  subst e6
  go_wp2_with fail
  clear q0 p0 q1 p1 q2 p2 q3 p3 q4 p4 q5 p5
  have HBB : Hid (L.bans = L'.bans) := Lib.hid (of_decide_eq_true HB.out)
  clear HB
  go_loopw [6, 7, 8, 9] (fun i _ _ _ wr => ∃ k : Nat, k ≤ n1 ∧ i = .int .i64 k ∧ Hid (L.entries.take k = L'.entries.take k) ∧ Below w.heap.size w wr ∧ Blk wr w.heap.size [.slice A1 n1 c1, .slice A2 n2 c2, .slice A3 n3 c3, .slice A4 n4 c4, .slice A5 n5 c5, .slice A6 n6 c6] 30 ∧ Blk wr (w.heap.size + 1) [.slice B1 n1 d1, .slice B2 n2 d2, .slice B3 m3 d3, .slice B4 n4 d4, .slice B5 n5 d5, .slice B6 n6 d6] 30) (fun i _ _ _ _ => n1 - (intOf i).toNat)
  case atStart => exact ⟨0, by omega, rfl, Lib.hid rfl, hb, a0, a1⟩
  case round =>
    clear hb a0 a1
    obtain ⟨k, hk, rfl, HT, hb, a0, a1⟩ := hrel
    have q0 : wr.cell? ⟨w.heap.size, 0, none⟩ = some (.slice A1 n1 c1) := a0.cell 0
    have p0 : wr.cell? ⟨w.heap.size + 1, 0, none⟩ = some (.slice B1 n1 d1) := a1.cell 0
    by_cases hlt : k < n1
    · have hkE : k < E.length := by omega
      have hkE' : k < E'.length := by omega
      have hkL : k < L.entries.length := by have := HE.out.1; omega
      have hkM : k < L'.entries.length := by have := HE.out.2.1; omega
      have hf := fst_at eE hkE hkL
      have hf' := fst_at eE' hkE' hkM
      obtain ⟨blk, off, rfl, hblk, hcell⟩ := (x1.below hb).lit entRow_len (by decide) hkE
      obtain ⟨blk', off', rfl, hblk', hcell'⟩ := (y1.below hb).lit entRow_len (by decide) hkE'
      obtain ⟨SA, sn, sc, hs0, hs1, hs2⟩ := (sE E[k] (List.getElem_mem hkE)).below hb
      obtain ⟨SB, tn, tc, ht0, ht1, ht2⟩ := (sE' E'[k] (List.getElem_mem hkE')).below hb
      rw [← hf] at hs2
      rw [← hf'] at ht2
      have u0 : wr.cell? ⟨blk, off + k * 5, none⟩ = some (.int .i64 L.entries[k].n) := hcell 0 _ (by rw [hf]; rfl)
      have u1 : wr.cell? ⟨blk, off + k * 5 + 1, none⟩ = some (.string (str L.entries[k].path)) := by rw [Nat.add_assoc]; exact hcell 1 _ (by rw [hf]; rfl)
      have u2 : wr.cell? ⟨blk, off + k * 5 + 2, none⟩ = some (.string (str L.entries[k].parent)) := by rw [Nat.add_assoc]; exact hcell 2 _ (by rw [hf]; rfl)
      have u3 : wr.cell? ⟨blk, off + k * 5 + 3, none⟩ = some (.int .i64 L.entries[k].ttl) := by rw [Nat.add_assoc]; exact hcell 3 _ (by rw [hf]; rfl)
      have u4 : wr.cell? ⟨blk, off + k * 5 + 4, none⟩ = some (.slice SA sn sc) := by rw [Nat.add_assoc]; exact hcell 4 _ (by rw [← hs0]; rfl)
      have v0 : wr.cell? ⟨blk', off' + k * 5, none⟩ = some (.int .i64 L'.entries[k].n) := hcell' 0 _ (by rw [hf']; rfl)
      have v1 : wr.cell? ⟨blk', off' + k * 5 + 1, none⟩ = some (.string (str L'.entries[k].path)) := by rw [Nat.add_assoc]; exact hcell' 1 _ (by rw [hf']; rfl)
      have v2 : wr.cell? ⟨blk', off' + k * 5 + 2, none⟩ = some (.string (str L'.entries[k].parent)) := by rw [Nat.add_assoc]; exact hcell' 2 _ (by rw [hf']; rfl)
      have v3 : wr.cell? ⟨blk', off' + k * 5 + 3, none⟩ = some (.int .i64 L'.entries[k].ttl) := by rw [Nat.add_assoc]; exact hcell' 3 _ (by rw [hf']; rfl)
      have v4 : wr.cell? ⟨blk', off' + k * 5 + 4, none⟩ = some (.slice SB tn tc) := by rw [Nat.add_assoc]; exact hcell' 4 _ (by rw [← ht0]; rfl)
      have hLne : ∀ {p : Prop}, (L.entries[k] = L'.entries[k] → p) → ¬ p → ¬ L = L' := fun hp hnp e => hnp (hp (by subst e; rfl))
      have hLeq : L.entries[k].n = L'.entries[k].n → L.entries[k].path = L'.entries[k].path → L.entries[k].parent = L'.entries[k].parent → L.entries[k].ttl = L'.entries[k].ttl → L.entries[k].sels = L'.entries[k].sels → L.entries.take (k + 1) = L'.entries.take (k + 1) := fun a b c d e => take_step HT.out hkL hkM (entry_eq a b c d e)
      have D0 : ¬ L.entries[k].n = L'.entries[k].n → ¬ L = L' := hLne fun e => by rw [e]
      have D1 : ¬ L.entries[k].path = L'.entries[k].path → ¬ L = L' := hLne fun e => by rw [e]
      have D2 : ¬ L.entries[k].parent = L'.entries[k].parent → ¬ L = L' := hLne fun e => by rw [e]
      have D3 : ¬ L.entries[k].ttl = L'.entries[k].ttl → ¬ L = L' := hLne fun e => by rw [e]
      have D4 : ¬ L.entries[k].sels = L'.entries[k].sels → ¬ L = L' := hLne fun e => by rw [e]
      have HD := Lib.hid (And.intro D0 (And.intro D1 (And.intro D2 (And.intro D3 (And.intro D4 hLeq)))))
      clear D0 D1 D2 D3 D4 hLeq hLne hf hf' hcell hcell' hs0 ht0
      generalize L.entries[k].n = X0 at *
      generalize L.entries[k].path = X1 at *
      generalize L.entries[k].parent = X2 at *
      generalize L.entries[k].ttl = X3 at *
      generalize L.entries[k].sels = X4 at *
      generalize L'.entries[k].n = Y0 at *
      generalize L'.entries[k].path = Y1 at *
      generalize L'.entries[k].parent = Y2 at *
      generalize L'.entries[k].ttl = Y3 at *
      generalize L'.entries[k].sels = Y4 at *
      have hi : (k : Int) < (n1 : Int) := by omega
      have hg0 := a0.lt
      have hg1 := a1.lt
      go_upto_region 9 with fail

      have e0 : Blk ((wr.alloc (.cells #[.int .i64 X0, .string (str X1), .string (str X2), .int .i64 X3, .slice SA sn sc] 36)).alloc (.cells #[.int .i64 Y0, .string (str Y1), .string (str Y2), .int .i64 Y3, .slice SB tn tc] 36)) wr.heap.size [.int .i64 X0, .string (str X1), .string (str X2), .int .i64 X3, .slice SA sn sc] 36 := (Blk.new wr [.int .i64 X0, .string (str X1), .string (str X2), .int .i64 X3, .slice SA sn sc] _).alloc _
      have e1 : Blk ((wr.alloc (.cells #[.int .i64 X0, .string (str X1), .string (str X2), .int .i64 X3, .slice SA sn sc] 36)).alloc (.cells #[.int .i64 Y0, .string (str Y1), .string (str Y2), .int .i64 Y3, .slice SB tn tc] 36)) (wr.heap.size + 1) [.int .i64 Y0, .string (str Y1), .string (str Y2), .int .i64 Y3, .slice SB tn tc] 36 := by
        have := Blk.new (wr.alloc (.cells #[.int .i64 X0, .string (str X1), .string (str X2), .int .i64 X3, .slice SA sn sc] 36)) [.int .i64 Y0, .string (str Y1), .string (str Y2), .int .i64 Y3, .slice SB tn tc] 36
        simpa using this
      have gb : Below wr.heap.size wr ((wr.alloc (.cells #[.int .i64 X0, .string (str X1), .string (str X2), .int .i64 X3, .slice SA sn sc] 36)).alloc (.cells #[.int .i64 Y0, .string (str Y1), .string (str Y2), .int .i64 Y3, .slice SB tn tc] 36)) := ((Below.refl _ _).alloc (Nat.le_refl _) _).alloc (by simp) _
      obtain ⟨W2, hW2⟩ : ∃ W2, (wr.alloc (.cells #[.int .i64 X0, .string (str X1), .string (str X2), .int .i64 X3, .slice SA sn sc] 36)).alloc (.cells #[.int .i64 Y0, .string (str Y1), .string (str Y2), .int .i64 Y3, .slice SB tn tc] 36) = W2 := ⟨_, rfl⟩
      rw [hW2] at e0 e1 gb ⊢
      clear hW2 u0 u1 u2 u3 u4 v0 v1 v2 v3 v4 q0 p0
      have r4 : W2.cell? ⟨wr.heap.size, 4, none⟩ = some (.slice SA sn sc) := e0.cell 4
      have s4 : W2.cell? ⟨wr.heap.size + 1, 4, none⟩ = some (.slice SB tn tc) := e1.cell 4
      have hsm := same_any SA sn sc X4 SB tn tc Y4 W2 (Ts.below hs2 gb) (Ts.below ht2 gb) (Nat.le_trans hs1.1 hs1.2.1) (Nat.le_trans ht1.1 ht1.2.1)
      obtain ⟨rs, hrs⟩ : ∃ rs, decide (X4 = Y4) = rs := ⟨_, rfl⟩
      rw [hrs] at hsm
      have HS := Lib.hid hrs
      clear hrs
      go_wp2_with fail
      refine hsm.mono ?_
      rintro e W3 ⟨rfl, g3⟩
      have gw : Below wr.heap.size wr W3 := gb.trans (g3.mono gb.size)
      have e0' := e0.below g3
      have e1' := e1.below g3
      clear hsm e0 e1 r4 s4 g3 gb

      have r0 : W3.cell? ⟨wr.heap.size, 0, none⟩ = some (.int .i64 X0) := e0'.cell 0
      have r1 : W3.cell? ⟨wr.heap.size, 1, none⟩ = some (.string (str X1)) := e0'.cell 1
      have r2 : W3.cell? ⟨wr.heap.size, 2, none⟩ = some (.string (str X2)) := e0'.cell 2
      have r3 : W3.cell? ⟨wr.heap.size, 3, none⟩ = some (.int .i64 X3) := e0'.cell 3
      have s0 : W3.cell? ⟨wr.heap.size + 1, 0, none⟩ = some (.int .i64 Y0) := e1'.cell 0
      have s1 : W3.cell? ⟨wr.heap.size + 1, 1, none⟩ = some (.string (str Y1)) := e1'.cell 1
      have s2 : W3.cell? ⟨wr.heap.size + 1, 2, none⟩ = some (.string (str Y2)) := e1'.cell 2
      have s3 : W3.cell? ⟨wr.heap.size + 1, 3, none⟩ = some (.int .i64 Y3) := e1'.cell 3
      clear e0' e1'
      cases rs
      · have hx : Hid (¬ L = L') := Lib.hid (HD.out.2.2.2.2.1 (of_decide_eq_false HS.out))
        go_wp2_with fail
        go_ret
        exact .no (Lib.hid fun e => hx.out (HP.out.mp e)) (hb.trans (gw.mono hb.size))
      have HS4 : Hid (X4 = Y4) := Lib.hid (of_decide_eq_true HS.out)
      clear HS
      by_cases h0 : X0 = Y0
      rotate_left
      · have hx : Hid (¬ L = L') := Lib.hid (HD.out.1 h0)
        go_wp2_with fail
        go_ret
        exact .no (Lib.hid fun e => hx.out (HP.out.mp e)) (hb.trans (gw.mono hb.size))
      subst h0
      by_cases h1 : X1 = Y1
      rotate_left
      · have hx : Hid (¬ L = L') := Lib.hid (HD.out.2.1 h1)
        have hss : (X1 == Y1) = false := by rw [beq_eq_false_iff_ne]; exact h1
        go_wp2_with fail
        go_ret
        exact .no (Lib.hid fun e => hx.out (HP.out.mp e)) (hb.trans (gw.mono hb.size))
      subst h1
      have hss1 : (X1 == X1) = true := by rw [beq_iff_eq]
      by_cases h2 : X2 = Y2
      rotate_left
      · have hx : Hid (¬ L = L') := Lib.hid (HD.out.2.2.1 h2)
        have hss : (X2 == Y2) = false := by rw [beq_eq_false_iff_ne]; exact h2
        go_wp2_with fail
        go_ret
        exact .no (Lib.hid fun e => hx.out (HP.out.mp e)) (hb.trans (gw.mono hb.size))
      subst h2
      have hss2 : (X2 == X2) = true := by rw [beq_iff_eq]
      by_cases h3 : X3 = Y3
      rotate_left
      · have hx : Hid (¬ L = L') := Lib.hid (HD.out.2.2.2.1 h3)
        go_wp2_with fail
        go_ret
        exact .no (Lib.hid fun e => hx.out (HP.out.mp e)) (hb.trans (gw.mono hb.size))
      subst h3
      have HT2 : Hid (L.entries.take (k + 1) = L'.entries.take (k + 1)) := Lib.hid (HD.out.2.2.2.2.2 rfl rfl rfl rfl HS4.out)
      clear HD HS4
      go_wp2_with fail
      go_roundw
      case rel => exact ⟨k + 1, by omega, by go_num, HT2, hb.trans (gw.mono hb.size), a0.below gw, a1.below gw⟩
      case measure => simp [intOf]; omega
    · have hkn : k = n1 := by omega
      have HT' := HT.out
      rw [hkn] at HT'
      have HN1 := Lib.hid (take_all HT' HE.out.1 HE.out.2.1)
      clear HT HT'
      have hi : ¬ ((k : Int) < (n1 : Int)) := by omega
      go_wp2_with fail
      go_loopw [10] (fun i wr => ∃ k : Nat, k ≤ n2 ∧ i = .int .i64 k ∧ Hid (L.nodes.take k = L'.nodes.take k) ∧ Below w.heap.size w wr ∧ Blk wr w.heap.size [.slice A1 n1 c1, .slice A2 n2 c2, .slice A3 n3 c3, .slice A4 n4 c4, .slice A5 n5 c5, .slice A6 n6 c6] 30 ∧ Blk wr (w.heap.size + 1) [.slice B1 n1 d1, .slice B2 n2 d2, .slice B3 m3 d3, .slice B4 n4 d4, .slice B5 n5 d5, .slice B6 n6 d6] 30) (fun i _ => n2 - (intOf i).toNat)
      case atStart => exact ⟨0, by omega, rfl, Lib.hid rfl, hb, a0, a1⟩
      case round =>
        clear hb a0 a1
        obtain ⟨k, hk, rfl, HT, hb, a0, a1⟩ := hrel
        have q0 : wr.cell? ⟨w.heap.size, 1, none⟩ = some (.slice A2 n2 c2) := a0.cell 1
        have p0 : wr.cell? ⟨w.heap.size + 1, 1, none⟩ = some (.slice B2 n2 d2) := a1.cell 1
        by_cases hlt : k < n2
        · have hkL : k < L.nodes.length := by omega
          have hkM : k < L'.nodes.length := by omega
          obtain ⟨blk, off, rfl, hblk, hcell⟩ := (x2.below hb).lit nodeRow_len (by decide) hkL
          obtain ⟨blk', off', rfl, hblk', hcell'⟩ := (y2.below hb).lit nodeRow_len (by decide) hkM
          have u0 : wr.cell? ⟨blk, off + k * 5, none⟩ = some (.string (str L.nodes[k].name)) := hcell 0 _ rfl
          have u1 : wr.cell? ⟨blk, off + k * 5 + 1, none⟩ = some (.string (str L.nodes[k].key)) := by rw [Nat.add_assoc]; exact hcell 1 _ rfl
          have u2 : wr.cell? ⟨blk, off + k * 5 + 2, none⟩ = some (.int .i64 L.nodes[k].expires) := by rw [Nat.add_assoc]; exact hcell 2 _ rfl
          have u3 : wr.cell? ⟨blk, off + k * 5 + 3, none⟩ = some (.int .i64 L.nodes[k].seq) := by rw [Nat.add_assoc]; exact hcell 3 _ rfl
          have u4 : wr.cell? ⟨blk, off + k * 5 + 4, none⟩ = some (.string (str L.nodes[k].doc)) := by rw [Nat.add_assoc]; exact hcell 4 _ rfl
          have v0 : wr.cell? ⟨blk', off' + k * 5, none⟩ = some (.string (str L'.nodes[k].name)) := hcell' 0 _ rfl
          have v1 : wr.cell? ⟨blk', off' + k * 5 + 1, none⟩ = some (.string (str L'.nodes[k].key)) := by rw [Nat.add_assoc]; exact hcell' 1 _ rfl
          have v2 : wr.cell? ⟨blk', off' + k * 5 + 2, none⟩ = some (.int .i64 L'.nodes[k].expires) := by rw [Nat.add_assoc]; exact hcell' 2 _ rfl
          have v3 : wr.cell? ⟨blk', off' + k * 5 + 3, none⟩ = some (.int .i64 L'.nodes[k].seq) := by rw [Nat.add_assoc]; exact hcell' 3 _ rfl
          have v4 : wr.cell? ⟨blk', off' + k * 5 + 4, none⟩ = some (.string (str L'.nodes[k].doc)) := by rw [Nat.add_assoc]; exact hcell' 4 _ rfl
          have hq := fun W => neq_node L.nodes[k] L'.nodes[k] W
          unfold nodeRow tx nm at hq
          clear hcell hcell'
          cases hab : nodeEq L.nodes[k] L'.nodes[k]
          · have hx : Hid (¬ L = L') := Lib.hid (fun e => by subst e; rw [nodeEq_iff.2 rfl] at hab; cases hab)
            rw [hab] at hq
            generalize L.nodes[k].name = X0 at *
            generalize L.nodes[k].key = X1 at *
            generalize L.nodes[k].expires = X2 at *
            generalize L.nodes[k].seq = X3 at *
            generalize L.nodes[k].doc = X4 at *
            generalize L'.nodes[k].name = Y0 at *
            generalize L'.nodes[k].key = Y1 at *
            generalize L'.nodes[k].expires = Y2 at *
            generalize L'.nodes[k].seq = Y3 at *
            generalize L'.nodes[k].doc = Y4 at *
            have hi : (k : Int) < (n2 : Int) := by omega
            clear hab
            go_wp2_with fail
            go_quiet (fail)
            go_wp2
            go_ret
            exact .no (Lib.hid fun e => hx.out (HP.out.mp e)) (hb.trans (below_dr _ _ _))
          · have HT2 := Lib.hid (take_step HT.out hkL hkM (nodeEq_iff.1 hab))
            rw [hab] at hq
            generalize L.nodes[k].name = X0 at *
            generalize L.nodes[k].key = X1 at *
            generalize L.nodes[k].expires = X2 at *
            generalize L.nodes[k].seq = X3 at *
            generalize L.nodes[k].doc = X4 at *
            generalize L'.nodes[k].name = Y0 at *
            generalize L'.nodes[k].key = Y1 at *
            generalize L'.nodes[k].expires = Y2 at *
            generalize L'.nodes[k].seq = Y3 at *
            generalize L'.nodes[k].doc = Y4 at *
            have hi : (k : Int) < (n2 : Int) := by omega
            clear hab
            go_wp2_with fail
            go_quiet (fail)
            go_wp2
            go_roundw
            case rel => exact ⟨k + 1, by omega, by go_num, HT2, hb.trans (below_dr _ _ _), a0.below (below_dr _ _ _), a1.below (below_dr _ _ _)⟩
            case measure => simp [intOf]; omega
        · have hkn : k = n2 := by omega
          have HT' := HT.out
          rw [hkn] at HT'
          have HN2 := Lib.hid (take_all HT' l2 k2)
          clear HT HT'
          have hi : ¬ ((k : Int) < (n2 : Int)) := by omega
          go_wp2_with fail
          go_loopw [11] (fun i wr => ∃ k : Nat, k ≤ n4 ∧ i = .int .i64 k ∧ Hid (L.joins.take k = L'.joins.take k) ∧ Below w.heap.size w wr ∧ Blk wr w.heap.size [.slice A1 n1 c1, .slice A2 n2 c2, .slice A3 n3 c3, .slice A4 n4 c4, .slice A5 n5 c5, .slice A6 n6 c6] 30 ∧ Blk wr (w.heap.size + 1) [.slice B1 n1 d1, .slice B2 n2 d2, .slice B3 m3 d3, .slice B4 n4 d4, .slice B5 n5 d5, .slice B6 n6 d6] 30) (fun i _ => n4 - (intOf i).toNat)
          case atStart => exact ⟨0, by omega, rfl, Lib.hid rfl, hb, a0, a1⟩
          case round =>
            clear hb a0 a1
            obtain ⟨k, hk, rfl, HT, hb, a0, a1⟩ := hrel
            have q0 : wr.cell? ⟨w.heap.size, 3, none⟩ = some (.slice A4 n4 c4) := a0.cell 3
            have p0 : wr.cell? ⟨w.heap.size + 1, 3, none⟩ = some (.slice B4 n4 d4) := a1.cell 3
            by_cases hlt : k < n4
            · have hkL : k < L.joins.length := by omega
              have hkM : k < L'.joins.length := by omega
              obtain ⟨blk, off, rfl, hblk, hcell⟩ := (x4.below hb).lit joinRow_len (by decide) hkL
              obtain ⟨blk', off', rfl, hblk', hcell'⟩ := (y4.below hb).lit joinRow_len (by decide) hkM
              have u0 : wr.cell? ⟨blk, off + k * 4, none⟩ = some (.string (str L.joins[k].text)) := hcell 0 _ rfl
              have u1 : wr.cell? ⟨blk, off + k * 4 + 1, none⟩ = some (.string (str L.joins[k].name)) := by rw [Nat.add_assoc]; exact hcell 1 _ rfl
              have u2 : wr.cell? ⟨blk, off + k * 4 + 2, none⟩ = some (.int .i64 L.joins[k].expires) := by rw [Nat.add_assoc]; exact hcell 2 _ rfl
              have u3 : wr.cell? ⟨blk, off + k * 4 + 3, none⟩ = some (.bool L.joins[k].used) := by rw [Nat.add_assoc]; exact hcell 3 _ rfl
              have v0 : wr.cell? ⟨blk', off' + k * 4, none⟩ = some (.string (str L'.joins[k].text)) := hcell' 0 _ rfl
              have v1 : wr.cell? ⟨blk', off' + k * 4 + 1, none⟩ = some (.string (str L'.joins[k].name)) := by rw [Nat.add_assoc]; exact hcell' 1 _ rfl
              have v2 : wr.cell? ⟨blk', off' + k * 4 + 2, none⟩ = some (.int .i64 L'.joins[k].expires) := by rw [Nat.add_assoc]; exact hcell' 2 _ rfl
              have v3 : wr.cell? ⟨blk', off' + k * 4 + 3, none⟩ = some (.bool L'.joins[k].used) := by rw [Nat.add_assoc]; exact hcell' 3 _ rfl
              have hq := fun W => neq_join L.joins[k] L'.joins[k] W
              unfold joinRow tx nm at hq
              clear hcell hcell'
              cases hab : joinEq L.joins[k] L'.joins[k]
              · have hx : Hid (¬ L = L') := Lib.hid (fun e => by subst e; rw [joinEq_iff.2 rfl] at hab; cases hab)
                rw [hab] at hq
                generalize L.joins[k].text = X0 at *
                generalize L.joins[k].name = X1 at *
                generalize L.joins[k].expires = X2 at *
                generalize L.joins[k].used = X3 at *
                generalize L'.joins[k].text = Y0 at *
                generalize L'.joins[k].name = Y1 at *
                generalize L'.joins[k].expires = Y2 at *
                generalize L'.joins[k].used = Y3 at *
                have hi : (k : Int) < (n4 : Int) := by omega
                clear hab
                go_wp2_with fail
                go_quiet (fail)
                go_wp2
                go_ret
                exact .no (Lib.hid fun e => hx.out (HP.out.mp e)) (hb.trans (below_dr _ _ _))
              · have HT2 := Lib.hid (take_step HT.out hkL hkM (joinEq_iff.1 hab))
                rw [hab] at hq
                generalize L.joins[k].text = X0 at *
                generalize L.joins[k].name = X1 at *
                generalize L.joins[k].expires = X2 at *
                generalize L.joins[k].used = X3 at *
                generalize L'.joins[k].text = Y0 at *
                generalize L'.joins[k].name = Y1 at *
                generalize L'.joins[k].expires = Y2 at *
                generalize L'.joins[k].used = Y3 at *
                have hi : (k : Int) < (n4 : Int) := by omega
                clear hab
                go_wp2_with fail
                go_quiet (fail)
                go_wp2
                go_roundw
                case rel => exact ⟨k + 1, by omega, by go_num, HT2, hb.trans (below_dr _ _ _), a0.below (below_dr _ _ _), a1.below (below_dr _ _ _)⟩
                case measure => simp [intOf]; omega
            · have hkn : k = n4 := by omega
              have HT' := HT.out
              rw [hkn] at HT'
              have HN4 := Lib.hid (take_all HT' l4 k4)
              clear HT HT'
              have hi : ¬ ((k : Int) < (n4 : Int)) := by omega
              go_wp2_with fail
              go_loopw [12] (fun i wr => ∃ k : Nat, k ≤ n5 ∧ i = .int .i64 k ∧ Hid (L.keys.take k = L'.keys.take k) ∧ Below w.heap.size w wr ∧ Blk wr w.heap.size [.slice A1 n1 c1, .slice A2 n2 c2, .slice A3 n3 c3, .slice A4 n4 c4, .slice A5 n5 c5, .slice A6 n6 c6] 30 ∧ Blk wr (w.heap.size + 1) [.slice B1 n1 d1, .slice B2 n2 d2, .slice B3 m3 d3, .slice B4 n4 d4, .slice B5 n5 d5, .slice B6 n6 d6] 30) (fun i _ => n5 - (intOf i).toNat)
              case atStart => exact ⟨0, by omega, rfl, Lib.hid rfl, hb, a0, a1⟩
              case round =>
                clear hb a0 a1
                obtain ⟨k, hk, rfl, HT, hb, a0, a1⟩ := hrel
                have q0 : wr.cell? ⟨w.heap.size, 4, none⟩ = some (.slice A5 n5 c5) := a0.cell 4
                have p0 : wr.cell? ⟨w.heap.size + 1, 4, none⟩ = some (.slice B5 n5 d5) := a1.cell 4
                by_cases hlt : k < n5
                · have hkL : k < L.keys.length := by omega
                  have hkM : k < L'.keys.length := by omega
                  obtain ⟨blk, off, rfl, hblk, hcell⟩ := (x5.below hb).lit keyRow_len (by decide) hkL
                  obtain ⟨blk', off', rfl, hblk', hcell'⟩ := (y5.below hb).lit keyRow_len (by decide) hkM
                  have u0 : wr.cell? ⟨blk, off + k * 4, none⟩ = some (.string (str L.keys[k].kid)) := hcell 0 _ rfl
                  have u1 : wr.cell? ⟨blk, off + k * 4 + 1, none⟩ = some (.string (str L.keys[k].seed)) := by rw [Nat.add_assoc]; exact hcell 1 _ rfl
                  have u2 : wr.cell? ⟨blk, off + k * 4 + 2, none⟩ = some (.int .i64 L.keys[k].state) := by rw [Nat.add_assoc]; exact hcell 2 _ rfl
                  have u3 : wr.cell? ⟨blk, off + k * 4 + 3, none⟩ = some (.int .i64 L.keys[k].since) := by rw [Nat.add_assoc]; exact hcell 3 _ rfl
                  have v0 : wr.cell? ⟨blk', off' + k * 4, none⟩ = some (.string (str L'.keys[k].kid)) := hcell' 0 _ rfl
                  have v1 : wr.cell? ⟨blk', off' + k * 4 + 1, none⟩ = some (.string (str L'.keys[k].seed)) := by rw [Nat.add_assoc]; exact hcell' 1 _ rfl
                  have v2 : wr.cell? ⟨blk', off' + k * 4 + 2, none⟩ = some (.int .i64 L'.keys[k].state) := by rw [Nat.add_assoc]; exact hcell' 2 _ rfl
                  have v3 : wr.cell? ⟨blk', off' + k * 4 + 3, none⟩ = some (.int .i64 L'.keys[k].since) := by rw [Nat.add_assoc]; exact hcell' 3 _ rfl
                  have hq := fun W => neq_key L.keys[k] L'.keys[k] W
                  unfold keyRow tx nm at hq
                  clear hcell hcell'
                  cases hab : keyEq L.keys[k] L'.keys[k]
                  · have hx : Hid (¬ L = L') := Lib.hid (fun e => by subst e; rw [keyEq_iff.2 rfl] at hab; cases hab)
                    rw [hab] at hq
                    generalize L.keys[k].kid = X0 at *
                    generalize L.keys[k].seed = X1 at *
                    generalize L.keys[k].state = X2 at *
                    generalize L.keys[k].since = X3 at *
                    generalize L'.keys[k].kid = Y0 at *
                    generalize L'.keys[k].seed = Y1 at *
                    generalize L'.keys[k].state = Y2 at *
                    generalize L'.keys[k].since = Y3 at *
                    have hi : (k : Int) < (n5 : Int) := by omega
                    clear hab
                    go_wp2_with fail
                    go_quiet (fail)
                    go_wp2
                    go_ret
                    exact .no (Lib.hid fun e => hx.out (HP.out.mp e)) (hb.trans (below_dr _ _ _))
                  · have HT2 := Lib.hid (take_step HT.out hkL hkM (keyEq_iff.1 hab))
                    rw [hab] at hq
                    generalize L.keys[k].kid = X0 at *
                    generalize L.keys[k].seed = X1 at *
                    generalize L.keys[k].state = X2 at *
                    generalize L.keys[k].since = X3 at *
                    generalize L'.keys[k].kid = Y0 at *
                    generalize L'.keys[k].seed = Y1 at *
                    generalize L'.keys[k].state = Y2 at *
                    generalize L'.keys[k].since = Y3 at *
                    have hi : (k : Int) < (n5 : Int) := by omega
                    clear hab
                    go_wp2_with fail
                    go_quiet (fail)
                    go_wp2
                    go_roundw
                    case rel => exact ⟨k + 1, by omega, by go_num, HT2, hb.trans (below_dr _ _ _), a0.below (below_dr _ _ _), a1.below (below_dr _ _ _)⟩
                    case measure => simp [intOf]; omega
                · have hkn : k = n5 := by omega
                  have HT' := HT.out
                  rw [hkn] at HT'
                  have HN5 := Lib.hid (take_all HT' l5 k5)
                  clear HT HT'
                  have hi : ¬ ((k : Int) < (n5 : Int)) := by omega
                  go_wp2_with fail
                  go_loopw [13, 14] (fun i _ wr => ∃ k : Nat, k ≤ n6 ∧ i = .int .i64 k ∧ Hid (L.bundles.take k = L'.bundles.take k) ∧ Below w.heap.size w wr ∧ Blk wr w.heap.size [.slice A1 n1 c1, .slice A2 n2 c2, .slice A3 n3 c3, .slice A4 n4 c4, .slice A5 n5 c5, .slice A6 n6 c6] 30 ∧ Blk wr (w.heap.size + 1) [.slice B1 n1 d1, .slice B2 n2 d2, .slice B3 m3 d3, .slice B4 n4 d4, .slice B5 n5 d5, .slice B6 n6 d6] 30) (fun i _ _ => n6 - (intOf i).toNat)
                  case atStart => exact ⟨0, by omega, rfl, Lib.hid rfl, hb, a0, a1⟩
                  case round =>
                    clear hb a0 a1
                    obtain ⟨k, hk, rfl, HT, hb, a0, a1⟩ := hrel
                    have q0 : wr.cell? ⟨w.heap.size, 5, none⟩ = some (.slice A6 n6 c6) := a0.cell 5
                    have p0 : wr.cell? ⟨w.heap.size + 1, 5, none⟩ = some (.slice B6 n6 d6) := a1.cell 5
                    by_cases hlt : k < n6
                    · have hkE : k < U.length := by omega
                      have hkE' : k < U'.length := by omega
                      have hkL : k < L.bundles.length := by have := HE.out.2.2.1; omega
                      have hkM : k < L'.bundles.length := by have := HE.out.2.2.2; omega
                      have hf := fst_at eU hkE hkL
                      have hf' := fst_at eU' hkE' hkM
                      obtain ⟨blk, off, rfl, hblk, hcell⟩ := (x6.below hb).lit bunRow_len (by decide) hkE
                      obtain ⟨blk', off', rfl, hblk', hcell'⟩ := (y6.below hb).lit bunRow_len (by decide) hkE'
                      obtain ⟨SA, sn, sc, hs0, hs1, hs2⟩ := (sU U[k] (List.getElem_mem hkE)).below hb
                      obtain ⟨SB, tn, tc, ht0, ht1, ht2⟩ := (sU' U'[k] (List.getElem_mem hkE')).below hb
                      rw [← hf] at hs2
                      rw [← hf'] at ht2
                      have G := fun p => Batch.grew_below wr p
                      have q0' : ∀ p, (Batch.grew wr p).cell? ⟨w.heap.size, 5, none⟩ = some (.slice (some ⟨blk, off, none⟩) n6 c6) := fun p => (Batch.grew_cell a0.lt p).trans q0
                      have p0' : ∀ p, (Batch.grew wr p).cell? ⟨w.heap.size + 1, 5, none⟩ = some (.slice (some ⟨blk', off', none⟩) n6 d6) := fun p => (Batch.grew_cell a1.lt p).trans p0
                      have u0 : ∀ p, (Batch.grew wr p).cell? ⟨blk, off + k * 3, none⟩ = some (.string (str L.bundles[k].domain)) := fun p => (Batch.grew_cell hblk p).trans (hcell 0 _ (by rw [hf]; rfl))
                      have u1 : ∀ p, (Batch.grew wr p).cell? ⟨blk, off + k * 3 + 1, none⟩ = some (.int .i64 L.bundles[k].number) := fun p => (Batch.grew_cell hblk p).trans (by rw [Nat.add_assoc]; exact hcell 1 _ (by rw [hf]; rfl))
                      have u2 : ∀ p, (Batch.grew wr p).cell? ⟨blk, off + k * 3 + 2, none⟩ = some (.slice SA sn sc) := fun p => (Batch.grew_cell hblk p).trans (by rw [Nat.add_assoc]; exact hcell 2 _ (by rw [← hs0]; rfl))
                      have v0 : ∀ p, (Batch.grew wr p).cell? ⟨blk', off' + k * 3, none⟩ = some (.string (str L'.bundles[k].domain)) := fun p => (Batch.grew_cell hblk' p).trans (hcell' 0 _ (by rw [hf']; rfl))
                      have v1 : ∀ p, (Batch.grew wr p).cell? ⟨blk', off' + k * 3 + 1, none⟩ = some (.int .i64 L'.bundles[k].number) := fun p => (Batch.grew_cell hblk' p).trans (by rw [Nat.add_assoc]; exact hcell' 1 _ (by rw [hf']; rfl))
                      have v2 : ∀ p, (Batch.grew wr p).cell? ⟨blk', off' + k * 3 + 2, none⟩ = some (.slice SB tn tc) := fun p => (Batch.grew_cell hblk' p).trans (by rw [Nat.add_assoc]; exact hcell' 2 _ (by rw [← ht0]; rfl))
                      have hc := fun p => bsame_any L.bundles[k].domain L'.bundles[k].domain L.bundles[k].number L'.bundles[k].number SA sn sc L.bundles[k].keys SB tn tc L'.bundles[k].keys (Batch.grew wr p) (hs2.below (G p)) (ht2.below (G p)) (Nat.le_trans hs1.1 hs1.2.1) (Nat.le_trans ht1.1 ht1.2.1)
                      unfold tx nm at hc
                      have hi : (k : Int) < (n6 : Int) := by omega
                      clear hcell hcell' hs0 ht0
                      by_cases hab : L.bundles[k] = L'.bundles[k]
                      · have HT2 := Lib.hid (take_step HT.out hkL hkM hab)
                        have HC : Hid (∀ p, Calls Tryz.prog 31 #[.agg #[.string (str L.bundles[k].domain), .int .i64 L.bundles[k].number, .slice SA sn sc], .agg #[.string (str L'.bundles[k].domain), .int .i64 L'.bundles[k].number, .slice SB tn tc]] (Batch.grew wr p) fun e w' => e = .returned (.bool true) ∧ Below (Batch.grew wr p).heap.size (Batch.grew wr p) w') := Lib.hid fun p => (hc p).mono fun e w' ⟨r, h1, h2, h3⟩ => ⟨by rw [h1, h2.2 (by rw [hab]; exact ⟨rfl, rfl, rfl⟩)], h3⟩
                        clear hc hab hf hf' hs2 ht2
                        generalize L.bundles[k].domain = X0 at *
                        generalize L.bundles[k].number = X1 at *
                        generalize L'.bundles[k].domain = Y0 at *
                        generalize L'.bundles[k].number = Y1 at *
                        go_wp2_with fail
                        refine Batch.wp_region_grew (by kernel_rfl) (by kernel_rfl) ?_
                        repeat (go_big_quiet_step (first | (go_at_call 31; exact Batch.calls_grew (HC.out _)) | fail))
                        refine wpQuiet_nil ?_
                        rintro _ ⟨px, rfl⟩
                        have gx := G px
                        clear G q0' p0' u0 u1 u2 v0 v1 v2 HC q0 p0
                        generalize Batch.grew wr px = w5 at *
                        go_wp2_with fail
                        go_roundw
                        case rel => exact ⟨k + 1, by omega, by go_num, HT2, hb.trans (gx.mono hb.size), a0.below gx, a1.below gx⟩
                        case measure => simp [intOf]; omega
                      · have hx : Hid (¬ L = L') := Lib.hid (fun e => hab (by subst e; rfl))
                        have HC : Hid (∀ p, Calls Tryz.prog 31 #[.agg #[.string (str L.bundles[k].domain), .int .i64 L.bundles[k].number, .slice SA sn sc], .agg #[.string (str L'.bundles[k].domain), .int .i64 L'.bundles[k].number, .slice SB tn tc]] (Batch.grew wr p) fun e w' => e = .returned (.bool false) ∧ Below (Batch.grew wr p).heap.size (Batch.grew wr p) w') := Lib.hid fun p => (hc p).mono fun e w' ⟨r, h1, h2, h3⟩ => ⟨by rw [h1]; cases r; exact rfl; exact absurd (h2.1 rfl) (fun e => hab (bundle_eq e.1 e.2.1 e.2.2)), h3⟩
                        clear hc hab hf hf' hs2 ht2
                        generalize L.bundles[k].domain = X0 at *
                        generalize L.bundles[k].number = X1 at *
                        generalize L'.bundles[k].domain = Y0 at *
                        generalize L'.bundles[k].number = Y1 at *
                        go_wp2_with fail
                        refine Batch.wp_region_grew (by kernel_rfl) (by kernel_rfl) ?_
                        repeat (go_big_quiet_step (first | (go_at_call 31; exact Batch.calls_grew (HC.out _)) | fail))
                        refine wpQuiet_nil ?_
                        rintro _ ⟨px, rfl⟩
                        have gx := G px
                        clear G q0' p0' u0 u1 u2 v0 v1 v2 HC q0 p0
                        generalize Batch.grew wr px = w5 at *
                        go_wp2_with fail
                        go_ret
                        exact .no (Lib.hid fun e => hx.out (HP.out.mp e)) (hb.trans (gx.mono hb.size))
                    · have hkn : k = n6 := by omega
                      have HT' := HT.out
                      rw [hkn] at HT'
                      have HN6 := Lib.hid (take_all HT' HE.out.2.2.1 HE.out.2.2.2)
                      clear HT HT'
                      have hi : ¬ ((k : Int) < (n6 : Int)) := by omega
                      go_wp2_with fail
                      go_ret
                      exact .yes (Lib.hid (HP.out.mpr (ledger_eq HN1.out HN2.out HBB.out HN4.out HN5.out HN6.out))) hb
end Go.Proofs.YtmbpnkacggngkaaGreatDoor
/- THE WALK of the reference's SameOp, at two operations of the same content. -/
namespace Go.Proofs.YtmbpnkacggngkaaGreatDoor
open Go.RowKit Mem Led

theorem opCells_entry (o : Led.Op) (sv kv : Value) : (opCells o sv kv).length = 24 := rfl
/-- A ledger of one entry, in a list of its own. -/
theorem lg_one {w : World} (e : Led.Entry) {A : Option Addr} {n c : Nat} (hf : Fit n c A) (ht : Ts w A n e.sels) (g : Nat) (hb : Blk w g [nm e.n, tx e.path, tx e.parent, nm e.ttl, .slice A n c] 36) :
    LgAt w [.slice (some ⟨g, 0, none⟩) 1 1, .slice none 0 0, .slice none 0 0, .slice none 0 0, .slice none 0 0, .slice none 0 0] ⟨[e], [], [], [], [], []⟩ [(e, .slice A n c)] [] := by
  refine ⟨⟨_, _, _, _, _, _, rfl, ⟨_, _, _, rfl, ⟨by omega, by omega, fun h => by cases h⟩, ?_⟩, ⟨_, _, _, rfl, ⟨by omega, by omega, fun _ => rfl⟩, Es.empty _ _⟩, ⟨_, _, _, rfl, ⟨by omega, by omega, fun _ => rfl⟩, Ts.empty _ _⟩, ⟨_, _, _, rfl, ⟨by omega, by omega, fun _ => rfl⟩, Es.empty _ _⟩, ⟨_, _, _, rfl, ⟨by omega, by omega, fun _ => rfl⟩, Es.empty _ _⟩, ⟨_, _, _, rfl, ⟨by omega, by omega, fun _ => rfl⟩, Es.empty _ _⟩⟩, rfl, rfl, ?_, fun p hp => by cases hp⟩
  · refine ⟨rfl, fun j u hj => ⟨_, rfl, hb.lt, ?_⟩⟩
    rw [zero_add_, hb.cell j]
    exact hj
  · intro p hp
    simp at hp
    subst hp
    exact ⟨A, n, c, rfl, hf, ht⟩
set_option maxRecDepth 100000 in
set_option maxHeartbeats 8000000 in
theorem sameop_same (o : Led.Op) (As : Option Addr) (ns cS : Nat) (Ak : Option Addr) (nk cK : Nat) (As' : Option Addr) (ns' cS' : Nat) (Ak' : Option Addr) (nk' cK' : Nat) (w : World)
    (fs : Fit ns cS As) (hs : Ts w As ns o.entry.sels) (fk : Fit nk cK Ak) (hk : Es jwkRow 2 w Ak nk o.bundle.keys) (fs' : Fit ns' cS' As') (hs' : Ts w As' ns' o.entry.sels) (fk' : Fit nk' cK' Ak') (hk' : Es jwkRow 2 w Ak' nk' o.bundle.keys) :
    Calls Tryz.prog 20 #[.agg (opCells o (.slice As ns cS) (.slice Ak nk cK)).toArray, .agg (opCells o (.slice As' ns' cS') (.slice Ak' nk' cK')).toArray] w fun e w' => e = .returned (.bool true) ∧ Below w.heap.size w w' := by
  obtain ⟨W, hW⟩ : ∃ W, (w.alloc (.cells (opCells o (.slice As ns cS) (.slice Ak nk cK)).toArray 47)).alloc (.cells (opCells o (.slice As' ns' cS') (.slice Ak' nk' cK')).toArray 47) = W := ⟨_, rfl⟩
  have b0 : Blk W w.heap.size (opCells o (.slice As ns cS) (.slice Ak nk cK)) 47 := by rw [← hW]; exact (Blk.new w _ _).alloc _
  have b1 : Blk W (w.heap.size + 1) (opCells o (.slice As' ns' cS') (.slice Ak' nk' cK')) 47 := by
    have := Blk.new (w.alloc (.cells (opCells o (.slice As ns cS) (.slice Ak nk cK)).toArray 47)) (opCells o (.slice As' ns' cS') (.slice Ak' nk' cK')) 47
    rw [← hW]
    simpa using this
  have hbW : Below w.heap.size w W := by rw [← hW]; exact ((Below.refl _ _).alloc (Nat.le_refl _) _).alloc (by simp) _
  have HW := Lib.hid hW
  unfold opCells at HW
  simp only [tx, nm] at HW
  clear hW
  have m3 : W.cell? ⟨w.heap.size, 3, none⟩ = some (.int .i64 o.entry.n) := b0.cell 3
  have m4 : W.cell? ⟨w.heap.size, 4, none⟩ = some (.string (str o.entry.path)) := b0.cell 4
  have m5 : W.cell? ⟨w.heap.size, 5, none⟩ = some (.string (str o.entry.parent)) := b0.cell 5
  have m6 : W.cell? ⟨w.heap.size, 6, none⟩ = some (.int .i64 o.entry.ttl) := b0.cell 6
  have m7 : W.cell? ⟨w.heap.size, 7, none⟩ = some (.slice As ns cS) := b0.cell 7
  have n3 : W.cell? ⟨w.heap.size + 1, 3, none⟩ = some (.int .i64 o.entry.n) := b1.cell 3
  have n4 : W.cell? ⟨w.heap.size + 1, 4, none⟩ = some (.string (str o.entry.path)) := b1.cell 4
  have n5 : W.cell? ⟨w.heap.size + 1, 5, none⟩ = some (.string (str o.entry.parent)) := b1.cell 5
  have n6 : W.cell? ⟨w.heap.size + 1, 6, none⟩ = some (.int .i64 o.entry.ttl) := b1.cell 6
  have n7 : W.cell? ⟨w.heap.size + 1, 7, none⟩ = some (.slice As' ns' cS') := b1.cell 7
  have ha : LgAt ((W.alloc (.cells #[.int .i64 o.entry.n, .string (str o.entry.path), .string (str o.entry.parent), .int .i64 o.entry.ttl, .slice As ns cS] 36)).alloc (.cells #[.int .i64 o.entry.n, .string (str o.entry.path), .string (str o.entry.parent), .int .i64 o.entry.ttl, .slice As' ns' cS'] 36)) [.slice (some ⟨W.heap.size, 0, none⟩) 1 1, .slice none 0 0, .slice none 0 0, .slice none 0 0, .slice none 0 0, .slice none 0 0] ⟨[o.entry], [], [], [], [], []⟩ [(o.entry, .slice As ns cS)] [] := by
    refine lg_one o.entry fs (Ts.below hs (hbW.trans ?_)) _ ?_
    · exact ((Below.refl _ W).alloc (Nat.le_refl _) _ |>.alloc (by simp) _).mono hbW.size
    · exact (Blk.new W [nm o.entry.n, tx o.entry.path, tx o.entry.parent, nm o.entry.ttl, .slice As ns cS] 36).alloc _
  have hb : LgAt ((W.alloc (.cells #[.int .i64 o.entry.n, .string (str o.entry.path), .string (str o.entry.parent), .int .i64 o.entry.ttl, .slice As ns cS] 36)).alloc (.cells #[.int .i64 o.entry.n, .string (str o.entry.path), .string (str o.entry.parent), .int .i64 o.entry.ttl, .slice As' ns' cS'] 36)) [.slice (some ⟨W.heap.size + 1, 0, none⟩) 1 1, .slice none 0 0, .slice none 0 0, .slice none 0 0, .slice none 0 0, .slice none 0 0] ⟨[o.entry], [], [], [], [], []⟩ [(o.entry, .slice As' ns' cS')] [] := by
    refine lg_one o.entry fs' (Ts.below hs' (hbW.trans ?_)) _ ?_
    · exact ((Below.refl _ W).alloc (Nat.le_refl _) _ |>.alloc (by simp) _).mono hbW.size
    · have := Blk.new (W.alloc (.cells #[.int .i64 o.entry.n, .string (str o.entry.path), .string (str o.entry.parent), .int .i64 o.entry.ttl, .slice As ns cS] 36)) [nm o.entry.n, tx o.entry.path, tx o.entry.parent, nm o.entry.ttl, .slice As' ns' cS'] 36
      have e : (W.alloc (.cells #[.int .i64 o.entry.n, .string (str o.entry.path), .string (str o.entry.parent), .int .i64 o.entry.ttl, .slice As ns cS] 36)).heap.size = W.heap.size + 1 := by simp
      rw [e] at this
      exact this
  have hsame := lsame_any _ _ _ _ _ _ _ _ _ ha hb
  have hbB : Below w.heap.size w ((W.alloc (.cells #[.int .i64 o.entry.n, .string (str o.entry.path), .string (str o.entry.parent), .int .i64 o.entry.ttl, .slice As ns cS] 36)).alloc (.cells #[.int .i64 o.entry.n, .string (str o.entry.path), .string (str o.entry.parent), .int .i64 o.entry.ttl, .slice As' ns' cS'] 36)) := hbW.trans (((Below.refl _ W).alloc (Nat.le_refl _) _ |>.alloc (by simp) _).mono hbW.size)
  have c0 := (b0.alloc (.cells #[.int .i64 o.entry.n, .string (str o.entry.path), .string (str o.entry.parent), .int .i64 o.entry.ttl, .slice As ns cS] 36)).alloc (.cells #[.int .i64 o.entry.n, .string (str o.entry.path), .string (str o.entry.parent), .int .i64 o.entry.ttl, .slice As' ns' cS'] 36)
  have c1 := (b1.alloc (.cells #[.int .i64 o.entry.n, .string (str o.entry.path), .string (str o.entry.parent), .int .i64 o.entry.ttl, .slice As ns cS] 36)).alloc (.cells #[.int .i64 o.entry.n, .string (str o.entry.path), .string (str o.entry.parent), .int .i64 o.entry.ttl, .slice As' ns' cS'] 36)
  clear ha hb
  have hl0 := b0.lt
  have hl1 := b1.lt
  go_enter Tryz.func20, Tryz.ntmps20
  go_upto_region 1 with fail
  simp only [opCells, tx, nm]
  rw [HW.out]
  go_wp2_with fail
  refine hsame.mono ?_
  rintro e w1 ⟨r, rfl, hr, hb1⟩
  obtain rfl : r = true := by simpa using hr
  have d0 := c0.below hb1
  have d1 := c1.below hb1
  have hw1 : Below w.heap.size w w1 := hbB.trans (hb1.mono hbB.size)
  clear hsame c0 c1 m3 m4 m5 m6 m7 n3 n4 n5 n6 n7 b0 b1 hbB HW hb1 hr hbW
  have m21 : w1.cell? ⟨w.heap.size, 21, none⟩ = some (.string (str o.bundle.domain)) := d0.cell 21
  have m22 : w1.cell? ⟨w.heap.size, 22, none⟩ = some (.int .i64 o.bundle.number) := d0.cell 22
  have m23 : w1.cell? ⟨w.heap.size, 23, none⟩ = some (.slice Ak nk cK) := d0.cell 23
  have n21 : w1.cell? ⟨w.heap.size + 1, 21, none⟩ = some (.string (str o.bundle.domain)) := d1.cell 21
  have n22 : w1.cell? ⟨w.heap.size + 1, 22, none⟩ = some (.int .i64 o.bundle.number) := d1.cell 22
  have n23 : w1.cell? ⟨w.heap.size + 1, 23, none⟩ = some (.slice Ak' nk' cK') := d1.cell 23
  have hbs := bsame_any o.bundle.domain o.bundle.domain o.bundle.number o.bundle.number Ak nk cK o.bundle.keys Ak' nk' cK' o.bundle.keys w1 (hk.below hw1) (hk'.below hw1) (Nat.le_trans fk.1 fk.2.1) (Nat.le_trans fk'.1 fk'.2.1)
  unfold tx nm at hbs
  go_wp2_with fail
  refine hbs.mono ?_
  rintro e w2 ⟨r, rfl, hr, hb2⟩
  obtain rfl : r = true := by simpa using hr
  have f0 := d0.below hb2
  have f1 := d1.below hb2
  have hw2 : Below w.heap.size w w2 := hw1.trans (hb2.mono hw1.size)
  clear hbs m21 m22 m23 n21 n22 n23 d0 d1 hb2 hr hw1
  have p0 : w2.cell? ⟨w.heap.size, 0, none⟩ = some (.int .i64 o.kind) := f0.cell 0
  have q0 : w2.cell? ⟨w.heap.size + 1, 0, none⟩ = some (.int .i64 o.kind) := f1.cell 0
  have p1 : w2.cell? ⟨w.heap.size, 1, none⟩ = some (.int .i64 o.n) := f0.cell 1
  have q1 : w2.cell? ⟨w.heap.size + 1, 1, none⟩ = some (.int .i64 o.n) := f1.cell 1
  have p2 : w2.cell? ⟨w.heap.size, 2, none⟩ = some (.string (str o.name)) := f0.cell 2
  have q2 : w2.cell? ⟨w.heap.size + 1, 2, none⟩ = some (.string (str o.name)) := f1.cell 2
  have p8 : w2.cell? ⟨w.heap.size, 8, none⟩ = some (.string (str o.join.text)) := f0.cell 8
  have q8 : w2.cell? ⟨w.heap.size + 1, 8, none⟩ = some (.string (str o.join.text)) := f1.cell 8
  have p9 : w2.cell? ⟨w.heap.size, 9, none⟩ = some (.string (str o.join.name)) := f0.cell 9
  have q9 : w2.cell? ⟨w.heap.size + 1, 9, none⟩ = some (.string (str o.join.name)) := f1.cell 9
  have p10 : w2.cell? ⟨w.heap.size, 10, none⟩ = some (.int .i64 o.join.expires) := f0.cell 10
  have q10 : w2.cell? ⟨w.heap.size + 1, 10, none⟩ = some (.int .i64 o.join.expires) := f1.cell 10
  have p11 : w2.cell? ⟨w.heap.size, 11, none⟩ = some (.bool o.join.used) := f0.cell 11
  have q11 : w2.cell? ⟨w.heap.size + 1, 11, none⟩ = some (.bool o.join.used) := f1.cell 11
  have p12 : w2.cell? ⟨w.heap.size, 12, none⟩ = some (.string (str o.node.name)) := f0.cell 12
  have q12 : w2.cell? ⟨w.heap.size + 1, 12, none⟩ = some (.string (str o.node.name)) := f1.cell 12
  have p13 : w2.cell? ⟨w.heap.size, 13, none⟩ = some (.string (str o.node.key)) := f0.cell 13
  have q13 : w2.cell? ⟨w.heap.size + 1, 13, none⟩ = some (.string (str o.node.key)) := f1.cell 13
  have p14 : w2.cell? ⟨w.heap.size, 14, none⟩ = some (.int .i64 o.node.expires) := f0.cell 14
  have q14 : w2.cell? ⟨w.heap.size + 1, 14, none⟩ = some (.int .i64 o.node.expires) := f1.cell 14
  have p15 : w2.cell? ⟨w.heap.size, 15, none⟩ = some (.int .i64 o.node.seq) := f0.cell 15
  have q15 : w2.cell? ⟨w.heap.size + 1, 15, none⟩ = some (.int .i64 o.node.seq) := f1.cell 15
  have p16 : w2.cell? ⟨w.heap.size, 16, none⟩ = some (.string (str o.node.doc)) := f0.cell 16
  have q16 : w2.cell? ⟨w.heap.size + 1, 16, none⟩ = some (.string (str o.node.doc)) := f1.cell 16
  have p17 : w2.cell? ⟨w.heap.size, 17, none⟩ = some (.string (str o.key.kid)) := f0.cell 17
  have q17 : w2.cell? ⟨w.heap.size + 1, 17, none⟩ = some (.string (str o.key.kid)) := f1.cell 17
  have p18 : w2.cell? ⟨w.heap.size, 18, none⟩ = some (.string (str o.key.seed)) := f0.cell 18
  have q18 : w2.cell? ⟨w.heap.size + 1, 18, none⟩ = some (.string (str o.key.seed)) := f1.cell 18
  have p19 : w2.cell? ⟨w.heap.size, 19, none⟩ = some (.int .i64 o.key.state) := f0.cell 19
  have q19 : w2.cell? ⟨w.heap.size + 1, 19, none⟩ = some (.int .i64 o.key.state) := f1.cell 19
  have p20 : w2.cell? ⟨w.heap.size, 20, none⟩ = some (.int .i64 o.key.since) := f0.cell 20
  have q20 : w2.cell? ⟨w.heap.size + 1, 20, none⟩ = some (.int .i64 o.key.since) := f1.cell 20
  have hj := fun W => eql_join o.join o.join W
  have hn := fun W => eql_node o.node o.node W
  have hy := fun W => eql_key o.key o.key W
  rw [joinEq_iff.2 rfl] at hj
  rw [nodeEq_iff.2 rfl] at hn
  rw [keyEq_iff.2 rfl] at hy
  unfold joinRow tx nm at hj
  unfold nodeRow tx nm at hn
  unfold keyRow tx nm at hy
  have hnm : (o.name == o.name) = true := by rw [beq_iff_eq]
  clear f0 f1
  go_wp2_with fail
  go_ret
  exact ⟨rfl, hw2⟩
end Go.Proofs.YtmbpnkacggngkaaGreatDoor
