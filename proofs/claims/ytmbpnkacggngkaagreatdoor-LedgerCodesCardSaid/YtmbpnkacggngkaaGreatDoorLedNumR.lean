/- THE WALK of a number that is read. -/
import Derived.Test.YtmbpnkacggngkaaGreatDoorLedNum
import Derived.Laws.BitsLemmas
namespace Go.Proofs.YtmbpnkacggngkaaGreatDoor
open Go.RowKit Mem Led

/-- A coder that reads: the bytes that are left, and whether there were too few. -/
structure Rd (w : World) (B gc : Nat) (s : St) : Prop where
  ex : ∃ A n c, Blk w gc [.slice A n c, .bool true, .bool s.2] 86 ∧ n ≤ c ∧ Bs w B A n s.1
  lt : B ≤ gc
theorem Rd.chg {w w' : World} {B gc : Nat} {s : St} {S : List Nat} (h : Rd w B gc s) (hc : Chg S w w') (hg : gc ∉ S) (hS : ∀ b, b ∈ S → B ≤ b) : Rd w' B gc s := by
  obtain ⟨A, n, c, h1, h2, h3⟩ := h.ex
  have hlt := h.lt
  have := h1.lt
  exact ⟨⟨A, n, c, h1.chg hc hg, h2, h3.chg hc (by omega) hS⟩, hlt⟩
theorem Rd.glt {w : World} {B gc : Nat} {s : St} (h : Rd w B gc s) : gc < w.heap.size := by
  obtain ⟨A, n, c, h1, _⟩ := h.ex
  exact h1.lt
theorem run_shl {P : Program} (x : Int) (j : Nat) (hj : j < 8) (w : World) : (Op.shift .shl .i64 x .i64 (IntKind.i64.wrap (8 * (j : Int)))).run P w = .ok (.int .i64 (IntKind.i64.wrap (x * 2 ^ (8 * j)))) w := by
  have hw : IntKind.i64.wrap (8 * (j : Int)) = 8 * (j : Int) := by rw [IntKind.wrap_i64]; omega
  unfold Op.shift
  rw [hw, if_neg (by omega)]
  have hn : min (8 * (j : Int)).toNat IntKind.i64.bits = 8 * j := by
    show min (8 * (j : Int)).toNat 64 = 8 * j
    omega
  simp only [hn]
  rfl
theorem ofInt_wrap {z : Nat} (hz : z < 18446744073709551616) : (BitVec.ofInt 64 (IntKind.i64.wrap (z : Int))).toNat = z := by
  rw [BitVec.toNat_ofInt, IntKind.wrap_i64]
  obtain ⟨M, hM⟩ : ∃ M : Nat, 2 ^ 64 = M := ⟨_, rfl⟩
  rw [hM]
  have h2 : M = 18446744073709551616 := by rw [← hM]
  clear hM
  subst h2
  omega
theorem wrap_sg {z : Nat} (hz : z < 18446744073709551616) : IntKind.i64.wrap (z : Int) = sg z := by
  rw [IntKind.wrap_i64]
  unfold sg
  split <;> omega
theorem or_high (a c i p : Nat) (hp2 : 2 ^ i = p) (hp : p ≤ 72057594037927936) (ha : a < p) (hc : c < 256) : Go.bits .or .i64 (a : Int) (IntKind.i64.wrap ((c : Int) * (p : Int))) = sg (a + c * p) := by
  have hz : ((c : Int) * (p : Int)) = ((p * c : Nat) : Int) := by
    rw [Nat.mul_comm, Int.natCast_mul]
  have hm : p * c ≤ p * 255 := Nat.mul_le_mul_left _ (by omega)
  have e2 := Nat.two_pow_add_eq_or_of_lt (i := i) (b := a) (by omega) c
  rw [hp2] at e2
  rw [hz, Nat.mul_comm c]
  generalize p * c = z at *
  clear hz
  have hz1 : z < 18446744073709551616 := by omega
  have ha1 : a < 18446744073709551616 := by omega
  have hw := wrap_sg (z := z + a) (by omega)
  have e1 := ofInt_wrap hz1
  have e3 : (BitVec.ofInt 64 (a : Int)).toNat = a := by
    have h := ofInt_wrap ha1
    have : IntKind.i64.wrap (a : Int) = a := by rw [IntKind.wrap_i64]; omega
    rw [this] at h
    exact h
  show IntKind.i64.wrap (((BitVec.ofInt 64 (a : Int)) ||| BitVec.ofInt 64 (IntKind.i64.wrap (z : Int))).toNat : Int) = _
  rw [BitVec.toNat_or, e1, e3, Nat.or_comm, ← e2, hw, Nat.add_comm]
theorem un_append : ∀ (a b : Txt), un (a ++ b) = un a + 256 ^ a.length * un b
  | [], b => by simp [un]
  | x :: a, b => by
    have ih := un_append a b
    simp only [List.cons_append, un, ih, List.length_cons, Nat.pow_succ]
    have : 256 ^ a.length * 256 * un b = 256 * (256 ^ a.length * un b) := by
      rw [Nat.mul_comm (256 ^ a.length) 256, Nat.mul_assoc]
    omega
theorem un_snoc (t : Txt) (c : UInt8) : un (t ++ [c]) = un t + c.toNat * 256 ^ t.length := by
  rw [un_append]
  simp [un, Nat.mul_comm]
theorem or_byte (t : Txt) (c : UInt8) (j : Nat) (h : t.length = j) (hj : j < 8) : Go.bits .or .i64 (sg (un t)) (IntKind.i64.wrap ((c.toNat : Int) * 2 ^ (8 * j))) = sg (un (t ++ [c])) := by
  have h1 := un_lt t
  rw [h] at h1
  have h2 : (256 : Nat) ^ j = 2 ^ (8 * j) := by rw [Nat.pow_mul]
  have h3 : (256 : Nat) ^ j ≤ 256 ^ 7 := Nat.pow_le_pow_right (by omega) (by omega)
  have h4 : (2 : Int) ^ (8 * j) = ((256 ^ j : Nat) : Int) := pow_two j
  rw [un_snoc, h, h4, sg_small (by omega)]
  exact or_high (un t) c.toNat (8 * j) (256 ^ j) h2.symm h3 h1 c.toNat_lt

/-- What a call that reads a number leaves. -/
def ReadNum (B gc gp kp : Nat) (cs : List Value) (t : TypeId) (k : Nat) (s : St) (w w' : World) : Prop :=
  Rd w' B gc (rnum k s).2 ∧ Blk w' gp (cs.set kp (.int .i64 (rnum k s).1)) t ∧ Chg [gc, gp] w w'

set_option maxRecDepth 100000 in
set_option maxHeartbeats 2000000 in
theorem numr_any (k : Nat) (hk : k ≤ 8) (gp kp : Nat) {w : World} {B gc : Nat} {s : St} {cs : List Value} {t : TypeId} (h : Rd w B gc s) (hb : Blk w gp cs t) (hkp : kp < cs.length)
    (hg : gp ≠ gc) (hB : B ≤ gp) (hl : s.1.length ≤ 140737488355328) :
    Calls Tryz.prog 65 #[.pointer (some ⟨gc, 0, none⟩), .int .i64 (k : Int), .pointer (some ⟨gp, kp, none⟩)] w fun e w' => e = .returned (.tuple #[]) ∧ ReadNum B gc gp kp cs t k s w w' := by
  obtain ⟨l, sh⟩ := s
  obtain ⟨A, n, c, h1, h2, h3⟩ := h.ex
  have hglt := h1.lt
  have hplt := hb.lt
  have hBc := h.lt
  have c1 : w.cell? ⟨gc, 1, none⟩ = some (.bool true) := h1.cell 1
  obtain ⟨v0, hv0⟩ : ∃ v0, w.cell? ⟨gp, kp, none⟩ = some v0 := ⟨_, (hb.cell kp).trans (List.getElem?_eq_getElem hkp)⟩
  have f0 : w.frozen? ⟨gp, kp, none⟩ = false := hb.froz kp
  go_enter Tryz.func65, Tryz.ntmps65
  go_wp2
  go_loopw [7, 37] (fun _ i wr => ∃ j : Nat, j ≤ k ∧ j ≤ l.length ∧ i = .int .i64 j ∧ Blk wr gp (cs.set kp (.int .i64 (sg (un (l.take j))))) t ∧ Chg [gp] w wr) (fun _ i _ => k - (intOf i).toNat)
  case atStart => exact ⟨0, by omega, by omega, rfl, hb.set kp _, (Chg.refl _ _).setCell (.inl (by simp)) _⟩
  case round =>
    obtain ⟨j, hj, hjl, rfl, hbr, hc⟩ := hrel
    have h1r := h1.chg hc (by simpa using Ne.symm hg)
    have d0 : wr.cell? ⟨gc, 0, none⟩ = some (.slice A n c) := h1r.cell 0
    have df : ∀ k, wr.frozen? ⟨gc, k, none⟩ = false := h1r.froz
    have d2 : wr.cell? ⟨gc, 2, none⟩ = some (.bool sh) := h1r.cell 2
    have dp : wr.cell? ⟨gp, kp, none⟩ = some (.int .i64 (sg (un (l.take j)))) := (hbr.cell kp).trans (by simp [hkp])
    have pf : wr.frozen? ⟨gp, kp, none⟩ = false := hbr.froz kp
    have h3r : Bs wr B A n l := h3.chg hc (by omega) (by simpa using hB)
    have hnl := h3.len
    by_cases hlt : j < k
    · by_cases hln : j < n
      · obtain ⟨ad, hl', rfl, hadB, hcell⟩ := h3r.at_ hln
        have hsh : ∀ W, (Op.shift .shl .i64 (l[j].toNat : Int) .i64 (IntKind.i64.wrap (8 * (j : Int)))).run Tryz.prog W = .ok (.int .i64 (IntKind.i64.wrap ((l[j].toNat : Int) * 2 ^ (8 * j)))) W := run_shl _ j (by omega)
        have hor := or_byte (l.take j) l[j] j (by simp; omega) (by omega)
        rw [List.take_append_getElem hl'] at hor
        have hwr : wrap64 (wrap64 (l[j].toNat : Int) * 2 ^ (8 * j)) = IntKind.i64.wrap ((l[j].toNat : Int) * 2 ^ (8 * j)) := by
          have hb := l[j].toNat_lt
          have e1 : wrap64 (l[j].toNat : Int) = l[j].toNat := by unfold wrap64; omega
          rw [e1]
          unfold wrap64
          rw [IntKind.wrap_i64]
        rw [← hwr] at hor
        have HOR := Lib.hid hor
        have hnew : ∀ u, Blk (wr.drew.setCell ⟨gp, kp, none⟩ u) gp (cs.set kp u) t := fun u => by
          have := hbr.drew.set kp u
          rw [List.set_set] at this
          exact this
        have hcn : ∀ u, Chg [gp] w (wr.drew.setCell ⟨gp, kp, none⟩ u) := fun u => hc.drew.setCell (.inl (by simp)) _
        generalize sg (un (l.take j)) = cur at *
        clear h3 h1 h h1r h3r hor hwr
        go_wp2_with fail
        go_region
        all_goals
          go_wp2
          go_roundw
          case rel => exact ⟨j + 1, by omega, by omega, by go_num, by rw [HOR.out]; exact hnew _, hcn _⟩
          case measure => simp [intOf]; omega
      · have hjn : j = n := by omega
        have ht : l.take j = l := by rw [List.take_of_length_le (by omega)]
        rw [ht] at hbr
        have hnum : rnum k (l, sh) = (sg (un l), ([], true)) := by
          unfold rnum
          simp only []
          rw [List.take_of_length_le (by omega), if_neg (by omega)]
        have hfin : ReadNum B gc gp kp cs t k (l, sh) w ((wr.setCell ⟨gc, 2, none⟩ (.bool true)).setCell ⟨gc, 0, none⟩ (.slice none 0 0)) := by
          unfold ReadNum
          rw [hnum]
          refine ⟨⟨⟨none, 0, 0, (h1r.set 2 _).set 0 _, Nat.le_refl _, Bs.empty _ _ _⟩, hBc⟩, (hbr.set_ne hg _).set_ne hg _, ?_⟩
          exact ((hc.mono (S' := [gc, gp]) (by simp)).setCell (.inl (by simp)) _).setCell (.inl (by simp)) _
        have HF := Lib.hid hfin
        clear hfin hnum ht h3 h1 h h1r h3r
        go_wp2
        refine bodyPost_ret (results_none rfl _ _ _) rfl ?_
        exact ⟨rfl, HF.out⟩
    · obtain rfl : j = k := by omega
      have hkl : j ≤ n := by omega
      have hnum : rnum j (l, sh) = (sg (un (l.take j)), (l.drop j, sh)) := by
        unfold rnum
        simp only []
        rw [if_pos (by omega)]
      have hdr := h3r.drop hkl h2
      have hfin : ∀ A', A' = (if c = j then A else A.map (·.add j)) → ReadNum B gc gp kp cs t j (l, sh) w (wr.setCell ⟨gc, 0, none⟩ (.slice A' (n - j) (c - j))) := by
        rintro A' rfl
        unfold ReadNum
        rw [hnum]
        refine ⟨⟨⟨_, _, _, h1r.set 0 _, by omega, ?_⟩, hBc⟩, hbr.set_ne hg _, (hc.mono (S' := [gc, gp]) (by simp)).setCell (.inl (by simp)) _⟩
        exact hdr.keep fun p hp => World.cell?_setCell_other _ _ _ _ (fun e => by subst e; simp at hp; omega)
      by_cases hcj : c = j
      · have h0 := hfin A (by rw [if_pos hcj])
        rw [show n - j = 0 by omega, show c - j = 0 by omega] at h0
        have HF := Lib.hid h0
        have hj2 : j ≤ c := by omega
        clear hfin hnum h3 h1 h h1r h3r hdr h0
        subst hcj
        go_wp2
        go_end0
        exact ⟨rfl, HF.out⟩
      · have h0 := hfin (A.map fun x => x.add j) (by rw [if_neg hcj])
        have HF := Lib.hid h0
        have hj2 : j ≤ c := by omega
        clear hfin hnum h3 h1 h h1r h3r hdr h0
        go_wp2
        go_end0
        exact ⟨rfl, HF.out⟩
end Go.Proofs.YtmbpnkacggngkaaGreatDoor
