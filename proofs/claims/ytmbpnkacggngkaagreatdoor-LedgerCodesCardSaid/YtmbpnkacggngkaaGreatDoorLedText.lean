/- THE WALK of a text that is written. -/
import Derived.Test.YtmbpnkacggngkaaGreatDoorLedNumR
namespace Go.Proofs.YtmbpnkacggngkaaGreatDoor
open Go.RowKit Mem Led

theorem Wr.drew {w : World} {B gc : Nat} {v : Value} {l : List UInt8} (h : Wr w B gc v l) : Wr w.drew B gc v l := ⟨h.own.drew, h.blk.drew, h.lt, h.hB⟩
theorem Wr.alloc {w : World} {B gc : Nat} {v : Value} {l : List UInt8} (h : Wr w B gc v l) (o : Obj) : Wr (w.alloc o) B gc v l := ⟨h.own.alloc o, h.blk.alloc o, h.lt, by have := h.hB; simp; omega⟩
theorem Wr.ne {w : World} {B gc : Nat} {v : Value} {l : List UInt8} (h : Wr w B gc v l) : v.ownBlock ≠ some w.heap.size := fun e => by
  have := (h.own.lt _ e).2
  omega
theorem Wrote.trans {B gc : Nat} {v : Value} {l : List UInt8} {a w w' : World} {v1 : Value} (hc : Chg (gc :: v.ownBlock.toList) a w) (hv1 : ∀ b, v1.ownBlock = some b → v.ownBlock = some b ∨ a.heap.size ≤ b) (h : Wrote B gc v1 l w w') : Wrote B gc v l a w' := by
  obtain ⟨v', hW, hc2, hv2⟩ := h
  have hz := hc.size
  refine ⟨v', hW, hc.trans hc2 fun s hs => ?_, fun b hb => ?_⟩
  · simp at hs
    rcases hs with rfl | hs
    · exact .inl (by simp)
    · rcases hv1 s hs with h | h
      · exact .inl (by simp [h])
      · exact .inr h
  · rcases hv2 b hb with h | h
    · exact hv1 b h
    · exact .inr (by omega)
/-- Behind what was laid ahead of the call. -/
theorem Wrote.after {B gc : Nat} {v : Value} {l : List UInt8} {a w w' : World} (hb : Below a.heap.size a w) (h : Wrote B gc v l w w') : Wrote B gc v l a w' :=
  Wrote.trans (Chg.of_below hb) (fun _ h => .inl h) h
theorem and_low (n k : Nat) (hn : n ≤ 9223372036854775807) (hk : k ≤ 63) : Go.bits .and .i64 (n : Int) (2 ^ k - 1) = ((n % 2 ^ k : Nat) : Int) := by
  have h := bits_mask .i64 63 (by decide) (fun n h0 h1 => by rw [IntKind.wrap_i64]; omega) k hk (n : Int) (by omega) (by omega)
  rw [h]
  simp
theorem and_text (n : Nat) (hn : n ≤ 9223372036854775807) : Go.bits .and .i64 (n : Int) 65535 = ((n % 65536 : Nat) : Int) := and_low n 16 hn (by omega)
theorem and_many (n : Nat) (hn : n ≤ 9223372036854775807) : Go.bits .and .i64 (n : Int) 255 = ((n % 256 : Nat) : Int) := and_low n 8 hn (by omega)

theorem numw_lit (k : Nat) (kk : Int) (hkk : kk = k) (hk : k ≤ 8) (gp kp : Nat) (x : Int) {w : World} {B gc : Nat} {v : Value} {l : List UInt8} (h : Wr w B gc v l) (hp : w.cell? ⟨gp, kp, none⟩ = some (.int .i64 x))
    (hg : gp ≠ gc) (hv : v.ownBlock ≠ some gp) (hl : l.length + 8 ≤ 140737488355328) :
    Calls Tryz.prog 65 #[.pointer (some ⟨gc, 0, none⟩), .int .i64 kk, .pointer (some ⟨gp, kp, none⟩)] w fun e w' => e = .returned (.tuple #[]) ∧ Wrote B gc v (l ++ le k x) w w' := by
  subst hkk
  exact numw_any k hk gp kp x h hp hg hv hl
theorem numr_lit (k : Nat) (kk : Int) (hkk : kk = k) (hk : k ≤ 8) (gp kp : Nat) {w : World} {B gc : Nat} {s : St} {cs : List Value} {t : TypeId} (h : Rd w B gc s) (hb : Blk w gp cs t) (hkp : kp < cs.length)
    (hg : gp ≠ gc) (hB : B ≤ gp) (hl : s.1.length ≤ 140737488355328) :
    Calls Tryz.prog 65 #[.pointer (some ⟨gc, 0, none⟩), .int .i64 kk, .pointer (some ⟨gp, kp, none⟩)] w fun e w' => e = .returned (.tuple #[]) ∧ ReadNum B gc gp kp cs t k s w w' := by
  subst hkk
  exact numr_any k hk gp kp h hb hkp hg hB hl
theorem take_str (l : List UInt8) (k : Nat) : (str l).extract 0 k = str (l.take k) := by
  apply ByteArray.ext
  simp [str]

set_option maxRecDepth 100000 in
set_option maxHeartbeats 2000000 in
theorem textw_any (gp kp : Nat) (x : Txt) {w : World} {B gc : Nat} {v : Value} {l : List UInt8} (h : Wr w B gc v l) (hp : w.cell? ⟨gp, kp, none⟩ = some (.string (str x)))
    (hg : gp ≠ gc) (hv : v.ownBlock ≠ some gp) (hx : x.length ≤ 9223372036854775807) (hl : l.length + 65600 ≤ 140737488355328) :
    Calls Tryz.prog 69 #[.pointer (some ⟨gc, 0, none⟩), .pointer (some ⟨gp, kp, none⟩)] w fun e w' => e = .returned (.tuple #[]) ∧ Wrote B gc v (l ++ etext x) w w' := by
  obtain ⟨i8, hi8, hz8, hs8, hb8⟩ := info_parts infoU8
  have hgp : gp < w.heap.size := World.block_lt_of_cell? w _ hp
  have hgc := h.blk.lt
  have hsz : (str x).size ≤ 9223372036854775807 := by rw [str_size]; exact hx
  have hand := and_text (str x).size hsz
  obtain ⟨m, hm⟩ : ∃ m, x.length % 65536 = m := ⟨_, rfl⟩
  have hm1 : m ≤ x.length := by omega
  have hm2 : m < 65536 := by omega
  have het : l ++ etext x = (l ++ le 2 (m : Int)) ++ x.take m := by unfold etext; rw [hm, List.append_assoc]
  have HET := Lib.hid het
  rw [show (str x).size % 65536 = m by rw [str_size]; exact hm] at hand
  clear hm het
  have hw1 := h.alloc (.cells #[.int .i64 (m : Int)] 3)
  have hnum := numw_lit 2 2 rfl (by omega) w.heap.size 0 (m : Int) hw1 (by simp) (by omega) h.ne (by omega)
  go_enter Tryz.func69, Tryz.ntmps69
  go_wp2_with fail
  refine hnum.mono ?_
  rintro e w2 ⟨rfl, v2, hW2, hc2, hv2⟩
  have hz2 := hc2.size
  have hcn : w2.cell? ⟨w.heap.size, 0, none⟩ = some (.int .i64 (m : Int)) := (hc2.cell (p := ⟨w.heap.size, 0, none⟩) (by simp) (by
    have := h.ne
    simp
    exact ⟨by omega, fun e => this e⟩)).trans (by simp)
  have hxr : w2.cell? ⟨gp, kp, none⟩ = some (.string (str x)) := (hc2.cell (p := ⟨gp, kp, none⟩) (by simp; omega) (by simp [hg]; exact fun e => hv e)).trans ((World.cell?_alloc_lt w _ ⟨gp, kp, none⟩ hgp).trans hp)
  have c0 : w2.cell? ⟨gc, 0, none⟩ = some v2 := hW2.blk.cell 0
  have c1 : w2.cell? ⟨gc, 1, none⟩ = some (.bool false) := hW2.blk.cell 1
  have hwx : Chg (gc :: v.ownBlock.toList) w w2 := (Chg.of_below ((Below.refl _ _).alloc (Nat.le_refl _) _)).and hc2
  have hv2x : ∀ b, v2.ownBlock = some b → v.ownBlock = some b ∨ w.heap.size ≤ b := fun b hb => (hv2 b hb).imp id (fun h => by simp at h; omega)
  have hcut := take_str x m
  have hms : m ≤ (str x).size := by rw [str_size]; exact hm1
  have hts : (str (x.take m)).size = m := by rw [str_size, List.length_take]; omega
  have hown := hW2.own
  have hBw := hW2.hB
  have hby : (l ++ le 2 (m : Int)).length + (str (x.take m)).size ≤ 140737488355328 := by rw [hts, List.length_append, le_length]; omega
  generalize x.take m = r at *
  generalize l ++ le 2 (m : Int) = t at *
  go_wp2_with fail
  go_region_law (refine step_appendString (w := w2.drew) rfl (.tmp 21) (.tmp 26) 62 9 rfl B i8 Tryz.underlying62 Tryz.underlying9 hi8 hz8 hs8 hb8 _ _ _ rfl hown.drew (str r) rfl hby hBw ?_; intro A' c' w3 hown3 hgr hwh; obtain ⟨e0, ef, HW3⟩ := hW2.more (r := r) hwx hv2x hown3 (strCells_bv r) (Below.refl _ _).drew hgr (hwh.imp id fun h => ⟨_, h, Nat.le_refl _⟩) HET.out)
  all_goals
    clear hgr hown3 hown HET
    go_wp2
    refine bodyPost_ret (results_none rfl _ _ _) rfl ?_
    exact ⟨rfl, by rw [hts] at HW3; exact HW3⟩
end Go.Proofs.YtmbpnkacggngkaaGreatDoor
