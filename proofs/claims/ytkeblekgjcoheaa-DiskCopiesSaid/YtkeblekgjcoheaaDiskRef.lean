/- THE REFERENCE's DISK: what it looks like, and its walks. -/
import Derived.Test.YtkeblekgjcoheaaDiskCopy
namespace Go.Proofs.Ytkeblekgjcoheaa
open Go.RowKit Mem

theorem fill_take (l : List UInt8) (k : Nat) (h : k < 128) : (fill l).take (k + 1) = (fill l).take k ++ [if h : k < l.length then l[k] else 0] := by
  rw [List.take_succ_eq_append_getElem (by rw [fill_length]; exact h)]
  congr 2
  unfold fill
  by_cases hk : k < l.length
  · rw [List.getElem_append_left (by simp; omega)]
    simp [hk]
  · rw [List.getElem_append_right (by simp; omega)]
    simp [hk]

set_option maxRecDepth 100000 in
set_option maxHeartbeats 1000000 in
theorem fill_any (A : Option Addr) (n c B : Nat) (l : List UInt8) (w : World) (hd : Bs w B A n l) (hB : B ≤ w.heap.size) :
    Calls Try.prog 15 #[.slice A n c] w fun e w' => e = .returned (.string (str (fill l))) ∧ Below w.heap.size w w' := by
  obtain ⟨i0, hi, hz0, hz1, hz2⟩ := info_parts info8
  have hln := hd.len
  go_enter Try.func15, Try.ntmps15
  go_wp2
  go_loopw [3, 4] (fun v i wr => ∃ (k : Nat) (A : Option Addr) (c : Nat), k ≤ 128 ∧ i = .int .i64 k ∧ v = .slice A k c ∧ wr.ownsRow w.heap.size 5 1 (.slice A k c) k (bv ((fill l).take k)) ∧ Below w.heap.size w wr) (fun _ i _ => 128 - (intOf i).toNat)
  case atStart => exact ⟨0, none, 0, by omega, rfl, rfl, World.ownsRow_nil _ _ _ _, Below.refl _ _⟩
  case round =>
    obtain ⟨k, A1, c1, hk, rfl, rfl, hown, hb⟩ := hrel
    by_cases hlt : k < 128
    · have hB1 : w.heap.size ≤ wr.heap.size := hb.size
      have h63 : k + 1 ≤ maxLen := by unfold maxLen; omega
      have hft := fill_take l k hlt
      by_cases hkn : k < n
      · obtain ⟨ad, hl, rfl, hblk, hc⟩ := (hd.next hB hb).at_ hkn
        rw [dif_pos hl] at hft
        have e : bv ((fill l).take (k + 1)) = bv ((fill l).take k) ++ [.int .u8 (l[k].toNat : Int)] := by
          rw [hft, bv_append]
          rfl
        have HF := Lib.hid e
        clear hft e
        go_wp2_with (at_builtin; go_must (refine wpList_push rfl (.tmp 18) (.tmp 20) 23 rfl w.heap.size i0 (.int .u8 0) 1 Try.underlying23 hi hz0 hz1 hz2 rfl _ _ _ rfl hown rfl rfl h63 (by omega) hB1 ?_))
        intro A' c' w2 hown' g1' g2' hgr
        have hb2 := below_push hb hgr hB1 hown (Nat.le_refl _)
        have hown2 : w2.ownsRow w.heap.size 5 1 (.slice A' (k + 1) c') (k + 1) (bv ((fill l).take (k + 1))) := by
          rw [HF.out]
          exact hown'
        clear hown hgr hb hown'
        go_wp2
        go_roundw
        case rel => exact ⟨k + 1, A', c', by omega, by go_num, rfl, hown2, hb2⟩
        case measure => simp [intOf]; omega
      · rw [dif_neg (by omega)] at hft
        have e : bv ((fill l).take (k + 1)) = bv ((fill l).take k) ++ [.int .u8 0] := by
          rw [hft, bv_append]
          rfl
        have HF := Lib.hid e
        clear hft e
        go_wp2_with (at_builtin; go_must (refine wpList_push rfl (.tmp 18) (.tmp 20) 23 rfl w.heap.size i0 (.int .u8 0) 1 Try.underlying23 hi hz0 hz1 hz2 rfl _ _ _ rfl hown rfl rfl h63 (by omega) hB1 ?_))
        intro A' c' w2 hown' g1' g2' hgr
        have hb2 := below_push hb hgr hB1 hown (Nat.le_refl _)
        have hown2 : w2.ownsRow w.heap.size 5 1 (.slice A' (k + 1) c') (k + 1) (bv ((fill l).take (k + 1))) := by
          rw [HF.out]
          exact hown'
        clear hown hgr hb hown'
        go_wp2
        go_roundw
        case rel => exact ⟨k + 1, A', c', by omega, by go_num, rfl, hown2, hb2⟩
        case measure => simp [intOf]; omega
    · obtain rfl : k = 128 := by omega
      have hx := conv (Bs.of_own hown) c1
      rw [List.take_of_length_le (by rw [fill_length]; omega)] at hx
      go_wp2
      go_ret
      exact ⟨rfl, hb⟩

/-- What a disk of the reference's looks like: the struct in block q, its texts in block r. -/
structure IsRef (w : World) (q r : Nat) (d : DS) : Prop where
  c0 : ∃ c, d.secs.length ≤ c ∧ w.cell? ⟨q, 0, none⟩ = some (.slice (some ⟨r, 0, none⟩) d.secs.length c)
  c1 : w.cell? ⟨q, 1, none⟩ = some (.int .i64 (d.writes : Int))
  c2 : w.cell? ⟨q, 2, none⟩ = some (.bool d.down)
  c3 : ∃ a : Int, w.cell? ⟨q, 3, none⟩ = some (.int .i64 a) ∧ (d.left = none → a = -1) ∧ (∀ n t, d.left = some (n, t) → a = (n : Int) ∧ a ≤ 9223372036854775807)
  c4 : ∃ s, w.cell? ⟨q, 4, none⟩ = some (.string s) ∧ ∀ n t, d.left = some (n, t) → s = str t
  secs : ∀ i, (h : i < d.secs.length) → w.cell? ⟨r, i, none⟩ = some (.string (str d.secs[i]))
  qf : ∀ o, w.frozen? ⟨q, o, none⟩ = false
  rf : ∀ o, w.frozen? ⟨r, o, none⟩ = false
  ne : q ≠ r
  qlt : q < w.heap.size
  rlt : r < w.heap.size
  max : d.secs.length ≤ 256

theorem IsRef.chg {w w' : World} {q r : Nat} {d : DS} {S : List Nat} (h : IsRef w q r d) (hc : Chg S w w') (hq : q ∉ S) (hr : r ∉ S) : IsRef w' q r d := by
  have kq : ∀ o, w'.cell? ⟨q, o, none⟩ = w.cell? ⟨q, o, none⟩ := fun o => hc.cell (p := ⟨q, o, none⟩) h.qlt hq
  have kr : ∀ o, w'.cell? ⟨r, o, none⟩ = w.cell? ⟨r, o, none⟩ := fun o => hc.cell (p := ⟨r, o, none⟩) h.rlt hr
  obtain ⟨c, c1, c2⟩ := h.c0
  obtain ⟨a, a1, a2⟩ := h.c3
  obtain ⟨s, s1, s2⟩ := h.c4
  exact ⟨⟨c, c1, (kq 0).trans c2⟩, (kq 1).trans h.c1, (kq 2).trans h.c2, ⟨a, (kq 3).trans a1, a2⟩, ⟨s, (kq 4).trans s1, s2⟩, fun i hi => (kr i).trans (h.secs i hi),
    fun o => (hc.frozen (p := ⟨q, o, none⟩) h.qlt hq).trans (h.qf o), fun o => (hc.frozen (p := ⟨r, o, none⟩) h.rlt hr).trans (h.rf o), h.ne, Nat.lt_of_lt_of_le h.qlt hc.size, Nat.lt_of_lt_of_le h.rlt hc.size, h.max⟩

section
variable {w : World} {q r : Nat} {d : DS}
set_option maxHeartbeats 400000 in
theorem refup_any (h : IsRef w q r d) : Calls Try.prog 25 #[.pointer (some ⟨q, 0, none⟩)] w fun e w' => e = .returned (.tuple #[]) ∧ IsRef w' q r d.up ∧ Chg [q, r] w w' := by
  have h2 := h.c2
  obtain ⟨a, h3, _⟩ := h.c3
  have hf := h.qf
  go_enter Try.func25, Try.ntmps25
  go_wp2
  go_end0
  have hch := ((Chg.refl [q, r] w).setCell (p := ⟨q, 2, none⟩) (.inl (by simp)) (.bool false)).setCell (p := ⟨q, 3, none⟩) (.inl (by simp)) (.int .i64 (-1))
  have hp : ∀ k, k ≠ 2 → k ≠ 3 → ((w.setCell ⟨q, 2, none⟩ (.bool false)).setCell ⟨q, 3, none⟩ (.int .i64 (-1))).cell? ⟨q, k, none⟩ = w.cell? ⟨q, k, none⟩ := fun k k2 k3 =>
    (setc_ne _ _ _ _ _ (Ne.symm k3)).trans (setc_ne _ _ _ _ _ (Ne.symm k2))
  obtain ⟨c, c1, c2⟩ := h.c0
  obtain ⟨s, s1, s2⟩ := h.c4
  exact ⟨rfl, ⟨⟨c, c1, (hp 0 (by omega) (by omega)).trans c2⟩, (hp 1 (by omega) (by omega)).trans h.c1, (setc_ne _ _ _ _ _ (by omega)).trans (setc_same _ _ _ _ _ h2),
    ⟨-1, setc_same _ _ _ _ _ ((setc_ne _ _ _ _ _ (by omega)).trans h3), fun _ => rfl, fun n t e => by simp [DS.up] at e⟩, ⟨s, (hp 4 (by omega) (by omega)).trans s1, fun n t e => by simp [DS.up] at e⟩,
    fun i hi => (setc_far _ _ _ _ _ _ h.ne).trans ((setc_far _ _ _ _ _ _ h.ne).trans (h.secs i hi)), fun o => by rw [World.frozen?_setCell, World.frozen?_setCell]; exact h.qf o, fun o => by rw [World.frozen?_setCell, World.frozen?_setCell]; exact h.rf o,
    h.ne, Nat.lt_of_lt_of_le h.qlt hch.size, Nat.lt_of_lt_of_le h.rlt hch.size, h.max⟩, hch⟩

theorem refread_ok (h : IsRef w q r d) (i : Nat) (hi : i < d.secs.length) (hdn : d.down = false) : Calls Try.prog 23 #[.pointer (some ⟨q, 0, none⟩), .int .i64 (i : Int)] w fun e w' => e = .returned (.tuple #[.string (str d.secs[i]), .int .i64 0]) ∧ w = w' := by
  obtain ⟨c, _, h0⟩ := h.c0
  have h2 := h.c2
  rw [hdn] at h2
  have hs := h.secs i hi
  have hle : (i : Int) < (d.secs.length : Int) := by omega
  have hmax := h.max
  go_enter Try.func23, Try.ntmps23
  go_wp2
  go_ret2
  exact ⟨rfl, rfl⟩
theorem refread_bad (h : IsRef w q r d) (i : Int) (hi : i < 0 ∨ (d.secs.length : Int) ≤ i) : Calls Try.prog 23 #[.pointer (some ⟨q, 0, none⟩), .int .i64 i] w fun e w' => e = .returned (.tuple #[.string ⟨#[]⟩, .int .i64 1]) ∧ w = w' := by
  obtain ⟨c, _, h0⟩ := h.c0
  by_cases hi0 : i < 0
  · go_enter Try.func23, Try.ntmps23
    go_wp2
    go_ret2
    exact ⟨rfl, rfl⟩
  · have hle : (d.secs.length : Int) ≤ i := by omega
    have h3 : 0 ≤ i := by omega
    clear hi hi0
    go_enter Try.func23, Try.ntmps23
    go_wp2
    go_ret2
    exact ⟨rfl, rfl⟩
theorem refread_down (h : IsRef w q r d) (i : Int) (h1 : 0 ≤ i) (hi : i < (d.secs.length : Int)) (hdn : d.down = true) : Calls Try.prog 23 #[.pointer (some ⟨q, 0, none⟩), .int .i64 i] w fun e w' => e = .returned (.tuple #[.string ⟨#[]⟩, .int .i64 26]) ∧ w = w' := by
  obtain ⟨c, _, h0⟩ := h.c0
  have h2 := h.c2
  rw [hdn] at h2
  go_enter Try.func23, Try.ntmps23
  go_wp2
  go_ret2
  exact ⟨rfl, rfl⟩
end
end Go.Proofs.Ytkeblekgjcoheaa
