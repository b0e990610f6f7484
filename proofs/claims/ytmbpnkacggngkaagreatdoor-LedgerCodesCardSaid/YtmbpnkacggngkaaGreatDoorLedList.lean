/- THE WALKS of 'numbers' and 'texts', written. -/
import Derived.Test.YtmbpnkacggngkaaGreatDoorLedMany
namespace Go.Proofs.YtmbpnkacggngkaaGreatDoor
open Go.RowKit Mem Led

/-- Pointers in a block of their own. -/
def ptrs (ps : List (Nat × Nat)) : List Value := ps.map fun p => .pointer (some ⟨p.1, p.2, none⟩)
theorem ptrs_at {ps : List (Nat × Nat)} {j : Nat} (h : j < ps.length) : (ptrs ps)[j]? = some (.pointer (some ⟨ps[j].1, ps[j].2, none⟩)) := by simp [ptrs, h]

set_option maxRecDepth 100000 in
set_option maxHeartbeats 2000000 in
theorem numbersw_any (ps : List (Nat × Nat)) (xs : List Int) (ga n : Nat) {w : World} {B gc : Nat} {v : Value} {l : List UInt8} (h : Wr w B gc v l) (ha : Blk w ga (ptrs ps) 100) (hn : ps.length = n) (hxs : xs.length = n) (hn3 : n ≤ 3)
    (hp : ∀ j, (hj : j < ps.length) → (hj' : j < xs.length) → w.cell? ⟨ps[j].1, ps[j].2, none⟩ = some (.int .i64 xs[j]) ∧ ps[j].1 ≠ gc ∧ v.ownBlock ≠ some ps[j].1)
    (hg : ga ≠ gc) (hv : v.ownBlock ≠ some ga) (hl : l.length + 65600 ≤ 140737488355328) :
    Calls Tryz.prog 66 #[.pointer (some ⟨gc, 0, none⟩), .slice (some ⟨ga, 0, none⟩) n n] w fun e w' => e = .returned (.tuple #[]) ∧ Wrote B gc v (l ++ (xs.map (le 8)).flatten) w w' := by
  go_enter Tryz.func66, Tryz.ntmps66
  go_wp2
  go_loopw [5, 8] (fun _ i wr => ∃ j : Nat, j ≤ n ∧ i = .int .i64 j ∧ Wrote B gc v (l ++ ((xs.take j).map (le 8)).flatten) w wr) (fun _ i _ => n - (intOf i).toNat)
  case atStart => exact ⟨0, by omega, rfl, by simpa using Wrote.refl h⟩
  case round =>
    obtain ⟨j, hj, rfl, v1, hW, hc, hv1⟩ := hrel
    by_cases hlt : j < n
    · obtain ⟨p1, p2, p3⟩ := hp j (by omega) (by omega)
      have hjp : j < ps.length := by omega
      have hjx : j < xs.length := by omega
      have a0 : wr.cell? ⟨ga, j, none⟩ = some (.pointer (some ⟨ps[j].1, ps[j].2, none⟩)) := (hc.cell (p := ⟨ga, j, none⟩) ha.lt (by simp [hg]; exact fun e => hv e)).trans ((ha.cell j).trans (ptrs_at hjp))
      have hlen : ∀ j, j ≤ n → (((xs.take j).map (le 8)).flatten).length = j * 8 := fun j hj => by
        rw [List.length_flatten, List.map_map]
        have : (List.map (List.length ∘ le 8) (xs.take j)) = List.replicate j 8 := by
          apply List.ext_getElem
          · simp; omega
          · intro i h1 h2
            simp [le_length]
        rw [this]
        simp
      have q1 := World.block_lt_of_cell? w _ p1
      have hnum := numw_lit 8 8 rfl (by omega) ps[j].1 ps[j].2 xs[j] hW ((hc.cell (p := ⟨ps[j].1, ps[j].2, none⟩) q1 (by simp [p2]; exact fun e => p3 e)).trans p1) p2 (fun e => by
        rcases hv1 _ e with h | h
        · exact p3 h
        · simp only [] at q1
          omega) (by rw [List.length_append, hlen j hj]; omega)
      have htk : l ++ ((xs.take (j + 1)).map (le 8)).flatten = (l ++ ((xs.take j).map (le 8)).flatten) ++ le 8 xs[j] := by
        rw [← List.take_append_getElem hjx, List.map_append, List.flatten_append, List.append_assoc]
        simp only [List.map_cons, List.map_nil, List.flatten_cons, List.flatten_nil, List.append_nil]
      generalize ps[j].1 = gp at *
      generalize ps[j].2 = kp at *
      go_wp2_with fail
      refine hnum.mono ?_
      rintro e w2 ⟨rfl, hW2⟩
      have hW3 := Wrote.trans hc hv1 hW2
      rw [← htk] at hW3
      go_wp2
      go_roundw
      case rel => exact ⟨j + 1, by omega, by go_num, hW3⟩
      case measure => simp [intOf]; omega
    · obtain rfl : j = n := by omega
      rw [List.take_of_length_le (by omega)] at hW
      go_wp2
      go_end0
      exact ⟨rfl, v1, hW, hc, hv1⟩
theorem etext_len (x : Txt) : (etext x).length ≤ 65600 := by
  unfold etext
  rw [List.length_append, le_length, List.length_take]
  omega
theorem flat_len : ∀ (xs : List Txt) (j : Nat), (((xs.take j).map etext).flatten).length ≤ j * 65600
  | [], j => by simp
  | _, 0 => by simp
  | x :: xs, j + 1 => by
    have ih := flat_len xs j
    have h := etext_len x
    simp only [List.take_succ_cons, List.map_cons, List.flatten_cons, List.length_append]
    omega
set_option maxRecDepth 100000 in
set_option maxHeartbeats 2000000 in
theorem textsw_any (ps : List (Nat × Nat)) (xs : List Txt) (ga n : Nat) {w : World} {B gc : Nat} {v : Value} {l : List UInt8} (h : Wr w B gc v l) (ha : Blk w ga (ptrs ps) 103) (hn : ps.length = n) (hxs : xs.length = n) (hn3 : n ≤ 3)
    (hp : ∀ j, (hj : j < ps.length) → (hj' : j < xs.length) → w.cell? ⟨ps[j].1, ps[j].2, none⟩ = some (.string (str xs[j])) ∧ ps[j].1 ≠ gc ∧ v.ownBlock ≠ some ps[j].1)
    (hg : ga ≠ gc) (hv : v.ownBlock ≠ some ga) (hx : ∀ x ∈ xs, x.length ≤ 9223372036854775807) (hl : l.length + 300000 ≤ 140737488355328) :
    Calls Tryz.prog 67 #[.pointer (some ⟨gc, 0, none⟩), .slice (some ⟨ga, 0, none⟩) n n] w fun e w' => e = .returned (.tuple #[]) ∧ Wrote B gc v (l ++ (xs.map etext).flatten) w w' := by
  go_enter Tryz.func67, Tryz.ntmps67
  go_wp2
  go_loopw [5, 8] (fun _ i wr => ∃ j : Nat, j ≤ n ∧ i = .int .i64 j ∧ Wrote B gc v (l ++ ((xs.take j).map etext).flatten) w wr) (fun _ i _ => n - (intOf i).toNat)
  case atStart => exact ⟨0, by omega, rfl, by simpa using Wrote.refl h⟩
  case round =>
    obtain ⟨j, hj, rfl, v1, hW, hc, hv1⟩ := hrel
    by_cases hlt : j < n
    · obtain ⟨p1, p2, p3⟩ := hp j (by omega) (by omega)
      have hjp : j < ps.length := by omega
      have hjx : j < xs.length := by omega
      have a0 : wr.cell? ⟨ga, j, none⟩ = some (.pointer (some ⟨ps[j].1, ps[j].2, none⟩)) := (hc.cell (p := ⟨ga, j, none⟩) ha.lt (by simp [hg]; exact fun e => hv e)).trans ((ha.cell j).trans (ptrs_at hjp))
      have hlen : (((xs.take j).map etext).flatten).length ≤ j * 65600 := flat_len xs j
      have q1 := World.block_lt_of_cell? w _ p1
      have hnum := textw_any ps[j].1 ps[j].2 xs[j] hW ((hc.cell (p := ⟨ps[j].1, ps[j].2, none⟩) q1 (by simp [p2]; exact fun e => p3 e)).trans p1) p2 (fun e => by
        rcases hv1 _ e with h | h
        · exact p3 h
        · simp only [] at q1
          omega) (hx _ (List.getElem_mem hjx)) (by rw [List.length_append]; omega)
      have htk : l ++ ((xs.take (j + 1)).map etext).flatten = (l ++ ((xs.take j).map etext).flatten) ++ etext xs[j] := by
        rw [← List.take_append_getElem hjx, List.map_append, List.flatten_append, List.append_assoc]
        simp only [List.map_cons, List.map_nil, List.flatten_cons, List.flatten_nil, List.append_nil]
      generalize ps[j].1 = gp at *
      generalize ps[j].2 = kp at *
      go_wp2_with fail
      refine hnum.mono ?_
      rintro e w2 ⟨rfl, hW2⟩
      have hW3 := Wrote.trans hc hv1 hW2
      rw [← htk] at hW3
      go_wp2
      go_roundw
      case rel => exact ⟨j + 1, by omega, by go_num, hW3⟩
      case measure => simp [intOf]; omega
    · obtain rfl : j = n := by omega
      rw [List.take_of_length_le (by omega)] at hW
      go_wp2
      go_end0
      exact ⟨rfl, v1, hW, hc, hv1⟩
end Go.Proofs.YtmbpnkacggngkaaGreatDoor
