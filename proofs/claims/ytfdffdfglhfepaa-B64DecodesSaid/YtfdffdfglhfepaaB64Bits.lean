/- THE WALKS of the reference's bits and number. -/
import Derived.Test.YtfdffdfglhfepaaB64Base
import Derived.Test.YtfdffdfglhfepaaArr
namespace Go.Proofs.Ytfdffdfglhfepaa
open Go.RowKit Mem B64

/-- Numbers as cells. -/
def iv (l : List Nat) : List Value := l.map fun (b : Nat) => .int .i64 (b : Int)
theorem iv_append (a b : List Nat) : iv (a ++ b) = iv a ++ iv b := by simp [iv]
theorem iv_length (a : List Nat) : (iv a).length = a.length := by simp [iv]
theorem iv_at (l : List Nat) (j : Nat) : (iv l)[j]? = l[j]?.map fun (b : Nat) => .int .i64 (b : Int) := by simp [iv]
theorem iv_oneCell (l : List Nat) : ∀ u ∈ iv l, u.oneCell' = true := by
  intro u hu
  obtain ⟨b, _, rfl⟩ := List.mem_map.1 hu
  rfl
theorem infoI : (Try.prog.info? 3).map (fun i => (i.zero, i.size, i.bytes)) = some (some (.int .i64 0), 1, 8) := by kernel_rfl

theorem num_take (L : List Nat) (k : Nat) (h : k < L.length) : num (L.take (k + 1)) = 2 * num (L.take k) + L[k] := by
  rw [List.take_succ_eq_append_getElem h, num_append, num_one]
  simp
  omega
theorem num_take_lt {L : List Nat} (h : IsBits L) (k : Nat) (hL : L.length ≤ 8) : num (L.take k) < 256 := by
  have h1 : IsBits (L.take k) := fun b hb => h b (List.mem_of_mem_take hb)
  refine Nat.lt_of_lt_of_le (num_lt h1) ?_
  exact Nat.le_trans (Nat.pow_le_pow_right (by omega) (show (L.take k).length ≤ 8 by simp; omega)) (by decide)

theorem number_any (A : Option Addr) (n c B : Nat) (L : List Nat) (w : World) (hd : Vs w B 1 A n (iv L)) (hL : IsBits L) (h8 : n ≤ 8) :
    Calls Try.prog 18 #[.slice A n c] w fun e w' => e = .returned (.int .i64 (num L : Int)) ∧ w = w' := by
  have hlen : L.length = n := by have := hd.len; rw [iv_length] at this; omega
  have hlt := fun k => num_take_lt hL k (by omega)
  have hstep := num_take L
  have hend : num (L.take n) = num L := by rw [← hlen, List.take_length]
  have HE := Lib.hid hend
  have HS := Lib.hid hstep
  have HT := Lib.hid hlt
  have HL := Lib.hid hlen
  clear hend hstep hlt hlen
  go_enter Try.func18, Try.ntmps18
  go_wp2
  go_loopw [3, 4] (fun v i wr => ∃ k : Nat, k ≤ n ∧ i = .int .i64 k ∧ v = .int .i64 (num (L.take k) : Int) ∧ w = wr) (fun _ i _ => n - (intOf i).toNat)
  case atStart => exact ⟨0, by omega, rfl, rfl, rfl⟩
  case round =>
    obtain ⟨k, hk, rfl, rfl, rfl⟩ := hrel
    by_cases hkn : k < n
    · obtain ⟨ad, u, rfl, hb, hu, hcell⟩ := hd.at_ hkn
      have hkL : k < L.length := by rw [HL.out]; exact hkn
      rw [iv_at, List.getElem?_eq_getElem hkL] at hu
      simp only [Option.map_some, Option.some.injEq] at hu
      subst hu
      have h1 := HS.out k hkL
      have h2 := HT.out k
      have h3 := HT.out (k + 1)
      rw [h1] at h3
      generalize L[k] = x at h1 h3 hcell
      generalize num (L.take k) = y at h1 h2 h3 ⊢
      have HZ := Lib.hid h1
      clear h1 hd
      go_wp2
      go_roundw
      case rel => exact ⟨k + 1, by omega, by go_num, by rw [HZ.out]; go_num, trivial⟩
      case measure => simp [intOf]; omega
    · obtain rfl : k = n := by omega
      rw [HE.out]
      go_wp2
      go_ret
      exact ⟨rfl, rfl⟩

theorem make_ints (w : World) (n : Nat) (h : n ≤ 256) : ∃ Z : Array Value, Z.size = n ∧ (∀ j, j < n → Z[j]? = some (.int .i64 0)) ∧ (Instr.makeSlice 43 (.int .i64 (n : Int)) (.int .i64 (n : Int))).run Try.prog w = .ok (.slice (some ⟨w.heap.size, 0, none⟩) n n) (w.alloc (.cells Z 3)) := by
  obtain ⟨i0, hi, hz0, hz1, hz2⟩ := info_parts infoI
  have hr := run_make (P := Try.prog) w 43 3 i0 _ Try.underlying43 hi hz0 .i64 .i64 (n : Int) (n : Int) (by omega) (by omega) (by rw [hz2]; omega) (by omega)
  rw [hz1] at hr
  refine ⟨_, ?_, ?_, hr⟩
  · unfold madeCells
    simp
  · intro j hj
    unfold madeCells
    rw [Array.getElem?_eq_getElem (by simpa using hj)]
    simp [Value.cells, Nat.mod_one]
/-- bits(x, k), new: to be read. -/
def GotBits (w : World) (k : Nat) (L : List Nat) (e : Ending) (w' : World) : Prop :=
  ∃ A c, e = .returned (.slice A k c) ∧ k ≤ c ∧ Vs w' w'.heap.size 1 A k (iv L) ∧ Below w.heap.size w w'
theorem drop_set (X : List Value) (j : Nat) (u : Value) (h : j < X.length) : (X.set j u).drop j = u :: X.drop (j + 1) := by
  rw [List.drop_set, if_neg (by omega), Nat.sub_self, List.drop_eq_getElem_cons h]
  rfl
set_option maxHeartbeats 1000000 in
theorem bits_any (x k : Nat) (hx : x ≤ 9223372036854775807) (hk : k ≤ 8) (w : World) : Calls Try.prog 16 #[.int .i64 (x : Int), .int .i64 (k : Int)] w (GotBits w k (B64.bits k x)) := by
  obtain ⟨Z, hZ, hZ0, hm⟩ := make_ints w k (by omega)
  have hg : (w.alloc (.cells Z 3)).heap[w.heap.size]? = some (.cells Z 3 (0, 0)) := heap_alloc_new w _
  have hfz : ∀ j, (w.alloc (.cells Z 3)).frozen? ⟨w.heap.size, j, none⟩ = false := fun j => frozen_of_row _ _ _ _ _ hg
  have hcell : ∀ j, (w.alloc (.cells Z 3)).cell? ⟨w.heap.size, j, none⟩ = Z[j]? := fun j => cell_new w _ _ (0, 0) j
  have hs0 : w.heap.size < (w.alloc (.cells Z 3)).heap.size := by simp
  have hb0 : Below w.heap.size w (w.alloc (.cells Z 3)) := (Below.refl _ _).alloc (Nat.le_refl _) _
  have start : ∃ X : List Value, X.length = k ∧ (∀ j, j < k → (w.alloc (.cells Z 3)).cell? ⟨w.heap.size, j, none⟩ = X[j]?) ∧ X.drop k = iv [] := ⟨Z.toList, by simpa using hZ, fun j hj => by rw [hcell]; simp, by simp [iv, ← hZ]⟩
  generalize hW : w.alloc (.cells Z 3) = w1 at *
  clear hW hg hcell hZ hZ0
  go_enter Try.func16, Try.ntmps16
  go_wp2
  go_loopw [0, 6] (fun v i wr => ∃ (j y : Nat) (T : List Nat), j ≤ k ∧ y ≤ 9223372036854775807 ∧ v = .int .i64 y ∧ i = .int .i64 ((j : Int) - 1) ∧ B64.bits k x = B64.bits j y ++ T ∧ (∃ X : List Value, X.length = k ∧ (∀ j, j < k → wr.cell? ⟨w.heap.size, j, none⟩ = X[j]?) ∧ X.drop j = iv T) ∧ (∀ j, wr.frozen? ⟨w.heap.size, j, none⟩ = false) ∧ w.heap.size < wr.heap.size ∧ Below w.heap.size w wr) (fun _ i _ => (intOf i + 1).toNat)
  case atStart => exact ⟨k, x, [], Nat.le_refl _, hx, rfl, rfl, by simp, start, hfz, hs0, hb0⟩
  case round =>
    obtain ⟨j, y, T, hj, hy, rfl, rfl, hbits, ⟨X, hX, hXc, hXd⟩, hfr, hsz, hb⟩ := hrel
    clear start hfz hs0 hb0 hm
    cases j with
    | zero =>
      have hv : Vs wr wr.heap.size 1 (some ⟨w.heap.size, 0, none⟩) k (iv (B64.bits k x)) := by
        rw [hbits]
        simp only [B64.bits, List.nil_append]
        rw [← hXd, List.drop_zero]
        refine ⟨by omega, fun j u hju => ⟨_, rfl, hsz, ?_⟩⟩
        have hjk : j < k := by
          rcases Nat.lt_or_ge j k with h | h
          · exact h
          · rw [List.getElem?_eq_none (by omega)] at hju
            cases hju
        rw [zero_add_, hXc j hjk, hju]
      have HV := Lib.hid hv
      clear hbits hXc hXd hv hfr
      go_wp2
      go_ret
      exact ⟨_, _, rfl, Nat.le_refl _, HV.out, hb⟩
    | succ j =>
      have hjX : j < X.length := by omega
      have c1 : wr.cell? ⟨w.heap.size, j, none⟩ = some X[j] := by rw [hXc j (by omega), List.getElem?_eq_getElem hjX]
      have f1 := hfr j
      have hj1 : ((j + 1 : Nat) : Int) - 1 = (j : Int) := by omega
      obtain ⟨z, hz⟩ : ∃ z, y % 2 = z := ⟨_, rfl⟩
      obtain ⟨q, hq⟩ : ∃ q, y / 2 = q := ⟨_, rfl⟩
      have m1 : (y : Int) % 2 = (z : Int) := by omega
      have m2 : (y : Int) / 2 = (q : Int) := by omega
      have hq2 : q ≤ 9223372036854775807 := by omega
      have nxt : ∃ X' : List Value, X'.length = k ∧ (∀ i, i < k → (wr.setCell ⟨w.heap.size, j, none⟩ (.int .i64 (z : Int))).cell? ⟨w.heap.size, i, none⟩ = X'[i]?) ∧ X'.drop j = iv (z :: T) := by
        refine ⟨X.set j (.int .i64 (z : Int)), by simpa using hX, fun i hi => ?_, ?_⟩
        · by_cases hij : j = i
          · subst hij
            rw [setc_same wr _ _ _ _ c1]
            simp [hjX]
          · rw [setc_ne wr _ _ _ _ hij, hXc i hi, List.getElem?_set_ne hij]
        · rw [drop_set X j _ hjX, hXd]
          rfl
      have hbits' : B64.bits k x = B64.bits j q ++ z :: T := by
        rw [hbits]
        simp [B64.bits, hz, hq]
      have hsc : Chg [] w (wr.setCell ⟨w.heap.size, j, none⟩ (.int .i64 (z : Int))) := (Chg.of_below hb).setCell (.inr (Nat.le_refl _)) _
      have hb' : Below w.heap.size w (wr.setCell ⟨w.heap.size, j, none⟩ (.int .i64 (z : Int))) := hsc.below (by simp)
      have hf' : ∀ i, (wr.setCell ⟨w.heap.size, j, none⟩ (.int .i64 (z : Int))).frozen? ⟨w.heap.size, i, none⟩ = false := fun i => by simpa using hfr i
      have HF := Lib.hid hf'
      have HB := Lib.hid hbits'
      have HN := Lib.hid nxt
      have jj : j < k := by omega
      clear hbits hXc hXd hfr hf' hbits' nxt hz hq
      go_wp2
      go_roundw
      case rel => exact ⟨j, q, z :: T, by omega, hq2, rfl, by go_num, HB.out, HN.out, HF.out, by simpa using hsz, hb'⟩
      case measure => simp [intOf]
end Go.Proofs.Ytfdffdfglhfepaa
