/- THE WALK of the reference's Primes, at 80. -/
import Derived.Test.YtmbpnkacggngkaaGreatDoorShaMem
namespace Go.Proofs.YtmbpnkacggngkaaGreatDoor
open Go.RowKit Mem

/-- Naturals as numbers. -/
def ints (l : List Nat) : List Int := l.map fun x : Nat => (x : Int)
theorem ints_length (l : List Nat) : (ints l).length = l.length := by simp [ints]
theorem ints_at (l : List Nat) (j : Nat) : (ints l).getD j 0 = ((l.getD j 0 : Nat) : Int) := by
  rcases Nat.lt_or_ge j l.length with h | h
  · simp [ints, List.getD_eq_getElem?_getD, h]
  · simp [ints, List.getD_eq_getElem?_getD, h]
theorem pr_at {t j : Nat} (h : j < (Sha.pr t).length) : 2 ≤ (Sha.pr t).getD j 0 ∧ (Sha.pr t).getD j 0 < t + 2 := by
  have : (Sha.pr t).getD j 0 = (Sha.pr t)[j] := by simp [List.getD_eq_getElem?_getD, h]
  rw [this]
  exact Sha.pr_range t _ (List.getElem_mem h)
theorem pr_count (t : Nat) (ht : t ≤ 408) : (Sha.pr t).length ≤ 80 := by
  rcases Nat.lt_or_ge t 408 with h | h
  · exact Nat.le_of_lt (Sha.pr_short h)
  · obtain rfl : t = 408 := by omega
    rw [Sha.pr_408]
    exact Nat.le_refl _
theorem all_take_succ {p : Nat → Bool} {l : List Nat} {j : Nat} (h : j < l.length) : (l.take (j + 1)).all p = ((l.take j).all p && p (l.getD j 0)) := by
  rw [List.take_succ_eq_append_getElem h, List.all_append]
  simp [List.getD_eq_getElem?_getD, h]
set_option maxRecDepth 100000 in
set_option maxHeartbeats 2000000 in
theorem rprimes_any (w : World) :
    Calls Tryz.prog 124 #[.int .i64 80] w fun e w' => ∃ A c, e = .returned (.slice A 80 c) ∧ Is w' A 80 (ints (Sha.pr 408)) ∧ Below w.heap.size w w' := by
  obtain ⟨i0, hi, hz0, hz1, hz2⟩ := info_parts infoI
  go_enter Tryz.func124, Tryz.ntmps124
  go_wp2
  go_loopw [3, 4, 5, 6] (fun v k _ _ wr => ∃ (t : Nat) (A : Option Addr) (n c : Nat), t ≤ 408 ∧ n ≤ 80 ∧ k = .int .i64 ((t : Int) + 2) ∧ v = .slice A n c ∧ Hid ((Sha.pr t).length = n) ∧ Below w.heap.size w wr ∧ wr.ownsRow w.heap.size 3 1 (.slice A n c) n (iv (ints (Sha.pr t)))) (fun _ k _ _ _ => (500 - intOf k).toNat)
  case atStart => exact ⟨0, none, 0, 0, by omega, by omega, rfl, rfl, Lib.hid rfl, Below.refl _ _, World.ownsRow_nil _ _ _ _⟩
  case round =>
    obtain ⟨t, A, n, c, ht, hn80, rfl, rfl, HN, hb, hown⟩ := hrel
    by_cases h408 : t = 408
    · subst h408
      have hn : n = 80 := by rw [← HN.out, Sha.pr_408]
      subst hn
      go_wp2
      go_ret
      exact ⟨A, c, rfl, Is.of_own hown, hb⟩
    · have hn : n < 80 := by rw [← HN.out]; exact Sha.pr_short (by omega)
      have hat : ∀ j, j < n → 2 ≤ (Sha.pr t).getD j 0 ∧ (Sha.pr t).getD j 0 < t + 2 := fun j hj => pr_at (by rw [HN.out]; exact hj)
      have HP := Lib.hid (show Sha.pr (t + 1) = if (Sha.pr t).all (fun p => (t + 2) % p != 0) then Sha.pr t ++ [t + 2] else Sha.pr t from rfl)
      have hl : Hid (∀ j, j < n → j < (Sha.pr t).length) := Lib.hid fun j hj => by rw [HN.out]; exact hj
      have hI := Is.of_own hown
      have ht2 : t < 408 := by omega
      generalize Sha.pr t = L at *
      clear h408
      go_wp2
      go_loop [5, 6] (fun is i => ∃ j : Nat, j ≤ n ∧ i = .int .i64 j ∧ is = .bool ((L.take j).all fun p => (t + 2) % p != 0)) (fun _ i => n - (intOf i).toNat)
      case atStart => exact ⟨0, by omega, rfl, rfl⟩
      case round =>
        obtain ⟨j, hj, rfl, rfl⟩ := hrel
        by_cases hlt : j < n
        · obtain ⟨blk, off, rfl, _, hx⟩ := vs_lit hI (by omega)
          have cj := hx j _ (iv_at _ (by rw [ints_length]; exact hl.out j hlt))
          rw [ints_at] at cj
          obtain ⟨g1, g2⟩ := hat j hlt
          have HA : Hid ((L.take (j + 1)).all (fun p => (t + 2) % p != 0) = ((L.take j).all (fun p => (t + 2) % p != 0) && ((t + 2) % (L.getD j 0) != 0))) := Lib.hid (all_take_succ (hl.out j hlt))
          generalize L.getD j 0 = p at *
          generalize (L.take j).all (fun p => (t + 2) % p != 0) = a at *
          have hm : Int.tmod ((t : Int) + 2) (p : Int) = (((t + 2) % p : Nat) : Int) := by
            have := Int.ofNat_tmod (t + 2) p
            exact this.symm
          have hp0 : ¬ (p : Int) = 0 := by omega
          obtain ⟨u, hu⟩ : ∃ u, (t + 2) % p = u := ⟨_, rfl⟩
          rw [hu] at hm HA
          clear hx hu
          by_cases hu0 : u = 0
          · subst hu0
            have hm : Int.tmod ((t : Int) + 2) (p : Int) = 0 := hm
            go_wp2
            go_round
            case rel => exact ⟨j + 1, by omega, by go_num, by rw [HA.out]; cases a <;> rfl⟩
            case measure => simp [intOf]; omega
          · have hub : (u != 0) = true := by simp [hu0]
            rw [hub] at HA
            go_wp2
            go_round
            case rel => exact ⟨j + 1, by omega, by go_num, by rw [HA.out]; cases a <;> rfl⟩
            case measure => simp [intOf]; omega
        · obtain rfl : j = n := by omega
          have hla : (L.take j).all (fun p => (t + 2) % p != 0) = L.all (fun p => (t + 2) % p != 0) := by
            rw [List.take_of_length_le (by rw [HN.out]; exact Nat.le_refl _)]
          rw [hla]
          cases hq : L.all (fun p => (t + 2) % p != 0)
          · rw [hq] at HP
            have HP2 : Hid (Sha.pr (t + 1) = L) := Lib.hid HP.out
            clear hat hI hl HP hq hla
            go_wp2
            go_roundw
            case rel => exact ⟨t + 1, A, j, c, by omega, by omega, by go_num, rfl, by rw [HP2.out]; exact HN, hb, by rw [HP2.out]; exact hown⟩
            case measure => simp [intOf]; omega
          · rw [hq] at HP
            have HP2 : Hid (Sha.pr (t + 1) = L ++ [t + 2]) := Lib.hid HP.out
            clear hat hI hl HP hq hla
            have h63 : j + 1 ≤ maxLen := by unfold maxLen; omega
            have hB1 := hb.size
            go_wp2_with (at_builtin; go_must (refine wpList_push rfl (.tmp 27) (.tmp 29) 111 rfl w.heap.size i0 (.int .i64 0) 8 Tryz.underlying111 hi hz0 hz1 hz2 rfl _ _ _ rfl hown rfl rfl h63 (by omega) hB1 ?_))
            intro A' c' w2 hown' g1' g2' hgr
            have hb2 := below_push hb hgr hB1 hown (Nat.le_refl _)
            have hrep : iv (ints (L ++ [t + 2])) = iv (ints L) ++ [.int .i64 ((t : Int) + 2)] := by simp [ints, iv]
            rw [← hrep] at hown'
            clear hown hgr hb hrep
            go_wp2
            go_roundw
            case rel => exact ⟨t + 1, A', j + 1, c', by omega, by omega, by go_num, rfl, by rw [HP2.out]; exact Lib.hid (by rw [List.length_append, HN.out]; rfl), hb2, by rw [HP2.out]; exact hown'⟩
            case measure => simp [intOf]; omega
end Go.Proofs.YtmbpnkacggngkaaGreatDoor
