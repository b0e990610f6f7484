/- THE WALKS of the reference's ids: in, of, Domain. -/
import Derived.Test.YtmbpnkacggngkaaGreatDoorIdsKinds
namespace Go.Proofs.YtmbpnkacggngkaaGreatDoor
open Go.RowKit Mem

theorem contains_take {m : List UInt8} {c : UInt8} {k : Nat} (h : (m.take k).contains c = false) (hk : k < m.length) (hn : m[k].toNat ≠ c.toNat) : (m.take (k + 1)).contains c = false := by
  rw [List.take_succ_eq_append_getElem hk, List.contains_eq_any_beq, List.any_append, ← List.contains_eq_any_beq, h]
  simp
  intro e
  exact hn (by rw [← e])
theorem in_any (c : UInt8) (m : List UInt8) (w : World) (hl : m.length ≤ 9223372036854775807) : Calls Tryz.prog 64 #[.int .u8 (c.toNat : Int), .string (str m)] w fun e w' => e = .returned (.bool (m.contains c)) ∧ w = w' := by
  have hsz := str_size m
  obtain ⟨N, hN⟩ : ∃ N, m.length = N := ⟨_, rfl⟩
  rw [hN] at hsz hl
  have HN := Lib.hid hN
  clear hN
  obtain ⟨r, hr0⟩ : ∃ r, m.contains c = r := ⟨_, rfl⟩
  have HR := Lib.hid hr0
  rw [hr0]
  clear hr0
  go_enter Tryz.func64, Tryz.ntmps64
  go_wp2
  go_loop [5] (fun i => ∃ k : Nat, k ≤ N ∧ i = .int .i64 k ∧ Hid ((m.take k).contains c = false)) (fun i => N - (intOf i).toNat)
  case atStart => exact ⟨0, by omega, rfl, Lib.hid (by simp)⟩
  case round =>
    obtain ⟨k, hk, rfl, HA⟩ := hrel
    by_cases hlt : k < N
    · have hks : k < (str m).size := by omega
      have hkl : k < m.length := by rw [HN.out]; exact hlt
      have hce : (str m)[k] = m[k] := rfl
      by_cases he : m[k].toNat = c.toNat
      · have hr : Hid (m.contains c = true) := Lib.hid (by
          have : m[k] = c := UInt8.toNat.inj he
          rw [List.contains_iff_mem, ← this]
          exact List.getElem_mem hkl)
        rw [← hce] at he
        clear hce
        go_wp2
        go_ret
        exact ⟨by rw [← HR.out, hr.out]; rfl, rfl⟩
      · have hr := Lib.hid (contains_take HA.out hkl he)
        rw [← hce] at he
        clear hce
        go_wp2
        go_round
        case rel => exact ⟨k + 1, by omega, by go_num, hr⟩
        case measure => simp [intOf]; omega
    · obtain rfl : k = N := by omega
      have hr : Hid (m.contains c = false) := Lib.hid (by have := HA.out; rwa [← HN.out, List.take_length] at this)
      go_wp2
      go_ret
      exact ⟨by rw [← HR.out, hr.out]; rfl, rfl⟩
theorem of_any (l m : List UInt8) (most : Nat) (w : World) (hl : l.length ≤ 9223372036854775807) (hm : m.length ≤ 9223372036854775807) : Calls Tryz.prog 63 #[.string (str l), .string (str m), .int .i64 (most : Int)] w fun e w' => e = .returned (.bool (Ids.ofOf m most l)) ∧ w = w' := by
  have hsz := str_size l
  obtain ⟨N, hN⟩ : ∃ N, l.length = N := ⟨_, rfl⟩
  rw [hN] at hsz hl
  have HN := Lib.hid hN
  clear hN
  go_enter Tryz.func63, Tryz.ntmps63
  go_wp2
  go_loop [7, 8] (fun i _ => ∃ k : Nat, k ≤ N ∧ i = .int .i64 k ∧ Hid ((l.take k).all (fun c => m.contains c) = true)) (fun i _ => N - (intOf i).toNat)
  case atStart => exact ⟨0, by omega, rfl, Lib.hid (by simp)⟩
  case round =>
    obtain ⟨k, hk, rfl, HA⟩ := hrel
    by_cases hlt : k < N
    · have hks : k < (str l).size := by omega
      have hkl : k < l.length := by rw [HN.out]; exact hlt
      have hce : (str l)[k] = l[k] := rfl
      have hcall := in_any l[k] m w hm
      rw [← hce] at hcall
      cases hp : m.contains l[k] with
      | true =>
        have hA := Lib.hid ((all_take (p := fun c => m.contains c) HA.out hkl).trans hp)
        rw [hce, hp, ← hce] at hcall
        clear hp hce
        go_wp2_with fail
        refine hcall.mono ?_
        rintro e w' ⟨rfl, rfl⟩
        go_wp2
        go_round
        case rel => exact ⟨k + 1, by omega, by go_num, hA⟩
        case measure => simp [intOf]; omega
      | false =>
        have hA : Hid (Ids.ofOf m most l = false) := Lib.hid (by unfold Ids.ofOf; rw [all_not (p := fun c => m.contains c) hkl hp]; rfl)
        rw [hce, hp, ← hce] at hcall
        clear hp hce
        go_wp2_with fail
        refine hcall.mono ?_
        rintro e w' ⟨rfl, rfl⟩
        go_wp2
        go_ret
        exact ⟨by rw [hA.out]; rfl, rfl⟩
    · obtain rfl : k = N := by omega
      have hA : Hid (Ids.ofOf m most l = (decide (1 ≤ k) && decide (k ≤ most))) := Lib.hid (by
        unfold Ids.ofOf
        have := HA.out
        rw [← HN.out, List.take_length] at this
        rw [this, HN.out]
        rfl)
      by_cases h1 : 1 ≤ k
      · by_cases h2 : k ≤ most
        · go_wp2
          go_ret
          exact ⟨by rw [hA.out]; simp [h1, h2], rfl⟩
        · go_wp2
          go_ret
          exact ⟨by rw [hA.out]; simp [h1, h2], rfl⟩
      · go_wp2
        go_ret
        exact ⟨by rw [hA.out]; simp [h1], rfl⟩
theorem edged_ends {l : List UInt8} {M : Nat} (hN : l.length = M + 1) : Ids.edged l = (Ids.dotty (l[0]'(by omega)) || Ids.dotty (l[M]'(by omega))) := by
  unfold Ids.edged
  rw [List.head?_eq_getElem?, List.getLast?_eq_getElem?, show l.length - 1 = M by omega, List.getElem?_eq_getElem (by omega), List.getElem?_eq_getElem (by omega)]
  rfl
set_option maxRecDepth 100000 in
theorem rdomain_any (l : List UInt8) (w : World) (hl : l.length ≤ 9223372036854775807) : Calls Tryz.prog 154 #[.string (str l)] w fun e w' => e = .returned (.bool (Ids.domain l)) ∧ w = w' := by
  have hof := of_any l Ids.lInner 16 w hl (by decide)
  rw [Ids.of_inner] at hof
  have hsz := str_size l
  unfold Ids.domain
  cases hd : (decide (l.length ≤ 16) && Ids.allOf Ids.inner l)
  · rw [hd] at hof
    go_enter Tryz.func154, Tryz.ntmps154
    go_wp2_with fail
    refine hof.mono ?_
    rintro e w' ⟨rfl, rfl⟩
    go_wp2
    go_ret
    exact ⟨rfl, rfl⟩
  · rw [hd] at hof
    have h16 : l.length ≤ 16 ∧ 1 ≤ l.length := by
      simp only [Bool.and_eq_true, decide_eq_true_eq] at hd
      refine ⟨hd.1, ?_⟩
      have := hd.2
      unfold Ids.allOf at this
      rw [Ids.isEmpty_len] at this
      simp only [Bool.and_eq_true, decide_eq_true_eq] at this
      exact this.2
    obtain ⟨M, hM⟩ : ∃ M, l.length = M + 1 := ⟨l.length - 1, by omega⟩
    clear hsz
    have hsz : (str l).size = M + 1 := by rw [str_size, hM]
    have h0 : 0 < (str l).size := by omega
    have h1 : M < (str l).size := by omega
    have e0 : (str l)[0] = l[0]'(by omega) := rfl
    have e1 : (str l)[M] = l[M]'(by omega) := rfl
    have c0 := in_any (l[0]'(by omega)) [46, 45] w (by decide)
    have c1 := in_any (l[M]'(by omega)) [46, 45] w (by decide)
    rw [Ids.dotty_list] at c0 c1
    have hed := edged_ends hM
    rw [hed]
    rw [← e0] at c0 ⊢
    rw [← e1] at c1 ⊢
    generalize Ids.dotty (str l)[0] = a at *
    generalize Ids.dotty (str l)[M] = b at *
    have HM := Lib.hid hM
    have hM16 : M ≤ 16 := by omega
    clear hd hed e0 e1 hM
    go_enter Tryz.func154, Tryz.ntmps154
    go_wp2_with fail
    refine hof.mono ?_
    rintro e w' ⟨rfl, rfl⟩
    clear hof
    go_wp2_with fail
    refine c0.mono ?_
    rintro e w' ⟨rfl, rfl⟩
    clear c0
    go_wp2_with fail
    refine c1.mono ?_
    rintro e w' ⟨rfl, rfl⟩
    clear c1
    cases a <;> cases b
    all_goals
      go_wp2
      go_ret
      exact ⟨rfl, rfl⟩

/-- A piece of a text. -/
theorem sub_str (l : List UInt8) (a b : Nat) : (str l).extract a b = str ((l.take b).drop a) := by
  apply ByteArray.ext
  simp [str, List.drop_take]
theorem str_same (a b : List UInt8) : decide (str a = str b) = (a == b) := by
  rw [Bool.eq_iff_iff]
  simp only [decide_eq_true_eq, beq_iff_eq]
  exact ⟨fun h => str_inj h, fun h => by rw [h]⟩
/-- What is left to do when the pieces ahead of 'from' are right. -/
theorem segs_step {l : List UInt8} {a k : Nat} (hak : a ≤ k) (hk : k ≤ l.length) (h : 47 ∉ (l.take k).drop a) : Ids.segsOk (l.drop a) = if k < l.length ∧ l[k]? = some 47 then (Ids.segOk ((l.take k).drop a) && Ids.segsOk (l.drop (k + 1))) else if k = l.length then Ids.segOk ((l.take k).drop a) else Ids.segsOk (l.drop a) := by
  by_cases h1 : k < l.length ∧ l[k]? = some 47
  · rw [if_pos h1]
    obtain ⟨h1, h2⟩ := h1
    have e : l.drop a = (l.take k).drop a ++ 47 :: l.drop (k + 1) := by
      have hx := h2
      rw [List.getElem?_eq_getElem h1] at hx
      injection hx with hx
      have h3 : l = l.take k ++ 47 :: l.drop (k + 1) := by rw [← hx, ← List.drop_eq_getElem_cons h1, List.take_append_drop]
      conv => lhs; rw [h3]
      rw [List.drop_append_of_le_length (by rw [List.length_take]; omega)]
    unfold Ids.segsOk
    rw [e, Ids.pieces_cut h, List.all_cons]
  · rw [if_neg h1]
    by_cases h2 : k = l.length
    · rw [if_pos h2]
      subst h2
      rw [List.take_length] at h ⊢
      unfold Ids.segsOk
      rw [Ids.pieces_none h]
      simp
    · rw [if_neg h2]
end Go.Proofs.YtmbpnkacggngkaaGreatDoor
