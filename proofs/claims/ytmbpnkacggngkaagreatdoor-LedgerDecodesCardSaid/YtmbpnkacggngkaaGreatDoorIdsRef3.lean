/- THE WALKS of the reference's ids: Agent, Selector, Parse. -/
import Derived.Test.YtmbpnkacggngkaaGreatDoorIdsRef2
import Derived.BigQuiet
namespace Go.Proofs.YtmbpnkacggngkaaGreatDoor
open Go.RowKit Mem

theorem below_drewM (B : Nat) (w : World) (k : Nat) : Below B w (w.drewN k) := ⟨rfl, rfl, rfl, Nat.le_refl _, fun _ _ => rfl⟩
theorem prefix_take {p l : List UInt8} {n : Nat} (hn : p.length = n) : p.isPrefixOf l = (l.take n == p) := by
  rw [Bool.eq_iff_iff]
  simp only [List.isPrefixOf_iff_prefix, beq_iff_eq]
  rw [List.prefix_iff_eq_take, hn]
  exact ⟨fun h => h.symm, fun h => h.symm⟩
theorem path_agent7 : Ids.path Ids.agentPre = false := by decide +kernel

set_option maxRecDepth 100000 in
theorem ragent_any (l : List UInt8) (w : World) (hl : l.length ≤ 9223372036854775807) : Calls Tryz.prog 34 #[.string (str l)] w fun e w' => e = .returned (.bool (Ids.agent l)) ∧ w = w' := by
  have hp := rpath_any l w hl
  obtain ⟨r, hr0⟩ : ∃ r, Ids.agent l = r := ⟨_, rfl⟩
  have HR := Lib.hid hr0
  rw [hr0]
  have hag : Ids.agent l = ((l.take 7 == Ids.agentPre) && Ids.path l && !(l.drop 7).contains 47) := by unfold Ids.agent; rw [prefix_take (n := 7) rfl]
  have HAG := Lib.hid hag
  clear hr0 hag
  obtain ⟨N, hN⟩ : ∃ N, l.length = N := ⟨_, rfl⟩
  have HN := Lib.hid hN
  have hsz : (str l).size = N := by rw [str_size, hN]
  rw [hN] at hl
  cases hpl : Ids.path l
  · have hx : Hid (Ids.agent l = false) := Lib.hid (by rw [HAG.out, hpl]; simp)
    rw [hpl] at hp
    clear hpl hN
    go_enter Tryz.func34, Tryz.ntmps34
    go_wp2_with fail
    refine hp.mono ?_
    rintro e w' ⟨rfl, rfl⟩
    go_wp2
    go_ret
    exact ⟨by rw [← HR.out, hx.out]; rfl, rfl⟩
  · rw [hpl] at hp
    by_cases h8 : N < 8
    · have hx : Hid (Ids.agent l = false) := Lib.hid (by
        rw [HAG.out]
        cases h7 : (l.take 7 == Ids.agentPre)
        · rfl
        · simp only [beq_iff_eq] at h7
          rw [List.take_of_length_le (by omega)] at h7
          rw [h7, path_agent7] at hpl
          cases hpl)
      clear hpl hN
      go_enter Tryz.func34, Tryz.ntmps34
      go_wp2_with fail
      refine hp.mono ?_
      rintro e w' ⟨rfl, rfl⟩
      go_wp2
      go_ret
      exact ⟨by rw [← HR.out, hx.out]; rfl, rfl⟩
    · have hx1 : (str l).extract 0 7 = str (l.take 7) := sub_str l 0 7
      have hx2 : (str l).extract 7 N = str (l.drop 7) := by rw [sub_str, List.take_of_length_le (by omega)]
      cases h7 : (l.take 7 == Ids.agentPre)
      · have hx : Hid (Ids.agent l = false) := Lib.hid (by rw [HAG.out, h7]; rfl)
        have h7' : (l.take 7 == [47, 97, 103, 101, 110, 116, 47]) = false := h7
        generalize l.take 7 = T at *
        clear hpl hN h7
        go_enter Tryz.func34, Tryz.ntmps34
        go_wp2_with fail
        refine hp.mono ?_
        rintro e w' ⟨rfl, rfl⟩
        clear hp
        go_wp2
        go_ret
        exact ⟨by rw [← HR.out, hx.out]; rfl, rfl⟩
      · have h7' : (l.take 7 == [47, 97, 103, 101, 110, 116, 47]) = true := h7
        have hin := in_any 47 (l.drop 7) w (by rw [List.length_drop]; omega)
        have hx : Hid (Ids.agent l = !(l.drop 7).contains 47) := Lib.hid (by rw [HAG.out, h7, hpl]; rfl)
        generalize l.take 7 = T at *
        generalize (l.drop 7).contains 47 = b at *
        clear hpl hN h7
        go_enter Tryz.func34, Tryz.ntmps34
        go_wp2_with fail
        refine hp.mono ?_
        rintro e w' ⟨rfl, rfl⟩
        clear hp
        go_wp2_with fail
        refine hin.mono ?_
        rintro e w' ⟨rfl, rfl⟩
        clear hin
        go_wp2
        go_ret
        exact ⟨by rw [← HR.out, hx.out]; rfl, rfl⟩

set_option maxRecDepth 100000 in
set_option maxHeartbeats 1000000 in
theorem rselector_any (l : List UInt8) (w : World) (hl : l.length ≤ 9223372036854775807) : Calls Tryz.prog 62 #[.string (str l)] w fun e w' => e = .returned (.bool (Ids.selector l)) ∧ w = w' := by
  obtain ⟨r, hr0⟩ : ∃ r, Ids.selector l = r := ⟨_, rfl⟩
  have HR := Lib.hid hr0
  rw [hr0]
  clear hr0
  obtain ⟨N, hN⟩ : ∃ N, l.length = N := ⟨_, rfl⟩
  have HN := Lib.hid hN
  have hsz : (str l).size = N := by rw [str_size, hN]
  rw [hN] at hl
  clear hN
  go_enter Tryz.func62, Tryz.ntmps62
  go_wp2_with fail
  go_loop [3] (fun i => ∃ k : Nat, k ≤ N ∧ i = .int .i64 k ∧ Hid (∀ j, j < k → l[j]? ≠ some 58)) (fun i => N - (intOf i).toNat)
  case atStart => exact ⟨0, by omega, rfl, Lib.hid (fun j hj => by omega)⟩
  case round =>
    obtain ⟨k, hk, rfl, HA⟩ := hrel
    by_cases hlt : k < N
    · have hkl : k < l.length := by rw [HN.out]; exact hlt
      have hks : k < (str l).size := by omega
      by_cases h58 : (l[k]'hkl).toNat = 58
      · have hb : (((str l)[k].toNat : Int) != 58) = false := ne_no (n := (str l)[k].toNat) h58
        have ht : Ids.till 58 l = k := Ids.till_eq (by omega) HA.out (fun _ => by rw [List.getElem?_eq_getElem hkl]; congr 1; exact UInt8.toNat.inj h58)
        have hof := of_any (l.take k) Ids.lSmall 8 w (by rw [List.length_take]; omega) (by decide)
        rw [Ids.of_small, List.length_take, Nat.min_eq_left (by omega)] at hof
        have hsel : Ids.selector l = (decide (k ≤ 8) && Ids.allOf Ids.small (l.take k) && decide (N ≤ k + 1 + 16) && Ids.allOf Ids.seen (l.drop (k + 1))) := by
          unfold Ids.selector
          rw [ht, decide_eq_true hkl, Bool.true_and, HN.out]
        have HSEL := Lib.hid hsel
        have hx1 : (str l).extract 0 k = str (l.take k) := sub_str l 0 k
        have hx2 : (str l).extract (k + 1) N = str (l.drop (k + 1)) := by rw [sub_str, List.take_of_length_le (by rw [HN.out]; exact Nat.le_refl _)]
        have hvl : (l.drop (k + 1)).length = N - (k + 1) := by rw [List.length_drop, HN.out]
        generalize l.take k = K at *
        generalize l.drop (k + 1) = V at *
        obtain ⟨b, hb0⟩ : ∃ b, (decide (k ≤ 8) && Ids.allOf Ids.small K) = b := ⟨_, rfl⟩
        rw [hb0] at hof
        have HB := Lib.hid hb0
        obtain ⟨Q, hQ⟩ : ∃ Q, N = k + 1 + Q := ⟨N - (k + 1), by omega⟩
        have hvz : (str V).size = Q := by rw [str_size, hvl]; omega
        have HV : Hid (V.length = Q) := Lib.hid (by rw [hvl]; omega)
        have HQ := Lib.hid hQ
        have hQ1 : Q ≤ 9223372036854775807 := by omega
        clear hsel ht h58 hb0 hvl hQ
        go_wp2_with fail
        refine hof.mono ?_
        rintro e w' ⟨rfl, rfl⟩
        clear hof
        go_wp2_with fail
        go_loop [6] (fun i => ∃ j : Nat, j ≤ Q ∧ i = .int .i64 j ∧ Hid ((V.take j).all Ids.seen = true)) (fun i => Q - (intOf i).toNat)
        case atStart => exact ⟨0, by omega, rfl, Lib.hid (by simp)⟩
        case round =>
          clear hx1 hx2 hb
          obtain ⟨j, hj, rfl, HS⟩ := hrel
          by_cases hjt : j < Q
          · have hjl : j < V.length := by rw [HV.out]; exact hjt
            have hjs : j < (str V).size := by omega
            have hce : (str V)[j] = V[j] := rfl
            cases hse : Ids.seen V[j] with
            | true =>
              have hn := Lib.hid ((all_take HS.out hjl).trans hse)
              have hy : 33 ≤ (str V)[j].toNat ∧ (str V)[j].toNat ≤ 126 := by
                rw [hce]
                unfold Ids.seen at hse
                simpa using hse
              clear hse hce
              go_wp2_with fail
              go_round
              case rel => exact ⟨j + 1, by omega, by go_num, hn⟩
              case measure => simp [intOf]; omega
            | false =>
              have hx : Hid (Ids.selector l = false) := Lib.hid (by rw [HSEL.out]; unfold Ids.allOf; rw [all_not hjl hse]; simp)
              have hy : (str V)[j].toNat < 33 ∨ (33 ≤ (str V)[j].toNat ∧ 126 < (str V)[j].toNat) := by
                rw [hce]
                unfold Ids.seen at hse
                simp at hse
                omega
              clear hse hce
              rcases hy with hy | ⟨hy, hy2⟩
              all_goals
                go_wp2_with fail
                go_ret
                exact ⟨by rw [← HR.out, hx.out]; rfl, rfl⟩
          · obtain rfl : j = Q := by omega
            have hsel : Hid (Ids.selector l = (b && decide (1 ≤ j) && decide (j ≤ 16))) := Lib.hid (by
              have hse : Ids.allOf Ids.seen V = decide (1 ≤ j) := by
                have := HS.out
                rw [← HV.out, List.take_length] at this
                unfold Ids.allOf
                rw [this, Ids.isEmpty_len, HV.out, Bool.true_and]
              rw [HSEL.out, HB.out, hse, show decide (N ≤ k + 1 + 16) = decide (j ≤ 16) by rw [decide_eq_decide, HQ.out]; omega]
              cases b <;> cases decide (1 ≤ j) <;> cases decide (j ≤ 16) <;> rfl)
            cases b
            · go_wp2_with fail
              go_ret
              exact ⟨by rw [← HR.out, hsel.out]; rfl, rfl⟩
            · by_cases h1 : 1 ≤ j
              · by_cases h2 : j ≤ 16
                · go_wp2_with fail
                  go_ret
                  exact ⟨by rw [← HR.out, hsel.out]; simp [h1, h2]; omega, rfl⟩
                · go_wp2_with fail
                  go_ret
                  exact ⟨by rw [← HR.out, hsel.out]; simp [h1, h2]; omega, rfl⟩
              · go_wp2_with fail
                go_ret
                exact ⟨by rw [← HR.out, hsel.out]; simp [h1], rfl⟩
      · have hb : (((str l)[k].toNat : Int) != 58) = true := ne_yes (n := (str l)[k].toNat) h58
        have hA : Hid (∀ j, j < k + 1 → l[j]? ≠ some 58) := Lib.hid (by
          intro j hj
          by_cases e : j = k
          · subst e
            rw [List.getElem?_eq_getElem hkl]
            intro h
            injection h with h
            exact h58 (by rw [h]; rfl)
          · exact HA.out j (by omega))
        clear h58
        go_wp2_with fail
        go_round
        case rel => exact ⟨k + 1, by omega, by go_num, hA⟩
        case measure => simp [intOf]; omega
    · obtain rfl : k = N := by omega
      have hx : Hid (Ids.selector l = false) := Lib.hid (by
        have ht : Ids.till 58 l = k := Ids.till_eq (by rw [HN.out]; exact Nat.le_refl _) HA.out (fun h => by rw [HN.out] at h; omega)
        unfold Ids.selector
        rw [ht, HN.out]
        simp)
      go_wp2_with fail
      go_ret
      exact ⟨by rw [← HR.out, hx.out]; rfl, rfl⟩

/-- What Parse tells. -/
def ParseOut (l : List UInt8) : Array Value := match Ids.parse l with
  | none => #[.string (str []), .string (str []), .bool false]
  | some (d, p) => #[.string (str d), .string (str p), .bool true]
end Go.Proofs.YtmbpnkacggngkaaGreatDoor
