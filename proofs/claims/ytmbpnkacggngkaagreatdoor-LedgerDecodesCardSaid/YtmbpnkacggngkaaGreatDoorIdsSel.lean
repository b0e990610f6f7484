/- THE WALKS of ids.Selector, ids.Agent's parts: strings.Cut at one byte. -/
import Derived.Test.YtmbpnkacggngkaaGreatDoorIdsDomain
namespace Go.Proofs.YtmbpnkacggngkaaGreatDoor
open Go.RowKit Mem

def CutOut (c : UInt8) (l : List UInt8) : Array Value := if Ids.till c l < l.length then #[.string (str (l.take (Ids.till c l))), .string (str (l.drop (Ids.till c l + 1))), .bool true] else #[.string (str l), .string (str []), .bool false]
set_option maxRecDepth 100000 in
theorem litecut_any (c : UInt8) (l : List UInt8) (w : World) (hl : l.length ≤ 9223372036854775807) : Calls Tryz.prog 204 #[.string (str l), .string ⟨#[c]⟩] w fun e w' => e = .returned (.tuple (CutOut c l)) ∧ ∃ q, w' = w.drewN q := by
  have hix := Any.stringslite_Index_one Tryz.lays219 (str l) c w
  rw [show (str l).data.toList = l from rfl, Ids.indexByte_till] at hix
  have hs1 : (⟨#[c]⟩ : ByteArray).size = 1 := rfl
  unfold CutOut
  obtain ⟨N, hN⟩ : ∃ N, l.length = N := ⟨_, rfl⟩
  have hsz : (str l).size = N := by rw [str_size, hN]
  rw [hN] at hl hix ⊢
  have HN := Lib.hid hN
  clear hN
  by_cases h : Ids.till c l < N
  · rw [if_pos h] at hix ⊢
    generalize Ids.till c l = k at *
    have hx1 : (str l).extract 0 k = str (l.take k) := sub_str l 0 k
    have hx2 : (str l).extract (k + 1) N = str (l.drop (k + 1)) := by rw [sub_str, List.take_of_length_le (by rw [HN.out]; exact Nat.le_refl _)]
    generalize l.take k = K at *
    generalize l.drop (k + 1) = V at *
    go_enter Tryz.func204, Tryz.ntmps204
    go_wp2_with fail
    refine hix.mono ?_
    rintro e w' ⟨rfl, rfl⟩
    go_wp2_with fail
    go_quiet (fail)
    go_wp2
    go_ret3
    exact ⟨rfl, _, rfl⟩
  · rw [if_neg h] at hix ⊢
    go_enter Tryz.func204, Tryz.ntmps204
    go_wp2_with fail
    refine hix.mono ?_
    rintro e w' ⟨rfl, rfl⟩
    go_wp2
    go_ret3
    exact ⟨rfl, 0, rfl⟩
theorem cut_any (c : UInt8) (l : List UInt8) (w : World) (hl : l.length ≤ 9223372036854775807) : Calls Tryz.prog 183 #[.string (str l), .string ⟨#[c]⟩] w fun e w' => e = .returned (.tuple (CutOut c l)) ∧ ∃ q, w' = w.drewN q := by
  have hc := litecut_any c l w hl
  obtain ⟨x, y, b, ho⟩ : ∃ x y b, CutOut c l = #[x, y, b] := by
    unfold CutOut
    split
    · exact ⟨_, _, _, rfl⟩
    · exact ⟨_, _, _, rfl⟩
  rw [ho] at hc ⊢
  go_enter Tryz.func183, Tryz.ntmps183
  go_wp2_with fail
  refine hc.mono ?_
  rintro e w1 ⟨rfl, q, rfl⟩
  go_wp2
  go_ret3
  exact ⟨rfl, q, rfl⟩

theorem small_tells : Tells 184 Ids.small := small_any
theorem seen_tells : Tells 185 Ids.seen := seen_any
set_option maxRecDepth 100000 in
theorem selector_any (l : List UInt8) (w : World) (hl : l.length ≤ 9223372036854775807) : Calls Tryz.prog 161 #[.string (str l)] w fun e w' => e = .returned (.bool (Ids.selector l)) ∧ ∃ q, w' = w.drewN q := by
  have hc := cut_any 58 l w hl
  have hks : ∀ w1, Calls Tryz.prog 166 #[.string (str (l.take (Ids.till 58 l))), .func (.func 184) #[] #[]] w1 fun e w' => e = .returned (.bool (Ids.allOf Ids.small (l.take (Ids.till 58 l)))) ∧ w1 = w' :=
    fun w1 => all_any small_tells (enters_of Tryz.func184 (by kernel_rfl) rfl) _ w1 (by rw [List.length_take]; omega)
  have hvs : ∀ w1, Calls Tryz.prog 166 #[.string (str (l.drop (Ids.till 58 l + 1))), .func (.func 185) #[] #[]] w1 fun e w' => e = .returned (.bool (Ids.allOf Ids.seen (l.drop (Ids.till 58 l + 1)))) ∧ w1 = w' :=
    fun w1 => all_any seen_tells (enters_of Tryz.func185 (by kernel_rfl) rfl) _ w1 (by rw [List.length_drop]; omega)
  have hkz : (str (l.take (Ids.till 58 l))).size = Ids.till 58 l := by rw [str_size, List.length_take]; have := Ids.till_le 58 l; omega
  have hvz : (str (l.drop (Ids.till 58 l + 1))).size = l.length - (Ids.till 58 l + 1) := by rw [str_size, List.length_drop]
  unfold CutOut at hc
  obtain ⟨r, hr0⟩ : ∃ r, Ids.selector l = r := ⟨_, rfl⟩
  have HR := Lib.hid hr0
  rw [hr0]
  clear hr0
  by_cases h : Ids.till 58 l < l.length
  · rw [if_pos h] at hc
    have hsel : Ids.selector l = (decide (Ids.till 58 l ≤ 8) && Ids.allOf Ids.small (l.take (Ids.till 58 l)) && decide (l.length - (Ids.till 58 l + 1) ≤ 16) && Ids.allOf Ids.seen (l.drop (Ids.till 58 l + 1))) := by
      unfold Ids.selector
      rw [decide_eq_true h, Bool.true_and, show decide (l.length ≤ Ids.till 58 l + 1 + 16) = decide (l.length - (Ids.till 58 l + 1) ≤ 16) by rw [decide_eq_decide]; omega]
    have HS := Lib.hid hsel
    clear hsel hl h
    generalize l.length - (Ids.till 58 l + 1) = v at *
    generalize l.drop (Ids.till 58 l + 1) = V at *
    generalize l.take (Ids.till 58 l) = K at *
    generalize Ids.till 58 l = k at *
    generalize Ids.allOf Ids.small K = a at *
    generalize Ids.allOf Ids.seen V = b at *
    have out : ∀ x : Bool, (x = (decide (k ≤ 8) && a && decide (v ≤ 16) && b)) → x = r := fun x hx => by rw [hx, ← HS.out, HR.out]
    have OUT := Lib.hid out
    clear out HS HR
    go_enter Tryz.func161, Tryz.ntmps161
    by_cases h8 : k ≤ 8
    · cases a
      · go_wp2_with fail
        refine hc.mono ?_
        rintro e w1 ⟨rfl, hq, rfl⟩
        go_wp2_with fail
        refine (hks _).mono ?_
        rintro e w' ⟨rfl, rfl⟩
        go_wp2
        go_ret
        exact ⟨congrArg (fun x => Ending.returned (.bool x)) (OUT.out _ (by simp)), _, rfl⟩
      · by_cases h16 : v ≤ 16
        · go_wp2_with fail
          refine hc.mono ?_
          rintro e w1 ⟨rfl, hq, rfl⟩
          go_wp2_with fail
          refine (hks _).mono ?_
          rintro e w' ⟨rfl, rfl⟩
          go_wp2_with fail
          refine (hvs _).mono ?_
          rintro e w' ⟨rfl, rfl⟩
          go_wp2
          go_ret
          exact ⟨congrArg (fun x => Ending.returned (.bool x)) (OUT.out _ (by simp [h8, h16])), _, rfl⟩
        · go_wp2_with fail
          refine hc.mono ?_
          rintro e w1 ⟨rfl, hq, rfl⟩
          go_wp2_with fail
          refine (hks _).mono ?_
          rintro e w' ⟨rfl, rfl⟩
          go_wp2
          go_ret
          exact ⟨congrArg (fun x => Ending.returned (.bool x)) (OUT.out _ (by simp [h16])), _, rfl⟩
    · go_wp2_with fail
      refine hc.mono ?_
      rintro e w1 ⟨rfl, hq, rfl⟩
      go_wp2
      go_ret
      exact ⟨congrArg (fun x => Ending.returned (.bool x)) (OUT.out _ (by simp [h8])), _, rfl⟩
  · rw [if_neg h] at hc
    have hsel : Hid (Ids.selector l = false) := Lib.hid (by unfold Ids.selector; rw [decide_eq_false h]; rfl)
    clear hks hvs hkz hvz
    go_enter Tryz.func161, Tryz.ntmps161
    go_wp2_with fail
    refine hc.mono ?_
    rintro e w1 ⟨rfl, hq, rfl⟩
    go_wp2
    go_ret
    exact ⟨by rw [← HR.out, hsel.out]; rfl, _, rfl⟩
end Go.Proofs.YtmbpnkacggngkaaGreatDoor
