/- THE WALKS of ids' kinds of bytes, of 'all', and of the reference's 'in' and 'of'. -/
import Derived.Test.YtmbpnkacggngkaaGreatDoorMem
import Derived.Test.YtmbpnkacggngkaaGreatDoorIdsSpec
import Derived.Test.YtmbpnkacggngkaaGreatDoorProg
namespace Go.Proofs.YtmbpnkacggngkaaGreatDoor
open Go.RowKit Mem

theorem u8_beq (c : UInt8) (k : Nat) (hk : k < 256) : (c == UInt8.ofNat k) = decide (c.toNat = k) := by
  rw [Bool.eq_iff_iff]
  simp only [beq_iff_eq, decide_eq_true_eq]
  constructor
  · rintro rfl
    simp
    omega
  · rintro rfl
    simp
theorem small_any (c : UInt8) (w : World) : Calls Tryz.prog 184 #[.int .u8 (c.toNat : Int)] w fun e w' => e = .returned (.bool (Ids.small c)) ∧ w = w' := by
  unfold Ids.small
  have hc := c.toNat_lt
  generalize c.toNat = n at *
  obtain ⟨r, hr⟩ : ∃ r, decide (97 ≤ n ∧ n ≤ 122) = r := ⟨_, rfl⟩
  have HR := Lib.hid hr
  rw [hr]
  clear hr
  go_enter Tryz.func184, Tryz.ntmps184
  go_wp2
  all_goals
    go_ret
    refine ⟨?_, rfl⟩
    show Ending.returned (.bool _) = _
    rw [← HR.out]
    congr 2
    rw [Bool.eq_iff_iff]
    simp
    omega
theorem digit_any (c : UInt8) (w : World) : Calls Tryz.prog 217 #[.int .u8 (c.toNat : Int)] w fun e w' => e = .returned (.bool (Ids.digit c)) ∧ w = w' := by
  unfold Ids.digit
  have hc := c.toNat_lt
  generalize c.toNat = n at *
  obtain ⟨r, hr⟩ : ∃ r, decide (48 ≤ n ∧ n ≤ 57) = r := ⟨_, rfl⟩
  have HR := Lib.hid hr
  rw [hr]
  clear hr
  go_enter Tryz.func217, Tryz.ntmps217
  go_wp2
  all_goals
    go_ret
    refine ⟨?_, rfl⟩
    show Ending.returned (.bool _) = _
    rw [← HR.out]
    congr 2
    rw [Bool.eq_iff_iff]
    simp
    omega
set_option maxRecDepth 100000 in
theorem seen_any (c : UInt8) (w : World) : Calls Tryz.prog 185 #[.int .u8 (c.toNat : Int)] w fun e w' => e = .returned (.bool (Ids.seen c)) ∧ w = w' := by
  unfold Ids.seen
  have hc := c.toNat_lt
  generalize c.toNat = n at *
  obtain ⟨r, hr⟩ : ∃ r, decide (33 ≤ n ∧ n ≤ 126) = r := ⟨_, rfl⟩
  have HR := Lib.hid hr
  rw [hr]
  clear hr
  go_enter Tryz.func185, Tryz.ntmps185
  go_wp2
  all_goals
    go_ret
    refine ⟨?_, rfl⟩
    show Ending.returned (.bool _) = _
    rw [← HR.out]
    congr 2
    rw [Bool.eq_iff_iff]
    simp
    omega
theorem inner_any (c : UInt8) (w : World) : Calls Tryz.prog 191 #[.int .u8 (c.toNat : Int)] w fun e w' => e = .returned (.bool (Ids.inner c)) ∧ w = w' := by
  have h1 := small_any c w
  have h2 := digit_any c w
  unfold Ids.inner
  rw [show (46 : UInt8) = UInt8.ofNat 46 from rfl, show (45 : UInt8) = UInt8.ofNat 45 from rfl, u8_beq c 46 (by omega), u8_beq c 45 (by omega)]
  have hc := c.toNat_lt
  generalize c.toNat = n at *
  generalize Ids.small c = a at *
  generalize Ids.digit c = b at *
  obtain ⟨r, hr⟩ : ∃ r, (a || b || decide (n = 46) || decide (n = 45)) = r := ⟨_, rfl⟩
  have HR := Lib.hid hr
  rw [hr]
  clear hr
  go_enter Tryz.func191, Tryz.ntmps191
  cases a <;> cases b
  all_goals
    go_wp2_with (first | (go_at_call 184; refine h1.mono ?_; rintro e w' ⟨rfl, rfl⟩) | (go_at_call 217; refine h2.mono ?_; rintro e w' ⟨rfl, rfl⟩))
    all_goals
      go_ret
      refine ⟨?_, rfl⟩
      show Ending.returned (.bool _) = _
      rw [← HR.out]
      congr 2
      all_goals
        rw [Bool.eq_iff_iff]
        simp
        try omega
theorem named_any (c : UInt8) (w : World) : Calls Tryz.prog 167 #[.int .u8 (c.toNat : Int)] w fun e w' => e = .returned (.bool (Ids.named c)) ∧ w = w' := by
  have h1 := inner_any c w
  unfold Ids.named
  rw [show (95 : UInt8) = UInt8.ofNat 95 from rfl, u8_beq c 95 (by omega)]
  have hc := c.toNat_lt
  generalize c.toNat = n at *
  generalize Ids.inner c = a at *
  obtain ⟨r, hr⟩ : ∃ r, (a || decide (65 ≤ n ∧ n ≤ 90) || decide (n = 95)) = r := ⟨_, rfl⟩
  have HR := Lib.hid hr
  rw [hr]
  clear hr
  go_enter Tryz.func167, Tryz.ntmps167
  cases a
  all_goals
    go_wp2_with (go_at_call 191; refine h1.mono ?_; rintro e w' ⟨rfl, rfl⟩)
    all_goals
      go_ret
      refine ⟨?_, rfl⟩
      show Ending.returned (.bool _) = _
      rw [← HR.out]
      congr 2
      all_goals
        rw [Bool.eq_iff_iff]
        simp
        try omega

/-- 'all(s, is)': of a function that tells of a byte what p tells. -/
def Tells (f : Nat) (p : UInt8 → Bool) : Prop := ∀ (c : UInt8) (w : World), Calls Tryz.prog f #[.int .u8 (c.toNat : Int)] w fun e w' => e = .returned (.bool (p c)) ∧ w = w'
theorem empty_str (l : List UInt8) : decide (str l = ⟨#[]⟩) = l.isEmpty := by
  cases l with
  | nil => rfl
  | cons a t =>
    rw [decide_eq_false]
    · rfl
    · intro h
      have := congrArg (fun x : ByteArray => x.data.size) h
      simp [str] at this

theorem all_take {p : UInt8 → Bool} {l : List UInt8} {k : Nat} (h : (l.take k).all p = true) (hk : k < l.length) : (l.take (k + 1)).all p = p l[k] := by
  rw [List.take_succ_eq_append_getElem hk, List.all_append, h]
  simp
theorem all_not {p : UInt8 → Bool} {l : List UInt8} {k : Nat} (hk : k < l.length) (h : p l[k] = false) : l.all p = false := by
  rw [List.all_eq_false]
  exact ⟨l[k], List.getElem_mem hk, by rw [h]; simp⟩
set_option maxRecDepth 100000 in
theorem all_any {f : Nat} {p : UInt8 → Bool} (ht : Tells f p) (hf : ∀ args w, (callFunc f args).run Tryz.prog w = .ok (.enter f args) w) (l : List UInt8) (w : World) (hl : l.length ≤ 9223372036854775807) : Calls Tryz.prog 166 #[.string (str l), .func (.func f) #[] #[]] w fun e w' => e = .returned (.bool (Ids.allOf p l)) ∧ w = w' := by
  have hsz := str_size l
  have hem := empty_str l
  obtain ⟨N, hN⟩ : ∃ N, l.length = N := ⟨_, rfl⟩
  rw [hN] at hsz hl
  have HN := Lib.hid hN
  clear hN
  go_enter Tryz.func166, Tryz.ntmps166
  go_wp2
  go_loop [5, 8] (fun _ i => ∃ k : Nat, k ≤ N ∧ i = .int .i64 k ∧ Hid ((l.take k).all p = true)) (fun _ i => N - (intOf i).toNat)
  case atStart => exact ⟨0, by omega, rfl, Lib.hid (by simp)⟩
  case round =>
    obtain ⟨k, hk, rfl, HA⟩ := hrel
    by_cases hlt : k < N
    · have hks : k < (str l).size := by omega
      have hkl : k < l.length := by rw [HN.out]; exact hlt
      have hce : (str l)[k] = l[k] := rfl
      have hcall := ht (str l)[k] w
      rw [hce] at hcall
      cases hp : p l[k] with
      | true =>
        have hA := Lib.hid ((all_take HA.out hkl).trans hp)
        rw [hp] at hcall
        clear hp hem
        go_wp2_with fail
        refine hcall.mono ?_
        rintro e w' ⟨rfl, rfl⟩
        go_wp2
        go_round
        case rel => exact ⟨k + 1, by omega, by go_num, hA⟩
        case measure => simp [intOf]; omega
      | false =>
        have hA : Hid (Ids.allOf p l = false) := Lib.hid (by unfold Ids.allOf; rw [all_not hkl hp]; rfl)
        rw [hp] at hcall
        clear hp hem
        go_wp2_with fail
        refine hcall.mono ?_
        rintro e w' ⟨rfl, rfl⟩
        go_wp2
        go_ret
        exact ⟨by rw [hA.out]; rfl, rfl⟩
    · obtain rfl : k = N := by omega
      have hA : Hid (Ids.allOf p l = !l.isEmpty) := Lib.hid (by
        unfold Ids.allOf
        have := HA.out
        rw [← HN.out, List.take_length] at this
        rw [this]
        rfl)
      have HE := Lib.hid hem
      clear hem
      go_wp2
      go_ret
      exact ⟨by rw [hA.out, ← HE.out]; simp, rfl⟩
end Go.Proofs.YtmbpnkacggngkaaGreatDoor
