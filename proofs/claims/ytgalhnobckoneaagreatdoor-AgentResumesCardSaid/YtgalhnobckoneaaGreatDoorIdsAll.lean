/- IdsKinds, IdsRef, IdsRef2, IdsRef3, IdsDomain, IdsSel, IdsSplit, Fence, IdsPath, IdsMake, IdsSame (put together by merge.py). -/
import Derived.Test.YtgalhnobckoneaaGreatDoorMem
import Derived.Test.YtgalhnobckoneaaGreatDoorIdsSpec
import Derived.Test.YtgalhnobckoneaaGreatDoorProg
import Derived.BigQuiet
import Derived.Test.YtgalhnobckoneaaGreatDoorShelf
import Derived.Shelf.Strings.SlTrimAscii
import Derived.Test.YtgalhnobckoneaaGreatDoorTexts
import Derived.Shelf.Strings.SplitCore
import Derived.Test.YtgalhnobckoneaaGreatDoorArr
import Derived.RangeFuncNested
import Derived.RangeFuncBound
import Derived.RangeFuncCalls
import Derived.RangeFuncLeaves
import Derived.Shelf.Abstract
import Derived.Shelf.RegionOpen
import Derived.OwnWalkIn
import Derived.OrdersHeld
import Derived.TacticsInMore
import Derived.LoopNIn
import Derived.LoopIn
import Derived.Laws.NewBlocks
/- THE WALKS of ids' kinds of bytes, of 'all', and of the reference's 'in' and 'of'. -/
namespace Go.Proofs.YtgalhnobckoneaaGreatDoor
open Go.RowKit Mem

theorem u8_beq (c : UInt8) (k : Nat) (hk : k < 256) : (c == UInt8.ofNat k) = decide (c.toNat = k) := by
  rw [Bool.eq_iff_iff]
  simp only [beq_iff_eq, decide_eq_true_eq]
  constructor
  · rintro rfl
    simp
    omega
  · rintro rfl
    simp
theorem small_any (c : UInt8) (w : World) : Calls Tryz.prog 86 #[.int .u8 (c.toNat : Int)] w fun e w' => e = .returned (.bool (Ids.small c)) ∧ w = w' := by
  unfold Ids.small
  have hc := c.toNat_lt
  generalize c.toNat = n at *
  obtain ⟨r, hr⟩ : ∃ r, decide (97 ≤ n ∧ n ≤ 122) = r := ⟨_, rfl⟩
  have HR := Lib.hid hr
  rw [hr]
  clear hr
  go_enter Tryz.func86, Tryz.ntmps86
  go_wp2
  all_goals
    go_ret
    refine ⟨?_, rfl⟩
    show Ending.returned (.bool _) = _
    rw [← HR.out]
    congr 2
    rw [Bool.eq_iff_iff]
    simp
    omega
theorem digit_any (c : UInt8) (w : World) : Calls Tryz.prog 87 #[.int .u8 (c.toNat : Int)] w fun e w' => e = .returned (.bool (Ids.digit c)) ∧ w = w' := by
  unfold Ids.digit
  have hc := c.toNat_lt
  generalize c.toNat = n at *
  obtain ⟨r, hr⟩ : ∃ r, decide (48 ≤ n ∧ n ≤ 57) = r := ⟨_, rfl⟩
  have HR := Lib.hid hr
  rw [hr]
  clear hr
  go_enter Tryz.func87, Tryz.ntmps87
  go_wp2
  all_goals
    go_ret
    refine ⟨?_, rfl⟩
    show Ending.returned (.bool _) = _
    rw [← HR.out]
    congr 2
    rw [Bool.eq_iff_iff]
    simp
    omega
theorem inner_any (c : UInt8) (w : World) : Calls Tryz.prog 44 #[.int .u8 (c.toNat : Int)] w fun e w' => e = .returned (.bool (Ids.inner c)) ∧ w = w' := by
  have h1 := small_any c w
  have h2 := digit_any c w
  unfold Ids.inner
  rw [show (46 : UInt8) = UInt8.ofNat 46 from rfl, show (45 : UInt8) = UInt8.ofNat 45 from rfl, u8_beq c 46 (by omega), u8_beq c 45 (by omega)]
  have hc := c.toNat_lt
  generalize c.toNat = n at *
  generalize Ids.small c = a at *
  generalize Ids.digit c = b at *
  obtain ⟨r, hr⟩ : ∃ r, (a || b || decide (n = 46) || decide (n = 45)) = r := ⟨_, rfl⟩
  have HR := Lib.hid hr
  rw [hr]
  clear hr
  go_enter Tryz.func44, Tryz.ntmps44
  cases a <;> cases b
  all_goals
    go_wp2_with (first | (go_at_call 86; refine h1.mono ?_; rintro e w' ⟨rfl, rfl⟩) | (go_at_call 87; refine h2.mono ?_; rintro e w' ⟨rfl, rfl⟩))
    all_goals
      go_ret
      refine ⟨?_, rfl⟩
      show Ending.returned (.bool _) = _
      rw [← HR.out]
      congr 2
      all_goals
        rw [Bool.eq_iff_iff]
        simp
        try omega
theorem named_any (c : UInt8) (w : World) : Calls Tryz.prog 98 #[.int .u8 (c.toNat : Int)] w fun e w' => e = .returned (.bool (Ids.named c)) ∧ w = w' := by
  have h1 := inner_any c w
  unfold Ids.named
  rw [show (95 : UInt8) = UInt8.ofNat 95 from rfl, u8_beq c 95 (by omega)]
  have hc := c.toNat_lt
  generalize c.toNat = n at *
  generalize Ids.inner c = a at *
  obtain ⟨r, hr⟩ : ∃ r, (a || decide (65 ≤ n ∧ n ≤ 90) || decide (n = 95)) = r := ⟨_, rfl⟩
  have HR := Lib.hid hr
  rw [hr]
  clear hr
  go_enter Tryz.func98, Tryz.ntmps98
  cases a
  all_goals
    go_wp2_with (go_at_call 44; refine h1.mono ?_; rintro e w' ⟨rfl, rfl⟩)
    all_goals
      go_ret
      refine ⟨?_, rfl⟩
      show Ending.returned (.bool _) = _
      rw [← HR.out]
      congr 2
      all_goals
        rw [Bool.eq_iff_iff]
        simp
        try omega

/-- 'all(s, is)': of a function that tells of a byte what p tells. -/
def Tells (f : Nat) (p : UInt8 → Bool) : Prop := ∀ (c : UInt8) (w : World), Calls Tryz.prog f #[.int .u8 (c.toNat : Int)] w fun e w' => e = .returned (.bool (p c)) ∧ w = w'
theorem empty_str (l : List UInt8) : decide (str l = ⟨#[]⟩) = l.isEmpty := by
  cases l with
  | nil => rfl
  | cons a t =>
    rw [decide_eq_false]
    · rfl
    · intro h
      have := congrArg (fun x : ByteArray => x.data.size) h
      simp [str] at this

theorem all_take {p : UInt8 → Bool} {l : List UInt8} {k : Nat} (h : (l.take k).all p = true) (hk : k < l.length) : (l.take (k + 1)).all p = p l[k] := by
  rw [List.take_succ_eq_append_getElem hk, List.all_append, h]
  simp
theorem all_not {p : UInt8 → Bool} {l : List UInt8} {k : Nat} (hk : k < l.length) (h : p l[k] = false) : l.all p = false := by
  rw [List.all_eq_false]
  exact ⟨l[k], List.getElem_mem hk, by rw [h]; simp⟩
set_option maxRecDepth 100000 in
theorem all_any {f : Nat} {p : UInt8 → Bool} (ht : Tells f p) (hf : ∀ args w, (callFunc f args).run Tryz.prog w = .ok (.enter f args) w) (l : List UInt8) (w : World) (hl : l.length ≤ 9223372036854775807) : Calls Tryz.prog 43 #[.string (str l), .func (.func f) #[] #[]] w fun e w' => e = .returned (.bool (Ids.allOf p l)) ∧ w = w' := by
  have hsz := str_size l
  have hem := empty_str l
  obtain ⟨N, hN⟩ : ∃ N, l.length = N := ⟨_, rfl⟩
  rw [hN] at hsz hl
  have HN := Lib.hid hN
  clear hN
  go_enter Tryz.func43, Tryz.ntmps43
  go_wp2
  go_loop [5, 8] (fun _ i => ∃ k : Nat, k ≤ N ∧ i = .int .i64 k ∧ Hid ((l.take k).all p = true)) (fun _ i => N - (intOf i).toNat)
  case atStart => exact ⟨0, by omega, rfl, Lib.hid (by simp)⟩
  case round =>
    obtain ⟨k, hk, rfl, HA⟩ := hrel
    by_cases hlt : k < N
    · have hks : k < (str l).size := by omega
      have hkl : k < l.length := by rw [HN.out]; exact hlt
      have hce : (str l)[k] = l[k] := rfl
      have hcall := ht (str l)[k] w
      rw [hce] at hcall
      cases hp : p l[k] with
      | true =>
        have hA := Lib.hid ((all_take HA.out hkl).trans hp)
        rw [hp] at hcall
        clear hp hem
        go_wp2_with fail
        refine hcall.mono ?_
        rintro e w' ⟨rfl, rfl⟩
        go_wp2
        go_round
        case rel => exact ⟨k + 1, by omega, by go_num, hA⟩
        case measure => simp [intOf]; omega
      | false =>
        have hA : Hid (Ids.allOf p l = false) := Lib.hid (by unfold Ids.allOf; rw [all_not hkl hp]; rfl)
        rw [hp] at hcall
        clear hp hem
        go_wp2_with fail
        refine hcall.mono ?_
        rintro e w' ⟨rfl, rfl⟩
        go_wp2
        go_ret
        exact ⟨by rw [hA.out]; rfl, rfl⟩
    · obtain rfl : k = N := by omega
      have hA : Hid (Ids.allOf p l = !l.isEmpty) := Lib.hid (by
        unfold Ids.allOf
        have := HA.out
        rw [← HN.out, List.take_length] at this
        rw [this]
        rfl)
      have HE := Lib.hid hem
      clear hem
      go_wp2
      go_ret
      exact ⟨by rw [hA.out, ← HE.out]; simp, rfl⟩
end Go.Proofs.YtgalhnobckoneaaGreatDoor
/- THE WALKS of the reference's ids: in, of, Domain. -/
namespace Go.Proofs.YtgalhnobckoneaaGreatDoor
open Go.RowKit Mem

theorem contains_take {m : List UInt8} {c : UInt8} {k : Nat} (h : (m.take k).contains c = false) (hk : k < m.length) (hn : m[k].toNat ≠ c.toNat) : (m.take (k + 1)).contains c = false := by
  rw [List.take_succ_eq_append_getElem hk, List.contains_eq_any_beq, List.any_append, ← List.contains_eq_any_beq, h]
  simp
  intro e
  exact hn (by rw [← e])
theorem in_any (c : UInt8) (m : List UInt8) (w : World) (hl : m.length ≤ 9223372036854775807) : Calls Tryz.prog 32 #[.int .u8 (c.toNat : Int), .string (str m)] w fun e w' => e = .returned (.bool (m.contains c)) ∧ w = w' := by
  have hsz := str_size m
  obtain ⟨N, hN⟩ : ∃ N, m.length = N := ⟨_, rfl⟩
  rw [hN] at hsz hl
  have HN := Lib.hid hN
  clear hN
  obtain ⟨r, hr0⟩ : ∃ r, m.contains c = r := ⟨_, rfl⟩
  have HR := Lib.hid hr0
  rw [hr0]
  clear hr0
  go_enter Tryz.func32, Tryz.ntmps32
  go_wp2
  go_loop [5] (fun i => ∃ k : Nat, k ≤ N ∧ i = .int .i64 k ∧ Hid ((m.take k).contains c = false)) (fun i => N - (intOf i).toNat)
  case atStart => exact ⟨0, by omega, rfl, Lib.hid (by simp)⟩
  case round =>
    obtain ⟨k, hk, rfl, HA⟩ := hrel
    by_cases hlt : k < N
    · have hks : k < (str m).size := by omega
      have hkl : k < m.length := by rw [HN.out]; exact hlt
      have hce : (str m)[k] = m[k] := rfl
      by_cases he : m[k].toNat = c.toNat
      · have hr : Hid (m.contains c = true) := Lib.hid (by
          have : m[k] = c := UInt8.toNat.inj he
          rw [List.contains_iff_mem, ← this]
          exact List.getElem_mem hkl)
        rw [← hce] at he
        clear hce
        go_wp2
        go_ret
        exact ⟨by rw [← HR.out, hr.out]; rfl, rfl⟩
      · have hr := Lib.hid (contains_take HA.out hkl he)
        rw [← hce] at he
        clear hce
        go_wp2
        go_round
        case rel => exact ⟨k + 1, by omega, by go_num, hr⟩
        case measure => simp [intOf]; omega
    · obtain rfl : k = N := by omega
      have hr : Hid (m.contains c = false) := Lib.hid (by have := HA.out; rwa [← HN.out, List.take_length] at this)
      go_wp2
      go_ret
      exact ⟨by rw [← HR.out, hr.out]; rfl, rfl⟩
theorem of_any (l m : List UInt8) (most : Nat) (w : World) (hl : l.length ≤ 9223372036854775807) (hm : m.length ≤ 9223372036854775807) : Calls Tryz.prog 31 #[.string (str l), .string (str m), .int .i64 (most : Int)] w fun e w' => e = .returned (.bool (Ids.ofOf m most l)) ∧ w = w' := by
  have hsz := str_size l
  obtain ⟨N, hN⟩ : ∃ N, l.length = N := ⟨_, rfl⟩
  rw [hN] at hsz hl
  have HN := Lib.hid hN
  clear hN
  go_enter Tryz.func31, Tryz.ntmps31
  go_wp2
  go_loop [7, 8] (fun i _ => ∃ k : Nat, k ≤ N ∧ i = .int .i64 k ∧ Hid ((l.take k).all (fun c => m.contains c) = true)) (fun i _ => N - (intOf i).toNat)
  case atStart => exact ⟨0, by omega, rfl, Lib.hid (by simp)⟩
  case round =>
    obtain ⟨k, hk, rfl, HA⟩ := hrel
    by_cases hlt : k < N
    · have hks : k < (str l).size := by omega
      have hkl : k < l.length := by rw [HN.out]; exact hlt
      have hce : (str l)[k] = l[k] := rfl
      have hcall := in_any l[k] m w hm
      rw [← hce] at hcall
      cases hp : m.contains l[k] with
      | true =>
        have hA := Lib.hid ((all_take (p := fun c => m.contains c) HA.out hkl).trans hp)
        rw [hce, hp, ← hce] at hcall
        clear hp hce
        go_wp2_with fail
        refine hcall.mono ?_
        rintro e w' ⟨rfl, rfl⟩
        go_wp2
        go_round
        case rel => exact ⟨k + 1, by omega, by go_num, hA⟩
        case measure => simp [intOf]; omega
      | false =>
        have hA : Hid (Ids.ofOf m most l = false) := Lib.hid (by unfold Ids.ofOf; rw [all_not (p := fun c => m.contains c) hkl hp]; rfl)
        rw [hce, hp, ← hce] at hcall
        clear hp hce
        go_wp2_with fail
        refine hcall.mono ?_
        rintro e w' ⟨rfl, rfl⟩
        go_wp2
        go_ret
        exact ⟨by rw [hA.out]; rfl, rfl⟩
    · obtain rfl : k = N := by omega
      have hA : Hid (Ids.ofOf m most l = (decide (1 ≤ k) && decide (k ≤ most))) := Lib.hid (by
        unfold Ids.ofOf
        have := HA.out
        rw [← HN.out, List.take_length] at this
        rw [this, HN.out]
        rfl)
      by_cases h1 : 1 ≤ k
      · by_cases h2 : k ≤ most
        · go_wp2
          go_ret
          exact ⟨by rw [hA.out]; simp [h1, h2], rfl⟩
        · go_wp2
          go_ret
          exact ⟨by rw [hA.out]; simp [h1, h2], rfl⟩
      · go_wp2
        go_ret
        exact ⟨by rw [hA.out]; simp [h1], rfl⟩
theorem edged_ends {l : List UInt8} {M : Nat} (hN : l.length = M + 1) : Ids.edged l = (Ids.dotty (l[0]'(by omega)) || Ids.dotty (l[M]'(by omega))) := by
  unfold Ids.edged
  rw [List.head?_eq_getElem?, List.getLast?_eq_getElem?, show l.length - 1 = M by omega, List.getElem?_eq_getElem (by omega), List.getElem?_eq_getElem (by omega)]
  rfl
set_option maxRecDepth 100000 in
theorem rdomain_any (l : List UInt8) (w : World) (hl : l.length ≤ 9223372036854775807) : Calls Tryz.prog 14 #[.string (str l)] w fun e w' => e = .returned (.bool (Ids.domain l)) ∧ w = w' := by
  have hof := of_any l Ids.lInner 16 w hl (by decide)
  rw [Ids.of_inner] at hof
  have hsz := str_size l
  unfold Ids.domain
  cases hd : (decide (l.length ≤ 16) && Ids.allOf Ids.inner l)
  · rw [hd] at hof
    go_enter Tryz.func14, Tryz.ntmps14
    go_wp2_with fail
    refine hof.mono ?_
    rintro e w' ⟨rfl, rfl⟩
    go_wp2
    go_ret
    exact ⟨rfl, rfl⟩
  · rw [hd] at hof
    have h16 : l.length ≤ 16 ∧ 1 ≤ l.length := by
      simp only [Bool.and_eq_true, decide_eq_true_eq] at hd
      refine ⟨hd.1, ?_⟩
      have := hd.2
      unfold Ids.allOf at this
      rw [Ids.isEmpty_len] at this
      simp only [Bool.and_eq_true, decide_eq_true_eq] at this
      exact this.2
    obtain ⟨M, hM⟩ : ∃ M, l.length = M + 1 := ⟨l.length - 1, by omega⟩
    clear hsz
    have hsz : (str l).size = M + 1 := by rw [str_size, hM]
    have h0 : 0 < (str l).size := by omega
    have h1 : M < (str l).size := by omega
    have e0 : (str l)[0] = l[0]'(by omega) := rfl
    have e1 : (str l)[M] = l[M]'(by omega) := rfl
    have c0 := in_any (l[0]'(by omega)) [46, 45] w (by decide)
    have c1 := in_any (l[M]'(by omega)) [46, 45] w (by decide)
    rw [Ids.dotty_list] at c0 c1
    have hed := edged_ends hM
    rw [hed]
    rw [← e0] at c0 ⊢
    rw [← e1] at c1 ⊢
    generalize Ids.dotty (str l)[0] = a at *
    generalize Ids.dotty (str l)[M] = b at *
    have HM := Lib.hid hM
    have hM16 : M ≤ 16 := by omega
    clear hd hed e0 e1 hM
    go_enter Tryz.func14, Tryz.ntmps14
    go_wp2_with fail
    refine hof.mono ?_
    rintro e w' ⟨rfl, rfl⟩
    clear hof
    go_wp2_with fail
    refine c0.mono ?_
    rintro e w' ⟨rfl, rfl⟩
    clear c0
    go_wp2_with fail
    refine c1.mono ?_
    rintro e w' ⟨rfl, rfl⟩
    clear c1
    cases a <;> cases b
    all_goals
      go_wp2
      go_ret
      exact ⟨rfl, rfl⟩

/-- A piece of a text. -/
theorem sub_str (l : List UInt8) (a b : Nat) : (str l).extract a b = str ((l.take b).drop a) := by
  apply ByteArray.ext
  simp [str, List.drop_take]
theorem str_same (a b : List UInt8) : decide (str a = str b) = (a == b) := by
  rw [Bool.eq_iff_iff]
  simp only [decide_eq_true_eq, beq_iff_eq]
  exact ⟨fun h => str_inj h, fun h => by rw [h]⟩
/-- What is left to do when the pieces ahead of 'from' are right. -/
theorem segs_step {l : List UInt8} {a k : Nat} (hak : a ≤ k) (hk : k ≤ l.length) (h : 47 ∉ (l.take k).drop a) : Ids.segsOk (l.drop a) = if k < l.length ∧ l[k]? = some 47 then (Ids.segOk ((l.take k).drop a) && Ids.segsOk (l.drop (k + 1))) else if k = l.length then Ids.segOk ((l.take k).drop a) else Ids.segsOk (l.drop a) := by
  by_cases h1 : k < l.length ∧ l[k]? = some 47
  · rw [if_pos h1]
    obtain ⟨h1, h2⟩ := h1
    have e : l.drop a = (l.take k).drop a ++ 47 :: l.drop (k + 1) := by
      have hx := h2
      rw [List.getElem?_eq_getElem h1] at hx
      injection hx with hx
      have h3 : l = l.take k ++ 47 :: l.drop (k + 1) := by rw [← hx, ← List.drop_eq_getElem_cons h1, List.take_append_drop]
      conv => lhs; rw [h3]
      rw [List.drop_append_of_le_length (by rw [List.length_take]; omega)]
    unfold Ids.segsOk
    rw [e, Ids.pieces_cut h, List.all_cons]
  · rw [if_neg h1]
    by_cases h2 : k = l.length
    · rw [if_pos h2]
      subst h2
      rw [List.take_length] at h ⊢
      unfold Ids.segsOk
      rw [Ids.pieces_none h]
      simp
    · rw [if_neg h2]
end Go.Proofs.YtgalhnobckoneaaGreatDoor
/- THE WALKS of the reference's ids: Path, Agent. -/
namespace Go.Proofs.YtgalhnobckoneaaGreatDoor
open Go.RowKit Mem

/-- 'x != y' of two bytes, as the walk asks it. -/
theorem ne_yes {n k : Nat} (h : ¬ n = k) : ((n : Int) != (k : Int)) = true := by simp; omega
theorem ne_no {n k : Nat} (h : n = k) : ((n : Int) != (k : Int)) = false := by simp [h]
theorem eq_yes {n k : Nat} (h : n = k) : ((n : Int) == (k : Int)) = true := by simp [h]
theorem eq_no {n k : Nat} (h : ¬ n = k) : ((n : Int) == (k : Int)) = false := by simp; omega
theorem path_cons (c : UInt8) (t : List UInt8) : Ids.path (c :: t) = (decide (t.length + 1 ≤ 40) && c == 47 && Ids.segsOk t) := rfl
theorem path_drop {l : List UInt8} {N : Nat} (hN : l.length = N) (h : 1 ≤ N) : Ids.path l = (decide (N ≤ 40) && (l[0]'(by omega) == 47) && Ids.segsOk (l.drop 1)) := by
  subst hN
  match l, h with
  | c :: t, _ => rw [path_cons]; rfl
theorem path_short {l : List UInt8} (h : l.length < 2) : Ids.path l = false := by
  match l, h with
  | [], _ => rfl
  | [c], _ => rw [path_cons]; simp [Ids.segsOk, Ids.pieces, Ids.segOk, Ids.allOf]
theorem segOk_eq (w : List UInt8) : Ids.segOk w = (Ids.allOf Ids.named w && !(w == [46]) && !(w == [46, 46])) := rfl
theorem no47_next {l : List UInt8} {a k : Nat} (ha : a ≤ k) (hk : k < l.length) (h : 47 ∉ (l.take k).drop a) (hn : l[k] ≠ 47) : 47 ∉ (l.take (k + 1)).drop a := by
  rw [List.take_succ_eq_append_getElem hk, List.drop_append_of_le_length (by rw [List.length_take]; omega)]
  intro hm
  rcases List.mem_append.1 hm with hm | hm
  · exact h hm
  · simp at hm
    exact hn hm.symm

set_option maxRecDepth 100000 in
set_option maxHeartbeats 1000000 in
theorem rpath_any (l : List UInt8) (w : World) (hl : l.length ≤ 9223372036854775807) : Calls Tryz.prog 33 #[.string (str l)] w fun e w' => e = .returned (.bool (Ids.path l)) ∧ w = w' := by
  obtain ⟨r, hr0⟩ : ∃ r, Ids.path l = r := ⟨_, rfl⟩
  have HR := Lib.hid hr0
  rw [hr0]
  clear hr0
  obtain ⟨N, hN⟩ : ∃ N, l.length = N := ⟨_, rfl⟩
  have HN := Lib.hid hN
  have hsz : (str l).size = N := by rw [str_size, hN]
  rw [hN] at hl
  by_cases h2 : N < 2
  · have hp := Lib.hid (path_short (l := l) (by omega))
    clear hN
    go_enter Tryz.func33, Tryz.ntmps33
    go_wp2
    go_ret
    exact ⟨by rw [← HR.out, hp.out]; rfl, rfl⟩
  · have hpd := path_drop hN (by omega)
    by_cases h40 : 40 < N
    · have hp : Hid (Ids.path l = false) := Lib.hid (by rw [hpd, decide_eq_false (by omega)]; rfl)
      clear hN hpd
      go_enter Tryz.func33, Tryz.ntmps33
      go_wp2
      go_ret
      exact ⟨by rw [← HR.out, hp.out]; rfl, rfl⟩
    · rw [decide_eq_true (by omega), Bool.true_and, show (47 : UInt8) = UInt8.ofNat 47 from rfl, u8_beq _ 47 (by omega)] at hpd
      have h0 : 0 < (str l).size := by omega
      have e0 : (str l)[0] = l[0]'(by omega) := rfl
      by_cases h47 : (l[0]'(by omega)).toNat = 47
      · have hp : Hid (Ids.path l = Ids.segsOk (l.drop 1)) := Lib.hid (by rw [hpd, decide_eq_true h47, Bool.true_and])
        rw [← e0] at h47
        have hb47 : (((str l)[0].toNat : Int) != 47) = false := ne_no h47
        clear hN hpd e0 h47
        go_enter Tryz.func33, Tryz.ntmps33
        go_wp2_with fail
        go_loop [3, 4, 5, 6] (fun a i _ _ => ∃ k m : Nat, 1 ≤ m ∧ m ≤ k ∧ k ≤ N + 1 ∧ i = .int .i64 k ∧ a = .int .i64 m ∧ Hid ((k ≤ N ∧ 47 ∉ (l.take k).drop m ∧ Ids.path l = Ids.segsOk (l.drop m)) ∨ (k = N + 1 ∧ Ids.path l = true))) (fun _ i _ _ => N + 1 - (intOf i).toNat)
        case atStart => exact ⟨1, 1, by omega, by omega, by omega, rfl, rfl, Lib.hid (.inl ⟨by omega, by rw [List.drop_of_length_le (by rw [List.length_take]; omega)]; simp, hp.out⟩)⟩
        case round =>
          obtain ⟨k, m, hm1, hmk, hkN, rfl, rfl, HH⟩ := hrel
          clear hp
          by_cases hle : k ≤ N
          · have hinv : 47 ∉ (l.take k).drop m ∧ Ids.path l = Ids.segsOk (l.drop m) := by
              rcases HH.out with h | h
              · exact h.2
              · omega
            have HI := Lib.hid hinv
            clear hinv HH
            have hstep := segs_step hmk (by rw [HN.out]; exact hle) HI.out.1
            rw [HN.out] at hstep
            have hex := sub_str l m k
            have hWl : ((l.take k).drop m).length ≤ 40 := by rw [List.length_drop, List.length_take]; omega
            obtain ⟨W, hW⟩ : ∃ W, (l.take k).drop m = W := ⟨_, rfl⟩
            rw [hW] at HI hstep hex hWl
            have hof := of_any W Ids.lNamed 40 w (by omega) (by decide)
            rw [Ids.of_named hWl] at hof
            have hd1 : decide (str W = ⟨#[46]⟩) = (W == [46]) := str_same W [46]
            have hd2 : decide (str W = ⟨#[46, 46]⟩) = (W == [46, 46]) := str_same W [46, 46]
            have HSO := Lib.hid (segOk_eq W)
            by_cases hgo : k < N ∧ ¬ (∃ h : k < l.length, l[k].toNat = 47)
            · obtain ⟨hlt, hn47⟩ := hgo
              have hkl : k < l.length := by rw [HN.out]; exact hlt
              have hne : ¬ l[k].toNat = 47 := fun e => hn47 ⟨hkl, e⟩
              have hnext : Hid ((k + 1 ≤ N ∧ 47 ∉ (l.take (k + 1)).drop m ∧ Ids.path l = Ids.segsOk (l.drop m)) ∨ (k + 1 = N + 1 ∧ Ids.path l = true)) :=
                Lib.hid (.inl ⟨by omega, no47_next hmk hkl (by rw [hW]; exact HI.out.1) (fun e => hne (by rw [e]; rfl)), HI.out.2⟩)
              have hks : k < (str l).size := by omega
              have hb : (((str l)[k].toNat : Int) != 47) = true := ne_yes (n := (str l)[k].toNat) hne
              clear hstep hof hd1 hd2 hWl hex hne hn47 hkl hW
              go_wp2_with fail
              go_round
              case rel => exact ⟨k + 1, m, hm1, by omega, by omega, by go_num, rfl, hnext⟩
              case measure => simp [intOf]; omega
            · have HH2 := hgo
              by_cases hlt : k < N
              · have hkl : k < l.length := by rw [HN.out]; exact hlt
                have hks : k < (str l).size := by omega
                have h47n : (l[k]'hkl).toNat = 47 := by
                  apply Classical.byContradiction
                  intro hx
                  exact hgo ⟨hlt, fun ⟨_, h⟩ => hx h⟩
                have h47k : l[k]? = some 47 := by
                  rw [List.getElem?_eq_getElem hkl]
                  congr 1
                  exact UInt8.toNat.inj h47n
                clear hgo
                have hpw : Hid (Ids.path l = (Ids.segOk W && Ids.segsOk (l.drop (k + 1)))) := Lib.hid (by rw [HI.out.2, hstep]; rw [if_pos ⟨hlt, h47k⟩])
                have hb : (((str l)[k].toNat : Int) != 47) = false := ne_no (n := (str l)[k].toNat) h47n
                clear h47k h47n hkl
                have hnext : Ids.segOk W = true → Hid ((k + 1 ≤ N ∧ 47 ∉ (l.take (k + 1)).drop (k + 1) ∧ Ids.path l = Ids.segsOk (l.drop (k + 1))) ∨ (k + 1 = N + 1 ∧ Ids.path l = true)) := fun hs => by
                  have hq := hpw.out
                  rw [hs, Bool.true_and] at hq
                  exact Lib.hid (.inl ⟨by omega, by rw [List.drop_of_length_le (by rw [List.length_take]; omega)]; simp, hq⟩)
                clear hstep hW HH2 hd1 hd2
                cases ha : Ids.allOf Ids.named W
                · have hp : Hid (Ids.path l = false) := Lib.hid (by rw [hpw.out, HSO.out, ha]; rfl)
                  rw [ha] at hof
                  clear ha hnext
                  go_wp2_with fail
                  refine hof.mono ?_
                  rintro e w' ⟨rfl, rfl⟩
                  go_wp2
                  go_ret
                  exact ⟨by rw [← HR.out, hp.out]; rfl, rfl⟩
                · rw [ha] at hof
                  cases h1 : (W == [46])
                  · cases h2 : (W == [46, 46])
                    · have HN2 := hnext (by rw [HSO.out, ha, h1, h2]; rfl)
                      clear ha hnext
                      go_wp2_with fail
                      refine hof.mono ?_
                      rintro e w' ⟨rfl, rfl⟩
                      clear hof
                      go_wp2
                      go_round
                      case rel => exact ⟨k + 1, k + 1, by omega, by omega, by omega, by go_num, by go_num, HN2⟩
                      case measure => simp [intOf]; omega
                    · have hp : Hid (Ids.path l = false) := Lib.hid (by rw [hpw.out, HSO.out, ha, h1, h2]; rfl)
                      clear ha hnext
                      go_wp2_with fail
                      refine hof.mono ?_
                      rintro e w' ⟨rfl, rfl⟩
                      clear hof
                      go_wp2
                      go_ret
                      exact ⟨by rw [← HR.out, hp.out]; rfl, rfl⟩
                  · have hp : Hid (Ids.path l = false) := Lib.hid (by rw [hpw.out, HSO.out, ha, h1]; rfl)
                    clear ha hnext
                    go_wp2_with fail
                    refine hof.mono ?_
                    rintro e w' ⟨rfl, rfl⟩
                    clear hof
                    go_wp2
                    go_ret
                    exact ⟨by rw [← HR.out, hp.out]; rfl, rfl⟩
              · have hkE : k = N := by omega
                clear hgo
                have hpw : Hid (Ids.path l = (Ids.segOk W && true)) := Lib.hid (by rw [HI.out.2, hstep]; rw [if_neg (by omega), if_pos hkE, Bool.and_true])
                
                have hnext : Ids.segOk W = true → Hid ((k + 1 ≤ N ∧ 47 ∉ (l.take (k + 1)).drop (k + 1) ∧ Ids.path l = Ids.segsOk (l.drop (k + 1))) ∨ (k + 1 = N + 1 ∧ Ids.path l = true)) := fun hs => by
                  have hq := hpw.out
                  rw [hs, Bool.true_and] at hq
                  exact Lib.hid (.inr ⟨by omega, hq⟩)
                clear hstep hW HH2 hd1 hd2 hkE
                cases ha : Ids.allOf Ids.named W
                · have hp : Hid (Ids.path l = false) := Lib.hid (by rw [hpw.out, HSO.out, ha]; rfl)
                  rw [ha] at hof
                  clear ha hnext
                  go_wp2_with fail
                  refine hof.mono ?_
                  rintro e w' ⟨rfl, rfl⟩
                  go_wp2
                  go_ret
                  exact ⟨by rw [← HR.out, hp.out]; rfl, rfl⟩
                · rw [ha] at hof
                  cases h1 : (W == [46])
                  · cases h2 : (W == [46, 46])
                    · have HN2 := hnext (by rw [HSO.out, ha, h1, h2]; rfl)
                      clear ha hnext
                      go_wp2_with fail
                      refine hof.mono ?_
                      rintro e w' ⟨rfl, rfl⟩
                      clear hof
                      go_wp2
                      go_round
                      case rel => exact ⟨k + 1, k + 1, by omega, by omega, by omega, by go_num, by go_num, HN2⟩
                      case measure => simp [intOf]; omega
                    · have hp : Hid (Ids.path l = false) := Lib.hid (by rw [hpw.out, HSO.out, ha, h1, h2]; rfl)
                      clear ha hnext
                      go_wp2_with fail
                      refine hof.mono ?_
                      rintro e w' ⟨rfl, rfl⟩
                      clear hof
                      go_wp2
                      go_ret
                      exact ⟨by rw [← HR.out, hp.out]; rfl, rfl⟩
                  · have hp : Hid (Ids.path l = false) := Lib.hid (by rw [hpw.out, HSO.out, ha, h1]; rfl)
                    clear ha hnext
                    go_wp2_with fail
                    refine hof.mono ?_
                    rintro e w' ⟨rfl, rfl⟩
                    clear hof
                    go_wp2
                    go_ret
                    exact ⟨by rw [← HR.out, hp.out]; rfl, rfl⟩
          · obtain rfl : k = N + 1 := by omega
            have hp : Hid (Ids.path l = true) := Lib.hid (by rcases HH.out with h | h; omega; exact h.2)
            clear HH
            go_wp2
            go_ret
            exact ⟨by rw [← HR.out, hp.out]; rfl, rfl⟩
      · have hp : Hid (Ids.path l = false) := Lib.hid (by rw [hpd, decide_eq_false h47]; rfl)
        rw [← e0] at h47
        have hb47 : (((str l)[0].toNat : Int) != 47) = true := ne_yes h47
        clear hN hpd e0 h47
        go_enter Tryz.func33, Tryz.ntmps33
        go_wp2
        go_ret
        exact ⟨by rw [← HR.out, hp.out]; rfl, rfl⟩
end Go.Proofs.YtgalhnobckoneaaGreatDoor
/- THE WALKS of the reference's ids: Agent, Selector, Parse. -/
namespace Go.Proofs.YtgalhnobckoneaaGreatDoor
open Go.RowKit Mem

theorem below_drewM (B : Nat) (w : World) (k : Nat) : Below B w (w.drewN k) := ⟨rfl, rfl, rfl, Nat.le_refl _, fun _ _ => rfl⟩
theorem prefix_take {p l : List UInt8} {n : Nat} (hn : p.length = n) : p.isPrefixOf l = (l.take n == p) := by
  rw [Bool.eq_iff_iff]
  simp only [List.isPrefixOf_iff_prefix, beq_iff_eq]
  rw [List.prefix_iff_eq_take, hn]
  exact ⟨fun h => h.symm, fun h => h.symm⟩
theorem path_agent7 : Ids.path Ids.agentPre = false := by decide +kernel

set_option maxRecDepth 100000 in
theorem ragent_any (l : List UInt8) (w : World) (hl : l.length ≤ 9223372036854775807) : Calls Tryz.prog 15 #[.string (str l)] w fun e w' => e = .returned (.bool (Ids.agent l)) ∧ w = w' := by
  have hp := rpath_any l w hl
  obtain ⟨r, hr0⟩ : ∃ r, Ids.agent l = r := ⟨_, rfl⟩
  have HR := Lib.hid hr0
  rw [hr0]
  have hag : Ids.agent l = ((l.take 7 == Ids.agentPre) && Ids.path l && !(l.drop 7).contains 47) := by unfold Ids.agent; rw [prefix_take (n := 7) rfl]
  have HAG := Lib.hid hag
  clear hr0 hag
  obtain ⟨N, hN⟩ : ∃ N, l.length = N := ⟨_, rfl⟩
  have HN := Lib.hid hN
  have hsz : (str l).size = N := by rw [str_size, hN]
  rw [hN] at hl
  cases hpl : Ids.path l
  · have hx : Hid (Ids.agent l = false) := Lib.hid (by rw [HAG.out, hpl]; simp)
    rw [hpl] at hp
    clear hpl hN
    go_enter Tryz.func15, Tryz.ntmps15
    go_wp2_with fail
    refine hp.mono ?_
    rintro e w' ⟨rfl, rfl⟩
    go_wp2
    go_ret
    exact ⟨by rw [← HR.out, hx.out]; rfl, rfl⟩
  · rw [hpl] at hp
    by_cases h8 : N < 8
    · have hx : Hid (Ids.agent l = false) := Lib.hid (by
        rw [HAG.out]
        cases h7 : (l.take 7 == Ids.agentPre)
        · rfl
        · simp only [beq_iff_eq] at h7
          rw [List.take_of_length_le (by omega)] at h7
          rw [h7, path_agent7] at hpl
          cases hpl)
      clear hpl hN
      go_enter Tryz.func15, Tryz.ntmps15
      go_wp2_with fail
      refine hp.mono ?_
      rintro e w' ⟨rfl, rfl⟩
      go_wp2
      go_ret
      exact ⟨by rw [← HR.out, hx.out]; rfl, rfl⟩
    · have hx1 : (str l).extract 0 7 = str (l.take 7) := sub_str l 0 7
      have hx2 : (str l).extract 7 N = str (l.drop 7) := by rw [sub_str, List.take_of_length_le (by omega)]
      cases h7 : (l.take 7 == Ids.agentPre)
      · have hx : Hid (Ids.agent l = false) := Lib.hid (by rw [HAG.out, h7]; rfl)
        have h7' : (l.take 7 == [47, 97, 103, 101, 110, 116, 47]) = false := h7
        generalize l.take 7 = T at *
        clear hpl hN h7
        go_enter Tryz.func15, Tryz.ntmps15
        go_wp2_with fail
        refine hp.mono ?_
        rintro e w' ⟨rfl, rfl⟩
        clear hp
        go_wp2
        go_ret
        exact ⟨by rw [← HR.out, hx.out]; rfl, rfl⟩
      · have h7' : (l.take 7 == [47, 97, 103, 101, 110, 116, 47]) = true := h7
        have hin := in_any 47 (l.drop 7) w (by rw [List.length_drop]; omega)
        have hx : Hid (Ids.agent l = !(l.drop 7).contains 47) := Lib.hid (by rw [HAG.out, h7, hpl]; rfl)
        generalize l.take 7 = T at *
        generalize (l.drop 7).contains 47 = b at *
        clear hpl hN h7
        go_enter Tryz.func15, Tryz.ntmps15
        go_wp2_with fail
        refine hp.mono ?_
        rintro e w' ⟨rfl, rfl⟩
        clear hp
        go_wp2_with fail
        refine hin.mono ?_
        rintro e w' ⟨rfl, rfl⟩
        clear hin
        go_wp2
        go_ret
        exact ⟨by rw [← HR.out, hx.out]; rfl, rfl⟩

/-- What Parse tells. -/
def ParseOut (l : List UInt8) : Array Value := match Ids.parse l with
  | none => #[.string (str []), .string (str []), .bool false]
  | some (d, p) => #[.string (str d), .string (str p), .bool true]
end Go.Proofs.YtgalhnobckoneaaGreatDoor
/- THE WALKS of ids.Domain and ids.Selector, off the library's contracts. -/
namespace Go.Proofs.YtgalhnobckoneaaGreatDoor
open Go.RowKit Mem

theorem infoAscii : (Tryz.prog.info? (Tryz.lays160_ren.t 116)).map (fun i => (i.zero, i.size)) = some (some (.agg (Array.replicate 256 (.bool false))), 256) := by kernel_rfl
theorem trim_any (l : List UInt8) (w : World) (hl : l.length ≤ 9223372036854775807) :
    Calls Tryz.prog 45 #[.string (str l), .string ⟨#[46, 45]⟩] w fun e w' => e = .returned (.string (str (Lib.trimS l [46, 45]))) ∧ Below w.heap.size w w' := by
  refine (Any.strings_Trim_laid Tryz.lays160 infoAscii (str l) ⟨#[46, 45]⟩ w (by rw [str_size]; omega) (by decide) (ascii_of_all (by decide))).mono ?_
  rintro e w' ⟨rfl, hb⟩
  exact ⟨rfl, hb⟩
theorem inner_tells : Tells 44 Ids.inner := inner_any
theorem trim_beq (l : List UInt8) : (Lib.trimS l [46, 45] == l) = !Ids.edged l := by
  rw [Bool.eq_iff_iff]
  simp only [beq_iff_eq, Bool.not_eq_true']
  exact Ids.trim_same l

set_option maxRecDepth 100000 in
theorem domain_any (l : List UInt8) (w : World) (hl : l.length ≤ 9223372036854775807) : Calls Tryz.prog 20 #[.string (str l)] w fun e w' => e = .returned (.bool (Ids.domain l)) ∧ Below w.heap.size w w' := by
  have hsz := str_size l
  have hall := all_any inner_tells (enters_of Tryz.func44 (by kernel_rfl) rfl) l w hl
  have htr := trim_any l w hl
  have hbq := trim_beq l
  unfold Ids.domain
  obtain ⟨N, hN⟩ : ∃ N, l.length = N := ⟨_, rfl⟩
  rw [hN] at hsz ⊢
  clear hN hl
  generalize Lib.trimS l [46, 45] = T at *
  generalize Ids.allOf Ids.inner l = a at *
  generalize Ids.edged l = b at *
  by_cases h16 : N ≤ 16
  · cases a
    · go_enter Tryz.func20, Tryz.ntmps20
      go_wp2_with fail
      refine hall.mono ?_
      rintro e w' ⟨rfl, rfl⟩
      go_wp2
      go_ret
      exact ⟨by simp, Below.refl _ _⟩
    · cases b
      all_goals
        simp only [Bool.not_false, Bool.not_true] at hbq
        go_enter Tryz.func20, Tryz.ntmps20
        go_wp2_with fail
        refine hall.mono ?_
        rintro e w' ⟨rfl, rfl⟩
        go_wp2_with fail
        refine htr.mono ?_
        rintro e w1 ⟨rfl, hb1⟩
        go_wp2
        go_ret
        exact ⟨by simp; try omega, hb1⟩
  · go_enter Tryz.func20, Tryz.ntmps20
    go_wp2
    go_ret
    exact ⟨by simp; try omega, Below.refl _ _⟩
end Go.Proofs.YtgalhnobckoneaaGreatDoor
/- THE WALKS of ids.Selector, ids.Agent's parts: strings.Cut at one byte. -/
namespace Go.Proofs.YtgalhnobckoneaaGreatDoor
open Go.RowKit Mem

def CutOut (c : UInt8) (l : List UInt8) : Array Value := if Ids.till c l < l.length then #[.string (str (l.take (Ids.till c l))), .string (str (l.drop (Ids.till c l + 1))), .bool true] else #[.string (str l), .string (str []), .bool false]
theorem small_tells : Tells 86 Ids.small := small_any
end Go.Proofs.YtgalhnobckoneaaGreatDoor
/- strings.Split at '/', off the library's contracts. -/
namespace Go.Proofs.YtgalhnobckoneaaGreatDoor
open Go.RowKit Mem

theorem splitB_pieces (l : List UInt8) : (Lib.splitB ⟨#[47]⟩ 0 (Lib.countB (str l) ⟨#[47]⟩) (str l)).map Value.string = tv (Ids.pieces l) := by
  have h1 := Lib.splitB_data ⟨#[47]⟩ 0 (Lib.countB (str l) ⟨#[47]⟩) (str l)
  have h2 : Lib.countB (str l) ⟨#[47]⟩ = l.count 47 := Lib.count_one 47 l
  rw [h2] at h1 ⊢
  rw [show (str l).data.toList = l from rfl, show ((⟨#[47]⟩ : ByteArray).data.toList) = [47] from rfl, Ids.pieces_split] at h1
  rw [← h1]
  unfold tv
  rw [List.map_map]
  apply List.map_congr_left
  intro b _
  rfl
set_option maxRecDepth 100000 in
theorem split_any (l : List UInt8) (w : World) (hl : l.length ≤ 4000000000) : Calls Tryz.prog 73 #[.string (str l), .string ⟨#[47]⟩] w fun e w' =>
    e = .returned (.slice (some ⟨w.heap.size, 0, none⟩) (Ids.pieces l).length (Ids.pieces l).length) ∧ w' = w.alloc (.cells (tv (Ids.pieces l)).toArray 9) := by
  have hsz := str_size l
  have h1 : 1 ≤ (⟨#[47]⟩ : ByteArray).size := by decide
  have hle := Lib.countB_le ⟨#[47]⟩ h1 (str l).size (str l) (Nat.le_refl _)
  have hlen := Lib.splitB_all ⟨#[47]⟩ h1 0 _ (str l) rfl
  have hlen2 : (Ids.pieces l).length = Lib.countB (str l) ⟨#[47]⟩ + 1 := by
    rw [← hlen, ← tv_length, ← splitB_pieces, List.length_map]
  have c := Any.strings_genSplit_core Tryz.lays221 (by kernel_rfl) (str l) ⟨#[47]⟩ 0 (-1) (Lib.countB (str l) ⟨#[47]⟩ + 1) w (by omega) h1 (Nat.zero_le _)
    (fun x cs _ => (Any.strings_Index_one Tryz.lays143 x 47 _).mono fun e w' ⟨he, hw⟩ => ⟨by rw [he]; congr 2; exact (Lib.index_one x.data.toList 47).symm, hw⟩)
    ((Any.strings_Count_one Tryz.lays138 (str l) 47 w).mono fun e w' ⟨he, hw⟩ => ⟨by rw [he]; congr 3; exact (Lib.count_one 47 l).symm, hw⟩)
    (by decide) (by decide) (by rw [if_pos (by decide)]; omega)
  rw [Nat.add_sub_cancel, hlen] at c
  have e2 : Lib.cellsOf (Lib.splitB ⟨#[47]⟩ 0 (Lib.countB (str l) ⟨#[47]⟩) (str l)) (Lib.countB (str l) ⟨#[47]⟩ + 1) = (tv (Ids.pieces l)).toArray := by rw [← splitB_pieces, ← hlen]; exact Lib.cellsOf_full _
  rw [e2, ← hlen2] at c
  clear e2 hlen hle hlen2
  generalize tv (Ids.pieces l) = T at *
  generalize (Ids.pieces l).length = n at *
  go_enter Tryz.func73, Tryz.ntmps73
  go_wp2_with fail
  refine c.mono ?_
  rintro e w' ⟨rfl, hw⟩
  rw [hw]
  go_wp2
  go_ret
  exact ⟨rfl, rfl⟩
theorem has_any (l : List UInt8) (w : World) : Calls Tryz.prog 48 #[.string (str l), .string ⟨#[47]⟩] w fun e w' => e = .returned (.bool (l.contains 47)) ∧ w' = w := by
  refine (Tryz.strings_Contains_one (str l) 47 w).mono ?_
  rintro e w' ⟨rfl, rfl⟩
  refine ⟨?_, rfl⟩
  congr 2
  rw [show (str l).data.toList = l from rfl, Ids.indexByte_till, Bool.eq_iff_iff]
  simp only [decide_eq_true_eq, List.contains_iff_mem]
  rw [← Ids.till_lt]
  split <;> omega
theorem pre_any (p l : List UInt8) (w : World) : Calls Tryz.prog 46 #[.string (str l), .string (str p)] w fun e w' => e = .returned (.tuple (if p.isPrefixOf l then #[.string (str (l.drop p.length)), .bool true] else #[.string (str l), .bool false])) ∧ w' = w := by
  refine (Tryz.strings_CutPrefix (str l) (str p) w).mono ?_
  rintro e w' ⟨rfl, rfl⟩
  refine ⟨?_, rfl⟩
  unfold Lib.trimPrefix Lib.hasPrefix
  rw [show (str l).data.toList = l from rfl, show (str p).data.toList = p from rfl]
  cases h : p.isPrefixOf l
  · rfl
  · rfl
theorem head_any (p l : List UInt8) (w : World) : Calls Tryz.prog 96 #[.string (str l), .string (str p)] w fun e w' => e = .returned (.bool (p.isPrefixOf l)) ∧ w' = w := by
  refine (Tryz.strings_HasPrefix (str l) (str p) w).mono ?_
  rintro e w' ⟨rfl, rfl⟩
  exact ⟨rfl, rfl⟩
end Go.Proofs.YtgalhnobckoneaaGreatDoor
/- WORDS FOR A RANGE OVER A FUNCTION whose iterator hands out bytes of its own: one law for the statement; a drawn region inside a round. -/
namespace Go.Proofs.YtgalhnobckoneaaGreatDoor
open Go.RowKit Mem

section
variable {P : Program} {ops : Array Oper} {Q : Exit → Act → World → Prop} {md : Region.Mode} {S : World → Prop} {l n : Nat}
/-- What an operation does by itself it does in a round, too. -/
theorem op_in_round {o : Oper} {a : Act} {w : World} {K : Act → World → Prop} (hd : ∀ c, o.op ≠ .defer c) (h : o.wp P a w K Q) : o.wpIn (Fence.wide.inRound l) n P a w K Q := by
  refine ⟨fun _ _ => trivial, ?_⟩
  rw [Oper.semAt_eq _ _ _ hd]
  unfold Oper.wp at h
  generalize (execOp a.eval o).run P w = r at h ⊢
  cases r with
  | halt x w' => cases x <;> exact h
  | ok x w' =>
    cases x with
    | value v => exact h
    | skip => exact h
    | defer d => exact h
    | enter f args => exact ⟨fun hx => (by cases hx), CallsIn.inRound l (callsIn_wide.2 h)⟩
    | row r args =>
      refine ⟨fun hx => (by cases hx), fun c cs _ => ?_⟩
      obtain ⟨v, w2, hr, hs⟩ := h c cs
      exact ⟨v, w2, hr, stepsIn_wide.2 hs⟩
    | _ => exact h.elim
theorem any_in_round (hd : ∀ (i : Nat) (o : Oper) c, ops[i]? = some o → o.op ≠ .defer c) (hq : ¬ LetsOut Q) : ∀ (fuel : Nat) (listed : Array Bool) (a : Act) (w : World),
    wpAny P md ops Q fuel listed a w → wpAnyIn (Fence.wide.inRound l) n P md ops Q fuel listed a w
  | 0, _, _, _, h => h
  | fuel + 1, listed, a, w, h => by
    refine ⟨h.1, fun i hi => ?_⟩
    have h1 := h.2 i hi
    unfold wpOp at h1
    unfold wpOpIn
    cases ho : ops[i]? with
    | none =>
      rw [ho] at h1
      exact any_in_round hd hq fuel _ a w h1
    | some o =>
      rw [ho] at h1
      simp only at h1 ⊢
      split
      · rename_i hw
        rw [if_pos hw] at h1
        rcases h1 with h1 | ⟨_, h1⟩
        · exact Oper.wpIn_mono (fun a' w' h2 => any_in_round hd hq fuel _ a' w' h2) (op_in_round (hd i o · ho) h1)
        · exact absurd h1 hq
      · rename_i hw
        rw [if_neg hw] at h1
        exact ⟨fun _ _ => trivial, any_in_round hd hq fuel _ _ _ h1⟩
/-- A region that draws its order, in a round: by the laws of a region by itself. -/
theorem region_in_round {id : Nat} {a : Act} {w : World} (hm : P.follows .mixedOrders = true) (hd : (List.range ops.size).all (fun i => match ops[i]? with | some o => (match o.op with | .defer _ => false | _ => true) | none => true) = true) (hq : ¬ LetsOut Q)
    (h : wpAnyH P .any ops Q S ops.size (Array.replicate ops.size false) a { w with drawn := w.drawn + 1 }) : (Code.region id ops true).wpIn (Fence.wide.inRound l) n P Q a w := by
  refine wpIn_region_any hm (any_in_round (fun i o c ho hc => ?_) hq _ _ _ _ (wpAny_of_held _ _ _ _ h))
  have hi : i < ops.size := (Array.getElem?_eq_some_iff.1 ho).1
  have := List.all_eq_true.1 hd i (List.mem_range.2 hi)
  rw [ho] at this
  simp only [hc] at this
  cases this
end

/-- 'append(out, xs...)' in a fence: out is the call's own, xs is read. -/
theorem wpListIn_append {F : Fence} {n : Nat} {P : Program} (w : World) {ops : Array Oper} {rest : List Oper} {o : Oper} {a : Act} {Q : Exit → Act → World → Prop} (hgd : o.guard = none) (s x : Operand) (t : TypeId)
    (ho : o.op = .call { callee := .builtin .append, args := #[s, x], argTypes := #[t, t] })
    (base : Nat) (e : TypeId) (i : TypeInfo) (z : Value) (size bytes : Nat) (ht : P.underlying t = some (.slice e)) (hi : P.info? e = some i) (hz : i.zero = some z)
    (hsize : i.size = size) (hby : i.bytes = bytes) (hzs : z.cells.size = size) (hsz : 0 < size)
    (v : Value) (k : Nat) (xs : List Value) (hs : a.eval s = v) (hown : w.ownsRow base e size v k xs)
    (B : Nat) (A : Option Addr) (m c : Nat) (news : List Value) (hx : a.eval x = .slice A m c) (hr : Vs w B size A m news) (h1 : ∀ u ∈ news, u.oneCell' = true)
    (h63 : k + m ≤ maxLen) (hbytes : (k + m) * bytes ≤ 140737488355328) (hbase : base ≤ w.heap.size)
    (h : ∀ A' c' w', w'.ownsRow base e size (.slice A' (k + m) c') (k + m) (xs ++ news) → k + m ≤ c' → c' ≤ 9223372036854775807 → w.grownBy w' v.ownBlock → wpListIn F n P ops Q rest (a.put o.dst (.slice A' (k + m) c')) w') : wpListIn F n P ops Q (o :: rest) a w := by
  refine wpListIn_plain hgd fun K hK => ?_
  obtain ⟨v', w', hrun, h2, h3, _⟩ := run_append (P := P) w base t o.type e i z size bytes ht hi hz hsize hby hzs hsz v k xs hown B A m c news hr h1 h63 hbytes hbase
  obtain ⟨A', c', rfl, g1, g2⟩ := own_form h2
  have hnd : ∀ c, o.op ≠ .defer c := by rw [ho]; intro c hc; cases hc
  refine ⟨?_, ?_⟩
  · simp [Oper.about, ho, resolve, Target.leads, Sem.run_pure]
  · rw [Oper.semAt_eq _ _ _ hnd]
    simp only [execOp, ho, resolve, invoke, builtin, Sem.run_bind, Sem.run_pure, Result.andThen_ok, List.map_toArray, List.map_cons, List.map_nil, hs, hx, hrun]
    exact hK _ _ (h A' c' w' h2 g1 g2 h3)

theorem chg_putObj (W : World) (r : Nat) (o : Obj) : Chg [r] W (W.putObj r o) := ⟨rfl, rfl, rfl, by simp, fun k _ hk => World.putObj_heap_other (by simpa using hk)⟩

/-- An iterator that hands out N values, one by one: 'val v W k': v is the k-th, in world W. What a round writes lies in Sb. -/
def Hands (P : Program) (gf : Nat) (lb : Array Value) (N : Nat) (Sb : List Nat) (val : Value → World → Nat → Prop) (l : Nat) (W : World) : Prop :=
  ∀ (J : Nat → World → Prop) (Jx : World → Prop), (∀ k W1 W2, J k W1 → Below W1.heap.size W1 W2 → J k W2) →
    (∀ k v W1, k < N → J k W1 → val v W1 k → YieldAt Fence.wide 5 P l #[v] W1 fun e W2 => (e = .returned (.bool true) ∧ J (k + 1) W2 ∧ Chg Sb W1 W2) ∨ (e = .returned (.bool false) ∧ Jx W2)) →
    J 0 W → CallsIn Fence.wide 6 P gf (#[.func (.yield l) #[] #[]] ++ lb) W fun e W2 => (∃ v, e = .returned v) ∧ (J N W2 ∨ Jx W2)

/-- How a round's body may be left. -/
def BodyPost (Sb : List Nat) (I : World → Prop) (Ix : Code → World → Prop) (W : World) : Exit → Act → World → Prop
  | .normal, _, W' => Chg Sb W W' ∧ I W'
  | .ret, _, W' => Chg Sb W W' ∧ Ix .ret W'
  | _, _, _ => False

/-- 'for x := range g': the invariant is the caller's own; what a round writes lies in Sb, and neither the loop's record nor the block of deferred calls is among it. -/
theorem range_law {P : Program} {g : Operand} {p : Tmp} {assign body : Code} {Q : Exit → Act → World → Prop} {a : Act} {w : World} {gf : Nat} {lb : Array Value} (hg : a.eval g = .func (.func gf) #[] lb)
    (eg : ∀ args w, (callFunc gf args).run P w = .ok (.enter gf args) w) {N : Nat} {Sb : List Nat} {val : Value → World → Nat → Prop} (hSb : ∀ s, s ∈ Sb → s < w.heap.size)
    (hands : ∀ W, Chg [] w W → w.heap.size + 2 ≤ W.heap.size → Hands P gf lb N ((w.heap.size + 1) :: Sb) val (w.heap.size + 1) W)
    (I : Nat → World → Prop) (Ix : Code → World → Prop) (hI : ∀ k W W', I k W → Chg [w.heap.size, w.heap.size + 1] W W' → I k W') (hIx : ∀ c W W', Ix c W → Chg [w.heap.size, w.heap.size + 1] W W' → Ix c W') (h0 : I 0 w)
    (hval : ∀ v W W' k, val v W k → Chg [w.heap.size + 1] W W' → val v W' k)
    (a₁ : Value → Act)
    (hassign : ∀ (l : Nat) (v : Value) (W : World) (K : Act → World → Prop), K (a₁ v) W → assign.wpIn (Fence.wide.inRound l) 5 P (Exit.then K (fun _ _ _ => False)) { tmps := a.tmps.setIfInBounds p v, defers := [] } W)
    (hbody : ∀ (l k : Nat) (v : Value) (W : World), k < N → I k W → val v W k → body.wpIn (Fence.wide.inRound l) 5 P (BodyPost Sb (I (k + 1)) Ix W) (a₁ v) W)
    (hdone : ∀ (W : World), I N W → W.heap[w.heap.size]? = some (.deferred (some [])) → Q .normal { a with defers := { target := .collected w.heap.size, args := #[] } :: a.defers } W)
    (hstop : ∀ (c : Code) (W : World), Ix c W → W.heap[w.heap.size]? = some (.deferred (some [])) → c.wp P Q { a with defers := { target := .collected w.heap.size, args := #[] } :: a.defers } W) :
    (Code.rangeFunc g #[p] assign body).wp P Q a w := by
  refine (wpIn_wide (n := 7)).1 (wpIn_rangeFunc ?_)
  intro fn hfn
  obtain ⟨rec, hrec⟩ : ∃ rec : LoopState → Option Code → Loop, rec = fun st pe => { state := st, pending := pe, fn, tmps := a.tmps, params := #[p], assign, body, defers := w.heap.size } := ⟨_, rfl⟩
  obtain ⟨D, hD⟩ : ∃ D, w.heap.size = D := ⟨_, rfl⟩
  obtain ⟨W1, hW1⟩ : ∃ W1, (w.alloc (.deferred (some []))).alloc (.loop (rec .ready none)) = W1 := ⟨_, rfl⟩
  have hL1 : W1.heap[D + 1]? = some (.loop (rec .ready none)) := by
    rw [← hW1, ← hD]
    have := World.alloc_heap_new (w.alloc (.deferred (some []))) (.loop (rec .ready none))
    rwa [World.size_alloc] at this
  have hD1 : W1.heap[D]? = some (.deferred (some [])) := by
    rw [← hW1, ← hD]
    exact (Below.heap_alloc _ _ _ (by simp)).trans (World.alloc_heap_new w _)
  have hb1 : Below w.heap.size w W1 := by
    rw [← hW1]
    exact ((Below.refl _ w).alloc (Nat.le_refl _) _).alloc (by simp) _
  rw [hD] at hSb hands hI hIx hdone hstop hval
  have keepD : ∀ {W W' : World} {S : List Nat} {r : Nat} {o : Obj}, W.heap[r]? = some o → Chg S W W' → r ∉ S → W'.heap[r]? = some o := fun hr hc hn =>
    (hc.block _ (Array.getElem?_eq_some_iff.1 hr).1 hn).trans hr
  refine ⟨D + 1, [{ target := .collected D, args := #[] }], W1, { target := .fn (.func gf) lb, args := #[.func (.yield (D + 1)) #[] #[]] }, W1, gf, #[.func (.yield (D + 1)) #[] #[]] ++ lb, W1, ?_, ?_, fun _ _ => trivial, ?_, fun hx => (by cases hx), ?_⟩
  · rw [← hW1, hrec, ← hD]
    exact run_enterLoop_outer _ _ _ _ _
  · simp only [resolve, hg]
    simp [go_sem]
  · simp [invoke, go_sem, eg]
  · refine (hands W1 (Chg.of_below hb1) (by rw [← hW1, ← hD]; simp) (fun k W => I k W ∧ W.heap[D + 1]? = some (.loop (rec .ready none)) ∧ W.heap[D]? = some (.deferred (some [])))
      (fun W => ∃ c, Ix c W ∧ W.heap[D + 1]? = some (.loop (rec .done (some c))) ∧ W.heap[D]? = some (.deferred (some []))) ?_ ?_ ?_).mono ?_
    · rintro k Wa Wb ⟨hi, hl, hd⟩ hb
      exact ⟨hI k Wa Wb hi (Chg.of_below hb), keepD hl (Chg.of_below (S := []) hb) (by simp), keepD hd (Chg.of_below (S := []) hb) (by simp)⟩
    · rintro k v Wa hk ⟨hi, hl, hd⟩ hv
      have hlt : D + 1 < Wa.heap.size := (Array.getElem?_eq_some_iff.1 hl).1
      have hy := run_yield (P := P) (args := #[v]) hl (by rw [hrec]; rfl)
      rw [hrec] at hy
      refine ⟨fn, _, assign, body, hy, roundIn_of_wpIn hfn ?_⟩
      have hz : ((#[p] : Array Tmp).zip #[v]).foldl (fun t (x : Tmp × Value) => t.setIfInBounds x.1 x.2) a.tmps = a.tmps.setIfInBounds p v := by simp
      rw [hz]
      refine hassign (D + 1) v Wa _ ⟨_, run_beginRound hl (by rw [hrec]), ?_⟩
      obtain ⟨Wc, hWc⟩ : ∃ Wc, Wa.putObj (D + 1) (.loop { rec .ready none with state := .busy }) = Wc := ⟨_, rfl⟩
      rw [hWc]
      have hcc : Chg [D + 1] Wa Wc := by rw [← hWc]; exact chg_putObj _ _ _
      have hlc : Wc.heap[D + 1]? = some (.loop { rec .ready none with state := .busy }) := by rw [← hWc]; exact World.putObj_heap_same hlt
      have hdc := keepD hd hcc (by simp)
      refine wpIn_mono (hbody (D + 1) k v Wc hk (hI k Wa Wc hi (hcc.mono (by simp))) (hval v Wa Wc k hv hcc)) ?_
      have fin : ∀ (jump : Option Code) (W3 : World), Chg Sb Wc W3 →
          (Instr.endRound (D + 1) jump).run P W3 = .ok (.bool jump.isNone) (W3.putObj (D + 1) (.loop (rec (if jump.isNone then .ready else .done) jump))) ∧
          (W3.putObj (D + 1) (.loop (rec (if jump.isNone then .ready else .done) jump))).heap[D + 1]? = some (.loop (rec (if jump.isNone then .ready else .done) jump)) ∧
          (W3.putObj (D + 1) (.loop (rec (if jump.isNone then .ready else .done) jump))).heap[D]? = some (.deferred (some [])) ∧
          Chg ((D + 1) :: Sb) Wa (W3.putObj (D + 1) (.loop (rec (if jump.isNone then .ready else .done) jump))) := by
        intro jump W3 hc3
        have hn1 : D + 1 ∉ Sb := fun hm => by have := hSb _ hm; omega
        have hn0 : D ∉ Sb := fun hm => by have := hSb _ hm; omega
        have hl3 := keepD hlc hc3 hn1
        have hr := run_endRound (P := P) jump hl3
        refine ⟨by rw [hrec] at hr ⊢; exact hr, World.putObj_heap_same (Array.getElem?_eq_some_iff.1 hl3).1, (World.putObj_heap_other (by omega)).trans (keepD hdc hc3 hn0), ?_⟩
        exact ((hcc.mono (by simp)).and (hc3.mono fun s hs => by simp [hs])).and ((chg_putObj _ _ _).mono (by simp))
      rintro e a3 W3 hp
      cases e with
      | normal =>
        obtain ⟨hc3, hi3⟩ := hp
        obtain ⟨hr, hl4, hd4, hc4⟩ := fin none W3 hc3
        exact ⟨_, _, hr, .inl ⟨rfl, ⟨hI _ _ _ hi3 ((chg_putObj _ _ _).mono (by simp)), hl4, hd4⟩, hc4⟩⟩
      | ret =>
        obtain ⟨hc3, hi3⟩ := hp
        obtain ⟨hr, hl4, hd4, _⟩ := fin (some .ret) W3 hc3
        exact ⟨_, _, hr, .inr ⟨rfl, .ret, hIx _ _ _ hi3 ((chg_putObj _ _ _).mono (by simp)), hl4, hd4⟩⟩
      | exit id => exact hp.elim
      | goto t => exact hp.elim
      | panic ch => exact hp.elim
      | outgrown => exact hp.elim
    · exact ⟨hI 0 w W1 h0 (Chg.of_below (by rw [← hD] at *; exact hb1)), hL1, hD1⟩
    · rintro e W2 ⟨⟨v, rfl⟩, (⟨hi, hl, hd⟩ | ⟨c, hi, hl, hd⟩)⟩
      · have hr := run_endLoop (P := P) hl (by rw [hrec]; simp)
        exact ⟨none, _, by rw [hrec] at hr; exact hr, hdone _ (hI _ _ _ hi ((chg_putObj _ _ _).mono (by simp))) ((World.putObj_heap_other (by omega)).trans hd)⟩
      · have hr := run_endLoop (P := P) hl (by rw [hrec]; simp)
        exact ⟨some c, _, by rw [hrec] at hr; exact hr, wpIn_wide.2 (hstop _ _ (hIx _ _ _ hi ((chg_putObj _ _ _).mono (by simp))) ((World.putObj_heap_other (by omega)).trans hd))⟩
end Go.Proofs.YtgalhnobckoneaaGreatDoor
/- THE WALK of ids.Path: a range over the function segments. -/
namespace Go.Proofs.YtgalhnobckoneaaGreatDoor
open Go.RowKit Go.Shelf Mem
attribute [local go_sem] Oper.semAt_some

/-- The k-th segment. -/
def SegVal (T : List (List UInt8)) (v : Value) (_ : World) (k : Nat) : Prop := ∃ h : k < T.length, v = .string (str T[k])

set_option maxRecDepth 100000 in
set_option maxHeartbeats 4000000 in
theorem segs_hands (s : List UInt8) (Sb : List Nat) (lo : Nat) (W : World) (rb : Nat) (hbox : W.cell? ⟨rb, 0, none⟩ = some (.string (str s))) (hs : s.length ≤ 4000000000) (hSb : ∀ x, x ∈ Sb → x < W.heap.size) :
    Hands Tryz.prog 146 #[.pointer (some ⟨rb, 0, none⟩)] (Ids.pieces s).tail.length Sb (SegVal (Ids.pieces s).tail) lo W := by
  intro J Jx hJ hY h0
  have hsp := split_any s W hs
  have hts := Ts.new W (Ids.pieces s) 9
  have hba : Below W.heap.size W (W.alloc (.cells (tv (Ids.pieces s)).toArray 9)) := (Below.refl _ _).alloc (Nat.le_refl _) _
  have hpl : (Ids.pieces s).length ≤ 4000000001 := by
    have h1 := Lib.countB_le ⟨#[47]⟩ (by decide) (str s).size (str s) (Nat.le_refl _)
    have h2 := Lib.splitB_all ⟨#[47]⟩ (by decide) 0 _ (str s) rfl
    rw [← tv_length, ← splitB_pieces, List.length_map, h2]
    rw [str_size] at h1
    omega
  have hne := Ids.pieces_ne s
  obtain ⟨t0, T, hT⟩ : ∃ t0 T, Ids.pieces s = t0 :: T := by
    cases h : Ids.pieces s with
    | nil => exact absurd h hne
    | cons a b => exact ⟨a, b, rfl⟩
  rw [hT] at hsp hts hba hpl hY ⊢
  obtain ⟨W1, hW1⟩ : ∃ W1, W.alloc (.cells (tv (t0 :: T)).toArray 9) = W1 := ⟨_, rfl⟩
  rw [hW1] at hts hsp hba
  simp only [List.tail_cons] at hY ⊢
  simp only [List.length_cons] at hsp hts hpl
  obtain ⟨n, hn⟩ : ∃ n, T.length = n := ⟨_, rfl⟩
  rw [hn] at hsp hts hpl
  have HN := Lib.hid hn
  have HY := Lib.hid hY
  have HJ := Lib.hid hJ
  have hJ1 : J 0 W1 := hJ 0 W W1 h0 hba
  have HSB := Lib.hid hSb
  have hWs : W.heap.size < W1.heap.size := by rw [← hW1]; simp
  clear hY hJ hT hne hSb hn h0 hW1
  rw [HN.out]
  refine callsIn_of_wp Tryz.func146 rfl trivial ?_ rfl
  simp only [Tryz.ntmps146, List.size_toArray, List.length_cons, List.length_nil, Nat.reduceAdd, Nat.reduceSub, Array.replicate_succ, Array.replicate_zero, List.push_toArray, List.append_toArray, List.nil_append, List.cons_append]
  gi_wp2_with fail
  refine ⟨trivial, (callsIn_wide.2 hsp).mono ?_⟩
  rintro e w1 ⟨rfl, rfl⟩
  clear hsp
  by_cases h0 : n = 0
  · subst h0
    gi_wp2_with fail
    gi_loopw [4, 9] (fun _ i wr => i = .int .i64 0 ∧ J 0 wr) (fun _ _ _ => 0)
    case atStart => exact ⟨rfl, hJ1⟩
    case round =>
      obtain ⟨rfl, hj⟩ := hrel
      clear hJ1
      gi_wp2
      go_end0
      exact ⟨⟨_, rfl⟩, .inl hj⟩
  · have hn1 : ¬ (n : Int) + 1 = 1 := by omega
    gi_wp2_with fail
    gi_loopw [4, 9] (fun _ i wr => ∃ k : Nat, k ≤ n ∧ i = .int .i64 k ∧ J k wr ∧ Chg Sb w1 wr) (fun _ i _ => n - (intOf i).toNat)
    case atStart => exact ⟨0, by omega, rfl, hJ1, Chg.refl _ _⟩
    case round =>
      obtain ⟨k, hk, rfl, hj, hc⟩ := hrel
      clear hJ1
      by_cases hlt : k < n
      · have hkT : k < T.length := by rw [HN.out]; exact hlt
        have htc : Ts wr (some ⟨W.heap.size, 0, none⟩) (n + 1) (t0 :: T) := hts.chg (by intro a ha _ hm; injection ha with ha; subst ha; have := HSB.out _ hm; simp at this) hc
        obtain ⟨blk, off, e0, hcell⟩ := htc.lit (i := k + 1) (by simp; omega)
        simp only [Option.some.injEq, Addr.mk.injEq, and_true] at e0
        obtain ⟨rfl, rfl⟩ := e0
        simp only [List.getElem_cons_succ, Nat.zero_add] at hcell
        have hcell2 : wr.cell? ⟨W.heap.size, 1 + k, none⟩ = some (.string (str T[k])) := by rw [Nat.add_comm]; exact hcell
        obtain ⟨fn, tmps, assign, body, hy, hR⟩ := HY.out k _ wr hkT hj ⟨hkT, rfl⟩
        clear hcell htc
        gi_wp2_with fail
        refine hR.mono ?_
        rintro e W3 (⟨rfl, hJ3, hk3⟩ | ⟨rfl, hJx3⟩)
        · clear hR hy
          gi_wp2_with fail
          go_roundw
          case rel => exact ⟨k + 1, by omega, by go_num, hJ3, hc.and hk3⟩
          case measure => simp [intOf]; omega
        · clear hR hy
          gi_wp2_with fail
          refine bodyPost_ret (results_none rfl _ _ _) rfl ?_
          exact ⟨⟨_, rfl⟩, .inr hJx3⟩
      · obtain rfl : k = n := by omega
        gi_wp2
        go_end0
        exact ⟨⟨_, rfl⟩, .inl hj⟩

theorem segments_any (l : List UInt8) (w : World) : Calls Tryz.prog 97 #[.string (str l)] w fun e w' => e = .returned (.func (.func 146) #[] #[.pointer (some ⟨w.heap.size, 0, none⟩)]) ∧ w.alloc (.cells #[.string (str l)] 9) = w' := by
  go_enter Tryz.func97, Tryz.ntmps97
  go_wp2
  go_ret
  exact ⟨rfl, rfl⟩
theorem named_tells : Tells 98 Ids.named := named_any
/-- Between two rounds. -/
structure SegI (w0 : World) (R : Nat) (T : List (List UInt8)) (k : Nat) (W : World) : Prop where
  cell : W.cell? ⟨R, 0, none⟩ = some (.bool false)
  froz : W.frozen? ⟨R, 0, none⟩ = false
  good : (T.take k).all Ids.segOk = true
  chg : Chg [R] w0 W
theorem SegI.next {w0 : World} {R k D : Nat} {T : List (List UInt8)} {W W' : World} (h : SegI w0 R T k W) (hc : Chg [D, D + 1] W W') (hD : R < D ∧ w0.heap.size ≤ D) : SegI w0 R T k W' :=
  ⟨(hc.cell (World.block_lt_of_cell? W _ h.cell) (by simp; omega)).trans h.cell, (hc.frozen (p := ⟨R, 0, none⟩) (World.block_lt_of_cell? W _ h.cell) (by simp; omega)).trans h.froz, h.good, h.chg.trans hc (by intro s hs; simp at hs; omega)⟩
/-- A round has left. -/
def SegX (w0 : World) (R : Nat) (b : Bool) (c : Code) (W : World) : Prop := c = .ret ∧ W.cell? ⟨R, 0, none⟩ = some (.bool false) ∧ Hid (b = false) ∧ Chg [R] w0 W
theorem chg_one (w : World) (u k : Nat) (v : Value) : Chg [u] w (w.setCell ⟨u, k, none⟩ v) := (Chg.refl [u] w).setCell (p := ⟨u, k, none⟩) (.inl (by simp)) v
theorem pieces_len : ∀ (l : List UInt8) (x : List UInt8), x ∈ Ids.pieces l → x.length ≤ l.length
  | [], x, h => by simp [Ids.pieces] at h; subst h; simp
  | c :: t, x, h => by
    have ih := pieces_len t
    unfold Ids.pieces at h
    split at h
    · rcases List.mem_cons.1 h with h | h
      · subst h; simp
      · have := ih x h; simp; omega
    · split at h
      · simp at h; subst h; simp
      · rename_i w ws e
        rw [e] at ih
        rcases List.mem_cons.1 h with h | h
        · subst h
          have := ih w (by simp)
          simp
          omega
        · have := ih x (by simp [h])
          simp
          omega
theorem all_takeL {p : List UInt8 → Bool} {l : List (List UInt8)} {k : Nat} (h : (l.take k).all p = true) (hk : k < l.length) : (l.take (k + 1)).all p = p l[k] := by
  rw [List.take_succ_eq_append_getElem hk, List.all_append, h]
  simp
set_option maxRecDepth 100000 in
set_option maxHeartbeats 4000000 in
theorem path_any (l : List UInt8) (w : World) (hl : l.length ≤ 9223372036854775807) : Calls Tryz.prog 47 #[.string (str l)] w fun e w' => e = .returned (.bool (Ids.path l)) ∧ Below w.heap.size w w' := by
  have hsz := str_size l
  have hp47 := fun w1 => head_any [47] l w1
  obtain ⟨r, hr0⟩ : ∃ r, Ids.path l = r := ⟨_, rfl⟩
  have HR := Lib.hid hr0
  rw [hr0]
  clear hr0
  obtain ⟨N, hN⟩ : ∃ N, l.length = N := ⟨_, rfl⟩
  rw [hN] at hsz hl
  have HN := Lib.hid hN
  clear hN
  by_cases h40 : 40 < N
  · have hx : Hid (Ids.path l = false) := Lib.hid (by
      cases l with
      | nil => rfl
      | cons c t =>
        have := HN.out
        simp only [List.length_cons] at this
        rw [path_cons, decide_eq_false (by omega)]
        rfl)
    go_enter Tryz.func47, Tryz.ntmps47
    go_wp2
    refine bodyPost_ret (v := .bool false) (by simp [results, Tryz.f47, go_sem]) rfl ?_
    exact ⟨by rw [← HR.out, hx.out], (Below.refl _ _).alloc (Nat.le_refl _) _⟩
  · cases hpre : ([47] : List UInt8).isPrefixOf l
    · have hx : Hid (Ids.path l = false) := Lib.hid (by
        cases l with
        | nil => rfl
        | cons c t =>
          rw [path_cons, show (c == 47) = false by
            cases h : (c == 47)
            · rfl
            · simp at h
              subst h
              simp [List.isPrefixOf] at hpre]
          simp)
      rw [hpre] at hp47
      go_enter Tryz.func47, Tryz.ntmps47
      go_wp2_with fail
      refine (hp47 _).mono ?_
      rintro e w1 ⟨rfl, rfl⟩
      go_wp2
      refine bodyPost_ret (v := .bool false) (by simp [results, Tryz.f47, go_sem]) rfl ?_
      exact ⟨by rw [← HR.out, hx.out], ((Below.refl _ _).alloc (Nat.le_refl _) _)⟩
    · obtain ⟨t, ht⟩ : ∃ t, l = 47 :: t := by
        cases l with
        | nil => simp [List.isPrefixOf] at hpre
        | cons c t =>
          simp [List.isPrefixOf] at hpre
          exact ⟨t, by rw [← hpre]⟩
      have hpath : Hid (Ids.path l = (Ids.pieces t).all Ids.segOk) := Lib.hid (by
        have := HN.out
        rw [ht] at this ⊢
        simp only [List.length_cons] at this
        rw [path_cons, decide_eq_true (by omega)]
        simp [Ids.segsOk])
      have htail : Hid ((Ids.pieces l).tail = Ids.pieces t) := Lib.hid (by rw [ht]; simp [Ids.pieces])
      have hlen4 : l.length ≤ 4000000000 := by rw [HN.out]; omega
      rw [hpre] at hp47
      have HTL : Hid (∀ x ∈ Ids.pieces t, x.length ≤ 4000000000) := Lib.hid (fun x hx => by
        have h1 := pieces_len t x hx
        have h2 := HN.out
        rw [ht] at h2
        simp only [List.length_cons] at h2
        omega)
      obtain ⟨T, hT⟩ : ∃ T, Ids.pieces t = T := ⟨_, rfl⟩
      rw [hT] at HTL
      have HPT : Hid (Ids.path l = T.all Ids.segOk) := Lib.hid (by rw [hpath.out, hT])
      have htl : (Ids.pieces l).tail = T := by rw [htail.out, hT]
      have hseg := fun Sb lo W rb h1 h2 => segs_hands l Sb lo W rb h1 hlen4 h2
      rw [htl] at hseg
      have HSG := Lib.hid hseg
      obtain ⟨w5, hw5⟩ : ∃ w5, (w.alloc (.cells #[.bool false] 4)).alloc (.cells #[.string (str l)] 9) = w5 := ⟨_, rfl⟩
      have k5 : w5.cell? ⟨w.heap.size, 0, none⟩ = some (.bool false) := by
        rw [← hw5, World.cell?_alloc_lt _ _ _ (by simp)]
        exact World.cell?_alloc_at _ _ _ 0 rfl
      have f5 : w5.frozen? ⟨w.heap.size, 0, none⟩ = false := by
        rw [← hw5, World.frozen?_alloc_past _ _ _ (by simp)]
        exact World.frozen?_alloc_at _ _ _ 0 rfl
      have b5 : w5.cell? ⟨w.heap.size + 1, 0, none⟩ = some (.string (str l)) := by
        rw [← hw5]
        exact World.cell?_alloc_at _ _ _ 0 (by simp)
      have hb5 : Below w.heap.size w w5 := by rw [← hw5]; exact ((Below.refl _ _).alloc (Nat.le_refl _) _).alloc (by simp) _
      have z5 : w.heap.size + 2 ≤ w5.heap.size := by rw [← hw5]; simp
      have hd40 : decide (40 < (N : Int)) = false := decide_eq_false (by omega)
      clear hT htl hseg hpath htail hpre ht
      refine (callsIn_wide (n := 7)).1 (callsIn_of_wp_marks Tryz.func47 rfl trivial (wpIn_wide.2 ?_) rfl)
      simp only [Tryz.ntmps47, List.size_toArray, List.length_cons, List.length_nil, Nat.reduceAdd, Nat.reduceSub, Array.replicate_succ, Array.replicate_zero, List.push_toArray, List.append_toArray, List.nil_append, List.cons_append]
      go_wp2_with fail
      refine (hp47 _).mono ?_
      rintro e w1 ⟨rfl, rfl⟩
      go_wp2_with fail
      refine (segments_any l _).mono ?_
      rintro e w1 ⟨rfl, rfl⟩
      go_wp2_with fail
      try rw [hw5]
      have hTl : ∀ x ∈ T, x.length ≤ 4000000000 := HTL.out
      refine range_law (gf := 146) (lb := #[.pointer (some ⟨w.heap.size + 1, 0, none⟩)]) rfl (enters_of Tryz.func146 (by kernel_rfl) rfl) (N := T.length) (Sb := [w.heap.size]) (val := SegVal T) ?sb ?hands (SegI w5 w.heap.size T) (SegX w5 w.heap.size (Ids.path l)) ?hI ?hIx ?h0 ?hval (fun v => { tmps := #[.string (str l), undef, .pointer (some ⟨w.heap.size, 0, none⟩), v, .string (str l), .int .i64 (N : Int), .bool false, .bool false, .string (str l), .bool true, .bool false, .bool false, .string (str l), .func (.func 146) #[] #[.pointer (some ⟨w.heap.size + 1, 0, none⟩)], v, undef, undef, undef, undef, undef, undef, undef, undef, undef, undef, undef], defers := [] }) ?assign ?body ?done ?stop
      case sb => intro s hs; simp at hs; omega
      case hands =>
        intro W hc hz
        refine HSG.out _ _ W (w.heap.size + 1) ((hc.cell (by simp; omega) (by simp)).trans b5) (by intro s hs; simp at hs; omega)
      case hI =>
        intro k W W' hi hc
        exact hi.next hc (by omega)
      case hIx =>
        rintro c W W' ⟨rfl, h1, h2, h3⟩ hc
        exact ⟨rfl, (hc.cell (World.block_lt_of_cell? W _ h1) (by simp; omega)).trans h1, h2, h3.trans hc (by intro s hs; simp at hs; omega)⟩
      case h0 => exact ⟨k5, f5, by simp, Chg.refl _ _⟩
      case hval => exact fun v W W' k h _ => h
      case assign =>
        intro lo v W K hK
        gi_wp2
        exact hK
      case body =>
        rintro lo k v W hk hi ⟨_, rfl⟩
        have hal := fun w1 => all_any named_tells (enters_of Tryz.func98 (by kernel_rfl) rfl) T[k] w1 (by have := hTl _ (List.getElem_mem hk); omega)
        have HGO := Lib.hid hi.good
        have hso := segOk_eq T[k]
        have hnx : Hid (Ids.segOk T[k] = true → (T.take (k + 1)).all Ids.segOk = true) := Lib.hid (fun h => (all_takeL hi.good hk).trans h)
        have hbd : Hid (Ids.segOk T[k] = false → Ids.path l = false) := Lib.hid (fun h => by
          rw [HPT.out, List.all_eq_false]
          exact ⟨T[k], List.getElem_mem hk, by rw [h]; simp⟩)
        generalize T[k] = x at *
        have HSO := Lib.hid hso
        have hcell := hi.cell
        have hfroz := hi.froz
        have HI := Lib.hid hi
        clear hso hi
        cases ha : Ids.allOf Ids.named x
        · rw [ha] at hal
          have hp : Hid (Ids.path l = false) := Lib.hid (hbd.out (by rw [HSO.out, ha]; simp))
          clear hbd hnx ha
          gi_wp2_with fail
          refine ⟨trivial, (CallsIn.inRound lo (callsIn_wide.2 (hal _))).mono ?_⟩
          rintro e w' ⟨rfl, rfl⟩
          clear hal
          gi_wp2_with fail
          exact ⟨(Chg.refl _ _).setCell (.inl (by simp)) _, rfl, World.cell?_setCell_same _ _ _ hcell, hp, HI.out.chg.setCell (p := ⟨w.heap.size, 0, none⟩) (.inl (by simp)) _⟩
        · rw [ha] at hal
          cases h1 : (x == [46])
          · cases h2 : (x == [46, 46])
            · have hg := Lib.hid (hnx.out (by rw [HSO.out, ha, h1, h2]; rfl))
              clear hbd hnx ha
              gi_wp2_with fail
              refine ⟨trivial, (CallsIn.inRound lo (callsIn_wide.2 (hal _))).mono ?_⟩
              rintro e w' ⟨rfl, rfl⟩
              clear hal
              gi_wp2_with fail
              exact ⟨Chg.refl _ _, hcell, hfroz, hg.out, HI.out.chg⟩
            · have hp : Hid (Ids.path l = false) := Lib.hid (hbd.out (by rw [HSO.out, ha, h1, h2]; simp))
              clear hbd hnx ha
              gi_wp2_with fail
              refine ⟨trivial, (CallsIn.inRound lo (callsIn_wide.2 (hal _))).mono ?_⟩
              rintro e w' ⟨rfl, rfl⟩
              clear hal
              gi_wp2_with fail
              exact ⟨(Chg.refl _ _).setCell (.inl (by simp)) _, rfl, World.cell?_setCell_same _ _ _ hcell, hp, HI.out.chg.setCell (p := ⟨w.heap.size, 0, none⟩) (.inl (by simp)) _⟩
          · have hp : Hid (Ids.path l = false) := Lib.hid (hbd.out (by rw [HSO.out, ha, h1]; simp))
            clear hbd hnx ha
            gi_wp2_with fail
            refine ⟨trivial, (CallsIn.inRound lo (callsIn_wide.2 (hal _))).mono ?_⟩
            rintro e w' ⟨rfl, rfl⟩
            clear hal
            gi_wp2_with fail
            exact ⟨(Chg.refl _ _).setCell (.inl (by simp)) _, rfl, World.cell?_setCell_same _ _ _ hcell, hp, HI.out.chg.setCell (p := ⟨w.heap.size, 0, none⟩) (.inl (by simp)) _⟩
      case done =>
        rintro W hi hK
        have hp : Hid (Ids.path l = true) := Lib.hid (by
          have := hi.good
          rw [List.take_length] at this
          rw [HPT.out, this])
        have hcell := hi.cell
        have hfroz := hi.froz
        have HI := Lib.hid hi
        clear hi
        go_wp2_with fail
        have hc2 := HI.out.chg.setCell (p := ⟨w.heap.size, 0, none⟩) (.inl (by simp)) (.bool true)
        have cx := World.cell?_setCell_same W ⟨w.heap.size, 0, none⟩ (.bool true) hcell
        obtain ⟨W2, hW2⟩ : ∃ W2, W.setCell ⟨w.heap.size, 0, none⟩ (.bool true) = W2 := ⟨_, rfl⟩
        have hK2 : W2.heap[w5.heap.size]? = some (.deferred (some [])) := by
          rw [← hW2]
          exact (chg_one W w.heap.size 0 (.bool true)).block _ (Array.getElem?_eq_some_iff.1 hK).1 (by simp; omega) |>.trans hK
        rw [hW2] at hc2 cx ⊢
        refine ⟨by simp, .inl ⟨_, _, rfl, run_takeDeferred hK2, ?_⟩⟩
        have hcp := chg_putObj W2 w5.heap.size (.deferred none)
        have cx2 := (hcp.cell (p := ⟨w.heap.size, 0, none⟩) (World.block_lt_of_cell? _ _ cx) (by simp; omega)).trans cx
        refine ⟨.bool true, by simp [results, Tryz.f47, go_sem, cx2], by rw [← HR.out, hp.out], ?_⟩
        exact hb5.trans ((hc2.trans hcp (by intro s hs; simp at hs; omega)).below' hb5.size (by intro s hs; simp at hs; omega))
      case stop =>
        rintro c W ⟨rfl, hcx, hp, hc⟩ hK
        go_wp2_with fail
        refine ⟨by simp, .inl ⟨_, _, rfl, run_takeDeferred hK, ?_⟩⟩
        have hcp := chg_putObj W w5.heap.size (.deferred none)
        have cx2 := (hcp.cell (p := ⟨w.heap.size, 0, none⟩) (World.block_lt_of_cell? _ _ hcx) (by simp; omega)).trans hcx
        refine ⟨.bool false, by simp [results, Tryz.f47, go_sem, cx2], by rw [← HR.out, hp.out], ?_⟩
        exact hb5.trans ((hc.trans hcp (by intro s hs; simp at hs; omega)).below' hb5.size (by intro s hs; simp at hs; omega))
end Go.Proofs.YtgalhnobckoneaaGreatDoor
/- THE WALKS of ids.Agent, ids.Parse, ids.Make. -/
namespace Go.Proofs.YtgalhnobckoneaaGreatDoor
open Go.RowKit Mem

set_option maxRecDepth 100000 in
theorem agent_any (l : List UInt8) (w : World) (hl : l.length ≤ 9223372036854775807) : Calls Tryz.prog 21 #[.string (str l)] w fun e w' => e = .returned (.bool (Ids.agent l)) ∧ Below w.heap.size w w' := by
  have hpre := pre_any Ids.agentPre l w
  have hp := path_any l w hl
  have hc := fun w1 => has_any (l.drop Ids.agentPre.length) w1
  unfold Ids.agent
  rw [show l.drop 7 = l.drop Ids.agentPre.length from rfl]
  generalize l.drop Ids.agentPre.length = V at *
  generalize Ids.path l = b at *
  generalize V.contains 47 = c at *
  cases ha : Ids.agentPre.isPrefixOf l
  · rw [ha] at hpre
    go_enter Tryz.func21, Tryz.ntmps21
    go_wp2_with fail
    refine hpre.mono ?_
    rintro e w' ⟨rfl, rfl⟩
    go_wp2
    go_ret
    exact ⟨by simp, Below.refl _ _⟩
  · rw [ha] at hpre
    cases b
    · go_enter Tryz.func21, Tryz.ntmps21
      go_wp2_with fail
      refine hpre.mono ?_
      rintro e w' ⟨rfl, rfl⟩
      go_wp2_with fail
      refine hp.mono ?_
      rintro e w1 ⟨rfl, hb⟩
      go_wp2
      go_ret
      exact ⟨by simp, hb⟩
    · go_enter Tryz.func21, Tryz.ntmps21
      go_wp2_with fail
      refine hpre.mono ?_
      rintro e w' ⟨rfl, rfl⟩
      go_wp2_with fail
      refine hp.mono ?_
      rintro e w1 ⟨rfl, hb⟩
      go_wp2_with fail
      refine (hc _).mono ?_
      rintro e w' ⟨rfl, rfl⟩
      go_wp2
      go_ret
      exact ⟨by simp, hb⟩
theorem domain_len {l : List UInt8} (h : Ids.domain l = true) : 1 ≤ l.length ∧ l.length ≤ 16 := by
  unfold Ids.domain Ids.allOf at h
  rw [Ids.isEmpty_len] at h
  simp only [Bool.and_eq_true, decide_eq_true_eq] at h
  exact ⟨h.1.2.2, h.1.1⟩
theorem path_len {l : List UInt8} (h : Ids.path l = true) : 2 ≤ l.length ∧ l.length ≤ 40 := by
  by_cases h2 : l.length < 2
  · rw [path_short h2] at h; cases h
  · rw [path_drop rfl (by omega)] at h
    simp only [Bool.and_eq_true, decide_eq_true_eq] at h
    exact ⟨by omega, h.1.1⟩
theorem str_app (a b : List UInt8) : str a ++ str b = str (a ++ b) := by
  apply ByteArray.ext
  simp [str]
end Go.Proofs.YtgalhnobckoneaaGreatDoor
/- THE WALKS of the reference's lists of texts: Same, Has, Within. -/
namespace Go.Proofs.YtgalhnobckoneaaGreatDoor
open Go.RowKit Mem

theorem has_take {L : List (List UInt8)} {s : List UInt8} {k : Nat} (h : (L.take k).contains s = false) (hk : k < L.length) (hn : (L[k] == s) = false) : (L.take (k + 1)).contains s = false := by
  rw [List.take_succ_eq_append_getElem hk, List.contains_eq_any_beq, List.any_append, ← List.contains_eq_any_beq, h]
  have : ¬ s = L[k] := fun e => by rw [← e] at hn; simp at hn
  simp [this]
/-- Is each of a one of b? -/
def withinOf (a b : List (List UInt8)) : Bool := a.all fun x => b.contains x
end Go.Proofs.YtgalhnobckoneaaGreatDoor
