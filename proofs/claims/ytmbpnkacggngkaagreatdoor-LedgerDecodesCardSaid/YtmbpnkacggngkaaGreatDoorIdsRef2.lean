/- THE WALKS of the reference's ids: Path, Agent. -/
import Derived.Test.YtmbpnkacggngkaaGreatDoorIdsRef
namespace Go.Proofs.YtmbpnkacggngkaaGreatDoor
open Go.RowKit Mem

/-- 'x != y' of two bytes, as the walk asks it. -/
theorem ne_yes {n k : Nat} (h : ¬ n = k) : ((n : Int) != (k : Int)) = true := by simp; omega
theorem ne_no {n k : Nat} (h : n = k) : ((n : Int) != (k : Int)) = false := by simp [h]
theorem eq_yes {n k : Nat} (h : n = k) : ((n : Int) == (k : Int)) = true := by simp [h]
theorem eq_no {n k : Nat} (h : ¬ n = k) : ((n : Int) == (k : Int)) = false := by simp; omega
theorem path_cons (c : UInt8) (t : List UInt8) : Ids.path (c :: t) = (decide (t.length + 1 ≤ 40) && c == 47 && Ids.segsOk t) := rfl
theorem path_drop {l : List UInt8} {N : Nat} (hN : l.length = N) (h : 1 ≤ N) : Ids.path l = (decide (N ≤ 40) && (l[0]'(by omega) == 47) && Ids.segsOk (l.drop 1)) := by
  subst hN
  match l, h with
  | c :: t, _ => rw [path_cons]; rfl
theorem path_short {l : List UInt8} (h : l.length < 2) : Ids.path l = false := by
  match l, h with
  | [], _ => rfl
  | [c], _ => rw [path_cons]; simp [Ids.segsOk, Ids.pieces, Ids.segOk, Ids.allOf]
theorem segOk_eq (w : List UInt8) : Ids.segOk w = (Ids.allOf Ids.named w && !(w == [46]) && !(w == [46, 46])) := rfl
theorem no47_next {l : List UInt8} {a k : Nat} (ha : a ≤ k) (hk : k < l.length) (h : 47 ∉ (l.take k).drop a) (hn : l[k] ≠ 47) : 47 ∉ (l.take (k + 1)).drop a := by
  rw [List.take_succ_eq_append_getElem hk, List.drop_append_of_le_length (by rw [List.length_take]; omega)]
  intro hm
  rcases List.mem_append.1 hm with hm | hm
  · exact h hm
  · simp at hm
    exact hn hm.symm

set_option maxRecDepth 100000 in
set_option maxHeartbeats 1000000 in
theorem rpath_any (l : List UInt8) (w : World) (hl : l.length ≤ 9223372036854775807) : Calls Tryz.prog 33 #[.string (str l)] w fun e w' => e = .returned (.bool (Ids.path l)) ∧ w = w' := by
  obtain ⟨r, hr0⟩ : ∃ r, Ids.path l = r := ⟨_, rfl⟩
  have HR := Lib.hid hr0
  rw [hr0]
  clear hr0
  obtain ⟨N, hN⟩ : ∃ N, l.length = N := ⟨_, rfl⟩
  have HN := Lib.hid hN
  have hsz : (str l).size = N := by rw [str_size, hN]
  rw [hN] at hl
  by_cases h2 : N < 2
  · have hp := Lib.hid (path_short (l := l) (by omega))
    clear hN
    go_enter Tryz.func33, Tryz.ntmps33
    go_wp2
    go_ret
    exact ⟨by rw [← HR.out, hp.out]; rfl, rfl⟩
  · have hpd := path_drop hN (by omega)
    by_cases h40 : 40 < N
    · have hp : Hid (Ids.path l = false) := Lib.hid (by rw [hpd, decide_eq_false (by omega)]; rfl)
      clear hN hpd
      go_enter Tryz.func33, Tryz.ntmps33
      go_wp2
      go_ret
      exact ⟨by rw [← HR.out, hp.out]; rfl, rfl⟩
    · rw [decide_eq_true (by omega), Bool.true_and, show (47 : UInt8) = UInt8.ofNat 47 from rfl, u8_beq _ 47 (by omega)] at hpd
      have h0 : 0 < (str l).size := by omega
      have e0 : (str l)[0] = l[0]'(by omega) := rfl
      by_cases h47 : (l[0]'(by omega)).toNat = 47
      · have hp : Hid (Ids.path l = Ids.segsOk (l.drop 1)) := Lib.hid (by rw [hpd, decide_eq_true h47, Bool.true_and])
        rw [← e0] at h47
        have hb47 : (((str l)[0].toNat : Int) != 47) = false := ne_no h47
        clear hN hpd e0 h47
        go_enter Tryz.func33, Tryz.ntmps33
        go_wp2_with fail
        go_loop [3, 4, 5, 6] (fun a i _ _ => ∃ k m : Nat, 1 ≤ m ∧ m ≤ k ∧ k ≤ N + 1 ∧ i = .int .i64 k ∧ a = .int .i64 m ∧ Hid ((k ≤ N ∧ 47 ∉ (l.take k).drop m ∧ Ids.path l = Ids.segsOk (l.drop m)) ∨ (k = N + 1 ∧ Ids.path l = true))) (fun _ i _ _ => N + 1 - (intOf i).toNat)
        case atStart => exact ⟨1, 1, by omega, by omega, by omega, rfl, rfl, Lib.hid (.inl ⟨by omega, by rw [List.drop_of_length_le (by rw [List.length_take]; omega)]; simp, hp.out⟩)⟩
        case round =>
          obtain ⟨k, m, hm1, hmk, hkN, rfl, rfl, HH⟩ := hrel
          clear hp
          by_cases hle : k ≤ N
          · have hinv : 47 ∉ (l.take k).drop m ∧ Ids.path l = Ids.segsOk (l.drop m) := by
              rcases HH.out with h | h
              · exact h.2
              · omega
            have HI := Lib.hid hinv
            clear hinv HH
            have hstep := segs_step hmk (by rw [HN.out]; exact hle) HI.out.1
            rw [HN.out] at hstep
            have hex := sub_str l m k
            have hWl : ((l.take k).drop m).length ≤ 40 := by rw [List.length_drop, List.length_take]; omega
            obtain ⟨W, hW⟩ : ∃ W, (l.take k).drop m = W := ⟨_, rfl⟩
            rw [hW] at HI hstep hex hWl
            have hof := of_any W Ids.lNamed 40 w (by omega) (by decide)
            rw [Ids.of_named hWl] at hof
            have hd1 : decide (str W = ⟨#[46]⟩) = (W == [46]) := str_same W [46]
            have hd2 : decide (str W = ⟨#[46, 46]⟩) = (W == [46, 46]) := str_same W [46, 46]
            have HSO := Lib.hid (segOk_eq W)
            by_cases hgo : k < N ∧ ¬ (∃ h : k < l.length, l[k].toNat = 47)
            · obtain ⟨hlt, hn47⟩ := hgo
              have hkl : k < l.length := by rw [HN.out]; exact hlt
              have hne : ¬ l[k].toNat = 47 := fun e => hn47 ⟨hkl, e⟩
              have hnext : Hid ((k + 1 ≤ N ∧ 47 ∉ (l.take (k + 1)).drop m ∧ Ids.path l = Ids.segsOk (l.drop m)) ∨ (k + 1 = N + 1 ∧ Ids.path l = true)) :=
                Lib.hid (.inl ⟨by omega, no47_next hmk hkl (by rw [hW]; exact HI.out.1) (fun e => hne (by rw [e]; rfl)), HI.out.2⟩)
              have hks : k < (str l).size := by omega
              have hb : (((str l)[k].toNat : Int) != 47) = true := ne_yes (n := (str l)[k].toNat) hne
              clear hstep hof hd1 hd2 hWl hex hne hn47 hkl hW
              go_wp2_with fail
              go_round
              case rel => exact ⟨k + 1, m, hm1, by omega, by omega, by go_num, rfl, hnext⟩
              case measure => simp [intOf]; omega
            · have HH2 := hgo
              by_cases hlt : k < N
              · have hkl : k < l.length := by rw [HN.out]; exact hlt
                have hks : k < (str l).size := by omega
                have h47n : (l[k]'hkl).toNat = 47 := by
                  apply Classical.byContradiction
                  intro hx
                  exact hgo ⟨hlt, fun ⟨_, h⟩ => hx h⟩
                have h47k : l[k]? = some 47 := by
                  rw [List.getElem?_eq_getElem hkl]
                  congr 1
                  exact UInt8.toNat.inj h47n
                clear hgo
                have hpw : Hid (Ids.path l = (Ids.segOk W && Ids.segsOk (l.drop (k + 1)))) := Lib.hid (by rw [HI.out.2, hstep]; rw [if_pos ⟨hlt, h47k⟩])
                have hb : (((str l)[k].toNat : Int) != 47) = false := ne_no (n := (str l)[k].toNat) h47n
                clear h47k h47n hkl
                have hnext : Ids.segOk W = true → Hid ((k + 1 ≤ N ∧ 47 ∉ (l.take (k + 1)).drop (k + 1) ∧ Ids.path l = Ids.segsOk (l.drop (k + 1))) ∨ (k + 1 = N + 1 ∧ Ids.path l = true)) := fun hs => by
                  have hq := hpw.out
                  rw [hs, Bool.true_and] at hq
                  exact Lib.hid (.inl ⟨by omega, by rw [List.drop_of_length_le (by rw [List.length_take]; omega)]; simp, hq⟩)
                clear hstep hW HH2 hd1 hd2
                cases ha : Ids.allOf Ids.named W
                · have hp : Hid (Ids.path l = false) := Lib.hid (by rw [hpw.out, HSO.out, ha]; rfl)
                  rw [ha] at hof
                  clear ha hnext
                  go_wp2_with fail
                  refine hof.mono ?_
                  rintro e w' ⟨rfl, rfl⟩
                  go_wp2
                  go_ret
                  exact ⟨by rw [← HR.out, hp.out]; rfl, rfl⟩
                · rw [ha] at hof
                  cases h1 : (W == [46])
                  · cases h2 : (W == [46, 46])
                    · have HN2 := hnext (by rw [HSO.out, ha, h1, h2]; rfl)
                      clear ha hnext
                      go_wp2_with fail
                      refine hof.mono ?_
                      rintro e w' ⟨rfl, rfl⟩
                      clear hof
                      go_wp2
                      go_round
                      case rel => exact ⟨k + 1, k + 1, by omega, by omega, by omega, by go_num, by go_num, HN2⟩
                      case measure => simp [intOf]; omega
                    · have hp : Hid (Ids.path l = false) := Lib.hid (by rw [hpw.out, HSO.out, ha, h1, h2]; rfl)
                      clear ha hnext
                      go_wp2_with fail
                      refine hof.mono ?_
                      rintro e w' ⟨rfl, rfl⟩
                      clear hof
                      go_wp2
                      go_ret
                      exact ⟨by rw [← HR.out, hp.out]; rfl, rfl⟩
                  · have hp : Hid (Ids.path l = false) := Lib.hid (by rw [hpw.out, HSO.out, ha, h1]; rfl)
                    clear ha hnext
                    go_wp2_with fail
                    refine hof.mono ?_
                    rintro e w' ⟨rfl, rfl⟩
                    clear hof
                    go_wp2
                    go_ret
                    exact ⟨by rw [← HR.out, hp.out]; rfl, rfl⟩
              · have hkE : k = N := by omega
                clear hgo
                have hpw : Hid (Ids.path l = (Ids.segOk W && true)) := Lib.hid (by rw [HI.out.2, hstep]; rw [if_neg (by omega), if_pos hkE, Bool.and_true])
                
                have hnext : Ids.segOk W = true → Hid ((k + 1 ≤ N ∧ 47 ∉ (l.take (k + 1)).drop (k + 1) ∧ Ids.path l = Ids.segsOk (l.drop (k + 1))) ∨ (k + 1 = N + 1 ∧ Ids.path l = true)) := fun hs => by
                  have hq := hpw.out
                  rw [hs, Bool.true_and] at hq
                  exact Lib.hid (.inr ⟨by omega, hq⟩)
                clear hstep hW HH2 hd1 hd2 hkE
                cases ha : Ids.allOf Ids.named W
                · have hp : Hid (Ids.path l = false) := Lib.hid (by rw [hpw.out, HSO.out, ha]; rfl)
                  rw [ha] at hof
                  clear ha hnext
                  go_wp2_with fail
                  refine hof.mono ?_
                  rintro e w' ⟨rfl, rfl⟩
                  go_wp2
                  go_ret
                  exact ⟨by rw [← HR.out, hp.out]; rfl, rfl⟩
                · rw [ha] at hof
                  cases h1 : (W == [46])
                  · cases h2 : (W == [46, 46])
                    · have HN2 := hnext (by rw [HSO.out, ha, h1, h2]; rfl)
                      clear ha hnext
                      go_wp2_with fail
                      refine hof.mono ?_
                      rintro e w' ⟨rfl, rfl⟩
                      clear hof
                      go_wp2
                      go_round
                      case rel => exact ⟨k + 1, k + 1, by omega, by omega, by omega, by go_num, by go_num, HN2⟩
                      case measure => simp [intOf]; omega
                    · have hp : Hid (Ids.path l = false) := Lib.hid (by rw [hpw.out, HSO.out, ha, h1, h2]; rfl)
                      clear ha hnext
                      go_wp2_with fail
                      refine hof.mono ?_
                      rintro e w' ⟨rfl, rfl⟩
                      clear hof
                      go_wp2
                      go_ret
                      exact ⟨by rw [← HR.out, hp.out]; rfl, rfl⟩
                  · have hp : Hid (Ids.path l = false) := Lib.hid (by rw [hpw.out, HSO.out, ha, h1]; rfl)
                    clear ha hnext
                    go_wp2_with fail
                    refine hof.mono ?_
                    rintro e w' ⟨rfl, rfl⟩
                    clear hof
                    go_wp2
                    go_ret
                    exact ⟨by rw [← HR.out, hp.out]; rfl, rfl⟩
          · obtain rfl : k = N + 1 := by omega
            have hp : Hid (Ids.path l = true) := Lib.hid (by rcases HH.out with h | h; omega; exact h.2)
            clear HH
            go_wp2
            go_ret
            exact ⟨by rw [← HR.out, hp.out]; rfl, rfl⟩
      · have hp : Hid (Ids.path l = false) := Lib.hid (by rw [hpd, decide_eq_false h47]; rfl)
        rw [← e0] at h47
        have hb47 : (((str l)[0].toNat : Int) != 47) = true := ne_yes h47
        clear hN hpd e0 h47
        go_enter Tryz.func33, Tryz.ntmps33
        go_wp2
        go_ret
        exact ⟨by rw [← HR.out, hp.out]; rfl, rfl⟩
end Go.Proofs.YtmbpnkacggngkaaGreatDoor
