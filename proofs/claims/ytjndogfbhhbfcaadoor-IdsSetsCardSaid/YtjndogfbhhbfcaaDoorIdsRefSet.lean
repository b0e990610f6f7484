/- THE WALK of the reference's Set. -/
import Derived.Test.YtjndogfbhhbfcaaDoorIdsSame
import Derived.Test.YtjndogfbhhbfcaaDoorIdsSetLaw
import Derived.BigQuiet
import Derived.Deep.DeepMust
namespace Go.Proofs.YtjndogfbhhbfcaaDoor
open Go.RowKit Mem

/-- A set that is told: rows of the call's own. -/
def SetOut (w : World) (L : List (List UInt8)) (e : Ending) (w' : World) : Prop :=
  ∃ A m c, e = .returned (.tuple #[.slice A m c, .int .i64 ((Ids.setOf L).2 : Int)]) ∧ m ≤ c ∧ w'.ownsRow w.heap.size 9 1 (.slice A m c) m (tv ((Ids.setOf L).1.getD [])) ∧ Below w.heap.size w w'
/-- What the inner loop has found. -/
def Best (L out : List (List UInt8)) (k : Nat) (b : List UInt8) : Prop :=
  (b = [] ∧ ∀ j, (h : j < L.length) → j < k → Ids.cand out L[j] = false) ∨ (b ∈ L ∧ b ≠ [] ∧ Ids.cand out b = true ∧ ∀ j, (h : j < L.length) → j < k → Ids.cand out L[j] = true → ¬ L[j] < b)

/-- Only draws lie between. -/
def Drew (w w' : World) : Prop := ∃ q, w' = w.drewN q
theorem Drew.refl (w : World) : Drew w w := ⟨0, rfl⟩
theorem Drew.next {w w' : World} (h : Drew w w') (k : Nat) : Drew w (w'.drewN k) := by
  obtain ⟨q, rfl⟩ := h
  exact ⟨q + k, by simp [World.drewN, Nat.add_assoc]⟩
theorem Drew.below {w w' : World} (h : Drew w w') (B : Nat) : Below B w w' := by
  obtain ⟨q, rfl⟩ := h
  exact below_drewM B w q
theorem Drew.cell {w w' : World} (h : Drew w w') (a : Addr) : w'.cell? a = w.cell? a := by
  obtain ⟨q, rfl⟩ := h
  rfl
theorem nonempty_sel {x : List UInt8} (h : Ids.selector x = true) : x ≠ [] := by
  rintro rfl
  simp [Ids.selector, Ids.till] at h
theorem best_take {L out : List (List UInt8)} {j : Nat} {bl x : List UInt8} (hB : Best L out j bl) (hj : j < L.length) (hx : L[j] = x) (hne : x ≠ []) (hc : Ids.cand out x = true) (h : bl = [] ∨ x < bl) : Best L out (j + 1) x := by
  refine .inr ⟨by rw [← hx]; exact List.getElem_mem hj, hne, hc, fun i hi hij hci => ?_⟩
  by_cases e : i = j
  · subst e; rw [hx]; exact Ids.lt_irr x
  · rcases hB with ⟨_, h2⟩ | ⟨_, hbn, _, h2⟩
    · rw [h2 i hi (by omega)] at hci; cases hci
    · rcases h with h | h
      · exact absurd h hbn
      · exact fun hlt => h2 i hi (by omega) hci (Ids.lt_tr hlt h)
theorem best_keep {L out : List (List UInt8)} {j : Nat} {bl x : List UInt8} (hB : Best L out j bl) (hj : j < L.length) (hx : L[j] = x) (h : Ids.cand out x = false ∨ (bl ≠ [] ∧ ¬ x < bl)) : Best L out (j + 1) bl := by
  rcases hB with ⟨h1, h2⟩ | ⟨h0, h1, hc, h2⟩
  · refine .inl ⟨h1, fun i hi hij => ?_⟩
    by_cases e : i = j
    · subst e
      rw [hx]
      rcases h with h | h
      · exact h
      · exact absurd h1 h.1
    · exact h2 i hi (by omega)
  · refine .inr ⟨h0, h1, hc, fun i hi hij hci => ?_⟩
    by_cases e : i = j
    · subst e
      rw [hx] at hci ⊢
      rcases h with h | h
      · rw [h] at hci; cases hci
      · exact h.2
    · exact h2 i hi (by omega) hci
/-- 'a < b' of two texts, as the walk asks it. -/
theorem less_yes {a b : List UInt8} (h : a < b) : Op.bytesLess a b = true := by rw [bytesLess_eq]; exact decide_eq_true h
theorem less_no {a b : List UInt8} (h : ¬ a < b) : Op.bytesLess a b = false := by rw [bytesLess_eq]; exact decide_eq_false h
set_option maxRecDepth 100000 in
set_option maxHeartbeats 4000000 in
theorem rset_any (A : Option Addr) (n c : Nat) (L : List (List UInt8)) (w : World) (h : Ts w A n L) (hn : n * 16 ≤ 140737488355328) (hlen : ∀ x ∈ L, x.length ≤ 9223372036854775807) :
    Calls Tryd.prog 15 #[.slice A n c] w (SetOut w L) := by
  obtain ⟨iT, hiT, hzT, hsT, hbT⟩ := info_parts infoT
  have HL := Lib.hid h.len
  have HLEN := Lib.hid hlen
  clear hlen
  go_enter Tryd.func15, Tryd.ntmps15
  go_wp2_with fail
  go_loop [4, 5] (fun i _ => ∃ k : Nat, k ≤ n ∧ i = .int .i64 k ∧ Hid ((L.take k).all Ids.selector = true)) (fun i _ => n - (intOf i).toNat)
  case atStart => exact ⟨0, by omega, rfl, Lib.hid (by simp)⟩
  case round =>
    obtain ⟨k, hk, rfl, HT⟩ := hrel
    by_cases hlt : k < n
    · have hkL : k < L.length := by rw [HL.out]; exact hlt
      obtain ⟨blk, off, rfl, hcell⟩ := h.lit hkL
      have hcall := rselector_any L[k] w (HLEN.out _ (List.getElem_mem hkL))
      have hi : (k : Int) < (n : Int) := by omega
      cases hq : Ids.selector L[k]
      · have hx : Hid (Ids.setOf L = (none, 13)) := Lib.hid (by
          unfold Ids.setOf
          rw [List.all_eq_false.2 ⟨L[k], List.getElem_mem hkL, by rw [hq]; simp⟩]
          rfl)
        rw [hq] at hcall
        generalize L[k] = x at *
        clear hq
        go_wp2_with fail
        refine hcall.mono ?_
        rintro e w' ⟨rfl, rfl⟩
        go_wp2
        go_ret2
        exact ⟨none, 0, 0, by rw [hx.out]; rfl, by omega, by rw [hx.out]; exact World.ownsRow_nil _ _ _ _, Below.refl _ _⟩
      · have HN := Lib.hid ((all_takeL (p := Ids.selector) HT.out hkL).trans hq)
        rw [hq] at hcall
        generalize L[k] = x at *
        clear hq
        go_wp2_with fail
        refine hcall.mono ?_
        rintro e w' ⟨rfl, rfl⟩
        go_wp2
        go_round
        case rel => exact ⟨k + 1, by omega, by go_num, HN⟩
        case measure => simp [intOf]; omega
    · obtain rfl : k = n := by omega
      have HSEL : Hid (L.all Ids.selector = true) := Lib.hid (by
        have := HT.out
        rwa [List.take_of_length_le (by rw [HL.out]; exact Nat.le_refl _)] at this)
      clear HT
      go_wp2_with fail
      go_loopw [6, 7, 8] (fun v _ _ wr => ∃ (m : Nat) (A4 : Option Addr) (c4 : Nat) (out : List (List UInt8)), v = .slice A4 m c4 ∧ m ≤ c4 ∧ wr.ownsRow w.heap.size 9 1 (.slice A4 m c4) m (tv out) ∧ Below w.heap.size w wr ∧ Ids.Part L out ∧ m + Ids.left_ L out ≤ k ∧ Hid (out.length = m)) (fun v _ _ _ => match v with | .slice _ m _ => k - m | _ => 0)
      case atStart => exact ⟨0, none, 0, [], rfl, by omega, World.ownsRow_nil _ _ _ _, Below.refl _ _, Ids.Part.nil L, by have := Ids.left_le L []; rw [HL.out] at this; omega, Lib.hid rfl⟩
      case round =>
        obtain ⟨m, A4, c4, out, rfl, hmc, hown, hb, hpart, hleft, HM⟩ := hrel
        have HP := Lib.hid hpart
        clear hpart
        obtain ⟨wo, hwo⟩ : ∃ wo, wo = wr := ⟨_, rfl⟩
        subst hwo
        go_wp2_with fail
        go_loopw [7, 8] (fun b i wx => ∃ (j : Nat) (bl : List UInt8), j ≤ k ∧ i = .int .i64 j ∧ b = .string (str bl) ∧ Hid (Best L out j bl) ∧ Drew wo wx) (fun _ i _ => k - (intOf i).toNat)
        case atStart => exact ⟨0, [], by omega, rfl, rfl, Lib.hid (.inl ⟨rfl, fun j _ hj => by omega⟩), Drew.refl _⟩
        case round =>
          obtain ⟨wx, hwx⟩ : ∃ wx, wx = wr := ⟨_, rfl⟩
          subst hwx
          obtain ⟨j, bl, hj, rfl, rfl, HB, hdr⟩ := hrel
          by_cases hjt : j < k
          · have hjL : j < L.length := by rw [HL.out]; exact hjt
            have ht1 : Ts wx A k L := (h.below hb).below (hdr.below _)
            obtain ⟨blk, off, rfl, hcell⟩ := ht1.lit hjL
            obtain ⟨x, hjx⟩ : ∃ x, L[j] = x := ⟨_, rfl⟩
            rw [hjx] at hcell
            have hxne : x ≠ [] := by rw [← hjx]; exact nonempty_sel (List.all_eq_true.1 HSEL.out _ (List.getElem_mem hjL))
            have hi : (j : Int) < (k : Int) := by omega
            clear ht1
            by_cases hm0 : m = 0
            · subst hm0
              have hcd : Ids.cand out x = true := by
                have := List.eq_nil_of_length_eq_zero HM.out
                rw [this]; rfl
              by_cases hbl : bl = []
              · have HT := Lib.hid (best_take HB.out hjL hjx hxne hcd (.inl hbl))
                subst hbl
                clear hjx hxne hcd
                go_wp2_with fail
                go_quiet (fail)
                go_wp2_with fail
                go_roundw
                case rel => exact ⟨j + 1, x, by omega, by go_num, rfl, HT, hdr.next nq⟩
                case measure => simp [intOf]; omega
              · have hne : bl.isEmpty = false := by cases bl <;> simp_all
                have hem : decide (str bl = ⟨#[]⟩) = false := (empty_str bl).trans hne
                have hems : ¬ str bl = ⟨#[]⟩ := by simpa using hem
                by_cases hxb : x < bl
                · have HT := Lib.hid (best_take HB.out hjL hjx hxne hcd (.inr hxb))
                  have hless := less_yes hxb
                  clear hjx hxne hxb hcd
                  go_wp2_with fail
                  go_quiet (fail)
                  go_wp2_with fail
                  go_roundw
                  case rel => exact ⟨j + 1, x, by omega, by go_num, rfl, HT, hdr.next nq⟩
                  case measure => simp [intOf]; omega
                · have HK := Lib.hid (best_keep HB.out hjL hjx (.inr ⟨hbl, hxb⟩))
                  have hless := less_no hxb
                  clear hjx hxne hxb hcd
                  go_wp2_with fail
                  go_quiet (fail)
                  go_wp2_with fail
                  go_roundw
                  case rel => exact ⟨j + 1, bl, by omega, by go_num, rfl, HK, hdr.next nq⟩
                  case measure => simp [intOf]; omega
            · obtain ⟨M, rfl⟩ : ∃ M, m = M + 1 := ⟨m - 1, by omega⟩
              have hMo : M < out.length := by rw [HM.out]; omega
              have hto : Ts wx A4 (M + 1) out := (Ts.of_own hown).below (hdr.below _)
              obtain ⟨blk2, off2, rfl, hcell2⟩ := hto.lit hMo
              obtain ⟨y, hy⟩ : ∃ y, out[M] = y := ⟨_, rfl⟩
              rw [hy] at hcell2
              have hcy : Ids.cand out x = decide (y < x) := by
                unfold Ids.cand
                rw [List.getLast?_eq_getElem?, HM.out, Nat.add_sub_cancel, List.getElem?_eq_getElem hMo, hy]
              have hM1 : M ≤ 8796093022208 := by omega
              have hM2 : (((M : Int) + 1) == 0) = false := by simp; omega
              have hM3 : IntKind.i64.wrap (M : Int) = (M : Int) := by rw [IntKind.wrap_i64]; omega
              clear hto hy hm0
              by_cases hyx : y < x
              · have hcd : Ids.cand out x = true := by rw [hcy]; exact decide_eq_true hyx
                have g1 := less_no (Ids.lt_as hyx)
                have g2 : (x == y) = false := by
                  cases e : (x == y)
                  · rfl
                  · simp at e; subst e; exact absurd hyx (Ids.lt_irr _)
                clear hcy hyx
                by_cases hbl : bl = []
                · have HT := Lib.hid (best_take HB.out hjL hjx hxne hcd (.inl hbl))
                  subst hbl
                  clear hjx hxne hcd
                  go_wp2_with fail
                  go_quiet (fail)
                  go_wp2_with fail
                  go_roundw
                  case rel => exact ⟨j + 1, x, by omega, by go_num, rfl, HT, hdr.next nq⟩
                  case measure => simp [intOf]; omega
                · have hne : bl.isEmpty = false := by cases bl <;> simp_all
                  have hem : decide (str bl = ⟨#[]⟩) = false := (empty_str bl).trans hne
                  have hems : ¬ str bl = ⟨#[]⟩ := by simpa using hem
                  by_cases hxb : x < bl
                  · have HT := Lib.hid (best_take HB.out hjL hjx hxne hcd (.inr hxb))
                    have hless := less_yes hxb
                    clear hjx hxne hxb hcd
                    go_wp2_with fail
                    go_quiet (fail)
                    go_wp2_with fail
                    go_roundw
                    case rel => exact ⟨j + 1, x, by omega, by go_num, rfl, HT, hdr.next nq⟩
                    case measure => simp [intOf]; omega
                  · have HK := Lib.hid (best_keep HB.out hjL hjx (.inr ⟨hbl, hxb⟩))
                    have hless := less_no hxb
                    clear hjx hxne hxb hcd
                    go_wp2_with fail
                    go_quiet (fail)
                    go_wp2_with fail
                    go_roundw
                    case rel => exact ⟨j + 1, bl, by omega, by go_num, rfl, HK, hdr.next nq⟩
                    case measure => simp [intOf]; omega
              · have hcd : Ids.cand out x = false := by rw [hcy]; exact decide_eq_false hyx
                have HK := Lib.hid (best_keep HB.out hjL hjx (.inl hcd))
                by_cases hxy : x < y
                · have g1 := less_yes hxy
                  clear hcy hyx hjx hxne hcd hxy
                  go_wp2_with fail
                  go_quiet (fail)
                  go_wp2_with fail
                  go_roundw
                  case rel => exact ⟨j + 1, bl, by omega, by go_num, rfl, HK, hdr.next nq⟩
                  case measure => simp [intOf]; omega
                · have g1 := less_no hxy
                  have hex : x = y := by
                    rcases Ids.lt_tri x y with g | g | g
                    · exact absurd g hxy
                    · exact g
                    · exact absurd g hyx
                  have g2 : (x == y) = true := by simp [hex]
                  clear hcy hyx hjx hxne hcd hxy hex
                  go_wp2_with fail
                  go_quiet (fail)
                  go_wp2_with fail
                  go_roundw
                  case rel => exact ⟨j + 1, bl, by omega, by go_num, rfl, HK, hdr.next nq⟩
                  case measure => simp [intOf]; omega
          · obtain rfl : j = k := by omega
            have hownx : wx.ownsRow w.heap.size 9 1 (.slice A4 m c4) m (tv out) := own_below hown (hdr.below wo.heap.size) (Nat.le_refl _)
            have hbx : Below w.heap.size w wx := hb.trans (hdr.below _)
            by_cases hbl : bl = []
            · have hdone : out = Ids.uniq L := HP.out.done (fun x hx => by
                rcases HB.out with ⟨_, h2⟩ | ⟨_, h2, _⟩
                · obtain ⟨i, hi, rfl⟩ := List.mem_iff_getElem.1 hx
                  exact h2 i hi (by have := HL.out; omega)
                · exact absurd hbl h2)
              subst hbl
              have hset : Hid (Ids.setOf L = if 4 < m then (none, 4) else (some out, 0)) := Lib.hid (by
                unfold Ids.setOf
                rw [HSEL.out, ← hdone, HM.out]
                rfl)
              have hem : decide (str ([] : List UInt8) = ⟨#[]⟩) = true := empty_str []
              clear hdone hown hb
              by_cases h4 : 4 < m
              · go_wp2_with fail
                go_ret2
                exact ⟨none, 0, 0, by rw [hset.out, if_pos h4]; rfl, by omega, by rw [hset.out, if_pos h4]; exact World.ownsRow_nil _ _ _ _, hbx⟩
              · go_wp2_with fail
                go_ret2
                exact ⟨A4, m, c4, by rw [hset.out, if_neg h4]; rfl, hmc, by rw [hset.out, if_neg h4]; exact hownx, hbx⟩
            · have hin : bl ∈ L ∧ Ids.cand out bl = true ∧ ∀ x ∈ L, Ids.cand out x = true → ¬ x < bl := by
                rcases HB.out with ⟨h1, _⟩ | ⟨h1, _, h2, h3⟩
                · exact absurd h1 hbl
                · refine ⟨h1, h2, fun x hx hc => ?_⟩
                  obtain ⟨i, hi, rfl⟩ := List.mem_iff_getElem.1 hx
                  exact h3 i hi (by have := HL.out; omega) hc
              have HP2 := Lib.hid (HP.out.next hin.1 hin.2.1 hin.2.2)
              have hll := Ids.left_lt hin.1 hin.2.1
              have hne : bl.isEmpty = false := by cases bl <;> simp_all
              have hem : decide (str bl = ⟨#[]⟩) = false := (empty_str bl).trans hne
              have hems : ¬ str bl = ⟨#[]⟩ := by simpa using hem
              have e1 : tv (out ++ [bl]) = tv out ++ [.string (str bl)] := by rw [tv_append]; rfl
              have HE := Lib.hid e1
              have h63 : m + 1 ≤ maxLen := by unfold maxLen; omega
              have hk16 : (m + 1) * 16 ≤ 140737488355328 := by omega
              have hB4 : w.heap.size ≤ wx.heap.size := hbx.size
              clear e1 hin hown hb
              go_wp2_with (at_builtin; go_must (refine wpList_push rfl (.tmp 62) (.tmp 64) 30 rfl w.heap.size iT (.string ⟨#[]⟩) 16 Tryd.underlying30 hiT hzT hsT hbT rfl _ _ _ rfl hownx rfl rfl h63 hk16 hB4 ?_))
              intro A8 c8 w8 hown8 g7 g8 hgr
              have hb8 : Below w.heap.size w w8 := below_push hbx hgr hB4 hownx (Nat.le_refl _)
              rw [← HE.out] at hown8
              clear hgr hownx hdr
              go_wp2_with fail
              go_roundw
              case rel => exact ⟨m + 1, A8, c8, out ++ [bl], rfl, g7, hown8, hb8, HP2.out, by omega, Lib.hid (by rw [List.length_append, HM.out]; rfl)⟩
              case measure => simp; omega
end Go.Proofs.YtjndogfbhhbfcaaDoor
