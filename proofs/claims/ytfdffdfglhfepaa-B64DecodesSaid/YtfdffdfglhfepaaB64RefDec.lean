/- THE WALK of the reference's Decode. -/
import Derived.Test.YtfdffdfglhfepaaB64RefEnc
import Derived.Test.YtfdffdfglhfepaaB64Dec
import Derived.Deep.DeepMust
namespace Go.Proofs.Ytfdffdfglhfepaa
open Go.RowKit Mem B64

/-- (bytes, are they): the bytes new. -/
def RefDecAny (w : World) (s : List UInt8) (e : Ending) (w' : World) : Prop :=
  ∃ A n c, e = .returned (.tuple #[.slice A n c, .bool (dec s).isSome]) ∧ n ≤ c ∧ w'.ownsRow w.heap.size 5 1 (.slice A n c) n (bv ((dec s).getD [])) ∧ Below w.heap.size w w'

set_option maxRecDepth 100000 in
set_option maxHeartbeats 2000000 in
theorem refDecode_any (s : List UInt8) (w : World) (hn : s.length ≤ 400) : Calls Try.prog 13 #[.string (str s)] w (RefDecAny w s) := by
  obtain ⟨i8, hi8, hz8, hs8, hb8⟩ := info_parts info8
  obtain ⟨iI, hiI, hzI, hsI, hbI⟩ := info_parts infoI
  have hsz := str_size s
  obtain ⟨N, hN⟩ : ∃ N, s.length = N := ⟨_, rfl⟩
  rw [hN] at hsz hn
  have HN := Lib.hid hN
  clear hN
  go_enter Try.func13, Try.ntmps13
  go_wp2
  go_loopw [4, 5] (fun v i wr => ∃ (k : Nat) (A3 : Option Addr) (c3 : Nat), k ≤ N ∧ i = .int .i64 k ∧ v = .slice A3 (k * 6) c3 ∧ Hid (valid (s.take k) = true) ∧ wr.ownsRow w.heap.size 3 1 (.slice A3 (k * 6) c3) (k * 6) (iv (vals (s.take k))) ∧ Below w.heap.size w wr) (fun _ i _ => N - (intOf i).toNat)
  case atStart => exact ⟨0, none, 0, by omega, rfl, rfl, Lib.hid rfl, World.ownsRow_nil _ _ _ _, Below.refl _ _⟩
  case round =>
    obtain ⟨k, A3, c3, hk, rfl, rfl, HV, hown, hb⟩ := hrel
    have hB1 : w.heap.size ≤ wr.heap.size := hb.size
    by_cases hlt : k < N
    · have hks : k < (str s).size := by omega
      have hkl : k < s.length := by rw [HN.out]; exact hlt
      have hce : (str s)[k] = s[k] := rfl
      have hcc : valI (str s)[k].toNat = match val s[k] with
        | some n => (n : Int)
        | none => -1 := by rw [hce]; exact valI_eq s[k]
      have hval := value_any (str s)[k].toNat ((str s)[k].toNat_lt) wr
      cases hv : val s[k] with
      | none =>
        rw [hv] at hcc
        rw [hcc] at hval
        have hdec := not_valid hkl hv
        have hres : RefDecAny w s (.returned (.tuple #[.slice none 0 0, .bool false])) wr := by
          refine ⟨none, 0, 0, ?_, Nat.le_refl _, ?_, hb⟩
          · rw [hdec]; rfl
          · rw [hdec]; exact World.ownsRow_nil _ _ _ _
        have HR := Lib.hid hres
        clear hv hcc hdec hres hce hown
        go_wp2_with fail
        refine hval.mono ?_
        rintro e w' ⟨rfl, rfl⟩
        go_wp2
        go_ret2
        exact HR.out
      | some v =>
        rw [hv] at hcc
        rw [hcc] at hval
        have hv64 := (val_some hv).1
        have HV2 := Lib.hid (valid_take hkl hv HV.out)
        have ht2 : iv (vals (s.take (k + 1))) = iv (vals (s.take k)) ++ iv (B64.bits 6 v) := by rw [vals_take hkl hv, iv_append]
        have HS := Lib.hid ht2
        clear hv hcc hce ht2
        have hbit := bits_any v 6 (by omega) (by omega) wr
        have hone := iv_oneCell (B64.bits 6 v)
        go_wp2_with fail
        refine hval.mono ?_
        rintro e w' ⟨rfl, rfl⟩
        go_wp2_with fail
        refine hbit.mono ?_
        rintro e w1 ⟨A8, c8, rfl, g8, hv8, hb1⟩
        have hb01 : Below w.heap.size w w1 := hb.trans (hb1.mono hB1)
        have hown1 := own_below hown hb1 (Nat.le_refl _)
        have h63 : k * 6 + 6 ≤ maxLen := by unfold maxLen; omega
        go_wp2_with (at_builtin; go_must (refine wpList_append w1 rfl (.tmp 21) (.tmp 23) 43 rfl w.heap.size 3 iI (.int .i64 0) 1 8 Try.underlying43 hiI hzI hsI hbI rfl (by omega) _ _ _ rfl hown1 w1.heap.size A8 6 c8 _ rfl hv8 hone h63 (by omega) hb01.size ?_))
        intro A' c' w2 hown2 g1 g2 hgr
        have hb2 : Below w.heap.size w w2 := below_grown hb01 hgr hb01.size hown1 (Nat.le_refl _)
        have hown3 : w2.ownsRow w.heap.size 3 1 (.slice A' ((k + 1) * 6) c') ((k + 1) * 6) (iv (vals (s.take (k + 1)))) := by
          rw [HS.out, show (k + 1) * 6 = k * 6 + 6 by omega]
          exact hown2
        clear hown hown1 hown2 hgr hv8 hone hb hb1
        go_wp2
        go_roundw
        case rel => exact ⟨k + 1, A', c', by omega, by go_num, by rw [show (k + 1) * 6 = k * 6 + 6 by omega], HV2, hown3, hb2⟩
        case measure => simp [intOf]; omega
    · obtain rfl : k = N := by omega
      have htk : s.take k = s := by rw [← HN.out, List.take_length]
      rw [htk] at HV hown
      obtain ⟨T, hT⟩ : ∃ T, k * 6 = T := ⟨_, rfl⟩
      have hvl : (vals s).length = T := by rw [vals_length, HN.out, hT]
      obtain ⟨G, hG⟩ : ∃ G, T / 8 = G := ⟨_, rfl⟩
      have hG1 : G * 8 ≤ T := by omega
      have hG2 : T < G * 8 + 8 := by omega
      have hT2 : T ≤ 2400 := by omega
      obtain ⟨R, P, hRP, hRl, hPl⟩ : ∃ R P, vals s = R ++ P ∧ R.length = G * 8 ∧ P.length < 8 := ⟨(vals s).take (G * 8), (vals s).drop (G * 8), (List.take_append_drop _ _).symm, by simp [hvl]; omega, by simp [hvl]; omega⟩
      have hbits : B64.bytes (vals s) = B64.bytes R := by rw [hRP]; exact bytes_tail R P G hRl hPl
      have hRis : IsBits R := by have h := vals_is s; rw [hRP] at h; exact h.left
      have hv := Vs.of_own hown
      obtain ⟨A4, c4, hform, g1, g2⟩ := own_form hown
      injection hform with e1 e2 e3
      subst e1 e3
      clear e2 hown
      rw [hT] at g1 hv
      rw [hT]
      have HB := Lib.hid hbits
      have HRP := Lib.hid hRP
      have HRl := Lib.hid hRl
      have HPl := Lib.hid hPl
      clear hT hG hvl htk hbits hRP hRl hPl
      have hB4 := hb
      clear hlt
      go_wp2_with fail
      obtain ⟨W4, hW4⟩ : ∃ W4, W4 = wr := ⟨_, rfl⟩
      subst hW4
      go_loopw [7, 8] (fun v i wx => ∃ (k j : Nat) (A5 : Option Addr) (c5 : Nat), Hid (k * 8 = j) ∧ k ≤ G ∧ i = .int .i64 j ∧ v = .slice A5 k c5 ∧ wx.ownsRow W4.heap.size 5 1 (.slice A5 k c5) k (bv ((B64.bytes R).take k)) ∧ Below W4.heap.size W4 wx) (fun _ i _ => T - (intOf i).toNat)
      case atStart => exact ⟨0, 0, none, 0, Lib.hid rfl, by omega, rfl, rfl, World.ownsRow_nil _ _ _ _, Below.refl _ _⟩
      case round =>
        obtain ⟨m, j, A5, c5, HJ, hm, rfl, rfl, hown, hb5⟩ := hrel
        by_cases hmG : m < G
        · have hj := HJ.out
          have hjT : j + 8 ≤ T := by omega
          have hjb : j ≤ 3600 := by omega
          have hvS : Vs wr W4.heap.size 1 (Option.map (fun x => x.add j) A3) 8 (iv ((R.drop j).take 8)) := by
            have h1 := hv.drop (k := j) (cap := c3) (by omega) g1
            rw [if_neg (by omega), Nat.mul_one] at h1
            have h2 := (h1.take (k := 8) (by omega)).below hb5
            have e : iv ((R.drop j).take 8) = ((iv (vals s)).drop j).take (8 * 1) := by
              rw [HRP.out]
              simp only [iv, ← List.map_take, ← List.map_drop]
              rw [List.drop_append_of_le_length (by rw [HRl.out]; omega), List.take_append_of_le_length (by rw [List.length_drop, HRl.out]; omega)]
            rw [e]
            exact h2
          have hSis : IsBits ((R.drop j).take 8) := fun b hb => hRis b (List.mem_of_mem_drop (List.mem_of_mem_take hb))
          have hS256 : num ((R.drop j).take 8) < 256 := by
            refine Nat.lt_of_lt_of_le (num_lt hSis) ?_
            exact Nat.le_trans (Nat.pow_le_pow_right (by omega) (show ((R.drop j).take 8).length ≤ 8 by simp; omega)) (by decide)
          have hnx := groups_take_next (k := 8) (by omega) R G m HRl.out hmG
          rw [hj] at hnx
          have hnx' : bv ((B64.bytes R).take (m + 1)) = bv ((B64.bytes R).take m) ++ [.int .u8 ((num ((R.drop j).take 8) : Nat) : Int)] := by
            unfold B64.bytes
            rw [← List.map_take, hnx, List.map_append, bv_append, List.map_take]
            simp only [List.map_cons, List.map_nil, bv]
            rw [UInt8.toNat_ofNat_of_lt' (by exact hS256)]
          have HX := Lib.hid hnx'
          have hnum := number_any _ 8 (c3 - j) _ _ wr hvS hSis (by omega)
          have hB5 := hb5.size
          have h63 : m + 1 ≤ maxLen := by unfold maxLen; omega
          have HJ' : Hid ((m + 1) * 8 = j + 8) := Lib.hid (by omega)
          generalize num ((R.drop j).take 8) = S at hS256 hnum HX
          clear hj hnx hnx' hvS hSis hv
          go_wp2_with fail
          refine hnum.mono ?_
          rintro e w' ⟨rfl, rfl⟩
          go_wp2_with (at_builtin; go_must (refine wpList_push rfl (.tmp 32) (.tmp 40) 22 rfl W4.heap.size i8 (.int .u8 0) 1 Try.underlying22 hi8 hz8 hs8 hb8 rfl _ _ _ rfl hown rfl rfl h63 (by omega) hB5 ?_))
          intro A' c' w2 hown' g1' g2' hgr
          have hb2 := below_push hb5 hgr hB5 hown (Nat.le_refl _)
          have hown2 : w2.ownsRow W4.heap.size 5 1 (.slice A' (m + 1) c') (m + 1) (bv ((B64.bytes R).take (m + 1))) := by
            rw [HX.out]
            exact hown'
          clear hown hgr hb5 hown'
          go_wp2
          go_roundw
          case rel => exact ⟨m + 1, j + 8, A', c', HJ', by omega, by go_num, rfl, hown2, hb2⟩
          case measure => simp [intOf]; omega
        · obtain rfl : m = G := by omega
          have hj := HJ.out
          have hall : (B64.bytes R).take m = B64.bytes R := List.take_of_length_le (by unfold B64.bytes; rw [List.length_map, groups_length, HRl.out, Nat.mul_div_cancel _ (by omega)]; omega)
          rw [hall] at hown
          have hB5 := hb5.size
          have hend := hB4.trans (hb5.mono hB4.size)
          have hgm : m ≤ 400 := by omega
          have hjc : j + 8 ≤ 9223372036854775807 := by omega
          have hjt : T < j + 8 := by omega
          have henc := refEncode_any A5 m c5 _ (B64.bytes R) wr (Bs.of_own hown) hgm (Nat.le_refl _)
          obtain ⟨_, _, hf5, g51, g52⟩ := own_form hown
          injection hf5 with f1 f2 f3
          subst f1 f3
          clear f2 hj hall hv
          by_cases hgood : enc (B64.bytes R) = s
          · have hdec : dec s = some (B64.bytes R) := by
              unfold dec
              rw [if_pos HV.out, HB.out, if_pos hgood]
            have HD := Lib.hid hdec
            rw [hgood] at henc
            have hself : (s == s) = true := beq_self_eq_true _
            clear hgood hdec
            go_wp2_with fail
            refine henc.mono ?_
            rintro e w2 ⟨rfl, hb2⟩
            have hres : RefDecAny w s (.returned (.tuple #[.slice A5 m c5, .bool true])) w2 := by
              refine ⟨A5, m, c5, ?_, g51, ?_, hend.trans (hb2.mono hend.size)⟩
              · rw [HD.out]; rfl
              · rw [HD.out]
                exact own_base (own_below hown hb2 (Nat.le_refl _)) hB4.size
            have HR := Lib.hid hres
            clear hres hb2 hown hend
            go_wp2
            go_ret2
            exact HR.out
          · have hdec : dec s = none := by
              unfold dec
              rw [if_pos HV.out, HB.out, if_neg hgood]
            have HD := Lib.hid hdec
            obtain ⟨E, hE⟩ : ∃ E, enc (B64.bytes R) = E := ⟨_, rfl⟩
            rw [hE] at henc hgood
            have hne : (E == s) = false := beq_eq_false_iff_ne.2 hgood
            have hne2 : (E != s) = true := bne_iff_ne.2 hgood
            clear hE hdec
            go_wp2_with fail
            refine henc.mono ?_
            rintro e w2 ⟨rfl, hb2⟩
            have hres : RefDecAny w s (.returned (.tuple #[.slice none 0 0, .bool false])) w2 := by
              refine ⟨none, 0, 0, ?_, Nat.le_refl _, ?_, hend.trans (hb2.mono hend.size)⟩
              · rw [HD.out]; rfl
              · rw [HD.out]; exact World.ownsRow_nil _ _ _ _
            have HR := Lib.hid hres
            clear hres hb2 hown hend
            go_wp2
            go_ret2
            exact HR.out
end Go.Proofs.Ytfdffdfglhfepaa
