/- THE WALK of the reference's Encode. -/
import Derived.Test.YtfdffdfglhfepaaB64Bits
import Derived.Deep.DeepMust
namespace Go.Proofs.Ytfdffdfglhfepaa
open Go.RowKit Mem B64

theorem bitsAll_take (l : List UInt8) (k : Nat) (h : k < l.length) : bitsAll (l.take (k + 1)) = bitsAll (l.take k) ++ B64.bits 8 l[k].toNat := by
  rw [List.take_succ_eq_append_getElem h, bitsAll_append]
  simp [bitsAll]
theorem groups_take_next {k : Nat} (hk : 0 < k) (P : List Nat) (m i : Nat) (hP : P.length = m * k) (hi : i < m) : (groups k P).take (i + 1) = (groups k P).take i ++ [num ((P.drop (i * k)).take k)] := by
  have hl : i < (groups k P).length := by rw [groups_length, hP, Nat.mul_div_cancel _ hk]; exact hi
  rw [List.take_succ_eq_append_getElem hl]
  have e : (groups k P)[i] = num ((P.drop (i * k)).take k) := by simp [groups]
  rw [e]

set_option maxHeartbeats 2000000 in
theorem refEncode_any (A : Option Addr) (n c B : Nat) (l : List UInt8) (w : World) (hd : Bs w B A n l) (hn : n ≤ 400) (hB : B ≤ w.heap.size) :
    Calls Try.prog 10 #[.slice A n c] w fun e w' => e = .returned (.string (str (enc l))) ∧ Below w.heap.size w w' := by
  obtain ⟨i8, hi8, hz8, hs8, hb8⟩ := info_parts info8
  obtain ⟨iI, hiI, hzI, hsI, hbI⟩ := info_parts infoI
  have hln := hd.len
  have HL := Lib.hid hln
  clear hln
  go_enter Try.func10, Try.ntmps10
  go_wp2
  go_loopw [3, 4] (fun v i wr => ∃ (k : Nat) (A3 : Option Addr) (c3 : Nat), k ≤ n ∧ i = .int .i64 k ∧ v = .slice A3 (k * 8) c3 ∧ wr.ownsRow w.heap.size 3 1 (.slice A3 (k * 8) c3) (k * 8) (iv (bitsAll (l.take k))) ∧ Below w.heap.size w wr) (fun _ i _ => n - (intOf i).toNat)
  case atStart => exact ⟨0, none, 0, by omega, rfl, rfl, World.ownsRow_nil _ _ _ _, Below.refl _ _⟩
  case round =>
    obtain ⟨k, A3, c3, hk, rfl, rfl, hown, hb⟩ := hrel
    have hB1 : w.heap.size ≤ wr.heap.size := hb.size
    by_cases hlt : k < n
    · obtain ⟨ad, hl, rfl, hblk, hcell⟩ := (hd.next hB hb).at_ hlt
      have hst := bitsAll_take l k hl
      have hx : l[k].toNat < 256 := l[k].toNat_lt
      have hst' : iv (bitsAll (l.take (k + 1))) = iv (bitsAll (l.take k)) ++ iv (B64.bits 8 l[k].toNat) := by rw [hst, iv_append]
      have HS := Lib.hid hst'
      clear hst hst'
      have hbit := bits_any l[k].toNat 8 (by omega) (by omega) wr
      have hone := iv_oneCell (B64.bits 8 l[k].toNat)
      generalize l[k].toNat = x at *
      go_wp2_with fail
      refine hbit.mono ?_
      rintro e w1 ⟨A8, c8, rfl, g8, hv8, hb1⟩
      have hb01 : Below w.heap.size w w1 := hb.trans (hb1.mono hB1)
      have hown1 := own_below hown hb1 (Nat.le_refl _)
      have h63 : k * 8 + 8 ≤ maxLen := by unfold maxLen; omega
      go_wp2_with (at_builtin; go_must (refine wpList_append w1 rfl (.tmp 13) (.tmp 19) 43 rfl w.heap.size 3 iI (.int .i64 0) 1 8 Try.underlying43 hiI hzI hsI hbI rfl (by omega) _ _ _ rfl hown1 w1.heap.size A8 8 c8 _ rfl hv8 hone h63 (by omega) hb01.size ?_))
      intro A' c' w2 hown2 g1 g2 hgr
      have hb2 : Below w.heap.size w w2 := below_grown hb01 hgr hb01.size hown1 (Nat.le_refl _)
      have hown3 : w2.ownsRow w.heap.size 3 1 (.slice A' ((k + 1) * 8) c') ((k + 1) * 8) (iv (bitsAll (l.take (k + 1)))) := by
        rw [HS.out, show (k + 1) * 8 = k * 8 + 8 by omega]
        exact hown2
      clear hown hown1 hown2 hgr hv8 hone hb hb1
      go_wp2
      go_roundw
      case rel => exact ⟨k + 1, A', c', by omega, by go_num, by rw [show (k + 1) * 8 = k * 8 + 8 by omega], hown3, hb2⟩
      case measure => simp [intOf]; omega
    · obtain rfl : k = n := by omega
      obtain ⟨N, hN⟩ : ∃ N, k * 8 = N := ⟨_, rfl⟩
      obtain ⟨pc, hpc⟩ : ∃ pc, (6 - N % 6) % 6 = pc := ⟨_, rfl⟩
      have hN2 : N ≤ 3200 := by omega
      have hpc2 : pc ≤ 5 := by omega
      obtain ⟨L, hLL⟩ : ∃ L, bitsAll l = L := ⟨_, rfl⟩
      have hLN : L.length = N := by rw [← hLL, bitsAll_length, HL.out]; exact hN
      have hP : pad L = L ++ List.replicate pc 0 := by unfold pad; rw [hLN, hpc]
      have hPis : IsBits (pad L) := pad_is (by rw [← hLL]; exact bitsAll_is l)
      have henc : enc l = (groups 6 (pad L)).map lett := by unfold enc; rw [hLL]
      rw [show l.take k = l by rw [← HL.out, List.take_length], hLL, hN] at hown
      have Hpc := Lib.hid hpc
      have HLN := Lib.hid hLN
      have HP := Lib.hid hP
      have HE := Lib.hid henc
      have hown' : wr.ownsRow w.heap.size 3 1 (.slice A3 N c3) N (iv (L ++ List.replicate (N - N) 0)) := by simpa using hown
      rw [hN]
      clear hpc hLN hP henc hLL hN hd hown
      go_wp2
      go_loopw [3] (fun v wr => ∃ (M : Nat) (A3 : Option Addr) (c3 : Nat), N ≤ M ∧ M ≤ N + pc ∧ v = .slice A3 M c3 ∧ wr.ownsRow w.heap.size 3 1 (.slice A3 M c3) M (iv (L ++ List.replicate (M - N) 0)) ∧ Below w.heap.size w wr) (fun v _ => N + pc - (match v with | .slice _ m _ => m | _ => 0))
      case atStart => exact ⟨N, A3, c3, Nat.le_refl _, by omega, rfl, hown', hb⟩
      case round =>
        clear hown' hb hB1
        obtain ⟨W4, hW4⟩ : ∃ W4, W4 = wr := ⟨_, rfl⟩
        subst hW4
        obtain ⟨M, A4, c4, hM1, hM2, rfl, hown, hb⟩ := hrel
        obtain ⟨m6, hm6⟩ : ∃ m6, M % 6 = m6 := ⟨_, rfl⟩
        have hz : (M : Int) % 6 = (m6 : Int) := by omega
        have hB1 := hb.size
        by_cases h0 : m6 = 0
        · subst h0
          obtain rfl : M = N + pc := by have := Hpc.out; omega
          obtain ⟨G, hG⟩ : ∃ G, N + pc = G * 6 := ⟨(N + pc) / 6, by omega⟩
          have hrow : W4.ownsRow w.heap.size 3 1 (.slice A4 (G * 6) c4) (G * 6) (iv (pad L)) := by
            rw [HP.out]
            rw [hG] at hown
            rw [show L ++ List.replicate pc 0 = L ++ List.replicate (N + pc - N) 0 by rw [Nat.add_sub_cancel_left], hG]
            exact hown
          have hPl : (pad L).length = G * 6 := by rw [HP.out, List.length_append, HLN.out, List.length_replicate]; exact hG
          have hz' : ((G * 6 : Nat) : Int) % 6 = 0 := by omega
          rw [hG]
          have HPL := Lib.hid hPl
          have hv := Vs.of_own hrow
          have hGs : G ≤ 600 := by omega
          obtain ⟨A4', c4', hform, g1, g2⟩ := own_form hrow
          injection hform with e1 e2 e3
          subst e1 e3
          clear hown hz hrow hPl e2
          generalize pad L = P at *
          obtain ⟨T, hT⟩ : ∃ T, G * 6 = T := ⟨_, rfl⟩
          rw [hT] at hz' g1 hv hG HPL
          rw [hT]
          have HT := Lib.hid hT
          have HG := Lib.hid hG
          clear hT hG hm6
          have hB4 := hb
          go_wp2_with fail
          clear hz'
          go_loopw [5, 6] (fun v i wx => ∃ (k j : Nat) (A5 : Option Addr) (c5 : Nat), Hid (k * 6 = j) ∧ k ≤ G ∧ i = .int .i64 j ∧ v = .slice A5 k c5 ∧ wx.ownsRow W4.heap.size 5 1 (.slice A5 k c5) k (bv (((groups 6 P).map lett).take k)) ∧ Below W4.heap.size W4 wx) (fun _ i _ => T - (intOf i).toNat)
          case atStart => exact ⟨0, 0, none, 0, Lib.hid rfl, by omega, rfl, rfl, World.ownsRow_nil _ _ _ _, Below.refl _ _⟩
          case round =>
            obtain ⟨k, j, A5, c5, HJ, hk, rfl, rfl, hown, hb5⟩ := hrel
            by_cases hkG : k < G
            · have hj := HJ.out
              have hT' := HT.out
              have hjT : j + 6 ≤ T := by omega
              have hjb : j ≤ 3600 := by omega
              have hvS : Vs wr W4.heap.size 1 (Option.map (fun x => x.add j) A4) 6 (iv ((P.drop j).take 6)) := by
                have h1 := hv.drop (k := j) (cap := c4) (by omega) g1
                rw [if_neg (by omega), Nat.mul_one] at h1
                have h2 := (h1.take (k := 6) (by omega)).below hb5
                have e : iv ((P.drop j).take 6) = ((iv P).drop j).take (6 * 1) := by simp [iv, List.map_take, List.map_drop]
                rw [e]
                exact h2
              have hSis : IsBits ((P.drop j).take 6) := fun b hb => hPis b (List.mem_of_mem_drop (List.mem_of_mem_take hb))
              have hS64 : num ((P.drop j).take 6) < 64 := by
                refine Nat.lt_of_lt_of_le (num_lt hSis) ?_
                exact Nat.le_trans (Nat.pow_le_pow_right (by omega) (show ((P.drop j).take 6).length ≤ 6 by simp; omega)) (by decide)
              have hnx := groups_take_next (k := 6) (by omega) P G k (by rw [HPL.out, hT']) hkG
              rw [hj] at hnx
              have hnx' : bv (((groups 6 P).map lett).take (k + 1)) = bv (((groups 6 P).map lett).take k) ++ [.int .u8 ((lett (num ((P.drop j).take 6))).toNat : Int)] := by
                rw [← List.map_take, hnx, List.map_append, bv_append, List.map_take]
                rfl
              have HN := Lib.hid hnx'
              have hnum := number_any _ 6 (c4 - j) _ _ wr hvS hSis (by omega)
              have hB5 := hb5.size
              have h63 : k + 1 ≤ maxLen := by unfold maxLen; omega
              have HJ' : Hid ((k + 1) * 6 = j + 6) := Lib.hid (by omega)
              generalize num ((P.drop j).take 6) = S at hS64 hnum HN
              clear hj hT' hnx hnx' hvS hSis hv
              go_wp2_with fail
              refine hnum.mono ?_
              rintro e w' ⟨rfl, rfl⟩
              go_wp2_with fail
              refine (letter_any S hS64 wr).mono ?_
              rintro e w' ⟨rfl, rfl⟩
              go_wp2_with (at_builtin; go_must (refine wpList_push rfl (.tmp 34) (.tmp 42) 22 rfl W4.heap.size i8 (.int .u8 0) 1 Try.underlying22 hi8 hz8 hs8 hb8 rfl _ _ _ rfl hown rfl rfl h63 (by omega) hB5 ?_))
              intro A' c' w2 hown' g1' g2' hgr
              have hb2 := below_push hb5 hgr hB5 hown (Nat.le_refl _)
              have hown2 : w2.ownsRow W4.heap.size 5 1 (.slice A' (k + 1) c') (k + 1) (bv (((groups 6 P).map lett).take (k + 1))) := by
                rw [HN.out]
                exact hown'
              clear hown hgr hb5 hown'
              go_wp2
              go_roundw
              case rel => exact ⟨k + 1, j + 6, A', c', HJ', by omega, by go_num, rfl, hown2, hb2⟩
              case measure => simp [intOf]; omega
            · obtain rfl : k = G := by omega
              have hj : j = T := by rw [← HJ.out, HT.out]
              subst hj
              have hall : ((groups 6 P).map lett).take k = (groups 6 P).map lett := List.take_of_length_le (by rw [List.length_map, groups_length, HPL.out, ← HJ.out, Nat.mul_div_cancel _ (by omega)]; omega)
              rw [hall, ← HE.out] at hown
              have hcv := conv (Bs.of_own hown) c5
              have hend := hB4.trans (hb5.mono hB4.size)
              clear hown hall hv
              go_wp2
              go_ret
              exact ⟨rfl, hend⟩
        · have hlt : M < N + pc := by have := Hpc.out; omega
          have hrep : iv (L ++ List.replicate (M + 1 - N) 0) = iv (L ++ List.replicate (M - N) 0) ++ [.int .i64 0] := by
            rw [show M + 1 - N = (M - N) + 1 by omega, List.replicate_succ', ← List.append_assoc, iv_append]
            rfl
          have HR := Lib.hid hrep
          have f0 : ((m6 : Int) == 0) = false := by simp; omega
          have h63 : M + 1 ≤ maxLen := by unfold maxLen; omega
          clear hrep hm6
          go_wp2_with (at_builtin; go_must (refine wpList_push rfl (.tmp 25) (.tmp 26) 43 rfl w.heap.size iI (.int .i64 0) 8 Try.underlying43 hiI hzI hsI hbI rfl _ _ _ rfl hown rfl rfl h63 (by omega) hB1 ?_))
          intro A' c' w2 hown' g1' g2' hgr
          have hb2 := below_push hb hgr hB1 hown (Nat.le_refl _)
          have hown2 : w2.ownsRow w.heap.size 3 1 (.slice A' (M + 1) c') (M + 1) (iv (L ++ List.replicate (M + 1 - N) 0)) := by
            rw [HR.out]
            exact hown'
          clear hown hgr hb hown'
          go_wp2
          go_roundw
          case rel => exact ⟨M + 1, A', c', by omega, by omega, rfl, hown2, hb2⟩
          case measure => simp; omega
end Go.Proofs.Ytfdffdfglhfepaa
