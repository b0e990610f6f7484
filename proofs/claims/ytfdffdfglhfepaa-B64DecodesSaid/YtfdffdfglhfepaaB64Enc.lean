/- THE WALK of b64.Encode. -/
import Derived.Test.YtfdffdfglhfepaaB64Builder
import Derived.Test.YtfdffdfglhfepaaB64RefEnc
import Derived.Test.YtfdffdfglhfepaaB64Mask
namespace Go.Proofs.Ytfdffdfglhfepaa
open Go.RowKit Mem B64

def letters : ByteArray := ⟨#[65, 66, 67, 68, 69, 70, 71, 72, 73, 74, 75, 76, 77, 78, 79, 80, 81, 82, 83, 84, 85, 86, 87, 88, 89, 90, 97, 98, 99, 100, 101, 102, 103, 104, 105, 106, 107, 108, 109, 110, 111, 112, 113, 114, 115, 116, 117, 118, 119, 120, 121, 122, 48, 49, 50, 51, 52, 53, 54, 55, 56, 57, 45, 95]⟩
theorem letters_at (r : Nat) (h : r < letters.size) : letters[r] = lett r := by
  have h64 : r < alphabet.length := h
  unfold lett
  rw [List.getD_eq_getElem?_getD, List.getElem?_eq_getElem h64]
  rfl

set_option maxRecDepth 100000 in
set_option maxHeartbeats 2000000 in
theorem encode_any (A : Option Addr) (n c B : Nat) (l : List UInt8) (w : World) (hd : Bs w B A n l) (hn : n ≤ 400) (hB : B ≤ w.heap.size) :
    Calls Try.prog 9 #[.slice A n c] w fun e w' => e = .returned (.string (str (enc l))) ∧ Below w.heap.size w w' := by
  have hln := hd.len
  have HL := Lib.hid hln
  clear hln
  have hb0 : Lib.IsBuilder 37 5 w.heap.size w.heap.size [] (w.alloc (.cells #[.pointer none, .slice none 0 0] 37)) := Lib.fresh_isBuilder _ _ w
  have hbel0 : Below w.heap.size w (w.alloc (.cells #[.pointer none, .slice none 0 0] 37)) := (Below.refl _ _).alloc (Nat.le_refl _) _
  go_enter Try.func9, Try.ntmps9
  go_wp2
  go_loopw [4, 5, 10] (fun vw vn i wr => ∃ (k m pn x : Nat) (Q P : List Nat), k ≤ n ∧ i = .int .i64 k ∧ vn = .int .i64 pn ∧ vw = .int .i64 x ∧ pn < 6 ∧ x < 32 ∧ m ≤ 3200 ∧ Hid (bitsAll (l.take k) = Q ++ P ∧ Q.length = m * 6 ∧ P.length = pn ∧ num P = x) ∧ Lib.IsBuilder 37 5 w.heap.size w.heap.size (bv ((groups 6 Q).map lett)) wr ∧ Below w.heap.size w wr) (fun _ _ i _ => n - (intOf i).toNat)
  case atStart => exact ⟨0, 0, 0, 0, [], [], by omega, rfl, rfl, rfl, by omega, by omega, by omega, Lib.hid ⟨rfl, rfl, rfl, rfl⟩, hb0, hbel0⟩
  case round =>
    obtain ⟨k, m, pn, x, Q, P, hk, rfl, rfl, rfl, hpn, hx, hm, HH, hbl, hb⟩ := hrel
    clear hb0 hbel0
    by_cases hlt : k < n
    · obtain ⟨ad, hl, rfl, hblk, hcell⟩ := (hd.next hB hb).at_ hlt
      have hst := bitsAll_take l k hl
      have hc : l[k].toNat < 256 := l[k].toNat_lt
      generalize l[k].toNat = ch at *
      have hor := or256 x ch (by omega) hc
      obtain ⟨y, hy⟩ : ∃ y, x * 256 + ch = y := ⟨_, rfl⟩
      rw [hy] at hor
      have hy2 : y < 8192 := by omega
      have hbitsP : num (B64.bits 8 ch) = ch := num_bits 8 ch (by omega)
      have HH2 : Hid (bitsAll (l.take (k + 1)) = Q ++ (P ++ B64.bits 8 ch) ∧ Q.length = m * 6 ∧ (P ++ B64.bits 8 ch).length = pn + 8 ∧ num (P ++ B64.bits 8 ch) = y) := by
        refine Lib.hid ⟨?_, HH.out.2.1, ?_, ?_⟩
        · rw [hst, HH.out.1, List.append_assoc]
        · rw [List.length_append, bits_length, HH.out.2.2.1]
        · rw [num_append, bits_length, hbitsP, HH.out.2.2.2]
          omega
      clear hst hbitsP hy HH hd
      generalize P ++ B64.bits 8 ch = P2 at HH2
      go_wp2_with fail
      go_loopw [4, 5] (fun vw vn wr => ∃ (m pn x : Nat) (Q P : List Nat), vn = .int .i64 pn ∧ vw = .int .i64 x ∧ pn ≤ 13 ∧ x < 8192 ∧ m ≤ 3200 ∧ Hid (bitsAll (l.take (k + 1)) = Q ++ P ∧ Q.length = m * 6 ∧ P.length = pn ∧ num P = x) ∧ Lib.IsBuilder 37 5 w.heap.size w.heap.size (bv ((groups 6 Q).map lett)) wr ∧ Below w.heap.size w wr) (fun _ vn _ => (intOf vn).toNat)
      case atStart => exact ⟨m, pn + 8, y, Q, P2, by go_num, rfl, by omega, by omega, by omega, HH2, hbl, hb⟩
      case round =>
        clear hor
        obtain ⟨m1, pn1, x1, Q1, P1, rfl, rfl, hpn1, hx1, hm1, HH1, hbl1, hb1⟩ := hrel
        by_cases hge : 6 ≤ pn1
        · obtain ⟨sh, hsh⟩ : ∃ sh, pn1 = sh + 6 := ⟨pn1 - 6, by omega⟩
          subst hsh
          obtain ⟨R, S, hRS, hR, hS⟩ : ∃ R S, P1 = R ++ S ∧ R.length = 6 ∧ S.length = sh := ⟨P1.take 6, P1.drop 6, (List.take_append_drop 6 P1).symm, by simp [HH1.out.2.2.1], by simp [HH1.out.2.2.1]⟩
          have hbitsAll := bitsAll_is (l.take (k + 1))
          rw [HH1.out.1, hRS] at hbitsAll
          have hRis := hbitsAll.right.left
          have hSis := hbitsAll.right.right
          have hrlt := num_lt hRis
          have hslt := num_lt hSis
          have hx := HH1.out.2.2.2
          rw [hRS, num_append] at hx
          rw [hR] at hrlt
          rw [hS] at hslt hx
          obtain ⟨sN, hsN⟩ : ∃ sN, num S = sN := ⟨_, rfl⟩
          have HH3 : Hid (bitsAll (l.take (k + 1)) = (Q1 ++ R) ++ S ∧ (Q1 ++ R).length = (m1 + 1) * 6 ∧ S.length = sh ∧ num S = sN) := Lib.hid ⟨by rw [HH1.out.1, hRS, List.append_assoc], by rw [List.length_append, HH1.out.2.1, hR]; omega, hS, hsN⟩
          have hpush : bv ((groups 6 (Q1 ++ R)).map lett) = bv ((groups 6 Q1).map lett) ++ [.int .u8 ((lett (num R)).toNat : Int)] := by
            rw [groups_push (by omega) Q1 R m1 HH1.out.2.1 hR, List.map_append, bv_append]
            rfl
          have HP := Lib.hid hpush
          have hm2 : m1 < 3200 := by
            have h1 := congrArg List.length HH1.out.1
            rw [bitsAll_length, List.length_append, HH1.out.2.1] at h1
            have : (l.take (k + 1)).length ≤ 401 := by simp; omega
            omega
          rw [hsN] at hx hslt
          generalize num R = r at *
          clear hsN
          have hq : x1 / 2 ^ sh = r := by
            rw [← hx, Nat.add_comm, Nat.add_mul_div_right _ _ (Nat.two_pow_pos _), Nat.div_eq_of_lt hslt, Nat.zero_add]
          have hr : x1 % 2 ^ sh = sN := by
            rw [← hx, Nat.add_comm, Nat.add_mul_mod_self_right, Nat.mod_eq_of_lt hslt]
          have f1 : (x1 : Int) / 2 ^ sh = (r : Int) := by rw [← hq]; simp
          have f2 := and63 r (by omega)
          rw [Nat.mod_eq_of_lt (by omega)] at f2
          clear hx hbitsAll hpush hR hS hRS
          have hHq := Lib.hid hq
          have hHr := Lib.hid hr
          clear hq hr
          have hlenb : (bv ((groups 6 Q1).map lett)).length + 1 ≤ 140737488355328 := by
            rw [bv_length, List.length_map, groups_length]
            have := HH1.out.2.1
            omega
          go_wp2_with fail
          refine (writeByte_any w.heap.size w.heap.size _ _ wr hbl1 hlenb hb1.size).mono ?_
          rintro e w2 ⟨rfl, hbl2, hb2⟩
          have hbl3 : Lib.IsBuilder 37 5 w.heap.size w.heap.size (bv ((groups 6 (Q1 ++ R)).map lett)) w2 := by
            rw [HP.out, ← letters_at r (by show r < 64; omega)]
            exact .inr hbl2
          have hb3 := hb1.trans hb2
          clear hbl2 hb2 hbl1 hb1 f1 f2
          have hmask := mask_any x1 sh (by omega) (by omega)
          rw [hHr.out] at hmask
          have hs7 : 2 ^ sh ≤ 2 ^ 7 := Nat.pow_le_pow_right (by omega) (by omega)
          go_wp2
          go_roundw
          case rel => exact ⟨m1 + 1, sh, sN, Q1 ++ R, S, rfl, by first | rfl | rw [hmask], by omega, by omega, by omega, HH3, hbl3, hb3⟩
          case measure => simp [intOf]; omega
        · have hP1 : IsBits P1 := by
            have h := bitsAll_is (l.take (k + 1))
            rw [HH1.out.1] at h
            exact h.right
          have hx32 : x1 < 32 := by
            have h := num_lt hP1
            rw [HH1.out.2.2.1, HH1.out.2.2.2] at h
            have : 2 ^ pn1 ≤ 2 ^ 5 := Nat.pow_le_pow_right (by omega) (by omega)
            omega
          go_wp2
          go_roundw
          case rel => exact ⟨k + 1, m1, pn1, x1, Q1, P1, by omega, by go_num, rfl, rfl, by omega, hx32, hm1, HH1, hbl1, hb1⟩
          case measure => simp [intOf]; omega
    · obtain rfl : k = n := by omega
      have htk : l.take k = l := by rw [← HL.out, List.take_length]
      rw [htk] at HH
      have hPis : IsBits P := by
        have h := bitsAll_is l
        rw [HH.out.1] at h
        exact h.right
      by_cases h0 : pn = 0
      · subst h0
        have hP : P = [] := List.eq_nil_of_length_eq_zero HH.out.2.2.1
        have henc : enc l = (groups 6 Q).map lett := by
          have hz : (6 - (bitsAll l).length % 6) % 6 = 0 := by
            rw [HH.out.1, hP, List.append_nil, HH.out.2.1]
            omega
          unfold enc pad
          rw [hz, HH.out.1, hP]
          simp
        have HE := Lib.hid henc
        have hstr := Try.Builder_String_any w.heap.size w.heap.size _ wr hbl hb.size
        rw [← HE.out] at hstr
        clear henc hP
        go_wp2_with fail
        refine hstr.mono ?_
        rintro e w2 ⟨rfl, hb2⟩
        go_wp2
        go_ret
        exact ⟨rfl, hb.trans hb2⟩
      · have hzs : num (P ++ List.replicate (6 - pn) 0) = x * 2 ^ (6 - pn) := by
          rw [num_append, num_zeros, HH.out.2.2.2, List.length_replicate, Nat.add_zero]
        have hR : (P ++ List.replicate (6 - pn) 0).length = 6 := by
          rw [List.length_append, List.length_replicate, HH.out.2.2.1]
          omega
        have hz64 := num_lt (hPis.append (zeros_is (6 - pn)))
        rw [hR] at hz64
        obtain ⟨z, hz⟩ : ∃ z, x * 2 ^ (6 - pn) = z := ⟨_, rfl⟩
        rw [hzs, hz] at hz64
        have hzi : (x : Int) * 2 ^ (6 - pn) = (z : Int) := by rw [← hz]; simp
        have hw : wrap64 ((x : Int) * 2 ^ (6 - pn)) = (z : Int) := by
          rw [hzi]
          unfold wrap64
          omega
        have henc : enc l = (groups 6 (Q ++ (P ++ List.replicate (6 - pn) 0))).map lett := by
          have hzz : (6 - (bitsAll l).length % 6) % 6 = 6 - pn := by
            rw [HH.out.1, List.length_append, HH.out.2.1, HH.out.2.2.1]
            omega
          unfold enc pad
          rw [hzz, HH.out.1, List.append_assoc]
        have hpush : bv (enc l) = bv ((groups 6 Q).map lett) ++ [.int .u8 ((lett z).toNat : Int)] := by
          rw [henc, groups_push (by omega) Q _ m HH.out.2.1 hR, List.map_append, bv_append, hzs, hz]
          rfl
        have HP := Lib.hid hpush
        have hlenb : (bv ((groups 6 Q).map lett)).length + 1 ≤ 140737488355328 := by
          rw [bv_length, List.length_map, groups_length]
          have := HH.out.2.1
          omega
        clear hzs hR hz hzi henc hpush htk hd
        go_wp2_with fail
        refine (writeByte_any w.heap.size w.heap.size _ _ wr hbl hlenb hb.size).mono ?_
        rintro e w2 ⟨rfl, hbl2, hb2⟩
        have hbl3 : Lib.IsBuilder 37 5 w.heap.size w.heap.size (bv (enc l)) w2 := by
          rw [HP.out, ← letters_at z (by show z < 64; omega)]
          exact .inr hbl2
        have hb3 := hb.trans hb2
        have hstr := Try.Builder_String_any w.heap.size w.heap.size _ w2 hbl3 hb3.size
        clear hbl2 hb2 hbl hb hw
        go_wp2_with fail
        refine hstr.mono ?_
        rintro e w4 ⟨rfl, hb4⟩
        go_wp2
        go_ret
        exact ⟨rfl, hb3.trans hb4⟩
end Go.Proofs.Ytfdffdfglhfepaa
