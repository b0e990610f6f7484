/- THE WALK of b64.Decode. -/
import Derived.Test.YtfdffdfglhfepaaB64Enc
namespace Go.Proofs.Ytfdffdfglhfepaa
open Go.RowKit Mem B64

theorem index_letters : ∀ k, k < 256 → Lib.indexByte letters.data.toList (UInt8.ofNat k) = valI k := by
  have h : (List.range 256).all (fun k => Lib.indexByte letters.data.toList (UInt8.ofNat k) == valI k) = true := by decide +kernel
  intro k hk
  have := List.all_eq_true.1 h k (List.mem_range.2 hk)
  simpa using this
theorem index_any (ch : Nat) (hc : ch < 256) (w : World) : Calls Try.prog 19 #[.string letters, .int .u8 (ch : Int)] w fun e w' => e = .returned (.int .i64 (valI ch)) ∧ w = w' := by
  refine (Try.strings_IndexByte letters (ch : Int) w).mono ?_
  rintro e w' ⟨rfl, rfl⟩
  refine ⟨?_, rfl⟩
  rw [show ((ch : Int).toNat.toUInt8) = UInt8.ofNat ch from rfl, index_letters ch hc]

/-- (bytes, error), the bytes new. -/
def DecAny (w : World) (s : List UInt8) (e : Ending) (w' : World) : Prop :=
  ∃ A n c, e = .returned (.tuple #[.slice A n c, .int .i64 (if (dec s).isSome then 0 else 13)]) ∧ n ≤ c ∧ w'.ownsRow w.heap.size 5 1 (.slice A n c) n (bv ((dec s).getD [])) ∧ Below w.heap.size w w'

theorem valid_take {s : List UInt8} {k : Nat} (h : k < s.length) {v : Nat} (hv : val s[k] = some v) (hs : valid (s.take k) = true) : valid (s.take (k + 1)) = true := by
  unfold valid at *
  rw [List.take_succ_eq_append_getElem h, List.all_append, hs]
  simp [hv]
theorem vals_take {s : List UInt8} {k : Nat} (h : k < s.length) {v : Nat} (hv : val s[k] = some v) : vals (s.take (k + 1)) = vals (s.take k) ++ B64.bits 6 v := by
  rw [List.take_succ_eq_append_getElem h, vals_append]
  simp [vals, hv]
theorem not_valid {s : List UInt8} {k : Nat} (h : k < s.length) (hv : val s[k] = none) : dec s = none := by
  unfold dec
  rw [if_neg]
  intro hs
  unfold valid at hs
  have := List.all_eq_true.1 hs s[k] (List.getElem_mem h)
  rw [hv] at this
  cases this

set_option maxRecDepth 100000 in
set_option maxHeartbeats 2000000 in
theorem decode_any (s : List UInt8) (w : World) (hn : s.length ≤ 400) : Calls Try.prog 12 #[.string (str s)] w (DecAny w s) := by
  obtain ⟨i8, hi8, hz8, hs8, hb8⟩ := info_parts info8
  have hsz := str_size s
  obtain ⟨N, hN⟩ : ∃ N, s.length = N := ⟨_, rfl⟩
  rw [hN] at hsz hn
  have HN := Lib.hid hN
  clear hN
  go_enter Try.func12, Try.ntmps12
  go_wp2
  go_loopw [4, 5, 6, 11] (fun v vw vn i wr => ∃ (k q pn x c4 : Nat) (A4 : Option Addr) (Q P : List Nat), k ≤ N ∧ i = .int .i64 k ∧ vn = .int .i64 pn ∧ vw = .int .i64 x ∧ v = .slice A4 q c4 ∧ pn < 8 ∧ x < 256 ∧ q ≤ 400 ∧ q ≤ c4 ∧ Hid (valid (s.take k) = true ∧ vals (s.take k) = Q ++ P ∧ Q.length = q * 8 ∧ P.length = pn ∧ num P = x) ∧ wr.ownsRow w.heap.size 5 1 (.slice A4 q c4) q (bv (B64.bytes Q)) ∧ Below w.heap.size w wr) (fun _ _ _ i _ => N - (intOf i).toNat)
  case atStart => exact ⟨0, 0, 0, 0, 0, none, [], [], by omega, rfl, rfl, rfl, rfl, by omega, by omega, by omega, by omega, Lib.hid ⟨rfl, rfl, rfl, rfl, rfl⟩, World.ownsRow_nil _ _ _ _, Below.refl _ _⟩
  case round =>
    obtain ⟨k, q, pn, x, c4, A4, Q, P, hk, rfl, rfl, rfl, rfl, hpn, hx, hq, hqc, HH, hown, hb⟩ := hrel
    by_cases hlt : k < N
    · have hks : k < (str s).size := by omega
      have hkl : k < s.length := by rw [HN.out]; exact hlt
      have hce : (str s)[k] = s[k] := rfl
      have hcc : valI (str s)[k].toNat = match val s[k] with
        | some n => (n : Int)
        | none => -1 := by rw [hce]; exact valI_eq s[k]
      have hidx := index_any (str s)[k].toNat ((str s)[k].toNat_lt) wr
      cases hv : val s[k] with
      | none =>
        rw [hv] at hcc
        rw [hcc] at hidx
        have hdec := not_valid hkl hv
        have hres : DecAny w s (.returned (.tuple #[.slice none 0 0, .int .i64 13])) wr := by
          refine ⟨none, 0, 0, ?_, Nat.le_refl _, ?_, hb⟩
          · rw [hdec]; rfl
          · rw [hdec]; exact World.ownsRow_nil _ _ _ _
        have HR := Lib.hid hres
        clear hv hcc hdec hres hce hown
        go_wp2_with fail
        refine hidx.mono ?_
        rintro e w' ⟨rfl, rfl⟩
        go_wp2
        go_ret2
        exact HR.out
      | some v =>
        rw [hv] at hcc
        rw [hcc] at hidx
        have hv64 := (val_some hv).1
        have ht1 := valid_take hkl hv HH.out.1
        have ht2 := vals_take hkl hv
        have hor := or64 x v (by omega) hv64
        obtain ⟨y, hy⟩ : ∃ y, x * 64 + v = y := ⟨_, rfl⟩
        rw [hy] at hor
        have hy2 : y < 16384 := by omega
        have HH2 : Hid (valid (s.take (k + 1)) = true ∧ vals (s.take (k + 1)) = Q ++ (P ++ B64.bits 6 v) ∧ Q.length = q * 8 ∧ (P ++ B64.bits 6 v).length = pn + 6 ∧ num (P ++ B64.bits 6 v) = y) := by
          refine Lib.hid ⟨ht1, ?_, HH.out.2.2.1, ?_, ?_⟩
          · rw [ht2, HH.out.2.1, List.append_assoc]
          · rw [List.length_append, bits_length, HH.out.2.2.2.1]
          · rw [num_append, bits_length, num_bits 6 v (by omega), HH.out.2.2.2.2]
            omega
        clear hv hcc hce ht1 ht2 HH hy
        generalize P ++ B64.bits 6 v = P2 at HH2
        have hP2 : IsBits P2 := by
          have h := vals_is (s.take (k + 1))
          rw [HH2.out.2.1] at h
          exact h.right
        by_cases hge : 2 ≤ pn
        · obtain ⟨sh, hsh⟩ : ∃ sh, pn = sh + 2 := ⟨pn - 2, by omega⟩
          subst hsh
          obtain ⟨R, S, hRS, hR, hS⟩ : ∃ R S, P2 = R ++ S ∧ R.length = 8 ∧ S.length = sh := ⟨P2.take 8, P2.drop 8, (List.take_append_drop 8 P2).symm, by simp [HH2.out.2.2.2.1], by simp [HH2.out.2.2.2.1]⟩
          rw [hRS] at hP2
          have hrlt := num_lt hP2.left
          have hslt := num_lt hP2.right
          have hxx := HH2.out.2.2.2.2
          rw [hRS, num_append] at hxx
          rw [hR] at hrlt
          rw [hS] at hslt hxx
          obtain ⟨sN, hsN⟩ : ∃ sN, num S = sN := ⟨_, rfl⟩
          have HH3 : Hid (valid (s.take (k + 1)) = true ∧ vals (s.take (k + 1)) = (Q ++ R) ++ S ∧ (Q ++ R).length = (q + 1) * 8 ∧ S.length = sh ∧ num S = sN) := Lib.hid ⟨HH2.out.1, by rw [HH2.out.2.1, hRS, List.append_assoc], by rw [List.length_append, HH2.out.2.2.1, hR]; omega, hS, hsN⟩
          rw [hsN] at hxx hslt
          have hpush : bv (B64.bytes (Q ++ R)) = bv (B64.bytes Q) ++ [.int .u8 ((num R : Nat) : Int)] := by
            unfold B64.bytes
            rw [groups_push (by omega) Q R q HH2.out.2.2.1 hR, List.map_append, bv_append]
            simp only [List.map_cons, List.map_nil, bv]
            rw [UInt8.toNat_ofNat_of_lt' (by exact hrlt)]
          generalize num R = r at *
          have HP := Lib.hid hpush
          have hqq : y / 2 ^ sh = r := by
            rw [← hxx, Nat.add_comm, Nat.add_mul_div_right _ _ (Nat.two_pow_pos _), Nat.div_eq_of_lt hslt, Nat.zero_add]
          have hrr : y % 2 ^ sh = sN := by
            rw [← hxx, Nat.add_comm, Nat.add_mul_mod_self_right, Nat.mod_eq_of_lt hslt]
          have f1 : (y : Int) / 2 ^ sh = (r : Int) := by rw [← hqq]; simp
          have hmask := mask_any y sh (by omega) (by omega)
          rw [hrr] at hmask
          have hs7 : 2 ^ sh ≤ 2 ^ 5 := Nat.pow_le_pow_right (by omega) (by omega)
          have hB1 := hb.size
          have h63 : q + 1 ≤ maxLen := by unfold maxLen; omega
          have hr256 : r < 256 := by omega
          have hq2 : q < 400 := by
            have h1 := congrArg List.length HH3.out.2.1
            rw [vals_length, List.length_append, HH3.out.2.2.1] at h1
            have : (s.take (k + 1)).length ≤ 400 := by simp; omega
            omega
          clear hxx hpush hsN hR hS hRS hqq hrr hrlt
          go_wp2_with fail
          refine hidx.mono ?_
          rintro e w' ⟨rfl, rfl⟩
          go_wp2_with (at_builtin; go_must (refine wpList_push rfl (.tmp 30) (.tmp 35) 22 rfl w.heap.size i8 (.int .u8 0) 1 Try.underlying22 hi8 hz8 hs8 hb8 rfl _ _ _ rfl hown rfl rfl h63 (by omega) hB1 ?_))
          intro A' c' w2 hown' g1' g2' hgr
          have hb2 := below_push hb hgr hB1 hown (Nat.le_refl _)
          have hown2 : w2.ownsRow w.heap.size 5 1 (.slice A' (q + 1) c') (q + 1) (bv (B64.bytes (Q ++ R))) := by
            rw [HP.out]
            exact hown'
          clear hown hgr hb hown' f1
          go_wp2
          go_roundw
          case rel => exact ⟨k + 1, q + 1, sh, sN, c', A', Q ++ R, S, by omega, by go_num, by go_num, by first | rfl | rw [hmask], rfl, by omega, by omega, by omega, by omega, HH3, hown2, hb2⟩
          case measure => simp [intOf]; omega
        · have hx2 : y < 256 := by
            have h := num_lt hP2
            rw [HH2.out.2.2.2.1, HH2.out.2.2.2.2] at h
            have : 2 ^ (pn + 6) ≤ 2 ^ 7 := Nat.pow_le_pow_right (by omega) (by omega)
            omega
          go_wp2_with fail
          refine hidx.mono ?_
          rintro e w' ⟨rfl, rfl⟩
          go_wp2
          go_roundw
          case rel => exact ⟨k + 1, q, pn + 6, y, c4, A4, Q, P2, by omega, by go_num, by go_num, rfl, rfl, by omega, by omega, by omega, by omega, HH2, hown, hb⟩
          case measure => simp [intOf]; omega
    · obtain rfl : k = N := by omega
      have htk : s.take k = s := by rw [← HN.out, List.take_length]
      rw [htk] at HH
      have hiff := enc_iff s HH.out.1 Q P q HH.out.2.1 HH.out.2.2.1 (by rw [HH.out.2.2.2.1]; exact hpn)
      rw [HH.out.2.2.2.1, HH.out.2.2.2.2] at hiff
      have hbt : B64.bytes (vals s) = B64.bytes Q := by rw [HH.out.2.1, bytes_tail Q P q HH.out.2.2.1 (by rw [HH.out.2.2.2.1]; exact hpn)]
      by_cases hgood : pn < 6 ∧ x = 0
      · have hdec : dec s = some (B64.bytes Q) := by
          unfold dec
          rw [if_pos HH.out.1, hbt, if_pos (hiff.2 hgood)]
        obtain ⟨h1, h2⟩ := hgood
        subst h2
        have hres : DecAny w s (.returned (.tuple #[.slice A4 q c4, .int .i64 0])) wr := by
          refine ⟨A4, q, c4, ?_, hqc, ?_, hb⟩
          · rw [hdec]; rfl
          · rw [hdec]; exact hown
        have HR := Lib.hid hres
        clear hiff hbt hdec hres hown htk
        go_wp2
        go_ret2
        exact HR.out
      · have hdec : dec s = none := by
          unfold dec
          rw [if_pos HH.out.1, hbt, if_neg (fun h => hgood (hiff.1 h))]
        have hres : DecAny w s (.returned (.tuple #[.slice none 0 0, .int .i64 13])) wr := by
          refine ⟨none, 0, 0, ?_, Nat.le_refl _, ?_, hb⟩
          · rw [hdec]; rfl
          · rw [hdec]; exact World.ownsRow_nil _ _ _ _
        have HR := Lib.hid hres
        clear hiff hbt hdec hres hown htk
        by_cases h6 : 6 ≤ pn
        · go_wp2
          go_ret2
          exact HR.out
        · have hx0 : ((x : Int) != 0) = true := by simp; omega
          have hx1 : ¬ x = 0 := by omega
          clear hgood
          go_wp2
          go_ret2
          exact HR.out
end Go.Proofs.Ytfdffdfglhfepaa
