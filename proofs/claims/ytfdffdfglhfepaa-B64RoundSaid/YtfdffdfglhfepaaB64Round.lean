/- THE WALK of B64Round. -/
import Derived.Test.YtfdffdfglhfepaaB64Lives
namespace Go.Proofs.Ytfdffdfglhfepaa
open Go.RowKit Mem B64

theorem str_of (s : ByteArray) : s = str s.data.toList := by
  cases s
  simp [str]
/-- A string's first 200 bytes. -/
theorem take_str (l : List UInt8) (k : Nat) : (str l).extract 0 k = str (l.take k) := by
  apply ByteArray.ext
  simp [str]

theorem dec_some {s y : List UInt8} (h : dec s = some y) : enc y = s := by
  unfold dec at h
  split at h
  · split at h
    · rename_i h2
      injection h with h
      subst h
      exact h2
    · cases h
  · cases h

set_option maxRecDepth 100000 in
set_option maxHeartbeats 2000000 in
theorem round_at (A : Option Addr) (n c k : Nat) (lt st : List UInt8) (w : World) (hst : st.length ≤ 200) (hd2 : Bs w w.heap.size A k lt) (hk2 : k ≤ 200) (HK : Hid (min n 200 = k)) (hn : n ≤ c) :
    Calls Try.prog 5 #[.slice A n c, .string (str st)] w fun e w' => e = .returned (.bool true) ∧ Below w.heap.size w w' := by
  have hsz := str_size st
  have h1 := encode_any A k c _ lt w hd2 (by omega) (Nat.le_refl _)
  have hlen := enc_length lt
  have hltl := hd2.len
  rw [hltl] at hlen
  have hde := dec_enc lt
  have hEl : (enc lt).length ≤ 400 := by omega
  generalize enc lt = E at *
  obtain ⟨M, hM⟩ : ∃ M, E.length = M := ⟨_, rfl⟩
  have hszE := str_size E
  rw [hM] at hlen hszE
  have hlen2 : ((4 : Int) * k + 2) / 3 = (M : Int) := by omega
  have HD := Lib.hid hde
  have h2 := fun w1 => decode_any E w1 hEl
  have h3 := fun w1 => decode_any st w1 (by omega)
  obtain ⟨T, hT⟩ : ∃ T, st.length = T := ⟨_, rfl⟩
  rw [hT] at hsz hst
  have hself : (lt == lt) = true := beq_self_eq_true _
  have hxlt := fun w1 (hb : Below w.heap.size w w1) => conv (hd2.below hb) c
  have HXL := Lib.hid hxlt
  have HT := Lib.hid hT
  clear hM hlen hltl hde hT hxlt
  go_enter Try.func5, Try.ntmps5
  go_wp2_with fail
  refine (few_at _ _ _ _ _ hn HK).mono ?_
  rintro e w' ⟨rfl, rfl⟩
  go_wp2_with fail
  refine h1.mono ?_
  rintro e w1 ⟨rfl, hb1⟩
  go_wp2_with fail
  refine (h2 w1).mono ?_
  rintro e w2 ⟨A2, n2, c2, rfl, g2, hown2, hb2⟩
  rw [HD.out] at hown2 ⊢
  have hb12 := hb1.trans (hb2.mono hb1.size)
  go_wp2_with fail
  refine (h3 w2).mono ?_
  rintro e w3 ⟨A3, n3, c3, rfl, g3, hown3, hb3⟩
  have hb13 := hb12.trans (hb3.mono hb12.size)
  have hx2 := conv (l := lt) ((Bs.of_own hown2).next (Nat.le_refl _) hb3) c2
  have hx1 := HXL.out w3 hb13
  cases hdec : dec st with
  | none =>
    go_wp2_with fail
    refine (lives_any _).mono ?_
    rintro e w4 ⟨rfl, hb4⟩
    go_wp2
    go_ret
    exact ⟨rfl, hb13.trans (hb4.mono hb13.size)⟩
  | some y =>
    rw [hdec] at hown3
    have hey := dec_some hdec
    have hyl := enc_length y
    rw [hey, HT.out] at hyl
    have hB3 : Bs w3 w3.heap.size A3 n3 y := Bs.of_own hown3
    have hn3 := hB3.len
    have h4 := encode_any A3 n3 c3 _ y w3 hB3 (by omega) (Nat.le_refl _)
    rw [hey] at h4
    have hselfS : (st == st) = true := beq_self_eq_true _
    clear hdec hey hyl hown3 hn3 hown2
    go_wp2_with fail
    refine h4.mono ?_
    rintro e w4 ⟨rfl, hb4⟩
    have hb14 := hb13.trans (hb4.mono hb13.size)
    go_wp2_with fail
    refine (lives_any _).mono ?_
    rintro e w5 ⟨rfl, hb5⟩
    go_wp2
    go_ret
    exact ⟨rfl, hb14.trans (hb5.mono hb14.size)⟩

set_option maxRecDepth 100000 in
set_option maxHeartbeats 2000000 in
theorem round_long (A : Option Addr) (n c k : Nat) (lt st sf : List UInt8) (w : World) (hcut : Hid ((str sf).extract 0 200 = str st)) (hsf : 200 < (str sf).size) (hsf2 : (str sf).size ≤ 9223372036854775807) (hst : st.length ≤ 200) (hd2 : Bs w w.heap.size A k lt) (hk2 : k ≤ 200) (HK : Hid (min n 200 = k)) (hn : n ≤ c) :
    Calls Try.prog 5 #[.slice A n c, .string (str sf)] w fun e w' => e = .returned (.bool true) ∧ Below w.heap.size w w' := by
  have hsz := str_size st
  have hcut' := hcut.out
  have h1 := encode_any A k c _ lt w hd2 (by omega) (Nat.le_refl _)
  have hlen := enc_length lt
  have hltl := hd2.len
  rw [hltl] at hlen
  have hde := dec_enc lt
  have hEl : (enc lt).length ≤ 400 := by omega
  generalize enc lt = E at *
  obtain ⟨M, hM⟩ : ∃ M, E.length = M := ⟨_, rfl⟩
  have hszE := str_size E
  rw [hM] at hlen hszE
  have hlen2 : ((4 : Int) * k + 2) / 3 = (M : Int) := by omega
  have HD := Lib.hid hde
  have h2 := fun w1 => decode_any E w1 hEl
  have h3 := fun w1 => decode_any st w1 (by omega)
  obtain ⟨T, hT⟩ : ∃ T, st.length = T := ⟨_, rfl⟩
  rw [hT] at hsz hst
  have hself : (lt == lt) = true := beq_self_eq_true _
  have hxlt := fun w1 (hb : Below w.heap.size w w1) => conv (hd2.below hb) c
  have HXL := Lib.hid hxlt
  have HT := Lib.hid hT
  clear hM hlen hltl hde hT hxlt
  go_enter Try.func5, Try.ntmps5
  go_wp2_with fail
  refine (few_at _ _ _ _ _ hn HK).mono ?_
  rintro e w' ⟨rfl, rfl⟩
  go_wp2_with fail
  refine h1.mono ?_
  rintro e w1 ⟨rfl, hb1⟩
  go_wp2_with fail
  refine (h2 w1).mono ?_
  rintro e w2 ⟨A2, n2, c2, rfl, g2, hown2, hb2⟩
  rw [HD.out] at hown2 ⊢
  have hb12 := hb1.trans (hb2.mono hb1.size)
  go_wp2_with fail
  refine (h3 w2).mono ?_
  rintro e w3 ⟨A3, n3, c3, rfl, g3, hown3, hb3⟩
  have hb13 := hb12.trans (hb3.mono hb12.size)
  have hx2 := conv (l := lt) ((Bs.of_own hown2).next (Nat.le_refl _) hb3) c2
  have hx1 := HXL.out w3 hb13
  cases hdec : dec st with
  | none =>
    go_wp2_with fail
    refine (lives_any _).mono ?_
    rintro e w4 ⟨rfl, hb4⟩
    go_wp2
    go_ret
    exact ⟨rfl, hb13.trans (hb4.mono hb13.size)⟩
  | some y =>
    rw [hdec] at hown3
    have hey := dec_some hdec
    have hyl := enc_length y
    rw [hey, HT.out] at hyl
    have hB3 : Bs w3 w3.heap.size A3 n3 y := Bs.of_own hown3
    have hn3 := hB3.len
    have h4 := encode_any A3 n3 c3 _ y w3 hB3 (by omega) (Nat.le_refl _)
    rw [hey] at h4
    have hselfS : (st == st) = true := beq_self_eq_true _
    clear hdec hey hyl hown3 hn3 hown2
    go_wp2_with fail
    refine h4.mono ?_
    rintro e w4 ⟨rfl, hb4⟩
    have hb14 := hb13.trans (hb4.mono hb13.size)
    go_wp2_with fail
    refine (lives_any _).mono ?_
    rintro e w5 ⟨rfl, hb5⟩
    go_wp2
    go_ret
    exact ⟨rfl, hb14.trans (hb5.mono hb14.size)⟩

theorem b64Round_walk (A : Option Addr) (n c : Nat) (l : List UInt8) (s : ByteArray) (w : World) (hd : Bs w w.heap.size A n l) (hn : n ≤ c) (_hc : c ≤ 9223372036854775807) (ws : s.size ≤ maxLen) :
    Calls Try.prog 5 #[.slice A n c, .string s] w fun e w' => e = .returned (.bool true) ∧ Below w.heap.size w w' := by
  have hd2 : Bs w w.heap.size A (min n 200) (l.take (min n 200)) := hd.take (Nat.min_le_left _ _)
  have hs := str_of s
  have hl : s.data.toList.length = s.size := Array.length_toList
  by_cases h : s.size ≤ 200
  · rw [hs]
    exact round_at A n c (min n 200) _ s.data.toList w (by rw [hl]; exact h) hd2 (by omega) (Lib.hid rfl) hn
  · rw [hs]
    refine round_long A n c (min n 200) _ (s.data.toList.take 200) s.data.toList w (Lib.hid (take_str _ _)) ?_ ?_ (by rw [List.length_take]; omega) hd2 (by omega) (Lib.hid rfl) hn
    · rw [← hs]; omega
    · rw [← hs]; unfold maxLen at ws; omega
end Go.Proofs.Ytfdffdfglhfepaa
