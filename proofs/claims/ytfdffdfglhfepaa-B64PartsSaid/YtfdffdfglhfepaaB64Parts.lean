/- THE WALK of B64Parts. -/
import Derived.Test.YtfdffdfglhfepaaB64Lives
namespace Go.Proofs.Ytfdffdfglhfepaa
open Go.RowKit Mem B64

theorem str_append (a b : List UInt8) : str a ++ str b = str (a ++ b) := by
  apply ByteArray.ext
  simp [str]

set_option maxRecDepth 100000 in
set_option maxHeartbeats 2000000 in
theorem parts_at (A : Option Addr) (n c : Nat) (l : List UInt8) (A2 : Option Addr) (n2 c2 : Nat) (l2 : List UInt8) (w : World) (hd : Bs w w.heap.size A n l) (hn : n ≤ 99) (hnc : n ≤ c) (hd2 : Bs w w.heap.size A2 n2 l2) (hn2 : n2 ≤ 99) (_hnc2 : n2 ≤ c2) :
    Calls Try.prog 6 #[.slice A n c, .slice A2 n2 c2] w fun e w' => e = .returned (.bool true) ∧ Below w.heap.size w w' := by
  obtain ⟨i8, hi8, hz8, hs8, hb8⟩ := info_parts info8
  obtain ⟨k, hk⟩ : ∃ k, n - n % 3 = k := ⟨_, rfl⟩
  have hk1 : (n : Int) - (n : Int) % 3 = (k : Int) := by omega
  have hkn : k ≤ n := by omega
  have hda : Bs w w.heap.size A k (l.take k) := hd.take hkn
  have hla := hda.len
  have hsum := enc_append (l.take k) l2 (by rw [hla]; omega)
  generalize l.take k = la at *
  have hall := fun (w1 : World) (A1 : Option Addr) (m1 c1 : Nat) (h : Bs w1 w1.heap.size A1 m1 (la ++ l2)) (hm : m1 ≤ 400) => encode_any A1 m1 c1 _ _ w1 h hm (Nat.le_refl _)
  have hea := fun (w1 : World) (hb : Below w.heap.size w w1) => encode_any A k c _ la w1 (hda.below hb) (by omega) hb.size
  have heb := fun (w1 : World) (hb : Below w.heap.size w w1) => encode_any A2 n2 c2 _ l2 w1 (hd2.below hb) (by omega) hb.size
  rw [hsum] at hall
  obtain ⟨Ea, hEa⟩ : ∃ E, enc la = E := ⟨_, rfl⟩
  obtain ⟨Eb, hEb⟩ : ∃ E, enc l2 = E := ⟨_, rfl⟩
  have hza : (str Ea).size ≤ 400 := by rw [str_size, ← hEa, enc_length, hla]; omega
  have hzb : (str Eb).size ≤ 400 := by rw [str_size, ← hEb, enc_length, hd2.len]; omega
  have hzab : (str Ea).size + (str Eb).size ≤ 800 := by omega
  rw [hEa] at hea hall
  rw [hEb] at heb hall
  have HA := Lib.hid hall
  have HB := Lib.hid hea
  have HC := Lib.hid heb
  have hcat := str_append Ea Eb
  have HCat := Lib.hid hcat
  have h63a : 0 + k ≤ maxLen := by unfold maxLen; omega
  have h63b : k + n2 ≤ maxLen := by unfold maxLen; omega
  clear hall hea heb hEa hEb hsum hla hk hcat hd
  go_enter Try.func6, Try.ntmps6
  go_wp2_with (at_builtin; go_must (refine wpList_append w rfl (.tmp 24) (.tmp 25) 22 rfl w.heap.size 5 i8 (.int .u8 0) 1 1 Try.underlying22 hi8 hz8 hs8 hb8 rfl (by omega) _ 0 [] rfl (World.ownsRow_nil _ _ _ _) w.heap.size _ _ _ _ rfl hda (bv_oneCell _) h63a (by omega) (Nat.le_refl _) ?_))
  intro A1 c1 w1 hown1 g1 g2 hgr1
  have hown1' : w1.ownsRow w.heap.size 5 1 (.slice A1 k c1) k (bv la) := by simpa using hown1
  have hb1 : Below w.heap.size w w1 := below_grown (Below.refl _ _) hgr1 (Nat.le_refl _) (World.ownsRow_nil w w.heap.size 5 1) (Nat.le_refl _)
  have hd21 : Bs w1 w.heap.size A2 n2 l2 := hd2.below hb1
  clear hown1 hgr1
  go_wp2_with (at_builtin; go_must (refine wpList_append w1 rfl (.tmp 27) (.tmp 28) 22 rfl w.heap.size 5 i8 (.int .u8 0) 1 1 Try.underlying22 hi8 hz8 hs8 hb8 rfl (by omega) _ _ _ rfl hown1' w.heap.size _ _ _ _ rfl hd21 (bv_oneCell _) h63b (by omega) hb1.size ?_))
  intro A3 c3 w3 hown3 g3 g4 hgr3
  have hb3 : Below w.heap.size w w3 := below_grown hb1 hgr3 hb1.size hown1' (Nat.le_refl _)
  have hB3 : Bs w3 w3.heap.size A3 (k + n2) (la ++ l2) := by
    have h := Vs.of_own hown3
    rw [← bv_append] at h
    exact h
  have hcall := HA.out w3 A3 (k + n2) c3 hB3 (by omega)
  clear hown1' hown3 hgr3 hB3 hd21
  go_wp2_with fail
  refine hcall.mono ?_
  rintro e w4 ⟨rfl, hb4⟩
  have hb34 := hb3.trans (hb4.mono hb3.size)
  go_wp2_with fail
  refine (HB.out w4 hb34).mono ?_
  rintro e w5 ⟨rfl, hb5⟩
  have hb35 := hb34.trans (hb5.mono hb34.size)
  go_wp2_with fail
  refine (HC.out w5 hb35).mono ?_
  rintro e w6 ⟨rfl, hb6⟩
  have hb36 := hb35.trans (hb6.mono hb35.size)
  have hcc := HCat.out
  have hself : (Ea ++ Eb == Ea ++ Eb) = true := beq_self_eq_true _
  go_wp2_with fail
  refine (lives_any _).mono ?_
  rintro e w7 ⟨rfl, hb7⟩
  go_wp2
  go_ret
  exact ⟨rfl, hb36.trans (hb7.mono hb36.size)⟩

set_option maxRecDepth 100000 in
set_option maxHeartbeats 2000000 in
theorem parts_ls (A : Option Addr) (nf c : Nat) (l : List UInt8) (A2 : Option Addr) (n2 c2 : Nat) (l2 : List UInt8) (w : World) (hd : Bs w w.heap.size A 99 l) (hn : 99 < nf) (hnc : nf ≤ c) (hd2 : Bs w w.heap.size A2 n2 l2) (hn2 : n2 ≤ 99) (_hnc2 : n2 ≤ c2) :
    Calls Try.prog 6 #[.slice A nf c, .slice A2 n2 c2] w fun e w' => e = .returned (.bool true) ∧ Below w.heap.size w w' := by
  obtain ⟨i8, hi8, hz8, hs8, hb8⟩ := info_parts info8
  have hkn : 99 ≤ 99 := by omega
  have hda : Bs w w.heap.size A 99 (l.take 99) := hd.take hkn
  have hla := hda.len
  have hsum := enc_append (l.take 99) l2 (by rw [hla])
  generalize l.take 99 = la at *
  have hall := fun (w1 : World) (A1 : Option Addr) (m1 c1 : Nat) (h : Bs w1 w1.heap.size A1 m1 (la ++ l2)) (hm : m1 ≤ 400) => encode_any A1 m1 c1 _ _ w1 h hm (Nat.le_refl _)
  have hea := fun (w1 : World) (hb : Below w.heap.size w w1) => encode_any A 99 c _ la w1 (hda.below hb) (by omega) hb.size
  have heb := fun (w1 : World) (hb : Below w.heap.size w w1) => encode_any A2 n2 c2 _ l2 w1 (hd2.below hb) (by omega) hb.size
  rw [hsum] at hall
  obtain ⟨Ea, hEa⟩ : ∃ E, enc la = E := ⟨_, rfl⟩
  obtain ⟨Eb, hEb⟩ : ∃ E, enc l2 = E := ⟨_, rfl⟩
  have hza : (str Ea).size ≤ 400 := by rw [str_size, ← hEa, enc_length, hla]; omega
  have hzb : (str Eb).size ≤ 400 := by rw [str_size, ← hEb, enc_length, hd2.len]; omega
  have hzab : (str Ea).size + (str Eb).size ≤ 800 := by omega
  rw [hEa] at hea hall
  rw [hEb] at heb hall
  have HA := Lib.hid hall
  have HB := Lib.hid hea
  have HC := Lib.hid heb
  have hcat := str_append Ea Eb
  have HCat := Lib.hid hcat
  have h63a : 0 + 99 ≤ maxLen := by unfold maxLen; omega
  have h63b : 99 + n2 ≤ maxLen := by unfold maxLen; omega
  clear hall hea heb hEa hEb hsum hla hcat hd
  go_enter Try.func6, Try.ntmps6
  go_wp2_with (at_builtin; go_must (refine wpList_append w rfl (.tmp 24) (.tmp 25) 22 rfl w.heap.size 5 i8 (.int .u8 0) 1 1 Try.underlying22 hi8 hz8 hs8 hb8 rfl (by omega) _ 0 [] rfl (World.ownsRow_nil _ _ _ _) w.heap.size _ _ _ _ rfl hda (bv_oneCell _) h63a (by omega) (Nat.le_refl _) ?_))
  intro A1 c1 w1 hown1 g1 g2 hgr1
  have hown1' : w1.ownsRow w.heap.size 5 1 (.slice A1 99 c1) 99 (bv la) := by simpa using hown1
  have hb1 : Below w.heap.size w w1 := below_grown (Below.refl _ _) hgr1 (Nat.le_refl _) (World.ownsRow_nil w w.heap.size 5 1) (Nat.le_refl _)
  have hd21 : Bs w1 w.heap.size A2 n2 l2 := hd2.below hb1
  clear hown1 hgr1
  go_wp2_with (at_builtin; go_must (refine wpList_append w1 rfl (.tmp 27) (.tmp 28) 22 rfl w.heap.size 5 i8 (.int .u8 0) 1 1 Try.underlying22 hi8 hz8 hs8 hb8 rfl (by omega) _ _ _ rfl hown1' w.heap.size _ _ _ _ rfl hd21 (bv_oneCell _) h63b (by omega) hb1.size ?_))
  intro A3 c3 w3 hown3 g3 g4 hgr3
  have hb3 : Below w.heap.size w w3 := below_grown hb1 hgr3 hb1.size hown1' (Nat.le_refl _)
  have hB3 : Bs w3 w3.heap.size A3 (99 + n2) (la ++ l2) := by
    have h := Vs.of_own hown3
    rw [← bv_append] at h
    exact h
  have hcall := HA.out w3 A3 (99 + n2) c3 hB3 (by omega)
  clear hown1' hown3 hgr3 hB3 hd21
  go_wp2_with fail
  refine hcall.mono ?_
  rintro e w4 ⟨rfl, hb4⟩
  have hb34 := hb3.trans (hb4.mono hb3.size)
  go_wp2_with fail
  refine (HB.out w4 hb34).mono ?_
  rintro e w5 ⟨rfl, hb5⟩
  have hb35 := hb34.trans (hb5.mono hb34.size)
  go_wp2_with fail
  refine (HC.out w5 hb35).mono ?_
  rintro e w6 ⟨rfl, hb6⟩
  have hb36 := hb35.trans (hb6.mono hb35.size)
  have hcc := HCat.out
  have hself : (Ea ++ Eb == Ea ++ Eb) = true := beq_self_eq_true _
  go_wp2_with fail
  refine (lives_any _).mono ?_
  rintro e w7 ⟨rfl, hb7⟩
  go_wp2
  go_ret
  exact ⟨rfl, hb36.trans (hb7.mono hb36.size)⟩

set_option maxRecDepth 100000 in
set_option maxHeartbeats 2000000 in
theorem parts_sl (A : Option Addr) (n c : Nat) (l : List UInt8) (A2 : Option Addr) (nf2 c2 : Nat) (l2 : List UInt8) (w : World) (hd : Bs w w.heap.size A n l) (hn : n ≤ 99) (hnc : n ≤ c) (hd2 : Bs w w.heap.size A2 99 l2) (hn2 : 99 < nf2) (hnc2 : nf2 ≤ c2) :
    Calls Try.prog 6 #[.slice A n c, .slice A2 nf2 c2] w fun e w' => e = .returned (.bool true) ∧ Below w.heap.size w w' := by
  obtain ⟨i8, hi8, hz8, hs8, hb8⟩ := info_parts info8
  obtain ⟨k, hk⟩ : ∃ k, n - n % 3 = k := ⟨_, rfl⟩
  have hk1 : (n : Int) - (n : Int) % 3 = (k : Int) := by omega
  have hkn : k ≤ n := by omega
  have hda : Bs w w.heap.size A k (l.take k) := hd.take hkn
  have hla := hda.len
  have hsum := enc_append (l.take k) l2 (by rw [hla]; omega)
  generalize l.take k = la at *
  have hall := fun (w1 : World) (A1 : Option Addr) (m1 c1 : Nat) (h : Bs w1 w1.heap.size A1 m1 (la ++ l2)) (hm : m1 ≤ 400) => encode_any A1 m1 c1 _ _ w1 h hm (Nat.le_refl _)
  have hea := fun (w1 : World) (hb : Below w.heap.size w w1) => encode_any A k c _ la w1 (hda.below hb) (by omega) hb.size
  have heb := fun (w1 : World) (hb : Below w.heap.size w w1) => encode_any A2 99 c2 _ l2 w1 (hd2.below hb) (by omega) hb.size
  rw [hsum] at hall
  obtain ⟨Ea, hEa⟩ : ∃ E, enc la = E := ⟨_, rfl⟩
  obtain ⟨Eb, hEb⟩ : ∃ E, enc l2 = E := ⟨_, rfl⟩
  have hza : (str Ea).size ≤ 400 := by rw [str_size, ← hEa, enc_length, hla]; omega
  have hzb : (str Eb).size ≤ 400 := by rw [str_size, ← hEb, enc_length, hd2.len]; omega
  have hzab : (str Ea).size + (str Eb).size ≤ 800 := by omega
  rw [hEa] at hea hall
  rw [hEb] at heb hall
  have HA := Lib.hid hall
  have HB := Lib.hid hea
  have HC := Lib.hid heb
  have hcat := str_append Ea Eb
  have HCat := Lib.hid hcat
  have h63a : 0 + k ≤ maxLen := by unfold maxLen; omega
  have h63b : k + 99 ≤ maxLen := by unfold maxLen; omega
  clear hall hea heb hEa hEb hsum hla hk hcat hd
  go_enter Try.func6, Try.ntmps6
  go_wp2_with (at_builtin; go_must (refine wpList_append w rfl (.tmp 24) (.tmp 25) 22 rfl w.heap.size 5 i8 (.int .u8 0) 1 1 Try.underlying22 hi8 hz8 hs8 hb8 rfl (by omega) _ 0 [] rfl (World.ownsRow_nil _ _ _ _) w.heap.size _ _ _ _ rfl hda (bv_oneCell _) h63a (by omega) (Nat.le_refl _) ?_))
  intro A1 c1 w1 hown1 g1 g2 hgr1
  have hown1' : w1.ownsRow w.heap.size 5 1 (.slice A1 k c1) k (bv la) := by simpa using hown1
  have hb1 : Below w.heap.size w w1 := below_grown (Below.refl _ _) hgr1 (Nat.le_refl _) (World.ownsRow_nil w w.heap.size 5 1) (Nat.le_refl _)
  have hd21 : Bs w1 w.heap.size A2 99 l2 := hd2.below hb1
  clear hown1 hgr1
  go_wp2_with (at_builtin; go_must (refine wpList_append w1 rfl (.tmp 27) (.tmp 28) 22 rfl w.heap.size 5 i8 (.int .u8 0) 1 1 Try.underlying22 hi8 hz8 hs8 hb8 rfl (by omega) _ _ _ rfl hown1' w.heap.size _ _ _ _ rfl hd21 (bv_oneCell _) h63b (by omega) hb1.size ?_))
  intro A3 c3 w3 hown3 g3 g4 hgr3
  have hb3 : Below w.heap.size w w3 := below_grown hb1 hgr3 hb1.size hown1' (Nat.le_refl _)
  have hB3 : Bs w3 w3.heap.size A3 (k + 99) (la ++ l2) := by
    have h := Vs.of_own hown3
    rw [← bv_append] at h
    exact h
  have hcall := HA.out w3 A3 (k + 99) c3 hB3 (by omega)
  clear hown1' hown3 hgr3 hB3 hd21
  go_wp2_with fail
  refine hcall.mono ?_
  rintro e w4 ⟨rfl, hb4⟩
  have hb34 := hb3.trans (hb4.mono hb3.size)
  go_wp2_with fail
  refine (HB.out w4 hb34).mono ?_
  rintro e w5 ⟨rfl, hb5⟩
  have hb35 := hb34.trans (hb5.mono hb34.size)
  go_wp2_with fail
  refine (HC.out w5 hb35).mono ?_
  rintro e w6 ⟨rfl, hb6⟩
  have hb36 := hb35.trans (hb6.mono hb35.size)
  have hcc := HCat.out
  have hself : (Ea ++ Eb == Ea ++ Eb) = true := beq_self_eq_true _
  go_wp2_with fail
  refine (lives_any _).mono ?_
  rintro e w7 ⟨rfl, hb7⟩
  go_wp2
  go_ret
  exact ⟨rfl, hb36.trans (hb7.mono hb36.size)⟩

set_option maxRecDepth 100000 in
set_option maxHeartbeats 2000000 in
theorem parts_ll (A : Option Addr) (nf c : Nat) (l : List UInt8) (A2 : Option Addr) (nf2 c2 : Nat) (l2 : List UInt8) (w : World) (hd : Bs w w.heap.size A 99 l) (hn : 99 < nf) (hnc : nf ≤ c) (hd2 : Bs w w.heap.size A2 99 l2) (hn2 : 99 < nf2) (hnc2 : nf2 ≤ c2) :
    Calls Try.prog 6 #[.slice A nf c, .slice A2 nf2 c2] w fun e w' => e = .returned (.bool true) ∧ Below w.heap.size w w' := by
  obtain ⟨i8, hi8, hz8, hs8, hb8⟩ := info_parts info8
  have hkn : 99 ≤ 99 := by omega
  have hda : Bs w w.heap.size A 99 (l.take 99) := hd.take hkn
  have hla := hda.len
  have hsum := enc_append (l.take 99) l2 (by rw [hla])
  generalize l.take 99 = la at *
  have hall := fun (w1 : World) (A1 : Option Addr) (m1 c1 : Nat) (h : Bs w1 w1.heap.size A1 m1 (la ++ l2)) (hm : m1 ≤ 400) => encode_any A1 m1 c1 _ _ w1 h hm (Nat.le_refl _)
  have hea := fun (w1 : World) (hb : Below w.heap.size w w1) => encode_any A 99 c _ la w1 (hda.below hb) (by omega) hb.size
  have heb := fun (w1 : World) (hb : Below w.heap.size w w1) => encode_any A2 99 c2 _ l2 w1 (hd2.below hb) (by omega) hb.size
  rw [hsum] at hall
  obtain ⟨Ea, hEa⟩ : ∃ E, enc la = E := ⟨_, rfl⟩
  obtain ⟨Eb, hEb⟩ : ∃ E, enc l2 = E := ⟨_, rfl⟩
  have hza : (str Ea).size ≤ 400 := by rw [str_size, ← hEa, enc_length, hla]; omega
  have hzb : (str Eb).size ≤ 400 := by rw [str_size, ← hEb, enc_length, hd2.len]; omega
  have hzab : (str Ea).size + (str Eb).size ≤ 800 := by omega
  rw [hEa] at hea hall
  rw [hEb] at heb hall
  have HA := Lib.hid hall
  have HB := Lib.hid hea
  have HC := Lib.hid heb
  have hcat := str_append Ea Eb
  have HCat := Lib.hid hcat
  have h63a : 0 + 99 ≤ maxLen := by unfold maxLen; omega
  have h63b : 99 + 99 ≤ maxLen := by unfold maxLen; omega
  clear hall hea heb hEa hEb hsum hla hcat hd
  go_enter Try.func6, Try.ntmps6
  go_wp2_with (at_builtin; go_must (refine wpList_append w rfl (.tmp 24) (.tmp 25) 22 rfl w.heap.size 5 i8 (.int .u8 0) 1 1 Try.underlying22 hi8 hz8 hs8 hb8 rfl (by omega) _ 0 [] rfl (World.ownsRow_nil _ _ _ _) w.heap.size _ _ _ _ rfl hda (bv_oneCell _) h63a (by omega) (Nat.le_refl _) ?_))
  intro A1 c1 w1 hown1 g1 g2 hgr1
  have hown1' : w1.ownsRow w.heap.size 5 1 (.slice A1 99 c1) 99 (bv la) := by simpa using hown1
  have hb1 : Below w.heap.size w w1 := below_grown (Below.refl _ _) hgr1 (Nat.le_refl _) (World.ownsRow_nil w w.heap.size 5 1) (Nat.le_refl _)
  have hd21 : Bs w1 w.heap.size A2 99 l2 := hd2.below hb1
  clear hown1 hgr1
  go_wp2_with (at_builtin; go_must (refine wpList_append w1 rfl (.tmp 27) (.tmp 28) 22 rfl w.heap.size 5 i8 (.int .u8 0) 1 1 Try.underlying22 hi8 hz8 hs8 hb8 rfl (by omega) _ _ _ rfl hown1' w.heap.size _ _ _ _ rfl hd21 (bv_oneCell _) h63b (by omega) hb1.size ?_))
  intro A3 c3 w3 hown3 g3 g4 hgr3
  have hb3 : Below w.heap.size w w3 := below_grown hb1 hgr3 hb1.size hown1' (Nat.le_refl _)
  have hB3 : Bs w3 w3.heap.size A3 (99 + 99) (la ++ l2) := by
    have h := Vs.of_own hown3
    rw [← bv_append] at h
    exact h
  have hcall := HA.out w3 A3 (99 + 99) c3 hB3 (by omega)
  clear hown1' hown3 hgr3 hB3 hd21
  go_wp2_with fail
  refine hcall.mono ?_
  rintro e w4 ⟨rfl, hb4⟩
  have hb34 := hb3.trans (hb4.mono hb3.size)
  go_wp2_with fail
  refine (HB.out w4 hb34).mono ?_
  rintro e w5 ⟨rfl, hb5⟩
  have hb35 := hb34.trans (hb5.mono hb34.size)
  go_wp2_with fail
  refine (HC.out w5 hb35).mono ?_
  rintro e w6 ⟨rfl, hb6⟩
  have hb36 := hb35.trans (hb6.mono hb35.size)
  have hcc := HCat.out
  have hself : (Ea ++ Eb == Ea ++ Eb) = true := beq_self_eq_true _
  go_wp2_with fail
  refine (lives_any _).mono ?_
  rintro e w7 ⟨rfl, hb7⟩
  go_wp2
  go_ret
  exact ⟨rfl, hb36.trans (hb7.mono hb36.size)⟩

theorem b64Parts_walk (A : Option Addr) (n c : Nat) (l : List UInt8) (A2 : Option Addr) (n2 c2 : Nat) (l2 : List UInt8) (w : World) (hd : Bs w w.heap.size A n l) (hn : n ≤ c) (_hc : c ≤ 9223372036854775807) (hd2 : Bs w w.heap.size A2 n2 l2) (hn2 : n2 ≤ c2) (_hc2 : c2 ≤ 9223372036854775807) :
    Calls Try.prog 6 #[.slice A n c, .slice A2 n2 c2] w fun e w' => e = .returned (.bool true) ∧ Below w.heap.size w w' := by
  by_cases h1 : n ≤ 99
  · by_cases h2 : n2 ≤ 99
    · exact parts_at A n c l A2 n2 c2 l2 w hd h1 hn hd2 h2 hn2
    · exact parts_sl A n c l A2 n2 c2 _ w hd h1 hn (hd2.take (k := 99) (by omega)) (by omega) hn2
  · by_cases h2 : n2 ≤ 99
    · exact parts_ls A n c _ A2 n2 c2 l2 w (hd.take (k := 99) (by omega)) (by omega) hn hd2 h2 hn2
    · exact parts_ll A n c _ A2 n2 c2 _ w (hd.take (k := 99) (by omega)) (by omega) hn (hd2.take (k := 99) (by omega)) (by omega) hn2
end Go.Proofs.Ytfdffdfglhfepaa
