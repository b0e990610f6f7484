/- THE WALKS of crc.Seal, crc.Open and the reference's. -/
import Derived.Test.YtjjgejdblibkmaaCrcWalks
import Derived.Test.YtjjgejdblibkmaaBytes
import Derived.Deep.DeepMust
import Derived.Deep.RegionWith
import Derived.Deep.RegionHeld3
namespace Go.Proofs.Ytjjgejdblibkmaa
open Go.RowKit Mem

theorem pow8 (s k : Nat) : (((s / 256 ^ k : Nat) : Int) % 256) = (s : Int) / 2 ^ (8 * k) % 256 := by
  rw [Int.pow_mul]
  simp
theorem u8_val (m : Nat) (h : m < 256) : ((UInt8.ofNat m).toNat : Int) = (m : Int) := by
  rw [UInt8.toNat_ofNat_of_lt' h]
theorem le4_snoc (l : List UInt8) {s k : Nat} (hk : k < 4) :
    bv (l ++ (Crc.le4 s).take (k + 1)) = bv (l ++ (Crc.le4 s).take k) ++ [.int .u8 ((s : Int) / 2 ^ (8 * k) % 256)] := by
  have hk' : k < (Crc.le4 s).length := by rw [Crc.le4_length]; omega
  have e : (((Crc.le4 s)[k].toNat : Nat) : Int) = (s : Int) / 2 ^ (8 * k) % 256 := by
    match k, hk with
    | 0, _ => show ((UInt8.ofNat (s % 256)).toNat : Int) = _; rw [u8_val _ (by omega)]; simp
    | 1, _ => show ((UInt8.ofNat (s / 256 % 256)).toNat : Int) = _; rw [u8_val _ (by omega)]; simp
    | 2, _ => show ((UInt8.ofNat (s / 65536 % 256)).toNat : Int) = _; rw [u8_val _ (by omega)]; simp
    | 3, _ => show ((UInt8.ofNat (s / 16777216 % 256)).toNat : Int) = _; rw [u8_val _ (by omega)]; simp
  rw [List.take_succ_eq_append_getElem hk', ← List.append_assoc, bv_append]
  congr 1
  simp only [bv, List.map_cons, List.map_nil, e]

set_option maxHeartbeats 400000 in
theorem seal_any (A : Option Addr) (n c B : Nat) (l : List UInt8) (w : World) (hd : Bs w B A n l) (hn : n ≤ 1099511627776) (hB : B ≤ w.heap.size) :
    Calls Try.prog 12 #[.slice A n c] w (Made w (n + 4) (Crc.seal_ l)) := by
  obtain ⟨i0, hi, hz0, hz1, hz2⟩ := info_parts info8
  go_enter Try.func12, Try.ntmps12
  go_wp2_with fail
  refine (clone_any _ _ _ _ _ _ hd (by omega) hB).mono ?_
  rintro e w1 ⟨A1, c1, rfl, g1, g2, hown, hb⟩
  go_wp2_with fail
  refine (sum_any _ _ _ _ _ _ (hd.next hB hb) (by omega)).mono ?_
  rintro e w' ⟨rfl, rfl⟩
  go_wp2
  go_loopw [3, 10] (fun v i wr => ∃ (k : Nat) (A : Option Addr) (c : Nat), k ≤ 4 ∧ i = .int .i64 k ∧ v = .slice A (n + k) c ∧ n + k ≤ c ∧ c ≤ 9223372036854775807 ∧ wr.ownsRow w.heap.size 5 1 (.slice A (n + k) c) (n + k) (bv (l ++ (Crc.le4 (Crc.sum l)).take k)) ∧ Below w.heap.size w wr) (fun _ i _ => 4 - (intOf i).toNat)
  case atStart => exact ⟨0, A1, c1, by omega, rfl, rfl, g1, g2, by simpa using hown, hb⟩
  case round =>
    obtain ⟨k, A, c, hk, rfl, rfl, g1, g2, hown, hb⟩ := hrel
    have hs := Crc.sum_lt l
    by_cases hlt : k < 4
    · have hB1 : w.heap.size ≤ wr.heap.size := by have := hb.size; omega
      have h63 : n + k + 1 ≤ maxLen := by unfold maxLen; omega
      go_wp2_with (at_builtin; go_must (refine wpList_push rfl (.tmp 13) (.tmp 19) 22 rfl w.heap.size i0 (.int .u8 0) 1 Try.underlying22 hi hz0 hz1 hz2 rfl _ _ _ rfl hown rfl rfl h63 (by omega) hB1 ?_))
      intro A' c' w2 hown' g1' g2' hgr
      have hb2 := below_push hb hgr hB1 hown (Nat.le_refl _)
      have hown2 : w2.ownsRow w.heap.size 5 1 (.slice A' (n + (k + 1)) c') (n + (k + 1)) (bv (l ++ (Crc.le4 (Crc.sum l)).take (k + 1))) := by
        rw [le4_snoc l hlt]
        exact hown'
      clear hown hgr hb hown'
      go_wp2
      go_roundw
      case rel => exact ⟨k + 1, A', c', by omega, by go_num, rfl, by omega, g2', hown2, hb2⟩
      case measure => simp [intOf]; omega
    · obtain rfl : k = 4 := by omega
      go_wp2
      go_ret
      refine ⟨A, c, rfl, g1, g2, ?_, hb⟩
      rw [List.take_of_length_le (by rw [Crc.le4_length]; omega)] at hown
      exact hown

set_option maxHeartbeats 400000 in
theorem refseal_any (A : Option Addr) (n c B : Nat) (l : List UInt8) (w : World) (hd : Bs w B A n l) (hn : n ≤ 1099511627776) (hB : B ≤ w.heap.size) :
    Calls Try.prog 13 #[.slice A n c] w (Made w (n + 4) (Crc.seal_ l)) := by
  obtain ⟨i0, hi, hz0, hz1, hz2⟩ := info_parts info8
  have h063 : 0 + n ≤ maxLen := by unfold maxLen; omega
  go_enter Try.func13, Try.ntmps13
  go_wp2_with (at_builtin; go_must (refine wpList_append w rfl (.tmp 6) (.tmp 7) 22 rfl w.heap.size 5 i0 (.int .u8 0) 1 1 Try.underlying22 hi hz0 hz1 hz2 rfl (by omega) _ 0 [] rfl (World.ownsRow_nil _ _ _ _) B _ _ _ _ rfl hd (bv_oneCell _) h063 (by omega) (Nat.le_refl _) ?_))
  intro A1 c1 w1 hown g1 g2 hgr
  have hb := below_grown (Below.refl w.heap.size w) hgr (Nat.le_refl _) (World.ownsRow_nil w w.heap.size 5 1) (Nat.le_refl _)
  clear hgr
  go_wp2_with fail
  refine (refsum_any _ _ _ _ _ _ (hd.next hB hb) (by omega)).mono ?_
  rintro e w' ⟨rfl, rfl⟩
  go_wp2
  go_loopw [3, 4, 5] (fun v s i wr => ∃ (k : Nat) (A : Option Addr) (c m : Nat), k ≤ 4 ∧ i = .int .i64 k ∧ v = .slice A (n + k) c ∧ s = .int .i64 m ∧ m ≤ 4294967295 ∧ Hid (m = Crc.sum l / 256 ^ k) ∧ n + k ≤ c ∧ c ≤ 9223372036854775807 ∧ wr.ownsRow w.heap.size 5 1 (.slice A (n + k) c) (n + k) (bv (l ++ (Crc.le4 (Crc.sum l)).take k)) ∧ Below w.heap.size w wr) (fun _ _ i _ => 4 - (intOf i).toNat)
  case atStart => exact ⟨0, A1, c1, Crc.sum l, by omega, rfl, rfl, rfl, by have := Crc.sum_lt l; omega, by show _ = _; simp, g1, g2, by simpa using hown, hb⟩
  case round =>
    obtain ⟨k, A, c, m, hk, rfl, rfl, rfl, hm1, hm, g1, g2, hown, hb⟩ := hrel
    by_cases hlt : k < 4
    · have hB1 : w.heap.size ≤ wr.heap.size := by have := hb.size; omega
      have h63 : n + k + 1 ≤ maxLen := by unfold maxLen; omega
      go_wp2_with (at_builtin; go_must (refine wpList_push rfl (.tmp 15) (.tmp 19) 22 rfl w.heap.size i0 (.int .u8 0) 1 Try.underlying22 hi hz0 hz1 hz2 rfl _ _ _ rfl hown rfl rfl h63 (by omega) hB1 ?_))
      intro A' c' w2 hown' g1' g2' hgr
      have hb2 := below_push hb hgr hB1 hown (Nat.le_refl _)
      have hown2 : w2.ownsRow w.heap.size 5 1 (.slice A' (n + (k + 1)) c') (n + (k + 1)) (bv (l ++ (Crc.le4 (Crc.sum l)).take (k + 1))) := by
        rw [le4_snoc l hlt, ← pow8, ← hm.out]
        exact hown'
      clear hown hgr hb hown'
      go_wp2
      go_roundw
      case rel => exact ⟨k + 1, A', c', m / 256, by omega, by go_num, rfl, by go_num, by omega, by show _ = _; rw [hm.out, Nat.div_div_eq_div_mul, Nat.pow_succ], by omega, g2', hown2, hb2⟩
      case measure => simp [intOf]; omega
    · obtain rfl : k = 4 := by omega
      go_wp2
      go_ret
      refine ⟨A, c, rfl, g1, g2, ?_, hb⟩
      rw [List.take_of_length_le (by rw [Crc.le4_length]; omega)] at hown
      exact hown

/-- What a 'Made' slice is good for in the worlds behind it. -/
theorem Bs.of_made {w1 w2 : World} {base e n c : Nat} {A : Option Addr} {l : List UInt8} (h : w1.ownsRow base e 1 (.slice A n c) n (bv l)) (hb : Below w1.heap.size w1 w2) : Bs w2 w1.heap.size A n l := (Bs.of_own h).below hb

/-- (data, OK), the data new. -/
def Opened (w : World) (m : Nat) (l : List UInt8) (e : Ending) (w' : World) : Prop :=
  ∃ A c, e = .returned (.tuple #[.slice A m c, .int .i64 0]) ∧ m ≤ c ∧ c ≤ 9223372036854775807 ∧ w'.ownsRow w.heap.size 5 1 (.slice A m c) m (bv l) ∧ Below w.heap.size w w'

set_option maxHeartbeats 400000 in
theorem open_yes (A : Option Addr) (m c B : Nat) (l : List UInt8) (w : World) (hd : Bs w B A (m + 4) l) (hc : m + 4 ≤ c) (hn : m + 4 ≤ 1099511627776) (hB : B ≤ w.heap.size) (ho : (Crc.seal_ (l.take m) == l) = true) :
    Calls Try.prog 14 #[.slice A (m + 4) c] w (Opened w m (l.take m)) := by
  have hdt := hd.take (k := m) (by omega)
  go_enter Try.func14, Try.ntmps14
  go_wp2_with fail
  refine (seal_any _ _ _ _ _ _ hdt (by omega) hB).mono ?_
  rintro e w1 ⟨A1, c1, rfl, g1, g2, hown, hb⟩
  go_wp2_with fail
  refine (equal_any _ _ _ _ _ _ _ _ _ _ _ (Bs.of_own hown) (hd.next hB hb) (by omega) (by omega)).mono ?_
  rintro e w2 ⟨rfl, hb2⟩
  rw [ho]
  have hb02 : Below w.heap.size w w2 := hb.trans (hb2.mono hb.size)
  go_wp2_with fail
  refine (clone_any _ _ _ _ _ _ (hdt.next hB hb02) (by omega) (by have := hb02.size; omega)).mono ?_
  rintro e w3 ⟨A3, c3, rfl, g5, g6, hown3, hb3⟩
  go_wp2
  go_ret2
  exact ⟨A3, c3, rfl, g5, g6, own_base hown3 hb02.size, hb02.trans (hb3.mono hb02.size)⟩

set_option maxHeartbeats 400000 in
theorem open_no (A : Option Addr) (m c B : Nat) (l : List UInt8) (w : World) (hd : Bs w B A (m + 4) l) (hc : m + 4 ≤ c) (hn : m + 4 ≤ 1099511627776) (hB : B ≤ w.heap.size) (ho : (Crc.seal_ (l.take m) == l) = false) :
    Calls Try.prog 14 #[.slice A (m + 4) c] w fun e w' => e = .returned (.tuple #[.slice none 0 0, .int .i64 5]) ∧ Below w.heap.size w w' := by
  have hdt := hd.take (k := m) (by omega)
  go_enter Try.func14, Try.ntmps14
  go_wp2_with fail
  refine (seal_any _ _ _ _ _ _ hdt (by omega) hB).mono ?_
  rintro e w1 ⟨A1, c1, rfl, g1, g2, hown, hb⟩
  go_wp2_with fail
  refine (equal_any _ _ _ _ _ _ _ _ _ _ _ (Bs.of_own hown) (hd.next hB hb) (by omega) (by omega)).mono ?_
  rintro e w2 ⟨rfl, hb2⟩
  rw [ho]
  have hb02 : Below w.heap.size w w2 := hb.trans (hb2.mono hb.size)
  go_wp2
  go_ret2
  exact ⟨rfl, hb02⟩

theorem open_short (A : Option Addr) (n c : Nat) (w : World) (hn : n < 4) :
    Calls Try.prog 14 #[.slice A n c] w fun e w' => e = .returned (.tuple #[.slice none 0 0, .int .i64 3]) ∧ w = w' := by
  go_enter Try.func14, Try.ntmps14
  go_wp2
  go_ret2
  exact ⟨rfl, rfl⟩

theorem refopen_short (A : Option Addr) (n c : Nat) (w : World) (hn : n < 4) :
    Calls Try.prog 15 #[.slice A n c] w fun e w' => e = .returned (.tuple #[.slice none 0 0, .int .i64 3]) ∧ w = w' := by
  go_enter Try.func15, Try.ntmps15
  go_wp2
  go_ret2
  exact ⟨rfl, rfl⟩

set_option maxHeartbeats 400000 in
theorem refopen_yes (A : Option Addr) (m c B : Nat) (l : List UInt8) (w : World) (hd : Bs w B A (m + 4) l) (hc : m + 4 ≤ c) (hn : m + 4 ≤ 1099511627776) (hB : B ≤ w.heap.size) (ho : (Crc.seal_ (l.take m) == l) = true) :
    Calls Try.prog 15 #[.slice A (m + 4) c] w fun e w' => e = .returned (.tuple #[.slice A m c, .int .i64 0]) ∧ Below w.heap.size w w' := by
  have hdt := hd.take (k := m) (by omega)
  have hx1 := conv (Bs.drew hd) c
  have hm : m ≤ c := by omega
  go_enter Try.func15, Try.ntmps15
  go_wp2_with fail
  go_region_with (go_at_call 13; refine (refseal_any _ _ _ _ _ _ hdt.drew (by omega) (by simpa using hB)).mono ?_; rintro e w1 ⟨A1, c1, rfl, g1, g2, hown, hb⟩; have hx2 := conv (Bs.of_own hown) c1; have hx3 := conv (Bs.next hd.drew (by simpa using hB) hb) c)
  all_goals go_wp2
  all_goals go_ret2
  all_goals exact ⟨rfl, (Below.refl _ _).drew.trans hb⟩

set_option maxHeartbeats 400000 in
theorem refopen_no (A : Option Addr) (m c B : Nat) (l : List UInt8) (w : World) (hd : Bs w B A (m + 4) l) (hc : m + 4 ≤ c) (hn : m + 4 ≤ 1099511627776) (hB : B ≤ w.heap.size) (ho : (Crc.seal_ (l.take m) == l) = false) :
    Calls Try.prog 15 #[.slice A (m + 4) c] w fun e w' => e = .returned (.tuple #[.slice none 0 0, .int .i64 5]) ∧ Below w.heap.size w w' := by
  have hdt := hd.take (k := m) (by omega)
  have hx1 := conv (Bs.drew hd) c
  have hm : m ≤ c := by omega
  go_enter Try.func15, Try.ntmps15
  go_wp2_with fail
  go_region_with (go_at_call 13; refine (refseal_any _ _ _ _ _ _ hdt.drew (by omega) (by simpa using hB)).mono ?_; rintro e w1 ⟨A1, c1, rfl, g1, g2, hown, hb⟩; have hx2 := conv (Bs.of_own hown) c1; have hx3 := conv (Bs.next hd.drew (by simpa using hB) hb) c)
  all_goals go_wp2
  all_goals go_ret2
  all_goals exact ⟨rfl, (Below.refl _ _).drew.trans hb⟩
end Go.Proofs.Ytjjgejdblibkmaa
