/- THE WALKS of crc.Sum, crc.Seal, crc.Open. -/
import Derived.Test.YtgaplcgenlphdaaRows
import Derived.Test.YtgaplcgenlphdaaCrcSpec
import Derived.Test.YtgaplcgenlphdaaMem
import Derived.Test.YtgaplcgenlphdaaBytesEq
import Derived.WalkLawsBesides
import Derived.BigQuiet
import Derived.Deep.DeepMust
import Derived.Deep.RegionWith
namespace Go.Proofs.Ytgaplcgenlphdaa
open Go.RowKit Mem
set_option maxHeartbeats 400000 in
theorem step_any (s c : Nat) (w : World) (hs : s < 4294967296) (hc : c < 256) :
    Calls Try.prog 49 #[.int .u32 s, .int .u8 c] w fun e w' => e = .returned (.int .u32 (Crc.step s c : Nat)) ∧ w = w' := by
  go_enter Try.func49, Try.ntmps49
  go_wp2
  go_loop [0, 10] (fun t i => ∃ k : Nat, k ≤ 8 ∧ i = .int .i64 k ∧ t = .int .u32 (Crc.rounds k (s ^^^ c) : Nat)) (fun _ i => 8 - (intOf i).toNat)
  case atStart => exact ⟨0, by omega, rfl, by rw [u32_xor_nat s c (by omega) (by omega)]; rfl⟩
  case round =>
    obtain ⟨k, hk, rfl, rfl⟩ := hrel
    have hr : Crc.rounds k (s ^^^ c) < 4294967296 := Crc.rounds_lt (Crc.xor_lt32 hs hc) k
    by_cases hlt : k < 8
    · go_wp2
      go_round
      case rel => exact ⟨k + 1, by omega, by go_num, by rw [Crc.half_u32 _ hr]; rfl⟩
      case measure => simp [intOf]; omega
    · go_wp2
      obtain rfl : k = 8 := by omega
      go_ret
      exact ⟨rfl, rfl⟩
theorem run_take_succ (l : List UInt8) (k : Nat) (hk : k < l.length) (s : Nat) : Crc.run (l.take (k + 1)) s = Crc.step (Crc.run (l.take k) s) (l[k].toNat) := by
  rw [List.take_succ_eq_append_getElem hk, Crc.run_snoc]
set_option maxHeartbeats 400000 in
theorem sum_any (A : Option Addr) (n c B : Nat) (l : List UInt8) (w : World) (hd : Bs w B A n l) (hn : n ≤ 9223372036854775807) :
    Calls Try.prog 47 #[.slice A n c] w fun e w' => e = .returned (.int .i64 (Crc.sum l : Nat)) ∧ w = w' := by
  go_enter Try.func47, Try.ntmps47
  go_wp2
  go_loop [3, 8] (fun t i => ∃ k : Nat, k ≤ n ∧ i = .int .i64 k ∧ t = .int .u32 (Crc.run (l.take k) 4294967295 : Nat)) (fun _ i => n - (intOf i).toNat)
  case atStart => exact ⟨0, by omega, rfl, rfl⟩
  case round =>
    obtain ⟨k, hk, rfl, rfl⟩ := hrel
    have hr : Crc.run (l.take k) 4294967295 < 4294967296 := Crc.run_lt _ (by omega)
    by_cases hlt : k < n
    · obtain ⟨ad, hl, rfl, hb, hc⟩ := hd.at_ hlt
      have hbt : l[k].toNat < 256 := l[k].toNat_lt
      go_wp2_with (go_at_call 49; refine (step_any _ _ _ hr hbt).mono ?_; rintro e w' ⟨rfl, rfl⟩)
      go_round
      case rel => exact ⟨k + 1, by omega, by go_num, by rw [run_take_succ l k hl]⟩
      case measure => simp [intOf]; omega
    · go_wp2
      obtain rfl : k = n := by omega
      go_ret
      exact ⟨ret_int (by rw [Crc.final_u32 _ hr, List.take_of_length_le (by rw [hd.len]; omega)]; have := Crc.sum_lt l; unfold Crc.sum at *; unfold wrap64; omega), rfl⟩
theorem pow8 (s k : Nat) : (((s / 256 ^ k : Nat) : Int) % 256) = (s : Int) / 2 ^ (8 * k) % 256 := by
  rw [Int.pow_mul]
  simp
theorem u8_val (m : Nat) (h : m < 256) : ((UInt8.ofNat m).toNat : Int) = (m : Int) := by
  rw [UInt8.toNat_ofNat_of_lt' h]
theorem le4_snoc (l : List UInt8) {s k : Nat} (hk : k < 4) :
    bv (l ++ (Crc.le4 s).take (k + 1)) = bv (l ++ (Crc.le4 s).take k) ++ [.int .u8 ((s : Int) / 2 ^ (8 * k) % 256)] := by
  have hk' : k < (Crc.le4 s).length := by rw [Crc.le4_length]; omega
  have e : (((Crc.le4 s)[k].toNat : Nat) : Int) = (s : Int) / 2 ^ (8 * k) % 256 := by
    match k, hk with
    | 0, _ => show ((UInt8.ofNat (s % 256)).toNat : Int) = _; rw [u8_val _ (by omega)]; simp
    | 1, _ => show ((UInt8.ofNat (s / 256 % 256)).toNat : Int) = _; rw [u8_val _ (by omega)]; simp
    | 2, _ => show ((UInt8.ofNat (s / 65536 % 256)).toNat : Int) = _; rw [u8_val _ (by omega)]; simp
    | 3, _ => show ((UInt8.ofNat (s / 16777216 % 256)).toNat : Int) = _; rw [u8_val _ (by omega)]; simp
  rw [List.take_succ_eq_append_getElem hk', ← List.append_assoc, bv_append]
  congr 1
  simp only [bv, List.map_cons, List.map_nil, e]
set_option maxHeartbeats 400000 in
theorem seal_any (A : Option Addr) (n c B : Nat) (l : List UInt8) (w : World) (hd : Bs w B A n l) (hn : n ≤ 1099511627776) (hB : B ≤ w.heap.size) :
    Calls Try.prog 44 #[.slice A n c] w (Made w (n + 4) (Crc.seal_ l)) := by
  obtain ⟨i0, hi, hz0, hz1, hz2⟩ := info_parts info8
  go_enter Try.func44, Try.ntmps44
  go_wp2_with fail
  refine (clone_any _ _ _ _ _ _ hd (by omega) hB).mono ?_
  rintro e w1 ⟨A1, c1, rfl, g1, g2, hown, hb⟩
  go_wp2_with fail
  refine (sum_any _ _ _ _ _ _ (hd.next hB hb) (by omega)).mono ?_
  rintro e w' ⟨rfl, rfl⟩
  go_wp2
  go_loopw [3, 10] (fun v i wr => ∃ (k : Nat) (A : Option Addr) (c : Nat), k ≤ 4 ∧ i = .int .i64 k ∧ v = .slice A (n + k) c ∧ n + k ≤ c ∧ c ≤ 9223372036854775807 ∧ wr.ownsRow w.heap.size 5 1 (.slice A (n + k) c) (n + k) (bv (l ++ (Crc.le4 (Crc.sum l)).take k)) ∧ Below w.heap.size w wr) (fun _ i _ => 4 - (intOf i).toNat)
  case atStart => exact ⟨0, A1, c1, by omega, rfl, rfl, g1, g2, by simpa using hown, hb⟩
  case round =>
    obtain ⟨k, A, c, hk, rfl, rfl, g1, g2, hown, hb⟩ := hrel
    have hs := Crc.sum_lt l
    by_cases hlt : k < 4
    · have hB1 : w.heap.size ≤ wr.heap.size := by have := hb.size; omega
      have h63 : n + k + 1 ≤ maxLen := by unfold maxLen; omega
      go_wp2_with (at_builtin; go_must (refine wpList_push rfl (.tmp 13) (.tmp 19) 33 rfl w.heap.size i0 (.int .u8 0) 1 Try.underlying33 hi hz0 hz1 hz2 rfl _ _ _ rfl hown rfl rfl h63 (by omega) hB1 ?_))
      intro A' c' w2 hown' g1' g2' hgr
      have hb2 := below_push hb hgr hB1 hown (Nat.le_refl _)
      have hown2 : w2.ownsRow w.heap.size 5 1 (.slice A' (n + (k + 1)) c') (n + (k + 1)) (bv (l ++ (Crc.le4 (Crc.sum l)).take (k + 1))) := by
        rw [le4_snoc l hlt]
        exact hown'
      clear hown hgr hb hown'
      go_wp2
      go_roundw
      case rel => exact ⟨k + 1, A', c', by omega, by go_num, rfl, by omega, g2', hown2, hb2⟩
      case measure => simp [intOf]; omega
    · obtain rfl : k = 4 := by omega
      go_wp2
      go_ret
      refine ⟨A, c, rfl, g1, g2, ?_, hb⟩
      rw [List.take_of_length_le (by rw [Crc.le4_length]; omega)] at hown
      exact hown
/-- (data, OK), the data new. -/
def Opened (w : World) (m : Nat) (l : List UInt8) (e : Ending) (w' : World) : Prop :=
  ∃ A c, e = .returned (.tuple #[.slice A m c, .int .i64 0]) ∧ m ≤ c ∧ c ≤ 9223372036854775807 ∧ w'.ownsRow w.heap.size 5 1 (.slice A m c) m (bv l) ∧ Below w.heap.size w w'
set_option maxHeartbeats 400000 in
theorem open_yes (A : Option Addr) (m c B : Nat) (l : List UInt8) (w : World) (hd : Bs w B A (m + 4) l) (hc : m + 4 ≤ c) (hn : m + 4 ≤ 1099511627776) (hB : B ≤ w.heap.size) (ho : (Crc.seal_ (l.take m) == l) = true) :
    Calls Try.prog 40 #[.slice A (m + 4) c] w (Opened w m (l.take m)) := by
  have hdt := hd.take (k := m) (by omega)
  go_enter Try.func40, Try.ntmps40
  go_wp2_with fail
  refine (seal_any _ _ _ _ _ _ hdt (by omega) hB).mono ?_
  rintro e w1 ⟨A1, c1, rfl, g1, g2, hown, hb⟩
  go_wp2_with fail
  refine (equal_any _ _ _ _ _ _ _ _ _ _ _ (Bs.of_own hown) (hd.next hB hb) (by omega) (by omega)).mono ?_
  rintro e w2 ⟨rfl, hb2⟩
  rw [ho]
  have hb02 : Below w.heap.size w w2 := hb.trans (hb2.mono hb.size)
  go_wp2_with fail
  refine (clone_any _ _ _ _ _ _ (hdt.next hB hb02) (by omega) (by have := hb02.size; omega)).mono ?_
  rintro e w3 ⟨A3, c3, rfl, g5, g6, hown3, hb3⟩
  go_wp2
  go_ret2
  exact ⟨A3, c3, rfl, g5, g6, own_base hown3 hb02.size, hb02.trans (hb3.mono hb02.size)⟩
set_option maxHeartbeats 400000 in
theorem open_no (A : Option Addr) (m c B : Nat) (l : List UInt8) (w : World) (hd : Bs w B A (m + 4) l) (hc : m + 4 ≤ c) (hn : m + 4 ≤ 1099511627776) (hB : B ≤ w.heap.size) (ho : (Crc.seal_ (l.take m) == l) = false) :
    Calls Try.prog 40 #[.slice A (m + 4) c] w fun e w' => e = .returned (.tuple #[.slice none 0 0, .int .i64 5]) ∧ Below w.heap.size w w' := by
  have hdt := hd.take (k := m) (by omega)
  go_enter Try.func40, Try.ntmps40
  go_wp2_with fail
  refine (seal_any _ _ _ _ _ _ hdt (by omega) hB).mono ?_
  rintro e w1 ⟨A1, c1, rfl, g1, g2, hown, hb⟩
  go_wp2_with fail
  refine (equal_any _ _ _ _ _ _ _ _ _ _ _ (Bs.of_own hown) (hd.next hB hb) (by omega) (by omega)).mono ?_
  rintro e w2 ⟨rfl, hb2⟩
  rw [ho]
  have hb02 : Below w.heap.size w w2 := hb.trans (hb2.mono hb.size)
  go_wp2
  go_ret2
  exact ⟨rfl, hb02⟩
theorem open_short (A : Option Addr) (n c : Nat) (w : World) (hn : n < 4) :
    Calls Try.prog 40 #[.slice A n c] w fun e w' => e = .returned (.tuple #[.slice none 0 0, .int .i64 3]) ∧ w = w' := by
  go_enter Try.func40, Try.ntmps40
  go_wp2
  go_ret2
  exact ⟨rfl, rfl⟩
end Go.Proofs.Ytgaplcgenlphdaa
