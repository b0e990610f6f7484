/- ShaName, ShaName2 (put together by merge.py). -/
import Derived.Test.YtmbpnkacggngkaaGreatDoorShaOf
import Derived.Laws.DeepStrings4
/- THE WALKS of the reference's Sum256 and Name. -/
namespace Go.Proofs.YtmbpnkacggngkaaGreatDoor
open Go.RowKit Mem

set_option maxRecDepth 100000 in
set_option maxHeartbeats 4000000 in
theorem rsum256_any (Ad : Option Addr) (n c : Nat) (d : List UInt8) (w : World) (hd : Bs w w.heap.size Ad n d) (hn : n ≤ 1000000) :
    Calls Tryz.prog 41 #[.slice Ad n c] w fun e w' => ∃ A' c', e = .returned (.slice A' 32 c') ∧ 32 ≤ c' ∧ w'.ownsRow w.heap.size 5 1 (.slice A' 32 c') 32 (bv (Sha.sum256 d)) ∧ Below w.heap.size w w' := by
  go_enter Tryz.func41, Tryz.ntmps41
  go_wp2_with fail
  refine (rof_any w).mono ?_
  rintro e w1 ⟨hc, A, B, C, D, K, cK, F, cF, rfl, hH, hb1⟩
  have b1 := Blk.new w1 zeroH 114
  have h32 := hH.h32
  obtain ⟨s1, s2⟩ := store_H b1 rfl (vs := hc) h32.len h32.one
  have hch : Chg [] w1 ((w1.alloc (.cells zeroH.toArray 114)).setCells w1.heap.size 0 hc) := ((Chg.refl _ _).alloc _).setCells _ (.inr (Nat.le_refl _))
  obtain ⟨w2, hw2⟩ : ∃ w2, (w1.alloc (.cells zeroH.toArray 114)).setCells w1.heap.size 0 hc = w2 := ⟨_, rfl⟩
  rw [hw2] at s1 s2 hch
  have hb2 := hch.below (by simp)
  have hld := load_H s2 h32.len
  have hb12 := hb1.trans (hb2.mono hb1.size)
  have hsum := rsum_any hc A 3 B 3 C 3 D 3 K cK F cF Ad n c d w2 (hH.below hb2) (vs_below hd hb12) hn
  unfold zeroH at s1
  simp only [List.toArray] at s1
  clear hw2 b1
  go_wp2_with fail
  refine hsum.mono ?_
  rintro e w3 ⟨A', c', rfl, h1, h2, h3⟩
  go_wp2
  go_ret
  exact ⟨A', c', rfl, h1, own_base h2 hb12.size, hb12.trans (h3.mono hb12.size)⟩
end Go.Proofs.YtmbpnkacggngkaaGreatDoor
/- THE WALK of the reference's Name. -/
namespace Go.Proofs.YtmbpnkacggngkaaGreatDoor
open Go.RowKit Mem

def hexAll : List UInt8 := [48, 49, 50, 51, 52, 53, 54, 55, 56, 57, 97, 98, 99, 100, 101, 102]
theorem hex_cut (a : Nat) (h : a < 16) : (hexAll.drop a).take 1 = [Sha.hexd a] := by
  have : ∀ a : Fin 16, (hexAll.drop a.1).take 1 = [Sha.hexd a.1] := by decide
  exact this ⟨a, h⟩
theorem hexs_more (h : List UInt8) (i : Nat) : Sha.hexs h (i + 1) = Sha.hexs h i ++ [Sha.hexd ((h.getD i 0).toNat / 16)] ++ [Sha.hexd ((h.getD i 0).toNat % 16)] := rfl
theorem str_cat (a b : List UInt8) : str a ++ str b = str (a ++ b) := by
  apply ByteArray.ext
  simp [str, ByteArray.data_append]
theorem slice_hex (a : Nat) (h : a < 16) (w : World) : (Instr.slice 9 (.string ⟨#[48, 49, 50, 51, 52, 53, 54, 55, 56, 57, 97, 98, 99, 100, 101, 102]⟩) (some (.int .i64 (a : Int))) (some (.int .i64 ((a : Int) + 1))) none).run Tryz.prog w = .ok (.string (str [Sha.hexd a])) w := by
  have hsz : ((⟨#[48, 49, 50, 51, 52, 53, 54, 55, 56, 57, 97, 98, 99, 100, 101, 102]⟩ : ByteArray).size : Int) = 16 := rfl
  refine (run_slice_string _ _ _ _ _ _ _ Tryz.underlying9 (by omega) (by omega) (by rw [hsz]; omega)).trans ?_
  have : ∀ a : Fin 16, (⟨#[48, 49, 50, 51, 52, 53, 54, 55, 56, 57, 97, 98, 99, 100, 101, 102]⟩ : ByteArray).extract ((a.1 : Int)).toNat ((a.1 : Int) + 1).toNat = str [Sha.hexd a.1] := by
    intro a
    obtain ⟨a, ha⟩ := a
    have hc : a = 0 ∨ a = 1 ∨ a = 2 ∨ a = 3 ∨ a = 4 ∨ a = 5 ∨ a = 6 ∨ a = 7 ∨ a = 8 ∨ a = 9 ∨ a = 10 ∨ a = 11 ∨ a = 12 ∨ a = 13 ∨ a = 14 ∨ a = 15 := by omega
    rcases hc with rfl | rfl | rfl | rfl | rfl | rfl | rfl | rfl | rfl | rfl | rfl | rfl | rfl | rfl | rfl | rfl <;> rfl
  rw [this ⟨a, h⟩]
set_option maxRecDepth 100000 in
set_option maxHeartbeats 4000000 in
theorem rname_any (Ad : Option Addr) (n c : Nat) (d : List UInt8) (w : World) (hd : Bs w w.heap.size Ad n d) (hn : n ≤ 1000000) :
    Calls Tryz.prog 25 #[.slice Ad n c] w fun e w' => e = .returned (.string (str (Sha.nameOf d))) ∧ Below w.heap.size w w' := by
  go_enter Tryz.func25, Tryz.ntmps25
  go_wp2_with fail
  refine (rsum256_any Ad n c d w hd hn).mono ?_
  rintro e w1 ⟨A, c1, rfl, h1, h2, h3⟩
  obtain ⟨g, rfl, hg1, hg2⟩ := own_some h2 (by omega)
  have HN := Lib.hid (show Sha.nameOf d = Sha.hexs (Sha.sum256 d) 4 from rfl)
  have HL := Lib.hid (Sha.sum_len (Sha.tops 3 64) (Sha.tops 2 8) d)
  have hcell : ∀ j, j < 32 → w1.cell? ⟨g, j, none⟩ = some (.int .u8 (((Sha.sum256 d).getD j 0).toNat : Int)) := fun j hj => by
    have hl : (Sha.sum256 d).length = 32 := HL.out
    have := h2.cells (g := g) rfl j (.int .u8 (((Sha.sum256 d).getD j 0).toNat : Int)) (by rw [bv_at, List.getElem?_eq_getElem (by omega)]; simp [List.getD_eq_getElem?_getD, show j < (Sha.sum256 d).length by omega])
    rwa [zero_add_] at this
  have HC := Lib.hid hcell
  clear hcell h2
  generalize Sha.sum256 d = S at *
  go_wp2_with fail
  go_loopw [5, 6, 7, 8] (fun s i _ _ wx => ∃ t : Nat, t ≤ 4 ∧ i = .int .i64 (t : Int) ∧ s = .string (str (Sha.hexs S t)) ∧ Below w1.heap.size w1 wx) (fun _ i _ _ _ => 4 - (intOf i).toNat)
  case atStart => exact ⟨0, by omega, rfl, rfl, Below.refl _ _⟩
  case round =>
    obtain ⟨t, ht, rfl, rfl, hb⟩ := hrel
    by_cases hlt : t < 4
    · have hcl := (hb.cell (p := ⟨g, t, none⟩) hg2).trans (HC.out t (by omega))
      have HS := Lib.hid (hexs_more S t)
      have hx := (S.getD t 0).toNat_lt
      generalize (S.getD t 0).toNat = x at *
      have hq1 : Int.tdiv (x : Int) 16 = ((x / 16 : Nat) : Int) := nat_tdiv x 16
      have hq2 : Int.tmod (x : Int) 16 = ((x % 16 : Nat) : Int) := nat_tmod x 16
      have hq3 : (x : Int) / 16 = ((x / 16 : Nat) : Int) := by omega
      have hq4 : (x : Int) % 16 = ((x % 16 : Nat) : Int) := by omega
      obtain ⟨q, hq⟩ : ∃ q, x / 16 = q := ⟨_, rfl⟩
      obtain ⟨r, hr⟩ : ∃ r, x % 16 = r := ⟨_, rfl⟩
      have hqb : q < 16 := by omega
      have hrb : r < 16 := by omega
      have hx256 : x < 256 := hx
      rw [hq] at hq1 hq3 HS
      rw [hr] at hq2 hq4 HS
      have i0 : (0 : Int) ≤ (t : Int) := by omega
      have i1 : (t : Int) < 32 := by omega
      have w1' : IntKind.i64.wrap ((q : Int) + 1) = (q : Int) + 1 := by rw [IntKind.wrap_i64]; omega
      have w2' : IntKind.i64.wrap ((r : Int) + 1) = (r : Int) + 1 := by rw [IntKind.wrap_i64]; omega
      have sl1 := slice_hex q hqb
      have sl2 := slice_hex r hrb
      have HLN := Lib.hid (Sha.hexs_len S t)
      generalize Sha.hexs S t = z at *
      clear hq hr hx
      go_wp2_with fail
      have hz1 : (str z).size = 2 * t := by rw [str_size]; exact HLN.out
      have hz2 : ¬ 9223372036854775807 < (str z).size + (str [Sha.hexd q]).size := by rw [hz1, str_size]; simp; omega
      have hz3 : ¬ 9223372036854775807 < (str (z ++ [Sha.hexd q])).size + (str [Sha.hexd r]).size := by rw [str_size, str_size, List.length_append, HLN.out]; simp; omega
      have ha1 := str_cat z [Sha.hexd q]
      have ha2 := str_cat (z ++ [Sha.hexd q]) [Sha.hexd r]
      clear hz1
      go_quiet (fail)
      have hbq : Below w1.heap.size w1 (wr.drewN nq) := hb.trans ⟨rfl, rfl, rfl, Nat.le_refl _, fun _ _ => rfl⟩
      have HZ := Lib.hid (show z ++ [Sha.hexd q, Sha.hexd r] = Sha.hexs S (t + 1) by rw [HS.out, List.append_assoc]; rfl)
      rw [HZ.out]
      clear hz2 hz3 ha1 ha2 sl1 sl2 hb
      go_wp2
      go_roundw
      case rel => exact ⟨t + 1, by omega, by go_num, rfl, hbq⟩
      case measure => simp [intOf]; omega
    · have hte : t = 4 := by omega
      subst hte
      go_wp2
      go_ret
      exact ⟨by rw [HN.out]; rfl, h3.trans (hb.mono h3.size)⟩
end Go.Proofs.YtmbpnkacggngkaaGreatDoor
