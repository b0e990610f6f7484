/- THE LOG AS THE DOCUMENT HAS IT: records in sectors, headers; what a call makes of a disk. No program. -/
import Derived.Test.YtgaplcgenlphdaaDiskSpec
import Derived.Test.YtgaplcgenlphdaaCrcSpec
namespace Go.Proofs.Ytgaplcgenlphdaa
open Go.RowKit Mem
namespace Wal

/-! Records in bytes. -/
def le2 (b : List UInt8) : Nat := (b.getD 0 0).toNat + 256 * (b.getD 1 0).toNat
def size (n : Nat) : Nat := (n + 133) / 128
def parse : Nat → List UInt8 → Option (List (List UInt8))
  | 0, _ => some []
  | f + 1, b =>
    if b.length = 0 then some []
    else if 1000 < le2 b ∨ b.length < le2 b + 6 then none
    else if Crc.opens (b.take (le2 b + 6)) = true then (parse f (b.drop (size (le2 b) * 128))).map fun r => (b.take (le2 b + 2)).drop 2 :: r
    else none
def head2 (n : Nat) : List UInt8 := [UInt8.ofNat n, UInt8.ofNat (n / 256)]
/-- A record's bytes, sealed. -/
def sealed (r : List UInt8) : List UInt8 := Crc.seal_ (head2 r.length ++ r)
def chunks : Nat → List UInt8 → List (List UInt8)
  | 0, _ => []
  | f + 1, b => if b.length = 0 then [] else b.take 128 :: chunks f (b.drop 128)
/-- A record's sectors, as they are handed to the disk. -/
def secsOf (r : List UInt8) : List (List UInt8) := chunks 1024 (sealed r)
def sizes (rs : List (List UInt8)) : Nat := (rs.map fun r => size r.length).sum

theorem le2_lt (b : List UInt8) : le2 b < 65536 := by
  unfold le2
  have h1 := (b.getD 0 0).toNat_lt
  have h2 := (b.getD 1 0).toNat_lt
  omega
theorem size_pos (n : Nat) : 1 ≤ size n := by unfold size; omega
theorem size_le {n : Nat} (h : n ≤ 1000) : size n ≤ 8 := by unfold size; omega
theorem size_bound (n : Nat) : n + 6 ≤ size n * 128 ∧ size n * 128 < n + 134 := by unfold size; omega
theorem seal_take (l : List UInt8) : (Crc.seal_ l).take l.length = l := by simp [Crc.seal_]
theorem sealed_length (r : List UInt8) : (sealed r).length = r.length + 6 := by
  unfold sealed
  rw [Crc.seal_length]
  simp [head2]
theorem le2_head (n : Nat) (t : List UInt8) (h : n < 65536) : le2 (head2 n ++ t) = n := by
  unfold le2 head2
  simp
  omega
theorem sealed_eq (r : List UInt8) : ∃ t, sealed r = head2 r.length ++ (r ++ t) ∧ t.length = 4 := ⟨Crc.le4 (Crc.sum (head2 r.length ++ r)), by simp [sealed, Crc.seal_], Crc.le4_length _⟩

/-- 'b' has so many whole sectors. -/
theorem parse_fuel : ∀ (m f f' : Nat) (b : List UInt8), b.length = m * 128 → m ≤ f → m ≤ f' → parse f b = parse f' b
  | m, 0, f', b, hb, hf, _ => by
    have h0 : b.length = 0 := by omega
    cases f' with
    | zero => rfl
    | succ f' => simp [parse, h0]
  | m, f + 1, 0, b, hb, _, hf => by
    have h0 : b.length = 0 := by omega
    simp [parse, h0]
  | m, f + 1, f' + 1, b, hb, hf, hf' => by
    unfold parse
    split
    · rfl
    · split
      · rfl
      · rename_i h0 h1
        split
        · have hs := size_bound (le2 b)
          have hp := size_pos (le2 b)
          congr 1
          exact parse_fuel (m - size (le2 b)) f f' _ (by rw [List.length_drop, hb, Nat.sub_mul]) (by omega) (by omega)
        · rfl
theorem le2_append {a b : List UInt8} (h : 2 ≤ a.length) : le2 (a ++ b) = le2 a := by
  unfold le2
  simp only [List.getD_eq_getElem?_getD]
  rw [List.getElem?_append_left (by omega), List.getElem?_append_left (by omega)]
/-- Records behind records. -/
theorem parse_append : ∀ (m f : Nat) (a : List UInt8) (rs : List (List UInt8)) (b : List UInt8) (m' : Nat), a.length = m * 128 → b.length = m' * 128 → m + m' ≤ f → parse f a = some rs → parse f (a ++ b) = (parse f b).map (rs ++ ·)
  | m, 0, a, rs, b, m', ha, hb, hf, h => by
    simp only [parse, Option.some.injEq] at h
    subst h
    simp [parse]
  | m, f + 1, a, rs, b, m', ha, hb, hf, h => by
    by_cases h0 : a.length = 0
    · have : a = [] := List.eq_nil_of_length_eq_zero h0
      subst this
      simp only [parse, List.length_nil, if_true, Option.some.injEq] at h
      subst h
      simp
    · have hm : 1 ≤ m := by omega
      unfold parse at h
      rw [if_neg h0] at h
      split at h
      · cases h
      · rename_i h1
        split at h
        · rename_i h2
          have hs := size_bound (le2 a)
          have hp := size_pos (le2 a)
          have hle : size (le2 a) ≤ m := by omega
          obtain ⟨rs', h3, rfl⟩ := Option.map_eq_some_iff.1 h
          have e : le2 (a ++ b) = le2 a := le2_append (by omega)
          have hl : (a.drop (size (le2 a) * 128)).length = (m - size (le2 a)) * 128 := by rw [List.length_drop, ha, Nat.sub_mul]
          have ih := parse_append (m - size (le2 a)) f (a.drop (size (le2 a) * 128)) rs' b m' hl hb (by omega) h3
          have n0 : ¬ (a ++ b).length = 0 := by rw [List.length_append]; omega
          have n1 : ¬ (1000 < le2 a ∨ (a ++ b).length < le2 a + 6) := by rw [List.length_append]; omega
          conv => lhs; unfold parse
          rw [e, if_neg n0, if_neg n1, List.take_append_of_le_length (by omega), if_pos h2, List.drop_append_of_le_length (by omega), ih, List.take_append_of_le_length (by omega)]
          rw [parse_fuel m' (f + 1) f b hb (by omega) (by omega)]
          cases parse f b <;> simp
        · cases h
/-- A record's sectors tell it. -/
def padded (r : List UInt8) : List UInt8 := sealed r ++ List.replicate (size r.length * 128 - (r.length + 6)) 0
theorem padded_length (r : List UInt8) : (padded r).length = size r.length * 128 := by
  have := size_bound r.length
  simp [padded, sealed_length]
  omega
theorem parse_one (r : List UInt8) (f : Nat) (h : r.length ≤ 1000) (hf : size r.length ≤ f) : parse f (padded r) = some [r] := by
  have hp := size_pos r.length
  have hl := padded_length r
  have hs := size_bound r.length
  obtain ⟨t, ht, ht4⟩ := sealed_eq r
  have e : le2 (padded r) = r.length := by
    unfold padded
    rw [ht, List.append_assoc]
    exact le2_head _ _ (by omega)
  cases f with
  | zero => omega
  | succ f =>
    have etk : (padded r).take (r.length + 6) = sealed r := by
      unfold padded
      rw [List.take_append_of_le_length (by rw [sealed_length]; omega), List.take_of_length_le (by rw [sealed_length]; omega)]
    have etk2 : (padded r).take (r.length + 2) = head2 r.length ++ r := by
      unfold padded
      rw [List.take_append_of_le_length (by rw [sealed_length]; omega), ht, ← List.append_assoc, List.take_append_of_le_length (by simp [head2])]
      exact List.take_of_length_le (by simp [head2])
    unfold parse
    rw [e, if_neg (by omega), if_neg (by omega), etk, if_pos (show Crc.opens (sealed r) = true from Crc.opens_seal _), etk2, List.drop_of_length_le (l := padded r) (by omega)]
    have hn : parse f ([] : List UInt8) = some [] := by cases f <;> simp [parse]
    rw [hn]
    simp [head2]
theorem parse_nil (f : Nat) : parse f [] = some [] := by cases f <;> simp [parse]
/-- How many sectors records take: just as many as they were read from. -/
theorem parse_sizes : ∀ (m f : Nat) (b : List UInt8) (rs : List (List UInt8)), b.length = m * 128 → m ≤ f → parse f b = some rs → sizes rs = m ∧ ∀ r ∈ rs, r.length ≤ 1000
  | m, 0, b, rs, hb, hf, h => by
    simp only [parse, Option.some.injEq] at h
    subst h
    exact ⟨by simp [sizes]; omega, by simp⟩
  | m, f + 1, b, rs, hb, hf, h => by
    unfold parse at h
    split at h
    · simp only [Option.some.injEq] at h
      subst h
      exact ⟨by simp [sizes]; omega, by simp⟩
    · split at h
      · cases h
      · split at h
        · rename_i h0 h1 h2
          have hs := size_bound (le2 b)
          have hp := size_pos (le2 b)
          have hle : size (le2 b) ≤ m := by omega
          obtain ⟨rs', h3, rfl⟩ := Option.map_eq_some_iff.1 h
          have ih := parse_sizes (m - size (le2 b)) f _ rs' (by rw [List.length_drop, hb, Nat.sub_mul]) (by omega) h3
          have hl : ((b.take (le2 b + 2)).drop 2).length = le2 b := by simp; omega
          refine ⟨?_, ?_⟩
          · have := ih.1
            simp only [sizes, List.map_cons, List.sum_cons, hl] at this ⊢
            omega
          · intro r hr
            rcases List.mem_cons.1 hr with rfl | hr
            · omega
            · exact ih.2 r hr
        · cases h

/-! What the disk makes of a record's chunks. -/
theorem fill_full {l : List UInt8} (h : l.length = 128) : fill l = l := by
  unfold fill
  rw [h]
  simp
  exact List.take_of_length_le (by omega)
theorem chunks_fill : ∀ (f : Nat) (b : List UInt8), b.length ≤ f * 128 → ((chunks f b).map fill).flatten = b ++ List.replicate ((b.length + 127) / 128 * 128 - b.length) 0
  | 0, b, h => by
    have : b = [] := List.eq_nil_of_length_eq_zero (by omega)
    subst this
    simp [chunks]
  | f + 1, b, h => by
    unfold chunks
    split
    · rename_i h0
      have : b = [] := List.eq_nil_of_length_eq_zero h0
      subst this
      simp
    · rename_i h0
      rw [List.map_cons, List.flatten_cons, chunks_fill f (b.drop 128) (by rw [List.length_drop]; omega)]
      by_cases hl : 128 ≤ b.length
      · rw [fill_full (by rw [List.length_take]; omega), ← List.append_assoc, List.take_append_drop, List.length_drop, show (b.length - 128 + 127) / 128 * 128 - (b.length - 128) = (b.length + 127) / 128 * 128 - b.length by omega]
      · have hd : b.drop 128 = [] := List.drop_of_length_le (by omega)
        rw [hd]
        unfold fill
        simp only [List.length_nil]
        rw [List.take_take, List.take_of_length_le (show b.length ≤ min 128 128 by omega), List.length_take, show (b.length + 127) / 128 = 1 by omega, Nat.min_eq_right (show b.length ≤ 128 by omega)]
        simp
theorem chunks_len (f : Nat) (b : List UInt8) (h : b.length ≤ f * 128) : (chunks f b).length = (b.length + 127) / 128 ∧ ∀ c ∈ chunks f b, c.length ≤ 128 := by
  induction f generalizing b with
  | zero =>
    have : b = [] := List.eq_nil_of_length_eq_zero (by omega)
    subst this
    simp [chunks]
  | succ f ih =>
    unfold chunks
    split
    · rename_i h0
      rw [h0]
      simp
    · have h1 := ih (b.drop 128) (by rw [List.length_drop]; omega)
      refine ⟨?_, ?_⟩
      · rw [List.length_cons, h1.1, List.length_drop]
        omega
      · intro c hc
        rcases List.mem_cons.1 hc with rfl | hc
        · rw [List.length_take]
          omega
        · exact h1.2 c hc
theorem secsOf_fill (r : List UInt8) (h : r.length ≤ 1000) : ((secsOf r).map fill).flatten = padded r := by
  unfold secsOf
  rw [chunks_fill _ _ (by rw [sealed_length]; omega)]
  unfold padded
  rw [sealed_length]
  congr 2
theorem secsOf_length (r : List UInt8) (h : r.length ≤ 1000) : (secsOf r).length = size r.length := by
  unfold secsOf
  rw [(chunks_len _ _ (by rw [sealed_length]; omega)).1, sealed_length]
  rfl
theorem secsOf_le (r : List UInt8) (h : r.length ≤ 1000) : ∀ c ∈ secsOf r, c.length ≤ 128 := (chunks_len _ _ (by rw [sealed_length]; omega)).2
end Wal
end Go.Proofs.Ytgaplcgenlphdaa
