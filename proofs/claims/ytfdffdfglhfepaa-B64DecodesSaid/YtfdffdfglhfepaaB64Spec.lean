/- LETTERS AS THE DOCUMENT HAS THEM: bit by bit; no program. -/
import Derived.Test.YtfdffdfglhfepaaMem
namespace Go.Proofs.Ytfdffdfglhfepaa
namespace B64

def bits : Nat → Nat → List Nat
  | 0, _ => []
  | k + 1, n => bits k (n / 2) ++ [n % 2]
def num (l : List Nat) : Nat := l.foldl (fun a b => 2 * a + b) 0
def IsBits (l : List Nat) : Prop := ∀ b ∈ l, b < 2
def groups (k : Nat) (L : List Nat) : List Nat := (List.range (L.length / k)).map fun i => num ((L.drop (i * k)).take k)

theorem bits_length (k n : Nat) : (bits k n).length = k := by
  induction k generalizing n with
  | zero => rfl
  | succ k ih => simp [bits, ih]
theorem bits_is (k n : Nat) : IsBits (bits k n) := by
  induction k generalizing n with
  | zero => intro b hb; simp [bits] at hb
  | succ k ih =>
    intro b hb
    simp only [bits, List.mem_append, List.mem_singleton] at hb
    rcases hb with hb | rfl
    · exact ih _ b hb
    · omega
theorem num_from (l : List Nat) (a : Nat) : l.foldl (fun a b => 2 * a + b) a = a * 2 ^ l.length + num l := by
  induction l generalizing a with
  | nil => simp [num]
  | cons x l ih =>
    unfold num
    simp only [List.foldl_cons, List.length_cons]
    rw [ih, ih (2 * 0 + x), Nat.pow_succ, Nat.add_mul]
    simp only [Nat.mul_zero, Nat.zero_add]
    have : 2 * a * 2 ^ l.length = a * (2 ^ l.length * 2) := by rw [Nat.mul_comm 2 a, Nat.mul_assoc, Nat.mul_comm 2]
    omega
theorem num_append (a b : List Nat) : num (a ++ b) = num a * 2 ^ b.length + num b := by
  unfold num
  rw [List.foldl_append, num_from]
  rfl
theorem num_nil : num [] = 0 := rfl
theorem num_one (x : Nat) : num [x] = x := by simp [num]
theorem num_lt {l : List Nat} (h : IsBits l) : num l < 2 ^ l.length := by
  induction l with
  | nil => simp [num]
  | cons x l ih =>
    have h1 := ih fun b hb => h b (by simp [hb])
    have h2 := h x (by simp)
    rw [show x :: l = [x] ++ l from rfl, num_append, num_one, List.length_append, List.length_singleton, Nat.pow_add]
    have : x * 2 ^ l.length ≤ 1 * 2 ^ l.length := Nat.mul_le_mul_right _ (by omega)
    omega
theorem num_bits (k n : Nat) (h : n < 2 ^ k) : num (bits k n) = n := by
  induction k generalizing n with
  | zero => simp at h; subst h; rfl
  | succ k ih =>
    rw [bits, num_append, ih _ (by rw [Nat.pow_succ] at h; omega), num_one]
    simp
    omega
theorem bits_num {l : List Nat} (h : IsBits l) : bits l.length (num l) = l := by
  obtain ⟨n, hn⟩ : ∃ n, l.length = n := ⟨_, rfl⟩
  induction n generalizing l with
  | zero => rw [List.length_eq_zero_iff] at hn; subst hn; rfl
  | succ n ih =>
    have hne : l ≠ [] := by intro e; subst e; simp at hn
    obtain ⟨m, x, rfl⟩ : ∃ m x, l = m ++ [x] := ⟨l.dropLast, l.getLast hne, (List.dropLast_concat_getLast hne).symm⟩
    have hm : m.length = n := by simp at hn; exact hn
    have hx := h x (by simp)
    have h1 := ih (l := m) (fun b hb => h b (by simp [hb])) hm
    rw [List.length_append, List.length_singleton, bits, num_append, num_one]
    simp only [List.length_singleton, Nat.pow_one]
    rw [show (num m * 2 + x) / 2 = num m by omega, show (num m * 2 + x) % 2 = x by omega, h1]
theorem num_inj {a b : List Nat} (ha : IsBits a) (hb : IsBits b) (hl : a.length = b.length) (h : num a = num b) : a = b := by
  rw [← bits_num ha, ← bits_num hb, hl, h]
theorem IsBits.append {a b : List Nat} (ha : IsBits a) (hb : IsBits b) : IsBits (a ++ b) := fun x hx => by
  rcases List.mem_append.1 hx with h | h
  · exact ha x h
  · exact hb x h
theorem IsBits.left {a b : List Nat} (h : IsBits (a ++ b)) : IsBits a := fun x hx => h x (by simp [hx])
theorem IsBits.right {a b : List Nat} (h : IsBits (a ++ b)) : IsBits b := fun x hx => h x (by simp [hx])
theorem zeros_is (k : Nat) : IsBits (List.replicate k 0) := fun b hb => by
  rw [List.eq_of_mem_replicate hb]
  omega
theorem num_zeros (k : Nat) : num (List.replicate k 0) = 0 := by
  induction k with
  | zero => rfl
  | succ k ih => rw [List.replicate_succ', num_append, ih, num_one]; simp

theorem groups_length (k : Nat) (L : List Nat) : (groups k L).length = L.length / k := by simp [groups]
theorem groups_append {k : Nat} (hk : 0 < k) (a b : List Nat) (m : Nat) (h : a.length = m * k) : groups k (a ++ b) = groups k a ++ groups k b := by
  unfold groups
  have h1 : (a ++ b).length / k = m + b.length / k := by
    rw [List.length_append, h, Nat.add_comm, Nat.add_mul_div_right _ _ hk, Nat.add_comm]
  have h2 : a.length / k = m := by rw [h, Nat.mul_div_cancel _ hk]
  rw [h1, h2, List.range_add, List.map_append, List.map_map]
  congr 1
  · apply List.map_congr_left
    intro i hi
    have hi := List.mem_range.1 hi
    have h3 : (i + 1) * k ≤ m * k := Nat.mul_le_mul_right _ hi
    rw [Nat.add_mul] at h3
    rw [List.drop_append_of_le_length (by omega), List.take_append_of_le_length (by simp; omega)]
  · apply List.map_congr_left
    intro i _
    simp only [Function.comp]
    rw [List.drop_append, List.drop_eq_nil_of_le (by rw [h, Nat.add_mul]; omega), List.nil_append, h, Nat.add_mul, Nat.add_sub_cancel_left]
theorem groups_short {k : Nat} (a : List Nat) (h : a.length < k) : groups k a = [] := by
  unfold groups
  rw [Nat.div_eq_of_lt h]
  rfl
theorem groups_one {k : Nat} (hk : 0 < k) (a : List Nat) (h : a.length = k) : groups k a = [num a] := by
  unfold groups
  rw [h, Nat.div_self hk, show (List.range 1) = [0] from rfl]
  simp [← h]
theorem groups_push {k : Nat} (hk : 0 < k) (a q : List Nat) (m : Nat) (h : a.length = m * k) (hq : q.length = k) : groups k (a ++ q) = groups k a ++ [num q] := by
  rw [groups_append hk a q m h, groups_one hk q hq]
/-- Groups are told apart: whole groups of bits. -/
theorem groups_inj {k : Nat} (hk : 0 < k) : ∀ (m : Nat) (a b : List Nat), IsBits a → IsBits b → a.length = m * k → b.length = m * k → groups k a = groups k b → a = b
  | 0, a, b, _, _, ha, hb, _ => by
    rw [Nat.zero_mul, List.length_eq_zero_iff] at ha hb
    rw [ha, hb]
  | m + 1, a, b, ia, ib, ha, hb, h => by
    rw [Nat.add_mul, Nat.one_mul] at ha hb
    have sa : a = a.take (m * k) ++ a.drop (m * k) := (List.take_append_drop _ _).symm
    have sb : b = b.take (m * k) ++ b.drop (m * k) := (List.take_append_drop _ _).symm
    have la : (a.take (m * k)).length = m * k := by simp; omega
    have lb : (b.take (m * k)).length = m * k := by simp; omega
    have da : (a.drop (m * k)).length = k := by simp; omega
    have db : (b.drop (m * k)).length = k := by simp; omega
    rw [sa] at ia
    rw [sb] at ib
    rw [sa, sb, groups_push hk _ _ m la da, groups_push hk _ _ m lb db] at h
    have h2 := List.append_inj h (by rw [groups_length, groups_length, la, lb])
    have e1 := groups_inj hk m _ _ ia.left ib.left la lb h2.1
    have e2 := num_inj ia.right ib.right (da.trans db.symm) (by simpa using h2.2)
    rw [sa, sb, e1, e2]

def pad (L : List Nat) : List Nat := L ++ List.replicate ((6 - L.length % 6) % 6) 0
def bitsAll (l : List UInt8) : List Nat := l.flatMap fun c => bits 8 c.toNat
def alphabet : List UInt8 := [65, 66, 67, 68, 69, 70, 71, 72, 73, 74, 75, 76, 77, 78, 79, 80, 81, 82, 83, 84, 85, 86, 87, 88, 89, 90, 97, 98, 99, 100, 101, 102, 103, 104, 105, 106, 107, 108, 109, 110, 111, 112, 113, 114, 115, 116, 117, 118, 119, 120, 121, 122, 48, 49, 50, 51, 52, 53, 54, 55, 56, 57, 45, 95]
def lett (n : Nat) : UInt8 := alphabet.getD n 63
def enc (l : List UInt8) : List UInt8 := (groups 6 (pad (bitsAll l))).map lett
/-- A letter's number. -/
def val (c : UInt8) : Option Nat :=
  if 65 ≤ c.toNat ∧ c.toNat ≤ 90 then some (c.toNat - 65) else if 97 ≤ c.toNat ∧ c.toNat ≤ 122 then some (c.toNat - 97 + 26)
  else if 48 ≤ c.toNat ∧ c.toNat ≤ 57 then some (c.toNat - 48 + 52) else if c.toNat = 45 then some 62 else if c.toNat = 95 then some 63 else none
def allB {α : Type} (f : α → Bool) (l : List α) : Bool := l.all f
theorem val_lett : ∀ n, n < 64 → val (lett n) = some n := by decide +kernel
theorem val_some {c : UInt8} {n : Nat} (h : val c = some n) : n < 64 ∧ lett n = c := by
  have key : ∀ k, k < 256 → ∀ n, val (UInt8.ofNat k) = some n → n < 64 ∧ lett n = UInt8.ofNat k := by
    have : (List.range 256).all (fun k => match val (UInt8.ofNat k) with | some n => decide (n < 64) && lett n == UInt8.ofNat k | none => true) = true := by decide +kernel
    intro k hk n hn
    have h1 := List.all_eq_true.1 this k (List.mem_range.2 hk)
    rw [hn] at h1
    simpa using h1
  have := key c.toNat c.toNat_lt n (by rw [UInt8.ofNat_toNat]; exact h)
  rw [UInt8.ofNat_toNat] at this
  exact this
theorem lett_inj {a b : Nat} (ha : a < 64) (hb : b < 64) (h : lett a = lett b) : a = b := by
  have h1 := val_lett a ha
  rw [h, val_lett b hb] at h1
  injection h1 with h1
  exact h1.symm
def vals (s : List UInt8) : List Nat := s.flatMap fun c => bits 6 ((val c).getD 0)
def valid (s : List UInt8) : Bool := s.all fun c => (val c).isSome
def bytes (L : List Nat) : List UInt8 := (groups 8 L).map UInt8.ofNat
def dec (s : List UInt8) : Option (List UInt8) := if valid s then (if enc (bytes (vals s)) = s then some (bytes (vals s)) else none) else none

theorem bitsAll_is (l : List UInt8) : IsBits (bitsAll l) := fun b hb => by
  obtain ⟨c, _, hc⟩ := List.mem_flatMap.1 hb
  exact bits_is _ _ b hc
theorem vals_is (l : List UInt8) : IsBits (vals l) := fun b hb => by
  obtain ⟨c, _, hc⟩ := List.mem_flatMap.1 hb
  exact bits_is _ _ b hc
theorem bitsAll_length (l : List UInt8) : (bitsAll l).length = l.length * 8 := by
  induction l with
  | nil => rfl
  | cons c l ih =>
    have : bitsAll (c :: l) = bits 8 c.toNat ++ bitsAll l := rfl
    rw [this, List.length_append, bits_length, ih, List.length_cons]
    omega
theorem vals_length (l : List UInt8) : (vals l).length = l.length * 6 := by
  induction l with
  | nil => rfl
  | cons c l ih =>
    have : vals (c :: l) = bits 6 ((val c).getD 0) ++ vals l := rfl
    rw [this, List.length_append, bits_length, ih, List.length_cons]
    omega
theorem bitsAll_append (a b : List UInt8) : bitsAll (a ++ b) = bitsAll a ++ bitsAll b := by simp [bitsAll]
theorem vals_append (a b : List UInt8) : vals (a ++ b) = vals a ++ vals b := by simp [vals]
theorem pad_length (L : List Nat) : ∃ m, (pad L).length = m * 6 ∧ m = (L.length + 5) / 6 := by
  refine ⟨(L.length + 5) / 6, ?_, rfl⟩
  simp [pad]
  omega
theorem pad_is {L : List Nat} (h : IsBits L) : IsBits (pad L) := h.append (zeros_is _)
/-- Whole bytes' bits give these bytes. -/
theorem bytes_bitsAll (l : List UInt8) : bytes (bitsAll l) = l := by
  induction l with
  | nil => rfl
  | cons c l ih =>
    have : bitsAll (c :: l) = bits 8 c.toNat ++ bitsAll l := rfl
    unfold bytes at ih ⊢
    rw [this, groups_append (by omega) _ _ 1 (by rw [bits_length]), groups_one (by omega) _ (bits_length _ _), num_bits _ _ (by have := c.toNat_lt; omega), List.map_append, ih]
    simp
/-- Whole groups of eight bits, made bytes and bits again. -/
theorem bitsAll_bytes : ∀ (m : Nat) (A : List Nat), IsBits A → A.length = m * 8 → bitsAll (bytes A) = A
  | 0, A, _, h => by
    rw [Nat.zero_mul, List.length_eq_zero_iff] at h
    subst h
    rfl
  | m + 1, A, hA, h => by
    rw [Nat.add_mul, Nat.one_mul] at h
    have sa : A = A.take (m * 8) ++ A.drop (m * 8) := (List.take_append_drop _ _).symm
    have la : (A.take (m * 8)).length = m * 8 := by simp; omega
    have da : (A.drop (m * 8)).length = 8 := by simp; omega
    rw [sa] at hA
    have ih := bitsAll_bytes m _ hA.left la
    have hlt := num_lt hA.right
    rw [da] at hlt
    have hb : bits 8 (num (A.drop (m * 8))) = A.drop (m * 8) := by
      have := bits_num hA.right
      rw [da] at this
      exact this
    have e : bytes A = bytes (A.take (m * 8)) ++ [UInt8.ofNat (num (A.drop (m * 8)))] := by
      unfold bytes
      rw [← List.map_singleton, ← List.map_append, ← groups_push (by omega) _ _ m la da, ← sa]
    rw [e, bitsAll_append, ih]
    have : bitsAll [UInt8.ofNat (num (A.drop (m * 8)))] = A.drop (m * 8) := by
      unfold bitsAll
      simp only [List.flatMap_cons, List.flatMap_nil, List.append_nil]
      rw [UInt8.toNat_ofNat_of_lt' (by exact hlt), hb]
    rw [this, ← sa]
/-- Letters' numbers. -/
theorem groups_vals (s : List UInt8) (h : valid s = true) : (groups 6 (vals s)).map lett = s := by
  induction s with
  | nil => rfl
  | cons c s ih =>
    unfold valid at h ih
    rw [List.all_cons, Bool.and_eq_true] at h
    obtain ⟨n, hn⟩ := Option.isSome_iff_exists.1 h.1
    obtain ⟨h1, h2⟩ := val_some hn
    have : vals (c :: s) = bits 6 n ++ vals s := by
      show bits 6 ((val c).getD 0) ++ vals s = _
      rw [hn]
      rfl
    rw [this, groups_append (by omega) _ _ 1 (by rw [bits_length]), groups_one (by omega) _ (bits_length _ _), num_bits _ _ (by omega), List.map_append, ih h.2]
    simp [h2]
theorem groups_lt {k : Nat} {L : List Nat} (h : IsBits L) : ∀ n ∈ groups k L, n < 2 ^ k := fun n hn => by
  unfold groups at hn
  obtain ⟨i, _, rfl⟩ := List.mem_map.1 hn
  have h1 : IsBits ((L.drop (i * k)).take k) := fun b hb => h b (List.mem_of_mem_drop (List.mem_of_mem_take hb))
  refine Nat.lt_of_lt_of_le (num_lt h1) (Nat.pow_le_pow_right (by omega) ?_)
  simp
  omega
theorem map_lett_inj {a b : List Nat} (ha : ∀ n ∈ a, n < 64) (hb : ∀ n ∈ b, n < 64) (h : a.map lett = b.map lett) : a = b := by
  induction a generalizing b with
  | nil => cases b with
    | nil => rfl
    | cons => simp at h
  | cons x a ih => cases b with
    | nil => simp at h
    | cons y b =>
      simp only [List.map_cons, List.cons.injEq] at h
      rw [lett_inj (ha x (by simp)) (hb y (by simp)) h.1, ih (fun n hn => ha n (by simp [hn])) (fun n hn => hb n (by simp [hn])) h.2]
theorem enc_valid (l : List UInt8) : valid (enc l) = true := by
  unfold valid enc
  rw [List.all_map, List.all_eq_true]
  intro n hn
  have := groups_lt (pad_is (bitsAll_is l)) n hn
  simp only [Function.comp]
  rw [val_lett n (by omega)]
  rfl
theorem vals_map : ∀ (L : List Nat), (∀ n ∈ L, n < 64) → vals (L.map lett) = L.flatMap (bits 6)
  | [], _ => rfl
  | n :: L, h => by
    show bits 6 ((val (lett n)).getD 0) ++ vals (L.map lett) = _
    rw [val_lett n (h n (by simp)), vals_map L fun m hm => h m (by simp [hm])]
    rfl
theorem flat_groups {k : Nat} (hk : 0 < k) : ∀ (m : Nat) (A : List Nat), IsBits A → A.length = m * k → (groups k A).flatMap (bits k) = A
  | 0, A, _, h => by
    rw [Nat.zero_mul, List.length_eq_zero_iff] at h
    subst h
    unfold groups
    simp
  | m + 1, A, hA, h => by
    rw [Nat.add_mul, Nat.one_mul] at h
    have sa : A = A.take (m * k) ++ A.drop (m * k) := (List.take_append_drop _ _).symm
    have la : (A.take (m * k)).length = m * k := by simp; omega
    have da : (A.drop (m * k)).length = k := by simp; omega
    rw [sa] at hA
    have ih := flat_groups hk m _ hA.left la
    have hb := bits_num hA.right
    rw [da] at hb
    rw [sa, groups_push hk _ _ m la da, List.flatMap_append, ih]
    simp [hb]
theorem vals_enc (l : List UInt8) : vals (enc l) = pad (bitsAll l) := by
  obtain ⟨m, hm, _⟩ := pad_length (bitsAll l)
  unfold enc
  rw [vals_map _ (fun n hn => by have := groups_lt (pad_is (bitsAll_is l)) n hn; omega), flat_groups (by omega) m _ (pad_is (bitsAll_is l)) hm]
/-- What stands behind the whole bytes is under eight bits: it plays no part. -/
theorem bytes_tail (A P : List Nat) (m : Nat) (hA : A.length = m * 8) (hP : P.length < 8) : bytes (A ++ P) = bytes A := by
  unfold bytes
  rw [groups_append (by omega) A P m hA, groups_short P hP, List.append_nil]
theorem dec_enc (l : List UInt8) : dec (enc l) = some l := by
  have h : bytes (vals (enc l)) = l := by
    rw [vals_enc]
    unfold pad
    rw [bytes_tail _ _ _ (bitsAll_length l) (by simp; omega), bytes_bitsAll]
  unfold dec
  rw [if_pos (enc_valid l), h, if_pos rfl]
/-- THE DOCUMENT's TEST is the program's: what is behind the whole bytes is under six bits, all nought. -/
theorem enc_iff (s : List UInt8) (hv : valid s = true) (A P : List Nat) (m : Nat) (hs : vals s = A ++ P) (hA : A.length = m * 8) (hP : P.length < 8) :
    enc (bytes A) = s ↔ P.length < 6 ∧ num P = 0 := by
  have hbits := vals_is s
  have hlen := vals_length s
  rw [hs] at hbits hlen
  rw [List.length_append] at hlen
  have hbA : bitsAll (bytes A) = A := bitsAll_bytes m A hbits.left hA
  constructor
  · intro h
    have h1 := vals_enc (bytes A)
    rw [h, hs, hbA] at h1
    unfold pad at h1
    have h2 := List.append_cancel_left h1
    rw [h2]
    refine ⟨by simp; omega, num_zeros _⟩
  · rintro ⟨h1, h2⟩
    have hz : P = List.replicate P.length 0 := num_inj hbits.right (zeros_is _) (by simp) (by rw [h2, num_zeros])
    have hp : pad A = A ++ P := by
      unfold pad
      rw [show (6 - A.length % 6) % 6 = P.length by omega, ← hz]
    unfold enc
    rw [hbA, hp, ← hs]
    exact groups_vals s hv
theorem enc_length (l : List UInt8) : (enc l).length = (l.length * 8 + 5) / 6 := by
  obtain ⟨m, h1, h2⟩ := pad_length (bitsAll l)
  unfold enc
  rw [List.length_map, groups_length, h1, Nat.mul_div_cancel _ (by omega), h2, bitsAll_length]
theorem enc_append (a b : List UInt8) (h : a.length % 3 = 0) : enc (a ++ b) = enc a ++ enc b := by
  have hl := bitsAll_length a
  have hz : (6 - (bitsAll a).length % 6) % 6 = 0 := by rw [hl]; omega
  have hm : (bitsAll a).length = (a.length * 8 / 6) * 6 := by rw [hl]; omega
  have h1 : pad (bitsAll a) = bitsAll a := by unfold pad; rw [hz]; simp
  have h2 : pad (bitsAll (a ++ b)) = bitsAll a ++ pad (bitsAll b) := by
    unfold pad
    rw [bitsAll_append, List.append_assoc]
    congr 3
    rw [List.length_append]
    omega
  unfold enc
  rw [h2, h1, groups_append (by omega) _ _ _ hm, List.map_append]
end B64
end Go.Proofs.Ytfdffdfglhfepaa
