/- THE PLAIN LAW OF CHECK SUMS: numbers and lists alone, no program. -/
import Derived.Laws.BitsAllLaws
import Derived.Laws.Bits64
import Derived.Laws.BitsLemmas
import Derived.Laws.Entries
namespace Go.Proofs.Ytgaplcgenlphdaa
namespace Crc
def poly : Nat := 3988292384
def half (s : Nat) : Nat := if s % 2 = 1 then (s / 2) ^^^ poly else s / 2
def rounds : Nat → Nat → Nat
  | 0, s => s
  | k + 1, s => half (rounds k s)
def step (s c : Nat) : Nat := rounds 8 (s ^^^ c)
def run (l : List UInt8) (s : Nat) : Nat := l.foldl (fun s c => step s c.toNat) s
def sum (l : List UInt8) : Nat := 4294967295 - run l 4294967295

theorem half_lt {s : Nat} (h : s < 4294967296) : half s < 4294967296 := by
  unfold half poly
  split
  · exact Nat.xor_lt_two_pow (n := 32) (by omega) (by omega)
  · omega
theorem rounds_lt {s : Nat} (h : s < 4294967296) : ∀ k, rounds k s < 4294967296
  | 0 => h
  | k + 1 => half_lt (rounds_lt h k)
theorem step_lt {s c : Nat} (h : s < 4294967296) (hc : c < 256) : step s c < 4294967296 :=
  rounds_lt (Nat.xor_lt_two_pow (n := 32) (by omega) (by omega)) 8
theorem run_lt : ∀ (l : List UInt8) {s : Nat}, s < 4294967296 → run l s < 4294967296
  | [], _, h => h
  | c :: l, s, h => by
    have hc : c.toNat < 256 := c.toNat_lt
    exact run_lt l (s := step s c.toNat) (step_lt h hc)
theorem run_snoc (l : List UInt8) (c : UInt8) (s : Nat) : run (l ++ [c]) s = step (run l s) c.toNat := by
  simp [run]
theorem sum_lt (l : List UInt8) : sum l < 4294967296 := by
  unfold sum; omega

/-- one place of an odd number's polynomial: 'half' parts odd from even by the highest bit -/
theorem half_inj {a b : Nat} (ha : a < 4294967296) (hb : b < 4294967296) (h : half a = half b) : a = b := by
  have top : ∀ x : Nat, x < 2147483648 → (x ^^^ poly).testBit 31 = true := by
    intro x hx
    rw [Nat.testBit_xor, Nat.testBit_lt_two_pow (show x < 2 ^ 31 by omega)]
    decide
  have low : ∀ x : Nat, x < 2147483648 → x.testBit 31 = false := fun x hx => Nat.testBit_lt_two_pow (show x < 2 ^ 31 by omega)
  have xi : ∀ x y : Nat, x ^^^ poly = y ^^^ poly → x = y := by
    intro x y e
    have := congrArg (· ^^^ poly) e
    simpa [Nat.xor_assoc] using this
  unfold half at h
  by_cases h1 : a % 2 = 1 <;> by_cases h2 : b % 2 = 1
  · rw [if_pos h1, if_pos h2] at h
    have := xi _ _ h
    omega
  · rw [if_pos h1, if_neg h2] at h
    have t := top (a / 2) (by omega)
    rw [h, low _ (by omega)] at t
    cases t
  · rw [if_neg h1, if_pos h2] at h
    have t := top (b / 2) (by omega)
    rw [← h, low _ (by omega)] at t
    cases t
  · rw [if_neg h1, if_neg h2] at h
    omega
theorem rounds_inj {a b : Nat} (ha : a < 4294967296) (hb : b < 4294967296) : ∀ k, rounds k a = rounds k b → a = b
  | 0, h => h
  | k + 1, h => rounds_inj ha hb k (half_inj (rounds_lt ha k) (rounds_lt hb k) h)
theorem xor_lt32 {s c : Nat} (h : s < 4294967296) (hc : c < 256) : s ^^^ c < 4294967296 := Nat.xor_lt_two_pow (n := 32) (by omega) (by omega)
theorem xor_inj_right {a b c : Nat} (h : a ^^^ c = b ^^^ c) : a = b := by
  have := congrArg (· ^^^ c) h
  simpa [Nat.xor_assoc] using this
theorem xor_inj_left {a b c : Nat} (h : c ^^^ a = c ^^^ b) : a = b := by
  rw [Nat.xor_comm c a, Nat.xor_comm c b] at h
  exact xor_inj_right h
theorem step_inj_state {a b c : Nat} (ha : a < 4294967296) (hb : b < 4294967296) (hc : c < 256) (h : step a c = step b c) : a = b :=
  xor_inj_right (rounds_inj (xor_lt32 ha hc) (xor_lt32 hb hc) 8 h)
theorem step_inj_byte {s c d : Nat} (hs : s < 4294967296) (hc : c < 256) (hd : d < 256) (h : step s c = step s d) : c = d :=
  xor_inj_left (rounds_inj (xor_lt32 hs hc) (xor_lt32 hs hd) 8 h)
theorem run_inj : ∀ (l : List UInt8) {a b : Nat}, a < 4294967296 → b < 4294967296 → run l a = run l b → a = b
  | [], _, _, _, _, h => h
  | c :: l, a, b, ha, hb, h => by
    have hc : c.toNat < 256 := c.toNat_lt
    exact step_inj_state ha hb hc (run_inj l (step_lt ha hc) (step_lt hb hc) h)
theorem sum_inj_run {a b : List UInt8} (h : sum a = sum b) : run a 4294967295 = run b 4294967295 := by
  have := run_lt a (s := 4294967295) (by omega)
  have := run_lt b (s := 4294967295) (by omega)
  unfold sum at h
  omega
/-- one byte that is another one: another sum -/
theorem sum_set_ne (l : List UInt8) (k : Nat) (c : UInt8) (hk : k < l.length) (h : sum (l.set k c) = sum l) : l[k] = c := by
  have e := sum_inj_run h
  have hs : l.set k c = l.take k ++ c :: l.drop (k + 1) := List.set_eq_take_append_cons_drop .. |>.trans (by rw [if_pos hk])
  have hl : l = l.take k ++ l[k] :: l.drop (k + 1) := by
    rw [List.getElem_cons_drop, List.take_append_drop]
  have r : ∀ (x : UInt8), run (l.take k ++ x :: l.drop (k + 1)) 4294967295 = run (l.drop (k + 1)) (step (run (l.take k) 4294967295) x.toNat) := by
    intro x
    simp [run]
  rw [hs, r] at e
  have e2 : run l 4294967295 = run (l.drop (k + 1)) (step (run (l.take k) 4294967295) l[k].toNat) := by
    conv => lhs; rw [hl]
    exact r _
  rw [e2] at e
  have h0 := run_lt (l.take k) (s := 4294967295) (by omega)
  have hc : c.toNat < 256 := c.toNat_lt
  have hd : l[k].toNat < 256 := (l[k]).toNat_lt
  have e3 := step_inj_byte h0 hc hd (run_inj _ (step_lt h0 hc) (step_lt h0 hd) e)
  exact (UInt8.toNat_inj.1 e3).symm

/-- four bytes, the lowest first -/
def le4 (n : Nat) : List UInt8 := [UInt8.ofNat (n % 256), UInt8.ofNat (n / 256 % 256), UInt8.ofNat (n / 65536 % 256), UInt8.ofNat (n / 16777216 % 256)]
theorem le4_length (n : Nat) : (le4 n).length = 4 := rfl
theorem ofNat_inj {a b : Nat} (ha : a < 256) (hb : b < 256) (h : UInt8.ofNat a = UInt8.ofNat b) : a = b := by
  have := congrArg UInt8.toNat h
  simp at this
  omega
theorem le4_inj {a b : Nat} (ha : a < 4294967296) (hb : b < 4294967296) (h : le4 a = le4 b) : a = b := by
  simp only [le4, List.cons.injEq, and_true] at h
  obtain ⟨h1, h2, h3, h4⟩ := h
  have e1 := ofNat_inj (by omega) (by omega) h1
  have e2 := ofNat_inj (by omega) (by omega) h2
  have e3 := ofNat_inj (by omega) (by omega) h3
  have e4 := ofNat_inj (by omega) (by omega) h4
  omega
def seal_ (l : List UInt8) : List UInt8 := l ++ le4 (sum l)
theorem seal_length (l : List UInt8) : (seal_ l).length = l.length + 4 := by simp [seal_, le4_length]
/-- what 'Open' tells: the data, or none -/
def opens (l : List UInt8) : Bool := decide (4 ≤ l.length) && (seal_ (l.take (l.length - 4)) == l)
theorem opens_seal (l : List UInt8) : opens (seal_ l) = true := by
  simp [opens, seal_length]
  simp [seal_]
theorem opens_set (l : List UInt8) (k : Nat) (c : UInt8) (hk : k < (seal_ l).length) (hc : (seal_ l)[k] ≠ c) : opens ((seal_ l).set k c) = false := by
  have hlen := seal_length l
  simp only [opens, List.length_set, hlen, Nat.add_sub_cancel, Bool.and_eq_false_imp]
  intro _
  rw [beq_eq_false_iff_ne]
  intro e
  by_cases h : k < l.length
  · have ht : ((seal_ l).set k c).take l.length = l.set k c := by
      simp [seal_, h]
    have hd : ((seal_ l).set k c).drop l.length = le4 (sum l) := by
      simp [seal_, h]
    rw [ht] at e
    have e2 := congrArg (List.drop l.length) e
    rw [hd] at e2
    have e3 : le4 (sum (l.set k c)) = le4 (sum l) := by
      rw [← e2]; simp [seal_]
    have := sum_set_ne l k c h (le4_inj (sum_lt _) (sum_lt _) e3)
    apply hc
    rw [← this]
    simp [seal_, h]
  · have ht : ((seal_ l).set k c).take l.length = l := by
      simp [seal_, List.set_append, h]
    rw [ht] at e
    have e2 : (seal_ l)[k] = ((seal_ l).set k c)[k]'(by simpa using hk) := by
      congr 1
    rw [List.getElem_set_self] at e2
    exact hc e2

/-! The walks' own spelling. -/
theorem and1_u32 (x : Nat) (hx : x < 4294967296) : bits .and .u32 (x : Int) 1 = ((x % 2 : Nat) : Int) := by
  have h := u32_and_nat x 1 (by omega) (by omega)
  rw [Nat.and_one_is_mod] at h
  exact h
theorem poly_and (m : Nat) (hm : m = 0 ∨ m = 4294967295) : bits .and .u32 3988292384 (m : Int) = if m = 0 then 0 else 3988292384 := by
  have h := u32_and_nat 3988292384 m (by omega) (by omega)
  rcases hm with rfl | rfl
  · simpa using h
  · simpa using h
theorem half_u32 (x : Nat) (hx : x < 4294967296) :
    bits .xor .u32 ((x : Int) / 2) (bits .and .u32 3988292384 (-bits .and .u32 (x : Int) 1 % 4294967296)) = ((half x : Nat) : Int) := by
  rw [and1_u32 x hx]
  have e2 : (x : Int) / 2 = ((x / 2 : Nat) : Int) := by omega
  unfold half
  by_cases h : x % 2 = 1
  · have e1 : (-((x % 2 : Nat) : Int)) % 4294967296 = ((4294967295 : Nat) : Int) := by rw [h]; rfl
    rw [e1, poly_and _ (.inr rfl), if_neg (by omega), if_pos h, e2]
    exact u32_xor_nat (x / 2) 3988292384 (by omega) (by omega)
  · have e1 : (-((x % 2 : Nat) : Int)) % 4294967296 = ((0 : Nat) : Int) := by rw [show x % 2 = 0 by omega]; rfl
    rw [e1, poly_and _ (.inl rfl), if_pos rfl, if_neg h, e2]
    have := u32_xor_nat (x / 2) 0 (by omega) (by omega)
    simpa using this
theorem not_u32 (x : Nat) (hx : x < 4294967296) : (4294967295 : Int) - x = ((4294967295 - x : Nat) : Int) := by omega
theorem xor_i64 (a b : Nat) (ha : a < 4294967296) (hb : b < 4294967296) : bits .xor .i64 (a : Int) (b : Int) = ((a ^^^ b : Nat) : Int) := by
  have hx : a ^^^ b < 2 ^ 32 := Nat.xor_lt_two_pow (by omega) (by omega)
  have ofi : ∀ a : Nat, a < 4294967296 → (BitVec.ofInt 64 (a : Int)).toNat = a := fun a ha => by
    rw [BitVec.ofInt_natCast, BitVec.toNat_ofNat]
    exact Nat.mod_eq_of_lt (by omega)
  show IntKind.i64.wrap ((BitVec.ofInt 64 (a : Int) ^^^ BitVec.ofInt 64 (b : Int)).toNat : Int) = _
  rw [BitVec.toNat_xor, ofi a ha, ofi b hb, IntKind.wrap_i64]
  omega
theorem ones_xor (x : Nat) (hx : x < 4294967296) : 4294967295 ^^^ x = 4294967295 - x := by
  have h : (BitVec.allOnes 32 ^^^ BitVec.ofNat 32 x).toNat = (~~~ BitVec.ofNat 32 x).toNat := by rw [BitVec.allOnes_xor]
  rw [BitVec.toNat_xor, BitVec.toNat_not, BitVec.toNat_allOnes, BitVec.toNat_ofNat, Nat.mod_eq_of_lt (by omega)] at h
  simpa using h
theorem final_u32 (x : Nat) (hx : x < 4294967296) : bits .xor .u32 IntKind.u32.max (x : Int) = ((4294967295 - x : Nat) : Int) := by
  have h := u32_xor_nat 4294967295 x (by omega) hx
  rw [ones_xor x hx] at h
  exact h
theorem half_odd (x : Nat) (hx : x < 4294967296) (h : ((x : Int) % 2 == 1) = true) : bits .xor .i64 ((x : Int) / 2) 3988292384 = ((half x : Nat) : Int) := by
  have h1 : x % 2 = 1 := by have := beq_iff_eq.1 h; omega
  unfold half
  rw [if_pos h1, show (x : Int) / 2 = ((x / 2 : Nat) : Int) by omega]
  exact xor_i64 (x / 2) 3988292384 (by omega) (by omega)
theorem half_even (x : Nat) (h : ((x : Int) % 2 == 1) = false) : (x : Int) / 2 = ((half x : Nat) : Int) := by
  have h1 : ¬ x % 2 = 1 := by have := beq_eq_false_iff_ne.1 h; omega
  unfold half
  rw [if_neg h1]
  omega
end Crc
end Go.Proofs.Ytgaplcgenlphdaa
