/- THE REFERENCE'S SHA, plainly: what its code computes, of 32 bits. -/
import Derived.WalkKit
import Derived.RowKit
namespace Go.Proofs.YtgalhnobckoneaaGreatDoor
namespace Sha
open Go.RowKit

/-! numbers as digits of 65536 -/
def mulIn (a b : List Int) (i : Nat) (out : List Int) : Nat → List Int × Int
  | 0 => (out, 0)
  | j + 1 =>
    let q := mulIn a b i out j
    let v := wrap64 (wrap64 (q.1.getD (i + j) 0 + wrap64 (a.getD i 0 * b.getD j 0)) + q.2)
    (q.1.set (i + j) (v.tmod 65536), wrap64 (v.tdiv 65536))
def mulOut (a b : List Int) : Nat → List Int
  | 0 => List.replicate (a.length + b.length) 0
  | i + 1 =>
    let q := mulIn a b i (mulOut a b i) b.length
    q.1.set (i + b.length) (wrap64 (q.1.getD (i + b.length) 0 + q.2))
def mul (a b : List Int) : List Int := mulOut a b a.length
theorem mulIn_len (a b : List Int) (i : Nat) (out : List Int) : ∀ j, (mulIn a b i out j).1.length = out.length
  | 0 => rfl
  | j + 1 => by
    simp only [mulIn, List.length_set]
    exact mulIn_len a b i out j
theorem mulOut_len (a b : List Int) : ∀ i, (mulOut a b i).length = a.length + b.length
  | 0 => by simp [mulOut]
  | i + 1 => by
    simp only [mulOut, List.length_set, mulIn_len]
    exact mulOut_len a b i
theorem mul_len (a b : List Int) : (mul a b).length = a.length + b.length := mulOut_len a b _
def lessFrom (a b : List Int) : Nat → Bool
  | 0 => false
  | i + 1 => if a.getD i 0 = b.getD i 0 then lessFrom a b i else decide (a.getD i 0 < b.getD i 0)
def less (a b : List Int) : Bool := lessFrom a b (max a.length b.length)
def dbl : Nat → Int
  | 0 => 1
  | j + 1 => wrap64 (2 * dbl j)
def target (p : Int) (k : Nat) : List Int := (List.replicate (4 * k + 1) 0).set (4 * k) p
def power (k : Nat) (x : List Int) : List Int := if k = 3 then mul (mul x x) x else mul x x
def rootStep (p : Int) (k bit : Nat) (x : List Int) : List Int :=
  let x1 := x.set (bit / 16) (wrap64 (x.getD (bit / 16) 0 + dbl (bit % 16)))
  if less (target p k) (power k x1) then x1.set (bit / 16) (wrap64 (x1.getD (bit / 16) 0 - dbl (bit % 16))) else x1
/-- Behind t of 69 steps. -/
def rootX (p : Int) (k : Nat) : Nat → List Int
  | 0 => [0, 0, 0, 0, 0]
  | t + 1 => rootStep p k (68 - t) (rootX p k t)
theorem rootStep_len (p : Int) (k bit : Nat) (x : List Int) : (rootStep p k bit x).length = x.length := by
  unfold rootStep
  simp only []
  split <;> simp
theorem rootX_len (p : Int) (k : Nat) : ∀ t, (rootX p k t).length = 5
  | 0 => rfl
  | t + 1 => by rw [rootX, rootStep_len, rootX_len p k t]
def rootSum (x : List Int) : Int :=
  IntKind.u64.wrap (IntKind.u64.wrap (IntKind.u64.wrap (IntKind.u64.wrap (x.getD 0 0) + IntKind.u64.wrap (IntKind.u64.wrap (x.getD 1 0) * 65536)) + IntKind.u64.wrap (IntKind.u64.wrap (x.getD 2 0) * 4294967296)) + IntKind.u64.wrap (IntKind.u64.wrap (x.getD 3 0) * 281474976710656))
theorem u64_range (x : Int) : 0 ≤ IntKind.u64.wrap x ∧ IntKind.u64.wrap x < 18446744073709551616 := by
  rw [IntKind.wrap_u64]
  omega
def root (p : Int) (k : Nat) : Nat := (rootSum (rootX p k 69)).toNat
theorem root_cast (p : Int) (k : Nat) : ((root p k : Nat) : Int) = rootSum (rootX p k 69) := Int.toNat_of_nonneg (u64_range _).1
theorem root_lt (p : Int) (k : Nat) : root p k < 18446744073709551616 := by
  have h := root_cast p k
  have h2 : rootSum (rootX p k 69) < 18446744073709551616 := (u64_range _).2
  omega

/-! primes -/
def pstep (L : List Nat) (k : Nat) : List Nat := if L.all (fun p => k % p != 0) then L ++ [k] else L
def pr : Nat → List Nat
  | 0 => []
  | t + 1 => pstep (pr t) (t + 2)
theorem pstep_len (L : List Nat) (k : Nat) : L.length ≤ (pstep L k).length ∧ (pstep L k).length ≤ L.length + 1 := by
  unfold pstep
  split <;> simp
theorem pr_mono : ∀ {s t : Nat}, s ≤ t → (pr s).length ≤ (pr t).length
  | s, 0, h => by rw [Nat.le_zero.1 h]; exact Nat.le_refl _
  | s, t + 1, h => by
    rcases Nat.lt_or_ge s (t + 1) with h1 | h1
    · exact Nat.le_trans (pr_mono (Nat.le_of_lt_succ h1)) (pstep_len _ _).1
    · rw [Nat.le_antisymm h h1]; exact Nat.le_refl _
theorem pr_407 : (pr 407).length = 79 := by decide +kernel
theorem pr_408 : (pr 408).length = 80 := by decide +kernel
theorem pr_short {t : Nat} (h : t < 408) : (pr t).length < 80 := by
  have := pr_mono (show t ≤ 407 by omega)
  rw [pr_407] at this
  omega
theorem pr_range : ∀ (t : Nat), ∀ p ∈ pr t, 2 ≤ p ∧ p < t + 2
  | 0, p, h => by simp [pr] at h
  | t + 1, p, h => by
    unfold pr pstep at h
    split at h
    · simp at h
      rcases h with h | rfl
      · have := pr_range t p h; omega
      · omega
    · have := pr_range t p h; omega

/-! words of 32 bits -/
def half (m : Nat) : Nat := m / 2 + m % 2 * 2147483648
def turn : Nat → Nat → Nat
  | 0, m => m
  | n + 1, m => half (turn n m)
def down : Nat → Nat → Nat
  | 0, m => m
  | n + 1, m => down n m / 2
theorem half_lt {m : Nat} (h : m < 4294967296) : half m < 4294967296 := by unfold half; omega
theorem turn_lt {m : Nat} (h : m < 4294967296) : ∀ n, turn n m < 4294967296
  | 0 => h
  | n + 1 => half_lt (turn_lt h n)
theorem down_lt {m : Nat} (h : m < 4294967296) : ∀ n, down n m < 4294967296
  | 0 => h
  | n + 1 => by have := down_lt h n; unfold down; omega
def lastOf (c : Nat) (sh : Bool) (m : Nat) : Nat := if sh then down c m else turn c m
def mixed (a b c : Nat) (sh : Bool) (m : Nat) : Nat := turn a m ^^^ turn b m ^^^ lastOf c sh m
theorem lastOf_lt {m : Nat} (h : m < 4294967296) (c : Nat) (sh : Bool) : lastOf c sh m < 4294967296 := by
  unfold lastOf
  split
  · exact down_lt h c
  · exact turn_lt h c
theorem xor_lt {a b : Nat} (ha : a < 4294967296) (hb : b < 4294967296) : a ^^^ b < 4294967296 := Nat.xor_lt_two_pow (n := 32) ha hb
theorem and_lt {a b : Nat} (ha : a < 4294967296) : a &&& b < 4294967296 := Nat.lt_of_le_of_lt Nat.and_le_left ha
theorem mixed_lt {m : Nat} (h : m < 4294967296) (a b c : Nat) (sh : Bool) : mixed a b c sh m < 4294967296 := xor_lt (xor_lt (turn_lt h a) (turn_lt h b)) (lastOf_lt h c sh)
def sig0 (m : Nat) : Nat := mixed 7 18 3 true m
def sig1 (m : Nat) : Nat := mixed 17 19 10 true m
def big0 (m : Nat) : Nat := mixed 2 13 22 false m
def big1 (m : Nat) : Nat := mixed 6 11 25 false m
/-- The k first bytes of word t. -/
def wordIn (b : List UInt8) (t : Nat) : Nat → Nat
  | 0 => 0
  | k + 1 => wordIn b t k * 256 + (b.getD (4 * t + k) 0).toNat
theorem wordIn_lt (b : List UInt8) (t : Nat) : ∀ k, wordIn b t k < 256 ^ k
  | 0 => by simp [wordIn]
  | k + 1 => by
    have h := wordIn_lt b t k
    have h2 := (b.getD (4 * t + k) 0).toNat_lt
    simp only [wordIn, Nat.pow_succ]
    omega
def sched1 (b : List UInt8) : Nat → List Nat
  | 0 => []
  | t + 1 => sched1 b t ++ [wordIn b t 4]
def next (w : List Nat) (u : Nat) : Nat := (w.getD u 0 + sig0 (w.getD (u + 1) 0) + w.getD (u + 9) 0 + sig1 (w.getD (u + 14) 0)) % 4294967296
def sched2 (b : List UInt8) : Nat → List Nat
  | 0 => sched1 b 16
  | u + 1 => sched2 b u ++ [next (sched2 b u) u]
theorem sched1_len (b : List UInt8) : ∀ t, (sched1 b t).length = t
  | 0 => rfl
  | t + 1 => by simp [sched1, sched1_len b t]
theorem sched2_len (b : List UInt8) : ∀ u, (sched2 b u).length = 16 + u
  | 0 => sched1_len b 16
  | u + 1 => by simp [sched2, sched2_len b u]; omega
def All32 (l : List Nat) : Prop := ∀ x ∈ l, x < 4294967296
theorem All32.at_ {l : List Nat} (h : All32 l) (i : Nat) : l.getD i 0 < 4294967296 := by
  rw [List.getD_eq_getElem?_getD]
  cases hq : l[i]? with
  | none => simp
  | some x => exact h x (List.mem_of_getElem? hq)
theorem All32.snoc {l : List Nat} {x : Nat} (h : All32 l) (hx : x < 4294967296) : All32 (l ++ [x]) := by
  intro y hy
  rcases List.mem_append.1 hy with h1 | h1
  · exact h y h1
  · simp at h1
    subst h1
    exact hx
theorem sched1_32 (b : List UInt8) : ∀ t, All32 (sched1 b t)
  | 0 => fun x h => by simp [sched1] at h
  | t + 1 => (sched1_32 b t).snoc (by have := wordIn_lt b t 4; simpa using this)
theorem sched2_32 (b : List UInt8) : ∀ u, All32 (sched2 b u)
  | 0 => sched1_32 b 16
  | u + 1 => (sched2_32 b u).snoc (Nat.mod_lt _ (by omega))
def stepX (k w : Nat) (r : List Nat) : Nat :=
  (r.getD 7 0 + big1 (r.getD 4 0) + ((r.getD 4 0 &&& r.getD 5 0) ^^^ ((4294967295 ^^^ r.getD 4 0) &&& r.getD 6 0)) + k + w) % 4294967296
def stepY (r : List Nat) : Nat :=
  (big0 (r.getD 0 0) + ((r.getD 0 0 &&& r.getD 1 0) ^^^ (r.getD 0 0 &&& r.getD 2 0) ^^^ (r.getD 1 0 &&& r.getD 2 0))) % 4294967296
def step (k w : Nat) (r : List Nat) : List Nat :=
  [(stepX k w r + stepY r) % 4294967296, r.getD 0 0, r.getD 1 0, r.getD 2 0, (r.getD 3 0 + stepX k w r) % 4294967296, r.getD 4 0, r.getD 5 0, r.getD 6 0]
def steps (K W : List Nat) (s : List Nat) : Nat → List Nat
  | 0 => s
  | t + 1 => step (K.getD t 0) (W.getD t 0) (steps K W s t)
theorem step_32 {r : List Nat} (h : All32 r) (k w : Nat) : All32 (step k w r) := by
  intro x hx
  have h0 := h.at_ 0; have h1 := h.at_ 1; have h2 := h.at_ 2; have h4 := h.at_ 4; have h5 := h.at_ 5; have h6 := h.at_ 6
  simp only [step, List.mem_cons, List.not_mem_nil, or_false] at hx
  rcases hx with rfl | rfl | rfl | rfl | rfl | rfl | rfl | rfl <;> first | assumption | exact Nat.mod_lt _ (by omega)
theorem steps_32 {s : List Nat} (h : All32 s) (K W : List Nat) : ∀ t, All32 (steps K W s t)
  | 0 => h
  | t + 1 => step_32 (steps_32 h K W t) _ _
theorem steps_len {s : List Nat} (h : s.length = 8) (K W : List Nat) : ∀ t, (steps K W s t).length = 8
  | 0 => h
  | _ + 1 => rfl
def plus (r s : List Nat) : Nat → List Nat
  | 0 => []
  | i + 1 => plus r s i ++ [(r.getD i 0 + s.getD i 0) % 4294967296]
theorem plus_len (r s : List Nat) : ∀ i, (plus r s i).length = i
  | 0 => rfl
  | i + 1 => by simp [plus, plus_len r s i]
theorem plus_32 (r s : List Nat) : ∀ i, All32 (plus r s i)
  | 0 => fun x h => by simp [plus] at h
  | i + 1 => (plus_32 r s i).snoc (Nat.mod_lt _ (by omega))
/-- A state behind a block. -/
def block (K s : List Nat) (b : List UInt8) : List Nat := plus (steps K (sched2 b 48) s 64) s 8
theorem block_len (K s : List Nat) (b : List UInt8) : (block K s b).length = 8 := plus_len _ _ 8
theorem block_32 (K s : List Nat) (b : List UInt8) : All32 (block K s b) := plus_32 _ _ 8

/-! digests -/
def rem (n : Nat) : Nat → Nat
  | 0 => n
  | j + 1 => rem n j / 256
/-- The k lowest bytes of a number, the highest first. -/
def be : Nat → Nat → List UInt8
  | 0, _ => []
  | k + 1, n => UInt8.ofNat (rem n k % 256) :: be k n
theorem be_len : ∀ k n, (be k n).length = k
  | 0, _ => rfl
  | k + 1, n => by simp [be, be_len k]
theorem be_set (N j n : Nat) (hj : j < N) : (List.replicate (N - j) 0 ++ be j n).set (N - j - 1) (UInt8.ofNat (rem n j % 256)) = List.replicate (N - (j + 1)) 0 ++ be (j + 1) n := by
  obtain ⟨d, hd⟩ : ∃ d, N - j = d + 1 := ⟨N - j - 1, by omega⟩
  have h2 : N - (j + 1) = d := by omega
  rw [hd, h2, List.replicate_succ', List.append_assoc, List.set_append_right _ _ (by simp)]
  simp [be]
def zeros (n : Nat) : Nat := (64 - (n + 9) % 64) % 64
/-- The message, filled. -/
def full (d : List UInt8) : List UInt8 := d ++ [128] ++ List.replicate (zeros d.length) 0 ++ be 8 (8 * d.length)
theorem full_len (d : List UInt8) : (full d).length % 64 = 0 := by
  unfold full zeros
  simp only [List.length_append, List.length_cons, List.length_nil, List.length_replicate, be_len]
  omega
def states (K F : List Nat) (all : List UInt8) : Nat → List Nat
  | 0 => F
  | t + 1 => block K (states K F all t) ((all.drop (64 * t)).take 64)
theorem states_len {F : List Nat} (h : F.length = 8) (K : List Nat) (all : List UInt8) : ∀ t, (states K F all t).length = 8
  | 0 => h
  | _ + 1 => block_len _ _ _
theorem states_32 {F : List Nat} (h : All32 F) (K : List Nat) (all : List UInt8) : ∀ t, All32 (states K F all t)
  | 0 => h
  | _ + 1 => block_32 _ _ _
def digest (s : List Nat) : Nat → List UInt8
  | 0 => []
  | i + 1 => digest s i ++ be 4 (s.getD i 0)
theorem digest_len (s : List Nat) : ∀ i, (digest s i).length = 4 * i
  | 0 => rfl
  | i + 1 => by simp [digest, digest_len s i, be_len]; omega
def sum (K F : List Nat) (d : List UInt8) : List UInt8 := digest (states K F (full d) ((full d).length / 64)) 8
theorem sum_len (K F : List Nat) (d : List UInt8) : (sum K F d).length = 32 := digest_len _ 8

/-! the words -/
def tops (k : Nat) : Nat → List Nat
  | 0 => []
  | i + 1 => tops k i ++ [root (((pr 408).getD i 0 : Nat) : Int) k / 4294967296]
theorem tops_len (k : Nat) : ∀ i, (tops k i).length = i
  | 0 => rfl
  | i + 1 => by simp [tops, tops_len k i]
theorem tops_32 (k : Nat) : ∀ i, All32 (tops k i)
  | 0 => fun x h => by simp [tops] at h
  | i + 1 => (tops_32 k i).snoc (by have := root_lt (((pr 408).getD i 0 : Nat) : Int) k; omega)
def sum256 (d : List UInt8) : List UInt8 := sum (tops 3 64) (tops 2 8) d

/-! names -/
def hexd (n : Nat) : UInt8 := if n < 10 then UInt8.ofNat (48 + n) else UInt8.ofNat (87 + n)
def hexs (h : List UInt8) : Nat → List UInt8
  | 0 => []
  | i + 1 => hexs h i ++ [hexd ((h.getD i 0).toNat / 16)] ++ [hexd ((h.getD i 0).toNat % 16)]
theorem hexs_len (h : List UInt8) : ∀ i, (hexs h i).length = 2 * i
  | 0 => rfl
  | i + 1 => by simp [hexs, hexs_len h i]; omega
def nameOf (d : List UInt8) : List UInt8 := hexs (sum256 d) 4
theorem nameOf_len (d : List UInt8) : (nameOf d).length = 8 := hexs_len _ 4
end Sha
end Go.Proofs.YtgalhnobckoneaaGreatDoor
