/- IDS, plainly: what a domain, a path, an agent's path, a selector, an id is, on lists of bytes. -/
import Derived.Lib.Split
import Derived.Lib.SplitLaws
import Derived.Lib.IndexBytes
import Derived.Lib.SlTrimSet
namespace Go.Proofs.YtgalhnobckoneaaGreatDoor
namespace Ids

abbrev Txt := List UInt8
def small (c : UInt8) : Bool := decide (97 ≤ c.toNat ∧ c.toNat ≤ 122)
def digit (c : UInt8) : Bool := decide (48 ≤ c.toNat ∧ c.toNat ≤ 57)
def inner (c : UInt8) : Bool := small c || digit c || c == 46 || c == 45
def named (c : UInt8) : Bool := inner c || decide (65 ≤ c.toNat ∧ c.toNat ≤ 90) || c == 95
def seen (c : UInt8) : Bool := decide (33 ≤ c.toNat ∧ c.toNat ≤ 126)
/-- 'all': at least one byte, each of a kind. -/
def allOf (p : UInt8 → Bool) (l : Txt) : Bool := l.all p && !l.isEmpty
def dotty (c : UInt8) : Bool := c == 46 || c == 45
/-- Neither begins nor ends with '.' or '-'. -/
def edged (l : Txt) : Bool := (l.head?.map dotty).getD false || (l.getLast?.map dotty).getD false
def domain (l : Txt) : Bool := decide (l.length ≤ 16) && allOf inner l && !edged l
def segOk (w : Txt) : Bool := allOf named w && !(w == [46]) && !(w == [46, 46])
/-- The pieces between the bytes 47. -/
def pieces : Txt → List Txt
  | [] => [[]]
  | c :: t => if c = 47 then [] :: pieces t else match pieces t with
    | [] => [[c]]
    | w :: ws => (c :: w) :: ws
theorem pieces_ne : ∀ l, pieces l ≠ []
  | [] => by simp [pieces]
  | c :: t => by
    unfold pieces
    split
    · simp
    · split <;> simp
theorem pieces_none {l : Txt} (h : 47 ∉ l) : pieces l = [l] := by
  induction l with
  | nil => rfl
  | cons c t ih =>
    have hc : c ≠ 47 := fun e => h (by simp [e])
    have ht : 47 ∉ t := fun e => h (by simp [e])
    unfold pieces
    rw [if_neg hc, ih ht]
theorem pieces_cut {l : Txt} (h : 47 ∉ l) (r : Txt) : pieces (l ++ 47 :: r) = l :: pieces r := by
  induction l with
  | nil => simp [pieces]
  | cons c t ih =>
    have hc : c ≠ 47 := fun e => h (by simp [e])
    have ht : 47 ∉ t := fun e => h (by simp [e])
    rw [List.cons_append, pieces, if_neg hc, ih ht]
def segsOk (l : Txt) : Bool := (pieces l).all segOk
def path (l : Txt) : Bool := match l with
  | [] => false
  | c :: t => decide (t.length + 1 ≤ 40) && c == 47 && segsOk t
def agentPre : Txt := [47, 97, 103, 101, 110, 116, 47]
def agent (l : Txt) : Bool := agentPre.isPrefixOf l && path l && !(l.drop 7).contains 47
/-- The place of the first byte c, or the length. -/
def till (c : UInt8) (l : Txt) : Nat := (l.takeWhile (· != c)).length
theorem till_le (c : UInt8) (l : Txt) : till c l ≤ l.length := by
  unfold till
  have := (List.takeWhile_sublist (· != c) (l := l)).length_le
  exact this
def selector (l : Txt) : Bool := decide (till 58 l < l.length) && decide (till 58 l ≤ 8) && allOf small (l.take (till 58 l)) && decide (l.length ≤ till 58 l + 1 + 16) && allOf seen (l.drop (till 58 l + 1))
def scheme : Txt := [115, 112, 105, 102, 102, 101, 58, 47, 47]
/-- An id's domain and path. -/
def parse (l : Txt) : Option (Txt × Txt) :=
  if scheme.isPrefixOf l && domain ((l.drop 9).take (till 47 (l.drop 9))) && path ((l.drop 9).drop (till 47 (l.drop 9))) then some ((l.drop 9).take (till 47 (l.drop 9)), (l.drop 9).drop (till 47 (l.drop 9))) else none

/- The library's split at one byte is 'pieces'. -/
theorem till_cons (c b : UInt8) (l : Txt) : till c (b :: l) = if b = c then 0 else till c l + 1 := by
  unfold till
  by_cases h : b = c
  · simp [h]
  · simp [h]
theorem indexByte_till (c : UInt8) : ∀ l : Txt, Lib.indexByte l c = if till c l < l.length then (till c l : Int) else -1
  | [] => by simp [Lib.indexByte, till]
  | b :: l => by
    have ih := indexByte_till c l
    unfold Lib.indexByte
    rw [till_cons]
    by_cases h : b = c
    · simp [h]
    · have hb : (b == c) = false := by simp [h]
      rw [hb, if_neg h, List.length_cons]
      simp only [Bool.false_eq_true, if_false]
      by_cases h2 : till c l < l.length
      · rw [if_pos h2] at ih
        rw [ih, if_neg (by simp), if_pos (by omega)]
        omega
      · rw [if_neg h2] at ih
        rw [ih, if_pos (by simp), if_neg (by omega)]
theorem till_append {c : UInt8} {a : Txt} (h : c ∉ a) (r : Txt) : till c (a ++ c :: r) = a.length := by
  induction a with
  | nil => simp [till]
  | cons b t ih =>
    have hb : b ≠ c := fun e => h (by simp [e])
    have ht : c ∉ t := fun e => h (by simp [e])
    rw [List.cons_append, till_cons, if_neg hb, ih ht]
    simp
theorem till_none {c : UInt8} {l : Txt} (h : c ∉ l) : till c l = l.length := by
  induction l with
  | nil => rfl
  | cons b t ih =>
    have hb : b ≠ c := fun e => h (by simp [e])
    have ht : c ∉ t := fun e => h (by simp [e])
    rw [till_cons, if_neg hb, ih ht]
    simp
theorem till_lt {c : UInt8} {l : Txt} : till c l < l.length ↔ c ∈ l := by
  constructor
  · intro h
    apply Classical.byContradiction
    intro hn
    rw [till_none hn] at h
    omega
  · intro h
    obtain ⟨a, r, rfl, ha⟩ := List.eq_append_cons_of_mem h
    rw [till_append ha]
    simp
theorem till_not {c : UInt8} {l : Txt} : c ∉ l.take (till c l) := by
  by_cases h : c ∈ l
  · obtain ⟨a, r, rfl, ha⟩ := List.eq_append_cons_of_mem h
    rw [till_append ha, List.take_left']
    · exact ha
    · rfl
  · exact fun hm => h (List.mem_of_mem_take hm)
/-- What is said of the first place decides it. -/
theorem till_eq {c : UInt8} {l : Txt} {k : Nat} (hk : k ≤ l.length) (h1 : ∀ j, j < k → l[j]? ≠ some c) (h2 : k < l.length → l[k]? = some c) : till c l = k := by
  have hn : c ∉ l.take k := by
    intro hm
    obtain ⟨j, hj⟩ := List.mem_iff_getElem?.1 hm
    rw [List.getElem?_take] at hj
    split at hj
    · rename_i hjk
      exact h1 j hjk hj
    · cases hj
  by_cases h : k < l.length
  · have e : l = l.take k ++ c :: l.drop (k + 1) := by
      have hx := h2 h
      rw [List.getElem?_eq_getElem h] at hx
      injection hx with hx
      rw [← hx, ← List.drop_eq_getElem_cons h, List.take_append_drop]
    have := till_append hn (l.drop (k + 1))
    rw [← e, List.length_take] at this
    omega
  · have : k = l.length := by omega
    subst this
    rw [List.take_length] at hn
    exact till_none hn
theorem pieces_split (l : Txt) : Lib.splitK [47] 0 (l.count 47) l = pieces l := by
  obtain ⟨n, hn⟩ : ∃ n, l.length = n := ⟨_, rfl⟩
  induction n using Nat.strongRecOn generalizing l with
  | _ n ih =>
    by_cases h : 47 ∈ l
    · obtain ⟨a, r, rfl, ha⟩ := List.eq_append_cons_of_mem h
      have hc : (a ++ 47 :: r).count 47 = r.count 47 + 1 := by
        rw [List.count_append, List.count_cons_self, List.count_eq_zero.2 ha]
        omega
      have hi : Lib.index (a ++ 47 :: r) [47] = (a.length : Int) := by
        rw [Lib.index_one, indexByte_till, till_append ha]
        simp
      rw [hc, Lib.splitK, hi, if_neg (by simp), pieces_cut ha]
      rw [← ih r.length (by rw [← hn]; simp; omega) r rfl]
      congr 1
      · simp
      · congr 1
        simp
    · rw [List.count_eq_zero.2 h, pieces_none h]
      rfl
theorem dropWhile_id {p : UInt8 → Bool} : ∀ {l : Txt}, (l.head?.map p).getD false = false → l.dropWhile p = l
  | [], _ => rfl
  | b :: l, h => by
    simp at h
    simp [h]
theorem dropWhile_lt {p : UInt8 → Bool} : ∀ {l : Txt}, (l.head?.map p).getD false = true → (l.dropWhile p).length < l.length
  | [], h => by simp at h
  | b :: l, h => by
    simp at h
    have := (List.dropWhile_sublist p (l := l)).length_le
    simp [h]
    omega
theorem dotty_contains : (fun c => ([46, 45] : Txt).contains c) = dotty := by
  funext c
  cases h1 : (c == 46) <;> cases h2 : (c == 45) <;> simp_all [dotty]
/-- 'strings.Trim(s, ".-") == s'. -/
theorem trim_same (l : Txt) : (Lib.trimS l [46, 45] = l) ↔ edged l = false := by
  have e2 : ∀ l : Txt, Lib.trimLeftS l [46, 45] = l.dropWhile dotty := fun l => by unfold Lib.trimLeftS; rw [dotty_contains]
  have e3 : ∀ l : Txt, Lib.trimRightS l [46, 45] = (l.reverse.dropWhile dotty).reverse := fun l => by unfold Lib.trimRightS; rw [dotty_contains]
  unfold Lib.trimS edged
  rw [e2, e3]
  have hrev : (l.getLast?.map dotty).getD false = (l.reverse.head?.map dotty).getD false := by rw [List.head?_reverse]
  rw [hrev]
  cases h2 : (l.reverse.head?.map dotty).getD false
  · rw [dropWhile_id h2, List.reverse_reverse]
    cases h1 : (l.head?.map dotty).getD false
    · rw [dropWhile_id h1]
      simp
    · have := dropWhile_lt h1
      constructor
      · intro e
        rw [e] at this
        omega
      · intro e
        simp at e
  · have h3 := dropWhile_lt h2
    constructor
    · intro e
      have h4 := (List.dropWhile_sublist dotty (l := (l.reverse.dropWhile dotty).reverse)).length_le
      rw [e] at h4
      simp at h3 h4
      omega
    · intro e
      simp at e
/-- The reference's lists of letters. -/
def lInner : Txt := [97, 98, 99, 100, 101, 102, 103, 104, 105, 106, 107, 108, 109, 110, 111, 112, 113, 114, 115, 116, 117, 118, 119, 120, 121, 122, 48, 49, 50, 51, 52, 53, 54, 55, 56, 57, 46, 45]
def lNamed : Txt := [97, 98, 99, 100, 101, 102, 103, 104, 105, 106, 107, 108, 109, 110, 111, 112, 113, 114, 115, 116, 117, 118, 119, 120, 121, 122, 65, 66, 67, 68, 69, 70, 71, 72, 73, 74, 75, 76, 77, 78, 79, 80, 81, 82, 83, 84, 85, 86, 87, 88, 89, 90, 48, 49, 50, 51, 52, 53, 54, 55, 56, 57, 46, 45, 95]
def lSmall : Txt := [97, 98, 99, 100, 101, 102, 103, 104, 105, 106, 107, 108, 109, 110, 111, 112, 113, 114, 115, 116, 117, 118, 119, 120, 121, 122]
theorem all_u8 {p : UInt8 → Bool} (h : (List.range 256).all (fun k => p (UInt8.ofNat k)) = true) (c : UInt8) : p c = true := by
  have := List.all_eq_true.1 h c.toNat (List.mem_range.2 c.toNat_lt)
  simpa using this
theorem inner_list (c : UInt8) : lInner.contains c = inner c := by
  have := all_u8 (p := fun c => lInner.contains c == inner c) (by decide +kernel) c
  simpa using this
theorem named_list (c : UInt8) : lNamed.contains c = named c := by
  have := all_u8 (p := fun c => lNamed.contains c == named c) (by decide +kernel) c
  simpa using this
theorem small_list (c : UInt8) : lSmall.contains c = small c := by
  have := all_u8 (p := fun c => lSmall.contains c == small c) (by decide +kernel) c
  simpa using this
theorem dotty_list (c : UInt8) : ([46, 45] : Txt).contains c = dotty c := congrFun dotty_contains c
/-- 'of': 1 to most bytes, all of some. -/
def ofOf (some : Txt) (most : Nat) (l : Txt) : Bool := l.all (fun c => some.contains c) && decide (1 ≤ l.length) && decide (l.length ≤ most)
theorem isEmpty_len (l : Txt) : (!l.isEmpty) = decide (1 ≤ l.length) := by cases l <;> simp
theorem of_inner (l : Txt) : ofOf lInner 16 l = (decide (l.length ≤ 16) && allOf inner l) := by
  unfold ofOf allOf
  simp only [inner_list, isEmpty_len]
  cases l.all inner <;> cases decide (1 ≤ l.length) <;> cases decide (l.length ≤ 16) <;> rfl
theorem of_named {l : Txt} (h : l.length ≤ 40) : ofOf lNamed 40 l = allOf named l := by
  unfold ofOf allOf
  simp only [named_list, isEmpty_len, h, decide_true, Bool.and_true]
theorem of_small (l : Txt) : ofOf lSmall 8 l = (decide (l.length ≤ 8) && allOf small l) := by
  unfold ofOf allOf
  simp only [small_list, isEmpty_len]
  cases l.all small <;> cases decide (1 ≤ l.length) <;> cases decide (l.length ≤ 8) <;> rfl
end Ids
end Go.Proofs.YtgalhnobckoneaaGreatDoor
