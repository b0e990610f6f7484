/- SETS of texts, plainly: sorted, each once. -/
import Derived.Test.YtmbpnkacggngkaaGreatDoorIdsSpec
import Derived.Lib.SlicesCompact
import Derived.Sort.Walk0
namespace Go.Proofs.YtmbpnkacggngkaaGreatDoor
namespace Ids

theorem lt_irr (a : Txt) : ¬ a < a := List.lt_irrefl a
theorem lt_tr {a b c : Txt} (h : a < b) (k : b < c) : a < c := List.lt_trans h k
theorem lt_as {a b : Txt} (h : a < b) : ¬ b < a := List.lt_asymm h
theorem lt_tri (a b : Txt) : a < b ∨ a = b ∨ b < a := by
  by_cases h1 : a < b
  · exact .inl h1
  · by_cases h2 : b < a
    · exact .inr (.inr h2)
    · exact .inr (.inl (List.le_antisymm (List.not_lt.1 h2) (List.not_lt.1 h1)))
/-- Two lists that rise and have the same members. -/
theorem rise_eq : ∀ (a b : List Txt), a.Pairwise (· < ·) → b.Pairwise (· < ·) → (∀ x, x ∈ a ↔ x ∈ b) → a = b
  | [], [], _, _, _ => rfl
  | [], y :: b, _, _, h => by have := (h y).2 (by simp); simp at this
  | x :: a, [], _, _, h => by have := (h x).1 (by simp); simp at this
  | x :: a, y :: b, ha, hb, h => by
    have ha' := List.pairwise_cons.1 ha
    have hb' := List.pairwise_cons.1 hb
    have hxy : x = y := by
      have h1 := (h x).1 (by simp)
      have h2 := (h y).2 (by simp)
      rcases List.mem_cons.1 h1 with h1 | h1
      · exact h1
      · rcases List.mem_cons.1 h2 with h2 | h2
        · exact h2.symm
        · exact absurd (hb'.1 x h1) (lt_as (ha'.1 y h2))
    subst hxy
    rw [rise_eq a b ha'.2 hb'.2 fun z => ?_]
    constructor
    · intro hz
      have := (h z).1 (by simp [hz])
      rcases List.mem_cons.1 this with e | e
      · subst e; exact absurd (ha'.1 z hz) (lt_irr z)
      · exact e
    · intro hz
      have := (h z).2 (by simp [hz])
      rcases List.mem_cons.1 this with e | e
      · subst e; exact absurd (hb'.1 z hz) (lt_irr z)
      · exact e
/-- The set of a list. -/
def uniq (L : List Txt) : List Txt := Lib.compact (L.mergeSort fun x y => decide (x ≤ y))
theorem upto_rise {d : Array Txt} (hs : ∀ i j, i < j → j < d.size → ¬ d[j]! < d[i]!) : ∀ m, m ≤ d.size → (Lib.compactUpTo d m).Pairwise (· < ·) ∧ (∀ x, x ∈ Lib.compactUpTo d m ↔ ∃ j, j < m ∧ d[j]! = x) := by
  intro m
  induction m with
  | zero => intro _; simp [Lib.compactUpTo]
  | succ m ih =>
    intro hm
    obtain ⟨h1, h2⟩ := ih (by omega)
    rw [Lib.compactUpTo_succ]
    by_cases hk : Lib.keeps d m = true
    · rw [if_pos hk]
      have hnew : ∀ y ∈ Lib.compactUpTo d m, y < d[m]! := by
        intro y hy
        obtain ⟨j, hj, rfl⟩ := (h2 y).1 hy
        rcases lt_tri d[j]! d[m]! with h | h | h
        · exact h
        · exfalso
          by_cases h0 : m = 0
          · omega
          · have hne : d[m]! ≠ d[m - 1]! := by
              intro e
              have := Lib.keeps_neg (by omega) e
              rw [this] at hk
              cases hk
            rcases lt_tri d[m - 1]! d[m]! with g | g | g
            · by_cases hj1 : j = m - 1
              · subst hj1; exact hne h.symm
              · exact hs j (m - 1) (by omega) (by omega) (by rw [h]; exact g)
            · exact hne g.symm
            · exact hs (m - 1) m (by omega) (by omega) g
        · exact absurd h (hs j m hj (by omega))
      refine ⟨?_, fun x => ?_⟩
      · rw [List.pairwise_append]
        exact ⟨h1, by simp, fun a ha b hb => by simp at hb; subst hb; exact hnew a ha⟩
      · rw [List.mem_append, h2]
        constructor
        · rintro (⟨j, hj, rfl⟩ | h)
          · exact ⟨j, by omega, rfl⟩
          · simp at h; exact ⟨m, by omega, h.symm⟩
        · rintro ⟨j, hj, rfl⟩
          by_cases e : j = m
          · subst e; exact .inr (by simp)
          · exact .inl ⟨j, by omega, rfl⟩
    · rw [if_neg hk, List.append_nil]
      refine ⟨h1, fun x => ?_⟩
      rw [h2]
      constructor
      · rintro ⟨j, hj, rfl⟩
        exact ⟨j, by omega, rfl⟩
      · rintro ⟨j, hj, rfl⟩
        by_cases e : j = m
        · subst e
          by_cases h0 : j = 0
          · subst h0
            exact absurd (Lib.keeps_lt_one d 0 (by omega)) hk
          · refine ⟨j - 1, by omega, ?_⟩
            apply Classical.byContradiction
            intro hne
            exact hk (Lib.keeps_pos (fun e => hne e.symm))
        · exact ⟨j, by omega, rfl⟩
theorem uniq_spec (L : List Txt) : (uniq L).Pairwise (· < ·) ∧ ∀ x, x ∈ uniq L ↔ x ∈ L := by
  have hp := List.pairwise_mergeSort (le := fun x y : Txt => decide (x ≤ y)) (fun a b c h1 h2 => by simp only [decide_eq_true_eq] at *; exact List.le_trans h1 h2) (fun a b => by simp only [Bool.or_eq_true, decide_eq_true_eq]; exact List.le_total a b) L
  have hm := fun x => (List.mergeSort_perm L fun x y : Txt => decide (x ≤ y)).mem_iff (a := x)
  unfold uniq
  generalize L.mergeSort (fun x y => decide (x ≤ y)) = Z at *
  have key := upto_rise (d := Z.toArray) (fun i j hij hj => by
    have hj' : j < Z.length := by simpa using hj
    have := List.pairwise_iff_getElem.1 hp i j (by omega) hj' hij
    simp only [decide_eq_true_eq] at this
    rw [getElem!_pos _ j hj, getElem!_pos _ i (by omega)]
    exact List.not_lt.2 this) Z.length (by simp)
  unfold Lib.compact
  refine ⟨key.1, fun x => ?_⟩
  rw [key.2, ← hm]
  constructor
  · rintro ⟨j, hj, rfl⟩
    rw [getElem!_pos _ j (by simpa using hj)]
    exact List.getElem_mem _
  · intro hx
    obtain ⟨j, hj, rfl⟩ := List.mem_iff_getElem.1 hx
    exact ⟨j, hj, by rw [getElem!_pos _ j (by simpa using hj)]; rfl⟩
/-- What the reference's outer loop keeps. -/
structure Part (L out : List Txt) : Prop where
  rise : out.Pairwise (· < ·)
  sub : ∀ x ∈ out, x ∈ L
  low : ∀ x ∈ L, ∀ y ∈ out, ¬ y < x → x ∈ out
theorem Part.nil (L : List Txt) : Part L [] := ⟨by simp, by simp, by simp⟩
/-- May x be the next one? -/
def cand (out : List Txt) (x : Txt) : Bool := match out.getLast? with
  | none => true
  | some y => decide (y < x)
theorem part_last {L out : List Txt} (h : Part L out) {y : Txt} (hy : out.getLast? = some y) : ∀ x ∈ out, x = y ∨ x < y := by
  intro x hx
  obtain ⟨ys, rfl⟩ := List.getLast?_eq_some_iff.1 hy
  rcases List.mem_append.1 hx with h1 | h1
  · exact .inr ((List.pairwise_append.1 h.rise).2.2 x h1 y (by simp))
  · simp at h1
    exact .inl h1
theorem Part.done {L out : List Txt} (h : Part L out) (hn : ∀ x ∈ L, cand out x = false) : out = uniq L := by
  obtain ⟨u1, u2⟩ := uniq_spec L
  refine rise_eq _ _ h.rise u1 fun x => ?_
  rw [u2]
  refine ⟨h.sub x, fun hx => ?_⟩
  have hc := hn x hx
  unfold cand at hc
  cases hl : out.getLast? with
  | none => rw [hl] at hc; cases hc
  | some y =>
    rw [hl] at hc
    simp only [decide_eq_false_iff_not] at hc
    exact h.low x hx y (List.mem_of_getLast? hl) hc
theorem Part.next {L out : List Txt} (h : Part L out) {b : Txt} (hb : b ∈ L) (hc : cand out b = true) (hmin : ∀ x ∈ L, cand out x = true → ¬ x < b) : Part L (out ++ [b]) := by
  have hlt : ∀ y ∈ out, y < b := by
    intro y hy
    unfold cand at hc
    cases hl : out.getLast? with
    | none => rw [List.getLast?_eq_none_iff.1 hl] at hy; cases hy
    | some z =>
      rw [hl] at hc
      simp only [decide_eq_true_eq] at hc
      rcases part_last h hl y hy with rfl | g
      · exact hc
      · exact lt_tr g hc
  refine ⟨?_, ?_, ?_⟩
  · rw [List.pairwise_append]
    exact ⟨h.rise, by simp, fun a ha c hcc => by simp at hcc; subst hcc; exact hlt a ha⟩
  · intro x hx
    rcases List.mem_append.1 hx with h1 | h1
    · exact h.sub x h1
    · simp at h1; subst h1; exact hb
  · intro x hx y hy hxy
    rcases List.mem_append.1 hy with h1 | h1
    · exact List.mem_append.2 (.inl (h.low x hx y h1 hxy))
    · simp at h1
      subst h1
      rw [List.mem_append]
      cases hcx : cand out x
      · left
        unfold cand at hcx
        cases hl : out.getLast? with
        | none => rw [hl] at hcx; cases hcx
        | some z =>
          rw [hl] at hcx
          simp only [decide_eq_false_iff_not] at hcx
          exact h.low x hx z (List.mem_of_getLast? hl) hcx
      · right
        rcases lt_tri x y with g | g | g
        · exact absurd g (hmin x hx hcx)
        · simp [g]
        · exact absurd g hxy
/-- How many may come yet. -/
def left_ (L out : List Txt) : Nat := (L.filter (cand out)).length
theorem filter_lt {p q : Txt → Bool} : ∀ {L : List Txt}, (∀ x ∈ L, q x = true → p x = true) → (∃ x ∈ L, p x = true ∧ q x = false) → (L.filter q).length < (L.filter p).length
  | [], _, ⟨x, hx, _⟩ => by cases hx
  | a :: L, h, ⟨x, hx, h1, h2⟩ => by
    have hle : (L.filter q).length ≤ (L.filter p).length := by
      have : ∀ L : List Txt, (∀ x ∈ L, q x = true → p x = true) → (L.filter q).length ≤ (L.filter p).length := by
        intro L
        induction L with
        | nil => intro _; simp
        | cons b L ih =>
          intro hh
          have i1 := ih (fun x hx => hh x (by simp [hx]))
          rw [List.filter_cons, List.filter_cons]
          cases hq : q b
          · cases hp : p b <;> simp <;> omega
          · rw [hh b (by simp) hq]; simp; omega
      exact this L fun x hx => h x (by simp [hx])
    rw [List.filter_cons, List.filter_cons]
    rcases List.mem_cons.1 hx with rfl | hx
    · rw [h1, h2]; simp; omega
    · have ih := filter_lt (L := L) (fun x hx => h x (by simp [hx])) ⟨x, hx, h1, h2⟩
      cases hq : q a
      · cases hp : p a <;> simp <;> omega
      · rw [h a (by simp) hq]; simp; omega
theorem left_lt {L out : List Txt} {b : Txt} (hb : b ∈ L) (hc : cand out b = true) : left_ L (out ++ [b]) < left_ L out := by
  have hcl : ∀ x, cand (out ++ [b]) x = decide (b < x) := fun x => by
    unfold cand
    rw [List.getLast?_append]
    simp
  refine filter_lt (fun x _ hx => ?_) ⟨b, hb, hc, by rw [hcl]; exact decide_eq_false (lt_irr b)⟩
  rw [hcl] at hx
  simp only [decide_eq_true_eq] at hx
  unfold cand at hc ⊢
  cases hl : out.getLast? with
  | none => rfl
  | some y =>
    rw [hl] at hc
    simp only [decide_eq_true_eq] at hc ⊢
    exact lt_tr hc hx
theorem left_le (L out : List Txt) : left_ L out ≤ L.length := List.length_filter_le _ _
/-- The set, or why not. -/
def setOf (L : List Txt) : Option (List Txt) × Nat := if L.all selector then (if 4 < (uniq L).length then (none, 4) else (some (uniq L), 0)) else (none, 13)
end Ids
end Go.Proofs.YtmbpnkacggngkaaGreatDoor
